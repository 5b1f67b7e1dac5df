/- The walks, part 3: each Go function returns what its plain twin returns. No condition beyond what each names. -/
import Derived.Test.YtaghjfegbooceaaDoorGWalk2
set_option linter.all false
namespace Go.VG
open Go.Proofs
attribute [local irreducible] W WL Sep FinP

theorem c_impl_Ring_bracketFault {w : World} {r_Table : (List (List (List Int)))} {v_r_Table : Value} (r_r_Table : (Ty.sl (Ty.sl (Ty.sl (Ty.i .i64)))).rep w v_r_Table r_Table) {res : (List Int)} (h : p_impl_Ring_bracketFault r_Table  = some res) :
    Ret Tryd.prog 84 #[(Value.agg #[v_r_Table])] w (fun v w' => ∃ (u0 : Value), v = u0 ∧ NilIff u0 res ∧ Ext w w' ∧ Sep w.heap.size w' [(Ty.sl (Ty.i .i64)).at u0 res]) := by
  unfold p_impl_Ring_bracketFault at h
  have hS0 : St w w [] := St.start w
  refine Ret.start (fn := Tryd.f84) Tryd.func84 rfl 97 rfl rfl ?_
  refine W.seq (W.region ?_)
  refine WL.box hS0 rfl (cs := [v_r_Table]) rfl rfl ?_
  intro b1 wd2 hS3 he4 hx5
  replace hS3 : St w wd2 [bx b1 [v_r_Table]] := hS3
  have hx6 := St.boxAt hS3 0 rfl
  have hE7 : Ext w wd2 := hS3.ext
  have hS8 : St wd2 wd2 [] := St.start wd2
  refine WL.val (Value.slice none 0 0) _ (op_assign rfl) rfl ?_
  refine WL.nil ?_
  refine W.seq (W.seq (W.region ?_))
  refine WL.val (Value.pointer (some ⟨b1, 0, none⟩)) _ (op_fieldAddr fd_26_0 rfl) rfl ?_
  refine WL.val v_r_Table _ (op_load one_22 rfl (BoxAt.cell (BoxAt.lift hS8.ext hx6) rfl)) rfl ?_
  have hr9 := inR_len (Ty.lift _ (Ext.trans hE7 hS8.ext) r_r_Table)
  refine WL.val (Value.int .i64 ((r_Table).length : Int)) _ (op_lenL sl_22 (Ty.lift _ (Ext.trans hE7 hS8.ext) r_r_Table) rfl) rfl ?_
  refine WL.val (Value.int .i64 (0 : Int)) _ (op_move rfl) rfl ?_
  refine WL.nil ?_
  show W _ _ _ _ _ _
  obtain ⟨res10, hres11, h⟩ := bs h
  refine W.blockLoop (fun fq wq => ∃ s, res10 = Res.fin s ∧ St wd2 wq []) ?_ ?_
  · refine W.forN (fun k (s : Unit) fq wq => fq 1 = (Value.pointer (some ⟨b1, 0, none⟩)) ∧ fq 13 = v_r_Table ∧ fq 14 = (Value.int .i64 ((r_Table).length : Int)) ∧ fq 15 = Value.int .i64 (k : Int) ∧ InR .i64 (k : Int) ∧ St wd2 wq []) hres11 ⟨rfl, rfl, rfl, rfl, (inL rfl), hS8⟩ ?_ ?_
    · intro k12 s850 ct13 f14 wd15 hk16 hb17 hI18 hbrk19 hret20
      obtain ⟨⟩ := s850
      replace hI18 : f14 1 = (Value.pointer (some ⟨b1, 0, none⟩)) ∧ f14 13 = v_r_Table ∧ f14 14 = (Value.int .i64 ((r_Table).length : Int)) ∧ f14 15 = Value.int .i64 (k12 : Int) ∧ InR .i64 (k12 : Int) ∧ St wd2 wd15 [] := hI18
      replace hb17 : p_impl_Ring_bracketFault_L1 r_Table k12  = some ct13 := hb17
      unfold p_impl_Ring_bracketFault_L1 at hb17
      obtain ⟨hf21, hf22, hf23, hf24, hr25, hS26⟩ := hI18
      refine W.seq (W.region ?_)
      refine WL.val (Value.bool (decide ((k12 : Int) < ((r_Table).length : Int)))) _ (op_lss hf24 hf23) rfl ?_
      have hl27 : (k12 : Int) < ((r_Table).length : Int) := by omega
      refine WL.nil ?_
      refine W.seq ?_
      refine W.condT (decide ((k12 : Int) < ((r_Table).length : Int))) rfl (decide_eq_true hl27) ?_
      refine W.skip ?_
      refine W.seq ?_
      refine W.block ?_
      refine W.seq (W.region ?_)
      refine WL.val (Value.int .i64 (k12 : Int)) _ (op_move hf24) rfl ?_
      obtain ⟨x29, hx32, hb17⟩ := bs hb17
      obtain ⟨ha30, hb31, hx32⟩ := idx_some hx32
      refine WL.val (Value.pointer (some (elA v_r_Table ((k12 : Int)).toNat))) _ (op_idx sl_22 (Ty.lift _ (Ext.trans hE7 hS26.ext) r_r_Table) hf22 hf24 ha30 hb31) rfl ?_
      obtain ⟨u33, hc34, hr35⟩ := repSl.el r_r_Table hx32
      refine WL.val u33 _ (op_load one_41 rfl (Ext.cell (Ext.trans hE7 hS26.ext) hc34)) rfl ?_
      refine WL.val (Value.int .i64 (k12 : Int)) _ (op_assign rfl) rfl ?_
      refine WL.val u33 _ (op_assign rfl) rfl ?_
      refine WL.nil ?_
      refine W.seq (W.region ?_)
      refine WL.val (Value.pointer (some ⟨b1, 0, none⟩)) _ (op_fieldAddr fd_26_0 hf21) rfl ?_
      refine WL.val v_r_Table _ (op_load one_22 rfl (BoxAt.cell (BoxAt.lift hS26.ext hx6) rfl)) rfl ?_
      have hr36 := inR_len (Ty.lift _ (Ext.trans hE7 hS26.ext) r_r_Table)
      refine WL.val (Value.int .i64 ((r_Table).length : Int)) _ (op_lenL sl_22 (Ty.lift _ (Ext.trans hE7 hS26.ext) r_r_Table) rfl) rfl ?_
      refine WL.val (Value.int .i64 (0 : Int)) _ (op_move rfl) rfl ?_
      refine WL.nil ?_
      show W _ _ _ _ _ _
      obtain ⟨res37, hres38, hb17⟩ := bs hb17
      refine W.blockLoop (fun fq wq => ∃ s, res37 = Res.fin s ∧ fq 1 = (Value.pointer (some ⟨b1, 0, none⟩)) ∧ fq 13 = v_r_Table ∧ fq 14 = (Value.int .i64 ((r_Table).length : Int)) ∧ fq 15 = (Value.int .i64 (k12 : Int)) ∧ St wd2 wq []) ?_ ?_
      · refine W.forN (fun k (s : Unit) fq wq => fq 1 = (Value.pointer (some ⟨b1, 0, none⟩)) ∧ fq 3 = (Value.int .i64 (k12 : Int)) ∧ fq 4 = u33 ∧ fq 13 = v_r_Table ∧ fq 14 = (Value.int .i64 ((r_Table).length : Int)) ∧ fq 15 = (Value.int .i64 (k12 : Int)) ∧ fq 21 = v_r_Table ∧ fq 22 = (Value.int .i64 ((r_Table).length : Int)) ∧ fq 23 = Value.int .i64 (k : Int) ∧ InR .i64 (k : Int) ∧ St wd2 wq []) hres38 ⟨hf21, rfl, rfl, hf22, hf23, hf24, rfl, rfl, rfl, (inL rfl), hS26⟩ ?_ ?_
        · intro k39 s822 ct40 f41 wd42 hk43 hb44 hI45 hbrk46 hret47
          obtain ⟨⟩ := s822
          replace hI45 : f41 1 = (Value.pointer (some ⟨b1, 0, none⟩)) ∧ f41 3 = (Value.int .i64 (k12 : Int)) ∧ f41 4 = u33 ∧ f41 13 = v_r_Table ∧ f41 14 = (Value.int .i64 ((r_Table).length : Int)) ∧ f41 15 = (Value.int .i64 (k12 : Int)) ∧ f41 21 = v_r_Table ∧ f41 22 = (Value.int .i64 ((r_Table).length : Int)) ∧ f41 23 = Value.int .i64 (k39 : Int) ∧ InR .i64 (k39 : Int) ∧ St wd2 wd42 [] := hI45
          replace hb44 : p_impl_Ring_bracketFault_L2 r_Table x29 k12 k39  = some ct40 := hb44
          unfold p_impl_Ring_bracketFault_L2 at hb44
          obtain ⟨hf48, hf49, hf50, hf51, hf52, hf53, hf54, hf55, hf56, hr57, hS58⟩ := hI45
          refine W.seq (W.region ?_)
          refine WL.val (Value.bool (decide ((k39 : Int) < ((r_Table).length : Int)))) _ (op_lss hf56 hf55) rfl ?_
          have hl59 : (k39 : Int) < ((r_Table).length : Int) := by omega
          refine WL.nil ?_
          refine W.seq ?_
          refine W.condT (decide ((k39 : Int) < ((r_Table).length : Int))) rfl (decide_eq_true hl59) ?_
          refine W.skip ?_
          refine W.seq ?_
          refine W.block ?_
          refine W.seq (W.region ?_)
          refine WL.val (Value.int .i64 (k39 : Int)) _ (op_move hf56) rfl ?_
          obtain ⟨x61, hx64, hb44⟩ := bs hb44
          obtain ⟨ha62, hb63, hx64⟩ := idx_some hx64
          refine WL.val (Value.pointer (some (elA v_r_Table ((k39 : Int)).toNat))) _ (op_idx sl_22 (Ty.lift _ (Ext.trans hE7 hS58.ext) r_r_Table) hf54 hf56 ha62 hb63) rfl ?_
          obtain ⟨u65, hc66, hr67⟩ := repSl.el r_r_Table hx64
          refine WL.val u65 _ (op_load one_41 rfl (Ext.cell (Ext.trans hE7 hS58.ext) hc66)) rfl ?_
          refine WL.val (Value.int .i64 (k39 : Int)) _ (op_assign rfl) rfl ?_
          refine WL.val u65 _ (op_assign rfl) rfl ?_
          refine WL.nil ?_
          refine W.seq (W.region ?_)
          refine WL.val (Value.pointer (some ⟨b1, 0, none⟩)) _ (op_fieldAddr fd_26_0 hf48) rfl ?_
          refine WL.val v_r_Table _ (op_load one_22 rfl (BoxAt.cell (BoxAt.lift hS58.ext hx6) rfl)) rfl ?_
          have hr68 := inR_len (Ty.lift _ (Ext.trans hE7 hS58.ext) r_r_Table)
          refine WL.val (Value.int .i64 ((r_Table).length : Int)) _ (op_lenL sl_22 (Ty.lift _ (Ext.trans hE7 hS58.ext) r_r_Table) rfl) rfl ?_
          refine WL.val (Value.int .i64 (0 : Int)) _ (op_move rfl) rfl ?_
          refine WL.nil ?_
          show W _ _ _ _ _ _
          obtain ⟨res69, hres70, hb44⟩ := bs hb44
          refine W.blockLoop (fun fq wq => ∃ s, res69 = Res.fin s ∧ fq 1 = (Value.pointer (some ⟨b1, 0, none⟩)) ∧ fq 3 = (Value.int .i64 (k12 : Int)) ∧ fq 4 = u33 ∧ fq 13 = v_r_Table ∧ fq 14 = (Value.int .i64 ((r_Table).length : Int)) ∧ fq 15 = (Value.int .i64 (k12 : Int)) ∧ fq 21 = v_r_Table ∧ fq 22 = (Value.int .i64 ((r_Table).length : Int)) ∧ fq 23 = (Value.int .i64 (k39 : Int)) ∧ St wd2 wq []) ?_ ?_
          · refine W.forN (fun k (s : Unit) fq wq => fq 1 = (Value.pointer (some ⟨b1, 0, none⟩)) ∧ fq 3 = (Value.int .i64 (k12 : Int)) ∧ fq 4 = u33 ∧ fq 5 = (Value.int .i64 (k39 : Int)) ∧ fq 6 = u65 ∧ fq 13 = v_r_Table ∧ fq 14 = (Value.int .i64 ((r_Table).length : Int)) ∧ fq 15 = (Value.int .i64 (k12 : Int)) ∧ fq 21 = v_r_Table ∧ fq 22 = (Value.int .i64 ((r_Table).length : Int)) ∧ fq 23 = (Value.int .i64 (k39 : Int)) ∧ fq 30 = (Value.int .i64 ((r_Table).length : Int)) ∧ fq 31 = Value.int .i64 (k : Int) ∧ InR .i64 (k : Int) ∧ St wd2 wq []) hres70 ⟨hf48, hf49, hf50, rfl, rfl, hf51, hf52, hf53, hf54, hf55, hf56, rfl, rfl, (inL rfl), hS58⟩ ?_ ?_
            · intro k71 s785 ct72 f73 wd74 hk75 hb76 hI77 hbrk78 hret79
              obtain ⟨⟩ := s785
              replace hI77 : f73 1 = (Value.pointer (some ⟨b1, 0, none⟩)) ∧ f73 3 = (Value.int .i64 (k12 : Int)) ∧ f73 4 = u33 ∧ f73 5 = (Value.int .i64 (k39 : Int)) ∧ f73 6 = u65 ∧ f73 13 = v_r_Table ∧ f73 14 = (Value.int .i64 ((r_Table).length : Int)) ∧ f73 15 = (Value.int .i64 (k12 : Int)) ∧ f73 21 = v_r_Table ∧ f73 22 = (Value.int .i64 ((r_Table).length : Int)) ∧ f73 23 = (Value.int .i64 (k39 : Int)) ∧ f73 30 = (Value.int .i64 ((r_Table).length : Int)) ∧ f73 31 = Value.int .i64 (k71 : Int) ∧ InR .i64 (k71 : Int) ∧ St wd2 wd74 [] := hI77
              replace hb76 : p_impl_Ring_bracketFault_L3 x29 k39 r_Table x61 k12 k71  = some ct72 := hb76
              unfold p_impl_Ring_bracketFault_L3 at hb76
              obtain ⟨hf80, hf81, hf82, hf83, hf84, hf85, hf86, hf87, hf88, hf89, hf90, hf91, hf92, hr93, hS94⟩ := hI77
              refine W.seq (W.region ?_)
              refine WL.val (Value.bool (decide ((k71 : Int) < ((r_Table).length : Int)))) _ (op_lss hf92 hf91) rfl ?_
              have hl95 : (k71 : Int) < ((r_Table).length : Int) := by omega
              refine WL.nil ?_
              refine W.seq ?_
              refine W.condT (decide ((k71 : Int) < ((r_Table).length : Int))) rfl (decide_eq_true hl95) ?_
              refine W.skip ?_
              refine W.seq ?_
              refine W.block ?_
              refine W.seq (W.region ?_)
              refine WL.val (Value.int .i64 (k71 : Int)) _ (op_move hf92) rfl ?_
              refine WL.val (Value.int .i64 (k71 : Int)) _ (op_assign rfl) rfl ?_
              refine WL.nil ?_
              refine W.seq (W.region ?_)
              refine WL.val (Value.pointer (some ⟨b1, 0, none⟩)) _ (op_fieldAddr fd_26_0 hf80) rfl ?_
              refine WL.val v_r_Table _ (op_load one_22 rfl (BoxAt.cell (BoxAt.lift hS94.ext hx6) rfl)) rfl ?_
              have hr97 := inR_len (Ty.lift _ (Ext.trans hE7 hS94.ext) r_r_Table)
              refine WL.val (Value.int .i64 ((r_Table).length : Int)) _ (op_lenL sl_22 (Ty.lift _ (Ext.trans hE7 hS94.ext) r_r_Table) rfl) rfl ?_
              refine WL.val (Value.int .i64 (0 : Int)) _ (op_move rfl) rfl ?_
              refine WL.nil ?_
              show W _ _ _ _ _ _
              obtain ⟨res98, hres99, hb76⟩ := bs hb76
              refine W.blockLoop (fun fq wq => ∃ s, res98 = Res.fin s ∧ fq 1 = (Value.pointer (some ⟨b1, 0, none⟩)) ∧ fq 3 = (Value.int .i64 (k12 : Int)) ∧ fq 4 = u33 ∧ fq 5 = (Value.int .i64 (k39 : Int)) ∧ fq 6 = u65 ∧ fq 13 = v_r_Table ∧ fq 14 = (Value.int .i64 ((r_Table).length : Int)) ∧ fq 15 = (Value.int .i64 (k12 : Int)) ∧ fq 21 = v_r_Table ∧ fq 22 = (Value.int .i64 ((r_Table).length : Int)) ∧ fq 23 = (Value.int .i64 (k39 : Int)) ∧ fq 30 = (Value.int .i64 ((r_Table).length : Int)) ∧ fq 31 = (Value.int .i64 (k71 : Int)) ∧ St wd2 wq []) ?_ ?_
              · refine W.forN (fun k (s : Unit) fq wq => fq 1 = (Value.pointer (some ⟨b1, 0, none⟩)) ∧ fq 3 = (Value.int .i64 (k12 : Int)) ∧ fq 4 = u33 ∧ fq 5 = (Value.int .i64 (k39 : Int)) ∧ fq 6 = u65 ∧ fq 7 = (Value.int .i64 (k71 : Int)) ∧ fq 13 = v_r_Table ∧ fq 14 = (Value.int .i64 ((r_Table).length : Int)) ∧ fq 15 = (Value.int .i64 (k12 : Int)) ∧ fq 21 = v_r_Table ∧ fq 22 = (Value.int .i64 ((r_Table).length : Int)) ∧ fq 23 = (Value.int .i64 (k39 : Int)) ∧ fq 30 = (Value.int .i64 ((r_Table).length : Int)) ∧ fq 31 = (Value.int .i64 (k71 : Int)) ∧ fq 36 = (Value.int .i64 ((r_Table).length : Int)) ∧ fq 37 = Value.int .i64 (k : Int) ∧ InR .i64 (k : Int) ∧ St wd2 wq []) hres99 ⟨hf80, hf81, hf82, hf83, hf84, rfl, hf85, hf86, hf87, hf88, hf89, hf90, hf91, hf92, rfl, rfl, (inL rfl), hS94⟩ ?_ ?_
                · intro k100 s741 ct101 f102 wd103 hk104 hb105 hI106 hbrk107 hret108
                  obtain ⟨⟩ := s741
                  replace hI106 : f102 1 = (Value.pointer (some ⟨b1, 0, none⟩)) ∧ f102 3 = (Value.int .i64 (k12 : Int)) ∧ f102 4 = u33 ∧ f102 5 = (Value.int .i64 (k39 : Int)) ∧ f102 6 = u65 ∧ f102 7 = (Value.int .i64 (k71 : Int)) ∧ f102 13 = v_r_Table ∧ f102 14 = (Value.int .i64 ((r_Table).length : Int)) ∧ f102 15 = (Value.int .i64 (k12 : Int)) ∧ f102 21 = v_r_Table ∧ f102 22 = (Value.int .i64 ((r_Table).length : Int)) ∧ f102 23 = (Value.int .i64 (k39 : Int)) ∧ f102 30 = (Value.int .i64 ((r_Table).length : Int)) ∧ f102 31 = (Value.int .i64 (k71 : Int)) ∧ f102 36 = (Value.int .i64 ((r_Table).length : Int)) ∧ f102 37 = Value.int .i64 (k100 : Int) ∧ InR .i64 (k100 : Int) ∧ St wd2 wd103 [] := hI106
                  replace hb105 : p_impl_Ring_bracketFault_L4 x29 k39 r_Table k71 x61 k12 k100  = some ct101 := hb105
                  unfold p_impl_Ring_bracketFault_L4 at hb105
                  obtain ⟨hf109, hf110, hf111, hf112, hf113, hf114, hf115, hf116, hf117, hf118, hf119, hf120, hf121, hf122, hf123, hf124, hr125, hS126⟩ := hI106
                  refine W.seq (W.region ?_)
                  refine WL.val (Value.bool (decide ((k100 : Int) < ((r_Table).length : Int)))) _ (op_lss hf124 hf123) rfl ?_
                  have hl127 : (k100 : Int) < ((r_Table).length : Int) := by omega
                  refine WL.nil ?_
                  refine W.seq ?_
                  refine W.condT (decide ((k100 : Int) < ((r_Table).length : Int))) rfl (decide_eq_true hl127) ?_
                  refine W.skip ?_
                  refine W.seq ?_
                  refine W.block ?_
                  refine W.seq (W.region ?_)
                  refine WL.val (Value.int .i64 (k100 : Int)) _ (op_move hf124) rfl ?_
                  refine WL.val (Value.int .i64 (k100 : Int)) _ (op_assign rfl) rfl ?_
                  refine WL.nil ?_
                  refine W.seq (W.region ?_)
                  refine WL.val (Value.int .i64 (0 : Int)) _ (op_assign rfl) rfl ?_
                  refine WL.val (Value.int .i64 (0 : Int)) _ (op_assign rfl) rfl ?_
                  refine WL.nil ?_
                  refine W.seq (W.seq (W.region ?_))
                  refine WL.val (Value.pointer (some ⟨b1, 0, none⟩)) _ (op_fieldAddr fd_26_0 hf109) rfl ?_
                  refine WL.val v_r_Table _ (op_load one_22 rfl (BoxAt.cell (BoxAt.lift hS126.ext hx6) rfl)) rfl ?_
                  have hr129 := inR_len (Ty.lift _ (Ext.trans hE7 hS126.ext) r_r_Table)
                  refine WL.val (Value.int .i64 ((r_Table).length : Int)) _ (op_lenL sl_22 (Ty.lift _ (Ext.trans hE7 hS126.ext) r_r_Table) rfl) rfl ?_
                  refine WL.val (Value.int .i64 (0 : Int)) _ (op_move rfl) rfl ?_
                  refine WL.nil ?_
                  show W _ _ _ _ _ _
                  obtain ⟨res130, hres131, hb105⟩ := bs hb105
                  refine W.blockLoop (fun fq wq => ∃ s, res130 = Res.fin s ∧ fq 1 = (Value.pointer (some ⟨b1, 0, none⟩)) ∧ fq 3 = (Value.int .i64 (k12 : Int)) ∧ fq 4 = u33 ∧ fq 5 = (Value.int .i64 (k39 : Int)) ∧ fq 6 = u65 ∧ fq 7 = (Value.int .i64 (k71 : Int)) ∧ fq 8 = (Value.int .i64 (k100 : Int)) ∧ fq 9 = Value.int .i64 s.1 ∧ InR .i64 s.1 ∧ fq 10 = Value.int .i64 s.2 ∧ InR .i64 s.2 ∧ fq 13 = v_r_Table ∧ fq 14 = (Value.int .i64 ((r_Table).length : Int)) ∧ fq 15 = (Value.int .i64 (k12 : Int)) ∧ fq 21 = v_r_Table ∧ fq 22 = (Value.int .i64 ((r_Table).length : Int)) ∧ fq 23 = (Value.int .i64 (k39 : Int)) ∧ fq 30 = (Value.int .i64 ((r_Table).length : Int)) ∧ fq 31 = (Value.int .i64 (k71 : Int)) ∧ fq 36 = (Value.int .i64 ((r_Table).length : Int)) ∧ fq 37 = (Value.int .i64 (k100 : Int)) ∧ St wd2 wq []) ?_ ?_
                  · refine W.forN (fun k (s : Int × Int) fq wq => fq 1 = (Value.pointer (some ⟨b1, 0, none⟩)) ∧ fq 3 = (Value.int .i64 (k12 : Int)) ∧ fq 4 = u33 ∧ fq 5 = (Value.int .i64 (k39 : Int)) ∧ fq 6 = u65 ∧ fq 7 = (Value.int .i64 (k71 : Int)) ∧ fq 8 = (Value.int .i64 (k100 : Int)) ∧ fq 9 = Value.int .i64 s.1 ∧ InR .i64 s.1 ∧ fq 10 = Value.int .i64 s.2 ∧ InR .i64 s.2 ∧ fq 13 = v_r_Table ∧ fq 14 = (Value.int .i64 ((r_Table).length : Int)) ∧ fq 15 = (Value.int .i64 (k12 : Int)) ∧ fq 21 = v_r_Table ∧ fq 22 = (Value.int .i64 ((r_Table).length : Int)) ∧ fq 23 = (Value.int .i64 (k39 : Int)) ∧ fq 30 = (Value.int .i64 ((r_Table).length : Int)) ∧ fq 31 = (Value.int .i64 (k71 : Int)) ∧ fq 36 = (Value.int .i64 ((r_Table).length : Int)) ∧ fq 37 = (Value.int .i64 (k100 : Int)) ∧ fq 42 = (Value.int .i64 ((r_Table).length : Int)) ∧ fq 43 = Value.int .i64 (k : Int) ∧ InR .i64 (k : Int) ∧ St wd2 wq []) hres131 ⟨hf109, hf110, hf111, hf112, hf113, hf114, rfl, rfl, (inL rfl), rfl, (inL rfl), hf115, hf116, hf117, hf118, hf119, hf120, hf121, hf122, hf123, hf124, rfl, rfl, (inL rfl), hS126⟩ ?_ ?_
                    · intro k132 s672 ct135 f136 wd137 hk138 hb139 hI140 hbrk141 hret142
                      obtain ⟨x133, x134⟩ := s672
                      replace hI140 : f136 1 = (Value.pointer (some ⟨b1, 0, none⟩)) ∧ f136 3 = (Value.int .i64 (k12 : Int)) ∧ f136 4 = u33 ∧ f136 5 = (Value.int .i64 (k39 : Int)) ∧ f136 6 = u65 ∧ f136 7 = (Value.int .i64 (k71 : Int)) ∧ f136 8 = (Value.int .i64 (k100 : Int)) ∧ f136 9 = Value.int .i64 x133 ∧ InR .i64 x133 ∧ f136 10 = Value.int .i64 x134 ∧ InR .i64 x134 ∧ f136 13 = v_r_Table ∧ f136 14 = (Value.int .i64 ((r_Table).length : Int)) ∧ f136 15 = (Value.int .i64 (k12 : Int)) ∧ f136 21 = v_r_Table ∧ f136 22 = (Value.int .i64 ((r_Table).length : Int)) ∧ f136 23 = (Value.int .i64 (k39 : Int)) ∧ f136 30 = (Value.int .i64 ((r_Table).length : Int)) ∧ f136 31 = (Value.int .i64 (k71 : Int)) ∧ f136 36 = (Value.int .i64 ((r_Table).length : Int)) ∧ f136 37 = (Value.int .i64 (k100 : Int)) ∧ f136 42 = (Value.int .i64 ((r_Table).length : Int)) ∧ f136 43 = Value.int .i64 (k132 : Int) ∧ InR .i64 (k132 : Int) ∧ St wd2 wd137 [] := hI140
                      replace hb139 : p_impl_Ring_bracketFault_L5 x29 k39 r_Table k71 k100 x61 k132 x133 x134 = some ct135 := hb139
                      unfold p_impl_Ring_bracketFault_L5 at hb139
                      obtain ⟨hf143, hf144, hf145, hf146, hf147, hf148, hf149, hf150, hr151, hf152, hr153, hf154, hf155, hf156, hf157, hf158, hf159, hf160, hf161, hf162, hf163, hf164, hf165, hr166, hS167⟩ := hI140
                      refine W.seq (W.region ?_)
                      refine WL.val (Value.bool (decide ((k132 : Int) < ((r_Table).length : Int)))) _ (op_lss hf165 hf164) rfl ?_
                      have hl168 : (k132 : Int) < ((r_Table).length : Int) := by omega
                      refine WL.nil ?_
                      refine W.seq ?_
                      refine W.condT (decide ((k132 : Int) < ((r_Table).length : Int))) rfl (decide_eq_true hl168) ?_
                      refine W.skip ?_
                      refine W.seq ?_
                      refine W.block ?_
                      refine W.seq (W.region ?_)
                      refine WL.val (Value.int .i64 (k132 : Int)) _ (op_move hf165) rfl ?_
                      refine WL.val (Value.int .i64 (k132 : Int)) _ (op_assign rfl) rfl ?_
                      refine WL.nil ?_
                      refine W.seq ?_
                      obtain ⟨x206, hx209, hb139⟩ := bs hb139
                      obtain ⟨ha207, hb208, hx209⟩ := idx_some hx209
                      obtain ⟨u220, hc221, hr222⟩ := repSl.el hr35 hx209
                      obtain ⟨x245, hx248, hb139⟩ := bs hb139
                      obtain ⟨ha246, hb247, hx248⟩ := idx_some hx248
                      obtain ⟨u259, hc260, hr261⟩ := repSl.el hr222 hx248
                      obtain ⟨rfl, hr261⟩ := hr261
                      obtain ⟨x301, hx304, hb139⟩ := bs hb139
                      obtain ⟨ha302, hb303, hx304⟩ := idx_some hx304
                      obtain ⟨u315, hc316, hr317⟩ := repSl.el r_r_Table hx304
                      obtain ⟨x340, hx343, hb139⟩ := bs hb139
                      obtain ⟨ha341, hb342, hx343⟩ := idx_some hx343
                      obtain ⟨u354, hc355, hr356⟩ := repSl.el hr317 hx343
                      obtain ⟨x379, hx382, hb139⟩ := bs hb139
                      obtain ⟨ha380, hb381, hx382⟩ := idx_some hx382
                      obtain ⟨u393, hc394, hr395⟩ := repSl.el hr356 hx382
                      obtain ⟨rfl, hr395⟩ := hr395
                      refine W.drawR mixo 20 [] [fun _ v _ _ => v = (Value.int .i64 x133) ∧ InR .i64 x133, fun _ v _ _ => v = u33, fun _ v _ _ => v = (Value.int .i64 (k39 : Int)) ∧ InR .i64 (k39 : Int), fun _ v _ _ => v = (Value.pointer (some (elA u33 ((k39 : Int)).toNat))), fun _ v _ _ => v = u220, fun _ v _ _ => v = (Value.int .i64 (k132 : Int)) ∧ InR .i64 (k132 : Int), fun _ v _ _ => v = (Value.pointer (some (elA u220 ((k132 : Int)).toNat))), fun _ v _ _ => v = (Value.int .i64 x245) ∧ InR .i64 x245, fun _ v _ _ => v = (Value.pointer (some ⟨b1, 0, none⟩)), fun _ v _ _ => v = v_r_Table, fun _ v _ _ => v = (Value.int .i64 (k132 : Int)) ∧ InR .i64 (k132 : Int), fun _ v _ _ => v = (Value.pointer (some (elA v_r_Table ((k132 : Int)).toNat))), fun _ v _ _ => v = u315, fun _ v _ _ => v = (Value.int .i64 (k71 : Int)) ∧ InR .i64 (k71 : Int), fun _ v _ _ => v = (Value.pointer (some (elA u315 ((k71 : Int)).toNat))), fun _ v _ _ => v = u354, fun _ v _ _ => v = (Value.int .i64 (k100 : Int)) ∧ InR .i64 (k100 : Int), fun _ v _ _ => v = (Value.pointer (some (elA u354 ((k100 : Int)).toNat))), fun _ v _ _ => v = (Value.int .i64 x379) ∧ InR .i64 x379, fun _ v _ _ => v = (Value.int .i64 (w64 (x245 * x379))) ∧ InR .i64 (w64 (x245 * x379))] (by kernel_rfl) (by kernel_rfl) ⟨pk, pk, pk, pk, pk, pk, pk, pk, pk, pk, pk, pk, pk, pk, pk, pk, pk, pk, pk, pk, trivial⟩ ⟨?_, ?_, ?_, ?_, ?_, ?_, ?_, ?_, ?_, ?_, ?_, ?_, ?_, ?_, ?_, ?_, ?_, ?_, ?_, ?_, trivial⟩ ?_
                      · refine ObX.op rfl fun f170 wd171 he172 hout173 hphi174 => ?_
                        have e176 : f170 9 = (Value.int .i64 x133) := (hout173 9 rfl).trans hf150
                        exact OpX.val (Value.int .i64 x133) wd171 rfl (op_move e176) (Ext.refl _) ⟨rfl, hr151⟩
                      · refine ObX.op rfl fun f177 wd178 he179 hout180 hphi181 => ?_
                        have e183 : f177 4 = u33 := (hout180 4 rfl).trans hf145
                        exact OpX.val u33 wd178 rfl (op_move e183) (Ext.refl _) rfl
                      · refine ObX.op rfl fun f184 wd185 he186 hout187 hphi188 => ?_
                        have e190 : f184 5 = (Value.int .i64 (k39 : Int)) := (hout187 5 rfl).trans hf146
                        exact OpX.val (Value.int .i64 (k39 : Int)) wd185 rfl (op_move e190) (Ext.refl _) ⟨rfl, hr57⟩
                      · refine ObX.op rfl fun f191 wd192 he193 hout194 hphi195 => ?_
                        have hS196 := St.extend hS167 he193
                        obtain ⟨S197, hS198, hf199⟩ := hphi195 1 47 _ rfl rfl rfl
                        have e200 : f191 47 = u33 := hf199
                        obtain ⟨S201, hS202, hf203⟩ := hphi195 2 48 _ rfl rfl rfl
                        obtain ⟨e204, hr205⟩ := hf203
                        exact OpX.val (Value.pointer (some (elA u33 ((k39 : Int)).toNat))) wd192 rfl (op_idx sl_41 (Ty.lift _ (Ext.trans hE7 hS196.ext) hr35) e200 e204 ha207 hb208) (Ext.refl _) rfl
                      · refine ObX.op rfl fun f210 wd211 he212 hout213 hphi214 => ?_
                        have hS215 := St.extend hS167 he212
                        obtain ⟨S216, hS217, hf218⟩ := hphi214 3 49 _ rfl rfl rfl
                        have e219 : f210 49 = (Value.pointer (some (elA u33 ((k39 : Int)).toNat))) := hf218
                        exact OpX.val u220 wd211 rfl (op_load one_33 e219 (Ext.cell (Ext.trans hE7 hS215.ext) hc221)) (Ext.refl _) rfl
                      · refine ObX.op rfl fun f223 wd224 he225 hout226 hphi227 => ?_
                        have e229 : f223 11 = (Value.int .i64 (k132 : Int)) := (hout226 11 rfl).trans rfl
                        exact OpX.val (Value.int .i64 (k132 : Int)) wd224 rfl (op_move e229) (Ext.refl _) ⟨rfl, hr166⟩
                      · refine ObX.op rfl fun f230 wd231 he232 hout233 hphi234 => ?_
                        have hS235 := St.extend hS167 he232
                        obtain ⟨S236, hS237, hf238⟩ := hphi234 4 50 _ rfl rfl rfl
                        have e239 : f230 50 = u220 := hf238
                        obtain ⟨S240, hS241, hf242⟩ := hphi234 5 51 _ rfl rfl rfl
                        obtain ⟨e243, hr244⟩ := hf242
                        exact OpX.val (Value.pointer (some (elA u220 ((k132 : Int)).toNat))) wd231 rfl (op_idx sl_33 (Ty.lift _ (Ext.trans hE7 hS235.ext) hr222) e239 e243 ha246 hb247) (Ext.refl _) rfl
                      · refine ObX.op rfl fun f249 wd250 he251 hout252 hphi253 => ?_
                        have hS254 := St.extend hS167 he251
                        obtain ⟨S255, hS256, hf257⟩ := hphi253 6 52 _ rfl rfl rfl
                        have e258 : f249 52 = (Value.pointer (some (elA u220 ((k132 : Int)).toNat))) := hf257
                        exact OpX.val (Value.int .i64 x245) wd250 rfl (op_load one_2 e258 (Ext.cell (Ext.trans hE7 hS254.ext) hc260)) (Ext.refl _) ⟨rfl, hr261⟩
                      · refine ObX.op rfl fun f262 wd263 he264 hout265 hphi266 => ?_
                        have e268 : f262 1 = (Value.pointer (some ⟨b1, 0, none⟩)) := (hout265 1 rfl).trans hf143
                        exact OpX.val (Value.pointer (some ⟨b1, 0, none⟩)) wd263 rfl (op_fieldAddr fd_26_0 e268) (Ext.refl _) rfl
                      · refine ObX.op rfl fun f269 wd270 he271 hout272 hphi273 => ?_
                        have hS274 := St.extend hS167 he271
                        obtain ⟨S275, hS276, hf277⟩ := hphi273 8 54 _ rfl rfl rfl
                        have e278 : f269 54 = (Value.pointer (some ⟨b1, 0, none⟩)) := hf277
                        exact OpX.val v_r_Table wd270 rfl (op_load one_22 e278 (BoxAt.cell (BoxAt.lift hS274.ext hx6) rfl)) (Ext.refl _) rfl
                      · refine ObX.op rfl fun f279 wd280 he281 hout282 hphi283 => ?_
                        have e285 : f279 11 = (Value.int .i64 (k132 : Int)) := (hout282 11 rfl).trans rfl
                        exact OpX.val (Value.int .i64 (k132 : Int)) wd280 rfl (op_move e285) (Ext.refl _) ⟨rfl, hr166⟩
                      · refine ObX.op rfl fun f286 wd287 he288 hout289 hphi290 => ?_
                        have hS291 := St.extend hS167 he288
                        obtain ⟨S292, hS293, hf294⟩ := hphi290 9 55 _ rfl rfl rfl
                        have e295 : f286 55 = v_r_Table := hf294
                        obtain ⟨S296, hS297, hf298⟩ := hphi290 10 56 _ rfl rfl rfl
                        obtain ⟨e299, hr300⟩ := hf298
                        exact OpX.val (Value.pointer (some (elA v_r_Table ((k132 : Int)).toNat))) wd287 rfl (op_idx sl_22 (Ty.lift _ (Ext.trans hE7 hS291.ext) r_r_Table) e295 e299 ha302 hb303) (Ext.refl _) rfl
                      · refine ObX.op rfl fun f305 wd306 he307 hout308 hphi309 => ?_
                        have hS310 := St.extend hS167 he307
                        obtain ⟨S311, hS312, hf313⟩ := hphi309 11 57 _ rfl rfl rfl
                        have e314 : f305 57 = (Value.pointer (some (elA v_r_Table ((k132 : Int)).toNat))) := hf313
                        exact OpX.val u315 wd306 rfl (op_load one_41 e314 (Ext.cell (Ext.trans hE7 hS310.ext) hc316)) (Ext.refl _) rfl
                      · refine ObX.op rfl fun f318 wd319 he320 hout321 hphi322 => ?_
                        have e324 : f318 7 = (Value.int .i64 (k71 : Int)) := (hout321 7 rfl).trans hf148
                        exact OpX.val (Value.int .i64 (k71 : Int)) wd319 rfl (op_move e324) (Ext.refl _) ⟨rfl, hr93⟩
                      · refine ObX.op rfl fun f325 wd326 he327 hout328 hphi329 => ?_
                        have hS330 := St.extend hS167 he327
                        obtain ⟨S331, hS332, hf333⟩ := hphi329 12 58 _ rfl rfl rfl
                        have e334 : f325 58 = u315 := hf333
                        obtain ⟨S335, hS336, hf337⟩ := hphi329 13 59 _ rfl rfl rfl
                        obtain ⟨e338, hr339⟩ := hf337
                        exact OpX.val (Value.pointer (some (elA u315 ((k71 : Int)).toNat))) wd326 rfl (op_idx sl_41 (Ty.lift _ (Ext.trans hE7 hS330.ext) hr317) e334 e338 ha341 hb342) (Ext.refl _) rfl
                      · refine ObX.op rfl fun f344 wd345 he346 hout347 hphi348 => ?_
                        have hS349 := St.extend hS167 he346
                        obtain ⟨S350, hS351, hf352⟩ := hphi348 14 60 _ rfl rfl rfl
                        have e353 : f344 60 = (Value.pointer (some (elA u315 ((k71 : Int)).toNat))) := hf352
                        exact OpX.val u354 wd345 rfl (op_load one_33 e353 (Ext.cell (Ext.trans hE7 hS349.ext) hc355)) (Ext.refl _) rfl
                      · refine ObX.op rfl fun f357 wd358 he359 hout360 hphi361 => ?_
                        have e363 : f357 8 = (Value.int .i64 (k100 : Int)) := (hout360 8 rfl).trans hf149
                        exact OpX.val (Value.int .i64 (k100 : Int)) wd358 rfl (op_move e363) (Ext.refl _) ⟨rfl, hr125⟩
                      · refine ObX.op rfl fun f364 wd365 he366 hout367 hphi368 => ?_
                        have hS369 := St.extend hS167 he366
                        obtain ⟨S370, hS371, hf372⟩ := hphi368 15 61 _ rfl rfl rfl
                        have e373 : f364 61 = u354 := hf372
                        obtain ⟨S374, hS375, hf376⟩ := hphi368 16 62 _ rfl rfl rfl
                        obtain ⟨e377, hr378⟩ := hf376
                        exact OpX.val (Value.pointer (some (elA u354 ((k100 : Int)).toNat))) wd365 rfl (op_idx sl_33 (Ty.lift _ (Ext.trans hE7 hS369.ext) hr356) e373 e377 ha380 hb381) (Ext.refl _) rfl
                      · refine ObX.op rfl fun f383 wd384 he385 hout386 hphi387 => ?_
                        have hS388 := St.extend hS167 he385
                        obtain ⟨S389, hS390, hf391⟩ := hphi387 17 63 _ rfl rfl rfl
                        have e392 : f383 63 = (Value.pointer (some (elA u354 ((k100 : Int)).toNat))) := hf391
                        exact OpX.val (Value.int .i64 x379) wd384 rfl (op_load one_2 e392 (Ext.cell (Ext.trans hE7 hS388.ext) hc394)) (Ext.refl _) ⟨rfl, hr395⟩
                      · refine ObX.op rfl fun f396 wd397 he398 hout399 hphi400 => ?_
                        obtain ⟨S402, hS403, hf404⟩ := hphi400 7 53 _ rfl rfl rfl
                        obtain ⟨e405, hr406⟩ := hf404
                        obtain ⟨S407, hS408, hf409⟩ := hphi400 18 64 _ rfl rfl rfl
                        obtain ⟨e410, hr411⟩ := hf409
                        exact OpX.val (Value.int .i64 (w64 (x245 * x379))) wd397 rfl (op_mul e405 e410) (Ext.refl _) ⟨rfl, (inR_wrap _ _)⟩
                      · intro f412 wd413 Ss414 he415 hout416 hSn417 hSd418 hphi419
                        show WL _ _ _ _ _ _ _
                        have hS420 := St.extend hS167 he415
                        obtain ⟨e421, hr422⟩ := hphi419 0 46 _ (by decide) rfl rfl
                        obtain ⟨e423, hr424⟩ := hphi419 19 65 _ (by decide) rfl rfl
                        have e425 : f412 1 = (Value.pointer (some ⟨b1, 0, none⟩)) := (hout416 1 rfl).trans hf143
                        have e426 : f412 3 = (Value.int .i64 (k12 : Int)) := (hout416 3 rfl).trans hf144
                        have e427 : f412 4 = u33 := (hout416 4 rfl).trans hf145
                        have e428 : f412 5 = (Value.int .i64 (k39 : Int)) := (hout416 5 rfl).trans hf146
                        have e429 : f412 6 = u65 := (hout416 6 rfl).trans hf147
                        have e430 : f412 7 = (Value.int .i64 (k71 : Int)) := (hout416 7 rfl).trans hf148
                        have e431 : f412 8 = (Value.int .i64 (k100 : Int)) := (hout416 8 rfl).trans hf149
                        have e432 : f412 10 = (Value.int .i64 x134) := (hout416 10 rfl).trans hf152
                        have e433 : f412 11 = (Value.int .i64 (k132 : Int)) := (hout416 11 rfl).trans rfl
                        have e434 : f412 13 = v_r_Table := (hout416 13 rfl).trans hf154
                        have e435 : f412 14 = (Value.int .i64 ((r_Table).length : Int)) := (hout416 14 rfl).trans hf155
                        have e436 : f412 15 = (Value.int .i64 (k12 : Int)) := (hout416 15 rfl).trans hf156
                        have e437 : f412 21 = v_r_Table := (hout416 21 rfl).trans hf157
                        have e438 : f412 22 = (Value.int .i64 ((r_Table).length : Int)) := (hout416 22 rfl).trans hf158
                        have e439 : f412 23 = (Value.int .i64 (k39 : Int)) := (hout416 23 rfl).trans hf159
                        have e440 : f412 30 = (Value.int .i64 ((r_Table).length : Int)) := (hout416 30 rfl).trans hf160
                        have e441 : f412 31 = (Value.int .i64 (k71 : Int)) := (hout416 31 rfl).trans hf161
                        have e442 : f412 36 = (Value.int .i64 ((r_Table).length : Int)) := (hout416 36 rfl).trans hf162
                        have e443 : f412 37 = (Value.int .i64 (k100 : Int)) := (hout416 37 rfl).trans hf163
                        have e444 : f412 42 = (Value.int .i64 ((r_Table).length : Int)) := (hout416 42 rfl).trans hf164
                        have e445 : f412 43 = (Value.int .i64 (k132 : Int)) := (hout416 43 rfl).trans hf165
                        refine WL.val (Value.int .i64 (w64 (x133 + (w64 (x245 * x379))))) _ (op_add e421 e423) rfl ?_
                        refine WL.val (Value.int .i64 (w64 (x133 + (w64 (x245 * x379))))) _ (op_assign rfl) rfl ?_
                        refine WL.nil ?_
                        show W _ _ _ _ _ _
                        obtain ⟨x482, hx485, hb139⟩ := bs hb139
                        obtain ⟨ha483, hb484, hx485⟩ := idx_some hx485
                        obtain ⟨u496, hc497, hr498⟩ := repSl.el hr67 hx485
                        obtain ⟨x521, hx524, hb139⟩ := bs hb139
                        obtain ⟨ha522, hb523, hx524⟩ := idx_some hx524
                        obtain ⟨u535, hc536, hr537⟩ := repSl.el hr498 hx524
                        obtain ⟨rfl, hr537⟩ := hr537
                        obtain ⟨x567, hx570, hb139⟩ := bs hb139
                        obtain ⟨ha568, hb569, hx570⟩ := idx_some hx570
                        obtain ⟨u581, hc582, hr583⟩ := repSl.el hr35 hx570
                        obtain ⟨x606, hx609, hb139⟩ := bs hb139
                        obtain ⟨ha607, hb608, hx609⟩ := idx_some hx609
                        obtain ⟨u620, hc621, hr622⟩ := repSl.el hr583 hx609
                        obtain ⟨rfl, hr622⟩ := hr622
                        refine W.drawR mixo 16 [] [fun _ v _ _ => v = (Value.int .i64 x134) ∧ InR .i64 x134, fun _ v _ _ => v = u65, fun _ v _ _ => v = (Value.int .i64 (k71 : Int)) ∧ InR .i64 (k71 : Int), fun _ v _ _ => v = (Value.pointer (some (elA u65 ((k71 : Int)).toNat))), fun _ v _ _ => v = u496, fun _ v _ _ => v = (Value.int .i64 (k132 : Int)) ∧ InR .i64 (k132 : Int), fun _ v _ _ => v = (Value.pointer (some (elA u496 ((k132 : Int)).toNat))), fun _ v _ _ => v = (Value.int .i64 x521) ∧ InR .i64 x521, fun _ v _ _ => v = u33, fun _ v _ _ => v = (Value.int .i64 (k132 : Int)) ∧ InR .i64 (k132 : Int), fun _ v _ _ => v = (Value.pointer (some (elA u33 ((k132 : Int)).toNat))), fun _ v _ _ => v = u581, fun _ v _ _ => v = (Value.int .i64 (k100 : Int)) ∧ InR .i64 (k100 : Int), fun _ v _ _ => v = (Value.pointer (some (elA u581 ((k100 : Int)).toNat))), fun _ v _ _ => v = (Value.int .i64 x606) ∧ InR .i64 x606, fun _ v _ _ => v = (Value.int .i64 (w64 (x521 * x606))) ∧ InR .i64 (w64 (x521 * x606))] (by kernel_rfl) (by kernel_rfl) ⟨pk, pk, pk, pk, pk, pk, pk, pk, pk, pk, pk, pk, pk, pk, pk, pk, trivial⟩ ⟨?_, ?_, ?_, ?_, ?_, ?_, ?_, ?_, ?_, ?_, ?_, ?_, ?_, ?_, ?_, ?_, trivial⟩ ?_
                        · refine ObX.op rfl fun f446 wd447 he448 hout449 hphi450 => ?_
                          have e452 : f446 10 = (Value.int .i64 x134) := (hout449 10 rfl).trans e432
                          exact OpX.val (Value.int .i64 x134) wd447 rfl (op_move e452) (Ext.refl _) ⟨rfl, hr153⟩
                        · refine ObX.op rfl fun f453 wd454 he455 hout456 hphi457 => ?_
                          have e459 : f453 6 = u65 := (hout456 6 rfl).trans e429
                          exact OpX.val u65 wd454 rfl (op_move e459) (Ext.refl _) rfl
                        · refine ObX.op rfl fun f460 wd461 he462 hout463 hphi464 => ?_
                          have e466 : f460 7 = (Value.int .i64 (k71 : Int)) := (hout463 7 rfl).trans e430
                          exact OpX.val (Value.int .i64 (k71 : Int)) wd461 rfl (op_move e466) (Ext.refl _) ⟨rfl, hr93⟩
                        · refine ObX.op rfl fun f467 wd468 he469 hout470 hphi471 => ?_
                          have hS472 := St.extend hS420 he469
                          obtain ⟨S473, hS474, hf475⟩ := hphi471 1 68 _ rfl rfl rfl
                          have e476 : f467 68 = u65 := hf475
                          obtain ⟨S477, hS478, hf479⟩ := hphi471 2 69 _ rfl rfl rfl
                          obtain ⟨e480, hr481⟩ := hf479
                          exact OpX.val (Value.pointer (some (elA u65 ((k71 : Int)).toNat))) wd468 rfl (op_idx sl_41 (Ty.lift _ (Ext.trans hE7 hS472.ext) hr67) e476 e480 ha483 hb484) (Ext.refl _) rfl
                        · refine ObX.op rfl fun f486 wd487 he488 hout489 hphi490 => ?_
                          have hS491 := St.extend hS420 he488
                          obtain ⟨S492, hS493, hf494⟩ := hphi490 3 70 _ rfl rfl rfl
                          have e495 : f486 70 = (Value.pointer (some (elA u65 ((k71 : Int)).toNat))) := hf494
                          exact OpX.val u496 wd487 rfl (op_load one_33 e495 (Ext.cell (Ext.trans hE7 hS491.ext) hc497)) (Ext.refl _) rfl
                        · refine ObX.op rfl fun f499 wd500 he501 hout502 hphi503 => ?_
                          have e505 : f499 11 = (Value.int .i64 (k132 : Int)) := (hout502 11 rfl).trans e433
                          exact OpX.val (Value.int .i64 (k132 : Int)) wd500 rfl (op_move e505) (Ext.refl _) ⟨rfl, hr166⟩
                        · refine ObX.op rfl fun f506 wd507 he508 hout509 hphi510 => ?_
                          have hS511 := St.extend hS420 he508
                          obtain ⟨S512, hS513, hf514⟩ := hphi510 4 71 _ rfl rfl rfl
                          have e515 : f506 71 = u496 := hf514
                          obtain ⟨S516, hS517, hf518⟩ := hphi510 5 72 _ rfl rfl rfl
                          obtain ⟨e519, hr520⟩ := hf518
                          exact OpX.val (Value.pointer (some (elA u496 ((k132 : Int)).toNat))) wd507 rfl (op_idx sl_33 (Ty.lift _ (Ext.trans hE7 hS511.ext) hr498) e515 e519 ha522 hb523) (Ext.refl _) rfl
                        · refine ObX.op rfl fun f525 wd526 he527 hout528 hphi529 => ?_
                          have hS530 := St.extend hS420 he527
                          obtain ⟨S531, hS532, hf533⟩ := hphi529 6 73 _ rfl rfl rfl
                          have e534 : f525 73 = (Value.pointer (some (elA u496 ((k132 : Int)).toNat))) := hf533
                          exact OpX.val (Value.int .i64 x521) wd526 rfl (op_load one_2 e534 (Ext.cell (Ext.trans hE7 hS530.ext) hc536)) (Ext.refl _) ⟨rfl, hr537⟩
                        · refine ObX.op rfl fun f538 wd539 he540 hout541 hphi542 => ?_
                          have e544 : f538 4 = u33 := (hout541 4 rfl).trans e427
                          exact OpX.val u33 wd539 rfl (op_move e544) (Ext.refl _) rfl
                        · refine ObX.op rfl fun f545 wd546 he547 hout548 hphi549 => ?_
                          have e551 : f545 11 = (Value.int .i64 (k132 : Int)) := (hout548 11 rfl).trans e433
                          exact OpX.val (Value.int .i64 (k132 : Int)) wd546 rfl (op_move e551) (Ext.refl _) ⟨rfl, hr166⟩
                        · refine ObX.op rfl fun f552 wd553 he554 hout555 hphi556 => ?_
                          have hS557 := St.extend hS420 he554
                          obtain ⟨S558, hS559, hf560⟩ := hphi556 8 75 _ rfl rfl rfl
                          have e561 : f552 75 = u33 := hf560
                          obtain ⟨S562, hS563, hf564⟩ := hphi556 9 76 _ rfl rfl rfl
                          obtain ⟨e565, hr566⟩ := hf564
                          exact OpX.val (Value.pointer (some (elA u33 ((k132 : Int)).toNat))) wd553 rfl (op_idx sl_41 (Ty.lift _ (Ext.trans hE7 hS557.ext) hr35) e561 e565 ha568 hb569) (Ext.refl _) rfl
                        · refine ObX.op rfl fun f571 wd572 he573 hout574 hphi575 => ?_
                          have hS576 := St.extend hS420 he573
                          obtain ⟨S577, hS578, hf579⟩ := hphi575 10 77 _ rfl rfl rfl
                          have e580 : f571 77 = (Value.pointer (some (elA u33 ((k132 : Int)).toNat))) := hf579
                          exact OpX.val u581 wd572 rfl (op_load one_33 e580 (Ext.cell (Ext.trans hE7 hS576.ext) hc582)) (Ext.refl _) rfl
                        · refine ObX.op rfl fun f584 wd585 he586 hout587 hphi588 => ?_
                          have e590 : f584 8 = (Value.int .i64 (k100 : Int)) := (hout587 8 rfl).trans e431
                          exact OpX.val (Value.int .i64 (k100 : Int)) wd585 rfl (op_move e590) (Ext.refl _) ⟨rfl, hr125⟩
                        · refine ObX.op rfl fun f591 wd592 he593 hout594 hphi595 => ?_
                          have hS596 := St.extend hS420 he593
                          obtain ⟨S597, hS598, hf599⟩ := hphi595 11 78 _ rfl rfl rfl
                          have e600 : f591 78 = u581 := hf599
                          obtain ⟨S601, hS602, hf603⟩ := hphi595 12 79 _ rfl rfl rfl
                          obtain ⟨e604, hr605⟩ := hf603
                          exact OpX.val (Value.pointer (some (elA u581 ((k100 : Int)).toNat))) wd592 rfl (op_idx sl_33 (Ty.lift _ (Ext.trans hE7 hS596.ext) hr583) e600 e604 ha607 hb608) (Ext.refl _) rfl
                        · refine ObX.op rfl fun f610 wd611 he612 hout613 hphi614 => ?_
                          have hS615 := St.extend hS420 he612
                          obtain ⟨S616, hS617, hf618⟩ := hphi614 13 80 _ rfl rfl rfl
                          have e619 : f610 80 = (Value.pointer (some (elA u581 ((k100 : Int)).toNat))) := hf618
                          exact OpX.val (Value.int .i64 x606) wd611 rfl (op_load one_2 e619 (Ext.cell (Ext.trans hE7 hS615.ext) hc621)) (Ext.refl _) ⟨rfl, hr622⟩
                        · refine ObX.op rfl fun f623 wd624 he625 hout626 hphi627 => ?_
                          obtain ⟨S629, hS630, hf631⟩ := hphi627 7 74 _ rfl rfl rfl
                          obtain ⟨e632, hr633⟩ := hf631
                          obtain ⟨S634, hS635, hf636⟩ := hphi627 14 81 _ rfl rfl rfl
                          obtain ⟨e637, hr638⟩ := hf636
                          exact OpX.val (Value.int .i64 (w64 (x521 * x606))) wd624 rfl (op_mul e632 e637) (Ext.refl _) ⟨rfl, (inR_wrap _ _)⟩
                        · intro f639 wd640 Ss641 he642 hout643 hSn644 hSd645 hphi646
                          show WL _ _ _ _ _ _ _
                          have hS647 := St.extend hS420 he642
                          obtain ⟨e648, hr649⟩ := hphi646 0 67 _ (by decide) rfl rfl
                          obtain ⟨e650, hr651⟩ := hphi646 15 82 _ (by decide) rfl rfl
                          have e652 : f639 1 = (Value.pointer (some ⟨b1, 0, none⟩)) := (hout643 1 rfl).trans e425
                          have e653 : f639 3 = (Value.int .i64 (k12 : Int)) := (hout643 3 rfl).trans e426
                          have e654 : f639 4 = u33 := (hout643 4 rfl).trans e427
                          have e655 : f639 5 = (Value.int .i64 (k39 : Int)) := (hout643 5 rfl).trans e428
                          have e656 : f639 6 = u65 := (hout643 6 rfl).trans e429
                          have e657 : f639 7 = (Value.int .i64 (k71 : Int)) := (hout643 7 rfl).trans e430
                          have e658 : f639 8 = (Value.int .i64 (k100 : Int)) := (hout643 8 rfl).trans e431
                          have e659 : f639 9 = (Value.int .i64 (w64 (x133 + (w64 (x245 * x379))))) := (hout643 9 rfl).trans rfl
                          have e660 : f639 13 = v_r_Table := (hout643 13 rfl).trans e434
                          have e661 : f639 14 = (Value.int .i64 ((r_Table).length : Int)) := (hout643 14 rfl).trans e435
                          have e662 : f639 15 = (Value.int .i64 (k12 : Int)) := (hout643 15 rfl).trans e436
                          have e663 : f639 21 = v_r_Table := (hout643 21 rfl).trans e437
                          have e664 : f639 22 = (Value.int .i64 ((r_Table).length : Int)) := (hout643 22 rfl).trans e438
                          have e665 : f639 23 = (Value.int .i64 (k39 : Int)) := (hout643 23 rfl).trans e439
                          have e666 : f639 30 = (Value.int .i64 ((r_Table).length : Int)) := (hout643 30 rfl).trans e440
                          have e667 : f639 31 = (Value.int .i64 (k71 : Int)) := (hout643 31 rfl).trans e441
                          have e668 : f639 36 = (Value.int .i64 ((r_Table).length : Int)) := (hout643 36 rfl).trans e442
                          have e669 : f639 37 = (Value.int .i64 (k100 : Int)) := (hout643 37 rfl).trans e443
                          have e670 : f639 42 = (Value.int .i64 ((r_Table).length : Int)) := (hout643 42 rfl).trans e444
                          have e671 : f639 43 = (Value.int .i64 (k132 : Int)) := (hout643 43 rfl).trans e445
                          refine WL.val (Value.int .i64 (w64 (x134 + (w64 (x521 * x606))))) _ (op_add e648 e650) rfl ?_
                          refine WL.val (Value.int .i64 (w64 (x134 + (w64 (x521 * x606))))) _ (op_assign rfl) rfl ?_
                          refine WL.nil ?_
                          show W _ _ _ _ _ _
                          refine W.region ?_
                          refine WL.val (Value.int .i64 (w64 ((k132 : Int) + (1 : Int)))) _ (op_add e671 rfl) rfl ?_
                          refine WL.val (Value.int .i64 (w64 ((k132 : Int) + (1 : Int)))) _ (op_move rfl) rfl ?_
                          refine WL.nil ?_
                          obtain rfl := Option.some.inj hb139
                          show ∃ s, _ = Ctl.next s ∧ _
                          exact ⟨_, rfl, e652, e653, e654, e655, e656, e657, e658, e659, (inR_wrap _ _), rfl, (inR_wrap _ _), e660, e661, e662, e663, e664, e665, e666, e667, e668, e669, e670, (ctr_next hl168 hr129), (ctr_rng hl168 hr129), hS647⟩
                    · intro s677 f673 wd674 hs675 hI676
                      obtain ⟨x678, x679⟩ := s677
                      replace hI676 : f673 1 = (Value.pointer (some ⟨b1, 0, none⟩)) ∧ f673 3 = (Value.int .i64 (k12 : Int)) ∧ f673 4 = u33 ∧ f673 5 = (Value.int .i64 (k39 : Int)) ∧ f673 6 = u65 ∧ f673 7 = (Value.int .i64 (k71 : Int)) ∧ f673 8 = (Value.int .i64 (k100 : Int)) ∧ f673 9 = Value.int .i64 x678 ∧ InR .i64 x678 ∧ f673 10 = Value.int .i64 x679 ∧ InR .i64 x679 ∧ f673 13 = v_r_Table ∧ f673 14 = (Value.int .i64 ((r_Table).length : Int)) ∧ f673 15 = (Value.int .i64 (k12 : Int)) ∧ f673 21 = v_r_Table ∧ f673 22 = (Value.int .i64 ((r_Table).length : Int)) ∧ f673 23 = (Value.int .i64 (k39 : Int)) ∧ f673 30 = (Value.int .i64 ((r_Table).length : Int)) ∧ f673 31 = (Value.int .i64 (k71 : Int)) ∧ f673 36 = (Value.int .i64 ((r_Table).length : Int)) ∧ f673 37 = (Value.int .i64 (k100 : Int)) ∧ f673 42 = (Value.int .i64 ((r_Table).length : Int)) ∧ f673 43 = Value.int .i64 (((r_Table).length : Nat) : Int) ∧ InR .i64 (((r_Table).length : Nat) : Int) ∧ St wd2 wd674 [] := hI676
                      obtain ⟨hf680, hf681, hf682, hf683, hf684, hf685, hf686, hf687, hr688, hf689, hr690, hf691, hf692, hf693, hf694, hf695, hf696, hf697, hf698, hf699, hf700, hf701, hf702, hr703, hS704⟩ := hI676
                      refine W.seq (W.region ?_)
                      refine WL.val (Value.bool (decide ((((r_Table).length : Nat) : Int) < ((r_Table).length : Int)))) _ (op_lss hf702 hf701) rfl ?_
                      have hl705 : ¬ (((r_Table).length : Nat) : Int) < ((r_Table).length : Int) := by omega
                      refine WL.nil ?_
                      refine W.seq ?_
                      refine W.condF (decide ((((r_Table).length : Nat) : Int) < ((r_Table).length : Int))) rfl (decide_eq_false hl705) ?_
                      refine W.exit ?_
                      show _ = _ ∧ _
                      exact ⟨rfl, _, hs675, hf680, hf681, hf682, hf683, hf684, hf685, hf686, hf687, hr688, hf689, hr690, hf691, hf692, hf693, hf694, hf695, hf696, hf697, hf698, hf699, hf700, hS704⟩
                  · rintro f706 wd707 ⟨s709, rfl, hq708⟩
                    replace hb105 := onRes_fin hb105
                    obtain ⟨x710, x711⟩ := s709
                    replace hq708 : f706 1 = (Value.pointer (some ⟨b1, 0, none⟩)) ∧ f706 3 = (Value.int .i64 (k12 : Int)) ∧ f706 4 = u33 ∧ f706 5 = (Value.int .i64 (k39 : Int)) ∧ f706 6 = u65 ∧ f706 7 = (Value.int .i64 (k71 : Int)) ∧ f706 8 = (Value.int .i64 (k100 : Int)) ∧ f706 9 = Value.int .i64 x710 ∧ InR .i64 x710 ∧ f706 10 = Value.int .i64 x711 ∧ InR .i64 x711 ∧ f706 13 = v_r_Table ∧ f706 14 = (Value.int .i64 ((r_Table).length : Int)) ∧ f706 15 = (Value.int .i64 (k12 : Int)) ∧ f706 21 = v_r_Table ∧ f706 22 = (Value.int .i64 ((r_Table).length : Int)) ∧ f706 23 = (Value.int .i64 (k39 : Int)) ∧ f706 30 = (Value.int .i64 ((r_Table).length : Int)) ∧ f706 31 = (Value.int .i64 (k71 : Int)) ∧ f706 36 = (Value.int .i64 ((r_Table).length : Int)) ∧ f706 37 = (Value.int .i64 (k100 : Int)) ∧ St wd2 wd707 [] := hq708
                    replace hb105 : (_ : Option _) = _ := hb105
                    dsimp only at hb105
                    obtain ⟨hf712, hf713, hf714, hf715, hf716, hf717, hf718, hf719, hr720, hf721, hr722, hf723, hf724, hf725, hf726, hf727, hf728, hf729, hf730, hf731, hf732, hS733⟩ := hq708
                    refine W.seq (W.region ?_)
                    refine WL.val (Value.int .i64 x710) _ (op_move hf719) rfl ?_
                    refine WL.val (Value.int .i64 x711) _ (op_move hf721) rfl ?_
                    refine WL.val (Value.bool (x710 != x711)) _ (op_neq rfl rfl) rfl ?_
                    refine WL.nil ?_
                    refine W.cond (x710 != x711) rfl (fun hc734 => ?_) (fun hc734 => ?_)
                    · replace hb105 := ip hb105 hc734
                      refine W.seq (W.region ?_)
                      refine WL.val (Value.int .i64 (k12 : Int)) _ (op_move hf713) rfl ?_
                      refine WL.val (Value.int .i64 (k39 : Int)) _ (op_move hf715) rfl ?_
                      refine WL.val (Value.int .i64 (k71 : Int)) _ (op_move hf717) rfl ?_
                      refine WL.val (Value.int .i64 (k100 : Int)) _ (op_move hf718) rfl ?_
                      refine WL.litFlat (t := (Ty.i .i64)) (flat_i .i64) [(Value.int .i64 (3 : Int)), (Value.int .i64 (k12 : Int)), (Value.int .i64 (k39 : Int)), (Value.int .i64 (k71 : Int)), (Value.int .i64 (k100 : Int))] [(3 : Int), (k12 : Int), (k39 : Int), (k71 : Int), (k100 : Int)] hS733 sl_33 rfl rfl (fillL rfl ⟨rfl, rfl, rfl, rfl, rfl, rfl, rfl, rfl, rfl, rfl, rfl, rfl, rfl, rfl, rfl, trivial⟩) rfl rfl (litL ⟨⟨rfl, (inL rfl)⟩, ⟨rfl, hr25⟩, ⟨rfl, hr57⟩, ⟨rfl, hr93⟩, ⟨rfl, hr125⟩, trivial⟩) rfl ?_
                      intro u736 wd737 hS738 he739
                      replace hS738 : St wd2 wd737 [(Ty.sl (Ty.i .i64)).at u736 ([(3 : Int), (k12 : Int), (k39 : Int), (k71 : Int), (k100 : Int)] : (List Int))] := hS738
                      refine WL.val u736 _ (op_assign rfl) rfl ?_
                      refine WL.nil ?_
                      refine W.ret ?_
                      obtain rfl := Option.some.inj hb105
                      obtain rfl := hret108 _ rfl
                      replace hb76 := onRes_ret hb76
                      obtain rfl := Option.some.inj hb76
                      obtain rfl := hret79 _ rfl
                      replace hb44 := onRes_ret hb44
                      obtain rfl := Option.some.inj hb44
                      obtain rfl := hret47 _ rfl
                      replace hb17 := onRes_ret hb17
                      obtain rfl := Option.some.inj hb17
                      obtain rfl := hret20 _ rfl
                      replace h := onRes_ret h
                      obtain rfl := Option.some.inj h
                      show FinP _ _ _ _ _ _ _
                      exact FinP.ret _ (res1 rfl rfl) ⟨u736, rfl, (nil_cons), (Ext.trans hE7 hS738.ext), (St.out (St.pick hS738 [0] rfl) (hE7))⟩
                    · replace hb105 := inegb hb105 hc734
                      refine W.skip ?_
                      show W _ _ _ _ _ _
                      refine W.region ?_
                      refine WL.val (Value.int .i64 (w64 ((k100 : Int) + (1 : Int)))) _ (op_add hf732 rfl) rfl ?_
                      refine WL.val (Value.int .i64 (w64 ((k100 : Int) + (1 : Int)))) _ (op_move rfl) rfl ?_
                      refine WL.nil ?_
                      obtain rfl := Option.some.inj hb105
                      show ∃ s, _ = Ctl.next s ∧ _
                      exact ⟨_, rfl, hf712, hf713, hf714, hf715, hf716, hf717, hf723, hf724, hf725, hf726, hf727, hf728, hf729, hf730, hf731, (ctr_next hl127 hr97), (ctr_rng hl127 hr97), hS733⟩
                · intro s746 f742 wd743 hs744 hI745
                  obtain ⟨⟩ := s746
                  replace hI745 : f742 1 = (Value.pointer (some ⟨b1, 0, none⟩)) ∧ f742 3 = (Value.int .i64 (k12 : Int)) ∧ f742 4 = u33 ∧ f742 5 = (Value.int .i64 (k39 : Int)) ∧ f742 6 = u65 ∧ f742 7 = (Value.int .i64 (k71 : Int)) ∧ f742 13 = v_r_Table ∧ f742 14 = (Value.int .i64 ((r_Table).length : Int)) ∧ f742 15 = (Value.int .i64 (k12 : Int)) ∧ f742 21 = v_r_Table ∧ f742 22 = (Value.int .i64 ((r_Table).length : Int)) ∧ f742 23 = (Value.int .i64 (k39 : Int)) ∧ f742 30 = (Value.int .i64 ((r_Table).length : Int)) ∧ f742 31 = (Value.int .i64 (k71 : Int)) ∧ f742 36 = (Value.int .i64 ((r_Table).length : Int)) ∧ f742 37 = Value.int .i64 (((r_Table).length : Nat) : Int) ∧ InR .i64 (((r_Table).length : Nat) : Int) ∧ St wd2 wd743 [] := hI745
                  obtain ⟨hf747, hf748, hf749, hf750, hf751, hf752, hf753, hf754, hf755, hf756, hf757, hf758, hf759, hf760, hf761, hf762, hr763, hS764⟩ := hI745
                  refine W.seq (W.region ?_)
                  refine WL.val (Value.bool (decide ((((r_Table).length : Nat) : Int) < ((r_Table).length : Int)))) _ (op_lss hf762 hf761) rfl ?_
                  have hl765 : ¬ (((r_Table).length : Nat) : Int) < ((r_Table).length : Int) := by omega
                  refine WL.nil ?_
                  refine W.seq ?_
                  refine W.condF (decide ((((r_Table).length : Nat) : Int) < ((r_Table).length : Int))) rfl (decide_eq_false hl765) ?_
                  refine W.exit ?_
                  show _ = _ ∧ _
                  exact ⟨rfl, _, hs744, hf747, hf748, hf749, hf750, hf751, hf753, hf754, hf755, hf756, hf757, hf758, hf759, hf760, hS764⟩
              · rintro f766 wd767 ⟨s769, rfl, hq768⟩
                replace hb76 := onRes_fin hb76
                obtain ⟨⟩ := s769
                replace hq768 : f766 1 = (Value.pointer (some ⟨b1, 0, none⟩)) ∧ f766 3 = (Value.int .i64 (k12 : Int)) ∧ f766 4 = u33 ∧ f766 5 = (Value.int .i64 (k39 : Int)) ∧ f766 6 = u65 ∧ f766 13 = v_r_Table ∧ f766 14 = (Value.int .i64 ((r_Table).length : Int)) ∧ f766 15 = (Value.int .i64 (k12 : Int)) ∧ f766 21 = v_r_Table ∧ f766 22 = (Value.int .i64 ((r_Table).length : Int)) ∧ f766 23 = (Value.int .i64 (k39 : Int)) ∧ f766 30 = (Value.int .i64 ((r_Table).length : Int)) ∧ f766 31 = (Value.int .i64 (k71 : Int)) ∧ St wd2 wd767 [] := hq768
                obtain ⟨hf770, hf771, hf772, hf773, hf774, hf775, hf776, hf777, hf778, hf779, hf780, hf781, hf782, hS783⟩ := hq768
                show W _ _ _ _ _ _
                refine W.region ?_
                refine WL.val (Value.int .i64 (w64 ((k71 : Int) + (1 : Int)))) _ (op_add hf782 rfl) rfl ?_
                refine WL.val (Value.int .i64 (w64 ((k71 : Int) + (1 : Int)))) _ (op_move rfl) rfl ?_
                refine WL.nil ?_
                obtain rfl := Option.some.inj hb76
                show ∃ s, _ = Ctl.next s ∧ _
                exact ⟨_, rfl, hf770, hf771, hf772, hf773, hf774, hf775, hf776, hf777, hf778, hf779, hf780, hf781, (ctr_next hl95 hr68), (ctr_rng hl95 hr68), hS783⟩
            · intro s790 f786 wd787 hs788 hI789
              obtain ⟨⟩ := s790
              replace hI789 : f786 1 = (Value.pointer (some ⟨b1, 0, none⟩)) ∧ f786 3 = (Value.int .i64 (k12 : Int)) ∧ f786 4 = u33 ∧ f786 5 = (Value.int .i64 (k39 : Int)) ∧ f786 6 = u65 ∧ f786 13 = v_r_Table ∧ f786 14 = (Value.int .i64 ((r_Table).length : Int)) ∧ f786 15 = (Value.int .i64 (k12 : Int)) ∧ f786 21 = v_r_Table ∧ f786 22 = (Value.int .i64 ((r_Table).length : Int)) ∧ f786 23 = (Value.int .i64 (k39 : Int)) ∧ f786 30 = (Value.int .i64 ((r_Table).length : Int)) ∧ f786 31 = Value.int .i64 (((r_Table).length : Nat) : Int) ∧ InR .i64 (((r_Table).length : Nat) : Int) ∧ St wd2 wd787 [] := hI789
              obtain ⟨hf791, hf792, hf793, hf794, hf795, hf796, hf797, hf798, hf799, hf800, hf801, hf802, hf803, hr804, hS805⟩ := hI789
              refine W.seq (W.region ?_)
              refine WL.val (Value.bool (decide ((((r_Table).length : Nat) : Int) < ((r_Table).length : Int)))) _ (op_lss hf803 hf802) rfl ?_
              have hl806 : ¬ (((r_Table).length : Nat) : Int) < ((r_Table).length : Int) := by omega
              refine WL.nil ?_
              refine W.seq ?_
              refine W.condF (decide ((((r_Table).length : Nat) : Int) < ((r_Table).length : Int))) rfl (decide_eq_false hl806) ?_
              refine W.exit ?_
              show _ = _ ∧ _
              exact ⟨rfl, _, hs788, hf791, hf792, hf793, hf796, hf797, hf798, hf799, hf800, hf801, hS805⟩
          · rintro f807 wd808 ⟨s810, rfl, hq809⟩
            replace hb44 := onRes_fin hb44
            obtain ⟨⟩ := s810
            replace hq809 : f807 1 = (Value.pointer (some ⟨b1, 0, none⟩)) ∧ f807 3 = (Value.int .i64 (k12 : Int)) ∧ f807 4 = u33 ∧ f807 13 = v_r_Table ∧ f807 14 = (Value.int .i64 ((r_Table).length : Int)) ∧ f807 15 = (Value.int .i64 (k12 : Int)) ∧ f807 21 = v_r_Table ∧ f807 22 = (Value.int .i64 ((r_Table).length : Int)) ∧ f807 23 = (Value.int .i64 (k39 : Int)) ∧ St wd2 wd808 [] := hq809
            obtain ⟨hf811, hf812, hf813, hf814, hf815, hf816, hf817, hf818, hf819, hS820⟩ := hq809
            show W _ _ _ _ _ _
            refine W.region ?_
            refine WL.val (Value.int .i64 (w64 ((k39 : Int) + (1 : Int)))) _ (op_add hf819 rfl) rfl ?_
            refine WL.val (Value.int .i64 (w64 ((k39 : Int) + (1 : Int)))) _ (op_move rfl) rfl ?_
            refine WL.nil ?_
            obtain rfl := Option.some.inj hb44
            show ∃ s, _ = Ctl.next s ∧ _
            exact ⟨_, rfl, hf811, hf812, hf813, hf814, hf815, hf816, hf817, hf818, (ctr_next hl59 hr36), (ctr_rng hl59 hr36), hS820⟩
        · intro s827 f823 wd824 hs825 hI826
          obtain ⟨⟩ := s827
          replace hI826 : f823 1 = (Value.pointer (some ⟨b1, 0, none⟩)) ∧ f823 3 = (Value.int .i64 (k12 : Int)) ∧ f823 4 = u33 ∧ f823 13 = v_r_Table ∧ f823 14 = (Value.int .i64 ((r_Table).length : Int)) ∧ f823 15 = (Value.int .i64 (k12 : Int)) ∧ f823 21 = v_r_Table ∧ f823 22 = (Value.int .i64 ((r_Table).length : Int)) ∧ f823 23 = Value.int .i64 (((r_Table).length : Nat) : Int) ∧ InR .i64 (((r_Table).length : Nat) : Int) ∧ St wd2 wd824 [] := hI826
          obtain ⟨hf828, hf829, hf830, hf831, hf832, hf833, hf834, hf835, hf836, hr837, hS838⟩ := hI826
          refine W.seq (W.region ?_)
          refine WL.val (Value.bool (decide ((((r_Table).length : Nat) : Int) < ((r_Table).length : Int)))) _ (op_lss hf836 hf835) rfl ?_
          have hl839 : ¬ (((r_Table).length : Nat) : Int) < ((r_Table).length : Int) := by omega
          refine WL.nil ?_
          refine W.seq ?_
          refine W.condF (decide ((((r_Table).length : Nat) : Int) < ((r_Table).length : Int))) rfl (decide_eq_false hl839) ?_
          refine W.exit ?_
          show _ = _ ∧ _
          exact ⟨rfl, _, hs825, hf828, hf831, hf832, hf833, hS838⟩
      · rintro f840 wd841 ⟨s843, rfl, hq842⟩
        replace hb17 := onRes_fin hb17
        obtain ⟨⟩ := s843
        replace hq842 : f840 1 = (Value.pointer (some ⟨b1, 0, none⟩)) ∧ f840 13 = v_r_Table ∧ f840 14 = (Value.int .i64 ((r_Table).length : Int)) ∧ f840 15 = (Value.int .i64 (k12 : Int)) ∧ St wd2 wd841 [] := hq842
        obtain ⟨hf844, hf845, hf846, hf847, hS848⟩ := hq842
        show W _ _ _ _ _ _
        refine W.region ?_
        refine WL.val (Value.int .i64 (w64 ((k12 : Int) + (1 : Int)))) _ (op_add hf847 rfl) rfl ?_
        refine WL.val (Value.int .i64 (w64 ((k12 : Int) + (1 : Int)))) _ (op_move rfl) rfl ?_
        refine WL.nil ?_
        obtain rfl := Option.some.inj hb17
        show ∃ s, _ = Ctl.next s ∧ _
        exact ⟨_, rfl, hf844, hf845, hf846, (ctr_next hl27 hr9), (ctr_rng hl27 hr9), hS848⟩
    · intro s855 f851 wd852 hs853 hI854
      obtain ⟨⟩ := s855
      replace hI854 : f851 1 = (Value.pointer (some ⟨b1, 0, none⟩)) ∧ f851 13 = v_r_Table ∧ f851 14 = (Value.int .i64 ((r_Table).length : Int)) ∧ f851 15 = Value.int .i64 (((r_Table).length : Nat) : Int) ∧ InR .i64 (((r_Table).length : Nat) : Int) ∧ St wd2 wd852 [] := hI854
      obtain ⟨hf856, hf857, hf858, hf859, hr860, hS861⟩ := hI854
      refine W.seq (W.region ?_)
      refine WL.val (Value.bool (decide ((((r_Table).length : Nat) : Int) < ((r_Table).length : Int)))) _ (op_lss hf859 hf858) rfl ?_
      have hl862 : ¬ (((r_Table).length : Nat) : Int) < ((r_Table).length : Int) := by omega
      refine WL.nil ?_
      refine W.seq ?_
      refine W.condF (decide ((((r_Table).length : Nat) : Int) < ((r_Table).length : Int))) rfl (decide_eq_false hl862) ?_
      refine W.exit ?_
      show _ = _ ∧ _
      exact ⟨rfl, _, hs853, hS861⟩
  · rintro f863 wd864 ⟨s866, rfl, hq865⟩
    replace h := onRes_fin h
    obtain ⟨⟩ := s866
    replace hq865 : St wd2 wd864 [] := hq865
    have hS867 := hq865
    refine W.seq (W.region ?_)
    refine WL.val (Value.slice none 0 0) _ (op_assign rfl) rfl ?_
    refine WL.nil ?_
    refine W.ret ?_
    obtain rfl := Option.some.inj h
    show FinP _ _ _ _ _ _ _
    exact FinP.ret _ (res1 rfl rfl) ⟨(Value.slice none 0 0), rfl, (fun _ => ⟨0, 0, rfl⟩), (Ext.trans hE7 hS867.ext), (St.out (St.pick (St.addNil (Ty.i .i64) hS867) [0] rfl) (hE7))⟩

theorem c_impl_Ring_fault {w : World} {r_Table : (List (List (List Int)))} {v_r_Table : Value} (r_r_Table : (Ty.sl (Ty.sl (Ty.sl (Ty.i .i64)))).rep w v_r_Table r_Table) {res : (List Int)} (h : p_impl_Ring_fault r_Table  = some res) :
    Ret Tryd.prog 66 #[(Value.agg #[v_r_Table])] w (fun v w' => ∃ (u0 : Value), v = u0 ∧ NilIff u0 res ∧ Ext w w' ∧ Sep w.heap.size w' [(Ty.sl (Ty.i .i64)).at u0 res]) := by
  unfold p_impl_Ring_fault at h
  have hS0 : St w w [] := St.start w
  refine Ret.start (fn := Tryd.f66) Tryd.func66 rfl 24 rfl rfl ?_
  refine W.seq (W.region ?_)
  refine WL.box hS0 rfl (cs := [v_r_Table]) rfl rfl ?_
  intro b1 wd2 hS3 he4 hx5
  replace hS3 : St w wd2 [bx b1 [v_r_Table]] := hS3
  have hx6 := St.boxAt hS3 0 rfl
  have hE7 : Ext w wd2 := hS3.ext
  have hS8 : St wd2 wd2 [] := St.start wd2
  refine WL.val (Value.slice none 0 0) _ (op_assign rfl) rfl ?_
  refine WL.nil ?_
  refine W.seq (W.seq (W.region ?_))
  refine WL.val (Value.agg #[v_r_Table]) _ (op_loadBox st_26 rfl (BoxAt.lift hS8.ext hx6) rfl rfl) rfl ?_
  obtain ⟨x9, hx10, h⟩ := bs h
  refine WL.call _ (op_call fn_81 (args1 rfl)) (c_impl_Ring_unitFault (Ty.lift _ (Ext.trans hE7 hS8.ext) r_r_Table) hx10) rfl ?_
  rintro u11 wd13 ⟨_, rfl, hn12, he14, hs15⟩
  have hS16 := St.join hS8 he14 hs15
  replace hS16 : St wd2 wd13 [(Ty.sl (Ty.i .i64)).at u11 x9] := hS16
  refine WL.val u11 _ (op_assign rfl) rfl ?_
  refine WL.nil ?_
  refine W.seq (W.region ?_)
  refine WL.val u11 _ (op_move rfl) rfl ?_
  refine WL.val (Value.bool (!(x9).isEmpty)) _ (op_neqNilL sl_33 (St.rep (t := (Ty.sl (Ty.i .i64))) hS16 0 rfl) hn12 rfl rfl) rfl ?_
  refine WL.nil ?_
  refine W.cond (!(x9).isEmpty) rfl (fun hc17 => ?_) (fun hc17 => ?_)
  · replace h := ip h hc17
    refine W.seq (W.region ?_)
    refine WL.val u11 _ (op_move rfl) rfl ?_
    refine WL.val u11 _ (op_assign rfl) rfl ?_
    refine WL.nil ?_
    refine W.ret ?_
    obtain rfl := Option.some.inj h
    show FinP _ _ _ _ _ _ _
    exact FinP.ret _ (res1 rfl rfl) ⟨u11, rfl, hn12, (Ext.trans hE7 hS16.ext), (St.out (St.pick hS16 [0] rfl) (hE7))⟩
  · replace h := inegb h hc17
    refine W.skip ?_
    refine W.seq (W.seq (W.region ?_))
    refine WL.val (Value.agg #[v_r_Table]) _ (op_loadBox st_26 rfl (BoxAt.lift hS16.ext hx6) rfl rfl) rfl ?_
    obtain ⟨x19, hx20, h⟩ := bs h
    refine WL.call _ (op_call fn_82 (args1 rfl)) (c_impl_Ring_dualFault (Ty.lift _ (Ext.trans hE7 hS16.ext) r_r_Table) hx20) rfl ?_
    rintro _ wd22 ⟨rfl, hr21, he23⟩
    have hS25 := St.extend hS16 he23
    replace hS25 : St wd2 wd22 [(Ty.sl (Ty.i .i64)).at u11 x9] := hS25
    refine WL.val (Value.int .i64 x19) _ (op_assign rfl) rfl ?_
    refine WL.nil ?_
    refine W.seq (W.region ?_)
    refine WL.val (Value.int .i64 x19) _ (op_move rfl) rfl ?_
    refine WL.val (Value.bool (decide (x19 ≥ (0 : Int)))) _ (op_geq rfl rfl) rfl ?_
    refine WL.nil ?_
    refine W.cond (decide (x19 ≥ (0 : Int))) rfl (fun hc26 => ?_) (fun hc26 => ?_)
    · replace h := ip h hc26
      refine W.seq (W.region ?_)
      refine WL.val (Value.int .i64 x19) _ (op_move rfl) rfl ?_
      refine WL.litFlat (t := (Ty.i .i64)) (flat_i .i64) [(Value.int .i64 (1 : Int)), (Value.int .i64 x19)] [(1 : Int), x19] hS25 sl_33 rfl rfl (fillL rfl ⟨rfl, rfl, rfl, rfl, rfl, rfl, trivial⟩) rfl rfl (litL ⟨⟨rfl, (inL rfl)⟩, ⟨rfl, hr21⟩, trivial⟩) rfl ?_
      intro u28 wd29 hS30 he31
      replace hS30 : St wd2 wd29 [(Ty.sl (Ty.i .i64)).at u11 x9, (Ty.sl (Ty.i .i64)).at u28 ([(1 : Int), x19] : (List Int))] := hS30
      refine WL.val u28 _ (op_assign rfl) rfl ?_
      refine WL.nil ?_
      refine W.ret ?_
      obtain rfl := Option.some.inj h
      show FinP _ _ _ _ _ _ _
      exact FinP.ret _ (res1 rfl rfl) ⟨u28, rfl, (nil_cons), (Ext.trans hE7 hS30.ext), (St.out (St.pick hS30 [1] rfl) (hE7))⟩
    · replace h := inegb h hc26
      refine W.skip ?_
      refine W.seq (W.seq (W.region ?_))
      refine WL.val (Value.agg #[v_r_Table]) _ (op_loadBox st_26 rfl (BoxAt.lift hS25.ext hx6) rfl rfl) rfl ?_
      obtain ⟨x32, hx33, h⟩ := bs h
      refine WL.call _ (op_call fn_83 (args1 rfl)) (c_impl_Ring_turnFault (Ty.lift _ (Ext.trans hE7 hS25.ext) r_r_Table) hx33) rfl ?_
      rintro u34 wd36 ⟨_, rfl, hn35, he37, hs38⟩
      have hS39 := St.join hS25 he37 hs38
      replace hS39 : St wd2 wd36 [(Ty.sl (Ty.i .i64)).at u11 x9, (Ty.sl (Ty.i .i64)).at u34 x32] := hS39
      refine WL.val u34 _ (op_assign rfl) rfl ?_
      refine WL.nil ?_
      refine W.seq (W.region ?_)
      refine WL.val u34 _ (op_move rfl) rfl ?_
      refine WL.val (Value.bool (!(x32).isEmpty)) _ (op_neqNilL sl_33 (St.rep (t := (Ty.sl (Ty.i .i64))) hS39 1 rfl) hn35 rfl rfl) rfl ?_
      refine WL.nil ?_
      refine W.cond (!(x32).isEmpty) rfl (fun hc40 => ?_) (fun hc40 => ?_)
      · replace h := ip h hc40
        refine W.seq (W.region ?_)
        refine WL.val u34 _ (op_move rfl) rfl ?_
        refine WL.val u34 _ (op_assign rfl) rfl ?_
        refine WL.nil ?_
        refine W.ret ?_
        obtain rfl := Option.some.inj h
        show FinP _ _ _ _ _ _ _
        exact FinP.ret _ (res1 rfl rfl) ⟨u34, rfl, hn35, (Ext.trans hE7 hS39.ext), (St.out (St.pick hS39 [1] rfl) (hE7))⟩
      · replace h := inegb h hc40
        refine W.skip ?_
        refine W.seq (W.region ?_)
        refine WL.val (Value.agg #[v_r_Table]) _ (op_loadBox st_26 rfl (BoxAt.lift hS39.ext hx6) rfl rfl) rfl ?_
        obtain ⟨x42, hx43, h⟩ := bs h
        refine WL.call _ (op_call fn_84 (args1 rfl)) (c_impl_Ring_bracketFault (Ty.lift _ (Ext.trans hE7 hS39.ext) r_r_Table) hx43) rfl ?_
        rintro u44 wd46 ⟨_, rfl, hn45, he47, hs48⟩
        have hS49 := St.join hS39 he47 hs48
        replace hS49 : St wd2 wd46 [(Ty.sl (Ty.i .i64)).at u11 x9, (Ty.sl (Ty.i .i64)).at u34 x32, (Ty.sl (Ty.i .i64)).at u44 x42] := hS49
        refine WL.val u44 _ (op_assign rfl) rfl ?_
        refine WL.nil ?_
        refine W.ret ?_
        obtain rfl := Option.some.inj h
        show FinP _ _ _ _ _ _ _
        exact FinP.ret _ (res1 rfl rfl) ⟨u44, rfl, hn45, (Ext.trans hE7 hS49.ext), (St.out (St.pick hS49 [2] rfl) (hE7))⟩

theorem c_impl_IsRing {w : World} {r_Table : (List (List (List Int)))} {v_r_Table : Value} (r_r_Table : (Ty.sl (Ty.sl (Ty.sl (Ty.i .i64)))).rep w v_r_Table r_Table) {res : Bool} (h : p_impl_IsRing r_Table  = some res) :
    Ret Tryd.prog 42 #[(Value.agg #[v_r_Table])] w (fun v w' => v = Value.bool res ∧ Ext w w') := by
  unfold p_impl_IsRing at h
  have hS0 : St w w [] := St.start w
  refine Ret.start (fn := Tryd.f42) Tryd.func42 rfl 10 rfl rfl ?_
  refine W.seq (W.region ?_)
  refine WL.box hS0 rfl (cs := [v_r_Table]) rfl rfl ?_
  intro b1 wd2 hS3 he4 hx5
  replace hS3 : St w wd2 [bx b1 [v_r_Table]] := hS3
  have hx6 := St.boxAt hS3 0 rfl
  have hE7 : Ext w wd2 := hS3.ext
  have hS8 : St wd2 wd2 [] := St.start wd2
  refine WL.val (Value.bool false) _ (op_assign rfl) rfl ?_
  refine WL.nil ?_
  refine W.seq (W.region ?_)
  refine WL.val (Value.agg #[v_r_Table]) _ (op_loadBox st_26 rfl (BoxAt.lift hS8.ext hx6) rfl rfl) rfl ?_
  obtain ⟨x9, hx10, h⟩ := bs h
  refine WL.call _ (op_call fn_65 (args1 rfl)) (c_impl_isCube (Ty.lift _ (Ext.trans hE7 hS8.ext) r_r_Table) hx10) rfl ?_
  rintro _ wd11 ⟨rfl, he12⟩
  have hS14 := St.extend hS8 he12
  replace hS14 : St wd2 wd11 [] := hS14
  refine WL.val (Value.bool x9) _ (op_move rfl) rfl ?_
  obtain ⟨x16, hj17, h⟩ := bs h
  refine WL.cut 4 (fun fq wq => fq 9 = Value.bool x16 ∧ St wd2 wq []) ?_ ?_
  · rcases Bool.eq_false_or_eq_true x9 with hc15 | hc15
    · replace hj17 := ip hj17 hc15
      refine WL.grun rfl (bool_of rfl hc15) ?_
      refine WL.val (Value.agg #[v_r_Table]) _ (op_loadBox st_26 rfl (BoxAt.lift hS14.ext hx6) rfl rfl) rfl ?_
      refine WL.grun rfl (bool_of rfl hc15) ?_
      obtain ⟨x21, hx22, hj17⟩ := bs hj17
      refine WL.call _ (op_call fn_66 (args1 rfl)) (c_impl_Ring_fault (Ty.lift _ (Ext.trans hE7 hS14.ext) r_r_Table) hx22) rfl ?_
      rintro u23 wd25 ⟨_, rfl, hn24, he26, hs27⟩
      have hS28 := St.join hS14 he26 hs27
      replace hS28 : St wd2 wd25 [(Ty.sl (Ty.i .i64)).at u23 x21] := hS28
      refine WL.grun rfl (bool_of rfl hc15) ?_
      refine WL.val (Value.bool (x21).isEmpty) _ (op_eqlNilL sl_33 (St.rep (t := (Ty.sl (Ty.i .i64))) hS28 0 rfl) hn24 rfl rfl) rfl ?_
      refine WL.val (Value.bool (x21).isEmpty) _ (op_pick_t (evb_of rfl hc15) rfl) rfl ?_
      refine WL.nil ?_
      obtain rfl := Option.some.inj hj17
      exact ⟨rfl, rfl, (St.pick hS28 [] rfl)⟩
    · replace hj17 := inegb hj17 hc15
      refine WL.gskip rfl (bool_of rfl hc15) rfl ?_
      refine WL.gskip rfl (bool_of rfl hc15) rfl ?_
      refine WL.gskip rfl (bool_of rfl hc15) rfl ?_
      refine WL.val (Value.bool false) _ (op_pick_f (evb_of rfl hc15) rfl) rfl ?_
      refine WL.nil ?_
      obtain rfl := Option.some.inj hj17
      exact ⟨rfl, rfl, hS14⟩
  · intro f18 wd19 hq20
    obtain ⟨hf29, hS30⟩ := hq20
    refine WL.val (Value.bool x16) _ (op_assign hf29) rfl ?_
    refine WL.nil ?_
    refine W.ret ?_
    obtain rfl := Option.some.inj h
    show FinP _ _ _ _ _ _ _
    exact FinP.ret _ (res1 rfl rfl) ⟨rfl, (Ext.trans hE7 hS30.ext)⟩

theorem c_impl_Ring_isSet {w : World} {r_Table : (List (List (List Int)))} {v_r_Table : Value} {set : Int} (r_r_Table : (Ty.sl (Ty.sl (Ty.sl (Ty.i .i64)))).rep w v_r_Table r_Table) (r_set : InR .i64 set) {res : Bool} (h : p_impl_Ring_isSet r_Table set  = some res) :
    Ret Tryd.prog 58 #[(Value.agg #[v_r_Table]), (Value.int .i64 set)] w (fun v w' => v = Value.bool res ∧ Ext w w') := by
  unfold p_impl_Ring_isSet at h
  have hS0 : St w w [] := St.start w
  refine Ret.start (fn := Tryd.f58) Tryd.func58 rfl 12 rfl rfl ?_
  refine W.seq (W.region ?_)
  refine WL.box hS0 rfl (cs := [v_r_Table]) rfl rfl ?_
  intro b1 wd2 hS3 he4 hx5
  replace hS3 : St w wd2 [bx b1 [v_r_Table]] := hS3
  have hx6 := St.boxAt hS3 0 rfl
  have hE7 : Ext w wd2 := hS3.ext
  have hS8 : St wd2 wd2 [] := St.start wd2
  refine WL.val (Value.bool false) _ (op_assign rfl) rfl ?_
  refine WL.nil ?_
  refine W.seq (W.region ?_)
  refine WL.val (Value.int .i64 set) _ (op_move rfl) rfl ?_
  refine WL.val (Value.pointer (some ⟨b1, 0, none⟩)) _ (op_fieldAddr fd_26_0 rfl) rfl ?_
  refine WL.val v_r_Table _ (op_load one_22 rfl (BoxAt.cell (BoxAt.lift hS8.ext hx6) rfl)) rfl ?_
  have hr9 := inR_len (Ty.lift _ (Ext.trans hE7 hS8.ext) r_r_Table)
  refine WL.val (Value.int .i64 ((r_Table).length : Int)) _ (op_lenL sl_22 (Ty.lift _ (Ext.trans hE7 hS8.ext) r_r_Table) rfl) rfl ?_
  obtain ⟨x10, hz11, h⟩ := bs h
  obtain ⟨h012, hz11⟩ := shlI_some hz11
  have hr13 : InR .i64 x10 := by rw [hz11]; exact inR_wrap _ _
  refine WL.val (Value.int .i64 x10) _ (by rw [hz11]; exact op_shl rfl rfl h012) rfl ?_
  refine WL.val (Value.int .i64 (w64 (x10 - (1 : Int)))) _ (op_sub rfl rfl) rfl ?_
  obtain ⟨x14, hx15, h⟩ := bs h
  refine WL.call _ (op_call fn_76 (args3 rfl rfl rfl)) (c_impl_within r_set (inL rfl) (inR_wrap _ _) hx15) rfl ?_
  rintro _ wd16 ⟨rfl, he17⟩
  have hS19 := St.extend hS8 he17
  replace hS19 : St wd2 wd16 [] := hS19
  refine WL.val (Value.bool x14) _ (op_assign rfl) rfl ?_
  refine WL.nil ?_
  refine W.ret ?_
  obtain rfl := Option.some.inj h
  show FinP _ _ _ _ _ _ _
  exact FinP.ret _ (res1 rfl rfl) ⟨rfl, (Ext.trans hE7 hS19.ext)⟩

theorem c_impl_setCode {w : World} {r_Table : (List (List (List Int)))} {v_r_Table : Value} {set : Int} (r_r_Table : (Ty.sl (Ty.sl (Ty.sl (Ty.i .i64)))).rep w v_r_Table r_Table) (r_set : InR .i64 set) {res : Int} (h : p_impl_setCode r_Table set  = some res) :
    Ret Tryd.prog 34 #[(Value.agg #[v_r_Table]), (Value.int .i64 set)] w (fun v w' => v = Value.int .i64 res ∧ InR .i64 res ∧ Ext w w') := by
  unfold p_impl_setCode at h
  have hS0 : St w w [] := St.start w
  refine Ret.start (fn := Tryd.f34) Tryd.func34 rfl 12 rfl rfl ?_
  refine W.seq (W.region ?_)
  refine WL.box hS0 rfl (cs := [v_r_Table]) rfl rfl ?_
  intro b1 wd2 hS3 he4 hx5
  replace hS3 : St w wd2 [bx b1 [v_r_Table]] := hS3
  have hx6 := St.boxAt hS3 0 rfl
  have hE7 : Ext w wd2 := hS3.ext
  have hS8 : St wd2 wd2 [] := St.start wd2
  refine WL.val (Value.int .i64 (0 : Int)) _ (op_assign rfl) rfl ?_
  refine WL.nil ?_
  refine W.seq (W.seq (W.region ?_))
  refine WL.val (Value.agg #[v_r_Table]) _ (op_loadBox st_26 rfl (BoxAt.lift hS8.ext hx6) rfl rfl) rfl ?_
  obtain ⟨x9, hx10, h⟩ := bs h
  refine WL.call _ (op_call fn_42 (args1 rfl)) (c_impl_IsRing (Ty.lift _ (Ext.trans hE7 hS8.ext) r_r_Table) hx10) rfl ?_
  rintro _ wd11 ⟨rfl, he12⟩
  have hS14 := St.extend hS8 he12
  replace hS14 : St wd2 wd11 [] := hS14
  refine WL.val (Value.bool (!x9)) _ (op_not rfl) rfl ?_
  refine WL.nil ?_
  refine W.cond (!x9) rfl (fun hc15 => ?_) (fun hc15 => ?_)
  · replace h := ip h hc15
    refine W.seq (W.region ?_)
    refine WL.val (Value.int .i64 (1 : Int)) _ (op_assign rfl) rfl ?_
    refine WL.nil ?_
    refine W.ret ?_
    obtain rfl := Option.some.inj h
    show FinP _ _ _ _ _ _ _
    exact FinP.ret _ (res1 rfl rfl) ⟨rfl, (inL rfl), (Ext.trans hE7 hS14.ext)⟩
  · replace h := inegb h hc15
    refine W.skip ?_
    refine W.seq (W.seq (W.region ?_))
    refine WL.val (Value.agg #[v_r_Table]) _ (op_loadBox st_26 rfl (BoxAt.lift hS14.ext hx6) rfl rfl) rfl ?_
    refine WL.val (Value.int .i64 set) _ (op_move rfl) rfl ?_
    obtain ⟨x17, hx18, h⟩ := bs h
    refine WL.call _ (op_call fn_58 (args2 rfl rfl)) (c_impl_Ring_isSet (Ty.lift _ (Ext.trans hE7 hS14.ext) r_r_Table) r_set hx18) rfl ?_
    rintro _ wd19 ⟨rfl, he20⟩
    have hS22 := St.extend hS14 he20
    replace hS22 : St wd2 wd19 [] := hS22
    refine WL.val (Value.bool (!x17)) _ (op_not rfl) rfl ?_
    refine WL.nil ?_
    refine W.cond (!x17) rfl (fun hc23 => ?_) (fun hc23 => ?_)
    · replace h := ip h hc23
      refine W.seq (W.region ?_)
      refine WL.val (Value.int .i64 (2 : Int)) _ (op_assign rfl) rfl ?_
      refine WL.nil ?_
      refine W.ret ?_
      obtain rfl := Option.some.inj h
      show FinP _ _ _ _ _ _ _
      exact FinP.ret _ (res1 rfl rfl) ⟨rfl, (inL rfl), (Ext.trans hE7 hS22.ext)⟩
    · replace h := inegb h hc23
      refine W.skip ?_
      refine W.seq (W.region ?_)
      refine WL.val (Value.int .i64 (0 : Int)) _ (op_assign rfl) rfl ?_
      refine WL.nil ?_
      refine W.ret ?_
      obtain rfl := Option.some.inj h
      show FinP _ _ _ _ _ _ _
      exact FinP.ret _ (res1 rfl rfl) ⟨rfl, (inL rfl), (Ext.trans hE7 hS22.ext)⟩

theorem c_impl_zeros {w : World} {rows : Int} {columns : Int} (r_rows : InR .i64 rows) (r_columns : InR .i64 columns) {res : (List (List Int))} (h : p_impl_zeros rows columns  = some res) :
    Ret Tryd.prog 48 #[(Value.int .i64 rows), (Value.int .i64 columns)] w (fun v w' => ∃ (u0 : Value), v = u0 ∧ Ext w w' ∧ Sep w.heap.size w' [(Ty.sl (Ty.sl (Ty.i .i64))).at u0 res]) := by
  unfold p_impl_zeros at h
  have hS0 : St w w [] := St.start w
  refine Ret.start (fn := Tryd.f48) Tryd.func48 rfl 17 rfl rfl ?_
  refine W.seq (W.region ?_)
  refine WL.val (Value.slice none 0 0) _ (op_assign rfl) rfl ?_
  refine WL.nil ?_
  refine W.seq (W.region ?_)
  refine WL.lit0 (t := (Ty.sl (Ty.i .i64))) hS0 sl_41 rfl rfl ?_
  intro u1 wd2 hS3 he4
  replace hS3 : St w wd2 [(Ty.sl (Ty.sl (Ty.i .i64))).at u1 ([] : (List (List Int)))] := hS3
  refine WL.val u1 _ (op_assign rfl) rfl ?_
  refine WL.nil ?_
  refine W.seq (W.seq (W.region ?_))
  refine WL.val (Value.int .i64 rows) _ (op_move rfl) rfl ?_
  refine WL.val (Value.int .i64 (0 : Int)) _ (op_move rfl) rfl ?_
  refine WL.nil ?_
  show W _ _ _ _ _ _
  obtain ⟨res5, hres6, h⟩ := bs h
  refine W.blockLoop (fun fq wq => ∃ s, res5 = Res.fin s ∧ ∃ (uu0 : Value), fq 5 = uu0 ∧ St w wq [(Ty.sl (Ty.sl (Ty.i .i64))).at uu0 s]) ?_ ?_
  · refine W.forN (fun k (s : (List (List Int))) fq wq => ∃ (uu0 : Value), fq 1 = (Value.int .i64 columns) ∧ fq 5 = uu0 ∧ fq 7 = (Value.int .i64 rows) ∧ fq 8 = Value.int .i64 (k : Int) ∧ InR .i64 (k : Int) ∧ St w wq [(Ty.sl (Ty.sl (Ty.i .i64))).at uu0 s]) hres6 ⟨u1, rfl, rfl, rfl, rfl, (inL rfl), hS3⟩ ?_ ?_
    · intro k7 x8 ct9 f10 wd11 hk12 hb13 hI14 hbrk15 hret16
      replace hI14 : ∃ (uu0 : Value), f10 1 = (Value.int .i64 columns) ∧ f10 5 = uu0 ∧ f10 7 = (Value.int .i64 rows) ∧ f10 8 = Value.int .i64 (k7 : Int) ∧ InR .i64 (k7 : Int) ∧ St w wd11 [(Ty.sl (Ty.sl (Ty.i .i64))).at uu0 x8] := hI14
      replace hb13 : p_impl_zeros_L1 columns k7 x8 = some ct9 := hb13
      unfold p_impl_zeros_L1 at hb13
      obtain ⟨u17, hf18, hf19, hf20, hf21, hr22, hS23⟩ := hI14
      refine W.seq (W.region ?_)
      refine WL.val (Value.bool (decide ((k7 : Int) < rows))) _ (op_lss hf21 hf20) rfl ?_
      have hl24 : (k7 : Int) < rows := by omega
      refine WL.nil ?_
      refine W.seq ?_
      refine W.condT (decide ((k7 : Int) < rows)) rfl (decide_eq_true hl24) ?_
      refine W.skip ?_
      refine W.seq ?_
      refine W.block ?_
      refine W.region ?_
      refine WL.val u17 _ (op_move hf19) rfl ?_
      refine WL.val (Value.int .i64 columns) _ (op_move hf18) rfl ?_
      obtain ⟨x26, hx27, hb13⟩ := bs hb13
      refine WL.make (t := (Ty.i .i64)) hS23 sl_33 (fun _ _ => ⟨rfl, (inL rfl)⟩) rfl rfl hx27 rfl rfl ?_
      intro u28 wd29 hS30 he31
      replace hS30 : St w wd29 [(Ty.sl (Ty.sl (Ty.i .i64))).at u17 x8, (Ty.sl (Ty.i .i64)).at u28 x26] := hS30
      refine WL.lit [u28] hS30 sl_41 rfl rfl (fillL rfl ⟨rfl, rfl, (cells_rep (St.rep (t := (Ty.sl (Ty.i .i64))) hS30 1 rfl)), trivial⟩) rfl rfl ?_
      intro b36 wd33 hS34 he35 hx37
      replace hS34 : St w wd33 [(Ty.sl (Ty.sl (Ty.i .i64))).at u17 x8, (Ty.sl (Ty.i .i64)).at u28 x26, bx b36 [u28]] := hS34
      obtain ⟨x38, hx39, hb13⟩ := bs hb13
      refine WL.appendRow hS34 (k := 0) (k2 := 1) (k3 := 2) rfl rfl rfl rfl sl_41 rfl rfl rfl rfl hx39 rfl ?_
      intro u40 wd41 hS42 hz43
      replace hS42 : St w wd41 [(Ty.sl (Ty.sl (Ty.i .i64))).at u40 x38, emp, bx b36 [u28]] := hS42
      refine WL.val u40 _ (op_assign rfl) rfl ?_
      refine WL.nil ?_
      show W _ _ _ _ _ _
      refine W.region ?_
      refine WL.val (Value.int .i64 (w64 ((k7 : Int) + (1 : Int)))) _ (op_add hf21 rfl) rfl ?_
      refine WL.val (Value.int .i64 (w64 ((k7 : Int) + (1 : Int)))) _ (op_move rfl) rfl ?_
      refine WL.nil ?_
      obtain rfl := Option.some.inj hb13
      show ∃ s, _ = Ctl.next s ∧ _
      exact ⟨_, rfl, u40, hf18, rfl, hf20, (ctr_next hl24 r_rows), (ctr_rng hl24 r_rows), (St.pick hS42 [0] rfl)⟩
    · intro x50 f45 wd46 hs47 hI48
      replace hI48 : ∃ (uu0 : Value), f45 1 = (Value.int .i64 columns) ∧ f45 5 = uu0 ∧ f45 7 = (Value.int .i64 rows) ∧ f45 8 = Value.int .i64 (((rows).toNat : Nat) : Int) ∧ InR .i64 (((rows).toNat : Nat) : Int) ∧ St w wd46 [(Ty.sl (Ty.sl (Ty.i .i64))).at uu0 x50] := hI48
      obtain ⟨u51, hf52, hf53, hf54, hf55, hr56, hS57⟩ := hI48
      refine W.seq (W.region ?_)
      refine WL.val (Value.bool (decide ((((rows).toNat : Nat) : Int) < rows))) _ (op_lss hf55 hf54) rfl ?_
      have hl58 : ¬ (((rows).toNat : Nat) : Int) < rows := by omega
      refine WL.nil ?_
      refine W.seq ?_
      refine W.condF (decide ((((rows).toNat : Nat) : Int) < rows)) rfl (decide_eq_false hl58) ?_
      refine W.exit ?_
      show _ = _ ∧ _
      exact ⟨rfl, _, hs47, u51, hf53, hS57⟩
  · rintro f59 wd60 ⟨x63, rfl, hq61⟩
    replace h := onRes_fin h
    replace hq61 : ∃ (uu0 : Value), f59 5 = uu0 ∧ St w wd60 [(Ty.sl (Ty.sl (Ty.i .i64))).at uu0 x63] := hq61
    obtain ⟨u64, hf65, hS66⟩ := hq61
    refine W.seq (W.region ?_)
    refine WL.val u64 _ (op_move hf65) rfl ?_
    refine WL.val u64 _ (op_assign rfl) rfl ?_
    refine WL.nil ?_
    refine W.ret ?_
    obtain rfl := Option.some.inj h
    show FinP _ _ _ _ _ _ _
    exact FinP.ret _ (res1 rfl rfl) ⟨u64, rfl, hS66.ext, (St.out (St.pick hS66 [0] rfl) (Ext.refl _))⟩

theorem c_impl_Ring_supports {w : World} {r_Table : (List (List (List Int)))} {v_r_Table : Value} (r_r_Table : (Ty.sl (Ty.sl (Ty.sl (Ty.i .i64)))).rep w v_r_Table r_Table) {res : (List (List Int))} (h : p_impl_Ring_supports r_Table  = some res) :
    Ret Tryd.prog 47 #[(Value.agg #[v_r_Table])] w (fun v w' => ∃ (u0 : Value), v = u0 ∧ Ext w w' ∧ Sep w.heap.size w' [(Ty.sl (Ty.sl (Ty.i .i64))).at u0 res]) := by
  unfold p_impl_Ring_supports at h
  have hS0 : St w w [] := St.start w
  refine Ret.start (fn := Tryd.f47) Tryd.func47 rfl 56 rfl rfl ?_
  refine W.seq (W.region ?_)
  refine WL.box hS0 rfl (cs := [v_r_Table]) rfl rfl ?_
  intro b1 wd2 hS3 he4 hx5
  replace hS3 : St w wd2 [bx b1 [v_r_Table]] := hS3
  have hx6 := St.boxAt hS3 0 rfl
  have hE7 : Ext w wd2 := hS3.ext
  have hS8 : St wd2 wd2 [] := St.start wd2
  refine WL.val (Value.slice none 0 0) _ (op_assign rfl) rfl ?_
  refine WL.nil ?_
  refine W.seq (W.region ?_)
  refine WL.val (Value.pointer (some ⟨b1, 0, none⟩)) _ (op_fieldAddr fd_26_0 rfl) rfl ?_
  refine WL.val v_r_Table _ (op_load one_22 rfl (BoxAt.cell (BoxAt.lift hS8.ext hx6) rfl)) rfl ?_
  have hr9 := inR_len (Ty.lift _ (Ext.trans hE7 hS8.ext) r_r_Table)
  refine WL.val (Value.int .i64 ((r_Table).length : Int)) _ (op_lenL sl_22 (Ty.lift _ (Ext.trans hE7 hS8.ext) r_r_Table) rfl) rfl ?_
  refine WL.val (Value.pointer (some ⟨b1, 0, none⟩)) _ (op_fieldAddr fd_26_0 rfl) rfl ?_
  refine WL.val v_r_Table _ (op_load one_22 rfl (BoxAt.cell (BoxAt.lift hS8.ext hx6) rfl)) rfl ?_
  have hr10 := inR_len (Ty.lift _ (Ext.trans hE7 hS8.ext) r_r_Table)
  refine WL.val (Value.int .i64 ((r_Table).length : Int)) _ (op_lenL sl_22 (Ty.lift _ (Ext.trans hE7 hS8.ext) r_r_Table) rfl) rfl ?_
  obtain ⟨x11, hx12, h⟩ := bs h
  refine WL.call _ (op_call fn_48 (args2 rfl rfl)) (c_impl_zeros hr9 hr10 hx12) rfl ?_
  rintro u13 wd14 ⟨_, rfl, he15, hs16⟩
  have hS17 := St.join hS8 he15 hs16
  replace hS17 : St wd2 wd14 [(Ty.sl (Ty.sl (Ty.i .i64))).at u13 x11] := hS17
  refine WL.val u13 _ (op_assign rfl) rfl ?_
  refine WL.nil ?_
  refine W.seq (W.seq (W.region ?_))
  refine WL.val (Value.pointer (some ⟨b1, 0, none⟩)) _ (op_fieldAddr fd_26_0 rfl) rfl ?_
  refine WL.val v_r_Table _ (op_load one_22 rfl (BoxAt.cell (BoxAt.lift hS17.ext hx6) rfl)) rfl ?_
  have hr18 := inR_len (Ty.lift _ (Ext.trans hE7 hS17.ext) r_r_Table)
  refine WL.val (Value.int .i64 ((r_Table).length : Int)) _ (op_lenL sl_22 (Ty.lift _ (Ext.trans hE7 hS17.ext) r_r_Table) rfl) rfl ?_
  refine WL.val (Value.int .i64 (0 : Int)) _ (op_move rfl) rfl ?_
  refine WL.nil ?_
  show W _ _ _ _ _ _
  obtain ⟨res19, hres20, h⟩ := bs h
  refine W.blockLoop (fun fq wq => ∃ s, res19 = Res.fin s ∧ fq 3 = u13 ∧ St wd2 wq [(Ty.sl (Ty.sl (Ty.i .i64))).at u13 s]) ?_ ?_
  · refine W.forN (fun k (s : (List (List Int))) fq wq => fq 3 = u13 ∧ fq 18 = v_r_Table ∧ fq 19 = (Value.int .i64 ((r_Table).length : Int)) ∧ fq 20 = Value.int .i64 (k : Int) ∧ InR .i64 (k : Int) ∧ St wd2 wq [(Ty.sl (Ty.sl (Ty.i .i64))).at u13 s]) hres20 ⟨rfl, rfl, rfl, rfl, (inL rfl), hS17⟩ ?_ ?_
    · intro k21 x22 ct23 f24 wd25 hk26 hb27 hI28 hbrk29 hret30
      replace hI28 : f24 3 = u13 ∧ f24 18 = v_r_Table ∧ f24 19 = (Value.int .i64 ((r_Table).length : Int)) ∧ f24 20 = Value.int .i64 (k21 : Int) ∧ InR .i64 (k21 : Int) ∧ St wd2 wd25 [(Ty.sl (Ty.sl (Ty.i .i64))).at u13 x22] := hI28
      replace hb27 : p_impl_Ring_supports_L1 r_Table k21 x22 = some ct23 := hb27
      unfold p_impl_Ring_supports_L1 at hb27
      obtain ⟨hf31, hf32, hf33, hf34, hr35, hS36⟩ := hI28
      refine W.seq (W.region ?_)
      refine WL.val (Value.bool (decide ((k21 : Int) < ((r_Table).length : Int)))) _ (op_lss hf34 hf33) rfl ?_
      have hl37 : (k21 : Int) < ((r_Table).length : Int) := by omega
      refine WL.nil ?_
      refine W.seq ?_
      refine W.condT (decide ((k21 : Int) < ((r_Table).length : Int))) rfl (decide_eq_true hl37) ?_
      refine W.skip ?_
      refine W.seq ?_
      refine W.block ?_
      refine W.seq (W.region ?_)
      refine WL.val (Value.int .i64 (k21 : Int)) _ (op_move hf34) rfl ?_
      obtain ⟨x39, hx42, hb27⟩ := bs hb27
      obtain ⟨ha40, hb41, hx42⟩ := idx_some hx42
      refine WL.val (Value.pointer (some (elA v_r_Table ((k21 : Int)).toNat))) _ (op_idx sl_22 (Ty.lift _ (Ext.trans hE7 hS36.ext) r_r_Table) hf32 hf34 ha40 hb41) rfl ?_
      obtain ⟨u43, hc44, hr45⟩ := repSl.el r_r_Table hx42
      refine WL.val u43 _ (op_load one_41 rfl (Ext.cell (Ext.trans hE7 hS36.ext) hc44)) rfl ?_
      refine WL.val (Value.int .i64 (k21 : Int)) _ (op_assign rfl) rfl ?_
      refine WL.val u43 _ (op_assign rfl) rfl ?_
      refine WL.nil ?_
      refine W.seq (W.region ?_)
      refine WL.val u43 _ (op_move rfl) rfl ?_
      have hr46 := inR_len (Ty.lift _ (Ext.trans hE7 hS36.ext) hr45)
      refine WL.val (Value.int .i64 ((x39).length : Int)) _ (op_lenL sl_41 (Ty.lift _ (Ext.trans hE7 hS36.ext) hr45) rfl) rfl ?_
      refine WL.val (Value.int .i64 (0 : Int)) _ (op_move rfl) rfl ?_
      refine WL.nil ?_
      show W _ _ _ _ _ _
      obtain ⟨res47, hres48, hb27⟩ := bs hb27
      refine W.blockLoop (fun fq wq => ∃ s, res47 = Res.fin s ∧ fq 3 = u13 ∧ fq 18 = v_r_Table ∧ fq 19 = (Value.int .i64 ((r_Table).length : Int)) ∧ fq 20 = (Value.int .i64 (k21 : Int)) ∧ St wd2 wq [(Ty.sl (Ty.sl (Ty.i .i64))).at u13 s]) ?_ ?_
      · refine W.forN (fun k (s : (List (List Int))) fq wq => fq 3 = u13 ∧ fq 4 = (Value.int .i64 (k21 : Int)) ∧ fq 18 = v_r_Table ∧ fq 19 = (Value.int .i64 ((r_Table).length : Int)) ∧ fq 20 = (Value.int .i64 (k21 : Int)) ∧ fq 25 = u43 ∧ fq 26 = (Value.int .i64 ((x39).length : Int)) ∧ fq 27 = Value.int .i64 (k : Int) ∧ InR .i64 (k : Int) ∧ St wd2 wq [(Ty.sl (Ty.sl (Ty.i .i64))).at u13 s]) hres48 ⟨hf31, rfl, hf32, hf33, hf34, rfl, rfl, rfl, (inL rfl), hS36⟩ ?_ ?_
        · intro k49 x50 ct51 f52 wd53 hk54 hb55 hI56 hbrk57 hret58
          replace hI56 : f52 3 = u13 ∧ f52 4 = (Value.int .i64 (k21 : Int)) ∧ f52 18 = v_r_Table ∧ f52 19 = (Value.int .i64 ((r_Table).length : Int)) ∧ f52 20 = (Value.int .i64 (k21 : Int)) ∧ f52 25 = u43 ∧ f52 26 = (Value.int .i64 ((x39).length : Int)) ∧ f52 27 = Value.int .i64 (k49 : Int) ∧ InR .i64 (k49 : Int) ∧ St wd2 wd53 [(Ty.sl (Ty.sl (Ty.i .i64))).at u13 x50] := hI56
          replace hb55 : p_impl_Ring_supports_L2 x39 k21 k49 x50 = some ct51 := hb55
          unfold p_impl_Ring_supports_L2 at hb55
          obtain ⟨hf59, hf60, hf61, hf62, hf63, hf64, hf65, hf66, hr67, hS68⟩ := hI56
          refine W.seq (W.region ?_)
          refine WL.val (Value.bool (decide ((k49 : Int) < ((x39).length : Int)))) _ (op_lss hf66 hf65) rfl ?_
          have hl69 : (k49 : Int) < ((x39).length : Int) := by omega
          refine WL.nil ?_
          refine W.seq ?_
          refine W.condT (decide ((k49 : Int) < ((x39).length : Int))) rfl (decide_eq_true hl69) ?_
          refine W.skip ?_
          refine W.seq ?_
          refine W.block ?_
          refine W.seq (W.region ?_)
          refine WL.val (Value.int .i64 (k49 : Int)) _ (op_move hf66) rfl ?_
          obtain ⟨x71, hx74, hb55⟩ := bs hb55
          obtain ⟨ha72, hb73, hx74⟩ := idx_some hx74
          refine WL.val (Value.pointer (some (elA u43 ((k49 : Int)).toNat))) _ (op_idx sl_41 (Ty.lift _ (Ext.trans hE7 hS68.ext) hr45) hf64 hf66 ha72 hb73) rfl ?_
          obtain ⟨u75, hc76, hr77⟩ := repSl.el hr45 hx74
          refine WL.val u75 _ (op_load one_33 rfl (Ext.cell (Ext.trans hE7 hS68.ext) hc76)) rfl ?_
          refine WL.val (Value.int .i64 (k49 : Int)) _ (op_assign rfl) rfl ?_
          refine WL.val u75 _ (op_assign rfl) rfl ?_
          refine WL.nil ?_
          refine W.seq (W.region ?_)
          refine WL.val u75 _ (op_move rfl) rfl ?_
          have hr78 := inR_len (Ty.lift _ (Ext.trans hE7 hS68.ext) hr77)
          refine WL.val (Value.int .i64 ((x71).length : Int)) _ (op_lenL sl_33 (Ty.lift _ (Ext.trans hE7 hS68.ext) hr77) rfl) rfl ?_
          refine WL.val (Value.int .i64 (0 : Int)) _ (op_move rfl) rfl ?_
          refine WL.nil ?_
          show W _ _ _ _ _ _
          obtain ⟨res79, hres80, hb55⟩ := bs hb55
          refine W.blockLoop (fun fq wq => ∃ s, res79 = Res.fin s ∧ fq 3 = u13 ∧ fq 4 = (Value.int .i64 (k21 : Int)) ∧ fq 18 = v_r_Table ∧ fq 19 = (Value.int .i64 ((r_Table).length : Int)) ∧ fq 20 = (Value.int .i64 (k21 : Int)) ∧ fq 25 = u43 ∧ fq 26 = (Value.int .i64 ((x39).length : Int)) ∧ fq 27 = (Value.int .i64 (k49 : Int)) ∧ St wd2 wq [(Ty.sl (Ty.sl (Ty.i .i64))).at u13 s]) ?_ ?_
          · refine W.forN (fun k (s : (List (List Int))) fq wq => fq 3 = u13 ∧ fq 4 = (Value.int .i64 (k21 : Int)) ∧ fq 6 = (Value.int .i64 (k49 : Int)) ∧ fq 18 = v_r_Table ∧ fq 19 = (Value.int .i64 ((r_Table).length : Int)) ∧ fq 20 = (Value.int .i64 (k21 : Int)) ∧ fq 25 = u43 ∧ fq 26 = (Value.int .i64 ((x39).length : Int)) ∧ fq 27 = (Value.int .i64 (k49 : Int)) ∧ fq 32 = u75 ∧ fq 33 = (Value.int .i64 ((x71).length : Int)) ∧ fq 34 = Value.int .i64 (k : Int) ∧ InR .i64 (k : Int) ∧ St wd2 wq [(Ty.sl (Ty.sl (Ty.i .i64))).at u13 s]) hres80 ⟨hf59, hf60, rfl, hf61, hf62, hf63, hf64, hf65, hf66, rfl, rfl, rfl, (inL rfl), hS68⟩ ?_ ?_
            · intro k81 x82 ct83 f84 wd85 hk86 hb87 hI88 hbrk89 hret90
              replace hI88 : f84 3 = u13 ∧ f84 4 = (Value.int .i64 (k21 : Int)) ∧ f84 6 = (Value.int .i64 (k49 : Int)) ∧ f84 18 = v_r_Table ∧ f84 19 = (Value.int .i64 ((r_Table).length : Int)) ∧ f84 20 = (Value.int .i64 (k21 : Int)) ∧ f84 25 = u43 ∧ f84 26 = (Value.int .i64 ((x39).length : Int)) ∧ f84 27 = (Value.int .i64 (k49 : Int)) ∧ f84 32 = u75 ∧ f84 33 = (Value.int .i64 ((x71).length : Int)) ∧ f84 34 = Value.int .i64 (k81 : Int) ∧ InR .i64 (k81 : Int) ∧ St wd2 wd85 [(Ty.sl (Ty.sl (Ty.i .i64))).at u13 x82] := hI88
              replace hb87 : p_impl_Ring_supports_L3 x71 k21 k49 k81 x82 = some ct83 := hb87
              unfold p_impl_Ring_supports_L3 at hb87
              obtain ⟨hf91, hf92, hf93, hf94, hf95, hf96, hf97, hf98, hf99, hf100, hf101, hf102, hr103, hS104⟩ := hI88
              refine W.seq (W.region ?_)
              refine WL.val (Value.bool (decide ((k81 : Int) < ((x71).length : Int)))) _ (op_lss hf102 hf101) rfl ?_
              have hl105 : (k81 : Int) < ((x71).length : Int) := by omega
              refine WL.nil ?_
              refine W.seq ?_
              refine W.condT (decide ((k81 : Int) < ((x71).length : Int))) rfl (decide_eq_true hl105) ?_
              refine W.skip ?_
              refine W.seq ?_
              refine W.block ?_
              refine W.seq (W.region ?_)
              refine WL.val (Value.int .i64 (k81 : Int)) _ (op_move hf102) rfl ?_
              obtain ⟨x107, hx110, hb87⟩ := bs hb87
              obtain ⟨ha108, hb109, hx110⟩ := idx_some hx110
              refine WL.val (Value.pointer (some (elA u75 ((k81 : Int)).toNat))) _ (op_idx sl_33 (Ty.lift _ (Ext.trans hE7 hS104.ext) hr77) hf100 hf102 ha108 hb109) rfl ?_
              obtain ⟨u111, hc112, hr113⟩ := repSl.el hr77 hx110
              obtain ⟨rfl, hr113⟩ := hr113
              refine WL.val (Value.int .i64 x107) _ (op_load one_2 rfl (Ext.cell (Ext.trans hE7 hS104.ext) hc112)) rfl ?_
              refine WL.val (Value.int .i64 (k81 : Int)) _ (op_assign rfl) rfl ?_
              refine WL.val (Value.int .i64 x107) _ (op_assign rfl) rfl ?_
              refine WL.nil ?_
              refine W.seq (W.region ?_)
              refine WL.val (Value.int .i64 x107) _ (op_move rfl) rfl ?_
              refine WL.val (Value.bool (decide (x107 > (0 : Int)))) _ (op_gtr rfl rfl) rfl ?_
              refine WL.nil ?_
              show W _ _ _ _ _ _
              obtain ⟨x114, hj115, hb87⟩ := bs hb87
              refine W.cutCode (fun fq wq => fq 3 = u13 ∧ fq 4 = (Value.int .i64 (k21 : Int)) ∧ fq 6 = (Value.int .i64 (k49 : Int)) ∧ fq 18 = v_r_Table ∧ fq 19 = (Value.int .i64 ((r_Table).length : Int)) ∧ fq 20 = (Value.int .i64 (k21 : Int)) ∧ fq 25 = u43 ∧ fq 26 = (Value.int .i64 ((x39).length : Int)) ∧ fq 27 = (Value.int .i64 (k49 : Int)) ∧ fq 32 = u75 ∧ fq 33 = (Value.int .i64 ((x71).length : Int)) ∧ fq 34 = (Value.int .i64 (k81 : Int)) ∧ St wd2 wq [(Ty.sl (Ty.sl (Ty.i .i64))).at u13 x114]) ?_ ?_
              · refine W.cond (decide (x107 > (0 : Int))) rfl (fun hc116 => ?_) (fun hc116 => ?_)
                · replace hj115 := ip hj115 hc116
                  obtain ⟨x146, hx149, hj115⟩ := bs hj115
                  obtain ⟨ha147, hb148, hx149⟩ := idx_some hx149
                  obtain ⟨u160, hc161, hr162⟩ := repSl.el (St.rep (t := (Ty.sl (Ty.sl (Ty.i .i64)))) hS104 0 rfl) hx149
                  obtain ⟨x185, hx188, hj115⟩ := bs hj115
                  obtain ⟨ha186, hb187, hx188⟩ := idx_some hx188
                  obtain ⟨u199, hc200, hr201⟩ := repSl.el hr162 hx188
                  obtain ⟨rfl, hr201⟩ := hr201
                  obtain ⟨x220, hz221, hj115⟩ := bs hj115
                  obtain ⟨h0222, hz221⟩ := shlI_some hz221
                  refine W.drawR mixo 9 [] [fun _ v _ _ => v = u13, fun _ v _ _ => v = (Value.int .i64 (k21 : Int)) ∧ InR .i64 (k21 : Int), fun _ v _ _ => v = (Value.pointer (some (elA u13 ((k21 : Int)).toNat))), fun _ v _ _ => v = u160, fun _ v _ _ => v = (Value.int .i64 (k49 : Int)) ∧ InR .i64 (k49 : Int), fun _ v _ _ => v = (Value.pointer (some (elA u160 ((k49 : Int)).toNat))), fun _ v _ _ => v = (Value.int .i64 x185) ∧ InR .i64 x185, fun _ v _ _ => v = (Value.int .i64 (k81 : Int)) ∧ InR .i64 (k81 : Int), fun _ v _ _ => v = (Value.int .i64 x220) ∧ InR .i64 x220] (by kernel_rfl) (by kernel_rfl) ⟨pk, pk, pk, pk, pk, pk, pk, pk, pk, trivial⟩ ⟨?_, ?_, ?_, ?_, ?_, ?_, ?_, ?_, ?_, trivial⟩ ?_
                  · refine ObX.op rfl fun f117 wd118 he119 hout120 hphi121 => ?_
                    have e123 : f117 3 = u13 := (hout120 3 rfl).trans hf91
                    exact OpX.val u13 wd118 rfl (op_move e123) (Ext.refl _) rfl
                  · refine ObX.op rfl fun f124 wd125 he126 hout127 hphi128 => ?_
                    have e130 : f124 4 = (Value.int .i64 (k21 : Int)) := (hout127 4 rfl).trans hf92
                    exact OpX.val (Value.int .i64 (k21 : Int)) wd125 rfl (op_move e130) (Ext.refl _) ⟨rfl, hr35⟩
                  · refine ObX.op rfl fun f131 wd132 he133 hout134 hphi135 => ?_
                    have hS136 := St.extend hS104 he133
                    obtain ⟨S137, hS138, hf139⟩ := hphi135 0 41 _ rfl rfl rfl
                    have e140 : f131 41 = u13 := hf139
                    obtain ⟨S141, hS142, hf143⟩ := hphi135 1 42 _ rfl rfl rfl
                    obtain ⟨e144, hr145⟩ := hf143
                    exact OpX.val (Value.pointer (some (elA u13 ((k21 : Int)).toNat))) wd132 rfl (op_idx sl_41 (St.rep (t := (Ty.sl (Ty.sl (Ty.i .i64)))) hS136 0 rfl) e140 e144 ha147 hb148) (Ext.refl _) rfl
                  · refine ObX.op rfl fun f150 wd151 he152 hout153 hphi154 => ?_
                    obtain ⟨S156, hS157, hf158⟩ := hphi154 2 43 _ rfl rfl rfl
                    have e159 : f150 43 = (Value.pointer (some (elA u13 ((k21 : Int)).toNat))) := hf158
                    exact OpX.val u160 wd151 rfl (op_load one_33 e159 (Ext.cell he152 hc161)) (Ext.refl _) rfl
                  · refine ObX.op rfl fun f163 wd164 he165 hout166 hphi167 => ?_
                    have e169 : f163 6 = (Value.int .i64 (k49 : Int)) := (hout166 6 rfl).trans hf93
                    exact OpX.val (Value.int .i64 (k49 : Int)) wd164 rfl (op_move e169) (Ext.refl _) ⟨rfl, hr67⟩
                  · refine ObX.op rfl fun f170 wd171 he172 hout173 hphi174 => ?_
                    obtain ⟨S176, hS177, hf178⟩ := hphi174 3 44 _ rfl rfl rfl
                    have e179 : f170 44 = u160 := hf178
                    obtain ⟨S180, hS181, hf182⟩ := hphi174 4 45 _ rfl rfl rfl
                    obtain ⟨e183, hr184⟩ := hf182
                    exact OpX.val (Value.pointer (some (elA u160 ((k49 : Int)).toNat))) wd171 rfl (op_idx sl_33 (Ty.lift _ he172 hr162) e179 e183 ha186 hb187) (Ext.refl _) rfl
                  · refine ObX.op rfl fun f189 wd190 he191 hout192 hphi193 => ?_
                    obtain ⟨S195, hS196, hf197⟩ := hphi193 5 46 _ rfl rfl rfl
                    have e198 : f189 46 = (Value.pointer (some (elA u160 ((k49 : Int)).toNat))) := hf197
                    exact OpX.val (Value.int .i64 x185) wd190 rfl (op_load one_2 e198 (Ext.cell he191 hc200)) (Ext.refl _) ⟨rfl, hr201⟩
                  · refine ObX.op rfl fun f202 wd203 he204 hout205 hphi206 => ?_
                    have e208 : f202 8 = (Value.int .i64 (k81 : Int)) := (hout205 8 rfl).trans rfl
                    exact OpX.val (Value.int .i64 (k81 : Int)) wd203 rfl (op_move e208) (Ext.refl _) ⟨rfl, hr103⟩
                  · refine ObX.op rfl fun f209 wd210 he211 hout212 hphi213 => ?_
                    obtain ⟨S215, hS216, hf217⟩ := hphi213 7 48 _ rfl rfl rfl
                    obtain ⟨e218, hr219⟩ := hf217
                    have hr223 : InR .i64 x220 := by rw [hz221]; exact inR_wrap _ _
                    exact OpX.val (Value.int .i64 x220) wd210 rfl (by rw [hz221]; exact op_shl rfl e218 h0222) (Ext.refl _) ⟨rfl, hr223⟩
                  · intro f224 wd225 Ss226 he227 hout228 hSn229 hSd230 hphi231
                    show WL _ _ _ _ _ _ _
                    have hS232 := St.extend hS104 he227
                    have e233 : f224 44 = u160 := hphi231 3 44 _ (by decide) rfl rfl
                    obtain ⟨e234, hr235⟩ := hphi231 4 45 _ (by decide) rfl rfl
                    obtain ⟨e236, hr237⟩ := hphi231 6 47 _ (by decide) rfl rfl
                    obtain ⟨e238, hr239⟩ := hphi231 8 49 _ (by decide) rfl rfl
                    have e240 : f224 3 = u13 := (hout228 3 rfl).trans hf91
                    have e241 : f224 4 = (Value.int .i64 (k21 : Int)) := (hout228 4 rfl).trans hf92
                    have e242 : f224 6 = (Value.int .i64 (k49 : Int)) := (hout228 6 rfl).trans hf93
                    have e243 : f224 18 = v_r_Table := (hout228 18 rfl).trans hf94
                    have e244 : f224 19 = (Value.int .i64 ((r_Table).length : Int)) := (hout228 19 rfl).trans hf95
                    have e245 : f224 20 = (Value.int .i64 (k21 : Int)) := (hout228 20 rfl).trans hf96
                    have e246 : f224 25 = u43 := (hout228 25 rfl).trans hf97
                    have e247 : f224 26 = (Value.int .i64 ((x39).length : Int)) := (hout228 26 rfl).trans hf98
                    have e248 : f224 27 = (Value.int .i64 (k49 : Int)) := (hout228 27 rfl).trans hf99
                    have e249 : f224 32 = u75 := (hout228 32 rfl).trans hf100
                    have e250 : f224 33 = (Value.int .i64 ((x71).length : Int)) := (hout228 33 rfl).trans hf101
                    have e251 : f224 34 = (Value.int .i64 (k81 : Int)) := (hout228 34 rfl).trans hf102
                    refine WL.val (Value.int .i64 (orI .i64 x185 x220)) _ (op_or e236 e238) rfl ?_
                    refine WL.val (Value.pointer (some (elA u160 ((k49 : Int)).toNat))) _ (op_idx sl_33 (Ty.lift _ he227 hr162) e233 e234 ha186 hb187) rfl ?_
                    refine WL.storeEl2 (flat_i .i64) hS232 (k := 0) rfl sz_2 hx149 (Ext.cell he227 hc161) rfl rfl (lt_of_idx ha186 hb187) ⟨rfl, (inR_wrap _ _)⟩ ?_
                    intro wd252 hS253
                    replace hS253 : St wd2 wd252 [(Ty.sl (Ty.sl (Ty.i .i64))).at u13 ((x82).set ((k21 : Int)).toNat ((x146).set ((k49 : Int)).toNat (orI .i64 x185 x220)))] := hS253
                    refine WL.nil ?_
                    obtain rfl := Option.some.inj hj115
                    exact ⟨e240, e241, e242, e243, e244, e245, e246, e247, e248, e249, e250, e251, hS253⟩
                · replace hj115 := inegb hj115 hc116
                  refine W.skip ?_
                  obtain rfl := Option.some.inj hj115
                  exact ⟨hf91, hf92, hf93, hf94, hf95, hf96, hf97, hf98, hf99, hf100, hf101, hf102, hS104⟩
              · intro f254 wd255 hq256
                obtain ⟨hf257, hf258, hf259, hf260, hf261, hf262, hf263, hf264, hf265, hf266, hf267, hf268, hS269⟩ := hq256
                show W _ _ _ _ _ _
                refine W.region ?_
                refine WL.val (Value.int .i64 (w64 ((k81 : Int) + (1 : Int)))) _ (op_add hf268 rfl) rfl ?_
                refine WL.val (Value.int .i64 (w64 ((k81 : Int) + (1 : Int)))) _ (op_move rfl) rfl ?_
                refine WL.nil ?_
                obtain rfl := Option.some.inj hb87
                show ∃ s, _ = Ctl.next s ∧ _
                exact ⟨_, rfl, hf257, hf258, hf259, hf260, hf261, hf262, hf263, hf264, hf265, hf266, hf267, (ctr_next hl105 hr78), (ctr_rng hl105 hr78), hS269⟩
            · intro x276 f271 wd272 hs273 hI274
              replace hI274 : f271 3 = u13 ∧ f271 4 = (Value.int .i64 (k21 : Int)) ∧ f271 6 = (Value.int .i64 (k49 : Int)) ∧ f271 18 = v_r_Table ∧ f271 19 = (Value.int .i64 ((r_Table).length : Int)) ∧ f271 20 = (Value.int .i64 (k21 : Int)) ∧ f271 25 = u43 ∧ f271 26 = (Value.int .i64 ((x39).length : Int)) ∧ f271 27 = (Value.int .i64 (k49 : Int)) ∧ f271 32 = u75 ∧ f271 33 = (Value.int .i64 ((x71).length : Int)) ∧ f271 34 = Value.int .i64 (((x71).length : Nat) : Int) ∧ InR .i64 (((x71).length : Nat) : Int) ∧ St wd2 wd272 [(Ty.sl (Ty.sl (Ty.i .i64))).at u13 x276] := hI274
              obtain ⟨hf277, hf278, hf279, hf280, hf281, hf282, hf283, hf284, hf285, hf286, hf287, hf288, hr289, hS290⟩ := hI274
              refine W.seq (W.region ?_)
              refine WL.val (Value.bool (decide ((((x71).length : Nat) : Int) < ((x71).length : Int)))) _ (op_lss hf288 hf287) rfl ?_
              have hl291 : ¬ (((x71).length : Nat) : Int) < ((x71).length : Int) := by omega
              refine WL.nil ?_
              refine W.seq ?_
              refine W.condF (decide ((((x71).length : Nat) : Int) < ((x71).length : Int))) rfl (decide_eq_false hl291) ?_
              refine W.exit ?_
              show _ = _ ∧ _
              exact ⟨rfl, _, hs273, hf277, hf278, hf280, hf281, hf282, hf283, hf284, hf285, hS290⟩
          · rintro f292 wd293 ⟨x296, rfl, hq294⟩
            replace hb55 := onRes_fin hb55
            replace hq294 : f292 3 = u13 ∧ f292 4 = (Value.int .i64 (k21 : Int)) ∧ f292 18 = v_r_Table ∧ f292 19 = (Value.int .i64 ((r_Table).length : Int)) ∧ f292 20 = (Value.int .i64 (k21 : Int)) ∧ f292 25 = u43 ∧ f292 26 = (Value.int .i64 ((x39).length : Int)) ∧ f292 27 = (Value.int .i64 (k49 : Int)) ∧ St wd2 wd293 [(Ty.sl (Ty.sl (Ty.i .i64))).at u13 x296] := hq294
            obtain ⟨hf297, hf298, hf299, hf300, hf301, hf302, hf303, hf304, hS305⟩ := hq294
            show W _ _ _ _ _ _
            refine W.region ?_
            refine WL.val (Value.int .i64 (w64 ((k49 : Int) + (1 : Int)))) _ (op_add hf304 rfl) rfl ?_
            refine WL.val (Value.int .i64 (w64 ((k49 : Int) + (1 : Int)))) _ (op_move rfl) rfl ?_
            refine WL.nil ?_
            obtain rfl := Option.some.inj hb55
            show ∃ s, _ = Ctl.next s ∧ _
            exact ⟨_, rfl, hf297, hf298, hf299, hf300, hf301, hf302, hf303, (ctr_next hl69 hr46), (ctr_rng hl69 hr46), hS305⟩
        · intro x313 f308 wd309 hs310 hI311
          replace hI311 : f308 3 = u13 ∧ f308 4 = (Value.int .i64 (k21 : Int)) ∧ f308 18 = v_r_Table ∧ f308 19 = (Value.int .i64 ((r_Table).length : Int)) ∧ f308 20 = (Value.int .i64 (k21 : Int)) ∧ f308 25 = u43 ∧ f308 26 = (Value.int .i64 ((x39).length : Int)) ∧ f308 27 = Value.int .i64 (((x39).length : Nat) : Int) ∧ InR .i64 (((x39).length : Nat) : Int) ∧ St wd2 wd309 [(Ty.sl (Ty.sl (Ty.i .i64))).at u13 x313] := hI311
          obtain ⟨hf314, hf315, hf316, hf317, hf318, hf319, hf320, hf321, hr322, hS323⟩ := hI311
          refine W.seq (W.region ?_)
          refine WL.val (Value.bool (decide ((((x39).length : Nat) : Int) < ((x39).length : Int)))) _ (op_lss hf321 hf320) rfl ?_
          have hl324 : ¬ (((x39).length : Nat) : Int) < ((x39).length : Int) := by omega
          refine WL.nil ?_
          refine W.seq ?_
          refine W.condF (decide ((((x39).length : Nat) : Int) < ((x39).length : Int))) rfl (decide_eq_false hl324) ?_
          refine W.exit ?_
          show _ = _ ∧ _
          exact ⟨rfl, _, hs310, hf314, hf316, hf317, hf318, hS323⟩
      · rintro f325 wd326 ⟨x329, rfl, hq327⟩
        replace hb27 := onRes_fin hb27
        replace hq327 : f325 3 = u13 ∧ f325 18 = v_r_Table ∧ f325 19 = (Value.int .i64 ((r_Table).length : Int)) ∧ f325 20 = (Value.int .i64 (k21 : Int)) ∧ St wd2 wd326 [(Ty.sl (Ty.sl (Ty.i .i64))).at u13 x329] := hq327
        obtain ⟨hf330, hf331, hf332, hf333, hS334⟩ := hq327
        show W _ _ _ _ _ _
        refine W.region ?_
        refine WL.val (Value.int .i64 (w64 ((k21 : Int) + (1 : Int)))) _ (op_add hf333 rfl) rfl ?_
        refine WL.val (Value.int .i64 (w64 ((k21 : Int) + (1 : Int)))) _ (op_move rfl) rfl ?_
        refine WL.nil ?_
        obtain rfl := Option.some.inj hb27
        show ∃ s, _ = Ctl.next s ∧ _
        exact ⟨_, rfl, hf330, hf331, hf332, (ctr_next hl37 hr18), (ctr_rng hl37 hr18), hS334⟩
    · intro x342 f337 wd338 hs339 hI340
      replace hI340 : f337 3 = u13 ∧ f337 18 = v_r_Table ∧ f337 19 = (Value.int .i64 ((r_Table).length : Int)) ∧ f337 20 = Value.int .i64 (((r_Table).length : Nat) : Int) ∧ InR .i64 (((r_Table).length : Nat) : Int) ∧ St wd2 wd338 [(Ty.sl (Ty.sl (Ty.i .i64))).at u13 x342] := hI340
      obtain ⟨hf343, hf344, hf345, hf346, hr347, hS348⟩ := hI340
      refine W.seq (W.region ?_)
      refine WL.val (Value.bool (decide ((((r_Table).length : Nat) : Int) < ((r_Table).length : Int)))) _ (op_lss hf346 hf345) rfl ?_
      have hl349 : ¬ (((r_Table).length : Nat) : Int) < ((r_Table).length : Int) := by omega
      refine WL.nil ?_
      refine W.seq ?_
      refine W.condF (decide ((((r_Table).length : Nat) : Int) < ((r_Table).length : Int))) rfl (decide_eq_false hl349) ?_
      refine W.exit ?_
      show _ = _ ∧ _
      exact ⟨rfl, _, hs339, hf343, hS348⟩
  · rintro f350 wd351 ⟨x354, rfl, hq352⟩
    replace h := onRes_fin h
    replace hq352 : f350 3 = u13 ∧ St wd2 wd351 [(Ty.sl (Ty.sl (Ty.i .i64))).at u13 x354] := hq352
    obtain ⟨hf355, hS356⟩ := hq352
    refine W.seq (W.region ?_)
    refine WL.val u13 _ (op_move hf355) rfl ?_
    refine WL.val u13 _ (op_assign rfl) rfl ?_
    refine WL.nil ?_
    refine W.ret ?_
    obtain rfl := Option.some.inj h
    show FinP _ _ _ _ _ _ _
    exact FinP.ret _ (res1 rfl rfl) ⟨u13, rfl, (Ext.trans hE7 hS356.ext), (St.out (St.pick hS356 [0] rfl) (hE7))⟩

theorem c_math_bits_TrailingZeros64 {w : World} {x : Int} (tb : TabAt w) (r_x : InR .u64 x) {res : Int} (h : p_math_bits_TrailingZeros64 x  = some res) :
    Ret Tryd.prog 72 #[(Value.int .u64 x)] w (fun v w' => v = Value.int .i64 res ∧ InR .i64 res ∧ Ext w w') := by
  unfold p_math_bits_TrailingZeros64 at h
  have hS0 : St w w [] := St.start w
  refine Ret.start (fn := Tryd.f72) Tryd.func72 rfl 14 rfl rfl ?_
  refine W.seq (W.region ?_)
  refine WL.val (Value.int .i64 (0 : Int)) _ (op_assign rfl) rfl ?_
  refine WL.nil ?_
  refine W.seq (W.seq (W.region ?_))
  refine WL.val (Value.int .u64 x) _ (op_move rfl) rfl ?_
  refine WL.val (Value.bool (x == (0 : Int))) _ (op_eql rfl rfl) rfl ?_
  refine WL.nil ?_
  refine W.cond (x == (0 : Int)) rfl (fun hc1 => ?_) (fun hc1 => ?_)
  · replace h := (Option.some.inj h).symm.trans (tz_pos hc1)
    refine W.seq (W.region ?_)
    refine WL.val (Value.int .i64 (64 : Int)) _ (op_assign rfl) rfl ?_
    refine WL.nil ?_
    refine W.ret ?_
    subst h
    show FinP _ _ _ _ _ _ _
    exact FinP.ret _ (res1 rfl rfl) ⟨rfl, (inL rfl), hS0.ext⟩
  · obtain ⟨hi0, hi1, hi2⟩ := tz_ix r_x (tz_ne hc1)
    replace h := (Option.some.inj h).symm.trans (tz_neg r_x hc1)
    refine W.skip ?_
    refine W.seq (W.region ?_)
    refine WL.val (Value.int .u64 x) _ (op_move rfl) rfl ?_
    refine WL.val (Value.int .u64 x) _ (op_move rfl) rfl ?_
    refine WL.val (Value.int .u64 (IntKind.u64.wrap (0 - x))) _ (op_neg rfl) rfl ?_
    refine WL.val (Value.int .u64 (andI .u64 x (IntKind.u64.wrap (0 - x)))) _ (op_and rfl rfl) rfl ?_
    refine WL.val (Value.int .u64 (IntKind.u64.wrap ((andI .u64 x (IntKind.u64.wrap (0 - x))) * (285870213051353865 : Int)))) _ (op_mul rfl rfl) rfl ?_
    refine WL.val (Value.int .u64 (((IntKind.u64.wrap ((andI .u64 x (IntKind.u64.wrap (0 - x))) * (285870213051353865 : Int)))).fdiv (2 ^ 58))) _ (op_shr (b := 58) rfl rfl (by decide)) rfl ?_
    refine WL.val (Value.pointer (some ⟨0, (tzIx x).toNat, none⟩)) _ (op_indexArr (k := .u64) (j := tzIx x) ay_85 rfl rfl hi0 hi1) rfl ?_
    refine WL.val (Value.int .u8 (tzTab.getD (tzIx x).toNat 0)) _ (op_load one_5 rfl (tb _ (tz_lt r_x hc1))) rfl ?_
    refine WL.val (Value.int .i64 (w64 (tzTab.getD (tzIx x).toNat 0))) _ (op_convert rfl it_5 it_3) rfl ?_
    refine WL.val (Value.int .i64 (w64 (tzTab.getD (tzIx x).toNat 0))) _ (op_assign rfl) rfl ?_
    refine WL.nil ?_
    refine W.ret ?_
    subst h
    show FinP _ _ _ _ _ _ _
    exact FinP.ret _ (res1 rfl rfl) ⟨rfl, (inR_wrap _ _), hS0.ext⟩

theorem c_impl_labelsIn {w : World} {set : Int} (tb : TabAt w) (r_set : InR .i64 set) {res : (List Int)} (h : p_impl_labelsIn set  = some res) :
    Ret Tryd.prog 49 #[(Value.int .i64 set)] w (fun v w' => ∃ (u0 : Value), v = u0 ∧ Ext w w' ∧ Sep w.heap.size w' [(Ty.sl (Ty.i .i64)).at u0 res]) := by
  unfold p_impl_labelsIn at h
  have hS0 : St w w [] := St.start w
  refine Ret.start (fn := Tryd.f49) Tryd.func49 rfl 18 rfl rfl ?_
  refine W.seq (W.region ?_)
  refine WL.val (Value.slice none 0 0) _ (op_assign rfl) rfl ?_
  refine WL.nil ?_
  refine W.seq (W.region ?_)
  refine WL.lit0 (t := (Ty.i .i64)) hS0 sl_61 rfl rfl ?_
  intro u1 wd2 hS3 he4
  replace hS3 : St w wd2 [(Ty.sl (Ty.i .i64)).at u1 ([] : (List Int))] := hS3
  refine WL.val u1 _ (op_assign rfl) rfl ?_
  refine WL.nil ?_
  refine W.seq ?_
  obtain ⟨res5, hres6, h⟩ := bs h
  refine W.blockLoop (fun fq wq => ∃ s, res5 = Res.fin s ∧ ∃ (uu0 : Value), fq 3 = uu0 ∧ St w wq [(Ty.sl (Ty.i .i64)).at uu0 s.1]) ?_ ?_
  · refine W.whileC (fun (s : (List Int) × Int) fq wq => ∃ (uu0 : Value), fq 0 = Value.int .i64 s.2 ∧ InR .i64 s.2 ∧ fq 3 = uu0 ∧ St w wq [(Ty.sl (Ty.i .i64)).at uu0 s.1]) hres6 ⟨u1, rfl, r_set, rfl, hS3⟩ ?_
    intro s42 ct10 f11 wd12 hb14 hI15 hbrk16 hret17
    obtain ⟨x8, x9⟩ := s42
    replace hI15 : ∃ (uu0 : Value), f11 0 = Value.int .i64 x9 ∧ InR .i64 x9 ∧ f11 3 = uu0 ∧ St w wd12 [(Ty.sl (Ty.i .i64)).at uu0 x8] := hI15
    replace hb14 : p_impl_labelsIn_L1   x8 x9 = some ct10 := hb14
    unfold p_impl_labelsIn_L1 at hb14
    obtain ⟨u18, hf19, hr20, hf21, hS22⟩ := hI15
    refine W.seq (W.seq (W.region ?_))
    refine WL.val (Value.int .i64 x9) _ (op_move hf19) rfl ?_
    refine WL.val (Value.bool (x9 != (0 : Int))) _ (op_neq rfl rfl) rfl ?_
    refine WL.nil ?_
    refine W.cond (x9 != (0 : Int)) rfl (fun hc23 => ?_) (fun hc23 => ?_)
    · replace hb14 := ip hb14 hc23
      refine W.skip ?_
      refine W.seq ?_
      refine W.block ?_
      refine W.region ?_
      refine WL.val u18 _ (op_move hf21) rfl ?_
      refine WL.val (Value.int .i64 x9) _ (op_move hf19) rfl ?_
      refine WL.val (Value.int .u64 (IntKind.u64.wrap x9)) _ (op_convert rfl it_2 it_69) rfl ?_
      obtain ⟨x25, hx26, hb14⟩ := bs hb14
      refine WL.call _ (op_call fn_72 (args1 rfl)) (c_math_bits_TrailingZeros64 (tb.ext hS22.ext) (inR_wrap _ _) hx26) rfl ?_
      rintro _ wd28 ⟨rfl, hr27, he29⟩
      have hS31 := St.extend hS22 he29
      replace hS31 : St w wd28 [(Ty.sl (Ty.i .i64)).at u18 x8] := hS31
      refine WL.litFlat (t := (Ty.i .i64)) (flat_i .i64) [(Value.int .i64 x25)] [x25] hS31 sl_61 rfl rfl (fillL rfl ⟨rfl, rfl, rfl, trivial⟩) rfl rfl (litL ⟨⟨rfl, hr27⟩, trivial⟩) rfl ?_
      intro u32 wd33 hS34 he35
      replace hS34 : St w wd33 [(Ty.sl (Ty.i .i64)).at u18 x8, (Ty.sl (Ty.i .i64)).at u32 ([x25] : (List Int))] := hS34
      obtain ⟨x36, hx37, hb14⟩ := bs hb14
      refine WL.append (flat_i .i64) hS34 (k := 0) rfl sl_61 rfl rfl rfl rfl (St.rep (t := (Ty.sl (Ty.i .i64))) hS34 1 rfl) hx37 rfl ?_
      intro u38 wd39 hS40 hz41
      replace hS40 : St w wd39 [(Ty.sl (Ty.i .i64)).at u38 x36, (Ty.sl (Ty.i .i64)).at u32 ([x25] : (List Int))] := hS40
      refine WL.val u38 _ (op_assign rfl) rfl ?_
      refine WL.nil ?_
      show W _ _ _ _ _ _
      refine W.region ?_
      refine WL.val (Value.int .i64 x9) _ (op_move hf19) rfl ?_
      refine WL.val (Value.int .i64 x9) _ (op_move hf19) rfl ?_
      refine WL.val (Value.int .i64 (w64 (x9 - (1 : Int)))) _ (op_sub rfl rfl) rfl ?_
      refine WL.val (Value.int .i64 (andI .i64 x9 (w64 (x9 - (1 : Int))))) _ (op_and rfl rfl) rfl ?_
      refine WL.val (Value.int .i64 (andI .i64 x9 (w64 (x9 - (1 : Int))))) _ (op_assign rfl) rfl ?_
      refine WL.nil ?_
      obtain rfl := Option.some.inj hb14
      show ∃ s, _ = Ctl.next s ∧ _
      exact ⟨_, rfl, u38, rfl, (inR_wrap _ _), rfl, (St.pick hS40 [0] rfl)⟩
    · replace hb14 := inegb hb14 hc23
      refine W.exit ?_
      obtain rfl := Option.some.inj hb14
      show _ = _ ∧ _
      exact ⟨rfl, _, hbrk16 _ rfl, u18, hf21, hS22⟩
  · rintro f43 wd44 ⟨s46, rfl, hq45⟩
    replace h := onRes_fin h
    obtain ⟨x47, x48⟩ := s46
    replace hq45 : ∃ (uu0 : Value), f43 3 = uu0 ∧ St w wd44 [(Ty.sl (Ty.i .i64)).at uu0 x47] := hq45
    replace h : (_ : Option _) = _ := h
    dsimp only at h
    obtain ⟨u49, hf50, hS51⟩ := hq45
    refine W.seq (W.region ?_)
    refine WL.val u49 _ (op_move hf50) rfl ?_
    refine WL.val u49 _ (op_assign rfl) rfl ?_
    refine WL.nil ?_
    refine W.ret ?_
    obtain rfl := Option.some.inj h
    show FinP _ _ _ _ _ _ _
    exact FinP.ret _ (res1 rfl rfl) ⟨u49, rfl, hS51.ext, (St.out (St.pick hS51 [0] rfl) (Ext.refl _))⟩

theorem c_impl_Ring_closed {w : World} {r_Table : (List (List (List Int)))} {v_r_Table : Value} {set : Int} (tb : TabAt w) (r_r_Table : (Ty.sl (Ty.sl (Ty.sl (Ty.i .i64)))).rep w v_r_Table r_Table) (r_set : InR .i64 set) {res : Int} (h : p_impl_Ring_closed r_Table set  = some res) :
    Ret Tryd.prog 35 #[(Value.agg #[v_r_Table]), (Value.int .i64 set)] w (fun v w' => v = Value.int .i64 res ∧ InR .i64 res ∧ Ext w w') := by
  unfold p_impl_Ring_closed at h
  have hS0 : St w w [] := St.start w
  refine Ret.start (fn := Tryd.f35) Tryd.func35 rfl 56 rfl rfl ?_
  refine W.seq (W.region ?_)
  refine WL.box hS0 rfl (cs := [v_r_Table]) rfl rfl ?_
  intro b1 wd2 hS3 he4 hx5
  replace hS3 : St w wd2 [bx b1 [v_r_Table]] := hS3
  have hx6 := St.boxAt hS3 0 rfl
  have hE7 : Ext w wd2 := hS3.ext
  have hS8 : St wd2 wd2 [] := St.start wd2
  refine WL.val (Value.int .i64 (0 : Int)) _ (op_assign rfl) rfl ?_
  refine WL.nil ?_
  refine W.seq ?_
  obtain ⟨x26, hx27, h⟩ := bs h
  refine W.drawR mixo 3 [] [fun _ v S w' => v = (Value.agg #[v_r_Table]), fun _ v S w' => SepS S w' [(Ty.sl (Ty.sl (Ty.i .i64))).at v x26], fun _ v S w' => v = (Value.agg #[v_r_Table])] (by kernel_rfl) (by kernel_rfl) ⟨pk, ⟨fun _ _ _ _ _ he h => SepS.extend he h, fun _ _ _ _ _ _ h => h⟩, pk, trivial⟩ ⟨?_, ?_, ?_, trivial⟩ ?_
  · refine ObX.op rfl fun f9 wd10 he11 hout12 hphi13 => ?_
    have hS14 := St.extend hS8 he11
    have e15 : f9 2 = (Value.pointer (some ⟨b1, 0, none⟩)) := (hout12 2 rfl).trans rfl
    exact OpX.val (Value.agg #[v_r_Table]) wd10 rfl (op_loadBox st_26 e15 (BoxAt.lift hS14.ext hx6) rfl rfl) (Ext.refl _) rfl
  · refine ObX.op rfl fun f16 wd17 he18 hout19 hphi20 => ?_
    have hS21 := St.extend hS8 he18
    obtain ⟨S22, hS23, hf24⟩ := hphi20 0 12 _ rfl rfl rfl
    have e25 : f16 12 = (Value.agg #[v_r_Table]) := hf24
    refine OpX.call rfl (op_call fn_47 (args1 e25)) (Ret.mono (c_impl_Ring_supports (Ty.lift _ (Ext.trans hE7 hS21.ext) r_r_Table) hx27) ?_)
    rintro u28 wd29 ⟨_, rfl, he30, hs31⟩
    exact ⟨he30, _, newS _ _, (Sep.new hs31)⟩
  · refine ObX.op rfl fun f32 wd33 he34 hout35 hphi36 => ?_
    have hS37 := St.extend hS8 he34
    have e38 : f32 2 = (Value.pointer (some ⟨b1, 0, none⟩)) := (hout35 2 rfl).trans rfl
    exact OpX.val (Value.agg #[v_r_Table]) wd33 rfl (op_loadBox st_26 e38 (BoxAt.lift hS37.ext hx6) rfl rfl) (Ext.refl _) rfl
  · intro f39 wd40 Ss41 he42 hout43 hSn44 hSd45 hphi46
    show WL _ _ _ _ _ _ _
    have e48 : SepS (Ss41 1) wd40 [(Ty.sl (Ty.sl (Ty.i .i64))).at (f39 13) x26] := hphi46 1 13 _ (by decide) rfl rfl
    have e49 : f39 14 = (Value.agg #[v_r_Table]) := hphi46 2 14 _ (by decide) rfl rfl
    have e50 : f39 1 = (Value.int .i64 set) := (hout43 1 rfl).trans rfl
    have hS51 := St.joinS hS8 he42 hSn44 (SepS.consS hSd45 rfl e48 SepS.nilS)
    replace hS51 : St wd2 wd40 [(Ty.sl (Ty.sl (Ty.i .i64))).at (f39 13) x26] := hS51
    have hb52 := St.rep (t := (Ty.sl (Ty.sl (Ty.i .i64)))) hS51 0 rfl
    have hE53 : Ext w wd40 := (Ext.trans hE7 hS51.ext)
    have hE54 : Ext wd2 wd40 := hS51.ext
    have hS55 : St wd40 wd40 [] := St.start wd40
    obtain ⟨x56, hx57, h⟩ := bs h
    refine WL.call _ (op_call fn_59 (args1 e49)) (c_impl_Ring_duals (Ty.lift _ (Ext.trans hE53 hS55.ext) r_r_Table) hx57) rfl ?_
    rintro u58 wd59 ⟨_, rfl, he60, hs61⟩
    have hS62 := St.join hS55 he60 hs61
    replace hS62 : St wd40 wd59 [(Ty.sl (Ty.i .i64)).at u58 x56] := hS62
    have hb63 := St.rep (t := (Ty.sl (Ty.i .i64))) hS62 0 rfl
    have hE64 : Ext w wd59 := (Ext.trans hE53 hS62.ext)
    have hE65 : Ext wd2 wd59 := (Ext.trans hE54 hS62.ext)
    have hE66 : Ext wd40 wd59 := hS62.ext
    have hS67 : St wd59 wd59 [] := St.start wd59
    refine WL.val (f39 13) _ (op_assign rfl) rfl ?_
    refine WL.val u58 _ (op_assign rfl) rfl ?_
    refine WL.nil ?_
    refine W.seq (W.region ?_)
    refine WL.val (Value.int .i64 set) _ (op_move e50) rfl ?_
    refine WL.val (Value.int .i64 (orI .i64 set (1 : Int))) _ (op_or rfl rfl) rfl ?_
    refine WL.val (Value.int .i64 (orI .i64 set (1 : Int))) _ (op_assign rfl) rfl ?_
    refine WL.nil ?_
    show W _ _ _ _ _ _
    obtain ⟨res68, hres69, h⟩ := bs h
    refine W.blockLoop (fun fq wq => ∃ s, res68 = Res.fin s ∧ St wd59 wq []) ?_ ?_
    · refine W.whileC (fun (s : Int) fq wq => fq 1 = Value.int .i64 s ∧ InR .i64 s ∧ fq 5 = (f39 13) ∧ fq 6 = u58 ∧ St wd59 wq []) hres69 ⟨rfl, (inR_wrap _ _), rfl, rfl, hS67⟩ ?_
      intro x71 ct72 f73 wd74 hb76 hI77 hbrk78 hret79
      replace hI77 : f73 1 = Value.int .i64 x71 ∧ InR .i64 x71 ∧ f73 5 = (f39 13) ∧ f73 6 = u58 ∧ St wd59 wd74 [] := hI77
      replace hb76 : p_impl_Ring_closed_L1 x56 x26  x71 = some ct72 := hb76
      unfold p_impl_Ring_closed_L1 at hb76
      obtain ⟨hf80, hr81, hf82, hf83, hS84⟩ := hI77
      refine W.block ?_
      refine W.seq (W.region ?_)
      refine WL.val (Value.int .i64 x71) _ (op_move hf80) rfl ?_
      refine WL.val (Value.int .i64 x71) _ (op_assign rfl) rfl ?_
      refine WL.nil ?_
      refine W.seq (W.seq (W.region ?_))
      refine WL.val (Value.int .i64 x71) _ (op_move hf80) rfl ?_
      obtain ⟨x85, hx86, hb76⟩ := bs hb76
      refine WL.call _ (op_call fn_49 (args1 rfl)) (c_impl_labelsIn (tb.ext (Ext.trans hE64 hS84.ext)) hr81 hx86) rfl ?_
      rintro u87 wd88 ⟨_, rfl, he89, hs90⟩
      have hS91 := St.join hS84 he89 hs90
      replace hS91 : St wd59 wd88 [(Ty.sl (Ty.i .i64)).at u87 x85] := hS91
      have hb92 := St.rep (t := (Ty.sl (Ty.i .i64))) hS91 0 rfl
      have hE93 : Ext w wd88 := (Ext.trans hE64 hS91.ext)
      have hE94 : Ext wd2 wd88 := (Ext.trans hE65 hS91.ext)
      have hE95 : Ext wd40 wd88 := (Ext.trans hE66 hS91.ext)
      have hE96 : Ext wd59 wd88 := hS91.ext
      have hS97 : St wd88 wd88 [] := St.start wd88
      have hr98 := inR_len (Ty.lift _ hS97.ext hb92)
      refine WL.val (Value.int .i64 ((x85).length : Int)) _ (op_lenL sl_61 (Ty.lift _ hS97.ext hb92) rfl) rfl ?_
      refine WL.val (Value.int .i64 (0 : Int)) _ (op_move rfl) rfl ?_
      refine WL.nil ?_
      show W _ _ _ _ _ _
      obtain ⟨res99, hres100, hb76⟩ := bs hb76
      refine W.blockLoop (fun fq wq => ∃ s, res99 = Res.fin s ∧ fq 1 = (Value.int .i64 x71) ∧ fq 5 = (f39 13) ∧ fq 6 = u58 ∧ fq 7 = Value.int .i64 s ∧ InR .i64 s ∧ St wd88 wq []) ?_ ?_
      · refine W.forN (fun k (s : Int) fq wq => fq 1 = (Value.int .i64 x71) ∧ fq 5 = (f39 13) ∧ fq 6 = u58 ∧ fq 7 = Value.int .i64 s ∧ InR .i64 s ∧ fq 20 = u87 ∧ fq 21 = (Value.int .i64 ((x85).length : Int)) ∧ fq 22 = Value.int .i64 (k : Int) ∧ InR .i64 (k : Int) ∧ St wd88 wq []) hres100 ⟨hf80, hf82, hf83, rfl, hr81, rfl, rfl, rfl, (inL rfl), hS97⟩ ?_ ?_
        · intro k101 x102 ct103 f104 wd105 hk106 hb107 hI108 hbrk109 hret110
          replace hI108 : f104 1 = (Value.int .i64 x71) ∧ f104 5 = (f39 13) ∧ f104 6 = u58 ∧ f104 7 = Value.int .i64 x102 ∧ InR .i64 x102 ∧ f104 20 = u87 ∧ f104 21 = (Value.int .i64 ((x85).length : Int)) ∧ f104 22 = Value.int .i64 (k101 : Int) ∧ InR .i64 (k101 : Int) ∧ St wd88 wd105 [] := hI108
          replace hb107 : p_impl_Ring_closed_L2 x85 x56 x71 x26 k101 x102 = some ct103 := hb107
          unfold p_impl_Ring_closed_L2 at hb107
          obtain ⟨hf111, hf112, hf113, hf114, hr115, hf116, hf117, hf118, hr119, hS120⟩ := hI108
          refine W.seq (W.region ?_)
          refine WL.val (Value.bool (decide ((k101 : Int) < ((x85).length : Int)))) _ (op_lss hf118 hf117) rfl ?_
          have hl121 : (k101 : Int) < ((x85).length : Int) := by omega
          refine WL.nil ?_
          refine W.seq ?_
          refine W.condT (decide ((k101 : Int) < ((x85).length : Int))) rfl (decide_eq_true hl121) ?_
          refine W.skip ?_
          refine W.seq ?_
          refine W.block ?_
          refine W.seq (W.region ?_)
          obtain ⟨x123, hx126, hb107⟩ := bs hb107
          obtain ⟨ha124, hb125, hx126⟩ := idx_some hx126
          refine WL.val (Value.pointer (some (elA u87 ((k101 : Int)).toNat))) _ (op_idx sl_61 (Ty.lift _ hS120.ext hb92) hf116 hf118 ha124 hb125) rfl ?_
          obtain ⟨u127, hc128, hr129⟩ := repSl.el hb92 hx126
          obtain ⟨rfl, hr129⟩ := hr129
          refine WL.val (Value.int .i64 x123) _ (op_load one_3 rfl (Ext.cell hS120.ext hc128)) rfl ?_
          refine WL.val (Value.int .i64 x123) _ (op_assign rfl) rfl ?_
          refine WL.nil ?_
          refine W.seq (W.region ?_)
          refine WL.val (Value.int .i64 x102) _ (op_move hf114) rfl ?_
          refine WL.val u58 _ (op_move hf113) rfl ?_
          refine WL.val (Value.int .i64 x123) _ (op_move rfl) rfl ?_
          obtain ⟨x130, hx133, hb107⟩ := bs hb107
          obtain ⟨ha131, hb132, hx133⟩ := idx_some hx133
          refine WL.val (Value.pointer (some (elA u58 (x123).toNat))) _ (op_idx sl_61 (Ty.lift _ (Ext.trans hE96 hS120.ext) hb63) rfl rfl ha131 hb132) rfl ?_
          obtain ⟨u134, hc135, hr136⟩ := repSl.el hb63 hx133
          obtain ⟨rfl, hr136⟩ := hr136
          refine WL.val (Value.int .i64 x130) _ (op_load one_3 rfl (Ext.cell (Ext.trans hE96 hS120.ext) hc135)) rfl ?_
          obtain ⟨x137, hz138, hb107⟩ := bs hb107
          obtain ⟨h0139, hz138⟩ := shlI_some hz138
          have hr140 : InR .i64 x137 := by rw [hz138]; exact inR_wrap _ _
          refine WL.val (Value.int .i64 x137) _ (by rw [hz138]; exact op_shl rfl rfl h0139) rfl ?_
          refine WL.val (Value.int .i64 (orI .i64 x102 x137)) _ (op_or rfl rfl) rfl ?_
          refine WL.val (Value.int .i64 (orI .i64 x102 x137)) _ (op_assign rfl) rfl ?_
          refine WL.nil ?_
          refine W.seq (W.region ?_)
          refine WL.val (Value.int .i64 x71) _ (op_move hf111) rfl ?_
          obtain ⟨x141, hx142, hb107⟩ := bs hb107
          refine WL.call _ (op_call fn_49 (args1 rfl)) (c_impl_labelsIn (tb.ext (Ext.trans hE93 hS120.ext)) hr81 hx142) rfl ?_
          rintro u143 wd144 ⟨_, rfl, he145, hs146⟩
          have hS147 := St.join hS120 he145 hs146
          replace hS147 : St wd88 wd144 [(Ty.sl (Ty.i .i64)).at u143 x141] := hS147
          have hb148 := St.rep (t := (Ty.sl (Ty.i .i64))) hS147 0 rfl
          have hE149 : Ext w wd144 := (Ext.trans hE93 hS147.ext)
          have hE150 : Ext wd2 wd144 := (Ext.trans hE94 hS147.ext)
          have hE151 : Ext wd40 wd144 := (Ext.trans hE95 hS147.ext)
          have hE152 : Ext wd59 wd144 := (Ext.trans hE96 hS147.ext)
          have hE153 : Ext wd88 wd144 := hS147.ext
          have hS154 : St wd144 wd144 [] := St.start wd144
          have hr155 := inR_len (Ty.lift _ hS154.ext hb148)
          refine WL.val (Value.int .i64 ((x141).length : Int)) _ (op_lenL sl_61 (Ty.lift _ hS154.ext hb148) rfl) rfl ?_
          refine WL.val (Value.int .i64 (0 : Int)) _ (op_move rfl) rfl ?_
          refine WL.nil ?_
          show W _ _ _ _ _ _
          obtain ⟨res156, hres157, hb107⟩ := bs hb107
          refine W.blockLoop (fun fq wq => ∃ s, res156 = Res.fin s ∧ fq 1 = (Value.int .i64 x71) ∧ fq 5 = (f39 13) ∧ fq 6 = u58 ∧ fq 7 = Value.int .i64 s ∧ InR .i64 s ∧ fq 20 = u87 ∧ fq 21 = (Value.int .i64 ((x85).length : Int)) ∧ fq 22 = (Value.int .i64 (k101 : Int)) ∧ St wd144 wq []) ?_ ?_
          · refine W.forN (fun k (s : Int) fq wq => fq 1 = (Value.int .i64 x71) ∧ fq 5 = (f39 13) ∧ fq 6 = u58 ∧ fq 7 = Value.int .i64 s ∧ InR .i64 s ∧ fq 9 = (Value.int .i64 x123) ∧ fq 20 = u87 ∧ fq 21 = (Value.int .i64 ((x85).length : Int)) ∧ fq 22 = (Value.int .i64 (k101 : Int)) ∧ fq 34 = u143 ∧ fq 35 = (Value.int .i64 ((x141).length : Int)) ∧ fq 36 = Value.int .i64 (k : Int) ∧ InR .i64 (k : Int) ∧ St wd144 wq []) hres157 ⟨hf111, hf112, hf113, rfl, (inR_wrap _ _), rfl, hf116, hf117, hf118, rfl, rfl, rfl, (inL rfl), hS154⟩ ?_ ?_
            · intro k158 x159 ct160 f161 wd162 hk163 hb164 hI165 hbrk166 hret167
              replace hI165 : f161 1 = (Value.int .i64 x71) ∧ f161 5 = (f39 13) ∧ f161 6 = u58 ∧ f161 7 = Value.int .i64 x159 ∧ InR .i64 x159 ∧ f161 9 = (Value.int .i64 x123) ∧ f161 20 = u87 ∧ f161 21 = (Value.int .i64 ((x85).length : Int)) ∧ f161 22 = (Value.int .i64 (k101 : Int)) ∧ f161 34 = u143 ∧ f161 35 = (Value.int .i64 ((x141).length : Int)) ∧ f161 36 = Value.int .i64 (k158 : Int) ∧ InR .i64 (k158 : Int) ∧ St wd144 wd162 [] := hI165
              replace hb164 : p_impl_Ring_closed_L3 x141 x26 x123 k158 x159 = some ct160 := hb164
              unfold p_impl_Ring_closed_L3 at hb164
              obtain ⟨hf168, hf169, hf170, hf171, hr172, hf173, hf174, hf175, hf176, hf177, hf178, hf179, hr180, hS181⟩ := hI165
              refine W.seq (W.region ?_)
              refine WL.val (Value.bool (decide ((k158 : Int) < ((x141).length : Int)))) _ (op_lss hf179 hf178) rfl ?_
              have hl182 : (k158 : Int) < ((x141).length : Int) := by omega
              refine WL.nil ?_
              refine W.seq ?_
              refine W.condT (decide ((k158 : Int) < ((x141).length : Int))) rfl (decide_eq_true hl182) ?_
              refine W.skip ?_
              refine W.seq ?_
              refine W.block ?_
              refine W.seq (W.region ?_)
              obtain ⟨x184, hx187, hb164⟩ := bs hb164
              obtain ⟨ha185, hb186, hx187⟩ := idx_some hx187
              refine WL.val (Value.pointer (some (elA u143 ((k158 : Int)).toNat))) _ (op_idx sl_61 (Ty.lift _ hS181.ext hb148) hf177 hf179 ha185 hb186) rfl ?_
              obtain ⟨u188, hc189, hr190⟩ := repSl.el hb148 hx187
              obtain ⟨rfl, hr190⟩ := hr190
              refine WL.val (Value.int .i64 x184) _ (op_load one_3 rfl (Ext.cell hS181.ext hc189)) rfl ?_
              refine WL.val (Value.int .i64 x184) _ (op_assign rfl) rfl ?_
              refine WL.nil ?_
              show W _ _ _ _ _ _
              refine W.region ?_
              refine WL.val (Value.int .i64 x159) _ (op_move hf171) rfl ?_
              refine WL.val (f39 13) _ (op_move hf169) rfl ?_
              refine WL.val (Value.int .i64 x123) _ (op_move hf173) rfl ?_
              obtain ⟨x191, hx194, hb164⟩ := bs hb164
              obtain ⟨ha192, hb193, hx194⟩ := idx_some hx194
              refine WL.val (Value.pointer (some (elA (f39 13) (x123).toNat))) _ (op_idx sl_41 (Ty.lift _ (Ext.trans hE151 hS181.ext) hb52) rfl rfl ha192 hb193) rfl ?_
              obtain ⟨u195, hc196, hr197⟩ := repSl.el hb52 hx194
              refine WL.val u195 _ (op_load one_33 rfl (Ext.cell (Ext.trans hE151 hS181.ext) hc196)) rfl ?_
              refine WL.val (Value.int .i64 x184) _ (op_move rfl) rfl ?_
              obtain ⟨x198, hx201, hb164⟩ := bs hb164
              obtain ⟨ha199, hb200, hx201⟩ := idx_some hx201
              refine WL.val (Value.pointer (some (elA u195 (x184).toNat))) _ (op_idx sl_33 (Ty.lift _ (Ext.trans hE151 hS181.ext) hr197) rfl rfl ha199 hb200) rfl ?_
              obtain ⟨u202, hc203, hr204⟩ := repSl.el hr197 hx201
              obtain ⟨rfl, hr204⟩ := hr204
              refine WL.val (Value.int .i64 x198) _ (op_load one_2 rfl (Ext.cell (Ext.trans hE151 hS181.ext) hc203)) rfl ?_
              refine WL.val (Value.int .i64 (orI .i64 x159 x198)) _ (op_or rfl rfl) rfl ?_
              refine WL.val (Value.int .i64 (orI .i64 x159 x198)) _ (op_assign rfl) rfl ?_
              refine WL.nil ?_
              show W _ _ _ _ _ _
              refine W.region ?_
              refine WL.val (Value.int .i64 (w64 ((k158 : Int) + (1 : Int)))) _ (op_add hf179 rfl) rfl ?_
              refine WL.val (Value.int .i64 (w64 ((k158 : Int) + (1 : Int)))) _ (op_move rfl) rfl ?_
              refine WL.nil ?_
              obtain rfl := Option.some.inj hb164
              show ∃ s, _ = Ctl.next s ∧ _
              exact ⟨_, rfl, hf168, hf169, hf170, rfl, (inR_wrap _ _), hf173, hf174, hf175, hf176, hf177, hf178, (ctr_next hl182 hr155), (ctr_rng hl182 hr155), hS181⟩
            · intro x211 f206 wd207 hs208 hI209
              replace hI209 : f206 1 = (Value.int .i64 x71) ∧ f206 5 = (f39 13) ∧ f206 6 = u58 ∧ f206 7 = Value.int .i64 x211 ∧ InR .i64 x211 ∧ f206 9 = (Value.int .i64 x123) ∧ f206 20 = u87 ∧ f206 21 = (Value.int .i64 ((x85).length : Int)) ∧ f206 22 = (Value.int .i64 (k101 : Int)) ∧ f206 34 = u143 ∧ f206 35 = (Value.int .i64 ((x141).length : Int)) ∧ f206 36 = Value.int .i64 (((x141).length : Nat) : Int) ∧ InR .i64 (((x141).length : Nat) : Int) ∧ St wd144 wd207 [] := hI209
              obtain ⟨hf212, hf213, hf214, hf215, hr216, hf217, hf218, hf219, hf220, hf221, hf222, hf223, hr224, hS225⟩ := hI209
              refine W.seq (W.region ?_)
              refine WL.val (Value.bool (decide ((((x141).length : Nat) : Int) < ((x141).length : Int)))) _ (op_lss hf223 hf222) rfl ?_
              have hl226 : ¬ (((x141).length : Nat) : Int) < ((x141).length : Int) := by omega
              refine WL.nil ?_
              refine W.seq ?_
              refine W.condF (decide ((((x141).length : Nat) : Int) < ((x141).length : Int))) rfl (decide_eq_false hl226) ?_
              refine W.exit ?_
              show _ = _ ∧ _
              exact ⟨rfl, _, hs208, hf212, hf213, hf214, hf215, hr216, hf218, hf219, hf220, hS225⟩
          · rintro f227 wd228 ⟨x231, rfl, hq229⟩
            replace hb107 := onRes_fin hb107
            replace hq229 : f227 1 = (Value.int .i64 x71) ∧ f227 5 = (f39 13) ∧ f227 6 = u58 ∧ f227 7 = Value.int .i64 x231 ∧ InR .i64 x231 ∧ f227 20 = u87 ∧ f227 21 = (Value.int .i64 ((x85).length : Int)) ∧ f227 22 = (Value.int .i64 (k101 : Int)) ∧ St wd144 wd228 [] := hq229
            obtain ⟨hf232, hf233, hf234, hf235, hr236, hf237, hf238, hf239, hS240⟩ := hq229
            show W _ _ _ _ _ _
            refine W.region ?_
            refine WL.val (Value.int .i64 (w64 ((k101 : Int) + (1 : Int)))) _ (op_add hf239 rfl) rfl ?_
            refine WL.val (Value.int .i64 (w64 ((k101 : Int) + (1 : Int)))) _ (op_move rfl) rfl ?_
            refine WL.nil ?_
            obtain rfl := Option.some.inj hb107
            show ∃ s, _ = Ctl.next s ∧ _
            exact ⟨_, rfl, hf232, hf233, hf234, hf235, hr236, hf237, hf238, (ctr_next hl121 hr98), (ctr_rng hl121 hr98), (St.ofExt (Ext.trans hE153 hS240.ext))⟩
        · intro x248 f243 wd244 hs245 hI246
          replace hI246 : f243 1 = (Value.int .i64 x71) ∧ f243 5 = (f39 13) ∧ f243 6 = u58 ∧ f243 7 = Value.int .i64 x248 ∧ InR .i64 x248 ∧ f243 20 = u87 ∧ f243 21 = (Value.int .i64 ((x85).length : Int)) ∧ f243 22 = Value.int .i64 (((x85).length : Nat) : Int) ∧ InR .i64 (((x85).length : Nat) : Int) ∧ St wd88 wd244 [] := hI246
          obtain ⟨hf249, hf250, hf251, hf252, hr253, hf254, hf255, hf256, hr257, hS258⟩ := hI246
          refine W.seq (W.region ?_)
          refine WL.val (Value.bool (decide ((((x85).length : Nat) : Int) < ((x85).length : Int)))) _ (op_lss hf256 hf255) rfl ?_
          have hl259 : ¬ (((x85).length : Nat) : Int) < ((x85).length : Int) := by omega
          refine WL.nil ?_
          refine W.seq ?_
          refine W.condF (decide ((((x85).length : Nat) : Int) < ((x85).length : Int))) rfl (decide_eq_false hl259) ?_
          refine W.exit ?_
          show _ = _ ∧ _
          exact ⟨rfl, _, hs245, hf249, hf250, hf251, hf252, hr253, hS258⟩
      · rintro f260 wd261 ⟨x264, rfl, hq262⟩
        replace hb76 := onRes_fin hb76
        replace hq262 : f260 1 = (Value.int .i64 x71) ∧ f260 5 = (f39 13) ∧ f260 6 = u58 ∧ f260 7 = Value.int .i64 x264 ∧ InR .i64 x264 ∧ St wd88 wd261 [] := hq262
        obtain ⟨hf265, hf266, hf267, hf268, hr269, hS270⟩ := hq262
        refine W.seq (W.seq (W.region ?_))
        refine WL.val (Value.int .i64 x264) _ (op_move hf268) rfl ?_
        refine WL.val (Value.int .i64 x71) _ (op_move hf265) rfl ?_
        refine WL.val (Value.bool (x264 == x71)) _ (op_eql rfl rfl) rfl ?_
        refine WL.nil ?_
        refine W.cond (x264 == x71) rfl (fun hc271 => ?_) (fun hc271 => ?_)
        · replace hb76 := ip hb76 hc271
          refine W.seq (W.region ?_)
          refine WL.val (Value.int .i64 x71) _ (op_move hf265) rfl ?_
          refine WL.val (Value.int .i64 x71) _ (op_assign rfl) rfl ?_
          refine WL.nil ?_
          refine W.ret ?_
          obtain rfl := Option.some.inj hb76
          obtain rfl := hret79 _ rfl
          replace h := onRes_ret h
          obtain rfl := Option.some.inj h
          show FinP _ _ _ _ _ _ _
          exact FinP.ret _ (res1 rfl rfl) ⟨rfl, hr81, (Ext.trans hE93 hS270.ext)⟩
        · replace hb76 := inegb hb76 hc271
          refine W.skip ?_
          show W _ _ _ _ _ _
          refine W.region ?_
          refine WL.val (Value.int .i64 x264) _ (op_move hf268) rfl ?_
          refine WL.val (Value.int .i64 x264) _ (op_assign rfl) rfl ?_
          refine WL.nil ?_
          obtain rfl := Option.some.inj hb76
          show ∃ s, _ = Ctl.next s ∧ _
          exact ⟨_, rfl, rfl, hr269, hf266, hf267, (St.ofExt (Ext.trans hE96 hS270.ext))⟩
    · rintro f275 wd276 ⟨x279, rfl, hq277⟩
      replace h := onRes_fin h
      replace hq277 : St wd59 wd276 [] := hq277
      exact nomatch (show (none : Option _) = some _ from h)

theorem c_math_bits_OnesCount64 {w : World} {x : Int} (r_x : InR .u64 x) {res : Int} (h : p_math_bits_OnesCount64 x  = some res) :
    Ret Tryd.prog 61 #[(Value.int .u64 x)] w (fun v w' => v = Value.int .i64 res ∧ InR .i64 res ∧ Ext w w') := by
  unfold p_math_bits_OnesCount64 at h
  have hS0 : St w w [] := St.start w
  refine Ret.start (fn := Tryd.f61) Tryd.func61 rfl 35 rfl rfl ?_
  refine W.seq (W.region ?_)
  refine WL.val (Value.int .i64 (0 : Int)) _ (op_assign rfl) rfl ?_
  refine WL.nil ?_
  refine W.seq (W.region ?_)
  refine WL.val (Value.int .u64 x) _ (op_move rfl) rfl ?_
  refine WL.val (Value.int .u64 ((x).fdiv (2 ^ 1))) _ (op_shr (b := 1) rfl rfl (by decide)) rfl ?_
  refine WL.val (Value.int .u64 (andI .u64 ((x).fdiv (2 ^ 1)) (6148914691236517205 : Int))) _ (op_and rfl rfl) rfl ?_
  refine WL.val (Value.int .u64 x) _ (op_move rfl) rfl ?_
  refine WL.val (Value.int .u64 (andI .u64 x (6148914691236517205 : Int))) _ (op_and rfl rfl) rfl ?_
  refine WL.val (Value.int .u64 (IntKind.u64.wrap ((andI .u64 ((x).fdiv (2 ^ 1)) (6148914691236517205 : Int)) + (andI .u64 x (6148914691236517205 : Int))))) _ (op_add rfl rfl) rfl ?_
  refine WL.val (Value.int .u64 (IntKind.u64.wrap ((andI .u64 ((x).fdiv (2 ^ 1)) (6148914691236517205 : Int)) + (andI .u64 x (6148914691236517205 : Int))))) _ (op_assign rfl) rfl ?_
  refine WL.nil ?_
  refine W.seq (W.region ?_)
  refine WL.val (Value.int .u64 (IntKind.u64.wrap ((andI .u64 ((x).fdiv (2 ^ 1)) (6148914691236517205 : Int)) + (andI .u64 x (6148914691236517205 : Int))))) _ (op_move rfl) rfl ?_
  refine WL.val (Value.int .u64 (((IntKind.u64.wrap ((andI .u64 ((x).fdiv (2 ^ 1)) (6148914691236517205 : Int)) + (andI .u64 x (6148914691236517205 : Int))))).fdiv (2 ^ 2))) _ (op_shr (b := 2) rfl rfl (by decide)) rfl ?_
  refine WL.val (Value.int .u64 (andI .u64 (((IntKind.u64.wrap ((andI .u64 ((x).fdiv (2 ^ 1)) (6148914691236517205 : Int)) + (andI .u64 x (6148914691236517205 : Int))))).fdiv (2 ^ 2)) (3689348814741910323 : Int))) _ (op_and rfl rfl) rfl ?_
  refine WL.val (Value.int .u64 (IntKind.u64.wrap ((andI .u64 ((x).fdiv (2 ^ 1)) (6148914691236517205 : Int)) + (andI .u64 x (6148914691236517205 : Int))))) _ (op_move rfl) rfl ?_
  refine WL.val (Value.int .u64 (andI .u64 (IntKind.u64.wrap ((andI .u64 ((x).fdiv (2 ^ 1)) (6148914691236517205 : Int)) + (andI .u64 x (6148914691236517205 : Int)))) (3689348814741910323 : Int))) _ (op_and rfl rfl) rfl ?_
  refine WL.val (Value.int .u64 (IntKind.u64.wrap ((andI .u64 (((IntKind.u64.wrap ((andI .u64 ((x).fdiv (2 ^ 1)) (6148914691236517205 : Int)) + (andI .u64 x (6148914691236517205 : Int))))).fdiv (2 ^ 2)) (3689348814741910323 : Int)) + (andI .u64 (IntKind.u64.wrap ((andI .u64 ((x).fdiv (2 ^ 1)) (6148914691236517205 : Int)) + (andI .u64 x (6148914691236517205 : Int)))) (3689348814741910323 : Int))))) _ (op_add rfl rfl) rfl ?_
  refine WL.val (Value.int .u64 (IntKind.u64.wrap ((andI .u64 (((IntKind.u64.wrap ((andI .u64 ((x).fdiv (2 ^ 1)) (6148914691236517205 : Int)) + (andI .u64 x (6148914691236517205 : Int))))).fdiv (2 ^ 2)) (3689348814741910323 : Int)) + (andI .u64 (IntKind.u64.wrap ((andI .u64 ((x).fdiv (2 ^ 1)) (6148914691236517205 : Int)) + (andI .u64 x (6148914691236517205 : Int)))) (3689348814741910323 : Int))))) _ (op_assign rfl) rfl ?_
  refine WL.nil ?_
  refine W.seq (W.region ?_)
  refine WL.val (Value.int .u64 (IntKind.u64.wrap ((andI .u64 (((IntKind.u64.wrap ((andI .u64 ((x).fdiv (2 ^ 1)) (6148914691236517205 : Int)) + (andI .u64 x (6148914691236517205 : Int))))).fdiv (2 ^ 2)) (3689348814741910323 : Int)) + (andI .u64 (IntKind.u64.wrap ((andI .u64 ((x).fdiv (2 ^ 1)) (6148914691236517205 : Int)) + (andI .u64 x (6148914691236517205 : Int)))) (3689348814741910323 : Int))))) _ (op_move rfl) rfl ?_
  refine WL.val (Value.int .u64 (((IntKind.u64.wrap ((andI .u64 (((IntKind.u64.wrap ((andI .u64 ((x).fdiv (2 ^ 1)) (6148914691236517205 : Int)) + (andI .u64 x (6148914691236517205 : Int))))).fdiv (2 ^ 2)) (3689348814741910323 : Int)) + (andI .u64 (IntKind.u64.wrap ((andI .u64 ((x).fdiv (2 ^ 1)) (6148914691236517205 : Int)) + (andI .u64 x (6148914691236517205 : Int)))) (3689348814741910323 : Int))))).fdiv (2 ^ 4))) _ (op_shr (b := 4) rfl rfl (by decide)) rfl ?_
  refine WL.val (Value.int .u64 (IntKind.u64.wrap ((andI .u64 (((IntKind.u64.wrap ((andI .u64 ((x).fdiv (2 ^ 1)) (6148914691236517205 : Int)) + (andI .u64 x (6148914691236517205 : Int))))).fdiv (2 ^ 2)) (3689348814741910323 : Int)) + (andI .u64 (IntKind.u64.wrap ((andI .u64 ((x).fdiv (2 ^ 1)) (6148914691236517205 : Int)) + (andI .u64 x (6148914691236517205 : Int)))) (3689348814741910323 : Int))))) _ (op_move rfl) rfl ?_
  refine WL.val (Value.int .u64 (IntKind.u64.wrap ((((IntKind.u64.wrap ((andI .u64 (((IntKind.u64.wrap ((andI .u64 ((x).fdiv (2 ^ 1)) (6148914691236517205 : Int)) + (andI .u64 x (6148914691236517205 : Int))))).fdiv (2 ^ 2)) (3689348814741910323 : Int)) + (andI .u64 (IntKind.u64.wrap ((andI .u64 ((x).fdiv (2 ^ 1)) (6148914691236517205 : Int)) + (andI .u64 x (6148914691236517205 : Int)))) (3689348814741910323 : Int))))).fdiv (2 ^ 4)) + (IntKind.u64.wrap ((andI .u64 (((IntKind.u64.wrap ((andI .u64 ((x).fdiv (2 ^ 1)) (6148914691236517205 : Int)) + (andI .u64 x (6148914691236517205 : Int))))).fdiv (2 ^ 2)) (3689348814741910323 : Int)) + (andI .u64 (IntKind.u64.wrap ((andI .u64 ((x).fdiv (2 ^ 1)) (6148914691236517205 : Int)) + (andI .u64 x (6148914691236517205 : Int)))) (3689348814741910323 : Int))))))) _ (op_add rfl rfl) rfl ?_
  refine WL.val (Value.int .u64 (andI .u64 (IntKind.u64.wrap ((((IntKind.u64.wrap ((andI .u64 (((IntKind.u64.wrap ((andI .u64 ((x).fdiv (2 ^ 1)) (6148914691236517205 : Int)) + (andI .u64 x (6148914691236517205 : Int))))).fdiv (2 ^ 2)) (3689348814741910323 : Int)) + (andI .u64 (IntKind.u64.wrap ((andI .u64 ((x).fdiv (2 ^ 1)) (6148914691236517205 : Int)) + (andI .u64 x (6148914691236517205 : Int)))) (3689348814741910323 : Int))))).fdiv (2 ^ 4)) + (IntKind.u64.wrap ((andI .u64 (((IntKind.u64.wrap ((andI .u64 ((x).fdiv (2 ^ 1)) (6148914691236517205 : Int)) + (andI .u64 x (6148914691236517205 : Int))))).fdiv (2 ^ 2)) (3689348814741910323 : Int)) + (andI .u64 (IntKind.u64.wrap ((andI .u64 ((x).fdiv (2 ^ 1)) (6148914691236517205 : Int)) + (andI .u64 x (6148914691236517205 : Int)))) (3689348814741910323 : Int)))))) (1085102592571150095 : Int))) _ (op_and rfl rfl) rfl ?_
  refine WL.val (Value.int .u64 (andI .u64 (IntKind.u64.wrap ((((IntKind.u64.wrap ((andI .u64 (((IntKind.u64.wrap ((andI .u64 ((x).fdiv (2 ^ 1)) (6148914691236517205 : Int)) + (andI .u64 x (6148914691236517205 : Int))))).fdiv (2 ^ 2)) (3689348814741910323 : Int)) + (andI .u64 (IntKind.u64.wrap ((andI .u64 ((x).fdiv (2 ^ 1)) (6148914691236517205 : Int)) + (andI .u64 x (6148914691236517205 : Int)))) (3689348814741910323 : Int))))).fdiv (2 ^ 4)) + (IntKind.u64.wrap ((andI .u64 (((IntKind.u64.wrap ((andI .u64 ((x).fdiv (2 ^ 1)) (6148914691236517205 : Int)) + (andI .u64 x (6148914691236517205 : Int))))).fdiv (2 ^ 2)) (3689348814741910323 : Int)) + (andI .u64 (IntKind.u64.wrap ((andI .u64 ((x).fdiv (2 ^ 1)) (6148914691236517205 : Int)) + (andI .u64 x (6148914691236517205 : Int)))) (3689348814741910323 : Int)))))) (1085102592571150095 : Int))) _ (op_assign rfl) rfl ?_
  refine WL.nil ?_
  refine W.seq (W.region ?_)
  refine WL.val (Value.int .u64 (andI .u64 (IntKind.u64.wrap ((((IntKind.u64.wrap ((andI .u64 (((IntKind.u64.wrap ((andI .u64 ((x).fdiv (2 ^ 1)) (6148914691236517205 : Int)) + (andI .u64 x (6148914691236517205 : Int))))).fdiv (2 ^ 2)) (3689348814741910323 : Int)) + (andI .u64 (IntKind.u64.wrap ((andI .u64 ((x).fdiv (2 ^ 1)) (6148914691236517205 : Int)) + (andI .u64 x (6148914691236517205 : Int)))) (3689348814741910323 : Int))))).fdiv (2 ^ 4)) + (IntKind.u64.wrap ((andI .u64 (((IntKind.u64.wrap ((andI .u64 ((x).fdiv (2 ^ 1)) (6148914691236517205 : Int)) + (andI .u64 x (6148914691236517205 : Int))))).fdiv (2 ^ 2)) (3689348814741910323 : Int)) + (andI .u64 (IntKind.u64.wrap ((andI .u64 ((x).fdiv (2 ^ 1)) (6148914691236517205 : Int)) + (andI .u64 x (6148914691236517205 : Int)))) (3689348814741910323 : Int)))))) (1085102592571150095 : Int))) _ (op_move rfl) rfl ?_
  refine WL.val (Value.int .u64 (andI .u64 (IntKind.u64.wrap ((((IntKind.u64.wrap ((andI .u64 (((IntKind.u64.wrap ((andI .u64 ((x).fdiv (2 ^ 1)) (6148914691236517205 : Int)) + (andI .u64 x (6148914691236517205 : Int))))).fdiv (2 ^ 2)) (3689348814741910323 : Int)) + (andI .u64 (IntKind.u64.wrap ((andI .u64 ((x).fdiv (2 ^ 1)) (6148914691236517205 : Int)) + (andI .u64 x (6148914691236517205 : Int)))) (3689348814741910323 : Int))))).fdiv (2 ^ 4)) + (IntKind.u64.wrap ((andI .u64 (((IntKind.u64.wrap ((andI .u64 ((x).fdiv (2 ^ 1)) (6148914691236517205 : Int)) + (andI .u64 x (6148914691236517205 : Int))))).fdiv (2 ^ 2)) (3689348814741910323 : Int)) + (andI .u64 (IntKind.u64.wrap ((andI .u64 ((x).fdiv (2 ^ 1)) (6148914691236517205 : Int)) + (andI .u64 x (6148914691236517205 : Int)))) (3689348814741910323 : Int)))))) (1085102592571150095 : Int))) _ (op_move rfl) rfl ?_
  refine WL.val (Value.int .u64 (((andI .u64 (IntKind.u64.wrap ((((IntKind.u64.wrap ((andI .u64 (((IntKind.u64.wrap ((andI .u64 ((x).fdiv (2 ^ 1)) (6148914691236517205 : Int)) + (andI .u64 x (6148914691236517205 : Int))))).fdiv (2 ^ 2)) (3689348814741910323 : Int)) + (andI .u64 (IntKind.u64.wrap ((andI .u64 ((x).fdiv (2 ^ 1)) (6148914691236517205 : Int)) + (andI .u64 x (6148914691236517205 : Int)))) (3689348814741910323 : Int))))).fdiv (2 ^ 4)) + (IntKind.u64.wrap ((andI .u64 (((IntKind.u64.wrap ((andI .u64 ((x).fdiv (2 ^ 1)) (6148914691236517205 : Int)) + (andI .u64 x (6148914691236517205 : Int))))).fdiv (2 ^ 2)) (3689348814741910323 : Int)) + (andI .u64 (IntKind.u64.wrap ((andI .u64 ((x).fdiv (2 ^ 1)) (6148914691236517205 : Int)) + (andI .u64 x (6148914691236517205 : Int)))) (3689348814741910323 : Int)))))) (1085102592571150095 : Int))).fdiv (2 ^ 8))) _ (op_shr (b := 8) rfl rfl (by decide)) rfl ?_
  refine WL.val (Value.int .u64 (IntKind.u64.wrap ((andI .u64 (IntKind.u64.wrap ((((IntKind.u64.wrap ((andI .u64 (((IntKind.u64.wrap ((andI .u64 ((x).fdiv (2 ^ 1)) (6148914691236517205 : Int)) + (andI .u64 x (6148914691236517205 : Int))))).fdiv (2 ^ 2)) (3689348814741910323 : Int)) + (andI .u64 (IntKind.u64.wrap ((andI .u64 ((x).fdiv (2 ^ 1)) (6148914691236517205 : Int)) + (andI .u64 x (6148914691236517205 : Int)))) (3689348814741910323 : Int))))).fdiv (2 ^ 4)) + (IntKind.u64.wrap ((andI .u64 (((IntKind.u64.wrap ((andI .u64 ((x).fdiv (2 ^ 1)) (6148914691236517205 : Int)) + (andI .u64 x (6148914691236517205 : Int))))).fdiv (2 ^ 2)) (3689348814741910323 : Int)) + (andI .u64 (IntKind.u64.wrap ((andI .u64 ((x).fdiv (2 ^ 1)) (6148914691236517205 : Int)) + (andI .u64 x (6148914691236517205 : Int)))) (3689348814741910323 : Int)))))) (1085102592571150095 : Int)) + (((andI .u64 (IntKind.u64.wrap ((((IntKind.u64.wrap ((andI .u64 (((IntKind.u64.wrap ((andI .u64 ((x).fdiv (2 ^ 1)) (6148914691236517205 : Int)) + (andI .u64 x (6148914691236517205 : Int))))).fdiv (2 ^ 2)) (3689348814741910323 : Int)) + (andI .u64 (IntKind.u64.wrap ((andI .u64 ((x).fdiv (2 ^ 1)) (6148914691236517205 : Int)) + (andI .u64 x (6148914691236517205 : Int)))) (3689348814741910323 : Int))))).fdiv (2 ^ 4)) + (IntKind.u64.wrap ((andI .u64 (((IntKind.u64.wrap ((andI .u64 ((x).fdiv (2 ^ 1)) (6148914691236517205 : Int)) + (andI .u64 x (6148914691236517205 : Int))))).fdiv (2 ^ 2)) (3689348814741910323 : Int)) + (andI .u64 (IntKind.u64.wrap ((andI .u64 ((x).fdiv (2 ^ 1)) (6148914691236517205 : Int)) + (andI .u64 x (6148914691236517205 : Int)))) (3689348814741910323 : Int)))))) (1085102592571150095 : Int))).fdiv (2 ^ 8))))) _ (op_add rfl rfl) rfl ?_
  refine WL.val (Value.int .u64 (IntKind.u64.wrap ((andI .u64 (IntKind.u64.wrap ((((IntKind.u64.wrap ((andI .u64 (((IntKind.u64.wrap ((andI .u64 ((x).fdiv (2 ^ 1)) (6148914691236517205 : Int)) + (andI .u64 x (6148914691236517205 : Int))))).fdiv (2 ^ 2)) (3689348814741910323 : Int)) + (andI .u64 (IntKind.u64.wrap ((andI .u64 ((x).fdiv (2 ^ 1)) (6148914691236517205 : Int)) + (andI .u64 x (6148914691236517205 : Int)))) (3689348814741910323 : Int))))).fdiv (2 ^ 4)) + (IntKind.u64.wrap ((andI .u64 (((IntKind.u64.wrap ((andI .u64 ((x).fdiv (2 ^ 1)) (6148914691236517205 : Int)) + (andI .u64 x (6148914691236517205 : Int))))).fdiv (2 ^ 2)) (3689348814741910323 : Int)) + (andI .u64 (IntKind.u64.wrap ((andI .u64 ((x).fdiv (2 ^ 1)) (6148914691236517205 : Int)) + (andI .u64 x (6148914691236517205 : Int)))) (3689348814741910323 : Int)))))) (1085102592571150095 : Int)) + (((andI .u64 (IntKind.u64.wrap ((((IntKind.u64.wrap ((andI .u64 (((IntKind.u64.wrap ((andI .u64 ((x).fdiv (2 ^ 1)) (6148914691236517205 : Int)) + (andI .u64 x (6148914691236517205 : Int))))).fdiv (2 ^ 2)) (3689348814741910323 : Int)) + (andI .u64 (IntKind.u64.wrap ((andI .u64 ((x).fdiv (2 ^ 1)) (6148914691236517205 : Int)) + (andI .u64 x (6148914691236517205 : Int)))) (3689348814741910323 : Int))))).fdiv (2 ^ 4)) + (IntKind.u64.wrap ((andI .u64 (((IntKind.u64.wrap ((andI .u64 ((x).fdiv (2 ^ 1)) (6148914691236517205 : Int)) + (andI .u64 x (6148914691236517205 : Int))))).fdiv (2 ^ 2)) (3689348814741910323 : Int)) + (andI .u64 (IntKind.u64.wrap ((andI .u64 ((x).fdiv (2 ^ 1)) (6148914691236517205 : Int)) + (andI .u64 x (6148914691236517205 : Int)))) (3689348814741910323 : Int)))))) (1085102592571150095 : Int))).fdiv (2 ^ 8))))) _ (op_assign rfl) rfl ?_
  refine WL.nil ?_
  refine W.seq (W.region ?_)
  refine WL.val (Value.int .u64 (IntKind.u64.wrap ((andI .u64 (IntKind.u64.wrap ((((IntKind.u64.wrap ((andI .u64 (((IntKind.u64.wrap ((andI .u64 ((x).fdiv (2 ^ 1)) (6148914691236517205 : Int)) + (andI .u64 x (6148914691236517205 : Int))))).fdiv (2 ^ 2)) (3689348814741910323 : Int)) + (andI .u64 (IntKind.u64.wrap ((andI .u64 ((x).fdiv (2 ^ 1)) (6148914691236517205 : Int)) + (andI .u64 x (6148914691236517205 : Int)))) (3689348814741910323 : Int))))).fdiv (2 ^ 4)) + (IntKind.u64.wrap ((andI .u64 (((IntKind.u64.wrap ((andI .u64 ((x).fdiv (2 ^ 1)) (6148914691236517205 : Int)) + (andI .u64 x (6148914691236517205 : Int))))).fdiv (2 ^ 2)) (3689348814741910323 : Int)) + (andI .u64 (IntKind.u64.wrap ((andI .u64 ((x).fdiv (2 ^ 1)) (6148914691236517205 : Int)) + (andI .u64 x (6148914691236517205 : Int)))) (3689348814741910323 : Int)))))) (1085102592571150095 : Int)) + (((andI .u64 (IntKind.u64.wrap ((((IntKind.u64.wrap ((andI .u64 (((IntKind.u64.wrap ((andI .u64 ((x).fdiv (2 ^ 1)) (6148914691236517205 : Int)) + (andI .u64 x (6148914691236517205 : Int))))).fdiv (2 ^ 2)) (3689348814741910323 : Int)) + (andI .u64 (IntKind.u64.wrap ((andI .u64 ((x).fdiv (2 ^ 1)) (6148914691236517205 : Int)) + (andI .u64 x (6148914691236517205 : Int)))) (3689348814741910323 : Int))))).fdiv (2 ^ 4)) + (IntKind.u64.wrap ((andI .u64 (((IntKind.u64.wrap ((andI .u64 ((x).fdiv (2 ^ 1)) (6148914691236517205 : Int)) + (andI .u64 x (6148914691236517205 : Int))))).fdiv (2 ^ 2)) (3689348814741910323 : Int)) + (andI .u64 (IntKind.u64.wrap ((andI .u64 ((x).fdiv (2 ^ 1)) (6148914691236517205 : Int)) + (andI .u64 x (6148914691236517205 : Int)))) (3689348814741910323 : Int)))))) (1085102592571150095 : Int))).fdiv (2 ^ 8))))) _ (op_move rfl) rfl ?_
  refine WL.val (Value.int .u64 (IntKind.u64.wrap ((andI .u64 (IntKind.u64.wrap ((((IntKind.u64.wrap ((andI .u64 (((IntKind.u64.wrap ((andI .u64 ((x).fdiv (2 ^ 1)) (6148914691236517205 : Int)) + (andI .u64 x (6148914691236517205 : Int))))).fdiv (2 ^ 2)) (3689348814741910323 : Int)) + (andI .u64 (IntKind.u64.wrap ((andI .u64 ((x).fdiv (2 ^ 1)) (6148914691236517205 : Int)) + (andI .u64 x (6148914691236517205 : Int)))) (3689348814741910323 : Int))))).fdiv (2 ^ 4)) + (IntKind.u64.wrap ((andI .u64 (((IntKind.u64.wrap ((andI .u64 ((x).fdiv (2 ^ 1)) (6148914691236517205 : Int)) + (andI .u64 x (6148914691236517205 : Int))))).fdiv (2 ^ 2)) (3689348814741910323 : Int)) + (andI .u64 (IntKind.u64.wrap ((andI .u64 ((x).fdiv (2 ^ 1)) (6148914691236517205 : Int)) + (andI .u64 x (6148914691236517205 : Int)))) (3689348814741910323 : Int)))))) (1085102592571150095 : Int)) + (((andI .u64 (IntKind.u64.wrap ((((IntKind.u64.wrap ((andI .u64 (((IntKind.u64.wrap ((andI .u64 ((x).fdiv (2 ^ 1)) (6148914691236517205 : Int)) + (andI .u64 x (6148914691236517205 : Int))))).fdiv (2 ^ 2)) (3689348814741910323 : Int)) + (andI .u64 (IntKind.u64.wrap ((andI .u64 ((x).fdiv (2 ^ 1)) (6148914691236517205 : Int)) + (andI .u64 x (6148914691236517205 : Int)))) (3689348814741910323 : Int))))).fdiv (2 ^ 4)) + (IntKind.u64.wrap ((andI .u64 (((IntKind.u64.wrap ((andI .u64 ((x).fdiv (2 ^ 1)) (6148914691236517205 : Int)) + (andI .u64 x (6148914691236517205 : Int))))).fdiv (2 ^ 2)) (3689348814741910323 : Int)) + (andI .u64 (IntKind.u64.wrap ((andI .u64 ((x).fdiv (2 ^ 1)) (6148914691236517205 : Int)) + (andI .u64 x (6148914691236517205 : Int)))) (3689348814741910323 : Int)))))) (1085102592571150095 : Int))).fdiv (2 ^ 8))))) _ (op_move rfl) rfl ?_
  refine WL.val (Value.int .u64 (((IntKind.u64.wrap ((andI .u64 (IntKind.u64.wrap ((((IntKind.u64.wrap ((andI .u64 (((IntKind.u64.wrap ((andI .u64 ((x).fdiv (2 ^ 1)) (6148914691236517205 : Int)) + (andI .u64 x (6148914691236517205 : Int))))).fdiv (2 ^ 2)) (3689348814741910323 : Int)) + (andI .u64 (IntKind.u64.wrap ((andI .u64 ((x).fdiv (2 ^ 1)) (6148914691236517205 : Int)) + (andI .u64 x (6148914691236517205 : Int)))) (3689348814741910323 : Int))))).fdiv (2 ^ 4)) + (IntKind.u64.wrap ((andI .u64 (((IntKind.u64.wrap ((andI .u64 ((x).fdiv (2 ^ 1)) (6148914691236517205 : Int)) + (andI .u64 x (6148914691236517205 : Int))))).fdiv (2 ^ 2)) (3689348814741910323 : Int)) + (andI .u64 (IntKind.u64.wrap ((andI .u64 ((x).fdiv (2 ^ 1)) (6148914691236517205 : Int)) + (andI .u64 x (6148914691236517205 : Int)))) (3689348814741910323 : Int)))))) (1085102592571150095 : Int)) + (((andI .u64 (IntKind.u64.wrap ((((IntKind.u64.wrap ((andI .u64 (((IntKind.u64.wrap ((andI .u64 ((x).fdiv (2 ^ 1)) (6148914691236517205 : Int)) + (andI .u64 x (6148914691236517205 : Int))))).fdiv (2 ^ 2)) (3689348814741910323 : Int)) + (andI .u64 (IntKind.u64.wrap ((andI .u64 ((x).fdiv (2 ^ 1)) (6148914691236517205 : Int)) + (andI .u64 x (6148914691236517205 : Int)))) (3689348814741910323 : Int))))).fdiv (2 ^ 4)) + (IntKind.u64.wrap ((andI .u64 (((IntKind.u64.wrap ((andI .u64 ((x).fdiv (2 ^ 1)) (6148914691236517205 : Int)) + (andI .u64 x (6148914691236517205 : Int))))).fdiv (2 ^ 2)) (3689348814741910323 : Int)) + (andI .u64 (IntKind.u64.wrap ((andI .u64 ((x).fdiv (2 ^ 1)) (6148914691236517205 : Int)) + (andI .u64 x (6148914691236517205 : Int)))) (3689348814741910323 : Int)))))) (1085102592571150095 : Int))).fdiv (2 ^ 8))))).fdiv (2 ^ 16))) _ (op_shr (b := 16) rfl rfl (by decide)) rfl ?_
  refine WL.val (Value.int .u64 (IntKind.u64.wrap ((IntKind.u64.wrap ((andI .u64 (IntKind.u64.wrap ((((IntKind.u64.wrap ((andI .u64 (((IntKind.u64.wrap ((andI .u64 ((x).fdiv (2 ^ 1)) (6148914691236517205 : Int)) + (andI .u64 x (6148914691236517205 : Int))))).fdiv (2 ^ 2)) (3689348814741910323 : Int)) + (andI .u64 (IntKind.u64.wrap ((andI .u64 ((x).fdiv (2 ^ 1)) (6148914691236517205 : Int)) + (andI .u64 x (6148914691236517205 : Int)))) (3689348814741910323 : Int))))).fdiv (2 ^ 4)) + (IntKind.u64.wrap ((andI .u64 (((IntKind.u64.wrap ((andI .u64 ((x).fdiv (2 ^ 1)) (6148914691236517205 : Int)) + (andI .u64 x (6148914691236517205 : Int))))).fdiv (2 ^ 2)) (3689348814741910323 : Int)) + (andI .u64 (IntKind.u64.wrap ((andI .u64 ((x).fdiv (2 ^ 1)) (6148914691236517205 : Int)) + (andI .u64 x (6148914691236517205 : Int)))) (3689348814741910323 : Int)))))) (1085102592571150095 : Int)) + (((andI .u64 (IntKind.u64.wrap ((((IntKind.u64.wrap ((andI .u64 (((IntKind.u64.wrap ((andI .u64 ((x).fdiv (2 ^ 1)) (6148914691236517205 : Int)) + (andI .u64 x (6148914691236517205 : Int))))).fdiv (2 ^ 2)) (3689348814741910323 : Int)) + (andI .u64 (IntKind.u64.wrap ((andI .u64 ((x).fdiv (2 ^ 1)) (6148914691236517205 : Int)) + (andI .u64 x (6148914691236517205 : Int)))) (3689348814741910323 : Int))))).fdiv (2 ^ 4)) + (IntKind.u64.wrap ((andI .u64 (((IntKind.u64.wrap ((andI .u64 ((x).fdiv (2 ^ 1)) (6148914691236517205 : Int)) + (andI .u64 x (6148914691236517205 : Int))))).fdiv (2 ^ 2)) (3689348814741910323 : Int)) + (andI .u64 (IntKind.u64.wrap ((andI .u64 ((x).fdiv (2 ^ 1)) (6148914691236517205 : Int)) + (andI .u64 x (6148914691236517205 : Int)))) (3689348814741910323 : Int)))))) (1085102592571150095 : Int))).fdiv (2 ^ 8)))) + (((IntKind.u64.wrap ((andI .u64 (IntKind.u64.wrap ((((IntKind.u64.wrap ((andI .u64 (((IntKind.u64.wrap ((andI .u64 ((x).fdiv (2 ^ 1)) (6148914691236517205 : Int)) + (andI .u64 x (6148914691236517205 : Int))))).fdiv (2 ^ 2)) (3689348814741910323 : Int)) + (andI .u64 (IntKind.u64.wrap ((andI .u64 ((x).fdiv (2 ^ 1)) (6148914691236517205 : Int)) + (andI .u64 x (6148914691236517205 : Int)))) (3689348814741910323 : Int))))).fdiv (2 ^ 4)) + (IntKind.u64.wrap ((andI .u64 (((IntKind.u64.wrap ((andI .u64 ((x).fdiv (2 ^ 1)) (6148914691236517205 : Int)) + (andI .u64 x (6148914691236517205 : Int))))).fdiv (2 ^ 2)) (3689348814741910323 : Int)) + (andI .u64 (IntKind.u64.wrap ((andI .u64 ((x).fdiv (2 ^ 1)) (6148914691236517205 : Int)) + (andI .u64 x (6148914691236517205 : Int)))) (3689348814741910323 : Int)))))) (1085102592571150095 : Int)) + (((andI .u64 (IntKind.u64.wrap ((((IntKind.u64.wrap ((andI .u64 (((IntKind.u64.wrap ((andI .u64 ((x).fdiv (2 ^ 1)) (6148914691236517205 : Int)) + (andI .u64 x (6148914691236517205 : Int))))).fdiv (2 ^ 2)) (3689348814741910323 : Int)) + (andI .u64 (IntKind.u64.wrap ((andI .u64 ((x).fdiv (2 ^ 1)) (6148914691236517205 : Int)) + (andI .u64 x (6148914691236517205 : Int)))) (3689348814741910323 : Int))))).fdiv (2 ^ 4)) + (IntKind.u64.wrap ((andI .u64 (((IntKind.u64.wrap ((andI .u64 ((x).fdiv (2 ^ 1)) (6148914691236517205 : Int)) + (andI .u64 x (6148914691236517205 : Int))))).fdiv (2 ^ 2)) (3689348814741910323 : Int)) + (andI .u64 (IntKind.u64.wrap ((andI .u64 ((x).fdiv (2 ^ 1)) (6148914691236517205 : Int)) + (andI .u64 x (6148914691236517205 : Int)))) (3689348814741910323 : Int)))))) (1085102592571150095 : Int))).fdiv (2 ^ 8))))).fdiv (2 ^ 16))))) _ (op_add rfl rfl) rfl ?_
  refine WL.val (Value.int .u64 (IntKind.u64.wrap ((IntKind.u64.wrap ((andI .u64 (IntKind.u64.wrap ((((IntKind.u64.wrap ((andI .u64 (((IntKind.u64.wrap ((andI .u64 ((x).fdiv (2 ^ 1)) (6148914691236517205 : Int)) + (andI .u64 x (6148914691236517205 : Int))))).fdiv (2 ^ 2)) (3689348814741910323 : Int)) + (andI .u64 (IntKind.u64.wrap ((andI .u64 ((x).fdiv (2 ^ 1)) (6148914691236517205 : Int)) + (andI .u64 x (6148914691236517205 : Int)))) (3689348814741910323 : Int))))).fdiv (2 ^ 4)) + (IntKind.u64.wrap ((andI .u64 (((IntKind.u64.wrap ((andI .u64 ((x).fdiv (2 ^ 1)) (6148914691236517205 : Int)) + (andI .u64 x (6148914691236517205 : Int))))).fdiv (2 ^ 2)) (3689348814741910323 : Int)) + (andI .u64 (IntKind.u64.wrap ((andI .u64 ((x).fdiv (2 ^ 1)) (6148914691236517205 : Int)) + (andI .u64 x (6148914691236517205 : Int)))) (3689348814741910323 : Int)))))) (1085102592571150095 : Int)) + (((andI .u64 (IntKind.u64.wrap ((((IntKind.u64.wrap ((andI .u64 (((IntKind.u64.wrap ((andI .u64 ((x).fdiv (2 ^ 1)) (6148914691236517205 : Int)) + (andI .u64 x (6148914691236517205 : Int))))).fdiv (2 ^ 2)) (3689348814741910323 : Int)) + (andI .u64 (IntKind.u64.wrap ((andI .u64 ((x).fdiv (2 ^ 1)) (6148914691236517205 : Int)) + (andI .u64 x (6148914691236517205 : Int)))) (3689348814741910323 : Int))))).fdiv (2 ^ 4)) + (IntKind.u64.wrap ((andI .u64 (((IntKind.u64.wrap ((andI .u64 ((x).fdiv (2 ^ 1)) (6148914691236517205 : Int)) + (andI .u64 x (6148914691236517205 : Int))))).fdiv (2 ^ 2)) (3689348814741910323 : Int)) + (andI .u64 (IntKind.u64.wrap ((andI .u64 ((x).fdiv (2 ^ 1)) (6148914691236517205 : Int)) + (andI .u64 x (6148914691236517205 : Int)))) (3689348814741910323 : Int)))))) (1085102592571150095 : Int))).fdiv (2 ^ 8)))) + (((IntKind.u64.wrap ((andI .u64 (IntKind.u64.wrap ((((IntKind.u64.wrap ((andI .u64 (((IntKind.u64.wrap ((andI .u64 ((x).fdiv (2 ^ 1)) (6148914691236517205 : Int)) + (andI .u64 x (6148914691236517205 : Int))))).fdiv (2 ^ 2)) (3689348814741910323 : Int)) + (andI .u64 (IntKind.u64.wrap ((andI .u64 ((x).fdiv (2 ^ 1)) (6148914691236517205 : Int)) + (andI .u64 x (6148914691236517205 : Int)))) (3689348814741910323 : Int))))).fdiv (2 ^ 4)) + (IntKind.u64.wrap ((andI .u64 (((IntKind.u64.wrap ((andI .u64 ((x).fdiv (2 ^ 1)) (6148914691236517205 : Int)) + (andI .u64 x (6148914691236517205 : Int))))).fdiv (2 ^ 2)) (3689348814741910323 : Int)) + (andI .u64 (IntKind.u64.wrap ((andI .u64 ((x).fdiv (2 ^ 1)) (6148914691236517205 : Int)) + (andI .u64 x (6148914691236517205 : Int)))) (3689348814741910323 : Int)))))) (1085102592571150095 : Int)) + (((andI .u64 (IntKind.u64.wrap ((((IntKind.u64.wrap ((andI .u64 (((IntKind.u64.wrap ((andI .u64 ((x).fdiv (2 ^ 1)) (6148914691236517205 : Int)) + (andI .u64 x (6148914691236517205 : Int))))).fdiv (2 ^ 2)) (3689348814741910323 : Int)) + (andI .u64 (IntKind.u64.wrap ((andI .u64 ((x).fdiv (2 ^ 1)) (6148914691236517205 : Int)) + (andI .u64 x (6148914691236517205 : Int)))) (3689348814741910323 : Int))))).fdiv (2 ^ 4)) + (IntKind.u64.wrap ((andI .u64 (((IntKind.u64.wrap ((andI .u64 ((x).fdiv (2 ^ 1)) (6148914691236517205 : Int)) + (andI .u64 x (6148914691236517205 : Int))))).fdiv (2 ^ 2)) (3689348814741910323 : Int)) + (andI .u64 (IntKind.u64.wrap ((andI .u64 ((x).fdiv (2 ^ 1)) (6148914691236517205 : Int)) + (andI .u64 x (6148914691236517205 : Int)))) (3689348814741910323 : Int)))))) (1085102592571150095 : Int))).fdiv (2 ^ 8))))).fdiv (2 ^ 16))))) _ (op_assign rfl) rfl ?_
  refine WL.nil ?_
  refine W.seq (W.region ?_)
  refine WL.val (Value.int .u64 (IntKind.u64.wrap ((IntKind.u64.wrap ((andI .u64 (IntKind.u64.wrap ((((IntKind.u64.wrap ((andI .u64 (((IntKind.u64.wrap ((andI .u64 ((x).fdiv (2 ^ 1)) (6148914691236517205 : Int)) + (andI .u64 x (6148914691236517205 : Int))))).fdiv (2 ^ 2)) (3689348814741910323 : Int)) + (andI .u64 (IntKind.u64.wrap ((andI .u64 ((x).fdiv (2 ^ 1)) (6148914691236517205 : Int)) + (andI .u64 x (6148914691236517205 : Int)))) (3689348814741910323 : Int))))).fdiv (2 ^ 4)) + (IntKind.u64.wrap ((andI .u64 (((IntKind.u64.wrap ((andI .u64 ((x).fdiv (2 ^ 1)) (6148914691236517205 : Int)) + (andI .u64 x (6148914691236517205 : Int))))).fdiv (2 ^ 2)) (3689348814741910323 : Int)) + (andI .u64 (IntKind.u64.wrap ((andI .u64 ((x).fdiv (2 ^ 1)) (6148914691236517205 : Int)) + (andI .u64 x (6148914691236517205 : Int)))) (3689348814741910323 : Int)))))) (1085102592571150095 : Int)) + (((andI .u64 (IntKind.u64.wrap ((((IntKind.u64.wrap ((andI .u64 (((IntKind.u64.wrap ((andI .u64 ((x).fdiv (2 ^ 1)) (6148914691236517205 : Int)) + (andI .u64 x (6148914691236517205 : Int))))).fdiv (2 ^ 2)) (3689348814741910323 : Int)) + (andI .u64 (IntKind.u64.wrap ((andI .u64 ((x).fdiv (2 ^ 1)) (6148914691236517205 : Int)) + (andI .u64 x (6148914691236517205 : Int)))) (3689348814741910323 : Int))))).fdiv (2 ^ 4)) + (IntKind.u64.wrap ((andI .u64 (((IntKind.u64.wrap ((andI .u64 ((x).fdiv (2 ^ 1)) (6148914691236517205 : Int)) + (andI .u64 x (6148914691236517205 : Int))))).fdiv (2 ^ 2)) (3689348814741910323 : Int)) + (andI .u64 (IntKind.u64.wrap ((andI .u64 ((x).fdiv (2 ^ 1)) (6148914691236517205 : Int)) + (andI .u64 x (6148914691236517205 : Int)))) (3689348814741910323 : Int)))))) (1085102592571150095 : Int))).fdiv (2 ^ 8)))) + (((IntKind.u64.wrap ((andI .u64 (IntKind.u64.wrap ((((IntKind.u64.wrap ((andI .u64 (((IntKind.u64.wrap ((andI .u64 ((x).fdiv (2 ^ 1)) (6148914691236517205 : Int)) + (andI .u64 x (6148914691236517205 : Int))))).fdiv (2 ^ 2)) (3689348814741910323 : Int)) + (andI .u64 (IntKind.u64.wrap ((andI .u64 ((x).fdiv (2 ^ 1)) (6148914691236517205 : Int)) + (andI .u64 x (6148914691236517205 : Int)))) (3689348814741910323 : Int))))).fdiv (2 ^ 4)) + (IntKind.u64.wrap ((andI .u64 (((IntKind.u64.wrap ((andI .u64 ((x).fdiv (2 ^ 1)) (6148914691236517205 : Int)) + (andI .u64 x (6148914691236517205 : Int))))).fdiv (2 ^ 2)) (3689348814741910323 : Int)) + (andI .u64 (IntKind.u64.wrap ((andI .u64 ((x).fdiv (2 ^ 1)) (6148914691236517205 : Int)) + (andI .u64 x (6148914691236517205 : Int)))) (3689348814741910323 : Int)))))) (1085102592571150095 : Int)) + (((andI .u64 (IntKind.u64.wrap ((((IntKind.u64.wrap ((andI .u64 (((IntKind.u64.wrap ((andI .u64 ((x).fdiv (2 ^ 1)) (6148914691236517205 : Int)) + (andI .u64 x (6148914691236517205 : Int))))).fdiv (2 ^ 2)) (3689348814741910323 : Int)) + (andI .u64 (IntKind.u64.wrap ((andI .u64 ((x).fdiv (2 ^ 1)) (6148914691236517205 : Int)) + (andI .u64 x (6148914691236517205 : Int)))) (3689348814741910323 : Int))))).fdiv (2 ^ 4)) + (IntKind.u64.wrap ((andI .u64 (((IntKind.u64.wrap ((andI .u64 ((x).fdiv (2 ^ 1)) (6148914691236517205 : Int)) + (andI .u64 x (6148914691236517205 : Int))))).fdiv (2 ^ 2)) (3689348814741910323 : Int)) + (andI .u64 (IntKind.u64.wrap ((andI .u64 ((x).fdiv (2 ^ 1)) (6148914691236517205 : Int)) + (andI .u64 x (6148914691236517205 : Int)))) (3689348814741910323 : Int)))))) (1085102592571150095 : Int))).fdiv (2 ^ 8))))).fdiv (2 ^ 16))))) _ (op_move rfl) rfl ?_
  refine WL.val (Value.int .u64 (IntKind.u64.wrap ((IntKind.u64.wrap ((andI .u64 (IntKind.u64.wrap ((((IntKind.u64.wrap ((andI .u64 (((IntKind.u64.wrap ((andI .u64 ((x).fdiv (2 ^ 1)) (6148914691236517205 : Int)) + (andI .u64 x (6148914691236517205 : Int))))).fdiv (2 ^ 2)) (3689348814741910323 : Int)) + (andI .u64 (IntKind.u64.wrap ((andI .u64 ((x).fdiv (2 ^ 1)) (6148914691236517205 : Int)) + (andI .u64 x (6148914691236517205 : Int)))) (3689348814741910323 : Int))))).fdiv (2 ^ 4)) + (IntKind.u64.wrap ((andI .u64 (((IntKind.u64.wrap ((andI .u64 ((x).fdiv (2 ^ 1)) (6148914691236517205 : Int)) + (andI .u64 x (6148914691236517205 : Int))))).fdiv (2 ^ 2)) (3689348814741910323 : Int)) + (andI .u64 (IntKind.u64.wrap ((andI .u64 ((x).fdiv (2 ^ 1)) (6148914691236517205 : Int)) + (andI .u64 x (6148914691236517205 : Int)))) (3689348814741910323 : Int)))))) (1085102592571150095 : Int)) + (((andI .u64 (IntKind.u64.wrap ((((IntKind.u64.wrap ((andI .u64 (((IntKind.u64.wrap ((andI .u64 ((x).fdiv (2 ^ 1)) (6148914691236517205 : Int)) + (andI .u64 x (6148914691236517205 : Int))))).fdiv (2 ^ 2)) (3689348814741910323 : Int)) + (andI .u64 (IntKind.u64.wrap ((andI .u64 ((x).fdiv (2 ^ 1)) (6148914691236517205 : Int)) + (andI .u64 x (6148914691236517205 : Int)))) (3689348814741910323 : Int))))).fdiv (2 ^ 4)) + (IntKind.u64.wrap ((andI .u64 (((IntKind.u64.wrap ((andI .u64 ((x).fdiv (2 ^ 1)) (6148914691236517205 : Int)) + (andI .u64 x (6148914691236517205 : Int))))).fdiv (2 ^ 2)) (3689348814741910323 : Int)) + (andI .u64 (IntKind.u64.wrap ((andI .u64 ((x).fdiv (2 ^ 1)) (6148914691236517205 : Int)) + (andI .u64 x (6148914691236517205 : Int)))) (3689348814741910323 : Int)))))) (1085102592571150095 : Int))).fdiv (2 ^ 8)))) + (((IntKind.u64.wrap ((andI .u64 (IntKind.u64.wrap ((((IntKind.u64.wrap ((andI .u64 (((IntKind.u64.wrap ((andI .u64 ((x).fdiv (2 ^ 1)) (6148914691236517205 : Int)) + (andI .u64 x (6148914691236517205 : Int))))).fdiv (2 ^ 2)) (3689348814741910323 : Int)) + (andI .u64 (IntKind.u64.wrap ((andI .u64 ((x).fdiv (2 ^ 1)) (6148914691236517205 : Int)) + (andI .u64 x (6148914691236517205 : Int)))) (3689348814741910323 : Int))))).fdiv (2 ^ 4)) + (IntKind.u64.wrap ((andI .u64 (((IntKind.u64.wrap ((andI .u64 ((x).fdiv (2 ^ 1)) (6148914691236517205 : Int)) + (andI .u64 x (6148914691236517205 : Int))))).fdiv (2 ^ 2)) (3689348814741910323 : Int)) + (andI .u64 (IntKind.u64.wrap ((andI .u64 ((x).fdiv (2 ^ 1)) (6148914691236517205 : Int)) + (andI .u64 x (6148914691236517205 : Int)))) (3689348814741910323 : Int)))))) (1085102592571150095 : Int)) + (((andI .u64 (IntKind.u64.wrap ((((IntKind.u64.wrap ((andI .u64 (((IntKind.u64.wrap ((andI .u64 ((x).fdiv (2 ^ 1)) (6148914691236517205 : Int)) + (andI .u64 x (6148914691236517205 : Int))))).fdiv (2 ^ 2)) (3689348814741910323 : Int)) + (andI .u64 (IntKind.u64.wrap ((andI .u64 ((x).fdiv (2 ^ 1)) (6148914691236517205 : Int)) + (andI .u64 x (6148914691236517205 : Int)))) (3689348814741910323 : Int))))).fdiv (2 ^ 4)) + (IntKind.u64.wrap ((andI .u64 (((IntKind.u64.wrap ((andI .u64 ((x).fdiv (2 ^ 1)) (6148914691236517205 : Int)) + (andI .u64 x (6148914691236517205 : Int))))).fdiv (2 ^ 2)) (3689348814741910323 : Int)) + (andI .u64 (IntKind.u64.wrap ((andI .u64 ((x).fdiv (2 ^ 1)) (6148914691236517205 : Int)) + (andI .u64 x (6148914691236517205 : Int)))) (3689348814741910323 : Int)))))) (1085102592571150095 : Int))).fdiv (2 ^ 8))))).fdiv (2 ^ 16))))) _ (op_move rfl) rfl ?_
  refine WL.val (Value.int .u64 (((IntKind.u64.wrap ((IntKind.u64.wrap ((andI .u64 (IntKind.u64.wrap ((((IntKind.u64.wrap ((andI .u64 (((IntKind.u64.wrap ((andI .u64 ((x).fdiv (2 ^ 1)) (6148914691236517205 : Int)) + (andI .u64 x (6148914691236517205 : Int))))).fdiv (2 ^ 2)) (3689348814741910323 : Int)) + (andI .u64 (IntKind.u64.wrap ((andI .u64 ((x).fdiv (2 ^ 1)) (6148914691236517205 : Int)) + (andI .u64 x (6148914691236517205 : Int)))) (3689348814741910323 : Int))))).fdiv (2 ^ 4)) + (IntKind.u64.wrap ((andI .u64 (((IntKind.u64.wrap ((andI .u64 ((x).fdiv (2 ^ 1)) (6148914691236517205 : Int)) + (andI .u64 x (6148914691236517205 : Int))))).fdiv (2 ^ 2)) (3689348814741910323 : Int)) + (andI .u64 (IntKind.u64.wrap ((andI .u64 ((x).fdiv (2 ^ 1)) (6148914691236517205 : Int)) + (andI .u64 x (6148914691236517205 : Int)))) (3689348814741910323 : Int)))))) (1085102592571150095 : Int)) + (((andI .u64 (IntKind.u64.wrap ((((IntKind.u64.wrap ((andI .u64 (((IntKind.u64.wrap ((andI .u64 ((x).fdiv (2 ^ 1)) (6148914691236517205 : Int)) + (andI .u64 x (6148914691236517205 : Int))))).fdiv (2 ^ 2)) (3689348814741910323 : Int)) + (andI .u64 (IntKind.u64.wrap ((andI .u64 ((x).fdiv (2 ^ 1)) (6148914691236517205 : Int)) + (andI .u64 x (6148914691236517205 : Int)))) (3689348814741910323 : Int))))).fdiv (2 ^ 4)) + (IntKind.u64.wrap ((andI .u64 (((IntKind.u64.wrap ((andI .u64 ((x).fdiv (2 ^ 1)) (6148914691236517205 : Int)) + (andI .u64 x (6148914691236517205 : Int))))).fdiv (2 ^ 2)) (3689348814741910323 : Int)) + (andI .u64 (IntKind.u64.wrap ((andI .u64 ((x).fdiv (2 ^ 1)) (6148914691236517205 : Int)) + (andI .u64 x (6148914691236517205 : Int)))) (3689348814741910323 : Int)))))) (1085102592571150095 : Int))).fdiv (2 ^ 8)))) + (((IntKind.u64.wrap ((andI .u64 (IntKind.u64.wrap ((((IntKind.u64.wrap ((andI .u64 (((IntKind.u64.wrap ((andI .u64 ((x).fdiv (2 ^ 1)) (6148914691236517205 : Int)) + (andI .u64 x (6148914691236517205 : Int))))).fdiv (2 ^ 2)) (3689348814741910323 : Int)) + (andI .u64 (IntKind.u64.wrap ((andI .u64 ((x).fdiv (2 ^ 1)) (6148914691236517205 : Int)) + (andI .u64 x (6148914691236517205 : Int)))) (3689348814741910323 : Int))))).fdiv (2 ^ 4)) + (IntKind.u64.wrap ((andI .u64 (((IntKind.u64.wrap ((andI .u64 ((x).fdiv (2 ^ 1)) (6148914691236517205 : Int)) + (andI .u64 x (6148914691236517205 : Int))))).fdiv (2 ^ 2)) (3689348814741910323 : Int)) + (andI .u64 (IntKind.u64.wrap ((andI .u64 ((x).fdiv (2 ^ 1)) (6148914691236517205 : Int)) + (andI .u64 x (6148914691236517205 : Int)))) (3689348814741910323 : Int)))))) (1085102592571150095 : Int)) + (((andI .u64 (IntKind.u64.wrap ((((IntKind.u64.wrap ((andI .u64 (((IntKind.u64.wrap ((andI .u64 ((x).fdiv (2 ^ 1)) (6148914691236517205 : Int)) + (andI .u64 x (6148914691236517205 : Int))))).fdiv (2 ^ 2)) (3689348814741910323 : Int)) + (andI .u64 (IntKind.u64.wrap ((andI .u64 ((x).fdiv (2 ^ 1)) (6148914691236517205 : Int)) + (andI .u64 x (6148914691236517205 : Int)))) (3689348814741910323 : Int))))).fdiv (2 ^ 4)) + (IntKind.u64.wrap ((andI .u64 (((IntKind.u64.wrap ((andI .u64 ((x).fdiv (2 ^ 1)) (6148914691236517205 : Int)) + (andI .u64 x (6148914691236517205 : Int))))).fdiv (2 ^ 2)) (3689348814741910323 : Int)) + (andI .u64 (IntKind.u64.wrap ((andI .u64 ((x).fdiv (2 ^ 1)) (6148914691236517205 : Int)) + (andI .u64 x (6148914691236517205 : Int)))) (3689348814741910323 : Int)))))) (1085102592571150095 : Int))).fdiv (2 ^ 8))))).fdiv (2 ^ 16))))).fdiv (2 ^ 32))) _ (op_shr (b := 32) rfl rfl (by decide)) rfl ?_
  refine WL.val (Value.int .u64 (IntKind.u64.wrap ((IntKind.u64.wrap ((IntKind.u64.wrap ((andI .u64 (IntKind.u64.wrap ((((IntKind.u64.wrap ((andI .u64 (((IntKind.u64.wrap ((andI .u64 ((x).fdiv (2 ^ 1)) (6148914691236517205 : Int)) + (andI .u64 x (6148914691236517205 : Int))))).fdiv (2 ^ 2)) (3689348814741910323 : Int)) + (andI .u64 (IntKind.u64.wrap ((andI .u64 ((x).fdiv (2 ^ 1)) (6148914691236517205 : Int)) + (andI .u64 x (6148914691236517205 : Int)))) (3689348814741910323 : Int))))).fdiv (2 ^ 4)) + (IntKind.u64.wrap ((andI .u64 (((IntKind.u64.wrap ((andI .u64 ((x).fdiv (2 ^ 1)) (6148914691236517205 : Int)) + (andI .u64 x (6148914691236517205 : Int))))).fdiv (2 ^ 2)) (3689348814741910323 : Int)) + (andI .u64 (IntKind.u64.wrap ((andI .u64 ((x).fdiv (2 ^ 1)) (6148914691236517205 : Int)) + (andI .u64 x (6148914691236517205 : Int)))) (3689348814741910323 : Int)))))) (1085102592571150095 : Int)) + (((andI .u64 (IntKind.u64.wrap ((((IntKind.u64.wrap ((andI .u64 (((IntKind.u64.wrap ((andI .u64 ((x).fdiv (2 ^ 1)) (6148914691236517205 : Int)) + (andI .u64 x (6148914691236517205 : Int))))).fdiv (2 ^ 2)) (3689348814741910323 : Int)) + (andI .u64 (IntKind.u64.wrap ((andI .u64 ((x).fdiv (2 ^ 1)) (6148914691236517205 : Int)) + (andI .u64 x (6148914691236517205 : Int)))) (3689348814741910323 : Int))))).fdiv (2 ^ 4)) + (IntKind.u64.wrap ((andI .u64 (((IntKind.u64.wrap ((andI .u64 ((x).fdiv (2 ^ 1)) (6148914691236517205 : Int)) + (andI .u64 x (6148914691236517205 : Int))))).fdiv (2 ^ 2)) (3689348814741910323 : Int)) + (andI .u64 (IntKind.u64.wrap ((andI .u64 ((x).fdiv (2 ^ 1)) (6148914691236517205 : Int)) + (andI .u64 x (6148914691236517205 : Int)))) (3689348814741910323 : Int)))))) (1085102592571150095 : Int))).fdiv (2 ^ 8)))) + (((IntKind.u64.wrap ((andI .u64 (IntKind.u64.wrap ((((IntKind.u64.wrap ((andI .u64 (((IntKind.u64.wrap ((andI .u64 ((x).fdiv (2 ^ 1)) (6148914691236517205 : Int)) + (andI .u64 x (6148914691236517205 : Int))))).fdiv (2 ^ 2)) (3689348814741910323 : Int)) + (andI .u64 (IntKind.u64.wrap ((andI .u64 ((x).fdiv (2 ^ 1)) (6148914691236517205 : Int)) + (andI .u64 x (6148914691236517205 : Int)))) (3689348814741910323 : Int))))).fdiv (2 ^ 4)) + (IntKind.u64.wrap ((andI .u64 (((IntKind.u64.wrap ((andI .u64 ((x).fdiv (2 ^ 1)) (6148914691236517205 : Int)) + (andI .u64 x (6148914691236517205 : Int))))).fdiv (2 ^ 2)) (3689348814741910323 : Int)) + (andI .u64 (IntKind.u64.wrap ((andI .u64 ((x).fdiv (2 ^ 1)) (6148914691236517205 : Int)) + (andI .u64 x (6148914691236517205 : Int)))) (3689348814741910323 : Int)))))) (1085102592571150095 : Int)) + (((andI .u64 (IntKind.u64.wrap ((((IntKind.u64.wrap ((andI .u64 (((IntKind.u64.wrap ((andI .u64 ((x).fdiv (2 ^ 1)) (6148914691236517205 : Int)) + (andI .u64 x (6148914691236517205 : Int))))).fdiv (2 ^ 2)) (3689348814741910323 : Int)) + (andI .u64 (IntKind.u64.wrap ((andI .u64 ((x).fdiv (2 ^ 1)) (6148914691236517205 : Int)) + (andI .u64 x (6148914691236517205 : Int)))) (3689348814741910323 : Int))))).fdiv (2 ^ 4)) + (IntKind.u64.wrap ((andI .u64 (((IntKind.u64.wrap ((andI .u64 ((x).fdiv (2 ^ 1)) (6148914691236517205 : Int)) + (andI .u64 x (6148914691236517205 : Int))))).fdiv (2 ^ 2)) (3689348814741910323 : Int)) + (andI .u64 (IntKind.u64.wrap ((andI .u64 ((x).fdiv (2 ^ 1)) (6148914691236517205 : Int)) + (andI .u64 x (6148914691236517205 : Int)))) (3689348814741910323 : Int)))))) (1085102592571150095 : Int))).fdiv (2 ^ 8))))).fdiv (2 ^ 16)))) + (((IntKind.u64.wrap ((IntKind.u64.wrap ((andI .u64 (IntKind.u64.wrap ((((IntKind.u64.wrap ((andI .u64 (((IntKind.u64.wrap ((andI .u64 ((x).fdiv (2 ^ 1)) (6148914691236517205 : Int)) + (andI .u64 x (6148914691236517205 : Int))))).fdiv (2 ^ 2)) (3689348814741910323 : Int)) + (andI .u64 (IntKind.u64.wrap ((andI .u64 ((x).fdiv (2 ^ 1)) (6148914691236517205 : Int)) + (andI .u64 x (6148914691236517205 : Int)))) (3689348814741910323 : Int))))).fdiv (2 ^ 4)) + (IntKind.u64.wrap ((andI .u64 (((IntKind.u64.wrap ((andI .u64 ((x).fdiv (2 ^ 1)) (6148914691236517205 : Int)) + (andI .u64 x (6148914691236517205 : Int))))).fdiv (2 ^ 2)) (3689348814741910323 : Int)) + (andI .u64 (IntKind.u64.wrap ((andI .u64 ((x).fdiv (2 ^ 1)) (6148914691236517205 : Int)) + (andI .u64 x (6148914691236517205 : Int)))) (3689348814741910323 : Int)))))) (1085102592571150095 : Int)) + (((andI .u64 (IntKind.u64.wrap ((((IntKind.u64.wrap ((andI .u64 (((IntKind.u64.wrap ((andI .u64 ((x).fdiv (2 ^ 1)) (6148914691236517205 : Int)) + (andI .u64 x (6148914691236517205 : Int))))).fdiv (2 ^ 2)) (3689348814741910323 : Int)) + (andI .u64 (IntKind.u64.wrap ((andI .u64 ((x).fdiv (2 ^ 1)) (6148914691236517205 : Int)) + (andI .u64 x (6148914691236517205 : Int)))) (3689348814741910323 : Int))))).fdiv (2 ^ 4)) + (IntKind.u64.wrap ((andI .u64 (((IntKind.u64.wrap ((andI .u64 ((x).fdiv (2 ^ 1)) (6148914691236517205 : Int)) + (andI .u64 x (6148914691236517205 : Int))))).fdiv (2 ^ 2)) (3689348814741910323 : Int)) + (andI .u64 (IntKind.u64.wrap ((andI .u64 ((x).fdiv (2 ^ 1)) (6148914691236517205 : Int)) + (andI .u64 x (6148914691236517205 : Int)))) (3689348814741910323 : Int)))))) (1085102592571150095 : Int))).fdiv (2 ^ 8)))) + (((IntKind.u64.wrap ((andI .u64 (IntKind.u64.wrap ((((IntKind.u64.wrap ((andI .u64 (((IntKind.u64.wrap ((andI .u64 ((x).fdiv (2 ^ 1)) (6148914691236517205 : Int)) + (andI .u64 x (6148914691236517205 : Int))))).fdiv (2 ^ 2)) (3689348814741910323 : Int)) + (andI .u64 (IntKind.u64.wrap ((andI .u64 ((x).fdiv (2 ^ 1)) (6148914691236517205 : Int)) + (andI .u64 x (6148914691236517205 : Int)))) (3689348814741910323 : Int))))).fdiv (2 ^ 4)) + (IntKind.u64.wrap ((andI .u64 (((IntKind.u64.wrap ((andI .u64 ((x).fdiv (2 ^ 1)) (6148914691236517205 : Int)) + (andI .u64 x (6148914691236517205 : Int))))).fdiv (2 ^ 2)) (3689348814741910323 : Int)) + (andI .u64 (IntKind.u64.wrap ((andI .u64 ((x).fdiv (2 ^ 1)) (6148914691236517205 : Int)) + (andI .u64 x (6148914691236517205 : Int)))) (3689348814741910323 : Int)))))) (1085102592571150095 : Int)) + (((andI .u64 (IntKind.u64.wrap ((((IntKind.u64.wrap ((andI .u64 (((IntKind.u64.wrap ((andI .u64 ((x).fdiv (2 ^ 1)) (6148914691236517205 : Int)) + (andI .u64 x (6148914691236517205 : Int))))).fdiv (2 ^ 2)) (3689348814741910323 : Int)) + (andI .u64 (IntKind.u64.wrap ((andI .u64 ((x).fdiv (2 ^ 1)) (6148914691236517205 : Int)) + (andI .u64 x (6148914691236517205 : Int)))) (3689348814741910323 : Int))))).fdiv (2 ^ 4)) + (IntKind.u64.wrap ((andI .u64 (((IntKind.u64.wrap ((andI .u64 ((x).fdiv (2 ^ 1)) (6148914691236517205 : Int)) + (andI .u64 x (6148914691236517205 : Int))))).fdiv (2 ^ 2)) (3689348814741910323 : Int)) + (andI .u64 (IntKind.u64.wrap ((andI .u64 ((x).fdiv (2 ^ 1)) (6148914691236517205 : Int)) + (andI .u64 x (6148914691236517205 : Int)))) (3689348814741910323 : Int)))))) (1085102592571150095 : Int))).fdiv (2 ^ 8))))).fdiv (2 ^ 16))))).fdiv (2 ^ 32))))) _ (op_add rfl rfl) rfl ?_
  refine WL.val (Value.int .u64 (IntKind.u64.wrap ((IntKind.u64.wrap ((IntKind.u64.wrap ((andI .u64 (IntKind.u64.wrap ((((IntKind.u64.wrap ((andI .u64 (((IntKind.u64.wrap ((andI .u64 ((x).fdiv (2 ^ 1)) (6148914691236517205 : Int)) + (andI .u64 x (6148914691236517205 : Int))))).fdiv (2 ^ 2)) (3689348814741910323 : Int)) + (andI .u64 (IntKind.u64.wrap ((andI .u64 ((x).fdiv (2 ^ 1)) (6148914691236517205 : Int)) + (andI .u64 x (6148914691236517205 : Int)))) (3689348814741910323 : Int))))).fdiv (2 ^ 4)) + (IntKind.u64.wrap ((andI .u64 (((IntKind.u64.wrap ((andI .u64 ((x).fdiv (2 ^ 1)) (6148914691236517205 : Int)) + (andI .u64 x (6148914691236517205 : Int))))).fdiv (2 ^ 2)) (3689348814741910323 : Int)) + (andI .u64 (IntKind.u64.wrap ((andI .u64 ((x).fdiv (2 ^ 1)) (6148914691236517205 : Int)) + (andI .u64 x (6148914691236517205 : Int)))) (3689348814741910323 : Int)))))) (1085102592571150095 : Int)) + (((andI .u64 (IntKind.u64.wrap ((((IntKind.u64.wrap ((andI .u64 (((IntKind.u64.wrap ((andI .u64 ((x).fdiv (2 ^ 1)) (6148914691236517205 : Int)) + (andI .u64 x (6148914691236517205 : Int))))).fdiv (2 ^ 2)) (3689348814741910323 : Int)) + (andI .u64 (IntKind.u64.wrap ((andI .u64 ((x).fdiv (2 ^ 1)) (6148914691236517205 : Int)) + (andI .u64 x (6148914691236517205 : Int)))) (3689348814741910323 : Int))))).fdiv (2 ^ 4)) + (IntKind.u64.wrap ((andI .u64 (((IntKind.u64.wrap ((andI .u64 ((x).fdiv (2 ^ 1)) (6148914691236517205 : Int)) + (andI .u64 x (6148914691236517205 : Int))))).fdiv (2 ^ 2)) (3689348814741910323 : Int)) + (andI .u64 (IntKind.u64.wrap ((andI .u64 ((x).fdiv (2 ^ 1)) (6148914691236517205 : Int)) + (andI .u64 x (6148914691236517205 : Int)))) (3689348814741910323 : Int)))))) (1085102592571150095 : Int))).fdiv (2 ^ 8)))) + (((IntKind.u64.wrap ((andI .u64 (IntKind.u64.wrap ((((IntKind.u64.wrap ((andI .u64 (((IntKind.u64.wrap ((andI .u64 ((x).fdiv (2 ^ 1)) (6148914691236517205 : Int)) + (andI .u64 x (6148914691236517205 : Int))))).fdiv (2 ^ 2)) (3689348814741910323 : Int)) + (andI .u64 (IntKind.u64.wrap ((andI .u64 ((x).fdiv (2 ^ 1)) (6148914691236517205 : Int)) + (andI .u64 x (6148914691236517205 : Int)))) (3689348814741910323 : Int))))).fdiv (2 ^ 4)) + (IntKind.u64.wrap ((andI .u64 (((IntKind.u64.wrap ((andI .u64 ((x).fdiv (2 ^ 1)) (6148914691236517205 : Int)) + (andI .u64 x (6148914691236517205 : Int))))).fdiv (2 ^ 2)) (3689348814741910323 : Int)) + (andI .u64 (IntKind.u64.wrap ((andI .u64 ((x).fdiv (2 ^ 1)) (6148914691236517205 : Int)) + (andI .u64 x (6148914691236517205 : Int)))) (3689348814741910323 : Int)))))) (1085102592571150095 : Int)) + (((andI .u64 (IntKind.u64.wrap ((((IntKind.u64.wrap ((andI .u64 (((IntKind.u64.wrap ((andI .u64 ((x).fdiv (2 ^ 1)) (6148914691236517205 : Int)) + (andI .u64 x (6148914691236517205 : Int))))).fdiv (2 ^ 2)) (3689348814741910323 : Int)) + (andI .u64 (IntKind.u64.wrap ((andI .u64 ((x).fdiv (2 ^ 1)) (6148914691236517205 : Int)) + (andI .u64 x (6148914691236517205 : Int)))) (3689348814741910323 : Int))))).fdiv (2 ^ 4)) + (IntKind.u64.wrap ((andI .u64 (((IntKind.u64.wrap ((andI .u64 ((x).fdiv (2 ^ 1)) (6148914691236517205 : Int)) + (andI .u64 x (6148914691236517205 : Int))))).fdiv (2 ^ 2)) (3689348814741910323 : Int)) + (andI .u64 (IntKind.u64.wrap ((andI .u64 ((x).fdiv (2 ^ 1)) (6148914691236517205 : Int)) + (andI .u64 x (6148914691236517205 : Int)))) (3689348814741910323 : Int)))))) (1085102592571150095 : Int))).fdiv (2 ^ 8))))).fdiv (2 ^ 16)))) + (((IntKind.u64.wrap ((IntKind.u64.wrap ((andI .u64 (IntKind.u64.wrap ((((IntKind.u64.wrap ((andI .u64 (((IntKind.u64.wrap ((andI .u64 ((x).fdiv (2 ^ 1)) (6148914691236517205 : Int)) + (andI .u64 x (6148914691236517205 : Int))))).fdiv (2 ^ 2)) (3689348814741910323 : Int)) + (andI .u64 (IntKind.u64.wrap ((andI .u64 ((x).fdiv (2 ^ 1)) (6148914691236517205 : Int)) + (andI .u64 x (6148914691236517205 : Int)))) (3689348814741910323 : Int))))).fdiv (2 ^ 4)) + (IntKind.u64.wrap ((andI .u64 (((IntKind.u64.wrap ((andI .u64 ((x).fdiv (2 ^ 1)) (6148914691236517205 : Int)) + (andI .u64 x (6148914691236517205 : Int))))).fdiv (2 ^ 2)) (3689348814741910323 : Int)) + (andI .u64 (IntKind.u64.wrap ((andI .u64 ((x).fdiv (2 ^ 1)) (6148914691236517205 : Int)) + (andI .u64 x (6148914691236517205 : Int)))) (3689348814741910323 : Int)))))) (1085102592571150095 : Int)) + (((andI .u64 (IntKind.u64.wrap ((((IntKind.u64.wrap ((andI .u64 (((IntKind.u64.wrap ((andI .u64 ((x).fdiv (2 ^ 1)) (6148914691236517205 : Int)) + (andI .u64 x (6148914691236517205 : Int))))).fdiv (2 ^ 2)) (3689348814741910323 : Int)) + (andI .u64 (IntKind.u64.wrap ((andI .u64 ((x).fdiv (2 ^ 1)) (6148914691236517205 : Int)) + (andI .u64 x (6148914691236517205 : Int)))) (3689348814741910323 : Int))))).fdiv (2 ^ 4)) + (IntKind.u64.wrap ((andI .u64 (((IntKind.u64.wrap ((andI .u64 ((x).fdiv (2 ^ 1)) (6148914691236517205 : Int)) + (andI .u64 x (6148914691236517205 : Int))))).fdiv (2 ^ 2)) (3689348814741910323 : Int)) + (andI .u64 (IntKind.u64.wrap ((andI .u64 ((x).fdiv (2 ^ 1)) (6148914691236517205 : Int)) + (andI .u64 x (6148914691236517205 : Int)))) (3689348814741910323 : Int)))))) (1085102592571150095 : Int))).fdiv (2 ^ 8)))) + (((IntKind.u64.wrap ((andI .u64 (IntKind.u64.wrap ((((IntKind.u64.wrap ((andI .u64 (((IntKind.u64.wrap ((andI .u64 ((x).fdiv (2 ^ 1)) (6148914691236517205 : Int)) + (andI .u64 x (6148914691236517205 : Int))))).fdiv (2 ^ 2)) (3689348814741910323 : Int)) + (andI .u64 (IntKind.u64.wrap ((andI .u64 ((x).fdiv (2 ^ 1)) (6148914691236517205 : Int)) + (andI .u64 x (6148914691236517205 : Int)))) (3689348814741910323 : Int))))).fdiv (2 ^ 4)) + (IntKind.u64.wrap ((andI .u64 (((IntKind.u64.wrap ((andI .u64 ((x).fdiv (2 ^ 1)) (6148914691236517205 : Int)) + (andI .u64 x (6148914691236517205 : Int))))).fdiv (2 ^ 2)) (3689348814741910323 : Int)) + (andI .u64 (IntKind.u64.wrap ((andI .u64 ((x).fdiv (2 ^ 1)) (6148914691236517205 : Int)) + (andI .u64 x (6148914691236517205 : Int)))) (3689348814741910323 : Int)))))) (1085102592571150095 : Int)) + (((andI .u64 (IntKind.u64.wrap ((((IntKind.u64.wrap ((andI .u64 (((IntKind.u64.wrap ((andI .u64 ((x).fdiv (2 ^ 1)) (6148914691236517205 : Int)) + (andI .u64 x (6148914691236517205 : Int))))).fdiv (2 ^ 2)) (3689348814741910323 : Int)) + (andI .u64 (IntKind.u64.wrap ((andI .u64 ((x).fdiv (2 ^ 1)) (6148914691236517205 : Int)) + (andI .u64 x (6148914691236517205 : Int)))) (3689348814741910323 : Int))))).fdiv (2 ^ 4)) + (IntKind.u64.wrap ((andI .u64 (((IntKind.u64.wrap ((andI .u64 ((x).fdiv (2 ^ 1)) (6148914691236517205 : Int)) + (andI .u64 x (6148914691236517205 : Int))))).fdiv (2 ^ 2)) (3689348814741910323 : Int)) + (andI .u64 (IntKind.u64.wrap ((andI .u64 ((x).fdiv (2 ^ 1)) (6148914691236517205 : Int)) + (andI .u64 x (6148914691236517205 : Int)))) (3689348814741910323 : Int)))))) (1085102592571150095 : Int))).fdiv (2 ^ 8))))).fdiv (2 ^ 16))))).fdiv (2 ^ 32))))) _ (op_assign rfl) rfl ?_
  refine WL.nil ?_
  refine W.seq (W.region ?_)
  refine WL.val (Value.int .u64 (IntKind.u64.wrap ((IntKind.u64.wrap ((IntKind.u64.wrap ((andI .u64 (IntKind.u64.wrap ((((IntKind.u64.wrap ((andI .u64 (((IntKind.u64.wrap ((andI .u64 ((x).fdiv (2 ^ 1)) (6148914691236517205 : Int)) + (andI .u64 x (6148914691236517205 : Int))))).fdiv (2 ^ 2)) (3689348814741910323 : Int)) + (andI .u64 (IntKind.u64.wrap ((andI .u64 ((x).fdiv (2 ^ 1)) (6148914691236517205 : Int)) + (andI .u64 x (6148914691236517205 : Int)))) (3689348814741910323 : Int))))).fdiv (2 ^ 4)) + (IntKind.u64.wrap ((andI .u64 (((IntKind.u64.wrap ((andI .u64 ((x).fdiv (2 ^ 1)) (6148914691236517205 : Int)) + (andI .u64 x (6148914691236517205 : Int))))).fdiv (2 ^ 2)) (3689348814741910323 : Int)) + (andI .u64 (IntKind.u64.wrap ((andI .u64 ((x).fdiv (2 ^ 1)) (6148914691236517205 : Int)) + (andI .u64 x (6148914691236517205 : Int)))) (3689348814741910323 : Int)))))) (1085102592571150095 : Int)) + (((andI .u64 (IntKind.u64.wrap ((((IntKind.u64.wrap ((andI .u64 (((IntKind.u64.wrap ((andI .u64 ((x).fdiv (2 ^ 1)) (6148914691236517205 : Int)) + (andI .u64 x (6148914691236517205 : Int))))).fdiv (2 ^ 2)) (3689348814741910323 : Int)) + (andI .u64 (IntKind.u64.wrap ((andI .u64 ((x).fdiv (2 ^ 1)) (6148914691236517205 : Int)) + (andI .u64 x (6148914691236517205 : Int)))) (3689348814741910323 : Int))))).fdiv (2 ^ 4)) + (IntKind.u64.wrap ((andI .u64 (((IntKind.u64.wrap ((andI .u64 ((x).fdiv (2 ^ 1)) (6148914691236517205 : Int)) + (andI .u64 x (6148914691236517205 : Int))))).fdiv (2 ^ 2)) (3689348814741910323 : Int)) + (andI .u64 (IntKind.u64.wrap ((andI .u64 ((x).fdiv (2 ^ 1)) (6148914691236517205 : Int)) + (andI .u64 x (6148914691236517205 : Int)))) (3689348814741910323 : Int)))))) (1085102592571150095 : Int))).fdiv (2 ^ 8)))) + (((IntKind.u64.wrap ((andI .u64 (IntKind.u64.wrap ((((IntKind.u64.wrap ((andI .u64 (((IntKind.u64.wrap ((andI .u64 ((x).fdiv (2 ^ 1)) (6148914691236517205 : Int)) + (andI .u64 x (6148914691236517205 : Int))))).fdiv (2 ^ 2)) (3689348814741910323 : Int)) + (andI .u64 (IntKind.u64.wrap ((andI .u64 ((x).fdiv (2 ^ 1)) (6148914691236517205 : Int)) + (andI .u64 x (6148914691236517205 : Int)))) (3689348814741910323 : Int))))).fdiv (2 ^ 4)) + (IntKind.u64.wrap ((andI .u64 (((IntKind.u64.wrap ((andI .u64 ((x).fdiv (2 ^ 1)) (6148914691236517205 : Int)) + (andI .u64 x (6148914691236517205 : Int))))).fdiv (2 ^ 2)) (3689348814741910323 : Int)) + (andI .u64 (IntKind.u64.wrap ((andI .u64 ((x).fdiv (2 ^ 1)) (6148914691236517205 : Int)) + (andI .u64 x (6148914691236517205 : Int)))) (3689348814741910323 : Int)))))) (1085102592571150095 : Int)) + (((andI .u64 (IntKind.u64.wrap ((((IntKind.u64.wrap ((andI .u64 (((IntKind.u64.wrap ((andI .u64 ((x).fdiv (2 ^ 1)) (6148914691236517205 : Int)) + (andI .u64 x (6148914691236517205 : Int))))).fdiv (2 ^ 2)) (3689348814741910323 : Int)) + (andI .u64 (IntKind.u64.wrap ((andI .u64 ((x).fdiv (2 ^ 1)) (6148914691236517205 : Int)) + (andI .u64 x (6148914691236517205 : Int)))) (3689348814741910323 : Int))))).fdiv (2 ^ 4)) + (IntKind.u64.wrap ((andI .u64 (((IntKind.u64.wrap ((andI .u64 ((x).fdiv (2 ^ 1)) (6148914691236517205 : Int)) + (andI .u64 x (6148914691236517205 : Int))))).fdiv (2 ^ 2)) (3689348814741910323 : Int)) + (andI .u64 (IntKind.u64.wrap ((andI .u64 ((x).fdiv (2 ^ 1)) (6148914691236517205 : Int)) + (andI .u64 x (6148914691236517205 : Int)))) (3689348814741910323 : Int)))))) (1085102592571150095 : Int))).fdiv (2 ^ 8))))).fdiv (2 ^ 16)))) + (((IntKind.u64.wrap ((IntKind.u64.wrap ((andI .u64 (IntKind.u64.wrap ((((IntKind.u64.wrap ((andI .u64 (((IntKind.u64.wrap ((andI .u64 ((x).fdiv (2 ^ 1)) (6148914691236517205 : Int)) + (andI .u64 x (6148914691236517205 : Int))))).fdiv (2 ^ 2)) (3689348814741910323 : Int)) + (andI .u64 (IntKind.u64.wrap ((andI .u64 ((x).fdiv (2 ^ 1)) (6148914691236517205 : Int)) + (andI .u64 x (6148914691236517205 : Int)))) (3689348814741910323 : Int))))).fdiv (2 ^ 4)) + (IntKind.u64.wrap ((andI .u64 (((IntKind.u64.wrap ((andI .u64 ((x).fdiv (2 ^ 1)) (6148914691236517205 : Int)) + (andI .u64 x (6148914691236517205 : Int))))).fdiv (2 ^ 2)) (3689348814741910323 : Int)) + (andI .u64 (IntKind.u64.wrap ((andI .u64 ((x).fdiv (2 ^ 1)) (6148914691236517205 : Int)) + (andI .u64 x (6148914691236517205 : Int)))) (3689348814741910323 : Int)))))) (1085102592571150095 : Int)) + (((andI .u64 (IntKind.u64.wrap ((((IntKind.u64.wrap ((andI .u64 (((IntKind.u64.wrap ((andI .u64 ((x).fdiv (2 ^ 1)) (6148914691236517205 : Int)) + (andI .u64 x (6148914691236517205 : Int))))).fdiv (2 ^ 2)) (3689348814741910323 : Int)) + (andI .u64 (IntKind.u64.wrap ((andI .u64 ((x).fdiv (2 ^ 1)) (6148914691236517205 : Int)) + (andI .u64 x (6148914691236517205 : Int)))) (3689348814741910323 : Int))))).fdiv (2 ^ 4)) + (IntKind.u64.wrap ((andI .u64 (((IntKind.u64.wrap ((andI .u64 ((x).fdiv (2 ^ 1)) (6148914691236517205 : Int)) + (andI .u64 x (6148914691236517205 : Int))))).fdiv (2 ^ 2)) (3689348814741910323 : Int)) + (andI .u64 (IntKind.u64.wrap ((andI .u64 ((x).fdiv (2 ^ 1)) (6148914691236517205 : Int)) + (andI .u64 x (6148914691236517205 : Int)))) (3689348814741910323 : Int)))))) (1085102592571150095 : Int))).fdiv (2 ^ 8)))) + (((IntKind.u64.wrap ((andI .u64 (IntKind.u64.wrap ((((IntKind.u64.wrap ((andI .u64 (((IntKind.u64.wrap ((andI .u64 ((x).fdiv (2 ^ 1)) (6148914691236517205 : Int)) + (andI .u64 x (6148914691236517205 : Int))))).fdiv (2 ^ 2)) (3689348814741910323 : Int)) + (andI .u64 (IntKind.u64.wrap ((andI .u64 ((x).fdiv (2 ^ 1)) (6148914691236517205 : Int)) + (andI .u64 x (6148914691236517205 : Int)))) (3689348814741910323 : Int))))).fdiv (2 ^ 4)) + (IntKind.u64.wrap ((andI .u64 (((IntKind.u64.wrap ((andI .u64 ((x).fdiv (2 ^ 1)) (6148914691236517205 : Int)) + (andI .u64 x (6148914691236517205 : Int))))).fdiv (2 ^ 2)) (3689348814741910323 : Int)) + (andI .u64 (IntKind.u64.wrap ((andI .u64 ((x).fdiv (2 ^ 1)) (6148914691236517205 : Int)) + (andI .u64 x (6148914691236517205 : Int)))) (3689348814741910323 : Int)))))) (1085102592571150095 : Int)) + (((andI .u64 (IntKind.u64.wrap ((((IntKind.u64.wrap ((andI .u64 (((IntKind.u64.wrap ((andI .u64 ((x).fdiv (2 ^ 1)) (6148914691236517205 : Int)) + (andI .u64 x (6148914691236517205 : Int))))).fdiv (2 ^ 2)) (3689348814741910323 : Int)) + (andI .u64 (IntKind.u64.wrap ((andI .u64 ((x).fdiv (2 ^ 1)) (6148914691236517205 : Int)) + (andI .u64 x (6148914691236517205 : Int)))) (3689348814741910323 : Int))))).fdiv (2 ^ 4)) + (IntKind.u64.wrap ((andI .u64 (((IntKind.u64.wrap ((andI .u64 ((x).fdiv (2 ^ 1)) (6148914691236517205 : Int)) + (andI .u64 x (6148914691236517205 : Int))))).fdiv (2 ^ 2)) (3689348814741910323 : Int)) + (andI .u64 (IntKind.u64.wrap ((andI .u64 ((x).fdiv (2 ^ 1)) (6148914691236517205 : Int)) + (andI .u64 x (6148914691236517205 : Int)))) (3689348814741910323 : Int)))))) (1085102592571150095 : Int))).fdiv (2 ^ 8))))).fdiv (2 ^ 16))))).fdiv (2 ^ 32))))) _ (op_move rfl) rfl ?_
  refine WL.val (Value.int .i64 (w64 (IntKind.u64.wrap ((IntKind.u64.wrap ((IntKind.u64.wrap ((andI .u64 (IntKind.u64.wrap ((((IntKind.u64.wrap ((andI .u64 (((IntKind.u64.wrap ((andI .u64 ((x).fdiv (2 ^ 1)) (6148914691236517205 : Int)) + (andI .u64 x (6148914691236517205 : Int))))).fdiv (2 ^ 2)) (3689348814741910323 : Int)) + (andI .u64 (IntKind.u64.wrap ((andI .u64 ((x).fdiv (2 ^ 1)) (6148914691236517205 : Int)) + (andI .u64 x (6148914691236517205 : Int)))) (3689348814741910323 : Int))))).fdiv (2 ^ 4)) + (IntKind.u64.wrap ((andI .u64 (((IntKind.u64.wrap ((andI .u64 ((x).fdiv (2 ^ 1)) (6148914691236517205 : Int)) + (andI .u64 x (6148914691236517205 : Int))))).fdiv (2 ^ 2)) (3689348814741910323 : Int)) + (andI .u64 (IntKind.u64.wrap ((andI .u64 ((x).fdiv (2 ^ 1)) (6148914691236517205 : Int)) + (andI .u64 x (6148914691236517205 : Int)))) (3689348814741910323 : Int)))))) (1085102592571150095 : Int)) + (((andI .u64 (IntKind.u64.wrap ((((IntKind.u64.wrap ((andI .u64 (((IntKind.u64.wrap ((andI .u64 ((x).fdiv (2 ^ 1)) (6148914691236517205 : Int)) + (andI .u64 x (6148914691236517205 : Int))))).fdiv (2 ^ 2)) (3689348814741910323 : Int)) + (andI .u64 (IntKind.u64.wrap ((andI .u64 ((x).fdiv (2 ^ 1)) (6148914691236517205 : Int)) + (andI .u64 x (6148914691236517205 : Int)))) (3689348814741910323 : Int))))).fdiv (2 ^ 4)) + (IntKind.u64.wrap ((andI .u64 (((IntKind.u64.wrap ((andI .u64 ((x).fdiv (2 ^ 1)) (6148914691236517205 : Int)) + (andI .u64 x (6148914691236517205 : Int))))).fdiv (2 ^ 2)) (3689348814741910323 : Int)) + (andI .u64 (IntKind.u64.wrap ((andI .u64 ((x).fdiv (2 ^ 1)) (6148914691236517205 : Int)) + (andI .u64 x (6148914691236517205 : Int)))) (3689348814741910323 : Int)))))) (1085102592571150095 : Int))).fdiv (2 ^ 8)))) + (((IntKind.u64.wrap ((andI .u64 (IntKind.u64.wrap ((((IntKind.u64.wrap ((andI .u64 (((IntKind.u64.wrap ((andI .u64 ((x).fdiv (2 ^ 1)) (6148914691236517205 : Int)) + (andI .u64 x (6148914691236517205 : Int))))).fdiv (2 ^ 2)) (3689348814741910323 : Int)) + (andI .u64 (IntKind.u64.wrap ((andI .u64 ((x).fdiv (2 ^ 1)) (6148914691236517205 : Int)) + (andI .u64 x (6148914691236517205 : Int)))) (3689348814741910323 : Int))))).fdiv (2 ^ 4)) + (IntKind.u64.wrap ((andI .u64 (((IntKind.u64.wrap ((andI .u64 ((x).fdiv (2 ^ 1)) (6148914691236517205 : Int)) + (andI .u64 x (6148914691236517205 : Int))))).fdiv (2 ^ 2)) (3689348814741910323 : Int)) + (andI .u64 (IntKind.u64.wrap ((andI .u64 ((x).fdiv (2 ^ 1)) (6148914691236517205 : Int)) + (andI .u64 x (6148914691236517205 : Int)))) (3689348814741910323 : Int)))))) (1085102592571150095 : Int)) + (((andI .u64 (IntKind.u64.wrap ((((IntKind.u64.wrap ((andI .u64 (((IntKind.u64.wrap ((andI .u64 ((x).fdiv (2 ^ 1)) (6148914691236517205 : Int)) + (andI .u64 x (6148914691236517205 : Int))))).fdiv (2 ^ 2)) (3689348814741910323 : Int)) + (andI .u64 (IntKind.u64.wrap ((andI .u64 ((x).fdiv (2 ^ 1)) (6148914691236517205 : Int)) + (andI .u64 x (6148914691236517205 : Int)))) (3689348814741910323 : Int))))).fdiv (2 ^ 4)) + (IntKind.u64.wrap ((andI .u64 (((IntKind.u64.wrap ((andI .u64 ((x).fdiv (2 ^ 1)) (6148914691236517205 : Int)) + (andI .u64 x (6148914691236517205 : Int))))).fdiv (2 ^ 2)) (3689348814741910323 : Int)) + (andI .u64 (IntKind.u64.wrap ((andI .u64 ((x).fdiv (2 ^ 1)) (6148914691236517205 : Int)) + (andI .u64 x (6148914691236517205 : Int)))) (3689348814741910323 : Int)))))) (1085102592571150095 : Int))).fdiv (2 ^ 8))))).fdiv (2 ^ 16)))) + (((IntKind.u64.wrap ((IntKind.u64.wrap ((andI .u64 (IntKind.u64.wrap ((((IntKind.u64.wrap ((andI .u64 (((IntKind.u64.wrap ((andI .u64 ((x).fdiv (2 ^ 1)) (6148914691236517205 : Int)) + (andI .u64 x (6148914691236517205 : Int))))).fdiv (2 ^ 2)) (3689348814741910323 : Int)) + (andI .u64 (IntKind.u64.wrap ((andI .u64 ((x).fdiv (2 ^ 1)) (6148914691236517205 : Int)) + (andI .u64 x (6148914691236517205 : Int)))) (3689348814741910323 : Int))))).fdiv (2 ^ 4)) + (IntKind.u64.wrap ((andI .u64 (((IntKind.u64.wrap ((andI .u64 ((x).fdiv (2 ^ 1)) (6148914691236517205 : Int)) + (andI .u64 x (6148914691236517205 : Int))))).fdiv (2 ^ 2)) (3689348814741910323 : Int)) + (andI .u64 (IntKind.u64.wrap ((andI .u64 ((x).fdiv (2 ^ 1)) (6148914691236517205 : Int)) + (andI .u64 x (6148914691236517205 : Int)))) (3689348814741910323 : Int)))))) (1085102592571150095 : Int)) + (((andI .u64 (IntKind.u64.wrap ((((IntKind.u64.wrap ((andI .u64 (((IntKind.u64.wrap ((andI .u64 ((x).fdiv (2 ^ 1)) (6148914691236517205 : Int)) + (andI .u64 x (6148914691236517205 : Int))))).fdiv (2 ^ 2)) (3689348814741910323 : Int)) + (andI .u64 (IntKind.u64.wrap ((andI .u64 ((x).fdiv (2 ^ 1)) (6148914691236517205 : Int)) + (andI .u64 x (6148914691236517205 : Int)))) (3689348814741910323 : Int))))).fdiv (2 ^ 4)) + (IntKind.u64.wrap ((andI .u64 (((IntKind.u64.wrap ((andI .u64 ((x).fdiv (2 ^ 1)) (6148914691236517205 : Int)) + (andI .u64 x (6148914691236517205 : Int))))).fdiv (2 ^ 2)) (3689348814741910323 : Int)) + (andI .u64 (IntKind.u64.wrap ((andI .u64 ((x).fdiv (2 ^ 1)) (6148914691236517205 : Int)) + (andI .u64 x (6148914691236517205 : Int)))) (3689348814741910323 : Int)))))) (1085102592571150095 : Int))).fdiv (2 ^ 8)))) + (((IntKind.u64.wrap ((andI .u64 (IntKind.u64.wrap ((((IntKind.u64.wrap ((andI .u64 (((IntKind.u64.wrap ((andI .u64 ((x).fdiv (2 ^ 1)) (6148914691236517205 : Int)) + (andI .u64 x (6148914691236517205 : Int))))).fdiv (2 ^ 2)) (3689348814741910323 : Int)) + (andI .u64 (IntKind.u64.wrap ((andI .u64 ((x).fdiv (2 ^ 1)) (6148914691236517205 : Int)) + (andI .u64 x (6148914691236517205 : Int)))) (3689348814741910323 : Int))))).fdiv (2 ^ 4)) + (IntKind.u64.wrap ((andI .u64 (((IntKind.u64.wrap ((andI .u64 ((x).fdiv (2 ^ 1)) (6148914691236517205 : Int)) + (andI .u64 x (6148914691236517205 : Int))))).fdiv (2 ^ 2)) (3689348814741910323 : Int)) + (andI .u64 (IntKind.u64.wrap ((andI .u64 ((x).fdiv (2 ^ 1)) (6148914691236517205 : Int)) + (andI .u64 x (6148914691236517205 : Int)))) (3689348814741910323 : Int)))))) (1085102592571150095 : Int)) + (((andI .u64 (IntKind.u64.wrap ((((IntKind.u64.wrap ((andI .u64 (((IntKind.u64.wrap ((andI .u64 ((x).fdiv (2 ^ 1)) (6148914691236517205 : Int)) + (andI .u64 x (6148914691236517205 : Int))))).fdiv (2 ^ 2)) (3689348814741910323 : Int)) + (andI .u64 (IntKind.u64.wrap ((andI .u64 ((x).fdiv (2 ^ 1)) (6148914691236517205 : Int)) + (andI .u64 x (6148914691236517205 : Int)))) (3689348814741910323 : Int))))).fdiv (2 ^ 4)) + (IntKind.u64.wrap ((andI .u64 (((IntKind.u64.wrap ((andI .u64 ((x).fdiv (2 ^ 1)) (6148914691236517205 : Int)) + (andI .u64 x (6148914691236517205 : Int))))).fdiv (2 ^ 2)) (3689348814741910323 : Int)) + (andI .u64 (IntKind.u64.wrap ((andI .u64 ((x).fdiv (2 ^ 1)) (6148914691236517205 : Int)) + (andI .u64 x (6148914691236517205 : Int)))) (3689348814741910323 : Int)))))) (1085102592571150095 : Int))).fdiv (2 ^ 8))))).fdiv (2 ^ 16))))).fdiv (2 ^ 32)))))) _ (op_convert rfl it_69 it_3) rfl ?_
  refine WL.val (Value.int .i64 (andI .i64 (w64 (IntKind.u64.wrap ((IntKind.u64.wrap ((IntKind.u64.wrap ((andI .u64 (IntKind.u64.wrap ((((IntKind.u64.wrap ((andI .u64 (((IntKind.u64.wrap ((andI .u64 ((x).fdiv (2 ^ 1)) (6148914691236517205 : Int)) + (andI .u64 x (6148914691236517205 : Int))))).fdiv (2 ^ 2)) (3689348814741910323 : Int)) + (andI .u64 (IntKind.u64.wrap ((andI .u64 ((x).fdiv (2 ^ 1)) (6148914691236517205 : Int)) + (andI .u64 x (6148914691236517205 : Int)))) (3689348814741910323 : Int))))).fdiv (2 ^ 4)) + (IntKind.u64.wrap ((andI .u64 (((IntKind.u64.wrap ((andI .u64 ((x).fdiv (2 ^ 1)) (6148914691236517205 : Int)) + (andI .u64 x (6148914691236517205 : Int))))).fdiv (2 ^ 2)) (3689348814741910323 : Int)) + (andI .u64 (IntKind.u64.wrap ((andI .u64 ((x).fdiv (2 ^ 1)) (6148914691236517205 : Int)) + (andI .u64 x (6148914691236517205 : Int)))) (3689348814741910323 : Int)))))) (1085102592571150095 : Int)) + (((andI .u64 (IntKind.u64.wrap ((((IntKind.u64.wrap ((andI .u64 (((IntKind.u64.wrap ((andI .u64 ((x).fdiv (2 ^ 1)) (6148914691236517205 : Int)) + (andI .u64 x (6148914691236517205 : Int))))).fdiv (2 ^ 2)) (3689348814741910323 : Int)) + (andI .u64 (IntKind.u64.wrap ((andI .u64 ((x).fdiv (2 ^ 1)) (6148914691236517205 : Int)) + (andI .u64 x (6148914691236517205 : Int)))) (3689348814741910323 : Int))))).fdiv (2 ^ 4)) + (IntKind.u64.wrap ((andI .u64 (((IntKind.u64.wrap ((andI .u64 ((x).fdiv (2 ^ 1)) (6148914691236517205 : Int)) + (andI .u64 x (6148914691236517205 : Int))))).fdiv (2 ^ 2)) (3689348814741910323 : Int)) + (andI .u64 (IntKind.u64.wrap ((andI .u64 ((x).fdiv (2 ^ 1)) (6148914691236517205 : Int)) + (andI .u64 x (6148914691236517205 : Int)))) (3689348814741910323 : Int)))))) (1085102592571150095 : Int))).fdiv (2 ^ 8)))) + (((IntKind.u64.wrap ((andI .u64 (IntKind.u64.wrap ((((IntKind.u64.wrap ((andI .u64 (((IntKind.u64.wrap ((andI .u64 ((x).fdiv (2 ^ 1)) (6148914691236517205 : Int)) + (andI .u64 x (6148914691236517205 : Int))))).fdiv (2 ^ 2)) (3689348814741910323 : Int)) + (andI .u64 (IntKind.u64.wrap ((andI .u64 ((x).fdiv (2 ^ 1)) (6148914691236517205 : Int)) + (andI .u64 x (6148914691236517205 : Int)))) (3689348814741910323 : Int))))).fdiv (2 ^ 4)) + (IntKind.u64.wrap ((andI .u64 (((IntKind.u64.wrap ((andI .u64 ((x).fdiv (2 ^ 1)) (6148914691236517205 : Int)) + (andI .u64 x (6148914691236517205 : Int))))).fdiv (2 ^ 2)) (3689348814741910323 : Int)) + (andI .u64 (IntKind.u64.wrap ((andI .u64 ((x).fdiv (2 ^ 1)) (6148914691236517205 : Int)) + (andI .u64 x (6148914691236517205 : Int)))) (3689348814741910323 : Int)))))) (1085102592571150095 : Int)) + (((andI .u64 (IntKind.u64.wrap ((((IntKind.u64.wrap ((andI .u64 (((IntKind.u64.wrap ((andI .u64 ((x).fdiv (2 ^ 1)) (6148914691236517205 : Int)) + (andI .u64 x (6148914691236517205 : Int))))).fdiv (2 ^ 2)) (3689348814741910323 : Int)) + (andI .u64 (IntKind.u64.wrap ((andI .u64 ((x).fdiv (2 ^ 1)) (6148914691236517205 : Int)) + (andI .u64 x (6148914691236517205 : Int)))) (3689348814741910323 : Int))))).fdiv (2 ^ 4)) + (IntKind.u64.wrap ((andI .u64 (((IntKind.u64.wrap ((andI .u64 ((x).fdiv (2 ^ 1)) (6148914691236517205 : Int)) + (andI .u64 x (6148914691236517205 : Int))))).fdiv (2 ^ 2)) (3689348814741910323 : Int)) + (andI .u64 (IntKind.u64.wrap ((andI .u64 ((x).fdiv (2 ^ 1)) (6148914691236517205 : Int)) + (andI .u64 x (6148914691236517205 : Int)))) (3689348814741910323 : Int)))))) (1085102592571150095 : Int))).fdiv (2 ^ 8))))).fdiv (2 ^ 16)))) + (((IntKind.u64.wrap ((IntKind.u64.wrap ((andI .u64 (IntKind.u64.wrap ((((IntKind.u64.wrap ((andI .u64 (((IntKind.u64.wrap ((andI .u64 ((x).fdiv (2 ^ 1)) (6148914691236517205 : Int)) + (andI .u64 x (6148914691236517205 : Int))))).fdiv (2 ^ 2)) (3689348814741910323 : Int)) + (andI .u64 (IntKind.u64.wrap ((andI .u64 ((x).fdiv (2 ^ 1)) (6148914691236517205 : Int)) + (andI .u64 x (6148914691236517205 : Int)))) (3689348814741910323 : Int))))).fdiv (2 ^ 4)) + (IntKind.u64.wrap ((andI .u64 (((IntKind.u64.wrap ((andI .u64 ((x).fdiv (2 ^ 1)) (6148914691236517205 : Int)) + (andI .u64 x (6148914691236517205 : Int))))).fdiv (2 ^ 2)) (3689348814741910323 : Int)) + (andI .u64 (IntKind.u64.wrap ((andI .u64 ((x).fdiv (2 ^ 1)) (6148914691236517205 : Int)) + (andI .u64 x (6148914691236517205 : Int)))) (3689348814741910323 : Int)))))) (1085102592571150095 : Int)) + (((andI .u64 (IntKind.u64.wrap ((((IntKind.u64.wrap ((andI .u64 (((IntKind.u64.wrap ((andI .u64 ((x).fdiv (2 ^ 1)) (6148914691236517205 : Int)) + (andI .u64 x (6148914691236517205 : Int))))).fdiv (2 ^ 2)) (3689348814741910323 : Int)) + (andI .u64 (IntKind.u64.wrap ((andI .u64 ((x).fdiv (2 ^ 1)) (6148914691236517205 : Int)) + (andI .u64 x (6148914691236517205 : Int)))) (3689348814741910323 : Int))))).fdiv (2 ^ 4)) + (IntKind.u64.wrap ((andI .u64 (((IntKind.u64.wrap ((andI .u64 ((x).fdiv (2 ^ 1)) (6148914691236517205 : Int)) + (andI .u64 x (6148914691236517205 : Int))))).fdiv (2 ^ 2)) (3689348814741910323 : Int)) + (andI .u64 (IntKind.u64.wrap ((andI .u64 ((x).fdiv (2 ^ 1)) (6148914691236517205 : Int)) + (andI .u64 x (6148914691236517205 : Int)))) (3689348814741910323 : Int)))))) (1085102592571150095 : Int))).fdiv (2 ^ 8)))) + (((IntKind.u64.wrap ((andI .u64 (IntKind.u64.wrap ((((IntKind.u64.wrap ((andI .u64 (((IntKind.u64.wrap ((andI .u64 ((x).fdiv (2 ^ 1)) (6148914691236517205 : Int)) + (andI .u64 x (6148914691236517205 : Int))))).fdiv (2 ^ 2)) (3689348814741910323 : Int)) + (andI .u64 (IntKind.u64.wrap ((andI .u64 ((x).fdiv (2 ^ 1)) (6148914691236517205 : Int)) + (andI .u64 x (6148914691236517205 : Int)))) (3689348814741910323 : Int))))).fdiv (2 ^ 4)) + (IntKind.u64.wrap ((andI .u64 (((IntKind.u64.wrap ((andI .u64 ((x).fdiv (2 ^ 1)) (6148914691236517205 : Int)) + (andI .u64 x (6148914691236517205 : Int))))).fdiv (2 ^ 2)) (3689348814741910323 : Int)) + (andI .u64 (IntKind.u64.wrap ((andI .u64 ((x).fdiv (2 ^ 1)) (6148914691236517205 : Int)) + (andI .u64 x (6148914691236517205 : Int)))) (3689348814741910323 : Int)))))) (1085102592571150095 : Int)) + (((andI .u64 (IntKind.u64.wrap ((((IntKind.u64.wrap ((andI .u64 (((IntKind.u64.wrap ((andI .u64 ((x).fdiv (2 ^ 1)) (6148914691236517205 : Int)) + (andI .u64 x (6148914691236517205 : Int))))).fdiv (2 ^ 2)) (3689348814741910323 : Int)) + (andI .u64 (IntKind.u64.wrap ((andI .u64 ((x).fdiv (2 ^ 1)) (6148914691236517205 : Int)) + (andI .u64 x (6148914691236517205 : Int)))) (3689348814741910323 : Int))))).fdiv (2 ^ 4)) + (IntKind.u64.wrap ((andI .u64 (((IntKind.u64.wrap ((andI .u64 ((x).fdiv (2 ^ 1)) (6148914691236517205 : Int)) + (andI .u64 x (6148914691236517205 : Int))))).fdiv (2 ^ 2)) (3689348814741910323 : Int)) + (andI .u64 (IntKind.u64.wrap ((andI .u64 ((x).fdiv (2 ^ 1)) (6148914691236517205 : Int)) + (andI .u64 x (6148914691236517205 : Int)))) (3689348814741910323 : Int)))))) (1085102592571150095 : Int))).fdiv (2 ^ 8))))).fdiv (2 ^ 16))))).fdiv (2 ^ 32))))) (127 : Int))) _ (op_and rfl rfl) rfl ?_
  refine WL.val (Value.int .i64 (andI .i64 (w64 (IntKind.u64.wrap ((IntKind.u64.wrap ((IntKind.u64.wrap ((andI .u64 (IntKind.u64.wrap ((((IntKind.u64.wrap ((andI .u64 (((IntKind.u64.wrap ((andI .u64 ((x).fdiv (2 ^ 1)) (6148914691236517205 : Int)) + (andI .u64 x (6148914691236517205 : Int))))).fdiv (2 ^ 2)) (3689348814741910323 : Int)) + (andI .u64 (IntKind.u64.wrap ((andI .u64 ((x).fdiv (2 ^ 1)) (6148914691236517205 : Int)) + (andI .u64 x (6148914691236517205 : Int)))) (3689348814741910323 : Int))))).fdiv (2 ^ 4)) + (IntKind.u64.wrap ((andI .u64 (((IntKind.u64.wrap ((andI .u64 ((x).fdiv (2 ^ 1)) (6148914691236517205 : Int)) + (andI .u64 x (6148914691236517205 : Int))))).fdiv (2 ^ 2)) (3689348814741910323 : Int)) + (andI .u64 (IntKind.u64.wrap ((andI .u64 ((x).fdiv (2 ^ 1)) (6148914691236517205 : Int)) + (andI .u64 x (6148914691236517205 : Int)))) (3689348814741910323 : Int)))))) (1085102592571150095 : Int)) + (((andI .u64 (IntKind.u64.wrap ((((IntKind.u64.wrap ((andI .u64 (((IntKind.u64.wrap ((andI .u64 ((x).fdiv (2 ^ 1)) (6148914691236517205 : Int)) + (andI .u64 x (6148914691236517205 : Int))))).fdiv (2 ^ 2)) (3689348814741910323 : Int)) + (andI .u64 (IntKind.u64.wrap ((andI .u64 ((x).fdiv (2 ^ 1)) (6148914691236517205 : Int)) + (andI .u64 x (6148914691236517205 : Int)))) (3689348814741910323 : Int))))).fdiv (2 ^ 4)) + (IntKind.u64.wrap ((andI .u64 (((IntKind.u64.wrap ((andI .u64 ((x).fdiv (2 ^ 1)) (6148914691236517205 : Int)) + (andI .u64 x (6148914691236517205 : Int))))).fdiv (2 ^ 2)) (3689348814741910323 : Int)) + (andI .u64 (IntKind.u64.wrap ((andI .u64 ((x).fdiv (2 ^ 1)) (6148914691236517205 : Int)) + (andI .u64 x (6148914691236517205 : Int)))) (3689348814741910323 : Int)))))) (1085102592571150095 : Int))).fdiv (2 ^ 8)))) + (((IntKind.u64.wrap ((andI .u64 (IntKind.u64.wrap ((((IntKind.u64.wrap ((andI .u64 (((IntKind.u64.wrap ((andI .u64 ((x).fdiv (2 ^ 1)) (6148914691236517205 : Int)) + (andI .u64 x (6148914691236517205 : Int))))).fdiv (2 ^ 2)) (3689348814741910323 : Int)) + (andI .u64 (IntKind.u64.wrap ((andI .u64 ((x).fdiv (2 ^ 1)) (6148914691236517205 : Int)) + (andI .u64 x (6148914691236517205 : Int)))) (3689348814741910323 : Int))))).fdiv (2 ^ 4)) + (IntKind.u64.wrap ((andI .u64 (((IntKind.u64.wrap ((andI .u64 ((x).fdiv (2 ^ 1)) (6148914691236517205 : Int)) + (andI .u64 x (6148914691236517205 : Int))))).fdiv (2 ^ 2)) (3689348814741910323 : Int)) + (andI .u64 (IntKind.u64.wrap ((andI .u64 ((x).fdiv (2 ^ 1)) (6148914691236517205 : Int)) + (andI .u64 x (6148914691236517205 : Int)))) (3689348814741910323 : Int)))))) (1085102592571150095 : Int)) + (((andI .u64 (IntKind.u64.wrap ((((IntKind.u64.wrap ((andI .u64 (((IntKind.u64.wrap ((andI .u64 ((x).fdiv (2 ^ 1)) (6148914691236517205 : Int)) + (andI .u64 x (6148914691236517205 : Int))))).fdiv (2 ^ 2)) (3689348814741910323 : Int)) + (andI .u64 (IntKind.u64.wrap ((andI .u64 ((x).fdiv (2 ^ 1)) (6148914691236517205 : Int)) + (andI .u64 x (6148914691236517205 : Int)))) (3689348814741910323 : Int))))).fdiv (2 ^ 4)) + (IntKind.u64.wrap ((andI .u64 (((IntKind.u64.wrap ((andI .u64 ((x).fdiv (2 ^ 1)) (6148914691236517205 : Int)) + (andI .u64 x (6148914691236517205 : Int))))).fdiv (2 ^ 2)) (3689348814741910323 : Int)) + (andI .u64 (IntKind.u64.wrap ((andI .u64 ((x).fdiv (2 ^ 1)) (6148914691236517205 : Int)) + (andI .u64 x (6148914691236517205 : Int)))) (3689348814741910323 : Int)))))) (1085102592571150095 : Int))).fdiv (2 ^ 8))))).fdiv (2 ^ 16)))) + (((IntKind.u64.wrap ((IntKind.u64.wrap ((andI .u64 (IntKind.u64.wrap ((((IntKind.u64.wrap ((andI .u64 (((IntKind.u64.wrap ((andI .u64 ((x).fdiv (2 ^ 1)) (6148914691236517205 : Int)) + (andI .u64 x (6148914691236517205 : Int))))).fdiv (2 ^ 2)) (3689348814741910323 : Int)) + (andI .u64 (IntKind.u64.wrap ((andI .u64 ((x).fdiv (2 ^ 1)) (6148914691236517205 : Int)) + (andI .u64 x (6148914691236517205 : Int)))) (3689348814741910323 : Int))))).fdiv (2 ^ 4)) + (IntKind.u64.wrap ((andI .u64 (((IntKind.u64.wrap ((andI .u64 ((x).fdiv (2 ^ 1)) (6148914691236517205 : Int)) + (andI .u64 x (6148914691236517205 : Int))))).fdiv (2 ^ 2)) (3689348814741910323 : Int)) + (andI .u64 (IntKind.u64.wrap ((andI .u64 ((x).fdiv (2 ^ 1)) (6148914691236517205 : Int)) + (andI .u64 x (6148914691236517205 : Int)))) (3689348814741910323 : Int)))))) (1085102592571150095 : Int)) + (((andI .u64 (IntKind.u64.wrap ((((IntKind.u64.wrap ((andI .u64 (((IntKind.u64.wrap ((andI .u64 ((x).fdiv (2 ^ 1)) (6148914691236517205 : Int)) + (andI .u64 x (6148914691236517205 : Int))))).fdiv (2 ^ 2)) (3689348814741910323 : Int)) + (andI .u64 (IntKind.u64.wrap ((andI .u64 ((x).fdiv (2 ^ 1)) (6148914691236517205 : Int)) + (andI .u64 x (6148914691236517205 : Int)))) (3689348814741910323 : Int))))).fdiv (2 ^ 4)) + (IntKind.u64.wrap ((andI .u64 (((IntKind.u64.wrap ((andI .u64 ((x).fdiv (2 ^ 1)) (6148914691236517205 : Int)) + (andI .u64 x (6148914691236517205 : Int))))).fdiv (2 ^ 2)) (3689348814741910323 : Int)) + (andI .u64 (IntKind.u64.wrap ((andI .u64 ((x).fdiv (2 ^ 1)) (6148914691236517205 : Int)) + (andI .u64 x (6148914691236517205 : Int)))) (3689348814741910323 : Int)))))) (1085102592571150095 : Int))).fdiv (2 ^ 8)))) + (((IntKind.u64.wrap ((andI .u64 (IntKind.u64.wrap ((((IntKind.u64.wrap ((andI .u64 (((IntKind.u64.wrap ((andI .u64 ((x).fdiv (2 ^ 1)) (6148914691236517205 : Int)) + (andI .u64 x (6148914691236517205 : Int))))).fdiv (2 ^ 2)) (3689348814741910323 : Int)) + (andI .u64 (IntKind.u64.wrap ((andI .u64 ((x).fdiv (2 ^ 1)) (6148914691236517205 : Int)) + (andI .u64 x (6148914691236517205 : Int)))) (3689348814741910323 : Int))))).fdiv (2 ^ 4)) + (IntKind.u64.wrap ((andI .u64 (((IntKind.u64.wrap ((andI .u64 ((x).fdiv (2 ^ 1)) (6148914691236517205 : Int)) + (andI .u64 x (6148914691236517205 : Int))))).fdiv (2 ^ 2)) (3689348814741910323 : Int)) + (andI .u64 (IntKind.u64.wrap ((andI .u64 ((x).fdiv (2 ^ 1)) (6148914691236517205 : Int)) + (andI .u64 x (6148914691236517205 : Int)))) (3689348814741910323 : Int)))))) (1085102592571150095 : Int)) + (((andI .u64 (IntKind.u64.wrap ((((IntKind.u64.wrap ((andI .u64 (((IntKind.u64.wrap ((andI .u64 ((x).fdiv (2 ^ 1)) (6148914691236517205 : Int)) + (andI .u64 x (6148914691236517205 : Int))))).fdiv (2 ^ 2)) (3689348814741910323 : Int)) + (andI .u64 (IntKind.u64.wrap ((andI .u64 ((x).fdiv (2 ^ 1)) (6148914691236517205 : Int)) + (andI .u64 x (6148914691236517205 : Int)))) (3689348814741910323 : Int))))).fdiv (2 ^ 4)) + (IntKind.u64.wrap ((andI .u64 (((IntKind.u64.wrap ((andI .u64 ((x).fdiv (2 ^ 1)) (6148914691236517205 : Int)) + (andI .u64 x (6148914691236517205 : Int))))).fdiv (2 ^ 2)) (3689348814741910323 : Int)) + (andI .u64 (IntKind.u64.wrap ((andI .u64 ((x).fdiv (2 ^ 1)) (6148914691236517205 : Int)) + (andI .u64 x (6148914691236517205 : Int)))) (3689348814741910323 : Int)))))) (1085102592571150095 : Int))).fdiv (2 ^ 8))))).fdiv (2 ^ 16))))).fdiv (2 ^ 32))))) (127 : Int))) _ (op_assign rfl) rfl ?_
  refine WL.nil ?_
  refine W.ret ?_
  obtain rfl := Option.some.inj h
  show FinP _ _ _ _ _ _ _
  exact FinP.ret _ (res1 rfl rfl) ⟨rfl, (inR_wrap _ _), hS0.ext⟩

theorem c_impl_emptyCube {w : World} {n : Int} (r_n : InR .i64 n) {res : (List (List (List Int)))} (h : p_impl_emptyCube n  = some res) :
    Ret Tryd.prog 60 #[(Value.int .i64 n)] w (fun v w' => ∃ (u0 : Value), v = (Value.agg #[u0]) ∧ Ext w w' ∧ Sep w.heap.size w' [(Ty.sl (Ty.sl (Ty.sl (Ty.i .i64)))).at u0 res]) := by
  unfold p_impl_emptyCube at h
  have hS0 : St w w [] := St.start w
  refine Ret.start (fn := Tryd.f60) Tryd.func60 rfl 18 rfl rfl ?_
  refine W.seq (W.region ?_)
  refine WL.alloc hS0 ze_26 (cs := [(Value.slice none 0 0)]) rfl rfl ?_
  intro b1 wd2 hS3 he4
  replace hS3 : St w wd2 [bx b1 [(Value.slice none 0 0)]] := hS3
  refine WL.nil ?_
  refine W.seq (W.region ?_)
  refine WL.val (Value.agg #[(Value.slice none 0 0)]) _ (op_build bd_26 (parts := []) (partsL trivial) trivial rfl) rfl ?_
  refine WL.alloc hS3 ze_26 (cs := [(Value.slice none 0 0)]) rfl rfl ?_
  intro b5 wd6 hS7 he8
  replace hS7 : St w wd6 [bx b1 [(Value.slice none 0 0)], bx b5 [(Value.slice none 0 0)]] := hS7
  have hS11 := St.addNil (Ty.sl (Ty.sl (Ty.i .i64))) hS7
  replace hS11 : St w wd6 [bx b1 [(Value.slice none 0 0)], bx b5 [(Value.slice none 0 0)], (Ty.sl (Ty.sl (Ty.sl (Ty.i .i64)))).at (Value.slice none 0 0) ([] : (List (List (List Int))))] := hS11
  refine WL.storeBox [(Value.slice none 0 0)] hS11 (k := 1) rfl rfl rfl (us := [(Value.slice none 0 0)]) rfl sz_26 rfl rfl (all_rep (St.rep (t := (Ty.sl (Ty.sl (Ty.sl (Ty.i .i64))))) hS11 2 rfl) all_nil) rfl ?_
  intro wd9 hS10
  replace hS10 : St w wd9 [bx b1 [(Value.slice none 0 0)], bx b5 [(Value.slice none 0 0)], (Ty.sl (Ty.sl (Ty.sl (Ty.i .i64)))).at (Value.slice none 0 0) ([] : (List (List (List Int))))] := hS10
  refine WL.nil ?_
  refine W.seq (W.seq (W.region ?_))
  refine WL.val (Value.int .i64 n) _ (op_move rfl) rfl ?_
  refine WL.val (Value.int .i64 (0 : Int)) _ (op_move rfl) rfl ?_
  refine WL.nil ?_
  show W _ _ _ _ _ _
  obtain ⟨res12, hres13, h⟩ := bs h
  refine W.blockLoop (fun fq wq => ∃ s, res12 = Res.fin s ∧ ∃ (uu0 : Value), fq 2 = (Value.pointer (some ⟨b1, 0, none⟩)) ∧ fq 3 = (Value.pointer (some ⟨b5, 0, none⟩)) ∧ St w wq [bx b1 [(Value.slice none 0 0)], bx b5 [uu0], (Ty.sl (Ty.sl (Ty.sl (Ty.i .i64)))).at uu0 s]) ?_ ?_
  · refine W.forN (fun k (s : (List (List (List Int)))) fq wq => ∃ (uu0 : Value), fq 0 = (Value.int .i64 n) ∧ fq 2 = (Value.pointer (some ⟨b1, 0, none⟩)) ∧ fq 3 = (Value.pointer (some ⟨b5, 0, none⟩)) ∧ fq 5 = (Value.int .i64 n) ∧ fq 6 = Value.int .i64 (k : Int) ∧ InR .i64 (k : Int) ∧ St w wq [bx b1 [(Value.slice none 0 0)], bx b5 [uu0], (Ty.sl (Ty.sl (Ty.sl (Ty.i .i64)))).at uu0 s]) hres13 ⟨(Value.slice none 0 0), rfl, rfl, rfl, rfl, rfl, (inL rfl), hS10⟩ ?_ ?_
    · intro k14 x15 ct16 f17 wd18 hk19 hb20 hI21 hbrk22 hret23
      replace hI21 : ∃ (uu0 : Value), f17 0 = (Value.int .i64 n) ∧ f17 2 = (Value.pointer (some ⟨b1, 0, none⟩)) ∧ f17 3 = (Value.pointer (some ⟨b5, 0, none⟩)) ∧ f17 5 = (Value.int .i64 n) ∧ f17 6 = Value.int .i64 (k14 : Int) ∧ InR .i64 (k14 : Int) ∧ St w wd18 [bx b1 [(Value.slice none 0 0)], bx b5 [uu0], (Ty.sl (Ty.sl (Ty.sl (Ty.i .i64)))).at uu0 x15] := hI21
      replace hb20 : p_impl_emptyCube_L1 n k14 x15 = some ct16 := hb20
      unfold p_impl_emptyCube_L1 at hb20
      obtain ⟨u24, hf25, hf26, hf27, hf28, hf29, hr30, hS31⟩ := hI21
      refine W.seq (W.region ?_)
      refine WL.val (Value.bool (decide ((k14 : Int) < n))) _ (op_lss hf29 hf28) rfl ?_
      have hl32 : (k14 : Int) < n := by omega
      refine WL.nil ?_
      refine W.seq ?_
      refine W.condT (decide ((k14 : Int) < n)) rfl (decide_eq_true hl32) ?_
      refine W.skip ?_
      refine W.seq ?_
      refine W.block ?_
      obtain ⟨x81, hx82, hb20⟩ := bs hb20
      refine W.drawR mixo 6 [] [fun _ v _ _ => v = (Value.pointer (some ⟨b5, 0, none⟩)), fun _ v _ _ => v = u24, fun _ v _ _ => v = (Value.int .i64 n) ∧ InR .i64 n, fun _ v _ _ => v = (Value.int .i64 n) ∧ InR .i64 n, fun _ v S w' => SepS S w' [(Ty.sl (Ty.sl (Ty.i .i64))).at v x81], fun f v S w' => ∃ b : Nat, v = Value.slice (some ⟨b, 0, none⟩) 1 1 ∧ SepS S w' [bx b [f 12]]] (by kernel_rfl) (by kernel_rfl) ⟨pk, pk, pk, pk, ⟨fun _ _ _ _ _ he h => SepS.extend he h, fun _ _ _ _ _ _ h => h⟩, ⟨fun _ _ _ _ _ he ⟨b, h1, h2⟩ => ⟨b, h1, SepS.extend he h2⟩, fun f f2 _ _ _ hf ⟨b, h1, h2⟩ => ⟨b, h1, by rw [← hf 4 12 rfl rfl]; exact h2⟩⟩, trivial⟩ ⟨?_, ?_, ?_, ?_, ?_, ?_, trivial⟩ ?_
      · refine ObX.op rfl fun f34 wd35 he36 hout37 hphi38 => ?_
        have e40 : f34 3 = (Value.pointer (some ⟨b5, 0, none⟩)) := (hout37 3 rfl).trans hf27
        exact OpX.val (Value.pointer (some ⟨b5, 0, none⟩)) wd35 rfl (op_fieldAddr fd_26_0 e40) (Ext.refl _) rfl
      · refine ObX.op rfl fun f41 wd42 he43 hout44 hphi45 => ?_
        have hS46 := St.extend hS31 he43
        obtain ⟨S47, hS48, hf49⟩ := hphi45 0 8 _ rfl rfl rfl
        have e50 : f41 8 = (Value.pointer (some ⟨b5, 0, none⟩)) := hf49
        exact OpX.val u24 wd42 rfl (op_load one_22 e50 (BoxAt.cell (St.boxAt hS46 1 rfl) rfl)) (Ext.refl _) rfl
      · refine ObX.op rfl fun f51 wd52 he53 hout54 hphi55 => ?_
        have e57 : f51 0 = (Value.int .i64 n) := (hout54 0 rfl).trans hf25
        exact OpX.val (Value.int .i64 n) wd52 rfl (op_move e57) (Ext.refl _) ⟨rfl, r_n⟩
      · refine ObX.op rfl fun f58 wd59 he60 hout61 hphi62 => ?_
        have e64 : f58 0 = (Value.int .i64 n) := (hout61 0 rfl).trans hf25
        exact OpX.val (Value.int .i64 n) wd59 rfl (op_move e64) (Ext.refl _) ⟨rfl, r_n⟩
      · refine ObX.op rfl fun f65 wd66 he67 hout68 hphi69 => ?_
        obtain ⟨S71, hS72, hf73⟩ := hphi69 2 10 _ rfl rfl rfl
        obtain ⟨e74, hr75⟩ := hf73
        obtain ⟨S76, hS77, hf78⟩ := hphi69 3 11 _ rfl rfl rfl
        obtain ⟨e79, hr80⟩ := hf78
        refine OpX.call rfl (op_call fn_48 (args2 e74 e79)) (Ret.mono (c_impl_zeros hr75 hr80 hx82) ?_)
        rintro u83 wd84 ⟨_, rfl, he85, hs86⟩
        exact ⟨he85, _, newS _ _, (Sep.new hs86)⟩
      · refine ObX.op rfl fun f87 wd88 he89 hout90 hphi91 => ?_
        obtain ⟨S93, hS94, hf95⟩ := hphi91 4 12 _ rfl rfl rfl
        have e96 : SepS S93 wd88 [(Ty.sl (Ty.sl (Ty.i .i64))).at (f87 12) x81] := hf95
        exact OpX.valO _ _ rfl (mk_lit (us := [(f87 12)]) sl_22 rfl (by decide) (fillL rfl ⟨rfl, rfl, (cells_rep (SepS.rep (t := (Ty.sl (Ty.sl (Ty.i .i64)))) e96 0 rfl)), trivial⟩) rfl) (Ext.alloc _ _) ⟨_, rfl, Sep.new (sep_box _ [(f87 12)] _)⟩
      · intro f97 wd98 Ss99 he100 hout101 hSn102 hSd103 hphi104
        show WL _ _ _ _ _ _ _
        have e106 : f97 9 = u24 := hphi104 1 9 _ (by decide) rfl rfl
        have e107 : SepS (Ss99 4) wd98 [(Ty.sl (Ty.sl (Ty.i .i64))).at (f97 12) x81] := hphi104 4 12 _ (by decide) rfl rfl
        obtain ⟨b109, e108, e108s⟩ : ∃ b : Nat, f97 13 = Value.slice (some ⟨b, 0, none⟩) 1 1 ∧ SepS (Ss99 5) wd98 [bx b [f97 12]] := hphi104 5 13 _ (by decide) rfl rfl
        have e110 : f97 0 = (Value.int .i64 n) := (hout101 0 rfl).trans hf25
        have e111 : f97 2 = (Value.pointer (some ⟨b1, 0, none⟩)) := (hout101 2 rfl).trans hf26
        have e112 : f97 3 = (Value.pointer (some ⟨b5, 0, none⟩)) := (hout101 3 rfl).trans hf27
        have e113 : f97 5 = (Value.int .i64 n) := (hout101 5 rfl).trans hf28
        have e114 : f97 6 = (Value.int .i64 (k14 : Int)) := (hout101 6 rfl).trans hf29
        have hS115 := St.joinS hS31 he100 hSn102 (SepS.consS hSd103 rfl e107 (SepS.consS hSd103 rfl e108s SepS.nilS))
        replace hS115 : St w wd98 [bx b1 [(Value.slice none 0 0)], bx b5 [u24], (Ty.sl (Ty.sl (Ty.sl (Ty.i .i64)))).at u24 x15, (Ty.sl (Ty.sl (Ty.i .i64))).at (f97 12) x81, bx b109 [(f97 12)]] := hS115
        obtain ⟨x116, hx117, hb20⟩ := bs hb20
        refine WL.appendRow hS115 (k := 2) (k2 := 3) (k3 := 4) rfl rfl rfl rfl sl_22 rfl rfl e106 e108 hx117 rfl ?_
        intro u118 wd119 hS120 hz121
        replace hS120 : St w wd119 [bx b1 [(Value.slice none 0 0)], bx b5 [u24], (Ty.sl (Ty.sl (Ty.sl (Ty.i .i64)))).at u118 x116, emp, bx b109 [(f97 12)]] := hS120
        refine WL.val (Value.pointer (some ⟨b5, 0, none⟩)) _ (op_fieldAddr fd_26_0 e112) rfl ?_
        refine WL.storeBox [u118] hS120 (k := 1) rfl rfl rfl (us := [u118]) (cells_rep (St.rep (t := (Ty.sl (Ty.sl (Ty.sl (Ty.i .i64))))) hS120 2 rfl)) sz_22 rfl rfl (all_rep (St.rep (t := (Ty.sl (Ty.sl (Ty.sl (Ty.i .i64))))) hS120 2 rfl) all_nil) rfl ?_
        intro wd122 hS123
        replace hS123 : St w wd122 [bx b1 [(Value.slice none 0 0)], bx b5 [u118], (Ty.sl (Ty.sl (Ty.sl (Ty.i .i64)))).at u118 x116, emp, bx b109 [(f97 12)]] := hS123
        refine WL.nil ?_
        show W _ _ _ _ _ _
        refine W.region ?_
        refine WL.val (Value.int .i64 (w64 ((k14 : Int) + (1 : Int)))) _ (op_add e114 rfl) rfl ?_
        refine WL.val (Value.int .i64 (w64 ((k14 : Int) + (1 : Int)))) _ (op_move rfl) rfl ?_
        refine WL.nil ?_
        obtain rfl := Option.some.inj hb20
        show ∃ s, _ = Ctl.next s ∧ _
        exact ⟨_, rfl, u118, e110, e111, e112, e113, (ctr_next hl32 r_n), (ctr_rng hl32 r_n), (St.pick hS123 [0, 1, 2] rfl)⟩
    · intro x130 f125 wd126 hs127 hI128
      replace hI128 : ∃ (uu0 : Value), f125 0 = (Value.int .i64 n) ∧ f125 2 = (Value.pointer (some ⟨b1, 0, none⟩)) ∧ f125 3 = (Value.pointer (some ⟨b5, 0, none⟩)) ∧ f125 5 = (Value.int .i64 n) ∧ f125 6 = Value.int .i64 (((n).toNat : Nat) : Int) ∧ InR .i64 (((n).toNat : Nat) : Int) ∧ St w wd126 [bx b1 [(Value.slice none 0 0)], bx b5 [uu0], (Ty.sl (Ty.sl (Ty.sl (Ty.i .i64)))).at uu0 x130] := hI128
      obtain ⟨u131, hf132, hf133, hf134, hf135, hf136, hr137, hS138⟩ := hI128
      refine W.seq (W.region ?_)
      refine WL.val (Value.bool (decide ((((n).toNat : Nat) : Int) < n))) _ (op_lss hf136 hf135) rfl ?_
      have hl139 : ¬ (((n).toNat : Nat) : Int) < n := by omega
      refine WL.nil ?_
      refine W.seq ?_
      refine W.condF (decide ((((n).toNat : Nat) : Int) < n)) rfl (decide_eq_false hl139) ?_
      refine W.exit ?_
      show _ = _ ∧ _
      exact ⟨rfl, _, hs127, u131, hf133, hf134, hS138⟩
  · rintro f140 wd141 ⟨x144, rfl, hq142⟩
    replace h := onRes_fin h
    replace hq142 : ∃ (uu0 : Value), f140 2 = (Value.pointer (some ⟨b1, 0, none⟩)) ∧ f140 3 = (Value.pointer (some ⟨b5, 0, none⟩)) ∧ St w wd141 [bx b1 [(Value.slice none 0 0)], bx b5 [uu0], (Ty.sl (Ty.sl (Ty.sl (Ty.i .i64)))).at uu0 x144] := hq142
    obtain ⟨u145, hf146, hf147, hS148⟩ := hq142
    refine W.seq (W.region ?_)
    refine WL.val (Value.agg #[u145]) _ (op_loadBox st_26 hf147 (St.boxAt hS148 1 rfl) rfl rfl) rfl ?_
    refine WL.storeBox [u145] hS148 (k := 0) rfl hf146 rfl (us := [u145]) rfl sz_26 rfl rfl (all_rep (St.rep (t := (Ty.sl (Ty.sl (Ty.sl (Ty.i .i64))))) hS148 2 rfl) all_nil) rfl ?_
    intro wd149 hS150
    replace hS150 : St w wd149 [bx b1 [u145], bx b5 [u145], (Ty.sl (Ty.sl (Ty.sl (Ty.i .i64)))).at u145 x144] := hS150
    refine WL.nil ?_
    refine W.ret ?_
    obtain rfl := Option.some.inj h
    show FinP _ _ _ _ _ _ _
    exact FinP.ret _ (resC rfl hf146 st_26 (St.boxAt hS150 0 rfl) rfl) ⟨u145, rfl, hS150.ext, (St.out (St.pick hS150 [2] rfl) (Ext.refl _))⟩

theorem c_impl_Ring_ringOf {w : World} {r_Table : (List (List (List Int)))} {v_r_Table : Value} {set : Int} (tb : TabAt w) (r_r_Table : (Ty.sl (Ty.sl (Ty.sl (Ty.i .i64)))).rep w v_r_Table r_Table) (r_set : InR .i64 set) {res : (List (List (List Int)))} (h : p_impl_Ring_ringOf r_Table set  = some res) :
    Ret Tryd.prog 36 #[(Value.agg #[v_r_Table]), (Value.int .i64 set)] w (fun v w' => ∃ (u0 : Value), v = (Value.agg #[u0]) ∧ Ext w w' ∧ Sep w.heap.size w' [(Ty.sl (Ty.sl (Ty.sl (Ty.i .i64)))).at u0 res]) := by
  unfold p_impl_Ring_ringOf at h
  have hS0 : St w w [] := St.start w
  refine Ret.start (fn := Tryd.f36) Tryd.func36 rfl 65 rfl rfl ?_
  refine W.seq (W.region ?_)
  refine WL.box hS0 rfl (cs := [v_r_Table]) rfl rfl ?_
  intro b1 wd2 hS3 he4 hx5
  replace hS3 : St w wd2 [bx b1 [v_r_Table]] := hS3
  have hx6 := St.boxAt hS3 0 rfl
  have hE7 : Ext w wd2 := hS3.ext
  have hS8 : St wd2 wd2 [] := St.start wd2
  refine WL.alloc hS8 ze_26 (cs := [(Value.slice none 0 0)]) rfl rfl ?_
  intro b9 wd10 hS11 he12
  replace hS11 : St wd2 wd10 [bx b9 [(Value.slice none 0 0)]] := hS11
  refine WL.nil ?_
  refine W.seq (W.region ?_)
  refine WL.val (Value.int .i64 set) _ (op_move rfl) rfl ?_
  obtain ⟨x13, hx14, h⟩ := bs h
  refine WL.call _ (op_call fn_49 (args1 rfl)) (c_impl_labelsIn (tb.ext (Ext.trans hE7 hS11.ext)) r_set hx14) rfl ?_
  rintro u15 wd16 ⟨_, rfl, he17, hs18⟩
  have hS19 := St.join hS11 he17 hs18
  replace hS19 : St wd2 wd16 [bx b9 [(Value.slice none 0 0)], (Ty.sl (Ty.i .i64)).at u15 x13] := hS19
  refine WL.val (Value.int .i64 set) _ (op_move rfl) rfl ?_
  refine WL.val (Value.int .u64 (IntKind.u64.wrap set)) _ (op_convert rfl it_2 it_69) rfl ?_
  obtain ⟨x20, hx21, h⟩ := bs h
  refine WL.call _ (op_call fn_61 (args1 rfl)) (c_math_bits_OnesCount64 (inR_wrap _ _) hx21) rfl ?_
  rintro _ wd23 ⟨rfl, hr22, he24⟩
  have hS26 := St.extend hS19 he24
  replace hS26 : St wd2 wd23 [bx b9 [(Value.slice none 0 0)], (Ty.sl (Ty.i .i64)).at u15 x13] := hS26
  obtain ⟨x27, hx28, h⟩ := bs h
  refine WL.call _ (op_call fn_60 (args1 rfl)) (c_impl_emptyCube hr22 hx28) rfl ?_
  rintro _ wd30 ⟨u29, rfl, he31, hs32⟩
  have hS33 := St.join hS26 he31 hs32
  replace hS33 : St wd2 wd30 [bx b9 [(Value.slice none 0 0)], (Ty.sl (Ty.i .i64)).at u15 x13, (Ty.sl (Ty.sl (Ty.sl (Ty.i .i64)))).at u29 x27] := hS33
  refine WL.alloc hS33 ze_26 (cs := [(Value.slice none 0 0)]) rfl rfl ?_
  intro b34 wd35 hS36 he37
  replace hS36 : St wd2 wd35 [bx b9 [(Value.slice none 0 0)], (Ty.sl (Ty.i .i64)).at u15 x13, (Ty.sl (Ty.sl (Ty.sl (Ty.i .i64)))).at u29 x27, bx b34 [(Value.slice none 0 0)]] := hS36
  refine WL.val u15 _ (op_assign rfl) rfl ?_
  refine WL.storeBox [u29] hS36 (k := 3) rfl rfl rfl (us := [u29]) rfl sz_26 rfl rfl (all_rep (St.rep (t := (Ty.sl (Ty.sl (Ty.sl (Ty.i .i64))))) hS36 2 rfl) all_nil) rfl ?_
  intro wd38 hS39
  replace hS39 : St wd2 wd38 [bx b9 [(Value.slice none 0 0)], (Ty.sl (Ty.i .i64)).at u15 x13, (Ty.sl (Ty.sl (Ty.sl (Ty.i .i64)))).at u29 x27, bx b34 [u29]] := hS39
  refine WL.nil ?_
  refine W.seq (W.seq (W.region ?_))
  refine WL.val u15 _ (op_move rfl) rfl ?_
  have hr40 := inR_len (St.rep (t := (Ty.sl (Ty.i .i64))) hS39 1 rfl)
  refine WL.val (Value.int .i64 ((x13).length : Int)) _ (op_lenL sl_61 (St.rep (t := (Ty.sl (Ty.i .i64))) hS39 1 rfl) rfl) rfl ?_
  refine WL.val (Value.int .i64 (0 : Int)) _ (op_move rfl) rfl ?_
  refine WL.nil ?_
  show W _ _ _ _ _ _
  obtain ⟨res41, hres42, h⟩ := bs h
  refine W.blockLoop (fun fq wq => ∃ s, res41 = Res.fin s ∧ fq 4 = (Value.pointer (some ⟨b9, 0, none⟩)) ∧ fq 6 = (Value.pointer (some ⟨b34, 0, none⟩)) ∧ St wd2 wq [bx b9 [(Value.slice none 0 0)], (Ty.sl (Ty.sl (Ty.sl (Ty.i .i64)))).at u29 s, bx b34 [u29]]) ?_ ?_
  · refine W.forN (fun k (s : (List (List (List Int)))) fq wq => fq 2 = (Value.pointer (some ⟨b1, 0, none⟩)) ∧ fq 4 = (Value.pointer (some ⟨b9, 0, none⟩)) ∧ fq 5 = u15 ∧ fq 6 = (Value.pointer (some ⟨b34, 0, none⟩)) ∧ fq 19 = u15 ∧ fq 20 = (Value.int .i64 ((x13).length : Int)) ∧ fq 21 = Value.int .i64 (k : Int) ∧ InR .i64 (k : Int) ∧ St wd2 wq [bx b9 [(Value.slice none 0 0)], (Ty.sl (Ty.i .i64)).at u15 x13, (Ty.sl (Ty.sl (Ty.sl (Ty.i .i64)))).at u29 s, bx b34 [u29]]) hres42 ⟨rfl, rfl, rfl, rfl, rfl, rfl, rfl, (inL rfl), hS39⟩ ?_ ?_
    · intro k43 x44 ct45 f46 wd47 hk48 hb49 hI50 hbrk51 hret52
      replace hI50 : f46 2 = (Value.pointer (some ⟨b1, 0, none⟩)) ∧ f46 4 = (Value.pointer (some ⟨b9, 0, none⟩)) ∧ f46 5 = u15 ∧ f46 6 = (Value.pointer (some ⟨b34, 0, none⟩)) ∧ f46 19 = u15 ∧ f46 20 = (Value.int .i64 ((x13).length : Int)) ∧ f46 21 = Value.int .i64 (k43 : Int) ∧ InR .i64 (k43 : Int) ∧ St wd2 wd47 [bx b9 [(Value.slice none 0 0)], (Ty.sl (Ty.i .i64)).at u15 x13, (Ty.sl (Ty.sl (Ty.sl (Ty.i .i64)))).at u29 x44, bx b34 [u29]] := hI50
      replace hb49 : p_impl_Ring_ringOf_L1 x13 r_Table set k43 x44 = some ct45 := hb49
      unfold p_impl_Ring_ringOf_L1 at hb49
      obtain ⟨hf53, hf54, hf55, hf56, hf57, hf58, hf59, hr60, hS61⟩ := hI50
      refine W.seq (W.region ?_)
      refine WL.val (Value.bool (decide ((k43 : Int) < ((x13).length : Int)))) _ (op_lss hf59 hf58) rfl ?_
      have hl62 : (k43 : Int) < ((x13).length : Int) := by omega
      refine WL.nil ?_
      refine W.seq ?_
      refine W.condT (decide ((k43 : Int) < ((x13).length : Int))) rfl (decide_eq_true hl62) ?_
      refine W.skip ?_
      refine W.seq ?_
      refine W.block ?_
      refine W.seq (W.region ?_)
      refine WL.val (Value.int .i64 (k43 : Int)) _ (op_move hf59) rfl ?_
      obtain ⟨x64, hx67, hb49⟩ := bs hb49
      obtain ⟨ha65, hb66, hx67⟩ := idx_some hx67
      refine WL.val (Value.pointer (some (elA u15 ((k43 : Int)).toNat))) _ (op_idx sl_61 (St.rep (t := (Ty.sl (Ty.i .i64))) hS61 1 rfl) hf57 hf59 ha65 hb66) rfl ?_
      obtain ⟨u68, hc69, hr70⟩ := repSl.el (St.rep (t := (Ty.sl (Ty.i .i64))) hS61 1 rfl) hx67
      obtain ⟨rfl, hr70⟩ := hr70
      refine WL.val (Value.int .i64 x64) _ (op_load one_3 rfl hc69) rfl ?_
      refine WL.val (Value.int .i64 (k43 : Int)) _ (op_assign rfl) rfl ?_
      refine WL.val (Value.int .i64 x64) _ (op_assign rfl) rfl ?_
      refine WL.nil ?_
      refine W.seq (W.region ?_)
      refine WL.val u15 _ (op_move hf55) rfl ?_
      have hr71 := inR_len (St.rep (t := (Ty.sl (Ty.i .i64))) hS61 1 rfl)
      refine WL.val (Value.int .i64 ((x13).length : Int)) _ (op_lenL sl_61 (St.rep (t := (Ty.sl (Ty.i .i64))) hS61 1 rfl) rfl) rfl ?_
      refine WL.val (Value.int .i64 (0 : Int)) _ (op_move rfl) rfl ?_
      refine WL.nil ?_
      show W _ _ _ _ _ _
      obtain ⟨res72, hres73, hb49⟩ := bs hb49
      refine W.blockLoop (fun fq wq => ∃ s, res72 = Res.fin s ∧ fq 2 = (Value.pointer (some ⟨b1, 0, none⟩)) ∧ fq 4 = (Value.pointer (some ⟨b9, 0, none⟩)) ∧ fq 5 = u15 ∧ fq 6 = (Value.pointer (some ⟨b34, 0, none⟩)) ∧ fq 19 = u15 ∧ fq 20 = (Value.int .i64 ((x13).length : Int)) ∧ fq 21 = (Value.int .i64 (k43 : Int)) ∧ St wd2 wq [bx b9 [(Value.slice none 0 0)], (Ty.sl (Ty.i .i64)).at u15 x13, (Ty.sl (Ty.sl (Ty.sl (Ty.i .i64)))).at u29 s, bx b34 [u29]]) ?_ ?_
      · refine W.forN (fun k (s : (List (List (List Int)))) fq wq => fq 2 = (Value.pointer (some ⟨b1, 0, none⟩)) ∧ fq 4 = (Value.pointer (some ⟨b9, 0, none⟩)) ∧ fq 5 = u15 ∧ fq 6 = (Value.pointer (some ⟨b34, 0, none⟩)) ∧ fq 7 = (Value.int .i64 (k43 : Int)) ∧ fq 8 = (Value.int .i64 x64) ∧ fq 19 = u15 ∧ fq 20 = (Value.int .i64 ((x13).length : Int)) ∧ fq 21 = (Value.int .i64 (k43 : Int)) ∧ fq 26 = u15 ∧ fq 27 = (Value.int .i64 ((x13).length : Int)) ∧ fq 28 = Value.int .i64 (k : Int) ∧ InR .i64 (k : Int) ∧ St wd2 wq [bx b9 [(Value.slice none 0 0)], (Ty.sl (Ty.i .i64)).at u15 x13, (Ty.sl (Ty.sl (Ty.sl (Ty.i .i64)))).at u29 s, bx b34 [u29]]) hres73 ⟨hf53, hf54, hf55, hf56, rfl, rfl, hf57, hf58, hf59, rfl, rfl, rfl, (inL rfl), hS61⟩ ?_ ?_
        · intro k74 x75 ct76 f77 wd78 hk79 hb80 hI81 hbrk82 hret83
          replace hI81 : f77 2 = (Value.pointer (some ⟨b1, 0, none⟩)) ∧ f77 4 = (Value.pointer (some ⟨b9, 0, none⟩)) ∧ f77 5 = u15 ∧ f77 6 = (Value.pointer (some ⟨b34, 0, none⟩)) ∧ f77 7 = (Value.int .i64 (k43 : Int)) ∧ f77 8 = (Value.int .i64 x64) ∧ f77 19 = u15 ∧ f77 20 = (Value.int .i64 ((x13).length : Int)) ∧ f77 21 = (Value.int .i64 (k43 : Int)) ∧ f77 26 = u15 ∧ f77 27 = (Value.int .i64 ((x13).length : Int)) ∧ f77 28 = Value.int .i64 (k74 : Int) ∧ InR .i64 (k74 : Int) ∧ St wd2 wd78 [bx b9 [(Value.slice none 0 0)], (Ty.sl (Ty.i .i64)).at u15 x13, (Ty.sl (Ty.sl (Ty.sl (Ty.i .i64)))).at u29 x75, bx b34 [u29]] := hI81
          replace hb80 : p_impl_Ring_ringOf_L2 x13 k43 r_Table x64 set k74 x75 = some ct76 := hb80
          unfold p_impl_Ring_ringOf_L2 at hb80
          obtain ⟨hf84, hf85, hf86, hf87, hf88, hf89, hf90, hf91, hf92, hf93, hf94, hf95, hr96, hS97⟩ := hI81
          refine W.seq (W.region ?_)
          refine WL.val (Value.bool (decide ((k74 : Int) < ((x13).length : Int)))) _ (op_lss hf95 hf94) rfl ?_
          have hl98 : (k74 : Int) < ((x13).length : Int) := by omega
          refine WL.nil ?_
          refine W.seq ?_
          refine W.condT (decide ((k74 : Int) < ((x13).length : Int))) rfl (decide_eq_true hl98) ?_
          refine W.skip ?_
          refine W.seq ?_
          refine W.block ?_
          refine W.seq (W.region ?_)
          refine WL.val (Value.int .i64 (k74 : Int)) _ (op_move hf95) rfl ?_
          obtain ⟨x100, hx103, hb80⟩ := bs hb80
          obtain ⟨ha101, hb102, hx103⟩ := idx_some hx103
          refine WL.val (Value.pointer (some (elA u15 ((k74 : Int)).toNat))) _ (op_idx sl_61 (St.rep (t := (Ty.sl (Ty.i .i64))) hS97 1 rfl) hf93 hf95 ha101 hb102) rfl ?_
          obtain ⟨u104, hc105, hr106⟩ := repSl.el (St.rep (t := (Ty.sl (Ty.i .i64))) hS97 1 rfl) hx103
          obtain ⟨rfl, hr106⟩ := hr106
          refine WL.val (Value.int .i64 x100) _ (op_load one_3 rfl hc105) rfl ?_
          refine WL.val (Value.int .i64 (k74 : Int)) _ (op_assign rfl) rfl ?_
          refine WL.val (Value.int .i64 x100) _ (op_assign rfl) rfl ?_
          refine WL.nil ?_
          refine W.seq (W.region ?_)
          refine WL.val u15 _ (op_move hf86) rfl ?_
          have hr107 := inR_len (St.rep (t := (Ty.sl (Ty.i .i64))) hS97 1 rfl)
          refine WL.val (Value.int .i64 ((x13).length : Int)) _ (op_lenL sl_61 (St.rep (t := (Ty.sl (Ty.i .i64))) hS97 1 rfl) rfl) rfl ?_
          refine WL.val (Value.int .i64 (0 : Int)) _ (op_move rfl) rfl ?_
          refine WL.nil ?_
          show W _ _ _ _ _ _
          obtain ⟨res108, hres109, hb80⟩ := bs hb80
          refine W.blockLoop (fun fq wq => ∃ s, res108 = Res.fin s ∧ fq 2 = (Value.pointer (some ⟨b1, 0, none⟩)) ∧ fq 4 = (Value.pointer (some ⟨b9, 0, none⟩)) ∧ fq 5 = u15 ∧ fq 6 = (Value.pointer (some ⟨b34, 0, none⟩)) ∧ fq 7 = (Value.int .i64 (k43 : Int)) ∧ fq 8 = (Value.int .i64 x64) ∧ fq 19 = u15 ∧ fq 20 = (Value.int .i64 ((x13).length : Int)) ∧ fq 21 = (Value.int .i64 (k43 : Int)) ∧ fq 26 = u15 ∧ fq 27 = (Value.int .i64 ((x13).length : Int)) ∧ fq 28 = (Value.int .i64 (k74 : Int)) ∧ St wd2 wq [bx b9 [(Value.slice none 0 0)], (Ty.sl (Ty.i .i64)).at u15 x13, (Ty.sl (Ty.sl (Ty.sl (Ty.i .i64)))).at u29 s, bx b34 [u29]]) ?_ ?_
          · refine W.forN (fun k (s : (List (List (List Int)))) fq wq => fq 2 = (Value.pointer (some ⟨b1, 0, none⟩)) ∧ fq 4 = (Value.pointer (some ⟨b9, 0, none⟩)) ∧ fq 5 = u15 ∧ fq 6 = (Value.pointer (some ⟨b34, 0, none⟩)) ∧ fq 7 = (Value.int .i64 (k43 : Int)) ∧ fq 8 = (Value.int .i64 x64) ∧ fq 9 = (Value.int .i64 (k74 : Int)) ∧ fq 10 = (Value.int .i64 x100) ∧ fq 19 = u15 ∧ fq 20 = (Value.int .i64 ((x13).length : Int)) ∧ fq 21 = (Value.int .i64 (k43 : Int)) ∧ fq 26 = u15 ∧ fq 27 = (Value.int .i64 ((x13).length : Int)) ∧ fq 28 = (Value.int .i64 (k74 : Int)) ∧ fq 33 = u15 ∧ fq 34 = (Value.int .i64 ((x13).length : Int)) ∧ fq 35 = Value.int .i64 (k : Int) ∧ InR .i64 (k : Int) ∧ St wd2 wq [bx b9 [(Value.slice none 0 0)], (Ty.sl (Ty.i .i64)).at u15 x13, (Ty.sl (Ty.sl (Ty.sl (Ty.i .i64)))).at u29 s, bx b34 [u29]]) hres109 ⟨hf84, hf85, hf86, hf87, hf88, hf89, rfl, rfl, hf90, hf91, hf92, hf93, hf94, hf95, rfl, rfl, rfl, (inL rfl), hS97⟩ ?_ ?_
            · intro k110 x111 ct112 f113 wd114 hk115 hb116 hI117 hbrk118 hret119
              replace hI117 : f113 2 = (Value.pointer (some ⟨b1, 0, none⟩)) ∧ f113 4 = (Value.pointer (some ⟨b9, 0, none⟩)) ∧ f113 5 = u15 ∧ f113 6 = (Value.pointer (some ⟨b34, 0, none⟩)) ∧ f113 7 = (Value.int .i64 (k43 : Int)) ∧ f113 8 = (Value.int .i64 x64) ∧ f113 9 = (Value.int .i64 (k74 : Int)) ∧ f113 10 = (Value.int .i64 x100) ∧ f113 19 = u15 ∧ f113 20 = (Value.int .i64 ((x13).length : Int)) ∧ f113 21 = (Value.int .i64 (k43 : Int)) ∧ f113 26 = u15 ∧ f113 27 = (Value.int .i64 ((x13).length : Int)) ∧ f113 28 = (Value.int .i64 (k74 : Int)) ∧ f113 33 = u15 ∧ f113 34 = (Value.int .i64 ((x13).length : Int)) ∧ f113 35 = Value.int .i64 (k110 : Int) ∧ InR .i64 (k110 : Int) ∧ St wd2 wd114 [bx b9 [(Value.slice none 0 0)], (Ty.sl (Ty.i .i64)).at u15 x13, (Ty.sl (Ty.sl (Ty.sl (Ty.i .i64)))).at u29 x111, bx b34 [u29]] := hI117
              replace hb116 : p_impl_Ring_ringOf_L3 x13 k43 k74 r_Table x64 x100 set k110 x111 = some ct112 := hb116
              unfold p_impl_Ring_ringOf_L3 at hb116
              obtain ⟨hf120, hf121, hf122, hf123, hf124, hf125, hf126, hf127, hf128, hf129, hf130, hf131, hf132, hf133, hf134, hf135, hf136, hr137, hS138⟩ := hI117
              refine W.seq (W.region ?_)
              refine WL.val (Value.bool (decide ((k110 : Int) < ((x13).length : Int)))) _ (op_lss hf136 hf135) rfl ?_
              have hl139 : (k110 : Int) < ((x13).length : Int) := by omega
              refine WL.nil ?_
              refine W.seq ?_
              refine W.condT (decide ((k110 : Int) < ((x13).length : Int))) rfl (decide_eq_true hl139) ?_
              refine W.skip ?_
              refine W.seq ?_
              refine W.block ?_
              refine W.seq (W.region ?_)
              refine WL.val (Value.int .i64 (k110 : Int)) _ (op_move hf136) rfl ?_
              obtain ⟨x141, hx144, hb116⟩ := bs hb116
              obtain ⟨ha142, hb143, hx144⟩ := idx_some hx144
              refine WL.val (Value.pointer (some (elA u15 ((k110 : Int)).toNat))) _ (op_idx sl_61 (St.rep (t := (Ty.sl (Ty.i .i64))) hS138 1 rfl) hf134 hf136 ha142 hb143) rfl ?_
              obtain ⟨u145, hc146, hr147⟩ := repSl.el (St.rep (t := (Ty.sl (Ty.i .i64))) hS138 1 rfl) hx144
              obtain ⟨rfl, hr147⟩ := hr147
              refine WL.val (Value.int .i64 x141) _ (op_load one_3 rfl hc146) rfl ?_
              refine WL.val (Value.int .i64 (k110 : Int)) _ (op_assign rfl) rfl ?_
              refine WL.val (Value.int .i64 x141) _ (op_assign rfl) rfl ?_
              refine WL.nil ?_
              show W _ _ _ _ _ _
              obtain ⟨x187, hx190, hb116⟩ := bs hb116
              obtain ⟨ha188, hb189, hx190⟩ := idx_some hx190
              obtain ⟨u201, hc202, hr203⟩ := repSl.el (St.rep (t := (Ty.sl (Ty.sl (Ty.sl (Ty.i .i64))))) hS138 2 rfl) hx190
              obtain ⟨x226, hx229, hb116⟩ := bs hb116
              obtain ⟨ha227, hb228, hx229⟩ := idx_some hx229
              obtain ⟨u240, hc241, hr242⟩ := repSl.el hr203 hx229
              obtain ⟨x289, hx292, hb116⟩ := bs hb116
              obtain ⟨ha290, hb291, hx292⟩ := idx_some hx292
              obtain ⟨u303, hc304, hr305⟩ := repSl.el r_r_Table hx292
              obtain ⟨x328, hx331, hb116⟩ := bs hb116
              obtain ⟨ha329, hb330, hx331⟩ := idx_some hx331
              obtain ⟨u342, hc343, hr344⟩ := repSl.el hr305 hx331
              obtain ⟨x367, hx370, hb116⟩ := bs hb116
              obtain ⟨ha368, hb369, hx370⟩ := idx_some hx370
              obtain ⟨u381, hc382, hr383⟩ := repSl.el hr344 hx370
              obtain ⟨rfl, hr383⟩ := hr383
              refine W.drawR mixo 20 [] [fun _ v _ _ => v = (Value.pointer (some ⟨b34, 0, none⟩)), fun _ v _ _ => v = u29, fun _ v _ _ => v = (Value.int .i64 (k43 : Int)) ∧ InR .i64 (k43 : Int), fun _ v _ _ => v = (Value.pointer (some (elA u29 ((k43 : Int)).toNat))), fun _ v _ _ => v = u201, fun _ v _ _ => v = (Value.int .i64 (k74 : Int)) ∧ InR .i64 (k74 : Int), fun _ v _ _ => v = (Value.pointer (some (elA u201 ((k74 : Int)).toNat))), fun _ v _ _ => v = u240, fun _ v _ _ => v = (Value.int .i64 (k110 : Int)) ∧ InR .i64 (k110 : Int), fun _ v _ _ => v = (Value.pointer (some ⟨b1, 0, none⟩)), fun _ v _ _ => v = v_r_Table, fun _ v _ _ => v = (Value.int .i64 x64) ∧ InR .i64 x64, fun _ v _ _ => v = (Value.pointer (some (elA v_r_Table (x64).toNat))), fun _ v _ _ => v = u303, fun _ v _ _ => v = (Value.int .i64 x100) ∧ InR .i64 x100, fun _ v _ _ => v = (Value.pointer (some (elA u303 (x100).toNat))), fun _ v _ _ => v = u342, fun _ v _ _ => v = (Value.int .i64 x141) ∧ InR .i64 x141, fun _ v _ _ => v = (Value.pointer (some (elA u342 (x141).toNat))), fun _ v _ _ => v = (Value.int .i64 x367) ∧ InR .i64 x367] (by kernel_rfl) (by kernel_rfl) ⟨pk, pk, pk, pk, pk, pk, pk, pk, pk, pk, pk, pk, pk, pk, pk, pk, pk, pk, pk, pk, trivial⟩ ⟨?_, ?_, ?_, ?_, ?_, ?_, ?_, ?_, ?_, ?_, ?_, ?_, ?_, ?_, ?_, ?_, ?_, ?_, ?_, ?_, trivial⟩ ?_
              · refine ObX.op rfl fun f148 wd149 he150 hout151 hphi152 => ?_
                have e154 : f148 6 = (Value.pointer (some ⟨b34, 0, none⟩)) := (hout151 6 rfl).trans hf123
                exact OpX.val (Value.pointer (some ⟨b34, 0, none⟩)) wd149 rfl (op_fieldAddr fd_26_0 e154) (Ext.refl _) rfl
              · refine ObX.op rfl fun f155 wd156 he157 hout158 hphi159 => ?_
                have hS160 := St.extend hS138 he157
                obtain ⟨S161, hS162, hf163⟩ := hphi159 0 40 _ rfl rfl rfl
                have e164 : f155 40 = (Value.pointer (some ⟨b34, 0, none⟩)) := hf163
                exact OpX.val u29 wd156 rfl (op_load one_22 e164 (BoxAt.cell (St.boxAt hS160 3 rfl) rfl)) (Ext.refl _) rfl
              · refine ObX.op rfl fun f165 wd166 he167 hout168 hphi169 => ?_
                have e171 : f165 7 = (Value.int .i64 (k43 : Int)) := (hout168 7 rfl).trans hf124
                exact OpX.val (Value.int .i64 (k43 : Int)) wd166 rfl (op_move e171) (Ext.refl _) ⟨rfl, hr60⟩
              · refine ObX.op rfl fun f172 wd173 he174 hout175 hphi176 => ?_
                have hS177 := St.extend hS138 he174
                obtain ⟨S178, hS179, hf180⟩ := hphi176 1 41 _ rfl rfl rfl
                have e181 : f172 41 = u29 := hf180
                obtain ⟨S182, hS183, hf184⟩ := hphi176 2 42 _ rfl rfl rfl
                obtain ⟨e185, hr186⟩ := hf184
                exact OpX.val (Value.pointer (some (elA u29 ((k43 : Int)).toNat))) wd173 rfl (op_idx sl_22 (St.rep (t := (Ty.sl (Ty.sl (Ty.sl (Ty.i .i64))))) hS177 2 rfl) e181 e185 ha188 hb189) (Ext.refl _) rfl
              · refine ObX.op rfl fun f191 wd192 he193 hout194 hphi195 => ?_
                obtain ⟨S197, hS198, hf199⟩ := hphi195 3 43 _ rfl rfl rfl
                have e200 : f191 43 = (Value.pointer (some (elA u29 ((k43 : Int)).toNat))) := hf199
                exact OpX.val u201 wd192 rfl (op_load one_41 e200 (Ext.cell he193 hc202)) (Ext.refl _) rfl
              · refine ObX.op rfl fun f204 wd205 he206 hout207 hphi208 => ?_
                have e210 : f204 9 = (Value.int .i64 (k74 : Int)) := (hout207 9 rfl).trans hf126
                exact OpX.val (Value.int .i64 (k74 : Int)) wd205 rfl (op_move e210) (Ext.refl _) ⟨rfl, hr96⟩
              · refine ObX.op rfl fun f211 wd212 he213 hout214 hphi215 => ?_
                obtain ⟨S217, hS218, hf219⟩ := hphi215 4 44 _ rfl rfl rfl
                have e220 : f211 44 = u201 := hf219
                obtain ⟨S221, hS222, hf223⟩ := hphi215 5 45 _ rfl rfl rfl
                obtain ⟨e224, hr225⟩ := hf223
                exact OpX.val (Value.pointer (some (elA u201 ((k74 : Int)).toNat))) wd212 rfl (op_idx sl_41 (Ty.lift _ he213 hr203) e220 e224 ha227 hb228) (Ext.refl _) rfl
              · refine ObX.op rfl fun f230 wd231 he232 hout233 hphi234 => ?_
                obtain ⟨S236, hS237, hf238⟩ := hphi234 6 46 _ rfl rfl rfl
                have e239 : f230 46 = (Value.pointer (some (elA u201 ((k74 : Int)).toNat))) := hf238
                exact OpX.val u240 wd231 rfl (op_load one_33 e239 (Ext.cell he232 hc241)) (Ext.refl _) rfl
              · refine ObX.op rfl fun f243 wd244 he245 hout246 hphi247 => ?_
                have e249 : f243 11 = (Value.int .i64 (k110 : Int)) := (hout246 11 rfl).trans rfl
                exact OpX.val (Value.int .i64 (k110 : Int)) wd244 rfl (op_move e249) (Ext.refl _) ⟨rfl, hr137⟩
              · refine ObX.op rfl fun f250 wd251 he252 hout253 hphi254 => ?_
                have e256 : f250 2 = (Value.pointer (some ⟨b1, 0, none⟩)) := (hout253 2 rfl).trans hf120
                exact OpX.val (Value.pointer (some ⟨b1, 0, none⟩)) wd251 rfl (op_fieldAddr fd_26_0 e256) (Ext.refl _) rfl
              · refine ObX.op rfl fun f257 wd258 he259 hout260 hphi261 => ?_
                have hS262 := St.extend hS138 he259
                obtain ⟨S263, hS264, hf265⟩ := hphi261 9 49 _ rfl rfl rfl
                have e266 : f257 49 = (Value.pointer (some ⟨b1, 0, none⟩)) := hf265
                exact OpX.val v_r_Table wd258 rfl (op_load one_22 e266 (BoxAt.cell (BoxAt.lift hS262.ext hx6) rfl)) (Ext.refl _) rfl
              · refine ObX.op rfl fun f267 wd268 he269 hout270 hphi271 => ?_
                have e273 : f267 8 = (Value.int .i64 x64) := (hout270 8 rfl).trans hf125
                exact OpX.val (Value.int .i64 x64) wd268 rfl (op_move e273) (Ext.refl _) ⟨rfl, hr70⟩
              · refine ObX.op rfl fun f274 wd275 he276 hout277 hphi278 => ?_
                have hS279 := St.extend hS138 he276
                obtain ⟨S280, hS281, hf282⟩ := hphi278 10 50 _ rfl rfl rfl
                have e283 : f274 50 = v_r_Table := hf282
                obtain ⟨S284, hS285, hf286⟩ := hphi278 11 51 _ rfl rfl rfl
                obtain ⟨e287, hr288⟩ := hf286
                exact OpX.val (Value.pointer (some (elA v_r_Table (x64).toNat))) wd275 rfl (op_idx sl_22 (Ty.lift _ (Ext.trans hE7 hS279.ext) r_r_Table) e283 e287 ha290 hb291) (Ext.refl _) rfl
              · refine ObX.op rfl fun f293 wd294 he295 hout296 hphi297 => ?_
                have hS298 := St.extend hS138 he295
                obtain ⟨S299, hS300, hf301⟩ := hphi297 12 52 _ rfl rfl rfl
                have e302 : f293 52 = (Value.pointer (some (elA v_r_Table (x64).toNat))) := hf301
                exact OpX.val u303 wd294 rfl (op_load one_41 e302 (Ext.cell (Ext.trans hE7 hS298.ext) hc304)) (Ext.refl _) rfl
              · refine ObX.op rfl fun f306 wd307 he308 hout309 hphi310 => ?_
                have e312 : f306 10 = (Value.int .i64 x100) := (hout309 10 rfl).trans hf127
                exact OpX.val (Value.int .i64 x100) wd307 rfl (op_move e312) (Ext.refl _) ⟨rfl, hr106⟩
              · refine ObX.op rfl fun f313 wd314 he315 hout316 hphi317 => ?_
                have hS318 := St.extend hS138 he315
                obtain ⟨S319, hS320, hf321⟩ := hphi317 13 53 _ rfl rfl rfl
                have e322 : f313 53 = u303 := hf321
                obtain ⟨S323, hS324, hf325⟩ := hphi317 14 54 _ rfl rfl rfl
                obtain ⟨e326, hr327⟩ := hf325
                exact OpX.val (Value.pointer (some (elA u303 (x100).toNat))) wd314 rfl (op_idx sl_41 (Ty.lift _ (Ext.trans hE7 hS318.ext) hr305) e322 e326 ha329 hb330) (Ext.refl _) rfl
              · refine ObX.op rfl fun f332 wd333 he334 hout335 hphi336 => ?_
                have hS337 := St.extend hS138 he334
                obtain ⟨S338, hS339, hf340⟩ := hphi336 15 55 _ rfl rfl rfl
                have e341 : f332 55 = (Value.pointer (some (elA u303 (x100).toNat))) := hf340
                exact OpX.val u342 wd333 rfl (op_load one_33 e341 (Ext.cell (Ext.trans hE7 hS337.ext) hc343)) (Ext.refl _) rfl
              · refine ObX.op rfl fun f345 wd346 he347 hout348 hphi349 => ?_
                have e351 : f345 12 = (Value.int .i64 x141) := (hout348 12 rfl).trans rfl
                exact OpX.val (Value.int .i64 x141) wd346 rfl (op_move e351) (Ext.refl _) ⟨rfl, hr147⟩
              · refine ObX.op rfl fun f352 wd353 he354 hout355 hphi356 => ?_
                have hS357 := St.extend hS138 he354
                obtain ⟨S358, hS359, hf360⟩ := hphi356 16 56 _ rfl rfl rfl
                have e361 : f352 56 = u342 := hf360
                obtain ⟨S362, hS363, hf364⟩ := hphi356 17 57 _ rfl rfl rfl
                obtain ⟨e365, hr366⟩ := hf364
                exact OpX.val (Value.pointer (some (elA u342 (x141).toNat))) wd353 rfl (op_idx sl_33 (Ty.lift _ (Ext.trans hE7 hS357.ext) hr344) e361 e365 ha368 hb369) (Ext.refl _) rfl
              · refine ObX.op rfl fun f371 wd372 he373 hout374 hphi375 => ?_
                have hS376 := St.extend hS138 he373
                obtain ⟨S377, hS378, hf379⟩ := hphi375 18 58 _ rfl rfl rfl
                have e380 : f371 58 = (Value.pointer (some (elA u342 (x141).toNat))) := hf379
                exact OpX.val (Value.int .i64 x367) wd372 rfl (op_load one_2 e380 (Ext.cell (Ext.trans hE7 hS376.ext) hc382)) (Ext.refl _) ⟨rfl, hr383⟩
              · intro f384 wd385 Ss386 he387 hout388 hSn389 hSd390 hphi391
                show WL _ _ _ _ _ _ _
                have hS392 := St.extend hS138 he387
                have e393 : f384 47 = u240 := hphi391 7 47 _ (by decide) rfl rfl
                obtain ⟨e394, hr395⟩ := hphi391 8 48 _ (by decide) rfl rfl
                obtain ⟨e396, hr397⟩ := hphi391 19 59 _ (by decide) rfl rfl
                have e398 : f384 2 = (Value.pointer (some ⟨b1, 0, none⟩)) := (hout388 2 rfl).trans hf120
                have e399 : f384 4 = (Value.pointer (some ⟨b9, 0, none⟩)) := (hout388 4 rfl).trans hf121
                have e400 : f384 5 = u15 := (hout388 5 rfl).trans hf122
                have e401 : f384 6 = (Value.pointer (some ⟨b34, 0, none⟩)) := (hout388 6 rfl).trans hf123
                have e402 : f384 7 = (Value.int .i64 (k43 : Int)) := (hout388 7 rfl).trans hf124
                have e403 : f384 8 = (Value.int .i64 x64) := (hout388 8 rfl).trans hf125
                have e404 : f384 9 = (Value.int .i64 (k74 : Int)) := (hout388 9 rfl).trans hf126
                have e405 : f384 10 = (Value.int .i64 x100) := (hout388 10 rfl).trans hf127
                have e406 : f384 19 = u15 := (hout388 19 rfl).trans hf128
                have e407 : f384 20 = (Value.int .i64 ((x13).length : Int)) := (hout388 20 rfl).trans hf129
                have e408 : f384 21 = (Value.int .i64 (k43 : Int)) := (hout388 21 rfl).trans hf130
                have e409 : f384 26 = u15 := (hout388 26 rfl).trans hf131
                have e410 : f384 27 = (Value.int .i64 ((x13).length : Int)) := (hout388 27 rfl).trans hf132
                have e411 : f384 28 = (Value.int .i64 (k74 : Int)) := (hout388 28 rfl).trans hf133
                have e412 : f384 33 = u15 := (hout388 33 rfl).trans hf134
                have e413 : f384 34 = (Value.int .i64 ((x13).length : Int)) := (hout388 34 rfl).trans hf135
                have e414 : f384 35 = (Value.int .i64 (k110 : Int)) := (hout388 35 rfl).trans hf136
                obtain ⟨x415, hx418, hb116⟩ := bs hb116
                obtain ⟨ha416, hb417, hx418⟩ := idx_some hx418
                refine WL.val (Value.pointer (some (elA u240 ((k110 : Int)).toNat))) _ (op_idx sl_33 (Ty.lift _ he387 hr242) e393 e394 ha416 hb417) rfl ?_
                refine WL.storeEl3 (flat_i .i64) hS392 (k := 2) rfl sz_2 hx190 hx229 (Ext.cell he387 hc202) (Ext.cell he387 hc241) rfl e396 (lt_of_idx ha416 hb417) ⟨rfl, hr397⟩ ?_
                intro wd419 hS420
                replace hS420 : St wd2 wd419 [bx b9 [(Value.slice none 0 0)], (Ty.sl (Ty.i .i64)).at u15 x13, (Ty.sl (Ty.sl (Ty.sl (Ty.i .i64)))).at u29 ((x111).set ((k43 : Int)).toNat ((x187).set ((k74 : Int)).toNat ((x226).set ((k110 : Int)).toNat x367))), bx b34 [u29]] := hS420
                refine WL.nil ?_
                show W _ _ _ _ _ _
                refine W.region ?_
                refine WL.val (Value.int .i64 (w64 ((k110 : Int) + (1 : Int)))) _ (op_add e414 rfl) rfl ?_
                refine WL.val (Value.int .i64 (w64 ((k110 : Int) + (1 : Int)))) _ (op_move rfl) rfl ?_
                refine WL.nil ?_
                obtain rfl := Option.some.inj hb116
                show ∃ s, _ = Ctl.next s ∧ _
                exact ⟨_, rfl, e398, e399, e400, e401, e402, e403, e404, e405, e406, e407, e408, e409, e410, e411, e412, e413, (ctr_next hl139 hr107), (ctr_rng hl139 hr107), hS420⟩
            · intro x427 f422 wd423 hs424 hI425
              replace hI425 : f422 2 = (Value.pointer (some ⟨b1, 0, none⟩)) ∧ f422 4 = (Value.pointer (some ⟨b9, 0, none⟩)) ∧ f422 5 = u15 ∧ f422 6 = (Value.pointer (some ⟨b34, 0, none⟩)) ∧ f422 7 = (Value.int .i64 (k43 : Int)) ∧ f422 8 = (Value.int .i64 x64) ∧ f422 9 = (Value.int .i64 (k74 : Int)) ∧ f422 10 = (Value.int .i64 x100) ∧ f422 19 = u15 ∧ f422 20 = (Value.int .i64 ((x13).length : Int)) ∧ f422 21 = (Value.int .i64 (k43 : Int)) ∧ f422 26 = u15 ∧ f422 27 = (Value.int .i64 ((x13).length : Int)) ∧ f422 28 = (Value.int .i64 (k74 : Int)) ∧ f422 33 = u15 ∧ f422 34 = (Value.int .i64 ((x13).length : Int)) ∧ f422 35 = Value.int .i64 (((x13).length : Nat) : Int) ∧ InR .i64 (((x13).length : Nat) : Int) ∧ St wd2 wd423 [bx b9 [(Value.slice none 0 0)], (Ty.sl (Ty.i .i64)).at u15 x13, (Ty.sl (Ty.sl (Ty.sl (Ty.i .i64)))).at u29 x427, bx b34 [u29]] := hI425
              obtain ⟨hf428, hf429, hf430, hf431, hf432, hf433, hf434, hf435, hf436, hf437, hf438, hf439, hf440, hf441, hf442, hf443, hf444, hr445, hS446⟩ := hI425
              refine W.seq (W.region ?_)
              refine WL.val (Value.bool (decide ((((x13).length : Nat) : Int) < ((x13).length : Int)))) _ (op_lss hf444 hf443) rfl ?_
              have hl447 : ¬ (((x13).length : Nat) : Int) < ((x13).length : Int) := by omega
              refine WL.nil ?_
              refine W.seq ?_
              refine W.condF (decide ((((x13).length : Nat) : Int) < ((x13).length : Int))) rfl (decide_eq_false hl447) ?_
              refine W.exit ?_
              show _ = _ ∧ _
              exact ⟨rfl, _, hs424, hf428, hf429, hf430, hf431, hf432, hf433, hf436, hf437, hf438, hf439, hf440, hf441, hS446⟩
          · rintro f448 wd449 ⟨x452, rfl, hq450⟩
            replace hb80 := onRes_fin hb80
            replace hq450 : f448 2 = (Value.pointer (some ⟨b1, 0, none⟩)) ∧ f448 4 = (Value.pointer (some ⟨b9, 0, none⟩)) ∧ f448 5 = u15 ∧ f448 6 = (Value.pointer (some ⟨b34, 0, none⟩)) ∧ f448 7 = (Value.int .i64 (k43 : Int)) ∧ f448 8 = (Value.int .i64 x64) ∧ f448 19 = u15 ∧ f448 20 = (Value.int .i64 ((x13).length : Int)) ∧ f448 21 = (Value.int .i64 (k43 : Int)) ∧ f448 26 = u15 ∧ f448 27 = (Value.int .i64 ((x13).length : Int)) ∧ f448 28 = (Value.int .i64 (k74 : Int)) ∧ St wd2 wd449 [bx b9 [(Value.slice none 0 0)], (Ty.sl (Ty.i .i64)).at u15 x13, (Ty.sl (Ty.sl (Ty.sl (Ty.i .i64)))).at u29 x452, bx b34 [u29]] := hq450
            obtain ⟨hf453, hf454, hf455, hf456, hf457, hf458, hf459, hf460, hf461, hf462, hf463, hf464, hS465⟩ := hq450
            show W _ _ _ _ _ _
            refine W.region ?_
            refine WL.val (Value.int .i64 (w64 ((k74 : Int) + (1 : Int)))) _ (op_add hf464 rfl) rfl ?_
            refine WL.val (Value.int .i64 (w64 ((k74 : Int) + (1 : Int)))) _ (op_move rfl) rfl ?_
            refine WL.nil ?_
            obtain rfl := Option.some.inj hb80
            show ∃ s, _ = Ctl.next s ∧ _
            exact ⟨_, rfl, hf453, hf454, hf455, hf456, hf457, hf458, hf459, hf460, hf461, hf462, hf463, (ctr_next hl98 hr71), (ctr_rng hl98 hr71), hS465⟩
        · intro x473 f468 wd469 hs470 hI471
          replace hI471 : f468 2 = (Value.pointer (some ⟨b1, 0, none⟩)) ∧ f468 4 = (Value.pointer (some ⟨b9, 0, none⟩)) ∧ f468 5 = u15 ∧ f468 6 = (Value.pointer (some ⟨b34, 0, none⟩)) ∧ f468 7 = (Value.int .i64 (k43 : Int)) ∧ f468 8 = (Value.int .i64 x64) ∧ f468 19 = u15 ∧ f468 20 = (Value.int .i64 ((x13).length : Int)) ∧ f468 21 = (Value.int .i64 (k43 : Int)) ∧ f468 26 = u15 ∧ f468 27 = (Value.int .i64 ((x13).length : Int)) ∧ f468 28 = Value.int .i64 (((x13).length : Nat) : Int) ∧ InR .i64 (((x13).length : Nat) : Int) ∧ St wd2 wd469 [bx b9 [(Value.slice none 0 0)], (Ty.sl (Ty.i .i64)).at u15 x13, (Ty.sl (Ty.sl (Ty.sl (Ty.i .i64)))).at u29 x473, bx b34 [u29]] := hI471
          obtain ⟨hf474, hf475, hf476, hf477, hf478, hf479, hf480, hf481, hf482, hf483, hf484, hf485, hr486, hS487⟩ := hI471
          refine W.seq (W.region ?_)
          refine WL.val (Value.bool (decide ((((x13).length : Nat) : Int) < ((x13).length : Int)))) _ (op_lss hf485 hf484) rfl ?_
          have hl488 : ¬ (((x13).length : Nat) : Int) < ((x13).length : Int) := by omega
          refine WL.nil ?_
          refine W.seq ?_
          refine W.condF (decide ((((x13).length : Nat) : Int) < ((x13).length : Int))) rfl (decide_eq_false hl488) ?_
          refine W.exit ?_
          show _ = _ ∧ _
          exact ⟨rfl, _, hs470, hf474, hf475, hf476, hf477, hf480, hf481, hf482, hS487⟩
      · rintro f489 wd490 ⟨x493, rfl, hq491⟩
        replace hb49 := onRes_fin hb49
        replace hq491 : f489 2 = (Value.pointer (some ⟨b1, 0, none⟩)) ∧ f489 4 = (Value.pointer (some ⟨b9, 0, none⟩)) ∧ f489 5 = u15 ∧ f489 6 = (Value.pointer (some ⟨b34, 0, none⟩)) ∧ f489 19 = u15 ∧ f489 20 = (Value.int .i64 ((x13).length : Int)) ∧ f489 21 = (Value.int .i64 (k43 : Int)) ∧ St wd2 wd490 [bx b9 [(Value.slice none 0 0)], (Ty.sl (Ty.i .i64)).at u15 x13, (Ty.sl (Ty.sl (Ty.sl (Ty.i .i64)))).at u29 x493, bx b34 [u29]] := hq491
        obtain ⟨hf494, hf495, hf496, hf497, hf498, hf499, hf500, hS501⟩ := hq491
        show W _ _ _ _ _ _
        refine W.region ?_
        refine WL.val (Value.int .i64 (w64 ((k43 : Int) + (1 : Int)))) _ (op_add hf500 rfl) rfl ?_
        refine WL.val (Value.int .i64 (w64 ((k43 : Int) + (1 : Int)))) _ (op_move rfl) rfl ?_
        refine WL.nil ?_
        obtain rfl := Option.some.inj hb49
        show ∃ s, _ = Ctl.next s ∧ _
        exact ⟨_, rfl, hf494, hf495, hf496, hf497, hf498, hf499, (ctr_next hl62 hr40), (ctr_rng hl62 hr40), hS501⟩
    · intro x509 f504 wd505 hs506 hI507
      replace hI507 : f504 2 = (Value.pointer (some ⟨b1, 0, none⟩)) ∧ f504 4 = (Value.pointer (some ⟨b9, 0, none⟩)) ∧ f504 5 = u15 ∧ f504 6 = (Value.pointer (some ⟨b34, 0, none⟩)) ∧ f504 19 = u15 ∧ f504 20 = (Value.int .i64 ((x13).length : Int)) ∧ f504 21 = Value.int .i64 (((x13).length : Nat) : Int) ∧ InR .i64 (((x13).length : Nat) : Int) ∧ St wd2 wd505 [bx b9 [(Value.slice none 0 0)], (Ty.sl (Ty.i .i64)).at u15 x13, (Ty.sl (Ty.sl (Ty.sl (Ty.i .i64)))).at u29 x509, bx b34 [u29]] := hI507
      obtain ⟨hf510, hf511, hf512, hf513, hf514, hf515, hf516, hr517, hS518⟩ := hI507
      refine W.seq (W.region ?_)
      refine WL.val (Value.bool (decide ((((x13).length : Nat) : Int) < ((x13).length : Int)))) _ (op_lss hf516 hf515) rfl ?_
      have hl519 : ¬ (((x13).length : Nat) : Int) < ((x13).length : Int) := by omega
      refine WL.nil ?_
      refine W.seq ?_
      refine W.condF (decide ((((x13).length : Nat) : Int) < ((x13).length : Int))) rfl (decide_eq_false hl519) ?_
      refine W.exit ?_
      show _ = _ ∧ _
      exact ⟨rfl, _, hs506, hf511, hf513, (St.pick hS518 [0, 2, 3] rfl)⟩
  · rintro f520 wd521 ⟨x524, rfl, hq522⟩
    replace h := onRes_fin h
    replace hq522 : f520 4 = (Value.pointer (some ⟨b9, 0, none⟩)) ∧ f520 6 = (Value.pointer (some ⟨b34, 0, none⟩)) ∧ St wd2 wd521 [bx b9 [(Value.slice none 0 0)], (Ty.sl (Ty.sl (Ty.sl (Ty.i .i64)))).at u29 x524, bx b34 [u29]] := hq522
    obtain ⟨hf525, hf526, hS527⟩ := hq522
    refine W.seq (W.region ?_)
    refine WL.val (Value.agg #[u29]) _ (op_loadBox st_26 hf526 (St.boxAt hS527 2 rfl) rfl rfl) rfl ?_
    refine WL.storeBox [u29] hS527 (k := 0) rfl hf525 rfl (us := [u29]) rfl sz_26 rfl rfl (all_rep (St.rep (t := (Ty.sl (Ty.sl (Ty.sl (Ty.i .i64))))) hS527 1 rfl) all_nil) rfl ?_
    intro wd528 hS529
    replace hS529 : St wd2 wd528 [bx b9 [u29], (Ty.sl (Ty.sl (Ty.sl (Ty.i .i64)))).at u29 x524, bx b34 [u29]] := hS529
    refine WL.nil ?_
    refine W.ret ?_
    obtain rfl := Option.some.inj h
    show FinP _ _ _ _ _ _ _
    exact FinP.ret _ (resC rfl hf525 st_26 (St.boxAt hS529 0 rfl) rfl) ⟨u29, rfl, (Ext.trans hE7 hS529.ext), (St.out (St.pick hS529 [1] rfl) (hE7))⟩

theorem c_impl_RingOfSubring {w : World} {r_Table : (List (List (List Int)))} {v_r_Table : Value} {set : Int} (tb : TabAt w) (r_r_Table : (Ty.sl (Ty.sl (Ty.sl (Ty.i .i64)))).rep w v_r_Table r_Table) (r_set : InR .i64 set) {res : (List (List (List Int))) × Int} (h : p_impl_RingOfSubring r_Table set  = some res) :
    Ret Tryd.prog 11 #[(Value.agg #[v_r_Table]), (Value.int .i64 set)] w (fun v w' => ∃ (u0 : Value), v = (Value.tuple #[(Value.agg #[u0]), Value.int .i64 res.2]) ∧ InR .i64 res.2 ∧ Ext w w' ∧ Sep w.heap.size w' [(Ty.sl (Ty.sl (Ty.sl (Ty.i .i64)))).at u0 res.1]) := by
  unfold p_impl_RingOfSubring at h
  have hS0 : St w w [] := St.start w
  refine Ret.start (fn := Tryd.f11) Tryd.func11 rfl 23 rfl rfl ?_
  refine W.seq (W.region ?_)
  refine WL.box hS0 rfl (cs := [v_r_Table]) rfl rfl ?_
  intro b1 wd2 hS3 he4 hx5
  replace hS3 : St w wd2 [bx b1 [v_r_Table]] := hS3
  have hx6 := St.boxAt hS3 0 rfl
  have hE7 : Ext w wd2 := hS3.ext
  have hS8 : St wd2 wd2 [] := St.start wd2
  refine WL.alloc hS8 ze_26 (cs := [(Value.slice none 0 0)]) rfl rfl ?_
  intro b9 wd10 hS11 he12
  replace hS11 : St wd2 wd10 [bx b9 [(Value.slice none 0 0)]] := hS11
  refine WL.val (Value.int .i64 (0 : Int)) _ (op_assign rfl) rfl ?_
  refine WL.nil ?_
  refine W.seq (W.seq (W.region ?_))
  refine WL.val (Value.agg #[v_r_Table]) _ (op_loadBox st_26 rfl (BoxAt.lift hS11.ext hx6) rfl rfl) rfl ?_
  refine WL.val (Value.int .i64 set) _ (op_move rfl) rfl ?_
  obtain ⟨x13, hx14, h⟩ := bs h
  refine WL.call _ (op_call fn_34 (args2 rfl rfl)) (c_impl_setCode (Ty.lift _ (Ext.trans hE7 hS11.ext) r_r_Table) r_set hx14) rfl ?_
  rintro _ wd16 ⟨rfl, hr15, he17⟩
  have hS19 := St.extend hS11 he17
  replace hS19 : St wd2 wd16 [bx b9 [(Value.slice none 0 0)]] := hS19
  refine WL.val (Value.int .i64 x13) _ (op_assign rfl) rfl ?_
  refine WL.nil ?_
  refine W.seq (W.region ?_)
  refine WL.val (Value.int .i64 x13) _ (op_move rfl) rfl ?_
  refine WL.val (Value.bool (x13 != (0 : Int))) _ (op_neq rfl rfl) rfl ?_
  refine WL.nil ?_
  refine W.cond (x13 != (0 : Int)) rfl (fun hc20 => ?_) (fun hc20 => ?_)
  · replace h := ip h hc20
    refine W.seq (W.region ?_)
    refine WL.val (Value.agg #[(Value.slice none 0 0)]) _ (op_build bd_26 (parts := []) (partsL trivial) trivial rfl) rfl ?_
    refine WL.val (Value.int .i64 x13) _ (op_move rfl) rfl ?_
    have hS24 := St.addNil (Ty.sl (Ty.sl (Ty.i .i64))) hS19
    replace hS24 : St wd2 wd16 [bx b9 [(Value.slice none 0 0)], (Ty.sl (Ty.sl (Ty.sl (Ty.i .i64)))).at (Value.slice none 0 0) ([] : (List (List (List Int))))] := hS24
    refine WL.storeBox [(Value.slice none 0 0)] hS24 (k := 0) rfl rfl rfl (us := [(Value.slice none 0 0)]) rfl sz_26 rfl rfl (all_rep (St.rep (t := (Ty.sl (Ty.sl (Ty.sl (Ty.i .i64))))) hS24 1 rfl) all_nil) rfl ?_
    intro wd22 hS23
    replace hS23 : St wd2 wd22 [bx b9 [(Value.slice none 0 0)], (Ty.sl (Ty.sl (Ty.sl (Ty.i .i64)))).at (Value.slice none 0 0) ([] : (List (List (List Int))))] := hS23
    refine WL.val (Value.int .i64 x13) _ (op_assign rfl) rfl ?_
    refine WL.nil ?_
    refine W.ret ?_
    obtain rfl := Option.some.inj h
    show FinP _ _ _ _ _ _ _
    exact FinP.ret _ (resCT rfl rfl st_26 (St.boxAt hS23 0 rfl) rfl rfl) ⟨(Value.slice none 0 0), rfl, hr15, (Ext.trans hE7 hS23.ext), (St.out (St.pick hS23 [1] rfl) (hE7))⟩
  · replace h := inegb h hc20
    refine W.skip ?_
    refine W.seq (W.seq (W.region ?_))
    refine WL.val (Value.agg #[v_r_Table]) _ (op_loadBox st_26 rfl (BoxAt.lift hS19.ext hx6) rfl rfl) rfl ?_
    refine WL.val (Value.int .i64 set) _ (op_move rfl) rfl ?_
    obtain ⟨x25, hx26, h⟩ := bs h
    refine WL.call _ (op_call fn_35 (args2 rfl rfl)) (c_impl_Ring_closed (tb.ext (Ext.trans hE7 hS19.ext)) (Ty.lift _ (Ext.trans hE7 hS19.ext) r_r_Table) r_set hx26) rfl ?_
    rintro _ wd28 ⟨rfl, hr27, he29⟩
    have hS31 := St.extend hS19 he29
    replace hS31 : St wd2 wd28 [bx b9 [(Value.slice none 0 0)]] := hS31
    refine WL.val (Value.int .i64 set) _ (op_move rfl) rfl ?_
    refine WL.val (Value.bool (x25 != set)) _ (op_neq rfl rfl) rfl ?_
    refine WL.nil ?_
    refine W.cond (x25 != set) rfl (fun hc32 => ?_) (fun hc32 => ?_)
    · replace h := ip h hc32
      refine W.seq (W.region ?_)
      refine WL.val (Value.agg #[(Value.slice none 0 0)]) _ (op_build bd_26 (parts := []) (partsL trivial) trivial rfl) rfl ?_
      have hS36 := St.addNil (Ty.sl (Ty.sl (Ty.i .i64))) hS31
      replace hS36 : St wd2 wd28 [bx b9 [(Value.slice none 0 0)], (Ty.sl (Ty.sl (Ty.sl (Ty.i .i64)))).at (Value.slice none 0 0) ([] : (List (List (List Int))))] := hS36
      refine WL.storeBox [(Value.slice none 0 0)] hS36 (k := 0) rfl rfl rfl (us := [(Value.slice none 0 0)]) rfl sz_26 rfl rfl (all_rep (St.rep (t := (Ty.sl (Ty.sl (Ty.sl (Ty.i .i64))))) hS36 1 rfl) all_nil) rfl ?_
      intro wd34 hS35
      replace hS35 : St wd2 wd34 [bx b9 [(Value.slice none 0 0)], (Ty.sl (Ty.sl (Ty.sl (Ty.i .i64)))).at (Value.slice none 0 0) ([] : (List (List (List Int))))] := hS35
      refine WL.val (Value.int .i64 (5 : Int)) _ (op_assign rfl) rfl ?_
      refine WL.nil ?_
      refine W.ret ?_
      obtain rfl := Option.some.inj h
      show FinP _ _ _ _ _ _ _
      exact FinP.ret _ (resCT rfl rfl st_26 (St.boxAt hS35 0 rfl) rfl rfl) ⟨(Value.slice none 0 0), rfl, (inL rfl), (Ext.trans hE7 hS35.ext), (St.out (St.pick hS35 [1] rfl) (hE7))⟩
    · replace h := inegb h hc32
      refine W.skip ?_
      refine W.seq (W.region ?_)
      refine WL.val (Value.agg #[v_r_Table]) _ (op_loadBox st_26 rfl (BoxAt.lift hS31.ext hx6) rfl rfl) rfl ?_
      refine WL.val (Value.int .i64 set) _ (op_move rfl) rfl ?_
      obtain ⟨x37, hx38, h⟩ := bs h
      refine WL.call _ (op_call fn_36 (args2 rfl rfl)) (c_impl_Ring_ringOf (tb.ext (Ext.trans hE7 hS31.ext)) (Ty.lift _ (Ext.trans hE7 hS31.ext) r_r_Table) r_set hx38) rfl ?_
      rintro _ wd40 ⟨u39, rfl, he41, hs42⟩
      have hS43 := St.join hS31 he41 hs42
      replace hS43 : St wd2 wd40 [bx b9 [(Value.slice none 0 0)], (Ty.sl (Ty.sl (Ty.sl (Ty.i .i64)))).at u39 x37] := hS43
      refine WL.storeBox [u39] hS43 (k := 0) rfl rfl rfl (us := [u39]) rfl sz_26 rfl rfl (all_rep (St.rep (t := (Ty.sl (Ty.sl (Ty.sl (Ty.i .i64))))) hS43 1 rfl) all_nil) rfl ?_
      intro wd44 hS45
      replace hS45 : St wd2 wd44 [bx b9 [u39], (Ty.sl (Ty.sl (Ty.sl (Ty.i .i64)))).at u39 x37] := hS45
      refine WL.val (Value.int .i64 (0 : Int)) _ (op_assign rfl) rfl ?_
      refine WL.nil ?_
      refine W.ret ?_
      obtain rfl := Option.some.inj h
      show FinP _ _ _ _ _ _ _
      exact FinP.ret _ (resCT rfl rfl st_26 (St.boxAt hS45 0 rfl) rfl rfl) ⟨u39, rfl, (inL rfl), (Ext.trans hE7 hS45.ext), (St.out (St.pick hS45 [1] rfl) (hE7))⟩

theorem c_laws_eqInt64S {w : World} {a : (List Int)} {v_a : Value} {b : (List Int)} {v_b : Value} (r_a : (Ty.sl (Ty.i .i64)).rep w v_a a) (r_b : (Ty.sl (Ty.i .i64)).rep w v_b b) {res : Bool} (h : p_laws_eqInt64S a b  = some res) :
    Ret Tryd.prog 17 #[v_a, v_b] w (fun v w' => v = Value.bool res ∧ Ext w w') := by
  unfold p_laws_eqInt64S at h
  have hS0 : St w w [] := St.start w
  refine Ret.start (fn := Tryd.f17) Tryd.func17 rfl 26 rfl rfl ?_
  refine W.seq (W.region ?_)
  refine WL.val (Value.bool false) _ (op_assign rfl) rfl ?_
  refine WL.nil ?_
  refine W.seq (W.seq (W.region ?_))
  refine WL.val v_a _ (op_move rfl) rfl ?_
  have hr1 := inR_len (Ty.lift _ hS0.ext r_a)
  refine WL.val (Value.int .i64 ((a).length : Int)) _ (op_lenL sl_33 (Ty.lift _ hS0.ext r_a) rfl) rfl ?_
  refine WL.val v_b _ (op_move rfl) rfl ?_
  have hr2 := inR_len (Ty.lift _ hS0.ext r_b)
  refine WL.val (Value.int .i64 ((b).length : Int)) _ (op_lenL sl_33 (Ty.lift _ hS0.ext r_b) rfl) rfl ?_
  refine WL.val (Value.bool (((a).length : Int) != ((b).length : Int))) _ (op_neq rfl rfl) rfl ?_
  refine WL.nil ?_
  refine W.cond (((a).length : Int) != ((b).length : Int)) rfl (fun hc3 => ?_) (fun hc3 => ?_)
  · replace h := ip h hc3
    refine W.seq (W.region ?_)
    refine WL.val (Value.bool false) _ (op_assign rfl) rfl ?_
    refine WL.nil ?_
    refine W.ret ?_
    obtain rfl := Option.some.inj h
    show FinP _ _ _ _ _ _ _
    exact FinP.ret _ (res1 rfl rfl) ⟨rfl, hS0.ext⟩
  · replace h := inegb h hc3
    refine W.skip ?_
    refine W.seq (W.seq (W.region ?_))
    refine WL.val (Value.int .i64 (0 : Int)) _ (op_assign rfl) rfl ?_
    refine WL.nil ?_
    show W _ _ _ _ _ _
    obtain ⟨res5, hres6, h⟩ := bs h
    refine W.blockLoop (fun fq wq => ∃ s, res5 = Res.fin s ∧ St w wq []) ?_ ?_
    · refine W.forN (fun k (s : Unit) fq wq => fq 0 = v_a ∧ fq 1 = v_b ∧ fq 5 = Value.int .i64 (k : Int) ∧ InR .i64 (k : Int) ∧ St w wq []) hres6 ⟨rfl, rfl, rfl, (inL rfl), hS0⟩ ?_ ?_
      · intro k7 s134 ct8 f9 wd10 hk11 hb12 hI13 hbrk14 hret15
        obtain ⟨⟩ := s134
        replace hI13 : f9 0 = v_a ∧ f9 1 = v_b ∧ f9 5 = Value.int .i64 (k7 : Int) ∧ InR .i64 (k7 : Int) ∧ St w wd10 [] := hI13
        replace hb12 : p_laws_eqInt64S_L1 a b k7  = some ct8 := hb12
        unfold p_laws_eqInt64S_L1 at hb12
        obtain ⟨hf16, hf17, hf18, hr19, hS20⟩ := hI13
        refine W.seq (W.seq (W.region ?_))
        refine WL.val (Value.int .i64 (k7 : Int)) _ (op_move hf18) rfl ?_
        refine WL.val v_a _ (op_move hf16) rfl ?_
        have hr21 := inR_len (Ty.lift _ hS20.ext r_a)
        refine WL.val (Value.int .i64 ((a).length : Int)) _ (op_lenL sl_33 (Ty.lift _ hS20.ext r_a) rfl) rfl ?_
        refine WL.val (Value.bool (decide ((k7 : Int) < ((a).length : Int)))) _ (op_lss rfl rfl) rfl ?_
        have hl22 : (k7 : Int) < ((a).length : Int) := by omega
        refine WL.nil ?_
        refine W.condT (decide ((k7 : Int) < ((a).length : Int))) rfl (decide_eq_true hl22) ?_
        refine W.skip ?_
        refine W.seq ?_
        refine W.block ?_
        refine W.seq ?_
        obtain ⟨x53, hx56, hb12⟩ := bs hb12
        obtain ⟨ha54, hb55, hx56⟩ := idx_some hx56
        obtain ⟨u67, hc68, hr69⟩ := repSl.el r_a hx56
        obtain ⟨rfl, hr69⟩ := hr69
        obtain ⟨x99, hx102, hb12⟩ := bs hb12
        obtain ⟨ha100, hb101, hx102⟩ := idx_some hx102
        obtain ⟨u113, hc114, hr115⟩ := repSl.el r_b hx102
        obtain ⟨rfl, hr115⟩ := hr115
        refine W.drawR mixo 8 [] [fun _ v _ _ => v = v_a, fun _ v _ _ => v = (Value.int .i64 (k7 : Int)) ∧ InR .i64 (k7 : Int), fun _ v _ _ => v = (Value.pointer (some (elA v_a ((k7 : Int)).toNat))), fun _ v _ _ => v = (Value.int .i64 x53) ∧ InR .i64 x53, fun _ v _ _ => v = v_b, fun _ v _ _ => v = (Value.int .i64 (k7 : Int)) ∧ InR .i64 (k7 : Int), fun _ v _ _ => v = (Value.pointer (some (elA v_b ((k7 : Int)).toNat))), fun _ v _ _ => v = (Value.int .i64 x99) ∧ InR .i64 x99] (by kernel_rfl) (by kernel_rfl) ⟨pk, pk, pk, pk, pk, pk, pk, pk, trivial⟩ ⟨?_, ?_, ?_, ?_, ?_, ?_, ?_, ?_, trivial⟩ ?_
        · refine ObX.op rfl fun f24 wd25 he26 hout27 hphi28 => ?_
          have e30 : f24 0 = v_a := (hout27 0 rfl).trans hf16
          exact OpX.val v_a wd25 rfl (op_move e30) (Ext.refl _) rfl
        · refine ObX.op rfl fun f31 wd32 he33 hout34 hphi35 => ?_
          have e37 : f31 5 = (Value.int .i64 (k7 : Int)) := (hout34 5 rfl).trans hf18
          exact OpX.val (Value.int .i64 (k7 : Int)) wd32 rfl (op_move e37) (Ext.refl _) ⟨rfl, hr19⟩
        · refine ObX.op rfl fun f38 wd39 he40 hout41 hphi42 => ?_
          have hS43 := St.extend hS20 he40
          obtain ⟨S44, hS45, hf46⟩ := hphi42 0 17 _ rfl rfl rfl
          have e47 : f38 17 = v_a := hf46
          obtain ⟨S48, hS49, hf50⟩ := hphi42 1 18 _ rfl rfl rfl
          obtain ⟨e51, hr52⟩ := hf50
          exact OpX.val (Value.pointer (some (elA v_a ((k7 : Int)).toNat))) wd39 rfl (op_idx sl_33 (Ty.lift _ hS43.ext r_a) e47 e51 ha54 hb55) (Ext.refl _) rfl
        · refine ObX.op rfl fun f57 wd58 he59 hout60 hphi61 => ?_
          have hS62 := St.extend hS20 he59
          obtain ⟨S63, hS64, hf65⟩ := hphi61 2 19 _ rfl rfl rfl
          have e66 : f57 19 = (Value.pointer (some (elA v_a ((k7 : Int)).toNat))) := hf65
          exact OpX.val (Value.int .i64 x53) wd58 rfl (op_load one_2 e66 (Ext.cell hS62.ext hc68)) (Ext.refl _) ⟨rfl, hr69⟩
        · refine ObX.op rfl fun f70 wd71 he72 hout73 hphi74 => ?_
          have e76 : f70 1 = v_b := (hout73 1 rfl).trans hf17
          exact OpX.val v_b wd71 rfl (op_move e76) (Ext.refl _) rfl
        · refine ObX.op rfl fun f77 wd78 he79 hout80 hphi81 => ?_
          have e83 : f77 5 = (Value.int .i64 (k7 : Int)) := (hout80 5 rfl).trans hf18
          exact OpX.val (Value.int .i64 (k7 : Int)) wd78 rfl (op_move e83) (Ext.refl _) ⟨rfl, hr19⟩
        · refine ObX.op rfl fun f84 wd85 he86 hout87 hphi88 => ?_
          have hS89 := St.extend hS20 he86
          obtain ⟨S90, hS91, hf92⟩ := hphi88 4 21 _ rfl rfl rfl
          have e93 : f84 21 = v_b := hf92
          obtain ⟨S94, hS95, hf96⟩ := hphi88 5 22 _ rfl rfl rfl
          obtain ⟨e97, hr98⟩ := hf96
          exact OpX.val (Value.pointer (some (elA v_b ((k7 : Int)).toNat))) wd85 rfl (op_idx sl_33 (Ty.lift _ hS89.ext r_b) e93 e97 ha100 hb101) (Ext.refl _) rfl
        · refine ObX.op rfl fun f103 wd104 he105 hout106 hphi107 => ?_
          have hS108 := St.extend hS20 he105
          obtain ⟨S109, hS110, hf111⟩ := hphi107 6 23 _ rfl rfl rfl
          have e112 : f103 23 = (Value.pointer (some (elA v_b ((k7 : Int)).toNat))) := hf111
          exact OpX.val (Value.int .i64 x99) wd104 rfl (op_load one_2 e112 (Ext.cell hS108.ext hc114)) (Ext.refl _) ⟨rfl, hr115⟩
        · intro f116 wd117 Ss118 he119 hout120 hSn121 hSd122 hphi123
          show WL _ _ _ _ _ _ _
          have hS124 := St.extend hS20 he119
          obtain ⟨e125, hr126⟩ := hphi123 3 20 _ (by decide) rfl rfl
          obtain ⟨e127, hr128⟩ := hphi123 7 24 _ (by decide) rfl rfl
          have e129 : f116 0 = v_a := (hout120 0 rfl).trans hf16
          have e130 : f116 1 = v_b := (hout120 1 rfl).trans hf17
          have e131 : f116 5 = (Value.int .i64 (k7 : Int)) := (hout120 5 rfl).trans hf18
          refine WL.val (Value.bool (x53 != x99)) _ (op_neq e125 e127) rfl ?_
          refine WL.nil ?_
          refine W.cond (x53 != x99) rfl (fun hc132 => ?_) (fun hc132 => ?_)
          · replace hb12 := ip hb12 hc132
            refine W.seq (W.region ?_)
            refine WL.val (Value.bool false) _ (op_assign rfl) rfl ?_
            refine WL.nil ?_
            refine W.ret ?_
            obtain rfl := Option.some.inj hb12
            obtain rfl := hret15 _ rfl
            replace h := onRes_ret h
            obtain rfl := Option.some.inj h
            show FinP _ _ _ _ _ _ _
            exact FinP.ret _ (res1 rfl rfl) ⟨rfl, hS124.ext⟩
          · replace hb12 := inegb hb12 hc132
            refine W.skip ?_
            show W _ _ _ _ _ _
            refine W.region ?_
            refine WL.val (Value.int .i64 (k7 : Int)) _ (op_move e131) rfl ?_
            refine WL.val (Value.int .i64 (w64 ((k7 : Int) + (1 : Int)))) _ (op_add rfl rfl) rfl ?_
            refine WL.val (Value.int .i64 (w64 ((k7 : Int) + (1 : Int)))) _ (op_assign rfl) rfl ?_
            refine WL.nil ?_
            obtain rfl := Option.some.inj hb12
            show ∃ s, _ = Ctl.next s ∧ _
            exact ⟨_, rfl, e129, e130, (ctr_next hl22 hr21), (ctr_rng hl22 hr21), hS124⟩
      · intro s139 f135 wd136 hs137 hI138
        obtain ⟨⟩ := s139
        replace hI138 : f135 0 = v_a ∧ f135 1 = v_b ∧ f135 5 = Value.int .i64 (((a).length : Nat) : Int) ∧ InR .i64 (((a).length : Nat) : Int) ∧ St w wd136 [] := hI138
        obtain ⟨hf140, hf141, hf142, hr143, hS144⟩ := hI138
        refine W.seq (W.seq (W.region ?_))
        refine WL.val (Value.int .i64 (((a).length : Nat) : Int)) _ (op_move hf142) rfl ?_
        refine WL.val v_a _ (op_move hf140) rfl ?_
        have hr145 := inR_len (Ty.lift _ hS144.ext r_a)
        refine WL.val (Value.int .i64 ((a).length : Int)) _ (op_lenL sl_33 (Ty.lift _ hS144.ext r_a) rfl) rfl ?_
        refine WL.val (Value.bool (decide ((((a).length : Nat) : Int) < ((a).length : Int)))) _ (op_lss rfl rfl) rfl ?_
        have hl146 : ¬ (((a).length : Nat) : Int) < ((a).length : Int) := by omega
        refine WL.nil ?_
        refine W.condF (decide ((((a).length : Nat) : Int) < ((a).length : Int))) rfl (decide_eq_false hl146) ?_
        refine W.exit ?_
        show _ = _ ∧ _
        exact ⟨rfl, _, hs137, hS144⟩
    · rintro f147 wd148 ⟨s150, rfl, hq149⟩
      replace h := onRes_fin h
      obtain ⟨⟩ := s150
      replace hq149 : St w wd148 [] := hq149
      have hS151 := hq149
      refine W.seq (W.region ?_)
      refine WL.val (Value.bool true) _ (op_assign rfl) rfl ?_
      refine WL.nil ?_
      refine W.ret ?_
      obtain rfl := Option.some.inj h
      show FinP _ _ _ _ _ _ _
      exact FinP.ret _ (res1 rfl rfl) ⟨rfl, hS151.ext⟩

end Go.VG
