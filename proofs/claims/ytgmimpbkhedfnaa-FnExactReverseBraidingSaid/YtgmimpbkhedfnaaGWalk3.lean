/- The walks, part 3: each Go function returns what its plain twin returns. No condition beyond what each names. -/
import Derived.Test.YtgmimpbkhedfnaaGWalk2
set_option linter.all false
namespace Go.VG
open Go.Proofs
attribute [local irreducible] W WL Sep FinP

theorem c_impl_Cocycle_fault {w : World} {c_Orders : (List Int)} {v_c_Orders : Value} {c_Modulus : Int} {c_Values : (List (List (List Int)))} {v_c_Values : Value} (r_c_Orders : (Ty.sl (Ty.i .i64)).rep w v_c_Orders c_Orders) (r_c_Modulus : InR .i64 c_Modulus) (r_c_Values : (Ty.sl (Ty.sl (Ty.sl (Ty.i .i64)))).rep w v_c_Values c_Values) {res : (List Int)} (h : p_impl_Cocycle_fault c_Orders c_Modulus c_Values  = some res) :
    Ret Try.prog 72 #[(Value.agg #[v_c_Orders, (Value.int .i64 c_Modulus), v_c_Values])] w (fun v w' => ∃ (u0 : Value), v = u0 ∧ NilIff u0 res ∧ Ext w w' ∧ Sep w.heap.size w' [(Ty.sl (Ty.i .i64)).at u0 res]) := by
  unfold p_impl_Cocycle_fault at h
  have hS0 : St w w [] := St.start w
  refine Ret.start (fn := Try.f72) Try.func72 rfl 107 rfl rfl ?_
  refine W.seq (W.region ?_)
  refine WL.box hS0 rfl (cs := [v_c_Orders, (Value.int .i64 c_Modulus), v_c_Values]) rfl rfl ?_
  intro b1 wd2 hS3 he4 hx5
  replace hS3 : St w wd2 [bx b1 [v_c_Orders, (Value.int .i64 c_Modulus), v_c_Values]] := hS3
  have hx6 := St.boxAt hS3 0 rfl
  have hE7 : Ext w wd2 := hS3.ext
  have hS8 : St wd2 wd2 [] := St.start wd2
  refine WL.val (Value.slice none 0 0) _ (op_assign rfl) rfl ?_
  refine WL.nil ?_
  refine W.seq (W.region ?_)
  refine WL.val (Value.pointer (some ⟨b1, 2, none⟩)) _ (op_fieldAddr fd_34_2 rfl) rfl ?_
  refine WL.val v_c_Values _ (op_load one_23 rfl (BoxAt.cell (BoxAt.lift hS8.ext hx6) rfl)) rfl ?_
  refine WL.val v_c_Values _ (op_assign rfl) rfl ?_
  refine WL.nil ?_
  refine W.seq (W.seq (W.region ?_))
  refine WL.val v_c_Values _ (op_move rfl) rfl ?_
  have hr9 := inR_len (Ty.lift _ (Ext.trans hE7 hS8.ext) r_c_Values)
  refine WL.val (Value.int .i64 ((c_Values).length : Int)) _ (op_lenL sl_23 (Ty.lift _ (Ext.trans hE7 hS8.ext) r_c_Values) rfl) rfl ?_
  refine WL.val (Value.int .i64 (0 : Int)) _ (op_move rfl) rfl ?_
  refine WL.nil ?_
  show W _ _ _ _ _ _
  obtain ⟨res10, hres11, h⟩ := bs h
  refine W.blockLoop (fun fq wq => ∃ s, res10 = Res.fin s ∧ St wd2 wq []) ?_ ?_
  · refine W.forN (fun k (s : Unit) fq wq => fq 1 = (Value.pointer (some ⟨b1, 0, none⟩)) ∧ fq 3 = v_c_Values ∧ fq 12 = (Value.int .i64 ((c_Values).length : Int)) ∧ fq 13 = Value.int .i64 (k : Int) ∧ InR .i64 (k : Int) ∧ St wd2 wq []) hres11 ⟨rfl, rfl, rfl, rfl, (inL rfl), hS8⟩ ?_ ?_
    · intro k12 s1022 ct13 f14 wd15 hk16 hb17 hI18 hbrk19 hret20
      obtain ⟨⟩ := s1022
      replace hI18 : f14 1 = (Value.pointer (some ⟨b1, 0, none⟩)) ∧ f14 3 = v_c_Values ∧ f14 12 = (Value.int .i64 ((c_Values).length : Int)) ∧ f14 13 = Value.int .i64 (k12 : Int) ∧ InR .i64 (k12 : Int) ∧ St wd2 wd15 [] := hI18
      replace hb17 : p_impl_Cocycle_fault_L1 c_Values c_Orders c_Modulus k12  = some ct13 := hb17
      unfold p_impl_Cocycle_fault_L1 at hb17
      obtain ⟨hf21, hf22, hf23, hf24, hr25, hS26⟩ := hI18
      refine W.seq (W.region ?_)
      refine WL.val (Value.bool (decide ((k12 : Int) < ((c_Values).length : Int)))) _ (op_lss hf24 hf23) rfl ?_
      have hl27 : (k12 : Int) < ((c_Values).length : Int) := by omega
      refine WL.nil ?_
      refine W.seq ?_
      refine W.condT (decide ((k12 : Int) < ((c_Values).length : Int))) rfl (decide_eq_true hl27) ?_
      refine W.skip ?_
      refine W.seq ?_
      refine W.block ?_
      refine W.seq (W.region ?_)
      refine WL.val (Value.int .i64 (k12 : Int)) _ (op_move hf24) rfl ?_
      refine WL.val (Value.int .i64 (k12 : Int)) _ (op_assign rfl) rfl ?_
      refine WL.nil ?_
      refine W.seq (W.region ?_)
      refine WL.val v_c_Values _ (op_move hf22) rfl ?_
      have hr29 := inR_len (Ty.lift _ (Ext.trans hE7 hS26.ext) r_c_Values)
      refine WL.val (Value.int .i64 ((c_Values).length : Int)) _ (op_lenL sl_23 (Ty.lift _ (Ext.trans hE7 hS26.ext) r_c_Values) rfl) rfl ?_
      refine WL.val (Value.int .i64 (0 : Int)) _ (op_move rfl) rfl ?_
      refine WL.nil ?_
      show W _ _ _ _ _ _
      obtain ⟨res30, hres31, hb17⟩ := bs hb17
      refine W.blockLoop (fun fq wq => ∃ s, res30 = Res.fin s ∧ fq 1 = (Value.pointer (some ⟨b1, 0, none⟩)) ∧ fq 3 = v_c_Values ∧ fq 12 = (Value.int .i64 ((c_Values).length : Int)) ∧ fq 13 = (Value.int .i64 (k12 : Int)) ∧ St wd2 wq []) ?_ ?_
      · refine W.forN (fun k (s : Unit) fq wq => fq 1 = (Value.pointer (some ⟨b1, 0, none⟩)) ∧ fq 3 = v_c_Values ∧ fq 4 = (Value.int .i64 (k12 : Int)) ∧ fq 12 = (Value.int .i64 ((c_Values).length : Int)) ∧ fq 13 = (Value.int .i64 (k12 : Int)) ∧ fq 17 = (Value.int .i64 ((c_Values).length : Int)) ∧ fq 18 = Value.int .i64 (k : Int) ∧ InR .i64 (k : Int) ∧ St wd2 wq []) hres31 ⟨hf21, hf22, rfl, hf23, hf24, rfl, rfl, (inL rfl), hS26⟩ ?_ ?_
        · intro k32 s996 ct33 f34 wd35 hk36 hb37 hI38 hbrk39 hret40
          obtain ⟨⟩ := s996
          replace hI38 : f34 1 = (Value.pointer (some ⟨b1, 0, none⟩)) ∧ f34 3 = v_c_Values ∧ f34 4 = (Value.int .i64 (k12 : Int)) ∧ f34 12 = (Value.int .i64 ((c_Values).length : Int)) ∧ f34 13 = (Value.int .i64 (k12 : Int)) ∧ f34 17 = (Value.int .i64 ((c_Values).length : Int)) ∧ f34 18 = Value.int .i64 (k32 : Int) ∧ InR .i64 (k32 : Int) ∧ St wd2 wd35 [] := hI38
          replace hb37 : p_impl_Cocycle_fault_L2 c_Values c_Orders c_Modulus k12 k32  = some ct33 := hb37
          unfold p_impl_Cocycle_fault_L2 at hb37
          obtain ⟨hf41, hf42, hf43, hf44, hf45, hf46, hf47, hr48, hS49⟩ := hI38
          refine W.seq (W.region ?_)
          refine WL.val (Value.bool (decide ((k32 : Int) < ((c_Values).length : Int)))) _ (op_lss hf47 hf46) rfl ?_
          have hl50 : (k32 : Int) < ((c_Values).length : Int) := by omega
          refine WL.nil ?_
          refine W.seq ?_
          refine W.condT (decide ((k32 : Int) < ((c_Values).length : Int))) rfl (decide_eq_true hl50) ?_
          refine W.skip ?_
          refine W.seq ?_
          refine W.block ?_
          refine W.seq (W.region ?_)
          refine WL.val (Value.int .i64 (k32 : Int)) _ (op_move hf47) rfl ?_
          refine WL.val (Value.int .i64 (k32 : Int)) _ (op_assign rfl) rfl ?_
          refine WL.nil ?_
          refine W.seq (W.region ?_)
          refine WL.val v_c_Values _ (op_move hf42) rfl ?_
          have hr52 := inR_len (Ty.lift _ (Ext.trans hE7 hS49.ext) r_c_Values)
          refine WL.val (Value.int .i64 ((c_Values).length : Int)) _ (op_lenL sl_23 (Ty.lift _ (Ext.trans hE7 hS49.ext) r_c_Values) rfl) rfl ?_
          refine WL.val (Value.int .i64 (0 : Int)) _ (op_move rfl) rfl ?_
          refine WL.nil ?_
          show W _ _ _ _ _ _
          obtain ⟨res53, hres54, hb37⟩ := bs hb37
          refine W.blockLoop (fun fq wq => ∃ s, res53 = Res.fin s ∧ fq 1 = (Value.pointer (some ⟨b1, 0, none⟩)) ∧ fq 3 = v_c_Values ∧ fq 4 = (Value.int .i64 (k12 : Int)) ∧ fq 12 = (Value.int .i64 ((c_Values).length : Int)) ∧ fq 13 = (Value.int .i64 (k12 : Int)) ∧ fq 17 = (Value.int .i64 ((c_Values).length : Int)) ∧ fq 18 = (Value.int .i64 (k32 : Int)) ∧ St wd2 wq []) ?_ ?_
          · refine W.forN (fun k (s : Unit) fq wq => fq 1 = (Value.pointer (some ⟨b1, 0, none⟩)) ∧ fq 3 = v_c_Values ∧ fq 4 = (Value.int .i64 (k12 : Int)) ∧ fq 5 = (Value.int .i64 (k32 : Int)) ∧ fq 12 = (Value.int .i64 ((c_Values).length : Int)) ∧ fq 13 = (Value.int .i64 (k12 : Int)) ∧ fq 17 = (Value.int .i64 ((c_Values).length : Int)) ∧ fq 18 = (Value.int .i64 (k32 : Int)) ∧ fq 22 = (Value.int .i64 ((c_Values).length : Int)) ∧ fq 23 = Value.int .i64 (k : Int) ∧ InR .i64 (k : Int) ∧ St wd2 wq []) hres54 ⟨hf41, hf42, hf43, rfl, hf44, hf45, hf46, hf47, rfl, rfl, (inL rfl), hS49⟩ ?_ ?_
            · intro k55 s964 ct56 f57 wd58 hk59 hb60 hI61 hbrk62 hret63
              obtain ⟨⟩ := s964
              replace hI61 : f57 1 = (Value.pointer (some ⟨b1, 0, none⟩)) ∧ f57 3 = v_c_Values ∧ f57 4 = (Value.int .i64 (k12 : Int)) ∧ f57 5 = (Value.int .i64 (k32 : Int)) ∧ f57 12 = (Value.int .i64 ((c_Values).length : Int)) ∧ f57 13 = (Value.int .i64 (k12 : Int)) ∧ f57 17 = (Value.int .i64 ((c_Values).length : Int)) ∧ f57 18 = (Value.int .i64 (k32 : Int)) ∧ f57 22 = (Value.int .i64 ((c_Values).length : Int)) ∧ f57 23 = Value.int .i64 (k55 : Int) ∧ InR .i64 (k55 : Int) ∧ St wd2 wd58 [] := hI61
              replace hb60 : p_impl_Cocycle_fault_L3 c_Values k32 c_Orders c_Modulus k12 k55  = some ct56 := hb60
              unfold p_impl_Cocycle_fault_L3 at hb60
              obtain ⟨hf64, hf65, hf66, hf67, hf68, hf69, hf70, hf71, hf72, hf73, hr74, hS75⟩ := hI61
              refine W.seq (W.region ?_)
              refine WL.val (Value.bool (decide ((k55 : Int) < ((c_Values).length : Int)))) _ (op_lss hf73 hf72) rfl ?_
              have hl76 : (k55 : Int) < ((c_Values).length : Int) := by omega
              refine WL.nil ?_
              refine W.seq ?_
              refine W.condT (decide ((k55 : Int) < ((c_Values).length : Int))) rfl (decide_eq_true hl76) ?_
              refine W.skip ?_
              refine W.seq ?_
              refine W.block ?_
              refine W.seq (W.region ?_)
              refine WL.val (Value.int .i64 (k55 : Int)) _ (op_move hf73) rfl ?_
              refine WL.val (Value.int .i64 (k55 : Int)) _ (op_assign rfl) rfl ?_
              refine WL.nil ?_
              refine W.seq (W.region ?_)
              refine WL.val v_c_Values _ (op_move hf65) rfl ?_
              have hr78 := inR_len (Ty.lift _ (Ext.trans hE7 hS75.ext) r_c_Values)
              refine WL.val (Value.int .i64 ((c_Values).length : Int)) _ (op_lenL sl_23 (Ty.lift _ (Ext.trans hE7 hS75.ext) r_c_Values) rfl) rfl ?_
              refine WL.val (Value.int .i64 (0 : Int)) _ (op_move rfl) rfl ?_
              refine WL.nil ?_
              show W _ _ _ _ _ _
              obtain ⟨res79, hres80, hb60⟩ := bs hb60
              refine W.blockLoop (fun fq wq => ∃ s, res79 = Res.fin s ∧ fq 1 = (Value.pointer (some ⟨b1, 0, none⟩)) ∧ fq 3 = v_c_Values ∧ fq 4 = (Value.int .i64 (k12 : Int)) ∧ fq 5 = (Value.int .i64 (k32 : Int)) ∧ fq 12 = (Value.int .i64 ((c_Values).length : Int)) ∧ fq 13 = (Value.int .i64 (k12 : Int)) ∧ fq 17 = (Value.int .i64 ((c_Values).length : Int)) ∧ fq 18 = (Value.int .i64 (k32 : Int)) ∧ fq 22 = (Value.int .i64 ((c_Values).length : Int)) ∧ fq 23 = (Value.int .i64 (k55 : Int)) ∧ St wd2 wq []) ?_ ?_
              · refine W.forN (fun k (s : Unit) fq wq => fq 1 = (Value.pointer (some ⟨b1, 0, none⟩)) ∧ fq 3 = v_c_Values ∧ fq 4 = (Value.int .i64 (k12 : Int)) ∧ fq 5 = (Value.int .i64 (k32 : Int)) ∧ fq 6 = (Value.int .i64 (k55 : Int)) ∧ fq 12 = (Value.int .i64 ((c_Values).length : Int)) ∧ fq 13 = (Value.int .i64 (k12 : Int)) ∧ fq 17 = (Value.int .i64 ((c_Values).length : Int)) ∧ fq 18 = (Value.int .i64 (k32 : Int)) ∧ fq 22 = (Value.int .i64 ((c_Values).length : Int)) ∧ fq 23 = (Value.int .i64 (k55 : Int)) ∧ fq 27 = (Value.int .i64 ((c_Values).length : Int)) ∧ fq 28 = Value.int .i64 (k : Int) ∧ InR .i64 (k : Int) ∧ St wd2 wq []) hres80 ⟨hf64, hf65, hf66, hf67, rfl, hf68, hf69, hf70, hf71, hf72, hf73, rfl, rfl, (inL rfl), hS75⟩ ?_ ?_
                · intro k81 s926 ct82 f83 wd84 hk85 hb86 hI87 hbrk88 hret89
                  obtain ⟨⟩ := s926
                  replace hI87 : f83 1 = (Value.pointer (some ⟨b1, 0, none⟩)) ∧ f83 3 = v_c_Values ∧ f83 4 = (Value.int .i64 (k12 : Int)) ∧ f83 5 = (Value.int .i64 (k32 : Int)) ∧ f83 6 = (Value.int .i64 (k55 : Int)) ∧ f83 12 = (Value.int .i64 ((c_Values).length : Int)) ∧ f83 13 = (Value.int .i64 (k12 : Int)) ∧ f83 17 = (Value.int .i64 ((c_Values).length : Int)) ∧ f83 18 = (Value.int .i64 (k32 : Int)) ∧ f83 22 = (Value.int .i64 ((c_Values).length : Int)) ∧ f83 23 = (Value.int .i64 (k55 : Int)) ∧ f83 27 = (Value.int .i64 ((c_Values).length : Int)) ∧ f83 28 = Value.int .i64 (k81 : Int) ∧ InR .i64 (k81 : Int) ∧ St wd2 wd84 [] := hI87
                  replace hb86 : p_impl_Cocycle_fault_L4 c_Values k32 k55 c_Orders c_Modulus k12 k81  = some ct82 := hb86
                  unfold p_impl_Cocycle_fault_L4 at hb86
                  obtain ⟨hf90, hf91, hf92, hf93, hf94, hf95, hf96, hf97, hf98, hf99, hf100, hf101, hf102, hr103, hS104⟩ := hI87
                  refine W.seq (W.region ?_)
                  refine WL.val (Value.bool (decide ((k81 : Int) < ((c_Values).length : Int)))) _ (op_lss hf102 hf101) rfl ?_
                  have hl105 : (k81 : Int) < ((c_Values).length : Int) := by omega
                  refine WL.nil ?_
                  refine W.seq ?_
                  refine W.condT (decide ((k81 : Int) < ((c_Values).length : Int))) rfl (decide_eq_true hl105) ?_
                  refine W.skip ?_
                  refine W.seq ?_
                  refine W.block ?_
                  refine W.seq (W.region ?_)
                  refine WL.val (Value.int .i64 (k81 : Int)) _ (op_move hf102) rfl ?_
                  refine WL.val (Value.int .i64 (k81 : Int)) _ (op_assign rfl) rfl ?_
                  refine WL.nil ?_
                  refine W.seq ?_
                  obtain ⟨x136, hx139, hb86⟩ := bs hb86
                  obtain ⟨ha137, hb138, hx139⟩ := idx_some hx139
                  obtain ⟨u150, hc151, hr152⟩ := repSl.el r_c_Values hx139
                  obtain ⟨x175, hx178, hb86⟩ := bs hb86
                  obtain ⟨ha176, hb177, hx178⟩ := idx_some hx178
                  obtain ⟨u189, hc190, hr191⟩ := repSl.el hr152 hx178
                  obtain ⟨x214, hx217, hb86⟩ := bs hb86
                  obtain ⟨ha215, hb216, hx217⟩ := idx_some hx217
                  obtain ⟨u228, hc229, hr230⟩ := repSl.el hr191 hx217
                  obtain ⟨rfl, hr230⟩ := hr230
                  obtain ⟨x280, hx281, hb86⟩ := bs hb86
                  obtain ⟨x301, hx304, hb86⟩ := bs hb86
                  obtain ⟨ha302, hb303, hx304⟩ := idx_some hx304
                  obtain ⟨u315, hc316, hr317⟩ := repSl.el r_c_Values hx304
                  obtain ⟨x340, hx343, hb86⟩ := bs hb86
                  obtain ⟨ha341, hb342, hx343⟩ := idx_some hx343
                  obtain ⟨u354, hc355, hr356⟩ := repSl.el hr317 hx343
                  obtain ⟨x379, hx382, hb86⟩ := bs hb86
                  obtain ⟨ha380, hb381, hx382⟩ := idx_some hx382
                  obtain ⟨u393, hc394, hr395⟩ := repSl.el hr356 hx382
                  obtain ⟨rfl, hr395⟩ := hr395
                  obtain ⟨x441, hx444, hb86⟩ := bs hb86
                  obtain ⟨ha442, hb443, hx444⟩ := idx_some hx444
                  obtain ⟨u455, hc456, hr457⟩ := repSl.el r_c_Values hx444
                  obtain ⟨x500, hx501, hb86⟩ := bs hb86
                  obtain ⟨x521, hx524, hb86⟩ := bs hb86
                  obtain ⟨ha522, hb523, hx524⟩ := idx_some hx524
                  obtain ⟨u535, hc536, hr537⟩ := repSl.el hr457 hx524
                  obtain ⟨x560, hx563, hb86⟩ := bs hb86
                  obtain ⟨ha561, hb562, hx563⟩ := idx_some hx563
                  obtain ⟨u574, hc575, hr576⟩ := repSl.el hr537 hx563
                  obtain ⟨rfl, hr576⟩ := hr576
                  obtain ⟨u632, hc633, hr634⟩ := repSl.el r_c_Values hx444
                  obtain ⟨x657, hx660, hb86⟩ := bs hb86
                  obtain ⟨ha658, hb659, hx660⟩ := idx_some hx660
                  obtain ⟨u671, hc672, hr673⟩ := repSl.el hr634 hx660
                  obtain ⟨x716, hx717, hb86⟩ := bs hb86
                  obtain ⟨x737, hx740, hb86⟩ := bs hb86
                  obtain ⟨ha738, hb739, hx740⟩ := idx_some hx740
                  obtain ⟨u751, hc752, hr753⟩ := repSl.el hr673 hx740
                  obtain ⟨rfl, hr753⟩ := hr753
                  obtain ⟨u809, hc810, hr811⟩ := repSl.el r_c_Values hx444
                  obtain ⟨u844, hc845, hr846⟩ := repSl.el hr811 hx660
                  obtain ⟨x869, hx872, hb86⟩ := bs hb86
                  obtain ⟨ha870, hb871, hx872⟩ := idx_some hx872
                  obtain ⟨u883, hc884, hr885⟩ := repSl.el hr846 hx872
                  obtain ⟨rfl, hr885⟩ := hr885
                  refine W.drawR mixo 62 [] [fun _ v _ _ => v = v_c_Values, fun _ v _ _ => v = (Value.int .i64 (k32 : Int)) ∧ InR .i64 (k32 : Int), fun _ v _ _ => v = (Value.pointer (some (elA v_c_Values ((k32 : Int)).toNat))), fun _ v _ _ => v = u150, fun _ v _ _ => v = (Value.int .i64 (k55 : Int)) ∧ InR .i64 (k55 : Int), fun _ v _ _ => v = (Value.pointer (some (elA u150 ((k55 : Int)).toNat))), fun _ v _ _ => v = u189, fun _ v _ _ => v = (Value.int .i64 (k81 : Int)) ∧ InR .i64 (k81 : Int), fun _ v _ _ => v = (Value.pointer (some (elA u189 ((k81 : Int)).toNat))), fun _ v _ _ => v = (Value.int .i64 x214) ∧ InR .i64 x214, fun _ v _ _ => v = v_c_Values, fun _ v S w' => v = (Value.agg #[v_c_Orders, (Value.int .i64 c_Modulus), v_c_Values]) ∧ InR .i64 c_Modulus, fun _ v _ _ => v = (Value.int .i64 (k12 : Int)) ∧ InR .i64 (k12 : Int), fun _ v _ _ => v = (Value.int .i64 (k32 : Int)) ∧ InR .i64 (k32 : Int), fun _ v _ _ => v = (Value.int .i64 x280) ∧ InR .i64 x280, fun _ v _ _ => v = (Value.pointer (some (elA v_c_Values (x280).toNat))), fun _ v _ _ => v = u315, fun _ v _ _ => v = (Value.int .i64 (k55 : Int)) ∧ InR .i64 (k55 : Int), fun _ v _ _ => v = (Value.pointer (some (elA u315 ((k55 : Int)).toNat))), fun _ v _ _ => v = u354, fun _ v _ _ => v = (Value.int .i64 (k81 : Int)) ∧ InR .i64 (k81 : Int), fun _ v _ _ => v = (Value.pointer (some (elA u354 ((k81 : Int)).toNat))), fun _ v _ _ => v = (Value.int .i64 x379) ∧ InR .i64 x379, fun _ v _ _ => v = (Value.int .i64 (w64 (x214 - x379))) ∧ InR .i64 (w64 (x214 - x379)), fun _ v _ _ => v = v_c_Values, fun _ v _ _ => v = (Value.int .i64 (k12 : Int)) ∧ InR .i64 (k12 : Int), fun _ v _ _ => v = (Value.pointer (some (elA v_c_Values ((k12 : Int)).toNat))), fun _ v _ _ => v = u455, fun _ v S w' => v = (Value.agg #[v_c_Orders, (Value.int .i64 c_Modulus), v_c_Values]) ∧ InR .i64 c_Modulus, fun _ v _ _ => v = (Value.int .i64 (k32 : Int)) ∧ InR .i64 (k32 : Int), fun _ v _ _ => v = (Value.int .i64 (k55 : Int)) ∧ InR .i64 (k55 : Int), fun _ v _ _ => v = (Value.int .i64 x500) ∧ InR .i64 x500, fun _ v _ _ => v = (Value.pointer (some (elA u455 (x500).toNat))), fun _ v _ _ => v = u535, fun _ v _ _ => v = (Value.int .i64 (k81 : Int)) ∧ InR .i64 (k81 : Int), fun _ v _ _ => v = (Value.pointer (some (elA u535 ((k81 : Int)).toNat))), fun _ v _ _ => v = (Value.int .i64 x560) ∧ InR .i64 x560, fun _ v _ _ => v = (Value.int .i64 (w64 ((w64 (x214 - x379)) + x560))) ∧ InR .i64 (w64 ((w64 (x214 - x379)) + x560)), fun _ v _ _ => v = v_c_Values, fun _ v _ _ => v = (Value.int .i64 (k12 : Int)) ∧ InR .i64 (k12 : Int), fun _ v _ _ => v = (Value.pointer (some (elA v_c_Values ((k12 : Int)).toNat))), fun _ v _ _ => v = u632, fun _ v _ _ => v = (Value.int .i64 (k32 : Int)) ∧ InR .i64 (k32 : Int), fun _ v _ _ => v = (Value.pointer (some (elA u632 ((k32 : Int)).toNat))), fun _ v _ _ => v = u671, fun _ v S w' => v = (Value.agg #[v_c_Orders, (Value.int .i64 c_Modulus), v_c_Values]) ∧ InR .i64 c_Modulus, fun _ v _ _ => v = (Value.int .i64 (k55 : Int)) ∧ InR .i64 (k55 : Int), fun _ v _ _ => v = (Value.int .i64 (k81 : Int)) ∧ InR .i64 (k81 : Int), fun _ v _ _ => v = (Value.int .i64 x716) ∧ InR .i64 x716, fun _ v _ _ => v = (Value.pointer (some (elA u671 (x716).toNat))), fun _ v _ _ => v = (Value.int .i64 x737) ∧ InR .i64 x737, fun _ v _ _ => v = (Value.int .i64 (w64 ((w64 ((w64 (x214 - x379)) + x560)) - x737))) ∧ InR .i64 (w64 ((w64 ((w64 (x214 - x379)) + x560)) - x737)), fun _ v _ _ => v = v_c_Values, fun _ v _ _ => v = (Value.int .i64 (k12 : Int)) ∧ InR .i64 (k12 : Int), fun _ v _ _ => v = (Value.pointer (some (elA v_c_Values ((k12 : Int)).toNat))), fun _ v _ _ => v = u809, fun _ v _ _ => v = (Value.int .i64 (k32 : Int)) ∧ InR .i64 (k32 : Int), fun _ v _ _ => v = (Value.pointer (some (elA u809 ((k32 : Int)).toNat))), fun _ v _ _ => v = u844, fun _ v _ _ => v = (Value.int .i64 (k55 : Int)) ∧ InR .i64 (k55 : Int), fun _ v _ _ => v = (Value.pointer (some (elA u844 ((k55 : Int)).toNat))), fun _ v _ _ => v = (Value.int .i64 x869) ∧ InR .i64 x869] (by kernel_rfl) (by kernel_rfl) ⟨pk, pk, pk, pk, pk, pk, pk, pk, pk, pk, pk, ⟨fun _ _ _ _ _ he ⟨h0, h1⟩ => ⟨h0, h1⟩, fun _ _ _ _ _ _ h => h⟩, pk, pk, pk, pk, pk, pk, pk, pk, pk, pk, pk, pk, pk, pk, pk, pk, ⟨fun _ _ _ _ _ he ⟨h0, h1⟩ => ⟨h0, h1⟩, fun _ _ _ _ _ _ h => h⟩, pk, pk, pk, pk, pk, pk, pk, pk, pk, pk, pk, pk, pk, pk, pk, pk, ⟨fun _ _ _ _ _ he ⟨h0, h1⟩ => ⟨h0, h1⟩, fun _ _ _ _ _ _ h => h⟩, pk, pk, pk, pk, pk, pk, pk, pk, pk, pk, pk, pk, pk, pk, pk, pk, trivial⟩ ⟨?_, ?_, ?_, ?_, ?_, ?_, ?_, ?_, ?_, ?_, ?_, ?_, ?_, ?_, ?_, ?_, ?_, ?_, ?_, ?_, ?_, ?_, ?_, ?_, ?_, ?_, ?_, ?_, ?_, ?_, ?_, ?_, ?_, ?_, ?_, ?_, ?_, ?_, ?_, ?_, ?_, ?_, ?_, ?_, ?_, ?_, ?_, ?_, ?_, ?_, ?_, ?_, ?_, ?_, ?_, ?_, ?_, ?_, ?_, ?_, ?_, ?_, trivial⟩ ?_
                  · refine ObX.op rfl fun f107 wd108 he109 hout110 hphi111 => ?_
                    have e113 : f107 3 = v_c_Values := (hout110 3 rfl).trans hf91
                    exact OpX.val v_c_Values wd108 rfl (op_move e113) (Ext.refl _) rfl
                  · refine ObX.op rfl fun f114 wd115 he116 hout117 hphi118 => ?_
                    have e120 : f114 5 = (Value.int .i64 (k32 : Int)) := (hout117 5 rfl).trans hf93
                    exact OpX.val (Value.int .i64 (k32 : Int)) wd115 rfl (op_move e120) (Ext.refl _) ⟨rfl, hr48⟩
                  · refine ObX.op rfl fun f121 wd122 he123 hout124 hphi125 => ?_
                    have hS126 := St.extend hS104 he123
                    obtain ⟨S127, hS128, hf129⟩ := hphi125 0 31 _ rfl rfl rfl
                    have e130 : f121 31 = v_c_Values := hf129
                    obtain ⟨S131, hS132, hf133⟩ := hphi125 1 32 _ rfl rfl rfl
                    obtain ⟨e134, hr135⟩ := hf133
                    exact OpX.val (Value.pointer (some (elA v_c_Values ((k32 : Int)).toNat))) wd122 rfl (op_idx sl_23 (Ty.lift _ (Ext.trans hE7 hS126.ext) r_c_Values) e130 e134 ha137 hb138) (Ext.refl _) rfl
                  · refine ObX.op rfl fun f140 wd141 he142 hout143 hphi144 => ?_
                    have hS145 := St.extend hS104 he142
                    obtain ⟨S146, hS147, hf148⟩ := hphi144 2 33 _ rfl rfl rfl
                    have e149 : f140 33 = (Value.pointer (some (elA v_c_Values ((k32 : Int)).toNat))) := hf148
                    exact OpX.val u150 wd141 rfl (op_load one_26 e149 (Ext.cell (Ext.trans hE7 hS145.ext) hc151)) (Ext.refl _) rfl
                  · refine ObX.op rfl fun f153 wd154 he155 hout156 hphi157 => ?_
                    have e159 : f153 6 = (Value.int .i64 (k55 : Int)) := (hout156 6 rfl).trans hf94
                    exact OpX.val (Value.int .i64 (k55 : Int)) wd154 rfl (op_move e159) (Ext.refl _) ⟨rfl, hr74⟩
                  · refine ObX.op rfl fun f160 wd161 he162 hout163 hphi164 => ?_
                    have hS165 := St.extend hS104 he162
                    obtain ⟨S166, hS167, hf168⟩ := hphi164 3 34 _ rfl rfl rfl
                    have e169 : f160 34 = u150 := hf168
                    obtain ⟨S170, hS171, hf172⟩ := hphi164 4 35 _ rfl rfl rfl
                    obtain ⟨e173, hr174⟩ := hf172
                    exact OpX.val (Value.pointer (some (elA u150 ((k55 : Int)).toNat))) wd161 rfl (op_idx sl_26 (Ty.lift _ (Ext.trans hE7 hS165.ext) hr152) e169 e173 ha176 hb177) (Ext.refl _) rfl
                  · refine ObX.op rfl fun f179 wd180 he181 hout182 hphi183 => ?_
                    have hS184 := St.extend hS104 he181
                    obtain ⟨S185, hS186, hf187⟩ := hphi183 5 36 _ rfl rfl rfl
                    have e188 : f179 36 = (Value.pointer (some (elA u150 ((k55 : Int)).toNat))) := hf187
                    exact OpX.val u189 wd180 rfl (op_load one_22 e188 (Ext.cell (Ext.trans hE7 hS184.ext) hc190)) (Ext.refl _) rfl
                  · refine ObX.op rfl fun f192 wd193 he194 hout195 hphi196 => ?_
                    have e198 : f192 7 = (Value.int .i64 (k81 : Int)) := (hout195 7 rfl).trans rfl
                    exact OpX.val (Value.int .i64 (k81 : Int)) wd193 rfl (op_move e198) (Ext.refl _) ⟨rfl, hr103⟩
                  · refine ObX.op rfl fun f199 wd200 he201 hout202 hphi203 => ?_
                    have hS204 := St.extend hS104 he201
                    obtain ⟨S205, hS206, hf207⟩ := hphi203 6 37 _ rfl rfl rfl
                    have e208 : f199 37 = u189 := hf207
                    obtain ⟨S209, hS210, hf211⟩ := hphi203 7 38 _ rfl rfl rfl
                    obtain ⟨e212, hr213⟩ := hf211
                    exact OpX.val (Value.pointer (some (elA u189 ((k81 : Int)).toNat))) wd200 rfl (op_idx sl_22 (Ty.lift _ (Ext.trans hE7 hS204.ext) hr191) e208 e212 ha215 hb216) (Ext.refl _) rfl
                  · refine ObX.op rfl fun f218 wd219 he220 hout221 hphi222 => ?_
                    have hS223 := St.extend hS104 he220
                    obtain ⟨S224, hS225, hf226⟩ := hphi222 8 39 _ rfl rfl rfl
                    have e227 : f218 39 = (Value.pointer (some (elA u189 ((k81 : Int)).toNat))) := hf226
                    exact OpX.val (Value.int .i64 x214) wd219 rfl (op_load one_2 e227 (Ext.cell (Ext.trans hE7 hS223.ext) hc229)) (Ext.refl _) ⟨rfl, hr230⟩
                  · refine ObX.op rfl fun f231 wd232 he233 hout234 hphi235 => ?_
                    have e237 : f231 3 = v_c_Values := (hout234 3 rfl).trans hf91
                    exact OpX.val v_c_Values wd232 rfl (op_move e237) (Ext.refl _) rfl
                  · refine ObX.op rfl fun f238 wd239 he240 hout241 hphi242 => ?_
                    have hS243 := St.extend hS104 he240
                    have e244 : f238 1 = (Value.pointer (some ⟨b1, 0, none⟩)) := (hout241 1 rfl).trans hf90
                    exact OpX.val (Value.agg #[v_c_Orders, (Value.int .i64 c_Modulus), v_c_Values]) wd239 rfl (op_loadBox st_34 e244 (BoxAt.lift hS243.ext hx6) rfl rfl) (Ext.refl _) ⟨rfl, r_c_Modulus⟩
                  · refine ObX.op rfl fun f245 wd246 he247 hout248 hphi249 => ?_
                    have e251 : f245 4 = (Value.int .i64 (k12 : Int)) := (hout248 4 rfl).trans hf92
                    exact OpX.val (Value.int .i64 (k12 : Int)) wd246 rfl (op_move e251) (Ext.refl _) ⟨rfl, hr25⟩
                  · refine ObX.op rfl fun f252 wd253 he254 hout255 hphi256 => ?_
                    have e258 : f252 5 = (Value.int .i64 (k32 : Int)) := (hout255 5 rfl).trans hf93
                    exact OpX.val (Value.int .i64 (k32 : Int)) wd253 rfl (op_move e258) (Ext.refl _) ⟨rfl, hr48⟩
                  · refine ObX.op rfl fun f259 wd260 he261 hout262 hphi263 => ?_
                    have hS264 := St.extend hS104 he261
                    obtain ⟨S265, hS266, hf267⟩ := hphi263 11 42 _ rfl rfl rfl
                    obtain ⟨e268, hr269⟩ := hf267
                    obtain ⟨S270, hS271, hf272⟩ := hphi263 12 43 _ rfl rfl rfl
                    obtain ⟨e273, hr274⟩ := hf272
                    obtain ⟨S275, hS276, hf277⟩ := hphi263 13 44 _ rfl rfl rfl
                    obtain ⟨e278, hr279⟩ := hf277
                    refine OpX.call rfl (op_call fn_84 (args3 e268 e273 e278)) (Ret.mono (c_impl_Cocycle_plus (Ty.lift _ (Ext.trans hE7 hS264.ext) r_c_Orders) hr269 (Ty.lift _ (Ext.trans hE7 hS264.ext) r_c_Values) hr274 hr279 hx281) ?_)
                    rintro _ wd283 ⟨rfl, hr282, he284⟩
                    exact ⟨he284, _, noS _ _, ⟨rfl, hr282⟩⟩
                  · refine ObX.op rfl fun f286 wd287 he288 hout289 hphi290 => ?_
                    have hS291 := St.extend hS104 he288
                    obtain ⟨S292, hS293, hf294⟩ := hphi290 10 41 _ rfl rfl rfl
                    have e295 : f286 41 = v_c_Values := hf294
                    obtain ⟨S296, hS297, hf298⟩ := hphi290 14 45 _ rfl rfl rfl
                    obtain ⟨e299, hr300⟩ := hf298
                    exact OpX.val (Value.pointer (some (elA v_c_Values (x280).toNat))) wd287 rfl (op_idx sl_23 (Ty.lift _ (Ext.trans hE7 hS291.ext) r_c_Values) e295 e299 ha302 hb303) (Ext.refl _) rfl
                  · refine ObX.op rfl fun f305 wd306 he307 hout308 hphi309 => ?_
                    have hS310 := St.extend hS104 he307
                    obtain ⟨S311, hS312, hf313⟩ := hphi309 15 46 _ rfl rfl rfl
                    have e314 : f305 46 = (Value.pointer (some (elA v_c_Values (x280).toNat))) := hf313
                    exact OpX.val u315 wd306 rfl (op_load one_26 e314 (Ext.cell (Ext.trans hE7 hS310.ext) hc316)) (Ext.refl _) rfl
                  · refine ObX.op rfl fun f318 wd319 he320 hout321 hphi322 => ?_
                    have e324 : f318 6 = (Value.int .i64 (k55 : Int)) := (hout321 6 rfl).trans hf94
                    exact OpX.val (Value.int .i64 (k55 : Int)) wd319 rfl (op_move e324) (Ext.refl _) ⟨rfl, hr74⟩
                  · refine ObX.op rfl fun f325 wd326 he327 hout328 hphi329 => ?_
                    have hS330 := St.extend hS104 he327
                    obtain ⟨S331, hS332, hf333⟩ := hphi329 16 47 _ rfl rfl rfl
                    have e334 : f325 47 = u315 := hf333
                    obtain ⟨S335, hS336, hf337⟩ := hphi329 17 48 _ rfl rfl rfl
                    obtain ⟨e338, hr339⟩ := hf337
                    exact OpX.val (Value.pointer (some (elA u315 ((k55 : Int)).toNat))) wd326 rfl (op_idx sl_26 (Ty.lift _ (Ext.trans hE7 hS330.ext) hr317) e334 e338 ha341 hb342) (Ext.refl _) rfl
                  · refine ObX.op rfl fun f344 wd345 he346 hout347 hphi348 => ?_
                    have hS349 := St.extend hS104 he346
                    obtain ⟨S350, hS351, hf352⟩ := hphi348 18 49 _ rfl rfl rfl
                    have e353 : f344 49 = (Value.pointer (some (elA u315 ((k55 : Int)).toNat))) := hf352
                    exact OpX.val u354 wd345 rfl (op_load one_22 e353 (Ext.cell (Ext.trans hE7 hS349.ext) hc355)) (Ext.refl _) rfl
                  · refine ObX.op rfl fun f357 wd358 he359 hout360 hphi361 => ?_
                    have e363 : f357 7 = (Value.int .i64 (k81 : Int)) := (hout360 7 rfl).trans rfl
                    exact OpX.val (Value.int .i64 (k81 : Int)) wd358 rfl (op_move e363) (Ext.refl _) ⟨rfl, hr103⟩
                  · refine ObX.op rfl fun f364 wd365 he366 hout367 hphi368 => ?_
                    have hS369 := St.extend hS104 he366
                    obtain ⟨S370, hS371, hf372⟩ := hphi368 19 50 _ rfl rfl rfl
                    have e373 : f364 50 = u354 := hf372
                    obtain ⟨S374, hS375, hf376⟩ := hphi368 20 51 _ rfl rfl rfl
                    obtain ⟨e377, hr378⟩ := hf376
                    exact OpX.val (Value.pointer (some (elA u354 ((k81 : Int)).toNat))) wd365 rfl (op_idx sl_22 (Ty.lift _ (Ext.trans hE7 hS369.ext) hr356) e373 e377 ha380 hb381) (Ext.refl _) rfl
                  · refine ObX.op rfl fun f383 wd384 he385 hout386 hphi387 => ?_
                    have hS388 := St.extend hS104 he385
                    obtain ⟨S389, hS390, hf391⟩ := hphi387 21 52 _ rfl rfl rfl
                    have e392 : f383 52 = (Value.pointer (some (elA u354 ((k81 : Int)).toNat))) := hf391
                    exact OpX.val (Value.int .i64 x379) wd384 rfl (op_load one_2 e392 (Ext.cell (Ext.trans hE7 hS388.ext) hc394)) (Ext.refl _) ⟨rfl, hr395⟩
                  · refine ObX.op rfl fun f396 wd397 he398 hout399 hphi400 => ?_
                    obtain ⟨S402, hS403, hf404⟩ := hphi400 9 40 _ rfl rfl rfl
                    obtain ⟨e405, hr406⟩ := hf404
                    obtain ⟨S407, hS408, hf409⟩ := hphi400 22 53 _ rfl rfl rfl
                    obtain ⟨e410, hr411⟩ := hf409
                    exact OpX.val (Value.int .i64 (w64 (x214 - x379))) wd397 rfl (op_sub e405 e410) (Ext.refl _) ⟨rfl, (inR_wrap _ _)⟩
                  · refine ObX.op rfl fun f412 wd413 he414 hout415 hphi416 => ?_
                    have e418 : f412 3 = v_c_Values := (hout415 3 rfl).trans hf91
                    exact OpX.val v_c_Values wd413 rfl (op_move e418) (Ext.refl _) rfl
                  · refine ObX.op rfl fun f419 wd420 he421 hout422 hphi423 => ?_
                    have e425 : f419 4 = (Value.int .i64 (k12 : Int)) := (hout422 4 rfl).trans hf92
                    exact OpX.val (Value.int .i64 (k12 : Int)) wd420 rfl (op_move e425) (Ext.refl _) ⟨rfl, hr25⟩
                  · refine ObX.op rfl fun f426 wd427 he428 hout429 hphi430 => ?_
                    have hS431 := St.extend hS104 he428
                    obtain ⟨S432, hS433, hf434⟩ := hphi430 24 55 _ rfl rfl rfl
                    have e435 : f426 55 = v_c_Values := hf434
                    obtain ⟨S436, hS437, hf438⟩ := hphi430 25 56 _ rfl rfl rfl
                    obtain ⟨e439, hr440⟩ := hf438
                    exact OpX.val (Value.pointer (some (elA v_c_Values ((k12 : Int)).toNat))) wd427 rfl (op_idx sl_23 (Ty.lift _ (Ext.trans hE7 hS431.ext) r_c_Values) e435 e439 ha442 hb443) (Ext.refl _) rfl
                  · refine ObX.op rfl fun f445 wd446 he447 hout448 hphi449 => ?_
                    have hS450 := St.extend hS104 he447
                    obtain ⟨S451, hS452, hf453⟩ := hphi449 26 57 _ rfl rfl rfl
                    have e454 : f445 57 = (Value.pointer (some (elA v_c_Values ((k12 : Int)).toNat))) := hf453
                    exact OpX.val u455 wd446 rfl (op_load one_26 e454 (Ext.cell (Ext.trans hE7 hS450.ext) hc456)) (Ext.refl _) rfl
                  · refine ObX.op rfl fun f458 wd459 he460 hout461 hphi462 => ?_
                    have hS463 := St.extend hS104 he460
                    have e464 : f458 1 = (Value.pointer (some ⟨b1, 0, none⟩)) := (hout461 1 rfl).trans hf90
                    exact OpX.val (Value.agg #[v_c_Orders, (Value.int .i64 c_Modulus), v_c_Values]) wd459 rfl (op_loadBox st_34 e464 (BoxAt.lift hS463.ext hx6) rfl rfl) (Ext.refl _) ⟨rfl, r_c_Modulus⟩
                  · refine ObX.op rfl fun f465 wd466 he467 hout468 hphi469 => ?_
                    have e471 : f465 5 = (Value.int .i64 (k32 : Int)) := (hout468 5 rfl).trans hf93
                    exact OpX.val (Value.int .i64 (k32 : Int)) wd466 rfl (op_move e471) (Ext.refl _) ⟨rfl, hr48⟩
                  · refine ObX.op rfl fun f472 wd473 he474 hout475 hphi476 => ?_
                    have e478 : f472 6 = (Value.int .i64 (k55 : Int)) := (hout475 6 rfl).trans hf94
                    exact OpX.val (Value.int .i64 (k55 : Int)) wd473 rfl (op_move e478) (Ext.refl _) ⟨rfl, hr74⟩
                  · refine ObX.op rfl fun f479 wd480 he481 hout482 hphi483 => ?_
                    have hS484 := St.extend hS104 he481
                    obtain ⟨S485, hS486, hf487⟩ := hphi483 28 59 _ rfl rfl rfl
                    obtain ⟨e488, hr489⟩ := hf487
                    obtain ⟨S490, hS491, hf492⟩ := hphi483 29 60 _ rfl rfl rfl
                    obtain ⟨e493, hr494⟩ := hf492
                    obtain ⟨S495, hS496, hf497⟩ := hphi483 30 61 _ rfl rfl rfl
                    obtain ⟨e498, hr499⟩ := hf497
                    refine OpX.call rfl (op_call fn_84 (args3 e488 e493 e498)) (Ret.mono (c_impl_Cocycle_plus (Ty.lift _ (Ext.trans hE7 hS484.ext) r_c_Orders) hr489 (Ty.lift _ (Ext.trans hE7 hS484.ext) r_c_Values) hr494 hr499 hx501) ?_)
                    rintro _ wd503 ⟨rfl, hr502, he504⟩
                    exact ⟨he504, _, noS _ _, ⟨rfl, hr502⟩⟩
                  · refine ObX.op rfl fun f506 wd507 he508 hout509 hphi510 => ?_
                    have hS511 := St.extend hS104 he508
                    obtain ⟨S512, hS513, hf514⟩ := hphi510 27 58 _ rfl rfl rfl
                    have e515 : f506 58 = u455 := hf514
                    obtain ⟨S516, hS517, hf518⟩ := hphi510 31 62 _ rfl rfl rfl
                    obtain ⟨e519, hr520⟩ := hf518
                    exact OpX.val (Value.pointer (some (elA u455 (x500).toNat))) wd507 rfl (op_idx sl_26 (Ty.lift _ (Ext.trans hE7 hS511.ext) hr457) e515 e519 ha522 hb523) (Ext.refl _) rfl
                  · refine ObX.op rfl fun f525 wd526 he527 hout528 hphi529 => ?_
                    have hS530 := St.extend hS104 he527
                    obtain ⟨S531, hS532, hf533⟩ := hphi529 32 63 _ rfl rfl rfl
                    have e534 : f525 63 = (Value.pointer (some (elA u455 (x500).toNat))) := hf533
                    exact OpX.val u535 wd526 rfl (op_load one_22 e534 (Ext.cell (Ext.trans hE7 hS530.ext) hc536)) (Ext.refl _) rfl
                  · refine ObX.op rfl fun f538 wd539 he540 hout541 hphi542 => ?_
                    have e544 : f538 7 = (Value.int .i64 (k81 : Int)) := (hout541 7 rfl).trans rfl
                    exact OpX.val (Value.int .i64 (k81 : Int)) wd539 rfl (op_move e544) (Ext.refl _) ⟨rfl, hr103⟩
                  · refine ObX.op rfl fun f545 wd546 he547 hout548 hphi549 => ?_
                    have hS550 := St.extend hS104 he547
                    obtain ⟨S551, hS552, hf553⟩ := hphi549 33 64 _ rfl rfl rfl
                    have e554 : f545 64 = u535 := hf553
                    obtain ⟨S555, hS556, hf557⟩ := hphi549 34 65 _ rfl rfl rfl
                    obtain ⟨e558, hr559⟩ := hf557
                    exact OpX.val (Value.pointer (some (elA u535 ((k81 : Int)).toNat))) wd546 rfl (op_idx sl_22 (Ty.lift _ (Ext.trans hE7 hS550.ext) hr537) e554 e558 ha561 hb562) (Ext.refl _) rfl
                  · refine ObX.op rfl fun f564 wd565 he566 hout567 hphi568 => ?_
                    have hS569 := St.extend hS104 he566
                    obtain ⟨S570, hS571, hf572⟩ := hphi568 35 66 _ rfl rfl rfl
                    have e573 : f564 66 = (Value.pointer (some (elA u535 ((k81 : Int)).toNat))) := hf572
                    exact OpX.val (Value.int .i64 x560) wd565 rfl (op_load one_2 e573 (Ext.cell (Ext.trans hE7 hS569.ext) hc575)) (Ext.refl _) ⟨rfl, hr576⟩
                  · refine ObX.op rfl fun f577 wd578 he579 hout580 hphi581 => ?_
                    obtain ⟨S583, hS584, hf585⟩ := hphi581 23 54 _ rfl rfl rfl
                    obtain ⟨e586, hr587⟩ := hf585
                    obtain ⟨S588, hS589, hf590⟩ := hphi581 36 67 _ rfl rfl rfl
                    obtain ⟨e591, hr592⟩ := hf590
                    exact OpX.val (Value.int .i64 (w64 ((w64 (x214 - x379)) + x560))) wd578 rfl (op_add e586 e591) (Ext.refl _) ⟨rfl, (inR_wrap _ _)⟩
                  · refine ObX.op rfl fun f593 wd594 he595 hout596 hphi597 => ?_
                    have e599 : f593 3 = v_c_Values := (hout596 3 rfl).trans hf91
                    exact OpX.val v_c_Values wd594 rfl (op_move e599) (Ext.refl _) rfl
                  · refine ObX.op rfl fun f600 wd601 he602 hout603 hphi604 => ?_
                    have e606 : f600 4 = (Value.int .i64 (k12 : Int)) := (hout603 4 rfl).trans hf92
                    exact OpX.val (Value.int .i64 (k12 : Int)) wd601 rfl (op_move e606) (Ext.refl _) ⟨rfl, hr25⟩
                  · refine ObX.op rfl fun f607 wd608 he609 hout610 hphi611 => ?_
                    have hS612 := St.extend hS104 he609
                    obtain ⟨S613, hS614, hf615⟩ := hphi611 38 69 _ rfl rfl rfl
                    have e616 : f607 69 = v_c_Values := hf615
                    obtain ⟨S617, hS618, hf619⟩ := hphi611 39 70 _ rfl rfl rfl
                    obtain ⟨e620, hr621⟩ := hf619
                    exact OpX.val (Value.pointer (some (elA v_c_Values ((k12 : Int)).toNat))) wd608 rfl (op_idx sl_23 (Ty.lift _ (Ext.trans hE7 hS612.ext) r_c_Values) e616 e620 ha442 hb443) (Ext.refl _) rfl
                  · refine ObX.op rfl fun f622 wd623 he624 hout625 hphi626 => ?_
                    have hS627 := St.extend hS104 he624
                    obtain ⟨S628, hS629, hf630⟩ := hphi626 40 71 _ rfl rfl rfl
                    have e631 : f622 71 = (Value.pointer (some (elA v_c_Values ((k12 : Int)).toNat))) := hf630
                    exact OpX.val u632 wd623 rfl (op_load one_26 e631 (Ext.cell (Ext.trans hE7 hS627.ext) hc633)) (Ext.refl _) rfl
                  · refine ObX.op rfl fun f635 wd636 he637 hout638 hphi639 => ?_
                    have e641 : f635 5 = (Value.int .i64 (k32 : Int)) := (hout638 5 rfl).trans hf93
                    exact OpX.val (Value.int .i64 (k32 : Int)) wd636 rfl (op_move e641) (Ext.refl _) ⟨rfl, hr48⟩
                  · refine ObX.op rfl fun f642 wd643 he644 hout645 hphi646 => ?_
                    have hS647 := St.extend hS104 he644
                    obtain ⟨S648, hS649, hf650⟩ := hphi646 41 72 _ rfl rfl rfl
                    have e651 : f642 72 = u632 := hf650
                    obtain ⟨S652, hS653, hf654⟩ := hphi646 42 73 _ rfl rfl rfl
                    obtain ⟨e655, hr656⟩ := hf654
                    exact OpX.val (Value.pointer (some (elA u632 ((k32 : Int)).toNat))) wd643 rfl (op_idx sl_26 (Ty.lift _ (Ext.trans hE7 hS647.ext) hr634) e651 e655 ha658 hb659) (Ext.refl _) rfl
                  · refine ObX.op rfl fun f661 wd662 he663 hout664 hphi665 => ?_
                    have hS666 := St.extend hS104 he663
                    obtain ⟨S667, hS668, hf669⟩ := hphi665 43 74 _ rfl rfl rfl
                    have e670 : f661 74 = (Value.pointer (some (elA u632 ((k32 : Int)).toNat))) := hf669
                    exact OpX.val u671 wd662 rfl (op_load one_22 e670 (Ext.cell (Ext.trans hE7 hS666.ext) hc672)) (Ext.refl _) rfl
                  · refine ObX.op rfl fun f674 wd675 he676 hout677 hphi678 => ?_
                    have hS679 := St.extend hS104 he676
                    have e680 : f674 1 = (Value.pointer (some ⟨b1, 0, none⟩)) := (hout677 1 rfl).trans hf90
                    exact OpX.val (Value.agg #[v_c_Orders, (Value.int .i64 c_Modulus), v_c_Values]) wd675 rfl (op_loadBox st_34 e680 (BoxAt.lift hS679.ext hx6) rfl rfl) (Ext.refl _) ⟨rfl, r_c_Modulus⟩
                  · refine ObX.op rfl fun f681 wd682 he683 hout684 hphi685 => ?_
                    have e687 : f681 6 = (Value.int .i64 (k55 : Int)) := (hout684 6 rfl).trans hf94
                    exact OpX.val (Value.int .i64 (k55 : Int)) wd682 rfl (op_move e687) (Ext.refl _) ⟨rfl, hr74⟩
                  · refine ObX.op rfl fun f688 wd689 he690 hout691 hphi692 => ?_
                    have e694 : f688 7 = (Value.int .i64 (k81 : Int)) := (hout691 7 rfl).trans rfl
                    exact OpX.val (Value.int .i64 (k81 : Int)) wd689 rfl (op_move e694) (Ext.refl _) ⟨rfl, hr103⟩
                  · refine ObX.op rfl fun f695 wd696 he697 hout698 hphi699 => ?_
                    have hS700 := St.extend hS104 he697
                    obtain ⟨S701, hS702, hf703⟩ := hphi699 45 76 _ rfl rfl rfl
                    obtain ⟨e704, hr705⟩ := hf703
                    obtain ⟨S706, hS707, hf708⟩ := hphi699 46 77 _ rfl rfl rfl
                    obtain ⟨e709, hr710⟩ := hf708
                    obtain ⟨S711, hS712, hf713⟩ := hphi699 47 78 _ rfl rfl rfl
                    obtain ⟨e714, hr715⟩ := hf713
                    refine OpX.call rfl (op_call fn_84 (args3 e704 e709 e714)) (Ret.mono (c_impl_Cocycle_plus (Ty.lift _ (Ext.trans hE7 hS700.ext) r_c_Orders) hr705 (Ty.lift _ (Ext.trans hE7 hS700.ext) r_c_Values) hr710 hr715 hx717) ?_)
                    rintro _ wd719 ⟨rfl, hr718, he720⟩
                    exact ⟨he720, _, noS _ _, ⟨rfl, hr718⟩⟩
                  · refine ObX.op rfl fun f722 wd723 he724 hout725 hphi726 => ?_
                    have hS727 := St.extend hS104 he724
                    obtain ⟨S728, hS729, hf730⟩ := hphi726 44 75 _ rfl rfl rfl
                    have e731 : f722 75 = u671 := hf730
                    obtain ⟨S732, hS733, hf734⟩ := hphi726 48 79 _ rfl rfl rfl
                    obtain ⟨e735, hr736⟩ := hf734
                    exact OpX.val (Value.pointer (some (elA u671 (x716).toNat))) wd723 rfl (op_idx sl_22 (Ty.lift _ (Ext.trans hE7 hS727.ext) hr673) e731 e735 ha738 hb739) (Ext.refl _) rfl
                  · refine ObX.op rfl fun f741 wd742 he743 hout744 hphi745 => ?_
                    have hS746 := St.extend hS104 he743
                    obtain ⟨S747, hS748, hf749⟩ := hphi745 49 80 _ rfl rfl rfl
                    have e750 : f741 80 = (Value.pointer (some (elA u671 (x716).toNat))) := hf749
                    exact OpX.val (Value.int .i64 x737) wd742 rfl (op_load one_2 e750 (Ext.cell (Ext.trans hE7 hS746.ext) hc752)) (Ext.refl _) ⟨rfl, hr753⟩
                  · refine ObX.op rfl fun f754 wd755 he756 hout757 hphi758 => ?_
                    obtain ⟨S760, hS761, hf762⟩ := hphi758 37 68 _ rfl rfl rfl
                    obtain ⟨e763, hr764⟩ := hf762
                    obtain ⟨S765, hS766, hf767⟩ := hphi758 50 81 _ rfl rfl rfl
                    obtain ⟨e768, hr769⟩ := hf767
                    exact OpX.val (Value.int .i64 (w64 ((w64 ((w64 (x214 - x379)) + x560)) - x737))) wd755 rfl (op_sub e763 e768) (Ext.refl _) ⟨rfl, (inR_wrap _ _)⟩
                  · refine ObX.op rfl fun f770 wd771 he772 hout773 hphi774 => ?_
                    have e776 : f770 3 = v_c_Values := (hout773 3 rfl).trans hf91
                    exact OpX.val v_c_Values wd771 rfl (op_move e776) (Ext.refl _) rfl
                  · refine ObX.op rfl fun f777 wd778 he779 hout780 hphi781 => ?_
                    have e783 : f777 4 = (Value.int .i64 (k12 : Int)) := (hout780 4 rfl).trans hf92
                    exact OpX.val (Value.int .i64 (k12 : Int)) wd778 rfl (op_move e783) (Ext.refl _) ⟨rfl, hr25⟩
                  · refine ObX.op rfl fun f784 wd785 he786 hout787 hphi788 => ?_
                    have hS789 := St.extend hS104 he786
                    obtain ⟨S790, hS791, hf792⟩ := hphi788 52 83 _ rfl rfl rfl
                    have e793 : f784 83 = v_c_Values := hf792
                    obtain ⟨S794, hS795, hf796⟩ := hphi788 53 84 _ rfl rfl rfl
                    obtain ⟨e797, hr798⟩ := hf796
                    exact OpX.val (Value.pointer (some (elA v_c_Values ((k12 : Int)).toNat))) wd785 rfl (op_idx sl_23 (Ty.lift _ (Ext.trans hE7 hS789.ext) r_c_Values) e793 e797 ha442 hb443) (Ext.refl _) rfl
                  · refine ObX.op rfl fun f799 wd800 he801 hout802 hphi803 => ?_
                    have hS804 := St.extend hS104 he801
                    obtain ⟨S805, hS806, hf807⟩ := hphi803 54 85 _ rfl rfl rfl
                    have e808 : f799 85 = (Value.pointer (some (elA v_c_Values ((k12 : Int)).toNat))) := hf807
                    exact OpX.val u809 wd800 rfl (op_load one_26 e808 (Ext.cell (Ext.trans hE7 hS804.ext) hc810)) (Ext.refl _) rfl
                  · refine ObX.op rfl fun f812 wd813 he814 hout815 hphi816 => ?_
                    have e818 : f812 5 = (Value.int .i64 (k32 : Int)) := (hout815 5 rfl).trans hf93
                    exact OpX.val (Value.int .i64 (k32 : Int)) wd813 rfl (op_move e818) (Ext.refl _) ⟨rfl, hr48⟩
                  · refine ObX.op rfl fun f819 wd820 he821 hout822 hphi823 => ?_
                    have hS824 := St.extend hS104 he821
                    obtain ⟨S825, hS826, hf827⟩ := hphi823 55 86 _ rfl rfl rfl
                    have e828 : f819 86 = u809 := hf827
                    obtain ⟨S829, hS830, hf831⟩ := hphi823 56 87 _ rfl rfl rfl
                    obtain ⟨e832, hr833⟩ := hf831
                    exact OpX.val (Value.pointer (some (elA u809 ((k32 : Int)).toNat))) wd820 rfl (op_idx sl_26 (Ty.lift _ (Ext.trans hE7 hS824.ext) hr811) e828 e832 ha658 hb659) (Ext.refl _) rfl
                  · refine ObX.op rfl fun f834 wd835 he836 hout837 hphi838 => ?_
                    have hS839 := St.extend hS104 he836
                    obtain ⟨S840, hS841, hf842⟩ := hphi838 57 88 _ rfl rfl rfl
                    have e843 : f834 88 = (Value.pointer (some (elA u809 ((k32 : Int)).toNat))) := hf842
                    exact OpX.val u844 wd835 rfl (op_load one_22 e843 (Ext.cell (Ext.trans hE7 hS839.ext) hc845)) (Ext.refl _) rfl
                  · refine ObX.op rfl fun f847 wd848 he849 hout850 hphi851 => ?_
                    have e853 : f847 6 = (Value.int .i64 (k55 : Int)) := (hout850 6 rfl).trans hf94
                    exact OpX.val (Value.int .i64 (k55 : Int)) wd848 rfl (op_move e853) (Ext.refl _) ⟨rfl, hr74⟩
                  · refine ObX.op rfl fun f854 wd855 he856 hout857 hphi858 => ?_
                    have hS859 := St.extend hS104 he856
                    obtain ⟨S860, hS861, hf862⟩ := hphi858 58 89 _ rfl rfl rfl
                    have e863 : f854 89 = u844 := hf862
                    obtain ⟨S864, hS865, hf866⟩ := hphi858 59 90 _ rfl rfl rfl
                    obtain ⟨e867, hr868⟩ := hf866
                    exact OpX.val (Value.pointer (some (elA u844 ((k55 : Int)).toNat))) wd855 rfl (op_idx sl_22 (Ty.lift _ (Ext.trans hE7 hS859.ext) hr846) e863 e867 ha870 hb871) (Ext.refl _) rfl
                  · refine ObX.op rfl fun f873 wd874 he875 hout876 hphi877 => ?_
                    have hS878 := St.extend hS104 he875
                    obtain ⟨S879, hS880, hf881⟩ := hphi877 60 91 _ rfl rfl rfl
                    have e882 : f873 91 = (Value.pointer (some (elA u844 ((k55 : Int)).toNat))) := hf881
                    exact OpX.val (Value.int .i64 x869) wd874 rfl (op_load one_2 e882 (Ext.cell (Ext.trans hE7 hS878.ext) hc884)) (Ext.refl _) ⟨rfl, hr885⟩
                  · intro f886 wd887 Ss888 he889 hout890 hSn891 hSd892 hphi893
                    show WL _ _ _ _ _ _ _
                    have hS894 := St.extend hS104 he889
                    obtain ⟨e895, hr896⟩ := hphi893 51 82 _ (by decide) rfl rfl
                    obtain ⟨e897, hr898⟩ := hphi893 61 92 _ (by decide) rfl rfl
                    have e899 : f886 1 = (Value.pointer (some ⟨b1, 0, none⟩)) := (hout890 1 rfl).trans hf90
                    have e900 : f886 3 = v_c_Values := (hout890 3 rfl).trans hf91
                    have e901 : f886 4 = (Value.int .i64 (k12 : Int)) := (hout890 4 rfl).trans hf92
                    have e902 : f886 5 = (Value.int .i64 (k32 : Int)) := (hout890 5 rfl).trans hf93
                    have e903 : f886 6 = (Value.int .i64 (k55 : Int)) := (hout890 6 rfl).trans hf94
                    have e904 : f886 7 = (Value.int .i64 (k81 : Int)) := (hout890 7 rfl).trans rfl
                    have e905 : f886 12 = (Value.int .i64 ((c_Values).length : Int)) := (hout890 12 rfl).trans hf95
                    have e906 : f886 13 = (Value.int .i64 (k12 : Int)) := (hout890 13 rfl).trans hf96
                    have e907 : f886 17 = (Value.int .i64 ((c_Values).length : Int)) := (hout890 17 rfl).trans hf97
                    have e908 : f886 18 = (Value.int .i64 (k32 : Int)) := (hout890 18 rfl).trans hf98
                    have e909 : f886 22 = (Value.int .i64 ((c_Values).length : Int)) := (hout890 22 rfl).trans hf99
                    have e910 : f886 23 = (Value.int .i64 (k55 : Int)) := (hout890 23 rfl).trans hf100
                    have e911 : f886 27 = (Value.int .i64 ((c_Values).length : Int)) := (hout890 27 rfl).trans hf101
                    have e912 : f886 28 = (Value.int .i64 (k81 : Int)) := (hout890 28 rfl).trans hf102
                    refine WL.val (Value.int .i64 (w64 ((w64 ((w64 ((w64 (x214 - x379)) + x560)) - x737)) + x869))) _ (op_add e895 e897) rfl ?_
                    refine WL.val (Value.int .i64 (w64 ((w64 ((w64 ((w64 (x214 - x379)) + x560)) - x737)) + x869))) _ (op_assign rfl) rfl ?_
                    refine WL.nil ?_
                    refine W.seq (W.region ?_)
                    refine WL.val (Value.agg #[v_c_Orders, (Value.int .i64 c_Modulus), v_c_Values]) _ (op_loadBox st_34 e899 (BoxAt.lift hS894.ext hx6) rfl rfl) rfl ?_
                    refine WL.val (Value.int .i64 (w64 ((w64 ((w64 ((w64 (x214 - x379)) + x560)) - x737)) + x869))) _ (op_move rfl) rfl ?_
                    obtain ⟨x913, hx914, hb86⟩ := bs hb86
                    refine WL.call _ (op_call fn_85 (args2 rfl rfl)) (c_impl_Cocycle_rest (Ty.lift _ (Ext.trans hE7 hS894.ext) r_c_Orders) r_c_Modulus (Ty.lift _ (Ext.trans hE7 hS894.ext) r_c_Values) (inR_wrap _ _) hx914) rfl ?_
                    rintro _ wd916 ⟨rfl, hr915, he917⟩
                    have hS919 := St.extend hS894 he917
                    replace hS919 : St wd2 wd916 [] := hS919
                    refine WL.val (Value.bool (x913 != (0 : Int))) _ (op_neq rfl rfl) rfl ?_
                    refine WL.nil ?_
                    refine W.cond (x913 != (0 : Int)) rfl (fun hc920 => ?_) (fun hc920 => ?_)
                    · replace hb86 := ip hb86 hc920
                      refine W.seq (W.region ?_)
                      refine WL.val (Value.int .i64 (k12 : Int)) _ (op_move e901) rfl ?_
                      refine WL.val (Value.int .i64 (k32 : Int)) _ (op_move e902) rfl ?_
                      refine WL.val (Value.int .i64 (k55 : Int)) _ (op_move e903) rfl ?_
                      refine WL.val (Value.int .i64 (k81 : Int)) _ (op_move e904) rfl ?_
                      refine WL.litFlat (t := (Ty.i .i64)) (flat_i .i64) [(Value.int .i64 (k12 : Int)), (Value.int .i64 (k32 : Int)), (Value.int .i64 (k55 : Int)), (Value.int .i64 (k81 : Int))] [(k12 : Int), (k32 : Int), (k55 : Int), (k81 : Int)] hS919 sl_22 rfl rfl (fillL rfl ⟨rfl, rfl, rfl, rfl, rfl, rfl, rfl, rfl, rfl, rfl, rfl, rfl, trivial⟩) rfl rfl (litL ⟨⟨rfl, hr25⟩, ⟨rfl, hr48⟩, ⟨rfl, hr74⟩, ⟨rfl, hr103⟩, trivial⟩) rfl ?_
                      intro u922 wd923 hS924 he925
                      replace hS924 : St wd2 wd923 [(Ty.sl (Ty.i .i64)).at u922 ([(k12 : Int), (k32 : Int), (k55 : Int), (k81 : Int)] : (List Int))] := hS924
                      refine WL.val u922 _ (op_assign rfl) rfl ?_
                      refine WL.nil ?_
                      refine W.ret ?_
                      obtain rfl := Option.some.inj hb86
                      obtain rfl := hret89 _ rfl
                      replace hb60 := onRes_ret hb60
                      obtain rfl := Option.some.inj hb60
                      obtain rfl := hret63 _ rfl
                      replace hb37 := onRes_ret hb37
                      obtain rfl := Option.some.inj hb37
                      obtain rfl := hret40 _ rfl
                      replace hb17 := onRes_ret hb17
                      obtain rfl := Option.some.inj hb17
                      obtain rfl := hret20 _ rfl
                      replace h := onRes_ret h
                      obtain rfl := Option.some.inj h
                      show FinP _ _ _ _ _ _ _
                      exact FinP.ret _ (res1 rfl rfl) ⟨u922, rfl, (nil_cons), (Ext.trans hE7 hS924.ext), (St.out (St.pick hS924 [0] rfl) (hE7))⟩
                    · replace hb86 := inegb hb86 hc920
                      refine W.skip ?_
                      show W _ _ _ _ _ _
                      refine W.region ?_
                      refine WL.val (Value.int .i64 (w64 ((k81 : Int) + (1 : Int)))) _ (op_add e912 rfl) rfl ?_
                      refine WL.val (Value.int .i64 (w64 ((k81 : Int) + (1 : Int)))) _ (op_move rfl) rfl ?_
                      refine WL.nil ?_
                      obtain rfl := Option.some.inj hb86
                      show ∃ s, _ = Ctl.next s ∧ _
                      exact ⟨_, rfl, e899, e900, e901, e902, e903, e905, e906, e907, e908, e909, e910, e911, (ctr_next hl105 hr78), (ctr_rng hl105 hr78), hS919⟩
                · intro s931 f927 wd928 hs929 hI930
                  obtain ⟨⟩ := s931
                  replace hI930 : f927 1 = (Value.pointer (some ⟨b1, 0, none⟩)) ∧ f927 3 = v_c_Values ∧ f927 4 = (Value.int .i64 (k12 : Int)) ∧ f927 5 = (Value.int .i64 (k32 : Int)) ∧ f927 6 = (Value.int .i64 (k55 : Int)) ∧ f927 12 = (Value.int .i64 ((c_Values).length : Int)) ∧ f927 13 = (Value.int .i64 (k12 : Int)) ∧ f927 17 = (Value.int .i64 ((c_Values).length : Int)) ∧ f927 18 = (Value.int .i64 (k32 : Int)) ∧ f927 22 = (Value.int .i64 ((c_Values).length : Int)) ∧ f927 23 = (Value.int .i64 (k55 : Int)) ∧ f927 27 = (Value.int .i64 ((c_Values).length : Int)) ∧ f927 28 = Value.int .i64 (((c_Values).length : Nat) : Int) ∧ InR .i64 (((c_Values).length : Nat) : Int) ∧ St wd2 wd928 [] := hI930
                  obtain ⟨hf932, hf933, hf934, hf935, hf936, hf937, hf938, hf939, hf940, hf941, hf942, hf943, hf944, hr945, hS946⟩ := hI930
                  refine W.seq (W.region ?_)
                  refine WL.val (Value.bool (decide ((((c_Values).length : Nat) : Int) < ((c_Values).length : Int)))) _ (op_lss hf944 hf943) rfl ?_
                  have hl947 : ¬ (((c_Values).length : Nat) : Int) < ((c_Values).length : Int) := by omega
                  refine WL.nil ?_
                  refine W.seq ?_
                  refine W.condF (decide ((((c_Values).length : Nat) : Int) < ((c_Values).length : Int))) rfl (decide_eq_false hl947) ?_
                  refine W.exit ?_
                  show _ = _ ∧ _
                  exact ⟨rfl, _, hs929, hf932, hf933, hf934, hf935, hf937, hf938, hf939, hf940, hf941, hf942, hS946⟩
              · rintro f948 wd949 ⟨s951, rfl, hq950⟩
                replace hb60 := onRes_fin hb60
                obtain ⟨⟩ := s951
                replace hq950 : f948 1 = (Value.pointer (some ⟨b1, 0, none⟩)) ∧ f948 3 = v_c_Values ∧ f948 4 = (Value.int .i64 (k12 : Int)) ∧ f948 5 = (Value.int .i64 (k32 : Int)) ∧ f948 12 = (Value.int .i64 ((c_Values).length : Int)) ∧ f948 13 = (Value.int .i64 (k12 : Int)) ∧ f948 17 = (Value.int .i64 ((c_Values).length : Int)) ∧ f948 18 = (Value.int .i64 (k32 : Int)) ∧ f948 22 = (Value.int .i64 ((c_Values).length : Int)) ∧ f948 23 = (Value.int .i64 (k55 : Int)) ∧ St wd2 wd949 [] := hq950
                obtain ⟨hf952, hf953, hf954, hf955, hf956, hf957, hf958, hf959, hf960, hf961, hS962⟩ := hq950
                show W _ _ _ _ _ _
                refine W.region ?_
                refine WL.val (Value.int .i64 (w64 ((k55 : Int) + (1 : Int)))) _ (op_add hf961 rfl) rfl ?_
                refine WL.val (Value.int .i64 (w64 ((k55 : Int) + (1 : Int)))) _ (op_move rfl) rfl ?_
                refine WL.nil ?_
                obtain rfl := Option.some.inj hb60
                show ∃ s, _ = Ctl.next s ∧ _
                exact ⟨_, rfl, hf952, hf953, hf954, hf955, hf956, hf957, hf958, hf959, hf960, (ctr_next hl76 hr52), (ctr_rng hl76 hr52), hS962⟩
            · intro s969 f965 wd966 hs967 hI968
              obtain ⟨⟩ := s969
              replace hI968 : f965 1 = (Value.pointer (some ⟨b1, 0, none⟩)) ∧ f965 3 = v_c_Values ∧ f965 4 = (Value.int .i64 (k12 : Int)) ∧ f965 5 = (Value.int .i64 (k32 : Int)) ∧ f965 12 = (Value.int .i64 ((c_Values).length : Int)) ∧ f965 13 = (Value.int .i64 (k12 : Int)) ∧ f965 17 = (Value.int .i64 ((c_Values).length : Int)) ∧ f965 18 = (Value.int .i64 (k32 : Int)) ∧ f965 22 = (Value.int .i64 ((c_Values).length : Int)) ∧ f965 23 = Value.int .i64 (((c_Values).length : Nat) : Int) ∧ InR .i64 (((c_Values).length : Nat) : Int) ∧ St wd2 wd966 [] := hI968
              obtain ⟨hf970, hf971, hf972, hf973, hf974, hf975, hf976, hf977, hf978, hf979, hr980, hS981⟩ := hI968
              refine W.seq (W.region ?_)
              refine WL.val (Value.bool (decide ((((c_Values).length : Nat) : Int) < ((c_Values).length : Int)))) _ (op_lss hf979 hf978) rfl ?_
              have hl982 : ¬ (((c_Values).length : Nat) : Int) < ((c_Values).length : Int) := by omega
              refine WL.nil ?_
              refine W.seq ?_
              refine W.condF (decide ((((c_Values).length : Nat) : Int) < ((c_Values).length : Int))) rfl (decide_eq_false hl982) ?_
              refine W.exit ?_
              show _ = _ ∧ _
              exact ⟨rfl, _, hs967, hf970, hf971, hf972, hf974, hf975, hf976, hf977, hS981⟩
          · rintro f983 wd984 ⟨s986, rfl, hq985⟩
            replace hb37 := onRes_fin hb37
            obtain ⟨⟩ := s986
            replace hq985 : f983 1 = (Value.pointer (some ⟨b1, 0, none⟩)) ∧ f983 3 = v_c_Values ∧ f983 4 = (Value.int .i64 (k12 : Int)) ∧ f983 12 = (Value.int .i64 ((c_Values).length : Int)) ∧ f983 13 = (Value.int .i64 (k12 : Int)) ∧ f983 17 = (Value.int .i64 ((c_Values).length : Int)) ∧ f983 18 = (Value.int .i64 (k32 : Int)) ∧ St wd2 wd984 [] := hq985
            obtain ⟨hf987, hf988, hf989, hf990, hf991, hf992, hf993, hS994⟩ := hq985
            show W _ _ _ _ _ _
            refine W.region ?_
            refine WL.val (Value.int .i64 (w64 ((k32 : Int) + (1 : Int)))) _ (op_add hf993 rfl) rfl ?_
            refine WL.val (Value.int .i64 (w64 ((k32 : Int) + (1 : Int)))) _ (op_move rfl) rfl ?_
            refine WL.nil ?_
            obtain rfl := Option.some.inj hb37
            show ∃ s, _ = Ctl.next s ∧ _
            exact ⟨_, rfl, hf987, hf988, hf989, hf990, hf991, hf992, (ctr_next hl50 hr29), (ctr_rng hl50 hr29), hS994⟩
        · intro s1001 f997 wd998 hs999 hI1000
          obtain ⟨⟩ := s1001
          replace hI1000 : f997 1 = (Value.pointer (some ⟨b1, 0, none⟩)) ∧ f997 3 = v_c_Values ∧ f997 4 = (Value.int .i64 (k12 : Int)) ∧ f997 12 = (Value.int .i64 ((c_Values).length : Int)) ∧ f997 13 = (Value.int .i64 (k12 : Int)) ∧ f997 17 = (Value.int .i64 ((c_Values).length : Int)) ∧ f997 18 = Value.int .i64 (((c_Values).length : Nat) : Int) ∧ InR .i64 (((c_Values).length : Nat) : Int) ∧ St wd2 wd998 [] := hI1000
          obtain ⟨hf1002, hf1003, hf1004, hf1005, hf1006, hf1007, hf1008, hr1009, hS1010⟩ := hI1000
          refine W.seq (W.region ?_)
          refine WL.val (Value.bool (decide ((((c_Values).length : Nat) : Int) < ((c_Values).length : Int)))) _ (op_lss hf1008 hf1007) rfl ?_
          have hl1011 : ¬ (((c_Values).length : Nat) : Int) < ((c_Values).length : Int) := by omega
          refine WL.nil ?_
          refine W.seq ?_
          refine W.condF (decide ((((c_Values).length : Nat) : Int) < ((c_Values).length : Int))) rfl (decide_eq_false hl1011) ?_
          refine W.exit ?_
          show _ = _ ∧ _
          exact ⟨rfl, _, hs999, hf1002, hf1003, hf1005, hf1006, hS1010⟩
      · rintro f1012 wd1013 ⟨s1015, rfl, hq1014⟩
        replace hb17 := onRes_fin hb17
        obtain ⟨⟩ := s1015
        replace hq1014 : f1012 1 = (Value.pointer (some ⟨b1, 0, none⟩)) ∧ f1012 3 = v_c_Values ∧ f1012 12 = (Value.int .i64 ((c_Values).length : Int)) ∧ f1012 13 = (Value.int .i64 (k12 : Int)) ∧ St wd2 wd1013 [] := hq1014
        obtain ⟨hf1016, hf1017, hf1018, hf1019, hS1020⟩ := hq1014
        show W _ _ _ _ _ _
        refine W.region ?_
        refine WL.val (Value.int .i64 (w64 ((k12 : Int) + (1 : Int)))) _ (op_add hf1019 rfl) rfl ?_
        refine WL.val (Value.int .i64 (w64 ((k12 : Int) + (1 : Int)))) _ (op_move rfl) rfl ?_
        refine WL.nil ?_
        obtain rfl := Option.some.inj hb17
        show ∃ s, _ = Ctl.next s ∧ _
        exact ⟨_, rfl, hf1016, hf1017, hf1018, (ctr_next hl27 hr9), (ctr_rng hl27 hr9), hS1020⟩
    · intro s1027 f1023 wd1024 hs1025 hI1026
      obtain ⟨⟩ := s1027
      replace hI1026 : f1023 1 = (Value.pointer (some ⟨b1, 0, none⟩)) ∧ f1023 3 = v_c_Values ∧ f1023 12 = (Value.int .i64 ((c_Values).length : Int)) ∧ f1023 13 = Value.int .i64 (((c_Values).length : Nat) : Int) ∧ InR .i64 (((c_Values).length : Nat) : Int) ∧ St wd2 wd1024 [] := hI1026
      obtain ⟨hf1028, hf1029, hf1030, hf1031, hr1032, hS1033⟩ := hI1026
      refine W.seq (W.region ?_)
      refine WL.val (Value.bool (decide ((((c_Values).length : Nat) : Int) < ((c_Values).length : Int)))) _ (op_lss hf1031 hf1030) rfl ?_
      have hl1034 : ¬ (((c_Values).length : Nat) : Int) < ((c_Values).length : Int) := by omega
      refine WL.nil ?_
      refine W.seq ?_
      refine W.condF (decide ((((c_Values).length : Nat) : Int) < ((c_Values).length : Int))) rfl (decide_eq_false hl1034) ?_
      refine W.exit ?_
      show _ = _ ∧ _
      exact ⟨rfl, _, hs1025, hS1033⟩
  · rintro f1035 wd1036 ⟨s1038, rfl, hq1037⟩
    replace h := onRes_fin h
    obtain ⟨⟩ := s1038
    replace hq1037 : St wd2 wd1036 [] := hq1037
    have hS1039 := hq1037
    refine W.seq (W.region ?_)
    refine WL.val (Value.slice none 0 0) _ (op_assign rfl) rfl ?_
    refine WL.nil ?_
    refine W.ret ?_
    obtain rfl := Option.some.inj h
    show FinP _ _ _ _ _ _ _
    exact FinP.ret _ (res1 rfl rfl) ⟨(Value.slice none 0 0), rfl, (fun _ => ⟨0, 0, rfl⟩), (Ext.trans hE7 hS1039.ext), (St.out (St.pick (St.addNil (Ty.i .i64) hS1039) [0] rfl) (hE7))⟩

theorem c_impl_IsCocycle {w : World} {c_Orders : (List Int)} {v_c_Orders : Value} {c_Modulus : Int} {c_Values : (List (List (List Int)))} {v_c_Values : Value} (r_c_Orders : (Ty.sl (Ty.i .i64)).rep w v_c_Orders c_Orders) (r_c_Modulus : InR .i64 c_Modulus) (r_c_Values : (Ty.sl (Ty.sl (Ty.sl (Ty.i .i64)))).rep w v_c_Values c_Values) {res : Bool} (h : p_impl_IsCocycle c_Orders c_Modulus c_Values  = some res) :
    Ret Try.prog 23 #[(Value.agg #[v_c_Orders, (Value.int .i64 c_Modulus), v_c_Values])] w (fun v w' => v = Value.bool res ∧ Ext w w') := by
  unfold p_impl_IsCocycle at h
  have hS0 : St w w [] := St.start w
  refine Ret.start (fn := Try.f23) Try.func23 rfl 14 rfl rfl ?_
  refine W.seq (W.region ?_)
  refine WL.box hS0 rfl (cs := [v_c_Orders, (Value.int .i64 c_Modulus), v_c_Values]) rfl rfl ?_
  intro b1 wd2 hS3 he4 hx5
  replace hS3 : St w wd2 [bx b1 [v_c_Orders, (Value.int .i64 c_Modulus), v_c_Values]] := hS3
  have hx6 := St.boxAt hS3 0 rfl
  have hE7 : Ext w wd2 := hS3.ext
  have hS8 : St wd2 wd2 [] := St.start wd2
  refine WL.val (Value.bool false) _ (op_assign rfl) rfl ?_
  refine WL.nil ?_
  refine W.seq (W.region ?_)
  refine WL.val (Value.agg #[v_c_Orders, (Value.int .i64 c_Modulus), v_c_Values]) _ (op_loadBox st_34 rfl (BoxAt.lift hS8.ext hx6) rfl rfl) rfl ?_
  obtain ⟨x9, hx10, h⟩ := bs h
  refine WL.call _ (op_call fn_70 (args1 rfl)) (c_impl_isCochain (Ty.lift _ (Ext.trans hE7 hS8.ext) r_c_Orders) r_c_Modulus (Ty.lift _ (Ext.trans hE7 hS8.ext) r_c_Values) hx10) rfl ?_
  rintro _ wd11 ⟨rfl, he12⟩
  have hS14 := St.extend hS8 he12
  replace hS14 : St wd2 wd11 [] := hS14
  refine WL.val (Value.bool x9) _ (op_move rfl) rfl ?_
  obtain ⟨x16, hj17, h⟩ := bs h
  refine WL.cut 3 (fun fq wq => fq 1 = (Value.pointer (some ⟨b1, 0, none⟩)) ∧ fq 8 = Value.bool x16 ∧ St wd2 wq []) ?_ ?_
  · rcases Bool.eq_false_or_eq_true x9 with hc15 | hc15
    · replace hj17 := ip hj17 hc15
      refine WL.grun rfl (bool_of rfl hc15) ?_
      refine WL.val (Value.agg #[v_c_Orders, (Value.int .i64 c_Modulus), v_c_Values]) _ (op_loadBox st_34 rfl (BoxAt.lift hS14.ext hx6) rfl rfl) rfl ?_
      refine WL.grun rfl (bool_of rfl hc15) ?_
      obtain ⟨x21, hx22, hj17⟩ := bs hj17
      refine WL.call _ (op_call fn_71 (args1 rfl)) (c_impl_Cocycle_isNormalised (Ty.lift _ (Ext.trans hE7 hS14.ext) r_c_Orders) r_c_Modulus (Ty.lift _ (Ext.trans hE7 hS14.ext) r_c_Values) hx22) rfl ?_
      rintro _ wd23 ⟨rfl, he24⟩
      have hS26 := St.extend hS14 he24
      replace hS26 : St wd2 wd23 [] := hS26
      refine WL.val (Value.bool x21) _ (op_pick_t (evb_of rfl hc15) rfl) rfl ?_
      refine WL.nil ?_
      obtain rfl := Option.some.inj hj17
      exact ⟨rfl, rfl, rfl, hS26⟩
    · replace hj17 := inegb hj17 hc15
      refine WL.gskip rfl (bool_of rfl hc15) rfl ?_
      refine WL.gskip rfl (bool_of rfl hc15) rfl ?_
      refine WL.val (Value.bool false) _ (op_pick_f (evb_of rfl hc15) rfl) rfl ?_
      refine WL.nil ?_
      obtain rfl := Option.some.inj hj17
      exact ⟨rfl, rfl, rfl, hS14⟩
  · intro f18 wd19 hq20
    obtain ⟨hf27, hf28, hS29⟩ := hq20
    refine WL.val (Value.bool x16) _ (op_move hf28) rfl ?_
    obtain ⟨x31, hj32, h⟩ := bs h
    refine WL.cut 4 (fun fq wq => fq 13 = Value.bool x31 ∧ St wd2 wq []) ?_ ?_
    · rcases Bool.eq_false_or_eq_true x16 with hc30 | hc30
      · replace hj32 := ip hj32 hc30
        refine WL.grun rfl (bool_of rfl hc30) ?_
        refine WL.val (Value.agg #[v_c_Orders, (Value.int .i64 c_Modulus), v_c_Values]) _ (op_loadBox st_34 hf27 (BoxAt.lift hS29.ext hx6) rfl rfl) rfl ?_
        refine WL.grun rfl (bool_of rfl hc30) ?_
        obtain ⟨x36, hx37, hj32⟩ := bs hj32
        refine WL.call _ (op_call fn_72 (args1 rfl)) (c_impl_Cocycle_fault (Ty.lift _ (Ext.trans hE7 hS29.ext) r_c_Orders) r_c_Modulus (Ty.lift _ (Ext.trans hE7 hS29.ext) r_c_Values) hx37) rfl ?_
        rintro u38 wd40 ⟨_, rfl, hn39, he41, hs42⟩
        have hS43 := St.join hS29 he41 hs42
        replace hS43 : St wd2 wd40 [(Ty.sl (Ty.i .i64)).at u38 x36] := hS43
        refine WL.grun rfl (bool_of rfl hc30) ?_
        refine WL.val (Value.bool (x36).isEmpty) _ (op_eqlNilL sl_22 (St.rep (t := (Ty.sl (Ty.i .i64))) hS43 0 rfl) hn39 rfl rfl) rfl ?_
        refine WL.val (Value.bool (x36).isEmpty) _ (op_pick_t (evb_of rfl hc30) rfl) rfl ?_
        refine WL.nil ?_
        obtain rfl := Option.some.inj hj32
        exact ⟨rfl, rfl, (St.pick hS43 [] rfl)⟩
      · replace hj32 := inegb hj32 hc30
        refine WL.gskip rfl (bool_of rfl hc30) rfl ?_
        refine WL.gskip rfl (bool_of rfl hc30) rfl ?_
        refine WL.gskip rfl (bool_of rfl hc30) rfl ?_
        refine WL.val (Value.bool false) _ (op_pick_f (evb_of rfl hc30) rfl) rfl ?_
        refine WL.nil ?_
        obtain rfl := Option.some.inj hj32
        exact ⟨rfl, rfl, hS29⟩
    · intro f33 wd34 hq35
      obtain ⟨hf44, hS45⟩ := hq35
      refine WL.val (Value.bool x31) _ (op_assign hf44) rfl ?_
      refine WL.nil ?_
      refine W.ret ?_
      obtain rfl := Option.some.inj h
      show FinP _ _ _ _ _ _ _
      exact FinP.ret _ (res1 rfl rfl) ⟨rfl, (Ext.trans hE7 hS45.ext)⟩

theorem c_impl_isPairing {w : World} {f1 : (List (List Int))} {v_f1 : Value} {n : Int} {m : Int} (r_f1 : (Ty.sl (Ty.sl (Ty.i .i64))).rep w v_f1 f1) (r_n : InR .i64 n) (r_m : InR .i64 m) {res : Bool} (h : p_impl_isPairing f1 n m  = some res) :
    Ret Try.prog 130 #[v_f1, (Value.int .i64 n), (Value.int .i64 m)] w (fun v w' => v = Value.bool res ∧ Ext w w') := by
  unfold p_impl_isPairing at h
  have hS0 : St w w [] := St.start w
  refine Ret.start (fn := Try.f130) Try.func130 rfl 35 rfl rfl ?_
  refine W.seq (W.region ?_)
  refine WL.val (Value.bool false) _ (op_assign rfl) rfl ?_
  refine WL.nil ?_
  refine W.seq (W.seq (W.region ?_))
  refine WL.val v_f1 _ (op_move rfl) rfl ?_
  refine WL.val (Value.int .i64 n) _ (op_move rfl) rfl ?_
  refine WL.val (Value.int .i64 m) _ (op_move rfl) rfl ?_
  obtain ⟨x1, hx2, h⟩ := bs h
  refine WL.call _ (op_call fn_121 (args3 rfl rfl rfl)) (c_impl_isGrid (Ty.lift _ hS0.ext r_f1) r_n r_m hx2) rfl ?_
  rintro _ wd3 ⟨rfl, he4⟩
  have hS6 := St.extend hS0 he4
  replace hS6 : St w wd3 [] := hS6
  refine WL.val (Value.bool (!x1)) _ (op_not rfl) rfl ?_
  refine WL.nil ?_
  refine W.cond (!x1) rfl (fun hc7 => ?_) (fun hc7 => ?_)
  · replace h := ip h hc7
    refine W.seq (W.region ?_)
    refine WL.val (Value.bool false) _ (op_assign rfl) rfl ?_
    refine WL.nil ?_
    refine W.ret ?_
    obtain rfl := Option.some.inj h
    show FinP _ _ _ _ _ _ _
    exact FinP.ret _ (res1 rfl rfl) ⟨rfl, hS6.ext⟩
  · replace h := inegb h hc7
    refine W.skip ?_
    refine W.seq (W.seq (W.region ?_))
    refine WL.val v_f1 _ (op_move rfl) rfl ?_
    have hr9 := inR_len (Ty.lift _ hS6.ext r_f1)
    refine WL.val (Value.int .i64 ((f1).length : Int)) _ (op_lenL sl_26 (Ty.lift _ hS6.ext r_f1) rfl) rfl ?_
    refine WL.val (Value.int .i64 (0 : Int)) _ (op_move rfl) rfl ?_
    refine WL.nil ?_
    show W _ _ _ _ _ _
    obtain ⟨res10, hres11, h⟩ := bs h
    refine W.blockLoop (fun fq wq => ∃ s, res10 = Res.fin s ∧ St w wq []) ?_ ?_
    · refine W.forN (fun k (s : Unit) fq wq => fq 0 = v_f1 ∧ fq 14 = (Value.int .i64 ((f1).length : Int)) ∧ fq 15 = Value.int .i64 (k : Int) ∧ InR .i64 (k : Int) ∧ St w wq []) hres11 ⟨rfl, rfl, rfl, (inL rfl), hS6⟩ ?_ ?_
      · intro k12 s69 ct13 f14 wd15 hk16 hb17 hI18 hbrk19 hret20
        obtain ⟨⟩ := s69
        replace hI18 : f14 0 = v_f1 ∧ f14 14 = (Value.int .i64 ((f1).length : Int)) ∧ f14 15 = Value.int .i64 (k12 : Int) ∧ InR .i64 (k12 : Int) ∧ St w wd15 [] := hI18
        replace hb17 : p_impl_isPairing_L1 f1 k12  = some ct13 := hb17
        unfold p_impl_isPairing_L1 at hb17
        obtain ⟨hf21, hf22, hf23, hr24, hS25⟩ := hI18
        refine W.seq (W.region ?_)
        refine WL.val (Value.bool (decide ((k12 : Int) < ((f1).length : Int)))) _ (op_lss hf23 hf22) rfl ?_
        have hl26 : (k12 : Int) < ((f1).length : Int) := by omega
        refine WL.nil ?_
        refine W.seq ?_
        refine W.condT (decide ((k12 : Int) < ((f1).length : Int))) rfl (decide_eq_true hl26) ?_
        refine W.skip ?_
        refine W.seq ?_
        refine W.block ?_
        refine W.seq (W.region ?_)
        refine WL.val (Value.int .i64 (k12 : Int)) _ (op_move hf23) rfl ?_
        refine WL.val (Value.int .i64 (k12 : Int)) _ (op_assign rfl) rfl ?_
        refine WL.nil ?_
        refine W.seq (W.region ?_)
        refine WL.val v_f1 _ (op_move hf21) rfl ?_
        obtain ⟨x28, hx31, hb17⟩ := bs hb17
        obtain ⟨ha29, hb30, hx31⟩ := idx_some hx31
        refine WL.val (Value.pointer (some (elA v_f1 ((0 : Int)).toNat))) _ (op_idx sl_26 (Ty.lift _ hS25.ext r_f1) rfl rfl ha29 hb30) rfl ?_
        obtain ⟨u32, hc33, hr34⟩ := repSl.el r_f1 hx31
        refine WL.val u32 _ (op_load one_22 rfl (Ext.cell hS25.ext hc33)) rfl ?_
        refine WL.val (Value.int .i64 (k12 : Int)) _ (op_move rfl) rfl ?_
        obtain ⟨x35, hx38, hb17⟩ := bs hb17
        obtain ⟨ha36, hb37, hx38⟩ := idx_some hx38
        refine WL.val (Value.pointer (some (elA u32 ((k12 : Int)).toNat))) _ (op_idx sl_22 (Ty.lift _ hS25.ext hr34) rfl rfl ha36 hb37) rfl ?_
        obtain ⟨u39, hc40, hr41⟩ := repSl.el hr34 hx38
        obtain ⟨rfl, hr41⟩ := hr41
        refine WL.val (Value.int .i64 x35) _ (op_load one_2 rfl (Ext.cell hS25.ext hc40)) rfl ?_
        refine WL.val (Value.bool (x35 != (0 : Int))) _ (op_neq rfl rfl) rfl ?_
        refine WL.val (Value.bool (x35 != (0 : Int))) _ (op_move rfl) rfl ?_
        obtain ⟨x43, hj44, hb17⟩ := bs hb17
        refine WL.cut 8 (fun fq wq => fq 0 = v_f1 ∧ fq 14 = (Value.int .i64 ((f1).length : Int)) ∧ fq 15 = (Value.int .i64 (k12 : Int)) ∧ fq 33 = Value.bool x43 ∧ St w wq []) ?_ ?_
        · rcases Bool.eq_false_or_eq_true (x35 != (0 : Int)) with hc42 | hc42
          · replace hj44 := ip hj44 hc42
            refine WL.gskip rfl (bool_of rfl hc42) rfl ?_
            refine WL.gskip rfl (bool_of rfl hc42) rfl ?_
            refine WL.gskip rfl (bool_of rfl hc42) rfl ?_
            refine WL.gskip rfl (bool_of rfl hc42) rfl ?_
            refine WL.gskip rfl (bool_of rfl hc42) rfl ?_
            refine WL.gskip rfl (bool_of rfl hc42) rfl ?_
            refine WL.gskip rfl (bool_of rfl hc42) rfl ?_
            refine WL.val (Value.bool true) _ (op_pick_t (evb_of rfl hc42) rfl) rfl ?_
            refine WL.nil ?_
            obtain rfl := Option.some.inj hj44
            exact ⟨rfl, hf21, hf22, hf23, rfl, hS25⟩
          · replace hj44 := inegb hj44 hc42
            refine WL.grun rfl (bool_of rfl hc42) ?_
            refine WL.val v_f1 _ (op_move hf21) rfl ?_
            refine WL.grun rfl (bool_of rfl hc42) ?_
            refine WL.val (Value.int .i64 (k12 : Int)) _ (op_move rfl) rfl ?_
            refine WL.grun rfl (bool_of rfl hc42) ?_
            obtain ⟨x48, hx51, hj44⟩ := bs hj44
            obtain ⟨ha49, hb50, hx51⟩ := idx_some hx51
            refine WL.val (Value.pointer (some (elA v_f1 ((k12 : Int)).toNat))) _ (op_idx sl_26 (Ty.lift _ hS25.ext r_f1) rfl rfl ha49 hb50) rfl ?_
            refine WL.grun rfl (bool_of rfl hc42) ?_
            obtain ⟨u52, hc53, hr54⟩ := repSl.el r_f1 hx51
            refine WL.val u52 _ (op_load one_22 rfl (Ext.cell hS25.ext hc53)) rfl ?_
            refine WL.grun rfl (bool_of rfl hc42) ?_
            obtain ⟨x55, hx58, hj44⟩ := bs hj44
            obtain ⟨ha56, hb57, hx58⟩ := idx_some hx58
            refine WL.val (Value.pointer (some (elA u52 ((0 : Int)).toNat))) _ (op_idx sl_22 (Ty.lift _ hS25.ext hr54) rfl rfl ha56 hb57) rfl ?_
            refine WL.grun rfl (bool_of rfl hc42) ?_
            obtain ⟨u59, hc60, hr61⟩ := repSl.el hr54 hx58
            obtain ⟨rfl, hr61⟩ := hr61
            refine WL.val (Value.int .i64 x55) _ (op_load one_2 rfl (Ext.cell hS25.ext hc60)) rfl ?_
            refine WL.grun rfl (bool_of rfl hc42) ?_
            refine WL.val (Value.bool (x55 != (0 : Int))) _ (op_neq rfl rfl) rfl ?_
            refine WL.val (Value.bool (x55 != (0 : Int))) _ (op_pick_f (evb_of rfl hc42) rfl) rfl ?_
            refine WL.nil ?_
            obtain rfl := Option.some.inj hj44
            exact ⟨rfl, hf21, hf22, hf23, rfl, hS25⟩
        · intro f45 wd46 hq47
          obtain ⟨hf62, hf63, hf64, hf65, hS66⟩ := hq47
          refine WL.nil ?_
          refine W.cond x43 hf65 (fun hc67 => ?_) (fun hc67 => ?_)
          · replace hb17 := ip hb17 hc67
            refine W.seq (W.region ?_)
            refine WL.val (Value.bool false) _ (op_assign rfl) rfl ?_
            refine WL.nil ?_
            refine W.ret ?_
            obtain rfl := Option.some.inj hb17
            obtain rfl := hret20 _ rfl
            replace h := onRes_ret h
            obtain rfl := Option.some.inj h
            show FinP _ _ _ _ _ _ _
            exact FinP.ret _ (res1 rfl rfl) ⟨rfl, hS66.ext⟩
          · replace hb17 := inegb hb17 hc67
            refine W.skip ?_
            show W _ _ _ _ _ _
            refine W.region ?_
            refine WL.val (Value.int .i64 (w64 ((k12 : Int) + (1 : Int)))) _ (op_add hf64 rfl) rfl ?_
            refine WL.val (Value.int .i64 (w64 ((k12 : Int) + (1 : Int)))) _ (op_move rfl) rfl ?_
            refine WL.nil ?_
            obtain rfl := Option.some.inj hb17
            show ∃ s, _ = Ctl.next s ∧ _
            exact ⟨_, rfl, hf62, hf63, (ctr_next hl26 hr9), (ctr_rng hl26 hr9), hS66⟩
      · intro s74 f70 wd71 hs72 hI73
        obtain ⟨⟩ := s74
        replace hI73 : f70 0 = v_f1 ∧ f70 14 = (Value.int .i64 ((f1).length : Int)) ∧ f70 15 = Value.int .i64 (((f1).length : Nat) : Int) ∧ InR .i64 (((f1).length : Nat) : Int) ∧ St w wd71 [] := hI73
        obtain ⟨hf75, hf76, hf77, hr78, hS79⟩ := hI73
        refine W.seq (W.region ?_)
        refine WL.val (Value.bool (decide ((((f1).length : Nat) : Int) < ((f1).length : Int)))) _ (op_lss hf77 hf76) rfl ?_
        have hl80 : ¬ (((f1).length : Nat) : Int) < ((f1).length : Int) := by omega
        refine WL.nil ?_
        refine W.seq ?_
        refine W.condF (decide ((((f1).length : Nat) : Int) < ((f1).length : Int))) rfl (decide_eq_false hl80) ?_
        refine W.exit ?_
        show _ = _ ∧ _
        exact ⟨rfl, _, hs72, hS79⟩
    · rintro f81 wd82 ⟨s84, rfl, hq83⟩
      replace h := onRes_fin h
      obtain ⟨⟩ := s84
      replace hq83 : St w wd82 [] := hq83
      have hS85 := hq83
      refine W.seq (W.region ?_)
      refine WL.val (Value.bool true) _ (op_assign rfl) rfl ?_
      refine WL.nil ?_
      refine W.ret ?_
      obtain rfl := Option.some.inj h
      show FinP _ _ _ _ _ _ _
      exact FinP.ret _ (res1 rfl rfl) ⟨rfl, hS85.ext⟩

theorem c_impl_hasNumbers {w : World} {b_Cocycle_Orders : (List Int)} {v_b_Cocycle_Orders : Value} {b_Cocycle_Modulus : Int} {b_Cocycle_Values : (List (List (List Int)))} {v_b_Cocycle_Values : Value} {b_Values : (List (List Int))} {v_b_Values : Value} (r_b_Cocycle_Orders : (Ty.sl (Ty.i .i64)).rep w v_b_Cocycle_Orders b_Cocycle_Orders) (r_b_Cocycle_Modulus : InR .i64 b_Cocycle_Modulus) (r_b_Cocycle_Values : (Ty.sl (Ty.sl (Ty.sl (Ty.i .i64)))).rep w v_b_Cocycle_Values b_Cocycle_Values) (r_b_Values : (Ty.sl (Ty.sl (Ty.i .i64))).rep w v_b_Values b_Values) {res : Bool} (h : p_impl_hasNumbers b_Cocycle_Orders b_Cocycle_Modulus b_Cocycle_Values b_Values  = some res) :
    Ret Try.prog 104 #[(Value.agg #[v_b_Cocycle_Orders, (Value.int .i64 b_Cocycle_Modulus), v_b_Cocycle_Values, v_b_Values])] w (fun v w' => v = Value.bool res ∧ Ext w w') := by
  unfold p_impl_hasNumbers at h
  have hS0 : St w w [] := St.start w
  refine Ret.start (fn := Try.f104) Try.func104 rfl 18 rfl rfl ?_
  refine W.seq (W.region ?_)
  refine WL.box hS0 rfl (cs := [v_b_Cocycle_Orders, (Value.int .i64 b_Cocycle_Modulus), v_b_Cocycle_Values, v_b_Values]) rfl rfl ?_
  intro b1 wd2 hS3 he4 hx5
  replace hS3 : St w wd2 [bx b1 [v_b_Cocycle_Orders, (Value.int .i64 b_Cocycle_Modulus), v_b_Cocycle_Values, v_b_Values]] := hS3
  have hx6 := St.boxAt hS3 0 rfl
  have hE7 : Ext w wd2 := hS3.ext
  have hS8 : St wd2 wd2 [] := St.start wd2
  refine WL.val (Value.bool false) _ (op_assign rfl) rfl ?_
  refine WL.nil ?_
  refine W.seq (W.region ?_)
  refine WL.val (Value.pointer (some ⟨b1, 0, none⟩)) _ (op_fieldAddr fd_36_0 rfl) rfl ?_
  refine WL.val (Value.agg #[v_b_Cocycle_Orders, (Value.int .i64 b_Cocycle_Modulus), v_b_Cocycle_Values]) _ (op_loadBox st_34 rfl (BoxAt.lift hS8.ext hx6) rfl rfl) rfl ?_
  obtain ⟨x9, hx10, h⟩ := bs h
  refine WL.call _ (op_call fn_23 (args1 rfl)) (c_impl_IsCocycle (Ty.lift _ (Ext.trans hE7 hS8.ext) r_b_Cocycle_Orders) r_b_Cocycle_Modulus (Ty.lift _ (Ext.trans hE7 hS8.ext) r_b_Cocycle_Values) hx10) rfl ?_
  rintro _ wd11 ⟨rfl, he12⟩
  have hS14 := St.extend hS8 he12
  replace hS14 : St wd2 wd11 [] := hS14
  refine WL.val (Value.bool x9) _ (op_move rfl) rfl ?_
  obtain ⟨x16, hj17, h⟩ := bs h
  refine WL.cut 11 (fun fq wq => fq 17 = Value.bool x16 ∧ St wd2 wq []) ?_ ?_
  · rcases Bool.eq_false_or_eq_true x9 with hc15 | hc15
    · replace hj17 := ip hj17 hc15
      refine WL.grun rfl (bool_of rfl hc15) ?_
      refine WL.val (Value.pointer (some ⟨b1, 3, none⟩)) _ (op_fieldAddr fd_36_1 rfl) rfl ?_
      refine WL.grun rfl (bool_of rfl hc15) ?_
      refine WL.val v_b_Values _ (op_load one_26 rfl (BoxAt.cell (BoxAt.lift hS14.ext hx6) rfl)) rfl ?_
      refine WL.grun rfl (bool_of rfl hc15) ?_
      refine WL.val (Value.pointer (some ⟨b1, 0, none⟩)) _ (op_fieldAddr fd_36_0 rfl) rfl ?_
      refine WL.grun rfl (bool_of rfl hc15) ?_
      refine WL.val (Value.pointer (some ⟨b1, 2, none⟩)) _ (op_fieldAddr fd_34_2 rfl) rfl ?_
      refine WL.grun rfl (bool_of rfl hc15) ?_
      refine WL.val v_b_Cocycle_Values _ (op_load one_23 rfl (BoxAt.cell (BoxAt.lift hS14.ext hx6) rfl)) rfl ?_
      refine WL.grun rfl (bool_of rfl hc15) ?_
      have hr21 := inR_len (Ty.lift _ (Ext.trans hE7 hS14.ext) r_b_Cocycle_Values)
      refine WL.val (Value.int .i64 ((b_Cocycle_Values).length : Int)) _ (op_lenL sl_23 (Ty.lift _ (Ext.trans hE7 hS14.ext) r_b_Cocycle_Values) rfl) rfl ?_
      refine WL.grun rfl (bool_of rfl hc15) ?_
      refine WL.val (Value.pointer (some ⟨b1, 0, none⟩)) _ (op_fieldAddr fd_36_0 rfl) rfl ?_
      refine WL.grun rfl (bool_of rfl hc15) ?_
      refine WL.val (Value.pointer (some ⟨b1, 1, none⟩)) _ (op_fieldAddr fd_34_1 rfl) rfl ?_
      refine WL.grun rfl (bool_of rfl hc15) ?_
      refine WL.val (Value.int .i64 b_Cocycle_Modulus) _ (op_load one_2 rfl (BoxAt.cell (BoxAt.lift hS14.ext hx6) rfl)) rfl ?_
      refine WL.grun rfl (bool_of rfl hc15) ?_
      obtain ⟨x22, hx23, hj17⟩ := bs hj17
      refine WL.call _ (op_call fn_130 (args3 rfl rfl rfl)) (c_impl_isPairing (Ty.lift _ (Ext.trans hE7 hS14.ext) r_b_Values) hr21 r_b_Cocycle_Modulus hx23) rfl ?_
      rintro _ wd24 ⟨rfl, he25⟩
      have hS27 := St.extend hS14 he25
      replace hS27 : St wd2 wd24 [] := hS27
      refine WL.val (Value.bool x22) _ (op_pick_t (evb_of rfl hc15) rfl) rfl ?_
      refine WL.nil ?_
      obtain rfl := Option.some.inj hj17
      exact ⟨rfl, rfl, hS27⟩
    · replace hj17 := inegb hj17 hc15
      refine WL.gskip rfl (bool_of rfl hc15) rfl ?_
      refine WL.gskip rfl (bool_of rfl hc15) rfl ?_
      refine WL.gskip rfl (bool_of rfl hc15) rfl ?_
      refine WL.gskip rfl (bool_of rfl hc15) rfl ?_
      refine WL.gskip rfl (bool_of rfl hc15) rfl ?_
      refine WL.gskip rfl (bool_of rfl hc15) rfl ?_
      refine WL.gskip rfl (bool_of rfl hc15) rfl ?_
      refine WL.gskip rfl (bool_of rfl hc15) rfl ?_
      refine WL.gskip rfl (bool_of rfl hc15) rfl ?_
      refine WL.gskip rfl (bool_of rfl hc15) rfl ?_
      refine WL.val (Value.bool false) _ (op_pick_f (evb_of rfl hc15) rfl) rfl ?_
      refine WL.nil ?_
      obtain rfl := Option.some.inj hj17
      exact ⟨rfl, rfl, hS14⟩
  · intro f18 wd19 hq20
    obtain ⟨hf28, hS29⟩ := hq20
    refine WL.val (Value.bool x16) _ (op_assign hf28) rfl ?_
    refine WL.nil ?_
    refine W.ret ?_
    obtain rfl := Option.some.inj h
    show FinP _ _ _ _ _ _ _
    exact FinP.ret _ (res1 rfl rfl) ⟨rfl, (Ext.trans hE7 hS29.ext)⟩

theorem c_impl_Braiding_holds {w : World} {b_Cocycle_Orders : (List Int)} {v_b_Cocycle_Orders : Value} {b_Cocycle_Modulus : Int} {b_Cocycle_Values : (List (List (List Int)))} {v_b_Cocycle_Values : Value} {b_Values : (List (List Int))} {v_b_Values : Value} {equation : Int} {x : Int} {y : Int} {z : Int} (r_b_Cocycle_Orders : (Ty.sl (Ty.i .i64)).rep w v_b_Cocycle_Orders b_Cocycle_Orders) (r_b_Cocycle_Modulus : InR .i64 b_Cocycle_Modulus) (r_b_Cocycle_Values : (Ty.sl (Ty.sl (Ty.sl (Ty.i .i64)))).rep w v_b_Cocycle_Values b_Cocycle_Values) (r_b_Values : (Ty.sl (Ty.sl (Ty.i .i64))).rep w v_b_Values b_Values) (r_equation : InR .i64 equation) (r_x : InR .i64 x) (r_y : InR .i64 y) (r_z : InR .i64 z) {res : Bool} (h : p_impl_Braiding_holds b_Cocycle_Orders b_Cocycle_Modulus b_Cocycle_Values b_Values equation x y z  = some res) :
    Ret Try.prog 131 #[(Value.agg #[v_b_Cocycle_Orders, (Value.int .i64 b_Cocycle_Modulus), v_b_Cocycle_Values, v_b_Values]), (Value.int .i64 equation), (Value.int .i64 x), (Value.int .i64 y), (Value.int .i64 z)] w (fun v w' => v = Value.bool res ∧ Ext w w') := by
  unfold p_impl_Braiding_holds at h
  have hS0 : St w w [] := St.start w
  refine Ret.start (fn := Try.f131) Try.func131 rfl 149 rfl rfl ?_
  refine W.seq (W.region ?_)
  refine WL.box hS0 rfl (cs := [v_b_Cocycle_Orders, (Value.int .i64 b_Cocycle_Modulus), v_b_Cocycle_Values, v_b_Values]) rfl rfl ?_
  intro b1 wd2 hS3 he4 hx5
  replace hS3 : St w wd2 [bx b1 [v_b_Cocycle_Orders, (Value.int .i64 b_Cocycle_Modulus), v_b_Cocycle_Values, v_b_Values]] := hS3
  have hx6 := St.boxAt hS3 0 rfl
  have hE7 : Ext w wd2 := hS3.ext
  have hS8 : St wd2 wd2 [] := St.start wd2
  refine WL.val (Value.bool false) _ (op_assign rfl) rfl ?_
  refine WL.nil ?_
  refine W.seq ?_
  refine W.drawR mixo 10 [] [fun _ v _ _ => v = (Value.pointer (some ⟨b1, 0, none⟩)), fun _ v _ _ => v = (Value.pointer (some ⟨b1, 2, none⟩)), fun _ v _ _ => v = v_b_Cocycle_Values, fun _ v _ _ => v = (Value.pointer (some ⟨b1, 3, none⟩)), fun _ v _ _ => v = v_b_Values, fun _ v _ _ => v = (Value.pointer (some ⟨b1, 0, none⟩)), fun _ v S w' => v = (Value.agg #[v_b_Cocycle_Orders, (Value.int .i64 b_Cocycle_Modulus), v_b_Cocycle_Values]) ∧ InR .i64 b_Cocycle_Modulus, fun _ v S w' => ∃ b : Nat, v = Value.pointer (some ⟨b, 0, none⟩) ∧ SepS S w' [bx b [(Value.slice none 0 0), (Value.int .i64 (0 : Int)), (Value.slice none 0 0)]], fun _ v _ _ => v = v_b_Cocycle_Values, fun _ v _ _ => v = v_b_Values] (by kernel_rfl) (by kernel_rfl) ⟨pk, pk, pk, pk, pk, pk, ⟨fun _ _ _ _ _ he ⟨h0, h1⟩ => ⟨h0, h1⟩, fun _ _ _ _ _ _ h => h⟩, ⟨fun _ _ _ _ _ he ⟨b, h1, h2⟩ => ⟨b, h1, SepS.extend he h2⟩, fun _ _ _ _ _ _ h => h⟩, pk, pk, trivial⟩ ⟨?_, ?_, ?_, ?_, ?_, ?_, ?_, ?_, ?_, ?_, trivial⟩ ?_
  · refine ObX.op rfl fun f9 wd10 he11 hout12 hphi13 => ?_
    have e15 : f9 5 = (Value.pointer (some ⟨b1, 0, none⟩)) := (hout12 5 rfl).trans rfl
    exact OpX.val (Value.pointer (some ⟨b1, 0, none⟩)) wd10 rfl (op_fieldAddr fd_36_0 e15) (Ext.refl _) rfl
  · refine ObX.op rfl fun f16 wd17 he18 hout19 hphi20 => ?_
    obtain ⟨S22, hS23, hf24⟩ := hphi20 0 14 _ rfl rfl rfl
    have e25 : f16 14 = (Value.pointer (some ⟨b1, 0, none⟩)) := hf24
    exact OpX.val (Value.pointer (some ⟨b1, 2, none⟩)) wd17 rfl (op_fieldAddr fd_34_2 e25) (Ext.refl _) rfl
  · refine ObX.op rfl fun f26 wd27 he28 hout29 hphi30 => ?_
    have hS31 := St.extend hS8 he28
    obtain ⟨S32, hS33, hf34⟩ := hphi30 1 15 _ rfl rfl rfl
    have e35 : f26 15 = (Value.pointer (some ⟨b1, 2, none⟩)) := hf34
    exact OpX.val v_b_Cocycle_Values wd27 rfl (op_load one_23 e35 (BoxAt.cell (BoxAt.lift hS31.ext hx6) rfl)) (Ext.refl _) rfl
  · refine ObX.op rfl fun f36 wd37 he38 hout39 hphi40 => ?_
    have e42 : f36 5 = (Value.pointer (some ⟨b1, 0, none⟩)) := (hout39 5 rfl).trans rfl
    exact OpX.val (Value.pointer (some ⟨b1, 3, none⟩)) wd37 rfl (op_fieldAddr fd_36_1 e42) (Ext.refl _) rfl
  · refine ObX.op rfl fun f43 wd44 he45 hout46 hphi47 => ?_
    have hS48 := St.extend hS8 he45
    obtain ⟨S49, hS50, hf51⟩ := hphi47 3 17 _ rfl rfl rfl
    have e52 : f43 17 = (Value.pointer (some ⟨b1, 3, none⟩)) := hf51
    exact OpX.val v_b_Values wd44 rfl (op_load one_26 e52 (BoxAt.cell (BoxAt.lift hS48.ext hx6) rfl)) (Ext.refl _) rfl
  · refine ObX.op rfl fun f53 wd54 he55 hout56 hphi57 => ?_
    have e59 : f53 5 = (Value.pointer (some ⟨b1, 0, none⟩)) := (hout56 5 rfl).trans rfl
    exact OpX.val (Value.pointer (some ⟨b1, 0, none⟩)) wd54 rfl (op_fieldAddr fd_36_0 e59) (Ext.refl _) rfl
  · refine ObX.op rfl fun f60 wd61 he62 hout63 hphi64 => ?_
    have hS65 := St.extend hS8 he62
    obtain ⟨S66, hS67, hf68⟩ := hphi64 5 19 _ rfl rfl rfl
    have e69 : f60 19 = (Value.pointer (some ⟨b1, 0, none⟩)) := hf68
    exact OpX.val (Value.agg #[v_b_Cocycle_Orders, (Value.int .i64 b_Cocycle_Modulus), v_b_Cocycle_Values]) wd61 rfl (op_loadBox st_34 e69 (BoxAt.lift hS65.ext hx6) rfl rfl) (Ext.refl _) ⟨rfl, r_b_Cocycle_Modulus⟩
  · refine ObX.op rfl fun f70 wd71 he72 hout73 hphi74 => ?_
    exact OpX.valO _ _ rfl (op_alloc (cs := [(Value.slice none 0 0), (Value.int .i64 (0 : Int)), (Value.slice none 0 0)].toArray) ze_34 rfl) (Ext.alloc _ _) ⟨_, rfl, Sep.new (sep_box _ [(Value.slice none 0 0), (Value.int .i64 (0 : Int)), (Value.slice none 0 0)] _)⟩
  · refine ObX.op rfl fun f76 wd77 he78 hout79 hphi80 => ?_
    obtain ⟨S82, hS83, hf84⟩ := hphi80 2 16 _ rfl rfl rfl
    have e85 : f76 16 = v_b_Cocycle_Values := hf84
    exact OpX.val v_b_Cocycle_Values wd77 rfl (op_assign e85) (Ext.refl _) rfl
  · refine ObX.op rfl fun f86 wd87 he88 hout89 hphi90 => ?_
    obtain ⟨S92, hS93, hf94⟩ := hphi90 4 18 _ rfl rfl rfl
    have e95 : f86 18 = v_b_Values := hf94
    exact OpX.val v_b_Values wd87 rfl (op_assign e95) (Ext.refl _) rfl
  · intro f96 wd97 Ss98 he99 hout100 hSn101 hSd102 hphi103
    show WL _ _ _ _ _ _ _
    obtain ⟨e105, hr106⟩ := hphi103 6 20 _ (by decide) rfl rfl
    obtain ⟨b108, e107, e107s⟩ : ∃ b : Nat, f96 13 = Value.pointer (some ⟨b, 0, none⟩) ∧ SepS (Ss98 7) wd97 [bx b [(Value.slice none 0 0), (Value.int .i64 (0 : Int)), (Value.slice none 0 0)]] := hphi103 7 13 _ (by decide) rfl rfl
    have e109 : f96 11 = v_b_Cocycle_Values := hphi103 8 11 _ (by decide) rfl rfl
    have e110 : f96 12 = v_b_Values := hphi103 9 12 _ (by decide) rfl rfl
    have e111 : f96 1 = (Value.int .i64 equation) := (hout100 1 rfl).trans rfl
    have e112 : f96 2 = (Value.int .i64 x) := (hout100 2 rfl).trans rfl
    have e113 : f96 3 = (Value.int .i64 y) := (hout100 3 rfl).trans rfl
    have e114 : f96 4 = (Value.int .i64 z) := (hout100 4 rfl).trans rfl
    have hS115 := St.joinS hS8 he99 hSn101 (SepS.consS hSd102 rfl e107s SepS.nilS)
    replace hS115 : St wd2 wd97 [bx b108 [(Value.slice none 0 0), (Value.int .i64 (0 : Int)), (Value.slice none 0 0)]] := hS115
    refine WL.storeBox [v_b_Cocycle_Orders, (Value.int .i64 b_Cocycle_Modulus), v_b_Cocycle_Values] hS115 (k := 0) rfl e107 e105 (us := [v_b_Cocycle_Orders, (Value.int .i64 b_Cocycle_Modulus), v_b_Cocycle_Values]) rfl sz_34 rfl rfl (all_rep (Ty.lift _ (Ext.trans hE7 hS115.ext) r_b_Cocycle_Orders) (all_cons rfl (all_rep (Ty.lift _ (Ext.trans hE7 hS115.ext) r_b_Cocycle_Values) all_nil))) rfl ?_
    intro wd116 hS117
    replace hS117 : St wd2 wd116 [bx b108 [v_b_Cocycle_Orders, (Value.int .i64 b_Cocycle_Modulus), v_b_Cocycle_Values]] := hS117
    refine WL.nil ?_
    refine W.seq (W.seq (W.region ?_))
    refine WL.val (Value.int .i64 equation) _ (op_move e111) rfl ?_
    refine WL.val (Value.bool (equation == (1 : Int))) _ (op_eql rfl rfl) rfl ?_
    refine WL.nil ?_
    refine W.cond (equation == (1 : Int)) rfl (fun hc118 => ?_) (fun hc118 => ?_)
    · replace h := ip h hc118
      refine W.seq ?_
      obtain ⟨x156, hx159, h⟩ := bs h
      obtain ⟨ha157, hb158, hx159⟩ := idx_some hx159
      obtain ⟨u170, hc171, hr172⟩ := repSl.el r_b_Cocycle_Values hx159
      obtain ⟨x195, hx198, h⟩ := bs h
      obtain ⟨ha196, hb197, hx198⟩ := idx_some hx198
      obtain ⟨u209, hc210, hr211⟩ := repSl.el hr172 hx198
      obtain ⟨x234, hx237, h⟩ := bs h
      obtain ⟨ha235, hb236, hx237⟩ := idx_some hx237
      obtain ⟨u248, hc249, hr250⟩ := repSl.el hr211 hx237
      obtain ⟨rfl, hr250⟩ := hr250
      obtain ⟨x280, hx283, h⟩ := bs h
      obtain ⟨ha281, hb282, hx283⟩ := idx_some hx283
      obtain ⟨u294, hc295, hr296⟩ := repSl.el r_b_Values hx283
      obtain ⟨x339, hx340, h⟩ := bs h
      obtain ⟨x360, hx363, h⟩ := bs h
      obtain ⟨ha361, hb362, hx363⟩ := idx_some hx363
      obtain ⟨u374, hc375, hr376⟩ := repSl.el hr296 hx363
      obtain ⟨rfl, hr376⟩ := hr376
      obtain ⟨x422, hx425, h⟩ := bs h
      obtain ⟨ha423, hb424, hx425⟩ := idx_some hx425
      obtain ⟨u436, hc437, hr438⟩ := repSl.el r_b_Cocycle_Values hx425
      obtain ⟨x461, hx464, h⟩ := bs h
      obtain ⟨ha462, hb463, hx464⟩ := idx_some hx464
      obtain ⟨u475, hc476, hr477⟩ := repSl.el hr438 hx464
      obtain ⟨x500, hx503, h⟩ := bs h
      obtain ⟨ha501, hb502, hx503⟩ := idx_some hx503
      obtain ⟨u514, hc515, hr516⟩ := repSl.el hr477 hx503
      obtain ⟨rfl, hr516⟩ := hr516
      obtain ⟨x549, hx550, h⟩ := bs h
      obtain ⟨u601, hc602, hr603⟩ := repSl.el r_b_Values hx283
      obtain ⟨x626, hx629, h⟩ := bs h
      obtain ⟨ha627, hb628, hx629⟩ := idx_some hx629
      obtain ⟨u640, hc641, hr642⟩ := repSl.el hr603 hx629
      obtain ⟨rfl, hr642⟩ := hr642
      obtain ⟨u682, hc683, hr684⟩ := repSl.el r_b_Cocycle_Values hx159
      obtain ⟨x707, hx710, h⟩ := bs h
      obtain ⟨ha708, hb709, hx710⟩ := idx_some hx710
      obtain ⟨u721, hc722, hr723⟩ := repSl.el hr684 hx710
      obtain ⟨x746, hx749, h⟩ := bs h
      obtain ⟨ha747, hb748, hx749⟩ := idx_some hx749
      obtain ⟨u760, hc761, hr762⟩ := repSl.el hr723 hx749
      obtain ⟨rfl, hr762⟩ := hr762
      obtain ⟨u818, hc819, hr820⟩ := repSl.el r_b_Values hx283
      obtain ⟨x843, hx846, h⟩ := bs h
      obtain ⟨ha844, hb845, hx846⟩ := idx_some hx846
      obtain ⟨u857, hc858, hr859⟩ := repSl.el hr820 hx846
      obtain ⟨rfl, hr859⟩ := hr859
      refine W.drawR mixo 61 [] [fun _ v S w' => v = (Value.agg #[v_b_Cocycle_Orders, (Value.int .i64 b_Cocycle_Modulus), v_b_Cocycle_Values]) ∧ InR .i64 b_Cocycle_Modulus, fun _ v _ _ => v = v_b_Cocycle_Values, fun _ v _ _ => v = (Value.int .i64 y) ∧ InR .i64 y, fun _ v _ _ => v = (Value.pointer (some (elA v_b_Cocycle_Values (y).toNat))), fun _ v _ _ => v = u170, fun _ v _ _ => v = (Value.int .i64 z) ∧ InR .i64 z, fun _ v _ _ => v = (Value.pointer (some (elA u170 (z).toNat))), fun _ v _ _ => v = u209, fun _ v _ _ => v = (Value.int .i64 x) ∧ InR .i64 x, fun _ v _ _ => v = (Value.pointer (some (elA u209 (x).toNat))), fun _ v _ _ => v = (Value.int .i64 x234) ∧ InR .i64 x234, fun _ v _ _ => v = v_b_Values, fun _ v _ _ => v = (Value.int .i64 x) ∧ InR .i64 x, fun _ v _ _ => v = (Value.pointer (some (elA v_b_Values (x).toNat))), fun _ v _ _ => v = u294, fun _ v S w' => v = (Value.agg #[v_b_Cocycle_Orders, (Value.int .i64 b_Cocycle_Modulus), v_b_Cocycle_Values]) ∧ InR .i64 b_Cocycle_Modulus, fun _ v _ _ => v = (Value.int .i64 y) ∧ InR .i64 y, fun _ v _ _ => v = (Value.int .i64 z) ∧ InR .i64 z, fun _ v _ _ => v = (Value.int .i64 x339) ∧ InR .i64 x339, fun _ v _ _ => v = (Value.pointer (some (elA u294 (x339).toNat))), fun _ v _ _ => v = (Value.int .i64 x360) ∧ InR .i64 x360, fun _ v _ _ => v = (Value.int .i64 (w64 (x234 + x360))) ∧ InR .i64 (w64 (x234 + x360)), fun _ v _ _ => v = v_b_Cocycle_Values, fun _ v _ _ => v = (Value.int .i64 x) ∧ InR .i64 x, fun _ v _ _ => v = (Value.pointer (some (elA v_b_Cocycle_Values (x).toNat))), fun _ v _ _ => v = u436, fun _ v _ _ => v = (Value.int .i64 y) ∧ InR .i64 y, fun _ v _ _ => v = (Value.pointer (some (elA u436 (y).toNat))), fun _ v _ _ => v = u475, fun _ v _ _ => v = (Value.int .i64 z) ∧ InR .i64 z, fun _ v _ _ => v = (Value.pointer (some (elA u475 (z).toNat))), fun _ v _ _ => v = (Value.int .i64 x500) ∧ InR .i64 x500, fun _ v _ _ => v = (Value.int .i64 (w64 ((w64 (x234 + x360)) + x500))) ∧ InR .i64 (w64 ((w64 (x234 + x360)) + x500)), fun _ v _ _ => v = (Value.int .i64 x549) ∧ InR .i64 x549, fun _ v S w' => v = (Value.agg #[v_b_Cocycle_Orders, (Value.int .i64 b_Cocycle_Modulus), v_b_Cocycle_Values]) ∧ InR .i64 b_Cocycle_Modulus, fun _ v _ _ => v = v_b_Values, fun _ v _ _ => v = (Value.int .i64 x) ∧ InR .i64 x, fun _ v _ _ => v = (Value.pointer (some (elA v_b_Values (x).toNat))), fun _ v _ _ => v = u601, fun _ v _ _ => v = (Value.int .i64 z) ∧ InR .i64 z, fun _ v _ _ => v = (Value.pointer (some (elA u601 (z).toNat))), fun _ v _ _ => v = (Value.int .i64 x626) ∧ InR .i64 x626, fun _ v _ _ => v = v_b_Cocycle_Values, fun _ v _ _ => v = (Value.int .i64 y) ∧ InR .i64 y, fun _ v _ _ => v = (Value.pointer (some (elA v_b_Cocycle_Values (y).toNat))), fun _ v _ _ => v = u682, fun _ v _ _ => v = (Value.int .i64 x) ∧ InR .i64 x, fun _ v _ _ => v = (Value.pointer (some (elA u682 (x).toNat))), fun _ v _ _ => v = u721, fun _ v _ _ => v = (Value.int .i64 z) ∧ InR .i64 z, fun _ v _ _ => v = (Value.pointer (some (elA u721 (z).toNat))), fun _ v _ _ => v = (Value.int .i64 x746) ∧ InR .i64 x746, fun _ v _ _ => v = (Value.int .i64 (w64 (x626 + x746))) ∧ InR .i64 (w64 (x626 + x746)), fun _ v _ _ => v = v_b_Values, fun _ v _ _ => v = (Value.int .i64 x) ∧ InR .i64 x, fun _ v _ _ => v = (Value.pointer (some (elA v_b_Values (x).toNat))), fun _ v _ _ => v = u818, fun _ v _ _ => v = (Value.int .i64 y) ∧ InR .i64 y, fun _ v _ _ => v = (Value.pointer (some (elA u818 (y).toNat))), fun _ v _ _ => v = (Value.int .i64 x843) ∧ InR .i64 x843, fun _ v _ _ => v = (Value.int .i64 (w64 ((w64 (x626 + x746)) + x843))) ∧ InR .i64 (w64 ((w64 (x626 + x746)) + x843))] (by kernel_rfl) (by kernel_rfl) ⟨⟨fun _ _ _ _ _ he ⟨h0, h1⟩ => ⟨h0, h1⟩, fun _ _ _ _ _ _ h => h⟩, pk, pk, pk, pk, pk, pk, pk, pk, pk, pk, pk, pk, pk, pk, ⟨fun _ _ _ _ _ he ⟨h0, h1⟩ => ⟨h0, h1⟩, fun _ _ _ _ _ _ h => h⟩, pk, pk, pk, pk, pk, pk, pk, pk, pk, pk, pk, pk, pk, pk, pk, pk, pk, pk, ⟨fun _ _ _ _ _ he ⟨h0, h1⟩ => ⟨h0, h1⟩, fun _ _ _ _ _ _ h => h⟩, pk, pk, pk, pk, pk, pk, pk, pk, pk, pk, pk, pk, pk, pk, pk, pk, pk, pk, pk, pk, pk, pk, pk, pk, pk, pk, trivial⟩ ⟨?_, ?_, ?_, ?_, ?_, ?_, ?_, ?_, ?_, ?_, ?_, ?_, ?_, ?_, ?_, ?_, ?_, ?_, ?_, ?_, ?_, ?_, ?_, ?_, ?_, ?_, ?_, ?_, ?_, ?_, ?_, ?_, ?_, ?_, ?_, ?_, ?_, ?_, ?_, ?_, ?_, ?_, ?_, ?_, ?_, ?_, ?_, ?_, ?_, ?_, ?_, ?_, ?_, ?_, ?_, ?_, ?_, ?_, ?_, ?_, ?_, trivial⟩ ?_
      · refine ObX.op rfl fun f120 wd121 he122 hout123 hphi124 => ?_
        have hS125 := St.extend hS117 he122
        have e126 : f120 13 = (Value.pointer (some ⟨b108, 0, none⟩)) := (hout123 13 rfl).trans e107
        exact OpX.val (Value.agg #[v_b_Cocycle_Orders, (Value.int .i64 b_Cocycle_Modulus), v_b_Cocycle_Values]) wd121 rfl (op_loadBox st_34 e126 (St.boxAt hS125 0 rfl) rfl rfl) (Ext.refl _) ⟨rfl, hr106⟩
      · refine ObX.op rfl fun f127 wd128 he129 hout130 hphi131 => ?_
        have e133 : f127 11 = v_b_Cocycle_Values := (hout130 11 rfl).trans e109
        exact OpX.val v_b_Cocycle_Values wd128 rfl (op_move e133) (Ext.refl _) rfl
      · refine ObX.op rfl fun f134 wd135 he136 hout137 hphi138 => ?_
        have e140 : f134 3 = (Value.int .i64 y) := (hout137 3 rfl).trans e113
        exact OpX.val (Value.int .i64 y) wd135 rfl (op_move e140) (Ext.refl _) ⟨rfl, r_y⟩
      · refine ObX.op rfl fun f141 wd142 he143 hout144 hphi145 => ?_
        have hS146 := St.extend hS117 he143
        obtain ⟨S147, hS148, hf149⟩ := hphi145 1 24 _ rfl rfl rfl
        have e150 : f141 24 = v_b_Cocycle_Values := hf149
        obtain ⟨S151, hS152, hf153⟩ := hphi145 2 25 _ rfl rfl rfl
        obtain ⟨e154, hr155⟩ := hf153
        exact OpX.val (Value.pointer (some (elA v_b_Cocycle_Values (y).toNat))) wd142 rfl (op_idx sl_23 (Ty.lift _ (Ext.trans hE7 hS146.ext) r_b_Cocycle_Values) e150 e154 ha157 hb158) (Ext.refl _) rfl
      · refine ObX.op rfl fun f160 wd161 he162 hout163 hphi164 => ?_
        have hS165 := St.extend hS117 he162
        obtain ⟨S166, hS167, hf168⟩ := hphi164 3 26 _ rfl rfl rfl
        have e169 : f160 26 = (Value.pointer (some (elA v_b_Cocycle_Values (y).toNat))) := hf168
        exact OpX.val u170 wd161 rfl (op_load one_26 e169 (Ext.cell (Ext.trans hE7 hS165.ext) hc171)) (Ext.refl _) rfl
      · refine ObX.op rfl fun f173 wd174 he175 hout176 hphi177 => ?_
        have e179 : f173 4 = (Value.int .i64 z) := (hout176 4 rfl).trans e114
        exact OpX.val (Value.int .i64 z) wd174 rfl (op_move e179) (Ext.refl _) ⟨rfl, r_z⟩
      · refine ObX.op rfl fun f180 wd181 he182 hout183 hphi184 => ?_
        have hS185 := St.extend hS117 he182
        obtain ⟨S186, hS187, hf188⟩ := hphi184 4 27 _ rfl rfl rfl
        have e189 : f180 27 = u170 := hf188
        obtain ⟨S190, hS191, hf192⟩ := hphi184 5 28 _ rfl rfl rfl
        obtain ⟨e193, hr194⟩ := hf192
        exact OpX.val (Value.pointer (some (elA u170 (z).toNat))) wd181 rfl (op_idx sl_26 (Ty.lift _ (Ext.trans hE7 hS185.ext) hr172) e189 e193 ha196 hb197) (Ext.refl _) rfl
      · refine ObX.op rfl fun f199 wd200 he201 hout202 hphi203 => ?_
        have hS204 := St.extend hS117 he201
        obtain ⟨S205, hS206, hf207⟩ := hphi203 6 29 _ rfl rfl rfl
        have e208 : f199 29 = (Value.pointer (some (elA u170 (z).toNat))) := hf207
        exact OpX.val u209 wd200 rfl (op_load one_22 e208 (Ext.cell (Ext.trans hE7 hS204.ext) hc210)) (Ext.refl _) rfl
      · refine ObX.op rfl fun f212 wd213 he214 hout215 hphi216 => ?_
        have e218 : f212 2 = (Value.int .i64 x) := (hout215 2 rfl).trans e112
        exact OpX.val (Value.int .i64 x) wd213 rfl (op_move e218) (Ext.refl _) ⟨rfl, r_x⟩
      · refine ObX.op rfl fun f219 wd220 he221 hout222 hphi223 => ?_
        have hS224 := St.extend hS117 he221
        obtain ⟨S225, hS226, hf227⟩ := hphi223 7 30 _ rfl rfl rfl
        have e228 : f219 30 = u209 := hf227
        obtain ⟨S229, hS230, hf231⟩ := hphi223 8 31 _ rfl rfl rfl
        obtain ⟨e232, hr233⟩ := hf231
        exact OpX.val (Value.pointer (some (elA u209 (x).toNat))) wd220 rfl (op_idx sl_22 (Ty.lift _ (Ext.trans hE7 hS224.ext) hr211) e228 e232 ha235 hb236) (Ext.refl _) rfl
      · refine ObX.op rfl fun f238 wd239 he240 hout241 hphi242 => ?_
        have hS243 := St.extend hS117 he240
        obtain ⟨S244, hS245, hf246⟩ := hphi242 9 32 _ rfl rfl rfl
        have e247 : f238 32 = (Value.pointer (some (elA u209 (x).toNat))) := hf246
        exact OpX.val (Value.int .i64 x234) wd239 rfl (op_load one_2 e247 (Ext.cell (Ext.trans hE7 hS243.ext) hc249)) (Ext.refl _) ⟨rfl, hr250⟩
      · refine ObX.op rfl fun f251 wd252 he253 hout254 hphi255 => ?_
        have e257 : f251 12 = v_b_Values := (hout254 12 rfl).trans e110
        exact OpX.val v_b_Values wd252 rfl (op_move e257) (Ext.refl _) rfl
      · refine ObX.op rfl fun f258 wd259 he260 hout261 hphi262 => ?_
        have e264 : f258 2 = (Value.int .i64 x) := (hout261 2 rfl).trans e112
        exact OpX.val (Value.int .i64 x) wd259 rfl (op_move e264) (Ext.refl _) ⟨rfl, r_x⟩
      · refine ObX.op rfl fun f265 wd266 he267 hout268 hphi269 => ?_
        have hS270 := St.extend hS117 he267
        obtain ⟨S271, hS272, hf273⟩ := hphi269 11 34 _ rfl rfl rfl
        have e274 : f265 34 = v_b_Values := hf273
        obtain ⟨S275, hS276, hf277⟩ := hphi269 12 35 _ rfl rfl rfl
        obtain ⟨e278, hr279⟩ := hf277
        exact OpX.val (Value.pointer (some (elA v_b_Values (x).toNat))) wd266 rfl (op_idx sl_26 (Ty.lift _ (Ext.trans hE7 hS270.ext) r_b_Values) e274 e278 ha281 hb282) (Ext.refl _) rfl
      · refine ObX.op rfl fun f284 wd285 he286 hout287 hphi288 => ?_
        have hS289 := St.extend hS117 he286
        obtain ⟨S290, hS291, hf292⟩ := hphi288 13 36 _ rfl rfl rfl
        have e293 : f284 36 = (Value.pointer (some (elA v_b_Values (x).toNat))) := hf292
        exact OpX.val u294 wd285 rfl (op_load one_22 e293 (Ext.cell (Ext.trans hE7 hS289.ext) hc295)) (Ext.refl _) rfl
      · refine ObX.op rfl fun f297 wd298 he299 hout300 hphi301 => ?_
        have hS302 := St.extend hS117 he299
        have e303 : f297 13 = (Value.pointer (some ⟨b108, 0, none⟩)) := (hout300 13 rfl).trans e107
        exact OpX.val (Value.agg #[v_b_Cocycle_Orders, (Value.int .i64 b_Cocycle_Modulus), v_b_Cocycle_Values]) wd298 rfl (op_loadBox st_34 e303 (St.boxAt hS302 0 rfl) rfl rfl) (Ext.refl _) ⟨rfl, hr106⟩
      · refine ObX.op rfl fun f304 wd305 he306 hout307 hphi308 => ?_
        have e310 : f304 3 = (Value.int .i64 y) := (hout307 3 rfl).trans e113
        exact OpX.val (Value.int .i64 y) wd305 rfl (op_move e310) (Ext.refl _) ⟨rfl, r_y⟩
      · refine ObX.op rfl fun f311 wd312 he313 hout314 hphi315 => ?_
        have e317 : f311 4 = (Value.int .i64 z) := (hout314 4 rfl).trans e114
        exact OpX.val (Value.int .i64 z) wd312 rfl (op_move e317) (Ext.refl _) ⟨rfl, r_z⟩
      · refine ObX.op rfl fun f318 wd319 he320 hout321 hphi322 => ?_
        have hS323 := St.extend hS117 he320
        obtain ⟨S324, hS325, hf326⟩ := hphi322 15 38 _ rfl rfl rfl
        obtain ⟨e327, hr328⟩ := hf326
        obtain ⟨S329, hS330, hf331⟩ := hphi322 16 39 _ rfl rfl rfl
        obtain ⟨e332, hr333⟩ := hf331
        obtain ⟨S334, hS335, hf336⟩ := hphi322 17 40 _ rfl rfl rfl
        obtain ⟨e337, hr338⟩ := hf336
        refine OpX.call rfl (op_call fn_84 (args3 e327 e332 e337)) (Ret.mono (c_impl_Cocycle_plus (Ty.lift _ (Ext.trans hE7 hS323.ext) r_b_Cocycle_Orders) hr328 (Ty.lift _ (Ext.trans hE7 hS323.ext) r_b_Cocycle_Values) hr333 hr338 hx340) ?_)
        rintro _ wd342 ⟨rfl, hr341, he343⟩
        exact ⟨he343, _, noS _ _, ⟨rfl, hr341⟩⟩
      · refine ObX.op rfl fun f345 wd346 he347 hout348 hphi349 => ?_
        have hS350 := St.extend hS117 he347
        obtain ⟨S351, hS352, hf353⟩ := hphi349 14 37 _ rfl rfl rfl
        have e354 : f345 37 = u294 := hf353
        obtain ⟨S355, hS356, hf357⟩ := hphi349 18 41 _ rfl rfl rfl
        obtain ⟨e358, hr359⟩ := hf357
        exact OpX.val (Value.pointer (some (elA u294 (x339).toNat))) wd346 rfl (op_idx sl_22 (Ty.lift _ (Ext.trans hE7 hS350.ext) hr296) e354 e358 ha361 hb362) (Ext.refl _) rfl
      · refine ObX.op rfl fun f364 wd365 he366 hout367 hphi368 => ?_
        have hS369 := St.extend hS117 he366
        obtain ⟨S370, hS371, hf372⟩ := hphi368 19 42 _ rfl rfl rfl
        have e373 : f364 42 = (Value.pointer (some (elA u294 (x339).toNat))) := hf372
        exact OpX.val (Value.int .i64 x360) wd365 rfl (op_load one_2 e373 (Ext.cell (Ext.trans hE7 hS369.ext) hc375)) (Ext.refl _) ⟨rfl, hr376⟩
      · refine ObX.op rfl fun f377 wd378 he379 hout380 hphi381 => ?_
        obtain ⟨S383, hS384, hf385⟩ := hphi381 10 33 _ rfl rfl rfl
        obtain ⟨e386, hr387⟩ := hf385
        obtain ⟨S388, hS389, hf390⟩ := hphi381 20 43 _ rfl rfl rfl
        obtain ⟨e391, hr392⟩ := hf390
        exact OpX.val (Value.int .i64 (w64 (x234 + x360))) wd378 rfl (op_add e386 e391) (Ext.refl _) ⟨rfl, (inR_wrap _ _)⟩
      · refine ObX.op rfl fun f393 wd394 he395 hout396 hphi397 => ?_
        have e399 : f393 11 = v_b_Cocycle_Values := (hout396 11 rfl).trans e109
        exact OpX.val v_b_Cocycle_Values wd394 rfl (op_move e399) (Ext.refl _) rfl
      · refine ObX.op rfl fun f400 wd401 he402 hout403 hphi404 => ?_
        have e406 : f400 2 = (Value.int .i64 x) := (hout403 2 rfl).trans e112
        exact OpX.val (Value.int .i64 x) wd401 rfl (op_move e406) (Ext.refl _) ⟨rfl, r_x⟩
      · refine ObX.op rfl fun f407 wd408 he409 hout410 hphi411 => ?_
        have hS412 := St.extend hS117 he409
        obtain ⟨S413, hS414, hf415⟩ := hphi411 22 45 _ rfl rfl rfl
        have e416 : f407 45 = v_b_Cocycle_Values := hf415
        obtain ⟨S417, hS418, hf419⟩ := hphi411 23 46 _ rfl rfl rfl
        obtain ⟨e420, hr421⟩ := hf419
        exact OpX.val (Value.pointer (some (elA v_b_Cocycle_Values (x).toNat))) wd408 rfl (op_idx sl_23 (Ty.lift _ (Ext.trans hE7 hS412.ext) r_b_Cocycle_Values) e416 e420 ha423 hb424) (Ext.refl _) rfl
      · refine ObX.op rfl fun f426 wd427 he428 hout429 hphi430 => ?_
        have hS431 := St.extend hS117 he428
        obtain ⟨S432, hS433, hf434⟩ := hphi430 24 47 _ rfl rfl rfl
        have e435 : f426 47 = (Value.pointer (some (elA v_b_Cocycle_Values (x).toNat))) := hf434
        exact OpX.val u436 wd427 rfl (op_load one_26 e435 (Ext.cell (Ext.trans hE7 hS431.ext) hc437)) (Ext.refl _) rfl
      · refine ObX.op rfl fun f439 wd440 he441 hout442 hphi443 => ?_
        have e445 : f439 3 = (Value.int .i64 y) := (hout442 3 rfl).trans e113
        exact OpX.val (Value.int .i64 y) wd440 rfl (op_move e445) (Ext.refl _) ⟨rfl, r_y⟩
      · refine ObX.op rfl fun f446 wd447 he448 hout449 hphi450 => ?_
        have hS451 := St.extend hS117 he448
        obtain ⟨S452, hS453, hf454⟩ := hphi450 25 48 _ rfl rfl rfl
        have e455 : f446 48 = u436 := hf454
        obtain ⟨S456, hS457, hf458⟩ := hphi450 26 49 _ rfl rfl rfl
        obtain ⟨e459, hr460⟩ := hf458
        exact OpX.val (Value.pointer (some (elA u436 (y).toNat))) wd447 rfl (op_idx sl_26 (Ty.lift _ (Ext.trans hE7 hS451.ext) hr438) e455 e459 ha462 hb463) (Ext.refl _) rfl
      · refine ObX.op rfl fun f465 wd466 he467 hout468 hphi469 => ?_
        have hS470 := St.extend hS117 he467
        obtain ⟨S471, hS472, hf473⟩ := hphi469 27 50 _ rfl rfl rfl
        have e474 : f465 50 = (Value.pointer (some (elA u436 (y).toNat))) := hf473
        exact OpX.val u475 wd466 rfl (op_load one_22 e474 (Ext.cell (Ext.trans hE7 hS470.ext) hc476)) (Ext.refl _) rfl
      · refine ObX.op rfl fun f478 wd479 he480 hout481 hphi482 => ?_
        have e484 : f478 4 = (Value.int .i64 z) := (hout481 4 rfl).trans e114
        exact OpX.val (Value.int .i64 z) wd479 rfl (op_move e484) (Ext.refl _) ⟨rfl, r_z⟩
      · refine ObX.op rfl fun f485 wd486 he487 hout488 hphi489 => ?_
        have hS490 := St.extend hS117 he487
        obtain ⟨S491, hS492, hf493⟩ := hphi489 28 51 _ rfl rfl rfl
        have e494 : f485 51 = u475 := hf493
        obtain ⟨S495, hS496, hf497⟩ := hphi489 29 52 _ rfl rfl rfl
        obtain ⟨e498, hr499⟩ := hf497
        exact OpX.val (Value.pointer (some (elA u475 (z).toNat))) wd486 rfl (op_idx sl_22 (Ty.lift _ (Ext.trans hE7 hS490.ext) hr477) e494 e498 ha501 hb502) (Ext.refl _) rfl
      · refine ObX.op rfl fun f504 wd505 he506 hout507 hphi508 => ?_
        have hS509 := St.extend hS117 he506
        obtain ⟨S510, hS511, hf512⟩ := hphi508 30 53 _ rfl rfl rfl
        have e513 : f504 53 = (Value.pointer (some (elA u475 (z).toNat))) := hf512
        exact OpX.val (Value.int .i64 x500) wd505 rfl (op_load one_2 e513 (Ext.cell (Ext.trans hE7 hS509.ext) hc515)) (Ext.refl _) ⟨rfl, hr516⟩
      · refine ObX.op rfl fun f517 wd518 he519 hout520 hphi521 => ?_
        obtain ⟨S523, hS524, hf525⟩ := hphi521 21 44 _ rfl rfl rfl
        obtain ⟨e526, hr527⟩ := hf525
        obtain ⟨S528, hS529, hf530⟩ := hphi521 31 54 _ rfl rfl rfl
        obtain ⟨e531, hr532⟩ := hf530
        exact OpX.val (Value.int .i64 (w64 ((w64 (x234 + x360)) + x500))) wd518 rfl (op_add e526 e531) (Ext.refl _) ⟨rfl, (inR_wrap _ _)⟩
      · refine ObX.op rfl fun f533 wd534 he535 hout536 hphi537 => ?_
        have hS538 := St.extend hS117 he535
        obtain ⟨S539, hS540, hf541⟩ := hphi537 0 23 _ rfl rfl rfl
        obtain ⟨e542, hr543⟩ := hf541
        obtain ⟨S544, hS545, hf546⟩ := hphi537 32 55 _ rfl rfl rfl
        obtain ⟨e547, hr548⟩ := hf546
        refine OpX.call rfl (op_call fn_85 (args2 e542 e547)) (Ret.mono (c_impl_Cocycle_rest (Ty.lift _ (Ext.trans hE7 hS538.ext) r_b_Cocycle_Orders) hr543 (Ty.lift _ (Ext.trans hE7 hS538.ext) r_b_Cocycle_Values) hr548 hx550) ?_)
        rintro _ wd552 ⟨rfl, hr551, he553⟩
        exact ⟨he553, _, noS _ _, ⟨rfl, hr551⟩⟩
      · refine ObX.op rfl fun f555 wd556 he557 hout558 hphi559 => ?_
        have hS560 := St.extend hS117 he557
        have e561 : f555 13 = (Value.pointer (some ⟨b108, 0, none⟩)) := (hout558 13 rfl).trans e107
        exact OpX.val (Value.agg #[v_b_Cocycle_Orders, (Value.int .i64 b_Cocycle_Modulus), v_b_Cocycle_Values]) wd556 rfl (op_loadBox st_34 e561 (St.boxAt hS560 0 rfl) rfl rfl) (Ext.refl _) ⟨rfl, hr106⟩
      · refine ObX.op rfl fun f562 wd563 he564 hout565 hphi566 => ?_
        have e568 : f562 12 = v_b_Values := (hout565 12 rfl).trans e110
        exact OpX.val v_b_Values wd563 rfl (op_move e568) (Ext.refl _) rfl
      · refine ObX.op rfl fun f569 wd570 he571 hout572 hphi573 => ?_
        have e575 : f569 2 = (Value.int .i64 x) := (hout572 2 rfl).trans e112
        exact OpX.val (Value.int .i64 x) wd570 rfl (op_move e575) (Ext.refl _) ⟨rfl, r_x⟩
      · refine ObX.op rfl fun f576 wd577 he578 hout579 hphi580 => ?_
        have hS581 := St.extend hS117 he578
        obtain ⟨S582, hS583, hf584⟩ := hphi580 35 58 _ rfl rfl rfl
        have e585 : f576 58 = v_b_Values := hf584
        obtain ⟨S586, hS587, hf588⟩ := hphi580 36 59 _ rfl rfl rfl
        obtain ⟨e589, hr590⟩ := hf588
        exact OpX.val (Value.pointer (some (elA v_b_Values (x).toNat))) wd577 rfl (op_idx sl_26 (Ty.lift _ (Ext.trans hE7 hS581.ext) r_b_Values) e585 e589 ha281 hb282) (Ext.refl _) rfl
      · refine ObX.op rfl fun f591 wd592 he593 hout594 hphi595 => ?_
        have hS596 := St.extend hS117 he593
        obtain ⟨S597, hS598, hf599⟩ := hphi595 37 60 _ rfl rfl rfl
        have e600 : f591 60 = (Value.pointer (some (elA v_b_Values (x).toNat))) := hf599
        exact OpX.val u601 wd592 rfl (op_load one_22 e600 (Ext.cell (Ext.trans hE7 hS596.ext) hc602)) (Ext.refl _) rfl
      · refine ObX.op rfl fun f604 wd605 he606 hout607 hphi608 => ?_
        have e610 : f604 4 = (Value.int .i64 z) := (hout607 4 rfl).trans e114
        exact OpX.val (Value.int .i64 z) wd605 rfl (op_move e610) (Ext.refl _) ⟨rfl, r_z⟩
      · refine ObX.op rfl fun f611 wd612 he613 hout614 hphi615 => ?_
        have hS616 := St.extend hS117 he613
        obtain ⟨S617, hS618, hf619⟩ := hphi615 38 61 _ rfl rfl rfl
        have e620 : f611 61 = u601 := hf619
        obtain ⟨S621, hS622, hf623⟩ := hphi615 39 62 _ rfl rfl rfl
        obtain ⟨e624, hr625⟩ := hf623
        exact OpX.val (Value.pointer (some (elA u601 (z).toNat))) wd612 rfl (op_idx sl_22 (Ty.lift _ (Ext.trans hE7 hS616.ext) hr603) e620 e624 ha627 hb628) (Ext.refl _) rfl
      · refine ObX.op rfl fun f630 wd631 he632 hout633 hphi634 => ?_
        have hS635 := St.extend hS117 he632
        obtain ⟨S636, hS637, hf638⟩ := hphi634 40 63 _ rfl rfl rfl
        have e639 : f630 63 = (Value.pointer (some (elA u601 (z).toNat))) := hf638
        exact OpX.val (Value.int .i64 x626) wd631 rfl (op_load one_2 e639 (Ext.cell (Ext.trans hE7 hS635.ext) hc641)) (Ext.refl _) ⟨rfl, hr642⟩
      · refine ObX.op rfl fun f643 wd644 he645 hout646 hphi647 => ?_
        have e649 : f643 11 = v_b_Cocycle_Values := (hout646 11 rfl).trans e109
        exact OpX.val v_b_Cocycle_Values wd644 rfl (op_move e649) (Ext.refl _) rfl
      · refine ObX.op rfl fun f650 wd651 he652 hout653 hphi654 => ?_
        have e656 : f650 3 = (Value.int .i64 y) := (hout653 3 rfl).trans e113
        exact OpX.val (Value.int .i64 y) wd651 rfl (op_move e656) (Ext.refl _) ⟨rfl, r_y⟩
      · refine ObX.op rfl fun f657 wd658 he659 hout660 hphi661 => ?_
        have hS662 := St.extend hS117 he659
        obtain ⟨S663, hS664, hf665⟩ := hphi661 42 65 _ rfl rfl rfl
        have e666 : f657 65 = v_b_Cocycle_Values := hf665
        obtain ⟨S667, hS668, hf669⟩ := hphi661 43 66 _ rfl rfl rfl
        obtain ⟨e670, hr671⟩ := hf669
        exact OpX.val (Value.pointer (some (elA v_b_Cocycle_Values (y).toNat))) wd658 rfl (op_idx sl_23 (Ty.lift _ (Ext.trans hE7 hS662.ext) r_b_Cocycle_Values) e666 e670 ha157 hb158) (Ext.refl _) rfl
      · refine ObX.op rfl fun f672 wd673 he674 hout675 hphi676 => ?_
        have hS677 := St.extend hS117 he674
        obtain ⟨S678, hS679, hf680⟩ := hphi676 44 67 _ rfl rfl rfl
        have e681 : f672 67 = (Value.pointer (some (elA v_b_Cocycle_Values (y).toNat))) := hf680
        exact OpX.val u682 wd673 rfl (op_load one_26 e681 (Ext.cell (Ext.trans hE7 hS677.ext) hc683)) (Ext.refl _) rfl
      · refine ObX.op rfl fun f685 wd686 he687 hout688 hphi689 => ?_
        have e691 : f685 2 = (Value.int .i64 x) := (hout688 2 rfl).trans e112
        exact OpX.val (Value.int .i64 x) wd686 rfl (op_move e691) (Ext.refl _) ⟨rfl, r_x⟩
      · refine ObX.op rfl fun f692 wd693 he694 hout695 hphi696 => ?_
        have hS697 := St.extend hS117 he694
        obtain ⟨S698, hS699, hf700⟩ := hphi696 45 68 _ rfl rfl rfl
        have e701 : f692 68 = u682 := hf700
        obtain ⟨S702, hS703, hf704⟩ := hphi696 46 69 _ rfl rfl rfl
        obtain ⟨e705, hr706⟩ := hf704
        exact OpX.val (Value.pointer (some (elA u682 (x).toNat))) wd693 rfl (op_idx sl_26 (Ty.lift _ (Ext.trans hE7 hS697.ext) hr684) e701 e705 ha708 hb709) (Ext.refl _) rfl
      · refine ObX.op rfl fun f711 wd712 he713 hout714 hphi715 => ?_
        have hS716 := St.extend hS117 he713
        obtain ⟨S717, hS718, hf719⟩ := hphi715 47 70 _ rfl rfl rfl
        have e720 : f711 70 = (Value.pointer (some (elA u682 (x).toNat))) := hf719
        exact OpX.val u721 wd712 rfl (op_load one_22 e720 (Ext.cell (Ext.trans hE7 hS716.ext) hc722)) (Ext.refl _) rfl
      · refine ObX.op rfl fun f724 wd725 he726 hout727 hphi728 => ?_
        have e730 : f724 4 = (Value.int .i64 z) := (hout727 4 rfl).trans e114
        exact OpX.val (Value.int .i64 z) wd725 rfl (op_move e730) (Ext.refl _) ⟨rfl, r_z⟩
      · refine ObX.op rfl fun f731 wd732 he733 hout734 hphi735 => ?_
        have hS736 := St.extend hS117 he733
        obtain ⟨S737, hS738, hf739⟩ := hphi735 48 71 _ rfl rfl rfl
        have e740 : f731 71 = u721 := hf739
        obtain ⟨S741, hS742, hf743⟩ := hphi735 49 72 _ rfl rfl rfl
        obtain ⟨e744, hr745⟩ := hf743
        exact OpX.val (Value.pointer (some (elA u721 (z).toNat))) wd732 rfl (op_idx sl_22 (Ty.lift _ (Ext.trans hE7 hS736.ext) hr723) e740 e744 ha747 hb748) (Ext.refl _) rfl
      · refine ObX.op rfl fun f750 wd751 he752 hout753 hphi754 => ?_
        have hS755 := St.extend hS117 he752
        obtain ⟨S756, hS757, hf758⟩ := hphi754 50 73 _ rfl rfl rfl
        have e759 : f750 73 = (Value.pointer (some (elA u721 (z).toNat))) := hf758
        exact OpX.val (Value.int .i64 x746) wd751 rfl (op_load one_2 e759 (Ext.cell (Ext.trans hE7 hS755.ext) hc761)) (Ext.refl _) ⟨rfl, hr762⟩
      · refine ObX.op rfl fun f763 wd764 he765 hout766 hphi767 => ?_
        obtain ⟨S769, hS770, hf771⟩ := hphi767 41 64 _ rfl rfl rfl
        obtain ⟨e772, hr773⟩ := hf771
        obtain ⟨S774, hS775, hf776⟩ := hphi767 51 74 _ rfl rfl rfl
        obtain ⟨e777, hr778⟩ := hf776
        exact OpX.val (Value.int .i64 (w64 (x626 + x746))) wd764 rfl (op_add e772 e777) (Ext.refl _) ⟨rfl, (inR_wrap _ _)⟩
      · refine ObX.op rfl fun f779 wd780 he781 hout782 hphi783 => ?_
        have e785 : f779 12 = v_b_Values := (hout782 12 rfl).trans e110
        exact OpX.val v_b_Values wd780 rfl (op_move e785) (Ext.refl _) rfl
      · refine ObX.op rfl fun f786 wd787 he788 hout789 hphi790 => ?_
        have e792 : f786 2 = (Value.int .i64 x) := (hout789 2 rfl).trans e112
        exact OpX.val (Value.int .i64 x) wd787 rfl (op_move e792) (Ext.refl _) ⟨rfl, r_x⟩
      · refine ObX.op rfl fun f793 wd794 he795 hout796 hphi797 => ?_
        have hS798 := St.extend hS117 he795
        obtain ⟨S799, hS800, hf801⟩ := hphi797 53 76 _ rfl rfl rfl
        have e802 : f793 76 = v_b_Values := hf801
        obtain ⟨S803, hS804, hf805⟩ := hphi797 54 77 _ rfl rfl rfl
        obtain ⟨e806, hr807⟩ := hf805
        exact OpX.val (Value.pointer (some (elA v_b_Values (x).toNat))) wd794 rfl (op_idx sl_26 (Ty.lift _ (Ext.trans hE7 hS798.ext) r_b_Values) e802 e806 ha281 hb282) (Ext.refl _) rfl
      · refine ObX.op rfl fun f808 wd809 he810 hout811 hphi812 => ?_
        have hS813 := St.extend hS117 he810
        obtain ⟨S814, hS815, hf816⟩ := hphi812 55 78 _ rfl rfl rfl
        have e817 : f808 78 = (Value.pointer (some (elA v_b_Values (x).toNat))) := hf816
        exact OpX.val u818 wd809 rfl (op_load one_22 e817 (Ext.cell (Ext.trans hE7 hS813.ext) hc819)) (Ext.refl _) rfl
      · refine ObX.op rfl fun f821 wd822 he823 hout824 hphi825 => ?_
        have e827 : f821 3 = (Value.int .i64 y) := (hout824 3 rfl).trans e113
        exact OpX.val (Value.int .i64 y) wd822 rfl (op_move e827) (Ext.refl _) ⟨rfl, r_y⟩
      · refine ObX.op rfl fun f828 wd829 he830 hout831 hphi832 => ?_
        have hS833 := St.extend hS117 he830
        obtain ⟨S834, hS835, hf836⟩ := hphi832 56 79 _ rfl rfl rfl
        have e837 : f828 79 = u818 := hf836
        obtain ⟨S838, hS839, hf840⟩ := hphi832 57 80 _ rfl rfl rfl
        obtain ⟨e841, hr842⟩ := hf840
        exact OpX.val (Value.pointer (some (elA u818 (y).toNat))) wd829 rfl (op_idx sl_22 (Ty.lift _ (Ext.trans hE7 hS833.ext) hr820) e837 e841 ha844 hb845) (Ext.refl _) rfl
      · refine ObX.op rfl fun f847 wd848 he849 hout850 hphi851 => ?_
        have hS852 := St.extend hS117 he849
        obtain ⟨S853, hS854, hf855⟩ := hphi851 58 81 _ rfl rfl rfl
        have e856 : f847 81 = (Value.pointer (some (elA u818 (y).toNat))) := hf855
        exact OpX.val (Value.int .i64 x843) wd848 rfl (op_load one_2 e856 (Ext.cell (Ext.trans hE7 hS852.ext) hc858)) (Ext.refl _) ⟨rfl, hr859⟩
      · refine ObX.op rfl fun f860 wd861 he862 hout863 hphi864 => ?_
        obtain ⟨S866, hS867, hf868⟩ := hphi864 52 75 _ rfl rfl rfl
        obtain ⟨e869, hr870⟩ := hf868
        obtain ⟨S871, hS872, hf873⟩ := hphi864 59 82 _ rfl rfl rfl
        obtain ⟨e874, hr875⟩ := hf873
        exact OpX.val (Value.int .i64 (w64 ((w64 (x626 + x746)) + x843))) wd861 rfl (op_add e869 e874) (Ext.refl _) ⟨rfl, (inR_wrap _ _)⟩
      · intro f876 wd877 Ss878 he879 hout880 hSn881 hSd882 hphi883
        show WL _ _ _ _ _ _ _
        have hS884 := St.extend hS117 he879
        obtain ⟨e885, hr886⟩ := hphi883 33 56 _ (by decide) rfl rfl
        obtain ⟨e887, hr888⟩ := hphi883 34 57 _ (by decide) rfl rfl
        obtain ⟨e889, hr890⟩ := hphi883 60 83 _ (by decide) rfl rfl
        obtain ⟨x891, hx892, h⟩ := bs h
        refine WL.call _ (op_call fn_85 (args2 e887 e889)) (c_impl_Cocycle_rest (Ty.lift _ (Ext.trans hE7 hS884.ext) r_b_Cocycle_Orders) hr888 (Ty.lift _ (Ext.trans hE7 hS884.ext) r_b_Cocycle_Values) hr890 hx892) rfl ?_
        rintro _ wd894 ⟨rfl, hr893, he895⟩
        have hS897 := St.extend hS884 he895
        replace hS897 : St wd2 wd894 [bx b108 [v_b_Cocycle_Orders, (Value.int .i64 b_Cocycle_Modulus), v_b_Cocycle_Values]] := hS897
        refine WL.val (Value.bool (x549 == x891)) _ (op_eql e885 rfl) rfl ?_
        refine WL.val (Value.bool (x549 == x891)) _ (op_assign rfl) rfl ?_
        refine WL.nil ?_
        refine W.ret ?_
        obtain rfl := Option.some.inj h
        show FinP _ _ _ _ _ _ _
        exact FinP.ret _ (res1 rfl rfl) ⟨rfl, (Ext.trans hE7 hS897.ext)⟩
    · replace h := inegb h hc118
      refine W.skip ?_
      refine W.seq ?_
      obtain ⟨x954, hx955, h⟩ := bs h
      obtain ⟨x975, hx978, h⟩ := bs h
      obtain ⟨ha976, hb977, hx978⟩ := idx_some hx978
      obtain ⟨u989, hc990, hr991⟩ := repSl.el r_b_Values hx978
      obtain ⟨x1014, hx1017, h⟩ := bs h
      obtain ⟨ha1015, hb1016, hx1017⟩ := idx_some hx1017
      obtain ⟨u1028, hc1029, hr1030⟩ := repSl.el hr991 hx1017
      obtain ⟨rfl, hr1030⟩ := hr1030
      obtain ⟨x1060, hx1063, h⟩ := bs h
      obtain ⟨ha1061, hb1062, hx1063⟩ := idx_some hx1063
      obtain ⟨u1074, hc1075, hr1076⟩ := repSl.el r_b_Cocycle_Values hx1063
      obtain ⟨x1099, hx1102, h⟩ := bs h
      obtain ⟨ha1100, hb1101, hx1102⟩ := idx_some hx1102
      obtain ⟨u1113, hc1114, hr1115⟩ := repSl.el hr1076 hx1102
      obtain ⟨x1138, hx1141, h⟩ := bs h
      obtain ⟨ha1139, hb1140, hx1141⟩ := idx_some hx1141
      obtain ⟨u1152, hc1153, hr1154⟩ := repSl.el hr1115 hx1141
      obtain ⟨rfl, hr1154⟩ := hr1154
      obtain ⟨x1200, hx1203, h⟩ := bs h
      obtain ⟨ha1201, hb1202, hx1203⟩ := idx_some hx1203
      obtain ⟨u1214, hc1215, hr1216⟩ := repSl.el r_b_Cocycle_Values hx1203
      obtain ⟨x1239, hx1242, h⟩ := bs h
      obtain ⟨ha1240, hb1241, hx1242⟩ := idx_some hx1242
      obtain ⟨u1253, hc1254, hr1255⟩ := repSl.el hr1216 hx1242
      obtain ⟨x1278, hx1281, h⟩ := bs h
      obtain ⟨ha1279, hb1280, hx1281⟩ := idx_some hx1281
      obtain ⟨u1292, hc1293, hr1294⟩ := repSl.el hr1255 hx1281
      obtain ⟨rfl, hr1294⟩ := hr1294
      obtain ⟨x1327, hx1328, h⟩ := bs h
      obtain ⟨x1369, hx1372, h⟩ := bs h
      obtain ⟨ha1370, hb1371, hx1372⟩ := idx_some hx1372
      obtain ⟨u1383, hc1384, hr1385⟩ := repSl.el r_b_Values hx1372
      obtain ⟨x1408, hx1411, h⟩ := bs h
      obtain ⟨ha1409, hb1410, hx1411⟩ := idx_some hx1411
      obtain ⟨u1422, hc1423, hr1424⟩ := repSl.el hr1385 hx1411
      obtain ⟨rfl, hr1424⟩ := hr1424
      obtain ⟨x1454, hx1457, h⟩ := bs h
      obtain ⟨ha1455, hb1456, hx1457⟩ := idx_some hx1457
      obtain ⟨u1468, hc1469, hr1470⟩ := repSl.el r_b_Values hx1457
      obtain ⟨x1493, hx1496, h⟩ := bs h
      obtain ⟨ha1494, hb1495, hx1496⟩ := idx_some hx1496
      obtain ⟨u1507, hc1508, hr1509⟩ := repSl.el hr1470 hx1496
      obtain ⟨rfl, hr1509⟩ := hr1509
      obtain ⟨u1565, hc1566, hr1567⟩ := repSl.el r_b_Cocycle_Values hx1203
      obtain ⟨x1590, hx1593, h⟩ := bs h
      obtain ⟨ha1591, hb1592, hx1593⟩ := idx_some hx1593
      obtain ⟨u1604, hc1605, hr1606⟩ := repSl.el hr1567 hx1593
      obtain ⟨x1629, hx1632, h⟩ := bs h
      obtain ⟨ha1630, hb1631, hx1632⟩ := idx_some hx1632
      obtain ⟨u1643, hc1644, hr1645⟩ := repSl.el hr1606 hx1632
      obtain ⟨rfl, hr1645⟩ := hr1645
      refine W.drawR mixo 61 [] [fun _ v S w' => v = (Value.agg #[v_b_Cocycle_Orders, (Value.int .i64 b_Cocycle_Modulus), v_b_Cocycle_Values]) ∧ InR .i64 b_Cocycle_Modulus, fun _ v _ _ => v = v_b_Values, fun _ v S w' => v = (Value.agg #[v_b_Cocycle_Orders, (Value.int .i64 b_Cocycle_Modulus), v_b_Cocycle_Values]) ∧ InR .i64 b_Cocycle_Modulus, fun _ v _ _ => v = (Value.int .i64 x) ∧ InR .i64 x, fun _ v _ _ => v = (Value.int .i64 y) ∧ InR .i64 y, fun _ v _ _ => v = (Value.int .i64 x954) ∧ InR .i64 x954, fun _ v _ _ => v = (Value.pointer (some (elA v_b_Values (x954).toNat))), fun _ v _ _ => v = u989, fun _ v _ _ => v = (Value.int .i64 z) ∧ InR .i64 z, fun _ v _ _ => v = (Value.pointer (some (elA u989 (z).toNat))), fun _ v _ _ => v = (Value.int .i64 x1014) ∧ InR .i64 x1014, fun _ v _ _ => v = v_b_Cocycle_Values, fun _ v _ _ => v = (Value.int .i64 z) ∧ InR .i64 z, fun _ v _ _ => v = (Value.pointer (some (elA v_b_Cocycle_Values (z).toNat))), fun _ v _ _ => v = u1074, fun _ v _ _ => v = (Value.int .i64 x) ∧ InR .i64 x, fun _ v _ _ => v = (Value.pointer (some (elA u1074 (x).toNat))), fun _ v _ _ => v = u1113, fun _ v _ _ => v = (Value.int .i64 y) ∧ InR .i64 y, fun _ v _ _ => v = (Value.pointer (some (elA u1113 (y).toNat))), fun _ v _ _ => v = (Value.int .i64 x1138) ∧ InR .i64 x1138, fun _ v _ _ => v = (Value.int .i64 (w64 (x1014 - x1138))) ∧ InR .i64 (w64 (x1014 - x1138)), fun _ v _ _ => v = v_b_Cocycle_Values, fun _ v _ _ => v = (Value.int .i64 x) ∧ InR .i64 x, fun _ v _ _ => v = (Value.pointer (some (elA v_b_Cocycle_Values (x).toNat))), fun _ v _ _ => v = u1214, fun _ v _ _ => v = (Value.int .i64 y) ∧ InR .i64 y, fun _ v _ _ => v = (Value.pointer (some (elA u1214 (y).toNat))), fun _ v _ _ => v = u1253, fun _ v _ _ => v = (Value.int .i64 z) ∧ InR .i64 z, fun _ v _ _ => v = (Value.pointer (some (elA u1253 (z).toNat))), fun _ v _ _ => v = (Value.int .i64 x1278) ∧ InR .i64 x1278, fun _ v _ _ => v = (Value.int .i64 (w64 ((w64 (x1014 - x1138)) - x1278))) ∧ InR .i64 (w64 ((w64 (x1014 - x1138)) - x1278)), fun _ v _ _ => v = (Value.int .i64 x1327) ∧ InR .i64 x1327, fun _ v S w' => v = (Value.agg #[v_b_Cocycle_Orders, (Value.int .i64 b_Cocycle_Modulus), v_b_Cocycle_Values]) ∧ InR .i64 b_Cocycle_Modulus, fun _ v _ _ => v = v_b_Values, fun _ v _ _ => v = (Value.int .i64 x) ∧ InR .i64 x, fun _ v _ _ => v = (Value.pointer (some (elA v_b_Values (x).toNat))), fun _ v _ _ => v = u1383, fun _ v _ _ => v = (Value.int .i64 z) ∧ InR .i64 z, fun _ v _ _ => v = (Value.pointer (some (elA u1383 (z).toNat))), fun _ v _ _ => v = (Value.int .i64 x1408) ∧ InR .i64 x1408, fun _ v _ _ => v = v_b_Values, fun _ v _ _ => v = (Value.int .i64 y) ∧ InR .i64 y, fun _ v _ _ => v = (Value.pointer (some (elA v_b_Values (y).toNat))), fun _ v _ _ => v = u1468, fun _ v _ _ => v = (Value.int .i64 z) ∧ InR .i64 z, fun _ v _ _ => v = (Value.pointer (some (elA u1468 (z).toNat))), fun _ v _ _ => v = (Value.int .i64 x1493) ∧ InR .i64 x1493, fun _ v _ _ => v = (Value.int .i64 (w64 (x1408 + x1493))) ∧ InR .i64 (w64 (x1408 + x1493)), fun _ v _ _ => v = v_b_Cocycle_Values, fun _ v _ _ => v = (Value.int .i64 x) ∧ InR .i64 x, fun _ v _ _ => v = (Value.pointer (some (elA v_b_Cocycle_Values (x).toNat))), fun _ v _ _ => v = u1565, fun _ v _ _ => v = (Value.int .i64 z) ∧ InR .i64 z, fun _ v _ _ => v = (Value.pointer (some (elA u1565 (z).toNat))), fun _ v _ _ => v = u1604, fun _ v _ _ => v = (Value.int .i64 y) ∧ InR .i64 y, fun _ v _ _ => v = (Value.pointer (some (elA u1604 (y).toNat))), fun _ v _ _ => v = (Value.int .i64 x1629) ∧ InR .i64 x1629, fun _ v _ _ => v = (Value.int .i64 (w64 ((w64 (x1408 + x1493)) - x1629))) ∧ InR .i64 (w64 ((w64 (x1408 + x1493)) - x1629))] (by kernel_rfl) (by kernel_rfl) ⟨⟨fun _ _ _ _ _ he ⟨h0, h1⟩ => ⟨h0, h1⟩, fun _ _ _ _ _ _ h => h⟩, pk, ⟨fun _ _ _ _ _ he ⟨h0, h1⟩ => ⟨h0, h1⟩, fun _ _ _ _ _ _ h => h⟩, pk, pk, pk, pk, pk, pk, pk, pk, pk, pk, pk, pk, pk, pk, pk, pk, pk, pk, pk, pk, pk, pk, pk, pk, pk, pk, pk, pk, pk, pk, pk, ⟨fun _ _ _ _ _ he ⟨h0, h1⟩ => ⟨h0, h1⟩, fun _ _ _ _ _ _ h => h⟩, pk, pk, pk, pk, pk, pk, pk, pk, pk, pk, pk, pk, pk, pk, pk, pk, pk, pk, pk, pk, pk, pk, pk, pk, pk, pk, trivial⟩ ⟨?_, ?_, ?_, ?_, ?_, ?_, ?_, ?_, ?_, ?_, ?_, ?_, ?_, ?_, ?_, ?_, ?_, ?_, ?_, ?_, ?_, ?_, ?_, ?_, ?_, ?_, ?_, ?_, ?_, ?_, ?_, ?_, ?_, ?_, ?_, ?_, ?_, ?_, ?_, ?_, ?_, ?_, ?_, ?_, ?_, ?_, ?_, ?_, ?_, ?_, ?_, ?_, ?_, ?_, ?_, ?_, ?_, ?_, ?_, ?_, ?_, trivial⟩ ?_
      · refine ObX.op rfl fun f898 wd899 he900 hout901 hphi902 => ?_
        have hS903 := St.extend hS117 he900
        have e904 : f898 13 = (Value.pointer (some ⟨b108, 0, none⟩)) := (hout901 13 rfl).trans e107
        exact OpX.val (Value.agg #[v_b_Cocycle_Orders, (Value.int .i64 b_Cocycle_Modulus), v_b_Cocycle_Values]) wd899 rfl (op_loadBox st_34 e904 (St.boxAt hS903 0 rfl) rfl rfl) (Ext.refl _) ⟨rfl, hr106⟩
      · refine ObX.op rfl fun f905 wd906 he907 hout908 hphi909 => ?_
        have e911 : f905 12 = v_b_Values := (hout908 12 rfl).trans e110
        exact OpX.val v_b_Values wd906 rfl (op_move e911) (Ext.refl _) rfl
      · refine ObX.op rfl fun f912 wd913 he914 hout915 hphi916 => ?_
        have hS917 := St.extend hS117 he914
        have e918 : f912 13 = (Value.pointer (some ⟨b108, 0, none⟩)) := (hout915 13 rfl).trans e107
        exact OpX.val (Value.agg #[v_b_Cocycle_Orders, (Value.int .i64 b_Cocycle_Modulus), v_b_Cocycle_Values]) wd913 rfl (op_loadBox st_34 e918 (St.boxAt hS917 0 rfl) rfl rfl) (Ext.refl _) ⟨rfl, hr106⟩
      · refine ObX.op rfl fun f919 wd920 he921 hout922 hphi923 => ?_
        have e925 : f919 2 = (Value.int .i64 x) := (hout922 2 rfl).trans e112
        exact OpX.val (Value.int .i64 x) wd920 rfl (op_move e925) (Ext.refl _) ⟨rfl, r_x⟩
      · refine ObX.op rfl fun f926 wd927 he928 hout929 hphi930 => ?_
        have e932 : f926 3 = (Value.int .i64 y) := (hout929 3 rfl).trans e113
        exact OpX.val (Value.int .i64 y) wd927 rfl (op_move e932) (Ext.refl _) ⟨rfl, r_y⟩
      · refine ObX.op rfl fun f933 wd934 he935 hout936 hphi937 => ?_
        have hS938 := St.extend hS117 he935
        obtain ⟨S939, hS940, hf941⟩ := hphi937 2 88 _ rfl rfl rfl
        obtain ⟨e942, hr943⟩ := hf941
        obtain ⟨S944, hS945, hf946⟩ := hphi937 3 89 _ rfl rfl rfl
        obtain ⟨e947, hr948⟩ := hf946
        obtain ⟨S949, hS950, hf951⟩ := hphi937 4 90 _ rfl rfl rfl
        obtain ⟨e952, hr953⟩ := hf951
        refine OpX.call rfl (op_call fn_84 (args3 e942 e947 e952)) (Ret.mono (c_impl_Cocycle_plus (Ty.lift _ (Ext.trans hE7 hS938.ext) r_b_Cocycle_Orders) hr943 (Ty.lift _ (Ext.trans hE7 hS938.ext) r_b_Cocycle_Values) hr948 hr953 hx955) ?_)
        rintro _ wd957 ⟨rfl, hr956, he958⟩
        exact ⟨he958, _, noS _ _, ⟨rfl, hr956⟩⟩
      · refine ObX.op rfl fun f960 wd961 he962 hout963 hphi964 => ?_
        have hS965 := St.extend hS117 he962
        obtain ⟨S966, hS967, hf968⟩ := hphi964 1 87 _ rfl rfl rfl
        have e969 : f960 87 = v_b_Values := hf968
        obtain ⟨S970, hS971, hf972⟩ := hphi964 5 91 _ rfl rfl rfl
        obtain ⟨e973, hr974⟩ := hf972
        exact OpX.val (Value.pointer (some (elA v_b_Values (x954).toNat))) wd961 rfl (op_idx sl_26 (Ty.lift _ (Ext.trans hE7 hS965.ext) r_b_Values) e969 e973 ha976 hb977) (Ext.refl _) rfl
      · refine ObX.op rfl fun f979 wd980 he981 hout982 hphi983 => ?_
        have hS984 := St.extend hS117 he981
        obtain ⟨S985, hS986, hf987⟩ := hphi983 6 92 _ rfl rfl rfl
        have e988 : f979 92 = (Value.pointer (some (elA v_b_Values (x954).toNat))) := hf987
        exact OpX.val u989 wd980 rfl (op_load one_22 e988 (Ext.cell (Ext.trans hE7 hS984.ext) hc990)) (Ext.refl _) rfl
      · refine ObX.op rfl fun f992 wd993 he994 hout995 hphi996 => ?_
        have e998 : f992 4 = (Value.int .i64 z) := (hout995 4 rfl).trans e114
        exact OpX.val (Value.int .i64 z) wd993 rfl (op_move e998) (Ext.refl _) ⟨rfl, r_z⟩
      · refine ObX.op rfl fun f999 wd1000 he1001 hout1002 hphi1003 => ?_
        have hS1004 := St.extend hS117 he1001
        obtain ⟨S1005, hS1006, hf1007⟩ := hphi1003 7 93 _ rfl rfl rfl
        have e1008 : f999 93 = u989 := hf1007
        obtain ⟨S1009, hS1010, hf1011⟩ := hphi1003 8 94 _ rfl rfl rfl
        obtain ⟨e1012, hr1013⟩ := hf1011
        exact OpX.val (Value.pointer (some (elA u989 (z).toNat))) wd1000 rfl (op_idx sl_22 (Ty.lift _ (Ext.trans hE7 hS1004.ext) hr991) e1008 e1012 ha1015 hb1016) (Ext.refl _) rfl
      · refine ObX.op rfl fun f1018 wd1019 he1020 hout1021 hphi1022 => ?_
        have hS1023 := St.extend hS117 he1020
        obtain ⟨S1024, hS1025, hf1026⟩ := hphi1022 9 95 _ rfl rfl rfl
        have e1027 : f1018 95 = (Value.pointer (some (elA u989 (z).toNat))) := hf1026
        exact OpX.val (Value.int .i64 x1014) wd1019 rfl (op_load one_2 e1027 (Ext.cell (Ext.trans hE7 hS1023.ext) hc1029)) (Ext.refl _) ⟨rfl, hr1030⟩
      · refine ObX.op rfl fun f1031 wd1032 he1033 hout1034 hphi1035 => ?_
        have e1037 : f1031 11 = v_b_Cocycle_Values := (hout1034 11 rfl).trans e109
        exact OpX.val v_b_Cocycle_Values wd1032 rfl (op_move e1037) (Ext.refl _) rfl
      · refine ObX.op rfl fun f1038 wd1039 he1040 hout1041 hphi1042 => ?_
        have e1044 : f1038 4 = (Value.int .i64 z) := (hout1041 4 rfl).trans e114
        exact OpX.val (Value.int .i64 z) wd1039 rfl (op_move e1044) (Ext.refl _) ⟨rfl, r_z⟩
      · refine ObX.op rfl fun f1045 wd1046 he1047 hout1048 hphi1049 => ?_
        have hS1050 := St.extend hS117 he1047
        obtain ⟨S1051, hS1052, hf1053⟩ := hphi1049 11 97 _ rfl rfl rfl
        have e1054 : f1045 97 = v_b_Cocycle_Values := hf1053
        obtain ⟨S1055, hS1056, hf1057⟩ := hphi1049 12 98 _ rfl rfl rfl
        obtain ⟨e1058, hr1059⟩ := hf1057
        exact OpX.val (Value.pointer (some (elA v_b_Cocycle_Values (z).toNat))) wd1046 rfl (op_idx sl_23 (Ty.lift _ (Ext.trans hE7 hS1050.ext) r_b_Cocycle_Values) e1054 e1058 ha1061 hb1062) (Ext.refl _) rfl
      · refine ObX.op rfl fun f1064 wd1065 he1066 hout1067 hphi1068 => ?_
        have hS1069 := St.extend hS117 he1066
        obtain ⟨S1070, hS1071, hf1072⟩ := hphi1068 13 99 _ rfl rfl rfl
        have e1073 : f1064 99 = (Value.pointer (some (elA v_b_Cocycle_Values (z).toNat))) := hf1072
        exact OpX.val u1074 wd1065 rfl (op_load one_26 e1073 (Ext.cell (Ext.trans hE7 hS1069.ext) hc1075)) (Ext.refl _) rfl
      · refine ObX.op rfl fun f1077 wd1078 he1079 hout1080 hphi1081 => ?_
        have e1083 : f1077 2 = (Value.int .i64 x) := (hout1080 2 rfl).trans e112
        exact OpX.val (Value.int .i64 x) wd1078 rfl (op_move e1083) (Ext.refl _) ⟨rfl, r_x⟩
      · refine ObX.op rfl fun f1084 wd1085 he1086 hout1087 hphi1088 => ?_
        have hS1089 := St.extend hS117 he1086
        obtain ⟨S1090, hS1091, hf1092⟩ := hphi1088 14 100 _ rfl rfl rfl
        have e1093 : f1084 100 = u1074 := hf1092
        obtain ⟨S1094, hS1095, hf1096⟩ := hphi1088 15 101 _ rfl rfl rfl
        obtain ⟨e1097, hr1098⟩ := hf1096
        exact OpX.val (Value.pointer (some (elA u1074 (x).toNat))) wd1085 rfl (op_idx sl_26 (Ty.lift _ (Ext.trans hE7 hS1089.ext) hr1076) e1093 e1097 ha1100 hb1101) (Ext.refl _) rfl
      · refine ObX.op rfl fun f1103 wd1104 he1105 hout1106 hphi1107 => ?_
        have hS1108 := St.extend hS117 he1105
        obtain ⟨S1109, hS1110, hf1111⟩ := hphi1107 16 102 _ rfl rfl rfl
        have e1112 : f1103 102 = (Value.pointer (some (elA u1074 (x).toNat))) := hf1111
        exact OpX.val u1113 wd1104 rfl (op_load one_22 e1112 (Ext.cell (Ext.trans hE7 hS1108.ext) hc1114)) (Ext.refl _) rfl
      · refine ObX.op rfl fun f1116 wd1117 he1118 hout1119 hphi1120 => ?_
        have e1122 : f1116 3 = (Value.int .i64 y) := (hout1119 3 rfl).trans e113
        exact OpX.val (Value.int .i64 y) wd1117 rfl (op_move e1122) (Ext.refl _) ⟨rfl, r_y⟩
      · refine ObX.op rfl fun f1123 wd1124 he1125 hout1126 hphi1127 => ?_
        have hS1128 := St.extend hS117 he1125
        obtain ⟨S1129, hS1130, hf1131⟩ := hphi1127 17 103 _ rfl rfl rfl
        have e1132 : f1123 103 = u1113 := hf1131
        obtain ⟨S1133, hS1134, hf1135⟩ := hphi1127 18 104 _ rfl rfl rfl
        obtain ⟨e1136, hr1137⟩ := hf1135
        exact OpX.val (Value.pointer (some (elA u1113 (y).toNat))) wd1124 rfl (op_idx sl_22 (Ty.lift _ (Ext.trans hE7 hS1128.ext) hr1115) e1132 e1136 ha1139 hb1140) (Ext.refl _) rfl
      · refine ObX.op rfl fun f1142 wd1143 he1144 hout1145 hphi1146 => ?_
        have hS1147 := St.extend hS117 he1144
        obtain ⟨S1148, hS1149, hf1150⟩ := hphi1146 19 105 _ rfl rfl rfl
        have e1151 : f1142 105 = (Value.pointer (some (elA u1113 (y).toNat))) := hf1150
        exact OpX.val (Value.int .i64 x1138) wd1143 rfl (op_load one_2 e1151 (Ext.cell (Ext.trans hE7 hS1147.ext) hc1153)) (Ext.refl _) ⟨rfl, hr1154⟩
      · refine ObX.op rfl fun f1155 wd1156 he1157 hout1158 hphi1159 => ?_
        obtain ⟨S1161, hS1162, hf1163⟩ := hphi1159 10 96 _ rfl rfl rfl
        obtain ⟨e1164, hr1165⟩ := hf1163
        obtain ⟨S1166, hS1167, hf1168⟩ := hphi1159 20 106 _ rfl rfl rfl
        obtain ⟨e1169, hr1170⟩ := hf1168
        exact OpX.val (Value.int .i64 (w64 (x1014 - x1138))) wd1156 rfl (op_sub e1164 e1169) (Ext.refl _) ⟨rfl, (inR_wrap _ _)⟩
      · refine ObX.op rfl fun f1171 wd1172 he1173 hout1174 hphi1175 => ?_
        have e1177 : f1171 11 = v_b_Cocycle_Values := (hout1174 11 rfl).trans e109
        exact OpX.val v_b_Cocycle_Values wd1172 rfl (op_move e1177) (Ext.refl _) rfl
      · refine ObX.op rfl fun f1178 wd1179 he1180 hout1181 hphi1182 => ?_
        have e1184 : f1178 2 = (Value.int .i64 x) := (hout1181 2 rfl).trans e112
        exact OpX.val (Value.int .i64 x) wd1179 rfl (op_move e1184) (Ext.refl _) ⟨rfl, r_x⟩
      · refine ObX.op rfl fun f1185 wd1186 he1187 hout1188 hphi1189 => ?_
        have hS1190 := St.extend hS117 he1187
        obtain ⟨S1191, hS1192, hf1193⟩ := hphi1189 22 108 _ rfl rfl rfl
        have e1194 : f1185 108 = v_b_Cocycle_Values := hf1193
        obtain ⟨S1195, hS1196, hf1197⟩ := hphi1189 23 109 _ rfl rfl rfl
        obtain ⟨e1198, hr1199⟩ := hf1197
        exact OpX.val (Value.pointer (some (elA v_b_Cocycle_Values (x).toNat))) wd1186 rfl (op_idx sl_23 (Ty.lift _ (Ext.trans hE7 hS1190.ext) r_b_Cocycle_Values) e1194 e1198 ha1201 hb1202) (Ext.refl _) rfl
      · refine ObX.op rfl fun f1204 wd1205 he1206 hout1207 hphi1208 => ?_
        have hS1209 := St.extend hS117 he1206
        obtain ⟨S1210, hS1211, hf1212⟩ := hphi1208 24 110 _ rfl rfl rfl
        have e1213 : f1204 110 = (Value.pointer (some (elA v_b_Cocycle_Values (x).toNat))) := hf1212
        exact OpX.val u1214 wd1205 rfl (op_load one_26 e1213 (Ext.cell (Ext.trans hE7 hS1209.ext) hc1215)) (Ext.refl _) rfl
      · refine ObX.op rfl fun f1217 wd1218 he1219 hout1220 hphi1221 => ?_
        have e1223 : f1217 3 = (Value.int .i64 y) := (hout1220 3 rfl).trans e113
        exact OpX.val (Value.int .i64 y) wd1218 rfl (op_move e1223) (Ext.refl _) ⟨rfl, r_y⟩
      · refine ObX.op rfl fun f1224 wd1225 he1226 hout1227 hphi1228 => ?_
        have hS1229 := St.extend hS117 he1226
        obtain ⟨S1230, hS1231, hf1232⟩ := hphi1228 25 111 _ rfl rfl rfl
        have e1233 : f1224 111 = u1214 := hf1232
        obtain ⟨S1234, hS1235, hf1236⟩ := hphi1228 26 112 _ rfl rfl rfl
        obtain ⟨e1237, hr1238⟩ := hf1236
        exact OpX.val (Value.pointer (some (elA u1214 (y).toNat))) wd1225 rfl (op_idx sl_26 (Ty.lift _ (Ext.trans hE7 hS1229.ext) hr1216) e1233 e1237 ha1240 hb1241) (Ext.refl _) rfl
      · refine ObX.op rfl fun f1243 wd1244 he1245 hout1246 hphi1247 => ?_
        have hS1248 := St.extend hS117 he1245
        obtain ⟨S1249, hS1250, hf1251⟩ := hphi1247 27 113 _ rfl rfl rfl
        have e1252 : f1243 113 = (Value.pointer (some (elA u1214 (y).toNat))) := hf1251
        exact OpX.val u1253 wd1244 rfl (op_load one_22 e1252 (Ext.cell (Ext.trans hE7 hS1248.ext) hc1254)) (Ext.refl _) rfl
      · refine ObX.op rfl fun f1256 wd1257 he1258 hout1259 hphi1260 => ?_
        have e1262 : f1256 4 = (Value.int .i64 z) := (hout1259 4 rfl).trans e114
        exact OpX.val (Value.int .i64 z) wd1257 rfl (op_move e1262) (Ext.refl _) ⟨rfl, r_z⟩
      · refine ObX.op rfl fun f1263 wd1264 he1265 hout1266 hphi1267 => ?_
        have hS1268 := St.extend hS117 he1265
        obtain ⟨S1269, hS1270, hf1271⟩ := hphi1267 28 114 _ rfl rfl rfl
        have e1272 : f1263 114 = u1253 := hf1271
        obtain ⟨S1273, hS1274, hf1275⟩ := hphi1267 29 115 _ rfl rfl rfl
        obtain ⟨e1276, hr1277⟩ := hf1275
        exact OpX.val (Value.pointer (some (elA u1253 (z).toNat))) wd1264 rfl (op_idx sl_22 (Ty.lift _ (Ext.trans hE7 hS1268.ext) hr1255) e1272 e1276 ha1279 hb1280) (Ext.refl _) rfl
      · refine ObX.op rfl fun f1282 wd1283 he1284 hout1285 hphi1286 => ?_
        have hS1287 := St.extend hS117 he1284
        obtain ⟨S1288, hS1289, hf1290⟩ := hphi1286 30 116 _ rfl rfl rfl
        have e1291 : f1282 116 = (Value.pointer (some (elA u1253 (z).toNat))) := hf1290
        exact OpX.val (Value.int .i64 x1278) wd1283 rfl (op_load one_2 e1291 (Ext.cell (Ext.trans hE7 hS1287.ext) hc1293)) (Ext.refl _) ⟨rfl, hr1294⟩
      · refine ObX.op rfl fun f1295 wd1296 he1297 hout1298 hphi1299 => ?_
        obtain ⟨S1301, hS1302, hf1303⟩ := hphi1299 21 107 _ rfl rfl rfl
        obtain ⟨e1304, hr1305⟩ := hf1303
        obtain ⟨S1306, hS1307, hf1308⟩ := hphi1299 31 117 _ rfl rfl rfl
        obtain ⟨e1309, hr1310⟩ := hf1308
        exact OpX.val (Value.int .i64 (w64 ((w64 (x1014 - x1138)) - x1278))) wd1296 rfl (op_sub e1304 e1309) (Ext.refl _) ⟨rfl, (inR_wrap _ _)⟩
      · refine ObX.op rfl fun f1311 wd1312 he1313 hout1314 hphi1315 => ?_
        have hS1316 := St.extend hS117 he1313
        obtain ⟨S1317, hS1318, hf1319⟩ := hphi1315 0 86 _ rfl rfl rfl
        obtain ⟨e1320, hr1321⟩ := hf1319
        obtain ⟨S1322, hS1323, hf1324⟩ := hphi1315 32 118 _ rfl rfl rfl
        obtain ⟨e1325, hr1326⟩ := hf1324
        refine OpX.call rfl (op_call fn_85 (args2 e1320 e1325)) (Ret.mono (c_impl_Cocycle_rest (Ty.lift _ (Ext.trans hE7 hS1316.ext) r_b_Cocycle_Orders) hr1321 (Ty.lift _ (Ext.trans hE7 hS1316.ext) r_b_Cocycle_Values) hr1326 hx1328) ?_)
        rintro _ wd1330 ⟨rfl, hr1329, he1331⟩
        exact ⟨he1331, _, noS _ _, ⟨rfl, hr1329⟩⟩
      · refine ObX.op rfl fun f1333 wd1334 he1335 hout1336 hphi1337 => ?_
        have hS1338 := St.extend hS117 he1335
        have e1339 : f1333 13 = (Value.pointer (some ⟨b108, 0, none⟩)) := (hout1336 13 rfl).trans e107
        exact OpX.val (Value.agg #[v_b_Cocycle_Orders, (Value.int .i64 b_Cocycle_Modulus), v_b_Cocycle_Values]) wd1334 rfl (op_loadBox st_34 e1339 (St.boxAt hS1338 0 rfl) rfl rfl) (Ext.refl _) ⟨rfl, hr106⟩
      · refine ObX.op rfl fun f1340 wd1341 he1342 hout1343 hphi1344 => ?_
        have e1346 : f1340 12 = v_b_Values := (hout1343 12 rfl).trans e110
        exact OpX.val v_b_Values wd1341 rfl (op_move e1346) (Ext.refl _) rfl
      · refine ObX.op rfl fun f1347 wd1348 he1349 hout1350 hphi1351 => ?_
        have e1353 : f1347 2 = (Value.int .i64 x) := (hout1350 2 rfl).trans e112
        exact OpX.val (Value.int .i64 x) wd1348 rfl (op_move e1353) (Ext.refl _) ⟨rfl, r_x⟩
      · refine ObX.op rfl fun f1354 wd1355 he1356 hout1357 hphi1358 => ?_
        have hS1359 := St.extend hS117 he1356
        obtain ⟨S1360, hS1361, hf1362⟩ := hphi1358 35 121 _ rfl rfl rfl
        have e1363 : f1354 121 = v_b_Values := hf1362
        obtain ⟨S1364, hS1365, hf1366⟩ := hphi1358 36 122 _ rfl rfl rfl
        obtain ⟨e1367, hr1368⟩ := hf1366
        exact OpX.val (Value.pointer (some (elA v_b_Values (x).toNat))) wd1355 rfl (op_idx sl_26 (Ty.lift _ (Ext.trans hE7 hS1359.ext) r_b_Values) e1363 e1367 ha1370 hb1371) (Ext.refl _) rfl
      · refine ObX.op rfl fun f1373 wd1374 he1375 hout1376 hphi1377 => ?_
        have hS1378 := St.extend hS117 he1375
        obtain ⟨S1379, hS1380, hf1381⟩ := hphi1377 37 123 _ rfl rfl rfl
        have e1382 : f1373 123 = (Value.pointer (some (elA v_b_Values (x).toNat))) := hf1381
        exact OpX.val u1383 wd1374 rfl (op_load one_22 e1382 (Ext.cell (Ext.trans hE7 hS1378.ext) hc1384)) (Ext.refl _) rfl
      · refine ObX.op rfl fun f1386 wd1387 he1388 hout1389 hphi1390 => ?_
        have e1392 : f1386 4 = (Value.int .i64 z) := (hout1389 4 rfl).trans e114
        exact OpX.val (Value.int .i64 z) wd1387 rfl (op_move e1392) (Ext.refl _) ⟨rfl, r_z⟩
      · refine ObX.op rfl fun f1393 wd1394 he1395 hout1396 hphi1397 => ?_
        have hS1398 := St.extend hS117 he1395
        obtain ⟨S1399, hS1400, hf1401⟩ := hphi1397 38 124 _ rfl rfl rfl
        have e1402 : f1393 124 = u1383 := hf1401
        obtain ⟨S1403, hS1404, hf1405⟩ := hphi1397 39 125 _ rfl rfl rfl
        obtain ⟨e1406, hr1407⟩ := hf1405
        exact OpX.val (Value.pointer (some (elA u1383 (z).toNat))) wd1394 rfl (op_idx sl_22 (Ty.lift _ (Ext.trans hE7 hS1398.ext) hr1385) e1402 e1406 ha1409 hb1410) (Ext.refl _) rfl
      · refine ObX.op rfl fun f1412 wd1413 he1414 hout1415 hphi1416 => ?_
        have hS1417 := St.extend hS117 he1414
        obtain ⟨S1418, hS1419, hf1420⟩ := hphi1416 40 126 _ rfl rfl rfl
        have e1421 : f1412 126 = (Value.pointer (some (elA u1383 (z).toNat))) := hf1420
        exact OpX.val (Value.int .i64 x1408) wd1413 rfl (op_load one_2 e1421 (Ext.cell (Ext.trans hE7 hS1417.ext) hc1423)) (Ext.refl _) ⟨rfl, hr1424⟩
      · refine ObX.op rfl fun f1425 wd1426 he1427 hout1428 hphi1429 => ?_
        have e1431 : f1425 12 = v_b_Values := (hout1428 12 rfl).trans e110
        exact OpX.val v_b_Values wd1426 rfl (op_move e1431) (Ext.refl _) rfl
      · refine ObX.op rfl fun f1432 wd1433 he1434 hout1435 hphi1436 => ?_
        have e1438 : f1432 3 = (Value.int .i64 y) := (hout1435 3 rfl).trans e113
        exact OpX.val (Value.int .i64 y) wd1433 rfl (op_move e1438) (Ext.refl _) ⟨rfl, r_y⟩
      · refine ObX.op rfl fun f1439 wd1440 he1441 hout1442 hphi1443 => ?_
        have hS1444 := St.extend hS117 he1441
        obtain ⟨S1445, hS1446, hf1447⟩ := hphi1443 42 128 _ rfl rfl rfl
        have e1448 : f1439 128 = v_b_Values := hf1447
        obtain ⟨S1449, hS1450, hf1451⟩ := hphi1443 43 129 _ rfl rfl rfl
        obtain ⟨e1452, hr1453⟩ := hf1451
        exact OpX.val (Value.pointer (some (elA v_b_Values (y).toNat))) wd1440 rfl (op_idx sl_26 (Ty.lift _ (Ext.trans hE7 hS1444.ext) r_b_Values) e1448 e1452 ha1455 hb1456) (Ext.refl _) rfl
      · refine ObX.op rfl fun f1458 wd1459 he1460 hout1461 hphi1462 => ?_
        have hS1463 := St.extend hS117 he1460
        obtain ⟨S1464, hS1465, hf1466⟩ := hphi1462 44 130 _ rfl rfl rfl
        have e1467 : f1458 130 = (Value.pointer (some (elA v_b_Values (y).toNat))) := hf1466
        exact OpX.val u1468 wd1459 rfl (op_load one_22 e1467 (Ext.cell (Ext.trans hE7 hS1463.ext) hc1469)) (Ext.refl _) rfl
      · refine ObX.op rfl fun f1471 wd1472 he1473 hout1474 hphi1475 => ?_
        have e1477 : f1471 4 = (Value.int .i64 z) := (hout1474 4 rfl).trans e114
        exact OpX.val (Value.int .i64 z) wd1472 rfl (op_move e1477) (Ext.refl _) ⟨rfl, r_z⟩
      · refine ObX.op rfl fun f1478 wd1479 he1480 hout1481 hphi1482 => ?_
        have hS1483 := St.extend hS117 he1480
        obtain ⟨S1484, hS1485, hf1486⟩ := hphi1482 45 131 _ rfl rfl rfl
        have e1487 : f1478 131 = u1468 := hf1486
        obtain ⟨S1488, hS1489, hf1490⟩ := hphi1482 46 132 _ rfl rfl rfl
        obtain ⟨e1491, hr1492⟩ := hf1490
        exact OpX.val (Value.pointer (some (elA u1468 (z).toNat))) wd1479 rfl (op_idx sl_22 (Ty.lift _ (Ext.trans hE7 hS1483.ext) hr1470) e1487 e1491 ha1494 hb1495) (Ext.refl _) rfl
      · refine ObX.op rfl fun f1497 wd1498 he1499 hout1500 hphi1501 => ?_
        have hS1502 := St.extend hS117 he1499
        obtain ⟨S1503, hS1504, hf1505⟩ := hphi1501 47 133 _ rfl rfl rfl
        have e1506 : f1497 133 = (Value.pointer (some (elA u1468 (z).toNat))) := hf1505
        exact OpX.val (Value.int .i64 x1493) wd1498 rfl (op_load one_2 e1506 (Ext.cell (Ext.trans hE7 hS1502.ext) hc1508)) (Ext.refl _) ⟨rfl, hr1509⟩
      · refine ObX.op rfl fun f1510 wd1511 he1512 hout1513 hphi1514 => ?_
        obtain ⟨S1516, hS1517, hf1518⟩ := hphi1514 41 127 _ rfl rfl rfl
        obtain ⟨e1519, hr1520⟩ := hf1518
        obtain ⟨S1521, hS1522, hf1523⟩ := hphi1514 48 134 _ rfl rfl rfl
        obtain ⟨e1524, hr1525⟩ := hf1523
        exact OpX.val (Value.int .i64 (w64 (x1408 + x1493))) wd1511 rfl (op_add e1519 e1524) (Ext.refl _) ⟨rfl, (inR_wrap _ _)⟩
      · refine ObX.op rfl fun f1526 wd1527 he1528 hout1529 hphi1530 => ?_
        have e1532 : f1526 11 = v_b_Cocycle_Values := (hout1529 11 rfl).trans e109
        exact OpX.val v_b_Cocycle_Values wd1527 rfl (op_move e1532) (Ext.refl _) rfl
      · refine ObX.op rfl fun f1533 wd1534 he1535 hout1536 hphi1537 => ?_
        have e1539 : f1533 2 = (Value.int .i64 x) := (hout1536 2 rfl).trans e112
        exact OpX.val (Value.int .i64 x) wd1534 rfl (op_move e1539) (Ext.refl _) ⟨rfl, r_x⟩
      · refine ObX.op rfl fun f1540 wd1541 he1542 hout1543 hphi1544 => ?_
        have hS1545 := St.extend hS117 he1542
        obtain ⟨S1546, hS1547, hf1548⟩ := hphi1544 50 136 _ rfl rfl rfl
        have e1549 : f1540 136 = v_b_Cocycle_Values := hf1548
        obtain ⟨S1550, hS1551, hf1552⟩ := hphi1544 51 137 _ rfl rfl rfl
        obtain ⟨e1553, hr1554⟩ := hf1552
        exact OpX.val (Value.pointer (some (elA v_b_Cocycle_Values (x).toNat))) wd1541 rfl (op_idx sl_23 (Ty.lift _ (Ext.trans hE7 hS1545.ext) r_b_Cocycle_Values) e1549 e1553 ha1201 hb1202) (Ext.refl _) rfl
      · refine ObX.op rfl fun f1555 wd1556 he1557 hout1558 hphi1559 => ?_
        have hS1560 := St.extend hS117 he1557
        obtain ⟨S1561, hS1562, hf1563⟩ := hphi1559 52 138 _ rfl rfl rfl
        have e1564 : f1555 138 = (Value.pointer (some (elA v_b_Cocycle_Values (x).toNat))) := hf1563
        exact OpX.val u1565 wd1556 rfl (op_load one_26 e1564 (Ext.cell (Ext.trans hE7 hS1560.ext) hc1566)) (Ext.refl _) rfl
      · refine ObX.op rfl fun f1568 wd1569 he1570 hout1571 hphi1572 => ?_
        have e1574 : f1568 4 = (Value.int .i64 z) := (hout1571 4 rfl).trans e114
        exact OpX.val (Value.int .i64 z) wd1569 rfl (op_move e1574) (Ext.refl _) ⟨rfl, r_z⟩
      · refine ObX.op rfl fun f1575 wd1576 he1577 hout1578 hphi1579 => ?_
        have hS1580 := St.extend hS117 he1577
        obtain ⟨S1581, hS1582, hf1583⟩ := hphi1579 53 139 _ rfl rfl rfl
        have e1584 : f1575 139 = u1565 := hf1583
        obtain ⟨S1585, hS1586, hf1587⟩ := hphi1579 54 140 _ rfl rfl rfl
        obtain ⟨e1588, hr1589⟩ := hf1587
        exact OpX.val (Value.pointer (some (elA u1565 (z).toNat))) wd1576 rfl (op_idx sl_26 (Ty.lift _ (Ext.trans hE7 hS1580.ext) hr1567) e1584 e1588 ha1591 hb1592) (Ext.refl _) rfl
      · refine ObX.op rfl fun f1594 wd1595 he1596 hout1597 hphi1598 => ?_
        have hS1599 := St.extend hS117 he1596
        obtain ⟨S1600, hS1601, hf1602⟩ := hphi1598 55 141 _ rfl rfl rfl
        have e1603 : f1594 141 = (Value.pointer (some (elA u1565 (z).toNat))) := hf1602
        exact OpX.val u1604 wd1595 rfl (op_load one_22 e1603 (Ext.cell (Ext.trans hE7 hS1599.ext) hc1605)) (Ext.refl _) rfl
      · refine ObX.op rfl fun f1607 wd1608 he1609 hout1610 hphi1611 => ?_
        have e1613 : f1607 3 = (Value.int .i64 y) := (hout1610 3 rfl).trans e113
        exact OpX.val (Value.int .i64 y) wd1608 rfl (op_move e1613) (Ext.refl _) ⟨rfl, r_y⟩
      · refine ObX.op rfl fun f1614 wd1615 he1616 hout1617 hphi1618 => ?_
        have hS1619 := St.extend hS117 he1616
        obtain ⟨S1620, hS1621, hf1622⟩ := hphi1618 56 142 _ rfl rfl rfl
        have e1623 : f1614 142 = u1604 := hf1622
        obtain ⟨S1624, hS1625, hf1626⟩ := hphi1618 57 143 _ rfl rfl rfl
        obtain ⟨e1627, hr1628⟩ := hf1626
        exact OpX.val (Value.pointer (some (elA u1604 (y).toNat))) wd1615 rfl (op_idx sl_22 (Ty.lift _ (Ext.trans hE7 hS1619.ext) hr1606) e1623 e1627 ha1630 hb1631) (Ext.refl _) rfl
      · refine ObX.op rfl fun f1633 wd1634 he1635 hout1636 hphi1637 => ?_
        have hS1638 := St.extend hS117 he1635
        obtain ⟨S1639, hS1640, hf1641⟩ := hphi1637 58 144 _ rfl rfl rfl
        have e1642 : f1633 144 = (Value.pointer (some (elA u1604 (y).toNat))) := hf1641
        exact OpX.val (Value.int .i64 x1629) wd1634 rfl (op_load one_2 e1642 (Ext.cell (Ext.trans hE7 hS1638.ext) hc1644)) (Ext.refl _) ⟨rfl, hr1645⟩
      · refine ObX.op rfl fun f1646 wd1647 he1648 hout1649 hphi1650 => ?_
        obtain ⟨S1652, hS1653, hf1654⟩ := hphi1650 49 135 _ rfl rfl rfl
        obtain ⟨e1655, hr1656⟩ := hf1654
        obtain ⟨S1657, hS1658, hf1659⟩ := hphi1650 59 145 _ rfl rfl rfl
        obtain ⟨e1660, hr1661⟩ := hf1659
        exact OpX.val (Value.int .i64 (w64 ((w64 (x1408 + x1493)) - x1629))) wd1647 rfl (op_sub e1655 e1660) (Ext.refl _) ⟨rfl, (inR_wrap _ _)⟩
      · intro f1662 wd1663 Ss1664 he1665 hout1666 hSn1667 hSd1668 hphi1669
        show WL _ _ _ _ _ _ _
        have hS1670 := St.extend hS117 he1665
        obtain ⟨e1671, hr1672⟩ := hphi1669 33 119 _ (by decide) rfl rfl
        obtain ⟨e1673, hr1674⟩ := hphi1669 34 120 _ (by decide) rfl rfl
        obtain ⟨e1675, hr1676⟩ := hphi1669 60 146 _ (by decide) rfl rfl
        obtain ⟨x1677, hx1678, h⟩ := bs h
        refine WL.call _ (op_call fn_85 (args2 e1673 e1675)) (c_impl_Cocycle_rest (Ty.lift _ (Ext.trans hE7 hS1670.ext) r_b_Cocycle_Orders) hr1674 (Ty.lift _ (Ext.trans hE7 hS1670.ext) r_b_Cocycle_Values) hr1676 hx1678) rfl ?_
        rintro _ wd1680 ⟨rfl, hr1679, he1681⟩
        have hS1683 := St.extend hS1670 he1681
        replace hS1683 : St wd2 wd1680 [bx b108 [v_b_Cocycle_Orders, (Value.int .i64 b_Cocycle_Modulus), v_b_Cocycle_Values]] := hS1683
        refine WL.val (Value.bool (x1327 == x1677)) _ (op_eql e1671 rfl) rfl ?_
        refine WL.val (Value.bool (x1327 == x1677)) _ (op_assign rfl) rfl ?_
        refine WL.nil ?_
        refine W.ret ?_
        obtain rfl := Option.some.inj h
        show FinP _ _ _ _ _ _ _
        exact FinP.ret _ (res1 rfl rfl) ⟨rfl, (Ext.trans hE7 hS1683.ext)⟩

theorem c_impl_Braiding_fault {w : World} {b_Cocycle_Orders : (List Int)} {v_b_Cocycle_Orders : Value} {b_Cocycle_Modulus : Int} {b_Cocycle_Values : (List (List (List Int)))} {v_b_Cocycle_Values : Value} {b_Values : (List (List Int))} {v_b_Values : Value} (r_b_Cocycle_Orders : (Ty.sl (Ty.i .i64)).rep w v_b_Cocycle_Orders b_Cocycle_Orders) (r_b_Cocycle_Modulus : InR .i64 b_Cocycle_Modulus) (r_b_Cocycle_Values : (Ty.sl (Ty.sl (Ty.sl (Ty.i .i64)))).rep w v_b_Cocycle_Values b_Cocycle_Values) (r_b_Values : (Ty.sl (Ty.sl (Ty.i .i64))).rep w v_b_Values b_Values) {res : (List Int)} (h : p_impl_Braiding_fault b_Cocycle_Orders b_Cocycle_Modulus b_Cocycle_Values b_Values  = some res) :
    Ret Try.prog 105 #[(Value.agg #[v_b_Cocycle_Orders, (Value.int .i64 b_Cocycle_Modulus), v_b_Cocycle_Values, v_b_Values])] w (fun v w' => ∃ (u0 : Value), v = u0 ∧ NilIff u0 res ∧ Ext w w' ∧ Sep w.heap.size w' [(Ty.sl (Ty.i .i64)).at u0 res]) := by
  unfold p_impl_Braiding_fault at h
  have hS0 : St w w [] := St.start w
  refine Ret.start (fn := Try.f105) Try.func105 rfl 44 rfl rfl ?_
  refine W.seq (W.region ?_)
  refine WL.box hS0 rfl (cs := [v_b_Cocycle_Orders, (Value.int .i64 b_Cocycle_Modulus), v_b_Cocycle_Values, v_b_Values]) rfl rfl ?_
  intro b1 wd2 hS3 he4 hx5
  replace hS3 : St w wd2 [bx b1 [v_b_Cocycle_Orders, (Value.int .i64 b_Cocycle_Modulus), v_b_Cocycle_Values, v_b_Values]] := hS3
  have hx6 := St.boxAt hS3 0 rfl
  have hE7 : Ext w wd2 := hS3.ext
  have hS8 : St wd2 wd2 [] := St.start wd2
  refine WL.val (Value.slice none 0 0) _ (op_assign rfl) rfl ?_
  refine WL.nil ?_
  refine W.seq (W.seq (W.region ?_))
  refine WL.val (Value.int .i64 (1 : Int)) _ (op_assign rfl) rfl ?_
  refine WL.nil ?_
  show W _ _ _ _ _ _
  obtain ⟨res9, hres10, h⟩ := bs h
  refine W.blockLoop (fun fq wq => ∃ s, res9 = Res.fin s ∧ St wd2 wq []) ?_ ?_
  · refine W.whileC (fun (s : Int) fq wq => fq 1 = (Value.pointer (some ⟨b1, 0, none⟩)) ∧ fq 3 = Value.int .i64 s ∧ InR .i64 s ∧ St wd2 wq []) hres10 ⟨rfl, rfl, (inL rfl), hS8⟩ ?_
    intro x12 ct13 f14 wd15 hb17 hI18 hbrk19 hret20
    replace hI18 : f14 1 = (Value.pointer (some ⟨b1, 0, none⟩)) ∧ f14 3 = Value.int .i64 x12 ∧ InR .i64 x12 ∧ St wd2 wd15 [] := hI18
    replace hb17 : p_impl_Braiding_fault_L1 b_Cocycle_Orders b_Cocycle_Modulus b_Cocycle_Values b_Values  x12 = some ct13 := hb17
    unfold p_impl_Braiding_fault_L1 at hb17
    obtain ⟨hf21, hf22, hr23, hS24⟩ := hI18
    refine W.seq (W.seq (W.region ?_))
    refine WL.val (Value.int .i64 x12) _ (op_move hf22) rfl ?_
    refine WL.val (Value.bool (decide (x12 ≤ (2 : Int)))) _ (op_leq rfl rfl) rfl ?_
    refine WL.nil ?_
    refine W.cond (decide (x12 ≤ (2 : Int))) rfl (fun hc25 => ?_) (fun hc25 => ?_)
    · replace hb17 := ip hb17 hc25
      refine W.skip ?_
      refine W.seq ?_
      refine W.block ?_
      refine W.seq (W.region ?_)
      refine WL.val (Value.pointer (some ⟨b1, 3, none⟩)) _ (op_fieldAddr fd_36_1 hf21) rfl ?_
      refine WL.val v_b_Values _ (op_load one_26 rfl (BoxAt.cell (BoxAt.lift hS24.ext hx6) rfl)) rfl ?_
      have hr27 := inR_len (Ty.lift _ (Ext.trans hE7 hS24.ext) r_b_Values)
      refine WL.val (Value.int .i64 ((b_Values).length : Int)) _ (op_lenL sl_26 (Ty.lift _ (Ext.trans hE7 hS24.ext) r_b_Values) rfl) rfl ?_
      refine WL.val (Value.int .i64 (0 : Int)) _ (op_move rfl) rfl ?_
      refine WL.nil ?_
      show W _ _ _ _ _ _
      obtain ⟨res28, hres29, hb17⟩ := bs hb17
      refine W.blockLoop (fun fq wq => ∃ s, res28 = Res.fin s ∧ fq 1 = (Value.pointer (some ⟨b1, 0, none⟩)) ∧ fq 3 = (Value.int .i64 x12) ∧ St wd2 wq []) ?_ ?_
      · refine W.forN (fun k (s : Unit) fq wq => fq 1 = (Value.pointer (some ⟨b1, 0, none⟩)) ∧ fq 3 = (Value.int .i64 x12) ∧ fq 13 = (Value.int .i64 ((b_Values).length : Int)) ∧ fq 14 = Value.int .i64 (k : Int) ∧ InR .i64 (k : Int) ∧ St wd2 wq []) hres29 ⟨hf21, hf22, rfl, rfl, (inL rfl), hS24⟩ ?_ ?_
        · intro k30 s166 ct31 f32 wd33 hk34 hb35 hI36 hbrk37 hret38
          obtain ⟨⟩ := s166
          replace hI36 : f32 1 = (Value.pointer (some ⟨b1, 0, none⟩)) ∧ f32 3 = (Value.int .i64 x12) ∧ f32 13 = (Value.int .i64 ((b_Values).length : Int)) ∧ f32 14 = Value.int .i64 (k30 : Int) ∧ InR .i64 (k30 : Int) ∧ St wd2 wd33 [] := hI36
          replace hb35 : p_impl_Braiding_fault_L2 b_Cocycle_Orders b_Cocycle_Modulus b_Cocycle_Values b_Values x12 k30  = some ct31 := hb35
          unfold p_impl_Braiding_fault_L2 at hb35
          obtain ⟨hf39, hf40, hf41, hf42, hr43, hS44⟩ := hI36
          refine W.seq (W.region ?_)
          refine WL.val (Value.bool (decide ((k30 : Int) < ((b_Values).length : Int)))) _ (op_lss hf42 hf41) rfl ?_
          have hl45 : (k30 : Int) < ((b_Values).length : Int) := by omega
          refine WL.nil ?_
          refine W.seq ?_
          refine W.condT (decide ((k30 : Int) < ((b_Values).length : Int))) rfl (decide_eq_true hl45) ?_
          refine W.skip ?_
          refine W.seq ?_
          refine W.block ?_
          refine W.seq (W.region ?_)
          refine WL.val (Value.int .i64 (k30 : Int)) _ (op_move hf42) rfl ?_
          refine WL.val (Value.int .i64 (k30 : Int)) _ (op_assign rfl) rfl ?_
          refine WL.nil ?_
          refine W.seq (W.region ?_)
          refine WL.val (Value.pointer (some ⟨b1, 3, none⟩)) _ (op_fieldAddr fd_36_1 hf39) rfl ?_
          refine WL.val v_b_Values _ (op_load one_26 rfl (BoxAt.cell (BoxAt.lift hS44.ext hx6) rfl)) rfl ?_
          have hr47 := inR_len (Ty.lift _ (Ext.trans hE7 hS44.ext) r_b_Values)
          refine WL.val (Value.int .i64 ((b_Values).length : Int)) _ (op_lenL sl_26 (Ty.lift _ (Ext.trans hE7 hS44.ext) r_b_Values) rfl) rfl ?_
          refine WL.val (Value.int .i64 (0 : Int)) _ (op_move rfl) rfl ?_
          refine WL.nil ?_
          show W _ _ _ _ _ _
          obtain ⟨res48, hres49, hb35⟩ := bs hb35
          refine W.blockLoop (fun fq wq => ∃ s, res48 = Res.fin s ∧ fq 1 = (Value.pointer (some ⟨b1, 0, none⟩)) ∧ fq 3 = (Value.int .i64 x12) ∧ fq 13 = (Value.int .i64 ((b_Values).length : Int)) ∧ fq 14 = (Value.int .i64 (k30 : Int)) ∧ St wd2 wq []) ?_ ?_
          · refine W.forN (fun k (s : Unit) fq wq => fq 1 = (Value.pointer (some ⟨b1, 0, none⟩)) ∧ fq 3 = (Value.int .i64 x12) ∧ fq 4 = (Value.int .i64 (k30 : Int)) ∧ fq 13 = (Value.int .i64 ((b_Values).length : Int)) ∧ fq 14 = (Value.int .i64 (k30 : Int)) ∧ fq 19 = (Value.int .i64 ((b_Values).length : Int)) ∧ fq 20 = Value.int .i64 (k : Int) ∧ InR .i64 (k : Int) ∧ St wd2 wq []) hres49 ⟨hf39, hf40, rfl, hf41, hf42, rfl, rfl, (inL rfl), hS44⟩ ?_ ?_
            · intro k50 s140 ct51 f52 wd53 hk54 hb55 hI56 hbrk57 hret58
              obtain ⟨⟩ := s140
              replace hI56 : f52 1 = (Value.pointer (some ⟨b1, 0, none⟩)) ∧ f52 3 = (Value.int .i64 x12) ∧ f52 4 = (Value.int .i64 (k30 : Int)) ∧ f52 13 = (Value.int .i64 ((b_Values).length : Int)) ∧ f52 14 = (Value.int .i64 (k30 : Int)) ∧ f52 19 = (Value.int .i64 ((b_Values).length : Int)) ∧ f52 20 = Value.int .i64 (k50 : Int) ∧ InR .i64 (k50 : Int) ∧ St wd2 wd53 [] := hI56
              replace hb55 : p_impl_Braiding_fault_L3 b_Cocycle_Orders b_Cocycle_Modulus b_Cocycle_Values b_Values x12 k30 k50  = some ct51 := hb55
              unfold p_impl_Braiding_fault_L3 at hb55
              obtain ⟨hf59, hf60, hf61, hf62, hf63, hf64, hf65, hr66, hS67⟩ := hI56
              refine W.seq (W.region ?_)
              refine WL.val (Value.bool (decide ((k50 : Int) < ((b_Values).length : Int)))) _ (op_lss hf65 hf64) rfl ?_
              have hl68 : (k50 : Int) < ((b_Values).length : Int) := by omega
              refine WL.nil ?_
              refine W.seq ?_
              refine W.condT (decide ((k50 : Int) < ((b_Values).length : Int))) rfl (decide_eq_true hl68) ?_
              refine W.skip ?_
              refine W.seq ?_
              refine W.block ?_
              refine W.seq (W.region ?_)
              refine WL.val (Value.int .i64 (k50 : Int)) _ (op_move hf65) rfl ?_
              refine WL.val (Value.int .i64 (k50 : Int)) _ (op_assign rfl) rfl ?_
              refine WL.nil ?_
              refine W.seq (W.region ?_)
              refine WL.val (Value.pointer (some ⟨b1, 3, none⟩)) _ (op_fieldAddr fd_36_1 hf59) rfl ?_
              refine WL.val v_b_Values _ (op_load one_26 rfl (BoxAt.cell (BoxAt.lift hS67.ext hx6) rfl)) rfl ?_
              have hr70 := inR_len (Ty.lift _ (Ext.trans hE7 hS67.ext) r_b_Values)
              refine WL.val (Value.int .i64 ((b_Values).length : Int)) _ (op_lenL sl_26 (Ty.lift _ (Ext.trans hE7 hS67.ext) r_b_Values) rfl) rfl ?_
              refine WL.val (Value.int .i64 (0 : Int)) _ (op_move rfl) rfl ?_
              refine WL.nil ?_
              show W _ _ _ _ _ _
              obtain ⟨res71, hres72, hb55⟩ := bs hb55
              refine W.blockLoop (fun fq wq => ∃ s, res71 = Res.fin s ∧ fq 1 = (Value.pointer (some ⟨b1, 0, none⟩)) ∧ fq 3 = (Value.int .i64 x12) ∧ fq 4 = (Value.int .i64 (k30 : Int)) ∧ fq 13 = (Value.int .i64 ((b_Values).length : Int)) ∧ fq 14 = (Value.int .i64 (k30 : Int)) ∧ fq 19 = (Value.int .i64 ((b_Values).length : Int)) ∧ fq 20 = (Value.int .i64 (k50 : Int)) ∧ St wd2 wq []) ?_ ?_
              · refine W.forN (fun k (s : Unit) fq wq => fq 1 = (Value.pointer (some ⟨b1, 0, none⟩)) ∧ fq 3 = (Value.int .i64 x12) ∧ fq 4 = (Value.int .i64 (k30 : Int)) ∧ fq 5 = (Value.int .i64 (k50 : Int)) ∧ fq 13 = (Value.int .i64 ((b_Values).length : Int)) ∧ fq 14 = (Value.int .i64 (k30 : Int)) ∧ fq 19 = (Value.int .i64 ((b_Values).length : Int)) ∧ fq 20 = (Value.int .i64 (k50 : Int)) ∧ fq 25 = (Value.int .i64 ((b_Values).length : Int)) ∧ fq 26 = Value.int .i64 (k : Int) ∧ InR .i64 (k : Int) ∧ St wd2 wq []) hres72 ⟨hf59, hf60, hf61, rfl, hf62, hf63, hf64, hf65, rfl, rfl, (inL rfl), hS67⟩ ?_ ?_
                · intro k73 s108 ct74 f75 wd76 hk77 hb78 hI79 hbrk80 hret81
                  obtain ⟨⟩ := s108
                  replace hI79 : f75 1 = (Value.pointer (some ⟨b1, 0, none⟩)) ∧ f75 3 = (Value.int .i64 x12) ∧ f75 4 = (Value.int .i64 (k30 : Int)) ∧ f75 5 = (Value.int .i64 (k50 : Int)) ∧ f75 13 = (Value.int .i64 ((b_Values).length : Int)) ∧ f75 14 = (Value.int .i64 (k30 : Int)) ∧ f75 19 = (Value.int .i64 ((b_Values).length : Int)) ∧ f75 20 = (Value.int .i64 (k50 : Int)) ∧ f75 25 = (Value.int .i64 ((b_Values).length : Int)) ∧ f75 26 = Value.int .i64 (k73 : Int) ∧ InR .i64 (k73 : Int) ∧ St wd2 wd76 [] := hI79
                  replace hb78 : p_impl_Braiding_fault_L4 b_Cocycle_Orders b_Cocycle_Modulus b_Cocycle_Values b_Values x12 k30 k50 k73  = some ct74 := hb78
                  unfold p_impl_Braiding_fault_L4 at hb78
                  obtain ⟨hf82, hf83, hf84, hf85, hf86, hf87, hf88, hf89, hf90, hf91, hr92, hS93⟩ := hI79
                  refine W.seq (W.region ?_)
                  refine WL.val (Value.bool (decide ((k73 : Int) < ((b_Values).length : Int)))) _ (op_lss hf91 hf90) rfl ?_
                  have hl94 : (k73 : Int) < ((b_Values).length : Int) := by omega
                  refine WL.nil ?_
                  refine W.seq ?_
                  refine W.condT (decide ((k73 : Int) < ((b_Values).length : Int))) rfl (decide_eq_true hl94) ?_
                  refine W.skip ?_
                  refine W.seq ?_
                  refine W.block ?_
                  refine W.seq (W.region ?_)
                  refine WL.val (Value.int .i64 (k73 : Int)) _ (op_move hf91) rfl ?_
                  refine WL.val (Value.int .i64 (k73 : Int)) _ (op_assign rfl) rfl ?_
                  refine WL.nil ?_
                  refine W.seq (W.region ?_)
                  refine WL.val (Value.agg #[v_b_Cocycle_Orders, (Value.int .i64 b_Cocycle_Modulus), v_b_Cocycle_Values, v_b_Values]) _ (op_loadBox st_36 hf82 (BoxAt.lift hS93.ext hx6) rfl rfl) rfl ?_
                  refine WL.val (Value.int .i64 x12) _ (op_move hf83) rfl ?_
                  refine WL.val (Value.int .i64 (k30 : Int)) _ (op_move hf84) rfl ?_
                  refine WL.val (Value.int .i64 (k50 : Int)) _ (op_move hf85) rfl ?_
                  refine WL.val (Value.int .i64 (k73 : Int)) _ (op_move rfl) rfl ?_
                  obtain ⟨x96, hx97, hb78⟩ := bs hb78
                  refine WL.call _ (op_call fn_131 (args5 rfl rfl rfl rfl rfl)) (c_impl_Braiding_holds (Ty.lift _ (Ext.trans hE7 hS93.ext) r_b_Cocycle_Orders) r_b_Cocycle_Modulus (Ty.lift _ (Ext.trans hE7 hS93.ext) r_b_Cocycle_Values) (Ty.lift _ (Ext.trans hE7 hS93.ext) r_b_Values) hr23 hr43 hr66 hr92 hx97) rfl ?_
                  rintro _ wd98 ⟨rfl, he99⟩
                  have hS101 := St.extend hS93 he99
                  replace hS101 : St wd2 wd98 [] := hS101
                  refine WL.val (Value.bool (!x96)) _ (op_not rfl) rfl ?_
                  refine WL.nil ?_
                  refine W.cond (!x96) rfl (fun hc102 => ?_) (fun hc102 => ?_)
                  · replace hb78 := ip hb78 hc102
                    refine W.seq (W.region ?_)
                    refine WL.val (Value.int .i64 x12) _ (op_move hf83) rfl ?_
                    refine WL.val (Value.int .i64 (k30 : Int)) _ (op_move hf84) rfl ?_
                    refine WL.val (Value.int .i64 (k50 : Int)) _ (op_move hf85) rfl ?_
                    refine WL.val (Value.int .i64 (k73 : Int)) _ (op_move rfl) rfl ?_
                    refine WL.litFlat (t := (Ty.i .i64)) (flat_i .i64) [(Value.int .i64 x12), (Value.int .i64 (k30 : Int)), (Value.int .i64 (k50 : Int)), (Value.int .i64 (k73 : Int))] [x12, (k30 : Int), (k50 : Int), (k73 : Int)] hS101 sl_22 rfl rfl (fillL rfl ⟨rfl, rfl, rfl, rfl, rfl, rfl, rfl, rfl, rfl, rfl, rfl, rfl, trivial⟩) rfl rfl (litL ⟨⟨rfl, hr23⟩, ⟨rfl, hr43⟩, ⟨rfl, hr66⟩, ⟨rfl, hr92⟩, trivial⟩) rfl ?_
                    intro u104 wd105 hS106 he107
                    replace hS106 : St wd2 wd105 [(Ty.sl (Ty.i .i64)).at u104 ([x12, (k30 : Int), (k50 : Int), (k73 : Int)] : (List Int))] := hS106
                    refine WL.val u104 _ (op_assign rfl) rfl ?_
                    refine WL.nil ?_
                    refine W.ret ?_
                    obtain rfl := Option.some.inj hb78
                    obtain rfl := hret81 _ rfl
                    replace hb55 := onRes_ret hb55
                    obtain rfl := Option.some.inj hb55
                    obtain rfl := hret58 _ rfl
                    replace hb35 := onRes_ret hb35
                    obtain rfl := Option.some.inj hb35
                    obtain rfl := hret38 _ rfl
                    replace hb17 := onRes_ret hb17
                    obtain rfl := Option.some.inj hb17
                    obtain rfl := hret20 _ rfl
                    replace h := onRes_ret h
                    obtain rfl := Option.some.inj h
                    show FinP _ _ _ _ _ _ _
                    exact FinP.ret _ (res1 rfl rfl) ⟨u104, rfl, (nil_cons), (Ext.trans hE7 hS106.ext), (St.out (St.pick hS106 [0] rfl) (hE7))⟩
                  · replace hb78 := inegb hb78 hc102
                    refine W.skip ?_
                    show W _ _ _ _ _ _
                    refine W.region ?_
                    refine WL.val (Value.int .i64 (w64 ((k73 : Int) + (1 : Int)))) _ (op_add hf91 rfl) rfl ?_
                    refine WL.val (Value.int .i64 (w64 ((k73 : Int) + (1 : Int)))) _ (op_move rfl) rfl ?_
                    refine WL.nil ?_
                    obtain rfl := Option.some.inj hb78
                    show ∃ s, _ = Ctl.next s ∧ _
                    exact ⟨_, rfl, hf82, hf83, hf84, hf85, hf86, hf87, hf88, hf89, hf90, (ctr_next hl94 hr70), (ctr_rng hl94 hr70), hS101⟩
                · intro s113 f109 wd110 hs111 hI112
                  obtain ⟨⟩ := s113
                  replace hI112 : f109 1 = (Value.pointer (some ⟨b1, 0, none⟩)) ∧ f109 3 = (Value.int .i64 x12) ∧ f109 4 = (Value.int .i64 (k30 : Int)) ∧ f109 5 = (Value.int .i64 (k50 : Int)) ∧ f109 13 = (Value.int .i64 ((b_Values).length : Int)) ∧ f109 14 = (Value.int .i64 (k30 : Int)) ∧ f109 19 = (Value.int .i64 ((b_Values).length : Int)) ∧ f109 20 = (Value.int .i64 (k50 : Int)) ∧ f109 25 = (Value.int .i64 ((b_Values).length : Int)) ∧ f109 26 = Value.int .i64 (((b_Values).length : Nat) : Int) ∧ InR .i64 (((b_Values).length : Nat) : Int) ∧ St wd2 wd110 [] := hI112
                  obtain ⟨hf114, hf115, hf116, hf117, hf118, hf119, hf120, hf121, hf122, hf123, hr124, hS125⟩ := hI112
                  refine W.seq (W.region ?_)
                  refine WL.val (Value.bool (decide ((((b_Values).length : Nat) : Int) < ((b_Values).length : Int)))) _ (op_lss hf123 hf122) rfl ?_
                  have hl126 : ¬ (((b_Values).length : Nat) : Int) < ((b_Values).length : Int) := by omega
                  refine WL.nil ?_
                  refine W.seq ?_
                  refine W.condF (decide ((((b_Values).length : Nat) : Int) < ((b_Values).length : Int))) rfl (decide_eq_false hl126) ?_
                  refine W.exit ?_
                  show _ = _ ∧ _
                  exact ⟨rfl, _, hs111, hf114, hf115, hf116, hf118, hf119, hf120, hf121, hS125⟩
              · rintro f127 wd128 ⟨s130, rfl, hq129⟩
                replace hb55 := onRes_fin hb55
                obtain ⟨⟩ := s130
                replace hq129 : f127 1 = (Value.pointer (some ⟨b1, 0, none⟩)) ∧ f127 3 = (Value.int .i64 x12) ∧ f127 4 = (Value.int .i64 (k30 : Int)) ∧ f127 13 = (Value.int .i64 ((b_Values).length : Int)) ∧ f127 14 = (Value.int .i64 (k30 : Int)) ∧ f127 19 = (Value.int .i64 ((b_Values).length : Int)) ∧ f127 20 = (Value.int .i64 (k50 : Int)) ∧ St wd2 wd128 [] := hq129
                obtain ⟨hf131, hf132, hf133, hf134, hf135, hf136, hf137, hS138⟩ := hq129
                show W _ _ _ _ _ _
                refine W.region ?_
                refine WL.val (Value.int .i64 (w64 ((k50 : Int) + (1 : Int)))) _ (op_add hf137 rfl) rfl ?_
                refine WL.val (Value.int .i64 (w64 ((k50 : Int) + (1 : Int)))) _ (op_move rfl) rfl ?_
                refine WL.nil ?_
                obtain rfl := Option.some.inj hb55
                show ∃ s, _ = Ctl.next s ∧ _
                exact ⟨_, rfl, hf131, hf132, hf133, hf134, hf135, hf136, (ctr_next hl68 hr47), (ctr_rng hl68 hr47), hS138⟩
            · intro s145 f141 wd142 hs143 hI144
              obtain ⟨⟩ := s145
              replace hI144 : f141 1 = (Value.pointer (some ⟨b1, 0, none⟩)) ∧ f141 3 = (Value.int .i64 x12) ∧ f141 4 = (Value.int .i64 (k30 : Int)) ∧ f141 13 = (Value.int .i64 ((b_Values).length : Int)) ∧ f141 14 = (Value.int .i64 (k30 : Int)) ∧ f141 19 = (Value.int .i64 ((b_Values).length : Int)) ∧ f141 20 = Value.int .i64 (((b_Values).length : Nat) : Int) ∧ InR .i64 (((b_Values).length : Nat) : Int) ∧ St wd2 wd142 [] := hI144
              obtain ⟨hf146, hf147, hf148, hf149, hf150, hf151, hf152, hr153, hS154⟩ := hI144
              refine W.seq (W.region ?_)
              refine WL.val (Value.bool (decide ((((b_Values).length : Nat) : Int) < ((b_Values).length : Int)))) _ (op_lss hf152 hf151) rfl ?_
              have hl155 : ¬ (((b_Values).length : Nat) : Int) < ((b_Values).length : Int) := by omega
              refine WL.nil ?_
              refine W.seq ?_
              refine W.condF (decide ((((b_Values).length : Nat) : Int) < ((b_Values).length : Int))) rfl (decide_eq_false hl155) ?_
              refine W.exit ?_
              show _ = _ ∧ _
              exact ⟨rfl, _, hs143, hf146, hf147, hf149, hf150, hS154⟩
          · rintro f156 wd157 ⟨s159, rfl, hq158⟩
            replace hb35 := onRes_fin hb35
            obtain ⟨⟩ := s159
            replace hq158 : f156 1 = (Value.pointer (some ⟨b1, 0, none⟩)) ∧ f156 3 = (Value.int .i64 x12) ∧ f156 13 = (Value.int .i64 ((b_Values).length : Int)) ∧ f156 14 = (Value.int .i64 (k30 : Int)) ∧ St wd2 wd157 [] := hq158
            obtain ⟨hf160, hf161, hf162, hf163, hS164⟩ := hq158
            show W _ _ _ _ _ _
            refine W.region ?_
            refine WL.val (Value.int .i64 (w64 ((k30 : Int) + (1 : Int)))) _ (op_add hf163 rfl) rfl ?_
            refine WL.val (Value.int .i64 (w64 ((k30 : Int) + (1 : Int)))) _ (op_move rfl) rfl ?_
            refine WL.nil ?_
            obtain rfl := Option.some.inj hb35
            show ∃ s, _ = Ctl.next s ∧ _
            exact ⟨_, rfl, hf160, hf161, hf162, (ctr_next hl45 hr27), (ctr_rng hl45 hr27), hS164⟩
        · intro s171 f167 wd168 hs169 hI170
          obtain ⟨⟩ := s171
          replace hI170 : f167 1 = (Value.pointer (some ⟨b1, 0, none⟩)) ∧ f167 3 = (Value.int .i64 x12) ∧ f167 13 = (Value.int .i64 ((b_Values).length : Int)) ∧ f167 14 = Value.int .i64 (((b_Values).length : Nat) : Int) ∧ InR .i64 (((b_Values).length : Nat) : Int) ∧ St wd2 wd168 [] := hI170
          obtain ⟨hf172, hf173, hf174, hf175, hr176, hS177⟩ := hI170
          refine W.seq (W.region ?_)
          refine WL.val (Value.bool (decide ((((b_Values).length : Nat) : Int) < ((b_Values).length : Int)))) _ (op_lss hf175 hf174) rfl ?_
          have hl178 : ¬ (((b_Values).length : Nat) : Int) < ((b_Values).length : Int) := by omega
          refine WL.nil ?_
          refine W.seq ?_
          refine W.condF (decide ((((b_Values).length : Nat) : Int) < ((b_Values).length : Int))) rfl (decide_eq_false hl178) ?_
          refine W.exit ?_
          show _ = _ ∧ _
          exact ⟨rfl, _, hs169, hf172, hf173, hS177⟩
      · rintro f179 wd180 ⟨s182, rfl, hq181⟩
        replace hb17 := onRes_fin hb17
        obtain ⟨⟩ := s182
        replace hq181 : f179 1 = (Value.pointer (some ⟨b1, 0, none⟩)) ∧ f179 3 = (Value.int .i64 x12) ∧ St wd2 wd180 [] := hq181
        obtain ⟨hf183, hf184, hS185⟩ := hq181
        show W _ _ _ _ _ _
        refine W.region ?_
        refine WL.val (Value.int .i64 x12) _ (op_move hf184) rfl ?_
        refine WL.val (Value.int .i64 (w64 (x12 + (1 : Int)))) _ (op_add rfl rfl) rfl ?_
        refine WL.val (Value.int .i64 (w64 (x12 + (1 : Int)))) _ (op_assign rfl) rfl ?_
        refine WL.nil ?_
        obtain rfl := Option.some.inj hb17
        show ∃ s, _ = Ctl.next s ∧ _
        exact ⟨_, rfl, hf183, rfl, (inR_wrap _ _), hS185⟩
    · replace hb17 := inegb hb17 hc25
      refine W.exit ?_
      obtain rfl := Option.some.inj hb17
      show _ = _ ∧ _
      exact ⟨rfl, _, hbrk19 _ rfl, hS24⟩
  · rintro f188 wd189 ⟨x192, rfl, hq190⟩
    replace h := onRes_fin h
    replace hq190 : St wd2 wd189 [] := hq190
    have hS193 := hq190
    refine W.seq (W.region ?_)
    refine WL.val (Value.slice none 0 0) _ (op_assign rfl) rfl ?_
    refine WL.nil ?_
    refine W.ret ?_
    obtain rfl := Option.some.inj h
    show FinP _ _ _ _ _ _ _
    exact FinP.ret _ (res1 rfl rfl) ⟨(Value.slice none 0 0), rfl, (fun _ => ⟨0, 0, rfl⟩), (Ext.trans hE7 hS193.ext), (St.out (St.pick (St.addNil (Ty.i .i64) hS193) [0] rfl) (hE7))⟩

theorem c_impl_IsBraiding {w : World} {b_Cocycle_Orders : (List Int)} {v_b_Cocycle_Orders : Value} {b_Cocycle_Modulus : Int} {b_Cocycle_Values : (List (List (List Int)))} {v_b_Cocycle_Values : Value} {b_Values : (List (List Int))} {v_b_Values : Value} (r_b_Cocycle_Orders : (Ty.sl (Ty.i .i64)).rep w v_b_Cocycle_Orders b_Cocycle_Orders) (r_b_Cocycle_Modulus : InR .i64 b_Cocycle_Modulus) (r_b_Cocycle_Values : (Ty.sl (Ty.sl (Ty.sl (Ty.i .i64)))).rep w v_b_Cocycle_Values b_Cocycle_Values) (r_b_Values : (Ty.sl (Ty.sl (Ty.i .i64))).rep w v_b_Values b_Values) {res : Bool} (h : p_impl_IsBraiding b_Cocycle_Orders b_Cocycle_Modulus b_Cocycle_Values b_Values  = some res) :
    Ret Try.prog 48 #[(Value.agg #[v_b_Cocycle_Orders, (Value.int .i64 b_Cocycle_Modulus), v_b_Cocycle_Values, v_b_Values])] w (fun v w' => v = Value.bool res ∧ Ext w w') := by
  unfold p_impl_IsBraiding at h
  have hS0 : St w w [] := St.start w
  refine Ret.start (fn := Try.f48) Try.func48 rfl 10 rfl rfl ?_
  refine W.seq (W.region ?_)
  refine WL.box hS0 rfl (cs := [v_b_Cocycle_Orders, (Value.int .i64 b_Cocycle_Modulus), v_b_Cocycle_Values, v_b_Values]) rfl rfl ?_
  intro b1 wd2 hS3 he4 hx5
  replace hS3 : St w wd2 [bx b1 [v_b_Cocycle_Orders, (Value.int .i64 b_Cocycle_Modulus), v_b_Cocycle_Values, v_b_Values]] := hS3
  have hx6 := St.boxAt hS3 0 rfl
  have hE7 : Ext w wd2 := hS3.ext
  have hS8 : St wd2 wd2 [] := St.start wd2
  refine WL.val (Value.bool false) _ (op_assign rfl) rfl ?_
  refine WL.nil ?_
  refine W.seq (W.region ?_)
  refine WL.val (Value.agg #[v_b_Cocycle_Orders, (Value.int .i64 b_Cocycle_Modulus), v_b_Cocycle_Values, v_b_Values]) _ (op_loadBox st_36 rfl (BoxAt.lift hS8.ext hx6) rfl rfl) rfl ?_
  obtain ⟨x9, hx10, h⟩ := bs h
  refine WL.call _ (op_call fn_104 (args1 rfl)) (c_impl_hasNumbers (Ty.lift _ (Ext.trans hE7 hS8.ext) r_b_Cocycle_Orders) r_b_Cocycle_Modulus (Ty.lift _ (Ext.trans hE7 hS8.ext) r_b_Cocycle_Values) (Ty.lift _ (Ext.trans hE7 hS8.ext) r_b_Values) hx10) rfl ?_
  rintro _ wd11 ⟨rfl, he12⟩
  have hS14 := St.extend hS8 he12
  replace hS14 : St wd2 wd11 [] := hS14
  refine WL.val (Value.bool x9) _ (op_move rfl) rfl ?_
  obtain ⟨x16, hj17, h⟩ := bs h
  refine WL.cut 4 (fun fq wq => fq 9 = Value.bool x16 ∧ St wd2 wq []) ?_ ?_
  · rcases Bool.eq_false_or_eq_true x9 with hc15 | hc15
    · replace hj17 := ip hj17 hc15
      refine WL.grun rfl (bool_of rfl hc15) ?_
      refine WL.val (Value.agg #[v_b_Cocycle_Orders, (Value.int .i64 b_Cocycle_Modulus), v_b_Cocycle_Values, v_b_Values]) _ (op_loadBox st_36 rfl (BoxAt.lift hS14.ext hx6) rfl rfl) rfl ?_
      refine WL.grun rfl (bool_of rfl hc15) ?_
      obtain ⟨x21, hx22, hj17⟩ := bs hj17
      refine WL.call _ (op_call fn_105 (args1 rfl)) (c_impl_Braiding_fault (Ty.lift _ (Ext.trans hE7 hS14.ext) r_b_Cocycle_Orders) r_b_Cocycle_Modulus (Ty.lift _ (Ext.trans hE7 hS14.ext) r_b_Cocycle_Values) (Ty.lift _ (Ext.trans hE7 hS14.ext) r_b_Values) hx22) rfl ?_
      rintro u23 wd25 ⟨_, rfl, hn24, he26, hs27⟩
      have hS28 := St.join hS14 he26 hs27
      replace hS28 : St wd2 wd25 [(Ty.sl (Ty.i .i64)).at u23 x21] := hS28
      refine WL.grun rfl (bool_of rfl hc15) ?_
      refine WL.val (Value.bool (x21).isEmpty) _ (op_eqlNilL sl_22 (St.rep (t := (Ty.sl (Ty.i .i64))) hS28 0 rfl) hn24 rfl rfl) rfl ?_
      refine WL.val (Value.bool (x21).isEmpty) _ (op_pick_t (evb_of rfl hc15) rfl) rfl ?_
      refine WL.nil ?_
      obtain rfl := Option.some.inj hj17
      exact ⟨rfl, rfl, (St.pick hS28 [] rfl)⟩
    · replace hj17 := inegb hj17 hc15
      refine WL.gskip rfl (bool_of rfl hc15) rfl ?_
      refine WL.gskip rfl (bool_of rfl hc15) rfl ?_
      refine WL.gskip rfl (bool_of rfl hc15) rfl ?_
      refine WL.val (Value.bool false) _ (op_pick_f (evb_of rfl hc15) rfl) rfl ?_
      refine WL.nil ?_
      obtain rfl := Option.some.inj hj17
      exact ⟨rfl, rfl, hS14⟩
  · intro f18 wd19 hq20
    obtain ⟨hf29, hS30⟩ := hq20
    refine WL.val (Value.bool x16) _ (op_assign hf29) rfl ?_
    refine WL.nil ?_
    refine W.ret ?_
    obtain rfl := Option.some.inj h
    show FinP _ _ _ _ _ _ _
    exact FinP.ret _ (res1 rfl rfl) ⟨rfl, (Ext.trans hE7 hS30.ext)⟩

theorem c_slices_Clone_Lint64_int64 {w : World} {s1 : (List Int)} {v_s1 : Value} (r_s1 : (Ty.sl (Ty.i .i64)).rep w v_s1 s1) {res : (List Int)} (h : p_slices_Clone_Lint64_int64 s1  = some res) :
    Ret Try.prog 51 #[v_s1] w (fun v w' => ∃ (u0 : Value), v = u0 ∧ Ext w w' ∧ Sep w.heap.size w' [(Ty.sl (Ty.i .i64)).at u0 res]) := by
  unfold p_slices_Clone_Lint64_int64 at h
  have hS0 : St w w [] := St.start w
  obtain ⟨p0, c0, hv0, hl10, hl20, hp0, hel0⟩ := id r_s1
  refine Ret.start (fn := Try.f51) Try.func51 rfl 8 rfl rfl ?_
  refine W.seq (W.region ?_)
  refine WL.val (Value.slice none 0 0) _ (op_assign rfl) rfl ?_
  refine WL.nil ?_
  refine W.seq (W.seq (W.region ?_))
  refine WL.val v_s1 _ (op_move rfl) rfl ?_
  refine WL.val (Value.bool p0.isNone) _ (op_eqlNil (Eq.trans rfl hv0) rfl sl_22.1) rfl ?_
  refine WL.nil ?_
  refine W.cond p0.isNone rfl (fun hc1 => ?_) (fun hc1 => ?_)
  · obtain rfl : p0 = none := by cases p0 <;> simp_all
    obtain rfl : s1 = [] := Classical.byContradiction fun hn => hp0 hn rfl
    simp [appL] at h
    subst h
    refine W.seq (W.region ?_)
    refine WL.val (Value.slice none 0 0) _ (op_assign rfl) rfl ?_
    refine WL.nil ?_
    refine W.ret ?_
    show FinP _ _ _ _ _ _ _
    exact FinP.ret _ (res1 rfl rfl) ⟨(Value.slice none 0 0), rfl, hS0.ext, (St.out (St.pick (St.addNil (Ty.i .i64) hS0) [0] rfl) (Ext.refl _))⟩
  · refine W.skip ?_
    refine W.seq (W.region ?_)
    refine WL.lit0 (t := (Ty.i .i64)) hS0 sl_22 rfl rfl ?_
    intro u2 wd3 hS4 he5
    replace hS4 : St w wd3 [(Ty.sl (Ty.i .i64)).at u2 ([] : (List Int))] := hS4
    refine WL.val v_s1 _ (op_move rfl) rfl ?_
    obtain ⟨x6, hx7, h⟩ := bs h
    refine WL.append (flat_i .i64) hS4 (k := 0) rfl sl_22 rfl rfl rfl rfl (Ty.lift _ hS4.ext r_s1) hx7 rfl ?_
    intro u8 wd9 hS10 hz11
    replace hS10 : St w wd9 [(Ty.sl (Ty.i .i64)).at u8 x6] := hS10
    refine WL.val u8 _ (op_assign rfl) rfl ?_
    refine WL.nil ?_
    refine W.ret ?_
    obtain rfl := Option.some.inj h
    show FinP _ _ _ _ _ _ _
    exact FinP.ret _ (res1 rfl rfl) ⟨u8, rfl, hS10.ext, (St.out (St.pick hS10 [0] rfl) (Ext.refl _))⟩

theorem c_laws_eqInt64S {w : World} {a : (List Int)} {v_a : Value} {b : (List Int)} {v_b : Value} (r_a : (Ty.sl (Ty.i .i64)).rep w v_a a) (r_b : (Ty.sl (Ty.i .i64)).rep w v_b b) {res : Bool} (h : p_laws_eqInt64S a b  = some res) :
    Ret Try.prog 52 #[v_a, v_b] w (fun v w' => v = Value.bool res ∧ Ext w w') := by
  unfold p_laws_eqInt64S at h
  have hS0 : St w w [] := St.start w
  refine Ret.start (fn := Try.f52) Try.func52 rfl 26 rfl rfl ?_
  refine W.seq (W.region ?_)
  refine WL.val (Value.bool false) _ (op_assign rfl) rfl ?_
  refine WL.nil ?_
  refine W.seq (W.seq (W.region ?_))
  refine WL.val v_a _ (op_move rfl) rfl ?_
  have hr1 := inR_len (Ty.lift _ hS0.ext r_a)
  refine WL.val (Value.int .i64 ((a).length : Int)) _ (op_lenL sl_22 (Ty.lift _ hS0.ext r_a) rfl) rfl ?_
  refine WL.val v_b _ (op_move rfl) rfl ?_
  have hr2 := inR_len (Ty.lift _ hS0.ext r_b)
  refine WL.val (Value.int .i64 ((b).length : Int)) _ (op_lenL sl_22 (Ty.lift _ hS0.ext r_b) rfl) rfl ?_
  refine WL.val (Value.bool (((a).length : Int) != ((b).length : Int))) _ (op_neq rfl rfl) rfl ?_
  refine WL.nil ?_
  refine W.cond (((a).length : Int) != ((b).length : Int)) rfl (fun hc3 => ?_) (fun hc3 => ?_)
  · replace h := ip h hc3
    refine W.seq (W.region ?_)
    refine WL.val (Value.bool false) _ (op_assign rfl) rfl ?_
    refine WL.nil ?_
    refine W.ret ?_
    obtain rfl := Option.some.inj h
    show FinP _ _ _ _ _ _ _
    exact FinP.ret _ (res1 rfl rfl) ⟨rfl, hS0.ext⟩
  · replace h := inegb h hc3
    refine W.skip ?_
    refine W.seq (W.seq (W.region ?_))
    refine WL.val (Value.int .i64 (0 : Int)) _ (op_assign rfl) rfl ?_
    refine WL.nil ?_
    show W _ _ _ _ _ _
    obtain ⟨res5, hres6, h⟩ := bs h
    refine W.blockLoop (fun fq wq => ∃ s, res5 = Res.fin s ∧ St w wq []) ?_ ?_
    · refine W.forN (fun k (s : Unit) fq wq => fq 0 = v_a ∧ fq 1 = v_b ∧ fq 5 = Value.int .i64 (k : Int) ∧ InR .i64 (k : Int) ∧ St w wq []) hres6 ⟨rfl, rfl, rfl, (inL rfl), hS0⟩ ?_ ?_
      · intro k7 s134 ct8 f9 wd10 hk11 hb12 hI13 hbrk14 hret15
        obtain ⟨⟩ := s134
        replace hI13 : f9 0 = v_a ∧ f9 1 = v_b ∧ f9 5 = Value.int .i64 (k7 : Int) ∧ InR .i64 (k7 : Int) ∧ St w wd10 [] := hI13
        replace hb12 : p_laws_eqInt64S_L1 a b k7  = some ct8 := hb12
        unfold p_laws_eqInt64S_L1 at hb12
        obtain ⟨hf16, hf17, hf18, hr19, hS20⟩ := hI13
        refine W.seq (W.seq (W.region ?_))
        refine WL.val (Value.int .i64 (k7 : Int)) _ (op_move hf18) rfl ?_
        refine WL.val v_a _ (op_move hf16) rfl ?_
        have hr21 := inR_len (Ty.lift _ hS20.ext r_a)
        refine WL.val (Value.int .i64 ((a).length : Int)) _ (op_lenL sl_22 (Ty.lift _ hS20.ext r_a) rfl) rfl ?_
        refine WL.val (Value.bool (decide ((k7 : Int) < ((a).length : Int)))) _ (op_lss rfl rfl) rfl ?_
        have hl22 : (k7 : Int) < ((a).length : Int) := by omega
        refine WL.nil ?_
        refine W.condT (decide ((k7 : Int) < ((a).length : Int))) rfl (decide_eq_true hl22) ?_
        refine W.skip ?_
        refine W.seq ?_
        refine W.block ?_
        refine W.seq ?_
        obtain ⟨x53, hx56, hb12⟩ := bs hb12
        obtain ⟨ha54, hb55, hx56⟩ := idx_some hx56
        obtain ⟨u67, hc68, hr69⟩ := repSl.el r_a hx56
        obtain ⟨rfl, hr69⟩ := hr69
        obtain ⟨x99, hx102, hb12⟩ := bs hb12
        obtain ⟨ha100, hb101, hx102⟩ := idx_some hx102
        obtain ⟨u113, hc114, hr115⟩ := repSl.el r_b hx102
        obtain ⟨rfl, hr115⟩ := hr115
        refine W.drawR mixo 8 [] [fun _ v _ _ => v = v_a, fun _ v _ _ => v = (Value.int .i64 (k7 : Int)) ∧ InR .i64 (k7 : Int), fun _ v _ _ => v = (Value.pointer (some (elA v_a ((k7 : Int)).toNat))), fun _ v _ _ => v = (Value.int .i64 x53) ∧ InR .i64 x53, fun _ v _ _ => v = v_b, fun _ v _ _ => v = (Value.int .i64 (k7 : Int)) ∧ InR .i64 (k7 : Int), fun _ v _ _ => v = (Value.pointer (some (elA v_b ((k7 : Int)).toNat))), fun _ v _ _ => v = (Value.int .i64 x99) ∧ InR .i64 x99] (by kernel_rfl) (by kernel_rfl) ⟨pk, pk, pk, pk, pk, pk, pk, pk, trivial⟩ ⟨?_, ?_, ?_, ?_, ?_, ?_, ?_, ?_, trivial⟩ ?_
        · refine ObX.op rfl fun f24 wd25 he26 hout27 hphi28 => ?_
          have e30 : f24 0 = v_a := (hout27 0 rfl).trans hf16
          exact OpX.val v_a wd25 rfl (op_move e30) (Ext.refl _) rfl
        · refine ObX.op rfl fun f31 wd32 he33 hout34 hphi35 => ?_
          have e37 : f31 5 = (Value.int .i64 (k7 : Int)) := (hout34 5 rfl).trans hf18
          exact OpX.val (Value.int .i64 (k7 : Int)) wd32 rfl (op_move e37) (Ext.refl _) ⟨rfl, hr19⟩
        · refine ObX.op rfl fun f38 wd39 he40 hout41 hphi42 => ?_
          have hS43 := St.extend hS20 he40
          obtain ⟨S44, hS45, hf46⟩ := hphi42 0 17 _ rfl rfl rfl
          have e47 : f38 17 = v_a := hf46
          obtain ⟨S48, hS49, hf50⟩ := hphi42 1 18 _ rfl rfl rfl
          obtain ⟨e51, hr52⟩ := hf50
          exact OpX.val (Value.pointer (some (elA v_a ((k7 : Int)).toNat))) wd39 rfl (op_idx sl_22 (Ty.lift _ hS43.ext r_a) e47 e51 ha54 hb55) (Ext.refl _) rfl
        · refine ObX.op rfl fun f57 wd58 he59 hout60 hphi61 => ?_
          have hS62 := St.extend hS20 he59
          obtain ⟨S63, hS64, hf65⟩ := hphi61 2 19 _ rfl rfl rfl
          have e66 : f57 19 = (Value.pointer (some (elA v_a ((k7 : Int)).toNat))) := hf65
          exact OpX.val (Value.int .i64 x53) wd58 rfl (op_load one_2 e66 (Ext.cell hS62.ext hc68)) (Ext.refl _) ⟨rfl, hr69⟩
        · refine ObX.op rfl fun f70 wd71 he72 hout73 hphi74 => ?_
          have e76 : f70 1 = v_b := (hout73 1 rfl).trans hf17
          exact OpX.val v_b wd71 rfl (op_move e76) (Ext.refl _) rfl
        · refine ObX.op rfl fun f77 wd78 he79 hout80 hphi81 => ?_
          have e83 : f77 5 = (Value.int .i64 (k7 : Int)) := (hout80 5 rfl).trans hf18
          exact OpX.val (Value.int .i64 (k7 : Int)) wd78 rfl (op_move e83) (Ext.refl _) ⟨rfl, hr19⟩
        · refine ObX.op rfl fun f84 wd85 he86 hout87 hphi88 => ?_
          have hS89 := St.extend hS20 he86
          obtain ⟨S90, hS91, hf92⟩ := hphi88 4 21 _ rfl rfl rfl
          have e93 : f84 21 = v_b := hf92
          obtain ⟨S94, hS95, hf96⟩ := hphi88 5 22 _ rfl rfl rfl
          obtain ⟨e97, hr98⟩ := hf96
          exact OpX.val (Value.pointer (some (elA v_b ((k7 : Int)).toNat))) wd85 rfl (op_idx sl_22 (Ty.lift _ hS89.ext r_b) e93 e97 ha100 hb101) (Ext.refl _) rfl
        · refine ObX.op rfl fun f103 wd104 he105 hout106 hphi107 => ?_
          have hS108 := St.extend hS20 he105
          obtain ⟨S109, hS110, hf111⟩ := hphi107 6 23 _ rfl rfl rfl
          have e112 : f103 23 = (Value.pointer (some (elA v_b ((k7 : Int)).toNat))) := hf111
          exact OpX.val (Value.int .i64 x99) wd104 rfl (op_load one_2 e112 (Ext.cell hS108.ext hc114)) (Ext.refl _) ⟨rfl, hr115⟩
        · intro f116 wd117 Ss118 he119 hout120 hSn121 hSd122 hphi123
          show WL _ _ _ _ _ _ _
          have hS124 := St.extend hS20 he119
          obtain ⟨e125, hr126⟩ := hphi123 3 20 _ (by decide) rfl rfl
          obtain ⟨e127, hr128⟩ := hphi123 7 24 _ (by decide) rfl rfl
          have e129 : f116 0 = v_a := (hout120 0 rfl).trans hf16
          have e130 : f116 1 = v_b := (hout120 1 rfl).trans hf17
          have e131 : f116 5 = (Value.int .i64 (k7 : Int)) := (hout120 5 rfl).trans hf18
          refine WL.val (Value.bool (x53 != x99)) _ (op_neq e125 e127) rfl ?_
          refine WL.nil ?_
          refine W.cond (x53 != x99) rfl (fun hc132 => ?_) (fun hc132 => ?_)
          · replace hb12 := ip hb12 hc132
            refine W.seq (W.region ?_)
            refine WL.val (Value.bool false) _ (op_assign rfl) rfl ?_
            refine WL.nil ?_
            refine W.ret ?_
            obtain rfl := Option.some.inj hb12
            obtain rfl := hret15 _ rfl
            replace h := onRes_ret h
            obtain rfl := Option.some.inj h
            show FinP _ _ _ _ _ _ _
            exact FinP.ret _ (res1 rfl rfl) ⟨rfl, hS124.ext⟩
          · replace hb12 := inegb hb12 hc132
            refine W.skip ?_
            show W _ _ _ _ _ _
            refine W.region ?_
            refine WL.val (Value.int .i64 (k7 : Int)) _ (op_move e131) rfl ?_
            refine WL.val (Value.int .i64 (w64 ((k7 : Int) + (1 : Int)))) _ (op_add rfl rfl) rfl ?_
            refine WL.val (Value.int .i64 (w64 ((k7 : Int) + (1 : Int)))) _ (op_assign rfl) rfl ?_
            refine WL.nil ?_
            obtain rfl := Option.some.inj hb12
            show ∃ s, _ = Ctl.next s ∧ _
            exact ⟨_, rfl, e129, e130, (ctr_next hl22 hr21), (ctr_rng hl22 hr21), hS124⟩
      · intro s139 f135 wd136 hs137 hI138
        obtain ⟨⟩ := s139
        replace hI138 : f135 0 = v_a ∧ f135 1 = v_b ∧ f135 5 = Value.int .i64 (((a).length : Nat) : Int) ∧ InR .i64 (((a).length : Nat) : Int) ∧ St w wd136 [] := hI138
        obtain ⟨hf140, hf141, hf142, hr143, hS144⟩ := hI138
        refine W.seq (W.seq (W.region ?_))
        refine WL.val (Value.int .i64 (((a).length : Nat) : Int)) _ (op_move hf142) rfl ?_
        refine WL.val v_a _ (op_move hf140) rfl ?_
        have hr145 := inR_len (Ty.lift _ hS144.ext r_a)
        refine WL.val (Value.int .i64 ((a).length : Int)) _ (op_lenL sl_22 (Ty.lift _ hS144.ext r_a) rfl) rfl ?_
        refine WL.val (Value.bool (decide ((((a).length : Nat) : Int) < ((a).length : Int)))) _ (op_lss rfl rfl) rfl ?_
        have hl146 : ¬ (((a).length : Nat) : Int) < ((a).length : Int) := by omega
        refine WL.nil ?_
        refine W.condF (decide ((((a).length : Nat) : Int) < ((a).length : Int))) rfl (decide_eq_false hl146) ?_
        refine W.exit ?_
        show _ = _ ∧ _
        exact ⟨rfl, _, hs137, hS144⟩
    · rintro f147 wd148 ⟨s150, rfl, hq149⟩
      replace h := onRes_fin h
      obtain ⟨⟩ := s150
      replace hq149 : St w wd148 [] := hq149
      have hS151 := hq149
      refine W.seq (W.region ?_)
      refine WL.val (Value.bool true) _ (op_assign rfl) rfl ?_
      refine WL.nil ?_
      refine W.ret ?_
      obtain rfl := Option.some.inj h
      show FinP _ _ _ _ _ _ _
      exact FinP.ret _ (res1 rfl rfl) ⟨rfl, hS151.ext⟩

theorem c_laws_eqInt64SS {w : World} {a : (List (List Int))} {v_a : Value} {b : (List (List Int))} {v_b : Value} (r_a : (Ty.sl (Ty.sl (Ty.i .i64))).rep w v_a a) (r_b : (Ty.sl (Ty.sl (Ty.i .i64))).rep w v_b b) {res : Bool} (h : p_laws_eqInt64SS a b  = some res) :
    Ret Try.prog 54 #[v_a, v_b] w (fun v w' => v = Value.bool res ∧ Ext w w') := by
  unfold p_laws_eqInt64SS at h
  have hS0 : St w w [] := St.start w
  refine Ret.start (fn := Try.f54) Try.func54 rfl 27 rfl rfl ?_
  refine W.seq (W.region ?_)
  refine WL.val (Value.bool false) _ (op_assign rfl) rfl ?_
  refine WL.nil ?_
  refine W.seq (W.seq (W.region ?_))
  refine WL.val v_a _ (op_move rfl) rfl ?_
  have hr1 := inR_len (Ty.lift _ hS0.ext r_a)
  refine WL.val (Value.int .i64 ((a).length : Int)) _ (op_lenL sl_26 (Ty.lift _ hS0.ext r_a) rfl) rfl ?_
  refine WL.val v_b _ (op_move rfl) rfl ?_
  have hr2 := inR_len (Ty.lift _ hS0.ext r_b)
  refine WL.val (Value.int .i64 ((b).length : Int)) _ (op_lenL sl_26 (Ty.lift _ hS0.ext r_b) rfl) rfl ?_
  refine WL.val (Value.bool (((a).length : Int) != ((b).length : Int))) _ (op_neq rfl rfl) rfl ?_
  refine WL.nil ?_
  refine W.cond (((a).length : Int) != ((b).length : Int)) rfl (fun hc3 => ?_) (fun hc3 => ?_)
  · replace h := ip h hc3
    refine W.seq (W.region ?_)
    refine WL.val (Value.bool false) _ (op_assign rfl) rfl ?_
    refine WL.nil ?_
    refine W.ret ?_
    obtain rfl := Option.some.inj h
    show FinP _ _ _ _ _ _ _
    exact FinP.ret _ (res1 rfl rfl) ⟨rfl, hS0.ext⟩
  · replace h := inegb h hc3
    refine W.skip ?_
    refine W.seq (W.seq (W.region ?_))
    refine WL.val (Value.int .i64 (0 : Int)) _ (op_assign rfl) rfl ?_
    refine WL.nil ?_
    show W _ _ _ _ _ _
    obtain ⟨res5, hres6, h⟩ := bs h
    refine W.blockLoop (fun fq wq => ∃ s, res5 = Res.fin s ∧ St w wq []) ?_ ?_
    · refine W.forN (fun k (s : Unit) fq wq => fq 0 = v_a ∧ fq 1 = v_b ∧ fq 5 = Value.int .i64 (k : Int) ∧ InR .i64 (k : Int) ∧ St w wq []) hres6 ⟨rfl, rfl, rfl, (inL rfl), hS0⟩ ?_ ?_
      · intro k7 s138 ct8 f9 wd10 hk11 hb12 hI13 hbrk14 hret15
        obtain ⟨⟩ := s138
        replace hI13 : f9 0 = v_a ∧ f9 1 = v_b ∧ f9 5 = Value.int .i64 (k7 : Int) ∧ InR .i64 (k7 : Int) ∧ St w wd10 [] := hI13
        replace hb12 : p_laws_eqInt64SS_L1 a b k7  = some ct8 := hb12
        unfold p_laws_eqInt64SS_L1 at hb12
        obtain ⟨hf16, hf17, hf18, hr19, hS20⟩ := hI13
        refine W.seq (W.seq (W.region ?_))
        refine WL.val (Value.int .i64 (k7 : Int)) _ (op_move hf18) rfl ?_
        refine WL.val v_a _ (op_move hf16) rfl ?_
        have hr21 := inR_len (Ty.lift _ hS20.ext r_a)
        refine WL.val (Value.int .i64 ((a).length : Int)) _ (op_lenL sl_26 (Ty.lift _ hS20.ext r_a) rfl) rfl ?_
        refine WL.val (Value.bool (decide ((k7 : Int) < ((a).length : Int)))) _ (op_lss rfl rfl) rfl ?_
        have hl22 : (k7 : Int) < ((a).length : Int) := by omega
        refine WL.nil ?_
        refine W.condT (decide ((k7 : Int) < ((a).length : Int))) rfl (decide_eq_true hl22) ?_
        refine W.skip ?_
        refine W.seq ?_
        refine W.block ?_
        refine W.seq ?_
        obtain ⟨x53, hx56, hb12⟩ := bs hb12
        obtain ⟨ha54, hb55, hx56⟩ := idx_some hx56
        obtain ⟨u67, hc68, hr69⟩ := repSl.el r_a hx56
        obtain ⟨x99, hx102, hb12⟩ := bs hb12
        obtain ⟨ha100, hb101, hx102⟩ := idx_some hx102
        obtain ⟨u113, hc114, hr115⟩ := repSl.el r_b hx102
        refine W.drawR mixo 8 [] [fun _ v _ _ => v = v_a, fun _ v _ _ => v = (Value.int .i64 (k7 : Int)) ∧ InR .i64 (k7 : Int), fun _ v _ _ => v = (Value.pointer (some (elA v_a ((k7 : Int)).toNat))), fun _ v _ _ => v = u67, fun _ v _ _ => v = v_b, fun _ v _ _ => v = (Value.int .i64 (k7 : Int)) ∧ InR .i64 (k7 : Int), fun _ v _ _ => v = (Value.pointer (some (elA v_b ((k7 : Int)).toNat))), fun _ v _ _ => v = u113] (by kernel_rfl) (by kernel_rfl) ⟨pk, pk, pk, pk, pk, pk, pk, pk, trivial⟩ ⟨?_, ?_, ?_, ?_, ?_, ?_, ?_, ?_, trivial⟩ ?_
        · refine ObX.op rfl fun f24 wd25 he26 hout27 hphi28 => ?_
          have e30 : f24 0 = v_a := (hout27 0 rfl).trans hf16
          exact OpX.val v_a wd25 rfl (op_move e30) (Ext.refl _) rfl
        · refine ObX.op rfl fun f31 wd32 he33 hout34 hphi35 => ?_
          have e37 : f31 5 = (Value.int .i64 (k7 : Int)) := (hout34 5 rfl).trans hf18
          exact OpX.val (Value.int .i64 (k7 : Int)) wd32 rfl (op_move e37) (Ext.refl _) ⟨rfl, hr19⟩
        · refine ObX.op rfl fun f38 wd39 he40 hout41 hphi42 => ?_
          have hS43 := St.extend hS20 he40
          obtain ⟨S44, hS45, hf46⟩ := hphi42 0 17 _ rfl rfl rfl
          have e47 : f38 17 = v_a := hf46
          obtain ⟨S48, hS49, hf50⟩ := hphi42 1 18 _ rfl rfl rfl
          obtain ⟨e51, hr52⟩ := hf50
          exact OpX.val (Value.pointer (some (elA v_a ((k7 : Int)).toNat))) wd39 rfl (op_idx sl_26 (Ty.lift _ hS43.ext r_a) e47 e51 ha54 hb55) (Ext.refl _) rfl
        · refine ObX.op rfl fun f57 wd58 he59 hout60 hphi61 => ?_
          have hS62 := St.extend hS20 he59
          obtain ⟨S63, hS64, hf65⟩ := hphi61 2 19 _ rfl rfl rfl
          have e66 : f57 19 = (Value.pointer (some (elA v_a ((k7 : Int)).toNat))) := hf65
          exact OpX.val u67 wd58 rfl (op_load one_22 e66 (Ext.cell hS62.ext hc68)) (Ext.refl _) rfl
        · refine ObX.op rfl fun f70 wd71 he72 hout73 hphi74 => ?_
          have e76 : f70 1 = v_b := (hout73 1 rfl).trans hf17
          exact OpX.val v_b wd71 rfl (op_move e76) (Ext.refl _) rfl
        · refine ObX.op rfl fun f77 wd78 he79 hout80 hphi81 => ?_
          have e83 : f77 5 = (Value.int .i64 (k7 : Int)) := (hout80 5 rfl).trans hf18
          exact OpX.val (Value.int .i64 (k7 : Int)) wd78 rfl (op_move e83) (Ext.refl _) ⟨rfl, hr19⟩
        · refine ObX.op rfl fun f84 wd85 he86 hout87 hphi88 => ?_
          have hS89 := St.extend hS20 he86
          obtain ⟨S90, hS91, hf92⟩ := hphi88 4 21 _ rfl rfl rfl
          have e93 : f84 21 = v_b := hf92
          obtain ⟨S94, hS95, hf96⟩ := hphi88 5 22 _ rfl rfl rfl
          obtain ⟨e97, hr98⟩ := hf96
          exact OpX.val (Value.pointer (some (elA v_b ((k7 : Int)).toNat))) wd85 rfl (op_idx sl_26 (Ty.lift _ hS89.ext r_b) e93 e97 ha100 hb101) (Ext.refl _) rfl
        · refine ObX.op rfl fun f103 wd104 he105 hout106 hphi107 => ?_
          have hS108 := St.extend hS20 he105
          obtain ⟨S109, hS110, hf111⟩ := hphi107 6 23 _ rfl rfl rfl
          have e112 : f103 23 = (Value.pointer (some (elA v_b ((k7 : Int)).toNat))) := hf111
          exact OpX.val u113 wd104 rfl (op_load one_22 e112 (Ext.cell hS108.ext hc114)) (Ext.refl _) rfl
        · intro f116 wd117 Ss118 he119 hout120 hSn121 hSd122 hphi123
          show WL _ _ _ _ _ _ _
          have hS124 := St.extend hS20 he119
          have e125 : f116 20 = u67 := hphi123 3 20 _ (by decide) rfl rfl
          have e126 : f116 24 = u113 := hphi123 7 24 _ (by decide) rfl rfl
          have e127 : f116 0 = v_a := (hout120 0 rfl).trans hf16
          have e128 : f116 1 = v_b := (hout120 1 rfl).trans hf17
          have e129 : f116 5 = (Value.int .i64 (k7 : Int)) := (hout120 5 rfl).trans hf18
          obtain ⟨x130, hx131, hb12⟩ := bs hb12
          refine WL.call _ (op_call fn_52 (args2 e125 e126)) (c_laws_eqInt64S (Ty.lift _ hS124.ext hr69) (Ty.lift _ hS124.ext hr115) hx131) rfl ?_
          rintro _ wd132 ⟨rfl, he133⟩
          have hS135 := St.extend hS124 he133
          replace hS135 : St w wd132 [] := hS135
          refine WL.val (Value.bool (!x130)) _ (op_not rfl) rfl ?_
          refine WL.nil ?_
          refine W.cond (!x130) rfl (fun hc136 => ?_) (fun hc136 => ?_)
          · replace hb12 := ip hb12 hc136
            refine W.seq (W.region ?_)
            refine WL.val (Value.bool false) _ (op_assign rfl) rfl ?_
            refine WL.nil ?_
            refine W.ret ?_
            obtain rfl := Option.some.inj hb12
            obtain rfl := hret15 _ rfl
            replace h := onRes_ret h
            obtain rfl := Option.some.inj h
            show FinP _ _ _ _ _ _ _
            exact FinP.ret _ (res1 rfl rfl) ⟨rfl, hS135.ext⟩
          · replace hb12 := inegb hb12 hc136
            refine W.skip ?_
            show W _ _ _ _ _ _
            refine W.region ?_
            refine WL.val (Value.int .i64 (k7 : Int)) _ (op_move e129) rfl ?_
            refine WL.val (Value.int .i64 (w64 ((k7 : Int) + (1 : Int)))) _ (op_add rfl rfl) rfl ?_
            refine WL.val (Value.int .i64 (w64 ((k7 : Int) + (1 : Int)))) _ (op_assign rfl) rfl ?_
            refine WL.nil ?_
            obtain rfl := Option.some.inj hb12
            show ∃ s, _ = Ctl.next s ∧ _
            exact ⟨_, rfl, e127, e128, (ctr_next hl22 hr21), (ctr_rng hl22 hr21), hS135⟩
      · intro s143 f139 wd140 hs141 hI142
        obtain ⟨⟩ := s143
        replace hI142 : f139 0 = v_a ∧ f139 1 = v_b ∧ f139 5 = Value.int .i64 (((a).length : Nat) : Int) ∧ InR .i64 (((a).length : Nat) : Int) ∧ St w wd140 [] := hI142
        obtain ⟨hf144, hf145, hf146, hr147, hS148⟩ := hI142
        refine W.seq (W.seq (W.region ?_))
        refine WL.val (Value.int .i64 (((a).length : Nat) : Int)) _ (op_move hf146) rfl ?_
        refine WL.val v_a _ (op_move hf144) rfl ?_
        have hr149 := inR_len (Ty.lift _ hS148.ext r_a)
        refine WL.val (Value.int .i64 ((a).length : Int)) _ (op_lenL sl_26 (Ty.lift _ hS148.ext r_a) rfl) rfl ?_
        refine WL.val (Value.bool (decide ((((a).length : Nat) : Int) < ((a).length : Int)))) _ (op_lss rfl rfl) rfl ?_
        have hl150 : ¬ (((a).length : Nat) : Int) < ((a).length : Int) := by omega
        refine WL.nil ?_
        refine W.condF (decide ((((a).length : Nat) : Int) < ((a).length : Int))) rfl (decide_eq_false hl150) ?_
        refine W.exit ?_
        show _ = _ ∧ _
        exact ⟨rfl, _, hs141, hS148⟩
    · rintro f151 wd152 ⟨s154, rfl, hq153⟩
      replace h := onRes_fin h
      obtain ⟨⟩ := s154
      replace hq153 : St w wd152 [] := hq153
      have hS155 := hq153
      refine W.seq (W.region ?_)
      refine WL.val (Value.bool true) _ (op_assign rfl) rfl ?_
      refine WL.nil ?_
      refine W.ret ?_
      obtain rfl := Option.some.inj h
      show FinP _ _ _ _ _ _ _
      exact FinP.ret _ (res1 rfl rfl) ⟨rfl, hS155.ext⟩

theorem c_laws_eqInt64SSS {w : World} {a : (List (List (List Int)))} {v_a : Value} {b : (List (List (List Int)))} {v_b : Value} (r_a : (Ty.sl (Ty.sl (Ty.sl (Ty.i .i64)))).rep w v_a a) (r_b : (Ty.sl (Ty.sl (Ty.sl (Ty.i .i64)))).rep w v_b b) {res : Bool} (h : p_laws_eqInt64SSS a b  = some res) :
    Ret Try.prog 108 #[v_a, v_b] w (fun v w' => v = Value.bool res ∧ Ext w w') := by
  unfold p_laws_eqInt64SSS at h
  have hS0 : St w w [] := St.start w
  refine Ret.start (fn := Try.f108) Try.func108 rfl 27 rfl rfl ?_
  refine W.seq (W.region ?_)
  refine WL.val (Value.bool false) _ (op_assign rfl) rfl ?_
  refine WL.nil ?_
  refine W.seq (W.seq (W.region ?_))
  refine WL.val v_a _ (op_move rfl) rfl ?_
  have hr1 := inR_len (Ty.lift _ hS0.ext r_a)
  refine WL.val (Value.int .i64 ((a).length : Int)) _ (op_lenL sl_23 (Ty.lift _ hS0.ext r_a) rfl) rfl ?_
  refine WL.val v_b _ (op_move rfl) rfl ?_
  have hr2 := inR_len (Ty.lift _ hS0.ext r_b)
  refine WL.val (Value.int .i64 ((b).length : Int)) _ (op_lenL sl_23 (Ty.lift _ hS0.ext r_b) rfl) rfl ?_
  refine WL.val (Value.bool (((a).length : Int) != ((b).length : Int))) _ (op_neq rfl rfl) rfl ?_
  refine WL.nil ?_
  refine W.cond (((a).length : Int) != ((b).length : Int)) rfl (fun hc3 => ?_) (fun hc3 => ?_)
  · replace h := ip h hc3
    refine W.seq (W.region ?_)
    refine WL.val (Value.bool false) _ (op_assign rfl) rfl ?_
    refine WL.nil ?_
    refine W.ret ?_
    obtain rfl := Option.some.inj h
    show FinP _ _ _ _ _ _ _
    exact FinP.ret _ (res1 rfl rfl) ⟨rfl, hS0.ext⟩
  · replace h := inegb h hc3
    refine W.skip ?_
    refine W.seq (W.seq (W.region ?_))
    refine WL.val (Value.int .i64 (0 : Int)) _ (op_assign rfl) rfl ?_
    refine WL.nil ?_
    show W _ _ _ _ _ _
    obtain ⟨res5, hres6, h⟩ := bs h
    refine W.blockLoop (fun fq wq => ∃ s, res5 = Res.fin s ∧ St w wq []) ?_ ?_
    · refine W.forN (fun k (s : Unit) fq wq => fq 0 = v_a ∧ fq 1 = v_b ∧ fq 5 = Value.int .i64 (k : Int) ∧ InR .i64 (k : Int) ∧ St w wq []) hres6 ⟨rfl, rfl, rfl, (inL rfl), hS0⟩ ?_ ?_
      · intro k7 s138 ct8 f9 wd10 hk11 hb12 hI13 hbrk14 hret15
        obtain ⟨⟩ := s138
        replace hI13 : f9 0 = v_a ∧ f9 1 = v_b ∧ f9 5 = Value.int .i64 (k7 : Int) ∧ InR .i64 (k7 : Int) ∧ St w wd10 [] := hI13
        replace hb12 : p_laws_eqInt64SSS_L1 a b k7  = some ct8 := hb12
        unfold p_laws_eqInt64SSS_L1 at hb12
        obtain ⟨hf16, hf17, hf18, hr19, hS20⟩ := hI13
        refine W.seq (W.seq (W.region ?_))
        refine WL.val (Value.int .i64 (k7 : Int)) _ (op_move hf18) rfl ?_
        refine WL.val v_a _ (op_move hf16) rfl ?_
        have hr21 := inR_len (Ty.lift _ hS20.ext r_a)
        refine WL.val (Value.int .i64 ((a).length : Int)) _ (op_lenL sl_23 (Ty.lift _ hS20.ext r_a) rfl) rfl ?_
        refine WL.val (Value.bool (decide ((k7 : Int) < ((a).length : Int)))) _ (op_lss rfl rfl) rfl ?_
        have hl22 : (k7 : Int) < ((a).length : Int) := by omega
        refine WL.nil ?_
        refine W.condT (decide ((k7 : Int) < ((a).length : Int))) rfl (decide_eq_true hl22) ?_
        refine W.skip ?_
        refine W.seq ?_
        refine W.block ?_
        refine W.seq ?_
        obtain ⟨x53, hx56, hb12⟩ := bs hb12
        obtain ⟨ha54, hb55, hx56⟩ := idx_some hx56
        obtain ⟨u67, hc68, hr69⟩ := repSl.el r_a hx56
        obtain ⟨x99, hx102, hb12⟩ := bs hb12
        obtain ⟨ha100, hb101, hx102⟩ := idx_some hx102
        obtain ⟨u113, hc114, hr115⟩ := repSl.el r_b hx102
        refine W.drawR mixo 8 [] [fun _ v _ _ => v = v_a, fun _ v _ _ => v = (Value.int .i64 (k7 : Int)) ∧ InR .i64 (k7 : Int), fun _ v _ _ => v = (Value.pointer (some (elA v_a ((k7 : Int)).toNat))), fun _ v _ _ => v = u67, fun _ v _ _ => v = v_b, fun _ v _ _ => v = (Value.int .i64 (k7 : Int)) ∧ InR .i64 (k7 : Int), fun _ v _ _ => v = (Value.pointer (some (elA v_b ((k7 : Int)).toNat))), fun _ v _ _ => v = u113] (by kernel_rfl) (by kernel_rfl) ⟨pk, pk, pk, pk, pk, pk, pk, pk, trivial⟩ ⟨?_, ?_, ?_, ?_, ?_, ?_, ?_, ?_, trivial⟩ ?_
        · refine ObX.op rfl fun f24 wd25 he26 hout27 hphi28 => ?_
          have e30 : f24 0 = v_a := (hout27 0 rfl).trans hf16
          exact OpX.val v_a wd25 rfl (op_move e30) (Ext.refl _) rfl
        · refine ObX.op rfl fun f31 wd32 he33 hout34 hphi35 => ?_
          have e37 : f31 5 = (Value.int .i64 (k7 : Int)) := (hout34 5 rfl).trans hf18
          exact OpX.val (Value.int .i64 (k7 : Int)) wd32 rfl (op_move e37) (Ext.refl _) ⟨rfl, hr19⟩
        · refine ObX.op rfl fun f38 wd39 he40 hout41 hphi42 => ?_
          have hS43 := St.extend hS20 he40
          obtain ⟨S44, hS45, hf46⟩ := hphi42 0 17 _ rfl rfl rfl
          have e47 : f38 17 = v_a := hf46
          obtain ⟨S48, hS49, hf50⟩ := hphi42 1 18 _ rfl rfl rfl
          obtain ⟨e51, hr52⟩ := hf50
          exact OpX.val (Value.pointer (some (elA v_a ((k7 : Int)).toNat))) wd39 rfl (op_idx sl_23 (Ty.lift _ hS43.ext r_a) e47 e51 ha54 hb55) (Ext.refl _) rfl
        · refine ObX.op rfl fun f57 wd58 he59 hout60 hphi61 => ?_
          have hS62 := St.extend hS20 he59
          obtain ⟨S63, hS64, hf65⟩ := hphi61 2 19 _ rfl rfl rfl
          have e66 : f57 19 = (Value.pointer (some (elA v_a ((k7 : Int)).toNat))) := hf65
          exact OpX.val u67 wd58 rfl (op_load one_26 e66 (Ext.cell hS62.ext hc68)) (Ext.refl _) rfl
        · refine ObX.op rfl fun f70 wd71 he72 hout73 hphi74 => ?_
          have e76 : f70 1 = v_b := (hout73 1 rfl).trans hf17
          exact OpX.val v_b wd71 rfl (op_move e76) (Ext.refl _) rfl
        · refine ObX.op rfl fun f77 wd78 he79 hout80 hphi81 => ?_
          have e83 : f77 5 = (Value.int .i64 (k7 : Int)) := (hout80 5 rfl).trans hf18
          exact OpX.val (Value.int .i64 (k7 : Int)) wd78 rfl (op_move e83) (Ext.refl _) ⟨rfl, hr19⟩
        · refine ObX.op rfl fun f84 wd85 he86 hout87 hphi88 => ?_
          have hS89 := St.extend hS20 he86
          obtain ⟨S90, hS91, hf92⟩ := hphi88 4 21 _ rfl rfl rfl
          have e93 : f84 21 = v_b := hf92
          obtain ⟨S94, hS95, hf96⟩ := hphi88 5 22 _ rfl rfl rfl
          obtain ⟨e97, hr98⟩ := hf96
          exact OpX.val (Value.pointer (some (elA v_b ((k7 : Int)).toNat))) wd85 rfl (op_idx sl_23 (Ty.lift _ hS89.ext r_b) e93 e97 ha100 hb101) (Ext.refl _) rfl
        · refine ObX.op rfl fun f103 wd104 he105 hout106 hphi107 => ?_
          have hS108 := St.extend hS20 he105
          obtain ⟨S109, hS110, hf111⟩ := hphi107 6 23 _ rfl rfl rfl
          have e112 : f103 23 = (Value.pointer (some (elA v_b ((k7 : Int)).toNat))) := hf111
          exact OpX.val u113 wd104 rfl (op_load one_26 e112 (Ext.cell hS108.ext hc114)) (Ext.refl _) rfl
        · intro f116 wd117 Ss118 he119 hout120 hSn121 hSd122 hphi123
          show WL _ _ _ _ _ _ _
          have hS124 := St.extend hS20 he119
          have e125 : f116 20 = u67 := hphi123 3 20 _ (by decide) rfl rfl
          have e126 : f116 24 = u113 := hphi123 7 24 _ (by decide) rfl rfl
          have e127 : f116 0 = v_a := (hout120 0 rfl).trans hf16
          have e128 : f116 1 = v_b := (hout120 1 rfl).trans hf17
          have e129 : f116 5 = (Value.int .i64 (k7 : Int)) := (hout120 5 rfl).trans hf18
          obtain ⟨x130, hx131, hb12⟩ := bs hb12
          refine WL.call _ (op_call fn_54 (args2 e125 e126)) (c_laws_eqInt64SS (Ty.lift _ hS124.ext hr69) (Ty.lift _ hS124.ext hr115) hx131) rfl ?_
          rintro _ wd132 ⟨rfl, he133⟩
          have hS135 := St.extend hS124 he133
          replace hS135 : St w wd132 [] := hS135
          refine WL.val (Value.bool (!x130)) _ (op_not rfl) rfl ?_
          refine WL.nil ?_
          refine W.cond (!x130) rfl (fun hc136 => ?_) (fun hc136 => ?_)
          · replace hb12 := ip hb12 hc136
            refine W.seq (W.region ?_)
            refine WL.val (Value.bool false) _ (op_assign rfl) rfl ?_
            refine WL.nil ?_
            refine W.ret ?_
            obtain rfl := Option.some.inj hb12
            obtain rfl := hret15 _ rfl
            replace h := onRes_ret h
            obtain rfl := Option.some.inj h
            show FinP _ _ _ _ _ _ _
            exact FinP.ret _ (res1 rfl rfl) ⟨rfl, hS135.ext⟩
          · replace hb12 := inegb hb12 hc136
            refine W.skip ?_
            show W _ _ _ _ _ _
            refine W.region ?_
            refine WL.val (Value.int .i64 (k7 : Int)) _ (op_move e129) rfl ?_
            refine WL.val (Value.int .i64 (w64 ((k7 : Int) + (1 : Int)))) _ (op_add rfl rfl) rfl ?_
            refine WL.val (Value.int .i64 (w64 ((k7 : Int) + (1 : Int)))) _ (op_assign rfl) rfl ?_
            refine WL.nil ?_
            obtain rfl := Option.some.inj hb12
            show ∃ s, _ = Ctl.next s ∧ _
            exact ⟨_, rfl, e127, e128, (ctr_next hl22 hr21), (ctr_rng hl22 hr21), hS135⟩
      · intro s143 f139 wd140 hs141 hI142
        obtain ⟨⟩ := s143
        replace hI142 : f139 0 = v_a ∧ f139 1 = v_b ∧ f139 5 = Value.int .i64 (((a).length : Nat) : Int) ∧ InR .i64 (((a).length : Nat) : Int) ∧ St w wd140 [] := hI142
        obtain ⟨hf144, hf145, hf146, hr147, hS148⟩ := hI142
        refine W.seq (W.seq (W.region ?_))
        refine WL.val (Value.int .i64 (((a).length : Nat) : Int)) _ (op_move hf146) rfl ?_
        refine WL.val v_a _ (op_move hf144) rfl ?_
        have hr149 := inR_len (Ty.lift _ hS148.ext r_a)
        refine WL.val (Value.int .i64 ((a).length : Int)) _ (op_lenL sl_23 (Ty.lift _ hS148.ext r_a) rfl) rfl ?_
        refine WL.val (Value.bool (decide ((((a).length : Nat) : Int) < ((a).length : Int)))) _ (op_lss rfl rfl) rfl ?_
        have hl150 : ¬ (((a).length : Nat) : Int) < ((a).length : Int) := by omega
        refine WL.nil ?_
        refine W.condF (decide ((((a).length : Nat) : Int) < ((a).length : Int))) rfl (decide_eq_false hl150) ?_
        refine W.exit ?_
        show _ = _ ∧ _
        exact ⟨rfl, _, hs141, hS148⟩
    · rintro f151 wd152 ⟨s154, rfl, hq153⟩
      replace h := onRes_fin h
      obtain ⟨⟩ := s154
      replace hq153 : St w wd152 [] := hq153
      have hS155 := hq153
      refine W.seq (W.region ?_)
      refine WL.val (Value.bool true) _ (op_assign rfl) rfl ?_
      refine WL.nil ?_
      refine W.ret ?_
      obtain rfl := Option.some.inj h
      show FinP _ _ _ _ _ _ _
      exact FinP.ret _ (res1 rfl rfl) ⟨rfl, hS155.ext⟩

theorem c_laws_eqCocycle {w : World} {a_Orders : (List Int)} {v_a_Orders : Value} {a_Modulus : Int} {a_Values : (List (List (List Int)))} {v_a_Values : Value} {b_Orders : (List Int)} {v_b_Orders : Value} {b_Modulus : Int} {b_Values : (List (List (List Int)))} {v_b_Values : Value} (r_a_Orders : (Ty.sl (Ty.i .i64)).rep w v_a_Orders a_Orders) (r_a_Modulus : InR .i64 a_Modulus) (r_a_Values : (Ty.sl (Ty.sl (Ty.sl (Ty.i .i64)))).rep w v_a_Values a_Values) (r_b_Orders : (Ty.sl (Ty.i .i64)).rep w v_b_Orders b_Orders) (r_b_Modulus : InR .i64 b_Modulus) (r_b_Values : (Ty.sl (Ty.sl (Ty.sl (Ty.i .i64)))).rep w v_b_Values b_Values) {res : Bool} (h : p_laws_eqCocycle a_Orders a_Modulus a_Values b_Orders b_Modulus b_Values  = some res) :
    Ret Try.prog 53 #[(Value.agg #[v_a_Orders, (Value.int .i64 a_Modulus), v_a_Values]), (Value.agg #[v_b_Orders, (Value.int .i64 b_Modulus), v_b_Values])] w (fun v w' => v = Value.bool res ∧ Ext w w') := by
  unfold p_laws_eqCocycle at h
  have hS0 : St w w [] := St.start w
  refine Ret.start (fn := Try.f53) Try.func53 rfl 22 rfl rfl ?_
  refine W.seq (W.region ?_)
  refine WL.box hS0 rfl (cs := [v_a_Orders, (Value.int .i64 a_Modulus), v_a_Values]) rfl rfl ?_
  intro b1 wd2 hS3 he4 hx5
  replace hS3 : St w wd2 [bx b1 [v_a_Orders, (Value.int .i64 a_Modulus), v_a_Values]] := hS3
  have hx6 := St.boxAt hS3 0 rfl
  have hE7 : Ext w wd2 := hS3.ext
  have hS8 : St wd2 wd2 [] := St.start wd2
  refine WL.box hS8 rfl (cs := [v_b_Orders, (Value.int .i64 b_Modulus), v_b_Values]) rfl rfl ?_
  intro b9 wd10 hS11 he12 hx13
  replace hS11 : St wd2 wd10 [bx b9 [v_b_Orders, (Value.int .i64 b_Modulus), v_b_Values]] := hS11
  have hx14 := St.boxAt hS11 0 rfl
  have hE15 : Ext w wd10 := (Ext.trans hE7 hS11.ext)
  have hE16 : Ext wd2 wd10 := hS11.ext
  have hS17 : St wd10 wd10 [] := St.start wd10
  refine WL.val (Value.bool false) _ (op_assign rfl) rfl ?_
  refine WL.nil ?_
  refine W.seq (W.seq (W.region ?_))
  refine WL.val (Value.pointer (some ⟨b1, 0, none⟩)) _ (op_fieldAddr fd_34_0 rfl) rfl ?_
  refine WL.val v_a_Orders _ (op_load one_22 rfl (BoxAt.cell (BoxAt.lift (Ext.trans hE16 hS17.ext) hx6) rfl)) rfl ?_
  refine WL.val (Value.pointer (some ⟨b9, 0, none⟩)) _ (op_fieldAddr fd_34_0 rfl) rfl ?_
  refine WL.val v_b_Orders _ (op_load one_22 rfl (BoxAt.cell (BoxAt.lift hS17.ext hx14) rfl)) rfl ?_
  obtain ⟨x18, hx19, h⟩ := bs h
  refine WL.call _ (op_call fn_52 (args2 rfl rfl)) (c_laws_eqInt64S (Ty.lift _ (Ext.trans hE15 hS17.ext) r_a_Orders) (Ty.lift _ (Ext.trans hE15 hS17.ext) r_b_Orders) hx19) rfl ?_
  rintro _ wd20 ⟨rfl, he21⟩
  have hS23 := St.extend hS17 he21
  replace hS23 : St wd10 wd20 [] := hS23
  refine WL.val (Value.bool (!x18)) _ (op_not rfl) rfl ?_
  refine WL.nil ?_
  refine W.cond (!x18) rfl (fun hc24 => ?_) (fun hc24 => ?_)
  · replace h := ip h hc24
    refine W.seq (W.region ?_)
    refine WL.val (Value.bool false) _ (op_assign rfl) rfl ?_
    refine WL.nil ?_
    refine W.ret ?_
    obtain rfl := Option.some.inj h
    show FinP _ _ _ _ _ _ _
    exact FinP.ret _ (res1 rfl rfl) ⟨rfl, (Ext.trans hE15 hS23.ext)⟩
  · replace h := inegb h hc24
    refine W.skip ?_
    refine W.seq (W.seq (W.region ?_))
    refine WL.val (Value.pointer (some ⟨b1, 1, none⟩)) _ (op_fieldAddr fd_34_1 rfl) rfl ?_
    refine WL.val (Value.int .i64 a_Modulus) _ (op_load one_2 rfl (BoxAt.cell (BoxAt.lift (Ext.trans hE16 hS23.ext) hx6) rfl)) rfl ?_
    refine WL.val (Value.pointer (some ⟨b9, 1, none⟩)) _ (op_fieldAddr fd_34_1 rfl) rfl ?_
    refine WL.val (Value.int .i64 b_Modulus) _ (op_load one_2 rfl (BoxAt.cell (BoxAt.lift hS23.ext hx14) rfl)) rfl ?_
    refine WL.val (Value.bool (a_Modulus != b_Modulus)) _ (op_neq rfl rfl) rfl ?_
    refine WL.nil ?_
    refine W.cond (a_Modulus != b_Modulus) rfl (fun hc26 => ?_) (fun hc26 => ?_)
    · replace h := ip h hc26
      refine W.seq (W.region ?_)
      refine WL.val (Value.bool false) _ (op_assign rfl) rfl ?_
      refine WL.nil ?_
      refine W.ret ?_
      obtain rfl := Option.some.inj h
      show FinP _ _ _ _ _ _ _
      exact FinP.ret _ (res1 rfl rfl) ⟨rfl, (Ext.trans hE15 hS23.ext)⟩
    · replace h := inegb h hc26
      refine W.skip ?_
      refine W.seq (W.seq (W.region ?_))
      refine WL.val (Value.pointer (some ⟨b1, 2, none⟩)) _ (op_fieldAddr fd_34_2 rfl) rfl ?_
      refine WL.val v_a_Values _ (op_load one_23 rfl (BoxAt.cell (BoxAt.lift (Ext.trans hE16 hS23.ext) hx6) rfl)) rfl ?_
      refine WL.val (Value.pointer (some ⟨b9, 2, none⟩)) _ (op_fieldAddr fd_34_2 rfl) rfl ?_
      refine WL.val v_b_Values _ (op_load one_23 rfl (BoxAt.cell (BoxAt.lift hS23.ext hx14) rfl)) rfl ?_
      obtain ⟨x28, hx29, h⟩ := bs h
      refine WL.call _ (op_call fn_108 (args2 rfl rfl)) (c_laws_eqInt64SSS (Ty.lift _ (Ext.trans hE15 hS23.ext) r_a_Values) (Ty.lift _ (Ext.trans hE15 hS23.ext) r_b_Values) hx29) rfl ?_
      rintro _ wd30 ⟨rfl, he31⟩
      have hS33 := St.extend hS23 he31
      replace hS33 : St wd10 wd30 [] := hS33
      refine WL.val (Value.bool (!x28)) _ (op_not rfl) rfl ?_
      refine WL.nil ?_
      refine W.cond (!x28) rfl (fun hc34 => ?_) (fun hc34 => ?_)
      · replace h := ip h hc34
        refine W.seq (W.region ?_)
        refine WL.val (Value.bool false) _ (op_assign rfl) rfl ?_
        refine WL.nil ?_
        refine W.ret ?_
        obtain rfl := Option.some.inj h
        show FinP _ _ _ _ _ _ _
        exact FinP.ret _ (res1 rfl rfl) ⟨rfl, (Ext.trans hE15 hS33.ext)⟩
      · replace h := inegb h hc34
        refine W.skip ?_
        refine W.seq (W.region ?_)
        refine WL.val (Value.bool true) _ (op_assign rfl) rfl ?_
        refine WL.nil ?_
        refine W.ret ?_
        obtain rfl := Option.some.inj h
        show FinP _ _ _ _ _ _ _
        exact FinP.ret _ (res1 rfl rfl) ⟨rfl, (Ext.trans hE15 hS33.ext)⟩

theorem c_laws_eqBraiding {w : World} {a_Cocycle_Orders : (List Int)} {v_a_Cocycle_Orders : Value} {a_Cocycle_Modulus : Int} {a_Cocycle_Values : (List (List (List Int)))} {v_a_Cocycle_Values : Value} {a_Values : (List (List Int))} {v_a_Values : Value} {b_Cocycle_Orders : (List Int)} {v_b_Cocycle_Orders : Value} {b_Cocycle_Modulus : Int} {b_Cocycle_Values : (List (List (List Int)))} {v_b_Cocycle_Values : Value} {b_Values : (List (List Int))} {v_b_Values : Value} (r_a_Cocycle_Orders : (Ty.sl (Ty.i .i64)).rep w v_a_Cocycle_Orders a_Cocycle_Orders) (r_a_Cocycle_Modulus : InR .i64 a_Cocycle_Modulus) (r_a_Cocycle_Values : (Ty.sl (Ty.sl (Ty.sl (Ty.i .i64)))).rep w v_a_Cocycle_Values a_Cocycle_Values) (r_a_Values : (Ty.sl (Ty.sl (Ty.i .i64))).rep w v_a_Values a_Values) (r_b_Cocycle_Orders : (Ty.sl (Ty.i .i64)).rep w v_b_Cocycle_Orders b_Cocycle_Orders) (r_b_Cocycle_Modulus : InR .i64 b_Cocycle_Modulus) (r_b_Cocycle_Values : (Ty.sl (Ty.sl (Ty.sl (Ty.i .i64)))).rep w v_b_Cocycle_Values b_Cocycle_Values) (r_b_Values : (Ty.sl (Ty.sl (Ty.i .i64))).rep w v_b_Values b_Values) {res : Bool} (h : p_laws_eqBraiding a_Cocycle_Orders a_Cocycle_Modulus a_Cocycle_Values a_Values b_Cocycle_Orders b_Cocycle_Modulus b_Cocycle_Values b_Values  = some res) :
    Ret Try.prog 11 #[(Value.agg #[v_a_Cocycle_Orders, (Value.int .i64 a_Cocycle_Modulus), v_a_Cocycle_Values, v_a_Values]), (Value.agg #[v_b_Cocycle_Orders, (Value.int .i64 b_Cocycle_Modulus), v_b_Cocycle_Values, v_b_Values])] w (fun v w' => v = Value.bool res ∧ Ext w w') := by
  unfold p_laws_eqBraiding at h
  have hS0 : St w w [] := St.start w
  refine Ret.start (fn := Try.f11) Try.func11 rfl 17 rfl rfl ?_
  refine W.seq (W.region ?_)
  refine WL.box hS0 rfl (cs := [v_a_Cocycle_Orders, (Value.int .i64 a_Cocycle_Modulus), v_a_Cocycle_Values, v_a_Values]) rfl rfl ?_
  intro b1 wd2 hS3 he4 hx5
  replace hS3 : St w wd2 [bx b1 [v_a_Cocycle_Orders, (Value.int .i64 a_Cocycle_Modulus), v_a_Cocycle_Values, v_a_Values]] := hS3
  have hx6 := St.boxAt hS3 0 rfl
  have hE7 : Ext w wd2 := hS3.ext
  have hS8 : St wd2 wd2 [] := St.start wd2
  refine WL.box hS8 rfl (cs := [v_b_Cocycle_Orders, (Value.int .i64 b_Cocycle_Modulus), v_b_Cocycle_Values, v_b_Values]) rfl rfl ?_
  intro b9 wd10 hS11 he12 hx13
  replace hS11 : St wd2 wd10 [bx b9 [v_b_Cocycle_Orders, (Value.int .i64 b_Cocycle_Modulus), v_b_Cocycle_Values, v_b_Values]] := hS11
  have hx14 := St.boxAt hS11 0 rfl
  have hE15 : Ext w wd10 := (Ext.trans hE7 hS11.ext)
  have hE16 : Ext wd2 wd10 := hS11.ext
  have hS17 : St wd10 wd10 [] := St.start wd10
  refine WL.val (Value.bool false) _ (op_assign rfl) rfl ?_
  refine WL.nil ?_
  refine W.seq (W.seq (W.region ?_))
  refine WL.val (Value.pointer (some ⟨b1, 0, none⟩)) _ (op_fieldAddr fd_36_0 rfl) rfl ?_
  refine WL.val (Value.agg #[v_a_Cocycle_Orders, (Value.int .i64 a_Cocycle_Modulus), v_a_Cocycle_Values]) _ (op_loadBox st_34 rfl (BoxAt.lift (Ext.trans hE16 hS17.ext) hx6) rfl rfl) rfl ?_
  refine WL.val (Value.pointer (some ⟨b9, 0, none⟩)) _ (op_fieldAddr fd_36_0 rfl) rfl ?_
  refine WL.val (Value.agg #[v_b_Cocycle_Orders, (Value.int .i64 b_Cocycle_Modulus), v_b_Cocycle_Values]) _ (op_loadBox st_34 rfl (BoxAt.lift hS17.ext hx14) rfl rfl) rfl ?_
  obtain ⟨x18, hx19, h⟩ := bs h
  refine WL.call _ (op_call fn_53 (args2 rfl rfl)) (c_laws_eqCocycle (Ty.lift _ (Ext.trans hE15 hS17.ext) r_a_Cocycle_Orders) r_a_Cocycle_Modulus (Ty.lift _ (Ext.trans hE15 hS17.ext) r_a_Cocycle_Values) (Ty.lift _ (Ext.trans hE15 hS17.ext) r_b_Cocycle_Orders) r_b_Cocycle_Modulus (Ty.lift _ (Ext.trans hE15 hS17.ext) r_b_Cocycle_Values) hx19) rfl ?_
  rintro _ wd20 ⟨rfl, he21⟩
  have hS23 := St.extend hS17 he21
  replace hS23 : St wd10 wd20 [] := hS23
  refine WL.val (Value.bool (!x18)) _ (op_not rfl) rfl ?_
  refine WL.nil ?_
  refine W.cond (!x18) rfl (fun hc24 => ?_) (fun hc24 => ?_)
  · replace h := ip h hc24
    refine W.seq (W.region ?_)
    refine WL.val (Value.bool false) _ (op_assign rfl) rfl ?_
    refine WL.nil ?_
    refine W.ret ?_
    obtain rfl := Option.some.inj h
    show FinP _ _ _ _ _ _ _
    exact FinP.ret _ (res1 rfl rfl) ⟨rfl, (Ext.trans hE15 hS23.ext)⟩
  · replace h := inegb h hc24
    refine W.skip ?_
    refine W.seq (W.seq (W.region ?_))
    refine WL.val (Value.pointer (some ⟨b1, 3, none⟩)) _ (op_fieldAddr fd_36_1 rfl) rfl ?_
    refine WL.val v_a_Values _ (op_load one_26 rfl (BoxAt.cell (BoxAt.lift (Ext.trans hE16 hS23.ext) hx6) rfl)) rfl ?_
    refine WL.val (Value.pointer (some ⟨b9, 3, none⟩)) _ (op_fieldAddr fd_36_1 rfl) rfl ?_
    refine WL.val v_b_Values _ (op_load one_26 rfl (BoxAt.cell (BoxAt.lift hS23.ext hx14) rfl)) rfl ?_
    obtain ⟨x26, hx27, h⟩ := bs h
    refine WL.call _ (op_call fn_54 (args2 rfl rfl)) (c_laws_eqInt64SS (Ty.lift _ (Ext.trans hE15 hS23.ext) r_a_Values) (Ty.lift _ (Ext.trans hE15 hS23.ext) r_b_Values) hx27) rfl ?_
    rintro _ wd28 ⟨rfl, he29⟩
    have hS31 := St.extend hS23 he29
    replace hS31 : St wd10 wd28 [] := hS31
    refine WL.val (Value.bool (!x26)) _ (op_not rfl) rfl ?_
    refine WL.nil ?_
    refine W.cond (!x26) rfl (fun hc32 => ?_) (fun hc32 => ?_)
    · replace h := ip h hc32
      refine W.seq (W.region ?_)
      refine WL.val (Value.bool false) _ (op_assign rfl) rfl ?_
      refine WL.nil ?_
      refine W.ret ?_
      obtain rfl := Option.some.inj h
      show FinP _ _ _ _ _ _ _
      exact FinP.ret _ (res1 rfl rfl) ⟨rfl, (Ext.trans hE15 hS31.ext)⟩
    · replace h := inegb h hc32
      refine W.skip ?_
      refine W.seq (W.region ?_)
      refine WL.val (Value.bool true) _ (op_assign rfl) rfl ?_
      refine WL.nil ?_
      refine W.ret ?_
      obtain rfl := Option.some.inj h
      show FinP _ _ _ _ _ _ _
      exact FinP.ret _ (res1 rfl rfl) ⟨rfl, (Ext.trans hE15 hS31.ext)⟩

theorem c_laws_markInt64S {w : World} {a : (List Int)} {v_a : Value} {k1 : Int} {w0 : World} {R : Ent} (hS0 : St w0 w [(Ty.sl (Ty.i .i64)).at v_a a, R]) (r_k1 : InR .i64 k1) {res : Int × (List Int)} (h : p_laws_markInt64S a k1  = some res) :
    Ret Try.prog 57 #[v_a, (Value.int .i64 k1)] w (fun v w' => v = Value.int .i64 res.1 ∧ InR .i64 res.1 ∧ St w0 w' [(Ty.sl (Ty.i .i64)).at v_a res.2, R]) := by
  unfold p_laws_markInt64S at h
  refine Ret.start (fn := Try.f57) Try.func57 rfl 19 rfl rfl ?_
  refine W.seq (W.region ?_)
  refine WL.val (Value.int .i64 (0 : Int)) _ (op_assign rfl) rfl ?_
  refine WL.nil ?_
  refine W.seq (W.seq (W.region ?_))
  refine WL.val (Value.int .i64 (0 : Int)) _ (op_assign rfl) rfl ?_
  refine WL.nil ?_
  show W _ _ _ _ _ _
  obtain ⟨res1, hres2, h⟩ := bs h
  refine W.blockLoop (fun fq wq => ∃ s, res1 = Res.fin s ∧ fq 1 = Value.int .i64 s.2 ∧ InR .i64 s.2 ∧ (s.1).length = (a).length ∧ St w0 wq [(Ty.sl (Ty.i .i64)).at v_a s.1, R]) ?_ ?_
  · refine W.forN (fun k (s : (List Int) × Int) fq wq => fq 0 = v_a ∧ fq 1 = Value.int .i64 s.2 ∧ InR .i64 s.2 ∧ fq 5 = Value.int .i64 (k : Int) ∧ InR .i64 (k : Int) ∧ (s.1).length = (a).length ∧ St w0 wq [(Ty.sl (Ty.i .i64)).at v_a s.1, R]) hres2 ⟨rfl, rfl, r_k1, rfl, (inL rfl), rfl, hS0⟩ ?_ ?_
    · intro k3 s30 ct6 f7 wd8 hk9 hb10 hI11 hbrk12 hret13
      obtain ⟨x4, x5⟩ := s30
      replace hI11 : f7 0 = v_a ∧ f7 1 = Value.int .i64 x5 ∧ InR .i64 x5 ∧ f7 5 = Value.int .i64 (k3 : Int) ∧ InR .i64 (k3 : Int) ∧ (x4).length = (a).length ∧ St w0 wd8 [(Ty.sl (Ty.i .i64)).at v_a x4, R] := hI11
      replace hb10 : p_laws_markInt64S_L1  k3 x4 x5 = some ct6 := hb10
      unfold p_laws_markInt64S_L1 at hb10
      obtain ⟨hf14, hf15, hr16, hf17, hr18, hL19, hS20⟩ := hI11
      refine W.seq (W.seq (W.region ?_))
      refine WL.val (Value.int .i64 (k3 : Int)) _ (op_move hf17) rfl ?_
      refine WL.val v_a _ (op_move hf14) rfl ?_
      have hr21 := inR_len (St.rep (t := (Ty.sl (Ty.i .i64))) hS20 0 rfl)
      refine WL.val (Value.int .i64 ((x4).length : Int)) _ (op_lenL sl_22 (St.rep (t := (Ty.sl (Ty.i .i64))) hS20 0 rfl) rfl) rfl ?_
      refine WL.val (Value.bool (decide ((k3 : Int) < ((x4).length : Int)))) _ (op_lss rfl rfl) rfl ?_
      have hl22 : (k3 : Int) < ((x4).length : Int) := by omega
      refine WL.nil ?_
      refine W.condT (decide ((k3 : Int) < ((x4).length : Int))) rfl (decide_eq_true hl22) ?_
      refine W.skip ?_
      refine W.seq ?_
      refine W.block ?_
      refine W.seq (W.region ?_)
      refine WL.val v_a _ (op_move hf14) rfl ?_
      refine WL.val (Value.int .i64 (k3 : Int)) _ (op_move hf17) rfl ?_
      refine WL.val (Value.int .i64 x5) _ (op_move hf15) rfl ?_
      obtain ⟨x24, hx27, hb10⟩ := bs hb10
      obtain ⟨ha25, hb26, hx27⟩ := idx_some hx27
      refine WL.val (Value.pointer (some (elA v_a ((k3 : Int)).toNat))) _ (op_idx sl_22 (St.rep (t := (Ty.sl (Ty.i .i64))) hS20 0 rfl) rfl rfl ha25 hb26) rfl ?_
      refine WL.storeEl (flat_i .i64) hS20 (k := 0) rfl sz_2 rfl rfl (lt_of_idx ha25 hb26) ⟨rfl, hr16⟩ ?_
      intro wd28 hS29
      replace hS29 : St w0 wd28 [(Ty.sl (Ty.i .i64)).at v_a ((x4).set ((k3 : Int)).toNat x5), R] := hS29
      refine WL.nil ?_
      show W _ _ _ _ _ _
      refine W.region ?_
      refine WL.val (Value.int .i64 x5) _ (op_move hf15) rfl ?_
      refine WL.val (Value.int .i64 (w64 (x5 + (1 : Int)))) _ (op_add rfl rfl) rfl ?_
      refine WL.val (Value.int .i64 (w64 (x5 + (1 : Int)))) _ (op_assign rfl) rfl ?_
      refine WL.nil ?_
      show W _ _ _ _ _ _
      refine W.region ?_
      refine WL.val (Value.int .i64 (k3 : Int)) _ (op_move hf17) rfl ?_
      refine WL.val (Value.int .i64 (w64 ((k3 : Int) + (1 : Int)))) _ (op_add rfl rfl) rfl ?_
      refine WL.val (Value.int .i64 (w64 ((k3 : Int) + (1 : Int)))) _ (op_assign rfl) rfl ?_
      refine WL.nil ?_
      obtain rfl := Option.some.inj hb10
      show ∃ s, _ = Ctl.next s ∧ _
      exact ⟨_, rfl, hf14, rfl, (inR_wrap _ _), (ctr_next hl22 hr21), (ctr_rng hl22 hr21), (by first | exact hL19 | (simp only [List.length_set]; exact hL19)), hS29⟩
    · intro s35 f31 wd32 hs33 hI34
      obtain ⟨x36, x37⟩ := s35
      replace hI34 : f31 0 = v_a ∧ f31 1 = Value.int .i64 x37 ∧ InR .i64 x37 ∧ f31 5 = Value.int .i64 (((a).length : Nat) : Int) ∧ InR .i64 (((a).length : Nat) : Int) ∧ (x36).length = (a).length ∧ St w0 wd32 [(Ty.sl (Ty.i .i64)).at v_a x36, R] := hI34
      obtain ⟨hf38, hf39, hr40, hf41, hr42, hL43, hS44⟩ := hI34
      refine W.seq (W.seq (W.region ?_))
      refine WL.val (Value.int .i64 (((a).length : Nat) : Int)) _ (op_move hf41) rfl ?_
      refine WL.val v_a _ (op_move hf38) rfl ?_
      have hr45 := inR_len (St.rep (t := (Ty.sl (Ty.i .i64))) hS44 0 rfl)
      refine WL.val (Value.int .i64 ((x36).length : Int)) _ (op_lenL sl_22 (St.rep (t := (Ty.sl (Ty.i .i64))) hS44 0 rfl) rfl) rfl ?_
      refine WL.val (Value.bool (decide ((((a).length : Nat) : Int) < ((x36).length : Int)))) _ (op_lss rfl rfl) rfl ?_
      have hl46 : ¬ (((a).length : Nat) : Int) < ((x36).length : Int) := by omega
      refine WL.nil ?_
      refine W.condF (decide ((((a).length : Nat) : Int) < ((x36).length : Int))) rfl (decide_eq_false hl46) ?_
      refine W.exit ?_
      show _ = _ ∧ _
      exact ⟨rfl, _, hs33, hf39, hr40, (by first | exact hL43 | (simp only [List.length_set]; exact hL43)), hS44⟩
  · rintro f47 wd48 ⟨s50, rfl, hq49⟩
    replace h := onRes_fin h
    obtain ⟨x51, x52⟩ := s50
    replace hq49 : f47 1 = Value.int .i64 x52 ∧ InR .i64 x52 ∧ (x51).length = (a).length ∧ St w0 wd48 [(Ty.sl (Ty.i .i64)).at v_a x51, R] := hq49
    replace h : (_ : Option _) = _ := h
    dsimp only at h
    obtain ⟨hf53, hr54, hL55, hS56⟩ := hq49
    refine W.seq (W.region ?_)
    refine WL.val (Value.int .i64 x52) _ (op_move hf53) rfl ?_
    refine WL.val (Value.int .i64 x52) _ (op_assign rfl) rfl ?_
    refine WL.nil ?_
    refine W.ret ?_
    obtain rfl := Option.some.inj h
    show FinP _ _ _ _ _ _ _
    exact FinP.ret _ (res1 rfl rfl) ⟨rfl, hr54, (St.pick hS56 [0, 1] rfl)⟩

theorem c_laws_markInt64SS {w : World} {a : (List (List Int))} {v_a : Value} {k1 : Int} {w0 : World} {R : Ent} (hS0 : St w0 w [(Ty.sl (Ty.sl (Ty.i .i64))).at v_a a, R]) (r_k1 : InR .i64 k1) {res : Int × (List (List Int))} (h : p_laws_markInt64SS a k1  = some res) :
    Ret Try.prog 56 #[v_a, (Value.int .i64 k1)] w (fun v w' => v = Value.int .i64 res.1 ∧ InR .i64 res.1 ∧ St w0 w' [(Ty.sl (Ty.sl (Ty.i .i64))).at v_a res.2, R]) := by
  unfold p_laws_markInt64SS at h
  refine Ret.start (fn := Try.f56) Try.func56 rfl 19 rfl rfl ?_
  refine W.seq (W.region ?_)
  refine WL.val (Value.int .i64 (0 : Int)) _ (op_assign rfl) rfl ?_
  refine WL.nil ?_
  refine W.seq (W.seq (W.region ?_))
  refine WL.val (Value.int .i64 (0 : Int)) _ (op_assign rfl) rfl ?_
  refine WL.nil ?_
  show W _ _ _ _ _ _
  obtain ⟨res1, hres2, h⟩ := bs h
  refine W.blockLoop (fun fq wq => ∃ s, res1 = Res.fin s ∧ fq 1 = Value.int .i64 s.2 ∧ InR .i64 s.2 ∧ (s.1).length = (a).length ∧ St w0 wq [(Ty.sl (Ty.sl (Ty.i .i64))).at v_a s.1, R]) ?_ ?_
  · refine W.forN (fun k (s : (List (List Int)) × Int) fq wq => fq 0 = v_a ∧ fq 1 = Value.int .i64 s.2 ∧ InR .i64 s.2 ∧ fq 5 = Value.int .i64 (k : Int) ∧ InR .i64 (k : Int) ∧ (s.1).length = (a).length ∧ St w0 wq [(Ty.sl (Ty.sl (Ty.i .i64))).at v_a s.1, R]) hres2 ⟨rfl, rfl, r_k1, rfl, (inL rfl), rfl, hS0⟩ ?_ ?_
    · intro k3 s40 ct6 f7 wd8 hk9 hb10 hI11 hbrk12 hret13
      obtain ⟨x4, x5⟩ := s40
      replace hI11 : f7 0 = v_a ∧ f7 1 = Value.int .i64 x5 ∧ InR .i64 x5 ∧ f7 5 = Value.int .i64 (k3 : Int) ∧ InR .i64 (k3 : Int) ∧ (x4).length = (a).length ∧ St w0 wd8 [(Ty.sl (Ty.sl (Ty.i .i64))).at v_a x4, R] := hI11
      replace hb10 : p_laws_markInt64SS_L1  k3 x4 x5 = some ct6 := hb10
      unfold p_laws_markInt64SS_L1 at hb10
      obtain ⟨hf14, hf15, hr16, hf17, hr18, hL19, hS20⟩ := hI11
      refine W.seq (W.seq (W.region ?_))
      refine WL.val (Value.int .i64 (k3 : Int)) _ (op_move hf17) rfl ?_
      refine WL.val v_a _ (op_move hf14) rfl ?_
      have hr21 := inR_len (St.rep (t := (Ty.sl (Ty.sl (Ty.i .i64)))) hS20 0 rfl)
      refine WL.val (Value.int .i64 ((x4).length : Int)) _ (op_lenL sl_26 (St.rep (t := (Ty.sl (Ty.sl (Ty.i .i64)))) hS20 0 rfl) rfl) rfl ?_
      refine WL.val (Value.bool (decide ((k3 : Int) < ((x4).length : Int)))) _ (op_lss rfl rfl) rfl ?_
      have hl22 : (k3 : Int) < ((x4).length : Int) := by omega
      refine WL.nil ?_
      refine W.condT (decide ((k3 : Int) < ((x4).length : Int))) rfl (decide_eq_true hl22) ?_
      refine W.skip ?_
      refine W.seq ?_
      refine W.block ?_
      refine W.region ?_
      refine WL.val v_a _ (op_move hf14) rfl ?_
      refine WL.val (Value.int .i64 (k3 : Int)) _ (op_move hf17) rfl ?_
      obtain ⟨x24, hx27, hb10⟩ := bs hb10
      obtain ⟨ha25, hb26, hx27⟩ := idx_some hx27
      refine WL.val (Value.pointer (some (elA v_a ((k3 : Int)).toNat))) _ (op_idx sl_26 (St.rep (t := (Ty.sl (Ty.sl (Ty.i .i64)))) hS20 0 rfl) rfl rfl ha25 hb26) rfl ?_
      obtain ⟨u28, hc29, hr30⟩ := repSl.el (St.rep (t := (Ty.sl (Ty.sl (Ty.i .i64)))) hS20 0 rfl) hx27
      refine WL.val u28 _ (op_load one_22 rfl hc29) rfl ?_
      refine WL.val (Value.int .i64 x5) _ (op_move hf15) rfl ?_
      have hS31 := St.unrow (k := 0) hS20 rfl hx27 hc29
      replace hS31 : St w0 wd8 [holeAt (Ty.sl (Ty.i .i64)) v_a x4 ((k3 : Int)).toNat u28, R, (Ty.sl (Ty.i .i64)).at u28 x24] := hS31
      obtain ⟨x32, hx33, hb10⟩ := bs hb10
      have hS34 := St.fold [(Ty.sl (Ty.i .i64)).at u28 x24] [holeAt (Ty.sl (Ty.i .i64)) v_a x4 ((k3 : Int)).toNat u28, R] (St.pick hS31 [2, 0, 1] rfl)
      refine WL.call _ (op_call fn_57 (args2 rfl rfl)) (c_laws_markInt64S hS34 hr16 hx33) rfl ?_
      rintro _ wd37 ⟨rfl, hr38, hS35⟩
      have hS36 := St.pick (St.unfold [(Ty.sl (Ty.i .i64)).at u28 x32.2] [holeAt (Ty.sl (Ty.i .i64)) v_a x4 ((k3 : Int)).toNat u28, R] hS35) [1, 2, 0] rfl
      replace hS36 : St w0 wd37 [holeAt (Ty.sl (Ty.i .i64)) v_a x4 ((k3 : Int)).toNat u28, R, (Ty.sl (Ty.i .i64)).at u28 x32.2] := hS36
      have hS39 := St.rerow (k := 0) (k2 := 2) hS36 rfl rfl rfl
      replace hS39 : St w0 wd37 [(Ty.sl (Ty.sl (Ty.i .i64))).at v_a ((x4).set ((k3 : Int)).toNat x32.2), R, emp] := hS39
      refine WL.val (Value.int .i64 x32.1) _ (op_assign rfl) rfl ?_
      refine WL.nil ?_
      show W _ _ _ _ _ _
      refine W.region ?_
      refine WL.val (Value.int .i64 (k3 : Int)) _ (op_move hf17) rfl ?_
      refine WL.val (Value.int .i64 (w64 ((k3 : Int) + (1 : Int)))) _ (op_add rfl rfl) rfl ?_
      refine WL.val (Value.int .i64 (w64 ((k3 : Int) + (1 : Int)))) _ (op_assign rfl) rfl ?_
      refine WL.nil ?_
      obtain rfl := Option.some.inj hb10
      show ∃ s, _ = Ctl.next s ∧ _
      exact ⟨_, rfl, hf14, rfl, hr38, (ctr_next hl22 hr21), (ctr_rng hl22 hr21), (by first | exact hL19 | (simp only [List.length_set]; exact hL19)), (St.pick hS39 [0, 1] rfl)⟩
    · intro s45 f41 wd42 hs43 hI44
      obtain ⟨x46, x47⟩ := s45
      replace hI44 : f41 0 = v_a ∧ f41 1 = Value.int .i64 x47 ∧ InR .i64 x47 ∧ f41 5 = Value.int .i64 (((a).length : Nat) : Int) ∧ InR .i64 (((a).length : Nat) : Int) ∧ (x46).length = (a).length ∧ St w0 wd42 [(Ty.sl (Ty.sl (Ty.i .i64))).at v_a x46, R] := hI44
      obtain ⟨hf48, hf49, hr50, hf51, hr52, hL53, hS54⟩ := hI44
      refine W.seq (W.seq (W.region ?_))
      refine WL.val (Value.int .i64 (((a).length : Nat) : Int)) _ (op_move hf51) rfl ?_
      refine WL.val v_a _ (op_move hf48) rfl ?_
      have hr55 := inR_len (St.rep (t := (Ty.sl (Ty.sl (Ty.i .i64)))) hS54 0 rfl)
      refine WL.val (Value.int .i64 ((x46).length : Int)) _ (op_lenL sl_26 (St.rep (t := (Ty.sl (Ty.sl (Ty.i .i64)))) hS54 0 rfl) rfl) rfl ?_
      refine WL.val (Value.bool (decide ((((a).length : Nat) : Int) < ((x46).length : Int)))) _ (op_lss rfl rfl) rfl ?_
      have hl56 : ¬ (((a).length : Nat) : Int) < ((x46).length : Int) := by omega
      refine WL.nil ?_
      refine W.condF (decide ((((a).length : Nat) : Int) < ((x46).length : Int))) rfl (decide_eq_false hl56) ?_
      refine W.exit ?_
      show _ = _ ∧ _
      exact ⟨rfl, _, hs43, hf49, hr50, (by first | exact hL53 | (simp only [List.length_set]; exact hL53)), hS54⟩
  · rintro f57 wd58 ⟨s60, rfl, hq59⟩
    replace h := onRes_fin h
    obtain ⟨x61, x62⟩ := s60
    replace hq59 : f57 1 = Value.int .i64 x62 ∧ InR .i64 x62 ∧ (x61).length = (a).length ∧ St w0 wd58 [(Ty.sl (Ty.sl (Ty.i .i64))).at v_a x61, R] := hq59
    replace h : (_ : Option _) = _ := h
    dsimp only at h
    obtain ⟨hf63, hr64, hL65, hS66⟩ := hq59
    refine W.seq (W.region ?_)
    refine WL.val (Value.int .i64 x62) _ (op_move hf63) rfl ?_
    refine WL.val (Value.int .i64 x62) _ (op_assign rfl) rfl ?_
    refine WL.nil ?_
    refine W.ret ?_
    obtain rfl := Option.some.inj h
    show FinP _ _ _ _ _ _ _
    exact FinP.ret _ (res1 rfl rfl) ⟨rfl, hr64, (St.pick hS66 [0, 1] rfl)⟩

theorem c_laws_markInt64SSS {w : World} {a : (List (List (List Int)))} {v_a : Value} {k1 : Int} {w0 : World} {R : Ent} (hS0 : St w0 w [(Ty.sl (Ty.sl (Ty.sl (Ty.i .i64)))).at v_a a, R]) (r_k1 : InR .i64 k1) {res : Int × (List (List (List Int)))} (h : p_laws_markInt64SSS a k1  = some res) :
    Ret Try.prog 109 #[v_a, (Value.int .i64 k1)] w (fun v w' => v = Value.int .i64 res.1 ∧ InR .i64 res.1 ∧ St w0 w' [(Ty.sl (Ty.sl (Ty.sl (Ty.i .i64)))).at v_a res.2, R]) := by
  unfold p_laws_markInt64SSS at h
  refine Ret.start (fn := Try.f109) Try.func109 rfl 19 rfl rfl ?_
  refine W.seq (W.region ?_)
  refine WL.val (Value.int .i64 (0 : Int)) _ (op_assign rfl) rfl ?_
  refine WL.nil ?_
  refine W.seq (W.seq (W.region ?_))
  refine WL.val (Value.int .i64 (0 : Int)) _ (op_assign rfl) rfl ?_
  refine WL.nil ?_
  show W _ _ _ _ _ _
  obtain ⟨res1, hres2, h⟩ := bs h
  refine W.blockLoop (fun fq wq => ∃ s, res1 = Res.fin s ∧ fq 1 = Value.int .i64 s.2 ∧ InR .i64 s.2 ∧ (s.1).length = (a).length ∧ St w0 wq [(Ty.sl (Ty.sl (Ty.sl (Ty.i .i64)))).at v_a s.1, R]) ?_ ?_
  · refine W.forN (fun k (s : (List (List (List Int))) × Int) fq wq => fq 0 = v_a ∧ fq 1 = Value.int .i64 s.2 ∧ InR .i64 s.2 ∧ fq 5 = Value.int .i64 (k : Int) ∧ InR .i64 (k : Int) ∧ (s.1).length = (a).length ∧ St w0 wq [(Ty.sl (Ty.sl (Ty.sl (Ty.i .i64)))).at v_a s.1, R]) hres2 ⟨rfl, rfl, r_k1, rfl, (inL rfl), rfl, hS0⟩ ?_ ?_
    · intro k3 s40 ct6 f7 wd8 hk9 hb10 hI11 hbrk12 hret13
      obtain ⟨x4, x5⟩ := s40
      replace hI11 : f7 0 = v_a ∧ f7 1 = Value.int .i64 x5 ∧ InR .i64 x5 ∧ f7 5 = Value.int .i64 (k3 : Int) ∧ InR .i64 (k3 : Int) ∧ (x4).length = (a).length ∧ St w0 wd8 [(Ty.sl (Ty.sl (Ty.sl (Ty.i .i64)))).at v_a x4, R] := hI11
      replace hb10 : p_laws_markInt64SSS_L1  k3 x4 x5 = some ct6 := hb10
      unfold p_laws_markInt64SSS_L1 at hb10
      obtain ⟨hf14, hf15, hr16, hf17, hr18, hL19, hS20⟩ := hI11
      refine W.seq (W.seq (W.region ?_))
      refine WL.val (Value.int .i64 (k3 : Int)) _ (op_move hf17) rfl ?_
      refine WL.val v_a _ (op_move hf14) rfl ?_
      have hr21 := inR_len (St.rep (t := (Ty.sl (Ty.sl (Ty.sl (Ty.i .i64))))) hS20 0 rfl)
      refine WL.val (Value.int .i64 ((x4).length : Int)) _ (op_lenL sl_23 (St.rep (t := (Ty.sl (Ty.sl (Ty.sl (Ty.i .i64))))) hS20 0 rfl) rfl) rfl ?_
      refine WL.val (Value.bool (decide ((k3 : Int) < ((x4).length : Int)))) _ (op_lss rfl rfl) rfl ?_
      have hl22 : (k3 : Int) < ((x4).length : Int) := by omega
      refine WL.nil ?_
      refine W.condT (decide ((k3 : Int) < ((x4).length : Int))) rfl (decide_eq_true hl22) ?_
      refine W.skip ?_
      refine W.seq ?_
      refine W.block ?_
      refine W.region ?_
      refine WL.val v_a _ (op_move hf14) rfl ?_
      refine WL.val (Value.int .i64 (k3 : Int)) _ (op_move hf17) rfl ?_
      obtain ⟨x24, hx27, hb10⟩ := bs hb10
      obtain ⟨ha25, hb26, hx27⟩ := idx_some hx27
      refine WL.val (Value.pointer (some (elA v_a ((k3 : Int)).toNat))) _ (op_idx sl_23 (St.rep (t := (Ty.sl (Ty.sl (Ty.sl (Ty.i .i64))))) hS20 0 rfl) rfl rfl ha25 hb26) rfl ?_
      obtain ⟨u28, hc29, hr30⟩ := repSl.el (St.rep (t := (Ty.sl (Ty.sl (Ty.sl (Ty.i .i64))))) hS20 0 rfl) hx27
      refine WL.val u28 _ (op_load one_26 rfl hc29) rfl ?_
      refine WL.val (Value.int .i64 x5) _ (op_move hf15) rfl ?_
      have hS31 := St.unrow (k := 0) hS20 rfl hx27 hc29
      replace hS31 : St w0 wd8 [holeAt (Ty.sl (Ty.sl (Ty.i .i64))) v_a x4 ((k3 : Int)).toNat u28, R, (Ty.sl (Ty.sl (Ty.i .i64))).at u28 x24] := hS31
      obtain ⟨x32, hx33, hb10⟩ := bs hb10
      have hS34 := St.fold [(Ty.sl (Ty.sl (Ty.i .i64))).at u28 x24] [holeAt (Ty.sl (Ty.sl (Ty.i .i64))) v_a x4 ((k3 : Int)).toNat u28, R] (St.pick hS31 [2, 0, 1] rfl)
      refine WL.call _ (op_call fn_56 (args2 rfl rfl)) (c_laws_markInt64SS hS34 hr16 hx33) rfl ?_
      rintro _ wd37 ⟨rfl, hr38, hS35⟩
      have hS36 := St.pick (St.unfold [(Ty.sl (Ty.sl (Ty.i .i64))).at u28 x32.2] [holeAt (Ty.sl (Ty.sl (Ty.i .i64))) v_a x4 ((k3 : Int)).toNat u28, R] hS35) [1, 2, 0] rfl
      replace hS36 : St w0 wd37 [holeAt (Ty.sl (Ty.sl (Ty.i .i64))) v_a x4 ((k3 : Int)).toNat u28, R, (Ty.sl (Ty.sl (Ty.i .i64))).at u28 x32.2] := hS36
      have hS39 := St.rerow (k := 0) (k2 := 2) hS36 rfl rfl rfl
      replace hS39 : St w0 wd37 [(Ty.sl (Ty.sl (Ty.sl (Ty.i .i64)))).at v_a ((x4).set ((k3 : Int)).toNat x32.2), R, emp] := hS39
      refine WL.val (Value.int .i64 x32.1) _ (op_assign rfl) rfl ?_
      refine WL.nil ?_
      show W _ _ _ _ _ _
      refine W.region ?_
      refine WL.val (Value.int .i64 (k3 : Int)) _ (op_move hf17) rfl ?_
      refine WL.val (Value.int .i64 (w64 ((k3 : Int) + (1 : Int)))) _ (op_add rfl rfl) rfl ?_
      refine WL.val (Value.int .i64 (w64 ((k3 : Int) + (1 : Int)))) _ (op_assign rfl) rfl ?_
      refine WL.nil ?_
      obtain rfl := Option.some.inj hb10
      show ∃ s, _ = Ctl.next s ∧ _
      exact ⟨_, rfl, hf14, rfl, hr38, (ctr_next hl22 hr21), (ctr_rng hl22 hr21), (by first | exact hL19 | (simp only [List.length_set]; exact hL19)), (St.pick hS39 [0, 1] rfl)⟩
    · intro s45 f41 wd42 hs43 hI44
      obtain ⟨x46, x47⟩ := s45
      replace hI44 : f41 0 = v_a ∧ f41 1 = Value.int .i64 x47 ∧ InR .i64 x47 ∧ f41 5 = Value.int .i64 (((a).length : Nat) : Int) ∧ InR .i64 (((a).length : Nat) : Int) ∧ (x46).length = (a).length ∧ St w0 wd42 [(Ty.sl (Ty.sl (Ty.sl (Ty.i .i64)))).at v_a x46, R] := hI44
      obtain ⟨hf48, hf49, hr50, hf51, hr52, hL53, hS54⟩ := hI44
      refine W.seq (W.seq (W.region ?_))
      refine WL.val (Value.int .i64 (((a).length : Nat) : Int)) _ (op_move hf51) rfl ?_
      refine WL.val v_a _ (op_move hf48) rfl ?_
      have hr55 := inR_len (St.rep (t := (Ty.sl (Ty.sl (Ty.sl (Ty.i .i64))))) hS54 0 rfl)
      refine WL.val (Value.int .i64 ((x46).length : Int)) _ (op_lenL sl_23 (St.rep (t := (Ty.sl (Ty.sl (Ty.sl (Ty.i .i64))))) hS54 0 rfl) rfl) rfl ?_
      refine WL.val (Value.bool (decide ((((a).length : Nat) : Int) < ((x46).length : Int)))) _ (op_lss rfl rfl) rfl ?_
      have hl56 : ¬ (((a).length : Nat) : Int) < ((x46).length : Int) := by omega
      refine WL.nil ?_
      refine W.condF (decide ((((a).length : Nat) : Int) < ((x46).length : Int))) rfl (decide_eq_false hl56) ?_
      refine W.exit ?_
      show _ = _ ∧ _
      exact ⟨rfl, _, hs43, hf49, hr50, (by first | exact hL53 | (simp only [List.length_set]; exact hL53)), hS54⟩
  · rintro f57 wd58 ⟨s60, rfl, hq59⟩
    replace h := onRes_fin h
    obtain ⟨x61, x62⟩ := s60
    replace hq59 : f57 1 = Value.int .i64 x62 ∧ InR .i64 x62 ∧ (x61).length = (a).length ∧ St w0 wd58 [(Ty.sl (Ty.sl (Ty.sl (Ty.i .i64)))).at v_a x61, R] := hq59
    replace h : (_ : Option _) = _ := h
    dsimp only at h
    obtain ⟨hf63, hr64, hL65, hS66⟩ := hq59
    refine W.seq (W.region ?_)
    refine WL.val (Value.int .i64 x62) _ (op_move hf63) rfl ?_
    refine WL.val (Value.int .i64 x62) _ (op_assign rfl) rfl ?_
    refine WL.nil ?_
    refine W.ret ?_
    obtain rfl := Option.some.inj h
    show FinP _ _ _ _ _ _ _
    exact FinP.ret _ (res1 rfl rfl) ⟨rfl, hr64, (St.pick hS66 [0, 1] rfl)⟩

theorem c_laws_markCocycle {w : World} {a_Orders : (List Int)} {v_a_Orders : Value} {a_Modulus : Int} {a_Values : (List (List (List Int)))} {v_a_Values : Value} {k1 : Int} {w0 : World} {R : Ent} (hS0 : St w0 w [(Ty.sl (Ty.i .i64)).at v_a_Orders a_Orders, (Ty.sl (Ty.sl (Ty.sl (Ty.i .i64)))).at v_a_Values a_Values, R]) (r_a_Modulus : InR .i64 a_Modulus) (r_k1 : InR .i64 k1) {res : Int × (List Int) × (List (List (List Int)))} (h : p_laws_markCocycle a_Orders a_Modulus a_Values k1  = some res) :
    Ret Try.prog 55 #[(Value.agg #[v_a_Orders, (Value.int .i64 a_Modulus), v_a_Values]), (Value.int .i64 k1)] w (fun v w' => v = Value.int .i64 res.1 ∧ InR .i64 res.1 ∧ St w0 w' [(Ty.sl (Ty.i .i64)).at v_a_Orders res.2.1, (Ty.sl (Ty.sl (Ty.sl (Ty.i .i64)))).at v_a_Values res.2.2, R]) := by
  unfold p_laws_markCocycle at h
  refine Ret.start (fn := Try.f55) Try.func55 rfl 14 rfl rfl ?_
  refine W.seq (W.region ?_)
  refine WL.box hS0 rfl (cs := [v_a_Orders, (Value.int .i64 a_Modulus), v_a_Values]) rfl rfl ?_
  intro b1 wd2 hS3 he4 hx5
  replace hS3 : St w0 wd2 [(Ty.sl (Ty.i .i64)).at v_a_Orders a_Orders, (Ty.sl (Ty.sl (Ty.sl (Ty.i .i64)))).at v_a_Values a_Values, R, bx b1 [v_a_Orders, (Value.int .i64 a_Modulus), v_a_Values]] := hS3
  refine WL.val (Value.int .i64 (0 : Int)) _ (op_assign rfl) rfl ?_
  refine WL.nil ?_
  refine W.seq (W.region ?_)
  refine WL.val (Value.pointer (some ⟨b1, 0, none⟩)) _ (op_fieldAddr fd_34_0 rfl) rfl ?_
  refine WL.val v_a_Orders _ (op_load one_22 rfl (BoxAt.cell (St.boxAt hS3 3 rfl) rfl)) rfl ?_
  refine WL.val (Value.int .i64 k1) _ (op_move rfl) rfl ?_
  obtain ⟨x6, hx7, h⟩ := bs h
  have hS8 := St.fold [(Ty.sl (Ty.i .i64)).at v_a_Orders a_Orders] [(Ty.sl (Ty.sl (Ty.sl (Ty.i .i64)))).at v_a_Values a_Values, R, bx b1 [v_a_Orders, (Value.int .i64 a_Modulus), v_a_Values]] (St.pick hS3 [0, 1, 2, 3] rfl)
  refine WL.call _ (op_call fn_57 (args2 rfl rfl)) (c_laws_markInt64S hS8 r_k1 hx7) rfl ?_
  rintro _ wd11 ⟨rfl, hr12, hS9⟩
  have hS10 := St.pick (St.unfold [(Ty.sl (Ty.i .i64)).at v_a_Orders x6.2] [(Ty.sl (Ty.sl (Ty.sl (Ty.i .i64)))).at v_a_Values a_Values, R, bx b1 [v_a_Orders, (Value.int .i64 a_Modulus), v_a_Values]] hS9) [0, 1, 2, 3] rfl
  replace hS10 : St w0 wd11 [(Ty.sl (Ty.i .i64)).at v_a_Orders x6.2, (Ty.sl (Ty.sl (Ty.sl (Ty.i .i64)))).at v_a_Values a_Values, R, bx b1 [v_a_Orders, (Value.int .i64 a_Modulus), v_a_Values]] := hS10
  refine WL.val (Value.int .i64 x6.1) _ (op_assign rfl) rfl ?_
  refine WL.nil ?_
  refine W.seq (W.region ?_)
  refine WL.val (Value.pointer (some ⟨b1, 2, none⟩)) _ (op_fieldAddr fd_34_2 rfl) rfl ?_
  refine WL.val v_a_Values _ (op_load one_23 rfl (BoxAt.cell (St.boxAt hS10 3 rfl) rfl)) rfl ?_
  refine WL.val (Value.int .i64 x6.1) _ (op_move rfl) rfl ?_
  obtain ⟨x13, hx14, h⟩ := bs h
  have hS15 := St.fold [(Ty.sl (Ty.sl (Ty.sl (Ty.i .i64)))).at v_a_Values a_Values] [(Ty.sl (Ty.i .i64)).at v_a_Orders x6.2, R, bx b1 [v_a_Orders, (Value.int .i64 a_Modulus), v_a_Values]] (St.pick hS10 [1, 0, 2, 3] rfl)
  refine WL.call _ (op_call fn_109 (args2 rfl rfl)) (c_laws_markInt64SSS hS15 hr12 hx14) rfl ?_
  rintro _ wd18 ⟨rfl, hr19, hS16⟩
  have hS17 := St.pick (St.unfold [(Ty.sl (Ty.sl (Ty.sl (Ty.i .i64)))).at v_a_Values x13.2] [(Ty.sl (Ty.i .i64)).at v_a_Orders x6.2, R, bx b1 [v_a_Orders, (Value.int .i64 a_Modulus), v_a_Values]] hS16) [1, 0, 2, 3] rfl
  replace hS17 : St w0 wd18 [(Ty.sl (Ty.i .i64)).at v_a_Orders x6.2, (Ty.sl (Ty.sl (Ty.sl (Ty.i .i64)))).at v_a_Values x13.2, R, bx b1 [v_a_Orders, (Value.int .i64 a_Modulus), v_a_Values]] := hS17
  refine WL.val (Value.int .i64 x13.1) _ (op_assign rfl) rfl ?_
  refine WL.nil ?_
  refine W.seq (W.region ?_)
  refine WL.val (Value.int .i64 x13.1) _ (op_move rfl) rfl ?_
  refine WL.val (Value.int .i64 x13.1) _ (op_assign rfl) rfl ?_
  refine WL.nil ?_
  refine W.ret ?_
  obtain rfl := Option.some.inj h
  show FinP _ _ _ _ _ _ _
  exact FinP.ret _ (res1 rfl rfl) ⟨rfl, hr19, (St.pick hS17 [0, 1, 2] rfl)⟩

theorem c_laws_markBraiding {w : World} {a_Cocycle_Orders : (List Int)} {v_a_Cocycle_Orders : Value} {a_Cocycle_Modulus : Int} {a_Cocycle_Values : (List (List (List Int)))} {v_a_Cocycle_Values : Value} {a_Values : (List (List Int))} {v_a_Values : Value} {k1 : Int} {w0 : World} {R : Ent} (hS0 : St w0 w [(Ty.sl (Ty.i .i64)).at v_a_Cocycle_Orders a_Cocycle_Orders, (Ty.sl (Ty.sl (Ty.sl (Ty.i .i64)))).at v_a_Cocycle_Values a_Cocycle_Values, (Ty.sl (Ty.sl (Ty.i .i64))).at v_a_Values a_Values, R]) (r_a_Cocycle_Modulus : InR .i64 a_Cocycle_Modulus) (r_k1 : InR .i64 k1) {res : Int × (List Int) × (List (List (List Int))) × (List (List Int))} (h : p_laws_markBraiding a_Cocycle_Orders a_Cocycle_Modulus a_Cocycle_Values a_Values k1  = some res) :
    Ret Try.prog 12 #[(Value.agg #[v_a_Cocycle_Orders, (Value.int .i64 a_Cocycle_Modulus), v_a_Cocycle_Values, v_a_Values]), (Value.int .i64 k1)] w (fun v w' => v = Value.int .i64 res.1 ∧ InR .i64 res.1 ∧ St w0 w' [(Ty.sl (Ty.i .i64)).at v_a_Cocycle_Orders res.2.1, (Ty.sl (Ty.sl (Ty.sl (Ty.i .i64)))).at v_a_Cocycle_Values res.2.2.1, (Ty.sl (Ty.sl (Ty.i .i64))).at v_a_Values res.2.2.2, R]) := by
  unfold p_laws_markBraiding at h
  refine Ret.start (fn := Try.f12) Try.func12 rfl 14 rfl rfl ?_
  refine W.seq (W.region ?_)
  refine WL.box hS0 rfl (cs := [v_a_Cocycle_Orders, (Value.int .i64 a_Cocycle_Modulus), v_a_Cocycle_Values, v_a_Values]) rfl rfl ?_
  intro b1 wd2 hS3 he4 hx5
  replace hS3 : St w0 wd2 [(Ty.sl (Ty.i .i64)).at v_a_Cocycle_Orders a_Cocycle_Orders, (Ty.sl (Ty.sl (Ty.sl (Ty.i .i64)))).at v_a_Cocycle_Values a_Cocycle_Values, (Ty.sl (Ty.sl (Ty.i .i64))).at v_a_Values a_Values, R, bx b1 [v_a_Cocycle_Orders, (Value.int .i64 a_Cocycle_Modulus), v_a_Cocycle_Values, v_a_Values]] := hS3
  refine WL.val (Value.int .i64 (0 : Int)) _ (op_assign rfl) rfl ?_
  refine WL.nil ?_
  refine W.seq (W.region ?_)
  refine WL.val (Value.pointer (some ⟨b1, 0, none⟩)) _ (op_fieldAddr fd_36_0 rfl) rfl ?_
  refine WL.val (Value.agg #[v_a_Cocycle_Orders, (Value.int .i64 a_Cocycle_Modulus), v_a_Cocycle_Values]) _ (op_loadBox st_34 rfl (St.boxAt hS3 4 rfl) rfl rfl) rfl ?_
  refine WL.val (Value.int .i64 k1) _ (op_move rfl) rfl ?_
  obtain ⟨x6, hx7, h⟩ := bs h
  have hS8 := St.fold [(Ty.sl (Ty.i .i64)).at v_a_Cocycle_Orders a_Cocycle_Orders, (Ty.sl (Ty.sl (Ty.sl (Ty.i .i64)))).at v_a_Cocycle_Values a_Cocycle_Values] [(Ty.sl (Ty.sl (Ty.i .i64))).at v_a_Values a_Values, R, bx b1 [v_a_Cocycle_Orders, (Value.int .i64 a_Cocycle_Modulus), v_a_Cocycle_Values, v_a_Values]] (St.pick hS3 [0, 1, 2, 3, 4] rfl)
  refine WL.call _ (op_call fn_55 (args2 rfl rfl)) (c_laws_markCocycle hS8 r_a_Cocycle_Modulus r_k1 hx7) rfl ?_
  rintro _ wd11 ⟨rfl, hr12, hS9⟩
  have hS10 := St.pick (St.unfold [(Ty.sl (Ty.i .i64)).at v_a_Cocycle_Orders x6.2.1, (Ty.sl (Ty.sl (Ty.sl (Ty.i .i64)))).at v_a_Cocycle_Values x6.2.2] [(Ty.sl (Ty.sl (Ty.i .i64))).at v_a_Values a_Values, R, bx b1 [v_a_Cocycle_Orders, (Value.int .i64 a_Cocycle_Modulus), v_a_Cocycle_Values, v_a_Values]] hS9) [0, 1, 2, 3, 4] rfl
  replace hS10 : St w0 wd11 [(Ty.sl (Ty.i .i64)).at v_a_Cocycle_Orders x6.2.1, (Ty.sl (Ty.sl (Ty.sl (Ty.i .i64)))).at v_a_Cocycle_Values x6.2.2, (Ty.sl (Ty.sl (Ty.i .i64))).at v_a_Values a_Values, R, bx b1 [v_a_Cocycle_Orders, (Value.int .i64 a_Cocycle_Modulus), v_a_Cocycle_Values, v_a_Values]] := hS10
  refine WL.val (Value.int .i64 x6.1) _ (op_assign rfl) rfl ?_
  refine WL.nil ?_
  refine W.seq (W.region ?_)
  refine WL.val (Value.pointer (some ⟨b1, 3, none⟩)) _ (op_fieldAddr fd_36_1 rfl) rfl ?_
  refine WL.val v_a_Values _ (op_load one_26 rfl (BoxAt.cell (St.boxAt hS10 4 rfl) rfl)) rfl ?_
  refine WL.val (Value.int .i64 x6.1) _ (op_move rfl) rfl ?_
  obtain ⟨x13, hx14, h⟩ := bs h
  have hS15 := St.fold [(Ty.sl (Ty.sl (Ty.i .i64))).at v_a_Values a_Values] [(Ty.sl (Ty.i .i64)).at v_a_Cocycle_Orders x6.2.1, (Ty.sl (Ty.sl (Ty.sl (Ty.i .i64)))).at v_a_Cocycle_Values x6.2.2, R, bx b1 [v_a_Cocycle_Orders, (Value.int .i64 a_Cocycle_Modulus), v_a_Cocycle_Values, v_a_Values]] (St.pick hS10 [2, 0, 1, 3, 4] rfl)
  refine WL.call _ (op_call fn_56 (args2 rfl rfl)) (c_laws_markInt64SS hS15 hr12 hx14) rfl ?_
  rintro _ wd18 ⟨rfl, hr19, hS16⟩
  have hS17 := St.pick (St.unfold [(Ty.sl (Ty.sl (Ty.i .i64))).at v_a_Values x13.2] [(Ty.sl (Ty.i .i64)).at v_a_Cocycle_Orders x6.2.1, (Ty.sl (Ty.sl (Ty.sl (Ty.i .i64)))).at v_a_Cocycle_Values x6.2.2, R, bx b1 [v_a_Cocycle_Orders, (Value.int .i64 a_Cocycle_Modulus), v_a_Cocycle_Values, v_a_Values]] hS16) [1, 2, 0, 3, 4] rfl
  replace hS17 : St w0 wd18 [(Ty.sl (Ty.i .i64)).at v_a_Cocycle_Orders x6.2.1, (Ty.sl (Ty.sl (Ty.sl (Ty.i .i64)))).at v_a_Cocycle_Values x6.2.2, (Ty.sl (Ty.sl (Ty.i .i64))).at v_a_Values x13.2, R, bx b1 [v_a_Cocycle_Orders, (Value.int .i64 a_Cocycle_Modulus), v_a_Cocycle_Values, v_a_Values]] := hS17
  refine WL.val (Value.int .i64 x13.1) _ (op_assign rfl) rfl ?_
  refine WL.nil ?_
  refine W.seq (W.region ?_)
  refine WL.val (Value.int .i64 x13.1) _ (op_move rfl) rfl ?_
  refine WL.val (Value.int .i64 x13.1) _ (op_assign rfl) rfl ?_
  refine WL.nil ?_
  refine W.ret ?_
  obtain rfl := Option.some.inj h
  show FinP _ _ _ _ _ _ _
  exact FinP.ret _ (res1 rfl rfl) ⟨rfl, hr19, (St.pick hS17 [0, 1, 2, 3] rfl)⟩

theorem c_laws_heldInt64S {w : World} {a : (List Int)} {v_a : Value} {k1 : Int} (r_a : (Ty.sl (Ty.i .i64)).rep w v_a a) (r_k1 : InR .i64 k1) {res : Int} (h : p_laws_heldInt64S a k1  = some res) :
    Ret Try.prog 58 #[v_a, (Value.int .i64 k1)] w (fun v w' => v = Value.int .i64 res ∧ InR .i64 res ∧ Ext w w') := by
  unfold p_laws_heldInt64S at h
  have hS0 : St w w [] := St.start w
  refine Ret.start (fn := Try.f58) Try.func58 rfl 21 rfl rfl ?_
  refine W.seq (W.region ?_)
  refine WL.val (Value.int .i64 (0 : Int)) _ (op_assign rfl) rfl ?_
  refine WL.nil ?_
  refine W.seq (W.seq (W.region ?_))
  refine WL.val (Value.int .i64 (0 : Int)) _ (op_assign rfl) rfl ?_
  refine WL.nil ?_
  show W _ _ _ _ _ _
  obtain ⟨res1, hres2, h⟩ := bs h
  refine W.blockLoop (fun fq wq => ∃ s, res1 = Res.fin s ∧ fq 1 = Value.int .i64 s ∧ InR .i64 s ∧ St w wq []) ?_ ?_
  · refine W.forN (fun k (s : Int) fq wq => fq 0 = v_a ∧ fq 1 = Value.int .i64 s ∧ InR .i64 s ∧ fq 5 = Value.int .i64 (k : Int) ∧ InR .i64 (k : Int) ∧ St w wq []) hres2 ⟨rfl, rfl, r_k1, rfl, (inL rfl), hS0⟩ ?_ ?_
    · intro k3 x4 ct5 f6 wd7 hk8 hb9 hI10 hbrk11 hret12
      replace hI10 : f6 0 = v_a ∧ f6 1 = Value.int .i64 x4 ∧ InR .i64 x4 ∧ f6 5 = Value.int .i64 (k3 : Int) ∧ InR .i64 (k3 : Int) ∧ St w wd7 [] := hI10
      replace hb9 : p_laws_heldInt64S_L1 a k3 x4 = some ct5 := hb9
      unfold p_laws_heldInt64S_L1 at hb9
      obtain ⟨hf13, hf14, hr15, hf16, hr17, hS18⟩ := hI10
      refine W.seq (W.seq (W.region ?_))
      refine WL.val (Value.int .i64 (k3 : Int)) _ (op_move hf16) rfl ?_
      refine WL.val v_a _ (op_move hf13) rfl ?_
      have hr19 := inR_len (Ty.lift _ hS18.ext r_a)
      refine WL.val (Value.int .i64 ((a).length : Int)) _ (op_lenL sl_22 (Ty.lift _ hS18.ext r_a) rfl) rfl ?_
      refine WL.val (Value.bool (decide ((k3 : Int) < ((a).length : Int)))) _ (op_lss rfl rfl) rfl ?_
      have hl20 : (k3 : Int) < ((a).length : Int) := by omega
      refine WL.nil ?_
      refine W.condT (decide ((k3 : Int) < ((a).length : Int))) rfl (decide_eq_true hl20) ?_
      refine W.skip ?_
      refine W.seq ?_
      refine W.block ?_
      refine W.seq (W.seq (W.region ?_))
      refine WL.val v_a _ (op_move hf13) rfl ?_
      refine WL.val (Value.int .i64 (k3 : Int)) _ (op_move hf16) rfl ?_
      obtain ⟨x22, hx25, hb9⟩ := bs hb9
      obtain ⟨ha23, hb24, hx25⟩ := idx_some hx25
      refine WL.val (Value.pointer (some (elA v_a ((k3 : Int)).toNat))) _ (op_idx sl_22 (Ty.lift _ hS18.ext r_a) rfl rfl ha23 hb24) rfl ?_
      obtain ⟨u26, hc27, hr28⟩ := repSl.el r_a hx25
      obtain ⟨rfl, hr28⟩ := hr28
      refine WL.val (Value.int .i64 x22) _ (op_load one_2 rfl (Ext.cell hS18.ext hc27)) rfl ?_
      refine WL.val (Value.int .i64 x4) _ (op_move hf14) rfl ?_
      refine WL.val (Value.bool (x22 != x4)) _ (op_neq rfl rfl) rfl ?_
      refine WL.nil ?_
      refine W.cond (x22 != x4) rfl (fun hc29 => ?_) (fun hc29 => ?_)
      · replace hb9 := ip hb9 hc29
        refine W.seq (W.region ?_)
        refine WL.val (Value.int .i64 (-1 : Int)) _ (op_assign rfl) rfl ?_
        refine WL.nil ?_
        refine W.ret ?_
        obtain rfl := Option.some.inj hb9
        obtain rfl := hret12 _ rfl
        replace h := onRes_ret h
        obtain rfl := Option.some.inj h
        show FinP _ _ _ _ _ _ _
        exact FinP.ret _ (res1 rfl rfl) ⟨rfl, (inR_i64.2 (show (-9223372036854775808 : Int) ≤ -1 ∧ (-1 : Int) ≤ 9223372036854775807 from by decide)), hS18.ext⟩
      · replace hb9 := inegb hb9 hc29
        refine W.skip ?_
        show W _ _ _ _ _ _
        refine W.region ?_
        refine WL.val (Value.int .i64 x4) _ (op_move hf14) rfl ?_
        refine WL.val (Value.int .i64 (w64 (x4 + (1 : Int)))) _ (op_add rfl rfl) rfl ?_
        refine WL.val (Value.int .i64 (w64 (x4 + (1 : Int)))) _ (op_assign rfl) rfl ?_
        refine WL.nil ?_
        show W _ _ _ _ _ _
        refine W.region ?_
        refine WL.val (Value.int .i64 (k3 : Int)) _ (op_move hf16) rfl ?_
        refine WL.val (Value.int .i64 (w64 ((k3 : Int) + (1 : Int)))) _ (op_add rfl rfl) rfl ?_
        refine WL.val (Value.int .i64 (w64 ((k3 : Int) + (1 : Int)))) _ (op_assign rfl) rfl ?_
        refine WL.nil ?_
        obtain rfl := Option.some.inj hb9
        show ∃ s, _ = Ctl.next s ∧ _
        exact ⟨_, rfl, hf13, rfl, (inR_wrap _ _), (ctr_next hl20 hr19), (ctr_rng hl20 hr19), hS18⟩
    · intro x37 f32 wd33 hs34 hI35
      replace hI35 : f32 0 = v_a ∧ f32 1 = Value.int .i64 x37 ∧ InR .i64 x37 ∧ f32 5 = Value.int .i64 (((a).length : Nat) : Int) ∧ InR .i64 (((a).length : Nat) : Int) ∧ St w wd33 [] := hI35
      obtain ⟨hf38, hf39, hr40, hf41, hr42, hS43⟩ := hI35
      refine W.seq (W.seq (W.region ?_))
      refine WL.val (Value.int .i64 (((a).length : Nat) : Int)) _ (op_move hf41) rfl ?_
      refine WL.val v_a _ (op_move hf38) rfl ?_
      have hr44 := inR_len (Ty.lift _ hS43.ext r_a)
      refine WL.val (Value.int .i64 ((a).length : Int)) _ (op_lenL sl_22 (Ty.lift _ hS43.ext r_a) rfl) rfl ?_
      refine WL.val (Value.bool (decide ((((a).length : Nat) : Int) < ((a).length : Int)))) _ (op_lss rfl rfl) rfl ?_
      have hl45 : ¬ (((a).length : Nat) : Int) < ((a).length : Int) := by omega
      refine WL.nil ?_
      refine W.condF (decide ((((a).length : Nat) : Int) < ((a).length : Int))) rfl (decide_eq_false hl45) ?_
      refine W.exit ?_
      show _ = _ ∧ _
      exact ⟨rfl, _, hs34, hf39, hr40, hS43⟩
  · rintro f46 wd47 ⟨x50, rfl, hq48⟩
    replace h := onRes_fin h
    replace hq48 : f46 1 = Value.int .i64 x50 ∧ InR .i64 x50 ∧ St w wd47 [] := hq48
    obtain ⟨hf51, hr52, hS53⟩ := hq48
    refine W.seq (W.region ?_)
    refine WL.val (Value.int .i64 x50) _ (op_move hf51) rfl ?_
    refine WL.val (Value.int .i64 x50) _ (op_assign rfl) rfl ?_
    refine WL.nil ?_
    refine W.ret ?_
    obtain rfl := Option.some.inj h
    show FinP _ _ _ _ _ _ _
    exact FinP.ret _ (res1 rfl rfl) ⟨rfl, hr52, hS53.ext⟩

theorem c_spec_l01Own2 {w : World} {lists : (List (List Int))} {v_lists : Value} (r_lists : (Ty.sl (Ty.sl (Ty.i .i64))).rep w v_lists lists) {res : (List (List Int))} (h : p_spec_l01Own2 lists  = some res) :
    Ret Try.prog 110 #[v_lists] w (fun v w' => ∃ (u0 : Value), v = u0 ∧ Ext w w' ∧ Sep w.heap.size w' [(Ty.sl (Ty.sl (Ty.i .i64))).at u0 res]) := by
  unfold p_spec_l01Own2 at h
  have hS0 : St w w [] := St.start w
  refine Ret.start (fn := Try.f110) Try.func110 rfl 21 rfl rfl ?_
  refine W.seq (W.region ?_)
  refine WL.val (Value.slice none 0 0) _ (op_assign rfl) rfl ?_
  refine WL.nil ?_
  refine W.seq (W.region ?_)
  refine WL.lit0 (t := (Ty.sl (Ty.i .i64))) hS0 sl_26 rfl rfl ?_
  intro u1 wd2 hS3 he4
  replace hS3 : St w wd2 [(Ty.sl (Ty.sl (Ty.i .i64))).at u1 ([] : (List (List Int)))] := hS3
  refine WL.val u1 _ (op_assign rfl) rfl ?_
  refine WL.nil ?_
  refine W.seq (W.seq (W.region ?_))
  refine WL.val (Value.int .i64 (0 : Int)) _ (op_assign rfl) rfl ?_
  refine WL.nil ?_
  show W _ _ _ _ _ _
  obtain ⟨res5, hres6, h⟩ := bs h
  refine W.blockLoop (fun fq wq => ∃ s, res5 = Res.fin s ∧ ∃ (uu0 : Value), fq 3 = uu0 ∧ St w wq [(Ty.sl (Ty.sl (Ty.i .i64))).at uu0 s]) ?_ ?_
  · refine W.forN (fun k (s : (List (List Int))) fq wq => ∃ (uu0 : Value), fq 0 = v_lists ∧ fq 3 = uu0 ∧ fq 4 = Value.int .i64 (k : Int) ∧ InR .i64 (k : Int) ∧ St w wq [(Ty.sl (Ty.sl (Ty.i .i64))).at uu0 s]) hres6 ⟨u1, rfl, rfl, rfl, (inL rfl), hS3⟩ ?_ ?_
    · intro k7 x8 ct9 f10 wd11 hk12 hb13 hI14 hbrk15 hret16
      replace hI14 : ∃ (uu0 : Value), f10 0 = v_lists ∧ f10 3 = uu0 ∧ f10 4 = Value.int .i64 (k7 : Int) ∧ InR .i64 (k7 : Int) ∧ St w wd11 [(Ty.sl (Ty.sl (Ty.i .i64))).at uu0 x8] := hI14
      replace hb13 : p_spec_l01Own2_L1 lists k7 x8 = some ct9 := hb13
      unfold p_spec_l01Own2_L1 at hb13
      obtain ⟨u17, hf18, hf19, hf20, hr21, hS22⟩ := hI14
      refine W.seq (W.seq (W.region ?_))
      refine WL.val (Value.int .i64 (k7 : Int)) _ (op_move hf20) rfl ?_
      refine WL.val v_lists _ (op_move hf18) rfl ?_
      have hr23 := inR_len (Ty.lift _ hS22.ext r_lists)
      refine WL.val (Value.int .i64 ((lists).length : Int)) _ (op_lenL sl_26 (Ty.lift _ hS22.ext r_lists) rfl) rfl ?_
      refine WL.val (Value.bool (decide ((k7 : Int) < ((lists).length : Int)))) _ (op_lss rfl rfl) rfl ?_
      have hl24 : (k7 : Int) < ((lists).length : Int) := by omega
      refine WL.nil ?_
      refine W.condT (decide ((k7 : Int) < ((lists).length : Int))) rfl (decide_eq_true hl24) ?_
      refine W.skip ?_
      refine W.seq ?_
      refine W.block ?_
      refine W.region ?_
      refine WL.val u17 _ (op_move hf19) rfl ?_
      refine WL.val v_lists _ (op_move hf18) rfl ?_
      refine WL.val (Value.int .i64 (k7 : Int)) _ (op_move hf20) rfl ?_
      obtain ⟨x26, hx29, hb13⟩ := bs hb13
      obtain ⟨ha27, hb28, hx29⟩ := idx_some hx29
      refine WL.val (Value.pointer (some (elA v_lists ((k7 : Int)).toNat))) _ (op_idx sl_26 (Ty.lift _ hS22.ext r_lists) rfl rfl ha27 hb28) rfl ?_
      obtain ⟨u30, hc31, hr32⟩ := repSl.el r_lists hx29
      refine WL.val u30 _ (op_load one_22 rfl (Ext.cell hS22.ext hc31)) rfl ?_
      obtain ⟨x33, hx34, hb13⟩ := bs hb13
      refine WL.call _ (op_call fn_45 (args1 rfl)) (c_spec_l01Own (Ty.lift _ hS22.ext hr32) hx34) rfl ?_
      rintro u35 wd36 ⟨_, rfl, he37, hs38⟩
      have hS39 := St.join hS22 he37 hs38
      replace hS39 : St w wd36 [(Ty.sl (Ty.sl (Ty.i .i64))).at u17 x8, (Ty.sl (Ty.i .i64)).at u35 x33] := hS39
      refine WL.lit [u35] hS39 sl_26 rfl rfl (fillL rfl ⟨rfl, rfl, (cells_rep (St.rep (t := (Ty.sl (Ty.i .i64))) hS39 1 rfl)), trivial⟩) rfl rfl ?_
      intro b44 wd41 hS42 he43 hx45
      replace hS42 : St w wd41 [(Ty.sl (Ty.sl (Ty.i .i64))).at u17 x8, (Ty.sl (Ty.i .i64)).at u35 x33, bx b44 [u35]] := hS42
      obtain ⟨x46, hx47, hb13⟩ := bs hb13
      refine WL.appendRow hS42 (k := 0) (k2 := 1) (k3 := 2) rfl rfl rfl rfl sl_26 rfl rfl rfl rfl hx47 rfl ?_
      intro u48 wd49 hS50 hz51
      replace hS50 : St w wd49 [(Ty.sl (Ty.sl (Ty.i .i64))).at u48 x46, emp, bx b44 [u35]] := hS50
      refine WL.val u48 _ (op_assign rfl) rfl ?_
      refine WL.nil ?_
      show W _ _ _ _ _ _
      refine W.region ?_
      refine WL.val (Value.int .i64 (k7 : Int)) _ (op_move hf20) rfl ?_
      refine WL.val (Value.int .i64 (w64 ((k7 : Int) + (1 : Int)))) _ (op_add rfl rfl) rfl ?_
      refine WL.val (Value.int .i64 (w64 ((k7 : Int) + (1 : Int)))) _ (op_assign rfl) rfl ?_
      refine WL.nil ?_
      obtain rfl := Option.some.inj hb13
      show ∃ s, _ = Ctl.next s ∧ _
      exact ⟨_, rfl, u48, hf18, rfl, (ctr_next hl24 hr23), (ctr_rng hl24 hr23), (St.pick hS50 [0] rfl)⟩
    · intro x58 f53 wd54 hs55 hI56
      replace hI56 : ∃ (uu0 : Value), f53 0 = v_lists ∧ f53 3 = uu0 ∧ f53 4 = Value.int .i64 (((lists).length : Nat) : Int) ∧ InR .i64 (((lists).length : Nat) : Int) ∧ St w wd54 [(Ty.sl (Ty.sl (Ty.i .i64))).at uu0 x58] := hI56
      obtain ⟨u59, hf60, hf61, hf62, hr63, hS64⟩ := hI56
      refine W.seq (W.seq (W.region ?_))
      refine WL.val (Value.int .i64 (((lists).length : Nat) : Int)) _ (op_move hf62) rfl ?_
      refine WL.val v_lists _ (op_move hf60) rfl ?_
      have hr65 := inR_len (Ty.lift _ hS64.ext r_lists)
      refine WL.val (Value.int .i64 ((lists).length : Int)) _ (op_lenL sl_26 (Ty.lift _ hS64.ext r_lists) rfl) rfl ?_
      refine WL.val (Value.bool (decide ((((lists).length : Nat) : Int) < ((lists).length : Int)))) _ (op_lss rfl rfl) rfl ?_
      have hl66 : ¬ (((lists).length : Nat) : Int) < ((lists).length : Int) := by omega
      refine WL.nil ?_
      refine W.condF (decide ((((lists).length : Nat) : Int) < ((lists).length : Int))) rfl (decide_eq_false hl66) ?_
      refine W.exit ?_
      show _ = _ ∧ _
      exact ⟨rfl, _, hs55, u59, hf61, hS64⟩
  · rintro f67 wd68 ⟨x71, rfl, hq69⟩
    replace h := onRes_fin h
    replace hq69 : ∃ (uu0 : Value), f67 3 = uu0 ∧ St w wd68 [(Ty.sl (Ty.sl (Ty.i .i64))).at uu0 x71] := hq69
    obtain ⟨u72, hf73, hS74⟩ := hq69
    refine W.seq (W.region ?_)
    refine WL.val u72 _ (op_move hf73) rfl ?_
    refine WL.val u72 _ (op_assign rfl) rfl ?_
    refine WL.nil ?_
    refine W.ret ?_
    obtain rfl := Option.some.inj h
    show FinP _ _ _ _ _ _ _
    exact FinP.ret _ (res1 rfl rfl) ⟨u72, rfl, hS74.ext, (St.out (St.pick hS74 [0] rfl) (Ext.refl _))⟩

end Go.VG
