/- The walks, part 3: each Go function returns what its plain twin returns. No condition beyond what each names. -/
import Derived.Test.YtmofhdohclbidaaGWalk2
set_option linter.all false
namespace Go.VG
open Go.Proofs
attribute [local irreducible] W WL Sep FinP

theorem c_impl_Cocycle_fault {w : World} {c_Orders : (List Int)} {v_c_Orders : Value} {c_Modulus : Int} {c_Values : (List (List (List Int)))} {v_c_Values : Value} (r_c_Orders : (Ty.sl (Ty.i .i64)).rep w v_c_Orders c_Orders) (r_c_Modulus : InR .i64 c_Modulus) (r_c_Values : (Ty.sl (Ty.sl (Ty.sl (Ty.i .i64)))).rep w v_c_Values c_Values) {res : (List Int)} (h : p_impl_Cocycle_fault c_Orders c_Modulus c_Values  = some res) :
    Ret Try.prog 36 #[(Value.agg #[v_c_Orders, (Value.int .i64 c_Modulus), v_c_Values])] w (fun v w' => ∃ (u0 : Value), v = u0 ∧ NilIff u0 res ∧ Ext w w' ∧ Sep w.heap.size w' [(Ty.sl (Ty.i .i64)).at u0 res]) := by
  unfold p_impl_Cocycle_fault at h
  have hS0 : St w w [] := St.start w
  refine Ret.start (fn := Try.f36) Try.func36 rfl 107 rfl rfl ?_
  refine W.seq (W.region ?_)
  refine WL.box hS0 rfl (cs := [v_c_Orders, (Value.int .i64 c_Modulus), v_c_Values]) rfl rfl ?_
  intro b1 wd2 hS3 he4 hx5
  replace hS3 : St w wd2 [bx b1 [v_c_Orders, (Value.int .i64 c_Modulus), v_c_Values]] := hS3
  have hx6 := St.boxAt hS3 0 rfl
  have hE7 : Ext w wd2 := hS3.ext
  have hS8 : St wd2 wd2 [] := St.start wd2
  refine WL.val (Value.slice none 0 0) _ (op_assign rfl) rfl ?_
  refine WL.nil ?_
  refine W.seq (W.region ?_)
  refine WL.val (Value.pointer (some ⟨b1, 2, none⟩)) _ (op_fieldAddr fd_29_2 rfl) rfl ?_
  refine WL.val v_c_Values _ (op_load one_23 rfl (BoxAt.cell (BoxAt.lift hS8.ext hx6) rfl)) rfl ?_
  refine WL.val v_c_Values _ (op_assign rfl) rfl ?_
  refine WL.nil ?_
  refine W.seq (W.seq (W.region ?_))
  refine WL.val v_c_Values _ (op_move rfl) rfl ?_
  have hr9 := inR_len (Ty.lift _ (Ext.trans hE7 hS8.ext) r_c_Values)
  refine WL.val (Value.int .i64 ((c_Values).length : Int)) _ (op_lenL sl_23 (Ty.lift _ (Ext.trans hE7 hS8.ext) r_c_Values) rfl) rfl ?_
  refine WL.val (Value.int .i64 (0 : Int)) _ (op_move rfl) rfl ?_
  refine WL.nil ?_
  show W _ _ _ _ _ _
  obtain ⟨res10, hres11, h⟩ := bs h
  refine W.blockLoop (fun fq wq => ∃ s, res10 = Res.fin s ∧ St wd2 wq []) ?_ ?_
  · refine W.forN (fun k (s : Unit) fq wq => fq 1 = (Value.pointer (some ⟨b1, 0, none⟩)) ∧ fq 3 = v_c_Values ∧ fq 12 = (Value.int .i64 ((c_Values).length : Int)) ∧ fq 13 = Value.int .i64 (k : Int) ∧ InR .i64 (k : Int) ∧ St wd2 wq []) hres11 ⟨rfl, rfl, rfl, rfl, (inL rfl), hS8⟩ ?_ ?_
    · intro k12 s1022 ct13 f14 wd15 hk16 hb17 hI18 hbrk19 hret20
      obtain ⟨⟩ := s1022
      replace hI18 : f14 1 = (Value.pointer (some ⟨b1, 0, none⟩)) ∧ f14 3 = v_c_Values ∧ f14 12 = (Value.int .i64 ((c_Values).length : Int)) ∧ f14 13 = Value.int .i64 (k12 : Int) ∧ InR .i64 (k12 : Int) ∧ St wd2 wd15 [] := hI18
      replace hb17 : p_impl_Cocycle_fault_L1 c_Values c_Orders c_Modulus k12  = some ct13 := hb17
      unfold p_impl_Cocycle_fault_L1 at hb17
      obtain ⟨hf21, hf22, hf23, hf24, hr25, hS26⟩ := hI18
      refine W.seq (W.region ?_)
      refine WL.val (Value.bool (decide ((k12 : Int) < ((c_Values).length : Int)))) _ (op_lss hf24 hf23) rfl ?_
      have hl27 : (k12 : Int) < ((c_Values).length : Int) := by omega
      refine WL.nil ?_
      refine W.seq ?_
      refine W.condT (decide ((k12 : Int) < ((c_Values).length : Int))) rfl (decide_eq_true hl27) ?_
      refine W.skip ?_
      refine W.seq ?_
      refine W.block ?_
      refine W.seq (W.region ?_)
      refine WL.val (Value.int .i64 (k12 : Int)) _ (op_move hf24) rfl ?_
      refine WL.val (Value.int .i64 (k12 : Int)) _ (op_assign rfl) rfl ?_
      refine WL.nil ?_
      refine W.seq (W.region ?_)
      refine WL.val v_c_Values _ (op_move hf22) rfl ?_
      have hr29 := inR_len (Ty.lift _ (Ext.trans hE7 hS26.ext) r_c_Values)
      refine WL.val (Value.int .i64 ((c_Values).length : Int)) _ (op_lenL sl_23 (Ty.lift _ (Ext.trans hE7 hS26.ext) r_c_Values) rfl) rfl ?_
      refine WL.val (Value.int .i64 (0 : Int)) _ (op_move rfl) rfl ?_
      refine WL.nil ?_
      show W _ _ _ _ _ _
      obtain ⟨res30, hres31, hb17⟩ := bs hb17
      refine W.blockLoop (fun fq wq => ∃ s, res30 = Res.fin s ∧ fq 1 = (Value.pointer (some ⟨b1, 0, none⟩)) ∧ fq 3 = v_c_Values ∧ fq 12 = (Value.int .i64 ((c_Values).length : Int)) ∧ fq 13 = (Value.int .i64 (k12 : Int)) ∧ St wd2 wq []) ?_ ?_
      · refine W.forN (fun k (s : Unit) fq wq => fq 1 = (Value.pointer (some ⟨b1, 0, none⟩)) ∧ fq 3 = v_c_Values ∧ fq 4 = (Value.int .i64 (k12 : Int)) ∧ fq 12 = (Value.int .i64 ((c_Values).length : Int)) ∧ fq 13 = (Value.int .i64 (k12 : Int)) ∧ fq 17 = (Value.int .i64 ((c_Values).length : Int)) ∧ fq 18 = Value.int .i64 (k : Int) ∧ InR .i64 (k : Int) ∧ St wd2 wq []) hres31 ⟨hf21, hf22, rfl, hf23, hf24, rfl, rfl, (inL rfl), hS26⟩ ?_ ?_
        · intro k32 s996 ct33 f34 wd35 hk36 hb37 hI38 hbrk39 hret40
          obtain ⟨⟩ := s996
          replace hI38 : f34 1 = (Value.pointer (some ⟨b1, 0, none⟩)) ∧ f34 3 = v_c_Values ∧ f34 4 = (Value.int .i64 (k12 : Int)) ∧ f34 12 = (Value.int .i64 ((c_Values).length : Int)) ∧ f34 13 = (Value.int .i64 (k12 : Int)) ∧ f34 17 = (Value.int .i64 ((c_Values).length : Int)) ∧ f34 18 = Value.int .i64 (k32 : Int) ∧ InR .i64 (k32 : Int) ∧ St wd2 wd35 [] := hI38
          replace hb37 : p_impl_Cocycle_fault_L2 c_Values c_Orders c_Modulus k12 k32  = some ct33 := hb37
          unfold p_impl_Cocycle_fault_L2 at hb37
          obtain ⟨hf41, hf42, hf43, hf44, hf45, hf46, hf47, hr48, hS49⟩ := hI38
          refine W.seq (W.region ?_)
          refine WL.val (Value.bool (decide ((k32 : Int) < ((c_Values).length : Int)))) _ (op_lss hf47 hf46) rfl ?_
          have hl50 : (k32 : Int) < ((c_Values).length : Int) := by omega
          refine WL.nil ?_
          refine W.seq ?_
          refine W.condT (decide ((k32 : Int) < ((c_Values).length : Int))) rfl (decide_eq_true hl50) ?_
          refine W.skip ?_
          refine W.seq ?_
          refine W.block ?_
          refine W.seq (W.region ?_)
          refine WL.val (Value.int .i64 (k32 : Int)) _ (op_move hf47) rfl ?_
          refine WL.val (Value.int .i64 (k32 : Int)) _ (op_assign rfl) rfl ?_
          refine WL.nil ?_
          refine W.seq (W.region ?_)
          refine WL.val v_c_Values _ (op_move hf42) rfl ?_
          have hr52 := inR_len (Ty.lift _ (Ext.trans hE7 hS49.ext) r_c_Values)
          refine WL.val (Value.int .i64 ((c_Values).length : Int)) _ (op_lenL sl_23 (Ty.lift _ (Ext.trans hE7 hS49.ext) r_c_Values) rfl) rfl ?_
          refine WL.val (Value.int .i64 (0 : Int)) _ (op_move rfl) rfl ?_
          refine WL.nil ?_
          show W _ _ _ _ _ _
          obtain ⟨res53, hres54, hb37⟩ := bs hb37
          refine W.blockLoop (fun fq wq => ∃ s, res53 = Res.fin s ∧ fq 1 = (Value.pointer (some ⟨b1, 0, none⟩)) ∧ fq 3 = v_c_Values ∧ fq 4 = (Value.int .i64 (k12 : Int)) ∧ fq 12 = (Value.int .i64 ((c_Values).length : Int)) ∧ fq 13 = (Value.int .i64 (k12 : Int)) ∧ fq 17 = (Value.int .i64 ((c_Values).length : Int)) ∧ fq 18 = (Value.int .i64 (k32 : Int)) ∧ St wd2 wq []) ?_ ?_
          · refine W.forN (fun k (s : Unit) fq wq => fq 1 = (Value.pointer (some ⟨b1, 0, none⟩)) ∧ fq 3 = v_c_Values ∧ fq 4 = (Value.int .i64 (k12 : Int)) ∧ fq 5 = (Value.int .i64 (k32 : Int)) ∧ fq 12 = (Value.int .i64 ((c_Values).length : Int)) ∧ fq 13 = (Value.int .i64 (k12 : Int)) ∧ fq 17 = (Value.int .i64 ((c_Values).length : Int)) ∧ fq 18 = (Value.int .i64 (k32 : Int)) ∧ fq 22 = (Value.int .i64 ((c_Values).length : Int)) ∧ fq 23 = Value.int .i64 (k : Int) ∧ InR .i64 (k : Int) ∧ St wd2 wq []) hres54 ⟨hf41, hf42, hf43, rfl, hf44, hf45, hf46, hf47, rfl, rfl, (inL rfl), hS49⟩ ?_ ?_
            · intro k55 s964 ct56 f57 wd58 hk59 hb60 hI61 hbrk62 hret63
              obtain ⟨⟩ := s964
              replace hI61 : f57 1 = (Value.pointer (some ⟨b1, 0, none⟩)) ∧ f57 3 = v_c_Values ∧ f57 4 = (Value.int .i64 (k12 : Int)) ∧ f57 5 = (Value.int .i64 (k32 : Int)) ∧ f57 12 = (Value.int .i64 ((c_Values).length : Int)) ∧ f57 13 = (Value.int .i64 (k12 : Int)) ∧ f57 17 = (Value.int .i64 ((c_Values).length : Int)) ∧ f57 18 = (Value.int .i64 (k32 : Int)) ∧ f57 22 = (Value.int .i64 ((c_Values).length : Int)) ∧ f57 23 = Value.int .i64 (k55 : Int) ∧ InR .i64 (k55 : Int) ∧ St wd2 wd58 [] := hI61
              replace hb60 : p_impl_Cocycle_fault_L3 c_Values k32 c_Orders c_Modulus k12 k55  = some ct56 := hb60
              unfold p_impl_Cocycle_fault_L3 at hb60
              obtain ⟨hf64, hf65, hf66, hf67, hf68, hf69, hf70, hf71, hf72, hf73, hr74, hS75⟩ := hI61
              refine W.seq (W.region ?_)
              refine WL.val (Value.bool (decide ((k55 : Int) < ((c_Values).length : Int)))) _ (op_lss hf73 hf72) rfl ?_
              have hl76 : (k55 : Int) < ((c_Values).length : Int) := by omega
              refine WL.nil ?_
              refine W.seq ?_
              refine W.condT (decide ((k55 : Int) < ((c_Values).length : Int))) rfl (decide_eq_true hl76) ?_
              refine W.skip ?_
              refine W.seq ?_
              refine W.block ?_
              refine W.seq (W.region ?_)
              refine WL.val (Value.int .i64 (k55 : Int)) _ (op_move hf73) rfl ?_
              refine WL.val (Value.int .i64 (k55 : Int)) _ (op_assign rfl) rfl ?_
              refine WL.nil ?_
              refine W.seq (W.region ?_)
              refine WL.val v_c_Values _ (op_move hf65) rfl ?_
              have hr78 := inR_len (Ty.lift _ (Ext.trans hE7 hS75.ext) r_c_Values)
              refine WL.val (Value.int .i64 ((c_Values).length : Int)) _ (op_lenL sl_23 (Ty.lift _ (Ext.trans hE7 hS75.ext) r_c_Values) rfl) rfl ?_
              refine WL.val (Value.int .i64 (0 : Int)) _ (op_move rfl) rfl ?_
              refine WL.nil ?_
              show W _ _ _ _ _ _
              obtain ⟨res79, hres80, hb60⟩ := bs hb60
              refine W.blockLoop (fun fq wq => ∃ s, res79 = Res.fin s ∧ fq 1 = (Value.pointer (some ⟨b1, 0, none⟩)) ∧ fq 3 = v_c_Values ∧ fq 4 = (Value.int .i64 (k12 : Int)) ∧ fq 5 = (Value.int .i64 (k32 : Int)) ∧ fq 12 = (Value.int .i64 ((c_Values).length : Int)) ∧ fq 13 = (Value.int .i64 (k12 : Int)) ∧ fq 17 = (Value.int .i64 ((c_Values).length : Int)) ∧ fq 18 = (Value.int .i64 (k32 : Int)) ∧ fq 22 = (Value.int .i64 ((c_Values).length : Int)) ∧ fq 23 = (Value.int .i64 (k55 : Int)) ∧ St wd2 wq []) ?_ ?_
              · refine W.forN (fun k (s : Unit) fq wq => fq 1 = (Value.pointer (some ⟨b1, 0, none⟩)) ∧ fq 3 = v_c_Values ∧ fq 4 = (Value.int .i64 (k12 : Int)) ∧ fq 5 = (Value.int .i64 (k32 : Int)) ∧ fq 6 = (Value.int .i64 (k55 : Int)) ∧ fq 12 = (Value.int .i64 ((c_Values).length : Int)) ∧ fq 13 = (Value.int .i64 (k12 : Int)) ∧ fq 17 = (Value.int .i64 ((c_Values).length : Int)) ∧ fq 18 = (Value.int .i64 (k32 : Int)) ∧ fq 22 = (Value.int .i64 ((c_Values).length : Int)) ∧ fq 23 = (Value.int .i64 (k55 : Int)) ∧ fq 27 = (Value.int .i64 ((c_Values).length : Int)) ∧ fq 28 = Value.int .i64 (k : Int) ∧ InR .i64 (k : Int) ∧ St wd2 wq []) hres80 ⟨hf64, hf65, hf66, hf67, rfl, hf68, hf69, hf70, hf71, hf72, hf73, rfl, rfl, (inL rfl), hS75⟩ ?_ ?_
                · intro k81 s926 ct82 f83 wd84 hk85 hb86 hI87 hbrk88 hret89
                  obtain ⟨⟩ := s926
                  replace hI87 : f83 1 = (Value.pointer (some ⟨b1, 0, none⟩)) ∧ f83 3 = v_c_Values ∧ f83 4 = (Value.int .i64 (k12 : Int)) ∧ f83 5 = (Value.int .i64 (k32 : Int)) ∧ f83 6 = (Value.int .i64 (k55 : Int)) ∧ f83 12 = (Value.int .i64 ((c_Values).length : Int)) ∧ f83 13 = (Value.int .i64 (k12 : Int)) ∧ f83 17 = (Value.int .i64 ((c_Values).length : Int)) ∧ f83 18 = (Value.int .i64 (k32 : Int)) ∧ f83 22 = (Value.int .i64 ((c_Values).length : Int)) ∧ f83 23 = (Value.int .i64 (k55 : Int)) ∧ f83 27 = (Value.int .i64 ((c_Values).length : Int)) ∧ f83 28 = Value.int .i64 (k81 : Int) ∧ InR .i64 (k81 : Int) ∧ St wd2 wd84 [] := hI87
                  replace hb86 : p_impl_Cocycle_fault_L4 c_Values k32 k55 c_Orders c_Modulus k12 k81  = some ct82 := hb86
                  unfold p_impl_Cocycle_fault_L4 at hb86
                  obtain ⟨hf90, hf91, hf92, hf93, hf94, hf95, hf96, hf97, hf98, hf99, hf100, hf101, hf102, hr103, hS104⟩ := hI87
                  refine W.seq (W.region ?_)
                  refine WL.val (Value.bool (decide ((k81 : Int) < ((c_Values).length : Int)))) _ (op_lss hf102 hf101) rfl ?_
                  have hl105 : (k81 : Int) < ((c_Values).length : Int) := by omega
                  refine WL.nil ?_
                  refine W.seq ?_
                  refine W.condT (decide ((k81 : Int) < ((c_Values).length : Int))) rfl (decide_eq_true hl105) ?_
                  refine W.skip ?_
                  refine W.seq ?_
                  refine W.block ?_
                  refine W.seq (W.region ?_)
                  refine WL.val (Value.int .i64 (k81 : Int)) _ (op_move hf102) rfl ?_
                  refine WL.val (Value.int .i64 (k81 : Int)) _ (op_assign rfl) rfl ?_
                  refine WL.nil ?_
                  refine W.seq ?_
                  obtain ⟨x136, hx139, hb86⟩ := bs hb86
                  obtain ⟨ha137, hb138, hx139⟩ := idx_some hx139
                  obtain ⟨u150, hc151, hr152⟩ := repSl.el r_c_Values hx139
                  obtain ⟨x175, hx178, hb86⟩ := bs hb86
                  obtain ⟨ha176, hb177, hx178⟩ := idx_some hx178
                  obtain ⟨u189, hc190, hr191⟩ := repSl.el hr152 hx178
                  obtain ⟨x214, hx217, hb86⟩ := bs hb86
                  obtain ⟨ha215, hb216, hx217⟩ := idx_some hx217
                  obtain ⟨u228, hc229, hr230⟩ := repSl.el hr191 hx217
                  obtain ⟨rfl, hr230⟩ := hr230
                  obtain ⟨x280, hx281, hb86⟩ := bs hb86
                  obtain ⟨x301, hx304, hb86⟩ := bs hb86
                  obtain ⟨ha302, hb303, hx304⟩ := idx_some hx304
                  obtain ⟨u315, hc316, hr317⟩ := repSl.el r_c_Values hx304
                  obtain ⟨x340, hx343, hb86⟩ := bs hb86
                  obtain ⟨ha341, hb342, hx343⟩ := idx_some hx343
                  obtain ⟨u354, hc355, hr356⟩ := repSl.el hr317 hx343
                  obtain ⟨x379, hx382, hb86⟩ := bs hb86
                  obtain ⟨ha380, hb381, hx382⟩ := idx_some hx382
                  obtain ⟨u393, hc394, hr395⟩ := repSl.el hr356 hx382
                  obtain ⟨rfl, hr395⟩ := hr395
                  obtain ⟨x441, hx444, hb86⟩ := bs hb86
                  obtain ⟨ha442, hb443, hx444⟩ := idx_some hx444
                  obtain ⟨u455, hc456, hr457⟩ := repSl.el r_c_Values hx444
                  obtain ⟨x500, hx501, hb86⟩ := bs hb86
                  obtain ⟨x521, hx524, hb86⟩ := bs hb86
                  obtain ⟨ha522, hb523, hx524⟩ := idx_some hx524
                  obtain ⟨u535, hc536, hr537⟩ := repSl.el hr457 hx524
                  obtain ⟨x560, hx563, hb86⟩ := bs hb86
                  obtain ⟨ha561, hb562, hx563⟩ := idx_some hx563
                  obtain ⟨u574, hc575, hr576⟩ := repSl.el hr537 hx563
                  obtain ⟨rfl, hr576⟩ := hr576
                  obtain ⟨u632, hc633, hr634⟩ := repSl.el r_c_Values hx444
                  obtain ⟨x657, hx660, hb86⟩ := bs hb86
                  obtain ⟨ha658, hb659, hx660⟩ := idx_some hx660
                  obtain ⟨u671, hc672, hr673⟩ := repSl.el hr634 hx660
                  obtain ⟨x716, hx717, hb86⟩ := bs hb86
                  obtain ⟨x737, hx740, hb86⟩ := bs hb86
                  obtain ⟨ha738, hb739, hx740⟩ := idx_some hx740
                  obtain ⟨u751, hc752, hr753⟩ := repSl.el hr673 hx740
                  obtain ⟨rfl, hr753⟩ := hr753
                  obtain ⟨u809, hc810, hr811⟩ := repSl.el r_c_Values hx444
                  obtain ⟨u844, hc845, hr846⟩ := repSl.el hr811 hx660
                  obtain ⟨x869, hx872, hb86⟩ := bs hb86
                  obtain ⟨ha870, hb871, hx872⟩ := idx_some hx872
                  obtain ⟨u883, hc884, hr885⟩ := repSl.el hr846 hx872
                  obtain ⟨rfl, hr885⟩ := hr885
                  refine W.drawR mixo 62 [] [fun _ v _ _ => v = v_c_Values, fun _ v _ _ => v = (Value.int .i64 (k32 : Int)) ∧ InR .i64 (k32 : Int), fun _ v _ _ => v = (Value.pointer (some (elA v_c_Values ((k32 : Int)).toNat))), fun _ v _ _ => v = u150, fun _ v _ _ => v = (Value.int .i64 (k55 : Int)) ∧ InR .i64 (k55 : Int), fun _ v _ _ => v = (Value.pointer (some (elA u150 ((k55 : Int)).toNat))), fun _ v _ _ => v = u189, fun _ v _ _ => v = (Value.int .i64 (k81 : Int)) ∧ InR .i64 (k81 : Int), fun _ v _ _ => v = (Value.pointer (some (elA u189 ((k81 : Int)).toNat))), fun _ v _ _ => v = (Value.int .i64 x214) ∧ InR .i64 x214, fun _ v _ _ => v = v_c_Values, fun _ v S w' => v = (Value.agg #[v_c_Orders, (Value.int .i64 c_Modulus), v_c_Values]) ∧ InR .i64 c_Modulus, fun _ v _ _ => v = (Value.int .i64 (k12 : Int)) ∧ InR .i64 (k12 : Int), fun _ v _ _ => v = (Value.int .i64 (k32 : Int)) ∧ InR .i64 (k32 : Int), fun _ v _ _ => v = (Value.int .i64 x280) ∧ InR .i64 x280, fun _ v _ _ => v = (Value.pointer (some (elA v_c_Values (x280).toNat))), fun _ v _ _ => v = u315, fun _ v _ _ => v = (Value.int .i64 (k55 : Int)) ∧ InR .i64 (k55 : Int), fun _ v _ _ => v = (Value.pointer (some (elA u315 ((k55 : Int)).toNat))), fun _ v _ _ => v = u354, fun _ v _ _ => v = (Value.int .i64 (k81 : Int)) ∧ InR .i64 (k81 : Int), fun _ v _ _ => v = (Value.pointer (some (elA u354 ((k81 : Int)).toNat))), fun _ v _ _ => v = (Value.int .i64 x379) ∧ InR .i64 x379, fun _ v _ _ => v = (Value.int .i64 (w64 (x214 - x379))) ∧ InR .i64 (w64 (x214 - x379)), fun _ v _ _ => v = v_c_Values, fun _ v _ _ => v = (Value.int .i64 (k12 : Int)) ∧ InR .i64 (k12 : Int), fun _ v _ _ => v = (Value.pointer (some (elA v_c_Values ((k12 : Int)).toNat))), fun _ v _ _ => v = u455, fun _ v S w' => v = (Value.agg #[v_c_Orders, (Value.int .i64 c_Modulus), v_c_Values]) ∧ InR .i64 c_Modulus, fun _ v _ _ => v = (Value.int .i64 (k32 : Int)) ∧ InR .i64 (k32 : Int), fun _ v _ _ => v = (Value.int .i64 (k55 : Int)) ∧ InR .i64 (k55 : Int), fun _ v _ _ => v = (Value.int .i64 x500) ∧ InR .i64 x500, fun _ v _ _ => v = (Value.pointer (some (elA u455 (x500).toNat))), fun _ v _ _ => v = u535, fun _ v _ _ => v = (Value.int .i64 (k81 : Int)) ∧ InR .i64 (k81 : Int), fun _ v _ _ => v = (Value.pointer (some (elA u535 ((k81 : Int)).toNat))), fun _ v _ _ => v = (Value.int .i64 x560) ∧ InR .i64 x560, fun _ v _ _ => v = (Value.int .i64 (w64 ((w64 (x214 - x379)) + x560))) ∧ InR .i64 (w64 ((w64 (x214 - x379)) + x560)), fun _ v _ _ => v = v_c_Values, fun _ v _ _ => v = (Value.int .i64 (k12 : Int)) ∧ InR .i64 (k12 : Int), fun _ v _ _ => v = (Value.pointer (some (elA v_c_Values ((k12 : Int)).toNat))), fun _ v _ _ => v = u632, fun _ v _ _ => v = (Value.int .i64 (k32 : Int)) ∧ InR .i64 (k32 : Int), fun _ v _ _ => v = (Value.pointer (some (elA u632 ((k32 : Int)).toNat))), fun _ v _ _ => v = u671, fun _ v S w' => v = (Value.agg #[v_c_Orders, (Value.int .i64 c_Modulus), v_c_Values]) ∧ InR .i64 c_Modulus, fun _ v _ _ => v = (Value.int .i64 (k55 : Int)) ∧ InR .i64 (k55 : Int), fun _ v _ _ => v = (Value.int .i64 (k81 : Int)) ∧ InR .i64 (k81 : Int), fun _ v _ _ => v = (Value.int .i64 x716) ∧ InR .i64 x716, fun _ v _ _ => v = (Value.pointer (some (elA u671 (x716).toNat))), fun _ v _ _ => v = (Value.int .i64 x737) ∧ InR .i64 x737, fun _ v _ _ => v = (Value.int .i64 (w64 ((w64 ((w64 (x214 - x379)) + x560)) - x737))) ∧ InR .i64 (w64 ((w64 ((w64 (x214 - x379)) + x560)) - x737)), fun _ v _ _ => v = v_c_Values, fun _ v _ _ => v = (Value.int .i64 (k12 : Int)) ∧ InR .i64 (k12 : Int), fun _ v _ _ => v = (Value.pointer (some (elA v_c_Values ((k12 : Int)).toNat))), fun _ v _ _ => v = u809, fun _ v _ _ => v = (Value.int .i64 (k32 : Int)) ∧ InR .i64 (k32 : Int), fun _ v _ _ => v = (Value.pointer (some (elA u809 ((k32 : Int)).toNat))), fun _ v _ _ => v = u844, fun _ v _ _ => v = (Value.int .i64 (k55 : Int)) ∧ InR .i64 (k55 : Int), fun _ v _ _ => v = (Value.pointer (some (elA u844 ((k55 : Int)).toNat))), fun _ v _ _ => v = (Value.int .i64 x869) ∧ InR .i64 x869] (by kernel_rfl) (by kernel_rfl) ⟨pk, pk, pk, pk, pk, pk, pk, pk, pk, pk, pk, ⟨fun _ _ _ _ _ he ⟨h0, h1⟩ => ⟨h0, h1⟩, fun _ _ _ _ _ _ h => h⟩, pk, pk, pk, pk, pk, pk, pk, pk, pk, pk, pk, pk, pk, pk, pk, pk, ⟨fun _ _ _ _ _ he ⟨h0, h1⟩ => ⟨h0, h1⟩, fun _ _ _ _ _ _ h => h⟩, pk, pk, pk, pk, pk, pk, pk, pk, pk, pk, pk, pk, pk, pk, pk, pk, ⟨fun _ _ _ _ _ he ⟨h0, h1⟩ => ⟨h0, h1⟩, fun _ _ _ _ _ _ h => h⟩, pk, pk, pk, pk, pk, pk, pk, pk, pk, pk, pk, pk, pk, pk, pk, pk, trivial⟩ ⟨?_, ?_, ?_, ?_, ?_, ?_, ?_, ?_, ?_, ?_, ?_, ?_, ?_, ?_, ?_, ?_, ?_, ?_, ?_, ?_, ?_, ?_, ?_, ?_, ?_, ?_, ?_, ?_, ?_, ?_, ?_, ?_, ?_, ?_, ?_, ?_, ?_, ?_, ?_, ?_, ?_, ?_, ?_, ?_, ?_, ?_, ?_, ?_, ?_, ?_, ?_, ?_, ?_, ?_, ?_, ?_, ?_, ?_, ?_, ?_, ?_, ?_, trivial⟩ ?_
                  · refine ObX.op rfl fun f107 wd108 he109 hout110 hphi111 => ?_
                    have e113 : f107 3 = v_c_Values := (hout110 3 rfl).trans hf91
                    exact OpX.val v_c_Values wd108 rfl (op_move e113) (Ext.refl _) rfl
                  · refine ObX.op rfl fun f114 wd115 he116 hout117 hphi118 => ?_
                    have e120 : f114 5 = (Value.int .i64 (k32 : Int)) := (hout117 5 rfl).trans hf93
                    exact OpX.val (Value.int .i64 (k32 : Int)) wd115 rfl (op_move e120) (Ext.refl _) ⟨rfl, hr48⟩
                  · refine ObX.op rfl fun f121 wd122 he123 hout124 hphi125 => ?_
                    have hS126 := St.extend hS104 he123
                    obtain ⟨S127, hS128, hf129⟩ := hphi125 0 31 _ rfl rfl rfl
                    have e130 : f121 31 = v_c_Values := hf129
                    obtain ⟨S131, hS132, hf133⟩ := hphi125 1 32 _ rfl rfl rfl
                    obtain ⟨e134, hr135⟩ := hf133
                    exact OpX.val (Value.pointer (some (elA v_c_Values ((k32 : Int)).toNat))) wd122 rfl (op_idx sl_23 (Ty.lift _ (Ext.trans hE7 hS126.ext) r_c_Values) e130 e134 ha137 hb138) (Ext.refl _) rfl
                  · refine ObX.op rfl fun f140 wd141 he142 hout143 hphi144 => ?_
                    have hS145 := St.extend hS104 he142
                    obtain ⟨S146, hS147, hf148⟩ := hphi144 2 33 _ rfl rfl rfl
                    have e149 : f140 33 = (Value.pointer (some (elA v_c_Values ((k32 : Int)).toNat))) := hf148
                    exact OpX.val u150 wd141 rfl (op_load one_37 e149 (Ext.cell (Ext.trans hE7 hS145.ext) hc151)) (Ext.refl _) rfl
                  · refine ObX.op rfl fun f153 wd154 he155 hout156 hphi157 => ?_
                    have e159 : f153 6 = (Value.int .i64 (k55 : Int)) := (hout156 6 rfl).trans hf94
                    exact OpX.val (Value.int .i64 (k55 : Int)) wd154 rfl (op_move e159) (Ext.refl _) ⟨rfl, hr74⟩
                  · refine ObX.op rfl fun f160 wd161 he162 hout163 hphi164 => ?_
                    have hS165 := St.extend hS104 he162
                    obtain ⟨S166, hS167, hf168⟩ := hphi164 3 34 _ rfl rfl rfl
                    have e169 : f160 34 = u150 := hf168
                    obtain ⟨S170, hS171, hf172⟩ := hphi164 4 35 _ rfl rfl rfl
                    obtain ⟨e173, hr174⟩ := hf172
                    exact OpX.val (Value.pointer (some (elA u150 ((k55 : Int)).toNat))) wd161 rfl (op_idx sl_37 (Ty.lift _ (Ext.trans hE7 hS165.ext) hr152) e169 e173 ha176 hb177) (Ext.refl _) rfl
                  · refine ObX.op rfl fun f179 wd180 he181 hout182 hphi183 => ?_
                    have hS184 := St.extend hS104 he181
                    obtain ⟨S185, hS186, hf187⟩ := hphi183 5 36 _ rfl rfl rfl
                    have e188 : f179 36 = (Value.pointer (some (elA u150 ((k55 : Int)).toNat))) := hf187
                    exact OpX.val u189 wd180 rfl (op_load one_22 e188 (Ext.cell (Ext.trans hE7 hS184.ext) hc190)) (Ext.refl _) rfl
                  · refine ObX.op rfl fun f192 wd193 he194 hout195 hphi196 => ?_
                    have e198 : f192 7 = (Value.int .i64 (k81 : Int)) := (hout195 7 rfl).trans rfl
                    exact OpX.val (Value.int .i64 (k81 : Int)) wd193 rfl (op_move e198) (Ext.refl _) ⟨rfl, hr103⟩
                  · refine ObX.op rfl fun f199 wd200 he201 hout202 hphi203 => ?_
                    have hS204 := St.extend hS104 he201
                    obtain ⟨S205, hS206, hf207⟩ := hphi203 6 37 _ rfl rfl rfl
                    have e208 : f199 37 = u189 := hf207
                    obtain ⟨S209, hS210, hf211⟩ := hphi203 7 38 _ rfl rfl rfl
                    obtain ⟨e212, hr213⟩ := hf211
                    exact OpX.val (Value.pointer (some (elA u189 ((k81 : Int)).toNat))) wd200 rfl (op_idx sl_22 (Ty.lift _ (Ext.trans hE7 hS204.ext) hr191) e208 e212 ha215 hb216) (Ext.refl _) rfl
                  · refine ObX.op rfl fun f218 wd219 he220 hout221 hphi222 => ?_
                    have hS223 := St.extend hS104 he220
                    obtain ⟨S224, hS225, hf226⟩ := hphi222 8 39 _ rfl rfl rfl
                    have e227 : f218 39 = (Value.pointer (some (elA u189 ((k81 : Int)).toNat))) := hf226
                    exact OpX.val (Value.int .i64 x214) wd219 rfl (op_load one_2 e227 (Ext.cell (Ext.trans hE7 hS223.ext) hc229)) (Ext.refl _) ⟨rfl, hr230⟩
                  · refine ObX.op rfl fun f231 wd232 he233 hout234 hphi235 => ?_
                    have e237 : f231 3 = v_c_Values := (hout234 3 rfl).trans hf91
                    exact OpX.val v_c_Values wd232 rfl (op_move e237) (Ext.refl _) rfl
                  · refine ObX.op rfl fun f238 wd239 he240 hout241 hphi242 => ?_
                    have hS243 := St.extend hS104 he240
                    have e244 : f238 1 = (Value.pointer (some ⟨b1, 0, none⟩)) := (hout241 1 rfl).trans hf90
                    exact OpX.val (Value.agg #[v_c_Orders, (Value.int .i64 c_Modulus), v_c_Values]) wd239 rfl (op_loadBox st_29 e244 (BoxAt.lift hS243.ext hx6) rfl rfl) (Ext.refl _) ⟨rfl, r_c_Modulus⟩
                  · refine ObX.op rfl fun f245 wd246 he247 hout248 hphi249 => ?_
                    have e251 : f245 4 = (Value.int .i64 (k12 : Int)) := (hout248 4 rfl).trans hf92
                    exact OpX.val (Value.int .i64 (k12 : Int)) wd246 rfl (op_move e251) (Ext.refl _) ⟨rfl, hr25⟩
                  · refine ObX.op rfl fun f252 wd253 he254 hout255 hphi256 => ?_
                    have e258 : f252 5 = (Value.int .i64 (k32 : Int)) := (hout255 5 rfl).trans hf93
                    exact OpX.val (Value.int .i64 (k32 : Int)) wd253 rfl (op_move e258) (Ext.refl _) ⟨rfl, hr48⟩
                  · refine ObX.op rfl fun f259 wd260 he261 hout262 hphi263 => ?_
                    have hS264 := St.extend hS104 he261
                    obtain ⟨S265, hS266, hf267⟩ := hphi263 11 42 _ rfl rfl rfl
                    obtain ⟨e268, hr269⟩ := hf267
                    obtain ⟨S270, hS271, hf272⟩ := hphi263 12 43 _ rfl rfl rfl
                    obtain ⟨e273, hr274⟩ := hf272
                    obtain ⟨S275, hS276, hf277⟩ := hphi263 13 44 _ rfl rfl rfl
                    obtain ⟨e278, hr279⟩ := hf277
                    refine OpX.call rfl (op_call fn_55 (args3 e268 e273 e278)) (Ret.mono (c_impl_Cocycle_plus (Ty.lift _ (Ext.trans hE7 hS264.ext) r_c_Orders) hr269 (Ty.lift _ (Ext.trans hE7 hS264.ext) r_c_Values) hr274 hr279 hx281) ?_)
                    rintro _ wd283 ⟨rfl, hr282, he284⟩
                    exact ⟨he284, _, noS _ _, ⟨rfl, hr282⟩⟩
                  · refine ObX.op rfl fun f286 wd287 he288 hout289 hphi290 => ?_
                    have hS291 := St.extend hS104 he288
                    obtain ⟨S292, hS293, hf294⟩ := hphi290 10 41 _ rfl rfl rfl
                    have e295 : f286 41 = v_c_Values := hf294
                    obtain ⟨S296, hS297, hf298⟩ := hphi290 14 45 _ rfl rfl rfl
                    obtain ⟨e299, hr300⟩ := hf298
                    exact OpX.val (Value.pointer (some (elA v_c_Values (x280).toNat))) wd287 rfl (op_idx sl_23 (Ty.lift _ (Ext.trans hE7 hS291.ext) r_c_Values) e295 e299 ha302 hb303) (Ext.refl _) rfl
                  · refine ObX.op rfl fun f305 wd306 he307 hout308 hphi309 => ?_
                    have hS310 := St.extend hS104 he307
                    obtain ⟨S311, hS312, hf313⟩ := hphi309 15 46 _ rfl rfl rfl
                    have e314 : f305 46 = (Value.pointer (some (elA v_c_Values (x280).toNat))) := hf313
                    exact OpX.val u315 wd306 rfl (op_load one_37 e314 (Ext.cell (Ext.trans hE7 hS310.ext) hc316)) (Ext.refl _) rfl
                  · refine ObX.op rfl fun f318 wd319 he320 hout321 hphi322 => ?_
                    have e324 : f318 6 = (Value.int .i64 (k55 : Int)) := (hout321 6 rfl).trans hf94
                    exact OpX.val (Value.int .i64 (k55 : Int)) wd319 rfl (op_move e324) (Ext.refl _) ⟨rfl, hr74⟩
                  · refine ObX.op rfl fun f325 wd326 he327 hout328 hphi329 => ?_
                    have hS330 := St.extend hS104 he327
                    obtain ⟨S331, hS332, hf333⟩ := hphi329 16 47 _ rfl rfl rfl
                    have e334 : f325 47 = u315 := hf333
                    obtain ⟨S335, hS336, hf337⟩ := hphi329 17 48 _ rfl rfl rfl
                    obtain ⟨e338, hr339⟩ := hf337
                    exact OpX.val (Value.pointer (some (elA u315 ((k55 : Int)).toNat))) wd326 rfl (op_idx sl_37 (Ty.lift _ (Ext.trans hE7 hS330.ext) hr317) e334 e338 ha341 hb342) (Ext.refl _) rfl
                  · refine ObX.op rfl fun f344 wd345 he346 hout347 hphi348 => ?_
                    have hS349 := St.extend hS104 he346
                    obtain ⟨S350, hS351, hf352⟩ := hphi348 18 49 _ rfl rfl rfl
                    have e353 : f344 49 = (Value.pointer (some (elA u315 ((k55 : Int)).toNat))) := hf352
                    exact OpX.val u354 wd345 rfl (op_load one_22 e353 (Ext.cell (Ext.trans hE7 hS349.ext) hc355)) (Ext.refl _) rfl
                  · refine ObX.op rfl fun f357 wd358 he359 hout360 hphi361 => ?_
                    have e363 : f357 7 = (Value.int .i64 (k81 : Int)) := (hout360 7 rfl).trans rfl
                    exact OpX.val (Value.int .i64 (k81 : Int)) wd358 rfl (op_move e363) (Ext.refl _) ⟨rfl, hr103⟩
                  · refine ObX.op rfl fun f364 wd365 he366 hout367 hphi368 => ?_
                    have hS369 := St.extend hS104 he366
                    obtain ⟨S370, hS371, hf372⟩ := hphi368 19 50 _ rfl rfl rfl
                    have e373 : f364 50 = u354 := hf372
                    obtain ⟨S374, hS375, hf376⟩ := hphi368 20 51 _ rfl rfl rfl
                    obtain ⟨e377, hr378⟩ := hf376
                    exact OpX.val (Value.pointer (some (elA u354 ((k81 : Int)).toNat))) wd365 rfl (op_idx sl_22 (Ty.lift _ (Ext.trans hE7 hS369.ext) hr356) e373 e377 ha380 hb381) (Ext.refl _) rfl
                  · refine ObX.op rfl fun f383 wd384 he385 hout386 hphi387 => ?_
                    have hS388 := St.extend hS104 he385
                    obtain ⟨S389, hS390, hf391⟩ := hphi387 21 52 _ rfl rfl rfl
                    have e392 : f383 52 = (Value.pointer (some (elA u354 ((k81 : Int)).toNat))) := hf391
                    exact OpX.val (Value.int .i64 x379) wd384 rfl (op_load one_2 e392 (Ext.cell (Ext.trans hE7 hS388.ext) hc394)) (Ext.refl _) ⟨rfl, hr395⟩
                  · refine ObX.op rfl fun f396 wd397 he398 hout399 hphi400 => ?_
                    obtain ⟨S402, hS403, hf404⟩ := hphi400 9 40 _ rfl rfl rfl
                    obtain ⟨e405, hr406⟩ := hf404
                    obtain ⟨S407, hS408, hf409⟩ := hphi400 22 53 _ rfl rfl rfl
                    obtain ⟨e410, hr411⟩ := hf409
                    exact OpX.val (Value.int .i64 (w64 (x214 - x379))) wd397 rfl (op_sub e405 e410) (Ext.refl _) ⟨rfl, (inR_wrap _ _)⟩
                  · refine ObX.op rfl fun f412 wd413 he414 hout415 hphi416 => ?_
                    have e418 : f412 3 = v_c_Values := (hout415 3 rfl).trans hf91
                    exact OpX.val v_c_Values wd413 rfl (op_move e418) (Ext.refl _) rfl
                  · refine ObX.op rfl fun f419 wd420 he421 hout422 hphi423 => ?_
                    have e425 : f419 4 = (Value.int .i64 (k12 : Int)) := (hout422 4 rfl).trans hf92
                    exact OpX.val (Value.int .i64 (k12 : Int)) wd420 rfl (op_move e425) (Ext.refl _) ⟨rfl, hr25⟩
                  · refine ObX.op rfl fun f426 wd427 he428 hout429 hphi430 => ?_
                    have hS431 := St.extend hS104 he428
                    obtain ⟨S432, hS433, hf434⟩ := hphi430 24 55 _ rfl rfl rfl
                    have e435 : f426 55 = v_c_Values := hf434
                    obtain ⟨S436, hS437, hf438⟩ := hphi430 25 56 _ rfl rfl rfl
                    obtain ⟨e439, hr440⟩ := hf438
                    exact OpX.val (Value.pointer (some (elA v_c_Values ((k12 : Int)).toNat))) wd427 rfl (op_idx sl_23 (Ty.lift _ (Ext.trans hE7 hS431.ext) r_c_Values) e435 e439 ha442 hb443) (Ext.refl _) rfl
                  · refine ObX.op rfl fun f445 wd446 he447 hout448 hphi449 => ?_
                    have hS450 := St.extend hS104 he447
                    obtain ⟨S451, hS452, hf453⟩ := hphi449 26 57 _ rfl rfl rfl
                    have e454 : f445 57 = (Value.pointer (some (elA v_c_Values ((k12 : Int)).toNat))) := hf453
                    exact OpX.val u455 wd446 rfl (op_load one_37 e454 (Ext.cell (Ext.trans hE7 hS450.ext) hc456)) (Ext.refl _) rfl
                  · refine ObX.op rfl fun f458 wd459 he460 hout461 hphi462 => ?_
                    have hS463 := St.extend hS104 he460
                    have e464 : f458 1 = (Value.pointer (some ⟨b1, 0, none⟩)) := (hout461 1 rfl).trans hf90
                    exact OpX.val (Value.agg #[v_c_Orders, (Value.int .i64 c_Modulus), v_c_Values]) wd459 rfl (op_loadBox st_29 e464 (BoxAt.lift hS463.ext hx6) rfl rfl) (Ext.refl _) ⟨rfl, r_c_Modulus⟩
                  · refine ObX.op rfl fun f465 wd466 he467 hout468 hphi469 => ?_
                    have e471 : f465 5 = (Value.int .i64 (k32 : Int)) := (hout468 5 rfl).trans hf93
                    exact OpX.val (Value.int .i64 (k32 : Int)) wd466 rfl (op_move e471) (Ext.refl _) ⟨rfl, hr48⟩
                  · refine ObX.op rfl fun f472 wd473 he474 hout475 hphi476 => ?_
                    have e478 : f472 6 = (Value.int .i64 (k55 : Int)) := (hout475 6 rfl).trans hf94
                    exact OpX.val (Value.int .i64 (k55 : Int)) wd473 rfl (op_move e478) (Ext.refl _) ⟨rfl, hr74⟩
                  · refine ObX.op rfl fun f479 wd480 he481 hout482 hphi483 => ?_
                    have hS484 := St.extend hS104 he481
                    obtain ⟨S485, hS486, hf487⟩ := hphi483 28 59 _ rfl rfl rfl
                    obtain ⟨e488, hr489⟩ := hf487
                    obtain ⟨S490, hS491, hf492⟩ := hphi483 29 60 _ rfl rfl rfl
                    obtain ⟨e493, hr494⟩ := hf492
                    obtain ⟨S495, hS496, hf497⟩ := hphi483 30 61 _ rfl rfl rfl
                    obtain ⟨e498, hr499⟩ := hf497
                    refine OpX.call rfl (op_call fn_55 (args3 e488 e493 e498)) (Ret.mono (c_impl_Cocycle_plus (Ty.lift _ (Ext.trans hE7 hS484.ext) r_c_Orders) hr489 (Ty.lift _ (Ext.trans hE7 hS484.ext) r_c_Values) hr494 hr499 hx501) ?_)
                    rintro _ wd503 ⟨rfl, hr502, he504⟩
                    exact ⟨he504, _, noS _ _, ⟨rfl, hr502⟩⟩
                  · refine ObX.op rfl fun f506 wd507 he508 hout509 hphi510 => ?_
                    have hS511 := St.extend hS104 he508
                    obtain ⟨S512, hS513, hf514⟩ := hphi510 27 58 _ rfl rfl rfl
                    have e515 : f506 58 = u455 := hf514
                    obtain ⟨S516, hS517, hf518⟩ := hphi510 31 62 _ rfl rfl rfl
                    obtain ⟨e519, hr520⟩ := hf518
                    exact OpX.val (Value.pointer (some (elA u455 (x500).toNat))) wd507 rfl (op_idx sl_37 (Ty.lift _ (Ext.trans hE7 hS511.ext) hr457) e515 e519 ha522 hb523) (Ext.refl _) rfl
                  · refine ObX.op rfl fun f525 wd526 he527 hout528 hphi529 => ?_
                    have hS530 := St.extend hS104 he527
                    obtain ⟨S531, hS532, hf533⟩ := hphi529 32 63 _ rfl rfl rfl
                    have e534 : f525 63 = (Value.pointer (some (elA u455 (x500).toNat))) := hf533
                    exact OpX.val u535 wd526 rfl (op_load one_22 e534 (Ext.cell (Ext.trans hE7 hS530.ext) hc536)) (Ext.refl _) rfl
                  · refine ObX.op rfl fun f538 wd539 he540 hout541 hphi542 => ?_
                    have e544 : f538 7 = (Value.int .i64 (k81 : Int)) := (hout541 7 rfl).trans rfl
                    exact OpX.val (Value.int .i64 (k81 : Int)) wd539 rfl (op_move e544) (Ext.refl _) ⟨rfl, hr103⟩
                  · refine ObX.op rfl fun f545 wd546 he547 hout548 hphi549 => ?_
                    have hS550 := St.extend hS104 he547
                    obtain ⟨S551, hS552, hf553⟩ := hphi549 33 64 _ rfl rfl rfl
                    have e554 : f545 64 = u535 := hf553
                    obtain ⟨S555, hS556, hf557⟩ := hphi549 34 65 _ rfl rfl rfl
                    obtain ⟨e558, hr559⟩ := hf557
                    exact OpX.val (Value.pointer (some (elA u535 ((k81 : Int)).toNat))) wd546 rfl (op_idx sl_22 (Ty.lift _ (Ext.trans hE7 hS550.ext) hr537) e554 e558 ha561 hb562) (Ext.refl _) rfl
                  · refine ObX.op rfl fun f564 wd565 he566 hout567 hphi568 => ?_
                    have hS569 := St.extend hS104 he566
                    obtain ⟨S570, hS571, hf572⟩ := hphi568 35 66 _ rfl rfl rfl
                    have e573 : f564 66 = (Value.pointer (some (elA u535 ((k81 : Int)).toNat))) := hf572
                    exact OpX.val (Value.int .i64 x560) wd565 rfl (op_load one_2 e573 (Ext.cell (Ext.trans hE7 hS569.ext) hc575)) (Ext.refl _) ⟨rfl, hr576⟩
                  · refine ObX.op rfl fun f577 wd578 he579 hout580 hphi581 => ?_
                    obtain ⟨S583, hS584, hf585⟩ := hphi581 23 54 _ rfl rfl rfl
                    obtain ⟨e586, hr587⟩ := hf585
                    obtain ⟨S588, hS589, hf590⟩ := hphi581 36 67 _ rfl rfl rfl
                    obtain ⟨e591, hr592⟩ := hf590
                    exact OpX.val (Value.int .i64 (w64 ((w64 (x214 - x379)) + x560))) wd578 rfl (op_add e586 e591) (Ext.refl _) ⟨rfl, (inR_wrap _ _)⟩
                  · refine ObX.op rfl fun f593 wd594 he595 hout596 hphi597 => ?_
                    have e599 : f593 3 = v_c_Values := (hout596 3 rfl).trans hf91
                    exact OpX.val v_c_Values wd594 rfl (op_move e599) (Ext.refl _) rfl
                  · refine ObX.op rfl fun f600 wd601 he602 hout603 hphi604 => ?_
                    have e606 : f600 4 = (Value.int .i64 (k12 : Int)) := (hout603 4 rfl).trans hf92
                    exact OpX.val (Value.int .i64 (k12 : Int)) wd601 rfl (op_move e606) (Ext.refl _) ⟨rfl, hr25⟩
                  · refine ObX.op rfl fun f607 wd608 he609 hout610 hphi611 => ?_
                    have hS612 := St.extend hS104 he609
                    obtain ⟨S613, hS614, hf615⟩ := hphi611 38 69 _ rfl rfl rfl
                    have e616 : f607 69 = v_c_Values := hf615
                    obtain ⟨S617, hS618, hf619⟩ := hphi611 39 70 _ rfl rfl rfl
                    obtain ⟨e620, hr621⟩ := hf619
                    exact OpX.val (Value.pointer (some (elA v_c_Values ((k12 : Int)).toNat))) wd608 rfl (op_idx sl_23 (Ty.lift _ (Ext.trans hE7 hS612.ext) r_c_Values) e616 e620 ha442 hb443) (Ext.refl _) rfl
                  · refine ObX.op rfl fun f622 wd623 he624 hout625 hphi626 => ?_
                    have hS627 := St.extend hS104 he624
                    obtain ⟨S628, hS629, hf630⟩ := hphi626 40 71 _ rfl rfl rfl
                    have e631 : f622 71 = (Value.pointer (some (elA v_c_Values ((k12 : Int)).toNat))) := hf630
                    exact OpX.val u632 wd623 rfl (op_load one_37 e631 (Ext.cell (Ext.trans hE7 hS627.ext) hc633)) (Ext.refl _) rfl
                  · refine ObX.op rfl fun f635 wd636 he637 hout638 hphi639 => ?_
                    have e641 : f635 5 = (Value.int .i64 (k32 : Int)) := (hout638 5 rfl).trans hf93
                    exact OpX.val (Value.int .i64 (k32 : Int)) wd636 rfl (op_move e641) (Ext.refl _) ⟨rfl, hr48⟩
                  · refine ObX.op rfl fun f642 wd643 he644 hout645 hphi646 => ?_
                    have hS647 := St.extend hS104 he644
                    obtain ⟨S648, hS649, hf650⟩ := hphi646 41 72 _ rfl rfl rfl
                    have e651 : f642 72 = u632 := hf650
                    obtain ⟨S652, hS653, hf654⟩ := hphi646 42 73 _ rfl rfl rfl
                    obtain ⟨e655, hr656⟩ := hf654
                    exact OpX.val (Value.pointer (some (elA u632 ((k32 : Int)).toNat))) wd643 rfl (op_idx sl_37 (Ty.lift _ (Ext.trans hE7 hS647.ext) hr634) e651 e655 ha658 hb659) (Ext.refl _) rfl
                  · refine ObX.op rfl fun f661 wd662 he663 hout664 hphi665 => ?_
                    have hS666 := St.extend hS104 he663
                    obtain ⟨S667, hS668, hf669⟩ := hphi665 43 74 _ rfl rfl rfl
                    have e670 : f661 74 = (Value.pointer (some (elA u632 ((k32 : Int)).toNat))) := hf669
                    exact OpX.val u671 wd662 rfl (op_load one_22 e670 (Ext.cell (Ext.trans hE7 hS666.ext) hc672)) (Ext.refl _) rfl
                  · refine ObX.op rfl fun f674 wd675 he676 hout677 hphi678 => ?_
                    have hS679 := St.extend hS104 he676
                    have e680 : f674 1 = (Value.pointer (some ⟨b1, 0, none⟩)) := (hout677 1 rfl).trans hf90
                    exact OpX.val (Value.agg #[v_c_Orders, (Value.int .i64 c_Modulus), v_c_Values]) wd675 rfl (op_loadBox st_29 e680 (BoxAt.lift hS679.ext hx6) rfl rfl) (Ext.refl _) ⟨rfl, r_c_Modulus⟩
                  · refine ObX.op rfl fun f681 wd682 he683 hout684 hphi685 => ?_
                    have e687 : f681 6 = (Value.int .i64 (k55 : Int)) := (hout684 6 rfl).trans hf94
                    exact OpX.val (Value.int .i64 (k55 : Int)) wd682 rfl (op_move e687) (Ext.refl _) ⟨rfl, hr74⟩
                  · refine ObX.op rfl fun f688 wd689 he690 hout691 hphi692 => ?_
                    have e694 : f688 7 = (Value.int .i64 (k81 : Int)) := (hout691 7 rfl).trans rfl
                    exact OpX.val (Value.int .i64 (k81 : Int)) wd689 rfl (op_move e694) (Ext.refl _) ⟨rfl, hr103⟩
                  · refine ObX.op rfl fun f695 wd696 he697 hout698 hphi699 => ?_
                    have hS700 := St.extend hS104 he697
                    obtain ⟨S701, hS702, hf703⟩ := hphi699 45 76 _ rfl rfl rfl
                    obtain ⟨e704, hr705⟩ := hf703
                    obtain ⟨S706, hS707, hf708⟩ := hphi699 46 77 _ rfl rfl rfl
                    obtain ⟨e709, hr710⟩ := hf708
                    obtain ⟨S711, hS712, hf713⟩ := hphi699 47 78 _ rfl rfl rfl
                    obtain ⟨e714, hr715⟩ := hf713
                    refine OpX.call rfl (op_call fn_55 (args3 e704 e709 e714)) (Ret.mono (c_impl_Cocycle_plus (Ty.lift _ (Ext.trans hE7 hS700.ext) r_c_Orders) hr705 (Ty.lift _ (Ext.trans hE7 hS700.ext) r_c_Values) hr710 hr715 hx717) ?_)
                    rintro _ wd719 ⟨rfl, hr718, he720⟩
                    exact ⟨he720, _, noS _ _, ⟨rfl, hr718⟩⟩
                  · refine ObX.op rfl fun f722 wd723 he724 hout725 hphi726 => ?_
                    have hS727 := St.extend hS104 he724
                    obtain ⟨S728, hS729, hf730⟩ := hphi726 44 75 _ rfl rfl rfl
                    have e731 : f722 75 = u671 := hf730
                    obtain ⟨S732, hS733, hf734⟩ := hphi726 48 79 _ rfl rfl rfl
                    obtain ⟨e735, hr736⟩ := hf734
                    exact OpX.val (Value.pointer (some (elA u671 (x716).toNat))) wd723 rfl (op_idx sl_22 (Ty.lift _ (Ext.trans hE7 hS727.ext) hr673) e731 e735 ha738 hb739) (Ext.refl _) rfl
                  · refine ObX.op rfl fun f741 wd742 he743 hout744 hphi745 => ?_
                    have hS746 := St.extend hS104 he743
                    obtain ⟨S747, hS748, hf749⟩ := hphi745 49 80 _ rfl rfl rfl
                    have e750 : f741 80 = (Value.pointer (some (elA u671 (x716).toNat))) := hf749
                    exact OpX.val (Value.int .i64 x737) wd742 rfl (op_load one_2 e750 (Ext.cell (Ext.trans hE7 hS746.ext) hc752)) (Ext.refl _) ⟨rfl, hr753⟩
                  · refine ObX.op rfl fun f754 wd755 he756 hout757 hphi758 => ?_
                    obtain ⟨S760, hS761, hf762⟩ := hphi758 37 68 _ rfl rfl rfl
                    obtain ⟨e763, hr764⟩ := hf762
                    obtain ⟨S765, hS766, hf767⟩ := hphi758 50 81 _ rfl rfl rfl
                    obtain ⟨e768, hr769⟩ := hf767
                    exact OpX.val (Value.int .i64 (w64 ((w64 ((w64 (x214 - x379)) + x560)) - x737))) wd755 rfl (op_sub e763 e768) (Ext.refl _) ⟨rfl, (inR_wrap _ _)⟩
                  · refine ObX.op rfl fun f770 wd771 he772 hout773 hphi774 => ?_
                    have e776 : f770 3 = v_c_Values := (hout773 3 rfl).trans hf91
                    exact OpX.val v_c_Values wd771 rfl (op_move e776) (Ext.refl _) rfl
                  · refine ObX.op rfl fun f777 wd778 he779 hout780 hphi781 => ?_
                    have e783 : f777 4 = (Value.int .i64 (k12 : Int)) := (hout780 4 rfl).trans hf92
                    exact OpX.val (Value.int .i64 (k12 : Int)) wd778 rfl (op_move e783) (Ext.refl _) ⟨rfl, hr25⟩
                  · refine ObX.op rfl fun f784 wd785 he786 hout787 hphi788 => ?_
                    have hS789 := St.extend hS104 he786
                    obtain ⟨S790, hS791, hf792⟩ := hphi788 52 83 _ rfl rfl rfl
                    have e793 : f784 83 = v_c_Values := hf792
                    obtain ⟨S794, hS795, hf796⟩ := hphi788 53 84 _ rfl rfl rfl
                    obtain ⟨e797, hr798⟩ := hf796
                    exact OpX.val (Value.pointer (some (elA v_c_Values ((k12 : Int)).toNat))) wd785 rfl (op_idx sl_23 (Ty.lift _ (Ext.trans hE7 hS789.ext) r_c_Values) e793 e797 ha442 hb443) (Ext.refl _) rfl
                  · refine ObX.op rfl fun f799 wd800 he801 hout802 hphi803 => ?_
                    have hS804 := St.extend hS104 he801
                    obtain ⟨S805, hS806, hf807⟩ := hphi803 54 85 _ rfl rfl rfl
                    have e808 : f799 85 = (Value.pointer (some (elA v_c_Values ((k12 : Int)).toNat))) := hf807
                    exact OpX.val u809 wd800 rfl (op_load one_37 e808 (Ext.cell (Ext.trans hE7 hS804.ext) hc810)) (Ext.refl _) rfl
                  · refine ObX.op rfl fun f812 wd813 he814 hout815 hphi816 => ?_
                    have e818 : f812 5 = (Value.int .i64 (k32 : Int)) := (hout815 5 rfl).trans hf93
                    exact OpX.val (Value.int .i64 (k32 : Int)) wd813 rfl (op_move e818) (Ext.refl _) ⟨rfl, hr48⟩
                  · refine ObX.op rfl fun f819 wd820 he821 hout822 hphi823 => ?_
                    have hS824 := St.extend hS104 he821
                    obtain ⟨S825, hS826, hf827⟩ := hphi823 55 86 _ rfl rfl rfl
                    have e828 : f819 86 = u809 := hf827
                    obtain ⟨S829, hS830, hf831⟩ := hphi823 56 87 _ rfl rfl rfl
                    obtain ⟨e832, hr833⟩ := hf831
                    exact OpX.val (Value.pointer (some (elA u809 ((k32 : Int)).toNat))) wd820 rfl (op_idx sl_37 (Ty.lift _ (Ext.trans hE7 hS824.ext) hr811) e828 e832 ha658 hb659) (Ext.refl _) rfl
                  · refine ObX.op rfl fun f834 wd835 he836 hout837 hphi838 => ?_
                    have hS839 := St.extend hS104 he836
                    obtain ⟨S840, hS841, hf842⟩ := hphi838 57 88 _ rfl rfl rfl
                    have e843 : f834 88 = (Value.pointer (some (elA u809 ((k32 : Int)).toNat))) := hf842
                    exact OpX.val u844 wd835 rfl (op_load one_22 e843 (Ext.cell (Ext.trans hE7 hS839.ext) hc845)) (Ext.refl _) rfl
                  · refine ObX.op rfl fun f847 wd848 he849 hout850 hphi851 => ?_
                    have e853 : f847 6 = (Value.int .i64 (k55 : Int)) := (hout850 6 rfl).trans hf94
                    exact OpX.val (Value.int .i64 (k55 : Int)) wd848 rfl (op_move e853) (Ext.refl _) ⟨rfl, hr74⟩
                  · refine ObX.op rfl fun f854 wd855 he856 hout857 hphi858 => ?_
                    have hS859 := St.extend hS104 he856
                    obtain ⟨S860, hS861, hf862⟩ := hphi858 58 89 _ rfl rfl rfl
                    have e863 : f854 89 = u844 := hf862
                    obtain ⟨S864, hS865, hf866⟩ := hphi858 59 90 _ rfl rfl rfl
                    obtain ⟨e867, hr868⟩ := hf866
                    exact OpX.val (Value.pointer (some (elA u844 ((k55 : Int)).toNat))) wd855 rfl (op_idx sl_22 (Ty.lift _ (Ext.trans hE7 hS859.ext) hr846) e863 e867 ha870 hb871) (Ext.refl _) rfl
                  · refine ObX.op rfl fun f873 wd874 he875 hout876 hphi877 => ?_
                    have hS878 := St.extend hS104 he875
                    obtain ⟨S879, hS880, hf881⟩ := hphi877 60 91 _ rfl rfl rfl
                    have e882 : f873 91 = (Value.pointer (some (elA u844 ((k55 : Int)).toNat))) := hf881
                    exact OpX.val (Value.int .i64 x869) wd874 rfl (op_load one_2 e882 (Ext.cell (Ext.trans hE7 hS878.ext) hc884)) (Ext.refl _) ⟨rfl, hr885⟩
                  · intro f886 wd887 Ss888 he889 hout890 hSn891 hSd892 hphi893
                    show WL _ _ _ _ _ _ _
                    have hS894 := St.extend hS104 he889
                    obtain ⟨e895, hr896⟩ := hphi893 51 82 _ (by decide) rfl rfl
                    obtain ⟨e897, hr898⟩ := hphi893 61 92 _ (by decide) rfl rfl
                    have e899 : f886 1 = (Value.pointer (some ⟨b1, 0, none⟩)) := (hout890 1 rfl).trans hf90
                    have e900 : f886 3 = v_c_Values := (hout890 3 rfl).trans hf91
                    have e901 : f886 4 = (Value.int .i64 (k12 : Int)) := (hout890 4 rfl).trans hf92
                    have e902 : f886 5 = (Value.int .i64 (k32 : Int)) := (hout890 5 rfl).trans hf93
                    have e903 : f886 6 = (Value.int .i64 (k55 : Int)) := (hout890 6 rfl).trans hf94
                    have e904 : f886 7 = (Value.int .i64 (k81 : Int)) := (hout890 7 rfl).trans rfl
                    have e905 : f886 12 = (Value.int .i64 ((c_Values).length : Int)) := (hout890 12 rfl).trans hf95
                    have e906 : f886 13 = (Value.int .i64 (k12 : Int)) := (hout890 13 rfl).trans hf96
                    have e907 : f886 17 = (Value.int .i64 ((c_Values).length : Int)) := (hout890 17 rfl).trans hf97
                    have e908 : f886 18 = (Value.int .i64 (k32 : Int)) := (hout890 18 rfl).trans hf98
                    have e909 : f886 22 = (Value.int .i64 ((c_Values).length : Int)) := (hout890 22 rfl).trans hf99
                    have e910 : f886 23 = (Value.int .i64 (k55 : Int)) := (hout890 23 rfl).trans hf100
                    have e911 : f886 27 = (Value.int .i64 ((c_Values).length : Int)) := (hout890 27 rfl).trans hf101
                    have e912 : f886 28 = (Value.int .i64 (k81 : Int)) := (hout890 28 rfl).trans hf102
                    refine WL.val (Value.int .i64 (w64 ((w64 ((w64 ((w64 (x214 - x379)) + x560)) - x737)) + x869))) _ (op_add e895 e897) rfl ?_
                    refine WL.val (Value.int .i64 (w64 ((w64 ((w64 ((w64 (x214 - x379)) + x560)) - x737)) + x869))) _ (op_assign rfl) rfl ?_
                    refine WL.nil ?_
                    refine W.seq (W.region ?_)
                    refine WL.val (Value.agg #[v_c_Orders, (Value.int .i64 c_Modulus), v_c_Values]) _ (op_loadBox st_29 e899 (BoxAt.lift hS894.ext hx6) rfl rfl) rfl ?_
                    refine WL.val (Value.int .i64 (w64 ((w64 ((w64 ((w64 (x214 - x379)) + x560)) - x737)) + x869))) _ (op_move rfl) rfl ?_
                    obtain ⟨x913, hx914, hb86⟩ := bs hb86
                    refine WL.call _ (op_call fn_56 (args2 rfl rfl)) (c_impl_Cocycle_rest (Ty.lift _ (Ext.trans hE7 hS894.ext) r_c_Orders) r_c_Modulus (Ty.lift _ (Ext.trans hE7 hS894.ext) r_c_Values) (inR_wrap _ _) hx914) rfl ?_
                    rintro _ wd916 ⟨rfl, hr915, he917⟩
                    have hS919 := St.extend hS894 he917
                    replace hS919 : St wd2 wd916 [] := hS919
                    refine WL.val (Value.bool (x913 != (0 : Int))) _ (op_neq rfl rfl) rfl ?_
                    refine WL.nil ?_
                    refine W.cond (x913 != (0 : Int)) rfl (fun hc920 => ?_) (fun hc920 => ?_)
                    · replace hb86 := ip hb86 hc920
                      refine W.seq (W.region ?_)
                      refine WL.val (Value.int .i64 (k12 : Int)) _ (op_move e901) rfl ?_
                      refine WL.val (Value.int .i64 (k32 : Int)) _ (op_move e902) rfl ?_
                      refine WL.val (Value.int .i64 (k55 : Int)) _ (op_move e903) rfl ?_
                      refine WL.val (Value.int .i64 (k81 : Int)) _ (op_move e904) rfl ?_
                      refine WL.litFlat (t := (Ty.i .i64)) (flat_i .i64) [(Value.int .i64 (k12 : Int)), (Value.int .i64 (k32 : Int)), (Value.int .i64 (k55 : Int)), (Value.int .i64 (k81 : Int))] [(k12 : Int), (k32 : Int), (k55 : Int), (k81 : Int)] hS919 sl_22 rfl rfl (fillL rfl ⟨rfl, rfl, rfl, rfl, rfl, rfl, rfl, rfl, rfl, rfl, rfl, rfl, trivial⟩) rfl rfl (litL ⟨⟨rfl, hr25⟩, ⟨rfl, hr48⟩, ⟨rfl, hr74⟩, ⟨rfl, hr103⟩, trivial⟩) rfl ?_
                      intro u922 wd923 hS924 he925
                      replace hS924 : St wd2 wd923 [(Ty.sl (Ty.i .i64)).at u922 ([(k12 : Int), (k32 : Int), (k55 : Int), (k81 : Int)] : (List Int))] := hS924
                      refine WL.val u922 _ (op_assign rfl) rfl ?_
                      refine WL.nil ?_
                      refine W.ret ?_
                      obtain rfl := Option.some.inj hb86
                      obtain rfl := hret89 _ rfl
                      replace hb60 := onRes_ret hb60
                      obtain rfl := Option.some.inj hb60
                      obtain rfl := hret63 _ rfl
                      replace hb37 := onRes_ret hb37
                      obtain rfl := Option.some.inj hb37
                      obtain rfl := hret40 _ rfl
                      replace hb17 := onRes_ret hb17
                      obtain rfl := Option.some.inj hb17
                      obtain rfl := hret20 _ rfl
                      replace h := onRes_ret h
                      obtain rfl := Option.some.inj h
                      show FinP _ _ _ _ _ _ _
                      exact FinP.ret _ (res1 rfl rfl) ⟨u922, rfl, (nil_cons), (Ext.trans hE7 hS924.ext), (St.out (St.pick hS924 [0] rfl) (hE7))⟩
                    · replace hb86 := inegb hb86 hc920
                      refine W.skip ?_
                      show W _ _ _ _ _ _
                      refine W.region ?_
                      refine WL.val (Value.int .i64 (w64 ((k81 : Int) + (1 : Int)))) _ (op_add e912 rfl) rfl ?_
                      refine WL.val (Value.int .i64 (w64 ((k81 : Int) + (1 : Int)))) _ (op_move rfl) rfl ?_
                      refine WL.nil ?_
                      obtain rfl := Option.some.inj hb86
                      show ∃ s, _ = Ctl.next s ∧ _
                      exact ⟨_, rfl, e899, e900, e901, e902, e903, e905, e906, e907, e908, e909, e910, e911, (ctr_next hl105 hr78), (ctr_rng hl105 hr78), hS919⟩
                · intro s931 f927 wd928 hs929 hI930
                  obtain ⟨⟩ := s931
                  replace hI930 : f927 1 = (Value.pointer (some ⟨b1, 0, none⟩)) ∧ f927 3 = v_c_Values ∧ f927 4 = (Value.int .i64 (k12 : Int)) ∧ f927 5 = (Value.int .i64 (k32 : Int)) ∧ f927 6 = (Value.int .i64 (k55 : Int)) ∧ f927 12 = (Value.int .i64 ((c_Values).length : Int)) ∧ f927 13 = (Value.int .i64 (k12 : Int)) ∧ f927 17 = (Value.int .i64 ((c_Values).length : Int)) ∧ f927 18 = (Value.int .i64 (k32 : Int)) ∧ f927 22 = (Value.int .i64 ((c_Values).length : Int)) ∧ f927 23 = (Value.int .i64 (k55 : Int)) ∧ f927 27 = (Value.int .i64 ((c_Values).length : Int)) ∧ f927 28 = Value.int .i64 (((c_Values).length : Nat) : Int) ∧ InR .i64 (((c_Values).length : Nat) : Int) ∧ St wd2 wd928 [] := hI930
                  obtain ⟨hf932, hf933, hf934, hf935, hf936, hf937, hf938, hf939, hf940, hf941, hf942, hf943, hf944, hr945, hS946⟩ := hI930
                  refine W.seq (W.region ?_)
                  refine WL.val (Value.bool (decide ((((c_Values).length : Nat) : Int) < ((c_Values).length : Int)))) _ (op_lss hf944 hf943) rfl ?_
                  have hl947 : ¬ (((c_Values).length : Nat) : Int) < ((c_Values).length : Int) := by omega
                  refine WL.nil ?_
                  refine W.seq ?_
                  refine W.condF (decide ((((c_Values).length : Nat) : Int) < ((c_Values).length : Int))) rfl (decide_eq_false hl947) ?_
                  refine W.exit ?_
                  show _ = _ ∧ _
                  exact ⟨rfl, _, hs929, hf932, hf933, hf934, hf935, hf937, hf938, hf939, hf940, hf941, hf942, hS946⟩
              · rintro f948 wd949 ⟨s951, rfl, hq950⟩
                replace hb60 := onRes_fin hb60
                obtain ⟨⟩ := s951
                replace hq950 : f948 1 = (Value.pointer (some ⟨b1, 0, none⟩)) ∧ f948 3 = v_c_Values ∧ f948 4 = (Value.int .i64 (k12 : Int)) ∧ f948 5 = (Value.int .i64 (k32 : Int)) ∧ f948 12 = (Value.int .i64 ((c_Values).length : Int)) ∧ f948 13 = (Value.int .i64 (k12 : Int)) ∧ f948 17 = (Value.int .i64 ((c_Values).length : Int)) ∧ f948 18 = (Value.int .i64 (k32 : Int)) ∧ f948 22 = (Value.int .i64 ((c_Values).length : Int)) ∧ f948 23 = (Value.int .i64 (k55 : Int)) ∧ St wd2 wd949 [] := hq950
                obtain ⟨hf952, hf953, hf954, hf955, hf956, hf957, hf958, hf959, hf960, hf961, hS962⟩ := hq950
                show W _ _ _ _ _ _
                refine W.region ?_
                refine WL.val (Value.int .i64 (w64 ((k55 : Int) + (1 : Int)))) _ (op_add hf961 rfl) rfl ?_
                refine WL.val (Value.int .i64 (w64 ((k55 : Int) + (1 : Int)))) _ (op_move rfl) rfl ?_
                refine WL.nil ?_
                obtain rfl := Option.some.inj hb60
                show ∃ s, _ = Ctl.next s ∧ _
                exact ⟨_, rfl, hf952, hf953, hf954, hf955, hf956, hf957, hf958, hf959, hf960, (ctr_next hl76 hr52), (ctr_rng hl76 hr52), hS962⟩
            · intro s969 f965 wd966 hs967 hI968
              obtain ⟨⟩ := s969
              replace hI968 : f965 1 = (Value.pointer (some ⟨b1, 0, none⟩)) ∧ f965 3 = v_c_Values ∧ f965 4 = (Value.int .i64 (k12 : Int)) ∧ f965 5 = (Value.int .i64 (k32 : Int)) ∧ f965 12 = (Value.int .i64 ((c_Values).length : Int)) ∧ f965 13 = (Value.int .i64 (k12 : Int)) ∧ f965 17 = (Value.int .i64 ((c_Values).length : Int)) ∧ f965 18 = (Value.int .i64 (k32 : Int)) ∧ f965 22 = (Value.int .i64 ((c_Values).length : Int)) ∧ f965 23 = Value.int .i64 (((c_Values).length : Nat) : Int) ∧ InR .i64 (((c_Values).length : Nat) : Int) ∧ St wd2 wd966 [] := hI968
              obtain ⟨hf970, hf971, hf972, hf973, hf974, hf975, hf976, hf977, hf978, hf979, hr980, hS981⟩ := hI968
              refine W.seq (W.region ?_)
              refine WL.val (Value.bool (decide ((((c_Values).length : Nat) : Int) < ((c_Values).length : Int)))) _ (op_lss hf979 hf978) rfl ?_
              have hl982 : ¬ (((c_Values).length : Nat) : Int) < ((c_Values).length : Int) := by omega
              refine WL.nil ?_
              refine W.seq ?_
              refine W.condF (decide ((((c_Values).length : Nat) : Int) < ((c_Values).length : Int))) rfl (decide_eq_false hl982) ?_
              refine W.exit ?_
              show _ = _ ∧ _
              exact ⟨rfl, _, hs967, hf970, hf971, hf972, hf974, hf975, hf976, hf977, hS981⟩
          · rintro f983 wd984 ⟨s986, rfl, hq985⟩
            replace hb37 := onRes_fin hb37
            obtain ⟨⟩ := s986
            replace hq985 : f983 1 = (Value.pointer (some ⟨b1, 0, none⟩)) ∧ f983 3 = v_c_Values ∧ f983 4 = (Value.int .i64 (k12 : Int)) ∧ f983 12 = (Value.int .i64 ((c_Values).length : Int)) ∧ f983 13 = (Value.int .i64 (k12 : Int)) ∧ f983 17 = (Value.int .i64 ((c_Values).length : Int)) ∧ f983 18 = (Value.int .i64 (k32 : Int)) ∧ St wd2 wd984 [] := hq985
            obtain ⟨hf987, hf988, hf989, hf990, hf991, hf992, hf993, hS994⟩ := hq985
            show W _ _ _ _ _ _
            refine W.region ?_
            refine WL.val (Value.int .i64 (w64 ((k32 : Int) + (1 : Int)))) _ (op_add hf993 rfl) rfl ?_
            refine WL.val (Value.int .i64 (w64 ((k32 : Int) + (1 : Int)))) _ (op_move rfl) rfl ?_
            refine WL.nil ?_
            obtain rfl := Option.some.inj hb37
            show ∃ s, _ = Ctl.next s ∧ _
            exact ⟨_, rfl, hf987, hf988, hf989, hf990, hf991, hf992, (ctr_next hl50 hr29), (ctr_rng hl50 hr29), hS994⟩
        · intro s1001 f997 wd998 hs999 hI1000
          obtain ⟨⟩ := s1001
          replace hI1000 : f997 1 = (Value.pointer (some ⟨b1, 0, none⟩)) ∧ f997 3 = v_c_Values ∧ f997 4 = (Value.int .i64 (k12 : Int)) ∧ f997 12 = (Value.int .i64 ((c_Values).length : Int)) ∧ f997 13 = (Value.int .i64 (k12 : Int)) ∧ f997 17 = (Value.int .i64 ((c_Values).length : Int)) ∧ f997 18 = Value.int .i64 (((c_Values).length : Nat) : Int) ∧ InR .i64 (((c_Values).length : Nat) : Int) ∧ St wd2 wd998 [] := hI1000
          obtain ⟨hf1002, hf1003, hf1004, hf1005, hf1006, hf1007, hf1008, hr1009, hS1010⟩ := hI1000
          refine W.seq (W.region ?_)
          refine WL.val (Value.bool (decide ((((c_Values).length : Nat) : Int) < ((c_Values).length : Int)))) _ (op_lss hf1008 hf1007) rfl ?_
          have hl1011 : ¬ (((c_Values).length : Nat) : Int) < ((c_Values).length : Int) := by omega
          refine WL.nil ?_
          refine W.seq ?_
          refine W.condF (decide ((((c_Values).length : Nat) : Int) < ((c_Values).length : Int))) rfl (decide_eq_false hl1011) ?_
          refine W.exit ?_
          show _ = _ ∧ _
          exact ⟨rfl, _, hs999, hf1002, hf1003, hf1005, hf1006, hS1010⟩
      · rintro f1012 wd1013 ⟨s1015, rfl, hq1014⟩
        replace hb17 := onRes_fin hb17
        obtain ⟨⟩ := s1015
        replace hq1014 : f1012 1 = (Value.pointer (some ⟨b1, 0, none⟩)) ∧ f1012 3 = v_c_Values ∧ f1012 12 = (Value.int .i64 ((c_Values).length : Int)) ∧ f1012 13 = (Value.int .i64 (k12 : Int)) ∧ St wd2 wd1013 [] := hq1014
        obtain ⟨hf1016, hf1017, hf1018, hf1019, hS1020⟩ := hq1014
        show W _ _ _ _ _ _
        refine W.region ?_
        refine WL.val (Value.int .i64 (w64 ((k12 : Int) + (1 : Int)))) _ (op_add hf1019 rfl) rfl ?_
        refine WL.val (Value.int .i64 (w64 ((k12 : Int) + (1 : Int)))) _ (op_move rfl) rfl ?_
        refine WL.nil ?_
        obtain rfl := Option.some.inj hb17
        show ∃ s, _ = Ctl.next s ∧ _
        exact ⟨_, rfl, hf1016, hf1017, hf1018, (ctr_next hl27 hr9), (ctr_rng hl27 hr9), hS1020⟩
    · intro s1027 f1023 wd1024 hs1025 hI1026
      obtain ⟨⟩ := s1027
      replace hI1026 : f1023 1 = (Value.pointer (some ⟨b1, 0, none⟩)) ∧ f1023 3 = v_c_Values ∧ f1023 12 = (Value.int .i64 ((c_Values).length : Int)) ∧ f1023 13 = Value.int .i64 (((c_Values).length : Nat) : Int) ∧ InR .i64 (((c_Values).length : Nat) : Int) ∧ St wd2 wd1024 [] := hI1026
      obtain ⟨hf1028, hf1029, hf1030, hf1031, hr1032, hS1033⟩ := hI1026
      refine W.seq (W.region ?_)
      refine WL.val (Value.bool (decide ((((c_Values).length : Nat) : Int) < ((c_Values).length : Int)))) _ (op_lss hf1031 hf1030) rfl ?_
      have hl1034 : ¬ (((c_Values).length : Nat) : Int) < ((c_Values).length : Int) := by omega
      refine WL.nil ?_
      refine W.seq ?_
      refine W.condF (decide ((((c_Values).length : Nat) : Int) < ((c_Values).length : Int))) rfl (decide_eq_false hl1034) ?_
      refine W.exit ?_
      show _ = _ ∧ _
      exact ⟨rfl, _, hs1025, hS1033⟩
  · rintro f1035 wd1036 ⟨s1038, rfl, hq1037⟩
    replace h := onRes_fin h
    obtain ⟨⟩ := s1038
    replace hq1037 : St wd2 wd1036 [] := hq1037
    have hS1039 := hq1037
    refine W.seq (W.region ?_)
    refine WL.val (Value.slice none 0 0) _ (op_assign rfl) rfl ?_
    refine WL.nil ?_
    refine W.ret ?_
    obtain rfl := Option.some.inj h
    show FinP _ _ _ _ _ _ _
    exact FinP.ret _ (res1 rfl rfl) ⟨(Value.slice none 0 0), rfl, (fun _ => ⟨0, 0, rfl⟩), (Ext.trans hE7 hS1039.ext), (St.out (St.pick (St.addNil (Ty.i .i64) hS1039) [0] rfl) (hE7))⟩

theorem c_impl_IsCocycle {w : World} {c_Orders : (List Int)} {v_c_Orders : Value} {c_Modulus : Int} {c_Values : (List (List (List Int)))} {v_c_Values : Value} (r_c_Orders : (Ty.sl (Ty.i .i64)).rep w v_c_Orders c_Orders) (r_c_Modulus : InR .i64 c_Modulus) (r_c_Values : (Ty.sl (Ty.sl (Ty.sl (Ty.i .i64)))).rep w v_c_Values c_Values) {res : Bool} (h : p_impl_IsCocycle c_Orders c_Modulus c_Values  = some res) :
    Ret Try.prog 18 #[(Value.agg #[v_c_Orders, (Value.int .i64 c_Modulus), v_c_Values])] w (fun v w' => v = Value.bool res ∧ Ext w w') := by
  unfold p_impl_IsCocycle at h
  have hS0 : St w w [] := St.start w
  refine Ret.start (fn := Try.f18) Try.func18 rfl 14 rfl rfl ?_
  refine W.seq (W.region ?_)
  refine WL.box hS0 rfl (cs := [v_c_Orders, (Value.int .i64 c_Modulus), v_c_Values]) rfl rfl ?_
  intro b1 wd2 hS3 he4 hx5
  replace hS3 : St w wd2 [bx b1 [v_c_Orders, (Value.int .i64 c_Modulus), v_c_Values]] := hS3
  have hx6 := St.boxAt hS3 0 rfl
  have hE7 : Ext w wd2 := hS3.ext
  have hS8 : St wd2 wd2 [] := St.start wd2
  refine WL.val (Value.bool false) _ (op_assign rfl) rfl ?_
  refine WL.nil ?_
  refine W.seq (W.region ?_)
  refine WL.val (Value.agg #[v_c_Orders, (Value.int .i64 c_Modulus), v_c_Values]) _ (op_loadBox st_29 rfl (BoxAt.lift hS8.ext hx6) rfl rfl) rfl ?_
  obtain ⟨x9, hx10, h⟩ := bs h
  refine WL.call _ (op_call fn_34 (args1 rfl)) (c_impl_isCochain (Ty.lift _ (Ext.trans hE7 hS8.ext) r_c_Orders) r_c_Modulus (Ty.lift _ (Ext.trans hE7 hS8.ext) r_c_Values) hx10) rfl ?_
  rintro _ wd11 ⟨rfl, he12⟩
  have hS14 := St.extend hS8 he12
  replace hS14 : St wd2 wd11 [] := hS14
  refine WL.val (Value.bool x9) _ (op_move rfl) rfl ?_
  obtain ⟨x16, hj17, h⟩ := bs h
  refine WL.cut 3 (fun fq wq => fq 1 = (Value.pointer (some ⟨b1, 0, none⟩)) ∧ fq 8 = Value.bool x16 ∧ St wd2 wq []) ?_ ?_
  · rcases Bool.eq_false_or_eq_true x9 with hc15 | hc15
    · replace hj17 := ip hj17 hc15
      refine WL.grun rfl (bool_of rfl hc15) ?_
      refine WL.val (Value.agg #[v_c_Orders, (Value.int .i64 c_Modulus), v_c_Values]) _ (op_loadBox st_29 rfl (BoxAt.lift hS14.ext hx6) rfl rfl) rfl ?_
      refine WL.grun rfl (bool_of rfl hc15) ?_
      obtain ⟨x21, hx22, hj17⟩ := bs hj17
      refine WL.call _ (op_call fn_35 (args1 rfl)) (c_impl_Cocycle_isNormalised (Ty.lift _ (Ext.trans hE7 hS14.ext) r_c_Orders) r_c_Modulus (Ty.lift _ (Ext.trans hE7 hS14.ext) r_c_Values) hx22) rfl ?_
      rintro _ wd23 ⟨rfl, he24⟩
      have hS26 := St.extend hS14 he24
      replace hS26 : St wd2 wd23 [] := hS26
      refine WL.val (Value.bool x21) _ (op_pick_t (evb_of rfl hc15) rfl) rfl ?_
      refine WL.nil ?_
      obtain rfl := Option.some.inj hj17
      exact ⟨rfl, rfl, rfl, hS26⟩
    · replace hj17 := inegb hj17 hc15
      refine WL.gskip rfl (bool_of rfl hc15) rfl ?_
      refine WL.gskip rfl (bool_of rfl hc15) rfl ?_
      refine WL.val (Value.bool false) _ (op_pick_f (evb_of rfl hc15) rfl) rfl ?_
      refine WL.nil ?_
      obtain rfl := Option.some.inj hj17
      exact ⟨rfl, rfl, rfl, hS14⟩
  · intro f18 wd19 hq20
    obtain ⟨hf27, hf28, hS29⟩ := hq20
    refine WL.val (Value.bool x16) _ (op_move hf28) rfl ?_
    obtain ⟨x31, hj32, h⟩ := bs h
    refine WL.cut 4 (fun fq wq => fq 13 = Value.bool x31 ∧ St wd2 wq []) ?_ ?_
    · rcases Bool.eq_false_or_eq_true x16 with hc30 | hc30
      · replace hj32 := ip hj32 hc30
        refine WL.grun rfl (bool_of rfl hc30) ?_
        refine WL.val (Value.agg #[v_c_Orders, (Value.int .i64 c_Modulus), v_c_Values]) _ (op_loadBox st_29 hf27 (BoxAt.lift hS29.ext hx6) rfl rfl) rfl ?_
        refine WL.grun rfl (bool_of rfl hc30) ?_
        obtain ⟨x36, hx37, hj32⟩ := bs hj32
        refine WL.call _ (op_call fn_36 (args1 rfl)) (c_impl_Cocycle_fault (Ty.lift _ (Ext.trans hE7 hS29.ext) r_c_Orders) r_c_Modulus (Ty.lift _ (Ext.trans hE7 hS29.ext) r_c_Values) hx37) rfl ?_
        rintro u38 wd40 ⟨_, rfl, hn39, he41, hs42⟩
        have hS43 := St.join hS29 he41 hs42
        replace hS43 : St wd2 wd40 [(Ty.sl (Ty.i .i64)).at u38 x36] := hS43
        refine WL.grun rfl (bool_of rfl hc30) ?_
        refine WL.val (Value.bool (x36).isEmpty) _ (op_eqlNilL sl_22 (St.rep (t := (Ty.sl (Ty.i .i64))) hS43 0 rfl) hn39 rfl rfl) rfl ?_
        refine WL.val (Value.bool (x36).isEmpty) _ (op_pick_t (evb_of rfl hc30) rfl) rfl ?_
        refine WL.nil ?_
        obtain rfl := Option.some.inj hj32
        exact ⟨rfl, rfl, (St.pick hS43 [] rfl)⟩
      · replace hj32 := inegb hj32 hc30
        refine WL.gskip rfl (bool_of rfl hc30) rfl ?_
        refine WL.gskip rfl (bool_of rfl hc30) rfl ?_
        refine WL.gskip rfl (bool_of rfl hc30) rfl ?_
        refine WL.val (Value.bool false) _ (op_pick_f (evb_of rfl hc30) rfl) rfl ?_
        refine WL.nil ?_
        obtain rfl := Option.some.inj hj32
        exact ⟨rfl, rfl, hS29⟩
    · intro f33 wd34 hq35
      obtain ⟨hf44, hS45⟩ := hq35
      refine WL.val (Value.bool x31) _ (op_assign hf44) rfl ?_
      refine WL.nil ?_
      refine W.ret ?_
      obtain rfl := Option.some.inj h
      show FinP _ _ _ _ _ _ _
      exact FinP.ret _ (res1 rfl rfl) ⟨rfl, (Ext.trans hE7 hS45.ext)⟩

theorem c_impl_isSmallPrime {w : World} {p : Int} (r_p : InR .i64 p) {res : Bool} (h : p_impl_isSmallPrime p  = some res) :
    Ret Try.prog 19 #[(Value.int .i64 p)] w (fun v w' => v = Value.bool res ∧ Ext w w') := by
  unfold p_impl_isSmallPrime at h
  have hS0 : St w w [] := St.start w
  refine Ret.start (fn := Try.f19) Try.func19 rfl 17 rfl rfl ?_
  refine W.seq (W.region ?_)
  refine WL.val (Value.bool false) _ (op_assign rfl) rfl ?_
  refine WL.nil ?_
  refine W.seq (W.region ?_)
  refine WL.val (Value.int .i64 p) _ (op_move rfl) rfl ?_
  refine WL.val (Value.bool (p == (2 : Int))) _ (op_eql rfl rfl) rfl ?_
  refine WL.val (Value.bool (p == (2 : Int))) _ (op_move rfl) rfl ?_
  refine WL.cut 3 (fun fq wq => fq 0 = (Value.int .i64 p) ∧ fq 8 = (Value.bool ((p == (2 : Int)) || (p == (3 : Int)))) ∧ St w wq []) ?_ ?_
  · rcases Bool.eq_false_or_eq_true (p == (2 : Int)) with hc1 | hc1
    · refine WL.gskip rfl (bool_of rfl hc1) rfl ?_
      refine WL.gskip rfl (bool_of rfl hc1) rfl ?_
      refine WL.val (Value.bool true) _ (op_pick_t (evb_of rfl hc1) rfl) rfl ?_
      refine WL.nil ?_
      exact ⟨rfl, rfl, (orT hc1), hS0⟩
    · refine WL.grun rfl (bool_of rfl hc1) ?_
      refine WL.val (Value.int .i64 p) _ (op_move rfl) rfl ?_
      refine WL.grun rfl (bool_of rfl hc1) ?_
      refine WL.val (Value.bool (p == (3 : Int))) _ (op_eql rfl rfl) rfl ?_
      refine WL.val (Value.bool (p == (3 : Int))) _ (op_pick_f (evb_of rfl hc1) rfl) rfl ?_
      refine WL.nil ?_
      exact ⟨rfl, rfl, (orF hc1), hS0⟩
  · intro f2 wd3 hq4
    obtain ⟨hf5, hf6, hS7⟩ := hq4
    refine WL.val (Value.bool ((p == (2 : Int)) || (p == (3 : Int)))) _ (op_move hf6) rfl ?_
    refine WL.cut 3 (fun fq wq => fq 0 = (Value.int .i64 p) ∧ fq 12 = (Value.bool (((p == (2 : Int)) || (p == (3 : Int))) || (p == (5 : Int)))) ∧ St w wq []) ?_ ?_
    · rcases Bool.eq_false_or_eq_true ((p == (2 : Int)) || (p == (3 : Int))) with hc8 | hc8
      · refine WL.gskip rfl (bool_of rfl hc8) rfl ?_
        refine WL.gskip rfl (bool_of rfl hc8) rfl ?_
        refine WL.val (Value.bool true) _ (op_pick_t (evb_of rfl hc8) rfl) rfl ?_
        refine WL.nil ?_
        exact ⟨rfl, hf5, (orT hc8), hS7⟩
      · refine WL.grun rfl (bool_of rfl hc8) ?_
        refine WL.val (Value.int .i64 p) _ (op_move hf5) rfl ?_
        refine WL.grun rfl (bool_of rfl hc8) ?_
        refine WL.val (Value.bool (p == (5 : Int))) _ (op_eql rfl rfl) rfl ?_
        refine WL.val (Value.bool (p == (5 : Int))) _ (op_pick_f (evb_of rfl hc8) rfl) rfl ?_
        refine WL.nil ?_
        exact ⟨rfl, hf5, (orF hc8), hS7⟩
    · intro f9 wd10 hq11
      obtain ⟨hf12, hf13, hS14⟩ := hq11
      refine WL.val (Value.bool (((p == (2 : Int)) || (p == (3 : Int))) || (p == (5 : Int)))) _ (op_move hf13) rfl ?_
      refine WL.cut 3 (fun fq wq => fq 16 = (Value.bool ((((p == (2 : Int)) || (p == (3 : Int))) || (p == (5 : Int))) || (p == (7 : Int)))) ∧ St w wq []) ?_ ?_
      · rcases Bool.eq_false_or_eq_true (((p == (2 : Int)) || (p == (3 : Int))) || (p == (5 : Int))) with hc15 | hc15
        · refine WL.gskip rfl (bool_of rfl hc15) rfl ?_
          refine WL.gskip rfl (bool_of rfl hc15) rfl ?_
          refine WL.val (Value.bool true) _ (op_pick_t (evb_of rfl hc15) rfl) rfl ?_
          refine WL.nil ?_
          exact ⟨rfl, (orT hc15), hS14⟩
        · refine WL.grun rfl (bool_of rfl hc15) ?_
          refine WL.val (Value.int .i64 p) _ (op_move hf12) rfl ?_
          refine WL.grun rfl (bool_of rfl hc15) ?_
          refine WL.val (Value.bool (p == (7 : Int))) _ (op_eql rfl rfl) rfl ?_
          refine WL.val (Value.bool (p == (7 : Int))) _ (op_pick_f (evb_of rfl hc15) rfl) rfl ?_
          refine WL.nil ?_
          exact ⟨rfl, (orF hc15), hS14⟩
      · intro f16 wd17 hq18
        obtain ⟨hf19, hS20⟩ := hq18
        refine WL.val (Value.bool ((((p == (2 : Int)) || (p == (3 : Int))) || (p == (5 : Int))) || (p == (7 : Int)))) _ (op_assign hf19) rfl ?_
        refine WL.nil ?_
        refine W.ret ?_
        obtain rfl := Option.some.inj h
        show FinP _ _ _ _ _ _ _
        exact FinP.ret _ (res1 rfl rfl) ⟨rfl, hS20.ext⟩

theorem c_impl_zeros {w : World} {rows : Int} {columns : Int} (r_rows : InR .i64 rows) (r_columns : InR .i64 columns) {res : (List (List Int))} (h : p_impl_zeros rows columns  = some res) :
    Ret Try.prog 38 #[(Value.int .i64 rows), (Value.int .i64 columns)] w (fun v w' => ∃ (u0 : Value), v = u0 ∧ Ext w w' ∧ Sep w.heap.size w' [(Ty.sl (Ty.sl (Ty.i .i64))).at u0 res]) := by
  unfold p_impl_zeros at h
  have hS0 : St w w [] := St.start w
  refine Ret.start (fn := Try.f38) Try.func38 rfl 17 rfl rfl ?_
  refine W.seq (W.region ?_)
  refine WL.val (Value.slice none 0 0) _ (op_assign rfl) rfl ?_
  refine WL.nil ?_
  refine W.seq (W.region ?_)
  refine WL.lit0 (t := (Ty.sl (Ty.i .i64))) hS0 sl_37 rfl rfl ?_
  intro u1 wd2 hS3 he4
  replace hS3 : St w wd2 [(Ty.sl (Ty.sl (Ty.i .i64))).at u1 ([] : (List (List Int)))] := hS3
  refine WL.val u1 _ (op_assign rfl) rfl ?_
  refine WL.nil ?_
  refine W.seq (W.seq (W.region ?_))
  refine WL.val (Value.int .i64 rows) _ (op_move rfl) rfl ?_
  refine WL.val (Value.int .i64 (0 : Int)) _ (op_move rfl) rfl ?_
  refine WL.nil ?_
  show W _ _ _ _ _ _
  obtain ⟨res5, hres6, h⟩ := bs h
  refine W.blockLoop (fun fq wq => ∃ s, res5 = Res.fin s ∧ ∃ (uu0 : Value), fq 5 = uu0 ∧ St w wq [(Ty.sl (Ty.sl (Ty.i .i64))).at uu0 s]) ?_ ?_
  · refine W.forN (fun k (s : (List (List Int))) fq wq => ∃ (uu0 : Value), fq 1 = (Value.int .i64 columns) ∧ fq 5 = uu0 ∧ fq 7 = (Value.int .i64 rows) ∧ fq 8 = Value.int .i64 (k : Int) ∧ InR .i64 (k : Int) ∧ St w wq [(Ty.sl (Ty.sl (Ty.i .i64))).at uu0 s]) hres6 ⟨u1, rfl, rfl, rfl, rfl, (inL rfl), hS3⟩ ?_ ?_
    · intro k7 x8 ct9 f10 wd11 hk12 hb13 hI14 hbrk15 hret16
      replace hI14 : ∃ (uu0 : Value), f10 1 = (Value.int .i64 columns) ∧ f10 5 = uu0 ∧ f10 7 = (Value.int .i64 rows) ∧ f10 8 = Value.int .i64 (k7 : Int) ∧ InR .i64 (k7 : Int) ∧ St w wd11 [(Ty.sl (Ty.sl (Ty.i .i64))).at uu0 x8] := hI14
      replace hb13 : p_impl_zeros_L1 columns k7 x8 = some ct9 := hb13
      unfold p_impl_zeros_L1 at hb13
      obtain ⟨u17, hf18, hf19, hf20, hf21, hr22, hS23⟩ := hI14
      refine W.seq (W.region ?_)
      refine WL.val (Value.bool (decide ((k7 : Int) < rows))) _ (op_lss hf21 hf20) rfl ?_
      have hl24 : (k7 : Int) < rows := by omega
      refine WL.nil ?_
      refine W.seq ?_
      refine W.condT (decide ((k7 : Int) < rows)) rfl (decide_eq_true hl24) ?_
      refine W.skip ?_
      refine W.seq ?_
      refine W.block ?_
      refine W.region ?_
      refine WL.val u17 _ (op_move hf19) rfl ?_
      refine WL.val (Value.int .i64 columns) _ (op_move hf18) rfl ?_
      obtain ⟨x26, hx27, hb13⟩ := bs hb13
      refine WL.make (t := (Ty.i .i64)) hS23 sl_22 (fun _ _ => ⟨rfl, (inL rfl)⟩) rfl rfl hx27 rfl rfl ?_
      intro u28 wd29 hS30 he31
      replace hS30 : St w wd29 [(Ty.sl (Ty.sl (Ty.i .i64))).at u17 x8, (Ty.sl (Ty.i .i64)).at u28 x26] := hS30
      refine WL.lit [u28] hS30 sl_37 rfl rfl (fillL rfl ⟨rfl, rfl, (cells_rep (St.rep (t := (Ty.sl (Ty.i .i64))) hS30 1 rfl)), trivial⟩) rfl rfl ?_
      intro b36 wd33 hS34 he35 hx37
      replace hS34 : St w wd33 [(Ty.sl (Ty.sl (Ty.i .i64))).at u17 x8, (Ty.sl (Ty.i .i64)).at u28 x26, bx b36 [u28]] := hS34
      obtain ⟨x38, hx39, hb13⟩ := bs hb13
      refine WL.appendRow hS34 (k := 0) (k2 := 1) (k3 := 2) rfl rfl rfl rfl sl_37 rfl rfl rfl rfl hx39 rfl ?_
      intro u40 wd41 hS42 hz43
      replace hS42 : St w wd41 [(Ty.sl (Ty.sl (Ty.i .i64))).at u40 x38, emp, bx b36 [u28]] := hS42
      refine WL.val u40 _ (op_assign rfl) rfl ?_
      refine WL.nil ?_
      show W _ _ _ _ _ _
      refine W.region ?_
      refine WL.val (Value.int .i64 (w64 ((k7 : Int) + (1 : Int)))) _ (op_add hf21 rfl) rfl ?_
      refine WL.val (Value.int .i64 (w64 ((k7 : Int) + (1 : Int)))) _ (op_move rfl) rfl ?_
      refine WL.nil ?_
      obtain rfl := Option.some.inj hb13
      show ∃ s, _ = Ctl.next s ∧ _
      exact ⟨_, rfl, u40, hf18, rfl, hf20, (ctr_next hl24 r_rows), (ctr_rng hl24 r_rows), (St.pick hS42 [0] rfl)⟩
    · intro x50 f45 wd46 hs47 hI48
      replace hI48 : ∃ (uu0 : Value), f45 1 = (Value.int .i64 columns) ∧ f45 5 = uu0 ∧ f45 7 = (Value.int .i64 rows) ∧ f45 8 = Value.int .i64 (((rows).toNat : Nat) : Int) ∧ InR .i64 (((rows).toNat : Nat) : Int) ∧ St w wd46 [(Ty.sl (Ty.sl (Ty.i .i64))).at uu0 x50] := hI48
      obtain ⟨u51, hf52, hf53, hf54, hf55, hr56, hS57⟩ := hI48
      refine W.seq (W.region ?_)
      refine WL.val (Value.bool (decide ((((rows).toNat : Nat) : Int) < rows))) _ (op_lss hf55 hf54) rfl ?_
      have hl58 : ¬ (((rows).toNat : Nat) : Int) < rows := by omega
      refine WL.nil ?_
      refine W.seq ?_
      refine W.condF (decide ((((rows).toNat : Nat) : Int) < rows)) rfl (decide_eq_false hl58) ?_
      refine W.exit ?_
      show _ = _ ∧ _
      exact ⟨rfl, _, hs47, u51, hf53, hS57⟩
  · rintro f59 wd60 ⟨x63, rfl, hq61⟩
    replace h := onRes_fin h
    replace hq61 : ∃ (uu0 : Value), f59 5 = uu0 ∧ St w wd60 [(Ty.sl (Ty.sl (Ty.i .i64))).at uu0 x63] := hq61
    obtain ⟨u64, hf65, hS66⟩ := hq61
    refine W.seq (W.region ?_)
    refine WL.val u64 _ (op_move hf65) rfl ?_
    refine WL.val u64 _ (op_assign rfl) rfl ?_
    refine WL.nil ?_
    refine W.ret ?_
    obtain rfl := Option.some.inj h
    show FinP _ _ _ _ _ _ _
    exact FinP.ret _ (res1 rfl rfl) ⟨u64, rfl, hS66.ext, (St.out (St.pick hS66 [0] rfl) (Ext.refl _))⟩

theorem c_impl_coboundary_c1 {w : World} {x : Int} {y : Int} {z : Int} {b_c0 : Nat} {c0 : (List (List Int))} {v_c0 : Value} {b_c1 : Nat} {c1_Orders : (List Int)} {v_c1_Orders : Value} {c1_Modulus : Int} {c1_Values : (List (List (List Int)))} {v_c1_Values : Value} (r_x : InR .i64 x) (r_y : InR .i64 y) (r_z : InR .i64 z) (k_c0 : BoxAt w b_c0 [v_c0]) (r_c0 : (Ty.sl (Ty.sl (Ty.i .i64))).rep w v_c0 c0) (k_c1 : BoxAt w b_c1 [v_c1_Orders, (Value.int .i64 c1_Modulus), v_c1_Values]) (r_c1_Orders : (Ty.sl (Ty.i .i64)).rep w v_c1_Orders c1_Orders) (r_c1_Modulus : InR .i64 c1_Modulus) (r_c1_Values : (Ty.sl (Ty.sl (Ty.sl (Ty.i .i64)))).rep w v_c1_Values c1_Values) {res : Int} (h : p_impl_coboundary_c1 x y z c0 c1_Orders c1_Modulus c1_Values = some res) :
    Ret Try.prog 58 #[(Value.int .i64 x), (Value.int .i64 y), (Value.int .i64 z), (Value.pointer (some ⟨b_c0, 0, none⟩)), (Value.pointer (some ⟨b_c1, 0, none⟩))] w (fun v w' => v = Value.int .i64 res ∧ InR .i64 res ∧ Ext w w') := by
  unfold p_impl_coboundary_c1 at h
  have hS0 : St w w [] := St.start w
  refine Ret.start (fn := Try.f58) Try.func58 rfl 46 rfl rfl ?_
  refine W.seq (W.region ?_)
  refine WL.val (Value.int .i64 (0 : Int)) _ (op_assign rfl) rfl ?_
  refine WL.nil ?_
  refine W.seq ?_
  obtain ⟨x30, hx33, h⟩ := bs h
  obtain ⟨ha31, hb32, hx33⟩ := idx_some hx33
  obtain ⟨u44, hc45, hr46⟩ := repSl.el r_c0 hx33
  obtain ⟨x69, hx72, h⟩ := bs h
  obtain ⟨ha70, hb71, hx72⟩ := idx_some hx72
  obtain ⟨u83, hc84, hr85⟩ := repSl.el hr46 hx72
  obtain ⟨rfl, hr85⟩ := hr85
  obtain ⟨x135, hx136, h⟩ := bs h
  obtain ⟨x156, hx159, h⟩ := bs h
  obtain ⟨ha157, hb158, hx159⟩ := idx_some hx159
  obtain ⟨u170, hc171, hr172⟩ := repSl.el r_c0 hx159
  obtain ⟨x195, hx198, h⟩ := bs h
  obtain ⟨ha196, hb197, hx198⟩ := idx_some hx198
  obtain ⟨u209, hc210, hr211⟩ := repSl.el hr172 hx198
  obtain ⟨rfl, hr211⟩ := hr211
  obtain ⟨x257, hx260, h⟩ := bs h
  obtain ⟨ha258, hb259, hx260⟩ := idx_some hx260
  obtain ⟨u271, hc272, hr273⟩ := repSl.el r_c0 hx260
  obtain ⟨x316, hx317, h⟩ := bs h
  obtain ⟨x337, hx340, h⟩ := bs h
  obtain ⟨ha338, hb339, hx340⟩ := idx_some hx340
  obtain ⟨u351, hc352, hr353⟩ := repSl.el hr273 hx340
  obtain ⟨rfl, hr353⟩ := hr353
  obtain ⟨u409, hc410, hr411⟩ := repSl.el r_c0 hx260
  obtain ⟨x434, hx437, h⟩ := bs h
  obtain ⟨ha435, hb436, hx437⟩ := idx_some hx437
  obtain ⟨u448, hc449, hr450⟩ := repSl.el hr411 hx437
  obtain ⟨rfl, hr450⟩ := hr450
  refine W.drawR mixo 36 [] [fun _ v _ _ => v = v_c0, fun _ v _ _ => v = (Value.int .i64 y) ∧ InR .i64 y, fun _ v _ _ => v = (Value.pointer (some (elA v_c0 (y).toNat))), fun _ v _ _ => v = u44, fun _ v _ _ => v = (Value.int .i64 z) ∧ InR .i64 z, fun _ v _ _ => v = (Value.pointer (some (elA u44 (z).toNat))), fun _ v _ _ => v = (Value.int .i64 x69) ∧ InR .i64 x69, fun _ v _ _ => v = v_c0, fun _ v S w' => v = (Value.agg #[v_c1_Orders, (Value.int .i64 c1_Modulus), v_c1_Values]) ∧ InR .i64 c1_Modulus, fun _ v _ _ => v = (Value.int .i64 x) ∧ InR .i64 x, fun _ v _ _ => v = (Value.int .i64 y) ∧ InR .i64 y, fun _ v _ _ => v = (Value.int .i64 x135) ∧ InR .i64 x135, fun _ v _ _ => v = (Value.pointer (some (elA v_c0 (x135).toNat))), fun _ v _ _ => v = u170, fun _ v _ _ => v = (Value.int .i64 z) ∧ InR .i64 z, fun _ v _ _ => v = (Value.pointer (some (elA u170 (z).toNat))), fun _ v _ _ => v = (Value.int .i64 x195) ∧ InR .i64 x195, fun _ v _ _ => v = (Value.int .i64 (w64 (x69 - x195))) ∧ InR .i64 (w64 (x69 - x195)), fun _ v _ _ => v = v_c0, fun _ v _ _ => v = (Value.int .i64 x) ∧ InR .i64 x, fun _ v _ _ => v = (Value.pointer (some (elA v_c0 (x).toNat))), fun _ v _ _ => v = u271, fun _ v S w' => v = (Value.agg #[v_c1_Orders, (Value.int .i64 c1_Modulus), v_c1_Values]) ∧ InR .i64 c1_Modulus, fun _ v _ _ => v = (Value.int .i64 y) ∧ InR .i64 y, fun _ v _ _ => v = (Value.int .i64 z) ∧ InR .i64 z, fun _ v _ _ => v = (Value.int .i64 x316) ∧ InR .i64 x316, fun _ v _ _ => v = (Value.pointer (some (elA u271 (x316).toNat))), fun _ v _ _ => v = (Value.int .i64 x337) ∧ InR .i64 x337, fun _ v _ _ => v = (Value.int .i64 (w64 ((w64 (x69 - x195)) + x337))) ∧ InR .i64 (w64 ((w64 (x69 - x195)) + x337)), fun _ v _ _ => v = v_c0, fun _ v _ _ => v = (Value.int .i64 x) ∧ InR .i64 x, fun _ v _ _ => v = (Value.pointer (some (elA v_c0 (x).toNat))), fun _ v _ _ => v = u409, fun _ v _ _ => v = (Value.int .i64 y) ∧ InR .i64 y, fun _ v _ _ => v = (Value.pointer (some (elA u409 (y).toNat))), fun _ v _ _ => v = (Value.int .i64 x434) ∧ InR .i64 x434] (by kernel_rfl) (by kernel_rfl) ⟨pk, pk, pk, pk, pk, pk, pk, pk, ⟨fun _ _ _ _ _ he ⟨h0, h1⟩ => ⟨h0, h1⟩, fun _ _ _ _ _ _ h => h⟩, pk, pk, pk, pk, pk, pk, pk, pk, pk, pk, pk, pk, pk, ⟨fun _ _ _ _ _ he ⟨h0, h1⟩ => ⟨h0, h1⟩, fun _ _ _ _ _ _ h => h⟩, pk, pk, pk, pk, pk, pk, pk, pk, pk, pk, pk, pk, pk, trivial⟩ ⟨?_, ?_, ?_, ?_, ?_, ?_, ?_, ?_, ?_, ?_, ?_, ?_, ?_, ?_, ?_, ?_, ?_, ?_, ?_, ?_, ?_, ?_, ?_, ?_, ?_, ?_, ?_, ?_, ?_, ?_, ?_, ?_, ?_, ?_, ?_, ?_, trivial⟩ ?_
  · refine ObX.op rfl fun f1 wd2 he3 hout4 hphi5 => ?_
    have hS6 := St.extend hS0 he3
    have e7 : f1 3 = (Value.pointer (some ⟨b_c0, 0, none⟩)) := (hout4 3 rfl).trans rfl
    exact OpX.val v_c0 wd2 rfl (op_load one_37 e7 (BoxAt.cell (BoxAt.lift hS6.ext k_c0) rfl)) (Ext.refl _) rfl
  · refine ObX.op rfl fun f8 wd9 he10 hout11 hphi12 => ?_
    have e14 : f8 1 = (Value.int .i64 y) := (hout11 1 rfl).trans rfl
    exact OpX.val (Value.int .i64 y) wd9 rfl (op_move e14) (Ext.refl _) ⟨rfl, r_y⟩
  · refine ObX.op rfl fun f15 wd16 he17 hout18 hphi19 => ?_
    have hS20 := St.extend hS0 he17
    obtain ⟨S21, hS22, hf23⟩ := hphi19 0 9 _ rfl rfl rfl
    have e24 : f15 9 = v_c0 := hf23
    obtain ⟨S25, hS26, hf27⟩ := hphi19 1 10 _ rfl rfl rfl
    obtain ⟨e28, hr29⟩ := hf27
    exact OpX.val (Value.pointer (some (elA v_c0 (y).toNat))) wd16 rfl (op_idx sl_37 (Ty.lift _ hS20.ext r_c0) e24 e28 ha31 hb32) (Ext.refl _) rfl
  · refine ObX.op rfl fun f34 wd35 he36 hout37 hphi38 => ?_
    have hS39 := St.extend hS0 he36
    obtain ⟨S40, hS41, hf42⟩ := hphi38 2 11 _ rfl rfl rfl
    have e43 : f34 11 = (Value.pointer (some (elA v_c0 (y).toNat))) := hf42
    exact OpX.val u44 wd35 rfl (op_load one_22 e43 (Ext.cell hS39.ext hc45)) (Ext.refl _) rfl
  · refine ObX.op rfl fun f47 wd48 he49 hout50 hphi51 => ?_
    have e53 : f47 2 = (Value.int .i64 z) := (hout50 2 rfl).trans rfl
    exact OpX.val (Value.int .i64 z) wd48 rfl (op_move e53) (Ext.refl _) ⟨rfl, r_z⟩
  · refine ObX.op rfl fun f54 wd55 he56 hout57 hphi58 => ?_
    have hS59 := St.extend hS0 he56
    obtain ⟨S60, hS61, hf62⟩ := hphi58 3 12 _ rfl rfl rfl
    have e63 : f54 12 = u44 := hf62
    obtain ⟨S64, hS65, hf66⟩ := hphi58 4 13 _ rfl rfl rfl
    obtain ⟨e67, hr68⟩ := hf66
    exact OpX.val (Value.pointer (some (elA u44 (z).toNat))) wd55 rfl (op_idx sl_22 (Ty.lift _ hS59.ext hr46) e63 e67 ha70 hb71) (Ext.refl _) rfl
  · refine ObX.op rfl fun f73 wd74 he75 hout76 hphi77 => ?_
    have hS78 := St.extend hS0 he75
    obtain ⟨S79, hS80, hf81⟩ := hphi77 5 14 _ rfl rfl rfl
    have e82 : f73 14 = (Value.pointer (some (elA u44 (z).toNat))) := hf81
    exact OpX.val (Value.int .i64 x69) wd74 rfl (op_load one_2 e82 (Ext.cell hS78.ext hc84)) (Ext.refl _) ⟨rfl, hr85⟩
  · refine ObX.op rfl fun f86 wd87 he88 hout89 hphi90 => ?_
    have hS91 := St.extend hS0 he88
    have e92 : f86 3 = (Value.pointer (some ⟨b_c0, 0, none⟩)) := (hout89 3 rfl).trans rfl
    exact OpX.val v_c0 wd87 rfl (op_load one_37 e92 (BoxAt.cell (BoxAt.lift hS91.ext k_c0) rfl)) (Ext.refl _) rfl
  · refine ObX.op rfl fun f93 wd94 he95 hout96 hphi97 => ?_
    have hS98 := St.extend hS0 he95
    have e99 : f93 4 = (Value.pointer (some ⟨b_c1, 0, none⟩)) := (hout96 4 rfl).trans rfl
    exact OpX.val (Value.agg #[v_c1_Orders, (Value.int .i64 c1_Modulus), v_c1_Values]) wd94 rfl (op_loadBox st_29 e99 (BoxAt.lift hS98.ext k_c1) rfl rfl) (Ext.refl _) ⟨rfl, r_c1_Modulus⟩
  · refine ObX.op rfl fun f100 wd101 he102 hout103 hphi104 => ?_
    have e106 : f100 0 = (Value.int .i64 x) := (hout103 0 rfl).trans rfl
    exact OpX.val (Value.int .i64 x) wd101 rfl (op_move e106) (Ext.refl _) ⟨rfl, r_x⟩
  · refine ObX.op rfl fun f107 wd108 he109 hout110 hphi111 => ?_
    have e113 : f107 1 = (Value.int .i64 y) := (hout110 1 rfl).trans rfl
    exact OpX.val (Value.int .i64 y) wd108 rfl (op_move e113) (Ext.refl _) ⟨rfl, r_y⟩
  · refine ObX.op rfl fun f114 wd115 he116 hout117 hphi118 => ?_
    have hS119 := St.extend hS0 he116
    obtain ⟨S120, hS121, hf122⟩ := hphi118 8 17 _ rfl rfl rfl
    obtain ⟨e123, hr124⟩ := hf122
    obtain ⟨S125, hS126, hf127⟩ := hphi118 9 18 _ rfl rfl rfl
    obtain ⟨e128, hr129⟩ := hf127
    obtain ⟨S130, hS131, hf132⟩ := hphi118 10 19 _ rfl rfl rfl
    obtain ⟨e133, hr134⟩ := hf132
    refine OpX.call rfl (op_call fn_55 (args3 e123 e128 e133)) (Ret.mono (c_impl_Cocycle_plus (Ty.lift _ hS119.ext r_c1_Orders) hr124 (Ty.lift _ hS119.ext r_c1_Values) hr129 hr134 hx136) ?_)
    rintro _ wd138 ⟨rfl, hr137, he139⟩
    exact ⟨he139, _, noS _ _, ⟨rfl, hr137⟩⟩
  · refine ObX.op rfl fun f141 wd142 he143 hout144 hphi145 => ?_
    have hS146 := St.extend hS0 he143
    obtain ⟨S147, hS148, hf149⟩ := hphi145 7 16 _ rfl rfl rfl
    have e150 : f141 16 = v_c0 := hf149
    obtain ⟨S151, hS152, hf153⟩ := hphi145 11 20 _ rfl rfl rfl
    obtain ⟨e154, hr155⟩ := hf153
    exact OpX.val (Value.pointer (some (elA v_c0 (x135).toNat))) wd142 rfl (op_idx sl_37 (Ty.lift _ hS146.ext r_c0) e150 e154 ha157 hb158) (Ext.refl _) rfl
  · refine ObX.op rfl fun f160 wd161 he162 hout163 hphi164 => ?_
    have hS165 := St.extend hS0 he162
    obtain ⟨S166, hS167, hf168⟩ := hphi164 12 21 _ rfl rfl rfl
    have e169 : f160 21 = (Value.pointer (some (elA v_c0 (x135).toNat))) := hf168
    exact OpX.val u170 wd161 rfl (op_load one_22 e169 (Ext.cell hS165.ext hc171)) (Ext.refl _) rfl
  · refine ObX.op rfl fun f173 wd174 he175 hout176 hphi177 => ?_
    have e179 : f173 2 = (Value.int .i64 z) := (hout176 2 rfl).trans rfl
    exact OpX.val (Value.int .i64 z) wd174 rfl (op_move e179) (Ext.refl _) ⟨rfl, r_z⟩
  · refine ObX.op rfl fun f180 wd181 he182 hout183 hphi184 => ?_
    have hS185 := St.extend hS0 he182
    obtain ⟨S186, hS187, hf188⟩ := hphi184 13 22 _ rfl rfl rfl
    have e189 : f180 22 = u170 := hf188
    obtain ⟨S190, hS191, hf192⟩ := hphi184 14 23 _ rfl rfl rfl
    obtain ⟨e193, hr194⟩ := hf192
    exact OpX.val (Value.pointer (some (elA u170 (z).toNat))) wd181 rfl (op_idx sl_22 (Ty.lift _ hS185.ext hr172) e189 e193 ha196 hb197) (Ext.refl _) rfl
  · refine ObX.op rfl fun f199 wd200 he201 hout202 hphi203 => ?_
    have hS204 := St.extend hS0 he201
    obtain ⟨S205, hS206, hf207⟩ := hphi203 15 24 _ rfl rfl rfl
    have e208 : f199 24 = (Value.pointer (some (elA u170 (z).toNat))) := hf207
    exact OpX.val (Value.int .i64 x195) wd200 rfl (op_load one_2 e208 (Ext.cell hS204.ext hc210)) (Ext.refl _) ⟨rfl, hr211⟩
  · refine ObX.op rfl fun f212 wd213 he214 hout215 hphi216 => ?_
    obtain ⟨S218, hS219, hf220⟩ := hphi216 6 15 _ rfl rfl rfl
    obtain ⟨e221, hr222⟩ := hf220
    obtain ⟨S223, hS224, hf225⟩ := hphi216 16 25 _ rfl rfl rfl
    obtain ⟨e226, hr227⟩ := hf225
    exact OpX.val (Value.int .i64 (w64 (x69 - x195))) wd213 rfl (op_sub e221 e226) (Ext.refl _) ⟨rfl, (inR_wrap _ _)⟩
  · refine ObX.op rfl fun f228 wd229 he230 hout231 hphi232 => ?_
    have hS233 := St.extend hS0 he230
    have e234 : f228 3 = (Value.pointer (some ⟨b_c0, 0, none⟩)) := (hout231 3 rfl).trans rfl
    exact OpX.val v_c0 wd229 rfl (op_load one_37 e234 (BoxAt.cell (BoxAt.lift hS233.ext k_c0) rfl)) (Ext.refl _) rfl
  · refine ObX.op rfl fun f235 wd236 he237 hout238 hphi239 => ?_
    have e241 : f235 0 = (Value.int .i64 x) := (hout238 0 rfl).trans rfl
    exact OpX.val (Value.int .i64 x) wd236 rfl (op_move e241) (Ext.refl _) ⟨rfl, r_x⟩
  · refine ObX.op rfl fun f242 wd243 he244 hout245 hphi246 => ?_
    have hS247 := St.extend hS0 he244
    obtain ⟨S248, hS249, hf250⟩ := hphi246 18 27 _ rfl rfl rfl
    have e251 : f242 27 = v_c0 := hf250
    obtain ⟨S252, hS253, hf254⟩ := hphi246 19 28 _ rfl rfl rfl
    obtain ⟨e255, hr256⟩ := hf254
    exact OpX.val (Value.pointer (some (elA v_c0 (x).toNat))) wd243 rfl (op_idx sl_37 (Ty.lift _ hS247.ext r_c0) e251 e255 ha258 hb259) (Ext.refl _) rfl
  · refine ObX.op rfl fun f261 wd262 he263 hout264 hphi265 => ?_
    have hS266 := St.extend hS0 he263
    obtain ⟨S267, hS268, hf269⟩ := hphi265 20 29 _ rfl rfl rfl
    have e270 : f261 29 = (Value.pointer (some (elA v_c0 (x).toNat))) := hf269
    exact OpX.val u271 wd262 rfl (op_load one_22 e270 (Ext.cell hS266.ext hc272)) (Ext.refl _) rfl
  · refine ObX.op rfl fun f274 wd275 he276 hout277 hphi278 => ?_
    have hS279 := St.extend hS0 he276
    have e280 : f274 4 = (Value.pointer (some ⟨b_c1, 0, none⟩)) := (hout277 4 rfl).trans rfl
    exact OpX.val (Value.agg #[v_c1_Orders, (Value.int .i64 c1_Modulus), v_c1_Values]) wd275 rfl (op_loadBox st_29 e280 (BoxAt.lift hS279.ext k_c1) rfl rfl) (Ext.refl _) ⟨rfl, r_c1_Modulus⟩
  · refine ObX.op rfl fun f281 wd282 he283 hout284 hphi285 => ?_
    have e287 : f281 1 = (Value.int .i64 y) := (hout284 1 rfl).trans rfl
    exact OpX.val (Value.int .i64 y) wd282 rfl (op_move e287) (Ext.refl _) ⟨rfl, r_y⟩
  · refine ObX.op rfl fun f288 wd289 he290 hout291 hphi292 => ?_
    have e294 : f288 2 = (Value.int .i64 z) := (hout291 2 rfl).trans rfl
    exact OpX.val (Value.int .i64 z) wd289 rfl (op_move e294) (Ext.refl _) ⟨rfl, r_z⟩
  · refine ObX.op rfl fun f295 wd296 he297 hout298 hphi299 => ?_
    have hS300 := St.extend hS0 he297
    obtain ⟨S301, hS302, hf303⟩ := hphi299 22 31 _ rfl rfl rfl
    obtain ⟨e304, hr305⟩ := hf303
    obtain ⟨S306, hS307, hf308⟩ := hphi299 23 32 _ rfl rfl rfl
    obtain ⟨e309, hr310⟩ := hf308
    obtain ⟨S311, hS312, hf313⟩ := hphi299 24 33 _ rfl rfl rfl
    obtain ⟨e314, hr315⟩ := hf313
    refine OpX.call rfl (op_call fn_55 (args3 e304 e309 e314)) (Ret.mono (c_impl_Cocycle_plus (Ty.lift _ hS300.ext r_c1_Orders) hr305 (Ty.lift _ hS300.ext r_c1_Values) hr310 hr315 hx317) ?_)
    rintro _ wd319 ⟨rfl, hr318, he320⟩
    exact ⟨he320, _, noS _ _, ⟨rfl, hr318⟩⟩
  · refine ObX.op rfl fun f322 wd323 he324 hout325 hphi326 => ?_
    have hS327 := St.extend hS0 he324
    obtain ⟨S328, hS329, hf330⟩ := hphi326 21 30 _ rfl rfl rfl
    have e331 : f322 30 = u271 := hf330
    obtain ⟨S332, hS333, hf334⟩ := hphi326 25 34 _ rfl rfl rfl
    obtain ⟨e335, hr336⟩ := hf334
    exact OpX.val (Value.pointer (some (elA u271 (x316).toNat))) wd323 rfl (op_idx sl_22 (Ty.lift _ hS327.ext hr273) e331 e335 ha338 hb339) (Ext.refl _) rfl
  · refine ObX.op rfl fun f341 wd342 he343 hout344 hphi345 => ?_
    have hS346 := St.extend hS0 he343
    obtain ⟨S347, hS348, hf349⟩ := hphi345 26 35 _ rfl rfl rfl
    have e350 : f341 35 = (Value.pointer (some (elA u271 (x316).toNat))) := hf349
    exact OpX.val (Value.int .i64 x337) wd342 rfl (op_load one_2 e350 (Ext.cell hS346.ext hc352)) (Ext.refl _) ⟨rfl, hr353⟩
  · refine ObX.op rfl fun f354 wd355 he356 hout357 hphi358 => ?_
    obtain ⟨S360, hS361, hf362⟩ := hphi358 17 26 _ rfl rfl rfl
    obtain ⟨e363, hr364⟩ := hf362
    obtain ⟨S365, hS366, hf367⟩ := hphi358 27 36 _ rfl rfl rfl
    obtain ⟨e368, hr369⟩ := hf367
    exact OpX.val (Value.int .i64 (w64 ((w64 (x69 - x195)) + x337))) wd355 rfl (op_add e363 e368) (Ext.refl _) ⟨rfl, (inR_wrap _ _)⟩
  · refine ObX.op rfl fun f370 wd371 he372 hout373 hphi374 => ?_
    have hS375 := St.extend hS0 he372
    have e376 : f370 3 = (Value.pointer (some ⟨b_c0, 0, none⟩)) := (hout373 3 rfl).trans rfl
    exact OpX.val v_c0 wd371 rfl (op_load one_37 e376 (BoxAt.cell (BoxAt.lift hS375.ext k_c0) rfl)) (Ext.refl _) rfl
  · refine ObX.op rfl fun f377 wd378 he379 hout380 hphi381 => ?_
    have e383 : f377 0 = (Value.int .i64 x) := (hout380 0 rfl).trans rfl
    exact OpX.val (Value.int .i64 x) wd378 rfl (op_move e383) (Ext.refl _) ⟨rfl, r_x⟩
  · refine ObX.op rfl fun f384 wd385 he386 hout387 hphi388 => ?_
    have hS389 := St.extend hS0 he386
    obtain ⟨S390, hS391, hf392⟩ := hphi388 29 38 _ rfl rfl rfl
    have e393 : f384 38 = v_c0 := hf392
    obtain ⟨S394, hS395, hf396⟩ := hphi388 30 39 _ rfl rfl rfl
    obtain ⟨e397, hr398⟩ := hf396
    exact OpX.val (Value.pointer (some (elA v_c0 (x).toNat))) wd385 rfl (op_idx sl_37 (Ty.lift _ hS389.ext r_c0) e393 e397 ha258 hb259) (Ext.refl _) rfl
  · refine ObX.op rfl fun f399 wd400 he401 hout402 hphi403 => ?_
    have hS404 := St.extend hS0 he401
    obtain ⟨S405, hS406, hf407⟩ := hphi403 31 40 _ rfl rfl rfl
    have e408 : f399 40 = (Value.pointer (some (elA v_c0 (x).toNat))) := hf407
    exact OpX.val u409 wd400 rfl (op_load one_22 e408 (Ext.cell hS404.ext hc410)) (Ext.refl _) rfl
  · refine ObX.op rfl fun f412 wd413 he414 hout415 hphi416 => ?_
    have e418 : f412 1 = (Value.int .i64 y) := (hout415 1 rfl).trans rfl
    exact OpX.val (Value.int .i64 y) wd413 rfl (op_move e418) (Ext.refl _) ⟨rfl, r_y⟩
  · refine ObX.op rfl fun f419 wd420 he421 hout422 hphi423 => ?_
    have hS424 := St.extend hS0 he421
    obtain ⟨S425, hS426, hf427⟩ := hphi423 32 41 _ rfl rfl rfl
    have e428 : f419 41 = u409 := hf427
    obtain ⟨S429, hS430, hf431⟩ := hphi423 33 42 _ rfl rfl rfl
    obtain ⟨e432, hr433⟩ := hf431
    exact OpX.val (Value.pointer (some (elA u409 (y).toNat))) wd420 rfl (op_idx sl_22 (Ty.lift _ hS424.ext hr411) e428 e432 ha435 hb436) (Ext.refl _) rfl
  · refine ObX.op rfl fun f438 wd439 he440 hout441 hphi442 => ?_
    have hS443 := St.extend hS0 he440
    obtain ⟨S444, hS445, hf446⟩ := hphi442 34 43 _ rfl rfl rfl
    have e447 : f438 43 = (Value.pointer (some (elA u409 (y).toNat))) := hf446
    exact OpX.val (Value.int .i64 x434) wd439 rfl (op_load one_2 e447 (Ext.cell hS443.ext hc449)) (Ext.refl _) ⟨rfl, hr450⟩
  · intro f451 wd452 Ss453 he454 hout455 hSn456 hSd457 hphi458
    show WL _ _ _ _ _ _ _
    have hS459 := St.extend hS0 he454
    obtain ⟨e460, hr461⟩ := hphi458 28 37 _ (by decide) rfl rfl
    obtain ⟨e462, hr463⟩ := hphi458 35 44 _ (by decide) rfl rfl
    refine WL.val (Value.int .i64 (w64 ((w64 ((w64 (x69 - x195)) + x337)) - x434))) _ (op_sub e460 e462) rfl ?_
    refine WL.val (Value.int .i64 (w64 ((w64 ((w64 (x69 - x195)) + x337)) - x434))) _ (op_assign rfl) rfl ?_
    refine WL.nil ?_
    refine W.ret ?_
    obtain rfl := Option.some.inj h
    show FinP _ _ _ _ _ _ _
    exact FinP.ret _ (res1 rfl rfl) ⟨rfl, (inR_wrap _ _), hS459.ext⟩

theorem c_slices_Clone_Lint64_int64 {w : World} {s1 : (List Int)} {v_s1 : Value} (r_s1 : (Ty.sl (Ty.i .i64)).rep w v_s1 s1) {res : (List Int)} (h : p_slices_Clone_Lint64_int64 s1  = some res) :
    Ret Try.prog 40 #[v_s1] w (fun v w' => ∃ (u0 : Value), v = u0 ∧ Ext w w' ∧ Sep w.heap.size w' [(Ty.sl (Ty.i .i64)).at u0 res]) := by
  unfold p_slices_Clone_Lint64_int64 at h
  have hS0 : St w w [] := St.start w
  obtain ⟨p0, c0, hv0, hl10, hl20, hp0, hel0⟩ := id r_s1
  refine Ret.start (fn := Try.f40) Try.func40 rfl 8 rfl rfl ?_
  refine W.seq (W.region ?_)
  refine WL.val (Value.slice none 0 0) _ (op_assign rfl) rfl ?_
  refine WL.nil ?_
  refine W.seq (W.seq (W.region ?_))
  refine WL.val v_s1 _ (op_move rfl) rfl ?_
  refine WL.val (Value.bool p0.isNone) _ (op_eqlNil (Eq.trans rfl hv0) rfl sl_22.1) rfl ?_
  refine WL.nil ?_
  refine W.cond p0.isNone rfl (fun hc1 => ?_) (fun hc1 => ?_)
  · obtain rfl : p0 = none := by cases p0 <;> simp_all
    obtain rfl : s1 = [] := Classical.byContradiction fun hn => hp0 hn rfl
    simp [appL] at h
    subst h
    refine W.seq (W.region ?_)
    refine WL.val (Value.slice none 0 0) _ (op_assign rfl) rfl ?_
    refine WL.nil ?_
    refine W.ret ?_
    show FinP _ _ _ _ _ _ _
    exact FinP.ret _ (res1 rfl rfl) ⟨(Value.slice none 0 0), rfl, hS0.ext, (St.out (St.pick (St.addNil (Ty.i .i64) hS0) [0] rfl) (Ext.refl _))⟩
  · refine W.skip ?_
    refine W.seq (W.region ?_)
    refine WL.lit0 (t := (Ty.i .i64)) hS0 sl_22 rfl rfl ?_
    intro u2 wd3 hS4 he5
    replace hS4 : St w wd3 [(Ty.sl (Ty.i .i64)).at u2 ([] : (List Int))] := hS4
    refine WL.val v_s1 _ (op_move rfl) rfl ?_
    obtain ⟨x6, hx7, h⟩ := bs h
    refine WL.append (flat_i .i64) hS4 (k := 0) rfl sl_22 rfl rfl rfl rfl (Ty.lift _ hS4.ext r_s1) hx7 rfl ?_
    intro u8 wd9 hS10 hz11
    replace hS10 : St w wd9 [(Ty.sl (Ty.i .i64)).at u8 x6] := hS10
    refine WL.val u8 _ (op_assign rfl) rfl ?_
    refine WL.nil ?_
    refine W.ret ?_
    obtain rfl := Option.some.inj h
    show FinP _ _ _ _ _ _ _
    exact FinP.ret _ (res1 rfl rfl) ⟨u8, rfl, hS10.ext, (St.out (St.pick hS10 [0] rfl) (Ext.refl _))⟩

theorem c_impl_cocycleBy {w : World} {orders : (List Int)} {v_orders : Value} {m : Int} {number : Int → Int → Int → Option Int} {v_number : Value} (r_orders : (Ty.sl (Ty.i .i64)).rep w v_orders orders) (r_m : InR .i64 m) (r_number : FnT_i_i_i_to_i Try.prog v_number w number) {res : (List Int) × Int × (List (List (List Int)))} (h : p_impl_cocycleBy orders m number  = some res) :
    Ret Try.prog 57 #[v_orders, (Value.int .i64 m), v_number] w (fun v w' => ∃ (u0 : Value) (u2 : Value), v = (Value.agg #[u0, Value.int .i64 res.2.1, u2]) ∧ InR .i64 res.2.1 ∧ Ext w w' ∧ Sep w.heap.size w' [(Ty.sl (Ty.i .i64)).at u0 res.1, (Ty.sl (Ty.sl (Ty.sl (Ty.i .i64)))).at u2 res.2.2]) := by
  unfold p_impl_cocycleBy at h
  have hS0 : St w w [] := St.start w
  have q_number := r_number
  obtain ⟨g_number, fst_number, cap_number, eq_number, ok_number, call_number⟩ := q_number
  subst eq_number
  refine Ret.start (fn := Try.f57) Try.func57 rfl 57 rfl rfl ?_
  refine W.seq (W.region ?_)
  refine WL.alloc hS0 ze_29 (cs := [(Value.slice none 0 0), (Value.int .i64 (0 : Int)), (Value.slice none 0 0)]) rfl rfl ?_
  intro b1 wd2 hS3 he4
  replace hS3 : St w wd2 [bx b1 [(Value.slice none 0 0), (Value.int .i64 (0 : Int)), (Value.slice none 0 0)]] := hS3
  refine WL.nil ?_
  refine W.seq (W.region ?_)
  refine WL.val v_orders _ (op_move rfl) rfl ?_
  obtain ⟨x5, hx6, h⟩ := bs h
  refine WL.call _ (op_call fn_40 (args1 rfl)) (c_slices_Clone_Lint64_int64 (Ty.lift _ hS3.ext r_orders) hx6) rfl ?_
  rintro u7 wd8 ⟨_, rfl, he9, hs10⟩
  have hS11 := St.join hS3 he9 hs10
  replace hS11 : St w wd8 [bx b1 [(Value.slice none 0 0), (Value.int .i64 (0 : Int)), (Value.slice none 0 0)], (Ty.sl (Ty.i .i64)).at u7 x5] := hS11
  refine WL.val (Value.int .i64 m) _ (op_move rfl) rfl ?_
  refine WL.val (Value.agg #[u7, (Value.int .i64 m), (Value.slice none 0 0)]) _ (op_build bd_29 (parts := [(0, u7, [u7]), (1, (Value.int .i64 m), [(Value.int .i64 m)])]) (partsL ⟨rfl, rfl, rfl, rfl, trivial⟩) ⟨(cells_rep (St.rep (t := (Ty.sl (Ty.i .i64))) hS11 1 rfl)), rfl, trivial⟩ rfl) rfl ?_
  refine WL.val v_orders _ (op_move rfl) rfl ?_
  obtain ⟨x12, hx13, h⟩ := bs h
  refine WL.call _ (op_call fn_37 (args1 rfl)) (c_impl_groupSize (Ty.lift _ hS11.ext r_orders) hx13) rfl ?_
  rintro _ wd15 ⟨rfl, hr14, he16⟩
  have hS18 := St.extend hS11 he16
  replace hS18 : St w wd15 [bx b1 [(Value.slice none 0 0), (Value.int .i64 (0 : Int)), (Value.slice none 0 0)], (Ty.sl (Ty.i .i64)).at u7 x5] := hS18
  refine WL.alloc hS18 ze_29 (cs := [(Value.slice none 0 0), (Value.int .i64 (0 : Int)), (Value.slice none 0 0)]) rfl rfl ?_
  intro b19 wd20 hS21 he22
  replace hS21 : St w wd20 [bx b1 [(Value.slice none 0 0), (Value.int .i64 (0 : Int)), (Value.slice none 0 0)], (Ty.sl (Ty.i .i64)).at u7 x5, bx b19 [(Value.slice none 0 0), (Value.int .i64 (0 : Int)), (Value.slice none 0 0)]] := hS21
  have hS25 := St.addNil (Ty.sl (Ty.sl (Ty.i .i64))) hS21
  replace hS25 : St w wd20 [bx b1 [(Value.slice none 0 0), (Value.int .i64 (0 : Int)), (Value.slice none 0 0)], (Ty.sl (Ty.i .i64)).at u7 x5, bx b19 [(Value.slice none 0 0), (Value.int .i64 (0 : Int)), (Value.slice none 0 0)], (Ty.sl (Ty.sl (Ty.sl (Ty.i .i64)))).at (Value.slice none 0 0) ([] : (List (List (List Int))))] := hS25
  refine WL.storeBox [u7, (Value.int .i64 m), (Value.slice none 0 0)] hS25 (k := 2) rfl rfl rfl (us := [u7, (Value.int .i64 m), (Value.slice none 0 0)]) rfl sz_29 rfl rfl (all_rep (St.rep (t := (Ty.sl (Ty.i .i64))) hS25 1 rfl) (all_cons rfl (all_rep (St.rep (t := (Ty.sl (Ty.sl (Ty.sl (Ty.i .i64))))) hS25 3 rfl) all_nil))) rfl ?_
  intro wd23 hS24
  replace hS24 : St w wd23 [bx b1 [(Value.slice none 0 0), (Value.int .i64 (0 : Int)), (Value.slice none 0 0)], (Ty.sl (Ty.i .i64)).at u7 x5, bx b19 [u7, (Value.int .i64 m), (Value.slice none 0 0)], (Ty.sl (Ty.sl (Ty.sl (Ty.i .i64)))).at (Value.slice none 0 0) ([] : (List (List (List Int))))] := hS24
  refine WL.val (Value.int .i64 x12) _ (op_assign rfl) rfl ?_
  refine WL.nil ?_
  refine W.seq (W.seq (W.region ?_))
  refine WL.val (Value.int .i64 x12) _ (op_move rfl) rfl ?_
  refine WL.val (Value.int .i64 (0 : Int)) _ (op_move rfl) rfl ?_
  refine WL.nil ?_
  show W _ _ _ _ _ _
  obtain ⟨res26, hres27, h⟩ := bs h
  refine W.blockLoop (fun fq wq => ∃ s, res26 = Res.fin s ∧ ∃ (uu0 : Value), fq 6 = (Value.pointer (some ⟨b1, 0, none⟩)) ∧ fq 7 = (Value.pointer (some ⟨b19, 0, none⟩)) ∧ St w wq [bx b1 [(Value.slice none 0 0), (Value.int .i64 (0 : Int)), (Value.slice none 0 0)], (Ty.sl (Ty.i .i64)).at u7 x5, bx b19 [u7, (Value.int .i64 m), uu0], (Ty.sl (Ty.sl (Ty.sl (Ty.i .i64)))).at uu0 s]) ?_ ?_
  · refine W.forN (fun k (s : (List (List (List Int)))) fq wq => ∃ (uu0 : Value), fq 2 = (Value.func (.func g_number) fst_number cap_number) ∧ fq 6 = (Value.pointer (some ⟨b1, 0, none⟩)) ∧ fq 7 = (Value.pointer (some ⟨b19, 0, none⟩)) ∧ fq 8 = (Value.int .i64 x12) ∧ fq 19 = (Value.int .i64 x12) ∧ fq 20 = Value.int .i64 (k : Int) ∧ InR .i64 (k : Int) ∧ St w wq [bx b1 [(Value.slice none 0 0), (Value.int .i64 (0 : Int)), (Value.slice none 0 0)], (Ty.sl (Ty.i .i64)).at u7 x5, bx b19 [u7, (Value.int .i64 m), uu0], (Ty.sl (Ty.sl (Ty.sl (Ty.i .i64)))).at uu0 s]) hres27 ⟨(Value.slice none 0 0), rfl, rfl, rfl, rfl, rfl, rfl, (inL rfl), hS24⟩ ?_ ?_
    · intro k28 x29 ct30 f31 wd32 hk33 hb34 hI35 hbrk36 hret37
      replace hI35 : ∃ (uu0 : Value), f31 2 = (Value.func (.func g_number) fst_number cap_number) ∧ f31 6 = (Value.pointer (some ⟨b1, 0, none⟩)) ∧ f31 7 = (Value.pointer (some ⟨b19, 0, none⟩)) ∧ f31 8 = (Value.int .i64 x12) ∧ f31 19 = (Value.int .i64 x12) ∧ f31 20 = Value.int .i64 (k28 : Int) ∧ InR .i64 (k28 : Int) ∧ St w wd32 [bx b1 [(Value.slice none 0 0), (Value.int .i64 (0 : Int)), (Value.slice none 0 0)], (Ty.sl (Ty.i .i64)).at u7 x5, bx b19 [u7, (Value.int .i64 m), uu0], (Ty.sl (Ty.sl (Ty.sl (Ty.i .i64)))).at uu0 x29] := hI35
      replace hb34 : p_impl_cocycleBy_L1 x12 number x5 m k28 x29 = some ct30 := hb34
      unfold p_impl_cocycleBy_L1 at hb34
      obtain ⟨u38, hf39, hf40, hf41, hf42, hf43, hf44, hr45, hS46⟩ := hI35
      refine W.seq (W.region ?_)
      refine WL.val (Value.bool (decide ((k28 : Int) < x12))) _ (op_lss hf44 hf43) rfl ?_
      have hl47 : (k28 : Int) < x12 := by omega
      refine WL.nil ?_
      refine W.seq ?_
      refine W.condT (decide ((k28 : Int) < x12)) rfl (decide_eq_true hl47) ?_
      refine W.skip ?_
      refine W.seq ?_
      refine W.block ?_
      refine W.seq (W.region ?_)
      refine WL.val (Value.int .i64 (k28 : Int)) _ (op_move hf44) rfl ?_
      refine WL.val (Value.int .i64 (k28 : Int)) _ (op_assign rfl) rfl ?_
      refine WL.nil ?_
      refine W.seq (W.region ?_)
      refine WL.val (Value.int .i64 x12) _ (op_move hf42) rfl ?_
      refine WL.val (Value.int .i64 x12) _ (op_move hf42) rfl ?_
      obtain ⟨x49, hx50, hb34⟩ := bs hb34
      refine WL.call _ (op_call fn_38 (args2 rfl rfl)) (c_impl_zeros hr14 hr14 hx50) rfl ?_
      rintro u51 wd52 ⟨_, rfl, he53, hs54⟩
      have hS55 := St.join hS46 he53 hs54
      replace hS55 : St w wd52 [bx b1 [(Value.slice none 0 0), (Value.int .i64 (0 : Int)), (Value.slice none 0 0)], (Ty.sl (Ty.i .i64)).at u7 x5, bx b19 [u7, (Value.int .i64 m), u38], (Ty.sl (Ty.sl (Ty.sl (Ty.i .i64)))).at u38 x29, (Ty.sl (Ty.sl (Ty.i .i64))).at u51 x49] := hS55
      refine WL.val u51 _ (op_assign rfl) rfl ?_
      refine WL.nil ?_
      refine W.seq (W.seq (W.region ?_))
      refine WL.val (Value.int .i64 x12) _ (op_move hf42) rfl ?_
      refine WL.val (Value.int .i64 (0 : Int)) _ (op_move rfl) rfl ?_
      refine WL.nil ?_
      show W _ _ _ _ _ _
      obtain ⟨res56, hres57, hb34⟩ := bs hb34
      refine W.blockLoop (fun fq wq => ∃ s, res56 = Res.fin s ∧ fq 2 = (Value.func (.func g_number) fst_number cap_number) ∧ fq 6 = (Value.pointer (some ⟨b1, 0, none⟩)) ∧ fq 7 = (Value.pointer (some ⟨b19, 0, none⟩)) ∧ fq 8 = (Value.int .i64 x12) ∧ fq 10 = u51 ∧ fq 19 = (Value.int .i64 x12) ∧ fq 20 = (Value.int .i64 (k28 : Int)) ∧ St w wq [bx b1 [(Value.slice none 0 0), (Value.int .i64 (0 : Int)), (Value.slice none 0 0)], (Ty.sl (Ty.i .i64)).at u7 x5, bx b19 [u7, (Value.int .i64 m), u38], (Ty.sl (Ty.sl (Ty.sl (Ty.i .i64)))).at u38 x29, (Ty.sl (Ty.sl (Ty.i .i64))).at u51 s]) ?_ ?_
      · refine W.forN (fun k (s : (List (List Int))) fq wq => fq 2 = (Value.func (.func g_number) fst_number cap_number) ∧ fq 6 = (Value.pointer (some ⟨b1, 0, none⟩)) ∧ fq 7 = (Value.pointer (some ⟨b19, 0, none⟩)) ∧ fq 8 = (Value.int .i64 x12) ∧ fq 9 = (Value.int .i64 (k28 : Int)) ∧ fq 10 = u51 ∧ fq 19 = (Value.int .i64 x12) ∧ fq 20 = (Value.int .i64 (k28 : Int)) ∧ fq 26 = (Value.int .i64 x12) ∧ fq 27 = Value.int .i64 (k : Int) ∧ InR .i64 (k : Int) ∧ St w wq [bx b1 [(Value.slice none 0 0), (Value.int .i64 (0 : Int)), (Value.slice none 0 0)], (Ty.sl (Ty.i .i64)).at u7 x5, bx b19 [u7, (Value.int .i64 m), u38], (Ty.sl (Ty.sl (Ty.sl (Ty.i .i64)))).at u38 x29, (Ty.sl (Ty.sl (Ty.i .i64))).at u51 s]) hres57 ⟨hf39, hf40, hf41, hf42, rfl, rfl, hf43, hf44, rfl, rfl, (inL rfl), hS55⟩ ?_ ?_
        · intro k58 x59 ct60 f61 wd62 hk63 hb64 hI65 hbrk66 hret67
          replace hI65 : f61 2 = (Value.func (.func g_number) fst_number cap_number) ∧ f61 6 = (Value.pointer (some ⟨b1, 0, none⟩)) ∧ f61 7 = (Value.pointer (some ⟨b19, 0, none⟩)) ∧ f61 8 = (Value.int .i64 x12) ∧ f61 9 = (Value.int .i64 (k28 : Int)) ∧ f61 10 = u51 ∧ f61 19 = (Value.int .i64 x12) ∧ f61 20 = (Value.int .i64 (k28 : Int)) ∧ f61 26 = (Value.int .i64 x12) ∧ f61 27 = Value.int .i64 (k58 : Int) ∧ InR .i64 (k58 : Int) ∧ St w wd62 [bx b1 [(Value.slice none 0 0), (Value.int .i64 (0 : Int)), (Value.slice none 0 0)], (Ty.sl (Ty.i .i64)).at u7 x5, bx b19 [u7, (Value.int .i64 m), u38], (Ty.sl (Ty.sl (Ty.sl (Ty.i .i64)))).at u38 x29, (Ty.sl (Ty.sl (Ty.i .i64))).at u51 x59] := hI65
          replace hb64 : p_impl_cocycleBy_L2 number k28 x5 m x29 x12 k58 x59 = some ct60 := hb64
          unfold p_impl_cocycleBy_L2 at hb64
          obtain ⟨hf68, hf69, hf70, hf71, hf72, hf73, hf74, hf75, hf76, hf77, hr78, hS79⟩ := hI65
          refine W.seq (W.region ?_)
          refine WL.val (Value.bool (decide ((k58 : Int) < x12))) _ (op_lss hf77 hf76) rfl ?_
          have hl80 : (k58 : Int) < x12 := by omega
          refine WL.nil ?_
          refine W.seq ?_
          refine W.condT (decide ((k58 : Int) < x12)) rfl (decide_eq_true hl80) ?_
          refine W.skip ?_
          refine W.seq ?_
          refine W.block ?_
          refine W.seq (W.region ?_)
          refine WL.val (Value.int .i64 (k58 : Int)) _ (op_move hf77) rfl ?_
          refine WL.val (Value.int .i64 (k58 : Int)) _ (op_assign rfl) rfl ?_
          refine WL.nil ?_
          refine W.seq (W.region ?_)
          refine WL.val (Value.int .i64 x12) _ (op_move hf71) rfl ?_
          refine WL.val (Value.int .i64 (0 : Int)) _ (op_move rfl) rfl ?_
          refine WL.nil ?_
          show W _ _ _ _ _ _
          obtain ⟨res82, hres83, hb64⟩ := bs hb64
          refine W.blockLoop (fun fq wq => ∃ s, res82 = Res.fin s ∧ fq 2 = (Value.func (.func g_number) fst_number cap_number) ∧ fq 6 = (Value.pointer (some ⟨b1, 0, none⟩)) ∧ fq 7 = (Value.pointer (some ⟨b19, 0, none⟩)) ∧ fq 8 = (Value.int .i64 x12) ∧ fq 9 = (Value.int .i64 (k28 : Int)) ∧ fq 10 = u51 ∧ fq 19 = (Value.int .i64 x12) ∧ fq 20 = (Value.int .i64 (k28 : Int)) ∧ fq 26 = (Value.int .i64 x12) ∧ fq 27 = (Value.int .i64 (k58 : Int)) ∧ St w wq [bx b1 [(Value.slice none 0 0), (Value.int .i64 (0 : Int)), (Value.slice none 0 0)], (Ty.sl (Ty.i .i64)).at u7 x5, bx b19 [u7, (Value.int .i64 m), u38], (Ty.sl (Ty.sl (Ty.sl (Ty.i .i64)))).at u38 x29, (Ty.sl (Ty.sl (Ty.i .i64))).at u51 s]) ?_ ?_
          · refine W.forN (fun k (s : (List (List Int))) fq wq => fq 2 = (Value.func (.func g_number) fst_number cap_number) ∧ fq 6 = (Value.pointer (some ⟨b1, 0, none⟩)) ∧ fq 7 = (Value.pointer (some ⟨b19, 0, none⟩)) ∧ fq 8 = (Value.int .i64 x12) ∧ fq 9 = (Value.int .i64 (k28 : Int)) ∧ fq 10 = u51 ∧ fq 11 = (Value.int .i64 (k58 : Int)) ∧ fq 19 = (Value.int .i64 x12) ∧ fq 20 = (Value.int .i64 (k28 : Int)) ∧ fq 26 = (Value.int .i64 x12) ∧ fq 27 = (Value.int .i64 (k58 : Int)) ∧ fq 30 = (Value.int .i64 x12) ∧ fq 31 = Value.int .i64 (k : Int) ∧ InR .i64 (k : Int) ∧ St w wq [bx b1 [(Value.slice none 0 0), (Value.int .i64 (0 : Int)), (Value.slice none 0 0)], (Ty.sl (Ty.i .i64)).at u7 x5, bx b19 [u7, (Value.int .i64 m), u38], (Ty.sl (Ty.sl (Ty.sl (Ty.i .i64)))).at u38 x29, (Ty.sl (Ty.sl (Ty.i .i64))).at u51 s]) hres83 ⟨hf68, hf69, hf70, hf71, hf72, hf73, rfl, hf74, hf75, hf76, hf77, rfl, rfl, (inL rfl), hS79⟩ ?_ ?_
            · intro k84 x85 ct86 f87 wd88 hk89 hb90 hI91 hbrk92 hret93
              replace hI91 : f87 2 = (Value.func (.func g_number) fst_number cap_number) ∧ f87 6 = (Value.pointer (some ⟨b1, 0, none⟩)) ∧ f87 7 = (Value.pointer (some ⟨b19, 0, none⟩)) ∧ f87 8 = (Value.int .i64 x12) ∧ f87 9 = (Value.int .i64 (k28 : Int)) ∧ f87 10 = u51 ∧ f87 11 = (Value.int .i64 (k58 : Int)) ∧ f87 19 = (Value.int .i64 x12) ∧ f87 20 = (Value.int .i64 (k28 : Int)) ∧ f87 26 = (Value.int .i64 x12) ∧ f87 27 = (Value.int .i64 (k58 : Int)) ∧ f87 30 = (Value.int .i64 x12) ∧ f87 31 = Value.int .i64 (k84 : Int) ∧ InR .i64 (k84 : Int) ∧ St w wd88 [bx b1 [(Value.slice none 0 0), (Value.int .i64 (0 : Int)), (Value.slice none 0 0)], (Ty.sl (Ty.i .i64)).at u7 x5, bx b19 [u7, (Value.int .i64 m), u38], (Ty.sl (Ty.sl (Ty.sl (Ty.i .i64)))).at u38 x29, (Ty.sl (Ty.sl (Ty.i .i64))).at u51 x85] := hI91
              replace hb90 : p_impl_cocycleBy_L3 k58 number k28 x5 m x29 k84 x85 = some ct86 := hb90
              unfold p_impl_cocycleBy_L3 at hb90
              obtain ⟨hf94, hf95, hf96, hf97, hf98, hf99, hf100, hf101, hf102, hf103, hf104, hf105, hf106, hr107, hS108⟩ := hI91
              refine W.seq (W.region ?_)
              refine WL.val (Value.bool (decide ((k84 : Int) < x12))) _ (op_lss hf106 hf105) rfl ?_
              have hl109 : (k84 : Int) < x12 := by omega
              refine WL.nil ?_
              refine W.seq ?_
              refine W.condT (decide ((k84 : Int) < x12)) rfl (decide_eq_true hl109) ?_
              refine W.skip ?_
              refine W.seq ?_
              refine W.block ?_
              refine W.seq (W.region ?_)
              refine WL.val (Value.int .i64 (k84 : Int)) _ (op_move hf106) rfl ?_
              refine WL.val (Value.int .i64 (k84 : Int)) _ (op_assign rfl) rfl ?_
              refine WL.nil ?_
              show W _ _ _ _ _ _
              obtain ⟨x140, hx143, hb90⟩ := bs hb90
              obtain ⟨ha141, hb142, hx143⟩ := idx_some hx143
              obtain ⟨u154, hc155, hr156⟩ := repSl.el (St.rep (t := (Ty.sl (Ty.sl (Ty.i .i64)))) hS108 4 rfl) hx143
              obtain ⟨x224, hx225, hb90⟩ := bs hb90
              obtain ⟨x245, hx246, hb90⟩ := bs hb90
              refine W.drawR mixo 12 [] [fun _ v _ _ => v = u51, fun _ v _ _ => v = (Value.int .i64 (k58 : Int)) ∧ InR .i64 (k58 : Int), fun _ v _ _ => v = (Value.pointer (some (elA u51 ((k58 : Int)).toNat))), fun _ v _ _ => v = u154, fun _ v _ _ => v = (Value.int .i64 (k84 : Int)) ∧ InR .i64 (k84 : Int), fun _ v S w' => v = (Value.agg #[u7, (Value.int .i64 m), u38]) ∧ InR .i64 m, fun _ v _ _ => v = (Value.func (.func g_number) fst_number cap_number), fun _ v _ _ => v = (Value.int .i64 (k28 : Int)) ∧ InR .i64 (k28 : Int), fun _ v _ _ => v = (Value.int .i64 (k58 : Int)) ∧ InR .i64 (k58 : Int), fun _ v _ _ => v = (Value.int .i64 (k84 : Int)) ∧ InR .i64 (k84 : Int), fun _ v _ _ => v = (Value.int .i64 x224) ∧ InR .i64 x224, fun _ v _ _ => v = (Value.int .i64 x245) ∧ InR .i64 x245] (by kernel_rfl) (by kernel_rfl) ⟨pk, pk, pk, pk, pk, ⟨fun _ _ _ _ _ he ⟨h0, h1⟩ => ⟨h0, h1⟩, fun _ _ _ _ _ _ h => h⟩, pk, pk, pk, pk, pk, pk, trivial⟩ ⟨?_, ?_, ?_, ?_, ?_, ?_, ?_, ?_, ?_, ?_, ?_, ?_, trivial⟩ ?_
              · refine ObX.op rfl fun f111 wd112 he113 hout114 hphi115 => ?_
                have e117 : f111 10 = u51 := (hout114 10 rfl).trans hf99
                exact OpX.val u51 wd112 rfl (op_move e117) (Ext.refl _) rfl
              · refine ObX.op rfl fun f118 wd119 he120 hout121 hphi122 => ?_
                have e124 : f118 11 = (Value.int .i64 (k58 : Int)) := (hout121 11 rfl).trans hf100
                exact OpX.val (Value.int .i64 (k58 : Int)) wd119 rfl (op_move e124) (Ext.refl _) ⟨rfl, hr78⟩
              · refine ObX.op rfl fun f125 wd126 he127 hout128 hphi129 => ?_
                have hS130 := St.extend hS108 he127
                obtain ⟨S131, hS132, hf133⟩ := hphi129 0 34 _ rfl rfl rfl
                have e134 : f125 34 = u51 := hf133
                obtain ⟨S135, hS136, hf137⟩ := hphi129 1 35 _ rfl rfl rfl
                obtain ⟨e138, hr139⟩ := hf137
                exact OpX.val (Value.pointer (some (elA u51 ((k58 : Int)).toNat))) wd126 rfl (op_idx sl_37 (St.rep (t := (Ty.sl (Ty.sl (Ty.i .i64)))) hS130 4 rfl) e134 e138 ha141 hb142) (Ext.refl _) rfl
              · refine ObX.op rfl fun f144 wd145 he146 hout147 hphi148 => ?_
                obtain ⟨S150, hS151, hf152⟩ := hphi148 2 36 _ rfl rfl rfl
                have e153 : f144 36 = (Value.pointer (some (elA u51 ((k58 : Int)).toNat))) := hf152
                exact OpX.val u154 wd145 rfl (op_load one_22 e153 (Ext.cell he146 hc155)) (Ext.refl _) rfl
              · refine ObX.op rfl fun f157 wd158 he159 hout160 hphi161 => ?_
                have e163 : f157 12 = (Value.int .i64 (k84 : Int)) := (hout160 12 rfl).trans rfl
                exact OpX.val (Value.int .i64 (k84 : Int)) wd158 rfl (op_move e163) (Ext.refl _) ⟨rfl, hr107⟩
              · refine ObX.op rfl fun f164 wd165 he166 hout167 hphi168 => ?_
                have hS169 := St.extend hS108 he166
                have e170 : f164 7 = (Value.pointer (some ⟨b19, 0, none⟩)) := (hout167 7 rfl).trans hf96
                exact OpX.val (Value.agg #[u7, (Value.int .i64 m), u38]) wd165 rfl (op_loadBox st_29 e170 (St.boxAt hS169 2 rfl) rfl rfl) (Ext.refl _) ⟨rfl, r_m⟩
              · refine ObX.op rfl fun f171 wd172 he173 hout174 hphi175 => ?_
                have e177 : f171 2 = (Value.func (.func g_number) fst_number cap_number) := (hout174 2 rfl).trans hf94
                exact OpX.val (Value.func (.func g_number) fst_number cap_number) wd172 rfl (op_move e177) (Ext.refl _) rfl
              · refine ObX.op rfl fun f178 wd179 he180 hout181 hphi182 => ?_
                have e184 : f178 9 = (Value.int .i64 (k28 : Int)) := (hout181 9 rfl).trans hf98
                exact OpX.val (Value.int .i64 (k28 : Int)) wd179 rfl (op_move e184) (Ext.refl _) ⟨rfl, hr45⟩
              · refine ObX.op rfl fun f185 wd186 he187 hout188 hphi189 => ?_
                have e191 : f185 11 = (Value.int .i64 (k58 : Int)) := (hout188 11 rfl).trans hf100
                exact OpX.val (Value.int .i64 (k58 : Int)) wd186 rfl (op_move e191) (Ext.refl _) ⟨rfl, hr78⟩
              · refine ObX.op rfl fun f192 wd193 he194 hout195 hphi196 => ?_
                have e198 : f192 12 = (Value.int .i64 (k84 : Int)) := (hout195 12 rfl).trans rfl
                exact OpX.val (Value.int .i64 (k84 : Int)) wd193 rfl (op_move e198) (Ext.refl _) ⟨rfl, hr107⟩
              · refine ObX.op rfl fun f199 wd200 he201 hout202 hphi203 => ?_
                have hS204 := St.extend hS108 he201
                obtain ⟨S205, hS206, hf207⟩ := hphi203 6 40 _ rfl rfl rfl
                have e208 : f199 40 = (Value.func (.func g_number) fst_number cap_number) := hf207
                obtain ⟨S209, hS210, hf211⟩ := hphi203 7 41 _ rfl rfl rfl
                obtain ⟨e212, hr213⟩ := hf211
                obtain ⟨S214, hS215, hf216⟩ := hphi203 8 42 _ rfl rfl rfl
                obtain ⟨e217, hr218⟩ := hf216
                obtain ⟨S219, hS220, hf221⟩ := hphi203 9 43 _ rfl rfl rfl
                obtain ⟨e222, hr223⟩ := hf221
                refine OpX.call rfl (op_callV e208 ok_number (args3 e212 e217 e222)) (Ret.mono (call_number wd200 (k28 : Int) (k58 : Int) (k84 : Int) x224 hS204.ext hr213 hr218 hr223 hx225) ?_)
                rintro _ wd226 ⟨rfl, hr228, he227⟩
                exact ⟨he227, _, noS _ _, ⟨rfl, hr228⟩⟩
              · refine ObX.op rfl fun f229 wd230 he231 hout232 hphi233 => ?_
                have hS234 := St.extend hS108 he231
                obtain ⟨S235, hS236, hf237⟩ := hphi233 5 39 _ rfl rfl rfl
                obtain ⟨e238, hr239⟩ := hf237
                obtain ⟨S240, hS241, hf242⟩ := hphi233 10 44 _ rfl rfl rfl
                obtain ⟨e243, hr244⟩ := hf242
                refine OpX.call rfl (op_call fn_56 (args2 e238 e243)) (Ret.mono (c_impl_Cocycle_rest (St.rep (t := (Ty.sl (Ty.i .i64))) hS234 1 rfl) hr239 (St.rep (t := (Ty.sl (Ty.sl (Ty.sl (Ty.i .i64))))) hS234 3 rfl) hr244 hx246) ?_)
                rintro _ wd248 ⟨rfl, hr247, he249⟩
                exact ⟨he249, _, noS _ _, ⟨rfl, hr247⟩⟩
              · intro f251 wd252 Ss253 he254 hout255 hSn256 hSd257 hphi258
                show WL _ _ _ _ _ _ _
                have hS259 := St.extend hS108 he254
                have e260 : f251 37 = u154 := hphi258 3 37 _ (by decide) rfl rfl
                obtain ⟨e261, hr262⟩ := hphi258 4 38 _ (by decide) rfl rfl
                obtain ⟨e263, hr264⟩ := hphi258 11 45 _ (by decide) rfl rfl
                have e265 : f251 2 = (Value.func (.func g_number) fst_number cap_number) := (hout255 2 rfl).trans hf94
                have e266 : f251 6 = (Value.pointer (some ⟨b1, 0, none⟩)) := (hout255 6 rfl).trans hf95
                have e267 : f251 7 = (Value.pointer (some ⟨b19, 0, none⟩)) := (hout255 7 rfl).trans hf96
                have e268 : f251 8 = (Value.int .i64 x12) := (hout255 8 rfl).trans hf97
                have e269 : f251 9 = (Value.int .i64 (k28 : Int)) := (hout255 9 rfl).trans hf98
                have e270 : f251 10 = u51 := (hout255 10 rfl).trans hf99
                have e271 : f251 11 = (Value.int .i64 (k58 : Int)) := (hout255 11 rfl).trans hf100
                have e272 : f251 19 = (Value.int .i64 x12) := (hout255 19 rfl).trans hf101
                have e273 : f251 20 = (Value.int .i64 (k28 : Int)) := (hout255 20 rfl).trans hf102
                have e274 : f251 26 = (Value.int .i64 x12) := (hout255 26 rfl).trans hf103
                have e275 : f251 27 = (Value.int .i64 (k58 : Int)) := (hout255 27 rfl).trans hf104
                have e276 : f251 30 = (Value.int .i64 x12) := (hout255 30 rfl).trans hf105
                have e277 : f251 31 = (Value.int .i64 (k84 : Int)) := (hout255 31 rfl).trans hf106
                obtain ⟨x278, hx281, hb90⟩ := bs hb90
                obtain ⟨ha279, hb280, hx281⟩ := idx_some hx281
                refine WL.val (Value.pointer (some (elA u154 ((k84 : Int)).toNat))) _ (op_idx sl_22 (Ty.lift _ he254 hr156) e260 e261 ha279 hb280) rfl ?_
                refine WL.storeEl2 (flat_i .i64) hS259 (k := 4) rfl sz_2 hx143 (Ext.cell he254 hc155) rfl e263 (lt_of_idx ha279 hb280) ⟨rfl, hr264⟩ ?_
                intro wd282 hS283
                replace hS283 : St w wd282 [bx b1 [(Value.slice none 0 0), (Value.int .i64 (0 : Int)), (Value.slice none 0 0)], (Ty.sl (Ty.i .i64)).at u7 x5, bx b19 [u7, (Value.int .i64 m), u38], (Ty.sl (Ty.sl (Ty.sl (Ty.i .i64)))).at u38 x29, (Ty.sl (Ty.sl (Ty.i .i64))).at u51 ((x85).set ((k58 : Int)).toNat ((x140).set ((k84 : Int)).toNat x245))] := hS283
                refine WL.nil ?_
                show W _ _ _ _ _ _
                refine W.region ?_
                refine WL.val (Value.int .i64 (w64 ((k84 : Int) + (1 : Int)))) _ (op_add e277 rfl) rfl ?_
                refine WL.val (Value.int .i64 (w64 ((k84 : Int) + (1 : Int)))) _ (op_move rfl) rfl ?_
                refine WL.nil ?_
                obtain rfl := Option.some.inj hb90
                show ∃ s, _ = Ctl.next s ∧ _
                exact ⟨_, rfl, e265, e266, e267, e268, e269, e270, e271, e272, e273, e274, e275, e276, (ctr_next hl109 hr14), (ctr_rng hl109 hr14), hS283⟩
            · intro x290 f285 wd286 hs287 hI288
              replace hI288 : f285 2 = (Value.func (.func g_number) fst_number cap_number) ∧ f285 6 = (Value.pointer (some ⟨b1, 0, none⟩)) ∧ f285 7 = (Value.pointer (some ⟨b19, 0, none⟩)) ∧ f285 8 = (Value.int .i64 x12) ∧ f285 9 = (Value.int .i64 (k28 : Int)) ∧ f285 10 = u51 ∧ f285 11 = (Value.int .i64 (k58 : Int)) ∧ f285 19 = (Value.int .i64 x12) ∧ f285 20 = (Value.int .i64 (k28 : Int)) ∧ f285 26 = (Value.int .i64 x12) ∧ f285 27 = (Value.int .i64 (k58 : Int)) ∧ f285 30 = (Value.int .i64 x12) ∧ f285 31 = Value.int .i64 (((x12).toNat : Nat) : Int) ∧ InR .i64 (((x12).toNat : Nat) : Int) ∧ St w wd286 [bx b1 [(Value.slice none 0 0), (Value.int .i64 (0 : Int)), (Value.slice none 0 0)], (Ty.sl (Ty.i .i64)).at u7 x5, bx b19 [u7, (Value.int .i64 m), u38], (Ty.sl (Ty.sl (Ty.sl (Ty.i .i64)))).at u38 x29, (Ty.sl (Ty.sl (Ty.i .i64))).at u51 x290] := hI288
              obtain ⟨hf291, hf292, hf293, hf294, hf295, hf296, hf297, hf298, hf299, hf300, hf301, hf302, hf303, hr304, hS305⟩ := hI288
              refine W.seq (W.region ?_)
              refine WL.val (Value.bool (decide ((((x12).toNat : Nat) : Int) < x12))) _ (op_lss hf303 hf302) rfl ?_
              have hl306 : ¬ (((x12).toNat : Nat) : Int) < x12 := by omega
              refine WL.nil ?_
              refine W.seq ?_
              refine W.condF (decide ((((x12).toNat : Nat) : Int) < x12)) rfl (decide_eq_false hl306) ?_
              refine W.exit ?_
              show _ = _ ∧ _
              exact ⟨rfl, _, hs287, hf291, hf292, hf293, hf294, hf295, hf296, hf298, hf299, hf300, hf301, hS305⟩
          · rintro f307 wd308 ⟨x311, rfl, hq309⟩
            replace hb64 := onRes_fin hb64
            replace hq309 : f307 2 = (Value.func (.func g_number) fst_number cap_number) ∧ f307 6 = (Value.pointer (some ⟨b1, 0, none⟩)) ∧ f307 7 = (Value.pointer (some ⟨b19, 0, none⟩)) ∧ f307 8 = (Value.int .i64 x12) ∧ f307 9 = (Value.int .i64 (k28 : Int)) ∧ f307 10 = u51 ∧ f307 19 = (Value.int .i64 x12) ∧ f307 20 = (Value.int .i64 (k28 : Int)) ∧ f307 26 = (Value.int .i64 x12) ∧ f307 27 = (Value.int .i64 (k58 : Int)) ∧ St w wd308 [bx b1 [(Value.slice none 0 0), (Value.int .i64 (0 : Int)), (Value.slice none 0 0)], (Ty.sl (Ty.i .i64)).at u7 x5, bx b19 [u7, (Value.int .i64 m), u38], (Ty.sl (Ty.sl (Ty.sl (Ty.i .i64)))).at u38 x29, (Ty.sl (Ty.sl (Ty.i .i64))).at u51 x311] := hq309
            obtain ⟨hf312, hf313, hf314, hf315, hf316, hf317, hf318, hf319, hf320, hf321, hS322⟩ := hq309
            show W _ _ _ _ _ _
            refine W.region ?_
            refine WL.val (Value.int .i64 (w64 ((k58 : Int) + (1 : Int)))) _ (op_add hf321 rfl) rfl ?_
            refine WL.val (Value.int .i64 (w64 ((k58 : Int) + (1 : Int)))) _ (op_move rfl) rfl ?_
            refine WL.nil ?_
            obtain rfl := Option.some.inj hb64
            show ∃ s, _ = Ctl.next s ∧ _
            exact ⟨_, rfl, hf312, hf313, hf314, hf315, hf316, hf317, hf318, hf319, hf320, (ctr_next hl80 hr14), (ctr_rng hl80 hr14), hS322⟩
        · intro x330 f325 wd326 hs327 hI328
          replace hI328 : f325 2 = (Value.func (.func g_number) fst_number cap_number) ∧ f325 6 = (Value.pointer (some ⟨b1, 0, none⟩)) ∧ f325 7 = (Value.pointer (some ⟨b19, 0, none⟩)) ∧ f325 8 = (Value.int .i64 x12) ∧ f325 9 = (Value.int .i64 (k28 : Int)) ∧ f325 10 = u51 ∧ f325 19 = (Value.int .i64 x12) ∧ f325 20 = (Value.int .i64 (k28 : Int)) ∧ f325 26 = (Value.int .i64 x12) ∧ f325 27 = Value.int .i64 (((x12).toNat : Nat) : Int) ∧ InR .i64 (((x12).toNat : Nat) : Int) ∧ St w wd326 [bx b1 [(Value.slice none 0 0), (Value.int .i64 (0 : Int)), (Value.slice none 0 0)], (Ty.sl (Ty.i .i64)).at u7 x5, bx b19 [u7, (Value.int .i64 m), u38], (Ty.sl (Ty.sl (Ty.sl (Ty.i .i64)))).at u38 x29, (Ty.sl (Ty.sl (Ty.i .i64))).at u51 x330] := hI328
          obtain ⟨hf331, hf332, hf333, hf334, hf335, hf336, hf337, hf338, hf339, hf340, hr341, hS342⟩ := hI328
          refine W.seq (W.region ?_)
          refine WL.val (Value.bool (decide ((((x12).toNat : Nat) : Int) < x12))) _ (op_lss hf340 hf339) rfl ?_
          have hl343 : ¬ (((x12).toNat : Nat) : Int) < x12 := by omega
          refine WL.nil ?_
          refine W.seq ?_
          refine W.condF (decide ((((x12).toNat : Nat) : Int) < x12)) rfl (decide_eq_false hl343) ?_
          refine W.exit ?_
          show _ = _ ∧ _
          exact ⟨rfl, _, hs327, hf331, hf332, hf333, hf334, hf336, hf337, hf338, hS342⟩
      · rintro f344 wd345 ⟨x348, rfl, hq346⟩
        replace hb34 := onRes_fin hb34
        replace hq346 : f344 2 = (Value.func (.func g_number) fst_number cap_number) ∧ f344 6 = (Value.pointer (some ⟨b1, 0, none⟩)) ∧ f344 7 = (Value.pointer (some ⟨b19, 0, none⟩)) ∧ f344 8 = (Value.int .i64 x12) ∧ f344 10 = u51 ∧ f344 19 = (Value.int .i64 x12) ∧ f344 20 = (Value.int .i64 (k28 : Int)) ∧ St w wd345 [bx b1 [(Value.slice none 0 0), (Value.int .i64 (0 : Int)), (Value.slice none 0 0)], (Ty.sl (Ty.i .i64)).at u7 x5, bx b19 [u7, (Value.int .i64 m), u38], (Ty.sl (Ty.sl (Ty.sl (Ty.i .i64)))).at u38 x29, (Ty.sl (Ty.sl (Ty.i .i64))).at u51 x348] := hq346
        obtain ⟨hf349, hf350, hf351, hf352, hf353, hf354, hf355, hS356⟩ := hq346
        show W _ _ _ _ _ _
        refine W.region ?_
        refine WL.val (Value.pointer (some ⟨b19, 2, none⟩)) _ (op_fieldAddr fd_29_2 hf351) rfl ?_
        refine WL.val u38 _ (op_load one_23 rfl (BoxAt.cell (St.boxAt hS356 2 rfl) rfl)) rfl ?_
        refine WL.val u51 _ (op_move hf353) rfl ?_
        refine WL.lit [u51] hS356 sl_23 rfl rfl (fillL rfl ⟨rfl, rfl, (cells_rep (St.rep (t := (Ty.sl (Ty.sl (Ty.i .i64)))) hS356 4 rfl)), trivial⟩) rfl rfl ?_
        intro b361 wd358 hS359 he360 hx362
        replace hS359 : St w wd358 [bx b1 [(Value.slice none 0 0), (Value.int .i64 (0 : Int)), (Value.slice none 0 0)], (Ty.sl (Ty.i .i64)).at u7 x5, bx b19 [u7, (Value.int .i64 m), u38], (Ty.sl (Ty.sl (Ty.sl (Ty.i .i64)))).at u38 x29, (Ty.sl (Ty.sl (Ty.i .i64))).at u51 x348, bx b361 [u51]] := hS359
        obtain ⟨x363, hx364, hb34⟩ := bs hb34
        refine WL.appendRow hS359 (k := 3) (k2 := 4) (k3 := 5) rfl rfl rfl rfl sl_23 rfl rfl rfl rfl hx364 rfl ?_
        intro u365 wd366 hS367 hz368
        replace hS367 : St w wd366 [bx b1 [(Value.slice none 0 0), (Value.int .i64 (0 : Int)), (Value.slice none 0 0)], (Ty.sl (Ty.i .i64)).at u7 x5, bx b19 [u7, (Value.int .i64 m), u38], (Ty.sl (Ty.sl (Ty.sl (Ty.i .i64)))).at u365 x363, emp, bx b361 [u51]] := hS367
        refine WL.val (Value.pointer (some ⟨b19, 2, none⟩)) _ (op_fieldAddr fd_29_2 hf351) rfl ?_
        refine WL.storeBox [u7, (Value.int .i64 m), u365] hS367 (k := 2) rfl rfl rfl (us := [u365]) (cells_rep (St.rep (t := (Ty.sl (Ty.sl (Ty.sl (Ty.i .i64))))) hS367 3 rfl)) sz_23 rfl rfl (all_rep (St.rep (t := (Ty.sl (Ty.sl (Ty.sl (Ty.i .i64))))) hS367 3 rfl) all_nil) rfl ?_
        intro wd369 hS370
        replace hS370 : St w wd369 [bx b1 [(Value.slice none 0 0), (Value.int .i64 (0 : Int)), (Value.slice none 0 0)], (Ty.sl (Ty.i .i64)).at u7 x5, bx b19 [u7, (Value.int .i64 m), u365], (Ty.sl (Ty.sl (Ty.sl (Ty.i .i64)))).at u365 x363, emp, bx b361 [u51]] := hS370
        refine WL.nil ?_
        show W _ _ _ _ _ _
        refine W.region ?_
        refine WL.val (Value.int .i64 (w64 ((k28 : Int) + (1 : Int)))) _ (op_add hf355 rfl) rfl ?_
        refine WL.val (Value.int .i64 (w64 ((k28 : Int) + (1 : Int)))) _ (op_move rfl) rfl ?_
        refine WL.nil ?_
        obtain rfl := Option.some.inj hb34
        show ∃ s, _ = Ctl.next s ∧ _
        exact ⟨_, rfl, u365, hf349, hf350, hf351, hf352, hf354, (ctr_next hl47 hr14), (ctr_rng hl47 hr14), (St.pick hS370 [0, 1, 2, 3] rfl)⟩
    · intro x378 f373 wd374 hs375 hI376
      replace hI376 : ∃ (uu0 : Value), f373 2 = (Value.func (.func g_number) fst_number cap_number) ∧ f373 6 = (Value.pointer (some ⟨b1, 0, none⟩)) ∧ f373 7 = (Value.pointer (some ⟨b19, 0, none⟩)) ∧ f373 8 = (Value.int .i64 x12) ∧ f373 19 = (Value.int .i64 x12) ∧ f373 20 = Value.int .i64 (((x12).toNat : Nat) : Int) ∧ InR .i64 (((x12).toNat : Nat) : Int) ∧ St w wd374 [bx b1 [(Value.slice none 0 0), (Value.int .i64 (0 : Int)), (Value.slice none 0 0)], (Ty.sl (Ty.i .i64)).at u7 x5, bx b19 [u7, (Value.int .i64 m), uu0], (Ty.sl (Ty.sl (Ty.sl (Ty.i .i64)))).at uu0 x378] := hI376
      obtain ⟨u379, hf380, hf381, hf382, hf383, hf384, hf385, hr386, hS387⟩ := hI376
      refine W.seq (W.region ?_)
      refine WL.val (Value.bool (decide ((((x12).toNat : Nat) : Int) < x12))) _ (op_lss hf385 hf384) rfl ?_
      have hl388 : ¬ (((x12).toNat : Nat) : Int) < x12 := by omega
      refine WL.nil ?_
      refine W.seq ?_
      refine W.condF (decide ((((x12).toNat : Nat) : Int) < x12)) rfl (decide_eq_false hl388) ?_
      refine W.exit ?_
      show _ = _ ∧ _
      exact ⟨rfl, _, hs375, u379, hf381, hf382, hS387⟩
  · rintro f389 wd390 ⟨x393, rfl, hq391⟩
    replace h := onRes_fin h
    replace hq391 : ∃ (uu0 : Value), f389 6 = (Value.pointer (some ⟨b1, 0, none⟩)) ∧ f389 7 = (Value.pointer (some ⟨b19, 0, none⟩)) ∧ St w wd390 [bx b1 [(Value.slice none 0 0), (Value.int .i64 (0 : Int)), (Value.slice none 0 0)], (Ty.sl (Ty.i .i64)).at u7 x5, bx b19 [u7, (Value.int .i64 m), uu0], (Ty.sl (Ty.sl (Ty.sl (Ty.i .i64)))).at uu0 x393] := hq391
    obtain ⟨u394, hf395, hf396, hS397⟩ := hq391
    refine W.seq (W.region ?_)
    refine WL.val (Value.agg #[u7, (Value.int .i64 m), u394]) _ (op_loadBox st_29 hf396 (St.boxAt hS397 2 rfl) rfl rfl) rfl ?_
    refine WL.storeBox [u7, (Value.int .i64 m), u394] hS397 (k := 0) rfl hf395 rfl (us := [u7, (Value.int .i64 m), u394]) rfl sz_29 rfl rfl (all_rep (St.rep (t := (Ty.sl (Ty.i .i64))) hS397 1 rfl) (all_cons rfl (all_rep (St.rep (t := (Ty.sl (Ty.sl (Ty.sl (Ty.i .i64))))) hS397 3 rfl) all_nil))) rfl ?_
    intro wd398 hS399
    replace hS399 : St w wd398 [bx b1 [u7, (Value.int .i64 m), u394], (Ty.sl (Ty.i .i64)).at u7 x5, bx b19 [u7, (Value.int .i64 m), u394], (Ty.sl (Ty.sl (Ty.sl (Ty.i .i64)))).at u394 x393] := hS399
    refine WL.nil ?_
    refine W.ret ?_
    obtain rfl := Option.some.inj h
    show FinP _ _ _ _ _ _ _
    exact FinP.ret _ (resC rfl hf395 st_29 (St.boxAt hS399 0 rfl) rfl) ⟨u7, u394, rfl, r_m, hS399.ext, (St.out (St.pick hS399 [1, 3] rfl) (Ext.refl _))⟩

theorem c_impl_coboundary {w : World} {orders : (List Int)} {v_orders : Value} {m : Int} {f1 : (List (List Int))} {v_f1 : Value} (r_orders : (Ty.sl (Ty.i .i64)).rep w v_orders orders) (r_m : InR .i64 m) (r_f1 : (Ty.sl (Ty.sl (Ty.i .i64))).rep w v_f1 f1) {res : (List Int) × Int × (List (List (List Int)))} (h : p_impl_coboundary orders m f1  = some res) :
    Ret Try.prog 39 #[v_orders, (Value.int .i64 m), v_f1] w (fun v w' => ∃ (u0 : Value) (u2 : Value), v = (Value.agg #[u0, Value.int .i64 res.2.1, u2]) ∧ InR .i64 res.2.1 ∧ Ext w w' ∧ Sep w.heap.size w' [(Ty.sl (Ty.i .i64)).at u0 res.1, (Ty.sl (Ty.sl (Ty.sl (Ty.i .i64)))).at u2 res.2.2]) := by
  unfold p_impl_coboundary at h
  have hS0 : St w w [] := St.start w
  refine Ret.start (fn := Try.f39) Try.func39 rfl 15 rfl rfl ?_
  refine W.seq (W.region ?_)
  refine WL.box hS0 rfl (cs := [v_f1]) (cells_rep (Ty.lift _ hS0.ext r_f1)) rfl ?_
  intro b1 wd2 hS3 he4 hx5
  replace hS3 : St w wd2 [bx b1 [v_f1]] := hS3
  have hx6 := St.boxAt hS3 0 rfl
  have hE7 : Ext w wd2 := hS3.ext
  have hS8 : St wd2 wd2 [] := St.start wd2
  refine WL.alloc hS8 ze_29 (cs := [(Value.slice none 0 0), (Value.int .i64 (0 : Int)), (Value.slice none 0 0)]) rfl rfl ?_
  intro b9 wd10 hS11 he12
  replace hS11 : St wd2 wd10 [bx b9 [(Value.slice none 0 0), (Value.int .i64 (0 : Int)), (Value.slice none 0 0)]] := hS11
  refine WL.nil ?_
  refine W.seq (W.region ?_)
  refine WL.val v_orders _ (op_move rfl) rfl ?_
  refine WL.val (Value.int .i64 m) _ (op_move rfl) rfl ?_
  refine WL.val (Value.agg #[v_orders, (Value.int .i64 m), (Value.slice none 0 0)]) _ (op_build bd_29 (parts := [(0, v_orders, [v_orders]), (1, (Value.int .i64 m), [(Value.int .i64 m)])]) (partsL ⟨rfl, rfl, rfl, rfl, trivial⟩) ⟨(cells_rep (Ty.lift _ (Ext.trans hE7 hS11.ext) r_orders)), rfl, trivial⟩ rfl) rfl ?_
  refine WL.alloc hS11 ze_29 (cs := [(Value.slice none 0 0), (Value.int .i64 (0 : Int)), (Value.slice none 0 0)]) rfl rfl ?_
  intro b13 wd14 hS15 he16
  replace hS15 : St wd2 wd14 [bx b9 [(Value.slice none 0 0), (Value.int .i64 (0 : Int)), (Value.slice none 0 0)], bx b13 [(Value.slice none 0 0), (Value.int .i64 (0 : Int)), (Value.slice none 0 0)]] := hS15
  have hS19 := St.addNil (Ty.sl (Ty.sl (Ty.i .i64))) hS15
  replace hS19 : St wd2 wd14 [bx b9 [(Value.slice none 0 0), (Value.int .i64 (0 : Int)), (Value.slice none 0 0)], bx b13 [(Value.slice none 0 0), (Value.int .i64 (0 : Int)), (Value.slice none 0 0)], (Ty.sl (Ty.sl (Ty.sl (Ty.i .i64)))).at (Value.slice none 0 0) ([] : (List (List (List Int))))] := hS19
  refine WL.storeBox [v_orders, (Value.int .i64 m), (Value.slice none 0 0)] hS19 (k := 1) rfl rfl rfl (us := [v_orders, (Value.int .i64 m), (Value.slice none 0 0)]) rfl sz_29 rfl rfl (all_rep (Ty.lift _ (Ext.trans hE7 hS19.ext) r_orders) (all_cons rfl (all_rep (St.rep (t := (Ty.sl (Ty.sl (Ty.sl (Ty.i .i64))))) hS19 2 rfl) all_nil))) rfl ?_
  intro wd17 hS18
  replace hS18 : St wd2 wd17 [bx b9 [(Value.slice none 0 0), (Value.int .i64 (0 : Int)), (Value.slice none 0 0)], bx b13 [v_orders, (Value.int .i64 m), (Value.slice none 0 0)], (Ty.sl (Ty.sl (Ty.sl (Ty.i .i64)))).at (Value.slice none 0 0) ([] : (List (List (List Int))))] := hS18
  refine WL.nil ?_
  refine W.seq (W.region ?_)
  refine WL.val v_orders _ (op_move rfl) rfl ?_
  refine WL.val (Value.int .i64 m) _ (op_move rfl) rfl ?_
  refine WL.val (Value.func (.func 58) #[] #[(Value.pointer (some ⟨b1, 0, none⟩)), (Value.pointer (some ⟨b13, 0, none⟩))]) _ (op_makeFunc (va := #[]) (vb := #[(Value.pointer (some ⟨b1, 0, none⟩)), (Value.pointer (some ⟨b13, 0, none⟩))]) args0 (args2 rfl rfl)) rfl ?_
  obtain ⟨x24, hx25, h⟩ := bs h
  refine WL.call _ (op_call fn_57 (args3 rfl rfl rfl)) (c_impl_cocycleBy (Ty.lift _ (Ext.trans hE7 hS18.ext) r_orders) r_m (⟨58, #[], #[(Value.pointer (some ⟨b1, 0, none⟩)), (Value.pointer (some ⟨b13, 0, none⟩))], rfl, fn_58, fun wd20 a0_21 a1_21 a2_21 r22 he21 ra0_21 ra1_21 ra2_21 hq23 => c_impl_coboundary_c1 ra0_21 ra1_21 ra2_21 (BoxAt.lift (Ext.trans hS18.ext he21) hx6) (Ty.lift _ (Ext.trans (Ext.trans hE7 hS18.ext) he21) r_f1) (BoxAt.lift he21 (St.boxAt hS18 1 rfl)) (Ty.lift _ (Ext.trans (Ext.trans hE7 hS18.ext) he21) r_orders) r_m (Ty.lift _ he21 (St.rep (t := (Ty.sl (Ty.sl (Ty.sl (Ty.i .i64))))) hS18 2 rfl)) hq23⟩) hx25) rfl ?_
  rintro _ wd29 ⟨u26, u28, rfl, hr27, he30, hs31⟩
  have hS32 := St.join hS18 he30 hs31
  replace hS32 : St wd2 wd29 [bx b9 [(Value.slice none 0 0), (Value.int .i64 (0 : Int)), (Value.slice none 0 0)], bx b13 [v_orders, (Value.int .i64 m), (Value.slice none 0 0)], (Ty.sl (Ty.sl (Ty.sl (Ty.i .i64)))).at (Value.slice none 0 0) ([] : (List (List (List Int)))), (Ty.sl (Ty.i .i64)).at u26 x24.1, (Ty.sl (Ty.sl (Ty.sl (Ty.i .i64)))).at u28 x24.2.2] := hS32
  refine WL.storeBox [u26, (Value.int .i64 x24.2.1), u28] hS32 (k := 0) rfl rfl rfl (us := [u26, (Value.int .i64 x24.2.1), u28]) rfl sz_29 rfl rfl (all_rep (St.rep (t := (Ty.sl (Ty.i .i64))) hS32 3 rfl) (all_cons rfl (all_rep (St.rep (t := (Ty.sl (Ty.sl (Ty.sl (Ty.i .i64))))) hS32 4 rfl) all_nil))) rfl ?_
  intro wd33 hS34
  replace hS34 : St wd2 wd33 [bx b9 [u26, (Value.int .i64 x24.2.1), u28], bx b13 [v_orders, (Value.int .i64 m), (Value.slice none 0 0)], (Ty.sl (Ty.sl (Ty.sl (Ty.i .i64)))).at (Value.slice none 0 0) ([] : (List (List (List Int)))), (Ty.sl (Ty.i .i64)).at u26 x24.1, (Ty.sl (Ty.sl (Ty.sl (Ty.i .i64)))).at u28 x24.2.2] := hS34
  refine WL.nil ?_
  refine W.ret ?_
  obtain rfl := Option.some.inj h
  show FinP _ _ _ _ _ _ _
  exact FinP.ret _ (resC rfl rfl st_29 (St.boxAt hS34 0 rfl) rfl) ⟨u26, u28, rfl, hr27, (Ext.trans hE7 hS34.ext), (St.out (St.pick hS34 [3, 4] rfl) (hE7))⟩

theorem c_slices_Grow_Lint64_int64 {w : World} {s : List Int} {n : Int} (r_s : (Ty.sl (Ty.i .i64)).rep w (Value.slice none 0 0) s) (r_n : InR .i64 n) {res : List Int} (h : p_slices_Grow_Lint64_int64 s n = some res) :
    Ret Try.prog 59 #[(Value.slice none 0 0), (Value.int .i64 n)] w (fun v w' => ∃ (u0 : Value), v = u0 ∧ Ext w w' ∧ Sep w.heap.size w' [(Ty.sl (Ty.i .i64)).at u0 res]) := by
  obtain ⟨rfl, h0, h1, rfl⟩ := growP_some h
  have eM := grow_len h0 h1 (α := Int)
  refine Ret.start (fn := Try.f59) Try.func59 rfl 27 rfl rfl ?_
  refine W.seq (W.region ?_)
  refine WL.val (Value.slice none 0 0) _ (op_assign rfl) rfl ?_
  refine WL.nil ?_
  refine W.seq (W.seq (W.region ?_))
  refine WL.val (Value.int .i64 n) _ (op_move rfl) rfl ?_
  refine WL.val (Value.bool (decide (n < (0 : Int)))) _ (op_lss rfl rfl) rfl ?_
  refine WL.nil ?_
  refine W.condF (decide (n < (0 : Int))) rfl (by simpa using h0) ?_
  refine W.skip ?_
  refine W.seq (W.seq (W.region ?_))
  refine WL.val (Value.int .i64 n) _ (op_move rfl) rfl ?_
  refine WL.val (Value.slice none 0 0) _ (op_move rfl) rfl ?_
  refine WL.val (Value.int .i64 ((0 : Nat) : Int)) _ (op_cap rfl sl_22.1) rfl ?_
  refine WL.val (Value.slice none 0 0) _ (op_move rfl) rfl ?_
  refine WL.val (Value.int .i64 (([] : List Int).length : Int)) _ (op_lenL (t := (Ty.i .i64)) sl_22 (Ty.lift _ (Ext.refl _) r_s) rfl) rfl ?_
  refine WL.val (Value.int .i64 (w64 (((0 : Nat) : Int) - (([] : List Int).length : Int)))) _ (op_sub rfl rfl) rfl ?_
  refine WL.val (Value.int .i64 (w64 (n - (w64 (((0 : Nat) : Int) - (([] : List Int).length : Int)))))) _ (op_sub rfl rfl) rfl ?_
  refine WL.val (Value.int .i64 (w64 (n - (w64 (((0 : Nat) : Int) - (([] : List Int).length : Int)))))) _ (op_assign rfl) rfl ?_
  refine WL.nil ?_
  refine W.seq (W.region ?_)
  refine WL.val (Value.int .i64 (w64 (n - (w64 (((0 : Nat) : Int) - (([] : List Int).length : Int)))))) _ (op_move rfl) rfl ?_
  refine WL.val (Value.bool (decide ((w64 (n - (w64 (((0 : Nat) : Int) - (([] : List Int).length : Int))))) > (0 : Int)))) _ (op_gtr rfl rfl) rfl ?_
  refine WL.nil ?_
  refine W.cond (decide ((w64 (n - (w64 (((0 : Nat) : Int) - (([] : List Int).length : Int))))) > (0 : Int))) rfl (fun hc => ?_) (fun hc => ?_)
  · refine W.region ?_
    refine WL.val (Value.slice none 0 0) _ (op_move rfl) rfl ?_
    refine WL.val (Value.slice none 0 0) _ (op_move rfl) rfl ?_
    refine WL.val (Value.int .i64 ((0 : Nat) : Int)) _ (op_cap rfl sl_22.1) rfl ?_
    refine WL.val (Value.slice none 0 0) _ (op_cut0 sl_22 rfl rfl (.inl rfl)) rfl ?_
    refine WL.val (Value.int .i64 (w64 (n - (w64 (((0 : Nat) : Int) - (([] : List Int).length : Int)))))) _ (op_move rfl) rfl ?_
    refine WL.appMake (m := n.toNat) sl_22 rfl rfl int_3 rfl rfl (eM.trans (Int.toNat_of_nonneg h0).symm) (by rw [eM] at hc; have := of_decide_eq_true hc; omega) (by omega) rfl ?_
    rintro c w1 he ⟨vs, T1, hb, hv, hm, hl⟩
    refine WL.val (Value.slice none 0 0) _ (op_move rfl) rfl ?_
    refine WL.val (Value.int .i64 (([] : List Int).length : Int)) _ (op_lenL (t := (Ty.i .i64)) sl_22 (Ty.lift _ he r_s) rfl) rfl ?_
    refine WL.val (Value.slice (some ⟨w.heap.size, 0, none⟩) 0 c) _ (op_cut0 sl_22 rfl rfl (.inr ⟨_, rfl⟩)) rfl ?_
    refine WL.val (Value.slice (some ⟨w.heap.size, 0, none⟩) 0 c) _ (op_assign rfl) rfl ?_
    refine WL.nil ?_
    refine W.seq (W.region ?_)
    refine WL.val (Value.slice (some ⟨w.heap.size, 0, none⟩) 0 c) _ (op_move rfl) rfl ?_
    refine WL.val (Value.slice (some ⟨w.heap.size, 0, none⟩) 0 c) _ (op_assign rfl) rfl ?_
    refine WL.nil ?_
    refine W.ret ?_
    show FinP _ _ _ _ _ _ _
    exact FinP.ret _ (res1 rfl rfl) ⟨_, rfl, he, grow_sep (w := w) (Nat.le_refl _) hb hv hm hl⟩
  · refine W.skip ?_
    refine W.seq (W.region ?_)
    refine WL.val (Value.slice none 0 0) _ (op_move rfl) rfl ?_
    refine WL.val (Value.slice none 0 0) _ (op_assign rfl) rfl ?_
    refine WL.nil ?_
    refine W.ret ?_
    show FinP _ _ _ _ _ _ _
    exact FinP.ret _ (res1 rfl rfl) ⟨_, rfl, Ext.refl _, nil_sep⟩

theorem c_slices_Concat_Lint64_int64 {w : World} {slices : (List (List Int))} {v_slices : Value} (r_slices : (Ty.sl (Ty.sl (Ty.i .i64))).rep w v_slices slices) {res : (List Int)} (h : p_slices_Concat_Lint64_int64 slices  = some res) :
    Ret Try.prog 43 #[v_slices] w (fun v w' => ∃ (u0 : Value), v = u0 ∧ Ext w w' ∧ Sep w.heap.size w' [(Ty.sl (Ty.i .i64)).at u0 res]) := by
  unfold p_slices_Concat_Lint64_int64 at h
  have hS0 : St w w [] := St.start w
  refine Ret.start (fn := Try.f43) Try.func43 rfl 36 rfl rfl ?_
  refine W.seq (W.region ?_)
  refine WL.val (Value.slice none 0 0) _ (op_assign rfl) rfl ?_
  refine WL.nil ?_
  refine W.seq (W.region ?_)
  refine WL.val (Value.int .i64 (0 : Int)) _ (op_assign rfl) rfl ?_
  refine WL.nil ?_
  refine W.seq (W.seq (W.region ?_))
  refine WL.val v_slices _ (op_move rfl) rfl ?_
  have hr1 := inR_len (Ty.lift _ hS0.ext r_slices)
  refine WL.val (Value.int .i64 ((slices).length : Int)) _ (op_lenL sl_37 (Ty.lift _ hS0.ext r_slices) rfl) rfl ?_
  refine WL.val (Value.int .i64 (0 : Int)) _ (op_move rfl) rfl ?_
  refine WL.nil ?_
  show W _ _ _ _ _ _
  obtain ⟨res2, hres3, h⟩ := bs h
  refine W.blockLoop (fun fq wq => ∃ s, res2 = Res.fin s ∧ fq 0 = v_slices ∧ fq 3 = Value.int .i64 s ∧ InR .i64 s ∧ St w wq []) ?_ ?_
  · refine W.forN (fun k (s : Int) fq wq => fq 0 = v_slices ∧ fq 3 = Value.int .i64 s ∧ InR .i64 s ∧ fq 9 = v_slices ∧ fq 10 = (Value.int .i64 ((slices).length : Int)) ∧ fq 11 = Value.int .i64 (k : Int) ∧ InR .i64 (k : Int) ∧ St w wq []) hres3 ⟨rfl, rfl, (inL rfl), rfl, rfl, rfl, (inL rfl), hS0⟩ ?_ ?_
    · intro k4 x5 ct6 f7 wd8 hk9 hb10 hI11 hbrk12 hret13
      replace hI11 : f7 0 = v_slices ∧ f7 3 = Value.int .i64 x5 ∧ InR .i64 x5 ∧ f7 9 = v_slices ∧ f7 10 = (Value.int .i64 ((slices).length : Int)) ∧ f7 11 = Value.int .i64 (k4 : Int) ∧ InR .i64 (k4 : Int) ∧ St w wd8 [] := hI11
      replace hb10 : p_slices_Concat_Lint64_int64_L1 slices k4 x5 = some ct6 := hb10
      unfold p_slices_Concat_Lint64_int64_L1 at hb10
      obtain ⟨hf14, hf15, hr16, hf17, hf18, hf19, hr20, hS21⟩ := hI11
      refine W.seq (W.region ?_)
      refine WL.val (Value.bool (decide ((k4 : Int) < ((slices).length : Int)))) _ (op_lss hf19 hf18) rfl ?_
      have hl22 : (k4 : Int) < ((slices).length : Int) := by omega
      refine WL.nil ?_
      refine W.seq ?_
      refine W.condT (decide ((k4 : Int) < ((slices).length : Int))) rfl (decide_eq_true hl22) ?_
      refine W.skip ?_
      refine W.seq ?_
      refine W.block ?_
      refine W.seq (W.region ?_)
      obtain ⟨x24, hx27, hb10⟩ := bs hb10
      obtain ⟨ha25, hb26, hx27⟩ := idx_some hx27
      refine WL.val (Value.pointer (some (elA v_slices ((k4 : Int)).toNat))) _ (op_idx sl_37 (Ty.lift _ hS21.ext r_slices) hf17 hf19 ha25 hb26) rfl ?_
      obtain ⟨u28, hc29, hr30⟩ := repSl.el r_slices hx27
      refine WL.val u28 _ (op_load one_22 rfl (Ext.cell hS21.ext hc29)) rfl ?_
      refine WL.val u28 _ (op_assign rfl) rfl ?_
      refine WL.nil ?_
      refine W.seq (W.region ?_)
      refine WL.val (Value.int .i64 x5) _ (op_move hf15) rfl ?_
      refine WL.val u28 _ (op_move rfl) rfl ?_
      have hr31 := inR_len (Ty.lift _ hS21.ext hr30)
      refine WL.val (Value.int .i64 ((x24).length : Int)) _ (op_lenL sl_22 (Ty.lift _ hS21.ext hr30) rfl) rfl ?_
      refine WL.val (Value.int .i64 (w64 (x5 + ((x24).length : Int)))) _ (op_add rfl rfl) rfl ?_
      refine WL.val (Value.int .i64 (w64 (x5 + ((x24).length : Int)))) _ (op_assign rfl) rfl ?_
      refine WL.nil ?_
      refine W.seq (W.region ?_)
      refine WL.val (Value.int .i64 (w64 (x5 + ((x24).length : Int)))) _ (op_move rfl) rfl ?_
      refine WL.val (Value.bool (decide ((w64 (x5 + ((x24).length : Int))) < (0 : Int)))) _ (op_lss rfl rfl) rfl ?_
      refine WL.nil ?_
      show W _ _ _ _ _ _
      obtain ⟨⟨⟩, hj32, hb10⟩ := bs hb10
      refine W.cutCode (fun fq wq => fq 0 = v_slices ∧ fq 3 = (Value.int .i64 (w64 (x5 + ((x24).length : Int)))) ∧ fq 9 = v_slices ∧ fq 10 = (Value.int .i64 ((slices).length : Int)) ∧ fq 11 = (Value.int .i64 (k4 : Int)) ∧ St w wq []) ?_ ?_
      · refine W.cond (decide ((w64 (x5 + ((x24).length : Int))) < (0 : Int))) rfl (fun hc33 => ?_) (fun hc33 => ?_)
        · replace hj32 := ip hj32 hc33
          refine W.region ?_
          exact (none_some hj32).elim
        · replace hj32 := inegb hj32 hc33
          refine W.skip ?_
          exact ⟨hf14, rfl, hf17, hf18, hf19, hS21⟩
      · intro f34 wd35 hq36
        obtain ⟨hf37, hf38, hf39, hf40, hf41, hS42⟩ := hq36
        show W _ _ _ _ _ _
        refine W.region ?_
        refine WL.val (Value.int .i64 (w64 ((k4 : Int) + (1 : Int)))) _ (op_add hf41 rfl) rfl ?_
        refine WL.val (Value.int .i64 (w64 ((k4 : Int) + (1 : Int)))) _ (op_move rfl) rfl ?_
        refine WL.nil ?_
        obtain rfl := Option.some.inj hb10
        show ∃ s, _ = Ctl.next s ∧ _
        exact ⟨_, rfl, hf37, hf38, (inR_wrap _ _), hf39, hf40, (ctr_next hl22 hr1), (ctr_rng hl22 hr1), hS42⟩
    · intro x49 f44 wd45 hs46 hI47
      replace hI47 : f44 0 = v_slices ∧ f44 3 = Value.int .i64 x49 ∧ InR .i64 x49 ∧ f44 9 = v_slices ∧ f44 10 = (Value.int .i64 ((slices).length : Int)) ∧ f44 11 = Value.int .i64 (((slices).length : Nat) : Int) ∧ InR .i64 (((slices).length : Nat) : Int) ∧ St w wd45 [] := hI47
      obtain ⟨hf50, hf51, hr52, hf53, hf54, hf55, hr56, hS57⟩ := hI47
      refine W.seq (W.region ?_)
      refine WL.val (Value.bool (decide ((((slices).length : Nat) : Int) < ((slices).length : Int)))) _ (op_lss hf55 hf54) rfl ?_
      have hl58 : ¬ (((slices).length : Nat) : Int) < ((slices).length : Int) := by omega
      refine WL.nil ?_
      refine W.seq ?_
      refine W.condF (decide ((((slices).length : Nat) : Int) < ((slices).length : Int))) rfl (decide_eq_false hl58) ?_
      refine W.exit ?_
      show _ = _ ∧ _
      exact ⟨rfl, _, hs46, hf50, hf51, hr52, hS57⟩
  · rintro f59 wd60 ⟨x63, rfl, hq61⟩
    replace h := onRes_fin h
    replace hq61 : f59 0 = v_slices ∧ f59 3 = Value.int .i64 x63 ∧ InR .i64 x63 ∧ St w wd60 [] := hq61
    obtain ⟨hf64, hf65, hr66, hS67⟩ := hq61
    refine W.seq (W.region ?_)
    refine WL.val (Value.int .i64 x63) _ (op_move hf65) rfl ?_
    obtain ⟨x68, hx69, h⟩ := bs h
    refine WL.call _ (op_call fn_59 (args2 rfl rfl)) (c_slices_Grow_Lint64_int64 (nilRep _ _) hr66 hx69) rfl ?_
    rintro u70 wd71 ⟨_, rfl, he72, hs73⟩
    have hS74 := St.join hS67 he72 hs73
    replace hS74 : St w wd71 [(Ty.sl (Ty.i .i64)).at u70 x68] := hS74
    refine WL.val u70 _ (op_assign rfl) rfl ?_
    refine WL.nil ?_
    refine W.seq (W.seq (W.region ?_))
    refine WL.val v_slices _ (op_move hf64) rfl ?_
    have hr75 := inR_len (Ty.lift _ hS74.ext r_slices)
    refine WL.val (Value.int .i64 ((slices).length : Int)) _ (op_lenL sl_37 (Ty.lift _ hS74.ext r_slices) rfl) rfl ?_
    refine WL.val (Value.int .i64 (0 : Int)) _ (op_move rfl) rfl ?_
    refine WL.nil ?_
    show W _ _ _ _ _ _
    obtain ⟨res76, hres77, h⟩ := bs h
    refine W.blockLoop (fun fq wq => ∃ s, res76 = Res.fin s ∧ ∃ (uu0 : Value), fq 6 = uu0 ∧ St w wq [(Ty.sl (Ty.i .i64)).at uu0 s]) ?_ ?_
    · refine W.forN (fun k (s : (List Int)) fq wq => ∃ (uu0 : Value), fq 6 = uu0 ∧ fq 25 = v_slices ∧ fq 26 = (Value.int .i64 ((slices).length : Int)) ∧ fq 27 = Value.int .i64 (k : Int) ∧ InR .i64 (k : Int) ∧ St w wq [(Ty.sl (Ty.i .i64)).at uu0 s]) hres77 ⟨u70, rfl, rfl, rfl, rfl, (inL rfl), hS74⟩ ?_ ?_
      · intro k78 x79 ct80 f81 wd82 hk83 hb84 hI85 hbrk86 hret87
        replace hI85 : ∃ (uu0 : Value), f81 6 = uu0 ∧ f81 25 = v_slices ∧ f81 26 = (Value.int .i64 ((slices).length : Int)) ∧ f81 27 = Value.int .i64 (k78 : Int) ∧ InR .i64 (k78 : Int) ∧ St w wd82 [(Ty.sl (Ty.i .i64)).at uu0 x79] := hI85
        replace hb84 : p_slices_Concat_Lint64_int64_L2 slices k78 x79 = some ct80 := hb84
        unfold p_slices_Concat_Lint64_int64_L2 at hb84
        obtain ⟨u88, hf89, hf90, hf91, hf92, hr93, hS94⟩ := hI85
        refine W.seq (W.region ?_)
        refine WL.val (Value.bool (decide ((k78 : Int) < ((slices).length : Int)))) _ (op_lss hf92 hf91) rfl ?_
        have hl95 : (k78 : Int) < ((slices).length : Int) := by omega
        refine WL.nil ?_
        refine W.seq ?_
        refine W.condT (decide ((k78 : Int) < ((slices).length : Int))) rfl (decide_eq_true hl95) ?_
        refine W.skip ?_
        refine W.seq ?_
        refine W.block ?_
        refine W.seq (W.region ?_)
        obtain ⟨x97, hx100, hb84⟩ := bs hb84
        obtain ⟨ha98, hb99, hx100⟩ := idx_some hx100
        refine WL.val (Value.pointer (some (elA v_slices ((k78 : Int)).toNat))) _ (op_idx sl_37 (Ty.lift _ hS94.ext r_slices) hf90 hf92 ha98 hb99) rfl ?_
        obtain ⟨u101, hc102, hr103⟩ := repSl.el r_slices hx100
        refine WL.val u101 _ (op_load one_22 rfl (Ext.cell hS94.ext hc102)) rfl ?_
        refine WL.val u101 _ (op_assign rfl) rfl ?_
        refine WL.nil ?_
        show W _ _ _ _ _ _
        refine W.region ?_
        refine WL.val u88 _ (op_move hf89) rfl ?_
        refine WL.val u101 _ (op_move rfl) rfl ?_
        obtain ⟨x104, hx105, hb84⟩ := bs hb84
        refine WL.append (flat_i .i64) hS94 (k := 0) rfl sl_22 rfl rfl rfl rfl (Ty.lift _ hS94.ext hr103) hx105 rfl ?_
        intro u106 wd107 hS108 hz109
        replace hS108 : St w wd107 [(Ty.sl (Ty.i .i64)).at u106 x104] := hS108
        refine WL.val u106 _ (op_assign rfl) rfl ?_
        refine WL.nil ?_
        show W _ _ _ _ _ _
        refine W.region ?_
        refine WL.val (Value.int .i64 (w64 ((k78 : Int) + (1 : Int)))) _ (op_add hf92 rfl) rfl ?_
        refine WL.val (Value.int .i64 (w64 ((k78 : Int) + (1 : Int)))) _ (op_move rfl) rfl ?_
        refine WL.nil ?_
        obtain rfl := Option.some.inj hb84
        show ∃ s, _ = Ctl.next s ∧ _
        exact ⟨_, rfl, u106, rfl, hf90, hf91, (ctr_next hl95 hr75), (ctr_rng hl95 hr75), hS108⟩
      · intro x116 f111 wd112 hs113 hI114
        replace hI114 : ∃ (uu0 : Value), f111 6 = uu0 ∧ f111 25 = v_slices ∧ f111 26 = (Value.int .i64 ((slices).length : Int)) ∧ f111 27 = Value.int .i64 (((slices).length : Nat) : Int) ∧ InR .i64 (((slices).length : Nat) : Int) ∧ St w wd112 [(Ty.sl (Ty.i .i64)).at uu0 x116] := hI114
        obtain ⟨u117, hf118, hf119, hf120, hf121, hr122, hS123⟩ := hI114
        refine W.seq (W.region ?_)
        refine WL.val (Value.bool (decide ((((slices).length : Nat) : Int) < ((slices).length : Int)))) _ (op_lss hf121 hf120) rfl ?_
        have hl124 : ¬ (((slices).length : Nat) : Int) < ((slices).length : Int) := by omega
        refine WL.nil ?_
        refine W.seq ?_
        refine W.condF (decide ((((slices).length : Nat) : Int) < ((slices).length : Int))) rfl (decide_eq_false hl124) ?_
        refine W.exit ?_
        show _ = _ ∧ _
        exact ⟨rfl, _, hs113, u117, hf118, hS123⟩
    · rintro f125 wd126 ⟨x129, rfl, hq127⟩
      replace h := onRes_fin h
      replace hq127 : ∃ (uu0 : Value), f125 6 = uu0 ∧ St w wd126 [(Ty.sl (Ty.i .i64)).at uu0 x129] := hq127
      obtain ⟨u130, hf131, hS132⟩ := hq127
      refine W.seq (W.region ?_)
      refine WL.val u130 _ (op_move hf131) rfl ?_
      refine WL.val u130 _ (op_assign rfl) rfl ?_
      refine WL.nil ?_
      refine W.ret ?_
      obtain rfl := Option.some.inj h
      show FinP _ _ _ _ _ _ _
      exact FinP.ret _ (res1 rfl rfl) ⟨u130, rfl, hS132.ext, (St.out (St.pick hS132 [0] rfl) (Ext.refl _))⟩

theorem c_impl_Cocycle_flat {w : World} {c_Orders : (List Int)} {v_c_Orders : Value} {c_Modulus : Int} {c_Values : (List (List (List Int)))} {v_c_Values : Value} (r_c_Orders : (Ty.sl (Ty.i .i64)).rep w v_c_Orders c_Orders) (r_c_Modulus : InR .i64 c_Modulus) (r_c_Values : (Ty.sl (Ty.sl (Ty.sl (Ty.i .i64)))).rep w v_c_Values c_Values) {res : (List Int)} (h : p_impl_Cocycle_flat c_Orders c_Modulus c_Values  = some res) :
    Ret Try.prog 22 #[(Value.agg #[v_c_Orders, (Value.int .i64 c_Modulus), v_c_Values])] w (fun v w' => ∃ (u0 : Value), v = u0 ∧ Ext w w' ∧ Sep w.heap.size w' [(Ty.sl (Ty.i .i64)).at u0 res]) := by
  unfold p_impl_Cocycle_flat at h
  have hS0 : St w w [] := St.start w
  refine Ret.start (fn := Try.f22) Try.func22 rfl 20 rfl rfl ?_
  refine W.seq (W.region ?_)
  refine WL.box hS0 rfl (cs := [v_c_Orders, (Value.int .i64 c_Modulus), v_c_Values]) rfl rfl ?_
  intro b1 wd2 hS3 he4 hx5
  replace hS3 : St w wd2 [bx b1 [v_c_Orders, (Value.int .i64 c_Modulus), v_c_Values]] := hS3
  have hx6 := St.boxAt hS3 0 rfl
  have hE7 : Ext w wd2 := hS3.ext
  have hS8 : St wd2 wd2 [] := St.start wd2
  refine WL.val (Value.slice none 0 0) _ (op_assign rfl) rfl ?_
  refine WL.nil ?_
  refine W.seq (W.region ?_)
  refine WL.lit0 (t := (Ty.i .i64)) hS8 sl_22 rfl rfl ?_
  intro u9 wd10 hS11 he12
  replace hS11 : St wd2 wd10 [(Ty.sl (Ty.i .i64)).at u9 ([] : (List Int))] := hS11
  refine WL.val u9 _ (op_assign rfl) rfl ?_
  refine WL.nil ?_
  refine W.seq (W.seq (W.region ?_))
  refine WL.val (Value.pointer (some ⟨b1, 2, none⟩)) _ (op_fieldAddr fd_29_2 rfl) rfl ?_
  refine WL.val v_c_Values _ (op_load one_23 rfl (BoxAt.cell (BoxAt.lift hS11.ext hx6) rfl)) rfl ?_
  have hr13 := inR_len (Ty.lift _ (Ext.trans hE7 hS11.ext) r_c_Values)
  refine WL.val (Value.int .i64 ((c_Values).length : Int)) _ (op_lenL sl_23 (Ty.lift _ (Ext.trans hE7 hS11.ext) r_c_Values) rfl) rfl ?_
  refine WL.val (Value.int .i64 (0 : Int)) _ (op_move rfl) rfl ?_
  refine WL.nil ?_
  show W _ _ _ _ _ _
  obtain ⟨res14, hres15, h⟩ := bs h
  refine W.blockLoop (fun fq wq => ∃ s, res14 = Res.fin s ∧ ∃ (uu0 : Value), fq 3 = uu0 ∧ St wd2 wq [(Ty.sl (Ty.i .i64)).at uu0 s]) ?_ ?_
  · refine W.forN (fun k (s : (List Int)) fq wq => ∃ (uu0 : Value), fq 3 = uu0 ∧ fq 8 = v_c_Values ∧ fq 9 = (Value.int .i64 ((c_Values).length : Int)) ∧ fq 10 = Value.int .i64 (k : Int) ∧ InR .i64 (k : Int) ∧ St wd2 wq [(Ty.sl (Ty.i .i64)).at uu0 s]) hres15 ⟨u9, rfl, rfl, rfl, rfl, (inL rfl), hS11⟩ ?_ ?_
    · intro k16 x17 ct18 f19 wd20 hk21 hb22 hI23 hbrk24 hret25
      replace hI23 : ∃ (uu0 : Value), f19 3 = uu0 ∧ f19 8 = v_c_Values ∧ f19 9 = (Value.int .i64 ((c_Values).length : Int)) ∧ f19 10 = Value.int .i64 (k16 : Int) ∧ InR .i64 (k16 : Int) ∧ St wd2 wd20 [(Ty.sl (Ty.i .i64)).at uu0 x17] := hI23
      replace hb22 : p_impl_Cocycle_flat_L1 c_Values k16 x17 = some ct18 := hb22
      unfold p_impl_Cocycle_flat_L1 at hb22
      obtain ⟨u26, hf27, hf28, hf29, hf30, hr31, hS32⟩ := hI23
      refine W.seq (W.region ?_)
      refine WL.val (Value.bool (decide ((k16 : Int) < ((c_Values).length : Int)))) _ (op_lss hf30 hf29) rfl ?_
      have hl33 : (k16 : Int) < ((c_Values).length : Int) := by omega
      refine WL.nil ?_
      refine W.seq ?_
      refine W.condT (decide ((k16 : Int) < ((c_Values).length : Int))) rfl (decide_eq_true hl33) ?_
      refine W.skip ?_
      refine W.seq ?_
      refine W.block ?_
      refine W.seq (W.region ?_)
      obtain ⟨x35, hx38, hb22⟩ := bs hb22
      obtain ⟨ha36, hb37, hx38⟩ := idx_some hx38
      refine WL.val (Value.pointer (some (elA v_c_Values ((k16 : Int)).toNat))) _ (op_idx sl_23 (Ty.lift _ (Ext.trans hE7 hS32.ext) r_c_Values) hf28 hf30 ha36 hb37) rfl ?_
      obtain ⟨u39, hc40, hr41⟩ := repSl.el r_c_Values hx38
      refine WL.val u39 _ (op_load one_37 rfl (Ext.cell (Ext.trans hE7 hS32.ext) hc40)) rfl ?_
      refine WL.val u39 _ (op_assign rfl) rfl ?_
      refine WL.nil ?_
      show W _ _ _ _ _ _
      refine W.region ?_
      refine WL.val u26 _ (op_move hf27) rfl ?_
      refine WL.val u39 _ (op_move rfl) rfl ?_
      obtain ⟨x42, hx43, hb22⟩ := bs hb22
      refine WL.call _ (op_call fn_43 (args1 rfl)) (c_slices_Concat_Lint64_int64 (Ty.lift _ (Ext.trans hE7 hS32.ext) hr41) hx43) rfl ?_
      rintro u44 wd45 ⟨_, rfl, he46, hs47⟩
      have hS48 := St.join hS32 he46 hs47
      replace hS48 : St wd2 wd45 [(Ty.sl (Ty.i .i64)).at u26 x17, (Ty.sl (Ty.i .i64)).at u44 x42] := hS48
      obtain ⟨x49, hx50, hb22⟩ := bs hb22
      refine WL.append (flat_i .i64) hS48 (k := 0) rfl sl_22 rfl rfl rfl rfl (St.rep (t := (Ty.sl (Ty.i .i64))) hS48 1 rfl) hx50 rfl ?_
      intro u51 wd52 hS53 hz54
      replace hS53 : St wd2 wd52 [(Ty.sl (Ty.i .i64)).at u51 x49, (Ty.sl (Ty.i .i64)).at u44 x42] := hS53
      refine WL.val u51 _ (op_assign rfl) rfl ?_
      refine WL.nil ?_
      show W _ _ _ _ _ _
      refine W.region ?_
      refine WL.val (Value.int .i64 (w64 ((k16 : Int) + (1 : Int)))) _ (op_add hf30 rfl) rfl ?_
      refine WL.val (Value.int .i64 (w64 ((k16 : Int) + (1 : Int)))) _ (op_move rfl) rfl ?_
      refine WL.nil ?_
      obtain rfl := Option.some.inj hb22
      show ∃ s, _ = Ctl.next s ∧ _
      exact ⟨_, rfl, u51, rfl, hf28, hf29, (ctr_next hl33 hr13), (ctr_rng hl33 hr13), (St.pick hS53 [0] rfl)⟩
    · intro x61 f56 wd57 hs58 hI59
      replace hI59 : ∃ (uu0 : Value), f56 3 = uu0 ∧ f56 8 = v_c_Values ∧ f56 9 = (Value.int .i64 ((c_Values).length : Int)) ∧ f56 10 = Value.int .i64 (((c_Values).length : Nat) : Int) ∧ InR .i64 (((c_Values).length : Nat) : Int) ∧ St wd2 wd57 [(Ty.sl (Ty.i .i64)).at uu0 x61] := hI59
      obtain ⟨u62, hf63, hf64, hf65, hf66, hr67, hS68⟩ := hI59
      refine W.seq (W.region ?_)
      refine WL.val (Value.bool (decide ((((c_Values).length : Nat) : Int) < ((c_Values).length : Int)))) _ (op_lss hf66 hf65) rfl ?_
      have hl69 : ¬ (((c_Values).length : Nat) : Int) < ((c_Values).length : Int) := by omega
      refine WL.nil ?_
      refine W.seq ?_
      refine W.condF (decide ((((c_Values).length : Nat) : Int) < ((c_Values).length : Int))) rfl (decide_eq_false hl69) ?_
      refine W.exit ?_
      show _ = _ ∧ _
      exact ⟨rfl, _, hs58, u62, hf63, hS68⟩
  · rintro f70 wd71 ⟨x74, rfl, hq72⟩
    replace h := onRes_fin h
    replace hq72 : ∃ (uu0 : Value), f70 3 = uu0 ∧ St wd2 wd71 [(Ty.sl (Ty.i .i64)).at uu0 x74] := hq72
    obtain ⟨u75, hf76, hS77⟩ := hq72
    refine W.seq (W.region ?_)
    refine WL.val u75 _ (op_move hf76) rfl ?_
    refine WL.val u75 _ (op_assign rfl) rfl ?_
    refine WL.nil ?_
    refine W.ret ?_
    obtain rfl := Option.some.inj h
    show FinP _ _ _ _ _ _ _
    exact FinP.ret _ (res1 rfl rfl) ⟨u75, rfl, (Ext.trans hE7 hS77.ext), (St.out (St.pick hS77 [0] rfl) (hE7))⟩

theorem c_impl_coboundaries {w : World} {orders : (List Int)} {v_orders : Value} {p : Int} (r_orders : (Ty.sl (Ty.i .i64)).rep w v_orders orders) (r_p : InR .i64 p) {res : (List (List Int))} (h : p_impl_coboundaries orders p  = some res) :
    Ret Try.prog 20 #[v_orders, (Value.int .i64 p)] w (fun v w' => ∃ (u0 : Value), v = u0 ∧ Ext w w' ∧ Sep w.heap.size w' [(Ty.sl (Ty.sl (Ty.i .i64))).at u0 res]) := by
  unfold p_impl_coboundaries at h
  have hS0 : St w w [] := St.start w
  refine Ret.start (fn := Try.f20) Try.func20 rfl 41 rfl rfl ?_
  refine W.seq (W.region ?_)
  refine WL.val (Value.slice none 0 0) _ (op_assign rfl) rfl ?_
  refine WL.nil ?_
  refine W.seq (W.region ?_)
  refine WL.lit0 (t := (Ty.sl (Ty.i .i64))) hS0 sl_37 rfl rfl ?_
  intro u1 wd2 hS3 he4
  replace hS3 : St w wd2 [(Ty.sl (Ty.sl (Ty.i .i64))).at u1 ([] : (List (List Int)))] := hS3
  refine WL.val v_orders _ (op_move rfl) rfl ?_
  obtain ⟨x5, hx6, h⟩ := bs h
  refine WL.call _ (op_call fn_37 (args1 rfl)) (c_impl_groupSize (Ty.lift _ hS3.ext r_orders) hx6) rfl ?_
  rintro _ wd8 ⟨rfl, hr7, he9⟩
  have hS11 := St.extend hS3 he9
  replace hS11 : St w wd8 [(Ty.sl (Ty.sl (Ty.i .i64))).at u1 ([] : (List (List Int)))] := hS11
  refine WL.val u1 _ (op_assign rfl) rfl ?_
  refine WL.val (Value.int .i64 x5) _ (op_assign rfl) rfl ?_
  refine WL.nil ?_
  refine W.seq (W.seq (W.region ?_))
  refine WL.val (Value.int .i64 (1 : Int)) _ (op_assign rfl) rfl ?_
  refine WL.nil ?_
  show W _ _ _ _ _ _
  obtain ⟨res12, hres13, h⟩ := bs h
  refine W.blockLoop (fun fq wq => ∃ s, res12 = Res.fin s ∧ ∃ (uu0 : Value), fq 5 = uu0 ∧ St w wq [(Ty.sl (Ty.sl (Ty.i .i64))).at uu0 s]) ?_ ?_
  · refine W.forN (fun k (s : (List (List Int))) fq wq => ∃ (uu0 : Value), fq 0 = v_orders ∧ fq 1 = (Value.int .i64 p) ∧ fq 5 = uu0 ∧ fq 6 = (Value.int .i64 x5) ∧ fq 7 = Value.int .i64 ((1 : Int) + (k : Int)) ∧ InR .i64 ((1 : Int) + (k : Int)) ∧ St w wq [(Ty.sl (Ty.sl (Ty.i .i64))).at uu0 s]) hres13 ⟨u1, rfl, rfl, rfl, rfl, rfl, (inL rfl), hS11⟩ ?_ ?_
    · intro k14 x15 ct16 f17 wd18 hk19 hb20 hI21 hbrk22 hret23
      replace hI21 : ∃ (uu0 : Value), f17 0 = v_orders ∧ f17 1 = (Value.int .i64 p) ∧ f17 5 = uu0 ∧ f17 6 = (Value.int .i64 x5) ∧ f17 7 = Value.int .i64 ((1 : Int) + (k14 : Int)) ∧ InR .i64 ((1 : Int) + (k14 : Int)) ∧ St w wd18 [(Ty.sl (Ty.sl (Ty.i .i64))).at uu0 x15] := hI21
      replace hb20 : p_impl_coboundaries_L1 x5 orders p k14 x15 = some ct16 := hb20
      unfold p_impl_coboundaries_L1 at hb20
      obtain ⟨u24, hf25, hf26, hf27, hf28, hf29, hr30, hS31⟩ := hI21
      refine W.seq (W.seq (W.region ?_))
      refine WL.val (Value.int .i64 ((1 : Int) + (k14 : Int))) _ (op_move hf29) rfl ?_
      refine WL.val (Value.int .i64 x5) _ (op_move hf28) rfl ?_
      refine WL.val (Value.bool (decide (((1 : Int) + (k14 : Int)) < x5))) _ (op_lss rfl rfl) rfl ?_
      have hl32 : ((1 : Int) + (k14 : Int)) < x5 := by omega
      refine WL.nil ?_
      refine W.condT (decide (((1 : Int) + (k14 : Int)) < x5)) rfl (decide_eq_true hl32) ?_
      refine W.skip ?_
      refine W.seq ?_
      refine W.block ?_
      refine W.seq (W.region ?_)
      refine WL.val (Value.int .i64 (1 : Int)) _ (op_assign rfl) rfl ?_
      refine WL.nil ?_
      show W _ _ _ _ _ _
      obtain ⟨res34, hres35, hb20⟩ := bs hb20
      refine W.blockLoop (fun fq wq => ∃ s, res34 = Res.fin s ∧ ∃ (uu0 : Value), fq 0 = v_orders ∧ fq 1 = (Value.int .i64 p) ∧ fq 5 = uu0 ∧ fq 6 = (Value.int .i64 x5) ∧ fq 7 = (Value.int .i64 ((1 : Int) + (k14 : Int))) ∧ St w wq [(Ty.sl (Ty.sl (Ty.i .i64))).at uu0 s]) ?_ ?_
      · refine W.forN (fun k (s : (List (List Int))) fq wq => ∃ (uu0 : Value), fq 0 = v_orders ∧ fq 1 = (Value.int .i64 p) ∧ fq 5 = uu0 ∧ fq 6 = (Value.int .i64 x5) ∧ fq 7 = (Value.int .i64 ((1 : Int) + (k14 : Int))) ∧ fq 8 = Value.int .i64 ((1 : Int) + (k : Int)) ∧ InR .i64 ((1 : Int) + (k : Int)) ∧ St w wq [(Ty.sl (Ty.sl (Ty.i .i64))).at uu0 s]) hres35 ⟨u24, hf25, hf26, hf27, hf28, hf29, rfl, (inL rfl), hS31⟩ ?_ ?_
        · intro k36 x37 ct38 f39 wd40 hk41 hb42 hI43 hbrk44 hret45
          replace hI43 : ∃ (uu0 : Value), f39 0 = v_orders ∧ f39 1 = (Value.int .i64 p) ∧ f39 5 = uu0 ∧ f39 6 = (Value.int .i64 x5) ∧ f39 7 = (Value.int .i64 ((1 : Int) + (k14 : Int))) ∧ f39 8 = Value.int .i64 ((1 : Int) + (k36 : Int)) ∧ InR .i64 ((1 : Int) + (k36 : Int)) ∧ St w wd40 [(Ty.sl (Ty.sl (Ty.i .i64))).at uu0 x37] := hI43
          replace hb42 : p_impl_coboundaries_L2 x5 k14 orders p k36 x37 = some ct38 := hb42
          unfold p_impl_coboundaries_L2 at hb42
          obtain ⟨u46, hf47, hf48, hf49, hf50, hf51, hf52, hr53, hS54⟩ := hI43
          refine W.seq (W.seq (W.region ?_))
          refine WL.val (Value.int .i64 ((1 : Int) + (k36 : Int))) _ (op_move hf52) rfl ?_
          refine WL.val (Value.int .i64 x5) _ (op_move hf50) rfl ?_
          refine WL.val (Value.bool (decide (((1 : Int) + (k36 : Int)) < x5))) _ (op_lss rfl rfl) rfl ?_
          have hl55 : ((1 : Int) + (k36 : Int)) < x5 := by omega
          refine WL.nil ?_
          refine W.condT (decide (((1 : Int) + (k36 : Int)) < x5)) rfl (decide_eq_true hl55) ?_
          refine W.skip ?_
          refine W.seq ?_
          refine W.block ?_
          refine W.seq (W.region ?_)
          refine WL.val (Value.int .i64 x5) _ (op_move hf50) rfl ?_
          refine WL.val (Value.int .i64 x5) _ (op_move hf50) rfl ?_
          obtain ⟨x57, hx58, hb42⟩ := bs hb42
          refine WL.call _ (op_call fn_38 (args2 rfl rfl)) (c_impl_zeros hr7 hr7 hx58) rfl ?_
          rintro u59 wd60 ⟨_, rfl, he61, hs62⟩
          have hS63 := St.join hS54 he61 hs62
          replace hS63 : St w wd60 [(Ty.sl (Ty.sl (Ty.i .i64))).at u46 x37, (Ty.sl (Ty.sl (Ty.i .i64))).at u59 x57] := hS63
          refine WL.val u59 _ (op_assign rfl) rfl ?_
          refine WL.nil ?_
          refine W.seq (W.region ?_)
          refine WL.val u59 _ (op_move rfl) rfl ?_
          refine WL.val (Value.int .i64 ((1 : Int) + (k14 : Int))) _ (op_move hf51) rfl ?_
          obtain ⟨x64, hx67, hb42⟩ := bs hb42
          obtain ⟨ha65, hb66, hx67⟩ := idx_some hx67
          refine WL.val (Value.pointer (some (elA u59 (((1 : Int) + (k14 : Int))).toNat))) _ (op_idx sl_37 (St.rep (t := (Ty.sl (Ty.sl (Ty.i .i64)))) hS63 1 rfl) rfl rfl ha65 hb66) rfl ?_
          obtain ⟨u68, hc69, hr70⟩ := repSl.el (St.rep (t := (Ty.sl (Ty.sl (Ty.i .i64)))) hS63 1 rfl) hx67
          refine WL.val u68 _ (op_load one_22 rfl hc69) rfl ?_
          refine WL.val (Value.int .i64 ((1 : Int) + (k36 : Int))) _ (op_move hf52) rfl ?_
          obtain ⟨x71, hx74, hb42⟩ := bs hb42
          obtain ⟨ha72, hb73, hx74⟩ := idx_some hx74
          refine WL.val (Value.pointer (some (elA u68 (((1 : Int) + (k36 : Int))).toNat))) _ (op_idx sl_22 hr70 rfl rfl ha72 hb73) rfl ?_
          refine WL.storeEl2 (flat_i .i64) hS63 (k := 1) rfl sz_2 hx67 hc69 rfl rfl (lt_of_idx ha72 hb73) ⟨rfl, (inL rfl)⟩ ?_
          intro wd75 hS76
          replace hS76 : St w wd75 [(Ty.sl (Ty.sl (Ty.i .i64))).at u46 x37, (Ty.sl (Ty.sl (Ty.i .i64))).at u59 ((x57).set (((1 : Int) + (k14 : Int))).toNat ((x64).set (((1 : Int) + (k36 : Int))).toNat (1 : Int)))] := hS76
          refine WL.nil ?_
          show W _ _ _ _ _ _
          refine W.region ?_
          refine WL.val u46 _ (op_move hf49) rfl ?_
          refine WL.val v_orders _ (op_move hf47) rfl ?_
          refine WL.val (Value.int .i64 p) _ (op_move hf48) rfl ?_
          refine WL.val u59 _ (op_move rfl) rfl ?_
          obtain ⟨x77, hx78, hb42⟩ := bs hb42
          refine WL.call _ (op_call fn_39 (args3 rfl rfl rfl)) (c_impl_coboundary (Ty.lift _ hS76.ext r_orders) r_p (St.rep (t := (Ty.sl (Ty.sl (Ty.i .i64)))) hS76 1 rfl) hx78) rfl ?_
          rintro _ wd82 ⟨u79, u81, rfl, hr80, he83, hs84⟩
          have hS85 := St.join hS76 he83 hs84
          replace hS85 : St w wd82 [(Ty.sl (Ty.sl (Ty.i .i64))).at u46 x37, (Ty.sl (Ty.sl (Ty.i .i64))).at u59 ((x57).set (((1 : Int) + (k14 : Int))).toNat ((x64).set (((1 : Int) + (k36 : Int))).toNat (1 : Int))), (Ty.sl (Ty.i .i64)).at u79 x77.1, (Ty.sl (Ty.sl (Ty.sl (Ty.i .i64)))).at u81 x77.2.2] := hS85
          obtain ⟨x86, hx87, hb42⟩ := bs hb42
          refine WL.call _ (op_call fn_22 (args1 rfl)) (c_impl_Cocycle_flat (St.rep (t := (Ty.sl (Ty.i .i64))) hS85 2 rfl) hr80 (St.rep (t := (Ty.sl (Ty.sl (Ty.sl (Ty.i .i64))))) hS85 3 rfl) hx87) rfl ?_
          rintro u88 wd89 ⟨_, rfl, he90, hs91⟩
          have hS92 := St.join hS85 he90 hs91
          replace hS92 : St w wd89 [(Ty.sl (Ty.sl (Ty.i .i64))).at u46 x37, (Ty.sl (Ty.sl (Ty.i .i64))).at u59 ((x57).set (((1 : Int) + (k14 : Int))).toNat ((x64).set (((1 : Int) + (k36 : Int))).toNat (1 : Int))), (Ty.sl (Ty.i .i64)).at u79 x77.1, (Ty.sl (Ty.sl (Ty.sl (Ty.i .i64)))).at u81 x77.2.2, (Ty.sl (Ty.i .i64)).at u88 x86] := hS92
          refine WL.lit [u88] hS92 sl_37 rfl rfl (fillL rfl ⟨rfl, rfl, (cells_rep (St.rep (t := (Ty.sl (Ty.i .i64))) hS92 4 rfl)), trivial⟩) rfl rfl ?_
          intro b97 wd94 hS95 he96 hx98
          replace hS95 : St w wd94 [(Ty.sl (Ty.sl (Ty.i .i64))).at u46 x37, (Ty.sl (Ty.sl (Ty.i .i64))).at u59 ((x57).set (((1 : Int) + (k14 : Int))).toNat ((x64).set (((1 : Int) + (k36 : Int))).toNat (1 : Int))), (Ty.sl (Ty.i .i64)).at u79 x77.1, (Ty.sl (Ty.sl (Ty.sl (Ty.i .i64)))).at u81 x77.2.2, (Ty.sl (Ty.i .i64)).at u88 x86, bx b97 [u88]] := hS95
          obtain ⟨x99, hx100, hb42⟩ := bs hb42
          refine WL.appendRow hS95 (k := 0) (k2 := 4) (k3 := 5) rfl rfl rfl rfl sl_37 rfl rfl rfl rfl hx100 rfl ?_
          intro u101 wd102 hS103 hz104
          replace hS103 : St w wd102 [(Ty.sl (Ty.sl (Ty.i .i64))).at u101 x99, (Ty.sl (Ty.sl (Ty.i .i64))).at u59 ((x57).set (((1 : Int) + (k14 : Int))).toNat ((x64).set (((1 : Int) + (k36 : Int))).toNat (1 : Int))), (Ty.sl (Ty.i .i64)).at u79 x77.1, (Ty.sl (Ty.sl (Ty.sl (Ty.i .i64)))).at u81 x77.2.2, emp, bx b97 [u88]] := hS103
          refine WL.val u101 _ (op_assign rfl) rfl ?_
          refine WL.nil ?_
          show W _ _ _ _ _ _
          refine W.region ?_
          refine WL.val (Value.int .i64 ((1 : Int) + (k36 : Int))) _ (op_move hf52) rfl ?_
          refine WL.val (Value.int .i64 (w64 (((1 : Int) + (k36 : Int)) + (1 : Int)))) _ (op_add rfl rfl) rfl ?_
          refine WL.val (Value.int .i64 (w64 (((1 : Int) + (k36 : Int)) + (1 : Int)))) _ (op_assign rfl) rfl ?_
          refine WL.nil ?_
          obtain rfl := Option.some.inj hb42
          show ∃ s, _ = Ctl.next s ∧ _
          exact ⟨_, rfl, u101, hf47, hf48, rfl, hf50, hf51, (ctrS_next hl55 hr7 (inL rfl)), (ctrS_rng hl55 hr7 (inL rfl)), (St.pick hS103 [0] rfl)⟩
        · intro x111 f106 wd107 hs108 hI109
          replace hI109 : ∃ (uu0 : Value), f106 0 = v_orders ∧ f106 1 = (Value.int .i64 p) ∧ f106 5 = uu0 ∧ f106 6 = (Value.int .i64 x5) ∧ f106 7 = (Value.int .i64 ((1 : Int) + (k14 : Int))) ∧ f106 8 = Value.int .i64 ((1 : Int) + (((x5 - (1 : Int)).toNat : Nat) : Int)) ∧ InR .i64 ((1 : Int) + (((x5 - (1 : Int)).toNat : Nat) : Int)) ∧ St w wd107 [(Ty.sl (Ty.sl (Ty.i .i64))).at uu0 x111] := hI109
          obtain ⟨u112, hf113, hf114, hf115, hf116, hf117, hf118, hr119, hS120⟩ := hI109
          refine W.seq (W.seq (W.region ?_))
          refine WL.val (Value.int .i64 ((1 : Int) + (((x5 - (1 : Int)).toNat : Nat) : Int))) _ (op_move hf118) rfl ?_
          refine WL.val (Value.int .i64 x5) _ (op_move hf116) rfl ?_
          refine WL.val (Value.bool (decide (((1 : Int) + (((x5 - (1 : Int)).toNat : Nat) : Int)) < x5))) _ (op_lss rfl rfl) rfl ?_
          have hl121 : ¬ ((1 : Int) + (((x5 - (1 : Int)).toNat : Nat) : Int)) < x5 := by omega
          refine WL.nil ?_
          refine W.condF (decide (((1 : Int) + (((x5 - (1 : Int)).toNat : Nat) : Int)) < x5)) rfl (decide_eq_false hl121) ?_
          refine W.exit ?_
          show _ = _ ∧ _
          exact ⟨rfl, _, hs108, u112, hf113, hf114, hf115, hf116, hf117, hS120⟩
      · rintro f122 wd123 ⟨x126, rfl, hq124⟩
        replace hb20 := onRes_fin hb20
        replace hq124 : ∃ (uu0 : Value), f122 0 = v_orders ∧ f122 1 = (Value.int .i64 p) ∧ f122 5 = uu0 ∧ f122 6 = (Value.int .i64 x5) ∧ f122 7 = (Value.int .i64 ((1 : Int) + (k14 : Int))) ∧ St w wd123 [(Ty.sl (Ty.sl (Ty.i .i64))).at uu0 x126] := hq124
        obtain ⟨u127, hf128, hf129, hf130, hf131, hf132, hS133⟩ := hq124
        show W _ _ _ _ _ _
        refine W.region ?_
        refine WL.val (Value.int .i64 ((1 : Int) + (k14 : Int))) _ (op_move hf132) rfl ?_
        refine WL.val (Value.int .i64 (w64 (((1 : Int) + (k14 : Int)) + (1 : Int)))) _ (op_add rfl rfl) rfl ?_
        refine WL.val (Value.int .i64 (w64 (((1 : Int) + (k14 : Int)) + (1 : Int)))) _ (op_assign rfl) rfl ?_
        refine WL.nil ?_
        obtain rfl := Option.some.inj hb20
        show ∃ s, _ = Ctl.next s ∧ _
        exact ⟨_, rfl, u127, hf128, hf129, hf130, hf131, (ctrS_next hl32 hr7 (inL rfl)), (ctrS_rng hl32 hr7 (inL rfl)), hS133⟩
    · intro x141 f136 wd137 hs138 hI139
      replace hI139 : ∃ (uu0 : Value), f136 0 = v_orders ∧ f136 1 = (Value.int .i64 p) ∧ f136 5 = uu0 ∧ f136 6 = (Value.int .i64 x5) ∧ f136 7 = Value.int .i64 ((1 : Int) + (((x5 - (1 : Int)).toNat : Nat) : Int)) ∧ InR .i64 ((1 : Int) + (((x5 - (1 : Int)).toNat : Nat) : Int)) ∧ St w wd137 [(Ty.sl (Ty.sl (Ty.i .i64))).at uu0 x141] := hI139
      obtain ⟨u142, hf143, hf144, hf145, hf146, hf147, hr148, hS149⟩ := hI139
      refine W.seq (W.seq (W.region ?_))
      refine WL.val (Value.int .i64 ((1 : Int) + (((x5 - (1 : Int)).toNat : Nat) : Int))) _ (op_move hf147) rfl ?_
      refine WL.val (Value.int .i64 x5) _ (op_move hf146) rfl ?_
      refine WL.val (Value.bool (decide (((1 : Int) + (((x5 - (1 : Int)).toNat : Nat) : Int)) < x5))) _ (op_lss rfl rfl) rfl ?_
      have hl150 : ¬ ((1 : Int) + (((x5 - (1 : Int)).toNat : Nat) : Int)) < x5 := by omega
      refine WL.nil ?_
      refine W.condF (decide (((1 : Int) + (((x5 - (1 : Int)).toNat : Nat) : Int)) < x5)) rfl (decide_eq_false hl150) ?_
      refine W.exit ?_
      show _ = _ ∧ _
      exact ⟨rfl, _, hs138, u142, hf145, hS149⟩
  · rintro f151 wd152 ⟨x155, rfl, hq153⟩
    replace h := onRes_fin h
    replace hq153 : ∃ (uu0 : Value), f151 5 = uu0 ∧ St w wd152 [(Ty.sl (Ty.sl (Ty.i .i64))).at uu0 x155] := hq153
    obtain ⟨u156, hf157, hS158⟩ := hq153
    refine W.seq (W.region ?_)
    refine WL.val u156 _ (op_move hf157) rfl ?_
    refine WL.val u156 _ (op_assign rfl) rfl ?_
    refine WL.nil ?_
    refine W.ret ?_
    obtain rfl := Option.some.inj h
    show FinP _ _ _ _ _ _ _
    exact FinP.ret _ (res1 rfl rfl) ⟨u156, rfl, hS158.ext, (St.out (St.pick hS158 [0] rfl) (Ext.refl _))⟩

theorem c_impl_rankModulo_c1 {w : World} {row : (List Int)} {v_row : Value} {b_c0 : Nat} {c0 : Int} (r_row : (Ty.sl (Ty.i .i64)).rep w v_row row) (k_c0 : BoxAt w b_c0 [(Value.int .i64 c0)]) (r_c0 : InR .i64 c0) {res : Bool} (h : p_impl_rankModulo_c1 row c0 = some res) :
    Ret Try.prog 42 #[v_row, (Value.pointer (some ⟨b_c0, 0, none⟩))] w (fun v w' => v = Value.bool res ∧ Ext w w') := by
  unfold p_impl_rankModulo_c1 at h
  have hS0 : St w w [] := St.start w
  refine Ret.start (fn := Try.f42) Try.func42 rfl 9 rfl rfl ?_
  refine W.seq (W.region ?_)
  refine WL.val (Value.bool false) _ (op_assign rfl) rfl ?_
  refine WL.nil ?_
  refine W.seq (W.region ?_)
  refine WL.val v_row _ (op_move rfl) rfl ?_
  refine WL.val (Value.int .i64 c0) _ (op_load one_3 rfl (BoxAt.cell (BoxAt.lift hS0.ext k_c0) rfl)) rfl ?_
  obtain ⟨x1, hx4, h⟩ := bs h
  obtain ⟨ha2, hb3, hx4⟩ := idx_some hx4
  refine WL.val (Value.pointer (some (elA v_row (c0).toNat))) _ (op_idx sl_22 (Ty.lift _ hS0.ext r_row) rfl rfl ha2 hb3) rfl ?_
  obtain ⟨u5, hc6, hr7⟩ := repSl.el r_row hx4
  obtain ⟨rfl, hr7⟩ := hr7
  refine WL.val (Value.int .i64 x1) _ (op_load one_2 rfl (Ext.cell hS0.ext hc6)) rfl ?_
  refine WL.val (Value.bool (x1 != (0 : Int))) _ (op_neq rfl rfl) rfl ?_
  refine WL.val (Value.bool (x1 != (0 : Int))) _ (op_assign rfl) rfl ?_
  refine WL.nil ?_
  refine W.ret ?_
  obtain rfl := Option.some.inj h
  show FinP _ _ _ _ _ _ _
  exact FinP.ret _ (res1 rfl rfl) ⟨rfl, hS0.ext⟩

theorem c_impl_rankModulo {w : World} {list : (List (List Int))} {v_list : Value} {p : Int} (r_list : (Ty.sl (Ty.sl (Ty.i .i64))).rep w v_list list) (r_p : InR .i64 p) {res : Int} (h : p_impl_rankModulo list p  = some res) :
    Ret Try.prog 21 #[v_list, (Value.int .i64 p)] w (fun v w' => v = Value.int .i64 res ∧ InR .i64 res ∧ Ext w w') := by
  unfold p_impl_rankModulo at h
  have hS0 : St w w [] := St.start w
  refine Ret.start (fn := Try.f21) Try.func21 rfl 141 rfl rfl ?_
  refine W.seq (W.region ?_)
  refine WL.val (Value.int .i64 (0 : Int)) _ (op_assign rfl) rfl ?_
  refine WL.nil ?_
  refine W.seq (W.region ?_)
  refine WL.lit0 (t := (Ty.sl (Ty.i .i64))) hS0 sl_37 rfl rfl ?_
  intro u1 wd2 hS3 he4
  replace hS3 : St w wd2 [(Ty.sl (Ty.sl (Ty.i .i64))).at u1 ([] : (List (List Int)))] := hS3
  refine WL.val (Value.int .i64 (0 : Int)) _ (op_assign rfl) rfl ?_
  refine WL.val u1 _ (op_assign rfl) rfl ?_
  refine WL.nil ?_
  refine W.seq (W.seq (W.region ?_))
  refine WL.val v_list _ (op_move rfl) rfl ?_
  have hr5 := inR_len (Ty.lift _ hS3.ext r_list)
  refine WL.val (Value.int .i64 ((list).length : Int)) _ (op_lenL sl_37 (Ty.lift _ hS3.ext r_list) rfl) rfl ?_
  refine WL.val (Value.int .i64 (0 : Int)) _ (op_move rfl) rfl ?_
  refine WL.nil ?_
  show W _ _ _ _ _ _
  obtain ⟨res6, hres7, h⟩ := bs h
  refine W.blockLoop (fun fq wq => ∃ s, res6 = Res.fin s ∧ ∃ (uu0 : Value), fq 1 = (Value.int .i64 p) ∧ fq 5 = (Value.int .i64 (0 : Int)) ∧ fq 6 = uu0 ∧ St w wq [(Ty.sl (Ty.sl (Ty.i .i64))).at uu0 s]) ?_ ?_
  · refine W.forN (fun k (s : (List (List Int))) fq wq => ∃ (uu0 : Value), fq 1 = (Value.int .i64 p) ∧ fq 5 = (Value.int .i64 (0 : Int)) ∧ fq 6 = uu0 ∧ fq 17 = v_list ∧ fq 18 = (Value.int .i64 ((list).length : Int)) ∧ fq 19 = Value.int .i64 (k : Int) ∧ InR .i64 (k : Int) ∧ St w wq [(Ty.sl (Ty.sl (Ty.i .i64))).at uu0 s]) hres7 ⟨u1, rfl, rfl, rfl, rfl, rfl, rfl, (inL rfl), hS3⟩ ?_ ?_
    · intro k8 x9 ct10 f11 wd12 hk13 hb14 hI15 hbrk16 hret17
      replace hI15 : ∃ (uu0 : Value), f11 1 = (Value.int .i64 p) ∧ f11 5 = (Value.int .i64 (0 : Int)) ∧ f11 6 = uu0 ∧ f11 17 = v_list ∧ f11 18 = (Value.int .i64 ((list).length : Int)) ∧ f11 19 = Value.int .i64 (k8 : Int) ∧ InR .i64 (k8 : Int) ∧ St w wd12 [(Ty.sl (Ty.sl (Ty.i .i64))).at uu0 x9] := hI15
      replace hb14 : p_impl_rankModulo_L1 list k8 x9 = some ct10 := hb14
      unfold p_impl_rankModulo_L1 at hb14
      obtain ⟨u18, hf19, hf20, hf21, hf22, hf23, hf24, hr25, hS26⟩ := hI15
      refine W.seq (W.region ?_)
      refine WL.val (Value.bool (decide ((k8 : Int) < ((list).length : Int)))) _ (op_lss hf24 hf23) rfl ?_
      have hl27 : (k8 : Int) < ((list).length : Int) := by omega
      refine WL.nil ?_
      refine W.seq ?_
      refine W.condT (decide ((k8 : Int) < ((list).length : Int))) rfl (decide_eq_true hl27) ?_
      refine W.skip ?_
      refine W.seq ?_
      refine W.block ?_
      refine W.seq (W.region ?_)
      obtain ⟨x29, hx32, hb14⟩ := bs hb14
      obtain ⟨ha30, hb31, hx32⟩ := idx_some hx32
      refine WL.val (Value.pointer (some (elA v_list ((k8 : Int)).toNat))) _ (op_idx sl_37 (Ty.lift _ hS26.ext r_list) hf22 hf24 ha30 hb31) rfl ?_
      obtain ⟨u33, hc34, hr35⟩ := repSl.el r_list hx32
      refine WL.val u33 _ (op_load one_22 rfl (Ext.cell hS26.ext hc34)) rfl ?_
      refine WL.val u33 _ (op_assign rfl) rfl ?_
      refine WL.nil ?_
      show W _ _ _ _ _ _
      refine W.region ?_
      refine WL.val u18 _ (op_move hf21) rfl ?_
      refine WL.val u33 _ (op_move rfl) rfl ?_
      obtain ⟨x36, hx37, hb14⟩ := bs hb14
      refine WL.call _ (op_call fn_40 (args1 rfl)) (c_slices_Clone_Lint64_int64 (Ty.lift _ hS26.ext hr35) hx37) rfl ?_
      rintro u38 wd39 ⟨_, rfl, he40, hs41⟩
      have hS42 := St.join hS26 he40 hs41
      replace hS42 : St w wd39 [(Ty.sl (Ty.sl (Ty.i .i64))).at u18 x9, (Ty.sl (Ty.i .i64)).at u38 x36] := hS42
      refine WL.lit [u38] hS42 sl_37 rfl rfl (fillL rfl ⟨rfl, rfl, (cells_rep (St.rep (t := (Ty.sl (Ty.i .i64))) hS42 1 rfl)), trivial⟩) rfl rfl ?_
      intro b47 wd44 hS45 he46 hx48
      replace hS45 : St w wd44 [(Ty.sl (Ty.sl (Ty.i .i64))).at u18 x9, (Ty.sl (Ty.i .i64)).at u38 x36, bx b47 [u38]] := hS45
      obtain ⟨x49, hx50, hb14⟩ := bs hb14
      refine WL.appendRow hS45 (k := 0) (k2 := 1) (k3 := 2) rfl rfl rfl rfl sl_37 rfl rfl rfl rfl hx50 rfl ?_
      intro u51 wd52 hS53 hz54
      replace hS53 : St w wd52 [(Ty.sl (Ty.sl (Ty.i .i64))).at u51 x49, emp, bx b47 [u38]] := hS53
      refine WL.val u51 _ (op_assign rfl) rfl ?_
      refine WL.nil ?_
      show W _ _ _ _ _ _
      refine W.region ?_
      refine WL.val (Value.int .i64 (w64 ((k8 : Int) + (1 : Int)))) _ (op_add hf24 rfl) rfl ?_
      refine WL.val (Value.int .i64 (w64 ((k8 : Int) + (1 : Int)))) _ (op_move rfl) rfl ?_
      refine WL.nil ?_
      obtain rfl := Option.some.inj hb14
      show ∃ s, _ = Ctl.next s ∧ _
      exact ⟨_, rfl, u51, hf19, hf20, rfl, hf22, hf23, (ctr_next hl27 hr5), (ctr_rng hl27 hr5), (St.pick hS53 [0] rfl)⟩
    · intro x61 f56 wd57 hs58 hI59
      replace hI59 : ∃ (uu0 : Value), f56 1 = (Value.int .i64 p) ∧ f56 5 = (Value.int .i64 (0 : Int)) ∧ f56 6 = uu0 ∧ f56 17 = v_list ∧ f56 18 = (Value.int .i64 ((list).length : Int)) ∧ f56 19 = Value.int .i64 (((list).length : Nat) : Int) ∧ InR .i64 (((list).length : Nat) : Int) ∧ St w wd57 [(Ty.sl (Ty.sl (Ty.i .i64))).at uu0 x61] := hI59
      obtain ⟨u62, hf63, hf64, hf65, hf66, hf67, hf68, hr69, hS70⟩ := hI59
      refine W.seq (W.region ?_)
      refine WL.val (Value.bool (decide ((((list).length : Nat) : Int) < ((list).length : Int)))) _ (op_lss hf68 hf67) rfl ?_
      have hl71 : ¬ (((list).length : Nat) : Int) < ((list).length : Int) := by omega
      refine WL.nil ?_
      refine W.seq ?_
      refine W.condF (decide ((((list).length : Nat) : Int) < ((list).length : Int))) rfl (decide_eq_false hl71) ?_
      refine W.exit ?_
      show _ = _ ∧ _
      exact ⟨rfl, _, hs58, u62, hf63, hf64, hf65, hS70⟩
  · rintro f72 wd73 ⟨x76, rfl, hq74⟩
    replace h := onRes_fin h
    replace hq74 : ∃ (uu0 : Value), f72 1 = (Value.int .i64 p) ∧ f72 5 = (Value.int .i64 (0 : Int)) ∧ f72 6 = uu0 ∧ St w wd73 [(Ty.sl (Ty.sl (Ty.i .i64))).at uu0 x76] := hq74
    obtain ⟨u77, hf78, hf79, hf80, hS81⟩ := hq74
    refine W.seq (W.seq (W.region ?_))
    refine WL.alloc hS81 ze_3 (cs := [(Value.int .i64 (0 : Int))]) rfl rfl ?_
    intro b82 wd83 hS84 he85
    replace hS84 : St w wd83 [(Ty.sl (Ty.sl (Ty.i .i64))).at u77 x76, bx b82 [(Value.int .i64 (0 : Int))]] := hS84
    refine WL.storeBox [(Value.int .i64 (0 : Int))] hS84 (k := 1) rfl rfl rfl (us := [(Value.int .i64 (0 : Int))]) rfl sz_3 rfl rfl (all_cons rfl all_nil) rfl ?_
    intro wd86 hS87
    replace hS87 : St w wd86 [(Ty.sl (Ty.sl (Ty.i .i64))).at u77 x76, bx b82 [(Value.int .i64 (0 : Int))]] := hS87
    refine WL.nil ?_
    show W _ _ _ _ _ _
    obtain ⟨res88, hres89, h⟩ := bs h
    refine W.blockLoop (fun fq wq => ∃ s, res88 = Res.fin s ∧ fq 5 = Value.int .i64 s.2.2 ∧ InR .i64 s.2.2 ∧ St w wq []) ?_ ?_
    · refine W.whileC (fun (s : (List (List Int)) × Int × Int) fq wq => ∃ (uu0 : Nat), fq 1 = (Value.int .i64 p) ∧ fq 5 = Value.int .i64 s.2.2 ∧ InR .i64 s.2.2 ∧ fq 6 = u77 ∧ fq 9 = (Value.pointer (some ⟨uu0, 0, none⟩)) ∧ InR .i64 s.2.1 ∧ St w wq [(Ty.sl (Ty.sl (Ty.i .i64))).at u77 s.1, bx uu0 [(Value.int .i64 s.2.1)]]) hres89 ⟨b82, hf78, hf79, (inL rfl), hf80, rfl, (inL rfl), hS87⟩ ?_
      intro s1161 ct94 f95 wd96 hb98 hI99 hbrk100 hret101
      obtain ⟨x91, x92, x93⟩ := s1161
      replace hI99 : ∃ (uu0 : Nat), f95 1 = (Value.int .i64 p) ∧ f95 5 = Value.int .i64 x93 ∧ InR .i64 x93 ∧ f95 6 = u77 ∧ f95 9 = (Value.pointer (some ⟨uu0, 0, none⟩)) ∧ InR .i64 x92 ∧ St w wd96 [(Ty.sl (Ty.sl (Ty.i .i64))).at u77 x91, bx uu0 [(Value.int .i64 x92)]] := hI99
      replace hb98 : p_impl_rankModulo_L2 p  x91 x92 x93 = some ct94 := hb98
      unfold p_impl_rankModulo_L2 at hb98
      obtain ⟨u102, hf103, hf104, hr105, hf106, hf107, hr108, hS109⟩ := hI99
      refine W.seq (W.seq ?_)
      obtain ⟨x149, hj150, hb98⟩ := bs hb98
      refine W.cutCode (fun fq wq => fq 1 = (Value.int .i64 p) ∧ fq 5 = (Value.int .i64 x93) ∧ fq 6 = u77 ∧ fq 9 = (Value.pointer (some ⟨u102, 0, none⟩)) ∧ fq 39 = Value.bool x149 ∧ St w wq [(Ty.sl (Ty.sl (Ty.i .i64))).at u77 x91, bx u102 [(Value.int .i64 x92)]]) ?_ ?_
      · rcases Bool.eq_false_or_eq_true (decide (((x91).length : Int) > (0 : Int))) with hc151 | hc151
        · replace hj150 := ip hj150 hc151
          obtain ⟨x188, hx191, hj150⟩ := bs hj150
          obtain ⟨ha189, hb190, hx191⟩ := idx_some hx191
          obtain ⟨u206, hc207, hr208⟩ := repSl.el (St.rep (t := (Ty.sl (Ty.sl (Ty.i .i64)))) hS109 0 rfl) hx191
          refine W.drawR mixo 9 [] [fun _ v _ _ => v = u77, fun _ v _ _ => v = (Value.int .i64 ((x91).length : Int)) ∧ InR .i64 ((x91).length : Int), fun _ v _ _ => v = (Value.bool (decide (((x91).length : Int) > (0 : Int)))), fun _ v _ _ => v = (Value.bool (decide (((x91).length : Int) > (0 : Int)))), fun _ v _ _ => v = (Value.int .i64 x92) ∧ InR .i64 x92, fun _ v _ _ => v = u77, fun _ v _ _ => v = (Value.pointer (some (elA u77 ((0 : Int)).toNat))), fun _ v _ _ => v = u206, fun _ v _ _ => v = (Value.int .i64 ((x188).length : Int)) ∧ InR .i64 ((x188).length : Int)] (by kernel_rfl) (by kernel_rfl) ⟨pk, pk, pk, pk, pk, pk, pk, pk, pk, trivial⟩ ⟨?_, ?_, ?_, ?_, ?_, ?_, ?_, ?_, ?_, trivial⟩ ?_
          · refine ObX.op rfl fun f110 wd111 he112 hout113 hphi114 => ?_
            have hS115 := St.extend hS109 he112
            have e116 : f110 6 = u77 := (hout113 6 rfl).trans hf106
            exact OpX.val u77 wd111 rfl (op_move e116) (Ext.refl _) rfl
          · refine ObX.op rfl fun f117 wd118 he119 hout120 hphi121 => ?_
            have hS122 := St.extend hS109 he119
            obtain ⟨S123, hS124, hf125⟩ := hphi121 0 29 _ rfl rfl rfl
            have e126 : f117 29 = u77 := hf125
            have hr127 := inR_len (St.rep (t := (Ty.sl (Ty.sl (Ty.i .i64)))) hS122 0 rfl)
            exact OpX.val (Value.int .i64 ((x91).length : Int)) wd118 rfl (op_lenL sl_37 (St.rep (t := (Ty.sl (Ty.sl (Ty.i .i64)))) hS122 0 rfl) e126) (Ext.refl _) ⟨rfl, hr127⟩
          · refine ObX.op rfl fun f128 wd129 he130 hout131 hphi132 => ?_
            have hS133 := St.extend hS109 he130
            obtain ⟨S134, hS135, hf136⟩ := hphi132 1 30 _ rfl rfl rfl
            obtain ⟨e137, hr138⟩ := hf136
            exact OpX.val (Value.bool (decide (((x91).length : Int) > (0 : Int)))) wd129 rfl (op_gtr e137 rfl) (Ext.refl _) rfl
          · refine ObX.op rfl fun f139 wd140 he141 hout142 hphi143 => ?_
            have hS144 := St.extend hS109 he141
            obtain ⟨S145, hS146, hf147⟩ := hphi143 2 31 _ rfl rfl rfl
            have e148 : f139 31 = (Value.bool (decide (((x91).length : Int) > (0 : Int)))) := hf147
            exact OpX.val (Value.bool (decide (((x91).length : Int) > (0 : Int)))) wd140 rfl (op_move e148) (Ext.refl _) rfl
          · refine ObX.op rfl fun f152 wd153 he154 hout155 hphi156 => ?_
            have hS157 := St.extend hS109 he154
            have e158 : f152 9 = (Value.pointer (some ⟨u102, 0, none⟩)) := (hout155 9 rfl).trans hf107
            obtain ⟨S159, hS160, hf161⟩ := hphi156 3 32 _ rfl rfl rfl
            have e162 : f152 32 = (Value.bool (decide (((x91).length : Int) > (0 : Int)))) := hf161
            exact OpX.val (Value.int .i64 x92) wd153 (wanted_run rfl rfl e162 hc151) (op_load one_3 e158 (BoxAt.cell (St.boxAt hS157 1 rfl) rfl)) (Ext.refl _) ⟨rfl, hr108⟩
          · refine ObX.op rfl fun f163 wd164 he165 hout166 hphi167 => ?_
            have e169 : f163 6 = u77 := (hout166 6 rfl).trans hf106
            obtain ⟨S170, hS171, hf172⟩ := hphi167 3 32 _ rfl rfl rfl
            have e173 : f163 32 = (Value.bool (decide (((x91).length : Int) > (0 : Int)))) := hf172
            exact OpX.val u77 wd164 (wanted_run rfl rfl e173 hc151) (op_move e169) (Ext.refl _) rfl
          · refine ObX.op rfl fun f174 wd175 he176 hout177 hphi178 => ?_
            have hS179 := St.extend hS109 he176
            obtain ⟨S180, hS181, hf182⟩ := hphi178 3 32 _ rfl rfl rfl
            have e183 : f174 32 = (Value.bool (decide (((x91).length : Int) > (0 : Int)))) := hf182
            obtain ⟨S184, hS185, hf186⟩ := hphi178 5 34 _ rfl rfl rfl
            have e187 : f174 34 = u77 := hf186
            exact OpX.val (Value.pointer (some (elA u77 ((0 : Int)).toNat))) wd175 (wanted_run rfl rfl e183 hc151) (op_idx sl_37 (St.rep (t := (Ty.sl (Ty.sl (Ty.i .i64)))) hS179 0 rfl) e187 rfl ha189 hb190) (Ext.refl _) rfl
          · refine ObX.op rfl fun f192 wd193 he194 hout195 hphi196 => ?_
            obtain ⟨S198, hS199, hf200⟩ := hphi196 3 32 _ rfl rfl rfl
            have e201 : f192 32 = (Value.bool (decide (((x91).length : Int) > (0 : Int)))) := hf200
            obtain ⟨S202, hS203, hf204⟩ := hphi196 6 35 _ rfl rfl rfl
            have e205 : f192 35 = (Value.pointer (some (elA u77 ((0 : Int)).toNat))) := hf204
            exact OpX.val u206 wd193 (wanted_run rfl rfl e201 hc151) (op_load one_22 e205 (Ext.cell he194 hc207)) (Ext.refl _) rfl
          · refine ObX.op rfl fun f209 wd210 he211 hout212 hphi213 => ?_
            obtain ⟨S215, hS216, hf217⟩ := hphi213 3 32 _ rfl rfl rfl
            have e218 : f209 32 = (Value.bool (decide (((x91).length : Int) > (0 : Int)))) := hf217
            obtain ⟨S219, hS220, hf221⟩ := hphi213 7 36 _ rfl rfl rfl
            have e222 : f209 36 = u206 := hf221
            have hr223 := inR_len (Ty.lift _ he211 hr208)
            exact OpX.val (Value.int .i64 ((x188).length : Int)) wd210 (wanted_run rfl rfl e218 hc151) (op_lenL sl_22 (Ty.lift _ he211 hr208) e222) (Ext.refl _) ⟨rfl, hr223⟩
          · intro f224 wd225 Ss226 he227 hout228 hSn229 hSd230 hphi231
            show WL _ _ _ _ _ _ _
            have hS232 := St.extend hS109 he227
            have e233 : f224 32 = (Value.bool (decide (((x91).length : Int) > (0 : Int)))) := hphi231 3 32 _ (by decide) rfl rfl
            obtain ⟨e234, hr235⟩ := hphi231 4 33 _ (by decide) rfl rfl
            obtain ⟨e239, hr240⟩ := hphi231 8 37 _ (by decide) rfl rfl
            have e241 : f224 1 = (Value.int .i64 p) := (hout228 1 rfl).trans hf103
            have e242 : f224 5 = (Value.int .i64 x93) := (hout228 5 rfl).trans hf104
            have e243 : f224 6 = u77 := (hout228 6 rfl).trans hf106
            have e244 : f224 9 = (Value.pointer (some ⟨u102, 0, none⟩)) := (hout228 9 rfl).trans hf107
            refine WL.grun rfl (bool_of e233 hc151) ?_
            refine WL.val (Value.bool (decide (x92 < ((x188).length : Int)))) _ (op_lss e234 e239) rfl ?_
            refine WL.val (Value.bool (decide (x92 < ((x188).length : Int)))) _ (op_pick_t (evb_of e233 hc151) rfl) rfl ?_
            refine WL.nil ?_
            obtain rfl := Option.some.inj hj150
            exact ⟨e241, e242, e243, e244, rfl, hS232⟩
        · replace hj150 := inegb hj150 hc151
          refine W.drawR mixo 9 [] [fun _ v _ _ => v = u77, fun _ v _ _ => v = (Value.int .i64 ((x91).length : Int)) ∧ InR .i64 ((x91).length : Int), fun _ v _ _ => v = (Value.bool (decide (((x91).length : Int) > (0 : Int)))), fun _ v _ _ => v = (Value.bool (decide (((x91).length : Int) > (0 : Int)))), fun _ v _ _ => v = undef, fun _ v _ _ => v = undef, fun _ v _ _ => v = undef, fun _ v _ _ => v = undef, fun _ v _ _ => v = undef] (by kernel_rfl) (by kernel_rfl) ⟨pk, pk, pk, pk, pk, pk, pk, pk, pk, trivial⟩ ⟨?_, ?_, ?_, ?_, ?_, ?_, ?_, ?_, ?_, trivial⟩ ?_
          · refine ObX.op rfl fun f110 wd111 he112 hout113 hphi114 => ?_
            have hS115 := St.extend hS109 he112
            have e116 : f110 6 = u77 := (hout113 6 rfl).trans hf106
            exact OpX.val u77 wd111 rfl (op_move e116) (Ext.refl _) rfl
          · refine ObX.op rfl fun f117 wd118 he119 hout120 hphi121 => ?_
            have hS122 := St.extend hS109 he119
            obtain ⟨S123, hS124, hf125⟩ := hphi121 0 29 _ rfl rfl rfl
            have e126 : f117 29 = u77 := hf125
            have hr127 := inR_len (St.rep (t := (Ty.sl (Ty.sl (Ty.i .i64)))) hS122 0 rfl)
            exact OpX.val (Value.int .i64 ((x91).length : Int)) wd118 rfl (op_lenL sl_37 (St.rep (t := (Ty.sl (Ty.sl (Ty.i .i64)))) hS122 0 rfl) e126) (Ext.refl _) ⟨rfl, hr127⟩
          · refine ObX.op rfl fun f128 wd129 he130 hout131 hphi132 => ?_
            have hS133 := St.extend hS109 he130
            obtain ⟨S134, hS135, hf136⟩ := hphi132 1 30 _ rfl rfl rfl
            obtain ⟨e137, hr138⟩ := hf136
            exact OpX.val (Value.bool (decide (((x91).length : Int) > (0 : Int)))) wd129 rfl (op_gtr e137 rfl) (Ext.refl _) rfl
          · refine ObX.op rfl fun f139 wd140 he141 hout142 hphi143 => ?_
            have hS144 := St.extend hS109 he141
            obtain ⟨S145, hS146, hf147⟩ := hphi143 2 31 _ rfl rfl rfl
            have e148 : f139 31 = (Value.bool (decide (((x91).length : Int) > (0 : Int)))) := hf147
            exact OpX.val (Value.bool (decide (((x91).length : Int) > (0 : Int)))) wd140 rfl (op_move e148) (Ext.refl _) rfl
          · refine ObX.op rfl fun f245 wd246 he247 hout248 hphi249 => ?_
            obtain ⟨S250, hS251, hf252⟩ := hphi249 3 32 _ rfl rfl rfl
            have e253 : f245 32 = (Value.bool (decide (((x91).length : Int) > (0 : Int)))) := hf252
            exact OpX.skip (wanted_skip rfl rfl e253 hc151) rfl
          · refine ObX.op rfl fun f254 wd255 he256 hout257 hphi258 => ?_
            obtain ⟨S259, hS260, hf261⟩ := hphi258 3 32 _ rfl rfl rfl
            have e262 : f254 32 = (Value.bool (decide (((x91).length : Int) > (0 : Int)))) := hf261
            exact OpX.skip (wanted_skip rfl rfl e262 hc151) rfl
          · refine ObX.op rfl fun f263 wd264 he265 hout266 hphi267 => ?_
            obtain ⟨S268, hS269, hf270⟩ := hphi267 3 32 _ rfl rfl rfl
            have e271 : f263 32 = (Value.bool (decide (((x91).length : Int) > (0 : Int)))) := hf270
            exact OpX.skip (wanted_skip rfl rfl e271 hc151) rfl
          · refine ObX.op rfl fun f272 wd273 he274 hout275 hphi276 => ?_
            obtain ⟨S277, hS278, hf279⟩ := hphi276 3 32 _ rfl rfl rfl
            have e280 : f272 32 = (Value.bool (decide (((x91).length : Int) > (0 : Int)))) := hf279
            exact OpX.skip (wanted_skip rfl rfl e280 hc151) rfl
          · refine ObX.op rfl fun f281 wd282 he283 hout284 hphi285 => ?_
            obtain ⟨S286, hS287, hf288⟩ := hphi285 3 32 _ rfl rfl rfl
            have e289 : f281 32 = (Value.bool (decide (((x91).length : Int) > (0 : Int)))) := hf288
            exact OpX.skip (wanted_skip rfl rfl e289 hc151) rfl
          · intro f290 wd291 Ss292 he293 hout294 hSn295 hSd296 hphi297
            show WL _ _ _ _ _ _ _
            have hS298 := St.extend hS109 he293
            have e299 : f290 32 = (Value.bool (decide (((x91).length : Int) > (0 : Int)))) := hphi297 3 32 _ (by decide) rfl rfl
            have e305 : f290 1 = (Value.int .i64 p) := (hout294 1 rfl).trans hf103
            have e306 : f290 5 = (Value.int .i64 x93) := (hout294 5 rfl).trans hf104
            have e307 : f290 6 = u77 := (hout294 6 rfl).trans hf106
            have e308 : f290 9 = (Value.pointer (some ⟨u102, 0, none⟩)) := (hout294 9 rfl).trans hf107
            refine WL.gskip rfl (bool_of e299 hc151) rfl ?_
            refine WL.val (Value.bool false) _ (op_pick_f (evb_of e299 hc151) rfl) rfl ?_
            refine WL.nil ?_
            obtain rfl := Option.some.inj hj150
            exact ⟨e305, e306, e307, e308, rfl, hS298⟩
      · intro f309 wd310 hq311
        obtain ⟨hf312, hf313, hf314, hf315, hf316, hS317⟩ := hq311
        refine W.cond x149 hf316 (fun hc318 => ?_) (fun hc318 => ?_)
        · replace hb98 := ip hb98 hc318
          refine W.skip ?_
          refine W.seq ?_
          refine W.block ?_
          refine W.seq (W.region ?_)
          refine WL.val u77 _ (op_move hf314) rfl ?_
          refine WL.val (Value.int .i64 x93) _ (op_move hf313) rfl ?_
          obtain ⟨x320, hx321, hb98⟩ := bs hb98
          refine WL.slice (kd := .i64) sl_37 rfl (St.rep (t := (Ty.sl (Ty.sl (Ty.i .i64)))) hS317 0 rfl) rfl rfl hx321 rfl ?_
          intro u322 hr323
          refine WL.val (Value.func (.func 42) #[] #[(Value.pointer (some ⟨u102, 0, none⟩))]) _ (op_makeFunc (va := #[]) (vb := #[(Value.pointer (some ⟨u102, 0, none⟩))]) args0 (args1 hf315)) rfl ?_
          obtain ⟨x328, hx329, hb98⟩ := bs hb98
          refine WL.call _ (op_call fn_41 (args2 rfl rfl)) (c_slices_IndexFunc_LLint64_Lint64 hr323 (⟨42, #[], #[(Value.pointer (some ⟨u102, 0, none⟩))], rfl, fn_42, fun wd324 u0_325 a0_325 r326 he325 ra0_325 hq327 => c_impl_rankModulo_c1 ra0_325 (BoxAt.lift he325 (St.boxAt hS317 1 rfl)) hr108 hq327⟩) hx329) rfl ?_
          rintro _ wd331 ⟨rfl, hr330, he332⟩
          have hS334 := St.extend hS317 he332
          replace hS334 : St w wd331 [(Ty.sl (Ty.sl (Ty.i .i64))).at u77 x91, bx u102 [(Value.int .i64 x92)]] := hS334
          refine WL.val (Value.int .i64 x328) _ (op_assign rfl) rfl ?_
          refine WL.nil ?_
          refine W.seq (W.seq (W.region ?_))
          refine WL.val (Value.int .i64 x328) _ (op_move rfl) rfl ?_
          refine WL.val (Value.bool (decide (x328 < (0 : Int)))) _ (op_lss rfl rfl) rfl ?_
          refine WL.nil ?_
          refine W.cond (decide (x328 < (0 : Int))) rfl (fun hc335 => ?_) (fun hc335 => ?_)
          · replace hb98 := ip hb98 hc335
            refine W.exit ?_
            refine W.seq (W.seq (W.region ?_))
            refine WL.val (Value.int .i64 x92) _ (op_load one_3 hf315 (BoxAt.cell (St.boxAt hS334 1 rfl) rfl)) rfl ?_
            refine WL.nil ?_
            show W _ _ _ _ _ _
            refine W.region ?_
            refine WL.alloc hS334 ze_3 (cs := [(Value.int .i64 (0 : Int))]) rfl rfl ?_
            intro b337 wd338 hS339 he340
            replace hS339 : St w wd338 [(Ty.sl (Ty.sl (Ty.i .i64))).at u77 x91, bx u102 [(Value.int .i64 x92)], bx b337 [(Value.int .i64 (0 : Int))]] := hS339
            refine WL.storeBox [(Value.int .i64 x92)] hS339 (k := 2) rfl rfl rfl (us := [(Value.int .i64 x92)]) rfl sz_3 rfl rfl (all_cons rfl all_nil) rfl ?_
            intro wd341 hS342
            replace hS342 : St w wd341 [(Ty.sl (Ty.sl (Ty.i .i64))).at u77 x91, bx u102 [(Value.int .i64 x92)], bx b337 [(Value.int .i64 x92)]] := hS342
            refine WL.nil ?_
            show W _ _ _ _ _ _
            refine W.region ?_
            refine WL.val (Value.int .i64 x92) _ (op_load one_3 rfl (BoxAt.cell (St.boxAt hS342 2 rfl) rfl)) rfl ?_
            refine WL.val (Value.int .i64 (w64 (x92 + (1 : Int)))) _ (op_add rfl rfl) rfl ?_
            refine WL.storeBox [(Value.int .i64 (w64 (x92 + (1 : Int))))] hS342 (k := 2) rfl rfl rfl (us := [(Value.int .i64 (w64 (x92 + (1 : Int))))]) rfl sz_3 rfl rfl (all_cons rfl all_nil) rfl ?_
            intro wd343 hS344
            replace hS344 : St w wd343 [(Ty.sl (Ty.sl (Ty.i .i64))).at u77 x91, bx u102 [(Value.int .i64 x92)], bx b337 [(Value.int .i64 (w64 (x92 + (1 : Int))))]] := hS344
            refine WL.nil ?_
            obtain rfl := Option.some.inj hb98
            show ∃ s, _ = Ctl.next s ∧ _
            exact ⟨_, rfl, b337, hf312, hf313, hr105, hf314, rfl, (inR_wrap _ _), (St.pick hS344 [0, 2] rfl)⟩
          · replace hb98 := inegb hb98 hc335
            refine W.skip ?_
            refine W.seq ?_
            obtain ⟨x448, hx451, hb98⟩ := bs hb98
            obtain ⟨ha449, hb450, hx451⟩ := idx_some hx451
            obtain ⟨u462, hc463, hr464⟩ := repSl.el (St.rep (t := (Ty.sl (Ty.sl (Ty.i .i64)))) hS334 0 rfl) hx451
            obtain ⟨x494, hx497, hb98⟩ := bs hb98
            obtain ⟨ha495, hb496, hx497⟩ := idx_some hx497
            obtain ⟨u508, hc509, hr510⟩ := repSl.el (St.rep (t := (Ty.sl (Ty.sl (Ty.i .i64)))) hS334 0 rfl) hx497
            refine W.drawR mixo 16 [2, 3, 4, 5] [fun _ v _ _ => v = u77, fun _ v _ _ => v = (Value.int .i64 x93) ∧ InR .i64 x93, fun _ v _ _ => v = u77, fun _ v _ _ => v = (Value.int .i64 x93) ∧ InR .i64 x93, fun _ v _ _ => v = (Value.int .i64 x328) ∧ InR .i64 x328, fun _ v _ _ => v = (Value.int .i64 (w64 (x93 + x328))) ∧ InR .i64 (w64 (x93 + x328)), fun _ v _ _ => v = u77, fun _ v _ _ => v = (Value.int .i64 x93) ∧ InR .i64 x93, fun _ v _ _ => v = (Value.int .i64 x328) ∧ InR .i64 x328, fun _ v _ _ => v = (Value.int .i64 (w64 (x93 + x328))) ∧ InR .i64 (w64 (x93 + x328)), fun _ v _ _ => v = (Value.pointer (some (elA u77 ((w64 (x93 + x328))).toNat))), fun _ v _ _ => v = u462, fun _ v _ _ => v = u77, fun _ v _ _ => v = (Value.int .i64 x93) ∧ InR .i64 x93, fun _ v _ _ => v = (Value.pointer (some (elA u77 (x93).toNat))), fun _ v _ _ => v = u508] (by kernel_rfl) (by kernel_rfl) ⟨pk, pk, pk, pk, pk, pk, pk, pk, pk, pk, pk, pk, pk, pk, pk, pk, trivial⟩ ⟨?_, ?_, ?_, ?_, ?_, ?_, ?_, ?_, ?_, ?_, ?_, ?_, ?_, ?_, ?_, ?_, trivial⟩ ?_
            · refine ObX.op rfl fun f345 wd346 he347 hout348 hphi349 => ?_
              have e351 : f345 6 = u77 := (hout348 6 rfl).trans hf314
              exact OpX.val u77 wd346 rfl (op_move e351) (Ext.refl _) rfl
            · refine ObX.op rfl fun f352 wd353 he354 hout355 hphi356 => ?_
              have e358 : f352 5 = (Value.int .i64 x93) := (hout355 5 rfl).trans hf313
              exact OpX.val (Value.int .i64 x93) wd353 rfl (op_move e358) (Ext.refl _) ⟨rfl, hr105⟩
            · refine ObX.fl rfl ?_
              intro f359 wd360 he361 hout362 hphi363
              have e365 : f359 6 = u77 := (hout362 6 rfl).trans hf314
              exact ⟨rfl, u77, fun _ => (op_move e365), rfl⟩
            · refine ObX.fl rfl ?_
              intro f366 wd367 he368 hout369 hphi370
              have e372 : f366 5 = (Value.int .i64 x93) := (hout369 5 rfl).trans hf313
              exact ⟨rfl, (Value.int .i64 x93), fun _ => (op_move e372), ⟨rfl, hr105⟩⟩
            · refine ObX.fl rfl ?_
              intro f373 wd374 he375 hout376 hphi377
              have e379 : f373 10 = (Value.int .i64 x328) := (hout376 10 rfl).trans rfl
              exact ⟨rfl, (Value.int .i64 x328), fun _ => (op_move e379), ⟨rfl, hr330⟩⟩
            · refine ObX.fl rfl ?_
              intro f380 wd381 he382 hout383 hphi384
              obtain ⟨S386, hS387, hf388⟩ := hphi384 3 52 _ rfl rfl rfl
              obtain ⟨e389, hr390⟩ := hf388
              obtain ⟨S391, hS392, hf393⟩ := hphi384 4 53 _ rfl rfl rfl
              obtain ⟨e394, hr395⟩ := hf393
              exact ⟨rfl, (Value.int .i64 (w64 (x93 + x328))), fun _ => (op_add e389 e394), ⟨rfl, (inR_wrap _ _)⟩⟩
            · refine ObX.op rfl fun f396 wd397 he398 hout399 hphi400 => ?_
              have e402 : f396 6 = u77 := (hout399 6 rfl).trans hf314
              exact OpX.val u77 wd397 rfl (op_move e402) (Ext.refl _) rfl
            · refine ObX.op rfl fun f403 wd404 he405 hout406 hphi407 => ?_
              have e409 : f403 5 = (Value.int .i64 x93) := (hout406 5 rfl).trans hf313
              exact OpX.val (Value.int .i64 x93) wd404 rfl (op_move e409) (Ext.refl _) ⟨rfl, hr105⟩
            · refine ObX.op rfl fun f410 wd411 he412 hout413 hphi414 => ?_
              have e416 : f410 10 = (Value.int .i64 x328) := (hout413 10 rfl).trans rfl
              exact OpX.val (Value.int .i64 x328) wd411 rfl (op_move e416) (Ext.refl _) ⟨rfl, hr330⟩
            · refine ObX.op rfl fun f417 wd418 he419 hout420 hphi421 => ?_
              obtain ⟨S423, hS424, hf425⟩ := hphi421 7 56 _ rfl rfl rfl
              obtain ⟨e426, hr427⟩ := hf425
              obtain ⟨S428, hS429, hf430⟩ := hphi421 8 57 _ rfl rfl rfl
              obtain ⟨e431, hr432⟩ := hf430
              exact OpX.val (Value.int .i64 (w64 (x93 + x328))) wd418 rfl (op_add e426 e431) (Ext.refl _) ⟨rfl, (inR_wrap _ _)⟩
            · refine ObX.op rfl fun f433 wd434 he435 hout436 hphi437 => ?_
              have hS438 := St.extend hS334 he435
              obtain ⟨S439, hS440, hf441⟩ := hphi437 6 55 _ rfl rfl rfl
              have e442 : f433 55 = u77 := hf441
              obtain ⟨S443, hS444, hf445⟩ := hphi437 9 58 _ rfl rfl rfl
              obtain ⟨e446, hr447⟩ := hf445
              exact OpX.val (Value.pointer (some (elA u77 ((w64 (x93 + x328))).toNat))) wd434 rfl (op_idx sl_37 (St.rep (t := (Ty.sl (Ty.sl (Ty.i .i64)))) hS438 0 rfl) e442 e446 ha449 hb450) (Ext.refl _) rfl
            · refine ObX.op rfl fun f452 wd453 he454 hout455 hphi456 => ?_
              obtain ⟨S458, hS459, hf460⟩ := hphi456 10 59 _ rfl rfl rfl
              have e461 : f452 59 = (Value.pointer (some (elA u77 ((w64 (x93 + x328))).toNat))) := hf460
              exact OpX.val u462 wd453 rfl (op_load one_22 e461 (Ext.cell he454 hc463)) (Ext.refl _) rfl
            · refine ObX.op rfl fun f465 wd466 he467 hout468 hphi469 => ?_
              have e471 : f465 6 = u77 := (hout468 6 rfl).trans hf314
              exact OpX.val u77 wd466 rfl (op_move e471) (Ext.refl _) rfl
            · refine ObX.op rfl fun f472 wd473 he474 hout475 hphi476 => ?_
              have e478 : f472 5 = (Value.int .i64 x93) := (hout475 5 rfl).trans hf313
              exact OpX.val (Value.int .i64 x93) wd473 rfl (op_move e478) (Ext.refl _) ⟨rfl, hr105⟩
            · refine ObX.op rfl fun f479 wd480 he481 hout482 hphi483 => ?_
              have hS484 := St.extend hS334 he481
              obtain ⟨S485, hS486, hf487⟩ := hphi483 12 61 _ rfl rfl rfl
              have e488 : f479 61 = u77 := hf487
              obtain ⟨S489, hS490, hf491⟩ := hphi483 13 62 _ rfl rfl rfl
              obtain ⟨e492, hr493⟩ := hf491
              exact OpX.val (Value.pointer (some (elA u77 (x93).toNat))) wd480 rfl (op_idx sl_37 (St.rep (t := (Ty.sl (Ty.sl (Ty.i .i64)))) hS484 0 rfl) e488 e492 ha495 hb496) (Ext.refl _) rfl
            · refine ObX.op rfl fun f498 wd499 he500 hout501 hphi502 => ?_
              obtain ⟨S504, hS505, hf506⟩ := hphi502 14 63 _ rfl rfl rfl
              have e507 : f498 63 = (Value.pointer (some (elA u77 (x93).toNat))) := hf506
              exact OpX.val u508 wd499 rfl (op_load one_22 e507 (Ext.cell he500 hc509)) (Ext.refl _) rfl
            · intro f511 wd512 Ss513 he514 hout515 hSn516 hSd517 hphi518
              show WL _ _ _ _ _ _ _
              have hS519 := St.extend hS334 he514
              have e520 : f511 49 = u77 := hphi518 0 49 _ (by decide) rfl rfl
              obtain ⟨e521, hr522⟩ := hphi518 1 50 _ (by decide) rfl rfl
              have e523 : f511 51 = u77 := hphi518 2 51 _ (by decide) rfl rfl
              obtain ⟨e524, hr525⟩ := hphi518 5 54 _ (by decide) rfl rfl
              have e526 : f511 60 = u462 := hphi518 11 60 _ (by decide) rfl rfl
              have e527 : f511 64 = u508 := hphi518 15 64 _ (by decide) rfl rfl
              have e528 : f511 1 = (Value.int .i64 p) := (hout515 1 rfl).trans hf312
              have e529 : f511 5 = (Value.int .i64 x93) := (hout515 5 rfl).trans hf313
              have e530 : f511 6 = u77 := (hout515 6 rfl).trans hf314
              have e531 : f511 9 = (Value.pointer (some ⟨u102, 0, none⟩)) := (hout515 9 rfl).trans hf315
              refine WL.val (Value.pointer (some (elA u77 (x93).toNat))) _ (op_idx sl_37 (St.rep (t := (Ty.sl (Ty.sl (Ty.i .i64)))) hS519 0 rfl) e520 e521 ha495 hb496) rfl ?_
              refine WL.swap1 hS519 (k := 0) rfl sz_22 (i := x93) (j := (w64 (x93 + x328))) hx497 hx451 (Ext.cell he514 hc509) (Ext.cell he514 hc463) rfl e526 ?_
              intro wd532 hS533
              replace hS533 : St w wd532 [halfAt (Ty.sl (Ty.i .i64)) u77 x91 (x93).toNat ((w64 (x93 + x328))).toNat u508 u462, bx u102 [(Value.int .i64 x92)]] := hS533
              refine WL.val (Value.pointer (some (elA u77 ((w64 (x93 + x328))).toNat))) _ (op_idxHalf hS533 (k := 0) rfl sl_37 e523 e524 ha449 hb450) rfl ?_
              refine WL.swap2 hS533 (k := 0) rfl sz_22 (i := x93) (j := (w64 (x93 + x328))) hx497 hx451 rfl e527 ?_
              intro wd534 hS535
              replace hS535 : St w wd534 [(Ty.sl (Ty.sl (Ty.i .i64))).at u77 (((x91).set (x93).toNat x448).set ((w64 (x93 + x328))).toNat x494), bx u102 [(Value.int .i64 x92)]] := hS535
              refine WL.nil ?_
              refine W.seq (W.region ?_)
              refine WL.val (Value.int .i64 (1 : Int)) _ (op_assign rfl) rfl ?_
              refine WL.nil ?_
              refine W.seq ?_
              obtain ⟨res536, hres537, hb98⟩ := bs hb98
              refine W.blockLoop (fun fq wq => ∃ s, res536 = Res.fin s ∧ fq 1 = (Value.int .i64 p) ∧ fq 5 = (Value.int .i64 x93) ∧ fq 6 = u77 ∧ fq 9 = (Value.pointer (some ⟨u102, 0, none⟩)) ∧ fq 11 = Value.int .i64 s ∧ InR .i64 s ∧ St w wq [(Ty.sl (Ty.sl (Ty.i .i64))).at u77 (((x91).set (x93).toNat x448).set ((w64 (x93 + x328))).toNat x494), bx u102 [(Value.int .i64 x92)]]) ?_ ?_
              · refine W.whileC (fun (s : Int) fq wq => fq 1 = (Value.int .i64 p) ∧ fq 5 = (Value.int .i64 x93) ∧ fq 6 = u77 ∧ fq 9 = (Value.pointer (some ⟨u102, 0, none⟩)) ∧ fq 11 = Value.int .i64 s ∧ InR .i64 s ∧ St w wq [(Ty.sl (Ty.sl (Ty.i .i64))).at u77 (((x91).set (x93).toNat x448).set ((w64 (x93 + x328))).toNat x494), bx u102 [(Value.int .i64 x92)]]) hres537 ⟨e528, e529, e530, e531, rfl, (inL rfl), hS535⟩ ?_
                intro x539 ct540 f541 wd542 hb544 hI545 hbrk546 hret547
                replace hI545 : f541 1 = (Value.int .i64 p) ∧ f541 5 = (Value.int .i64 x93) ∧ f541 6 = u77 ∧ f541 9 = (Value.pointer (some ⟨u102, 0, none⟩)) ∧ f541 11 = Value.int .i64 x539 ∧ InR .i64 x539 ∧ St w wd542 [(Ty.sl (Ty.sl (Ty.i .i64))).at u77 (((x91).set (x93).toNat x448).set ((w64 (x93 + x328))).toNat x494), bx u102 [(Value.int .i64 x92)]] := hI545
                replace hb544 : p_impl_rankModulo_L3 x91 x93 x448 x328 x494 x92 p  x539 = some ct540 := hb544
                unfold p_impl_rankModulo_L3 at hb544
                obtain ⟨hf548, hf549, hf550, hf551, hf552, hr553, hS554⟩ := hI545
                refine W.seq (W.seq ?_)
                obtain ⟨x591, hx594, hb544⟩ := bs hb544
                obtain ⟨ha592, hb593, hx594⟩ := idx_some hx594
                obtain ⟨u605, hc606, hr607⟩ := repSl.el (St.rep (t := (Ty.sl (Ty.sl (Ty.i .i64)))) hS554 0 rfl) hx594
                obtain ⟨x630, hx633, hb544⟩ := bs hb544
                obtain ⟨ha631, hb632, hx633⟩ := idx_some hx633
                obtain ⟨u644, hc645, hr646⟩ := repSl.el hr607 hx633
                obtain ⟨rfl, hr646⟩ := hr646
                refine W.drawR mixo 10 [] [fun _ v _ _ => v = (Value.int .i64 x539) ∧ InR .i64 x539, fun _ v _ _ => v = u77, fun _ v _ _ => v = (Value.int .i64 x93) ∧ InR .i64 x93, fun _ v _ _ => v = (Value.pointer (some (elA u77 (x93).toNat))), fun _ v _ _ => v = u605, fun _ v _ _ => v = (Value.int .i64 x92) ∧ InR .i64 x92, fun _ v _ _ => v = (Value.pointer (some (elA u605 (x92).toNat))), fun _ v _ _ => v = (Value.int .i64 x630) ∧ InR .i64 x630, fun _ v _ _ => v = (Value.int .i64 (w64 (x539 * x630))) ∧ InR .i64 (w64 (x539 * x630)), fun _ v _ _ => v = (Value.int .i64 p) ∧ InR .i64 p] (by kernel_rfl) (by kernel_rfl) ⟨pk, pk, pk, pk, pk, pk, pk, pk, pk, pk, trivial⟩ ⟨?_, ?_, ?_, ?_, ?_, ?_, ?_, ?_, ?_, ?_, trivial⟩ ?_
                · refine ObX.op rfl fun f555 wd556 he557 hout558 hphi559 => ?_
                  have e561 : f555 11 = (Value.int .i64 x539) := (hout558 11 rfl).trans hf552
                  exact OpX.val (Value.int .i64 x539) wd556 rfl (op_move e561) (Ext.refl _) ⟨rfl, hr553⟩
                · refine ObX.op rfl fun f562 wd563 he564 hout565 hphi566 => ?_
                  have e568 : f562 6 = u77 := (hout565 6 rfl).trans hf550
                  exact OpX.val u77 wd563 rfl (op_move e568) (Ext.refl _) rfl
                · refine ObX.op rfl fun f569 wd570 he571 hout572 hphi573 => ?_
                  have e575 : f569 5 = (Value.int .i64 x93) := (hout572 5 rfl).trans hf549
                  exact OpX.val (Value.int .i64 x93) wd570 rfl (op_move e575) (Ext.refl _) ⟨rfl, hr105⟩
                · refine ObX.op rfl fun f576 wd577 he578 hout579 hphi580 => ?_
                  have hS581 := St.extend hS554 he578
                  obtain ⟨S582, hS583, hf584⟩ := hphi580 1 68 _ rfl rfl rfl
                  have e585 : f576 68 = u77 := hf584
                  obtain ⟨S586, hS587, hf588⟩ := hphi580 2 69 _ rfl rfl rfl
                  obtain ⟨e589, hr590⟩ := hf588
                  exact OpX.val (Value.pointer (some (elA u77 (x93).toNat))) wd577 rfl (op_idx sl_37 (St.rep (t := (Ty.sl (Ty.sl (Ty.i .i64)))) hS581 0 rfl) e585 e589 ha592 hb593) (Ext.refl _) rfl
                · refine ObX.op rfl fun f595 wd596 he597 hout598 hphi599 => ?_
                  obtain ⟨S601, hS602, hf603⟩ := hphi599 3 70 _ rfl rfl rfl
                  have e604 : f595 70 = (Value.pointer (some (elA u77 (x93).toNat))) := hf603
                  exact OpX.val u605 wd596 rfl (op_load one_22 e604 (Ext.cell he597 hc606)) (Ext.refl _) rfl
                · refine ObX.op rfl fun f608 wd609 he610 hout611 hphi612 => ?_
                  have hS613 := St.extend hS554 he610
                  have e614 : f608 9 = (Value.pointer (some ⟨u102, 0, none⟩)) := (hout611 9 rfl).trans hf551
                  exact OpX.val (Value.int .i64 x92) wd609 rfl (op_load one_3 e614 (BoxAt.cell (St.boxAt hS613 1 rfl) rfl)) (Ext.refl _) ⟨rfl, hr108⟩
                · refine ObX.op rfl fun f615 wd616 he617 hout618 hphi619 => ?_
                  obtain ⟨S621, hS622, hf623⟩ := hphi619 4 71 _ rfl rfl rfl
                  have e624 : f615 71 = u605 := hf623
                  obtain ⟨S625, hS626, hf627⟩ := hphi619 5 72 _ rfl rfl rfl
                  obtain ⟨e628, hr629⟩ := hf627
                  exact OpX.val (Value.pointer (some (elA u605 (x92).toNat))) wd616 rfl (op_idx sl_22 (Ty.lift _ he617 hr607) e624 e628 ha631 hb632) (Ext.refl _) rfl
                · refine ObX.op rfl fun f634 wd635 he636 hout637 hphi638 => ?_
                  obtain ⟨S640, hS641, hf642⟩ := hphi638 6 73 _ rfl rfl rfl
                  have e643 : f634 73 = (Value.pointer (some (elA u605 (x92).toNat))) := hf642
                  exact OpX.val (Value.int .i64 x630) wd635 rfl (op_load one_2 e643 (Ext.cell he636 hc645)) (Ext.refl _) ⟨rfl, hr646⟩
                · refine ObX.op rfl fun f647 wd648 he649 hout650 hphi651 => ?_
                  obtain ⟨S653, hS654, hf655⟩ := hphi651 0 67 _ rfl rfl rfl
                  obtain ⟨e656, hr657⟩ := hf655
                  obtain ⟨S658, hS659, hf660⟩ := hphi651 7 74 _ rfl rfl rfl
                  obtain ⟨e661, hr662⟩ := hf660
                  exact OpX.val (Value.int .i64 (w64 (x539 * x630))) wd648 rfl (op_mul e656 e661) (Ext.refl _) ⟨rfl, (inR_wrap _ _)⟩
                · refine ObX.op rfl fun f663 wd664 he665 hout666 hphi667 => ?_
                  have e669 : f663 1 = (Value.int .i64 p) := (hout666 1 rfl).trans hf548
                  exact OpX.val (Value.int .i64 p) wd664 rfl (op_move e669) (Ext.refl _) ⟨rfl, r_p⟩
                · intro f670 wd671 Ss672 he673 hout674 hSn675 hSd676 hphi677
                  show WL _ _ _ _ _ _ _
                  have hS678 := St.extend hS554 he673
                  obtain ⟨e679, hr680⟩ := hphi677 8 75 _ (by decide) rfl rfl
                  obtain ⟨e681, hr682⟩ := hphi677 9 76 _ (by decide) rfl rfl
                  have e683 : f670 1 = (Value.int .i64 p) := (hout674 1 rfl).trans hf548
                  have e684 : f670 5 = (Value.int .i64 x93) := (hout674 5 rfl).trans hf549
                  have e685 : f670 6 = u77 := (hout674 6 rfl).trans hf550
                  have e686 : f670 9 = (Value.pointer (some ⟨u102, 0, none⟩)) := (hout674 9 rfl).trans hf551
                  have e687 : f670 11 = (Value.int .i64 x539) := (hout674 11 rfl).trans hf552
                  obtain ⟨x688, hz689, hb544⟩ := bs hb544
                  obtain ⟨h0690, hz689⟩ := remI_some hz689
                  have hr691 : InR .i64 x688 := by rw [hz689]; exact inR_tmod hr680
                  refine WL.val (Value.int .i64 x688) _ (by rw [hz689]; exact op_rem e679 e681 h0690) rfl ?_
                  refine WL.val (Value.bool (x688 != (1 : Int))) _ (op_neq rfl rfl) rfl ?_
                  refine WL.nil ?_
                  refine W.cond (x688 != (1 : Int)) rfl (fun hc692 => ?_) (fun hc692 => ?_)
                  · replace hb544 := ip hb544 hc692
                    refine W.skip ?_
                    show W _ _ _ _ _ _
                    refine W.block ?_
                    refine W.region ?_
                    refine WL.val (Value.int .i64 x539) _ (op_move e687) rfl ?_
                    refine WL.val (Value.int .i64 (w64 (x539 + (1 : Int)))) _ (op_add rfl rfl) rfl ?_
                    refine WL.val (Value.int .i64 (w64 (x539 + (1 : Int)))) _ (op_assign rfl) rfl ?_
                    refine WL.nil ?_
                    obtain rfl := Option.some.inj hb544
                    show ∃ s, _ = Ctl.next s ∧ _
                    exact ⟨_, rfl, e683, e684, e685, e686, rfl, (inR_wrap _ _), hS678⟩
                  · replace hb544 := inegb hb544 hc692
                    refine W.exit ?_
                    obtain rfl := Option.some.inj hb544
                    show _ = _ ∧ _
                    exact ⟨rfl, _, hbrk546 _ rfl, e683, e684, e685, e686, e687, hr553, hS678⟩
              · rintro f695 wd696 ⟨x699, rfl, hq697⟩
                replace hb98 := onRes_fin hb98
                replace hq697 : f695 1 = (Value.int .i64 p) ∧ f695 5 = (Value.int .i64 x93) ∧ f695 6 = u77 ∧ f695 9 = (Value.pointer (some ⟨u102, 0, none⟩)) ∧ f695 11 = Value.int .i64 x699 ∧ InR .i64 x699 ∧ St w wd696 [(Ty.sl (Ty.sl (Ty.i .i64))).at u77 (((x91).set (x93).toNat x448).set ((w64 (x93 + x328))).toNat x494), bx u102 [(Value.int .i64 x92)]] := hq697
                obtain ⟨hf700, hf701, hf702, hf703, hf704, hr705, hS706⟩ := hq697
                refine W.seq (W.seq (W.region ?_))
                refine WL.val u77 _ (op_move hf702) rfl ?_
                refine WL.val (Value.int .i64 x93) _ (op_move hf701) rfl ?_
                refine WL.val (Value.int .i64 (w64 (x93 + (1 : Int)))) _ (op_add rfl rfl) rfl ?_
                obtain ⟨x707, hx708, hb98⟩ := bs hb98
                refine WL.sliceW (kd := .i64) sl_37 rfl (St.rep (t := (Ty.sl (Ty.sl (Ty.i .i64)))) hS706 0 rfl) rfl hx708 rfl ?_
                intro u709 hr710 hw711
                have hr712 := inR_len hr710
                refine WL.val (Value.int .i64 ((x707).length : Int)) _ (op_lenL sl_37 hr710 rfl) rfl ?_
                refine WL.val (Value.int .i64 (0 : Int)) _ (op_move rfl) rfl ?_
                refine WL.nil ?_
                show W _ _ _ _ _ _
                obtain ⟨us713, _, hS714⟩ := St.openMix (k := 0) hS706 rfl
                replace hS714 : St w wd696 [(Ty.mix (Ty.sl (Ty.i .i64)) us713).at u77 (((x91).set (x93).toNat x448).set ((w64 (x93 + x328))).toNat x494), bx u102 [(Value.int .i64 x92)]] := hS714
                obtain ⟨res715, hres716, hb98⟩ := bs hb98
                refine W.blockLoop (fun fq wq => ∃ s, res715 = Res.fin s ∧ fq 1 = (Value.int .i64 p) ∧ fq 5 = (Value.int .i64 x93) ∧ fq 6 = u77 ∧ fq 9 = (Value.pointer (some ⟨u102, 0, none⟩)) ∧ St w wq [(Ty.mix (Ty.sl (Ty.i .i64)) us713).at u77 s, bx u102 [(Value.int .i64 x92)]]) ?_ ?_
                · refine W.forN (fun k (s : (List (List Int))) fq wq => fq 1 = (Value.int .i64 p) ∧ fq 5 = (Value.int .i64 x93) ∧ fq 6 = u77 ∧ fq 9 = (Value.pointer (some ⟨u102, 0, none⟩)) ∧ fq 11 = (Value.int .i64 x699) ∧ fq 84 = u709 ∧ fq 85 = (Value.int .i64 ((x707).length : Int)) ∧ fq 86 = Value.int .i64 (k : Int) ∧ InR .i64 (k : Int) ∧ St w wq [(Ty.mix (Ty.sl (Ty.i .i64)) us713).at u77 s, bx u102 [(Value.int .i64 x92)]]) hres716 ⟨hf700, hf701, hf702, hf703, hf704, rfl, rfl, rfl, (inL rfl), hS714⟩ ?_ ?_
                  · intro k717 x718 ct719 f720 wd721 hk722 hb723 hI724 hbrk725 hret726
                    replace hI724 : f720 1 = (Value.int .i64 p) ∧ f720 5 = (Value.int .i64 x93) ∧ f720 6 = u77 ∧ f720 9 = (Value.pointer (some ⟨u102, 0, none⟩)) ∧ f720 11 = (Value.int .i64 x699) ∧ f720 84 = u709 ∧ f720 85 = (Value.int .i64 ((x707).length : Int)) ∧ f720 86 = Value.int .i64 (k717 : Int) ∧ InR .i64 (k717 : Int) ∧ St w wd721 [(Ty.mix (Ty.sl (Ty.i .i64)) us713).at u77 x718, bx u102 [(Value.int .i64 x92)]] := hI724
                    replace hb723 : p_impl_rankModulo_L4 x93 x92 x699 p k717 x718 = some ct719 := hb723
                    unfold p_impl_rankModulo_L4 at hb723
                    obtain ⟨hf727, hf728, hf729, hf730, hf731, hf732, hf733, hf734, hr735, hS736⟩ := hI724
                    refine W.seq (W.region ?_)
                    refine WL.val (Value.bool (decide ((k717 : Int) < ((x707).length : Int)))) _ (op_lss hf734 hf733) rfl ?_
                    have hl737 : (k717 : Int) < ((x707).length : Int) := by omega
                    refine WL.nil ?_
                    refine W.seq ?_
                    refine W.condT (decide ((k717 : Int) < ((x707).length : Int))) rfl (decide_eq_true hl737) ?_
                    refine W.skip ?_
                    refine W.seq ?_
                    refine W.block ?_
                    refine W.seq (W.region ?_)
                    obtain ⟨x739, hx742, hb723⟩ := bs hb723
                    obtain ⟨ha740, hb741, hx742⟩ := idx_some hx742
                    refine WL.val (Value.pointer (some (elA u77 (((w64 (x93 + (1 : Int))) + (k717 : Int))).toNat))) _ (op_idxWin hS736 (k := 0) rfl sl_37 hw711 hf732 hf734 (cutL_lo hx708) (Int.natCast_nonneg _) hb741) rfl ?_
                    obtain ⟨u743, hc744, hr745⟩ := repSl.el (St.rep (t := (Ty.mix (Ty.sl (Ty.i .i64)) us713)) hS736 0 rfl).1 hx742
                    refine WL.val u743 _ (op_load one_22 rfl hc744) rfl ?_
                    have hu746 : us713[(((w64 (x93 + (1 : Int))) + (k717 : Int))).toNat]? = some u743 := mix_at (St.rep (t := (Ty.mix (Ty.sl (Ty.i .i64)) us713)) hS736 0 rfl) hx742 hc744
                    refine WL.val u743 _ (op_assign rfl) rfl ?_
                    refine WL.nil ?_
                    refine W.seq (W.region ?_)
                    refine WL.val u743 _ (op_move rfl) rfl ?_
                    refine WL.val (Value.int .i64 x92) _ (op_load one_3 hf730 (BoxAt.cell (St.boxAt hS736 1 rfl) rfl)) rfl ?_
                    obtain ⟨x747, hx750, hb723⟩ := bs hb723
                    obtain ⟨ha748, hb749, hx750⟩ := idx_some hx750
                    refine WL.val (Value.pointer (some (elA u743 (x92).toNat))) _ (op_idx sl_22 (mix_row (St.rep (t := (Ty.mix (Ty.sl (Ty.i .i64)) us713)) hS736 0 rfl) hu746 hx742).2 rfl rfl ha748 hb749) rfl ?_
                    obtain ⟨u751, hc752, hr753⟩ := repSl.el (mix_row (St.rep (t := (Ty.mix (Ty.sl (Ty.i .i64)) us713)) hS736 0 rfl) hu746 hx742).2 hx750
                    obtain ⟨rfl, hr753⟩ := hr753
                    refine WL.val (Value.int .i64 x747) _ (op_load one_2 rfl hc752) rfl ?_
                    refine WL.val (Value.int .i64 x699) _ (op_move hf731) rfl ?_
                    refine WL.val (Value.int .i64 (w64 (x747 * x699))) _ (op_mul rfl rfl) rfl ?_
                    refine WL.val (Value.int .i64 p) _ (op_move hf727) rfl ?_
                    obtain ⟨x754, hz755, hb723⟩ := bs hb723
                    obtain ⟨h0756, hz755⟩ := remI_some hz755
                    have hr757 : InR .i64 x754 := by rw [hz755]; exact inR_tmod (inR_wrap _ _)
                    refine WL.val (Value.int .i64 x754) _ (by rw [hz755]; exact op_rem rfl rfl h0756) rfl ?_
                    refine WL.val (Value.int .i64 x754) _ (op_assign rfl) rfl ?_
                    refine WL.nil ?_
                    refine W.seq (W.region ?_)
                    refine WL.val (Value.int .i64 x92) _ (op_load one_3 hf730 (BoxAt.cell (St.boxAt hS736 1 rfl) rfl)) rfl ?_
                    refine WL.val (Value.int .i64 x92) _ (op_assign rfl) rfl ?_
                    refine WL.nil ?_
                    show W _ _ _ _ _ _
                    obtain ⟨res758, hres759, hb723⟩ := bs hb723
                    refine W.blockLoop (fun fq wq => ∃ s, res758 = Res.fin s ∧ fq 1 = (Value.int .i64 p) ∧ fq 5 = (Value.int .i64 x93) ∧ fq 6 = u77 ∧ fq 9 = (Value.pointer (some ⟨u102, 0, none⟩)) ∧ fq 11 = (Value.int .i64 x699) ∧ fq 84 = u709 ∧ fq 85 = (Value.int .i64 ((x707).length : Int)) ∧ fq 86 = (Value.int .i64 (k717 : Int)) ∧ St w wq [(Ty.mix (Ty.sl (Ty.i .i64)) us713).at u77 s.1, bx u102 [(Value.int .i64 x92)]]) ?_ ?_
                    · refine W.whileC (fun (s : (List (List Int)) × Int) fq wq => fq 1 = (Value.int .i64 p) ∧ fq 5 = (Value.int .i64 x93) ∧ fq 6 = u77 ∧ fq 9 = (Value.pointer (some ⟨u102, 0, none⟩)) ∧ fq 11 = (Value.int .i64 x699) ∧ fq 13 = u743 ∧ fq 14 = (Value.int .i64 x754) ∧ fq 15 = Value.int .i64 s.2 ∧ InR .i64 s.2 ∧ fq 84 = u709 ∧ fq 85 = (Value.int .i64 ((x707).length : Int)) ∧ fq 86 = (Value.int .i64 (k717 : Int)) ∧ St w wq [(Ty.mix (Ty.sl (Ty.i .i64)) us713).at u77 s.1, bx u102 [(Value.int .i64 x92)]]) hres759 ⟨hf727, hf728, hf729, hf730, hf731, rfl, rfl, rfl, hr108, hf732, hf733, hf734, hS736⟩ ?_
                      intro s1102 ct763 f764 wd765 hb767 hI768 hbrk769 hret770
                      obtain ⟨x761, x762⟩ := s1102
                      replace hI768 : f764 1 = (Value.int .i64 p) ∧ f764 5 = (Value.int .i64 x93) ∧ f764 6 = u77 ∧ f764 9 = (Value.pointer (some ⟨u102, 0, none⟩)) ∧ f764 11 = (Value.int .i64 x699) ∧ f764 13 = u743 ∧ f764 14 = (Value.int .i64 x754) ∧ f764 15 = Value.int .i64 x762 ∧ InR .i64 x762 ∧ f764 84 = u709 ∧ f764 85 = (Value.int .i64 ((x707).length : Int)) ∧ f764 86 = (Value.int .i64 (k717 : Int)) ∧ St w wd765 [(Ty.mix (Ty.sl (Ty.i .i64)) us713).at u77 x761, bx u102 [(Value.int .i64 x92)]] := hI768
                      replace hb767 : p_impl_rankModulo_L5 x754 x93 k717 p  x761 x762 = some ct763 := hb767
                      unfold p_impl_rankModulo_L5 at hb767
                      obtain ⟨hf771, hf772, hf773, hf774, hf775, hf776, hf777, hf778, hr779, hf780, hf781, hf782, hS783⟩ := hI768
                      refine W.seq (W.seq (W.region ?_))
                      refine WL.val (Value.int .i64 x754) _ (op_move hf777) rfl ?_
                      refine WL.val (Value.bool (x754 != (0 : Int))) _ (op_neq rfl rfl) rfl ?_
                      refine WL.val (Value.bool (x754 != (0 : Int))) _ (op_move rfl) rfl ?_
                      obtain ⟨x785, hj786, hb767⟩ := bs hb767
                      refine WL.cut 5 (fun fq wq => fq 1 = (Value.int .i64 p) ∧ fq 5 = (Value.int .i64 x93) ∧ fq 6 = u77 ∧ fq 9 = (Value.pointer (some ⟨u102, 0, none⟩)) ∧ fq 11 = (Value.int .i64 x699) ∧ fq 13 = u743 ∧ fq 14 = (Value.int .i64 x754) ∧ fq 15 = (Value.int .i64 x762) ∧ fq 84 = u709 ∧ fq 85 = (Value.int .i64 ((x707).length : Int)) ∧ fq 86 = (Value.int .i64 (k717 : Int)) ∧ fq 106 = Value.bool x785 ∧ St w wq [(Ty.mix (Ty.sl (Ty.i .i64)) us713).at u77 x761, bx u102 [(Value.int .i64 x92)]]) ?_ ?_
                      · rcases Bool.eq_false_or_eq_true (x754 != (0 : Int)) with hc784 | hc784
                        · replace hj786 := ip hj786 hc784
                          refine WL.grun rfl (bool_of rfl hc784) ?_
                          refine WL.val (Value.int .i64 x762) _ (op_move hf778) rfl ?_
                          refine WL.grun rfl (bool_of rfl hc784) ?_
                          refine WL.val u743 _ (op_move hf776) rfl ?_
                          refine WL.grun rfl (bool_of rfl hc784) ?_
                          obtain ⟨x790, hx793, hj786⟩ := bs hj786
                          obtain ⟨ha791, hb792, hx793⟩ := idx_some hx793
                          have hr794 := inR_len (mix_row (St.rep (t := (Ty.mix (Ty.sl (Ty.i .i64)) us713)) hS783 0 rfl) hu746 hx793).2
                          refine WL.val (Value.int .i64 ((x790).length : Int)) _ (op_lenL sl_22 (mix_row (St.rep (t := (Ty.mix (Ty.sl (Ty.i .i64)) us713)) hS783 0 rfl) hu746 hx793).2 rfl) rfl ?_
                          refine WL.grun rfl (bool_of rfl hc784) ?_
                          refine WL.val (Value.bool (decide (x762 < ((x790).length : Int)))) _ (op_lss rfl rfl) rfl ?_
                          refine WL.val (Value.bool (decide (x762 < ((x790).length : Int)))) _ (op_pick_t (evb_of rfl hc784) rfl) rfl ?_
                          refine WL.nil ?_
                          obtain rfl := Option.some.inj hj786
                          exact ⟨rfl, hf771, hf772, hf773, hf774, hf775, hf776, hf777, hf778, hf780, hf781, hf782, rfl, hS783⟩
                        · replace hj786 := inegb hj786 hc784
                          refine WL.gskip rfl (bool_of rfl hc784) rfl ?_
                          refine WL.gskip rfl (bool_of rfl hc784) rfl ?_
                          refine WL.gskip rfl (bool_of rfl hc784) rfl ?_
                          refine WL.gskip rfl (bool_of rfl hc784) rfl ?_
                          refine WL.val (Value.bool false) _ (op_pick_f (evb_of rfl hc784) rfl) rfl ?_
                          refine WL.nil ?_
                          obtain rfl := Option.some.inj hj786
                          exact ⟨rfl, hf771, hf772, hf773, hf774, hf775, hf776, hf777, hf778, hf780, hf781, hf782, rfl, hS783⟩
                      · intro f787 wd788 hq789
                        obtain ⟨hf795, hf796, hf797, hf798, hf799, hf800, hf801, hf802, hf803, hf804, hf805, hf806, hS807⟩ := hq789
                        refine WL.nil ?_
                        refine W.cond x785 hf806 (fun hc808 => ?_) (fun hc808 => ?_)
                        · replace hb767 := ip hb767 hc808
                          refine W.skip ?_
                          refine W.seq ?_
                          refine W.block ?_
                          obtain ⟨x853, hx856, hb767⟩ := bs hb767
                          obtain ⟨ha854, hb855, hx856⟩ := idx_some hx856
                          obtain ⟨x857, hx860, hb767⟩ := bs hb767
                          obtain ⟨ha858, hb859, hx860⟩ := idx_some hx860
                          obtain ⟨u871, hc872, hr873⟩ := repSl.el (mix_row (St.rep (t := (Ty.mix (Ty.sl (Ty.i .i64)) us713)) hS807 0 rfl) hu746 hx856).2 hx860
                          obtain ⟨rfl, hr873⟩ := hr873
                          obtain ⟨x910, hx913, hb767⟩ := bs hb767
                          obtain ⟨ha911, hb912, hx913⟩ := idx_some hx913
                          obtain ⟨u924, hc925, hr926⟩ := repSl.el (St.rep (t := (Ty.mix (Ty.sl (Ty.i .i64)) us713)) hS807 0 rfl).1 hx913
                          obtain ⟨x949, hx952, hb767⟩ := bs hb767
                          obtain ⟨ha950, hb951, hx952⟩ := idx_some hx952
                          obtain ⟨u963, hc964, hr965⟩ := repSl.el hr926 hx952
                          obtain ⟨rfl, hr965⟩ := hr965
                          obtain ⟨x1021, hz1022, hb767⟩ := bs hb767
                          obtain ⟨h01023, hz1022⟩ := remI_some hz1022
                          obtain ⟨x1071, hz1072, hb767⟩ := bs hb767
                          obtain ⟨h01073, hz1072⟩ := remI_some hz1072
                          refine W.drawR mixo 22 [] [fun _ v _ _ => v = u743, fun _ v _ _ => v = (Value.int .i64 x762) ∧ InR .i64 x762, fun _ v _ _ => v = u743, fun _ v _ _ => v = (Value.int .i64 x762) ∧ InR .i64 x762, fun _ v _ _ => v = (Value.pointer (some (elA u743 (x762).toNat))), fun _ v _ _ => v = (Value.int .i64 x857) ∧ InR .i64 x857, fun _ v _ _ => v = (Value.int .i64 x754) ∧ InR .i64 x754, fun _ v _ _ => v = u77, fun _ v _ _ => v = (Value.int .i64 x93) ∧ InR .i64 x93, fun _ v _ _ => v = (Value.pointer (some (elA u77 (x93).toNat))), fun _ v _ _ => v = u924, fun _ v _ _ => v = (Value.int .i64 x762) ∧ InR .i64 x762, fun _ v _ _ => v = (Value.pointer (some (elA u924 (x762).toNat))), fun _ v _ _ => v = (Value.int .i64 x949) ∧ InR .i64 x949, fun _ v _ _ => v = (Value.int .i64 (w64 (x754 * x949))) ∧ InR .i64 (w64 (x754 * x949)), fun _ v _ _ => v = (Value.int .i64 (w64 (x857 - (w64 (x754 * x949))))) ∧ InR .i64 (w64 (x857 - (w64 (x754 * x949)))), fun _ v _ _ => v = (Value.int .i64 p) ∧ InR .i64 p, fun _ v _ _ => v = (Value.int .i64 x1021) ∧ InR .i64 x1021, fun _ v _ _ => v = (Value.int .i64 p) ∧ InR .i64 p, fun _ v _ _ => v = (Value.int .i64 (w64 (x1021 + p))) ∧ InR .i64 (w64 (x1021 + p)), fun _ v _ _ => v = (Value.int .i64 p) ∧ InR .i64 p, fun _ v _ _ => v = (Value.int .i64 x1071) ∧ InR .i64 x1071] (by kernel_rfl) (by kernel_rfl) ⟨pk, pk, pk, pk, pk, pk, pk, pk, pk, pk, pk, pk, pk, pk, pk, pk, pk, pk, pk, pk, pk, pk, trivial⟩ ⟨?_, ?_, ?_, ?_, ?_, ?_, ?_, ?_, ?_, ?_, ?_, ?_, ?_, ?_, ?_, ?_, ?_, ?_, ?_, ?_, ?_, ?_, trivial⟩ ?_
                          · refine ObX.op rfl fun f810 wd811 he812 hout813 hphi814 => ?_
                            have e816 : f810 13 = u743 := (hout813 13 rfl).trans hf800
                            exact OpX.val u743 wd811 rfl (op_move e816) (Ext.refl _) rfl
                          · refine ObX.op rfl fun f817 wd818 he819 hout820 hphi821 => ?_
                            have e823 : f817 15 = (Value.int .i64 x762) := (hout820 15 rfl).trans hf802
                            exact OpX.val (Value.int .i64 x762) wd818 rfl (op_move e823) (Ext.refl _) ⟨rfl, hr779⟩
                          · refine ObX.op rfl fun f824 wd825 he826 hout827 hphi828 => ?_
                            have e830 : f824 13 = u743 := (hout827 13 rfl).trans hf800
                            exact OpX.val u743 wd825 rfl (op_move e830) (Ext.refl _) rfl
                          · refine ObX.op rfl fun f831 wd832 he833 hout834 hphi835 => ?_
                            have e837 : f831 15 = (Value.int .i64 x762) := (hout834 15 rfl).trans hf802
                            exact OpX.val (Value.int .i64 x762) wd832 rfl (op_move e837) (Ext.refl _) ⟨rfl, hr779⟩
                          · refine ObX.op rfl fun f838 wd839 he840 hout841 hphi842 => ?_
                            have hS843 := St.extend hS807 he840
                            obtain ⟨S844, hS845, hf846⟩ := hphi842 2 111 _ rfl rfl rfl
                            have e847 : f838 111 = u743 := hf846
                            obtain ⟨S848, hS849, hf850⟩ := hphi842 3 112 _ rfl rfl rfl
                            obtain ⟨e851, hr852⟩ := hf850
                            exact OpX.val (Value.pointer (some (elA u743 (x762).toNat))) wd839 rfl (op_idx sl_22 (mix_row (St.rep (t := (Ty.mix (Ty.sl (Ty.i .i64)) us713)) hS843 0 rfl) hu746 hx856).2 e847 e851 ha858 hb859) (Ext.refl _) rfl
                          · refine ObX.op rfl fun f861 wd862 he863 hout864 hphi865 => ?_
                            obtain ⟨S867, hS868, hf869⟩ := hphi865 4 113 _ rfl rfl rfl
                            have e870 : f861 113 = (Value.pointer (some (elA u743 (x762).toNat))) := hf869
                            exact OpX.val (Value.int .i64 x857) wd862 rfl (op_load one_2 e870 (Ext.cell he863 hc872)) (Ext.refl _) ⟨rfl, hr873⟩
                          · refine ObX.op rfl fun f874 wd875 he876 hout877 hphi878 => ?_
                            have e880 : f874 14 = (Value.int .i64 x754) := (hout877 14 rfl).trans hf801
                            exact OpX.val (Value.int .i64 x754) wd875 rfl (op_move e880) (Ext.refl _) ⟨rfl, hr757⟩
                          · refine ObX.op rfl fun f881 wd882 he883 hout884 hphi885 => ?_
                            have e887 : f881 6 = u77 := (hout884 6 rfl).trans hf797
                            exact OpX.val u77 wd882 rfl (op_move e887) (Ext.refl _) rfl
                          · refine ObX.op rfl fun f888 wd889 he890 hout891 hphi892 => ?_
                            have e894 : f888 5 = (Value.int .i64 x93) := (hout891 5 rfl).trans hf796
                            exact OpX.val (Value.int .i64 x93) wd889 rfl (op_move e894) (Ext.refl _) ⟨rfl, hr105⟩
                          · refine ObX.op rfl fun f895 wd896 he897 hout898 hphi899 => ?_
                            have hS900 := St.extend hS807 he897
                            obtain ⟨S901, hS902, hf903⟩ := hphi899 7 116 _ rfl rfl rfl
                            have e904 : f895 116 = u77 := hf903
                            obtain ⟨S905, hS906, hf907⟩ := hphi899 8 117 _ rfl rfl rfl
                            obtain ⟨e908, hr909⟩ := hf907
                            exact OpX.val (Value.pointer (some (elA u77 (x93).toNat))) wd896 rfl (op_idx sl_37 (St.rep (t := (Ty.mix (Ty.sl (Ty.i .i64)) us713)) hS900 0 rfl).1 e904 e908 ha911 hb912) (Ext.refl _) rfl
                          · refine ObX.op rfl fun f914 wd915 he916 hout917 hphi918 => ?_
                            obtain ⟨S920, hS921, hf922⟩ := hphi918 9 118 _ rfl rfl rfl
                            have e923 : f914 118 = (Value.pointer (some (elA u77 (x93).toNat))) := hf922
                            exact OpX.val u924 wd915 rfl (op_load one_22 e923 (Ext.cell he916 hc925)) (Ext.refl _) rfl
                          · refine ObX.op rfl fun f927 wd928 he929 hout930 hphi931 => ?_
                            have e933 : f927 15 = (Value.int .i64 x762) := (hout930 15 rfl).trans hf802
                            exact OpX.val (Value.int .i64 x762) wd928 rfl (op_move e933) (Ext.refl _) ⟨rfl, hr779⟩
                          · refine ObX.op rfl fun f934 wd935 he936 hout937 hphi938 => ?_
                            obtain ⟨S940, hS941, hf942⟩ := hphi938 10 119 _ rfl rfl rfl
                            have e943 : f934 119 = u924 := hf942
                            obtain ⟨S944, hS945, hf946⟩ := hphi938 11 120 _ rfl rfl rfl
                            obtain ⟨e947, hr948⟩ := hf946
                            exact OpX.val (Value.pointer (some (elA u924 (x762).toNat))) wd935 rfl (op_idx sl_22 (Ty.lift _ he936 hr926) e943 e947 ha950 hb951) (Ext.refl _) rfl
                          · refine ObX.op rfl fun f953 wd954 he955 hout956 hphi957 => ?_
                            obtain ⟨S959, hS960, hf961⟩ := hphi957 12 121 _ rfl rfl rfl
                            have e962 : f953 121 = (Value.pointer (some (elA u924 (x762).toNat))) := hf961
                            exact OpX.val (Value.int .i64 x949) wd954 rfl (op_load one_2 e962 (Ext.cell he955 hc964)) (Ext.refl _) ⟨rfl, hr965⟩
                          · refine ObX.op rfl fun f966 wd967 he968 hout969 hphi970 => ?_
                            obtain ⟨S972, hS973, hf974⟩ := hphi970 6 115 _ rfl rfl rfl
                            obtain ⟨e975, hr976⟩ := hf974
                            obtain ⟨S977, hS978, hf979⟩ := hphi970 13 122 _ rfl rfl rfl
                            obtain ⟨e980, hr981⟩ := hf979
                            exact OpX.val (Value.int .i64 (w64 (x754 * x949))) wd967 rfl (op_mul e975 e980) (Ext.refl _) ⟨rfl, (inR_wrap _ _)⟩
                          · refine ObX.op rfl fun f982 wd983 he984 hout985 hphi986 => ?_
                            obtain ⟨S988, hS989, hf990⟩ := hphi986 5 114 _ rfl rfl rfl
                            obtain ⟨e991, hr992⟩ := hf990
                            obtain ⟨S993, hS994, hf995⟩ := hphi986 14 123 _ rfl rfl rfl
                            obtain ⟨e996, hr997⟩ := hf995
                            exact OpX.val (Value.int .i64 (w64 (x857 - (w64 (x754 * x949))))) wd983 rfl (op_sub e991 e996) (Ext.refl _) ⟨rfl, (inR_wrap _ _)⟩
                          · refine ObX.op rfl fun f998 wd999 he1000 hout1001 hphi1002 => ?_
                            have e1004 : f998 1 = (Value.int .i64 p) := (hout1001 1 rfl).trans hf795
                            exact OpX.val (Value.int .i64 p) wd999 rfl (op_move e1004) (Ext.refl _) ⟨rfl, r_p⟩
                          · refine ObX.op rfl fun f1005 wd1006 he1007 hout1008 hphi1009 => ?_
                            obtain ⟨S1011, hS1012, hf1013⟩ := hphi1009 15 124 _ rfl rfl rfl
                            obtain ⟨e1014, hr1015⟩ := hf1013
                            obtain ⟨S1016, hS1017, hf1018⟩ := hphi1009 16 125 _ rfl rfl rfl
                            obtain ⟨e1019, hr1020⟩ := hf1018
                            have hr1024 : InR .i64 x1021 := by rw [hz1022]; exact inR_tmod hr1015
                            exact OpX.val (Value.int .i64 x1021) wd1006 rfl (by rw [hz1022]; exact op_rem e1014 e1019 h01023) (Ext.refl _) ⟨rfl, hr1024⟩
                          · refine ObX.op rfl fun f1025 wd1026 he1027 hout1028 hphi1029 => ?_
                            have e1031 : f1025 1 = (Value.int .i64 p) := (hout1028 1 rfl).trans hf795
                            exact OpX.val (Value.int .i64 p) wd1026 rfl (op_move e1031) (Ext.refl _) ⟨rfl, r_p⟩
                          · refine ObX.op rfl fun f1032 wd1033 he1034 hout1035 hphi1036 => ?_
                            obtain ⟨S1038, hS1039, hf1040⟩ := hphi1036 17 126 _ rfl rfl rfl
                            obtain ⟨e1041, hr1042⟩ := hf1040
                            obtain ⟨S1043, hS1044, hf1045⟩ := hphi1036 18 127 _ rfl rfl rfl
                            obtain ⟨e1046, hr1047⟩ := hf1045
                            exact OpX.val (Value.int .i64 (w64 (x1021 + p))) wd1033 rfl (op_add e1041 e1046) (Ext.refl _) ⟨rfl, (inR_wrap _ _)⟩
                          · refine ObX.op rfl fun f1048 wd1049 he1050 hout1051 hphi1052 => ?_
                            have e1054 : f1048 1 = (Value.int .i64 p) := (hout1051 1 rfl).trans hf795
                            exact OpX.val (Value.int .i64 p) wd1049 rfl (op_move e1054) (Ext.refl _) ⟨rfl, r_p⟩
                          · refine ObX.op rfl fun f1055 wd1056 he1057 hout1058 hphi1059 => ?_
                            obtain ⟨S1061, hS1062, hf1063⟩ := hphi1059 19 128 _ rfl rfl rfl
                            obtain ⟨e1064, hr1065⟩ := hf1063
                            obtain ⟨S1066, hS1067, hf1068⟩ := hphi1059 20 129 _ rfl rfl rfl
                            obtain ⟨e1069, hr1070⟩ := hf1068
                            have hr1074 : InR .i64 x1071 := by rw [hz1072]; exact inR_tmod hr1065
                            exact OpX.val (Value.int .i64 x1071) wd1056 rfl (by rw [hz1072]; exact op_rem e1064 e1069 h01073) (Ext.refl _) ⟨rfl, hr1074⟩
                          · intro f1075 wd1076 Ss1077 he1078 hout1079 hSn1080 hSd1081 hphi1082
                            show WL _ _ _ _ _ _ _
                            have hS1083 := St.extend hS807 he1078
                            have e1084 : f1075 109 = u743 := hphi1082 0 109 _ (by decide) rfl rfl
                            obtain ⟨e1085, hr1086⟩ := hphi1082 1 110 _ (by decide) rfl rfl
                            obtain ⟨e1087, hr1088⟩ := hphi1082 21 130 _ (by decide) rfl rfl
                            have e1089 : f1075 1 = (Value.int .i64 p) := (hout1079 1 rfl).trans hf795
                            have e1090 : f1075 5 = (Value.int .i64 x93) := (hout1079 5 rfl).trans hf796
                            have e1091 : f1075 6 = u77 := (hout1079 6 rfl).trans hf797
                            have e1092 : f1075 9 = (Value.pointer (some ⟨u102, 0, none⟩)) := (hout1079 9 rfl).trans hf798
                            have e1093 : f1075 11 = (Value.int .i64 x699) := (hout1079 11 rfl).trans hf799
                            have e1094 : f1075 13 = u743 := (hout1079 13 rfl).trans hf800
                            have e1095 : f1075 14 = (Value.int .i64 x754) := (hout1079 14 rfl).trans hf801
                            have e1096 : f1075 15 = (Value.int .i64 x762) := (hout1079 15 rfl).trans hf802
                            have e1097 : f1075 84 = u709 := (hout1079 84 rfl).trans hf803
                            have e1098 : f1075 85 = (Value.int .i64 ((x707).length : Int)) := (hout1079 85 rfl).trans hf804
                            have e1099 : f1075 86 = (Value.int .i64 (k717 : Int)) := (hout1079 86 rfl).trans hf805
                            refine WL.val (Value.pointer (some (elA u743 (x762).toNat))) _ (op_idx sl_22 (mix_row (St.rep (t := (Ty.mix (Ty.sl (Ty.i .i64)) us713)) hS1083 0 rfl) hu746 hx856).2 e1084 e1085 ha858 hb859) rfl ?_
                            refine WL.storeMix (flat_i .i64) hS1083 (k := 0) rfl sz_2 hx856 hu746 rfl e1087 (lt_of_idx ha858 hb859) ⟨rfl, hr1088⟩ ?_
                            intro wd1100 hS1101
                            replace hS1101 : St w wd1100 [(Ty.mix (Ty.sl (Ty.i .i64)) us713).at u77 ((x761).set (((w64 (x93 + (1 : Int))) + (k717 : Int))).toNat ((x853).set (x762).toNat x1071)), bx u102 [(Value.int .i64 x92)]] := hS1101
                            refine WL.nil ?_
                            show W _ _ _ _ _ _
                            refine W.region ?_
                            refine WL.val (Value.int .i64 x762) _ (op_move e1096) rfl ?_
                            refine WL.val (Value.int .i64 (w64 (x762 + (1 : Int)))) _ (op_add rfl rfl) rfl ?_
                            refine WL.val (Value.int .i64 (w64 (x762 + (1 : Int)))) _ (op_assign rfl) rfl ?_
                            refine WL.nil ?_
                            obtain rfl := Option.some.inj hb767
                            show ∃ s, _ = Ctl.next s ∧ _
                            exact ⟨_, rfl, e1089, e1090, e1091, e1092, e1093, e1094, e1095, rfl, (inR_wrap _ _), e1097, e1098, e1099, hS1101⟩
                        · replace hb767 := inegb hb767 hc808
                          refine W.exit ?_
                          obtain rfl := Option.some.inj hb767
                          show _ = _ ∧ _
                          exact ⟨rfl, _, hbrk769 _ rfl, hf795, hf796, hf797, hf798, hf799, hf803, hf804, hf805, hS807⟩
                    · rintro f1103 wd1104 ⟨s1106, rfl, hq1105⟩
                      replace hb723 := onRes_fin hb723
                      obtain ⟨x1107, x1108⟩ := s1106
                      replace hq1105 : f1103 1 = (Value.int .i64 p) ∧ f1103 5 = (Value.int .i64 x93) ∧ f1103 6 = u77 ∧ f1103 9 = (Value.pointer (some ⟨u102, 0, none⟩)) ∧ f1103 11 = (Value.int .i64 x699) ∧ f1103 84 = u709 ∧ f1103 85 = (Value.int .i64 ((x707).length : Int)) ∧ f1103 86 = (Value.int .i64 (k717 : Int)) ∧ St w wd1104 [(Ty.mix (Ty.sl (Ty.i .i64)) us713).at u77 x1107, bx u102 [(Value.int .i64 x92)]] := hq1105
                      replace hb723 : (_ : Option _) = _ := hb723
                      dsimp only at hb723
                      obtain ⟨hf1109, hf1110, hf1111, hf1112, hf1113, hf1114, hf1115, hf1116, hS1117⟩ := hq1105
                      show W _ _ _ _ _ _
                      refine W.region ?_
                      refine WL.val (Value.int .i64 (w64 ((k717 : Int) + (1 : Int)))) _ (op_add hf1116 rfl) rfl ?_
                      refine WL.val (Value.int .i64 (w64 ((k717 : Int) + (1 : Int)))) _ (op_move rfl) rfl ?_
                      refine WL.nil ?_
                      obtain rfl := Option.some.inj hb723
                      show ∃ s, _ = Ctl.next s ∧ _
                      exact ⟨_, rfl, hf1109, hf1110, hf1111, hf1112, hf1113, hf1114, hf1115, (ctr_next hl737 hr712), (ctr_rng hl737 hr712), hS1117⟩
                  · intro x1125 f1120 wd1121 hs1122 hI1123
                    replace hI1123 : f1120 1 = (Value.int .i64 p) ∧ f1120 5 = (Value.int .i64 x93) ∧ f1120 6 = u77 ∧ f1120 9 = (Value.pointer (some ⟨u102, 0, none⟩)) ∧ f1120 11 = (Value.int .i64 x699) ∧ f1120 84 = u709 ∧ f1120 85 = (Value.int .i64 ((x707).length : Int)) ∧ f1120 86 = Value.int .i64 (((x707).length : Nat) : Int) ∧ InR .i64 (((x707).length : Nat) : Int) ∧ St w wd1121 [(Ty.mix (Ty.sl (Ty.i .i64)) us713).at u77 x1125, bx u102 [(Value.int .i64 x92)]] := hI1123
                    obtain ⟨hf1126, hf1127, hf1128, hf1129, hf1130, hf1131, hf1132, hf1133, hr1134, hS1135⟩ := hI1123
                    refine W.seq (W.region ?_)
                    refine WL.val (Value.bool (decide ((((x707).length : Nat) : Int) < ((x707).length : Int)))) _ (op_lss hf1133 hf1132) rfl ?_
                    have hl1136 : ¬ (((x707).length : Nat) : Int) < ((x707).length : Int) := by omega
                    refine WL.nil ?_
                    refine W.seq ?_
                    refine W.condF (decide ((((x707).length : Nat) : Int) < ((x707).length : Int))) rfl (decide_eq_false hl1136) ?_
                    refine W.exit ?_
                    show _ = _ ∧ _
                    exact ⟨rfl, _, hs1122, hf1126, hf1127, hf1128, hf1129, hS1135⟩
                · rintro f1137 wd1138 ⟨x1141, rfl, hq1139⟩
                  replace hb98 := onRes_fin hb98
                  replace hq1139 : f1137 1 = (Value.int .i64 p) ∧ f1137 5 = (Value.int .i64 x93) ∧ f1137 6 = u77 ∧ f1137 9 = (Value.pointer (some ⟨u102, 0, none⟩)) ∧ St w wd1138 [(Ty.mix (Ty.sl (Ty.i .i64)) us713).at u77 x1141, bx u102 [(Value.int .i64 x92)]] := hq1139
                  obtain ⟨hf1142, hf1143, hf1144, hf1145, hS1146⟩ := hq1139
                  have hS1147 := St.closeMix (k := 0) hS1146 rfl
                  replace hS1147 : St w wd1138 [(Ty.sl (Ty.sl (Ty.i .i64))).at u77 x1141, bx u102 [(Value.int .i64 x92)]] := hS1147
                  refine W.seq (W.region ?_)
                  refine WL.val (Value.int .i64 x93) _ (op_move hf1143) rfl ?_
                  refine WL.val (Value.int .i64 (w64 (x93 + (1 : Int)))) _ (op_add rfl rfl) rfl ?_
                  refine WL.val (Value.int .i64 (w64 (x93 + (1 : Int)))) _ (op_assign rfl) rfl ?_
                  refine WL.nil ?_
                  refine W.seq (W.region ?_)
                  refine WL.val (Value.int .i64 (w64 (x93 + (1 : Int)))) _ (op_move rfl) rfl ?_
                  refine WL.val u77 _ (op_move hf1144) rfl ?_
                  have hr1148 := inR_len (St.rep (t := (Ty.sl (Ty.sl (Ty.i .i64)))) hS1147 0 rfl)
                  refine WL.val (Value.int .i64 ((x1141).length : Int)) _ (op_lenL sl_37 (St.rep (t := (Ty.sl (Ty.sl (Ty.i .i64)))) hS1147 0 rfl) rfl) rfl ?_
                  refine WL.val (Value.bool ((w64 (x93 + (1 : Int))) == ((x1141).length : Int))) _ (op_eql rfl rfl) rfl ?_
                  refine WL.nil ?_
                  refine W.cond ((w64 (x93 + (1 : Int))) == ((x1141).length : Int)) rfl (fun hc1149 => ?_) (fun hc1149 => ?_)
                  · replace hb98 := ip hb98 hc1149
                    refine W.exit ?_
                    obtain rfl := Option.some.inj hb98
                    show _ = _ ∧ _
                    exact ⟨rfl, _, hbrk100 _ rfl, rfl, (inR_wrap _ _), (St.pick hS1147 [] rfl)⟩
                  · replace hb98 := inegb hb98 hc1149
                    refine W.skip ?_
                    refine W.seq (W.seq (W.region ?_))
                    refine WL.val (Value.int .i64 x92) _ (op_load one_3 hf1145 (BoxAt.cell (St.boxAt hS1147 1 rfl) rfl)) rfl ?_
                    refine WL.nil ?_
                    show W _ _ _ _ _ _
                    refine W.region ?_
                    refine WL.alloc hS1147 ze_3 (cs := [(Value.int .i64 (0 : Int))]) rfl rfl ?_
                    intro b1151 wd1152 hS1153 he1154
                    replace hS1153 : St w wd1152 [(Ty.sl (Ty.sl (Ty.i .i64))).at u77 x1141, bx u102 [(Value.int .i64 x92)], bx b1151 [(Value.int .i64 (0 : Int))]] := hS1153
                    refine WL.storeBox [(Value.int .i64 x92)] hS1153 (k := 2) rfl rfl rfl (us := [(Value.int .i64 x92)]) rfl sz_3 rfl rfl (all_cons rfl all_nil) rfl ?_
                    intro wd1155 hS1156
                    replace hS1156 : St w wd1155 [(Ty.sl (Ty.sl (Ty.i .i64))).at u77 x1141, bx u102 [(Value.int .i64 x92)], bx b1151 [(Value.int .i64 x92)]] := hS1156
                    refine WL.nil ?_
                    show W _ _ _ _ _ _
                    refine W.region ?_
                    refine WL.val (Value.int .i64 x92) _ (op_load one_3 rfl (BoxAt.cell (St.boxAt hS1156 2 rfl) rfl)) rfl ?_
                    refine WL.val (Value.int .i64 (w64 (x92 + (1 : Int)))) _ (op_add rfl rfl) rfl ?_
                    refine WL.storeBox [(Value.int .i64 (w64 (x92 + (1 : Int))))] hS1156 (k := 2) rfl rfl rfl (us := [(Value.int .i64 (w64 (x92 + (1 : Int))))]) rfl sz_3 rfl rfl (all_cons rfl all_nil) rfl ?_
                    intro wd1157 hS1158
                    replace hS1158 : St w wd1157 [(Ty.sl (Ty.sl (Ty.i .i64))).at u77 x1141, bx u102 [(Value.int .i64 x92)], bx b1151 [(Value.int .i64 (w64 (x92 + (1 : Int))))]] := hS1158
                    refine WL.nil ?_
                    obtain rfl := Option.some.inj hb98
                    show ∃ s, _ = Ctl.next s ∧ _
                    exact ⟨_, rfl, b1151, hf1142, rfl, (inR_wrap _ _), hf1144, rfl, (inR_wrap _ _), (St.pick hS1158 [0, 2] rfl)⟩
        · replace hb98 := inegb hb98 hc318
          refine W.exit ?_
          obtain rfl := Option.some.inj hb98
          show _ = _ ∧ _
          exact ⟨rfl, _, hbrk100 _ rfl, hf313, hr105, (St.pick hS317 [] rfl)⟩
    · rintro f1162 wd1163 ⟨s1165, rfl, hq1164⟩
      replace h := onRes_fin h
      obtain ⟨x1166, x1167, x1168⟩ := s1165
      replace hq1164 : f1162 5 = Value.int .i64 x1168 ∧ InR .i64 x1168 ∧ St w wd1163 [] := hq1164
      replace h : (_ : Option _) = _ := h
      dsimp only at h
      obtain ⟨hf1169, hr1170, hS1171⟩ := hq1164
      refine W.seq (W.region ?_)
      refine WL.val (Value.int .i64 x1168) _ (op_move hf1169) rfl ?_
      refine WL.val (Value.int .i64 x1168) _ (op_assign rfl) rfl ?_
      refine WL.nil ?_
      refine W.ret ?_
      obtain rfl := Option.some.inj h
      show FinP _ _ _ _ _ _ _
      exact FinP.ret _ (res1 rfl rfl) ⟨rfl, hr1170, hS1171.ext⟩

theorem c_impl_IsCoboundary {w : World} {c_Orders : (List Int)} {v_c_Orders : Value} {c_Modulus : Int} {c_Values : (List (List (List Int)))} {v_c_Values : Value} (r_c_Orders : (Ty.sl (Ty.i .i64)).rep w v_c_Orders c_Orders) (r_c_Modulus : InR .i64 c_Modulus) (r_c_Values : (Ty.sl (Ty.sl (Ty.sl (Ty.i .i64)))).rep w v_c_Values c_Values) {res : Bool × Int} (h : p_impl_IsCoboundary c_Orders c_Modulus c_Values  = some res) :
    Ret Try.prog 7 #[(Value.agg #[v_c_Orders, (Value.int .i64 c_Modulus), v_c_Values])] w (fun v w' => v = (Value.tuple #[Value.bool res.1, Value.int .i64 res.2]) ∧ InR .i64 res.2 ∧ Ext w w') := by
  unfold p_impl_IsCoboundary at h
  have hS0 : St w w [] := St.start w
  refine Ret.start (fn := Try.f7) Try.func7 rfl 29 rfl rfl ?_
  refine W.seq (W.region ?_)
  refine WL.box hS0 rfl (cs := [v_c_Orders, (Value.int .i64 c_Modulus), v_c_Values]) rfl rfl ?_
  intro b1 wd2 hS3 he4 hx5
  replace hS3 : St w wd2 [bx b1 [v_c_Orders, (Value.int .i64 c_Modulus), v_c_Values]] := hS3
  have hx6 := St.boxAt hS3 0 rfl
  have hE7 : Ext w wd2 := hS3.ext
  have hS8 : St wd2 wd2 [] := St.start wd2
  refine WL.val (Value.bool false) _ (op_assign rfl) rfl ?_
  refine WL.val (Value.int .i64 (0 : Int)) _ (op_assign rfl) rfl ?_
  refine WL.nil ?_
  refine W.seq (W.seq (W.region ?_))
  refine WL.val (Value.agg #[v_c_Orders, (Value.int .i64 c_Modulus), v_c_Values]) _ (op_loadBox st_29 rfl (BoxAt.lift hS8.ext hx6) rfl rfl) rfl ?_
  obtain ⟨x9, hx10, h⟩ := bs h
  refine WL.call _ (op_call fn_18 (args1 rfl)) (c_impl_IsCocycle (Ty.lift _ (Ext.trans hE7 hS8.ext) r_c_Orders) r_c_Modulus (Ty.lift _ (Ext.trans hE7 hS8.ext) r_c_Values) hx10) rfl ?_
  rintro _ wd11 ⟨rfl, he12⟩
  have hS14 := St.extend hS8 he12
  replace hS14 : St wd2 wd11 [] := hS14
  refine WL.val (Value.bool (!x9)) _ (op_not rfl) rfl ?_
  refine WL.nil ?_
  refine W.cond (!x9) rfl (fun hc15 => ?_) (fun hc15 => ?_)
  · replace h := ip h hc15
    refine W.seq (W.region ?_)
    refine WL.val (Value.bool false) _ (op_assign rfl) rfl ?_
    refine WL.val (Value.int .i64 (1 : Int)) _ (op_assign rfl) rfl ?_
    refine WL.nil ?_
    refine W.ret ?_
    obtain rfl := Option.some.inj h
    show FinP _ _ _ _ _ _ _
    exact FinP.ret _ (res2 rfl rfl rfl) ⟨rfl, (inL rfl), (Ext.trans hE7 hS14.ext)⟩
  · replace h := inegb h hc15
    refine W.skip ?_
    refine W.seq (W.region ?_)
    refine WL.val (Value.pointer (some ⟨b1, 1, none⟩)) _ (op_fieldAddr fd_29_1 rfl) rfl ?_
    refine WL.val (Value.int .i64 c_Modulus) _ (op_load one_2 rfl (BoxAt.cell (BoxAt.lift hS14.ext hx6) rfl)) rfl ?_
    refine WL.val (Value.int .i64 c_Modulus) _ (op_assign rfl) rfl ?_
    refine WL.nil ?_
    refine W.seq (W.seq (W.region ?_))
    refine WL.val (Value.int .i64 c_Modulus) _ (op_move rfl) rfl ?_
    obtain ⟨x17, hx18, h⟩ := bs h
    refine WL.call _ (op_call fn_19 (args1 rfl)) (c_impl_isSmallPrime r_c_Modulus hx18) rfl ?_
    rintro _ wd19 ⟨rfl, he20⟩
    have hS22 := St.extend hS14 he20
    replace hS22 : St wd2 wd19 [] := hS22
    refine WL.val (Value.bool (!x17)) _ (op_not rfl) rfl ?_
    refine WL.nil ?_
    refine W.cond (!x17) rfl (fun hc23 => ?_) (fun hc23 => ?_)
    · replace h := ip h hc23
      refine W.seq (W.region ?_)
      refine WL.val (Value.bool false) _ (op_assign rfl) rfl ?_
      refine WL.val (Value.int .i64 (5 : Int)) _ (op_assign rfl) rfl ?_
      refine WL.nil ?_
      refine W.ret ?_
      obtain rfl := Option.some.inj h
      show FinP _ _ _ _ _ _ _
      exact FinP.ret _ (res2 rfl rfl rfl) ⟨rfl, (inL rfl), (Ext.trans hE7 hS22.ext)⟩
    · replace h := inegb h hc23
      refine W.skip ?_
      refine W.seq (W.region ?_)
      refine WL.val (Value.pointer (some ⟨b1, 0, none⟩)) _ (op_fieldAddr fd_29_0 rfl) rfl ?_
      refine WL.val v_c_Orders _ (op_load one_22 rfl (BoxAt.cell (BoxAt.lift hS22.ext hx6) rfl)) rfl ?_
      refine WL.val (Value.int .i64 c_Modulus) _ (op_move rfl) rfl ?_
      obtain ⟨x25, hx26, h⟩ := bs h
      refine WL.call _ (op_call fn_20 (args2 rfl rfl)) (c_impl_coboundaries (Ty.lift _ (Ext.trans hE7 hS22.ext) r_c_Orders) r_c_Modulus hx26) rfl ?_
      rintro u27 wd28 ⟨_, rfl, he29, hs30⟩
      have hS31 := St.join hS22 he29 hs30
      replace hS31 : St wd2 wd28 [(Ty.sl (Ty.sl (Ty.i .i64))).at u27 x25] := hS31
      refine WL.val u27 _ (op_assign rfl) rfl ?_
      refine WL.nil ?_
      refine W.seq ?_
      obtain ⟨x35, hx36, h⟩ := bs h
      obtain ⟨x42, hx43, h⟩ := bs h
      obtain ⟨x55, hx56, h⟩ := bs h
      obtain ⟨x61, hx62, h⟩ := bs h
      refine W.cutCode (fun fq wq => fq 2 = Value.bool (x35 == x61) ∧ fq 3 = (Value.int .i64 (0 : Int)) ∧ St wd2 wq []) ?_ ?_
      · refine W.orders mixo ?_
        intro wd32 he33
        have hS34 := St.extend hS31 he33
        refine WA.take u27 (i := 0) rfl rfl rfl rfl (by kernel_rfl) (fun _ => (op_move rfl)) ?_
        refine WA.take (Value.int .i64 c_Modulus) (i := 1) rfl rfl rfl rfl (by kernel_rfl) (fun _ => (op_move rfl)) ?_
        refine WA.take u27 (i := 3) rfl rfl rfl rfl (by kernel_rfl) (fun _ => (op_move rfl)) ?_
        refine WA.take (Value.int .i64 c_Modulus) (i := 8) rfl rfl rfl rfl (by kernel_rfl) (fun _ => (op_move rfl)) ?_
        refine WA.all [2, 4] (by kernel_rfl) rfl ⟨⟨_, rfl, ?_⟩, ⟨_, rfl, ?_⟩, trivial⟩
        · refine WL.call _ (op_call fn_21 (args2 rfl rfl)) (c_impl_rankModulo (St.rep (t := (Ty.sl (Ty.sl (Ty.i .i64)))) hS34 0 rfl) r_c_Modulus hx36) rfl ?_
          rintro _ wd38 ⟨rfl, hr37, he39⟩
          have hS41 := St.extend hS34 he39
          replace hS41 : St wd2 wd38 [(Ty.sl (Ty.sl (Ty.i .i64))).at u27 x25] := hS41
          refine WL.nil ?_
          show WA _ _ _ _ _ _ _ _
          refine WA.all [4] (by kernel_rfl) rfl ⟨⟨_, rfl, ?_⟩, trivial⟩
          · refine WL.val (Value.agg #[v_c_Orders, (Value.int .i64 c_Modulus), v_c_Values]) _ (op_loadBox st_29 rfl (BoxAt.lift hS41.ext hx6) rfl rfl) rfl ?_
            refine WL.nil ?_
            show WA _ _ _ _ _ _ _ _
            refine WA.all [5] (by kernel_rfl) rfl ⟨⟨_, rfl, ?_⟩, trivial⟩
            · refine WL.call _ (op_call fn_22 (args1 rfl)) (c_impl_Cocycle_flat (Ty.lift _ (Ext.trans hE7 hS41.ext) r_c_Orders) r_c_Modulus (Ty.lift _ (Ext.trans hE7 hS41.ext) r_c_Values) hx43) rfl ?_
              rintro u44 wd45 ⟨_, rfl, he46, hs47⟩
              have hS48 := St.join hS41 he46 hs47
              replace hS48 : St wd2 wd45 [(Ty.sl (Ty.sl (Ty.i .i64))).at u27 x25, (Ty.sl (Ty.i .i64)).at u44 x42] := hS48
              refine WL.nil ?_
              show WA _ _ _ _ _ _ _ _
              refine WA.all [6] (by kernel_rfl) rfl ⟨⟨_, rfl, ?_⟩, trivial⟩
              · refine WL.lit [u44] hS48 sl_37 rfl rfl (fillL rfl ⟨rfl, rfl, (cells_rep (St.rep (t := (Ty.sl (Ty.i .i64))) hS48 1 rfl)), trivial⟩) rfl rfl ?_
                intro b53 wd50 hS51 he52 hx54
                replace hS51 : St wd2 wd50 [(Ty.sl (Ty.sl (Ty.i .i64))).at u27 x25, (Ty.sl (Ty.i .i64)).at u44 x42, bx b53 [u44]] := hS51
                refine WL.nil ?_
                show WA _ _ _ _ _ _ _ _
                refine WA.all [7] (by kernel_rfl) rfl ⟨⟨_, rfl, ?_⟩, trivial⟩
                · refine WL.appendRow hS51 (k := 0) (k2 := 1) (k3 := 2) rfl rfl rfl rfl sl_37 rfl rfl rfl rfl hx56 rfl ?_
                  intro u57 wd58 hS59 hz60
                  replace hS59 : St wd2 wd58 [(Ty.sl (Ty.sl (Ty.i .i64))).at u57 x55, emp, bx b53 [u44]] := hS59
                  refine WL.nil ?_
                  show WA _ _ _ _ _ _ _ _
                  refine WA.all [9] (by kernel_rfl) rfl ⟨⟨_, rfl, ?_⟩, trivial⟩
                  · refine WL.call _ (op_call fn_21 (args2 rfl rfl)) (c_impl_rankModulo (St.rep (t := (Ty.sl (Ty.sl (Ty.i .i64)))) hS59 0 rfl) r_c_Modulus hx62) rfl ?_
                    rintro _ wd64 ⟨rfl, hr63, he65⟩
                    have hS67 := St.extend hS59 he65
                    replace hS67 : St wd2 wd64 [(Ty.sl (Ty.sl (Ty.i .i64))).at u57 x55, emp, bx b53 [u44]] := hS67
                    refine WL.nil ?_
                    show WA _ _ _ _ _ _ _ _
                    refine WA.take (Value.bool (x35 == x61)) (i := 10) rfl rfl rfl rfl (by kernel_rfl) (fun _ => (op_eql rfl rfl)) ?_
                    refine WA.take (Value.bool (x35 == x61)) (i := 11) rfl rfl rfl rfl (by kernel_rfl) (fun _ => (op_assign rfl)) ?_
                    refine WA.take (Value.int .i64 (0 : Int)) (i := 12) rfl rfl rfl rfl (by kernel_rfl) (fun _ => (op_assign rfl)) ?_
                    refine WA.done (by kernel_rfl) ?_
                    exact ⟨rfl, rfl, (St.pick hS67 [] rfl)⟩
        · refine WL.val (Value.agg #[v_c_Orders, (Value.int .i64 c_Modulus), v_c_Values]) _ (op_loadBox st_29 rfl (BoxAt.lift hS34.ext hx6) rfl rfl) rfl ?_
          refine WL.nil ?_
          show WA _ _ _ _ _ _ _ _
          refine WA.all [2] (by kernel_rfl) rfl ⟨⟨_, rfl, ?_⟩, trivial⟩
          · refine WL.call _ (op_call fn_21 (args2 rfl rfl)) (c_impl_rankModulo (St.rep (t := (Ty.sl (Ty.sl (Ty.i .i64)))) hS34 0 rfl) r_c_Modulus hx36) rfl ?_
            rintro _ wd38 ⟨rfl, hr37, he39⟩
            have hS41 := St.extend hS34 he39
            replace hS41 : St wd2 wd38 [(Ty.sl (Ty.sl (Ty.i .i64))).at u27 x25] := hS41
            refine WL.nil ?_
            show WA _ _ _ _ _ _ _ _
            refine WA.all [5] (by kernel_rfl) rfl ⟨⟨_, rfl, ?_⟩, trivial⟩
            · refine WL.call _ (op_call fn_22 (args1 rfl)) (c_impl_Cocycle_flat (Ty.lift _ (Ext.trans hE7 hS41.ext) r_c_Orders) r_c_Modulus (Ty.lift _ (Ext.trans hE7 hS41.ext) r_c_Values) hx43) rfl ?_
              rintro u44 wd45 ⟨_, rfl, he46, hs47⟩
              have hS48 := St.join hS41 he46 hs47
              replace hS48 : St wd2 wd45 [(Ty.sl (Ty.sl (Ty.i .i64))).at u27 x25, (Ty.sl (Ty.i .i64)).at u44 x42] := hS48
              refine WL.nil ?_
              show WA _ _ _ _ _ _ _ _
              refine WA.all [6] (by kernel_rfl) rfl ⟨⟨_, rfl, ?_⟩, trivial⟩
              · refine WL.lit [u44] hS48 sl_37 rfl rfl (fillL rfl ⟨rfl, rfl, (cells_rep (St.rep (t := (Ty.sl (Ty.i .i64))) hS48 1 rfl)), trivial⟩) rfl rfl ?_
                intro b53 wd50 hS51 he52 hx54
                replace hS51 : St wd2 wd50 [(Ty.sl (Ty.sl (Ty.i .i64))).at u27 x25, (Ty.sl (Ty.i .i64)).at u44 x42, bx b53 [u44]] := hS51
                refine WL.nil ?_
                show WA _ _ _ _ _ _ _ _
                refine WA.all [7] (by kernel_rfl) rfl ⟨⟨_, rfl, ?_⟩, trivial⟩
                · refine WL.appendRow hS51 (k := 0) (k2 := 1) (k3 := 2) rfl rfl rfl rfl sl_37 rfl rfl rfl rfl hx56 rfl ?_
                  intro u57 wd58 hS59 hz60
                  replace hS59 : St wd2 wd58 [(Ty.sl (Ty.sl (Ty.i .i64))).at u57 x55, emp, bx b53 [u44]] := hS59
                  refine WL.nil ?_
                  show WA _ _ _ _ _ _ _ _
                  refine WA.all [9] (by kernel_rfl) rfl ⟨⟨_, rfl, ?_⟩, trivial⟩
                  · refine WL.call _ (op_call fn_21 (args2 rfl rfl)) (c_impl_rankModulo (St.rep (t := (Ty.sl (Ty.sl (Ty.i .i64)))) hS59 0 rfl) r_c_Modulus hx62) rfl ?_
                    rintro _ wd64 ⟨rfl, hr63, he65⟩
                    have hS67 := St.extend hS59 he65
                    replace hS67 : St wd2 wd64 [(Ty.sl (Ty.sl (Ty.i .i64))).at u57 x55, emp, bx b53 [u44]] := hS67
                    refine WL.nil ?_
                    show WA _ _ _ _ _ _ _ _
                    refine WA.take (Value.bool (x35 == x61)) (i := 10) rfl rfl rfl rfl (by kernel_rfl) (fun _ => (op_eql rfl rfl)) ?_
                    refine WA.take (Value.bool (x35 == x61)) (i := 11) rfl rfl rfl rfl (by kernel_rfl) (fun _ => (op_assign rfl)) ?_
                    refine WA.take (Value.int .i64 (0 : Int)) (i := 12) rfl rfl rfl rfl (by kernel_rfl) (fun _ => (op_assign rfl)) ?_
                    refine WA.done (by kernel_rfl) ?_
                    exact ⟨rfl, rfl, (St.pick hS67 [] rfl)⟩
      · intro f68 wd69 hq70
        obtain ⟨hf71, hf72, hS73⟩ := hq70
        refine W.ret ?_
        obtain rfl := Option.some.inj h
        show FinP _ _ _ _ _ _ _
        exact FinP.ret _ (res2 rfl hf71 hf72) ⟨rfl, (inL rfl), (Ext.trans hE7 hS73.ext)⟩

theorem c_laws_eqInt64S {w : World} {a : (List Int)} {v_a : Value} {b : (List Int)} {v_b : Value} (r_a : (Ty.sl (Ty.i .i64)).rep w v_a a) (r_b : (Ty.sl (Ty.i .i64)).rep w v_b b) {res : Bool} (h : p_laws_eqInt64S a b  = some res) :
    Ret Try.prog 23 #[v_a, v_b] w (fun v w' => v = Value.bool res ∧ Ext w w') := by
  unfold p_laws_eqInt64S at h
  have hS0 : St w w [] := St.start w
  refine Ret.start (fn := Try.f23) Try.func23 rfl 26 rfl rfl ?_
  refine W.seq (W.region ?_)
  refine WL.val (Value.bool false) _ (op_assign rfl) rfl ?_
  refine WL.nil ?_
  refine W.seq (W.seq (W.region ?_))
  refine WL.val v_a _ (op_move rfl) rfl ?_
  have hr1 := inR_len (Ty.lift _ hS0.ext r_a)
  refine WL.val (Value.int .i64 ((a).length : Int)) _ (op_lenL sl_22 (Ty.lift _ hS0.ext r_a) rfl) rfl ?_
  refine WL.val v_b _ (op_move rfl) rfl ?_
  have hr2 := inR_len (Ty.lift _ hS0.ext r_b)
  refine WL.val (Value.int .i64 ((b).length : Int)) _ (op_lenL sl_22 (Ty.lift _ hS0.ext r_b) rfl) rfl ?_
  refine WL.val (Value.bool (((a).length : Int) != ((b).length : Int))) _ (op_neq rfl rfl) rfl ?_
  refine WL.nil ?_
  refine W.cond (((a).length : Int) != ((b).length : Int)) rfl (fun hc3 => ?_) (fun hc3 => ?_)
  · replace h := ip h hc3
    refine W.seq (W.region ?_)
    refine WL.val (Value.bool false) _ (op_assign rfl) rfl ?_
    refine WL.nil ?_
    refine W.ret ?_
    obtain rfl := Option.some.inj h
    show FinP _ _ _ _ _ _ _
    exact FinP.ret _ (res1 rfl rfl) ⟨rfl, hS0.ext⟩
  · replace h := inegb h hc3
    refine W.skip ?_
    refine W.seq (W.seq (W.region ?_))
    refine WL.val (Value.int .i64 (0 : Int)) _ (op_assign rfl) rfl ?_
    refine WL.nil ?_
    show W _ _ _ _ _ _
    obtain ⟨res5, hres6, h⟩ := bs h
    refine W.blockLoop (fun fq wq => ∃ s, res5 = Res.fin s ∧ St w wq []) ?_ ?_
    · refine W.forN (fun k (s : Unit) fq wq => fq 0 = v_a ∧ fq 1 = v_b ∧ fq 5 = Value.int .i64 (k : Int) ∧ InR .i64 (k : Int) ∧ St w wq []) hres6 ⟨rfl, rfl, rfl, (inL rfl), hS0⟩ ?_ ?_
      · intro k7 s134 ct8 f9 wd10 hk11 hb12 hI13 hbrk14 hret15
        obtain ⟨⟩ := s134
        replace hI13 : f9 0 = v_a ∧ f9 1 = v_b ∧ f9 5 = Value.int .i64 (k7 : Int) ∧ InR .i64 (k7 : Int) ∧ St w wd10 [] := hI13
        replace hb12 : p_laws_eqInt64S_L1 a b k7  = some ct8 := hb12
        unfold p_laws_eqInt64S_L1 at hb12
        obtain ⟨hf16, hf17, hf18, hr19, hS20⟩ := hI13
        refine W.seq (W.seq (W.region ?_))
        refine WL.val (Value.int .i64 (k7 : Int)) _ (op_move hf18) rfl ?_
        refine WL.val v_a _ (op_move hf16) rfl ?_
        have hr21 := inR_len (Ty.lift _ hS20.ext r_a)
        refine WL.val (Value.int .i64 ((a).length : Int)) _ (op_lenL sl_22 (Ty.lift _ hS20.ext r_a) rfl) rfl ?_
        refine WL.val (Value.bool (decide ((k7 : Int) < ((a).length : Int)))) _ (op_lss rfl rfl) rfl ?_
        have hl22 : (k7 : Int) < ((a).length : Int) := by omega
        refine WL.nil ?_
        refine W.condT (decide ((k7 : Int) < ((a).length : Int))) rfl (decide_eq_true hl22) ?_
        refine W.skip ?_
        refine W.seq ?_
        refine W.block ?_
        refine W.seq ?_
        obtain ⟨x53, hx56, hb12⟩ := bs hb12
        obtain ⟨ha54, hb55, hx56⟩ := idx_some hx56
        obtain ⟨u67, hc68, hr69⟩ := repSl.el r_a hx56
        obtain ⟨rfl, hr69⟩ := hr69
        obtain ⟨x99, hx102, hb12⟩ := bs hb12
        obtain ⟨ha100, hb101, hx102⟩ := idx_some hx102
        obtain ⟨u113, hc114, hr115⟩ := repSl.el r_b hx102
        obtain ⟨rfl, hr115⟩ := hr115
        refine W.drawR mixo 8 [] [fun _ v _ _ => v = v_a, fun _ v _ _ => v = (Value.int .i64 (k7 : Int)) ∧ InR .i64 (k7 : Int), fun _ v _ _ => v = (Value.pointer (some (elA v_a ((k7 : Int)).toNat))), fun _ v _ _ => v = (Value.int .i64 x53) ∧ InR .i64 x53, fun _ v _ _ => v = v_b, fun _ v _ _ => v = (Value.int .i64 (k7 : Int)) ∧ InR .i64 (k7 : Int), fun _ v _ _ => v = (Value.pointer (some (elA v_b ((k7 : Int)).toNat))), fun _ v _ _ => v = (Value.int .i64 x99) ∧ InR .i64 x99] (by kernel_rfl) (by kernel_rfl) ⟨pk, pk, pk, pk, pk, pk, pk, pk, trivial⟩ ⟨?_, ?_, ?_, ?_, ?_, ?_, ?_, ?_, trivial⟩ ?_
        · refine ObX.op rfl fun f24 wd25 he26 hout27 hphi28 => ?_
          have e30 : f24 0 = v_a := (hout27 0 rfl).trans hf16
          exact OpX.val v_a wd25 rfl (op_move e30) (Ext.refl _) rfl
        · refine ObX.op rfl fun f31 wd32 he33 hout34 hphi35 => ?_
          have e37 : f31 5 = (Value.int .i64 (k7 : Int)) := (hout34 5 rfl).trans hf18
          exact OpX.val (Value.int .i64 (k7 : Int)) wd32 rfl (op_move e37) (Ext.refl _) ⟨rfl, hr19⟩
        · refine ObX.op rfl fun f38 wd39 he40 hout41 hphi42 => ?_
          have hS43 := St.extend hS20 he40
          obtain ⟨S44, hS45, hf46⟩ := hphi42 0 17 _ rfl rfl rfl
          have e47 : f38 17 = v_a := hf46
          obtain ⟨S48, hS49, hf50⟩ := hphi42 1 18 _ rfl rfl rfl
          obtain ⟨e51, hr52⟩ := hf50
          exact OpX.val (Value.pointer (some (elA v_a ((k7 : Int)).toNat))) wd39 rfl (op_idx sl_22 (Ty.lift _ hS43.ext r_a) e47 e51 ha54 hb55) (Ext.refl _) rfl
        · refine ObX.op rfl fun f57 wd58 he59 hout60 hphi61 => ?_
          have hS62 := St.extend hS20 he59
          obtain ⟨S63, hS64, hf65⟩ := hphi61 2 19 _ rfl rfl rfl
          have e66 : f57 19 = (Value.pointer (some (elA v_a ((k7 : Int)).toNat))) := hf65
          exact OpX.val (Value.int .i64 x53) wd58 rfl (op_load one_2 e66 (Ext.cell hS62.ext hc68)) (Ext.refl _) ⟨rfl, hr69⟩
        · refine ObX.op rfl fun f70 wd71 he72 hout73 hphi74 => ?_
          have e76 : f70 1 = v_b := (hout73 1 rfl).trans hf17
          exact OpX.val v_b wd71 rfl (op_move e76) (Ext.refl _) rfl
        · refine ObX.op rfl fun f77 wd78 he79 hout80 hphi81 => ?_
          have e83 : f77 5 = (Value.int .i64 (k7 : Int)) := (hout80 5 rfl).trans hf18
          exact OpX.val (Value.int .i64 (k7 : Int)) wd78 rfl (op_move e83) (Ext.refl _) ⟨rfl, hr19⟩
        · refine ObX.op rfl fun f84 wd85 he86 hout87 hphi88 => ?_
          have hS89 := St.extend hS20 he86
          obtain ⟨S90, hS91, hf92⟩ := hphi88 4 21 _ rfl rfl rfl
          have e93 : f84 21 = v_b := hf92
          obtain ⟨S94, hS95, hf96⟩ := hphi88 5 22 _ rfl rfl rfl
          obtain ⟨e97, hr98⟩ := hf96
          exact OpX.val (Value.pointer (some (elA v_b ((k7 : Int)).toNat))) wd85 rfl (op_idx sl_22 (Ty.lift _ hS89.ext r_b) e93 e97 ha100 hb101) (Ext.refl _) rfl
        · refine ObX.op rfl fun f103 wd104 he105 hout106 hphi107 => ?_
          have hS108 := St.extend hS20 he105
          obtain ⟨S109, hS110, hf111⟩ := hphi107 6 23 _ rfl rfl rfl
          have e112 : f103 23 = (Value.pointer (some (elA v_b ((k7 : Int)).toNat))) := hf111
          exact OpX.val (Value.int .i64 x99) wd104 rfl (op_load one_2 e112 (Ext.cell hS108.ext hc114)) (Ext.refl _) ⟨rfl, hr115⟩
        · intro f116 wd117 Ss118 he119 hout120 hSn121 hSd122 hphi123
          show WL _ _ _ _ _ _ _
          have hS124 := St.extend hS20 he119
          obtain ⟨e125, hr126⟩ := hphi123 3 20 _ (by decide) rfl rfl
          obtain ⟨e127, hr128⟩ := hphi123 7 24 _ (by decide) rfl rfl
          have e129 : f116 0 = v_a := (hout120 0 rfl).trans hf16
          have e130 : f116 1 = v_b := (hout120 1 rfl).trans hf17
          have e131 : f116 5 = (Value.int .i64 (k7 : Int)) := (hout120 5 rfl).trans hf18
          refine WL.val (Value.bool (x53 != x99)) _ (op_neq e125 e127) rfl ?_
          refine WL.nil ?_
          refine W.cond (x53 != x99) rfl (fun hc132 => ?_) (fun hc132 => ?_)
          · replace hb12 := ip hb12 hc132
            refine W.seq (W.region ?_)
            refine WL.val (Value.bool false) _ (op_assign rfl) rfl ?_
            refine WL.nil ?_
            refine W.ret ?_
            obtain rfl := Option.some.inj hb12
            obtain rfl := hret15 _ rfl
            replace h := onRes_ret h
            obtain rfl := Option.some.inj h
            show FinP _ _ _ _ _ _ _
            exact FinP.ret _ (res1 rfl rfl) ⟨rfl, hS124.ext⟩
          · replace hb12 := inegb hb12 hc132
            refine W.skip ?_
            show W _ _ _ _ _ _
            refine W.region ?_
            refine WL.val (Value.int .i64 (k7 : Int)) _ (op_move e131) rfl ?_
            refine WL.val (Value.int .i64 (w64 ((k7 : Int) + (1 : Int)))) _ (op_add rfl rfl) rfl ?_
            refine WL.val (Value.int .i64 (w64 ((k7 : Int) + (1 : Int)))) _ (op_assign rfl) rfl ?_
            refine WL.nil ?_
            obtain rfl := Option.some.inj hb12
            show ∃ s, _ = Ctl.next s ∧ _
            exact ⟨_, rfl, e129, e130, (ctr_next hl22 hr21), (ctr_rng hl22 hr21), hS124⟩
      · intro s139 f135 wd136 hs137 hI138
        obtain ⟨⟩ := s139
        replace hI138 : f135 0 = v_a ∧ f135 1 = v_b ∧ f135 5 = Value.int .i64 (((a).length : Nat) : Int) ∧ InR .i64 (((a).length : Nat) : Int) ∧ St w wd136 [] := hI138
        obtain ⟨hf140, hf141, hf142, hr143, hS144⟩ := hI138
        refine W.seq (W.seq (W.region ?_))
        refine WL.val (Value.int .i64 (((a).length : Nat) : Int)) _ (op_move hf142) rfl ?_
        refine WL.val v_a _ (op_move hf140) rfl ?_
        have hr145 := inR_len (Ty.lift _ hS144.ext r_a)
        refine WL.val (Value.int .i64 ((a).length : Int)) _ (op_lenL sl_22 (Ty.lift _ hS144.ext r_a) rfl) rfl ?_
        refine WL.val (Value.bool (decide ((((a).length : Nat) : Int) < ((a).length : Int)))) _ (op_lss rfl rfl) rfl ?_
        have hl146 : ¬ (((a).length : Nat) : Int) < ((a).length : Int) := by omega
        refine WL.nil ?_
        refine W.condF (decide ((((a).length : Nat) : Int) < ((a).length : Int))) rfl (decide_eq_false hl146) ?_
        refine W.exit ?_
        show _ = _ ∧ _
        exact ⟨rfl, _, hs137, hS144⟩
    · rintro f147 wd148 ⟨s150, rfl, hq149⟩
      replace h := onRes_fin h
      obtain ⟨⟩ := s150
      replace hq149 : St w wd148 [] := hq149
      have hS151 := hq149
      refine W.seq (W.region ?_)
      refine WL.val (Value.bool true) _ (op_assign rfl) rfl ?_
      refine WL.nil ?_
      refine W.ret ?_
      obtain rfl := Option.some.inj h
      show FinP _ _ _ _ _ _ _
      exact FinP.ret _ (res1 rfl rfl) ⟨rfl, hS151.ext⟩

end Go.VG
