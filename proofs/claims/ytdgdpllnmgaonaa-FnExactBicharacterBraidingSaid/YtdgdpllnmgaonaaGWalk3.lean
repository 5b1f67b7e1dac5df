/- The walks, part 3: each Go function returns what its plain twin returns. No condition beyond what each names. -/
import Derived.Test.YtdgdpllnmgaonaaGWalk2
set_option linter.all false
namespace Go.VG
open Go.Proofs
attribute [local irreducible] W WL Sep FinP

theorem c_impl_Braiding_fault {w : World} {b_Cocycle_Orders : (List Int)} {v_b_Cocycle_Orders : Value} {b_Cocycle_Modulus : Int} {b_Cocycle_Values : (List (List (List Int)))} {v_b_Cocycle_Values : Value} {b_Values : (List (List Int))} {v_b_Values : Value} (r_b_Cocycle_Orders : (Ty.sl (Ty.i .i64)).rep w v_b_Cocycle_Orders b_Cocycle_Orders) (r_b_Cocycle_Modulus : InR .i64 b_Cocycle_Modulus) (r_b_Cocycle_Values : (Ty.sl (Ty.sl (Ty.sl (Ty.i .i64)))).rep w v_b_Cocycle_Values b_Cocycle_Values) (r_b_Values : (Ty.sl (Ty.sl (Ty.i .i64))).rep w v_b_Values b_Values) {res : (List Int)} (h : p_impl_Braiding_fault b_Cocycle_Orders b_Cocycle_Modulus b_Cocycle_Values b_Values  = some res) :
    Ret Try.prog 34 #[(Value.agg #[v_b_Cocycle_Orders, (Value.int .i64 b_Cocycle_Modulus), v_b_Cocycle_Values, v_b_Values])] w (fun v w' => ∃ (u0 : Value), v = u0 ∧ NilIff u0 res ∧ Ext w w' ∧ Sep w.heap.size w' [(Ty.sl (Ty.i .i64)).at u0 res]) := by
  unfold p_impl_Braiding_fault at h
  have hS0 : St w w [] := St.start w
  refine Ret.start (fn := Try.f34) Try.func34 rfl 44 rfl rfl ?_
  refine W.seq (W.region ?_)
  refine WL.box hS0 rfl (cs := [v_b_Cocycle_Orders, (Value.int .i64 b_Cocycle_Modulus), v_b_Cocycle_Values, v_b_Values]) rfl rfl ?_
  intro b1 wd2 hS3 he4 hx5
  replace hS3 : St w wd2 [bx b1 [v_b_Cocycle_Orders, (Value.int .i64 b_Cocycle_Modulus), v_b_Cocycle_Values, v_b_Values]] := hS3
  have hx6 := St.boxAt hS3 0 rfl
  have hE7 : Ext w wd2 := hS3.ext
  have hS8 : St wd2 wd2 [] := St.start wd2
  refine WL.val (Value.slice none 0 0) _ (op_assign rfl) rfl ?_
  refine WL.nil ?_
  show W _ _ _ _ _ _
  refine W.seq (W.seq (W.region ?_))
  refine WL.val (Value.int .i64 (1 : Int)) _ (op_assign rfl) rfl ?_
  refine WL.nil ?_
  show W _ _ _ _ _ _
  obtain ⟨res9, hres10, h⟩ := bs h
  refine W.blockLoop (fun fq wq => ∃ s, res9 = Res.fin s ∧ St wd2 wq []) ?_ ?_
  · refine W.whileC (fun (s : Int) fq wq => fq 1 = (Value.pointer (some ⟨b1, 0, none⟩)) ∧ fq 3 = Value.int .i64 s ∧ InR .i64 s ∧ St wd2 wq []) hres10 ⟨rfl, rfl, (inR_i64.2 (show (-9223372036854775808 : Int) ≤ 1 ∧ (1 : Int) ≤ 9223372036854775807 from by decide)), hS8⟩ ?_
    intro x12 ct13 f14 wd15 hb17 hI18 hbrk19 hret20
    replace hI18 : f14 1 = (Value.pointer (some ⟨b1, 0, none⟩)) ∧ f14 3 = Value.int .i64 x12 ∧ InR .i64 x12 ∧ St wd2 wd15 [] := hI18
    replace hb17 : p_impl_Braiding_fault_L1 b_Cocycle_Orders b_Cocycle_Modulus b_Cocycle_Values b_Values  x12 = some ct13 := hb17
    unfold p_impl_Braiding_fault_L1 at hb17
    obtain ⟨hf21, hf22, hr23, hS24⟩ := hI18
    refine W.seq (W.seq (W.region ?_))
    refine WL.val (Value.int .i64 x12) _ (op_move hf22) rfl ?_
    refine WL.val (Value.bool (decide (x12 ≤ (2 : Int)))) _ (op_leq rfl rfl) rfl ?_
    refine WL.nil ?_
    show W _ _ _ _ _ _
    refine W.cond (decide (x12 ≤ (2 : Int))) rfl (fun hc25 => ?_) (fun hc25 => ?_)
    · replace hb17 := ip hb17 hc25
      refine W.skip ?_
      show W _ _ _ _ _ _
      refine W.seq ?_
      refine W.block ?_
      refine W.seq (W.region ?_)
      refine WL.val (Value.pointer (some ⟨b1, 3, none⟩)) _ (op_fieldAddr fd_34_1 hf21) rfl ?_
      refine WL.val v_b_Values _ (op_load one_26 rfl (BoxAt.cell (BoxAt.lift hS24.ext hx6) rfl)) rfl ?_
      have hr27 := inR_len (Ty.lift _ (Ext.trans hE7 hS24.ext) r_b_Values)
      refine WL.val (Value.int .i64 ((b_Values).length : Int)) _ (op_lenL sl_26 (Ty.lift _ (Ext.trans hE7 hS24.ext) r_b_Values) rfl) rfl ?_
      refine WL.val (Value.int .i64 (0 : Int)) _ (op_move rfl) rfl ?_
      refine WL.nil ?_
      show W _ _ _ _ _ _
      obtain ⟨res28, hres29, hb17⟩ := bs hb17
      refine W.blockLoop (fun fq wq => ∃ s, res28 = Res.fin s ∧ fq 1 = (Value.pointer (some ⟨b1, 0, none⟩)) ∧ fq 3 = (Value.int .i64 x12) ∧ St wd2 wq []) ?_ ?_
      · refine W.forN (fun k (s : Unit) fq wq => fq 1 = (Value.pointer (some ⟨b1, 0, none⟩)) ∧ fq 3 = (Value.int .i64 x12) ∧ fq 13 = (Value.int .i64 ((b_Values).length : Int)) ∧ fq 14 = Value.int .i64 (k : Int) ∧ InR .i64 (k : Int) ∧ St wd2 wq []) hres29 ⟨hf21, hf22, rfl, rfl, (inR_i64.2 (show (-9223372036854775808 : Int) ≤ 0 ∧ (0 : Int) ≤ 9223372036854775807 from by decide)), hS24⟩ ?_ ?_
        · intro k30 s166 ct31 f32 wd33 hk34 hb35 hI36 hbrk37 hret38
          obtain ⟨⟩ := s166
          replace hI36 : f32 1 = (Value.pointer (some ⟨b1, 0, none⟩)) ∧ f32 3 = (Value.int .i64 x12) ∧ f32 13 = (Value.int .i64 ((b_Values).length : Int)) ∧ f32 14 = Value.int .i64 (k30 : Int) ∧ InR .i64 (k30 : Int) ∧ St wd2 wd33 [] := hI36
          replace hb35 : p_impl_Braiding_fault_L2 b_Cocycle_Orders b_Cocycle_Modulus b_Cocycle_Values b_Values x12 k30  = some ct31 := hb35
          unfold p_impl_Braiding_fault_L2 at hb35
          obtain ⟨hf39, hf40, hf41, hf42, hr43, hS44⟩ := hI36
          refine W.seq (W.region ?_)
          refine WL.val (Value.bool (decide ((k30 : Int) < ((b_Values).length : Int)))) _ (op_lss hf42 hf41) rfl ?_
          have hl45 : (k30 : Int) < ((b_Values).length : Int) := by omega
          refine WL.nil ?_
          show W _ _ _ _ _ _
          refine W.seq ?_
          refine W.condT (decide ((k30 : Int) < ((b_Values).length : Int))) rfl (decide_eq_true hl45) ?_
          refine W.skip ?_
          show W _ _ _ _ _ _
          refine W.seq ?_
          refine W.block ?_
          refine W.seq (W.region ?_)
          refine WL.val (Value.int .i64 (k30 : Int)) _ (op_move hf42) rfl ?_
          refine WL.val (Value.int .i64 (k30 : Int)) _ (op_assign rfl) rfl ?_
          refine WL.nil ?_
          show W _ _ _ _ _ _
          refine W.seq (W.region ?_)
          refine WL.val (Value.pointer (some ⟨b1, 3, none⟩)) _ (op_fieldAddr fd_34_1 hf39) rfl ?_
          refine WL.val v_b_Values _ (op_load one_26 rfl (BoxAt.cell (BoxAt.lift hS44.ext hx6) rfl)) rfl ?_
          have hr47 := inR_len (Ty.lift _ (Ext.trans hE7 hS44.ext) r_b_Values)
          refine WL.val (Value.int .i64 ((b_Values).length : Int)) _ (op_lenL sl_26 (Ty.lift _ (Ext.trans hE7 hS44.ext) r_b_Values) rfl) rfl ?_
          refine WL.val (Value.int .i64 (0 : Int)) _ (op_move rfl) rfl ?_
          refine WL.nil ?_
          show W _ _ _ _ _ _
          obtain ⟨res48, hres49, hb35⟩ := bs hb35
          refine W.blockLoop (fun fq wq => ∃ s, res48 = Res.fin s ∧ fq 1 = (Value.pointer (some ⟨b1, 0, none⟩)) ∧ fq 3 = (Value.int .i64 x12) ∧ fq 13 = (Value.int .i64 ((b_Values).length : Int)) ∧ fq 14 = (Value.int .i64 (k30 : Int)) ∧ St wd2 wq []) ?_ ?_
          · refine W.forN (fun k (s : Unit) fq wq => fq 1 = (Value.pointer (some ⟨b1, 0, none⟩)) ∧ fq 3 = (Value.int .i64 x12) ∧ fq 4 = (Value.int .i64 (k30 : Int)) ∧ fq 13 = (Value.int .i64 ((b_Values).length : Int)) ∧ fq 14 = (Value.int .i64 (k30 : Int)) ∧ fq 19 = (Value.int .i64 ((b_Values).length : Int)) ∧ fq 20 = Value.int .i64 (k : Int) ∧ InR .i64 (k : Int) ∧ St wd2 wq []) hres49 ⟨hf39, hf40, rfl, hf41, hf42, rfl, rfl, (inR_i64.2 (show (-9223372036854775808 : Int) ≤ 0 ∧ (0 : Int) ≤ 9223372036854775807 from by decide)), hS44⟩ ?_ ?_
            · intro k50 s140 ct51 f52 wd53 hk54 hb55 hI56 hbrk57 hret58
              obtain ⟨⟩ := s140
              replace hI56 : f52 1 = (Value.pointer (some ⟨b1, 0, none⟩)) ∧ f52 3 = (Value.int .i64 x12) ∧ f52 4 = (Value.int .i64 (k30 : Int)) ∧ f52 13 = (Value.int .i64 ((b_Values).length : Int)) ∧ f52 14 = (Value.int .i64 (k30 : Int)) ∧ f52 19 = (Value.int .i64 ((b_Values).length : Int)) ∧ f52 20 = Value.int .i64 (k50 : Int) ∧ InR .i64 (k50 : Int) ∧ St wd2 wd53 [] := hI56
              replace hb55 : p_impl_Braiding_fault_L3 b_Cocycle_Orders b_Cocycle_Modulus b_Cocycle_Values b_Values x12 k30 k50  = some ct51 := hb55
              unfold p_impl_Braiding_fault_L3 at hb55
              obtain ⟨hf59, hf60, hf61, hf62, hf63, hf64, hf65, hr66, hS67⟩ := hI56
              refine W.seq (W.region ?_)
              refine WL.val (Value.bool (decide ((k50 : Int) < ((b_Values).length : Int)))) _ (op_lss hf65 hf64) rfl ?_
              have hl68 : (k50 : Int) < ((b_Values).length : Int) := by omega
              refine WL.nil ?_
              show W _ _ _ _ _ _
              refine W.seq ?_
              refine W.condT (decide ((k50 : Int) < ((b_Values).length : Int))) rfl (decide_eq_true hl68) ?_
              refine W.skip ?_
              show W _ _ _ _ _ _
              refine W.seq ?_
              refine W.block ?_
              refine W.seq (W.region ?_)
              refine WL.val (Value.int .i64 (k50 : Int)) _ (op_move hf65) rfl ?_
              refine WL.val (Value.int .i64 (k50 : Int)) _ (op_assign rfl) rfl ?_
              refine WL.nil ?_
              show W _ _ _ _ _ _
              refine W.seq (W.region ?_)
              refine WL.val (Value.pointer (some ⟨b1, 3, none⟩)) _ (op_fieldAddr fd_34_1 hf59) rfl ?_
              refine WL.val v_b_Values _ (op_load one_26 rfl (BoxAt.cell (BoxAt.lift hS67.ext hx6) rfl)) rfl ?_
              have hr70 := inR_len (Ty.lift _ (Ext.trans hE7 hS67.ext) r_b_Values)
              refine WL.val (Value.int .i64 ((b_Values).length : Int)) _ (op_lenL sl_26 (Ty.lift _ (Ext.trans hE7 hS67.ext) r_b_Values) rfl) rfl ?_
              refine WL.val (Value.int .i64 (0 : Int)) _ (op_move rfl) rfl ?_
              refine WL.nil ?_
              show W _ _ _ _ _ _
              obtain ⟨res71, hres72, hb55⟩ := bs hb55
              refine W.blockLoop (fun fq wq => ∃ s, res71 = Res.fin s ∧ fq 1 = (Value.pointer (some ⟨b1, 0, none⟩)) ∧ fq 3 = (Value.int .i64 x12) ∧ fq 4 = (Value.int .i64 (k30 : Int)) ∧ fq 13 = (Value.int .i64 ((b_Values).length : Int)) ∧ fq 14 = (Value.int .i64 (k30 : Int)) ∧ fq 19 = (Value.int .i64 ((b_Values).length : Int)) ∧ fq 20 = (Value.int .i64 (k50 : Int)) ∧ St wd2 wq []) ?_ ?_
              · refine W.forN (fun k (s : Unit) fq wq => fq 1 = (Value.pointer (some ⟨b1, 0, none⟩)) ∧ fq 3 = (Value.int .i64 x12) ∧ fq 4 = (Value.int .i64 (k30 : Int)) ∧ fq 5 = (Value.int .i64 (k50 : Int)) ∧ fq 13 = (Value.int .i64 ((b_Values).length : Int)) ∧ fq 14 = (Value.int .i64 (k30 : Int)) ∧ fq 19 = (Value.int .i64 ((b_Values).length : Int)) ∧ fq 20 = (Value.int .i64 (k50 : Int)) ∧ fq 25 = (Value.int .i64 ((b_Values).length : Int)) ∧ fq 26 = Value.int .i64 (k : Int) ∧ InR .i64 (k : Int) ∧ St wd2 wq []) hres72 ⟨hf59, hf60, hf61, rfl, hf62, hf63, hf64, hf65, rfl, rfl, (inR_i64.2 (show (-9223372036854775808 : Int) ≤ 0 ∧ (0 : Int) ≤ 9223372036854775807 from by decide)), hS67⟩ ?_ ?_
                · intro k73 s108 ct74 f75 wd76 hk77 hb78 hI79 hbrk80 hret81
                  obtain ⟨⟩ := s108
                  replace hI79 : f75 1 = (Value.pointer (some ⟨b1, 0, none⟩)) ∧ f75 3 = (Value.int .i64 x12) ∧ f75 4 = (Value.int .i64 (k30 : Int)) ∧ f75 5 = (Value.int .i64 (k50 : Int)) ∧ f75 13 = (Value.int .i64 ((b_Values).length : Int)) ∧ f75 14 = (Value.int .i64 (k30 : Int)) ∧ f75 19 = (Value.int .i64 ((b_Values).length : Int)) ∧ f75 20 = (Value.int .i64 (k50 : Int)) ∧ f75 25 = (Value.int .i64 ((b_Values).length : Int)) ∧ f75 26 = Value.int .i64 (k73 : Int) ∧ InR .i64 (k73 : Int) ∧ St wd2 wd76 [] := hI79
                  replace hb78 : p_impl_Braiding_fault_L4 b_Cocycle_Orders b_Cocycle_Modulus b_Cocycle_Values b_Values x12 k30 k50 k73  = some ct74 := hb78
                  unfold p_impl_Braiding_fault_L4 at hb78
                  obtain ⟨hf82, hf83, hf84, hf85, hf86, hf87, hf88, hf89, hf90, hf91, hr92, hS93⟩ := hI79
                  refine W.seq (W.region ?_)
                  refine WL.val (Value.bool (decide ((k73 : Int) < ((b_Values).length : Int)))) _ (op_lss hf91 hf90) rfl ?_
                  have hl94 : (k73 : Int) < ((b_Values).length : Int) := by omega
                  refine WL.nil ?_
                  show W _ _ _ _ _ _
                  refine W.seq ?_
                  refine W.condT (decide ((k73 : Int) < ((b_Values).length : Int))) rfl (decide_eq_true hl94) ?_
                  refine W.skip ?_
                  show W _ _ _ _ _ _
                  refine W.seq ?_
                  refine W.block ?_
                  refine W.seq (W.region ?_)
                  refine WL.val (Value.int .i64 (k73 : Int)) _ (op_move hf91) rfl ?_
                  refine WL.val (Value.int .i64 (k73 : Int)) _ (op_assign rfl) rfl ?_
                  refine WL.nil ?_
                  show W _ _ _ _ _ _
                  refine W.seq (W.region ?_)
                  refine WL.val (Value.agg #[v_b_Cocycle_Orders, (Value.int .i64 b_Cocycle_Modulus), v_b_Cocycle_Values, v_b_Values]) _ (op_loadBox st_34 hf82 (BoxAt.lift hS93.ext hx6) rfl rfl) rfl ?_
                  refine WL.val (Value.int .i64 x12) _ (op_move hf83) rfl ?_
                  refine WL.val (Value.int .i64 (k30 : Int)) _ (op_move hf84) rfl ?_
                  refine WL.val (Value.int .i64 (k50 : Int)) _ (op_move hf85) rfl ?_
                  refine WL.val (Value.int .i64 (k73 : Int)) _ (op_move rfl) rfl ?_
                  obtain ⟨x96, hx97, hb78⟩ := bs hb78
                  refine WL.call _ (op_call fn_70 (args5 rfl rfl rfl rfl rfl)) (c_impl_Braiding_holds (Ty.lift _ (Ext.trans hE7 hS93.ext) r_b_Cocycle_Orders) r_b_Cocycle_Modulus (Ty.lift _ (Ext.trans hE7 hS93.ext) r_b_Cocycle_Values) (Ty.lift _ (Ext.trans hE7 hS93.ext) r_b_Values) hr23 hr43 hr66 hr92 hx97) rfl ?_
                  rintro _ wd98 ⟨rfl, he99⟩
                  have hS101 := St.extend hS93 he99
                  replace hS101 : St wd2 wd98 [] := hS101
                  refine WL.val (Value.bool (!x96)) _ (op_not rfl) rfl ?_
                  refine WL.nil ?_
                  show W _ _ _ _ _ _
                  refine W.cond (!x96) rfl (fun hc102 => ?_) (fun hc102 => ?_)
                  · replace hb78 := ip hb78 hc102
                    refine W.seq (W.region ?_)
                    refine WL.val (Value.int .i64 x12) _ (op_move hf83) rfl ?_
                    refine WL.val (Value.int .i64 (k30 : Int)) _ (op_move hf84) rfl ?_
                    refine WL.val (Value.int .i64 (k50 : Int)) _ (op_move hf85) rfl ?_
                    refine WL.val (Value.int .i64 (k73 : Int)) _ (op_move rfl) rfl ?_
                    refine WL.litFlat (t := (Ty.i .i64)) (flat_i .i64) [(Value.int .i64 x12), (Value.int .i64 (k30 : Int)), (Value.int .i64 (k50 : Int)), (Value.int .i64 (k73 : Int))] [x12, (k30 : Int), (k50 : Int), (k73 : Int)] hS101 sl_22 rfl rfl (fillL rfl ⟨rfl, rfl, rfl, rfl, rfl, rfl, rfl, rfl, rfl, rfl, rfl, rfl, trivial⟩) rfl rfl (litL ⟨⟨rfl, hr23⟩, ⟨rfl, hr43⟩, ⟨rfl, hr66⟩, ⟨rfl, hr92⟩, trivial⟩) rfl ?_
                    intro u104 wd105 hS106 he107
                    replace hS106 : St wd2 wd105 [(Ty.sl (Ty.i .i64)).at u104 ([x12, (k30 : Int), (k50 : Int), (k73 : Int)] : (List Int))] := hS106
                    refine WL.val u104 _ (op_assign rfl) rfl ?_
                    refine WL.nil ?_
                    show W _ _ _ _ _ _
                    refine W.ret ?_
                    obtain rfl := Option.some.inj hb78
                    obtain rfl := hret81 _ rfl
                    replace hb55 := onRes_ret hb55
                    obtain rfl := Option.some.inj hb55
                    obtain rfl := hret58 _ rfl
                    replace hb35 := onRes_ret hb35
                    obtain rfl := Option.some.inj hb35
                    obtain rfl := hret38 _ rfl
                    replace hb17 := onRes_ret hb17
                    obtain rfl := Option.some.inj hb17
                    obtain rfl := hret20 _ rfl
                    replace h := onRes_ret h
                    obtain rfl := Option.some.inj h
                    show FinP _ _ _ _ _ _ _
                    exact FinP.ret _ (res1 rfl rfl) ⟨u104, rfl, (nil_cons), (Ext.trans hE7 hS106.ext), (St.out (St.pick hS106 [0] rfl) (hE7))⟩
                  · replace hb78 := inegb hb78 hc102
                    refine W.skip ?_
                    show W _ _ _ _ _ _
                    refine W.region ?_
                    refine WL.val (Value.int .i64 (w64 ((k73 : Int) + (1 : Int)))) _ (op_add hf91 rfl) rfl ?_
                    refine WL.val (Value.int .i64 (w64 ((k73 : Int) + (1 : Int)))) _ (op_move rfl) rfl ?_
                    refine WL.nil ?_
                    obtain rfl := Option.some.inj hb78
                    show ∃ s, _ = Ctl.next s ∧ _
                    exact ⟨_, rfl, hf82, hf83, hf84, hf85, hf86, hf87, hf88, hf89, hf90, (ctr_next hl94 hr70), (ctr_rng hl94 hr70), hS101⟩
                · intro s113 f109 wd110 hs111 hI112
                  obtain ⟨⟩ := s113
                  replace hI112 : f109 1 = (Value.pointer (some ⟨b1, 0, none⟩)) ∧ f109 3 = (Value.int .i64 x12) ∧ f109 4 = (Value.int .i64 (k30 : Int)) ∧ f109 5 = (Value.int .i64 (k50 : Int)) ∧ f109 13 = (Value.int .i64 ((b_Values).length : Int)) ∧ f109 14 = (Value.int .i64 (k30 : Int)) ∧ f109 19 = (Value.int .i64 ((b_Values).length : Int)) ∧ f109 20 = (Value.int .i64 (k50 : Int)) ∧ f109 25 = (Value.int .i64 ((b_Values).length : Int)) ∧ f109 26 = Value.int .i64 (((b_Values).length : Nat) : Int) ∧ InR .i64 (((b_Values).length : Nat) : Int) ∧ St wd2 wd110 [] := hI112
                  obtain ⟨hf114, hf115, hf116, hf117, hf118, hf119, hf120, hf121, hf122, hf123, hr124, hS125⟩ := hI112
                  refine W.seq (W.region ?_)
                  refine WL.val (Value.bool (decide ((((b_Values).length : Nat) : Int) < ((b_Values).length : Int)))) _ (op_lss hf123 hf122) rfl ?_
                  have hl126 : ¬ (((b_Values).length : Nat) : Int) < ((b_Values).length : Int) := by omega
                  refine WL.nil ?_
                  show W _ _ _ _ _ _
                  refine W.seq ?_
                  refine W.condF (decide ((((b_Values).length : Nat) : Int) < ((b_Values).length : Int))) rfl (decide_eq_false hl126) ?_
                  refine W.exit ?_
                  show _ = _ ∧ _
                  exact ⟨rfl, _, hs111, hf114, hf115, hf116, hf118, hf119, hf120, hf121, hS125⟩
              · rintro f127 wd128 ⟨s130, rfl, hq129⟩
                replace hb55 := onRes_fin hb55
                obtain ⟨⟩ := s130
                replace hq129 : f127 1 = (Value.pointer (some ⟨b1, 0, none⟩)) ∧ f127 3 = (Value.int .i64 x12) ∧ f127 4 = (Value.int .i64 (k30 : Int)) ∧ f127 13 = (Value.int .i64 ((b_Values).length : Int)) ∧ f127 14 = (Value.int .i64 (k30 : Int)) ∧ f127 19 = (Value.int .i64 ((b_Values).length : Int)) ∧ f127 20 = (Value.int .i64 (k50 : Int)) ∧ St wd2 wd128 [] := hq129
                obtain ⟨hf131, hf132, hf133, hf134, hf135, hf136, hf137, hS138⟩ := hq129
                show W _ _ _ _ _ _
                refine W.region ?_
                refine WL.val (Value.int .i64 (w64 ((k50 : Int) + (1 : Int)))) _ (op_add hf137 rfl) rfl ?_
                refine WL.val (Value.int .i64 (w64 ((k50 : Int) + (1 : Int)))) _ (op_move rfl) rfl ?_
                refine WL.nil ?_
                obtain rfl := Option.some.inj hb55
                show ∃ s, _ = Ctl.next s ∧ _
                exact ⟨_, rfl, hf131, hf132, hf133, hf134, hf135, hf136, (ctr_next hl68 hr47), (ctr_rng hl68 hr47), hS138⟩
            · intro s145 f141 wd142 hs143 hI144
              obtain ⟨⟩ := s145
              replace hI144 : f141 1 = (Value.pointer (some ⟨b1, 0, none⟩)) ∧ f141 3 = (Value.int .i64 x12) ∧ f141 4 = (Value.int .i64 (k30 : Int)) ∧ f141 13 = (Value.int .i64 ((b_Values).length : Int)) ∧ f141 14 = (Value.int .i64 (k30 : Int)) ∧ f141 19 = (Value.int .i64 ((b_Values).length : Int)) ∧ f141 20 = Value.int .i64 (((b_Values).length : Nat) : Int) ∧ InR .i64 (((b_Values).length : Nat) : Int) ∧ St wd2 wd142 [] := hI144
              obtain ⟨hf146, hf147, hf148, hf149, hf150, hf151, hf152, hr153, hS154⟩ := hI144
              refine W.seq (W.region ?_)
              refine WL.val (Value.bool (decide ((((b_Values).length : Nat) : Int) < ((b_Values).length : Int)))) _ (op_lss hf152 hf151) rfl ?_
              have hl155 : ¬ (((b_Values).length : Nat) : Int) < ((b_Values).length : Int) := by omega
              refine WL.nil ?_
              show W _ _ _ _ _ _
              refine W.seq ?_
              refine W.condF (decide ((((b_Values).length : Nat) : Int) < ((b_Values).length : Int))) rfl (decide_eq_false hl155) ?_
              refine W.exit ?_
              show _ = _ ∧ _
              exact ⟨rfl, _, hs143, hf146, hf147, hf149, hf150, hS154⟩
          · rintro f156 wd157 ⟨s159, rfl, hq158⟩
            replace hb35 := onRes_fin hb35
            obtain ⟨⟩ := s159
            replace hq158 : f156 1 = (Value.pointer (some ⟨b1, 0, none⟩)) ∧ f156 3 = (Value.int .i64 x12) ∧ f156 13 = (Value.int .i64 ((b_Values).length : Int)) ∧ f156 14 = (Value.int .i64 (k30 : Int)) ∧ St wd2 wd157 [] := hq158
            obtain ⟨hf160, hf161, hf162, hf163, hS164⟩ := hq158
            show W _ _ _ _ _ _
            refine W.region ?_
            refine WL.val (Value.int .i64 (w64 ((k30 : Int) + (1 : Int)))) _ (op_add hf163 rfl) rfl ?_
            refine WL.val (Value.int .i64 (w64 ((k30 : Int) + (1 : Int)))) _ (op_move rfl) rfl ?_
            refine WL.nil ?_
            obtain rfl := Option.some.inj hb35
            show ∃ s, _ = Ctl.next s ∧ _
            exact ⟨_, rfl, hf160, hf161, hf162, (ctr_next hl45 hr27), (ctr_rng hl45 hr27), hS164⟩
        · intro s171 f167 wd168 hs169 hI170
          obtain ⟨⟩ := s171
          replace hI170 : f167 1 = (Value.pointer (some ⟨b1, 0, none⟩)) ∧ f167 3 = (Value.int .i64 x12) ∧ f167 13 = (Value.int .i64 ((b_Values).length : Int)) ∧ f167 14 = Value.int .i64 (((b_Values).length : Nat) : Int) ∧ InR .i64 (((b_Values).length : Nat) : Int) ∧ St wd2 wd168 [] := hI170
          obtain ⟨hf172, hf173, hf174, hf175, hr176, hS177⟩ := hI170
          refine W.seq (W.region ?_)
          refine WL.val (Value.bool (decide ((((b_Values).length : Nat) : Int) < ((b_Values).length : Int)))) _ (op_lss hf175 hf174) rfl ?_
          have hl178 : ¬ (((b_Values).length : Nat) : Int) < ((b_Values).length : Int) := by omega
          refine WL.nil ?_
          show W _ _ _ _ _ _
          refine W.seq ?_
          refine W.condF (decide ((((b_Values).length : Nat) : Int) < ((b_Values).length : Int))) rfl (decide_eq_false hl178) ?_
          refine W.exit ?_
          show _ = _ ∧ _
          exact ⟨rfl, _, hs169, hf172, hf173, hS177⟩
      · rintro f179 wd180 ⟨s182, rfl, hq181⟩
        replace hb17 := onRes_fin hb17
        obtain ⟨⟩ := s182
        replace hq181 : f179 1 = (Value.pointer (some ⟨b1, 0, none⟩)) ∧ f179 3 = (Value.int .i64 x12) ∧ St wd2 wd180 [] := hq181
        obtain ⟨hf183, hf184, hS185⟩ := hq181
        show W _ _ _ _ _ _
        refine W.region ?_
        refine WL.val (Value.int .i64 x12) _ (op_move hf184) rfl ?_
        refine WL.val (Value.int .i64 (w64 (x12 + (1 : Int)))) _ (op_add rfl rfl) rfl ?_
        refine WL.val (Value.int .i64 (w64 (x12 + (1 : Int)))) _ (op_assign rfl) rfl ?_
        refine WL.nil ?_
        obtain rfl := Option.some.inj hb17
        show ∃ s, _ = Ctl.next s ∧ _
        exact ⟨_, rfl, hf183, rfl, (inR_wrap _ _), hS185⟩
    · replace hb17 := inegb hb17 hc25
      refine W.exit ?_
      obtain rfl := Option.some.inj hb17
      show _ = _ ∧ _
      exact ⟨rfl, _, hbrk19 _ rfl, hS24⟩
  · rintro f188 wd189 ⟨x192, rfl, hq190⟩
    replace h := onRes_fin h
    replace hq190 : St wd2 wd189 [] := hq190
    have hS193 := hq190
    show W _ _ _ _ _ _
    refine W.seq (W.region ?_)
    refine WL.val (Value.slice none 0 0) _ (op_assign rfl) rfl ?_
    refine WL.nil ?_
    show W _ _ _ _ _ _
    refine W.ret ?_
    obtain rfl := Option.some.inj h
    show FinP _ _ _ _ _ _ _
    exact FinP.ret _ (res1 rfl rfl) ⟨(Value.slice none 0 0), rfl, (fun _ => ⟨0, 0, rfl⟩), (Ext.trans hE7 hS193.ext), (St.out (St.pick (St.addNil (Ty.i .i64) hS193) [0] rfl) (hE7))⟩

theorem c_laws_eqInt64S {w : World} {a : (List Int)} {v_a : Value} {b : (List Int)} {v_b : Value} (r_a : (Ty.sl (Ty.i .i64)).rep w v_a a) (r_b : (Ty.sl (Ty.i .i64)).rep w v_b b) {res : Bool} (h : p_laws_eqInt64S a b  = some res) :
    Ret Try.prog 11 #[v_a, v_b] w (fun v w' => v = Value.bool res ∧ Ext w w') := by
  unfold p_laws_eqInt64S at h
  have hS0 : St w w [] := St.start w
  refine Ret.start (fn := Try.f11) Try.func11 rfl 26 rfl rfl ?_
  refine W.seq (W.region ?_)
  refine WL.val (Value.bool false) _ (op_assign rfl) rfl ?_
  refine WL.nil ?_
  show W _ _ _ _ _ _
  refine W.seq (W.seq (W.region ?_))
  refine WL.val v_a _ (op_move rfl) rfl ?_
  have hr1 := inR_len (Ty.lift _ hS0.ext r_a)
  refine WL.val (Value.int .i64 ((a).length : Int)) _ (op_lenL sl_22 (Ty.lift _ hS0.ext r_a) rfl) rfl ?_
  refine WL.val v_b _ (op_move rfl) rfl ?_
  have hr2 := inR_len (Ty.lift _ hS0.ext r_b)
  refine WL.val (Value.int .i64 ((b).length : Int)) _ (op_lenL sl_22 (Ty.lift _ hS0.ext r_b) rfl) rfl ?_
  refine WL.val (Value.bool (((a).length : Int) != ((b).length : Int))) _ (op_neq rfl rfl) rfl ?_
  refine WL.nil ?_
  show W _ _ _ _ _ _
  refine W.cond (((a).length : Int) != ((b).length : Int)) rfl (fun hc3 => ?_) (fun hc3 => ?_)
  · replace h := ip h hc3
    refine W.seq (W.region ?_)
    refine WL.val (Value.bool false) _ (op_assign rfl) rfl ?_
    refine WL.nil ?_
    show W _ _ _ _ _ _
    refine W.ret ?_
    obtain rfl := Option.some.inj h
    show FinP _ _ _ _ _ _ _
    exact FinP.ret _ (res1 rfl rfl) ⟨rfl, hS0.ext⟩
  · replace h := inegb h hc3
    refine W.skip ?_
    show W _ _ _ _ _ _
    refine W.seq (W.seq (W.region ?_))
    refine WL.val (Value.int .i64 (0 : Int)) _ (op_assign rfl) rfl ?_
    refine WL.nil ?_
    show W _ _ _ _ _ _
    obtain ⟨res5, hres6, h⟩ := bs h
    refine W.blockLoop (fun fq wq => ∃ s, res5 = Res.fin s ∧ St w wq []) ?_ ?_
    · refine W.forN (fun k (s : Unit) fq wq => fq 0 = v_a ∧ fq 1 = v_b ∧ fq 5 = Value.int .i64 (k : Int) ∧ InR .i64 (k : Int) ∧ St w wq []) hres6 ⟨rfl, rfl, rfl, (inR_i64.2 (show (-9223372036854775808 : Int) ≤ 0 ∧ (0 : Int) ≤ 9223372036854775807 from by decide)), hS0⟩ ?_ ?_
      · intro k7 s134 ct8 f9 wd10 hk11 hb12 hI13 hbrk14 hret15
        obtain ⟨⟩ := s134
        replace hI13 : f9 0 = v_a ∧ f9 1 = v_b ∧ f9 5 = Value.int .i64 (k7 : Int) ∧ InR .i64 (k7 : Int) ∧ St w wd10 [] := hI13
        replace hb12 : p_laws_eqInt64S_L1 a b k7  = some ct8 := hb12
        unfold p_laws_eqInt64S_L1 at hb12
        obtain ⟨hf16, hf17, hf18, hr19, hS20⟩ := hI13
        refine W.seq (W.seq (W.region ?_))
        refine WL.val (Value.int .i64 (k7 : Int)) _ (op_move hf18) rfl ?_
        refine WL.val v_a _ (op_move hf16) rfl ?_
        have hr21 := inR_len (Ty.lift _ hS20.ext r_a)
        refine WL.val (Value.int .i64 ((a).length : Int)) _ (op_lenL sl_22 (Ty.lift _ hS20.ext r_a) rfl) rfl ?_
        refine WL.val (Value.bool (decide ((k7 : Int) < ((a).length : Int)))) _ (op_lss rfl rfl) rfl ?_
        have hl22 : (k7 : Int) < ((a).length : Int) := by omega
        refine WL.nil ?_
        show W _ _ _ _ _ _
        refine W.condT (decide ((k7 : Int) < ((a).length : Int))) rfl (decide_eq_true hl22) ?_
        refine W.skip ?_
        show W _ _ _ _ _ _
        refine W.seq ?_
        refine W.block ?_
        refine W.seq ?_
        obtain ⟨x53, hx56, hb12⟩ := bs hb12
        obtain ⟨ha54, hb55, hx56⟩ := idx_some hx56
        obtain ⟨u67, hc68, hr69⟩ := repSl.el r_a hx56
        obtain ⟨rfl, hr69⟩ := hr69
        obtain ⟨x99, hx102, hb12⟩ := bs hb12
        obtain ⟨ha100, hb101, hx102⟩ := idx_some hx102
        obtain ⟨u113, hc114, hr115⟩ := repSl.el r_b hx102
        obtain ⟨rfl, hr115⟩ := hr115
        refine W.drawR mixo 8 [] [fun _ v _ _ => v = v_a, fun _ v _ _ => v = (Value.int .i64 (k7 : Int)) ∧ InR .i64 (k7 : Int), fun _ v _ _ => v = (Value.pointer (some (elA v_a ((k7 : Int)).toNat))), fun _ v _ _ => v = (Value.int .i64 x53) ∧ InR .i64 x53, fun _ v _ _ => v = v_b, fun _ v _ _ => v = (Value.int .i64 (k7 : Int)) ∧ InR .i64 (k7 : Int), fun _ v _ _ => v = (Value.pointer (some (elA v_b ((k7 : Int)).toNat))), fun _ v _ _ => v = (Value.int .i64 x99) ∧ InR .i64 x99] (by kernel_rfl) (by kernel_rfl) ⟨⟨fun _ _ _ _ _ _ h => h, fun _ _ _ _ _ _ h => h⟩, ⟨fun _ _ _ _ _ _ h => h, fun _ _ _ _ _ _ h => h⟩, ⟨fun _ _ _ _ _ _ h => h, fun _ _ _ _ _ _ h => h⟩, ⟨fun _ _ _ _ _ _ h => h, fun _ _ _ _ _ _ h => h⟩, ⟨fun _ _ _ _ _ _ h => h, fun _ _ _ _ _ _ h => h⟩, ⟨fun _ _ _ _ _ _ h => h, fun _ _ _ _ _ _ h => h⟩, ⟨fun _ _ _ _ _ _ h => h, fun _ _ _ _ _ _ h => h⟩, ⟨fun _ _ _ _ _ _ h => h, fun _ _ _ _ _ _ h => h⟩, trivial⟩ ⟨?_, ?_, ?_, ?_, ?_, ?_, ?_, ?_, trivial⟩ ?_
        · refine ObX.op rfl ?_
          intro f24 wd25 he26 hout27 hphi28
          have hS29 : St w wd25 [] := St.extend hS20 he26
          have e30 : f24 0 = v_a := (hout27 0 rfl).trans hf16
          exact OpX.val v_a wd25 rfl (op_move e30) (Ext.refl _) rfl
        · refine ObX.op rfl ?_
          intro f31 wd32 he33 hout34 hphi35
          have hS36 : St w wd32 [] := St.extend hS20 he33
          have e37 : f31 5 = (Value.int .i64 (k7 : Int)) := (hout34 5 rfl).trans hf18
          exact OpX.val (Value.int .i64 (k7 : Int)) wd32 rfl (op_move e37) (Ext.refl _) ⟨rfl, hr19⟩
        · refine ObX.op rfl ?_
          intro f38 wd39 he40 hout41 hphi42
          have hS43 : St w wd39 [] := St.extend hS20 he40
          obtain ⟨S44, hS45, hf46⟩ := hphi42 0 17 _ rfl rfl rfl
          have e47 : f38 17 = v_a := hf46
          obtain ⟨S48, hS49, hf50⟩ := hphi42 1 18 _ rfl rfl rfl
          obtain ⟨e51, hr52⟩ : f38 18 = (Value.int .i64 (k7 : Int)) ∧ InR .i64 (k7 : Int) := hf50
          exact OpX.val (Value.pointer (some (elA v_a ((k7 : Int)).toNat))) wd39 rfl (op_idx sl_22 (Ty.lift _ hS43.ext r_a) e47 e51 ha54 hb55) (Ext.refl _) rfl
        · refine ObX.op rfl ?_
          intro f57 wd58 he59 hout60 hphi61
          have hS62 : St w wd58 [] := St.extend hS20 he59
          obtain ⟨S63, hS64, hf65⟩ := hphi61 2 19 _ rfl rfl rfl
          have e66 : f57 19 = (Value.pointer (some (elA v_a ((k7 : Int)).toNat))) := hf65
          exact OpX.val (Value.int .i64 x53) wd58 rfl (op_load one_2 e66 (Ext.cell hS62.ext hc68)) (Ext.refl _) ⟨rfl, hr69⟩
        · refine ObX.op rfl ?_
          intro f70 wd71 he72 hout73 hphi74
          have hS75 : St w wd71 [] := St.extend hS20 he72
          have e76 : f70 1 = v_b := (hout73 1 rfl).trans hf17
          exact OpX.val v_b wd71 rfl (op_move e76) (Ext.refl _) rfl
        · refine ObX.op rfl ?_
          intro f77 wd78 he79 hout80 hphi81
          have hS82 : St w wd78 [] := St.extend hS20 he79
          have e83 : f77 5 = (Value.int .i64 (k7 : Int)) := (hout80 5 rfl).trans hf18
          exact OpX.val (Value.int .i64 (k7 : Int)) wd78 rfl (op_move e83) (Ext.refl _) ⟨rfl, hr19⟩
        · refine ObX.op rfl ?_
          intro f84 wd85 he86 hout87 hphi88
          have hS89 : St w wd85 [] := St.extend hS20 he86
          obtain ⟨S90, hS91, hf92⟩ := hphi88 4 21 _ rfl rfl rfl
          have e93 : f84 21 = v_b := hf92
          obtain ⟨S94, hS95, hf96⟩ := hphi88 5 22 _ rfl rfl rfl
          obtain ⟨e97, hr98⟩ : f84 22 = (Value.int .i64 (k7 : Int)) ∧ InR .i64 (k7 : Int) := hf96
          exact OpX.val (Value.pointer (some (elA v_b ((k7 : Int)).toNat))) wd85 rfl (op_idx sl_22 (Ty.lift _ hS89.ext r_b) e93 e97 ha100 hb101) (Ext.refl _) rfl
        · refine ObX.op rfl ?_
          intro f103 wd104 he105 hout106 hphi107
          have hS108 : St w wd104 [] := St.extend hS20 he105
          obtain ⟨S109, hS110, hf111⟩ := hphi107 6 23 _ rfl rfl rfl
          have e112 : f103 23 = (Value.pointer (some (elA v_b ((k7 : Int)).toNat))) := hf111
          exact OpX.val (Value.int .i64 x99) wd104 rfl (op_load one_2 e112 (Ext.cell hS108.ext hc114)) (Ext.refl _) ⟨rfl, hr115⟩
        · intro f116 wd117 Ss118 he119 hout120 hSn121 hSd122 hphi123
          show WL _ _ _ _ _ _ _
          have hS124 : St w wd117 [] := St.extend hS20 he119
          obtain ⟨e125, hr126⟩ : f116 20 = (Value.int .i64 x53) ∧ InR .i64 x53 := hphi123 3 20 _ (by decide) rfl rfl
          obtain ⟨e127, hr128⟩ : f116 24 = (Value.int .i64 x99) ∧ InR .i64 x99 := hphi123 7 24 _ (by decide) rfl rfl
          have e129 : f116 0 = v_a := (hout120 0 rfl).trans hf16
          have e130 : f116 1 = v_b := (hout120 1 rfl).trans hf17
          have e131 : f116 5 = (Value.int .i64 (k7 : Int)) := (hout120 5 rfl).trans hf18
          refine WL.val (Value.bool (x53 != x99)) _ (op_neq e125 e127) rfl ?_
          refine WL.nil ?_
          show W _ _ _ _ _ _
          refine W.cond (x53 != x99) rfl (fun hc132 => ?_) (fun hc132 => ?_)
          · replace hb12 := ip hb12 hc132
            refine W.seq (W.region ?_)
            refine WL.val (Value.bool false) _ (op_assign rfl) rfl ?_
            refine WL.nil ?_
            show W _ _ _ _ _ _
            refine W.ret ?_
            obtain rfl := Option.some.inj hb12
            obtain rfl := hret15 _ rfl
            replace h := onRes_ret h
            obtain rfl := Option.some.inj h
            show FinP _ _ _ _ _ _ _
            exact FinP.ret _ (res1 rfl rfl) ⟨rfl, hS124.ext⟩
          · replace hb12 := inegb hb12 hc132
            refine W.skip ?_
            show W _ _ _ _ _ _
            refine W.region ?_
            refine WL.val (Value.int .i64 (k7 : Int)) _ (op_move e131) rfl ?_
            refine WL.val (Value.int .i64 (w64 ((k7 : Int) + (1 : Int)))) _ (op_add rfl rfl) rfl ?_
            refine WL.val (Value.int .i64 (w64 ((k7 : Int) + (1 : Int)))) _ (op_assign rfl) rfl ?_
            refine WL.nil ?_
            obtain rfl := Option.some.inj hb12
            show ∃ s, _ = Ctl.next s ∧ _
            exact ⟨_, rfl, e129, e130, (ctr_next hl22 hr21), (ctr_rng hl22 hr21), hS124⟩
      · intro s139 f135 wd136 hs137 hI138
        obtain ⟨⟩ := s139
        replace hI138 : f135 0 = v_a ∧ f135 1 = v_b ∧ f135 5 = Value.int .i64 (((a).length : Nat) : Int) ∧ InR .i64 (((a).length : Nat) : Int) ∧ St w wd136 [] := hI138
        obtain ⟨hf140, hf141, hf142, hr143, hS144⟩ := hI138
        refine W.seq (W.seq (W.region ?_))
        refine WL.val (Value.int .i64 (((a).length : Nat) : Int)) _ (op_move hf142) rfl ?_
        refine WL.val v_a _ (op_move hf140) rfl ?_
        have hr145 := inR_len (Ty.lift _ hS144.ext r_a)
        refine WL.val (Value.int .i64 ((a).length : Int)) _ (op_lenL sl_22 (Ty.lift _ hS144.ext r_a) rfl) rfl ?_
        refine WL.val (Value.bool (decide ((((a).length : Nat) : Int) < ((a).length : Int)))) _ (op_lss rfl rfl) rfl ?_
        have hl146 : ¬ (((a).length : Nat) : Int) < ((a).length : Int) := by omega
        refine WL.nil ?_
        show W _ _ _ _ _ _
        refine W.condF (decide ((((a).length : Nat) : Int) < ((a).length : Int))) rfl (decide_eq_false hl146) ?_
        refine W.exit ?_
        show _ = _ ∧ _
        exact ⟨rfl, _, hs137, hS144⟩
    · rintro f147 wd148 ⟨s150, rfl, hq149⟩
      replace h := onRes_fin h
      obtain ⟨⟩ := s150
      replace hq149 : St w wd148 [] := hq149
      have hS151 := hq149
      show W _ _ _ _ _ _
      refine W.seq (W.region ?_)
      refine WL.val (Value.bool true) _ (op_assign rfl) rfl ?_
      refine WL.nil ?_
      show W _ _ _ _ _ _
      refine W.ret ?_
      obtain rfl := Option.some.inj h
      show FinP _ _ _ _ _ _ _
      exact FinP.ret _ (res1 rfl rfl) ⟨rfl, hS151.ext⟩

theorem c_laws_eqInt64SS {w : World} {a : (List (List Int))} {v_a : Value} {b : (List (List Int))} {v_b : Value} (r_a : (Ty.sl (Ty.sl (Ty.i .i64))).rep w v_a a) (r_b : (Ty.sl (Ty.sl (Ty.i .i64))).rep w v_b b) {res : Bool} (h : p_laws_eqInt64SS a b  = some res) :
    Ret Try.prog 23 #[v_a, v_b] w (fun v w' => v = Value.bool res ∧ Ext w w') := by
  unfold p_laws_eqInt64SS at h
  have hS0 : St w w [] := St.start w
  refine Ret.start (fn := Try.f23) Try.func23 rfl 27 rfl rfl ?_
  refine W.seq (W.region ?_)
  refine WL.val (Value.bool false) _ (op_assign rfl) rfl ?_
  refine WL.nil ?_
  show W _ _ _ _ _ _
  refine W.seq (W.seq (W.region ?_))
  refine WL.val v_a _ (op_move rfl) rfl ?_
  have hr1 := inR_len (Ty.lift _ hS0.ext r_a)
  refine WL.val (Value.int .i64 ((a).length : Int)) _ (op_lenL sl_26 (Ty.lift _ hS0.ext r_a) rfl) rfl ?_
  refine WL.val v_b _ (op_move rfl) rfl ?_
  have hr2 := inR_len (Ty.lift _ hS0.ext r_b)
  refine WL.val (Value.int .i64 ((b).length : Int)) _ (op_lenL sl_26 (Ty.lift _ hS0.ext r_b) rfl) rfl ?_
  refine WL.val (Value.bool (((a).length : Int) != ((b).length : Int))) _ (op_neq rfl rfl) rfl ?_
  refine WL.nil ?_
  show W _ _ _ _ _ _
  refine W.cond (((a).length : Int) != ((b).length : Int)) rfl (fun hc3 => ?_) (fun hc3 => ?_)
  · replace h := ip h hc3
    refine W.seq (W.region ?_)
    refine WL.val (Value.bool false) _ (op_assign rfl) rfl ?_
    refine WL.nil ?_
    show W _ _ _ _ _ _
    refine W.ret ?_
    obtain rfl := Option.some.inj h
    show FinP _ _ _ _ _ _ _
    exact FinP.ret _ (res1 rfl rfl) ⟨rfl, hS0.ext⟩
  · replace h := inegb h hc3
    refine W.skip ?_
    show W _ _ _ _ _ _
    refine W.seq (W.seq (W.region ?_))
    refine WL.val (Value.int .i64 (0 : Int)) _ (op_assign rfl) rfl ?_
    refine WL.nil ?_
    show W _ _ _ _ _ _
    obtain ⟨res5, hres6, h⟩ := bs h
    refine W.blockLoop (fun fq wq => ∃ s, res5 = Res.fin s ∧ St w wq []) ?_ ?_
    · refine W.forN (fun k (s : Unit) fq wq => fq 0 = v_a ∧ fq 1 = v_b ∧ fq 5 = Value.int .i64 (k : Int) ∧ InR .i64 (k : Int) ∧ St w wq []) hres6 ⟨rfl, rfl, rfl, (inR_i64.2 (show (-9223372036854775808 : Int) ≤ 0 ∧ (0 : Int) ≤ 9223372036854775807 from by decide)), hS0⟩ ?_ ?_
      · intro k7 s138 ct8 f9 wd10 hk11 hb12 hI13 hbrk14 hret15
        obtain ⟨⟩ := s138
        replace hI13 : f9 0 = v_a ∧ f9 1 = v_b ∧ f9 5 = Value.int .i64 (k7 : Int) ∧ InR .i64 (k7 : Int) ∧ St w wd10 [] := hI13
        replace hb12 : p_laws_eqInt64SS_L1 a b k7  = some ct8 := hb12
        unfold p_laws_eqInt64SS_L1 at hb12
        obtain ⟨hf16, hf17, hf18, hr19, hS20⟩ := hI13
        refine W.seq (W.seq (W.region ?_))
        refine WL.val (Value.int .i64 (k7 : Int)) _ (op_move hf18) rfl ?_
        refine WL.val v_a _ (op_move hf16) rfl ?_
        have hr21 := inR_len (Ty.lift _ hS20.ext r_a)
        refine WL.val (Value.int .i64 ((a).length : Int)) _ (op_lenL sl_26 (Ty.lift _ hS20.ext r_a) rfl) rfl ?_
        refine WL.val (Value.bool (decide ((k7 : Int) < ((a).length : Int)))) _ (op_lss rfl rfl) rfl ?_
        have hl22 : (k7 : Int) < ((a).length : Int) := by omega
        refine WL.nil ?_
        show W _ _ _ _ _ _
        refine W.condT (decide ((k7 : Int) < ((a).length : Int))) rfl (decide_eq_true hl22) ?_
        refine W.skip ?_
        show W _ _ _ _ _ _
        refine W.seq ?_
        refine W.block ?_
        refine W.seq ?_
        obtain ⟨x53, hx56, hb12⟩ := bs hb12
        obtain ⟨ha54, hb55, hx56⟩ := idx_some hx56
        obtain ⟨u67, hc68, hr69⟩ := repSl.el r_a hx56
        obtain ⟨x99, hx102, hb12⟩ := bs hb12
        obtain ⟨ha100, hb101, hx102⟩ := idx_some hx102
        obtain ⟨u113, hc114, hr115⟩ := repSl.el r_b hx102
        refine W.drawR mixo 8 [] [fun _ v _ _ => v = v_a, fun _ v _ _ => v = (Value.int .i64 (k7 : Int)) ∧ InR .i64 (k7 : Int), fun _ v _ _ => v = (Value.pointer (some (elA v_a ((k7 : Int)).toNat))), fun _ v _ _ => v = u67, fun _ v _ _ => v = v_b, fun _ v _ _ => v = (Value.int .i64 (k7 : Int)) ∧ InR .i64 (k7 : Int), fun _ v _ _ => v = (Value.pointer (some (elA v_b ((k7 : Int)).toNat))), fun _ v _ _ => v = u113] (by kernel_rfl) (by kernel_rfl) ⟨⟨fun _ _ _ _ _ _ h => h, fun _ _ _ _ _ _ h => h⟩, ⟨fun _ _ _ _ _ _ h => h, fun _ _ _ _ _ _ h => h⟩, ⟨fun _ _ _ _ _ _ h => h, fun _ _ _ _ _ _ h => h⟩, ⟨fun _ _ _ _ _ _ h => h, fun _ _ _ _ _ _ h => h⟩, ⟨fun _ _ _ _ _ _ h => h, fun _ _ _ _ _ _ h => h⟩, ⟨fun _ _ _ _ _ _ h => h, fun _ _ _ _ _ _ h => h⟩, ⟨fun _ _ _ _ _ _ h => h, fun _ _ _ _ _ _ h => h⟩, ⟨fun _ _ _ _ _ _ h => h, fun _ _ _ _ _ _ h => h⟩, trivial⟩ ⟨?_, ?_, ?_, ?_, ?_, ?_, ?_, ?_, trivial⟩ ?_
        · refine ObX.op rfl ?_
          intro f24 wd25 he26 hout27 hphi28
          have hS29 : St w wd25 [] := St.extend hS20 he26
          have e30 : f24 0 = v_a := (hout27 0 rfl).trans hf16
          exact OpX.val v_a wd25 rfl (op_move e30) (Ext.refl _) rfl
        · refine ObX.op rfl ?_
          intro f31 wd32 he33 hout34 hphi35
          have hS36 : St w wd32 [] := St.extend hS20 he33
          have e37 : f31 5 = (Value.int .i64 (k7 : Int)) := (hout34 5 rfl).trans hf18
          exact OpX.val (Value.int .i64 (k7 : Int)) wd32 rfl (op_move e37) (Ext.refl _) ⟨rfl, hr19⟩
        · refine ObX.op rfl ?_
          intro f38 wd39 he40 hout41 hphi42
          have hS43 : St w wd39 [] := St.extend hS20 he40
          obtain ⟨S44, hS45, hf46⟩ := hphi42 0 17 _ rfl rfl rfl
          have e47 : f38 17 = v_a := hf46
          obtain ⟨S48, hS49, hf50⟩ := hphi42 1 18 _ rfl rfl rfl
          obtain ⟨e51, hr52⟩ : f38 18 = (Value.int .i64 (k7 : Int)) ∧ InR .i64 (k7 : Int) := hf50
          exact OpX.val (Value.pointer (some (elA v_a ((k7 : Int)).toNat))) wd39 rfl (op_idx sl_26 (Ty.lift _ hS43.ext r_a) e47 e51 ha54 hb55) (Ext.refl _) rfl
        · refine ObX.op rfl ?_
          intro f57 wd58 he59 hout60 hphi61
          have hS62 : St w wd58 [] := St.extend hS20 he59
          obtain ⟨S63, hS64, hf65⟩ := hphi61 2 19 _ rfl rfl rfl
          have e66 : f57 19 = (Value.pointer (some (elA v_a ((k7 : Int)).toNat))) := hf65
          exact OpX.val u67 wd58 rfl (op_load one_22 e66 (Ext.cell hS62.ext hc68)) (Ext.refl _) rfl
        · refine ObX.op rfl ?_
          intro f70 wd71 he72 hout73 hphi74
          have hS75 : St w wd71 [] := St.extend hS20 he72
          have e76 : f70 1 = v_b := (hout73 1 rfl).trans hf17
          exact OpX.val v_b wd71 rfl (op_move e76) (Ext.refl _) rfl
        · refine ObX.op rfl ?_
          intro f77 wd78 he79 hout80 hphi81
          have hS82 : St w wd78 [] := St.extend hS20 he79
          have e83 : f77 5 = (Value.int .i64 (k7 : Int)) := (hout80 5 rfl).trans hf18
          exact OpX.val (Value.int .i64 (k7 : Int)) wd78 rfl (op_move e83) (Ext.refl _) ⟨rfl, hr19⟩
        · refine ObX.op rfl ?_
          intro f84 wd85 he86 hout87 hphi88
          have hS89 : St w wd85 [] := St.extend hS20 he86
          obtain ⟨S90, hS91, hf92⟩ := hphi88 4 21 _ rfl rfl rfl
          have e93 : f84 21 = v_b := hf92
          obtain ⟨S94, hS95, hf96⟩ := hphi88 5 22 _ rfl rfl rfl
          obtain ⟨e97, hr98⟩ : f84 22 = (Value.int .i64 (k7 : Int)) ∧ InR .i64 (k7 : Int) := hf96
          exact OpX.val (Value.pointer (some (elA v_b ((k7 : Int)).toNat))) wd85 rfl (op_idx sl_26 (Ty.lift _ hS89.ext r_b) e93 e97 ha100 hb101) (Ext.refl _) rfl
        · refine ObX.op rfl ?_
          intro f103 wd104 he105 hout106 hphi107
          have hS108 : St w wd104 [] := St.extend hS20 he105
          obtain ⟨S109, hS110, hf111⟩ := hphi107 6 23 _ rfl rfl rfl
          have e112 : f103 23 = (Value.pointer (some (elA v_b ((k7 : Int)).toNat))) := hf111
          exact OpX.val u113 wd104 rfl (op_load one_22 e112 (Ext.cell hS108.ext hc114)) (Ext.refl _) rfl
        · intro f116 wd117 Ss118 he119 hout120 hSn121 hSd122 hphi123
          show WL _ _ _ _ _ _ _
          have hS124 : St w wd117 [] := St.extend hS20 he119
          have e125 : f116 20 = u67 := hphi123 3 20 _ (by decide) rfl rfl
          have e126 : f116 24 = u113 := hphi123 7 24 _ (by decide) rfl rfl
          have e127 : f116 0 = v_a := (hout120 0 rfl).trans hf16
          have e128 : f116 1 = v_b := (hout120 1 rfl).trans hf17
          have e129 : f116 5 = (Value.int .i64 (k7 : Int)) := (hout120 5 rfl).trans hf18
          obtain ⟨x130, hx131, hb12⟩ := bs hb12
          refine WL.call _ (op_call fn_11 (args2 e125 e126)) (c_laws_eqInt64S (Ty.lift _ hS124.ext hr69) (Ty.lift _ hS124.ext hr115) hx131) rfl ?_
          rintro _ wd132 ⟨rfl, he133⟩
          have hS135 := St.extend hS124 he133
          replace hS135 : St w wd132 [] := hS135
          refine WL.val (Value.bool (!x130)) _ (op_not rfl) rfl ?_
          refine WL.nil ?_
          show W _ _ _ _ _ _
          refine W.cond (!x130) rfl (fun hc136 => ?_) (fun hc136 => ?_)
          · replace hb12 := ip hb12 hc136
            refine W.seq (W.region ?_)
            refine WL.val (Value.bool false) _ (op_assign rfl) rfl ?_
            refine WL.nil ?_
            show W _ _ _ _ _ _
            refine W.ret ?_
            obtain rfl := Option.some.inj hb12
            obtain rfl := hret15 _ rfl
            replace h := onRes_ret h
            obtain rfl := Option.some.inj h
            show FinP _ _ _ _ _ _ _
            exact FinP.ret _ (res1 rfl rfl) ⟨rfl, hS135.ext⟩
          · replace hb12 := inegb hb12 hc136
            refine W.skip ?_
            show W _ _ _ _ _ _
            refine W.region ?_
            refine WL.val (Value.int .i64 (k7 : Int)) _ (op_move e129) rfl ?_
            refine WL.val (Value.int .i64 (w64 ((k7 : Int) + (1 : Int)))) _ (op_add rfl rfl) rfl ?_
            refine WL.val (Value.int .i64 (w64 ((k7 : Int) + (1 : Int)))) _ (op_assign rfl) rfl ?_
            refine WL.nil ?_
            obtain rfl := Option.some.inj hb12
            show ∃ s, _ = Ctl.next s ∧ _
            exact ⟨_, rfl, e127, e128, (ctr_next hl22 hr21), (ctr_rng hl22 hr21), hS135⟩
      · intro s143 f139 wd140 hs141 hI142
        obtain ⟨⟩ := s143
        replace hI142 : f139 0 = v_a ∧ f139 1 = v_b ∧ f139 5 = Value.int .i64 (((a).length : Nat) : Int) ∧ InR .i64 (((a).length : Nat) : Int) ∧ St w wd140 [] := hI142
        obtain ⟨hf144, hf145, hf146, hr147, hS148⟩ := hI142
        refine W.seq (W.seq (W.region ?_))
        refine WL.val (Value.int .i64 (((a).length : Nat) : Int)) _ (op_move hf146) rfl ?_
        refine WL.val v_a _ (op_move hf144) rfl ?_
        have hr149 := inR_len (Ty.lift _ hS148.ext r_a)
        refine WL.val (Value.int .i64 ((a).length : Int)) _ (op_lenL sl_26 (Ty.lift _ hS148.ext r_a) rfl) rfl ?_
        refine WL.val (Value.bool (decide ((((a).length : Nat) : Int) < ((a).length : Int)))) _ (op_lss rfl rfl) rfl ?_
        have hl150 : ¬ (((a).length : Nat) : Int) < ((a).length : Int) := by omega
        refine WL.nil ?_
        show W _ _ _ _ _ _
        refine W.condF (decide ((((a).length : Nat) : Int) < ((a).length : Int))) rfl (decide_eq_false hl150) ?_
        refine W.exit ?_
        show _ = _ ∧ _
        exact ⟨rfl, _, hs141, hS148⟩
    · rintro f151 wd152 ⟨s154, rfl, hq153⟩
      replace h := onRes_fin h
      obtain ⟨⟩ := s154
      replace hq153 : St w wd152 [] := hq153
      have hS155 := hq153
      show W _ _ _ _ _ _
      refine W.seq (W.region ?_)
      refine WL.val (Value.bool true) _ (op_assign rfl) rfl ?_
      refine WL.nil ?_
      show W _ _ _ _ _ _
      refine W.ret ?_
      obtain rfl := Option.some.inj h
      show FinP _ _ _ _ _ _ _
      exact FinP.ret _ (res1 rfl rfl) ⟨rfl, hS155.ext⟩

theorem c_laws_eqInt64SSS {w : World} {a : (List (List (List Int)))} {v_a : Value} {b : (List (List (List Int)))} {v_b : Value} (r_a : (Ty.sl (Ty.sl (Ty.sl (Ty.i .i64)))).rep w v_a a) (r_b : (Ty.sl (Ty.sl (Ty.sl (Ty.i .i64)))).rep w v_b b) {res : Bool} (h : p_laws_eqInt64SSS a b  = some res) :
    Ret Try.prog 66 #[v_a, v_b] w (fun v w' => v = Value.bool res ∧ Ext w w') := by
  unfold p_laws_eqInt64SSS at h
  have hS0 : St w w [] := St.start w
  refine Ret.start (fn := Try.f66) Try.func66 rfl 27 rfl rfl ?_
  refine W.seq (W.region ?_)
  refine WL.val (Value.bool false) _ (op_assign rfl) rfl ?_
  refine WL.nil ?_
  show W _ _ _ _ _ _
  refine W.seq (W.seq (W.region ?_))
  refine WL.val v_a _ (op_move rfl) rfl ?_
  have hr1 := inR_len (Ty.lift _ hS0.ext r_a)
  refine WL.val (Value.int .i64 ((a).length : Int)) _ (op_lenL sl_23 (Ty.lift _ hS0.ext r_a) rfl) rfl ?_
  refine WL.val v_b _ (op_move rfl) rfl ?_
  have hr2 := inR_len (Ty.lift _ hS0.ext r_b)
  refine WL.val (Value.int .i64 ((b).length : Int)) _ (op_lenL sl_23 (Ty.lift _ hS0.ext r_b) rfl) rfl ?_
  refine WL.val (Value.bool (((a).length : Int) != ((b).length : Int))) _ (op_neq rfl rfl) rfl ?_
  refine WL.nil ?_
  show W _ _ _ _ _ _
  refine W.cond (((a).length : Int) != ((b).length : Int)) rfl (fun hc3 => ?_) (fun hc3 => ?_)
  · replace h := ip h hc3
    refine W.seq (W.region ?_)
    refine WL.val (Value.bool false) _ (op_assign rfl) rfl ?_
    refine WL.nil ?_
    show W _ _ _ _ _ _
    refine W.ret ?_
    obtain rfl := Option.some.inj h
    show FinP _ _ _ _ _ _ _
    exact FinP.ret _ (res1 rfl rfl) ⟨rfl, hS0.ext⟩
  · replace h := inegb h hc3
    refine W.skip ?_
    show W _ _ _ _ _ _
    refine W.seq (W.seq (W.region ?_))
    refine WL.val (Value.int .i64 (0 : Int)) _ (op_assign rfl) rfl ?_
    refine WL.nil ?_
    show W _ _ _ _ _ _
    obtain ⟨res5, hres6, h⟩ := bs h
    refine W.blockLoop (fun fq wq => ∃ s, res5 = Res.fin s ∧ St w wq []) ?_ ?_
    · refine W.forN (fun k (s : Unit) fq wq => fq 0 = v_a ∧ fq 1 = v_b ∧ fq 5 = Value.int .i64 (k : Int) ∧ InR .i64 (k : Int) ∧ St w wq []) hres6 ⟨rfl, rfl, rfl, (inR_i64.2 (show (-9223372036854775808 : Int) ≤ 0 ∧ (0 : Int) ≤ 9223372036854775807 from by decide)), hS0⟩ ?_ ?_
      · intro k7 s138 ct8 f9 wd10 hk11 hb12 hI13 hbrk14 hret15
        obtain ⟨⟩ := s138
        replace hI13 : f9 0 = v_a ∧ f9 1 = v_b ∧ f9 5 = Value.int .i64 (k7 : Int) ∧ InR .i64 (k7 : Int) ∧ St w wd10 [] := hI13
        replace hb12 : p_laws_eqInt64SSS_L1 a b k7  = some ct8 := hb12
        unfold p_laws_eqInt64SSS_L1 at hb12
        obtain ⟨hf16, hf17, hf18, hr19, hS20⟩ := hI13
        refine W.seq (W.seq (W.region ?_))
        refine WL.val (Value.int .i64 (k7 : Int)) _ (op_move hf18) rfl ?_
        refine WL.val v_a _ (op_move hf16) rfl ?_
        have hr21 := inR_len (Ty.lift _ hS20.ext r_a)
        refine WL.val (Value.int .i64 ((a).length : Int)) _ (op_lenL sl_23 (Ty.lift _ hS20.ext r_a) rfl) rfl ?_
        refine WL.val (Value.bool (decide ((k7 : Int) < ((a).length : Int)))) _ (op_lss rfl rfl) rfl ?_
        have hl22 : (k7 : Int) < ((a).length : Int) := by omega
        refine WL.nil ?_
        show W _ _ _ _ _ _
        refine W.condT (decide ((k7 : Int) < ((a).length : Int))) rfl (decide_eq_true hl22) ?_
        refine W.skip ?_
        show W _ _ _ _ _ _
        refine W.seq ?_
        refine W.block ?_
        refine W.seq ?_
        obtain ⟨x53, hx56, hb12⟩ := bs hb12
        obtain ⟨ha54, hb55, hx56⟩ := idx_some hx56
        obtain ⟨u67, hc68, hr69⟩ := repSl.el r_a hx56
        obtain ⟨x99, hx102, hb12⟩ := bs hb12
        obtain ⟨ha100, hb101, hx102⟩ := idx_some hx102
        obtain ⟨u113, hc114, hr115⟩ := repSl.el r_b hx102
        refine W.drawR mixo 8 [] [fun _ v _ _ => v = v_a, fun _ v _ _ => v = (Value.int .i64 (k7 : Int)) ∧ InR .i64 (k7 : Int), fun _ v _ _ => v = (Value.pointer (some (elA v_a ((k7 : Int)).toNat))), fun _ v _ _ => v = u67, fun _ v _ _ => v = v_b, fun _ v _ _ => v = (Value.int .i64 (k7 : Int)) ∧ InR .i64 (k7 : Int), fun _ v _ _ => v = (Value.pointer (some (elA v_b ((k7 : Int)).toNat))), fun _ v _ _ => v = u113] (by kernel_rfl) (by kernel_rfl) ⟨⟨fun _ _ _ _ _ _ h => h, fun _ _ _ _ _ _ h => h⟩, ⟨fun _ _ _ _ _ _ h => h, fun _ _ _ _ _ _ h => h⟩, ⟨fun _ _ _ _ _ _ h => h, fun _ _ _ _ _ _ h => h⟩, ⟨fun _ _ _ _ _ _ h => h, fun _ _ _ _ _ _ h => h⟩, ⟨fun _ _ _ _ _ _ h => h, fun _ _ _ _ _ _ h => h⟩, ⟨fun _ _ _ _ _ _ h => h, fun _ _ _ _ _ _ h => h⟩, ⟨fun _ _ _ _ _ _ h => h, fun _ _ _ _ _ _ h => h⟩, ⟨fun _ _ _ _ _ _ h => h, fun _ _ _ _ _ _ h => h⟩, trivial⟩ ⟨?_, ?_, ?_, ?_, ?_, ?_, ?_, ?_, trivial⟩ ?_
        · refine ObX.op rfl ?_
          intro f24 wd25 he26 hout27 hphi28
          have hS29 : St w wd25 [] := St.extend hS20 he26
          have e30 : f24 0 = v_a := (hout27 0 rfl).trans hf16
          exact OpX.val v_a wd25 rfl (op_move e30) (Ext.refl _) rfl
        · refine ObX.op rfl ?_
          intro f31 wd32 he33 hout34 hphi35
          have hS36 : St w wd32 [] := St.extend hS20 he33
          have e37 : f31 5 = (Value.int .i64 (k7 : Int)) := (hout34 5 rfl).trans hf18
          exact OpX.val (Value.int .i64 (k7 : Int)) wd32 rfl (op_move e37) (Ext.refl _) ⟨rfl, hr19⟩
        · refine ObX.op rfl ?_
          intro f38 wd39 he40 hout41 hphi42
          have hS43 : St w wd39 [] := St.extend hS20 he40
          obtain ⟨S44, hS45, hf46⟩ := hphi42 0 17 _ rfl rfl rfl
          have e47 : f38 17 = v_a := hf46
          obtain ⟨S48, hS49, hf50⟩ := hphi42 1 18 _ rfl rfl rfl
          obtain ⟨e51, hr52⟩ : f38 18 = (Value.int .i64 (k7 : Int)) ∧ InR .i64 (k7 : Int) := hf50
          exact OpX.val (Value.pointer (some (elA v_a ((k7 : Int)).toNat))) wd39 rfl (op_idx sl_23 (Ty.lift _ hS43.ext r_a) e47 e51 ha54 hb55) (Ext.refl _) rfl
        · refine ObX.op rfl ?_
          intro f57 wd58 he59 hout60 hphi61
          have hS62 : St w wd58 [] := St.extend hS20 he59
          obtain ⟨S63, hS64, hf65⟩ := hphi61 2 19 _ rfl rfl rfl
          have e66 : f57 19 = (Value.pointer (some (elA v_a ((k7 : Int)).toNat))) := hf65
          exact OpX.val u67 wd58 rfl (op_load one_26 e66 (Ext.cell hS62.ext hc68)) (Ext.refl _) rfl
        · refine ObX.op rfl ?_
          intro f70 wd71 he72 hout73 hphi74
          have hS75 : St w wd71 [] := St.extend hS20 he72
          have e76 : f70 1 = v_b := (hout73 1 rfl).trans hf17
          exact OpX.val v_b wd71 rfl (op_move e76) (Ext.refl _) rfl
        · refine ObX.op rfl ?_
          intro f77 wd78 he79 hout80 hphi81
          have hS82 : St w wd78 [] := St.extend hS20 he79
          have e83 : f77 5 = (Value.int .i64 (k7 : Int)) := (hout80 5 rfl).trans hf18
          exact OpX.val (Value.int .i64 (k7 : Int)) wd78 rfl (op_move e83) (Ext.refl _) ⟨rfl, hr19⟩
        · refine ObX.op rfl ?_
          intro f84 wd85 he86 hout87 hphi88
          have hS89 : St w wd85 [] := St.extend hS20 he86
          obtain ⟨S90, hS91, hf92⟩ := hphi88 4 21 _ rfl rfl rfl
          have e93 : f84 21 = v_b := hf92
          obtain ⟨S94, hS95, hf96⟩ := hphi88 5 22 _ rfl rfl rfl
          obtain ⟨e97, hr98⟩ : f84 22 = (Value.int .i64 (k7 : Int)) ∧ InR .i64 (k7 : Int) := hf96
          exact OpX.val (Value.pointer (some (elA v_b ((k7 : Int)).toNat))) wd85 rfl (op_idx sl_23 (Ty.lift _ hS89.ext r_b) e93 e97 ha100 hb101) (Ext.refl _) rfl
        · refine ObX.op rfl ?_
          intro f103 wd104 he105 hout106 hphi107
          have hS108 : St w wd104 [] := St.extend hS20 he105
          obtain ⟨S109, hS110, hf111⟩ := hphi107 6 23 _ rfl rfl rfl
          have e112 : f103 23 = (Value.pointer (some (elA v_b ((k7 : Int)).toNat))) := hf111
          exact OpX.val u113 wd104 rfl (op_load one_26 e112 (Ext.cell hS108.ext hc114)) (Ext.refl _) rfl
        · intro f116 wd117 Ss118 he119 hout120 hSn121 hSd122 hphi123
          show WL _ _ _ _ _ _ _
          have hS124 : St w wd117 [] := St.extend hS20 he119
          have e125 : f116 20 = u67 := hphi123 3 20 _ (by decide) rfl rfl
          have e126 : f116 24 = u113 := hphi123 7 24 _ (by decide) rfl rfl
          have e127 : f116 0 = v_a := (hout120 0 rfl).trans hf16
          have e128 : f116 1 = v_b := (hout120 1 rfl).trans hf17
          have e129 : f116 5 = (Value.int .i64 (k7 : Int)) := (hout120 5 rfl).trans hf18
          obtain ⟨x130, hx131, hb12⟩ := bs hb12
          refine WL.call _ (op_call fn_23 (args2 e125 e126)) (c_laws_eqInt64SS (Ty.lift _ hS124.ext hr69) (Ty.lift _ hS124.ext hr115) hx131) rfl ?_
          rintro _ wd132 ⟨rfl, he133⟩
          have hS135 := St.extend hS124 he133
          replace hS135 : St w wd132 [] := hS135
          refine WL.val (Value.bool (!x130)) _ (op_not rfl) rfl ?_
          refine WL.nil ?_
          show W _ _ _ _ _ _
          refine W.cond (!x130) rfl (fun hc136 => ?_) (fun hc136 => ?_)
          · replace hb12 := ip hb12 hc136
            refine W.seq (W.region ?_)
            refine WL.val (Value.bool false) _ (op_assign rfl) rfl ?_
            refine WL.nil ?_
            show W _ _ _ _ _ _
            refine W.ret ?_
            obtain rfl := Option.some.inj hb12
            obtain rfl := hret15 _ rfl
            replace h := onRes_ret h
            obtain rfl := Option.some.inj h
            show FinP _ _ _ _ _ _ _
            exact FinP.ret _ (res1 rfl rfl) ⟨rfl, hS135.ext⟩
          · replace hb12 := inegb hb12 hc136
            refine W.skip ?_
            show W _ _ _ _ _ _
            refine W.region ?_
            refine WL.val (Value.int .i64 (k7 : Int)) _ (op_move e129) rfl ?_
            refine WL.val (Value.int .i64 (w64 ((k7 : Int) + (1 : Int)))) _ (op_add rfl rfl) rfl ?_
            refine WL.val (Value.int .i64 (w64 ((k7 : Int) + (1 : Int)))) _ (op_assign rfl) rfl ?_
            refine WL.nil ?_
            obtain rfl := Option.some.inj hb12
            show ∃ s, _ = Ctl.next s ∧ _
            exact ⟨_, rfl, e127, e128, (ctr_next hl22 hr21), (ctr_rng hl22 hr21), hS135⟩
      · intro s143 f139 wd140 hs141 hI142
        obtain ⟨⟩ := s143
        replace hI142 : f139 0 = v_a ∧ f139 1 = v_b ∧ f139 5 = Value.int .i64 (((a).length : Nat) : Int) ∧ InR .i64 (((a).length : Nat) : Int) ∧ St w wd140 [] := hI142
        obtain ⟨hf144, hf145, hf146, hr147, hS148⟩ := hI142
        refine W.seq (W.seq (W.region ?_))
        refine WL.val (Value.int .i64 (((a).length : Nat) : Int)) _ (op_move hf146) rfl ?_
        refine WL.val v_a _ (op_move hf144) rfl ?_
        have hr149 := inR_len (Ty.lift _ hS148.ext r_a)
        refine WL.val (Value.int .i64 ((a).length : Int)) _ (op_lenL sl_23 (Ty.lift _ hS148.ext r_a) rfl) rfl ?_
        refine WL.val (Value.bool (decide ((((a).length : Nat) : Int) < ((a).length : Int)))) _ (op_lss rfl rfl) rfl ?_
        have hl150 : ¬ (((a).length : Nat) : Int) < ((a).length : Int) := by omega
        refine WL.nil ?_
        show W _ _ _ _ _ _
        refine W.condF (decide ((((a).length : Nat) : Int) < ((a).length : Int))) rfl (decide_eq_false hl150) ?_
        refine W.exit ?_
        show _ = _ ∧ _
        exact ⟨rfl, _, hs141, hS148⟩
    · rintro f151 wd152 ⟨s154, rfl, hq153⟩
      replace h := onRes_fin h
      obtain ⟨⟩ := s154
      replace hq153 : St w wd152 [] := hq153
      have hS155 := hq153
      show W _ _ _ _ _ _
      refine W.seq (W.region ?_)
      refine WL.val (Value.bool true) _ (op_assign rfl) rfl ?_
      refine WL.nil ?_
      show W _ _ _ _ _ _
      refine W.ret ?_
      obtain rfl := Option.some.inj h
      show FinP _ _ _ _ _ _ _
      exact FinP.ret _ (res1 rfl rfl) ⟨rfl, hS155.ext⟩

theorem c_laws_eqCocycle {w : World} {a_Orders : (List Int)} {v_a_Orders : Value} {a_Modulus : Int} {a_Values : (List (List (List Int)))} {v_a_Values : Value} {b_Orders : (List Int)} {v_b_Orders : Value} {b_Modulus : Int} {b_Values : (List (List (List Int)))} {v_b_Values : Value} (r_a_Orders : (Ty.sl (Ty.i .i64)).rep w v_a_Orders a_Orders) (r_a_Modulus : InR .i64 a_Modulus) (r_a_Values : (Ty.sl (Ty.sl (Ty.sl (Ty.i .i64)))).rep w v_a_Values a_Values) (r_b_Orders : (Ty.sl (Ty.i .i64)).rep w v_b_Orders b_Orders) (r_b_Modulus : InR .i64 b_Modulus) (r_b_Values : (Ty.sl (Ty.sl (Ty.sl (Ty.i .i64)))).rep w v_b_Values b_Values) {res : Bool} (h : p_laws_eqCocycle a_Orders a_Modulus a_Values b_Orders b_Modulus b_Values  = some res) :
    Ret Try.prog 30 #[(Value.agg #[v_a_Orders, (Value.int .i64 a_Modulus), v_a_Values]), (Value.agg #[v_b_Orders, (Value.int .i64 b_Modulus), v_b_Values])] w (fun v w' => v = Value.bool res ∧ Ext w w') := by
  unfold p_laws_eqCocycle at h
  have hS0 : St w w [] := St.start w
  refine Ret.start (fn := Try.f30) Try.func30 rfl 22 rfl rfl ?_
  refine W.seq (W.region ?_)
  refine WL.box hS0 rfl (cs := [v_a_Orders, (Value.int .i64 a_Modulus), v_a_Values]) rfl rfl ?_
  intro b1 wd2 hS3 he4 hx5
  replace hS3 : St w wd2 [bx b1 [v_a_Orders, (Value.int .i64 a_Modulus), v_a_Values]] := hS3
  have hx6 := St.boxAt hS3 0 rfl
  have hE7 : Ext w wd2 := hS3.ext
  have hS8 : St wd2 wd2 [] := St.start wd2
  refine WL.box hS8 rfl (cs := [v_b_Orders, (Value.int .i64 b_Modulus), v_b_Values]) rfl rfl ?_
  intro b9 wd10 hS11 he12 hx13
  replace hS11 : St wd2 wd10 [bx b9 [v_b_Orders, (Value.int .i64 b_Modulus), v_b_Values]] := hS11
  have hx14 := St.boxAt hS11 0 rfl
  have hE15 : Ext w wd10 := (Ext.trans hE7 hS11.ext)
  have hE16 : Ext wd2 wd10 := hS11.ext
  have hS17 : St wd10 wd10 [] := St.start wd10
  refine WL.val (Value.bool false) _ (op_assign rfl) rfl ?_
  refine WL.nil ?_
  show W _ _ _ _ _ _
  refine W.seq (W.seq (W.region ?_))
  refine WL.val (Value.pointer (some ⟨b1, 0, none⟩)) _ (op_fieldAddr fd_32_0 rfl) rfl ?_
  refine WL.val v_a_Orders _ (op_load one_22 rfl (BoxAt.cell (BoxAt.lift (Ext.trans hE16 hS17.ext) hx6) rfl)) rfl ?_
  refine WL.val (Value.pointer (some ⟨b9, 0, none⟩)) _ (op_fieldAddr fd_32_0 rfl) rfl ?_
  refine WL.val v_b_Orders _ (op_load one_22 rfl (BoxAt.cell (BoxAt.lift hS17.ext hx14) rfl)) rfl ?_
  obtain ⟨x18, hx19, h⟩ := bs h
  refine WL.call _ (op_call fn_11 (args2 rfl rfl)) (c_laws_eqInt64S (Ty.lift _ (Ext.trans hE15 hS17.ext) r_a_Orders) (Ty.lift _ (Ext.trans hE15 hS17.ext) r_b_Orders) hx19) rfl ?_
  rintro _ wd20 ⟨rfl, he21⟩
  have hS23 := St.extend hS17 he21
  replace hS23 : St wd10 wd20 [] := hS23
  refine WL.val (Value.bool (!x18)) _ (op_not rfl) rfl ?_
  refine WL.nil ?_
  show W _ _ _ _ _ _
  refine W.cond (!x18) rfl (fun hc24 => ?_) (fun hc24 => ?_)
  · replace h := ip h hc24
    refine W.seq (W.region ?_)
    refine WL.val (Value.bool false) _ (op_assign rfl) rfl ?_
    refine WL.nil ?_
    show W _ _ _ _ _ _
    refine W.ret ?_
    obtain rfl := Option.some.inj h
    show FinP _ _ _ _ _ _ _
    exact FinP.ret _ (res1 rfl rfl) ⟨rfl, (Ext.trans hE15 hS23.ext)⟩
  · replace h := inegb h hc24
    refine W.skip ?_
    show W _ _ _ _ _ _
    refine W.seq (W.seq (W.region ?_))
    refine WL.val (Value.pointer (some ⟨b1, 1, none⟩)) _ (op_fieldAddr fd_32_1 rfl) rfl ?_
    refine WL.val (Value.int .i64 a_Modulus) _ (op_load one_2 rfl (BoxAt.cell (BoxAt.lift (Ext.trans hE16 hS23.ext) hx6) rfl)) rfl ?_
    refine WL.val (Value.pointer (some ⟨b9, 1, none⟩)) _ (op_fieldAddr fd_32_1 rfl) rfl ?_
    refine WL.val (Value.int .i64 b_Modulus) _ (op_load one_2 rfl (BoxAt.cell (BoxAt.lift hS23.ext hx14) rfl)) rfl ?_
    refine WL.val (Value.bool (a_Modulus != b_Modulus)) _ (op_neq rfl rfl) rfl ?_
    refine WL.nil ?_
    show W _ _ _ _ _ _
    refine W.cond (a_Modulus != b_Modulus) rfl (fun hc26 => ?_) (fun hc26 => ?_)
    · replace h := ip h hc26
      refine W.seq (W.region ?_)
      refine WL.val (Value.bool false) _ (op_assign rfl) rfl ?_
      refine WL.nil ?_
      show W _ _ _ _ _ _
      refine W.ret ?_
      obtain rfl := Option.some.inj h
      show FinP _ _ _ _ _ _ _
      exact FinP.ret _ (res1 rfl rfl) ⟨rfl, (Ext.trans hE15 hS23.ext)⟩
    · replace h := inegb h hc26
      refine W.skip ?_
      show W _ _ _ _ _ _
      refine W.seq (W.seq (W.region ?_))
      refine WL.val (Value.pointer (some ⟨b1, 2, none⟩)) _ (op_fieldAddr fd_32_2 rfl) rfl ?_
      refine WL.val v_a_Values _ (op_load one_23 rfl (BoxAt.cell (BoxAt.lift (Ext.trans hE16 hS23.ext) hx6) rfl)) rfl ?_
      refine WL.val (Value.pointer (some ⟨b9, 2, none⟩)) _ (op_fieldAddr fd_32_2 rfl) rfl ?_
      refine WL.val v_b_Values _ (op_load one_23 rfl (BoxAt.cell (BoxAt.lift hS23.ext hx14) rfl)) rfl ?_
      obtain ⟨x28, hx29, h⟩ := bs h
      refine WL.call _ (op_call fn_66 (args2 rfl rfl)) (c_laws_eqInt64SSS (Ty.lift _ (Ext.trans hE15 hS23.ext) r_a_Values) (Ty.lift _ (Ext.trans hE15 hS23.ext) r_b_Values) hx29) rfl ?_
      rintro _ wd30 ⟨rfl, he31⟩
      have hS33 := St.extend hS23 he31
      replace hS33 : St wd10 wd30 [] := hS33
      refine WL.val (Value.bool (!x28)) _ (op_not rfl) rfl ?_
      refine WL.nil ?_
      show W _ _ _ _ _ _
      refine W.cond (!x28) rfl (fun hc34 => ?_) (fun hc34 => ?_)
      · replace h := ip h hc34
        refine W.seq (W.region ?_)
        refine WL.val (Value.bool false) _ (op_assign rfl) rfl ?_
        refine WL.nil ?_
        show W _ _ _ _ _ _
        refine W.ret ?_
        obtain rfl := Option.some.inj h
        show FinP _ _ _ _ _ _ _
        exact FinP.ret _ (res1 rfl rfl) ⟨rfl, (Ext.trans hE15 hS33.ext)⟩
      · replace h := inegb h hc34
        refine W.skip ?_
        show W _ _ _ _ _ _
        refine W.seq (W.region ?_)
        refine WL.val (Value.bool true) _ (op_assign rfl) rfl ?_
        refine WL.nil ?_
        show W _ _ _ _ _ _
        refine W.ret ?_
        obtain rfl := Option.some.inj h
        show FinP _ _ _ _ _ _ _
        exact FinP.ret _ (res1 rfl rfl) ⟨rfl, (Ext.trans hE15 hS33.ext)⟩

theorem c_laws_eqBraiding {w : World} {a_Cocycle_Orders : (List Int)} {v_a_Cocycle_Orders : Value} {a_Cocycle_Modulus : Int} {a_Cocycle_Values : (List (List (List Int)))} {v_a_Cocycle_Values : Value} {a_Values : (List (List Int))} {v_a_Values : Value} {b_Cocycle_Orders : (List Int)} {v_b_Cocycle_Orders : Value} {b_Cocycle_Modulus : Int} {b_Cocycle_Values : (List (List (List Int)))} {v_b_Cocycle_Values : Value} {b_Values : (List (List Int))} {v_b_Values : Value} (r_a_Cocycle_Orders : (Ty.sl (Ty.i .i64)).rep w v_a_Cocycle_Orders a_Cocycle_Orders) (r_a_Cocycle_Modulus : InR .i64 a_Cocycle_Modulus) (r_a_Cocycle_Values : (Ty.sl (Ty.sl (Ty.sl (Ty.i .i64)))).rep w v_a_Cocycle_Values a_Cocycle_Values) (r_a_Values : (Ty.sl (Ty.sl (Ty.i .i64))).rep w v_a_Values a_Values) (r_b_Cocycle_Orders : (Ty.sl (Ty.i .i64)).rep w v_b_Cocycle_Orders b_Cocycle_Orders) (r_b_Cocycle_Modulus : InR .i64 b_Cocycle_Modulus) (r_b_Cocycle_Values : (Ty.sl (Ty.sl (Ty.sl (Ty.i .i64)))).rep w v_b_Cocycle_Values b_Cocycle_Values) (r_b_Values : (Ty.sl (Ty.sl (Ty.i .i64))).rep w v_b_Values b_Values) {res : Bool} (h : p_laws_eqBraiding a_Cocycle_Orders a_Cocycle_Modulus a_Cocycle_Values a_Values b_Cocycle_Orders b_Cocycle_Modulus b_Cocycle_Values b_Values  = some res) :
    Ret Try.prog 12 #[(Value.agg #[v_a_Cocycle_Orders, (Value.int .i64 a_Cocycle_Modulus), v_a_Cocycle_Values, v_a_Values]), (Value.agg #[v_b_Cocycle_Orders, (Value.int .i64 b_Cocycle_Modulus), v_b_Cocycle_Values, v_b_Values])] w (fun v w' => v = Value.bool res ∧ Ext w w') := by
  unfold p_laws_eqBraiding at h
  have hS0 : St w w [] := St.start w
  refine Ret.start (fn := Try.f12) Try.func12 rfl 17 rfl rfl ?_
  refine W.seq (W.region ?_)
  refine WL.box hS0 rfl (cs := [v_a_Cocycle_Orders, (Value.int .i64 a_Cocycle_Modulus), v_a_Cocycle_Values, v_a_Values]) rfl rfl ?_
  intro b1 wd2 hS3 he4 hx5
  replace hS3 : St w wd2 [bx b1 [v_a_Cocycle_Orders, (Value.int .i64 a_Cocycle_Modulus), v_a_Cocycle_Values, v_a_Values]] := hS3
  have hx6 := St.boxAt hS3 0 rfl
  have hE7 : Ext w wd2 := hS3.ext
  have hS8 : St wd2 wd2 [] := St.start wd2
  refine WL.box hS8 rfl (cs := [v_b_Cocycle_Orders, (Value.int .i64 b_Cocycle_Modulus), v_b_Cocycle_Values, v_b_Values]) rfl rfl ?_
  intro b9 wd10 hS11 he12 hx13
  replace hS11 : St wd2 wd10 [bx b9 [v_b_Cocycle_Orders, (Value.int .i64 b_Cocycle_Modulus), v_b_Cocycle_Values, v_b_Values]] := hS11
  have hx14 := St.boxAt hS11 0 rfl
  have hE15 : Ext w wd10 := (Ext.trans hE7 hS11.ext)
  have hE16 : Ext wd2 wd10 := hS11.ext
  have hS17 : St wd10 wd10 [] := St.start wd10
  refine WL.val (Value.bool false) _ (op_assign rfl) rfl ?_
  refine WL.nil ?_
  show W _ _ _ _ _ _
  refine W.seq (W.seq (W.region ?_))
  refine WL.val (Value.pointer (some ⟨b1, 0, none⟩)) _ (op_fieldAddr fd_34_0 rfl) rfl ?_
  refine WL.val (Value.agg #[v_a_Cocycle_Orders, (Value.int .i64 a_Cocycle_Modulus), v_a_Cocycle_Values]) _ (op_loadBox st_32 rfl (BoxAt.lift (Ext.trans hE16 hS17.ext) hx6) rfl rfl) rfl ?_
  refine WL.val (Value.pointer (some ⟨b9, 0, none⟩)) _ (op_fieldAddr fd_34_0 rfl) rfl ?_
  refine WL.val (Value.agg #[v_b_Cocycle_Orders, (Value.int .i64 b_Cocycle_Modulus), v_b_Cocycle_Values]) _ (op_loadBox st_32 rfl (BoxAt.lift hS17.ext hx14) rfl rfl) rfl ?_
  obtain ⟨x18, hx19, h⟩ := bs h
  refine WL.call _ (op_call fn_30 (args2 rfl rfl)) (c_laws_eqCocycle (Ty.lift _ (Ext.trans hE15 hS17.ext) r_a_Cocycle_Orders) r_a_Cocycle_Modulus (Ty.lift _ (Ext.trans hE15 hS17.ext) r_a_Cocycle_Values) (Ty.lift _ (Ext.trans hE15 hS17.ext) r_b_Cocycle_Orders) r_b_Cocycle_Modulus (Ty.lift _ (Ext.trans hE15 hS17.ext) r_b_Cocycle_Values) hx19) rfl ?_
  rintro _ wd20 ⟨rfl, he21⟩
  have hS23 := St.extend hS17 he21
  replace hS23 : St wd10 wd20 [] := hS23
  refine WL.val (Value.bool (!x18)) _ (op_not rfl) rfl ?_
  refine WL.nil ?_
  show W _ _ _ _ _ _
  refine W.cond (!x18) rfl (fun hc24 => ?_) (fun hc24 => ?_)
  · replace h := ip h hc24
    refine W.seq (W.region ?_)
    refine WL.val (Value.bool false) _ (op_assign rfl) rfl ?_
    refine WL.nil ?_
    show W _ _ _ _ _ _
    refine W.ret ?_
    obtain rfl := Option.some.inj h
    show FinP _ _ _ _ _ _ _
    exact FinP.ret _ (res1 rfl rfl) ⟨rfl, (Ext.trans hE15 hS23.ext)⟩
  · replace h := inegb h hc24
    refine W.skip ?_
    show W _ _ _ _ _ _
    refine W.seq (W.seq (W.region ?_))
    refine WL.val (Value.pointer (some ⟨b1, 3, none⟩)) _ (op_fieldAddr fd_34_1 rfl) rfl ?_
    refine WL.val v_a_Values _ (op_load one_26 rfl (BoxAt.cell (BoxAt.lift (Ext.trans hE16 hS23.ext) hx6) rfl)) rfl ?_
    refine WL.val (Value.pointer (some ⟨b9, 3, none⟩)) _ (op_fieldAddr fd_34_1 rfl) rfl ?_
    refine WL.val v_b_Values _ (op_load one_26 rfl (BoxAt.cell (BoxAt.lift hS23.ext hx14) rfl)) rfl ?_
    obtain ⟨x26, hx27, h⟩ := bs h
    refine WL.call _ (op_call fn_23 (args2 rfl rfl)) (c_laws_eqInt64SS (Ty.lift _ (Ext.trans hE15 hS23.ext) r_a_Values) (Ty.lift _ (Ext.trans hE15 hS23.ext) r_b_Values) hx27) rfl ?_
    rintro _ wd28 ⟨rfl, he29⟩
    have hS31 := St.extend hS23 he29
    replace hS31 : St wd10 wd28 [] := hS31
    refine WL.val (Value.bool (!x26)) _ (op_not rfl) rfl ?_
    refine WL.nil ?_
    show W _ _ _ _ _ _
    refine W.cond (!x26) rfl (fun hc32 => ?_) (fun hc32 => ?_)
    · replace h := ip h hc32
      refine W.seq (W.region ?_)
      refine WL.val (Value.bool false) _ (op_assign rfl) rfl ?_
      refine WL.nil ?_
      show W _ _ _ _ _ _
      refine W.ret ?_
      obtain rfl := Option.some.inj h
      show FinP _ _ _ _ _ _ _
      exact FinP.ret _ (res1 rfl rfl) ⟨rfl, (Ext.trans hE15 hS31.ext)⟩
    · replace h := inegb h hc32
      refine W.skip ?_
      show W _ _ _ _ _ _
      refine W.seq (W.region ?_)
      refine WL.val (Value.bool true) _ (op_assign rfl) rfl ?_
      refine WL.nil ?_
      show W _ _ _ _ _ _
      refine W.ret ?_
      obtain rfl := Option.some.inj h
      show FinP _ _ _ _ _ _ _
      exact FinP.ret _ (res1 rfl rfl) ⟨rfl, (Ext.trans hE15 hS31.ext)⟩

theorem c_laws_markInt64S {w : World} {a : (List Int)} {v_a : Value} {k1 : Int} {w0 : World} {R : Ent} (hS0 : St w0 w [(Ty.sl (Ty.i .i64)).at v_a a, R]) (r_k1 : InR .i64 k1) {res : Int × (List Int)} (h : p_laws_markInt64S a k1  = some res) :
    Ret Try.prog 14 #[v_a, (Value.int .i64 k1)] w (fun v w' => v = Value.int .i64 res.1 ∧ InR .i64 res.1 ∧ St w0 w' [(Ty.sl (Ty.i .i64)).at v_a res.2, R]) := by
  unfold p_laws_markInt64S at h
  refine Ret.start (fn := Try.f14) Try.func14 rfl 19 rfl rfl ?_
  refine W.seq (W.region ?_)
  refine WL.val (Value.int .i64 (0 : Int)) _ (op_assign rfl) rfl ?_
  refine WL.nil ?_
  show W _ _ _ _ _ _
  refine W.seq (W.seq (W.region ?_))
  refine WL.val (Value.int .i64 (0 : Int)) _ (op_assign rfl) rfl ?_
  refine WL.nil ?_
  show W _ _ _ _ _ _
  obtain ⟨res1, hres2, h⟩ := bs h
  refine W.blockLoop (fun fq wq => ∃ s, res1 = Res.fin s ∧ fq 1 = Value.int .i64 s.2 ∧ InR .i64 s.2 ∧ (s.1).length = (a).length ∧ St w0 wq [(Ty.sl (Ty.i .i64)).at v_a s.1, R]) ?_ ?_
  · refine W.forN (fun k (s : (List Int) × Int) fq wq => fq 0 = v_a ∧ fq 1 = Value.int .i64 s.2 ∧ InR .i64 s.2 ∧ fq 5 = Value.int .i64 (k : Int) ∧ InR .i64 (k : Int) ∧ (s.1).length = (a).length ∧ St w0 wq [(Ty.sl (Ty.i .i64)).at v_a s.1, R]) hres2 ⟨rfl, rfl, r_k1, rfl, (inR_i64.2 (show (-9223372036854775808 : Int) ≤ 0 ∧ (0 : Int) ≤ 9223372036854775807 from by decide)), rfl, hS0⟩ ?_ ?_
    · intro k3 s30 ct6 f7 wd8 hk9 hb10 hI11 hbrk12 hret13
      obtain ⟨x4, x5⟩ := s30
      replace hI11 : f7 0 = v_a ∧ f7 1 = Value.int .i64 x5 ∧ InR .i64 x5 ∧ f7 5 = Value.int .i64 (k3 : Int) ∧ InR .i64 (k3 : Int) ∧ (x4).length = (a).length ∧ St w0 wd8 [(Ty.sl (Ty.i .i64)).at v_a x4, R] := hI11
      replace hb10 : p_laws_markInt64S_L1  k3 x4 x5 = some ct6 := hb10
      unfold p_laws_markInt64S_L1 at hb10
      obtain ⟨hf14, hf15, hr16, hf17, hr18, hL19, hS20⟩ := hI11
      refine W.seq (W.seq (W.region ?_))
      refine WL.val (Value.int .i64 (k3 : Int)) _ (op_move hf17) rfl ?_
      refine WL.val v_a _ (op_move hf14) rfl ?_
      have hr21 := inR_len (St.rep (t := (Ty.sl (Ty.i .i64))) hS20 0 rfl)
      refine WL.val (Value.int .i64 ((x4).length : Int)) _ (op_lenL sl_22 (St.rep (t := (Ty.sl (Ty.i .i64))) hS20 0 rfl) rfl) rfl ?_
      refine WL.val (Value.bool (decide ((k3 : Int) < ((x4).length : Int)))) _ (op_lss rfl rfl) rfl ?_
      have hl22 : (k3 : Int) < ((x4).length : Int) := by omega
      refine WL.nil ?_
      show W _ _ _ _ _ _
      refine W.condT (decide ((k3 : Int) < ((x4).length : Int))) rfl (decide_eq_true hl22) ?_
      refine W.skip ?_
      show W _ _ _ _ _ _
      refine W.seq ?_
      refine W.block ?_
      refine W.seq (W.region ?_)
      refine WL.val v_a _ (op_move hf14) rfl ?_
      refine WL.val (Value.int .i64 (k3 : Int)) _ (op_move hf17) rfl ?_
      refine WL.val (Value.int .i64 x5) _ (op_move hf15) rfl ?_
      obtain ⟨x24, hx27, hb10⟩ := bs hb10
      obtain ⟨ha25, hb26, hx27⟩ := idx_some hx27
      refine WL.val (Value.pointer (some (elA v_a ((k3 : Int)).toNat))) _ (op_idx sl_22 (St.rep (t := (Ty.sl (Ty.i .i64))) hS20 0 rfl) rfl rfl ha25 hb26) rfl ?_
      refine WL.storeEl (flat_i .i64) hS20 (k := 0) rfl sz_2 rfl rfl (lt_of_idx ha25 hb26) ⟨rfl, hr16⟩ ?_
      intro wd28 hS29
      replace hS29 : St w0 wd28 [(Ty.sl (Ty.i .i64)).at v_a ((x4).set ((k3 : Int)).toNat x5), R] := hS29
      refine WL.nil ?_
      show W _ _ _ _ _ _
      refine W.region ?_
      refine WL.val (Value.int .i64 x5) _ (op_move hf15) rfl ?_
      refine WL.val (Value.int .i64 (w64 (x5 + (1 : Int)))) _ (op_add rfl rfl) rfl ?_
      refine WL.val (Value.int .i64 (w64 (x5 + (1 : Int)))) _ (op_assign rfl) rfl ?_
      refine WL.nil ?_
      show W _ _ _ _ _ _
      refine W.region ?_
      refine WL.val (Value.int .i64 (k3 : Int)) _ (op_move hf17) rfl ?_
      refine WL.val (Value.int .i64 (w64 ((k3 : Int) + (1 : Int)))) _ (op_add rfl rfl) rfl ?_
      refine WL.val (Value.int .i64 (w64 ((k3 : Int) + (1 : Int)))) _ (op_assign rfl) rfl ?_
      refine WL.nil ?_
      obtain rfl := Option.some.inj hb10
      show ∃ s, _ = Ctl.next s ∧ _
      exact ⟨_, rfl, hf14, rfl, (inR_wrap _ _), (ctr_next hl22 hr21), (ctr_rng hl22 hr21), (by first | exact hL19 | (simp only [List.length_set]; exact hL19)), hS29⟩
    · intro s35 f31 wd32 hs33 hI34
      obtain ⟨x36, x37⟩ := s35
      replace hI34 : f31 0 = v_a ∧ f31 1 = Value.int .i64 x37 ∧ InR .i64 x37 ∧ f31 5 = Value.int .i64 (((a).length : Nat) : Int) ∧ InR .i64 (((a).length : Nat) : Int) ∧ (x36).length = (a).length ∧ St w0 wd32 [(Ty.sl (Ty.i .i64)).at v_a x36, R] := hI34
      obtain ⟨hf38, hf39, hr40, hf41, hr42, hL43, hS44⟩ := hI34
      refine W.seq (W.seq (W.region ?_))
      refine WL.val (Value.int .i64 (((a).length : Nat) : Int)) _ (op_move hf41) rfl ?_
      refine WL.val v_a _ (op_move hf38) rfl ?_
      have hr45 := inR_len (St.rep (t := (Ty.sl (Ty.i .i64))) hS44 0 rfl)
      refine WL.val (Value.int .i64 ((x36).length : Int)) _ (op_lenL sl_22 (St.rep (t := (Ty.sl (Ty.i .i64))) hS44 0 rfl) rfl) rfl ?_
      refine WL.val (Value.bool (decide ((((a).length : Nat) : Int) < ((x36).length : Int)))) _ (op_lss rfl rfl) rfl ?_
      have hl46 : ¬ (((a).length : Nat) : Int) < ((x36).length : Int) := by omega
      refine WL.nil ?_
      show W _ _ _ _ _ _
      refine W.condF (decide ((((a).length : Nat) : Int) < ((x36).length : Int))) rfl (decide_eq_false hl46) ?_
      refine W.exit ?_
      show _ = _ ∧ _
      exact ⟨rfl, _, hs33, hf39, hr40, (by first | exact hL43 | (simp only [List.length_set]; exact hL43)), hS44⟩
  · rintro f47 wd48 ⟨s50, rfl, hq49⟩
    replace h := onRes_fin h
    obtain ⟨x51, x52⟩ := s50
    replace hq49 : f47 1 = Value.int .i64 x52 ∧ InR .i64 x52 ∧ (x51).length = (a).length ∧ St w0 wd48 [(Ty.sl (Ty.i .i64)).at v_a x51, R] := hq49
    replace h : (_ : Option _) = _ := h
    dsimp only at h
    obtain ⟨hf53, hr54, hL55, hS56⟩ := hq49
    show W _ _ _ _ _ _
    refine W.seq (W.region ?_)
    refine WL.val (Value.int .i64 x52) _ (op_move hf53) rfl ?_
    refine WL.val (Value.int .i64 x52) _ (op_assign rfl) rfl ?_
    refine WL.nil ?_
    show W _ _ _ _ _ _
    refine W.ret ?_
    obtain rfl := Option.some.inj h
    show FinP _ _ _ _ _ _ _
    exact FinP.ret _ (res1 rfl rfl) ⟨rfl, hr54, (St.pick hS56 [0, 1] rfl)⟩

theorem c_laws_markInt64SS {w : World} {a : (List (List Int))} {v_a : Value} {k1 : Int} {w0 : World} {R : Ent} (hS0 : St w0 w [(Ty.sl (Ty.sl (Ty.i .i64))).at v_a a, R]) (r_k1 : InR .i64 k1) {res : Int × (List (List Int))} (h : p_laws_markInt64SS a k1  = some res) :
    Ret Try.prog 24 #[v_a, (Value.int .i64 k1)] w (fun v w' => v = Value.int .i64 res.1 ∧ InR .i64 res.1 ∧ St w0 w' [(Ty.sl (Ty.sl (Ty.i .i64))).at v_a res.2, R]) := by
  unfold p_laws_markInt64SS at h
  refine Ret.start (fn := Try.f24) Try.func24 rfl 19 rfl rfl ?_
  refine W.seq (W.region ?_)
  refine WL.val (Value.int .i64 (0 : Int)) _ (op_assign rfl) rfl ?_
  refine WL.nil ?_
  show W _ _ _ _ _ _
  refine W.seq (W.seq (W.region ?_))
  refine WL.val (Value.int .i64 (0 : Int)) _ (op_assign rfl) rfl ?_
  refine WL.nil ?_
  show W _ _ _ _ _ _
  obtain ⟨res1, hres2, h⟩ := bs h
  refine W.blockLoop (fun fq wq => ∃ s, res1 = Res.fin s ∧ fq 1 = Value.int .i64 s.2 ∧ InR .i64 s.2 ∧ (s.1).length = (a).length ∧ St w0 wq [(Ty.sl (Ty.sl (Ty.i .i64))).at v_a s.1, R]) ?_ ?_
  · refine W.forN (fun k (s : (List (List Int)) × Int) fq wq => fq 0 = v_a ∧ fq 1 = Value.int .i64 s.2 ∧ InR .i64 s.2 ∧ fq 5 = Value.int .i64 (k : Int) ∧ InR .i64 (k : Int) ∧ (s.1).length = (a).length ∧ St w0 wq [(Ty.sl (Ty.sl (Ty.i .i64))).at v_a s.1, R]) hres2 ⟨rfl, rfl, r_k1, rfl, (inR_i64.2 (show (-9223372036854775808 : Int) ≤ 0 ∧ (0 : Int) ≤ 9223372036854775807 from by decide)), rfl, hS0⟩ ?_ ?_
    · intro k3 s40 ct6 f7 wd8 hk9 hb10 hI11 hbrk12 hret13
      obtain ⟨x4, x5⟩ := s40
      replace hI11 : f7 0 = v_a ∧ f7 1 = Value.int .i64 x5 ∧ InR .i64 x5 ∧ f7 5 = Value.int .i64 (k3 : Int) ∧ InR .i64 (k3 : Int) ∧ (x4).length = (a).length ∧ St w0 wd8 [(Ty.sl (Ty.sl (Ty.i .i64))).at v_a x4, R] := hI11
      replace hb10 : p_laws_markInt64SS_L1  k3 x4 x5 = some ct6 := hb10
      unfold p_laws_markInt64SS_L1 at hb10
      obtain ⟨hf14, hf15, hr16, hf17, hr18, hL19, hS20⟩ := hI11
      refine W.seq (W.seq (W.region ?_))
      refine WL.val (Value.int .i64 (k3 : Int)) _ (op_move hf17) rfl ?_
      refine WL.val v_a _ (op_move hf14) rfl ?_
      have hr21 := inR_len (St.rep (t := (Ty.sl (Ty.sl (Ty.i .i64)))) hS20 0 rfl)
      refine WL.val (Value.int .i64 ((x4).length : Int)) _ (op_lenL sl_26 (St.rep (t := (Ty.sl (Ty.sl (Ty.i .i64)))) hS20 0 rfl) rfl) rfl ?_
      refine WL.val (Value.bool (decide ((k3 : Int) < ((x4).length : Int)))) _ (op_lss rfl rfl) rfl ?_
      have hl22 : (k3 : Int) < ((x4).length : Int) := by omega
      refine WL.nil ?_
      show W _ _ _ _ _ _
      refine W.condT (decide ((k3 : Int) < ((x4).length : Int))) rfl (decide_eq_true hl22) ?_
      refine W.skip ?_
      show W _ _ _ _ _ _
      refine W.seq ?_
      refine W.block ?_
      refine W.region ?_
      refine WL.val v_a _ (op_move hf14) rfl ?_
      refine WL.val (Value.int .i64 (k3 : Int)) _ (op_move hf17) rfl ?_
      obtain ⟨x24, hx27, hb10⟩ := bs hb10
      obtain ⟨ha25, hb26, hx27⟩ := idx_some hx27
      refine WL.val (Value.pointer (some (elA v_a ((k3 : Int)).toNat))) _ (op_idx sl_26 (St.rep (t := (Ty.sl (Ty.sl (Ty.i .i64)))) hS20 0 rfl) rfl rfl ha25 hb26) rfl ?_
      obtain ⟨u28, hc29, hr30⟩ := repSl.el (St.rep (t := (Ty.sl (Ty.sl (Ty.i .i64)))) hS20 0 rfl) hx27
      refine WL.val u28 _ (op_load one_22 rfl hc29) rfl ?_
      refine WL.val (Value.int .i64 x5) _ (op_move hf15) rfl ?_
      have hS31 := St.unrow (k := 0) hS20 rfl hx27 hc29
      replace hS31 : St w0 wd8 [holeAt (Ty.sl (Ty.i .i64)) v_a x4 ((k3 : Int)).toNat u28, R, (Ty.sl (Ty.i .i64)).at u28 x24] := hS31
      obtain ⟨x32, hx33, hb10⟩ := bs hb10
      have hS34 := St.fold [(Ty.sl (Ty.i .i64)).at u28 x24] [holeAt (Ty.sl (Ty.i .i64)) v_a x4 ((k3 : Int)).toNat u28, R] (St.pick hS31 [2, 0, 1] rfl)
      refine WL.call _ (op_call fn_14 (args2 rfl rfl)) (c_laws_markInt64S hS34 hr16 hx33) rfl ?_
      rintro _ wd37 ⟨rfl, hr38, hS35⟩
      have hS36 := St.pick (St.unfold [(Ty.sl (Ty.i .i64)).at u28 x32.2] [holeAt (Ty.sl (Ty.i .i64)) v_a x4 ((k3 : Int)).toNat u28, R] hS35) [1, 2, 0] rfl
      replace hS36 : St w0 wd37 [holeAt (Ty.sl (Ty.i .i64)) v_a x4 ((k3 : Int)).toNat u28, R, (Ty.sl (Ty.i .i64)).at u28 x32.2] := hS36
      have hS39 := St.rerow (k := 0) (k2 := 2) hS36 rfl rfl rfl
      replace hS39 : St w0 wd37 [(Ty.sl (Ty.sl (Ty.i .i64))).at v_a ((x4).set ((k3 : Int)).toNat x32.2), R, emp] := hS39
      refine WL.val (Value.int .i64 x32.1) _ (op_assign rfl) rfl ?_
      refine WL.nil ?_
      show W _ _ _ _ _ _
      refine W.region ?_
      refine WL.val (Value.int .i64 (k3 : Int)) _ (op_move hf17) rfl ?_
      refine WL.val (Value.int .i64 (w64 ((k3 : Int) + (1 : Int)))) _ (op_add rfl rfl) rfl ?_
      refine WL.val (Value.int .i64 (w64 ((k3 : Int) + (1 : Int)))) _ (op_assign rfl) rfl ?_
      refine WL.nil ?_
      obtain rfl := Option.some.inj hb10
      show ∃ s, _ = Ctl.next s ∧ _
      exact ⟨_, rfl, hf14, rfl, hr38, (ctr_next hl22 hr21), (ctr_rng hl22 hr21), (by first | exact hL19 | (simp only [List.length_set]; exact hL19)), (St.pick hS39 [0, 1] rfl)⟩
    · intro s45 f41 wd42 hs43 hI44
      obtain ⟨x46, x47⟩ := s45
      replace hI44 : f41 0 = v_a ∧ f41 1 = Value.int .i64 x47 ∧ InR .i64 x47 ∧ f41 5 = Value.int .i64 (((a).length : Nat) : Int) ∧ InR .i64 (((a).length : Nat) : Int) ∧ (x46).length = (a).length ∧ St w0 wd42 [(Ty.sl (Ty.sl (Ty.i .i64))).at v_a x46, R] := hI44
      obtain ⟨hf48, hf49, hr50, hf51, hr52, hL53, hS54⟩ := hI44
      refine W.seq (W.seq (W.region ?_))
      refine WL.val (Value.int .i64 (((a).length : Nat) : Int)) _ (op_move hf51) rfl ?_
      refine WL.val v_a _ (op_move hf48) rfl ?_
      have hr55 := inR_len (St.rep (t := (Ty.sl (Ty.sl (Ty.i .i64)))) hS54 0 rfl)
      refine WL.val (Value.int .i64 ((x46).length : Int)) _ (op_lenL sl_26 (St.rep (t := (Ty.sl (Ty.sl (Ty.i .i64)))) hS54 0 rfl) rfl) rfl ?_
      refine WL.val (Value.bool (decide ((((a).length : Nat) : Int) < ((x46).length : Int)))) _ (op_lss rfl rfl) rfl ?_
      have hl56 : ¬ (((a).length : Nat) : Int) < ((x46).length : Int) := by omega
      refine WL.nil ?_
      show W _ _ _ _ _ _
      refine W.condF (decide ((((a).length : Nat) : Int) < ((x46).length : Int))) rfl (decide_eq_false hl56) ?_
      refine W.exit ?_
      show _ = _ ∧ _
      exact ⟨rfl, _, hs43, hf49, hr50, (by first | exact hL53 | (simp only [List.length_set]; exact hL53)), hS54⟩
  · rintro f57 wd58 ⟨s60, rfl, hq59⟩
    replace h := onRes_fin h
    obtain ⟨x61, x62⟩ := s60
    replace hq59 : f57 1 = Value.int .i64 x62 ∧ InR .i64 x62 ∧ (x61).length = (a).length ∧ St w0 wd58 [(Ty.sl (Ty.sl (Ty.i .i64))).at v_a x61, R] := hq59
    replace h : (_ : Option _) = _ := h
    dsimp only at h
    obtain ⟨hf63, hr64, hL65, hS66⟩ := hq59
    show W _ _ _ _ _ _
    refine W.seq (W.region ?_)
    refine WL.val (Value.int .i64 x62) _ (op_move hf63) rfl ?_
    refine WL.val (Value.int .i64 x62) _ (op_assign rfl) rfl ?_
    refine WL.nil ?_
    show W _ _ _ _ _ _
    refine W.ret ?_
    obtain rfl := Option.some.inj h
    show FinP _ _ _ _ _ _ _
    exact FinP.ret _ (res1 rfl rfl) ⟨rfl, hr64, (St.pick hS66 [0, 1] rfl)⟩

theorem c_laws_markInt64SSS {w : World} {a : (List (List (List Int)))} {v_a : Value} {k1 : Int} {w0 : World} {R : Ent} (hS0 : St w0 w [(Ty.sl (Ty.sl (Ty.sl (Ty.i .i64)))).at v_a a, R]) (r_k1 : InR .i64 k1) {res : Int × (List (List (List Int)))} (h : p_laws_markInt64SSS a k1  = some res) :
    Ret Try.prog 71 #[v_a, (Value.int .i64 k1)] w (fun v w' => v = Value.int .i64 res.1 ∧ InR .i64 res.1 ∧ St w0 w' [(Ty.sl (Ty.sl (Ty.sl (Ty.i .i64)))).at v_a res.2, R]) := by
  unfold p_laws_markInt64SSS at h
  refine Ret.start (fn := Try.f71) Try.func71 rfl 19 rfl rfl ?_
  refine W.seq (W.region ?_)
  refine WL.val (Value.int .i64 (0 : Int)) _ (op_assign rfl) rfl ?_
  refine WL.nil ?_
  show W _ _ _ _ _ _
  refine W.seq (W.seq (W.region ?_))
  refine WL.val (Value.int .i64 (0 : Int)) _ (op_assign rfl) rfl ?_
  refine WL.nil ?_
  show W _ _ _ _ _ _
  obtain ⟨res1, hres2, h⟩ := bs h
  refine W.blockLoop (fun fq wq => ∃ s, res1 = Res.fin s ∧ fq 1 = Value.int .i64 s.2 ∧ InR .i64 s.2 ∧ (s.1).length = (a).length ∧ St w0 wq [(Ty.sl (Ty.sl (Ty.sl (Ty.i .i64)))).at v_a s.1, R]) ?_ ?_
  · refine W.forN (fun k (s : (List (List (List Int))) × Int) fq wq => fq 0 = v_a ∧ fq 1 = Value.int .i64 s.2 ∧ InR .i64 s.2 ∧ fq 5 = Value.int .i64 (k : Int) ∧ InR .i64 (k : Int) ∧ (s.1).length = (a).length ∧ St w0 wq [(Ty.sl (Ty.sl (Ty.sl (Ty.i .i64)))).at v_a s.1, R]) hres2 ⟨rfl, rfl, r_k1, rfl, (inR_i64.2 (show (-9223372036854775808 : Int) ≤ 0 ∧ (0 : Int) ≤ 9223372036854775807 from by decide)), rfl, hS0⟩ ?_ ?_
    · intro k3 s40 ct6 f7 wd8 hk9 hb10 hI11 hbrk12 hret13
      obtain ⟨x4, x5⟩ := s40
      replace hI11 : f7 0 = v_a ∧ f7 1 = Value.int .i64 x5 ∧ InR .i64 x5 ∧ f7 5 = Value.int .i64 (k3 : Int) ∧ InR .i64 (k3 : Int) ∧ (x4).length = (a).length ∧ St w0 wd8 [(Ty.sl (Ty.sl (Ty.sl (Ty.i .i64)))).at v_a x4, R] := hI11
      replace hb10 : p_laws_markInt64SSS_L1  k3 x4 x5 = some ct6 := hb10
      unfold p_laws_markInt64SSS_L1 at hb10
      obtain ⟨hf14, hf15, hr16, hf17, hr18, hL19, hS20⟩ := hI11
      refine W.seq (W.seq (W.region ?_))
      refine WL.val (Value.int .i64 (k3 : Int)) _ (op_move hf17) rfl ?_
      refine WL.val v_a _ (op_move hf14) rfl ?_
      have hr21 := inR_len (St.rep (t := (Ty.sl (Ty.sl (Ty.sl (Ty.i .i64))))) hS20 0 rfl)
      refine WL.val (Value.int .i64 ((x4).length : Int)) _ (op_lenL sl_23 (St.rep (t := (Ty.sl (Ty.sl (Ty.sl (Ty.i .i64))))) hS20 0 rfl) rfl) rfl ?_
      refine WL.val (Value.bool (decide ((k3 : Int) < ((x4).length : Int)))) _ (op_lss rfl rfl) rfl ?_
      have hl22 : (k3 : Int) < ((x4).length : Int) := by omega
      refine WL.nil ?_
      show W _ _ _ _ _ _
      refine W.condT (decide ((k3 : Int) < ((x4).length : Int))) rfl (decide_eq_true hl22) ?_
      refine W.skip ?_
      show W _ _ _ _ _ _
      refine W.seq ?_
      refine W.block ?_
      refine W.region ?_
      refine WL.val v_a _ (op_move hf14) rfl ?_
      refine WL.val (Value.int .i64 (k3 : Int)) _ (op_move hf17) rfl ?_
      obtain ⟨x24, hx27, hb10⟩ := bs hb10
      obtain ⟨ha25, hb26, hx27⟩ := idx_some hx27
      refine WL.val (Value.pointer (some (elA v_a ((k3 : Int)).toNat))) _ (op_idx sl_23 (St.rep (t := (Ty.sl (Ty.sl (Ty.sl (Ty.i .i64))))) hS20 0 rfl) rfl rfl ha25 hb26) rfl ?_
      obtain ⟨u28, hc29, hr30⟩ := repSl.el (St.rep (t := (Ty.sl (Ty.sl (Ty.sl (Ty.i .i64))))) hS20 0 rfl) hx27
      refine WL.val u28 _ (op_load one_26 rfl hc29) rfl ?_
      refine WL.val (Value.int .i64 x5) _ (op_move hf15) rfl ?_
      have hS31 := St.unrow (k := 0) hS20 rfl hx27 hc29
      replace hS31 : St w0 wd8 [holeAt (Ty.sl (Ty.sl (Ty.i .i64))) v_a x4 ((k3 : Int)).toNat u28, R, (Ty.sl (Ty.sl (Ty.i .i64))).at u28 x24] := hS31
      obtain ⟨x32, hx33, hb10⟩ := bs hb10
      have hS34 := St.fold [(Ty.sl (Ty.sl (Ty.i .i64))).at u28 x24] [holeAt (Ty.sl (Ty.sl (Ty.i .i64))) v_a x4 ((k3 : Int)).toNat u28, R] (St.pick hS31 [2, 0, 1] rfl)
      refine WL.call _ (op_call fn_24 (args2 rfl rfl)) (c_laws_markInt64SS hS34 hr16 hx33) rfl ?_
      rintro _ wd37 ⟨rfl, hr38, hS35⟩
      have hS36 := St.pick (St.unfold [(Ty.sl (Ty.sl (Ty.i .i64))).at u28 x32.2] [holeAt (Ty.sl (Ty.sl (Ty.i .i64))) v_a x4 ((k3 : Int)).toNat u28, R] hS35) [1, 2, 0] rfl
      replace hS36 : St w0 wd37 [holeAt (Ty.sl (Ty.sl (Ty.i .i64))) v_a x4 ((k3 : Int)).toNat u28, R, (Ty.sl (Ty.sl (Ty.i .i64))).at u28 x32.2] := hS36
      have hS39 := St.rerow (k := 0) (k2 := 2) hS36 rfl rfl rfl
      replace hS39 : St w0 wd37 [(Ty.sl (Ty.sl (Ty.sl (Ty.i .i64)))).at v_a ((x4).set ((k3 : Int)).toNat x32.2), R, emp] := hS39
      refine WL.val (Value.int .i64 x32.1) _ (op_assign rfl) rfl ?_
      refine WL.nil ?_
      show W _ _ _ _ _ _
      refine W.region ?_
      refine WL.val (Value.int .i64 (k3 : Int)) _ (op_move hf17) rfl ?_
      refine WL.val (Value.int .i64 (w64 ((k3 : Int) + (1 : Int)))) _ (op_add rfl rfl) rfl ?_
      refine WL.val (Value.int .i64 (w64 ((k3 : Int) + (1 : Int)))) _ (op_assign rfl) rfl ?_
      refine WL.nil ?_
      obtain rfl := Option.some.inj hb10
      show ∃ s, _ = Ctl.next s ∧ _
      exact ⟨_, rfl, hf14, rfl, hr38, (ctr_next hl22 hr21), (ctr_rng hl22 hr21), (by first | exact hL19 | (simp only [List.length_set]; exact hL19)), (St.pick hS39 [0, 1] rfl)⟩
    · intro s45 f41 wd42 hs43 hI44
      obtain ⟨x46, x47⟩ := s45
      replace hI44 : f41 0 = v_a ∧ f41 1 = Value.int .i64 x47 ∧ InR .i64 x47 ∧ f41 5 = Value.int .i64 (((a).length : Nat) : Int) ∧ InR .i64 (((a).length : Nat) : Int) ∧ (x46).length = (a).length ∧ St w0 wd42 [(Ty.sl (Ty.sl (Ty.sl (Ty.i .i64)))).at v_a x46, R] := hI44
      obtain ⟨hf48, hf49, hr50, hf51, hr52, hL53, hS54⟩ := hI44
      refine W.seq (W.seq (W.region ?_))
      refine WL.val (Value.int .i64 (((a).length : Nat) : Int)) _ (op_move hf51) rfl ?_
      refine WL.val v_a _ (op_move hf48) rfl ?_
      have hr55 := inR_len (St.rep (t := (Ty.sl (Ty.sl (Ty.sl (Ty.i .i64))))) hS54 0 rfl)
      refine WL.val (Value.int .i64 ((x46).length : Int)) _ (op_lenL sl_23 (St.rep (t := (Ty.sl (Ty.sl (Ty.sl (Ty.i .i64))))) hS54 0 rfl) rfl) rfl ?_
      refine WL.val (Value.bool (decide ((((a).length : Nat) : Int) < ((x46).length : Int)))) _ (op_lss rfl rfl) rfl ?_
      have hl56 : ¬ (((a).length : Nat) : Int) < ((x46).length : Int) := by omega
      refine WL.nil ?_
      show W _ _ _ _ _ _
      refine W.condF (decide ((((a).length : Nat) : Int) < ((x46).length : Int))) rfl (decide_eq_false hl56) ?_
      refine W.exit ?_
      show _ = _ ∧ _
      exact ⟨rfl, _, hs43, hf49, hr50, (by first | exact hL53 | (simp only [List.length_set]; exact hL53)), hS54⟩
  · rintro f57 wd58 ⟨s60, rfl, hq59⟩
    replace h := onRes_fin h
    obtain ⟨x61, x62⟩ := s60
    replace hq59 : f57 1 = Value.int .i64 x62 ∧ InR .i64 x62 ∧ (x61).length = (a).length ∧ St w0 wd58 [(Ty.sl (Ty.sl (Ty.sl (Ty.i .i64)))).at v_a x61, R] := hq59
    replace h : (_ : Option _) = _ := h
    dsimp only at h
    obtain ⟨hf63, hr64, hL65, hS66⟩ := hq59
    show W _ _ _ _ _ _
    refine W.seq (W.region ?_)
    refine WL.val (Value.int .i64 x62) _ (op_move hf63) rfl ?_
    refine WL.val (Value.int .i64 x62) _ (op_assign rfl) rfl ?_
    refine WL.nil ?_
    show W _ _ _ _ _ _
    refine W.ret ?_
    obtain rfl := Option.some.inj h
    show FinP _ _ _ _ _ _ _
    exact FinP.ret _ (res1 rfl rfl) ⟨rfl, hr64, (St.pick hS66 [0, 1] rfl)⟩

theorem c_laws_markCocycle {w : World} {a_Orders : (List Int)} {v_a_Orders : Value} {a_Modulus : Int} {a_Values : (List (List (List Int)))} {v_a_Values : Value} {k1 : Int} {w0 : World} {R : Ent} (hS0 : St w0 w [(Ty.sl (Ty.i .i64)).at v_a_Orders a_Orders, (Ty.sl (Ty.sl (Ty.sl (Ty.i .i64)))).at v_a_Values a_Values, R]) (r_a_Modulus : InR .i64 a_Modulus) (r_k1 : InR .i64 k1) {res : Int × (List Int) × (List (List (List Int)))} (h : p_laws_markCocycle a_Orders a_Modulus a_Values k1  = some res) :
    Ret Try.prog 35 #[(Value.agg #[v_a_Orders, (Value.int .i64 a_Modulus), v_a_Values]), (Value.int .i64 k1)] w (fun v w' => v = Value.int .i64 res.1 ∧ InR .i64 res.1 ∧ St w0 w' [(Ty.sl (Ty.i .i64)).at v_a_Orders res.2.1, (Ty.sl (Ty.sl (Ty.sl (Ty.i .i64)))).at v_a_Values res.2.2, R]) := by
  unfold p_laws_markCocycle at h
  refine Ret.start (fn := Try.f35) Try.func35 rfl 14 rfl rfl ?_
  refine W.seq (W.region ?_)
  refine WL.box hS0 rfl (cs := [v_a_Orders, (Value.int .i64 a_Modulus), v_a_Values]) rfl rfl ?_
  intro b1 wd2 hS3 he4 hx5
  replace hS3 : St w0 wd2 [(Ty.sl (Ty.i .i64)).at v_a_Orders a_Orders, (Ty.sl (Ty.sl (Ty.sl (Ty.i .i64)))).at v_a_Values a_Values, R, bx b1 [v_a_Orders, (Value.int .i64 a_Modulus), v_a_Values]] := hS3
  refine WL.val (Value.int .i64 (0 : Int)) _ (op_assign rfl) rfl ?_
  refine WL.nil ?_
  show W _ _ _ _ _ _
  refine W.seq (W.region ?_)
  refine WL.val (Value.pointer (some ⟨b1, 0, none⟩)) _ (op_fieldAddr fd_32_0 rfl) rfl ?_
  refine WL.val v_a_Orders _ (op_load one_22 rfl (BoxAt.cell (St.boxAt hS3 3 rfl) rfl)) rfl ?_
  refine WL.val (Value.int .i64 k1) _ (op_move rfl) rfl ?_
  obtain ⟨x6, hx7, h⟩ := bs h
  have hS8 := St.fold [(Ty.sl (Ty.i .i64)).at v_a_Orders a_Orders] [(Ty.sl (Ty.sl (Ty.sl (Ty.i .i64)))).at v_a_Values a_Values, R, bx b1 [v_a_Orders, (Value.int .i64 a_Modulus), v_a_Values]] (St.pick hS3 [0, 1, 2, 3] rfl)
  refine WL.call _ (op_call fn_14 (args2 rfl rfl)) (c_laws_markInt64S hS8 r_k1 hx7) rfl ?_
  rintro _ wd11 ⟨rfl, hr12, hS9⟩
  have hS10 := St.pick (St.unfold [(Ty.sl (Ty.i .i64)).at v_a_Orders x6.2] [(Ty.sl (Ty.sl (Ty.sl (Ty.i .i64)))).at v_a_Values a_Values, R, bx b1 [v_a_Orders, (Value.int .i64 a_Modulus), v_a_Values]] hS9) [0, 1, 2, 3] rfl
  replace hS10 : St w0 wd11 [(Ty.sl (Ty.i .i64)).at v_a_Orders x6.2, (Ty.sl (Ty.sl (Ty.sl (Ty.i .i64)))).at v_a_Values a_Values, R, bx b1 [v_a_Orders, (Value.int .i64 a_Modulus), v_a_Values]] := hS10
  refine WL.val (Value.int .i64 x6.1) _ (op_assign rfl) rfl ?_
  refine WL.nil ?_
  show W _ _ _ _ _ _
  refine W.seq (W.region ?_)
  refine WL.val (Value.pointer (some ⟨b1, 2, none⟩)) _ (op_fieldAddr fd_32_2 rfl) rfl ?_
  refine WL.val v_a_Values _ (op_load one_23 rfl (BoxAt.cell (St.boxAt hS10 3 rfl) rfl)) rfl ?_
  refine WL.val (Value.int .i64 x6.1) _ (op_move rfl) rfl ?_
  obtain ⟨x13, hx14, h⟩ := bs h
  have hS15 := St.fold [(Ty.sl (Ty.sl (Ty.sl (Ty.i .i64)))).at v_a_Values a_Values] [(Ty.sl (Ty.i .i64)).at v_a_Orders x6.2, R, bx b1 [v_a_Orders, (Value.int .i64 a_Modulus), v_a_Values]] (St.pick hS10 [1, 0, 2, 3] rfl)
  refine WL.call _ (op_call fn_71 (args2 rfl rfl)) (c_laws_markInt64SSS hS15 hr12 hx14) rfl ?_
  rintro _ wd18 ⟨rfl, hr19, hS16⟩
  have hS17 := St.pick (St.unfold [(Ty.sl (Ty.sl (Ty.sl (Ty.i .i64)))).at v_a_Values x13.2] [(Ty.sl (Ty.i .i64)).at v_a_Orders x6.2, R, bx b1 [v_a_Orders, (Value.int .i64 a_Modulus), v_a_Values]] hS16) [1, 0, 2, 3] rfl
  replace hS17 : St w0 wd18 [(Ty.sl (Ty.i .i64)).at v_a_Orders x6.2, (Ty.sl (Ty.sl (Ty.sl (Ty.i .i64)))).at v_a_Values x13.2, R, bx b1 [v_a_Orders, (Value.int .i64 a_Modulus), v_a_Values]] := hS17
  refine WL.val (Value.int .i64 x13.1) _ (op_assign rfl) rfl ?_
  refine WL.nil ?_
  show W _ _ _ _ _ _
  refine W.seq (W.region ?_)
  refine WL.val (Value.int .i64 x13.1) _ (op_move rfl) rfl ?_
  refine WL.val (Value.int .i64 x13.1) _ (op_assign rfl) rfl ?_
  refine WL.nil ?_
  show W _ _ _ _ _ _
  refine W.ret ?_
  obtain rfl := Option.some.inj h
  show FinP _ _ _ _ _ _ _
  exact FinP.ret _ (res1 rfl rfl) ⟨rfl, hr19, (St.pick hS17 [0, 1, 2] rfl)⟩

theorem c_laws_markBraiding {w : World} {a_Cocycle_Orders : (List Int)} {v_a_Cocycle_Orders : Value} {a_Cocycle_Modulus : Int} {a_Cocycle_Values : (List (List (List Int)))} {v_a_Cocycle_Values : Value} {a_Values : (List (List Int))} {v_a_Values : Value} {k1 : Int} {w0 : World} {R : Ent} (hS0 : St w0 w [(Ty.sl (Ty.i .i64)).at v_a_Cocycle_Orders a_Cocycle_Orders, (Ty.sl (Ty.sl (Ty.sl (Ty.i .i64)))).at v_a_Cocycle_Values a_Cocycle_Values, (Ty.sl (Ty.sl (Ty.i .i64))).at v_a_Values a_Values, R]) (r_a_Cocycle_Modulus : InR .i64 a_Cocycle_Modulus) (r_k1 : InR .i64 k1) {res : Int × (List Int) × (List (List (List Int))) × (List (List Int))} (h : p_laws_markBraiding a_Cocycle_Orders a_Cocycle_Modulus a_Cocycle_Values a_Values k1  = some res) :
    Ret Try.prog 13 #[(Value.agg #[v_a_Cocycle_Orders, (Value.int .i64 a_Cocycle_Modulus), v_a_Cocycle_Values, v_a_Values]), (Value.int .i64 k1)] w (fun v w' => v = Value.int .i64 res.1 ∧ InR .i64 res.1 ∧ St w0 w' [(Ty.sl (Ty.i .i64)).at v_a_Cocycle_Orders res.2.1, (Ty.sl (Ty.sl (Ty.sl (Ty.i .i64)))).at v_a_Cocycle_Values res.2.2.1, (Ty.sl (Ty.sl (Ty.i .i64))).at v_a_Values res.2.2.2, R]) := by
  unfold p_laws_markBraiding at h
  refine Ret.start (fn := Try.f13) Try.func13 rfl 14 rfl rfl ?_
  refine W.seq (W.region ?_)
  refine WL.box hS0 rfl (cs := [v_a_Cocycle_Orders, (Value.int .i64 a_Cocycle_Modulus), v_a_Cocycle_Values, v_a_Values]) rfl rfl ?_
  intro b1 wd2 hS3 he4 hx5
  replace hS3 : St w0 wd2 [(Ty.sl (Ty.i .i64)).at v_a_Cocycle_Orders a_Cocycle_Orders, (Ty.sl (Ty.sl (Ty.sl (Ty.i .i64)))).at v_a_Cocycle_Values a_Cocycle_Values, (Ty.sl (Ty.sl (Ty.i .i64))).at v_a_Values a_Values, R, bx b1 [v_a_Cocycle_Orders, (Value.int .i64 a_Cocycle_Modulus), v_a_Cocycle_Values, v_a_Values]] := hS3
  refine WL.val (Value.int .i64 (0 : Int)) _ (op_assign rfl) rfl ?_
  refine WL.nil ?_
  show W _ _ _ _ _ _
  refine W.seq (W.region ?_)
  refine WL.val (Value.pointer (some ⟨b1, 0, none⟩)) _ (op_fieldAddr fd_34_0 rfl) rfl ?_
  refine WL.val (Value.agg #[v_a_Cocycle_Orders, (Value.int .i64 a_Cocycle_Modulus), v_a_Cocycle_Values]) _ (op_loadBox st_32 rfl (St.boxAt hS3 4 rfl) rfl rfl) rfl ?_
  refine WL.val (Value.int .i64 k1) _ (op_move rfl) rfl ?_
  obtain ⟨x6, hx7, h⟩ := bs h
  have hS8 := St.fold [(Ty.sl (Ty.i .i64)).at v_a_Cocycle_Orders a_Cocycle_Orders, (Ty.sl (Ty.sl (Ty.sl (Ty.i .i64)))).at v_a_Cocycle_Values a_Cocycle_Values] [(Ty.sl (Ty.sl (Ty.i .i64))).at v_a_Values a_Values, R, bx b1 [v_a_Cocycle_Orders, (Value.int .i64 a_Cocycle_Modulus), v_a_Cocycle_Values, v_a_Values]] (St.pick hS3 [0, 1, 2, 3, 4] rfl)
  refine WL.call _ (op_call fn_35 (args2 rfl rfl)) (c_laws_markCocycle hS8 r_a_Cocycle_Modulus r_k1 hx7) rfl ?_
  rintro _ wd11 ⟨rfl, hr12, hS9⟩
  have hS10 := St.pick (St.unfold [(Ty.sl (Ty.i .i64)).at v_a_Cocycle_Orders x6.2.1, (Ty.sl (Ty.sl (Ty.sl (Ty.i .i64)))).at v_a_Cocycle_Values x6.2.2] [(Ty.sl (Ty.sl (Ty.i .i64))).at v_a_Values a_Values, R, bx b1 [v_a_Cocycle_Orders, (Value.int .i64 a_Cocycle_Modulus), v_a_Cocycle_Values, v_a_Values]] hS9) [0, 1, 2, 3, 4] rfl
  replace hS10 : St w0 wd11 [(Ty.sl (Ty.i .i64)).at v_a_Cocycle_Orders x6.2.1, (Ty.sl (Ty.sl (Ty.sl (Ty.i .i64)))).at v_a_Cocycle_Values x6.2.2, (Ty.sl (Ty.sl (Ty.i .i64))).at v_a_Values a_Values, R, bx b1 [v_a_Cocycle_Orders, (Value.int .i64 a_Cocycle_Modulus), v_a_Cocycle_Values, v_a_Values]] := hS10
  refine WL.val (Value.int .i64 x6.1) _ (op_assign rfl) rfl ?_
  refine WL.nil ?_
  show W _ _ _ _ _ _
  refine W.seq (W.region ?_)
  refine WL.val (Value.pointer (some ⟨b1, 3, none⟩)) _ (op_fieldAddr fd_34_1 rfl) rfl ?_
  refine WL.val v_a_Values _ (op_load one_26 rfl (BoxAt.cell (St.boxAt hS10 4 rfl) rfl)) rfl ?_
  refine WL.val (Value.int .i64 x6.1) _ (op_move rfl) rfl ?_
  obtain ⟨x13, hx14, h⟩ := bs h
  have hS15 := St.fold [(Ty.sl (Ty.sl (Ty.i .i64))).at v_a_Values a_Values] [(Ty.sl (Ty.i .i64)).at v_a_Cocycle_Orders x6.2.1, (Ty.sl (Ty.sl (Ty.sl (Ty.i .i64)))).at v_a_Cocycle_Values x6.2.2, R, bx b1 [v_a_Cocycle_Orders, (Value.int .i64 a_Cocycle_Modulus), v_a_Cocycle_Values, v_a_Values]] (St.pick hS10 [2, 0, 1, 3, 4] rfl)
  refine WL.call _ (op_call fn_24 (args2 rfl rfl)) (c_laws_markInt64SS hS15 hr12 hx14) rfl ?_
  rintro _ wd18 ⟨rfl, hr19, hS16⟩
  have hS17 := St.pick (St.unfold [(Ty.sl (Ty.sl (Ty.i .i64))).at v_a_Values x13.2] [(Ty.sl (Ty.i .i64)).at v_a_Cocycle_Orders x6.2.1, (Ty.sl (Ty.sl (Ty.sl (Ty.i .i64)))).at v_a_Cocycle_Values x6.2.2, R, bx b1 [v_a_Cocycle_Orders, (Value.int .i64 a_Cocycle_Modulus), v_a_Cocycle_Values, v_a_Values]] hS16) [1, 2, 0, 3, 4] rfl
  replace hS17 : St w0 wd18 [(Ty.sl (Ty.i .i64)).at v_a_Cocycle_Orders x6.2.1, (Ty.sl (Ty.sl (Ty.sl (Ty.i .i64)))).at v_a_Cocycle_Values x6.2.2, (Ty.sl (Ty.sl (Ty.i .i64))).at v_a_Values x13.2, R, bx b1 [v_a_Cocycle_Orders, (Value.int .i64 a_Cocycle_Modulus), v_a_Cocycle_Values, v_a_Values]] := hS17
  refine WL.val (Value.int .i64 x13.1) _ (op_assign rfl) rfl ?_
  refine WL.nil ?_
  show W _ _ _ _ _ _
  refine W.seq (W.region ?_)
  refine WL.val (Value.int .i64 x13.1) _ (op_move rfl) rfl ?_
  refine WL.val (Value.int .i64 x13.1) _ (op_assign rfl) rfl ?_
  refine WL.nil ?_
  show W _ _ _ _ _ _
  refine W.ret ?_
  obtain rfl := Option.some.inj h
  show FinP _ _ _ _ _ _ _
  exact FinP.ret _ (res1 rfl rfl) ⟨rfl, hr19, (St.pick hS17 [0, 1, 2, 3] rfl)⟩

theorem c_laws_heldInt64S {w : World} {a : (List Int)} {v_a : Value} {k1 : Int} (r_a : (Ty.sl (Ty.i .i64)).rep w v_a a) (r_k1 : InR .i64 k1) {res : Int} (h : p_laws_heldInt64S a k1  = some res) :
    Ret Try.prog 15 #[v_a, (Value.int .i64 k1)] w (fun v w' => v = Value.int .i64 res ∧ InR .i64 res ∧ Ext w w') := by
  unfold p_laws_heldInt64S at h
  have hS0 : St w w [] := St.start w
  refine Ret.start (fn := Try.f15) Try.func15 rfl 21 rfl rfl ?_
  refine W.seq (W.region ?_)
  refine WL.val (Value.int .i64 (0 : Int)) _ (op_assign rfl) rfl ?_
  refine WL.nil ?_
  show W _ _ _ _ _ _
  refine W.seq (W.seq (W.region ?_))
  refine WL.val (Value.int .i64 (0 : Int)) _ (op_assign rfl) rfl ?_
  refine WL.nil ?_
  show W _ _ _ _ _ _
  obtain ⟨res1, hres2, h⟩ := bs h
  refine W.blockLoop (fun fq wq => ∃ s, res1 = Res.fin s ∧ fq 1 = Value.int .i64 s ∧ InR .i64 s ∧ St w wq []) ?_ ?_
  · refine W.forN (fun k (s : Int) fq wq => fq 0 = v_a ∧ fq 1 = Value.int .i64 s ∧ InR .i64 s ∧ fq 5 = Value.int .i64 (k : Int) ∧ InR .i64 (k : Int) ∧ St w wq []) hres2 ⟨rfl, rfl, r_k1, rfl, (inR_i64.2 (show (-9223372036854775808 : Int) ≤ 0 ∧ (0 : Int) ≤ 9223372036854775807 from by decide)), hS0⟩ ?_ ?_
    · intro k3 x4 ct5 f6 wd7 hk8 hb9 hI10 hbrk11 hret12
      replace hI10 : f6 0 = v_a ∧ f6 1 = Value.int .i64 x4 ∧ InR .i64 x4 ∧ f6 5 = Value.int .i64 (k3 : Int) ∧ InR .i64 (k3 : Int) ∧ St w wd7 [] := hI10
      replace hb9 : p_laws_heldInt64S_L1 a k3 x4 = some ct5 := hb9
      unfold p_laws_heldInt64S_L1 at hb9
      obtain ⟨hf13, hf14, hr15, hf16, hr17, hS18⟩ := hI10
      refine W.seq (W.seq (W.region ?_))
      refine WL.val (Value.int .i64 (k3 : Int)) _ (op_move hf16) rfl ?_
      refine WL.val v_a _ (op_move hf13) rfl ?_
      have hr19 := inR_len (Ty.lift _ hS18.ext r_a)
      refine WL.val (Value.int .i64 ((a).length : Int)) _ (op_lenL sl_22 (Ty.lift _ hS18.ext r_a) rfl) rfl ?_
      refine WL.val (Value.bool (decide ((k3 : Int) < ((a).length : Int)))) _ (op_lss rfl rfl) rfl ?_
      have hl20 : (k3 : Int) < ((a).length : Int) := by omega
      refine WL.nil ?_
      show W _ _ _ _ _ _
      refine W.condT (decide ((k3 : Int) < ((a).length : Int))) rfl (decide_eq_true hl20) ?_
      refine W.skip ?_
      show W _ _ _ _ _ _
      refine W.seq ?_
      refine W.block ?_
      refine W.seq (W.seq (W.region ?_))
      refine WL.val v_a _ (op_move hf13) rfl ?_
      refine WL.val (Value.int .i64 (k3 : Int)) _ (op_move hf16) rfl ?_
      obtain ⟨x22, hx25, hb9⟩ := bs hb9
      obtain ⟨ha23, hb24, hx25⟩ := idx_some hx25
      refine WL.val (Value.pointer (some (elA v_a ((k3 : Int)).toNat))) _ (op_idx sl_22 (Ty.lift _ hS18.ext r_a) rfl rfl ha23 hb24) rfl ?_
      obtain ⟨u26, hc27, hr28⟩ := repSl.el r_a hx25
      obtain ⟨rfl, hr28⟩ := hr28
      refine WL.val (Value.int .i64 x22) _ (op_load one_2 rfl (Ext.cell hS18.ext hc27)) rfl ?_
      refine WL.val (Value.int .i64 x4) _ (op_move hf14) rfl ?_
      refine WL.val (Value.bool (x22 != x4)) _ (op_neq rfl rfl) rfl ?_
      refine WL.nil ?_
      show W _ _ _ _ _ _
      refine W.cond (x22 != x4) rfl (fun hc29 => ?_) (fun hc29 => ?_)
      · replace hb9 := ip hb9 hc29
        refine W.seq (W.region ?_)
        refine WL.val (Value.int .i64 (-1 : Int)) _ (op_assign rfl) rfl ?_
        refine WL.nil ?_
        show W _ _ _ _ _ _
        refine W.ret ?_
        obtain rfl := Option.some.inj hb9
        obtain rfl := hret12 _ rfl
        replace h := onRes_ret h
        obtain rfl := Option.some.inj h
        show FinP _ _ _ _ _ _ _
        exact FinP.ret _ (res1 rfl rfl) ⟨rfl, (inR_i64.2 (show (-9223372036854775808 : Int) ≤ -1 ∧ (-1 : Int) ≤ 9223372036854775807 from by decide)), hS18.ext⟩
      · replace hb9 := inegb hb9 hc29
        refine W.skip ?_
        show W _ _ _ _ _ _
        refine W.region ?_
        refine WL.val (Value.int .i64 x4) _ (op_move hf14) rfl ?_
        refine WL.val (Value.int .i64 (w64 (x4 + (1 : Int)))) _ (op_add rfl rfl) rfl ?_
        refine WL.val (Value.int .i64 (w64 (x4 + (1 : Int)))) _ (op_assign rfl) rfl ?_
        refine WL.nil ?_
        show W _ _ _ _ _ _
        refine W.region ?_
        refine WL.val (Value.int .i64 (k3 : Int)) _ (op_move hf16) rfl ?_
        refine WL.val (Value.int .i64 (w64 ((k3 : Int) + (1 : Int)))) _ (op_add rfl rfl) rfl ?_
        refine WL.val (Value.int .i64 (w64 ((k3 : Int) + (1 : Int)))) _ (op_assign rfl) rfl ?_
        refine WL.nil ?_
        obtain rfl := Option.some.inj hb9
        show ∃ s, _ = Ctl.next s ∧ _
        exact ⟨_, rfl, hf13, rfl, (inR_wrap _ _), (ctr_next hl20 hr19), (ctr_rng hl20 hr19), hS18⟩
    · intro x37 f32 wd33 hs34 hI35
      replace hI35 : f32 0 = v_a ∧ f32 1 = Value.int .i64 x37 ∧ InR .i64 x37 ∧ f32 5 = Value.int .i64 (((a).length : Nat) : Int) ∧ InR .i64 (((a).length : Nat) : Int) ∧ St w wd33 [] := hI35
      obtain ⟨hf38, hf39, hr40, hf41, hr42, hS43⟩ := hI35
      refine W.seq (W.seq (W.region ?_))
      refine WL.val (Value.int .i64 (((a).length : Nat) : Int)) _ (op_move hf41) rfl ?_
      refine WL.val v_a _ (op_move hf38) rfl ?_
      have hr44 := inR_len (Ty.lift _ hS43.ext r_a)
      refine WL.val (Value.int .i64 ((a).length : Int)) _ (op_lenL sl_22 (Ty.lift _ hS43.ext r_a) rfl) rfl ?_
      refine WL.val (Value.bool (decide ((((a).length : Nat) : Int) < ((a).length : Int)))) _ (op_lss rfl rfl) rfl ?_
      have hl45 : ¬ (((a).length : Nat) : Int) < ((a).length : Int) := by omega
      refine WL.nil ?_
      show W _ _ _ _ _ _
      refine W.condF (decide ((((a).length : Nat) : Int) < ((a).length : Int))) rfl (decide_eq_false hl45) ?_
      refine W.exit ?_
      show _ = _ ∧ _
      exact ⟨rfl, _, hs34, hf39, hr40, hS43⟩
  · rintro f46 wd47 ⟨x50, rfl, hq48⟩
    replace h := onRes_fin h
    replace hq48 : f46 1 = Value.int .i64 x50 ∧ InR .i64 x50 ∧ St w wd47 [] := hq48
    obtain ⟨hf51, hr52, hS53⟩ := hq48
    show W _ _ _ _ _ _
    refine W.seq (W.region ?_)
    refine WL.val (Value.int .i64 x50) _ (op_move hf51) rfl ?_
    refine WL.val (Value.int .i64 x50) _ (op_assign rfl) rfl ?_
    refine WL.nil ?_
    show W _ _ _ _ _ _
    refine W.ret ?_
    obtain rfl := Option.some.inj h
    show FinP _ _ _ _ _ _ _
    exact FinP.ret _ (res1 rfl rfl) ⟨rfl, hr52, hS53.ext⟩

theorem c_spec_l18Is {w : World} {b_Cocycle_Orders : (List Int)} {v_b_Cocycle_Orders : Value} {b_Cocycle_Modulus : Int} {b_Cocycle_Values : (List (List (List Int)))} {v_b_Cocycle_Values : Value} {b_Values : (List (List Int))} {v_b_Values : Value} (r_b_Cocycle_Orders : (Ty.sl (Ty.i .i64)).rep w v_b_Cocycle_Orders b_Cocycle_Orders) (r_b_Cocycle_Modulus : InR .i64 b_Cocycle_Modulus) (r_b_Cocycle_Values : (Ty.sl (Ty.sl (Ty.sl (Ty.i .i64)))).rep w v_b_Cocycle_Values b_Cocycle_Values) (r_b_Values : (Ty.sl (Ty.sl (Ty.i .i64))).rep w v_b_Values b_Values) {res : Bool} (h : p_spec_l18Is b_Cocycle_Orders b_Cocycle_Modulus b_Cocycle_Values b_Values  = some res) :
    Ret Try.prog 36 #[(Value.agg #[v_b_Cocycle_Orders, (Value.int .i64 b_Cocycle_Modulus), v_b_Cocycle_Values, v_b_Values])] w (fun v w' => v = Value.bool res ∧ Ext w w') := by
  unfold p_spec_l18Is at h
  have hS0 : St w w [] := St.start w
  refine Ret.start (fn := Try.f36) Try.func36 rfl 14 rfl rfl ?_
  refine W.seq (W.region ?_)
  refine WL.box hS0 rfl (cs := [v_b_Cocycle_Orders, (Value.int .i64 b_Cocycle_Modulus), v_b_Cocycle_Values, v_b_Values]) rfl rfl ?_
  intro b1 wd2 hS3 he4 hx5
  replace hS3 : St w wd2 [bx b1 [v_b_Cocycle_Orders, (Value.int .i64 b_Cocycle_Modulus), v_b_Cocycle_Values, v_b_Values]] := hS3
  have hx6 := St.boxAt hS3 0 rfl
  have hE7 : Ext w wd2 := hS3.ext
  have hS8 : St wd2 wd2 [] := St.start wd2
  refine WL.val (Value.bool false) _ (op_assign rfl) rfl ?_
  refine WL.nil ?_
  show W _ _ _ _ _ _
  refine W.seq (W.region ?_)
  refine WL.val (Value.agg #[v_b_Cocycle_Orders, (Value.int .i64 b_Cocycle_Modulus), v_b_Cocycle_Values, v_b_Values]) _ (op_loadBox st_34 rfl (BoxAt.lift hS8.ext hx6) rfl rfl) rfl ?_
  obtain ⟨x9, hx10, h⟩ := bs h
  refine WL.call _ (op_call fn_31 (args1 rfl)) (c_spec_l18Shape (Ty.lift _ (Ext.trans hE7 hS8.ext) r_b_Cocycle_Orders) r_b_Cocycle_Modulus (Ty.lift _ (Ext.trans hE7 hS8.ext) r_b_Cocycle_Values) (Ty.lift _ (Ext.trans hE7 hS8.ext) r_b_Values) hx10) rfl ?_
  rintro _ wd11 ⟨rfl, he12⟩
  have hS14 := St.extend hS8 he12
  replace hS14 : St wd2 wd11 [] := hS14
  refine WL.val (Value.bool x9) _ (op_move rfl) rfl ?_
  obtain ⟨x16, hj17, h⟩ := bs h
  refine WL.cut 8 (fun fq wq => fq 13 = Value.bool x16 ∧ St wd2 wq []) ?_ ?_
  · rcases Bool.eq_false_or_eq_true x9 with hc15 | hc15
    · replace hj17 := ip hj17 hc15
      refine WL.grun rfl (bool_of rfl hc15) ?_
      refine WL.val (Value.pointer (some ⟨b1, 0, none⟩)) _ (op_fieldAddr fd_34_0 rfl) rfl ?_
      refine WL.grun rfl (bool_of rfl hc15) ?_
      refine WL.val (Value.agg #[v_b_Cocycle_Orders, (Value.int .i64 b_Cocycle_Modulus), v_b_Cocycle_Values]) _ (op_loadBox st_32 rfl (BoxAt.lift hS14.ext hx6) rfl rfl) rfl ?_
      refine WL.grun rfl (bool_of rfl hc15) ?_
      refine WL.val (Value.pointer (some ⟨b1, 3, none⟩)) _ (op_fieldAddr fd_34_1 rfl) rfl ?_
      refine WL.grun rfl (bool_of rfl hc15) ?_
      refine WL.val v_b_Values _ (op_load one_26 rfl (BoxAt.cell (BoxAt.lift hS14.ext hx6) rfl)) rfl ?_
      refine WL.grun rfl (bool_of rfl hc15) ?_
      obtain ⟨x21, hx22, hj17⟩ := bs hj17
      refine WL.call _ (op_call fn_32 (args2 rfl rfl)) (c_spec_l18Fault (Ty.lift _ (Ext.trans hE7 hS14.ext) r_b_Cocycle_Orders) r_b_Cocycle_Modulus (Ty.lift _ (Ext.trans hE7 hS14.ext) r_b_Cocycle_Values) (Ty.lift _ (Ext.trans hE7 hS14.ext) r_b_Values) hx22) rfl ?_
      rintro u23 wd24 ⟨_, rfl, he25, hs26⟩
      have hS27 := St.join hS14 he25 hs26
      replace hS27 : St wd2 wd24 [(Ty.sl (Ty.i .i64)).at u23 x21] := hS27
      refine WL.grun rfl (bool_of rfl hc15) ?_
      have hr28 := inR_len (St.rep (t := (Ty.sl (Ty.i .i64))) hS27 0 rfl)
      refine WL.val (Value.int .i64 ((x21).length : Int)) _ (op_lenL sl_22 (St.rep (t := (Ty.sl (Ty.i .i64))) hS27 0 rfl) rfl) rfl ?_
      refine WL.grun rfl (bool_of rfl hc15) ?_
      refine WL.val (Value.bool (((x21).length : Int) == (0 : Int))) _ (op_eql rfl rfl) rfl ?_
      refine WL.val (Value.bool (((x21).length : Int) == (0 : Int))) _ (op_pick_t (evb_of rfl hc15) rfl) rfl ?_
      refine WL.nil ?_
      obtain rfl := Option.some.inj hj17
      exact ⟨rfl, rfl, (St.pick hS27 [] rfl)⟩
    · replace hj17 := inegb hj17 hc15
      refine WL.gskip rfl (bool_of rfl hc15) rfl ?_
      refine WL.gskip rfl (bool_of rfl hc15) rfl ?_
      refine WL.gskip rfl (bool_of rfl hc15) rfl ?_
      refine WL.gskip rfl (bool_of rfl hc15) rfl ?_
      refine WL.gskip rfl (bool_of rfl hc15) rfl ?_
      refine WL.gskip rfl (bool_of rfl hc15) rfl ?_
      refine WL.gskip rfl (bool_of rfl hc15) rfl ?_
      refine WL.val (Value.bool false) _ (op_pick_f (evb_of rfl hc15) rfl) rfl ?_
      refine WL.nil ?_
      obtain rfl := Option.some.inj hj17
      exact ⟨rfl, rfl, hS14⟩
  · intro f18 wd19 hq20
    obtain ⟨hf29, hS30⟩ := hq20
    refine WL.val (Value.bool x16) _ (op_assign hf29) rfl ?_
    refine WL.nil ?_
    show W _ _ _ _ _ _
    refine W.ret ?_
    obtain rfl := Option.some.inj h
    show FinP _ _ _ _ _ _ _
    exact FinP.ret _ (res1 rfl rfl) ⟨rfl, (Ext.trans hE7 hS30.ext)⟩

theorem c_spec_l18Group {w : World} {orders : (List Int)} {v_orders : Value} {m : Int} (r_orders : (Ty.sl (Ty.i .i64)).rep w v_orders orders) (r_m : InR .i64 m) {res : Int} (h : p_spec_l18Group orders m  = some res) :
    Ret Try.prog 41 #[v_orders, (Value.int .i64 m)] w (fun v w' => v = Value.int .i64 res ∧ InR .i64 res ∧ Ext w w') := by
  unfold p_spec_l18Group at h
  have hS0 : St w w [] := St.start w
  refine Ret.start (fn := Try.f41) Try.func41 rfl 17 rfl rfl ?_
  refine W.seq (W.region ?_)
  refine WL.val (Value.int .i64 (0 : Int)) _ (op_assign rfl) rfl ?_
  refine WL.nil ?_
  show W _ _ _ _ _ _
  refine W.seq ?_
  refine W.block ?_
  refine W.seq (W.region ?_)
  refine WL.val v_orders _ (op_move rfl) rfl ?_
  obtain ⟨x1, hx2, h⟩ := bs h
  refine WL.call _ (op_call fn_73 (args1 rfl)) (c_spec_l06Orders (Ty.lift _ hS0.ext r_orders) hx2) rfl ?_
  rintro _ wd3 ⟨rfl, he4⟩
  have hS6 := St.extend hS0 he4
  replace hS6 : St w wd3 [] := hS6
  refine WL.val (Value.bool (!x1)) _ (op_not rfl) rfl ?_
  refine WL.val (Value.bool (!x1)) _ (op_assign rfl) rfl ?_
  refine WL.nil ?_
  show W _ _ _ _ _ _
  refine W.cond (!x1) rfl (fun hc7 => ?_) (fun hc7 => ?_)
  · replace h := ip h hc7
    refine W.seq (W.region ?_)
    refine WL.val (Value.int .i64 (1 : Int)) _ (op_assign rfl) rfl ?_
    refine WL.nil ?_
    show W _ _ _ _ _ _
    refine W.ret ?_
    obtain rfl := Option.some.inj h
    show FinP _ _ _ _ _ _ _
    exact FinP.ret _ (res1 rfl rfl) ⟨rfl, (inR_i64.2 (show (-9223372036854775808 : Int) ≤ 1 ∧ (1 : Int) ≤ 9223372036854775807 from by decide)), hS6.ext⟩
  · replace h := inegb h hc7
    refine W.seq (W.region ?_)
    refine WL.val v_orders _ (op_move rfl) rfl ?_
    obtain ⟨x9, hx10, h⟩ := bs h
    refine WL.call _ (op_call fn_43 (args1 rfl)) (c_spec_l17Size (Ty.lift _ hS6.ext r_orders) hx10) rfl ?_
    rintro _ wd12 ⟨rfl, hr11, he13⟩
    have hS15 := St.extend hS6 he13
    replace hS15 : St w wd12 [] := hS15
    refine WL.val (Value.bool (decide (x9 > (8 : Int)))) _ (op_gtr rfl rfl) rfl ?_
    refine WL.val (Value.bool (decide (x9 > (8 : Int)))) _ (op_assign rfl) rfl ?_
    refine WL.nil ?_
    show W _ _ _ _ _ _
    refine W.cond (decide (x9 > (8 : Int))) rfl (fun hc16 => ?_) (fun hc16 => ?_)
    · replace h := ip h hc16
      refine W.seq (W.region ?_)
      refine WL.val (Value.int .i64 (3 : Int)) _ (op_assign rfl) rfl ?_
      refine WL.nil ?_
      show W _ _ _ _ _ _
      refine W.ret ?_
      obtain rfl := Option.some.inj h
      show FinP _ _ _ _ _ _ _
      exact FinP.ret _ (res1 rfl rfl) ⟨rfl, (inR_i64.2 (show (-9223372036854775808 : Int) ≤ 3 ∧ (3 : Int) ≤ 9223372036854775807 from by decide)), hS15.ext⟩
    · replace h := inegb h hc16
      refine W.seq (W.region ?_)
      refine WL.val (Value.int .i64 m) _ (op_move rfl) rfl ?_
      obtain ⟨x18, hx19, h⟩ := bs h
      refine WL.call _ (op_call fn_74 (args3 rfl rfl rfl)) (c_spec_l01In r_m (inR_i64.2 (show (-9223372036854775808 : Int) ≤ 1 ∧ (1 : Int) ≤ 9223372036854775807 from by decide)) (inR_i64.2 (show (-9223372036854775808 : Int) ≤ 1000 ∧ (1000 : Int) ≤ 9223372036854775807 from by decide)) hx19) rfl ?_
      rintro _ wd20 ⟨rfl, he21⟩
      have hS23 := St.extend hS15 he21
      replace hS23 : St w wd20 [] := hS23
      refine WL.val (Value.bool (!x18)) _ (op_not rfl) rfl ?_
      refine WL.val (Value.bool (!x18)) _ (op_assign rfl) rfl ?_
      refine WL.nil ?_
      show W _ _ _ _ _ _
      refine W.cond (!x18) rfl (fun hc24 => ?_) (fun hc24 => ?_)
      · replace h := ip h hc24
        refine W.seq (W.region ?_)
        refine WL.val (Value.int .i64 (2 : Int)) _ (op_assign rfl) rfl ?_
        refine WL.nil ?_
        show W _ _ _ _ _ _
        refine W.ret ?_
        obtain rfl := Option.some.inj h
        show FinP _ _ _ _ _ _ _
        exact FinP.ret _ (res1 rfl rfl) ⟨rfl, (inR_i64.2 (show (-9223372036854775808 : Int) ≤ 2 ∧ (2 : Int) ≤ 9223372036854775807 from by decide)), hS23.ext⟩
      · replace h := inegb h hc24
        refine W.skip ?_
        show W _ _ _ _ _ _
        refine W.seq (W.region ?_)
        refine WL.val (Value.int .i64 (0 : Int)) _ (op_assign rfl) rfl ?_
        refine WL.nil ?_
        show W _ _ _ _ _ _
        refine W.ret ?_
        obtain rfl := Option.some.inj h
        show FinP _ _ _ _ _ _ _
        exact FinP.ret _ (res1 rfl rfl) ⟨rfl, (inR_i64.2 (show (-9223372036854775808 : Int) ≤ 0 ∧ (0 : Int) ≤ 9223372036854775807 from by decide)), hS23.ext⟩

theorem c_spec_l01Own {w : World} {list : (List Int)} {v_list : Value} (r_list : (Ty.sl (Ty.i .i64)).rep w v_list list) {res : (List Int)} (h : p_spec_l01Own list  = some res) :
    Ret Try.prog 44 #[v_list] w (fun v w' => ∃ (u0 : Value), v = u0 ∧ Ext w w' ∧ Sep w.heap.size w' [(Ty.sl (Ty.i .i64)).at u0 res]) := by
  unfold p_spec_l01Own at h
  have hS0 : St w w [] := St.start w
  refine Ret.start (fn := Try.f44) Try.func44 rfl 6 rfl rfl ?_
  refine W.seq (W.region ?_)
  refine WL.val (Value.slice none 0 0) _ (op_assign rfl) rfl ?_
  refine WL.nil ?_
  show W _ _ _ _ _ _
  refine W.seq (W.region ?_)
  refine WL.lit0 (t := (Ty.i .i64)) hS0 sl_22 rfl rfl ?_
  intro u1 wd2 hS3 he4
  replace hS3 : St w wd2 [(Ty.sl (Ty.i .i64)).at u1 ([] : (List Int))] := hS3
  refine WL.val v_list _ (op_move rfl) rfl ?_
  obtain ⟨x5, hx6, h⟩ := bs h
  refine WL.append (flat_i .i64) hS3 (k := 0) rfl sl_22 rfl rfl rfl rfl (Ty.lift _ hS3.ext r_list) hx6 rfl ?_
  intro u7 wd8 hS9 hz10
  replace hS9 : St w wd8 [(Ty.sl (Ty.i .i64)).at u7 x5] := hS9
  refine WL.val u7 _ (op_assign rfl) rfl ?_
  refine WL.nil ?_
  show W _ _ _ _ _ _
  refine W.ret ?_
  obtain rfl := Option.some.inj h
  show FinP _ _ _ _ _ _ _
  exact FinP.ret _ (res1 rfl rfl) ⟨u7, rfl, hS9.ext, (St.out (St.pick hS9 [0] rfl) (Ext.refl _))⟩

theorem c_spec_l06Empty {w : World} {n : Int} (r_n : InR .i64 n) {res : (List (List (List Int)))} (h : p_spec_l06Empty n  = some res) :
    Ret Try.prog 45 #[(Value.int .i64 n)] w (fun v w' => ∃ (u0 : Value), v = u0 ∧ Ext w w' ∧ Sep w.heap.size w' [(Ty.sl (Ty.sl (Ty.sl (Ty.i .i64)))).at u0 res]) := by
  unfold p_spec_l06Empty at h
  have hS0 : St w w [] := St.start w
  refine Ret.start (fn := Try.f45) Try.func45 rfl 29 rfl rfl ?_
  refine W.seq (W.region ?_)
  refine WL.val (Value.slice none 0 0) _ (op_assign rfl) rfl ?_
  refine WL.nil ?_
  show W _ _ _ _ _ _
  refine W.seq (W.region ?_)
  refine WL.lit0 (t := (Ty.sl (Ty.sl (Ty.i .i64)))) hS0 sl_23 rfl rfl ?_
  intro u1 wd2 hS3 he4
  replace hS3 : St w wd2 [(Ty.sl (Ty.sl (Ty.sl (Ty.i .i64)))).at u1 ([] : (List (List (List Int))))] := hS3
  refine WL.val u1 _ (op_assign rfl) rfl ?_
  refine WL.nil ?_
  show W _ _ _ _ _ _
  refine W.seq (W.seq (W.region ?_))
  refine WL.val (Value.int .i64 (0 : Int)) _ (op_assign rfl) rfl ?_
  refine WL.nil ?_
  show W _ _ _ _ _ _
  obtain ⟨res5, hres6, h⟩ := bs h
  refine W.blockLoop (fun fq wq => ∃ s, res5 = Res.fin s ∧ ∃ (uu0 : Value), fq 3 = uu0 ∧ St w wq [(Ty.sl (Ty.sl (Ty.sl (Ty.i .i64)))).at uu0 s]) ?_ ?_
  · refine W.forN (fun k (s : (List (List (List Int)))) fq wq => ∃ (uu0 : Value), fq 0 = (Value.int .i64 n) ∧ fq 3 = uu0 ∧ fq 4 = Value.int .i64 (k : Int) ∧ InR .i64 (k : Int) ∧ St w wq [(Ty.sl (Ty.sl (Ty.sl (Ty.i .i64)))).at uu0 s]) hres6 ⟨u1, rfl, rfl, rfl, (inR_i64.2 (show (-9223372036854775808 : Int) ≤ 0 ∧ (0 : Int) ≤ 9223372036854775807 from by decide)), hS3⟩ ?_ ?_
    · intro k7 x8 ct9 f10 wd11 hk12 hb13 hI14 hbrk15 hret16
      replace hI14 : ∃ (uu0 : Value), f10 0 = (Value.int .i64 n) ∧ f10 3 = uu0 ∧ f10 4 = Value.int .i64 (k7 : Int) ∧ InR .i64 (k7 : Int) ∧ St w wd11 [(Ty.sl (Ty.sl (Ty.sl (Ty.i .i64)))).at uu0 x8] := hI14
      replace hb13 : p_spec_l06Empty_L1 n k7 x8 = some ct9 := hb13
      unfold p_spec_l06Empty_L1 at hb13
      obtain ⟨u17, hf18, hf19, hf20, hr21, hS22⟩ := hI14
      refine W.seq (W.seq (W.region ?_))
      refine WL.val (Value.int .i64 (k7 : Int)) _ (op_move hf20) rfl ?_
      refine WL.val (Value.int .i64 n) _ (op_move hf18) rfl ?_
      refine WL.val (Value.bool (decide ((k7 : Int) < n))) _ (op_lss rfl rfl) rfl ?_
      have hl23 : (k7 : Int) < n := by omega
      refine WL.nil ?_
      show W _ _ _ _ _ _
      refine W.condT (decide ((k7 : Int) < n)) rfl (decide_eq_true hl23) ?_
      refine W.skip ?_
      show W _ _ _ _ _ _
      refine W.seq ?_
      refine W.block ?_
      refine W.seq (W.region ?_)
      refine WL.lit0 (t := (Ty.sl (Ty.i .i64))) hS22 sl_26 rfl rfl ?_
      intro u25 wd26 hS27 he28
      replace hS27 : St w wd26 [(Ty.sl (Ty.sl (Ty.sl (Ty.i .i64)))).at u17 x8, (Ty.sl (Ty.sl (Ty.i .i64))).at u25 ([] : (List (List Int)))] := hS27
      refine WL.val u25 _ (op_assign rfl) rfl ?_
      refine WL.nil ?_
      show W _ _ _ _ _ _
      refine W.seq (W.seq (W.region ?_))
      refine WL.val (Value.int .i64 (0 : Int)) _ (op_assign rfl) rfl ?_
      refine WL.nil ?_
      show W _ _ _ _ _ _
      obtain ⟨res29, hres30, hb13⟩ := bs hb13
      refine W.blockLoop (fun fq wq => ∃ s, res29 = Res.fin s ∧ ∃ (uu0 : Value), fq 0 = (Value.int .i64 n) ∧ fq 3 = u17 ∧ fq 4 = (Value.int .i64 (k7 : Int)) ∧ fq 5 = uu0 ∧ St w wq [(Ty.sl (Ty.sl (Ty.sl (Ty.i .i64)))).at u17 x8, (Ty.sl (Ty.sl (Ty.i .i64))).at uu0 s]) ?_ ?_
      · refine W.forN (fun k (s : (List (List Int))) fq wq => ∃ (uu0 : Value), fq 0 = (Value.int .i64 n) ∧ fq 3 = u17 ∧ fq 4 = (Value.int .i64 (k7 : Int)) ∧ fq 5 = uu0 ∧ fq 6 = Value.int .i64 (k : Int) ∧ InR .i64 (k : Int) ∧ St w wq [(Ty.sl (Ty.sl (Ty.sl (Ty.i .i64)))).at u17 x8, (Ty.sl (Ty.sl (Ty.i .i64))).at uu0 s]) hres30 ⟨u25, hf18, hf19, hf20, rfl, rfl, (inR_i64.2 (show (-9223372036854775808 : Int) ≤ 0 ∧ (0 : Int) ≤ 9223372036854775807 from by decide)), hS27⟩ ?_ ?_
        · intro k31 x32 ct33 f34 wd35 hk36 hb37 hI38 hbrk39 hret40
          replace hI38 : ∃ (uu0 : Value), f34 0 = (Value.int .i64 n) ∧ f34 3 = u17 ∧ f34 4 = (Value.int .i64 (k7 : Int)) ∧ f34 5 = uu0 ∧ f34 6 = Value.int .i64 (k31 : Int) ∧ InR .i64 (k31 : Int) ∧ St w wd35 [(Ty.sl (Ty.sl (Ty.sl (Ty.i .i64)))).at u17 x8, (Ty.sl (Ty.sl (Ty.i .i64))).at uu0 x32] := hI38
          replace hb37 : p_spec_l06Empty_L2 n k31 x32 = some ct33 := hb37
          unfold p_spec_l06Empty_L2 at hb37
          obtain ⟨u41, hf42, hf43, hf44, hf45, hf46, hr47, hS48⟩ := hI38
          refine W.seq (W.seq (W.region ?_))
          refine WL.val (Value.int .i64 (k31 : Int)) _ (op_move hf46) rfl ?_
          refine WL.val (Value.int .i64 n) _ (op_move hf42) rfl ?_
          refine WL.val (Value.bool (decide ((k31 : Int) < n))) _ (op_lss rfl rfl) rfl ?_
          have hl49 : (k31 : Int) < n := by omega
          refine WL.nil ?_
          show W _ _ _ _ _ _
          refine W.condT (decide ((k31 : Int) < n)) rfl (decide_eq_true hl49) ?_
          refine W.skip ?_
          show W _ _ _ _ _ _
          refine W.seq ?_
          refine W.block ?_
          refine W.region ?_
          refine WL.val u41 _ (op_move hf45) rfl ?_
          refine WL.val (Value.int .i64 n) _ (op_move hf42) rfl ?_
          obtain ⟨x51, hx52, hb37⟩ := bs hb37
          refine WL.make (t := (Ty.i .i64)) hS48 sl_22 (fun _ _ => ⟨rfl, (inR_i64.2 (show (-9223372036854775808 : Int) ≤ 0 ∧ (0 : Int) ≤ 9223372036854775807 from by decide))⟩) rfl rfl hx52 rfl rfl ?_
          intro u53 wd54 hS55 he56
          replace hS55 : St w wd54 [(Ty.sl (Ty.sl (Ty.sl (Ty.i .i64)))).at u17 x8, (Ty.sl (Ty.sl (Ty.i .i64))).at u41 x32, (Ty.sl (Ty.i .i64)).at u53 x51] := hS55
          refine WL.lit [u53] hS55 sl_26 rfl rfl (fillL rfl ⟨rfl, rfl, (cells_rep (St.rep (t := (Ty.sl (Ty.i .i64))) hS55 2 rfl)), trivial⟩) rfl rfl ?_
          intro b61 wd58 hS59 he60 hx62
          replace hS59 : St w wd58 [(Ty.sl (Ty.sl (Ty.sl (Ty.i .i64)))).at u17 x8, (Ty.sl (Ty.sl (Ty.i .i64))).at u41 x32, (Ty.sl (Ty.i .i64)).at u53 x51, bx b61 [u53]] := hS59
          obtain ⟨x63, hx64, hb37⟩ := bs hb37
          refine WL.appendRow hS59 (k := 1) (k2 := 2) (k3 := 3) rfl rfl rfl rfl sl_26 rfl rfl rfl rfl hx64 rfl ?_
          intro u65 wd66 hS67 hz68
          replace hS67 : St w wd66 [(Ty.sl (Ty.sl (Ty.sl (Ty.i .i64)))).at u17 x8, (Ty.sl (Ty.sl (Ty.i .i64))).at u65 x63, emp, bx b61 [u53]] := hS67
          refine WL.val u65 _ (op_assign rfl) rfl ?_
          refine WL.nil ?_
          show W _ _ _ _ _ _
          refine W.region ?_
          refine WL.val (Value.int .i64 (k31 : Int)) _ (op_move hf46) rfl ?_
          refine WL.val (Value.int .i64 (w64 ((k31 : Int) + (1 : Int)))) _ (op_add rfl rfl) rfl ?_
          refine WL.val (Value.int .i64 (w64 ((k31 : Int) + (1 : Int)))) _ (op_assign rfl) rfl ?_
          refine WL.nil ?_
          obtain rfl := Option.some.inj hb37
          show ∃ s, _ = Ctl.next s ∧ _
          exact ⟨_, rfl, u65, hf42, hf43, hf44, rfl, (ctr_next hl49 r_n), (ctr_rng hl49 r_n), (St.pick hS67 [0, 1] rfl)⟩
        · intro x75 f70 wd71 hs72 hI73
          replace hI73 : ∃ (uu0 : Value), f70 0 = (Value.int .i64 n) ∧ f70 3 = u17 ∧ f70 4 = (Value.int .i64 (k7 : Int)) ∧ f70 5 = uu0 ∧ f70 6 = Value.int .i64 (((n).toNat : Nat) : Int) ∧ InR .i64 (((n).toNat : Nat) : Int) ∧ St w wd71 [(Ty.sl (Ty.sl (Ty.sl (Ty.i .i64)))).at u17 x8, (Ty.sl (Ty.sl (Ty.i .i64))).at uu0 x75] := hI73
          obtain ⟨u76, hf77, hf78, hf79, hf80, hf81, hr82, hS83⟩ := hI73
          refine W.seq (W.seq (W.region ?_))
          refine WL.val (Value.int .i64 (((n).toNat : Nat) : Int)) _ (op_move hf81) rfl ?_
          refine WL.val (Value.int .i64 n) _ (op_move hf77) rfl ?_
          refine WL.val (Value.bool (decide ((((n).toNat : Nat) : Int) < n))) _ (op_lss rfl rfl) rfl ?_
          have hl84 : ¬ (((n).toNat : Nat) : Int) < n := by omega
          refine WL.nil ?_
          show W _ _ _ _ _ _
          refine W.condF (decide ((((n).toNat : Nat) : Int) < n)) rfl (decide_eq_false hl84) ?_
          refine W.exit ?_
          show _ = _ ∧ _
          exact ⟨rfl, _, hs72, u76, hf77, hf78, hf79, hf80, hS83⟩
      · rintro f85 wd86 ⟨x89, rfl, hq87⟩
        replace hb13 := onRes_fin hb13
        replace hq87 : ∃ (uu0 : Value), f85 0 = (Value.int .i64 n) ∧ f85 3 = u17 ∧ f85 4 = (Value.int .i64 (k7 : Int)) ∧ f85 5 = uu0 ∧ St w wd86 [(Ty.sl (Ty.sl (Ty.sl (Ty.i .i64)))).at u17 x8, (Ty.sl (Ty.sl (Ty.i .i64))).at uu0 x89] := hq87
        obtain ⟨u90, hf91, hf92, hf93, hf94, hS95⟩ := hq87
        show W _ _ _ _ _ _
        refine W.region ?_
        refine WL.val u17 _ (op_move hf92) rfl ?_
        refine WL.val u90 _ (op_move hf94) rfl ?_
        refine WL.lit [u90] hS95 sl_23 rfl rfl (fillL rfl ⟨rfl, rfl, (cells_rep (St.rep (t := (Ty.sl (Ty.sl (Ty.i .i64)))) hS95 1 rfl)), trivial⟩) rfl rfl ?_
        intro b100 wd97 hS98 he99 hx101
        replace hS98 : St w wd97 [(Ty.sl (Ty.sl (Ty.sl (Ty.i .i64)))).at u17 x8, (Ty.sl (Ty.sl (Ty.i .i64))).at u90 x89, bx b100 [u90]] := hS98
        obtain ⟨x102, hx103, hb13⟩ := bs hb13
        refine WL.appendRow hS98 (k := 0) (k2 := 1) (k3 := 2) rfl rfl rfl rfl sl_23 rfl rfl rfl rfl hx103 rfl ?_
        intro u104 wd105 hS106 hz107
        replace hS106 : St w wd105 [(Ty.sl (Ty.sl (Ty.sl (Ty.i .i64)))).at u104 x102, emp, bx b100 [u90]] := hS106
        refine WL.val u104 _ (op_assign rfl) rfl ?_
        refine WL.nil ?_
        show W _ _ _ _ _ _
        refine W.region ?_
        refine WL.val (Value.int .i64 (k7 : Int)) _ (op_move hf93) rfl ?_
        refine WL.val (Value.int .i64 (w64 ((k7 : Int) + (1 : Int)))) _ (op_add rfl rfl) rfl ?_
        refine WL.val (Value.int .i64 (w64 ((k7 : Int) + (1 : Int)))) _ (op_assign rfl) rfl ?_
        refine WL.nil ?_
        obtain rfl := Option.some.inj hb13
        show ∃ s, _ = Ctl.next s ∧ _
        exact ⟨_, rfl, u104, hf91, rfl, (ctr_next hl23 r_n), (ctr_rng hl23 r_n), (St.pick hS106 [0] rfl)⟩
    · intro x115 f110 wd111 hs112 hI113
      replace hI113 : ∃ (uu0 : Value), f110 0 = (Value.int .i64 n) ∧ f110 3 = uu0 ∧ f110 4 = Value.int .i64 (((n).toNat : Nat) : Int) ∧ InR .i64 (((n).toNat : Nat) : Int) ∧ St w wd111 [(Ty.sl (Ty.sl (Ty.sl (Ty.i .i64)))).at uu0 x115] := hI113
      obtain ⟨u116, hf117, hf118, hf119, hr120, hS121⟩ := hI113
      refine W.seq (W.seq (W.region ?_))
      refine WL.val (Value.int .i64 (((n).toNat : Nat) : Int)) _ (op_move hf119) rfl ?_
      refine WL.val (Value.int .i64 n) _ (op_move hf117) rfl ?_
      refine WL.val (Value.bool (decide ((((n).toNat : Nat) : Int) < n))) _ (op_lss rfl rfl) rfl ?_
      have hl122 : ¬ (((n).toNat : Nat) : Int) < n := by omega
      refine WL.nil ?_
      show W _ _ _ _ _ _
      refine W.condF (decide ((((n).toNat : Nat) : Int) < n)) rfl (decide_eq_false hl122) ?_
      refine W.exit ?_
      show _ = _ ∧ _
      exact ⟨rfl, _, hs112, u116, hf118, hS121⟩
  · rintro f123 wd124 ⟨x127, rfl, hq125⟩
    replace h := onRes_fin h
    replace hq125 : ∃ (uu0 : Value), f123 3 = uu0 ∧ St w wd124 [(Ty.sl (Ty.sl (Ty.sl (Ty.i .i64)))).at uu0 x127] := hq125
    obtain ⟨u128, hf129, hS130⟩ := hq125
    show W _ _ _ _ _ _
    refine W.seq (W.region ?_)
    refine WL.val u128 _ (op_move hf129) rfl ?_
    refine WL.val u128 _ (op_assign rfl) rfl ?_
    refine WL.nil ?_
    show W _ _ _ _ _ _
    refine W.ret ?_
    obtain rfl := Option.some.inj h
    show FinP _ _ _ _ _ _ _
    exact FinP.ret _ (res1 rfl rfl) ⟨u128, rfl, hS130.ext, (St.out (St.pick hS130 [0] rfl) (Ext.refl _))⟩

theorem c_spec_l01Own2 {w : World} {lists : (List (List Int))} {v_lists : Value} (r_lists : (Ty.sl (Ty.sl (Ty.i .i64))).rep w v_lists lists) {res : (List (List Int))} (h : p_spec_l01Own2 lists  = some res) :
    Ret Try.prog 46 #[v_lists] w (fun v w' => ∃ (u0 : Value), v = u0 ∧ Ext w w' ∧ Sep w.heap.size w' [(Ty.sl (Ty.sl (Ty.i .i64))).at u0 res]) := by
  unfold p_spec_l01Own2 at h
  have hS0 : St w w [] := St.start w
  refine Ret.start (fn := Try.f46) Try.func46 rfl 21 rfl rfl ?_
  refine W.seq (W.region ?_)
  refine WL.val (Value.slice none 0 0) _ (op_assign rfl) rfl ?_
  refine WL.nil ?_
  show W _ _ _ _ _ _
  refine W.seq (W.region ?_)
  refine WL.lit0 (t := (Ty.sl (Ty.i .i64))) hS0 sl_26 rfl rfl ?_
  intro u1 wd2 hS3 he4
  replace hS3 : St w wd2 [(Ty.sl (Ty.sl (Ty.i .i64))).at u1 ([] : (List (List Int)))] := hS3
  refine WL.val u1 _ (op_assign rfl) rfl ?_
  refine WL.nil ?_
  show W _ _ _ _ _ _
  refine W.seq (W.seq (W.region ?_))
  refine WL.val (Value.int .i64 (0 : Int)) _ (op_assign rfl) rfl ?_
  refine WL.nil ?_
  show W _ _ _ _ _ _
  obtain ⟨res5, hres6, h⟩ := bs h
  refine W.blockLoop (fun fq wq => ∃ s, res5 = Res.fin s ∧ ∃ (uu0 : Value), fq 3 = uu0 ∧ St w wq [(Ty.sl (Ty.sl (Ty.i .i64))).at uu0 s]) ?_ ?_
  · refine W.forN (fun k (s : (List (List Int))) fq wq => ∃ (uu0 : Value), fq 0 = v_lists ∧ fq 3 = uu0 ∧ fq 4 = Value.int .i64 (k : Int) ∧ InR .i64 (k : Int) ∧ St w wq [(Ty.sl (Ty.sl (Ty.i .i64))).at uu0 s]) hres6 ⟨u1, rfl, rfl, rfl, (inR_i64.2 (show (-9223372036854775808 : Int) ≤ 0 ∧ (0 : Int) ≤ 9223372036854775807 from by decide)), hS3⟩ ?_ ?_
    · intro k7 x8 ct9 f10 wd11 hk12 hb13 hI14 hbrk15 hret16
      replace hI14 : ∃ (uu0 : Value), f10 0 = v_lists ∧ f10 3 = uu0 ∧ f10 4 = Value.int .i64 (k7 : Int) ∧ InR .i64 (k7 : Int) ∧ St w wd11 [(Ty.sl (Ty.sl (Ty.i .i64))).at uu0 x8] := hI14
      replace hb13 : p_spec_l01Own2_L1 lists k7 x8 = some ct9 := hb13
      unfold p_spec_l01Own2_L1 at hb13
      obtain ⟨u17, hf18, hf19, hf20, hr21, hS22⟩ := hI14
      refine W.seq (W.seq (W.region ?_))
      refine WL.val (Value.int .i64 (k7 : Int)) _ (op_move hf20) rfl ?_
      refine WL.val v_lists _ (op_move hf18) rfl ?_
      have hr23 := inR_len (Ty.lift _ hS22.ext r_lists)
      refine WL.val (Value.int .i64 ((lists).length : Int)) _ (op_lenL sl_26 (Ty.lift _ hS22.ext r_lists) rfl) rfl ?_
      refine WL.val (Value.bool (decide ((k7 : Int) < ((lists).length : Int)))) _ (op_lss rfl rfl) rfl ?_
      have hl24 : (k7 : Int) < ((lists).length : Int) := by omega
      refine WL.nil ?_
      show W _ _ _ _ _ _
      refine W.condT (decide ((k7 : Int) < ((lists).length : Int))) rfl (decide_eq_true hl24) ?_
      refine W.skip ?_
      show W _ _ _ _ _ _
      refine W.seq ?_
      refine W.block ?_
      refine W.region ?_
      refine WL.val u17 _ (op_move hf19) rfl ?_
      refine WL.val v_lists _ (op_move hf18) rfl ?_
      refine WL.val (Value.int .i64 (k7 : Int)) _ (op_move hf20) rfl ?_
      obtain ⟨x26, hx29, hb13⟩ := bs hb13
      obtain ⟨ha27, hb28, hx29⟩ := idx_some hx29
      refine WL.val (Value.pointer (some (elA v_lists ((k7 : Int)).toNat))) _ (op_idx sl_26 (Ty.lift _ hS22.ext r_lists) rfl rfl ha27 hb28) rfl ?_
      obtain ⟨u30, hc31, hr32⟩ := repSl.el r_lists hx29
      refine WL.val u30 _ (op_load one_22 rfl (Ext.cell hS22.ext hc31)) rfl ?_
      obtain ⟨x33, hx34, hb13⟩ := bs hb13
      refine WL.call _ (op_call fn_44 (args1 rfl)) (c_spec_l01Own (Ty.lift _ hS22.ext hr32) hx34) rfl ?_
      rintro u35 wd36 ⟨_, rfl, he37, hs38⟩
      have hS39 := St.join hS22 he37 hs38
      replace hS39 : St w wd36 [(Ty.sl (Ty.sl (Ty.i .i64))).at u17 x8, (Ty.sl (Ty.i .i64)).at u35 x33] := hS39
      refine WL.lit [u35] hS39 sl_26 rfl rfl (fillL rfl ⟨rfl, rfl, (cells_rep (St.rep (t := (Ty.sl (Ty.i .i64))) hS39 1 rfl)), trivial⟩) rfl rfl ?_
      intro b44 wd41 hS42 he43 hx45
      replace hS42 : St w wd41 [(Ty.sl (Ty.sl (Ty.i .i64))).at u17 x8, (Ty.sl (Ty.i .i64)).at u35 x33, bx b44 [u35]] := hS42
      obtain ⟨x46, hx47, hb13⟩ := bs hb13
      refine WL.appendRow hS42 (k := 0) (k2 := 1) (k3 := 2) rfl rfl rfl rfl sl_26 rfl rfl rfl rfl hx47 rfl ?_
      intro u48 wd49 hS50 hz51
      replace hS50 : St w wd49 [(Ty.sl (Ty.sl (Ty.i .i64))).at u48 x46, emp, bx b44 [u35]] := hS50
      refine WL.val u48 _ (op_assign rfl) rfl ?_
      refine WL.nil ?_
      show W _ _ _ _ _ _
      refine W.region ?_
      refine WL.val (Value.int .i64 (k7 : Int)) _ (op_move hf20) rfl ?_
      refine WL.val (Value.int .i64 (w64 ((k7 : Int) + (1 : Int)))) _ (op_add rfl rfl) rfl ?_
      refine WL.val (Value.int .i64 (w64 ((k7 : Int) + (1 : Int)))) _ (op_assign rfl) rfl ?_
      refine WL.nil ?_
      obtain rfl := Option.some.inj hb13
      show ∃ s, _ = Ctl.next s ∧ _
      exact ⟨_, rfl, u48, hf18, rfl, (ctr_next hl24 hr23), (ctr_rng hl24 hr23), (St.pick hS50 [0] rfl)⟩
    · intro x58 f53 wd54 hs55 hI56
      replace hI56 : ∃ (uu0 : Value), f53 0 = v_lists ∧ f53 3 = uu0 ∧ f53 4 = Value.int .i64 (((lists).length : Nat) : Int) ∧ InR .i64 (((lists).length : Nat) : Int) ∧ St w wd54 [(Ty.sl (Ty.sl (Ty.i .i64))).at uu0 x58] := hI56
      obtain ⟨u59, hf60, hf61, hf62, hr63, hS64⟩ := hI56
      refine W.seq (W.seq (W.region ?_))
      refine WL.val (Value.int .i64 (((lists).length : Nat) : Int)) _ (op_move hf62) rfl ?_
      refine WL.val v_lists _ (op_move hf60) rfl ?_
      have hr65 := inR_len (Ty.lift _ hS64.ext r_lists)
      refine WL.val (Value.int .i64 ((lists).length : Int)) _ (op_lenL sl_26 (Ty.lift _ hS64.ext r_lists) rfl) rfl ?_
      refine WL.val (Value.bool (decide ((((lists).length : Nat) : Int) < ((lists).length : Int)))) _ (op_lss rfl rfl) rfl ?_
      have hl66 : ¬ (((lists).length : Nat) : Int) < ((lists).length : Int) := by omega
      refine WL.nil ?_
      show W _ _ _ _ _ _
      refine W.condF (decide ((((lists).length : Nat) : Int) < ((lists).length : Int))) rfl (decide_eq_false hl66) ?_
      refine W.exit ?_
      show _ = _ ∧ _
      exact ⟨rfl, _, hs55, u59, hf61, hS64⟩
  · rintro f67 wd68 ⟨x71, rfl, hq69⟩
    replace h := onRes_fin h
    replace hq69 : ∃ (uu0 : Value), f67 3 = uu0 ∧ St w wd68 [(Ty.sl (Ty.sl (Ty.i .i64))).at uu0 x71] := hq69
    obtain ⟨u72, hf73, hS74⟩ := hq69
    show W _ _ _ _ _ _
    refine W.seq (W.region ?_)
    refine WL.val u72 _ (op_move hf73) rfl ?_
    refine WL.val u72 _ (op_assign rfl) rfl ?_
    refine WL.nil ?_
    show W _ _ _ _ _ _
    refine W.ret ?_
    obtain rfl := Option.some.inj h
    show FinP _ _ _ _ _ _ _
    exact FinP.ret _ (res1 rfl rfl) ⟨u72, rfl, hS74.ext, (St.out (St.pick hS74 [0] rfl) (Ext.refl _))⟩

theorem c_spec_BicharacterBraiding {w : World} {orders : (List Int)} {v_orders : Value} {m : Int} {values : (List (List Int))} {v_values : Value} (r_orders : (Ty.sl (Ty.i .i64)).rep w v_orders orders) (r_m : InR .i64 m) (r_values : (Ty.sl (Ty.sl (Ty.i .i64))).rep w v_values values) {res : (List Int) × Int × (List (List (List Int))) × (List (List Int)) × Int} (h : p_spec_BicharacterBraiding orders m values  = some res) :
    Ret Try.prog 19 #[v_orders, (Value.int .i64 m), v_values] w (fun v w' => ∃ (u0 : Value) (u2 : Value) (u3 : Value), v = (Value.tuple #[(Value.agg #[u0, Value.int .i64 res.2.1, u2, u3]), Value.int .i64 res.2.2.2.2]) ∧ InR .i64 res.2.1 ∧ InR .i64 res.2.2.2.2 ∧ Ext w w' ∧ Sep w.heap.size w' [(Ty.sl (Ty.i .i64)).at u0 res.1, (Ty.sl (Ty.sl (Ty.sl (Ty.i .i64)))).at u2 res.2.2.1, (Ty.sl (Ty.sl (Ty.i .i64))).at u3 res.2.2.2.1]) := by
  unfold p_spec_BicharacterBraiding at h
  have hS0 : St w w [] := St.start w
  refine Ret.start (fn := Try.f19) Try.func19 rfl 42 rfl rfl ?_
  refine W.seq (W.region ?_)
  refine WL.alloc hS0 ze_34 (cs := [(Value.slice none 0 0), (Value.int .i64 (0 : Int)), (Value.slice none 0 0), (Value.slice none 0 0)]) rfl rfl ?_
  intro b1 wd2 hS3 he4
  replace hS3 : St w wd2 [bx b1 [(Value.slice none 0 0), (Value.int .i64 (0 : Int)), (Value.slice none 0 0), (Value.slice none 0 0)]] := hS3
  refine WL.val (Value.int .i64 (0 : Int)) _ (op_assign rfl) rfl ?_
  refine WL.nil ?_
  show W _ _ _ _ _ _
  refine W.seq (W.region ?_)
  refine WL.val v_orders _ (op_move rfl) rfl ?_
  refine WL.val (Value.int .i64 m) _ (op_move rfl) rfl ?_
  obtain ⟨x5, hx6, h⟩ := bs h
  refine WL.call _ (op_call fn_41 (args2 rfl rfl)) (c_spec_l18Group (Ty.lift _ hS3.ext r_orders) r_m hx6) rfl ?_
  rintro _ wd8 ⟨rfl, hr7, he9⟩
  have hS11 := St.extend hS3 he9
  replace hS11 : St w wd8 [bx b1 [(Value.slice none 0 0), (Value.int .i64 (0 : Int)), (Value.slice none 0 0), (Value.slice none 0 0)]] := hS11
  refine WL.val (Value.int .i64 x5) _ (op_assign rfl) rfl ?_
  refine WL.nil ?_
  show W _ _ _ _ _ _
  refine W.seq (W.seq (W.region ?_))
  refine WL.val (Value.int .i64 x5) _ (op_move rfl) rfl ?_
  refine WL.val (Value.bool (x5 == (0 : Int))) _ (op_eql rfl rfl) rfl ?_
  refine WL.val (Value.bool (x5 == (0 : Int))) _ (op_move rfl) rfl ?_
  obtain ⟨x13, hj14, h⟩ := bs h
  refine WL.cut 7 (fun fq wq => fq 0 = v_orders ∧ fq 1 = (Value.int .i64 m) ∧ fq 2 = v_values ∧ fq 6 = (Value.pointer (some ⟨b1, 0, none⟩)) ∧ fq 8 = (Value.int .i64 x5) ∧ fq 22 = Value.bool x13 ∧ St w wq [bx b1 [(Value.slice none 0 0), (Value.int .i64 (0 : Int)), (Value.slice none 0 0), (Value.slice none 0 0)]]) ?_ ?_
  · rcases Bool.eq_false_or_eq_true (x5 == (0 : Int)) with hc12 | hc12
    · replace hj14 := ip hj14 hc12
      refine WL.grun rfl (bool_of rfl hc12) ?_
      refine WL.val v_orders _ (op_move rfl) rfl ?_
      refine WL.grun rfl (bool_of rfl hc12) ?_
      obtain ⟨x18, hx19, hj14⟩ := bs hj14
      refine WL.call _ (op_call fn_43 (args1 rfl)) (c_spec_l17Size (Ty.lift _ hS11.ext r_orders) hx19) rfl ?_
      rintro _ wd21 ⟨rfl, hr20, he22⟩
      have hS24 := St.extend hS11 he22
      replace hS24 : St w wd21 [bx b1 [(Value.slice none 0 0), (Value.int .i64 (0 : Int)), (Value.slice none 0 0), (Value.slice none 0 0)]] := hS24
      refine WL.grun rfl (bool_of rfl hc12) ?_
      refine WL.val (Value.int .i64 m) _ (op_move rfl) rfl ?_
      refine WL.grun rfl (bool_of rfl hc12) ?_
      refine WL.val v_values _ (op_move rfl) rfl ?_
      refine WL.grun rfl (bool_of rfl hc12) ?_
      obtain ⟨x25, hx26, hj14⟩ := bs hj14
      refine WL.call _ (op_call fn_42 (args3 rfl rfl rfl)) (c_spec_l18Numbers hr20 r_m (Ty.lift _ hS24.ext r_values) hx26) rfl ?_
      rintro _ wd27 ⟨rfl, he28⟩
      have hS30 := St.extend hS24 he28
      replace hS30 : St w wd27 [bx b1 [(Value.slice none 0 0), (Value.int .i64 (0 : Int)), (Value.slice none 0 0), (Value.slice none 0 0)]] := hS30
      refine WL.grun rfl (bool_of rfl hc12) ?_
      refine WL.val (Value.bool (!x25)) _ (op_not rfl) rfl ?_
      refine WL.val (Value.bool (!x25)) _ (op_pick_t (evb_of rfl hc12) rfl) rfl ?_
      refine WL.nil ?_
      obtain rfl := Option.some.inj hj14
      exact ⟨rfl, rfl, rfl, rfl, rfl, rfl, rfl, hS30⟩
    · replace hj14 := inegb hj14 hc12
      refine WL.gskip rfl (bool_of rfl hc12) rfl ?_
      refine WL.gskip rfl (bool_of rfl hc12) rfl ?_
      refine WL.gskip rfl (bool_of rfl hc12) rfl ?_
      refine WL.gskip rfl (bool_of rfl hc12) rfl ?_
      refine WL.gskip rfl (bool_of rfl hc12) rfl ?_
      refine WL.gskip rfl (bool_of rfl hc12) rfl ?_
      refine WL.val (Value.bool false) _ (op_pick_f (evb_of rfl hc12) rfl) rfl ?_
      refine WL.nil ?_
      obtain rfl := Option.some.inj hj14
      exact ⟨rfl, rfl, rfl, rfl, rfl, rfl, rfl, hS11⟩
  · intro f15 wd16 hq17
    obtain ⟨hf31, hf32, hf33, hf34, hf35, hf36, hS37⟩ := hq17
    refine WL.nil ?_
    show W _ _ _ _ _ _
    obtain ⟨x38, hj39, h⟩ := bs h
    refine W.cutCode (fun fq wq => fq 0 = v_orders ∧ fq 1 = (Value.int .i64 m) ∧ fq 2 = v_values ∧ fq 6 = (Value.pointer (some ⟨b1, 0, none⟩)) ∧ fq 8 = Value.int .i64 x38 ∧ InR .i64 x38 ∧ St w wq [bx b1 [(Value.slice none 0 0), (Value.int .i64 (0 : Int)), (Value.slice none 0 0), (Value.slice none 0 0)]]) ?_ ?_
    · refine W.cond x13 hf36 (fun hc40 => ?_) (fun hc40 => ?_)
      · replace hj39 := ip hj39 hc40
        refine W.region ?_
        refine WL.val (Value.int .i64 (2 : Int)) _ (op_assign rfl) rfl ?_
        refine WL.nil ?_
        obtain rfl := Option.some.inj hj39
        exact ⟨hf31, hf32, hf33, hf34, rfl, (inR_i64.2 (show (-9223372036854775808 : Int) ≤ 2 ∧ (2 : Int) ≤ 9223372036854775807 from by decide)), hS37⟩
      · replace hj39 := inegb hj39 hc40
        refine W.skip ?_
        obtain rfl := Option.some.inj hj39
        exact ⟨hf31, hf32, hf33, hf34, hf35, hr7, hS37⟩
    · intro f41 wd42 hq43
      obtain ⟨hf44, hf45, hf46, hf47, hf48, hr49, hS50⟩ := hq43
      show W _ _ _ _ _ _
      refine W.seq (W.seq (W.region ?_))
      refine WL.val (Value.int .i64 x38) _ (op_move hf48) rfl ?_
      refine WL.val (Value.bool (x38 != (0 : Int))) _ (op_neq rfl rfl) rfl ?_
      refine WL.nil ?_
      show W _ _ _ _ _ _
      refine W.cond (x38 != (0 : Int)) rfl (fun hc51 => ?_) (fun hc51 => ?_)
      · replace h := ip h hc51
        refine W.seq (W.region ?_)
        refine WL.val (Value.agg #[(Value.slice none 0 0), (Value.int .i64 (0 : Int)), (Value.slice none 0 0), (Value.slice none 0 0)]) _ (op_build bd_34 (parts := []) (partsL trivial) trivial rfl) rfl ?_
        refine WL.val (Value.int .i64 x38) _ (op_move hf48) rfl ?_
        have hS55 := St.addNil (Ty.i .i64) hS50
        replace hS55 : St w wd42 [bx b1 [(Value.slice none 0 0), (Value.int .i64 (0 : Int)), (Value.slice none 0 0), (Value.slice none 0 0)], (Ty.sl (Ty.i .i64)).at (Value.slice none 0 0) ([] : (List Int))] := hS55
        have hS56 := St.addNil (Ty.sl (Ty.sl (Ty.i .i64))) hS55
        replace hS56 : St w wd42 [bx b1 [(Value.slice none 0 0), (Value.int .i64 (0 : Int)), (Value.slice none 0 0), (Value.slice none 0 0)], (Ty.sl (Ty.i .i64)).at (Value.slice none 0 0) ([] : (List Int)), (Ty.sl (Ty.sl (Ty.sl (Ty.i .i64)))).at (Value.slice none 0 0) ([] : (List (List (List Int))))] := hS56
        have hS57 := St.addNil (Ty.sl (Ty.i .i64)) hS56
        replace hS57 : St w wd42 [bx b1 [(Value.slice none 0 0), (Value.int .i64 (0 : Int)), (Value.slice none 0 0), (Value.slice none 0 0)], (Ty.sl (Ty.i .i64)).at (Value.slice none 0 0) ([] : (List Int)), (Ty.sl (Ty.sl (Ty.sl (Ty.i .i64)))).at (Value.slice none 0 0) ([] : (List (List (List Int)))), (Ty.sl (Ty.sl (Ty.i .i64))).at (Value.slice none 0 0) ([] : (List (List Int)))] := hS57
        refine WL.storeBox [(Value.slice none 0 0), (Value.int .i64 (0 : Int)), (Value.slice none 0 0), (Value.slice none 0 0)] hS57 (k := 0) rfl hf47 rfl (us := [(Value.slice none 0 0), (Value.int .i64 (0 : Int)), (Value.slice none 0 0), (Value.slice none 0 0)]) rfl sz_34 rfl rfl (all_rep (St.rep (t := (Ty.sl (Ty.i .i64))) hS57 1 rfl) (all_cons rfl (all_rep (St.rep (t := (Ty.sl (Ty.sl (Ty.sl (Ty.i .i64))))) hS57 2 rfl) (all_rep (St.rep (t := (Ty.sl (Ty.sl (Ty.i .i64)))) hS57 3 rfl) all_nil)))) rfl ?_
        intro wd53 hS54
        replace hS54 : St w wd53 [bx b1 [(Value.slice none 0 0), (Value.int .i64 (0 : Int)), (Value.slice none 0 0), (Value.slice none 0 0)], (Ty.sl (Ty.i .i64)).at (Value.slice none 0 0) ([] : (List Int)), (Ty.sl (Ty.sl (Ty.sl (Ty.i .i64)))).at (Value.slice none 0 0) ([] : (List (List (List Int)))), (Ty.sl (Ty.sl (Ty.i .i64))).at (Value.slice none 0 0) ([] : (List (List Int)))] := hS54
        refine WL.val (Value.int .i64 x38) _ (op_assign rfl) rfl ?_
        refine WL.nil ?_
        show W _ _ _ _ _ _
        refine W.ret ?_
        obtain rfl := Option.some.inj h
        show FinP _ _ _ _ _ _ _
        exact FinP.ret _ (resCT rfl hf47 st_34 (St.boxAt hS54 0 rfl) rfl rfl) ⟨(Value.slice none 0 0), (Value.slice none 0 0), (Value.slice none 0 0), rfl, (inR_i64.2 (show (-9223372036854775808 : Int) ≤ 0 ∧ (0 : Int) ≤ 9223372036854775807 from by decide)), hr49, hS54.ext, (St.out (St.pick hS54 [1, 2, 3] rfl) (Ext.refl _))⟩
      · replace h := inegb h hc51
        refine W.skip ?_
        show W _ _ _ _ _ _
        refine W.seq (W.region ?_)
        refine WL.val v_orders _ (op_move hf44) rfl ?_
        obtain ⟨x58, hx59, h⟩ := bs h
        refine WL.call _ (op_call fn_44 (args1 rfl)) (c_spec_l01Own (Ty.lift _ hS50.ext r_orders) hx59) rfl ?_
        rintro u60 wd61 ⟨_, rfl, he62, hs63⟩
        have hS64 := St.join hS50 he62 hs63
        replace hS64 : St w wd61 [bx b1 [(Value.slice none 0 0), (Value.int .i64 (0 : Int)), (Value.slice none 0 0), (Value.slice none 0 0)], (Ty.sl (Ty.i .i64)).at u60 x58] := hS64
        refine WL.val (Value.int .i64 m) _ (op_move hf45) rfl ?_
        refine WL.val v_orders _ (op_move hf44) rfl ?_
        obtain ⟨x65, hx66, h⟩ := bs h
        refine WL.call _ (op_call fn_43 (args1 rfl)) (c_spec_l17Size (Ty.lift _ hS64.ext r_orders) hx66) rfl ?_
        rintro _ wd68 ⟨rfl, hr67, he69⟩
        have hS71 := St.extend hS64 he69
        replace hS71 : St w wd68 [bx b1 [(Value.slice none 0 0), (Value.int .i64 (0 : Int)), (Value.slice none 0 0), (Value.slice none 0 0)], (Ty.sl (Ty.i .i64)).at u60 x58] := hS71
        obtain ⟨x72, hx73, h⟩ := bs h
        refine WL.call _ (op_call fn_45 (args1 rfl)) (c_spec_l06Empty hr67 hx73) rfl ?_
        rintro u74 wd75 ⟨_, rfl, he76, hs77⟩
        have hS78 := St.join hS71 he76 hs77
        replace hS78 : St w wd75 [bx b1 [(Value.slice none 0 0), (Value.int .i64 (0 : Int)), (Value.slice none 0 0), (Value.slice none 0 0)], (Ty.sl (Ty.i .i64)).at u60 x58, (Ty.sl (Ty.sl (Ty.sl (Ty.i .i64)))).at u74 x72] := hS78
        refine WL.val (Value.agg #[u60, (Value.int .i64 m), u74]) _ (op_build bd_32 (parts := [(0, u60, [u60]), (1, (Value.int .i64 m), [(Value.int .i64 m)]), (2, u74, [u74])]) (partsL ⟨rfl, rfl, rfl, rfl, rfl, rfl, trivial⟩) ⟨(cells_rep (St.rep (t := (Ty.sl (Ty.i .i64))) hS78 1 rfl)), rfl, (cells_rep (St.rep (t := (Ty.sl (Ty.sl (Ty.sl (Ty.i .i64))))) hS78 2 rfl)), trivial⟩ rfl) rfl ?_
        refine WL.val v_values _ (op_move hf46) rfl ?_
        obtain ⟨x79, hx80, h⟩ := bs h
        refine WL.call _ (op_call fn_46 (args1 rfl)) (c_spec_l01Own2 (Ty.lift _ hS78.ext r_values) hx80) rfl ?_
        rintro u81 wd82 ⟨_, rfl, he83, hs84⟩
        have hS85 := St.join hS78 he83 hs84
        replace hS85 : St w wd82 [bx b1 [(Value.slice none 0 0), (Value.int .i64 (0 : Int)), (Value.slice none 0 0), (Value.slice none 0 0)], (Ty.sl (Ty.i .i64)).at u60 x58, (Ty.sl (Ty.sl (Ty.sl (Ty.i .i64)))).at u74 x72, (Ty.sl (Ty.sl (Ty.i .i64))).at u81 x79] := hS85
        refine WL.val (Value.agg #[u60, (Value.int .i64 m), u74, u81]) _ (op_build bd_34 (parts := [(0, (Value.agg #[u60, (Value.int .i64 m), u74]), [u60, (Value.int .i64 m), u74]), (1, u81, [u81])]) (partsL ⟨rfl, rfl, rfl, rfl, trivial⟩) ⟨rfl, (cells_rep (St.rep (t := (Ty.sl (Ty.sl (Ty.i .i64)))) hS85 3 rfl)), trivial⟩ rfl) rfl ?_
        refine WL.alloc hS85 ze_34 (cs := [(Value.slice none 0 0), (Value.int .i64 (0 : Int)), (Value.slice none 0 0), (Value.slice none 0 0)]) rfl rfl ?_
        intro b86 wd87 hS88 he89
        replace hS88 : St w wd87 [bx b1 [(Value.slice none 0 0), (Value.int .i64 (0 : Int)), (Value.slice none 0 0), (Value.slice none 0 0)], (Ty.sl (Ty.i .i64)).at u60 x58, (Ty.sl (Ty.sl (Ty.sl (Ty.i .i64)))).at u74 x72, (Ty.sl (Ty.sl (Ty.i .i64))).at u81 x79, bx b86 [(Value.slice none 0 0), (Value.int .i64 (0 : Int)), (Value.slice none 0 0), (Value.slice none 0 0)]] := hS88
        refine WL.storeBox [u60, (Value.int .i64 m), u74, u81] hS88 (k := 4) rfl rfl rfl (us := [u60, (Value.int .i64 m), u74, u81]) rfl sz_34 rfl rfl (all_rep (St.rep (t := (Ty.sl (Ty.i .i64))) hS88 1 rfl) (all_cons rfl (all_rep (St.rep (t := (Ty.sl (Ty.sl (Ty.sl (Ty.i .i64))))) hS88 2 rfl) (all_rep (St.rep (t := (Ty.sl (Ty.sl (Ty.i .i64)))) hS88 3 rfl) all_nil)))) rfl ?_
        intro wd90 hS91
        replace hS91 : St w wd90 [bx b1 [(Value.slice none 0 0), (Value.int .i64 (0 : Int)), (Value.slice none 0 0), (Value.slice none 0 0)], (Ty.sl (Ty.i .i64)).at u60 x58, (Ty.sl (Ty.sl (Ty.sl (Ty.i .i64)))).at u74 x72, (Ty.sl (Ty.sl (Ty.i .i64))).at u81 x79, bx b86 [u60, (Value.int .i64 m), u74, u81]] := hS91
        refine WL.nil ?_
        show W _ _ _ _ _ _
        refine W.seq (W.seq (W.region ?_))
        refine WL.val (Value.agg #[u60, (Value.int .i64 m), u74, u81]) _ (op_loadBox st_34 rfl (St.boxAt hS91 4 rfl) rfl rfl) rfl ?_
        obtain ⟨x92, hx93, h⟩ := bs h
        refine WL.call _ (op_call fn_36 (args1 rfl)) (c_spec_l18Is (St.rep (t := (Ty.sl (Ty.i .i64))) hS91 1 rfl) r_m (St.rep (t := (Ty.sl (Ty.sl (Ty.sl (Ty.i .i64))))) hS91 2 rfl) (St.rep (t := (Ty.sl (Ty.sl (Ty.i .i64)))) hS91 3 rfl) hx93) rfl ?_
        rintro _ wd94 ⟨rfl, he95⟩
        have hS97 := St.extend hS91 he95
        replace hS97 : St w wd94 [bx b1 [(Value.slice none 0 0), (Value.int .i64 (0 : Int)), (Value.slice none 0 0), (Value.slice none 0 0)], (Ty.sl (Ty.i .i64)).at u60 x58, (Ty.sl (Ty.sl (Ty.sl (Ty.i .i64)))).at u74 x72, (Ty.sl (Ty.sl (Ty.i .i64))).at u81 x79, bx b86 [u60, (Value.int .i64 m), u74, u81]] := hS97
        refine WL.val (Value.bool (!x92)) _ (op_not rfl) rfl ?_
        refine WL.nil ?_
        show W _ _ _ _ _ _
        refine W.cond (!x92) rfl (fun hc98 => ?_) (fun hc98 => ?_)
        · replace h := ip h hc98
          refine W.seq (W.region ?_)
          refine WL.val (Value.agg #[(Value.slice none 0 0), (Value.int .i64 (0 : Int)), (Value.slice none 0 0), (Value.slice none 0 0)]) _ (op_build bd_34 (parts := []) (partsL trivial) trivial rfl) rfl ?_
          have hS102 := St.addNil (Ty.i .i64) hS97
          replace hS102 : St w wd94 [bx b1 [(Value.slice none 0 0), (Value.int .i64 (0 : Int)), (Value.slice none 0 0), (Value.slice none 0 0)], (Ty.sl (Ty.i .i64)).at u60 x58, (Ty.sl (Ty.sl (Ty.sl (Ty.i .i64)))).at u74 x72, (Ty.sl (Ty.sl (Ty.i .i64))).at u81 x79, bx b86 [u60, (Value.int .i64 m), u74, u81], (Ty.sl (Ty.i .i64)).at (Value.slice none 0 0) ([] : (List Int))] := hS102
          have hS103 := St.addNil (Ty.sl (Ty.sl (Ty.i .i64))) hS102
          replace hS103 : St w wd94 [bx b1 [(Value.slice none 0 0), (Value.int .i64 (0 : Int)), (Value.slice none 0 0), (Value.slice none 0 0)], (Ty.sl (Ty.i .i64)).at u60 x58, (Ty.sl (Ty.sl (Ty.sl (Ty.i .i64)))).at u74 x72, (Ty.sl (Ty.sl (Ty.i .i64))).at u81 x79, bx b86 [u60, (Value.int .i64 m), u74, u81], (Ty.sl (Ty.i .i64)).at (Value.slice none 0 0) ([] : (List Int)), (Ty.sl (Ty.sl (Ty.sl (Ty.i .i64)))).at (Value.slice none 0 0) ([] : (List (List (List Int))))] := hS103
          have hS104 := St.addNil (Ty.sl (Ty.i .i64)) hS103
          replace hS104 : St w wd94 [bx b1 [(Value.slice none 0 0), (Value.int .i64 (0 : Int)), (Value.slice none 0 0), (Value.slice none 0 0)], (Ty.sl (Ty.i .i64)).at u60 x58, (Ty.sl (Ty.sl (Ty.sl (Ty.i .i64)))).at u74 x72, (Ty.sl (Ty.sl (Ty.i .i64))).at u81 x79, bx b86 [u60, (Value.int .i64 m), u74, u81], (Ty.sl (Ty.i .i64)).at (Value.slice none 0 0) ([] : (List Int)), (Ty.sl (Ty.sl (Ty.sl (Ty.i .i64)))).at (Value.slice none 0 0) ([] : (List (List (List Int)))), (Ty.sl (Ty.sl (Ty.i .i64))).at (Value.slice none 0 0) ([] : (List (List Int)))] := hS104
          refine WL.storeBox [(Value.slice none 0 0), (Value.int .i64 (0 : Int)), (Value.slice none 0 0), (Value.slice none 0 0)] hS104 (k := 0) rfl hf47 rfl (us := [(Value.slice none 0 0), (Value.int .i64 (0 : Int)), (Value.slice none 0 0), (Value.slice none 0 0)]) rfl sz_34 rfl rfl (all_rep (St.rep (t := (Ty.sl (Ty.i .i64))) hS104 5 rfl) (all_cons rfl (all_rep (St.rep (t := (Ty.sl (Ty.sl (Ty.sl (Ty.i .i64))))) hS104 6 rfl) (all_rep (St.rep (t := (Ty.sl (Ty.sl (Ty.i .i64)))) hS104 7 rfl) all_nil)))) rfl ?_
          intro wd100 hS101
          replace hS101 : St w wd100 [bx b1 [(Value.slice none 0 0), (Value.int .i64 (0 : Int)), (Value.slice none 0 0), (Value.slice none 0 0)], (Ty.sl (Ty.i .i64)).at u60 x58, (Ty.sl (Ty.sl (Ty.sl (Ty.i .i64)))).at u74 x72, (Ty.sl (Ty.sl (Ty.i .i64))).at u81 x79, bx b86 [u60, (Value.int .i64 m), u74, u81], (Ty.sl (Ty.i .i64)).at (Value.slice none 0 0) ([] : (List Int)), (Ty.sl (Ty.sl (Ty.sl (Ty.i .i64)))).at (Value.slice none 0 0) ([] : (List (List (List Int)))), (Ty.sl (Ty.sl (Ty.i .i64))).at (Value.slice none 0 0) ([] : (List (List Int)))] := hS101
          refine WL.val (Value.int .i64 (5 : Int)) _ (op_assign rfl) rfl ?_
          refine WL.nil ?_
          show W _ _ _ _ _ _
          refine W.ret ?_
          obtain rfl := Option.some.inj h
          show FinP _ _ _ _ _ _ _
          exact FinP.ret _ (resCT rfl hf47 st_34 (St.boxAt hS101 0 rfl) rfl rfl) ⟨(Value.slice none 0 0), (Value.slice none 0 0), (Value.slice none 0 0), rfl, (inR_i64.2 (show (-9223372036854775808 : Int) ≤ 0 ∧ (0 : Int) ≤ 9223372036854775807 from by decide)), (inR_i64.2 (show (-9223372036854775808 : Int) ≤ 5 ∧ (5 : Int) ≤ 9223372036854775807 from by decide)), hS101.ext, (St.out (St.pick hS101 [5, 6, 7] rfl) (Ext.refl _))⟩
        · replace h := inegb h hc98
          refine W.skip ?_
          show W _ _ _ _ _ _
          refine W.seq (W.region ?_)
          refine WL.val (Value.agg #[u60, (Value.int .i64 m), u74, u81]) _ (op_loadBox st_34 rfl (St.boxAt hS97 4 rfl) rfl rfl) rfl ?_
          refine WL.storeBox [u60, (Value.int .i64 m), u74, u81] hS97 (k := 0) rfl hf47 rfl (us := [u60, (Value.int .i64 m), u74, u81]) rfl sz_34 rfl rfl (all_rep (St.rep (t := (Ty.sl (Ty.i .i64))) hS97 1 rfl) (all_cons rfl (all_rep (St.rep (t := (Ty.sl (Ty.sl (Ty.sl (Ty.i .i64))))) hS97 2 rfl) (all_rep (St.rep (t := (Ty.sl (Ty.sl (Ty.i .i64)))) hS97 3 rfl) all_nil)))) rfl ?_
          intro wd105 hS106
          replace hS106 : St w wd105 [bx b1 [u60, (Value.int .i64 m), u74, u81], (Ty.sl (Ty.i .i64)).at u60 x58, (Ty.sl (Ty.sl (Ty.sl (Ty.i .i64)))).at u74 x72, (Ty.sl (Ty.sl (Ty.i .i64))).at u81 x79, bx b86 [u60, (Value.int .i64 m), u74, u81]] := hS106
          refine WL.val (Value.int .i64 (0 : Int)) _ (op_assign rfl) rfl ?_
          refine WL.nil ?_
          show W _ _ _ _ _ _
          refine W.ret ?_
          obtain rfl := Option.some.inj h
          show FinP _ _ _ _ _ _ _
          exact FinP.ret _ (resCT rfl hf47 st_34 (St.boxAt hS106 0 rfl) rfl rfl) ⟨u60, u74, u81, rfl, r_m, (inR_i64.2 (show (-9223372036854775808 : Int) ≤ 0 ∧ (0 : Int) ≤ 9223372036854775807 from by decide)), hS106.ext, (St.out (St.pick hS106 [1, 2, 3] rfl) (Ext.refl _))⟩

theorem c_impl_ordersCode {w : World} {orders : (List Int)} {v_orders : Value} {most : Int} (r_orders : (Ty.sl (Ty.i .i64)).rep w v_orders orders) (r_most : InR .i64 most) {res : Int} (h : p_impl_ordersCode orders most  = some res) :
    Ret Try.prog 77 #[v_orders, (Value.int .i64 most)] w (fun v w' => v = Value.int .i64 res ∧ InR .i64 res ∧ Ext w w') := by
  unfold p_impl_ordersCode at h
  have hS0 : St w w [] := St.start w
  refine Ret.start (fn := Try.f77) Try.func77 rfl 13 rfl rfl ?_
  refine W.seq (W.region ?_)
  refine WL.val (Value.int .i64 (0 : Int)) _ (op_assign rfl) rfl ?_
  refine WL.nil ?_
  show W _ _ _ _ _ _
  refine W.seq (W.region ?_)
  refine WL.val v_orders _ (op_move rfl) rfl ?_
  obtain ⟨x1, hx2, h⟩ := bs h
  refine WL.call _ (op_call fn_79 (args1 rfl)) (c_impl_groupSize (Ty.lift _ hS0.ext r_orders) hx2) rfl ?_
  rintro _ wd4 ⟨rfl, hr3, he5⟩
  have hS7 := St.extend hS0 he5
  replace hS7 : St w wd4 [] := hS7
  refine WL.val (Value.int .i64 x1) _ (op_assign rfl) rfl ?_
  refine WL.nil ?_
  show W _ _ _ _ _ _
  refine W.seq (W.seq (W.region ?_))
  refine WL.val (Value.int .i64 x1) _ (op_move rfl) rfl ?_
  refine WL.val (Value.bool (x1 == (0 : Int))) _ (op_eql rfl rfl) rfl ?_
  refine WL.nil ?_
  show W _ _ _ _ _ _
  refine W.cond (x1 == (0 : Int)) rfl (fun hc8 => ?_) (fun hc8 => ?_)
  · replace h := ip h hc8
    refine W.seq (W.region ?_)
    refine WL.val (Value.int .i64 (1 : Int)) _ (op_assign rfl) rfl ?_
    refine WL.nil ?_
    show W _ _ _ _ _ _
    refine W.ret ?_
    obtain rfl := Option.some.inj h
    show FinP _ _ _ _ _ _ _
    exact FinP.ret _ (res1 rfl rfl) ⟨rfl, (inR_i64.2 (show (-9223372036854775808 : Int) ≤ 1 ∧ (1 : Int) ≤ 9223372036854775807 from by decide)), hS7.ext⟩
  · replace h := inegb h hc8
    refine W.skip ?_
    show W _ _ _ _ _ _
    refine W.seq (W.seq (W.region ?_))
    refine WL.val (Value.int .i64 x1) _ (op_move rfl) rfl ?_
    refine WL.val (Value.int .i64 most) _ (op_move rfl) rfl ?_
    refine WL.val (Value.bool (decide (x1 > most))) _ (op_gtr rfl rfl) rfl ?_
    refine WL.nil ?_
    show W _ _ _ _ _ _
    refine W.cond (decide (x1 > most)) rfl (fun hc10 => ?_) (fun hc10 => ?_)
    · replace h := ip h hc10
      refine W.seq (W.region ?_)
      refine WL.val (Value.int .i64 (3 : Int)) _ (op_assign rfl) rfl ?_
      refine WL.nil ?_
      show W _ _ _ _ _ _
      refine W.ret ?_
      obtain rfl := Option.some.inj h
      show FinP _ _ _ _ _ _ _
      exact FinP.ret _ (res1 rfl rfl) ⟨rfl, (inR_i64.2 (show (-9223372036854775808 : Int) ≤ 3 ∧ (3 : Int) ≤ 9223372036854775807 from by decide)), hS7.ext⟩
    · replace h := inegb h hc10
      refine W.skip ?_
      show W _ _ _ _ _ _
      refine W.seq (W.region ?_)
      refine WL.val (Value.int .i64 (0 : Int)) _ (op_assign rfl) rfl ?_
      refine WL.nil ?_
      show W _ _ _ _ _ _
      refine W.ret ?_
      obtain rfl := Option.some.inj h
      show FinP _ _ _ _ _ _ _
      exact FinP.ret _ (res1 rfl rfl) ⟨rfl, (inR_i64.2 (show (-9223372036854775808 : Int) ≤ 0 ∧ (0 : Int) ≤ 9223372036854775807 from by decide)), hS7.ext⟩

theorem c_impl_pairingCode {w : World} {orders : (List Int)} {v_orders : Value} {m : Int} {f1 : (List (List Int))} {v_f1 : Value} (r_orders : (Ty.sl (Ty.i .i64)).rep w v_orders orders) (r_m : InR .i64 m) (r_f1 : (Ty.sl (Ty.sl (Ty.i .i64))).rep w v_f1 f1) {res : Int} (h : p_impl_pairingCode orders m f1  = some res) :
    Ret Try.prog 47 #[v_orders, (Value.int .i64 m), v_f1] w (fun v w' => v = Value.int .i64 res ∧ InR .i64 res ∧ Ext w w') := by
  unfold p_impl_pairingCode at h
  have hS0 : St w w [] := St.start w
  refine Ret.start (fn := Try.f47) Try.func47 rfl 24 rfl rfl ?_
  refine W.seq (W.region ?_)
  refine WL.val (Value.int .i64 (0 : Int)) _ (op_assign rfl) rfl ?_
  refine WL.nil ?_
  show W _ _ _ _ _ _
  refine W.seq (W.seq (W.region ?_))
  refine WL.val v_orders _ (op_move rfl) rfl ?_
  obtain ⟨x1, hx2, h⟩ := bs h
  refine WL.call _ (op_call fn_77 (args2 rfl rfl)) (c_impl_ordersCode (Ty.lift _ hS0.ext r_orders) (inR_i64.2 (show (-9223372036854775808 : Int) ≤ 8 ∧ (8 : Int) ≤ 9223372036854775807 from by decide)) hx2) rfl ?_
  rintro _ wd4 ⟨rfl, hr3, he5⟩
  have hS7 := St.extend hS0 he5
  replace hS7 : St w wd4 [] := hS7
  refine WL.val (Value.int .i64 x1) _ (op_assign rfl) rfl ?_
  refine WL.nil ?_
  show W _ _ _ _ _ _
  refine W.seq (W.region ?_)
  refine WL.val (Value.int .i64 x1) _ (op_move rfl) rfl ?_
  refine WL.val (Value.bool (x1 != (0 : Int))) _ (op_neq rfl rfl) rfl ?_
  refine WL.nil ?_
  show W _ _ _ _ _ _
  refine W.cond (x1 != (0 : Int)) rfl (fun hc8 => ?_) (fun hc8 => ?_)
  · replace h := ip h hc8
    refine W.seq (W.region ?_)
    refine WL.val (Value.int .i64 x1) _ (op_move rfl) rfl ?_
    refine WL.val (Value.int .i64 x1) _ (op_assign rfl) rfl ?_
    refine WL.nil ?_
    show W _ _ _ _ _ _
    refine W.ret ?_
    obtain rfl := Option.some.inj h
    show FinP _ _ _ _ _ _ _
    exact FinP.ret _ (res1 rfl rfl) ⟨rfl, hr3, hS7.ext⟩
  · replace h := inegb h hc8
    refine W.skip ?_
    show W _ _ _ _ _ _
    refine W.seq (W.seq (W.region ?_))
    refine WL.val (Value.int .i64 m) _ (op_move rfl) rfl ?_
    obtain ⟨x10, hx11, h⟩ := bs h
    refine WL.call _ (op_call fn_78 (args1 rfl)) (c_impl_isModulus r_m hx11) rfl ?_
    rintro _ wd12 ⟨rfl, he13⟩
    have hS15 := St.extend hS7 he13
    replace hS15 : St w wd12 [] := hS15
    refine WL.val (Value.bool (!x10)) _ (op_not rfl) rfl ?_
    refine WL.val (Value.bool (!x10)) _ (op_move rfl) rfl ?_
    obtain ⟨x17, hj18, h⟩ := bs h
    refine WL.cut 7 (fun fq wq => fq 23 = Value.bool x17 ∧ St w wq []) ?_ ?_
    · rcases Bool.eq_false_or_eq_true (!x10) with hc16 | hc16
      · replace hj18 := ip hj18 hc16
        refine WL.gskip rfl (bool_of rfl hc16) rfl ?_
        refine WL.gskip rfl (bool_of rfl hc16) rfl ?_
        refine WL.gskip rfl (bool_of rfl hc16) rfl ?_
        refine WL.gskip rfl (bool_of rfl hc16) rfl ?_
        refine WL.gskip rfl (bool_of rfl hc16) rfl ?_
        refine WL.gskip rfl (bool_of rfl hc16) rfl ?_
        refine WL.val (Value.bool true) _ (op_pick_t (evb_of rfl hc16) rfl) rfl ?_
        refine WL.nil ?_
        obtain rfl := Option.some.inj hj18
        exact ⟨rfl, rfl, hS15⟩
      · replace hj18 := inegb hj18 hc16
        refine WL.grun rfl (bool_of rfl hc16) ?_
        refine WL.val v_f1 _ (op_move rfl) rfl ?_
        refine WL.grun rfl (bool_of rfl hc16) ?_
        refine WL.val v_orders _ (op_move rfl) rfl ?_
        refine WL.grun rfl (bool_of rfl hc16) ?_
        obtain ⟨x22, hx23, hj18⟩ := bs hj18
        refine WL.call _ (op_call fn_79 (args1 rfl)) (c_impl_groupSize (Ty.lift _ hS15.ext r_orders) hx23) rfl ?_
        rintro _ wd25 ⟨rfl, hr24, he26⟩
        have hS28 := St.extend hS15 he26
        replace hS28 : St w wd25 [] := hS28
        refine WL.grun rfl (bool_of rfl hc16) ?_
        refine WL.val (Value.int .i64 m) _ (op_move rfl) rfl ?_
        refine WL.grun rfl (bool_of rfl hc16) ?_
        obtain ⟨x29, hx30, hj18⟩ := bs hj18
        refine WL.call _ (op_call fn_69 (args3 rfl rfl rfl)) (c_impl_isPairing (Ty.lift _ hS28.ext r_f1) hr24 r_m hx30) rfl ?_
        rintro _ wd31 ⟨rfl, he32⟩
        have hS34 := St.extend hS28 he32
        replace hS34 : St w wd31 [] := hS34
        refine WL.grun rfl (bool_of rfl hc16) ?_
        refine WL.val (Value.bool (!x29)) _ (op_not rfl) rfl ?_
        refine WL.val (Value.bool (!x29)) _ (op_pick_f (evb_of rfl hc16) rfl) rfl ?_
        refine WL.nil ?_
        obtain rfl := Option.some.inj hj18
        exact ⟨rfl, rfl, hS34⟩
    · intro f19 wd20 hq21
      obtain ⟨hf35, hS36⟩ := hq21
      refine WL.nil ?_
      show W _ _ _ _ _ _
      refine W.cond x17 hf35 (fun hc37 => ?_) (fun hc37 => ?_)
      · replace h := ip h hc37
        refine W.seq (W.region ?_)
        refine WL.val (Value.int .i64 (2 : Int)) _ (op_assign rfl) rfl ?_
        refine WL.nil ?_
        show W _ _ _ _ _ _
        refine W.ret ?_
        obtain rfl := Option.some.inj h
        show FinP _ _ _ _ _ _ _
        exact FinP.ret _ (res1 rfl rfl) ⟨rfl, (inR_i64.2 (show (-9223372036854775808 : Int) ≤ 2 ∧ (2 : Int) ≤ 9223372036854775807 from by decide)), hS36.ext⟩
      · replace h := inegb h hc37
        refine W.skip ?_
        show W _ _ _ _ _ _
        refine W.seq (W.region ?_)
        refine WL.val (Value.int .i64 (0 : Int)) _ (op_assign rfl) rfl ?_
        refine WL.nil ?_
        show W _ _ _ _ _ _
        refine W.ret ?_
        obtain rfl := Option.some.inj h
        show FinP _ _ _ _ _ _ _
        exact FinP.ret _ (res1 rfl rfl) ⟨rfl, (inR_i64.2 (show (-9223372036854775808 : Int) ≤ 0 ∧ (0 : Int) ≤ 9223372036854775807 from by decide)), hS36.ext⟩

theorem c_slices_Clone_Lint64_int64 {w : World} {s1 : (List Int)} {v_s1 : Value} (r_s1 : (Ty.sl (Ty.i .i64)).rep w v_s1 s1) {res : (List Int)} (h : p_slices_Clone_Lint64_int64 s1  = some res) :
    Ret Try.prog 80 #[v_s1] w (fun v w' => ∃ (u0 : Value), v = u0 ∧ Ext w w' ∧ Sep w.heap.size w' [(Ty.sl (Ty.i .i64)).at u0 res]) := by
  unfold p_slices_Clone_Lint64_int64 at h
  have hS0 : St w w [] := St.start w
  obtain ⟨p0, c0, hv0, hl10, hl20, hp0, hel0⟩ := id r_s1
  refine Ret.start (fn := Try.f80) Try.func80 rfl 8 rfl rfl ?_
  refine W.seq (W.region ?_)
  refine WL.val (Value.slice none 0 0) _ (op_assign rfl) rfl ?_
  refine WL.nil ?_
  show W _ _ _ _ _ _
  refine W.seq (W.seq (W.region ?_))
  refine WL.val v_s1 _ (op_move rfl) rfl ?_
  refine WL.val (Value.bool p0.isNone) _ (op_eqlNil (Eq.trans rfl hv0) rfl sl_22.1) rfl ?_
  refine WL.nil ?_
  show W _ _ _ _ _ _
  refine W.cond p0.isNone rfl (fun hc1 => ?_) (fun hc1 => ?_)
  · obtain rfl : p0 = none := by cases p0 <;> simp_all
    obtain rfl : s1 = [] := Classical.byContradiction fun hn => hp0 hn rfl
    simp [appL] at h
    subst h
    refine W.seq (W.region ?_)
    refine WL.val (Value.slice none 0 0) _ (op_assign rfl) rfl ?_
    refine WL.nil ?_
    show W _ _ _ _ _ _
    refine W.ret ?_
    show FinP _ _ _ _ _ _ _
    exact FinP.ret _ (res1 rfl rfl) ⟨(Value.slice none 0 0), rfl, hS0.ext, (St.out (St.pick (St.addNil (Ty.i .i64) hS0) [0] rfl) (Ext.refl _))⟩
  · refine W.skip ?_
    show W _ _ _ _ _ _
    refine W.seq (W.region ?_)
    refine WL.lit0 (t := (Ty.i .i64)) hS0 sl_22 rfl rfl ?_
    intro u2 wd3 hS4 he5
    replace hS4 : St w wd3 [(Ty.sl (Ty.i .i64)).at u2 ([] : (List Int))] := hS4
    refine WL.val v_s1 _ (op_move rfl) rfl ?_
    obtain ⟨x6, hx7, h⟩ := bs h
    refine WL.append (flat_i .i64) hS4 (k := 0) rfl sl_22 rfl rfl rfl rfl (Ty.lift _ hS4.ext r_s1) hx7 rfl ?_
    intro u8 wd9 hS10 hz11
    replace hS10 : St w wd9 [(Ty.sl (Ty.i .i64)).at u8 x6] := hS10
    refine WL.val u8 _ (op_assign rfl) rfl ?_
    refine WL.nil ?_
    show W _ _ _ _ _ _
    refine W.ret ?_
    obtain rfl := Option.some.inj h
    show FinP _ _ _ _ _ _ _
    exact FinP.ret _ (res1 rfl rfl) ⟨u8, rfl, hS10.ext, (St.out (St.pick hS10 [0] rfl) (Ext.refl _))⟩

theorem c_impl_zeros {w : World} {rows : Int} {columns : Int} (r_rows : InR .i64 rows) (r_columns : InR .i64 columns) {res : (List (List Int))} (h : p_impl_zeros rows columns  = some res) :
    Ret Try.prog 81 #[(Value.int .i64 rows), (Value.int .i64 columns)] w (fun v w' => ∃ (u0 : Value), v = u0 ∧ Ext w w' ∧ Sep w.heap.size w' [(Ty.sl (Ty.sl (Ty.i .i64))).at u0 res]) := by
  unfold p_impl_zeros at h
  have hS0 : St w w [] := St.start w
  refine Ret.start (fn := Try.f81) Try.func81 rfl 17 rfl rfl ?_
  refine W.seq (W.region ?_)
  refine WL.val (Value.slice none 0 0) _ (op_assign rfl) rfl ?_
  refine WL.nil ?_
  show W _ _ _ _ _ _
  refine W.seq (W.region ?_)
  refine WL.lit0 (t := (Ty.sl (Ty.i .i64))) hS0 sl_26 rfl rfl ?_
  intro u1 wd2 hS3 he4
  replace hS3 : St w wd2 [(Ty.sl (Ty.sl (Ty.i .i64))).at u1 ([] : (List (List Int)))] := hS3
  refine WL.val u1 _ (op_assign rfl) rfl ?_
  refine WL.nil ?_
  show W _ _ _ _ _ _
  refine W.seq (W.seq (W.region ?_))
  refine WL.val (Value.int .i64 rows) _ (op_move rfl) rfl ?_
  refine WL.val (Value.int .i64 (0 : Int)) _ (op_move rfl) rfl ?_
  refine WL.nil ?_
  show W _ _ _ _ _ _
  obtain ⟨res5, hres6, h⟩ := bs h
  refine W.blockLoop (fun fq wq => ∃ s, res5 = Res.fin s ∧ ∃ (uu0 : Value), fq 5 = uu0 ∧ St w wq [(Ty.sl (Ty.sl (Ty.i .i64))).at uu0 s]) ?_ ?_
  · refine W.forN (fun k (s : (List (List Int))) fq wq => ∃ (uu0 : Value), fq 1 = (Value.int .i64 columns) ∧ fq 5 = uu0 ∧ fq 7 = (Value.int .i64 rows) ∧ fq 8 = Value.int .i64 (k : Int) ∧ InR .i64 (k : Int) ∧ St w wq [(Ty.sl (Ty.sl (Ty.i .i64))).at uu0 s]) hres6 ⟨u1, rfl, rfl, rfl, rfl, (inR_i64.2 (show (-9223372036854775808 : Int) ≤ 0 ∧ (0 : Int) ≤ 9223372036854775807 from by decide)), hS3⟩ ?_ ?_
    · intro k7 x8 ct9 f10 wd11 hk12 hb13 hI14 hbrk15 hret16
      replace hI14 : ∃ (uu0 : Value), f10 1 = (Value.int .i64 columns) ∧ f10 5 = uu0 ∧ f10 7 = (Value.int .i64 rows) ∧ f10 8 = Value.int .i64 (k7 : Int) ∧ InR .i64 (k7 : Int) ∧ St w wd11 [(Ty.sl (Ty.sl (Ty.i .i64))).at uu0 x8] := hI14
      replace hb13 : p_impl_zeros_L1 columns k7 x8 = some ct9 := hb13
      unfold p_impl_zeros_L1 at hb13
      obtain ⟨u17, hf18, hf19, hf20, hf21, hr22, hS23⟩ := hI14
      refine W.seq (W.region ?_)
      refine WL.val (Value.bool (decide ((k7 : Int) < rows))) _ (op_lss hf21 hf20) rfl ?_
      have hl24 : (k7 : Int) < rows := by omega
      refine WL.nil ?_
      show W _ _ _ _ _ _
      refine W.seq ?_
      refine W.condT (decide ((k7 : Int) < rows)) rfl (decide_eq_true hl24) ?_
      refine W.skip ?_
      show W _ _ _ _ _ _
      refine W.seq ?_
      refine W.block ?_
      refine W.region ?_
      refine WL.val u17 _ (op_move hf19) rfl ?_
      refine WL.val (Value.int .i64 columns) _ (op_move hf18) rfl ?_
      obtain ⟨x26, hx27, hb13⟩ := bs hb13
      refine WL.make (t := (Ty.i .i64)) hS23 sl_22 (fun _ _ => ⟨rfl, (inR_i64.2 (show (-9223372036854775808 : Int) ≤ 0 ∧ (0 : Int) ≤ 9223372036854775807 from by decide))⟩) rfl rfl hx27 rfl rfl ?_
      intro u28 wd29 hS30 he31
      replace hS30 : St w wd29 [(Ty.sl (Ty.sl (Ty.i .i64))).at u17 x8, (Ty.sl (Ty.i .i64)).at u28 x26] := hS30
      refine WL.lit [u28] hS30 sl_26 rfl rfl (fillL rfl ⟨rfl, rfl, (cells_rep (St.rep (t := (Ty.sl (Ty.i .i64))) hS30 1 rfl)), trivial⟩) rfl rfl ?_
      intro b36 wd33 hS34 he35 hx37
      replace hS34 : St w wd33 [(Ty.sl (Ty.sl (Ty.i .i64))).at u17 x8, (Ty.sl (Ty.i .i64)).at u28 x26, bx b36 [u28]] := hS34
      obtain ⟨x38, hx39, hb13⟩ := bs hb13
      refine WL.appendRow hS34 (k := 0) (k2 := 1) (k3 := 2) rfl rfl rfl rfl sl_26 rfl rfl rfl rfl hx39 rfl ?_
      intro u40 wd41 hS42 hz43
      replace hS42 : St w wd41 [(Ty.sl (Ty.sl (Ty.i .i64))).at u40 x38, emp, bx b36 [u28]] := hS42
      refine WL.val u40 _ (op_assign rfl) rfl ?_
      refine WL.nil ?_
      show W _ _ _ _ _ _
      refine W.region ?_
      refine WL.val (Value.int .i64 (w64 ((k7 : Int) + (1 : Int)))) _ (op_add hf21 rfl) rfl ?_
      refine WL.val (Value.int .i64 (w64 ((k7 : Int) + (1 : Int)))) _ (op_move rfl) rfl ?_
      refine WL.nil ?_
      obtain rfl := Option.some.inj hb13
      show ∃ s, _ = Ctl.next s ∧ _
      exact ⟨_, rfl, u40, hf18, rfl, hf20, (ctr_next hl24 r_rows), (ctr_rng hl24 r_rows), (St.pick hS42 [0] rfl)⟩
    · intro x50 f45 wd46 hs47 hI48
      replace hI48 : ∃ (uu0 : Value), f45 1 = (Value.int .i64 columns) ∧ f45 5 = uu0 ∧ f45 7 = (Value.int .i64 rows) ∧ f45 8 = Value.int .i64 (((rows).toNat : Nat) : Int) ∧ InR .i64 (((rows).toNat : Nat) : Int) ∧ St w wd46 [(Ty.sl (Ty.sl (Ty.i .i64))).at uu0 x50] := hI48
      obtain ⟨u51, hf52, hf53, hf54, hf55, hr56, hS57⟩ := hI48
      refine W.seq (W.region ?_)
      refine WL.val (Value.bool (decide ((((rows).toNat : Nat) : Int) < rows))) _ (op_lss hf55 hf54) rfl ?_
      have hl58 : ¬ (((rows).toNat : Nat) : Int) < rows := by omega
      refine WL.nil ?_
      show W _ _ _ _ _ _
      refine W.seq ?_
      refine W.condF (decide ((((rows).toNat : Nat) : Int) < rows)) rfl (decide_eq_false hl58) ?_
      refine W.exit ?_
      show _ = _ ∧ _
      exact ⟨rfl, _, hs47, u51, hf53, hS57⟩
  · rintro f59 wd60 ⟨x63, rfl, hq61⟩
    replace h := onRes_fin h
    replace hq61 : ∃ (uu0 : Value), f59 5 = uu0 ∧ St w wd60 [(Ty.sl (Ty.sl (Ty.i .i64))).at uu0 x63] := hq61
    obtain ⟨u64, hf65, hS66⟩ := hq61
    show W _ _ _ _ _ _
    refine W.seq (W.region ?_)
    refine WL.val u64 _ (op_move hf65) rfl ?_
    refine WL.val u64 _ (op_assign rfl) rfl ?_
    refine WL.nil ?_
    show W _ _ _ _ _ _
    refine W.ret ?_
    obtain rfl := Option.some.inj h
    show FinP _ _ _ _ _ _ _
    exact FinP.ret _ (res1 rfl rfl) ⟨u64, rfl, hS66.ext, (St.out (St.pick hS66 [0] rfl) (Ext.refl _))⟩

theorem c_impl_cocycleBy {w : World} {orders : (List Int)} {v_orders : Value} {m : Int} {number : Int → Int → Int → Option Int} {v_number : Value} (r_orders : (Ty.sl (Ty.i .i64)).rep w v_orders orders) (r_m : InR .i64 m) (r_number : FnT_i_i_i_to_i Try.prog v_number w number) {res : (List Int) × Int × (List (List (List Int)))} (h : p_impl_cocycleBy orders m number  = some res) :
    Ret Try.prog 48 #[v_orders, (Value.int .i64 m), v_number] w (fun v w' => ∃ (u0 : Value) (u2 : Value), v = (Value.agg #[u0, Value.int .i64 res.2.1, u2]) ∧ InR .i64 res.2.1 ∧ Ext w w' ∧ Sep w.heap.size w' [(Ty.sl (Ty.i .i64)).at u0 res.1, (Ty.sl (Ty.sl (Ty.sl (Ty.i .i64)))).at u2 res.2.2]) := by
  unfold p_impl_cocycleBy at h
  have hS0 : St w w [] := St.start w
  have q_number := r_number
  obtain ⟨g_number, fst_number, cap_number, eq_number, ok_number, call_number⟩ := q_number
  subst eq_number
  refine Ret.start (fn := Try.f48) Try.func48 rfl 57 rfl rfl ?_
  refine W.seq (W.region ?_)
  refine WL.alloc hS0 ze_32 (cs := [(Value.slice none 0 0), (Value.int .i64 (0 : Int)), (Value.slice none 0 0)]) rfl rfl ?_
  intro b1 wd2 hS3 he4
  replace hS3 : St w wd2 [bx b1 [(Value.slice none 0 0), (Value.int .i64 (0 : Int)), (Value.slice none 0 0)]] := hS3
  refine WL.nil ?_
  show W _ _ _ _ _ _
  refine W.seq (W.region ?_)
  refine WL.val v_orders _ (op_move rfl) rfl ?_
  obtain ⟨x5, hx6, h⟩ := bs h
  refine WL.call _ (op_call fn_80 (args1 rfl)) (c_slices_Clone_Lint64_int64 (Ty.lift _ hS3.ext r_orders) hx6) rfl ?_
  rintro u7 wd8 ⟨_, rfl, he9, hs10⟩
  have hS11 := St.join hS3 he9 hs10
  replace hS11 : St w wd8 [bx b1 [(Value.slice none 0 0), (Value.int .i64 (0 : Int)), (Value.slice none 0 0)], (Ty.sl (Ty.i .i64)).at u7 x5] := hS11
  refine WL.val (Value.int .i64 m) _ (op_move rfl) rfl ?_
  refine WL.val (Value.agg #[u7, (Value.int .i64 m), (Value.slice none 0 0)]) _ (op_build bd_32 (parts := [(0, u7, [u7]), (1, (Value.int .i64 m), [(Value.int .i64 m)])]) (partsL ⟨rfl, rfl, rfl, rfl, trivial⟩) ⟨(cells_rep (St.rep (t := (Ty.sl (Ty.i .i64))) hS11 1 rfl)), rfl, trivial⟩ rfl) rfl ?_
  refine WL.val v_orders _ (op_move rfl) rfl ?_
  obtain ⟨x12, hx13, h⟩ := bs h
  refine WL.call _ (op_call fn_79 (args1 rfl)) (c_impl_groupSize (Ty.lift _ hS11.ext r_orders) hx13) rfl ?_
  rintro _ wd15 ⟨rfl, hr14, he16⟩
  have hS18 := St.extend hS11 he16
  replace hS18 : St w wd15 [bx b1 [(Value.slice none 0 0), (Value.int .i64 (0 : Int)), (Value.slice none 0 0)], (Ty.sl (Ty.i .i64)).at u7 x5] := hS18
  refine WL.alloc hS18 ze_32 (cs := [(Value.slice none 0 0), (Value.int .i64 (0 : Int)), (Value.slice none 0 0)]) rfl rfl ?_
  intro b19 wd20 hS21 he22
  replace hS21 : St w wd20 [bx b1 [(Value.slice none 0 0), (Value.int .i64 (0 : Int)), (Value.slice none 0 0)], (Ty.sl (Ty.i .i64)).at u7 x5, bx b19 [(Value.slice none 0 0), (Value.int .i64 (0 : Int)), (Value.slice none 0 0)]] := hS21
  have hS25 := St.addNil (Ty.sl (Ty.sl (Ty.i .i64))) hS21
  replace hS25 : St w wd20 [bx b1 [(Value.slice none 0 0), (Value.int .i64 (0 : Int)), (Value.slice none 0 0)], (Ty.sl (Ty.i .i64)).at u7 x5, bx b19 [(Value.slice none 0 0), (Value.int .i64 (0 : Int)), (Value.slice none 0 0)], (Ty.sl (Ty.sl (Ty.sl (Ty.i .i64)))).at (Value.slice none 0 0) ([] : (List (List (List Int))))] := hS25
  refine WL.storeBox [u7, (Value.int .i64 m), (Value.slice none 0 0)] hS25 (k := 2) rfl rfl rfl (us := [u7, (Value.int .i64 m), (Value.slice none 0 0)]) rfl sz_32 rfl rfl (all_rep (St.rep (t := (Ty.sl (Ty.i .i64))) hS25 1 rfl) (all_cons rfl (all_rep (St.rep (t := (Ty.sl (Ty.sl (Ty.sl (Ty.i .i64))))) hS25 3 rfl) all_nil))) rfl ?_
  intro wd23 hS24
  replace hS24 : St w wd23 [bx b1 [(Value.slice none 0 0), (Value.int .i64 (0 : Int)), (Value.slice none 0 0)], (Ty.sl (Ty.i .i64)).at u7 x5, bx b19 [u7, (Value.int .i64 m), (Value.slice none 0 0)], (Ty.sl (Ty.sl (Ty.sl (Ty.i .i64)))).at (Value.slice none 0 0) ([] : (List (List (List Int))))] := hS24
  refine WL.val (Value.int .i64 x12) _ (op_assign rfl) rfl ?_
  refine WL.nil ?_
  show W _ _ _ _ _ _
  refine W.seq (W.seq (W.region ?_))
  refine WL.val (Value.int .i64 x12) _ (op_move rfl) rfl ?_
  refine WL.val (Value.int .i64 (0 : Int)) _ (op_move rfl) rfl ?_
  refine WL.nil ?_
  show W _ _ _ _ _ _
  obtain ⟨res26, hres27, h⟩ := bs h
  refine W.blockLoop (fun fq wq => ∃ s, res26 = Res.fin s ∧ ∃ (uu0 : Value), fq 6 = (Value.pointer (some ⟨b1, 0, none⟩)) ∧ fq 7 = (Value.pointer (some ⟨b19, 0, none⟩)) ∧ St w wq [bx b1 [(Value.slice none 0 0), (Value.int .i64 (0 : Int)), (Value.slice none 0 0)], (Ty.sl (Ty.i .i64)).at u7 x5, bx b19 [u7, (Value.int .i64 m), uu0], (Ty.sl (Ty.sl (Ty.sl (Ty.i .i64)))).at uu0 s]) ?_ ?_
  · refine W.forN (fun k (s : (List (List (List Int)))) fq wq => ∃ (uu0 : Value), fq 2 = (Value.func (.func g_number) fst_number cap_number) ∧ fq 6 = (Value.pointer (some ⟨b1, 0, none⟩)) ∧ fq 7 = (Value.pointer (some ⟨b19, 0, none⟩)) ∧ fq 8 = (Value.int .i64 x12) ∧ fq 19 = (Value.int .i64 x12) ∧ fq 20 = Value.int .i64 (k : Int) ∧ InR .i64 (k : Int) ∧ St w wq [bx b1 [(Value.slice none 0 0), (Value.int .i64 (0 : Int)), (Value.slice none 0 0)], (Ty.sl (Ty.i .i64)).at u7 x5, bx b19 [u7, (Value.int .i64 m), uu0], (Ty.sl (Ty.sl (Ty.sl (Ty.i .i64)))).at uu0 s]) hres27 ⟨(Value.slice none 0 0), rfl, rfl, rfl, rfl, rfl, rfl, (inR_i64.2 (show (-9223372036854775808 : Int) ≤ 0 ∧ (0 : Int) ≤ 9223372036854775807 from by decide)), hS24⟩ ?_ ?_
    · intro k28 x29 ct30 f31 wd32 hk33 hb34 hI35 hbrk36 hret37
      replace hI35 : ∃ (uu0 : Value), f31 2 = (Value.func (.func g_number) fst_number cap_number) ∧ f31 6 = (Value.pointer (some ⟨b1, 0, none⟩)) ∧ f31 7 = (Value.pointer (some ⟨b19, 0, none⟩)) ∧ f31 8 = (Value.int .i64 x12) ∧ f31 19 = (Value.int .i64 x12) ∧ f31 20 = Value.int .i64 (k28 : Int) ∧ InR .i64 (k28 : Int) ∧ St w wd32 [bx b1 [(Value.slice none 0 0), (Value.int .i64 (0 : Int)), (Value.slice none 0 0)], (Ty.sl (Ty.i .i64)).at u7 x5, bx b19 [u7, (Value.int .i64 m), uu0], (Ty.sl (Ty.sl (Ty.sl (Ty.i .i64)))).at uu0 x29] := hI35
      replace hb34 : p_impl_cocycleBy_L1 x12 number x5 m k28 x29 = some ct30 := hb34
      unfold p_impl_cocycleBy_L1 at hb34
      obtain ⟨u38, hf39, hf40, hf41, hf42, hf43, hf44, hr45, hS46⟩ := hI35
      refine W.seq (W.region ?_)
      refine WL.val (Value.bool (decide ((k28 : Int) < x12))) _ (op_lss hf44 hf43) rfl ?_
      have hl47 : (k28 : Int) < x12 := by omega
      refine WL.nil ?_
      show W _ _ _ _ _ _
      refine W.seq ?_
      refine W.condT (decide ((k28 : Int) < x12)) rfl (decide_eq_true hl47) ?_
      refine W.skip ?_
      show W _ _ _ _ _ _
      refine W.seq ?_
      refine W.block ?_
      refine W.seq (W.region ?_)
      refine WL.val (Value.int .i64 (k28 : Int)) _ (op_move hf44) rfl ?_
      refine WL.val (Value.int .i64 (k28 : Int)) _ (op_assign rfl) rfl ?_
      refine WL.nil ?_
      show W _ _ _ _ _ _
      refine W.seq (W.region ?_)
      refine WL.val (Value.int .i64 x12) _ (op_move hf42) rfl ?_
      refine WL.val (Value.int .i64 x12) _ (op_move hf42) rfl ?_
      obtain ⟨x49, hx50, hb34⟩ := bs hb34
      refine WL.call _ (op_call fn_81 (args2 rfl rfl)) (c_impl_zeros hr14 hr14 hx50) rfl ?_
      rintro u51 wd52 ⟨_, rfl, he53, hs54⟩
      have hS55 := St.join hS46 he53 hs54
      replace hS55 : St w wd52 [bx b1 [(Value.slice none 0 0), (Value.int .i64 (0 : Int)), (Value.slice none 0 0)], (Ty.sl (Ty.i .i64)).at u7 x5, bx b19 [u7, (Value.int .i64 m), u38], (Ty.sl (Ty.sl (Ty.sl (Ty.i .i64)))).at u38 x29, (Ty.sl (Ty.sl (Ty.i .i64))).at u51 x49] := hS55
      refine WL.val u51 _ (op_assign rfl) rfl ?_
      refine WL.nil ?_
      show W _ _ _ _ _ _
      refine W.seq (W.seq (W.region ?_))
      refine WL.val (Value.int .i64 x12) _ (op_move hf42) rfl ?_
      refine WL.val (Value.int .i64 (0 : Int)) _ (op_move rfl) rfl ?_
      refine WL.nil ?_
      show W _ _ _ _ _ _
      obtain ⟨res56, hres57, hb34⟩ := bs hb34
      refine W.blockLoop (fun fq wq => ∃ s, res56 = Res.fin s ∧ fq 2 = (Value.func (.func g_number) fst_number cap_number) ∧ fq 6 = (Value.pointer (some ⟨b1, 0, none⟩)) ∧ fq 7 = (Value.pointer (some ⟨b19, 0, none⟩)) ∧ fq 8 = (Value.int .i64 x12) ∧ fq 10 = u51 ∧ fq 19 = (Value.int .i64 x12) ∧ fq 20 = (Value.int .i64 (k28 : Int)) ∧ St w wq [bx b1 [(Value.slice none 0 0), (Value.int .i64 (0 : Int)), (Value.slice none 0 0)], (Ty.sl (Ty.i .i64)).at u7 x5, bx b19 [u7, (Value.int .i64 m), u38], (Ty.sl (Ty.sl (Ty.sl (Ty.i .i64)))).at u38 x29, (Ty.sl (Ty.sl (Ty.i .i64))).at u51 s]) ?_ ?_
      · refine W.forN (fun k (s : (List (List Int))) fq wq => fq 2 = (Value.func (.func g_number) fst_number cap_number) ∧ fq 6 = (Value.pointer (some ⟨b1, 0, none⟩)) ∧ fq 7 = (Value.pointer (some ⟨b19, 0, none⟩)) ∧ fq 8 = (Value.int .i64 x12) ∧ fq 9 = (Value.int .i64 (k28 : Int)) ∧ fq 10 = u51 ∧ fq 19 = (Value.int .i64 x12) ∧ fq 20 = (Value.int .i64 (k28 : Int)) ∧ fq 26 = (Value.int .i64 x12) ∧ fq 27 = Value.int .i64 (k : Int) ∧ InR .i64 (k : Int) ∧ St w wq [bx b1 [(Value.slice none 0 0), (Value.int .i64 (0 : Int)), (Value.slice none 0 0)], (Ty.sl (Ty.i .i64)).at u7 x5, bx b19 [u7, (Value.int .i64 m), u38], (Ty.sl (Ty.sl (Ty.sl (Ty.i .i64)))).at u38 x29, (Ty.sl (Ty.sl (Ty.i .i64))).at u51 s]) hres57 ⟨hf39, hf40, hf41, hf42, rfl, rfl, hf43, hf44, rfl, rfl, (inR_i64.2 (show (-9223372036854775808 : Int) ≤ 0 ∧ (0 : Int) ≤ 9223372036854775807 from by decide)), hS55⟩ ?_ ?_
        · intro k58 x59 ct60 f61 wd62 hk63 hb64 hI65 hbrk66 hret67
          replace hI65 : f61 2 = (Value.func (.func g_number) fst_number cap_number) ∧ f61 6 = (Value.pointer (some ⟨b1, 0, none⟩)) ∧ f61 7 = (Value.pointer (some ⟨b19, 0, none⟩)) ∧ f61 8 = (Value.int .i64 x12) ∧ f61 9 = (Value.int .i64 (k28 : Int)) ∧ f61 10 = u51 ∧ f61 19 = (Value.int .i64 x12) ∧ f61 20 = (Value.int .i64 (k28 : Int)) ∧ f61 26 = (Value.int .i64 x12) ∧ f61 27 = Value.int .i64 (k58 : Int) ∧ InR .i64 (k58 : Int) ∧ St w wd62 [bx b1 [(Value.slice none 0 0), (Value.int .i64 (0 : Int)), (Value.slice none 0 0)], (Ty.sl (Ty.i .i64)).at u7 x5, bx b19 [u7, (Value.int .i64 m), u38], (Ty.sl (Ty.sl (Ty.sl (Ty.i .i64)))).at u38 x29, (Ty.sl (Ty.sl (Ty.i .i64))).at u51 x59] := hI65
          replace hb64 : p_impl_cocycleBy_L2 number k28 x5 m x29 x12 k58 x59 = some ct60 := hb64
          unfold p_impl_cocycleBy_L2 at hb64
          obtain ⟨hf68, hf69, hf70, hf71, hf72, hf73, hf74, hf75, hf76, hf77, hr78, hS79⟩ := hI65
          refine W.seq (W.region ?_)
          refine WL.val (Value.bool (decide ((k58 : Int) < x12))) _ (op_lss hf77 hf76) rfl ?_
          have hl80 : (k58 : Int) < x12 := by omega
          refine WL.nil ?_
          show W _ _ _ _ _ _
          refine W.seq ?_
          refine W.condT (decide ((k58 : Int) < x12)) rfl (decide_eq_true hl80) ?_
          refine W.skip ?_
          show W _ _ _ _ _ _
          refine W.seq ?_
          refine W.block ?_
          refine W.seq (W.region ?_)
          refine WL.val (Value.int .i64 (k58 : Int)) _ (op_move hf77) rfl ?_
          refine WL.val (Value.int .i64 (k58 : Int)) _ (op_assign rfl) rfl ?_
          refine WL.nil ?_
          show W _ _ _ _ _ _
          refine W.seq (W.region ?_)
          refine WL.val (Value.int .i64 x12) _ (op_move hf71) rfl ?_
          refine WL.val (Value.int .i64 (0 : Int)) _ (op_move rfl) rfl ?_
          refine WL.nil ?_
          show W _ _ _ _ _ _
          obtain ⟨res82, hres83, hb64⟩ := bs hb64
          refine W.blockLoop (fun fq wq => ∃ s, res82 = Res.fin s ∧ fq 2 = (Value.func (.func g_number) fst_number cap_number) ∧ fq 6 = (Value.pointer (some ⟨b1, 0, none⟩)) ∧ fq 7 = (Value.pointer (some ⟨b19, 0, none⟩)) ∧ fq 8 = (Value.int .i64 x12) ∧ fq 9 = (Value.int .i64 (k28 : Int)) ∧ fq 10 = u51 ∧ fq 19 = (Value.int .i64 x12) ∧ fq 20 = (Value.int .i64 (k28 : Int)) ∧ fq 26 = (Value.int .i64 x12) ∧ fq 27 = (Value.int .i64 (k58 : Int)) ∧ St w wq [bx b1 [(Value.slice none 0 0), (Value.int .i64 (0 : Int)), (Value.slice none 0 0)], (Ty.sl (Ty.i .i64)).at u7 x5, bx b19 [u7, (Value.int .i64 m), u38], (Ty.sl (Ty.sl (Ty.sl (Ty.i .i64)))).at u38 x29, (Ty.sl (Ty.sl (Ty.i .i64))).at u51 s]) ?_ ?_
          · refine W.forN (fun k (s : (List (List Int))) fq wq => fq 2 = (Value.func (.func g_number) fst_number cap_number) ∧ fq 6 = (Value.pointer (some ⟨b1, 0, none⟩)) ∧ fq 7 = (Value.pointer (some ⟨b19, 0, none⟩)) ∧ fq 8 = (Value.int .i64 x12) ∧ fq 9 = (Value.int .i64 (k28 : Int)) ∧ fq 10 = u51 ∧ fq 11 = (Value.int .i64 (k58 : Int)) ∧ fq 19 = (Value.int .i64 x12) ∧ fq 20 = (Value.int .i64 (k28 : Int)) ∧ fq 26 = (Value.int .i64 x12) ∧ fq 27 = (Value.int .i64 (k58 : Int)) ∧ fq 30 = (Value.int .i64 x12) ∧ fq 31 = Value.int .i64 (k : Int) ∧ InR .i64 (k : Int) ∧ St w wq [bx b1 [(Value.slice none 0 0), (Value.int .i64 (0 : Int)), (Value.slice none 0 0)], (Ty.sl (Ty.i .i64)).at u7 x5, bx b19 [u7, (Value.int .i64 m), u38], (Ty.sl (Ty.sl (Ty.sl (Ty.i .i64)))).at u38 x29, (Ty.sl (Ty.sl (Ty.i .i64))).at u51 s]) hres83 ⟨hf68, hf69, hf70, hf71, hf72, hf73, rfl, hf74, hf75, hf76, hf77, rfl, rfl, (inR_i64.2 (show (-9223372036854775808 : Int) ≤ 0 ∧ (0 : Int) ≤ 9223372036854775807 from by decide)), hS79⟩ ?_ ?_
            · intro k84 x85 ct86 f87 wd88 hk89 hb90 hI91 hbrk92 hret93
              replace hI91 : f87 2 = (Value.func (.func g_number) fst_number cap_number) ∧ f87 6 = (Value.pointer (some ⟨b1, 0, none⟩)) ∧ f87 7 = (Value.pointer (some ⟨b19, 0, none⟩)) ∧ f87 8 = (Value.int .i64 x12) ∧ f87 9 = (Value.int .i64 (k28 : Int)) ∧ f87 10 = u51 ∧ f87 11 = (Value.int .i64 (k58 : Int)) ∧ f87 19 = (Value.int .i64 x12) ∧ f87 20 = (Value.int .i64 (k28 : Int)) ∧ f87 26 = (Value.int .i64 x12) ∧ f87 27 = (Value.int .i64 (k58 : Int)) ∧ f87 30 = (Value.int .i64 x12) ∧ f87 31 = Value.int .i64 (k84 : Int) ∧ InR .i64 (k84 : Int) ∧ St w wd88 [bx b1 [(Value.slice none 0 0), (Value.int .i64 (0 : Int)), (Value.slice none 0 0)], (Ty.sl (Ty.i .i64)).at u7 x5, bx b19 [u7, (Value.int .i64 m), u38], (Ty.sl (Ty.sl (Ty.sl (Ty.i .i64)))).at u38 x29, (Ty.sl (Ty.sl (Ty.i .i64))).at u51 x85] := hI91
              replace hb90 : p_impl_cocycleBy_L3 k58 number k28 x5 m x29 k84 x85 = some ct86 := hb90
              unfold p_impl_cocycleBy_L3 at hb90
              obtain ⟨hf94, hf95, hf96, hf97, hf98, hf99, hf100, hf101, hf102, hf103, hf104, hf105, hf106, hr107, hS108⟩ := hI91
              refine W.seq (W.region ?_)
              refine WL.val (Value.bool (decide ((k84 : Int) < x12))) _ (op_lss hf106 hf105) rfl ?_
              have hl109 : (k84 : Int) < x12 := by omega
              refine WL.nil ?_
              show W _ _ _ _ _ _
              refine W.seq ?_
              refine W.condT (decide ((k84 : Int) < x12)) rfl (decide_eq_true hl109) ?_
              refine W.skip ?_
              show W _ _ _ _ _ _
              refine W.seq ?_
              refine W.block ?_
              refine W.seq (W.region ?_)
              refine WL.val (Value.int .i64 (k84 : Int)) _ (op_move hf106) rfl ?_
              refine WL.val (Value.int .i64 (k84 : Int)) _ (op_assign rfl) rfl ?_
              refine WL.nil ?_
              show W _ _ _ _ _ _
              obtain ⟨x140, hx143, hb90⟩ := bs hb90
              obtain ⟨ha141, hb142, hx143⟩ := idx_some hx143
              obtain ⟨u154, hc155, hr156⟩ := repSl.el (St.rep (t := (Ty.sl (Ty.sl (Ty.i .i64)))) hS108 4 rfl) hx143
              obtain ⟨x224, hx225, hb90⟩ := bs hb90
              obtain ⟨x245, hx246, hb90⟩ := bs hb90
              refine W.drawR mixo 12 [] [fun _ v _ _ => v = u51, fun _ v _ _ => v = (Value.int .i64 (k58 : Int)) ∧ InR .i64 (k58 : Int), fun _ v _ _ => v = (Value.pointer (some (elA u51 ((k58 : Int)).toNat))), fun _ v _ _ => v = u154, fun _ v _ _ => v = (Value.int .i64 (k84 : Int)) ∧ InR .i64 (k84 : Int), fun _ v S w' => v = (Value.agg #[u7, (Value.int .i64 m), u38]) ∧ InR .i64 m, fun _ v _ _ => v = (Value.func (.func g_number) fst_number cap_number), fun _ v _ _ => v = (Value.int .i64 (k28 : Int)) ∧ InR .i64 (k28 : Int), fun _ v _ _ => v = (Value.int .i64 (k58 : Int)) ∧ InR .i64 (k58 : Int), fun _ v _ _ => v = (Value.int .i64 (k84 : Int)) ∧ InR .i64 (k84 : Int), fun _ v _ _ => v = (Value.int .i64 x224) ∧ InR .i64 x224, fun _ v _ _ => v = (Value.int .i64 x245) ∧ InR .i64 x245] (by kernel_rfl) (by kernel_rfl) ⟨⟨fun _ _ _ _ _ _ h => h, fun _ _ _ _ _ _ h => h⟩, ⟨fun _ _ _ _ _ _ h => h, fun _ _ _ _ _ _ h => h⟩, ⟨fun _ _ _ _ _ _ h => h, fun _ _ _ _ _ _ h => h⟩, ⟨fun _ _ _ _ _ _ h => h, fun _ _ _ _ _ _ h => h⟩, ⟨fun _ _ _ _ _ _ h => h, fun _ _ _ _ _ _ h => h⟩, ⟨fun _ _ _ _ _ he ⟨h0, h1⟩ => ⟨h0, h1⟩, fun _ _ _ _ _ _ h => h⟩, ⟨fun _ _ _ _ _ _ h => h, fun _ _ _ _ _ _ h => h⟩, ⟨fun _ _ _ _ _ _ h => h, fun _ _ _ _ _ _ h => h⟩, ⟨fun _ _ _ _ _ _ h => h, fun _ _ _ _ _ _ h => h⟩, ⟨fun _ _ _ _ _ _ h => h, fun _ _ _ _ _ _ h => h⟩, ⟨fun _ _ _ _ _ _ h => h, fun _ _ _ _ _ _ h => h⟩, ⟨fun _ _ _ _ _ _ h => h, fun _ _ _ _ _ _ h => h⟩, trivial⟩ ⟨?_, ?_, ?_, ?_, ?_, ?_, ?_, ?_, ?_, ?_, ?_, ?_, trivial⟩ ?_
              · refine ObX.op rfl ?_
                intro f111 wd112 he113 hout114 hphi115
                have hS116 : St w wd112 [bx b1 [(Value.slice none 0 0), (Value.int .i64 (0 : Int)), (Value.slice none 0 0)], (Ty.sl (Ty.i .i64)).at u7 x5, bx b19 [u7, (Value.int .i64 m), u38], (Ty.sl (Ty.sl (Ty.sl (Ty.i .i64)))).at u38 x29, (Ty.sl (Ty.sl (Ty.i .i64))).at u51 x85] := St.extend hS108 he113
                have e117 : f111 10 = u51 := (hout114 10 rfl).trans hf99
                exact OpX.val u51 wd112 rfl (op_move e117) (Ext.refl _) rfl
              · refine ObX.op rfl ?_
                intro f118 wd119 he120 hout121 hphi122
                have hS123 : St w wd119 [bx b1 [(Value.slice none 0 0), (Value.int .i64 (0 : Int)), (Value.slice none 0 0)], (Ty.sl (Ty.i .i64)).at u7 x5, bx b19 [u7, (Value.int .i64 m), u38], (Ty.sl (Ty.sl (Ty.sl (Ty.i .i64)))).at u38 x29, (Ty.sl (Ty.sl (Ty.i .i64))).at u51 x85] := St.extend hS108 he120
                have e124 : f118 11 = (Value.int .i64 (k58 : Int)) := (hout121 11 rfl).trans hf100
                exact OpX.val (Value.int .i64 (k58 : Int)) wd119 rfl (op_move e124) (Ext.refl _) ⟨rfl, hr78⟩
              · refine ObX.op rfl ?_
                intro f125 wd126 he127 hout128 hphi129
                have hS130 : St w wd126 [bx b1 [(Value.slice none 0 0), (Value.int .i64 (0 : Int)), (Value.slice none 0 0)], (Ty.sl (Ty.i .i64)).at u7 x5, bx b19 [u7, (Value.int .i64 m), u38], (Ty.sl (Ty.sl (Ty.sl (Ty.i .i64)))).at u38 x29, (Ty.sl (Ty.sl (Ty.i .i64))).at u51 x85] := St.extend hS108 he127
                obtain ⟨S131, hS132, hf133⟩ := hphi129 0 34 _ rfl rfl rfl
                have e134 : f125 34 = u51 := hf133
                obtain ⟨S135, hS136, hf137⟩ := hphi129 1 35 _ rfl rfl rfl
                obtain ⟨e138, hr139⟩ : f125 35 = (Value.int .i64 (k58 : Int)) ∧ InR .i64 (k58 : Int) := hf137
                exact OpX.val (Value.pointer (some (elA u51 ((k58 : Int)).toNat))) wd126 rfl (op_idx sl_26 (St.rep (t := (Ty.sl (Ty.sl (Ty.i .i64)))) hS130 4 rfl) e134 e138 ha141 hb142) (Ext.refl _) rfl
              · refine ObX.op rfl ?_
                intro f144 wd145 he146 hout147 hphi148
                have hS149 : St w wd145 [bx b1 [(Value.slice none 0 0), (Value.int .i64 (0 : Int)), (Value.slice none 0 0)], (Ty.sl (Ty.i .i64)).at u7 x5, bx b19 [u7, (Value.int .i64 m), u38], (Ty.sl (Ty.sl (Ty.sl (Ty.i .i64)))).at u38 x29, (Ty.sl (Ty.sl (Ty.i .i64))).at u51 x85] := St.extend hS108 he146
                obtain ⟨S150, hS151, hf152⟩ := hphi148 2 36 _ rfl rfl rfl
                have e153 : f144 36 = (Value.pointer (some (elA u51 ((k58 : Int)).toNat))) := hf152
                exact OpX.val u154 wd145 rfl (op_load one_22 e153 (Ext.cell he146 hc155)) (Ext.refl _) rfl
              · refine ObX.op rfl ?_
                intro f157 wd158 he159 hout160 hphi161
                have hS162 : St w wd158 [bx b1 [(Value.slice none 0 0), (Value.int .i64 (0 : Int)), (Value.slice none 0 0)], (Ty.sl (Ty.i .i64)).at u7 x5, bx b19 [u7, (Value.int .i64 m), u38], (Ty.sl (Ty.sl (Ty.sl (Ty.i .i64)))).at u38 x29, (Ty.sl (Ty.sl (Ty.i .i64))).at u51 x85] := St.extend hS108 he159
                have e163 : f157 12 = (Value.int .i64 (k84 : Int)) := (hout160 12 rfl).trans rfl
                exact OpX.val (Value.int .i64 (k84 : Int)) wd158 rfl (op_move e163) (Ext.refl _) ⟨rfl, hr107⟩
              · refine ObX.op rfl ?_
                intro f164 wd165 he166 hout167 hphi168
                have hS169 : St w wd165 [bx b1 [(Value.slice none 0 0), (Value.int .i64 (0 : Int)), (Value.slice none 0 0)], (Ty.sl (Ty.i .i64)).at u7 x5, bx b19 [u7, (Value.int .i64 m), u38], (Ty.sl (Ty.sl (Ty.sl (Ty.i .i64)))).at u38 x29, (Ty.sl (Ty.sl (Ty.i .i64))).at u51 x85] := St.extend hS108 he166
                have e170 : f164 7 = (Value.pointer (some ⟨b19, 0, none⟩)) := (hout167 7 rfl).trans hf96
                exact OpX.val (Value.agg #[u7, (Value.int .i64 m), u38]) wd165 rfl (op_loadBox st_32 e170 (St.boxAt hS169 2 rfl) rfl rfl) (Ext.refl _) ⟨rfl, r_m⟩
              · refine ObX.op rfl ?_
                intro f171 wd172 he173 hout174 hphi175
                have hS176 : St w wd172 [bx b1 [(Value.slice none 0 0), (Value.int .i64 (0 : Int)), (Value.slice none 0 0)], (Ty.sl (Ty.i .i64)).at u7 x5, bx b19 [u7, (Value.int .i64 m), u38], (Ty.sl (Ty.sl (Ty.sl (Ty.i .i64)))).at u38 x29, (Ty.sl (Ty.sl (Ty.i .i64))).at u51 x85] := St.extend hS108 he173
                have e177 : f171 2 = (Value.func (.func g_number) fst_number cap_number) := (hout174 2 rfl).trans hf94
                exact OpX.val (Value.func (.func g_number) fst_number cap_number) wd172 rfl (op_move e177) (Ext.refl _) rfl
              · refine ObX.op rfl ?_
                intro f178 wd179 he180 hout181 hphi182
                have hS183 : St w wd179 [bx b1 [(Value.slice none 0 0), (Value.int .i64 (0 : Int)), (Value.slice none 0 0)], (Ty.sl (Ty.i .i64)).at u7 x5, bx b19 [u7, (Value.int .i64 m), u38], (Ty.sl (Ty.sl (Ty.sl (Ty.i .i64)))).at u38 x29, (Ty.sl (Ty.sl (Ty.i .i64))).at u51 x85] := St.extend hS108 he180
                have e184 : f178 9 = (Value.int .i64 (k28 : Int)) := (hout181 9 rfl).trans hf98
                exact OpX.val (Value.int .i64 (k28 : Int)) wd179 rfl (op_move e184) (Ext.refl _) ⟨rfl, hr45⟩
              · refine ObX.op rfl ?_
                intro f185 wd186 he187 hout188 hphi189
                have hS190 : St w wd186 [bx b1 [(Value.slice none 0 0), (Value.int .i64 (0 : Int)), (Value.slice none 0 0)], (Ty.sl (Ty.i .i64)).at u7 x5, bx b19 [u7, (Value.int .i64 m), u38], (Ty.sl (Ty.sl (Ty.sl (Ty.i .i64)))).at u38 x29, (Ty.sl (Ty.sl (Ty.i .i64))).at u51 x85] := St.extend hS108 he187
                have e191 : f185 11 = (Value.int .i64 (k58 : Int)) := (hout188 11 rfl).trans hf100
                exact OpX.val (Value.int .i64 (k58 : Int)) wd186 rfl (op_move e191) (Ext.refl _) ⟨rfl, hr78⟩
              · refine ObX.op rfl ?_
                intro f192 wd193 he194 hout195 hphi196
                have hS197 : St w wd193 [bx b1 [(Value.slice none 0 0), (Value.int .i64 (0 : Int)), (Value.slice none 0 0)], (Ty.sl (Ty.i .i64)).at u7 x5, bx b19 [u7, (Value.int .i64 m), u38], (Ty.sl (Ty.sl (Ty.sl (Ty.i .i64)))).at u38 x29, (Ty.sl (Ty.sl (Ty.i .i64))).at u51 x85] := St.extend hS108 he194
                have e198 : f192 12 = (Value.int .i64 (k84 : Int)) := (hout195 12 rfl).trans rfl
                exact OpX.val (Value.int .i64 (k84 : Int)) wd193 rfl (op_move e198) (Ext.refl _) ⟨rfl, hr107⟩
              · refine ObX.op rfl ?_
                intro f199 wd200 he201 hout202 hphi203
                have hS204 : St w wd200 [bx b1 [(Value.slice none 0 0), (Value.int .i64 (0 : Int)), (Value.slice none 0 0)], (Ty.sl (Ty.i .i64)).at u7 x5, bx b19 [u7, (Value.int .i64 m), u38], (Ty.sl (Ty.sl (Ty.sl (Ty.i .i64)))).at u38 x29, (Ty.sl (Ty.sl (Ty.i .i64))).at u51 x85] := St.extend hS108 he201
                obtain ⟨S205, hS206, hf207⟩ := hphi203 6 40 _ rfl rfl rfl
                have e208 : f199 40 = (Value.func (.func g_number) fst_number cap_number) := hf207
                obtain ⟨S209, hS210, hf211⟩ := hphi203 7 41 _ rfl rfl rfl
                obtain ⟨e212, hr213⟩ : f199 41 = (Value.int .i64 (k28 : Int)) ∧ InR .i64 (k28 : Int) := hf211
                obtain ⟨S214, hS215, hf216⟩ := hphi203 8 42 _ rfl rfl rfl
                obtain ⟨e217, hr218⟩ : f199 42 = (Value.int .i64 (k58 : Int)) ∧ InR .i64 (k58 : Int) := hf216
                obtain ⟨S219, hS220, hf221⟩ := hphi203 9 43 _ rfl rfl rfl
                obtain ⟨e222, hr223⟩ : f199 43 = (Value.int .i64 (k84 : Int)) ∧ InR .i64 (k84 : Int) := hf221
                refine OpX.call rfl (op_callV e208 ok_number (args3 e212 e217 e222)) (Ret.mono (call_number wd200 (k28 : Int) (k58 : Int) (k84 : Int) x224 hS204.ext hr213 hr218 hr223 hx225) ?_)
                rintro _ wd226 ⟨rfl, hr228, he227⟩
                exact ⟨he227, _, noS _ _, ⟨rfl, hr228⟩⟩
              · refine ObX.op rfl ?_
                intro f229 wd230 he231 hout232 hphi233
                have hS234 : St w wd230 [bx b1 [(Value.slice none 0 0), (Value.int .i64 (0 : Int)), (Value.slice none 0 0)], (Ty.sl (Ty.i .i64)).at u7 x5, bx b19 [u7, (Value.int .i64 m), u38], (Ty.sl (Ty.sl (Ty.sl (Ty.i .i64)))).at u38 x29, (Ty.sl (Ty.sl (Ty.i .i64))).at u51 x85] := St.extend hS108 he231
                obtain ⟨S235, hS236, hf237⟩ := hphi233 5 39 _ rfl rfl rfl
                obtain ⟨e238, hr239⟩ := hf237
                obtain ⟨S240, hS241, hf242⟩ := hphi233 10 44 _ rfl rfl rfl
                obtain ⟨e243, hr244⟩ : f229 44 = (Value.int .i64 x224) ∧ InR .i64 x224 := hf242
                refine OpX.call rfl (op_call fn_72 (args2 e238 e243)) (Ret.mono (c_impl_Cocycle_rest (St.rep (t := (Ty.sl (Ty.i .i64))) hS234 1 rfl) hr239 (St.rep (t := (Ty.sl (Ty.sl (Ty.sl (Ty.i .i64))))) hS234 3 rfl) hr244 hx246) ?_)
                rintro _ wd248 ⟨rfl, hr247, he249⟩
                exact ⟨he249, _, noS _ _, ⟨rfl, hr247⟩⟩
              · intro f251 wd252 Ss253 he254 hout255 hSn256 hSd257 hphi258
                show WL _ _ _ _ _ _ _
                have hS259 : St w wd252 [bx b1 [(Value.slice none 0 0), (Value.int .i64 (0 : Int)), (Value.slice none 0 0)], (Ty.sl (Ty.i .i64)).at u7 x5, bx b19 [u7, (Value.int .i64 m), u38], (Ty.sl (Ty.sl (Ty.sl (Ty.i .i64)))).at u38 x29, (Ty.sl (Ty.sl (Ty.i .i64))).at u51 x85] := St.extend hS108 he254
                have e260 : f251 37 = u154 := hphi258 3 37 _ (by decide) rfl rfl
                obtain ⟨e261, hr262⟩ : f251 38 = (Value.int .i64 (k84 : Int)) ∧ InR .i64 (k84 : Int) := hphi258 4 38 _ (by decide) rfl rfl
                obtain ⟨e263, hr264⟩ : f251 45 = (Value.int .i64 x245) ∧ InR .i64 x245 := hphi258 11 45 _ (by decide) rfl rfl
                have e265 : f251 2 = (Value.func (.func g_number) fst_number cap_number) := (hout255 2 rfl).trans hf94
                have e266 : f251 6 = (Value.pointer (some ⟨b1, 0, none⟩)) := (hout255 6 rfl).trans hf95
                have e267 : f251 7 = (Value.pointer (some ⟨b19, 0, none⟩)) := (hout255 7 rfl).trans hf96
                have e268 : f251 8 = (Value.int .i64 x12) := (hout255 8 rfl).trans hf97
                have e269 : f251 9 = (Value.int .i64 (k28 : Int)) := (hout255 9 rfl).trans hf98
                have e270 : f251 10 = u51 := (hout255 10 rfl).trans hf99
                have e271 : f251 11 = (Value.int .i64 (k58 : Int)) := (hout255 11 rfl).trans hf100
                have e272 : f251 19 = (Value.int .i64 x12) := (hout255 19 rfl).trans hf101
                have e273 : f251 20 = (Value.int .i64 (k28 : Int)) := (hout255 20 rfl).trans hf102
                have e274 : f251 26 = (Value.int .i64 x12) := (hout255 26 rfl).trans hf103
                have e275 : f251 27 = (Value.int .i64 (k58 : Int)) := (hout255 27 rfl).trans hf104
                have e276 : f251 30 = (Value.int .i64 x12) := (hout255 30 rfl).trans hf105
                have e277 : f251 31 = (Value.int .i64 (k84 : Int)) := (hout255 31 rfl).trans hf106
                obtain ⟨x278, hx281, hb90⟩ := bs hb90
                obtain ⟨ha279, hb280, hx281⟩ := idx_some hx281
                refine WL.val (Value.pointer (some (elA u154 ((k84 : Int)).toNat))) _ (op_idx sl_22 (Ty.lift _ he254 hr156) e260 e261 ha279 hb280) rfl ?_
                refine WL.storeEl2 (flat_i .i64) hS259 (k := 4) rfl sz_2 hx143 (Ext.cell he254 hc155) rfl e263 (lt_of_idx ha279 hb280) ⟨rfl, hr264⟩ ?_
                intro wd282 hS283
                replace hS283 : St w wd282 [bx b1 [(Value.slice none 0 0), (Value.int .i64 (0 : Int)), (Value.slice none 0 0)], (Ty.sl (Ty.i .i64)).at u7 x5, bx b19 [u7, (Value.int .i64 m), u38], (Ty.sl (Ty.sl (Ty.sl (Ty.i .i64)))).at u38 x29, (Ty.sl (Ty.sl (Ty.i .i64))).at u51 ((x85).set ((k58 : Int)).toNat ((x140).set ((k84 : Int)).toNat x245))] := hS283
                refine WL.nil ?_
                show W _ _ _ _ _ _
                refine W.region ?_
                refine WL.val (Value.int .i64 (w64 ((k84 : Int) + (1 : Int)))) _ (op_add e277 rfl) rfl ?_
                refine WL.val (Value.int .i64 (w64 ((k84 : Int) + (1 : Int)))) _ (op_move rfl) rfl ?_
                refine WL.nil ?_
                obtain rfl := Option.some.inj hb90
                show ∃ s, _ = Ctl.next s ∧ _
                exact ⟨_, rfl, e265, e266, e267, e268, e269, e270, e271, e272, e273, e274, e275, e276, (ctr_next hl109 hr14), (ctr_rng hl109 hr14), hS283⟩
            · intro x290 f285 wd286 hs287 hI288
              replace hI288 : f285 2 = (Value.func (.func g_number) fst_number cap_number) ∧ f285 6 = (Value.pointer (some ⟨b1, 0, none⟩)) ∧ f285 7 = (Value.pointer (some ⟨b19, 0, none⟩)) ∧ f285 8 = (Value.int .i64 x12) ∧ f285 9 = (Value.int .i64 (k28 : Int)) ∧ f285 10 = u51 ∧ f285 11 = (Value.int .i64 (k58 : Int)) ∧ f285 19 = (Value.int .i64 x12) ∧ f285 20 = (Value.int .i64 (k28 : Int)) ∧ f285 26 = (Value.int .i64 x12) ∧ f285 27 = (Value.int .i64 (k58 : Int)) ∧ f285 30 = (Value.int .i64 x12) ∧ f285 31 = Value.int .i64 (((x12).toNat : Nat) : Int) ∧ InR .i64 (((x12).toNat : Nat) : Int) ∧ St w wd286 [bx b1 [(Value.slice none 0 0), (Value.int .i64 (0 : Int)), (Value.slice none 0 0)], (Ty.sl (Ty.i .i64)).at u7 x5, bx b19 [u7, (Value.int .i64 m), u38], (Ty.sl (Ty.sl (Ty.sl (Ty.i .i64)))).at u38 x29, (Ty.sl (Ty.sl (Ty.i .i64))).at u51 x290] := hI288
              obtain ⟨hf291, hf292, hf293, hf294, hf295, hf296, hf297, hf298, hf299, hf300, hf301, hf302, hf303, hr304, hS305⟩ := hI288
              refine W.seq (W.region ?_)
              refine WL.val (Value.bool (decide ((((x12).toNat : Nat) : Int) < x12))) _ (op_lss hf303 hf302) rfl ?_
              have hl306 : ¬ (((x12).toNat : Nat) : Int) < x12 := by omega
              refine WL.nil ?_
              show W _ _ _ _ _ _
              refine W.seq ?_
              refine W.condF (decide ((((x12).toNat : Nat) : Int) < x12)) rfl (decide_eq_false hl306) ?_
              refine W.exit ?_
              show _ = _ ∧ _
              exact ⟨rfl, _, hs287, hf291, hf292, hf293, hf294, hf295, hf296, hf298, hf299, hf300, hf301, hS305⟩
          · rintro f307 wd308 ⟨x311, rfl, hq309⟩
            replace hb64 := onRes_fin hb64
            replace hq309 : f307 2 = (Value.func (.func g_number) fst_number cap_number) ∧ f307 6 = (Value.pointer (some ⟨b1, 0, none⟩)) ∧ f307 7 = (Value.pointer (some ⟨b19, 0, none⟩)) ∧ f307 8 = (Value.int .i64 x12) ∧ f307 9 = (Value.int .i64 (k28 : Int)) ∧ f307 10 = u51 ∧ f307 19 = (Value.int .i64 x12) ∧ f307 20 = (Value.int .i64 (k28 : Int)) ∧ f307 26 = (Value.int .i64 x12) ∧ f307 27 = (Value.int .i64 (k58 : Int)) ∧ St w wd308 [bx b1 [(Value.slice none 0 0), (Value.int .i64 (0 : Int)), (Value.slice none 0 0)], (Ty.sl (Ty.i .i64)).at u7 x5, bx b19 [u7, (Value.int .i64 m), u38], (Ty.sl (Ty.sl (Ty.sl (Ty.i .i64)))).at u38 x29, (Ty.sl (Ty.sl (Ty.i .i64))).at u51 x311] := hq309
            obtain ⟨hf312, hf313, hf314, hf315, hf316, hf317, hf318, hf319, hf320, hf321, hS322⟩ := hq309
            show W _ _ _ _ _ _
            refine W.region ?_
            refine WL.val (Value.int .i64 (w64 ((k58 : Int) + (1 : Int)))) _ (op_add hf321 rfl) rfl ?_
            refine WL.val (Value.int .i64 (w64 ((k58 : Int) + (1 : Int)))) _ (op_move rfl) rfl ?_
            refine WL.nil ?_
            obtain rfl := Option.some.inj hb64
            show ∃ s, _ = Ctl.next s ∧ _
            exact ⟨_, rfl, hf312, hf313, hf314, hf315, hf316, hf317, hf318, hf319, hf320, (ctr_next hl80 hr14), (ctr_rng hl80 hr14), hS322⟩
        · intro x330 f325 wd326 hs327 hI328
          replace hI328 : f325 2 = (Value.func (.func g_number) fst_number cap_number) ∧ f325 6 = (Value.pointer (some ⟨b1, 0, none⟩)) ∧ f325 7 = (Value.pointer (some ⟨b19, 0, none⟩)) ∧ f325 8 = (Value.int .i64 x12) ∧ f325 9 = (Value.int .i64 (k28 : Int)) ∧ f325 10 = u51 ∧ f325 19 = (Value.int .i64 x12) ∧ f325 20 = (Value.int .i64 (k28 : Int)) ∧ f325 26 = (Value.int .i64 x12) ∧ f325 27 = Value.int .i64 (((x12).toNat : Nat) : Int) ∧ InR .i64 (((x12).toNat : Nat) : Int) ∧ St w wd326 [bx b1 [(Value.slice none 0 0), (Value.int .i64 (0 : Int)), (Value.slice none 0 0)], (Ty.sl (Ty.i .i64)).at u7 x5, bx b19 [u7, (Value.int .i64 m), u38], (Ty.sl (Ty.sl (Ty.sl (Ty.i .i64)))).at u38 x29, (Ty.sl (Ty.sl (Ty.i .i64))).at u51 x330] := hI328
          obtain ⟨hf331, hf332, hf333, hf334, hf335, hf336, hf337, hf338, hf339, hf340, hr341, hS342⟩ := hI328
          refine W.seq (W.region ?_)
          refine WL.val (Value.bool (decide ((((x12).toNat : Nat) : Int) < x12))) _ (op_lss hf340 hf339) rfl ?_
          have hl343 : ¬ (((x12).toNat : Nat) : Int) < x12 := by omega
          refine WL.nil ?_
          show W _ _ _ _ _ _
          refine W.seq ?_
          refine W.condF (decide ((((x12).toNat : Nat) : Int) < x12)) rfl (decide_eq_false hl343) ?_
          refine W.exit ?_
          show _ = _ ∧ _
          exact ⟨rfl, _, hs327, hf331, hf332, hf333, hf334, hf336, hf337, hf338, hS342⟩
      · rintro f344 wd345 ⟨x348, rfl, hq346⟩
        replace hb34 := onRes_fin hb34
        replace hq346 : f344 2 = (Value.func (.func g_number) fst_number cap_number) ∧ f344 6 = (Value.pointer (some ⟨b1, 0, none⟩)) ∧ f344 7 = (Value.pointer (some ⟨b19, 0, none⟩)) ∧ f344 8 = (Value.int .i64 x12) ∧ f344 10 = u51 ∧ f344 19 = (Value.int .i64 x12) ∧ f344 20 = (Value.int .i64 (k28 : Int)) ∧ St w wd345 [bx b1 [(Value.slice none 0 0), (Value.int .i64 (0 : Int)), (Value.slice none 0 0)], (Ty.sl (Ty.i .i64)).at u7 x5, bx b19 [u7, (Value.int .i64 m), u38], (Ty.sl (Ty.sl (Ty.sl (Ty.i .i64)))).at u38 x29, (Ty.sl (Ty.sl (Ty.i .i64))).at u51 x348] := hq346
        obtain ⟨hf349, hf350, hf351, hf352, hf353, hf354, hf355, hS356⟩ := hq346
        show W _ _ _ _ _ _
        refine W.region ?_
        refine WL.val (Value.pointer (some ⟨b19, 2, none⟩)) _ (op_fieldAddr fd_32_2 hf351) rfl ?_
        refine WL.val u38 _ (op_load one_23 rfl (BoxAt.cell (St.boxAt hS356 2 rfl) rfl)) rfl ?_
        refine WL.val u51 _ (op_move hf353) rfl ?_
        refine WL.lit [u51] hS356 sl_23 rfl rfl (fillL rfl ⟨rfl, rfl, (cells_rep (St.rep (t := (Ty.sl (Ty.sl (Ty.i .i64)))) hS356 4 rfl)), trivial⟩) rfl rfl ?_
        intro b361 wd358 hS359 he360 hx362
        replace hS359 : St w wd358 [bx b1 [(Value.slice none 0 0), (Value.int .i64 (0 : Int)), (Value.slice none 0 0)], (Ty.sl (Ty.i .i64)).at u7 x5, bx b19 [u7, (Value.int .i64 m), u38], (Ty.sl (Ty.sl (Ty.sl (Ty.i .i64)))).at u38 x29, (Ty.sl (Ty.sl (Ty.i .i64))).at u51 x348, bx b361 [u51]] := hS359
        obtain ⟨x363, hx364, hb34⟩ := bs hb34
        refine WL.appendRow hS359 (k := 3) (k2 := 4) (k3 := 5) rfl rfl rfl rfl sl_23 rfl rfl rfl rfl hx364 rfl ?_
        intro u365 wd366 hS367 hz368
        replace hS367 : St w wd366 [bx b1 [(Value.slice none 0 0), (Value.int .i64 (0 : Int)), (Value.slice none 0 0)], (Ty.sl (Ty.i .i64)).at u7 x5, bx b19 [u7, (Value.int .i64 m), u38], (Ty.sl (Ty.sl (Ty.sl (Ty.i .i64)))).at u365 x363, emp, bx b361 [u51]] := hS367
        refine WL.val (Value.pointer (some ⟨b19, 2, none⟩)) _ (op_fieldAddr fd_32_2 hf351) rfl ?_
        refine WL.storeBox [u7, (Value.int .i64 m), u365] hS367 (k := 2) rfl rfl rfl (us := [u365]) (cells_rep (St.rep (t := (Ty.sl (Ty.sl (Ty.sl (Ty.i .i64))))) hS367 3 rfl)) sz_23 rfl rfl (all_rep (St.rep (t := (Ty.sl (Ty.sl (Ty.sl (Ty.i .i64))))) hS367 3 rfl) all_nil) rfl ?_
        intro wd369 hS370
        replace hS370 : St w wd369 [bx b1 [(Value.slice none 0 0), (Value.int .i64 (0 : Int)), (Value.slice none 0 0)], (Ty.sl (Ty.i .i64)).at u7 x5, bx b19 [u7, (Value.int .i64 m), u365], (Ty.sl (Ty.sl (Ty.sl (Ty.i .i64)))).at u365 x363, emp, bx b361 [u51]] := hS370
        refine WL.nil ?_
        show W _ _ _ _ _ _
        refine W.region ?_
        refine WL.val (Value.int .i64 (w64 ((k28 : Int) + (1 : Int)))) _ (op_add hf355 rfl) rfl ?_
        refine WL.val (Value.int .i64 (w64 ((k28 : Int) + (1 : Int)))) _ (op_move rfl) rfl ?_
        refine WL.nil ?_
        obtain rfl := Option.some.inj hb34
        show ∃ s, _ = Ctl.next s ∧ _
        exact ⟨_, rfl, u365, hf349, hf350, hf351, hf352, hf354, (ctr_next hl47 hr14), (ctr_rng hl47 hr14), (St.pick hS370 [0, 1, 2, 3] rfl)⟩
    · intro x378 f373 wd374 hs375 hI376
      replace hI376 : ∃ (uu0 : Value), f373 2 = (Value.func (.func g_number) fst_number cap_number) ∧ f373 6 = (Value.pointer (some ⟨b1, 0, none⟩)) ∧ f373 7 = (Value.pointer (some ⟨b19, 0, none⟩)) ∧ f373 8 = (Value.int .i64 x12) ∧ f373 19 = (Value.int .i64 x12) ∧ f373 20 = Value.int .i64 (((x12).toNat : Nat) : Int) ∧ InR .i64 (((x12).toNat : Nat) : Int) ∧ St w wd374 [bx b1 [(Value.slice none 0 0), (Value.int .i64 (0 : Int)), (Value.slice none 0 0)], (Ty.sl (Ty.i .i64)).at u7 x5, bx b19 [u7, (Value.int .i64 m), uu0], (Ty.sl (Ty.sl (Ty.sl (Ty.i .i64)))).at uu0 x378] := hI376
      obtain ⟨u379, hf380, hf381, hf382, hf383, hf384, hf385, hr386, hS387⟩ := hI376
      refine W.seq (W.region ?_)
      refine WL.val (Value.bool (decide ((((x12).toNat : Nat) : Int) < x12))) _ (op_lss hf385 hf384) rfl ?_
      have hl388 : ¬ (((x12).toNat : Nat) : Int) < x12 := by omega
      refine WL.nil ?_
      show W _ _ _ _ _ _
      refine W.seq ?_
      refine W.condF (decide ((((x12).toNat : Nat) : Int) < x12)) rfl (decide_eq_false hl388) ?_
      refine W.exit ?_
      show _ = _ ∧ _
      exact ⟨rfl, _, hs375, u379, hf381, hf382, hS387⟩
  · rintro f389 wd390 ⟨x393, rfl, hq391⟩
    replace h := onRes_fin h
    replace hq391 : ∃ (uu0 : Value), f389 6 = (Value.pointer (some ⟨b1, 0, none⟩)) ∧ f389 7 = (Value.pointer (some ⟨b19, 0, none⟩)) ∧ St w wd390 [bx b1 [(Value.slice none 0 0), (Value.int .i64 (0 : Int)), (Value.slice none 0 0)], (Ty.sl (Ty.i .i64)).at u7 x5, bx b19 [u7, (Value.int .i64 m), uu0], (Ty.sl (Ty.sl (Ty.sl (Ty.i .i64)))).at uu0 x393] := hq391
    obtain ⟨u394, hf395, hf396, hS397⟩ := hq391
    show W _ _ _ _ _ _
    refine W.seq (W.region ?_)
    refine WL.val (Value.agg #[u7, (Value.int .i64 m), u394]) _ (op_loadBox st_32 hf396 (St.boxAt hS397 2 rfl) rfl rfl) rfl ?_
    refine WL.storeBox [u7, (Value.int .i64 m), u394] hS397 (k := 0) rfl hf395 rfl (us := [u7, (Value.int .i64 m), u394]) rfl sz_32 rfl rfl (all_rep (St.rep (t := (Ty.sl (Ty.i .i64))) hS397 1 rfl) (all_cons rfl (all_rep (St.rep (t := (Ty.sl (Ty.sl (Ty.sl (Ty.i .i64))))) hS397 3 rfl) all_nil))) rfl ?_
    intro wd398 hS399
    replace hS399 : St w wd398 [bx b1 [u7, (Value.int .i64 m), u394], (Ty.sl (Ty.i .i64)).at u7 x5, bx b19 [u7, (Value.int .i64 m), u394], (Ty.sl (Ty.sl (Ty.sl (Ty.i .i64)))).at u394 x393] := hS399
    refine WL.nil ?_
    show W _ _ _ _ _ _
    refine W.ret ?_
    obtain rfl := Option.some.inj h
    show FinP _ _ _ _ _ _ _
    exact FinP.ret _ (resC rfl hf395 st_32 (St.boxAt hS399 0 rfl) rfl) ⟨u7, u394, rfl, r_m, hS399.ext, (St.out (St.pick hS399 [1, 3] rfl) (Ext.refl _))⟩

theorem c_impl_BicharacterBraiding_c1 {w : World} {x : Int} {y : Int} {z : Int} (r_x : InR .i64 x) (r_y : InR .i64 y) (r_z : InR .i64 z) {res : Int} (h : p_impl_BicharacterBraiding_c1 x y z  = some res) :
    Ret Try.prog 49 #[(Value.int .i64 x), (Value.int .i64 y), (Value.int .i64 z)] w (fun v w' => v = Value.int .i64 res ∧ InR .i64 res ∧ Ext w w') := by
  unfold p_impl_BicharacterBraiding_c1 at h
  have hS0 : St w w [] := St.start w
  refine Ret.start (fn := Try.f49) Try.func49 rfl 7 rfl rfl ?_
  refine W.seq (W.region ?_)
  refine WL.val (Value.int .i64 (0 : Int)) _ (op_assign rfl) rfl ?_
  refine WL.nil ?_
  show W _ _ _ _ _ _
  refine W.seq (W.region ?_)
  refine WL.val (Value.int .i64 (0 : Int)) _ (op_assign rfl) rfl ?_
  refine WL.nil ?_
  show W _ _ _ _ _ _
  refine W.ret ?_
  obtain rfl := Option.some.inj h
  show FinP _ _ _ _ _ _ _
  exact FinP.ret _ (res1 rfl rfl) ⟨rfl, (inR_i64.2 (show (-9223372036854775808 : Int) ≤ 0 ∧ (0 : Int) ≤ 9223372036854775807 from by decide)), hS0.ext⟩

theorem c_impl_BicharacterBraiding_c2 {w : World} {x : Int} {y : Int} {b_c0 : Nat} {c0 : (List (List Int))} {v_c0 : Value} (r_x : InR .i64 x) (r_y : InR .i64 y) (k_c0 : BoxAt w b_c0 [v_c0]) (r_c0 : (Ty.sl (Ty.sl (Ty.i .i64))).rep w v_c0 c0) {res : Int} (h : p_impl_BicharacterBraiding_c2 x y c0 = some res) :
    Ret Try.prog 51 #[(Value.int .i64 x), (Value.int .i64 y), (Value.pointer (some ⟨b_c0, 0, none⟩))] w (fun v w' => v = Value.int .i64 res ∧ InR .i64 res ∧ Ext w w') := by
  unfold p_impl_BicharacterBraiding_c2 at h
  have hS0 : St w w [] := St.start w
  refine Ret.start (fn := Try.f51) Try.func51 rfl 13 rfl rfl ?_
  refine W.seq (W.region ?_)
  refine WL.val (Value.int .i64 (0 : Int)) _ (op_assign rfl) rfl ?_
  refine WL.nil ?_
  show W _ _ _ _ _ _
  refine W.seq (W.region ?_)
  refine WL.val v_c0 _ (op_load one_26 rfl (BoxAt.cell (BoxAt.lift hS0.ext k_c0) rfl)) rfl ?_
  refine WL.val (Value.int .i64 x) _ (op_move rfl) rfl ?_
  obtain ⟨x1, hx4, h⟩ := bs h
  obtain ⟨ha2, hb3, hx4⟩ := idx_some hx4
  refine WL.val (Value.pointer (some (elA v_c0 (x).toNat))) _ (op_idx sl_26 (Ty.lift _ hS0.ext r_c0) rfl rfl ha2 hb3) rfl ?_
  obtain ⟨u5, hc6, hr7⟩ := repSl.el r_c0 hx4
  refine WL.val u5 _ (op_load one_22 rfl (Ext.cell hS0.ext hc6)) rfl ?_
  refine WL.val (Value.int .i64 y) _ (op_move rfl) rfl ?_
  obtain ⟨x8, hx11, h⟩ := bs h
  obtain ⟨ha9, hb10, hx11⟩ := idx_some hx11
  refine WL.val (Value.pointer (some (elA u5 (y).toNat))) _ (op_idx sl_22 (Ty.lift _ hS0.ext hr7) rfl rfl ha9 hb10) rfl ?_
  obtain ⟨u12, hc13, hr14⟩ := repSl.el hr7 hx11
  obtain ⟨rfl, hr14⟩ := hr14
  refine WL.val (Value.int .i64 x8) _ (op_load one_2 rfl (Ext.cell hS0.ext hc13)) rfl ?_
  refine WL.val (Value.int .i64 x8) _ (op_assign rfl) rfl ?_
  refine WL.nil ?_
  show W _ _ _ _ _ _
  refine W.ret ?_
  obtain rfl := Option.some.inj h
  show FinP _ _ _ _ _ _ _
  exact FinP.ret _ (res1 rfl rfl) ⟨rfl, hr14, hS0.ext⟩

theorem c_impl_braidingBy {w : World} {c_Orders : (List Int)} {v_c_Orders : Value} {c_Modulus : Int} {c_Values : (List (List (List Int)))} {v_c_Values : Value} {number : Int → Int → Option Int} {v_number : Value} (r_c_Orders : (Ty.sl (Ty.i .i64)).rep w v_c_Orders c_Orders) (r_c_Modulus : InR .i64 c_Modulus) (r_c_Values : (Ty.sl (Ty.sl (Ty.sl (Ty.i .i64)))).rep w v_c_Values c_Values) (r_number : FnT_i_i_to_i Try.prog v_number w number) {res : (List Int) × Int × (List (List (List Int))) × (List (List Int))} (h : p_impl_braidingBy c_Orders c_Modulus c_Values number  = some res) :
    Ret Try.prog 50 #[(Value.agg #[v_c_Orders, (Value.int .i64 c_Modulus), v_c_Values]), v_number] w (fun v w' => ∃ (u3 : Value), v = (Value.agg #[v_c_Orders, Value.int .i64 res.2.1, v_c_Values, u3]) ∧ InR .i64 res.2.1 ∧ Ext w w' ∧ Sep w.heap.size w' [(Ty.sl (Ty.sl (Ty.i .i64))).at u3 res.2.2.2]) := by
  unfold p_impl_braidingBy at h
  have hS0 : St w w [] := St.start w
  have q_number := r_number
  obtain ⟨g_number, fst_number, cap_number, eq_number, ok_number, call_number⟩ := q_number
  subst eq_number
  refine Ret.start (fn := Try.f50) Try.func50 rfl 45 rfl rfl ?_
  refine W.seq (W.region ?_)
  refine WL.box hS0 rfl (cs := [v_c_Orders, (Value.int .i64 c_Modulus), v_c_Values]) rfl rfl ?_
  intro b1 wd2 hS3 he4 hx5
  replace hS3 : St w wd2 [bx b1 [v_c_Orders, (Value.int .i64 c_Modulus), v_c_Values]] := hS3
  have hx6 := St.boxAt hS3 0 rfl
  have hE7 : Ext w wd2 := hS3.ext
  have hS8 : St wd2 wd2 [] := St.start wd2
  refine WL.alloc hS8 ze_34 (cs := [(Value.slice none 0 0), (Value.int .i64 (0 : Int)), (Value.slice none 0 0), (Value.slice none 0 0)]) rfl rfl ?_
  intro b9 wd10 hS11 he12
  replace hS11 : St wd2 wd10 [bx b9 [(Value.slice none 0 0), (Value.int .i64 (0 : Int)), (Value.slice none 0 0), (Value.slice none 0 0)]] := hS11
  refine WL.nil ?_
  show W _ _ _ _ _ _
  refine W.seq ?_
  obtain ⟨x92, hx93, h⟩ := bs h
  refine W.drawR mixo 10 [] [fun _ v S w' => v = (Value.agg #[v_c_Orders, (Value.int .i64 c_Modulus), v_c_Values]) ∧ InR .i64 c_Modulus, fun _ v _ _ => v = (Value.pointer (some ⟨b1, 2, none⟩)), fun _ v _ _ => v = v_c_Values, fun _ v _ _ => v = (Value.int .i64 ((c_Values).length : Int)) ∧ InR .i64 ((c_Values).length : Int), fun _ v _ _ => v = (Value.pointer (some ⟨b1, 2, none⟩)), fun _ v _ _ => v = v_c_Values, fun _ v _ _ => v = (Value.int .i64 ((c_Values).length : Int)) ∧ InR .i64 ((c_Values).length : Int), fun _ v S w' => SepS S w' [(Ty.sl (Ty.sl (Ty.i .i64))).at v x92], fun f v _ _ => v = Value.agg #[v_c_Orders, (Value.int .i64 c_Modulus), v_c_Values, f 15], fun _ v S w' => ∃ b : Nat, v = Value.pointer (some ⟨b, 0, none⟩) ∧ SepS S w' [bx b [(Value.slice none 0 0), (Value.int .i64 (0 : Int)), (Value.slice none 0 0), (Value.slice none 0 0)]]] (by kernel_rfl) (by kernel_rfl) ⟨⟨fun _ _ _ _ _ he ⟨h0, h1⟩ => ⟨h0, h1⟩, fun _ _ _ _ _ _ h => h⟩, ⟨fun _ _ _ _ _ _ h => h, fun _ _ _ _ _ _ h => h⟩, ⟨fun _ _ _ _ _ _ h => h, fun _ _ _ _ _ _ h => h⟩, ⟨fun _ _ _ _ _ _ h => h, fun _ _ _ _ _ _ h => h⟩, ⟨fun _ _ _ _ _ _ h => h, fun _ _ _ _ _ _ h => h⟩, ⟨fun _ _ _ _ _ _ h => h, fun _ _ _ _ _ _ h => h⟩, ⟨fun _ _ _ _ _ _ h => h, fun _ _ _ _ _ _ h => h⟩, ⟨fun _ _ _ _ _ he h => SepS.extend he h, fun _ _ _ _ _ _ h => h⟩, ⟨fun _ _ _ _ _ _ h => h, fun f1 f2 _ _ _ hf h => by show _ = Value.agg #[v_c_Orders, (Value.int .i64 c_Modulus), v_c_Values, f2 15]; rw [← hf 7 15 rfl rfl]; exact h⟩, ⟨fun _ _ _ _ _ he ⟨b, h1, h2⟩ => ⟨b, h1, SepS.extend he h2⟩, fun _ _ _ _ _ _ h => h⟩, trivial⟩ ⟨?_, ?_, ?_, ?_, ?_, ?_, ?_, ?_, ?_, ?_, trivial⟩ ?_
  · refine ObX.op rfl ?_
    intro f13 wd14 he15 hout16 hphi17
    have hS18 : St wd2 wd14 [bx b9 [(Value.slice none 0 0), (Value.int .i64 (0 : Int)), (Value.slice none 0 0), (Value.slice none 0 0)]] := St.extend hS11 he15
    have e19 : f13 2 = (Value.pointer (some ⟨b1, 0, none⟩)) := (hout16 2 rfl).trans rfl
    exact OpX.val (Value.agg #[v_c_Orders, (Value.int .i64 c_Modulus), v_c_Values]) wd14 rfl (op_loadBox st_32 e19 (BoxAt.lift hS18.ext hx6) rfl rfl) (Ext.refl _) ⟨rfl, r_c_Modulus⟩
  · refine ObX.op rfl ?_
    intro f20 wd21 he22 hout23 hphi24
    have hS25 : St wd2 wd21 [bx b9 [(Value.slice none 0 0), (Value.int .i64 (0 : Int)), (Value.slice none 0 0), (Value.slice none 0 0)]] := St.extend hS11 he22
    have e26 : f20 2 = (Value.pointer (some ⟨b1, 0, none⟩)) := (hout23 2 rfl).trans rfl
    exact OpX.val (Value.pointer (some ⟨b1, 2, none⟩)) wd21 rfl (op_fieldAddr fd_32_2 e26) (Ext.refl _) rfl
  · refine ObX.op rfl ?_
    intro f27 wd28 he29 hout30 hphi31
    have hS32 : St wd2 wd28 [bx b9 [(Value.slice none 0 0), (Value.int .i64 (0 : Int)), (Value.slice none 0 0), (Value.slice none 0 0)]] := St.extend hS11 he29
    obtain ⟨S33, hS34, hf35⟩ := hphi31 1 9 _ rfl rfl rfl
    have e36 : f27 9 = (Value.pointer (some ⟨b1, 2, none⟩)) := hf35
    exact OpX.val v_c_Values wd28 rfl (op_load one_23 e36 (BoxAt.cell (BoxAt.lift hS32.ext hx6) rfl)) (Ext.refl _) rfl
  · refine ObX.op rfl ?_
    intro f37 wd38 he39 hout40 hphi41
    have hS42 : St wd2 wd38 [bx b9 [(Value.slice none 0 0), (Value.int .i64 (0 : Int)), (Value.slice none 0 0), (Value.slice none 0 0)]] := St.extend hS11 he39
    obtain ⟨S43, hS44, hf45⟩ := hphi41 2 10 _ rfl rfl rfl
    have e46 : f37 10 = v_c_Values := hf45
    have hr47 := inR_len (Ty.lift _ (Ext.trans hE7 hS42.ext) r_c_Values)
    exact OpX.val (Value.int .i64 ((c_Values).length : Int)) wd38 rfl (op_lenL sl_23 (Ty.lift _ (Ext.trans hE7 hS42.ext) r_c_Values) e46) (Ext.refl _) ⟨rfl, hr47⟩
  · refine ObX.op rfl ?_
    intro f48 wd49 he50 hout51 hphi52
    have hS53 : St wd2 wd49 [bx b9 [(Value.slice none 0 0), (Value.int .i64 (0 : Int)), (Value.slice none 0 0), (Value.slice none 0 0)]] := St.extend hS11 he50
    have e54 : f48 2 = (Value.pointer (some ⟨b1, 0, none⟩)) := (hout51 2 rfl).trans rfl
    exact OpX.val (Value.pointer (some ⟨b1, 2, none⟩)) wd49 rfl (op_fieldAddr fd_32_2 e54) (Ext.refl _) rfl
  · refine ObX.op rfl ?_
    intro f55 wd56 he57 hout58 hphi59
    have hS60 : St wd2 wd56 [bx b9 [(Value.slice none 0 0), (Value.int .i64 (0 : Int)), (Value.slice none 0 0), (Value.slice none 0 0)]] := St.extend hS11 he57
    obtain ⟨S61, hS62, hf63⟩ := hphi59 4 12 _ rfl rfl rfl
    have e64 : f55 12 = (Value.pointer (some ⟨b1, 2, none⟩)) := hf63
    exact OpX.val v_c_Values wd56 rfl (op_load one_23 e64 (BoxAt.cell (BoxAt.lift hS60.ext hx6) rfl)) (Ext.refl _) rfl
  · refine ObX.op rfl ?_
    intro f65 wd66 he67 hout68 hphi69
    have hS70 : St wd2 wd66 [bx b9 [(Value.slice none 0 0), (Value.int .i64 (0 : Int)), (Value.slice none 0 0), (Value.slice none 0 0)]] := St.extend hS11 he67
    obtain ⟨S71, hS72, hf73⟩ := hphi69 5 13 _ rfl rfl rfl
    have e74 : f65 13 = v_c_Values := hf73
    have hr75 := inR_len (Ty.lift _ (Ext.trans hE7 hS70.ext) r_c_Values)
    exact OpX.val (Value.int .i64 ((c_Values).length : Int)) wd66 rfl (op_lenL sl_23 (Ty.lift _ (Ext.trans hE7 hS70.ext) r_c_Values) e74) (Ext.refl _) ⟨rfl, hr75⟩
  · refine ObX.op rfl ?_
    intro f76 wd77 he78 hout79 hphi80
    have hS81 : St wd2 wd77 [bx b9 [(Value.slice none 0 0), (Value.int .i64 (0 : Int)), (Value.slice none 0 0), (Value.slice none 0 0)]] := St.extend hS11 he78
    obtain ⟨S82, hS83, hf84⟩ := hphi80 3 11 _ rfl rfl rfl
    obtain ⟨e85, hr86⟩ : f76 11 = (Value.int .i64 ((c_Values).length : Int)) ∧ InR .i64 ((c_Values).length : Int) := hf84
    obtain ⟨S87, hS88, hf89⟩ := hphi80 6 14 _ rfl rfl rfl
    obtain ⟨e90, hr91⟩ : f76 14 = (Value.int .i64 ((c_Values).length : Int)) ∧ InR .i64 ((c_Values).length : Int) := hf89
    refine OpX.call rfl (op_call fn_81 (args2 e85 e90)) (Ret.mono (c_impl_zeros hr86 hr91 hx93) ?_)
    rintro u94 wd95 ⟨_, rfl, he96, hs97⟩
    exact ⟨he96, _, newS _ _, (Sep.new hs97)⟩
  · refine ObX.op rfl ?_
    intro f98 wd99 he100 hout101 hphi102
    have hS103 : St wd2 wd99 [bx b9 [(Value.slice none 0 0), (Value.int .i64 (0 : Int)), (Value.slice none 0 0), (Value.slice none 0 0)]] := St.extend hS11 he100
    obtain ⟨S104, hS105, hf106⟩ := hphi102 0 8 _ rfl rfl rfl
    obtain ⟨e107, hr108⟩ := hf106
    obtain ⟨S109, hS110, hf111⟩ := hphi102 7 15 _ rfl rfl rfl
    have e112 : SepS S109 wd99 [(Ty.sl (Ty.sl (Ty.i .i64))).at (f98 15) x92] := hf111
    exact OpX.val (Value.agg #[v_c_Orders, (Value.int .i64 c_Modulus), v_c_Values, (f98 15)]) wd99 rfl (op_build bd_34 (parts := [(0, (Value.agg #[v_c_Orders, (Value.int .i64 c_Modulus), v_c_Values]), [v_c_Orders, (Value.int .i64 c_Modulus), v_c_Values]), (1, (f98 15), [(f98 15)])]) (partsL ⟨rfl, e107, rfl, rfl, trivial⟩) ⟨rfl, (cells_rep (SepS.rep (t := (Ty.sl (Ty.sl (Ty.i .i64)))) e112 0 rfl)), trivial⟩ rfl) (Ext.refl _) rfl
  · refine ObX.op rfl ?_
    intro f113 wd114 he115 hout116 hphi117
    have hS118 : St wd2 wd114 [bx b9 [(Value.slice none 0 0), (Value.int .i64 (0 : Int)), (Value.slice none 0 0), (Value.slice none 0 0)]] := St.extend hS11 he115
    exact OpX.valO _ _ rfl (op_alloc (cs := [(Value.slice none 0 0), (Value.int .i64 (0 : Int)), (Value.slice none 0 0), (Value.slice none 0 0)].toArray) ze_34 rfl) (Ext.alloc _ _) ⟨_, rfl, Sep.new (sep_box _ [(Value.slice none 0 0), (Value.int .i64 (0 : Int)), (Value.slice none 0 0), (Value.slice none 0 0)] _)⟩
  · intro f119 wd120 Ss121 he122 hout123 hSn124 hSd125 hphi126
    show WL _ _ _ _ _ _ _
    have hS127 : St wd2 wd120 [bx b9 [(Value.slice none 0 0), (Value.int .i64 (0 : Int)), (Value.slice none 0 0), (Value.slice none 0 0)]] := St.extend hS11 he122
    have e128 : SepS (Ss121 7) wd120 [(Ty.sl (Ty.sl (Ty.i .i64))).at (f119 15) x92] := hphi126 7 15 _ (by decide) rfl rfl
    have e129 : f119 16 = (Value.agg #[v_c_Orders, (Value.int .i64 c_Modulus), v_c_Values, (f119 15)]) := (hphi126 8 16 _ (by decide) rfl rfl)
    obtain ⟨b131, e130, e130s⟩ : ∃ b : Nat, f119 5 = Value.pointer (some ⟨b, 0, none⟩) ∧ SepS (Ss121 9) wd120 [bx b [(Value.slice none 0 0), (Value.int .i64 (0 : Int)), (Value.slice none 0 0), (Value.slice none 0 0)]] := hphi126 9 5 _ (by decide) rfl rfl
    have e132 : f119 1 = (Value.func (.func g_number) fst_number cap_number) := (hout123 1 rfl).trans rfl
    have e133 : f119 2 = (Value.pointer (some ⟨b1, 0, none⟩)) := (hout123 2 rfl).trans rfl
    have e134 : f119 4 = (Value.pointer (some ⟨b9, 0, none⟩)) := (hout123 4 rfl).trans rfl
    have hS135 := St.joinS hS11 he122 hSn124 (SepS.consS hSd125 rfl e130s (SepS.consS hSd125 rfl e128 SepS.nilS))
    replace hS135 : St wd2 wd120 [bx b9 [(Value.slice none 0 0), (Value.int .i64 (0 : Int)), (Value.slice none 0 0), (Value.slice none 0 0)], bx b131 [(Value.slice none 0 0), (Value.int .i64 (0 : Int)), (Value.slice none 0 0), (Value.slice none 0 0)], (Ty.sl (Ty.sl (Ty.i .i64))).at (f119 15) x92] := hS135
    refine WL.storeBox [v_c_Orders, (Value.int .i64 c_Modulus), v_c_Values, (f119 15)] hS135 (k := 1) rfl e130 e129 (us := [v_c_Orders, (Value.int .i64 c_Modulus), v_c_Values, (f119 15)]) rfl sz_34 rfl rfl (all_rep (Ty.lift _ (Ext.trans hE7 hS135.ext) r_c_Orders) (all_cons rfl (all_rep (Ty.lift _ (Ext.trans hE7 hS135.ext) r_c_Values) (all_rep (St.rep (t := (Ty.sl (Ty.sl (Ty.i .i64)))) hS135 2 rfl) all_nil)))) rfl ?_
    intro wd136 hS137
    replace hS137 : St wd2 wd136 [bx b9 [(Value.slice none 0 0), (Value.int .i64 (0 : Int)), (Value.slice none 0 0), (Value.slice none 0 0)], bx b131 [v_c_Orders, (Value.int .i64 c_Modulus), v_c_Values, (f119 15)], (Ty.sl (Ty.sl (Ty.i .i64))).at (f119 15) x92] := hS137
    refine WL.nil ?_
    show W _ _ _ _ _ _
    refine W.seq (W.seq (W.region ?_))
    refine WL.val (Value.pointer (some ⟨b131, 3, none⟩)) _ (op_fieldAddr fd_34_1 e130) rfl ?_
    refine WL.val (f119 15) _ (op_load one_26 rfl (BoxAt.cell (St.boxAt hS137 1 rfl) rfl)) rfl ?_
    have hr138 := inR_len (St.rep (t := (Ty.sl (Ty.sl (Ty.i .i64)))) hS137 2 rfl)
    refine WL.val (Value.int .i64 ((x92).length : Int)) _ (op_lenL sl_26 (St.rep (t := (Ty.sl (Ty.sl (Ty.i .i64)))) hS137 2 rfl) rfl) rfl ?_
    refine WL.val (Value.int .i64 (0 : Int)) _ (op_move rfl) rfl ?_
    refine WL.nil ?_
    show W _ _ _ _ _ _
    obtain ⟨res139, hres140, h⟩ := bs h
    refine W.blockLoop (fun fq wq => ∃ s, res139 = Res.fin s ∧ fq 4 = (Value.pointer (some ⟨b9, 0, none⟩)) ∧ fq 5 = (Value.pointer (some ⟨b131, 0, none⟩)) ∧ St wd2 wq [bx b9 [(Value.slice none 0 0), (Value.int .i64 (0 : Int)), (Value.slice none 0 0), (Value.slice none 0 0)], bx b131 [v_c_Orders, (Value.int .i64 c_Modulus), v_c_Values, (f119 15)], (Ty.sl (Ty.sl (Ty.i .i64))).at (f119 15) s]) ?_ ?_
    · refine W.forN (fun k (s : (List (List Int))) fq wq => fq 1 = (Value.func (.func g_number) fst_number cap_number) ∧ fq 2 = (Value.pointer (some ⟨b1, 0, none⟩)) ∧ fq 4 = (Value.pointer (some ⟨b9, 0, none⟩)) ∧ fq 5 = (Value.pointer (some ⟨b131, 0, none⟩)) ∧ fq 19 = (Value.int .i64 ((x92).length : Int)) ∧ fq 20 = Value.int .i64 (k : Int) ∧ InR .i64 (k : Int) ∧ St wd2 wq [bx b9 [(Value.slice none 0 0), (Value.int .i64 (0 : Int)), (Value.slice none 0 0), (Value.slice none 0 0)], bx b131 [v_c_Orders, (Value.int .i64 c_Modulus), v_c_Values, (f119 15)], (Ty.sl (Ty.sl (Ty.i .i64))).at (f119 15) s]) hres140 ⟨e132, e133, e134, e130, rfl, rfl, (inR_i64.2 (show (-9223372036854775808 : Int) ≤ 0 ∧ (0 : Int) ≤ 9223372036854775807 from by decide)), hS137⟩ ?_ ?_
      · intro k141 x142 ct143 f144 wd145 hk146 hb147 hI148 hbrk149 hret150
        replace hI148 : f144 1 = (Value.func (.func g_number) fst_number cap_number) ∧ f144 2 = (Value.pointer (some ⟨b1, 0, none⟩)) ∧ f144 4 = (Value.pointer (some ⟨b9, 0, none⟩)) ∧ f144 5 = (Value.pointer (some ⟨b131, 0, none⟩)) ∧ f144 19 = (Value.int .i64 ((x92).length : Int)) ∧ f144 20 = Value.int .i64 (k141 : Int) ∧ InR .i64 (k141 : Int) ∧ St wd2 wd145 [bx b9 [(Value.slice none 0 0), (Value.int .i64 (0 : Int)), (Value.slice none 0 0), (Value.slice none 0 0)], bx b131 [v_c_Orders, (Value.int .i64 c_Modulus), v_c_Values, (f119 15)], (Ty.sl (Ty.sl (Ty.i .i64))).at (f119 15) x142] := hI148
        replace hb147 : p_impl_braidingBy_L1 number c_Orders c_Modulus c_Values k141 x142 = some ct143 := hb147
        unfold p_impl_braidingBy_L1 at hb147
        obtain ⟨hf151, hf152, hf153, hf154, hf155, hf156, hr157, hS158⟩ := hI148
        refine W.seq (W.region ?_)
        refine WL.val (Value.bool (decide ((k141 : Int) < ((x92).length : Int)))) _ (op_lss hf156 hf155) rfl ?_
        have hl159 : (k141 : Int) < ((x92).length : Int) := by omega
        refine WL.nil ?_
        show W _ _ _ _ _ _
        refine W.seq ?_
        refine W.condT (decide ((k141 : Int) < ((x92).length : Int))) rfl (decide_eq_true hl159) ?_
        refine W.skip ?_
        show W _ _ _ _ _ _
        refine W.seq ?_
        refine W.block ?_
        refine W.seq (W.region ?_)
        refine WL.val (Value.int .i64 (k141 : Int)) _ (op_move hf156) rfl ?_
        refine WL.val (Value.int .i64 (k141 : Int)) _ (op_assign rfl) rfl ?_
        refine WL.nil ?_
        show W _ _ _ _ _ _
        refine W.seq (W.region ?_)
        refine WL.val (Value.pointer (some ⟨b131, 3, none⟩)) _ (op_fieldAddr fd_34_1 hf154) rfl ?_
        refine WL.val (f119 15) _ (op_load one_26 rfl (BoxAt.cell (St.boxAt hS158 1 rfl) rfl)) rfl ?_
        have hr161 := inR_len (St.rep (t := (Ty.sl (Ty.sl (Ty.i .i64)))) hS158 2 rfl)
        refine WL.val (Value.int .i64 ((x142).length : Int)) _ (op_lenL sl_26 (St.rep (t := (Ty.sl (Ty.sl (Ty.i .i64)))) hS158 2 rfl) rfl) rfl ?_
        refine WL.val (Value.int .i64 (0 : Int)) _ (op_move rfl) rfl ?_
        refine WL.nil ?_
        show W _ _ _ _ _ _
        obtain ⟨res162, hres163, hb147⟩ := bs hb147
        refine W.blockLoop (fun fq wq => ∃ s, res162 = Res.fin s ∧ fq 1 = (Value.func (.func g_number) fst_number cap_number) ∧ fq 2 = (Value.pointer (some ⟨b1, 0, none⟩)) ∧ fq 4 = (Value.pointer (some ⟨b9, 0, none⟩)) ∧ fq 5 = (Value.pointer (some ⟨b131, 0, none⟩)) ∧ fq 19 = (Value.int .i64 ((x92).length : Int)) ∧ fq 20 = (Value.int .i64 (k141 : Int)) ∧ St wd2 wq [bx b9 [(Value.slice none 0 0), (Value.int .i64 (0 : Int)), (Value.slice none 0 0), (Value.slice none 0 0)], bx b131 [v_c_Orders, (Value.int .i64 c_Modulus), v_c_Values, (f119 15)], (Ty.sl (Ty.sl (Ty.i .i64))).at (f119 15) s]) ?_ ?_
        · refine W.forN (fun k (s : (List (List Int))) fq wq => fq 1 = (Value.func (.func g_number) fst_number cap_number) ∧ fq 2 = (Value.pointer (some ⟨b1, 0, none⟩)) ∧ fq 4 = (Value.pointer (some ⟨b9, 0, none⟩)) ∧ fq 5 = (Value.pointer (some ⟨b131, 0, none⟩)) ∧ fq 6 = (Value.int .i64 (k141 : Int)) ∧ fq 19 = (Value.int .i64 ((x92).length : Int)) ∧ fq 20 = (Value.int .i64 (k141 : Int)) ∧ fq 25 = (Value.int .i64 ((x142).length : Int)) ∧ fq 26 = Value.int .i64 (k : Int) ∧ InR .i64 (k : Int) ∧ St wd2 wq [bx b9 [(Value.slice none 0 0), (Value.int .i64 (0 : Int)), (Value.slice none 0 0), (Value.slice none 0 0)], bx b131 [v_c_Orders, (Value.int .i64 c_Modulus), v_c_Values, (f119 15)], (Ty.sl (Ty.sl (Ty.i .i64))).at (f119 15) s]) hres163 ⟨hf151, hf152, hf153, hf154, rfl, hf155, hf156, rfl, rfl, (inR_i64.2 (show (-9223372036854775808 : Int) ≤ 0 ∧ (0 : Int) ≤ 9223372036854775807 from by decide)), hS158⟩ ?_ ?_
          · intro k164 x165 ct166 f167 wd168 hk169 hb170 hI171 hbrk172 hret173
            replace hI171 : f167 1 = (Value.func (.func g_number) fst_number cap_number) ∧ f167 2 = (Value.pointer (some ⟨b1, 0, none⟩)) ∧ f167 4 = (Value.pointer (some ⟨b9, 0, none⟩)) ∧ f167 5 = (Value.pointer (some ⟨b131, 0, none⟩)) ∧ f167 6 = (Value.int .i64 (k141 : Int)) ∧ f167 19 = (Value.int .i64 ((x92).length : Int)) ∧ f167 20 = (Value.int .i64 (k141 : Int)) ∧ f167 25 = (Value.int .i64 ((x142).length : Int)) ∧ f167 26 = Value.int .i64 (k164 : Int) ∧ InR .i64 (k164 : Int) ∧ St wd2 wd168 [bx b9 [(Value.slice none 0 0), (Value.int .i64 (0 : Int)), (Value.slice none 0 0), (Value.slice none 0 0)], bx b131 [v_c_Orders, (Value.int .i64 c_Modulus), v_c_Values, (f119 15)], (Ty.sl (Ty.sl (Ty.i .i64))).at (f119 15) x165] := hI171
            replace hb170 : p_impl_braidingBy_L2 k141 number c_Orders c_Modulus c_Values k164 x165 = some ct166 := hb170
            unfold p_impl_braidingBy_L2 at hb170
            obtain ⟨hf174, hf175, hf176, hf177, hf178, hf179, hf180, hf181, hf182, hr183, hS184⟩ := hI171
            refine W.seq (W.region ?_)
            refine WL.val (Value.bool (decide ((k164 : Int) < ((x142).length : Int)))) _ (op_lss hf182 hf181) rfl ?_
            have hl185 : (k164 : Int) < ((x142).length : Int) := by omega
            refine WL.nil ?_
            show W _ _ _ _ _ _
            refine W.seq ?_
            refine W.condT (decide ((k164 : Int) < ((x142).length : Int))) rfl (decide_eq_true hl185) ?_
            refine W.skip ?_
            show W _ _ _ _ _ _
            refine W.seq ?_
            refine W.block ?_
            refine W.seq (W.region ?_)
            refine WL.val (Value.int .i64 (k164 : Int)) _ (op_move hf182) rfl ?_
            refine WL.val (Value.int .i64 (k164 : Int)) _ (op_assign rfl) rfl ?_
            refine WL.nil ?_
            show W _ _ _ _ _ _
            obtain ⟨x226, hx229, hb170⟩ := bs hb170
            obtain ⟨ha227, hb228, hx229⟩ := idx_some hx229
            obtain ⟨u240, hc241, hr242⟩ := repSl.el (St.rep (t := (Ty.sl (Ty.sl (Ty.i .i64)))) hS184 2 rfl) hx229
            obtain ⟨x298, hx299, hb170⟩ := bs hb170
            obtain ⟨x319, hx320, hb170⟩ := bs hb170
            refine W.drawR mixo 12 [] [fun _ v _ _ => v = (Value.pointer (some ⟨b131, 3, none⟩)), fun _ v _ _ => v = (f119 15), fun _ v _ _ => v = (Value.int .i64 (k141 : Int)) ∧ InR .i64 (k141 : Int), fun _ v _ _ => v = (Value.pointer (some (elA (f119 15) ((k141 : Int)).toNat))), fun _ v _ _ => v = u240, fun _ v _ _ => v = (Value.int .i64 (k164 : Int)) ∧ InR .i64 (k164 : Int), fun _ v S w' => v = (Value.agg #[v_c_Orders, (Value.int .i64 c_Modulus), v_c_Values]) ∧ InR .i64 c_Modulus, fun _ v _ _ => v = (Value.func (.func g_number) fst_number cap_number), fun _ v _ _ => v = (Value.int .i64 (k141 : Int)) ∧ InR .i64 (k141 : Int), fun _ v _ _ => v = (Value.int .i64 (k164 : Int)) ∧ InR .i64 (k164 : Int), fun _ v _ _ => v = (Value.int .i64 x298) ∧ InR .i64 x298, fun _ v _ _ => v = (Value.int .i64 x319) ∧ InR .i64 x319] (by kernel_rfl) (by kernel_rfl) ⟨⟨fun _ _ _ _ _ _ h => h, fun _ _ _ _ _ _ h => h⟩, ⟨fun _ _ _ _ _ _ h => h, fun _ _ _ _ _ _ h => h⟩, ⟨fun _ _ _ _ _ _ h => h, fun _ _ _ _ _ _ h => h⟩, ⟨fun _ _ _ _ _ _ h => h, fun _ _ _ _ _ _ h => h⟩, ⟨fun _ _ _ _ _ _ h => h, fun _ _ _ _ _ _ h => h⟩, ⟨fun _ _ _ _ _ _ h => h, fun _ _ _ _ _ _ h => h⟩, ⟨fun _ _ _ _ _ he ⟨h0, h1⟩ => ⟨h0, h1⟩, fun _ _ _ _ _ _ h => h⟩, ⟨fun _ _ _ _ _ _ h => h, fun _ _ _ _ _ _ h => h⟩, ⟨fun _ _ _ _ _ _ h => h, fun _ _ _ _ _ _ h => h⟩, ⟨fun _ _ _ _ _ _ h => h, fun _ _ _ _ _ _ h => h⟩, ⟨fun _ _ _ _ _ _ h => h, fun _ _ _ _ _ _ h => h⟩, ⟨fun _ _ _ _ _ _ h => h, fun _ _ _ _ _ _ h => h⟩, trivial⟩ ⟨?_, ?_, ?_, ?_, ?_, ?_, ?_, ?_, ?_, ?_, ?_, ?_, trivial⟩ ?_
            · refine ObX.op rfl ?_
              intro f187 wd188 he189 hout190 hphi191
              have hS192 : St wd2 wd188 [bx b9 [(Value.slice none 0 0), (Value.int .i64 (0 : Int)), (Value.slice none 0 0), (Value.slice none 0 0)], bx b131 [v_c_Orders, (Value.int .i64 c_Modulus), v_c_Values, (f119 15)], (Ty.sl (Ty.sl (Ty.i .i64))).at (f119 15) x165] := St.extend hS184 he189
              have e193 : f187 5 = (Value.pointer (some ⟨b131, 0, none⟩)) := (hout190 5 rfl).trans hf177
              exact OpX.val (Value.pointer (some ⟨b131, 3, none⟩)) wd188 rfl (op_fieldAddr fd_34_1 e193) (Ext.refl _) rfl
            · refine ObX.op rfl ?_
              intro f194 wd195 he196 hout197 hphi198
              have hS199 : St wd2 wd195 [bx b9 [(Value.slice none 0 0), (Value.int .i64 (0 : Int)), (Value.slice none 0 0), (Value.slice none 0 0)], bx b131 [v_c_Orders, (Value.int .i64 c_Modulus), v_c_Values, (f119 15)], (Ty.sl (Ty.sl (Ty.i .i64))).at (f119 15) x165] := St.extend hS184 he196
              obtain ⟨S200, hS201, hf202⟩ := hphi198 0 29 _ rfl rfl rfl
              have e203 : f194 29 = (Value.pointer (some ⟨b131, 3, none⟩)) := hf202
              exact OpX.val (f119 15) wd195 rfl (op_load one_26 e203 (BoxAt.cell (St.boxAt hS199 1 rfl) rfl)) (Ext.refl _) rfl
            · refine ObX.op rfl ?_
              intro f204 wd205 he206 hout207 hphi208
              have hS209 : St wd2 wd205 [bx b9 [(Value.slice none 0 0), (Value.int .i64 (0 : Int)), (Value.slice none 0 0), (Value.slice none 0 0)], bx b131 [v_c_Orders, (Value.int .i64 c_Modulus), v_c_Values, (f119 15)], (Ty.sl (Ty.sl (Ty.i .i64))).at (f119 15) x165] := St.extend hS184 he206
              have e210 : f204 6 = (Value.int .i64 (k141 : Int)) := (hout207 6 rfl).trans hf178
              exact OpX.val (Value.int .i64 (k141 : Int)) wd205 rfl (op_move e210) (Ext.refl _) ⟨rfl, hr157⟩
            · refine ObX.op rfl ?_
              intro f211 wd212 he213 hout214 hphi215
              have hS216 : St wd2 wd212 [bx b9 [(Value.slice none 0 0), (Value.int .i64 (0 : Int)), (Value.slice none 0 0), (Value.slice none 0 0)], bx b131 [v_c_Orders, (Value.int .i64 c_Modulus), v_c_Values, (f119 15)], (Ty.sl (Ty.sl (Ty.i .i64))).at (f119 15) x165] := St.extend hS184 he213
              obtain ⟨S217, hS218, hf219⟩ := hphi215 1 30 _ rfl rfl rfl
              have e220 : f211 30 = (f119 15) := hf219
              obtain ⟨S221, hS222, hf223⟩ := hphi215 2 31 _ rfl rfl rfl
              obtain ⟨e224, hr225⟩ : f211 31 = (Value.int .i64 (k141 : Int)) ∧ InR .i64 (k141 : Int) := hf223
              exact OpX.val (Value.pointer (some (elA (f119 15) ((k141 : Int)).toNat))) wd212 rfl (op_idx sl_26 (St.rep (t := (Ty.sl (Ty.sl (Ty.i .i64)))) hS216 2 rfl) e220 e224 ha227 hb228) (Ext.refl _) rfl
            · refine ObX.op rfl ?_
              intro f230 wd231 he232 hout233 hphi234
              have hS235 : St wd2 wd231 [bx b9 [(Value.slice none 0 0), (Value.int .i64 (0 : Int)), (Value.slice none 0 0), (Value.slice none 0 0)], bx b131 [v_c_Orders, (Value.int .i64 c_Modulus), v_c_Values, (f119 15)], (Ty.sl (Ty.sl (Ty.i .i64))).at (f119 15) x165] := St.extend hS184 he232
              obtain ⟨S236, hS237, hf238⟩ := hphi234 3 32 _ rfl rfl rfl
              have e239 : f230 32 = (Value.pointer (some (elA (f119 15) ((k141 : Int)).toNat))) := hf238
              exact OpX.val u240 wd231 rfl (op_load one_22 e239 (Ext.cell he232 hc241)) (Ext.refl _) rfl
            · refine ObX.op rfl ?_
              intro f243 wd244 he245 hout246 hphi247
              have hS248 : St wd2 wd244 [bx b9 [(Value.slice none 0 0), (Value.int .i64 (0 : Int)), (Value.slice none 0 0), (Value.slice none 0 0)], bx b131 [v_c_Orders, (Value.int .i64 c_Modulus), v_c_Values, (f119 15)], (Ty.sl (Ty.sl (Ty.i .i64))).at (f119 15) x165] := St.extend hS184 he245
              have e249 : f243 7 = (Value.int .i64 (k164 : Int)) := (hout246 7 rfl).trans rfl
              exact OpX.val (Value.int .i64 (k164 : Int)) wd244 rfl (op_move e249) (Ext.refl _) ⟨rfl, hr183⟩
            · refine ObX.op rfl ?_
              intro f250 wd251 he252 hout253 hphi254
              have hS255 : St wd2 wd251 [bx b9 [(Value.slice none 0 0), (Value.int .i64 (0 : Int)), (Value.slice none 0 0), (Value.slice none 0 0)], bx b131 [v_c_Orders, (Value.int .i64 c_Modulus), v_c_Values, (f119 15)], (Ty.sl (Ty.sl (Ty.i .i64))).at (f119 15) x165] := St.extend hS184 he252
              have e256 : f250 2 = (Value.pointer (some ⟨b1, 0, none⟩)) := (hout253 2 rfl).trans hf175
              exact OpX.val (Value.agg #[v_c_Orders, (Value.int .i64 c_Modulus), v_c_Values]) wd251 rfl (op_loadBox st_32 e256 (BoxAt.lift hS255.ext hx6) rfl rfl) (Ext.refl _) ⟨rfl, r_c_Modulus⟩
            · refine ObX.op rfl ?_
              intro f257 wd258 he259 hout260 hphi261
              have hS262 : St wd2 wd258 [bx b9 [(Value.slice none 0 0), (Value.int .i64 (0 : Int)), (Value.slice none 0 0), (Value.slice none 0 0)], bx b131 [v_c_Orders, (Value.int .i64 c_Modulus), v_c_Values, (f119 15)], (Ty.sl (Ty.sl (Ty.i .i64))).at (f119 15) x165] := St.extend hS184 he259
              have e263 : f257 1 = (Value.func (.func g_number) fst_number cap_number) := (hout260 1 rfl).trans hf174
              exact OpX.val (Value.func (.func g_number) fst_number cap_number) wd258 rfl (op_move e263) (Ext.refl _) rfl
            · refine ObX.op rfl ?_
              intro f264 wd265 he266 hout267 hphi268
              have hS269 : St wd2 wd265 [bx b9 [(Value.slice none 0 0), (Value.int .i64 (0 : Int)), (Value.slice none 0 0), (Value.slice none 0 0)], bx b131 [v_c_Orders, (Value.int .i64 c_Modulus), v_c_Values, (f119 15)], (Ty.sl (Ty.sl (Ty.i .i64))).at (f119 15) x165] := St.extend hS184 he266
              have e270 : f264 6 = (Value.int .i64 (k141 : Int)) := (hout267 6 rfl).trans hf178
              exact OpX.val (Value.int .i64 (k141 : Int)) wd265 rfl (op_move e270) (Ext.refl _) ⟨rfl, hr157⟩
            · refine ObX.op rfl ?_
              intro f271 wd272 he273 hout274 hphi275
              have hS276 : St wd2 wd272 [bx b9 [(Value.slice none 0 0), (Value.int .i64 (0 : Int)), (Value.slice none 0 0), (Value.slice none 0 0)], bx b131 [v_c_Orders, (Value.int .i64 c_Modulus), v_c_Values, (f119 15)], (Ty.sl (Ty.sl (Ty.i .i64))).at (f119 15) x165] := St.extend hS184 he273
              have e277 : f271 7 = (Value.int .i64 (k164 : Int)) := (hout274 7 rfl).trans rfl
              exact OpX.val (Value.int .i64 (k164 : Int)) wd272 rfl (op_move e277) (Ext.refl _) ⟨rfl, hr183⟩
            · refine ObX.op rfl ?_
              intro f278 wd279 he280 hout281 hphi282
              have hS283 : St wd2 wd279 [bx b9 [(Value.slice none 0 0), (Value.int .i64 (0 : Int)), (Value.slice none 0 0), (Value.slice none 0 0)], bx b131 [v_c_Orders, (Value.int .i64 c_Modulus), v_c_Values, (f119 15)], (Ty.sl (Ty.sl (Ty.i .i64))).at (f119 15) x165] := St.extend hS184 he280
              obtain ⟨S284, hS285, hf286⟩ := hphi282 7 36 _ rfl rfl rfl
              have e287 : f278 36 = (Value.func (.func g_number) fst_number cap_number) := hf286
              obtain ⟨S288, hS289, hf290⟩ := hphi282 8 37 _ rfl rfl rfl
              obtain ⟨e291, hr292⟩ : f278 37 = (Value.int .i64 (k141 : Int)) ∧ InR .i64 (k141 : Int) := hf290
              obtain ⟨S293, hS294, hf295⟩ := hphi282 9 38 _ rfl rfl rfl
              obtain ⟨e296, hr297⟩ : f278 38 = (Value.int .i64 (k164 : Int)) ∧ InR .i64 (k164 : Int) := hf295
              refine OpX.call rfl (op_callV e287 ok_number (args2 e291 e296)) (Ret.mono (call_number wd279 (k141 : Int) (k164 : Int) x298 (Ext.trans hE7 hS283.ext) hr292 hr297 hx299) ?_)
              rintro _ wd300 ⟨rfl, hr302, he301⟩
              exact ⟨he301, _, noS _ _, ⟨rfl, hr302⟩⟩
            · refine ObX.op rfl ?_
              intro f303 wd304 he305 hout306 hphi307
              have hS308 : St wd2 wd304 [bx b9 [(Value.slice none 0 0), (Value.int .i64 (0 : Int)), (Value.slice none 0 0), (Value.slice none 0 0)], bx b131 [v_c_Orders, (Value.int .i64 c_Modulus), v_c_Values, (f119 15)], (Ty.sl (Ty.sl (Ty.i .i64))).at (f119 15) x165] := St.extend hS184 he305
              obtain ⟨S309, hS310, hf311⟩ := hphi307 6 35 _ rfl rfl rfl
              obtain ⟨e312, hr313⟩ := hf311
              obtain ⟨S314, hS315, hf316⟩ := hphi307 10 39 _ rfl rfl rfl
              obtain ⟨e317, hr318⟩ : f303 39 = (Value.int .i64 x298) ∧ InR .i64 x298 := hf316
              refine OpX.call rfl (op_call fn_72 (args2 e312 e317)) (Ret.mono (c_impl_Cocycle_rest (Ty.lift _ (Ext.trans hE7 hS308.ext) r_c_Orders) hr313 (Ty.lift _ (Ext.trans hE7 hS308.ext) r_c_Values) hr318 hx320) ?_)
              rintro _ wd322 ⟨rfl, hr321, he323⟩
              exact ⟨he323, _, noS _ _, ⟨rfl, hr321⟩⟩
            · intro f325 wd326 Ss327 he328 hout329 hSn330 hSd331 hphi332
              show WL _ _ _ _ _ _ _
              have hS333 : St wd2 wd326 [bx b9 [(Value.slice none 0 0), (Value.int .i64 (0 : Int)), (Value.slice none 0 0), (Value.slice none 0 0)], bx b131 [v_c_Orders, (Value.int .i64 c_Modulus), v_c_Values, (f119 15)], (Ty.sl (Ty.sl (Ty.i .i64))).at (f119 15) x165] := St.extend hS184 he328
              have e334 : f325 33 = u240 := hphi332 4 33 _ (by decide) rfl rfl
              obtain ⟨e335, hr336⟩ : f325 34 = (Value.int .i64 (k164 : Int)) ∧ InR .i64 (k164 : Int) := hphi332 5 34 _ (by decide) rfl rfl
              obtain ⟨e337, hr338⟩ : f325 40 = (Value.int .i64 x319) ∧ InR .i64 x319 := hphi332 11 40 _ (by decide) rfl rfl
              have e339 : f325 1 = (Value.func (.func g_number) fst_number cap_number) := (hout329 1 rfl).trans hf174
              have e340 : f325 2 = (Value.pointer (some ⟨b1, 0, none⟩)) := (hout329 2 rfl).trans hf175
              have e341 : f325 4 = (Value.pointer (some ⟨b9, 0, none⟩)) := (hout329 4 rfl).trans hf176
              have e342 : f325 5 = (Value.pointer (some ⟨b131, 0, none⟩)) := (hout329 5 rfl).trans hf177
              have e343 : f325 6 = (Value.int .i64 (k141 : Int)) := (hout329 6 rfl).trans hf178
              have e344 : f325 19 = (Value.int .i64 ((x92).length : Int)) := (hout329 19 rfl).trans hf179
              have e345 : f325 20 = (Value.int .i64 (k141 : Int)) := (hout329 20 rfl).trans hf180
              have e346 : f325 25 = (Value.int .i64 ((x142).length : Int)) := (hout329 25 rfl).trans hf181
              have e347 : f325 26 = (Value.int .i64 (k164 : Int)) := (hout329 26 rfl).trans hf182
              obtain ⟨x348, hx351, hb170⟩ := bs hb170
              obtain ⟨ha349, hb350, hx351⟩ := idx_some hx351
              refine WL.val (Value.pointer (some (elA u240 ((k164 : Int)).toNat))) _ (op_idx sl_22 (Ty.lift _ he328 hr242) e334 e335 ha349 hb350) rfl ?_
              refine WL.storeEl2 (flat_i .i64) hS333 (k := 2) rfl sz_2 hx229 (Ext.cell he328 hc241) rfl e337 (lt_of_idx ha349 hb350) ⟨rfl, hr338⟩ ?_
              intro wd352 hS353
              replace hS353 : St wd2 wd352 [bx b9 [(Value.slice none 0 0), (Value.int .i64 (0 : Int)), (Value.slice none 0 0), (Value.slice none 0 0)], bx b131 [v_c_Orders, (Value.int .i64 c_Modulus), v_c_Values, (f119 15)], (Ty.sl (Ty.sl (Ty.i .i64))).at (f119 15) ((x165).set ((k141 : Int)).toNat ((x226).set ((k164 : Int)).toNat x319))] := hS353
              refine WL.nil ?_
              show W _ _ _ _ _ _
              refine W.region ?_
              refine WL.val (Value.int .i64 (w64 ((k164 : Int) + (1 : Int)))) _ (op_add e347 rfl) rfl ?_
              refine WL.val (Value.int .i64 (w64 ((k164 : Int) + (1 : Int)))) _ (op_move rfl) rfl ?_
              refine WL.nil ?_
              obtain rfl := Option.some.inj hb170
              show ∃ s, _ = Ctl.next s ∧ _
              exact ⟨_, rfl, e339, e340, e341, e342, e343, e344, e345, e346, (ctr_next hl185 hr161), (ctr_rng hl185 hr161), hS353⟩
          · intro x360 f355 wd356 hs357 hI358
            replace hI358 : f355 1 = (Value.func (.func g_number) fst_number cap_number) ∧ f355 2 = (Value.pointer (some ⟨b1, 0, none⟩)) ∧ f355 4 = (Value.pointer (some ⟨b9, 0, none⟩)) ∧ f355 5 = (Value.pointer (some ⟨b131, 0, none⟩)) ∧ f355 6 = (Value.int .i64 (k141 : Int)) ∧ f355 19 = (Value.int .i64 ((x92).length : Int)) ∧ f355 20 = (Value.int .i64 (k141 : Int)) ∧ f355 25 = (Value.int .i64 ((x142).length : Int)) ∧ f355 26 = Value.int .i64 (((x142).length : Nat) : Int) ∧ InR .i64 (((x142).length : Nat) : Int) ∧ St wd2 wd356 [bx b9 [(Value.slice none 0 0), (Value.int .i64 (0 : Int)), (Value.slice none 0 0), (Value.slice none 0 0)], bx b131 [v_c_Orders, (Value.int .i64 c_Modulus), v_c_Values, (f119 15)], (Ty.sl (Ty.sl (Ty.i .i64))).at (f119 15) x360] := hI358
            obtain ⟨hf361, hf362, hf363, hf364, hf365, hf366, hf367, hf368, hf369, hr370, hS371⟩ := hI358
            refine W.seq (W.region ?_)
            refine WL.val (Value.bool (decide ((((x142).length : Nat) : Int) < ((x142).length : Int)))) _ (op_lss hf369 hf368) rfl ?_
            have hl372 : ¬ (((x142).length : Nat) : Int) < ((x142).length : Int) := by omega
            refine WL.nil ?_
            show W _ _ _ _ _ _
            refine W.seq ?_
            refine W.condF (decide ((((x142).length : Nat) : Int) < ((x142).length : Int))) rfl (decide_eq_false hl372) ?_
            refine W.exit ?_
            show _ = _ ∧ _
            exact ⟨rfl, _, hs357, hf361, hf362, hf363, hf364, hf366, hf367, hS371⟩
        · rintro f373 wd374 ⟨x377, rfl, hq375⟩
          replace hb147 := onRes_fin hb147
          replace hq375 : f373 1 = (Value.func (.func g_number) fst_number cap_number) ∧ f373 2 = (Value.pointer (some ⟨b1, 0, none⟩)) ∧ f373 4 = (Value.pointer (some ⟨b9, 0, none⟩)) ∧ f373 5 = (Value.pointer (some ⟨b131, 0, none⟩)) ∧ f373 19 = (Value.int .i64 ((x92).length : Int)) ∧ f373 20 = (Value.int .i64 (k141 : Int)) ∧ St wd2 wd374 [bx b9 [(Value.slice none 0 0), (Value.int .i64 (0 : Int)), (Value.slice none 0 0), (Value.slice none 0 0)], bx b131 [v_c_Orders, (Value.int .i64 c_Modulus), v_c_Values, (f119 15)], (Ty.sl (Ty.sl (Ty.i .i64))).at (f119 15) x377] := hq375
          obtain ⟨hf378, hf379, hf380, hf381, hf382, hf383, hS384⟩ := hq375
          show W _ _ _ _ _ _
          refine W.region ?_
          refine WL.val (Value.int .i64 (w64 ((k141 : Int) + (1 : Int)))) _ (op_add hf383 rfl) rfl ?_
          refine WL.val (Value.int .i64 (w64 ((k141 : Int) + (1 : Int)))) _ (op_move rfl) rfl ?_
          refine WL.nil ?_
          obtain rfl := Option.some.inj hb147
          show ∃ s, _ = Ctl.next s ∧ _
          exact ⟨_, rfl, hf378, hf379, hf380, hf381, hf382, (ctr_next hl159 hr138), (ctr_rng hl159 hr138), hS384⟩
      · intro x392 f387 wd388 hs389 hI390
        replace hI390 : f387 1 = (Value.func (.func g_number) fst_number cap_number) ∧ f387 2 = (Value.pointer (some ⟨b1, 0, none⟩)) ∧ f387 4 = (Value.pointer (some ⟨b9, 0, none⟩)) ∧ f387 5 = (Value.pointer (some ⟨b131, 0, none⟩)) ∧ f387 19 = (Value.int .i64 ((x92).length : Int)) ∧ f387 20 = Value.int .i64 (((x92).length : Nat) : Int) ∧ InR .i64 (((x92).length : Nat) : Int) ∧ St wd2 wd388 [bx b9 [(Value.slice none 0 0), (Value.int .i64 (0 : Int)), (Value.slice none 0 0), (Value.slice none 0 0)], bx b131 [v_c_Orders, (Value.int .i64 c_Modulus), v_c_Values, (f119 15)], (Ty.sl (Ty.sl (Ty.i .i64))).at (f119 15) x392] := hI390
        obtain ⟨hf393, hf394, hf395, hf396, hf397, hf398, hr399, hS400⟩ := hI390
        refine W.seq (W.region ?_)
        refine WL.val (Value.bool (decide ((((x92).length : Nat) : Int) < ((x92).length : Int)))) _ (op_lss hf398 hf397) rfl ?_
        have hl401 : ¬ (((x92).length : Nat) : Int) < ((x92).length : Int) := by omega
        refine WL.nil ?_
        show W _ _ _ _ _ _
        refine W.seq ?_
        refine W.condF (decide ((((x92).length : Nat) : Int) < ((x92).length : Int))) rfl (decide_eq_false hl401) ?_
        refine W.exit ?_
        show _ = _ ∧ _
        exact ⟨rfl, _, hs389, hf395, hf396, hS400⟩
    · rintro f402 wd403 ⟨x406, rfl, hq404⟩
      replace h := onRes_fin h
      replace hq404 : f402 4 = (Value.pointer (some ⟨b9, 0, none⟩)) ∧ f402 5 = (Value.pointer (some ⟨b131, 0, none⟩)) ∧ St wd2 wd403 [bx b9 [(Value.slice none 0 0), (Value.int .i64 (0 : Int)), (Value.slice none 0 0), (Value.slice none 0 0)], bx b131 [v_c_Orders, (Value.int .i64 c_Modulus), v_c_Values, (f119 15)], (Ty.sl (Ty.sl (Ty.i .i64))).at (f119 15) x406] := hq404
      obtain ⟨hf407, hf408, hS409⟩ := hq404
      show W _ _ _ _ _ _
      refine W.seq (W.region ?_)
      refine WL.val (Value.agg #[v_c_Orders, (Value.int .i64 c_Modulus), v_c_Values, (f119 15)]) _ (op_loadBox st_34 hf408 (St.boxAt hS409 1 rfl) rfl rfl) rfl ?_
      refine WL.storeBox [v_c_Orders, (Value.int .i64 c_Modulus), v_c_Values, (f119 15)] hS409 (k := 0) rfl hf407 rfl (us := [v_c_Orders, (Value.int .i64 c_Modulus), v_c_Values, (f119 15)]) rfl sz_34 rfl rfl (all_rep (Ty.lift _ (Ext.trans hE7 hS409.ext) r_c_Orders) (all_cons rfl (all_rep (Ty.lift _ (Ext.trans hE7 hS409.ext) r_c_Values) (all_rep (St.rep (t := (Ty.sl (Ty.sl (Ty.i .i64)))) hS409 2 rfl) all_nil)))) rfl ?_
      intro wd410 hS411
      replace hS411 : St wd2 wd410 [bx b9 [v_c_Orders, (Value.int .i64 c_Modulus), v_c_Values, (f119 15)], bx b131 [v_c_Orders, (Value.int .i64 c_Modulus), v_c_Values, (f119 15)], (Ty.sl (Ty.sl (Ty.i .i64))).at (f119 15) x406] := hS411
      refine WL.nil ?_
      show W _ _ _ _ _ _
      refine W.ret ?_
      obtain rfl := Option.some.inj h
      show FinP _ _ _ _ _ _ _
      exact FinP.ret _ (resC rfl hf407 st_34 (St.boxAt hS411 0 rfl) rfl) ⟨(f119 15), rfl, r_c_Modulus, (Ext.trans hE7 hS411.ext), (St.out (St.pick hS411 [2] rfl) (hE7))⟩

theorem c_impl_BicharacterBraiding {w : World} {orders : (List Int)} {v_orders : Value} {m : Int} {values : (List (List Int))} {v_values : Value} (r_orders : (Ty.sl (Ty.i .i64)).rep w v_orders orders) (r_m : InR .i64 m) (r_values : (Ty.sl (Ty.sl (Ty.i .i64))).rep w v_values values) {res : (List Int) × Int × (List (List (List Int))) × (List (List Int)) × Int} (h : p_impl_BicharacterBraiding orders m values  = some res) :
    Ret Try.prog 22 #[v_orders, (Value.int .i64 m), v_values] w (fun v w' => ∃ (u0 : Value) (u2 : Value) (u3 : Value), v = (Value.tuple #[(Value.agg #[u0, Value.int .i64 res.2.1, u2, u3]), Value.int .i64 res.2.2.2.2]) ∧ InR .i64 res.2.1 ∧ InR .i64 res.2.2.2.2 ∧ Ext w w' ∧ Sep w.heap.size w' [(Ty.sl (Ty.i .i64)).at u0 res.1, (Ty.sl (Ty.sl (Ty.sl (Ty.i .i64)))).at u2 res.2.2.1, (Ty.sl (Ty.sl (Ty.i .i64))).at u3 res.2.2.2.1]) := by
  unfold p_impl_BicharacterBraiding at h
  have hS0 : St w w [] := St.start w
  refine Ret.start (fn := Try.f22) Try.func22 rfl 30 rfl rfl ?_
  refine W.seq (W.region ?_)
  refine WL.box hS0 rfl (cs := [v_values]) (cells_rep (Ty.lift _ hS0.ext r_values)) rfl ?_
  intro b1 wd2 hS3 he4 hx5
  replace hS3 : St w wd2 [bx b1 [v_values]] := hS3
  have hx6 := St.boxAt hS3 0 rfl
  have hE7 : Ext w wd2 := hS3.ext
  have hS8 : St wd2 wd2 [] := St.start wd2
  refine WL.alloc hS8 ze_34 (cs := [(Value.slice none 0 0), (Value.int .i64 (0 : Int)), (Value.slice none 0 0), (Value.slice none 0 0)]) rfl rfl ?_
  intro b9 wd10 hS11 he12
  replace hS11 : St wd2 wd10 [bx b9 [(Value.slice none 0 0), (Value.int .i64 (0 : Int)), (Value.slice none 0 0), (Value.slice none 0 0)]] := hS11
  refine WL.val (Value.int .i64 (0 : Int)) _ (op_assign rfl) rfl ?_
  refine WL.nil ?_
  show W _ _ _ _ _ _
  refine W.seq (W.seq (W.region ?_))
  refine WL.val v_orders _ (op_move rfl) rfl ?_
  refine WL.val (Value.int .i64 m) _ (op_move rfl) rfl ?_
  refine WL.val v_values _ (op_load one_26 rfl (BoxAt.cell (BoxAt.lift hS11.ext hx6) rfl)) rfl ?_
  obtain ⟨x13, hx14, h⟩ := bs h
  refine WL.call _ (op_call fn_47 (args3 rfl rfl rfl)) (c_impl_pairingCode (Ty.lift _ (Ext.trans hE7 hS11.ext) r_orders) r_m (Ty.lift _ (Ext.trans hE7 hS11.ext) r_values) hx14) rfl ?_
  rintro _ wd16 ⟨rfl, hr15, he17⟩
  have hS19 := St.extend hS11 he17
  replace hS19 : St wd2 wd16 [bx b9 [(Value.slice none 0 0), (Value.int .i64 (0 : Int)), (Value.slice none 0 0), (Value.slice none 0 0)]] := hS19
  refine WL.val (Value.int .i64 x13) _ (op_assign rfl) rfl ?_
  refine WL.nil ?_
  show W _ _ _ _ _ _
  refine W.seq (W.region ?_)
  refine WL.val (Value.int .i64 x13) _ (op_move rfl) rfl ?_
  refine WL.val (Value.bool (x13 != (0 : Int))) _ (op_neq rfl rfl) rfl ?_
  refine WL.nil ?_
  show W _ _ _ _ _ _
  refine W.cond (x13 != (0 : Int)) rfl (fun hc20 => ?_) (fun hc20 => ?_)
  · replace h := ip h hc20
    refine W.seq (W.region ?_)
    refine WL.val (Value.agg #[(Value.slice none 0 0), (Value.int .i64 (0 : Int)), (Value.slice none 0 0), (Value.slice none 0 0)]) _ (op_build bd_34 (parts := []) (partsL trivial) trivial rfl) rfl ?_
    refine WL.val (Value.int .i64 x13) _ (op_move rfl) rfl ?_
    have hS24 := St.addNil (Ty.i .i64) hS19
    replace hS24 : St wd2 wd16 [bx b9 [(Value.slice none 0 0), (Value.int .i64 (0 : Int)), (Value.slice none 0 0), (Value.slice none 0 0)], (Ty.sl (Ty.i .i64)).at (Value.slice none 0 0) ([] : (List Int))] := hS24
    have hS25 := St.addNil (Ty.sl (Ty.sl (Ty.i .i64))) hS24
    replace hS25 : St wd2 wd16 [bx b9 [(Value.slice none 0 0), (Value.int .i64 (0 : Int)), (Value.slice none 0 0), (Value.slice none 0 0)], (Ty.sl (Ty.i .i64)).at (Value.slice none 0 0) ([] : (List Int)), (Ty.sl (Ty.sl (Ty.sl (Ty.i .i64)))).at (Value.slice none 0 0) ([] : (List (List (List Int))))] := hS25
    have hS26 := St.addNil (Ty.sl (Ty.i .i64)) hS25
    replace hS26 : St wd2 wd16 [bx b9 [(Value.slice none 0 0), (Value.int .i64 (0 : Int)), (Value.slice none 0 0), (Value.slice none 0 0)], (Ty.sl (Ty.i .i64)).at (Value.slice none 0 0) ([] : (List Int)), (Ty.sl (Ty.sl (Ty.sl (Ty.i .i64)))).at (Value.slice none 0 0) ([] : (List (List (List Int)))), (Ty.sl (Ty.sl (Ty.i .i64))).at (Value.slice none 0 0) ([] : (List (List Int)))] := hS26
    refine WL.storeBox [(Value.slice none 0 0), (Value.int .i64 (0 : Int)), (Value.slice none 0 0), (Value.slice none 0 0)] hS26 (k := 0) rfl rfl rfl (us := [(Value.slice none 0 0), (Value.int .i64 (0 : Int)), (Value.slice none 0 0), (Value.slice none 0 0)]) rfl sz_34 rfl rfl (all_rep (St.rep (t := (Ty.sl (Ty.i .i64))) hS26 1 rfl) (all_cons rfl (all_rep (St.rep (t := (Ty.sl (Ty.sl (Ty.sl (Ty.i .i64))))) hS26 2 rfl) (all_rep (St.rep (t := (Ty.sl (Ty.sl (Ty.i .i64)))) hS26 3 rfl) all_nil)))) rfl ?_
    intro wd22 hS23
    replace hS23 : St wd2 wd22 [bx b9 [(Value.slice none 0 0), (Value.int .i64 (0 : Int)), (Value.slice none 0 0), (Value.slice none 0 0)], (Ty.sl (Ty.i .i64)).at (Value.slice none 0 0) ([] : (List Int)), (Ty.sl (Ty.sl (Ty.sl (Ty.i .i64)))).at (Value.slice none 0 0) ([] : (List (List (List Int)))), (Ty.sl (Ty.sl (Ty.i .i64))).at (Value.slice none 0 0) ([] : (List (List Int)))] := hS23
    refine WL.val (Value.int .i64 x13) _ (op_assign rfl) rfl ?_
    refine WL.nil ?_
    show W _ _ _ _ _ _
    refine W.ret ?_
    obtain rfl := Option.some.inj h
    show FinP _ _ _ _ _ _ _
    exact FinP.ret _ (resCT rfl rfl st_34 (St.boxAt hS23 0 rfl) rfl rfl) ⟨(Value.slice none 0 0), (Value.slice none 0 0), (Value.slice none 0 0), rfl, (inR_i64.2 (show (-9223372036854775808 : Int) ≤ 0 ∧ (0 : Int) ≤ 9223372036854775807 from by decide)), hr15, (Ext.trans hE7 hS23.ext), (St.out (St.pick hS23 [1, 2, 3] rfl) (hE7))⟩
  · replace h := inegb h hc20
    refine W.skip ?_
    show W _ _ _ _ _ _
    refine W.seq (W.region ?_)
    refine WL.val v_orders _ (op_move rfl) rfl ?_
    refine WL.val (Value.int .i64 m) _ (op_move rfl) rfl ?_
    obtain ⟨x31, hx32, h⟩ := bs h
    refine WL.call _ (op_call fn_48 (args3 rfl rfl rfl)) (c_impl_cocycleBy (Ty.lift _ (Ext.trans hE7 hS19.ext) r_orders) r_m (⟨49, #[], #[], rfl, fn_49, fun wd27 a0_28 a1_28 a2_28 r29 he28 ra0_28 ra1_28 ra2_28 hq30 => c_impl_BicharacterBraiding_c1 ra0_28 ra1_28 ra2_28 hq30⟩) hx32) rfl ?_
    rintro _ wd36 ⟨u33, u35, rfl, hr34, he37, hs38⟩
    have hS39 := St.join hS19 he37 hs38
    replace hS39 : St wd2 wd36 [bx b9 [(Value.slice none 0 0), (Value.int .i64 (0 : Int)), (Value.slice none 0 0), (Value.slice none 0 0)], (Ty.sl (Ty.i .i64)).at u33 x31.1, (Ty.sl (Ty.sl (Ty.sl (Ty.i .i64)))).at u35 x31.2.2] := hS39
    refine WL.alloc hS39 ze_32 (cs := [(Value.slice none 0 0), (Value.int .i64 (0 : Int)), (Value.slice none 0 0)]) rfl rfl ?_
    intro b40 wd41 hS42 he43
    replace hS42 : St wd2 wd41 [bx b9 [(Value.slice none 0 0), (Value.int .i64 (0 : Int)), (Value.slice none 0 0), (Value.slice none 0 0)], (Ty.sl (Ty.i .i64)).at u33 x31.1, (Ty.sl (Ty.sl (Ty.sl (Ty.i .i64)))).at u35 x31.2.2, bx b40 [(Value.slice none 0 0), (Value.int .i64 (0 : Int)), (Value.slice none 0 0)]] := hS42
    refine WL.storeBox [u33, (Value.int .i64 x31.2.1), u35] hS42 (k := 3) rfl rfl rfl (us := [u33, (Value.int .i64 x31.2.1), u35]) rfl sz_32 rfl rfl (all_rep (St.rep (t := (Ty.sl (Ty.i .i64))) hS42 1 rfl) (all_cons rfl (all_rep (St.rep (t := (Ty.sl (Ty.sl (Ty.sl (Ty.i .i64))))) hS42 2 rfl) all_nil))) rfl ?_
    intro wd44 hS45
    replace hS45 : St wd2 wd44 [bx b9 [(Value.slice none 0 0), (Value.int .i64 (0 : Int)), (Value.slice none 0 0), (Value.slice none 0 0)], (Ty.sl (Ty.i .i64)).at u33 x31.1, (Ty.sl (Ty.sl (Ty.sl (Ty.i .i64)))).at u35 x31.2.2, bx b40 [u33, (Value.int .i64 x31.2.1), u35]] := hS45
    refine WL.nil ?_
    show W _ _ _ _ _ _
    refine W.seq (W.region ?_)
    refine WL.val (Value.agg #[u33, (Value.int .i64 x31.2.1), u35]) _ (op_loadBox st_32 rfl (St.boxAt hS45 3 rfl) rfl rfl) rfl ?_
    refine WL.val (Value.func (.func 51) #[] #[(Value.pointer (some ⟨b1, 0, none⟩))]) _ (op_makeFunc (va := #[]) (vb := #[(Value.pointer (some ⟨b1, 0, none⟩))]) args0 (args1 rfl)) rfl ?_
    obtain ⟨x50, hx51, h⟩ := bs h
    refine WL.call _ (op_call fn_50 (args2 rfl rfl)) (c_impl_braidingBy (St.rep (t := (Ty.sl (Ty.i .i64))) hS45 1 rfl) hr34 (St.rep (t := (Ty.sl (Ty.sl (Ty.sl (Ty.i .i64))))) hS45 2 rfl) (⟨51, #[], #[(Value.pointer (some ⟨b1, 0, none⟩))], rfl, fn_51, fun wd46 a0_47 a1_47 r48 he47 ra0_47 ra1_47 hq49 => c_impl_BicharacterBraiding_c2 ra0_47 ra1_47 (BoxAt.lift (Ext.trans hS45.ext he47) hx6) (Ty.lift _ (Ext.trans (Ext.trans hE7 hS45.ext) he47) r_values) hq49⟩) hx51) rfl ?_
    rintro _ wd54 ⟨u53, rfl, hr52, he55, hs56⟩
    have hS57 := St.join hS45 he55 hs56
    replace hS57 : St wd2 wd54 [bx b9 [(Value.slice none 0 0), (Value.int .i64 (0 : Int)), (Value.slice none 0 0), (Value.slice none 0 0)], (Ty.sl (Ty.i .i64)).at u33 x31.1, (Ty.sl (Ty.sl (Ty.sl (Ty.i .i64)))).at u35 x31.2.2, bx b40 [u33, (Value.int .i64 x31.2.1), u35], (Ty.sl (Ty.sl (Ty.i .i64))).at u53 x50.2.2.2] := hS57
    refine WL.alloc hS57 ze_34 (cs := [(Value.slice none 0 0), (Value.int .i64 (0 : Int)), (Value.slice none 0 0), (Value.slice none 0 0)]) rfl rfl ?_
    intro b58 wd59 hS60 he61
    replace hS60 : St wd2 wd59 [bx b9 [(Value.slice none 0 0), (Value.int .i64 (0 : Int)), (Value.slice none 0 0), (Value.slice none 0 0)], (Ty.sl (Ty.i .i64)).at u33 x31.1, (Ty.sl (Ty.sl (Ty.sl (Ty.i .i64)))).at u35 x31.2.2, bx b40 [u33, (Value.int .i64 x31.2.1), u35], (Ty.sl (Ty.sl (Ty.i .i64))).at u53 x50.2.2.2, bx b58 [(Value.slice none 0 0), (Value.int .i64 (0 : Int)), (Value.slice none 0 0), (Value.slice none 0 0)]] := hS60
    refine WL.storeBox [u33, (Value.int .i64 x50.2.1), u35, u53] hS60 (k := 5) rfl rfl rfl (us := [u33, (Value.int .i64 x50.2.1), u35, u53]) rfl sz_34 rfl rfl (all_rep (St.rep (t := (Ty.sl (Ty.i .i64))) hS60 1 rfl) (all_cons rfl (all_rep (St.rep (t := (Ty.sl (Ty.sl (Ty.sl (Ty.i .i64))))) hS60 2 rfl) (all_rep (St.rep (t := (Ty.sl (Ty.sl (Ty.i .i64)))) hS60 4 rfl) all_nil)))) rfl ?_
    intro wd62 hS63
    replace hS63 : St wd2 wd62 [bx b9 [(Value.slice none 0 0), (Value.int .i64 (0 : Int)), (Value.slice none 0 0), (Value.slice none 0 0)], (Ty.sl (Ty.i .i64)).at u33 x31.1, (Ty.sl (Ty.sl (Ty.sl (Ty.i .i64)))).at u35 x31.2.2, bx b40 [u33, (Value.int .i64 x31.2.1), u35], (Ty.sl (Ty.sl (Ty.i .i64))).at u53 x50.2.2.2, bx b58 [u33, (Value.int .i64 x50.2.1), u35, u53]] := hS63
    refine WL.nil ?_
    show W _ _ _ _ _ _
    refine W.seq (W.seq (W.region ?_))
    refine WL.val (Value.agg #[u33, (Value.int .i64 x50.2.1), u35, u53]) _ (op_loadBox st_34 rfl (St.boxAt hS63 5 rfl) rfl rfl) rfl ?_
    obtain ⟨x64, hx65, h⟩ := bs h
    refine WL.call _ (op_call fn_34 (args1 rfl)) (c_impl_Braiding_fault (St.rep (t := (Ty.sl (Ty.i .i64))) hS63 1 rfl) hr52 (St.rep (t := (Ty.sl (Ty.sl (Ty.sl (Ty.i .i64))))) hS63 2 rfl) (St.rep (t := (Ty.sl (Ty.sl (Ty.i .i64)))) hS63 4 rfl) hx65) rfl ?_
    rintro u66 wd68 ⟨_, rfl, hn67, he69, hs70⟩
    have hS71 := St.join hS63 he69 hs70
    replace hS71 : St wd2 wd68 [bx b9 [(Value.slice none 0 0), (Value.int .i64 (0 : Int)), (Value.slice none 0 0), (Value.slice none 0 0)], (Ty.sl (Ty.i .i64)).at u33 x31.1, (Ty.sl (Ty.sl (Ty.sl (Ty.i .i64)))).at u35 x31.2.2, bx b40 [u33, (Value.int .i64 x31.2.1), u35], (Ty.sl (Ty.sl (Ty.i .i64))).at u53 x50.2.2.2, bx b58 [u33, (Value.int .i64 x50.2.1), u35, u53], (Ty.sl (Ty.i .i64)).at u66 x64] := hS71
    refine WL.val (Value.bool (!(x64).isEmpty)) _ (op_neqNilL sl_22 (St.rep (t := (Ty.sl (Ty.i .i64))) hS71 6 rfl) hn67 rfl rfl) rfl ?_
    refine WL.nil ?_
    show W _ _ _ _ _ _
    refine W.cond (!(x64).isEmpty) rfl (fun hc72 => ?_) (fun hc72 => ?_)
    · replace h := ip h hc72
      refine W.seq (W.region ?_)
      refine WL.val (Value.agg #[(Value.slice none 0 0), (Value.int .i64 (0 : Int)), (Value.slice none 0 0), (Value.slice none 0 0)]) _ (op_build bd_34 (parts := []) (partsL trivial) trivial rfl) rfl ?_
      have hS76 := St.addNil (Ty.i .i64) hS71
      replace hS76 : St wd2 wd68 [bx b9 [(Value.slice none 0 0), (Value.int .i64 (0 : Int)), (Value.slice none 0 0), (Value.slice none 0 0)], (Ty.sl (Ty.i .i64)).at u33 x31.1, (Ty.sl (Ty.sl (Ty.sl (Ty.i .i64)))).at u35 x31.2.2, bx b40 [u33, (Value.int .i64 x31.2.1), u35], (Ty.sl (Ty.sl (Ty.i .i64))).at u53 x50.2.2.2, bx b58 [u33, (Value.int .i64 x50.2.1), u35, u53], (Ty.sl (Ty.i .i64)).at u66 x64, (Ty.sl (Ty.i .i64)).at (Value.slice none 0 0) ([] : (List Int))] := hS76
      have hS77 := St.addNil (Ty.sl (Ty.sl (Ty.i .i64))) hS76
      replace hS77 : St wd2 wd68 [bx b9 [(Value.slice none 0 0), (Value.int .i64 (0 : Int)), (Value.slice none 0 0), (Value.slice none 0 0)], (Ty.sl (Ty.i .i64)).at u33 x31.1, (Ty.sl (Ty.sl (Ty.sl (Ty.i .i64)))).at u35 x31.2.2, bx b40 [u33, (Value.int .i64 x31.2.1), u35], (Ty.sl (Ty.sl (Ty.i .i64))).at u53 x50.2.2.2, bx b58 [u33, (Value.int .i64 x50.2.1), u35, u53], (Ty.sl (Ty.i .i64)).at u66 x64, (Ty.sl (Ty.i .i64)).at (Value.slice none 0 0) ([] : (List Int)), (Ty.sl (Ty.sl (Ty.sl (Ty.i .i64)))).at (Value.slice none 0 0) ([] : (List (List (List Int))))] := hS77
      have hS78 := St.addNil (Ty.sl (Ty.i .i64)) hS77
      replace hS78 : St wd2 wd68 [bx b9 [(Value.slice none 0 0), (Value.int .i64 (0 : Int)), (Value.slice none 0 0), (Value.slice none 0 0)], (Ty.sl (Ty.i .i64)).at u33 x31.1, (Ty.sl (Ty.sl (Ty.sl (Ty.i .i64)))).at u35 x31.2.2, bx b40 [u33, (Value.int .i64 x31.2.1), u35], (Ty.sl (Ty.sl (Ty.i .i64))).at u53 x50.2.2.2, bx b58 [u33, (Value.int .i64 x50.2.1), u35, u53], (Ty.sl (Ty.i .i64)).at u66 x64, (Ty.sl (Ty.i .i64)).at (Value.slice none 0 0) ([] : (List Int)), (Ty.sl (Ty.sl (Ty.sl (Ty.i .i64)))).at (Value.slice none 0 0) ([] : (List (List (List Int)))), (Ty.sl (Ty.sl (Ty.i .i64))).at (Value.slice none 0 0) ([] : (List (List Int)))] := hS78
      refine WL.storeBox [(Value.slice none 0 0), (Value.int .i64 (0 : Int)), (Value.slice none 0 0), (Value.slice none 0 0)] hS78 (k := 0) rfl rfl rfl (us := [(Value.slice none 0 0), (Value.int .i64 (0 : Int)), (Value.slice none 0 0), (Value.slice none 0 0)]) rfl sz_34 rfl rfl (all_rep (St.rep (t := (Ty.sl (Ty.i .i64))) hS78 7 rfl) (all_cons rfl (all_rep (St.rep (t := (Ty.sl (Ty.sl (Ty.sl (Ty.i .i64))))) hS78 8 rfl) (all_rep (St.rep (t := (Ty.sl (Ty.sl (Ty.i .i64)))) hS78 9 rfl) all_nil)))) rfl ?_
      intro wd74 hS75
      replace hS75 : St wd2 wd74 [bx b9 [(Value.slice none 0 0), (Value.int .i64 (0 : Int)), (Value.slice none 0 0), (Value.slice none 0 0)], (Ty.sl (Ty.i .i64)).at u33 x31.1, (Ty.sl (Ty.sl (Ty.sl (Ty.i .i64)))).at u35 x31.2.2, bx b40 [u33, (Value.int .i64 x31.2.1), u35], (Ty.sl (Ty.sl (Ty.i .i64))).at u53 x50.2.2.2, bx b58 [u33, (Value.int .i64 x50.2.1), u35, u53], (Ty.sl (Ty.i .i64)).at u66 x64, (Ty.sl (Ty.i .i64)).at (Value.slice none 0 0) ([] : (List Int)), (Ty.sl (Ty.sl (Ty.sl (Ty.i .i64)))).at (Value.slice none 0 0) ([] : (List (List (List Int)))), (Ty.sl (Ty.sl (Ty.i .i64))).at (Value.slice none 0 0) ([] : (List (List Int)))] := hS75
      refine WL.val (Value.int .i64 (5 : Int)) _ (op_assign rfl) rfl ?_
      refine WL.nil ?_
      show W _ _ _ _ _ _
      refine W.ret ?_
      obtain rfl := Option.some.inj h
      show FinP _ _ _ _ _ _ _
      exact FinP.ret _ (resCT rfl rfl st_34 (St.boxAt hS75 0 rfl) rfl rfl) ⟨(Value.slice none 0 0), (Value.slice none 0 0), (Value.slice none 0 0), rfl, (inR_i64.2 (show (-9223372036854775808 : Int) ≤ 0 ∧ (0 : Int) ≤ 9223372036854775807 from by decide)), (inR_i64.2 (show (-9223372036854775808 : Int) ≤ 5 ∧ (5 : Int) ≤ 9223372036854775807 from by decide)), (Ext.trans hE7 hS75.ext), (St.out (St.pick hS75 [7, 8, 9] rfl) (hE7))⟩
    · replace h := inegb h hc72
      refine W.skip ?_
      show W _ _ _ _ _ _
      refine W.seq (W.region ?_)
      refine WL.val (Value.agg #[u33, (Value.int .i64 x50.2.1), u35, u53]) _ (op_loadBox st_34 rfl (St.boxAt hS71 5 rfl) rfl rfl) rfl ?_
      refine WL.storeBox [u33, (Value.int .i64 x50.2.1), u35, u53] hS71 (k := 0) rfl rfl rfl (us := [u33, (Value.int .i64 x50.2.1), u35, u53]) rfl sz_34 rfl rfl (all_rep (St.rep (t := (Ty.sl (Ty.i .i64))) hS71 1 rfl) (all_cons rfl (all_rep (St.rep (t := (Ty.sl (Ty.sl (Ty.sl (Ty.i .i64))))) hS71 2 rfl) (all_rep (St.rep (t := (Ty.sl (Ty.sl (Ty.i .i64)))) hS71 4 rfl) all_nil)))) rfl ?_
      intro wd79 hS80
      replace hS80 : St wd2 wd79 [bx b9 [u33, (Value.int .i64 x50.2.1), u35, u53], (Ty.sl (Ty.i .i64)).at u33 x31.1, (Ty.sl (Ty.sl (Ty.sl (Ty.i .i64)))).at u35 x31.2.2, bx b40 [u33, (Value.int .i64 x31.2.1), u35], (Ty.sl (Ty.sl (Ty.i .i64))).at u53 x50.2.2.2, bx b58 [u33, (Value.int .i64 x50.2.1), u35, u53], (Ty.sl (Ty.i .i64)).at u66 x64] := hS80
      refine WL.val (Value.int .i64 (0 : Int)) _ (op_assign rfl) rfl ?_
      refine WL.nil ?_
      show W _ _ _ _ _ _
      refine W.ret ?_
      obtain rfl := Option.some.inj h
      show FinP _ _ _ _ _ _ _
      exact FinP.ret _ (resCT rfl rfl st_34 (St.boxAt hS80 0 rfl) rfl rfl) ⟨u33, u35, u53, rfl, hr52, (inR_i64.2 (show (-9223372036854775808 : Int) ≤ 0 ∧ (0 : Int) ≤ 9223372036854775807 from by decide)), (Ext.trans hE7 hS80.ext), (St.out (St.pick hS80 [1, 2, 4] rfl) (hE7))⟩

theorem c_laws_heldInt64SS {w : World} {a : (List (List Int))} {v_a : Value} {k1 : Int} (r_a : (Ty.sl (Ty.sl (Ty.i .i64))).rep w v_a a) (r_k1 : InR .i64 k1) {res : Int} (h : p_laws_heldInt64SS a k1  = some res) :
    Ret Try.prog 53 #[v_a, (Value.int .i64 k1)] w (fun v w' => v = Value.int .i64 res ∧ InR .i64 res ∧ Ext w w') := by
  unfold p_laws_heldInt64SS at h
  have hS0 : St w w [] := St.start w
  refine Ret.start (fn := Try.f53) Try.func53 rfl 21 rfl rfl ?_
  refine W.seq (W.region ?_)
  refine WL.val (Value.int .i64 (0 : Int)) _ (op_assign rfl) rfl ?_
  refine WL.nil ?_
  show W _ _ _ _ _ _
  refine W.seq (W.seq (W.region ?_))
  refine WL.val (Value.int .i64 (0 : Int)) _ (op_assign rfl) rfl ?_
  refine WL.nil ?_
  show W _ _ _ _ _ _
  obtain ⟨res1, hres2, h⟩ := bs h
  refine W.blockLoop (fun fq wq => ∃ s, res1 = Res.fin s ∧ fq 1 = Value.int .i64 s ∧ InR .i64 s ∧ St w wq []) ?_ ?_
  · refine W.forN (fun k (s : Int) fq wq => fq 0 = v_a ∧ fq 1 = Value.int .i64 s ∧ InR .i64 s ∧ fq 5 = Value.int .i64 (k : Int) ∧ InR .i64 (k : Int) ∧ St w wq []) hres2 ⟨rfl, rfl, r_k1, rfl, (inR_i64.2 (show (-9223372036854775808 : Int) ≤ 0 ∧ (0 : Int) ≤ 9223372036854775807 from by decide)), hS0⟩ ?_ ?_
    · intro k3 x4 ct5 f6 wd7 hk8 hb9 hI10 hbrk11 hret12
      replace hI10 : f6 0 = v_a ∧ f6 1 = Value.int .i64 x4 ∧ InR .i64 x4 ∧ f6 5 = Value.int .i64 (k3 : Int) ∧ InR .i64 (k3 : Int) ∧ St w wd7 [] := hI10
      replace hb9 : p_laws_heldInt64SS_L1 a k3 x4 = some ct5 := hb9
      unfold p_laws_heldInt64SS_L1 at hb9
      obtain ⟨hf13, hf14, hr15, hf16, hr17, hS18⟩ := hI10
      refine W.seq (W.seq (W.region ?_))
      refine WL.val (Value.int .i64 (k3 : Int)) _ (op_move hf16) rfl ?_
      refine WL.val v_a _ (op_move hf13) rfl ?_
      have hr19 := inR_len (Ty.lift _ hS18.ext r_a)
      refine WL.val (Value.int .i64 ((a).length : Int)) _ (op_lenL sl_26 (Ty.lift _ hS18.ext r_a) rfl) rfl ?_
      refine WL.val (Value.bool (decide ((k3 : Int) < ((a).length : Int)))) _ (op_lss rfl rfl) rfl ?_
      have hl20 : (k3 : Int) < ((a).length : Int) := by omega
      refine WL.nil ?_
      show W _ _ _ _ _ _
      refine W.condT (decide ((k3 : Int) < ((a).length : Int))) rfl (decide_eq_true hl20) ?_
      refine W.skip ?_
      show W _ _ _ _ _ _
      refine W.seq ?_
      refine W.block ?_
      refine W.seq (W.region ?_)
      refine WL.val v_a _ (op_move hf13) rfl ?_
      refine WL.val (Value.int .i64 (k3 : Int)) _ (op_move hf16) rfl ?_
      obtain ⟨x22, hx25, hb9⟩ := bs hb9
      obtain ⟨ha23, hb24, hx25⟩ := idx_some hx25
      refine WL.val (Value.pointer (some (elA v_a ((k3 : Int)).toNat))) _ (op_idx sl_26 (Ty.lift _ hS18.ext r_a) rfl rfl ha23 hb24) rfl ?_
      obtain ⟨u26, hc27, hr28⟩ := repSl.el r_a hx25
      refine WL.val u26 _ (op_load one_22 rfl (Ext.cell hS18.ext hc27)) rfl ?_
      refine WL.val (Value.int .i64 x4) _ (op_move hf14) rfl ?_
      obtain ⟨x29, hx30, hb9⟩ := bs hb9
      refine WL.call _ (op_call fn_15 (args2 rfl rfl)) (c_laws_heldInt64S (Ty.lift _ hS18.ext hr28) hr15 hx30) rfl ?_
      rintro _ wd32 ⟨rfl, hr31, he33⟩
      have hS35 := St.extend hS18 he33
      replace hS35 : St w wd32 [] := hS35
      refine WL.val (Value.int .i64 x29) _ (op_assign rfl) rfl ?_
      refine WL.nil ?_
      show W _ _ _ _ _ _
      refine W.seq (W.region ?_)
      refine WL.val (Value.int .i64 x29) _ (op_move rfl) rfl ?_
      refine WL.val (Value.bool (decide (x29 < (0 : Int)))) _ (op_lss rfl rfl) rfl ?_
      refine WL.nil ?_
      show W _ _ _ _ _ _
      refine W.cond (decide (x29 < (0 : Int))) rfl (fun hc36 => ?_) (fun hc36 => ?_)
      · replace hb9 := ip hb9 hc36
        refine W.seq (W.region ?_)
        refine WL.val (Value.int .i64 (-1 : Int)) _ (op_assign rfl) rfl ?_
        refine WL.nil ?_
        show W _ _ _ _ _ _
        refine W.ret ?_
        obtain rfl := Option.some.inj hb9
        obtain rfl := hret12 _ rfl
        replace h := onRes_ret h
        obtain rfl := Option.some.inj h
        show FinP _ _ _ _ _ _ _
        exact FinP.ret _ (res1 rfl rfl) ⟨rfl, (inR_i64.2 (show (-9223372036854775808 : Int) ≤ -1 ∧ (-1 : Int) ≤ 9223372036854775807 from by decide)), hS35.ext⟩
      · replace hb9 := inegb hb9 hc36
        refine W.skip ?_
        show W _ _ _ _ _ _
        refine W.region ?_
        refine WL.val (Value.int .i64 (k3 : Int)) _ (op_move hf16) rfl ?_
        refine WL.val (Value.int .i64 (w64 ((k3 : Int) + (1 : Int)))) _ (op_add rfl rfl) rfl ?_
        refine WL.val (Value.int .i64 (w64 ((k3 : Int) + (1 : Int)))) _ (op_assign rfl) rfl ?_
        refine WL.nil ?_
        obtain rfl := Option.some.inj hb9
        show ∃ s, _ = Ctl.next s ∧ _
        exact ⟨_, rfl, hf13, rfl, hr31, (ctr_next hl20 hr19), (ctr_rng hl20 hr19), hS35⟩
    · intro x44 f39 wd40 hs41 hI42
      replace hI42 : f39 0 = v_a ∧ f39 1 = Value.int .i64 x44 ∧ InR .i64 x44 ∧ f39 5 = Value.int .i64 (((a).length : Nat) : Int) ∧ InR .i64 (((a).length : Nat) : Int) ∧ St w wd40 [] := hI42
      obtain ⟨hf45, hf46, hr47, hf48, hr49, hS50⟩ := hI42
      refine W.seq (W.seq (W.region ?_))
      refine WL.val (Value.int .i64 (((a).length : Nat) : Int)) _ (op_move hf48) rfl ?_
      refine WL.val v_a _ (op_move hf45) rfl ?_
      have hr51 := inR_len (Ty.lift _ hS50.ext r_a)
      refine WL.val (Value.int .i64 ((a).length : Int)) _ (op_lenL sl_26 (Ty.lift _ hS50.ext r_a) rfl) rfl ?_
      refine WL.val (Value.bool (decide ((((a).length : Nat) : Int) < ((a).length : Int)))) _ (op_lss rfl rfl) rfl ?_
      have hl52 : ¬ (((a).length : Nat) : Int) < ((a).length : Int) := by omega
      refine WL.nil ?_
      show W _ _ _ _ _ _
      refine W.condF (decide ((((a).length : Nat) : Int) < ((a).length : Int))) rfl (decide_eq_false hl52) ?_
      refine W.exit ?_
      show _ = _ ∧ _
      exact ⟨rfl, _, hs41, hf46, hr47, hS50⟩
  · rintro f53 wd54 ⟨x57, rfl, hq55⟩
    replace h := onRes_fin h
    replace hq55 : f53 1 = Value.int .i64 x57 ∧ InR .i64 x57 ∧ St w wd54 [] := hq55
    obtain ⟨hf58, hr59, hS60⟩ := hq55
    show W _ _ _ _ _ _
    refine W.seq (W.region ?_)
    refine WL.val (Value.int .i64 x57) _ (op_move hf58) rfl ?_
    refine WL.val (Value.int .i64 x57) _ (op_assign rfl) rfl ?_
    refine WL.nil ?_
    show W _ _ _ _ _ _
    refine W.ret ?_
    obtain rfl := Option.some.inj h
    show FinP _ _ _ _ _ _ _
    exact FinP.ret _ (res1 rfl rfl) ⟨rfl, hr59, hS60.ext⟩

end Go.VG
