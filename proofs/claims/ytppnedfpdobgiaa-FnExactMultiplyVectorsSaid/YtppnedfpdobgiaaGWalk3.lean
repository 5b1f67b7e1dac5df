/- The walks, part 3: each Go function returns what its plain twin returns. No condition beyond what each names. -/
import Derived.Test.YtppnedfpdobgiaaGWalk2
set_option linter.all false
namespace Go.VG
open Go.Proofs
attribute [local irreducible] W WL Sep FinP

theorem c_spec_l03Times {w : World} {r_Table : (List (List (List Int)))} {v_r_Table : Value} {x : (List Int)} {v_x : Value} {y : (List Int)} {v_y : Value} (r_r_Table : (Ty.sl (Ty.sl (Ty.sl (Ty.i .i64)))).rep w v_r_Table r_Table) (r_x : (Ty.sl (Ty.i .i64)).rep w v_x x) (r_y : (Ty.sl (Ty.i .i64)).rep w v_y y) {res : (List Int)} (h : p_spec_l03Times r_Table x y  = some res) :
    Ret Try.prog 48 #[(Value.agg #[v_r_Table]), v_x, v_y] w (fun v w' => ∃ (u0 : Value), v = u0 ∧ Ext w w' ∧ Sep w.heap.size w' [(Ty.sl (Ty.i .i64)).at u0 res]) := by
  unfold p_spec_l03Times at h
  have hS0 : St w w [] := St.start w
  refine Ret.start (fn := Try.f48) Try.func48 rfl 69 rfl rfl ?_
  refine W.seq ?_
  refine W.region ?_
  refine WL.box hS0 rfl (cs := [v_r_Table]) rfl rfl ?_
  intro b1 wd2 hS3 he4 hx5
  replace hS3 : St w wd2 [bx b1 [v_r_Table]] := hS3
  have hx6 := St.boxAt hS3 0 rfl
  have hE7 : Ext w wd2 := hS3.ext
  have hS8 : St wd2 wd2 [] := St.start wd2
  refine WL.val (Value.slice none 0 0) _ (op_assign rfl) rfl ?_
  refine WL.nil ?_
  show W _ _ _ _ _ _
  refine W.seq ?_
  refine W.region ?_
  refine WL.val v_x _ (op_move rfl) rfl ?_
  have hr9 := inR_len (Ty.lift _ (Ext.trans hE7 hS8.ext) r_x)
  refine WL.val (Value.int .i64 ((x).length : Int)) _ (op_lenL sl_25 (Ty.lift _ (Ext.trans hE7 hS8.ext) r_x) rfl) rfl ?_
  obtain ⟨x10, hx11, h⟩ := bs h
  refine WL.make (t := (Ty.i .i64)) hS8 sl_25 (fun _ _ => ⟨rfl, (inR_i64.2 (show (-9223372036854775808 : Int) ≤ 0 ∧ (0 : Int) ≤ 9223372036854775807 from by decide))⟩) rfl rfl hx11 rfl rfl ?_
  intro u12 wd13 hS14 he15
  replace hS14 : St wd2 wd13 [(Ty.sl (Ty.i .i64)).at u12 x10] := hS14
  refine WL.val u12 _ (op_assign rfl) rfl ?_
  refine WL.nil ?_
  show W _ _ _ _ _ _
  refine W.seq ?_
  refine W.seq ?_
  refine W.region ?_
  refine WL.val (Value.int .i64 (0 : Int)) _ (op_assign rfl) rfl ?_
  refine WL.nil ?_
  show W _ _ _ _ _ _
  obtain ⟨res16, hres17, h⟩ := bs h
  refine W.blockLoop (fun fq wq => ∃ s, res16 = Res.fin s ∧ fq 7 = u12 ∧ St wd2 wq [(Ty.sl (Ty.i .i64)).at u12 s]) ?_ ?_
  · refine W.forN (fun k (s : (List Int)) fq wq => fq 1 = v_x ∧ fq 2 = v_y ∧ fq 3 = (Value.pointer (some ⟨b1, 0, none⟩)) ∧ fq 7 = u12 ∧ fq 8 = Value.int .i64 (k : Int) ∧ InR .i64 (k : Int) ∧ St wd2 wq [(Ty.sl (Ty.i .i64)).at u12 s]) hres17 ⟨rfl, rfl, rfl, rfl, rfl, (inR_i64.2 (show (-9223372036854775808 : Int) ≤ 0 ∧ (0 : Int) ≤ 9223372036854775807 from by decide)), hS14⟩ ?_ ?_
    · intro k18 x19 ct20 f21 wd22 hk23 hb24 hI25 hbrk26 hret27
      replace hI25 : f21 1 = v_x ∧ f21 2 = v_y ∧ f21 3 = (Value.pointer (some ⟨b1, 0, none⟩)) ∧ f21 7 = u12 ∧ f21 8 = Value.int .i64 (k18 : Int) ∧ InR .i64 (k18 : Int) ∧ St wd2 wd22 [(Ty.sl (Ty.i .i64)).at u12 x19] := hI25
      replace hb24 : p_spec_l03Times_L1 y x r_Table k18 x19 = some ct20 := hb24
      unfold p_spec_l03Times_L1 at hb24
      obtain ⟨hf28, hf29, hf30, hf31, hf32, hr33, hS34⟩ := hI25
      refine W.seq ?_
      refine W.seq ?_
      refine W.region ?_
      refine WL.val (Value.int .i64 (k18 : Int)) _ (op_move hf32) rfl ?_
      refine WL.val v_x _ (op_move hf28) rfl ?_
      have hr35 := inR_len (Ty.lift _ (Ext.trans hE7 hS34.ext) r_x)
      refine WL.val (Value.int .i64 ((x).length : Int)) _ (op_lenL sl_25 (Ty.lift _ (Ext.trans hE7 hS34.ext) r_x) rfl) rfl ?_
      refine WL.val (Value.bool (decide ((k18 : Int) < ((x).length : Int)))) _ (op_lss rfl rfl) rfl ?_
      have hl36 : (k18 : Int) < ((x).length : Int) := by omega
      refine WL.nil ?_
      show W _ _ _ _ _ _
      refine W.condT (decide ((k18 : Int) < ((x).length : Int))) rfl (decide_eq_true hl36) ?_
      refine W.skip ?_
      show W _ _ _ _ _ _
      refine W.seq ?_
      refine W.block ?_
      refine W.seq ?_
      refine W.region ?_
      refine WL.val (Value.int .i64 (0 : Int)) _ (op_assign rfl) rfl ?_
      refine WL.nil ?_
      show W _ _ _ _ _ _
      obtain ⟨res38, hres39, hb24⟩ := bs hb24
      refine W.blockLoop (fun fq wq => ∃ s, res38 = Res.fin s ∧ fq 1 = v_x ∧ fq 2 = v_y ∧ fq 3 = (Value.pointer (some ⟨b1, 0, none⟩)) ∧ fq 7 = u12 ∧ fq 8 = (Value.int .i64 (k18 : Int)) ∧ St wd2 wq [(Ty.sl (Ty.i .i64)).at u12 s.1]) ?_ ?_
      · refine W.whileC (fun (s : (List Int) × Int) fq wq => fq 1 = v_x ∧ fq 2 = v_y ∧ fq 3 = (Value.pointer (some ⟨b1, 0, none⟩)) ∧ fq 7 = u12 ∧ fq 8 = (Value.int .i64 (k18 : Int)) ∧ fq 9 = Value.int .i64 s.2 ∧ InR .i64 s.2 ∧ St wd2 wq [(Ty.sl (Ty.i .i64)).at u12 s.1]) hres39 ⟨hf28, hf29, hf30, hf31, hf32, rfl, (inR_i64.2 (show (-9223372036854775808 : Int) ≤ 0 ∧ (0 : Int) ≤ 9223372036854775807 from by decide)), hS34⟩ ?_
        intro s420 ct43 f44 wd45 hb47 hI48 hbrk49 hret50
        obtain ⟨x41, x42⟩ := s420
        replace hI48 : f44 1 = v_x ∧ f44 2 = v_y ∧ f44 3 = (Value.pointer (some ⟨b1, 0, none⟩)) ∧ f44 7 = u12 ∧ f44 8 = (Value.int .i64 (k18 : Int)) ∧ f44 9 = Value.int .i64 x42 ∧ InR .i64 x42 ∧ St wd2 wd45 [(Ty.sl (Ty.i .i64)).at u12 x41] := hI48
        replace hb47 : p_spec_l03Times_L2 y x k18 r_Table  x41 x42 = some ct43 := hb47
        unfold p_spec_l03Times_L2 at hb47
        obtain ⟨hf51, hf52, hf53, hf54, hf55, hf56, hr57, hS58⟩ := hI48
        refine W.seq ?_
        refine W.seq ?_
        refine W.region ?_
        refine WL.val (Value.int .i64 x42) _ (op_move hf56) rfl ?_
        refine WL.val v_y _ (op_move hf52) rfl ?_
        have hr59 := inR_len (Ty.lift _ (Ext.trans hE7 hS58.ext) r_y)
        refine WL.val (Value.int .i64 ((y).length : Int)) _ (op_lenL sl_25 (Ty.lift _ (Ext.trans hE7 hS58.ext) r_y) rfl) rfl ?_
        refine WL.val (Value.bool (decide (x42 < ((y).length : Int)))) _ (op_lss rfl rfl) rfl ?_
        refine WL.val (Value.bool (decide (x42 < ((y).length : Int)))) _ (op_move rfl) rfl ?_
        obtain ⟨x61, hj62, hb47⟩ := bs hb47
        refine WL.cut 6 (fun fq wq => fq 1 = v_x ∧ fq 2 = v_y ∧ fq 3 = (Value.pointer (some ⟨b1, 0, none⟩)) ∧ fq 7 = u12 ∧ fq 8 = (Value.int .i64 (k18 : Int)) ∧ fq 9 = (Value.int .i64 x42) ∧ fq 30 = Value.bool x61 ∧ St wd2 wq [(Ty.sl (Ty.i .i64)).at u12 x41]) ?_ ?_
        · rcases Bool.eq_false_or_eq_true (decide (x42 < ((y).length : Int))) with hc60 | hc60
          · replace hj62 := ip hj62 hc60
            refine WL.grun rfl (bool_of rfl hc60) ?_
            refine WL.val v_x _ (op_move hf51) rfl ?_
            refine WL.grun rfl (bool_of rfl hc60) ?_
            refine WL.val (Value.int .i64 (k18 : Int)) _ (op_move hf55) rfl ?_
            refine WL.grun rfl (bool_of rfl hc60) ?_
            obtain ⟨x66, hx69, hj62⟩ := bs hj62
            obtain ⟨ha67, hb68, hx69⟩ := idx_some hx69
            refine WL.val (Value.pointer (some (elA v_x ((k18 : Int)).toNat))) _ (op_idx sl_25 (Ty.lift _ (Ext.trans hE7 hS58.ext) r_x) rfl rfl ha67 hb68) rfl ?_
            refine WL.grun rfl (bool_of rfl hc60) ?_
            obtain ⟨u70, hc71, hr72⟩ := repSl.el r_x hx69
            obtain ⟨rfl, hr72⟩ := hr72
            refine WL.val (Value.int .i64 x66) _ (op_load one_2 rfl (Ext.cell (Ext.trans hE7 hS58.ext) hc71)) rfl ?_
            refine WL.grun rfl (bool_of rfl hc60) ?_
            refine WL.val (Value.bool (x66 != (0 : Int))) _ (op_neq rfl rfl) rfl ?_
            refine WL.val (Value.bool (x66 != (0 : Int))) _ (op_pick_t (evb_of rfl hc60) rfl) rfl ?_
            refine WL.nil ?_
            obtain rfl := Option.some.inj hj62
            exact ⟨rfl, hf51, hf52, hf53, hf54, hf55, hf56, rfl, hS58⟩
          · replace hj62 := inegb hj62 hc60
            refine WL.gskip rfl (bool_of rfl hc60) rfl ?_
            refine WL.gskip rfl (bool_of rfl hc60) rfl ?_
            refine WL.gskip rfl (bool_of rfl hc60) rfl ?_
            refine WL.gskip rfl (bool_of rfl hc60) rfl ?_
            refine WL.gskip rfl (bool_of rfl hc60) rfl ?_
            refine WL.val (Value.bool false) _ (op_pick_f (evb_of rfl hc60) rfl) rfl ?_
            refine WL.nil ?_
            obtain rfl := Option.some.inj hj62
            exact ⟨rfl, hf51, hf52, hf53, hf54, hf55, hf56, rfl, hS58⟩
        · intro f63 wd64 hq65
          obtain ⟨hf73, hf74, hf75, hf76, hf77, hf78, hf79, hS80⟩ := hq65
          refine WL.nil ?_
          show W _ _ _ _ _ _
          refine W.cond x61 hf79 (fun hc81 => ?_) (fun hc81 => ?_)
          · replace hb47 := ip hb47 hc81
            refine W.skip ?_
            show W _ _ _ _ _ _
            refine W.seq ?_
            refine W.block ?_
            refine W.seq ?_
            refine W.region ?_
            refine WL.val (Value.int .i64 (0 : Int)) _ (op_assign rfl) rfl ?_
            refine WL.nil ?_
            show W _ _ _ _ _ _
            obtain ⟨res83, hres84, hb47⟩ := bs hb47
            refine W.blockLoop (fun fq wq => ∃ s, res83 = Res.fin s ∧ fq 1 = v_x ∧ fq 2 = v_y ∧ fq 3 = (Value.pointer (some ⟨b1, 0, none⟩)) ∧ fq 7 = u12 ∧ fq 8 = (Value.int .i64 (k18 : Int)) ∧ fq 9 = (Value.int .i64 x42) ∧ (s).length = (x41).length ∧ St wd2 wq [(Ty.sl (Ty.i .i64)).at u12 s]) ?_ ?_
            · refine W.forN (fun k (s : (List Int)) fq wq => fq 1 = v_x ∧ fq 2 = v_y ∧ fq 3 = (Value.pointer (some ⟨b1, 0, none⟩)) ∧ fq 7 = u12 ∧ fq 8 = (Value.int .i64 (k18 : Int)) ∧ fq 9 = (Value.int .i64 x42) ∧ fq 10 = Value.int .i64 (k : Int) ∧ InR .i64 (k : Int) ∧ (s).length = (x41).length ∧ St wd2 wq [(Ty.sl (Ty.i .i64)).at u12 s]) hres84 ⟨hf73, hf74, hf75, hf76, hf77, hf78, rfl, (inR_i64.2 (show (-9223372036854775808 : Int) ≤ 0 ∧ (0 : Int) ≤ 9223372036854775807 from by decide)), rfl, hS80⟩ ?_ ?_
              · intro k85 x86 ct87 f88 wd89 hk90 hb91 hI92 hbrk93 hret94
                replace hI92 : f88 1 = v_x ∧ f88 2 = v_y ∧ f88 3 = (Value.pointer (some ⟨b1, 0, none⟩)) ∧ f88 7 = u12 ∧ f88 8 = (Value.int .i64 (k18 : Int)) ∧ f88 9 = (Value.int .i64 x42) ∧ f88 10 = Value.int .i64 (k85 : Int) ∧ InR .i64 (k85 : Int) ∧ (x86).length = (x41).length ∧ St wd2 wd89 [(Ty.sl (Ty.i .i64)).at u12 x86] := hI92
                replace hb91 : p_spec_l03Times_L3 x k18 y x42 r_Table k85 x86 = some ct87 := hb91
                unfold p_spec_l03Times_L3 at hb91
                obtain ⟨hf95, hf96, hf97, hf98, hf99, hf100, hf101, hr102, hL103, hS104⟩ := hI92
                refine W.seq ?_
                refine W.seq ?_
                refine W.region ?_
                refine WL.val (Value.int .i64 (k85 : Int)) _ (op_move hf101) rfl ?_
                refine WL.val u12 _ (op_move hf98) rfl ?_
                have hr105 := inR_len (St.rep (t := (Ty.sl (Ty.i .i64))) hS104 0 rfl)
                refine WL.val (Value.int .i64 ((x86).length : Int)) _ (op_lenL sl_25 (St.rep (t := (Ty.sl (Ty.i .i64))) hS104 0 rfl) rfl) rfl ?_
                refine WL.val (Value.bool (decide ((k85 : Int) < ((x86).length : Int)))) _ (op_lss rfl rfl) rfl ?_
                have hl106 : (k85 : Int) < ((x86).length : Int) := by omega
                refine WL.nil ?_
                show W _ _ _ _ _ _
                refine W.condT (decide ((k85 : Int) < ((x86).length : Int))) rfl (decide_eq_true hl106) ?_
                refine W.skip ?_
                show W _ _ _ _ _ _
                refine W.seq ?_
                refine W.block ?_
                obtain ⟨x145, hx148, hb91⟩ := bs hb91
                obtain ⟨ha146, hb147, hx148⟩ := idx_some hx148
                obtain ⟨u156, hc157, hr158⟩ := repSl.el (St.rep (t := (Ty.sl (Ty.i .i64))) hS104 0 rfl) hx148
                obtain ⟨rfl, hr158⟩ := hr158
                obtain ⟨x182, hx185, hb91⟩ := bs hb91
                obtain ⟨ha183, hb184, hx185⟩ := idx_some hx185
                obtain ⟨u193, hc194, hr195⟩ := repSl.el r_x hx185
                obtain ⟨rfl, hr195⟩ := hr195
                obtain ⟨x219, hx222, hb91⟩ := bs hb91
                obtain ⟨ha220, hb221, hx222⟩ := idx_some hx222
                obtain ⟨u230, hc231, hr232⟩ := repSl.el r_y hx222
                obtain ⟨rfl, hr232⟩ := hr232
                obtain ⟨x273, hx276, hb91⟩ := bs hb91
                obtain ⟨ha274, hb275, hx276⟩ := idx_some hx276
                obtain ⟨u284, hc285, hr286⟩ := repSl.el r_r_Table hx276
                obtain ⟨x303, hx306, hb91⟩ := bs hb91
                obtain ⟨ha304, hb305, hx306⟩ := idx_some hx306
                obtain ⟨u314, hc315, hr316⟩ := repSl.el hr286 hx306
                obtain ⟨x333, hx336, hb91⟩ := bs hb91
                obtain ⟨ha334, hb335, hx336⟩ := idx_some hx336
                obtain ⟨u344, hc345, hr346⟩ := repSl.el hr316 hx336
                obtain ⟨rfl, hr346⟩ := hr346
                refine W.draw mixo 28 [fun v _ => v = u12, fun v _ => v = (Value.int .i64 (k85 : Int)) ∧ InR .i64 (k85 : Int), fun v _ => v = u12, fun v _ => v = (Value.int .i64 (k85 : Int)) ∧ InR .i64 (k85 : Int), fun v _ => v = (Value.pointer (some (elA u12 ((k85 : Int)).toNat))), fun v _ => v = (Value.int .i64 x145) ∧ InR .i64 x145, fun v _ => v = v_x, fun v _ => v = (Value.int .i64 (k18 : Int)) ∧ InR .i64 (k18 : Int), fun v _ => v = (Value.pointer (some (elA v_x ((k18 : Int)).toNat))), fun v _ => v = (Value.int .i64 x182) ∧ InR .i64 x182, fun v _ => v = v_y, fun v _ => v = (Value.int .i64 x42) ∧ InR .i64 x42, fun v _ => v = (Value.pointer (some (elA v_y (x42).toNat))), fun v _ => v = (Value.int .i64 x219) ∧ InR .i64 x219, fun v _ => v = (Value.int .i64 (w64 (x182 * x219))) ∧ InR .i64 (w64 (x182 * x219)), fun v _ => v = (Value.pointer (some ⟨b1, 0, none⟩)), fun v _ => v = v_r_Table, fun v _ => v = (Value.int .i64 (k18 : Int)) ∧ InR .i64 (k18 : Int), fun v _ => v = (Value.pointer (some (elA v_r_Table ((k18 : Int)).toNat))), fun v _ => v = u284, fun v _ => v = (Value.int .i64 x42) ∧ InR .i64 x42, fun v _ => v = (Value.pointer (some (elA u284 (x42).toNat))), fun v _ => v = u314, fun v _ => v = (Value.int .i64 (k85 : Int)) ∧ InR .i64 (k85 : Int), fun v _ => v = (Value.pointer (some (elA u314 ((k85 : Int)).toNat))), fun v _ => v = (Value.int .i64 x333) ∧ InR .i64 x333, fun v _ => v = (Value.int .i64 (w64 ((w64 (x182 * x219)) * x333))) ∧ InR .i64 (w64 ((w64 (x182 * x219)) * x333)), fun v _ => v = (Value.int .i64 (w64 (x145 + (w64 ((w64 (x182 * x219)) * x333))))) ∧ InR .i64 (w64 (x145 + (w64 ((w64 (x182 * x219)) * x333))))] (by kernel_rfl) (by kernel_rfl) (stabL ⟨(fun _ _ _ _ h => h), (fun _ _ _ _ h => h), (fun _ _ _ _ h => h), (fun _ _ _ _ h => h), (fun _ _ _ _ h => h), (fun _ _ _ _ h => h), (fun _ _ _ _ h => h), (fun _ _ _ _ h => h), (fun _ _ _ _ h => h), (fun _ _ _ _ h => h), (fun _ _ _ _ h => h), (fun _ _ _ _ h => h), (fun _ _ _ _ h => h), (fun _ _ _ _ h => h), (fun _ _ _ _ h => h), (fun _ _ _ _ h => h), (fun _ _ _ _ h => h), (fun _ _ _ _ h => h), (fun _ _ _ _ h => h), (fun _ _ _ _ h => h), (fun _ _ _ _ h => h), (fun _ _ _ _ h => h), (fun _ _ _ _ h => h), (fun _ _ _ _ h => h), (fun _ _ _ _ h => h), (fun _ _ _ _ h => h), (fun _ _ _ _ h => h), (fun _ _ _ _ h => h), trivial⟩) ⟨?_, ?_, ?_, ?_, ?_, ?_, ?_, ?_, ?_, ?_, ?_, ?_, ?_, ?_, ?_, ?_, ?_, ?_, ?_, ?_, ?_, ?_, ?_, ?_, ?_, ?_, ?_, ?_, trivial⟩ ?_
                · intro f108 wd109 he110 hout111 hphi112
                  have hS113 : St wd2 wd109 [(Ty.sl (Ty.i .i64)).at u12 x86] := St.extend hS104 he110
                  have e114 : f108 7 = u12 := (hout111 7 rfl).trans hf98
                  exact OpY.val u12 wd109 rfl (op_move e114) (Ext.refl _) rfl
                · intro f115 wd116 he117 hout118 hphi119
                  have hS120 : St wd2 wd116 [(Ty.sl (Ty.i .i64)).at u12 x86] := St.extend hS104 he117
                  have e121 : f115 10 = (Value.int .i64 (k85 : Int)) := (hout118 10 rfl).trans hf101
                  exact OpY.val (Value.int .i64 (k85 : Int)) wd116 rfl (op_move e121) (Ext.refl _) ⟨rfl, hr102⟩
                · intro f122 wd123 he124 hout125 hphi126
                  have hS127 : St wd2 wd123 [(Ty.sl (Ty.i .i64)).at u12 x86] := St.extend hS104 he124
                  have e128 : f122 7 = u12 := (hout125 7 rfl).trans hf98
                  exact OpY.val u12 wd123 rfl (op_move e128) (Ext.refl _) rfl
                · intro f129 wd130 he131 hout132 hphi133
                  have hS134 : St wd2 wd130 [(Ty.sl (Ty.i .i64)).at u12 x86] := St.extend hS104 he131
                  have e135 : f129 10 = (Value.int .i64 (k85 : Int)) := (hout132 10 rfl).trans hf101
                  exact OpY.val (Value.int .i64 (k85 : Int)) wd130 rfl (op_move e135) (Ext.refl _) ⟨rfl, hr102⟩
                · intro f136 wd137 he138 hout139 hphi140
                  have hS141 : St wd2 wd137 [(Ty.sl (Ty.i .i64)).at u12 x86] := St.extend hS104 he138
                  have e142 : f136 41 = u12 := hphi140 2 41 _ rfl rfl rfl
                  obtain ⟨e143, hr144⟩ : f136 42 = (Value.int .i64 (k85 : Int)) ∧ InR .i64 (k85 : Int) := hphi140 3 42 _ rfl rfl rfl
                  exact OpY.val (Value.pointer (some (elA u12 ((k85 : Int)).toNat))) wd137 rfl (op_idx sl_25 (St.rep (t := (Ty.sl (Ty.i .i64))) hS141 0 rfl) e142 e143 ha146 hb147) (Ext.refl _) rfl
                · intro f149 wd150 he151 hout152 hphi153
                  have hS154 : St wd2 wd150 [(Ty.sl (Ty.i .i64)).at u12 x86] := St.extend hS104 he151
                  have e155 : f149 43 = (Value.pointer (some (elA u12 ((k85 : Int)).toNat))) := hphi153 4 43 _ rfl rfl rfl
                  exact OpY.val (Value.int .i64 x145) wd150 rfl (op_load one_2 e155 (Ext.cell he151 hc157)) (Ext.refl _) ⟨rfl, hr158⟩
                · intro f159 wd160 he161 hout162 hphi163
                  have hS164 : St wd2 wd160 [(Ty.sl (Ty.i .i64)).at u12 x86] := St.extend hS104 he161
                  have e165 : f159 1 = v_x := (hout162 1 rfl).trans hf95
                  exact OpY.val v_x wd160 rfl (op_move e165) (Ext.refl _) rfl
                · intro f166 wd167 he168 hout169 hphi170
                  have hS171 : St wd2 wd167 [(Ty.sl (Ty.i .i64)).at u12 x86] := St.extend hS104 he168
                  have e172 : f166 8 = (Value.int .i64 (k18 : Int)) := (hout169 8 rfl).trans hf99
                  exact OpY.val (Value.int .i64 (k18 : Int)) wd167 rfl (op_move e172) (Ext.refl _) ⟨rfl, hr33⟩
                · intro f173 wd174 he175 hout176 hphi177
                  have hS178 : St wd2 wd174 [(Ty.sl (Ty.i .i64)).at u12 x86] := St.extend hS104 he175
                  have e179 : f173 45 = v_x := hphi177 6 45 _ rfl rfl rfl
                  obtain ⟨e180, hr181⟩ : f173 46 = (Value.int .i64 (k18 : Int)) ∧ InR .i64 (k18 : Int) := hphi177 7 46 _ rfl rfl rfl
                  exact OpY.val (Value.pointer (some (elA v_x ((k18 : Int)).toNat))) wd174 rfl (op_idx sl_25 (Ty.lift _ (Ext.trans hE7 hS178.ext) r_x) e179 e180 ha183 hb184) (Ext.refl _) rfl
                · intro f186 wd187 he188 hout189 hphi190
                  have hS191 : St wd2 wd187 [(Ty.sl (Ty.i .i64)).at u12 x86] := St.extend hS104 he188
                  have e192 : f186 47 = (Value.pointer (some (elA v_x ((k18 : Int)).toNat))) := hphi190 8 47 _ rfl rfl rfl
                  exact OpY.val (Value.int .i64 x182) wd187 rfl (op_load one_2 e192 (Ext.cell (Ext.trans hE7 hS191.ext) hc194)) (Ext.refl _) ⟨rfl, hr195⟩
                · intro f196 wd197 he198 hout199 hphi200
                  have hS201 : St wd2 wd197 [(Ty.sl (Ty.i .i64)).at u12 x86] := St.extend hS104 he198
                  have e202 : f196 2 = v_y := (hout199 2 rfl).trans hf96
                  exact OpY.val v_y wd197 rfl (op_move e202) (Ext.refl _) rfl
                · intro f203 wd204 he205 hout206 hphi207
                  have hS208 : St wd2 wd204 [(Ty.sl (Ty.i .i64)).at u12 x86] := St.extend hS104 he205
                  have e209 : f203 9 = (Value.int .i64 x42) := (hout206 9 rfl).trans hf100
                  exact OpY.val (Value.int .i64 x42) wd204 rfl (op_move e209) (Ext.refl _) ⟨rfl, hr57⟩
                · intro f210 wd211 he212 hout213 hphi214
                  have hS215 : St wd2 wd211 [(Ty.sl (Ty.i .i64)).at u12 x86] := St.extend hS104 he212
                  have e216 : f210 49 = v_y := hphi214 10 49 _ rfl rfl rfl
                  obtain ⟨e217, hr218⟩ : f210 50 = (Value.int .i64 x42) ∧ InR .i64 x42 := hphi214 11 50 _ rfl rfl rfl
                  exact OpY.val (Value.pointer (some (elA v_y (x42).toNat))) wd211 rfl (op_idx sl_25 (Ty.lift _ (Ext.trans hE7 hS215.ext) r_y) e216 e217 ha220 hb221) (Ext.refl _) rfl
                · intro f223 wd224 he225 hout226 hphi227
                  have hS228 : St wd2 wd224 [(Ty.sl (Ty.i .i64)).at u12 x86] := St.extend hS104 he225
                  have e229 : f223 51 = (Value.pointer (some (elA v_y (x42).toNat))) := hphi227 12 51 _ rfl rfl rfl
                  exact OpY.val (Value.int .i64 x219) wd224 rfl (op_load one_2 e229 (Ext.cell (Ext.trans hE7 hS228.ext) hc231)) (Ext.refl _) ⟨rfl, hr232⟩
                · intro f233 wd234 he235 hout236 hphi237
                  have hS238 : St wd2 wd234 [(Ty.sl (Ty.i .i64)).at u12 x86] := St.extend hS104 he235
                  obtain ⟨e239, hr240⟩ : f233 48 = (Value.int .i64 x182) ∧ InR .i64 x182 := hphi237 9 48 _ rfl rfl rfl
                  obtain ⟨e241, hr242⟩ : f233 52 = (Value.int .i64 x219) ∧ InR .i64 x219 := hphi237 13 52 _ rfl rfl rfl
                  exact OpY.val (Value.int .i64 (w64 (x182 * x219))) wd234 rfl (op_mul e239 e241) (Ext.refl _) ⟨rfl, (inR_wrap _ _)⟩
                · intro f243 wd244 he245 hout246 hphi247
                  have hS248 : St wd2 wd244 [(Ty.sl (Ty.i .i64)).at u12 x86] := St.extend hS104 he245
                  have e249 : f243 3 = (Value.pointer (some ⟨b1, 0, none⟩)) := (hout246 3 rfl).trans hf97
                  exact OpY.val (Value.pointer (some ⟨b1, 0, none⟩)) wd244 rfl (op_fieldAddr fd_29_0 e249) (Ext.refl _) rfl
                · intro f250 wd251 he252 hout253 hphi254
                  have hS255 : St wd2 wd251 [(Ty.sl (Ty.i .i64)).at u12 x86] := St.extend hS104 he252
                  have e256 : f250 54 = (Value.pointer (some ⟨b1, 0, none⟩)) := hphi254 15 54 _ rfl rfl rfl
                  exact OpY.val v_r_Table wd251 rfl (op_load one_22 e256 (BoxAt.cell (BoxAt.lift hS255.ext hx6) rfl)) (Ext.refl _) rfl
                · intro f257 wd258 he259 hout260 hphi261
                  have hS262 : St wd2 wd258 [(Ty.sl (Ty.i .i64)).at u12 x86] := St.extend hS104 he259
                  have e263 : f257 8 = (Value.int .i64 (k18 : Int)) := (hout260 8 rfl).trans hf99
                  exact OpY.val (Value.int .i64 (k18 : Int)) wd258 rfl (op_move e263) (Ext.refl _) ⟨rfl, hr33⟩
                · intro f264 wd265 he266 hout267 hphi268
                  have hS269 : St wd2 wd265 [(Ty.sl (Ty.i .i64)).at u12 x86] := St.extend hS104 he266
                  have e270 : f264 55 = v_r_Table := hphi268 16 55 _ rfl rfl rfl
                  obtain ⟨e271, hr272⟩ : f264 56 = (Value.int .i64 (k18 : Int)) ∧ InR .i64 (k18 : Int) := hphi268 17 56 _ rfl rfl rfl
                  exact OpY.val (Value.pointer (some (elA v_r_Table ((k18 : Int)).toNat))) wd265 rfl (op_idx sl_22 (Ty.lift _ (Ext.trans hE7 hS269.ext) r_r_Table) e270 e271 ha274 hb275) (Ext.refl _) rfl
                · intro f277 wd278 he279 hout280 hphi281
                  have hS282 : St wd2 wd278 [(Ty.sl (Ty.i .i64)).at u12 x86] := St.extend hS104 he279
                  have e283 : f277 57 = (Value.pointer (some (elA v_r_Table ((k18 : Int)).toNat))) := hphi281 18 57 _ rfl rfl rfl
                  exact OpY.val u284 wd278 rfl (op_load one_61 e283 (Ext.cell (Ext.trans hE7 hS282.ext) hc285)) (Ext.refl _) rfl
                · intro f287 wd288 he289 hout290 hphi291
                  have hS292 : St wd2 wd288 [(Ty.sl (Ty.i .i64)).at u12 x86] := St.extend hS104 he289
                  have e293 : f287 9 = (Value.int .i64 x42) := (hout290 9 rfl).trans hf100
                  exact OpY.val (Value.int .i64 x42) wd288 rfl (op_move e293) (Ext.refl _) ⟨rfl, hr57⟩
                · intro f294 wd295 he296 hout297 hphi298
                  have hS299 : St wd2 wd295 [(Ty.sl (Ty.i .i64)).at u12 x86] := St.extend hS104 he296
                  have e300 : f294 58 = u284 := hphi298 19 58 _ rfl rfl rfl
                  obtain ⟨e301, hr302⟩ : f294 59 = (Value.int .i64 x42) ∧ InR .i64 x42 := hphi298 20 59 _ rfl rfl rfl
                  exact OpY.val (Value.pointer (some (elA u284 (x42).toNat))) wd295 rfl (op_idx sl_61 (Ty.lift _ (Ext.trans hE7 hS299.ext) hr286) e300 e301 ha304 hb305) (Ext.refl _) rfl
                · intro f307 wd308 he309 hout310 hphi311
                  have hS312 : St wd2 wd308 [(Ty.sl (Ty.i .i64)).at u12 x86] := St.extend hS104 he309
                  have e313 : f307 60 = (Value.pointer (some (elA u284 (x42).toNat))) := hphi311 21 60 _ rfl rfl rfl
                  exact OpY.val u314 wd308 rfl (op_load one_25 e313 (Ext.cell (Ext.trans hE7 hS312.ext) hc315)) (Ext.refl _) rfl
                · intro f317 wd318 he319 hout320 hphi321
                  have hS322 : St wd2 wd318 [(Ty.sl (Ty.i .i64)).at u12 x86] := St.extend hS104 he319
                  have e323 : f317 10 = (Value.int .i64 (k85 : Int)) := (hout320 10 rfl).trans hf101
                  exact OpY.val (Value.int .i64 (k85 : Int)) wd318 rfl (op_move e323) (Ext.refl _) ⟨rfl, hr102⟩
                · intro f324 wd325 he326 hout327 hphi328
                  have hS329 : St wd2 wd325 [(Ty.sl (Ty.i .i64)).at u12 x86] := St.extend hS104 he326
                  have e330 : f324 61 = u314 := hphi328 22 61 _ rfl rfl rfl
                  obtain ⟨e331, hr332⟩ : f324 62 = (Value.int .i64 (k85 : Int)) ∧ InR .i64 (k85 : Int) := hphi328 23 62 _ rfl rfl rfl
                  exact OpY.val (Value.pointer (some (elA u314 ((k85 : Int)).toNat))) wd325 rfl (op_idx sl_25 (Ty.lift _ (Ext.trans hE7 hS329.ext) hr316) e330 e331 ha334 hb335) (Ext.refl _) rfl
                · intro f337 wd338 he339 hout340 hphi341
                  have hS342 : St wd2 wd338 [(Ty.sl (Ty.i .i64)).at u12 x86] := St.extend hS104 he339
                  have e343 : f337 63 = (Value.pointer (some (elA u314 ((k85 : Int)).toNat))) := hphi341 24 63 _ rfl rfl rfl
                  exact OpY.val (Value.int .i64 x333) wd338 rfl (op_load one_2 e343 (Ext.cell (Ext.trans hE7 hS342.ext) hc345)) (Ext.refl _) ⟨rfl, hr346⟩
                · intro f347 wd348 he349 hout350 hphi351
                  have hS352 : St wd2 wd348 [(Ty.sl (Ty.i .i64)).at u12 x86] := St.extend hS104 he349
                  obtain ⟨e353, hr354⟩ : f347 53 = (Value.int .i64 (w64 (x182 * x219))) ∧ InR .i64 (w64 (x182 * x219)) := hphi351 14 53 _ rfl rfl rfl
                  obtain ⟨e355, hr356⟩ : f347 64 = (Value.int .i64 x333) ∧ InR .i64 x333 := hphi351 25 64 _ rfl rfl rfl
                  exact OpY.val (Value.int .i64 (w64 ((w64 (x182 * x219)) * x333))) wd348 rfl (op_mul e353 e355) (Ext.refl _) ⟨rfl, (inR_wrap _ _)⟩
                · intro f357 wd358 he359 hout360 hphi361
                  have hS362 : St wd2 wd358 [(Ty.sl (Ty.i .i64)).at u12 x86] := St.extend hS104 he359
                  obtain ⟨e363, hr364⟩ : f357 44 = (Value.int .i64 x145) ∧ InR .i64 x145 := hphi361 5 44 _ rfl rfl rfl
                  obtain ⟨e365, hr366⟩ : f357 65 = (Value.int .i64 (w64 ((w64 (x182 * x219)) * x333))) ∧ InR .i64 (w64 ((w64 (x182 * x219)) * x333)) := hphi361 26 65 _ rfl rfl rfl
                  exact OpY.val (Value.int .i64 (w64 (x145 + (w64 ((w64 (x182 * x219)) * x333))))) wd358 rfl (op_add e363 e365) (Ext.refl _) ⟨rfl, (inR_wrap _ _)⟩
                · intro f367 wd368 he369 hout370 hphi371
                  show WL _ _ _ _ _ _ _
                  have hS372 : St wd2 wd368 [(Ty.sl (Ty.i .i64)).at u12 x86] := St.extend hS104 he369
                  have e373 : f367 39 = u12 := hphi371 0 39 _ (by decide) rfl rfl
                  obtain ⟨e374, hr375⟩ : f367 40 = (Value.int .i64 (k85 : Int)) ∧ InR .i64 (k85 : Int) := hphi371 1 40 _ (by decide) rfl rfl
                  obtain ⟨e376, hr377⟩ : f367 66 = (Value.int .i64 (w64 (x145 + (w64 ((w64 (x182 * x219)) * x333))))) ∧ InR .i64 (w64 (x145 + (w64 ((w64 (x182 * x219)) * x333)))) := hphi371 27 66 _ (by decide) rfl rfl
                  have e378 : f367 1 = v_x := (hout370 1 rfl).trans hf95
                  have e379 : f367 2 = v_y := (hout370 2 rfl).trans hf96
                  have e380 : f367 3 = (Value.pointer (some ⟨b1, 0, none⟩)) := (hout370 3 rfl).trans hf97
                  have e381 : f367 7 = u12 := (hout370 7 rfl).trans hf98
                  have e382 : f367 8 = (Value.int .i64 (k18 : Int)) := (hout370 8 rfl).trans hf99
                  have e383 : f367 9 = (Value.int .i64 x42) := (hout370 9 rfl).trans hf100
                  have e384 : f367 10 = (Value.int .i64 (k85 : Int)) := (hout370 10 rfl).trans hf101
                  refine WL.val (Value.pointer (some (elA u12 ((k85 : Int)).toNat))) _ (op_idx sl_25 (St.rep (t := (Ty.sl (Ty.i .i64))) hS372 0 rfl) e373 e374 ha146 hb147) rfl ?_
                  refine WL.storeEl (flat_i .i64) hS372 (k := 0) rfl sz_2 rfl e376 (lt_of_idx ha146 hb147) ⟨rfl, hr377⟩ ?_
                  intro wd385 hS386
                  replace hS386 : St wd2 wd385 [(Ty.sl (Ty.i .i64)).at u12 ((x86).set ((k85 : Int)).toNat (w64 (x145 + (w64 ((w64 (x182 * x219)) * x333)))))] := hS386
                  refine WL.nil ?_
                  show W _ _ _ _ _ _
                  refine W.region ?_
                  refine WL.val (Value.int .i64 (k85 : Int)) _ (op_move e384) rfl ?_
                  refine WL.val (Value.int .i64 (w64 ((k85 : Int) + (1 : Int)))) _ (op_add rfl rfl) rfl ?_
                  refine WL.val (Value.int .i64 (w64 ((k85 : Int) + (1 : Int)))) _ (op_assign rfl) rfl ?_
                  refine WL.nil ?_
                  obtain rfl := Option.some.inj hb91
                  show ∃ s, _ = Ctl.next s ∧ _
                  exact ⟨_, rfl, e378, e379, e380, e381, e382, e383, (ctr_next hl106 hr105), (ctr_rng hl106 hr105), (by first | exact hL103 | (simp only [List.length_set]; exact hL103)), hS386⟩
              · intro x393 f388 wd389 hs390 hI391
                replace hI391 : f388 1 = v_x ∧ f388 2 = v_y ∧ f388 3 = (Value.pointer (some ⟨b1, 0, none⟩)) ∧ f388 7 = u12 ∧ f388 8 = (Value.int .i64 (k18 : Int)) ∧ f388 9 = (Value.int .i64 x42) ∧ f388 10 = Value.int .i64 (((x41).length : Nat) : Int) ∧ InR .i64 (((x41).length : Nat) : Int) ∧ (x393).length = (x41).length ∧ St wd2 wd389 [(Ty.sl (Ty.i .i64)).at u12 x393] := hI391
                obtain ⟨hf394, hf395, hf396, hf397, hf398, hf399, hf400, hr401, hL402, hS403⟩ := hI391
                refine W.seq ?_
                refine W.seq ?_
                refine W.region ?_
                refine WL.val (Value.int .i64 (((x41).length : Nat) : Int)) _ (op_move hf400) rfl ?_
                refine WL.val u12 _ (op_move hf397) rfl ?_
                have hr404 := inR_len (St.rep (t := (Ty.sl (Ty.i .i64))) hS403 0 rfl)
                refine WL.val (Value.int .i64 ((x393).length : Int)) _ (op_lenL sl_25 (St.rep (t := (Ty.sl (Ty.i .i64))) hS403 0 rfl) rfl) rfl ?_
                refine WL.val (Value.bool (decide ((((x41).length : Nat) : Int) < ((x393).length : Int)))) _ (op_lss rfl rfl) rfl ?_
                have hl405 : ¬ (((x41).length : Nat) : Int) < ((x393).length : Int) := by omega
                refine WL.nil ?_
                show W _ _ _ _ _ _
                refine W.condF (decide ((((x41).length : Nat) : Int) < ((x393).length : Int))) rfl (decide_eq_false hl405) ?_
                refine W.exit ?_
                show _ = _ ∧ _
                exact ⟨rfl, _, hs390, hf394, hf395, hf396, hf397, hf398, hf399, (by first | exact hL402 | (simp only [List.length_set]; exact hL402)), hS403⟩
            · rintro f406 wd407 ⟨x410, rfl, hq408⟩
              replace hb47 := onRes_fin hb47
              replace hq408 : f406 1 = v_x ∧ f406 2 = v_y ∧ f406 3 = (Value.pointer (some ⟨b1, 0, none⟩)) ∧ f406 7 = u12 ∧ f406 8 = (Value.int .i64 (k18 : Int)) ∧ f406 9 = (Value.int .i64 x42) ∧ (x410).length = (x41).length ∧ St wd2 wd407 [(Ty.sl (Ty.i .i64)).at u12 x410] := hq408
              obtain ⟨hf411, hf412, hf413, hf414, hf415, hf416, hL417, hS418⟩ := hq408
              show W _ _ _ _ _ _
              refine W.region ?_
              refine WL.val (Value.int .i64 x42) _ (op_move hf416) rfl ?_
              refine WL.val (Value.int .i64 (w64 (x42 + (1 : Int)))) _ (op_add rfl rfl) rfl ?_
              refine WL.val (Value.int .i64 (w64 (x42 + (1 : Int)))) _ (op_assign rfl) rfl ?_
              refine WL.nil ?_
              obtain rfl := Option.some.inj hb47
              show ∃ s, _ = Ctl.next s ∧ _
              exact ⟨_, rfl, hf411, hf412, hf413, hf414, hf415, rfl, (inR_wrap _ _), hS418⟩
          · replace hb47 := inegb hb47 hc81
            refine W.exit ?_
            obtain rfl := Option.some.inj hb47
            show _ = _ ∧ _
            exact ⟨rfl, _, hbrk49 _ rfl, hf73, hf74, hf75, hf76, hf77, hS80⟩
      · rintro f421 wd422 ⟨s424, rfl, hq423⟩
        replace hb24 := onRes_fin hb24
        obtain ⟨x425, x426⟩ := s424
        replace hq423 : f421 1 = v_x ∧ f421 2 = v_y ∧ f421 3 = (Value.pointer (some ⟨b1, 0, none⟩)) ∧ f421 7 = u12 ∧ f421 8 = (Value.int .i64 (k18 : Int)) ∧ St wd2 wd422 [(Ty.sl (Ty.i .i64)).at u12 x425] := hq423
        replace hb24 : (_ : Option _) = _ := hb24
        dsimp only at hb24
        obtain ⟨hf427, hf428, hf429, hf430, hf431, hS432⟩ := hq423
        show W _ _ _ _ _ _
        refine W.region ?_
        refine WL.val (Value.int .i64 (k18 : Int)) _ (op_move hf431) rfl ?_
        refine WL.val (Value.int .i64 (w64 ((k18 : Int) + (1 : Int)))) _ (op_add rfl rfl) rfl ?_
        refine WL.val (Value.int .i64 (w64 ((k18 : Int) + (1 : Int)))) _ (op_assign rfl) rfl ?_
        refine WL.nil ?_
        obtain rfl := Option.some.inj hb24
        show ∃ s, _ = Ctl.next s ∧ _
        exact ⟨_, rfl, hf427, hf428, hf429, hf430, (ctr_next hl36 hr35), (ctr_rng hl36 hr35), hS432⟩
    · intro x440 f435 wd436 hs437 hI438
      replace hI438 : f435 1 = v_x ∧ f435 2 = v_y ∧ f435 3 = (Value.pointer (some ⟨b1, 0, none⟩)) ∧ f435 7 = u12 ∧ f435 8 = Value.int .i64 (((x).length : Nat) : Int) ∧ InR .i64 (((x).length : Nat) : Int) ∧ St wd2 wd436 [(Ty.sl (Ty.i .i64)).at u12 x440] := hI438
      obtain ⟨hf441, hf442, hf443, hf444, hf445, hr446, hS447⟩ := hI438
      refine W.seq ?_
      refine W.seq ?_
      refine W.region ?_
      refine WL.val (Value.int .i64 (((x).length : Nat) : Int)) _ (op_move hf445) rfl ?_
      refine WL.val v_x _ (op_move hf441) rfl ?_
      have hr448 := inR_len (Ty.lift _ (Ext.trans hE7 hS447.ext) r_x)
      refine WL.val (Value.int .i64 ((x).length : Int)) _ (op_lenL sl_25 (Ty.lift _ (Ext.trans hE7 hS447.ext) r_x) rfl) rfl ?_
      refine WL.val (Value.bool (decide ((((x).length : Nat) : Int) < ((x).length : Int)))) _ (op_lss rfl rfl) rfl ?_
      have hl449 : ¬ (((x).length : Nat) : Int) < ((x).length : Int) := by omega
      refine WL.nil ?_
      show W _ _ _ _ _ _
      refine W.condF (decide ((((x).length : Nat) : Int) < ((x).length : Int))) rfl (decide_eq_false hl449) ?_
      refine W.exit ?_
      show _ = _ ∧ _
      exact ⟨rfl, _, hs437, hf444, hS447⟩
  · rintro f450 wd451 ⟨x454, rfl, hq452⟩
    replace h := onRes_fin h
    replace hq452 : f450 7 = u12 ∧ St wd2 wd451 [(Ty.sl (Ty.i .i64)).at u12 x454] := hq452
    obtain ⟨hf455, hS456⟩ := hq452
    show W _ _ _ _ _ _
    refine W.seq ?_
    refine W.region ?_
    refine WL.val u12 _ (op_move hf455) rfl ?_
    refine WL.val u12 _ (op_assign rfl) rfl ?_
    refine WL.nil ?_
    show W _ _ _ _ _ _
    refine W.ret ?_
    obtain rfl := Option.some.inj h
    show FinP _ _ _ _ _ _ _
    exact FinP.ret _ (res1 rfl rfl) ⟨u12, rfl, (Ext.trans hE7 hS456.ext), (St.out (St.pick hS456 [0] rfl) (hE7))⟩

theorem c_spec_MultiplyVectors {w : World} {r_Table : (List (List (List Int)))} {v_r_Table : Value} {x : (List Int)} {v_x : Value} {y : (List Int)} {v_y : Value} (r_r_Table : (Ty.sl (Ty.sl (Ty.sl (Ty.i .i64)))).rep w v_r_Table r_Table) (r_x : (Ty.sl (Ty.i .i64)).rep w v_x x) (r_y : (Ty.sl (Ty.i .i64)).rep w v_y y) {res : (List Int) × Int} (h : p_spec_MultiplyVectors r_Table x y  = some res) :
    Ret Try.prog 24 #[(Value.agg #[v_r_Table]), v_x, v_y] w (fun v w' => ∃ (u0 : Value), v = (Value.tuple #[u0, Value.int .i64 res.2]) ∧ InR .i64 res.2 ∧ Ext w w' ∧ Sep w.heap.size w' [(Ty.sl (Ty.i .i64)).at u0 res.1]) := by
  unfold p_spec_MultiplyVectors at h
  have hS0 : St w w [] := St.start w
  refine Ret.start (fn := Try.f24) Try.func24 rfl 27 rfl rfl ?_
  refine W.seq ?_
  refine W.region ?_
  refine WL.box hS0 rfl (cs := [v_r_Table]) rfl rfl ?_
  intro b1 wd2 hS3 he4 hx5
  replace hS3 : St w wd2 [bx b1 [v_r_Table]] := hS3
  have hx6 := St.boxAt hS3 0 rfl
  have hE7 : Ext w wd2 := hS3.ext
  have hS8 : St wd2 wd2 [] := St.start wd2
  refine WL.val (Value.slice none 0 0) _ (op_assign rfl) rfl ?_
  refine WL.val (Value.int .i64 (0 : Int)) _ (op_assign rfl) rfl ?_
  refine WL.nil ?_
  show W _ _ _ _ _ _
  refine W.seq ?_
  refine W.block ?_
  refine W.seq ?_
  refine W.region ?_
  refine WL.val (Value.agg #[v_r_Table]) _ (op_loadBox st_29 rfl (BoxAt.lift hS8.ext hx6) rfl rfl) rfl ?_
  obtain ⟨x9, hx10, h⟩ := bs h
  refine WL.call _ (op_call fn_37 (args1 rfl)) (c_spec_l03Is (Ty.lift _ (Ext.trans hE7 hS8.ext) r_r_Table) hx10) rfl ?_
  rintro _ wd11 ⟨rfl, he12⟩
  have hS14 := St.extend hS8 he12
  replace hS14 : St wd2 wd11 [] := hS14
  refine WL.val (Value.bool (!x9)) _ (op_not rfl) rfl ?_
  refine WL.val (Value.bool (!x9)) _ (op_assign rfl) rfl ?_
  refine WL.nil ?_
  show W _ _ _ _ _ _
  refine W.cond (!x9) rfl (fun hc15 => ?_) (fun hc15 => ?_)
  · replace h := ip h hc15
    refine W.seq ?_
    refine W.region ?_
    refine WL.val (Value.slice none 0 0) _ (op_assign rfl) rfl ?_
    refine WL.val (Value.int .i64 (1 : Int)) _ (op_assign rfl) rfl ?_
    refine WL.nil ?_
    show W _ _ _ _ _ _
    refine W.ret ?_
    obtain rfl := Option.some.inj h
    show FinP _ _ _ _ _ _ _
    exact FinP.ret _ (res2 rfl rfl rfl) ⟨(Value.slice none 0 0), rfl, (inR_i64.2 (show (-9223372036854775808 : Int) ≤ 1 ∧ (1 : Int) ≤ 9223372036854775807 from by decide)), (Ext.trans hE7 hS14.ext), (St.out (St.pick (St.addNil (Ty.i .i64) hS14) [0] rfl) (hE7))⟩
  · replace h := inegb h hc15
    refine W.seq ?_
    refine W.region ?_
    refine WL.val (Value.agg #[v_r_Table]) _ (op_loadBox st_29 rfl (BoxAt.lift hS14.ext hx6) rfl rfl) rfl ?_
    refine WL.val v_x _ (op_move rfl) rfl ?_
    obtain ⟨x17, hx18, h⟩ := bs h
    refine WL.call _ (op_call fn_38 (args2 rfl rfl)) (c_spec_l03Vector (Ty.lift _ (Ext.trans hE7 hS14.ext) r_r_Table) (Ty.lift _ (Ext.trans hE7 hS14.ext) r_x) hx18) rfl ?_
    rintro _ wd19 ⟨rfl, he20⟩
    have hS22 := St.extend hS14 he20
    replace hS22 : St wd2 wd19 [] := hS22
    refine WL.val (Value.bool (!x17)) _ (op_not rfl) rfl ?_
    refine WL.val (Value.bool (!x17)) _ (op_move rfl) rfl ?_
    obtain ⟨x24, hj25, h⟩ := bs h
    refine WL.cut 5 (fun fq wq => fq 1 = v_x ∧ fq 2 = v_y ∧ fq 3 = (Value.pointer (some ⟨b1, 0, none⟩)) ∧ fq 22 = Value.bool x24 ∧ St wd2 wq []) ?_ ?_
    · rcases Bool.eq_false_or_eq_true (!x17) with hc23 | hc23
      · replace hj25 := ip hj25 hc23
        refine WL.gskip rfl (bool_of rfl hc23) rfl ?_
        refine WL.gskip rfl (bool_of rfl hc23) rfl ?_
        refine WL.gskip rfl (bool_of rfl hc23) rfl ?_
        refine WL.gskip rfl (bool_of rfl hc23) rfl ?_
        refine WL.val (Value.bool true) _ (op_pick_t (evb_of rfl hc23) rfl) rfl ?_
        refine WL.nil ?_
        obtain rfl := Option.some.inj hj25
        exact ⟨rfl, rfl, rfl, rfl, rfl, hS22⟩
      · replace hj25 := inegb hj25 hc23
        refine WL.grun rfl (bool_of rfl hc23) ?_
        refine WL.val (Value.agg #[v_r_Table]) _ (op_loadBox st_29 rfl (BoxAt.lift hS22.ext hx6) rfl rfl) rfl ?_
        refine WL.grun rfl (bool_of rfl hc23) ?_
        refine WL.val v_y _ (op_move rfl) rfl ?_
        refine WL.grun rfl (bool_of rfl hc23) ?_
        obtain ⟨x29, hx30, hj25⟩ := bs hj25
        refine WL.call _ (op_call fn_38 (args2 rfl rfl)) (c_spec_l03Vector (Ty.lift _ (Ext.trans hE7 hS22.ext) r_r_Table) (Ty.lift _ (Ext.trans hE7 hS22.ext) r_y) hx30) rfl ?_
        rintro _ wd31 ⟨rfl, he32⟩
        have hS34 := St.extend hS22 he32
        replace hS34 : St wd2 wd31 [] := hS34
        refine WL.grun rfl (bool_of rfl hc23) ?_
        refine WL.val (Value.bool (!x29)) _ (op_not rfl) rfl ?_
        refine WL.val (Value.bool (!x29)) _ (op_pick_f (evb_of rfl hc23) rfl) rfl ?_
        refine WL.nil ?_
        obtain rfl := Option.some.inj hj25
        exact ⟨rfl, rfl, rfl, rfl, rfl, hS34⟩
    · intro f26 wd27 hq28
      obtain ⟨hf35, hf36, hf37, hf38, hS39⟩ := hq28
      refine WL.val (Value.bool x24) _ (op_assign hf38) rfl ?_
      refine WL.nil ?_
      show W _ _ _ _ _ _
      refine W.cond x24 rfl (fun hc40 => ?_) (fun hc40 => ?_)
      · replace h := ip h hc40
        refine W.seq ?_
        refine W.region ?_
        refine WL.val (Value.slice none 0 0) _ (op_assign rfl) rfl ?_
        refine WL.val (Value.int .i64 (2 : Int)) _ (op_assign rfl) rfl ?_
        refine WL.nil ?_
        show W _ _ _ _ _ _
        refine W.ret ?_
        obtain rfl := Option.some.inj h
        show FinP _ _ _ _ _ _ _
        exact FinP.ret _ (res2 rfl rfl rfl) ⟨(Value.slice none 0 0), rfl, (inR_i64.2 (show (-9223372036854775808 : Int) ≤ 2 ∧ (2 : Int) ≤ 9223372036854775807 from by decide)), (Ext.trans hE7 hS39.ext), (St.out (St.pick (St.addNil (Ty.i .i64) hS39) [0] rfl) (hE7))⟩
      · replace h := inegb h hc40
        refine W.skip ?_
        show W _ _ _ _ _ _
        refine W.seq ?_
        refine W.region ?_
        refine WL.val (Value.agg #[v_r_Table]) _ (op_loadBox st_29 hf37 (BoxAt.lift hS39.ext hx6) rfl rfl) rfl ?_
        refine WL.val v_x _ (op_move hf35) rfl ?_
        refine WL.val v_y _ (op_move hf36) rfl ?_
        obtain ⟨x42, hx43, h⟩ := bs h
        refine WL.call _ (op_call fn_48 (args3 rfl rfl rfl)) (c_spec_l03Times (Ty.lift _ (Ext.trans hE7 hS39.ext) r_r_Table) (Ty.lift _ (Ext.trans hE7 hS39.ext) r_x) (Ty.lift _ (Ext.trans hE7 hS39.ext) r_y) hx43) rfl ?_
        rintro u44 wd45 ⟨_, rfl, he46, hs47⟩
        have hS48 := St.join hS39 he46 hs47
        replace hS48 : St wd2 wd45 [(Ty.sl (Ty.i .i64)).at u44 x42] := hS48
        refine WL.val u44 _ (op_assign rfl) rfl ?_
        refine WL.val (Value.int .i64 (0 : Int)) _ (op_assign rfl) rfl ?_
        refine WL.nil ?_
        show W _ _ _ _ _ _
        refine W.ret ?_
        obtain rfl := Option.some.inj h
        show FinP _ _ _ _ _ _ _
        exact FinP.ret _ (res2 rfl rfl rfl) ⟨u44, rfl, (inR_i64.2 (show (-9223372036854775808 : Int) ≤ 0 ∧ (0 : Int) ≤ 9223372036854775807 from by decide)), (Ext.trans hE7 hS48.ext), (St.out (St.pick hS48 [0] rfl) (hE7))⟩

theorem c_impl_Ring_product {w : World} {r_Table : (List (List (List Int)))} {v_r_Table : Value} {x : (List Int)} {v_x : Value} {y : (List Int)} {v_y : Value} (r_r_Table : (Ty.sl (Ty.sl (Ty.sl (Ty.i .i64)))).rep w v_r_Table r_Table) (r_x : (Ty.sl (Ty.i .i64)).rep w v_x x) (r_y : (Ty.sl (Ty.i .i64)).rep w v_y y) {res : (List Int)} (h : p_impl_Ring_product r_Table x y  = some res) :
    Ret Try.prog 49 #[(Value.agg #[v_r_Table]), v_x, v_y] w (fun v w' => ∃ (u0 : Value), v = u0 ∧ Ext w w' ∧ Sep w.heap.size w' [(Ty.sl (Ty.i .i64)).at u0 res]) := by
  unfold p_impl_Ring_product at h
  have hS0 : St w w [] := St.start w
  refine Ret.start (fn := Try.f49) Try.func49 rfl 65 rfl rfl ?_
  refine W.seq ?_
  refine W.region ?_
  refine WL.box hS0 rfl (cs := [v_r_Table]) rfl rfl ?_
  intro b1 wd2 hS3 he4 hx5
  replace hS3 : St w wd2 [bx b1 [v_r_Table]] := hS3
  have hx6 := St.boxAt hS3 0 rfl
  have hE7 : Ext w wd2 := hS3.ext
  have hS8 : St wd2 wd2 [] := St.start wd2
  refine WL.val (Value.slice none 0 0) _ (op_assign rfl) rfl ?_
  refine WL.nil ?_
  show W _ _ _ _ _ _
  refine W.seq ?_
  refine W.region ?_
  refine WL.val (Value.pointer (some ⟨b1, 0, none⟩)) _ (op_fieldAddr fd_29_0 rfl) rfl ?_
  refine WL.val v_r_Table _ (op_load one_22 rfl (BoxAt.cell (BoxAt.lift hS8.ext hx6) rfl)) rfl ?_
  have hr9 := inR_len (Ty.lift _ (Ext.trans hE7 hS8.ext) r_r_Table)
  refine WL.val (Value.int .i64 ((r_Table).length : Int)) _ (op_lenL sl_22 (Ty.lift _ (Ext.trans hE7 hS8.ext) r_r_Table) rfl) rfl ?_
  obtain ⟨x10, hx11, h⟩ := bs h
  refine WL.make (t := (Ty.i .i64)) hS8 sl_25 (fun _ _ => ⟨rfl, (inR_i64.2 (show (-9223372036854775808 : Int) ≤ 0 ∧ (0 : Int) ≤ 9223372036854775807 from by decide))⟩) rfl rfl hx11 rfl rfl ?_
  intro u12 wd13 hS14 he15
  replace hS14 : St wd2 wd13 [(Ty.sl (Ty.i .i64)).at u12 x10] := hS14
  refine WL.val u12 _ (op_assign rfl) rfl ?_
  refine WL.nil ?_
  show W _ _ _ _ _ _
  refine W.seq ?_
  refine W.seq ?_
  refine W.region ?_
  refine WL.val v_x _ (op_move rfl) rfl ?_
  have hr16 := inR_len (Ty.lift _ (Ext.trans hE7 hS14.ext) r_x)
  refine WL.val (Value.int .i64 ((x).length : Int)) _ (op_lenL sl_25 (Ty.lift _ (Ext.trans hE7 hS14.ext) r_x) rfl) rfl ?_
  refine WL.val (Value.int .i64 (0 : Int)) _ (op_move rfl) rfl ?_
  refine WL.nil ?_
  show W _ _ _ _ _ _
  obtain ⟨res17, hres18, h⟩ := bs h
  refine W.blockLoop (fun fq wq => ∃ s, res17 = Res.fin s ∧ fq 7 = u12 ∧ St wd2 wq [(Ty.sl (Ty.i .i64)).at u12 s]) ?_ ?_
  · refine W.forN (fun k (s : (List Int)) fq wq => fq 2 = v_y ∧ fq 3 = (Value.pointer (some ⟨b1, 0, none⟩)) ∧ fq 7 = u12 ∧ fq 18 = v_x ∧ fq 19 = (Value.int .i64 ((x).length : Int)) ∧ fq 20 = Value.int .i64 (k : Int) ∧ InR .i64 (k : Int) ∧ St wd2 wq [(Ty.sl (Ty.i .i64)).at u12 s]) hres18 ⟨rfl, rfl, rfl, rfl, rfl, rfl, (inR_i64.2 (show (-9223372036854775808 : Int) ≤ 0 ∧ (0 : Int) ≤ 9223372036854775807 from by decide)), hS14⟩ ?_ ?_
    · intro k19 x20 ct21 f22 wd23 hk24 hb25 hI26 hbrk27 hret28
      replace hI26 : f22 2 = v_y ∧ f22 3 = (Value.pointer (some ⟨b1, 0, none⟩)) ∧ f22 7 = u12 ∧ f22 18 = v_x ∧ f22 19 = (Value.int .i64 ((x).length : Int)) ∧ f22 20 = Value.int .i64 (k19 : Int) ∧ InR .i64 (k19 : Int) ∧ St wd2 wd23 [(Ty.sl (Ty.i .i64)).at u12 x20] := hI26
      replace hb25 : p_impl_Ring_product_L1 x y r_Table k19 x20 = some ct21 := hb25
      unfold p_impl_Ring_product_L1 at hb25
      obtain ⟨hf29, hf30, hf31, hf32, hf33, hf34, hr35, hS36⟩ := hI26
      refine W.seq ?_
      refine W.region ?_
      refine WL.val (Value.bool (decide ((k19 : Int) < ((x).length : Int)))) _ (op_lss hf34 hf33) rfl ?_
      have hl37 : (k19 : Int) < ((x).length : Int) := by omega
      refine WL.nil ?_
      show W _ _ _ _ _ _
      refine W.seq ?_
      refine W.condT (decide ((k19 : Int) < ((x).length : Int))) rfl (decide_eq_true hl37) ?_
      refine W.skip ?_
      show W _ _ _ _ _ _
      refine W.seq ?_
      refine W.block ?_
      refine W.seq ?_
      refine W.region ?_
      refine WL.val (Value.int .i64 (k19 : Int)) _ (op_move hf34) rfl ?_
      obtain ⟨x39, hx42, hb25⟩ := bs hb25
      obtain ⟨ha40, hb41, hx42⟩ := idx_some hx42
      refine WL.val (Value.pointer (some (elA v_x ((k19 : Int)).toNat))) _ (op_idx sl_25 (Ty.lift _ (Ext.trans hE7 hS36.ext) r_x) hf32 hf34 ha40 hb41) rfl ?_
      obtain ⟨u43, hc44, hr45⟩ := repSl.el r_x hx42
      obtain ⟨rfl, hr45⟩ := hr45
      refine WL.val (Value.int .i64 x39) _ (op_load one_2 rfl (Ext.cell (Ext.trans hE7 hS36.ext) hc44)) rfl ?_
      refine WL.val (Value.int .i64 (k19 : Int)) _ (op_assign rfl) rfl ?_
      refine WL.val (Value.int .i64 x39) _ (op_assign rfl) rfl ?_
      refine WL.nil ?_
      show W _ _ _ _ _ _
      refine W.seq ?_
      refine W.region ?_
      refine WL.val v_y _ (op_move hf29) rfl ?_
      have hr46 := inR_len (Ty.lift _ (Ext.trans hE7 hS36.ext) r_y)
      refine WL.val (Value.int .i64 ((y).length : Int)) _ (op_lenL sl_25 (Ty.lift _ (Ext.trans hE7 hS36.ext) r_y) rfl) rfl ?_
      refine WL.val (Value.int .i64 (0 : Int)) _ (op_move rfl) rfl ?_
      refine WL.nil ?_
      show W _ _ _ _ _ _
      obtain ⟨res47, hres48, hb25⟩ := bs hb25
      refine W.blockLoop (fun fq wq => ∃ s, res47 = Res.fin s ∧ fq 2 = v_y ∧ fq 3 = (Value.pointer (some ⟨b1, 0, none⟩)) ∧ fq 7 = u12 ∧ fq 18 = v_x ∧ fq 19 = (Value.int .i64 ((x).length : Int)) ∧ fq 20 = (Value.int .i64 (k19 : Int)) ∧ St wd2 wq [(Ty.sl (Ty.i .i64)).at u12 s]) ?_ ?_
      · refine W.forN (fun k (s : (List Int)) fq wq => fq 2 = v_y ∧ fq 3 = (Value.pointer (some ⟨b1, 0, none⟩)) ∧ fq 7 = u12 ∧ fq 8 = (Value.int .i64 (k19 : Int)) ∧ fq 9 = (Value.int .i64 x39) ∧ fq 18 = v_x ∧ fq 19 = (Value.int .i64 ((x).length : Int)) ∧ fq 20 = (Value.int .i64 (k19 : Int)) ∧ fq 25 = v_y ∧ fq 26 = (Value.int .i64 ((y).length : Int)) ∧ fq 27 = Value.int .i64 (k : Int) ∧ InR .i64 (k : Int) ∧ St wd2 wq [(Ty.sl (Ty.i .i64)).at u12 s]) hres48 ⟨hf29, hf30, hf31, rfl, rfl, hf32, hf33, hf34, rfl, rfl, rfl, (inR_i64.2 (show (-9223372036854775808 : Int) ≤ 0 ∧ (0 : Int) ≤ 9223372036854775807 from by decide)), hS36⟩ ?_ ?_
        · intro k49 x50 ct51 f52 wd53 hk54 hb55 hI56 hbrk57 hret58
          replace hI56 : f52 2 = v_y ∧ f52 3 = (Value.pointer (some ⟨b1, 0, none⟩)) ∧ f52 7 = u12 ∧ f52 8 = (Value.int .i64 (k19 : Int)) ∧ f52 9 = (Value.int .i64 x39) ∧ f52 18 = v_x ∧ f52 19 = (Value.int .i64 ((x).length : Int)) ∧ f52 20 = (Value.int .i64 (k19 : Int)) ∧ f52 25 = v_y ∧ f52 26 = (Value.int .i64 ((y).length : Int)) ∧ f52 27 = Value.int .i64 (k49 : Int) ∧ InR .i64 (k49 : Int) ∧ St wd2 wd53 [(Ty.sl (Ty.i .i64)).at u12 x50] := hI56
          replace hb55 : p_impl_Ring_product_L2 y x39 r_Table k19 k49 x50 = some ct51 := hb55
          unfold p_impl_Ring_product_L2 at hb55
          obtain ⟨hf59, hf60, hf61, hf62, hf63, hf64, hf65, hf66, hf67, hf68, hf69, hr70, hS71⟩ := hI56
          refine W.seq ?_
          refine W.region ?_
          refine WL.val (Value.bool (decide ((k49 : Int) < ((y).length : Int)))) _ (op_lss hf69 hf68) rfl ?_
          have hl72 : (k49 : Int) < ((y).length : Int) := by omega
          refine WL.nil ?_
          show W _ _ _ _ _ _
          refine W.seq ?_
          refine W.condT (decide ((k49 : Int) < ((y).length : Int))) rfl (decide_eq_true hl72) ?_
          refine W.skip ?_
          show W _ _ _ _ _ _
          refine W.seq ?_
          refine W.block ?_
          refine W.seq ?_
          refine W.region ?_
          refine WL.val (Value.int .i64 (k49 : Int)) _ (op_move hf69) rfl ?_
          obtain ⟨x74, hx77, hb55⟩ := bs hb55
          obtain ⟨ha75, hb76, hx77⟩ := idx_some hx77
          refine WL.val (Value.pointer (some (elA v_y ((k49 : Int)).toNat))) _ (op_idx sl_25 (Ty.lift _ (Ext.trans hE7 hS71.ext) r_y) hf67 hf69 ha75 hb76) rfl ?_
          obtain ⟨u78, hc79, hr80⟩ := repSl.el r_y hx77
          obtain ⟨rfl, hr80⟩ := hr80
          refine WL.val (Value.int .i64 x74) _ (op_load one_2 rfl (Ext.cell (Ext.trans hE7 hS71.ext) hc79)) rfl ?_
          refine WL.val (Value.int .i64 (k49 : Int)) _ (op_assign rfl) rfl ?_
          refine WL.val (Value.int .i64 x74) _ (op_assign rfl) rfl ?_
          refine WL.nil ?_
          show W _ _ _ _ _ _
          refine W.seq ?_
          refine W.seq ?_
          refine W.region ?_
          refine WL.val (Value.int .i64 x39) _ (op_move hf63) rfl ?_
          refine WL.val (Value.int .i64 x74) _ (op_move rfl) rfl ?_
          refine WL.val (Value.int .i64 (w64 (x39 * x74))) _ (op_mul rfl rfl) rfl ?_
          refine WL.val (Value.bool ((w64 (x39 * x74)) == (0 : Int))) _ (op_eql rfl rfl) rfl ?_
          refine WL.nil ?_
          show W _ _ _ _ _ _
          refine W.cond ((w64 (x39 * x74)) == (0 : Int)) rfl (fun hc81 => ?_) (fun hc81 => ?_)
          · replace hb55 := ip hb55 hc81
            refine W.exit ?_
            show W _ _ _ _ _ _
            refine W.region ?_
            refine WL.val (Value.int .i64 (w64 ((k49 : Int) + (1 : Int)))) _ (op_add hf69 rfl) rfl ?_
            refine WL.val (Value.int .i64 (w64 ((k49 : Int) + (1 : Int)))) _ (op_move rfl) rfl ?_
            refine WL.nil ?_
            obtain rfl := Option.some.inj hb55
            show ∃ s, _ = Ctl.next s ∧ _
            exact ⟨_, rfl, hf59, hf60, hf61, hf62, hf63, hf64, hf65, hf66, hf67, hf68, (ctr_next hl72 hr46), (ctr_rng hl72 hr46), hS71⟩
          · replace hb55 := inegb hb55 hc81
            refine W.skip ?_
            show W _ _ _ _ _ _
            refine W.seq ?_
            refine W.region ?_
            refine WL.val (Value.pointer (some ⟨b1, 0, none⟩)) _ (op_fieldAddr fd_29_0 hf60) rfl ?_
            refine WL.val v_r_Table _ (op_load one_22 rfl (BoxAt.cell (BoxAt.lift hS71.ext hx6) rfl)) rfl ?_
            refine WL.val (Value.int .i64 (k19 : Int)) _ (op_move hf62) rfl ?_
            obtain ⟨x83, hx86, hb55⟩ := bs hb55
            obtain ⟨ha84, hb85, hx86⟩ := idx_some hx86
            refine WL.val (Value.pointer (some (elA v_r_Table ((k19 : Int)).toNat))) _ (op_idx sl_22 (Ty.lift _ (Ext.trans hE7 hS71.ext) r_r_Table) rfl rfl ha84 hb85) rfl ?_
            obtain ⟨u87, hc88, hr89⟩ := repSl.el r_r_Table hx86
            refine WL.val u87 _ (op_load one_61 rfl (Ext.cell (Ext.trans hE7 hS71.ext) hc88)) rfl ?_
            refine WL.val (Value.int .i64 (k49 : Int)) _ (op_move rfl) rfl ?_
            obtain ⟨x90, hx93, hb55⟩ := bs hb55
            obtain ⟨ha91, hb92, hx93⟩ := idx_some hx93
            refine WL.val (Value.pointer (some (elA u87 ((k49 : Int)).toNat))) _ (op_idx sl_61 (Ty.lift _ (Ext.trans hE7 hS71.ext) hr89) rfl rfl ha91 hb92) rfl ?_
            obtain ⟨u94, hc95, hr96⟩ := repSl.el hr89 hx93
            refine WL.val u94 _ (op_load one_25 rfl (Ext.cell (Ext.trans hE7 hS71.ext) hc95)) rfl ?_
            have hr97 := inR_len (Ty.lift _ (Ext.trans hE7 hS71.ext) hr96)
            refine WL.val (Value.int .i64 ((x90).length : Int)) _ (op_lenL sl_25 (Ty.lift _ (Ext.trans hE7 hS71.ext) hr96) rfl) rfl ?_
            refine WL.val (Value.int .i64 (0 : Int)) _ (op_move rfl) rfl ?_
            refine WL.nil ?_
            show W _ _ _ _ _ _
            obtain ⟨res98, hres99, hb55⟩ := bs hb55
            refine W.blockLoop (fun fq wq => ∃ s, res98 = Res.fin s ∧ fq 2 = v_y ∧ fq 3 = (Value.pointer (some ⟨b1, 0, none⟩)) ∧ fq 7 = u12 ∧ fq 8 = (Value.int .i64 (k19 : Int)) ∧ fq 9 = (Value.int .i64 x39) ∧ fq 18 = v_x ∧ fq 19 = (Value.int .i64 ((x).length : Int)) ∧ fq 20 = (Value.int .i64 (k19 : Int)) ∧ fq 25 = v_y ∧ fq 26 = (Value.int .i64 ((y).length : Int)) ∧ fq 27 = (Value.int .i64 (k49 : Int)) ∧ St wd2 wq [(Ty.sl (Ty.i .i64)).at u12 s]) ?_ ?_
            · refine W.forN (fun k (s : (List Int)) fq wq => fq 2 = v_y ∧ fq 3 = (Value.pointer (some ⟨b1, 0, none⟩)) ∧ fq 7 = u12 ∧ fq 8 = (Value.int .i64 (k19 : Int)) ∧ fq 9 = (Value.int .i64 x39) ∧ fq 11 = (Value.int .i64 x74) ∧ fq 18 = v_x ∧ fq 19 = (Value.int .i64 ((x).length : Int)) ∧ fq 20 = (Value.int .i64 (k19 : Int)) ∧ fq 25 = v_y ∧ fq 26 = (Value.int .i64 ((y).length : Int)) ∧ fq 27 = (Value.int .i64 (k49 : Int)) ∧ fq 43 = u94 ∧ fq 44 = (Value.int .i64 ((x90).length : Int)) ∧ fq 45 = Value.int .i64 (k : Int) ∧ InR .i64 (k : Int) ∧ St wd2 wq [(Ty.sl (Ty.i .i64)).at u12 s]) hres99 ⟨hf59, hf60, hf61, hf62, hf63, rfl, hf64, hf65, hf66, hf67, hf68, hf69, rfl, rfl, rfl, (inR_i64.2 (show (-9223372036854775808 : Int) ≤ 0 ∧ (0 : Int) ≤ 9223372036854775807 from by decide)), hS71⟩ ?_ ?_
              · intro k100 x101 ct102 f103 wd104 hk105 hb106 hI107 hbrk108 hret109
                replace hI107 : f103 2 = v_y ∧ f103 3 = (Value.pointer (some ⟨b1, 0, none⟩)) ∧ f103 7 = u12 ∧ f103 8 = (Value.int .i64 (k19 : Int)) ∧ f103 9 = (Value.int .i64 x39) ∧ f103 11 = (Value.int .i64 x74) ∧ f103 18 = v_x ∧ f103 19 = (Value.int .i64 ((x).length : Int)) ∧ f103 20 = (Value.int .i64 (k19 : Int)) ∧ f103 25 = v_y ∧ f103 26 = (Value.int .i64 ((y).length : Int)) ∧ f103 27 = (Value.int .i64 (k49 : Int)) ∧ f103 43 = u94 ∧ f103 44 = (Value.int .i64 ((x90).length : Int)) ∧ f103 45 = Value.int .i64 (k100 : Int) ∧ InR .i64 (k100 : Int) ∧ St wd2 wd104 [(Ty.sl (Ty.i .i64)).at u12 x101] := hI107
                replace hb106 : p_impl_Ring_product_L3 x90 x39 x74 k100 x101 = some ct102 := hb106
                unfold p_impl_Ring_product_L3 at hb106
                obtain ⟨hf110, hf111, hf112, hf113, hf114, hf115, hf116, hf117, hf118, hf119, hf120, hf121, hf122, hf123, hf124, hr125, hS126⟩ := hI107
                refine W.seq ?_
                refine W.region ?_
                refine WL.val (Value.bool (decide ((k100 : Int) < ((x90).length : Int)))) _ (op_lss hf124 hf123) rfl ?_
                have hl127 : (k100 : Int) < ((x90).length : Int) := by omega
                refine WL.nil ?_
                show W _ _ _ _ _ _
                refine W.seq ?_
                refine W.condT (decide ((k100 : Int) < ((x90).length : Int))) rfl (decide_eq_true hl127) ?_
                refine W.skip ?_
                show W _ _ _ _ _ _
                refine W.seq ?_
                refine W.block ?_
                refine W.seq ?_
                refine W.region ?_
                refine WL.val (Value.int .i64 (k100 : Int)) _ (op_move hf124) rfl ?_
                obtain ⟨x129, hx132, hb106⟩ := bs hb106
                obtain ⟨ha130, hb131, hx132⟩ := idx_some hx132
                refine WL.val (Value.pointer (some (elA u94 ((k100 : Int)).toNat))) _ (op_idx sl_25 (Ty.lift _ (Ext.trans hE7 hS126.ext) hr96) hf122 hf124 ha130 hb131) rfl ?_
                obtain ⟨u133, hc134, hr135⟩ := repSl.el hr96 hx132
                obtain ⟨rfl, hr135⟩ := hr135
                refine WL.val (Value.int .i64 x129) _ (op_load one_2 rfl (Ext.cell (Ext.trans hE7 hS126.ext) hc134)) rfl ?_
                refine WL.val (Value.int .i64 (k100 : Int)) _ (op_assign rfl) rfl ?_
                refine WL.val (Value.int .i64 x129) _ (op_assign rfl) rfl ?_
                refine WL.nil ?_
                show W _ _ _ _ _ _
                refine W.region ?_
                refine WL.val u12 _ (op_move hf112) rfl ?_
                refine WL.val (Value.int .i64 (k100 : Int)) _ (op_move rfl) rfl ?_
                obtain ⟨x136, hx139, hb106⟩ := bs hb106
                obtain ⟨ha137, hb138, hx139⟩ := idx_some hx139
                refine WL.val (Value.pointer (some (elA u12 ((k100 : Int)).toNat))) _ (op_idx sl_25 (St.rep (t := (Ty.sl (Ty.i .i64))) hS126 0 rfl) rfl rfl ha137 hb138) rfl ?_
                obtain ⟨u140, hc141, hr142⟩ := repSl.el (St.rep (t := (Ty.sl (Ty.i .i64))) hS126 0 rfl) hx139
                obtain ⟨rfl, hr142⟩ := hr142
                refine WL.val (Value.int .i64 x136) _ (op_load one_2 rfl hc141) rfl ?_
                refine WL.val (Value.int .i64 x39) _ (op_move hf114) rfl ?_
                refine WL.val (Value.int .i64 x74) _ (op_move hf115) rfl ?_
                refine WL.val (Value.int .i64 (w64 (x39 * x74))) _ (op_mul rfl rfl) rfl ?_
                refine WL.val (Value.int .i64 x129) _ (op_move rfl) rfl ?_
                refine WL.val (Value.int .i64 (w64 ((w64 (x39 * x74)) * x129))) _ (op_mul rfl rfl) rfl ?_
                refine WL.val (Value.int .i64 (w64 (x136 + (w64 ((w64 (x39 * x74)) * x129))))) _ (op_add rfl rfl) rfl ?_
                refine WL.val (Value.pointer (some (elA u12 ((k100 : Int)).toNat))) _ (op_idx sl_25 (St.rep (t := (Ty.sl (Ty.i .i64))) hS126 0 rfl) rfl rfl ha137 hb138) rfl ?_
                refine WL.storeEl (flat_i .i64) hS126 (k := 0) rfl sz_2 rfl rfl (lt_of_idx ha137 hb138) ⟨rfl, (inR_wrap _ _)⟩ ?_
                intro wd143 hS144
                replace hS144 : St wd2 wd143 [(Ty.sl (Ty.i .i64)).at u12 ((x101).set ((k100 : Int)).toNat (w64 (x136 + (w64 ((w64 (x39 * x74)) * x129)))))] := hS144
                refine WL.nil ?_
                show W _ _ _ _ _ _
                refine W.region ?_
                refine WL.val (Value.int .i64 (w64 ((k100 : Int) + (1 : Int)))) _ (op_add hf124 rfl) rfl ?_
                refine WL.val (Value.int .i64 (w64 ((k100 : Int) + (1 : Int)))) _ (op_move rfl) rfl ?_
                refine WL.nil ?_
                obtain rfl := Option.some.inj hb106
                show ∃ s, _ = Ctl.next s ∧ _
                exact ⟨_, rfl, hf110, hf111, hf112, hf113, hf114, hf115, hf116, hf117, hf118, hf119, hf120, hf121, hf122, hf123, (ctr_next hl127 hr97), (ctr_rng hl127 hr97), hS144⟩
              · intro x151 f146 wd147 hs148 hI149
                replace hI149 : f146 2 = v_y ∧ f146 3 = (Value.pointer (some ⟨b1, 0, none⟩)) ∧ f146 7 = u12 ∧ f146 8 = (Value.int .i64 (k19 : Int)) ∧ f146 9 = (Value.int .i64 x39) ∧ f146 11 = (Value.int .i64 x74) ∧ f146 18 = v_x ∧ f146 19 = (Value.int .i64 ((x).length : Int)) ∧ f146 20 = (Value.int .i64 (k19 : Int)) ∧ f146 25 = v_y ∧ f146 26 = (Value.int .i64 ((y).length : Int)) ∧ f146 27 = (Value.int .i64 (k49 : Int)) ∧ f146 43 = u94 ∧ f146 44 = (Value.int .i64 ((x90).length : Int)) ∧ f146 45 = Value.int .i64 (((x90).length : Nat) : Int) ∧ InR .i64 (((x90).length : Nat) : Int) ∧ St wd2 wd147 [(Ty.sl (Ty.i .i64)).at u12 x151] := hI149
                obtain ⟨hf152, hf153, hf154, hf155, hf156, hf157, hf158, hf159, hf160, hf161, hf162, hf163, hf164, hf165, hf166, hr167, hS168⟩ := hI149
                refine W.seq ?_
                refine W.region ?_
                refine WL.val (Value.bool (decide ((((x90).length : Nat) : Int) < ((x90).length : Int)))) _ (op_lss hf166 hf165) rfl ?_
                have hl169 : ¬ (((x90).length : Nat) : Int) < ((x90).length : Int) := by omega
                refine WL.nil ?_
                show W _ _ _ _ _ _
                refine W.seq ?_
                refine W.condF (decide ((((x90).length : Nat) : Int) < ((x90).length : Int))) rfl (decide_eq_false hl169) ?_
                refine W.exit ?_
                show _ = _ ∧ _
                exact ⟨rfl, _, hs148, hf152, hf153, hf154, hf155, hf156, hf158, hf159, hf160, hf161, hf162, hf163, hS168⟩
            · rintro f170 wd171 ⟨x174, rfl, hq172⟩
              replace hb55 := onRes_fin hb55
              replace hq172 : f170 2 = v_y ∧ f170 3 = (Value.pointer (some ⟨b1, 0, none⟩)) ∧ f170 7 = u12 ∧ f170 8 = (Value.int .i64 (k19 : Int)) ∧ f170 9 = (Value.int .i64 x39) ∧ f170 18 = v_x ∧ f170 19 = (Value.int .i64 ((x).length : Int)) ∧ f170 20 = (Value.int .i64 (k19 : Int)) ∧ f170 25 = v_y ∧ f170 26 = (Value.int .i64 ((y).length : Int)) ∧ f170 27 = (Value.int .i64 (k49 : Int)) ∧ St wd2 wd171 [(Ty.sl (Ty.i .i64)).at u12 x174] := hq172
              obtain ⟨hf175, hf176, hf177, hf178, hf179, hf180, hf181, hf182, hf183, hf184, hf185, hS186⟩ := hq172
              show W _ _ _ _ _ _
              refine W.region ?_
              refine WL.val (Value.int .i64 (w64 ((k49 : Int) + (1 : Int)))) _ (op_add hf185 rfl) rfl ?_
              refine WL.val (Value.int .i64 (w64 ((k49 : Int) + (1 : Int)))) _ (op_move rfl) rfl ?_
              refine WL.nil ?_
              obtain rfl := Option.some.inj hb55
              show ∃ s, _ = Ctl.next s ∧ _
              exact ⟨_, rfl, hf175, hf176, hf177, hf178, hf179, hf180, hf181, hf182, hf183, hf184, (ctr_next hl72 hr46), (ctr_rng hl72 hr46), hS186⟩
        · intro x194 f189 wd190 hs191 hI192
          replace hI192 : f189 2 = v_y ∧ f189 3 = (Value.pointer (some ⟨b1, 0, none⟩)) ∧ f189 7 = u12 ∧ f189 8 = (Value.int .i64 (k19 : Int)) ∧ f189 9 = (Value.int .i64 x39) ∧ f189 18 = v_x ∧ f189 19 = (Value.int .i64 ((x).length : Int)) ∧ f189 20 = (Value.int .i64 (k19 : Int)) ∧ f189 25 = v_y ∧ f189 26 = (Value.int .i64 ((y).length : Int)) ∧ f189 27 = Value.int .i64 (((y).length : Nat) : Int) ∧ InR .i64 (((y).length : Nat) : Int) ∧ St wd2 wd190 [(Ty.sl (Ty.i .i64)).at u12 x194] := hI192
          obtain ⟨hf195, hf196, hf197, hf198, hf199, hf200, hf201, hf202, hf203, hf204, hf205, hr206, hS207⟩ := hI192
          refine W.seq ?_
          refine W.region ?_
          refine WL.val (Value.bool (decide ((((y).length : Nat) : Int) < ((y).length : Int)))) _ (op_lss hf205 hf204) rfl ?_
          have hl208 : ¬ (((y).length : Nat) : Int) < ((y).length : Int) := by omega
          refine WL.nil ?_
          show W _ _ _ _ _ _
          refine W.seq ?_
          refine W.condF (decide ((((y).length : Nat) : Int) < ((y).length : Int))) rfl (decide_eq_false hl208) ?_
          refine W.exit ?_
          show _ = _ ∧ _
          exact ⟨rfl, _, hs191, hf195, hf196, hf197, hf200, hf201, hf202, hS207⟩
      · rintro f209 wd210 ⟨x213, rfl, hq211⟩
        replace hb25 := onRes_fin hb25
        replace hq211 : f209 2 = v_y ∧ f209 3 = (Value.pointer (some ⟨b1, 0, none⟩)) ∧ f209 7 = u12 ∧ f209 18 = v_x ∧ f209 19 = (Value.int .i64 ((x).length : Int)) ∧ f209 20 = (Value.int .i64 (k19 : Int)) ∧ St wd2 wd210 [(Ty.sl (Ty.i .i64)).at u12 x213] := hq211
        obtain ⟨hf214, hf215, hf216, hf217, hf218, hf219, hS220⟩ := hq211
        show W _ _ _ _ _ _
        refine W.region ?_
        refine WL.val (Value.int .i64 (w64 ((k19 : Int) + (1 : Int)))) _ (op_add hf219 rfl) rfl ?_
        refine WL.val (Value.int .i64 (w64 ((k19 : Int) + (1 : Int)))) _ (op_move rfl) rfl ?_
        refine WL.nil ?_
        obtain rfl := Option.some.inj hb25
        show ∃ s, _ = Ctl.next s ∧ _
        exact ⟨_, rfl, hf214, hf215, hf216, hf217, hf218, (ctr_next hl37 hr16), (ctr_rng hl37 hr16), hS220⟩
    · intro x228 f223 wd224 hs225 hI226
      replace hI226 : f223 2 = v_y ∧ f223 3 = (Value.pointer (some ⟨b1, 0, none⟩)) ∧ f223 7 = u12 ∧ f223 18 = v_x ∧ f223 19 = (Value.int .i64 ((x).length : Int)) ∧ f223 20 = Value.int .i64 (((x).length : Nat) : Int) ∧ InR .i64 (((x).length : Nat) : Int) ∧ St wd2 wd224 [(Ty.sl (Ty.i .i64)).at u12 x228] := hI226
      obtain ⟨hf229, hf230, hf231, hf232, hf233, hf234, hr235, hS236⟩ := hI226
      refine W.seq ?_
      refine W.region ?_
      refine WL.val (Value.bool (decide ((((x).length : Nat) : Int) < ((x).length : Int)))) _ (op_lss hf234 hf233) rfl ?_
      have hl237 : ¬ (((x).length : Nat) : Int) < ((x).length : Int) := by omega
      refine WL.nil ?_
      show W _ _ _ _ _ _
      refine W.seq ?_
      refine W.condF (decide ((((x).length : Nat) : Int) < ((x).length : Int))) rfl (decide_eq_false hl237) ?_
      refine W.exit ?_
      show _ = _ ∧ _
      exact ⟨rfl, _, hs225, hf231, hS236⟩
  · rintro f238 wd239 ⟨x242, rfl, hq240⟩
    replace h := onRes_fin h
    replace hq240 : f238 7 = u12 ∧ St wd2 wd239 [(Ty.sl (Ty.i .i64)).at u12 x242] := hq240
    obtain ⟨hf243, hS244⟩ := hq240
    show W _ _ _ _ _ _
    refine W.seq ?_
    refine W.region ?_
    refine WL.val u12 _ (op_move hf243) rfl ?_
    refine WL.val u12 _ (op_assign rfl) rfl ?_
    refine WL.nil ?_
    show W _ _ _ _ _ _
    refine W.ret ?_
    obtain rfl := Option.some.inj h
    show FinP _ _ _ _ _ _ _
    exact FinP.ret _ (res1 rfl rfl) ⟨u12, rfl, (Ext.trans hE7 hS244.ext), (St.out (St.pick hS244 [0] rfl) (hE7))⟩

theorem c_impl_MultiplyVectors {w : World} {r_Table : (List (List (List Int)))} {v_r_Table : Value} {x : (List Int)} {v_x : Value} {y : (List Int)} {v_y : Value} (r_r_Table : (Ty.sl (Ty.sl (Ty.sl (Ty.i .i64)))).rep w v_r_Table r_Table) (r_x : (Ty.sl (Ty.i .i64)).rep w v_x x) (r_y : (Ty.sl (Ty.i .i64)).rep w v_y y) {res : (List Int) × Int} (h : p_impl_MultiplyVectors r_Table x y  = some res) :
    Ret Try.prog 25 #[(Value.agg #[v_r_Table]), v_x, v_y] w (fun v w' => ∃ (u0 : Value), v = (Value.tuple #[u0, Value.int .i64 res.2]) ∧ InR .i64 res.2 ∧ Ext w w' ∧ Sep w.heap.size w' [(Ty.sl (Ty.i .i64)).at u0 res.1]) := by
  unfold p_impl_MultiplyVectors at h
  have hS0 : St w w [] := St.start w
  refine Ret.start (fn := Try.f25) Try.func25 rfl 25 rfl rfl ?_
  refine W.seq ?_
  refine W.region ?_
  refine WL.box hS0 rfl (cs := [v_r_Table]) rfl rfl ?_
  intro b1 wd2 hS3 he4 hx5
  replace hS3 : St w wd2 [bx b1 [v_r_Table]] := hS3
  have hx6 := St.boxAt hS3 0 rfl
  have hE7 : Ext w wd2 := hS3.ext
  have hS8 : St wd2 wd2 [] := St.start wd2
  refine WL.val (Value.slice none 0 0) _ (op_assign rfl) rfl ?_
  refine WL.val (Value.int .i64 (0 : Int)) _ (op_assign rfl) rfl ?_
  refine WL.nil ?_
  show W _ _ _ _ _ _
  refine W.seq ?_
  refine W.seq ?_
  refine W.region ?_
  refine WL.val (Value.agg #[v_r_Table]) _ (op_loadBox st_29 rfl (BoxAt.lift hS8.ext hx6) rfl rfl) rfl ?_
  obtain ⟨x9, hx10, h⟩ := bs h
  refine WL.call _ (op_call fn_41 (args1 rfl)) (c_impl_IsRing (Ty.lift _ (Ext.trans hE7 hS8.ext) r_r_Table) hx10) rfl ?_
  rintro _ wd11 ⟨rfl, he12⟩
  have hS14 := St.extend hS8 he12
  replace hS14 : St wd2 wd11 [] := hS14
  refine WL.val (Value.bool (!x9)) _ (op_not rfl) rfl ?_
  refine WL.nil ?_
  show W _ _ _ _ _ _
  refine W.cond (!x9) rfl (fun hc15 => ?_) (fun hc15 => ?_)
  · replace h := ip h hc15
    refine W.seq ?_
    refine W.region ?_
    refine WL.val (Value.slice none 0 0) _ (op_assign rfl) rfl ?_
    refine WL.val (Value.int .i64 (1 : Int)) _ (op_assign rfl) rfl ?_
    refine WL.nil ?_
    show W _ _ _ _ _ _
    refine W.ret ?_
    obtain rfl := Option.some.inj h
    show FinP _ _ _ _ _ _ _
    exact FinP.ret _ (res2 rfl rfl rfl) ⟨(Value.slice none 0 0), rfl, (inR_i64.2 (show (-9223372036854775808 : Int) ≤ 1 ∧ (1 : Int) ≤ 9223372036854775807 from by decide)), (Ext.trans hE7 hS14.ext), (St.out (St.pick (St.addNil (Ty.i .i64) hS14) [0] rfl) (hE7))⟩
  · replace h := inegb h hc15
    refine W.skip ?_
    show W _ _ _ _ _ _
    refine W.seq ?_
    refine W.seq ?_
    refine W.region ?_
    refine WL.val (Value.agg #[v_r_Table]) _ (op_loadBox st_29 rfl (BoxAt.lift hS14.ext hx6) rfl rfl) rfl ?_
    refine WL.val v_x _ (op_move rfl) rfl ?_
    obtain ⟨x17, hx18, h⟩ := bs h
    refine WL.call _ (op_call fn_42 (args2 rfl rfl)) (c_impl_Ring_isVector (Ty.lift _ (Ext.trans hE7 hS14.ext) r_r_Table) (Ty.lift _ (Ext.trans hE7 hS14.ext) r_x) hx18) rfl ?_
    rintro _ wd19 ⟨rfl, he20⟩
    have hS22 := St.extend hS14 he20
    replace hS22 : St wd2 wd19 [] := hS22
    refine WL.val (Value.bool (!x17)) _ (op_not rfl) rfl ?_
    refine WL.val (Value.bool (!x17)) _ (op_move rfl) rfl ?_
    obtain ⟨x24, hj25, h⟩ := bs h
    refine WL.cut 5 (fun fq wq => fq 1 = v_x ∧ fq 2 = v_y ∧ fq 3 = (Value.pointer (some ⟨b1, 0, none⟩)) ∧ fq 20 = Value.bool x24 ∧ St wd2 wq []) ?_ ?_
    · rcases Bool.eq_false_or_eq_true (!x17) with hc23 | hc23
      · replace hj25 := ip hj25 hc23
        refine WL.gskip rfl (bool_of rfl hc23) rfl ?_
        refine WL.gskip rfl (bool_of rfl hc23) rfl ?_
        refine WL.gskip rfl (bool_of rfl hc23) rfl ?_
        refine WL.gskip rfl (bool_of rfl hc23) rfl ?_
        refine WL.val (Value.bool true) _ (op_pick_t (evb_of rfl hc23) rfl) rfl ?_
        refine WL.nil ?_
        obtain rfl := Option.some.inj hj25
        exact ⟨rfl, rfl, rfl, rfl, rfl, hS22⟩
      · replace hj25 := inegb hj25 hc23
        refine WL.grun rfl (bool_of rfl hc23) ?_
        refine WL.val (Value.agg #[v_r_Table]) _ (op_loadBox st_29 rfl (BoxAt.lift hS22.ext hx6) rfl rfl) rfl ?_
        refine WL.grun rfl (bool_of rfl hc23) ?_
        refine WL.val v_y _ (op_move rfl) rfl ?_
        refine WL.grun rfl (bool_of rfl hc23) ?_
        obtain ⟨x29, hx30, hj25⟩ := bs hj25
        refine WL.call _ (op_call fn_42 (args2 rfl rfl)) (c_impl_Ring_isVector (Ty.lift _ (Ext.trans hE7 hS22.ext) r_r_Table) (Ty.lift _ (Ext.trans hE7 hS22.ext) r_y) hx30) rfl ?_
        rintro _ wd31 ⟨rfl, he32⟩
        have hS34 := St.extend hS22 he32
        replace hS34 : St wd2 wd31 [] := hS34
        refine WL.grun rfl (bool_of rfl hc23) ?_
        refine WL.val (Value.bool (!x29)) _ (op_not rfl) rfl ?_
        refine WL.val (Value.bool (!x29)) _ (op_pick_f (evb_of rfl hc23) rfl) rfl ?_
        refine WL.nil ?_
        obtain rfl := Option.some.inj hj25
        exact ⟨rfl, rfl, rfl, rfl, rfl, hS34⟩
    · intro f26 wd27 hq28
      obtain ⟨hf35, hf36, hf37, hf38, hS39⟩ := hq28
      refine WL.nil ?_
      show W _ _ _ _ _ _
      refine W.cond x24 hf38 (fun hc40 => ?_) (fun hc40 => ?_)
      · replace h := ip h hc40
        refine W.seq ?_
        refine W.region ?_
        refine WL.val (Value.slice none 0 0) _ (op_assign rfl) rfl ?_
        refine WL.val (Value.int .i64 (2 : Int)) _ (op_assign rfl) rfl ?_
        refine WL.nil ?_
        show W _ _ _ _ _ _
        refine W.ret ?_
        obtain rfl := Option.some.inj h
        show FinP _ _ _ _ _ _ _
        exact FinP.ret _ (res2 rfl rfl rfl) ⟨(Value.slice none 0 0), rfl, (inR_i64.2 (show (-9223372036854775808 : Int) ≤ 2 ∧ (2 : Int) ≤ 9223372036854775807 from by decide)), (Ext.trans hE7 hS39.ext), (St.out (St.pick (St.addNil (Ty.i .i64) hS39) [0] rfl) (hE7))⟩
      · replace h := inegb h hc40
        refine W.skip ?_
        show W _ _ _ _ _ _
        refine W.seq ?_
        refine W.region ?_
        refine WL.val (Value.agg #[v_r_Table]) _ (op_loadBox st_29 hf37 (BoxAt.lift hS39.ext hx6) rfl rfl) rfl ?_
        refine WL.val v_x _ (op_move hf35) rfl ?_
        refine WL.val v_y _ (op_move hf36) rfl ?_
        obtain ⟨x42, hx43, h⟩ := bs h
        refine WL.call _ (op_call fn_49 (args3 rfl rfl rfl)) (c_impl_Ring_product (Ty.lift _ (Ext.trans hE7 hS39.ext) r_r_Table) (Ty.lift _ (Ext.trans hE7 hS39.ext) r_x) (Ty.lift _ (Ext.trans hE7 hS39.ext) r_y) hx43) rfl ?_
        rintro u44 wd45 ⟨_, rfl, he46, hs47⟩
        have hS48 := St.join hS39 he46 hs47
        replace hS48 : St wd2 wd45 [(Ty.sl (Ty.i .i64)).at u44 x42] := hS48
        refine WL.val u44 _ (op_assign rfl) rfl ?_
        refine WL.val (Value.int .i64 (0 : Int)) _ (op_assign rfl) rfl ?_
        refine WL.nil ?_
        show W _ _ _ _ _ _
        refine W.ret ?_
        obtain rfl := Option.some.inj h
        show FinP _ _ _ _ _ _ _
        exact FinP.ret _ (res2 rfl rfl rfl) ⟨u44, rfl, (inR_i64.2 (show (-9223372036854775808 : Int) ≤ 0 ∧ (0 : Int) ≤ 9223372036854775807 from by decide)), (Ext.trans hE7 hS48.ext), (St.out (St.pick hS48 [0] rfl) (hE7))⟩

theorem c_laws_markInt64S {w : World} {a : (List Int)} {v_a : Value} {k1 : Int} {w0 : World} {R : Ent} (hS0 : St w0 w [(Ty.sl (Ty.i .i64)).at v_a a, R]) (r_k1 : InR .i64 k1) {res : Int × (List Int)} (h : p_laws_markInt64S a k1  = some res) :
    Ret Try.prog 27 #[v_a, (Value.int .i64 k1)] w (fun v w' => v = Value.int .i64 res.1 ∧ InR .i64 res.1 ∧ St w0 w' [(Ty.sl (Ty.i .i64)).at v_a res.2, R]) := by
  unfold p_laws_markInt64S at h
  refine Ret.start (fn := Try.f27) Try.func27 rfl 19 rfl rfl ?_
  refine W.seq ?_
  refine W.region ?_
  refine WL.val (Value.int .i64 (0 : Int)) _ (op_assign rfl) rfl ?_
  refine WL.nil ?_
  show W _ _ _ _ _ _
  refine W.seq ?_
  refine W.seq ?_
  refine W.region ?_
  refine WL.val (Value.int .i64 (0 : Int)) _ (op_assign rfl) rfl ?_
  refine WL.nil ?_
  show W _ _ _ _ _ _
  obtain ⟨res1, hres2, h⟩ := bs h
  refine W.blockLoop (fun fq wq => ∃ s, res1 = Res.fin s ∧ fq 1 = Value.int .i64 s.2 ∧ InR .i64 s.2 ∧ (s.1).length = (a).length ∧ St w0 wq [(Ty.sl (Ty.i .i64)).at v_a s.1, R]) ?_ ?_
  · refine W.forN (fun k (s : (List Int) × Int) fq wq => fq 0 = v_a ∧ fq 1 = Value.int .i64 s.2 ∧ InR .i64 s.2 ∧ fq 5 = Value.int .i64 (k : Int) ∧ InR .i64 (k : Int) ∧ (s.1).length = (a).length ∧ St w0 wq [(Ty.sl (Ty.i .i64)).at v_a s.1, R]) hres2 ⟨rfl, rfl, r_k1, rfl, (inR_i64.2 (show (-9223372036854775808 : Int) ≤ 0 ∧ (0 : Int) ≤ 9223372036854775807 from by decide)), rfl, hS0⟩ ?_ ?_
    · intro k3 s30 ct6 f7 wd8 hk9 hb10 hI11 hbrk12 hret13
      obtain ⟨x4, x5⟩ := s30
      replace hI11 : f7 0 = v_a ∧ f7 1 = Value.int .i64 x5 ∧ InR .i64 x5 ∧ f7 5 = Value.int .i64 (k3 : Int) ∧ InR .i64 (k3 : Int) ∧ (x4).length = (a).length ∧ St w0 wd8 [(Ty.sl (Ty.i .i64)).at v_a x4, R] := hI11
      replace hb10 : p_laws_markInt64S_L1  k3 x4 x5 = some ct6 := hb10
      unfold p_laws_markInt64S_L1 at hb10
      obtain ⟨hf14, hf15, hr16, hf17, hr18, hL19, hS20⟩ := hI11
      refine W.seq ?_
      refine W.seq ?_
      refine W.region ?_
      refine WL.val (Value.int .i64 (k3 : Int)) _ (op_move hf17) rfl ?_
      refine WL.val v_a _ (op_move hf14) rfl ?_
      have hr21 := inR_len (St.rep (t := (Ty.sl (Ty.i .i64))) hS20 0 rfl)
      refine WL.val (Value.int .i64 ((x4).length : Int)) _ (op_lenL sl_25 (St.rep (t := (Ty.sl (Ty.i .i64))) hS20 0 rfl) rfl) rfl ?_
      refine WL.val (Value.bool (decide ((k3 : Int) < ((x4).length : Int)))) _ (op_lss rfl rfl) rfl ?_
      have hl22 : (k3 : Int) < ((x4).length : Int) := by omega
      refine WL.nil ?_
      show W _ _ _ _ _ _
      refine W.condT (decide ((k3 : Int) < ((x4).length : Int))) rfl (decide_eq_true hl22) ?_
      refine W.skip ?_
      show W _ _ _ _ _ _
      refine W.seq ?_
      refine W.block ?_
      refine W.seq ?_
      refine W.region ?_
      refine WL.val v_a _ (op_move hf14) rfl ?_
      refine WL.val (Value.int .i64 (k3 : Int)) _ (op_move hf17) rfl ?_
      refine WL.val (Value.int .i64 x5) _ (op_move hf15) rfl ?_
      obtain ⟨x24, hx27, hb10⟩ := bs hb10
      obtain ⟨ha25, hb26, hx27⟩ := idx_some hx27
      refine WL.val (Value.pointer (some (elA v_a ((k3 : Int)).toNat))) _ (op_idx sl_25 (St.rep (t := (Ty.sl (Ty.i .i64))) hS20 0 rfl) rfl rfl ha25 hb26) rfl ?_
      refine WL.storeEl (flat_i .i64) hS20 (k := 0) rfl sz_2 rfl rfl (lt_of_idx ha25 hb26) ⟨rfl, hr16⟩ ?_
      intro wd28 hS29
      replace hS29 : St w0 wd28 [(Ty.sl (Ty.i .i64)).at v_a ((x4).set ((k3 : Int)).toNat x5), R] := hS29
      refine WL.nil ?_
      show W _ _ _ _ _ _
      refine W.region ?_
      refine WL.val (Value.int .i64 x5) _ (op_move hf15) rfl ?_
      refine WL.val (Value.int .i64 (w64 (x5 + (1 : Int)))) _ (op_add rfl rfl) rfl ?_
      refine WL.val (Value.int .i64 (w64 (x5 + (1 : Int)))) _ (op_assign rfl) rfl ?_
      refine WL.nil ?_
      show W _ _ _ _ _ _
      refine W.region ?_
      refine WL.val (Value.int .i64 (k3 : Int)) _ (op_move hf17) rfl ?_
      refine WL.val (Value.int .i64 (w64 ((k3 : Int) + (1 : Int)))) _ (op_add rfl rfl) rfl ?_
      refine WL.val (Value.int .i64 (w64 ((k3 : Int) + (1 : Int)))) _ (op_assign rfl) rfl ?_
      refine WL.nil ?_
      obtain rfl := Option.some.inj hb10
      show ∃ s, _ = Ctl.next s ∧ _
      exact ⟨_, rfl, hf14, rfl, (inR_wrap _ _), (ctr_next hl22 hr21), (ctr_rng hl22 hr21), (by first | exact hL19 | (simp only [List.length_set]; exact hL19)), hS29⟩
    · intro s35 f31 wd32 hs33 hI34
      obtain ⟨x36, x37⟩ := s35
      replace hI34 : f31 0 = v_a ∧ f31 1 = Value.int .i64 x37 ∧ InR .i64 x37 ∧ f31 5 = Value.int .i64 (((a).length : Nat) : Int) ∧ InR .i64 (((a).length : Nat) : Int) ∧ (x36).length = (a).length ∧ St w0 wd32 [(Ty.sl (Ty.i .i64)).at v_a x36, R] := hI34
      obtain ⟨hf38, hf39, hr40, hf41, hr42, hL43, hS44⟩ := hI34
      refine W.seq ?_
      refine W.seq ?_
      refine W.region ?_
      refine WL.val (Value.int .i64 (((a).length : Nat) : Int)) _ (op_move hf41) rfl ?_
      refine WL.val v_a _ (op_move hf38) rfl ?_
      have hr45 := inR_len (St.rep (t := (Ty.sl (Ty.i .i64))) hS44 0 rfl)
      refine WL.val (Value.int .i64 ((x36).length : Int)) _ (op_lenL sl_25 (St.rep (t := (Ty.sl (Ty.i .i64))) hS44 0 rfl) rfl) rfl ?_
      refine WL.val (Value.bool (decide ((((a).length : Nat) : Int) < ((x36).length : Int)))) _ (op_lss rfl rfl) rfl ?_
      have hl46 : ¬ (((a).length : Nat) : Int) < ((x36).length : Int) := by omega
      refine WL.nil ?_
      show W _ _ _ _ _ _
      refine W.condF (decide ((((a).length : Nat) : Int) < ((x36).length : Int))) rfl (decide_eq_false hl46) ?_
      refine W.exit ?_
      show _ = _ ∧ _
      exact ⟨rfl, _, hs33, hf39, hr40, (by first | exact hL43 | (simp only [List.length_set]; exact hL43)), hS44⟩
  · rintro f47 wd48 ⟨s50, rfl, hq49⟩
    replace h := onRes_fin h
    obtain ⟨x51, x52⟩ := s50
    replace hq49 : f47 1 = Value.int .i64 x52 ∧ InR .i64 x52 ∧ (x51).length = (a).length ∧ St w0 wd48 [(Ty.sl (Ty.i .i64)).at v_a x51, R] := hq49
    replace h : (_ : Option _) = _ := h
    dsimp only at h
    obtain ⟨hf53, hr54, hL55, hS56⟩ := hq49
    show W _ _ _ _ _ _
    refine W.seq ?_
    refine W.region ?_
    refine WL.val (Value.int .i64 x52) _ (op_move hf53) rfl ?_
    refine WL.val (Value.int .i64 x52) _ (op_assign rfl) rfl ?_
    refine WL.nil ?_
    show W _ _ _ _ _ _
    refine W.ret ?_
    obtain rfl := Option.some.inj h
    show FinP _ _ _ _ _ _ _
    exact FinP.ret _ (res1 rfl rfl) ⟨rfl, hr54, (St.pick hS56 [0, 1] rfl)⟩

theorem c_laws_markInt64SS {w : World} {a : (List (List Int))} {v_a : Value} {k1 : Int} {w0 : World} {R : Ent} (hS0 : St w0 w [(Ty.sl (Ty.sl (Ty.i .i64))).at v_a a, R]) (r_k1 : InR .i64 k1) {res : Int × (List (List Int))} (h : p_laws_markInt64SS a k1  = some res) :
    Ret Try.prog 74 #[v_a, (Value.int .i64 k1)] w (fun v w' => v = Value.int .i64 res.1 ∧ InR .i64 res.1 ∧ St w0 w' [(Ty.sl (Ty.sl (Ty.i .i64))).at v_a res.2, R]) := by
  unfold p_laws_markInt64SS at h
  refine Ret.start (fn := Try.f74) Try.func74 rfl 19 rfl rfl ?_
  refine W.seq ?_
  refine W.region ?_
  refine WL.val (Value.int .i64 (0 : Int)) _ (op_assign rfl) rfl ?_
  refine WL.nil ?_
  show W _ _ _ _ _ _
  refine W.seq ?_
  refine W.seq ?_
  refine W.region ?_
  refine WL.val (Value.int .i64 (0 : Int)) _ (op_assign rfl) rfl ?_
  refine WL.nil ?_
  show W _ _ _ _ _ _
  obtain ⟨res1, hres2, h⟩ := bs h
  refine W.blockLoop (fun fq wq => ∃ s, res1 = Res.fin s ∧ fq 1 = Value.int .i64 s.2 ∧ InR .i64 s.2 ∧ (s.1).length = (a).length ∧ St w0 wq [(Ty.sl (Ty.sl (Ty.i .i64))).at v_a s.1, R]) ?_ ?_
  · refine W.forN (fun k (s : (List (List Int)) × Int) fq wq => fq 0 = v_a ∧ fq 1 = Value.int .i64 s.2 ∧ InR .i64 s.2 ∧ fq 5 = Value.int .i64 (k : Int) ∧ InR .i64 (k : Int) ∧ (s.1).length = (a).length ∧ St w0 wq [(Ty.sl (Ty.sl (Ty.i .i64))).at v_a s.1, R]) hres2 ⟨rfl, rfl, r_k1, rfl, (inR_i64.2 (show (-9223372036854775808 : Int) ≤ 0 ∧ (0 : Int) ≤ 9223372036854775807 from by decide)), rfl, hS0⟩ ?_ ?_
    · intro k3 s40 ct6 f7 wd8 hk9 hb10 hI11 hbrk12 hret13
      obtain ⟨x4, x5⟩ := s40
      replace hI11 : f7 0 = v_a ∧ f7 1 = Value.int .i64 x5 ∧ InR .i64 x5 ∧ f7 5 = Value.int .i64 (k3 : Int) ∧ InR .i64 (k3 : Int) ∧ (x4).length = (a).length ∧ St w0 wd8 [(Ty.sl (Ty.sl (Ty.i .i64))).at v_a x4, R] := hI11
      replace hb10 : p_laws_markInt64SS_L1  k3 x4 x5 = some ct6 := hb10
      unfold p_laws_markInt64SS_L1 at hb10
      obtain ⟨hf14, hf15, hr16, hf17, hr18, hL19, hS20⟩ := hI11
      refine W.seq ?_
      refine W.seq ?_
      refine W.region ?_
      refine WL.val (Value.int .i64 (k3 : Int)) _ (op_move hf17) rfl ?_
      refine WL.val v_a _ (op_move hf14) rfl ?_
      have hr21 := inR_len (St.rep (t := (Ty.sl (Ty.sl (Ty.i .i64)))) hS20 0 rfl)
      refine WL.val (Value.int .i64 ((x4).length : Int)) _ (op_lenL sl_61 (St.rep (t := (Ty.sl (Ty.sl (Ty.i .i64)))) hS20 0 rfl) rfl) rfl ?_
      refine WL.val (Value.bool (decide ((k3 : Int) < ((x4).length : Int)))) _ (op_lss rfl rfl) rfl ?_
      have hl22 : (k3 : Int) < ((x4).length : Int) := by omega
      refine WL.nil ?_
      show W _ _ _ _ _ _
      refine W.condT (decide ((k3 : Int) < ((x4).length : Int))) rfl (decide_eq_true hl22) ?_
      refine W.skip ?_
      show W _ _ _ _ _ _
      refine W.seq ?_
      refine W.block ?_
      refine W.region ?_
      refine WL.val v_a _ (op_move hf14) rfl ?_
      refine WL.val (Value.int .i64 (k3 : Int)) _ (op_move hf17) rfl ?_
      obtain ⟨x24, hx27, hb10⟩ := bs hb10
      obtain ⟨ha25, hb26, hx27⟩ := idx_some hx27
      refine WL.val (Value.pointer (some (elA v_a ((k3 : Int)).toNat))) _ (op_idx sl_61 (St.rep (t := (Ty.sl (Ty.sl (Ty.i .i64)))) hS20 0 rfl) rfl rfl ha25 hb26) rfl ?_
      obtain ⟨u28, hc29, hr30⟩ := repSl.el (St.rep (t := (Ty.sl (Ty.sl (Ty.i .i64)))) hS20 0 rfl) hx27
      refine WL.val u28 _ (op_load one_25 rfl hc29) rfl ?_
      refine WL.val (Value.int .i64 x5) _ (op_move hf15) rfl ?_
      have hS31 := St.unrow (k := 0) hS20 rfl hx27 hc29
      replace hS31 : St w0 wd8 [holeAt (Ty.sl (Ty.i .i64)) v_a x4 ((k3 : Int)).toNat u28, R, (Ty.sl (Ty.i .i64)).at u28 x24] := hS31
      obtain ⟨x32, hx33, hb10⟩ := bs hb10
      have hS34 := St.fold [(Ty.sl (Ty.i .i64)).at u28 x24] [holeAt (Ty.sl (Ty.i .i64)) v_a x4 ((k3 : Int)).toNat u28, R] (St.pick hS31 [2, 0, 1] rfl)
      refine WL.call _ (op_call fn_27 (args2 rfl rfl)) (c_laws_markInt64S hS34 hr16 hx33) rfl ?_
      rintro _ wd37 ⟨rfl, hr38, hS35⟩
      have hS36 := St.pick (St.unfold [(Ty.sl (Ty.i .i64)).at u28 x32.2] [holeAt (Ty.sl (Ty.i .i64)) v_a x4 ((k3 : Int)).toNat u28, R] hS35) [1, 2, 0] rfl
      replace hS36 : St w0 wd37 [holeAt (Ty.sl (Ty.i .i64)) v_a x4 ((k3 : Int)).toNat u28, R, (Ty.sl (Ty.i .i64)).at u28 x32.2] := hS36
      have hS39 := St.rerow (k := 0) (k2 := 2) hS36 rfl rfl rfl
      replace hS39 : St w0 wd37 [(Ty.sl (Ty.sl (Ty.i .i64))).at v_a ((x4).set ((k3 : Int)).toNat x32.2), R, emp] := hS39
      refine WL.val (Value.int .i64 x32.1) _ (op_assign rfl) rfl ?_
      refine WL.nil ?_
      show W _ _ _ _ _ _
      refine W.region ?_
      refine WL.val (Value.int .i64 (k3 : Int)) _ (op_move hf17) rfl ?_
      refine WL.val (Value.int .i64 (w64 ((k3 : Int) + (1 : Int)))) _ (op_add rfl rfl) rfl ?_
      refine WL.val (Value.int .i64 (w64 ((k3 : Int) + (1 : Int)))) _ (op_assign rfl) rfl ?_
      refine WL.nil ?_
      obtain rfl := Option.some.inj hb10
      show ∃ s, _ = Ctl.next s ∧ _
      exact ⟨_, rfl, hf14, rfl, hr38, (ctr_next hl22 hr21), (ctr_rng hl22 hr21), (by first | exact hL19 | (simp only [List.length_set]; exact hL19)), (St.pick hS39 [0, 1] rfl)⟩
    · intro s45 f41 wd42 hs43 hI44
      obtain ⟨x46, x47⟩ := s45
      replace hI44 : f41 0 = v_a ∧ f41 1 = Value.int .i64 x47 ∧ InR .i64 x47 ∧ f41 5 = Value.int .i64 (((a).length : Nat) : Int) ∧ InR .i64 (((a).length : Nat) : Int) ∧ (x46).length = (a).length ∧ St w0 wd42 [(Ty.sl (Ty.sl (Ty.i .i64))).at v_a x46, R] := hI44
      obtain ⟨hf48, hf49, hr50, hf51, hr52, hL53, hS54⟩ := hI44
      refine W.seq ?_
      refine W.seq ?_
      refine W.region ?_
      refine WL.val (Value.int .i64 (((a).length : Nat) : Int)) _ (op_move hf51) rfl ?_
      refine WL.val v_a _ (op_move hf48) rfl ?_
      have hr55 := inR_len (St.rep (t := (Ty.sl (Ty.sl (Ty.i .i64)))) hS54 0 rfl)
      refine WL.val (Value.int .i64 ((x46).length : Int)) _ (op_lenL sl_61 (St.rep (t := (Ty.sl (Ty.sl (Ty.i .i64)))) hS54 0 rfl) rfl) rfl ?_
      refine WL.val (Value.bool (decide ((((a).length : Nat) : Int) < ((x46).length : Int)))) _ (op_lss rfl rfl) rfl ?_
      have hl56 : ¬ (((a).length : Nat) : Int) < ((x46).length : Int) := by omega
      refine WL.nil ?_
      show W _ _ _ _ _ _
      refine W.condF (decide ((((a).length : Nat) : Int) < ((x46).length : Int))) rfl (decide_eq_false hl56) ?_
      refine W.exit ?_
      show _ = _ ∧ _
      exact ⟨rfl, _, hs43, hf49, hr50, (by first | exact hL53 | (simp only [List.length_set]; exact hL53)), hS54⟩
  · rintro f57 wd58 ⟨s60, rfl, hq59⟩
    replace h := onRes_fin h
    obtain ⟨x61, x62⟩ := s60
    replace hq59 : f57 1 = Value.int .i64 x62 ∧ InR .i64 x62 ∧ (x61).length = (a).length ∧ St w0 wd58 [(Ty.sl (Ty.sl (Ty.i .i64))).at v_a x61, R] := hq59
    replace h : (_ : Option _) = _ := h
    dsimp only at h
    obtain ⟨hf63, hr64, hL65, hS66⟩ := hq59
    show W _ _ _ _ _ _
    refine W.seq ?_
    refine W.region ?_
    refine WL.val (Value.int .i64 x62) _ (op_move hf63) rfl ?_
    refine WL.val (Value.int .i64 x62) _ (op_assign rfl) rfl ?_
    refine WL.nil ?_
    show W _ _ _ _ _ _
    refine W.ret ?_
    obtain rfl := Option.some.inj h
    show FinP _ _ _ _ _ _ _
    exact FinP.ret _ (res1 rfl rfl) ⟨rfl, hr64, (St.pick hS66 [0, 1] rfl)⟩

theorem c_laws_markInt64SSS {w : World} {a : (List (List (List Int)))} {v_a : Value} {k1 : Int} {w0 : World} {R : Ent} (hS0 : St w0 w [(Ty.sl (Ty.sl (Ty.sl (Ty.i .i64)))).at v_a a, R]) (r_k1 : InR .i64 k1) {res : Int × (List (List (List Int)))} (h : p_laws_markInt64SSS a k1  = some res) :
    Ret Try.prog 50 #[v_a, (Value.int .i64 k1)] w (fun v w' => v = Value.int .i64 res.1 ∧ InR .i64 res.1 ∧ St w0 w' [(Ty.sl (Ty.sl (Ty.sl (Ty.i .i64)))).at v_a res.2, R]) := by
  unfold p_laws_markInt64SSS at h
  refine Ret.start (fn := Try.f50) Try.func50 rfl 19 rfl rfl ?_
  refine W.seq ?_
  refine W.region ?_
  refine WL.val (Value.int .i64 (0 : Int)) _ (op_assign rfl) rfl ?_
  refine WL.nil ?_
  show W _ _ _ _ _ _
  refine W.seq ?_
  refine W.seq ?_
  refine W.region ?_
  refine WL.val (Value.int .i64 (0 : Int)) _ (op_assign rfl) rfl ?_
  refine WL.nil ?_
  show W _ _ _ _ _ _
  obtain ⟨res1, hres2, h⟩ := bs h
  refine W.blockLoop (fun fq wq => ∃ s, res1 = Res.fin s ∧ fq 1 = Value.int .i64 s.2 ∧ InR .i64 s.2 ∧ (s.1).length = (a).length ∧ St w0 wq [(Ty.sl (Ty.sl (Ty.sl (Ty.i .i64)))).at v_a s.1, R]) ?_ ?_
  · refine W.forN (fun k (s : (List (List (List Int))) × Int) fq wq => fq 0 = v_a ∧ fq 1 = Value.int .i64 s.2 ∧ InR .i64 s.2 ∧ fq 5 = Value.int .i64 (k : Int) ∧ InR .i64 (k : Int) ∧ (s.1).length = (a).length ∧ St w0 wq [(Ty.sl (Ty.sl (Ty.sl (Ty.i .i64)))).at v_a s.1, R]) hres2 ⟨rfl, rfl, r_k1, rfl, (inR_i64.2 (show (-9223372036854775808 : Int) ≤ 0 ∧ (0 : Int) ≤ 9223372036854775807 from by decide)), rfl, hS0⟩ ?_ ?_
    · intro k3 s40 ct6 f7 wd8 hk9 hb10 hI11 hbrk12 hret13
      obtain ⟨x4, x5⟩ := s40
      replace hI11 : f7 0 = v_a ∧ f7 1 = Value.int .i64 x5 ∧ InR .i64 x5 ∧ f7 5 = Value.int .i64 (k3 : Int) ∧ InR .i64 (k3 : Int) ∧ (x4).length = (a).length ∧ St w0 wd8 [(Ty.sl (Ty.sl (Ty.sl (Ty.i .i64)))).at v_a x4, R] := hI11
      replace hb10 : p_laws_markInt64SSS_L1  k3 x4 x5 = some ct6 := hb10
      unfold p_laws_markInt64SSS_L1 at hb10
      obtain ⟨hf14, hf15, hr16, hf17, hr18, hL19, hS20⟩ := hI11
      refine W.seq ?_
      refine W.seq ?_
      refine W.region ?_
      refine WL.val (Value.int .i64 (k3 : Int)) _ (op_move hf17) rfl ?_
      refine WL.val v_a _ (op_move hf14) rfl ?_
      have hr21 := inR_len (St.rep (t := (Ty.sl (Ty.sl (Ty.sl (Ty.i .i64))))) hS20 0 rfl)
      refine WL.val (Value.int .i64 ((x4).length : Int)) _ (op_lenL sl_22 (St.rep (t := (Ty.sl (Ty.sl (Ty.sl (Ty.i .i64))))) hS20 0 rfl) rfl) rfl ?_
      refine WL.val (Value.bool (decide ((k3 : Int) < ((x4).length : Int)))) _ (op_lss rfl rfl) rfl ?_
      have hl22 : (k3 : Int) < ((x4).length : Int) := by omega
      refine WL.nil ?_
      show W _ _ _ _ _ _
      refine W.condT (decide ((k3 : Int) < ((x4).length : Int))) rfl (decide_eq_true hl22) ?_
      refine W.skip ?_
      show W _ _ _ _ _ _
      refine W.seq ?_
      refine W.block ?_
      refine W.region ?_
      refine WL.val v_a _ (op_move hf14) rfl ?_
      refine WL.val (Value.int .i64 (k3 : Int)) _ (op_move hf17) rfl ?_
      obtain ⟨x24, hx27, hb10⟩ := bs hb10
      obtain ⟨ha25, hb26, hx27⟩ := idx_some hx27
      refine WL.val (Value.pointer (some (elA v_a ((k3 : Int)).toNat))) _ (op_idx sl_22 (St.rep (t := (Ty.sl (Ty.sl (Ty.sl (Ty.i .i64))))) hS20 0 rfl) rfl rfl ha25 hb26) rfl ?_
      obtain ⟨u28, hc29, hr30⟩ := repSl.el (St.rep (t := (Ty.sl (Ty.sl (Ty.sl (Ty.i .i64))))) hS20 0 rfl) hx27
      refine WL.val u28 _ (op_load one_61 rfl hc29) rfl ?_
      refine WL.val (Value.int .i64 x5) _ (op_move hf15) rfl ?_
      have hS31 := St.unrow (k := 0) hS20 rfl hx27 hc29
      replace hS31 : St w0 wd8 [holeAt (Ty.sl (Ty.sl (Ty.i .i64))) v_a x4 ((k3 : Int)).toNat u28, R, (Ty.sl (Ty.sl (Ty.i .i64))).at u28 x24] := hS31
      obtain ⟨x32, hx33, hb10⟩ := bs hb10
      have hS34 := St.fold [(Ty.sl (Ty.sl (Ty.i .i64))).at u28 x24] [holeAt (Ty.sl (Ty.sl (Ty.i .i64))) v_a x4 ((k3 : Int)).toNat u28, R] (St.pick hS31 [2, 0, 1] rfl)
      refine WL.call _ (op_call fn_74 (args2 rfl rfl)) (c_laws_markInt64SS hS34 hr16 hx33) rfl ?_
      rintro _ wd37 ⟨rfl, hr38, hS35⟩
      have hS36 := St.pick (St.unfold [(Ty.sl (Ty.sl (Ty.i .i64))).at u28 x32.2] [holeAt (Ty.sl (Ty.sl (Ty.i .i64))) v_a x4 ((k3 : Int)).toNat u28, R] hS35) [1, 2, 0] rfl
      replace hS36 : St w0 wd37 [holeAt (Ty.sl (Ty.sl (Ty.i .i64))) v_a x4 ((k3 : Int)).toNat u28, R, (Ty.sl (Ty.sl (Ty.i .i64))).at u28 x32.2] := hS36
      have hS39 := St.rerow (k := 0) (k2 := 2) hS36 rfl rfl rfl
      replace hS39 : St w0 wd37 [(Ty.sl (Ty.sl (Ty.sl (Ty.i .i64)))).at v_a ((x4).set ((k3 : Int)).toNat x32.2), R, emp] := hS39
      refine WL.val (Value.int .i64 x32.1) _ (op_assign rfl) rfl ?_
      refine WL.nil ?_
      show W _ _ _ _ _ _
      refine W.region ?_
      refine WL.val (Value.int .i64 (k3 : Int)) _ (op_move hf17) rfl ?_
      refine WL.val (Value.int .i64 (w64 ((k3 : Int) + (1 : Int)))) _ (op_add rfl rfl) rfl ?_
      refine WL.val (Value.int .i64 (w64 ((k3 : Int) + (1 : Int)))) _ (op_assign rfl) rfl ?_
      refine WL.nil ?_
      obtain rfl := Option.some.inj hb10
      show ∃ s, _ = Ctl.next s ∧ _
      exact ⟨_, rfl, hf14, rfl, hr38, (ctr_next hl22 hr21), (ctr_rng hl22 hr21), (by first | exact hL19 | (simp only [List.length_set]; exact hL19)), (St.pick hS39 [0, 1] rfl)⟩
    · intro s45 f41 wd42 hs43 hI44
      obtain ⟨x46, x47⟩ := s45
      replace hI44 : f41 0 = v_a ∧ f41 1 = Value.int .i64 x47 ∧ InR .i64 x47 ∧ f41 5 = Value.int .i64 (((a).length : Nat) : Int) ∧ InR .i64 (((a).length : Nat) : Int) ∧ (x46).length = (a).length ∧ St w0 wd42 [(Ty.sl (Ty.sl (Ty.sl (Ty.i .i64)))).at v_a x46, R] := hI44
      obtain ⟨hf48, hf49, hr50, hf51, hr52, hL53, hS54⟩ := hI44
      refine W.seq ?_
      refine W.seq ?_
      refine W.region ?_
      refine WL.val (Value.int .i64 (((a).length : Nat) : Int)) _ (op_move hf51) rfl ?_
      refine WL.val v_a _ (op_move hf48) rfl ?_
      have hr55 := inR_len (St.rep (t := (Ty.sl (Ty.sl (Ty.sl (Ty.i .i64))))) hS54 0 rfl)
      refine WL.val (Value.int .i64 ((x46).length : Int)) _ (op_lenL sl_22 (St.rep (t := (Ty.sl (Ty.sl (Ty.sl (Ty.i .i64))))) hS54 0 rfl) rfl) rfl ?_
      refine WL.val (Value.bool (decide ((((a).length : Nat) : Int) < ((x46).length : Int)))) _ (op_lss rfl rfl) rfl ?_
      have hl56 : ¬ (((a).length : Nat) : Int) < ((x46).length : Int) := by omega
      refine WL.nil ?_
      show W _ _ _ _ _ _
      refine W.condF (decide ((((a).length : Nat) : Int) < ((x46).length : Int))) rfl (decide_eq_false hl56) ?_
      refine W.exit ?_
      show _ = _ ∧ _
      exact ⟨rfl, _, hs43, hf49, hr50, (by first | exact hL53 | (simp only [List.length_set]; exact hL53)), hS54⟩
  · rintro f57 wd58 ⟨s60, rfl, hq59⟩
    replace h := onRes_fin h
    obtain ⟨x61, x62⟩ := s60
    replace hq59 : f57 1 = Value.int .i64 x62 ∧ InR .i64 x62 ∧ (x61).length = (a).length ∧ St w0 wd58 [(Ty.sl (Ty.sl (Ty.sl (Ty.i .i64)))).at v_a x61, R] := hq59
    replace h : (_ : Option _) = _ := h
    dsimp only at h
    obtain ⟨hf63, hr64, hL65, hS66⟩ := hq59
    show W _ _ _ _ _ _
    refine W.seq ?_
    refine W.region ?_
    refine WL.val (Value.int .i64 x62) _ (op_move hf63) rfl ?_
    refine WL.val (Value.int .i64 x62) _ (op_assign rfl) rfl ?_
    refine WL.nil ?_
    show W _ _ _ _ _ _
    refine W.ret ?_
    obtain rfl := Option.some.inj h
    show FinP _ _ _ _ _ _ _
    exact FinP.ret _ (res1 rfl rfl) ⟨rfl, hr64, (St.pick hS66 [0, 1] rfl)⟩

theorem c_laws_markRing {w : World} {a_Table : (List (List (List Int)))} {v_a_Table : Value} {k1 : Int} {w0 : World} {R : Ent} (hS0 : St w0 w [(Ty.sl (Ty.sl (Ty.sl (Ty.i .i64)))).at v_a_Table a_Table, R]) (r_k1 : InR .i64 k1) {res : Int × (List (List (List Int)))} (h : p_laws_markRing a_Table k1  = some res) :
    Ret Try.prog 26 #[(Value.agg #[v_a_Table]), (Value.int .i64 k1)] w (fun v w' => v = Value.int .i64 res.1 ∧ InR .i64 res.1 ∧ St w0 w' [(Ty.sl (Ty.sl (Ty.sl (Ty.i .i64)))).at v_a_Table res.2, R]) := by
  unfold p_laws_markRing at h
  refine Ret.start (fn := Try.f26) Try.func26 rfl 10 rfl rfl ?_
  refine W.seq ?_
  refine W.region ?_
  refine WL.box hS0 rfl (cs := [v_a_Table]) rfl rfl ?_
  intro b1 wd2 hS3 he4 hx5
  replace hS3 : St w0 wd2 [(Ty.sl (Ty.sl (Ty.sl (Ty.i .i64)))).at v_a_Table a_Table, R, bx b1 [v_a_Table]] := hS3
  refine WL.val (Value.int .i64 (0 : Int)) _ (op_assign rfl) rfl ?_
  refine WL.nil ?_
  show W _ _ _ _ _ _
  refine W.seq ?_
  refine W.region ?_
  refine WL.val (Value.pointer (some ⟨b1, 0, none⟩)) _ (op_fieldAddr fd_29_0 rfl) rfl ?_
  refine WL.val v_a_Table _ (op_load one_22 rfl (BoxAt.cell (St.boxAt hS3 2 rfl) rfl)) rfl ?_
  refine WL.val (Value.int .i64 k1) _ (op_move rfl) rfl ?_
  obtain ⟨x6, hx7, h⟩ := bs h
  have hS8 := St.fold [(Ty.sl (Ty.sl (Ty.sl (Ty.i .i64)))).at v_a_Table a_Table] [R, bx b1 [v_a_Table]] (St.pick hS3 [0, 1, 2] rfl)
  refine WL.call _ (op_call fn_50 (args2 rfl rfl)) (c_laws_markInt64SSS hS8 r_k1 hx7) rfl ?_
  rintro _ wd11 ⟨rfl, hr12, hS9⟩
  have hS10 := St.pick (St.unfold [(Ty.sl (Ty.sl (Ty.sl (Ty.i .i64)))).at v_a_Table x6.2] [R, bx b1 [v_a_Table]] hS9) [0, 1, 2] rfl
  replace hS10 : St w0 wd11 [(Ty.sl (Ty.sl (Ty.sl (Ty.i .i64)))).at v_a_Table x6.2, R, bx b1 [v_a_Table]] := hS10
  refine WL.val (Value.int .i64 x6.1) _ (op_assign rfl) rfl ?_
  refine WL.nil ?_
  show W _ _ _ _ _ _
  refine W.seq ?_
  refine W.region ?_
  refine WL.val (Value.int .i64 x6.1) _ (op_move rfl) rfl ?_
  refine WL.val (Value.int .i64 x6.1) _ (op_assign rfl) rfl ?_
  refine WL.nil ?_
  show W _ _ _ _ _ _
  refine W.ret ?_
  obtain rfl := Option.some.inj h
  show FinP _ _ _ _ _ _ _
  exact FinP.ret _ (res1 rfl rfl) ⟨rfl, hr12, (St.pick hS10 [0, 1] rfl)⟩

theorem c_laws_heldInt64S {w : World} {a : (List Int)} {v_a : Value} {k1 : Int} (r_a : (Ty.sl (Ty.i .i64)).rep w v_a a) (r_k1 : InR .i64 k1) {res : Int} (h : p_laws_heldInt64S a k1  = some res) :
    Ret Try.prog 28 #[v_a, (Value.int .i64 k1)] w (fun v w' => v = Value.int .i64 res ∧ InR .i64 res ∧ Ext w w') := by
  unfold p_laws_heldInt64S at h
  have hS0 : St w w [] := St.start w
  refine Ret.start (fn := Try.f28) Try.func28 rfl 21 rfl rfl ?_
  refine W.seq ?_
  refine W.region ?_
  refine WL.val (Value.int .i64 (0 : Int)) _ (op_assign rfl) rfl ?_
  refine WL.nil ?_
  show W _ _ _ _ _ _
  refine W.seq ?_
  refine W.seq ?_
  refine W.region ?_
  refine WL.val (Value.int .i64 (0 : Int)) _ (op_assign rfl) rfl ?_
  refine WL.nil ?_
  show W _ _ _ _ _ _
  obtain ⟨res1, hres2, h⟩ := bs h
  refine W.blockLoop (fun fq wq => ∃ s, res1 = Res.fin s ∧ fq 1 = Value.int .i64 s ∧ InR .i64 s ∧ St w wq []) ?_ ?_
  · refine W.forN (fun k (s : Int) fq wq => fq 0 = v_a ∧ fq 1 = Value.int .i64 s ∧ InR .i64 s ∧ fq 5 = Value.int .i64 (k : Int) ∧ InR .i64 (k : Int) ∧ St w wq []) hres2 ⟨rfl, rfl, r_k1, rfl, (inR_i64.2 (show (-9223372036854775808 : Int) ≤ 0 ∧ (0 : Int) ≤ 9223372036854775807 from by decide)), hS0⟩ ?_ ?_
    · intro k3 x4 ct5 f6 wd7 hk8 hb9 hI10 hbrk11 hret12
      replace hI10 : f6 0 = v_a ∧ f6 1 = Value.int .i64 x4 ∧ InR .i64 x4 ∧ f6 5 = Value.int .i64 (k3 : Int) ∧ InR .i64 (k3 : Int) ∧ St w wd7 [] := hI10
      replace hb9 : p_laws_heldInt64S_L1 a k3 x4 = some ct5 := hb9
      unfold p_laws_heldInt64S_L1 at hb9
      obtain ⟨hf13, hf14, hr15, hf16, hr17, hS18⟩ := hI10
      refine W.seq ?_
      refine W.seq ?_
      refine W.region ?_
      refine WL.val (Value.int .i64 (k3 : Int)) _ (op_move hf16) rfl ?_
      refine WL.val v_a _ (op_move hf13) rfl ?_
      have hr19 := inR_len (Ty.lift _ hS18.ext r_a)
      refine WL.val (Value.int .i64 ((a).length : Int)) _ (op_lenL sl_25 (Ty.lift _ hS18.ext r_a) rfl) rfl ?_
      refine WL.val (Value.bool (decide ((k3 : Int) < ((a).length : Int)))) _ (op_lss rfl rfl) rfl ?_
      have hl20 : (k3 : Int) < ((a).length : Int) := by omega
      refine WL.nil ?_
      show W _ _ _ _ _ _
      refine W.condT (decide ((k3 : Int) < ((a).length : Int))) rfl (decide_eq_true hl20) ?_
      refine W.skip ?_
      show W _ _ _ _ _ _
      refine W.seq ?_
      refine W.block ?_
      refine W.seq ?_
      refine W.seq ?_
      refine W.region ?_
      refine WL.val v_a _ (op_move hf13) rfl ?_
      refine WL.val (Value.int .i64 (k3 : Int)) _ (op_move hf16) rfl ?_
      obtain ⟨x22, hx25, hb9⟩ := bs hb9
      obtain ⟨ha23, hb24, hx25⟩ := idx_some hx25
      refine WL.val (Value.pointer (some (elA v_a ((k3 : Int)).toNat))) _ (op_idx sl_25 (Ty.lift _ hS18.ext r_a) rfl rfl ha23 hb24) rfl ?_
      obtain ⟨u26, hc27, hr28⟩ := repSl.el r_a hx25
      obtain ⟨rfl, hr28⟩ := hr28
      refine WL.val (Value.int .i64 x22) _ (op_load one_2 rfl (Ext.cell hS18.ext hc27)) rfl ?_
      refine WL.val (Value.int .i64 x4) _ (op_move hf14) rfl ?_
      refine WL.val (Value.bool (x22 != x4)) _ (op_neq rfl rfl) rfl ?_
      refine WL.nil ?_
      show W _ _ _ _ _ _
      refine W.cond (x22 != x4) rfl (fun hc29 => ?_) (fun hc29 => ?_)
      · replace hb9 := ip hb9 hc29
        refine W.seq ?_
        refine W.region ?_
        refine WL.val (Value.int .i64 (-1 : Int)) _ (op_assign rfl) rfl ?_
        refine WL.nil ?_
        show W _ _ _ _ _ _
        refine W.ret ?_
        obtain rfl := Option.some.inj hb9
        obtain rfl := hret12 _ rfl
        replace h := onRes_ret h
        obtain rfl := Option.some.inj h
        show FinP _ _ _ _ _ _ _
        exact FinP.ret _ (res1 rfl rfl) ⟨rfl, (inR_i64.2 (show (-9223372036854775808 : Int) ≤ -1 ∧ (-1 : Int) ≤ 9223372036854775807 from by decide)), hS18.ext⟩
      · replace hb9 := inegb hb9 hc29
        refine W.skip ?_
        show W _ _ _ _ _ _
        refine W.region ?_
        refine WL.val (Value.int .i64 x4) _ (op_move hf14) rfl ?_
        refine WL.val (Value.int .i64 (w64 (x4 + (1 : Int)))) _ (op_add rfl rfl) rfl ?_
        refine WL.val (Value.int .i64 (w64 (x4 + (1 : Int)))) _ (op_assign rfl) rfl ?_
        refine WL.nil ?_
        show W _ _ _ _ _ _
        refine W.region ?_
        refine WL.val (Value.int .i64 (k3 : Int)) _ (op_move hf16) rfl ?_
        refine WL.val (Value.int .i64 (w64 ((k3 : Int) + (1 : Int)))) _ (op_add rfl rfl) rfl ?_
        refine WL.val (Value.int .i64 (w64 ((k3 : Int) + (1 : Int)))) _ (op_assign rfl) rfl ?_
        refine WL.nil ?_
        obtain rfl := Option.some.inj hb9
        show ∃ s, _ = Ctl.next s ∧ _
        exact ⟨_, rfl, hf13, rfl, (inR_wrap _ _), (ctr_next hl20 hr19), (ctr_rng hl20 hr19), hS18⟩
    · intro x37 f32 wd33 hs34 hI35
      replace hI35 : f32 0 = v_a ∧ f32 1 = Value.int .i64 x37 ∧ InR .i64 x37 ∧ f32 5 = Value.int .i64 (((a).length : Nat) : Int) ∧ InR .i64 (((a).length : Nat) : Int) ∧ St w wd33 [] := hI35
      obtain ⟨hf38, hf39, hr40, hf41, hr42, hS43⟩ := hI35
      refine W.seq ?_
      refine W.seq ?_
      refine W.region ?_
      refine WL.val (Value.int .i64 (((a).length : Nat) : Int)) _ (op_move hf41) rfl ?_
      refine WL.val v_a _ (op_move hf38) rfl ?_
      have hr44 := inR_len (Ty.lift _ hS43.ext r_a)
      refine WL.val (Value.int .i64 ((a).length : Int)) _ (op_lenL sl_25 (Ty.lift _ hS43.ext r_a) rfl) rfl ?_
      refine WL.val (Value.bool (decide ((((a).length : Nat) : Int) < ((a).length : Int)))) _ (op_lss rfl rfl) rfl ?_
      have hl45 : ¬ (((a).length : Nat) : Int) < ((a).length : Int) := by omega
      refine WL.nil ?_
      show W _ _ _ _ _ _
      refine W.condF (decide ((((a).length : Nat) : Int) < ((a).length : Int))) rfl (decide_eq_false hl45) ?_
      refine W.exit ?_
      show _ = _ ∧ _
      exact ⟨rfl, _, hs34, hf39, hr40, hS43⟩
  · rintro f46 wd47 ⟨x50, rfl, hq48⟩
    replace h := onRes_fin h
    replace hq48 : f46 1 = Value.int .i64 x50 ∧ InR .i64 x50 ∧ St w wd47 [] := hq48
    obtain ⟨hf51, hr52, hS53⟩ := hq48
    show W _ _ _ _ _ _
    refine W.seq ?_
    refine W.region ?_
    refine WL.val (Value.int .i64 x50) _ (op_move hf51) rfl ?_
    refine WL.val (Value.int .i64 x50) _ (op_assign rfl) rfl ?_
    refine WL.nil ?_
    show W _ _ _ _ _ _
    refine W.ret ?_
    obtain rfl := Option.some.inj h
    show FinP _ _ _ _ _ _ _
    exact FinP.ret _ (res1 rfl rfl) ⟨rfl, hr52, hS53.ext⟩

theorem c_laws_FnExactMultiplyVectors {w : World} {aR_Table : (List (List (List Int)))} {v_aR_Table : Value} {aX : (List Int)} {v_aX : Value} {aY : (List Int)} {v_aY : Value} (r_aR_Table : (Ty.sl (Ty.sl (Ty.sl (Ty.i .i64)))).rep w v_aR_Table aR_Table) (r_aX : (Ty.sl (Ty.i .i64)).rep w v_aX aX) (r_aY : (Ty.sl (Ty.i .i64)).rep w v_aY aY) {res : Bool} (h : p_laws_FnExactMultiplyVectors aR_Table aX aY  = some res) :
    Ret Try.prog 7 #[(Value.agg #[v_aR_Table]), v_aX, v_aY] w (fun v w' => v = Value.bool res ∧ Ext w w') := by
  unfold p_laws_FnExactMultiplyVectors at h
  have hS0 : St w w [] := St.start w
  refine Ret.start (fn := Try.f7) Try.func7 rfl 138 rfl rfl ?_
  refine W.seq ?_
  refine W.region ?_
  refine WL.box hS0 rfl (cs := [v_aR_Table]) rfl rfl ?_
  intro b1 wd2 hS3 he4 hx5
  replace hS3 : St w wd2 [bx b1 [v_aR_Table]] := hS3
  have hx6 := St.boxAt hS3 0 rfl
  have hE7 : Ext w wd2 := hS3.ext
  have hS8 : St wd2 wd2 [] := St.start wd2
  refine WL.val (Value.bool false) _ (op_assign rfl) rfl ?_
  refine WL.nil ?_
  show W _ _ _ _ _ _
  refine W.seq ?_
  refine W.seq ?_
  refine W.region ?_
  refine WL.val v_aX _ (op_move rfl) rfl ?_
  have hr9 := inR_len (Ty.lift _ (Ext.trans hE7 hS8.ext) r_aX)
  refine WL.val (Value.int .i64 ((aX).length : Int)) _ (op_lenL sl_25 (Ty.lift _ (Ext.trans hE7 hS8.ext) r_aX) rfl) rfl ?_
  refine WL.val (Value.bool (decide (((aX).length : Int) > (1048576 : Int)))) _ (op_gtr rfl rfl) rfl ?_
  refine WL.nil ?_
  show W _ _ _ _ _ _
  refine W.cond (decide (((aX).length : Int) > (1048576 : Int))) rfl (fun hc10 => ?_) (fun hc10 => ?_)
  · replace h := ip h hc10
    refine W.seq ?_
    refine W.region ?_
    refine WL.val (Value.bool true) _ (op_assign rfl) rfl ?_
    refine WL.nil ?_
    show W _ _ _ _ _ _
    refine W.ret ?_
    obtain rfl := Option.some.inj h
    show FinP _ _ _ _ _ _ _
    exact FinP.ret _ (res1 rfl rfl) ⟨rfl, (Ext.trans hE7 hS8.ext)⟩
  · replace h := inegb h hc10
    refine W.skip ?_
    show W _ _ _ _ _ _
    refine W.seq ?_
    refine W.seq ?_
    refine W.region ?_
    refine WL.val v_aY _ (op_move rfl) rfl ?_
    have hr12 := inR_len (Ty.lift _ (Ext.trans hE7 hS8.ext) r_aY)
    refine WL.val (Value.int .i64 ((aY).length : Int)) _ (op_lenL sl_25 (Ty.lift _ (Ext.trans hE7 hS8.ext) r_aY) rfl) rfl ?_
    refine WL.val (Value.bool (decide (((aY).length : Int) > (1048576 : Int)))) _ (op_gtr rfl rfl) rfl ?_
    refine WL.nil ?_
    show W _ _ _ _ _ _
    refine W.cond (decide (((aY).length : Int) > (1048576 : Int))) rfl (fun hc13 => ?_) (fun hc13 => ?_)
    · replace h := ip h hc13
      refine W.seq ?_
      refine W.region ?_
      refine WL.val (Value.bool true) _ (op_assign rfl) rfl ?_
      refine WL.nil ?_
      show W _ _ _ _ _ _
      refine W.ret ?_
      obtain rfl := Option.some.inj h
      show FinP _ _ _ _ _ _ _
      exact FinP.ret _ (res1 rfl rfl) ⟨rfl, (Ext.trans hE7 hS8.ext)⟩
    · replace h := inegb h hc13
      refine W.skip ?_
      show W _ _ _ _ _ _
      refine W.seq ?_
      refine W.region ?_
      refine WL.val (Value.int .i64 (1048576 : Int)) _ (op_assign rfl) rfl ?_
      refine WL.nil ?_
      show W _ _ _ _ _ _
      refine W.seq ?_
      refine W.region ?_
      refine WL.val (Value.agg #[v_aR_Table]) _ (op_loadBox st_24 rfl (BoxAt.lift hS8.ext hx6) rfl rfl) rfl ?_
      refine WL.val (Value.int .i64 (1048576 : Int)) _ (op_move rfl) rfl ?_
      obtain ⟨x15, hx16, h⟩ := bs h
      refine WL.call _ (op_call fn_11 (args2 rfl rfl)) (c_laws_szRing (Ty.lift _ (Ext.trans hE7 hS8.ext) r_aR_Table) (inR_i64.2 (show (-9223372036854775808 : Int) ≤ 1048576 ∧ (1048576 : Int) ≤ 9223372036854775807 from by decide)) hx16) rfl ?_
      rintro _ wd18 ⟨rfl, hr17, he19⟩
      have hS21 := St.extend hS8 he19
      replace hS21 : St wd2 wd18 [] := hS21
      refine WL.val (Value.int .i64 x15) _ (op_assign rfl) rfl ?_
      refine WL.nil ?_
      show W _ _ _ _ _ _
      refine W.seq ?_
      refine W.seq ?_
      refine W.region ?_
      refine WL.val (Value.int .i64 x15) _ (op_move rfl) rfl ?_
      refine WL.val (Value.bool (decide (x15 < (0 : Int)))) _ (op_lss rfl rfl) rfl ?_
      refine WL.nil ?_
      show W _ _ _ _ _ _
      refine W.cond (decide (x15 < (0 : Int))) rfl (fun hc22 => ?_) (fun hc22 => ?_)
      · replace h := ip h hc22
        refine W.seq ?_
        refine W.region ?_
        refine WL.val (Value.bool true) _ (op_assign rfl) rfl ?_
        refine WL.nil ?_
        show W _ _ _ _ _ _
        refine W.ret ?_
        obtain rfl := Option.some.inj h
        show FinP _ _ _ _ _ _ _
        exact FinP.ret _ (res1 rfl rfl) ⟨rfl, (Ext.trans hE7 hS21.ext)⟩
      · replace h := inegb h hc22
        refine W.skip ?_
        show W _ _ _ _ _ _
        refine W.seq ?_
        refine W.region ?_
        refine WL.val (Value.agg #[v_aR_Table]) _ (op_loadBox st_24 rfl (BoxAt.lift hS21.ext hx6) rfl rfl) rfl ?_
        obtain ⟨x24, hx25, h⟩ := bs h
        refine WL.call _ (op_call fn_13 (args1 rfl)) (c_laws_toRing (Ty.lift _ (Ext.trans hE7 hS21.ext) r_aR_Table) hx25) rfl ?_
        rintro _ wd27 ⟨u26, rfl, he28, hs29⟩
        have hS30 := St.join hS21 he28 hs29
        replace hS30 : St wd2 wd27 [(Ty.sl (Ty.sl (Ty.sl (Ty.i .i64)))).at u26 x24] := hS30
        have hb31 := St.rep (t := (Ty.sl (Ty.sl (Ty.sl (Ty.i .i64))))) hS30 0 rfl
        have hE32 : Ext w wd27 := (Ext.trans hE7 hS30.ext)
        have hE33 : Ext wd2 wd27 := hS30.ext
        have hS34 : St wd27 wd27 [] := St.start wd27
        refine WL.val v_aX _ (op_move rfl) rfl ?_
        obtain ⟨x35, hx36, h⟩ := bs h
        refine WL.call _ (op_call fn_14 (args1 rfl)) (c_laws_toInt64S (Ty.lift _ (Ext.trans hE32 hS34.ext) r_aX) hx36) rfl ?_
        rintro u37 wd38 ⟨_, rfl, he39, hs40⟩
        have hS41 := St.join hS34 he39 hs40
        replace hS41 : St wd27 wd38 [(Ty.sl (Ty.i .i64)).at u37 x35] := hS41
        have hb42 := St.rep (t := (Ty.sl (Ty.i .i64))) hS41 0 rfl
        have hE43 : Ext w wd38 := (Ext.trans hE32 hS41.ext)
        have hE44 : Ext wd2 wd38 := (Ext.trans hE33 hS41.ext)
        have hE45 : Ext wd27 wd38 := hS41.ext
        have hS46 : St wd38 wd38 [] := St.start wd38
        refine WL.val v_aY _ (op_move rfl) rfl ?_
        obtain ⟨x47, hx48, h⟩ := bs h
        refine WL.call _ (op_call fn_14 (args1 rfl)) (c_laws_toInt64S (Ty.lift _ (Ext.trans hE43 hS46.ext) r_aY) hx48) rfl ?_
        rintro u49 wd50 ⟨_, rfl, he51, hs52⟩
        have hS53 := St.join hS46 he51 hs52
        replace hS53 : St wd38 wd50 [(Ty.sl (Ty.i .i64)).at u49 x47] := hS53
        have hb54 := St.rep (t := (Ty.sl (Ty.i .i64))) hS53 0 rfl
        have hE55 : Ext w wd50 := (Ext.trans hE43 hS53.ext)
        have hE56 : Ext wd2 wd50 := (Ext.trans hE44 hS53.ext)
        have hE57 : Ext wd27 wd50 := (Ext.trans hE45 hS53.ext)
        have hE58 : Ext wd38 wd50 := hS53.ext
        have hS59 : St wd50 wd50 [] := St.start wd50
        obtain ⟨x60, hx61, h⟩ := bs h
        refine WL.call _ (op_call fn_24 (args3 rfl rfl rfl)) (c_spec_MultiplyVectors (Ty.lift _ (Ext.trans hE57 hS59.ext) hb31) (Ty.lift _ (Ext.trans hE58 hS59.ext) hb42) (Ty.lift _ hS59.ext hb54) hx61) rfl ?_
        rintro _ wd64 ⟨u62, rfl, hr63, he65, hs66⟩
        have hS67 := St.join hS59 he65 hs66
        replace hS67 : St wd50 wd64 [(Ty.sl (Ty.i .i64)).at u62 x60.1] := hS67
        have hb68 := St.rep (t := (Ty.sl (Ty.i .i64))) hS67 0 rfl
        have hE69 : Ext w wd64 := (Ext.trans hE55 hS67.ext)
        have hE70 : Ext wd2 wd64 := (Ext.trans hE56 hS67.ext)
        have hE71 : Ext wd27 wd64 := (Ext.trans hE57 hS67.ext)
        have hE72 : Ext wd38 wd64 := (Ext.trans hE58 hS67.ext)
        have hE73 : Ext wd50 wd64 := hS67.ext
        have hS74 : St wd64 wd64 [] := St.start wd64
        refine WL.val (Value.tuple #[u62, (Value.int .i64 x60.2)]) _ (op_move rfl) rfl ?_
        refine WL.val u62 _ (op_extract rfl rfl) rfl ?_
        refine WL.val (Value.int .i64 x60.2) _ (op_extract rfl rfl) rfl ?_
        refine WL.val u62 _ (op_assign rfl) rfl ?_
        refine WL.val (Value.int .i64 x60.2) _ (op_assign rfl) rfl ?_
        refine WL.nil ?_
        show W _ _ _ _ _ _
        refine W.seq ?_
        refine W.region ?_
        refine WL.val (Value.agg #[v_aR_Table]) _ (op_loadBox st_24 rfl (BoxAt.lift (Ext.trans hE70 hS74.ext) hx6) rfl rfl) rfl ?_
        obtain ⟨x75, hx76, h⟩ := bs h
        refine WL.call _ (op_call fn_13 (args1 rfl)) (c_laws_toRing (Ty.lift _ (Ext.trans hE69 hS74.ext) r_aR_Table) hx76) rfl ?_
        rintro _ wd78 ⟨u77, rfl, he79, hs80⟩
        have hS81 := St.join hS74 he79 hs80
        replace hS81 : St wd64 wd78 [(Ty.sl (Ty.sl (Ty.sl (Ty.i .i64)))).at u77 x75] := hS81
        refine WL.alloc hS81 ze_29 (cs := [(Value.slice none 0 0)]) rfl rfl ?_
        intro b82 wd83 hS84 he85
        replace hS84 : St wd64 wd83 [(Ty.sl (Ty.sl (Ty.sl (Ty.i .i64)))).at u77 x75, bx b82 [(Value.slice none 0 0)]] := hS84
        refine WL.storeBox [u77] hS84 (k := 1) rfl rfl rfl (us := [u77]) rfl sz_29 rfl rfl (all_rep (St.rep (t := (Ty.sl (Ty.sl (Ty.sl (Ty.i .i64))))) hS84 0 rfl) all_nil) rfl ?_
        intro wd86 hS87
        replace hS87 : St wd64 wd86 [(Ty.sl (Ty.sl (Ty.sl (Ty.i .i64)))).at u77 x75, bx b82 [u77]] := hS87
        refine WL.nil ?_
        show W _ _ _ _ _ _
        refine W.seq ?_
        refine W.region ?_
        refine WL.val v_aX _ (op_move rfl) rfl ?_
        obtain ⟨x88, hx89, h⟩ := bs h
        refine WL.call _ (op_call fn_14 (args1 rfl)) (c_laws_toInt64S (Ty.lift _ (Ext.trans hE69 hS87.ext) r_aX) hx89) rfl ?_
        rintro u90 wd91 ⟨_, rfl, he92, hs93⟩
        have hS94 := St.join hS87 he92 hs93
        replace hS94 : St wd64 wd91 [(Ty.sl (Ty.sl (Ty.sl (Ty.i .i64)))).at u77 x75, bx b82 [u77], (Ty.sl (Ty.i .i64)).at u90 x88] := hS94
        refine WL.val u90 _ (op_assign rfl) rfl ?_
        refine WL.nil ?_
        show W _ _ _ _ _ _
        refine W.seq ?_
        refine W.region ?_
        refine WL.val v_aY _ (op_move rfl) rfl ?_
        obtain ⟨x95, hx96, h⟩ := bs h
        refine WL.call _ (op_call fn_14 (args1 rfl)) (c_laws_toInt64S (Ty.lift _ (Ext.trans hE69 hS94.ext) r_aY) hx96) rfl ?_
        rintro u97 wd98 ⟨_, rfl, he99, hs100⟩
        have hS101 := St.join hS94 he99 hs100
        replace hS101 : St wd64 wd98 [(Ty.sl (Ty.sl (Ty.sl (Ty.i .i64)))).at u77 x75, bx b82 [u77], (Ty.sl (Ty.i .i64)).at u90 x88, (Ty.sl (Ty.i .i64)).at u97 x95] := hS101
        refine WL.val u97 _ (op_assign rfl) rfl ?_
        refine WL.nil ?_
        show W _ _ _ _ _ _
        refine W.seq ?_
        refine W.region ?_
        refine WL.val (Value.agg #[u77]) _ (op_loadBox st_29 rfl (St.boxAt hS101 1 rfl) rfl rfl) rfl ?_
        refine WL.val u90 _ (op_move rfl) rfl ?_
        refine WL.val u97 _ (op_move rfl) rfl ?_
        obtain ⟨x102, hx103, h⟩ := bs h
        refine WL.call _ (op_call fn_25 (args3 rfl rfl rfl)) (c_impl_MultiplyVectors (St.rep (t := (Ty.sl (Ty.sl (Ty.sl (Ty.i .i64))))) hS101 0 rfl) (St.rep (t := (Ty.sl (Ty.i .i64))) hS101 2 rfl) (St.rep (t := (Ty.sl (Ty.i .i64))) hS101 3 rfl) hx103) rfl ?_
        rintro _ wd106 ⟨u104, rfl, hr105, he107, hs108⟩
        have hS109 := St.join hS101 he107 hs108
        replace hS109 : St wd64 wd106 [(Ty.sl (Ty.sl (Ty.sl (Ty.i .i64)))).at u77 x75, bx b82 [u77], (Ty.sl (Ty.i .i64)).at u90 x88, (Ty.sl (Ty.i .i64)).at u97 x95, (Ty.sl (Ty.i .i64)).at u104 x102.1] := hS109
        refine WL.val (Value.tuple #[u104, (Value.int .i64 x102.2)]) _ (op_move rfl) rfl ?_
        refine WL.val u104 _ (op_extract rfl rfl) rfl ?_
        refine WL.val (Value.int .i64 x102.2) _ (op_extract rfl rfl) rfl ?_
        refine WL.val u104 _ (op_assign rfl) rfl ?_
        refine WL.val (Value.int .i64 x102.2) _ (op_assign rfl) rfl ?_
        refine WL.nil ?_
        show W _ _ _ _ _ _
        refine W.seq ?_
        refine W.seq ?_
        refine W.region ?_
        refine WL.val u104 _ (op_move rfl) rfl ?_
        refine WL.val u62 _ (op_move rfl) rfl ?_
        obtain ⟨x110, hx111, h⟩ := bs h
        refine WL.call _ (op_call fn_17 (args2 rfl rfl)) (c_laws_eqInt64S (St.rep (t := (Ty.sl (Ty.i .i64))) hS109 4 rfl) (Ty.lift _ hS109.ext hb68) hx111) rfl ?_
        rintro _ wd112 ⟨rfl, he113⟩
        have hS115 := St.extend hS109 he113
        replace hS115 : St wd64 wd112 [(Ty.sl (Ty.sl (Ty.sl (Ty.i .i64)))).at u77 x75, bx b82 [u77], (Ty.sl (Ty.i .i64)).at u90 x88, (Ty.sl (Ty.i .i64)).at u97 x95, (Ty.sl (Ty.i .i64)).at u104 x102.1] := hS115
        refine WL.val (Value.bool (!x110)) _ (op_not rfl) rfl ?_
        refine WL.val (Value.bool (!x110)) _ (op_move rfl) rfl ?_
        refine WL.cut 4 (fun fq wq => fq 1 = v_aX ∧ fq 2 = v_aY ∧ fq 3 = (Value.pointer (some ⟨b1, 0, none⟩)) ∧ fq 8 = u62 ∧ fq 9 = (Value.int .i64 x60.2) ∧ fq 10 = (Value.pointer (some ⟨b82, 0, none⟩)) ∧ fq 11 = u90 ∧ fq 12 = u97 ∧ fq 13 = u104 ∧ fq 14 = (Value.int .i64 x102.2) ∧ fq 62 = (Value.bool ((!x110) || (x102.2 != x60.2))) ∧ St wd64 wq [(Ty.sl (Ty.sl (Ty.sl (Ty.i .i64)))).at u77 x75, bx b82 [u77], (Ty.sl (Ty.i .i64)).at u90 x88, (Ty.sl (Ty.i .i64)).at u97 x95, (Ty.sl (Ty.i .i64)).at u104 x102.1]) ?_ ?_
        · rcases Bool.eq_false_or_eq_true (!x110) with hc116 | hc116
          · refine WL.gskip rfl (bool_of rfl hc116) rfl ?_
            refine WL.gskip rfl (bool_of rfl hc116) rfl ?_
            refine WL.gskip rfl (bool_of rfl hc116) rfl ?_
            refine WL.val (Value.bool true) _ (op_pick_t (evb_of rfl hc116) rfl) rfl ?_
            refine WL.nil ?_
            exact ⟨rfl, rfl, rfl, rfl, rfl, rfl, rfl, rfl, rfl, rfl, rfl, (orT hc116), hS115⟩
          · refine WL.grun rfl (bool_of rfl hc116) ?_
            refine WL.val (Value.int .i64 x102.2) _ (op_move rfl) rfl ?_
            refine WL.grun rfl (bool_of rfl hc116) ?_
            refine WL.val (Value.int .i64 x60.2) _ (op_move rfl) rfl ?_
            refine WL.grun rfl (bool_of rfl hc116) ?_
            refine WL.val (Value.bool (x102.2 != x60.2)) _ (op_neq rfl rfl) rfl ?_
            refine WL.val (Value.bool (x102.2 != x60.2)) _ (op_pick_f (evb_of rfl hc116) rfl) rfl ?_
            refine WL.nil ?_
            exact ⟨rfl, rfl, rfl, rfl, rfl, rfl, rfl, rfl, rfl, rfl, rfl, (orF hc116), hS115⟩
        · intro f117 wd118 hq119
          obtain ⟨hf120, hf121, hf122, hf123, hf124, hf125, hf126, hf127, hf128, hf129, hf130, hS131⟩ := hq119
          refine WL.nil ?_
          show W _ _ _ _ _ _
          refine W.cond ((!x110) || (x102.2 != x60.2)) hf130 (fun hc132 => ?_) (fun hc132 => ?_)
          · replace h := ip h hc132
            refine W.seq ?_
            refine W.region ?_
            refine WL.val (Value.bool false) _ (op_assign rfl) rfl ?_
            refine WL.nil ?_
            show W _ _ _ _ _ _
            refine W.ret ?_
            obtain rfl := Option.some.inj h
            show FinP _ _ _ _ _ _ _
            exact FinP.ret _ (res1 rfl rfl) ⟨rfl, (Ext.trans hE69 hS131.ext)⟩
          · replace h := inegb h hc132
            refine W.skip ?_
            show W _ _ _ _ _ _
            refine W.seq ?_
            refine W.seq ?_
            obtain ⟨x157, hx158, h⟩ := bs h
            refine W.draw mixo 3 [fun v w' => ∃ (uu0 : Value), v = (Value.agg #[uu0]) ∧ (Ty.sl (Ty.sl (Ty.sl (Ty.i .i64)))).rep w' uu0 x75, fun v w' => ∃ (uu0 : Value), v = (Value.agg #[uu0]) ∧ (Ty.sl (Ty.sl (Ty.sl (Ty.i .i64)))).rep w' uu0 aR_Table, fun v w' => ∃ (uu0 : Value), v = (Value.agg #[uu0]) ∧ (Ty.sl (Ty.sl (Ty.sl (Ty.i .i64)))).rep w' uu0 x157] (by kernel_rfl) (by kernel_rfl) (stabL ⟨(fun _ _ _ he ⟨uu0, h0, r0⟩ => ⟨uu0, h0, Ty.lift _ he r0⟩), (fun _ _ _ he ⟨uu0, h0, r0⟩ => ⟨uu0, h0, Ty.lift _ he r0⟩), (fun _ _ _ he ⟨uu0, h0, r0⟩ => ⟨uu0, h0, Ty.lift _ he r0⟩), trivial⟩) ⟨?_, ?_, ?_, trivial⟩ ?_
            · intro f134 wd135 he136 hout137 hphi138
              have hS139 : St wd64 wd135 [(Ty.sl (Ty.sl (Ty.sl (Ty.i .i64)))).at u77 x75, bx b82 [u77], (Ty.sl (Ty.i .i64)).at u90 x88, (Ty.sl (Ty.i .i64)).at u97 x95, (Ty.sl (Ty.i .i64)).at u104 x102.1] := St.extend hS131 he136
              have e140 : f134 10 = (Value.pointer (some ⟨b82, 0, none⟩)) := (hout137 10 rfl).trans hf125
              exact OpY.val (Value.agg #[u77]) wd135 rfl (op_loadBox st_29 e140 (St.boxAt hS139 1 rfl) rfl rfl) (Ext.refl _) ⟨u77, rfl, (St.rep (t := (Ty.sl (Ty.sl (Ty.sl (Ty.i .i64))))) hS139 0 rfl)⟩
            · intro f141 wd142 he143 hout144 hphi145
              have hS146 : St wd64 wd142 [(Ty.sl (Ty.sl (Ty.sl (Ty.i .i64)))).at u77 x75, bx b82 [u77], (Ty.sl (Ty.i .i64)).at u90 x88, (Ty.sl (Ty.i .i64)).at u97 x95, (Ty.sl (Ty.i .i64)).at u104 x102.1] := St.extend hS131 he143
              have e147 : f141 3 = (Value.pointer (some ⟨b1, 0, none⟩)) := (hout144 3 rfl).trans hf122
              exact OpY.val (Value.agg #[v_aR_Table]) wd142 rfl (op_loadBox st_24 e147 (BoxAt.lift (Ext.trans hE70 hS146.ext) hx6) rfl rfl) (Ext.refl _) ⟨v_aR_Table, rfl, (Ty.lift _ (Ext.trans hE69 hS146.ext) r_aR_Table)⟩
            · intro f148 wd149 he150 hout151 hphi152
              have hS153 : St wd64 wd149 [(Ty.sl (Ty.sl (Ty.sl (Ty.i .i64)))).at u77 x75, bx b82 [u77], (Ty.sl (Ty.i .i64)).at u90 x88, (Ty.sl (Ty.i .i64)).at u97 x95, (Ty.sl (Ty.i .i64)).at u104 x102.1] := St.extend hS131 he150
              obtain ⟨u155, e154, hr156⟩ := hphi152 1 64 _ rfl rfl rfl
              refine OpY.call rfl (op_call fn_13 (args1 e154)) (Ret.mono (c_laws_toRing hr156 hx158) ?_)
              rintro _ wd160 ⟨u159, rfl, he161, hs162⟩
              exact ⟨he161, ⟨u159, rfl, (Sep.rep (t := (Ty.sl (Ty.sl (Ty.sl (Ty.i .i64))))) hs162 0 rfl)⟩⟩
            · intro f163 wd164 he165 hout166 hphi167
              show WL _ _ _ _ _ _ _
              have hS168 : St wd64 wd164 [(Ty.sl (Ty.sl (Ty.sl (Ty.i .i64)))).at u77 x75, bx b82 [u77], (Ty.sl (Ty.i .i64)).at u90 x88, (Ty.sl (Ty.i .i64)).at u97 x95, (Ty.sl (Ty.i .i64)).at u104 x102.1] := St.extend hS131 he165
              obtain ⟨u170, e169, hr171⟩ := hphi167 0 63 _ (by decide) rfl rfl
              obtain ⟨u173, e172, hr174⟩ := hphi167 2 65 _ (by decide) rfl rfl
              have e175 : f163 1 = v_aX := (hout166 1 rfl).trans hf120
              have e176 : f163 2 = v_aY := (hout166 2 rfl).trans hf121
              have e177 : f163 3 = (Value.pointer (some ⟨b1, 0, none⟩)) := (hout166 3 rfl).trans hf122
              have e178 : f163 8 = u62 := (hout166 8 rfl).trans hf123
              have e179 : f163 9 = (Value.int .i64 x60.2) := (hout166 9 rfl).trans hf124
              have e180 : f163 10 = (Value.pointer (some ⟨b82, 0, none⟩)) := (hout166 10 rfl).trans hf125
              have e181 : f163 11 = u90 := (hout166 11 rfl).trans hf126
              have e182 : f163 12 = u97 := (hout166 12 rfl).trans hf127
              have e183 : f163 13 = u104 := (hout166 13 rfl).trans hf128
              have e184 : f163 14 = (Value.int .i64 x102.2) := (hout166 14 rfl).trans hf129
              obtain ⟨x185, hx186, h⟩ := bs h
              refine WL.call _ (op_call fn_16 (args2 e169 e172)) (c_laws_eqRing hr171 hr174 hx186) rfl ?_
              rintro _ wd187 ⟨rfl, he188⟩
              have hS190 := St.extend hS168 he188
              replace hS190 : St wd64 wd187 [(Ty.sl (Ty.sl (Ty.sl (Ty.i .i64)))).at u77 x75, bx b82 [u77], (Ty.sl (Ty.i .i64)).at u90 x88, (Ty.sl (Ty.i .i64)).at u97 x95, (Ty.sl (Ty.i .i64)).at u104 x102.1] := hS190
              refine WL.val (Value.bool (!x185)) _ (op_not rfl) rfl ?_
              refine WL.nil ?_
              show W _ _ _ _ _ _
              refine W.cond (!x185) rfl (fun hc191 => ?_) (fun hc191 => ?_)
              · replace h := ip h hc191
                refine W.seq ?_
                refine W.region ?_
                refine WL.val (Value.bool false) _ (op_assign rfl) rfl ?_
                refine WL.nil ?_
                show W _ _ _ _ _ _
                refine W.ret ?_
                obtain rfl := Option.some.inj h
                show FinP _ _ _ _ _ _ _
                exact FinP.ret _ (res1 rfl rfl) ⟨rfl, (Ext.trans hE69 hS190.ext)⟩
              · replace h := inegb h hc191
                refine W.skip ?_
                show W _ _ _ _ _ _
                refine W.seq ?_
                refine W.seq ?_
                refine W.region ?_
                refine WL.val u90 _ (op_move e181) rfl ?_
                refine WL.val v_aX _ (op_move e175) rfl ?_
                obtain ⟨x193, hx194, h⟩ := bs h
                refine WL.call _ (op_call fn_14 (args1 rfl)) (c_laws_toInt64S (Ty.lift _ (Ext.trans hE69 hS190.ext) r_aX) hx194) rfl ?_
                rintro u195 wd196 ⟨_, rfl, he197, hs198⟩
                have hS199 := St.join hS190 he197 hs198
                replace hS199 : St wd64 wd196 [(Ty.sl (Ty.sl (Ty.sl (Ty.i .i64)))).at u77 x75, bx b82 [u77], (Ty.sl (Ty.i .i64)).at u90 x88, (Ty.sl (Ty.i .i64)).at u97 x95, (Ty.sl (Ty.i .i64)).at u104 x102.1, (Ty.sl (Ty.i .i64)).at u195 x193] := hS199
                obtain ⟨x200, hx201, h⟩ := bs h
                refine WL.call _ (op_call fn_17 (args2 rfl rfl)) (c_laws_eqInt64S (St.rep (t := (Ty.sl (Ty.i .i64))) hS199 2 rfl) (St.rep (t := (Ty.sl (Ty.i .i64))) hS199 5 rfl) hx201) rfl ?_
                rintro _ wd202 ⟨rfl, he203⟩
                have hS205 := St.extend hS199 he203
                replace hS205 : St wd64 wd202 [(Ty.sl (Ty.sl (Ty.sl (Ty.i .i64)))).at u77 x75, bx b82 [u77], (Ty.sl (Ty.i .i64)).at u90 x88, (Ty.sl (Ty.i .i64)).at u97 x95, (Ty.sl (Ty.i .i64)).at u104 x102.1, (Ty.sl (Ty.i .i64)).at u195 x193] := hS205
                refine WL.val (Value.bool (!x200)) _ (op_not rfl) rfl ?_
                refine WL.nil ?_
                show W _ _ _ _ _ _
                refine W.cond (!x200) rfl (fun hc206 => ?_) (fun hc206 => ?_)
                · replace h := ip h hc206
                  refine W.seq ?_
                  refine W.region ?_
                  refine WL.val (Value.bool false) _ (op_assign rfl) rfl ?_
                  refine WL.nil ?_
                  show W _ _ _ _ _ _
                  refine W.ret ?_
                  obtain rfl := Option.some.inj h
                  show FinP _ _ _ _ _ _ _
                  exact FinP.ret _ (res1 rfl rfl) ⟨rfl, (Ext.trans hE69 hS205.ext)⟩
                · replace h := inegb h hc206
                  refine W.skip ?_
                  show W _ _ _ _ _ _
                  refine W.seq ?_
                  refine W.seq ?_
                  refine W.region ?_
                  refine WL.val u97 _ (op_move e182) rfl ?_
                  refine WL.val v_aY _ (op_move e176) rfl ?_
                  obtain ⟨x208, hx209, h⟩ := bs h
                  refine WL.call _ (op_call fn_14 (args1 rfl)) (c_laws_toInt64S (Ty.lift _ (Ext.trans hE69 hS205.ext) r_aY) hx209) rfl ?_
                  rintro u210 wd211 ⟨_, rfl, he212, hs213⟩
                  have hS214 := St.join hS205 he212 hs213
                  replace hS214 : St wd64 wd211 [(Ty.sl (Ty.sl (Ty.sl (Ty.i .i64)))).at u77 x75, bx b82 [u77], (Ty.sl (Ty.i .i64)).at u90 x88, (Ty.sl (Ty.i .i64)).at u97 x95, (Ty.sl (Ty.i .i64)).at u104 x102.1, (Ty.sl (Ty.i .i64)).at u195 x193, (Ty.sl (Ty.i .i64)).at u210 x208] := hS214
                  obtain ⟨x215, hx216, h⟩ := bs h
                  refine WL.call _ (op_call fn_17 (args2 rfl rfl)) (c_laws_eqInt64S (St.rep (t := (Ty.sl (Ty.i .i64))) hS214 3 rfl) (St.rep (t := (Ty.sl (Ty.i .i64))) hS214 6 rfl) hx216) rfl ?_
                  rintro _ wd217 ⟨rfl, he218⟩
                  have hS220 := St.extend hS214 he218
                  replace hS220 : St wd64 wd217 [(Ty.sl (Ty.sl (Ty.sl (Ty.i .i64)))).at u77 x75, bx b82 [u77], (Ty.sl (Ty.i .i64)).at u90 x88, (Ty.sl (Ty.i .i64)).at u97 x95, (Ty.sl (Ty.i .i64)).at u104 x102.1, (Ty.sl (Ty.i .i64)).at u195 x193, (Ty.sl (Ty.i .i64)).at u210 x208] := hS220
                  refine WL.val (Value.bool (!x215)) _ (op_not rfl) rfl ?_
                  refine WL.nil ?_
                  show W _ _ _ _ _ _
                  refine W.cond (!x215) rfl (fun hc221 => ?_) (fun hc221 => ?_)
                  · replace h := ip h hc221
                    refine W.seq ?_
                    refine W.region ?_
                    refine WL.val (Value.bool false) _ (op_assign rfl) rfl ?_
                    refine WL.nil ?_
                    show W _ _ _ _ _ _
                    refine W.ret ?_
                    obtain rfl := Option.some.inj h
                    show FinP _ _ _ _ _ _ _
                    exact FinP.ret _ (res1 rfl rfl) ⟨rfl, (Ext.trans hE69 hS220.ext)⟩
                  · replace h := inegb h hc221
                    refine W.skip ?_
                    show W _ _ _ _ _ _
                    refine W.seq ?_
                    refine W.region ?_
                    refine WL.val (Value.int .i64 (1 : Int)) _ (op_assign rfl) rfl ?_
                    refine WL.nil ?_
                    show W _ _ _ _ _ _
                    refine W.seq ?_
                    refine W.region ?_
                    refine WL.val (Value.agg #[u77]) _ (op_loadBox st_29 e180 (St.boxAt hS220 1 rfl) rfl rfl) rfl ?_
                    refine WL.val (Value.int .i64 (1 : Int)) _ (op_move rfl) rfl ?_
                    obtain ⟨x223, hx224, h⟩ := bs h
                    have hS225 := St.fold [(Ty.sl (Ty.sl (Ty.sl (Ty.i .i64)))).at u77 x75] [bx b82 [u77], (Ty.sl (Ty.i .i64)).at u90 x88, (Ty.sl (Ty.i .i64)).at u97 x95, (Ty.sl (Ty.i .i64)).at u104 x102.1, (Ty.sl (Ty.i .i64)).at u195 x193, (Ty.sl (Ty.i .i64)).at u210 x208] (St.pick hS220 [0, 1, 2, 3, 4, 5, 6] rfl)
                    refine WL.call _ (op_call fn_26 (args2 rfl rfl)) (c_laws_markRing hS225 (inR_i64.2 (show (-9223372036854775808 : Int) ≤ 1 ∧ (1 : Int) ≤ 9223372036854775807 from by decide)) hx224) rfl ?_
                    rintro _ wd228 ⟨rfl, hr229, hS226⟩
                    have hS227 := St.pick (St.unfold [(Ty.sl (Ty.sl (Ty.sl (Ty.i .i64)))).at u77 x223.2] [bx b82 [u77], (Ty.sl (Ty.i .i64)).at u90 x88, (Ty.sl (Ty.i .i64)).at u97 x95, (Ty.sl (Ty.i .i64)).at u104 x102.1, (Ty.sl (Ty.i .i64)).at u195 x193, (Ty.sl (Ty.i .i64)).at u210 x208] hS226) [0, 1, 2, 3, 4, 5, 6] rfl
                    replace hS227 : St wd64 wd228 [(Ty.sl (Ty.sl (Ty.sl (Ty.i .i64)))).at u77 x223.2, bx b82 [u77], (Ty.sl (Ty.i .i64)).at u90 x88, (Ty.sl (Ty.i .i64)).at u97 x95, (Ty.sl (Ty.i .i64)).at u104 x102.1, (Ty.sl (Ty.i .i64)).at u195 x193, (Ty.sl (Ty.i .i64)).at u210 x208] := hS227
                    refine WL.val (Value.int .i64 x223.1) _ (op_assign rfl) rfl ?_
                    refine WL.nil ?_
                    show W _ _ _ _ _ _
                    refine W.seq ?_
                    refine W.region ?_
                    refine WL.val u90 _ (op_move e181) rfl ?_
                    refine WL.val (Value.int .i64 x223.1) _ (op_move rfl) rfl ?_
                    obtain ⟨x230, hx231, h⟩ := bs h
                    have hS232 := St.fold [(Ty.sl (Ty.i .i64)).at u90 x88] [(Ty.sl (Ty.sl (Ty.sl (Ty.i .i64)))).at u77 x223.2, bx b82 [u77], (Ty.sl (Ty.i .i64)).at u97 x95, (Ty.sl (Ty.i .i64)).at u104 x102.1, (Ty.sl (Ty.i .i64)).at u195 x193, (Ty.sl (Ty.i .i64)).at u210 x208] (St.pick hS227 [2, 0, 1, 3, 4, 5, 6] rfl)
                    refine WL.call _ (op_call fn_27 (args2 rfl rfl)) (c_laws_markInt64S hS232 hr229 hx231) rfl ?_
                    rintro _ wd235 ⟨rfl, hr236, hS233⟩
                    have hS234 := St.pick (St.unfold [(Ty.sl (Ty.i .i64)).at u90 x230.2] [(Ty.sl (Ty.sl (Ty.sl (Ty.i .i64)))).at u77 x223.2, bx b82 [u77], (Ty.sl (Ty.i .i64)).at u97 x95, (Ty.sl (Ty.i .i64)).at u104 x102.1, (Ty.sl (Ty.i .i64)).at u195 x193, (Ty.sl (Ty.i .i64)).at u210 x208] hS233) [1, 2, 0, 3, 4, 5, 6] rfl
                    replace hS234 : St wd64 wd235 [(Ty.sl (Ty.sl (Ty.sl (Ty.i .i64)))).at u77 x223.2, bx b82 [u77], (Ty.sl (Ty.i .i64)).at u90 x230.2, (Ty.sl (Ty.i .i64)).at u97 x95, (Ty.sl (Ty.i .i64)).at u104 x102.1, (Ty.sl (Ty.i .i64)).at u195 x193, (Ty.sl (Ty.i .i64)).at u210 x208] := hS234
                    refine WL.val (Value.int .i64 x230.1) _ (op_assign rfl) rfl ?_
                    refine WL.nil ?_
                    show W _ _ _ _ _ _
                    refine W.seq ?_
                    refine W.region ?_
                    refine WL.val u97 _ (op_move e182) rfl ?_
                    refine WL.val (Value.int .i64 x230.1) _ (op_move rfl) rfl ?_
                    obtain ⟨x237, hx238, h⟩ := bs h
                    have hS239 := St.fold [(Ty.sl (Ty.i .i64)).at u97 x95] [(Ty.sl (Ty.sl (Ty.sl (Ty.i .i64)))).at u77 x223.2, bx b82 [u77], (Ty.sl (Ty.i .i64)).at u90 x230.2, (Ty.sl (Ty.i .i64)).at u104 x102.1, (Ty.sl (Ty.i .i64)).at u195 x193, (Ty.sl (Ty.i .i64)).at u210 x208] (St.pick hS234 [3, 0, 1, 2, 4, 5, 6] rfl)
                    refine WL.call _ (op_call fn_27 (args2 rfl rfl)) (c_laws_markInt64S hS239 hr236 hx238) rfl ?_
                    rintro _ wd242 ⟨rfl, hr243, hS240⟩
                    have hS241 := St.pick (St.unfold [(Ty.sl (Ty.i .i64)).at u97 x237.2] [(Ty.sl (Ty.sl (Ty.sl (Ty.i .i64)))).at u77 x223.2, bx b82 [u77], (Ty.sl (Ty.i .i64)).at u90 x230.2, (Ty.sl (Ty.i .i64)).at u104 x102.1, (Ty.sl (Ty.i .i64)).at u195 x193, (Ty.sl (Ty.i .i64)).at u210 x208] hS240) [1, 2, 3, 0, 4, 5, 6] rfl
                    replace hS241 : St wd64 wd242 [(Ty.sl (Ty.sl (Ty.sl (Ty.i .i64)))).at u77 x223.2, bx b82 [u77], (Ty.sl (Ty.i .i64)).at u90 x230.2, (Ty.sl (Ty.i .i64)).at u97 x237.2, (Ty.sl (Ty.i .i64)).at u104 x102.1, (Ty.sl (Ty.i .i64)).at u195 x193, (Ty.sl (Ty.i .i64)).at u210 x208] := hS241
                    refine WL.val (Value.int .i64 x237.1) _ (op_assign rfl) rfl ?_
                    refine WL.nil ?_
                    show W _ _ _ _ _ _
                    refine W.seq ?_
                    refine W.seq ?_
                    refine W.region ?_
                    refine WL.val (Value.int .i64 x237.1) _ (op_move rfl) rfl ?_
                    refine WL.val (Value.bool (decide (x237.1 < (0 : Int)))) _ (op_lss rfl rfl) rfl ?_
                    refine WL.val (Value.bool (decide (x237.1 < (0 : Int)))) _ (op_move rfl) rfl ?_
                    obtain ⟨x245, hj246, h⟩ := bs h
                    refine WL.cut 5 (fun fq wq => fq 1 = v_aX ∧ fq 2 = v_aY ∧ fq 3 = (Value.pointer (some ⟨b1, 0, none⟩)) ∧ fq 8 = u62 ∧ fq 9 = (Value.int .i64 x60.2) ∧ fq 13 = u104 ∧ fq 14 = (Value.int .i64 x102.2) ∧ fq 94 = Value.bool x245 ∧ St wd64 wq [(Ty.sl (Ty.i .i64)).at u104 x102.1]) ?_ ?_
                    · rcases Bool.eq_false_or_eq_true (decide (x237.1 < (0 : Int))) with hc244 | hc244
                      · replace hj246 := ip hj246 hc244
                        refine WL.gskip rfl (bool_of rfl hc244) rfl ?_
                        refine WL.gskip rfl (bool_of rfl hc244) rfl ?_
                        refine WL.gskip rfl (bool_of rfl hc244) rfl ?_
                        refine WL.gskip rfl (bool_of rfl hc244) rfl ?_
                        refine WL.val (Value.bool true) _ (op_pick_t (evb_of rfl hc244) rfl) rfl ?_
                        refine WL.nil ?_
                        obtain rfl := Option.some.inj hj246
                        exact ⟨rfl, e175, e176, e177, e178, e179, e183, e184, rfl, (St.pick hS241 [4] rfl)⟩
                      · replace hj246 := inegb hj246 hc244
                        refine WL.grun rfl (bool_of rfl hc244) ?_
                        refine WL.val u104 _ (op_move e183) rfl ?_
                        refine WL.grun rfl (bool_of rfl hc244) ?_
                        refine WL.val u62 _ (op_move e178) rfl ?_
                        refine WL.grun rfl (bool_of rfl hc244) ?_
                        obtain ⟨x250, hx251, hj246⟩ := bs hj246
                        refine WL.call _ (op_call fn_17 (args2 rfl rfl)) (c_laws_eqInt64S (St.rep (t := (Ty.sl (Ty.i .i64))) hS241 4 rfl) (Ty.lift _ hS241.ext hb68) hx251) rfl ?_
                        rintro _ wd252 ⟨rfl, he253⟩
                        have hS255 := St.extend hS241 he253
                        replace hS255 : St wd64 wd252 [(Ty.sl (Ty.sl (Ty.sl (Ty.i .i64)))).at u77 x223.2, bx b82 [u77], (Ty.sl (Ty.i .i64)).at u90 x230.2, (Ty.sl (Ty.i .i64)).at u97 x237.2, (Ty.sl (Ty.i .i64)).at u104 x102.1, (Ty.sl (Ty.i .i64)).at u195 x193, (Ty.sl (Ty.i .i64)).at u210 x208] := hS255
                        refine WL.grun rfl (bool_of rfl hc244) ?_
                        refine WL.val (Value.bool (!x250)) _ (op_not rfl) rfl ?_
                        refine WL.val (Value.bool (!x250)) _ (op_pick_f (evb_of rfl hc244) rfl) rfl ?_
                        refine WL.nil ?_
                        obtain rfl := Option.some.inj hj246
                        exact ⟨rfl, e175, e176, e177, e178, e179, e183, e184, rfl, (St.pick hS255 [4] rfl)⟩
                    · intro f247 wd248 hq249
                      obtain ⟨hf256, hf257, hf258, hf259, hf260, hf261, hf262, hf263, hS264⟩ := hq249
                      refine WL.val (Value.bool x245) _ (op_move hf263) rfl ?_
                      refine WL.cut 4 (fun fq wq => fq 1 = v_aX ∧ fq 2 = v_aY ∧ fq 3 = (Value.pointer (some ⟨b1, 0, none⟩)) ∧ fq 8 = u62 ∧ fq 9 = (Value.int .i64 x60.2) ∧ fq 13 = u104 ∧ fq 99 = (Value.bool (x245 || (x102.2 != x60.2))) ∧ St wd64 wq [(Ty.sl (Ty.i .i64)).at u104 x102.1]) ?_ ?_
                      · rcases Bool.eq_false_or_eq_true x245 with hc265 | hc265
                        · refine WL.gskip rfl (bool_of rfl hc265) rfl ?_
                          refine WL.gskip rfl (bool_of rfl hc265) rfl ?_
                          refine WL.gskip rfl (bool_of rfl hc265) rfl ?_
                          refine WL.val (Value.bool true) _ (op_pick_t (evb_of rfl hc265) rfl) rfl ?_
                          refine WL.nil ?_
                          exact ⟨rfl, hf256, hf257, hf258, hf259, hf260, hf261, (orT hc265), hS264⟩
                        · refine WL.grun rfl (bool_of rfl hc265) ?_
                          refine WL.val (Value.int .i64 x102.2) _ (op_move hf262) rfl ?_
                          refine WL.grun rfl (bool_of rfl hc265) ?_
                          refine WL.val (Value.int .i64 x60.2) _ (op_move hf260) rfl ?_
                          refine WL.grun rfl (bool_of rfl hc265) ?_
                          refine WL.val (Value.bool (x102.2 != x60.2)) _ (op_neq rfl rfl) rfl ?_
                          refine WL.val (Value.bool (x102.2 != x60.2)) _ (op_pick_f (evb_of rfl hc265) rfl) rfl ?_
                          refine WL.nil ?_
                          exact ⟨rfl, hf256, hf257, hf258, hf259, hf260, hf261, (orF hc265), hS264⟩
                      · intro f266 wd267 hq268
                        obtain ⟨hf269, hf270, hf271, hf272, hf273, hf274, hf275, hS276⟩ := hq268
                        refine WL.nil ?_
                        show W _ _ _ _ _ _
                        refine W.cond (x245 || (x102.2 != x60.2)) hf275 (fun hc277 => ?_) (fun hc277 => ?_)
                        · replace h := ip h hc277
                          refine W.seq ?_
                          refine W.region ?_
                          refine WL.val (Value.bool false) _ (op_assign rfl) rfl ?_
                          refine WL.nil ?_
                          show W _ _ _ _ _ _
                          refine W.ret ?_
                          obtain rfl := Option.some.inj h
                          show FinP _ _ _ _ _ _ _
                          exact FinP.ret _ (res1 rfl rfl) ⟨rfl, (Ext.trans hE69 hS276.ext)⟩
                        · replace h := inegb h hc277
                          refine W.skip ?_
                          show W _ _ _ _ _ _
                          refine W.seq ?_
                          refine W.region ?_
                          refine WL.val (Value.int .i64 (1 : Int)) _ (op_assign rfl) rfl ?_
                          refine WL.nil ?_
                          show W _ _ _ _ _ _
                          refine W.seq ?_
                          refine W.region ?_
                          refine WL.val u104 _ (op_move hf274) rfl ?_
                          refine WL.val (Value.int .i64 (1 : Int)) _ (op_move rfl) rfl ?_
                          obtain ⟨x279, hx280, h⟩ := bs h
                          have hS281 := St.fold [(Ty.sl (Ty.i .i64)).at u104 x102.1] [] (St.pick hS276 [0] rfl)
                          refine WL.call _ (op_call fn_27 (args2 rfl rfl)) (c_laws_markInt64S hS281 (inR_i64.2 (show (-9223372036854775808 : Int) ≤ 1 ∧ (1 : Int) ≤ 9223372036854775807 from by decide)) hx280) rfl ?_
                          rintro _ wd284 ⟨rfl, hr285, hS282⟩
                          have hS283 := St.pick (St.unfold [(Ty.sl (Ty.i .i64)).at u104 x279.2] [] hS282) [0] rfl
                          replace hS283 : St wd64 wd284 [(Ty.sl (Ty.i .i64)).at u104 x279.2] := hS283
                          refine WL.val (Value.int .i64 x279.1) _ (op_assign rfl) rfl ?_
                          refine WL.nil ?_
                          show W _ _ _ _ _ _
                          refine W.seq ?_
                          refine W.region ?_
                          refine WL.val (Value.int .i64 (1 : Int)) _ (op_assign rfl) rfl ?_
                          refine WL.nil ?_
                          show W _ _ _ _ _ _
                          refine W.seq ?_
                          refine W.region ?_
                          refine WL.val u104 _ (op_move hf274) rfl ?_
                          refine WL.val (Value.int .i64 (1 : Int)) _ (op_move rfl) rfl ?_
                          obtain ⟨x286, hx287, h⟩ := bs h
                          refine WL.call _ (op_call fn_28 (args2 rfl rfl)) (c_laws_heldInt64S (St.rep (t := (Ty.sl (Ty.i .i64))) hS283 0 rfl) (inR_i64.2 (show (-9223372036854775808 : Int) ≤ 1 ∧ (1 : Int) ≤ 9223372036854775807 from by decide)) hx287) rfl ?_
                          rintro _ wd289 ⟨rfl, hr288, he290⟩
                          have hS292 := St.extend hS283 he290
                          replace hS292 : St wd64 wd289 [(Ty.sl (Ty.i .i64)).at u104 x279.2] := hS292
                          refine WL.val (Value.int .i64 x286) _ (op_assign rfl) rfl ?_
                          refine WL.nil ?_
                          show W _ _ _ _ _ _
                          refine W.seq ?_
                          refine W.seq ?_
                          refine W.region ?_
                          refine WL.val (Value.int .i64 x286) _ (op_move rfl) rfl ?_
                          refine WL.val (Value.bool (decide (x286 < (0 : Int)))) _ (op_lss rfl rfl) rfl ?_
                          refine WL.nil ?_
                          show W _ _ _ _ _ _
                          refine W.cond (decide (x286 < (0 : Int))) rfl (fun hc293 => ?_) (fun hc293 => ?_)
                          · replace h := ip h hc293
                            refine W.seq ?_
                            refine W.region ?_
                            refine WL.val (Value.bool false) _ (op_assign rfl) rfl ?_
                            refine WL.nil ?_
                            show W _ _ _ _ _ _
                            refine W.ret ?_
                            obtain rfl := Option.some.inj h
                            show FinP _ _ _ _ _ _ _
                            exact FinP.ret _ (res1 rfl rfl) ⟨rfl, (Ext.trans hE69 hS292.ext)⟩
                          · replace h := inegb h hc293
                            refine W.skip ?_
                            show W _ _ _ _ _ _
                            refine W.seq ?_
                            refine W.seq ?_
                            refine W.region ?_
                            refine WL.val (Value.int .i64 x286) _ (op_move rfl) rfl ?_
                            refine WL.val (Value.int .i64 x279.1) _ (op_move rfl) rfl ?_
                            refine WL.val (Value.bool (x286 != x279.1)) _ (op_neq rfl rfl) rfl ?_
                            refine WL.nil ?_
                            show W _ _ _ _ _ _
                            refine W.cond (x286 != x279.1) rfl (fun hc295 => ?_) (fun hc295 => ?_)
                            · replace h := ip h hc295
                              refine W.seq ?_
                              refine W.region ?_
                              refine WL.val (Value.bool false) _ (op_assign rfl) rfl ?_
                              refine WL.nil ?_
                              show W _ _ _ _ _ _
                              refine W.ret ?_
                              obtain rfl := Option.some.inj h
                              show FinP _ _ _ _ _ _ _
                              exact FinP.ret _ (res1 rfl rfl) ⟨rfl, (Ext.trans hE69 hS292.ext)⟩
                            · replace h := inegb h hc295
                              refine W.skip ?_
                              show W _ _ _ _ _ _
                              refine W.seq ?_
                              refine W.region ?_
                              refine WL.val (Value.agg #[v_aR_Table]) _ (op_loadBox st_24 hf271 (BoxAt.lift (Ext.trans hE70 hS292.ext) hx6) rfl rfl) rfl ?_
                              obtain ⟨x297, hx298, h⟩ := bs h
                              refine WL.call _ (op_call fn_13 (args1 rfl)) (c_laws_toRing (Ty.lift _ (Ext.trans hE69 hS292.ext) r_aR_Table) hx298) rfl ?_
                              rintro _ wd300 ⟨u299, rfl, he301, hs302⟩
                              have hS303 := St.join hS292 he301 hs302
                              replace hS303 : St wd64 wd300 [(Ty.sl (Ty.i .i64)).at u104 x279.2, (Ty.sl (Ty.sl (Ty.sl (Ty.i .i64)))).at u299 x297] := hS303
                              refine WL.val v_aX _ (op_move hf269) rfl ?_
                              obtain ⟨x304, hx305, h⟩ := bs h
                              refine WL.call _ (op_call fn_14 (args1 rfl)) (c_laws_toInt64S (Ty.lift _ (Ext.trans hE69 hS303.ext) r_aX) hx305) rfl ?_
                              rintro u306 wd307 ⟨_, rfl, he308, hs309⟩
                              have hS310 := St.join hS303 he308 hs309
                              replace hS310 : St wd64 wd307 [(Ty.sl (Ty.i .i64)).at u104 x279.2, (Ty.sl (Ty.sl (Ty.sl (Ty.i .i64)))).at u299 x297, (Ty.sl (Ty.i .i64)).at u306 x304] := hS310
                              refine WL.val v_aY _ (op_move hf270) rfl ?_
                              obtain ⟨x311, hx312, h⟩ := bs h
                              refine WL.call _ (op_call fn_14 (args1 rfl)) (c_laws_toInt64S (Ty.lift _ (Ext.trans hE69 hS310.ext) r_aY) hx312) rfl ?_
                              rintro u313 wd314 ⟨_, rfl, he315, hs316⟩
                              have hS317 := St.join hS310 he315 hs316
                              replace hS317 : St wd64 wd314 [(Ty.sl (Ty.i .i64)).at u104 x279.2, (Ty.sl (Ty.sl (Ty.sl (Ty.i .i64)))).at u299 x297, (Ty.sl (Ty.i .i64)).at u306 x304, (Ty.sl (Ty.i .i64)).at u313 x311] := hS317
                              obtain ⟨x318, hx319, h⟩ := bs h
                              refine WL.call _ (op_call fn_25 (args3 rfl rfl rfl)) (c_impl_MultiplyVectors (St.rep (t := (Ty.sl (Ty.sl (Ty.sl (Ty.i .i64))))) hS317 1 rfl) (St.rep (t := (Ty.sl (Ty.i .i64))) hS317 2 rfl) (St.rep (t := (Ty.sl (Ty.i .i64))) hS317 3 rfl) hx319) rfl ?_
                              rintro _ wd322 ⟨u320, rfl, hr321, he323, hs324⟩
                              have hS325 := St.join hS317 he323 hs324
                              replace hS325 : St wd64 wd322 [(Ty.sl (Ty.i .i64)).at u104 x279.2, (Ty.sl (Ty.sl (Ty.sl (Ty.i .i64)))).at u299 x297, (Ty.sl (Ty.i .i64)).at u306 x304, (Ty.sl (Ty.i .i64)).at u313 x311, (Ty.sl (Ty.i .i64)).at u320 x318.1] := hS325
                              refine WL.val (Value.tuple #[u320, (Value.int .i64 x318.2)]) _ (op_move rfl) rfl ?_
                              refine WL.val u320 _ (op_extract rfl rfl) rfl ?_
                              refine WL.val (Value.int .i64 x318.2) _ (op_extract rfl rfl) rfl ?_
                              refine WL.val u320 _ (op_assign rfl) rfl ?_
                              refine WL.val (Value.int .i64 x318.2) _ (op_assign rfl) rfl ?_
                              refine WL.nil ?_
                              show W _ _ _ _ _ _
                              refine W.seq ?_
                              refine W.seq ?_
                              refine W.region ?_
                              refine WL.val u320 _ (op_move rfl) rfl ?_
                              refine WL.val u62 _ (op_move hf272) rfl ?_
                              obtain ⟨x326, hx327, h⟩ := bs h
                              refine WL.call _ (op_call fn_17 (args2 rfl rfl)) (c_laws_eqInt64S (St.rep (t := (Ty.sl (Ty.i .i64))) hS325 4 rfl) (Ty.lift _ hS325.ext hb68) hx327) rfl ?_
                              rintro _ wd328 ⟨rfl, he329⟩
                              have hS331 := St.extend hS325 he329
                              replace hS331 : St wd64 wd328 [(Ty.sl (Ty.i .i64)).at u104 x279.2, (Ty.sl (Ty.sl (Ty.sl (Ty.i .i64)))).at u299 x297, (Ty.sl (Ty.i .i64)).at u306 x304, (Ty.sl (Ty.i .i64)).at u313 x311, (Ty.sl (Ty.i .i64)).at u320 x318.1] := hS331
                              refine WL.val (Value.bool (!x326)) _ (op_not rfl) rfl ?_
                              refine WL.val (Value.bool (!x326)) _ (op_move rfl) rfl ?_
                              refine WL.cut 4 (fun fq wq => fq 13 = u104 ∧ fq 16 = (Value.int .i64 x279.1) ∧ fq 129 = (Value.bool ((!x326) || (x318.2 != x60.2))) ∧ St wd64 wq [(Ty.sl (Ty.i .i64)).at u104 x279.2]) ?_ ?_
                              · rcases Bool.eq_false_or_eq_true (!x326) with hc332 | hc332
                                · refine WL.gskip rfl (bool_of rfl hc332) rfl ?_
                                  refine WL.gskip rfl (bool_of rfl hc332) rfl ?_
                                  refine WL.gskip rfl (bool_of rfl hc332) rfl ?_
                                  refine WL.val (Value.bool true) _ (op_pick_t (evb_of rfl hc332) rfl) rfl ?_
                                  refine WL.nil ?_
                                  exact ⟨rfl, hf274, rfl, (orT hc332), (St.pick hS331 [0] rfl)⟩
                                · refine WL.grun rfl (bool_of rfl hc332) ?_
                                  refine WL.val (Value.int .i64 x318.2) _ (op_move rfl) rfl ?_
                                  refine WL.grun rfl (bool_of rfl hc332) ?_
                                  refine WL.val (Value.int .i64 x60.2) _ (op_move hf273) rfl ?_
                                  refine WL.grun rfl (bool_of rfl hc332) ?_
                                  refine WL.val (Value.bool (x318.2 != x60.2)) _ (op_neq rfl rfl) rfl ?_
                                  refine WL.val (Value.bool (x318.2 != x60.2)) _ (op_pick_f (evb_of rfl hc332) rfl) rfl ?_
                                  refine WL.nil ?_
                                  exact ⟨rfl, hf274, rfl, (orF hc332), (St.pick hS331 [0] rfl)⟩
                              · intro f333 wd334 hq335
                                obtain ⟨hf336, hf337, hf338, hS339⟩ := hq335
                                refine WL.nil ?_
                                show W _ _ _ _ _ _
                                refine W.cond ((!x326) || (x318.2 != x60.2)) hf338 (fun hc340 => ?_) (fun hc340 => ?_)
                                · replace h := ip h hc340
                                  refine W.seq ?_
                                  refine W.region ?_
                                  refine WL.val (Value.bool false) _ (op_assign rfl) rfl ?_
                                  refine WL.nil ?_
                                  show W _ _ _ _ _ _
                                  refine W.ret ?_
                                  obtain rfl := Option.some.inj h
                                  show FinP _ _ _ _ _ _ _
                                  exact FinP.ret _ (res1 rfl rfl) ⟨rfl, (Ext.trans hE69 hS339.ext)⟩
                                · replace h := inegb h hc340
                                  refine W.skip ?_
                                  show W _ _ _ _ _ _
                                  refine W.seq ?_
                                  refine W.region ?_
                                  refine WL.val (Value.int .i64 (1 : Int)) _ (op_assign rfl) rfl ?_
                                  refine WL.nil ?_
                                  show W _ _ _ _ _ _
                                  refine W.seq ?_
                                  refine W.region ?_
                                  refine WL.val u104 _ (op_move hf336) rfl ?_
                                  refine WL.val (Value.int .i64 (1 : Int)) _ (op_move rfl) rfl ?_
                                  obtain ⟨x342, hx343, h⟩ := bs h
                                  refine WL.call _ (op_call fn_28 (args2 rfl rfl)) (c_laws_heldInt64S (St.rep (t := (Ty.sl (Ty.i .i64))) hS339 0 rfl) (inR_i64.2 (show (-9223372036854775808 : Int) ≤ 1 ∧ (1 : Int) ≤ 9223372036854775807 from by decide)) hx343) rfl ?_
                                  rintro _ wd345 ⟨rfl, hr344, he346⟩
                                  have hS348 := St.extend hS339 he346
                                  replace hS348 : St wd64 wd345 [(Ty.sl (Ty.i .i64)).at u104 x279.2] := hS348
                                  refine WL.val (Value.int .i64 x342) _ (op_assign rfl) rfl ?_
                                  refine WL.nil ?_
                                  show W _ _ _ _ _ _
                                  refine W.seq ?_
                                  refine W.seq ?_
                                  refine W.region ?_
                                  refine WL.val (Value.int .i64 x342) _ (op_move rfl) rfl ?_
                                  refine WL.val (Value.bool (decide (x342 < (0 : Int)))) _ (op_lss rfl rfl) rfl ?_
                                  refine WL.nil ?_
                                  show W _ _ _ _ _ _
                                  refine W.cond (decide (x342 < (0 : Int))) rfl (fun hc349 => ?_) (fun hc349 => ?_)
                                  · replace h := ip h hc349
                                    refine W.seq ?_
                                    refine W.region ?_
                                    refine WL.val (Value.bool false) _ (op_assign rfl) rfl ?_
                                    refine WL.nil ?_
                                    show W _ _ _ _ _ _
                                    refine W.ret ?_
                                    obtain rfl := Option.some.inj h
                                    show FinP _ _ _ _ _ _ _
                                    exact FinP.ret _ (res1 rfl rfl) ⟨rfl, (Ext.trans hE69 hS348.ext)⟩
                                  · replace h := inegb h hc349
                                    refine W.skip ?_
                                    show W _ _ _ _ _ _
                                    refine W.seq ?_
                                    refine W.seq ?_
                                    refine W.region ?_
                                    refine WL.val (Value.int .i64 x342) _ (op_move rfl) rfl ?_
                                    refine WL.val (Value.int .i64 x279.1) _ (op_move hf337) rfl ?_
                                    refine WL.val (Value.bool (x342 != x279.1)) _ (op_neq rfl rfl) rfl ?_
                                    refine WL.nil ?_
                                    show W _ _ _ _ _ _
                                    refine W.cond (x342 != x279.1) rfl (fun hc351 => ?_) (fun hc351 => ?_)
                                    · replace h := ip h hc351
                                      refine W.seq ?_
                                      refine W.region ?_
                                      refine WL.val (Value.bool false) _ (op_assign rfl) rfl ?_
                                      refine WL.nil ?_
                                      show W _ _ _ _ _ _
                                      refine W.ret ?_
                                      obtain rfl := Option.some.inj h
                                      show FinP _ _ _ _ _ _ _
                                      exact FinP.ret _ (res1 rfl rfl) ⟨rfl, (Ext.trans hE69 hS348.ext)⟩
                                    · replace h := inegb h hc351
                                      refine W.skip ?_
                                      show W _ _ _ _ _ _
                                      refine W.seq ?_
                                      refine W.region ?_
                                      refine WL.val (Value.bool true) _ (op_assign rfl) rfl ?_
                                      refine WL.nil ?_
                                      show W _ _ _ _ _ _
                                      refine W.ret ?_
                                      obtain rfl := Option.some.inj h
                                      show FinP _ _ _ _ _ _ _
                                      exact FinP.ret _ (res1 rfl rfl) ⟨rfl, (Ext.trans hE69 hS348.ext)⟩

end Go.VG
