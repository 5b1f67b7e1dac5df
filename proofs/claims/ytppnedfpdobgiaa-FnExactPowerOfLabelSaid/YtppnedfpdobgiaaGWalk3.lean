/- The walks, part 3: each Go function returns what its plain twin returns. No condition beyond what each names. -/
import Derived.Test.YtppnedfpdobgiaaGWalk2
set_option linter.all false
namespace Go.VG
open Go.Proofs
attribute [local irreducible] W WL Sep FinP

theorem c_spec_l03Times {w : World} {r_Table : (List (List (List Int)))} {v_r_Table : Value} {x : (List Int)} {v_x : Value} {y : (List Int)} {v_y : Value} (r_r_Table : (Ty.sl (Ty.sl (Ty.sl (Ty.i .i64)))).rep w v_r_Table r_Table) (r_x : (Ty.sl (Ty.i .i64)).rep w v_x x) (r_y : (Ty.sl (Ty.i .i64)).rep w v_y y) {res : (List Int)} (h : p_spec_l03Times r_Table x y  = some res) :
    Ret Try.prog 48 #[(Value.agg #[v_r_Table]), v_x, v_y] w (fun v w' => ∃ (u0 : Value), v = u0 ∧ Ext w w' ∧ Sep w.heap.size w' [(Ty.sl (Ty.i .i64)).at u0 res]) := by
  unfold p_spec_l03Times at h
  have hS0 : St w w [] := St.start w
  refine Ret.start (fn := Try.f48) Try.func48 rfl 69 rfl rfl ?_
  refine W.seq ?_
  refine W.region ?_
  refine WL.box hS0 rfl (cs := [v_r_Table]) rfl rfl ?_
  intro b1 wd2 hS3 he4 hx5
  replace hS3 : St w wd2 [bx b1 [v_r_Table]] := hS3
  have hx6 := St.boxAt hS3 0 rfl
  have hE7 : Ext w wd2 := hS3.ext
  have hS8 : St wd2 wd2 [] := St.start wd2
  refine WL.val (Value.slice none 0 0) _ (op_assign rfl) rfl ?_
  refine WL.nil ?_
  show W _ _ _ _ _ _
  refine W.seq ?_
  refine W.region ?_
  refine WL.val v_x _ (op_move rfl) rfl ?_
  have hr9 := inR_len (Ty.lift _ (Ext.trans hE7 hS8.ext) r_x)
  refine WL.val (Value.int .i64 ((x).length : Int)) _ (op_lenL sl_25 (Ty.lift _ (Ext.trans hE7 hS8.ext) r_x) rfl) rfl ?_
  obtain ⟨x10, hx11, h⟩ := bs h
  refine WL.make (t := (Ty.i .i64)) hS8 sl_25 (fun _ _ => ⟨rfl, (inR_i64.2 (show (-9223372036854775808 : Int) ≤ 0 ∧ (0 : Int) ≤ 9223372036854775807 from by decide))⟩) rfl rfl hx11 rfl rfl ?_
  intro u12 wd13 hS14 he15
  replace hS14 : St wd2 wd13 [(Ty.sl (Ty.i .i64)).at u12 x10] := hS14
  refine WL.val u12 _ (op_assign rfl) rfl ?_
  refine WL.nil ?_
  show W _ _ _ _ _ _
  refine W.seq ?_
  refine W.seq ?_
  refine W.region ?_
  refine WL.val (Value.int .i64 (0 : Int)) _ (op_assign rfl) rfl ?_
  refine WL.nil ?_
  show W _ _ _ _ _ _
  obtain ⟨res16, hres17, h⟩ := bs h
  refine W.blockLoop (fun fq wq => ∃ s, res16 = Res.fin s ∧ fq 7 = u12 ∧ St wd2 wq [(Ty.sl (Ty.i .i64)).at u12 s]) ?_ ?_
  · refine W.forN (fun k (s : (List Int)) fq wq => fq 1 = v_x ∧ fq 2 = v_y ∧ fq 3 = (Value.pointer (some ⟨b1, 0, none⟩)) ∧ fq 7 = u12 ∧ fq 8 = Value.int .i64 (k : Int) ∧ InR .i64 (k : Int) ∧ St wd2 wq [(Ty.sl (Ty.i .i64)).at u12 s]) hres17 ⟨rfl, rfl, rfl, rfl, rfl, (inR_i64.2 (show (-9223372036854775808 : Int) ≤ 0 ∧ (0 : Int) ≤ 9223372036854775807 from by decide)), hS14⟩ ?_ ?_
    · intro k18 x19 ct20 f21 wd22 hk23 hb24 hI25 hbrk26 hret27
      replace hI25 : f21 1 = v_x ∧ f21 2 = v_y ∧ f21 3 = (Value.pointer (some ⟨b1, 0, none⟩)) ∧ f21 7 = u12 ∧ f21 8 = Value.int .i64 (k18 : Int) ∧ InR .i64 (k18 : Int) ∧ St wd2 wd22 [(Ty.sl (Ty.i .i64)).at u12 x19] := hI25
      replace hb24 : p_spec_l03Times_L1 y x r_Table k18 x19 = some ct20 := hb24
      unfold p_spec_l03Times_L1 at hb24
      obtain ⟨hf28, hf29, hf30, hf31, hf32, hr33, hS34⟩ := hI25
      refine W.seq ?_
      refine W.seq ?_
      refine W.region ?_
      refine WL.val (Value.int .i64 (k18 : Int)) _ (op_move hf32) rfl ?_
      refine WL.val v_x _ (op_move hf28) rfl ?_
      have hr35 := inR_len (Ty.lift _ (Ext.trans hE7 hS34.ext) r_x)
      refine WL.val (Value.int .i64 ((x).length : Int)) _ (op_lenL sl_25 (Ty.lift _ (Ext.trans hE7 hS34.ext) r_x) rfl) rfl ?_
      refine WL.val (Value.bool (decide ((k18 : Int) < ((x).length : Int)))) _ (op_lss rfl rfl) rfl ?_
      have hl36 : (k18 : Int) < ((x).length : Int) := by omega
      refine WL.nil ?_
      show W _ _ _ _ _ _
      refine W.condT (decide ((k18 : Int) < ((x).length : Int))) rfl (decide_eq_true hl36) ?_
      refine W.skip ?_
      show W _ _ _ _ _ _
      refine W.seq ?_
      refine W.block ?_
      refine W.seq ?_
      refine W.region ?_
      refine WL.val (Value.int .i64 (0 : Int)) _ (op_assign rfl) rfl ?_
      refine WL.nil ?_
      show W _ _ _ _ _ _
      obtain ⟨res38, hres39, hb24⟩ := bs hb24
      refine W.blockLoop (fun fq wq => ∃ s, res38 = Res.fin s ∧ fq 1 = v_x ∧ fq 2 = v_y ∧ fq 3 = (Value.pointer (some ⟨b1, 0, none⟩)) ∧ fq 7 = u12 ∧ fq 8 = (Value.int .i64 (k18 : Int)) ∧ St wd2 wq [(Ty.sl (Ty.i .i64)).at u12 s.1]) ?_ ?_
      · refine W.whileC (fun (s : (List Int) × Int) fq wq => fq 1 = v_x ∧ fq 2 = v_y ∧ fq 3 = (Value.pointer (some ⟨b1, 0, none⟩)) ∧ fq 7 = u12 ∧ fq 8 = (Value.int .i64 (k18 : Int)) ∧ fq 9 = Value.int .i64 s.2 ∧ InR .i64 s.2 ∧ St wd2 wq [(Ty.sl (Ty.i .i64)).at u12 s.1]) hres39 ⟨hf28, hf29, hf30, hf31, hf32, rfl, (inR_i64.2 (show (-9223372036854775808 : Int) ≤ 0 ∧ (0 : Int) ≤ 9223372036854775807 from by decide)), hS34⟩ ?_
        intro s420 ct43 f44 wd45 hb47 hI48 hbrk49 hret50
        obtain ⟨x41, x42⟩ := s420
        replace hI48 : f44 1 = v_x ∧ f44 2 = v_y ∧ f44 3 = (Value.pointer (some ⟨b1, 0, none⟩)) ∧ f44 7 = u12 ∧ f44 8 = (Value.int .i64 (k18 : Int)) ∧ f44 9 = Value.int .i64 x42 ∧ InR .i64 x42 ∧ St wd2 wd45 [(Ty.sl (Ty.i .i64)).at u12 x41] := hI48
        replace hb47 : p_spec_l03Times_L2 y x k18 r_Table  x41 x42 = some ct43 := hb47
        unfold p_spec_l03Times_L2 at hb47
        obtain ⟨hf51, hf52, hf53, hf54, hf55, hf56, hr57, hS58⟩ := hI48
        refine W.seq ?_
        refine W.seq ?_
        refine W.region ?_
        refine WL.val (Value.int .i64 x42) _ (op_move hf56) rfl ?_
        refine WL.val v_y _ (op_move hf52) rfl ?_
        have hr59 := inR_len (Ty.lift _ (Ext.trans hE7 hS58.ext) r_y)
        refine WL.val (Value.int .i64 ((y).length : Int)) _ (op_lenL sl_25 (Ty.lift _ (Ext.trans hE7 hS58.ext) r_y) rfl) rfl ?_
        refine WL.val (Value.bool (decide (x42 < ((y).length : Int)))) _ (op_lss rfl rfl) rfl ?_
        refine WL.val (Value.bool (decide (x42 < ((y).length : Int)))) _ (op_move rfl) rfl ?_
        obtain ⟨x61, hj62, hb47⟩ := bs hb47
        refine WL.cut 6 (fun fq wq => fq 1 = v_x ∧ fq 2 = v_y ∧ fq 3 = (Value.pointer (some ⟨b1, 0, none⟩)) ∧ fq 7 = u12 ∧ fq 8 = (Value.int .i64 (k18 : Int)) ∧ fq 9 = (Value.int .i64 x42) ∧ fq 30 = Value.bool x61 ∧ St wd2 wq [(Ty.sl (Ty.i .i64)).at u12 x41]) ?_ ?_
        · rcases Bool.eq_false_or_eq_true (decide (x42 < ((y).length : Int))) with hc60 | hc60
          · replace hj62 := ip hj62 hc60
            refine WL.grun rfl (bool_of rfl hc60) ?_
            refine WL.val v_x _ (op_move hf51) rfl ?_
            refine WL.grun rfl (bool_of rfl hc60) ?_
            refine WL.val (Value.int .i64 (k18 : Int)) _ (op_move hf55) rfl ?_
            refine WL.grun rfl (bool_of rfl hc60) ?_
            obtain ⟨x66, hx69, hj62⟩ := bs hj62
            obtain ⟨ha67, hb68, hx69⟩ := idx_some hx69
            refine WL.val (Value.pointer (some (elA v_x ((k18 : Int)).toNat))) _ (op_idx sl_25 (Ty.lift _ (Ext.trans hE7 hS58.ext) r_x) rfl rfl ha67 hb68) rfl ?_
            refine WL.grun rfl (bool_of rfl hc60) ?_
            obtain ⟨u70, hc71, hr72⟩ := repSl.el r_x hx69
            obtain ⟨rfl, hr72⟩ := hr72
            refine WL.val (Value.int .i64 x66) _ (op_load one_2 rfl (Ext.cell (Ext.trans hE7 hS58.ext) hc71)) rfl ?_
            refine WL.grun rfl (bool_of rfl hc60) ?_
            refine WL.val (Value.bool (x66 != (0 : Int))) _ (op_neq rfl rfl) rfl ?_
            refine WL.val (Value.bool (x66 != (0 : Int))) _ (op_pick_t (evb_of rfl hc60) rfl) rfl ?_
            refine WL.nil ?_
            obtain rfl := Option.some.inj hj62
            exact ⟨rfl, hf51, hf52, hf53, hf54, hf55, hf56, rfl, hS58⟩
          · replace hj62 := inegb hj62 hc60
            refine WL.gskip rfl (bool_of rfl hc60) rfl ?_
            refine WL.gskip rfl (bool_of rfl hc60) rfl ?_
            refine WL.gskip rfl (bool_of rfl hc60) rfl ?_
            refine WL.gskip rfl (bool_of rfl hc60) rfl ?_
            refine WL.gskip rfl (bool_of rfl hc60) rfl ?_
            refine WL.val (Value.bool false) _ (op_pick_f (evb_of rfl hc60) rfl) rfl ?_
            refine WL.nil ?_
            obtain rfl := Option.some.inj hj62
            exact ⟨rfl, hf51, hf52, hf53, hf54, hf55, hf56, rfl, hS58⟩
        · intro f63 wd64 hq65
          obtain ⟨hf73, hf74, hf75, hf76, hf77, hf78, hf79, hS80⟩ := hq65
          refine WL.nil ?_
          show W _ _ _ _ _ _
          refine W.cond x61 hf79 (fun hc81 => ?_) (fun hc81 => ?_)
          · replace hb47 := ip hb47 hc81
            refine W.skip ?_
            show W _ _ _ _ _ _
            refine W.seq ?_
            refine W.block ?_
            refine W.seq ?_
            refine W.region ?_
            refine WL.val (Value.int .i64 (0 : Int)) _ (op_assign rfl) rfl ?_
            refine WL.nil ?_
            show W _ _ _ _ _ _
            obtain ⟨res83, hres84, hb47⟩ := bs hb47
            refine W.blockLoop (fun fq wq => ∃ s, res83 = Res.fin s ∧ fq 1 = v_x ∧ fq 2 = v_y ∧ fq 3 = (Value.pointer (some ⟨b1, 0, none⟩)) ∧ fq 7 = u12 ∧ fq 8 = (Value.int .i64 (k18 : Int)) ∧ fq 9 = (Value.int .i64 x42) ∧ (s).length = (x41).length ∧ St wd2 wq [(Ty.sl (Ty.i .i64)).at u12 s]) ?_ ?_
            · refine W.forN (fun k (s : (List Int)) fq wq => fq 1 = v_x ∧ fq 2 = v_y ∧ fq 3 = (Value.pointer (some ⟨b1, 0, none⟩)) ∧ fq 7 = u12 ∧ fq 8 = (Value.int .i64 (k18 : Int)) ∧ fq 9 = (Value.int .i64 x42) ∧ fq 10 = Value.int .i64 (k : Int) ∧ InR .i64 (k : Int) ∧ (s).length = (x41).length ∧ St wd2 wq [(Ty.sl (Ty.i .i64)).at u12 s]) hres84 ⟨hf73, hf74, hf75, hf76, hf77, hf78, rfl, (inR_i64.2 (show (-9223372036854775808 : Int) ≤ 0 ∧ (0 : Int) ≤ 9223372036854775807 from by decide)), rfl, hS80⟩ ?_ ?_
              · intro k85 x86 ct87 f88 wd89 hk90 hb91 hI92 hbrk93 hret94
                replace hI92 : f88 1 = v_x ∧ f88 2 = v_y ∧ f88 3 = (Value.pointer (some ⟨b1, 0, none⟩)) ∧ f88 7 = u12 ∧ f88 8 = (Value.int .i64 (k18 : Int)) ∧ f88 9 = (Value.int .i64 x42) ∧ f88 10 = Value.int .i64 (k85 : Int) ∧ InR .i64 (k85 : Int) ∧ (x86).length = (x41).length ∧ St wd2 wd89 [(Ty.sl (Ty.i .i64)).at u12 x86] := hI92
                replace hb91 : p_spec_l03Times_L3 x k18 y x42 r_Table k85 x86 = some ct87 := hb91
                unfold p_spec_l03Times_L3 at hb91
                obtain ⟨hf95, hf96, hf97, hf98, hf99, hf100, hf101, hr102, hL103, hS104⟩ := hI92
                refine W.seq ?_
                refine W.seq ?_
                refine W.region ?_
                refine WL.val (Value.int .i64 (k85 : Int)) _ (op_move hf101) rfl ?_
                refine WL.val u12 _ (op_move hf98) rfl ?_
                have hr105 := inR_len (St.rep (t := (Ty.sl (Ty.i .i64))) hS104 0 rfl)
                refine WL.val (Value.int .i64 ((x86).length : Int)) _ (op_lenL sl_25 (St.rep (t := (Ty.sl (Ty.i .i64))) hS104 0 rfl) rfl) rfl ?_
                refine WL.val (Value.bool (decide ((k85 : Int) < ((x86).length : Int)))) _ (op_lss rfl rfl) rfl ?_
                have hl106 : (k85 : Int) < ((x86).length : Int) := by omega
                refine WL.nil ?_
                show W _ _ _ _ _ _
                refine W.condT (decide ((k85 : Int) < ((x86).length : Int))) rfl (decide_eq_true hl106) ?_
                refine W.skip ?_
                show W _ _ _ _ _ _
                refine W.seq ?_
                refine W.block ?_
                obtain ⟨x145, hx148, hb91⟩ := bs hb91
                obtain ⟨ha146, hb147, hx148⟩ := idx_some hx148
                obtain ⟨u156, hc157, hr158⟩ := repSl.el (St.rep (t := (Ty.sl (Ty.i .i64))) hS104 0 rfl) hx148
                obtain ⟨rfl, hr158⟩ := hr158
                obtain ⟨x182, hx185, hb91⟩ := bs hb91
                obtain ⟨ha183, hb184, hx185⟩ := idx_some hx185
                obtain ⟨u193, hc194, hr195⟩ := repSl.el r_x hx185
                obtain ⟨rfl, hr195⟩ := hr195
                obtain ⟨x219, hx222, hb91⟩ := bs hb91
                obtain ⟨ha220, hb221, hx222⟩ := idx_some hx222
                obtain ⟨u230, hc231, hr232⟩ := repSl.el r_y hx222
                obtain ⟨rfl, hr232⟩ := hr232
                obtain ⟨x273, hx276, hb91⟩ := bs hb91
                obtain ⟨ha274, hb275, hx276⟩ := idx_some hx276
                obtain ⟨u284, hc285, hr286⟩ := repSl.el r_r_Table hx276
                obtain ⟨x303, hx306, hb91⟩ := bs hb91
                obtain ⟨ha304, hb305, hx306⟩ := idx_some hx306
                obtain ⟨u314, hc315, hr316⟩ := repSl.el hr286 hx306
                obtain ⟨x333, hx336, hb91⟩ := bs hb91
                obtain ⟨ha334, hb335, hx336⟩ := idx_some hx336
                obtain ⟨u344, hc345, hr346⟩ := repSl.el hr316 hx336
                obtain ⟨rfl, hr346⟩ := hr346
                refine W.draw mixo 28 [fun v _ => v = u12, fun v _ => v = (Value.int .i64 (k85 : Int)) ∧ InR .i64 (k85 : Int), fun v _ => v = u12, fun v _ => v = (Value.int .i64 (k85 : Int)) ∧ InR .i64 (k85 : Int), fun v _ => v = (Value.pointer (some (elA u12 ((k85 : Int)).toNat))), fun v _ => v = (Value.int .i64 x145) ∧ InR .i64 x145, fun v _ => v = v_x, fun v _ => v = (Value.int .i64 (k18 : Int)) ∧ InR .i64 (k18 : Int), fun v _ => v = (Value.pointer (some (elA v_x ((k18 : Int)).toNat))), fun v _ => v = (Value.int .i64 x182) ∧ InR .i64 x182, fun v _ => v = v_y, fun v _ => v = (Value.int .i64 x42) ∧ InR .i64 x42, fun v _ => v = (Value.pointer (some (elA v_y (x42).toNat))), fun v _ => v = (Value.int .i64 x219) ∧ InR .i64 x219, fun v _ => v = (Value.int .i64 (w64 (x182 * x219))) ∧ InR .i64 (w64 (x182 * x219)), fun v _ => v = (Value.pointer (some ⟨b1, 0, none⟩)), fun v _ => v = v_r_Table, fun v _ => v = (Value.int .i64 (k18 : Int)) ∧ InR .i64 (k18 : Int), fun v _ => v = (Value.pointer (some (elA v_r_Table ((k18 : Int)).toNat))), fun v _ => v = u284, fun v _ => v = (Value.int .i64 x42) ∧ InR .i64 x42, fun v _ => v = (Value.pointer (some (elA u284 (x42).toNat))), fun v _ => v = u314, fun v _ => v = (Value.int .i64 (k85 : Int)) ∧ InR .i64 (k85 : Int), fun v _ => v = (Value.pointer (some (elA u314 ((k85 : Int)).toNat))), fun v _ => v = (Value.int .i64 x333) ∧ InR .i64 x333, fun v _ => v = (Value.int .i64 (w64 ((w64 (x182 * x219)) * x333))) ∧ InR .i64 (w64 ((w64 (x182 * x219)) * x333)), fun v _ => v = (Value.int .i64 (w64 (x145 + (w64 ((w64 (x182 * x219)) * x333))))) ∧ InR .i64 (w64 (x145 + (w64 ((w64 (x182 * x219)) * x333))))] (by kernel_rfl) (by kernel_rfl) (stabL ⟨(fun _ _ _ _ h => h), (fun _ _ _ _ h => h), (fun _ _ _ _ h => h), (fun _ _ _ _ h => h), (fun _ _ _ _ h => h), (fun _ _ _ _ h => h), (fun _ _ _ _ h => h), (fun _ _ _ _ h => h), (fun _ _ _ _ h => h), (fun _ _ _ _ h => h), (fun _ _ _ _ h => h), (fun _ _ _ _ h => h), (fun _ _ _ _ h => h), (fun _ _ _ _ h => h), (fun _ _ _ _ h => h), (fun _ _ _ _ h => h), (fun _ _ _ _ h => h), (fun _ _ _ _ h => h), (fun _ _ _ _ h => h), (fun _ _ _ _ h => h), (fun _ _ _ _ h => h), (fun _ _ _ _ h => h), (fun _ _ _ _ h => h), (fun _ _ _ _ h => h), (fun _ _ _ _ h => h), (fun _ _ _ _ h => h), (fun _ _ _ _ h => h), (fun _ _ _ _ h => h), trivial⟩) ⟨?_, ?_, ?_, ?_, ?_, ?_, ?_, ?_, ?_, ?_, ?_, ?_, ?_, ?_, ?_, ?_, ?_, ?_, ?_, ?_, ?_, ?_, ?_, ?_, ?_, ?_, ?_, ?_, trivial⟩ ?_
                · intro f108 wd109 he110 hout111 hphi112
                  have hS113 : St wd2 wd109 [(Ty.sl (Ty.i .i64)).at u12 x86] := St.extend hS104 he110
                  have e114 : f108 7 = u12 := (hout111 7 rfl).trans hf98
                  exact OpY.val u12 wd109 rfl (op_move e114) (Ext.refl _) rfl
                · intro f115 wd116 he117 hout118 hphi119
                  have hS120 : St wd2 wd116 [(Ty.sl (Ty.i .i64)).at u12 x86] := St.extend hS104 he117
                  have e121 : f115 10 = (Value.int .i64 (k85 : Int)) := (hout118 10 rfl).trans hf101
                  exact OpY.val (Value.int .i64 (k85 : Int)) wd116 rfl (op_move e121) (Ext.refl _) ⟨rfl, hr102⟩
                · intro f122 wd123 he124 hout125 hphi126
                  have hS127 : St wd2 wd123 [(Ty.sl (Ty.i .i64)).at u12 x86] := St.extend hS104 he124
                  have e128 : f122 7 = u12 := (hout125 7 rfl).trans hf98
                  exact OpY.val u12 wd123 rfl (op_move e128) (Ext.refl _) rfl
                · intro f129 wd130 he131 hout132 hphi133
                  have hS134 : St wd2 wd130 [(Ty.sl (Ty.i .i64)).at u12 x86] := St.extend hS104 he131
                  have e135 : f129 10 = (Value.int .i64 (k85 : Int)) := (hout132 10 rfl).trans hf101
                  exact OpY.val (Value.int .i64 (k85 : Int)) wd130 rfl (op_move e135) (Ext.refl _) ⟨rfl, hr102⟩
                · intro f136 wd137 he138 hout139 hphi140
                  have hS141 : St wd2 wd137 [(Ty.sl (Ty.i .i64)).at u12 x86] := St.extend hS104 he138
                  have e142 : f136 41 = u12 := hphi140 2 41 _ rfl rfl rfl
                  obtain ⟨e143, hr144⟩ : f136 42 = (Value.int .i64 (k85 : Int)) ∧ InR .i64 (k85 : Int) := hphi140 3 42 _ rfl rfl rfl
                  exact OpY.val (Value.pointer (some (elA u12 ((k85 : Int)).toNat))) wd137 rfl (op_idx sl_25 (St.rep (t := (Ty.sl (Ty.i .i64))) hS141 0 rfl) e142 e143 ha146 hb147) (Ext.refl _) rfl
                · intro f149 wd150 he151 hout152 hphi153
                  have hS154 : St wd2 wd150 [(Ty.sl (Ty.i .i64)).at u12 x86] := St.extend hS104 he151
                  have e155 : f149 43 = (Value.pointer (some (elA u12 ((k85 : Int)).toNat))) := hphi153 4 43 _ rfl rfl rfl
                  exact OpY.val (Value.int .i64 x145) wd150 rfl (op_load one_2 e155 (Ext.cell he151 hc157)) (Ext.refl _) ⟨rfl, hr158⟩
                · intro f159 wd160 he161 hout162 hphi163
                  have hS164 : St wd2 wd160 [(Ty.sl (Ty.i .i64)).at u12 x86] := St.extend hS104 he161
                  have e165 : f159 1 = v_x := (hout162 1 rfl).trans hf95
                  exact OpY.val v_x wd160 rfl (op_move e165) (Ext.refl _) rfl
                · intro f166 wd167 he168 hout169 hphi170
                  have hS171 : St wd2 wd167 [(Ty.sl (Ty.i .i64)).at u12 x86] := St.extend hS104 he168
                  have e172 : f166 8 = (Value.int .i64 (k18 : Int)) := (hout169 8 rfl).trans hf99
                  exact OpY.val (Value.int .i64 (k18 : Int)) wd167 rfl (op_move e172) (Ext.refl _) ⟨rfl, hr33⟩
                · intro f173 wd174 he175 hout176 hphi177
                  have hS178 : St wd2 wd174 [(Ty.sl (Ty.i .i64)).at u12 x86] := St.extend hS104 he175
                  have e179 : f173 45 = v_x := hphi177 6 45 _ rfl rfl rfl
                  obtain ⟨e180, hr181⟩ : f173 46 = (Value.int .i64 (k18 : Int)) ∧ InR .i64 (k18 : Int) := hphi177 7 46 _ rfl rfl rfl
                  exact OpY.val (Value.pointer (some (elA v_x ((k18 : Int)).toNat))) wd174 rfl (op_idx sl_25 (Ty.lift _ (Ext.trans hE7 hS178.ext) r_x) e179 e180 ha183 hb184) (Ext.refl _) rfl
                · intro f186 wd187 he188 hout189 hphi190
                  have hS191 : St wd2 wd187 [(Ty.sl (Ty.i .i64)).at u12 x86] := St.extend hS104 he188
                  have e192 : f186 47 = (Value.pointer (some (elA v_x ((k18 : Int)).toNat))) := hphi190 8 47 _ rfl rfl rfl
                  exact OpY.val (Value.int .i64 x182) wd187 rfl (op_load one_2 e192 (Ext.cell (Ext.trans hE7 hS191.ext) hc194)) (Ext.refl _) ⟨rfl, hr195⟩
                · intro f196 wd197 he198 hout199 hphi200
                  have hS201 : St wd2 wd197 [(Ty.sl (Ty.i .i64)).at u12 x86] := St.extend hS104 he198
                  have e202 : f196 2 = v_y := (hout199 2 rfl).trans hf96
                  exact OpY.val v_y wd197 rfl (op_move e202) (Ext.refl _) rfl
                · intro f203 wd204 he205 hout206 hphi207
                  have hS208 : St wd2 wd204 [(Ty.sl (Ty.i .i64)).at u12 x86] := St.extend hS104 he205
                  have e209 : f203 9 = (Value.int .i64 x42) := (hout206 9 rfl).trans hf100
                  exact OpY.val (Value.int .i64 x42) wd204 rfl (op_move e209) (Ext.refl _) ⟨rfl, hr57⟩
                · intro f210 wd211 he212 hout213 hphi214
                  have hS215 : St wd2 wd211 [(Ty.sl (Ty.i .i64)).at u12 x86] := St.extend hS104 he212
                  have e216 : f210 49 = v_y := hphi214 10 49 _ rfl rfl rfl
                  obtain ⟨e217, hr218⟩ : f210 50 = (Value.int .i64 x42) ∧ InR .i64 x42 := hphi214 11 50 _ rfl rfl rfl
                  exact OpY.val (Value.pointer (some (elA v_y (x42).toNat))) wd211 rfl (op_idx sl_25 (Ty.lift _ (Ext.trans hE7 hS215.ext) r_y) e216 e217 ha220 hb221) (Ext.refl _) rfl
                · intro f223 wd224 he225 hout226 hphi227
                  have hS228 : St wd2 wd224 [(Ty.sl (Ty.i .i64)).at u12 x86] := St.extend hS104 he225
                  have e229 : f223 51 = (Value.pointer (some (elA v_y (x42).toNat))) := hphi227 12 51 _ rfl rfl rfl
                  exact OpY.val (Value.int .i64 x219) wd224 rfl (op_load one_2 e229 (Ext.cell (Ext.trans hE7 hS228.ext) hc231)) (Ext.refl _) ⟨rfl, hr232⟩
                · intro f233 wd234 he235 hout236 hphi237
                  have hS238 : St wd2 wd234 [(Ty.sl (Ty.i .i64)).at u12 x86] := St.extend hS104 he235
                  obtain ⟨e239, hr240⟩ : f233 48 = (Value.int .i64 x182) ∧ InR .i64 x182 := hphi237 9 48 _ rfl rfl rfl
                  obtain ⟨e241, hr242⟩ : f233 52 = (Value.int .i64 x219) ∧ InR .i64 x219 := hphi237 13 52 _ rfl rfl rfl
                  exact OpY.val (Value.int .i64 (w64 (x182 * x219))) wd234 rfl (op_mul e239 e241) (Ext.refl _) ⟨rfl, (inR_wrap _ _)⟩
                · intro f243 wd244 he245 hout246 hphi247
                  have hS248 : St wd2 wd244 [(Ty.sl (Ty.i .i64)).at u12 x86] := St.extend hS104 he245
                  have e249 : f243 3 = (Value.pointer (some ⟨b1, 0, none⟩)) := (hout246 3 rfl).trans hf97
                  exact OpY.val (Value.pointer (some ⟨b1, 0, none⟩)) wd244 rfl (op_fieldAddr fd_29_0 e249) (Ext.refl _) rfl
                · intro f250 wd251 he252 hout253 hphi254
                  have hS255 : St wd2 wd251 [(Ty.sl (Ty.i .i64)).at u12 x86] := St.extend hS104 he252
                  have e256 : f250 54 = (Value.pointer (some ⟨b1, 0, none⟩)) := hphi254 15 54 _ rfl rfl rfl
                  exact OpY.val v_r_Table wd251 rfl (op_load one_22 e256 (BoxAt.cell (BoxAt.lift hS255.ext hx6) rfl)) (Ext.refl _) rfl
                · intro f257 wd258 he259 hout260 hphi261
                  have hS262 : St wd2 wd258 [(Ty.sl (Ty.i .i64)).at u12 x86] := St.extend hS104 he259
                  have e263 : f257 8 = (Value.int .i64 (k18 : Int)) := (hout260 8 rfl).trans hf99
                  exact OpY.val (Value.int .i64 (k18 : Int)) wd258 rfl (op_move e263) (Ext.refl _) ⟨rfl, hr33⟩
                · intro f264 wd265 he266 hout267 hphi268
                  have hS269 : St wd2 wd265 [(Ty.sl (Ty.i .i64)).at u12 x86] := St.extend hS104 he266
                  have e270 : f264 55 = v_r_Table := hphi268 16 55 _ rfl rfl rfl
                  obtain ⟨e271, hr272⟩ : f264 56 = (Value.int .i64 (k18 : Int)) ∧ InR .i64 (k18 : Int) := hphi268 17 56 _ rfl rfl rfl
                  exact OpY.val (Value.pointer (some (elA v_r_Table ((k18 : Int)).toNat))) wd265 rfl (op_idx sl_22 (Ty.lift _ (Ext.trans hE7 hS269.ext) r_r_Table) e270 e271 ha274 hb275) (Ext.refl _) rfl
                · intro f277 wd278 he279 hout280 hphi281
                  have hS282 : St wd2 wd278 [(Ty.sl (Ty.i .i64)).at u12 x86] := St.extend hS104 he279
                  have e283 : f277 57 = (Value.pointer (some (elA v_r_Table ((k18 : Int)).toNat))) := hphi281 18 57 _ rfl rfl rfl
                  exact OpY.val u284 wd278 rfl (op_load one_61 e283 (Ext.cell (Ext.trans hE7 hS282.ext) hc285)) (Ext.refl _) rfl
                · intro f287 wd288 he289 hout290 hphi291
                  have hS292 : St wd2 wd288 [(Ty.sl (Ty.i .i64)).at u12 x86] := St.extend hS104 he289
                  have e293 : f287 9 = (Value.int .i64 x42) := (hout290 9 rfl).trans hf100
                  exact OpY.val (Value.int .i64 x42) wd288 rfl (op_move e293) (Ext.refl _) ⟨rfl, hr57⟩
                · intro f294 wd295 he296 hout297 hphi298
                  have hS299 : St wd2 wd295 [(Ty.sl (Ty.i .i64)).at u12 x86] := St.extend hS104 he296
                  have e300 : f294 58 = u284 := hphi298 19 58 _ rfl rfl rfl
                  obtain ⟨e301, hr302⟩ : f294 59 = (Value.int .i64 x42) ∧ InR .i64 x42 := hphi298 20 59 _ rfl rfl rfl
                  exact OpY.val (Value.pointer (some (elA u284 (x42).toNat))) wd295 rfl (op_idx sl_61 (Ty.lift _ (Ext.trans hE7 hS299.ext) hr286) e300 e301 ha304 hb305) (Ext.refl _) rfl
                · intro f307 wd308 he309 hout310 hphi311
                  have hS312 : St wd2 wd308 [(Ty.sl (Ty.i .i64)).at u12 x86] := St.extend hS104 he309
                  have e313 : f307 60 = (Value.pointer (some (elA u284 (x42).toNat))) := hphi311 21 60 _ rfl rfl rfl
                  exact OpY.val u314 wd308 rfl (op_load one_25 e313 (Ext.cell (Ext.trans hE7 hS312.ext) hc315)) (Ext.refl _) rfl
                · intro f317 wd318 he319 hout320 hphi321
                  have hS322 : St wd2 wd318 [(Ty.sl (Ty.i .i64)).at u12 x86] := St.extend hS104 he319
                  have e323 : f317 10 = (Value.int .i64 (k85 : Int)) := (hout320 10 rfl).trans hf101
                  exact OpY.val (Value.int .i64 (k85 : Int)) wd318 rfl (op_move e323) (Ext.refl _) ⟨rfl, hr102⟩
                · intro f324 wd325 he326 hout327 hphi328
                  have hS329 : St wd2 wd325 [(Ty.sl (Ty.i .i64)).at u12 x86] := St.extend hS104 he326
                  have e330 : f324 61 = u314 := hphi328 22 61 _ rfl rfl rfl
                  obtain ⟨e331, hr332⟩ : f324 62 = (Value.int .i64 (k85 : Int)) ∧ InR .i64 (k85 : Int) := hphi328 23 62 _ rfl rfl rfl
                  exact OpY.val (Value.pointer (some (elA u314 ((k85 : Int)).toNat))) wd325 rfl (op_idx sl_25 (Ty.lift _ (Ext.trans hE7 hS329.ext) hr316) e330 e331 ha334 hb335) (Ext.refl _) rfl
                · intro f337 wd338 he339 hout340 hphi341
                  have hS342 : St wd2 wd338 [(Ty.sl (Ty.i .i64)).at u12 x86] := St.extend hS104 he339
                  have e343 : f337 63 = (Value.pointer (some (elA u314 ((k85 : Int)).toNat))) := hphi341 24 63 _ rfl rfl rfl
                  exact OpY.val (Value.int .i64 x333) wd338 rfl (op_load one_2 e343 (Ext.cell (Ext.trans hE7 hS342.ext) hc345)) (Ext.refl _) ⟨rfl, hr346⟩
                · intro f347 wd348 he349 hout350 hphi351
                  have hS352 : St wd2 wd348 [(Ty.sl (Ty.i .i64)).at u12 x86] := St.extend hS104 he349
                  obtain ⟨e353, hr354⟩ : f347 53 = (Value.int .i64 (w64 (x182 * x219))) ∧ InR .i64 (w64 (x182 * x219)) := hphi351 14 53 _ rfl rfl rfl
                  obtain ⟨e355, hr356⟩ : f347 64 = (Value.int .i64 x333) ∧ InR .i64 x333 := hphi351 25 64 _ rfl rfl rfl
                  exact OpY.val (Value.int .i64 (w64 ((w64 (x182 * x219)) * x333))) wd348 rfl (op_mul e353 e355) (Ext.refl _) ⟨rfl, (inR_wrap _ _)⟩
                · intro f357 wd358 he359 hout360 hphi361
                  have hS362 : St wd2 wd358 [(Ty.sl (Ty.i .i64)).at u12 x86] := St.extend hS104 he359
                  obtain ⟨e363, hr364⟩ : f357 44 = (Value.int .i64 x145) ∧ InR .i64 x145 := hphi361 5 44 _ rfl rfl rfl
                  obtain ⟨e365, hr366⟩ : f357 65 = (Value.int .i64 (w64 ((w64 (x182 * x219)) * x333))) ∧ InR .i64 (w64 ((w64 (x182 * x219)) * x333)) := hphi361 26 65 _ rfl rfl rfl
                  exact OpY.val (Value.int .i64 (w64 (x145 + (w64 ((w64 (x182 * x219)) * x333))))) wd358 rfl (op_add e363 e365) (Ext.refl _) ⟨rfl, (inR_wrap _ _)⟩
                · intro f367 wd368 he369 hout370 hphi371
                  show WL _ _ _ _ _ _ _
                  have hS372 : St wd2 wd368 [(Ty.sl (Ty.i .i64)).at u12 x86] := St.extend hS104 he369
                  have e373 : f367 39 = u12 := hphi371 0 39 _ (by decide) rfl rfl
                  obtain ⟨e374, hr375⟩ : f367 40 = (Value.int .i64 (k85 : Int)) ∧ InR .i64 (k85 : Int) := hphi371 1 40 _ (by decide) rfl rfl
                  obtain ⟨e376, hr377⟩ : f367 66 = (Value.int .i64 (w64 (x145 + (w64 ((w64 (x182 * x219)) * x333))))) ∧ InR .i64 (w64 (x145 + (w64 ((w64 (x182 * x219)) * x333)))) := hphi371 27 66 _ (by decide) rfl rfl
                  have e378 : f367 1 = v_x := (hout370 1 rfl).trans hf95
                  have e379 : f367 2 = v_y := (hout370 2 rfl).trans hf96
                  have e380 : f367 3 = (Value.pointer (some ⟨b1, 0, none⟩)) := (hout370 3 rfl).trans hf97
                  have e381 : f367 7 = u12 := (hout370 7 rfl).trans hf98
                  have e382 : f367 8 = (Value.int .i64 (k18 : Int)) := (hout370 8 rfl).trans hf99
                  have e383 : f367 9 = (Value.int .i64 x42) := (hout370 9 rfl).trans hf100
                  have e384 : f367 10 = (Value.int .i64 (k85 : Int)) := (hout370 10 rfl).trans hf101
                  refine WL.val (Value.pointer (some (elA u12 ((k85 : Int)).toNat))) _ (op_idx sl_25 (St.rep (t := (Ty.sl (Ty.i .i64))) hS372 0 rfl) e373 e374 ha146 hb147) rfl ?_
                  refine WL.storeEl (flat_i .i64) hS372 (k := 0) rfl sz_2 rfl e376 (lt_of_idx ha146 hb147) ⟨rfl, hr377⟩ ?_
                  intro wd385 hS386
                  replace hS386 : St wd2 wd385 [(Ty.sl (Ty.i .i64)).at u12 ((x86).set ((k85 : Int)).toNat (w64 (x145 + (w64 ((w64 (x182 * x219)) * x333)))))] := hS386
                  refine WL.nil ?_
                  show W _ _ _ _ _ _
                  refine W.region ?_
                  refine WL.val (Value.int .i64 (k85 : Int)) _ (op_move e384) rfl ?_
                  refine WL.val (Value.int .i64 (w64 ((k85 : Int) + (1 : Int)))) _ (op_add rfl rfl) rfl ?_
                  refine WL.val (Value.int .i64 (w64 ((k85 : Int) + (1 : Int)))) _ (op_assign rfl) rfl ?_
                  refine WL.nil ?_
                  obtain rfl := Option.some.inj hb91
                  show ∃ s, _ = Ctl.next s ∧ _
                  exact ⟨_, rfl, e378, e379, e380, e381, e382, e383, (ctr_next hl106 hr105), (ctr_rng hl106 hr105), (by first | exact hL103 | (simp only [List.length_set]; exact hL103)), hS386⟩
              · intro x393 f388 wd389 hs390 hI391
                replace hI391 : f388 1 = v_x ∧ f388 2 = v_y ∧ f388 3 = (Value.pointer (some ⟨b1, 0, none⟩)) ∧ f388 7 = u12 ∧ f388 8 = (Value.int .i64 (k18 : Int)) ∧ f388 9 = (Value.int .i64 x42) ∧ f388 10 = Value.int .i64 (((x41).length : Nat) : Int) ∧ InR .i64 (((x41).length : Nat) : Int) ∧ (x393).length = (x41).length ∧ St wd2 wd389 [(Ty.sl (Ty.i .i64)).at u12 x393] := hI391
                obtain ⟨hf394, hf395, hf396, hf397, hf398, hf399, hf400, hr401, hL402, hS403⟩ := hI391
                refine W.seq ?_
                refine W.seq ?_
                refine W.region ?_
                refine WL.val (Value.int .i64 (((x41).length : Nat) : Int)) _ (op_move hf400) rfl ?_
                refine WL.val u12 _ (op_move hf397) rfl ?_
                have hr404 := inR_len (St.rep (t := (Ty.sl (Ty.i .i64))) hS403 0 rfl)
                refine WL.val (Value.int .i64 ((x393).length : Int)) _ (op_lenL sl_25 (St.rep (t := (Ty.sl (Ty.i .i64))) hS403 0 rfl) rfl) rfl ?_
                refine WL.val (Value.bool (decide ((((x41).length : Nat) : Int) < ((x393).length : Int)))) _ (op_lss rfl rfl) rfl ?_
                have hl405 : ¬ (((x41).length : Nat) : Int) < ((x393).length : Int) := by omega
                refine WL.nil ?_
                show W _ _ _ _ _ _
                refine W.condF (decide ((((x41).length : Nat) : Int) < ((x393).length : Int))) rfl (decide_eq_false hl405) ?_
                refine W.exit ?_
                show _ = _ ∧ _
                exact ⟨rfl, _, hs390, hf394, hf395, hf396, hf397, hf398, hf399, (by first | exact hL402 | (simp only [List.length_set]; exact hL402)), hS403⟩
            · rintro f406 wd407 ⟨x410, rfl, hq408⟩
              replace hb47 := onRes_fin hb47
              replace hq408 : f406 1 = v_x ∧ f406 2 = v_y ∧ f406 3 = (Value.pointer (some ⟨b1, 0, none⟩)) ∧ f406 7 = u12 ∧ f406 8 = (Value.int .i64 (k18 : Int)) ∧ f406 9 = (Value.int .i64 x42) ∧ (x410).length = (x41).length ∧ St wd2 wd407 [(Ty.sl (Ty.i .i64)).at u12 x410] := hq408
              obtain ⟨hf411, hf412, hf413, hf414, hf415, hf416, hL417, hS418⟩ := hq408
              show W _ _ _ _ _ _
              refine W.region ?_
              refine WL.val (Value.int .i64 x42) _ (op_move hf416) rfl ?_
              refine WL.val (Value.int .i64 (w64 (x42 + (1 : Int)))) _ (op_add rfl rfl) rfl ?_
              refine WL.val (Value.int .i64 (w64 (x42 + (1 : Int)))) _ (op_assign rfl) rfl ?_
              refine WL.nil ?_
              obtain rfl := Option.some.inj hb47
              show ∃ s, _ = Ctl.next s ∧ _
              exact ⟨_, rfl, hf411, hf412, hf413, hf414, hf415, rfl, (inR_wrap _ _), hS418⟩
          · replace hb47 := inegb hb47 hc81
            refine W.exit ?_
            obtain rfl := Option.some.inj hb47
            show _ = _ ∧ _
            exact ⟨rfl, _, hbrk49 _ rfl, hf73, hf74, hf75, hf76, hf77, hS80⟩
      · rintro f421 wd422 ⟨s424, rfl, hq423⟩
        replace hb24 := onRes_fin hb24
        obtain ⟨x425, x426⟩ := s424
        replace hq423 : f421 1 = v_x ∧ f421 2 = v_y ∧ f421 3 = (Value.pointer (some ⟨b1, 0, none⟩)) ∧ f421 7 = u12 ∧ f421 8 = (Value.int .i64 (k18 : Int)) ∧ St wd2 wd422 [(Ty.sl (Ty.i .i64)).at u12 x425] := hq423
        replace hb24 : (_ : Option _) = _ := hb24
        dsimp only at hb24
        obtain ⟨hf427, hf428, hf429, hf430, hf431, hS432⟩ := hq423
        show W _ _ _ _ _ _
        refine W.region ?_
        refine WL.val (Value.int .i64 (k18 : Int)) _ (op_move hf431) rfl ?_
        refine WL.val (Value.int .i64 (w64 ((k18 : Int) + (1 : Int)))) _ (op_add rfl rfl) rfl ?_
        refine WL.val (Value.int .i64 (w64 ((k18 : Int) + (1 : Int)))) _ (op_assign rfl) rfl ?_
        refine WL.nil ?_
        obtain rfl := Option.some.inj hb24
        show ∃ s, _ = Ctl.next s ∧ _
        exact ⟨_, rfl, hf427, hf428, hf429, hf430, (ctr_next hl36 hr35), (ctr_rng hl36 hr35), hS432⟩
    · intro x440 f435 wd436 hs437 hI438
      replace hI438 : f435 1 = v_x ∧ f435 2 = v_y ∧ f435 3 = (Value.pointer (some ⟨b1, 0, none⟩)) ∧ f435 7 = u12 ∧ f435 8 = Value.int .i64 (((x).length : Nat) : Int) ∧ InR .i64 (((x).length : Nat) : Int) ∧ St wd2 wd436 [(Ty.sl (Ty.i .i64)).at u12 x440] := hI438
      obtain ⟨hf441, hf442, hf443, hf444, hf445, hr446, hS447⟩ := hI438
      refine W.seq ?_
      refine W.seq ?_
      refine W.region ?_
      refine WL.val (Value.int .i64 (((x).length : Nat) : Int)) _ (op_move hf445) rfl ?_
      refine WL.val v_x _ (op_move hf441) rfl ?_
      have hr448 := inR_len (Ty.lift _ (Ext.trans hE7 hS447.ext) r_x)
      refine WL.val (Value.int .i64 ((x).length : Int)) _ (op_lenL sl_25 (Ty.lift _ (Ext.trans hE7 hS447.ext) r_x) rfl) rfl ?_
      refine WL.val (Value.bool (decide ((((x).length : Nat) : Int) < ((x).length : Int)))) _ (op_lss rfl rfl) rfl ?_
      have hl449 : ¬ (((x).length : Nat) : Int) < ((x).length : Int) := by omega
      refine WL.nil ?_
      show W _ _ _ _ _ _
      refine W.condF (decide ((((x).length : Nat) : Int) < ((x).length : Int))) rfl (decide_eq_false hl449) ?_
      refine W.exit ?_
      show _ = _ ∧ _
      exact ⟨rfl, _, hs437, hf444, hS447⟩
  · rintro f450 wd451 ⟨x454, rfl, hq452⟩
    replace h := onRes_fin h
    replace hq452 : f450 7 = u12 ∧ St wd2 wd451 [(Ty.sl (Ty.i .i64)).at u12 x454] := hq452
    obtain ⟨hf455, hS456⟩ := hq452
    show W _ _ _ _ _ _
    refine W.seq ?_
    refine W.region ?_
    refine WL.val u12 _ (op_move hf455) rfl ?_
    refine WL.val u12 _ (op_assign rfl) rfl ?_
    refine WL.nil ?_
    show W _ _ _ _ _ _
    refine W.ret ?_
    obtain rfl := Option.some.inj h
    show FinP _ _ _ _ _ _ _
    exact FinP.ret _ (res1 rfl rfl) ⟨u12, rfl, (Ext.trans hE7 hS456.ext), (St.out (St.pick hS456 [0] rfl) (hE7))⟩

theorem c_impl_Ring_product {w : World} {r_Table : (List (List (List Int)))} {v_r_Table : Value} {x : (List Int)} {v_x : Value} {y : (List Int)} {v_y : Value} (r_r_Table : (Ty.sl (Ty.sl (Ty.sl (Ty.i .i64)))).rep w v_r_Table r_Table) (r_x : (Ty.sl (Ty.i .i64)).rep w v_x x) (r_y : (Ty.sl (Ty.i .i64)).rep w v_y y) {res : (List Int)} (h : p_impl_Ring_product r_Table x y  = some res) :
    Ret Try.prog 49 #[(Value.agg #[v_r_Table]), v_x, v_y] w (fun v w' => ∃ (u0 : Value), v = u0 ∧ Ext w w' ∧ Sep w.heap.size w' [(Ty.sl (Ty.i .i64)).at u0 res]) := by
  unfold p_impl_Ring_product at h
  have hS0 : St w w [] := St.start w
  refine Ret.start (fn := Try.f49) Try.func49 rfl 65 rfl rfl ?_
  refine W.seq ?_
  refine W.region ?_
  refine WL.box hS0 rfl (cs := [v_r_Table]) rfl rfl ?_
  intro b1 wd2 hS3 he4 hx5
  replace hS3 : St w wd2 [bx b1 [v_r_Table]] := hS3
  have hx6 := St.boxAt hS3 0 rfl
  have hE7 : Ext w wd2 := hS3.ext
  have hS8 : St wd2 wd2 [] := St.start wd2
  refine WL.val (Value.slice none 0 0) _ (op_assign rfl) rfl ?_
  refine WL.nil ?_
  show W _ _ _ _ _ _
  refine W.seq ?_
  refine W.region ?_
  refine WL.val (Value.pointer (some ⟨b1, 0, none⟩)) _ (op_fieldAddr fd_29_0 rfl) rfl ?_
  refine WL.val v_r_Table _ (op_load one_22 rfl (BoxAt.cell (BoxAt.lift hS8.ext hx6) rfl)) rfl ?_
  have hr9 := inR_len (Ty.lift _ (Ext.trans hE7 hS8.ext) r_r_Table)
  refine WL.val (Value.int .i64 ((r_Table).length : Int)) _ (op_lenL sl_22 (Ty.lift _ (Ext.trans hE7 hS8.ext) r_r_Table) rfl) rfl ?_
  obtain ⟨x10, hx11, h⟩ := bs h
  refine WL.make (t := (Ty.i .i64)) hS8 sl_25 (fun _ _ => ⟨rfl, (inR_i64.2 (show (-9223372036854775808 : Int) ≤ 0 ∧ (0 : Int) ≤ 9223372036854775807 from by decide))⟩) rfl rfl hx11 rfl rfl ?_
  intro u12 wd13 hS14 he15
  replace hS14 : St wd2 wd13 [(Ty.sl (Ty.i .i64)).at u12 x10] := hS14
  refine WL.val u12 _ (op_assign rfl) rfl ?_
  refine WL.nil ?_
  show W _ _ _ _ _ _
  refine W.seq ?_
  refine W.seq ?_
  refine W.region ?_
  refine WL.val v_x _ (op_move rfl) rfl ?_
  have hr16 := inR_len (Ty.lift _ (Ext.trans hE7 hS14.ext) r_x)
  refine WL.val (Value.int .i64 ((x).length : Int)) _ (op_lenL sl_25 (Ty.lift _ (Ext.trans hE7 hS14.ext) r_x) rfl) rfl ?_
  refine WL.val (Value.int .i64 (0 : Int)) _ (op_move rfl) rfl ?_
  refine WL.nil ?_
  show W _ _ _ _ _ _
  obtain ⟨res17, hres18, h⟩ := bs h
  refine W.blockLoop (fun fq wq => ∃ s, res17 = Res.fin s ∧ fq 7 = u12 ∧ St wd2 wq [(Ty.sl (Ty.i .i64)).at u12 s]) ?_ ?_
  · refine W.forN (fun k (s : (List Int)) fq wq => fq 2 = v_y ∧ fq 3 = (Value.pointer (some ⟨b1, 0, none⟩)) ∧ fq 7 = u12 ∧ fq 18 = v_x ∧ fq 19 = (Value.int .i64 ((x).length : Int)) ∧ fq 20 = Value.int .i64 (k : Int) ∧ InR .i64 (k : Int) ∧ St wd2 wq [(Ty.sl (Ty.i .i64)).at u12 s]) hres18 ⟨rfl, rfl, rfl, rfl, rfl, rfl, (inR_i64.2 (show (-9223372036854775808 : Int) ≤ 0 ∧ (0 : Int) ≤ 9223372036854775807 from by decide)), hS14⟩ ?_ ?_
    · intro k19 x20 ct21 f22 wd23 hk24 hb25 hI26 hbrk27 hret28
      replace hI26 : f22 2 = v_y ∧ f22 3 = (Value.pointer (some ⟨b1, 0, none⟩)) ∧ f22 7 = u12 ∧ f22 18 = v_x ∧ f22 19 = (Value.int .i64 ((x).length : Int)) ∧ f22 20 = Value.int .i64 (k19 : Int) ∧ InR .i64 (k19 : Int) ∧ St wd2 wd23 [(Ty.sl (Ty.i .i64)).at u12 x20] := hI26
      replace hb25 : p_impl_Ring_product_L1 x y r_Table k19 x20 = some ct21 := hb25
      unfold p_impl_Ring_product_L1 at hb25
      obtain ⟨hf29, hf30, hf31, hf32, hf33, hf34, hr35, hS36⟩ := hI26
      refine W.seq ?_
      refine W.region ?_
      refine WL.val (Value.bool (decide ((k19 : Int) < ((x).length : Int)))) _ (op_lss hf34 hf33) rfl ?_
      have hl37 : (k19 : Int) < ((x).length : Int) := by omega
      refine WL.nil ?_
      show W _ _ _ _ _ _
      refine W.seq ?_
      refine W.condT (decide ((k19 : Int) < ((x).length : Int))) rfl (decide_eq_true hl37) ?_
      refine W.skip ?_
      show W _ _ _ _ _ _
      refine W.seq ?_
      refine W.block ?_
      refine W.seq ?_
      refine W.region ?_
      refine WL.val (Value.int .i64 (k19 : Int)) _ (op_move hf34) rfl ?_
      obtain ⟨x39, hx42, hb25⟩ := bs hb25
      obtain ⟨ha40, hb41, hx42⟩ := idx_some hx42
      refine WL.val (Value.pointer (some (elA v_x ((k19 : Int)).toNat))) _ (op_idx sl_25 (Ty.lift _ (Ext.trans hE7 hS36.ext) r_x) hf32 hf34 ha40 hb41) rfl ?_
      obtain ⟨u43, hc44, hr45⟩ := repSl.el r_x hx42
      obtain ⟨rfl, hr45⟩ := hr45
      refine WL.val (Value.int .i64 x39) _ (op_load one_2 rfl (Ext.cell (Ext.trans hE7 hS36.ext) hc44)) rfl ?_
      refine WL.val (Value.int .i64 (k19 : Int)) _ (op_assign rfl) rfl ?_
      refine WL.val (Value.int .i64 x39) _ (op_assign rfl) rfl ?_
      refine WL.nil ?_
      show W _ _ _ _ _ _
      refine W.seq ?_
      refine W.region ?_
      refine WL.val v_y _ (op_move hf29) rfl ?_
      have hr46 := inR_len (Ty.lift _ (Ext.trans hE7 hS36.ext) r_y)
      refine WL.val (Value.int .i64 ((y).length : Int)) _ (op_lenL sl_25 (Ty.lift _ (Ext.trans hE7 hS36.ext) r_y) rfl) rfl ?_
      refine WL.val (Value.int .i64 (0 : Int)) _ (op_move rfl) rfl ?_
      refine WL.nil ?_
      show W _ _ _ _ _ _
      obtain ⟨res47, hres48, hb25⟩ := bs hb25
      refine W.blockLoop (fun fq wq => ∃ s, res47 = Res.fin s ∧ fq 2 = v_y ∧ fq 3 = (Value.pointer (some ⟨b1, 0, none⟩)) ∧ fq 7 = u12 ∧ fq 18 = v_x ∧ fq 19 = (Value.int .i64 ((x).length : Int)) ∧ fq 20 = (Value.int .i64 (k19 : Int)) ∧ St wd2 wq [(Ty.sl (Ty.i .i64)).at u12 s]) ?_ ?_
      · refine W.forN (fun k (s : (List Int)) fq wq => fq 2 = v_y ∧ fq 3 = (Value.pointer (some ⟨b1, 0, none⟩)) ∧ fq 7 = u12 ∧ fq 8 = (Value.int .i64 (k19 : Int)) ∧ fq 9 = (Value.int .i64 x39) ∧ fq 18 = v_x ∧ fq 19 = (Value.int .i64 ((x).length : Int)) ∧ fq 20 = (Value.int .i64 (k19 : Int)) ∧ fq 25 = v_y ∧ fq 26 = (Value.int .i64 ((y).length : Int)) ∧ fq 27 = Value.int .i64 (k : Int) ∧ InR .i64 (k : Int) ∧ St wd2 wq [(Ty.sl (Ty.i .i64)).at u12 s]) hres48 ⟨hf29, hf30, hf31, rfl, rfl, hf32, hf33, hf34, rfl, rfl, rfl, (inR_i64.2 (show (-9223372036854775808 : Int) ≤ 0 ∧ (0 : Int) ≤ 9223372036854775807 from by decide)), hS36⟩ ?_ ?_
        · intro k49 x50 ct51 f52 wd53 hk54 hb55 hI56 hbrk57 hret58
          replace hI56 : f52 2 = v_y ∧ f52 3 = (Value.pointer (some ⟨b1, 0, none⟩)) ∧ f52 7 = u12 ∧ f52 8 = (Value.int .i64 (k19 : Int)) ∧ f52 9 = (Value.int .i64 x39) ∧ f52 18 = v_x ∧ f52 19 = (Value.int .i64 ((x).length : Int)) ∧ f52 20 = (Value.int .i64 (k19 : Int)) ∧ f52 25 = v_y ∧ f52 26 = (Value.int .i64 ((y).length : Int)) ∧ f52 27 = Value.int .i64 (k49 : Int) ∧ InR .i64 (k49 : Int) ∧ St wd2 wd53 [(Ty.sl (Ty.i .i64)).at u12 x50] := hI56
          replace hb55 : p_impl_Ring_product_L2 y x39 r_Table k19 k49 x50 = some ct51 := hb55
          unfold p_impl_Ring_product_L2 at hb55
          obtain ⟨hf59, hf60, hf61, hf62, hf63, hf64, hf65, hf66, hf67, hf68, hf69, hr70, hS71⟩ := hI56
          refine W.seq ?_
          refine W.region ?_
          refine WL.val (Value.bool (decide ((k49 : Int) < ((y).length : Int)))) _ (op_lss hf69 hf68) rfl ?_
          have hl72 : (k49 : Int) < ((y).length : Int) := by omega
          refine WL.nil ?_
          show W _ _ _ _ _ _
          refine W.seq ?_
          refine W.condT (decide ((k49 : Int) < ((y).length : Int))) rfl (decide_eq_true hl72) ?_
          refine W.skip ?_
          show W _ _ _ _ _ _
          refine W.seq ?_
          refine W.block ?_
          refine W.seq ?_
          refine W.region ?_
          refine WL.val (Value.int .i64 (k49 : Int)) _ (op_move hf69) rfl ?_
          obtain ⟨x74, hx77, hb55⟩ := bs hb55
          obtain ⟨ha75, hb76, hx77⟩ := idx_some hx77
          refine WL.val (Value.pointer (some (elA v_y ((k49 : Int)).toNat))) _ (op_idx sl_25 (Ty.lift _ (Ext.trans hE7 hS71.ext) r_y) hf67 hf69 ha75 hb76) rfl ?_
          obtain ⟨u78, hc79, hr80⟩ := repSl.el r_y hx77
          obtain ⟨rfl, hr80⟩ := hr80
          refine WL.val (Value.int .i64 x74) _ (op_load one_2 rfl (Ext.cell (Ext.trans hE7 hS71.ext) hc79)) rfl ?_
          refine WL.val (Value.int .i64 (k49 : Int)) _ (op_assign rfl) rfl ?_
          refine WL.val (Value.int .i64 x74) _ (op_assign rfl) rfl ?_
          refine WL.nil ?_
          show W _ _ _ _ _ _
          refine W.seq ?_
          refine W.seq ?_
          refine W.region ?_
          refine WL.val (Value.int .i64 x39) _ (op_move hf63) rfl ?_
          refine WL.val (Value.int .i64 x74) _ (op_move rfl) rfl ?_
          refine WL.val (Value.int .i64 (w64 (x39 * x74))) _ (op_mul rfl rfl) rfl ?_
          refine WL.val (Value.bool ((w64 (x39 * x74)) == (0 : Int))) _ (op_eql rfl rfl) rfl ?_
          refine WL.nil ?_
          show W _ _ _ _ _ _
          refine W.cond ((w64 (x39 * x74)) == (0 : Int)) rfl (fun hc81 => ?_) (fun hc81 => ?_)
          · replace hb55 := ip hb55 hc81
            refine W.exit ?_
            show W _ _ _ _ _ _
            refine W.region ?_
            refine WL.val (Value.int .i64 (w64 ((k49 : Int) + (1 : Int)))) _ (op_add hf69 rfl) rfl ?_
            refine WL.val (Value.int .i64 (w64 ((k49 : Int) + (1 : Int)))) _ (op_move rfl) rfl ?_
            refine WL.nil ?_
            obtain rfl := Option.some.inj hb55
            show ∃ s, _ = Ctl.next s ∧ _
            exact ⟨_, rfl, hf59, hf60, hf61, hf62, hf63, hf64, hf65, hf66, hf67, hf68, (ctr_next hl72 hr46), (ctr_rng hl72 hr46), hS71⟩
          · replace hb55 := inegb hb55 hc81
            refine W.skip ?_
            show W _ _ _ _ _ _
            refine W.seq ?_
            refine W.region ?_
            refine WL.val (Value.pointer (some ⟨b1, 0, none⟩)) _ (op_fieldAddr fd_29_0 hf60) rfl ?_
            refine WL.val v_r_Table _ (op_load one_22 rfl (BoxAt.cell (BoxAt.lift hS71.ext hx6) rfl)) rfl ?_
            refine WL.val (Value.int .i64 (k19 : Int)) _ (op_move hf62) rfl ?_
            obtain ⟨x83, hx86, hb55⟩ := bs hb55
            obtain ⟨ha84, hb85, hx86⟩ := idx_some hx86
            refine WL.val (Value.pointer (some (elA v_r_Table ((k19 : Int)).toNat))) _ (op_idx sl_22 (Ty.lift _ (Ext.trans hE7 hS71.ext) r_r_Table) rfl rfl ha84 hb85) rfl ?_
            obtain ⟨u87, hc88, hr89⟩ := repSl.el r_r_Table hx86
            refine WL.val u87 _ (op_load one_61 rfl (Ext.cell (Ext.trans hE7 hS71.ext) hc88)) rfl ?_
            refine WL.val (Value.int .i64 (k49 : Int)) _ (op_move rfl) rfl ?_
            obtain ⟨x90, hx93, hb55⟩ := bs hb55
            obtain ⟨ha91, hb92, hx93⟩ := idx_some hx93
            refine WL.val (Value.pointer (some (elA u87 ((k49 : Int)).toNat))) _ (op_idx sl_61 (Ty.lift _ (Ext.trans hE7 hS71.ext) hr89) rfl rfl ha91 hb92) rfl ?_
            obtain ⟨u94, hc95, hr96⟩ := repSl.el hr89 hx93
            refine WL.val u94 _ (op_load one_25 rfl (Ext.cell (Ext.trans hE7 hS71.ext) hc95)) rfl ?_
            have hr97 := inR_len (Ty.lift _ (Ext.trans hE7 hS71.ext) hr96)
            refine WL.val (Value.int .i64 ((x90).length : Int)) _ (op_lenL sl_25 (Ty.lift _ (Ext.trans hE7 hS71.ext) hr96) rfl) rfl ?_
            refine WL.val (Value.int .i64 (0 : Int)) _ (op_move rfl) rfl ?_
            refine WL.nil ?_
            show W _ _ _ _ _ _
            obtain ⟨res98, hres99, hb55⟩ := bs hb55
            refine W.blockLoop (fun fq wq => ∃ s, res98 = Res.fin s ∧ fq 2 = v_y ∧ fq 3 = (Value.pointer (some ⟨b1, 0, none⟩)) ∧ fq 7 = u12 ∧ fq 8 = (Value.int .i64 (k19 : Int)) ∧ fq 9 = (Value.int .i64 x39) ∧ fq 18 = v_x ∧ fq 19 = (Value.int .i64 ((x).length : Int)) ∧ fq 20 = (Value.int .i64 (k19 : Int)) ∧ fq 25 = v_y ∧ fq 26 = (Value.int .i64 ((y).length : Int)) ∧ fq 27 = (Value.int .i64 (k49 : Int)) ∧ St wd2 wq [(Ty.sl (Ty.i .i64)).at u12 s]) ?_ ?_
            · refine W.forN (fun k (s : (List Int)) fq wq => fq 2 = v_y ∧ fq 3 = (Value.pointer (some ⟨b1, 0, none⟩)) ∧ fq 7 = u12 ∧ fq 8 = (Value.int .i64 (k19 : Int)) ∧ fq 9 = (Value.int .i64 x39) ∧ fq 11 = (Value.int .i64 x74) ∧ fq 18 = v_x ∧ fq 19 = (Value.int .i64 ((x).length : Int)) ∧ fq 20 = (Value.int .i64 (k19 : Int)) ∧ fq 25 = v_y ∧ fq 26 = (Value.int .i64 ((y).length : Int)) ∧ fq 27 = (Value.int .i64 (k49 : Int)) ∧ fq 43 = u94 ∧ fq 44 = (Value.int .i64 ((x90).length : Int)) ∧ fq 45 = Value.int .i64 (k : Int) ∧ InR .i64 (k : Int) ∧ St wd2 wq [(Ty.sl (Ty.i .i64)).at u12 s]) hres99 ⟨hf59, hf60, hf61, hf62, hf63, rfl, hf64, hf65, hf66, hf67, hf68, hf69, rfl, rfl, rfl, (inR_i64.2 (show (-9223372036854775808 : Int) ≤ 0 ∧ (0 : Int) ≤ 9223372036854775807 from by decide)), hS71⟩ ?_ ?_
              · intro k100 x101 ct102 f103 wd104 hk105 hb106 hI107 hbrk108 hret109
                replace hI107 : f103 2 = v_y ∧ f103 3 = (Value.pointer (some ⟨b1, 0, none⟩)) ∧ f103 7 = u12 ∧ f103 8 = (Value.int .i64 (k19 : Int)) ∧ f103 9 = (Value.int .i64 x39) ∧ f103 11 = (Value.int .i64 x74) ∧ f103 18 = v_x ∧ f103 19 = (Value.int .i64 ((x).length : Int)) ∧ f103 20 = (Value.int .i64 (k19 : Int)) ∧ f103 25 = v_y ∧ f103 26 = (Value.int .i64 ((y).length : Int)) ∧ f103 27 = (Value.int .i64 (k49 : Int)) ∧ f103 43 = u94 ∧ f103 44 = (Value.int .i64 ((x90).length : Int)) ∧ f103 45 = Value.int .i64 (k100 : Int) ∧ InR .i64 (k100 : Int) ∧ St wd2 wd104 [(Ty.sl (Ty.i .i64)).at u12 x101] := hI107
                replace hb106 : p_impl_Ring_product_L3 x90 x39 x74 k100 x101 = some ct102 := hb106
                unfold p_impl_Ring_product_L3 at hb106
                obtain ⟨hf110, hf111, hf112, hf113, hf114, hf115, hf116, hf117, hf118, hf119, hf120, hf121, hf122, hf123, hf124, hr125, hS126⟩ := hI107
                refine W.seq ?_
                refine W.region ?_
                refine WL.val (Value.bool (decide ((k100 : Int) < ((x90).length : Int)))) _ (op_lss hf124 hf123) rfl ?_
                have hl127 : (k100 : Int) < ((x90).length : Int) := by omega
                refine WL.nil ?_
                show W _ _ _ _ _ _
                refine W.seq ?_
                refine W.condT (decide ((k100 : Int) < ((x90).length : Int))) rfl (decide_eq_true hl127) ?_
                refine W.skip ?_
                show W _ _ _ _ _ _
                refine W.seq ?_
                refine W.block ?_
                refine W.seq ?_
                refine W.region ?_
                refine WL.val (Value.int .i64 (k100 : Int)) _ (op_move hf124) rfl ?_
                obtain ⟨x129, hx132, hb106⟩ := bs hb106
                obtain ⟨ha130, hb131, hx132⟩ := idx_some hx132
                refine WL.val (Value.pointer (some (elA u94 ((k100 : Int)).toNat))) _ (op_idx sl_25 (Ty.lift _ (Ext.trans hE7 hS126.ext) hr96) hf122 hf124 ha130 hb131) rfl ?_
                obtain ⟨u133, hc134, hr135⟩ := repSl.el hr96 hx132
                obtain ⟨rfl, hr135⟩ := hr135
                refine WL.val (Value.int .i64 x129) _ (op_load one_2 rfl (Ext.cell (Ext.trans hE7 hS126.ext) hc134)) rfl ?_
                refine WL.val (Value.int .i64 (k100 : Int)) _ (op_assign rfl) rfl ?_
                refine WL.val (Value.int .i64 x129) _ (op_assign rfl) rfl ?_
                refine WL.nil ?_
                show W _ _ _ _ _ _
                refine W.region ?_
                refine WL.val u12 _ (op_move hf112) rfl ?_
                refine WL.val (Value.int .i64 (k100 : Int)) _ (op_move rfl) rfl ?_
                obtain ⟨x136, hx139, hb106⟩ := bs hb106
                obtain ⟨ha137, hb138, hx139⟩ := idx_some hx139
                refine WL.val (Value.pointer (some (elA u12 ((k100 : Int)).toNat))) _ (op_idx sl_25 (St.rep (t := (Ty.sl (Ty.i .i64))) hS126 0 rfl) rfl rfl ha137 hb138) rfl ?_
                obtain ⟨u140, hc141, hr142⟩ := repSl.el (St.rep (t := (Ty.sl (Ty.i .i64))) hS126 0 rfl) hx139
                obtain ⟨rfl, hr142⟩ := hr142
                refine WL.val (Value.int .i64 x136) _ (op_load one_2 rfl hc141) rfl ?_
                refine WL.val (Value.int .i64 x39) _ (op_move hf114) rfl ?_
                refine WL.val (Value.int .i64 x74) _ (op_move hf115) rfl ?_
                refine WL.val (Value.int .i64 (w64 (x39 * x74))) _ (op_mul rfl rfl) rfl ?_
                refine WL.val (Value.int .i64 x129) _ (op_move rfl) rfl ?_
                refine WL.val (Value.int .i64 (w64 ((w64 (x39 * x74)) * x129))) _ (op_mul rfl rfl) rfl ?_
                refine WL.val (Value.int .i64 (w64 (x136 + (w64 ((w64 (x39 * x74)) * x129))))) _ (op_add rfl rfl) rfl ?_
                refine WL.val (Value.pointer (some (elA u12 ((k100 : Int)).toNat))) _ (op_idx sl_25 (St.rep (t := (Ty.sl (Ty.i .i64))) hS126 0 rfl) rfl rfl ha137 hb138) rfl ?_
                refine WL.storeEl (flat_i .i64) hS126 (k := 0) rfl sz_2 rfl rfl (lt_of_idx ha137 hb138) ⟨rfl, (inR_wrap _ _)⟩ ?_
                intro wd143 hS144
                replace hS144 : St wd2 wd143 [(Ty.sl (Ty.i .i64)).at u12 ((x101).set ((k100 : Int)).toNat (w64 (x136 + (w64 ((w64 (x39 * x74)) * x129)))))] := hS144
                refine WL.nil ?_
                show W _ _ _ _ _ _
                refine W.region ?_
                refine WL.val (Value.int .i64 (w64 ((k100 : Int) + (1 : Int)))) _ (op_add hf124 rfl) rfl ?_
                refine WL.val (Value.int .i64 (w64 ((k100 : Int) + (1 : Int)))) _ (op_move rfl) rfl ?_
                refine WL.nil ?_
                obtain rfl := Option.some.inj hb106
                show ∃ s, _ = Ctl.next s ∧ _
                exact ⟨_, rfl, hf110, hf111, hf112, hf113, hf114, hf115, hf116, hf117, hf118, hf119, hf120, hf121, hf122, hf123, (ctr_next hl127 hr97), (ctr_rng hl127 hr97), hS144⟩
              · intro x151 f146 wd147 hs148 hI149
                replace hI149 : f146 2 = v_y ∧ f146 3 = (Value.pointer (some ⟨b1, 0, none⟩)) ∧ f146 7 = u12 ∧ f146 8 = (Value.int .i64 (k19 : Int)) ∧ f146 9 = (Value.int .i64 x39) ∧ f146 11 = (Value.int .i64 x74) ∧ f146 18 = v_x ∧ f146 19 = (Value.int .i64 ((x).length : Int)) ∧ f146 20 = (Value.int .i64 (k19 : Int)) ∧ f146 25 = v_y ∧ f146 26 = (Value.int .i64 ((y).length : Int)) ∧ f146 27 = (Value.int .i64 (k49 : Int)) ∧ f146 43 = u94 ∧ f146 44 = (Value.int .i64 ((x90).length : Int)) ∧ f146 45 = Value.int .i64 (((x90).length : Nat) : Int) ∧ InR .i64 (((x90).length : Nat) : Int) ∧ St wd2 wd147 [(Ty.sl (Ty.i .i64)).at u12 x151] := hI149
                obtain ⟨hf152, hf153, hf154, hf155, hf156, hf157, hf158, hf159, hf160, hf161, hf162, hf163, hf164, hf165, hf166, hr167, hS168⟩ := hI149
                refine W.seq ?_
                refine W.region ?_
                refine WL.val (Value.bool (decide ((((x90).length : Nat) : Int) < ((x90).length : Int)))) _ (op_lss hf166 hf165) rfl ?_
                have hl169 : ¬ (((x90).length : Nat) : Int) < ((x90).length : Int) := by omega
                refine WL.nil ?_
                show W _ _ _ _ _ _
                refine W.seq ?_
                refine W.condF (decide ((((x90).length : Nat) : Int) < ((x90).length : Int))) rfl (decide_eq_false hl169) ?_
                refine W.exit ?_
                show _ = _ ∧ _
                exact ⟨rfl, _, hs148, hf152, hf153, hf154, hf155, hf156, hf158, hf159, hf160, hf161, hf162, hf163, hS168⟩
            · rintro f170 wd171 ⟨x174, rfl, hq172⟩
              replace hb55 := onRes_fin hb55
              replace hq172 : f170 2 = v_y ∧ f170 3 = (Value.pointer (some ⟨b1, 0, none⟩)) ∧ f170 7 = u12 ∧ f170 8 = (Value.int .i64 (k19 : Int)) ∧ f170 9 = (Value.int .i64 x39) ∧ f170 18 = v_x ∧ f170 19 = (Value.int .i64 ((x).length : Int)) ∧ f170 20 = (Value.int .i64 (k19 : Int)) ∧ f170 25 = v_y ∧ f170 26 = (Value.int .i64 ((y).length : Int)) ∧ f170 27 = (Value.int .i64 (k49 : Int)) ∧ St wd2 wd171 [(Ty.sl (Ty.i .i64)).at u12 x174] := hq172
              obtain ⟨hf175, hf176, hf177, hf178, hf179, hf180, hf181, hf182, hf183, hf184, hf185, hS186⟩ := hq172
              show W _ _ _ _ _ _
              refine W.region ?_
              refine WL.val (Value.int .i64 (w64 ((k49 : Int) + (1 : Int)))) _ (op_add hf185 rfl) rfl ?_
              refine WL.val (Value.int .i64 (w64 ((k49 : Int) + (1 : Int)))) _ (op_move rfl) rfl ?_
              refine WL.nil ?_
              obtain rfl := Option.some.inj hb55
              show ∃ s, _ = Ctl.next s ∧ _
              exact ⟨_, rfl, hf175, hf176, hf177, hf178, hf179, hf180, hf181, hf182, hf183, hf184, (ctr_next hl72 hr46), (ctr_rng hl72 hr46), hS186⟩
        · intro x194 f189 wd190 hs191 hI192
          replace hI192 : f189 2 = v_y ∧ f189 3 = (Value.pointer (some ⟨b1, 0, none⟩)) ∧ f189 7 = u12 ∧ f189 8 = (Value.int .i64 (k19 : Int)) ∧ f189 9 = (Value.int .i64 x39) ∧ f189 18 = v_x ∧ f189 19 = (Value.int .i64 ((x).length : Int)) ∧ f189 20 = (Value.int .i64 (k19 : Int)) ∧ f189 25 = v_y ∧ f189 26 = (Value.int .i64 ((y).length : Int)) ∧ f189 27 = Value.int .i64 (((y).length : Nat) : Int) ∧ InR .i64 (((y).length : Nat) : Int) ∧ St wd2 wd190 [(Ty.sl (Ty.i .i64)).at u12 x194] := hI192
          obtain ⟨hf195, hf196, hf197, hf198, hf199, hf200, hf201, hf202, hf203, hf204, hf205, hr206, hS207⟩ := hI192
          refine W.seq ?_
          refine W.region ?_
          refine WL.val (Value.bool (decide ((((y).length : Nat) : Int) < ((y).length : Int)))) _ (op_lss hf205 hf204) rfl ?_
          have hl208 : ¬ (((y).length : Nat) : Int) < ((y).length : Int) := by omega
          refine WL.nil ?_
          show W _ _ _ _ _ _
          refine W.seq ?_
          refine W.condF (decide ((((y).length : Nat) : Int) < ((y).length : Int))) rfl (decide_eq_false hl208) ?_
          refine W.exit ?_
          show _ = _ ∧ _
          exact ⟨rfl, _, hs191, hf195, hf196, hf197, hf200, hf201, hf202, hS207⟩
      · rintro f209 wd210 ⟨x213, rfl, hq211⟩
        replace hb25 := onRes_fin hb25
        replace hq211 : f209 2 = v_y ∧ f209 3 = (Value.pointer (some ⟨b1, 0, none⟩)) ∧ f209 7 = u12 ∧ f209 18 = v_x ∧ f209 19 = (Value.int .i64 ((x).length : Int)) ∧ f209 20 = (Value.int .i64 (k19 : Int)) ∧ St wd2 wd210 [(Ty.sl (Ty.i .i64)).at u12 x213] := hq211
        obtain ⟨hf214, hf215, hf216, hf217, hf218, hf219, hS220⟩ := hq211
        show W _ _ _ _ _ _
        refine W.region ?_
        refine WL.val (Value.int .i64 (w64 ((k19 : Int) + (1 : Int)))) _ (op_add hf219 rfl) rfl ?_
        refine WL.val (Value.int .i64 (w64 ((k19 : Int) + (1 : Int)))) _ (op_move rfl) rfl ?_
        refine WL.nil ?_
        obtain rfl := Option.some.inj hb25
        show ∃ s, _ = Ctl.next s ∧ _
        exact ⟨_, rfl, hf214, hf215, hf216, hf217, hf218, (ctr_next hl37 hr16), (ctr_rng hl37 hr16), hS220⟩
    · intro x228 f223 wd224 hs225 hI226
      replace hI226 : f223 2 = v_y ∧ f223 3 = (Value.pointer (some ⟨b1, 0, none⟩)) ∧ f223 7 = u12 ∧ f223 18 = v_x ∧ f223 19 = (Value.int .i64 ((x).length : Int)) ∧ f223 20 = Value.int .i64 (((x).length : Nat) : Int) ∧ InR .i64 (((x).length : Nat) : Int) ∧ St wd2 wd224 [(Ty.sl (Ty.i .i64)).at u12 x228] := hI226
      obtain ⟨hf229, hf230, hf231, hf232, hf233, hf234, hr235, hS236⟩ := hI226
      refine W.seq ?_
      refine W.region ?_
      refine WL.val (Value.bool (decide ((((x).length : Nat) : Int) < ((x).length : Int)))) _ (op_lss hf234 hf233) rfl ?_
      have hl237 : ¬ (((x).length : Nat) : Int) < ((x).length : Int) := by omega
      refine WL.nil ?_
      show W _ _ _ _ _ _
      refine W.seq ?_
      refine W.condF (decide ((((x).length : Nat) : Int) < ((x).length : Int))) rfl (decide_eq_false hl237) ?_
      refine W.exit ?_
      show _ = _ ∧ _
      exact ⟨rfl, _, hs225, hf231, hS236⟩
  · rintro f238 wd239 ⟨x242, rfl, hq240⟩
    replace h := onRes_fin h
    replace hq240 : f238 7 = u12 ∧ St wd2 wd239 [(Ty.sl (Ty.i .i64)).at u12 x242] := hq240
    obtain ⟨hf243, hS244⟩ := hq240
    show W _ _ _ _ _ _
    refine W.seq ?_
    refine W.region ?_
    refine WL.val u12 _ (op_move hf243) rfl ?_
    refine WL.val u12 _ (op_assign rfl) rfl ?_
    refine WL.nil ?_
    show W _ _ _ _ _ _
    refine W.ret ?_
    obtain rfl := Option.some.inj h
    show FinP _ _ _ _ _ _ _
    exact FinP.ret _ (res1 rfl rfl) ⟨u12, rfl, (Ext.trans hE7 hS244.ext), (St.out (St.pick hS244 [0] rfl) (hE7))⟩

theorem c_laws_markInt64S {w : World} {a : (List Int)} {v_a : Value} {k1 : Int} {w0 : World} {R : Ent} (hS0 : St w0 w [(Ty.sl (Ty.i .i64)).at v_a a, R]) (r_k1 : InR .i64 k1) {res : Int × (List Int)} (h : p_laws_markInt64S a k1  = some res) :
    Ret Try.prog 27 #[v_a, (Value.int .i64 k1)] w (fun v w' => v = Value.int .i64 res.1 ∧ InR .i64 res.1 ∧ St w0 w' [(Ty.sl (Ty.i .i64)).at v_a res.2, R]) := by
  unfold p_laws_markInt64S at h
  refine Ret.start (fn := Try.f27) Try.func27 rfl 19 rfl rfl ?_
  refine W.seq ?_
  refine W.region ?_
  refine WL.val (Value.int .i64 (0 : Int)) _ (op_assign rfl) rfl ?_
  refine WL.nil ?_
  show W _ _ _ _ _ _
  refine W.seq ?_
  refine W.seq ?_
  refine W.region ?_
  refine WL.val (Value.int .i64 (0 : Int)) _ (op_assign rfl) rfl ?_
  refine WL.nil ?_
  show W _ _ _ _ _ _
  obtain ⟨res1, hres2, h⟩ := bs h
  refine W.blockLoop (fun fq wq => ∃ s, res1 = Res.fin s ∧ fq 1 = Value.int .i64 s.2 ∧ InR .i64 s.2 ∧ (s.1).length = (a).length ∧ St w0 wq [(Ty.sl (Ty.i .i64)).at v_a s.1, R]) ?_ ?_
  · refine W.forN (fun k (s : (List Int) × Int) fq wq => fq 0 = v_a ∧ fq 1 = Value.int .i64 s.2 ∧ InR .i64 s.2 ∧ fq 5 = Value.int .i64 (k : Int) ∧ InR .i64 (k : Int) ∧ (s.1).length = (a).length ∧ St w0 wq [(Ty.sl (Ty.i .i64)).at v_a s.1, R]) hres2 ⟨rfl, rfl, r_k1, rfl, (inR_i64.2 (show (-9223372036854775808 : Int) ≤ 0 ∧ (0 : Int) ≤ 9223372036854775807 from by decide)), rfl, hS0⟩ ?_ ?_
    · intro k3 s30 ct6 f7 wd8 hk9 hb10 hI11 hbrk12 hret13
      obtain ⟨x4, x5⟩ := s30
      replace hI11 : f7 0 = v_a ∧ f7 1 = Value.int .i64 x5 ∧ InR .i64 x5 ∧ f7 5 = Value.int .i64 (k3 : Int) ∧ InR .i64 (k3 : Int) ∧ (x4).length = (a).length ∧ St w0 wd8 [(Ty.sl (Ty.i .i64)).at v_a x4, R] := hI11
      replace hb10 : p_laws_markInt64S_L1  k3 x4 x5 = some ct6 := hb10
      unfold p_laws_markInt64S_L1 at hb10
      obtain ⟨hf14, hf15, hr16, hf17, hr18, hL19, hS20⟩ := hI11
      refine W.seq ?_
      refine W.seq ?_
      refine W.region ?_
      refine WL.val (Value.int .i64 (k3 : Int)) _ (op_move hf17) rfl ?_
      refine WL.val v_a _ (op_move hf14) rfl ?_
      have hr21 := inR_len (St.rep (t := (Ty.sl (Ty.i .i64))) hS20 0 rfl)
      refine WL.val (Value.int .i64 ((x4).length : Int)) _ (op_lenL sl_25 (St.rep (t := (Ty.sl (Ty.i .i64))) hS20 0 rfl) rfl) rfl ?_
      refine WL.val (Value.bool (decide ((k3 : Int) < ((x4).length : Int)))) _ (op_lss rfl rfl) rfl ?_
      have hl22 : (k3 : Int) < ((x4).length : Int) := by omega
      refine WL.nil ?_
      show W _ _ _ _ _ _
      refine W.condT (decide ((k3 : Int) < ((x4).length : Int))) rfl (decide_eq_true hl22) ?_
      refine W.skip ?_
      show W _ _ _ _ _ _
      refine W.seq ?_
      refine W.block ?_
      refine W.seq ?_
      refine W.region ?_
      refine WL.val v_a _ (op_move hf14) rfl ?_
      refine WL.val (Value.int .i64 (k3 : Int)) _ (op_move hf17) rfl ?_
      refine WL.val (Value.int .i64 x5) _ (op_move hf15) rfl ?_
      obtain ⟨x24, hx27, hb10⟩ := bs hb10
      obtain ⟨ha25, hb26, hx27⟩ := idx_some hx27
      refine WL.val (Value.pointer (some (elA v_a ((k3 : Int)).toNat))) _ (op_idx sl_25 (St.rep (t := (Ty.sl (Ty.i .i64))) hS20 0 rfl) rfl rfl ha25 hb26) rfl ?_
      refine WL.storeEl (flat_i .i64) hS20 (k := 0) rfl sz_2 rfl rfl (lt_of_idx ha25 hb26) ⟨rfl, hr16⟩ ?_
      intro wd28 hS29
      replace hS29 : St w0 wd28 [(Ty.sl (Ty.i .i64)).at v_a ((x4).set ((k3 : Int)).toNat x5), R] := hS29
      refine WL.nil ?_
      show W _ _ _ _ _ _
      refine W.region ?_
      refine WL.val (Value.int .i64 x5) _ (op_move hf15) rfl ?_
      refine WL.val (Value.int .i64 (w64 (x5 + (1 : Int)))) _ (op_add rfl rfl) rfl ?_
      refine WL.val (Value.int .i64 (w64 (x5 + (1 : Int)))) _ (op_assign rfl) rfl ?_
      refine WL.nil ?_
      show W _ _ _ _ _ _
      refine W.region ?_
      refine WL.val (Value.int .i64 (k3 : Int)) _ (op_move hf17) rfl ?_
      refine WL.val (Value.int .i64 (w64 ((k3 : Int) + (1 : Int)))) _ (op_add rfl rfl) rfl ?_
      refine WL.val (Value.int .i64 (w64 ((k3 : Int) + (1 : Int)))) _ (op_assign rfl) rfl ?_
      refine WL.nil ?_
      obtain rfl := Option.some.inj hb10
      show ∃ s, _ = Ctl.next s ∧ _
      exact ⟨_, rfl, hf14, rfl, (inR_wrap _ _), (ctr_next hl22 hr21), (ctr_rng hl22 hr21), (by first | exact hL19 | (simp only [List.length_set]; exact hL19)), hS29⟩
    · intro s35 f31 wd32 hs33 hI34
      obtain ⟨x36, x37⟩ := s35
      replace hI34 : f31 0 = v_a ∧ f31 1 = Value.int .i64 x37 ∧ InR .i64 x37 ∧ f31 5 = Value.int .i64 (((a).length : Nat) : Int) ∧ InR .i64 (((a).length : Nat) : Int) ∧ (x36).length = (a).length ∧ St w0 wd32 [(Ty.sl (Ty.i .i64)).at v_a x36, R] := hI34
      obtain ⟨hf38, hf39, hr40, hf41, hr42, hL43, hS44⟩ := hI34
      refine W.seq ?_
      refine W.seq ?_
      refine W.region ?_
      refine WL.val (Value.int .i64 (((a).length : Nat) : Int)) _ (op_move hf41) rfl ?_
      refine WL.val v_a _ (op_move hf38) rfl ?_
      have hr45 := inR_len (St.rep (t := (Ty.sl (Ty.i .i64))) hS44 0 rfl)
      refine WL.val (Value.int .i64 ((x36).length : Int)) _ (op_lenL sl_25 (St.rep (t := (Ty.sl (Ty.i .i64))) hS44 0 rfl) rfl) rfl ?_
      refine WL.val (Value.bool (decide ((((a).length : Nat) : Int) < ((x36).length : Int)))) _ (op_lss rfl rfl) rfl ?_
      have hl46 : ¬ (((a).length : Nat) : Int) < ((x36).length : Int) := by omega
      refine WL.nil ?_
      show W _ _ _ _ _ _
      refine W.condF (decide ((((a).length : Nat) : Int) < ((x36).length : Int))) rfl (decide_eq_false hl46) ?_
      refine W.exit ?_
      show _ = _ ∧ _
      exact ⟨rfl, _, hs33, hf39, hr40, (by first | exact hL43 | (simp only [List.length_set]; exact hL43)), hS44⟩
  · rintro f47 wd48 ⟨s50, rfl, hq49⟩
    replace h := onRes_fin h
    obtain ⟨x51, x52⟩ := s50
    replace hq49 : f47 1 = Value.int .i64 x52 ∧ InR .i64 x52 ∧ (x51).length = (a).length ∧ St w0 wd48 [(Ty.sl (Ty.i .i64)).at v_a x51, R] := hq49
    replace h : (_ : Option _) = _ := h
    dsimp only at h
    obtain ⟨hf53, hr54, hL55, hS56⟩ := hq49
    show W _ _ _ _ _ _
    refine W.seq ?_
    refine W.region ?_
    refine WL.val (Value.int .i64 x52) _ (op_move hf53) rfl ?_
    refine WL.val (Value.int .i64 x52) _ (op_assign rfl) rfl ?_
    refine WL.nil ?_
    show W _ _ _ _ _ _
    refine W.ret ?_
    obtain rfl := Option.some.inj h
    show FinP _ _ _ _ _ _ _
    exact FinP.ret _ (res1 rfl rfl) ⟨rfl, hr54, (St.pick hS56 [0, 1] rfl)⟩

theorem c_laws_markInt64SS {w : World} {a : (List (List Int))} {v_a : Value} {k1 : Int} {w0 : World} {R : Ent} (hS0 : St w0 w [(Ty.sl (Ty.sl (Ty.i .i64))).at v_a a, R]) (r_k1 : InR .i64 k1) {res : Int × (List (List Int))} (h : p_laws_markInt64SS a k1  = some res) :
    Ret Try.prog 74 #[v_a, (Value.int .i64 k1)] w (fun v w' => v = Value.int .i64 res.1 ∧ InR .i64 res.1 ∧ St w0 w' [(Ty.sl (Ty.sl (Ty.i .i64))).at v_a res.2, R]) := by
  unfold p_laws_markInt64SS at h
  refine Ret.start (fn := Try.f74) Try.func74 rfl 19 rfl rfl ?_
  refine W.seq ?_
  refine W.region ?_
  refine WL.val (Value.int .i64 (0 : Int)) _ (op_assign rfl) rfl ?_
  refine WL.nil ?_
  show W _ _ _ _ _ _
  refine W.seq ?_
  refine W.seq ?_
  refine W.region ?_
  refine WL.val (Value.int .i64 (0 : Int)) _ (op_assign rfl) rfl ?_
  refine WL.nil ?_
  show W _ _ _ _ _ _
  obtain ⟨res1, hres2, h⟩ := bs h
  refine W.blockLoop (fun fq wq => ∃ s, res1 = Res.fin s ∧ fq 1 = Value.int .i64 s.2 ∧ InR .i64 s.2 ∧ (s.1).length = (a).length ∧ St w0 wq [(Ty.sl (Ty.sl (Ty.i .i64))).at v_a s.1, R]) ?_ ?_
  · refine W.forN (fun k (s : (List (List Int)) × Int) fq wq => fq 0 = v_a ∧ fq 1 = Value.int .i64 s.2 ∧ InR .i64 s.2 ∧ fq 5 = Value.int .i64 (k : Int) ∧ InR .i64 (k : Int) ∧ (s.1).length = (a).length ∧ St w0 wq [(Ty.sl (Ty.sl (Ty.i .i64))).at v_a s.1, R]) hres2 ⟨rfl, rfl, r_k1, rfl, (inR_i64.2 (show (-9223372036854775808 : Int) ≤ 0 ∧ (0 : Int) ≤ 9223372036854775807 from by decide)), rfl, hS0⟩ ?_ ?_
    · intro k3 s40 ct6 f7 wd8 hk9 hb10 hI11 hbrk12 hret13
      obtain ⟨x4, x5⟩ := s40
      replace hI11 : f7 0 = v_a ∧ f7 1 = Value.int .i64 x5 ∧ InR .i64 x5 ∧ f7 5 = Value.int .i64 (k3 : Int) ∧ InR .i64 (k3 : Int) ∧ (x4).length = (a).length ∧ St w0 wd8 [(Ty.sl (Ty.sl (Ty.i .i64))).at v_a x4, R] := hI11
      replace hb10 : p_laws_markInt64SS_L1  k3 x4 x5 = some ct6 := hb10
      unfold p_laws_markInt64SS_L1 at hb10
      obtain ⟨hf14, hf15, hr16, hf17, hr18, hL19, hS20⟩ := hI11
      refine W.seq ?_
      refine W.seq ?_
      refine W.region ?_
      refine WL.val (Value.int .i64 (k3 : Int)) _ (op_move hf17) rfl ?_
      refine WL.val v_a _ (op_move hf14) rfl ?_
      have hr21 := inR_len (St.rep (t := (Ty.sl (Ty.sl (Ty.i .i64)))) hS20 0 rfl)
      refine WL.val (Value.int .i64 ((x4).length : Int)) _ (op_lenL sl_61 (St.rep (t := (Ty.sl (Ty.sl (Ty.i .i64)))) hS20 0 rfl) rfl) rfl ?_
      refine WL.val (Value.bool (decide ((k3 : Int) < ((x4).length : Int)))) _ (op_lss rfl rfl) rfl ?_
      have hl22 : (k3 : Int) < ((x4).length : Int) := by omega
      refine WL.nil ?_
      show W _ _ _ _ _ _
      refine W.condT (decide ((k3 : Int) < ((x4).length : Int))) rfl (decide_eq_true hl22) ?_
      refine W.skip ?_
      show W _ _ _ _ _ _
      refine W.seq ?_
      refine W.block ?_
      refine W.region ?_
      refine WL.val v_a _ (op_move hf14) rfl ?_
      refine WL.val (Value.int .i64 (k3 : Int)) _ (op_move hf17) rfl ?_
      obtain ⟨x24, hx27, hb10⟩ := bs hb10
      obtain ⟨ha25, hb26, hx27⟩ := idx_some hx27
      refine WL.val (Value.pointer (some (elA v_a ((k3 : Int)).toNat))) _ (op_idx sl_61 (St.rep (t := (Ty.sl (Ty.sl (Ty.i .i64)))) hS20 0 rfl) rfl rfl ha25 hb26) rfl ?_
      obtain ⟨u28, hc29, hr30⟩ := repSl.el (St.rep (t := (Ty.sl (Ty.sl (Ty.i .i64)))) hS20 0 rfl) hx27
      refine WL.val u28 _ (op_load one_25 rfl hc29) rfl ?_
      refine WL.val (Value.int .i64 x5) _ (op_move hf15) rfl ?_
      have hS31 := St.unrow (k := 0) hS20 rfl hx27 hc29
      replace hS31 : St w0 wd8 [holeAt (Ty.sl (Ty.i .i64)) v_a x4 ((k3 : Int)).toNat u28, R, (Ty.sl (Ty.i .i64)).at u28 x24] := hS31
      obtain ⟨x32, hx33, hb10⟩ := bs hb10
      have hS34 := St.fold [(Ty.sl (Ty.i .i64)).at u28 x24] [holeAt (Ty.sl (Ty.i .i64)) v_a x4 ((k3 : Int)).toNat u28, R] (St.pick hS31 [2, 0, 1] rfl)
      refine WL.call _ (op_call fn_27 (args2 rfl rfl)) (c_laws_markInt64S hS34 hr16 hx33) rfl ?_
      rintro _ wd37 ⟨rfl, hr38, hS35⟩
      have hS36 := St.pick (St.unfold [(Ty.sl (Ty.i .i64)).at u28 x32.2] [holeAt (Ty.sl (Ty.i .i64)) v_a x4 ((k3 : Int)).toNat u28, R] hS35) [1, 2, 0] rfl
      replace hS36 : St w0 wd37 [holeAt (Ty.sl (Ty.i .i64)) v_a x4 ((k3 : Int)).toNat u28, R, (Ty.sl (Ty.i .i64)).at u28 x32.2] := hS36
      have hS39 := St.rerow (k := 0) (k2 := 2) hS36 rfl rfl rfl
      replace hS39 : St w0 wd37 [(Ty.sl (Ty.sl (Ty.i .i64))).at v_a ((x4).set ((k3 : Int)).toNat x32.2), R, emp] := hS39
      refine WL.val (Value.int .i64 x32.1) _ (op_assign rfl) rfl ?_
      refine WL.nil ?_
      show W _ _ _ _ _ _
      refine W.region ?_
      refine WL.val (Value.int .i64 (k3 : Int)) _ (op_move hf17) rfl ?_
      refine WL.val (Value.int .i64 (w64 ((k3 : Int) + (1 : Int)))) _ (op_add rfl rfl) rfl ?_
      refine WL.val (Value.int .i64 (w64 ((k3 : Int) + (1 : Int)))) _ (op_assign rfl) rfl ?_
      refine WL.nil ?_
      obtain rfl := Option.some.inj hb10
      show ∃ s, _ = Ctl.next s ∧ _
      exact ⟨_, rfl, hf14, rfl, hr38, (ctr_next hl22 hr21), (ctr_rng hl22 hr21), (by first | exact hL19 | (simp only [List.length_set]; exact hL19)), (St.pick hS39 [0, 1] rfl)⟩
    · intro s45 f41 wd42 hs43 hI44
      obtain ⟨x46, x47⟩ := s45
      replace hI44 : f41 0 = v_a ∧ f41 1 = Value.int .i64 x47 ∧ InR .i64 x47 ∧ f41 5 = Value.int .i64 (((a).length : Nat) : Int) ∧ InR .i64 (((a).length : Nat) : Int) ∧ (x46).length = (a).length ∧ St w0 wd42 [(Ty.sl (Ty.sl (Ty.i .i64))).at v_a x46, R] := hI44
      obtain ⟨hf48, hf49, hr50, hf51, hr52, hL53, hS54⟩ := hI44
      refine W.seq ?_
      refine W.seq ?_
      refine W.region ?_
      refine WL.val (Value.int .i64 (((a).length : Nat) : Int)) _ (op_move hf51) rfl ?_
      refine WL.val v_a _ (op_move hf48) rfl ?_
      have hr55 := inR_len (St.rep (t := (Ty.sl (Ty.sl (Ty.i .i64)))) hS54 0 rfl)
      refine WL.val (Value.int .i64 ((x46).length : Int)) _ (op_lenL sl_61 (St.rep (t := (Ty.sl (Ty.sl (Ty.i .i64)))) hS54 0 rfl) rfl) rfl ?_
      refine WL.val (Value.bool (decide ((((a).length : Nat) : Int) < ((x46).length : Int)))) _ (op_lss rfl rfl) rfl ?_
      have hl56 : ¬ (((a).length : Nat) : Int) < ((x46).length : Int) := by omega
      refine WL.nil ?_
      show W _ _ _ _ _ _
      refine W.condF (decide ((((a).length : Nat) : Int) < ((x46).length : Int))) rfl (decide_eq_false hl56) ?_
      refine W.exit ?_
      show _ = _ ∧ _
      exact ⟨rfl, _, hs43, hf49, hr50, (by first | exact hL53 | (simp only [List.length_set]; exact hL53)), hS54⟩
  · rintro f57 wd58 ⟨s60, rfl, hq59⟩
    replace h := onRes_fin h
    obtain ⟨x61, x62⟩ := s60
    replace hq59 : f57 1 = Value.int .i64 x62 ∧ InR .i64 x62 ∧ (x61).length = (a).length ∧ St w0 wd58 [(Ty.sl (Ty.sl (Ty.i .i64))).at v_a x61, R] := hq59
    replace h : (_ : Option _) = _ := h
    dsimp only at h
    obtain ⟨hf63, hr64, hL65, hS66⟩ := hq59
    show W _ _ _ _ _ _
    refine W.seq ?_
    refine W.region ?_
    refine WL.val (Value.int .i64 x62) _ (op_move hf63) rfl ?_
    refine WL.val (Value.int .i64 x62) _ (op_assign rfl) rfl ?_
    refine WL.nil ?_
    show W _ _ _ _ _ _
    refine W.ret ?_
    obtain rfl := Option.some.inj h
    show FinP _ _ _ _ _ _ _
    exact FinP.ret _ (res1 rfl rfl) ⟨rfl, hr64, (St.pick hS66 [0, 1] rfl)⟩

theorem c_laws_markInt64SSS {w : World} {a : (List (List (List Int)))} {v_a : Value} {k1 : Int} {w0 : World} {R : Ent} (hS0 : St w0 w [(Ty.sl (Ty.sl (Ty.sl (Ty.i .i64)))).at v_a a, R]) (r_k1 : InR .i64 k1) {res : Int × (List (List (List Int)))} (h : p_laws_markInt64SSS a k1  = some res) :
    Ret Try.prog 50 #[v_a, (Value.int .i64 k1)] w (fun v w' => v = Value.int .i64 res.1 ∧ InR .i64 res.1 ∧ St w0 w' [(Ty.sl (Ty.sl (Ty.sl (Ty.i .i64)))).at v_a res.2, R]) := by
  unfold p_laws_markInt64SSS at h
  refine Ret.start (fn := Try.f50) Try.func50 rfl 19 rfl rfl ?_
  refine W.seq ?_
  refine W.region ?_
  refine WL.val (Value.int .i64 (0 : Int)) _ (op_assign rfl) rfl ?_
  refine WL.nil ?_
  show W _ _ _ _ _ _
  refine W.seq ?_
  refine W.seq ?_
  refine W.region ?_
  refine WL.val (Value.int .i64 (0 : Int)) _ (op_assign rfl) rfl ?_
  refine WL.nil ?_
  show W _ _ _ _ _ _
  obtain ⟨res1, hres2, h⟩ := bs h
  refine W.blockLoop (fun fq wq => ∃ s, res1 = Res.fin s ∧ fq 1 = Value.int .i64 s.2 ∧ InR .i64 s.2 ∧ (s.1).length = (a).length ∧ St w0 wq [(Ty.sl (Ty.sl (Ty.sl (Ty.i .i64)))).at v_a s.1, R]) ?_ ?_
  · refine W.forN (fun k (s : (List (List (List Int))) × Int) fq wq => fq 0 = v_a ∧ fq 1 = Value.int .i64 s.2 ∧ InR .i64 s.2 ∧ fq 5 = Value.int .i64 (k : Int) ∧ InR .i64 (k : Int) ∧ (s.1).length = (a).length ∧ St w0 wq [(Ty.sl (Ty.sl (Ty.sl (Ty.i .i64)))).at v_a s.1, R]) hres2 ⟨rfl, rfl, r_k1, rfl, (inR_i64.2 (show (-9223372036854775808 : Int) ≤ 0 ∧ (0 : Int) ≤ 9223372036854775807 from by decide)), rfl, hS0⟩ ?_ ?_
    · intro k3 s40 ct6 f7 wd8 hk9 hb10 hI11 hbrk12 hret13
      obtain ⟨x4, x5⟩ := s40
      replace hI11 : f7 0 = v_a ∧ f7 1 = Value.int .i64 x5 ∧ InR .i64 x5 ∧ f7 5 = Value.int .i64 (k3 : Int) ∧ InR .i64 (k3 : Int) ∧ (x4).length = (a).length ∧ St w0 wd8 [(Ty.sl (Ty.sl (Ty.sl (Ty.i .i64)))).at v_a x4, R] := hI11
      replace hb10 : p_laws_markInt64SSS_L1  k3 x4 x5 = some ct6 := hb10
      unfold p_laws_markInt64SSS_L1 at hb10
      obtain ⟨hf14, hf15, hr16, hf17, hr18, hL19, hS20⟩ := hI11
      refine W.seq ?_
      refine W.seq ?_
      refine W.region ?_
      refine WL.val (Value.int .i64 (k3 : Int)) _ (op_move hf17) rfl ?_
      refine WL.val v_a _ (op_move hf14) rfl ?_
      have hr21 := inR_len (St.rep (t := (Ty.sl (Ty.sl (Ty.sl (Ty.i .i64))))) hS20 0 rfl)
      refine WL.val (Value.int .i64 ((x4).length : Int)) _ (op_lenL sl_22 (St.rep (t := (Ty.sl (Ty.sl (Ty.sl (Ty.i .i64))))) hS20 0 rfl) rfl) rfl ?_
      refine WL.val (Value.bool (decide ((k3 : Int) < ((x4).length : Int)))) _ (op_lss rfl rfl) rfl ?_
      have hl22 : (k3 : Int) < ((x4).length : Int) := by omega
      refine WL.nil ?_
      show W _ _ _ _ _ _
      refine W.condT (decide ((k3 : Int) < ((x4).length : Int))) rfl (decide_eq_true hl22) ?_
      refine W.skip ?_
      show W _ _ _ _ _ _
      refine W.seq ?_
      refine W.block ?_
      refine W.region ?_
      refine WL.val v_a _ (op_move hf14) rfl ?_
      refine WL.val (Value.int .i64 (k3 : Int)) _ (op_move hf17) rfl ?_
      obtain ⟨x24, hx27, hb10⟩ := bs hb10
      obtain ⟨ha25, hb26, hx27⟩ := idx_some hx27
      refine WL.val (Value.pointer (some (elA v_a ((k3 : Int)).toNat))) _ (op_idx sl_22 (St.rep (t := (Ty.sl (Ty.sl (Ty.sl (Ty.i .i64))))) hS20 0 rfl) rfl rfl ha25 hb26) rfl ?_
      obtain ⟨u28, hc29, hr30⟩ := repSl.el (St.rep (t := (Ty.sl (Ty.sl (Ty.sl (Ty.i .i64))))) hS20 0 rfl) hx27
      refine WL.val u28 _ (op_load one_61 rfl hc29) rfl ?_
      refine WL.val (Value.int .i64 x5) _ (op_move hf15) rfl ?_
      have hS31 := St.unrow (k := 0) hS20 rfl hx27 hc29
      replace hS31 : St w0 wd8 [holeAt (Ty.sl (Ty.sl (Ty.i .i64))) v_a x4 ((k3 : Int)).toNat u28, R, (Ty.sl (Ty.sl (Ty.i .i64))).at u28 x24] := hS31
      obtain ⟨x32, hx33, hb10⟩ := bs hb10
      have hS34 := St.fold [(Ty.sl (Ty.sl (Ty.i .i64))).at u28 x24] [holeAt (Ty.sl (Ty.sl (Ty.i .i64))) v_a x4 ((k3 : Int)).toNat u28, R] (St.pick hS31 [2, 0, 1] rfl)
      refine WL.call _ (op_call fn_74 (args2 rfl rfl)) (c_laws_markInt64SS hS34 hr16 hx33) rfl ?_
      rintro _ wd37 ⟨rfl, hr38, hS35⟩
      have hS36 := St.pick (St.unfold [(Ty.sl (Ty.sl (Ty.i .i64))).at u28 x32.2] [holeAt (Ty.sl (Ty.sl (Ty.i .i64))) v_a x4 ((k3 : Int)).toNat u28, R] hS35) [1, 2, 0] rfl
      replace hS36 : St w0 wd37 [holeAt (Ty.sl (Ty.sl (Ty.i .i64))) v_a x4 ((k3 : Int)).toNat u28, R, (Ty.sl (Ty.sl (Ty.i .i64))).at u28 x32.2] := hS36
      have hS39 := St.rerow (k := 0) (k2 := 2) hS36 rfl rfl rfl
      replace hS39 : St w0 wd37 [(Ty.sl (Ty.sl (Ty.sl (Ty.i .i64)))).at v_a ((x4).set ((k3 : Int)).toNat x32.2), R, emp] := hS39
      refine WL.val (Value.int .i64 x32.1) _ (op_assign rfl) rfl ?_
      refine WL.nil ?_
      show W _ _ _ _ _ _
      refine W.region ?_
      refine WL.val (Value.int .i64 (k3 : Int)) _ (op_move hf17) rfl ?_
      refine WL.val (Value.int .i64 (w64 ((k3 : Int) + (1 : Int)))) _ (op_add rfl rfl) rfl ?_
      refine WL.val (Value.int .i64 (w64 ((k3 : Int) + (1 : Int)))) _ (op_assign rfl) rfl ?_
      refine WL.nil ?_
      obtain rfl := Option.some.inj hb10
      show ∃ s, _ = Ctl.next s ∧ _
      exact ⟨_, rfl, hf14, rfl, hr38, (ctr_next hl22 hr21), (ctr_rng hl22 hr21), (by first | exact hL19 | (simp only [List.length_set]; exact hL19)), (St.pick hS39 [0, 1] rfl)⟩
    · intro s45 f41 wd42 hs43 hI44
      obtain ⟨x46, x47⟩ := s45
      replace hI44 : f41 0 = v_a ∧ f41 1 = Value.int .i64 x47 ∧ InR .i64 x47 ∧ f41 5 = Value.int .i64 (((a).length : Nat) : Int) ∧ InR .i64 (((a).length : Nat) : Int) ∧ (x46).length = (a).length ∧ St w0 wd42 [(Ty.sl (Ty.sl (Ty.sl (Ty.i .i64)))).at v_a x46, R] := hI44
      obtain ⟨hf48, hf49, hr50, hf51, hr52, hL53, hS54⟩ := hI44
      refine W.seq ?_
      refine W.seq ?_
      refine W.region ?_
      refine WL.val (Value.int .i64 (((a).length : Nat) : Int)) _ (op_move hf51) rfl ?_
      refine WL.val v_a _ (op_move hf48) rfl ?_
      have hr55 := inR_len (St.rep (t := (Ty.sl (Ty.sl (Ty.sl (Ty.i .i64))))) hS54 0 rfl)
      refine WL.val (Value.int .i64 ((x46).length : Int)) _ (op_lenL sl_22 (St.rep (t := (Ty.sl (Ty.sl (Ty.sl (Ty.i .i64))))) hS54 0 rfl) rfl) rfl ?_
      refine WL.val (Value.bool (decide ((((a).length : Nat) : Int) < ((x46).length : Int)))) _ (op_lss rfl rfl) rfl ?_
      have hl56 : ¬ (((a).length : Nat) : Int) < ((x46).length : Int) := by omega
      refine WL.nil ?_
      show W _ _ _ _ _ _
      refine W.condF (decide ((((a).length : Nat) : Int) < ((x46).length : Int))) rfl (decide_eq_false hl56) ?_
      refine W.exit ?_
      show _ = _ ∧ _
      exact ⟨rfl, _, hs43, hf49, hr50, (by first | exact hL53 | (simp only [List.length_set]; exact hL53)), hS54⟩
  · rintro f57 wd58 ⟨s60, rfl, hq59⟩
    replace h := onRes_fin h
    obtain ⟨x61, x62⟩ := s60
    replace hq59 : f57 1 = Value.int .i64 x62 ∧ InR .i64 x62 ∧ (x61).length = (a).length ∧ St w0 wd58 [(Ty.sl (Ty.sl (Ty.sl (Ty.i .i64)))).at v_a x61, R] := hq59
    replace h : (_ : Option _) = _ := h
    dsimp only at h
    obtain ⟨hf63, hr64, hL65, hS66⟩ := hq59
    show W _ _ _ _ _ _
    refine W.seq ?_
    refine W.region ?_
    refine WL.val (Value.int .i64 x62) _ (op_move hf63) rfl ?_
    refine WL.val (Value.int .i64 x62) _ (op_assign rfl) rfl ?_
    refine WL.nil ?_
    show W _ _ _ _ _ _
    refine W.ret ?_
    obtain rfl := Option.some.inj h
    show FinP _ _ _ _ _ _ _
    exact FinP.ret _ (res1 rfl rfl) ⟨rfl, hr64, (St.pick hS66 [0, 1] rfl)⟩

theorem c_laws_markRing {w : World} {a_Table : (List (List (List Int)))} {v_a_Table : Value} {k1 : Int} {w0 : World} {R : Ent} (hS0 : St w0 w [(Ty.sl (Ty.sl (Ty.sl (Ty.i .i64)))).at v_a_Table a_Table, R]) (r_k1 : InR .i64 k1) {res : Int × (List (List (List Int)))} (h : p_laws_markRing a_Table k1  = some res) :
    Ret Try.prog 26 #[(Value.agg #[v_a_Table]), (Value.int .i64 k1)] w (fun v w' => v = Value.int .i64 res.1 ∧ InR .i64 res.1 ∧ St w0 w' [(Ty.sl (Ty.sl (Ty.sl (Ty.i .i64)))).at v_a_Table res.2, R]) := by
  unfold p_laws_markRing at h
  refine Ret.start (fn := Try.f26) Try.func26 rfl 10 rfl rfl ?_
  refine W.seq ?_
  refine W.region ?_
  refine WL.box hS0 rfl (cs := [v_a_Table]) rfl rfl ?_
  intro b1 wd2 hS3 he4 hx5
  replace hS3 : St w0 wd2 [(Ty.sl (Ty.sl (Ty.sl (Ty.i .i64)))).at v_a_Table a_Table, R, bx b1 [v_a_Table]] := hS3
  refine WL.val (Value.int .i64 (0 : Int)) _ (op_assign rfl) rfl ?_
  refine WL.nil ?_
  show W _ _ _ _ _ _
  refine W.seq ?_
  refine W.region ?_
  refine WL.val (Value.pointer (some ⟨b1, 0, none⟩)) _ (op_fieldAddr fd_29_0 rfl) rfl ?_
  refine WL.val v_a_Table _ (op_load one_22 rfl (BoxAt.cell (St.boxAt hS3 2 rfl) rfl)) rfl ?_
  refine WL.val (Value.int .i64 k1) _ (op_move rfl) rfl ?_
  obtain ⟨x6, hx7, h⟩ := bs h
  have hS8 := St.fold [(Ty.sl (Ty.sl (Ty.sl (Ty.i .i64)))).at v_a_Table a_Table] [R, bx b1 [v_a_Table]] (St.pick hS3 [0, 1, 2] rfl)
  refine WL.call _ (op_call fn_50 (args2 rfl rfl)) (c_laws_markInt64SSS hS8 r_k1 hx7) rfl ?_
  rintro _ wd11 ⟨rfl, hr12, hS9⟩
  have hS10 := St.pick (St.unfold [(Ty.sl (Ty.sl (Ty.sl (Ty.i .i64)))).at v_a_Table x6.2] [R, bx b1 [v_a_Table]] hS9) [0, 1, 2] rfl
  replace hS10 : St w0 wd11 [(Ty.sl (Ty.sl (Ty.sl (Ty.i .i64)))).at v_a_Table x6.2, R, bx b1 [v_a_Table]] := hS10
  refine WL.val (Value.int .i64 x6.1) _ (op_assign rfl) rfl ?_
  refine WL.nil ?_
  show W _ _ _ _ _ _
  refine W.seq ?_
  refine W.region ?_
  refine WL.val (Value.int .i64 x6.1) _ (op_move rfl) rfl ?_
  refine WL.val (Value.int .i64 x6.1) _ (op_assign rfl) rfl ?_
  refine WL.nil ?_
  show W _ _ _ _ _ _
  refine W.ret ?_
  obtain rfl := Option.some.inj h
  show FinP _ _ _ _ _ _ _
  exact FinP.ret _ (res1 rfl rfl) ⟨rfl, hr12, (St.pick hS10 [0, 1] rfl)⟩

theorem c_laws_heldInt64S {w : World} {a : (List Int)} {v_a : Value} {k1 : Int} (r_a : (Ty.sl (Ty.i .i64)).rep w v_a a) (r_k1 : InR .i64 k1) {res : Int} (h : p_laws_heldInt64S a k1  = some res) :
    Ret Try.prog 28 #[v_a, (Value.int .i64 k1)] w (fun v w' => v = Value.int .i64 res ∧ InR .i64 res ∧ Ext w w') := by
  unfold p_laws_heldInt64S at h
  have hS0 : St w w [] := St.start w
  refine Ret.start (fn := Try.f28) Try.func28 rfl 21 rfl rfl ?_
  refine W.seq ?_
  refine W.region ?_
  refine WL.val (Value.int .i64 (0 : Int)) _ (op_assign rfl) rfl ?_
  refine WL.nil ?_
  show W _ _ _ _ _ _
  refine W.seq ?_
  refine W.seq ?_
  refine W.region ?_
  refine WL.val (Value.int .i64 (0 : Int)) _ (op_assign rfl) rfl ?_
  refine WL.nil ?_
  show W _ _ _ _ _ _
  obtain ⟨res1, hres2, h⟩ := bs h
  refine W.blockLoop (fun fq wq => ∃ s, res1 = Res.fin s ∧ fq 1 = Value.int .i64 s ∧ InR .i64 s ∧ St w wq []) ?_ ?_
  · refine W.forN (fun k (s : Int) fq wq => fq 0 = v_a ∧ fq 1 = Value.int .i64 s ∧ InR .i64 s ∧ fq 5 = Value.int .i64 (k : Int) ∧ InR .i64 (k : Int) ∧ St w wq []) hres2 ⟨rfl, rfl, r_k1, rfl, (inR_i64.2 (show (-9223372036854775808 : Int) ≤ 0 ∧ (0 : Int) ≤ 9223372036854775807 from by decide)), hS0⟩ ?_ ?_
    · intro k3 x4 ct5 f6 wd7 hk8 hb9 hI10 hbrk11 hret12
      replace hI10 : f6 0 = v_a ∧ f6 1 = Value.int .i64 x4 ∧ InR .i64 x4 ∧ f6 5 = Value.int .i64 (k3 : Int) ∧ InR .i64 (k3 : Int) ∧ St w wd7 [] := hI10
      replace hb9 : p_laws_heldInt64S_L1 a k3 x4 = some ct5 := hb9
      unfold p_laws_heldInt64S_L1 at hb9
      obtain ⟨hf13, hf14, hr15, hf16, hr17, hS18⟩ := hI10
      refine W.seq ?_
      refine W.seq ?_
      refine W.region ?_
      refine WL.val (Value.int .i64 (k3 : Int)) _ (op_move hf16) rfl ?_
      refine WL.val v_a _ (op_move hf13) rfl ?_
      have hr19 := inR_len (Ty.lift _ hS18.ext r_a)
      refine WL.val (Value.int .i64 ((a).length : Int)) _ (op_lenL sl_25 (Ty.lift _ hS18.ext r_a) rfl) rfl ?_
      refine WL.val (Value.bool (decide ((k3 : Int) < ((a).length : Int)))) _ (op_lss rfl rfl) rfl ?_
      have hl20 : (k3 : Int) < ((a).length : Int) := by omega
      refine WL.nil ?_
      show W _ _ _ _ _ _
      refine W.condT (decide ((k3 : Int) < ((a).length : Int))) rfl (decide_eq_true hl20) ?_
      refine W.skip ?_
      show W _ _ _ _ _ _
      refine W.seq ?_
      refine W.block ?_
      refine W.seq ?_
      refine W.seq ?_
      refine W.region ?_
      refine WL.val v_a _ (op_move hf13) rfl ?_
      refine WL.val (Value.int .i64 (k3 : Int)) _ (op_move hf16) rfl ?_
      obtain ⟨x22, hx25, hb9⟩ := bs hb9
      obtain ⟨ha23, hb24, hx25⟩ := idx_some hx25
      refine WL.val (Value.pointer (some (elA v_a ((k3 : Int)).toNat))) _ (op_idx sl_25 (Ty.lift _ hS18.ext r_a) rfl rfl ha23 hb24) rfl ?_
      obtain ⟨u26, hc27, hr28⟩ := repSl.el r_a hx25
      obtain ⟨rfl, hr28⟩ := hr28
      refine WL.val (Value.int .i64 x22) _ (op_load one_2 rfl (Ext.cell hS18.ext hc27)) rfl ?_
      refine WL.val (Value.int .i64 x4) _ (op_move hf14) rfl ?_
      refine WL.val (Value.bool (x22 != x4)) _ (op_neq rfl rfl) rfl ?_
      refine WL.nil ?_
      show W _ _ _ _ _ _
      refine W.cond (x22 != x4) rfl (fun hc29 => ?_) (fun hc29 => ?_)
      · replace hb9 := ip hb9 hc29
        refine W.seq ?_
        refine W.region ?_
        refine WL.val (Value.int .i64 (-1 : Int)) _ (op_assign rfl) rfl ?_
        refine WL.nil ?_
        show W _ _ _ _ _ _
        refine W.ret ?_
        obtain rfl := Option.some.inj hb9
        obtain rfl := hret12 _ rfl
        replace h := onRes_ret h
        obtain rfl := Option.some.inj h
        show FinP _ _ _ _ _ _ _
        exact FinP.ret _ (res1 rfl rfl) ⟨rfl, (inR_i64.2 (show (-9223372036854775808 : Int) ≤ -1 ∧ (-1 : Int) ≤ 9223372036854775807 from by decide)), hS18.ext⟩
      · replace hb9 := inegb hb9 hc29
        refine W.skip ?_
        show W _ _ _ _ _ _
        refine W.region ?_
        refine WL.val (Value.int .i64 x4) _ (op_move hf14) rfl ?_
        refine WL.val (Value.int .i64 (w64 (x4 + (1 : Int)))) _ (op_add rfl rfl) rfl ?_
        refine WL.val (Value.int .i64 (w64 (x4 + (1 : Int)))) _ (op_assign rfl) rfl ?_
        refine WL.nil ?_
        show W _ _ _ _ _ _
        refine W.region ?_
        refine WL.val (Value.int .i64 (k3 : Int)) _ (op_move hf16) rfl ?_
        refine WL.val (Value.int .i64 (w64 ((k3 : Int) + (1 : Int)))) _ (op_add rfl rfl) rfl ?_
        refine WL.val (Value.int .i64 (w64 ((k3 : Int) + (1 : Int)))) _ (op_assign rfl) rfl ?_
        refine WL.nil ?_
        obtain rfl := Option.some.inj hb9
        show ∃ s, _ = Ctl.next s ∧ _
        exact ⟨_, rfl, hf13, rfl, (inR_wrap _ _), (ctr_next hl20 hr19), (ctr_rng hl20 hr19), hS18⟩
    · intro x37 f32 wd33 hs34 hI35
      replace hI35 : f32 0 = v_a ∧ f32 1 = Value.int .i64 x37 ∧ InR .i64 x37 ∧ f32 5 = Value.int .i64 (((a).length : Nat) : Int) ∧ InR .i64 (((a).length : Nat) : Int) ∧ St w wd33 [] := hI35
      obtain ⟨hf38, hf39, hr40, hf41, hr42, hS43⟩ := hI35
      refine W.seq ?_
      refine W.seq ?_
      refine W.region ?_
      refine WL.val (Value.int .i64 (((a).length : Nat) : Int)) _ (op_move hf41) rfl ?_
      refine WL.val v_a _ (op_move hf38) rfl ?_
      have hr44 := inR_len (Ty.lift _ hS43.ext r_a)
      refine WL.val (Value.int .i64 ((a).length : Int)) _ (op_lenL sl_25 (Ty.lift _ hS43.ext r_a) rfl) rfl ?_
      refine WL.val (Value.bool (decide ((((a).length : Nat) : Int) < ((a).length : Int)))) _ (op_lss rfl rfl) rfl ?_
      have hl45 : ¬ (((a).length : Nat) : Int) < ((a).length : Int) := by omega
      refine WL.nil ?_
      show W _ _ _ _ _ _
      refine W.condF (decide ((((a).length : Nat) : Int) < ((a).length : Int))) rfl (decide_eq_false hl45) ?_
      refine W.exit ?_
      show _ = _ ∧ _
      exact ⟨rfl, _, hs34, hf39, hr40, hS43⟩
  · rintro f46 wd47 ⟨x50, rfl, hq48⟩
    replace h := onRes_fin h
    replace hq48 : f46 1 = Value.int .i64 x50 ∧ InR .i64 x50 ∧ St w wd47 [] := hq48
    obtain ⟨hf51, hr52, hS53⟩ := hq48
    show W _ _ _ _ _ _
    refine W.seq ?_
    refine W.region ?_
    refine WL.val (Value.int .i64 x50) _ (op_move hf51) rfl ?_
    refine WL.val (Value.int .i64 x50) _ (op_assign rfl) rfl ?_
    refine WL.nil ?_
    show W _ _ _ _ _ _
    refine W.ret ?_
    obtain rfl := Option.some.inj h
    show FinP _ _ _ _ _ _ _
    exact FinP.ret _ (res1 rfl rfl) ⟨rfl, hr52, hS53.ext⟩

theorem c_spec_l03Label {w : World} {r_Table : (List (List (List Int)))} {v_r_Table : Value} {i : Int} (r_r_Table : (Ty.sl (Ty.sl (Ty.sl (Ty.i .i64)))).rep w v_r_Table r_Table) (r_i : InR .i64 i) {res : Bool} (h : p_spec_l03Label r_Table i  = some res) :
    Ret Try.prog 55 #[(Value.agg #[v_r_Table]), (Value.int .i64 i)] w (fun v w' => v = Value.bool res ∧ Ext w w') := by
  unfold p_spec_l03Label at h
  have hS0 : St w w [] := St.start w
  refine Ret.start (fn := Try.f55) Try.func55 rfl 11 rfl rfl ?_
  refine W.seq ?_
  refine W.region ?_
  refine WL.box hS0 rfl (cs := [v_r_Table]) rfl rfl ?_
  intro b1 wd2 hS3 he4 hx5
  replace hS3 : St w wd2 [bx b1 [v_r_Table]] := hS3
  have hx6 := St.boxAt hS3 0 rfl
  have hE7 : Ext w wd2 := hS3.ext
  have hS8 : St wd2 wd2 [] := St.start wd2
  refine WL.val (Value.bool false) _ (op_assign rfl) rfl ?_
  refine WL.nil ?_
  show W _ _ _ _ _ _
  refine W.seq ?_
  refine W.region ?_
  refine WL.val (Value.int .i64 i) _ (op_move rfl) rfl ?_
  refine WL.val (Value.pointer (some ⟨b1, 0, none⟩)) _ (op_fieldAddr fd_29_0 rfl) rfl ?_
  refine WL.val v_r_Table _ (op_load one_22 rfl (BoxAt.cell (BoxAt.lift hS8.ext hx6) rfl)) rfl ?_
  have hr9 := inR_len (Ty.lift _ (Ext.trans hE7 hS8.ext) r_r_Table)
  refine WL.val (Value.int .i64 ((r_Table).length : Int)) _ (op_lenL sl_22 (Ty.lift _ (Ext.trans hE7 hS8.ext) r_r_Table) rfl) rfl ?_
  refine WL.val (Value.int .i64 (w64 (((r_Table).length : Int) - (1 : Int)))) _ (op_sub rfl rfl) rfl ?_
  obtain ⟨x10, hx11, h⟩ := bs h
  refine WL.call _ (op_call fn_56 (args3 rfl rfl rfl)) (c_spec_l01In r_i (inR_i64.2 (show (-9223372036854775808 : Int) ≤ 0 ∧ (0 : Int) ≤ 9223372036854775807 from by decide)) (inR_wrap _ _) hx11) rfl ?_
  rintro _ wd12 ⟨rfl, he13⟩
  have hS15 := St.extend hS8 he13
  replace hS15 : St wd2 wd12 [] := hS15
  refine WL.val (Value.bool x10) _ (op_assign rfl) rfl ?_
  refine WL.nil ?_
  show W _ _ _ _ _ _
  refine W.ret ?_
  obtain rfl := Option.some.inj h
  show FinP _ _ _ _ _ _ _
  exact FinP.ret _ (res1 rfl rfl) ⟨rfl, (Ext.trans hE7 hS15.ext)⟩

theorem c_spec_PowerOfLabel {w : World} {r_Table : (List (List (List Int)))} {v_r_Table : Value} {i : Int} {k1 : Int} (r_r_Table : (Ty.sl (Ty.sl (Ty.sl (Ty.i .i64)))).rep w v_r_Table r_Table) (r_i : InR .i64 i) (r_k1 : InR .i64 k1) {res : (List Int) × Int} (h : p_spec_PowerOfLabel r_Table i k1  = some res) :
    Ret Try.prog 34 #[(Value.agg #[v_r_Table]), (Value.int .i64 i), (Value.int .i64 k1)] w (fun v w' => ∃ (u0 : Value), v = (Value.tuple #[u0, Value.int .i64 res.2]) ∧ InR .i64 res.2 ∧ Ext w w' ∧ Sep w.heap.size w' [(Ty.sl (Ty.i .i64)).at u0 res.1]) := by
  unfold p_spec_PowerOfLabel at h
  have hS0 : St w w [] := St.start w
  refine Ret.start (fn := Try.f34) Try.func34 rfl 50 rfl rfl ?_
  refine W.seq ?_
  refine W.region ?_
  refine WL.box hS0 rfl (cs := [v_r_Table]) rfl rfl ?_
  intro b1 wd2 hS3 he4 hx5
  replace hS3 : St w wd2 [bx b1 [v_r_Table]] := hS3
  have hx6 := St.boxAt hS3 0 rfl
  have hE7 : Ext w wd2 := hS3.ext
  have hS8 : St wd2 wd2 [] := St.start wd2
  refine WL.val (Value.slice none 0 0) _ (op_assign rfl) rfl ?_
  refine WL.val (Value.int .i64 (0 : Int)) _ (op_assign rfl) rfl ?_
  refine WL.nil ?_
  show W _ _ _ _ _ _
  refine W.seq ?_
  refine W.block ?_
  refine W.seq ?_
  refine W.region ?_
  refine WL.val (Value.agg #[v_r_Table]) _ (op_loadBox st_29 rfl (BoxAt.lift hS8.ext hx6) rfl rfl) rfl ?_
  obtain ⟨x9, hx10, h⟩ := bs h
  refine WL.call _ (op_call fn_37 (args1 rfl)) (c_spec_l03Is (Ty.lift _ (Ext.trans hE7 hS8.ext) r_r_Table) hx10) rfl ?_
  rintro _ wd11 ⟨rfl, he12⟩
  have hS14 := St.extend hS8 he12
  replace hS14 : St wd2 wd11 [] := hS14
  refine WL.val (Value.bool (!x9)) _ (op_not rfl) rfl ?_
  refine WL.val (Value.bool (!x9)) _ (op_assign rfl) rfl ?_
  refine WL.nil ?_
  show W _ _ _ _ _ _
  refine W.cond (!x9) rfl (fun hc15 => ?_) (fun hc15 => ?_)
  · replace h := ip h hc15
    refine W.seq ?_
    refine W.region ?_
    refine WL.val (Value.slice none 0 0) _ (op_assign rfl) rfl ?_
    refine WL.val (Value.int .i64 (1 : Int)) _ (op_assign rfl) rfl ?_
    refine WL.nil ?_
    show W _ _ _ _ _ _
    refine W.ret ?_
    obtain rfl := Option.some.inj h
    show FinP _ _ _ _ _ _ _
    exact FinP.ret _ (res2 rfl rfl rfl) ⟨(Value.slice none 0 0), rfl, (inR_i64.2 (show (-9223372036854775808 : Int) ≤ 1 ∧ (1 : Int) ≤ 9223372036854775807 from by decide)), (Ext.trans hE7 hS14.ext), (St.out (St.pick (St.addNil (Ty.i .i64) hS14) [0] rfl) (hE7))⟩
  · replace h := inegb h hc15
    refine W.seq ?_
    refine W.region ?_
    refine WL.val (Value.agg #[v_r_Table]) _ (op_loadBox st_29 rfl (BoxAt.lift hS14.ext hx6) rfl rfl) rfl ?_
    refine WL.val (Value.int .i64 i) _ (op_move rfl) rfl ?_
    obtain ⟨x17, hx18, h⟩ := bs h
    refine WL.call _ (op_call fn_55 (args2 rfl rfl)) (c_spec_l03Label (Ty.lift _ (Ext.trans hE7 hS14.ext) r_r_Table) r_i hx18) rfl ?_
    rintro _ wd19 ⟨rfl, he20⟩
    have hS22 := St.extend hS14 he20
    replace hS22 : St wd2 wd19 [] := hS22
    refine WL.val (Value.bool (!x17)) _ (op_not rfl) rfl ?_
    refine WL.val (Value.bool (!x17)) _ (op_move rfl) rfl ?_
    obtain ⟨x24, hj25, h⟩ := bs h
    refine WL.cut 4 (fun fq wq => fq 1 = (Value.int .i64 i) ∧ fq 2 = (Value.int .i64 k1) ∧ fq 3 = (Value.pointer (some ⟨b1, 0, none⟩)) ∧ fq 24 = Value.bool x24 ∧ St wd2 wq []) ?_ ?_
    · rcases Bool.eq_false_or_eq_true (!x17) with hc23 | hc23
      · replace hj25 := ip hj25 hc23
        refine WL.gskip rfl (bool_of rfl hc23) rfl ?_
        refine WL.gskip rfl (bool_of rfl hc23) rfl ?_
        refine WL.gskip rfl (bool_of rfl hc23) rfl ?_
        refine WL.val (Value.bool true) _ (op_pick_t (evb_of rfl hc23) rfl) rfl ?_
        refine WL.nil ?_
        obtain rfl := Option.some.inj hj25
        exact ⟨rfl, rfl, rfl, rfl, rfl, hS22⟩
      · replace hj25 := inegb hj25 hc23
        refine WL.grun rfl (bool_of rfl hc23) ?_
        refine WL.val (Value.int .i64 k1) _ (op_move rfl) rfl ?_
        refine WL.grun rfl (bool_of rfl hc23) ?_
        obtain ⟨x29, hx30, hj25⟩ := bs hj25
        refine WL.call _ (op_call fn_56 (args3 rfl rfl rfl)) (c_spec_l01In r_k1 (inR_i64.2 (show (-9223372036854775808 : Int) ≤ 0 ∧ (0 : Int) ≤ 9223372036854775807 from by decide)) (inR_i64.2 (show (-9223372036854775808 : Int) ≤ 40 ∧ (40 : Int) ≤ 9223372036854775807 from by decide)) hx30) rfl ?_
        rintro _ wd31 ⟨rfl, he32⟩
        have hS34 := St.extend hS22 he32
        replace hS34 : St wd2 wd31 [] := hS34
        refine WL.grun rfl (bool_of rfl hc23) ?_
        refine WL.val (Value.bool (!x29)) _ (op_not rfl) rfl ?_
        refine WL.val (Value.bool (!x29)) _ (op_pick_f (evb_of rfl hc23) rfl) rfl ?_
        refine WL.nil ?_
        obtain rfl := Option.some.inj hj25
        exact ⟨rfl, rfl, rfl, rfl, rfl, hS34⟩
    · intro f26 wd27 hq28
      obtain ⟨hf35, hf36, hf37, hf38, hS39⟩ := hq28
      refine WL.val (Value.bool x24) _ (op_assign hf38) rfl ?_
      refine WL.nil ?_
      show W _ _ _ _ _ _
      refine W.cond x24 rfl (fun hc40 => ?_) (fun hc40 => ?_)
      · replace h := ip h hc40
        refine W.seq ?_
        refine W.region ?_
        refine WL.val (Value.slice none 0 0) _ (op_assign rfl) rfl ?_
        refine WL.val (Value.int .i64 (2 : Int)) _ (op_assign rfl) rfl ?_
        refine WL.nil ?_
        show W _ _ _ _ _ _
        refine W.ret ?_
        obtain rfl := Option.some.inj h
        show FinP _ _ _ _ _ _ _
        exact FinP.ret _ (res2 rfl rfl rfl) ⟨(Value.slice none 0 0), rfl, (inR_i64.2 (show (-9223372036854775808 : Int) ≤ 2 ∧ (2 : Int) ≤ 9223372036854775807 from by decide)), (Ext.trans hE7 hS39.ext), (St.out (St.pick (St.addNil (Ty.i .i64) hS39) [0] rfl) (hE7))⟩
      · replace h := inegb h hc40
        refine W.skip ?_
        show W _ _ _ _ _ _
        refine W.seq ?_
        obtain ⟨x58, hx59, h⟩ := bs h
        refine W.draw mixo 4 [fun v w' => ∃ (uu0 : Value), v = (Value.agg #[uu0]) ∧ (Ty.sl (Ty.sl (Ty.sl (Ty.i .i64)))).rep w' uu0 r_Table, fun v w' => Sep wd27.heap.size w' [(Ty.sl (Ty.i .i64)).at v x58], fun v w' => ∃ (uu0 : Value), v = (Value.agg #[uu0]) ∧ (Ty.sl (Ty.sl (Ty.sl (Ty.i .i64)))).rep w' uu0 r_Table, fun v _ => v = (Value.int .i64 i) ∧ InR .i64 i] (by kernel_rfl) (by kernel_rfl) (stabL ⟨(fun _ _ _ he ⟨uu0, h0, r0⟩ => ⟨uu0, h0, Ty.lift _ he r0⟩), (fun _ _ _ he h => Sep.extend h he), (fun _ _ _ he ⟨uu0, h0, r0⟩ => ⟨uu0, h0, Ty.lift _ he r0⟩), (fun _ _ _ _ h => h), trivial⟩) ⟨?_, ?_, ?_, ?_, trivial⟩ ?_
        · intro f42 wd43 he44 hout45 hphi46
          have hS47 : St wd2 wd43 [] := St.extend hS39 he44
          have e48 : f42 3 = (Value.pointer (some ⟨b1, 0, none⟩)) := (hout45 3 rfl).trans hf37
          exact OpY.val (Value.agg #[v_r_Table]) wd43 rfl (op_loadBox st_29 e48 (BoxAt.lift hS47.ext hx6) rfl rfl) (Ext.refl _) ⟨v_r_Table, rfl, (Ty.lift _ (Ext.trans hE7 hS47.ext) r_r_Table)⟩
        · intro f49 wd50 he51 hout52 hphi53
          have hS54 : St wd2 wd50 [] := St.extend hS39 he51
          obtain ⟨u56, e55, hr57⟩ := hphi53 0 25 _ rfl rfl rfl
          refine OpY.call rfl (op_call fn_57 (args2 e55 rfl)) (Ret.mono (c_spec_l03One hr57 (inR_i64.2 (show (-9223372036854775808 : Int) ≤ 0 ∧ (0 : Int) ≤ 9223372036854775807 from by decide)) hx59) ?_)
          rintro u60 wd61 ⟨_, rfl, he62, hs63⟩
          exact ⟨he62, (Sep.low hs63 (Ext.size (he51)))⟩
        · intro f64 wd65 he66 hout67 hphi68
          have hS69 : St wd2 wd65 [] := St.extend hS39 he66
          have e70 : f64 3 = (Value.pointer (some ⟨b1, 0, none⟩)) := (hout67 3 rfl).trans hf37
          exact OpY.val (Value.agg #[v_r_Table]) wd65 rfl (op_loadBox st_29 e70 (BoxAt.lift hS69.ext hx6) rfl rfl) (Ext.refl _) ⟨v_r_Table, rfl, (Ty.lift _ (Ext.trans hE7 hS69.ext) r_r_Table)⟩
        · intro f71 wd72 he73 hout74 hphi75
          have hS76 : St wd2 wd72 [] := St.extend hS39 he73
          have e77 : f71 1 = (Value.int .i64 i) := (hout74 1 rfl).trans hf35
          exact OpY.val (Value.int .i64 i) wd72 rfl (op_move e77) (Ext.refl _) ⟨rfl, r_i⟩
        · intro f78 wd79 he80 hout81 hphi82
          show WL _ _ _ _ _ _ _
          have hS83 : St wd2 wd79 [] := St.extend hS39 he80
          have e84 : Sep wd27.heap.size wd79 [(Ty.sl (Ty.i .i64)).at (f78 26) x58] := hphi82 1 26 _ (by decide) rfl rfl
          obtain ⟨u86, e85, hr87⟩ := hphi82 2 27 _ (by decide) rfl rfl
          obtain ⟨e88, hr89⟩ : f78 28 = (Value.int .i64 i) ∧ InR .i64 i := hphi82 3 28 _ (by decide) rfl rfl
          have e90 : f78 2 = (Value.int .i64 k1) := (hout81 2 rfl).trans hf36
          have e91 : f78 3 = (Value.pointer (some ⟨b1, 0, none⟩)) := (hout81 3 rfl).trans hf37
          have hS92 := St.join hS39 he80 e84
          replace hS92 : St wd2 wd79 [(Ty.sl (Ty.i .i64)).at (f78 26) x58] := hS92
          obtain ⟨x93, hx94, h⟩ := bs h
          refine WL.call _ (op_call fn_57 (args2 e85 e88)) (c_spec_l03One hr87 hr89 hx94) rfl ?_
          rintro u95 wd96 ⟨_, rfl, he97, hs98⟩
          have hS99 := St.join hS92 he97 hs98
          replace hS99 : St wd2 wd96 [(Ty.sl (Ty.i .i64)).at (f78 26) x58, (Ty.sl (Ty.i .i64)).at u95 x93] := hS99
          refine WL.val (f78 26) _ (op_assign rfl) rfl ?_
          refine WL.val u95 _ (op_assign rfl) rfl ?_
          refine WL.nil ?_
          show W _ _ _ _ _ _
          refine W.seq ?_
          obtain ⟨res100, hres101, h⟩ := bs h
          refine W.blockLoop (fun fq wq => ∃ s, res100 = Res.fin s ∧ ∃ (uu0 : Value), fq 8 = uu0 ∧ St wd2 wq [(Ty.sl (Ty.i .i64)).at uu0 s.1]) ?_ ?_
          · refine W.whileC (fun (s : (List Int) × Int) fq wq => ∃ (uu0 : Value), fq 2 = Value.int .i64 s.2 ∧ InR .i64 s.2 ∧ fq 3 = (Value.pointer (some ⟨b1, 0, none⟩)) ∧ fq 8 = uu0 ∧ fq 9 = u95 ∧ St wd2 wq [(Ty.sl (Ty.i .i64)).at u95 x93, (Ty.sl (Ty.i .i64)).at uu0 s.1]) hres101 ⟨(f78 26), e90, r_k1, e91, rfl, rfl, (St.pick hS99 [1, 0] rfl)⟩ ?_
            intro s184 ct105 f106 wd107 hb109 hI110 hbrk111 hret112
            obtain ⟨x103, x104⟩ := s184
            replace hI110 : ∃ (uu0 : Value), f106 2 = Value.int .i64 x104 ∧ InR .i64 x104 ∧ f106 3 = (Value.pointer (some ⟨b1, 0, none⟩)) ∧ f106 8 = uu0 ∧ f106 9 = u95 ∧ St wd2 wd107 [(Ty.sl (Ty.i .i64)).at u95 x93, (Ty.sl (Ty.i .i64)).at uu0 x103] := hI110
            replace hb109 : p_spec_PowerOfLabel_L1 r_Table x93  x103 x104 = some ct105 := hb109
            unfold p_spec_PowerOfLabel_L1 at hb109
            obtain ⟨u113, hf114, hr115, hf116, hf117, hf118, hS119⟩ := hI110
            refine W.seq ?_
            refine W.seq ?_
            refine W.region ?_
            refine WL.val (Value.int .i64 x104) _ (op_move hf114) rfl ?_
            refine WL.val (Value.bool (decide (x104 > (0 : Int)))) _ (op_gtr rfl rfl) rfl ?_
            refine WL.nil ?_
            show W _ _ _ _ _ _
            refine W.cond (decide (x104 > (0 : Int))) rfl (fun hc120 => ?_) (fun hc120 => ?_)
            · replace hb109 := ip hb109 hc120
              refine W.skip ?_
              show W _ _ _ _ _ _
              refine W.seq ?_
              refine W.block ?_
              refine W.seq ?_
              refine W.region ?_
              refine WL.val (Value.agg #[v_r_Table]) _ (op_loadBox st_29 hf116 (BoxAt.lift hS119.ext hx6) rfl rfl) rfl ?_
              refine WL.val u113 _ (op_move hf117) rfl ?_
              refine WL.val u95 _ (op_move hf118) rfl ?_
              obtain ⟨x122, hx123, hb109⟩ := bs hb109
              refine WL.call _ (op_call fn_48 (args3 rfl rfl rfl)) (c_spec_l03Times (Ty.lift _ (Ext.trans hE7 hS119.ext) r_r_Table) (St.rep (t := (Ty.sl (Ty.i .i64))) hS119 1 rfl) (St.rep (t := (Ty.sl (Ty.i .i64))) hS119 0 rfl) hx123) rfl ?_
              rintro u124 wd125 ⟨_, rfl, he126, hs127⟩
              have hS128 := St.join hS119 he126 hs127
              replace hS128 : St wd2 wd125 [(Ty.sl (Ty.i .i64)).at u95 x93, (Ty.sl (Ty.i .i64)).at u113 x103, (Ty.sl (Ty.i .i64)).at u124 x122] := hS128
              refine WL.val u124 _ (op_assign rfl) rfl ?_
              refine WL.nil ?_
              show W _ _ _ _ _ _
              refine W.seq ?_
              refine W.region ?_
              refine WL.val (Value.int .i64 (0 : Int)) _ (op_assign rfl) rfl ?_
              refine WL.nil ?_
              show W _ _ _ _ _ _
              obtain ⟨res129, hres130, hb109⟩ := bs hb109
              refine W.blockLoop (fun fq wq => ∃ s, res129 = Res.fin s ∧ fq 2 = (Value.int .i64 x104) ∧ fq 3 = (Value.pointer (some ⟨b1, 0, none⟩)) ∧ fq 8 = u124 ∧ fq 9 = u95 ∧ St wd2 wq [(Ty.sl (Ty.i .i64)).at u95 x93, (Ty.sl (Ty.i .i64)).at u124 x122]) ?_ ?_
              · refine W.forN (fun k (s : Unit) fq wq => fq 2 = (Value.int .i64 x104) ∧ fq 3 = (Value.pointer (some ⟨b1, 0, none⟩)) ∧ fq 8 = u124 ∧ fq 9 = u95 ∧ fq 10 = Value.int .i64 (k : Int) ∧ InR .i64 (k : Int) ∧ St wd2 wq [(Ty.sl (Ty.i .i64)).at u95 x93, (Ty.sl (Ty.i .i64)).at u124 x122]) hres130 ⟨hf114, hf116, rfl, hf118, rfl, (inR_i64.2 (show (-9223372036854775808 : Int) ≤ 0 ∧ (0 : Int) ≤ 9223372036854775807 from by decide)), (St.pick hS128 [0, 2] rfl)⟩ ?_ ?_
                · intro k131 s159 ct132 f133 wd134 hk135 hb136 hI137 hbrk138 hret139
                  obtain ⟨⟩ := s159
                  replace hI137 : f133 2 = (Value.int .i64 x104) ∧ f133 3 = (Value.pointer (some ⟨b1, 0, none⟩)) ∧ f133 8 = u124 ∧ f133 9 = u95 ∧ f133 10 = Value.int .i64 (k131 : Int) ∧ InR .i64 (k131 : Int) ∧ St wd2 wd134 [(Ty.sl (Ty.i .i64)).at u95 x93, (Ty.sl (Ty.i .i64)).at u124 x122] := hI137
                  replace hb136 : p_spec_PowerOfLabel_L2 x122 k131  = some ct132 := hb136
                  unfold p_spec_PowerOfLabel_L2 at hb136
                  obtain ⟨hf140, hf141, hf142, hf143, hf144, hr145, hS146⟩ := hI137
                  refine W.seq ?_
                  refine W.seq ?_
                  refine W.region ?_
                  refine WL.val (Value.int .i64 (k131 : Int)) _ (op_move hf144) rfl ?_
                  refine WL.val u124 _ (op_move hf142) rfl ?_
                  have hr147 := inR_len (St.rep (t := (Ty.sl (Ty.i .i64))) hS146 1 rfl)
                  refine WL.val (Value.int .i64 ((x122).length : Int)) _ (op_lenL sl_25 (St.rep (t := (Ty.sl (Ty.i .i64))) hS146 1 rfl) rfl) rfl ?_
                  refine WL.val (Value.bool (decide ((k131 : Int) < ((x122).length : Int)))) _ (op_lss rfl rfl) rfl ?_
                  have hl148 : (k131 : Int) < ((x122).length : Int) := by omega
                  refine WL.nil ?_
                  show W _ _ _ _ _ _
                  refine W.condT (decide ((k131 : Int) < ((x122).length : Int))) rfl (decide_eq_true hl148) ?_
                  refine W.skip ?_
                  show W _ _ _ _ _ _
                  refine W.seq ?_
                  refine W.block ?_
                  refine W.seq ?_
                  refine W.region ?_
                  refine WL.val u124 _ (op_move hf142) rfl ?_
                  refine WL.val (Value.int .i64 (k131 : Int)) _ (op_move hf144) rfl ?_
                  obtain ⟨x150, hx153, hb136⟩ := bs hb136
                  obtain ⟨ha151, hb152, hx153⟩ := idx_some hx153
                  refine WL.val (Value.pointer (some (elA u124 ((k131 : Int)).toNat))) _ (op_idx sl_25 (St.rep (t := (Ty.sl (Ty.i .i64))) hS146 1 rfl) rfl rfl ha151 hb152) rfl ?_
                  obtain ⟨u154, hc155, hr156⟩ := repSl.el (St.rep (t := (Ty.sl (Ty.i .i64))) hS146 1 rfl) hx153
                  obtain ⟨rfl, hr156⟩ := hr156
                  refine WL.val (Value.int .i64 x150) _ (op_load one_2 rfl hc155) rfl ?_
                  refine WL.val (Value.bool (decide (x150 > (1000000000 : Int)))) _ (op_gtr rfl rfl) rfl ?_
                  refine WL.nil ?_
                  show W _ _ _ _ _ _
                  refine W.cond (decide (x150 > (1000000000 : Int))) rfl (fun hc157 => ?_) (fun hc157 => ?_)
                  · replace hb136 := ip hb136 hc157
                    refine W.seq ?_
                    refine W.region ?_
                    refine WL.val (Value.slice none 0 0) _ (op_assign rfl) rfl ?_
                    refine WL.val (Value.int .i64 (3 : Int)) _ (op_assign rfl) rfl ?_
                    refine WL.nil ?_
                    show W _ _ _ _ _ _
                    refine W.ret ?_
                    obtain rfl := Option.some.inj hb136
                    obtain rfl := hret139 _ rfl
                    replace hb109 := onRes_ret hb109
                    obtain rfl := Option.some.inj hb109
                    obtain rfl := hret112 _ rfl
                    replace h := onRes_ret h
                    obtain rfl := Option.some.inj h
                    show FinP _ _ _ _ _ _ _
                    exact FinP.ret _ (res2 rfl rfl rfl) ⟨(Value.slice none 0 0), rfl, (inR_i64.2 (show (-9223372036854775808 : Int) ≤ 3 ∧ (3 : Int) ≤ 9223372036854775807 from by decide)), (Ext.trans hE7 hS146.ext), (St.out (St.pick (St.addNil (Ty.i .i64) hS146) [2] rfl) (hE7))⟩
                  · replace hb136 := inegb hb136 hc157
                    refine W.skip ?_
                    show W _ _ _ _ _ _
                    refine W.region ?_
                    refine WL.val (Value.int .i64 (k131 : Int)) _ (op_move hf144) rfl ?_
                    refine WL.val (Value.int .i64 (w64 ((k131 : Int) + (1 : Int)))) _ (op_add rfl rfl) rfl ?_
                    refine WL.val (Value.int .i64 (w64 ((k131 : Int) + (1 : Int)))) _ (op_assign rfl) rfl ?_
                    refine WL.nil ?_
                    obtain rfl := Option.some.inj hb136
                    show ∃ s, _ = Ctl.next s ∧ _
                    exact ⟨_, rfl, hf140, hf141, hf142, hf143, (ctr_next hl148 hr147), (ctr_rng hl148 hr147), hS146⟩
                · intro s164 f160 wd161 hs162 hI163
                  obtain ⟨⟩ := s164
                  replace hI163 : f160 2 = (Value.int .i64 x104) ∧ f160 3 = (Value.pointer (some ⟨b1, 0, none⟩)) ∧ f160 8 = u124 ∧ f160 9 = u95 ∧ f160 10 = Value.int .i64 (((x122).length : Nat) : Int) ∧ InR .i64 (((x122).length : Nat) : Int) ∧ St wd2 wd161 [(Ty.sl (Ty.i .i64)).at u95 x93, (Ty.sl (Ty.i .i64)).at u124 x122] := hI163
                  obtain ⟨hf165, hf166, hf167, hf168, hf169, hr170, hS171⟩ := hI163
                  refine W.seq ?_
                  refine W.seq ?_
                  refine W.region ?_
                  refine WL.val (Value.int .i64 (((x122).length : Nat) : Int)) _ (op_move hf169) rfl ?_
                  refine WL.val u124 _ (op_move hf167) rfl ?_
                  have hr172 := inR_len (St.rep (t := (Ty.sl (Ty.i .i64))) hS171 1 rfl)
                  refine WL.val (Value.int .i64 ((x122).length : Int)) _ (op_lenL sl_25 (St.rep (t := (Ty.sl (Ty.i .i64))) hS171 1 rfl) rfl) rfl ?_
                  refine WL.val (Value.bool (decide ((((x122).length : Nat) : Int) < ((x122).length : Int)))) _ (op_lss rfl rfl) rfl ?_
                  have hl173 : ¬ (((x122).length : Nat) : Int) < ((x122).length : Int) := by omega
                  refine WL.nil ?_
                  show W _ _ _ _ _ _
                  refine W.condF (decide ((((x122).length : Nat) : Int) < ((x122).length : Int))) rfl (decide_eq_false hl173) ?_
                  refine W.exit ?_
                  show _ = _ ∧ _
                  exact ⟨rfl, _, hs162, hf165, hf166, hf167, hf168, hS171⟩
              · rintro f174 wd175 ⟨s177, rfl, hq176⟩
                replace hb109 := onRes_fin hb109
                obtain ⟨⟩ := s177
                replace hq176 : f174 2 = (Value.int .i64 x104) ∧ f174 3 = (Value.pointer (some ⟨b1, 0, none⟩)) ∧ f174 8 = u124 ∧ f174 9 = u95 ∧ St wd2 wd175 [(Ty.sl (Ty.i .i64)).at u95 x93, (Ty.sl (Ty.i .i64)).at u124 x122] := hq176
                obtain ⟨hf178, hf179, hf180, hf181, hS182⟩ := hq176
                show W _ _ _ _ _ _
                refine W.region ?_
                refine WL.val (Value.int .i64 x104) _ (op_move hf178) rfl ?_
                refine WL.val (Value.int .i64 (w64 (x104 - (1 : Int)))) _ (op_sub rfl rfl) rfl ?_
                refine WL.val (Value.int .i64 (w64 (x104 - (1 : Int)))) _ (op_assign rfl) rfl ?_
                refine WL.nil ?_
                obtain rfl := Option.some.inj hb109
                show ∃ s, _ = Ctl.next s ∧ _
                exact ⟨_, rfl, u124, rfl, (inR_wrap _ _), hf179, hf180, hf181, hS182⟩
            · replace hb109 := inegb hb109 hc120
              refine W.exit ?_
              obtain rfl := Option.some.inj hb109
              show _ = _ ∧ _
              exact ⟨rfl, _, hbrk111 _ rfl, u113, hf117, (St.pick hS119 [1] rfl)⟩
          · rintro f185 wd186 ⟨s188, rfl, hq187⟩
            replace h := onRes_fin h
            obtain ⟨x189, x190⟩ := s188
            replace hq187 : ∃ (uu0 : Value), f185 8 = uu0 ∧ St wd2 wd186 [(Ty.sl (Ty.i .i64)).at uu0 x189] := hq187
            replace h : (_ : Option _) = _ := h
            dsimp only at h
            obtain ⟨u191, hf192, hS193⟩ := hq187
            show W _ _ _ _ _ _
            refine W.seq ?_
            refine W.region ?_
            refine WL.val u191 _ (op_move hf192) rfl ?_
            refine WL.val u191 _ (op_assign rfl) rfl ?_
            refine WL.val (Value.int .i64 (0 : Int)) _ (op_assign rfl) rfl ?_
            refine WL.nil ?_
            show W _ _ _ _ _ _
            refine W.ret ?_
            obtain rfl := Option.some.inj h
            show FinP _ _ _ _ _ _ _
            exact FinP.ret _ (res2 rfl rfl rfl) ⟨u191, rfl, (inR_i64.2 (show (-9223372036854775808 : Int) ≤ 0 ∧ (0 : Int) ≤ 9223372036854775807 from by decide)), (Ext.trans hE7 hS193.ext), (St.out (St.pick hS193 [0] rfl) (hE7))⟩

theorem c_impl_Ring_isLabel {w : World} {r_Table : (List (List (List Int)))} {v_r_Table : Value} {i : Int} (r_r_Table : (Ty.sl (Ty.sl (Ty.sl (Ty.i .i64)))).rep w v_r_Table r_Table) (r_i : InR .i64 i) {res : Bool} (h : p_impl_Ring_isLabel r_Table i  = some res) :
    Ret Try.prog 58 #[(Value.agg #[v_r_Table]), (Value.int .i64 i)] w (fun v w' => v = Value.bool res ∧ Ext w w') := by
  unfold p_impl_Ring_isLabel at h
  have hS0 : St w w [] := St.start w
  refine Ret.start (fn := Try.f58) Try.func58 rfl 11 rfl rfl ?_
  refine W.seq ?_
  refine W.region ?_
  refine WL.box hS0 rfl (cs := [v_r_Table]) rfl rfl ?_
  intro b1 wd2 hS3 he4 hx5
  replace hS3 : St w wd2 [bx b1 [v_r_Table]] := hS3
  have hx6 := St.boxAt hS3 0 rfl
  have hE7 : Ext w wd2 := hS3.ext
  have hS8 : St wd2 wd2 [] := St.start wd2
  refine WL.val (Value.bool false) _ (op_assign rfl) rfl ?_
  refine WL.nil ?_
  show W _ _ _ _ _ _
  refine W.seq ?_
  refine W.region ?_
  refine WL.val (Value.int .i64 i) _ (op_move rfl) rfl ?_
  refine WL.val (Value.pointer (some ⟨b1, 0, none⟩)) _ (op_fieldAddr fd_29_0 rfl) rfl ?_
  refine WL.val v_r_Table _ (op_load one_22 rfl (BoxAt.cell (BoxAt.lift hS8.ext hx6) rfl)) rfl ?_
  have hr9 := inR_len (Ty.lift _ (Ext.trans hE7 hS8.ext) r_r_Table)
  refine WL.val (Value.int .i64 ((r_Table).length : Int)) _ (op_lenL sl_22 (Ty.lift _ (Ext.trans hE7 hS8.ext) r_r_Table) rfl) rfl ?_
  refine WL.val (Value.int .i64 (w64 (((r_Table).length : Int) - (1 : Int)))) _ (op_sub rfl rfl) rfl ?_
  obtain ⟨x10, hx11, h⟩ := bs h
  refine WL.call _ (op_call fn_59 (args3 rfl rfl rfl)) (c_impl_within r_i (inR_i64.2 (show (-9223372036854775808 : Int) ≤ 0 ∧ (0 : Int) ≤ 9223372036854775807 from by decide)) (inR_wrap _ _) hx11) rfl ?_
  rintro _ wd12 ⟨rfl, he13⟩
  have hS15 := St.extend hS8 he13
  replace hS15 : St wd2 wd12 [] := hS15
  refine WL.val (Value.bool x10) _ (op_assign rfl) rfl ?_
  refine WL.nil ?_
  show W _ _ _ _ _ _
  refine W.ret ?_
  obtain rfl := Option.some.inj h
  show FinP _ _ _ _ _ _ _
  exact FinP.ret _ (res1 rfl rfl) ⟨rfl, (Ext.trans hE7 hS15.ext)⟩

theorem c_slices_Max_Lint64_int64 {w : World} {x : (List Int)} {v_x : Value} (r_x : (Ty.sl (Ty.i .i64)).rep w v_x x) {res : Int} (h : p_slices_Max_Lint64_int64 x  = some res) :
    Ret Try.prog 61 #[v_x] w (fun v w' => v = Value.int .i64 res ∧ InR .i64 res ∧ Ext w w') := by
  unfold p_slices_Max_Lint64_int64 at h
  have hS0 : St w w [] := St.start w
  refine Ret.start (fn := Try.f61) Try.func61 rfl 25 rfl rfl ?_
  refine W.seq ?_
  refine W.region ?_
  refine WL.val (Value.int .i64 (0 : Int)) _ (op_assign rfl) rfl ?_
  refine WL.nil ?_
  show W _ _ _ _ _ _
  refine W.seq ?_
  refine W.seq ?_
  refine W.region ?_
  refine WL.val v_x _ (op_move rfl) rfl ?_
  have hr1 := inR_len (Ty.lift _ hS0.ext r_x)
  refine WL.val (Value.int .i64 ((x).length : Int)) _ (op_lenL sl_25 (Ty.lift _ hS0.ext r_x) rfl) rfl ?_
  refine WL.val (Value.bool (decide (((x).length : Int) < (1 : Int)))) _ (op_lss rfl rfl) rfl ?_
  refine WL.nil ?_
  show W _ _ _ _ _ _
  obtain ⟨⟨⟩, hj2, h⟩ := bs h
  refine W.cutCode (fun fq wq => fq 0 = v_x ∧ St w wq []) ?_ ?_
  · refine W.cond (decide (((x).length : Int) < (1 : Int))) rfl (fun hc3 => ?_) (fun hc3 => ?_)
    · replace hj2 := ip hj2 hc3
      refine W.region ?_
      exact (none_some hj2).elim
    · replace hj2 := inegb hj2 hc3
      refine W.skip ?_
      exact ⟨rfl, hS0⟩
  · intro f4 wd5 hq6
    obtain ⟨hf7, hS8⟩ := hq6
    show W _ _ _ _ _ _
    refine W.seq ?_
    refine W.region ?_
    refine WL.val v_x _ (op_move hf7) rfl ?_
    obtain ⟨x9, hx12, h⟩ := bs h
    obtain ⟨ha10, hb11, hx12⟩ := idx_some hx12
    refine WL.val (Value.pointer (some (elA v_x ((0 : Int)).toNat))) _ (op_idx sl_25 (Ty.lift _ hS8.ext r_x) rfl rfl ha10 hb11) rfl ?_
    obtain ⟨u13, hc14, hr15⟩ := repSl.el r_x hx12
    obtain ⟨rfl, hr15⟩ := hr15
    refine WL.val (Value.int .i64 x9) _ (op_load one_2 rfl (Ext.cell hS8.ext hc14)) rfl ?_
    refine WL.val (Value.int .i64 x9) _ (op_assign rfl) rfl ?_
    refine WL.nil ?_
    show W _ _ _ _ _ _
    refine W.seq ?_
    refine W.seq ?_
    refine W.region ?_
    refine WL.val (Value.int .i64 (1 : Int)) _ (op_assign rfl) rfl ?_
    refine WL.nil ?_
    show W _ _ _ _ _ _
    obtain ⟨res16, hres17, h⟩ := bs h
    refine W.blockLoop (fun fq wq => ∃ s, res16 = Res.fin s ∧ fq 3 = Value.int .i64 s ∧ InR .i64 s ∧ St w wq []) ?_ ?_
    · refine W.forN (fun k (s : Int) fq wq => fq 0 = v_x ∧ fq 3 = Value.int .i64 s ∧ InR .i64 s ∧ fq 4 = Value.int .i64 ((1 : Int) + (k : Int)) ∧ InR .i64 ((1 : Int) + (k : Int)) ∧ St w wq []) hres17 ⟨hf7, rfl, hr15, rfl, (inR_i64.2 (show (-9223372036854775808 : Int) ≤ 1 ∧ (1 : Int) ≤ 9223372036854775807 from by decide)), hS8⟩ ?_ ?_
      · intro k18 x19 ct20 f21 wd22 hk23 hb24 hI25 hbrk26 hret27
        replace hI25 : f21 0 = v_x ∧ f21 3 = Value.int .i64 x19 ∧ InR .i64 x19 ∧ f21 4 = Value.int .i64 ((1 : Int) + (k18 : Int)) ∧ InR .i64 ((1 : Int) + (k18 : Int)) ∧ St w wd22 [] := hI25
        replace hb24 : p_slices_Max_Lint64_int64_L1 x k18 x19 = some ct20 := hb24
        unfold p_slices_Max_Lint64_int64_L1 at hb24
        obtain ⟨hf28, hf29, hr30, hf31, hr32, hS33⟩ := hI25
        refine W.seq ?_
        refine W.seq ?_
        refine W.region ?_
        refine WL.val (Value.int .i64 ((1 : Int) + (k18 : Int))) _ (op_move hf31) rfl ?_
        refine WL.val v_x _ (op_move hf28) rfl ?_
        have hr34 := inR_len (Ty.lift _ hS33.ext r_x)
        refine WL.val (Value.int .i64 ((x).length : Int)) _ (op_lenL sl_25 (Ty.lift _ hS33.ext r_x) rfl) rfl ?_
        refine WL.val (Value.bool (decide (((1 : Int) + (k18 : Int)) < ((x).length : Int)))) _ (op_lss rfl rfl) rfl ?_
        have hl35 : ((1 : Int) + (k18 : Int)) < ((x).length : Int) := by omega
        refine WL.nil ?_
        show W _ _ _ _ _ _
        refine W.condT (decide (((1 : Int) + (k18 : Int)) < ((x).length : Int))) rfl (decide_eq_true hl35) ?_
        refine W.skip ?_
        show W _ _ _ _ _ _
        refine W.seq ?_
        refine W.block ?_
        refine W.region ?_
        refine WL.val (Value.int .i64 x19) _ (op_move hf29) rfl ?_
        refine WL.val v_x _ (op_move hf28) rfl ?_
        refine WL.val (Value.int .i64 ((1 : Int) + (k18 : Int))) _ (op_move hf31) rfl ?_
        obtain ⟨x37, hx40, hb24⟩ := bs hb24
        obtain ⟨ha38, hb39, hx40⟩ := idx_some hx40
        refine WL.val (Value.pointer (some (elA v_x (((1 : Int) + (k18 : Int))).toNat))) _ (op_idx sl_25 (Ty.lift _ hS33.ext r_x) rfl rfl ha38 hb39) rfl ?_
        obtain ⟨u41, hc42, hr43⟩ := repSl.el r_x hx40
        obtain ⟨rfl, hr43⟩ := hr43
        refine WL.val (Value.int .i64 x37) _ (op_load one_2 rfl (Ext.cell hS33.ext hc42)) rfl ?_
        refine WL.val (Value.int .i64 (if x37 > x19 then x37 else x19)) _ (op_max2 rfl rfl) rfl ?_
        refine WL.val (Value.int .i64 (if x37 > x19 then x37 else x19)) _ (op_assign rfl) rfl ?_
        refine WL.nil ?_
        show W _ _ _ _ _ _
        refine W.region ?_
        refine WL.val (Value.int .i64 ((1 : Int) + (k18 : Int))) _ (op_move hf31) rfl ?_
        refine WL.val (Value.int .i64 (w64 (((1 : Int) + (k18 : Int)) + (1 : Int)))) _ (op_add rfl rfl) rfl ?_
        refine WL.val (Value.int .i64 (w64 (((1 : Int) + (k18 : Int)) + (1 : Int)))) _ (op_assign rfl) rfl ?_
        refine WL.nil ?_
        obtain rfl := Option.some.inj hb24
        show ∃ s, _ = Ctl.next s ∧ _
        exact ⟨_, rfl, hf28, rfl, (inR_ite hr43 hr30), (ctrS_next hl35 hr34 (inR_i64.2 (show (-9223372036854775808 : Int) ≤ 1 ∧ (1 : Int) ≤ 9223372036854775807 from by decide))), (ctrS_rng hl35 hr34 (inR_i64.2 (show (-9223372036854775808 : Int) ≤ 1 ∧ (1 : Int) ≤ 9223372036854775807 from by decide))), hS33⟩
      · intro x50 f45 wd46 hs47 hI48
        replace hI48 : f45 0 = v_x ∧ f45 3 = Value.int .i64 x50 ∧ InR .i64 x50 ∧ f45 4 = Value.int .i64 ((1 : Int) + (((((x).length : Int) - (1 : Int)).toNat : Nat) : Int)) ∧ InR .i64 ((1 : Int) + (((((x).length : Int) - (1 : Int)).toNat : Nat) : Int)) ∧ St w wd46 [] := hI48
        obtain ⟨hf51, hf52, hr53, hf54, hr55, hS56⟩ := hI48
        refine W.seq ?_
        refine W.seq ?_
        refine W.region ?_
        refine WL.val (Value.int .i64 ((1 : Int) + (((((x).length : Int) - (1 : Int)).toNat : Nat) : Int))) _ (op_move hf54) rfl ?_
        refine WL.val v_x _ (op_move hf51) rfl ?_
        have hr57 := inR_len (Ty.lift _ hS56.ext r_x)
        refine WL.val (Value.int .i64 ((x).length : Int)) _ (op_lenL sl_25 (Ty.lift _ hS56.ext r_x) rfl) rfl ?_
        refine WL.val (Value.bool (decide (((1 : Int) + (((((x).length : Int) - (1 : Int)).toNat : Nat) : Int)) < ((x).length : Int)))) _ (op_lss rfl rfl) rfl ?_
        have hl58 : ¬ ((1 : Int) + (((((x).length : Int) - (1 : Int)).toNat : Nat) : Int)) < ((x).length : Int) := by omega
        refine WL.nil ?_
        show W _ _ _ _ _ _
        refine W.condF (decide (((1 : Int) + (((((x).length : Int) - (1 : Int)).toNat : Nat) : Int)) < ((x).length : Int))) rfl (decide_eq_false hl58) ?_
        refine W.exit ?_
        show _ = _ ∧ _
        exact ⟨rfl, _, hs47, hf52, hr53, hS56⟩
    · rintro f59 wd60 ⟨x63, rfl, hq61⟩
      replace h := onRes_fin h
      replace hq61 : f59 3 = Value.int .i64 x63 ∧ InR .i64 x63 ∧ St w wd60 [] := hq61
      obtain ⟨hf64, hr65, hS66⟩ := hq61
      show W _ _ _ _ _ _
      refine W.seq ?_
      refine W.region ?_
      refine WL.val (Value.int .i64 x63) _ (op_move hf64) rfl ?_
      refine WL.val (Value.int .i64 x63) _ (op_assign rfl) rfl ?_
      refine WL.nil ?_
      show W _ _ _ _ _ _
      refine W.ret ?_
      obtain rfl := Option.some.inj h
      show FinP _ _ _ _ _ _ _
      exact FinP.ret _ (res1 rfl rfl) ⟨rfl, hr65, hS66.ext⟩

theorem c_impl_PowerOfLabel {w : World} {r_Table : (List (List (List Int)))} {v_r_Table : Value} {i : Int} {k1 : Int} (r_r_Table : (Ty.sl (Ty.sl (Ty.sl (Ty.i .i64)))).rep w v_r_Table r_Table) (r_i : InR .i64 i) (r_k1 : InR .i64 k1) {res : (List Int) × Int} (h : p_impl_PowerOfLabel r_Table i k1  = some res) :
    Ret Try.prog 35 #[(Value.agg #[v_r_Table]), (Value.int .i64 i), (Value.int .i64 k1)] w (fun v w' => ∃ (u0 : Value), v = (Value.tuple #[u0, Value.int .i64 res.2]) ∧ InR .i64 res.2 ∧ Ext w w' ∧ Sep w.heap.size w' [(Ty.sl (Ty.i .i64)).at u0 res.1]) := by
  unfold p_impl_PowerOfLabel at h
  have hS0 : St w w [] := St.start w
  refine Ret.start (fn := Try.f35) Try.func35 rfl 37 rfl rfl ?_
  refine W.seq ?_
  refine W.region ?_
  refine WL.box hS0 rfl (cs := [v_r_Table]) rfl rfl ?_
  intro b1 wd2 hS3 he4 hx5
  replace hS3 : St w wd2 [bx b1 [v_r_Table]] := hS3
  have hx6 := St.boxAt hS3 0 rfl
  have hE7 : Ext w wd2 := hS3.ext
  have hS8 : St wd2 wd2 [] := St.start wd2
  refine WL.val (Value.slice none 0 0) _ (op_assign rfl) rfl ?_
  refine WL.val (Value.int .i64 (0 : Int)) _ (op_assign rfl) rfl ?_
  refine WL.nil ?_
  show W _ _ _ _ _ _
  refine W.seq ?_
  refine W.seq ?_
  refine W.region ?_
  refine WL.val (Value.agg #[v_r_Table]) _ (op_loadBox st_29 rfl (BoxAt.lift hS8.ext hx6) rfl rfl) rfl ?_
  obtain ⟨x9, hx10, h⟩ := bs h
  refine WL.call _ (op_call fn_41 (args1 rfl)) (c_impl_IsRing (Ty.lift _ (Ext.trans hE7 hS8.ext) r_r_Table) hx10) rfl ?_
  rintro _ wd11 ⟨rfl, he12⟩
  have hS14 := St.extend hS8 he12
  replace hS14 : St wd2 wd11 [] := hS14
  refine WL.val (Value.bool (!x9)) _ (op_not rfl) rfl ?_
  refine WL.nil ?_
  show W _ _ _ _ _ _
  refine W.cond (!x9) rfl (fun hc15 => ?_) (fun hc15 => ?_)
  · replace h := ip h hc15
    refine W.seq ?_
    refine W.region ?_
    refine WL.val (Value.slice none 0 0) _ (op_assign rfl) rfl ?_
    refine WL.val (Value.int .i64 (1 : Int)) _ (op_assign rfl) rfl ?_
    refine WL.nil ?_
    show W _ _ _ _ _ _
    refine W.ret ?_
    obtain rfl := Option.some.inj h
    show FinP _ _ _ _ _ _ _
    exact FinP.ret _ (res2 rfl rfl rfl) ⟨(Value.slice none 0 0), rfl, (inR_i64.2 (show (-9223372036854775808 : Int) ≤ 1 ∧ (1 : Int) ≤ 9223372036854775807 from by decide)), (Ext.trans hE7 hS14.ext), (St.out (St.pick (St.addNil (Ty.i .i64) hS14) [0] rfl) (hE7))⟩
  · replace h := inegb h hc15
    refine W.skip ?_
    show W _ _ _ _ _ _
    refine W.seq ?_
    refine W.seq ?_
    refine W.region ?_
    refine WL.val (Value.agg #[v_r_Table]) _ (op_loadBox st_29 rfl (BoxAt.lift hS14.ext hx6) rfl rfl) rfl ?_
    refine WL.val (Value.int .i64 i) _ (op_move rfl) rfl ?_
    obtain ⟨x17, hx18, h⟩ := bs h
    refine WL.call _ (op_call fn_58 (args2 rfl rfl)) (c_impl_Ring_isLabel (Ty.lift _ (Ext.trans hE7 hS14.ext) r_r_Table) r_i hx18) rfl ?_
    rintro _ wd19 ⟨rfl, he20⟩
    have hS22 := St.extend hS14 he20
    replace hS22 : St wd2 wd19 [] := hS22
    refine WL.val (Value.bool (!x17)) _ (op_not rfl) rfl ?_
    refine WL.val (Value.bool (!x17)) _ (op_move rfl) rfl ?_
    obtain ⟨x24, hj25, h⟩ := bs h
    refine WL.cut 4 (fun fq wq => fq 1 = (Value.int .i64 i) ∧ fq 2 = (Value.int .i64 k1) ∧ fq 3 = (Value.pointer (some ⟨b1, 0, none⟩)) ∧ fq 20 = Value.bool x24 ∧ St wd2 wq []) ?_ ?_
    · rcases Bool.eq_false_or_eq_true (!x17) with hc23 | hc23
      · replace hj25 := ip hj25 hc23
        refine WL.gskip rfl (bool_of rfl hc23) rfl ?_
        refine WL.gskip rfl (bool_of rfl hc23) rfl ?_
        refine WL.gskip rfl (bool_of rfl hc23) rfl ?_
        refine WL.val (Value.bool true) _ (op_pick_t (evb_of rfl hc23) rfl) rfl ?_
        refine WL.nil ?_
        obtain rfl := Option.some.inj hj25
        exact ⟨rfl, rfl, rfl, rfl, rfl, hS22⟩
      · replace hj25 := inegb hj25 hc23
        refine WL.grun rfl (bool_of rfl hc23) ?_
        refine WL.val (Value.int .i64 k1) _ (op_move rfl) rfl ?_
        refine WL.grun rfl (bool_of rfl hc23) ?_
        obtain ⟨x29, hx30, hj25⟩ := bs hj25
        refine WL.call _ (op_call fn_59 (args3 rfl rfl rfl)) (c_impl_within r_k1 (inR_i64.2 (show (-9223372036854775808 : Int) ≤ 0 ∧ (0 : Int) ≤ 9223372036854775807 from by decide)) (inR_i64.2 (show (-9223372036854775808 : Int) ≤ 40 ∧ (40 : Int) ≤ 9223372036854775807 from by decide)) hx30) rfl ?_
        rintro _ wd31 ⟨rfl, he32⟩
        have hS34 := St.extend hS22 he32
        replace hS34 : St wd2 wd31 [] := hS34
        refine WL.grun rfl (bool_of rfl hc23) ?_
        refine WL.val (Value.bool (!x29)) _ (op_not rfl) rfl ?_
        refine WL.val (Value.bool (!x29)) _ (op_pick_f (evb_of rfl hc23) rfl) rfl ?_
        refine WL.nil ?_
        obtain rfl := Option.some.inj hj25
        exact ⟨rfl, rfl, rfl, rfl, rfl, hS34⟩
    · intro f26 wd27 hq28
      obtain ⟨hf35, hf36, hf37, hf38, hS39⟩ := hq28
      refine WL.nil ?_
      show W _ _ _ _ _ _
      refine W.cond x24 hf38 (fun hc40 => ?_) (fun hc40 => ?_)
      · replace h := ip h hc40
        refine W.seq ?_
        refine W.region ?_
        refine WL.val (Value.slice none 0 0) _ (op_assign rfl) rfl ?_
        refine WL.val (Value.int .i64 (2 : Int)) _ (op_assign rfl) rfl ?_
        refine WL.nil ?_
        show W _ _ _ _ _ _
        refine W.ret ?_
        obtain rfl := Option.some.inj h
        show FinP _ _ _ _ _ _ _
        exact FinP.ret _ (res2 rfl rfl rfl) ⟨(Value.slice none 0 0), rfl, (inR_i64.2 (show (-9223372036854775808 : Int) ≤ 2 ∧ (2 : Int) ≤ 9223372036854775807 from by decide)), (Ext.trans hE7 hS39.ext), (St.out (St.pick (St.addNil (Ty.i .i64) hS39) [0] rfl) (hE7))⟩
      · replace h := inegb h hc40
        refine W.skip ?_
        show W _ _ _ _ _ _
        refine W.seq ?_
        refine W.region ?_
        refine WL.val (Value.agg #[v_r_Table]) _ (op_loadBox st_29 hf37 (BoxAt.lift hS39.ext hx6) rfl rfl) rfl ?_
        obtain ⟨x42, hx43, h⟩ := bs h
        refine WL.call _ (op_call fn_60 (args2 rfl rfl)) (c_impl_Ring_vectorOf (Ty.lift _ (Ext.trans hE7 hS39.ext) r_r_Table) (inR_i64.2 (show (-9223372036854775808 : Int) ≤ 0 ∧ (0 : Int) ≤ 9223372036854775807 from by decide)) hx43) rfl ?_
        rintro u44 wd45 ⟨_, rfl, he46, hs47⟩
        have hS48 := St.join hS39 he46 hs47
        replace hS48 : St wd2 wd45 [(Ty.sl (Ty.i .i64)).at u44 x42] := hS48
        refine WL.val u44 _ (op_assign rfl) rfl ?_
        refine WL.nil ?_
        show W _ _ _ _ _ _
        refine W.seq ?_
        refine W.seq ?_
        refine W.region ?_
        refine WL.val (Value.int .i64 k1) _ (op_move hf36) rfl ?_
        refine WL.val (Value.int .i64 (0 : Int)) _ (op_move rfl) rfl ?_
        refine WL.nil ?_
        show W _ _ _ _ _ _
        obtain ⟨res49, hres50, h⟩ := bs h
        refine W.blockLoop (fun fq wq => ∃ s, res49 = Res.fin s ∧ ∃ (uu0 : Value), fq 8 = uu0 ∧ St wd2 wq [(Ty.sl (Ty.i .i64)).at uu0 s]) ?_ ?_
        · refine W.forN (fun k (s : (List Int)) fq wq => ∃ (uu0 : Value), fq 1 = (Value.int .i64 i) ∧ fq 3 = (Value.pointer (some ⟨b1, 0, none⟩)) ∧ fq 8 = uu0 ∧ fq 23 = (Value.int .i64 k1) ∧ fq 24 = Value.int .i64 (k : Int) ∧ InR .i64 (k : Int) ∧ St wd2 wq [(Ty.sl (Ty.i .i64)).at uu0 s]) hres50 ⟨u44, hf35, hf37, rfl, rfl, rfl, (inR_i64.2 (show (-9223372036854775808 : Int) ≤ 0 ∧ (0 : Int) ≤ 9223372036854775807 from by decide)), hS48⟩ ?_ ?_
          · intro k51 x52 ct53 f54 wd55 hk56 hb57 hI58 hbrk59 hret60
            replace hI58 : ∃ (uu0 : Value), f54 1 = (Value.int .i64 i) ∧ f54 3 = (Value.pointer (some ⟨b1, 0, none⟩)) ∧ f54 8 = uu0 ∧ f54 23 = (Value.int .i64 k1) ∧ f54 24 = Value.int .i64 (k51 : Int) ∧ InR .i64 (k51 : Int) ∧ St wd2 wd55 [(Ty.sl (Ty.i .i64)).at uu0 x52] := hI58
            replace hb57 : p_impl_PowerOfLabel_L1 r_Table i k51 x52 = some ct53 := hb57
            unfold p_impl_PowerOfLabel_L1 at hb57
            obtain ⟨u61, hf62, hf63, hf64, hf65, hf66, hr67, hS68⟩ := hI58
            refine W.seq ?_
            refine W.region ?_
            refine WL.val (Value.bool (decide ((k51 : Int) < k1))) _ (op_lss hf66 hf65) rfl ?_
            have hl69 : (k51 : Int) < k1 := by omega
            refine WL.nil ?_
            show W _ _ _ _ _ _
            refine W.seq ?_
            refine W.condT (decide ((k51 : Int) < k1)) rfl (decide_eq_true hl69) ?_
            refine W.skip ?_
            show W _ _ _ _ _ _
            refine W.seq ?_
            refine W.block ?_
            refine W.seq ?_
            obtain ⟨x110, hx111, hb57⟩ := bs hb57
            refine W.draw mixo 5 [fun v w' => ∃ (uu0 : Value), v = (Value.agg #[uu0]) ∧ (Ty.sl (Ty.sl (Ty.sl (Ty.i .i64)))).rep w' uu0 r_Table, fun v _ => v = u61, fun v w' => ∃ (uu0 : Value), v = (Value.agg #[uu0]) ∧ (Ty.sl (Ty.sl (Ty.sl (Ty.i .i64)))).rep w' uu0 r_Table, fun v _ => v = (Value.int .i64 i) ∧ InR .i64 i, fun v w' => (Ty.sl (Ty.i .i64)).rep w' v x110] (by kernel_rfl) (by kernel_rfl) (stabL ⟨(fun _ _ _ he ⟨uu0, h0, r0⟩ => ⟨uu0, h0, Ty.lift _ he r0⟩), (fun _ _ _ _ h => h), (fun _ _ _ he ⟨uu0, h0, r0⟩ => ⟨uu0, h0, Ty.lift _ he r0⟩), (fun _ _ _ _ h => h), (fun _ _ _ he h => Ty.lift _ he h), trivial⟩) ⟨?_, ?_, ?_, ?_, ?_, trivial⟩ ?_
            · intro f71 wd72 he73 hout74 hphi75
              have hS76 : St wd2 wd72 [(Ty.sl (Ty.i .i64)).at u61 x52] := St.extend hS68 he73
              have e77 : f71 3 = (Value.pointer (some ⟨b1, 0, none⟩)) := (hout74 3 rfl).trans hf63
              exact OpY.val (Value.agg #[v_r_Table]) wd72 rfl (op_loadBox st_29 e77 (BoxAt.lift hS76.ext hx6) rfl rfl) (Ext.refl _) ⟨v_r_Table, rfl, (Ty.lift _ (Ext.trans hE7 hS76.ext) r_r_Table)⟩
            · intro f78 wd79 he80 hout81 hphi82
              have hS83 : St wd2 wd79 [(Ty.sl (Ty.i .i64)).at u61 x52] := St.extend hS68 he80
              have e84 : f78 8 = u61 := (hout81 8 rfl).trans hf64
              exact OpY.val u61 wd79 rfl (op_move e84) (Ext.refl _) rfl
            · intro f85 wd86 he87 hout88 hphi89
              have hS90 : St wd2 wd86 [(Ty.sl (Ty.i .i64)).at u61 x52] := St.extend hS68 he87
              have e91 : f85 3 = (Value.pointer (some ⟨b1, 0, none⟩)) := (hout88 3 rfl).trans hf63
              exact OpY.val (Value.agg #[v_r_Table]) wd86 rfl (op_loadBox st_29 e91 (BoxAt.lift hS90.ext hx6) rfl rfl) (Ext.refl _) ⟨v_r_Table, rfl, (Ty.lift _ (Ext.trans hE7 hS90.ext) r_r_Table)⟩
            · intro f92 wd93 he94 hout95 hphi96
              have hS97 : St wd2 wd93 [(Ty.sl (Ty.i .i64)).at u61 x52] := St.extend hS68 he94
              have e98 : f92 1 = (Value.int .i64 i) := (hout95 1 rfl).trans hf62
              exact OpY.val (Value.int .i64 i) wd93 rfl (op_move e98) (Ext.refl _) ⟨rfl, r_i⟩
            · intro f99 wd100 he101 hout102 hphi103
              have hS104 : St wd2 wd100 [(Ty.sl (Ty.i .i64)).at u61 x52] := St.extend hS68 he101
              obtain ⟨u106, e105, hr107⟩ := hphi103 2 28 _ rfl rfl rfl
              obtain ⟨e108, hr109⟩ : f99 29 = (Value.int .i64 i) ∧ InR .i64 i := hphi103 3 29 _ rfl rfl rfl
              refine OpY.call rfl (op_call fn_60 (args2 e105 e108)) (Ret.mono (c_impl_Ring_vectorOf hr107 hr109 hx111) ?_)
              rintro u112 wd113 ⟨_, rfl, he114, hs115⟩
              exact ⟨he114, (Sep.rep (t := (Ty.sl (Ty.i .i64))) hs115 0 rfl)⟩
            · intro f116 wd117 he118 hout119 hphi120
              show WL _ _ _ _ _ _ _
              have hS121 : St wd2 wd117 [(Ty.sl (Ty.i .i64)).at u61 x52] := St.extend hS68 he118
              obtain ⟨u123, e122, hr124⟩ := hphi120 0 26 _ (by decide) rfl rfl
              have e125 : f116 27 = u61 := hphi120 1 27 _ (by decide) rfl rfl
              have e126 : (Ty.sl (Ty.i .i64)).rep wd117 (f116 30) x110 := hphi120 4 30 _ (by decide) rfl rfl
              have e127 : f116 1 = (Value.int .i64 i) := (hout119 1 rfl).trans hf62
              have e128 : f116 3 = (Value.pointer (some ⟨b1, 0, none⟩)) := (hout119 3 rfl).trans hf63
              have e129 : f116 23 = (Value.int .i64 k1) := (hout119 23 rfl).trans hf65
              have e130 : f116 24 = (Value.int .i64 (k51 : Int)) := (hout119 24 rfl).trans hf66
              obtain ⟨x131, hx132, hb57⟩ := bs hb57
              refine WL.call _ (op_call fn_49 (args3 e122 e125 rfl)) (c_impl_Ring_product hr124 (St.rep (t := (Ty.sl (Ty.i .i64))) hS121 0 rfl) e126 hx132) rfl ?_
              rintro u133 wd134 ⟨_, rfl, he135, hs136⟩
              have hS137 := St.join hS121 he135 hs136
              replace hS137 : St wd2 wd134 [(Ty.sl (Ty.i .i64)).at u61 x52, (Ty.sl (Ty.i .i64)).at u133 x131] := hS137
              refine WL.val u133 _ (op_assign rfl) rfl ?_
              refine WL.nil ?_
              show W _ _ _ _ _ _
              refine W.seq ?_
              refine W.region ?_
              refine WL.val u133 _ (op_move rfl) rfl ?_
              obtain ⟨x138, hx139, hb57⟩ := bs hb57
              refine WL.call _ (op_call fn_61 (args1 rfl)) (c_slices_Max_Lint64_int64 (St.rep (t := (Ty.sl (Ty.i .i64))) hS137 1 rfl) hx139) rfl ?_
              rintro _ wd141 ⟨rfl, hr140, he142⟩
              have hS144 := St.extend hS137 he142
              replace hS144 : St wd2 wd141 [(Ty.sl (Ty.i .i64)).at u61 x52, (Ty.sl (Ty.i .i64)).at u133 x131] := hS144
              refine WL.val (Value.bool (decide (x138 > (1000000000 : Int)))) _ (op_gtr rfl rfl) rfl ?_
              refine WL.nil ?_
              show W _ _ _ _ _ _
              refine W.cond (decide (x138 > (1000000000 : Int))) rfl (fun hc145 => ?_) (fun hc145 => ?_)
              · replace hb57 := ip hb57 hc145
                refine W.seq ?_
                refine W.region ?_
                refine WL.val (Value.slice none 0 0) _ (op_assign rfl) rfl ?_
                refine WL.val (Value.int .i64 (3 : Int)) _ (op_assign rfl) rfl ?_
                refine WL.nil ?_
                show W _ _ _ _ _ _
                refine W.ret ?_
                obtain rfl := Option.some.inj hb57
                obtain rfl := hret60 _ rfl
                replace h := onRes_ret h
                obtain rfl := Option.some.inj h
                show FinP _ _ _ _ _ _ _
                exact FinP.ret _ (res2 rfl rfl rfl) ⟨(Value.slice none 0 0), rfl, (inR_i64.2 (show (-9223372036854775808 : Int) ≤ 3 ∧ (3 : Int) ≤ 9223372036854775807 from by decide)), (Ext.trans hE7 hS144.ext), (St.out (St.pick (St.addNil (Ty.i .i64) hS144) [2] rfl) (hE7))⟩
              · replace hb57 := inegb hb57 hc145
                refine W.skip ?_
                show W _ _ _ _ _ _
                refine W.region ?_
                refine WL.val (Value.int .i64 (w64 ((k51 : Int) + (1 : Int)))) _ (op_add e130 rfl) rfl ?_
                refine WL.val (Value.int .i64 (w64 ((k51 : Int) + (1 : Int)))) _ (op_move rfl) rfl ?_
                refine WL.nil ?_
                obtain rfl := Option.some.inj hb57
                show ∃ s, _ = Ctl.next s ∧ _
                exact ⟨_, rfl, u133, e127, e128, rfl, e129, (ctr_next hl69 r_k1), (ctr_rng hl69 r_k1), (St.pick hS144 [1] rfl)⟩
          · intro x153 f148 wd149 hs150 hI151
            replace hI151 : ∃ (uu0 : Value), f148 1 = (Value.int .i64 i) ∧ f148 3 = (Value.pointer (some ⟨b1, 0, none⟩)) ∧ f148 8 = uu0 ∧ f148 23 = (Value.int .i64 k1) ∧ f148 24 = Value.int .i64 (((k1).toNat : Nat) : Int) ∧ InR .i64 (((k1).toNat : Nat) : Int) ∧ St wd2 wd149 [(Ty.sl (Ty.i .i64)).at uu0 x153] := hI151
            obtain ⟨u154, hf155, hf156, hf157, hf158, hf159, hr160, hS161⟩ := hI151
            refine W.seq ?_
            refine W.region ?_
            refine WL.val (Value.bool (decide ((((k1).toNat : Nat) : Int) < k1))) _ (op_lss hf159 hf158) rfl ?_
            have hl162 : ¬ (((k1).toNat : Nat) : Int) < k1 := by omega
            refine WL.nil ?_
            show W _ _ _ _ _ _
            refine W.seq ?_
            refine W.condF (decide ((((k1).toNat : Nat) : Int) < k1)) rfl (decide_eq_false hl162) ?_
            refine W.exit ?_
            show _ = _ ∧ _
            exact ⟨rfl, _, hs150, u154, hf157, hS161⟩
        · rintro f163 wd164 ⟨x167, rfl, hq165⟩
          replace h := onRes_fin h
          replace hq165 : ∃ (uu0 : Value), f163 8 = uu0 ∧ St wd2 wd164 [(Ty.sl (Ty.i .i64)).at uu0 x167] := hq165
          obtain ⟨u168, hf169, hS170⟩ := hq165
          show W _ _ _ _ _ _
          refine W.seq ?_
          refine W.region ?_
          refine WL.val u168 _ (op_move hf169) rfl ?_
          refine WL.val u168 _ (op_assign rfl) rfl ?_
          refine WL.val (Value.int .i64 (0 : Int)) _ (op_assign rfl) rfl ?_
          refine WL.nil ?_
          show W _ _ _ _ _ _
          refine W.ret ?_
          obtain rfl := Option.some.inj h
          show FinP _ _ _ _ _ _ _
          exact FinP.ret _ (res2 rfl rfl rfl) ⟨u168, rfl, (inR_i64.2 (show (-9223372036854775808 : Int) ≤ 0 ∧ (0 : Int) ≤ 9223372036854775807 from by decide)), (Ext.trans hE7 hS170.ext), (St.out (St.pick hS170 [0] rfl) (hE7))⟩

theorem c_laws_FnExactPowerOfLabel {w : World} {aR_Table : (List (List (List Int)))} {v_aR_Table : Value} {aI : Int} {aK : Int} (r_aR_Table : (Ty.sl (Ty.sl (Ty.sl (Ty.i .i64)))).rep w v_aR_Table aR_Table) (r_aI : InR .i64 aI) (r_aK : InR .i64 aK) {res : Bool} (h : p_laws_FnExactPowerOfLabel aR_Table aI aK  = some res) :
    Ret Try.prog 10 #[(Value.agg #[v_aR_Table]), (Value.int .i64 aI), (Value.int .i64 aK)] w (fun v w' => v = Value.bool res ∧ Ext w w') := by
  unfold p_laws_FnExactPowerOfLabel at h
  have hS0 : St w w [] := St.start w
  refine Ret.start (fn := Try.f10) Try.func10 rfl 106 rfl rfl ?_
  refine W.seq ?_
  refine W.region ?_
  refine WL.box hS0 rfl (cs := [v_aR_Table]) rfl rfl ?_
  intro b1 wd2 hS3 he4 hx5
  replace hS3 : St w wd2 [bx b1 [v_aR_Table]] := hS3
  have hx6 := St.boxAt hS3 0 rfl
  have hE7 : Ext w wd2 := hS3.ext
  have hS8 : St wd2 wd2 [] := St.start wd2
  refine WL.val (Value.bool false) _ (op_assign rfl) rfl ?_
  refine WL.nil ?_
  show W _ _ _ _ _ _
  refine W.seq ?_
  refine W.region ?_
  refine WL.val (Value.int .i64 (1048576 : Int)) _ (op_assign rfl) rfl ?_
  refine WL.nil ?_
  show W _ _ _ _ _ _
  refine W.seq ?_
  refine W.region ?_
  refine WL.val (Value.agg #[v_aR_Table]) _ (op_loadBox st_24 rfl (BoxAt.lift hS8.ext hx6) rfl rfl) rfl ?_
  refine WL.val (Value.int .i64 (1048576 : Int)) _ (op_move rfl) rfl ?_
  obtain ⟨x9, hx10, h⟩ := bs h
  refine WL.call _ (op_call fn_11 (args2 rfl rfl)) (c_laws_szRing (Ty.lift _ (Ext.trans hE7 hS8.ext) r_aR_Table) (inR_i64.2 (show (-9223372036854775808 : Int) ≤ 1048576 ∧ (1048576 : Int) ≤ 9223372036854775807 from by decide)) hx10) rfl ?_
  rintro _ wd12 ⟨rfl, hr11, he13⟩
  have hS15 := St.extend hS8 he13
  replace hS15 : St wd2 wd12 [] := hS15
  refine WL.val (Value.int .i64 x9) _ (op_assign rfl) rfl ?_
  refine WL.nil ?_
  show W _ _ _ _ _ _
  refine W.seq ?_
  refine W.seq ?_
  refine W.region ?_
  refine WL.val (Value.int .i64 x9) _ (op_move rfl) rfl ?_
  refine WL.val (Value.bool (decide (x9 < (0 : Int)))) _ (op_lss rfl rfl) rfl ?_
  refine WL.nil ?_
  show W _ _ _ _ _ _
  refine W.cond (decide (x9 < (0 : Int))) rfl (fun hc16 => ?_) (fun hc16 => ?_)
  · replace h := ip h hc16
    refine W.seq ?_
    refine W.region ?_
    refine WL.val (Value.bool true) _ (op_assign rfl) rfl ?_
    refine WL.nil ?_
    show W _ _ _ _ _ _
    refine W.ret ?_
    obtain rfl := Option.some.inj h
    show FinP _ _ _ _ _ _ _
    exact FinP.ret _ (res1 rfl rfl) ⟨rfl, (Ext.trans hE7 hS15.ext)⟩
  · replace h := inegb h hc16
    refine W.skip ?_
    show W _ _ _ _ _ _
    refine W.seq ?_
    refine W.region ?_
    refine WL.val (Value.agg #[v_aR_Table]) _ (op_loadBox st_24 rfl (BoxAt.lift hS15.ext hx6) rfl rfl) rfl ?_
    obtain ⟨x18, hx19, h⟩ := bs h
    refine WL.call _ (op_call fn_13 (args1 rfl)) (c_laws_toRing (Ty.lift _ (Ext.trans hE7 hS15.ext) r_aR_Table) hx19) rfl ?_
    rintro _ wd21 ⟨u20, rfl, he22, hs23⟩
    have hS24 := St.join hS15 he22 hs23
    replace hS24 : St wd2 wd21 [(Ty.sl (Ty.sl (Ty.sl (Ty.i .i64)))).at u20 x18] := hS24
    have hb25 := St.rep (t := (Ty.sl (Ty.sl (Ty.sl (Ty.i .i64))))) hS24 0 rfl
    have hE26 : Ext w wd21 := (Ext.trans hE7 hS24.ext)
    have hE27 : Ext wd2 wd21 := hS24.ext
    have hS28 : St wd21 wd21 [] := St.start wd21
    refine WL.val (Value.int .i64 aI) _ (op_move rfl) rfl ?_
    refine WL.val (Value.int .i64 aK) _ (op_move rfl) rfl ?_
    obtain ⟨x29, hx30, h⟩ := bs h
    refine WL.call _ (op_call fn_34 (args3 rfl rfl rfl)) (c_spec_PowerOfLabel (Ty.lift _ hS28.ext hb25) r_aI r_aK hx30) rfl ?_
    rintro _ wd33 ⟨u31, rfl, hr32, he34, hs35⟩
    have hS36 := St.join hS28 he34 hs35
    replace hS36 : St wd21 wd33 [(Ty.sl (Ty.i .i64)).at u31 x29.1] := hS36
    have hb37 := St.rep (t := (Ty.sl (Ty.i .i64))) hS36 0 rfl
    have hE38 : Ext w wd33 := (Ext.trans hE26 hS36.ext)
    have hE39 : Ext wd2 wd33 := (Ext.trans hE27 hS36.ext)
    have hE40 : Ext wd21 wd33 := hS36.ext
    have hS41 : St wd33 wd33 [] := St.start wd33
    refine WL.val (Value.tuple #[u31, (Value.int .i64 x29.2)]) _ (op_move rfl) rfl ?_
    refine WL.val u31 _ (op_extract rfl rfl) rfl ?_
    refine WL.val (Value.int .i64 x29.2) _ (op_extract rfl rfl) rfl ?_
    refine WL.val u31 _ (op_assign rfl) rfl ?_
    refine WL.val (Value.int .i64 x29.2) _ (op_assign rfl) rfl ?_
    refine WL.nil ?_
    show W _ _ _ _ _ _
    refine W.seq ?_
    refine W.region ?_
    refine WL.val (Value.agg #[v_aR_Table]) _ (op_loadBox st_24 rfl (BoxAt.lift (Ext.trans hE39 hS41.ext) hx6) rfl rfl) rfl ?_
    obtain ⟨x42, hx43, h⟩ := bs h
    refine WL.call _ (op_call fn_13 (args1 rfl)) (c_laws_toRing (Ty.lift _ (Ext.trans hE38 hS41.ext) r_aR_Table) hx43) rfl ?_
    rintro _ wd45 ⟨u44, rfl, he46, hs47⟩
    have hS48 := St.join hS41 he46 hs47
    replace hS48 : St wd33 wd45 [(Ty.sl (Ty.sl (Ty.sl (Ty.i .i64)))).at u44 x42] := hS48
    refine WL.alloc hS48 ze_29 (cs := [(Value.slice none 0 0)]) rfl rfl ?_
    intro b49 wd50 hS51 he52
    replace hS51 : St wd33 wd50 [(Ty.sl (Ty.sl (Ty.sl (Ty.i .i64)))).at u44 x42, bx b49 [(Value.slice none 0 0)]] := hS51
    refine WL.storeBox [u44] hS51 (k := 1) rfl rfl rfl (us := [u44]) rfl sz_29 rfl rfl (all_rep (St.rep (t := (Ty.sl (Ty.sl (Ty.sl (Ty.i .i64))))) hS51 0 rfl) all_nil) rfl ?_
    intro wd53 hS54
    replace hS54 : St wd33 wd53 [(Ty.sl (Ty.sl (Ty.sl (Ty.i .i64)))).at u44 x42, bx b49 [u44]] := hS54
    refine WL.nil ?_
    show W _ _ _ _ _ _
    refine W.seq ?_
    refine W.region ?_
    refine WL.val (Value.agg #[u44]) _ (op_loadBox st_29 rfl (St.boxAt hS54 1 rfl) rfl rfl) rfl ?_
    refine WL.val (Value.int .i64 aI) _ (op_move rfl) rfl ?_
    refine WL.val (Value.int .i64 aK) _ (op_move rfl) rfl ?_
    obtain ⟨x55, hx56, h⟩ := bs h
    refine WL.call _ (op_call fn_35 (args3 rfl rfl rfl)) (c_impl_PowerOfLabel (St.rep (t := (Ty.sl (Ty.sl (Ty.sl (Ty.i .i64))))) hS54 0 rfl) r_aI r_aK hx56) rfl ?_
    rintro _ wd59 ⟨u57, rfl, hr58, he60, hs61⟩
    have hS62 := St.join hS54 he60 hs61
    replace hS62 : St wd33 wd59 [(Ty.sl (Ty.sl (Ty.sl (Ty.i .i64)))).at u44 x42, bx b49 [u44], (Ty.sl (Ty.i .i64)).at u57 x55.1] := hS62
    refine WL.val (Value.tuple #[u57, (Value.int .i64 x55.2)]) _ (op_move rfl) rfl ?_
    refine WL.val u57 _ (op_extract rfl rfl) rfl ?_
    refine WL.val (Value.int .i64 x55.2) _ (op_extract rfl rfl) rfl ?_
    refine WL.val u57 _ (op_assign rfl) rfl ?_
    refine WL.val (Value.int .i64 x55.2) _ (op_assign rfl) rfl ?_
    refine WL.nil ?_
    show W _ _ _ _ _ _
    refine W.seq ?_
    refine W.seq ?_
    refine W.region ?_
    refine WL.val u57 _ (op_move rfl) rfl ?_
    refine WL.val u31 _ (op_move rfl) rfl ?_
    obtain ⟨x63, hx64, h⟩ := bs h
    refine WL.call _ (op_call fn_17 (args2 rfl rfl)) (c_laws_eqInt64S (St.rep (t := (Ty.sl (Ty.i .i64))) hS62 2 rfl) (Ty.lift _ hS62.ext hb37) hx64) rfl ?_
    rintro _ wd65 ⟨rfl, he66⟩
    have hS68 := St.extend hS62 he66
    replace hS68 : St wd33 wd65 [(Ty.sl (Ty.sl (Ty.sl (Ty.i .i64)))).at u44 x42, bx b49 [u44], (Ty.sl (Ty.i .i64)).at u57 x55.1] := hS68
    refine WL.val (Value.bool (!x63)) _ (op_not rfl) rfl ?_
    refine WL.val (Value.bool (!x63)) _ (op_move rfl) rfl ?_
    refine WL.cut 4 (fun fq wq => fq 1 = (Value.int .i64 aI) ∧ fq 2 = (Value.int .i64 aK) ∧ fq 3 = (Value.pointer (some ⟨b1, 0, none⟩)) ∧ fq 8 = u31 ∧ fq 9 = (Value.int .i64 x29.2) ∧ fq 10 = (Value.pointer (some ⟨b49, 0, none⟩)) ∧ fq 11 = u57 ∧ fq 12 = (Value.int .i64 x55.2) ∧ fq 48 = (Value.bool ((!x63) || (x55.2 != x29.2))) ∧ St wd33 wq [(Ty.sl (Ty.sl (Ty.sl (Ty.i .i64)))).at u44 x42, bx b49 [u44], (Ty.sl (Ty.i .i64)).at u57 x55.1]) ?_ ?_
    · rcases Bool.eq_false_or_eq_true (!x63) with hc69 | hc69
      · refine WL.gskip rfl (bool_of rfl hc69) rfl ?_
        refine WL.gskip rfl (bool_of rfl hc69) rfl ?_
        refine WL.gskip rfl (bool_of rfl hc69) rfl ?_
        refine WL.val (Value.bool true) _ (op_pick_t (evb_of rfl hc69) rfl) rfl ?_
        refine WL.nil ?_
        exact ⟨rfl, rfl, rfl, rfl, rfl, rfl, rfl, rfl, rfl, (orT hc69), hS68⟩
      · refine WL.grun rfl (bool_of rfl hc69) ?_
        refine WL.val (Value.int .i64 x55.2) _ (op_move rfl) rfl ?_
        refine WL.grun rfl (bool_of rfl hc69) ?_
        refine WL.val (Value.int .i64 x29.2) _ (op_move rfl) rfl ?_
        refine WL.grun rfl (bool_of rfl hc69) ?_
        refine WL.val (Value.bool (x55.2 != x29.2)) _ (op_neq rfl rfl) rfl ?_
        refine WL.val (Value.bool (x55.2 != x29.2)) _ (op_pick_f (evb_of rfl hc69) rfl) rfl ?_
        refine WL.nil ?_
        exact ⟨rfl, rfl, rfl, rfl, rfl, rfl, rfl, rfl, rfl, (orF hc69), hS68⟩
    · intro f70 wd71 hq72
      obtain ⟨hf73, hf74, hf75, hf76, hf77, hf78, hf79, hf80, hf81, hS82⟩ := hq72
      refine WL.nil ?_
      show W _ _ _ _ _ _
      refine W.cond ((!x63) || (x55.2 != x29.2)) hf81 (fun hc83 => ?_) (fun hc83 => ?_)
      · replace h := ip h hc83
        refine W.seq ?_
        refine W.region ?_
        refine WL.val (Value.bool false) _ (op_assign rfl) rfl ?_
        refine WL.nil ?_
        show W _ _ _ _ _ _
        refine W.ret ?_
        obtain rfl := Option.some.inj h
        show FinP _ _ _ _ _ _ _
        exact FinP.ret _ (res1 rfl rfl) ⟨rfl, (Ext.trans hE38 hS82.ext)⟩
      · replace h := inegb h hc83
        refine W.skip ?_
        show W _ _ _ _ _ _
        refine W.seq ?_
        refine W.seq ?_
        obtain ⟨x108, hx109, h⟩ := bs h
        refine W.draw mixo 3 [fun v w' => ∃ (uu0 : Value), v = (Value.agg #[uu0]) ∧ (Ty.sl (Ty.sl (Ty.sl (Ty.i .i64)))).rep w' uu0 x42, fun v w' => ∃ (uu0 : Value), v = (Value.agg #[uu0]) ∧ (Ty.sl (Ty.sl (Ty.sl (Ty.i .i64)))).rep w' uu0 aR_Table, fun v w' => ∃ (uu0 : Value), v = (Value.agg #[uu0]) ∧ (Ty.sl (Ty.sl (Ty.sl (Ty.i .i64)))).rep w' uu0 x108] (by kernel_rfl) (by kernel_rfl) (stabL ⟨(fun _ _ _ he ⟨uu0, h0, r0⟩ => ⟨uu0, h0, Ty.lift _ he r0⟩), (fun _ _ _ he ⟨uu0, h0, r0⟩ => ⟨uu0, h0, Ty.lift _ he r0⟩), (fun _ _ _ he ⟨uu0, h0, r0⟩ => ⟨uu0, h0, Ty.lift _ he r0⟩), trivial⟩) ⟨?_, ?_, ?_, trivial⟩ ?_
        · intro f85 wd86 he87 hout88 hphi89
          have hS90 : St wd33 wd86 [(Ty.sl (Ty.sl (Ty.sl (Ty.i .i64)))).at u44 x42, bx b49 [u44], (Ty.sl (Ty.i .i64)).at u57 x55.1] := St.extend hS82 he87
          have e91 : f85 10 = (Value.pointer (some ⟨b49, 0, none⟩)) := (hout88 10 rfl).trans hf78
          exact OpY.val (Value.agg #[u44]) wd86 rfl (op_loadBox st_29 e91 (St.boxAt hS90 1 rfl) rfl rfl) (Ext.refl _) ⟨u44, rfl, (St.rep (t := (Ty.sl (Ty.sl (Ty.sl (Ty.i .i64))))) hS90 0 rfl)⟩
        · intro f92 wd93 he94 hout95 hphi96
          have hS97 : St wd33 wd93 [(Ty.sl (Ty.sl (Ty.sl (Ty.i .i64)))).at u44 x42, bx b49 [u44], (Ty.sl (Ty.i .i64)).at u57 x55.1] := St.extend hS82 he94
          have e98 : f92 3 = (Value.pointer (some ⟨b1, 0, none⟩)) := (hout95 3 rfl).trans hf75
          exact OpY.val (Value.agg #[v_aR_Table]) wd93 rfl (op_loadBox st_24 e98 (BoxAt.lift (Ext.trans hE39 hS97.ext) hx6) rfl rfl) (Ext.refl _) ⟨v_aR_Table, rfl, (Ty.lift _ (Ext.trans hE38 hS97.ext) r_aR_Table)⟩
        · intro f99 wd100 he101 hout102 hphi103
          have hS104 : St wd33 wd100 [(Ty.sl (Ty.sl (Ty.sl (Ty.i .i64)))).at u44 x42, bx b49 [u44], (Ty.sl (Ty.i .i64)).at u57 x55.1] := St.extend hS82 he101
          obtain ⟨u106, e105, hr107⟩ := hphi103 1 50 _ rfl rfl rfl
          refine OpY.call rfl (op_call fn_13 (args1 e105)) (Ret.mono (c_laws_toRing hr107 hx109) ?_)
          rintro _ wd111 ⟨u110, rfl, he112, hs113⟩
          exact ⟨he112, ⟨u110, rfl, (Sep.rep (t := (Ty.sl (Ty.sl (Ty.sl (Ty.i .i64))))) hs113 0 rfl)⟩⟩
        · intro f114 wd115 he116 hout117 hphi118
          show WL _ _ _ _ _ _ _
          have hS119 : St wd33 wd115 [(Ty.sl (Ty.sl (Ty.sl (Ty.i .i64)))).at u44 x42, bx b49 [u44], (Ty.sl (Ty.i .i64)).at u57 x55.1] := St.extend hS82 he116
          obtain ⟨u121, e120, hr122⟩ := hphi118 0 49 _ (by decide) rfl rfl
          obtain ⟨u124, e123, hr125⟩ := hphi118 2 51 _ (by decide) rfl rfl
          have e126 : f114 1 = (Value.int .i64 aI) := (hout117 1 rfl).trans hf73
          have e127 : f114 2 = (Value.int .i64 aK) := (hout117 2 rfl).trans hf74
          have e128 : f114 3 = (Value.pointer (some ⟨b1, 0, none⟩)) := (hout117 3 rfl).trans hf75
          have e129 : f114 8 = u31 := (hout117 8 rfl).trans hf76
          have e130 : f114 9 = (Value.int .i64 x29.2) := (hout117 9 rfl).trans hf77
          have e131 : f114 10 = (Value.pointer (some ⟨b49, 0, none⟩)) := (hout117 10 rfl).trans hf78
          have e132 : f114 11 = u57 := (hout117 11 rfl).trans hf79
          have e133 : f114 12 = (Value.int .i64 x55.2) := (hout117 12 rfl).trans hf80
          obtain ⟨x134, hx135, h⟩ := bs h
          refine WL.call _ (op_call fn_16 (args2 e120 e123)) (c_laws_eqRing hr122 hr125 hx135) rfl ?_
          rintro _ wd136 ⟨rfl, he137⟩
          have hS139 := St.extend hS119 he137
          replace hS139 : St wd33 wd136 [(Ty.sl (Ty.sl (Ty.sl (Ty.i .i64)))).at u44 x42, bx b49 [u44], (Ty.sl (Ty.i .i64)).at u57 x55.1] := hS139
          refine WL.val (Value.bool (!x134)) _ (op_not rfl) rfl ?_
          refine WL.nil ?_
          show W _ _ _ _ _ _
          refine W.cond (!x134) rfl (fun hc140 => ?_) (fun hc140 => ?_)
          · replace h := ip h hc140
            refine W.seq ?_
            refine W.region ?_
            refine WL.val (Value.bool false) _ (op_assign rfl) rfl ?_
            refine WL.nil ?_
            show W _ _ _ _ _ _
            refine W.ret ?_
            obtain rfl := Option.some.inj h
            show FinP _ _ _ _ _ _ _
            exact FinP.ret _ (res1 rfl rfl) ⟨rfl, (Ext.trans hE38 hS139.ext)⟩
          · replace h := inegb h hc140
            refine W.skip ?_
            show W _ _ _ _ _ _
            refine W.seq ?_
            refine W.region ?_
            refine WL.val (Value.int .i64 (1 : Int)) _ (op_assign rfl) rfl ?_
            refine WL.nil ?_
            show W _ _ _ _ _ _
            refine W.seq ?_
            refine W.region ?_
            refine WL.val (Value.agg #[u44]) _ (op_loadBox st_29 e131 (St.boxAt hS139 1 rfl) rfl rfl) rfl ?_
            refine WL.val (Value.int .i64 (1 : Int)) _ (op_move rfl) rfl ?_
            obtain ⟨x142, hx143, h⟩ := bs h
            have hS144 := St.fold [(Ty.sl (Ty.sl (Ty.sl (Ty.i .i64)))).at u44 x42] [bx b49 [u44], (Ty.sl (Ty.i .i64)).at u57 x55.1] (St.pick hS139 [0, 1, 2] rfl)
            refine WL.call _ (op_call fn_26 (args2 rfl rfl)) (c_laws_markRing hS144 (inR_i64.2 (show (-9223372036854775808 : Int) ≤ 1 ∧ (1 : Int) ≤ 9223372036854775807 from by decide)) hx143) rfl ?_
            rintro _ wd147 ⟨rfl, hr148, hS145⟩
            have hS146 := St.pick (St.unfold [(Ty.sl (Ty.sl (Ty.sl (Ty.i .i64)))).at u44 x142.2] [bx b49 [u44], (Ty.sl (Ty.i .i64)).at u57 x55.1] hS145) [0, 1, 2] rfl
            replace hS146 : St wd33 wd147 [(Ty.sl (Ty.sl (Ty.sl (Ty.i .i64)))).at u44 x142.2, bx b49 [u44], (Ty.sl (Ty.i .i64)).at u57 x55.1] := hS146
            refine WL.val (Value.int .i64 x142.1) _ (op_assign rfl) rfl ?_
            refine WL.nil ?_
            show W _ _ _ _ _ _
            refine W.seq ?_
            refine W.seq ?_
            refine W.region ?_
            refine WL.val (Value.int .i64 x142.1) _ (op_move rfl) rfl ?_
            refine WL.val (Value.bool (decide (x142.1 < (0 : Int)))) _ (op_lss rfl rfl) rfl ?_
            refine WL.val (Value.bool (decide (x142.1 < (0 : Int)))) _ (op_move rfl) rfl ?_
            obtain ⟨x150, hj151, h⟩ := bs h
            refine WL.cut 5 (fun fq wq => fq 1 = (Value.int .i64 aI) ∧ fq 2 = (Value.int .i64 aK) ∧ fq 3 = (Value.pointer (some ⟨b1, 0, none⟩)) ∧ fq 8 = u31 ∧ fq 9 = (Value.int .i64 x29.2) ∧ fq 11 = u57 ∧ fq 12 = (Value.int .i64 x55.2) ∧ fq 64 = Value.bool x150 ∧ St wd33 wq [(Ty.sl (Ty.i .i64)).at u57 x55.1]) ?_ ?_
            · rcases Bool.eq_false_or_eq_true (decide (x142.1 < (0 : Int))) with hc149 | hc149
              · replace hj151 := ip hj151 hc149
                refine WL.gskip rfl (bool_of rfl hc149) rfl ?_
                refine WL.gskip rfl (bool_of rfl hc149) rfl ?_
                refine WL.gskip rfl (bool_of rfl hc149) rfl ?_
                refine WL.gskip rfl (bool_of rfl hc149) rfl ?_
                refine WL.val (Value.bool true) _ (op_pick_t (evb_of rfl hc149) rfl) rfl ?_
                refine WL.nil ?_
                obtain rfl := Option.some.inj hj151
                exact ⟨rfl, e126, e127, e128, e129, e130, e132, e133, rfl, (St.pick hS146 [2] rfl)⟩
              · replace hj151 := inegb hj151 hc149
                refine WL.grun rfl (bool_of rfl hc149) ?_
                refine WL.val u57 _ (op_move e132) rfl ?_
                refine WL.grun rfl (bool_of rfl hc149) ?_
                refine WL.val u31 _ (op_move e129) rfl ?_
                refine WL.grun rfl (bool_of rfl hc149) ?_
                obtain ⟨x155, hx156, hj151⟩ := bs hj151
                refine WL.call _ (op_call fn_17 (args2 rfl rfl)) (c_laws_eqInt64S (St.rep (t := (Ty.sl (Ty.i .i64))) hS146 2 rfl) (Ty.lift _ hS146.ext hb37) hx156) rfl ?_
                rintro _ wd157 ⟨rfl, he158⟩
                have hS160 := St.extend hS146 he158
                replace hS160 : St wd33 wd157 [(Ty.sl (Ty.sl (Ty.sl (Ty.i .i64)))).at u44 x142.2, bx b49 [u44], (Ty.sl (Ty.i .i64)).at u57 x55.1] := hS160
                refine WL.grun rfl (bool_of rfl hc149) ?_
                refine WL.val (Value.bool (!x155)) _ (op_not rfl) rfl ?_
                refine WL.val (Value.bool (!x155)) _ (op_pick_f (evb_of rfl hc149) rfl) rfl ?_
                refine WL.nil ?_
                obtain rfl := Option.some.inj hj151
                exact ⟨rfl, e126, e127, e128, e129, e130, e132, e133, rfl, (St.pick hS160 [2] rfl)⟩
            · intro f152 wd153 hq154
              obtain ⟨hf161, hf162, hf163, hf164, hf165, hf166, hf167, hf168, hS169⟩ := hq154
              refine WL.val (Value.bool x150) _ (op_move hf168) rfl ?_
              refine WL.cut 4 (fun fq wq => fq 1 = (Value.int .i64 aI) ∧ fq 2 = (Value.int .i64 aK) ∧ fq 3 = (Value.pointer (some ⟨b1, 0, none⟩)) ∧ fq 8 = u31 ∧ fq 9 = (Value.int .i64 x29.2) ∧ fq 11 = u57 ∧ fq 69 = (Value.bool (x150 || (x55.2 != x29.2))) ∧ St wd33 wq [(Ty.sl (Ty.i .i64)).at u57 x55.1]) ?_ ?_
              · rcases Bool.eq_false_or_eq_true x150 with hc170 | hc170
                · refine WL.gskip rfl (bool_of rfl hc170) rfl ?_
                  refine WL.gskip rfl (bool_of rfl hc170) rfl ?_
                  refine WL.gskip rfl (bool_of rfl hc170) rfl ?_
                  refine WL.val (Value.bool true) _ (op_pick_t (evb_of rfl hc170) rfl) rfl ?_
                  refine WL.nil ?_
                  exact ⟨rfl, hf161, hf162, hf163, hf164, hf165, hf166, (orT hc170), hS169⟩
                · refine WL.grun rfl (bool_of rfl hc170) ?_
                  refine WL.val (Value.int .i64 x55.2) _ (op_move hf167) rfl ?_
                  refine WL.grun rfl (bool_of rfl hc170) ?_
                  refine WL.val (Value.int .i64 x29.2) _ (op_move hf165) rfl ?_
                  refine WL.grun rfl (bool_of rfl hc170) ?_
                  refine WL.val (Value.bool (x55.2 != x29.2)) _ (op_neq rfl rfl) rfl ?_
                  refine WL.val (Value.bool (x55.2 != x29.2)) _ (op_pick_f (evb_of rfl hc170) rfl) rfl ?_
                  refine WL.nil ?_
                  exact ⟨rfl, hf161, hf162, hf163, hf164, hf165, hf166, (orF hc170), hS169⟩
              · intro f171 wd172 hq173
                obtain ⟨hf174, hf175, hf176, hf177, hf178, hf179, hf180, hS181⟩ := hq173
                refine WL.nil ?_
                show W _ _ _ _ _ _
                refine W.cond (x150 || (x55.2 != x29.2)) hf180 (fun hc182 => ?_) (fun hc182 => ?_)
                · replace h := ip h hc182
                  refine W.seq ?_
                  refine W.region ?_
                  refine WL.val (Value.bool false) _ (op_assign rfl) rfl ?_
                  refine WL.nil ?_
                  show W _ _ _ _ _ _
                  refine W.ret ?_
                  obtain rfl := Option.some.inj h
                  show FinP _ _ _ _ _ _ _
                  exact FinP.ret _ (res1 rfl rfl) ⟨rfl, (Ext.trans hE38 hS181.ext)⟩
                · replace h := inegb h hc182
                  refine W.skip ?_
                  show W _ _ _ _ _ _
                  refine W.seq ?_
                  refine W.region ?_
                  refine WL.val (Value.int .i64 (1 : Int)) _ (op_assign rfl) rfl ?_
                  refine WL.nil ?_
                  show W _ _ _ _ _ _
                  refine W.seq ?_
                  refine W.region ?_
                  refine WL.val u57 _ (op_move hf179) rfl ?_
                  refine WL.val (Value.int .i64 (1 : Int)) _ (op_move rfl) rfl ?_
                  obtain ⟨x184, hx185, h⟩ := bs h
                  have hS186 := St.fold [(Ty.sl (Ty.i .i64)).at u57 x55.1] [] (St.pick hS181 [0] rfl)
                  refine WL.call _ (op_call fn_27 (args2 rfl rfl)) (c_laws_markInt64S hS186 (inR_i64.2 (show (-9223372036854775808 : Int) ≤ 1 ∧ (1 : Int) ≤ 9223372036854775807 from by decide)) hx185) rfl ?_
                  rintro _ wd189 ⟨rfl, hr190, hS187⟩
                  have hS188 := St.pick (St.unfold [(Ty.sl (Ty.i .i64)).at u57 x184.2] [] hS187) [0] rfl
                  replace hS188 : St wd33 wd189 [(Ty.sl (Ty.i .i64)).at u57 x184.2] := hS188
                  refine WL.val (Value.int .i64 x184.1) _ (op_assign rfl) rfl ?_
                  refine WL.nil ?_
                  show W _ _ _ _ _ _
                  refine W.seq ?_
                  refine W.region ?_
                  refine WL.val (Value.int .i64 (1 : Int)) _ (op_assign rfl) rfl ?_
                  refine WL.nil ?_
                  show W _ _ _ _ _ _
                  refine W.seq ?_
                  refine W.region ?_
                  refine WL.val u57 _ (op_move hf179) rfl ?_
                  refine WL.val (Value.int .i64 (1 : Int)) _ (op_move rfl) rfl ?_
                  obtain ⟨x191, hx192, h⟩ := bs h
                  refine WL.call _ (op_call fn_28 (args2 rfl rfl)) (c_laws_heldInt64S (St.rep (t := (Ty.sl (Ty.i .i64))) hS188 0 rfl) (inR_i64.2 (show (-9223372036854775808 : Int) ≤ 1 ∧ (1 : Int) ≤ 9223372036854775807 from by decide)) hx192) rfl ?_
                  rintro _ wd194 ⟨rfl, hr193, he195⟩
                  have hS197 := St.extend hS188 he195
                  replace hS197 : St wd33 wd194 [(Ty.sl (Ty.i .i64)).at u57 x184.2] := hS197
                  refine WL.val (Value.int .i64 x191) _ (op_assign rfl) rfl ?_
                  refine WL.nil ?_
                  show W _ _ _ _ _ _
                  refine W.seq ?_
                  refine W.seq ?_
                  refine W.region ?_
                  refine WL.val (Value.int .i64 x191) _ (op_move rfl) rfl ?_
                  refine WL.val (Value.bool (decide (x191 < (0 : Int)))) _ (op_lss rfl rfl) rfl ?_
                  refine WL.nil ?_
                  show W _ _ _ _ _ _
                  refine W.cond (decide (x191 < (0 : Int))) rfl (fun hc198 => ?_) (fun hc198 => ?_)
                  · replace h := ip h hc198
                    refine W.seq ?_
                    refine W.region ?_
                    refine WL.val (Value.bool false) _ (op_assign rfl) rfl ?_
                    refine WL.nil ?_
                    show W _ _ _ _ _ _
                    refine W.ret ?_
                    obtain rfl := Option.some.inj h
                    show FinP _ _ _ _ _ _ _
                    exact FinP.ret _ (res1 rfl rfl) ⟨rfl, (Ext.trans hE38 hS197.ext)⟩
                  · replace h := inegb h hc198
                    refine W.skip ?_
                    show W _ _ _ _ _ _
                    refine W.seq ?_
                    refine W.seq ?_
                    refine W.region ?_
                    refine WL.val (Value.int .i64 x191) _ (op_move rfl) rfl ?_
                    refine WL.val (Value.int .i64 x184.1) _ (op_move rfl) rfl ?_
                    refine WL.val (Value.bool (x191 != x184.1)) _ (op_neq rfl rfl) rfl ?_
                    refine WL.nil ?_
                    show W _ _ _ _ _ _
                    refine W.cond (x191 != x184.1) rfl (fun hc200 => ?_) (fun hc200 => ?_)
                    · replace h := ip h hc200
                      refine W.seq ?_
                      refine W.region ?_
                      refine WL.val (Value.bool false) _ (op_assign rfl) rfl ?_
                      refine WL.nil ?_
                      show W _ _ _ _ _ _
                      refine W.ret ?_
                      obtain rfl := Option.some.inj h
                      show FinP _ _ _ _ _ _ _
                      exact FinP.ret _ (res1 rfl rfl) ⟨rfl, (Ext.trans hE38 hS197.ext)⟩
                    · replace h := inegb h hc200
                      refine W.skip ?_
                      show W _ _ _ _ _ _
                      refine W.seq ?_
                      refine W.region ?_
                      refine WL.val (Value.agg #[v_aR_Table]) _ (op_loadBox st_24 hf176 (BoxAt.lift (Ext.trans hE39 hS197.ext) hx6) rfl rfl) rfl ?_
                      obtain ⟨x202, hx203, h⟩ := bs h
                      refine WL.call _ (op_call fn_13 (args1 rfl)) (c_laws_toRing (Ty.lift _ (Ext.trans hE38 hS197.ext) r_aR_Table) hx203) rfl ?_
                      rintro _ wd205 ⟨u204, rfl, he206, hs207⟩
                      have hS208 := St.join hS197 he206 hs207
                      replace hS208 : St wd33 wd205 [(Ty.sl (Ty.i .i64)).at u57 x184.2, (Ty.sl (Ty.sl (Ty.sl (Ty.i .i64)))).at u204 x202] := hS208
                      refine WL.val (Value.int .i64 aI) _ (op_move hf174) rfl ?_
                      refine WL.val (Value.int .i64 aK) _ (op_move hf175) rfl ?_
                      obtain ⟨x209, hx210, h⟩ := bs h
                      refine WL.call _ (op_call fn_35 (args3 rfl rfl rfl)) (c_impl_PowerOfLabel (St.rep (t := (Ty.sl (Ty.sl (Ty.sl (Ty.i .i64))))) hS208 1 rfl) r_aI r_aK hx210) rfl ?_
                      rintro _ wd213 ⟨u211, rfl, hr212, he214, hs215⟩
                      have hS216 := St.join hS208 he214 hs215
                      replace hS216 : St wd33 wd213 [(Ty.sl (Ty.i .i64)).at u57 x184.2, (Ty.sl (Ty.sl (Ty.sl (Ty.i .i64)))).at u204 x202, (Ty.sl (Ty.i .i64)).at u211 x209.1] := hS216
                      refine WL.val (Value.tuple #[u211, (Value.int .i64 x209.2)]) _ (op_move rfl) rfl ?_
                      refine WL.val u211 _ (op_extract rfl rfl) rfl ?_
                      refine WL.val (Value.int .i64 x209.2) _ (op_extract rfl rfl) rfl ?_
                      refine WL.val u211 _ (op_assign rfl) rfl ?_
                      refine WL.val (Value.int .i64 x209.2) _ (op_assign rfl) rfl ?_
                      refine WL.nil ?_
                      show W _ _ _ _ _ _
                      refine W.seq ?_
                      refine W.seq ?_
                      refine W.region ?_
                      refine WL.val u211 _ (op_move rfl) rfl ?_
                      refine WL.val u31 _ (op_move hf177) rfl ?_
                      obtain ⟨x217, hx218, h⟩ := bs h
                      refine WL.call _ (op_call fn_17 (args2 rfl rfl)) (c_laws_eqInt64S (St.rep (t := (Ty.sl (Ty.i .i64))) hS216 2 rfl) (Ty.lift _ hS216.ext hb37) hx218) rfl ?_
                      rintro _ wd219 ⟨rfl, he220⟩
                      have hS222 := St.extend hS216 he220
                      replace hS222 : St wd33 wd219 [(Ty.sl (Ty.i .i64)).at u57 x184.2, (Ty.sl (Ty.sl (Ty.sl (Ty.i .i64)))).at u204 x202, (Ty.sl (Ty.i .i64)).at u211 x209.1] := hS222
                      refine WL.val (Value.bool (!x217)) _ (op_not rfl) rfl ?_
                      refine WL.val (Value.bool (!x217)) _ (op_move rfl) rfl ?_
                      refine WL.cut 4 (fun fq wq => fq 11 = u57 ∧ fq 14 = (Value.int .i64 x184.1) ∧ fq 97 = (Value.bool ((!x217) || (x209.2 != x29.2))) ∧ St wd33 wq [(Ty.sl (Ty.i .i64)).at u57 x184.2]) ?_ ?_
                      · rcases Bool.eq_false_or_eq_true (!x217) with hc223 | hc223
                        · refine WL.gskip rfl (bool_of rfl hc223) rfl ?_
                          refine WL.gskip rfl (bool_of rfl hc223) rfl ?_
                          refine WL.gskip rfl (bool_of rfl hc223) rfl ?_
                          refine WL.val (Value.bool true) _ (op_pick_t (evb_of rfl hc223) rfl) rfl ?_
                          refine WL.nil ?_
                          exact ⟨rfl, hf179, rfl, (orT hc223), (St.pick hS222 [0] rfl)⟩
                        · refine WL.grun rfl (bool_of rfl hc223) ?_
                          refine WL.val (Value.int .i64 x209.2) _ (op_move rfl) rfl ?_
                          refine WL.grun rfl (bool_of rfl hc223) ?_
                          refine WL.val (Value.int .i64 x29.2) _ (op_move hf178) rfl ?_
                          refine WL.grun rfl (bool_of rfl hc223) ?_
                          refine WL.val (Value.bool (x209.2 != x29.2)) _ (op_neq rfl rfl) rfl ?_
                          refine WL.val (Value.bool (x209.2 != x29.2)) _ (op_pick_f (evb_of rfl hc223) rfl) rfl ?_
                          refine WL.nil ?_
                          exact ⟨rfl, hf179, rfl, (orF hc223), (St.pick hS222 [0] rfl)⟩
                      · intro f224 wd225 hq226
                        obtain ⟨hf227, hf228, hf229, hS230⟩ := hq226
                        refine WL.nil ?_
                        show W _ _ _ _ _ _
                        refine W.cond ((!x217) || (x209.2 != x29.2)) hf229 (fun hc231 => ?_) (fun hc231 => ?_)
                        · replace h := ip h hc231
                          refine W.seq ?_
                          refine W.region ?_
                          refine WL.val (Value.bool false) _ (op_assign rfl) rfl ?_
                          refine WL.nil ?_
                          show W _ _ _ _ _ _
                          refine W.ret ?_
                          obtain rfl := Option.some.inj h
                          show FinP _ _ _ _ _ _ _
                          exact FinP.ret _ (res1 rfl rfl) ⟨rfl, (Ext.trans hE38 hS230.ext)⟩
                        · replace h := inegb h hc231
                          refine W.skip ?_
                          show W _ _ _ _ _ _
                          refine W.seq ?_
                          refine W.region ?_
                          refine WL.val (Value.int .i64 (1 : Int)) _ (op_assign rfl) rfl ?_
                          refine WL.nil ?_
                          show W _ _ _ _ _ _
                          refine W.seq ?_
                          refine W.region ?_
                          refine WL.val u57 _ (op_move hf227) rfl ?_
                          refine WL.val (Value.int .i64 (1 : Int)) _ (op_move rfl) rfl ?_
                          obtain ⟨x233, hx234, h⟩ := bs h
                          refine WL.call _ (op_call fn_28 (args2 rfl rfl)) (c_laws_heldInt64S (St.rep (t := (Ty.sl (Ty.i .i64))) hS230 0 rfl) (inR_i64.2 (show (-9223372036854775808 : Int) ≤ 1 ∧ (1 : Int) ≤ 9223372036854775807 from by decide)) hx234) rfl ?_
                          rintro _ wd236 ⟨rfl, hr235, he237⟩
                          have hS239 := St.extend hS230 he237
                          replace hS239 : St wd33 wd236 [(Ty.sl (Ty.i .i64)).at u57 x184.2] := hS239
                          refine WL.val (Value.int .i64 x233) _ (op_assign rfl) rfl ?_
                          refine WL.nil ?_
                          show W _ _ _ _ _ _
                          refine W.seq ?_
                          refine W.seq ?_
                          refine W.region ?_
                          refine WL.val (Value.int .i64 x233) _ (op_move rfl) rfl ?_
                          refine WL.val (Value.bool (decide (x233 < (0 : Int)))) _ (op_lss rfl rfl) rfl ?_
                          refine WL.nil ?_
                          show W _ _ _ _ _ _
                          refine W.cond (decide (x233 < (0 : Int))) rfl (fun hc240 => ?_) (fun hc240 => ?_)
                          · replace h := ip h hc240
                            refine W.seq ?_
                            refine W.region ?_
                            refine WL.val (Value.bool false) _ (op_assign rfl) rfl ?_
                            refine WL.nil ?_
                            show W _ _ _ _ _ _
                            refine W.ret ?_
                            obtain rfl := Option.some.inj h
                            show FinP _ _ _ _ _ _ _
                            exact FinP.ret _ (res1 rfl rfl) ⟨rfl, (Ext.trans hE38 hS239.ext)⟩
                          · replace h := inegb h hc240
                            refine W.skip ?_
                            show W _ _ _ _ _ _
                            refine W.seq ?_
                            refine W.seq ?_
                            refine W.region ?_
                            refine WL.val (Value.int .i64 x233) _ (op_move rfl) rfl ?_
                            refine WL.val (Value.int .i64 x184.1) _ (op_move hf228) rfl ?_
                            refine WL.val (Value.bool (x233 != x184.1)) _ (op_neq rfl rfl) rfl ?_
                            refine WL.nil ?_
                            show W _ _ _ _ _ _
                            refine W.cond (x233 != x184.1) rfl (fun hc242 => ?_) (fun hc242 => ?_)
                            · replace h := ip h hc242
                              refine W.seq ?_
                              refine W.region ?_
                              refine WL.val (Value.bool false) _ (op_assign rfl) rfl ?_
                              refine WL.nil ?_
                              show W _ _ _ _ _ _
                              refine W.ret ?_
                              obtain rfl := Option.some.inj h
                              show FinP _ _ _ _ _ _ _
                              exact FinP.ret _ (res1 rfl rfl) ⟨rfl, (Ext.trans hE38 hS239.ext)⟩
                            · replace h := inegb h hc242
                              refine W.skip ?_
                              show W _ _ _ _ _ _
                              refine W.seq ?_
                              refine W.region ?_
                              refine WL.val (Value.bool true) _ (op_assign rfl) rfl ?_
                              refine WL.nil ?_
                              show W _ _ _ _ _ _
                              refine W.ret ?_
                              obtain rfl := Option.some.inj h
                              show FinP _ _ _ _ _ _ _
                              exact FinP.ret _ (res1 rfl rfl) ⟨rfl, (Ext.trans hE38 hS239.ext)⟩

end Go.VG
