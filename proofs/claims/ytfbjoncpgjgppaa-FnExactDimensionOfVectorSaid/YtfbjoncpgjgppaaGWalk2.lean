/- The walks, part 2: each Go function returns what its plain twin returns. No condition beyond what each names. -/
import Derived.Test.YtfbjoncpgjgppaaGWalk1
set_option linter.all false
namespace Go.VG
open Go.Proofs
attribute [local irreducible] W WL Sep FinP

theorem c_spec_l04Is {w : World} {r_Table : (List (List (List Int)))} {v_r_Table : Value} {d : (List Int)} {v_d : Value} (r_r_Table : (Ty.sl (Ty.sl (Ty.sl (Ty.i .i64)))).rep w v_r_Table r_Table) (r_d : (Ty.sl (Ty.i .i64)).rep w v_d d) {res : Bool} (h : p_spec_l04Is r_Table d  = some res) :
    Ret Try.prog 38 #[(Value.agg #[v_r_Table]), v_d] w (fun v w' => v = Value.bool res ∧ Ext w w') := by
  unfold p_spec_l04Is at h
  have hS0 : St w w [] := St.start w
  refine Ret.start (fn := Try.f38) Try.func38 rfl 63 rfl rfl ?_
  refine W.seq (W.region ?_)
  refine WL.box hS0 rfl (cs := [v_r_Table]) rfl rfl ?_
  intro b1 wd2 hS3 he4 hx5
  replace hS3 : St w wd2 [bx b1 [v_r_Table]] := hS3
  have hx6 := St.boxAt hS3 0 rfl
  have hE7 : Ext w wd2 := hS3.ext
  have hS8 : St wd2 wd2 [] := St.start wd2
  refine WL.val (Value.bool false) _ (op_assign rfl) rfl ?_
  refine WL.nil ?_
  refine W.seq (W.seq (W.region ?_))
  refine WL.val (Value.int .i64 (0 : Int)) _ (op_assign rfl) rfl ?_
  refine WL.nil ?_
  show W _ _ _ _ _ _
  obtain ⟨res9, hres10, h⟩ := bs h
  refine W.blockLoop (fun fq wq => ∃ s, res9 = Res.fin s ∧ St wd2 wq []) ?_ ?_
  · refine W.forN (fun k (s : Unit) fq wq => fq 1 = v_d ∧ fq 2 = (Value.pointer (some ⟨b1, 0, none⟩)) ∧ fq 5 = Value.int .i64 (k : Int) ∧ InR .i64 (k : Int) ∧ St wd2 wq []) hres10 ⟨rfl, rfl, rfl, (inL rfl), hS8⟩ ?_ ?_
    · intro k11 s723 ct12 f13 wd14 hk15 hb16 hI17 hbrk18 hret19
      obtain ⟨⟩ := s723
      replace hI17 : f13 1 = v_d ∧ f13 2 = (Value.pointer (some ⟨b1, 0, none⟩)) ∧ f13 5 = Value.int .i64 (k11 : Int) ∧ InR .i64 (k11 : Int) ∧ St wd2 wd14 [] := hI17
      replace hb16 : p_spec_l04Is_L1 r_Table d k11  = some ct12 := hb16
      unfold p_spec_l04Is_L1 at hb16
      obtain ⟨hf20, hf21, hf22, hr23, hS24⟩ := hI17
      refine W.seq (W.seq (W.region ?_))
      refine WL.val (Value.int .i64 (k11 : Int)) _ (op_move hf22) rfl ?_
      refine WL.val v_d _ (op_move hf20) rfl ?_
      have hr25 := inR_len (Ty.lift _ (Ext.trans hE7 hS24.ext) r_d)
      refine WL.val (Value.int .i64 ((d).length : Int)) _ (op_lenL sl_34 (Ty.lift _ (Ext.trans hE7 hS24.ext) r_d) rfl) rfl ?_
      refine WL.val (Value.bool (decide ((k11 : Int) < ((d).length : Int)))) _ (op_lss rfl rfl) rfl ?_
      have hl26 : (k11 : Int) < ((d).length : Int) := by omega
      refine WL.nil ?_
      refine W.condT (decide ((k11 : Int) < ((d).length : Int))) rfl (decide_eq_true hl26) ?_
      refine W.skip ?_
      refine W.seq ?_
      refine W.block ?_
      refine W.seq (W.region ?_)
      refine WL.val (Value.int .i64 (0 : Int)) _ (op_assign rfl) rfl ?_
      refine WL.nil ?_
      show W _ _ _ _ _ _
      obtain ⟨res28, hres29, hb16⟩ := bs hb16
      refine W.blockLoop (fun fq wq => ∃ s, res28 = Res.fin s ∧ fq 1 = v_d ∧ fq 2 = (Value.pointer (some ⟨b1, 0, none⟩)) ∧ fq 5 = (Value.int .i64 (k11 : Int)) ∧ St wd2 wq []) ?_ ?_
      · refine W.forN (fun k (s : Unit) fq wq => fq 1 = v_d ∧ fq 2 = (Value.pointer (some ⟨b1, 0, none⟩)) ∧ fq 5 = (Value.int .i64 (k11 : Int)) ∧ fq 6 = Value.int .i64 (k : Int) ∧ InR .i64 (k : Int) ∧ St wd2 wq []) hres29 ⟨hf20, hf21, hf22, rfl, (inL rfl), hS24⟩ ?_ ?_
        · intro k30 s700 ct31 f32 wd33 hk34 hb35 hI36 hbrk37 hret38
          obtain ⟨⟩ := s700
          replace hI36 : f32 1 = v_d ∧ f32 2 = (Value.pointer (some ⟨b1, 0, none⟩)) ∧ f32 5 = (Value.int .i64 (k11 : Int)) ∧ f32 6 = Value.int .i64 (k30 : Int) ∧ InR .i64 (k30 : Int) ∧ St wd2 wd33 [] := hI36
          replace hb35 : p_spec_l04Is_L2 r_Table k11 d k30  = some ct31 := hb35
          unfold p_spec_l04Is_L2 at hb35
          obtain ⟨hf39, hf40, hf41, hf42, hr43, hS44⟩ := hI36
          refine W.seq (W.seq (W.region ?_))
          refine WL.val (Value.int .i64 (k30 : Int)) _ (op_move hf42) rfl ?_
          refine WL.val v_d _ (op_move hf39) rfl ?_
          have hr45 := inR_len (Ty.lift _ (Ext.trans hE7 hS44.ext) r_d)
          refine WL.val (Value.int .i64 ((d).length : Int)) _ (op_lenL sl_34 (Ty.lift _ (Ext.trans hE7 hS44.ext) r_d) rfl) rfl ?_
          refine WL.val (Value.bool (decide ((k30 : Int) < ((d).length : Int)))) _ (op_lss rfl rfl) rfl ?_
          have hl46 : (k30 : Int) < ((d).length : Int) := by omega
          refine WL.nil ?_
          refine W.condT (decide ((k30 : Int) < ((d).length : Int))) rfl (decide_eq_true hl46) ?_
          refine W.skip ?_
          refine W.seq ?_
          refine W.block ?_
          refine W.seq (W.region ?_)
          refine WL.val (Value.int .i64 (0 : Int)) _ (op_assign rfl) rfl ?_
          refine WL.nil ?_
          refine W.seq (W.seq (W.region ?_))
          refine WL.val (Value.int .i64 (0 : Int)) _ (op_assign rfl) rfl ?_
          refine WL.nil ?_
          show W _ _ _ _ _ _
          obtain ⟨res48, hres49, hb35⟩ := bs hb35
          refine W.blockLoop (fun fq wq => ∃ s, res48 = Res.fin s ∧ fq 1 = v_d ∧ fq 2 = (Value.pointer (some ⟨b1, 0, none⟩)) ∧ fq 5 = (Value.int .i64 (k11 : Int)) ∧ fq 6 = (Value.int .i64 (k30 : Int)) ∧ fq 7 = Value.int .i64 s ∧ InR .i64 s ∧ St wd2 wq []) ?_ ?_
          · refine W.forN (fun k (s : Int) fq wq => fq 1 = v_d ∧ fq 2 = (Value.pointer (some ⟨b1, 0, none⟩)) ∧ fq 5 = (Value.int .i64 (k11 : Int)) ∧ fq 6 = (Value.int .i64 (k30 : Int)) ∧ fq 7 = Value.int .i64 s ∧ InR .i64 s ∧ fq 8 = Value.int .i64 (k : Int) ∧ InR .i64 (k : Int) ∧ St wd2 wq []) hres49 ⟨hf39, hf40, hf41, hf42, rfl, (inL rfl), rfl, (inL rfl), hS44⟩ ?_ ?_
            · intro k50 x51 ct52 f53 wd54 hk55 hb56 hI57 hbrk58 hret59
              replace hI57 : f53 1 = v_d ∧ f53 2 = (Value.pointer (some ⟨b1, 0, none⟩)) ∧ f53 5 = (Value.int .i64 (k11 : Int)) ∧ f53 6 = (Value.int .i64 (k30 : Int)) ∧ f53 7 = Value.int .i64 x51 ∧ InR .i64 x51 ∧ f53 8 = Value.int .i64 (k50 : Int) ∧ InR .i64 (k50 : Int) ∧ St wd2 wd54 [] := hI57
              replace hb56 : p_spec_l04Is_L3 r_Table k11 k30 d k50 x51 = some ct52 := hb56
              unfold p_spec_l04Is_L3 at hb56
              obtain ⟨hf60, hf61, hf62, hf63, hf64, hr65, hf66, hr67, hS68⟩ := hI57
              refine W.seq (W.seq (W.region ?_))
              refine WL.val (Value.int .i64 (k50 : Int)) _ (op_move hf66) rfl ?_
              refine WL.val v_d _ (op_move hf60) rfl ?_
              have hr69 := inR_len (Ty.lift _ (Ext.trans hE7 hS68.ext) r_d)
              refine WL.val (Value.int .i64 ((d).length : Int)) _ (op_lenL sl_34 (Ty.lift _ (Ext.trans hE7 hS68.ext) r_d) rfl) rfl ?_
              refine WL.val (Value.bool (decide ((k50 : Int) < ((d).length : Int)))) _ (op_lss rfl rfl) rfl ?_
              have hl70 : (k50 : Int) < ((d).length : Int) := by omega
              refine WL.nil ?_
              refine W.condT (decide ((k50 : Int) < ((d).length : Int))) rfl (decide_eq_true hl70) ?_
              refine W.skip ?_
              refine W.seq ?_
              refine W.block ?_
              obtain ⟨x118, hx121, hb56⟩ := bs hb56
              obtain ⟨ha119, hb120, hx121⟩ := idx_some hx121
              obtain ⟨u132, hc133, hr134⟩ := repSl.el r_r_Table hx121
              obtain ⟨x157, hx160, hb56⟩ := bs hb56
              obtain ⟨ha158, hb159, hx160⟩ := idx_some hx160
              obtain ⟨u171, hc172, hr173⟩ := repSl.el hr134 hx160
              obtain ⟨x196, hx199, hb56⟩ := bs hb56
              obtain ⟨ha197, hb198, hx199⟩ := idx_some hx199
              obtain ⟨u210, hc211, hr212⟩ := repSl.el hr173 hx199
              obtain ⟨rfl, hr212⟩ := hr212
              obtain ⟨x242, hx245, hb56⟩ := bs hb56
              obtain ⟨ha243, hb244, hx245⟩ := idx_some hx245
              obtain ⟨u256, hc257, hr258⟩ := repSl.el r_d hx245
              obtain ⟨rfl, hr258⟩ := hr258
              refine W.drawR mixo 17 [] [fun _ v _ _ => v = (Value.int .i64 x51) ∧ InR .i64 x51, fun _ v _ _ => v = (Value.pointer (some ⟨b1, 0, none⟩)), fun _ v _ _ => v = v_r_Table, fun _ v _ _ => v = (Value.int .i64 (k11 : Int)) ∧ InR .i64 (k11 : Int), fun _ v _ _ => v = (Value.pointer (some (elA v_r_Table ((k11 : Int)).toNat))), fun _ v _ _ => v = u132, fun _ v _ _ => v = (Value.int .i64 (k30 : Int)) ∧ InR .i64 (k30 : Int), fun _ v _ _ => v = (Value.pointer (some (elA u132 ((k30 : Int)).toNat))), fun _ v _ _ => v = u171, fun _ v _ _ => v = (Value.int .i64 (k50 : Int)) ∧ InR .i64 (k50 : Int), fun _ v _ _ => v = (Value.pointer (some (elA u171 ((k50 : Int)).toNat))), fun _ v _ _ => v = (Value.int .i64 x196) ∧ InR .i64 x196, fun _ v _ _ => v = v_d, fun _ v _ _ => v = (Value.int .i64 (k50 : Int)) ∧ InR .i64 (k50 : Int), fun _ v _ _ => v = (Value.pointer (some (elA v_d ((k50 : Int)).toNat))), fun _ v _ _ => v = (Value.int .i64 x242) ∧ InR .i64 x242, fun _ v _ _ => v = (Value.int .i64 (w64 (x196 * x242))) ∧ InR .i64 (w64 (x196 * x242))] (by kernel_rfl) (by kernel_rfl) ⟨pk, pk, pk, pk, pk, pk, pk, pk, pk, pk, pk, pk, pk, pk, pk, pk, pk, trivial⟩ ⟨?_, ?_, ?_, ?_, ?_, ?_, ?_, ?_, ?_, ?_, ?_, ?_, ?_, ?_, ?_, ?_, ?_, trivial⟩ ?_
              · refine ObX.op rfl fun f72 wd73 he74 hout75 hphi76 => ?_
                have e78 : f72 7 = (Value.int .i64 x51) := (hout75 7 rfl).trans hf64
                exact OpX.val (Value.int .i64 x51) wd73 rfl (op_move e78) (Ext.refl _) ⟨rfl, hr65⟩
              · refine ObX.op rfl fun f79 wd80 he81 hout82 hphi83 => ?_
                have e85 : f79 2 = (Value.pointer (some ⟨b1, 0, none⟩)) := (hout82 2 rfl).trans hf61
                exact OpX.val (Value.pointer (some ⟨b1, 0, none⟩)) wd80 rfl (op_fieldAddr fd_28_0 e85) (Ext.refl _) rfl
              · refine ObX.op rfl fun f86 wd87 he88 hout89 hphi90 => ?_
                have hS91 := St.extend hS68 he88
                obtain ⟨S92, hS93, hf94⟩ := hphi90 1 28 _ rfl rfl rfl
                have e95 : f86 28 = (Value.pointer (some ⟨b1, 0, none⟩)) := hf94
                exact OpX.val v_r_Table wd87 rfl (op_load one_22 e95 (BoxAt.cell (BoxAt.lift hS91.ext hx6) rfl)) (Ext.refl _) rfl
              · refine ObX.op rfl fun f96 wd97 he98 hout99 hphi100 => ?_
                have e102 : f96 5 = (Value.int .i64 (k11 : Int)) := (hout99 5 rfl).trans hf62
                exact OpX.val (Value.int .i64 (k11 : Int)) wd97 rfl (op_move e102) (Ext.refl _) ⟨rfl, hr23⟩
              · refine ObX.op rfl fun f103 wd104 he105 hout106 hphi107 => ?_
                have hS108 := St.extend hS68 he105
                obtain ⟨S109, hS110, hf111⟩ := hphi107 2 29 _ rfl rfl rfl
                have e112 : f103 29 = v_r_Table := hf111
                obtain ⟨S113, hS114, hf115⟩ := hphi107 3 30 _ rfl rfl rfl
                obtain ⟨e116, hr117⟩ := hf115
                exact OpX.val (Value.pointer (some (elA v_r_Table ((k11 : Int)).toNat))) wd104 rfl (op_idx sl_22 (Ty.lift _ (Ext.trans hE7 hS108.ext) r_r_Table) e112 e116 ha119 hb120) (Ext.refl _) rfl
              · refine ObX.op rfl fun f122 wd123 he124 hout125 hphi126 => ?_
                have hS127 := St.extend hS68 he124
                obtain ⟨S128, hS129, hf130⟩ := hphi126 4 31 _ rfl rfl rfl
                have e131 : f122 31 = (Value.pointer (some (elA v_r_Table ((k11 : Int)).toNat))) := hf130
                exact OpX.val u132 wd123 rfl (op_load one_54 e131 (Ext.cell (Ext.trans hE7 hS127.ext) hc133)) (Ext.refl _) rfl
              · refine ObX.op rfl fun f135 wd136 he137 hout138 hphi139 => ?_
                have e141 : f135 6 = (Value.int .i64 (k30 : Int)) := (hout138 6 rfl).trans hf63
                exact OpX.val (Value.int .i64 (k30 : Int)) wd136 rfl (op_move e141) (Ext.refl _) ⟨rfl, hr43⟩
              · refine ObX.op rfl fun f142 wd143 he144 hout145 hphi146 => ?_
                have hS147 := St.extend hS68 he144
                obtain ⟨S148, hS149, hf150⟩ := hphi146 5 32 _ rfl rfl rfl
                have e151 : f142 32 = u132 := hf150
                obtain ⟨S152, hS153, hf154⟩ := hphi146 6 33 _ rfl rfl rfl
                obtain ⟨e155, hr156⟩ := hf154
                exact OpX.val (Value.pointer (some (elA u132 ((k30 : Int)).toNat))) wd143 rfl (op_idx sl_54 (Ty.lift _ (Ext.trans hE7 hS147.ext) hr134) e151 e155 ha158 hb159) (Ext.refl _) rfl
              · refine ObX.op rfl fun f161 wd162 he163 hout164 hphi165 => ?_
                have hS166 := St.extend hS68 he163
                obtain ⟨S167, hS168, hf169⟩ := hphi165 7 34 _ rfl rfl rfl
                have e170 : f161 34 = (Value.pointer (some (elA u132 ((k30 : Int)).toNat))) := hf169
                exact OpX.val u171 wd162 rfl (op_load one_34 e170 (Ext.cell (Ext.trans hE7 hS166.ext) hc172)) (Ext.refl _) rfl
              · refine ObX.op rfl fun f174 wd175 he176 hout177 hphi178 => ?_
                have e180 : f174 8 = (Value.int .i64 (k50 : Int)) := (hout177 8 rfl).trans hf66
                exact OpX.val (Value.int .i64 (k50 : Int)) wd175 rfl (op_move e180) (Ext.refl _) ⟨rfl, hr67⟩
              · refine ObX.op rfl fun f181 wd182 he183 hout184 hphi185 => ?_
                have hS186 := St.extend hS68 he183
                obtain ⟨S187, hS188, hf189⟩ := hphi185 8 35 _ rfl rfl rfl
                have e190 : f181 35 = u171 := hf189
                obtain ⟨S191, hS192, hf193⟩ := hphi185 9 36 _ rfl rfl rfl
                obtain ⟨e194, hr195⟩ := hf193
                exact OpX.val (Value.pointer (some (elA u171 ((k50 : Int)).toNat))) wd182 rfl (op_idx sl_34 (Ty.lift _ (Ext.trans hE7 hS186.ext) hr173) e190 e194 ha197 hb198) (Ext.refl _) rfl
              · refine ObX.op rfl fun f200 wd201 he202 hout203 hphi204 => ?_
                have hS205 := St.extend hS68 he202
                obtain ⟨S206, hS207, hf208⟩ := hphi204 10 37 _ rfl rfl rfl
                have e209 : f200 37 = (Value.pointer (some (elA u171 ((k50 : Int)).toNat))) := hf208
                exact OpX.val (Value.int .i64 x196) wd201 rfl (op_load one_2 e209 (Ext.cell (Ext.trans hE7 hS205.ext) hc211)) (Ext.refl _) ⟨rfl, hr212⟩
              · refine ObX.op rfl fun f213 wd214 he215 hout216 hphi217 => ?_
                have e219 : f213 1 = v_d := (hout216 1 rfl).trans hf60
                exact OpX.val v_d wd214 rfl (op_move e219) (Ext.refl _) rfl
              · refine ObX.op rfl fun f220 wd221 he222 hout223 hphi224 => ?_
                have e226 : f220 8 = (Value.int .i64 (k50 : Int)) := (hout223 8 rfl).trans hf66
                exact OpX.val (Value.int .i64 (k50 : Int)) wd221 rfl (op_move e226) (Ext.refl _) ⟨rfl, hr67⟩
              · refine ObX.op rfl fun f227 wd228 he229 hout230 hphi231 => ?_
                have hS232 := St.extend hS68 he229
                obtain ⟨S233, hS234, hf235⟩ := hphi231 12 39 _ rfl rfl rfl
                have e236 : f227 39 = v_d := hf235
                obtain ⟨S237, hS238, hf239⟩ := hphi231 13 40 _ rfl rfl rfl
                obtain ⟨e240, hr241⟩ := hf239
                exact OpX.val (Value.pointer (some (elA v_d ((k50 : Int)).toNat))) wd228 rfl (op_idx sl_34 (Ty.lift _ (Ext.trans hE7 hS232.ext) r_d) e236 e240 ha243 hb244) (Ext.refl _) rfl
              · refine ObX.op rfl fun f246 wd247 he248 hout249 hphi250 => ?_
                have hS251 := St.extend hS68 he248
                obtain ⟨S252, hS253, hf254⟩ := hphi250 14 41 _ rfl rfl rfl
                have e255 : f246 41 = (Value.pointer (some (elA v_d ((k50 : Int)).toNat))) := hf254
                exact OpX.val (Value.int .i64 x242) wd247 rfl (op_load one_2 e255 (Ext.cell (Ext.trans hE7 hS251.ext) hc257)) (Ext.refl _) ⟨rfl, hr258⟩
              · refine ObX.op rfl fun f259 wd260 he261 hout262 hphi263 => ?_
                obtain ⟨S265, hS266, hf267⟩ := hphi263 11 38 _ rfl rfl rfl
                obtain ⟨e268, hr269⟩ := hf267
                obtain ⟨S270, hS271, hf272⟩ := hphi263 15 42 _ rfl rfl rfl
                obtain ⟨e273, hr274⟩ := hf272
                exact OpX.val (Value.int .i64 (w64 (x196 * x242))) wd260 rfl (op_mul e268 e273) (Ext.refl _) ⟨rfl, (inR_wrap _ _)⟩
              · intro f275 wd276 Ss277 he278 hout279 hSn280 hSd281 hphi282
                show WL _ _ _ _ _ _ _
                have hS283 := St.extend hS68 he278
                obtain ⟨e284, hr285⟩ := hphi282 0 27 _ (by decide) rfl rfl
                obtain ⟨e286, hr287⟩ := hphi282 16 43 _ (by decide) rfl rfl
                have e288 : f275 1 = v_d := (hout279 1 rfl).trans hf60
                have e289 : f275 2 = (Value.pointer (some ⟨b1, 0, none⟩)) := (hout279 2 rfl).trans hf61
                have e290 : f275 5 = (Value.int .i64 (k11 : Int)) := (hout279 5 rfl).trans hf62
                have e291 : f275 6 = (Value.int .i64 (k30 : Int)) := (hout279 6 rfl).trans hf63
                have e292 : f275 8 = (Value.int .i64 (k50 : Int)) := (hout279 8 rfl).trans hf66
                refine WL.val (Value.int .i64 (w64 (x51 + (w64 (x196 * x242))))) _ (op_add e284 e286) rfl ?_
                refine WL.val (Value.int .i64 (w64 (x51 + (w64 (x196 * x242))))) _ (op_assign rfl) rfl ?_
                refine WL.nil ?_
                show W _ _ _ _ _ _
                refine W.region ?_
                refine WL.val (Value.int .i64 (k50 : Int)) _ (op_move e292) rfl ?_
                refine WL.val (Value.int .i64 (w64 ((k50 : Int) + (1 : Int)))) _ (op_add rfl rfl) rfl ?_
                refine WL.val (Value.int .i64 (w64 ((k50 : Int) + (1 : Int)))) _ (op_assign rfl) rfl ?_
                refine WL.nil ?_
                obtain rfl := Option.some.inj hb56
                show ∃ s, _ = Ctl.next s ∧ _
                exact ⟨_, rfl, e288, e289, e290, e291, rfl, (inR_wrap _ _), (ctr_next hl70 hr69), (ctr_rng hl70 hr69), hS283⟩
            · intro x299 f294 wd295 hs296 hI297
              replace hI297 : f294 1 = v_d ∧ f294 2 = (Value.pointer (some ⟨b1, 0, none⟩)) ∧ f294 5 = (Value.int .i64 (k11 : Int)) ∧ f294 6 = (Value.int .i64 (k30 : Int)) ∧ f294 7 = Value.int .i64 x299 ∧ InR .i64 x299 ∧ f294 8 = Value.int .i64 (((d).length : Nat) : Int) ∧ InR .i64 (((d).length : Nat) : Int) ∧ St wd2 wd295 [] := hI297
              obtain ⟨hf300, hf301, hf302, hf303, hf304, hr305, hf306, hr307, hS308⟩ := hI297
              refine W.seq (W.seq (W.region ?_))
              refine WL.val (Value.int .i64 (((d).length : Nat) : Int)) _ (op_move hf306) rfl ?_
              refine WL.val v_d _ (op_move hf300) rfl ?_
              have hr309 := inR_len (Ty.lift _ (Ext.trans hE7 hS308.ext) r_d)
              refine WL.val (Value.int .i64 ((d).length : Int)) _ (op_lenL sl_34 (Ty.lift _ (Ext.trans hE7 hS308.ext) r_d) rfl) rfl ?_
              refine WL.val (Value.bool (decide ((((d).length : Nat) : Int) < ((d).length : Int)))) _ (op_lss rfl rfl) rfl ?_
              have hl310 : ¬ (((d).length : Nat) : Int) < ((d).length : Int) := by omega
              refine WL.nil ?_
              refine W.condF (decide ((((d).length : Nat) : Int) < ((d).length : Int))) rfl (decide_eq_false hl310) ?_
              refine W.exit ?_
              show _ = _ ∧ _
              exact ⟨rfl, _, hs296, hf300, hf301, hf302, hf303, hf304, hr305, hS308⟩
          · rintro f311 wd312 ⟨x315, rfl, hq313⟩
            replace hb35 := onRes_fin hb35
            replace hq313 : f311 1 = v_d ∧ f311 2 = (Value.pointer (some ⟨b1, 0, none⟩)) ∧ f311 5 = (Value.int .i64 (k11 : Int)) ∧ f311 6 = (Value.int .i64 (k30 : Int)) ∧ f311 7 = Value.int .i64 x315 ∧ InR .i64 x315 ∧ St wd2 wd312 [] := hq313
            obtain ⟨hf316, hf317, hf318, hf319, hf320, hr321, hS322⟩ := hq313
            refine W.seq ?_
            obtain ⟨x352, hx355, hb35⟩ := bs hb35
            obtain ⟨ha353, hb354, hx355⟩ := idx_some hx355
            obtain ⟨u366, hc367, hr368⟩ := repSl.el r_d hx355
            obtain ⟨rfl, hr368⟩ := hr368
            obtain ⟨x390, hj391, hb35⟩ := bs hb35
            refine W.cutCode (fun fq wq => fq 1 = v_d ∧ fq 2 = (Value.pointer (some ⟨b1, 0, none⟩)) ∧ fq 5 = (Value.int .i64 (k11 : Int)) ∧ fq 6 = (Value.int .i64 (k30 : Int)) ∧ fq 62 = Value.bool x390 ∧ St wd2 wq []) ?_ ?_
            · rcases Bool.eq_false_or_eq_true (decide (x352 < (1 : Int))) with hc392 | hc392
              · replace hj391 := ip hj391 hc392
                refine W.drawR mixo 16 [] [fun _ v _ _ => v = v_d, fun _ v _ _ => v = (Value.int .i64 (k11 : Int)) ∧ InR .i64 (k11 : Int), fun _ v _ _ => v = (Value.pointer (some (elA v_d ((k11 : Int)).toNat))), fun _ v _ _ => v = (Value.int .i64 x352) ∧ InR .i64 x352, fun _ v _ _ => v = (Value.bool (decide (x352 < (1 : Int)))), fun _ v _ _ => v = (Value.bool (decide (x352 < (1 : Int)))), fun _ v _ _ => v = undef, fun _ v _ _ => v = undef, fun _ v _ _ => v = undef, fun _ v _ _ => v = undef, fun _ v _ _ => v = undef, fun _ v _ _ => v = undef, fun _ v _ _ => v = undef, fun _ v _ _ => v = undef, fun _ v _ _ => v = undef, fun _ v _ _ => v = undef] (by kernel_rfl) (by kernel_rfl) ⟨pk, pk, pk, pk, pk, pk, pk, pk, pk, pk, pk, pk, pk, pk, pk, pk, trivial⟩ ⟨?_, ?_, ?_, ?_, ?_, ?_, ?_, ?_, ?_, ?_, ?_, ?_, ?_, ?_, ?_, ?_, trivial⟩ ?_
                · refine ObX.op rfl fun f323 wd324 he325 hout326 hphi327 => ?_
                  have hS328 := St.extend hS322 he325
                  have e329 : f323 1 = v_d := (hout326 1 rfl).trans hf316
                  exact OpX.val v_d wd324 rfl (op_move e329) (Ext.refl _) rfl
                · refine ObX.op rfl fun f330 wd331 he332 hout333 hphi334 => ?_
                  have hS335 := St.extend hS322 he332
                  have e336 : f330 5 = (Value.int .i64 (k11 : Int)) := (hout333 5 rfl).trans hf318
                  exact OpX.val (Value.int .i64 (k11 : Int)) wd331 rfl (op_move e336) (Ext.refl _) ⟨rfl, hr23⟩
                · refine ObX.op rfl fun f337 wd338 he339 hout340 hphi341 => ?_
                  have hS342 := St.extend hS322 he339
                  obtain ⟨S343, hS344, hf345⟩ := hphi341 0 45 _ rfl rfl rfl
                  have e346 : f337 45 = v_d := hf345
                  obtain ⟨S347, hS348, hf349⟩ := hphi341 1 46 _ rfl rfl rfl
                  obtain ⟨e350, hr351⟩ := hf349
                  exact OpX.val (Value.pointer (some (elA v_d ((k11 : Int)).toNat))) wd338 rfl (op_idx sl_34 (Ty.lift _ (Ext.trans hE7 hS342.ext) r_d) e346 e350 ha353 hb354) (Ext.refl _) rfl
                · refine ObX.op rfl fun f356 wd357 he358 hout359 hphi360 => ?_
                  have hS361 := St.extend hS322 he358
                  obtain ⟨S362, hS363, hf364⟩ := hphi360 2 47 _ rfl rfl rfl
                  have e365 : f356 47 = (Value.pointer (some (elA v_d ((k11 : Int)).toNat))) := hf364
                  exact OpX.val (Value.int .i64 x352) wd357 rfl (op_load one_2 e365 (Ext.cell (Ext.trans hE7 hS361.ext) hc367)) (Ext.refl _) ⟨rfl, hr368⟩
                · refine ObX.op rfl fun f369 wd370 he371 hout372 hphi373 => ?_
                  have hS374 := St.extend hS322 he371
                  obtain ⟨S375, hS376, hf377⟩ := hphi373 3 48 _ rfl rfl rfl
                  obtain ⟨e378, hr379⟩ := hf377
                  exact OpX.val (Value.bool (decide (x352 < (1 : Int)))) wd370 rfl (op_lss e378 rfl) (Ext.refl _) rfl
                · refine ObX.op rfl fun f380 wd381 he382 hout383 hphi384 => ?_
                  have hS385 := St.extend hS322 he382
                  obtain ⟨S386, hS387, hf388⟩ := hphi384 4 49 _ rfl rfl rfl
                  have e389 : f380 49 = (Value.bool (decide (x352 < (1 : Int)))) := hf388
                  exact OpX.val (Value.bool (decide (x352 < (1 : Int)))) wd381 rfl (op_move e389) (Ext.refl _) rfl
                · refine ObX.op rfl fun f393 wd394 he395 hout396 hphi397 => ?_
                  obtain ⟨S398, hS399, hf400⟩ := hphi397 5 50 _ rfl rfl rfl
                  have e401 : f393 50 = (Value.bool (decide (x352 < (1 : Int)))) := hf400
                  exact OpX.skip (wanted_skip rfl rfl e401 hc392) rfl
                · refine ObX.op rfl fun f402 wd403 he404 hout405 hphi406 => ?_
                  obtain ⟨S407, hS408, hf409⟩ := hphi406 5 50 _ rfl rfl rfl
                  have e410 : f402 50 = (Value.bool (decide (x352 < (1 : Int)))) := hf409
                  exact OpX.skip (wanted_skip rfl rfl e410 hc392) rfl
                · refine ObX.op rfl fun f411 wd412 he413 hout414 hphi415 => ?_
                  obtain ⟨S416, hS417, hf418⟩ := hphi415 5 50 _ rfl rfl rfl
                  have e419 : f411 50 = (Value.bool (decide (x352 < (1 : Int)))) := hf418
                  exact OpX.skip (wanted_skip rfl rfl e419 hc392) rfl
                · refine ObX.op rfl fun f420 wd421 he422 hout423 hphi424 => ?_
                  obtain ⟨S425, hS426, hf427⟩ := hphi424 5 50 _ rfl rfl rfl
                  have e428 : f420 50 = (Value.bool (decide (x352 < (1 : Int)))) := hf427
                  exact OpX.skip (wanted_skip rfl rfl e428 hc392) rfl
                · refine ObX.op rfl fun f429 wd430 he431 hout432 hphi433 => ?_
                  obtain ⟨S434, hS435, hf436⟩ := hphi433 5 50 _ rfl rfl rfl
                  have e437 : f429 50 = (Value.bool (decide (x352 < (1 : Int)))) := hf436
                  exact OpX.skip (wanted_skip rfl rfl e437 hc392) rfl
                · refine ObX.op rfl fun f438 wd439 he440 hout441 hphi442 => ?_
                  obtain ⟨S443, hS444, hf445⟩ := hphi442 5 50 _ rfl rfl rfl
                  have e446 : f438 50 = (Value.bool (decide (x352 < (1 : Int)))) := hf445
                  exact OpX.skip (wanted_skip rfl rfl e446 hc392) rfl
                · refine ObX.op rfl fun f447 wd448 he449 hout450 hphi451 => ?_
                  obtain ⟨S452, hS453, hf454⟩ := hphi451 5 50 _ rfl rfl rfl
                  have e455 : f447 50 = (Value.bool (decide (x352 < (1 : Int)))) := hf454
                  exact OpX.skip (wanted_skip rfl rfl e455 hc392) rfl
                · refine ObX.op rfl fun f456 wd457 he458 hout459 hphi460 => ?_
                  obtain ⟨S461, hS462, hf463⟩ := hphi460 5 50 _ rfl rfl rfl
                  have e464 : f456 50 = (Value.bool (decide (x352 < (1 : Int)))) := hf463
                  exact OpX.skip (wanted_skip rfl rfl e464 hc392) rfl
                · refine ObX.op rfl fun f465 wd466 he467 hout468 hphi469 => ?_
                  obtain ⟨S470, hS471, hf472⟩ := hphi469 5 50 _ rfl rfl rfl
                  have e473 : f465 50 = (Value.bool (decide (x352 < (1 : Int)))) := hf472
                  exact OpX.skip (wanted_skip rfl rfl e473 hc392) rfl
                · refine ObX.op rfl fun f474 wd475 he476 hout477 hphi478 => ?_
                  obtain ⟨S479, hS480, hf481⟩ := hphi478 5 50 _ rfl rfl rfl
                  have e482 : f474 50 = (Value.bool (decide (x352 < (1 : Int)))) := hf481
                  exact OpX.skip (wanted_skip rfl rfl e482 hc392) rfl
                · intro f483 wd484 Ss485 he486 hout487 hSn488 hSd489 hphi490
                  show WL _ _ _ _ _ _ _
                  have hS491 := St.extend hS322 he486
                  have e492 : f483 50 = (Value.bool (decide (x352 < (1 : Int)))) := hphi490 5 50 _ (by decide) rfl rfl
                  have e503 : f483 1 = v_d := (hout487 1 rfl).trans hf316
                  have e504 : f483 2 = (Value.pointer (some ⟨b1, 0, none⟩)) := (hout487 2 rfl).trans hf317
                  have e505 : f483 5 = (Value.int .i64 (k11 : Int)) := (hout487 5 rfl).trans hf318
                  have e506 : f483 6 = (Value.int .i64 (k30 : Int)) := (hout487 6 rfl).trans hf319
                  refine WL.gskip rfl (bool_of e492 hc392) rfl ?_
                  refine WL.val (Value.bool true) _ (op_pick_t (evb_of e492 hc392) rfl) rfl ?_
                  refine WL.nil ?_
                  obtain rfl := Option.some.inj hj391
                  exact ⟨e503, e504, e505, e506, rfl, hS491⟩
              · replace hj391 := inegb hj391 hc392
                obtain ⟨u573, hc574, hr575⟩ := repSl.el r_d hx355
                obtain ⟨rfl, hr575⟩ := hr575
                obtain ⟨x617, hx620, hj391⟩ := bs hj391
                obtain ⟨ha618, hb619, hx620⟩ := idx_some hx620
                obtain ⟨u635, hc636, hr637⟩ := repSl.el r_d hx620
                obtain ⟨rfl, hr637⟩ := hr637
                refine W.drawR mixo 16 [] [fun _ v _ _ => v = v_d, fun _ v _ _ => v = (Value.int .i64 (k11 : Int)) ∧ InR .i64 (k11 : Int), fun _ v _ _ => v = (Value.pointer (some (elA v_d ((k11 : Int)).toNat))), fun _ v _ _ => v = (Value.int .i64 x352) ∧ InR .i64 x352, fun _ v _ _ => v = (Value.bool (decide (x352 < (1 : Int)))), fun _ v _ _ => v = (Value.bool (decide (x352 < (1 : Int)))), fun _ v _ _ => v = (Value.int .i64 x315) ∧ InR .i64 x315, fun _ v _ _ => v = v_d, fun _ v _ _ => v = (Value.int .i64 (k11 : Int)) ∧ InR .i64 (k11 : Int), fun _ v _ _ => v = (Value.pointer (some (elA v_d ((k11 : Int)).toNat))), fun _ v _ _ => v = (Value.int .i64 x352) ∧ InR .i64 x352, fun _ v _ _ => v = v_d, fun _ v _ _ => v = (Value.int .i64 (k30 : Int)) ∧ InR .i64 (k30 : Int), fun _ v _ _ => v = (Value.pointer (some (elA v_d ((k30 : Int)).toNat))), fun _ v _ _ => v = (Value.int .i64 x617) ∧ InR .i64 x617, fun _ v _ _ => v = (Value.int .i64 (w64 (x352 * x617))) ∧ InR .i64 (w64 (x352 * x617))] (by kernel_rfl) (by kernel_rfl) ⟨pk, pk, pk, pk, pk, pk, pk, pk, pk, pk, pk, pk, pk, pk, pk, pk, trivial⟩ ⟨?_, ?_, ?_, ?_, ?_, ?_, ?_, ?_, ?_, ?_, ?_, ?_, ?_, ?_, ?_, ?_, trivial⟩ ?_
                · refine ObX.op rfl fun f323 wd324 he325 hout326 hphi327 => ?_
                  have hS328 := St.extend hS322 he325
                  have e329 : f323 1 = v_d := (hout326 1 rfl).trans hf316
                  exact OpX.val v_d wd324 rfl (op_move e329) (Ext.refl _) rfl
                · refine ObX.op rfl fun f330 wd331 he332 hout333 hphi334 => ?_
                  have hS335 := St.extend hS322 he332
                  have e336 : f330 5 = (Value.int .i64 (k11 : Int)) := (hout333 5 rfl).trans hf318
                  exact OpX.val (Value.int .i64 (k11 : Int)) wd331 rfl (op_move e336) (Ext.refl _) ⟨rfl, hr23⟩
                · refine ObX.op rfl fun f337 wd338 he339 hout340 hphi341 => ?_
                  have hS342 := St.extend hS322 he339
                  obtain ⟨S343, hS344, hf345⟩ := hphi341 0 45 _ rfl rfl rfl
                  have e346 : f337 45 = v_d := hf345
                  obtain ⟨S347, hS348, hf349⟩ := hphi341 1 46 _ rfl rfl rfl
                  obtain ⟨e350, hr351⟩ := hf349
                  exact OpX.val (Value.pointer (some (elA v_d ((k11 : Int)).toNat))) wd338 rfl (op_idx sl_34 (Ty.lift _ (Ext.trans hE7 hS342.ext) r_d) e346 e350 ha353 hb354) (Ext.refl _) rfl
                · refine ObX.op rfl fun f356 wd357 he358 hout359 hphi360 => ?_
                  have hS361 := St.extend hS322 he358
                  obtain ⟨S362, hS363, hf364⟩ := hphi360 2 47 _ rfl rfl rfl
                  have e365 : f356 47 = (Value.pointer (some (elA v_d ((k11 : Int)).toNat))) := hf364
                  exact OpX.val (Value.int .i64 x352) wd357 rfl (op_load one_2 e365 (Ext.cell (Ext.trans hE7 hS361.ext) hc367)) (Ext.refl _) ⟨rfl, hr368⟩
                · refine ObX.op rfl fun f369 wd370 he371 hout372 hphi373 => ?_
                  have hS374 := St.extend hS322 he371
                  obtain ⟨S375, hS376, hf377⟩ := hphi373 3 48 _ rfl rfl rfl
                  obtain ⟨e378, hr379⟩ := hf377
                  exact OpX.val (Value.bool (decide (x352 < (1 : Int)))) wd370 rfl (op_lss e378 rfl) (Ext.refl _) rfl
                · refine ObX.op rfl fun f380 wd381 he382 hout383 hphi384 => ?_
                  have hS385 := St.extend hS322 he382
                  obtain ⟨S386, hS387, hf388⟩ := hphi384 4 49 _ rfl rfl rfl
                  have e389 : f380 49 = (Value.bool (decide (x352 < (1 : Int)))) := hf388
                  exact OpX.val (Value.bool (decide (x352 < (1 : Int)))) wd381 rfl (op_move e389) (Ext.refl _) rfl
                · refine ObX.op rfl fun f507 wd508 he509 hout510 hphi511 => ?_
                  have e513 : f507 7 = (Value.int .i64 x315) := (hout510 7 rfl).trans hf320
                  obtain ⟨S514, hS515, hf516⟩ := hphi511 5 50 _ rfl rfl rfl
                  have e517 : f507 50 = (Value.bool (decide (x352 < (1 : Int)))) := hf516
                  exact OpX.val (Value.int .i64 x315) wd508 (wanted_run rfl rfl e517 hc392) (op_move e513) (Ext.refl _) ⟨rfl, hr321⟩
                · refine ObX.op rfl fun f518 wd519 he520 hout521 hphi522 => ?_
                  have e524 : f518 1 = v_d := (hout521 1 rfl).trans hf316
                  obtain ⟨S525, hS526, hf527⟩ := hphi522 5 50 _ rfl rfl rfl
                  have e528 : f518 50 = (Value.bool (decide (x352 < (1 : Int)))) := hf527
                  exact OpX.val v_d wd519 (wanted_run rfl rfl e528 hc392) (op_move e524) (Ext.refl _) rfl
                · refine ObX.op rfl fun f529 wd530 he531 hout532 hphi533 => ?_
                  have e535 : f529 5 = (Value.int .i64 (k11 : Int)) := (hout532 5 rfl).trans hf318
                  obtain ⟨S536, hS537, hf538⟩ := hphi533 5 50 _ rfl rfl rfl
                  have e539 : f529 50 = (Value.bool (decide (x352 < (1 : Int)))) := hf538
                  exact OpX.val (Value.int .i64 (k11 : Int)) wd530 (wanted_run rfl rfl e539 hc392) (op_move e535) (Ext.refl _) ⟨rfl, hr23⟩
                · refine ObX.op rfl fun f540 wd541 he542 hout543 hphi544 => ?_
                  have hS545 := St.extend hS322 he542
                  obtain ⟨S546, hS547, hf548⟩ := hphi544 5 50 _ rfl rfl rfl
                  have e549 : f540 50 = (Value.bool (decide (x352 < (1 : Int)))) := hf548
                  obtain ⟨S550, hS551, hf552⟩ := hphi544 7 52 _ rfl rfl rfl
                  have e553 : f540 52 = v_d := hf552
                  obtain ⟨S554, hS555, hf556⟩ := hphi544 8 53 _ rfl rfl rfl
                  obtain ⟨e557, hr558⟩ := hf556
                  exact OpX.val (Value.pointer (some (elA v_d ((k11 : Int)).toNat))) wd541 (wanted_run rfl rfl e549 hc392) (op_idx sl_34 (Ty.lift _ (Ext.trans hE7 hS545.ext) r_d) e553 e557 ha353 hb354) (Ext.refl _) rfl
                · refine ObX.op rfl fun f559 wd560 he561 hout562 hphi563 => ?_
                  have hS564 := St.extend hS322 he561
                  obtain ⟨S565, hS566, hf567⟩ := hphi563 5 50 _ rfl rfl rfl
                  have e568 : f559 50 = (Value.bool (decide (x352 < (1 : Int)))) := hf567
                  obtain ⟨S569, hS570, hf571⟩ := hphi563 9 54 _ rfl rfl rfl
                  have e572 : f559 54 = (Value.pointer (some (elA v_d ((k11 : Int)).toNat))) := hf571
                  exact OpX.val (Value.int .i64 x352) wd560 (wanted_run rfl rfl e568 hc392) (op_load one_2 e572 (Ext.cell (Ext.trans hE7 hS564.ext) hc574)) (Ext.refl _) ⟨rfl, hr575⟩
                · refine ObX.op rfl fun f576 wd577 he578 hout579 hphi580 => ?_
                  have e582 : f576 1 = v_d := (hout579 1 rfl).trans hf316
                  obtain ⟨S583, hS584, hf585⟩ := hphi580 5 50 _ rfl rfl rfl
                  have e586 : f576 50 = (Value.bool (decide (x352 < (1 : Int)))) := hf585
                  exact OpX.val v_d wd577 (wanted_run rfl rfl e586 hc392) (op_move e582) (Ext.refl _) rfl
                · refine ObX.op rfl fun f587 wd588 he589 hout590 hphi591 => ?_
                  have e593 : f587 6 = (Value.int .i64 (k30 : Int)) := (hout590 6 rfl).trans hf319
                  obtain ⟨S594, hS595, hf596⟩ := hphi591 5 50 _ rfl rfl rfl
                  have e597 : f587 50 = (Value.bool (decide (x352 < (1 : Int)))) := hf596
                  exact OpX.val (Value.int .i64 (k30 : Int)) wd588 (wanted_run rfl rfl e597 hc392) (op_move e593) (Ext.refl _) ⟨rfl, hr43⟩
                · refine ObX.op rfl fun f598 wd599 he600 hout601 hphi602 => ?_
                  have hS603 := St.extend hS322 he600
                  obtain ⟨S604, hS605, hf606⟩ := hphi602 5 50 _ rfl rfl rfl
                  have e607 : f598 50 = (Value.bool (decide (x352 < (1 : Int)))) := hf606
                  obtain ⟨S608, hS609, hf610⟩ := hphi602 11 56 _ rfl rfl rfl
                  have e611 : f598 56 = v_d := hf610
                  obtain ⟨S612, hS613, hf614⟩ := hphi602 12 57 _ rfl rfl rfl
                  obtain ⟨e615, hr616⟩ := hf614
                  exact OpX.val (Value.pointer (some (elA v_d ((k30 : Int)).toNat))) wd599 (wanted_run rfl rfl e607 hc392) (op_idx sl_34 (Ty.lift _ (Ext.trans hE7 hS603.ext) r_d) e611 e615 ha618 hb619) (Ext.refl _) rfl
                · refine ObX.op rfl fun f621 wd622 he623 hout624 hphi625 => ?_
                  have hS626 := St.extend hS322 he623
                  obtain ⟨S627, hS628, hf629⟩ := hphi625 5 50 _ rfl rfl rfl
                  have e630 : f621 50 = (Value.bool (decide (x352 < (1 : Int)))) := hf629
                  obtain ⟨S631, hS632, hf633⟩ := hphi625 13 58 _ rfl rfl rfl
                  have e634 : f621 58 = (Value.pointer (some (elA v_d ((k30 : Int)).toNat))) := hf633
                  exact OpX.val (Value.int .i64 x617) wd622 (wanted_run rfl rfl e630 hc392) (op_load one_2 e634 (Ext.cell (Ext.trans hE7 hS626.ext) hc636)) (Ext.refl _) ⟨rfl, hr637⟩
                · refine ObX.op rfl fun f638 wd639 he640 hout641 hphi642 => ?_
                  obtain ⟨S644, hS645, hf646⟩ := hphi642 5 50 _ rfl rfl rfl
                  have e647 : f638 50 = (Value.bool (decide (x352 < (1 : Int)))) := hf646
                  obtain ⟨S648, hS649, hf650⟩ := hphi642 10 55 _ rfl rfl rfl
                  obtain ⟨e651, hr652⟩ := hf650
                  obtain ⟨S653, hS654, hf655⟩ := hphi642 14 59 _ rfl rfl rfl
                  obtain ⟨e656, hr657⟩ := hf655
                  exact OpX.val (Value.int .i64 (w64 (x352 * x617))) wd639 (wanted_run rfl rfl e647 hc392) (op_mul e651 e656) (Ext.refl _) ⟨rfl, (inR_wrap _ _)⟩
                · intro f658 wd659 Ss660 he661 hout662 hSn663 hSd664 hphi665
                  show WL _ _ _ _ _ _ _
                  have hS666 := St.extend hS322 he661
                  have e667 : f658 50 = (Value.bool (decide (x352 < (1 : Int)))) := hphi665 5 50 _ (by decide) rfl rfl
                  obtain ⟨e668, hr669⟩ := hphi665 6 51 _ (by decide) rfl rfl
                  obtain ⟨e671, hr672⟩ := hphi665 8 53 _ (by decide) rfl rfl
                  obtain ⟨e674, hr675⟩ := hphi665 10 55 _ (by decide) rfl rfl
                  obtain ⟨e677, hr678⟩ := hphi665 12 57 _ (by decide) rfl rfl
                  obtain ⟨e680, hr681⟩ := hphi665 14 59 _ (by decide) rfl rfl
                  obtain ⟨e682, hr683⟩ := hphi665 15 60 _ (by decide) rfl rfl
                  have e684 : f658 1 = v_d := (hout662 1 rfl).trans hf316
                  have e685 : f658 2 = (Value.pointer (some ⟨b1, 0, none⟩)) := (hout662 2 rfl).trans hf317
                  have e686 : f658 5 = (Value.int .i64 (k11 : Int)) := (hout662 5 rfl).trans hf318
                  have e687 : f658 6 = (Value.int .i64 (k30 : Int)) := (hout662 6 rfl).trans hf319
                  refine WL.grun rfl (bool_of e667 hc392) ?_
                  refine WL.val (Value.bool (x315 != (w64 (x352 * x617)))) _ (op_neq e668 e682) rfl ?_
                  refine WL.val (Value.bool (x315 != (w64 (x352 * x617)))) _ (op_pick_f (evb_of e667 hc392) rfl) rfl ?_
                  refine WL.nil ?_
                  obtain rfl := Option.some.inj hj391
                  exact ⟨e684, e685, e686, e687, rfl, hS666⟩
            · intro f688 wd689 hq690
              obtain ⟨hf691, hf692, hf693, hf694, hf695, hS696⟩ := hq690
              refine W.cond x390 hf695 (fun hc697 => ?_) (fun hc697 => ?_)
              · replace hb35 := ip hb35 hc697
                refine W.seq (W.region ?_)
                refine WL.val (Value.bool false) _ (op_assign rfl) rfl ?_
                refine WL.nil ?_
                refine W.ret ?_
                obtain rfl := Option.some.inj hb35
                obtain rfl := hret38 _ rfl
                replace hb16 := onRes_ret hb16
                obtain rfl := Option.some.inj hb16
                obtain rfl := hret19 _ rfl
                replace h := onRes_ret h
                obtain rfl := Option.some.inj h
                show FinP _ _ _ _ _ _ _
                exact FinP.ret _ (res1 rfl rfl) ⟨rfl, (Ext.trans hE7 hS696.ext)⟩
              · replace hb35 := inegb hb35 hc697
                refine W.skip ?_
                show W _ _ _ _ _ _
                refine W.region ?_
                refine WL.val (Value.int .i64 (k30 : Int)) _ (op_move hf694) rfl ?_
                refine WL.val (Value.int .i64 (w64 ((k30 : Int) + (1 : Int)))) _ (op_add rfl rfl) rfl ?_
                refine WL.val (Value.int .i64 (w64 ((k30 : Int) + (1 : Int)))) _ (op_assign rfl) rfl ?_
                refine WL.nil ?_
                obtain rfl := Option.some.inj hb35
                show ∃ s, _ = Ctl.next s ∧ _
                exact ⟨_, rfl, hf691, hf692, hf693, (ctr_next hl46 hr45), (ctr_rng hl46 hr45), hS696⟩
        · intro s705 f701 wd702 hs703 hI704
          obtain ⟨⟩ := s705
          replace hI704 : f701 1 = v_d ∧ f701 2 = (Value.pointer (some ⟨b1, 0, none⟩)) ∧ f701 5 = (Value.int .i64 (k11 : Int)) ∧ f701 6 = Value.int .i64 (((d).length : Nat) : Int) ∧ InR .i64 (((d).length : Nat) : Int) ∧ St wd2 wd702 [] := hI704
          obtain ⟨hf706, hf707, hf708, hf709, hr710, hS711⟩ := hI704
          refine W.seq (W.seq (W.region ?_))
          refine WL.val (Value.int .i64 (((d).length : Nat) : Int)) _ (op_move hf709) rfl ?_
          refine WL.val v_d _ (op_move hf706) rfl ?_
          have hr712 := inR_len (Ty.lift _ (Ext.trans hE7 hS711.ext) r_d)
          refine WL.val (Value.int .i64 ((d).length : Int)) _ (op_lenL sl_34 (Ty.lift _ (Ext.trans hE7 hS711.ext) r_d) rfl) rfl ?_
          refine WL.val (Value.bool (decide ((((d).length : Nat) : Int) < ((d).length : Int)))) _ (op_lss rfl rfl) rfl ?_
          have hl713 : ¬ (((d).length : Nat) : Int) < ((d).length : Int) := by omega
          refine WL.nil ?_
          refine W.condF (decide ((((d).length : Nat) : Int) < ((d).length : Int))) rfl (decide_eq_false hl713) ?_
          refine W.exit ?_
          show _ = _ ∧ _
          exact ⟨rfl, _, hs703, hf706, hf707, hf708, hS711⟩
      · rintro f714 wd715 ⟨s717, rfl, hq716⟩
        replace hb16 := onRes_fin hb16
        obtain ⟨⟩ := s717
        replace hq716 : f714 1 = v_d ∧ f714 2 = (Value.pointer (some ⟨b1, 0, none⟩)) ∧ f714 5 = (Value.int .i64 (k11 : Int)) ∧ St wd2 wd715 [] := hq716
        obtain ⟨hf718, hf719, hf720, hS721⟩ := hq716
        show W _ _ _ _ _ _
        refine W.region ?_
        refine WL.val (Value.int .i64 (k11 : Int)) _ (op_move hf720) rfl ?_
        refine WL.val (Value.int .i64 (w64 ((k11 : Int) + (1 : Int)))) _ (op_add rfl rfl) rfl ?_
        refine WL.val (Value.int .i64 (w64 ((k11 : Int) + (1 : Int)))) _ (op_assign rfl) rfl ?_
        refine WL.nil ?_
        obtain rfl := Option.some.inj hb16
        show ∃ s, _ = Ctl.next s ∧ _
        exact ⟨_, rfl, hf718, hf719, (ctr_next hl26 hr25), (ctr_rng hl26 hr25), hS721⟩
    · intro s728 f724 wd725 hs726 hI727
      obtain ⟨⟩ := s728
      replace hI727 : f724 1 = v_d ∧ f724 2 = (Value.pointer (some ⟨b1, 0, none⟩)) ∧ f724 5 = Value.int .i64 (((d).length : Nat) : Int) ∧ InR .i64 (((d).length : Nat) : Int) ∧ St wd2 wd725 [] := hI727
      obtain ⟨hf729, hf730, hf731, hr732, hS733⟩ := hI727
      refine W.seq (W.seq (W.region ?_))
      refine WL.val (Value.int .i64 (((d).length : Nat) : Int)) _ (op_move hf731) rfl ?_
      refine WL.val v_d _ (op_move hf729) rfl ?_
      have hr734 := inR_len (Ty.lift _ (Ext.trans hE7 hS733.ext) r_d)
      refine WL.val (Value.int .i64 ((d).length : Int)) _ (op_lenL sl_34 (Ty.lift _ (Ext.trans hE7 hS733.ext) r_d) rfl) rfl ?_
      refine WL.val (Value.bool (decide ((((d).length : Nat) : Int) < ((d).length : Int)))) _ (op_lss rfl rfl) rfl ?_
      have hl735 : ¬ (((d).length : Nat) : Int) < ((d).length : Int) := by omega
      refine WL.nil ?_
      refine W.condF (decide ((((d).length : Nat) : Int) < ((d).length : Int))) rfl (decide_eq_false hl735) ?_
      refine W.exit ?_
      show _ = _ ∧ _
      exact ⟨rfl, _, hs726, hS733⟩
  · rintro f736 wd737 ⟨s739, rfl, hq738⟩
    replace h := onRes_fin h
    obtain ⟨⟩ := s739
    replace hq738 : St wd2 wd737 [] := hq738
    have hS740 := hq738
    refine W.seq (W.region ?_)
    refine WL.val (Value.bool true) _ (op_assign rfl) rfl ?_
    refine WL.nil ?_
    refine W.ret ?_
    obtain rfl := Option.some.inj h
    show FinP _ _ _ _ _ _ _
    exact FinP.ret _ (res1 rfl rfl) ⟨rfl, (Ext.trans hE7 hS740.ext)⟩

theorem c_spec_l04Integers {w : World} {r_Table : (List (List (List Int)))} {v_r_Table : Value} (r_r_Table : (Ty.sl (Ty.sl (Ty.sl (Ty.i .i64)))).rep w v_r_Table r_Table) {res : (List Int) × Bool} (h : p_spec_l04Integers r_Table  = some res) :
    Ret Try.prog 25 #[(Value.agg #[v_r_Table])] w (fun v w' => ∃ (u0 : Value), v = (Value.tuple #[u0, Value.bool res.2]) ∧ Ext w w' ∧ Sep w.heap.size w' [(Ty.sl (Ty.i .i64)).at u0 res.1]) := by
  unfold p_spec_l04Integers at h
  have hS0 : St w w [] := St.start w
  refine Ret.start (fn := Try.f25) Try.func25 rfl 87 rfl rfl ?_
  refine W.seq (W.region ?_)
  refine WL.box hS0 rfl (cs := [v_r_Table]) rfl rfl ?_
  intro b1 wd2 hS3 he4 hx5
  replace hS3 : St w wd2 [bx b1 [v_r_Table]] := hS3
  have hx6 := St.boxAt hS3 0 rfl
  have hE7 : Ext w wd2 := hS3.ext
  have hS8 : St wd2 wd2 [] := St.start wd2
  refine WL.val (Value.slice none 0 0) _ (op_assign rfl) rfl ?_
  refine WL.val (Value.bool false) _ (op_assign rfl) rfl ?_
  refine WL.nil ?_
  refine W.seq (W.region ?_)
  refine WL.lit0 (t := (Ty.i .i64)) hS8 sl_34 rfl rfl ?_
  intro u9 wd10 hS11 he12
  replace hS11 : St wd2 wd10 [(Ty.sl (Ty.i .i64)).at u9 ([] : (List Int))] := hS11
  refine WL.val u9 _ (op_assign rfl) rfl ?_
  refine WL.nil ?_
  refine W.seq (W.seq (W.region ?_))
  refine WL.val (Value.int .i64 (0 : Int)) _ (op_assign rfl) rfl ?_
  refine WL.nil ?_
  show W _ _ _ _ _ _
  obtain ⟨res13, hres14, h⟩ := bs h
  refine W.blockLoop (fun fq wq => ∃ s, res13 = Res.fin s ∧ ∃ (uu0 : Value), fq 1 = (Value.pointer (some ⟨b1, 0, none⟩)) ∧ fq 4 = uu0 ∧ St wd2 wq [(Ty.sl (Ty.i .i64)).at uu0 s]) ?_ ?_
  · refine W.forN (fun k (s : (List Int)) fq wq => ∃ (uu0 : Value), fq 1 = (Value.pointer (some ⟨b1, 0, none⟩)) ∧ fq 4 = uu0 ∧ fq 5 = Value.int .i64 (k : Int) ∧ InR .i64 (k : Int) ∧ St wd2 wq [(Ty.sl (Ty.i .i64)).at uu0 s]) hres14 ⟨u9, rfl, rfl, rfl, (inL rfl), hS11⟩ ?_ ?_
    · intro k15 x16 ct17 f18 wd19 hk20 hb21 hI22 hbrk23 hret24
      replace hI22 : ∃ (uu0 : Value), f18 1 = (Value.pointer (some ⟨b1, 0, none⟩)) ∧ f18 4 = uu0 ∧ f18 5 = Value.int .i64 (k15 : Int) ∧ InR .i64 (k15 : Int) ∧ St wd2 wd19 [(Ty.sl (Ty.i .i64)).at uu0 x16] := hI22
      replace hb21 : p_spec_l04Integers_L1  k15 x16 = some ct17 := hb21
      unfold p_spec_l04Integers_L1 at hb21
      obtain ⟨u25, hf26, hf27, hf28, hr29, hS30⟩ := hI22
      refine W.seq (W.seq (W.region ?_))
      refine WL.val (Value.int .i64 (k15 : Int)) _ (op_move hf28) rfl ?_
      refine WL.val (Value.pointer (some ⟨b1, 0, none⟩)) _ (op_fieldAddr fd_28_0 hf26) rfl ?_
      refine WL.val v_r_Table _ (op_load one_22 rfl (BoxAt.cell (BoxAt.lift hS30.ext hx6) rfl)) rfl ?_
      have hr31 := inR_len (Ty.lift _ (Ext.trans hE7 hS30.ext) r_r_Table)
      refine WL.val (Value.int .i64 ((r_Table).length : Int)) _ (op_lenL sl_22 (Ty.lift _ (Ext.trans hE7 hS30.ext) r_r_Table) rfl) rfl ?_
      refine WL.val (Value.bool (decide ((k15 : Int) < ((r_Table).length : Int)))) _ (op_lss rfl rfl) rfl ?_
      have hl32 : (k15 : Int) < ((r_Table).length : Int) := by omega
      refine WL.nil ?_
      refine W.condT (decide ((k15 : Int) < ((r_Table).length : Int))) rfl (decide_eq_true hl32) ?_
      refine W.skip ?_
      refine W.seq ?_
      refine W.block ?_
      refine W.region ?_
      refine WL.val u25 _ (op_move hf27) rfl ?_
      refine WL.litFlat (t := (Ty.i .i64)) (flat_i .i64) [(Value.int .i64 (1000000 : Int))] [(1000000 : Int)] hS30 sl_34 rfl rfl (fillL rfl ⟨rfl, rfl, rfl, trivial⟩) rfl rfl (litL ⟨⟨rfl, (inL rfl)⟩, trivial⟩) rfl ?_
      intro u34 wd35 hS36 he37
      replace hS36 : St wd2 wd35 [(Ty.sl (Ty.i .i64)).at u25 x16, (Ty.sl (Ty.i .i64)).at u34 ([(1000000 : Int)] : (List Int))] := hS36
      obtain ⟨x38, hx39, hb21⟩ := bs hb21
      refine WL.append (flat_i .i64) hS36 (k := 0) rfl sl_34 rfl rfl rfl rfl (St.rep (t := (Ty.sl (Ty.i .i64))) hS36 1 rfl) hx39 rfl ?_
      intro u40 wd41 hS42 hz43
      replace hS42 : St wd2 wd41 [(Ty.sl (Ty.i .i64)).at u40 x38, (Ty.sl (Ty.i .i64)).at u34 ([(1000000 : Int)] : (List Int))] := hS42
      refine WL.val u40 _ (op_assign rfl) rfl ?_
      refine WL.nil ?_
      show W _ _ _ _ _ _
      refine W.region ?_
      refine WL.val (Value.int .i64 (k15 : Int)) _ (op_move hf28) rfl ?_
      refine WL.val (Value.int .i64 (w64 ((k15 : Int) + (1 : Int)))) _ (op_add rfl rfl) rfl ?_
      refine WL.val (Value.int .i64 (w64 ((k15 : Int) + (1 : Int)))) _ (op_assign rfl) rfl ?_
      refine WL.nil ?_
      obtain rfl := Option.some.inj hb21
      show ∃ s, _ = Ctl.next s ∧ _
      exact ⟨_, rfl, u40, hf26, rfl, (ctr_next hl32 hr31), (ctr_rng hl32 hr31), (St.pick hS42 [0] rfl)⟩
    · intro x50 f45 wd46 hs47 hI48
      replace hI48 : ∃ (uu0 : Value), f45 1 = (Value.pointer (some ⟨b1, 0, none⟩)) ∧ f45 4 = uu0 ∧ f45 5 = Value.int .i64 (((r_Table).length : Nat) : Int) ∧ InR .i64 (((r_Table).length : Nat) : Int) ∧ St wd2 wd46 [(Ty.sl (Ty.i .i64)).at uu0 x50] := hI48
      obtain ⟨u51, hf52, hf53, hf54, hr55, hS56⟩ := hI48
      refine W.seq (W.seq (W.region ?_))
      refine WL.val (Value.int .i64 (((r_Table).length : Nat) : Int)) _ (op_move hf54) rfl ?_
      refine WL.val (Value.pointer (some ⟨b1, 0, none⟩)) _ (op_fieldAddr fd_28_0 hf52) rfl ?_
      refine WL.val v_r_Table _ (op_load one_22 rfl (BoxAt.cell (BoxAt.lift hS56.ext hx6) rfl)) rfl ?_
      have hr57 := inR_len (Ty.lift _ (Ext.trans hE7 hS56.ext) r_r_Table)
      refine WL.val (Value.int .i64 ((r_Table).length : Int)) _ (op_lenL sl_22 (Ty.lift _ (Ext.trans hE7 hS56.ext) r_r_Table) rfl) rfl ?_
      refine WL.val (Value.bool (decide ((((r_Table).length : Nat) : Int) < ((r_Table).length : Int)))) _ (op_lss rfl rfl) rfl ?_
      have hl58 : ¬ (((r_Table).length : Nat) : Int) < ((r_Table).length : Int) := by omega
      refine WL.nil ?_
      refine W.condF (decide ((((r_Table).length : Nat) : Int) < ((r_Table).length : Int))) rfl (decide_eq_false hl58) ?_
      refine W.exit ?_
      show _ = _ ∧ _
      exact ⟨rfl, _, hs47, u51, hf52, hf53, hS56⟩
  · rintro f59 wd60 ⟨x63, rfl, hq61⟩
    replace h := onRes_fin h
    replace hq61 : ∃ (uu0 : Value), f59 1 = (Value.pointer (some ⟨b1, 0, none⟩)) ∧ f59 4 = uu0 ∧ St wd2 wd60 [(Ty.sl (Ty.i .i64)).at uu0 x63] := hq61
    obtain ⟨u64, hf65, hf66, hS67⟩ := hq61
    refine W.seq (W.seq (W.region ?_))
    refine WL.val (Value.int .i64 (0 : Int)) _ (op_assign rfl) rfl ?_
    refine WL.nil ?_
    show W _ _ _ _ _ _
    obtain ⟨res68, hres69, h⟩ := bs h
    refine W.blockLoop (fun fq wq => ∃ s, res68 = Res.fin s ∧ ∃ (uu0 : Value), fq 1 = (Value.pointer (some ⟨b1, 0, none⟩)) ∧ fq 4 = uu0 ∧ St wd2 wq [(Ty.sl (Ty.i .i64)).at uu0 s]) ?_ ?_
    · refine W.forN (fun k (s : (List Int)) fq wq => ∃ (uu0 : Value), fq 1 = (Value.pointer (some ⟨b1, 0, none⟩)) ∧ fq 4 = uu0 ∧ fq 6 = Value.int .i64 (k : Int) ∧ InR .i64 (k : Int) ∧ St wd2 wq [(Ty.sl (Ty.i .i64)).at uu0 s]) hres69 ⟨u64, hf65, hf66, rfl, (inL rfl), hS67⟩ ?_ ?_
      · intro k70 x71 ct72 f73 wd74 hk75 hb76 hI77 hbrk78 hret79
        replace hI77 : ∃ (uu0 : Value), f73 1 = (Value.pointer (some ⟨b1, 0, none⟩)) ∧ f73 4 = uu0 ∧ f73 6 = Value.int .i64 (k70 : Int) ∧ InR .i64 (k70 : Int) ∧ St wd2 wd74 [(Ty.sl (Ty.i .i64)).at uu0 x71] := hI77
        replace hb76 : p_spec_l04Integers_L2 r_Table k70 x71 = some ct72 := hb76
        unfold p_spec_l04Integers_L2 at hb76
        obtain ⟨u80, hf81, hf82, hf83, hr84, hS85⟩ := hI77
        refine W.seq (W.seq (W.region ?_))
        refine WL.val (Value.int .i64 (k70 : Int)) _ (op_move hf83) rfl ?_
        refine WL.val (Value.bool (decide ((k70 : Int) < (400 : Int)))) _ (op_lss rfl rfl) rfl ?_
        have hl86 : (k70 : Int) < (400 : Int) := by omega
        refine WL.nil ?_
        refine W.condT (decide ((k70 : Int) < (400 : Int))) rfl (decide_eq_true hl86) ?_
        refine W.skip ?_
        refine W.seq ?_
        refine W.block ?_
        refine W.seq (W.region ?_)
        refine WL.val (Value.agg #[v_r_Table]) _ (op_loadBox st_28 hf81 (BoxAt.lift hS85.ext hx6) rfl rfl) rfl ?_
        refine WL.val u80 _ (op_move hf82) rfl ?_
        obtain ⟨x88, hx89, hb76⟩ := bs hb76
        refine WL.call _ (op_call fn_37 (args2 rfl rfl)) (c_spec_l04Next (Ty.lift _ (Ext.trans hE7 hS85.ext) r_r_Table) (St.rep (t := (Ty.sl (Ty.i .i64))) hS85 0 rfl) hx89) rfl ?_
        rintro u90 wd91 ⟨_, rfl, he92, hs93⟩
        have hS94 := St.join hS85 he92 hs93
        replace hS94 : St wd2 wd91 [(Ty.sl (Ty.i .i64)).at u80 x71, (Ty.sl (Ty.i .i64)).at u90 x88] := hS94
        refine WL.val u90 _ (op_assign rfl) rfl ?_
        refine WL.nil ?_
        refine W.seq (W.region ?_)
        refine WL.val u90 _ (op_move rfl) rfl ?_
        obtain ⟨x95, hx98, hb76⟩ := bs hb76
        obtain ⟨ha96, hb97, hx98⟩ := idx_some hx98
        refine WL.val (Value.pointer (some (elA u90 ((0 : Int)).toNat))) _ (op_idx sl_34 (St.rep (t := (Ty.sl (Ty.i .i64))) hS94 1 rfl) rfl rfl ha96 hb97) rfl ?_
        obtain ⟨u99, hc100, hr101⟩ := repSl.el (St.rep (t := (Ty.sl (Ty.i .i64))) hS94 1 rfl) hx98
        obtain ⟨rfl, hr101⟩ := hr101
        refine WL.val (Value.int .i64 x95) _ (op_load one_2 rfl hc100) rfl ?_
        refine WL.val (Value.int .i64 x95) _ (op_assign rfl) rfl ?_
        refine WL.nil ?_
        refine W.seq (W.region ?_)
        refine WL.val (Value.int .i64 (0 : Int)) _ (op_assign rfl) rfl ?_
        refine WL.nil ?_
        show W _ _ _ _ _ _
        obtain ⟨res102, hres103, hb76⟩ := bs hb76
        refine W.blockLoop (fun fq wq => ∃ s, res102 = Res.fin s ∧ fq 1 = (Value.pointer (some ⟨b1, 0, none⟩)) ∧ fq 4 = u90 ∧ fq 6 = (Value.int .i64 (k70 : Int)) ∧ (s).length = (x88).length ∧ St wd2 wq [(Ty.sl (Ty.i .i64)).at u90 s]) ?_ ?_
        · refine W.forN (fun k (s : (List Int)) fq wq => fq 1 = (Value.pointer (some ⟨b1, 0, none⟩)) ∧ fq 4 = u90 ∧ fq 6 = (Value.int .i64 (k70 : Int)) ∧ fq 7 = (Value.int .i64 x95) ∧ fq 8 = Value.int .i64 (k : Int) ∧ InR .i64 (k : Int) ∧ (s).length = (x88).length ∧ St wd2 wq [(Ty.sl (Ty.i .i64)).at u90 s]) hres103 ⟨hf81, rfl, hf83, rfl, rfl, (inL rfl), rfl, (St.pick hS94 [1] rfl)⟩ ?_ ?_
          · intro k104 x105 ct106 f107 wd108 hk109 hb110 hI111 hbrk112 hret113
            replace hI111 : f107 1 = (Value.pointer (some ⟨b1, 0, none⟩)) ∧ f107 4 = u90 ∧ f107 6 = (Value.int .i64 (k70 : Int)) ∧ f107 7 = (Value.int .i64 x95) ∧ f107 8 = Value.int .i64 (k104 : Int) ∧ InR .i64 (k104 : Int) ∧ (x105).length = (x88).length ∧ St wd2 wd108 [(Ty.sl (Ty.i .i64)).at u90 x105] := hI111
            replace hb110 : p_spec_l04Integers_L3 x95 k104 x105 = some ct106 := hb110
            unfold p_spec_l04Integers_L3 at hb110
            obtain ⟨hf114, hf115, hf116, hf117, hf118, hr119, hL120, hS121⟩ := hI111
            refine W.seq (W.seq (W.region ?_))
            refine WL.val (Value.int .i64 (k104 : Int)) _ (op_move hf118) rfl ?_
            refine WL.val u90 _ (op_move hf115) rfl ?_
            have hr122 := inR_len (St.rep (t := (Ty.sl (Ty.i .i64))) hS121 0 rfl)
            refine WL.val (Value.int .i64 ((x105).length : Int)) _ (op_lenL sl_34 (St.rep (t := (Ty.sl (Ty.i .i64))) hS121 0 rfl) rfl) rfl ?_
            refine WL.val (Value.bool (decide ((k104 : Int) < ((x105).length : Int)))) _ (op_lss rfl rfl) rfl ?_
            have hl123 : (k104 : Int) < ((x105).length : Int) := by omega
            refine WL.nil ?_
            refine W.condT (decide ((k104 : Int) < ((x105).length : Int))) rfl (decide_eq_true hl123) ?_
            refine W.skip ?_
            refine W.seq ?_
            refine W.block ?_
            refine W.seq ?_
            obtain ⟨x168, hx171, hb110⟩ := bs hb110
            obtain ⟨ha169, hb170, hx171⟩ := idx_some hx171
            obtain ⟨u182, hc183, hr184⟩ := repSl.el (St.rep (t := (Ty.sl (Ty.i .i64))) hS121 0 rfl) hx171
            obtain ⟨rfl, hr184⟩ := hr184
            obtain ⟨x208, hz209, hb110⟩ := bs hb110
            obtain ⟨h0210, hz209⟩ := quoI_some hz209
            obtain ⟨u262, hc263, hr264⟩ := repSl.el (St.rep (t := (Ty.sl (Ty.i .i64))) hS121 0 rfl) hx171
            obtain ⟨rfl, hr264⟩ := hr264
            obtain ⟨x288, hz289, hb110⟩ := bs hb110
            obtain ⟨h0290, hz289⟩ := remI_some hz289
            obtain ⟨x326, hz327, hb110⟩ := bs hb110
            obtain ⟨h0328, hz327⟩ := quoI_some hz327
            refine W.drawR mixo 19 [] [fun _ v _ _ => v = u90, fun _ v _ _ => v = (Value.int .i64 (k104 : Int)) ∧ InR .i64 (k104 : Int), fun _ v _ _ => v = u90, fun _ v _ _ => v = (Value.int .i64 (k104 : Int)) ∧ InR .i64 (k104 : Int), fun _ v _ _ => v = (Value.pointer (some (elA u90 ((k104 : Int)).toNat))), fun _ v _ _ => v = (Value.int .i64 x168) ∧ InR .i64 x168, fun _ v _ _ => v = (Value.int .i64 x95) ∧ InR .i64 x95, fun _ v _ _ => v = (Value.int .i64 x208) ∧ InR .i64 x208, fun _ v _ _ => v = (Value.int .i64 (w64 (x208 * (1000000 : Int)))) ∧ InR .i64 (w64 (x208 * (1000000 : Int))), fun _ v _ _ => v = u90, fun _ v _ _ => v = (Value.int .i64 (k104 : Int)) ∧ InR .i64 (k104 : Int), fun _ v _ _ => v = (Value.pointer (some (elA u90 ((k104 : Int)).toNat))), fun _ v _ _ => v = (Value.int .i64 x168) ∧ InR .i64 x168, fun _ v _ _ => v = (Value.int .i64 x95) ∧ InR .i64 x95, fun _ v _ _ => v = (Value.int .i64 x288) ∧ InR .i64 x288, fun _ v _ _ => v = (Value.int .i64 (w64 (x288 * (1000000 : Int)))) ∧ InR .i64 (w64 (x288 * (1000000 : Int))), fun _ v _ _ => v = (Value.int .i64 x95) ∧ InR .i64 x95, fun _ v _ _ => v = (Value.int .i64 x326) ∧ InR .i64 x326, fun _ v _ _ => v = (Value.int .i64 (w64 ((w64 (x208 * (1000000 : Int))) + x326))) ∧ InR .i64 (w64 ((w64 (x208 * (1000000 : Int))) + x326))] (by kernel_rfl) (by kernel_rfl) ⟨pk, pk, pk, pk, pk, pk, pk, pk, pk, pk, pk, pk, pk, pk, pk, pk, pk, pk, pk, trivial⟩ ⟨?_, ?_, ?_, ?_, ?_, ?_, ?_, ?_, ?_, ?_, ?_, ?_, ?_, ?_, ?_, ?_, ?_, ?_, ?_, trivial⟩ ?_
            · refine ObX.op rfl fun f125 wd126 he127 hout128 hphi129 => ?_
              have e131 : f125 4 = u90 := (hout128 4 rfl).trans hf115
              exact OpX.val u90 wd126 rfl (op_move e131) (Ext.refl _) rfl
            · refine ObX.op rfl fun f132 wd133 he134 hout135 hphi136 => ?_
              have e138 : f132 8 = (Value.int .i64 (k104 : Int)) := (hout135 8 rfl).trans hf118
              exact OpX.val (Value.int .i64 (k104 : Int)) wd133 rfl (op_move e138) (Ext.refl _) ⟨rfl, hr119⟩
            · refine ObX.op rfl fun f139 wd140 he141 hout142 hphi143 => ?_
              have e145 : f139 4 = u90 := (hout142 4 rfl).trans hf115
              exact OpX.val u90 wd140 rfl (op_move e145) (Ext.refl _) rfl
            · refine ObX.op rfl fun f146 wd147 he148 hout149 hphi150 => ?_
              have e152 : f146 8 = (Value.int .i64 (k104 : Int)) := (hout149 8 rfl).trans hf118
              exact OpX.val (Value.int .i64 (k104 : Int)) wd147 rfl (op_move e152) (Ext.refl _) ⟨rfl, hr119⟩
            · refine ObX.op rfl fun f153 wd154 he155 hout156 hphi157 => ?_
              have hS158 := St.extend hS121 he155
              obtain ⟨S159, hS160, hf161⟩ := hphi157 2 40 _ rfl rfl rfl
              have e162 : f153 40 = u90 := hf161
              obtain ⟨S163, hS164, hf165⟩ := hphi157 3 41 _ rfl rfl rfl
              obtain ⟨e166, hr167⟩ := hf165
              exact OpX.val (Value.pointer (some (elA u90 ((k104 : Int)).toNat))) wd154 rfl (op_idx sl_34 (St.rep (t := (Ty.sl (Ty.i .i64))) hS158 0 rfl) e162 e166 ha169 hb170) (Ext.refl _) rfl
            · refine ObX.op rfl fun f172 wd173 he174 hout175 hphi176 => ?_
              obtain ⟨S178, hS179, hf180⟩ := hphi176 4 42 _ rfl rfl rfl
              have e181 : f172 42 = (Value.pointer (some (elA u90 ((k104 : Int)).toNat))) := hf180
              exact OpX.val (Value.int .i64 x168) wd173 rfl (op_load one_2 e181 (Ext.cell he174 hc183)) (Ext.refl _) ⟨rfl, hr184⟩
            · refine ObX.op rfl fun f185 wd186 he187 hout188 hphi189 => ?_
              have e191 : f185 7 = (Value.int .i64 x95) := (hout188 7 rfl).trans hf117
              exact OpX.val (Value.int .i64 x95) wd186 rfl (op_move e191) (Ext.refl _) ⟨rfl, hr101⟩
            · refine ObX.op rfl fun f192 wd193 he194 hout195 hphi196 => ?_
              obtain ⟨S198, hS199, hf200⟩ := hphi196 5 43 _ rfl rfl rfl
              obtain ⟨e201, hr202⟩ := hf200
              obtain ⟨S203, hS204, hf205⟩ := hphi196 6 44 _ rfl rfl rfl
              obtain ⟨e206, hr207⟩ := hf205
              have hr211 : InR .i64 x208 := by rw [hz209]; exact inR_wrap _ _
              exact OpX.val (Value.int .i64 x208) wd193 rfl (by rw [hz209]; exact op_quo e201 e206 h0210) (Ext.refl _) ⟨rfl, hr211⟩
            · refine ObX.op rfl fun f212 wd213 he214 hout215 hphi216 => ?_
              obtain ⟨S218, hS219, hf220⟩ := hphi216 7 45 _ rfl rfl rfl
              obtain ⟨e221, hr222⟩ := hf220
              exact OpX.val (Value.int .i64 (w64 (x208 * (1000000 : Int)))) wd213 rfl (op_mul e221 rfl) (Ext.refl _) ⟨rfl, (inR_wrap _ _)⟩
            · refine ObX.op rfl fun f223 wd224 he225 hout226 hphi227 => ?_
              have e229 : f223 4 = u90 := (hout226 4 rfl).trans hf115
              exact OpX.val u90 wd224 rfl (op_move e229) (Ext.refl _) rfl
            · refine ObX.op rfl fun f230 wd231 he232 hout233 hphi234 => ?_
              have e236 : f230 8 = (Value.int .i64 (k104 : Int)) := (hout233 8 rfl).trans hf118
              exact OpX.val (Value.int .i64 (k104 : Int)) wd231 rfl (op_move e236) (Ext.refl _) ⟨rfl, hr119⟩
            · refine ObX.op rfl fun f237 wd238 he239 hout240 hphi241 => ?_
              have hS242 := St.extend hS121 he239
              obtain ⟨S243, hS244, hf245⟩ := hphi241 9 47 _ rfl rfl rfl
              have e246 : f237 47 = u90 := hf245
              obtain ⟨S247, hS248, hf249⟩ := hphi241 10 48 _ rfl rfl rfl
              obtain ⟨e250, hr251⟩ := hf249
              exact OpX.val (Value.pointer (some (elA u90 ((k104 : Int)).toNat))) wd238 rfl (op_idx sl_34 (St.rep (t := (Ty.sl (Ty.i .i64))) hS242 0 rfl) e246 e250 ha169 hb170) (Ext.refl _) rfl
            · refine ObX.op rfl fun f252 wd253 he254 hout255 hphi256 => ?_
              obtain ⟨S258, hS259, hf260⟩ := hphi256 11 49 _ rfl rfl rfl
              have e261 : f252 49 = (Value.pointer (some (elA u90 ((k104 : Int)).toNat))) := hf260
              exact OpX.val (Value.int .i64 x168) wd253 rfl (op_load one_2 e261 (Ext.cell he254 hc263)) (Ext.refl _) ⟨rfl, hr264⟩
            · refine ObX.op rfl fun f265 wd266 he267 hout268 hphi269 => ?_
              have e271 : f265 7 = (Value.int .i64 x95) := (hout268 7 rfl).trans hf117
              exact OpX.val (Value.int .i64 x95) wd266 rfl (op_move e271) (Ext.refl _) ⟨rfl, hr101⟩
            · refine ObX.op rfl fun f272 wd273 he274 hout275 hphi276 => ?_
              obtain ⟨S278, hS279, hf280⟩ := hphi276 12 50 _ rfl rfl rfl
              obtain ⟨e281, hr282⟩ := hf280
              obtain ⟨S283, hS284, hf285⟩ := hphi276 13 51 _ rfl rfl rfl
              obtain ⟨e286, hr287⟩ := hf285
              have hr291 : InR .i64 x288 := by rw [hz289]; exact inR_tmod hr282
              exact OpX.val (Value.int .i64 x288) wd273 rfl (by rw [hz289]; exact op_rem e281 e286 h0290) (Ext.refl _) ⟨rfl, hr291⟩
            · refine ObX.op rfl fun f292 wd293 he294 hout295 hphi296 => ?_
              obtain ⟨S298, hS299, hf300⟩ := hphi296 14 52 _ rfl rfl rfl
              obtain ⟨e301, hr302⟩ := hf300
              exact OpX.val (Value.int .i64 (w64 (x288 * (1000000 : Int)))) wd293 rfl (op_mul e301 rfl) (Ext.refl _) ⟨rfl, (inR_wrap _ _)⟩
            · refine ObX.op rfl fun f303 wd304 he305 hout306 hphi307 => ?_
              have e309 : f303 7 = (Value.int .i64 x95) := (hout306 7 rfl).trans hf117
              exact OpX.val (Value.int .i64 x95) wd304 rfl (op_move e309) (Ext.refl _) ⟨rfl, hr101⟩
            · refine ObX.op rfl fun f310 wd311 he312 hout313 hphi314 => ?_
              obtain ⟨S316, hS317, hf318⟩ := hphi314 15 53 _ rfl rfl rfl
              obtain ⟨e319, hr320⟩ := hf318
              obtain ⟨S321, hS322, hf323⟩ := hphi314 16 54 _ rfl rfl rfl
              obtain ⟨e324, hr325⟩ := hf323
              have hr329 : InR .i64 x326 := by rw [hz327]; exact inR_wrap _ _
              exact OpX.val (Value.int .i64 x326) wd311 rfl (by rw [hz327]; exact op_quo e319 e324 h0328) (Ext.refl _) ⟨rfl, hr329⟩
            · refine ObX.op rfl fun f330 wd331 he332 hout333 hphi334 => ?_
              obtain ⟨S336, hS337, hf338⟩ := hphi334 8 46 _ rfl rfl rfl
              obtain ⟨e339, hr340⟩ := hf338
              obtain ⟨S341, hS342, hf343⟩ := hphi334 17 55 _ rfl rfl rfl
              obtain ⟨e344, hr345⟩ := hf343
              exact OpX.val (Value.int .i64 (w64 ((w64 (x208 * (1000000 : Int))) + x326))) wd331 rfl (op_add e339 e344) (Ext.refl _) ⟨rfl, (inR_wrap _ _)⟩
            · intro f346 wd347 Ss348 he349 hout350 hSn351 hSd352 hphi353
              show WL _ _ _ _ _ _ _
              have hS354 := St.extend hS121 he349
              have e355 : f346 38 = u90 := hphi353 0 38 _ (by decide) rfl rfl
              obtain ⟨e356, hr357⟩ := hphi353 1 39 _ (by decide) rfl rfl
              obtain ⟨e358, hr359⟩ := hphi353 18 56 _ (by decide) rfl rfl
              have e360 : f346 1 = (Value.pointer (some ⟨b1, 0, none⟩)) := (hout350 1 rfl).trans hf114
              have e361 : f346 4 = u90 := (hout350 4 rfl).trans hf115
              have e362 : f346 6 = (Value.int .i64 (k70 : Int)) := (hout350 6 rfl).trans hf116
              have e363 : f346 7 = (Value.int .i64 x95) := (hout350 7 rfl).trans hf117
              have e364 : f346 8 = (Value.int .i64 (k104 : Int)) := (hout350 8 rfl).trans hf118
              refine WL.val (Value.pointer (some (elA u90 ((k104 : Int)).toNat))) _ (op_idx sl_34 (St.rep (t := (Ty.sl (Ty.i .i64))) hS354 0 rfl) e355 e356 ha169 hb170) rfl ?_
              refine WL.storeEl (flat_i .i64) hS354 (k := 0) rfl sz_2 rfl e358 (lt_of_idx ha169 hb170) ⟨rfl, hr359⟩ ?_
              intro wd365 hS366
              replace hS366 : St wd2 wd365 [(Ty.sl (Ty.i .i64)).at u90 ((x105).set ((k104 : Int)).toNat (w64 ((w64 (x208 * (1000000 : Int))) + x326)))] := hS366
              refine WL.nil ?_
              show W _ _ _ _ _ _
              refine W.region ?_
              refine WL.val u90 _ (op_move e361) rfl ?_
              refine WL.val (Value.int .i64 (k104 : Int)) _ (op_move e364) rfl ?_
              refine WL.val u90 _ (op_move e361) rfl ?_
              refine WL.val (Value.int .i64 (k104 : Int)) _ (op_move e364) rfl ?_
              obtain ⟨x367, hx370, hb110⟩ := bs hb110
              obtain ⟨ha368, hb369, hx370⟩ := idx_some hx370
              refine WL.val (Value.pointer (some (elA u90 ((k104 : Int)).toNat))) _ (op_idx sl_34 (St.rep (t := (Ty.sl (Ty.i .i64))) hS366 0 rfl) rfl rfl ha368 hb369) rfl ?_
              obtain ⟨u371, hc372, hr373⟩ := repSl.el (St.rep (t := (Ty.sl (Ty.i .i64))) hS366 0 rfl) hx370
              obtain ⟨rfl, hr373⟩ := hr373
              refine WL.val (Value.int .i64 x367) _ (op_load one_2 rfl hc372) rfl ?_
              refine WL.val (Value.int .i64 (if (100000000000 : Int) < x367 then (100000000000 : Int) else x367)) _ (op_min2 rfl rfl) rfl ?_
              refine WL.val (Value.int .i64 (if (if (100000000000 : Int) < x367 then (100000000000 : Int) else x367) > (1 : Int) then (if (100000000000 : Int) < x367 then (100000000000 : Int) else x367) else (1 : Int))) _ (op_max2 rfl rfl) rfl ?_
              refine WL.val (Value.pointer (some (elA u90 ((k104 : Int)).toNat))) _ (op_idx sl_34 (St.rep (t := (Ty.sl (Ty.i .i64))) hS366 0 rfl) rfl rfl ha368 hb369) rfl ?_
              refine WL.storeEl (flat_i .i64) hS366 (k := 0) rfl sz_2 rfl rfl (lt_of_idx ha368 hb369) ⟨rfl, (inR_ite (inR_ite (inL rfl) hr373) (inL rfl))⟩ ?_
              intro wd374 hS375
              replace hS375 : St wd2 wd374 [(Ty.sl (Ty.i .i64)).at u90 ((((x105).set ((k104 : Int)).toNat (w64 ((w64 (x208 * (1000000 : Int))) + x326)))).set ((k104 : Int)).toNat (if (if (100000000000 : Int) < x367 then (100000000000 : Int) else x367) > (1 : Int) then (if (100000000000 : Int) < x367 then (100000000000 : Int) else x367) else (1 : Int)))] := hS375
              refine WL.nil ?_
              show W _ _ _ _ _ _
              refine W.region ?_
              refine WL.val (Value.int .i64 (k104 : Int)) _ (op_move e364) rfl ?_
              refine WL.val (Value.int .i64 (w64 ((k104 : Int) + (1 : Int)))) _ (op_add rfl rfl) rfl ?_
              refine WL.val (Value.int .i64 (w64 ((k104 : Int) + (1 : Int)))) _ (op_assign rfl) rfl ?_
              refine WL.nil ?_
              obtain rfl := Option.some.inj hb110
              show ∃ s, _ = Ctl.next s ∧ _
              exact ⟨_, rfl, e360, e361, e362, e363, (ctr_next hl123 hr122), (ctr_rng hl123 hr122), (by first | exact hL120 | (simp only [List.length_set]; exact hL120)), hS375⟩
          · intro x382 f377 wd378 hs379 hI380
            replace hI380 : f377 1 = (Value.pointer (some ⟨b1, 0, none⟩)) ∧ f377 4 = u90 ∧ f377 6 = (Value.int .i64 (k70 : Int)) ∧ f377 7 = (Value.int .i64 x95) ∧ f377 8 = Value.int .i64 (((x88).length : Nat) : Int) ∧ InR .i64 (((x88).length : Nat) : Int) ∧ (x382).length = (x88).length ∧ St wd2 wd378 [(Ty.sl (Ty.i .i64)).at u90 x382] := hI380
            obtain ⟨hf383, hf384, hf385, hf386, hf387, hr388, hL389, hS390⟩ := hI380
            refine W.seq (W.seq (W.region ?_))
            refine WL.val (Value.int .i64 (((x88).length : Nat) : Int)) _ (op_move hf387) rfl ?_
            refine WL.val u90 _ (op_move hf384) rfl ?_
            have hr391 := inR_len (St.rep (t := (Ty.sl (Ty.i .i64))) hS390 0 rfl)
            refine WL.val (Value.int .i64 ((x382).length : Int)) _ (op_lenL sl_34 (St.rep (t := (Ty.sl (Ty.i .i64))) hS390 0 rfl) rfl) rfl ?_
            refine WL.val (Value.bool (decide ((((x88).length : Nat) : Int) < ((x382).length : Int)))) _ (op_lss rfl rfl) rfl ?_
            have hl392 : ¬ (((x88).length : Nat) : Int) < ((x382).length : Int) := by omega
            refine WL.nil ?_
            refine W.condF (decide ((((x88).length : Nat) : Int) < ((x382).length : Int))) rfl (decide_eq_false hl392) ?_
            refine W.exit ?_
            show _ = _ ∧ _
            exact ⟨rfl, _, hs379, hf383, hf384, hf385, (by first | exact hL389 | (simp only [List.length_set]; exact hL389)), hS390⟩
        · rintro f393 wd394 ⟨x397, rfl, hq395⟩
          replace hb76 := onRes_fin hb76
          replace hq395 : f393 1 = (Value.pointer (some ⟨b1, 0, none⟩)) ∧ f393 4 = u90 ∧ f393 6 = (Value.int .i64 (k70 : Int)) ∧ (x397).length = (x88).length ∧ St wd2 wd394 [(Ty.sl (Ty.i .i64)).at u90 x397] := hq395
          obtain ⟨hf398, hf399, hf400, hL401, hS402⟩ := hq395
          show W _ _ _ _ _ _
          refine W.region ?_
          refine WL.val (Value.int .i64 (k70 : Int)) _ (op_move hf400) rfl ?_
          refine WL.val (Value.int .i64 (w64 ((k70 : Int) + (1 : Int)))) _ (op_add rfl rfl) rfl ?_
          refine WL.val (Value.int .i64 (w64 ((k70 : Int) + (1 : Int)))) _ (op_assign rfl) rfl ?_
          refine WL.nil ?_
          obtain rfl := Option.some.inj hb76
          show ∃ s, _ = Ctl.next s ∧ _
          exact ⟨_, rfl, u90, hf398, hf399, (ctr_next hl86 (inL rfl)), (ctr_rng hl86 (inL rfl)), hS402⟩
      · intro x410 f405 wd406 hs407 hI408
        replace hI408 : ∃ (uu0 : Value), f405 1 = (Value.pointer (some ⟨b1, 0, none⟩)) ∧ f405 4 = uu0 ∧ f405 6 = Value.int .i64 ((((400 : Int)).toNat : Nat) : Int) ∧ InR .i64 ((((400 : Int)).toNat : Nat) : Int) ∧ St wd2 wd406 [(Ty.sl (Ty.i .i64)).at uu0 x410] := hI408
        obtain ⟨u411, hf412, hf413, hf414, hr415, hS416⟩ := hI408
        refine W.seq (W.seq (W.region ?_))
        refine WL.val (Value.int .i64 ((((400 : Int)).toNat : Nat) : Int)) _ (op_move hf414) rfl ?_
        refine WL.val (Value.bool (decide (((((400 : Int)).toNat : Nat) : Int) < (400 : Int)))) _ (op_lss rfl rfl) rfl ?_
        have hl417 : ¬ ((((400 : Int)).toNat : Nat) : Int) < (400 : Int) := by omega
        refine WL.nil ?_
        refine W.condF (decide (((((400 : Int)).toNat : Nat) : Int) < (400 : Int))) rfl (decide_eq_false hl417) ?_
        refine W.exit ?_
        show _ = _ ∧ _
        exact ⟨rfl, _, hs407, u411, hf412, hf413, hS416⟩
    · rintro f418 wd419 ⟨x422, rfl, hq420⟩
      replace h := onRes_fin h
      replace hq420 : ∃ (uu0 : Value), f418 1 = (Value.pointer (some ⟨b1, 0, none⟩)) ∧ f418 4 = uu0 ∧ St wd2 wd419 [(Ty.sl (Ty.i .i64)).at uu0 x422] := hq420
      obtain ⟨u423, hf424, hf425, hS426⟩ := hq420
      refine W.seq (W.region ?_)
      refine WL.lit0 (t := (Ty.i .i64)) hS426 sl_34 rfl rfl ?_
      intro u427 wd428 hS429 he430
      replace hS429 : St wd2 wd428 [(Ty.sl (Ty.i .i64)).at u423 x422, (Ty.sl (Ty.i .i64)).at u427 ([] : (List Int))] := hS429
      refine WL.val u427 _ (op_assign rfl) rfl ?_
      refine WL.nil ?_
      refine W.seq (W.seq (W.region ?_))
      refine WL.val (Value.int .i64 (0 : Int)) _ (op_assign rfl) rfl ?_
      refine WL.nil ?_
      show W _ _ _ _ _ _
      obtain ⟨res431, hres432, h⟩ := bs h
      refine W.blockLoop (fun fq wq => ∃ s, res431 = Res.fin s ∧ ∃ (uu0 : Value), fq 1 = (Value.pointer (some ⟨b1, 0, none⟩)) ∧ fq 9 = uu0 ∧ St wd2 wq [(Ty.sl (Ty.i .i64)).at uu0 s]) ?_ ?_
      · refine W.forN (fun k (s : (List Int)) fq wq => ∃ (uu0 : Value), fq 1 = (Value.pointer (some ⟨b1, 0, none⟩)) ∧ fq 4 = u423 ∧ fq 9 = uu0 ∧ fq 10 = Value.int .i64 (k : Int) ∧ InR .i64 (k : Int) ∧ St wd2 wq [(Ty.sl (Ty.i .i64)).at u423 x422, (Ty.sl (Ty.i .i64)).at uu0 s]) hres432 ⟨u427, hf424, hf425, rfl, rfl, (inL rfl), hS429⟩ ?_ ?_
        · intro k433 x434 ct435 f436 wd437 hk438 hb439 hI440 hbrk441 hret442
          replace hI440 : ∃ (uu0 : Value), f436 1 = (Value.pointer (some ⟨b1, 0, none⟩)) ∧ f436 4 = u423 ∧ f436 9 = uu0 ∧ f436 10 = Value.int .i64 (k433 : Int) ∧ InR .i64 (k433 : Int) ∧ St wd2 wd437 [(Ty.sl (Ty.i .i64)).at u423 x422, (Ty.sl (Ty.i .i64)).at uu0 x434] := hI440
          replace hb439 : p_spec_l04Integers_L4 x422 k433 x434 = some ct435 := hb439
          unfold p_spec_l04Integers_L4 at hb439
          obtain ⟨u443, hf444, hf445, hf446, hf447, hr448, hS449⟩ := hI440
          refine W.seq (W.seq (W.region ?_))
          refine WL.val (Value.int .i64 (k433 : Int)) _ (op_move hf447) rfl ?_
          refine WL.val u423 _ (op_move hf445) rfl ?_
          have hr450 := inR_len (St.rep (t := (Ty.sl (Ty.i .i64))) hS449 0 rfl)
          refine WL.val (Value.int .i64 ((x422).length : Int)) _ (op_lenL sl_34 (St.rep (t := (Ty.sl (Ty.i .i64))) hS449 0 rfl) rfl) rfl ?_
          refine WL.val (Value.bool (decide ((k433 : Int) < ((x422).length : Int)))) _ (op_lss rfl rfl) rfl ?_
          have hl451 : (k433 : Int) < ((x422).length : Int) := by omega
          refine WL.nil ?_
          refine W.condT (decide ((k433 : Int) < ((x422).length : Int))) rfl (decide_eq_true hl451) ?_
          refine W.skip ?_
          refine W.seq ?_
          refine W.block ?_
          refine W.region ?_
          refine WL.val u443 _ (op_move hf446) rfl ?_
          refine WL.val u423 _ (op_move hf445) rfl ?_
          refine WL.val (Value.int .i64 (k433 : Int)) _ (op_move hf447) rfl ?_
          obtain ⟨x453, hx456, hb439⟩ := bs hb439
          obtain ⟨ha454, hb455, hx456⟩ := idx_some hx456
          refine WL.val (Value.pointer (some (elA u423 ((k433 : Int)).toNat))) _ (op_idx sl_34 (St.rep (t := (Ty.sl (Ty.i .i64))) hS449 0 rfl) rfl rfl ha454 hb455) rfl ?_
          obtain ⟨u457, hc458, hr459⟩ := repSl.el (St.rep (t := (Ty.sl (Ty.i .i64))) hS449 0 rfl) hx456
          obtain ⟨rfl, hr459⟩ := hr459
          refine WL.val (Value.int .i64 x453) _ (op_load one_2 rfl hc458) rfl ?_
          refine WL.val (Value.int .i64 (w64 (x453 + (500000 : Int)))) _ (op_add rfl rfl) rfl ?_
          refine WL.val (Value.int .i64 (w64 (((w64 (x453 + (500000 : Int)))).tdiv (1000000 : Int)))) _ (op_quo (b := 1000000) rfl rfl (by decide)) rfl ?_
          refine WL.litFlat (t := (Ty.i .i64)) (flat_i .i64) [(Value.int .i64 (w64 (((w64 (x453 + (500000 : Int)))).tdiv (1000000 : Int))))] [(w64 (((w64 (x453 + (500000 : Int)))).tdiv (1000000 : Int)))] hS449 sl_34 rfl rfl (fillL rfl ⟨rfl, rfl, rfl, trivial⟩) rfl rfl (litL ⟨⟨rfl, (inR_wrap _ _)⟩, trivial⟩) rfl ?_
          intro u460 wd461 hS462 he463
          replace hS462 : St wd2 wd461 [(Ty.sl (Ty.i .i64)).at u423 x422, (Ty.sl (Ty.i .i64)).at u443 x434, (Ty.sl (Ty.i .i64)).at u460 ([(w64 (((w64 (x453 + (500000 : Int)))).tdiv (1000000 : Int)))] : (List Int))] := hS462
          obtain ⟨x464, hx465, hb439⟩ := bs hb439
          refine WL.append (flat_i .i64) hS462 (k := 1) rfl sl_34 rfl rfl rfl rfl (St.rep (t := (Ty.sl (Ty.i .i64))) hS462 2 rfl) hx465 rfl ?_
          intro u466 wd467 hS468 hz469
          replace hS468 : St wd2 wd467 [(Ty.sl (Ty.i .i64)).at u423 x422, (Ty.sl (Ty.i .i64)).at u466 x464, (Ty.sl (Ty.i .i64)).at u460 ([(w64 (((w64 (x453 + (500000 : Int)))).tdiv (1000000 : Int)))] : (List Int))] := hS468
          refine WL.val u466 _ (op_assign rfl) rfl ?_
          refine WL.nil ?_
          show W _ _ _ _ _ _
          refine W.region ?_
          refine WL.val (Value.int .i64 (k433 : Int)) _ (op_move hf447) rfl ?_
          refine WL.val (Value.int .i64 (w64 ((k433 : Int) + (1 : Int)))) _ (op_add rfl rfl) rfl ?_
          refine WL.val (Value.int .i64 (w64 ((k433 : Int) + (1 : Int)))) _ (op_assign rfl) rfl ?_
          refine WL.nil ?_
          obtain rfl := Option.some.inj hb439
          show ∃ s, _ = Ctl.next s ∧ _
          exact ⟨_, rfl, u466, hf444, hf445, rfl, (ctr_next hl451 hr450), (ctr_rng hl451 hr450), (St.pick hS468 [0, 1] rfl)⟩
        · intro x476 f471 wd472 hs473 hI474
          replace hI474 : ∃ (uu0 : Value), f471 1 = (Value.pointer (some ⟨b1, 0, none⟩)) ∧ f471 4 = u423 ∧ f471 9 = uu0 ∧ f471 10 = Value.int .i64 (((x422).length : Nat) : Int) ∧ InR .i64 (((x422).length : Nat) : Int) ∧ St wd2 wd472 [(Ty.sl (Ty.i .i64)).at u423 x422, (Ty.sl (Ty.i .i64)).at uu0 x476] := hI474
          obtain ⟨u477, hf478, hf479, hf480, hf481, hr482, hS483⟩ := hI474
          refine W.seq (W.seq (W.region ?_))
          refine WL.val (Value.int .i64 (((x422).length : Nat) : Int)) _ (op_move hf481) rfl ?_
          refine WL.val u423 _ (op_move hf479) rfl ?_
          have hr484 := inR_len (St.rep (t := (Ty.sl (Ty.i .i64))) hS483 0 rfl)
          refine WL.val (Value.int .i64 ((x422).length : Int)) _ (op_lenL sl_34 (St.rep (t := (Ty.sl (Ty.i .i64))) hS483 0 rfl) rfl) rfl ?_
          refine WL.val (Value.bool (decide ((((x422).length : Nat) : Int) < ((x422).length : Int)))) _ (op_lss rfl rfl) rfl ?_
          have hl485 : ¬ (((x422).length : Nat) : Int) < ((x422).length : Int) := by omega
          refine WL.nil ?_
          refine W.condF (decide ((((x422).length : Nat) : Int) < ((x422).length : Int))) rfl (decide_eq_false hl485) ?_
          refine W.exit ?_
          show _ = _ ∧ _
          exact ⟨rfl, _, hs473, u477, hf478, hf480, (St.pick hS483 [1] rfl)⟩
      · rintro f486 wd487 ⟨x490, rfl, hq488⟩
        replace h := onRes_fin h
        replace hq488 : ∃ (uu0 : Value), f486 1 = (Value.pointer (some ⟨b1, 0, none⟩)) ∧ f486 9 = uu0 ∧ St wd2 wd487 [(Ty.sl (Ty.i .i64)).at uu0 x490] := hq488
        obtain ⟨u491, hf492, hf493, hS494⟩ := hq488
        refine W.seq (W.region ?_)
        refine WL.val u491 _ (op_move hf493) rfl ?_
        refine WL.val (Value.agg #[v_r_Table]) _ (op_loadBox st_28 hf492 (BoxAt.lift hS494.ext hx6) rfl rfl) rfl ?_
        refine WL.val u491 _ (op_move hf493) rfl ?_
        obtain ⟨x495, hx496, h⟩ := bs h
        refine WL.call _ (op_call fn_38 (args2 rfl rfl)) (c_spec_l04Is (Ty.lift _ (Ext.trans hE7 hS494.ext) r_r_Table) (St.rep (t := (Ty.sl (Ty.i .i64))) hS494 0 rfl) hx496) rfl ?_
        rintro _ wd497 ⟨rfl, he498⟩
        have hS500 := St.extend hS494 he498
        replace hS500 : St wd2 wd497 [(Ty.sl (Ty.i .i64)).at u491 x490] := hS500
        refine WL.val u491 _ (op_assign rfl) rfl ?_
        refine WL.val (Value.bool x495) _ (op_assign rfl) rfl ?_
        refine WL.nil ?_
        refine W.ret ?_
        obtain rfl := Option.some.inj h
        show FinP _ _ _ _ _ _ _
        exact FinP.ret _ (res2 rfl rfl rfl) ⟨u491, rfl, (Ext.trans hE7 hS500.ext), (St.out (St.pick hS500 [0] rfl) (hE7))⟩

theorem c_impl_within {w : World} {n : Int} {low : Int} {high : Int} (r_n : InR .i64 n) (r_low : InR .i64 low) (r_high : InR .i64 high) {res : Bool} (h : p_impl_within n low high  = some res) :
    Ret Try.prog 61 #[(Value.int .i64 n), (Value.int .i64 low), (Value.int .i64 high)] w (fun v w' => v = Value.bool res ∧ Ext w w') := by
  unfold p_impl_within at h
  have hS0 : St w w [] := St.start w
  refine Ret.start (fn := Try.f61) Try.func61 rfl 15 rfl rfl ?_
  refine W.seq (W.region ?_)
  refine WL.val (Value.bool false) _ (op_assign rfl) rfl ?_
  refine WL.nil ?_
  refine W.seq (W.region ?_)
  refine WL.val (Value.int .i64 n) _ (op_move rfl) rfl ?_
  refine WL.val (Value.int .i64 low) _ (op_move rfl) rfl ?_
  refine WL.val (Value.bool (decide (n ≥ low))) _ (op_geq rfl rfl) rfl ?_
  refine WL.val (Value.bool (decide (n ≥ low))) _ (op_move rfl) rfl ?_
  refine WL.cut 4 (fun fq wq => fq 14 = (Value.bool ((decide (n ≥ low)) && (decide (n ≤ high)))) ∧ St w wq []) ?_ ?_
  · rcases Bool.eq_false_or_eq_true (decide (n ≥ low)) with hc1 | hc1
    · refine WL.grun rfl (bool_of rfl hc1) ?_
      refine WL.val (Value.int .i64 n) _ (op_move rfl) rfl ?_
      refine WL.grun rfl (bool_of rfl hc1) ?_
      refine WL.val (Value.int .i64 high) _ (op_move rfl) rfl ?_
      refine WL.grun rfl (bool_of rfl hc1) ?_
      refine WL.val (Value.bool (decide (n ≤ high))) _ (op_leq rfl rfl) rfl ?_
      refine WL.val (Value.bool (decide (n ≤ high))) _ (op_pick_t (evb_of rfl hc1) rfl) rfl ?_
      refine WL.nil ?_
      exact ⟨rfl, (andT hc1), hS0⟩
    · refine WL.gskip rfl (bool_of rfl hc1) rfl ?_
      refine WL.gskip rfl (bool_of rfl hc1) rfl ?_
      refine WL.gskip rfl (bool_of rfl hc1) rfl ?_
      refine WL.val (Value.bool false) _ (op_pick_f (evb_of rfl hc1) rfl) rfl ?_
      refine WL.nil ?_
      exact ⟨rfl, (andF hc1), hS0⟩
  · intro f2 wd3 hq4
    obtain ⟨hf5, hS6⟩ := hq4
    refine WL.val (Value.bool ((decide (n ≥ low)) && (decide (n ≤ high)))) _ (op_assign hf5) rfl ?_
    refine WL.nil ?_
    refine W.ret ?_
    obtain rfl := Option.some.inj h
    show FinP _ _ _ _ _ _ _
    exact FinP.ret _ (res1 rfl rfl) ⟨rfl, hS6.ext⟩

theorem c_impl_allWithin_c1 {w : World} {n : Int} {b_c0 : Nat} {c0 : Int} {b_c1 : Nat} {c1 : Int} (r_n : InR .i64 n) (k_c0 : BoxAt w b_c0 [(Value.int .i64 c0)]) (r_c0 : InR .i64 c0) (k_c1 : BoxAt w b_c1 [(Value.int .i64 c1)]) (r_c1 : InR .i64 c1) {res : Bool} (h : p_impl_allWithin_c1 n c0 c1 = some res) :
    Ret Try.prog 60 #[(Value.int .i64 n), (Value.pointer (some ⟨b_c0, 0, none⟩)), (Value.pointer (some ⟨b_c1, 0, none⟩))] w (fun v w' => v = Value.bool res ∧ Ext w w') := by
  unfold p_impl_allWithin_c1 at h
  have hS0 : St w w [] := St.start w
  refine Ret.start (fn := Try.f60) Try.func60 rfl 10 rfl rfl ?_
  refine W.seq (W.region ?_)
  refine WL.val (Value.bool false) _ (op_assign rfl) rfl ?_
  refine WL.nil ?_
  refine W.seq (W.region ?_)
  refine WL.val (Value.int .i64 n) _ (op_move rfl) rfl ?_
  refine WL.val (Value.int .i64 c0) _ (op_load one_2 rfl (BoxAt.cell (BoxAt.lift hS0.ext k_c0) rfl)) rfl ?_
  refine WL.val (Value.int .i64 c1) _ (op_load one_2 rfl (BoxAt.cell (BoxAt.lift hS0.ext k_c1) rfl)) rfl ?_
  obtain ⟨x1, hx2, h⟩ := bs h
  refine WL.call _ (op_call fn_61 (args3 rfl rfl rfl)) (c_impl_within r_n r_c0 r_c1 hx2) rfl ?_
  rintro _ wd3 ⟨rfl, he4⟩
  have hS6 := St.extend hS0 he4
  replace hS6 : St w wd3 [] := hS6
  refine WL.val (Value.bool (!x1)) _ (op_not rfl) rfl ?_
  refine WL.val (Value.bool (!x1)) _ (op_assign rfl) rfl ?_
  refine WL.nil ?_
  refine W.ret ?_
  obtain rfl := Option.some.inj h
  show FinP _ _ _ _ _ _ _
  exact FinP.ret _ (res1 rfl rfl) ⟨rfl, hS6.ext⟩

theorem c_slices_IndexFunc_Lint64_int64 {w : World} {s1 : (List Int)} {v_s1 : Value} {f1 : Int → Option Bool} {v_f1 : Value} (r_s1 : (Ty.sl (Ty.i .i64)).rep w v_s1 s1) (r_f1 : FnT_i_to_b Try.prog v_f1 w f1) {res : Int} (h : p_slices_IndexFunc_Lint64_int64 s1 f1  = some res) :
    Ret Try.prog 69 #[v_s1, v_f1] w (fun v w' => v = Value.int .i64 res ∧ InR .i64 res ∧ Ext w w') := by
  unfold p_slices_IndexFunc_Lint64_int64 at h
  have hS0 : St w w [] := St.start w
  have q_f1 := r_f1
  obtain ⟨g_f1, fst_f1, cap_f1, eq_f1, ok_f1, call_f1⟩ := q_f1
  subst eq_f1
  refine Ret.start (fn := Try.f69) Try.func69 rfl 19 rfl rfl ?_
  refine W.seq (W.region ?_)
  refine WL.val (Value.int .i64 (0 : Int)) _ (op_assign rfl) rfl ?_
  refine WL.nil ?_
  refine W.seq (W.seq (W.region ?_))
  refine WL.val v_s1 _ (op_move rfl) rfl ?_
  have hr1 := inR_len (Ty.lift _ hS0.ext r_s1)
  refine WL.val (Value.int .i64 ((s1).length : Int)) _ (op_lenL sl_34 (Ty.lift _ hS0.ext r_s1) rfl) rfl ?_
  refine WL.val (Value.int .i64 (0 : Int)) _ (op_move rfl) rfl ?_
  refine WL.nil ?_
  show W _ _ _ _ _ _
  obtain ⟨res2, hres3, h⟩ := bs h
  refine W.blockLoop (fun fq wq => ∃ s, res2 = Res.fin s ∧ St w wq []) ?_ ?_
  · refine W.forN (fun k (s : Unit) fq wq => fq 0 = v_s1 ∧ fq 1 = (Value.func (.func g_f1) fst_f1 cap_f1) ∧ fq 7 = (Value.int .i64 ((s1).length : Int)) ∧ fq 8 = Value.int .i64 (k : Int) ∧ InR .i64 (k : Int) ∧ St w wq []) hres3 ⟨rfl, rfl, rfl, rfl, (inL rfl), hS0⟩ ?_ ?_
    · intro k4 s36 ct5 f6 wd7 hk8 hb9 hI10 hbrk11 hret12
      obtain ⟨⟩ := s36
      replace hI10 : f6 0 = v_s1 ∧ f6 1 = (Value.func (.func g_f1) fst_f1 cap_f1) ∧ f6 7 = (Value.int .i64 ((s1).length : Int)) ∧ f6 8 = Value.int .i64 (k4 : Int) ∧ InR .i64 (k4 : Int) ∧ St w wd7 [] := hI10
      replace hb9 : p_slices_IndexFunc_Lint64_int64_L1 s1 f1 k4  = some ct5 := hb9
      unfold p_slices_IndexFunc_Lint64_int64_L1 at hb9
      obtain ⟨hf13, hf14, hf15, hf16, hr17, hS18⟩ := hI10
      refine W.seq (W.region ?_)
      refine WL.val (Value.bool (decide ((k4 : Int) < ((s1).length : Int)))) _ (op_lss hf16 hf15) rfl ?_
      have hl19 : (k4 : Int) < ((s1).length : Int) := by omega
      refine WL.nil ?_
      refine W.seq ?_
      refine W.condT (decide ((k4 : Int) < ((s1).length : Int))) rfl (decide_eq_true hl19) ?_
      refine W.skip ?_
      refine W.seq ?_
      refine W.block ?_
      refine W.seq (W.region ?_)
      refine WL.val (Value.int .i64 (k4 : Int)) _ (op_move hf16) rfl ?_
      refine WL.val (Value.int .i64 (k4 : Int)) _ (op_assign rfl) rfl ?_
      refine WL.nil ?_
      refine W.seq (W.region ?_)
      refine WL.val (Value.func (.func g_f1) fst_f1 cap_f1) _ (op_move hf14) rfl ?_
      refine WL.val v_s1 _ (op_move hf13) rfl ?_
      refine WL.val (Value.int .i64 (k4 : Int)) _ (op_move rfl) rfl ?_
      obtain ⟨x21, hx24, hb9⟩ := bs hb9
      obtain ⟨ha22, hb23, hx24⟩ := idx_some hx24
      refine WL.val (Value.pointer (some (elA v_s1 ((k4 : Int)).toNat))) _ (op_idx sl_34 (Ty.lift _ hS18.ext r_s1) rfl rfl ha22 hb23) rfl ?_
      obtain ⟨u25, hc26, hr27⟩ := repSl.el r_s1 hx24
      obtain ⟨rfl, hr27⟩ := hr27
      refine WL.val (Value.int .i64 x21) _ (op_load one_2 rfl (Ext.cell hS18.ext hc26)) rfl ?_
      obtain ⟨x28, hx29, hb9⟩ := bs hb9
      refine WL.call _ (op_callV rfl ok_f1 (args1 rfl)) (call_f1 wd7 x21 x28 hS18.ext hr27 hx29) rfl ?_
      rintro _ wd30 ⟨rfl, he31⟩
      have hS33 := St.extend hS18 he31
      refine WL.nil ?_
      refine W.cond x28 rfl (fun hc34 => ?_) (fun hc34 => ?_)
      · replace hb9 := ip hb9 hc34
        refine W.seq (W.region ?_)
        refine WL.val (Value.int .i64 (k4 : Int)) _ (op_move rfl) rfl ?_
        refine WL.val (Value.int .i64 (k4 : Int)) _ (op_assign rfl) rfl ?_
        refine WL.nil ?_
        refine W.ret ?_
        obtain rfl := Option.some.inj hb9
        obtain rfl := hret12 _ rfl
        replace h := onRes_ret h
        obtain rfl := Option.some.inj h
        show FinP _ _ _ _ _ _ _
        exact FinP.ret _ (res1 rfl rfl) ⟨rfl, hr17, hS33.ext⟩
      · replace hb9 := inegb hb9 hc34
        refine W.skip ?_
        show W _ _ _ _ _ _
        refine W.region ?_
        refine WL.val (Value.int .i64 (w64 ((k4 : Int) + (1 : Int)))) _ (op_add hf16 rfl) rfl ?_
        refine WL.val (Value.int .i64 (w64 ((k4 : Int) + (1 : Int)))) _ (op_move rfl) rfl ?_
        refine WL.nil ?_
        obtain rfl := Option.some.inj hb9
        show ∃ s, _ = Ctl.next s ∧ _
        exact ⟨_, rfl, hf13, hf14, hf15, (ctr_next hl19 hr1), (ctr_rng hl19 hr1), hS33⟩
    · intro s41 f37 wd38 hs39 hI40
      obtain ⟨⟩ := s41
      replace hI40 : f37 0 = v_s1 ∧ f37 1 = (Value.func (.func g_f1) fst_f1 cap_f1) ∧ f37 7 = (Value.int .i64 ((s1).length : Int)) ∧ f37 8 = Value.int .i64 (((s1).length : Nat) : Int) ∧ InR .i64 (((s1).length : Nat) : Int) ∧ St w wd38 [] := hI40
      obtain ⟨hf42, hf43, hf44, hf45, hr46, hS47⟩ := hI40
      refine W.seq (W.region ?_)
      refine WL.val (Value.bool (decide ((((s1).length : Nat) : Int) < ((s1).length : Int)))) _ (op_lss hf45 hf44) rfl ?_
      have hl48 : ¬ (((s1).length : Nat) : Int) < ((s1).length : Int) := by omega
      refine WL.nil ?_
      refine W.seq ?_
      refine W.condF (decide ((((s1).length : Nat) : Int) < ((s1).length : Int))) rfl (decide_eq_false hl48) ?_
      refine W.exit ?_
      show _ = _ ∧ _
      exact ⟨rfl, _, hs39, hS47⟩
  · rintro f49 wd50 ⟨s52, rfl, hq51⟩
    replace h := onRes_fin h
    obtain ⟨⟩ := s52
    replace hq51 : St w wd50 [] := hq51
    have hS53 := hq51
    refine W.seq (W.region ?_)
    refine WL.val (Value.int .i64 (-1 : Int)) _ (op_assign rfl) rfl ?_
    refine WL.nil ?_
    refine W.ret ?_
    obtain rfl := Option.some.inj h
    show FinP _ _ _ _ _ _ _
    exact FinP.ret _ (res1 rfl rfl) ⟨rfl, (inR_i64.2 (show (-9223372036854775808 : Int) ≤ -1 ∧ (-1 : Int) ≤ 9223372036854775807 from by decide)), hS53.ext⟩

theorem c_slices_ContainsFunc_Lint64_int64 {w : World} {s1 : (List Int)} {v_s1 : Value} {f1 : Int → Option Bool} {v_f1 : Value} (r_s1 : (Ty.sl (Ty.i .i64)).rep w v_s1 s1) (r_f1 : FnT_i_to_b Try.prog v_f1 w f1) {res : Bool} (h : p_slices_ContainsFunc_Lint64_int64 s1 f1  = some res) :
    Ret Try.prog 59 #[v_s1, v_f1] w (fun v w' => v = Value.bool res ∧ Ext w w') := by
  unfold p_slices_ContainsFunc_Lint64_int64 at h
  have hS0 : St w w [] := St.start w
  have q_f1 := r_f1
  obtain ⟨g_f1, fst_f1, cap_f1, eq_f1, ok_f1, call_f1⟩ := q_f1
  subst eq_f1
  refine Ret.start (fn := Try.f59) Try.func59 rfl 9 rfl rfl ?_
  refine W.seq (W.region ?_)
  refine WL.val (Value.bool false) _ (op_assign rfl) rfl ?_
  refine WL.nil ?_
  refine W.seq (W.region ?_)
  refine WL.val v_s1 _ (op_move rfl) rfl ?_
  refine WL.val (Value.func (.func g_f1) fst_f1 cap_f1) _ (op_move rfl) rfl ?_
  obtain ⟨x1, hx2, h⟩ := bs h
  refine WL.call _ (op_call fn_69 (args2 rfl rfl)) (c_slices_IndexFunc_Lint64_int64 (Ty.lift _ hS0.ext r_s1) (FnT_i_to_b.lift hS0.ext r_f1) hx2) rfl ?_
  rintro _ wd4 ⟨rfl, hr3, he5⟩
  have hS7 := St.extend hS0 he5
  replace hS7 : St w wd4 [] := hS7
  refine WL.val (Value.bool (decide (x1 ≥ (0 : Int)))) _ (op_geq rfl rfl) rfl ?_
  refine WL.val (Value.bool (decide (x1 ≥ (0 : Int)))) _ (op_assign rfl) rfl ?_
  refine WL.nil ?_
  refine W.ret ?_
  obtain rfl := Option.some.inj h
  show FinP _ _ _ _ _ _ _
  exact FinP.ret _ (res1 rfl rfl) ⟨rfl, hS7.ext⟩

theorem c_impl_allWithin {w : World} {list : (List Int)} {v_list : Value} {low : Int} {high : Int} (r_list : (Ty.sl (Ty.i .i64)).rep w v_list list) (r_low : InR .i64 low) (r_high : InR .i64 high) {res : Bool} (h : p_impl_allWithin list low high  = some res) :
    Ret Try.prog 46 #[v_list, (Value.int .i64 low), (Value.int .i64 high)] w (fun v w' => v = Value.bool res ∧ Ext w w') := by
  unfold p_impl_allWithin at h
  have hS0 : St w w [] := St.start w
  refine Ret.start (fn := Try.f46) Try.func46 rfl 11 rfl rfl ?_
  refine W.seq (W.region ?_)
  refine WL.box hS0 rfl (cs := [(Value.int .i64 low)]) rfl rfl ?_
  intro b1 wd2 hS3 he4 hx5
  replace hS3 : St w wd2 [bx b1 [(Value.int .i64 low)]] := hS3
  have hx6 := St.boxAt hS3 0 rfl
  have hE7 : Ext w wd2 := hS3.ext
  have hS8 : St wd2 wd2 [] := St.start wd2
  refine WL.box hS8 rfl (cs := [(Value.int .i64 high)]) rfl rfl ?_
  intro b9 wd10 hS11 he12 hx13
  replace hS11 : St wd2 wd10 [bx b9 [(Value.int .i64 high)]] := hS11
  have hx14 := St.boxAt hS11 0 rfl
  have hE15 : Ext w wd10 := (Ext.trans hE7 hS11.ext)
  have hE16 : Ext wd2 wd10 := hS11.ext
  have hS17 : St wd10 wd10 [] := St.start wd10
  refine WL.val (Value.bool false) _ (op_assign rfl) rfl ?_
  refine WL.nil ?_
  refine W.seq (W.region ?_)
  refine WL.val v_list _ (op_move rfl) rfl ?_
  refine WL.val (Value.func (.func 60) #[] #[(Value.pointer (some ⟨b1, 0, none⟩)), (Value.pointer (some ⟨b9, 0, none⟩))]) _ (op_makeFunc (va := #[]) (vb := #[(Value.pointer (some ⟨b1, 0, none⟩)), (Value.pointer (some ⟨b9, 0, none⟩))]) args0 (args2 rfl rfl)) rfl ?_
  obtain ⟨x22, hx23, h⟩ := bs h
  refine WL.call _ (op_call fn_59 (args2 rfl rfl)) (c_slices_ContainsFunc_Lint64_int64 (Ty.lift _ (Ext.trans hE15 hS17.ext) r_list) (⟨60, #[], #[(Value.pointer (some ⟨b1, 0, none⟩)), (Value.pointer (some ⟨b9, 0, none⟩))], rfl, fn_60, fun wd18 a0_19 r20 he19 ra0_19 hq21 => c_impl_allWithin_c1 ra0_19 (BoxAt.lift (Ext.trans (Ext.trans hE16 hS17.ext) he19) hx6) r_low (BoxAt.lift (Ext.trans hS17.ext he19) hx14) r_high hq21⟩) hx23) rfl ?_
  rintro _ wd24 ⟨rfl, he25⟩
  have hS27 := St.extend hS17 he25
  replace hS27 : St wd10 wd24 [] := hS27
  refine WL.val (Value.bool (!x22)) _ (op_not rfl) rfl ?_
  refine WL.val (Value.bool (!x22)) _ (op_assign rfl) rfl ?_
  refine WL.nil ?_
  refine W.ret ?_
  obtain rfl := Option.some.inj h
  show FinP _ _ _ _ _ _ _
  exact FinP.ret _ (res1 rfl rfl) ⟨rfl, (Ext.trans hE15 hS27.ext)⟩

theorem c_impl_isCube_c1 {w : World} {row : (List Int)} {v_row : Value} {b_c0 : Nat} {c0 : Int} (r_row : (Ty.sl (Ty.i .i64)).rep w v_row row) (k_c0 : BoxAt w b_c0 [(Value.int .i64 c0)]) (r_c0 : InR .i64 c0) {res : Bool} (h : p_impl_isCube_c1 row c0 = some res) :
    Ret Try.prog 51 #[v_row, (Value.pointer (some ⟨b_c0, 0, none⟩))] w (fun v w' => v = Value.bool res ∧ Ext w w') := by
  unfold p_impl_isCube_c1 at h
  have hS0 : St w w [] := St.start w
  refine Ret.start (fn := Try.f51) Try.func51 rfl 13 rfl rfl ?_
  refine W.seq (W.region ?_)
  refine WL.val (Value.bool false) _ (op_assign rfl) rfl ?_
  refine WL.nil ?_
  refine W.seq (W.region ?_)
  refine WL.val v_row _ (op_move rfl) rfl ?_
  have hr1 := inR_len (Ty.lift _ hS0.ext r_row)
  refine WL.val (Value.int .i64 ((row).length : Int)) _ (op_lenL sl_34 (Ty.lift _ hS0.ext r_row) rfl) rfl ?_
  refine WL.val (Value.int .i64 c0) _ (op_load one_3 rfl (BoxAt.cell (BoxAt.lift hS0.ext k_c0) rfl)) rfl ?_
  refine WL.val (Value.bool (((row).length : Int) != c0)) _ (op_neq rfl rfl) rfl ?_
  refine WL.val (Value.bool (((row).length : Int) != c0)) _ (op_move rfl) rfl ?_
  obtain ⟨x3, hj4, h⟩ := bs h
  refine WL.cut 4 (fun fq wq => fq 12 = Value.bool x3 ∧ St w wq []) ?_ ?_
  · rcases Bool.eq_false_or_eq_true (((row).length : Int) != c0) with hc2 | hc2
    · replace hj4 := ip hj4 hc2
      refine WL.gskip rfl (bool_of rfl hc2) rfl ?_
      refine WL.gskip rfl (bool_of rfl hc2) rfl ?_
      refine WL.gskip rfl (bool_of rfl hc2) rfl ?_
      refine WL.val (Value.bool true) _ (op_pick_t (evb_of rfl hc2) rfl) rfl ?_
      refine WL.nil ?_
      obtain rfl := Option.some.inj hj4
      exact ⟨rfl, rfl, hS0⟩
    · replace hj4 := inegb hj4 hc2
      refine WL.grun rfl (bool_of rfl hc2) ?_
      refine WL.val v_row _ (op_move rfl) rfl ?_
      refine WL.grun rfl (bool_of rfl hc2) ?_
      obtain ⟨x8, hx9, hj4⟩ := bs hj4
      refine WL.call _ (op_call fn_46 (args3 rfl rfl rfl)) (c_impl_allWithin (Ty.lift _ hS0.ext r_row) (inL rfl) (inL rfl) hx9) rfl ?_
      rintro _ wd10 ⟨rfl, he11⟩
      have hS13 := St.extend hS0 he11
      replace hS13 : St w wd10 [] := hS13
      refine WL.grun rfl (bool_of rfl hc2) ?_
      refine WL.val (Value.bool (!x8)) _ (op_not rfl) rfl ?_
      refine WL.val (Value.bool (!x8)) _ (op_pick_f (evb_of rfl hc2) rfl) rfl ?_
      refine WL.nil ?_
      obtain rfl := Option.some.inj hj4
      exact ⟨rfl, rfl, hS13⟩
  · intro f5 wd6 hq7
    obtain ⟨hf14, hS15⟩ := hq7
    refine WL.val (Value.bool x3) _ (op_assign hf14) rfl ?_
    refine WL.nil ?_
    refine W.ret ?_
    obtain rfl := Option.some.inj h
    show FinP _ _ _ _ _ _ _
    exact FinP.ret _ (res1 rfl rfl) ⟨rfl, hS15.ext⟩

theorem c_slices_IndexFunc_LLint64_Lint64 {w : World} {s1 : (List (List Int))} {v_s1 : Value} {f1 : (List Int) → Option Bool} {v_f1 : Value} (r_s1 : (Ty.sl (Ty.sl (Ty.i .i64))).rep w v_s1 s1) (r_f1 : FnT_li_to_b Try.prog v_f1 w f1) {res : Int} (h : p_slices_IndexFunc_LLint64_Lint64 s1 f1  = some res) :
    Ret Try.prog 62 #[v_s1, v_f1] w (fun v w' => v = Value.int .i64 res ∧ InR .i64 res ∧ Ext w w') := by
  unfold p_slices_IndexFunc_LLint64_Lint64 at h
  have hS0 : St w w [] := St.start w
  have q_f1 := r_f1
  obtain ⟨g_f1, fst_f1, cap_f1, eq_f1, ok_f1, call_f1⟩ := q_f1
  subst eq_f1
  refine Ret.start (fn := Try.f62) Try.func62 rfl 19 rfl rfl ?_
  refine W.seq (W.region ?_)
  refine WL.val (Value.int .i64 (0 : Int)) _ (op_assign rfl) rfl ?_
  refine WL.nil ?_
  refine W.seq (W.seq (W.region ?_))
  refine WL.val v_s1 _ (op_move rfl) rfl ?_
  have hr1 := inR_len (Ty.lift _ hS0.ext r_s1)
  refine WL.val (Value.int .i64 ((s1).length : Int)) _ (op_lenL sl_54 (Ty.lift _ hS0.ext r_s1) rfl) rfl ?_
  refine WL.val (Value.int .i64 (0 : Int)) _ (op_move rfl) rfl ?_
  refine WL.nil ?_
  show W _ _ _ _ _ _
  obtain ⟨res2, hres3, h⟩ := bs h
  refine W.blockLoop (fun fq wq => ∃ s, res2 = Res.fin s ∧ St w wq []) ?_ ?_
  · refine W.forN (fun k (s : Unit) fq wq => fq 0 = v_s1 ∧ fq 1 = (Value.func (.func g_f1) fst_f1 cap_f1) ∧ fq 7 = (Value.int .i64 ((s1).length : Int)) ∧ fq 8 = Value.int .i64 (k : Int) ∧ InR .i64 (k : Int) ∧ St w wq []) hres3 ⟨rfl, rfl, rfl, rfl, (inL rfl), hS0⟩ ?_ ?_
    · intro k4 s36 ct5 f6 wd7 hk8 hb9 hI10 hbrk11 hret12
      obtain ⟨⟩ := s36
      replace hI10 : f6 0 = v_s1 ∧ f6 1 = (Value.func (.func g_f1) fst_f1 cap_f1) ∧ f6 7 = (Value.int .i64 ((s1).length : Int)) ∧ f6 8 = Value.int .i64 (k4 : Int) ∧ InR .i64 (k4 : Int) ∧ St w wd7 [] := hI10
      replace hb9 : p_slices_IndexFunc_LLint64_Lint64_L1 s1 f1 k4  = some ct5 := hb9
      unfold p_slices_IndexFunc_LLint64_Lint64_L1 at hb9
      obtain ⟨hf13, hf14, hf15, hf16, hr17, hS18⟩ := hI10
      refine W.seq (W.region ?_)
      refine WL.val (Value.bool (decide ((k4 : Int) < ((s1).length : Int)))) _ (op_lss hf16 hf15) rfl ?_
      have hl19 : (k4 : Int) < ((s1).length : Int) := by omega
      refine WL.nil ?_
      refine W.seq ?_
      refine W.condT (decide ((k4 : Int) < ((s1).length : Int))) rfl (decide_eq_true hl19) ?_
      refine W.skip ?_
      refine W.seq ?_
      refine W.block ?_
      refine W.seq (W.region ?_)
      refine WL.val (Value.int .i64 (k4 : Int)) _ (op_move hf16) rfl ?_
      refine WL.val (Value.int .i64 (k4 : Int)) _ (op_assign rfl) rfl ?_
      refine WL.nil ?_
      refine W.seq (W.region ?_)
      refine WL.val (Value.func (.func g_f1) fst_f1 cap_f1) _ (op_move hf14) rfl ?_
      refine WL.val v_s1 _ (op_move hf13) rfl ?_
      refine WL.val (Value.int .i64 (k4 : Int)) _ (op_move rfl) rfl ?_
      obtain ⟨x21, hx24, hb9⟩ := bs hb9
      obtain ⟨ha22, hb23, hx24⟩ := idx_some hx24
      refine WL.val (Value.pointer (some (elA v_s1 ((k4 : Int)).toNat))) _ (op_idx sl_54 (Ty.lift _ hS18.ext r_s1) rfl rfl ha22 hb23) rfl ?_
      obtain ⟨u25, hc26, hr27⟩ := repSl.el r_s1 hx24
      refine WL.val u25 _ (op_load one_34 rfl (Ext.cell hS18.ext hc26)) rfl ?_
      obtain ⟨x28, hx29, hb9⟩ := bs hb9
      refine WL.call _ (op_callV rfl ok_f1 (args1 rfl)) (call_f1 wd7 u25 x21 x28 hS18.ext (Ty.lift _ hS18.ext hr27) hx29) rfl ?_
      rintro _ wd30 ⟨rfl, he31⟩
      have hS33 := St.extend hS18 he31
      refine WL.nil ?_
      refine W.cond x28 rfl (fun hc34 => ?_) (fun hc34 => ?_)
      · replace hb9 := ip hb9 hc34
        refine W.seq (W.region ?_)
        refine WL.val (Value.int .i64 (k4 : Int)) _ (op_move rfl) rfl ?_
        refine WL.val (Value.int .i64 (k4 : Int)) _ (op_assign rfl) rfl ?_
        refine WL.nil ?_
        refine W.ret ?_
        obtain rfl := Option.some.inj hb9
        obtain rfl := hret12 _ rfl
        replace h := onRes_ret h
        obtain rfl := Option.some.inj h
        show FinP _ _ _ _ _ _ _
        exact FinP.ret _ (res1 rfl rfl) ⟨rfl, hr17, hS33.ext⟩
      · replace hb9 := inegb hb9 hc34
        refine W.skip ?_
        show W _ _ _ _ _ _
        refine W.region ?_
        refine WL.val (Value.int .i64 (w64 ((k4 : Int) + (1 : Int)))) _ (op_add hf16 rfl) rfl ?_
        refine WL.val (Value.int .i64 (w64 ((k4 : Int) + (1 : Int)))) _ (op_move rfl) rfl ?_
        refine WL.nil ?_
        obtain rfl := Option.some.inj hb9
        show ∃ s, _ = Ctl.next s ∧ _
        exact ⟨_, rfl, hf13, hf14, hf15, (ctr_next hl19 hr1), (ctr_rng hl19 hr1), hS33⟩
    · intro s41 f37 wd38 hs39 hI40
      obtain ⟨⟩ := s41
      replace hI40 : f37 0 = v_s1 ∧ f37 1 = (Value.func (.func g_f1) fst_f1 cap_f1) ∧ f37 7 = (Value.int .i64 ((s1).length : Int)) ∧ f37 8 = Value.int .i64 (((s1).length : Nat) : Int) ∧ InR .i64 (((s1).length : Nat) : Int) ∧ St w wd38 [] := hI40
      obtain ⟨hf42, hf43, hf44, hf45, hr46, hS47⟩ := hI40
      refine W.seq (W.region ?_)
      refine WL.val (Value.bool (decide ((((s1).length : Nat) : Int) < ((s1).length : Int)))) _ (op_lss hf45 hf44) rfl ?_
      have hl48 : ¬ (((s1).length : Nat) : Int) < ((s1).length : Int) := by omega
      refine WL.nil ?_
      refine W.seq ?_
      refine W.condF (decide ((((s1).length : Nat) : Int) < ((s1).length : Int))) rfl (decide_eq_false hl48) ?_
      refine W.exit ?_
      show _ = _ ∧ _
      exact ⟨rfl, _, hs39, hS47⟩
  · rintro f49 wd50 ⟨s52, rfl, hq51⟩
    replace h := onRes_fin h
    obtain ⟨⟩ := s52
    replace hq51 : St w wd50 [] := hq51
    have hS53 := hq51
    refine W.seq (W.region ?_)
    refine WL.val (Value.int .i64 (-1 : Int)) _ (op_assign rfl) rfl ?_
    refine WL.nil ?_
    refine W.ret ?_
    obtain rfl := Option.some.inj h
    show FinP _ _ _ _ _ _ _
    exact FinP.ret _ (res1 rfl rfl) ⟨rfl, (inR_i64.2 (show (-9223372036854775808 : Int) ≤ -1 ∧ (-1 : Int) ≤ 9223372036854775807 from by decide)), hS53.ext⟩

theorem c_slices_ContainsFunc_LLint64_Lint64 {w : World} {s1 : (List (List Int))} {v_s1 : Value} {f1 : (List Int) → Option Bool} {v_f1 : Value} (r_s1 : (Ty.sl (Ty.sl (Ty.i .i64))).rep w v_s1 s1) (r_f1 : FnT_li_to_b Try.prog v_f1 w f1) {res : Bool} (h : p_slices_ContainsFunc_LLint64_Lint64 s1 f1  = some res) :
    Ret Try.prog 50 #[v_s1, v_f1] w (fun v w' => v = Value.bool res ∧ Ext w w') := by
  unfold p_slices_ContainsFunc_LLint64_Lint64 at h
  have hS0 : St w w [] := St.start w
  have q_f1 := r_f1
  obtain ⟨g_f1, fst_f1, cap_f1, eq_f1, ok_f1, call_f1⟩ := q_f1
  subst eq_f1
  refine Ret.start (fn := Try.f50) Try.func50 rfl 9 rfl rfl ?_
  refine W.seq (W.region ?_)
  refine WL.val (Value.bool false) _ (op_assign rfl) rfl ?_
  refine WL.nil ?_
  refine W.seq (W.region ?_)
  refine WL.val v_s1 _ (op_move rfl) rfl ?_
  refine WL.val (Value.func (.func g_f1) fst_f1 cap_f1) _ (op_move rfl) rfl ?_
  obtain ⟨x1, hx2, h⟩ := bs h
  refine WL.call _ (op_call fn_62 (args2 rfl rfl)) (c_slices_IndexFunc_LLint64_Lint64 (Ty.lift _ hS0.ext r_s1) (FnT_li_to_b.lift hS0.ext r_f1) hx2) rfl ?_
  rintro _ wd4 ⟨rfl, hr3, he5⟩
  have hS7 := St.extend hS0 he5
  replace hS7 : St w wd4 [] := hS7
  refine WL.val (Value.bool (decide (x1 ≥ (0 : Int)))) _ (op_geq rfl rfl) rfl ?_
  refine WL.val (Value.bool (decide (x1 ≥ (0 : Int)))) _ (op_assign rfl) rfl ?_
  refine WL.nil ?_
  refine W.ret ?_
  obtain rfl := Option.some.inj h
  show FinP _ _ _ _ _ _ _
  exact FinP.ret _ (res1 rfl rfl) ⟨rfl, hS7.ext⟩

theorem c_impl_isCube {w : World} {r_Table : (List (List (List Int)))} {v_r_Table : Value} (r_r_Table : (Ty.sl (Ty.sl (Ty.sl (Ty.i .i64)))).rep w v_r_Table r_Table) {res : Bool} (h : p_impl_isCube r_Table  = some res) :
    Ret Try.prog 40 #[(Value.agg #[v_r_Table])] w (fun v w' => v = Value.bool res ∧ Ext w w') := by
  unfold p_impl_isCube at h
  have hS0 : St w w [] := St.start w
  refine Ret.start (fn := Try.f40) Try.func40 rfl 32 rfl rfl ?_
  refine W.seq (W.region ?_)
  refine WL.box hS0 rfl (cs := [v_r_Table]) rfl rfl ?_
  intro b1 wd2 hS3 he4 hx5
  replace hS3 : St w wd2 [bx b1 [v_r_Table]] := hS3
  have hx6 := St.boxAt hS3 0 rfl
  have hE7 : Ext w wd2 := hS3.ext
  have hS8 : St wd2 wd2 [] := St.start wd2
  refine WL.val (Value.bool false) _ (op_assign rfl) rfl ?_
  refine WL.nil ?_
  refine W.seq (W.region ?_)
  refine WL.val (Value.pointer (some ⟨b1, 0, none⟩)) _ (op_fieldAddr fd_28_0 rfl) rfl ?_
  refine WL.val v_r_Table _ (op_load one_22 rfl (BoxAt.cell (BoxAt.lift hS8.ext hx6) rfl)) rfl ?_
  have hr9 := inR_len (Ty.lift _ (Ext.trans hE7 hS8.ext) r_r_Table)
  refine WL.val (Value.int .i64 ((r_Table).length : Int)) _ (op_lenL sl_22 (Ty.lift _ (Ext.trans hE7 hS8.ext) r_r_Table) rfl) rfl ?_
  refine WL.alloc hS8 ze_3 (cs := [(Value.int .i64 (0 : Int))]) rfl rfl ?_
  intro b10 wd11 hS12 he13
  replace hS12 : St wd2 wd11 [bx b10 [(Value.int .i64 (0 : Int))]] := hS12
  refine WL.storeBox [(Value.int .i64 ((r_Table).length : Int))] hS12 (k := 0) rfl rfl rfl (us := [(Value.int .i64 ((r_Table).length : Int))]) rfl sz_3 rfl rfl (all_cons rfl all_nil) rfl ?_
  intro wd14 hS15
  replace hS15 : St wd2 wd14 [bx b10 [(Value.int .i64 ((r_Table).length : Int))]] := hS15
  refine WL.nil ?_
  refine W.seq (W.seq (W.region ?_))
  refine WL.val (Value.pointer (some ⟨b1, 0, none⟩)) _ (op_fieldAddr fd_28_0 rfl) rfl ?_
  refine WL.val v_r_Table _ (op_load one_22 rfl (BoxAt.cell (BoxAt.lift hS15.ext hx6) rfl)) rfl ?_
  have hr16 := inR_len (Ty.lift _ (Ext.trans hE7 hS15.ext) r_r_Table)
  refine WL.val (Value.int .i64 ((r_Table).length : Int)) _ (op_lenL sl_22 (Ty.lift _ (Ext.trans hE7 hS15.ext) r_r_Table) rfl) rfl ?_
  refine WL.val (Value.int .i64 (0 : Int)) _ (op_move rfl) rfl ?_
  refine WL.nil ?_
  show W _ _ _ _ _ _
  obtain ⟨res17, hres18, h⟩ := bs h
  refine W.blockLoop (fun fq wq => ∃ s, res17 = Res.fin s ∧ fq 3 = (Value.pointer (some ⟨b10, 0, none⟩)) ∧ St wd2 wq [bx b10 [(Value.int .i64 ((r_Table).length : Int))]]) ?_ ?_
  · refine W.forN (fun k (s : Unit) fq wq => fq 3 = (Value.pointer (some ⟨b10, 0, none⟩)) ∧ fq 10 = v_r_Table ∧ fq 11 = (Value.int .i64 ((r_Table).length : Int)) ∧ fq 12 = Value.int .i64 (k : Int) ∧ InR .i64 (k : Int) ∧ St wd2 wq [bx b10 [(Value.int .i64 ((r_Table).length : Int))]]) hres18 ⟨rfl, rfl, rfl, rfl, (inL rfl), hS15⟩ ?_ ?_
    · intro k19 s68 ct20 f21 wd22 hk23 hb24 hI25 hbrk26 hret27
      obtain ⟨⟩ := s68
      replace hI25 : f21 3 = (Value.pointer (some ⟨b10, 0, none⟩)) ∧ f21 10 = v_r_Table ∧ f21 11 = (Value.int .i64 ((r_Table).length : Int)) ∧ f21 12 = Value.int .i64 (k19 : Int) ∧ InR .i64 (k19 : Int) ∧ St wd2 wd22 [bx b10 [(Value.int .i64 ((r_Table).length : Int))]] := hI25
      replace hb24 : p_impl_isCube_L1 r_Table k19  = some ct20 := hb24
      unfold p_impl_isCube_L1 at hb24
      obtain ⟨hf28, hf29, hf30, hf31, hr32, hS33⟩ := hI25
      refine W.seq (W.region ?_)
      refine WL.val (Value.bool (decide ((k19 : Int) < ((r_Table).length : Int)))) _ (op_lss hf31 hf30) rfl ?_
      have hl34 : (k19 : Int) < ((r_Table).length : Int) := by omega
      refine WL.nil ?_
      refine W.seq ?_
      refine W.condT (decide ((k19 : Int) < ((r_Table).length : Int))) rfl (decide_eq_true hl34) ?_
      refine W.skip ?_
      refine W.seq ?_
      refine W.block ?_
      refine W.seq (W.region ?_)
      obtain ⟨x36, hx39, hb24⟩ := bs hb24
      obtain ⟨ha37, hb38, hx39⟩ := idx_some hx39
      refine WL.val (Value.pointer (some (elA v_r_Table ((k19 : Int)).toNat))) _ (op_idx sl_22 (Ty.lift _ (Ext.trans hE7 hS33.ext) r_r_Table) hf29 hf31 ha37 hb38) rfl ?_
      obtain ⟨u40, hc41, hr42⟩ := repSl.el r_r_Table hx39
      refine WL.val u40 _ (op_load one_54 rfl (Ext.cell (Ext.trans hE7 hS33.ext) hc41)) rfl ?_
      refine WL.val u40 _ (op_assign rfl) rfl ?_
      refine WL.nil ?_
      refine W.seq (W.region ?_)
      refine WL.val u40 _ (op_move rfl) rfl ?_
      have hr43 := inR_len (Ty.lift _ (Ext.trans hE7 hS33.ext) hr42)
      refine WL.val (Value.int .i64 ((x36).length : Int)) _ (op_lenL sl_54 (Ty.lift _ (Ext.trans hE7 hS33.ext) hr42) rfl) rfl ?_
      refine WL.val (Value.int .i64 ((r_Table).length : Int)) _ (op_load one_3 hf28 (BoxAt.cell (St.boxAt hS33 0 rfl) rfl)) rfl ?_
      refine WL.val (Value.bool (((x36).length : Int) != ((r_Table).length : Int))) _ (op_neq rfl rfl) rfl ?_
      refine WL.val (Value.bool (((x36).length : Int) != ((r_Table).length : Int))) _ (op_move rfl) rfl ?_
      obtain ⟨x45, hj46, hb24⟩ := bs hb24
      refine WL.cut 4 (fun fq wq => fq 3 = (Value.pointer (some ⟨b10, 0, none⟩)) ∧ fq 10 = v_r_Table ∧ fq 11 = (Value.int .i64 ((r_Table).length : Int)) ∧ fq 12 = (Value.int .i64 (k19 : Int)) ∧ fq 24 = Value.bool x45 ∧ St wd2 wq [bx b10 [(Value.int .i64 ((r_Table).length : Int))]]) ?_ ?_
      · rcases Bool.eq_false_or_eq_true (((x36).length : Int) != ((r_Table).length : Int)) with hc44 | hc44
        · replace hj46 := ip hj46 hc44
          refine WL.gskip rfl (bool_of rfl hc44) rfl ?_
          refine WL.gskip rfl (bool_of rfl hc44) rfl ?_
          refine WL.gskip rfl (bool_of rfl hc44) rfl ?_
          refine WL.val (Value.bool true) _ (op_pick_t (evb_of rfl hc44) rfl) rfl ?_
          refine WL.nil ?_
          obtain rfl := Option.some.inj hj46
          exact ⟨rfl, hf28, hf29, hf30, hf31, rfl, hS33⟩
        · replace hj46 := inegb hj46 hc44
          refine WL.grun rfl (bool_of rfl hc44) ?_
          refine WL.val u40 _ (op_move rfl) rfl ?_
          refine WL.grun rfl (bool_of rfl hc44) ?_
          refine WL.val (Value.func (.func 51) #[] #[(Value.pointer (some ⟨b10, 0, none⟩))]) _ (op_makeFunc (va := #[]) (vb := #[(Value.pointer (some ⟨b10, 0, none⟩))]) args0 (args1 hf28)) rfl ?_
          refine WL.grun rfl (bool_of rfl hc44) ?_
          obtain ⟨x54, hx55, hj46⟩ := bs hj46
          refine WL.call _ (op_call fn_50 (args2 rfl rfl)) (c_slices_ContainsFunc_LLint64_Lint64 (Ty.lift _ (Ext.trans hE7 hS33.ext) hr42) (⟨51, #[], #[(Value.pointer (some ⟨b10, 0, none⟩))], rfl, fn_51, fun wd50 u0_51 a0_51 r52 he51 ra0_51 hq53 => c_impl_isCube_c1 ra0_51 (BoxAt.lift he51 (St.boxAt hS33 0 rfl)) hr9 hq53⟩) hx55) rfl ?_
          rintro _ wd56 ⟨rfl, he57⟩
          have hS59 := St.extend hS33 he57
          replace hS59 : St wd2 wd56 [bx b10 [(Value.int .i64 ((r_Table).length : Int))]] := hS59
          refine WL.val (Value.bool x54) _ (op_pick_f (evb_of rfl hc44) rfl) rfl ?_
          refine WL.nil ?_
          obtain rfl := Option.some.inj hj46
          exact ⟨rfl, hf28, hf29, hf30, hf31, rfl, hS59⟩
      · intro f47 wd48 hq49
        obtain ⟨hf60, hf61, hf62, hf63, hf64, hS65⟩ := hq49
        refine WL.nil ?_
        refine W.cond x45 hf64 (fun hc66 => ?_) (fun hc66 => ?_)
        · replace hb24 := ip hb24 hc66
          refine W.seq (W.region ?_)
          refine WL.val (Value.bool false) _ (op_assign rfl) rfl ?_
          refine WL.nil ?_
          refine W.ret ?_
          obtain rfl := Option.some.inj hb24
          obtain rfl := hret27 _ rfl
          replace h := onRes_ret h
          obtain rfl := Option.some.inj h
          show FinP _ _ _ _ _ _ _
          exact FinP.ret _ (res1 rfl rfl) ⟨rfl, (Ext.trans hE7 hS65.ext)⟩
        · replace hb24 := inegb hb24 hc66
          refine W.skip ?_
          show W _ _ _ _ _ _
          refine W.region ?_
          refine WL.val (Value.int .i64 (w64 ((k19 : Int) + (1 : Int)))) _ (op_add hf63 rfl) rfl ?_
          refine WL.val (Value.int .i64 (w64 ((k19 : Int) + (1 : Int)))) _ (op_move rfl) rfl ?_
          refine WL.nil ?_
          obtain rfl := Option.some.inj hb24
          show ∃ s, _ = Ctl.next s ∧ _
          exact ⟨_, rfl, hf60, hf61, hf62, (ctr_next hl34 hr16), (ctr_rng hl34 hr16), hS65⟩
    · intro s73 f69 wd70 hs71 hI72
      obtain ⟨⟩ := s73
      replace hI72 : f69 3 = (Value.pointer (some ⟨b10, 0, none⟩)) ∧ f69 10 = v_r_Table ∧ f69 11 = (Value.int .i64 ((r_Table).length : Int)) ∧ f69 12 = Value.int .i64 (((r_Table).length : Nat) : Int) ∧ InR .i64 (((r_Table).length : Nat) : Int) ∧ St wd2 wd70 [bx b10 [(Value.int .i64 ((r_Table).length : Int))]] := hI72
      obtain ⟨hf74, hf75, hf76, hf77, hr78, hS79⟩ := hI72
      refine W.seq (W.region ?_)
      refine WL.val (Value.bool (decide ((((r_Table).length : Nat) : Int) < ((r_Table).length : Int)))) _ (op_lss hf77 hf76) rfl ?_
      have hl80 : ¬ (((r_Table).length : Nat) : Int) < ((r_Table).length : Int) := by omega
      refine WL.nil ?_
      refine W.seq ?_
      refine W.condF (decide ((((r_Table).length : Nat) : Int) < ((r_Table).length : Int))) rfl (decide_eq_false hl80) ?_
      refine W.exit ?_
      show _ = _ ∧ _
      exact ⟨rfl, _, hs71, hf74, hS79⟩
  · rintro f81 wd82 ⟨s84, rfl, hq83⟩
    replace h := onRes_fin h
    obtain ⟨⟩ := s84
    replace hq83 : f81 3 = (Value.pointer (some ⟨b10, 0, none⟩)) ∧ St wd2 wd82 [bx b10 [(Value.int .i64 ((r_Table).length : Int))]] := hq83
    obtain ⟨hf85, hS86⟩ := hq83
    refine W.seq (W.region ?_)
    refine WL.val (Value.int .i64 ((r_Table).length : Int)) _ (op_load one_3 hf85 (BoxAt.cell (St.boxAt hS86 0 rfl) rfl)) rfl ?_
    refine WL.val (Value.bool (decide (((r_Table).length : Int) ≥ (1 : Int)))) _ (op_geq rfl rfl) rfl ?_
    refine WL.val (Value.bool (decide (((r_Table).length : Int) ≥ (1 : Int)))) _ (op_move rfl) rfl ?_
    refine WL.cut 3 (fun fq wq => fq 31 = (Value.bool ((decide (((r_Table).length : Int) ≥ (1 : Int))) && (decide (((r_Table).length : Int) ≤ (16 : Int))))) ∧ St wd2 wq []) ?_ ?_
    · rcases Bool.eq_false_or_eq_true (decide (((r_Table).length : Int) ≥ (1 : Int))) with hc87 | hc87
      · refine WL.grun rfl (bool_of rfl hc87) ?_
        refine WL.val (Value.int .i64 ((r_Table).length : Int)) _ (op_load one_3 hf85 (BoxAt.cell (St.boxAt hS86 0 rfl) rfl)) rfl ?_
        refine WL.grun rfl (bool_of rfl hc87) ?_
        refine WL.val (Value.bool (decide (((r_Table).length : Int) ≤ (16 : Int)))) _ (op_leq rfl rfl) rfl ?_
        refine WL.val (Value.bool (decide (((r_Table).length : Int) ≤ (16 : Int)))) _ (op_pick_t (evb_of rfl hc87) rfl) rfl ?_
        refine WL.nil ?_
        exact ⟨rfl, (andT hc87), (St.pick hS86 [] rfl)⟩
      · refine WL.gskip rfl (bool_of rfl hc87) rfl ?_
        refine WL.gskip rfl (bool_of rfl hc87) rfl ?_
        refine WL.val (Value.bool false) _ (op_pick_f (evb_of rfl hc87) rfl) rfl ?_
        refine WL.nil ?_
        exact ⟨rfl, (andF hc87), (St.pick hS86 [] rfl)⟩
    · intro f88 wd89 hq90
      obtain ⟨hf91, hS92⟩ := hq90
      refine WL.val (Value.bool ((decide (((r_Table).length : Int) ≥ (1 : Int))) && (decide (((r_Table).length : Int) ≤ (16 : Int))))) _ (op_assign hf91) rfl ?_
      refine WL.nil ?_
      refine W.ret ?_
      obtain rfl := Option.some.inj h
      show FinP _ _ _ _ _ _ _
      exact FinP.ret _ (res1 rfl rfl) ⟨rfl, (Ext.trans hE7 hS92.ext)⟩

theorem c_impl_delta {w : World} {i : Int} {k1 : Int} (r_i : InR .i64 i) (r_k1 : InR .i64 k1) {res : Int} (h : p_impl_delta i k1  = some res) :
    Ret Try.prog 63 #[(Value.int .i64 i), (Value.int .i64 k1)] w (fun v w' => v = Value.int .i64 res ∧ InR .i64 res ∧ Ext w w') := by
  unfold p_impl_delta at h
  have hS0 : St w w [] := St.start w
  refine Ret.start (fn := Try.f63) Try.func63 rfl 8 rfl rfl ?_
  refine W.seq (W.region ?_)
  refine WL.val (Value.int .i64 (0 : Int)) _ (op_assign rfl) rfl ?_
  refine WL.nil ?_
  refine W.seq (W.seq (W.region ?_))
  refine WL.val (Value.int .i64 i) _ (op_move rfl) rfl ?_
  refine WL.val (Value.int .i64 k1) _ (op_move rfl) rfl ?_
  refine WL.val (Value.bool (i == k1)) _ (op_eql rfl rfl) rfl ?_
  refine WL.nil ?_
  refine W.cond (i == k1) rfl (fun hc1 => ?_) (fun hc1 => ?_)
  · replace h := ip h hc1
    refine W.seq (W.region ?_)
    refine WL.val (Value.int .i64 (1 : Int)) _ (op_assign rfl) rfl ?_
    refine WL.nil ?_
    refine W.ret ?_
    obtain rfl := Option.some.inj h
    show FinP _ _ _ _ _ _ _
    exact FinP.ret _ (res1 rfl rfl) ⟨rfl, (inL rfl), hS0.ext⟩
  · replace h := inegb h hc1
    refine W.skip ?_
    refine W.seq (W.region ?_)
    refine WL.val (Value.int .i64 (0 : Int)) _ (op_assign rfl) rfl ?_
    refine WL.nil ?_
    refine W.ret ?_
    obtain rfl := Option.some.inj h
    show FinP _ _ _ _ _ _ _
    exact FinP.ret _ (res1 rfl rfl) ⟨rfl, (inL rfl), hS0.ext⟩

theorem c_impl_Ring_unitFault {w : World} {r_Table : (List (List (List Int)))} {v_r_Table : Value} (r_r_Table : (Ty.sl (Ty.sl (Ty.sl (Ty.i .i64)))).rep w v_r_Table r_Table) {res : (List Int)} (h : p_impl_Ring_unitFault r_Table  = some res) :
    Ret Try.prog 52 #[(Value.agg #[v_r_Table])] w (fun v w' => ∃ (u0 : Value), v = u0 ∧ NilIff u0 res ∧ Ext w w' ∧ Sep w.heap.size w' [(Ty.sl (Ty.i .i64)).at u0 res]) := by
  unfold p_impl_Ring_unitFault at h
  have hS0 : St w w [] := St.start w
  refine Ret.start (fn := Try.f52) Try.func52 rfl 52 rfl rfl ?_
  refine W.seq (W.region ?_)
  refine WL.box hS0 rfl (cs := [v_r_Table]) rfl rfl ?_
  intro b1 wd2 hS3 he4 hx5
  replace hS3 : St w wd2 [bx b1 [v_r_Table]] := hS3
  have hx6 := St.boxAt hS3 0 rfl
  have hE7 : Ext w wd2 := hS3.ext
  have hS8 : St wd2 wd2 [] := St.start wd2
  refine WL.val (Value.slice none 0 0) _ (op_assign rfl) rfl ?_
  refine WL.nil ?_
  refine W.seq (W.seq (W.region ?_))
  refine WL.val (Value.pointer (some ⟨b1, 0, none⟩)) _ (op_fieldAddr fd_28_0 rfl) rfl ?_
  refine WL.val v_r_Table _ (op_load one_22 rfl (BoxAt.cell (BoxAt.lift hS8.ext hx6) rfl)) rfl ?_
  have hr9 := inR_len (Ty.lift _ (Ext.trans hE7 hS8.ext) r_r_Table)
  refine WL.val (Value.int .i64 ((r_Table).length : Int)) _ (op_lenL sl_22 (Ty.lift _ (Ext.trans hE7 hS8.ext) r_r_Table) rfl) rfl ?_
  refine WL.val (Value.int .i64 (0 : Int)) _ (op_move rfl) rfl ?_
  refine WL.nil ?_
  show W _ _ _ _ _ _
  obtain ⟨res10, hres11, h⟩ := bs h
  refine W.blockLoop (fun fq wq => ∃ s, res10 = Res.fin s ∧ St wd2 wq []) ?_ ?_
  · refine W.forN (fun k (s : Unit) fq wq => fq 1 = (Value.pointer (some ⟨b1, 0, none⟩)) ∧ fq 7 = (Value.int .i64 ((r_Table).length : Int)) ∧ fq 8 = Value.int .i64 (k : Int) ∧ InR .i64 (k : Int) ∧ St wd2 wq []) hres11 ⟨rfl, rfl, rfl, (inL rfl), hS8⟩ ?_ ?_
    · intro k12 s672 ct13 f14 wd15 hk16 hb17 hI18 hbrk19 hret20
      obtain ⟨⟩ := s672
      replace hI18 : f14 1 = (Value.pointer (some ⟨b1, 0, none⟩)) ∧ f14 7 = (Value.int .i64 ((r_Table).length : Int)) ∧ f14 8 = Value.int .i64 (k12 : Int) ∧ InR .i64 (k12 : Int) ∧ St wd2 wd15 [] := hI18
      replace hb17 : p_impl_Ring_unitFault_L1 r_Table k12  = some ct13 := hb17
      unfold p_impl_Ring_unitFault_L1 at hb17
      obtain ⟨hf21, hf22, hf23, hr24, hS25⟩ := hI18
      refine W.seq (W.region ?_)
      refine WL.val (Value.bool (decide ((k12 : Int) < ((r_Table).length : Int)))) _ (op_lss hf23 hf22) rfl ?_
      have hl26 : (k12 : Int) < ((r_Table).length : Int) := by omega
      refine WL.nil ?_
      refine W.seq ?_
      refine W.condT (decide ((k12 : Int) < ((r_Table).length : Int))) rfl (decide_eq_true hl26) ?_
      refine W.skip ?_
      refine W.seq ?_
      refine W.block ?_
      refine W.seq (W.region ?_)
      refine WL.val (Value.int .i64 (k12 : Int)) _ (op_move hf23) rfl ?_
      refine WL.val (Value.int .i64 (k12 : Int)) _ (op_assign rfl) rfl ?_
      refine WL.nil ?_
      refine W.seq (W.region ?_)
      refine WL.val (Value.pointer (some ⟨b1, 0, none⟩)) _ (op_fieldAddr fd_28_0 hf21) rfl ?_
      refine WL.val v_r_Table _ (op_load one_22 rfl (BoxAt.cell (BoxAt.lift hS25.ext hx6) rfl)) rfl ?_
      have hr28 := inR_len (Ty.lift _ (Ext.trans hE7 hS25.ext) r_r_Table)
      refine WL.val (Value.int .i64 ((r_Table).length : Int)) _ (op_lenL sl_22 (Ty.lift _ (Ext.trans hE7 hS25.ext) r_r_Table) rfl) rfl ?_
      refine WL.val (Value.int .i64 (0 : Int)) _ (op_move rfl) rfl ?_
      refine WL.nil ?_
      show W _ _ _ _ _ _
      obtain ⟨res29, hres30, hb17⟩ := bs hb17
      refine W.blockLoop (fun fq wq => ∃ s, res29 = Res.fin s ∧ fq 1 = (Value.pointer (some ⟨b1, 0, none⟩)) ∧ fq 7 = (Value.int .i64 ((r_Table).length : Int)) ∧ fq 8 = (Value.int .i64 (k12 : Int)) ∧ St wd2 wq []) ?_ ?_
      · refine W.forN (fun k (s : Unit) fq wq => fq 1 = (Value.pointer (some ⟨b1, 0, none⟩)) ∧ fq 3 = (Value.int .i64 (k12 : Int)) ∧ fq 7 = (Value.int .i64 ((r_Table).length : Int)) ∧ fq 8 = (Value.int .i64 (k12 : Int)) ∧ fq 13 = (Value.int .i64 ((r_Table).length : Int)) ∧ fq 14 = Value.int .i64 (k : Int) ∧ InR .i64 (k : Int) ∧ St wd2 wq []) hres30 ⟨hf21, rfl, hf22, hf23, rfl, rfl, (inL rfl), hS25⟩ ?_ ?_
        · intro k31 s648 ct32 f33 wd34 hk35 hb36 hI37 hbrk38 hret39
          obtain ⟨⟩ := s648
          replace hI37 : f33 1 = (Value.pointer (some ⟨b1, 0, none⟩)) ∧ f33 3 = (Value.int .i64 (k12 : Int)) ∧ f33 7 = (Value.int .i64 ((r_Table).length : Int)) ∧ f33 8 = (Value.int .i64 (k12 : Int)) ∧ f33 13 = (Value.int .i64 ((r_Table).length : Int)) ∧ f33 14 = Value.int .i64 (k31 : Int) ∧ InR .i64 (k31 : Int) ∧ St wd2 wd34 [] := hI37
          replace hb36 : p_impl_Ring_unitFault_L2 r_Table k12 k31  = some ct32 := hb36
          unfold p_impl_Ring_unitFault_L2 at hb36
          obtain ⟨hf40, hf41, hf42, hf43, hf44, hf45, hr46, hS47⟩ := hI37
          refine W.seq (W.region ?_)
          refine WL.val (Value.bool (decide ((k31 : Int) < ((r_Table).length : Int)))) _ (op_lss hf45 hf44) rfl ?_
          have hl48 : (k31 : Int) < ((r_Table).length : Int) := by omega
          refine WL.nil ?_
          refine W.seq ?_
          refine W.condT (decide ((k31 : Int) < ((r_Table).length : Int))) rfl (decide_eq_true hl48) ?_
          refine W.skip ?_
          refine W.seq ?_
          refine W.block ?_
          refine W.seq (W.region ?_)
          refine WL.val (Value.int .i64 (k31 : Int)) _ (op_move hf45) rfl ?_
          refine WL.val (Value.int .i64 (k31 : Int)) _ (op_assign rfl) rfl ?_
          refine WL.nil ?_
          refine W.seq ?_
          obtain ⟨x77, hx80, hb36⟩ := bs hb36
          obtain ⟨ha78, hb79, hx80⟩ := idx_some hx80
          obtain ⟨u91, hc92, hr93⟩ := repSl.el r_r_Table hx80
          obtain ⟨x116, hx119, hb36⟩ := bs hb36
          obtain ⟨ha117, hb118, hx119⟩ := idx_some hx119
          obtain ⟨u130, hc131, hr132⟩ := repSl.el hr93 hx119
          obtain ⟨x155, hx158, hb36⟩ := bs hb36
          obtain ⟨ha156, hb157, hx158⟩ := idx_some hx158
          obtain ⟨u169, hc170, hr171⟩ := repSl.el hr132 hx158
          obtain ⟨rfl, hr171⟩ := hr171
          obtain ⟨x202, hx203, hb36⟩ := bs hb36
          obtain ⟨x234, hj235, hb36⟩ := bs hb36
          refine W.cutCode (fun fq wq => fq 1 = (Value.pointer (some ⟨b1, 0, none⟩)) ∧ fq 3 = (Value.int .i64 (k12 : Int)) ∧ fq 4 = (Value.int .i64 (k31 : Int)) ∧ fq 7 = (Value.int .i64 ((r_Table).length : Int)) ∧ fq 8 = (Value.int .i64 (k12 : Int)) ∧ fq 13 = (Value.int .i64 ((r_Table).length : Int)) ∧ fq 14 = (Value.int .i64 (k31 : Int)) ∧ fq 46 = Value.bool x234 ∧ St wd2 wq []) ?_ ?_
          · rcases Bool.eq_false_or_eq_true (x155 != x202) with hc236 | hc236
            · replace hj235 := ip hj235 hc236
              refine W.drawR mixo 28 [] [fun _ v _ _ => v = (Value.pointer (some ⟨b1, 0, none⟩)), fun _ v _ _ => v = v_r_Table, fun _ v _ _ => v = (Value.pointer (some (elA v_r_Table ((0 : Int)).toNat))), fun _ v _ _ => v = u91, fun _ v _ _ => v = (Value.int .i64 (k12 : Int)) ∧ InR .i64 (k12 : Int), fun _ v _ _ => v = (Value.pointer (some (elA u91 ((k12 : Int)).toNat))), fun _ v _ _ => v = u130, fun _ v _ _ => v = (Value.int .i64 (k31 : Int)) ∧ InR .i64 (k31 : Int), fun _ v _ _ => v = (Value.pointer (some (elA u130 ((k31 : Int)).toNat))), fun _ v _ _ => v = (Value.int .i64 x155) ∧ InR .i64 x155, fun _ v _ _ => v = (Value.int .i64 (k12 : Int)) ∧ InR .i64 (k12 : Int), fun _ v _ _ => v = (Value.int .i64 (k31 : Int)) ∧ InR .i64 (k31 : Int), fun _ v _ _ => v = (Value.int .i64 x202) ∧ InR .i64 x202, fun _ v _ _ => v = (Value.bool (x155 != x202)), fun _ v _ _ => v = (Value.bool (x155 != x202)), fun _ v _ _ => v = undef, fun _ v _ _ => v = undef, fun _ v _ _ => v = undef, fun _ v _ _ => v = undef, fun _ v _ _ => v = undef, fun _ v _ _ => v = undef, fun _ v _ _ => v = undef, fun _ v _ _ => v = undef, fun _ v _ _ => v = undef, fun _ v _ _ => v = undef, fun _ v _ _ => v = undef, fun _ v _ _ => v = undef, fun _ v _ _ => v = undef] (by kernel_rfl) (by kernel_rfl) ⟨pk, pk, pk, pk, pk, pk, pk, pk, pk, pk, pk, pk, pk, pk, pk, pk, pk, pk, pk, pk, pk, pk, pk, pk, pk, pk, pk, pk, trivial⟩ ⟨?_, ?_, ?_, ?_, ?_, ?_, ?_, ?_, ?_, ?_, ?_, ?_, ?_, ?_, ?_, ?_, ?_, ?_, ?_, ?_, ?_, ?_, ?_, ?_, ?_, ?_, ?_, ?_, trivial⟩ ?_
              · refine ObX.op rfl fun f50 wd51 he52 hout53 hphi54 => ?_
                have hS55 := St.extend hS47 he52
                have e56 : f50 1 = (Value.pointer (some ⟨b1, 0, none⟩)) := (hout53 1 rfl).trans hf40
                exact OpX.val (Value.pointer (some ⟨b1, 0, none⟩)) wd51 rfl (op_fieldAddr fd_28_0 e56) (Ext.refl _) rfl
              · refine ObX.op rfl fun f57 wd58 he59 hout60 hphi61 => ?_
                have hS62 := St.extend hS47 he59
                obtain ⟨S63, hS64, hf65⟩ := hphi61 0 17 _ rfl rfl rfl
                have e66 : f57 17 = (Value.pointer (some ⟨b1, 0, none⟩)) := hf65
                exact OpX.val v_r_Table wd58 rfl (op_load one_22 e66 (BoxAt.cell (BoxAt.lift hS62.ext hx6) rfl)) (Ext.refl _) rfl
              · refine ObX.op rfl fun f67 wd68 he69 hout70 hphi71 => ?_
                have hS72 := St.extend hS47 he69
                obtain ⟨S73, hS74, hf75⟩ := hphi71 1 18 _ rfl rfl rfl
                have e76 : f67 18 = v_r_Table := hf75
                exact OpX.val (Value.pointer (some (elA v_r_Table ((0 : Int)).toNat))) wd68 rfl (op_idx sl_22 (Ty.lift _ (Ext.trans hE7 hS72.ext) r_r_Table) e76 rfl ha78 hb79) (Ext.refl _) rfl
              · refine ObX.op rfl fun f81 wd82 he83 hout84 hphi85 => ?_
                have hS86 := St.extend hS47 he83
                obtain ⟨S87, hS88, hf89⟩ := hphi85 2 19 _ rfl rfl rfl
                have e90 : f81 19 = (Value.pointer (some (elA v_r_Table ((0 : Int)).toNat))) := hf89
                exact OpX.val u91 wd82 rfl (op_load one_54 e90 (Ext.cell (Ext.trans hE7 hS86.ext) hc92)) (Ext.refl _) rfl
              · refine ObX.op rfl fun f94 wd95 he96 hout97 hphi98 => ?_
                have hS99 := St.extend hS47 he96
                have e100 : f94 3 = (Value.int .i64 (k12 : Int)) := (hout97 3 rfl).trans hf41
                exact OpX.val (Value.int .i64 (k12 : Int)) wd95 rfl (op_move e100) (Ext.refl _) ⟨rfl, hr24⟩
              · refine ObX.op rfl fun f101 wd102 he103 hout104 hphi105 => ?_
                have hS106 := St.extend hS47 he103
                obtain ⟨S107, hS108, hf109⟩ := hphi105 3 20 _ rfl rfl rfl
                have e110 : f101 20 = u91 := hf109
                obtain ⟨S111, hS112, hf113⟩ := hphi105 4 21 _ rfl rfl rfl
                obtain ⟨e114, hr115⟩ := hf113
                exact OpX.val (Value.pointer (some (elA u91 ((k12 : Int)).toNat))) wd102 rfl (op_idx sl_54 (Ty.lift _ (Ext.trans hE7 hS106.ext) hr93) e110 e114 ha117 hb118) (Ext.refl _) rfl
              · refine ObX.op rfl fun f120 wd121 he122 hout123 hphi124 => ?_
                have hS125 := St.extend hS47 he122
                obtain ⟨S126, hS127, hf128⟩ := hphi124 5 22 _ rfl rfl rfl
                have e129 : f120 22 = (Value.pointer (some (elA u91 ((k12 : Int)).toNat))) := hf128
                exact OpX.val u130 wd121 rfl (op_load one_34 e129 (Ext.cell (Ext.trans hE7 hS125.ext) hc131)) (Ext.refl _) rfl
              · refine ObX.op rfl fun f133 wd134 he135 hout136 hphi137 => ?_
                have hS138 := St.extend hS47 he135
                have e139 : f133 4 = (Value.int .i64 (k31 : Int)) := (hout136 4 rfl).trans rfl
                exact OpX.val (Value.int .i64 (k31 : Int)) wd134 rfl (op_move e139) (Ext.refl _) ⟨rfl, hr46⟩
              · refine ObX.op rfl fun f140 wd141 he142 hout143 hphi144 => ?_
                have hS145 := St.extend hS47 he142
                obtain ⟨S146, hS147, hf148⟩ := hphi144 6 23 _ rfl rfl rfl
                have e149 : f140 23 = u130 := hf148
                obtain ⟨S150, hS151, hf152⟩ := hphi144 7 24 _ rfl rfl rfl
                obtain ⟨e153, hr154⟩ := hf152
                exact OpX.val (Value.pointer (some (elA u130 ((k31 : Int)).toNat))) wd141 rfl (op_idx sl_34 (Ty.lift _ (Ext.trans hE7 hS145.ext) hr132) e149 e153 ha156 hb157) (Ext.refl _) rfl
              · refine ObX.op rfl fun f159 wd160 he161 hout162 hphi163 => ?_
                have hS164 := St.extend hS47 he161
                obtain ⟨S165, hS166, hf167⟩ := hphi163 8 25 _ rfl rfl rfl
                have e168 : f159 25 = (Value.pointer (some (elA u130 ((k31 : Int)).toNat))) := hf167
                exact OpX.val (Value.int .i64 x155) wd160 rfl (op_load one_2 e168 (Ext.cell (Ext.trans hE7 hS164.ext) hc170)) (Ext.refl _) ⟨rfl, hr171⟩
              · refine ObX.op rfl fun f172 wd173 he174 hout175 hphi176 => ?_
                have hS177 := St.extend hS47 he174
                have e178 : f172 3 = (Value.int .i64 (k12 : Int)) := (hout175 3 rfl).trans hf41
                exact OpX.val (Value.int .i64 (k12 : Int)) wd173 rfl (op_move e178) (Ext.refl _) ⟨rfl, hr24⟩
              · refine ObX.op rfl fun f179 wd180 he181 hout182 hphi183 => ?_
                have hS184 := St.extend hS47 he181
                have e185 : f179 4 = (Value.int .i64 (k31 : Int)) := (hout182 4 rfl).trans rfl
                exact OpX.val (Value.int .i64 (k31 : Int)) wd180 rfl (op_move e185) (Ext.refl _) ⟨rfl, hr46⟩
              · refine ObX.op rfl fun f186 wd187 he188 hout189 hphi190 => ?_
                have hS191 := St.extend hS47 he188
                obtain ⟨S192, hS193, hf194⟩ := hphi190 10 27 _ rfl rfl rfl
                obtain ⟨e195, hr196⟩ := hf194
                obtain ⟨S197, hS198, hf199⟩ := hphi190 11 28 _ rfl rfl rfl
                obtain ⟨e200, hr201⟩ := hf199
                refine OpX.call rfl (op_call fn_63 (args2 e195 e200)) (Ret.mono (c_impl_delta hr196 hr201 hx203) ?_)
                rintro _ wd205 ⟨rfl, hr204, he206⟩
                exact ⟨he206, _, noS _ _, ⟨rfl, hr204⟩⟩
              · refine ObX.op rfl fun f208 wd209 he210 hout211 hphi212 => ?_
                have hS213 := St.extend hS47 he210
                obtain ⟨S214, hS215, hf216⟩ := hphi212 9 26 _ rfl rfl rfl
                obtain ⟨e217, hr218⟩ := hf216
                obtain ⟨S219, hS220, hf221⟩ := hphi212 12 29 _ rfl rfl rfl
                obtain ⟨e222, hr223⟩ := hf221
                exact OpX.val (Value.bool (x155 != x202)) wd209 rfl (op_neq e217 e222) (Ext.refl _) rfl
              · refine ObX.op rfl fun f224 wd225 he226 hout227 hphi228 => ?_
                have hS229 := St.extend hS47 he226
                obtain ⟨S230, hS231, hf232⟩ := hphi228 13 30 _ rfl rfl rfl
                have e233 : f224 30 = (Value.bool (x155 != x202)) := hf232
                exact OpX.val (Value.bool (x155 != x202)) wd225 rfl (op_move e233) (Ext.refl _) rfl
              · refine ObX.op rfl fun f237 wd238 he239 hout240 hphi241 => ?_
                obtain ⟨S242, hS243, hf244⟩ := hphi241 14 31 _ rfl rfl rfl
                have e245 : f237 31 = (Value.bool (x155 != x202)) := hf244
                exact OpX.skip (wanted_skip rfl rfl e245 hc236) rfl
              · refine ObX.op rfl fun f246 wd247 he248 hout249 hphi250 => ?_
                obtain ⟨S251, hS252, hf253⟩ := hphi250 14 31 _ rfl rfl rfl
                have e254 : f246 31 = (Value.bool (x155 != x202)) := hf253
                exact OpX.skip (wanted_skip rfl rfl e254 hc236) rfl
              · refine ObX.op rfl fun f255 wd256 he257 hout258 hphi259 => ?_
                obtain ⟨S260, hS261, hf262⟩ := hphi259 14 31 _ rfl rfl rfl
                have e263 : f255 31 = (Value.bool (x155 != x202)) := hf262
                exact OpX.skip (wanted_skip rfl rfl e263 hc236) rfl
              · refine ObX.op rfl fun f264 wd265 he266 hout267 hphi268 => ?_
                obtain ⟨S269, hS270, hf271⟩ := hphi268 14 31 _ rfl rfl rfl
                have e272 : f264 31 = (Value.bool (x155 != x202)) := hf271
                exact OpX.skip (wanted_skip rfl rfl e272 hc236) rfl
              · refine ObX.op rfl fun f273 wd274 he275 hout276 hphi277 => ?_
                obtain ⟨S278, hS279, hf280⟩ := hphi277 14 31 _ rfl rfl rfl
                have e281 : f273 31 = (Value.bool (x155 != x202)) := hf280
                exact OpX.skip (wanted_skip rfl rfl e281 hc236) rfl
              · refine ObX.op rfl fun f282 wd283 he284 hout285 hphi286 => ?_
                obtain ⟨S287, hS288, hf289⟩ := hphi286 14 31 _ rfl rfl rfl
                have e290 : f282 31 = (Value.bool (x155 != x202)) := hf289
                exact OpX.skip (wanted_skip rfl rfl e290 hc236) rfl
              · refine ObX.op rfl fun f291 wd292 he293 hout294 hphi295 => ?_
                obtain ⟨S296, hS297, hf298⟩ := hphi295 14 31 _ rfl rfl rfl
                have e299 : f291 31 = (Value.bool (x155 != x202)) := hf298
                exact OpX.skip (wanted_skip rfl rfl e299 hc236) rfl
              · refine ObX.op rfl fun f300 wd301 he302 hout303 hphi304 => ?_
                obtain ⟨S305, hS306, hf307⟩ := hphi304 14 31 _ rfl rfl rfl
                have e308 : f300 31 = (Value.bool (x155 != x202)) := hf307
                exact OpX.skip (wanted_skip rfl rfl e308 hc236) rfl
              · refine ObX.op rfl fun f309 wd310 he311 hout312 hphi313 => ?_
                obtain ⟨S314, hS315, hf316⟩ := hphi313 14 31 _ rfl rfl rfl
                have e317 : f309 31 = (Value.bool (x155 != x202)) := hf316
                exact OpX.skip (wanted_skip rfl rfl e317 hc236) rfl
              · refine ObX.op rfl fun f318 wd319 he320 hout321 hphi322 => ?_
                obtain ⟨S323, hS324, hf325⟩ := hphi322 14 31 _ rfl rfl rfl
                have e326 : f318 31 = (Value.bool (x155 != x202)) := hf325
                exact OpX.skip (wanted_skip rfl rfl e326 hc236) rfl
              · refine ObX.op rfl fun f327 wd328 he329 hout330 hphi331 => ?_
                obtain ⟨S332, hS333, hf334⟩ := hphi331 14 31 _ rfl rfl rfl
                have e335 : f327 31 = (Value.bool (x155 != x202)) := hf334
                exact OpX.skip (wanted_skip rfl rfl e335 hc236) rfl
              · refine ObX.op rfl fun f336 wd337 he338 hout339 hphi340 => ?_
                obtain ⟨S341, hS342, hf343⟩ := hphi340 14 31 _ rfl rfl rfl
                have e344 : f336 31 = (Value.bool (x155 != x202)) := hf343
                exact OpX.skip (wanted_skip rfl rfl e344 hc236) rfl
              · refine ObX.op rfl fun f345 wd346 he347 hout348 hphi349 => ?_
                obtain ⟨S350, hS351, hf352⟩ := hphi349 14 31 _ rfl rfl rfl
                have e353 : f345 31 = (Value.bool (x155 != x202)) := hf352
                exact OpX.skip (wanted_skip rfl rfl e353 hc236) rfl
              · intro f354 wd355 Ss356 he357 hout358 hSn359 hSd360 hphi361
                show WL _ _ _ _ _ _ _
                have hS362 := St.extend hS47 he357
                have e363 : f354 31 = (Value.bool (x155 != x202)) := hphi361 14 31 _ (by decide) rfl rfl
                have e377 : f354 1 = (Value.pointer (some ⟨b1, 0, none⟩)) := (hout358 1 rfl).trans hf40
                have e378 : f354 3 = (Value.int .i64 (k12 : Int)) := (hout358 3 rfl).trans hf41
                have e379 : f354 4 = (Value.int .i64 (k31 : Int)) := (hout358 4 rfl).trans rfl
                have e380 : f354 7 = (Value.int .i64 ((r_Table).length : Int)) := (hout358 7 rfl).trans hf42
                have e381 : f354 8 = (Value.int .i64 (k12 : Int)) := (hout358 8 rfl).trans hf43
                have e382 : f354 13 = (Value.int .i64 ((r_Table).length : Int)) := (hout358 13 rfl).trans hf44
                have e383 : f354 14 = (Value.int .i64 (k31 : Int)) := (hout358 14 rfl).trans hf45
                refine WL.gskip rfl (bool_of e363 hc236) rfl ?_
                refine WL.val (Value.bool true) _ (op_pick_t (evb_of e363 hc236) rfl) rfl ?_
                refine WL.nil ?_
                obtain rfl := Option.some.inj hj235
                exact ⟨e377, e378, e379, e380, e381, e382, e383, rfl, hS362⟩
            · replace hj235 := inegb hj235 hc236
              obtain ⟨x439, hx442, hj235⟩ := bs hj235
              obtain ⟨ha440, hb441, hx442⟩ := idx_some hx442
              obtain ⟨u457, hc458, hr459⟩ := repSl.el r_r_Table hx442
              obtain ⟨x474, hx477, hj235⟩ := bs hj235
              obtain ⟨ha475, hb476, hx477⟩ := idx_some hx477
              obtain ⟨u492, hc493, hr494⟩ := repSl.el hr459 hx477
              obtain ⟨x525, hx528, hj235⟩ := bs hj235
              obtain ⟨ha526, hb527, hx528⟩ := idx_some hx528
              obtain ⟨u543, hc544, hr545⟩ := repSl.el hr494 hx528
              obtain ⟨rfl, hr545⟩ := hr545
              obtain ⟨x588, hx589, hj235⟩ := bs hj235
              refine W.drawR mixo 28 [] [fun _ v _ _ => v = (Value.pointer (some ⟨b1, 0, none⟩)), fun _ v _ _ => v = v_r_Table, fun _ v _ _ => v = (Value.pointer (some (elA v_r_Table ((0 : Int)).toNat))), fun _ v _ _ => v = u91, fun _ v _ _ => v = (Value.int .i64 (k12 : Int)) ∧ InR .i64 (k12 : Int), fun _ v _ _ => v = (Value.pointer (some (elA u91 ((k12 : Int)).toNat))), fun _ v _ _ => v = u130, fun _ v _ _ => v = (Value.int .i64 (k31 : Int)) ∧ InR .i64 (k31 : Int), fun _ v _ _ => v = (Value.pointer (some (elA u130 ((k31 : Int)).toNat))), fun _ v _ _ => v = (Value.int .i64 x155) ∧ InR .i64 x155, fun _ v _ _ => v = (Value.int .i64 (k12 : Int)) ∧ InR .i64 (k12 : Int), fun _ v _ _ => v = (Value.int .i64 (k31 : Int)) ∧ InR .i64 (k31 : Int), fun _ v _ _ => v = (Value.int .i64 x202) ∧ InR .i64 x202, fun _ v _ _ => v = (Value.bool (x155 != x202)), fun _ v _ _ => v = (Value.bool (x155 != x202)), fun _ v _ _ => v = (Value.pointer (some ⟨b1, 0, none⟩)), fun _ v _ _ => v = v_r_Table, fun _ v _ _ => v = (Value.int .i64 (k12 : Int)) ∧ InR .i64 (k12 : Int), fun _ v _ _ => v = (Value.pointer (some (elA v_r_Table ((k12 : Int)).toNat))), fun _ v _ _ => v = u457, fun _ v _ _ => v = (Value.pointer (some (elA u457 ((0 : Int)).toNat))), fun _ v _ _ => v = u492, fun _ v _ _ => v = (Value.int .i64 (k31 : Int)) ∧ InR .i64 (k31 : Int), fun _ v _ _ => v = (Value.pointer (some (elA u492 ((k31 : Int)).toNat))), fun _ v _ _ => v = (Value.int .i64 x525) ∧ InR .i64 x525, fun _ v _ _ => v = (Value.int .i64 (k12 : Int)) ∧ InR .i64 (k12 : Int), fun _ v _ _ => v = (Value.int .i64 (k31 : Int)) ∧ InR .i64 (k31 : Int), fun _ v _ _ => v = (Value.int .i64 x588) ∧ InR .i64 x588] (by kernel_rfl) (by kernel_rfl) ⟨pk, pk, pk, pk, pk, pk, pk, pk, pk, pk, pk, pk, pk, pk, pk, pk, pk, pk, pk, pk, pk, pk, pk, pk, pk, pk, pk, pk, trivial⟩ ⟨?_, ?_, ?_, ?_, ?_, ?_, ?_, ?_, ?_, ?_, ?_, ?_, ?_, ?_, ?_, ?_, ?_, ?_, ?_, ?_, ?_, ?_, ?_, ?_, ?_, ?_, ?_, ?_, trivial⟩ ?_
              · refine ObX.op rfl fun f50 wd51 he52 hout53 hphi54 => ?_
                have hS55 := St.extend hS47 he52
                have e56 : f50 1 = (Value.pointer (some ⟨b1, 0, none⟩)) := (hout53 1 rfl).trans hf40
                exact OpX.val (Value.pointer (some ⟨b1, 0, none⟩)) wd51 rfl (op_fieldAddr fd_28_0 e56) (Ext.refl _) rfl
              · refine ObX.op rfl fun f57 wd58 he59 hout60 hphi61 => ?_
                have hS62 := St.extend hS47 he59
                obtain ⟨S63, hS64, hf65⟩ := hphi61 0 17 _ rfl rfl rfl
                have e66 : f57 17 = (Value.pointer (some ⟨b1, 0, none⟩)) := hf65
                exact OpX.val v_r_Table wd58 rfl (op_load one_22 e66 (BoxAt.cell (BoxAt.lift hS62.ext hx6) rfl)) (Ext.refl _) rfl
              · refine ObX.op rfl fun f67 wd68 he69 hout70 hphi71 => ?_
                have hS72 := St.extend hS47 he69
                obtain ⟨S73, hS74, hf75⟩ := hphi71 1 18 _ rfl rfl rfl
                have e76 : f67 18 = v_r_Table := hf75
                exact OpX.val (Value.pointer (some (elA v_r_Table ((0 : Int)).toNat))) wd68 rfl (op_idx sl_22 (Ty.lift _ (Ext.trans hE7 hS72.ext) r_r_Table) e76 rfl ha78 hb79) (Ext.refl _) rfl
              · refine ObX.op rfl fun f81 wd82 he83 hout84 hphi85 => ?_
                have hS86 := St.extend hS47 he83
                obtain ⟨S87, hS88, hf89⟩ := hphi85 2 19 _ rfl rfl rfl
                have e90 : f81 19 = (Value.pointer (some (elA v_r_Table ((0 : Int)).toNat))) := hf89
                exact OpX.val u91 wd82 rfl (op_load one_54 e90 (Ext.cell (Ext.trans hE7 hS86.ext) hc92)) (Ext.refl _) rfl
              · refine ObX.op rfl fun f94 wd95 he96 hout97 hphi98 => ?_
                have hS99 := St.extend hS47 he96
                have e100 : f94 3 = (Value.int .i64 (k12 : Int)) := (hout97 3 rfl).trans hf41
                exact OpX.val (Value.int .i64 (k12 : Int)) wd95 rfl (op_move e100) (Ext.refl _) ⟨rfl, hr24⟩
              · refine ObX.op rfl fun f101 wd102 he103 hout104 hphi105 => ?_
                have hS106 := St.extend hS47 he103
                obtain ⟨S107, hS108, hf109⟩ := hphi105 3 20 _ rfl rfl rfl
                have e110 : f101 20 = u91 := hf109
                obtain ⟨S111, hS112, hf113⟩ := hphi105 4 21 _ rfl rfl rfl
                obtain ⟨e114, hr115⟩ := hf113
                exact OpX.val (Value.pointer (some (elA u91 ((k12 : Int)).toNat))) wd102 rfl (op_idx sl_54 (Ty.lift _ (Ext.trans hE7 hS106.ext) hr93) e110 e114 ha117 hb118) (Ext.refl _) rfl
              · refine ObX.op rfl fun f120 wd121 he122 hout123 hphi124 => ?_
                have hS125 := St.extend hS47 he122
                obtain ⟨S126, hS127, hf128⟩ := hphi124 5 22 _ rfl rfl rfl
                have e129 : f120 22 = (Value.pointer (some (elA u91 ((k12 : Int)).toNat))) := hf128
                exact OpX.val u130 wd121 rfl (op_load one_34 e129 (Ext.cell (Ext.trans hE7 hS125.ext) hc131)) (Ext.refl _) rfl
              · refine ObX.op rfl fun f133 wd134 he135 hout136 hphi137 => ?_
                have hS138 := St.extend hS47 he135
                have e139 : f133 4 = (Value.int .i64 (k31 : Int)) := (hout136 4 rfl).trans rfl
                exact OpX.val (Value.int .i64 (k31 : Int)) wd134 rfl (op_move e139) (Ext.refl _) ⟨rfl, hr46⟩
              · refine ObX.op rfl fun f140 wd141 he142 hout143 hphi144 => ?_
                have hS145 := St.extend hS47 he142
                obtain ⟨S146, hS147, hf148⟩ := hphi144 6 23 _ rfl rfl rfl
                have e149 : f140 23 = u130 := hf148
                obtain ⟨S150, hS151, hf152⟩ := hphi144 7 24 _ rfl rfl rfl
                obtain ⟨e153, hr154⟩ := hf152
                exact OpX.val (Value.pointer (some (elA u130 ((k31 : Int)).toNat))) wd141 rfl (op_idx sl_34 (Ty.lift _ (Ext.trans hE7 hS145.ext) hr132) e149 e153 ha156 hb157) (Ext.refl _) rfl
              · refine ObX.op rfl fun f159 wd160 he161 hout162 hphi163 => ?_
                have hS164 := St.extend hS47 he161
                obtain ⟨S165, hS166, hf167⟩ := hphi163 8 25 _ rfl rfl rfl
                have e168 : f159 25 = (Value.pointer (some (elA u130 ((k31 : Int)).toNat))) := hf167
                exact OpX.val (Value.int .i64 x155) wd160 rfl (op_load one_2 e168 (Ext.cell (Ext.trans hE7 hS164.ext) hc170)) (Ext.refl _) ⟨rfl, hr171⟩
              · refine ObX.op rfl fun f172 wd173 he174 hout175 hphi176 => ?_
                have hS177 := St.extend hS47 he174
                have e178 : f172 3 = (Value.int .i64 (k12 : Int)) := (hout175 3 rfl).trans hf41
                exact OpX.val (Value.int .i64 (k12 : Int)) wd173 rfl (op_move e178) (Ext.refl _) ⟨rfl, hr24⟩
              · refine ObX.op rfl fun f179 wd180 he181 hout182 hphi183 => ?_
                have hS184 := St.extend hS47 he181
                have e185 : f179 4 = (Value.int .i64 (k31 : Int)) := (hout182 4 rfl).trans rfl
                exact OpX.val (Value.int .i64 (k31 : Int)) wd180 rfl (op_move e185) (Ext.refl _) ⟨rfl, hr46⟩
              · refine ObX.op rfl fun f186 wd187 he188 hout189 hphi190 => ?_
                have hS191 := St.extend hS47 he188
                obtain ⟨S192, hS193, hf194⟩ := hphi190 10 27 _ rfl rfl rfl
                obtain ⟨e195, hr196⟩ := hf194
                obtain ⟨S197, hS198, hf199⟩ := hphi190 11 28 _ rfl rfl rfl
                obtain ⟨e200, hr201⟩ := hf199
                refine OpX.call rfl (op_call fn_63 (args2 e195 e200)) (Ret.mono (c_impl_delta hr196 hr201 hx203) ?_)
                rintro _ wd205 ⟨rfl, hr204, he206⟩
                exact ⟨he206, _, noS _ _, ⟨rfl, hr204⟩⟩
              · refine ObX.op rfl fun f208 wd209 he210 hout211 hphi212 => ?_
                have hS213 := St.extend hS47 he210
                obtain ⟨S214, hS215, hf216⟩ := hphi212 9 26 _ rfl rfl rfl
                obtain ⟨e217, hr218⟩ := hf216
                obtain ⟨S219, hS220, hf221⟩ := hphi212 12 29 _ rfl rfl rfl
                obtain ⟨e222, hr223⟩ := hf221
                exact OpX.val (Value.bool (x155 != x202)) wd209 rfl (op_neq e217 e222) (Ext.refl _) rfl
              · refine ObX.op rfl fun f224 wd225 he226 hout227 hphi228 => ?_
                have hS229 := St.extend hS47 he226
                obtain ⟨S230, hS231, hf232⟩ := hphi228 13 30 _ rfl rfl rfl
                have e233 : f224 30 = (Value.bool (x155 != x202)) := hf232
                exact OpX.val (Value.bool (x155 != x202)) wd225 rfl (op_move e233) (Ext.refl _) rfl
              · refine ObX.op rfl fun f384 wd385 he386 hout387 hphi388 => ?_
                have e390 : f384 1 = (Value.pointer (some ⟨b1, 0, none⟩)) := (hout387 1 rfl).trans hf40
                obtain ⟨S391, hS392, hf393⟩ := hphi388 14 31 _ rfl rfl rfl
                have e394 : f384 31 = (Value.bool (x155 != x202)) := hf393
                exact OpX.val (Value.pointer (some ⟨b1, 0, none⟩)) wd385 (wanted_run rfl rfl e394 hc236) (op_fieldAddr fd_28_0 e390) (Ext.refl _) rfl
              · refine ObX.op rfl fun f395 wd396 he397 hout398 hphi399 => ?_
                have hS400 := St.extend hS47 he397
                obtain ⟨S401, hS402, hf403⟩ := hphi399 14 31 _ rfl rfl rfl
                have e404 : f395 31 = (Value.bool (x155 != x202)) := hf403
                obtain ⟨S405, hS406, hf407⟩ := hphi399 15 32 _ rfl rfl rfl
                have e408 : f395 32 = (Value.pointer (some ⟨b1, 0, none⟩)) := hf407
                exact OpX.val v_r_Table wd396 (wanted_run rfl rfl e404 hc236) (op_load one_22 e408 (BoxAt.cell (BoxAt.lift hS400.ext hx6) rfl)) (Ext.refl _) rfl
              · refine ObX.op rfl fun f409 wd410 he411 hout412 hphi413 => ?_
                have e415 : f409 3 = (Value.int .i64 (k12 : Int)) := (hout412 3 rfl).trans hf41
                obtain ⟨S416, hS417, hf418⟩ := hphi413 14 31 _ rfl rfl rfl
                have e419 : f409 31 = (Value.bool (x155 != x202)) := hf418
                exact OpX.val (Value.int .i64 (k12 : Int)) wd410 (wanted_run rfl rfl e419 hc236) (op_move e415) (Ext.refl _) ⟨rfl, hr24⟩
              · refine ObX.op rfl fun f420 wd421 he422 hout423 hphi424 => ?_
                have hS425 := St.extend hS47 he422
                obtain ⟨S426, hS427, hf428⟩ := hphi424 14 31 _ rfl rfl rfl
                have e429 : f420 31 = (Value.bool (x155 != x202)) := hf428
                obtain ⟨S430, hS431, hf432⟩ := hphi424 16 33 _ rfl rfl rfl
                have e433 : f420 33 = v_r_Table := hf432
                obtain ⟨S434, hS435, hf436⟩ := hphi424 17 34 _ rfl rfl rfl
                obtain ⟨e437, hr438⟩ := hf436
                exact OpX.val (Value.pointer (some (elA v_r_Table ((k12 : Int)).toNat))) wd421 (wanted_run rfl rfl e429 hc236) (op_idx sl_22 (Ty.lift _ (Ext.trans hE7 hS425.ext) r_r_Table) e433 e437 ha440 hb441) (Ext.refl _) rfl
              · refine ObX.op rfl fun f443 wd444 he445 hout446 hphi447 => ?_
                have hS448 := St.extend hS47 he445
                obtain ⟨S449, hS450, hf451⟩ := hphi447 14 31 _ rfl rfl rfl
                have e452 : f443 31 = (Value.bool (x155 != x202)) := hf451
                obtain ⟨S453, hS454, hf455⟩ := hphi447 18 35 _ rfl rfl rfl
                have e456 : f443 35 = (Value.pointer (some (elA v_r_Table ((k12 : Int)).toNat))) := hf455
                exact OpX.val u457 wd444 (wanted_run rfl rfl e452 hc236) (op_load one_54 e456 (Ext.cell (Ext.trans hE7 hS448.ext) hc458)) (Ext.refl _) rfl
              · refine ObX.op rfl fun f460 wd461 he462 hout463 hphi464 => ?_
                have hS465 := St.extend hS47 he462
                obtain ⟨S466, hS467, hf468⟩ := hphi464 14 31 _ rfl rfl rfl
                have e469 : f460 31 = (Value.bool (x155 != x202)) := hf468
                obtain ⟨S470, hS471, hf472⟩ := hphi464 19 36 _ rfl rfl rfl
                have e473 : f460 36 = u457 := hf472
                exact OpX.val (Value.pointer (some (elA u457 ((0 : Int)).toNat))) wd461 (wanted_run rfl rfl e469 hc236) (op_idx sl_54 (Ty.lift _ (Ext.trans hE7 hS465.ext) hr459) e473 rfl ha475 hb476) (Ext.refl _) rfl
              · refine ObX.op rfl fun f478 wd479 he480 hout481 hphi482 => ?_
                have hS483 := St.extend hS47 he480
                obtain ⟨S484, hS485, hf486⟩ := hphi482 14 31 _ rfl rfl rfl
                have e487 : f478 31 = (Value.bool (x155 != x202)) := hf486
                obtain ⟨S488, hS489, hf490⟩ := hphi482 20 37 _ rfl rfl rfl
                have e491 : f478 37 = (Value.pointer (some (elA u457 ((0 : Int)).toNat))) := hf490
                exact OpX.val u492 wd479 (wanted_run rfl rfl e487 hc236) (op_load one_34 e491 (Ext.cell (Ext.trans hE7 hS483.ext) hc493)) (Ext.refl _) rfl
              · refine ObX.op rfl fun f495 wd496 he497 hout498 hphi499 => ?_
                have e501 : f495 4 = (Value.int .i64 (k31 : Int)) := (hout498 4 rfl).trans rfl
                obtain ⟨S502, hS503, hf504⟩ := hphi499 14 31 _ rfl rfl rfl
                have e505 : f495 31 = (Value.bool (x155 != x202)) := hf504
                exact OpX.val (Value.int .i64 (k31 : Int)) wd496 (wanted_run rfl rfl e505 hc236) (op_move e501) (Ext.refl _) ⟨rfl, hr46⟩
              · refine ObX.op rfl fun f506 wd507 he508 hout509 hphi510 => ?_
                have hS511 := St.extend hS47 he508
                obtain ⟨S512, hS513, hf514⟩ := hphi510 14 31 _ rfl rfl rfl
                have e515 : f506 31 = (Value.bool (x155 != x202)) := hf514
                obtain ⟨S516, hS517, hf518⟩ := hphi510 21 38 _ rfl rfl rfl
                have e519 : f506 38 = u492 := hf518
                obtain ⟨S520, hS521, hf522⟩ := hphi510 22 39 _ rfl rfl rfl
                obtain ⟨e523, hr524⟩ := hf522
                exact OpX.val (Value.pointer (some (elA u492 ((k31 : Int)).toNat))) wd507 (wanted_run rfl rfl e515 hc236) (op_idx sl_34 (Ty.lift _ (Ext.trans hE7 hS511.ext) hr494) e519 e523 ha526 hb527) (Ext.refl _) rfl
              · refine ObX.op rfl fun f529 wd530 he531 hout532 hphi533 => ?_
                have hS534 := St.extend hS47 he531
                obtain ⟨S535, hS536, hf537⟩ := hphi533 14 31 _ rfl rfl rfl
                have e538 : f529 31 = (Value.bool (x155 != x202)) := hf537
                obtain ⟨S539, hS540, hf541⟩ := hphi533 23 40 _ rfl rfl rfl
                have e542 : f529 40 = (Value.pointer (some (elA u492 ((k31 : Int)).toNat))) := hf541
                exact OpX.val (Value.int .i64 x525) wd530 (wanted_run rfl rfl e538 hc236) (op_load one_2 e542 (Ext.cell (Ext.trans hE7 hS534.ext) hc544)) (Ext.refl _) ⟨rfl, hr545⟩
              · refine ObX.op rfl fun f546 wd547 he548 hout549 hphi550 => ?_
                have e552 : f546 3 = (Value.int .i64 (k12 : Int)) := (hout549 3 rfl).trans hf41
                obtain ⟨S553, hS554, hf555⟩ := hphi550 14 31 _ rfl rfl rfl
                have e556 : f546 31 = (Value.bool (x155 != x202)) := hf555
                exact OpX.val (Value.int .i64 (k12 : Int)) wd547 (wanted_run rfl rfl e556 hc236) (op_move e552) (Ext.refl _) ⟨rfl, hr24⟩
              · refine ObX.op rfl fun f557 wd558 he559 hout560 hphi561 => ?_
                have e563 : f557 4 = (Value.int .i64 (k31 : Int)) := (hout560 4 rfl).trans rfl
                obtain ⟨S564, hS565, hf566⟩ := hphi561 14 31 _ rfl rfl rfl
                have e567 : f557 31 = (Value.bool (x155 != x202)) := hf566
                exact OpX.val (Value.int .i64 (k31 : Int)) wd558 (wanted_run rfl rfl e567 hc236) (op_move e563) (Ext.refl _) ⟨rfl, hr46⟩
              · refine ObX.op rfl fun f568 wd569 he570 hout571 hphi572 => ?_
                obtain ⟨S574, hS575, hf576⟩ := hphi572 14 31 _ rfl rfl rfl
                have e577 : f568 31 = (Value.bool (x155 != x202)) := hf576
                obtain ⟨S578, hS579, hf580⟩ := hphi572 25 42 _ rfl rfl rfl
                obtain ⟨e581, hr582⟩ := hf580
                obtain ⟨S583, hS584, hf585⟩ := hphi572 26 43 _ rfl rfl rfl
                obtain ⟨e586, hr587⟩ := hf585
                refine OpX.call (wanted_run rfl rfl e577 hc236) (op_call fn_63 (args2 e581 e586)) (Ret.mono (c_impl_delta hr582 hr587 hx589) ?_)
                rintro _ wd591 ⟨rfl, hr590, he592⟩
                exact ⟨he592, _, noS _ _, ⟨rfl, hr590⟩⟩
              · intro f594 wd595 Ss596 he597 hout598 hSn599 hSd600 hphi601
                show WL _ _ _ _ _ _ _
                have hS602 := St.extend hS47 he597
                have e603 : f594 31 = (Value.bool (x155 != x202)) := hphi601 14 31 _ (by decide) rfl rfl
                obtain ⟨e606, hr607⟩ := hphi601 17 34 _ (by decide) rfl rfl
                obtain ⟨e612, hr613⟩ := hphi601 22 39 _ (by decide) rfl rfl
                obtain ⟨e615, hr616⟩ := hphi601 24 41 _ (by decide) rfl rfl
                obtain ⟨e617, hr618⟩ := hphi601 25 42 _ (by decide) rfl rfl
                obtain ⟨e619, hr620⟩ := hphi601 26 43 _ (by decide) rfl rfl
                obtain ⟨e621, hr622⟩ := hphi601 27 44 _ (by decide) rfl rfl
                have e623 : f594 1 = (Value.pointer (some ⟨b1, 0, none⟩)) := (hout598 1 rfl).trans hf40
                have e624 : f594 3 = (Value.int .i64 (k12 : Int)) := (hout598 3 rfl).trans hf41
                have e625 : f594 4 = (Value.int .i64 (k31 : Int)) := (hout598 4 rfl).trans rfl
                have e626 : f594 7 = (Value.int .i64 ((r_Table).length : Int)) := (hout598 7 rfl).trans hf42
                have e627 : f594 8 = (Value.int .i64 (k12 : Int)) := (hout598 8 rfl).trans hf43
                have e628 : f594 13 = (Value.int .i64 ((r_Table).length : Int)) := (hout598 13 rfl).trans hf44
                have e629 : f594 14 = (Value.int .i64 (k31 : Int)) := (hout598 14 rfl).trans hf45
                refine WL.grun rfl (bool_of e603 hc236) ?_
                refine WL.val (Value.bool (x525 != x588)) _ (op_neq e615 e621) rfl ?_
                refine WL.val (Value.bool (x525 != x588)) _ (op_pick_f (evb_of e603 hc236) rfl) rfl ?_
                refine WL.nil ?_
                obtain rfl := Option.some.inj hj235
                exact ⟨e623, e624, e625, e626, e627, e628, e629, rfl, hS602⟩
          · intro f630 wd631 hq632
            obtain ⟨hf633, hf634, hf635, hf636, hf637, hf638, hf639, hf640, hS641⟩ := hq632
            refine W.cond x234 hf640 (fun hc642 => ?_) (fun hc642 => ?_)
            · replace hb36 := ip hb36 hc642
              refine W.seq (W.region ?_)
              refine WL.val (Value.int .i64 (k12 : Int)) _ (op_move hf634) rfl ?_
              refine WL.val (Value.int .i64 (k31 : Int)) _ (op_move hf635) rfl ?_
              refine WL.litFlat (t := (Ty.i .i64)) (flat_i .i64) [(Value.int .i64 (0 : Int)), (Value.int .i64 (k12 : Int)), (Value.int .i64 (k31 : Int))] [(0 : Int), (k12 : Int), (k31 : Int)] hS641 sl_34 rfl rfl (fillL rfl ⟨rfl, rfl, rfl, rfl, rfl, rfl, rfl, rfl, rfl, trivial⟩) rfl rfl (litL ⟨⟨rfl, (inL rfl)⟩, ⟨rfl, hr24⟩, ⟨rfl, hr46⟩, trivial⟩) rfl ?_
              intro u644 wd645 hS646 he647
              replace hS646 : St wd2 wd645 [(Ty.sl (Ty.i .i64)).at u644 ([(0 : Int), (k12 : Int), (k31 : Int)] : (List Int))] := hS646
              refine WL.val u644 _ (op_assign rfl) rfl ?_
              refine WL.nil ?_
              refine W.ret ?_
              obtain rfl := Option.some.inj hb36
              obtain rfl := hret39 _ rfl
              replace hb17 := onRes_ret hb17
              obtain rfl := Option.some.inj hb17
              obtain rfl := hret20 _ rfl
              replace h := onRes_ret h
              obtain rfl := Option.some.inj h
              show FinP _ _ _ _ _ _ _
              exact FinP.ret _ (res1 rfl rfl) ⟨u644, rfl, (nil_cons), (Ext.trans hE7 hS646.ext), (St.out (St.pick hS646 [0] rfl) (hE7))⟩
            · replace hb36 := inegb hb36 hc642
              refine W.skip ?_
              show W _ _ _ _ _ _
              refine W.region ?_
              refine WL.val (Value.int .i64 (w64 ((k31 : Int) + (1 : Int)))) _ (op_add hf639 rfl) rfl ?_
              refine WL.val (Value.int .i64 (w64 ((k31 : Int) + (1 : Int)))) _ (op_move rfl) rfl ?_
              refine WL.nil ?_
              obtain rfl := Option.some.inj hb36
              show ∃ s, _ = Ctl.next s ∧ _
              exact ⟨_, rfl, hf633, hf634, hf636, hf637, hf638, (ctr_next hl48 hr28), (ctr_rng hl48 hr28), hS641⟩
        · intro s653 f649 wd650 hs651 hI652
          obtain ⟨⟩ := s653
          replace hI652 : f649 1 = (Value.pointer (some ⟨b1, 0, none⟩)) ∧ f649 3 = (Value.int .i64 (k12 : Int)) ∧ f649 7 = (Value.int .i64 ((r_Table).length : Int)) ∧ f649 8 = (Value.int .i64 (k12 : Int)) ∧ f649 13 = (Value.int .i64 ((r_Table).length : Int)) ∧ f649 14 = Value.int .i64 (((r_Table).length : Nat) : Int) ∧ InR .i64 (((r_Table).length : Nat) : Int) ∧ St wd2 wd650 [] := hI652
          obtain ⟨hf654, hf655, hf656, hf657, hf658, hf659, hr660, hS661⟩ := hI652
          refine W.seq (W.region ?_)
          refine WL.val (Value.bool (decide ((((r_Table).length : Nat) : Int) < ((r_Table).length : Int)))) _ (op_lss hf659 hf658) rfl ?_
          have hl662 : ¬ (((r_Table).length : Nat) : Int) < ((r_Table).length : Int) := by omega
          refine WL.nil ?_
          refine W.seq ?_
          refine W.condF (decide ((((r_Table).length : Nat) : Int) < ((r_Table).length : Int))) rfl (decide_eq_false hl662) ?_
          refine W.exit ?_
          show _ = _ ∧ _
          exact ⟨rfl, _, hs651, hf654, hf656, hf657, hS661⟩
      · rintro f663 wd664 ⟨s666, rfl, hq665⟩
        replace hb17 := onRes_fin hb17
        obtain ⟨⟩ := s666
        replace hq665 : f663 1 = (Value.pointer (some ⟨b1, 0, none⟩)) ∧ f663 7 = (Value.int .i64 ((r_Table).length : Int)) ∧ f663 8 = (Value.int .i64 (k12 : Int)) ∧ St wd2 wd664 [] := hq665
        obtain ⟨hf667, hf668, hf669, hS670⟩ := hq665
        show W _ _ _ _ _ _
        refine W.region ?_
        refine WL.val (Value.int .i64 (w64 ((k12 : Int) + (1 : Int)))) _ (op_add hf669 rfl) rfl ?_
        refine WL.val (Value.int .i64 (w64 ((k12 : Int) + (1 : Int)))) _ (op_move rfl) rfl ?_
        refine WL.nil ?_
        obtain rfl := Option.some.inj hb17
        show ∃ s, _ = Ctl.next s ∧ _
        exact ⟨_, rfl, hf667, hf668, (ctr_next hl26 hr9), (ctr_rng hl26 hr9), hS670⟩
    · intro s677 f673 wd674 hs675 hI676
      obtain ⟨⟩ := s677
      replace hI676 : f673 1 = (Value.pointer (some ⟨b1, 0, none⟩)) ∧ f673 7 = (Value.int .i64 ((r_Table).length : Int)) ∧ f673 8 = Value.int .i64 (((r_Table).length : Nat) : Int) ∧ InR .i64 (((r_Table).length : Nat) : Int) ∧ St wd2 wd674 [] := hI676
      obtain ⟨hf678, hf679, hf680, hr681, hS682⟩ := hI676
      refine W.seq (W.region ?_)
      refine WL.val (Value.bool (decide ((((r_Table).length : Nat) : Int) < ((r_Table).length : Int)))) _ (op_lss hf680 hf679) rfl ?_
      have hl683 : ¬ (((r_Table).length : Nat) : Int) < ((r_Table).length : Int) := by omega
      refine WL.nil ?_
      refine W.seq ?_
      refine W.condF (decide ((((r_Table).length : Nat) : Int) < ((r_Table).length : Int))) rfl (decide_eq_false hl683) ?_
      refine W.exit ?_
      show _ = _ ∧ _
      exact ⟨rfl, _, hs675, hS682⟩
  · rintro f684 wd685 ⟨s687, rfl, hq686⟩
    replace h := onRes_fin h
    obtain ⟨⟩ := s687
    replace hq686 : St wd2 wd685 [] := hq686
    have hS688 := hq686
    refine W.seq (W.region ?_)
    refine WL.val (Value.slice none 0 0) _ (op_assign rfl) rfl ?_
    refine WL.nil ?_
    refine W.ret ?_
    obtain rfl := Option.some.inj h
    show FinP _ _ _ _ _ _ _
    exact FinP.ret _ (res1 rfl rfl) ⟨(Value.slice none 0 0), rfl, (fun _ => ⟨0, 0, rfl⟩), (Ext.trans hE7 hS688.ext), (St.out (St.pick (St.addNil (Ty.i .i64) hS688) [0] rfl) (hE7))⟩

theorem c_impl_Ring_onlyOf {w : World} {r_Table : (List (List (List Int)))} {v_r_Table : Value} {i : Int} (r_r_Table : (Ty.sl (Ty.sl (Ty.sl (Ty.i .i64)))).rep w v_r_Table r_Table) (r_i : InR .i64 i) {res : Int} (h : p_impl_Ring_onlyOf r_Table i  = some res) :
    Ret Try.prog 64 #[(Value.agg #[v_r_Table]), (Value.int .i64 i)] w (fun v w' => v = Value.int .i64 res ∧ InR .i64 res ∧ Ext w w') := by
  unfold p_impl_Ring_onlyOf at h
  have hS0 : St w w [] := St.start w
  refine Ret.start (fn := Try.f64) Try.func64 rfl 34 rfl rfl ?_
  refine W.seq (W.region ?_)
  refine WL.box hS0 rfl (cs := [v_r_Table]) rfl rfl ?_
  intro b1 wd2 hS3 he4 hx5
  replace hS3 : St w wd2 [bx b1 [v_r_Table]] := hS3
  have hx6 := St.boxAt hS3 0 rfl
  have hE7 : Ext w wd2 := hS3.ext
  have hS8 : St wd2 wd2 [] := St.start wd2
  refine WL.val (Value.int .i64 (0 : Int)) _ (op_assign rfl) rfl ?_
  refine WL.nil ?_
  refine W.seq (W.region ?_)
  refine WL.val (Value.int .i64 (-1 : Int)) _ (op_assign rfl) rfl ?_
  refine WL.nil ?_
  refine W.seq (W.seq (W.region ?_))
  refine WL.val (Value.pointer (some ⟨b1, 0, none⟩)) _ (op_fieldAddr fd_28_0 rfl) rfl ?_
  refine WL.val v_r_Table _ (op_load one_22 rfl (BoxAt.cell (BoxAt.lift hS8.ext hx6) rfl)) rfl ?_
  refine WL.val (Value.int .i64 i) _ (op_move rfl) rfl ?_
  obtain ⟨x9, hx12, h⟩ := bs h
  obtain ⟨ha10, hb11, hx12⟩ := idx_some hx12
  refine WL.val (Value.pointer (some (elA v_r_Table (i).toNat))) _ (op_idx sl_22 (Ty.lift _ (Ext.trans hE7 hS8.ext) r_r_Table) rfl rfl ha10 hb11) rfl ?_
  obtain ⟨u13, hc14, hr15⟩ := repSl.el r_r_Table hx12
  refine WL.val u13 _ (op_load one_54 rfl (Ext.cell (Ext.trans hE7 hS8.ext) hc14)) rfl ?_
  have hr16 := inR_len (Ty.lift _ (Ext.trans hE7 hS8.ext) hr15)
  refine WL.val (Value.int .i64 ((x9).length : Int)) _ (op_lenL sl_54 (Ty.lift _ (Ext.trans hE7 hS8.ext) hr15) rfl) rfl ?_
  refine WL.val (Value.int .i64 (0 : Int)) _ (op_move rfl) rfl ?_
  refine WL.nil ?_
  show W _ _ _ _ _ _
  obtain ⟨res17, hres18, h⟩ := bs h
  refine W.blockLoop (fun fq wq => ∃ s, res17 = Res.fin s ∧ fq 5 = Value.int .i64 s ∧ InR .i64 s ∧ St wd2 wq []) ?_ ?_
  · refine W.forN (fun k (s : Int) fq wq => fq 5 = Value.int .i64 s ∧ InR .i64 s ∧ fq 12 = u13 ∧ fq 13 = (Value.int .i64 ((x9).length : Int)) ∧ fq 14 = Value.int .i64 (k : Int) ∧ InR .i64 (k : Int) ∧ St wd2 wq []) hres18 ⟨rfl, (inR_i64.2 (show (-9223372036854775808 : Int) ≤ -1 ∧ (-1 : Int) ≤ 9223372036854775807 from by decide)), rfl, rfl, rfl, (inL rfl), hS8⟩ ?_ ?_
    · intro k19 x20 ct21 f22 wd23 hk24 hb25 hI26 hbrk27 hret28
      replace hI26 : f22 5 = Value.int .i64 x20 ∧ InR .i64 x20 ∧ f22 12 = u13 ∧ f22 13 = (Value.int .i64 ((x9).length : Int)) ∧ f22 14 = Value.int .i64 (k19 : Int) ∧ InR .i64 (k19 : Int) ∧ St wd2 wd23 [] := hI26
      replace hb25 : p_impl_Ring_onlyOf_L1 x9 k19 x20 = some ct21 := hb25
      unfold p_impl_Ring_onlyOf_L1 at hb25
      obtain ⟨hf29, hr30, hf31, hf32, hf33, hr34, hS35⟩ := hI26
      refine W.seq (W.region ?_)
      refine WL.val (Value.bool (decide ((k19 : Int) < ((x9).length : Int)))) _ (op_lss hf33 hf32) rfl ?_
      have hl36 : (k19 : Int) < ((x9).length : Int) := by omega
      refine WL.nil ?_
      refine W.seq ?_
      refine W.condT (decide ((k19 : Int) < ((x9).length : Int))) rfl (decide_eq_true hl36) ?_
      refine W.skip ?_
      refine W.seq ?_
      refine W.block ?_
      refine W.seq (W.region ?_)
      refine WL.val (Value.int .i64 (k19 : Int)) _ (op_move hf33) rfl ?_
      obtain ⟨x38, hx41, hb25⟩ := bs hb25
      obtain ⟨ha39, hb40, hx41⟩ := idx_some hx41
      refine WL.val (Value.pointer (some (elA u13 ((k19 : Int)).toNat))) _ (op_idx sl_54 (Ty.lift _ (Ext.trans hE7 hS35.ext) hr15) hf31 hf33 ha39 hb40) rfl ?_
      obtain ⟨u42, hc43, hr44⟩ := repSl.el hr15 hx41
      refine WL.val u42 _ (op_load one_34 rfl (Ext.cell (Ext.trans hE7 hS35.ext) hc43)) rfl ?_
      refine WL.val (Value.int .i64 (k19 : Int)) _ (op_assign rfl) rfl ?_
      refine WL.val u42 _ (op_assign rfl) rfl ?_
      refine WL.nil ?_
      refine W.seq (W.seq (W.region ?_))
      refine WL.val u42 _ (op_move rfl) rfl ?_
      obtain ⟨x45, hx48, hb25⟩ := bs hb25
      obtain ⟨ha46, hb47, hx48⟩ := idx_some hx48
      refine WL.val (Value.pointer (some (elA u42 ((0 : Int)).toNat))) _ (op_idx sl_34 (Ty.lift _ (Ext.trans hE7 hS35.ext) hr44) rfl rfl ha46 hb47) rfl ?_
      obtain ⟨u49, hc50, hr51⟩ := repSl.el hr44 hx48
      obtain ⟨rfl, hr51⟩ := hr51
      refine WL.val (Value.int .i64 x45) _ (op_load one_2 rfl (Ext.cell (Ext.trans hE7 hS35.ext) hc50)) rfl ?_
      refine WL.val (Value.bool (x45 == (0 : Int))) _ (op_eql rfl rfl) rfl ?_
      refine WL.nil ?_
      refine W.cond (x45 == (0 : Int)) rfl (fun hc52 => ?_) (fun hc52 => ?_)
      · replace hb25 := ip hb25 hc52
        refine W.exit ?_
        show W _ _ _ _ _ _
        refine W.region ?_
        refine WL.val (Value.int .i64 (w64 ((k19 : Int) + (1 : Int)))) _ (op_add hf33 rfl) rfl ?_
        refine WL.val (Value.int .i64 (w64 ((k19 : Int) + (1 : Int)))) _ (op_move rfl) rfl ?_
        refine WL.nil ?_
        obtain rfl := Option.some.inj hb25
        show ∃ s, _ = Ctl.next s ∧ _
        exact ⟨_, rfl, hf29, hr30, hf31, hf32, (ctr_next hl36 hr16), (ctr_rng hl36 hr16), hS35⟩
      · replace hb25 := inegb hb25 hc52
        refine W.skip ?_
        refine W.seq (W.seq (W.region ?_))
        refine WL.val (Value.int .i64 x20) _ (op_move hf29) rfl ?_
        refine WL.val (Value.bool (decide (x20 ≥ (0 : Int)))) _ (op_geq rfl rfl) rfl ?_
        refine WL.val (Value.bool (decide (x20 ≥ (0 : Int)))) _ (op_move rfl) rfl ?_
        refine WL.cut 5 (fun fq wq => fq 6 = (Value.int .i64 (k19 : Int)) ∧ fq 12 = u13 ∧ fq 13 = (Value.int .i64 ((x9).length : Int)) ∧ fq 14 = (Value.int .i64 (k19 : Int)) ∧ fq 30 = (Value.bool ((decide (x20 ≥ (0 : Int))) || (x45 != (1 : Int)))) ∧ St wd2 wq []) ?_ ?_
        · rcases Bool.eq_false_or_eq_true (decide (x20 ≥ (0 : Int))) with hc54 | hc54
          · refine WL.gskip rfl (bool_of rfl hc54) rfl ?_
            refine WL.gskip rfl (bool_of rfl hc54) rfl ?_
            refine WL.gskip rfl (bool_of rfl hc54) rfl ?_
            refine WL.gskip rfl (bool_of rfl hc54) rfl ?_
            refine WL.val (Value.bool true) _ (op_pick_t (evb_of rfl hc54) rfl) rfl ?_
            refine WL.nil ?_
            exact ⟨rfl, rfl, hf31, hf32, hf33, (orT hc54), hS35⟩
          · refine WL.grun rfl (bool_of rfl hc54) ?_
            refine WL.val u42 _ (op_move rfl) rfl ?_
            refine WL.grun rfl (bool_of rfl hc54) ?_
            refine WL.val (Value.pointer (some (elA u42 ((0 : Int)).toNat))) _ (op_idx sl_34 (Ty.lift _ (Ext.trans hE7 hS35.ext) hr44) rfl rfl ha46 hb47) rfl ?_
            refine WL.grun rfl (bool_of rfl hc54) ?_
            obtain ⟨u58, hc59, hr60⟩ := repSl.el hr44 hx48
            obtain ⟨rfl, hr60⟩ := hr60
            refine WL.val (Value.int .i64 x45) _ (op_load one_2 rfl (Ext.cell (Ext.trans hE7 hS35.ext) hc59)) rfl ?_
            refine WL.grun rfl (bool_of rfl hc54) ?_
            refine WL.val (Value.bool (x45 != (1 : Int))) _ (op_neq rfl rfl) rfl ?_
            refine WL.val (Value.bool (x45 != (1 : Int))) _ (op_pick_f (evb_of rfl hc54) rfl) rfl ?_
            refine WL.nil ?_
            exact ⟨rfl, rfl, hf31, hf32, hf33, (orF hc54), hS35⟩
        · intro f55 wd56 hq57
          obtain ⟨hf61, hf62, hf63, hf64, hf65, hS66⟩ := hq57
          refine WL.nil ?_
          refine W.cond ((decide (x20 ≥ (0 : Int))) || (x45 != (1 : Int))) hf65 (fun hc67 => ?_) (fun hc67 => ?_)
          · replace hb25 := ip hb25 hc67
            refine W.seq (W.region ?_)
            refine WL.val (Value.int .i64 (-1 : Int)) _ (op_assign rfl) rfl ?_
            refine WL.nil ?_
            refine W.ret ?_
            obtain rfl := Option.some.inj hb25
            obtain rfl := hret28 _ rfl
            replace h := onRes_ret h
            obtain rfl := Option.some.inj h
            show FinP _ _ _ _ _ _ _
            exact FinP.ret _ (res1 rfl rfl) ⟨rfl, (inR_i64.2 (show (-9223372036854775808 : Int) ≤ -1 ∧ (-1 : Int) ≤ 9223372036854775807 from by decide)), (Ext.trans hE7 hS66.ext)⟩
          · replace hb25 := inegb hb25 hc67
            refine W.skip ?_
            show W _ _ _ _ _ _
            refine W.region ?_
            refine WL.val (Value.int .i64 (k19 : Int)) _ (op_move hf61) rfl ?_
            refine WL.val (Value.int .i64 (k19 : Int)) _ (op_assign rfl) rfl ?_
            refine WL.nil ?_
            show W _ _ _ _ _ _
            refine W.region ?_
            refine WL.val (Value.int .i64 (w64 ((k19 : Int) + (1 : Int)))) _ (op_add hf64 rfl) rfl ?_
            refine WL.val (Value.int .i64 (w64 ((k19 : Int) + (1 : Int)))) _ (op_move rfl) rfl ?_
            refine WL.nil ?_
            obtain rfl := Option.some.inj hb25
            show ∃ s, _ = Ctl.next s ∧ _
            exact ⟨_, rfl, rfl, hr34, hf62, hf63, (ctr_next hl36 hr16), (ctr_rng hl36 hr16), hS66⟩
    · intro x75 f70 wd71 hs72 hI73
      replace hI73 : f70 5 = Value.int .i64 x75 ∧ InR .i64 x75 ∧ f70 12 = u13 ∧ f70 13 = (Value.int .i64 ((x9).length : Int)) ∧ f70 14 = Value.int .i64 (((x9).length : Nat) : Int) ∧ InR .i64 (((x9).length : Nat) : Int) ∧ St wd2 wd71 [] := hI73
      obtain ⟨hf76, hr77, hf78, hf79, hf80, hr81, hS82⟩ := hI73
      refine W.seq (W.region ?_)
      refine WL.val (Value.bool (decide ((((x9).length : Nat) : Int) < ((x9).length : Int)))) _ (op_lss hf80 hf79) rfl ?_
      have hl83 : ¬ (((x9).length : Nat) : Int) < ((x9).length : Int) := by omega
      refine WL.nil ?_
      refine W.seq ?_
      refine W.condF (decide ((((x9).length : Nat) : Int) < ((x9).length : Int))) rfl (decide_eq_false hl83) ?_
      refine W.exit ?_
      show _ = _ ∧ _
      exact ⟨rfl, _, hs72, hf76, hr77, hS82⟩
  · rintro f84 wd85 ⟨x88, rfl, hq86⟩
    replace h := onRes_fin h
    replace hq86 : f84 5 = Value.int .i64 x88 ∧ InR .i64 x88 ∧ St wd2 wd85 [] := hq86
    obtain ⟨hf89, hr90, hS91⟩ := hq86
    refine W.seq (W.region ?_)
    refine WL.val (Value.int .i64 x88) _ (op_move hf89) rfl ?_
    refine WL.val (Value.int .i64 x88) _ (op_assign rfl) rfl ?_
    refine WL.nil ?_
    refine W.ret ?_
    obtain rfl := Option.some.inj h
    show FinP _ _ _ _ _ _ _
    exact FinP.ret _ (res1 rfl rfl) ⟨rfl, hr90, (Ext.trans hE7 hS91.ext)⟩

theorem c_impl_Ring_dualFault {w : World} {r_Table : (List (List (List Int)))} {v_r_Table : Value} (r_r_Table : (Ty.sl (Ty.sl (Ty.sl (Ty.i .i64)))).rep w v_r_Table r_Table) {res : Int} (h : p_impl_Ring_dualFault r_Table  = some res) :
    Ret Try.prog 53 #[(Value.agg #[v_r_Table])] w (fun v w' => v = Value.int .i64 res ∧ InR .i64 res ∧ Ext w w') := by
  unfold p_impl_Ring_dualFault at h
  have hS0 : St w w [] := St.start w
  refine Ret.start (fn := Try.f53) Try.func53 rfl 25 rfl rfl ?_
  refine W.seq (W.region ?_)
  refine WL.box hS0 rfl (cs := [v_r_Table]) rfl rfl ?_
  intro b1 wd2 hS3 he4 hx5
  replace hS3 : St w wd2 [bx b1 [v_r_Table]] := hS3
  have hx6 := St.boxAt hS3 0 rfl
  have hE7 : Ext w wd2 := hS3.ext
  have hS8 : St wd2 wd2 [] := St.start wd2
  refine WL.val (Value.int .i64 (0 : Int)) _ (op_assign rfl) rfl ?_
  refine WL.nil ?_
  refine W.seq (W.seq (W.region ?_))
  refine WL.val (Value.pointer (some ⟨b1, 0, none⟩)) _ (op_fieldAddr fd_28_0 rfl) rfl ?_
  refine WL.val v_r_Table _ (op_load one_22 rfl (BoxAt.cell (BoxAt.lift hS8.ext hx6) rfl)) rfl ?_
  have hr9 := inR_len (Ty.lift _ (Ext.trans hE7 hS8.ext) r_r_Table)
  refine WL.val (Value.int .i64 ((r_Table).length : Int)) _ (op_lenL sl_22 (Ty.lift _ (Ext.trans hE7 hS8.ext) r_r_Table) rfl) rfl ?_
  refine WL.val (Value.int .i64 (0 : Int)) _ (op_move rfl) rfl ?_
  refine WL.nil ?_
  show W _ _ _ _ _ _
  obtain ⟨res10, hres11, h⟩ := bs h
  refine W.blockLoop (fun fq wq => ∃ s, res10 = Res.fin s ∧ St wd2 wq []) ?_ ?_
  · refine W.forN (fun k (s : Unit) fq wq => fq 1 = (Value.pointer (some ⟨b1, 0, none⟩)) ∧ fq 7 = (Value.int .i64 ((r_Table).length : Int)) ∧ fq 8 = Value.int .i64 (k : Int) ∧ InR .i64 (k : Int) ∧ St wd2 wq []) hres11 ⟨rfl, rfl, rfl, (inL rfl), hS8⟩ ?_ ?_
    · intro k12 s56 ct13 f14 wd15 hk16 hb17 hI18 hbrk19 hret20
      obtain ⟨⟩ := s56
      replace hI18 : f14 1 = (Value.pointer (some ⟨b1, 0, none⟩)) ∧ f14 7 = (Value.int .i64 ((r_Table).length : Int)) ∧ f14 8 = Value.int .i64 (k12 : Int) ∧ InR .i64 (k12 : Int) ∧ St wd2 wd15 [] := hI18
      replace hb17 : p_impl_Ring_dualFault_L1 r_Table k12  = some ct13 := hb17
      unfold p_impl_Ring_dualFault_L1 at hb17
      obtain ⟨hf21, hf22, hf23, hr24, hS25⟩ := hI18
      refine W.seq (W.region ?_)
      refine WL.val (Value.bool (decide ((k12 : Int) < ((r_Table).length : Int)))) _ (op_lss hf23 hf22) rfl ?_
      have hl26 : (k12 : Int) < ((r_Table).length : Int) := by omega
      refine WL.nil ?_
      refine W.seq ?_
      refine W.condT (decide ((k12 : Int) < ((r_Table).length : Int))) rfl (decide_eq_true hl26) ?_
      refine W.skip ?_
      refine W.seq ?_
      refine W.block ?_
      refine W.seq (W.region ?_)
      refine WL.val (Value.int .i64 (k12 : Int)) _ (op_move hf23) rfl ?_
      refine WL.val (Value.int .i64 (k12 : Int)) _ (op_assign rfl) rfl ?_
      refine WL.nil ?_
      refine W.seq (W.region ?_)
      refine WL.val (Value.agg #[v_r_Table]) _ (op_loadBox st_28 hf21 (BoxAt.lift hS25.ext hx6) rfl rfl) rfl ?_
      refine WL.val (Value.int .i64 (k12 : Int)) _ (op_move rfl) rfl ?_
      obtain ⟨x28, hx29, hb17⟩ := bs hb17
      refine WL.call _ (op_call fn_64 (args2 rfl rfl)) (c_impl_Ring_onlyOf (Ty.lift _ (Ext.trans hE7 hS25.ext) r_r_Table) hr24 hx29) rfl ?_
      rintro _ wd31 ⟨rfl, hr30, he32⟩
      have hS34 := St.extend hS25 he32
      replace hS34 : St wd2 wd31 [] := hS34
      refine WL.val (Value.int .i64 x28) _ (op_assign rfl) rfl ?_
      refine WL.nil ?_
      refine W.seq (W.region ?_)
      refine WL.val (Value.int .i64 x28) _ (op_move rfl) rfl ?_
      refine WL.val (Value.bool (decide (x28 < (0 : Int)))) _ (op_lss rfl rfl) rfl ?_
      refine WL.val (Value.bool (decide (x28 < (0 : Int)))) _ (op_move rfl) rfl ?_
      obtain ⟨x36, hj37, hb17⟩ := bs hb17
      refine WL.cut 6 (fun fq wq => fq 1 = (Value.pointer (some ⟨b1, 0, none⟩)) ∧ fq 3 = (Value.int .i64 (k12 : Int)) ∧ fq 7 = (Value.int .i64 ((r_Table).length : Int)) ∧ fq 8 = (Value.int .i64 (k12 : Int)) ∧ fq 22 = Value.bool x36 ∧ St wd2 wq []) ?_ ?_
      · rcases Bool.eq_false_or_eq_true (decide (x28 < (0 : Int))) with hc35 | hc35
        · replace hj37 := ip hj37 hc35
          refine WL.gskip rfl (bool_of rfl hc35) rfl ?_
          refine WL.gskip rfl (bool_of rfl hc35) rfl ?_
          refine WL.gskip rfl (bool_of rfl hc35) rfl ?_
          refine WL.gskip rfl (bool_of rfl hc35) rfl ?_
          refine WL.gskip rfl (bool_of rfl hc35) rfl ?_
          refine WL.val (Value.bool true) _ (op_pick_t (evb_of rfl hc35) rfl) rfl ?_
          refine WL.nil ?_
          obtain rfl := Option.some.inj hj37
          exact ⟨rfl, hf21, rfl, hf22, hf23, rfl, hS34⟩
        · replace hj37 := inegb hj37 hc35
          refine WL.grun rfl (bool_of rfl hc35) ?_
          refine WL.val (Value.agg #[v_r_Table]) _ (op_loadBox st_28 hf21 (BoxAt.lift hS34.ext hx6) rfl rfl) rfl ?_
          refine WL.grun rfl (bool_of rfl hc35) ?_
          refine WL.val (Value.int .i64 x28) _ (op_move rfl) rfl ?_
          refine WL.grun rfl (bool_of rfl hc35) ?_
          obtain ⟨x41, hx42, hj37⟩ := bs hj37
          refine WL.call _ (op_call fn_64 (args2 rfl rfl)) (c_impl_Ring_onlyOf (Ty.lift _ (Ext.trans hE7 hS34.ext) r_r_Table) hr30 hx42) rfl ?_
          rintro _ wd44 ⟨rfl, hr43, he45⟩
          have hS47 := St.extend hS34 he45
          replace hS47 : St wd2 wd44 [] := hS47
          refine WL.grun rfl (bool_of rfl hc35) ?_
          refine WL.val (Value.int .i64 (k12 : Int)) _ (op_move rfl) rfl ?_
          refine WL.grun rfl (bool_of rfl hc35) ?_
          refine WL.val (Value.bool (x41 != (k12 : Int))) _ (op_neq rfl rfl) rfl ?_
          refine WL.val (Value.bool (x41 != (k12 : Int))) _ (op_pick_f (evb_of rfl hc35) rfl) rfl ?_
          refine WL.nil ?_
          obtain rfl := Option.some.inj hj37
          exact ⟨rfl, hf21, rfl, hf22, hf23, rfl, hS47⟩
      · intro f38 wd39 hq40
        obtain ⟨hf48, hf49, hf50, hf51, hf52, hS53⟩ := hq40
        refine WL.nil ?_
        refine W.cond x36 hf52 (fun hc54 => ?_) (fun hc54 => ?_)
        · replace hb17 := ip hb17 hc54
          refine W.seq (W.region ?_)
          refine WL.val (Value.int .i64 (k12 : Int)) _ (op_move hf49) rfl ?_
          refine WL.val (Value.int .i64 (k12 : Int)) _ (op_assign rfl) rfl ?_
          refine WL.nil ?_
          refine W.ret ?_
          obtain rfl := Option.some.inj hb17
          obtain rfl := hret20 _ rfl
          replace h := onRes_ret h
          obtain rfl := Option.some.inj h
          show FinP _ _ _ _ _ _ _
          exact FinP.ret _ (res1 rfl rfl) ⟨rfl, hr24, (Ext.trans hE7 hS53.ext)⟩
        · replace hb17 := inegb hb17 hc54
          refine W.skip ?_
          show W _ _ _ _ _ _
          refine W.region ?_
          refine WL.val (Value.int .i64 (w64 ((k12 : Int) + (1 : Int)))) _ (op_add hf51 rfl) rfl ?_
          refine WL.val (Value.int .i64 (w64 ((k12 : Int) + (1 : Int)))) _ (op_move rfl) rfl ?_
          refine WL.nil ?_
          obtain rfl := Option.some.inj hb17
          show ∃ s, _ = Ctl.next s ∧ _
          exact ⟨_, rfl, hf48, hf50, (ctr_next hl26 hr9), (ctr_rng hl26 hr9), hS53⟩
    · intro s61 f57 wd58 hs59 hI60
      obtain ⟨⟩ := s61
      replace hI60 : f57 1 = (Value.pointer (some ⟨b1, 0, none⟩)) ∧ f57 7 = (Value.int .i64 ((r_Table).length : Int)) ∧ f57 8 = Value.int .i64 (((r_Table).length : Nat) : Int) ∧ InR .i64 (((r_Table).length : Nat) : Int) ∧ St wd2 wd58 [] := hI60
      obtain ⟨hf62, hf63, hf64, hr65, hS66⟩ := hI60
      refine W.seq (W.region ?_)
      refine WL.val (Value.bool (decide ((((r_Table).length : Nat) : Int) < ((r_Table).length : Int)))) _ (op_lss hf64 hf63) rfl ?_
      have hl67 : ¬ (((r_Table).length : Nat) : Int) < ((r_Table).length : Int) := by omega
      refine WL.nil ?_
      refine W.seq ?_
      refine W.condF (decide ((((r_Table).length : Nat) : Int) < ((r_Table).length : Int))) rfl (decide_eq_false hl67) ?_
      refine W.exit ?_
      show _ = _ ∧ _
      exact ⟨rfl, _, hs59, hS66⟩
  · rintro f68 wd69 ⟨s71, rfl, hq70⟩
    replace h := onRes_fin h
    obtain ⟨⟩ := s71
    replace hq70 : St wd2 wd69 [] := hq70
    have hS72 := hq70
    refine W.seq (W.region ?_)
    refine WL.val (Value.int .i64 (-1 : Int)) _ (op_assign rfl) rfl ?_
    refine WL.nil ?_
    refine W.ret ?_
    obtain rfl := Option.some.inj h
    show FinP _ _ _ _ _ _ _
    exact FinP.ret _ (res1 rfl rfl) ⟨rfl, (inR_i64.2 (show (-9223372036854775808 : Int) ≤ -1 ∧ (-1 : Int) ≤ 9223372036854775807 from by decide)), (Ext.trans hE7 hS72.ext)⟩

theorem c_impl_Ring_duals {w : World} {r_Table : (List (List (List Int)))} {v_r_Table : Value} (r_r_Table : (Ty.sl (Ty.sl (Ty.sl (Ty.i .i64)))).rep w v_r_Table r_Table) {res : (List Int)} (h : p_impl_Ring_duals r_Table  = some res) :
    Ret Try.prog 65 #[(Value.agg #[v_r_Table])] w (fun v w' => ∃ (u0 : Value), v = u0 ∧ Ext w w' ∧ Sep w.heap.size w' [(Ty.sl (Ty.i .i64)).at u0 res]) := by
  unfold p_impl_Ring_duals at h
  have hS0 : St w w [] := St.start w
  refine Ret.start (fn := Try.f65) Try.func65 rfl 20 rfl rfl ?_
  refine W.seq (W.region ?_)
  refine WL.box hS0 rfl (cs := [v_r_Table]) rfl rfl ?_
  intro b1 wd2 hS3 he4 hx5
  replace hS3 : St w wd2 [bx b1 [v_r_Table]] := hS3
  have hx6 := St.boxAt hS3 0 rfl
  have hE7 : Ext w wd2 := hS3.ext
  have hS8 : St wd2 wd2 [] := St.start wd2
  refine WL.val (Value.slice none 0 0) _ (op_assign rfl) rfl ?_
  refine WL.nil ?_
  refine W.seq (W.region ?_)
  refine WL.lit0 (t := (Ty.i .i64)) hS8 sl_75 rfl rfl ?_
  intro u9 wd10 hS11 he12
  replace hS11 : St wd2 wd10 [(Ty.sl (Ty.i .i64)).at u9 ([] : (List Int))] := hS11
  refine WL.val u9 _ (op_assign rfl) rfl ?_
  refine WL.nil ?_
  refine W.seq (W.seq (W.region ?_))
  refine WL.val (Value.pointer (some ⟨b1, 0, none⟩)) _ (op_fieldAddr fd_28_0 rfl) rfl ?_
  refine WL.val v_r_Table _ (op_load one_22 rfl (BoxAt.cell (BoxAt.lift hS11.ext hx6) rfl)) rfl ?_
  have hr13 := inR_len (Ty.lift _ (Ext.trans hE7 hS11.ext) r_r_Table)
  refine WL.val (Value.int .i64 ((r_Table).length : Int)) _ (op_lenL sl_22 (Ty.lift _ (Ext.trans hE7 hS11.ext) r_r_Table) rfl) rfl ?_
  refine WL.val (Value.int .i64 (0 : Int)) _ (op_move rfl) rfl ?_
  refine WL.nil ?_
  show W _ _ _ _ _ _
  obtain ⟨res14, hres15, h⟩ := bs h
  refine W.blockLoop (fun fq wq => ∃ s, res14 = Res.fin s ∧ ∃ (uu0 : Value), fq 3 = uu0 ∧ St wd2 wq [(Ty.sl (Ty.i .i64)).at uu0 s]) ?_ ?_
  · refine W.forN (fun k (s : (List Int)) fq wq => ∃ (uu0 : Value), fq 1 = (Value.pointer (some ⟨b1, 0, none⟩)) ∧ fq 3 = uu0 ∧ fq 8 = (Value.int .i64 ((r_Table).length : Int)) ∧ fq 9 = Value.int .i64 (k : Int) ∧ InR .i64 (k : Int) ∧ St wd2 wq [(Ty.sl (Ty.i .i64)).at uu0 s]) hres15 ⟨u9, rfl, rfl, rfl, rfl, (inL rfl), hS11⟩ ?_ ?_
    · intro k16 x17 ct18 f19 wd20 hk21 hb22 hI23 hbrk24 hret25
      replace hI23 : ∃ (uu0 : Value), f19 1 = (Value.pointer (some ⟨b1, 0, none⟩)) ∧ f19 3 = uu0 ∧ f19 8 = (Value.int .i64 ((r_Table).length : Int)) ∧ f19 9 = Value.int .i64 (k16 : Int) ∧ InR .i64 (k16 : Int) ∧ St wd2 wd20 [(Ty.sl (Ty.i .i64)).at uu0 x17] := hI23
      replace hb22 : p_impl_Ring_duals_L1 r_Table k16 x17 = some ct18 := hb22
      unfold p_impl_Ring_duals_L1 at hb22
      obtain ⟨u26, hf27, hf28, hf29, hf30, hr31, hS32⟩ := hI23
      refine W.seq (W.region ?_)
      refine WL.val (Value.bool (decide ((k16 : Int) < ((r_Table).length : Int)))) _ (op_lss hf30 hf29) rfl ?_
      have hl33 : (k16 : Int) < ((r_Table).length : Int) := by omega
      refine WL.nil ?_
      refine W.seq ?_
      refine W.condT (decide ((k16 : Int) < ((r_Table).length : Int))) rfl (decide_eq_true hl33) ?_
      refine W.skip ?_
      refine W.seq ?_
      refine W.block ?_
      refine W.seq (W.region ?_)
      refine WL.val (Value.int .i64 (k16 : Int)) _ (op_move hf30) rfl ?_
      refine WL.val (Value.int .i64 (k16 : Int)) _ (op_assign rfl) rfl ?_
      refine WL.nil ?_
      show W _ _ _ _ _ _
      refine W.region ?_
      refine WL.val u26 _ (op_move hf28) rfl ?_
      refine WL.val (Value.agg #[v_r_Table]) _ (op_loadBox st_28 hf27 (BoxAt.lift hS32.ext hx6) rfl rfl) rfl ?_
      refine WL.val (Value.int .i64 (k16 : Int)) _ (op_move rfl) rfl ?_
      obtain ⟨x35, hx36, hb22⟩ := bs hb22
      refine WL.call _ (op_call fn_64 (args2 rfl rfl)) (c_impl_Ring_onlyOf (Ty.lift _ (Ext.trans hE7 hS32.ext) r_r_Table) hr31 hx36) rfl ?_
      rintro _ wd38 ⟨rfl, hr37, he39⟩
      have hS41 := St.extend hS32 he39
      replace hS41 : St wd2 wd38 [(Ty.sl (Ty.i .i64)).at u26 x17] := hS41
      refine WL.litFlat (t := (Ty.i .i64)) (flat_i .i64) [(Value.int .i64 x35)] [x35] hS41 sl_75 rfl rfl (fillL rfl ⟨rfl, rfl, rfl, trivial⟩) rfl rfl (litL ⟨⟨rfl, hr37⟩, trivial⟩) rfl ?_
      intro u42 wd43 hS44 he45
      replace hS44 : St wd2 wd43 [(Ty.sl (Ty.i .i64)).at u26 x17, (Ty.sl (Ty.i .i64)).at u42 ([x35] : (List Int))] := hS44
      obtain ⟨x46, hx47, hb22⟩ := bs hb22
      refine WL.append (flat_i .i64) hS44 (k := 0) rfl sl_75 rfl rfl rfl rfl (St.rep (t := (Ty.sl (Ty.i .i64))) hS44 1 rfl) hx47 rfl ?_
      intro u48 wd49 hS50 hz51
      replace hS50 : St wd2 wd49 [(Ty.sl (Ty.i .i64)).at u48 x46, (Ty.sl (Ty.i .i64)).at u42 ([x35] : (List Int))] := hS50
      refine WL.val u48 _ (op_assign rfl) rfl ?_
      refine WL.nil ?_
      show W _ _ _ _ _ _
      refine W.region ?_
      refine WL.val (Value.int .i64 (w64 ((k16 : Int) + (1 : Int)))) _ (op_add hf30 rfl) rfl ?_
      refine WL.val (Value.int .i64 (w64 ((k16 : Int) + (1 : Int)))) _ (op_move rfl) rfl ?_
      refine WL.nil ?_
      obtain rfl := Option.some.inj hb22
      show ∃ s, _ = Ctl.next s ∧ _
      exact ⟨_, rfl, u48, hf27, rfl, hf29, (ctr_next hl33 hr13), (ctr_rng hl33 hr13), (St.pick hS50 [0] rfl)⟩
    · intro x58 f53 wd54 hs55 hI56
      replace hI56 : ∃ (uu0 : Value), f53 1 = (Value.pointer (some ⟨b1, 0, none⟩)) ∧ f53 3 = uu0 ∧ f53 8 = (Value.int .i64 ((r_Table).length : Int)) ∧ f53 9 = Value.int .i64 (((r_Table).length : Nat) : Int) ∧ InR .i64 (((r_Table).length : Nat) : Int) ∧ St wd2 wd54 [(Ty.sl (Ty.i .i64)).at uu0 x58] := hI56
      obtain ⟨u59, hf60, hf61, hf62, hf63, hr64, hS65⟩ := hI56
      refine W.seq (W.region ?_)
      refine WL.val (Value.bool (decide ((((r_Table).length : Nat) : Int) < ((r_Table).length : Int)))) _ (op_lss hf63 hf62) rfl ?_
      have hl66 : ¬ (((r_Table).length : Nat) : Int) < ((r_Table).length : Int) := by omega
      refine WL.nil ?_
      refine W.seq ?_
      refine W.condF (decide ((((r_Table).length : Nat) : Int) < ((r_Table).length : Int))) rfl (decide_eq_false hl66) ?_
      refine W.exit ?_
      show _ = _ ∧ _
      exact ⟨rfl, _, hs55, u59, hf61, hS65⟩
  · rintro f67 wd68 ⟨x71, rfl, hq69⟩
    replace h := onRes_fin h
    replace hq69 : ∃ (uu0 : Value), f67 3 = uu0 ∧ St wd2 wd68 [(Ty.sl (Ty.i .i64)).at uu0 x71] := hq69
    obtain ⟨u72, hf73, hS74⟩ := hq69
    refine W.seq (W.region ?_)
    refine WL.val u72 _ (op_move hf73) rfl ?_
    refine WL.val u72 _ (op_assign rfl) rfl ?_
    refine WL.nil ?_
    refine W.ret ?_
    obtain rfl := Option.some.inj h
    show FinP _ _ _ _ _ _ _
    exact FinP.ret _ (res1 rfl rfl) ⟨u72, rfl, (Ext.trans hE7 hS74.ext), (St.out (St.pick hS74 [0] rfl) (hE7))⟩

theorem c_impl_Ring_turnFault {w : World} {r_Table : (List (List (List Int)))} {v_r_Table : Value} (r_r_Table : (Ty.sl (Ty.sl (Ty.sl (Ty.i .i64)))).rep w v_r_Table r_Table) {res : (List Int)} (h : p_impl_Ring_turnFault r_Table  = some res) :
    Ret Try.prog 54 #[(Value.agg #[v_r_Table])] w (fun v w' => ∃ (u0 : Value), v = u0 ∧ NilIff u0 res ∧ Ext w w' ∧ Sep w.heap.size w' [(Ty.sl (Ty.i .i64)).at u0 res]) := by
  unfold p_impl_Ring_turnFault at h
  have hS0 : St w w [] := St.start w
  refine Ret.start (fn := Try.f54) Try.func54 rfl 80 rfl rfl ?_
  refine W.seq (W.region ?_)
  refine WL.box hS0 rfl (cs := [v_r_Table]) rfl rfl ?_
  intro b1 wd2 hS3 he4 hx5
  replace hS3 : St w wd2 [bx b1 [v_r_Table]] := hS3
  have hx6 := St.boxAt hS3 0 rfl
  have hE7 : Ext w wd2 := hS3.ext
  have hS8 : St wd2 wd2 [] := St.start wd2
  refine WL.val (Value.slice none 0 0) _ (op_assign rfl) rfl ?_
  refine WL.nil ?_
  refine W.seq (W.region ?_)
  refine WL.val (Value.agg #[v_r_Table]) _ (op_loadBox st_28 rfl (BoxAt.lift hS8.ext hx6) rfl rfl) rfl ?_
  obtain ⟨x9, hx10, h⟩ := bs h
  refine WL.call _ (op_call fn_65 (args1 rfl)) (c_impl_Ring_duals (Ty.lift _ (Ext.trans hE7 hS8.ext) r_r_Table) hx10) rfl ?_
  rintro u11 wd12 ⟨_, rfl, he13, hs14⟩
  have hS15 := St.join hS8 he13 hs14
  replace hS15 : St wd2 wd12 [(Ty.sl (Ty.i .i64)).at u11 x9] := hS15
  have hb16 := St.rep (t := (Ty.sl (Ty.i .i64))) hS15 0 rfl
  have hE17 : Ext w wd12 := (Ext.trans hE7 hS15.ext)
  have hE18 : Ext wd2 wd12 := hS15.ext
  have hS19 : St wd12 wd12 [] := St.start wd12
  refine WL.val u11 _ (op_assign rfl) rfl ?_
  refine WL.nil ?_
  refine W.seq (W.seq (W.region ?_))
  refine WL.val (Value.pointer (some ⟨b1, 0, none⟩)) _ (op_fieldAddr fd_28_0 rfl) rfl ?_
  refine WL.val v_r_Table _ (op_load one_22 rfl (BoxAt.cell (BoxAt.lift (Ext.trans hE18 hS19.ext) hx6) rfl)) rfl ?_
  have hr20 := inR_len (Ty.lift _ (Ext.trans hE17 hS19.ext) r_r_Table)
  refine WL.val (Value.int .i64 ((r_Table).length : Int)) _ (op_lenL sl_22 (Ty.lift _ (Ext.trans hE17 hS19.ext) r_r_Table) rfl) rfl ?_
  refine WL.val (Value.int .i64 (0 : Int)) _ (op_move rfl) rfl ?_
  refine WL.nil ?_
  show W _ _ _ _ _ _
  obtain ⟨res21, hres22, h⟩ := bs h
  refine W.blockLoop (fun fq wq => ∃ s, res21 = Res.fin s ∧ St wd12 wq []) ?_ ?_
  · refine W.forN (fun k (s : Unit) fq wq => fq 1 = (Value.pointer (some ⟨b1, 0, none⟩)) ∧ fq 3 = u11 ∧ fq 12 = (Value.int .i64 ((r_Table).length : Int)) ∧ fq 13 = Value.int .i64 (k : Int) ∧ InR .i64 (k : Int) ∧ St wd12 wq []) hres22 ⟨rfl, rfl, rfl, rfl, (inL rfl), hS19⟩ ?_ ?_
    · intro k23 s852 ct24 f25 wd26 hk27 hb28 hI29 hbrk30 hret31
      obtain ⟨⟩ := s852
      replace hI29 : f25 1 = (Value.pointer (some ⟨b1, 0, none⟩)) ∧ f25 3 = u11 ∧ f25 12 = (Value.int .i64 ((r_Table).length : Int)) ∧ f25 13 = Value.int .i64 (k23 : Int) ∧ InR .i64 (k23 : Int) ∧ St wd12 wd26 [] := hI29
      replace hb28 : p_impl_Ring_turnFault_L1 r_Table x9 k23  = some ct24 := hb28
      unfold p_impl_Ring_turnFault_L1 at hb28
      obtain ⟨hf32, hf33, hf34, hf35, hr36, hS37⟩ := hI29
      refine W.seq (W.region ?_)
      refine WL.val (Value.bool (decide ((k23 : Int) < ((r_Table).length : Int)))) _ (op_lss hf35 hf34) rfl ?_
      have hl38 : (k23 : Int) < ((r_Table).length : Int) := by omega
      refine WL.nil ?_
      refine W.seq ?_
      refine W.condT (decide ((k23 : Int) < ((r_Table).length : Int))) rfl (decide_eq_true hl38) ?_
      refine W.skip ?_
      refine W.seq ?_
      refine W.block ?_
      refine W.seq (W.region ?_)
      refine WL.val (Value.int .i64 (k23 : Int)) _ (op_move hf35) rfl ?_
      refine WL.val (Value.int .i64 (k23 : Int)) _ (op_assign rfl) rfl ?_
      refine WL.nil ?_
      refine W.seq (W.region ?_)
      refine WL.val (Value.pointer (some ⟨b1, 0, none⟩)) _ (op_fieldAddr fd_28_0 hf32) rfl ?_
      refine WL.val v_r_Table _ (op_load one_22 rfl (BoxAt.cell (BoxAt.lift (Ext.trans hE18 hS37.ext) hx6) rfl)) rfl ?_
      have hr40 := inR_len (Ty.lift _ (Ext.trans hE17 hS37.ext) r_r_Table)
      refine WL.val (Value.int .i64 ((r_Table).length : Int)) _ (op_lenL sl_22 (Ty.lift _ (Ext.trans hE17 hS37.ext) r_r_Table) rfl) rfl ?_
      refine WL.val (Value.int .i64 (0 : Int)) _ (op_move rfl) rfl ?_
      refine WL.nil ?_
      show W _ _ _ _ _ _
      obtain ⟨res41, hres42, hb28⟩ := bs hb28
      refine W.blockLoop (fun fq wq => ∃ s, res41 = Res.fin s ∧ fq 1 = (Value.pointer (some ⟨b1, 0, none⟩)) ∧ fq 3 = u11 ∧ fq 12 = (Value.int .i64 ((r_Table).length : Int)) ∧ fq 13 = (Value.int .i64 (k23 : Int)) ∧ St wd12 wq []) ?_ ?_
      · refine W.forN (fun k (s : Unit) fq wq => fq 1 = (Value.pointer (some ⟨b1, 0, none⟩)) ∧ fq 3 = u11 ∧ fq 4 = (Value.int .i64 (k23 : Int)) ∧ fq 12 = (Value.int .i64 ((r_Table).length : Int)) ∧ fq 13 = (Value.int .i64 (k23 : Int)) ∧ fq 18 = (Value.int .i64 ((r_Table).length : Int)) ∧ fq 19 = Value.int .i64 (k : Int) ∧ InR .i64 (k : Int) ∧ St wd12 wq []) hres42 ⟨hf32, hf33, rfl, hf34, hf35, rfl, rfl, (inL rfl), hS37⟩ ?_ ?_
        · intro k43 s826 ct44 f45 wd46 hk47 hb48 hI49 hbrk50 hret51
          obtain ⟨⟩ := s826
          replace hI49 : f45 1 = (Value.pointer (some ⟨b1, 0, none⟩)) ∧ f45 3 = u11 ∧ f45 4 = (Value.int .i64 (k23 : Int)) ∧ f45 12 = (Value.int .i64 ((r_Table).length : Int)) ∧ f45 13 = (Value.int .i64 (k23 : Int)) ∧ f45 18 = (Value.int .i64 ((r_Table).length : Int)) ∧ f45 19 = Value.int .i64 (k43 : Int) ∧ InR .i64 (k43 : Int) ∧ St wd12 wd46 [] := hI49
          replace hb48 : p_impl_Ring_turnFault_L2 r_Table k23 x9 k43  = some ct44 := hb48
          unfold p_impl_Ring_turnFault_L2 at hb48
          obtain ⟨hf52, hf53, hf54, hf55, hf56, hf57, hf58, hr59, hS60⟩ := hI49
          refine W.seq (W.region ?_)
          refine WL.val (Value.bool (decide ((k43 : Int) < ((r_Table).length : Int)))) _ (op_lss hf58 hf57) rfl ?_
          have hl61 : (k43 : Int) < ((r_Table).length : Int) := by omega
          refine WL.nil ?_
          refine W.seq ?_
          refine W.condT (decide ((k43 : Int) < ((r_Table).length : Int))) rfl (decide_eq_true hl61) ?_
          refine W.skip ?_
          refine W.seq ?_
          refine W.block ?_
          refine W.seq (W.region ?_)
          refine WL.val (Value.int .i64 (k43 : Int)) _ (op_move hf58) rfl ?_
          refine WL.val (Value.int .i64 (k43 : Int)) _ (op_assign rfl) rfl ?_
          refine WL.nil ?_
          refine W.seq (W.region ?_)
          refine WL.val (Value.pointer (some ⟨b1, 0, none⟩)) _ (op_fieldAddr fd_28_0 hf52) rfl ?_
          refine WL.val v_r_Table _ (op_load one_22 rfl (BoxAt.cell (BoxAt.lift (Ext.trans hE18 hS60.ext) hx6) rfl)) rfl ?_
          have hr63 := inR_len (Ty.lift _ (Ext.trans hE17 hS60.ext) r_r_Table)
          refine WL.val (Value.int .i64 ((r_Table).length : Int)) _ (op_lenL sl_22 (Ty.lift _ (Ext.trans hE17 hS60.ext) r_r_Table) rfl) rfl ?_
          refine WL.val (Value.int .i64 (0 : Int)) _ (op_move rfl) rfl ?_
          refine WL.nil ?_
          show W _ _ _ _ _ _
          obtain ⟨res64, hres65, hb48⟩ := bs hb48
          refine W.blockLoop (fun fq wq => ∃ s, res64 = Res.fin s ∧ fq 1 = (Value.pointer (some ⟨b1, 0, none⟩)) ∧ fq 3 = u11 ∧ fq 4 = (Value.int .i64 (k23 : Int)) ∧ fq 12 = (Value.int .i64 ((r_Table).length : Int)) ∧ fq 13 = (Value.int .i64 (k23 : Int)) ∧ fq 18 = (Value.int .i64 ((r_Table).length : Int)) ∧ fq 19 = (Value.int .i64 (k43 : Int)) ∧ St wd12 wq []) ?_ ?_
          · refine W.forN (fun k (s : Unit) fq wq => fq 1 = (Value.pointer (some ⟨b1, 0, none⟩)) ∧ fq 3 = u11 ∧ fq 4 = (Value.int .i64 (k23 : Int)) ∧ fq 5 = (Value.int .i64 (k43 : Int)) ∧ fq 12 = (Value.int .i64 ((r_Table).length : Int)) ∧ fq 13 = (Value.int .i64 (k23 : Int)) ∧ fq 18 = (Value.int .i64 ((r_Table).length : Int)) ∧ fq 19 = (Value.int .i64 (k43 : Int)) ∧ fq 24 = (Value.int .i64 ((r_Table).length : Int)) ∧ fq 25 = Value.int .i64 (k : Int) ∧ InR .i64 (k : Int) ∧ St wd12 wq []) hres65 ⟨hf52, hf53, hf54, rfl, hf55, hf56, hf57, hf58, rfl, rfl, (inL rfl), hS60⟩ ?_ ?_
            · intro k66 s794 ct67 f68 wd69 hk70 hb71 hI72 hbrk73 hret74
              obtain ⟨⟩ := s794
              replace hI72 : f68 1 = (Value.pointer (some ⟨b1, 0, none⟩)) ∧ f68 3 = u11 ∧ f68 4 = (Value.int .i64 (k23 : Int)) ∧ f68 5 = (Value.int .i64 (k43 : Int)) ∧ f68 12 = (Value.int .i64 ((r_Table).length : Int)) ∧ f68 13 = (Value.int .i64 (k23 : Int)) ∧ f68 18 = (Value.int .i64 ((r_Table).length : Int)) ∧ f68 19 = (Value.int .i64 (k43 : Int)) ∧ f68 24 = (Value.int .i64 ((r_Table).length : Int)) ∧ f68 25 = Value.int .i64 (k66 : Int) ∧ InR .i64 (k66 : Int) ∧ St wd12 wd69 [] := hI72
              replace hb71 : p_impl_Ring_turnFault_L3 r_Table k23 k43 x9 k66  = some ct67 := hb71
              unfold p_impl_Ring_turnFault_L3 at hb71
              obtain ⟨hf75, hf76, hf77, hf78, hf79, hf80, hf81, hf82, hf83, hf84, hr85, hS86⟩ := hI72
              refine W.seq (W.region ?_)
              refine WL.val (Value.bool (decide ((k66 : Int) < ((r_Table).length : Int)))) _ (op_lss hf84 hf83) rfl ?_
              have hl87 : (k66 : Int) < ((r_Table).length : Int) := by omega
              refine WL.nil ?_
              refine W.seq ?_
              refine W.condT (decide ((k66 : Int) < ((r_Table).length : Int))) rfl (decide_eq_true hl87) ?_
              refine W.skip ?_
              refine W.seq ?_
              refine W.block ?_
              refine W.seq (W.region ?_)
              refine WL.val (Value.int .i64 (k66 : Int)) _ (op_move hf84) rfl ?_
              refine WL.val (Value.int .i64 (k66 : Int)) _ (op_assign rfl) rfl ?_
              refine WL.nil ?_
              refine W.seq (W.region ?_)
              refine WL.val (Value.pointer (some ⟨b1, 0, none⟩)) _ (op_fieldAddr fd_28_0 hf75) rfl ?_
              refine WL.val v_r_Table _ (op_load one_22 rfl (BoxAt.cell (BoxAt.lift (Ext.trans hE18 hS86.ext) hx6) rfl)) rfl ?_
              refine WL.val (Value.int .i64 (k23 : Int)) _ (op_move hf77) rfl ?_
              obtain ⟨x89, hx92, hb71⟩ := bs hb71
              obtain ⟨ha90, hb91, hx92⟩ := idx_some hx92
              refine WL.val (Value.pointer (some (elA v_r_Table ((k23 : Int)).toNat))) _ (op_idx sl_22 (Ty.lift _ (Ext.trans hE17 hS86.ext) r_r_Table) rfl rfl ha90 hb91) rfl ?_
              obtain ⟨u93, hc94, hr95⟩ := repSl.el r_r_Table hx92
              refine WL.val u93 _ (op_load one_54 rfl (Ext.cell (Ext.trans hE17 hS86.ext) hc94)) rfl ?_
              refine WL.val (Value.int .i64 (k43 : Int)) _ (op_move hf78) rfl ?_
              obtain ⟨x96, hx99, hb71⟩ := bs hb71
              obtain ⟨ha97, hb98, hx99⟩ := idx_some hx99
              refine WL.val (Value.pointer (some (elA u93 ((k43 : Int)).toNat))) _ (op_idx sl_54 (Ty.lift _ (Ext.trans hE17 hS86.ext) hr95) rfl rfl ha97 hb98) rfl ?_
              obtain ⟨u100, hc101, hr102⟩ := repSl.el hr95 hx99
              refine WL.val u100 _ (op_load one_34 rfl (Ext.cell (Ext.trans hE17 hS86.ext) hc101)) rfl ?_
              refine WL.val (Value.int .i64 (k66 : Int)) _ (op_move rfl) rfl ?_
              obtain ⟨x103, hx106, hb71⟩ := bs hb71
              obtain ⟨ha104, hb105, hx106⟩ := idx_some hx106
              refine WL.val (Value.pointer (some (elA u100 ((k66 : Int)).toNat))) _ (op_idx sl_34 (Ty.lift _ (Ext.trans hE17 hS86.ext) hr102) rfl rfl ha104 hb105) rfl ?_
              obtain ⟨u107, hc108, hr109⟩ := repSl.el hr102 hx106
              obtain ⟨rfl, hr109⟩ := hr109
              refine WL.val (Value.int .i64 x103) _ (op_load one_2 rfl (Ext.cell (Ext.trans hE17 hS86.ext) hc108)) rfl ?_
              refine WL.val (Value.int .i64 x103) _ (op_assign rfl) rfl ?_
              refine WL.nil ?_
              refine W.seq ?_
              obtain ⟨x163, hx166, hb71⟩ := bs hb71
              obtain ⟨ha164, hb165, hx166⟩ := idx_some hx166
              obtain ⟨u177, hc178, hr179⟩ := repSl.el hb16 hx166
              obtain ⟨rfl, hr179⟩ := hr179
              obtain ⟨x195, hx198, hb71⟩ := bs hb71
              obtain ⟨ha196, hb197, hx198⟩ := idx_some hx198
              obtain ⟨u209, hc210, hr211⟩ := repSl.el r_r_Table hx198
              obtain ⟨x234, hx237, hb71⟩ := bs hb71
              obtain ⟨ha235, hb236, hx237⟩ := idx_some hx237
              obtain ⟨u248, hc249, hr250⟩ := repSl.el hr211 hx237
              obtain ⟨x273, hx276, hb71⟩ := bs hb71
              obtain ⟨ha274, hb275, hx276⟩ := idx_some hx276
              obtain ⟨u287, hc288, hr289⟩ := repSl.el hr250 hx276
              obtain ⟨rfl, hr289⟩ := hr289
              obtain ⟨x316, hj317, hb71⟩ := bs hb71
              refine W.cutCode (fun fq wq => fq 1 = (Value.pointer (some ⟨b1, 0, none⟩)) ∧ fq 3 = u11 ∧ fq 4 = (Value.int .i64 (k23 : Int)) ∧ fq 5 = (Value.int .i64 (k43 : Int)) ∧ fq 6 = (Value.int .i64 (k66 : Int)) ∧ fq 12 = (Value.int .i64 ((r_Table).length : Int)) ∧ fq 13 = (Value.int .i64 (k23 : Int)) ∧ fq 18 = (Value.int .i64 ((r_Table).length : Int)) ∧ fq 19 = (Value.int .i64 (k43 : Int)) ∧ fq 24 = (Value.int .i64 ((r_Table).length : Int)) ∧ fq 25 = (Value.int .i64 (k66 : Int)) ∧ fq 72 = Value.bool x316 ∧ St wd12 wq []) ?_ ?_
              · rcases Bool.eq_false_or_eq_true (x103 != x273) with hc318 | hc318
                · replace hj317 := ip hj317 hc318
                  refine W.drawR mixo 32 [] [fun _ v _ _ => v = (Value.int .i64 x103) ∧ InR .i64 x103, fun _ v _ _ => v = (Value.pointer (some ⟨b1, 0, none⟩)), fun _ v _ _ => v = v_r_Table, fun _ v _ _ => v = u11, fun _ v _ _ => v = (Value.int .i64 (k23 : Int)) ∧ InR .i64 (k23 : Int), fun _ v _ _ => v = (Value.pointer (some (elA u11 ((k23 : Int)).toNat))), fun _ v _ _ => v = (Value.int .i64 x163) ∧ InR .i64 x163, fun _ v _ _ => v = (Value.pointer (some (elA v_r_Table (x163).toNat))), fun _ v _ _ => v = u209, fun _ v _ _ => v = (Value.int .i64 (k66 : Int)) ∧ InR .i64 (k66 : Int), fun _ v _ _ => v = (Value.pointer (some (elA u209 ((k66 : Int)).toNat))), fun _ v _ _ => v = u248, fun _ v _ _ => v = (Value.int .i64 (k43 : Int)) ∧ InR .i64 (k43 : Int), fun _ v _ _ => v = (Value.pointer (some (elA u248 ((k43 : Int)).toNat))), fun _ v _ _ => v = (Value.int .i64 x273) ∧ InR .i64 x273, fun _ v _ _ => v = (Value.bool (x103 != x273)), fun _ v _ _ => v = (Value.bool (x103 != x273)), fun _ v _ _ => v = undef, fun _ v _ _ => v = undef, fun _ v _ _ => v = undef, fun _ v _ _ => v = undef, fun _ v _ _ => v = undef, fun _ v _ _ => v = undef, fun _ v _ _ => v = undef, fun _ v _ _ => v = undef, fun _ v _ _ => v = undef, fun _ v _ _ => v = undef, fun _ v _ _ => v = undef, fun _ v _ _ => v = undef, fun _ v _ _ => v = undef, fun _ v _ _ => v = undef, fun _ v _ _ => v = undef] (by kernel_rfl) (by kernel_rfl) ⟨pk, pk, pk, pk, pk, pk, pk, pk, pk, pk, pk, pk, pk, pk, pk, pk, pk, pk, pk, pk, pk, pk, pk, pk, pk, pk, pk, pk, pk, pk, pk, pk, trivial⟩ ⟨?_, ?_, ?_, ?_, ?_, ?_, ?_, ?_, ?_, ?_, ?_, ?_, ?_, ?_, ?_, ?_, ?_, ?_, ?_, ?_, ?_, ?_, ?_, ?_, ?_, ?_, ?_, ?_, ?_, ?_, ?_, ?_, trivial⟩ ?_
                  · refine ObX.op rfl fun f110 wd111 he112 hout113 hphi114 => ?_
                    have hS115 := St.extend hS86 he112
                    have e116 : f110 7 = (Value.int .i64 x103) := (hout113 7 rfl).trans rfl
                    exact OpX.val (Value.int .i64 x103) wd111 rfl (op_move e116) (Ext.refl _) ⟨rfl, hr109⟩
                  · refine ObX.op rfl fun f117 wd118 he119 hout120 hphi121 => ?_
                    have hS122 := St.extend hS86 he119
                    have e123 : f117 1 = (Value.pointer (some ⟨b1, 0, none⟩)) := (hout120 1 rfl).trans hf75
                    exact OpX.val (Value.pointer (some ⟨b1, 0, none⟩)) wd118 rfl (op_fieldAddr fd_28_0 e123) (Ext.refl _) rfl
                  · refine ObX.op rfl fun f124 wd125 he126 hout127 hphi128 => ?_
                    have hS129 := St.extend hS86 he126
                    obtain ⟨S130, hS131, hf132⟩ := hphi128 1 40 _ rfl rfl rfl
                    have e133 : f124 40 = (Value.pointer (some ⟨b1, 0, none⟩)) := hf132
                    exact OpX.val v_r_Table wd125 rfl (op_load one_22 e133 (BoxAt.cell (BoxAt.lift (Ext.trans hE18 hS129.ext) hx6) rfl)) (Ext.refl _) rfl
                  · refine ObX.op rfl fun f134 wd135 he136 hout137 hphi138 => ?_
                    have hS139 := St.extend hS86 he136
                    have e140 : f134 3 = u11 := (hout137 3 rfl).trans hf76
                    exact OpX.val u11 wd135 rfl (op_move e140) (Ext.refl _) rfl
                  · refine ObX.op rfl fun f141 wd142 he143 hout144 hphi145 => ?_
                    have hS146 := St.extend hS86 he143
                    have e147 : f141 4 = (Value.int .i64 (k23 : Int)) := (hout144 4 rfl).trans hf77
                    exact OpX.val (Value.int .i64 (k23 : Int)) wd142 rfl (op_move e147) (Ext.refl _) ⟨rfl, hr36⟩
                  · refine ObX.op rfl fun f148 wd149 he150 hout151 hphi152 => ?_
                    have hS153 := St.extend hS86 he150
                    obtain ⟨S154, hS155, hf156⟩ := hphi152 3 42 _ rfl rfl rfl
                    have e157 : f148 42 = u11 := hf156
                    obtain ⟨S158, hS159, hf160⟩ := hphi152 4 43 _ rfl rfl rfl
                    obtain ⟨e161, hr162⟩ := hf160
                    exact OpX.val (Value.pointer (some (elA u11 ((k23 : Int)).toNat))) wd149 rfl (op_idx sl_75 (Ty.lift _ hS153.ext hb16) e157 e161 ha164 hb165) (Ext.refl _) rfl
                  · refine ObX.op rfl fun f167 wd168 he169 hout170 hphi171 => ?_
                    have hS172 := St.extend hS86 he169
                    obtain ⟨S173, hS174, hf175⟩ := hphi171 5 44 _ rfl rfl rfl
                    have e176 : f167 44 = (Value.pointer (some (elA u11 ((k23 : Int)).toNat))) := hf175
                    exact OpX.val (Value.int .i64 x163) wd168 rfl (op_load one_3 e176 (Ext.cell hS172.ext hc178)) (Ext.refl _) ⟨rfl, hr179⟩
                  · refine ObX.op rfl fun f180 wd181 he182 hout183 hphi184 => ?_
                    have hS185 := St.extend hS86 he182
                    obtain ⟨S186, hS187, hf188⟩ := hphi184 2 41 _ rfl rfl rfl
                    have e189 : f180 41 = v_r_Table := hf188
                    obtain ⟨S190, hS191, hf192⟩ := hphi184 6 45 _ rfl rfl rfl
                    obtain ⟨e193, hr194⟩ := hf192
                    exact OpX.val (Value.pointer (some (elA v_r_Table (x163).toNat))) wd181 rfl (op_idx sl_22 (Ty.lift _ (Ext.trans hE17 hS185.ext) r_r_Table) e189 e193 ha196 hb197) (Ext.refl _) rfl
                  · refine ObX.op rfl fun f199 wd200 he201 hout202 hphi203 => ?_
                    have hS204 := St.extend hS86 he201
                    obtain ⟨S205, hS206, hf207⟩ := hphi203 7 46 _ rfl rfl rfl
                    have e208 : f199 46 = (Value.pointer (some (elA v_r_Table (x163).toNat))) := hf207
                    exact OpX.val u209 wd200 rfl (op_load one_54 e208 (Ext.cell (Ext.trans hE17 hS204.ext) hc210)) (Ext.refl _) rfl
                  · refine ObX.op rfl fun f212 wd213 he214 hout215 hphi216 => ?_
                    have hS217 := St.extend hS86 he214
                    have e218 : f212 6 = (Value.int .i64 (k66 : Int)) := (hout215 6 rfl).trans rfl
                    exact OpX.val (Value.int .i64 (k66 : Int)) wd213 rfl (op_move e218) (Ext.refl _) ⟨rfl, hr85⟩
                  · refine ObX.op rfl fun f219 wd220 he221 hout222 hphi223 => ?_
                    have hS224 := St.extend hS86 he221
                    obtain ⟨S225, hS226, hf227⟩ := hphi223 8 47 _ rfl rfl rfl
                    have e228 : f219 47 = u209 := hf227
                    obtain ⟨S229, hS230, hf231⟩ := hphi223 9 48 _ rfl rfl rfl
                    obtain ⟨e232, hr233⟩ := hf231
                    exact OpX.val (Value.pointer (some (elA u209 ((k66 : Int)).toNat))) wd220 rfl (op_idx sl_54 (Ty.lift _ (Ext.trans hE17 hS224.ext) hr211) e228 e232 ha235 hb236) (Ext.refl _) rfl
                  · refine ObX.op rfl fun f238 wd239 he240 hout241 hphi242 => ?_
                    have hS243 := St.extend hS86 he240
                    obtain ⟨S244, hS245, hf246⟩ := hphi242 10 49 _ rfl rfl rfl
                    have e247 : f238 49 = (Value.pointer (some (elA u209 ((k66 : Int)).toNat))) := hf246
                    exact OpX.val u248 wd239 rfl (op_load one_34 e247 (Ext.cell (Ext.trans hE17 hS243.ext) hc249)) (Ext.refl _) rfl
                  · refine ObX.op rfl fun f251 wd252 he253 hout254 hphi255 => ?_
                    have hS256 := St.extend hS86 he253
                    have e257 : f251 5 = (Value.int .i64 (k43 : Int)) := (hout254 5 rfl).trans hf78
                    exact OpX.val (Value.int .i64 (k43 : Int)) wd252 rfl (op_move e257) (Ext.refl _) ⟨rfl, hr59⟩
                  · refine ObX.op rfl fun f258 wd259 he260 hout261 hphi262 => ?_
                    have hS263 := St.extend hS86 he260
                    obtain ⟨S264, hS265, hf266⟩ := hphi262 11 50 _ rfl rfl rfl
                    have e267 : f258 50 = u248 := hf266
                    obtain ⟨S268, hS269, hf270⟩ := hphi262 12 51 _ rfl rfl rfl
                    obtain ⟨e271, hr272⟩ := hf270
                    exact OpX.val (Value.pointer (some (elA u248 ((k43 : Int)).toNat))) wd259 rfl (op_idx sl_34 (Ty.lift _ (Ext.trans hE17 hS263.ext) hr250) e267 e271 ha274 hb275) (Ext.refl _) rfl
                  · refine ObX.op rfl fun f277 wd278 he279 hout280 hphi281 => ?_
                    have hS282 := St.extend hS86 he279
                    obtain ⟨S283, hS284, hf285⟩ := hphi281 13 52 _ rfl rfl rfl
                    have e286 : f277 52 = (Value.pointer (some (elA u248 ((k43 : Int)).toNat))) := hf285
                    exact OpX.val (Value.int .i64 x273) wd278 rfl (op_load one_2 e286 (Ext.cell (Ext.trans hE17 hS282.ext) hc288)) (Ext.refl _) ⟨rfl, hr289⟩
                  · refine ObX.op rfl fun f290 wd291 he292 hout293 hphi294 => ?_
                    have hS295 := St.extend hS86 he292
                    obtain ⟨S296, hS297, hf298⟩ := hphi294 0 39 _ rfl rfl rfl
                    obtain ⟨e299, hr300⟩ := hf298
                    obtain ⟨S301, hS302, hf303⟩ := hphi294 14 53 _ rfl rfl rfl
                    obtain ⟨e304, hr305⟩ := hf303
                    exact OpX.val (Value.bool (x103 != x273)) wd291 rfl (op_neq e299 e304) (Ext.refl _) rfl
                  · refine ObX.op rfl fun f306 wd307 he308 hout309 hphi310 => ?_
                    have hS311 := St.extend hS86 he308
                    obtain ⟨S312, hS313, hf314⟩ := hphi310 15 54 _ rfl rfl rfl
                    have e315 : f306 54 = (Value.bool (x103 != x273)) := hf314
                    exact OpX.val (Value.bool (x103 != x273)) wd307 rfl (op_move e315) (Ext.refl _) rfl
                  · refine ObX.op rfl fun f319 wd320 he321 hout322 hphi323 => ?_
                    obtain ⟨S324, hS325, hf326⟩ := hphi323 16 55 _ rfl rfl rfl
                    have e327 : f319 55 = (Value.bool (x103 != x273)) := hf326
                    exact OpX.skip (wanted_skip rfl rfl e327 hc318) rfl
                  · refine ObX.op rfl fun f328 wd329 he330 hout331 hphi332 => ?_
                    obtain ⟨S333, hS334, hf335⟩ := hphi332 16 55 _ rfl rfl rfl
                    have e336 : f328 55 = (Value.bool (x103 != x273)) := hf335
                    exact OpX.skip (wanted_skip rfl rfl e336 hc318) rfl
                  · refine ObX.op rfl fun f337 wd338 he339 hout340 hphi341 => ?_
                    obtain ⟨S342, hS343, hf344⟩ := hphi341 16 55 _ rfl rfl rfl
                    have e345 : f337 55 = (Value.bool (x103 != x273)) := hf344
                    exact OpX.skip (wanted_skip rfl rfl e345 hc318) rfl
                  · refine ObX.op rfl fun f346 wd347 he348 hout349 hphi350 => ?_
                    obtain ⟨S351, hS352, hf353⟩ := hphi350 16 55 _ rfl rfl rfl
                    have e354 : f346 55 = (Value.bool (x103 != x273)) := hf353
                    exact OpX.skip (wanted_skip rfl rfl e354 hc318) rfl
                  · refine ObX.op rfl fun f355 wd356 he357 hout358 hphi359 => ?_
                    obtain ⟨S360, hS361, hf362⟩ := hphi359 16 55 _ rfl rfl rfl
                    have e363 : f355 55 = (Value.bool (x103 != x273)) := hf362
                    exact OpX.skip (wanted_skip rfl rfl e363 hc318) rfl
                  · refine ObX.op rfl fun f364 wd365 he366 hout367 hphi368 => ?_
                    obtain ⟨S369, hS370, hf371⟩ := hphi368 16 55 _ rfl rfl rfl
                    have e372 : f364 55 = (Value.bool (x103 != x273)) := hf371
                    exact OpX.skip (wanted_skip rfl rfl e372 hc318) rfl
                  · refine ObX.op rfl fun f373 wd374 he375 hout376 hphi377 => ?_
                    obtain ⟨S378, hS379, hf380⟩ := hphi377 16 55 _ rfl rfl rfl
                    have e381 : f373 55 = (Value.bool (x103 != x273)) := hf380
                    exact OpX.skip (wanted_skip rfl rfl e381 hc318) rfl
                  · refine ObX.op rfl fun f382 wd383 he384 hout385 hphi386 => ?_
                    obtain ⟨S387, hS388, hf389⟩ := hphi386 16 55 _ rfl rfl rfl
                    have e390 : f382 55 = (Value.bool (x103 != x273)) := hf389
                    exact OpX.skip (wanted_skip rfl rfl e390 hc318) rfl
                  · refine ObX.op rfl fun f391 wd392 he393 hout394 hphi395 => ?_
                    obtain ⟨S396, hS397, hf398⟩ := hphi395 16 55 _ rfl rfl rfl
                    have e399 : f391 55 = (Value.bool (x103 != x273)) := hf398
                    exact OpX.skip (wanted_skip rfl rfl e399 hc318) rfl
                  · refine ObX.op rfl fun f400 wd401 he402 hout403 hphi404 => ?_
                    obtain ⟨S405, hS406, hf407⟩ := hphi404 16 55 _ rfl rfl rfl
                    have e408 : f400 55 = (Value.bool (x103 != x273)) := hf407
                    exact OpX.skip (wanted_skip rfl rfl e408 hc318) rfl
                  · refine ObX.op rfl fun f409 wd410 he411 hout412 hphi413 => ?_
                    obtain ⟨S414, hS415, hf416⟩ := hphi413 16 55 _ rfl rfl rfl
                    have e417 : f409 55 = (Value.bool (x103 != x273)) := hf416
                    exact OpX.skip (wanted_skip rfl rfl e417 hc318) rfl
                  · refine ObX.op rfl fun f418 wd419 he420 hout421 hphi422 => ?_
                    obtain ⟨S423, hS424, hf425⟩ := hphi422 16 55 _ rfl rfl rfl
                    have e426 : f418 55 = (Value.bool (x103 != x273)) := hf425
                    exact OpX.skip (wanted_skip rfl rfl e426 hc318) rfl
                  · refine ObX.op rfl fun f427 wd428 he429 hout430 hphi431 => ?_
                    obtain ⟨S432, hS433, hf434⟩ := hphi431 16 55 _ rfl rfl rfl
                    have e435 : f427 55 = (Value.bool (x103 != x273)) := hf434
                    exact OpX.skip (wanted_skip rfl rfl e435 hc318) rfl
                  · refine ObX.op rfl fun f436 wd437 he438 hout439 hphi440 => ?_
                    obtain ⟨S441, hS442, hf443⟩ := hphi440 16 55 _ rfl rfl rfl
                    have e444 : f436 55 = (Value.bool (x103 != x273)) := hf443
                    exact OpX.skip (wanted_skip rfl rfl e444 hc318) rfl
                  · refine ObX.op rfl fun f445 wd446 he447 hout448 hphi449 => ?_
                    obtain ⟨S450, hS451, hf452⟩ := hphi449 16 55 _ rfl rfl rfl
                    have e453 : f445 55 = (Value.bool (x103 != x273)) := hf452
                    exact OpX.skip (wanted_skip rfl rfl e453 hc318) rfl
                  · intro f454 wd455 Ss456 he457 hout458 hSn459 hSd460 hphi461
                    show WL _ _ _ _ _ _ _
                    have hS462 := St.extend hS86 he457
                    have e463 : f454 55 = (Value.bool (x103 != x273)) := hphi461 16 55 _ (by decide) rfl rfl
                    have e479 : f454 1 = (Value.pointer (some ⟨b1, 0, none⟩)) := (hout458 1 rfl).trans hf75
                    have e480 : f454 3 = u11 := (hout458 3 rfl).trans hf76
                    have e481 : f454 4 = (Value.int .i64 (k23 : Int)) := (hout458 4 rfl).trans hf77
                    have e482 : f454 5 = (Value.int .i64 (k43 : Int)) := (hout458 5 rfl).trans hf78
                    have e483 : f454 6 = (Value.int .i64 (k66 : Int)) := (hout458 6 rfl).trans rfl
                    have e484 : f454 12 = (Value.int .i64 ((r_Table).length : Int)) := (hout458 12 rfl).trans hf79
                    have e485 : f454 13 = (Value.int .i64 (k23 : Int)) := (hout458 13 rfl).trans hf80
                    have e486 : f454 18 = (Value.int .i64 ((r_Table).length : Int)) := (hout458 18 rfl).trans hf81
                    have e487 : f454 19 = (Value.int .i64 (k43 : Int)) := (hout458 19 rfl).trans hf82
                    have e488 : f454 24 = (Value.int .i64 ((r_Table).length : Int)) := (hout458 24 rfl).trans hf83
                    have e489 : f454 25 = (Value.int .i64 (k66 : Int)) := (hout458 25 rfl).trans hf84
                    refine WL.gskip rfl (bool_of e463 hc318) rfl ?_
                    refine WL.val (Value.bool true) _ (op_pick_t (evb_of e463 hc318) rfl) rfl ?_
                    refine WL.nil ?_
                    obtain rfl := Option.some.inj hj317
                    exact ⟨e479, e480, e481, e482, e483, e484, e485, e486, e487, e488, e489, rfl, hS462⟩
                · replace hj317 := inegb hj317 hc318
                  obtain ⟨x556, hx559, hj317⟩ := bs hj317
                  obtain ⟨ha557, hb558, hx559⟩ := idx_some hx559
                  obtain ⟨u574, hc575, hr576⟩ := repSl.el r_r_Table hx559
                  obtain ⟨x618, hx621, hj317⟩ := bs hj317
                  obtain ⟨ha619, hb620, hx621⟩ := idx_some hx621
                  obtain ⟨u636, hc637, hr638⟩ := repSl.el hb16 hx621
                  obtain ⟨rfl, hr638⟩ := hr638
                  obtain ⟨x658, hx661, hj317⟩ := bs hj317
                  obtain ⟨ha659, hb660, hx661⟩ := idx_some hx661
                  obtain ⟨u676, hc677, hr678⟩ := repSl.el hr576 hx661
                  obtain ⟨x709, hx712, hj317⟩ := bs hj317
                  obtain ⟨ha710, hb711, hx712⟩ := idx_some hx712
                  obtain ⟨u727, hc728, hr729⟩ := repSl.el hr678 hx712
                  obtain ⟨rfl, hr729⟩ := hr729
                  refine W.drawR mixo 32 [] [fun _ v _ _ => v = (Value.int .i64 x103) ∧ InR .i64 x103, fun _ v _ _ => v = (Value.pointer (some ⟨b1, 0, none⟩)), fun _ v _ _ => v = v_r_Table, fun _ v _ _ => v = u11, fun _ v _ _ => v = (Value.int .i64 (k23 : Int)) ∧ InR .i64 (k23 : Int), fun _ v _ _ => v = (Value.pointer (some (elA u11 ((k23 : Int)).toNat))), fun _ v _ _ => v = (Value.int .i64 x163) ∧ InR .i64 x163, fun _ v _ _ => v = (Value.pointer (some (elA v_r_Table (x163).toNat))), fun _ v _ _ => v = u209, fun _ v _ _ => v = (Value.int .i64 (k66 : Int)) ∧ InR .i64 (k66 : Int), fun _ v _ _ => v = (Value.pointer (some (elA u209 ((k66 : Int)).toNat))), fun _ v _ _ => v = u248, fun _ v _ _ => v = (Value.int .i64 (k43 : Int)) ∧ InR .i64 (k43 : Int), fun _ v _ _ => v = (Value.pointer (some (elA u248 ((k43 : Int)).toNat))), fun _ v _ _ => v = (Value.int .i64 x273) ∧ InR .i64 x273, fun _ v _ _ => v = (Value.bool (x103 != x273)), fun _ v _ _ => v = (Value.bool (x103 != x273)), fun _ v _ _ => v = (Value.int .i64 x103) ∧ InR .i64 x103, fun _ v _ _ => v = (Value.pointer (some ⟨b1, 0, none⟩)), fun _ v _ _ => v = v_r_Table, fun _ v _ _ => v = (Value.int .i64 (k66 : Int)) ∧ InR .i64 (k66 : Int), fun _ v _ _ => v = (Value.pointer (some (elA v_r_Table ((k66 : Int)).toNat))), fun _ v _ _ => v = u574, fun _ v _ _ => v = u11, fun _ v _ _ => v = (Value.int .i64 (k43 : Int)) ∧ InR .i64 (k43 : Int), fun _ v _ _ => v = (Value.pointer (some (elA u11 ((k43 : Int)).toNat))), fun _ v _ _ => v = (Value.int .i64 x618) ∧ InR .i64 x618, fun _ v _ _ => v = (Value.pointer (some (elA u574 (x618).toNat))), fun _ v _ _ => v = u676, fun _ v _ _ => v = (Value.int .i64 (k23 : Int)) ∧ InR .i64 (k23 : Int), fun _ v _ _ => v = (Value.pointer (some (elA u676 ((k23 : Int)).toNat))), fun _ v _ _ => v = (Value.int .i64 x709) ∧ InR .i64 x709] (by kernel_rfl) (by kernel_rfl) ⟨pk, pk, pk, pk, pk, pk, pk, pk, pk, pk, pk, pk, pk, pk, pk, pk, pk, pk, pk, pk, pk, pk, pk, pk, pk, pk, pk, pk, pk, pk, pk, pk, trivial⟩ ⟨?_, ?_, ?_, ?_, ?_, ?_, ?_, ?_, ?_, ?_, ?_, ?_, ?_, ?_, ?_, ?_, ?_, ?_, ?_, ?_, ?_, ?_, ?_, ?_, ?_, ?_, ?_, ?_, ?_, ?_, ?_, ?_, trivial⟩ ?_
                  · refine ObX.op rfl fun f110 wd111 he112 hout113 hphi114 => ?_
                    have hS115 := St.extend hS86 he112
                    have e116 : f110 7 = (Value.int .i64 x103) := (hout113 7 rfl).trans rfl
                    exact OpX.val (Value.int .i64 x103) wd111 rfl (op_move e116) (Ext.refl _) ⟨rfl, hr109⟩
                  · refine ObX.op rfl fun f117 wd118 he119 hout120 hphi121 => ?_
                    have hS122 := St.extend hS86 he119
                    have e123 : f117 1 = (Value.pointer (some ⟨b1, 0, none⟩)) := (hout120 1 rfl).trans hf75
                    exact OpX.val (Value.pointer (some ⟨b1, 0, none⟩)) wd118 rfl (op_fieldAddr fd_28_0 e123) (Ext.refl _) rfl
                  · refine ObX.op rfl fun f124 wd125 he126 hout127 hphi128 => ?_
                    have hS129 := St.extend hS86 he126
                    obtain ⟨S130, hS131, hf132⟩ := hphi128 1 40 _ rfl rfl rfl
                    have e133 : f124 40 = (Value.pointer (some ⟨b1, 0, none⟩)) := hf132
                    exact OpX.val v_r_Table wd125 rfl (op_load one_22 e133 (BoxAt.cell (BoxAt.lift (Ext.trans hE18 hS129.ext) hx6) rfl)) (Ext.refl _) rfl
                  · refine ObX.op rfl fun f134 wd135 he136 hout137 hphi138 => ?_
                    have hS139 := St.extend hS86 he136
                    have e140 : f134 3 = u11 := (hout137 3 rfl).trans hf76
                    exact OpX.val u11 wd135 rfl (op_move e140) (Ext.refl _) rfl
                  · refine ObX.op rfl fun f141 wd142 he143 hout144 hphi145 => ?_
                    have hS146 := St.extend hS86 he143
                    have e147 : f141 4 = (Value.int .i64 (k23 : Int)) := (hout144 4 rfl).trans hf77
                    exact OpX.val (Value.int .i64 (k23 : Int)) wd142 rfl (op_move e147) (Ext.refl _) ⟨rfl, hr36⟩
                  · refine ObX.op rfl fun f148 wd149 he150 hout151 hphi152 => ?_
                    have hS153 := St.extend hS86 he150
                    obtain ⟨S154, hS155, hf156⟩ := hphi152 3 42 _ rfl rfl rfl
                    have e157 : f148 42 = u11 := hf156
                    obtain ⟨S158, hS159, hf160⟩ := hphi152 4 43 _ rfl rfl rfl
                    obtain ⟨e161, hr162⟩ := hf160
                    exact OpX.val (Value.pointer (some (elA u11 ((k23 : Int)).toNat))) wd149 rfl (op_idx sl_75 (Ty.lift _ hS153.ext hb16) e157 e161 ha164 hb165) (Ext.refl _) rfl
                  · refine ObX.op rfl fun f167 wd168 he169 hout170 hphi171 => ?_
                    have hS172 := St.extend hS86 he169
                    obtain ⟨S173, hS174, hf175⟩ := hphi171 5 44 _ rfl rfl rfl
                    have e176 : f167 44 = (Value.pointer (some (elA u11 ((k23 : Int)).toNat))) := hf175
                    exact OpX.val (Value.int .i64 x163) wd168 rfl (op_load one_3 e176 (Ext.cell hS172.ext hc178)) (Ext.refl _) ⟨rfl, hr179⟩
                  · refine ObX.op rfl fun f180 wd181 he182 hout183 hphi184 => ?_
                    have hS185 := St.extend hS86 he182
                    obtain ⟨S186, hS187, hf188⟩ := hphi184 2 41 _ rfl rfl rfl
                    have e189 : f180 41 = v_r_Table := hf188
                    obtain ⟨S190, hS191, hf192⟩ := hphi184 6 45 _ rfl rfl rfl
                    obtain ⟨e193, hr194⟩ := hf192
                    exact OpX.val (Value.pointer (some (elA v_r_Table (x163).toNat))) wd181 rfl (op_idx sl_22 (Ty.lift _ (Ext.trans hE17 hS185.ext) r_r_Table) e189 e193 ha196 hb197) (Ext.refl _) rfl
                  · refine ObX.op rfl fun f199 wd200 he201 hout202 hphi203 => ?_
                    have hS204 := St.extend hS86 he201
                    obtain ⟨S205, hS206, hf207⟩ := hphi203 7 46 _ rfl rfl rfl
                    have e208 : f199 46 = (Value.pointer (some (elA v_r_Table (x163).toNat))) := hf207
                    exact OpX.val u209 wd200 rfl (op_load one_54 e208 (Ext.cell (Ext.trans hE17 hS204.ext) hc210)) (Ext.refl _) rfl
                  · refine ObX.op rfl fun f212 wd213 he214 hout215 hphi216 => ?_
                    have hS217 := St.extend hS86 he214
                    have e218 : f212 6 = (Value.int .i64 (k66 : Int)) := (hout215 6 rfl).trans rfl
                    exact OpX.val (Value.int .i64 (k66 : Int)) wd213 rfl (op_move e218) (Ext.refl _) ⟨rfl, hr85⟩
                  · refine ObX.op rfl fun f219 wd220 he221 hout222 hphi223 => ?_
                    have hS224 := St.extend hS86 he221
                    obtain ⟨S225, hS226, hf227⟩ := hphi223 8 47 _ rfl rfl rfl
                    have e228 : f219 47 = u209 := hf227
                    obtain ⟨S229, hS230, hf231⟩ := hphi223 9 48 _ rfl rfl rfl
                    obtain ⟨e232, hr233⟩ := hf231
                    exact OpX.val (Value.pointer (some (elA u209 ((k66 : Int)).toNat))) wd220 rfl (op_idx sl_54 (Ty.lift _ (Ext.trans hE17 hS224.ext) hr211) e228 e232 ha235 hb236) (Ext.refl _) rfl
                  · refine ObX.op rfl fun f238 wd239 he240 hout241 hphi242 => ?_
                    have hS243 := St.extend hS86 he240
                    obtain ⟨S244, hS245, hf246⟩ := hphi242 10 49 _ rfl rfl rfl
                    have e247 : f238 49 = (Value.pointer (some (elA u209 ((k66 : Int)).toNat))) := hf246
                    exact OpX.val u248 wd239 rfl (op_load one_34 e247 (Ext.cell (Ext.trans hE17 hS243.ext) hc249)) (Ext.refl _) rfl
                  · refine ObX.op rfl fun f251 wd252 he253 hout254 hphi255 => ?_
                    have hS256 := St.extend hS86 he253
                    have e257 : f251 5 = (Value.int .i64 (k43 : Int)) := (hout254 5 rfl).trans hf78
                    exact OpX.val (Value.int .i64 (k43 : Int)) wd252 rfl (op_move e257) (Ext.refl _) ⟨rfl, hr59⟩
                  · refine ObX.op rfl fun f258 wd259 he260 hout261 hphi262 => ?_
                    have hS263 := St.extend hS86 he260
                    obtain ⟨S264, hS265, hf266⟩ := hphi262 11 50 _ rfl rfl rfl
                    have e267 : f258 50 = u248 := hf266
                    obtain ⟨S268, hS269, hf270⟩ := hphi262 12 51 _ rfl rfl rfl
                    obtain ⟨e271, hr272⟩ := hf270
                    exact OpX.val (Value.pointer (some (elA u248 ((k43 : Int)).toNat))) wd259 rfl (op_idx sl_34 (Ty.lift _ (Ext.trans hE17 hS263.ext) hr250) e267 e271 ha274 hb275) (Ext.refl _) rfl
                  · refine ObX.op rfl fun f277 wd278 he279 hout280 hphi281 => ?_
                    have hS282 := St.extend hS86 he279
                    obtain ⟨S283, hS284, hf285⟩ := hphi281 13 52 _ rfl rfl rfl
                    have e286 : f277 52 = (Value.pointer (some (elA u248 ((k43 : Int)).toNat))) := hf285
                    exact OpX.val (Value.int .i64 x273) wd278 rfl (op_load one_2 e286 (Ext.cell (Ext.trans hE17 hS282.ext) hc288)) (Ext.refl _) ⟨rfl, hr289⟩
                  · refine ObX.op rfl fun f290 wd291 he292 hout293 hphi294 => ?_
                    have hS295 := St.extend hS86 he292
                    obtain ⟨S296, hS297, hf298⟩ := hphi294 0 39 _ rfl rfl rfl
                    obtain ⟨e299, hr300⟩ := hf298
                    obtain ⟨S301, hS302, hf303⟩ := hphi294 14 53 _ rfl rfl rfl
                    obtain ⟨e304, hr305⟩ := hf303
                    exact OpX.val (Value.bool (x103 != x273)) wd291 rfl (op_neq e299 e304) (Ext.refl _) rfl
                  · refine ObX.op rfl fun f306 wd307 he308 hout309 hphi310 => ?_
                    have hS311 := St.extend hS86 he308
                    obtain ⟨S312, hS313, hf314⟩ := hphi310 15 54 _ rfl rfl rfl
                    have e315 : f306 54 = (Value.bool (x103 != x273)) := hf314
                    exact OpX.val (Value.bool (x103 != x273)) wd307 rfl (op_move e315) (Ext.refl _) rfl
                  · refine ObX.op rfl fun f490 wd491 he492 hout493 hphi494 => ?_
                    have e496 : f490 7 = (Value.int .i64 x103) := (hout493 7 rfl).trans rfl
                    obtain ⟨S497, hS498, hf499⟩ := hphi494 16 55 _ rfl rfl rfl
                    have e500 : f490 55 = (Value.bool (x103 != x273)) := hf499
                    exact OpX.val (Value.int .i64 x103) wd491 (wanted_run rfl rfl e500 hc318) (op_move e496) (Ext.refl _) ⟨rfl, hr109⟩
                  · refine ObX.op rfl fun f501 wd502 he503 hout504 hphi505 => ?_
                    have e507 : f501 1 = (Value.pointer (some ⟨b1, 0, none⟩)) := (hout504 1 rfl).trans hf75
                    obtain ⟨S508, hS509, hf510⟩ := hphi505 16 55 _ rfl rfl rfl
                    have e511 : f501 55 = (Value.bool (x103 != x273)) := hf510
                    exact OpX.val (Value.pointer (some ⟨b1, 0, none⟩)) wd502 (wanted_run rfl rfl e511 hc318) (op_fieldAddr fd_28_0 e507) (Ext.refl _) rfl
                  · refine ObX.op rfl fun f512 wd513 he514 hout515 hphi516 => ?_
                    have hS517 := St.extend hS86 he514
                    obtain ⟨S518, hS519, hf520⟩ := hphi516 16 55 _ rfl rfl rfl
                    have e521 : f512 55 = (Value.bool (x103 != x273)) := hf520
                    obtain ⟨S522, hS523, hf524⟩ := hphi516 18 57 _ rfl rfl rfl
                    have e525 : f512 57 = (Value.pointer (some ⟨b1, 0, none⟩)) := hf524
                    exact OpX.val v_r_Table wd513 (wanted_run rfl rfl e521 hc318) (op_load one_22 e525 (BoxAt.cell (BoxAt.lift (Ext.trans hE18 hS517.ext) hx6) rfl)) (Ext.refl _) rfl
                  · refine ObX.op rfl fun f526 wd527 he528 hout529 hphi530 => ?_
                    have e532 : f526 6 = (Value.int .i64 (k66 : Int)) := (hout529 6 rfl).trans rfl
                    obtain ⟨S533, hS534, hf535⟩ := hphi530 16 55 _ rfl rfl rfl
                    have e536 : f526 55 = (Value.bool (x103 != x273)) := hf535
                    exact OpX.val (Value.int .i64 (k66 : Int)) wd527 (wanted_run rfl rfl e536 hc318) (op_move e532) (Ext.refl _) ⟨rfl, hr85⟩
                  · refine ObX.op rfl fun f537 wd538 he539 hout540 hphi541 => ?_
                    have hS542 := St.extend hS86 he539
                    obtain ⟨S543, hS544, hf545⟩ := hphi541 16 55 _ rfl rfl rfl
                    have e546 : f537 55 = (Value.bool (x103 != x273)) := hf545
                    obtain ⟨S547, hS548, hf549⟩ := hphi541 19 58 _ rfl rfl rfl
                    have e550 : f537 58 = v_r_Table := hf549
                    obtain ⟨S551, hS552, hf553⟩ := hphi541 20 59 _ rfl rfl rfl
                    obtain ⟨e554, hr555⟩ := hf553
                    exact OpX.val (Value.pointer (some (elA v_r_Table ((k66 : Int)).toNat))) wd538 (wanted_run rfl rfl e546 hc318) (op_idx sl_22 (Ty.lift _ (Ext.trans hE17 hS542.ext) r_r_Table) e550 e554 ha557 hb558) (Ext.refl _) rfl
                  · refine ObX.op rfl fun f560 wd561 he562 hout563 hphi564 => ?_
                    have hS565 := St.extend hS86 he562
                    obtain ⟨S566, hS567, hf568⟩ := hphi564 16 55 _ rfl rfl rfl
                    have e569 : f560 55 = (Value.bool (x103 != x273)) := hf568
                    obtain ⟨S570, hS571, hf572⟩ := hphi564 21 60 _ rfl rfl rfl
                    have e573 : f560 60 = (Value.pointer (some (elA v_r_Table ((k66 : Int)).toNat))) := hf572
                    exact OpX.val u574 wd561 (wanted_run rfl rfl e569 hc318) (op_load one_54 e573 (Ext.cell (Ext.trans hE17 hS565.ext) hc575)) (Ext.refl _) rfl
                  · refine ObX.op rfl fun f577 wd578 he579 hout580 hphi581 => ?_
                    have e583 : f577 3 = u11 := (hout580 3 rfl).trans hf76
                    obtain ⟨S584, hS585, hf586⟩ := hphi581 16 55 _ rfl rfl rfl
                    have e587 : f577 55 = (Value.bool (x103 != x273)) := hf586
                    exact OpX.val u11 wd578 (wanted_run rfl rfl e587 hc318) (op_move e583) (Ext.refl _) rfl
                  · refine ObX.op rfl fun f588 wd589 he590 hout591 hphi592 => ?_
                    have e594 : f588 5 = (Value.int .i64 (k43 : Int)) := (hout591 5 rfl).trans hf78
                    obtain ⟨S595, hS596, hf597⟩ := hphi592 16 55 _ rfl rfl rfl
                    have e598 : f588 55 = (Value.bool (x103 != x273)) := hf597
                    exact OpX.val (Value.int .i64 (k43 : Int)) wd589 (wanted_run rfl rfl e598 hc318) (op_move e594) (Ext.refl _) ⟨rfl, hr59⟩
                  · refine ObX.op rfl fun f599 wd600 he601 hout602 hphi603 => ?_
                    have hS604 := St.extend hS86 he601
                    obtain ⟨S605, hS606, hf607⟩ := hphi603 16 55 _ rfl rfl rfl
                    have e608 : f599 55 = (Value.bool (x103 != x273)) := hf607
                    obtain ⟨S609, hS610, hf611⟩ := hphi603 23 62 _ rfl rfl rfl
                    have e612 : f599 62 = u11 := hf611
                    obtain ⟨S613, hS614, hf615⟩ := hphi603 24 63 _ rfl rfl rfl
                    obtain ⟨e616, hr617⟩ := hf615
                    exact OpX.val (Value.pointer (some (elA u11 ((k43 : Int)).toNat))) wd600 (wanted_run rfl rfl e608 hc318) (op_idx sl_75 (Ty.lift _ hS604.ext hb16) e612 e616 ha619 hb620) (Ext.refl _) rfl
                  · refine ObX.op rfl fun f622 wd623 he624 hout625 hphi626 => ?_
                    have hS627 := St.extend hS86 he624
                    obtain ⟨S628, hS629, hf630⟩ := hphi626 16 55 _ rfl rfl rfl
                    have e631 : f622 55 = (Value.bool (x103 != x273)) := hf630
                    obtain ⟨S632, hS633, hf634⟩ := hphi626 25 64 _ rfl rfl rfl
                    have e635 : f622 64 = (Value.pointer (some (elA u11 ((k43 : Int)).toNat))) := hf634
                    exact OpX.val (Value.int .i64 x618) wd623 (wanted_run rfl rfl e631 hc318) (op_load one_3 e635 (Ext.cell hS627.ext hc637)) (Ext.refl _) ⟨rfl, hr638⟩
                  · refine ObX.op rfl fun f639 wd640 he641 hout642 hphi643 => ?_
                    have hS644 := St.extend hS86 he641
                    obtain ⟨S645, hS646, hf647⟩ := hphi643 16 55 _ rfl rfl rfl
                    have e648 : f639 55 = (Value.bool (x103 != x273)) := hf647
                    obtain ⟨S649, hS650, hf651⟩ := hphi643 22 61 _ rfl rfl rfl
                    have e652 : f639 61 = u574 := hf651
                    obtain ⟨S653, hS654, hf655⟩ := hphi643 26 65 _ rfl rfl rfl
                    obtain ⟨e656, hr657⟩ := hf655
                    exact OpX.val (Value.pointer (some (elA u574 (x618).toNat))) wd640 (wanted_run rfl rfl e648 hc318) (op_idx sl_54 (Ty.lift _ (Ext.trans hE17 hS644.ext) hr576) e652 e656 ha659 hb660) (Ext.refl _) rfl
                  · refine ObX.op rfl fun f662 wd663 he664 hout665 hphi666 => ?_
                    have hS667 := St.extend hS86 he664
                    obtain ⟨S668, hS669, hf670⟩ := hphi666 16 55 _ rfl rfl rfl
                    have e671 : f662 55 = (Value.bool (x103 != x273)) := hf670
                    obtain ⟨S672, hS673, hf674⟩ := hphi666 27 66 _ rfl rfl rfl
                    have e675 : f662 66 = (Value.pointer (some (elA u574 (x618).toNat))) := hf674
                    exact OpX.val u676 wd663 (wanted_run rfl rfl e671 hc318) (op_load one_34 e675 (Ext.cell (Ext.trans hE17 hS667.ext) hc677)) (Ext.refl _) rfl
                  · refine ObX.op rfl fun f679 wd680 he681 hout682 hphi683 => ?_
                    have e685 : f679 4 = (Value.int .i64 (k23 : Int)) := (hout682 4 rfl).trans hf77
                    obtain ⟨S686, hS687, hf688⟩ := hphi683 16 55 _ rfl rfl rfl
                    have e689 : f679 55 = (Value.bool (x103 != x273)) := hf688
                    exact OpX.val (Value.int .i64 (k23 : Int)) wd680 (wanted_run rfl rfl e689 hc318) (op_move e685) (Ext.refl _) ⟨rfl, hr36⟩
                  · refine ObX.op rfl fun f690 wd691 he692 hout693 hphi694 => ?_
                    have hS695 := St.extend hS86 he692
                    obtain ⟨S696, hS697, hf698⟩ := hphi694 16 55 _ rfl rfl rfl
                    have e699 : f690 55 = (Value.bool (x103 != x273)) := hf698
                    obtain ⟨S700, hS701, hf702⟩ := hphi694 28 67 _ rfl rfl rfl
                    have e703 : f690 67 = u676 := hf702
                    obtain ⟨S704, hS705, hf706⟩ := hphi694 29 68 _ rfl rfl rfl
                    obtain ⟨e707, hr708⟩ := hf706
                    exact OpX.val (Value.pointer (some (elA u676 ((k23 : Int)).toNat))) wd691 (wanted_run rfl rfl e699 hc318) (op_idx sl_34 (Ty.lift _ (Ext.trans hE17 hS695.ext) hr678) e703 e707 ha710 hb711) (Ext.refl _) rfl
                  · refine ObX.op rfl fun f713 wd714 he715 hout716 hphi717 => ?_
                    have hS718 := St.extend hS86 he715
                    obtain ⟨S719, hS720, hf721⟩ := hphi717 16 55 _ rfl rfl rfl
                    have e722 : f713 55 = (Value.bool (x103 != x273)) := hf721
                    obtain ⟨S723, hS724, hf725⟩ := hphi717 30 69 _ rfl rfl rfl
                    have e726 : f713 69 = (Value.pointer (some (elA u676 ((k23 : Int)).toNat))) := hf725
                    exact OpX.val (Value.int .i64 x709) wd714 (wanted_run rfl rfl e722 hc318) (op_load one_2 e726 (Ext.cell (Ext.trans hE17 hS718.ext) hc728)) (Ext.refl _) ⟨rfl, hr729⟩
                  · intro f730 wd731 Ss732 he733 hout734 hSn735 hSd736 hphi737
                    show WL _ _ _ _ _ _ _
                    have hS738 := St.extend hS86 he733
                    have e739 : f730 55 = (Value.bool (x103 != x273)) := hphi737 16 55 _ (by decide) rfl rfl
                    obtain ⟨e740, hr741⟩ := hphi737 17 56 _ (by decide) rfl rfl
                    obtain ⟨e744, hr745⟩ := hphi737 20 59 _ (by decide) rfl rfl
                    obtain ⟨e749, hr750⟩ := hphi737 24 63 _ (by decide) rfl rfl
                    obtain ⟨e752, hr753⟩ := hphi737 26 65 _ (by decide) rfl rfl
                    obtain ⟨e756, hr757⟩ := hphi737 29 68 _ (by decide) rfl rfl
                    obtain ⟨e759, hr760⟩ := hphi737 31 70 _ (by decide) rfl rfl
                    have e761 : f730 1 = (Value.pointer (some ⟨b1, 0, none⟩)) := (hout734 1 rfl).trans hf75
                    have e762 : f730 3 = u11 := (hout734 3 rfl).trans hf76
                    have e763 : f730 4 = (Value.int .i64 (k23 : Int)) := (hout734 4 rfl).trans hf77
                    have e764 : f730 5 = (Value.int .i64 (k43 : Int)) := (hout734 5 rfl).trans hf78
                    have e765 : f730 6 = (Value.int .i64 (k66 : Int)) := (hout734 6 rfl).trans rfl
                    have e766 : f730 12 = (Value.int .i64 ((r_Table).length : Int)) := (hout734 12 rfl).trans hf79
                    have e767 : f730 13 = (Value.int .i64 (k23 : Int)) := (hout734 13 rfl).trans hf80
                    have e768 : f730 18 = (Value.int .i64 ((r_Table).length : Int)) := (hout734 18 rfl).trans hf81
                    have e769 : f730 19 = (Value.int .i64 (k43 : Int)) := (hout734 19 rfl).trans hf82
                    have e770 : f730 24 = (Value.int .i64 ((r_Table).length : Int)) := (hout734 24 rfl).trans hf83
                    have e771 : f730 25 = (Value.int .i64 (k66 : Int)) := (hout734 25 rfl).trans hf84
                    refine WL.grun rfl (bool_of e739 hc318) ?_
                    refine WL.val (Value.bool (x103 != x709)) _ (op_neq e740 e759) rfl ?_
                    refine WL.val (Value.bool (x103 != x709)) _ (op_pick_f (evb_of e739 hc318) rfl) rfl ?_
                    refine WL.nil ?_
                    obtain rfl := Option.some.inj hj317
                    exact ⟨e761, e762, e763, e764, e765, e766, e767, e768, e769, e770, e771, rfl, hS738⟩
              · intro f772 wd773 hq774
                obtain ⟨hf775, hf776, hf777, hf778, hf779, hf780, hf781, hf782, hf783, hf784, hf785, hf786, hS787⟩ := hq774
                refine W.cond x316 hf786 (fun hc788 => ?_) (fun hc788 => ?_)
                · replace hb71 := ip hb71 hc788
                  refine W.seq (W.region ?_)
                  refine WL.val (Value.int .i64 (k23 : Int)) _ (op_move hf777) rfl ?_
                  refine WL.val (Value.int .i64 (k43 : Int)) _ (op_move hf778) rfl ?_
                  refine WL.val (Value.int .i64 (k66 : Int)) _ (op_move hf779) rfl ?_
                  refine WL.litFlat (t := (Ty.i .i64)) (flat_i .i64) [(Value.int .i64 (2 : Int)), (Value.int .i64 (k23 : Int)), (Value.int .i64 (k43 : Int)), (Value.int .i64 (k66 : Int))] [(2 : Int), (k23 : Int), (k43 : Int), (k66 : Int)] hS787 sl_34 rfl rfl (fillL rfl ⟨rfl, rfl, rfl, rfl, rfl, rfl, rfl, rfl, rfl, rfl, rfl, rfl, trivial⟩) rfl rfl (litL ⟨⟨rfl, (inL rfl)⟩, ⟨rfl, hr36⟩, ⟨rfl, hr59⟩, ⟨rfl, hr85⟩, trivial⟩) rfl ?_
                  intro u790 wd791 hS792 he793
                  replace hS792 : St wd12 wd791 [(Ty.sl (Ty.i .i64)).at u790 ([(2 : Int), (k23 : Int), (k43 : Int), (k66 : Int)] : (List Int))] := hS792
                  refine WL.val u790 _ (op_assign rfl) rfl ?_
                  refine WL.nil ?_
                  refine W.ret ?_
                  obtain rfl := Option.some.inj hb71
                  obtain rfl := hret74 _ rfl
                  replace hb48 := onRes_ret hb48
                  obtain rfl := Option.some.inj hb48
                  obtain rfl := hret51 _ rfl
                  replace hb28 := onRes_ret hb28
                  obtain rfl := Option.some.inj hb28
                  obtain rfl := hret31 _ rfl
                  replace h := onRes_ret h
                  obtain rfl := Option.some.inj h
                  show FinP _ _ _ _ _ _ _
                  exact FinP.ret _ (res1 rfl rfl) ⟨u790, rfl, (nil_cons), (Ext.trans hE17 hS792.ext), (St.out (St.pick hS792 [0] rfl) (hE17))⟩
                · replace hb71 := inegb hb71 hc788
                  refine W.skip ?_
                  show W _ _ _ _ _ _
                  refine W.region ?_
                  refine WL.val (Value.int .i64 (w64 ((k66 : Int) + (1 : Int)))) _ (op_add hf785 rfl) rfl ?_
                  refine WL.val (Value.int .i64 (w64 ((k66 : Int) + (1 : Int)))) _ (op_move rfl) rfl ?_
                  refine WL.nil ?_
                  obtain rfl := Option.some.inj hb71
                  show ∃ s, _ = Ctl.next s ∧ _
                  exact ⟨_, rfl, hf775, hf776, hf777, hf778, hf780, hf781, hf782, hf783, hf784, (ctr_next hl87 hr63), (ctr_rng hl87 hr63), hS787⟩
            · intro s799 f795 wd796 hs797 hI798
              obtain ⟨⟩ := s799
              replace hI798 : f795 1 = (Value.pointer (some ⟨b1, 0, none⟩)) ∧ f795 3 = u11 ∧ f795 4 = (Value.int .i64 (k23 : Int)) ∧ f795 5 = (Value.int .i64 (k43 : Int)) ∧ f795 12 = (Value.int .i64 ((r_Table).length : Int)) ∧ f795 13 = (Value.int .i64 (k23 : Int)) ∧ f795 18 = (Value.int .i64 ((r_Table).length : Int)) ∧ f795 19 = (Value.int .i64 (k43 : Int)) ∧ f795 24 = (Value.int .i64 ((r_Table).length : Int)) ∧ f795 25 = Value.int .i64 (((r_Table).length : Nat) : Int) ∧ InR .i64 (((r_Table).length : Nat) : Int) ∧ St wd12 wd796 [] := hI798
              obtain ⟨hf800, hf801, hf802, hf803, hf804, hf805, hf806, hf807, hf808, hf809, hr810, hS811⟩ := hI798
              refine W.seq (W.region ?_)
              refine WL.val (Value.bool (decide ((((r_Table).length : Nat) : Int) < ((r_Table).length : Int)))) _ (op_lss hf809 hf808) rfl ?_
              have hl812 : ¬ (((r_Table).length : Nat) : Int) < ((r_Table).length : Int) := by omega
              refine WL.nil ?_
              refine W.seq ?_
              refine W.condF (decide ((((r_Table).length : Nat) : Int) < ((r_Table).length : Int))) rfl (decide_eq_false hl812) ?_
              refine W.exit ?_
              show _ = _ ∧ _
              exact ⟨rfl, _, hs797, hf800, hf801, hf802, hf804, hf805, hf806, hf807, hS811⟩
          · rintro f813 wd814 ⟨s816, rfl, hq815⟩
            replace hb48 := onRes_fin hb48
            obtain ⟨⟩ := s816
            replace hq815 : f813 1 = (Value.pointer (some ⟨b1, 0, none⟩)) ∧ f813 3 = u11 ∧ f813 4 = (Value.int .i64 (k23 : Int)) ∧ f813 12 = (Value.int .i64 ((r_Table).length : Int)) ∧ f813 13 = (Value.int .i64 (k23 : Int)) ∧ f813 18 = (Value.int .i64 ((r_Table).length : Int)) ∧ f813 19 = (Value.int .i64 (k43 : Int)) ∧ St wd12 wd814 [] := hq815
            obtain ⟨hf817, hf818, hf819, hf820, hf821, hf822, hf823, hS824⟩ := hq815
            show W _ _ _ _ _ _
            refine W.region ?_
            refine WL.val (Value.int .i64 (w64 ((k43 : Int) + (1 : Int)))) _ (op_add hf823 rfl) rfl ?_
            refine WL.val (Value.int .i64 (w64 ((k43 : Int) + (1 : Int)))) _ (op_move rfl) rfl ?_
            refine WL.nil ?_
            obtain rfl := Option.some.inj hb48
            show ∃ s, _ = Ctl.next s ∧ _
            exact ⟨_, rfl, hf817, hf818, hf819, hf820, hf821, hf822, (ctr_next hl61 hr40), (ctr_rng hl61 hr40), hS824⟩
        · intro s831 f827 wd828 hs829 hI830
          obtain ⟨⟩ := s831
          replace hI830 : f827 1 = (Value.pointer (some ⟨b1, 0, none⟩)) ∧ f827 3 = u11 ∧ f827 4 = (Value.int .i64 (k23 : Int)) ∧ f827 12 = (Value.int .i64 ((r_Table).length : Int)) ∧ f827 13 = (Value.int .i64 (k23 : Int)) ∧ f827 18 = (Value.int .i64 ((r_Table).length : Int)) ∧ f827 19 = Value.int .i64 (((r_Table).length : Nat) : Int) ∧ InR .i64 (((r_Table).length : Nat) : Int) ∧ St wd12 wd828 [] := hI830
          obtain ⟨hf832, hf833, hf834, hf835, hf836, hf837, hf838, hr839, hS840⟩ := hI830
          refine W.seq (W.region ?_)
          refine WL.val (Value.bool (decide ((((r_Table).length : Nat) : Int) < ((r_Table).length : Int)))) _ (op_lss hf838 hf837) rfl ?_
          have hl841 : ¬ (((r_Table).length : Nat) : Int) < ((r_Table).length : Int) := by omega
          refine WL.nil ?_
          refine W.seq ?_
          refine W.condF (decide ((((r_Table).length : Nat) : Int) < ((r_Table).length : Int))) rfl (decide_eq_false hl841) ?_
          refine W.exit ?_
          show _ = _ ∧ _
          exact ⟨rfl, _, hs829, hf832, hf833, hf835, hf836, hS840⟩
      · rintro f842 wd843 ⟨s845, rfl, hq844⟩
        replace hb28 := onRes_fin hb28
        obtain ⟨⟩ := s845
        replace hq844 : f842 1 = (Value.pointer (some ⟨b1, 0, none⟩)) ∧ f842 3 = u11 ∧ f842 12 = (Value.int .i64 ((r_Table).length : Int)) ∧ f842 13 = (Value.int .i64 (k23 : Int)) ∧ St wd12 wd843 [] := hq844
        obtain ⟨hf846, hf847, hf848, hf849, hS850⟩ := hq844
        show W _ _ _ _ _ _
        refine W.region ?_
        refine WL.val (Value.int .i64 (w64 ((k23 : Int) + (1 : Int)))) _ (op_add hf849 rfl) rfl ?_
        refine WL.val (Value.int .i64 (w64 ((k23 : Int) + (1 : Int)))) _ (op_move rfl) rfl ?_
        refine WL.nil ?_
        obtain rfl := Option.some.inj hb28
        show ∃ s, _ = Ctl.next s ∧ _
        exact ⟨_, rfl, hf846, hf847, hf848, (ctr_next hl38 hr20), (ctr_rng hl38 hr20), hS850⟩
    · intro s857 f853 wd854 hs855 hI856
      obtain ⟨⟩ := s857
      replace hI856 : f853 1 = (Value.pointer (some ⟨b1, 0, none⟩)) ∧ f853 3 = u11 ∧ f853 12 = (Value.int .i64 ((r_Table).length : Int)) ∧ f853 13 = Value.int .i64 (((r_Table).length : Nat) : Int) ∧ InR .i64 (((r_Table).length : Nat) : Int) ∧ St wd12 wd854 [] := hI856
      obtain ⟨hf858, hf859, hf860, hf861, hr862, hS863⟩ := hI856
      refine W.seq (W.region ?_)
      refine WL.val (Value.bool (decide ((((r_Table).length : Nat) : Int) < ((r_Table).length : Int)))) _ (op_lss hf861 hf860) rfl ?_
      have hl864 : ¬ (((r_Table).length : Nat) : Int) < ((r_Table).length : Int) := by omega
      refine WL.nil ?_
      refine W.seq ?_
      refine W.condF (decide ((((r_Table).length : Nat) : Int) < ((r_Table).length : Int))) rfl (decide_eq_false hl864) ?_
      refine W.exit ?_
      show _ = _ ∧ _
      exact ⟨rfl, _, hs855, hS863⟩
  · rintro f865 wd866 ⟨s868, rfl, hq867⟩
    replace h := onRes_fin h
    obtain ⟨⟩ := s868
    replace hq867 : St wd12 wd866 [] := hq867
    have hS869 := hq867
    refine W.seq (W.region ?_)
    refine WL.val (Value.slice none 0 0) _ (op_assign rfl) rfl ?_
    refine WL.nil ?_
    refine W.ret ?_
    obtain rfl := Option.some.inj h
    show FinP _ _ _ _ _ _ _
    exact FinP.ret _ (res1 rfl rfl) ⟨(Value.slice none 0 0), rfl, (fun _ => ⟨0, 0, rfl⟩), (Ext.trans hE17 hS869.ext), (St.out (St.pick (St.addNil (Ty.i .i64) hS869) [0] rfl) (hE17))⟩

end Go.VG
