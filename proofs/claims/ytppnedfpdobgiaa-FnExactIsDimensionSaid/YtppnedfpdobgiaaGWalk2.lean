/- The walks, part 2: each Go function returns what its plain twin returns. No condition beyond what each names. -/
import Derived.Test.YtppnedfpdobgiaaGWalk1
set_option linter.all false
namespace Go.VG
open Go.Proofs
attribute [local irreducible] W WL Sep FinP

theorem c_spec_l04Is {w : World} {r_Table : (List (List (List Int)))} {v_r_Table : Value} {d : (List Int)} {v_d : Value} (r_r_Table : (Ty.sl (Ty.sl (Ty.sl (Ty.i .i64)))).rep w v_r_Table r_Table) (r_d : (Ty.sl (Ty.i .i64)).rep w v_d d) {res : Bool} (h : p_spec_l04Is r_Table d  = some res) :
    Ret Try.prog 39 #[(Value.agg #[v_r_Table]), v_d] w (fun v w' => v = Value.bool res ∧ Ext w w') := by
  unfold p_spec_l04Is at h
  have hS0 : St w w [] := St.start w
  refine Ret.start (fn := Try.f39) Try.func39 rfl 63 rfl rfl ?_
  refine W.seq ?_
  refine W.region ?_
  refine WL.box hS0 rfl (cs := [v_r_Table]) rfl rfl ?_
  intro b1 wd2 hS3 he4 hx5
  replace hS3 : St w wd2 [bx b1 [v_r_Table]] := hS3
  have hx6 := St.boxAt hS3 0 rfl
  have hE7 : Ext w wd2 := hS3.ext
  have hS8 : St wd2 wd2 [] := St.start wd2
  refine WL.val (Value.bool false) _ (op_assign rfl) rfl ?_
  refine WL.nil ?_
  show W _ _ _ _ _ _
  refine W.seq ?_
  refine W.seq ?_
  refine W.region ?_
  refine WL.val (Value.int .i64 (0 : Int)) _ (op_assign rfl) rfl ?_
  refine WL.nil ?_
  show W _ _ _ _ _ _
  obtain ⟨res9, hres10, h⟩ := bs h
  refine W.blockLoop (fun fq wq => ∃ s, res9 = Res.fin s ∧ St wd2 wq []) ?_ ?_
  · refine W.forN (fun k s fq wq => fq 1 = v_d ∧ fq 2 = (Value.pointer (some ⟨b1, 0, none⟩)) ∧ fq 5 = Value.int .i64 (k : Int) ∧ InR .i64 (k : Int) ∧ St wd2 wq []) hres10 ⟨rfl, rfl, rfl, (inR_i64.2 (show (-9223372036854775808 : Int) ≤ 0 ∧ (0 : Int) ≤ 9223372036854775807 from by decide)), hS8⟩ ?_ ?_
    · intro k11 s570 ct12 f13 wd14 hk15 hb16 hI17 hbrk18 hret19
      obtain ⟨⟩ := s570
      replace hI17 : f13 1 = v_d ∧ f13 2 = (Value.pointer (some ⟨b1, 0, none⟩)) ∧ f13 5 = Value.int .i64 (k11 : Int) ∧ InR .i64 (k11 : Int) ∧ St wd2 wd14 [] := hI17
      replace hb16 : p_spec_l04Is_L1 r_Table d k11  = some ct12 := hb16
      unfold p_spec_l04Is_L1 at hb16
      obtain ⟨hf20, hf21, hf22, hr23, hS24⟩ := hI17
      refine W.seq ?_
      refine W.seq ?_
      refine W.region ?_
      refine WL.val (Value.int .i64 (k11 : Int)) _ (op_move hf22) rfl ?_
      refine WL.val v_d _ (op_move hf20) rfl ?_
      have hr25 := inR_len (Ty.lift _ (Ext.trans hE7 hS24.ext) r_d)
      refine WL.val (Value.int .i64 ((d).length : Int)) _ (op_lenL sl_25 (Ty.lift _ (Ext.trans hE7 hS24.ext) r_d) rfl) rfl ?_
      refine WL.val (Value.bool (decide ((k11 : Int) < ((d).length : Int)))) _ (op_lss rfl rfl) rfl ?_
      have hl26 : (k11 : Int) < ((d).length : Int) := by omega
      refine WL.nil ?_
      show W _ _ _ _ _ _
      refine W.condT (decide ((k11 : Int) < ((d).length : Int))) rfl (decide_eq_true hl26) ?_
      refine W.skip ?_
      show W _ _ _ _ _ _
      refine W.seq ?_
      refine W.block ?_
      refine W.seq ?_
      refine W.region ?_
      refine WL.val (Value.int .i64 (0 : Int)) _ (op_assign rfl) rfl ?_
      refine WL.nil ?_
      show W _ _ _ _ _ _
      obtain ⟨res28, hres29, hb16⟩ := bs hb16
      refine W.blockLoop (fun fq wq => ∃ s, res28 = Res.fin s ∧ fq 1 = v_d ∧ fq 2 = (Value.pointer (some ⟨b1, 0, none⟩)) ∧ fq 5 = (Value.int .i64 (k11 : Int)) ∧ St wd2 wq []) ?_ ?_
      · refine W.forN (fun k s fq wq => fq 1 = v_d ∧ fq 2 = (Value.pointer (some ⟨b1, 0, none⟩)) ∧ fq 5 = (Value.int .i64 (k11 : Int)) ∧ fq 6 = Value.int .i64 (k : Int) ∧ InR .i64 (k : Int) ∧ St wd2 wq []) hres29 ⟨hf20, hf21, hf22, rfl, (inR_i64.2 (show (-9223372036854775808 : Int) ≤ 0 ∧ (0 : Int) ≤ 9223372036854775807 from by decide)), hS24⟩ ?_ ?_
        · intro k30 s547 ct31 f32 wd33 hk34 hb35 hI36 hbrk37 hret38
          obtain ⟨⟩ := s547
          replace hI36 : f32 1 = v_d ∧ f32 2 = (Value.pointer (some ⟨b1, 0, none⟩)) ∧ f32 5 = (Value.int .i64 (k11 : Int)) ∧ f32 6 = Value.int .i64 (k30 : Int) ∧ InR .i64 (k30 : Int) ∧ St wd2 wd33 [] := hI36
          replace hb35 : p_spec_l04Is_L2 r_Table k11 d k30  = some ct31 := hb35
          unfold p_spec_l04Is_L2 at hb35
          obtain ⟨hf39, hf40, hf41, hf42, hr43, hS44⟩ := hI36
          refine W.seq ?_
          refine W.seq ?_
          refine W.region ?_
          refine WL.val (Value.int .i64 (k30 : Int)) _ (op_move hf42) rfl ?_
          refine WL.val v_d _ (op_move hf39) rfl ?_
          have hr45 := inR_len (Ty.lift _ (Ext.trans hE7 hS44.ext) r_d)
          refine WL.val (Value.int .i64 ((d).length : Int)) _ (op_lenL sl_25 (Ty.lift _ (Ext.trans hE7 hS44.ext) r_d) rfl) rfl ?_
          refine WL.val (Value.bool (decide ((k30 : Int) < ((d).length : Int)))) _ (op_lss rfl rfl) rfl ?_
          have hl46 : (k30 : Int) < ((d).length : Int) := by omega
          refine WL.nil ?_
          show W _ _ _ _ _ _
          refine W.condT (decide ((k30 : Int) < ((d).length : Int))) rfl (decide_eq_true hl46) ?_
          refine W.skip ?_
          show W _ _ _ _ _ _
          refine W.seq ?_
          refine W.block ?_
          refine W.seq ?_
          refine W.region ?_
          refine WL.val (Value.int .i64 (0 : Int)) _ (op_assign rfl) rfl ?_
          refine WL.nil ?_
          show W _ _ _ _ _ _
          refine W.seq ?_
          refine W.seq ?_
          refine W.region ?_
          refine WL.val (Value.int .i64 (0 : Int)) _ (op_assign rfl) rfl ?_
          refine WL.nil ?_
          show W _ _ _ _ _ _
          obtain ⟨res48, hres49, hb35⟩ := bs hb35
          refine W.blockLoop (fun fq wq => ∃ s, res48 = Res.fin s ∧ fq 1 = v_d ∧ fq 2 = (Value.pointer (some ⟨b1, 0, none⟩)) ∧ fq 5 = (Value.int .i64 (k11 : Int)) ∧ fq 6 = (Value.int .i64 (k30 : Int)) ∧ fq 7 = Value.int .i64 s ∧ InR .i64 s ∧ St wd2 wq []) ?_ ?_
          · refine W.forN (fun k s fq wq => fq 1 = v_d ∧ fq 2 = (Value.pointer (some ⟨b1, 0, none⟩)) ∧ fq 5 = (Value.int .i64 (k11 : Int)) ∧ fq 6 = (Value.int .i64 (k30 : Int)) ∧ fq 7 = Value.int .i64 s ∧ InR .i64 s ∧ fq 8 = Value.int .i64 (k : Int) ∧ InR .i64 (k : Int) ∧ St wd2 wq []) hres49 ⟨hf39, hf40, hf41, hf42, rfl, (inR_i64.2 (show (-9223372036854775808 : Int) ≤ 0 ∧ (0 : Int) ≤ 9223372036854775807 from by decide)), rfl, (inR_i64.2 (show (-9223372036854775808 : Int) ≤ 0 ∧ (0 : Int) ≤ 9223372036854775807 from by decide)), hS44⟩ ?_ ?_
            · intro k50 x51 ct52 f53 wd54 hk55 hb56 hI57 hbrk58 hret59
              replace hI57 : f53 1 = v_d ∧ f53 2 = (Value.pointer (some ⟨b1, 0, none⟩)) ∧ f53 5 = (Value.int .i64 (k11 : Int)) ∧ f53 6 = (Value.int .i64 (k30 : Int)) ∧ f53 7 = Value.int .i64 x51 ∧ InR .i64 x51 ∧ f53 8 = Value.int .i64 (k50 : Int) ∧ InR .i64 (k50 : Int) ∧ St wd2 wd54 [] := hI57
              replace hb56 : p_spec_l04Is_L3 r_Table k11 k30 d k50 x51 = some ct52 := hb56
              unfold p_spec_l04Is_L3 at hb56
              obtain ⟨hf60, hf61, hf62, hf63, hf64, hr65, hf66, hr67, hS68⟩ := hI57
              refine W.seq ?_
              refine W.seq ?_
              refine W.region ?_
              refine WL.val (Value.int .i64 (k50 : Int)) _ (op_move hf66) rfl ?_
              refine WL.val v_d _ (op_move hf60) rfl ?_
              have hr69 := inR_len (Ty.lift _ (Ext.trans hE7 hS68.ext) r_d)
              refine WL.val (Value.int .i64 ((d).length : Int)) _ (op_lenL sl_25 (Ty.lift _ (Ext.trans hE7 hS68.ext) r_d) rfl) rfl ?_
              refine WL.val (Value.bool (decide ((k50 : Int) < ((d).length : Int)))) _ (op_lss rfl rfl) rfl ?_
              have hl70 : (k50 : Int) < ((d).length : Int) := by omega
              refine WL.nil ?_
              show W _ _ _ _ _ _
              refine W.condT (decide ((k50 : Int) < ((d).length : Int))) rfl (decide_eq_true hl70) ?_
              refine W.skip ?_
              show W _ _ _ _ _ _
              refine W.seq ?_
              refine W.block ?_
              obtain ⟨x109, hx112, hb56⟩ := bs hb56
              obtain ⟨ha110, hb111, hx112⟩ := idx_some hx112
              obtain ⟨u120, hc121, hr122⟩ := repSl.el r_r_Table hx112
              obtain ⟨x139, hx142, hb56⟩ := bs hb56
              obtain ⟨ha140, hb141, hx142⟩ := idx_some hx142
              obtain ⟨u150, hc151, hr152⟩ := repSl.el hr122 hx142
              obtain ⟨x169, hx172, hb56⟩ := bs hb56
              obtain ⟨ha170, hb171, hx172⟩ := idx_some hx172
              obtain ⟨u180, hc181, hr182⟩ := repSl.el hr152 hx172
              obtain ⟨rfl, hr182⟩ := hr182
              obtain ⟨x206, hx209, hb56⟩ := bs hb56
              obtain ⟨ha207, hb208, hx209⟩ := idx_some hx209
              obtain ⟨u217, hc218, hr219⟩ := repSl.el r_d hx209
              obtain ⟨rfl, hr219⟩ := hr219
              refine W.draw mixo 17 [fun v _ => v = (Value.int .i64 x51) ∧ InR .i64 x51, fun v _ => v = (Value.pointer (some ⟨b1, 0, none⟩)), fun v _ => v = v_r_Table, fun v _ => v = (Value.int .i64 (k11 : Int)) ∧ InR .i64 (k11 : Int), fun v _ => v = (Value.pointer (some (elA v_r_Table ((k11 : Int)).toNat))), fun v _ => v = u120, fun v _ => v = (Value.int .i64 (k30 : Int)) ∧ InR .i64 (k30 : Int), fun v _ => v = (Value.pointer (some (elA u120 ((k30 : Int)).toNat))), fun v _ => v = u150, fun v _ => v = (Value.int .i64 (k50 : Int)) ∧ InR .i64 (k50 : Int), fun v _ => v = (Value.pointer (some (elA u150 ((k50 : Int)).toNat))), fun v _ => v = (Value.int .i64 x169) ∧ InR .i64 x169, fun v _ => v = v_d, fun v _ => v = (Value.int .i64 (k50 : Int)) ∧ InR .i64 (k50 : Int), fun v _ => v = (Value.pointer (some (elA v_d ((k50 : Int)).toNat))), fun v _ => v = (Value.int .i64 x206) ∧ InR .i64 x206, fun v _ => v = (Value.int .i64 (w64 (x169 * x206))) ∧ InR .i64 (w64 (x169 * x206))] (by kernel_rfl) (by kernel_rfl) (stabL ⟨(fun _ _ _ _ h => h), (fun _ _ _ _ h => h), (fun _ _ _ _ h => h), (fun _ _ _ _ h => h), (fun _ _ _ _ h => h), (fun _ _ _ _ h => h), (fun _ _ _ _ h => h), (fun _ _ _ _ h => h), (fun _ _ _ _ h => h), (fun _ _ _ _ h => h), (fun _ _ _ _ h => h), (fun _ _ _ _ h => h), (fun _ _ _ _ h => h), (fun _ _ _ _ h => h), (fun _ _ _ _ h => h), (fun _ _ _ _ h => h), (fun _ _ _ _ h => h), trivial⟩) ⟨?_, ?_, ?_, ?_, ?_, ?_, ?_, ?_, ?_, ?_, ?_, ?_, ?_, ?_, ?_, ?_, ?_, trivial⟩ ?_
              · intro f72 wd73 he74 hout75 hphi76
                have hS77 : St wd2 wd73 [] := St.extend hS68 he74
                have e78 : f72 7 = (Value.int .i64 x51) := (hout75 7 rfl).trans hf64
                exact OpY.val (Value.int .i64 x51) wd73 rfl (op_move e78) (Ext.refl _) ⟨rfl, hr65⟩
              · intro f79 wd80 he81 hout82 hphi83
                have hS84 : St wd2 wd80 [] := St.extend hS68 he81
                have e85 : f79 2 = (Value.pointer (some ⟨b1, 0, none⟩)) := (hout82 2 rfl).trans hf61
                exact OpY.val (Value.pointer (some ⟨b1, 0, none⟩)) wd80 rfl (op_fieldAddr fd_29_0 e85) (Ext.refl _) rfl
              · intro f86 wd87 he88 hout89 hphi90
                have hS91 : St wd2 wd87 [] := St.extend hS68 he88
                have e92 : f86 28 = (Value.pointer (some ⟨b1, 0, none⟩)) := hphi90 1 28 _ rfl rfl rfl
                exact OpY.val v_r_Table wd87 rfl (op_load one_22 e92 (BoxAt.cell (BoxAt.lift hS91.ext hx6) rfl)) (Ext.refl _) rfl
              · intro f93 wd94 he95 hout96 hphi97
                have hS98 : St wd2 wd94 [] := St.extend hS68 he95
                have e99 : f93 5 = (Value.int .i64 (k11 : Int)) := (hout96 5 rfl).trans hf62
                exact OpY.val (Value.int .i64 (k11 : Int)) wd94 rfl (op_move e99) (Ext.refl _) ⟨rfl, hr23⟩
              · intro f100 wd101 he102 hout103 hphi104
                have hS105 : St wd2 wd101 [] := St.extend hS68 he102
                have e106 : f100 29 = v_r_Table := hphi104 2 29 _ rfl rfl rfl
                obtain ⟨e107, hr108⟩ : f100 30 = (Value.int .i64 (k11 : Int)) ∧ InR .i64 (k11 : Int) := hphi104 3 30 _ rfl rfl rfl
                exact OpY.val (Value.pointer (some (elA v_r_Table ((k11 : Int)).toNat))) wd101 rfl (op_idx sl_22 (Ty.lift _ (Ext.trans hE7 hS105.ext) r_r_Table) e106 e107 ha110 hb111) (Ext.refl _) rfl
              · intro f113 wd114 he115 hout116 hphi117
                have hS118 : St wd2 wd114 [] := St.extend hS68 he115
                have e119 : f113 31 = (Value.pointer (some (elA v_r_Table ((k11 : Int)).toNat))) := hphi117 4 31 _ rfl rfl rfl
                exact OpY.val u120 wd114 rfl (op_load one_61 e119 (Ext.cell (Ext.trans hE7 hS118.ext) hc121)) (Ext.refl _) rfl
              · intro f123 wd124 he125 hout126 hphi127
                have hS128 : St wd2 wd124 [] := St.extend hS68 he125
                have e129 : f123 6 = (Value.int .i64 (k30 : Int)) := (hout126 6 rfl).trans hf63
                exact OpY.val (Value.int .i64 (k30 : Int)) wd124 rfl (op_move e129) (Ext.refl _) ⟨rfl, hr43⟩
              · intro f130 wd131 he132 hout133 hphi134
                have hS135 : St wd2 wd131 [] := St.extend hS68 he132
                have e136 : f130 32 = u120 := hphi134 5 32 _ rfl rfl rfl
                obtain ⟨e137, hr138⟩ : f130 33 = (Value.int .i64 (k30 : Int)) ∧ InR .i64 (k30 : Int) := hphi134 6 33 _ rfl rfl rfl
                exact OpY.val (Value.pointer (some (elA u120 ((k30 : Int)).toNat))) wd131 rfl (op_idx sl_61 (Ty.lift _ (Ext.trans hE7 hS135.ext) hr122) e136 e137 ha140 hb141) (Ext.refl _) rfl
              · intro f143 wd144 he145 hout146 hphi147
                have hS148 : St wd2 wd144 [] := St.extend hS68 he145
                have e149 : f143 34 = (Value.pointer (some (elA u120 ((k30 : Int)).toNat))) := hphi147 7 34 _ rfl rfl rfl
                exact OpY.val u150 wd144 rfl (op_load one_25 e149 (Ext.cell (Ext.trans hE7 hS148.ext) hc151)) (Ext.refl _) rfl
              · intro f153 wd154 he155 hout156 hphi157
                have hS158 : St wd2 wd154 [] := St.extend hS68 he155
                have e159 : f153 8 = (Value.int .i64 (k50 : Int)) := (hout156 8 rfl).trans hf66
                exact OpY.val (Value.int .i64 (k50 : Int)) wd154 rfl (op_move e159) (Ext.refl _) ⟨rfl, hr67⟩
              · intro f160 wd161 he162 hout163 hphi164
                have hS165 : St wd2 wd161 [] := St.extend hS68 he162
                have e166 : f160 35 = u150 := hphi164 8 35 _ rfl rfl rfl
                obtain ⟨e167, hr168⟩ : f160 36 = (Value.int .i64 (k50 : Int)) ∧ InR .i64 (k50 : Int) := hphi164 9 36 _ rfl rfl rfl
                exact OpY.val (Value.pointer (some (elA u150 ((k50 : Int)).toNat))) wd161 rfl (op_idx sl_25 (Ty.lift _ (Ext.trans hE7 hS165.ext) hr152) e166 e167 ha170 hb171) (Ext.refl _) rfl
              · intro f173 wd174 he175 hout176 hphi177
                have hS178 : St wd2 wd174 [] := St.extend hS68 he175
                have e179 : f173 37 = (Value.pointer (some (elA u150 ((k50 : Int)).toNat))) := hphi177 10 37 _ rfl rfl rfl
                exact OpY.val (Value.int .i64 x169) wd174 rfl (op_load one_2 e179 (Ext.cell (Ext.trans hE7 hS178.ext) hc181)) (Ext.refl _) ⟨rfl, hr182⟩
              · intro f183 wd184 he185 hout186 hphi187
                have hS188 : St wd2 wd184 [] := St.extend hS68 he185
                have e189 : f183 1 = v_d := (hout186 1 rfl).trans hf60
                exact OpY.val v_d wd184 rfl (op_move e189) (Ext.refl _) rfl
              · intro f190 wd191 he192 hout193 hphi194
                have hS195 : St wd2 wd191 [] := St.extend hS68 he192
                have e196 : f190 8 = (Value.int .i64 (k50 : Int)) := (hout193 8 rfl).trans hf66
                exact OpY.val (Value.int .i64 (k50 : Int)) wd191 rfl (op_move e196) (Ext.refl _) ⟨rfl, hr67⟩
              · intro f197 wd198 he199 hout200 hphi201
                have hS202 : St wd2 wd198 [] := St.extend hS68 he199
                have e203 : f197 39 = v_d := hphi201 12 39 _ rfl rfl rfl
                obtain ⟨e204, hr205⟩ : f197 40 = (Value.int .i64 (k50 : Int)) ∧ InR .i64 (k50 : Int) := hphi201 13 40 _ rfl rfl rfl
                exact OpY.val (Value.pointer (some (elA v_d ((k50 : Int)).toNat))) wd198 rfl (op_idx sl_25 (Ty.lift _ (Ext.trans hE7 hS202.ext) r_d) e203 e204 ha207 hb208) (Ext.refl _) rfl
              · intro f210 wd211 he212 hout213 hphi214
                have hS215 : St wd2 wd211 [] := St.extend hS68 he212
                have e216 : f210 41 = (Value.pointer (some (elA v_d ((k50 : Int)).toNat))) := hphi214 14 41 _ rfl rfl rfl
                exact OpY.val (Value.int .i64 x206) wd211 rfl (op_load one_2 e216 (Ext.cell (Ext.trans hE7 hS215.ext) hc218)) (Ext.refl _) ⟨rfl, hr219⟩
              · intro f220 wd221 he222 hout223 hphi224
                have hS225 : St wd2 wd221 [] := St.extend hS68 he222
                obtain ⟨e226, hr227⟩ : f220 38 = (Value.int .i64 x169) ∧ InR .i64 x169 := hphi224 11 38 _ rfl rfl rfl
                obtain ⟨e228, hr229⟩ : f220 42 = (Value.int .i64 x206) ∧ InR .i64 x206 := hphi224 15 42 _ rfl rfl rfl
                exact OpY.val (Value.int .i64 (w64 (x169 * x206))) wd221 rfl (op_mul e226 e228) (Ext.refl _) ⟨rfl, (inR_wrap _ _)⟩
              · intro f230 wd231 he232 hout233 hphi234
                show WL _ _ _ _ _ _ _
                have hS235 : St wd2 wd231 [] := St.extend hS68 he232
                obtain ⟨e236, hr237⟩ : f230 27 = (Value.int .i64 x51) ∧ InR .i64 x51 := hphi234 0 27 _ (by decide) rfl rfl
                obtain ⟨e238, hr239⟩ : f230 43 = (Value.int .i64 (w64 (x169 * x206))) ∧ InR .i64 (w64 (x169 * x206)) := hphi234 16 43 _ (by decide) rfl rfl
                have e240 : f230 1 = v_d := (hout233 1 rfl).trans hf60
                have e241 : f230 2 = (Value.pointer (some ⟨b1, 0, none⟩)) := (hout233 2 rfl).trans hf61
                have e242 : f230 5 = (Value.int .i64 (k11 : Int)) := (hout233 5 rfl).trans hf62
                have e243 : f230 6 = (Value.int .i64 (k30 : Int)) := (hout233 6 rfl).trans hf63
                have e244 : f230 8 = (Value.int .i64 (k50 : Int)) := (hout233 8 rfl).trans hf66
                refine WL.val (Value.int .i64 (w64 (x51 + (w64 (x169 * x206))))) _ (op_add e236 e238) rfl ?_
                refine WL.val (Value.int .i64 (w64 (x51 + (w64 (x169 * x206))))) _ (op_assign rfl) rfl ?_
                refine WL.nil ?_
                show W _ _ _ _ _ _
                refine W.region ?_
                refine WL.val (Value.int .i64 (k50 : Int)) _ (op_move e244) rfl ?_
                refine WL.val (Value.int .i64 (w64 ((k50 : Int) + (1 : Int)))) _ (op_add rfl rfl) rfl ?_
                refine WL.val (Value.int .i64 (w64 ((k50 : Int) + (1 : Int)))) _ (op_assign rfl) rfl ?_
                refine WL.nil ?_
                obtain rfl := Option.some.inj hb56
                show ∃ s, _ = Ctl.next s ∧ _
                exact ⟨_, rfl, e240, e241, e242, e243, rfl, (inR_wrap _ _), (ctr_next hl70 hr69), (ctr_rng hl70 hr69), hS235⟩
            · intro x251 f246 wd247 hs248 hI249
              replace hI249 : f246 1 = v_d ∧ f246 2 = (Value.pointer (some ⟨b1, 0, none⟩)) ∧ f246 5 = (Value.int .i64 (k11 : Int)) ∧ f246 6 = (Value.int .i64 (k30 : Int)) ∧ f246 7 = Value.int .i64 x251 ∧ InR .i64 x251 ∧ f246 8 = Value.int .i64 (((d).length : Nat) : Int) ∧ InR .i64 (((d).length : Nat) : Int) ∧ St wd2 wd247 [] := hI249
              obtain ⟨hf252, hf253, hf254, hf255, hf256, hr257, hf258, hr259, hS260⟩ := hI249
              refine W.seq ?_
              refine W.seq ?_
              refine W.region ?_
              refine WL.val (Value.int .i64 (((d).length : Nat) : Int)) _ (op_move hf258) rfl ?_
              refine WL.val v_d _ (op_move hf252) rfl ?_
              have hr261 := inR_len (Ty.lift _ (Ext.trans hE7 hS260.ext) r_d)
              refine WL.val (Value.int .i64 ((d).length : Int)) _ (op_lenL sl_25 (Ty.lift _ (Ext.trans hE7 hS260.ext) r_d) rfl) rfl ?_
              refine WL.val (Value.bool (decide ((((d).length : Nat) : Int) < ((d).length : Int)))) _ (op_lss rfl rfl) rfl ?_
              have hl262 : ¬ (((d).length : Nat) : Int) < ((d).length : Int) := by omega
              refine WL.nil ?_
              show W _ _ _ _ _ _
              refine W.condF (decide ((((d).length : Nat) : Int) < ((d).length : Int))) rfl (decide_eq_false hl262) ?_
              refine W.exit ?_
              show _ = _ ∧ _
              exact ⟨rfl, _, hs248, hf252, hf253, hf254, hf255, hf256, hr257, hS260⟩
          · rintro f263 wd264 ⟨x267, rfl, hq265⟩
            replace hb35 := onRes_fin hb35
            replace hq265 : f263 1 = v_d ∧ f263 2 = (Value.pointer (some ⟨b1, 0, none⟩)) ∧ f263 5 = (Value.int .i64 (k11 : Int)) ∧ f263 6 = (Value.int .i64 (k30 : Int)) ∧ f263 7 = Value.int .i64 x267 ∧ InR .i64 x267 ∧ St wd2 wd264 [] := hq265
            obtain ⟨hf268, hf269, hf270, hf271, hf272, hr273, hS274⟩ := hq265
            show W _ _ _ _ _ _
            refine W.seq ?_
            obtain ⟨x298, hx301, hb35⟩ := bs hb35
            obtain ⟨ha299, hb300, hx301⟩ := idx_some hx301
            obtain ⟨u309, hc310, hr311⟩ := repSl.el r_d hx301
            obtain ⟨rfl, hr311⟩ := hr311
            obtain ⟨x327, hj328, hb35⟩ := bs hb35
            refine W.cutCode (fun fq wq => fq 1 = v_d ∧ fq 2 = (Value.pointer (some ⟨b1, 0, none⟩)) ∧ fq 5 = (Value.int .i64 (k11 : Int)) ∧ fq 6 = (Value.int .i64 (k30 : Int)) ∧ fq 62 = Value.bool x327 ∧ St wd2 wq []) ?_ ?_
            · rcases Bool.eq_false_or_eq_true (decide (x298 < (1 : Int))) with hc329 | hc329
              · replace hj328 := ip hj328 hc329
                refine W.draw mixo 16 [fun v _ => v = v_d, fun v _ => v = (Value.int .i64 (k11 : Int)) ∧ InR .i64 (k11 : Int), fun v _ => v = (Value.pointer (some (elA v_d ((k11 : Int)).toNat))), fun v _ => v = (Value.int .i64 x298) ∧ InR .i64 x298, fun v _ => v = (Value.bool (decide (x298 < (1 : Int)))), fun v _ => v = (Value.bool (decide (x298 < (1 : Int)))), fun v _ => v = undef, fun v _ => v = undef, fun v _ => v = undef, fun v _ => v = undef, fun v _ => v = undef, fun v _ => v = undef, fun v _ => v = undef, fun v _ => v = undef, fun v _ => v = undef, fun v _ => v = undef] (by kernel_rfl) (by kernel_rfl) (stabL ⟨(fun _ _ _ _ h => h), (fun _ _ _ _ h => h), (fun _ _ _ _ h => h), (fun _ _ _ _ h => h), (fun _ _ _ _ h => h), (fun _ _ _ _ h => h), (fun _ _ _ _ h => h), (fun _ _ _ _ h => h), (fun _ _ _ _ h => h), (fun _ _ _ _ h => h), (fun _ _ _ _ h => h), (fun _ _ _ _ h => h), (fun _ _ _ _ h => h), (fun _ _ _ _ h => h), (fun _ _ _ _ h => h), (fun _ _ _ _ h => h), trivial⟩) ⟨?_, ?_, ?_, ?_, ?_, ?_, ?_, ?_, ?_, ?_, ?_, ?_, ?_, ?_, ?_, ?_, trivial⟩ ?_
                · intro f275 wd276 he277 hout278 hphi279
                  have hS280 : St wd2 wd276 [] := St.extend hS274 he277
                  have e281 : f275 1 = v_d := (hout278 1 rfl).trans hf268
                  exact OpY.val v_d wd276 rfl (op_move e281) (Ext.refl _) rfl
                · intro f282 wd283 he284 hout285 hphi286
                  have hS287 : St wd2 wd283 [] := St.extend hS274 he284
                  have e288 : f282 5 = (Value.int .i64 (k11 : Int)) := (hout285 5 rfl).trans hf270
                  exact OpY.val (Value.int .i64 (k11 : Int)) wd283 rfl (op_move e288) (Ext.refl _) ⟨rfl, hr23⟩
                · intro f289 wd290 he291 hout292 hphi293
                  have hS294 : St wd2 wd290 [] := St.extend hS274 he291
                  have e295 : f289 45 = v_d := hphi293 0 45 _ rfl rfl rfl
                  obtain ⟨e296, hr297⟩ : f289 46 = (Value.int .i64 (k11 : Int)) ∧ InR .i64 (k11 : Int) := hphi293 1 46 _ rfl rfl rfl
                  exact OpY.val (Value.pointer (some (elA v_d ((k11 : Int)).toNat))) wd290 rfl (op_idx sl_25 (Ty.lift _ (Ext.trans hE7 hS294.ext) r_d) e295 e296 ha299 hb300) (Ext.refl _) rfl
                · intro f302 wd303 he304 hout305 hphi306
                  have hS307 : St wd2 wd303 [] := St.extend hS274 he304
                  have e308 : f302 47 = (Value.pointer (some (elA v_d ((k11 : Int)).toNat))) := hphi306 2 47 _ rfl rfl rfl
                  exact OpY.val (Value.int .i64 x298) wd303 rfl (op_load one_2 e308 (Ext.cell (Ext.trans hE7 hS307.ext) hc310)) (Ext.refl _) ⟨rfl, hr311⟩
                · intro f312 wd313 he314 hout315 hphi316
                  have hS317 : St wd2 wd313 [] := St.extend hS274 he314
                  obtain ⟨e318, hr319⟩ : f312 48 = (Value.int .i64 x298) ∧ InR .i64 x298 := hphi316 3 48 _ rfl rfl rfl
                  exact OpY.val (Value.bool (decide (x298 < (1 : Int)))) wd313 rfl (op_lss e318 rfl) (Ext.refl _) rfl
                · intro f320 wd321 he322 hout323 hphi324
                  have hS325 : St wd2 wd321 [] := St.extend hS274 he322
                  have e326 : f320 49 = (Value.bool (decide (x298 < (1 : Int)))) := hphi324 4 49 _ rfl rfl rfl
                  exact OpY.val (Value.bool (decide (x298 < (1 : Int)))) wd321 rfl (op_move e326) (Ext.refl _) rfl
                · intro f330 wd331 he332 hout333 hphi334
                  have e335 : f330 50 = (Value.bool (decide (x298 < (1 : Int)))) := hphi334 5 50 _ rfl rfl rfl
                  exact OpY.skip (wanted_skip rfl rfl e335 hc329) rfl
                · intro f336 wd337 he338 hout339 hphi340
                  have e341 : f336 50 = (Value.bool (decide (x298 < (1 : Int)))) := hphi340 5 50 _ rfl rfl rfl
                  exact OpY.skip (wanted_skip rfl rfl e341 hc329) rfl
                · intro f342 wd343 he344 hout345 hphi346
                  have e347 : f342 50 = (Value.bool (decide (x298 < (1 : Int)))) := hphi346 5 50 _ rfl rfl rfl
                  exact OpY.skip (wanted_skip rfl rfl e347 hc329) rfl
                · intro f348 wd349 he350 hout351 hphi352
                  have e353 : f348 50 = (Value.bool (decide (x298 < (1 : Int)))) := hphi352 5 50 _ rfl rfl rfl
                  exact OpY.skip (wanted_skip rfl rfl e353 hc329) rfl
                · intro f354 wd355 he356 hout357 hphi358
                  have e359 : f354 50 = (Value.bool (decide (x298 < (1 : Int)))) := hphi358 5 50 _ rfl rfl rfl
                  exact OpY.skip (wanted_skip rfl rfl e359 hc329) rfl
                · intro f360 wd361 he362 hout363 hphi364
                  have e365 : f360 50 = (Value.bool (decide (x298 < (1 : Int)))) := hphi364 5 50 _ rfl rfl rfl
                  exact OpY.skip (wanted_skip rfl rfl e365 hc329) rfl
                · intro f366 wd367 he368 hout369 hphi370
                  have e371 : f366 50 = (Value.bool (decide (x298 < (1 : Int)))) := hphi370 5 50 _ rfl rfl rfl
                  exact OpY.skip (wanted_skip rfl rfl e371 hc329) rfl
                · intro f372 wd373 he374 hout375 hphi376
                  have e377 : f372 50 = (Value.bool (decide (x298 < (1 : Int)))) := hphi376 5 50 _ rfl rfl rfl
                  exact OpY.skip (wanted_skip rfl rfl e377 hc329) rfl
                · intro f378 wd379 he380 hout381 hphi382
                  have e383 : f378 50 = (Value.bool (decide (x298 < (1 : Int)))) := hphi382 5 50 _ rfl rfl rfl
                  exact OpY.skip (wanted_skip rfl rfl e383 hc329) rfl
                · intro f384 wd385 he386 hout387 hphi388
                  have e389 : f384 50 = (Value.bool (decide (x298 < (1 : Int)))) := hphi388 5 50 _ rfl rfl rfl
                  exact OpY.skip (wanted_skip rfl rfl e389 hc329) rfl
                · intro f390 wd391 he392 hout393 hphi394
                  show WL _ _ _ _ _ _ _
                  have hS395 : St wd2 wd391 [] := St.extend hS274 he392
                  have e396 : f390 50 = (Value.bool (decide (x298 < (1 : Int)))) := hphi394 5 50 _ (by decide) rfl rfl
                  have e407 : f390 1 = v_d := (hout393 1 rfl).trans hf268
                  have e408 : f390 2 = (Value.pointer (some ⟨b1, 0, none⟩)) := (hout393 2 rfl).trans hf269
                  have e409 : f390 5 = (Value.int .i64 (k11 : Int)) := (hout393 5 rfl).trans hf270
                  have e410 : f390 6 = (Value.int .i64 (k30 : Int)) := (hout393 6 rfl).trans hf271
                  refine WL.gskip rfl (bool_of e396 hc329) rfl ?_
                  refine WL.val (Value.bool true) _ (op_pick_t (evb_of e396 hc329) rfl) rfl ?_
                  refine WL.nil ?_
                  obtain rfl := Option.some.inj hj328
                  exact ⟨e407, e408, e409, e410, rfl, hS395⟩
              · replace hj328 := inegb hj328 hc329
                obtain ⟨u453, hc454, hr455⟩ := repSl.el r_d hx301
                obtain ⟨rfl, hr455⟩ := hr455
                obtain ⟨x482, hx485, hj328⟩ := bs hj328
                obtain ⟨ha483, hb484, hx485⟩ := idx_some hx485
                obtain ⟨u494, hc495, hr496⟩ := repSl.el r_d hx485
                obtain ⟨rfl, hr496⟩ := hr496
                refine W.draw mixo 16 [fun v _ => v = v_d, fun v _ => v = (Value.int .i64 (k11 : Int)) ∧ InR .i64 (k11 : Int), fun v _ => v = (Value.pointer (some (elA v_d ((k11 : Int)).toNat))), fun v _ => v = (Value.int .i64 x298) ∧ InR .i64 x298, fun v _ => v = (Value.bool (decide (x298 < (1 : Int)))), fun v _ => v = (Value.bool (decide (x298 < (1 : Int)))), fun v _ => v = (Value.int .i64 x267) ∧ InR .i64 x267, fun v _ => v = v_d, fun v _ => v = (Value.int .i64 (k11 : Int)) ∧ InR .i64 (k11 : Int), fun v _ => v = (Value.pointer (some (elA v_d ((k11 : Int)).toNat))), fun v _ => v = (Value.int .i64 x298) ∧ InR .i64 x298, fun v _ => v = v_d, fun v _ => v = (Value.int .i64 (k30 : Int)) ∧ InR .i64 (k30 : Int), fun v _ => v = (Value.pointer (some (elA v_d ((k30 : Int)).toNat))), fun v _ => v = (Value.int .i64 x482) ∧ InR .i64 x482, fun v _ => v = (Value.int .i64 (w64 (x298 * x482))) ∧ InR .i64 (w64 (x298 * x482))] (by kernel_rfl) (by kernel_rfl) (stabL ⟨(fun _ _ _ _ h => h), (fun _ _ _ _ h => h), (fun _ _ _ _ h => h), (fun _ _ _ _ h => h), (fun _ _ _ _ h => h), (fun _ _ _ _ h => h), (fun _ _ _ _ h => h), (fun _ _ _ _ h => h), (fun _ _ _ _ h => h), (fun _ _ _ _ h => h), (fun _ _ _ _ h => h), (fun _ _ _ _ h => h), (fun _ _ _ _ h => h), (fun _ _ _ _ h => h), (fun _ _ _ _ h => h), (fun _ _ _ _ h => h), trivial⟩) ⟨?_, ?_, ?_, ?_, ?_, ?_, ?_, ?_, ?_, ?_, ?_, ?_, ?_, ?_, ?_, ?_, trivial⟩ ?_
                · intro f275 wd276 he277 hout278 hphi279
                  have hS280 : St wd2 wd276 [] := St.extend hS274 he277
                  have e281 : f275 1 = v_d := (hout278 1 rfl).trans hf268
                  exact OpY.val v_d wd276 rfl (op_move e281) (Ext.refl _) rfl
                · intro f282 wd283 he284 hout285 hphi286
                  have hS287 : St wd2 wd283 [] := St.extend hS274 he284
                  have e288 : f282 5 = (Value.int .i64 (k11 : Int)) := (hout285 5 rfl).trans hf270
                  exact OpY.val (Value.int .i64 (k11 : Int)) wd283 rfl (op_move e288) (Ext.refl _) ⟨rfl, hr23⟩
                · intro f289 wd290 he291 hout292 hphi293
                  have hS294 : St wd2 wd290 [] := St.extend hS274 he291
                  have e295 : f289 45 = v_d := hphi293 0 45 _ rfl rfl rfl
                  obtain ⟨e296, hr297⟩ : f289 46 = (Value.int .i64 (k11 : Int)) ∧ InR .i64 (k11 : Int) := hphi293 1 46 _ rfl rfl rfl
                  exact OpY.val (Value.pointer (some (elA v_d ((k11 : Int)).toNat))) wd290 rfl (op_idx sl_25 (Ty.lift _ (Ext.trans hE7 hS294.ext) r_d) e295 e296 ha299 hb300) (Ext.refl _) rfl
                · intro f302 wd303 he304 hout305 hphi306
                  have hS307 : St wd2 wd303 [] := St.extend hS274 he304
                  have e308 : f302 47 = (Value.pointer (some (elA v_d ((k11 : Int)).toNat))) := hphi306 2 47 _ rfl rfl rfl
                  exact OpY.val (Value.int .i64 x298) wd303 rfl (op_load one_2 e308 (Ext.cell (Ext.trans hE7 hS307.ext) hc310)) (Ext.refl _) ⟨rfl, hr311⟩
                · intro f312 wd313 he314 hout315 hphi316
                  have hS317 : St wd2 wd313 [] := St.extend hS274 he314
                  obtain ⟨e318, hr319⟩ : f312 48 = (Value.int .i64 x298) ∧ InR .i64 x298 := hphi316 3 48 _ rfl rfl rfl
                  exact OpY.val (Value.bool (decide (x298 < (1 : Int)))) wd313 rfl (op_lss e318 rfl) (Ext.refl _) rfl
                · intro f320 wd321 he322 hout323 hphi324
                  have hS325 : St wd2 wd321 [] := St.extend hS274 he322
                  have e326 : f320 49 = (Value.bool (decide (x298 < (1 : Int)))) := hphi324 4 49 _ rfl rfl rfl
                  exact OpY.val (Value.bool (decide (x298 < (1 : Int)))) wd321 rfl (op_move e326) (Ext.refl _) rfl
                · intro f411 wd412 he413 hout414 hphi415
                  have hS416 : St wd2 wd412 [] := St.extend hS274 he413
                  have e417 : f411 7 = (Value.int .i64 x267) := (hout414 7 rfl).trans hf272
                  have e418 : f411 50 = (Value.bool (decide (x298 < (1 : Int)))) := hphi415 5 50 _ rfl rfl rfl
                  exact OpY.val (Value.int .i64 x267) wd412 (wanted_run rfl rfl e418 hc329) (op_move e417) (Ext.refl _) ⟨rfl, hr273⟩
                · intro f419 wd420 he421 hout422 hphi423
                  have hS424 : St wd2 wd420 [] := St.extend hS274 he421
                  have e425 : f419 1 = v_d := (hout422 1 rfl).trans hf268
                  have e426 : f419 50 = (Value.bool (decide (x298 < (1 : Int)))) := hphi423 5 50 _ rfl rfl rfl
                  exact OpY.val v_d wd420 (wanted_run rfl rfl e426 hc329) (op_move e425) (Ext.refl _) rfl
                · intro f427 wd428 he429 hout430 hphi431
                  have hS432 : St wd2 wd428 [] := St.extend hS274 he429
                  have e433 : f427 5 = (Value.int .i64 (k11 : Int)) := (hout430 5 rfl).trans hf270
                  have e434 : f427 50 = (Value.bool (decide (x298 < (1 : Int)))) := hphi431 5 50 _ rfl rfl rfl
                  exact OpY.val (Value.int .i64 (k11 : Int)) wd428 (wanted_run rfl rfl e434 hc329) (op_move e433) (Ext.refl _) ⟨rfl, hr23⟩
                · intro f435 wd436 he437 hout438 hphi439
                  have hS440 : St wd2 wd436 [] := St.extend hS274 he437
                  have e441 : f435 50 = (Value.bool (decide (x298 < (1 : Int)))) := hphi439 5 50 _ rfl rfl rfl
                  have e442 : f435 52 = v_d := hphi439 7 52 _ rfl rfl rfl
                  obtain ⟨e443, hr444⟩ : f435 53 = (Value.int .i64 (k11 : Int)) ∧ InR .i64 (k11 : Int) := hphi439 8 53 _ rfl rfl rfl
                  exact OpY.val (Value.pointer (some (elA v_d ((k11 : Int)).toNat))) wd436 (wanted_run rfl rfl e441 hc329) (op_idx sl_25 (Ty.lift _ (Ext.trans hE7 hS440.ext) r_d) e442 e443 ha299 hb300) (Ext.refl _) rfl
                · intro f445 wd446 he447 hout448 hphi449
                  have hS450 : St wd2 wd446 [] := St.extend hS274 he447
                  have e451 : f445 50 = (Value.bool (decide (x298 < (1 : Int)))) := hphi449 5 50 _ rfl rfl rfl
                  have e452 : f445 54 = (Value.pointer (some (elA v_d ((k11 : Int)).toNat))) := hphi449 9 54 _ rfl rfl rfl
                  exact OpY.val (Value.int .i64 x298) wd446 (wanted_run rfl rfl e451 hc329) (op_load one_2 e452 (Ext.cell (Ext.trans hE7 hS450.ext) hc454)) (Ext.refl _) ⟨rfl, hr455⟩
                · intro f456 wd457 he458 hout459 hphi460
                  have hS461 : St wd2 wd457 [] := St.extend hS274 he458
                  have e462 : f456 1 = v_d := (hout459 1 rfl).trans hf268
                  have e463 : f456 50 = (Value.bool (decide (x298 < (1 : Int)))) := hphi460 5 50 _ rfl rfl rfl
                  exact OpY.val v_d wd457 (wanted_run rfl rfl e463 hc329) (op_move e462) (Ext.refl _) rfl
                · intro f464 wd465 he466 hout467 hphi468
                  have hS469 : St wd2 wd465 [] := St.extend hS274 he466
                  have e470 : f464 6 = (Value.int .i64 (k30 : Int)) := (hout467 6 rfl).trans hf271
                  have e471 : f464 50 = (Value.bool (decide (x298 < (1 : Int)))) := hphi468 5 50 _ rfl rfl rfl
                  exact OpY.val (Value.int .i64 (k30 : Int)) wd465 (wanted_run rfl rfl e471 hc329) (op_move e470) (Ext.refl _) ⟨rfl, hr43⟩
                · intro f472 wd473 he474 hout475 hphi476
                  have hS477 : St wd2 wd473 [] := St.extend hS274 he474
                  have e478 : f472 50 = (Value.bool (decide (x298 < (1 : Int)))) := hphi476 5 50 _ rfl rfl rfl
                  have e479 : f472 56 = v_d := hphi476 11 56 _ rfl rfl rfl
                  obtain ⟨e480, hr481⟩ : f472 57 = (Value.int .i64 (k30 : Int)) ∧ InR .i64 (k30 : Int) := hphi476 12 57 _ rfl rfl rfl
                  exact OpY.val (Value.pointer (some (elA v_d ((k30 : Int)).toNat))) wd473 (wanted_run rfl rfl e478 hc329) (op_idx sl_25 (Ty.lift _ (Ext.trans hE7 hS477.ext) r_d) e479 e480 ha483 hb484) (Ext.refl _) rfl
                · intro f486 wd487 he488 hout489 hphi490
                  have hS491 : St wd2 wd487 [] := St.extend hS274 he488
                  have e492 : f486 50 = (Value.bool (decide (x298 < (1 : Int)))) := hphi490 5 50 _ rfl rfl rfl
                  have e493 : f486 58 = (Value.pointer (some (elA v_d ((k30 : Int)).toNat))) := hphi490 13 58 _ rfl rfl rfl
                  exact OpY.val (Value.int .i64 x482) wd487 (wanted_run rfl rfl e492 hc329) (op_load one_2 e493 (Ext.cell (Ext.trans hE7 hS491.ext) hc495)) (Ext.refl _) ⟨rfl, hr496⟩
                · intro f497 wd498 he499 hout500 hphi501
                  have hS502 : St wd2 wd498 [] := St.extend hS274 he499
                  have e503 : f497 50 = (Value.bool (decide (x298 < (1 : Int)))) := hphi501 5 50 _ rfl rfl rfl
                  obtain ⟨e504, hr505⟩ : f497 55 = (Value.int .i64 x298) ∧ InR .i64 x298 := hphi501 10 55 _ rfl rfl rfl
                  obtain ⟨e506, hr507⟩ : f497 59 = (Value.int .i64 x482) ∧ InR .i64 x482 := hphi501 14 59 _ rfl rfl rfl
                  exact OpY.val (Value.int .i64 (w64 (x298 * x482))) wd498 (wanted_run rfl rfl e503 hc329) (op_mul e504 e506) (Ext.refl _) ⟨rfl, (inR_wrap _ _)⟩
                · intro f508 wd509 he510 hout511 hphi512
                  show WL _ _ _ _ _ _ _
                  have hS513 : St wd2 wd509 [] := St.extend hS274 he510
                  have e514 : f508 50 = (Value.bool (decide (x298 < (1 : Int)))) := hphi512 5 50 _ (by decide) rfl rfl
                  obtain ⟨e515, hr516⟩ : f508 51 = (Value.int .i64 x267) ∧ InR .i64 x267 := hphi512 6 51 _ (by decide) rfl rfl
                  have e517 : f508 52 = v_d := hphi512 7 52 _ (by decide) rfl rfl
                  obtain ⟨e518, hr519⟩ : f508 53 = (Value.int .i64 (k11 : Int)) ∧ InR .i64 (k11 : Int) := hphi512 8 53 _ (by decide) rfl rfl
                  have e520 : f508 54 = (Value.pointer (some (elA v_d ((k11 : Int)).toNat))) := hphi512 9 54 _ (by decide) rfl rfl
                  obtain ⟨e521, hr522⟩ : f508 55 = (Value.int .i64 x298) ∧ InR .i64 x298 := hphi512 10 55 _ (by decide) rfl rfl
                  have e523 : f508 56 = v_d := hphi512 11 56 _ (by decide) rfl rfl
                  obtain ⟨e524, hr525⟩ : f508 57 = (Value.int .i64 (k30 : Int)) ∧ InR .i64 (k30 : Int) := hphi512 12 57 _ (by decide) rfl rfl
                  have e526 : f508 58 = (Value.pointer (some (elA v_d ((k30 : Int)).toNat))) := hphi512 13 58 _ (by decide) rfl rfl
                  obtain ⟨e527, hr528⟩ : f508 59 = (Value.int .i64 x482) ∧ InR .i64 x482 := hphi512 14 59 _ (by decide) rfl rfl
                  obtain ⟨e529, hr530⟩ : f508 60 = (Value.int .i64 (w64 (x298 * x482))) ∧ InR .i64 (w64 (x298 * x482)) := hphi512 15 60 _ (by decide) rfl rfl
                  have e531 : f508 1 = v_d := (hout511 1 rfl).trans hf268
                  have e532 : f508 2 = (Value.pointer (some ⟨b1, 0, none⟩)) := (hout511 2 rfl).trans hf269
                  have e533 : f508 5 = (Value.int .i64 (k11 : Int)) := (hout511 5 rfl).trans hf270
                  have e534 : f508 6 = (Value.int .i64 (k30 : Int)) := (hout511 6 rfl).trans hf271
                  refine WL.grun rfl (bool_of e514 hc329) ?_
                  refine WL.val (Value.bool (x267 != (w64 (x298 * x482)))) _ (op_neq e515 e529) rfl ?_
                  refine WL.val (Value.bool (x267 != (w64 (x298 * x482)))) _ (op_pick_f (evb_of e514 hc329) rfl) rfl ?_
                  refine WL.nil ?_
                  obtain rfl := Option.some.inj hj328
                  exact ⟨e531, e532, e533, e534, rfl, hS513⟩
            · intro f535 wd536 hq537
              obtain ⟨hf538, hf539, hf540, hf541, hf542, hS543⟩ := hq537
              show W _ _ _ _ _ _
              refine W.cond x327 hf542 (fun hc544 => ?_) (fun hc544 => ?_)
              · replace hb35 := ip hb35 hc544
                refine W.seq ?_
                refine W.region ?_
                refine WL.val (Value.bool false) _ (op_assign rfl) rfl ?_
                refine WL.nil ?_
                show W _ _ _ _ _ _
                refine W.ret ?_
                obtain rfl := Option.some.inj hb35
                obtain rfl := hret38 _ rfl
                replace hb16 := onRes_ret hb16
                obtain rfl := Option.some.inj hb16
                obtain rfl := hret19 _ rfl
                replace h := onRes_ret h
                obtain rfl := Option.some.inj h
                show FinP _ _ _ _ _ _ _
                exact FinP.ret _ (res1 rfl rfl) ⟨rfl, (Ext.trans hE7 hS543.ext)⟩
              · replace hb35 := inegb hb35 hc544
                refine W.skip ?_
                show W _ _ _ _ _ _
                refine W.region ?_
                refine WL.val (Value.int .i64 (k30 : Int)) _ (op_move hf541) rfl ?_
                refine WL.val (Value.int .i64 (w64 ((k30 : Int) + (1 : Int)))) _ (op_add rfl rfl) rfl ?_
                refine WL.val (Value.int .i64 (w64 ((k30 : Int) + (1 : Int)))) _ (op_assign rfl) rfl ?_
                refine WL.nil ?_
                obtain rfl := Option.some.inj hb35
                show ∃ s, _ = Ctl.next s ∧ _
                exact ⟨_, rfl, hf538, hf539, hf540, (ctr_next hl46 hr45), (ctr_rng hl46 hr45), hS543⟩
        · intro s552 f548 wd549 hs550 hI551
          obtain ⟨⟩ := s552
          replace hI551 : f548 1 = v_d ∧ f548 2 = (Value.pointer (some ⟨b1, 0, none⟩)) ∧ f548 5 = (Value.int .i64 (k11 : Int)) ∧ f548 6 = Value.int .i64 (((d).length : Nat) : Int) ∧ InR .i64 (((d).length : Nat) : Int) ∧ St wd2 wd549 [] := hI551
          obtain ⟨hf553, hf554, hf555, hf556, hr557, hS558⟩ := hI551
          refine W.seq ?_
          refine W.seq ?_
          refine W.region ?_
          refine WL.val (Value.int .i64 (((d).length : Nat) : Int)) _ (op_move hf556) rfl ?_
          refine WL.val v_d _ (op_move hf553) rfl ?_
          have hr559 := inR_len (Ty.lift _ (Ext.trans hE7 hS558.ext) r_d)
          refine WL.val (Value.int .i64 ((d).length : Int)) _ (op_lenL sl_25 (Ty.lift _ (Ext.trans hE7 hS558.ext) r_d) rfl) rfl ?_
          refine WL.val (Value.bool (decide ((((d).length : Nat) : Int) < ((d).length : Int)))) _ (op_lss rfl rfl) rfl ?_
          have hl560 : ¬ (((d).length : Nat) : Int) < ((d).length : Int) := by omega
          refine WL.nil ?_
          show W _ _ _ _ _ _
          refine W.condF (decide ((((d).length : Nat) : Int) < ((d).length : Int))) rfl (decide_eq_false hl560) ?_
          refine W.exit ?_
          show _ = _ ∧ _
          exact ⟨rfl, _, hs550, hf553, hf554, hf555, hS558⟩
      · rintro f561 wd562 ⟨s564, rfl, hq563⟩
        replace hb16 := onRes_fin hb16
        obtain ⟨⟩ := s564
        replace hq563 : f561 1 = v_d ∧ f561 2 = (Value.pointer (some ⟨b1, 0, none⟩)) ∧ f561 5 = (Value.int .i64 (k11 : Int)) ∧ St wd2 wd562 [] := hq563
        obtain ⟨hf565, hf566, hf567, hS568⟩ := hq563
        show W _ _ _ _ _ _
        refine W.region ?_
        refine WL.val (Value.int .i64 (k11 : Int)) _ (op_move hf567) rfl ?_
        refine WL.val (Value.int .i64 (w64 ((k11 : Int) + (1 : Int)))) _ (op_add rfl rfl) rfl ?_
        refine WL.val (Value.int .i64 (w64 ((k11 : Int) + (1 : Int)))) _ (op_assign rfl) rfl ?_
        refine WL.nil ?_
        obtain rfl := Option.some.inj hb16
        show ∃ s, _ = Ctl.next s ∧ _
        exact ⟨_, rfl, hf565, hf566, (ctr_next hl26 hr25), (ctr_rng hl26 hr25), hS568⟩
    · intro s575 f571 wd572 hs573 hI574
      obtain ⟨⟩ := s575
      replace hI574 : f571 1 = v_d ∧ f571 2 = (Value.pointer (some ⟨b1, 0, none⟩)) ∧ f571 5 = Value.int .i64 (((d).length : Nat) : Int) ∧ InR .i64 (((d).length : Nat) : Int) ∧ St wd2 wd572 [] := hI574
      obtain ⟨hf576, hf577, hf578, hr579, hS580⟩ := hI574
      refine W.seq ?_
      refine W.seq ?_
      refine W.region ?_
      refine WL.val (Value.int .i64 (((d).length : Nat) : Int)) _ (op_move hf578) rfl ?_
      refine WL.val v_d _ (op_move hf576) rfl ?_
      have hr581 := inR_len (Ty.lift _ (Ext.trans hE7 hS580.ext) r_d)
      refine WL.val (Value.int .i64 ((d).length : Int)) _ (op_lenL sl_25 (Ty.lift _ (Ext.trans hE7 hS580.ext) r_d) rfl) rfl ?_
      refine WL.val (Value.bool (decide ((((d).length : Nat) : Int) < ((d).length : Int)))) _ (op_lss rfl rfl) rfl ?_
      have hl582 : ¬ (((d).length : Nat) : Int) < ((d).length : Int) := by omega
      refine WL.nil ?_
      show W _ _ _ _ _ _
      refine W.condF (decide ((((d).length : Nat) : Int) < ((d).length : Int))) rfl (decide_eq_false hl582) ?_
      refine W.exit ?_
      show _ = _ ∧ _
      exact ⟨rfl, _, hs573, hS580⟩
  · rintro f583 wd584 ⟨s586, rfl, hq585⟩
    replace h := onRes_fin h
    obtain ⟨⟩ := s586
    replace hq585 : St wd2 wd584 [] := hq585
    have hS587 := hq585
    show W _ _ _ _ _ _
    refine W.seq ?_
    refine W.region ?_
    refine WL.val (Value.bool true) _ (op_assign rfl) rfl ?_
    refine WL.nil ?_
    show W _ _ _ _ _ _
    refine W.ret ?_
    obtain rfl := Option.some.inj h
    show FinP _ _ _ _ _ _ _
    exact FinP.ret _ (res1 rfl rfl) ⟨rfl, (Ext.trans hE7 hS587.ext)⟩

theorem c_spec_IsDimension {w : World} {r_Table : (List (List (List Int)))} {v_r_Table : Value} {d : (List Int)} {v_d : Value} (r_r_Table : (Ty.sl (Ty.sl (Ty.sl (Ty.i .i64)))).rep w v_r_Table r_Table) (r_d : (Ty.sl (Ty.i .i64)).rep w v_d d) {res : Bool × Int} (h : p_spec_IsDimension r_Table d  = some res) :
    Ret Try.prog 12 #[(Value.agg #[v_r_Table]), v_d] w (fun v w' => v = (Value.tuple #[Value.bool res.1, Value.int .i64 res.2]) ∧ InR .i64 res.2 ∧ Ext w w') := by
  unfold p_spec_IsDimension at h
  have hS0 : St w w [] := St.start w
  refine Ret.start (fn := Try.f12) Try.func12 rfl 18 rfl rfl ?_
  refine W.seq ?_
  refine W.region ?_
  refine WL.box hS0 rfl (cs := [v_r_Table]) rfl rfl ?_
  intro b1 wd2 hS3 he4 hx5
  replace hS3 : St w wd2 [bx b1 [v_r_Table]] := hS3
  have hx6 := St.boxAt hS3 0 rfl
  have hE7 : Ext w wd2 := hS3.ext
  have hS8 : St wd2 wd2 [] := St.start wd2
  refine WL.val (Value.bool false) _ (op_assign rfl) rfl ?_
  refine WL.val (Value.int .i64 (0 : Int)) _ (op_assign rfl) rfl ?_
  refine WL.nil ?_
  show W _ _ _ _ _ _
  refine W.seq ?_
  refine W.block ?_
  refine W.seq ?_
  refine W.region ?_
  refine WL.val (Value.agg #[v_r_Table]) _ (op_loadBox st_29 rfl (BoxAt.lift hS8.ext hx6) rfl rfl) rfl ?_
  obtain ⟨x9, hx10, h⟩ := bs h
  refine WL.call _ (op_call fn_37 (args1 rfl)) (c_spec_l03Is (Ty.lift _ (Ext.trans hE7 hS8.ext) r_r_Table) hx10) rfl ?_
  rintro _ wd11 ⟨rfl, he12⟩
  have hS14 := St.extend hS8 he12
  replace hS14 : St wd2 wd11 [] := hS14
  refine WL.val (Value.bool (!x9)) _ (op_not rfl) rfl ?_
  refine WL.val (Value.bool (!x9)) _ (op_assign rfl) rfl ?_
  refine WL.nil ?_
  show W _ _ _ _ _ _
  refine W.cond (!x9) rfl (fun hc15 => ?_) (fun hc15 => ?_)
  · replace h := ip h hc15
    refine W.seq ?_
    refine W.region ?_
    refine WL.val (Value.bool false) _ (op_assign rfl) rfl ?_
    refine WL.val (Value.int .i64 (1 : Int)) _ (op_assign rfl) rfl ?_
    refine WL.nil ?_
    show W _ _ _ _ _ _
    refine W.ret ?_
    obtain rfl := Option.some.inj h
    show FinP _ _ _ _ _ _ _
    exact FinP.ret _ (res2 rfl rfl rfl) ⟨rfl, (inR_i64.2 (show (-9223372036854775808 : Int) ≤ 1 ∧ (1 : Int) ≤ 9223372036854775807 from by decide)), (Ext.trans hE7 hS14.ext)⟩
  · replace h := inegb h hc15
    refine W.seq ?_
    refine W.region ?_
    refine WL.val (Value.agg #[v_r_Table]) _ (op_loadBox st_29 rfl (BoxAt.lift hS14.ext hx6) rfl rfl) rfl ?_
    refine WL.val v_d _ (op_move rfl) rfl ?_
    obtain ⟨x17, hx18, h⟩ := bs h
    refine WL.call _ (op_call fn_38 (args2 rfl rfl)) (c_spec_l03Vector (Ty.lift _ (Ext.trans hE7 hS14.ext) r_r_Table) (Ty.lift _ (Ext.trans hE7 hS14.ext) r_d) hx18) rfl ?_
    rintro _ wd19 ⟨rfl, he20⟩
    have hS22 := St.extend hS14 he20
    replace hS22 : St wd2 wd19 [] := hS22
    refine WL.val (Value.bool (!x17)) _ (op_not rfl) rfl ?_
    refine WL.val (Value.bool (!x17)) _ (op_assign rfl) rfl ?_
    refine WL.nil ?_
    show W _ _ _ _ _ _
    refine W.cond (!x17) rfl (fun hc23 => ?_) (fun hc23 => ?_)
    · replace h := ip h hc23
      refine W.seq ?_
      refine W.region ?_
      refine WL.val (Value.bool false) _ (op_assign rfl) rfl ?_
      refine WL.val (Value.int .i64 (2 : Int)) _ (op_assign rfl) rfl ?_
      refine WL.nil ?_
      show W _ _ _ _ _ _
      refine W.ret ?_
      obtain rfl := Option.some.inj h
      show FinP _ _ _ _ _ _ _
      exact FinP.ret _ (res2 rfl rfl rfl) ⟨rfl, (inR_i64.2 (show (-9223372036854775808 : Int) ≤ 2 ∧ (2 : Int) ≤ 9223372036854775807 from by decide)), (Ext.trans hE7 hS22.ext)⟩
    · replace h := inegb h hc23
      refine W.skip ?_
      show W _ _ _ _ _ _
      refine W.seq ?_
      refine W.region ?_
      refine WL.val (Value.agg #[v_r_Table]) _ (op_loadBox st_29 rfl (BoxAt.lift hS22.ext hx6) rfl rfl) rfl ?_
      refine WL.val v_d _ (op_move rfl) rfl ?_
      obtain ⟨x25, hx26, h⟩ := bs h
      refine WL.call _ (op_call fn_39 (args2 rfl rfl)) (c_spec_l04Is (Ty.lift _ (Ext.trans hE7 hS22.ext) r_r_Table) (Ty.lift _ (Ext.trans hE7 hS22.ext) r_d) hx26) rfl ?_
      rintro _ wd27 ⟨rfl, he28⟩
      have hS30 := St.extend hS22 he28
      replace hS30 : St wd2 wd27 [] := hS30
      refine WL.val (Value.bool x25) _ (op_assign rfl) rfl ?_
      refine WL.val (Value.int .i64 (0 : Int)) _ (op_assign rfl) rfl ?_
      refine WL.nil ?_
      show W _ _ _ _ _ _
      refine W.ret ?_
      obtain rfl := Option.some.inj h
      show FinP _ _ _ _ _ _ _
      exact FinP.ret _ (res2 rfl rfl rfl) ⟨rfl, (inR_i64.2 (show (-9223372036854775808 : Int) ≤ 0 ∧ (0 : Int) ≤ 9223372036854775807 from by decide)), (Ext.trans hE7 hS30.ext)⟩

theorem c_impl_within {w : World} {n : Int} {low : Int} {high : Int} (r_n : InR .i64 n) (r_low : InR .i64 low) (r_high : InR .i64 high) {res : Bool} (h : p_impl_within n low high  = some res) :
    Ret Try.prog 59 #[(Value.int .i64 n), (Value.int .i64 low), (Value.int .i64 high)] w (fun v w' => v = Value.bool res ∧ Ext w w') := by
  unfold p_impl_within at h
  have hS0 : St w w [] := St.start w
  refine Ret.start (fn := Try.f59) Try.func59 rfl 15 rfl rfl ?_
  refine W.seq ?_
  refine W.region ?_
  refine WL.val (Value.bool false) _ (op_assign rfl) rfl ?_
  refine WL.nil ?_
  show W _ _ _ _ _ _
  refine W.seq ?_
  refine W.region ?_
  refine WL.val (Value.int .i64 n) _ (op_move rfl) rfl ?_
  refine WL.val (Value.int .i64 low) _ (op_move rfl) rfl ?_
  refine WL.val (Value.bool (decide (n ≥ low))) _ (op_geq rfl rfl) rfl ?_
  refine WL.val (Value.bool (decide (n ≥ low))) _ (op_move rfl) rfl ?_
  refine WL.cut 4 (fun fq wq => fq 14 = (Value.bool ((decide (n ≥ low)) && (decide (n ≤ high)))) ∧ St w wq []) ?_ ?_
  · rcases Bool.eq_false_or_eq_true (decide (n ≥ low)) with hc1 | hc1
    · refine WL.grun rfl (bool_of rfl hc1) ?_
      refine WL.val (Value.int .i64 n) _ (op_move rfl) rfl ?_
      refine WL.grun rfl (bool_of rfl hc1) ?_
      refine WL.val (Value.int .i64 high) _ (op_move rfl) rfl ?_
      refine WL.grun rfl (bool_of rfl hc1) ?_
      refine WL.val (Value.bool (decide (n ≤ high))) _ (op_leq rfl rfl) rfl ?_
      refine WL.val (Value.bool (decide (n ≤ high))) _ (op_pick_t (evb_of rfl hc1) rfl) rfl ?_
      refine WL.nil ?_
      exact ⟨rfl, (andT hc1), hS0⟩
    · refine WL.gskip rfl (bool_of rfl hc1) rfl ?_
      refine WL.gskip rfl (bool_of rfl hc1) rfl ?_
      refine WL.gskip rfl (bool_of rfl hc1) rfl ?_
      refine WL.val (Value.bool false) _ (op_pick_f (evb_of rfl hc1) rfl) rfl ?_
      refine WL.nil ?_
      exact ⟨rfl, (andF hc1), hS0⟩
  · intro f2 wd3 hq4
    obtain ⟨hf5, hS6⟩ := hq4
    refine WL.val (Value.bool ((decide (n ≥ low)) && (decide (n ≤ high)))) _ (op_assign hf5) rfl ?_
    refine WL.nil ?_
    show W _ _ _ _ _ _
    refine W.ret ?_
    obtain rfl := Option.some.inj h
    show FinP _ _ _ _ _ _ _
    exact FinP.ret _ (res1 rfl rfl) ⟨rfl, hS6.ext⟩

theorem c_impl_allWithin_c1 {w : World} {n : Int} {b_c0 : Nat} {c0 : Int} {b_c1 : Nat} {c1 : Int} (r_n : InR .i64 n) (k_c0 : BoxAt w b_c0 [(Value.int .i64 c0)]) (r_c0 : InR .i64 c0) (k_c1 : BoxAt w b_c1 [(Value.int .i64 c1)]) (r_c1 : InR .i64 c1) {res : Bool} (h : p_impl_allWithin_c1 n c0 c1 = some res) :
    Ret Try.prog 88 #[(Value.int .i64 n), (Value.pointer (some ⟨b_c0, 0, none⟩)), (Value.pointer (some ⟨b_c1, 0, none⟩))] w (fun v w' => v = Value.bool res ∧ Ext w w') := by
  unfold p_impl_allWithin_c1 at h
  have hS0 : St w w [] := St.start w
  refine Ret.start (fn := Try.f88) Try.func88 rfl 10 rfl rfl ?_
  refine W.seq ?_
  refine W.region ?_
  refine WL.val (Value.bool false) _ (op_assign rfl) rfl ?_
  refine WL.nil ?_
  show W _ _ _ _ _ _
  refine W.seq ?_
  refine W.region ?_
  refine WL.val (Value.int .i64 n) _ (op_move rfl) rfl ?_
  refine WL.val (Value.int .i64 c0) _ (op_load one_2 rfl (BoxAt.cell (BoxAt.lift hS0.ext k_c0) rfl)) rfl ?_
  refine WL.val (Value.int .i64 c1) _ (op_load one_2 rfl (BoxAt.cell (BoxAt.lift hS0.ext k_c1) rfl)) rfl ?_
  obtain ⟨x1, hx2, h⟩ := bs h
  refine WL.call _ (op_call fn_59 (args3 rfl rfl rfl)) (c_impl_within r_n r_c0 r_c1 hx2) rfl ?_
  rintro _ wd3 ⟨rfl, he4⟩
  have hS6 := St.extend hS0 he4
  replace hS6 : St w wd3 [] := hS6
  refine WL.val (Value.bool (!x1)) _ (op_not rfl) rfl ?_
  refine WL.val (Value.bool (!x1)) _ (op_assign rfl) rfl ?_
  refine WL.nil ?_
  show W _ _ _ _ _ _
  refine W.ret ?_
  obtain rfl := Option.some.inj h
  show FinP _ _ _ _ _ _ _
  exact FinP.ret _ (res1 rfl rfl) ⟨rfl, hS6.ext⟩

theorem c_slices_IndexFunc_Lint64_int64 {w : World} {s1 : (List Int)} {v_s1 : Value} {f1 : Int → Option Bool} {v_f1 : Value} (r_s1 : (Ty.sl (Ty.i .i64)).rep w v_s1 s1) (r_f1 : FnT_i_to_b Try.prog v_f1 w f1) {res : Int} (h : p_slices_IndexFunc_Lint64_int64 s1 f1  = some res) :
    Ret Try.prog 96 #[v_s1, v_f1] w (fun v w' => v = Value.int .i64 res ∧ InR .i64 res ∧ Ext w w') := by
  unfold p_slices_IndexFunc_Lint64_int64 at h
  have hS0 : St w w [] := St.start w
  have q_f1 := r_f1
  obtain ⟨g_f1, fst_f1, cap_f1, eq_f1, ok_f1, call_f1⟩ := q_f1
  subst eq_f1
  refine Ret.start (fn := Try.f96) Try.func96 rfl 19 rfl rfl ?_
  refine W.seq ?_
  refine W.region ?_
  refine WL.val (Value.int .i64 (0 : Int)) _ (op_assign rfl) rfl ?_
  refine WL.nil ?_
  show W _ _ _ _ _ _
  refine W.seq ?_
  refine W.seq ?_
  refine W.region ?_
  refine WL.val v_s1 _ (op_move rfl) rfl ?_
  have hr1 := inR_len (Ty.lift _ hS0.ext r_s1)
  refine WL.val (Value.int .i64 ((s1).length : Int)) _ (op_lenL sl_25 (Ty.lift _ hS0.ext r_s1) rfl) rfl ?_
  refine WL.val (Value.int .i64 (0 : Int)) _ (op_move rfl) rfl ?_
  refine WL.nil ?_
  show W _ _ _ _ _ _
  obtain ⟨res2, hres3, h⟩ := bs h
  refine W.blockLoop (fun fq wq => ∃ s, res2 = Res.fin s ∧ St w wq []) ?_ ?_
  · refine W.forN (fun k s fq wq => fq 0 = v_s1 ∧ fq 1 = (Value.func (.func g_f1) fst_f1 cap_f1) ∧ fq 7 = (Value.int .i64 ((s1).length : Int)) ∧ fq 8 = Value.int .i64 (k : Int) ∧ InR .i64 (k : Int) ∧ St w wq []) hres3 ⟨rfl, rfl, rfl, rfl, (inR_i64.2 (show (-9223372036854775808 : Int) ≤ 0 ∧ (0 : Int) ≤ 9223372036854775807 from by decide)), hS0⟩ ?_ ?_
    · intro k4 s36 ct5 f6 wd7 hk8 hb9 hI10 hbrk11 hret12
      obtain ⟨⟩ := s36
      replace hI10 : f6 0 = v_s1 ∧ f6 1 = (Value.func (.func g_f1) fst_f1 cap_f1) ∧ f6 7 = (Value.int .i64 ((s1).length : Int)) ∧ f6 8 = Value.int .i64 (k4 : Int) ∧ InR .i64 (k4 : Int) ∧ St w wd7 [] := hI10
      replace hb9 : p_slices_IndexFunc_Lint64_int64_L1 s1 f1 k4  = some ct5 := hb9
      unfold p_slices_IndexFunc_Lint64_int64_L1 at hb9
      obtain ⟨hf13, hf14, hf15, hf16, hr17, hS18⟩ := hI10
      refine W.seq ?_
      refine W.region ?_
      refine WL.val (Value.bool (decide ((k4 : Int) < ((s1).length : Int)))) _ (op_lss hf16 hf15) rfl ?_
      have hl19 : (k4 : Int) < ((s1).length : Int) := by omega
      refine WL.nil ?_
      show W _ _ _ _ _ _
      refine W.seq ?_
      refine W.condT (decide ((k4 : Int) < ((s1).length : Int))) rfl (decide_eq_true hl19) ?_
      refine W.skip ?_
      show W _ _ _ _ _ _
      refine W.seq ?_
      refine W.block ?_
      refine W.seq ?_
      refine W.region ?_
      refine WL.val (Value.int .i64 (k4 : Int)) _ (op_move hf16) rfl ?_
      refine WL.val (Value.int .i64 (k4 : Int)) _ (op_assign rfl) rfl ?_
      refine WL.nil ?_
      show W _ _ _ _ _ _
      refine W.seq ?_
      refine W.region ?_
      refine WL.val (Value.func (.func g_f1) fst_f1 cap_f1) _ (op_move hf14) rfl ?_
      refine WL.val v_s1 _ (op_move hf13) rfl ?_
      refine WL.val (Value.int .i64 (k4 : Int)) _ (op_move rfl) rfl ?_
      obtain ⟨x21, hx24, hb9⟩ := bs hb9
      obtain ⟨ha22, hb23, hx24⟩ := idx_some hx24
      refine WL.val (Value.pointer (some (elA v_s1 ((k4 : Int)).toNat))) _ (op_idx sl_25 (Ty.lift _ hS18.ext r_s1) rfl rfl ha22 hb23) rfl ?_
      obtain ⟨u25, hc26, hr27⟩ := repSl.el r_s1 hx24
      obtain ⟨rfl, hr27⟩ := hr27
      refine WL.val (Value.int .i64 x21) _ (op_load one_2 rfl (Ext.cell hS18.ext hc26)) rfl ?_
      obtain ⟨x28, hx29, hb9⟩ := bs hb9
      refine WL.call _ (op_callV rfl ok_f1 (args1 rfl)) (call_f1 wd7 x21 x28 hS18.ext hr27 hx29) rfl ?_
      rintro _ wd30 ⟨rfl, he31⟩
      have hS33 := St.extend hS18 he31
      refine WL.nil ?_
      show W _ _ _ _ _ _
      refine W.cond x28 rfl (fun hc34 => ?_) (fun hc34 => ?_)
      · replace hb9 := ip hb9 hc34
        refine W.seq ?_
        refine W.region ?_
        refine WL.val (Value.int .i64 (k4 : Int)) _ (op_move rfl) rfl ?_
        refine WL.val (Value.int .i64 (k4 : Int)) _ (op_assign rfl) rfl ?_
        refine WL.nil ?_
        show W _ _ _ _ _ _
        refine W.ret ?_
        obtain rfl := Option.some.inj hb9
        obtain rfl := hret12 _ rfl
        replace h := onRes_ret h
        obtain rfl := Option.some.inj h
        show FinP _ _ _ _ _ _ _
        exact FinP.ret _ (res1 rfl rfl) ⟨rfl, hr17, hS33.ext⟩
      · replace hb9 := inegb hb9 hc34
        refine W.skip ?_
        show W _ _ _ _ _ _
        refine W.region ?_
        refine WL.val (Value.int .i64 (w64 ((k4 : Int) + (1 : Int)))) _ (op_add hf16 rfl) rfl ?_
        refine WL.val (Value.int .i64 (w64 ((k4 : Int) + (1 : Int)))) _ (op_move rfl) rfl ?_
        refine WL.nil ?_
        obtain rfl := Option.some.inj hb9
        show ∃ s, _ = Ctl.next s ∧ _
        exact ⟨_, rfl, hf13, hf14, hf15, (ctr_next hl19 hr1), (ctr_rng hl19 hr1), hS33⟩
    · intro s41 f37 wd38 hs39 hI40
      obtain ⟨⟩ := s41
      replace hI40 : f37 0 = v_s1 ∧ f37 1 = (Value.func (.func g_f1) fst_f1 cap_f1) ∧ f37 7 = (Value.int .i64 ((s1).length : Int)) ∧ f37 8 = Value.int .i64 (((s1).length : Nat) : Int) ∧ InR .i64 (((s1).length : Nat) : Int) ∧ St w wd38 [] := hI40
      obtain ⟨hf42, hf43, hf44, hf45, hr46, hS47⟩ := hI40
      refine W.seq ?_
      refine W.region ?_
      refine WL.val (Value.bool (decide ((((s1).length : Nat) : Int) < ((s1).length : Int)))) _ (op_lss hf45 hf44) rfl ?_
      have hl48 : ¬ (((s1).length : Nat) : Int) < ((s1).length : Int) := by omega
      refine WL.nil ?_
      show W _ _ _ _ _ _
      refine W.seq ?_
      refine W.condF (decide ((((s1).length : Nat) : Int) < ((s1).length : Int))) rfl (decide_eq_false hl48) ?_
      refine W.exit ?_
      show _ = _ ∧ _
      exact ⟨rfl, _, hs39, hS47⟩
  · rintro f49 wd50 ⟨s52, rfl, hq51⟩
    replace h := onRes_fin h
    obtain ⟨⟩ := s52
    replace hq51 : St w wd50 [] := hq51
    have hS53 := hq51
    show W _ _ _ _ _ _
    refine W.seq ?_
    refine W.region ?_
    refine WL.val (Value.int .i64 (-1 : Int)) _ (op_assign rfl) rfl ?_
    refine WL.nil ?_
    show W _ _ _ _ _ _
    refine W.ret ?_
    obtain rfl := Option.some.inj h
    show FinP _ _ _ _ _ _ _
    exact FinP.ret _ (res1 rfl rfl) ⟨rfl, (inR_i64.2 (show (-9223372036854775808 : Int) ≤ -1 ∧ (-1 : Int) ≤ 9223372036854775807 from by decide)), hS53.ext⟩

theorem c_slices_ContainsFunc_Lint64_int64 {w : World} {s1 : (List Int)} {v_s1 : Value} {f1 : Int → Option Bool} {v_f1 : Value} (r_s1 : (Ty.sl (Ty.i .i64)).rep w v_s1 s1) (r_f1 : FnT_i_to_b Try.prog v_f1 w f1) {res : Bool} (h : p_slices_ContainsFunc_Lint64_int64 s1 f1  = some res) :
    Ret Try.prog 87 #[v_s1, v_f1] w (fun v w' => v = Value.bool res ∧ Ext w w') := by
  unfold p_slices_ContainsFunc_Lint64_int64 at h
  have hS0 : St w w [] := St.start w
  have q_f1 := r_f1
  obtain ⟨g_f1, fst_f1, cap_f1, eq_f1, ok_f1, call_f1⟩ := q_f1
  subst eq_f1
  refine Ret.start (fn := Try.f87) Try.func87 rfl 9 rfl rfl ?_
  refine W.seq ?_
  refine W.region ?_
  refine WL.val (Value.bool false) _ (op_assign rfl) rfl ?_
  refine WL.nil ?_
  show W _ _ _ _ _ _
  refine W.seq ?_
  refine W.region ?_
  refine WL.val v_s1 _ (op_move rfl) rfl ?_
  refine WL.val (Value.func (.func g_f1) fst_f1 cap_f1) _ (op_move rfl) rfl ?_
  obtain ⟨x1, hx2, h⟩ := bs h
  refine WL.call _ (op_call fn_96 (args2 rfl rfl)) (c_slices_IndexFunc_Lint64_int64 (Ty.lift _ hS0.ext r_s1) (FnT_i_to_b.lift hS0.ext r_f1) hx2) rfl ?_
  rintro _ wd4 ⟨rfl, hr3, he5⟩
  have hS7 := St.extend hS0 he5
  replace hS7 : St w wd4 [] := hS7
  refine WL.val (Value.bool (decide (x1 ≥ (0 : Int)))) _ (op_geq rfl rfl) rfl ?_
  refine WL.val (Value.bool (decide (x1 ≥ (0 : Int)))) _ (op_assign rfl) rfl ?_
  refine WL.nil ?_
  show W _ _ _ _ _ _
  refine W.ret ?_
  obtain rfl := Option.some.inj h
  show FinP _ _ _ _ _ _ _
  exact FinP.ret _ (res1 rfl rfl) ⟨rfl, hS7.ext⟩

theorem c_impl_allWithin {w : World} {list : (List Int)} {v_list : Value} {low : Int} {high : Int} (r_list : (Ty.sl (Ty.i .i64)).rep w v_list list) (r_low : InR .i64 low) (r_high : InR .i64 high) {res : Bool} (h : p_impl_allWithin list low high  = some res) :
    Ret Try.prog 68 #[v_list, (Value.int .i64 low), (Value.int .i64 high)] w (fun v w' => v = Value.bool res ∧ Ext w w') := by
  unfold p_impl_allWithin at h
  have hS0 : St w w [] := St.start w
  refine Ret.start (fn := Try.f68) Try.func68 rfl 11 rfl rfl ?_
  refine W.seq ?_
  refine W.region ?_
  refine WL.box hS0 rfl (cs := [(Value.int .i64 low)]) rfl rfl ?_
  intro b1 wd2 hS3 he4 hx5
  replace hS3 : St w wd2 [bx b1 [(Value.int .i64 low)]] := hS3
  have hx6 := St.boxAt hS3 0 rfl
  have hE7 : Ext w wd2 := hS3.ext
  have hS8 : St wd2 wd2 [] := St.start wd2
  refine WL.box hS8 rfl (cs := [(Value.int .i64 high)]) rfl rfl ?_
  intro b9 wd10 hS11 he12 hx13
  replace hS11 : St wd2 wd10 [bx b9 [(Value.int .i64 high)]] := hS11
  have hx14 := St.boxAt hS11 0 rfl
  have hE15 : Ext w wd10 := (Ext.trans hE7 hS11.ext)
  have hE16 : Ext wd2 wd10 := hS11.ext
  have hS17 : St wd10 wd10 [] := St.start wd10
  refine WL.val (Value.bool false) _ (op_assign rfl) rfl ?_
  refine WL.nil ?_
  show W _ _ _ _ _ _
  refine W.seq ?_
  refine W.region ?_
  refine WL.val v_list _ (op_move rfl) rfl ?_
  refine WL.val (Value.func (.func 88) #[] #[(Value.pointer (some ⟨b1, 0, none⟩)), (Value.pointer (some ⟨b9, 0, none⟩))]) _ (op_makeFunc (va := #[]) (vb := #[(Value.pointer (some ⟨b1, 0, none⟩)), (Value.pointer (some ⟨b9, 0, none⟩))]) args0 (args2 rfl rfl)) rfl ?_
  obtain ⟨x22, hx23, h⟩ := bs h
  refine WL.call _ (op_call fn_87 (args2 rfl rfl)) (c_slices_ContainsFunc_Lint64_int64 (Ty.lift _ (Ext.trans hE15 hS17.ext) r_list) (⟨88, #[], #[(Value.pointer (some ⟨b1, 0, none⟩)), (Value.pointer (some ⟨b9, 0, none⟩))], rfl, fn_88, fun wd18 a0_19 r20 he19 ra0_19 hq21 => c_impl_allWithin_c1 ra0_19 (BoxAt.lift (Ext.trans (Ext.trans hE16 hS17.ext) he19) hx6) r_low (BoxAt.lift (Ext.trans hS17.ext he19) hx14) r_high hq21⟩) hx23) rfl ?_
  rintro _ wd24 ⟨rfl, he25⟩
  have hS27 := St.extend hS17 he25
  replace hS27 : St wd10 wd24 [] := hS27
  refine WL.val (Value.bool (!x22)) _ (op_not rfl) rfl ?_
  refine WL.val (Value.bool (!x22)) _ (op_assign rfl) rfl ?_
  refine WL.nil ?_
  show W _ _ _ _ _ _
  refine W.ret ?_
  obtain rfl := Option.some.inj h
  show FinP _ _ _ _ _ _ _
  exact FinP.ret _ (res1 rfl rfl) ⟨rfl, (Ext.trans hE15 hS27.ext)⟩

theorem c_impl_isCube_c1 {w : World} {row : (List Int)} {v_row : Value} {b_c0 : Nat} {c0 : Int} (r_row : (Ty.sl (Ty.i .i64)).rep w v_row row) (k_c0 : BoxAt w b_c0 [(Value.int .i64 c0)]) (r_c0 : InR .i64 c0) {res : Bool} (h : p_impl_isCube_c1 row c0 = some res) :
    Ret Try.prog 82 #[v_row, (Value.pointer (some ⟨b_c0, 0, none⟩))] w (fun v w' => v = Value.bool res ∧ Ext w w') := by
  unfold p_impl_isCube_c1 at h
  have hS0 : St w w [] := St.start w
  refine Ret.start (fn := Try.f82) Try.func82 rfl 13 rfl rfl ?_
  refine W.seq ?_
  refine W.region ?_
  refine WL.val (Value.bool false) _ (op_assign rfl) rfl ?_
  refine WL.nil ?_
  show W _ _ _ _ _ _
  refine W.seq ?_
  refine W.region ?_
  refine WL.val v_row _ (op_move rfl) rfl ?_
  have hr1 := inR_len (Ty.lift _ hS0.ext r_row)
  refine WL.val (Value.int .i64 ((row).length : Int)) _ (op_lenL sl_25 (Ty.lift _ hS0.ext r_row) rfl) rfl ?_
  refine WL.val (Value.int .i64 c0) _ (op_load one_3 rfl (BoxAt.cell (BoxAt.lift hS0.ext k_c0) rfl)) rfl ?_
  refine WL.val (Value.bool (((row).length : Int) != c0)) _ (op_neq rfl rfl) rfl ?_
  refine WL.val (Value.bool (((row).length : Int) != c0)) _ (op_move rfl) rfl ?_
  obtain ⟨x3, hj4, h⟩ := bs h
  refine WL.cut 4 (fun fq wq => fq 12 = Value.bool x3 ∧ St w wq []) ?_ ?_
  · rcases Bool.eq_false_or_eq_true (((row).length : Int) != c0) with hc2 | hc2
    · replace hj4 := ip hj4 hc2
      refine WL.gskip rfl (bool_of rfl hc2) rfl ?_
      refine WL.gskip rfl (bool_of rfl hc2) rfl ?_
      refine WL.gskip rfl (bool_of rfl hc2) rfl ?_
      refine WL.val (Value.bool true) _ (op_pick_t (evb_of rfl hc2) rfl) rfl ?_
      refine WL.nil ?_
      obtain rfl := Option.some.inj hj4
      exact ⟨rfl, rfl, hS0⟩
    · replace hj4 := inegb hj4 hc2
      refine WL.grun rfl (bool_of rfl hc2) ?_
      refine WL.val v_row _ (op_move rfl) rfl ?_
      refine WL.grun rfl (bool_of rfl hc2) ?_
      obtain ⟨x8, hx9, hj4⟩ := bs hj4
      refine WL.call _ (op_call fn_68 (args3 rfl rfl rfl)) (c_impl_allWithin (Ty.lift _ hS0.ext r_row) (inR_i64.2 (show (-9223372036854775808 : Int) ≤ 0 ∧ (0 : Int) ≤ 9223372036854775807 from by decide)) (inR_i64.2 (show (-9223372036854775808 : Int) ≤ 1000 ∧ (1000 : Int) ≤ 9223372036854775807 from by decide)) hx9) rfl ?_
      rintro _ wd10 ⟨rfl, he11⟩
      have hS13 := St.extend hS0 he11
      replace hS13 : St w wd10 [] := hS13
      refine WL.grun rfl (bool_of rfl hc2) ?_
      refine WL.val (Value.bool (!x8)) _ (op_not rfl) rfl ?_
      refine WL.val (Value.bool (!x8)) _ (op_pick_f (evb_of rfl hc2) rfl) rfl ?_
      refine WL.nil ?_
      obtain rfl := Option.some.inj hj4
      exact ⟨rfl, rfl, hS13⟩
  · intro f5 wd6 hq7
    obtain ⟨hf14, hS15⟩ := hq7
    refine WL.val (Value.bool x3) _ (op_assign hf14) rfl ?_
    refine WL.nil ?_
    show W _ _ _ _ _ _
    refine W.ret ?_
    obtain rfl := Option.some.inj h
    show FinP _ _ _ _ _ _ _
    exact FinP.ret _ (res1 rfl rfl) ⟨rfl, hS15.ext⟩

theorem c_slices_IndexFunc_LLint64_Lint64 {w : World} {s1 : (List (List Int))} {v_s1 : Value} {f1 : (List Int) → Option Bool} {v_f1 : Value} (r_s1 : (Ty.sl (Ty.sl (Ty.i .i64))).rep w v_s1 s1) (r_f1 : FnT_li_to_b Try.prog v_f1 w f1) {res : Int} (h : p_slices_IndexFunc_LLint64_Lint64 s1 f1  = some res) :
    Ret Try.prog 93 #[v_s1, v_f1] w (fun v w' => v = Value.int .i64 res ∧ InR .i64 res ∧ Ext w w') := by
  unfold p_slices_IndexFunc_LLint64_Lint64 at h
  have hS0 : St w w [] := St.start w
  have q_f1 := r_f1
  obtain ⟨g_f1, fst_f1, cap_f1, eq_f1, ok_f1, call_f1⟩ := q_f1
  subst eq_f1
  refine Ret.start (fn := Try.f93) Try.func93 rfl 19 rfl rfl ?_
  refine W.seq ?_
  refine W.region ?_
  refine WL.val (Value.int .i64 (0 : Int)) _ (op_assign rfl) rfl ?_
  refine WL.nil ?_
  show W _ _ _ _ _ _
  refine W.seq ?_
  refine W.seq ?_
  refine W.region ?_
  refine WL.val v_s1 _ (op_move rfl) rfl ?_
  have hr1 := inR_len (Ty.lift _ hS0.ext r_s1)
  refine WL.val (Value.int .i64 ((s1).length : Int)) _ (op_lenL sl_61 (Ty.lift _ hS0.ext r_s1) rfl) rfl ?_
  refine WL.val (Value.int .i64 (0 : Int)) _ (op_move rfl) rfl ?_
  refine WL.nil ?_
  show W _ _ _ _ _ _
  obtain ⟨res2, hres3, h⟩ := bs h
  refine W.blockLoop (fun fq wq => ∃ s, res2 = Res.fin s ∧ St w wq []) ?_ ?_
  · refine W.forN (fun k s fq wq => fq 0 = v_s1 ∧ fq 1 = (Value.func (.func g_f1) fst_f1 cap_f1) ∧ fq 7 = (Value.int .i64 ((s1).length : Int)) ∧ fq 8 = Value.int .i64 (k : Int) ∧ InR .i64 (k : Int) ∧ St w wq []) hres3 ⟨rfl, rfl, rfl, rfl, (inR_i64.2 (show (-9223372036854775808 : Int) ≤ 0 ∧ (0 : Int) ≤ 9223372036854775807 from by decide)), hS0⟩ ?_ ?_
    · intro k4 s36 ct5 f6 wd7 hk8 hb9 hI10 hbrk11 hret12
      obtain ⟨⟩ := s36
      replace hI10 : f6 0 = v_s1 ∧ f6 1 = (Value.func (.func g_f1) fst_f1 cap_f1) ∧ f6 7 = (Value.int .i64 ((s1).length : Int)) ∧ f6 8 = Value.int .i64 (k4 : Int) ∧ InR .i64 (k4 : Int) ∧ St w wd7 [] := hI10
      replace hb9 : p_slices_IndexFunc_LLint64_Lint64_L1 s1 f1 k4  = some ct5 := hb9
      unfold p_slices_IndexFunc_LLint64_Lint64_L1 at hb9
      obtain ⟨hf13, hf14, hf15, hf16, hr17, hS18⟩ := hI10
      refine W.seq ?_
      refine W.region ?_
      refine WL.val (Value.bool (decide ((k4 : Int) < ((s1).length : Int)))) _ (op_lss hf16 hf15) rfl ?_
      have hl19 : (k4 : Int) < ((s1).length : Int) := by omega
      refine WL.nil ?_
      show W _ _ _ _ _ _
      refine W.seq ?_
      refine W.condT (decide ((k4 : Int) < ((s1).length : Int))) rfl (decide_eq_true hl19) ?_
      refine W.skip ?_
      show W _ _ _ _ _ _
      refine W.seq ?_
      refine W.block ?_
      refine W.seq ?_
      refine W.region ?_
      refine WL.val (Value.int .i64 (k4 : Int)) _ (op_move hf16) rfl ?_
      refine WL.val (Value.int .i64 (k4 : Int)) _ (op_assign rfl) rfl ?_
      refine WL.nil ?_
      show W _ _ _ _ _ _
      refine W.seq ?_
      refine W.region ?_
      refine WL.val (Value.func (.func g_f1) fst_f1 cap_f1) _ (op_move hf14) rfl ?_
      refine WL.val v_s1 _ (op_move hf13) rfl ?_
      refine WL.val (Value.int .i64 (k4 : Int)) _ (op_move rfl) rfl ?_
      obtain ⟨x21, hx24, hb9⟩ := bs hb9
      obtain ⟨ha22, hb23, hx24⟩ := idx_some hx24
      refine WL.val (Value.pointer (some (elA v_s1 ((k4 : Int)).toNat))) _ (op_idx sl_61 (Ty.lift _ hS18.ext r_s1) rfl rfl ha22 hb23) rfl ?_
      obtain ⟨u25, hc26, hr27⟩ := repSl.el r_s1 hx24
      refine WL.val u25 _ (op_load one_25 rfl (Ext.cell hS18.ext hc26)) rfl ?_
      obtain ⟨x28, hx29, hb9⟩ := bs hb9
      refine WL.call _ (op_callV rfl ok_f1 (args1 rfl)) (call_f1 wd7 u25 x21 x28 hS18.ext (Ty.lift _ hS18.ext hr27) hx29) rfl ?_
      rintro _ wd30 ⟨rfl, he31⟩
      have hS33 := St.extend hS18 he31
      refine WL.nil ?_
      show W _ _ _ _ _ _
      refine W.cond x28 rfl (fun hc34 => ?_) (fun hc34 => ?_)
      · replace hb9 := ip hb9 hc34
        refine W.seq ?_
        refine W.region ?_
        refine WL.val (Value.int .i64 (k4 : Int)) _ (op_move rfl) rfl ?_
        refine WL.val (Value.int .i64 (k4 : Int)) _ (op_assign rfl) rfl ?_
        refine WL.nil ?_
        show W _ _ _ _ _ _
        refine W.ret ?_
        obtain rfl := Option.some.inj hb9
        obtain rfl := hret12 _ rfl
        replace h := onRes_ret h
        obtain rfl := Option.some.inj h
        show FinP _ _ _ _ _ _ _
        exact FinP.ret _ (res1 rfl rfl) ⟨rfl, hr17, hS33.ext⟩
      · replace hb9 := inegb hb9 hc34
        refine W.skip ?_
        show W _ _ _ _ _ _
        refine W.region ?_
        refine WL.val (Value.int .i64 (w64 ((k4 : Int) + (1 : Int)))) _ (op_add hf16 rfl) rfl ?_
        refine WL.val (Value.int .i64 (w64 ((k4 : Int) + (1 : Int)))) _ (op_move rfl) rfl ?_
        refine WL.nil ?_
        obtain rfl := Option.some.inj hb9
        show ∃ s, _ = Ctl.next s ∧ _
        exact ⟨_, rfl, hf13, hf14, hf15, (ctr_next hl19 hr1), (ctr_rng hl19 hr1), hS33⟩
    · intro s41 f37 wd38 hs39 hI40
      obtain ⟨⟩ := s41
      replace hI40 : f37 0 = v_s1 ∧ f37 1 = (Value.func (.func g_f1) fst_f1 cap_f1) ∧ f37 7 = (Value.int .i64 ((s1).length : Int)) ∧ f37 8 = Value.int .i64 (((s1).length : Nat) : Int) ∧ InR .i64 (((s1).length : Nat) : Int) ∧ St w wd38 [] := hI40
      obtain ⟨hf42, hf43, hf44, hf45, hr46, hS47⟩ := hI40
      refine W.seq ?_
      refine W.region ?_
      refine WL.val (Value.bool (decide ((((s1).length : Nat) : Int) < ((s1).length : Int)))) _ (op_lss hf45 hf44) rfl ?_
      have hl48 : ¬ (((s1).length : Nat) : Int) < ((s1).length : Int) := by omega
      refine WL.nil ?_
      show W _ _ _ _ _ _
      refine W.seq ?_
      refine W.condF (decide ((((s1).length : Nat) : Int) < ((s1).length : Int))) rfl (decide_eq_false hl48) ?_
      refine W.exit ?_
      show _ = _ ∧ _
      exact ⟨rfl, _, hs39, hS47⟩
  · rintro f49 wd50 ⟨s52, rfl, hq51⟩
    replace h := onRes_fin h
    obtain ⟨⟩ := s52
    replace hq51 : St w wd50 [] := hq51
    have hS53 := hq51
    show W _ _ _ _ _ _
    refine W.seq ?_
    refine W.region ?_
    refine WL.val (Value.int .i64 (-1 : Int)) _ (op_assign rfl) rfl ?_
    refine WL.nil ?_
    show W _ _ _ _ _ _
    refine W.ret ?_
    obtain rfl := Option.some.inj h
    show FinP _ _ _ _ _ _ _
    exact FinP.ret _ (res1 rfl rfl) ⟨rfl, (inR_i64.2 (show (-9223372036854775808 : Int) ≤ -1 ∧ (-1 : Int) ≤ 9223372036854775807 from by decide)), hS53.ext⟩

theorem c_slices_ContainsFunc_LLint64_Lint64 {w : World} {s1 : (List (List Int))} {v_s1 : Value} {f1 : (List Int) → Option Bool} {v_f1 : Value} (r_s1 : (Ty.sl (Ty.sl (Ty.i .i64))).rep w v_s1 s1) (r_f1 : FnT_li_to_b Try.prog v_f1 w f1) {res : Bool} (h : p_slices_ContainsFunc_LLint64_Lint64 s1 f1  = some res) :
    Ret Try.prog 81 #[v_s1, v_f1] w (fun v w' => v = Value.bool res ∧ Ext w w') := by
  unfold p_slices_ContainsFunc_LLint64_Lint64 at h
  have hS0 : St w w [] := St.start w
  have q_f1 := r_f1
  obtain ⟨g_f1, fst_f1, cap_f1, eq_f1, ok_f1, call_f1⟩ := q_f1
  subst eq_f1
  refine Ret.start (fn := Try.f81) Try.func81 rfl 9 rfl rfl ?_
  refine W.seq ?_
  refine W.region ?_
  refine WL.val (Value.bool false) _ (op_assign rfl) rfl ?_
  refine WL.nil ?_
  show W _ _ _ _ _ _
  refine W.seq ?_
  refine W.region ?_
  refine WL.val v_s1 _ (op_move rfl) rfl ?_
  refine WL.val (Value.func (.func g_f1) fst_f1 cap_f1) _ (op_move rfl) rfl ?_
  obtain ⟨x1, hx2, h⟩ := bs h
  refine WL.call _ (op_call fn_93 (args2 rfl rfl)) (c_slices_IndexFunc_LLint64_Lint64 (Ty.lift _ hS0.ext r_s1) (FnT_li_to_b.lift hS0.ext r_f1) hx2) rfl ?_
  rintro _ wd4 ⟨rfl, hr3, he5⟩
  have hS7 := St.extend hS0 he5
  replace hS7 : St w wd4 [] := hS7
  refine WL.val (Value.bool (decide (x1 ≥ (0 : Int)))) _ (op_geq rfl rfl) rfl ?_
  refine WL.val (Value.bool (decide (x1 ≥ (0 : Int)))) _ (op_assign rfl) rfl ?_
  refine WL.nil ?_
  show W _ _ _ _ _ _
  refine W.ret ?_
  obtain rfl := Option.some.inj h
  show FinP _ _ _ _ _ _ _
  exact FinP.ret _ (res1 rfl rfl) ⟨rfl, hS7.ext⟩

theorem c_impl_isCube {w : World} {r_Table : (List (List (List Int)))} {v_r_Table : Value} (r_r_Table : (Ty.sl (Ty.sl (Ty.sl (Ty.i .i64)))).rep w v_r_Table r_Table) {res : Bool} (h : p_impl_isCube r_Table  = some res) :
    Ret Try.prog 66 #[(Value.agg #[v_r_Table])] w (fun v w' => v = Value.bool res ∧ Ext w w') := by
  unfold p_impl_isCube at h
  have hS0 : St w w [] := St.start w
  refine Ret.start (fn := Try.f66) Try.func66 rfl 32 rfl rfl ?_
  refine W.seq ?_
  refine W.region ?_
  refine WL.box hS0 rfl (cs := [v_r_Table]) rfl rfl ?_
  intro b1 wd2 hS3 he4 hx5
  replace hS3 : St w wd2 [bx b1 [v_r_Table]] := hS3
  have hx6 := St.boxAt hS3 0 rfl
  have hE7 : Ext w wd2 := hS3.ext
  have hS8 : St wd2 wd2 [] := St.start wd2
  refine WL.val (Value.bool false) _ (op_assign rfl) rfl ?_
  refine WL.nil ?_
  show W _ _ _ _ _ _
  refine W.seq ?_
  refine W.region ?_
  refine WL.val (Value.pointer (some ⟨b1, 0, none⟩)) _ (op_fieldAddr fd_29_0 rfl) rfl ?_
  refine WL.val v_r_Table _ (op_load one_22 rfl (BoxAt.cell (BoxAt.lift hS8.ext hx6) rfl)) rfl ?_
  have hr9 := inR_len (Ty.lift _ (Ext.trans hE7 hS8.ext) r_r_Table)
  refine WL.val (Value.int .i64 ((r_Table).length : Int)) _ (op_lenL sl_22 (Ty.lift _ (Ext.trans hE7 hS8.ext) r_r_Table) rfl) rfl ?_
  refine WL.alloc hS8 ze_3 (cs := [(Value.int .i64 (0 : Int))]) rfl rfl ?_
  intro b10 wd11 hS12 he13
  replace hS12 : St wd2 wd11 [bx b10 [(Value.int .i64 (0 : Int))]] := hS12
  refine WL.storeBox [(Value.int .i64 ((r_Table).length : Int))] hS12 (k := 0) rfl rfl rfl (us := [(Value.int .i64 ((r_Table).length : Int))]) rfl sz_3 rfl rfl (all_cons rfl all_nil) rfl ?_
  intro wd14 hS15
  replace hS15 : St wd2 wd14 [bx b10 [(Value.int .i64 ((r_Table).length : Int))]] := hS15
  refine WL.nil ?_
  show W _ _ _ _ _ _
  refine W.seq ?_
  refine W.seq ?_
  refine W.region ?_
  refine WL.val (Value.pointer (some ⟨b1, 0, none⟩)) _ (op_fieldAddr fd_29_0 rfl) rfl ?_
  refine WL.val v_r_Table _ (op_load one_22 rfl (BoxAt.cell (BoxAt.lift hS15.ext hx6) rfl)) rfl ?_
  have hr16 := inR_len (Ty.lift _ (Ext.trans hE7 hS15.ext) r_r_Table)
  refine WL.val (Value.int .i64 ((r_Table).length : Int)) _ (op_lenL sl_22 (Ty.lift _ (Ext.trans hE7 hS15.ext) r_r_Table) rfl) rfl ?_
  refine WL.val (Value.int .i64 (0 : Int)) _ (op_move rfl) rfl ?_
  refine WL.nil ?_
  show W _ _ _ _ _ _
  obtain ⟨res17, hres18, h⟩ := bs h
  refine W.blockLoop (fun fq wq => ∃ s, res17 = Res.fin s ∧ fq 3 = (Value.pointer (some ⟨b10, 0, none⟩)) ∧ St wd2 wq [bx b10 [(Value.int .i64 ((r_Table).length : Int))]]) ?_ ?_
  · refine W.forN (fun k s fq wq => fq 3 = (Value.pointer (some ⟨b10, 0, none⟩)) ∧ fq 10 = v_r_Table ∧ fq 11 = (Value.int .i64 ((r_Table).length : Int)) ∧ fq 12 = Value.int .i64 (k : Int) ∧ InR .i64 (k : Int) ∧ St wd2 wq [bx b10 [(Value.int .i64 ((r_Table).length : Int))]]) hres18 ⟨rfl, rfl, rfl, rfl, (inR_i64.2 (show (-9223372036854775808 : Int) ≤ 0 ∧ (0 : Int) ≤ 9223372036854775807 from by decide)), hS15⟩ ?_ ?_
    · intro k19 s68 ct20 f21 wd22 hk23 hb24 hI25 hbrk26 hret27
      obtain ⟨⟩ := s68
      replace hI25 : f21 3 = (Value.pointer (some ⟨b10, 0, none⟩)) ∧ f21 10 = v_r_Table ∧ f21 11 = (Value.int .i64 ((r_Table).length : Int)) ∧ f21 12 = Value.int .i64 (k19 : Int) ∧ InR .i64 (k19 : Int) ∧ St wd2 wd22 [bx b10 [(Value.int .i64 ((r_Table).length : Int))]] := hI25
      replace hb24 : p_impl_isCube_L1 r_Table k19  = some ct20 := hb24
      unfold p_impl_isCube_L1 at hb24
      obtain ⟨hf28, hf29, hf30, hf31, hr32, hS33⟩ := hI25
      refine W.seq ?_
      refine W.region ?_
      refine WL.val (Value.bool (decide ((k19 : Int) < ((r_Table).length : Int)))) _ (op_lss hf31 hf30) rfl ?_
      have hl34 : (k19 : Int) < ((r_Table).length : Int) := by omega
      refine WL.nil ?_
      show W _ _ _ _ _ _
      refine W.seq ?_
      refine W.condT (decide ((k19 : Int) < ((r_Table).length : Int))) rfl (decide_eq_true hl34) ?_
      refine W.skip ?_
      show W _ _ _ _ _ _
      refine W.seq ?_
      refine W.block ?_
      refine W.seq ?_
      refine W.region ?_
      obtain ⟨x36, hx39, hb24⟩ := bs hb24
      obtain ⟨ha37, hb38, hx39⟩ := idx_some hx39
      refine WL.val (Value.pointer (some (elA v_r_Table ((k19 : Int)).toNat))) _ (op_idx sl_22 (Ty.lift _ (Ext.trans hE7 hS33.ext) r_r_Table) hf29 hf31 ha37 hb38) rfl ?_
      obtain ⟨u40, hc41, hr42⟩ := repSl.el r_r_Table hx39
      refine WL.val u40 _ (op_load one_61 rfl (Ext.cell (Ext.trans hE7 hS33.ext) hc41)) rfl ?_
      refine WL.val u40 _ (op_assign rfl) rfl ?_
      refine WL.nil ?_
      show W _ _ _ _ _ _
      refine W.seq ?_
      refine W.region ?_
      refine WL.val u40 _ (op_move rfl) rfl ?_
      have hr43 := inR_len (Ty.lift _ (Ext.trans hE7 hS33.ext) hr42)
      refine WL.val (Value.int .i64 ((x36).length : Int)) _ (op_lenL sl_61 (Ty.lift _ (Ext.trans hE7 hS33.ext) hr42) rfl) rfl ?_
      refine WL.val (Value.int .i64 ((r_Table).length : Int)) _ (op_load one_3 hf28 (BoxAt.cell (St.boxAt hS33 0 rfl) rfl)) rfl ?_
      refine WL.val (Value.bool (((x36).length : Int) != ((r_Table).length : Int))) _ (op_neq rfl rfl) rfl ?_
      refine WL.val (Value.bool (((x36).length : Int) != ((r_Table).length : Int))) _ (op_move rfl) rfl ?_
      obtain ⟨x45, hj46, hb24⟩ := bs hb24
      refine WL.cut 4 (fun fq wq => fq 3 = (Value.pointer (some ⟨b10, 0, none⟩)) ∧ fq 10 = v_r_Table ∧ fq 11 = (Value.int .i64 ((r_Table).length : Int)) ∧ fq 12 = (Value.int .i64 (k19 : Int)) ∧ fq 24 = Value.bool x45 ∧ St wd2 wq [bx b10 [(Value.int .i64 ((r_Table).length : Int))]]) ?_ ?_
      · rcases Bool.eq_false_or_eq_true (((x36).length : Int) != ((r_Table).length : Int)) with hc44 | hc44
        · replace hj46 := ip hj46 hc44
          refine WL.gskip rfl (bool_of rfl hc44) rfl ?_
          refine WL.gskip rfl (bool_of rfl hc44) rfl ?_
          refine WL.gskip rfl (bool_of rfl hc44) rfl ?_
          refine WL.val (Value.bool true) _ (op_pick_t (evb_of rfl hc44) rfl) rfl ?_
          refine WL.nil ?_
          obtain rfl := Option.some.inj hj46
          exact ⟨rfl, hf28, hf29, hf30, hf31, rfl, hS33⟩
        · replace hj46 := inegb hj46 hc44
          refine WL.grun rfl (bool_of rfl hc44) ?_
          refine WL.val u40 _ (op_move rfl) rfl ?_
          refine WL.grun rfl (bool_of rfl hc44) ?_
          refine WL.val (Value.func (.func 82) #[] #[(Value.pointer (some ⟨b10, 0, none⟩))]) _ (op_makeFunc (va := #[]) (vb := #[(Value.pointer (some ⟨b10, 0, none⟩))]) args0 (args1 hf28)) rfl ?_
          refine WL.grun rfl (bool_of rfl hc44) ?_
          obtain ⟨x54, hx55, hj46⟩ := bs hj46
          refine WL.call _ (op_call fn_81 (args2 rfl rfl)) (c_slices_ContainsFunc_LLint64_Lint64 (Ty.lift _ (Ext.trans hE7 hS33.ext) hr42) (⟨82, #[], #[(Value.pointer (some ⟨b10, 0, none⟩))], rfl, fn_82, fun wd50 u0_51 a0_51 r52 he51 ra0_51 hq53 => c_impl_isCube_c1 ra0_51 (BoxAt.lift he51 (St.boxAt hS33 0 rfl)) hr9 hq53⟩) hx55) rfl ?_
          rintro _ wd56 ⟨rfl, he57⟩
          have hS59 := St.extend hS33 he57
          replace hS59 : St wd2 wd56 [bx b10 [(Value.int .i64 ((r_Table).length : Int))]] := hS59
          refine WL.val (Value.bool x54) _ (op_pick_f (evb_of rfl hc44) rfl) rfl ?_
          refine WL.nil ?_
          obtain rfl := Option.some.inj hj46
          exact ⟨rfl, hf28, hf29, hf30, hf31, rfl, hS59⟩
      · intro f47 wd48 hq49
        obtain ⟨hf60, hf61, hf62, hf63, hf64, hS65⟩ := hq49
        refine WL.nil ?_
        show W _ _ _ _ _ _
        refine W.cond x45 hf64 (fun hc66 => ?_) (fun hc66 => ?_)
        · replace hb24 := ip hb24 hc66
          refine W.seq ?_
          refine W.region ?_
          refine WL.val (Value.bool false) _ (op_assign rfl) rfl ?_
          refine WL.nil ?_
          show W _ _ _ _ _ _
          refine W.ret ?_
          obtain rfl := Option.some.inj hb24
          obtain rfl := hret27 _ rfl
          replace h := onRes_ret h
          obtain rfl := Option.some.inj h
          show FinP _ _ _ _ _ _ _
          exact FinP.ret _ (res1 rfl rfl) ⟨rfl, (Ext.trans hE7 hS65.ext)⟩
        · replace hb24 := inegb hb24 hc66
          refine W.skip ?_
          show W _ _ _ _ _ _
          refine W.region ?_
          refine WL.val (Value.int .i64 (w64 ((k19 : Int) + (1 : Int)))) _ (op_add hf63 rfl) rfl ?_
          refine WL.val (Value.int .i64 (w64 ((k19 : Int) + (1 : Int)))) _ (op_move rfl) rfl ?_
          refine WL.nil ?_
          obtain rfl := Option.some.inj hb24
          show ∃ s, _ = Ctl.next s ∧ _
          exact ⟨_, rfl, hf60, hf61, hf62, (ctr_next hl34 hr16), (ctr_rng hl34 hr16), hS65⟩
    · intro s73 f69 wd70 hs71 hI72
      obtain ⟨⟩ := s73
      replace hI72 : f69 3 = (Value.pointer (some ⟨b10, 0, none⟩)) ∧ f69 10 = v_r_Table ∧ f69 11 = (Value.int .i64 ((r_Table).length : Int)) ∧ f69 12 = Value.int .i64 (((r_Table).length : Nat) : Int) ∧ InR .i64 (((r_Table).length : Nat) : Int) ∧ St wd2 wd70 [bx b10 [(Value.int .i64 ((r_Table).length : Int))]] := hI72
      obtain ⟨hf74, hf75, hf76, hf77, hr78, hS79⟩ := hI72
      refine W.seq ?_
      refine W.region ?_
      refine WL.val (Value.bool (decide ((((r_Table).length : Nat) : Int) < ((r_Table).length : Int)))) _ (op_lss hf77 hf76) rfl ?_
      have hl80 : ¬ (((r_Table).length : Nat) : Int) < ((r_Table).length : Int) := by omega
      refine WL.nil ?_
      show W _ _ _ _ _ _
      refine W.seq ?_
      refine W.condF (decide ((((r_Table).length : Nat) : Int) < ((r_Table).length : Int))) rfl (decide_eq_false hl80) ?_
      refine W.exit ?_
      show _ = _ ∧ _
      exact ⟨rfl, _, hs71, hf74, hS79⟩
  · rintro f81 wd82 ⟨s84, rfl, hq83⟩
    replace h := onRes_fin h
    obtain ⟨⟩ := s84
    replace hq83 : f81 3 = (Value.pointer (some ⟨b10, 0, none⟩)) ∧ St wd2 wd82 [bx b10 [(Value.int .i64 ((r_Table).length : Int))]] := hq83
    obtain ⟨hf85, hS86⟩ := hq83
    show W _ _ _ _ _ _
    refine W.seq ?_
    refine W.region ?_
    refine WL.val (Value.int .i64 ((r_Table).length : Int)) _ (op_load one_3 hf85 (BoxAt.cell (St.boxAt hS86 0 rfl) rfl)) rfl ?_
    refine WL.val (Value.bool (decide (((r_Table).length : Int) ≥ (1 : Int)))) _ (op_geq rfl rfl) rfl ?_
    refine WL.val (Value.bool (decide (((r_Table).length : Int) ≥ (1 : Int)))) _ (op_move rfl) rfl ?_
    refine WL.cut 3 (fun fq wq => fq 31 = (Value.bool ((decide (((r_Table).length : Int) ≥ (1 : Int))) && (decide (((r_Table).length : Int) ≤ (16 : Int))))) ∧ St wd2 wq []) ?_ ?_
    · rcases Bool.eq_false_or_eq_true (decide (((r_Table).length : Int) ≥ (1 : Int))) with hc87 | hc87
      · refine WL.grun rfl (bool_of rfl hc87) ?_
        refine WL.val (Value.int .i64 ((r_Table).length : Int)) _ (op_load one_3 hf85 (BoxAt.cell (St.boxAt hS86 0 rfl) rfl)) rfl ?_
        refine WL.grun rfl (bool_of rfl hc87) ?_
        refine WL.val (Value.bool (decide (((r_Table).length : Int) ≤ (16 : Int)))) _ (op_leq rfl rfl) rfl ?_
        refine WL.val (Value.bool (decide (((r_Table).length : Int) ≤ (16 : Int)))) _ (op_pick_t (evb_of rfl hc87) rfl) rfl ?_
        refine WL.nil ?_
        exact ⟨rfl, (andT hc87), (St.pick hS86 [] rfl)⟩
      · refine WL.gskip rfl (bool_of rfl hc87) rfl ?_
        refine WL.gskip rfl (bool_of rfl hc87) rfl ?_
        refine WL.val (Value.bool false) _ (op_pick_f (evb_of rfl hc87) rfl) rfl ?_
        refine WL.nil ?_
        exact ⟨rfl, (andF hc87), (St.pick hS86 [] rfl)⟩
    · intro f88 wd89 hq90
      obtain ⟨hf91, hS92⟩ := hq90
      refine WL.val (Value.bool ((decide (((r_Table).length : Int) ≥ (1 : Int))) && (decide (((r_Table).length : Int) ≤ (16 : Int))))) _ (op_assign hf91) rfl ?_
      refine WL.nil ?_
      show W _ _ _ _ _ _
      refine W.ret ?_
      obtain rfl := Option.some.inj h
      show FinP _ _ _ _ _ _ _
      exact FinP.ret _ (res1 rfl rfl) ⟨rfl, (Ext.trans hE7 hS92.ext)⟩

theorem c_impl_delta {w : World} {i : Int} {k1 : Int} (r_i : InR .i64 i) (r_k1 : InR .i64 k1) {res : Int} (h : p_impl_delta i k1  = some res) :
    Ret Try.prog 94 #[(Value.int .i64 i), (Value.int .i64 k1)] w (fun v w' => v = Value.int .i64 res ∧ InR .i64 res ∧ Ext w w') := by
  unfold p_impl_delta at h
  have hS0 : St w w [] := St.start w
  refine Ret.start (fn := Try.f94) Try.func94 rfl 8 rfl rfl ?_
  refine W.seq ?_
  refine W.region ?_
  refine WL.val (Value.int .i64 (0 : Int)) _ (op_assign rfl) rfl ?_
  refine WL.nil ?_
  show W _ _ _ _ _ _
  refine W.seq ?_
  refine W.seq ?_
  refine W.region ?_
  refine WL.val (Value.int .i64 i) _ (op_move rfl) rfl ?_
  refine WL.val (Value.int .i64 k1) _ (op_move rfl) rfl ?_
  refine WL.val (Value.bool (i == k1)) _ (op_eql rfl rfl) rfl ?_
  refine WL.nil ?_
  show W _ _ _ _ _ _
  refine W.cond (i == k1) rfl (fun hc1 => ?_) (fun hc1 => ?_)
  · replace h := ip h hc1
    refine W.seq ?_
    refine W.region ?_
    refine WL.val (Value.int .i64 (1 : Int)) _ (op_assign rfl) rfl ?_
    refine WL.nil ?_
    show W _ _ _ _ _ _
    refine W.ret ?_
    obtain rfl := Option.some.inj h
    show FinP _ _ _ _ _ _ _
    exact FinP.ret _ (res1 rfl rfl) ⟨rfl, (inR_i64.2 (show (-9223372036854775808 : Int) ≤ 1 ∧ (1 : Int) ≤ 9223372036854775807 from by decide)), hS0.ext⟩
  · replace h := inegb h hc1
    refine W.skip ?_
    show W _ _ _ _ _ _
    refine W.seq ?_
    refine W.region ?_
    refine WL.val (Value.int .i64 (0 : Int)) _ (op_assign rfl) rfl ?_
    refine WL.nil ?_
    show W _ _ _ _ _ _
    refine W.ret ?_
    obtain rfl := Option.some.inj h
    show FinP _ _ _ _ _ _ _
    exact FinP.ret _ (res1 rfl rfl) ⟨rfl, (inR_i64.2 (show (-9223372036854775808 : Int) ≤ 0 ∧ (0 : Int) ≤ 9223372036854775807 from by decide)), hS0.ext⟩

theorem c_impl_Ring_unitFault {w : World} {r_Table : (List (List (List Int)))} {v_r_Table : Value} (r_r_Table : (Ty.sl (Ty.sl (Ty.sl (Ty.i .i64)))).rep w v_r_Table r_Table) {res : (List Int)} (h : p_impl_Ring_unitFault r_Table  = some res) :
    Ret Try.prog 83 #[(Value.agg #[v_r_Table])] w (fun v w' => ∃ (u0 : Value), v = u0 ∧ NilIff u0 res ∧ Ext w w' ∧ Sep w.heap.size w' [(Ty.sl (Ty.i .i64)).at u0 res]) := by
  unfold p_impl_Ring_unitFault at h
  have hS0 : St w w [] := St.start w
  refine Ret.start (fn := Try.f83) Try.func83 rfl 52 rfl rfl ?_
  refine W.seq ?_
  refine W.region ?_
  refine WL.box hS0 rfl (cs := [v_r_Table]) rfl rfl ?_
  intro b1 wd2 hS3 he4 hx5
  replace hS3 : St w wd2 [bx b1 [v_r_Table]] := hS3
  have hx6 := St.boxAt hS3 0 rfl
  have hE7 : Ext w wd2 := hS3.ext
  have hS8 : St wd2 wd2 [] := St.start wd2
  refine WL.val (Value.slice none 0 0) _ (op_assign rfl) rfl ?_
  refine WL.nil ?_
  show W _ _ _ _ _ _
  refine W.seq ?_
  refine W.seq ?_
  refine W.region ?_
  refine WL.val (Value.pointer (some ⟨b1, 0, none⟩)) _ (op_fieldAddr fd_29_0 rfl) rfl ?_
  refine WL.val v_r_Table _ (op_load one_22 rfl (BoxAt.cell (BoxAt.lift hS8.ext hx6) rfl)) rfl ?_
  have hr9 := inR_len (Ty.lift _ (Ext.trans hE7 hS8.ext) r_r_Table)
  refine WL.val (Value.int .i64 ((r_Table).length : Int)) _ (op_lenL sl_22 (Ty.lift _ (Ext.trans hE7 hS8.ext) r_r_Table) rfl) rfl ?_
  refine WL.val (Value.int .i64 (0 : Int)) _ (op_move rfl) rfl ?_
  refine WL.nil ?_
  show W _ _ _ _ _ _
  obtain ⟨res10, hres11, h⟩ := bs h
  refine W.blockLoop (fun fq wq => ∃ s, res10 = Res.fin s ∧ St wd2 wq []) ?_ ?_
  · refine W.forN (fun k s fq wq => fq 1 = (Value.pointer (some ⟨b1, 0, none⟩)) ∧ fq 7 = (Value.int .i64 ((r_Table).length : Int)) ∧ fq 8 = Value.int .i64 (k : Int) ∧ InR .i64 (k : Int) ∧ St wd2 wq []) hres11 ⟨rfl, rfl, rfl, (inR_i64.2 (show (-9223372036854775808 : Int) ≤ 0 ∧ (0 : Int) ≤ 9223372036854775807 from by decide)), hS8⟩ ?_ ?_
    · intro k12 s513 ct13 f14 wd15 hk16 hb17 hI18 hbrk19 hret20
      obtain ⟨⟩ := s513
      replace hI18 : f14 1 = (Value.pointer (some ⟨b1, 0, none⟩)) ∧ f14 7 = (Value.int .i64 ((r_Table).length : Int)) ∧ f14 8 = Value.int .i64 (k12 : Int) ∧ InR .i64 (k12 : Int) ∧ St wd2 wd15 [] := hI18
      replace hb17 : p_impl_Ring_unitFault_L1 r_Table k12  = some ct13 := hb17
      unfold p_impl_Ring_unitFault_L1 at hb17
      obtain ⟨hf21, hf22, hf23, hr24, hS25⟩ := hI18
      refine W.seq ?_
      refine W.region ?_
      refine WL.val (Value.bool (decide ((k12 : Int) < ((r_Table).length : Int)))) _ (op_lss hf23 hf22) rfl ?_
      have hl26 : (k12 : Int) < ((r_Table).length : Int) := by omega
      refine WL.nil ?_
      show W _ _ _ _ _ _
      refine W.seq ?_
      refine W.condT (decide ((k12 : Int) < ((r_Table).length : Int))) rfl (decide_eq_true hl26) ?_
      refine W.skip ?_
      show W _ _ _ _ _ _
      refine W.seq ?_
      refine W.block ?_
      refine W.seq ?_
      refine W.region ?_
      refine WL.val (Value.int .i64 (k12 : Int)) _ (op_move hf23) rfl ?_
      refine WL.val (Value.int .i64 (k12 : Int)) _ (op_assign rfl) rfl ?_
      refine WL.nil ?_
      show W _ _ _ _ _ _
      refine W.seq ?_
      refine W.region ?_
      refine WL.val (Value.pointer (some ⟨b1, 0, none⟩)) _ (op_fieldAddr fd_29_0 hf21) rfl ?_
      refine WL.val v_r_Table _ (op_load one_22 rfl (BoxAt.cell (BoxAt.lift hS25.ext hx6) rfl)) rfl ?_
      have hr28 := inR_len (Ty.lift _ (Ext.trans hE7 hS25.ext) r_r_Table)
      refine WL.val (Value.int .i64 ((r_Table).length : Int)) _ (op_lenL sl_22 (Ty.lift _ (Ext.trans hE7 hS25.ext) r_r_Table) rfl) rfl ?_
      refine WL.val (Value.int .i64 (0 : Int)) _ (op_move rfl) rfl ?_
      refine WL.nil ?_
      show W _ _ _ _ _ _
      obtain ⟨res29, hres30, hb17⟩ := bs hb17
      refine W.blockLoop (fun fq wq => ∃ s, res29 = Res.fin s ∧ fq 1 = (Value.pointer (some ⟨b1, 0, none⟩)) ∧ fq 7 = (Value.int .i64 ((r_Table).length : Int)) ∧ fq 8 = (Value.int .i64 (k12 : Int)) ∧ St wd2 wq []) ?_ ?_
      · refine W.forN (fun k s fq wq => fq 1 = (Value.pointer (some ⟨b1, 0, none⟩)) ∧ fq 3 = (Value.int .i64 (k12 : Int)) ∧ fq 7 = (Value.int .i64 ((r_Table).length : Int)) ∧ fq 8 = (Value.int .i64 (k12 : Int)) ∧ fq 13 = (Value.int .i64 ((r_Table).length : Int)) ∧ fq 14 = Value.int .i64 (k : Int) ∧ InR .i64 (k : Int) ∧ St wd2 wq []) hres30 ⟨hf21, rfl, hf22, hf23, rfl, rfl, (inR_i64.2 (show (-9223372036854775808 : Int) ≤ 0 ∧ (0 : Int) ≤ 9223372036854775807 from by decide)), hS25⟩ ?_ ?_
        · intro k31 s489 ct32 f33 wd34 hk35 hb36 hI37 hbrk38 hret39
          obtain ⟨⟩ := s489
          replace hI37 : f33 1 = (Value.pointer (some ⟨b1, 0, none⟩)) ∧ f33 3 = (Value.int .i64 (k12 : Int)) ∧ f33 7 = (Value.int .i64 ((r_Table).length : Int)) ∧ f33 8 = (Value.int .i64 (k12 : Int)) ∧ f33 13 = (Value.int .i64 ((r_Table).length : Int)) ∧ f33 14 = Value.int .i64 (k31 : Int) ∧ InR .i64 (k31 : Int) ∧ St wd2 wd34 [] := hI37
          replace hb36 : p_impl_Ring_unitFault_L2 r_Table k12 k31  = some ct32 := hb36
          unfold p_impl_Ring_unitFault_L2 at hb36
          obtain ⟨hf40, hf41, hf42, hf43, hf44, hf45, hr46, hS47⟩ := hI37
          refine W.seq ?_
          refine W.region ?_
          refine WL.val (Value.bool (decide ((k31 : Int) < ((r_Table).length : Int)))) _ (op_lss hf45 hf44) rfl ?_
          have hl48 : (k31 : Int) < ((r_Table).length : Int) := by omega
          refine WL.nil ?_
          show W _ _ _ _ _ _
          refine W.seq ?_
          refine W.condT (decide ((k31 : Int) < ((r_Table).length : Int))) rfl (decide_eq_true hl48) ?_
          refine W.skip ?_
          show W _ _ _ _ _ _
          refine W.seq ?_
          refine W.block ?_
          refine W.seq ?_
          refine W.region ?_
          refine WL.val (Value.int .i64 (k31 : Int)) _ (op_move hf45) rfl ?_
          refine WL.val (Value.int .i64 (k31 : Int)) _ (op_assign rfl) rfl ?_
          refine WL.nil ?_
          show W _ _ _ _ _ _
          refine W.seq ?_
          obtain ⟨x71, hx74, hb36⟩ := bs hb36
          obtain ⟨ha72, hb73, hx74⟩ := idx_some hx74
          obtain ⟨u82, hc83, hr84⟩ := repSl.el r_r_Table hx74
          obtain ⟨x101, hx104, hb36⟩ := bs hb36
          obtain ⟨ha102, hb103, hx104⟩ := idx_some hx104
          obtain ⟨u112, hc113, hr114⟩ := repSl.el hr84 hx104
          obtain ⟨x131, hx134, hb36⟩ := bs hb36
          obtain ⟨ha132, hb133, hx134⟩ := idx_some hx134
          obtain ⟨u142, hc143, hr144⟩ := repSl.el hr114 hx134
          obtain ⟨rfl, hr144⟩ := hr144
          obtain ⟨x169, hx170, hb36⟩ := bs hb36
          obtain ⟨x192, hj193, hb36⟩ := bs hb36
          refine W.cutCode (fun fq wq => fq 1 = (Value.pointer (some ⟨b1, 0, none⟩)) ∧ fq 3 = (Value.int .i64 (k12 : Int)) ∧ fq 4 = (Value.int .i64 (k31 : Int)) ∧ fq 7 = (Value.int .i64 ((r_Table).length : Int)) ∧ fq 8 = (Value.int .i64 (k12 : Int)) ∧ fq 13 = (Value.int .i64 ((r_Table).length : Int)) ∧ fq 14 = (Value.int .i64 (k31 : Int)) ∧ fq 46 = Value.bool x192 ∧ St wd2 wq []) ?_ ?_
          · rcases Bool.eq_false_or_eq_true (x131 != x169) with hc194 | hc194
            · replace hj193 := ip hj193 hc194
              refine W.draw mixo 28 [fun v _ => v = (Value.pointer (some ⟨b1, 0, none⟩)), fun v _ => v = v_r_Table, fun v _ => v = (Value.pointer (some (elA v_r_Table ((0 : Int)).toNat))), fun v _ => v = u82, fun v _ => v = (Value.int .i64 (k12 : Int)) ∧ InR .i64 (k12 : Int), fun v _ => v = (Value.pointer (some (elA u82 ((k12 : Int)).toNat))), fun v _ => v = u112, fun v _ => v = (Value.int .i64 (k31 : Int)) ∧ InR .i64 (k31 : Int), fun v _ => v = (Value.pointer (some (elA u112 ((k31 : Int)).toNat))), fun v _ => v = (Value.int .i64 x131) ∧ InR .i64 x131, fun v _ => v = (Value.int .i64 (k12 : Int)) ∧ InR .i64 (k12 : Int), fun v _ => v = (Value.int .i64 (k31 : Int)) ∧ InR .i64 (k31 : Int), fun v _ => v = (Value.int .i64 x169) ∧ InR .i64 x169, fun v _ => v = (Value.bool (x131 != x169)), fun v _ => v = (Value.bool (x131 != x169)), fun v _ => v = undef, fun v _ => v = undef, fun v _ => v = undef, fun v _ => v = undef, fun v _ => v = undef, fun v _ => v = undef, fun v _ => v = undef, fun v _ => v = undef, fun v _ => v = undef, fun v _ => v = undef, fun v _ => v = undef, fun v _ => v = undef, fun v _ => v = undef] (by kernel_rfl) (by kernel_rfl) (stabL ⟨(fun _ _ _ _ h => h), (fun _ _ _ _ h => h), (fun _ _ _ _ h => h), (fun _ _ _ _ h => h), (fun _ _ _ _ h => h), (fun _ _ _ _ h => h), (fun _ _ _ _ h => h), (fun _ _ _ _ h => h), (fun _ _ _ _ h => h), (fun _ _ _ _ h => h), (fun _ _ _ _ h => h), (fun _ _ _ _ h => h), (fun _ _ _ _ h => h), (fun _ _ _ _ h => h), (fun _ _ _ _ h => h), (fun _ _ _ _ h => h), (fun _ _ _ _ h => h), (fun _ _ _ _ h => h), (fun _ _ _ _ h => h), (fun _ _ _ _ h => h), (fun _ _ _ _ h => h), (fun _ _ _ _ h => h), (fun _ _ _ _ h => h), (fun _ _ _ _ h => h), (fun _ _ _ _ h => h), (fun _ _ _ _ h => h), (fun _ _ _ _ h => h), (fun _ _ _ _ h => h), trivial⟩) ⟨?_, ?_, ?_, ?_, ?_, ?_, ?_, ?_, ?_, ?_, ?_, ?_, ?_, ?_, ?_, ?_, ?_, ?_, ?_, ?_, ?_, ?_, ?_, ?_, ?_, ?_, ?_, ?_, trivial⟩ ?_
              · intro f50 wd51 he52 hout53 hphi54
                have hS55 : St wd2 wd51 [] := St.extend hS47 he52
                have e56 : f50 1 = (Value.pointer (some ⟨b1, 0, none⟩)) := (hout53 1 rfl).trans hf40
                exact OpY.val (Value.pointer (some ⟨b1, 0, none⟩)) wd51 rfl (op_fieldAddr fd_29_0 e56) (Ext.refl _) rfl
              · intro f57 wd58 he59 hout60 hphi61
                have hS62 : St wd2 wd58 [] := St.extend hS47 he59
                have e63 : f57 17 = (Value.pointer (some ⟨b1, 0, none⟩)) := hphi61 0 17 _ rfl rfl rfl
                exact OpY.val v_r_Table wd58 rfl (op_load one_22 e63 (BoxAt.cell (BoxAt.lift hS62.ext hx6) rfl)) (Ext.refl _) rfl
              · intro f64 wd65 he66 hout67 hphi68
                have hS69 : St wd2 wd65 [] := St.extend hS47 he66
                have e70 : f64 18 = v_r_Table := hphi68 1 18 _ rfl rfl rfl
                exact OpY.val (Value.pointer (some (elA v_r_Table ((0 : Int)).toNat))) wd65 rfl (op_idx sl_22 (Ty.lift _ (Ext.trans hE7 hS69.ext) r_r_Table) e70 rfl ha72 hb73) (Ext.refl _) rfl
              · intro f75 wd76 he77 hout78 hphi79
                have hS80 : St wd2 wd76 [] := St.extend hS47 he77
                have e81 : f75 19 = (Value.pointer (some (elA v_r_Table ((0 : Int)).toNat))) := hphi79 2 19 _ rfl rfl rfl
                exact OpY.val u82 wd76 rfl (op_load one_61 e81 (Ext.cell (Ext.trans hE7 hS80.ext) hc83)) (Ext.refl _) rfl
              · intro f85 wd86 he87 hout88 hphi89
                have hS90 : St wd2 wd86 [] := St.extend hS47 he87
                have e91 : f85 3 = (Value.int .i64 (k12 : Int)) := (hout88 3 rfl).trans hf41
                exact OpY.val (Value.int .i64 (k12 : Int)) wd86 rfl (op_move e91) (Ext.refl _) ⟨rfl, hr24⟩
              · intro f92 wd93 he94 hout95 hphi96
                have hS97 : St wd2 wd93 [] := St.extend hS47 he94
                have e98 : f92 20 = u82 := hphi96 3 20 _ rfl rfl rfl
                obtain ⟨e99, hr100⟩ : f92 21 = (Value.int .i64 (k12 : Int)) ∧ InR .i64 (k12 : Int) := hphi96 4 21 _ rfl rfl rfl
                exact OpY.val (Value.pointer (some (elA u82 ((k12 : Int)).toNat))) wd93 rfl (op_idx sl_61 (Ty.lift _ (Ext.trans hE7 hS97.ext) hr84) e98 e99 ha102 hb103) (Ext.refl _) rfl
              · intro f105 wd106 he107 hout108 hphi109
                have hS110 : St wd2 wd106 [] := St.extend hS47 he107
                have e111 : f105 22 = (Value.pointer (some (elA u82 ((k12 : Int)).toNat))) := hphi109 5 22 _ rfl rfl rfl
                exact OpY.val u112 wd106 rfl (op_load one_25 e111 (Ext.cell (Ext.trans hE7 hS110.ext) hc113)) (Ext.refl _) rfl
              · intro f115 wd116 he117 hout118 hphi119
                have hS120 : St wd2 wd116 [] := St.extend hS47 he117
                have e121 : f115 4 = (Value.int .i64 (k31 : Int)) := (hout118 4 rfl).trans rfl
                exact OpY.val (Value.int .i64 (k31 : Int)) wd116 rfl (op_move e121) (Ext.refl _) ⟨rfl, hr46⟩
              · intro f122 wd123 he124 hout125 hphi126
                have hS127 : St wd2 wd123 [] := St.extend hS47 he124
                have e128 : f122 23 = u112 := hphi126 6 23 _ rfl rfl rfl
                obtain ⟨e129, hr130⟩ : f122 24 = (Value.int .i64 (k31 : Int)) ∧ InR .i64 (k31 : Int) := hphi126 7 24 _ rfl rfl rfl
                exact OpY.val (Value.pointer (some (elA u112 ((k31 : Int)).toNat))) wd123 rfl (op_idx sl_25 (Ty.lift _ (Ext.trans hE7 hS127.ext) hr114) e128 e129 ha132 hb133) (Ext.refl _) rfl
              · intro f135 wd136 he137 hout138 hphi139
                have hS140 : St wd2 wd136 [] := St.extend hS47 he137
                have e141 : f135 25 = (Value.pointer (some (elA u112 ((k31 : Int)).toNat))) := hphi139 8 25 _ rfl rfl rfl
                exact OpY.val (Value.int .i64 x131) wd136 rfl (op_load one_2 e141 (Ext.cell (Ext.trans hE7 hS140.ext) hc143)) (Ext.refl _) ⟨rfl, hr144⟩
              · intro f145 wd146 he147 hout148 hphi149
                have hS150 : St wd2 wd146 [] := St.extend hS47 he147
                have e151 : f145 3 = (Value.int .i64 (k12 : Int)) := (hout148 3 rfl).trans hf41
                exact OpY.val (Value.int .i64 (k12 : Int)) wd146 rfl (op_move e151) (Ext.refl _) ⟨rfl, hr24⟩
              · intro f152 wd153 he154 hout155 hphi156
                have hS157 : St wd2 wd153 [] := St.extend hS47 he154
                have e158 : f152 4 = (Value.int .i64 (k31 : Int)) := (hout155 4 rfl).trans rfl
                exact OpY.val (Value.int .i64 (k31 : Int)) wd153 rfl (op_move e158) (Ext.refl _) ⟨rfl, hr46⟩
              · intro f159 wd160 he161 hout162 hphi163
                have hS164 : St wd2 wd160 [] := St.extend hS47 he161
                obtain ⟨e165, hr166⟩ : f159 27 = (Value.int .i64 (k12 : Int)) ∧ InR .i64 (k12 : Int) := hphi163 10 27 _ rfl rfl rfl
                obtain ⟨e167, hr168⟩ : f159 28 = (Value.int .i64 (k31 : Int)) ∧ InR .i64 (k31 : Int) := hphi163 11 28 _ rfl rfl rfl
                refine OpY.call rfl (op_call fn_94 (args2 e165 e167)) (Ret.mono (c_impl_delta hr166 hr168 hx170) ?_)
                rintro _ wd172 ⟨rfl, hr171, he173⟩
                exact ⟨he173, ⟨rfl, hr171⟩⟩
              · intro f175 wd176 he177 hout178 hphi179
                have hS180 : St wd2 wd176 [] := St.extend hS47 he177
                obtain ⟨e181, hr182⟩ : f175 26 = (Value.int .i64 x131) ∧ InR .i64 x131 := hphi179 9 26 _ rfl rfl rfl
                obtain ⟨e183, hr184⟩ : f175 29 = (Value.int .i64 x169) ∧ InR .i64 x169 := hphi179 12 29 _ rfl rfl rfl
                exact OpY.val (Value.bool (x131 != x169)) wd176 rfl (op_neq e181 e183) (Ext.refl _) rfl
              · intro f185 wd186 he187 hout188 hphi189
                have hS190 : St wd2 wd186 [] := St.extend hS47 he187
                have e191 : f185 30 = (Value.bool (x131 != x169)) := hphi189 13 30 _ rfl rfl rfl
                exact OpY.val (Value.bool (x131 != x169)) wd186 rfl (op_move e191) (Ext.refl _) rfl
              · intro f195 wd196 he197 hout198 hphi199
                have e200 : f195 31 = (Value.bool (x131 != x169)) := hphi199 14 31 _ rfl rfl rfl
                exact OpY.skip (wanted_skip rfl rfl e200 hc194) rfl
              · intro f201 wd202 he203 hout204 hphi205
                have e206 : f201 31 = (Value.bool (x131 != x169)) := hphi205 14 31 _ rfl rfl rfl
                exact OpY.skip (wanted_skip rfl rfl e206 hc194) rfl
              · intro f207 wd208 he209 hout210 hphi211
                have e212 : f207 31 = (Value.bool (x131 != x169)) := hphi211 14 31 _ rfl rfl rfl
                exact OpY.skip (wanted_skip rfl rfl e212 hc194) rfl
              · intro f213 wd214 he215 hout216 hphi217
                have e218 : f213 31 = (Value.bool (x131 != x169)) := hphi217 14 31 _ rfl rfl rfl
                exact OpY.skip (wanted_skip rfl rfl e218 hc194) rfl
              · intro f219 wd220 he221 hout222 hphi223
                have e224 : f219 31 = (Value.bool (x131 != x169)) := hphi223 14 31 _ rfl rfl rfl
                exact OpY.skip (wanted_skip rfl rfl e224 hc194) rfl
              · intro f225 wd226 he227 hout228 hphi229
                have e230 : f225 31 = (Value.bool (x131 != x169)) := hphi229 14 31 _ rfl rfl rfl
                exact OpY.skip (wanted_skip rfl rfl e230 hc194) rfl
              · intro f231 wd232 he233 hout234 hphi235
                have e236 : f231 31 = (Value.bool (x131 != x169)) := hphi235 14 31 _ rfl rfl rfl
                exact OpY.skip (wanted_skip rfl rfl e236 hc194) rfl
              · intro f237 wd238 he239 hout240 hphi241
                have e242 : f237 31 = (Value.bool (x131 != x169)) := hphi241 14 31 _ rfl rfl rfl
                exact OpY.skip (wanted_skip rfl rfl e242 hc194) rfl
              · intro f243 wd244 he245 hout246 hphi247
                have e248 : f243 31 = (Value.bool (x131 != x169)) := hphi247 14 31 _ rfl rfl rfl
                exact OpY.skip (wanted_skip rfl rfl e248 hc194) rfl
              · intro f249 wd250 he251 hout252 hphi253
                have e254 : f249 31 = (Value.bool (x131 != x169)) := hphi253 14 31 _ rfl rfl rfl
                exact OpY.skip (wanted_skip rfl rfl e254 hc194) rfl
              · intro f255 wd256 he257 hout258 hphi259
                have e260 : f255 31 = (Value.bool (x131 != x169)) := hphi259 14 31 _ rfl rfl rfl
                exact OpY.skip (wanted_skip rfl rfl e260 hc194) rfl
              · intro f261 wd262 he263 hout264 hphi265
                have e266 : f261 31 = (Value.bool (x131 != x169)) := hphi265 14 31 _ rfl rfl rfl
                exact OpY.skip (wanted_skip rfl rfl e266 hc194) rfl
              · intro f267 wd268 he269 hout270 hphi271
                have e272 : f267 31 = (Value.bool (x131 != x169)) := hphi271 14 31 _ rfl rfl rfl
                exact OpY.skip (wanted_skip rfl rfl e272 hc194) rfl
              · intro f273 wd274 he275 hout276 hphi277
                show WL _ _ _ _ _ _ _
                have hS278 : St wd2 wd274 [] := St.extend hS47 he275
                have e279 : f273 31 = (Value.bool (x131 != x169)) := hphi277 14 31 _ (by decide) rfl rfl
                have e293 : f273 1 = (Value.pointer (some ⟨b1, 0, none⟩)) := (hout276 1 rfl).trans hf40
                have e294 : f273 3 = (Value.int .i64 (k12 : Int)) := (hout276 3 rfl).trans hf41
                have e295 : f273 4 = (Value.int .i64 (k31 : Int)) := (hout276 4 rfl).trans rfl
                have e296 : f273 7 = (Value.int .i64 ((r_Table).length : Int)) := (hout276 7 rfl).trans hf42
                have e297 : f273 8 = (Value.int .i64 (k12 : Int)) := (hout276 8 rfl).trans hf43
                have e298 : f273 13 = (Value.int .i64 ((r_Table).length : Int)) := (hout276 13 rfl).trans hf44
                have e299 : f273 14 = (Value.int .i64 (k31 : Int)) := (hout276 14 rfl).trans hf45
                refine WL.gskip rfl (bool_of e279 hc194) rfl ?_
                refine WL.val (Value.bool true) _ (op_pick_t (evb_of e279 hc194) rfl) rfl ?_
                refine WL.nil ?_
                obtain rfl := Option.some.inj hj193
                exact ⟨e293, e294, e295, e296, e297, e298, e299, rfl, hS278⟩
            · replace hj193 := inegb hj193 hc194
              obtain ⟨x334, hx337, hj193⟩ := bs hj193
              obtain ⟨ha335, hb336, hx337⟩ := idx_some hx337
              obtain ⟨u346, hc347, hr348⟩ := repSl.el r_r_Table hx337
              obtain ⟨x357, hx360, hj193⟩ := bs hj193
              obtain ⟨ha358, hb359, hx360⟩ := idx_some hx360
              obtain ⟨u369, hc370, hr371⟩ := repSl.el hr348 hx360
              obtain ⟨x390, hx393, hj193⟩ := bs hj193
              obtain ⟨ha391, hb392, hx393⟩ := idx_some hx393
              obtain ⟨u402, hc403, hr404⟩ := repSl.el hr371 hx393
              obtain ⟨rfl, hr404⟩ := hr404
              obtain ⟨x432, hx433, hj193⟩ := bs hj193
              refine W.draw mixo 28 [fun v _ => v = (Value.pointer (some ⟨b1, 0, none⟩)), fun v _ => v = v_r_Table, fun v _ => v = (Value.pointer (some (elA v_r_Table ((0 : Int)).toNat))), fun v _ => v = u82, fun v _ => v = (Value.int .i64 (k12 : Int)) ∧ InR .i64 (k12 : Int), fun v _ => v = (Value.pointer (some (elA u82 ((k12 : Int)).toNat))), fun v _ => v = u112, fun v _ => v = (Value.int .i64 (k31 : Int)) ∧ InR .i64 (k31 : Int), fun v _ => v = (Value.pointer (some (elA u112 ((k31 : Int)).toNat))), fun v _ => v = (Value.int .i64 x131) ∧ InR .i64 x131, fun v _ => v = (Value.int .i64 (k12 : Int)) ∧ InR .i64 (k12 : Int), fun v _ => v = (Value.int .i64 (k31 : Int)) ∧ InR .i64 (k31 : Int), fun v _ => v = (Value.int .i64 x169) ∧ InR .i64 x169, fun v _ => v = (Value.bool (x131 != x169)), fun v _ => v = (Value.bool (x131 != x169)), fun v _ => v = (Value.pointer (some ⟨b1, 0, none⟩)), fun v _ => v = v_r_Table, fun v _ => v = (Value.int .i64 (k12 : Int)) ∧ InR .i64 (k12 : Int), fun v _ => v = (Value.pointer (some (elA v_r_Table ((k12 : Int)).toNat))), fun v _ => v = u346, fun v _ => v = (Value.pointer (some (elA u346 ((0 : Int)).toNat))), fun v _ => v = u369, fun v _ => v = (Value.int .i64 (k31 : Int)) ∧ InR .i64 (k31 : Int), fun v _ => v = (Value.pointer (some (elA u369 ((k31 : Int)).toNat))), fun v _ => v = (Value.int .i64 x390) ∧ InR .i64 x390, fun v _ => v = (Value.int .i64 (k12 : Int)) ∧ InR .i64 (k12 : Int), fun v _ => v = (Value.int .i64 (k31 : Int)) ∧ InR .i64 (k31 : Int), fun v _ => v = (Value.int .i64 x432) ∧ InR .i64 x432] (by kernel_rfl) (by kernel_rfl) (stabL ⟨(fun _ _ _ _ h => h), (fun _ _ _ _ h => h), (fun _ _ _ _ h => h), (fun _ _ _ _ h => h), (fun _ _ _ _ h => h), (fun _ _ _ _ h => h), (fun _ _ _ _ h => h), (fun _ _ _ _ h => h), (fun _ _ _ _ h => h), (fun _ _ _ _ h => h), (fun _ _ _ _ h => h), (fun _ _ _ _ h => h), (fun _ _ _ _ h => h), (fun _ _ _ _ h => h), (fun _ _ _ _ h => h), (fun _ _ _ _ h => h), (fun _ _ _ _ h => h), (fun _ _ _ _ h => h), (fun _ _ _ _ h => h), (fun _ _ _ _ h => h), (fun _ _ _ _ h => h), (fun _ _ _ _ h => h), (fun _ _ _ _ h => h), (fun _ _ _ _ h => h), (fun _ _ _ _ h => h), (fun _ _ _ _ h => h), (fun _ _ _ _ h => h), (fun _ _ _ _ h => h), trivial⟩) ⟨?_, ?_, ?_, ?_, ?_, ?_, ?_, ?_, ?_, ?_, ?_, ?_, ?_, ?_, ?_, ?_, ?_, ?_, ?_, ?_, ?_, ?_, ?_, ?_, ?_, ?_, ?_, ?_, trivial⟩ ?_
              · intro f50 wd51 he52 hout53 hphi54
                have hS55 : St wd2 wd51 [] := St.extend hS47 he52
                have e56 : f50 1 = (Value.pointer (some ⟨b1, 0, none⟩)) := (hout53 1 rfl).trans hf40
                exact OpY.val (Value.pointer (some ⟨b1, 0, none⟩)) wd51 rfl (op_fieldAddr fd_29_0 e56) (Ext.refl _) rfl
              · intro f57 wd58 he59 hout60 hphi61
                have hS62 : St wd2 wd58 [] := St.extend hS47 he59
                have e63 : f57 17 = (Value.pointer (some ⟨b1, 0, none⟩)) := hphi61 0 17 _ rfl rfl rfl
                exact OpY.val v_r_Table wd58 rfl (op_load one_22 e63 (BoxAt.cell (BoxAt.lift hS62.ext hx6) rfl)) (Ext.refl _) rfl
              · intro f64 wd65 he66 hout67 hphi68
                have hS69 : St wd2 wd65 [] := St.extend hS47 he66
                have e70 : f64 18 = v_r_Table := hphi68 1 18 _ rfl rfl rfl
                exact OpY.val (Value.pointer (some (elA v_r_Table ((0 : Int)).toNat))) wd65 rfl (op_idx sl_22 (Ty.lift _ (Ext.trans hE7 hS69.ext) r_r_Table) e70 rfl ha72 hb73) (Ext.refl _) rfl
              · intro f75 wd76 he77 hout78 hphi79
                have hS80 : St wd2 wd76 [] := St.extend hS47 he77
                have e81 : f75 19 = (Value.pointer (some (elA v_r_Table ((0 : Int)).toNat))) := hphi79 2 19 _ rfl rfl rfl
                exact OpY.val u82 wd76 rfl (op_load one_61 e81 (Ext.cell (Ext.trans hE7 hS80.ext) hc83)) (Ext.refl _) rfl
              · intro f85 wd86 he87 hout88 hphi89
                have hS90 : St wd2 wd86 [] := St.extend hS47 he87
                have e91 : f85 3 = (Value.int .i64 (k12 : Int)) := (hout88 3 rfl).trans hf41
                exact OpY.val (Value.int .i64 (k12 : Int)) wd86 rfl (op_move e91) (Ext.refl _) ⟨rfl, hr24⟩
              · intro f92 wd93 he94 hout95 hphi96
                have hS97 : St wd2 wd93 [] := St.extend hS47 he94
                have e98 : f92 20 = u82 := hphi96 3 20 _ rfl rfl rfl
                obtain ⟨e99, hr100⟩ : f92 21 = (Value.int .i64 (k12 : Int)) ∧ InR .i64 (k12 : Int) := hphi96 4 21 _ rfl rfl rfl
                exact OpY.val (Value.pointer (some (elA u82 ((k12 : Int)).toNat))) wd93 rfl (op_idx sl_61 (Ty.lift _ (Ext.trans hE7 hS97.ext) hr84) e98 e99 ha102 hb103) (Ext.refl _) rfl
              · intro f105 wd106 he107 hout108 hphi109
                have hS110 : St wd2 wd106 [] := St.extend hS47 he107
                have e111 : f105 22 = (Value.pointer (some (elA u82 ((k12 : Int)).toNat))) := hphi109 5 22 _ rfl rfl rfl
                exact OpY.val u112 wd106 rfl (op_load one_25 e111 (Ext.cell (Ext.trans hE7 hS110.ext) hc113)) (Ext.refl _) rfl
              · intro f115 wd116 he117 hout118 hphi119
                have hS120 : St wd2 wd116 [] := St.extend hS47 he117
                have e121 : f115 4 = (Value.int .i64 (k31 : Int)) := (hout118 4 rfl).trans rfl
                exact OpY.val (Value.int .i64 (k31 : Int)) wd116 rfl (op_move e121) (Ext.refl _) ⟨rfl, hr46⟩
              · intro f122 wd123 he124 hout125 hphi126
                have hS127 : St wd2 wd123 [] := St.extend hS47 he124
                have e128 : f122 23 = u112 := hphi126 6 23 _ rfl rfl rfl
                obtain ⟨e129, hr130⟩ : f122 24 = (Value.int .i64 (k31 : Int)) ∧ InR .i64 (k31 : Int) := hphi126 7 24 _ rfl rfl rfl
                exact OpY.val (Value.pointer (some (elA u112 ((k31 : Int)).toNat))) wd123 rfl (op_idx sl_25 (Ty.lift _ (Ext.trans hE7 hS127.ext) hr114) e128 e129 ha132 hb133) (Ext.refl _) rfl
              · intro f135 wd136 he137 hout138 hphi139
                have hS140 : St wd2 wd136 [] := St.extend hS47 he137
                have e141 : f135 25 = (Value.pointer (some (elA u112 ((k31 : Int)).toNat))) := hphi139 8 25 _ rfl rfl rfl
                exact OpY.val (Value.int .i64 x131) wd136 rfl (op_load one_2 e141 (Ext.cell (Ext.trans hE7 hS140.ext) hc143)) (Ext.refl _) ⟨rfl, hr144⟩
              · intro f145 wd146 he147 hout148 hphi149
                have hS150 : St wd2 wd146 [] := St.extend hS47 he147
                have e151 : f145 3 = (Value.int .i64 (k12 : Int)) := (hout148 3 rfl).trans hf41
                exact OpY.val (Value.int .i64 (k12 : Int)) wd146 rfl (op_move e151) (Ext.refl _) ⟨rfl, hr24⟩
              · intro f152 wd153 he154 hout155 hphi156
                have hS157 : St wd2 wd153 [] := St.extend hS47 he154
                have e158 : f152 4 = (Value.int .i64 (k31 : Int)) := (hout155 4 rfl).trans rfl
                exact OpY.val (Value.int .i64 (k31 : Int)) wd153 rfl (op_move e158) (Ext.refl _) ⟨rfl, hr46⟩
              · intro f159 wd160 he161 hout162 hphi163
                have hS164 : St wd2 wd160 [] := St.extend hS47 he161
                obtain ⟨e165, hr166⟩ : f159 27 = (Value.int .i64 (k12 : Int)) ∧ InR .i64 (k12 : Int) := hphi163 10 27 _ rfl rfl rfl
                obtain ⟨e167, hr168⟩ : f159 28 = (Value.int .i64 (k31 : Int)) ∧ InR .i64 (k31 : Int) := hphi163 11 28 _ rfl rfl rfl
                refine OpY.call rfl (op_call fn_94 (args2 e165 e167)) (Ret.mono (c_impl_delta hr166 hr168 hx170) ?_)
                rintro _ wd172 ⟨rfl, hr171, he173⟩
                exact ⟨he173, ⟨rfl, hr171⟩⟩
              · intro f175 wd176 he177 hout178 hphi179
                have hS180 : St wd2 wd176 [] := St.extend hS47 he177
                obtain ⟨e181, hr182⟩ : f175 26 = (Value.int .i64 x131) ∧ InR .i64 x131 := hphi179 9 26 _ rfl rfl rfl
                obtain ⟨e183, hr184⟩ : f175 29 = (Value.int .i64 x169) ∧ InR .i64 x169 := hphi179 12 29 _ rfl rfl rfl
                exact OpY.val (Value.bool (x131 != x169)) wd176 rfl (op_neq e181 e183) (Ext.refl _) rfl
              · intro f185 wd186 he187 hout188 hphi189
                have hS190 : St wd2 wd186 [] := St.extend hS47 he187
                have e191 : f185 30 = (Value.bool (x131 != x169)) := hphi189 13 30 _ rfl rfl rfl
                exact OpY.val (Value.bool (x131 != x169)) wd186 rfl (op_move e191) (Ext.refl _) rfl
              · intro f300 wd301 he302 hout303 hphi304
                have hS305 : St wd2 wd301 [] := St.extend hS47 he302
                have e306 : f300 1 = (Value.pointer (some ⟨b1, 0, none⟩)) := (hout303 1 rfl).trans hf40
                have e307 : f300 31 = (Value.bool (x131 != x169)) := hphi304 14 31 _ rfl rfl rfl
                exact OpY.val (Value.pointer (some ⟨b1, 0, none⟩)) wd301 (wanted_run rfl rfl e307 hc194) (op_fieldAddr fd_29_0 e306) (Ext.refl _) rfl
              · intro f308 wd309 he310 hout311 hphi312
                have hS313 : St wd2 wd309 [] := St.extend hS47 he310
                have e314 : f308 31 = (Value.bool (x131 != x169)) := hphi312 14 31 _ rfl rfl rfl
                have e315 : f308 32 = (Value.pointer (some ⟨b1, 0, none⟩)) := hphi312 15 32 _ rfl rfl rfl
                exact OpY.val v_r_Table wd309 (wanted_run rfl rfl e314 hc194) (op_load one_22 e315 (BoxAt.cell (BoxAt.lift hS313.ext hx6) rfl)) (Ext.refl _) rfl
              · intro f316 wd317 he318 hout319 hphi320
                have hS321 : St wd2 wd317 [] := St.extend hS47 he318
                have e322 : f316 3 = (Value.int .i64 (k12 : Int)) := (hout319 3 rfl).trans hf41
                have e323 : f316 31 = (Value.bool (x131 != x169)) := hphi320 14 31 _ rfl rfl rfl
                exact OpY.val (Value.int .i64 (k12 : Int)) wd317 (wanted_run rfl rfl e323 hc194) (op_move e322) (Ext.refl _) ⟨rfl, hr24⟩
              · intro f324 wd325 he326 hout327 hphi328
                have hS329 : St wd2 wd325 [] := St.extend hS47 he326
                have e330 : f324 31 = (Value.bool (x131 != x169)) := hphi328 14 31 _ rfl rfl rfl
                have e331 : f324 33 = v_r_Table := hphi328 16 33 _ rfl rfl rfl
                obtain ⟨e332, hr333⟩ : f324 34 = (Value.int .i64 (k12 : Int)) ∧ InR .i64 (k12 : Int) := hphi328 17 34 _ rfl rfl rfl
                exact OpY.val (Value.pointer (some (elA v_r_Table ((k12 : Int)).toNat))) wd325 (wanted_run rfl rfl e330 hc194) (op_idx sl_22 (Ty.lift _ (Ext.trans hE7 hS329.ext) r_r_Table) e331 e332 ha335 hb336) (Ext.refl _) rfl
              · intro f338 wd339 he340 hout341 hphi342
                have hS343 : St wd2 wd339 [] := St.extend hS47 he340
                have e344 : f338 31 = (Value.bool (x131 != x169)) := hphi342 14 31 _ rfl rfl rfl
                have e345 : f338 35 = (Value.pointer (some (elA v_r_Table ((k12 : Int)).toNat))) := hphi342 18 35 _ rfl rfl rfl
                exact OpY.val u346 wd339 (wanted_run rfl rfl e344 hc194) (op_load one_61 e345 (Ext.cell (Ext.trans hE7 hS343.ext) hc347)) (Ext.refl _) rfl
              · intro f349 wd350 he351 hout352 hphi353
                have hS354 : St wd2 wd350 [] := St.extend hS47 he351
                have e355 : f349 31 = (Value.bool (x131 != x169)) := hphi353 14 31 _ rfl rfl rfl
                have e356 : f349 36 = u346 := hphi353 19 36 _ rfl rfl rfl
                exact OpY.val (Value.pointer (some (elA u346 ((0 : Int)).toNat))) wd350 (wanted_run rfl rfl e355 hc194) (op_idx sl_61 (Ty.lift _ (Ext.trans hE7 hS354.ext) hr348) e356 rfl ha358 hb359) (Ext.refl _) rfl
              · intro f361 wd362 he363 hout364 hphi365
                have hS366 : St wd2 wd362 [] := St.extend hS47 he363
                have e367 : f361 31 = (Value.bool (x131 != x169)) := hphi365 14 31 _ rfl rfl rfl
                have e368 : f361 37 = (Value.pointer (some (elA u346 ((0 : Int)).toNat))) := hphi365 20 37 _ rfl rfl rfl
                exact OpY.val u369 wd362 (wanted_run rfl rfl e367 hc194) (op_load one_25 e368 (Ext.cell (Ext.trans hE7 hS366.ext) hc370)) (Ext.refl _) rfl
              · intro f372 wd373 he374 hout375 hphi376
                have hS377 : St wd2 wd373 [] := St.extend hS47 he374
                have e378 : f372 4 = (Value.int .i64 (k31 : Int)) := (hout375 4 rfl).trans rfl
                have e379 : f372 31 = (Value.bool (x131 != x169)) := hphi376 14 31 _ rfl rfl rfl
                exact OpY.val (Value.int .i64 (k31 : Int)) wd373 (wanted_run rfl rfl e379 hc194) (op_move e378) (Ext.refl _) ⟨rfl, hr46⟩
              · intro f380 wd381 he382 hout383 hphi384
                have hS385 : St wd2 wd381 [] := St.extend hS47 he382
                have e386 : f380 31 = (Value.bool (x131 != x169)) := hphi384 14 31 _ rfl rfl rfl
                have e387 : f380 38 = u369 := hphi384 21 38 _ rfl rfl rfl
                obtain ⟨e388, hr389⟩ : f380 39 = (Value.int .i64 (k31 : Int)) ∧ InR .i64 (k31 : Int) := hphi384 22 39 _ rfl rfl rfl
                exact OpY.val (Value.pointer (some (elA u369 ((k31 : Int)).toNat))) wd381 (wanted_run rfl rfl e386 hc194) (op_idx sl_25 (Ty.lift _ (Ext.trans hE7 hS385.ext) hr371) e387 e388 ha391 hb392) (Ext.refl _) rfl
              · intro f394 wd395 he396 hout397 hphi398
                have hS399 : St wd2 wd395 [] := St.extend hS47 he396
                have e400 : f394 31 = (Value.bool (x131 != x169)) := hphi398 14 31 _ rfl rfl rfl
                have e401 : f394 40 = (Value.pointer (some (elA u369 ((k31 : Int)).toNat))) := hphi398 23 40 _ rfl rfl rfl
                exact OpY.val (Value.int .i64 x390) wd395 (wanted_run rfl rfl e400 hc194) (op_load one_2 e401 (Ext.cell (Ext.trans hE7 hS399.ext) hc403)) (Ext.refl _) ⟨rfl, hr404⟩
              · intro f405 wd406 he407 hout408 hphi409
                have hS410 : St wd2 wd406 [] := St.extend hS47 he407
                have e411 : f405 3 = (Value.int .i64 (k12 : Int)) := (hout408 3 rfl).trans hf41
                have e412 : f405 31 = (Value.bool (x131 != x169)) := hphi409 14 31 _ rfl rfl rfl
                exact OpY.val (Value.int .i64 (k12 : Int)) wd406 (wanted_run rfl rfl e412 hc194) (op_move e411) (Ext.refl _) ⟨rfl, hr24⟩
              · intro f413 wd414 he415 hout416 hphi417
                have hS418 : St wd2 wd414 [] := St.extend hS47 he415
                have e419 : f413 4 = (Value.int .i64 (k31 : Int)) := (hout416 4 rfl).trans rfl
                have e420 : f413 31 = (Value.bool (x131 != x169)) := hphi417 14 31 _ rfl rfl rfl
                exact OpY.val (Value.int .i64 (k31 : Int)) wd414 (wanted_run rfl rfl e420 hc194) (op_move e419) (Ext.refl _) ⟨rfl, hr46⟩
              · intro f421 wd422 he423 hout424 hphi425
                have hS426 : St wd2 wd422 [] := St.extend hS47 he423
                have e427 : f421 31 = (Value.bool (x131 != x169)) := hphi425 14 31 _ rfl rfl rfl
                obtain ⟨e428, hr429⟩ : f421 42 = (Value.int .i64 (k12 : Int)) ∧ InR .i64 (k12 : Int) := hphi425 25 42 _ rfl rfl rfl
                obtain ⟨e430, hr431⟩ : f421 43 = (Value.int .i64 (k31 : Int)) ∧ InR .i64 (k31 : Int) := hphi425 26 43 _ rfl rfl rfl
                refine OpY.call (wanted_run rfl rfl e427 hc194) (op_call fn_94 (args2 e428 e430)) (Ret.mono (c_impl_delta hr429 hr431 hx433) ?_)
                rintro _ wd435 ⟨rfl, hr434, he436⟩
                exact ⟨he436, ⟨rfl, hr434⟩⟩
              · intro f438 wd439 he440 hout441 hphi442
                show WL _ _ _ _ _ _ _
                have hS443 : St wd2 wd439 [] := St.extend hS47 he440
                have e444 : f438 31 = (Value.bool (x131 != x169)) := hphi442 14 31 _ (by decide) rfl rfl
                have e445 : f438 32 = (Value.pointer (some ⟨b1, 0, none⟩)) := hphi442 15 32 _ (by decide) rfl rfl
                have e446 : f438 33 = v_r_Table := hphi442 16 33 _ (by decide) rfl rfl
                obtain ⟨e447, hr448⟩ : f438 34 = (Value.int .i64 (k12 : Int)) ∧ InR .i64 (k12 : Int) := hphi442 17 34 _ (by decide) rfl rfl
                have e449 : f438 35 = (Value.pointer (some (elA v_r_Table ((k12 : Int)).toNat))) := hphi442 18 35 _ (by decide) rfl rfl
                have e450 : f438 36 = u346 := hphi442 19 36 _ (by decide) rfl rfl
                have e451 : f438 37 = (Value.pointer (some (elA u346 ((0 : Int)).toNat))) := hphi442 20 37 _ (by decide) rfl rfl
                have e452 : f438 38 = u369 := hphi442 21 38 _ (by decide) rfl rfl
                obtain ⟨e453, hr454⟩ : f438 39 = (Value.int .i64 (k31 : Int)) ∧ InR .i64 (k31 : Int) := hphi442 22 39 _ (by decide) rfl rfl
                have e455 : f438 40 = (Value.pointer (some (elA u369 ((k31 : Int)).toNat))) := hphi442 23 40 _ (by decide) rfl rfl
                obtain ⟨e456, hr457⟩ : f438 41 = (Value.int .i64 x390) ∧ InR .i64 x390 := hphi442 24 41 _ (by decide) rfl rfl
                obtain ⟨e458, hr459⟩ : f438 42 = (Value.int .i64 (k12 : Int)) ∧ InR .i64 (k12 : Int) := hphi442 25 42 _ (by decide) rfl rfl
                obtain ⟨e460, hr461⟩ : f438 43 = (Value.int .i64 (k31 : Int)) ∧ InR .i64 (k31 : Int) := hphi442 26 43 _ (by decide) rfl rfl
                obtain ⟨e462, hr463⟩ : f438 44 = (Value.int .i64 x432) ∧ InR .i64 x432 := hphi442 27 44 _ (by decide) rfl rfl
                have e464 : f438 1 = (Value.pointer (some ⟨b1, 0, none⟩)) := (hout441 1 rfl).trans hf40
                have e465 : f438 3 = (Value.int .i64 (k12 : Int)) := (hout441 3 rfl).trans hf41
                have e466 : f438 4 = (Value.int .i64 (k31 : Int)) := (hout441 4 rfl).trans rfl
                have e467 : f438 7 = (Value.int .i64 ((r_Table).length : Int)) := (hout441 7 rfl).trans hf42
                have e468 : f438 8 = (Value.int .i64 (k12 : Int)) := (hout441 8 rfl).trans hf43
                have e469 : f438 13 = (Value.int .i64 ((r_Table).length : Int)) := (hout441 13 rfl).trans hf44
                have e470 : f438 14 = (Value.int .i64 (k31 : Int)) := (hout441 14 rfl).trans hf45
                refine WL.grun rfl (bool_of e444 hc194) ?_
                refine WL.val (Value.bool (x390 != x432)) _ (op_neq e456 e462) rfl ?_
                refine WL.val (Value.bool (x390 != x432)) _ (op_pick_f (evb_of e444 hc194) rfl) rfl ?_
                refine WL.nil ?_
                obtain rfl := Option.some.inj hj193
                exact ⟨e464, e465, e466, e467, e468, e469, e470, rfl, hS443⟩
          · intro f471 wd472 hq473
            obtain ⟨hf474, hf475, hf476, hf477, hf478, hf479, hf480, hf481, hS482⟩ := hq473
            show W _ _ _ _ _ _
            refine W.cond x192 hf481 (fun hc483 => ?_) (fun hc483 => ?_)
            · replace hb36 := ip hb36 hc483
              refine W.seq ?_
              refine W.region ?_
              refine WL.val (Value.int .i64 (k12 : Int)) _ (op_move hf475) rfl ?_
              refine WL.val (Value.int .i64 (k31 : Int)) _ (op_move hf476) rfl ?_
              refine WL.litFlat (t := (Ty.i .i64)) (flat_i .i64) [(Value.int .i64 (0 : Int)), (Value.int .i64 (k12 : Int)), (Value.int .i64 (k31 : Int))] [(0 : Int), (k12 : Int), (k31 : Int)] hS482 sl_25 rfl rfl (fillL rfl ⟨rfl, rfl, rfl, rfl, rfl, rfl, rfl, rfl, rfl, trivial⟩) rfl rfl (litL ⟨⟨rfl, (inR_i64.2 (show (-9223372036854775808 : Int) ≤ 0 ∧ (0 : Int) ≤ 9223372036854775807 from by decide))⟩, ⟨rfl, hr24⟩, ⟨rfl, hr46⟩, trivial⟩) rfl ?_
              intro u485 wd486 hS487 he488
              replace hS487 : St wd2 wd486 [(Ty.sl (Ty.i .i64)).at u485 ([(0 : Int), (k12 : Int), (k31 : Int)] : (List Int))] := hS487
              refine WL.val u485 _ (op_assign rfl) rfl ?_
              refine WL.nil ?_
              show W _ _ _ _ _ _
              refine W.ret ?_
              obtain rfl := Option.some.inj hb36
              obtain rfl := hret39 _ rfl
              replace hb17 := onRes_ret hb17
              obtain rfl := Option.some.inj hb17
              obtain rfl := hret20 _ rfl
              replace h := onRes_ret h
              obtain rfl := Option.some.inj h
              show FinP _ _ _ _ _ _ _
              exact FinP.ret _ (res1 rfl rfl) ⟨u485, rfl, (nil_cons), (Ext.trans hE7 hS487.ext), (St.out (St.pick hS487 [0] rfl) (hE7))⟩
            · replace hb36 := inegb hb36 hc483
              refine W.skip ?_
              show W _ _ _ _ _ _
              refine W.region ?_
              refine WL.val (Value.int .i64 (w64 ((k31 : Int) + (1 : Int)))) _ (op_add hf480 rfl) rfl ?_
              refine WL.val (Value.int .i64 (w64 ((k31 : Int) + (1 : Int)))) _ (op_move rfl) rfl ?_
              refine WL.nil ?_
              obtain rfl := Option.some.inj hb36
              show ∃ s, _ = Ctl.next s ∧ _
              exact ⟨_, rfl, hf474, hf475, hf477, hf478, hf479, (ctr_next hl48 hr28), (ctr_rng hl48 hr28), hS482⟩
        · intro s494 f490 wd491 hs492 hI493
          obtain ⟨⟩ := s494
          replace hI493 : f490 1 = (Value.pointer (some ⟨b1, 0, none⟩)) ∧ f490 3 = (Value.int .i64 (k12 : Int)) ∧ f490 7 = (Value.int .i64 ((r_Table).length : Int)) ∧ f490 8 = (Value.int .i64 (k12 : Int)) ∧ f490 13 = (Value.int .i64 ((r_Table).length : Int)) ∧ f490 14 = Value.int .i64 (((r_Table).length : Nat) : Int) ∧ InR .i64 (((r_Table).length : Nat) : Int) ∧ St wd2 wd491 [] := hI493
          obtain ⟨hf495, hf496, hf497, hf498, hf499, hf500, hr501, hS502⟩ := hI493
          refine W.seq ?_
          refine W.region ?_
          refine WL.val (Value.bool (decide ((((r_Table).length : Nat) : Int) < ((r_Table).length : Int)))) _ (op_lss hf500 hf499) rfl ?_
          have hl503 : ¬ (((r_Table).length : Nat) : Int) < ((r_Table).length : Int) := by omega
          refine WL.nil ?_
          show W _ _ _ _ _ _
          refine W.seq ?_
          refine W.condF (decide ((((r_Table).length : Nat) : Int) < ((r_Table).length : Int))) rfl (decide_eq_false hl503) ?_
          refine W.exit ?_
          show _ = _ ∧ _
          exact ⟨rfl, _, hs492, hf495, hf497, hf498, hS502⟩
      · rintro f504 wd505 ⟨s507, rfl, hq506⟩
        replace hb17 := onRes_fin hb17
        obtain ⟨⟩ := s507
        replace hq506 : f504 1 = (Value.pointer (some ⟨b1, 0, none⟩)) ∧ f504 7 = (Value.int .i64 ((r_Table).length : Int)) ∧ f504 8 = (Value.int .i64 (k12 : Int)) ∧ St wd2 wd505 [] := hq506
        obtain ⟨hf508, hf509, hf510, hS511⟩ := hq506
        show W _ _ _ _ _ _
        refine W.region ?_
        refine WL.val (Value.int .i64 (w64 ((k12 : Int) + (1 : Int)))) _ (op_add hf510 rfl) rfl ?_
        refine WL.val (Value.int .i64 (w64 ((k12 : Int) + (1 : Int)))) _ (op_move rfl) rfl ?_
        refine WL.nil ?_
        obtain rfl := Option.some.inj hb17
        show ∃ s, _ = Ctl.next s ∧ _
        exact ⟨_, rfl, hf508, hf509, (ctr_next hl26 hr9), (ctr_rng hl26 hr9), hS511⟩
    · intro s518 f514 wd515 hs516 hI517
      obtain ⟨⟩ := s518
      replace hI517 : f514 1 = (Value.pointer (some ⟨b1, 0, none⟩)) ∧ f514 7 = (Value.int .i64 ((r_Table).length : Int)) ∧ f514 8 = Value.int .i64 (((r_Table).length : Nat) : Int) ∧ InR .i64 (((r_Table).length : Nat) : Int) ∧ St wd2 wd515 [] := hI517
      obtain ⟨hf519, hf520, hf521, hr522, hS523⟩ := hI517
      refine W.seq ?_
      refine W.region ?_
      refine WL.val (Value.bool (decide ((((r_Table).length : Nat) : Int) < ((r_Table).length : Int)))) _ (op_lss hf521 hf520) rfl ?_
      have hl524 : ¬ (((r_Table).length : Nat) : Int) < ((r_Table).length : Int) := by omega
      refine WL.nil ?_
      show W _ _ _ _ _ _
      refine W.seq ?_
      refine W.condF (decide ((((r_Table).length : Nat) : Int) < ((r_Table).length : Int))) rfl (decide_eq_false hl524) ?_
      refine W.exit ?_
      show _ = _ ∧ _
      exact ⟨rfl, _, hs516, hS523⟩
  · rintro f525 wd526 ⟨s528, rfl, hq527⟩
    replace h := onRes_fin h
    obtain ⟨⟩ := s528
    replace hq527 : St wd2 wd526 [] := hq527
    have hS529 := hq527
    show W _ _ _ _ _ _
    refine W.seq ?_
    refine W.region ?_
    refine WL.val (Value.slice none 0 0) _ (op_assign rfl) rfl ?_
    refine WL.nil ?_
    show W _ _ _ _ _ _
    refine W.ret ?_
    obtain rfl := Option.some.inj h
    show FinP _ _ _ _ _ _ _
    exact FinP.ret _ (res1 rfl rfl) ⟨(Value.slice none 0 0), rfl, (fun _ => ⟨0, 0, rfl⟩), (Ext.trans hE7 hS529.ext), (St.out (St.pick (St.addNil (Ty.i .i64) hS529) [0] rfl) (hE7))⟩

theorem c_impl_Ring_onlyOf {w : World} {r_Table : (List (List (List Int)))} {v_r_Table : Value} {i : Int} (r_r_Table : (Ty.sl (Ty.sl (Ty.sl (Ty.i .i64)))).rep w v_r_Table r_Table) (r_i : InR .i64 i) {res : Int} (h : p_impl_Ring_onlyOf r_Table i  = some res) :
    Ret Try.prog 76 #[(Value.agg #[v_r_Table]), (Value.int .i64 i)] w (fun v w' => v = Value.int .i64 res ∧ InR .i64 res ∧ Ext w w') := by
  unfold p_impl_Ring_onlyOf at h
  have hS0 : St w w [] := St.start w
  refine Ret.start (fn := Try.f76) Try.func76 rfl 34 rfl rfl ?_
  refine W.seq ?_
  refine W.region ?_
  refine WL.box hS0 rfl (cs := [v_r_Table]) rfl rfl ?_
  intro b1 wd2 hS3 he4 hx5
  replace hS3 : St w wd2 [bx b1 [v_r_Table]] := hS3
  have hx6 := St.boxAt hS3 0 rfl
  have hE7 : Ext w wd2 := hS3.ext
  have hS8 : St wd2 wd2 [] := St.start wd2
  refine WL.val (Value.int .i64 (0 : Int)) _ (op_assign rfl) rfl ?_
  refine WL.nil ?_
  show W _ _ _ _ _ _
  refine W.seq ?_
  refine W.region ?_
  refine WL.val (Value.int .i64 (-1 : Int)) _ (op_assign rfl) rfl ?_
  refine WL.nil ?_
  show W _ _ _ _ _ _
  refine W.seq ?_
  refine W.seq ?_
  refine W.region ?_
  refine WL.val (Value.pointer (some ⟨b1, 0, none⟩)) _ (op_fieldAddr fd_29_0 rfl) rfl ?_
  refine WL.val v_r_Table _ (op_load one_22 rfl (BoxAt.cell (BoxAt.lift hS8.ext hx6) rfl)) rfl ?_
  refine WL.val (Value.int .i64 i) _ (op_move rfl) rfl ?_
  obtain ⟨x9, hx12, h⟩ := bs h
  obtain ⟨ha10, hb11, hx12⟩ := idx_some hx12
  refine WL.val (Value.pointer (some (elA v_r_Table (i).toNat))) _ (op_idx sl_22 (Ty.lift _ (Ext.trans hE7 hS8.ext) r_r_Table) rfl rfl ha10 hb11) rfl ?_
  obtain ⟨u13, hc14, hr15⟩ := repSl.el r_r_Table hx12
  refine WL.val u13 _ (op_load one_61 rfl (Ext.cell (Ext.trans hE7 hS8.ext) hc14)) rfl ?_
  have hr16 := inR_len (Ty.lift _ (Ext.trans hE7 hS8.ext) hr15)
  refine WL.val (Value.int .i64 ((x9).length : Int)) _ (op_lenL sl_61 (Ty.lift _ (Ext.trans hE7 hS8.ext) hr15) rfl) rfl ?_
  refine WL.val (Value.int .i64 (0 : Int)) _ (op_move rfl) rfl ?_
  refine WL.nil ?_
  show W _ _ _ _ _ _
  obtain ⟨res17, hres18, h⟩ := bs h
  refine W.blockLoop (fun fq wq => ∃ s, res17 = Res.fin s ∧ fq 5 = Value.int .i64 s ∧ InR .i64 s ∧ St wd2 wq []) ?_ ?_
  · refine W.forN (fun k s fq wq => fq 5 = Value.int .i64 s ∧ InR .i64 s ∧ fq 12 = u13 ∧ fq 13 = (Value.int .i64 ((x9).length : Int)) ∧ fq 14 = Value.int .i64 (k : Int) ∧ InR .i64 (k : Int) ∧ St wd2 wq []) hres18 ⟨rfl, (inR_i64.2 (show (-9223372036854775808 : Int) ≤ -1 ∧ (-1 : Int) ≤ 9223372036854775807 from by decide)), rfl, rfl, rfl, (inR_i64.2 (show (-9223372036854775808 : Int) ≤ 0 ∧ (0 : Int) ≤ 9223372036854775807 from by decide)), hS8⟩ ?_ ?_
    · intro k19 x20 ct21 f22 wd23 hk24 hb25 hI26 hbrk27 hret28
      replace hI26 : f22 5 = Value.int .i64 x20 ∧ InR .i64 x20 ∧ f22 12 = u13 ∧ f22 13 = (Value.int .i64 ((x9).length : Int)) ∧ f22 14 = Value.int .i64 (k19 : Int) ∧ InR .i64 (k19 : Int) ∧ St wd2 wd23 [] := hI26
      replace hb25 : p_impl_Ring_onlyOf_L1 x9 k19 x20 = some ct21 := hb25
      unfold p_impl_Ring_onlyOf_L1 at hb25
      obtain ⟨hf29, hr30, hf31, hf32, hf33, hr34, hS35⟩ := hI26
      refine W.seq ?_
      refine W.region ?_
      refine WL.val (Value.bool (decide ((k19 : Int) < ((x9).length : Int)))) _ (op_lss hf33 hf32) rfl ?_
      have hl36 : (k19 : Int) < ((x9).length : Int) := by omega
      refine WL.nil ?_
      show W _ _ _ _ _ _
      refine W.seq ?_
      refine W.condT (decide ((k19 : Int) < ((x9).length : Int))) rfl (decide_eq_true hl36) ?_
      refine W.skip ?_
      show W _ _ _ _ _ _
      refine W.seq ?_
      refine W.block ?_
      refine W.seq ?_
      refine W.region ?_
      refine WL.val (Value.int .i64 (k19 : Int)) _ (op_move hf33) rfl ?_
      obtain ⟨x38, hx41, hb25⟩ := bs hb25
      obtain ⟨ha39, hb40, hx41⟩ := idx_some hx41
      refine WL.val (Value.pointer (some (elA u13 ((k19 : Int)).toNat))) _ (op_idx sl_61 (Ty.lift _ (Ext.trans hE7 hS35.ext) hr15) hf31 hf33 ha39 hb40) rfl ?_
      obtain ⟨u42, hc43, hr44⟩ := repSl.el hr15 hx41
      refine WL.val u42 _ (op_load one_25 rfl (Ext.cell (Ext.trans hE7 hS35.ext) hc43)) rfl ?_
      refine WL.val (Value.int .i64 (k19 : Int)) _ (op_assign rfl) rfl ?_
      refine WL.val u42 _ (op_assign rfl) rfl ?_
      refine WL.nil ?_
      show W _ _ _ _ _ _
      refine W.seq ?_
      refine W.seq ?_
      refine W.region ?_
      refine WL.val u42 _ (op_move rfl) rfl ?_
      obtain ⟨x45, hx48, hb25⟩ := bs hb25
      obtain ⟨ha46, hb47, hx48⟩ := idx_some hx48
      refine WL.val (Value.pointer (some (elA u42 ((0 : Int)).toNat))) _ (op_idx sl_25 (Ty.lift _ (Ext.trans hE7 hS35.ext) hr44) rfl rfl ha46 hb47) rfl ?_
      obtain ⟨u49, hc50, hr51⟩ := repSl.el hr44 hx48
      obtain ⟨rfl, hr51⟩ := hr51
      refine WL.val (Value.int .i64 x45) _ (op_load one_2 rfl (Ext.cell (Ext.trans hE7 hS35.ext) hc50)) rfl ?_
      refine WL.val (Value.bool (x45 == (0 : Int))) _ (op_eql rfl rfl) rfl ?_
      refine WL.nil ?_
      show W _ _ _ _ _ _
      refine W.cond (x45 == (0 : Int)) rfl (fun hc52 => ?_) (fun hc52 => ?_)
      · replace hb25 := ip hb25 hc52
        refine W.exit ?_
        show W _ _ _ _ _ _
        refine W.region ?_
        refine WL.val (Value.int .i64 (w64 ((k19 : Int) + (1 : Int)))) _ (op_add hf33 rfl) rfl ?_
        refine WL.val (Value.int .i64 (w64 ((k19 : Int) + (1 : Int)))) _ (op_move rfl) rfl ?_
        refine WL.nil ?_
        obtain rfl := Option.some.inj hb25
        show ∃ s, _ = Ctl.next s ∧ _
        exact ⟨_, rfl, hf29, hr30, hf31, hf32, (ctr_next hl36 hr16), (ctr_rng hl36 hr16), hS35⟩
      · replace hb25 := inegb hb25 hc52
        refine W.skip ?_
        show W _ _ _ _ _ _
        refine W.seq ?_
        refine W.seq ?_
        refine W.region ?_
        refine WL.val (Value.int .i64 x20) _ (op_move hf29) rfl ?_
        refine WL.val (Value.bool (decide (x20 ≥ (0 : Int)))) _ (op_geq rfl rfl) rfl ?_
        refine WL.val (Value.bool (decide (x20 ≥ (0 : Int)))) _ (op_move rfl) rfl ?_
        refine WL.cut 5 (fun fq wq => fq 6 = (Value.int .i64 (k19 : Int)) ∧ fq 12 = u13 ∧ fq 13 = (Value.int .i64 ((x9).length : Int)) ∧ fq 14 = (Value.int .i64 (k19 : Int)) ∧ fq 30 = (Value.bool ((decide (x20 ≥ (0 : Int))) || (x45 != (1 : Int)))) ∧ St wd2 wq []) ?_ ?_
        · rcases Bool.eq_false_or_eq_true (decide (x20 ≥ (0 : Int))) with hc54 | hc54
          · refine WL.gskip rfl (bool_of rfl hc54) rfl ?_
            refine WL.gskip rfl (bool_of rfl hc54) rfl ?_
            refine WL.gskip rfl (bool_of rfl hc54) rfl ?_
            refine WL.gskip rfl (bool_of rfl hc54) rfl ?_
            refine WL.val (Value.bool true) _ (op_pick_t (evb_of rfl hc54) rfl) rfl ?_
            refine WL.nil ?_
            exact ⟨rfl, rfl, hf31, hf32, hf33, (orT hc54), hS35⟩
          · refine WL.grun rfl (bool_of rfl hc54) ?_
            refine WL.val u42 _ (op_move rfl) rfl ?_
            refine WL.grun rfl (bool_of rfl hc54) ?_
            refine WL.val (Value.pointer (some (elA u42 ((0 : Int)).toNat))) _ (op_idx sl_25 (Ty.lift _ (Ext.trans hE7 hS35.ext) hr44) rfl rfl ha46 hb47) rfl ?_
            refine WL.grun rfl (bool_of rfl hc54) ?_
            obtain ⟨u58, hc59, hr60⟩ := repSl.el hr44 hx48
            obtain ⟨rfl, hr60⟩ := hr60
            refine WL.val (Value.int .i64 x45) _ (op_load one_2 rfl (Ext.cell (Ext.trans hE7 hS35.ext) hc59)) rfl ?_
            refine WL.grun rfl (bool_of rfl hc54) ?_
            refine WL.val (Value.bool (x45 != (1 : Int))) _ (op_neq rfl rfl) rfl ?_
            refine WL.val (Value.bool (x45 != (1 : Int))) _ (op_pick_f (evb_of rfl hc54) rfl) rfl ?_
            refine WL.nil ?_
            exact ⟨rfl, rfl, hf31, hf32, hf33, (orF hc54), hS35⟩
        · intro f55 wd56 hq57
          obtain ⟨hf61, hf62, hf63, hf64, hf65, hS66⟩ := hq57
          refine WL.nil ?_
          show W _ _ _ _ _ _
          refine W.cond ((decide (x20 ≥ (0 : Int))) || (x45 != (1 : Int))) hf65 (fun hc67 => ?_) (fun hc67 => ?_)
          · replace hb25 := ip hb25 hc67
            refine W.seq ?_
            refine W.region ?_
            refine WL.val (Value.int .i64 (-1 : Int)) _ (op_assign rfl) rfl ?_
            refine WL.nil ?_
            show W _ _ _ _ _ _
            refine W.ret ?_
            obtain rfl := Option.some.inj hb25
            obtain rfl := hret28 _ rfl
            replace h := onRes_ret h
            obtain rfl := Option.some.inj h
            show FinP _ _ _ _ _ _ _
            exact FinP.ret _ (res1 rfl rfl) ⟨rfl, (inR_i64.2 (show (-9223372036854775808 : Int) ≤ -1 ∧ (-1 : Int) ≤ 9223372036854775807 from by decide)), (Ext.trans hE7 hS66.ext)⟩
          · replace hb25 := inegb hb25 hc67
            refine W.skip ?_
            show W _ _ _ _ _ _
            refine W.region ?_
            refine WL.val (Value.int .i64 (k19 : Int)) _ (op_move hf61) rfl ?_
            refine WL.val (Value.int .i64 (k19 : Int)) _ (op_assign rfl) rfl ?_
            refine WL.nil ?_
            show W _ _ _ _ _ _
            refine W.region ?_
            refine WL.val (Value.int .i64 (w64 ((k19 : Int) + (1 : Int)))) _ (op_add hf64 rfl) rfl ?_
            refine WL.val (Value.int .i64 (w64 ((k19 : Int) + (1 : Int)))) _ (op_move rfl) rfl ?_
            refine WL.nil ?_
            obtain rfl := Option.some.inj hb25
            show ∃ s, _ = Ctl.next s ∧ _
            exact ⟨_, rfl, rfl, hr34, hf62, hf63, (ctr_next hl36 hr16), (ctr_rng hl36 hr16), hS66⟩
    · intro x75 f70 wd71 hs72 hI73
      replace hI73 : f70 5 = Value.int .i64 x75 ∧ InR .i64 x75 ∧ f70 12 = u13 ∧ f70 13 = (Value.int .i64 ((x9).length : Int)) ∧ f70 14 = Value.int .i64 (((x9).length : Nat) : Int) ∧ InR .i64 (((x9).length : Nat) : Int) ∧ St wd2 wd71 [] := hI73
      obtain ⟨hf76, hr77, hf78, hf79, hf80, hr81, hS82⟩ := hI73
      refine W.seq ?_
      refine W.region ?_
      refine WL.val (Value.bool (decide ((((x9).length : Nat) : Int) < ((x9).length : Int)))) _ (op_lss hf80 hf79) rfl ?_
      have hl83 : ¬ (((x9).length : Nat) : Int) < ((x9).length : Int) := by omega
      refine WL.nil ?_
      show W _ _ _ _ _ _
      refine W.seq ?_
      refine W.condF (decide ((((x9).length : Nat) : Int) < ((x9).length : Int))) rfl (decide_eq_false hl83) ?_
      refine W.exit ?_
      show _ = _ ∧ _
      exact ⟨rfl, _, hs72, hf76, hr77, hS82⟩
  · rintro f84 wd85 ⟨x88, rfl, hq86⟩
    replace h := onRes_fin h
    replace hq86 : f84 5 = Value.int .i64 x88 ∧ InR .i64 x88 ∧ St wd2 wd85 [] := hq86
    obtain ⟨hf89, hr90, hS91⟩ := hq86
    show W _ _ _ _ _ _
    refine W.seq ?_
    refine W.region ?_
    refine WL.val (Value.int .i64 x88) _ (op_move hf89) rfl ?_
    refine WL.val (Value.int .i64 x88) _ (op_assign rfl) rfl ?_
    refine WL.nil ?_
    show W _ _ _ _ _ _
    refine W.ret ?_
    obtain rfl := Option.some.inj h
    show FinP _ _ _ _ _ _ _
    exact FinP.ret _ (res1 rfl rfl) ⟨rfl, hr90, (Ext.trans hE7 hS91.ext)⟩

theorem c_impl_Ring_dualFault {w : World} {r_Table : (List (List (List Int)))} {v_r_Table : Value} (r_r_Table : (Ty.sl (Ty.sl (Ty.sl (Ty.i .i64)))).rep w v_r_Table r_Table) {res : Int} (h : p_impl_Ring_dualFault r_Table  = some res) :
    Ret Try.prog 84 #[(Value.agg #[v_r_Table])] w (fun v w' => v = Value.int .i64 res ∧ InR .i64 res ∧ Ext w w') := by
  unfold p_impl_Ring_dualFault at h
  have hS0 : St w w [] := St.start w
  refine Ret.start (fn := Try.f84) Try.func84 rfl 25 rfl rfl ?_
  refine W.seq ?_
  refine W.region ?_
  refine WL.box hS0 rfl (cs := [v_r_Table]) rfl rfl ?_
  intro b1 wd2 hS3 he4 hx5
  replace hS3 : St w wd2 [bx b1 [v_r_Table]] := hS3
  have hx6 := St.boxAt hS3 0 rfl
  have hE7 : Ext w wd2 := hS3.ext
  have hS8 : St wd2 wd2 [] := St.start wd2
  refine WL.val (Value.int .i64 (0 : Int)) _ (op_assign rfl) rfl ?_
  refine WL.nil ?_
  show W _ _ _ _ _ _
  refine W.seq ?_
  refine W.seq ?_
  refine W.region ?_
  refine WL.val (Value.pointer (some ⟨b1, 0, none⟩)) _ (op_fieldAddr fd_29_0 rfl) rfl ?_
  refine WL.val v_r_Table _ (op_load one_22 rfl (BoxAt.cell (BoxAt.lift hS8.ext hx6) rfl)) rfl ?_
  have hr9 := inR_len (Ty.lift _ (Ext.trans hE7 hS8.ext) r_r_Table)
  refine WL.val (Value.int .i64 ((r_Table).length : Int)) _ (op_lenL sl_22 (Ty.lift _ (Ext.trans hE7 hS8.ext) r_r_Table) rfl) rfl ?_
  refine WL.val (Value.int .i64 (0 : Int)) _ (op_move rfl) rfl ?_
  refine WL.nil ?_
  show W _ _ _ _ _ _
  obtain ⟨res10, hres11, h⟩ := bs h
  refine W.blockLoop (fun fq wq => ∃ s, res10 = Res.fin s ∧ St wd2 wq []) ?_ ?_
  · refine W.forN (fun k s fq wq => fq 1 = (Value.pointer (some ⟨b1, 0, none⟩)) ∧ fq 7 = (Value.int .i64 ((r_Table).length : Int)) ∧ fq 8 = Value.int .i64 (k : Int) ∧ InR .i64 (k : Int) ∧ St wd2 wq []) hres11 ⟨rfl, rfl, rfl, (inR_i64.2 (show (-9223372036854775808 : Int) ≤ 0 ∧ (0 : Int) ≤ 9223372036854775807 from by decide)), hS8⟩ ?_ ?_
    · intro k12 s56 ct13 f14 wd15 hk16 hb17 hI18 hbrk19 hret20
      obtain ⟨⟩ := s56
      replace hI18 : f14 1 = (Value.pointer (some ⟨b1, 0, none⟩)) ∧ f14 7 = (Value.int .i64 ((r_Table).length : Int)) ∧ f14 8 = Value.int .i64 (k12 : Int) ∧ InR .i64 (k12 : Int) ∧ St wd2 wd15 [] := hI18
      replace hb17 : p_impl_Ring_dualFault_L1 r_Table k12  = some ct13 := hb17
      unfold p_impl_Ring_dualFault_L1 at hb17
      obtain ⟨hf21, hf22, hf23, hr24, hS25⟩ := hI18
      refine W.seq ?_
      refine W.region ?_
      refine WL.val (Value.bool (decide ((k12 : Int) < ((r_Table).length : Int)))) _ (op_lss hf23 hf22) rfl ?_
      have hl26 : (k12 : Int) < ((r_Table).length : Int) := by omega
      refine WL.nil ?_
      show W _ _ _ _ _ _
      refine W.seq ?_
      refine W.condT (decide ((k12 : Int) < ((r_Table).length : Int))) rfl (decide_eq_true hl26) ?_
      refine W.skip ?_
      show W _ _ _ _ _ _
      refine W.seq ?_
      refine W.block ?_
      refine W.seq ?_
      refine W.region ?_
      refine WL.val (Value.int .i64 (k12 : Int)) _ (op_move hf23) rfl ?_
      refine WL.val (Value.int .i64 (k12 : Int)) _ (op_assign rfl) rfl ?_
      refine WL.nil ?_
      show W _ _ _ _ _ _
      refine W.seq ?_
      refine W.region ?_
      refine WL.val (Value.agg #[v_r_Table]) _ (op_loadBox st_29 hf21 (BoxAt.lift hS25.ext hx6) rfl rfl) rfl ?_
      refine WL.val (Value.int .i64 (k12 : Int)) _ (op_move rfl) rfl ?_
      obtain ⟨x28, hx29, hb17⟩ := bs hb17
      refine WL.call _ (op_call fn_76 (args2 rfl rfl)) (c_impl_Ring_onlyOf (Ty.lift _ (Ext.trans hE7 hS25.ext) r_r_Table) hr24 hx29) rfl ?_
      rintro _ wd31 ⟨rfl, hr30, he32⟩
      have hS34 := St.extend hS25 he32
      replace hS34 : St wd2 wd31 [] := hS34
      refine WL.val (Value.int .i64 x28) _ (op_assign rfl) rfl ?_
      refine WL.nil ?_
      show W _ _ _ _ _ _
      refine W.seq ?_
      refine W.region ?_
      refine WL.val (Value.int .i64 x28) _ (op_move rfl) rfl ?_
      refine WL.val (Value.bool (decide (x28 < (0 : Int)))) _ (op_lss rfl rfl) rfl ?_
      refine WL.val (Value.bool (decide (x28 < (0 : Int)))) _ (op_move rfl) rfl ?_
      obtain ⟨x36, hj37, hb17⟩ := bs hb17
      refine WL.cut 6 (fun fq wq => fq 1 = (Value.pointer (some ⟨b1, 0, none⟩)) ∧ fq 3 = (Value.int .i64 (k12 : Int)) ∧ fq 7 = (Value.int .i64 ((r_Table).length : Int)) ∧ fq 8 = (Value.int .i64 (k12 : Int)) ∧ fq 22 = Value.bool x36 ∧ St wd2 wq []) ?_ ?_
      · rcases Bool.eq_false_or_eq_true (decide (x28 < (0 : Int))) with hc35 | hc35
        · replace hj37 := ip hj37 hc35
          refine WL.gskip rfl (bool_of rfl hc35) rfl ?_
          refine WL.gskip rfl (bool_of rfl hc35) rfl ?_
          refine WL.gskip rfl (bool_of rfl hc35) rfl ?_
          refine WL.gskip rfl (bool_of rfl hc35) rfl ?_
          refine WL.gskip rfl (bool_of rfl hc35) rfl ?_
          refine WL.val (Value.bool true) _ (op_pick_t (evb_of rfl hc35) rfl) rfl ?_
          refine WL.nil ?_
          obtain rfl := Option.some.inj hj37
          exact ⟨rfl, hf21, rfl, hf22, hf23, rfl, hS34⟩
        · replace hj37 := inegb hj37 hc35
          refine WL.grun rfl (bool_of rfl hc35) ?_
          refine WL.val (Value.agg #[v_r_Table]) _ (op_loadBox st_29 hf21 (BoxAt.lift hS34.ext hx6) rfl rfl) rfl ?_
          refine WL.grun rfl (bool_of rfl hc35) ?_
          refine WL.val (Value.int .i64 x28) _ (op_move rfl) rfl ?_
          refine WL.grun rfl (bool_of rfl hc35) ?_
          obtain ⟨x41, hx42, hj37⟩ := bs hj37
          refine WL.call _ (op_call fn_76 (args2 rfl rfl)) (c_impl_Ring_onlyOf (Ty.lift _ (Ext.trans hE7 hS34.ext) r_r_Table) hr30 hx42) rfl ?_
          rintro _ wd44 ⟨rfl, hr43, he45⟩
          have hS47 := St.extend hS34 he45
          replace hS47 : St wd2 wd44 [] := hS47
          refine WL.grun rfl (bool_of rfl hc35) ?_
          refine WL.val (Value.int .i64 (k12 : Int)) _ (op_move rfl) rfl ?_
          refine WL.grun rfl (bool_of rfl hc35) ?_
          refine WL.val (Value.bool (x41 != (k12 : Int))) _ (op_neq rfl rfl) rfl ?_
          refine WL.val (Value.bool (x41 != (k12 : Int))) _ (op_pick_f (evb_of rfl hc35) rfl) rfl ?_
          refine WL.nil ?_
          obtain rfl := Option.some.inj hj37
          exact ⟨rfl, hf21, rfl, hf22, hf23, rfl, hS47⟩
      · intro f38 wd39 hq40
        obtain ⟨hf48, hf49, hf50, hf51, hf52, hS53⟩ := hq40
        refine WL.nil ?_
        show W _ _ _ _ _ _
        refine W.cond x36 hf52 (fun hc54 => ?_) (fun hc54 => ?_)
        · replace hb17 := ip hb17 hc54
          refine W.seq ?_
          refine W.region ?_
          refine WL.val (Value.int .i64 (k12 : Int)) _ (op_move hf49) rfl ?_
          refine WL.val (Value.int .i64 (k12 : Int)) _ (op_assign rfl) rfl ?_
          refine WL.nil ?_
          show W _ _ _ _ _ _
          refine W.ret ?_
          obtain rfl := Option.some.inj hb17
          obtain rfl := hret20 _ rfl
          replace h := onRes_ret h
          obtain rfl := Option.some.inj h
          show FinP _ _ _ _ _ _ _
          exact FinP.ret _ (res1 rfl rfl) ⟨rfl, hr24, (Ext.trans hE7 hS53.ext)⟩
        · replace hb17 := inegb hb17 hc54
          refine W.skip ?_
          show W _ _ _ _ _ _
          refine W.region ?_
          refine WL.val (Value.int .i64 (w64 ((k12 : Int) + (1 : Int)))) _ (op_add hf51 rfl) rfl ?_
          refine WL.val (Value.int .i64 (w64 ((k12 : Int) + (1 : Int)))) _ (op_move rfl) rfl ?_
          refine WL.nil ?_
          obtain rfl := Option.some.inj hb17
          show ∃ s, _ = Ctl.next s ∧ _
          exact ⟨_, rfl, hf48, hf50, (ctr_next hl26 hr9), (ctr_rng hl26 hr9), hS53⟩
    · intro s61 f57 wd58 hs59 hI60
      obtain ⟨⟩ := s61
      replace hI60 : f57 1 = (Value.pointer (some ⟨b1, 0, none⟩)) ∧ f57 7 = (Value.int .i64 ((r_Table).length : Int)) ∧ f57 8 = Value.int .i64 (((r_Table).length : Nat) : Int) ∧ InR .i64 (((r_Table).length : Nat) : Int) ∧ St wd2 wd58 [] := hI60
      obtain ⟨hf62, hf63, hf64, hr65, hS66⟩ := hI60
      refine W.seq ?_
      refine W.region ?_
      refine WL.val (Value.bool (decide ((((r_Table).length : Nat) : Int) < ((r_Table).length : Int)))) _ (op_lss hf64 hf63) rfl ?_
      have hl67 : ¬ (((r_Table).length : Nat) : Int) < ((r_Table).length : Int) := by omega
      refine WL.nil ?_
      show W _ _ _ _ _ _
      refine W.seq ?_
      refine W.condF (decide ((((r_Table).length : Nat) : Int) < ((r_Table).length : Int))) rfl (decide_eq_false hl67) ?_
      refine W.exit ?_
      show _ = _ ∧ _
      exact ⟨rfl, _, hs59, hS66⟩
  · rintro f68 wd69 ⟨s71, rfl, hq70⟩
    replace h := onRes_fin h
    obtain ⟨⟩ := s71
    replace hq70 : St wd2 wd69 [] := hq70
    have hS72 := hq70
    show W _ _ _ _ _ _
    refine W.seq ?_
    refine W.region ?_
    refine WL.val (Value.int .i64 (-1 : Int)) _ (op_assign rfl) rfl ?_
    refine WL.nil ?_
    show W _ _ _ _ _ _
    refine W.ret ?_
    obtain rfl := Option.some.inj h
    show FinP _ _ _ _ _ _ _
    exact FinP.ret _ (res1 rfl rfl) ⟨rfl, (inR_i64.2 (show (-9223372036854775808 : Int) ≤ -1 ∧ (-1 : Int) ≤ 9223372036854775807 from by decide)), (Ext.trans hE7 hS72.ext)⟩

theorem c_impl_Ring_duals {w : World} {r_Table : (List (List (List Int)))} {v_r_Table : Value} (r_r_Table : (Ty.sl (Ty.sl (Ty.sl (Ty.i .i64)))).rep w v_r_Table r_Table) {res : (List Int)} (h : p_impl_Ring_duals r_Table  = some res) :
    Ret Try.prog 95 #[(Value.agg #[v_r_Table])] w (fun v w' => ∃ (u0 : Value), v = u0 ∧ Ext w w' ∧ Sep w.heap.size w' [(Ty.sl (Ty.i .i64)).at u0 res]) := by
  unfold p_impl_Ring_duals at h
  have hS0 : St w w [] := St.start w
  refine Ret.start (fn := Try.f95) Try.func95 rfl 20 rfl rfl ?_
  refine W.seq ?_
  refine W.region ?_
  refine WL.box hS0 rfl (cs := [v_r_Table]) rfl rfl ?_
  intro b1 wd2 hS3 he4 hx5
  replace hS3 : St w wd2 [bx b1 [v_r_Table]] := hS3
  have hx6 := St.boxAt hS3 0 rfl
  have hE7 : Ext w wd2 := hS3.ext
  have hS8 : St wd2 wd2 [] := St.start wd2
  refine WL.val (Value.slice none 0 0) _ (op_assign rfl) rfl ?_
  refine WL.nil ?_
  show W _ _ _ _ _ _
  refine W.seq ?_
  refine W.region ?_
  refine WL.lit0 (t := (Ty.i .i64)) hS8 sl_84 rfl rfl ?_
  intro u9 wd10 hS11 he12
  replace hS11 : St wd2 wd10 [(Ty.sl (Ty.i .i64)).at u9 ([] : (List Int))] := hS11
  refine WL.val u9 _ (op_assign rfl) rfl ?_
  refine WL.nil ?_
  show W _ _ _ _ _ _
  refine W.seq ?_
  refine W.seq ?_
  refine W.region ?_
  refine WL.val (Value.pointer (some ⟨b1, 0, none⟩)) _ (op_fieldAddr fd_29_0 rfl) rfl ?_
  refine WL.val v_r_Table _ (op_load one_22 rfl (BoxAt.cell (BoxAt.lift hS11.ext hx6) rfl)) rfl ?_
  have hr13 := inR_len (Ty.lift _ (Ext.trans hE7 hS11.ext) r_r_Table)
  refine WL.val (Value.int .i64 ((r_Table).length : Int)) _ (op_lenL sl_22 (Ty.lift _ (Ext.trans hE7 hS11.ext) r_r_Table) rfl) rfl ?_
  refine WL.val (Value.int .i64 (0 : Int)) _ (op_move rfl) rfl ?_
  refine WL.nil ?_
  show W _ _ _ _ _ _
  obtain ⟨res14, hres15, h⟩ := bs h
  refine W.blockLoop (fun fq wq => ∃ s, res14 = Res.fin s ∧ ∃ (uu0 : Value), fq 3 = uu0 ∧ St wd2 wq [(Ty.sl (Ty.i .i64)).at uu0 s]) ?_ ?_
  · refine W.forN (fun k s fq wq => ∃ (uu0 : Value), fq 1 = (Value.pointer (some ⟨b1, 0, none⟩)) ∧ fq 3 = uu0 ∧ fq 8 = (Value.int .i64 ((r_Table).length : Int)) ∧ fq 9 = Value.int .i64 (k : Int) ∧ InR .i64 (k : Int) ∧ St wd2 wq [(Ty.sl (Ty.i .i64)).at uu0 s]) hres15 ⟨u9, rfl, rfl, rfl, rfl, (inR_i64.2 (show (-9223372036854775808 : Int) ≤ 0 ∧ (0 : Int) ≤ 9223372036854775807 from by decide)), hS11⟩ ?_ ?_
    · intro k16 x17 ct18 f19 wd20 hk21 hb22 hI23 hbrk24 hret25
      replace hI23 : ∃ (uu0 : Value), f19 1 = (Value.pointer (some ⟨b1, 0, none⟩)) ∧ f19 3 = uu0 ∧ f19 8 = (Value.int .i64 ((r_Table).length : Int)) ∧ f19 9 = Value.int .i64 (k16 : Int) ∧ InR .i64 (k16 : Int) ∧ St wd2 wd20 [(Ty.sl (Ty.i .i64)).at uu0 x17] := hI23
      replace hb22 : p_impl_Ring_duals_L1 r_Table k16 x17 = some ct18 := hb22
      unfold p_impl_Ring_duals_L1 at hb22
      obtain ⟨u26, hf27, hf28, hf29, hf30, hr31, hS32⟩ := hI23
      refine W.seq ?_
      refine W.region ?_
      refine WL.val (Value.bool (decide ((k16 : Int) < ((r_Table).length : Int)))) _ (op_lss hf30 hf29) rfl ?_
      have hl33 : (k16 : Int) < ((r_Table).length : Int) := by omega
      refine WL.nil ?_
      show W _ _ _ _ _ _
      refine W.seq ?_
      refine W.condT (decide ((k16 : Int) < ((r_Table).length : Int))) rfl (decide_eq_true hl33) ?_
      refine W.skip ?_
      show W _ _ _ _ _ _
      refine W.seq ?_
      refine W.block ?_
      refine W.seq ?_
      refine W.region ?_
      refine WL.val (Value.int .i64 (k16 : Int)) _ (op_move hf30) rfl ?_
      refine WL.val (Value.int .i64 (k16 : Int)) _ (op_assign rfl) rfl ?_
      refine WL.nil ?_
      show W _ _ _ _ _ _
      refine W.region ?_
      refine WL.val u26 _ (op_move hf28) rfl ?_
      refine WL.val (Value.agg #[v_r_Table]) _ (op_loadBox st_29 hf27 (BoxAt.lift hS32.ext hx6) rfl rfl) rfl ?_
      refine WL.val (Value.int .i64 (k16 : Int)) _ (op_move rfl) rfl ?_
      obtain ⟨x35, hx36, hb22⟩ := bs hb22
      refine WL.call _ (op_call fn_76 (args2 rfl rfl)) (c_impl_Ring_onlyOf (Ty.lift _ (Ext.trans hE7 hS32.ext) r_r_Table) hr31 hx36) rfl ?_
      rintro _ wd38 ⟨rfl, hr37, he39⟩
      have hS41 := St.extend hS32 he39
      replace hS41 : St wd2 wd38 [(Ty.sl (Ty.i .i64)).at u26 x17] := hS41
      refine WL.litFlat (t := (Ty.i .i64)) (flat_i .i64) [(Value.int .i64 x35)] [x35] hS41 sl_84 rfl rfl (fillL rfl ⟨rfl, rfl, rfl, trivial⟩) rfl rfl (litL ⟨⟨rfl, hr37⟩, trivial⟩) rfl ?_
      intro u42 wd43 hS44 he45
      replace hS44 : St wd2 wd43 [(Ty.sl (Ty.i .i64)).at u26 x17, (Ty.sl (Ty.i .i64)).at u42 ([x35] : (List Int))] := hS44
      obtain ⟨x46, hx47, hb22⟩ := bs hb22
      refine WL.append (flat_i .i64) hS44 (k := 0) rfl sl_84 rfl rfl rfl rfl (St.rep (t := (Ty.sl (Ty.i .i64))) hS44 1 rfl) hx47 rfl ?_
      intro u48 wd49 hS50 hz51
      replace hS50 : St wd2 wd49 [(Ty.sl (Ty.i .i64)).at u48 x46, (Ty.sl (Ty.i .i64)).at u42 ([x35] : (List Int))] := hS50
      refine WL.val u48 _ (op_assign rfl) rfl ?_
      refine WL.nil ?_
      show W _ _ _ _ _ _
      refine W.region ?_
      refine WL.val (Value.int .i64 (w64 ((k16 : Int) + (1 : Int)))) _ (op_add hf30 rfl) rfl ?_
      refine WL.val (Value.int .i64 (w64 ((k16 : Int) + (1 : Int)))) _ (op_move rfl) rfl ?_
      refine WL.nil ?_
      obtain rfl := Option.some.inj hb22
      show ∃ s, _ = Ctl.next s ∧ _
      exact ⟨_, rfl, u48, hf27, rfl, hf29, (ctr_next hl33 hr13), (ctr_rng hl33 hr13), (St.pick hS50 [0] rfl)⟩
    · intro x58 f53 wd54 hs55 hI56
      replace hI56 : ∃ (uu0 : Value), f53 1 = (Value.pointer (some ⟨b1, 0, none⟩)) ∧ f53 3 = uu0 ∧ f53 8 = (Value.int .i64 ((r_Table).length : Int)) ∧ f53 9 = Value.int .i64 (((r_Table).length : Nat) : Int) ∧ InR .i64 (((r_Table).length : Nat) : Int) ∧ St wd2 wd54 [(Ty.sl (Ty.i .i64)).at uu0 x58] := hI56
      obtain ⟨u59, hf60, hf61, hf62, hf63, hr64, hS65⟩ := hI56
      refine W.seq ?_
      refine W.region ?_
      refine WL.val (Value.bool (decide ((((r_Table).length : Nat) : Int) < ((r_Table).length : Int)))) _ (op_lss hf63 hf62) rfl ?_
      have hl66 : ¬ (((r_Table).length : Nat) : Int) < ((r_Table).length : Int) := by omega
      refine WL.nil ?_
      show W _ _ _ _ _ _
      refine W.seq ?_
      refine W.condF (decide ((((r_Table).length : Nat) : Int) < ((r_Table).length : Int))) rfl (decide_eq_false hl66) ?_
      refine W.exit ?_
      show _ = _ ∧ _
      exact ⟨rfl, _, hs55, u59, hf61, hS65⟩
  · rintro f67 wd68 ⟨x71, rfl, hq69⟩
    replace h := onRes_fin h
    replace hq69 : ∃ (uu0 : Value), f67 3 = uu0 ∧ St wd2 wd68 [(Ty.sl (Ty.i .i64)).at uu0 x71] := hq69
    obtain ⟨u72, hf73, hS74⟩ := hq69
    show W _ _ _ _ _ _
    refine W.seq ?_
    refine W.region ?_
    refine WL.val u72 _ (op_move hf73) rfl ?_
    refine WL.val u72 _ (op_assign rfl) rfl ?_
    refine WL.nil ?_
    show W _ _ _ _ _ _
    refine W.ret ?_
    obtain rfl := Option.some.inj h
    show FinP _ _ _ _ _ _ _
    exact FinP.ret _ (res1 rfl rfl) ⟨u72, rfl, (Ext.trans hE7 hS74.ext), (St.out (St.pick hS74 [0] rfl) (hE7))⟩

theorem c_impl_Ring_turnFault {w : World} {r_Table : (List (List (List Int)))} {v_r_Table : Value} (r_r_Table : (Ty.sl (Ty.sl (Ty.sl (Ty.i .i64)))).rep w v_r_Table r_Table) {res : (List Int)} (h : p_impl_Ring_turnFault r_Table  = some res) :
    Ret Try.prog 85 #[(Value.agg #[v_r_Table])] w (fun v w' => ∃ (u0 : Value), v = u0 ∧ NilIff u0 res ∧ Ext w w' ∧ Sep w.heap.size w' [(Ty.sl (Ty.i .i64)).at u0 res]) := by
  unfold p_impl_Ring_turnFault at h
  have hS0 : St w w [] := St.start w
  refine Ret.start (fn := Try.f85) Try.func85 rfl 80 rfl rfl ?_
  refine W.seq ?_
  refine W.region ?_
  refine WL.box hS0 rfl (cs := [v_r_Table]) rfl rfl ?_
  intro b1 wd2 hS3 he4 hx5
  replace hS3 : St w wd2 [bx b1 [v_r_Table]] := hS3
  have hx6 := St.boxAt hS3 0 rfl
  have hE7 : Ext w wd2 := hS3.ext
  have hS8 : St wd2 wd2 [] := St.start wd2
  refine WL.val (Value.slice none 0 0) _ (op_assign rfl) rfl ?_
  refine WL.nil ?_
  show W _ _ _ _ _ _
  refine W.seq ?_
  refine W.region ?_
  refine WL.val (Value.agg #[v_r_Table]) _ (op_loadBox st_29 rfl (BoxAt.lift hS8.ext hx6) rfl rfl) rfl ?_
  obtain ⟨x9, hx10, h⟩ := bs h
  refine WL.call _ (op_call fn_95 (args1 rfl)) (c_impl_Ring_duals (Ty.lift _ (Ext.trans hE7 hS8.ext) r_r_Table) hx10) rfl ?_
  rintro u11 wd12 ⟨_, rfl, he13, hs14⟩
  have hS15 := St.join hS8 he13 hs14
  replace hS15 : St wd2 wd12 [(Ty.sl (Ty.i .i64)).at u11 x9] := hS15
  have hb16 := St.rep (t := (Ty.sl (Ty.i .i64))) hS15 0 rfl
  have hE17 : Ext w wd12 := (Ext.trans hE7 hS15.ext)
  have hE18 : Ext wd2 wd12 := hS15.ext
  have hS19 : St wd12 wd12 [] := St.start wd12
  refine WL.val u11 _ (op_assign rfl) rfl ?_
  refine WL.nil ?_
  show W _ _ _ _ _ _
  refine W.seq ?_
  refine W.seq ?_
  refine W.region ?_
  refine WL.val (Value.pointer (some ⟨b1, 0, none⟩)) _ (op_fieldAddr fd_29_0 rfl) rfl ?_
  refine WL.val v_r_Table _ (op_load one_22 rfl (BoxAt.cell (BoxAt.lift (Ext.trans hE18 hS19.ext) hx6) rfl)) rfl ?_
  have hr20 := inR_len (Ty.lift _ (Ext.trans hE17 hS19.ext) r_r_Table)
  refine WL.val (Value.int .i64 ((r_Table).length : Int)) _ (op_lenL sl_22 (Ty.lift _ (Ext.trans hE17 hS19.ext) r_r_Table) rfl) rfl ?_
  refine WL.val (Value.int .i64 (0 : Int)) _ (op_move rfl) rfl ?_
  refine WL.nil ?_
  show W _ _ _ _ _ _
  obtain ⟨res21, hres22, h⟩ := bs h
  refine W.blockLoop (fun fq wq => ∃ s, res21 = Res.fin s ∧ St wd12 wq []) ?_ ?_
  · refine W.forN (fun k s fq wq => fq 1 = (Value.pointer (some ⟨b1, 0, none⟩)) ∧ fq 3 = u11 ∧ fq 12 = (Value.int .i64 ((r_Table).length : Int)) ∧ fq 13 = Value.int .i64 (k : Int) ∧ InR .i64 (k : Int) ∧ St wd12 wq []) hres22 ⟨rfl, rfl, rfl, rfl, (inR_i64.2 (show (-9223372036854775808 : Int) ≤ 0 ∧ (0 : Int) ≤ 9223372036854775807 from by decide)), hS19⟩ ?_ ?_
    · intro k23 s669 ct24 f25 wd26 hk27 hb28 hI29 hbrk30 hret31
      obtain ⟨⟩ := s669
      replace hI29 : f25 1 = (Value.pointer (some ⟨b1, 0, none⟩)) ∧ f25 3 = u11 ∧ f25 12 = (Value.int .i64 ((r_Table).length : Int)) ∧ f25 13 = Value.int .i64 (k23 : Int) ∧ InR .i64 (k23 : Int) ∧ St wd12 wd26 [] := hI29
      replace hb28 : p_impl_Ring_turnFault_L1 r_Table x9 k23  = some ct24 := hb28
      unfold p_impl_Ring_turnFault_L1 at hb28
      obtain ⟨hf32, hf33, hf34, hf35, hr36, hS37⟩ := hI29
      refine W.seq ?_
      refine W.region ?_
      refine WL.val (Value.bool (decide ((k23 : Int) < ((r_Table).length : Int)))) _ (op_lss hf35 hf34) rfl ?_
      have hl38 : (k23 : Int) < ((r_Table).length : Int) := by omega
      refine WL.nil ?_
      show W _ _ _ _ _ _
      refine W.seq ?_
      refine W.condT (decide ((k23 : Int) < ((r_Table).length : Int))) rfl (decide_eq_true hl38) ?_
      refine W.skip ?_
      show W _ _ _ _ _ _
      refine W.seq ?_
      refine W.block ?_
      refine W.seq ?_
      refine W.region ?_
      refine WL.val (Value.int .i64 (k23 : Int)) _ (op_move hf35) rfl ?_
      refine WL.val (Value.int .i64 (k23 : Int)) _ (op_assign rfl) rfl ?_
      refine WL.nil ?_
      show W _ _ _ _ _ _
      refine W.seq ?_
      refine W.region ?_
      refine WL.val (Value.pointer (some ⟨b1, 0, none⟩)) _ (op_fieldAddr fd_29_0 hf32) rfl ?_
      refine WL.val v_r_Table _ (op_load one_22 rfl (BoxAt.cell (BoxAt.lift (Ext.trans hE18 hS37.ext) hx6) rfl)) rfl ?_
      have hr40 := inR_len (Ty.lift _ (Ext.trans hE17 hS37.ext) r_r_Table)
      refine WL.val (Value.int .i64 ((r_Table).length : Int)) _ (op_lenL sl_22 (Ty.lift _ (Ext.trans hE17 hS37.ext) r_r_Table) rfl) rfl ?_
      refine WL.val (Value.int .i64 (0 : Int)) _ (op_move rfl) rfl ?_
      refine WL.nil ?_
      show W _ _ _ _ _ _
      obtain ⟨res41, hres42, hb28⟩ := bs hb28
      refine W.blockLoop (fun fq wq => ∃ s, res41 = Res.fin s ∧ fq 1 = (Value.pointer (some ⟨b1, 0, none⟩)) ∧ fq 3 = u11 ∧ fq 12 = (Value.int .i64 ((r_Table).length : Int)) ∧ fq 13 = (Value.int .i64 (k23 : Int)) ∧ St wd12 wq []) ?_ ?_
      · refine W.forN (fun k s fq wq => fq 1 = (Value.pointer (some ⟨b1, 0, none⟩)) ∧ fq 3 = u11 ∧ fq 4 = (Value.int .i64 (k23 : Int)) ∧ fq 12 = (Value.int .i64 ((r_Table).length : Int)) ∧ fq 13 = (Value.int .i64 (k23 : Int)) ∧ fq 18 = (Value.int .i64 ((r_Table).length : Int)) ∧ fq 19 = Value.int .i64 (k : Int) ∧ InR .i64 (k : Int) ∧ St wd12 wq []) hres42 ⟨hf32, hf33, rfl, hf34, hf35, rfl, rfl, (inR_i64.2 (show (-9223372036854775808 : Int) ≤ 0 ∧ (0 : Int) ≤ 9223372036854775807 from by decide)), hS37⟩ ?_ ?_
        · intro k43 s643 ct44 f45 wd46 hk47 hb48 hI49 hbrk50 hret51
          obtain ⟨⟩ := s643
          replace hI49 : f45 1 = (Value.pointer (some ⟨b1, 0, none⟩)) ∧ f45 3 = u11 ∧ f45 4 = (Value.int .i64 (k23 : Int)) ∧ f45 12 = (Value.int .i64 ((r_Table).length : Int)) ∧ f45 13 = (Value.int .i64 (k23 : Int)) ∧ f45 18 = (Value.int .i64 ((r_Table).length : Int)) ∧ f45 19 = Value.int .i64 (k43 : Int) ∧ InR .i64 (k43 : Int) ∧ St wd12 wd46 [] := hI49
          replace hb48 : p_impl_Ring_turnFault_L2 r_Table k23 x9 k43  = some ct44 := hb48
          unfold p_impl_Ring_turnFault_L2 at hb48
          obtain ⟨hf52, hf53, hf54, hf55, hf56, hf57, hf58, hr59, hS60⟩ := hI49
          refine W.seq ?_
          refine W.region ?_
          refine WL.val (Value.bool (decide ((k43 : Int) < ((r_Table).length : Int)))) _ (op_lss hf58 hf57) rfl ?_
          have hl61 : (k43 : Int) < ((r_Table).length : Int) := by omega
          refine WL.nil ?_
          show W _ _ _ _ _ _
          refine W.seq ?_
          refine W.condT (decide ((k43 : Int) < ((r_Table).length : Int))) rfl (decide_eq_true hl61) ?_
          refine W.skip ?_
          show W _ _ _ _ _ _
          refine W.seq ?_
          refine W.block ?_
          refine W.seq ?_
          refine W.region ?_
          refine WL.val (Value.int .i64 (k43 : Int)) _ (op_move hf58) rfl ?_
          refine WL.val (Value.int .i64 (k43 : Int)) _ (op_assign rfl) rfl ?_
          refine WL.nil ?_
          show W _ _ _ _ _ _
          refine W.seq ?_
          refine W.region ?_
          refine WL.val (Value.pointer (some ⟨b1, 0, none⟩)) _ (op_fieldAddr fd_29_0 hf52) rfl ?_
          refine WL.val v_r_Table _ (op_load one_22 rfl (BoxAt.cell (BoxAt.lift (Ext.trans hE18 hS60.ext) hx6) rfl)) rfl ?_
          have hr63 := inR_len (Ty.lift _ (Ext.trans hE17 hS60.ext) r_r_Table)
          refine WL.val (Value.int .i64 ((r_Table).length : Int)) _ (op_lenL sl_22 (Ty.lift _ (Ext.trans hE17 hS60.ext) r_r_Table) rfl) rfl ?_
          refine WL.val (Value.int .i64 (0 : Int)) _ (op_move rfl) rfl ?_
          refine WL.nil ?_
          show W _ _ _ _ _ _
          obtain ⟨res64, hres65, hb48⟩ := bs hb48
          refine W.blockLoop (fun fq wq => ∃ s, res64 = Res.fin s ∧ fq 1 = (Value.pointer (some ⟨b1, 0, none⟩)) ∧ fq 3 = u11 ∧ fq 4 = (Value.int .i64 (k23 : Int)) ∧ fq 12 = (Value.int .i64 ((r_Table).length : Int)) ∧ fq 13 = (Value.int .i64 (k23 : Int)) ∧ fq 18 = (Value.int .i64 ((r_Table).length : Int)) ∧ fq 19 = (Value.int .i64 (k43 : Int)) ∧ St wd12 wq []) ?_ ?_
          · refine W.forN (fun k s fq wq => fq 1 = (Value.pointer (some ⟨b1, 0, none⟩)) ∧ fq 3 = u11 ∧ fq 4 = (Value.int .i64 (k23 : Int)) ∧ fq 5 = (Value.int .i64 (k43 : Int)) ∧ fq 12 = (Value.int .i64 ((r_Table).length : Int)) ∧ fq 13 = (Value.int .i64 (k23 : Int)) ∧ fq 18 = (Value.int .i64 ((r_Table).length : Int)) ∧ fq 19 = (Value.int .i64 (k43 : Int)) ∧ fq 24 = (Value.int .i64 ((r_Table).length : Int)) ∧ fq 25 = Value.int .i64 (k : Int) ∧ InR .i64 (k : Int) ∧ St wd12 wq []) hres65 ⟨hf52, hf53, hf54, rfl, hf55, hf56, hf57, hf58, rfl, rfl, (inR_i64.2 (show (-9223372036854775808 : Int) ≤ 0 ∧ (0 : Int) ≤ 9223372036854775807 from by decide)), hS60⟩ ?_ ?_
            · intro k66 s611 ct67 f68 wd69 hk70 hb71 hI72 hbrk73 hret74
              obtain ⟨⟩ := s611
              replace hI72 : f68 1 = (Value.pointer (some ⟨b1, 0, none⟩)) ∧ f68 3 = u11 ∧ f68 4 = (Value.int .i64 (k23 : Int)) ∧ f68 5 = (Value.int .i64 (k43 : Int)) ∧ f68 12 = (Value.int .i64 ((r_Table).length : Int)) ∧ f68 13 = (Value.int .i64 (k23 : Int)) ∧ f68 18 = (Value.int .i64 ((r_Table).length : Int)) ∧ f68 19 = (Value.int .i64 (k43 : Int)) ∧ f68 24 = (Value.int .i64 ((r_Table).length : Int)) ∧ f68 25 = Value.int .i64 (k66 : Int) ∧ InR .i64 (k66 : Int) ∧ St wd12 wd69 [] := hI72
              replace hb71 : p_impl_Ring_turnFault_L3 r_Table k23 k43 x9 k66  = some ct67 := hb71
              unfold p_impl_Ring_turnFault_L3 at hb71
              obtain ⟨hf75, hf76, hf77, hf78, hf79, hf80, hf81, hf82, hf83, hf84, hr85, hS86⟩ := hI72
              refine W.seq ?_
              refine W.region ?_
              refine WL.val (Value.bool (decide ((k66 : Int) < ((r_Table).length : Int)))) _ (op_lss hf84 hf83) rfl ?_
              have hl87 : (k66 : Int) < ((r_Table).length : Int) := by omega
              refine WL.nil ?_
              show W _ _ _ _ _ _
              refine W.seq ?_
              refine W.condT (decide ((k66 : Int) < ((r_Table).length : Int))) rfl (decide_eq_true hl87) ?_
              refine W.skip ?_
              show W _ _ _ _ _ _
              refine W.seq ?_
              refine W.block ?_
              refine W.seq ?_
              refine W.region ?_
              refine WL.val (Value.int .i64 (k66 : Int)) _ (op_move hf84) rfl ?_
              refine WL.val (Value.int .i64 (k66 : Int)) _ (op_assign rfl) rfl ?_
              refine WL.nil ?_
              show W _ _ _ _ _ _
              refine W.seq ?_
              refine W.region ?_
              refine WL.val (Value.pointer (some ⟨b1, 0, none⟩)) _ (op_fieldAddr fd_29_0 hf75) rfl ?_
              refine WL.val v_r_Table _ (op_load one_22 rfl (BoxAt.cell (BoxAt.lift (Ext.trans hE18 hS86.ext) hx6) rfl)) rfl ?_
              refine WL.val (Value.int .i64 (k23 : Int)) _ (op_move hf77) rfl ?_
              obtain ⟨x89, hx92, hb71⟩ := bs hb71
              obtain ⟨ha90, hb91, hx92⟩ := idx_some hx92
              refine WL.val (Value.pointer (some (elA v_r_Table ((k23 : Int)).toNat))) _ (op_idx sl_22 (Ty.lift _ (Ext.trans hE17 hS86.ext) r_r_Table) rfl rfl ha90 hb91) rfl ?_
              obtain ⟨u93, hc94, hr95⟩ := repSl.el r_r_Table hx92
              refine WL.val u93 _ (op_load one_61 rfl (Ext.cell (Ext.trans hE17 hS86.ext) hc94)) rfl ?_
              refine WL.val (Value.int .i64 (k43 : Int)) _ (op_move hf78) rfl ?_
              obtain ⟨x96, hx99, hb71⟩ := bs hb71
              obtain ⟨ha97, hb98, hx99⟩ := idx_some hx99
              refine WL.val (Value.pointer (some (elA u93 ((k43 : Int)).toNat))) _ (op_idx sl_61 (Ty.lift _ (Ext.trans hE17 hS86.ext) hr95) rfl rfl ha97 hb98) rfl ?_
              obtain ⟨u100, hc101, hr102⟩ := repSl.el hr95 hx99
              refine WL.val u100 _ (op_load one_25 rfl (Ext.cell (Ext.trans hE17 hS86.ext) hc101)) rfl ?_
              refine WL.val (Value.int .i64 (k66 : Int)) _ (op_move rfl) rfl ?_
              obtain ⟨x103, hx106, hb71⟩ := bs hb71
              obtain ⟨ha104, hb105, hx106⟩ := idx_some hx106
              refine WL.val (Value.pointer (some (elA u100 ((k66 : Int)).toNat))) _ (op_idx sl_25 (Ty.lift _ (Ext.trans hE17 hS86.ext) hr102) rfl rfl ha104 hb105) rfl ?_
              obtain ⟨u107, hc108, hr109⟩ := repSl.el hr102 hx106
              obtain ⟨rfl, hr109⟩ := hr109
              refine WL.val (Value.int .i64 x103) _ (op_load one_2 rfl (Ext.cell (Ext.trans hE17 hS86.ext) hc108)) rfl ?_
              refine WL.val (Value.int .i64 x103) _ (op_assign rfl) rfl ?_
              refine WL.nil ?_
              show W _ _ _ _ _ _
              refine W.seq ?_
              obtain ⟨x154, hx157, hb71⟩ := bs hb71
              obtain ⟨ha155, hb156, hx157⟩ := idx_some hx157
              obtain ⟨u165, hc166, hr167⟩ := repSl.el hb16 hx157
              obtain ⟨rfl, hr167⟩ := hr167
              obtain ⟨x177, hx180, hb71⟩ := bs hb71
              obtain ⟨ha178, hb179, hx180⟩ := idx_some hx180
              obtain ⟨u188, hc189, hr190⟩ := repSl.el r_r_Table hx180
              obtain ⟨x207, hx210, hb71⟩ := bs hb71
              obtain ⟨ha208, hb209, hx210⟩ := idx_some hx210
              obtain ⟨u218, hc219, hr220⟩ := repSl.el hr190 hx210
              obtain ⟨x237, hx240, hb71⟩ := bs hb71
              obtain ⟨ha238, hb239, hx240⟩ := idx_some hx240
              obtain ⟨u248, hc249, hr250⟩ := repSl.el hr220 hx240
              obtain ⟨rfl, hr250⟩ := hr250
              obtain ⟨x268, hj269, hb71⟩ := bs hb71
              refine W.cutCode (fun fq wq => fq 1 = (Value.pointer (some ⟨b1, 0, none⟩)) ∧ fq 3 = u11 ∧ fq 4 = (Value.int .i64 (k23 : Int)) ∧ fq 5 = (Value.int .i64 (k43 : Int)) ∧ fq 6 = (Value.int .i64 (k66 : Int)) ∧ fq 12 = (Value.int .i64 ((r_Table).length : Int)) ∧ fq 13 = (Value.int .i64 (k23 : Int)) ∧ fq 18 = (Value.int .i64 ((r_Table).length : Int)) ∧ fq 19 = (Value.int .i64 (k43 : Int)) ∧ fq 24 = (Value.int .i64 ((r_Table).length : Int)) ∧ fq 25 = (Value.int .i64 (k66 : Int)) ∧ fq 72 = Value.bool x268 ∧ St wd12 wq []) ?_ ?_
              · rcases Bool.eq_false_or_eq_true (x103 != x237) with hc270 | hc270
                · replace hj269 := ip hj269 hc270
                  refine W.draw mixo 32 [fun v _ => v = (Value.int .i64 x103) ∧ InR .i64 x103, fun v _ => v = (Value.pointer (some ⟨b1, 0, none⟩)), fun v _ => v = v_r_Table, fun v _ => v = u11, fun v _ => v = (Value.int .i64 (k23 : Int)) ∧ InR .i64 (k23 : Int), fun v _ => v = (Value.pointer (some (elA u11 ((k23 : Int)).toNat))), fun v _ => v = (Value.int .i64 x154) ∧ InR .i64 x154, fun v _ => v = (Value.pointer (some (elA v_r_Table (x154).toNat))), fun v _ => v = u188, fun v _ => v = (Value.int .i64 (k66 : Int)) ∧ InR .i64 (k66 : Int), fun v _ => v = (Value.pointer (some (elA u188 ((k66 : Int)).toNat))), fun v _ => v = u218, fun v _ => v = (Value.int .i64 (k43 : Int)) ∧ InR .i64 (k43 : Int), fun v _ => v = (Value.pointer (some (elA u218 ((k43 : Int)).toNat))), fun v _ => v = (Value.int .i64 x237) ∧ InR .i64 x237, fun v _ => v = (Value.bool (x103 != x237)), fun v _ => v = (Value.bool (x103 != x237)), fun v _ => v = undef, fun v _ => v = undef, fun v _ => v = undef, fun v _ => v = undef, fun v _ => v = undef, fun v _ => v = undef, fun v _ => v = undef, fun v _ => v = undef, fun v _ => v = undef, fun v _ => v = undef, fun v _ => v = undef, fun v _ => v = undef, fun v _ => v = undef, fun v _ => v = undef, fun v _ => v = undef] (by kernel_rfl) (by kernel_rfl) (stabL ⟨(fun _ _ _ _ h => h), (fun _ _ _ _ h => h), (fun _ _ _ _ h => h), (fun _ _ _ _ h => h), (fun _ _ _ _ h => h), (fun _ _ _ _ h => h), (fun _ _ _ _ h => h), (fun _ _ _ _ h => h), (fun _ _ _ _ h => h), (fun _ _ _ _ h => h), (fun _ _ _ _ h => h), (fun _ _ _ _ h => h), (fun _ _ _ _ h => h), (fun _ _ _ _ h => h), (fun _ _ _ _ h => h), (fun _ _ _ _ h => h), (fun _ _ _ _ h => h), (fun _ _ _ _ h => h), (fun _ _ _ _ h => h), (fun _ _ _ _ h => h), (fun _ _ _ _ h => h), (fun _ _ _ _ h => h), (fun _ _ _ _ h => h), (fun _ _ _ _ h => h), (fun _ _ _ _ h => h), (fun _ _ _ _ h => h), (fun _ _ _ _ h => h), (fun _ _ _ _ h => h), (fun _ _ _ _ h => h), (fun _ _ _ _ h => h), (fun _ _ _ _ h => h), (fun _ _ _ _ h => h), trivial⟩) ⟨?_, ?_, ?_, ?_, ?_, ?_, ?_, ?_, ?_, ?_, ?_, ?_, ?_, ?_, ?_, ?_, ?_, ?_, ?_, ?_, ?_, ?_, ?_, ?_, ?_, ?_, ?_, ?_, ?_, ?_, ?_, ?_, trivial⟩ ?_
                  · intro f110 wd111 he112 hout113 hphi114
                    have hS115 : St wd12 wd111 [] := St.extend hS86 he112
                    have e116 : f110 7 = (Value.int .i64 x103) := (hout113 7 rfl).trans rfl
                    exact OpY.val (Value.int .i64 x103) wd111 rfl (op_move e116) (Ext.refl _) ⟨rfl, hr109⟩
                  · intro f117 wd118 he119 hout120 hphi121
                    have hS122 : St wd12 wd118 [] := St.extend hS86 he119
                    have e123 : f117 1 = (Value.pointer (some ⟨b1, 0, none⟩)) := (hout120 1 rfl).trans hf75
                    exact OpY.val (Value.pointer (some ⟨b1, 0, none⟩)) wd118 rfl (op_fieldAddr fd_29_0 e123) (Ext.refl _) rfl
                  · intro f124 wd125 he126 hout127 hphi128
                    have hS129 : St wd12 wd125 [] := St.extend hS86 he126
                    have e130 : f124 40 = (Value.pointer (some ⟨b1, 0, none⟩)) := hphi128 1 40 _ rfl rfl rfl
                    exact OpY.val v_r_Table wd125 rfl (op_load one_22 e130 (BoxAt.cell (BoxAt.lift (Ext.trans hE18 hS129.ext) hx6) rfl)) (Ext.refl _) rfl
                  · intro f131 wd132 he133 hout134 hphi135
                    have hS136 : St wd12 wd132 [] := St.extend hS86 he133
                    have e137 : f131 3 = u11 := (hout134 3 rfl).trans hf76
                    exact OpY.val u11 wd132 rfl (op_move e137) (Ext.refl _) rfl
                  · intro f138 wd139 he140 hout141 hphi142
                    have hS143 : St wd12 wd139 [] := St.extend hS86 he140
                    have e144 : f138 4 = (Value.int .i64 (k23 : Int)) := (hout141 4 rfl).trans hf77
                    exact OpY.val (Value.int .i64 (k23 : Int)) wd139 rfl (op_move e144) (Ext.refl _) ⟨rfl, hr36⟩
                  · intro f145 wd146 he147 hout148 hphi149
                    have hS150 : St wd12 wd146 [] := St.extend hS86 he147
                    have e151 : f145 42 = u11 := hphi149 3 42 _ rfl rfl rfl
                    obtain ⟨e152, hr153⟩ : f145 43 = (Value.int .i64 (k23 : Int)) ∧ InR .i64 (k23 : Int) := hphi149 4 43 _ rfl rfl rfl
                    exact OpY.val (Value.pointer (some (elA u11 ((k23 : Int)).toNat))) wd146 rfl (op_idx sl_84 (Ty.lift _ hS150.ext hb16) e151 e152 ha155 hb156) (Ext.refl _) rfl
                  · intro f158 wd159 he160 hout161 hphi162
                    have hS163 : St wd12 wd159 [] := St.extend hS86 he160
                    have e164 : f158 44 = (Value.pointer (some (elA u11 ((k23 : Int)).toNat))) := hphi162 5 44 _ rfl rfl rfl
                    exact OpY.val (Value.int .i64 x154) wd159 rfl (op_load one_3 e164 (Ext.cell hS163.ext hc166)) (Ext.refl _) ⟨rfl, hr167⟩
                  · intro f168 wd169 he170 hout171 hphi172
                    have hS173 : St wd12 wd169 [] := St.extend hS86 he170
                    have e174 : f168 41 = v_r_Table := hphi172 2 41 _ rfl rfl rfl
                    obtain ⟨e175, hr176⟩ : f168 45 = (Value.int .i64 x154) ∧ InR .i64 x154 := hphi172 6 45 _ rfl rfl rfl
                    exact OpY.val (Value.pointer (some (elA v_r_Table (x154).toNat))) wd169 rfl (op_idx sl_22 (Ty.lift _ (Ext.trans hE17 hS173.ext) r_r_Table) e174 e175 ha178 hb179) (Ext.refl _) rfl
                  · intro f181 wd182 he183 hout184 hphi185
                    have hS186 : St wd12 wd182 [] := St.extend hS86 he183
                    have e187 : f181 46 = (Value.pointer (some (elA v_r_Table (x154).toNat))) := hphi185 7 46 _ rfl rfl rfl
                    exact OpY.val u188 wd182 rfl (op_load one_61 e187 (Ext.cell (Ext.trans hE17 hS186.ext) hc189)) (Ext.refl _) rfl
                  · intro f191 wd192 he193 hout194 hphi195
                    have hS196 : St wd12 wd192 [] := St.extend hS86 he193
                    have e197 : f191 6 = (Value.int .i64 (k66 : Int)) := (hout194 6 rfl).trans rfl
                    exact OpY.val (Value.int .i64 (k66 : Int)) wd192 rfl (op_move e197) (Ext.refl _) ⟨rfl, hr85⟩
                  · intro f198 wd199 he200 hout201 hphi202
                    have hS203 : St wd12 wd199 [] := St.extend hS86 he200
                    have e204 : f198 47 = u188 := hphi202 8 47 _ rfl rfl rfl
                    obtain ⟨e205, hr206⟩ : f198 48 = (Value.int .i64 (k66 : Int)) ∧ InR .i64 (k66 : Int) := hphi202 9 48 _ rfl rfl rfl
                    exact OpY.val (Value.pointer (some (elA u188 ((k66 : Int)).toNat))) wd199 rfl (op_idx sl_61 (Ty.lift _ (Ext.trans hE17 hS203.ext) hr190) e204 e205 ha208 hb209) (Ext.refl _) rfl
                  · intro f211 wd212 he213 hout214 hphi215
                    have hS216 : St wd12 wd212 [] := St.extend hS86 he213
                    have e217 : f211 49 = (Value.pointer (some (elA u188 ((k66 : Int)).toNat))) := hphi215 10 49 _ rfl rfl rfl
                    exact OpY.val u218 wd212 rfl (op_load one_25 e217 (Ext.cell (Ext.trans hE17 hS216.ext) hc219)) (Ext.refl _) rfl
                  · intro f221 wd222 he223 hout224 hphi225
                    have hS226 : St wd12 wd222 [] := St.extend hS86 he223
                    have e227 : f221 5 = (Value.int .i64 (k43 : Int)) := (hout224 5 rfl).trans hf78
                    exact OpY.val (Value.int .i64 (k43 : Int)) wd222 rfl (op_move e227) (Ext.refl _) ⟨rfl, hr59⟩
                  · intro f228 wd229 he230 hout231 hphi232
                    have hS233 : St wd12 wd229 [] := St.extend hS86 he230
                    have e234 : f228 50 = u218 := hphi232 11 50 _ rfl rfl rfl
                    obtain ⟨e235, hr236⟩ : f228 51 = (Value.int .i64 (k43 : Int)) ∧ InR .i64 (k43 : Int) := hphi232 12 51 _ rfl rfl rfl
                    exact OpY.val (Value.pointer (some (elA u218 ((k43 : Int)).toNat))) wd229 rfl (op_idx sl_25 (Ty.lift _ (Ext.trans hE17 hS233.ext) hr220) e234 e235 ha238 hb239) (Ext.refl _) rfl
                  · intro f241 wd242 he243 hout244 hphi245
                    have hS246 : St wd12 wd242 [] := St.extend hS86 he243
                    have e247 : f241 52 = (Value.pointer (some (elA u218 ((k43 : Int)).toNat))) := hphi245 13 52 _ rfl rfl rfl
                    exact OpY.val (Value.int .i64 x237) wd242 rfl (op_load one_2 e247 (Ext.cell (Ext.trans hE17 hS246.ext) hc249)) (Ext.refl _) ⟨rfl, hr250⟩
                  · intro f251 wd252 he253 hout254 hphi255
                    have hS256 : St wd12 wd252 [] := St.extend hS86 he253
                    obtain ⟨e257, hr258⟩ : f251 39 = (Value.int .i64 x103) ∧ InR .i64 x103 := hphi255 0 39 _ rfl rfl rfl
                    obtain ⟨e259, hr260⟩ : f251 53 = (Value.int .i64 x237) ∧ InR .i64 x237 := hphi255 14 53 _ rfl rfl rfl
                    exact OpY.val (Value.bool (x103 != x237)) wd252 rfl (op_neq e257 e259) (Ext.refl _) rfl
                  · intro f261 wd262 he263 hout264 hphi265
                    have hS266 : St wd12 wd262 [] := St.extend hS86 he263
                    have e267 : f261 54 = (Value.bool (x103 != x237)) := hphi265 15 54 _ rfl rfl rfl
                    exact OpY.val (Value.bool (x103 != x237)) wd262 rfl (op_move e267) (Ext.refl _) rfl
                  · intro f271 wd272 he273 hout274 hphi275
                    have e276 : f271 55 = (Value.bool (x103 != x237)) := hphi275 16 55 _ rfl rfl rfl
                    exact OpY.skip (wanted_skip rfl rfl e276 hc270) rfl
                  · intro f277 wd278 he279 hout280 hphi281
                    have e282 : f277 55 = (Value.bool (x103 != x237)) := hphi281 16 55 _ rfl rfl rfl
                    exact OpY.skip (wanted_skip rfl rfl e282 hc270) rfl
                  · intro f283 wd284 he285 hout286 hphi287
                    have e288 : f283 55 = (Value.bool (x103 != x237)) := hphi287 16 55 _ rfl rfl rfl
                    exact OpY.skip (wanted_skip rfl rfl e288 hc270) rfl
                  · intro f289 wd290 he291 hout292 hphi293
                    have e294 : f289 55 = (Value.bool (x103 != x237)) := hphi293 16 55 _ rfl rfl rfl
                    exact OpY.skip (wanted_skip rfl rfl e294 hc270) rfl
                  · intro f295 wd296 he297 hout298 hphi299
                    have e300 : f295 55 = (Value.bool (x103 != x237)) := hphi299 16 55 _ rfl rfl rfl
                    exact OpY.skip (wanted_skip rfl rfl e300 hc270) rfl
                  · intro f301 wd302 he303 hout304 hphi305
                    have e306 : f301 55 = (Value.bool (x103 != x237)) := hphi305 16 55 _ rfl rfl rfl
                    exact OpY.skip (wanted_skip rfl rfl e306 hc270) rfl
                  · intro f307 wd308 he309 hout310 hphi311
                    have e312 : f307 55 = (Value.bool (x103 != x237)) := hphi311 16 55 _ rfl rfl rfl
                    exact OpY.skip (wanted_skip rfl rfl e312 hc270) rfl
                  · intro f313 wd314 he315 hout316 hphi317
                    have e318 : f313 55 = (Value.bool (x103 != x237)) := hphi317 16 55 _ rfl rfl rfl
                    exact OpY.skip (wanted_skip rfl rfl e318 hc270) rfl
                  · intro f319 wd320 he321 hout322 hphi323
                    have e324 : f319 55 = (Value.bool (x103 != x237)) := hphi323 16 55 _ rfl rfl rfl
                    exact OpY.skip (wanted_skip rfl rfl e324 hc270) rfl
                  · intro f325 wd326 he327 hout328 hphi329
                    have e330 : f325 55 = (Value.bool (x103 != x237)) := hphi329 16 55 _ rfl rfl rfl
                    exact OpY.skip (wanted_skip rfl rfl e330 hc270) rfl
                  · intro f331 wd332 he333 hout334 hphi335
                    have e336 : f331 55 = (Value.bool (x103 != x237)) := hphi335 16 55 _ rfl rfl rfl
                    exact OpY.skip (wanted_skip rfl rfl e336 hc270) rfl
                  · intro f337 wd338 he339 hout340 hphi341
                    have e342 : f337 55 = (Value.bool (x103 != x237)) := hphi341 16 55 _ rfl rfl rfl
                    exact OpY.skip (wanted_skip rfl rfl e342 hc270) rfl
                  · intro f343 wd344 he345 hout346 hphi347
                    have e348 : f343 55 = (Value.bool (x103 != x237)) := hphi347 16 55 _ rfl rfl rfl
                    exact OpY.skip (wanted_skip rfl rfl e348 hc270) rfl
                  · intro f349 wd350 he351 hout352 hphi353
                    have e354 : f349 55 = (Value.bool (x103 != x237)) := hphi353 16 55 _ rfl rfl rfl
                    exact OpY.skip (wanted_skip rfl rfl e354 hc270) rfl
                  · intro f355 wd356 he357 hout358 hphi359
                    have e360 : f355 55 = (Value.bool (x103 != x237)) := hphi359 16 55 _ rfl rfl rfl
                    exact OpY.skip (wanted_skip rfl rfl e360 hc270) rfl
                  · intro f361 wd362 he363 hout364 hphi365
                    show WL _ _ _ _ _ _ _
                    have hS366 : St wd12 wd362 [] := St.extend hS86 he363
                    have e367 : f361 55 = (Value.bool (x103 != x237)) := hphi365 16 55 _ (by decide) rfl rfl
                    have e383 : f361 1 = (Value.pointer (some ⟨b1, 0, none⟩)) := (hout364 1 rfl).trans hf75
                    have e384 : f361 3 = u11 := (hout364 3 rfl).trans hf76
                    have e385 : f361 4 = (Value.int .i64 (k23 : Int)) := (hout364 4 rfl).trans hf77
                    have e386 : f361 5 = (Value.int .i64 (k43 : Int)) := (hout364 5 rfl).trans hf78
                    have e387 : f361 6 = (Value.int .i64 (k66 : Int)) := (hout364 6 rfl).trans rfl
                    have e388 : f361 12 = (Value.int .i64 ((r_Table).length : Int)) := (hout364 12 rfl).trans hf79
                    have e389 : f361 13 = (Value.int .i64 (k23 : Int)) := (hout364 13 rfl).trans hf80
                    have e390 : f361 18 = (Value.int .i64 ((r_Table).length : Int)) := (hout364 18 rfl).trans hf81
                    have e391 : f361 19 = (Value.int .i64 (k43 : Int)) := (hout364 19 rfl).trans hf82
                    have e392 : f361 24 = (Value.int .i64 ((r_Table).length : Int)) := (hout364 24 rfl).trans hf83
                    have e393 : f361 25 = (Value.int .i64 (k66 : Int)) := (hout364 25 rfl).trans hf84
                    refine WL.gskip rfl (bool_of e367 hc270) rfl ?_
                    refine WL.val (Value.bool true) _ (op_pick_t (evb_of e367 hc270) rfl) rfl ?_
                    refine WL.nil ?_
                    obtain rfl := Option.some.inj hj269
                    exact ⟨e383, e384, e385, e386, e387, e388, e389, e390, e391, e392, e393, rfl, hS366⟩
                · replace hj269 := inegb hj269 hc270
                  obtain ⟨x436, hx439, hj269⟩ := bs hj269
                  obtain ⟨ha437, hb438, hx439⟩ := idx_some hx439
                  obtain ⟨u448, hc449, hr450⟩ := repSl.el r_r_Table hx439
                  obtain ⟨x477, hx480, hj269⟩ := bs hj269
                  obtain ⟨ha478, hb479, hx480⟩ := idx_some hx480
                  obtain ⟨u489, hc490, hr491⟩ := repSl.el hb16 hx480
                  obtain ⟨rfl, hr491⟩ := hr491
                  obtain ⟨x502, hx505, hj269⟩ := bs hj269
                  obtain ⟨ha503, hb504, hx505⟩ := idx_some hx505
                  obtain ⟨u514, hc515, hr516⟩ := repSl.el hr450 hx505
                  obtain ⟨x535, hx538, hj269⟩ := bs hj269
                  obtain ⟨ha536, hb537, hx538⟩ := idx_some hx538
                  obtain ⟨u547, hc548, hr549⟩ := repSl.el hr516 hx538
                  obtain ⟨rfl, hr549⟩ := hr549
                  refine W.draw mixo 32 [fun v _ => v = (Value.int .i64 x103) ∧ InR .i64 x103, fun v _ => v = (Value.pointer (some ⟨b1, 0, none⟩)), fun v _ => v = v_r_Table, fun v _ => v = u11, fun v _ => v = (Value.int .i64 (k23 : Int)) ∧ InR .i64 (k23 : Int), fun v _ => v = (Value.pointer (some (elA u11 ((k23 : Int)).toNat))), fun v _ => v = (Value.int .i64 x154) ∧ InR .i64 x154, fun v _ => v = (Value.pointer (some (elA v_r_Table (x154).toNat))), fun v _ => v = u188, fun v _ => v = (Value.int .i64 (k66 : Int)) ∧ InR .i64 (k66 : Int), fun v _ => v = (Value.pointer (some (elA u188 ((k66 : Int)).toNat))), fun v _ => v = u218, fun v _ => v = (Value.int .i64 (k43 : Int)) ∧ InR .i64 (k43 : Int), fun v _ => v = (Value.pointer (some (elA u218 ((k43 : Int)).toNat))), fun v _ => v = (Value.int .i64 x237) ∧ InR .i64 x237, fun v _ => v = (Value.bool (x103 != x237)), fun v _ => v = (Value.bool (x103 != x237)), fun v _ => v = (Value.int .i64 x103) ∧ InR .i64 x103, fun v _ => v = (Value.pointer (some ⟨b1, 0, none⟩)), fun v _ => v = v_r_Table, fun v _ => v = (Value.int .i64 (k66 : Int)) ∧ InR .i64 (k66 : Int), fun v _ => v = (Value.pointer (some (elA v_r_Table ((k66 : Int)).toNat))), fun v _ => v = u448, fun v _ => v = u11, fun v _ => v = (Value.int .i64 (k43 : Int)) ∧ InR .i64 (k43 : Int), fun v _ => v = (Value.pointer (some (elA u11 ((k43 : Int)).toNat))), fun v _ => v = (Value.int .i64 x477) ∧ InR .i64 x477, fun v _ => v = (Value.pointer (some (elA u448 (x477).toNat))), fun v _ => v = u514, fun v _ => v = (Value.int .i64 (k23 : Int)) ∧ InR .i64 (k23 : Int), fun v _ => v = (Value.pointer (some (elA u514 ((k23 : Int)).toNat))), fun v _ => v = (Value.int .i64 x535) ∧ InR .i64 x535] (by kernel_rfl) (by kernel_rfl) (stabL ⟨(fun _ _ _ _ h => h), (fun _ _ _ _ h => h), (fun _ _ _ _ h => h), (fun _ _ _ _ h => h), (fun _ _ _ _ h => h), (fun _ _ _ _ h => h), (fun _ _ _ _ h => h), (fun _ _ _ _ h => h), (fun _ _ _ _ h => h), (fun _ _ _ _ h => h), (fun _ _ _ _ h => h), (fun _ _ _ _ h => h), (fun _ _ _ _ h => h), (fun _ _ _ _ h => h), (fun _ _ _ _ h => h), (fun _ _ _ _ h => h), (fun _ _ _ _ h => h), (fun _ _ _ _ h => h), (fun _ _ _ _ h => h), (fun _ _ _ _ h => h), (fun _ _ _ _ h => h), (fun _ _ _ _ h => h), (fun _ _ _ _ h => h), (fun _ _ _ _ h => h), (fun _ _ _ _ h => h), (fun _ _ _ _ h => h), (fun _ _ _ _ h => h), (fun _ _ _ _ h => h), (fun _ _ _ _ h => h), (fun _ _ _ _ h => h), (fun _ _ _ _ h => h), (fun _ _ _ _ h => h), trivial⟩) ⟨?_, ?_, ?_, ?_, ?_, ?_, ?_, ?_, ?_, ?_, ?_, ?_, ?_, ?_, ?_, ?_, ?_, ?_, ?_, ?_, ?_, ?_, ?_, ?_, ?_, ?_, ?_, ?_, ?_, ?_, ?_, ?_, trivial⟩ ?_
                  · intro f110 wd111 he112 hout113 hphi114
                    have hS115 : St wd12 wd111 [] := St.extend hS86 he112
                    have e116 : f110 7 = (Value.int .i64 x103) := (hout113 7 rfl).trans rfl
                    exact OpY.val (Value.int .i64 x103) wd111 rfl (op_move e116) (Ext.refl _) ⟨rfl, hr109⟩
                  · intro f117 wd118 he119 hout120 hphi121
                    have hS122 : St wd12 wd118 [] := St.extend hS86 he119
                    have e123 : f117 1 = (Value.pointer (some ⟨b1, 0, none⟩)) := (hout120 1 rfl).trans hf75
                    exact OpY.val (Value.pointer (some ⟨b1, 0, none⟩)) wd118 rfl (op_fieldAddr fd_29_0 e123) (Ext.refl _) rfl
                  · intro f124 wd125 he126 hout127 hphi128
                    have hS129 : St wd12 wd125 [] := St.extend hS86 he126
                    have e130 : f124 40 = (Value.pointer (some ⟨b1, 0, none⟩)) := hphi128 1 40 _ rfl rfl rfl
                    exact OpY.val v_r_Table wd125 rfl (op_load one_22 e130 (BoxAt.cell (BoxAt.lift (Ext.trans hE18 hS129.ext) hx6) rfl)) (Ext.refl _) rfl
                  · intro f131 wd132 he133 hout134 hphi135
                    have hS136 : St wd12 wd132 [] := St.extend hS86 he133
                    have e137 : f131 3 = u11 := (hout134 3 rfl).trans hf76
                    exact OpY.val u11 wd132 rfl (op_move e137) (Ext.refl _) rfl
                  · intro f138 wd139 he140 hout141 hphi142
                    have hS143 : St wd12 wd139 [] := St.extend hS86 he140
                    have e144 : f138 4 = (Value.int .i64 (k23 : Int)) := (hout141 4 rfl).trans hf77
                    exact OpY.val (Value.int .i64 (k23 : Int)) wd139 rfl (op_move e144) (Ext.refl _) ⟨rfl, hr36⟩
                  · intro f145 wd146 he147 hout148 hphi149
                    have hS150 : St wd12 wd146 [] := St.extend hS86 he147
                    have e151 : f145 42 = u11 := hphi149 3 42 _ rfl rfl rfl
                    obtain ⟨e152, hr153⟩ : f145 43 = (Value.int .i64 (k23 : Int)) ∧ InR .i64 (k23 : Int) := hphi149 4 43 _ rfl rfl rfl
                    exact OpY.val (Value.pointer (some (elA u11 ((k23 : Int)).toNat))) wd146 rfl (op_idx sl_84 (Ty.lift _ hS150.ext hb16) e151 e152 ha155 hb156) (Ext.refl _) rfl
                  · intro f158 wd159 he160 hout161 hphi162
                    have hS163 : St wd12 wd159 [] := St.extend hS86 he160
                    have e164 : f158 44 = (Value.pointer (some (elA u11 ((k23 : Int)).toNat))) := hphi162 5 44 _ rfl rfl rfl
                    exact OpY.val (Value.int .i64 x154) wd159 rfl (op_load one_3 e164 (Ext.cell hS163.ext hc166)) (Ext.refl _) ⟨rfl, hr167⟩
                  · intro f168 wd169 he170 hout171 hphi172
                    have hS173 : St wd12 wd169 [] := St.extend hS86 he170
                    have e174 : f168 41 = v_r_Table := hphi172 2 41 _ rfl rfl rfl
                    obtain ⟨e175, hr176⟩ : f168 45 = (Value.int .i64 x154) ∧ InR .i64 x154 := hphi172 6 45 _ rfl rfl rfl
                    exact OpY.val (Value.pointer (some (elA v_r_Table (x154).toNat))) wd169 rfl (op_idx sl_22 (Ty.lift _ (Ext.trans hE17 hS173.ext) r_r_Table) e174 e175 ha178 hb179) (Ext.refl _) rfl
                  · intro f181 wd182 he183 hout184 hphi185
                    have hS186 : St wd12 wd182 [] := St.extend hS86 he183
                    have e187 : f181 46 = (Value.pointer (some (elA v_r_Table (x154).toNat))) := hphi185 7 46 _ rfl rfl rfl
                    exact OpY.val u188 wd182 rfl (op_load one_61 e187 (Ext.cell (Ext.trans hE17 hS186.ext) hc189)) (Ext.refl _) rfl
                  · intro f191 wd192 he193 hout194 hphi195
                    have hS196 : St wd12 wd192 [] := St.extend hS86 he193
                    have e197 : f191 6 = (Value.int .i64 (k66 : Int)) := (hout194 6 rfl).trans rfl
                    exact OpY.val (Value.int .i64 (k66 : Int)) wd192 rfl (op_move e197) (Ext.refl _) ⟨rfl, hr85⟩
                  · intro f198 wd199 he200 hout201 hphi202
                    have hS203 : St wd12 wd199 [] := St.extend hS86 he200
                    have e204 : f198 47 = u188 := hphi202 8 47 _ rfl rfl rfl
                    obtain ⟨e205, hr206⟩ : f198 48 = (Value.int .i64 (k66 : Int)) ∧ InR .i64 (k66 : Int) := hphi202 9 48 _ rfl rfl rfl
                    exact OpY.val (Value.pointer (some (elA u188 ((k66 : Int)).toNat))) wd199 rfl (op_idx sl_61 (Ty.lift _ (Ext.trans hE17 hS203.ext) hr190) e204 e205 ha208 hb209) (Ext.refl _) rfl
                  · intro f211 wd212 he213 hout214 hphi215
                    have hS216 : St wd12 wd212 [] := St.extend hS86 he213
                    have e217 : f211 49 = (Value.pointer (some (elA u188 ((k66 : Int)).toNat))) := hphi215 10 49 _ rfl rfl rfl
                    exact OpY.val u218 wd212 rfl (op_load one_25 e217 (Ext.cell (Ext.trans hE17 hS216.ext) hc219)) (Ext.refl _) rfl
                  · intro f221 wd222 he223 hout224 hphi225
                    have hS226 : St wd12 wd222 [] := St.extend hS86 he223
                    have e227 : f221 5 = (Value.int .i64 (k43 : Int)) := (hout224 5 rfl).trans hf78
                    exact OpY.val (Value.int .i64 (k43 : Int)) wd222 rfl (op_move e227) (Ext.refl _) ⟨rfl, hr59⟩
                  · intro f228 wd229 he230 hout231 hphi232
                    have hS233 : St wd12 wd229 [] := St.extend hS86 he230
                    have e234 : f228 50 = u218 := hphi232 11 50 _ rfl rfl rfl
                    obtain ⟨e235, hr236⟩ : f228 51 = (Value.int .i64 (k43 : Int)) ∧ InR .i64 (k43 : Int) := hphi232 12 51 _ rfl rfl rfl
                    exact OpY.val (Value.pointer (some (elA u218 ((k43 : Int)).toNat))) wd229 rfl (op_idx sl_25 (Ty.lift _ (Ext.trans hE17 hS233.ext) hr220) e234 e235 ha238 hb239) (Ext.refl _) rfl
                  · intro f241 wd242 he243 hout244 hphi245
                    have hS246 : St wd12 wd242 [] := St.extend hS86 he243
                    have e247 : f241 52 = (Value.pointer (some (elA u218 ((k43 : Int)).toNat))) := hphi245 13 52 _ rfl rfl rfl
                    exact OpY.val (Value.int .i64 x237) wd242 rfl (op_load one_2 e247 (Ext.cell (Ext.trans hE17 hS246.ext) hc249)) (Ext.refl _) ⟨rfl, hr250⟩
                  · intro f251 wd252 he253 hout254 hphi255
                    have hS256 : St wd12 wd252 [] := St.extend hS86 he253
                    obtain ⟨e257, hr258⟩ : f251 39 = (Value.int .i64 x103) ∧ InR .i64 x103 := hphi255 0 39 _ rfl rfl rfl
                    obtain ⟨e259, hr260⟩ : f251 53 = (Value.int .i64 x237) ∧ InR .i64 x237 := hphi255 14 53 _ rfl rfl rfl
                    exact OpY.val (Value.bool (x103 != x237)) wd252 rfl (op_neq e257 e259) (Ext.refl _) rfl
                  · intro f261 wd262 he263 hout264 hphi265
                    have hS266 : St wd12 wd262 [] := St.extend hS86 he263
                    have e267 : f261 54 = (Value.bool (x103 != x237)) := hphi265 15 54 _ rfl rfl rfl
                    exact OpY.val (Value.bool (x103 != x237)) wd262 rfl (op_move e267) (Ext.refl _) rfl
                  · intro f394 wd395 he396 hout397 hphi398
                    have hS399 : St wd12 wd395 [] := St.extend hS86 he396
                    have e400 : f394 7 = (Value.int .i64 x103) := (hout397 7 rfl).trans rfl
                    have e401 : f394 55 = (Value.bool (x103 != x237)) := hphi398 16 55 _ rfl rfl rfl
                    exact OpY.val (Value.int .i64 x103) wd395 (wanted_run rfl rfl e401 hc270) (op_move e400) (Ext.refl _) ⟨rfl, hr109⟩
                  · intro f402 wd403 he404 hout405 hphi406
                    have hS407 : St wd12 wd403 [] := St.extend hS86 he404
                    have e408 : f402 1 = (Value.pointer (some ⟨b1, 0, none⟩)) := (hout405 1 rfl).trans hf75
                    have e409 : f402 55 = (Value.bool (x103 != x237)) := hphi406 16 55 _ rfl rfl rfl
                    exact OpY.val (Value.pointer (some ⟨b1, 0, none⟩)) wd403 (wanted_run rfl rfl e409 hc270) (op_fieldAddr fd_29_0 e408) (Ext.refl _) rfl
                  · intro f410 wd411 he412 hout413 hphi414
                    have hS415 : St wd12 wd411 [] := St.extend hS86 he412
                    have e416 : f410 55 = (Value.bool (x103 != x237)) := hphi414 16 55 _ rfl rfl rfl
                    have e417 : f410 57 = (Value.pointer (some ⟨b1, 0, none⟩)) := hphi414 18 57 _ rfl rfl rfl
                    exact OpY.val v_r_Table wd411 (wanted_run rfl rfl e416 hc270) (op_load one_22 e417 (BoxAt.cell (BoxAt.lift (Ext.trans hE18 hS415.ext) hx6) rfl)) (Ext.refl _) rfl
                  · intro f418 wd419 he420 hout421 hphi422
                    have hS423 : St wd12 wd419 [] := St.extend hS86 he420
                    have e424 : f418 6 = (Value.int .i64 (k66 : Int)) := (hout421 6 rfl).trans rfl
                    have e425 : f418 55 = (Value.bool (x103 != x237)) := hphi422 16 55 _ rfl rfl rfl
                    exact OpY.val (Value.int .i64 (k66 : Int)) wd419 (wanted_run rfl rfl e425 hc270) (op_move e424) (Ext.refl _) ⟨rfl, hr85⟩
                  · intro f426 wd427 he428 hout429 hphi430
                    have hS431 : St wd12 wd427 [] := St.extend hS86 he428
                    have e432 : f426 55 = (Value.bool (x103 != x237)) := hphi430 16 55 _ rfl rfl rfl
                    have e433 : f426 58 = v_r_Table := hphi430 19 58 _ rfl rfl rfl
                    obtain ⟨e434, hr435⟩ : f426 59 = (Value.int .i64 (k66 : Int)) ∧ InR .i64 (k66 : Int) := hphi430 20 59 _ rfl rfl rfl
                    exact OpY.val (Value.pointer (some (elA v_r_Table ((k66 : Int)).toNat))) wd427 (wanted_run rfl rfl e432 hc270) (op_idx sl_22 (Ty.lift _ (Ext.trans hE17 hS431.ext) r_r_Table) e433 e434 ha437 hb438) (Ext.refl _) rfl
                  · intro f440 wd441 he442 hout443 hphi444
                    have hS445 : St wd12 wd441 [] := St.extend hS86 he442
                    have e446 : f440 55 = (Value.bool (x103 != x237)) := hphi444 16 55 _ rfl rfl rfl
                    have e447 : f440 60 = (Value.pointer (some (elA v_r_Table ((k66 : Int)).toNat))) := hphi444 21 60 _ rfl rfl rfl
                    exact OpY.val u448 wd441 (wanted_run rfl rfl e446 hc270) (op_load one_61 e447 (Ext.cell (Ext.trans hE17 hS445.ext) hc449)) (Ext.refl _) rfl
                  · intro f451 wd452 he453 hout454 hphi455
                    have hS456 : St wd12 wd452 [] := St.extend hS86 he453
                    have e457 : f451 3 = u11 := (hout454 3 rfl).trans hf76
                    have e458 : f451 55 = (Value.bool (x103 != x237)) := hphi455 16 55 _ rfl rfl rfl
                    exact OpY.val u11 wd452 (wanted_run rfl rfl e458 hc270) (op_move e457) (Ext.refl _) rfl
                  · intro f459 wd460 he461 hout462 hphi463
                    have hS464 : St wd12 wd460 [] := St.extend hS86 he461
                    have e465 : f459 5 = (Value.int .i64 (k43 : Int)) := (hout462 5 rfl).trans hf78
                    have e466 : f459 55 = (Value.bool (x103 != x237)) := hphi463 16 55 _ rfl rfl rfl
                    exact OpY.val (Value.int .i64 (k43 : Int)) wd460 (wanted_run rfl rfl e466 hc270) (op_move e465) (Ext.refl _) ⟨rfl, hr59⟩
                  · intro f467 wd468 he469 hout470 hphi471
                    have hS472 : St wd12 wd468 [] := St.extend hS86 he469
                    have e473 : f467 55 = (Value.bool (x103 != x237)) := hphi471 16 55 _ rfl rfl rfl
                    have e474 : f467 62 = u11 := hphi471 23 62 _ rfl rfl rfl
                    obtain ⟨e475, hr476⟩ : f467 63 = (Value.int .i64 (k43 : Int)) ∧ InR .i64 (k43 : Int) := hphi471 24 63 _ rfl rfl rfl
                    exact OpY.val (Value.pointer (some (elA u11 ((k43 : Int)).toNat))) wd468 (wanted_run rfl rfl e473 hc270) (op_idx sl_84 (Ty.lift _ hS472.ext hb16) e474 e475 ha478 hb479) (Ext.refl _) rfl
                  · intro f481 wd482 he483 hout484 hphi485
                    have hS486 : St wd12 wd482 [] := St.extend hS86 he483
                    have e487 : f481 55 = (Value.bool (x103 != x237)) := hphi485 16 55 _ rfl rfl rfl
                    have e488 : f481 64 = (Value.pointer (some (elA u11 ((k43 : Int)).toNat))) := hphi485 25 64 _ rfl rfl rfl
                    exact OpY.val (Value.int .i64 x477) wd482 (wanted_run rfl rfl e487 hc270) (op_load one_3 e488 (Ext.cell hS486.ext hc490)) (Ext.refl _) ⟨rfl, hr491⟩
                  · intro f492 wd493 he494 hout495 hphi496
                    have hS497 : St wd12 wd493 [] := St.extend hS86 he494
                    have e498 : f492 55 = (Value.bool (x103 != x237)) := hphi496 16 55 _ rfl rfl rfl
                    have e499 : f492 61 = u448 := hphi496 22 61 _ rfl rfl rfl
                    obtain ⟨e500, hr501⟩ : f492 65 = (Value.int .i64 x477) ∧ InR .i64 x477 := hphi496 26 65 _ rfl rfl rfl
                    exact OpY.val (Value.pointer (some (elA u448 (x477).toNat))) wd493 (wanted_run rfl rfl e498 hc270) (op_idx sl_61 (Ty.lift _ (Ext.trans hE17 hS497.ext) hr450) e499 e500 ha503 hb504) (Ext.refl _) rfl
                  · intro f506 wd507 he508 hout509 hphi510
                    have hS511 : St wd12 wd507 [] := St.extend hS86 he508
                    have e512 : f506 55 = (Value.bool (x103 != x237)) := hphi510 16 55 _ rfl rfl rfl
                    have e513 : f506 66 = (Value.pointer (some (elA u448 (x477).toNat))) := hphi510 27 66 _ rfl rfl rfl
                    exact OpY.val u514 wd507 (wanted_run rfl rfl e512 hc270) (op_load one_25 e513 (Ext.cell (Ext.trans hE17 hS511.ext) hc515)) (Ext.refl _) rfl
                  · intro f517 wd518 he519 hout520 hphi521
                    have hS522 : St wd12 wd518 [] := St.extend hS86 he519
                    have e523 : f517 4 = (Value.int .i64 (k23 : Int)) := (hout520 4 rfl).trans hf77
                    have e524 : f517 55 = (Value.bool (x103 != x237)) := hphi521 16 55 _ rfl rfl rfl
                    exact OpY.val (Value.int .i64 (k23 : Int)) wd518 (wanted_run rfl rfl e524 hc270) (op_move e523) (Ext.refl _) ⟨rfl, hr36⟩
                  · intro f525 wd526 he527 hout528 hphi529
                    have hS530 : St wd12 wd526 [] := St.extend hS86 he527
                    have e531 : f525 55 = (Value.bool (x103 != x237)) := hphi529 16 55 _ rfl rfl rfl
                    have e532 : f525 67 = u514 := hphi529 28 67 _ rfl rfl rfl
                    obtain ⟨e533, hr534⟩ : f525 68 = (Value.int .i64 (k23 : Int)) ∧ InR .i64 (k23 : Int) := hphi529 29 68 _ rfl rfl rfl
                    exact OpY.val (Value.pointer (some (elA u514 ((k23 : Int)).toNat))) wd526 (wanted_run rfl rfl e531 hc270) (op_idx sl_25 (Ty.lift _ (Ext.trans hE17 hS530.ext) hr516) e532 e533 ha536 hb537) (Ext.refl _) rfl
                  · intro f539 wd540 he541 hout542 hphi543
                    have hS544 : St wd12 wd540 [] := St.extend hS86 he541
                    have e545 : f539 55 = (Value.bool (x103 != x237)) := hphi543 16 55 _ rfl rfl rfl
                    have e546 : f539 69 = (Value.pointer (some (elA u514 ((k23 : Int)).toNat))) := hphi543 30 69 _ rfl rfl rfl
                    exact OpY.val (Value.int .i64 x535) wd540 (wanted_run rfl rfl e545 hc270) (op_load one_2 e546 (Ext.cell (Ext.trans hE17 hS544.ext) hc548)) (Ext.refl _) ⟨rfl, hr549⟩
                  · intro f550 wd551 he552 hout553 hphi554
                    show WL _ _ _ _ _ _ _
                    have hS555 : St wd12 wd551 [] := St.extend hS86 he552
                    have e556 : f550 55 = (Value.bool (x103 != x237)) := hphi554 16 55 _ (by decide) rfl rfl
                    obtain ⟨e557, hr558⟩ : f550 56 = (Value.int .i64 x103) ∧ InR .i64 x103 := hphi554 17 56 _ (by decide) rfl rfl
                    have e559 : f550 57 = (Value.pointer (some ⟨b1, 0, none⟩)) := hphi554 18 57 _ (by decide) rfl rfl
                    have e560 : f550 58 = v_r_Table := hphi554 19 58 _ (by decide) rfl rfl
                    obtain ⟨e561, hr562⟩ : f550 59 = (Value.int .i64 (k66 : Int)) ∧ InR .i64 (k66 : Int) := hphi554 20 59 _ (by decide) rfl rfl
                    have e563 : f550 60 = (Value.pointer (some (elA v_r_Table ((k66 : Int)).toNat))) := hphi554 21 60 _ (by decide) rfl rfl
                    have e564 : f550 61 = u448 := hphi554 22 61 _ (by decide) rfl rfl
                    have e565 : f550 62 = u11 := hphi554 23 62 _ (by decide) rfl rfl
                    obtain ⟨e566, hr567⟩ : f550 63 = (Value.int .i64 (k43 : Int)) ∧ InR .i64 (k43 : Int) := hphi554 24 63 _ (by decide) rfl rfl
                    have e568 : f550 64 = (Value.pointer (some (elA u11 ((k43 : Int)).toNat))) := hphi554 25 64 _ (by decide) rfl rfl
                    obtain ⟨e569, hr570⟩ : f550 65 = (Value.int .i64 x477) ∧ InR .i64 x477 := hphi554 26 65 _ (by decide) rfl rfl
                    have e571 : f550 66 = (Value.pointer (some (elA u448 (x477).toNat))) := hphi554 27 66 _ (by decide) rfl rfl
                    have e572 : f550 67 = u514 := hphi554 28 67 _ (by decide) rfl rfl
                    obtain ⟨e573, hr574⟩ : f550 68 = (Value.int .i64 (k23 : Int)) ∧ InR .i64 (k23 : Int) := hphi554 29 68 _ (by decide) rfl rfl
                    have e575 : f550 69 = (Value.pointer (some (elA u514 ((k23 : Int)).toNat))) := hphi554 30 69 _ (by decide) rfl rfl
                    obtain ⟨e576, hr577⟩ : f550 70 = (Value.int .i64 x535) ∧ InR .i64 x535 := hphi554 31 70 _ (by decide) rfl rfl
                    have e578 : f550 1 = (Value.pointer (some ⟨b1, 0, none⟩)) := (hout553 1 rfl).trans hf75
                    have e579 : f550 3 = u11 := (hout553 3 rfl).trans hf76
                    have e580 : f550 4 = (Value.int .i64 (k23 : Int)) := (hout553 4 rfl).trans hf77
                    have e581 : f550 5 = (Value.int .i64 (k43 : Int)) := (hout553 5 rfl).trans hf78
                    have e582 : f550 6 = (Value.int .i64 (k66 : Int)) := (hout553 6 rfl).trans rfl
                    have e583 : f550 12 = (Value.int .i64 ((r_Table).length : Int)) := (hout553 12 rfl).trans hf79
                    have e584 : f550 13 = (Value.int .i64 (k23 : Int)) := (hout553 13 rfl).trans hf80
                    have e585 : f550 18 = (Value.int .i64 ((r_Table).length : Int)) := (hout553 18 rfl).trans hf81
                    have e586 : f550 19 = (Value.int .i64 (k43 : Int)) := (hout553 19 rfl).trans hf82
                    have e587 : f550 24 = (Value.int .i64 ((r_Table).length : Int)) := (hout553 24 rfl).trans hf83
                    have e588 : f550 25 = (Value.int .i64 (k66 : Int)) := (hout553 25 rfl).trans hf84
                    refine WL.grun rfl (bool_of e556 hc270) ?_
                    refine WL.val (Value.bool (x103 != x535)) _ (op_neq e557 e576) rfl ?_
                    refine WL.val (Value.bool (x103 != x535)) _ (op_pick_f (evb_of e556 hc270) rfl) rfl ?_
                    refine WL.nil ?_
                    obtain rfl := Option.some.inj hj269
                    exact ⟨e578, e579, e580, e581, e582, e583, e584, e585, e586, e587, e588, rfl, hS555⟩
              · intro f589 wd590 hq591
                obtain ⟨hf592, hf593, hf594, hf595, hf596, hf597, hf598, hf599, hf600, hf601, hf602, hf603, hS604⟩ := hq591
                show W _ _ _ _ _ _
                refine W.cond x268 hf603 (fun hc605 => ?_) (fun hc605 => ?_)
                · replace hb71 := ip hb71 hc605
                  refine W.seq ?_
                  refine W.region ?_
                  refine WL.val (Value.int .i64 (k23 : Int)) _ (op_move hf594) rfl ?_
                  refine WL.val (Value.int .i64 (k43 : Int)) _ (op_move hf595) rfl ?_
                  refine WL.val (Value.int .i64 (k66 : Int)) _ (op_move hf596) rfl ?_
                  refine WL.litFlat (t := (Ty.i .i64)) (flat_i .i64) [(Value.int .i64 (2 : Int)), (Value.int .i64 (k23 : Int)), (Value.int .i64 (k43 : Int)), (Value.int .i64 (k66 : Int))] [(2 : Int), (k23 : Int), (k43 : Int), (k66 : Int)] hS604 sl_25 rfl rfl (fillL rfl ⟨rfl, rfl, rfl, rfl, rfl, rfl, rfl, rfl, rfl, rfl, rfl, rfl, trivial⟩) rfl rfl (litL ⟨⟨rfl, (inR_i64.2 (show (-9223372036854775808 : Int) ≤ 2 ∧ (2 : Int) ≤ 9223372036854775807 from by decide))⟩, ⟨rfl, hr36⟩, ⟨rfl, hr59⟩, ⟨rfl, hr85⟩, trivial⟩) rfl ?_
                  intro u607 wd608 hS609 he610
                  replace hS609 : St wd12 wd608 [(Ty.sl (Ty.i .i64)).at u607 ([(2 : Int), (k23 : Int), (k43 : Int), (k66 : Int)] : (List Int))] := hS609
                  refine WL.val u607 _ (op_assign rfl) rfl ?_
                  refine WL.nil ?_
                  show W _ _ _ _ _ _
                  refine W.ret ?_
                  obtain rfl := Option.some.inj hb71
                  obtain rfl := hret74 _ rfl
                  replace hb48 := onRes_ret hb48
                  obtain rfl := Option.some.inj hb48
                  obtain rfl := hret51 _ rfl
                  replace hb28 := onRes_ret hb28
                  obtain rfl := Option.some.inj hb28
                  obtain rfl := hret31 _ rfl
                  replace h := onRes_ret h
                  obtain rfl := Option.some.inj h
                  show FinP _ _ _ _ _ _ _
                  exact FinP.ret _ (res1 rfl rfl) ⟨u607, rfl, (nil_cons), (Ext.trans hE17 hS609.ext), (St.out (St.pick hS609 [0] rfl) (hE17))⟩
                · replace hb71 := inegb hb71 hc605
                  refine W.skip ?_
                  show W _ _ _ _ _ _
                  refine W.region ?_
                  refine WL.val (Value.int .i64 (w64 ((k66 : Int) + (1 : Int)))) _ (op_add hf602 rfl) rfl ?_
                  refine WL.val (Value.int .i64 (w64 ((k66 : Int) + (1 : Int)))) _ (op_move rfl) rfl ?_
                  refine WL.nil ?_
                  obtain rfl := Option.some.inj hb71
                  show ∃ s, _ = Ctl.next s ∧ _
                  exact ⟨_, rfl, hf592, hf593, hf594, hf595, hf597, hf598, hf599, hf600, hf601, (ctr_next hl87 hr63), (ctr_rng hl87 hr63), hS604⟩
            · intro s616 f612 wd613 hs614 hI615
              obtain ⟨⟩ := s616
              replace hI615 : f612 1 = (Value.pointer (some ⟨b1, 0, none⟩)) ∧ f612 3 = u11 ∧ f612 4 = (Value.int .i64 (k23 : Int)) ∧ f612 5 = (Value.int .i64 (k43 : Int)) ∧ f612 12 = (Value.int .i64 ((r_Table).length : Int)) ∧ f612 13 = (Value.int .i64 (k23 : Int)) ∧ f612 18 = (Value.int .i64 ((r_Table).length : Int)) ∧ f612 19 = (Value.int .i64 (k43 : Int)) ∧ f612 24 = (Value.int .i64 ((r_Table).length : Int)) ∧ f612 25 = Value.int .i64 (((r_Table).length : Nat) : Int) ∧ InR .i64 (((r_Table).length : Nat) : Int) ∧ St wd12 wd613 [] := hI615
              obtain ⟨hf617, hf618, hf619, hf620, hf621, hf622, hf623, hf624, hf625, hf626, hr627, hS628⟩ := hI615
              refine W.seq ?_
              refine W.region ?_
              refine WL.val (Value.bool (decide ((((r_Table).length : Nat) : Int) < ((r_Table).length : Int)))) _ (op_lss hf626 hf625) rfl ?_
              have hl629 : ¬ (((r_Table).length : Nat) : Int) < ((r_Table).length : Int) := by omega
              refine WL.nil ?_
              show W _ _ _ _ _ _
              refine W.seq ?_
              refine W.condF (decide ((((r_Table).length : Nat) : Int) < ((r_Table).length : Int))) rfl (decide_eq_false hl629) ?_
              refine W.exit ?_
              show _ = _ ∧ _
              exact ⟨rfl, _, hs614, hf617, hf618, hf619, hf621, hf622, hf623, hf624, hS628⟩
          · rintro f630 wd631 ⟨s633, rfl, hq632⟩
            replace hb48 := onRes_fin hb48
            obtain ⟨⟩ := s633
            replace hq632 : f630 1 = (Value.pointer (some ⟨b1, 0, none⟩)) ∧ f630 3 = u11 ∧ f630 4 = (Value.int .i64 (k23 : Int)) ∧ f630 12 = (Value.int .i64 ((r_Table).length : Int)) ∧ f630 13 = (Value.int .i64 (k23 : Int)) ∧ f630 18 = (Value.int .i64 ((r_Table).length : Int)) ∧ f630 19 = (Value.int .i64 (k43 : Int)) ∧ St wd12 wd631 [] := hq632
            obtain ⟨hf634, hf635, hf636, hf637, hf638, hf639, hf640, hS641⟩ := hq632
            show W _ _ _ _ _ _
            refine W.region ?_
            refine WL.val (Value.int .i64 (w64 ((k43 : Int) + (1 : Int)))) _ (op_add hf640 rfl) rfl ?_
            refine WL.val (Value.int .i64 (w64 ((k43 : Int) + (1 : Int)))) _ (op_move rfl) rfl ?_
            refine WL.nil ?_
            obtain rfl := Option.some.inj hb48
            show ∃ s, _ = Ctl.next s ∧ _
            exact ⟨_, rfl, hf634, hf635, hf636, hf637, hf638, hf639, (ctr_next hl61 hr40), (ctr_rng hl61 hr40), hS641⟩
        · intro s648 f644 wd645 hs646 hI647
          obtain ⟨⟩ := s648
          replace hI647 : f644 1 = (Value.pointer (some ⟨b1, 0, none⟩)) ∧ f644 3 = u11 ∧ f644 4 = (Value.int .i64 (k23 : Int)) ∧ f644 12 = (Value.int .i64 ((r_Table).length : Int)) ∧ f644 13 = (Value.int .i64 (k23 : Int)) ∧ f644 18 = (Value.int .i64 ((r_Table).length : Int)) ∧ f644 19 = Value.int .i64 (((r_Table).length : Nat) : Int) ∧ InR .i64 (((r_Table).length : Nat) : Int) ∧ St wd12 wd645 [] := hI647
          obtain ⟨hf649, hf650, hf651, hf652, hf653, hf654, hf655, hr656, hS657⟩ := hI647
          refine W.seq ?_
          refine W.region ?_
          refine WL.val (Value.bool (decide ((((r_Table).length : Nat) : Int) < ((r_Table).length : Int)))) _ (op_lss hf655 hf654) rfl ?_
          have hl658 : ¬ (((r_Table).length : Nat) : Int) < ((r_Table).length : Int) := by omega
          refine WL.nil ?_
          show W _ _ _ _ _ _
          refine W.seq ?_
          refine W.condF (decide ((((r_Table).length : Nat) : Int) < ((r_Table).length : Int))) rfl (decide_eq_false hl658) ?_
          refine W.exit ?_
          show _ = _ ∧ _
          exact ⟨rfl, _, hs646, hf649, hf650, hf652, hf653, hS657⟩
      · rintro f659 wd660 ⟨s662, rfl, hq661⟩
        replace hb28 := onRes_fin hb28
        obtain ⟨⟩ := s662
        replace hq661 : f659 1 = (Value.pointer (some ⟨b1, 0, none⟩)) ∧ f659 3 = u11 ∧ f659 12 = (Value.int .i64 ((r_Table).length : Int)) ∧ f659 13 = (Value.int .i64 (k23 : Int)) ∧ St wd12 wd660 [] := hq661
        obtain ⟨hf663, hf664, hf665, hf666, hS667⟩ := hq661
        show W _ _ _ _ _ _
        refine W.region ?_
        refine WL.val (Value.int .i64 (w64 ((k23 : Int) + (1 : Int)))) _ (op_add hf666 rfl) rfl ?_
        refine WL.val (Value.int .i64 (w64 ((k23 : Int) + (1 : Int)))) _ (op_move rfl) rfl ?_
        refine WL.nil ?_
        obtain rfl := Option.some.inj hb28
        show ∃ s, _ = Ctl.next s ∧ _
        exact ⟨_, rfl, hf663, hf664, hf665, (ctr_next hl38 hr20), (ctr_rng hl38 hr20), hS667⟩
    · intro s674 f670 wd671 hs672 hI673
      obtain ⟨⟩ := s674
      replace hI673 : f670 1 = (Value.pointer (some ⟨b1, 0, none⟩)) ∧ f670 3 = u11 ∧ f670 12 = (Value.int .i64 ((r_Table).length : Int)) ∧ f670 13 = Value.int .i64 (((r_Table).length : Nat) : Int) ∧ InR .i64 (((r_Table).length : Nat) : Int) ∧ St wd12 wd671 [] := hI673
      obtain ⟨hf675, hf676, hf677, hf678, hr679, hS680⟩ := hI673
      refine W.seq ?_
      refine W.region ?_
      refine WL.val (Value.bool (decide ((((r_Table).length : Nat) : Int) < ((r_Table).length : Int)))) _ (op_lss hf678 hf677) rfl ?_
      have hl681 : ¬ (((r_Table).length : Nat) : Int) < ((r_Table).length : Int) := by omega
      refine WL.nil ?_
      show W _ _ _ _ _ _
      refine W.seq ?_
      refine W.condF (decide ((((r_Table).length : Nat) : Int) < ((r_Table).length : Int))) rfl (decide_eq_false hl681) ?_
      refine W.exit ?_
      show _ = _ ∧ _
      exact ⟨rfl, _, hs672, hS680⟩
  · rintro f682 wd683 ⟨s685, rfl, hq684⟩
    replace h := onRes_fin h
    obtain ⟨⟩ := s685
    replace hq684 : St wd12 wd683 [] := hq684
    have hS686 := hq684
    show W _ _ _ _ _ _
    refine W.seq ?_
    refine W.region ?_
    refine WL.val (Value.slice none 0 0) _ (op_assign rfl) rfl ?_
    refine WL.nil ?_
    show W _ _ _ _ _ _
    refine W.ret ?_
    obtain rfl := Option.some.inj h
    show FinP _ _ _ _ _ _ _
    exact FinP.ret _ (res1 rfl rfl) ⟨(Value.slice none 0 0), rfl, (fun _ => ⟨0, 0, rfl⟩), (Ext.trans hE17 hS686.ext), (St.out (St.pick (St.addNil (Ty.i .i64) hS686) [0] rfl) (hE17))⟩

end Go.VG
