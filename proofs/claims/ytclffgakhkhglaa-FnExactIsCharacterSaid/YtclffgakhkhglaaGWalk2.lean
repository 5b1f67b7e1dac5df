/- The walks, part 2: each Go function returns what its plain twin returns. No condition beyond what each names. -/
import Derived.Test.YtclffgakhkhglaaGWalk1
set_option linter.all false
namespace Go.VG
open Go.Proofs
attribute [local irreducible] W WL Sep FinP

theorem c_spec_l03Commutative {w : World} {r_Table : (List (List (List Int)))} {v_r_Table : Value} (r_r_Table : (Ty.sl (Ty.sl (Ty.sl (Ty.i .i64)))).rep w v_r_Table r_Table) {res : Bool} (h : p_spec_l03Commutative r_Table  = some res) :
    Ret Try.prog 92 #[(Value.agg #[v_r_Table])] w (fun v w' => v = Value.bool res ∧ Ext w w') := by
  unfold p_spec_l03Commutative at h
  have hS0 : St w w [] := St.start w
  refine Ret.start (fn := Try.f92) Try.func92 rfl 35 rfl rfl ?_
  refine W.seq ?_
  refine W.region ?_
  refine WL.box hS0 rfl (cs := [v_r_Table]) rfl rfl ?_
  intro b1 wd2 hS3 he4 hx5
  replace hS3 : St w wd2 [bx b1 [v_r_Table]] := hS3
  have hx6 := St.boxAt hS3 0 rfl
  have hE7 : Ext w wd2 := hS3.ext
  have hS8 : St wd2 wd2 [] := St.start wd2
  refine WL.val (Value.bool false) _ (op_assign rfl) rfl ?_
  refine WL.nil ?_
  show W _ _ _ _ _ _
  refine W.seq ?_
  refine W.seq ?_
  refine W.region ?_
  refine WL.val (Value.int .i64 (0 : Int)) _ (op_assign rfl) rfl ?_
  refine WL.nil ?_
  show W _ _ _ _ _ _
  obtain ⟨res9, hres10, h⟩ := bs h
  refine W.blockLoop (fun fq wq => ∃ s, res9 = Res.fin s ∧ St wd2 wq []) ?_ ?_
  · refine W.forN (fun k (s : Unit) fq wq => fq 1 = (Value.pointer (some ⟨b1, 0, none⟩)) ∧ fq 3 = Value.int .i64 (k : Int) ∧ InR .i64 (k : Int) ∧ St wd2 wq []) hres10 ⟨rfl, rfl, (inR_i64.2 (show (-9223372036854775808 : Int) ≤ 0 ∧ (0 : Int) ≤ 9223372036854775807 from by decide)), hS8⟩ ?_ ?_
    · intro k11 s232 ct12 f13 wd14 hk15 hb16 hI17 hbrk18 hret19
      obtain ⟨⟩ := s232
      replace hI17 : f13 1 = (Value.pointer (some ⟨b1, 0, none⟩)) ∧ f13 3 = Value.int .i64 (k11 : Int) ∧ InR .i64 (k11 : Int) ∧ St wd2 wd14 [] := hI17
      replace hb16 : p_spec_l03Commutative_L1 r_Table k11  = some ct12 := hb16
      unfold p_spec_l03Commutative_L1 at hb16
      obtain ⟨hf20, hf21, hr22, hS23⟩ := hI17
      refine W.seq ?_
      refine W.seq ?_
      refine W.region ?_
      refine WL.val (Value.int .i64 (k11 : Int)) _ (op_move hf21) rfl ?_
      refine WL.val (Value.pointer (some ⟨b1, 0, none⟩)) _ (op_fieldAddr fd_29_0 hf20) rfl ?_
      refine WL.val v_r_Table _ (op_load one_22 rfl (BoxAt.cell (BoxAt.lift hS23.ext hx6) rfl)) rfl ?_
      have hr24 := inR_len (Ty.lift _ (Ext.trans hE7 hS23.ext) r_r_Table)
      refine WL.val (Value.int .i64 ((r_Table).length : Int)) _ (op_lenL sl_22 (Ty.lift _ (Ext.trans hE7 hS23.ext) r_r_Table) rfl) rfl ?_
      refine WL.val (Value.bool (decide ((k11 : Int) < ((r_Table).length : Int)))) _ (op_lss rfl rfl) rfl ?_
      have hl25 : (k11 : Int) < ((r_Table).length : Int) := by omega
      refine WL.nil ?_
      show W _ _ _ _ _ _
      refine W.condT (decide ((k11 : Int) < ((r_Table).length : Int))) rfl (decide_eq_true hl25) ?_
      refine W.skip ?_
      show W _ _ _ _ _ _
      refine W.seq ?_
      refine W.block ?_
      refine W.seq ?_
      refine W.region ?_
      refine WL.val (Value.int .i64 (0 : Int)) _ (op_assign rfl) rfl ?_
      refine WL.nil ?_
      show W _ _ _ _ _ _
      obtain ⟨res27, hres28, hb16⟩ := bs hb16
      refine W.blockLoop (fun fq wq => ∃ s, res27 = Res.fin s ∧ fq 1 = (Value.pointer (some ⟨b1, 0, none⟩)) ∧ fq 3 = (Value.int .i64 (k11 : Int)) ∧ St wd2 wq []) ?_ ?_
      · refine W.forN (fun k (s : Unit) fq wq => fq 1 = (Value.pointer (some ⟨b1, 0, none⟩)) ∧ fq 3 = (Value.int .i64 (k11 : Int)) ∧ fq 4 = Value.int .i64 (k : Int) ∧ InR .i64 (k : Int) ∧ St wd2 wq []) hres28 ⟨hf20, hf21, rfl, (inR_i64.2 (show (-9223372036854775808 : Int) ≤ 0 ∧ (0 : Int) ≤ 9223372036854775807 from by decide)), hS23⟩ ?_ ?_
        · intro k29 s212 ct30 f31 wd32 hk33 hb34 hI35 hbrk36 hret37
          obtain ⟨⟩ := s212
          replace hI35 : f31 1 = (Value.pointer (some ⟨b1, 0, none⟩)) ∧ f31 3 = (Value.int .i64 (k11 : Int)) ∧ f31 4 = Value.int .i64 (k29 : Int) ∧ InR .i64 (k29 : Int) ∧ St wd2 wd32 [] := hI35
          replace hb34 : p_spec_l03Commutative_L2 r_Table k11 k29  = some ct30 := hb34
          unfold p_spec_l03Commutative_L2 at hb34
          obtain ⟨hf38, hf39, hf40, hr41, hS42⟩ := hI35
          refine W.seq ?_
          refine W.seq ?_
          refine W.region ?_
          refine WL.val (Value.int .i64 (k29 : Int)) _ (op_move hf40) rfl ?_
          refine WL.val (Value.int .i64 (k11 : Int)) _ (op_move hf39) rfl ?_
          refine WL.val (Value.bool (decide ((k29 : Int) < (k11 : Int)))) _ (op_lss rfl rfl) rfl ?_
          have hl43 : (k29 : Int) < (k11 : Int) := by omega
          refine WL.nil ?_
          show W _ _ _ _ _ _
          refine W.condT (decide ((k29 : Int) < (k11 : Int))) rfl (decide_eq_true hl43) ?_
          refine W.skip ?_
          show W _ _ _ _ _ _
          refine W.seq ?_
          refine W.block ?_
          refine W.seq ?_
          obtain ⟨x75, hx78, hb34⟩ := bs hb34
          obtain ⟨ha76, hb77, hx78⟩ := idx_some hx78
          obtain ⟨u86, hc87, hr88⟩ := repSl.el r_r_Table hx78
          obtain ⟨x105, hx108, hb34⟩ := bs hb34
          obtain ⟨ha106, hb107, hx108⟩ := idx_some hx108
          obtain ⟨u116, hc117, hr118⟩ := repSl.el hr88 hx108
          obtain ⟨x149, hx152, hb34⟩ := bs hb34
          obtain ⟨ha150, hb151, hx152⟩ := idx_some hx152
          obtain ⟨u160, hc161, hr162⟩ := repSl.el r_r_Table hx152
          obtain ⟨x179, hx182, hb34⟩ := bs hb34
          obtain ⟨ha180, hb181, hx182⟩ := idx_some hx182
          obtain ⟨u190, hc191, hr192⟩ := repSl.el hr162 hx182
          refine W.draw mixo 16 [fun v _ => v = (Value.pointer (some ⟨b1, 0, none⟩)), fun v _ => v = v_r_Table, fun v _ => v = (Value.int .i64 (k11 : Int)) ∧ InR .i64 (k11 : Int), fun v _ => v = (Value.pointer (some (elA v_r_Table ((k11 : Int)).toNat))), fun v _ => v = u86, fun v _ => v = (Value.int .i64 (k29 : Int)) ∧ InR .i64 (k29 : Int), fun v _ => v = (Value.pointer (some (elA u86 ((k29 : Int)).toNat))), fun v _ => v = u116, fun v _ => v = (Value.pointer (some ⟨b1, 0, none⟩)), fun v _ => v = v_r_Table, fun v _ => v = (Value.int .i64 (k29 : Int)) ∧ InR .i64 (k29 : Int), fun v _ => v = (Value.pointer (some (elA v_r_Table ((k29 : Int)).toNat))), fun v _ => v = u160, fun v _ => v = (Value.int .i64 (k11 : Int)) ∧ InR .i64 (k11 : Int), fun v _ => v = (Value.pointer (some (elA u160 ((k11 : Int)).toNat))), fun v _ => v = u190] (by kernel_rfl) (by kernel_rfl) (stabL ⟨(fun _ _ _ _ h => h), (fun _ _ _ _ h => h), (fun _ _ _ _ h => h), (fun _ _ _ _ h => h), (fun _ _ _ _ h => h), (fun _ _ _ _ h => h), (fun _ _ _ _ h => h), (fun _ _ _ _ h => h), (fun _ _ _ _ h => h), (fun _ _ _ _ h => h), (fun _ _ _ _ h => h), (fun _ _ _ _ h => h), (fun _ _ _ _ h => h), (fun _ _ _ _ h => h), (fun _ _ _ _ h => h), (fun _ _ _ _ h => h), trivial⟩) ⟨?_, ?_, ?_, ?_, ?_, ?_, ?_, ?_, ?_, ?_, ?_, ?_, ?_, ?_, ?_, ?_, trivial⟩ ?_
          · intro f45 wd46 he47 hout48 hphi49
            have hS50 : St wd2 wd46 [] := St.extend hS42 he47
            have e51 : f45 1 = (Value.pointer (some ⟨b1, 0, none⟩)) := (hout48 1 rfl).trans hf38
            exact OpY.val (Value.pointer (some ⟨b1, 0, none⟩)) wd46 rfl (op_fieldAddr fd_29_0 e51) (Ext.refl _) rfl
          · intro f52 wd53 he54 hout55 hphi56
            have hS57 : St wd2 wd53 [] := St.extend hS42 he54
            have e58 : f52 17 = (Value.pointer (some ⟨b1, 0, none⟩)) := hphi56 0 17 _ rfl rfl rfl
            exact OpY.val v_r_Table wd53 rfl (op_load one_22 e58 (BoxAt.cell (BoxAt.lift hS57.ext hx6) rfl)) (Ext.refl _) rfl
          · intro f59 wd60 he61 hout62 hphi63
            have hS64 : St wd2 wd60 [] := St.extend hS42 he61
            have e65 : f59 3 = (Value.int .i64 (k11 : Int)) := (hout62 3 rfl).trans hf39
            exact OpY.val (Value.int .i64 (k11 : Int)) wd60 rfl (op_move e65) (Ext.refl _) ⟨rfl, hr22⟩
          · intro f66 wd67 he68 hout69 hphi70
            have hS71 : St wd2 wd67 [] := St.extend hS42 he68
            have e72 : f66 18 = v_r_Table := hphi70 1 18 _ rfl rfl rfl
            obtain ⟨e73, hr74⟩ : f66 19 = (Value.int .i64 (k11 : Int)) ∧ InR .i64 (k11 : Int) := hphi70 2 19 _ rfl rfl rfl
            exact OpY.val (Value.pointer (some (elA v_r_Table ((k11 : Int)).toNat))) wd67 rfl (op_idx sl_22 (Ty.lift _ (Ext.trans hE7 hS71.ext) r_r_Table) e72 e73 ha76 hb77) (Ext.refl _) rfl
          · intro f79 wd80 he81 hout82 hphi83
            have hS84 : St wd2 wd80 [] := St.extend hS42 he81
            have e85 : f79 20 = (Value.pointer (some (elA v_r_Table ((k11 : Int)).toNat))) := hphi83 3 20 _ rfl rfl rfl
            exact OpY.val u86 wd80 rfl (op_load one_65 e85 (Ext.cell (Ext.trans hE7 hS84.ext) hc87)) (Ext.refl _) rfl
          · intro f89 wd90 he91 hout92 hphi93
            have hS94 : St wd2 wd90 [] := St.extend hS42 he91
            have e95 : f89 4 = (Value.int .i64 (k29 : Int)) := (hout92 4 rfl).trans hf40
            exact OpY.val (Value.int .i64 (k29 : Int)) wd90 rfl (op_move e95) (Ext.refl _) ⟨rfl, hr41⟩
          · intro f96 wd97 he98 hout99 hphi100
            have hS101 : St wd2 wd97 [] := St.extend hS42 he98
            have e102 : f96 21 = u86 := hphi100 4 21 _ rfl rfl rfl
            obtain ⟨e103, hr104⟩ : f96 22 = (Value.int .i64 (k29 : Int)) ∧ InR .i64 (k29 : Int) := hphi100 5 22 _ rfl rfl rfl
            exact OpY.val (Value.pointer (some (elA u86 ((k29 : Int)).toNat))) wd97 rfl (op_idx sl_65 (Ty.lift _ (Ext.trans hE7 hS101.ext) hr88) e102 e103 ha106 hb107) (Ext.refl _) rfl
          · intro f109 wd110 he111 hout112 hphi113
            have hS114 : St wd2 wd110 [] := St.extend hS42 he111
            have e115 : f109 23 = (Value.pointer (some (elA u86 ((k29 : Int)).toNat))) := hphi113 6 23 _ rfl rfl rfl
            exact OpY.val u116 wd110 rfl (op_load one_25 e115 (Ext.cell (Ext.trans hE7 hS114.ext) hc117)) (Ext.refl _) rfl
          · intro f119 wd120 he121 hout122 hphi123
            have hS124 : St wd2 wd120 [] := St.extend hS42 he121
            have e125 : f119 1 = (Value.pointer (some ⟨b1, 0, none⟩)) := (hout122 1 rfl).trans hf38
            exact OpY.val (Value.pointer (some ⟨b1, 0, none⟩)) wd120 rfl (op_fieldAddr fd_29_0 e125) (Ext.refl _) rfl
          · intro f126 wd127 he128 hout129 hphi130
            have hS131 : St wd2 wd127 [] := St.extend hS42 he128
            have e132 : f126 25 = (Value.pointer (some ⟨b1, 0, none⟩)) := hphi130 8 25 _ rfl rfl rfl
            exact OpY.val v_r_Table wd127 rfl (op_load one_22 e132 (BoxAt.cell (BoxAt.lift hS131.ext hx6) rfl)) (Ext.refl _) rfl
          · intro f133 wd134 he135 hout136 hphi137
            have hS138 : St wd2 wd134 [] := St.extend hS42 he135
            have e139 : f133 4 = (Value.int .i64 (k29 : Int)) := (hout136 4 rfl).trans hf40
            exact OpY.val (Value.int .i64 (k29 : Int)) wd134 rfl (op_move e139) (Ext.refl _) ⟨rfl, hr41⟩
          · intro f140 wd141 he142 hout143 hphi144
            have hS145 : St wd2 wd141 [] := St.extend hS42 he142
            have e146 : f140 26 = v_r_Table := hphi144 9 26 _ rfl rfl rfl
            obtain ⟨e147, hr148⟩ : f140 27 = (Value.int .i64 (k29 : Int)) ∧ InR .i64 (k29 : Int) := hphi144 10 27 _ rfl rfl rfl
            exact OpY.val (Value.pointer (some (elA v_r_Table ((k29 : Int)).toNat))) wd141 rfl (op_idx sl_22 (Ty.lift _ (Ext.trans hE7 hS145.ext) r_r_Table) e146 e147 ha150 hb151) (Ext.refl _) rfl
          · intro f153 wd154 he155 hout156 hphi157
            have hS158 : St wd2 wd154 [] := St.extend hS42 he155
            have e159 : f153 28 = (Value.pointer (some (elA v_r_Table ((k29 : Int)).toNat))) := hphi157 11 28 _ rfl rfl rfl
            exact OpY.val u160 wd154 rfl (op_load one_65 e159 (Ext.cell (Ext.trans hE7 hS158.ext) hc161)) (Ext.refl _) rfl
          · intro f163 wd164 he165 hout166 hphi167
            have hS168 : St wd2 wd164 [] := St.extend hS42 he165
            have e169 : f163 3 = (Value.int .i64 (k11 : Int)) := (hout166 3 rfl).trans hf39
            exact OpY.val (Value.int .i64 (k11 : Int)) wd164 rfl (op_move e169) (Ext.refl _) ⟨rfl, hr22⟩
          · intro f170 wd171 he172 hout173 hphi174
            have hS175 : St wd2 wd171 [] := St.extend hS42 he172
            have e176 : f170 29 = u160 := hphi174 12 29 _ rfl rfl rfl
            obtain ⟨e177, hr178⟩ : f170 30 = (Value.int .i64 (k11 : Int)) ∧ InR .i64 (k11 : Int) := hphi174 13 30 _ rfl rfl rfl
            exact OpY.val (Value.pointer (some (elA u160 ((k11 : Int)).toNat))) wd171 rfl (op_idx sl_65 (Ty.lift _ (Ext.trans hE7 hS175.ext) hr162) e176 e177 ha180 hb181) (Ext.refl _) rfl
          · intro f183 wd184 he185 hout186 hphi187
            have hS188 : St wd2 wd184 [] := St.extend hS42 he185
            have e189 : f183 31 = (Value.pointer (some (elA u160 ((k11 : Int)).toNat))) := hphi187 14 31 _ rfl rfl rfl
            exact OpY.val u190 wd184 rfl (op_load one_25 e189 (Ext.cell (Ext.trans hE7 hS188.ext) hc191)) (Ext.refl _) rfl
          · intro f193 wd194 he195 hout196 hphi197
            show WL _ _ _ _ _ _ _
            have hS198 : St wd2 wd194 [] := St.extend hS42 he195
            have e199 : f193 24 = u116 := hphi197 7 24 _ (by decide) rfl rfl
            have e200 : f193 32 = u190 := hphi197 15 32 _ (by decide) rfl rfl
            have e201 : f193 1 = (Value.pointer (some ⟨b1, 0, none⟩)) := (hout196 1 rfl).trans hf38
            have e202 : f193 3 = (Value.int .i64 (k11 : Int)) := (hout196 3 rfl).trans hf39
            have e203 : f193 4 = (Value.int .i64 (k29 : Int)) := (hout196 4 rfl).trans hf40
            obtain ⟨x204, hx205, hb34⟩ := bs hb34
            refine WL.call _ (op_call fn_51 (args2 e199 e200)) (c_spec_l01Same (Ty.lift _ (Ext.trans hE7 hS198.ext) hr118) (Ty.lift _ (Ext.trans hE7 hS198.ext) hr192) hx205) rfl ?_
            rintro _ wd206 ⟨rfl, he207⟩
            have hS209 := St.extend hS198 he207
            replace hS209 : St wd2 wd206 [] := hS209
            refine WL.val (Value.bool (!x204)) _ (op_not rfl) rfl ?_
            refine WL.nil ?_
            show W _ _ _ _ _ _
            refine W.cond (!x204) rfl (fun hc210 => ?_) (fun hc210 => ?_)
            · replace hb34 := ip hb34 hc210
              refine W.seq ?_
              refine W.region ?_
              refine WL.val (Value.bool false) _ (op_assign rfl) rfl ?_
              refine WL.nil ?_
              show W _ _ _ _ _ _
              refine W.ret ?_
              obtain rfl := Option.some.inj hb34
              obtain rfl := hret37 _ rfl
              replace hb16 := onRes_ret hb16
              obtain rfl := Option.some.inj hb16
              obtain rfl := hret19 _ rfl
              replace h := onRes_ret h
              obtain rfl := Option.some.inj h
              show FinP _ _ _ _ _ _ _
              exact FinP.ret _ (res1 rfl rfl) ⟨rfl, (Ext.trans hE7 hS209.ext)⟩
            · replace hb34 := inegb hb34 hc210
              refine W.skip ?_
              show W _ _ _ _ _ _
              refine W.region ?_
              refine WL.val (Value.int .i64 (k29 : Int)) _ (op_move e203) rfl ?_
              refine WL.val (Value.int .i64 (w64 ((k29 : Int) + (1 : Int)))) _ (op_add rfl rfl) rfl ?_
              refine WL.val (Value.int .i64 (w64 ((k29 : Int) + (1 : Int)))) _ (op_assign rfl) rfl ?_
              refine WL.nil ?_
              obtain rfl := Option.some.inj hb34
              show ∃ s, _ = Ctl.next s ∧ _
              exact ⟨_, rfl, e201, e202, (ctr_next hl43 hr22), (ctr_rng hl43 hr22), hS209⟩
        · intro s217 f213 wd214 hs215 hI216
          obtain ⟨⟩ := s217
          replace hI216 : f213 1 = (Value.pointer (some ⟨b1, 0, none⟩)) ∧ f213 3 = (Value.int .i64 (k11 : Int)) ∧ f213 4 = Value.int .i64 ((((k11 : Int)).toNat : Nat) : Int) ∧ InR .i64 ((((k11 : Int)).toNat : Nat) : Int) ∧ St wd2 wd214 [] := hI216
          obtain ⟨hf218, hf219, hf220, hr221, hS222⟩ := hI216
          refine W.seq ?_
          refine W.seq ?_
          refine W.region ?_
          refine WL.val (Value.int .i64 ((((k11 : Int)).toNat : Nat) : Int)) _ (op_move hf220) rfl ?_
          refine WL.val (Value.int .i64 (k11 : Int)) _ (op_move hf219) rfl ?_
          refine WL.val (Value.bool (decide (((((k11 : Int)).toNat : Nat) : Int) < (k11 : Int)))) _ (op_lss rfl rfl) rfl ?_
          have hl223 : ¬ ((((k11 : Int)).toNat : Nat) : Int) < (k11 : Int) := by omega
          refine WL.nil ?_
          show W _ _ _ _ _ _
          refine W.condF (decide (((((k11 : Int)).toNat : Nat) : Int) < (k11 : Int))) rfl (decide_eq_false hl223) ?_
          refine W.exit ?_
          show _ = _ ∧ _
          exact ⟨rfl, _, hs215, hf218, hf219, hS222⟩
      · rintro f224 wd225 ⟨s227, rfl, hq226⟩
        replace hb16 := onRes_fin hb16
        obtain ⟨⟩ := s227
        replace hq226 : f224 1 = (Value.pointer (some ⟨b1, 0, none⟩)) ∧ f224 3 = (Value.int .i64 (k11 : Int)) ∧ St wd2 wd225 [] := hq226
        obtain ⟨hf228, hf229, hS230⟩ := hq226
        show W _ _ _ _ _ _
        refine W.region ?_
        refine WL.val (Value.int .i64 (k11 : Int)) _ (op_move hf229) rfl ?_
        refine WL.val (Value.int .i64 (w64 ((k11 : Int) + (1 : Int)))) _ (op_add rfl rfl) rfl ?_
        refine WL.val (Value.int .i64 (w64 ((k11 : Int) + (1 : Int)))) _ (op_assign rfl) rfl ?_
        refine WL.nil ?_
        obtain rfl := Option.some.inj hb16
        show ∃ s, _ = Ctl.next s ∧ _
        exact ⟨_, rfl, hf228, (ctr_next hl25 hr24), (ctr_rng hl25 hr24), hS230⟩
    · intro s237 f233 wd234 hs235 hI236
      obtain ⟨⟩ := s237
      replace hI236 : f233 1 = (Value.pointer (some ⟨b1, 0, none⟩)) ∧ f233 3 = Value.int .i64 (((r_Table).length : Nat) : Int) ∧ InR .i64 (((r_Table).length : Nat) : Int) ∧ St wd2 wd234 [] := hI236
      obtain ⟨hf238, hf239, hr240, hS241⟩ := hI236
      refine W.seq ?_
      refine W.seq ?_
      refine W.region ?_
      refine WL.val (Value.int .i64 (((r_Table).length : Nat) : Int)) _ (op_move hf239) rfl ?_
      refine WL.val (Value.pointer (some ⟨b1, 0, none⟩)) _ (op_fieldAddr fd_29_0 hf238) rfl ?_
      refine WL.val v_r_Table _ (op_load one_22 rfl (BoxAt.cell (BoxAt.lift hS241.ext hx6) rfl)) rfl ?_
      have hr242 := inR_len (Ty.lift _ (Ext.trans hE7 hS241.ext) r_r_Table)
      refine WL.val (Value.int .i64 ((r_Table).length : Int)) _ (op_lenL sl_22 (Ty.lift _ (Ext.trans hE7 hS241.ext) r_r_Table) rfl) rfl ?_
      refine WL.val (Value.bool (decide ((((r_Table).length : Nat) : Int) < ((r_Table).length : Int)))) _ (op_lss rfl rfl) rfl ?_
      have hl243 : ¬ (((r_Table).length : Nat) : Int) < ((r_Table).length : Int) := by omega
      refine WL.nil ?_
      show W _ _ _ _ _ _
      refine W.condF (decide ((((r_Table).length : Nat) : Int) < ((r_Table).length : Int))) rfl (decide_eq_false hl243) ?_
      refine W.exit ?_
      show _ = _ ∧ _
      exact ⟨rfl, _, hs235, hS241⟩
  · rintro f244 wd245 ⟨s247, rfl, hq246⟩
    replace h := onRes_fin h
    obtain ⟨⟩ := s247
    replace hq246 : St wd2 wd245 [] := hq246
    have hS248 := hq246
    show W _ _ _ _ _ _
    refine W.seq ?_
    refine W.region ?_
    refine WL.val (Value.bool true) _ (op_assign rfl) rfl ?_
    refine WL.nil ?_
    show W _ _ _ _ _ _
    refine W.ret ?_
    obtain rfl := Option.some.inj h
    show FinP _ _ _ _ _ _ _
    exact FinP.ret _ (res1 rfl rfl) ⟨rfl, (Ext.trans hE7 hS248.ext)⟩

theorem c_spec_l08Code {w : World} {r_Table : (List (List (List Int)))} {v_r_Table : Value} (r_r_Table : (Ty.sl (Ty.sl (Ty.sl (Ty.i .i64)))).rep w v_r_Table r_Table) {res : Int} (h : p_spec_l08Code r_Table  = some res) :
    Ret Try.prog 64 #[(Value.agg #[v_r_Table])] w (fun v w' => v = Value.int .i64 res ∧ InR .i64 res ∧ Ext w w') := by
  unfold p_spec_l08Code at h
  have hS0 : St w w [] := St.start w
  refine Ret.start (fn := Try.f64) Try.func64 rfl 9 rfl rfl ?_
  refine W.seq ?_
  refine W.region ?_
  refine WL.box hS0 rfl (cs := [v_r_Table]) rfl rfl ?_
  intro b1 wd2 hS3 he4 hx5
  replace hS3 : St w wd2 [bx b1 [v_r_Table]] := hS3
  have hx6 := St.boxAt hS3 0 rfl
  have hE7 : Ext w wd2 := hS3.ext
  have hS8 : St wd2 wd2 [] := St.start wd2
  refine WL.val (Value.int .i64 (0 : Int)) _ (op_assign rfl) rfl ?_
  refine WL.nil ?_
  show W _ _ _ _ _ _
  refine W.seq ?_
  refine W.seq ?_
  refine W.region ?_
  refine WL.val (Value.agg #[v_r_Table]) _ (op_loadBox st_29 rfl (BoxAt.lift hS8.ext hx6) rfl rfl) rfl ?_
  obtain ⟨x9, hx10, h⟩ := bs h
  refine WL.call _ (op_call fn_60 (args1 rfl)) (c_spec_l03Is (Ty.lift _ (Ext.trans hE7 hS8.ext) r_r_Table) hx10) rfl ?_
  rintro _ wd11 ⟨rfl, he12⟩
  have hS14 := St.extend hS8 he12
  replace hS14 : St wd2 wd11 [] := hS14
  refine WL.val (Value.bool (!x9)) _ (op_not rfl) rfl ?_
  refine WL.nil ?_
  show W _ _ _ _ _ _
  refine W.cond (!x9) rfl (fun hc15 => ?_) (fun hc15 => ?_)
  · replace h := ip h hc15
    refine W.seq ?_
    refine W.region ?_
    refine WL.val (Value.int .i64 (1 : Int)) _ (op_assign rfl) rfl ?_
    refine WL.nil ?_
    show W _ _ _ _ _ _
    refine W.ret ?_
    obtain rfl := Option.some.inj h
    show FinP _ _ _ _ _ _ _
    exact FinP.ret _ (res1 rfl rfl) ⟨rfl, (inR_i64.2 (show (-9223372036854775808 : Int) ≤ 1 ∧ (1 : Int) ≤ 9223372036854775807 from by decide)), (Ext.trans hE7 hS14.ext)⟩
  · replace h := inegb h hc15
    refine W.skip ?_
    show W _ _ _ _ _ _
    refine W.seq ?_
    refine W.seq ?_
    refine W.region ?_
    refine WL.val (Value.agg #[v_r_Table]) _ (op_loadBox st_29 rfl (BoxAt.lift hS14.ext hx6) rfl rfl) rfl ?_
    obtain ⟨x17, hx18, h⟩ := bs h
    refine WL.call _ (op_call fn_92 (args1 rfl)) (c_spec_l03Commutative (Ty.lift _ (Ext.trans hE7 hS14.ext) r_r_Table) hx18) rfl ?_
    rintro _ wd19 ⟨rfl, he20⟩
    have hS22 := St.extend hS14 he20
    replace hS22 : St wd2 wd19 [] := hS22
    refine WL.val (Value.bool (!x17)) _ (op_not rfl) rfl ?_
    refine WL.nil ?_
    show W _ _ _ _ _ _
    refine W.cond (!x17) rfl (fun hc23 => ?_) (fun hc23 => ?_)
    · replace h := ip h hc23
      refine W.seq ?_
      refine W.region ?_
      refine WL.val (Value.int .i64 (5 : Int)) _ (op_assign rfl) rfl ?_
      refine WL.nil ?_
      show W _ _ _ _ _ _
      refine W.ret ?_
      obtain rfl := Option.some.inj h
      show FinP _ _ _ _ _ _ _
      exact FinP.ret _ (res1 rfl rfl) ⟨rfl, (inR_i64.2 (show (-9223372036854775808 : Int) ≤ 5 ∧ (5 : Int) ≤ 9223372036854775807 from by decide)), (Ext.trans hE7 hS22.ext)⟩
    · replace h := inegb h hc23
      refine W.skip ?_
      show W _ _ _ _ _ _
      refine W.seq ?_
      refine W.region ?_
      refine WL.val (Value.int .i64 (0 : Int)) _ (op_assign rfl) rfl ?_
      refine WL.nil ?_
      show W _ _ _ _ _ _
      refine W.ret ?_
      obtain rfl := Option.some.inj h
      show FinP _ _ _ _ _ _ _
      exact FinP.ret _ (res1 rfl rfl) ⟨rfl, (inR_i64.2 (show (-9223372036854775808 : Int) ≤ 0 ∧ (0 : Int) ≤ 9223372036854775807 from by decide)), (Ext.trans hE7 hS22.ext)⟩

theorem c_spec_l01Number {w : World} {n : Int} (r_n : InR .i64 n) {res : Bool} (h : p_spec_l01Number n  = some res) :
    Ret Try.prog 96 #[(Value.int .i64 n)] w (fun v w' => v = Value.bool res ∧ Ext w w') := by
  unfold p_spec_l01Number at h
  have hS0 : St w w [] := St.start w
  refine Ret.start (fn := Try.f96) Try.func96 rfl 5 rfl rfl ?_
  refine W.seq ?_
  refine W.region ?_
  refine WL.val (Value.bool false) _ (op_assign rfl) rfl ?_
  refine WL.nil ?_
  show W _ _ _ _ _ _
  refine W.seq ?_
  refine W.region ?_
  refine WL.val (Value.int .i64 n) _ (op_move rfl) rfl ?_
  obtain ⟨x1, hx2, h⟩ := bs h
  refine WL.call _ (op_call fn_75 (args3 rfl rfl rfl)) (c_spec_l01In r_n (inR_i64.2 (show (-9223372036854775808 : Int) ≤ 0 ∧ (0 : Int) ≤ 9223372036854775807 from by decide)) (inR_i64.2 (show (-9223372036854775808 : Int) ≤ 55440 ∧ (55440 : Int) ≤ 9223372036854775807 from by decide)) hx2) rfl ?_
  rintro _ wd3 ⟨rfl, he4⟩
  have hS6 := St.extend hS0 he4
  replace hS6 : St w wd3 [] := hS6
  refine WL.val (Value.bool x1) _ (op_assign rfl) rfl ?_
  refine WL.nil ?_
  show W _ _ _ _ _ _
  refine W.ret ?_
  obtain rfl := Option.some.inj h
  show FinP _ _ _ _ _ _ _
  exact FinP.ret _ (res1 rfl rfl) ⟨rfl, hS6.ext⟩

theorem c_spec_l01Numbers {w : World} {list : (List Int)} {v_list : Value} (r_list : (Ty.sl (Ty.i .i64)).rep w v_list list) {res : Bool} (h : p_spec_l01Numbers list  = some res) :
    Ret Try.prog 68 #[v_list] w (fun v w' => v = Value.bool res ∧ Ext w w') := by
  unfold p_spec_l01Numbers at h
  have hS0 : St w w [] := St.start w
  refine Ret.start (fn := Try.f68) Try.func68 rfl 16 rfl rfl ?_
  refine W.seq ?_
  refine W.region ?_
  refine WL.val (Value.bool false) _ (op_assign rfl) rfl ?_
  refine WL.nil ?_
  show W _ _ _ _ _ _
  refine W.seq ?_
  refine W.seq ?_
  refine W.region ?_
  refine WL.val (Value.int .i64 (0 : Int)) _ (op_assign rfl) rfl ?_
  refine WL.nil ?_
  show W _ _ _ _ _ _
  obtain ⟨res1, hres2, h⟩ := bs h
  refine W.blockLoop (fun fq wq => ∃ s, res1 = Res.fin s ∧ St w wq []) ?_ ?_
  · refine W.forN (fun k (s : Unit) fq wq => fq 0 = v_list ∧ fq 3 = Value.int .i64 (k : Int) ∧ InR .i64 (k : Int) ∧ St w wq []) hres2 ⟨rfl, rfl, (inR_i64.2 (show (-9223372036854775808 : Int) ≤ 0 ∧ (0 : Int) ≤ 9223372036854775807 from by decide)), hS0⟩ ?_ ?_
    · intro k3 s34 ct4 f5 wd6 hk7 hb8 hI9 hbrk10 hret11
      obtain ⟨⟩ := s34
      replace hI9 : f5 0 = v_list ∧ f5 3 = Value.int .i64 (k3 : Int) ∧ InR .i64 (k3 : Int) ∧ St w wd6 [] := hI9
      replace hb8 : p_spec_l01Numbers_L1 list k3  = some ct4 := hb8
      unfold p_spec_l01Numbers_L1 at hb8
      obtain ⟨hf12, hf13, hr14, hS15⟩ := hI9
      refine W.seq ?_
      refine W.seq ?_
      refine W.region ?_
      refine WL.val (Value.int .i64 (k3 : Int)) _ (op_move hf13) rfl ?_
      refine WL.val v_list _ (op_move hf12) rfl ?_
      have hr16 := inR_len (Ty.lift _ hS15.ext r_list)
      refine WL.val (Value.int .i64 ((list).length : Int)) _ (op_lenL sl_25 (Ty.lift _ hS15.ext r_list) rfl) rfl ?_
      refine WL.val (Value.bool (decide ((k3 : Int) < ((list).length : Int)))) _ (op_lss rfl rfl) rfl ?_
      have hl17 : (k3 : Int) < ((list).length : Int) := by omega
      refine WL.nil ?_
      show W _ _ _ _ _ _
      refine W.condT (decide ((k3 : Int) < ((list).length : Int))) rfl (decide_eq_true hl17) ?_
      refine W.skip ?_
      show W _ _ _ _ _ _
      refine W.seq ?_
      refine W.block ?_
      refine W.seq ?_
      refine W.region ?_
      refine WL.val v_list _ (op_move hf12) rfl ?_
      refine WL.val (Value.int .i64 (k3 : Int)) _ (op_move hf13) rfl ?_
      obtain ⟨x19, hx22, hb8⟩ := bs hb8
      obtain ⟨ha20, hb21, hx22⟩ := idx_some hx22
      refine WL.val (Value.pointer (some (elA v_list ((k3 : Int)).toNat))) _ (op_idx sl_25 (Ty.lift _ hS15.ext r_list) rfl rfl ha20 hb21) rfl ?_
      obtain ⟨u23, hc24, hr25⟩ := repSl.el r_list hx22
      obtain ⟨rfl, hr25⟩ := hr25
      refine WL.val (Value.int .i64 x19) _ (op_load one_2 rfl (Ext.cell hS15.ext hc24)) rfl ?_
      obtain ⟨x26, hx27, hb8⟩ := bs hb8
      refine WL.call _ (op_call fn_96 (args1 rfl)) (c_spec_l01Number hr25 hx27) rfl ?_
      rintro _ wd28 ⟨rfl, he29⟩
      have hS31 := St.extend hS15 he29
      replace hS31 : St w wd28 [] := hS31
      refine WL.val (Value.bool (!x26)) _ (op_not rfl) rfl ?_
      refine WL.nil ?_
      show W _ _ _ _ _ _
      refine W.cond (!x26) rfl (fun hc32 => ?_) (fun hc32 => ?_)
      · replace hb8 := ip hb8 hc32
        refine W.seq ?_
        refine W.region ?_
        refine WL.val (Value.bool false) _ (op_assign rfl) rfl ?_
        refine WL.nil ?_
        show W _ _ _ _ _ _
        refine W.ret ?_
        obtain rfl := Option.some.inj hb8
        obtain rfl := hret11 _ rfl
        replace h := onRes_ret h
        obtain rfl := Option.some.inj h
        show FinP _ _ _ _ _ _ _
        exact FinP.ret _ (res1 rfl rfl) ⟨rfl, hS31.ext⟩
      · replace hb8 := inegb hb8 hc32
        refine W.skip ?_
        show W _ _ _ _ _ _
        refine W.region ?_
        refine WL.val (Value.int .i64 (k3 : Int)) _ (op_move hf13) rfl ?_
        refine WL.val (Value.int .i64 (w64 ((k3 : Int) + (1 : Int)))) _ (op_add rfl rfl) rfl ?_
        refine WL.val (Value.int .i64 (w64 ((k3 : Int) + (1 : Int)))) _ (op_assign rfl) rfl ?_
        refine WL.nil ?_
        obtain rfl := Option.some.inj hb8
        show ∃ s, _ = Ctl.next s ∧ _
        exact ⟨_, rfl, hf12, (ctr_next hl17 hr16), (ctr_rng hl17 hr16), hS31⟩
    · intro s39 f35 wd36 hs37 hI38
      obtain ⟨⟩ := s39
      replace hI38 : f35 0 = v_list ∧ f35 3 = Value.int .i64 (((list).length : Nat) : Int) ∧ InR .i64 (((list).length : Nat) : Int) ∧ St w wd36 [] := hI38
      obtain ⟨hf40, hf41, hr42, hS43⟩ := hI38
      refine W.seq ?_
      refine W.seq ?_
      refine W.region ?_
      refine WL.val (Value.int .i64 (((list).length : Nat) : Int)) _ (op_move hf41) rfl ?_
      refine WL.val v_list _ (op_move hf40) rfl ?_
      have hr44 := inR_len (Ty.lift _ hS43.ext r_list)
      refine WL.val (Value.int .i64 ((list).length : Int)) _ (op_lenL sl_25 (Ty.lift _ hS43.ext r_list) rfl) rfl ?_
      refine WL.val (Value.bool (decide ((((list).length : Nat) : Int) < ((list).length : Int)))) _ (op_lss rfl rfl) rfl ?_
      have hl45 : ¬ (((list).length : Nat) : Int) < ((list).length : Int) := by omega
      refine WL.nil ?_
      show W _ _ _ _ _ _
      refine W.condF (decide ((((list).length : Nat) : Int) < ((list).length : Int))) rfl (decide_eq_false hl45) ?_
      refine W.exit ?_
      show _ = _ ∧ _
      exact ⟨rfl, _, hs37, hS43⟩
  · rintro f46 wd47 ⟨s49, rfl, hq48⟩
    replace h := onRes_fin h
    obtain ⟨⟩ := s49
    replace hq48 : St w wd47 [] := hq48
    have hS50 := hq48
    show W _ _ _ _ _ _
    refine W.seq ?_
    refine W.region ?_
    refine WL.val (Value.bool true) _ (op_assign rfl) rfl ?_
    refine WL.nil ?_
    show W _ _ _ _ _ _
    refine W.ret ?_
    obtain rfl := Option.some.inj h
    show FinP _ _ _ _ _ _ _
    exact FinP.ret _ (res1 rfl rfl) ⟨rfl, hS50.ext⟩

theorem c_spec_l01Dot {w : World} {a : (List Int)} {v_a : Value} {b : (List Int)} {v_b : Value} (r_a : (Ty.sl (Ty.i .i64)).rep w v_a a) (r_b : (Ty.sl (Ty.i .i64)).rep w v_b b) {res : Int} (h : p_spec_l01Dot a b  = some res) :
    Ret Try.prog 69 #[v_a, v_b] w (fun v w' => v = Value.int .i64 res ∧ InR .i64 res ∧ Ext w w') := by
  unfold p_spec_l01Dot at h
  have hS0 : St w w [] := St.start w
  refine Ret.start (fn := Try.f69) Try.func69 rfl 26 rfl rfl ?_
  refine W.seq ?_
  refine W.region ?_
  refine WL.val (Value.int .i64 (0 : Int)) _ (op_assign rfl) rfl ?_
  refine WL.nil ?_
  show W _ _ _ _ _ _
  refine W.seq ?_
  refine W.region ?_
  refine WL.val (Value.int .i64 (0 : Int)) _ (op_assign rfl) rfl ?_
  refine WL.nil ?_
  show W _ _ _ _ _ _
  refine W.seq ?_
  refine W.seq ?_
  refine W.region ?_
  refine WL.val (Value.int .i64 (0 : Int)) _ (op_assign rfl) rfl ?_
  refine WL.nil ?_
  show W _ _ _ _ _ _
  obtain ⟨res1, hres2, h⟩ := bs h
  refine W.blockLoop (fun fq wq => ∃ s, res1 = Res.fin s ∧ fq 5 = Value.int .i64 s ∧ InR .i64 s ∧ St w wq []) ?_ ?_
  · refine W.forN (fun k (s : Int) fq wq => fq 0 = v_a ∧ fq 1 = v_b ∧ fq 5 = Value.int .i64 s ∧ InR .i64 s ∧ fq 6 = Value.int .i64 (k : Int) ∧ InR .i64 (k : Int) ∧ St w wq []) hres2 ⟨rfl, rfl, rfl, (inR_i64.2 (show (-9223372036854775808 : Int) ≤ 0 ∧ (0 : Int) ≤ 9223372036854775807 from by decide)), rfl, (inR_i64.2 (show (-9223372036854775808 : Int) ≤ 0 ∧ (0 : Int) ≤ 9223372036854775807 from by decide)), hS0⟩ ?_ ?_
    · intro k3 x4 ct5 f6 wd7 hk8 hb9 hI10 hbrk11 hret12
      replace hI10 : f6 0 = v_a ∧ f6 1 = v_b ∧ f6 5 = Value.int .i64 x4 ∧ InR .i64 x4 ∧ f6 6 = Value.int .i64 (k3 : Int) ∧ InR .i64 (k3 : Int) ∧ St w wd7 [] := hI10
      replace hb9 : p_spec_l01Dot_L1 a b k3 x4 = some ct5 := hb9
      unfold p_spec_l01Dot_L1 at hb9
      obtain ⟨hf13, hf14, hf15, hr16, hf17, hr18, hS19⟩ := hI10
      refine W.seq ?_
      refine W.seq ?_
      refine W.region ?_
      refine WL.val (Value.int .i64 (k3 : Int)) _ (op_move hf17) rfl ?_
      refine WL.val v_a _ (op_move hf13) rfl ?_
      have hr20 := inR_len (Ty.lift _ hS19.ext r_a)
      refine WL.val (Value.int .i64 ((a).length : Int)) _ (op_lenL sl_25 (Ty.lift _ hS19.ext r_a) rfl) rfl ?_
      refine WL.val (Value.bool (decide ((k3 : Int) < ((a).length : Int)))) _ (op_lss rfl rfl) rfl ?_
      have hl21 : (k3 : Int) < ((a).length : Int) := by omega
      refine WL.nil ?_
      show W _ _ _ _ _ _
      refine W.condT (decide ((k3 : Int) < ((a).length : Int))) rfl (decide_eq_true hl21) ?_
      refine W.skip ?_
      show W _ _ _ _ _ _
      refine W.seq ?_
      refine W.block ?_
      obtain ⟨x53, hx56, hb9⟩ := bs hb9
      obtain ⟨ha54, hb55, hx56⟩ := idx_some hx56
      obtain ⟨u64, hc65, hr66⟩ := repSl.el r_a hx56
      obtain ⟨rfl, hr66⟩ := hr66
      obtain ⟨x90, hx93, hb9⟩ := bs hb9
      obtain ⟨ha91, hb92, hx93⟩ := idx_some hx93
      obtain ⟨u101, hc102, hr103⟩ := repSl.el r_b hx93
      obtain ⟨rfl, hr103⟩ := hr103
      refine W.draw mixo 10 [fun v _ => v = (Value.int .i64 x4) ∧ InR .i64 x4, fun v _ => v = v_a, fun v _ => v = (Value.int .i64 (k3 : Int)) ∧ InR .i64 (k3 : Int), fun v _ => v = (Value.pointer (some (elA v_a ((k3 : Int)).toNat))), fun v _ => v = (Value.int .i64 x53) ∧ InR .i64 x53, fun v _ => v = v_b, fun v _ => v = (Value.int .i64 (k3 : Int)) ∧ InR .i64 (k3 : Int), fun v _ => v = (Value.pointer (some (elA v_b ((k3 : Int)).toNat))), fun v _ => v = (Value.int .i64 x90) ∧ InR .i64 x90, fun v _ => v = (Value.int .i64 (w64 (x53 * x90))) ∧ InR .i64 (w64 (x53 * x90))] (by kernel_rfl) (by kernel_rfl) (stabL ⟨(fun _ _ _ _ h => h), (fun _ _ _ _ h => h), (fun _ _ _ _ h => h), (fun _ _ _ _ h => h), (fun _ _ _ _ h => h), (fun _ _ _ _ h => h), (fun _ _ _ _ h => h), (fun _ _ _ _ h => h), (fun _ _ _ _ h => h), (fun _ _ _ _ h => h), trivial⟩) ⟨?_, ?_, ?_, ?_, ?_, ?_, ?_, ?_, ?_, ?_, trivial⟩ ?_
      · intro f23 wd24 he25 hout26 hphi27
        have hS28 : St w wd24 [] := St.extend hS19 he25
        have e29 : f23 5 = (Value.int .i64 x4) := (hout26 5 rfl).trans hf15
        exact OpY.val (Value.int .i64 x4) wd24 rfl (op_move e29) (Ext.refl _) ⟨rfl, hr16⟩
      · intro f30 wd31 he32 hout33 hphi34
        have hS35 : St w wd31 [] := St.extend hS19 he32
        have e36 : f30 0 = v_a := (hout33 0 rfl).trans hf13
        exact OpY.val v_a wd31 rfl (op_move e36) (Ext.refl _) rfl
      · intro f37 wd38 he39 hout40 hphi41
        have hS42 : St w wd38 [] := St.extend hS19 he39
        have e43 : f37 6 = (Value.int .i64 (k3 : Int)) := (hout40 6 rfl).trans hf17
        exact OpY.val (Value.int .i64 (k3 : Int)) wd38 rfl (op_move e43) (Ext.refl _) ⟨rfl, hr18⟩
      · intro f44 wd45 he46 hout47 hphi48
        have hS49 : St w wd45 [] := St.extend hS19 he46
        have e50 : f44 14 = v_a := hphi48 1 14 _ rfl rfl rfl
        obtain ⟨e51, hr52⟩ : f44 15 = (Value.int .i64 (k3 : Int)) ∧ InR .i64 (k3 : Int) := hphi48 2 15 _ rfl rfl rfl
        exact OpY.val (Value.pointer (some (elA v_a ((k3 : Int)).toNat))) wd45 rfl (op_idx sl_25 (Ty.lift _ hS49.ext r_a) e50 e51 ha54 hb55) (Ext.refl _) rfl
      · intro f57 wd58 he59 hout60 hphi61
        have hS62 : St w wd58 [] := St.extend hS19 he59
        have e63 : f57 16 = (Value.pointer (some (elA v_a ((k3 : Int)).toNat))) := hphi61 3 16 _ rfl rfl rfl
        exact OpY.val (Value.int .i64 x53) wd58 rfl (op_load one_2 e63 (Ext.cell hS62.ext hc65)) (Ext.refl _) ⟨rfl, hr66⟩
      · intro f67 wd68 he69 hout70 hphi71
        have hS72 : St w wd68 [] := St.extend hS19 he69
        have e73 : f67 1 = v_b := (hout70 1 rfl).trans hf14
        exact OpY.val v_b wd68 rfl (op_move e73) (Ext.refl _) rfl
      · intro f74 wd75 he76 hout77 hphi78
        have hS79 : St w wd75 [] := St.extend hS19 he76
        have e80 : f74 6 = (Value.int .i64 (k3 : Int)) := (hout77 6 rfl).trans hf17
        exact OpY.val (Value.int .i64 (k3 : Int)) wd75 rfl (op_move e80) (Ext.refl _) ⟨rfl, hr18⟩
      · intro f81 wd82 he83 hout84 hphi85
        have hS86 : St w wd82 [] := St.extend hS19 he83
        have e87 : f81 18 = v_b := hphi85 5 18 _ rfl rfl rfl
        obtain ⟨e88, hr89⟩ : f81 19 = (Value.int .i64 (k3 : Int)) ∧ InR .i64 (k3 : Int) := hphi85 6 19 _ rfl rfl rfl
        exact OpY.val (Value.pointer (some (elA v_b ((k3 : Int)).toNat))) wd82 rfl (op_idx sl_25 (Ty.lift _ hS86.ext r_b) e87 e88 ha91 hb92) (Ext.refl _) rfl
      · intro f94 wd95 he96 hout97 hphi98
        have hS99 : St w wd95 [] := St.extend hS19 he96
        have e100 : f94 20 = (Value.pointer (some (elA v_b ((k3 : Int)).toNat))) := hphi98 7 20 _ rfl rfl rfl
        exact OpY.val (Value.int .i64 x90) wd95 rfl (op_load one_2 e100 (Ext.cell hS99.ext hc102)) (Ext.refl _) ⟨rfl, hr103⟩
      · intro f104 wd105 he106 hout107 hphi108
        have hS109 : St w wd105 [] := St.extend hS19 he106
        obtain ⟨e110, hr111⟩ : f104 17 = (Value.int .i64 x53) ∧ InR .i64 x53 := hphi108 4 17 _ rfl rfl rfl
        obtain ⟨e112, hr113⟩ : f104 21 = (Value.int .i64 x90) ∧ InR .i64 x90 := hphi108 8 21 _ rfl rfl rfl
        exact OpY.val (Value.int .i64 (w64 (x53 * x90))) wd105 rfl (op_mul e110 e112) (Ext.refl _) ⟨rfl, (inR_wrap _ _)⟩
      · intro f114 wd115 he116 hout117 hphi118
        show WL _ _ _ _ _ _ _
        have hS119 : St w wd115 [] := St.extend hS19 he116
        obtain ⟨e120, hr121⟩ : f114 13 = (Value.int .i64 x4) ∧ InR .i64 x4 := hphi118 0 13 _ (by decide) rfl rfl
        obtain ⟨e122, hr123⟩ : f114 22 = (Value.int .i64 (w64 (x53 * x90))) ∧ InR .i64 (w64 (x53 * x90)) := hphi118 9 22 _ (by decide) rfl rfl
        have e124 : f114 0 = v_a := (hout117 0 rfl).trans hf13
        have e125 : f114 1 = v_b := (hout117 1 rfl).trans hf14
        have e126 : f114 6 = (Value.int .i64 (k3 : Int)) := (hout117 6 rfl).trans hf17
        refine WL.val (Value.int .i64 (w64 (x4 + (w64 (x53 * x90))))) _ (op_add e120 e122) rfl ?_
        refine WL.val (Value.int .i64 (((w64 (x4 + (w64 (x53 * x90))))).tmod (55441 : Int))) _ (op_rem (b := 55441) rfl rfl (by decide)) rfl ?_
        refine WL.val (Value.int .i64 (((w64 (x4 + (w64 (x53 * x90))))).tmod (55441 : Int))) _ (op_assign rfl) rfl ?_
        refine WL.nil ?_
        show W _ _ _ _ _ _
        refine W.region ?_
        refine WL.val (Value.int .i64 (k3 : Int)) _ (op_move e126) rfl ?_
        refine WL.val (Value.int .i64 (w64 ((k3 : Int) + (1 : Int)))) _ (op_add rfl rfl) rfl ?_
        refine WL.val (Value.int .i64 (w64 ((k3 : Int) + (1 : Int)))) _ (op_assign rfl) rfl ?_
        refine WL.nil ?_
        obtain rfl := Option.some.inj hb9
        show ∃ s, _ = Ctl.next s ∧ _
        exact ⟨_, rfl, e124, e125, rfl, (inR_tmod (inR_wrap _ _)), (ctr_next hl21 hr20), (ctr_rng hl21 hr20), hS119⟩
    · intro x133 f128 wd129 hs130 hI131
      replace hI131 : f128 0 = v_a ∧ f128 1 = v_b ∧ f128 5 = Value.int .i64 x133 ∧ InR .i64 x133 ∧ f128 6 = Value.int .i64 (((a).length : Nat) : Int) ∧ InR .i64 (((a).length : Nat) : Int) ∧ St w wd129 [] := hI131
      obtain ⟨hf134, hf135, hf136, hr137, hf138, hr139, hS140⟩ := hI131
      refine W.seq ?_
      refine W.seq ?_
      refine W.region ?_
      refine WL.val (Value.int .i64 (((a).length : Nat) : Int)) _ (op_move hf138) rfl ?_
      refine WL.val v_a _ (op_move hf134) rfl ?_
      have hr141 := inR_len (Ty.lift _ hS140.ext r_a)
      refine WL.val (Value.int .i64 ((a).length : Int)) _ (op_lenL sl_25 (Ty.lift _ hS140.ext r_a) rfl) rfl ?_
      refine WL.val (Value.bool (decide ((((a).length : Nat) : Int) < ((a).length : Int)))) _ (op_lss rfl rfl) rfl ?_
      have hl142 : ¬ (((a).length : Nat) : Int) < ((a).length : Int) := by omega
      refine WL.nil ?_
      show W _ _ _ _ _ _
      refine W.condF (decide ((((a).length : Nat) : Int) < ((a).length : Int))) rfl (decide_eq_false hl142) ?_
      refine W.exit ?_
      show _ = _ ∧ _
      exact ⟨rfl, _, hs130, hf136, hr137, hS140⟩
  · rintro f143 wd144 ⟨x147, rfl, hq145⟩
    replace h := onRes_fin h
    replace hq145 : f143 5 = Value.int .i64 x147 ∧ InR .i64 x147 ∧ St w wd144 [] := hq145
    obtain ⟨hf148, hr149, hS150⟩ := hq145
    show W _ _ _ _ _ _
    refine W.seq ?_
    refine W.region ?_
    refine WL.val (Value.int .i64 x147) _ (op_move hf148) rfl ?_
    refine WL.val (Value.int .i64 x147) _ (op_assign rfl) rfl ?_
    refine WL.nil ?_
    show W _ _ _ _ _ _
    refine W.ret ?_
    obtain rfl := Option.some.inj h
    show FinP _ _ _ _ _ _ _
    exact FinP.ret _ (res1 rfl rfl) ⟨rfl, hr149, hS150.ext⟩

theorem c_spec_l08Is {w : World} {r_Table : (List (List (List Int)))} {v_r_Table : Value} {x : (List Int)} {v_x : Value} (r_r_Table : (Ty.sl (Ty.sl (Ty.sl (Ty.i .i64)))).rep w v_r_Table r_Table) (r_x : (Ty.sl (Ty.i .i64)).rep w v_x x) {res : Bool} (h : p_spec_l08Is r_Table x  = some res) :
    Ret Try.prog 36 #[(Value.agg #[v_r_Table]), v_x] w (fun v w' => v = Value.bool res ∧ Ext w w') := by
  unfold p_spec_l08Is at h
  have hS0 : St w w [] := St.start w
  refine Ret.start (fn := Try.f36) Try.func36 rfl 57 rfl rfl ?_
  refine W.seq ?_
  refine W.region ?_
  refine WL.box hS0 rfl (cs := [v_r_Table]) rfl rfl ?_
  intro b1 wd2 hS3 he4 hx5
  replace hS3 : St w wd2 [bx b1 [v_r_Table]] := hS3
  have hx6 := St.boxAt hS3 0 rfl
  have hE7 : Ext w wd2 := hS3.ext
  have hS8 : St wd2 wd2 [] := St.start wd2
  refine WL.val (Value.bool false) _ (op_assign rfl) rfl ?_
  refine WL.nil ?_
  show W _ _ _ _ _ _
  refine W.seq ?_
  refine W.region ?_
  refine WL.val (Value.pointer (some ⟨b1, 0, none⟩)) _ (op_fieldAddr fd_29_0 rfl) rfl ?_
  refine WL.val v_r_Table _ (op_load one_22 rfl (BoxAt.cell (BoxAt.lift hS8.ext hx6) rfl)) rfl ?_
  have hr9 := inR_len (Ty.lift _ (Ext.trans hE7 hS8.ext) r_r_Table)
  refine WL.val (Value.int .i64 ((r_Table).length : Int)) _ (op_lenL sl_22 (Ty.lift _ (Ext.trans hE7 hS8.ext) r_r_Table) rfl) rfl ?_
  refine WL.val (Value.int .i64 ((r_Table).length : Int)) _ (op_assign rfl) rfl ?_
  refine WL.nil ?_
  show W _ _ _ _ _ _
  refine W.seq ?_
  refine W.seq ?_
  refine W.region ?_
  refine WL.val v_x _ (op_move rfl) rfl ?_
  have hr10 := inR_len (Ty.lift _ (Ext.trans hE7 hS8.ext) r_x)
  refine WL.val (Value.int .i64 ((x).length : Int)) _ (op_lenL sl_25 (Ty.lift _ (Ext.trans hE7 hS8.ext) r_x) rfl) rfl ?_
  refine WL.val (Value.int .i64 ((r_Table).length : Int)) _ (op_move rfl) rfl ?_
  refine WL.val (Value.bool (((x).length : Int) != ((r_Table).length : Int))) _ (op_neq rfl rfl) rfl ?_
  refine WL.val (Value.bool (((x).length : Int) != ((r_Table).length : Int))) _ (op_move rfl) rfl ?_
  obtain ⟨x12, hj13, h⟩ := bs h
  refine WL.cut 4 (fun fq wq => fq 1 = v_x ∧ fq 2 = (Value.pointer (some ⟨b1, 0, none⟩)) ∧ fq 5 = (Value.int .i64 ((r_Table).length : Int)) ∧ fq 19 = Value.bool x12 ∧ St wd2 wq []) ?_ ?_
  · rcases Bool.eq_false_or_eq_true (((x).length : Int) != ((r_Table).length : Int)) with hc11 | hc11
    · replace hj13 := ip hj13 hc11
      refine WL.gskip rfl (bool_of rfl hc11) rfl ?_
      refine WL.gskip rfl (bool_of rfl hc11) rfl ?_
      refine WL.gskip rfl (bool_of rfl hc11) rfl ?_
      refine WL.val (Value.bool true) _ (op_pick_t (evb_of rfl hc11) rfl) rfl ?_
      refine WL.nil ?_
      obtain rfl := Option.some.inj hj13
      exact ⟨rfl, rfl, rfl, rfl, rfl, hS8⟩
    · replace hj13 := inegb hj13 hc11
      refine WL.grun rfl (bool_of rfl hc11) ?_
      refine WL.val v_x _ (op_move rfl) rfl ?_
      refine WL.grun rfl (bool_of rfl hc11) ?_
      obtain ⟨x17, hx18, hj13⟩ := bs hj13
      refine WL.call _ (op_call fn_68 (args1 rfl)) (c_spec_l01Numbers (Ty.lift _ (Ext.trans hE7 hS8.ext) r_x) hx18) rfl ?_
      rintro _ wd19 ⟨rfl, he20⟩
      have hS22 := St.extend hS8 he20
      replace hS22 : St wd2 wd19 [] := hS22
      refine WL.grun rfl (bool_of rfl hc11) ?_
      refine WL.val (Value.bool (!x17)) _ (op_not rfl) rfl ?_
      refine WL.val (Value.bool (!x17)) _ (op_pick_f (evb_of rfl hc11) rfl) rfl ?_
      refine WL.nil ?_
      obtain rfl := Option.some.inj hj13
      exact ⟨rfl, rfl, rfl, rfl, rfl, hS22⟩
  · intro f14 wd15 hq16
    obtain ⟨hf23, hf24, hf25, hf26, hS27⟩ := hq16
    refine WL.val (Value.bool x12) _ (op_move hf26) rfl ?_
    obtain ⟨x29, hj30, h⟩ := bs h
    refine WL.cut 5 (fun fq wq => fq 1 = v_x ∧ fq 2 = (Value.pointer (some ⟨b1, 0, none⟩)) ∧ fq 5 = (Value.int .i64 ((r_Table).length : Int)) ∧ fq 25 = Value.bool x29 ∧ St wd2 wq []) ?_ ?_
    · rcases Bool.eq_false_or_eq_true x12 with hc28 | hc28
      · replace hj30 := ip hj30 hc28
        refine WL.gskip rfl (bool_of rfl hc28) rfl ?_
        refine WL.gskip rfl (bool_of rfl hc28) rfl ?_
        refine WL.gskip rfl (bool_of rfl hc28) rfl ?_
        refine WL.gskip rfl (bool_of rfl hc28) rfl ?_
        refine WL.val (Value.bool true) _ (op_pick_t (evb_of rfl hc28) rfl) rfl ?_
        refine WL.nil ?_
        obtain rfl := Option.some.inj hj30
        exact ⟨rfl, hf23, hf24, hf25, rfl, hS27⟩
      · replace hj30 := inegb hj30 hc28
        refine WL.grun rfl (bool_of rfl hc28) ?_
        refine WL.val v_x _ (op_move hf23) rfl ?_
        refine WL.grun rfl (bool_of rfl hc28) ?_
        obtain ⟨x34, hx37, hj30⟩ := bs hj30
        obtain ⟨ha35, hb36, hx37⟩ := idx_some hx37
        refine WL.val (Value.pointer (some (elA v_x ((0 : Int)).toNat))) _ (op_idx sl_25 (Ty.lift _ (Ext.trans hE7 hS27.ext) r_x) rfl rfl ha35 hb36) rfl ?_
        refine WL.grun rfl (bool_of rfl hc28) ?_
        obtain ⟨u38, hc39, hr40⟩ := repSl.el r_x hx37
        obtain ⟨rfl, hr40⟩ := hr40
        refine WL.val (Value.int .i64 x34) _ (op_load one_2 rfl (Ext.cell (Ext.trans hE7 hS27.ext) hc39)) rfl ?_
        refine WL.grun rfl (bool_of rfl hc28) ?_
        refine WL.val (Value.bool (x34 != (1 : Int))) _ (op_neq rfl rfl) rfl ?_
        refine WL.val (Value.bool (x34 != (1 : Int))) _ (op_pick_f (evb_of rfl hc28) rfl) rfl ?_
        refine WL.nil ?_
        obtain rfl := Option.some.inj hj30
        exact ⟨rfl, hf23, hf24, hf25, rfl, hS27⟩
    · intro f31 wd32 hq33
      obtain ⟨hf41, hf42, hf43, hf44, hS45⟩ := hq33
      refine WL.nil ?_
      show W _ _ _ _ _ _
      refine W.cond x29 hf44 (fun hc46 => ?_) (fun hc46 => ?_)
      · replace h := ip h hc46
        refine W.seq ?_
        refine W.region ?_
        refine WL.val (Value.bool false) _ (op_assign rfl) rfl ?_
        refine WL.nil ?_
        show W _ _ _ _ _ _
        refine W.ret ?_
        obtain rfl := Option.some.inj h
        show FinP _ _ _ _ _ _ _
        exact FinP.ret _ (res1 rfl rfl) ⟨rfl, (Ext.trans hE7 hS45.ext)⟩
      · replace h := inegb h hc46
        refine W.skip ?_
        show W _ _ _ _ _ _
        refine W.seq ?_
        refine W.seq ?_
        refine W.region ?_
        refine WL.val (Value.int .i64 (0 : Int)) _ (op_assign rfl) rfl ?_
        refine WL.nil ?_
        show W _ _ _ _ _ _
        obtain ⟨res48, hres49, h⟩ := bs h
        refine W.blockLoop (fun fq wq => ∃ s, res48 = Res.fin s ∧ St wd2 wq []) ?_ ?_
        · refine W.forN (fun k (s : Unit) fq wq => fq 1 = v_x ∧ fq 2 = (Value.pointer (some ⟨b1, 0, none⟩)) ∧ fq 5 = (Value.int .i64 ((r_Table).length : Int)) ∧ fq 6 = Value.int .i64 (k : Int) ∧ InR .i64 (k : Int) ∧ St wd2 wq []) hres49 ⟨hf41, hf42, hf43, rfl, (inR_i64.2 (show (-9223372036854775808 : Int) ≤ 0 ∧ (0 : Int) ≤ 9223372036854775807 from by decide)), hS45⟩ ?_ ?_
          · intro k50 s315 ct51 f52 wd53 hk54 hb55 hI56 hbrk57 hret58
            obtain ⟨⟩ := s315
            replace hI56 : f52 1 = v_x ∧ f52 2 = (Value.pointer (some ⟨b1, 0, none⟩)) ∧ f52 5 = (Value.int .i64 ((r_Table).length : Int)) ∧ f52 6 = Value.int .i64 (k50 : Int) ∧ InR .i64 (k50 : Int) ∧ St wd2 wd53 [] := hI56
            replace hb55 : p_spec_l08Is_L1 x r_Table k50  = some ct51 := hb55
            unfold p_spec_l08Is_L1 at hb55
            obtain ⟨hf59, hf60, hf61, hf62, hr63, hS64⟩ := hI56
            refine W.seq ?_
            refine W.seq ?_
            refine W.region ?_
            refine WL.val (Value.int .i64 (k50 : Int)) _ (op_move hf62) rfl ?_
            refine WL.val (Value.int .i64 ((r_Table).length : Int)) _ (op_move hf61) rfl ?_
            refine WL.val (Value.bool (decide ((k50 : Int) < ((r_Table).length : Int)))) _ (op_lss rfl rfl) rfl ?_
            have hl65 : (k50 : Int) < ((r_Table).length : Int) := by omega
            refine WL.nil ?_
            show W _ _ _ _ _ _
            refine W.condT (decide ((k50 : Int) < ((r_Table).length : Int))) rfl (decide_eq_true hl65) ?_
            refine W.skip ?_
            show W _ _ _ _ _ _
            refine W.seq ?_
            refine W.block ?_
            refine W.seq ?_
            refine W.region ?_
            refine WL.val (Value.int .i64 (0 : Int)) _ (op_assign rfl) rfl ?_
            refine WL.nil ?_
            show W _ _ _ _ _ _
            obtain ⟨res67, hres68, hb55⟩ := bs hb55
            refine W.blockLoop (fun fq wq => ∃ s, res67 = Res.fin s ∧ fq 1 = v_x ∧ fq 2 = (Value.pointer (some ⟨b1, 0, none⟩)) ∧ fq 5 = (Value.int .i64 ((r_Table).length : Int)) ∧ fq 6 = (Value.int .i64 (k50 : Int)) ∧ St wd2 wq []) ?_ ?_
            · refine W.forN (fun k (s : Unit) fq wq => fq 1 = v_x ∧ fq 2 = (Value.pointer (some ⟨b1, 0, none⟩)) ∧ fq 5 = (Value.int .i64 ((r_Table).length : Int)) ∧ fq 6 = (Value.int .i64 (k50 : Int)) ∧ fq 7 = Value.int .i64 (k : Int) ∧ InR .i64 (k : Int) ∧ St wd2 wq []) hres68 ⟨hf59, hf60, hf61, hf62, rfl, (inR_i64.2 (show (-9223372036854775808 : Int) ≤ 0 ∧ (0 : Int) ≤ 9223372036854775807 from by decide)), hS64⟩ ?_ ?_
              · intro k69 s291 ct70 f71 wd72 hk73 hb74 hI75 hbrk76 hret77
                obtain ⟨⟩ := s291
                replace hI75 : f71 1 = v_x ∧ f71 2 = (Value.pointer (some ⟨b1, 0, none⟩)) ∧ f71 5 = (Value.int .i64 ((r_Table).length : Int)) ∧ f71 6 = (Value.int .i64 (k50 : Int)) ∧ f71 7 = Value.int .i64 (k69 : Int) ∧ InR .i64 (k69 : Int) ∧ St wd2 wd72 [] := hI75
                replace hb74 : p_spec_l08Is_L2 x k50 r_Table k69  = some ct70 := hb74
                unfold p_spec_l08Is_L2 at hb74
                obtain ⟨hf78, hf79, hf80, hf81, hf82, hr83, hS84⟩ := hI75
                refine W.seq ?_
                refine W.seq ?_
                refine W.region ?_
                refine WL.val (Value.int .i64 (k69 : Int)) _ (op_move hf82) rfl ?_
                refine WL.val (Value.int .i64 ((r_Table).length : Int)) _ (op_move hf80) rfl ?_
                refine WL.val (Value.bool (decide ((k69 : Int) < ((r_Table).length : Int)))) _ (op_lss rfl rfl) rfl ?_
                have hl85 : (k69 : Int) < ((r_Table).length : Int) := by omega
                refine WL.nil ?_
                show W _ _ _ _ _ _
                refine W.condT (decide ((k69 : Int) < ((r_Table).length : Int))) rfl (decide_eq_true hl85) ?_
                refine W.skip ?_
                show W _ _ _ _ _ _
                refine W.seq ?_
                refine W.block ?_
                refine W.seq ?_
                obtain ⟨x110, hx113, hb74⟩ := bs hb74
                obtain ⟨ha111, hb112, hx113⟩ := idx_some hx113
                obtain ⟨u121, hc122, hr123⟩ := repSl.el r_x hx113
                obtain ⟨rfl, hr123⟩ := hr123
                obtain ⟨x147, hx150, hb74⟩ := bs hb74
                obtain ⟨ha148, hb149, hx150⟩ := idx_some hx150
                obtain ⟨u158, hc159, hr160⟩ := repSl.el r_x hx150
                obtain ⟨rfl, hr160⟩ := hr160
                obtain ⟨x209, hx212, hb74⟩ := bs hb74
                obtain ⟨ha210, hb211, hx212⟩ := idx_some hx212
                obtain ⟨u220, hc221, hr222⟩ := repSl.el r_r_Table hx212
                obtain ⟨x239, hx242, hb74⟩ := bs hb74
                obtain ⟨ha240, hb241, hx242⟩ := idx_some hx242
                obtain ⟨u250, hc251, hr252⟩ := repSl.el hr222 hx242
                obtain ⟨x268, hx269, hb74⟩ := bs hb74
                refine W.draw mixo 20 [fun v _ => v = v_x, fun v _ => v = (Value.int .i64 (k50 : Int)) ∧ InR .i64 (k50 : Int), fun v _ => v = (Value.pointer (some (elA v_x ((k50 : Int)).toNat))), fun v _ => v = (Value.int .i64 x110) ∧ InR .i64 x110, fun v _ => v = v_x, fun v _ => v = (Value.int .i64 (k69 : Int)) ∧ InR .i64 (k69 : Int), fun v _ => v = (Value.pointer (some (elA v_x ((k69 : Int)).toNat))), fun v _ => v = (Value.int .i64 x147) ∧ InR .i64 x147, fun v _ => v = (Value.int .i64 (w64 (x110 * x147))) ∧ InR .i64 (w64 (x110 * x147)), fun v _ => v = (Value.int .i64 (((w64 (x110 * x147))).tmod (55441 : Int))) ∧ InR .i64 (((w64 (x110 * x147))).tmod (55441 : Int)), fun v _ => v = (Value.pointer (some ⟨b1, 0, none⟩)), fun v _ => v = v_r_Table, fun v _ => v = (Value.int .i64 (k50 : Int)) ∧ InR .i64 (k50 : Int), fun v _ => v = (Value.pointer (some (elA v_r_Table ((k50 : Int)).toNat))), fun v _ => v = u220, fun v _ => v = (Value.int .i64 (k69 : Int)) ∧ InR .i64 (k69 : Int), fun v _ => v = (Value.pointer (some (elA u220 ((k69 : Int)).toNat))), fun v _ => v = u250, fun v _ => v = v_x, fun v _ => v = (Value.int .i64 x268) ∧ InR .i64 x268] (by kernel_rfl) (by kernel_rfl) (stabL ⟨(fun _ _ _ _ h => h), (fun _ _ _ _ h => h), (fun _ _ _ _ h => h), (fun _ _ _ _ h => h), (fun _ _ _ _ h => h), (fun _ _ _ _ h => h), (fun _ _ _ _ h => h), (fun _ _ _ _ h => h), (fun _ _ _ _ h => h), (fun _ _ _ _ h => h), (fun _ _ _ _ h => h), (fun _ _ _ _ h => h), (fun _ _ _ _ h => h), (fun _ _ _ _ h => h), (fun _ _ _ _ h => h), (fun _ _ _ _ h => h), (fun _ _ _ _ h => h), (fun _ _ _ _ h => h), (fun _ _ _ _ h => h), (fun _ _ _ _ h => h), trivial⟩) ⟨?_, ?_, ?_, ?_, ?_, ?_, ?_, ?_, ?_, ?_, ?_, ?_, ?_, ?_, ?_, ?_, ?_, ?_, ?_, ?_, trivial⟩ ?_
                · intro f87 wd88 he89 hout90 hphi91
                  have hS92 : St wd2 wd88 [] := St.extend hS84 he89
                  have e93 : f87 1 = v_x := (hout90 1 rfl).trans hf78
                  exact OpY.val v_x wd88 rfl (op_move e93) (Ext.refl _) rfl
                · intro f94 wd95 he96 hout97 hphi98
                  have hS99 : St wd2 wd95 [] := St.extend hS84 he96
                  have e100 : f94 6 = (Value.int .i64 (k50 : Int)) := (hout97 6 rfl).trans hf81
                  exact OpY.val (Value.int .i64 (k50 : Int)) wd95 rfl (op_move e100) (Ext.refl _) ⟨rfl, hr63⟩
                · intro f101 wd102 he103 hout104 hphi105
                  have hS106 : St wd2 wd102 [] := St.extend hS84 he103
                  have e107 : f101 36 = v_x := hphi105 0 36 _ rfl rfl rfl
                  obtain ⟨e108, hr109⟩ : f101 37 = (Value.int .i64 (k50 : Int)) ∧ InR .i64 (k50 : Int) := hphi105 1 37 _ rfl rfl rfl
                  exact OpY.val (Value.pointer (some (elA v_x ((k50 : Int)).toNat))) wd102 rfl (op_idx sl_25 (Ty.lift _ (Ext.trans hE7 hS106.ext) r_x) e107 e108 ha111 hb112) (Ext.refl _) rfl
                · intro f114 wd115 he116 hout117 hphi118
                  have hS119 : St wd2 wd115 [] := St.extend hS84 he116
                  have e120 : f114 38 = (Value.pointer (some (elA v_x ((k50 : Int)).toNat))) := hphi118 2 38 _ rfl rfl rfl
                  exact OpY.val (Value.int .i64 x110) wd115 rfl (op_load one_2 e120 (Ext.cell (Ext.trans hE7 hS119.ext) hc122)) (Ext.refl _) ⟨rfl, hr123⟩
                · intro f124 wd125 he126 hout127 hphi128
                  have hS129 : St wd2 wd125 [] := St.extend hS84 he126
                  have e130 : f124 1 = v_x := (hout127 1 rfl).trans hf78
                  exact OpY.val v_x wd125 rfl (op_move e130) (Ext.refl _) rfl
                · intro f131 wd132 he133 hout134 hphi135
                  have hS136 : St wd2 wd132 [] := St.extend hS84 he133
                  have e137 : f131 7 = (Value.int .i64 (k69 : Int)) := (hout134 7 rfl).trans hf82
                  exact OpY.val (Value.int .i64 (k69 : Int)) wd132 rfl (op_move e137) (Ext.refl _) ⟨rfl, hr83⟩
                · intro f138 wd139 he140 hout141 hphi142
                  have hS143 : St wd2 wd139 [] := St.extend hS84 he140
                  have e144 : f138 40 = v_x := hphi142 4 40 _ rfl rfl rfl
                  obtain ⟨e145, hr146⟩ : f138 41 = (Value.int .i64 (k69 : Int)) ∧ InR .i64 (k69 : Int) := hphi142 5 41 _ rfl rfl rfl
                  exact OpY.val (Value.pointer (some (elA v_x ((k69 : Int)).toNat))) wd139 rfl (op_idx sl_25 (Ty.lift _ (Ext.trans hE7 hS143.ext) r_x) e144 e145 ha148 hb149) (Ext.refl _) rfl
                · intro f151 wd152 he153 hout154 hphi155
                  have hS156 : St wd2 wd152 [] := St.extend hS84 he153
                  have e157 : f151 42 = (Value.pointer (some (elA v_x ((k69 : Int)).toNat))) := hphi155 6 42 _ rfl rfl rfl
                  exact OpY.val (Value.int .i64 x147) wd152 rfl (op_load one_2 e157 (Ext.cell (Ext.trans hE7 hS156.ext) hc159)) (Ext.refl _) ⟨rfl, hr160⟩
                · intro f161 wd162 he163 hout164 hphi165
                  have hS166 : St wd2 wd162 [] := St.extend hS84 he163
                  obtain ⟨e167, hr168⟩ : f161 39 = (Value.int .i64 x110) ∧ InR .i64 x110 := hphi165 3 39 _ rfl rfl rfl
                  obtain ⟨e169, hr170⟩ : f161 43 = (Value.int .i64 x147) ∧ InR .i64 x147 := hphi165 7 43 _ rfl rfl rfl
                  exact OpY.val (Value.int .i64 (w64 (x110 * x147))) wd162 rfl (op_mul e167 e169) (Ext.refl _) ⟨rfl, (inR_wrap _ _)⟩
                · intro f171 wd172 he173 hout174 hphi175
                  have hS176 : St wd2 wd172 [] := St.extend hS84 he173
                  obtain ⟨e177, hr178⟩ : f171 44 = (Value.int .i64 (w64 (x110 * x147))) ∧ InR .i64 (w64 (x110 * x147)) := hphi175 8 44 _ rfl rfl rfl
                  exact OpY.val (Value.int .i64 (((w64 (x110 * x147))).tmod (55441 : Int))) wd172 rfl (op_rem (b := 55441) e177 rfl (by decide)) (Ext.refl _) ⟨rfl, (inR_tmod hr178)⟩
                · intro f179 wd180 he181 hout182 hphi183
                  have hS184 : St wd2 wd180 [] := St.extend hS84 he181
                  have e185 : f179 2 = (Value.pointer (some ⟨b1, 0, none⟩)) := (hout182 2 rfl).trans hf79
                  exact OpY.val (Value.pointer (some ⟨b1, 0, none⟩)) wd180 rfl (op_fieldAddr fd_29_0 e185) (Ext.refl _) rfl
                · intro f186 wd187 he188 hout189 hphi190
                  have hS191 : St wd2 wd187 [] := St.extend hS84 he188
                  have e192 : f186 46 = (Value.pointer (some ⟨b1, 0, none⟩)) := hphi190 10 46 _ rfl rfl rfl
                  exact OpY.val v_r_Table wd187 rfl (op_load one_22 e192 (BoxAt.cell (BoxAt.lift hS191.ext hx6) rfl)) (Ext.refl _) rfl
                · intro f193 wd194 he195 hout196 hphi197
                  have hS198 : St wd2 wd194 [] := St.extend hS84 he195
                  have e199 : f193 6 = (Value.int .i64 (k50 : Int)) := (hout196 6 rfl).trans hf81
                  exact OpY.val (Value.int .i64 (k50 : Int)) wd194 rfl (op_move e199) (Ext.refl _) ⟨rfl, hr63⟩
                · intro f200 wd201 he202 hout203 hphi204
                  have hS205 : St wd2 wd201 [] := St.extend hS84 he202
                  have e206 : f200 47 = v_r_Table := hphi204 11 47 _ rfl rfl rfl
                  obtain ⟨e207, hr208⟩ : f200 48 = (Value.int .i64 (k50 : Int)) ∧ InR .i64 (k50 : Int) := hphi204 12 48 _ rfl rfl rfl
                  exact OpY.val (Value.pointer (some (elA v_r_Table ((k50 : Int)).toNat))) wd201 rfl (op_idx sl_22 (Ty.lift _ (Ext.trans hE7 hS205.ext) r_r_Table) e206 e207 ha210 hb211) (Ext.refl _) rfl
                · intro f213 wd214 he215 hout216 hphi217
                  have hS218 : St wd2 wd214 [] := St.extend hS84 he215
                  have e219 : f213 49 = (Value.pointer (some (elA v_r_Table ((k50 : Int)).toNat))) := hphi217 13 49 _ rfl rfl rfl
                  exact OpY.val u220 wd214 rfl (op_load one_65 e219 (Ext.cell (Ext.trans hE7 hS218.ext) hc221)) (Ext.refl _) rfl
                · intro f223 wd224 he225 hout226 hphi227
                  have hS228 : St wd2 wd224 [] := St.extend hS84 he225
                  have e229 : f223 7 = (Value.int .i64 (k69 : Int)) := (hout226 7 rfl).trans hf82
                  exact OpY.val (Value.int .i64 (k69 : Int)) wd224 rfl (op_move e229) (Ext.refl _) ⟨rfl, hr83⟩
                · intro f230 wd231 he232 hout233 hphi234
                  have hS235 : St wd2 wd231 [] := St.extend hS84 he232
                  have e236 : f230 50 = u220 := hphi234 14 50 _ rfl rfl rfl
                  obtain ⟨e237, hr238⟩ : f230 51 = (Value.int .i64 (k69 : Int)) ∧ InR .i64 (k69 : Int) := hphi234 15 51 _ rfl rfl rfl
                  exact OpY.val (Value.pointer (some (elA u220 ((k69 : Int)).toNat))) wd231 rfl (op_idx sl_65 (Ty.lift _ (Ext.trans hE7 hS235.ext) hr222) e236 e237 ha240 hb241) (Ext.refl _) rfl
                · intro f243 wd244 he245 hout246 hphi247
                  have hS248 : St wd2 wd244 [] := St.extend hS84 he245
                  have e249 : f243 52 = (Value.pointer (some (elA u220 ((k69 : Int)).toNat))) := hphi247 16 52 _ rfl rfl rfl
                  exact OpY.val u250 wd244 rfl (op_load one_25 e249 (Ext.cell (Ext.trans hE7 hS248.ext) hc251)) (Ext.refl _) rfl
                · intro f253 wd254 he255 hout256 hphi257
                  have hS258 : St wd2 wd254 [] := St.extend hS84 he255
                  have e259 : f253 1 = v_x := (hout256 1 rfl).trans hf78
                  exact OpY.val v_x wd254 rfl (op_move e259) (Ext.refl _) rfl
                · intro f260 wd261 he262 hout263 hphi264
                  have hS265 : St wd2 wd261 [] := St.extend hS84 he262
                  have e266 : f260 53 = u250 := hphi264 17 53 _ rfl rfl rfl
                  have e267 : f260 54 = v_x := hphi264 18 54 _ rfl rfl rfl
                  refine OpY.call rfl (op_call fn_69 (args2 e266 e267)) (Ret.mono (c_spec_l01Dot (Ty.lift _ (Ext.trans hE7 hS265.ext) hr252) (Ty.lift _ (Ext.trans hE7 hS265.ext) r_x) hx269) ?_)
                  rintro _ wd271 ⟨rfl, hr270, he272⟩
                  exact ⟨he272, ⟨rfl, hr270⟩⟩
                · intro f274 wd275 he276 hout277 hphi278
                  show WL _ _ _ _ _ _ _
                  have hS279 : St wd2 wd275 [] := St.extend hS84 he276
                  obtain ⟨e280, hr281⟩ : f274 45 = (Value.int .i64 (((w64 (x110 * x147))).tmod (55441 : Int))) ∧ InR .i64 (((w64 (x110 * x147))).tmod (55441 : Int)) := hphi278 9 45 _ (by decide) rfl rfl
                  obtain ⟨e282, hr283⟩ : f274 55 = (Value.int .i64 x268) ∧ InR .i64 x268 := hphi278 19 55 _ (by decide) rfl rfl
                  have e284 : f274 1 = v_x := (hout277 1 rfl).trans hf78
                  have e285 : f274 2 = (Value.pointer (some ⟨b1, 0, none⟩)) := (hout277 2 rfl).trans hf79
                  have e286 : f274 5 = (Value.int .i64 ((r_Table).length : Int)) := (hout277 5 rfl).trans hf80
                  have e287 : f274 6 = (Value.int .i64 (k50 : Int)) := (hout277 6 rfl).trans hf81
                  have e288 : f274 7 = (Value.int .i64 (k69 : Int)) := (hout277 7 rfl).trans hf82
                  refine WL.val (Value.bool ((((w64 (x110 * x147))).tmod (55441 : Int)) != x268)) _ (op_neq e280 e282) rfl ?_
                  refine WL.nil ?_
                  show W _ _ _ _ _ _
                  refine W.cond ((((w64 (x110 * x147))).tmod (55441 : Int)) != x268) rfl (fun hc289 => ?_) (fun hc289 => ?_)
                  · replace hb74 := ip hb74 hc289
                    refine W.seq ?_
                    refine W.region ?_
                    refine WL.val (Value.bool false) _ (op_assign rfl) rfl ?_
                    refine WL.nil ?_
                    show W _ _ _ _ _ _
                    refine W.ret ?_
                    obtain rfl := Option.some.inj hb74
                    obtain rfl := hret77 _ rfl
                    replace hb55 := onRes_ret hb55
                    obtain rfl := Option.some.inj hb55
                    obtain rfl := hret58 _ rfl
                    replace h := onRes_ret h
                    obtain rfl := Option.some.inj h
                    show FinP _ _ _ _ _ _ _
                    exact FinP.ret _ (res1 rfl rfl) ⟨rfl, (Ext.trans hE7 hS279.ext)⟩
                  · replace hb74 := inegb hb74 hc289
                    refine W.skip ?_
                    show W _ _ _ _ _ _
                    refine W.region ?_
                    refine WL.val (Value.int .i64 (k69 : Int)) _ (op_move e288) rfl ?_
                    refine WL.val (Value.int .i64 (w64 ((k69 : Int) + (1 : Int)))) _ (op_add rfl rfl) rfl ?_
                    refine WL.val (Value.int .i64 (w64 ((k69 : Int) + (1 : Int)))) _ (op_assign rfl) rfl ?_
                    refine WL.nil ?_
                    obtain rfl := Option.some.inj hb74
                    show ∃ s, _ = Ctl.next s ∧ _
                    exact ⟨_, rfl, e284, e285, e286, e287, (ctr_next hl85 hr9), (ctr_rng hl85 hr9), hS279⟩
              · intro s296 f292 wd293 hs294 hI295
                obtain ⟨⟩ := s296
                replace hI295 : f292 1 = v_x ∧ f292 2 = (Value.pointer (some ⟨b1, 0, none⟩)) ∧ f292 5 = (Value.int .i64 ((r_Table).length : Int)) ∧ f292 6 = (Value.int .i64 (k50 : Int)) ∧ f292 7 = Value.int .i64 (((r_Table).length : Nat) : Int) ∧ InR .i64 (((r_Table).length : Nat) : Int) ∧ St wd2 wd293 [] := hI295
                obtain ⟨hf297, hf298, hf299, hf300, hf301, hr302, hS303⟩ := hI295
                refine W.seq ?_
                refine W.seq ?_
                refine W.region ?_
                refine WL.val (Value.int .i64 (((r_Table).length : Nat) : Int)) _ (op_move hf301) rfl ?_
                refine WL.val (Value.int .i64 ((r_Table).length : Int)) _ (op_move hf299) rfl ?_
                refine WL.val (Value.bool (decide ((((r_Table).length : Nat) : Int) < ((r_Table).length : Int)))) _ (op_lss rfl rfl) rfl ?_
                have hl304 : ¬ (((r_Table).length : Nat) : Int) < ((r_Table).length : Int) := by omega
                refine WL.nil ?_
                show W _ _ _ _ _ _
                refine W.condF (decide ((((r_Table).length : Nat) : Int) < ((r_Table).length : Int))) rfl (decide_eq_false hl304) ?_
                refine W.exit ?_
                show _ = _ ∧ _
                exact ⟨rfl, _, hs294, hf297, hf298, hf299, hf300, hS303⟩
            · rintro f305 wd306 ⟨s308, rfl, hq307⟩
              replace hb55 := onRes_fin hb55
              obtain ⟨⟩ := s308
              replace hq307 : f305 1 = v_x ∧ f305 2 = (Value.pointer (some ⟨b1, 0, none⟩)) ∧ f305 5 = (Value.int .i64 ((r_Table).length : Int)) ∧ f305 6 = (Value.int .i64 (k50 : Int)) ∧ St wd2 wd306 [] := hq307
              obtain ⟨hf309, hf310, hf311, hf312, hS313⟩ := hq307
              show W _ _ _ _ _ _
              refine W.region ?_
              refine WL.val (Value.int .i64 (k50 : Int)) _ (op_move hf312) rfl ?_
              refine WL.val (Value.int .i64 (w64 ((k50 : Int) + (1 : Int)))) _ (op_add rfl rfl) rfl ?_
              refine WL.val (Value.int .i64 (w64 ((k50 : Int) + (1 : Int)))) _ (op_assign rfl) rfl ?_
              refine WL.nil ?_
              obtain rfl := Option.some.inj hb55
              show ∃ s, _ = Ctl.next s ∧ _
              exact ⟨_, rfl, hf309, hf310, hf311, (ctr_next hl65 hr9), (ctr_rng hl65 hr9), hS313⟩
          · intro s320 f316 wd317 hs318 hI319
            obtain ⟨⟩ := s320
            replace hI319 : f316 1 = v_x ∧ f316 2 = (Value.pointer (some ⟨b1, 0, none⟩)) ∧ f316 5 = (Value.int .i64 ((r_Table).length : Int)) ∧ f316 6 = Value.int .i64 (((r_Table).length : Nat) : Int) ∧ InR .i64 (((r_Table).length : Nat) : Int) ∧ St wd2 wd317 [] := hI319
            obtain ⟨hf321, hf322, hf323, hf324, hr325, hS326⟩ := hI319
            refine W.seq ?_
            refine W.seq ?_
            refine W.region ?_
            refine WL.val (Value.int .i64 (((r_Table).length : Nat) : Int)) _ (op_move hf324) rfl ?_
            refine WL.val (Value.int .i64 ((r_Table).length : Int)) _ (op_move hf323) rfl ?_
            refine WL.val (Value.bool (decide ((((r_Table).length : Nat) : Int) < ((r_Table).length : Int)))) _ (op_lss rfl rfl) rfl ?_
            have hl327 : ¬ (((r_Table).length : Nat) : Int) < ((r_Table).length : Int) := by omega
            refine WL.nil ?_
            show W _ _ _ _ _ _
            refine W.condF (decide ((((r_Table).length : Nat) : Int) < ((r_Table).length : Int))) rfl (decide_eq_false hl327) ?_
            refine W.exit ?_
            show _ = _ ∧ _
            exact ⟨rfl, _, hs318, hS326⟩
        · rintro f328 wd329 ⟨s331, rfl, hq330⟩
          replace h := onRes_fin h
          obtain ⟨⟩ := s331
          replace hq330 : St wd2 wd329 [] := hq330
          have hS332 := hq330
          show W _ _ _ _ _ _
          refine W.seq ?_
          refine W.region ?_
          refine WL.val (Value.bool true) _ (op_assign rfl) rfl ?_
          refine WL.nil ?_
          show W _ _ _ _ _ _
          refine W.ret ?_
          obtain rfl := Option.some.inj h
          show FinP _ _ _ _ _ _ _
          exact FinP.ret _ (res1 rfl rfl) ⟨rfl, (Ext.trans hE7 hS332.ext)⟩

theorem c_spec_l08List {w : World} {r_Table : (List (List (List Int)))} {v_r_Table : Value} {good : Bool} {list : (List (List Int))} {v_list : Value} (r_r_Table : (Ty.sl (Ty.sl (Ty.sl (Ty.i .i64)))).rep w v_r_Table r_Table) (r_list : (Ty.sl (Ty.sl (Ty.i .i64))).rep w v_list list) {res : Int} (h : p_spec_l08List r_Table good list  = some res) :
    Ret Try.prog 35 #[(Value.agg #[v_r_Table]), (Value.bool good), v_list] w (fun v w' => v = Value.int .i64 res ∧ InR .i64 res ∧ Ext w w') := by
  unfold p_spec_l08List at h
  have hS0 : St w w [] := St.start w
  refine Ret.start (fn := Try.f35) Try.func35 rfl 51 rfl rfl ?_
  refine W.seq ?_
  refine W.region ?_
  refine WL.box hS0 rfl (cs := [v_r_Table]) rfl rfl ?_
  intro b1 wd2 hS3 he4 hx5
  replace hS3 : St w wd2 [bx b1 [v_r_Table]] := hS3
  have hx6 := St.boxAt hS3 0 rfl
  have hE7 : Ext w wd2 := hS3.ext
  have hS8 : St wd2 wd2 [] := St.start wd2
  refine WL.val (Value.int .i64 (0 : Int)) _ (op_assign rfl) rfl ?_
  refine WL.nil ?_
  show W _ _ _ _ _ _
  refine W.seq ?_
  refine W.region ?_
  refine WL.val (Value.agg #[v_r_Table]) _ (op_loadBox st_29 rfl (BoxAt.lift hS8.ext hx6) rfl rfl) rfl ?_
  obtain ⟨x9, hx10, h⟩ := bs h
  refine WL.call _ (op_call fn_64 (args1 rfl)) (c_spec_l08Code (Ty.lift _ (Ext.trans hE7 hS8.ext) r_r_Table) hx10) rfl ?_
  rintro _ wd12 ⟨rfl, hr11, he13⟩
  have hS15 := St.extend hS8 he13
  replace hS15 : St wd2 wd12 [] := hS15
  refine WL.val (Value.int .i64 x9) _ (op_assign rfl) rfl ?_
  refine WL.nil ?_
  show W _ _ _ _ _ _
  refine W.seq ?_
  refine W.seq ?_
  refine W.region ?_
  refine WL.val (Value.int .i64 (0 : Int)) _ (op_assign rfl) rfl ?_
  refine WL.nil ?_
  show W _ _ _ _ _ _
  obtain ⟨res16, hres17, h⟩ := bs h
  refine W.blockLoop (fun fq wq => ∃ s, res16 = Res.fin s ∧ fq 7 = Value.int .i64 s.1 ∧ InR .i64 s.1 ∧ St wd2 wq []) ?_ ?_
  · refine W.whileC (fun (s : Int × Int) fq wq => fq 1 = (Value.bool good) ∧ fq 2 = v_list ∧ fq 3 = (Value.pointer (some ⟨b1, 0, none⟩)) ∧ fq 7 = Value.int .i64 s.1 ∧ InR .i64 s.1 ∧ fq 8 = Value.int .i64 s.2 ∧ InR .i64 s.2 ∧ St wd2 wq []) hres17 ⟨rfl, rfl, rfl, rfl, hr11, rfl, (inR_i64.2 (show (-9223372036854775808 : Int) ≤ 0 ∧ (0 : Int) ≤ 9223372036854775807 from by decide)), hS15⟩ ?_
    intro s726 ct21 f22 wd23 hb25 hI26 hbrk27 hret28
    obtain ⟨x19, x20⟩ := s726
    replace hI26 : f22 1 = (Value.bool good) ∧ f22 2 = v_list ∧ f22 3 = (Value.pointer (some ⟨b1, 0, none⟩)) ∧ f22 7 = Value.int .i64 x19 ∧ InR .i64 x19 ∧ f22 8 = Value.int .i64 x20 ∧ InR .i64 x20 ∧ St wd2 wd23 [] := hI26
    replace hb25 : p_spec_l08List_L1 list r_Table good  x19 x20 = some ct21 := hb25
    unfold p_spec_l08List_L1 at hb25
    obtain ⟨hf29, hf30, hf31, hf32, hr33, hf34, hr35, hS36⟩ := hI26
    refine W.seq ?_
    refine W.seq ?_
    refine W.region ?_
    refine WL.val (Value.int .i64 x20) _ (op_move hf34) rfl ?_
    refine WL.val v_list _ (op_move hf30) rfl ?_
    have hr37 := inR_len (Ty.lift _ (Ext.trans hE7 hS36.ext) r_list)
    refine WL.val (Value.int .i64 ((list).length : Int)) _ (op_lenL sl_65 (Ty.lift _ (Ext.trans hE7 hS36.ext) r_list) rfl) rfl ?_
    refine WL.val (Value.bool (decide (x20 < ((list).length : Int)))) _ (op_lss rfl rfl) rfl ?_
    refine WL.val (Value.bool (decide (x20 < ((list).length : Int)))) _ (op_move rfl) rfl ?_
    refine WL.cut 3 (fun fq wq => fq 1 = (Value.bool good) ∧ fq 2 = v_list ∧ fq 3 = (Value.pointer (some ⟨b1, 0, none⟩)) ∧ fq 7 = (Value.int .i64 x19) ∧ fq 8 = (Value.int .i64 x20) ∧ fq 18 = (Value.bool ((decide (x20 < ((list).length : Int))) && (x19 == (0 : Int)))) ∧ St wd2 wq []) ?_ ?_
    · rcases Bool.eq_false_or_eq_true (decide (x20 < ((list).length : Int))) with hc38 | hc38
      · refine WL.grun rfl (bool_of rfl hc38) ?_
        refine WL.val (Value.int .i64 x19) _ (op_move hf32) rfl ?_
        refine WL.grun rfl (bool_of rfl hc38) ?_
        refine WL.val (Value.bool (x19 == (0 : Int))) _ (op_eql rfl rfl) rfl ?_
        refine WL.val (Value.bool (x19 == (0 : Int))) _ (op_pick_t (evb_of rfl hc38) rfl) rfl ?_
        refine WL.nil ?_
        exact ⟨rfl, hf29, hf30, hf31, hf32, hf34, (andT hc38), hS36⟩
      · refine WL.gskip rfl (bool_of rfl hc38) rfl ?_
        refine WL.gskip rfl (bool_of rfl hc38) rfl ?_
        refine WL.val (Value.bool false) _ (op_pick_f (evb_of rfl hc38) rfl) rfl ?_
        refine WL.nil ?_
        exact ⟨rfl, hf29, hf30, hf31, hf32, hf34, (andF hc38), hS36⟩
    · intro f39 wd40 hq41
      obtain ⟨hf42, hf43, hf44, hf45, hf46, hf47, hS48⟩ := hq41
      refine WL.nil ?_
      show W _ _ _ _ _ _
      refine W.cond ((decide (x20 < ((list).length : Int))) && (x19 == (0 : Int))) hf47 (fun hc49 => ?_) (fun hc49 => ?_)
      · replace hb25 := ip hb25 hc49
        refine W.skip ?_
        show W _ _ _ _ _ _
        refine W.seq ?_
        refine W.block ?_
        refine W.seq ?_
        obtain ⟨x51, hj52, hb25⟩ := bs hb25
        refine W.cutCode (fun fq wq => fq 1 = (Value.bool good) ∧ fq 2 = v_list ∧ fq 3 = (Value.pointer (some ⟨b1, 0, none⟩)) ∧ fq 7 = (Value.int .i64 x19) ∧ fq 8 = (Value.int .i64 x20) ∧ fq 49 = Value.bool x51 ∧ St wd2 wq []) ?_ ?_
        · obtain ⟨x76, hx79, hj52⟩ := bs hj52
          obtain ⟨ha77, hb78, hx79⟩ := idx_some hx79
          obtain ⟨u87, hc88, hr89⟩ := repSl.el r_list hx79
          rcases Bool.eq_false_or_eq_true (((x76).length : Int) != ((r_Table).length : Int)) with hc137 | hc137
          · replace hj52 := ip hj52 hc137
            rcases Bool.eq_false_or_eq_true true with hc189 | hc189
            · replace hj52 := ip hj52 hc189
              refine W.draw mixo 25 [fun v _ => v = v_list, fun v _ => v = (Value.int .i64 x20) ∧ InR .i64 x20, fun v _ => v = (Value.pointer (some (elA v_list (x20).toNat))), fun v _ => v = u87, fun v _ => v = (Value.int .i64 ((x76).length : Int)) ∧ InR .i64 ((x76).length : Int), fun v _ => v = (Value.pointer (some ⟨b1, 0, none⟩)), fun v _ => v = v_r_Table, fun v _ => v = (Value.int .i64 ((r_Table).length : Int)) ∧ InR .i64 ((r_Table).length : Int), fun v _ => v = (Value.bool (((x76).length : Int) != ((r_Table).length : Int))), fun v _ => v = (Value.bool (((x76).length : Int) != ((r_Table).length : Int))), fun v _ => v = undef, fun v _ => v = undef, fun v _ => v = undef, fun v _ => v = undef, fun v _ => v = undef, fun v _ => v = undef, fun v _ => v = (Value.bool true), fun v _ => v = (Value.bool true), fun v _ => v = undef, fun v _ => v = undef, fun v _ => v = undef, fun v _ => v = undef, fun v _ => v = undef, fun v _ => v = undef, fun v _ => v = undef] (by kernel_rfl) (by kernel_rfl) (stabL ⟨(fun _ _ _ _ h => h), (fun _ _ _ _ h => h), (fun _ _ _ _ h => h), (fun _ _ _ _ h => h), (fun _ _ _ _ h => h), (fun _ _ _ _ h => h), (fun _ _ _ _ h => h), (fun _ _ _ _ h => h), (fun _ _ _ _ h => h), (fun _ _ _ _ h => h), (fun _ _ _ _ h => h), (fun _ _ _ _ h => h), (fun _ _ _ _ h => h), (fun _ _ _ _ h => h), (fun _ _ _ _ h => h), (fun _ _ _ _ h => h), (fun _ _ _ _ h => h), (fun _ _ _ _ h => h), (fun _ _ _ _ h => h), (fun _ _ _ _ h => h), (fun _ _ _ _ h => h), (fun _ _ _ _ h => h), (fun _ _ _ _ h => h), (fun _ _ _ _ h => h), (fun _ _ _ _ h => h), trivial⟩) ⟨?_, ?_, ?_, ?_, ?_, ?_, ?_, ?_, ?_, ?_, ?_, ?_, ?_, ?_, ?_, ?_, ?_, ?_, ?_, ?_, ?_, ?_, ?_, ?_, ?_, trivial⟩ ?_
              · intro f53 wd54 he55 hout56 hphi57
                have hS58 : St wd2 wd54 [] := St.extend hS48 he55
                have e59 : f53 2 = v_list := (hout56 2 rfl).trans hf43
                exact OpY.val v_list wd54 rfl (op_move e59) (Ext.refl _) rfl
              · intro f60 wd61 he62 hout63 hphi64
                have hS65 : St wd2 wd61 [] := St.extend hS48 he62
                have e66 : f60 8 = (Value.int .i64 x20) := (hout63 8 rfl).trans hf46
                exact OpY.val (Value.int .i64 x20) wd61 rfl (op_move e66) (Ext.refl _) ⟨rfl, hr35⟩
              · intro f67 wd68 he69 hout70 hphi71
                have hS72 : St wd2 wd68 [] := St.extend hS48 he69
                have e73 : f67 21 = v_list := hphi71 0 21 _ rfl rfl rfl
                obtain ⟨e74, hr75⟩ : f67 22 = (Value.int .i64 x20) ∧ InR .i64 x20 := hphi71 1 22 _ rfl rfl rfl
                exact OpY.val (Value.pointer (some (elA v_list (x20).toNat))) wd68 rfl (op_idx sl_65 (Ty.lift _ (Ext.trans hE7 hS72.ext) r_list) e73 e74 ha77 hb78) (Ext.refl _) rfl
              · intro f80 wd81 he82 hout83 hphi84
                have hS85 : St wd2 wd81 [] := St.extend hS48 he82
                have e86 : f80 23 = (Value.pointer (some (elA v_list (x20).toNat))) := hphi84 2 23 _ rfl rfl rfl
                exact OpY.val u87 wd81 rfl (op_load one_25 e86 (Ext.cell (Ext.trans hE7 hS85.ext) hc88)) (Ext.refl _) rfl
              · intro f90 wd91 he92 hout93 hphi94
                have hS95 : St wd2 wd91 [] := St.extend hS48 he92
                have e96 : f90 24 = u87 := hphi94 3 24 _ rfl rfl rfl
                have hr97 := inR_len (Ty.lift _ (Ext.trans hE7 hS95.ext) hr89)
                exact OpY.val (Value.int .i64 ((x76).length : Int)) wd91 rfl (op_lenL sl_25 (Ty.lift _ (Ext.trans hE7 hS95.ext) hr89) e96) (Ext.refl _) ⟨rfl, hr97⟩
              · intro f98 wd99 he100 hout101 hphi102
                have hS103 : St wd2 wd99 [] := St.extend hS48 he100
                have e104 : f98 3 = (Value.pointer (some ⟨b1, 0, none⟩)) := (hout101 3 rfl).trans hf44
                exact OpY.val (Value.pointer (some ⟨b1, 0, none⟩)) wd99 rfl (op_fieldAddr fd_29_0 e104) (Ext.refl _) rfl
              · intro f105 wd106 he107 hout108 hphi109
                have hS110 : St wd2 wd106 [] := St.extend hS48 he107
                have e111 : f105 26 = (Value.pointer (some ⟨b1, 0, none⟩)) := hphi109 5 26 _ rfl rfl rfl
                exact OpY.val v_r_Table wd106 rfl (op_load one_22 e111 (BoxAt.cell (BoxAt.lift hS110.ext hx6) rfl)) (Ext.refl _) rfl
              · intro f112 wd113 he114 hout115 hphi116
                have hS117 : St wd2 wd113 [] := St.extend hS48 he114
                have e118 : f112 27 = v_r_Table := hphi116 6 27 _ rfl rfl rfl
                have hr119 := inR_len (Ty.lift _ (Ext.trans hE7 hS117.ext) r_r_Table)
                exact OpY.val (Value.int .i64 ((r_Table).length : Int)) wd113 rfl (op_lenL sl_22 (Ty.lift _ (Ext.trans hE7 hS117.ext) r_r_Table) e118) (Ext.refl _) ⟨rfl, hr119⟩
              · intro f120 wd121 he122 hout123 hphi124
                have hS125 : St wd2 wd121 [] := St.extend hS48 he122
                obtain ⟨e126, hr127⟩ : f120 25 = (Value.int .i64 ((x76).length : Int)) ∧ InR .i64 ((x76).length : Int) := hphi124 4 25 _ rfl rfl rfl
                obtain ⟨e128, hr129⟩ : f120 28 = (Value.int .i64 ((r_Table).length : Int)) ∧ InR .i64 ((r_Table).length : Int) := hphi124 7 28 _ rfl rfl rfl
                exact OpY.val (Value.bool (((x76).length : Int) != ((r_Table).length : Int))) wd121 rfl (op_neq e126 e128) (Ext.refl _) rfl
              · intro f130 wd131 he132 hout133 hphi134
                have hS135 : St wd2 wd131 [] := St.extend hS48 he132
                have e136 : f130 29 = (Value.bool (((x76).length : Int) != ((r_Table).length : Int))) := hphi134 8 29 _ rfl rfl rfl
                exact OpY.val (Value.bool (((x76).length : Int) != ((r_Table).length : Int))) wd131 rfl (op_move e136) (Ext.refl _) rfl
              · intro f138 wd139 he140 hout141 hphi142
                have e143 : f138 30 = (Value.bool (((x76).length : Int) != ((r_Table).length : Int))) := hphi142 9 30 _ rfl rfl rfl
                exact OpY.skip (wanted_skip rfl rfl e143 hc137) rfl
              · intro f144 wd145 he146 hout147 hphi148
                have e149 : f144 30 = (Value.bool (((x76).length : Int) != ((r_Table).length : Int))) := hphi148 9 30 _ rfl rfl rfl
                exact OpY.skip (wanted_skip rfl rfl e149 hc137) rfl
              · intro f150 wd151 he152 hout153 hphi154
                have e155 : f150 30 = (Value.bool (((x76).length : Int) != ((r_Table).length : Int))) := hphi154 9 30 _ rfl rfl rfl
                exact OpY.skip (wanted_skip rfl rfl e155 hc137) rfl
              · intro f156 wd157 he158 hout159 hphi160
                have e161 : f156 30 = (Value.bool (((x76).length : Int) != ((r_Table).length : Int))) := hphi160 9 30 _ rfl rfl rfl
                exact OpY.skip (wanted_skip rfl rfl e161 hc137) rfl
              · intro f162 wd163 he164 hout165 hphi166
                have e167 : f162 30 = (Value.bool (((x76).length : Int) != ((r_Table).length : Int))) := hphi166 9 30 _ rfl rfl rfl
                exact OpY.skip (wanted_skip rfl rfl e167 hc137) rfl
              · intro f168 wd169 he170 hout171 hphi172
                have e173 : f168 30 = (Value.bool (((x76).length : Int) != ((r_Table).length : Int))) := hphi172 9 30 _ rfl rfl rfl
                exact OpY.skip (wanted_skip rfl rfl e173 hc137) rfl
              · intro f174 wd175 he176 hout177 hphi178
                have hS179 : St wd2 wd175 [] := St.extend hS48 he176
                have e180 : f174 30 = (Value.bool (((x76).length : Int) != ((r_Table).length : Int))) := hphi178 9 30 _ rfl rfl rfl
                have e181 : f174 36 = undef := hphi178 15 36 _ rfl rfl rfl
                exact OpY.val (Value.bool true) wd175 rfl (op_pick_t (evb_of e180 hc137) rfl) (Ext.refl _) rfl
              · intro f182 wd183 he184 hout185 hphi186
                have hS187 : St wd2 wd183 [] := St.extend hS48 he184
                have e188 : f182 37 = (Value.bool true) := hphi186 16 37 _ rfl rfl rfl
                exact OpY.val (Value.bool true) wd183 rfl (op_move e188) (Ext.refl _) rfl
              · intro f190 wd191 he192 hout193 hphi194
                have e195 : f190 38 = (Value.bool true) := hphi194 17 38 _ rfl rfl rfl
                exact OpY.skip (wanted_skip rfl rfl e195 hc189) rfl
              · intro f196 wd197 he198 hout199 hphi200
                have e201 : f196 38 = (Value.bool true) := hphi200 17 38 _ rfl rfl rfl
                exact OpY.skip (wanted_skip rfl rfl e201 hc189) rfl
              · intro f202 wd203 he204 hout205 hphi206
                have e207 : f202 40 = undef := hphi206 19 40 _ rfl rfl rfl
                exact OpY.skip (wanted_skipu rfl rfl e207) rfl
              · intro f208 wd209 he210 hout211 hphi212
                have e213 : f208 40 = undef := hphi212 19 40 _ rfl rfl rfl
                exact OpY.skip (wanted_skipu rfl rfl e213) rfl
              · intro f214 wd215 he216 hout217 hphi218
                have e219 : f214 40 = undef := hphi218 19 40 _ rfl rfl rfl
                exact OpY.skip (wanted_skipu rfl rfl e219) rfl
              · intro f220 wd221 he222 hout223 hphi224
                have e225 : f220 40 = undef := hphi224 19 40 _ rfl rfl rfl
                exact OpY.skip (wanted_skipu rfl rfl e225) rfl
              · intro f226 wd227 he228 hout229 hphi230
                have e231 : f226 40 = undef := hphi230 19 40 _ rfl rfl rfl
                exact OpY.skip (wanted_skipu rfl rfl e231) rfl
              · intro f232 wd233 he234 hout235 hphi236
                show WL _ _ _ _ _ _ _
                have hS237 : St wd2 wd233 [] := St.extend hS48 he234
                have e238 : f232 31 = undef := hphi236 10 31 _ (by decide) rfl rfl
                have e239 : f232 32 = undef := hphi236 11 32 _ (by decide) rfl rfl
                have e240 : f232 33 = undef := hphi236 12 33 _ (by decide) rfl rfl
                have e241 : f232 34 = undef := hphi236 13 34 _ (by decide) rfl rfl
                have e242 : f232 35 = undef := hphi236 14 35 _ (by decide) rfl rfl
                have e243 : f232 36 = undef := hphi236 15 36 _ (by decide) rfl rfl
                have e244 : f232 38 = (Value.bool true) := hphi236 17 38 _ (by decide) rfl rfl
                have e245 : f232 39 = undef := hphi236 18 39 _ (by decide) rfl rfl
                have e246 : f232 40 = undef := hphi236 19 40 _ (by decide) rfl rfl
                have e247 : f232 41 = undef := hphi236 20 41 _ (by decide) rfl rfl
                have e248 : f232 42 = undef := hphi236 21 42 _ (by decide) rfl rfl
                have e249 : f232 43 = undef := hphi236 22 43 _ (by decide) rfl rfl
                have e250 : f232 44 = undef := hphi236 23 44 _ (by decide) rfl rfl
                have e251 : f232 45 = undef := hphi236 24 45 _ (by decide) rfl rfl
                have e252 : f232 1 = (Value.bool good) := (hout235 1 rfl).trans hf42
                have e253 : f232 2 = v_list := (hout235 2 rfl).trans hf43
                have e254 : f232 3 = (Value.pointer (some ⟨b1, 0, none⟩)) := (hout235 3 rfl).trans hf44
                have e255 : f232 7 = (Value.int .i64 x19) := (hout235 7 rfl).trans hf45
                have e256 : f232 8 = (Value.int .i64 x20) := (hout235 8 rfl).trans hf46
                refine WL.gskipu rfl e246 rfl ?_
                refine WL.gskipu rfl e246 rfl ?_
                refine WL.gskip rfl (bool_of e244 hc189) rfl ?_
                refine WL.val (Value.bool true) _ (op_pick_t (evb_of e244 hc189) rfl) rfl ?_
                refine WL.nil ?_
                obtain rfl := Option.some.inj hj52
                exact ⟨e252, e253, e254, e255, e256, rfl, hS237⟩
            · replace hj52 := inegb hj52 hc189
              rcases Bool.eq_false_or_eq_true good with hc273 | hc273
              · replace hj52 := ip hj52 hc273
                obtain ⟨u316, hc317, hr318⟩ := repSl.el r_list hx79
                refine W.draw mixo 25 [fun v _ => v = v_list, fun v _ => v = (Value.int .i64 x20) ∧ InR .i64 x20, fun v _ => v = (Value.pointer (some (elA v_list (x20).toNat))), fun v _ => v = u87, fun v _ => v = (Value.int .i64 ((x76).length : Int)) ∧ InR .i64 ((x76).length : Int), fun v _ => v = (Value.pointer (some ⟨b1, 0, none⟩)), fun v _ => v = v_r_Table, fun v _ => v = (Value.int .i64 ((r_Table).length : Int)) ∧ InR .i64 ((r_Table).length : Int), fun v _ => v = (Value.bool (((x76).length : Int) != ((r_Table).length : Int))), fun v _ => v = (Value.bool (((x76).length : Int) != ((r_Table).length : Int))), fun v _ => v = undef, fun v _ => v = undef, fun v _ => v = undef, fun v _ => v = undef, fun v _ => v = undef, fun v _ => v = undef, fun v _ => v = (Value.bool true), fun v _ => v = (Value.bool true), fun v _ => v = (Value.bool good), fun v _ => v = (Value.bool good), fun v w' => ∃ (uu0 : Value), v = (Value.agg #[uu0]) ∧ (Ty.sl (Ty.sl (Ty.sl (Ty.i .i64)))).rep w' uu0 r_Table, fun v _ => v = v_list, fun v _ => v = (Value.int .i64 x20) ∧ InR .i64 x20, fun v _ => v = (Value.pointer (some (elA v_list (x20).toNat))), fun v _ => v = u316] (by kernel_rfl) (by kernel_rfl) (stabL ⟨(fun _ _ _ _ h => h), (fun _ _ _ _ h => h), (fun _ _ _ _ h => h), (fun _ _ _ _ h => h), (fun _ _ _ _ h => h), (fun _ _ _ _ h => h), (fun _ _ _ _ h => h), (fun _ _ _ _ h => h), (fun _ _ _ _ h => h), (fun _ _ _ _ h => h), (fun _ _ _ _ h => h), (fun _ _ _ _ h => h), (fun _ _ _ _ h => h), (fun _ _ _ _ h => h), (fun _ _ _ _ h => h), (fun _ _ _ _ h => h), (fun _ _ _ _ h => h), (fun _ _ _ _ h => h), (fun _ _ _ _ h => h), (fun _ _ _ _ h => h), (fun _ _ _ he ⟨uu0, h0, r0⟩ => ⟨uu0, h0, Ty.lift _ he r0⟩), (fun _ _ _ _ h => h), (fun _ _ _ _ h => h), (fun _ _ _ _ h => h), (fun _ _ _ _ h => h), trivial⟩) ⟨?_, ?_, ?_, ?_, ?_, ?_, ?_, ?_, ?_, ?_, ?_, ?_, ?_, ?_, ?_, ?_, ?_, ?_, ?_, ?_, ?_, ?_, ?_, ?_, ?_, trivial⟩ ?_
                · intro f53 wd54 he55 hout56 hphi57
                  have hS58 : St wd2 wd54 [] := St.extend hS48 he55
                  have e59 : f53 2 = v_list := (hout56 2 rfl).trans hf43
                  exact OpY.val v_list wd54 rfl (op_move e59) (Ext.refl _) rfl
                · intro f60 wd61 he62 hout63 hphi64
                  have hS65 : St wd2 wd61 [] := St.extend hS48 he62
                  have e66 : f60 8 = (Value.int .i64 x20) := (hout63 8 rfl).trans hf46
                  exact OpY.val (Value.int .i64 x20) wd61 rfl (op_move e66) (Ext.refl _) ⟨rfl, hr35⟩
                · intro f67 wd68 he69 hout70 hphi71
                  have hS72 : St wd2 wd68 [] := St.extend hS48 he69
                  have e73 : f67 21 = v_list := hphi71 0 21 _ rfl rfl rfl
                  obtain ⟨e74, hr75⟩ : f67 22 = (Value.int .i64 x20) ∧ InR .i64 x20 := hphi71 1 22 _ rfl rfl rfl
                  exact OpY.val (Value.pointer (some (elA v_list (x20).toNat))) wd68 rfl (op_idx sl_65 (Ty.lift _ (Ext.trans hE7 hS72.ext) r_list) e73 e74 ha77 hb78) (Ext.refl _) rfl
                · intro f80 wd81 he82 hout83 hphi84
                  have hS85 : St wd2 wd81 [] := St.extend hS48 he82
                  have e86 : f80 23 = (Value.pointer (some (elA v_list (x20).toNat))) := hphi84 2 23 _ rfl rfl rfl
                  exact OpY.val u87 wd81 rfl (op_load one_25 e86 (Ext.cell (Ext.trans hE7 hS85.ext) hc88)) (Ext.refl _) rfl
                · intro f90 wd91 he92 hout93 hphi94
                  have hS95 : St wd2 wd91 [] := St.extend hS48 he92
                  have e96 : f90 24 = u87 := hphi94 3 24 _ rfl rfl rfl
                  have hr97 := inR_len (Ty.lift _ (Ext.trans hE7 hS95.ext) hr89)
                  exact OpY.val (Value.int .i64 ((x76).length : Int)) wd91 rfl (op_lenL sl_25 (Ty.lift _ (Ext.trans hE7 hS95.ext) hr89) e96) (Ext.refl _) ⟨rfl, hr97⟩
                · intro f98 wd99 he100 hout101 hphi102
                  have hS103 : St wd2 wd99 [] := St.extend hS48 he100
                  have e104 : f98 3 = (Value.pointer (some ⟨b1, 0, none⟩)) := (hout101 3 rfl).trans hf44
                  exact OpY.val (Value.pointer (some ⟨b1, 0, none⟩)) wd99 rfl (op_fieldAddr fd_29_0 e104) (Ext.refl _) rfl
                · intro f105 wd106 he107 hout108 hphi109
                  have hS110 : St wd2 wd106 [] := St.extend hS48 he107
                  have e111 : f105 26 = (Value.pointer (some ⟨b1, 0, none⟩)) := hphi109 5 26 _ rfl rfl rfl
                  exact OpY.val v_r_Table wd106 rfl (op_load one_22 e111 (BoxAt.cell (BoxAt.lift hS110.ext hx6) rfl)) (Ext.refl _) rfl
                · intro f112 wd113 he114 hout115 hphi116
                  have hS117 : St wd2 wd113 [] := St.extend hS48 he114
                  have e118 : f112 27 = v_r_Table := hphi116 6 27 _ rfl rfl rfl
                  have hr119 := inR_len (Ty.lift _ (Ext.trans hE7 hS117.ext) r_r_Table)
                  exact OpY.val (Value.int .i64 ((r_Table).length : Int)) wd113 rfl (op_lenL sl_22 (Ty.lift _ (Ext.trans hE7 hS117.ext) r_r_Table) e118) (Ext.refl _) ⟨rfl, hr119⟩
                · intro f120 wd121 he122 hout123 hphi124
                  have hS125 : St wd2 wd121 [] := St.extend hS48 he122
                  obtain ⟨e126, hr127⟩ : f120 25 = (Value.int .i64 ((x76).length : Int)) ∧ InR .i64 ((x76).length : Int) := hphi124 4 25 _ rfl rfl rfl
                  obtain ⟨e128, hr129⟩ : f120 28 = (Value.int .i64 ((r_Table).length : Int)) ∧ InR .i64 ((r_Table).length : Int) := hphi124 7 28 _ rfl rfl rfl
                  exact OpY.val (Value.bool (((x76).length : Int) != ((r_Table).length : Int))) wd121 rfl (op_neq e126 e128) (Ext.refl _) rfl
                · intro f130 wd131 he132 hout133 hphi134
                  have hS135 : St wd2 wd131 [] := St.extend hS48 he132
                  have e136 : f130 29 = (Value.bool (((x76).length : Int) != ((r_Table).length : Int))) := hphi134 8 29 _ rfl rfl rfl
                  exact OpY.val (Value.bool (((x76).length : Int) != ((r_Table).length : Int))) wd131 rfl (op_move e136) (Ext.refl _) rfl
                · intro f138 wd139 he140 hout141 hphi142
                  have e143 : f138 30 = (Value.bool (((x76).length : Int) != ((r_Table).length : Int))) := hphi142 9 30 _ rfl rfl rfl
                  exact OpY.skip (wanted_skip rfl rfl e143 hc137) rfl
                · intro f144 wd145 he146 hout147 hphi148
                  have e149 : f144 30 = (Value.bool (((x76).length : Int) != ((r_Table).length : Int))) := hphi148 9 30 _ rfl rfl rfl
                  exact OpY.skip (wanted_skip rfl rfl e149 hc137) rfl
                · intro f150 wd151 he152 hout153 hphi154
                  have e155 : f150 30 = (Value.bool (((x76).length : Int) != ((r_Table).length : Int))) := hphi154 9 30 _ rfl rfl rfl
                  exact OpY.skip (wanted_skip rfl rfl e155 hc137) rfl
                · intro f156 wd157 he158 hout159 hphi160
                  have e161 : f156 30 = (Value.bool (((x76).length : Int) != ((r_Table).length : Int))) := hphi160 9 30 _ rfl rfl rfl
                  exact OpY.skip (wanted_skip rfl rfl e161 hc137) rfl
                · intro f162 wd163 he164 hout165 hphi166
                  have e167 : f162 30 = (Value.bool (((x76).length : Int) != ((r_Table).length : Int))) := hphi166 9 30 _ rfl rfl rfl
                  exact OpY.skip (wanted_skip rfl rfl e167 hc137) rfl
                · intro f168 wd169 he170 hout171 hphi172
                  have e173 : f168 30 = (Value.bool (((x76).length : Int) != ((r_Table).length : Int))) := hphi172 9 30 _ rfl rfl rfl
                  exact OpY.skip (wanted_skip rfl rfl e173 hc137) rfl
                · intro f174 wd175 he176 hout177 hphi178
                  have hS179 : St wd2 wd175 [] := St.extend hS48 he176
                  have e180 : f174 30 = (Value.bool (((x76).length : Int) != ((r_Table).length : Int))) := hphi178 9 30 _ rfl rfl rfl
                  have e181 : f174 36 = undef := hphi178 15 36 _ rfl rfl rfl
                  exact OpY.val (Value.bool true) wd175 rfl (op_pick_t (evb_of e180 hc137) rfl) (Ext.refl _) rfl
                · intro f182 wd183 he184 hout185 hphi186
                  have hS187 : St wd2 wd183 [] := St.extend hS48 he184
                  have e188 : f182 37 = (Value.bool true) := hphi186 16 37 _ rfl rfl rfl
                  exact OpY.val (Value.bool true) wd183 rfl (op_move e188) (Ext.refl _) rfl
                · intro f257 wd258 he259 hout260 hphi261
                  have hS262 : St wd2 wd258 [] := St.extend hS48 he259
                  have e263 : f257 1 = (Value.bool good) := (hout260 1 rfl).trans hf42
                  have e264 : f257 38 = (Value.bool true) := hphi261 17 38 _ rfl rfl rfl
                  exact OpY.val (Value.bool good) wd258 (wanted_run rfl rfl e264 hc189) (op_move e263) (Ext.refl _) rfl
                · intro f265 wd266 he267 hout268 hphi269
                  have hS270 : St wd2 wd266 [] := St.extend hS48 he267
                  have e271 : f265 38 = (Value.bool true) := hphi269 17 38 _ rfl rfl rfl
                  have e272 : f265 39 = (Value.bool good) := hphi269 18 39 _ rfl rfl rfl
                  exact OpY.val (Value.bool good) wd266 (wanted_run rfl rfl e271 hc189) (op_move e272) (Ext.refl _) rfl
                · intro f274 wd275 he276 hout277 hphi278
                  have hS279 : St wd2 wd275 [] := St.extend hS48 he276
                  have e280 : f274 3 = (Value.pointer (some ⟨b1, 0, none⟩)) := (hout277 3 rfl).trans hf44
                  have e281 : f274 40 = (Value.bool good) := hphi278 19 40 _ rfl rfl rfl
                  exact OpY.val (Value.agg #[v_r_Table]) wd275 (wanted_run rfl rfl e281 hc273) (op_loadBox st_29 e280 (BoxAt.lift hS279.ext hx6) rfl rfl) (Ext.refl _) ⟨v_r_Table, rfl, (Ty.lift _ (Ext.trans hE7 hS279.ext) r_r_Table)⟩
                · intro f282 wd283 he284 hout285 hphi286
                  have hS287 : St wd2 wd283 [] := St.extend hS48 he284
                  have e288 : f282 2 = v_list := (hout285 2 rfl).trans hf43
                  have e289 : f282 40 = (Value.bool good) := hphi286 19 40 _ rfl rfl rfl
                  exact OpY.val v_list wd283 (wanted_run rfl rfl e289 hc273) (op_move e288) (Ext.refl _) rfl
                · intro f290 wd291 he292 hout293 hphi294
                  have hS295 : St wd2 wd291 [] := St.extend hS48 he292
                  have e296 : f290 8 = (Value.int .i64 x20) := (hout293 8 rfl).trans hf46
                  have e297 : f290 40 = (Value.bool good) := hphi294 19 40 _ rfl rfl rfl
                  exact OpY.val (Value.int .i64 x20) wd291 (wanted_run rfl rfl e297 hc273) (op_move e296) (Ext.refl _) ⟨rfl, hr35⟩
                · intro f298 wd299 he300 hout301 hphi302
                  have hS303 : St wd2 wd299 [] := St.extend hS48 he300
                  have e304 : f298 40 = (Value.bool good) := hphi302 19 40 _ rfl rfl rfl
                  have e305 : f298 42 = v_list := hphi302 21 42 _ rfl rfl rfl
                  obtain ⟨e306, hr307⟩ : f298 43 = (Value.int .i64 x20) ∧ InR .i64 x20 := hphi302 22 43 _ rfl rfl rfl
                  exact OpY.val (Value.pointer (some (elA v_list (x20).toNat))) wd299 (wanted_run rfl rfl e304 hc273) (op_idx sl_65 (Ty.lift _ (Ext.trans hE7 hS303.ext) r_list) e305 e306 ha77 hb78) (Ext.refl _) rfl
                · intro f308 wd309 he310 hout311 hphi312
                  have hS313 : St wd2 wd309 [] := St.extend hS48 he310
                  have e314 : f308 40 = (Value.bool good) := hphi312 19 40 _ rfl rfl rfl
                  have e315 : f308 44 = (Value.pointer (some (elA v_list (x20).toNat))) := hphi312 23 44 _ rfl rfl rfl
                  exact OpY.val u316 wd309 (wanted_run rfl rfl e314 hc273) (op_load one_25 e315 (Ext.cell (Ext.trans hE7 hS313.ext) hc317)) (Ext.refl _) rfl
                · intro f319 wd320 he321 hout322 hphi323
                  show WL _ _ _ _ _ _ _
                  have hS324 : St wd2 wd320 [] := St.extend hS48 he321
                  have e325 : f319 31 = undef := hphi323 10 31 _ (by decide) rfl rfl
                  have e326 : f319 32 = undef := hphi323 11 32 _ (by decide) rfl rfl
                  have e327 : f319 33 = undef := hphi323 12 33 _ (by decide) rfl rfl
                  have e328 : f319 34 = undef := hphi323 13 34 _ (by decide) rfl rfl
                  have e329 : f319 35 = undef := hphi323 14 35 _ (by decide) rfl rfl
                  have e330 : f319 36 = undef := hphi323 15 36 _ (by decide) rfl rfl
                  have e331 : f319 38 = (Value.bool true) := hphi323 17 38 _ (by decide) rfl rfl
                  have e332 : f319 39 = (Value.bool good) := hphi323 18 39 _ (by decide) rfl rfl
                  have e333 : f319 40 = (Value.bool good) := hphi323 19 40 _ (by decide) rfl rfl
                  obtain ⟨u335, e334, hr336⟩ := hphi323 20 41 _ (by decide) rfl rfl
                  have e337 : f319 42 = v_list := hphi323 21 42 _ (by decide) rfl rfl
                  obtain ⟨e338, hr339⟩ : f319 43 = (Value.int .i64 x20) ∧ InR .i64 x20 := hphi323 22 43 _ (by decide) rfl rfl
                  have e340 : f319 44 = (Value.pointer (some (elA v_list (x20).toNat))) := hphi323 23 44 _ (by decide) rfl rfl
                  have e341 : f319 45 = u316 := hphi323 24 45 _ (by decide) rfl rfl
                  have e342 : f319 1 = (Value.bool good) := (hout322 1 rfl).trans hf42
                  have e343 : f319 2 = v_list := (hout322 2 rfl).trans hf43
                  have e344 : f319 3 = (Value.pointer (some ⟨b1, 0, none⟩)) := (hout322 3 rfl).trans hf44
                  have e345 : f319 7 = (Value.int .i64 x19) := (hout322 7 rfl).trans hf45
                  have e346 : f319 8 = (Value.int .i64 x20) := (hout322 8 rfl).trans hf46
                  refine WL.grun rfl (bool_of e333 hc273) ?_
                  obtain ⟨x347, hx348, hj52⟩ := bs hj52
                  refine WL.call _ (op_call fn_36 (args2 e334 e341)) (c_spec_l08Is hr336 (Ty.lift _ (Ext.trans hE7 hS324.ext) hr318) hx348) rfl ?_
                  rintro _ wd349 ⟨rfl, he350⟩
                  have hS352 := St.extend hS324 he350
                  replace hS352 : St wd2 wd349 [] := hS352
                  refine WL.grun rfl (bool_of e333 hc273) ?_
                  refine WL.val (Value.bool (!x347)) _ (op_not rfl) rfl ?_
                  refine WL.grun rfl (bool_of e331 hc189) ?_
                  refine WL.val (Value.bool (!x347)) _ (op_pick_t (evb_of e333 hc273) rfl) rfl ?_
                  refine WL.val (Value.bool (!x347)) _ (op_pick_f (evb_of e331 hc189) rfl) rfl ?_
                  refine WL.nil ?_
                  obtain rfl := Option.some.inj hj52
                  exact ⟨e342, e343, e344, e345, e346, rfl, hS352⟩
              · replace hj52 := inegb hj52 hc273
                refine W.draw mixo 25 [fun v _ => v = v_list, fun v _ => v = (Value.int .i64 x20) ∧ InR .i64 x20, fun v _ => v = (Value.pointer (some (elA v_list (x20).toNat))), fun v _ => v = u87, fun v _ => v = (Value.int .i64 ((x76).length : Int)) ∧ InR .i64 ((x76).length : Int), fun v _ => v = (Value.pointer (some ⟨b1, 0, none⟩)), fun v _ => v = v_r_Table, fun v _ => v = (Value.int .i64 ((r_Table).length : Int)) ∧ InR .i64 ((r_Table).length : Int), fun v _ => v = (Value.bool (((x76).length : Int) != ((r_Table).length : Int))), fun v _ => v = (Value.bool (((x76).length : Int) != ((r_Table).length : Int))), fun v _ => v = undef, fun v _ => v = undef, fun v _ => v = undef, fun v _ => v = undef, fun v _ => v = undef, fun v _ => v = undef, fun v _ => v = (Value.bool true), fun v _ => v = (Value.bool true), fun v _ => v = (Value.bool good), fun v _ => v = (Value.bool good), fun v _ => v = undef, fun v _ => v = undef, fun v _ => v = undef, fun v _ => v = undef, fun v _ => v = undef] (by kernel_rfl) (by kernel_rfl) (stabL ⟨(fun _ _ _ _ h => h), (fun _ _ _ _ h => h), (fun _ _ _ _ h => h), (fun _ _ _ _ h => h), (fun _ _ _ _ h => h), (fun _ _ _ _ h => h), (fun _ _ _ _ h => h), (fun _ _ _ _ h => h), (fun _ _ _ _ h => h), (fun _ _ _ _ h => h), (fun _ _ _ _ h => h), (fun _ _ _ _ h => h), (fun _ _ _ _ h => h), (fun _ _ _ _ h => h), (fun _ _ _ _ h => h), (fun _ _ _ _ h => h), (fun _ _ _ _ h => h), (fun _ _ _ _ h => h), (fun _ _ _ _ h => h), (fun _ _ _ _ h => h), (fun _ _ _ _ h => h), (fun _ _ _ _ h => h), (fun _ _ _ _ h => h), (fun _ _ _ _ h => h), (fun _ _ _ _ h => h), trivial⟩) ⟨?_, ?_, ?_, ?_, ?_, ?_, ?_, ?_, ?_, ?_, ?_, ?_, ?_, ?_, ?_, ?_, ?_, ?_, ?_, ?_, ?_, ?_, ?_, ?_, ?_, trivial⟩ ?_
                · intro f53 wd54 he55 hout56 hphi57
                  have hS58 : St wd2 wd54 [] := St.extend hS48 he55
                  have e59 : f53 2 = v_list := (hout56 2 rfl).trans hf43
                  exact OpY.val v_list wd54 rfl (op_move e59) (Ext.refl _) rfl
                · intro f60 wd61 he62 hout63 hphi64
                  have hS65 : St wd2 wd61 [] := St.extend hS48 he62
                  have e66 : f60 8 = (Value.int .i64 x20) := (hout63 8 rfl).trans hf46
                  exact OpY.val (Value.int .i64 x20) wd61 rfl (op_move e66) (Ext.refl _) ⟨rfl, hr35⟩
                · intro f67 wd68 he69 hout70 hphi71
                  have hS72 : St wd2 wd68 [] := St.extend hS48 he69
                  have e73 : f67 21 = v_list := hphi71 0 21 _ rfl rfl rfl
                  obtain ⟨e74, hr75⟩ : f67 22 = (Value.int .i64 x20) ∧ InR .i64 x20 := hphi71 1 22 _ rfl rfl rfl
                  exact OpY.val (Value.pointer (some (elA v_list (x20).toNat))) wd68 rfl (op_idx sl_65 (Ty.lift _ (Ext.trans hE7 hS72.ext) r_list) e73 e74 ha77 hb78) (Ext.refl _) rfl
                · intro f80 wd81 he82 hout83 hphi84
                  have hS85 : St wd2 wd81 [] := St.extend hS48 he82
                  have e86 : f80 23 = (Value.pointer (some (elA v_list (x20).toNat))) := hphi84 2 23 _ rfl rfl rfl
                  exact OpY.val u87 wd81 rfl (op_load one_25 e86 (Ext.cell (Ext.trans hE7 hS85.ext) hc88)) (Ext.refl _) rfl
                · intro f90 wd91 he92 hout93 hphi94
                  have hS95 : St wd2 wd91 [] := St.extend hS48 he92
                  have e96 : f90 24 = u87 := hphi94 3 24 _ rfl rfl rfl
                  have hr97 := inR_len (Ty.lift _ (Ext.trans hE7 hS95.ext) hr89)
                  exact OpY.val (Value.int .i64 ((x76).length : Int)) wd91 rfl (op_lenL sl_25 (Ty.lift _ (Ext.trans hE7 hS95.ext) hr89) e96) (Ext.refl _) ⟨rfl, hr97⟩
                · intro f98 wd99 he100 hout101 hphi102
                  have hS103 : St wd2 wd99 [] := St.extend hS48 he100
                  have e104 : f98 3 = (Value.pointer (some ⟨b1, 0, none⟩)) := (hout101 3 rfl).trans hf44
                  exact OpY.val (Value.pointer (some ⟨b1, 0, none⟩)) wd99 rfl (op_fieldAddr fd_29_0 e104) (Ext.refl _) rfl
                · intro f105 wd106 he107 hout108 hphi109
                  have hS110 : St wd2 wd106 [] := St.extend hS48 he107
                  have e111 : f105 26 = (Value.pointer (some ⟨b1, 0, none⟩)) := hphi109 5 26 _ rfl rfl rfl
                  exact OpY.val v_r_Table wd106 rfl (op_load one_22 e111 (BoxAt.cell (BoxAt.lift hS110.ext hx6) rfl)) (Ext.refl _) rfl
                · intro f112 wd113 he114 hout115 hphi116
                  have hS117 : St wd2 wd113 [] := St.extend hS48 he114
                  have e118 : f112 27 = v_r_Table := hphi116 6 27 _ rfl rfl rfl
                  have hr119 := inR_len (Ty.lift _ (Ext.trans hE7 hS117.ext) r_r_Table)
                  exact OpY.val (Value.int .i64 ((r_Table).length : Int)) wd113 rfl (op_lenL sl_22 (Ty.lift _ (Ext.trans hE7 hS117.ext) r_r_Table) e118) (Ext.refl _) ⟨rfl, hr119⟩
                · intro f120 wd121 he122 hout123 hphi124
                  have hS125 : St wd2 wd121 [] := St.extend hS48 he122
                  obtain ⟨e126, hr127⟩ : f120 25 = (Value.int .i64 ((x76).length : Int)) ∧ InR .i64 ((x76).length : Int) := hphi124 4 25 _ rfl rfl rfl
                  obtain ⟨e128, hr129⟩ : f120 28 = (Value.int .i64 ((r_Table).length : Int)) ∧ InR .i64 ((r_Table).length : Int) := hphi124 7 28 _ rfl rfl rfl
                  exact OpY.val (Value.bool (((x76).length : Int) != ((r_Table).length : Int))) wd121 rfl (op_neq e126 e128) (Ext.refl _) rfl
                · intro f130 wd131 he132 hout133 hphi134
                  have hS135 : St wd2 wd131 [] := St.extend hS48 he132
                  have e136 : f130 29 = (Value.bool (((x76).length : Int) != ((r_Table).length : Int))) := hphi134 8 29 _ rfl rfl rfl
                  exact OpY.val (Value.bool (((x76).length : Int) != ((r_Table).length : Int))) wd131 rfl (op_move e136) (Ext.refl _) rfl
                · intro f138 wd139 he140 hout141 hphi142
                  have e143 : f138 30 = (Value.bool (((x76).length : Int) != ((r_Table).length : Int))) := hphi142 9 30 _ rfl rfl rfl
                  exact OpY.skip (wanted_skip rfl rfl e143 hc137) rfl
                · intro f144 wd145 he146 hout147 hphi148
                  have e149 : f144 30 = (Value.bool (((x76).length : Int) != ((r_Table).length : Int))) := hphi148 9 30 _ rfl rfl rfl
                  exact OpY.skip (wanted_skip rfl rfl e149 hc137) rfl
                · intro f150 wd151 he152 hout153 hphi154
                  have e155 : f150 30 = (Value.bool (((x76).length : Int) != ((r_Table).length : Int))) := hphi154 9 30 _ rfl rfl rfl
                  exact OpY.skip (wanted_skip rfl rfl e155 hc137) rfl
                · intro f156 wd157 he158 hout159 hphi160
                  have e161 : f156 30 = (Value.bool (((x76).length : Int) != ((r_Table).length : Int))) := hphi160 9 30 _ rfl rfl rfl
                  exact OpY.skip (wanted_skip rfl rfl e161 hc137) rfl
                · intro f162 wd163 he164 hout165 hphi166
                  have e167 : f162 30 = (Value.bool (((x76).length : Int) != ((r_Table).length : Int))) := hphi166 9 30 _ rfl rfl rfl
                  exact OpY.skip (wanted_skip rfl rfl e167 hc137) rfl
                · intro f168 wd169 he170 hout171 hphi172
                  have e173 : f168 30 = (Value.bool (((x76).length : Int) != ((r_Table).length : Int))) := hphi172 9 30 _ rfl rfl rfl
                  exact OpY.skip (wanted_skip rfl rfl e173 hc137) rfl
                · intro f174 wd175 he176 hout177 hphi178
                  have hS179 : St wd2 wd175 [] := St.extend hS48 he176
                  have e180 : f174 30 = (Value.bool (((x76).length : Int) != ((r_Table).length : Int))) := hphi178 9 30 _ rfl rfl rfl
                  have e181 : f174 36 = undef := hphi178 15 36 _ rfl rfl rfl
                  exact OpY.val (Value.bool true) wd175 rfl (op_pick_t (evb_of e180 hc137) rfl) (Ext.refl _) rfl
                · intro f182 wd183 he184 hout185 hphi186
                  have hS187 : St wd2 wd183 [] := St.extend hS48 he184
                  have e188 : f182 37 = (Value.bool true) := hphi186 16 37 _ rfl rfl rfl
                  exact OpY.val (Value.bool true) wd183 rfl (op_move e188) (Ext.refl _) rfl
                · intro f257 wd258 he259 hout260 hphi261
                  have hS262 : St wd2 wd258 [] := St.extend hS48 he259
                  have e263 : f257 1 = (Value.bool good) := (hout260 1 rfl).trans hf42
                  have e264 : f257 38 = (Value.bool true) := hphi261 17 38 _ rfl rfl rfl
                  exact OpY.val (Value.bool good) wd258 (wanted_run rfl rfl e264 hc189) (op_move e263) (Ext.refl _) rfl
                · intro f265 wd266 he267 hout268 hphi269
                  have hS270 : St wd2 wd266 [] := St.extend hS48 he267
                  have e271 : f265 38 = (Value.bool true) := hphi269 17 38 _ rfl rfl rfl
                  have e272 : f265 39 = (Value.bool good) := hphi269 18 39 _ rfl rfl rfl
                  exact OpY.val (Value.bool good) wd266 (wanted_run rfl rfl e271 hc189) (op_move e272) (Ext.refl _) rfl
                · intro f353 wd354 he355 hout356 hphi357
                  have e358 : f353 40 = (Value.bool good) := hphi357 19 40 _ rfl rfl rfl
                  exact OpY.skip (wanted_skip rfl rfl e358 hc273) rfl
                · intro f359 wd360 he361 hout362 hphi363
                  have e364 : f359 40 = (Value.bool good) := hphi363 19 40 _ rfl rfl rfl
                  exact OpY.skip (wanted_skip rfl rfl e364 hc273) rfl
                · intro f365 wd366 he367 hout368 hphi369
                  have e370 : f365 40 = (Value.bool good) := hphi369 19 40 _ rfl rfl rfl
                  exact OpY.skip (wanted_skip rfl rfl e370 hc273) rfl
                · intro f371 wd372 he373 hout374 hphi375
                  have e376 : f371 40 = (Value.bool good) := hphi375 19 40 _ rfl rfl rfl
                  exact OpY.skip (wanted_skip rfl rfl e376 hc273) rfl
                · intro f377 wd378 he379 hout380 hphi381
                  have e382 : f377 40 = (Value.bool good) := hphi381 19 40 _ rfl rfl rfl
                  exact OpY.skip (wanted_skip rfl rfl e382 hc273) rfl
                · intro f383 wd384 he385 hout386 hphi387
                  show WL _ _ _ _ _ _ _
                  have hS388 : St wd2 wd384 [] := St.extend hS48 he385
                  have e389 : f383 31 = undef := hphi387 10 31 _ (by decide) rfl rfl
                  have e390 : f383 32 = undef := hphi387 11 32 _ (by decide) rfl rfl
                  have e391 : f383 33 = undef := hphi387 12 33 _ (by decide) rfl rfl
                  have e392 : f383 34 = undef := hphi387 13 34 _ (by decide) rfl rfl
                  have e393 : f383 35 = undef := hphi387 14 35 _ (by decide) rfl rfl
                  have e394 : f383 36 = undef := hphi387 15 36 _ (by decide) rfl rfl
                  have e395 : f383 38 = (Value.bool true) := hphi387 17 38 _ (by decide) rfl rfl
                  have e396 : f383 39 = (Value.bool good) := hphi387 18 39 _ (by decide) rfl rfl
                  have e397 : f383 40 = (Value.bool good) := hphi387 19 40 _ (by decide) rfl rfl
                  have e398 : f383 41 = undef := hphi387 20 41 _ (by decide) rfl rfl
                  have e399 : f383 42 = undef := hphi387 21 42 _ (by decide) rfl rfl
                  have e400 : f383 43 = undef := hphi387 22 43 _ (by decide) rfl rfl
                  have e401 : f383 44 = undef := hphi387 23 44 _ (by decide) rfl rfl
                  have e402 : f383 45 = undef := hphi387 24 45 _ (by decide) rfl rfl
                  have e403 : f383 1 = (Value.bool good) := (hout386 1 rfl).trans hf42
                  have e404 : f383 2 = v_list := (hout386 2 rfl).trans hf43
                  have e405 : f383 3 = (Value.pointer (some ⟨b1, 0, none⟩)) := (hout386 3 rfl).trans hf44
                  have e406 : f383 7 = (Value.int .i64 x19) := (hout386 7 rfl).trans hf45
                  have e407 : f383 8 = (Value.int .i64 x20) := (hout386 8 rfl).trans hf46
                  refine WL.gskip rfl (bool_of e397 hc273) rfl ?_
                  refine WL.gskip rfl (bool_of e397 hc273) rfl ?_
                  refine WL.grun rfl (bool_of e395 hc189) ?_
                  refine WL.val (Value.bool false) _ (op_pick_f (evb_of e397 hc273) rfl) rfl ?_
                  refine WL.val (Value.bool false) _ (op_pick_f (evb_of e395 hc189) rfl) rfl ?_
                  refine WL.nil ?_
                  obtain rfl := Option.some.inj hj52
                  exact ⟨e403, e404, e405, e406, e407, rfl, hS388⟩
          · replace hj52 := inegb hj52 hc137
            obtain ⟨u442, hc443, hr444⟩ := repSl.el r_list hx79
            obtain ⟨x453, hx454, hj52⟩ := bs hj52
            rcases Bool.eq_false_or_eq_true (!x453) with hc481 | hc481
            · replace hj52 := ip hj52 hc481
              refine W.draw mixo 25 [fun v _ => v = v_list, fun v _ => v = (Value.int .i64 x20) ∧ InR .i64 x20, fun v _ => v = (Value.pointer (some (elA v_list (x20).toNat))), fun v _ => v = u87, fun v _ => v = (Value.int .i64 ((x76).length : Int)) ∧ InR .i64 ((x76).length : Int), fun v _ => v = (Value.pointer (some ⟨b1, 0, none⟩)), fun v _ => v = v_r_Table, fun v _ => v = (Value.int .i64 ((r_Table).length : Int)) ∧ InR .i64 ((r_Table).length : Int), fun v _ => v = (Value.bool (((x76).length : Int) != ((r_Table).length : Int))), fun v _ => v = (Value.bool (((x76).length : Int) != ((r_Table).length : Int))), fun v _ => v = v_list, fun v _ => v = (Value.int .i64 x20) ∧ InR .i64 x20, fun v _ => v = (Value.pointer (some (elA v_list (x20).toNat))), fun v _ => v = u442, fun v _ => v = (Value.bool x453), fun v _ => v = (Value.bool (!x453)), fun v _ => v = (Value.bool (!x453)), fun v _ => v = (Value.bool (!x453)), fun v _ => v = undef, fun v _ => v = undef, fun v _ => v = undef, fun v _ => v = undef, fun v _ => v = undef, fun v _ => v = undef, fun v _ => v = undef] (by kernel_rfl) (by kernel_rfl) (stabL ⟨(fun _ _ _ _ h => h), (fun _ _ _ _ h => h), (fun _ _ _ _ h => h), (fun _ _ _ _ h => h), (fun _ _ _ _ h => h), (fun _ _ _ _ h => h), (fun _ _ _ _ h => h), (fun _ _ _ _ h => h), (fun _ _ _ _ h => h), (fun _ _ _ _ h => h), (fun _ _ _ _ h => h), (fun _ _ _ _ h => h), (fun _ _ _ _ h => h), (fun _ _ _ _ h => h), (fun _ _ _ _ h => h), (fun _ _ _ _ h => h), (fun _ _ _ _ h => h), (fun _ _ _ _ h => h), (fun _ _ _ _ h => h), (fun _ _ _ _ h => h), (fun _ _ _ _ h => h), (fun _ _ _ _ h => h), (fun _ _ _ _ h => h), (fun _ _ _ _ h => h), (fun _ _ _ _ h => h), trivial⟩) ⟨?_, ?_, ?_, ?_, ?_, ?_, ?_, ?_, ?_, ?_, ?_, ?_, ?_, ?_, ?_, ?_, ?_, ?_, ?_, ?_, ?_, ?_, ?_, ?_, ?_, trivial⟩ ?_
              · intro f53 wd54 he55 hout56 hphi57
                have hS58 : St wd2 wd54 [] := St.extend hS48 he55
                have e59 : f53 2 = v_list := (hout56 2 rfl).trans hf43
                exact OpY.val v_list wd54 rfl (op_move e59) (Ext.refl _) rfl
              · intro f60 wd61 he62 hout63 hphi64
                have hS65 : St wd2 wd61 [] := St.extend hS48 he62
                have e66 : f60 8 = (Value.int .i64 x20) := (hout63 8 rfl).trans hf46
                exact OpY.val (Value.int .i64 x20) wd61 rfl (op_move e66) (Ext.refl _) ⟨rfl, hr35⟩
              · intro f67 wd68 he69 hout70 hphi71
                have hS72 : St wd2 wd68 [] := St.extend hS48 he69
                have e73 : f67 21 = v_list := hphi71 0 21 _ rfl rfl rfl
                obtain ⟨e74, hr75⟩ : f67 22 = (Value.int .i64 x20) ∧ InR .i64 x20 := hphi71 1 22 _ rfl rfl rfl
                exact OpY.val (Value.pointer (some (elA v_list (x20).toNat))) wd68 rfl (op_idx sl_65 (Ty.lift _ (Ext.trans hE7 hS72.ext) r_list) e73 e74 ha77 hb78) (Ext.refl _) rfl
              · intro f80 wd81 he82 hout83 hphi84
                have hS85 : St wd2 wd81 [] := St.extend hS48 he82
                have e86 : f80 23 = (Value.pointer (some (elA v_list (x20).toNat))) := hphi84 2 23 _ rfl rfl rfl
                exact OpY.val u87 wd81 rfl (op_load one_25 e86 (Ext.cell (Ext.trans hE7 hS85.ext) hc88)) (Ext.refl _) rfl
              · intro f90 wd91 he92 hout93 hphi94
                have hS95 : St wd2 wd91 [] := St.extend hS48 he92
                have e96 : f90 24 = u87 := hphi94 3 24 _ rfl rfl rfl
                have hr97 := inR_len (Ty.lift _ (Ext.trans hE7 hS95.ext) hr89)
                exact OpY.val (Value.int .i64 ((x76).length : Int)) wd91 rfl (op_lenL sl_25 (Ty.lift _ (Ext.trans hE7 hS95.ext) hr89) e96) (Ext.refl _) ⟨rfl, hr97⟩
              · intro f98 wd99 he100 hout101 hphi102
                have hS103 : St wd2 wd99 [] := St.extend hS48 he100
                have e104 : f98 3 = (Value.pointer (some ⟨b1, 0, none⟩)) := (hout101 3 rfl).trans hf44
                exact OpY.val (Value.pointer (some ⟨b1, 0, none⟩)) wd99 rfl (op_fieldAddr fd_29_0 e104) (Ext.refl _) rfl
              · intro f105 wd106 he107 hout108 hphi109
                have hS110 : St wd2 wd106 [] := St.extend hS48 he107
                have e111 : f105 26 = (Value.pointer (some ⟨b1, 0, none⟩)) := hphi109 5 26 _ rfl rfl rfl
                exact OpY.val v_r_Table wd106 rfl (op_load one_22 e111 (BoxAt.cell (BoxAt.lift hS110.ext hx6) rfl)) (Ext.refl _) rfl
              · intro f112 wd113 he114 hout115 hphi116
                have hS117 : St wd2 wd113 [] := St.extend hS48 he114
                have e118 : f112 27 = v_r_Table := hphi116 6 27 _ rfl rfl rfl
                have hr119 := inR_len (Ty.lift _ (Ext.trans hE7 hS117.ext) r_r_Table)
                exact OpY.val (Value.int .i64 ((r_Table).length : Int)) wd113 rfl (op_lenL sl_22 (Ty.lift _ (Ext.trans hE7 hS117.ext) r_r_Table) e118) (Ext.refl _) ⟨rfl, hr119⟩
              · intro f120 wd121 he122 hout123 hphi124
                have hS125 : St wd2 wd121 [] := St.extend hS48 he122
                obtain ⟨e126, hr127⟩ : f120 25 = (Value.int .i64 ((x76).length : Int)) ∧ InR .i64 ((x76).length : Int) := hphi124 4 25 _ rfl rfl rfl
                obtain ⟨e128, hr129⟩ : f120 28 = (Value.int .i64 ((r_Table).length : Int)) ∧ InR .i64 ((r_Table).length : Int) := hphi124 7 28 _ rfl rfl rfl
                exact OpY.val (Value.bool (((x76).length : Int) != ((r_Table).length : Int))) wd121 rfl (op_neq e126 e128) (Ext.refl _) rfl
              · intro f130 wd131 he132 hout133 hphi134
                have hS135 : St wd2 wd131 [] := St.extend hS48 he132
                have e136 : f130 29 = (Value.bool (((x76).length : Int) != ((r_Table).length : Int))) := hphi134 8 29 _ rfl rfl rfl
                exact OpY.val (Value.bool (((x76).length : Int) != ((r_Table).length : Int))) wd131 rfl (op_move e136) (Ext.refl _) rfl
              · intro f408 wd409 he410 hout411 hphi412
                have hS413 : St wd2 wd409 [] := St.extend hS48 he410
                have e414 : f408 2 = v_list := (hout411 2 rfl).trans hf43
                have e415 : f408 30 = (Value.bool (((x76).length : Int) != ((r_Table).length : Int))) := hphi412 9 30 _ rfl rfl rfl
                exact OpY.val v_list wd409 (wanted_run rfl rfl e415 hc137) (op_move e414) (Ext.refl _) rfl
              · intro f416 wd417 he418 hout419 hphi420
                have hS421 : St wd2 wd417 [] := St.extend hS48 he418
                have e422 : f416 8 = (Value.int .i64 x20) := (hout419 8 rfl).trans hf46
                have e423 : f416 30 = (Value.bool (((x76).length : Int) != ((r_Table).length : Int))) := hphi420 9 30 _ rfl rfl rfl
                exact OpY.val (Value.int .i64 x20) wd417 (wanted_run rfl rfl e423 hc137) (op_move e422) (Ext.refl _) ⟨rfl, hr35⟩
              · intro f424 wd425 he426 hout427 hphi428
                have hS429 : St wd2 wd425 [] := St.extend hS48 he426
                have e430 : f424 30 = (Value.bool (((x76).length : Int) != ((r_Table).length : Int))) := hphi428 9 30 _ rfl rfl rfl
                have e431 : f424 31 = v_list := hphi428 10 31 _ rfl rfl rfl
                obtain ⟨e432, hr433⟩ : f424 32 = (Value.int .i64 x20) ∧ InR .i64 x20 := hphi428 11 32 _ rfl rfl rfl
                exact OpY.val (Value.pointer (some (elA v_list (x20).toNat))) wd425 (wanted_run rfl rfl e430 hc137) (op_idx sl_65 (Ty.lift _ (Ext.trans hE7 hS429.ext) r_list) e431 e432 ha77 hb78) (Ext.refl _) rfl
              · intro f434 wd435 he436 hout437 hphi438
                have hS439 : St wd2 wd435 [] := St.extend hS48 he436
                have e440 : f434 30 = (Value.bool (((x76).length : Int) != ((r_Table).length : Int))) := hphi438 9 30 _ rfl rfl rfl
                have e441 : f434 33 = (Value.pointer (some (elA v_list (x20).toNat))) := hphi438 12 33 _ rfl rfl rfl
                exact OpY.val u442 wd435 (wanted_run rfl rfl e440 hc137) (op_load one_25 e441 (Ext.cell (Ext.trans hE7 hS439.ext) hc443)) (Ext.refl _) rfl
              · intro f445 wd446 he447 hout448 hphi449
                have hS450 : St wd2 wd446 [] := St.extend hS48 he447
                have e451 : f445 30 = (Value.bool (((x76).length : Int) != ((r_Table).length : Int))) := hphi449 9 30 _ rfl rfl rfl
                have e452 : f445 34 = u442 := hphi449 13 34 _ rfl rfl rfl
                refine OpY.call (wanted_run rfl rfl e451 hc137) (op_call fn_68 (args1 e452)) (Ret.mono (c_spec_l01Numbers (Ty.lift _ (Ext.trans hE7 hS450.ext) hr444) hx454) ?_)
                rintro _ wd455 ⟨rfl, he456⟩
                exact ⟨he456, rfl⟩
              · intro f458 wd459 he460 hout461 hphi462
                have hS463 : St wd2 wd459 [] := St.extend hS48 he460
                have e464 : f458 30 = (Value.bool (((x76).length : Int) != ((r_Table).length : Int))) := hphi462 9 30 _ rfl rfl rfl
                have e465 : f458 35 = (Value.bool x453) := hphi462 14 35 _ rfl rfl rfl
                exact OpY.val (Value.bool (!x453)) wd459 (wanted_run rfl rfl e464 hc137) (op_not e465) (Ext.refl _) rfl
              · intro f466 wd467 he468 hout469 hphi470
                have hS471 : St wd2 wd467 [] := St.extend hS48 he468
                have e472 : f466 30 = (Value.bool (((x76).length : Int) != ((r_Table).length : Int))) := hphi470 9 30 _ rfl rfl rfl
                have e473 : f466 36 = (Value.bool (!x453)) := hphi470 15 36 _ rfl rfl rfl
                exact OpY.val (Value.bool (!x453)) wd467 rfl (op_pick_f (evb_of e472 hc137) e473) (Ext.refl _) rfl
              · intro f474 wd475 he476 hout477 hphi478
                have hS479 : St wd2 wd475 [] := St.extend hS48 he476
                have e480 : f474 37 = (Value.bool (!x453)) := hphi478 16 37 _ rfl rfl rfl
                exact OpY.val (Value.bool (!x453)) wd475 rfl (op_move e480) (Ext.refl _) rfl
              · intro f482 wd483 he484 hout485 hphi486
                have e487 : f482 38 = (Value.bool (!x453)) := hphi486 17 38 _ rfl rfl rfl
                exact OpY.skip (wanted_skip rfl rfl e487 hc481) rfl
              · intro f488 wd489 he490 hout491 hphi492
                have e493 : f488 38 = (Value.bool (!x453)) := hphi492 17 38 _ rfl rfl rfl
                exact OpY.skip (wanted_skip rfl rfl e493 hc481) rfl
              · intro f494 wd495 he496 hout497 hphi498
                have e499 : f494 40 = undef := hphi498 19 40 _ rfl rfl rfl
                exact OpY.skip (wanted_skipu rfl rfl e499) rfl
              · intro f500 wd501 he502 hout503 hphi504
                have e505 : f500 40 = undef := hphi504 19 40 _ rfl rfl rfl
                exact OpY.skip (wanted_skipu rfl rfl e505) rfl
              · intro f506 wd507 he508 hout509 hphi510
                have e511 : f506 40 = undef := hphi510 19 40 _ rfl rfl rfl
                exact OpY.skip (wanted_skipu rfl rfl e511) rfl
              · intro f512 wd513 he514 hout515 hphi516
                have e517 : f512 40 = undef := hphi516 19 40 _ rfl rfl rfl
                exact OpY.skip (wanted_skipu rfl rfl e517) rfl
              · intro f518 wd519 he520 hout521 hphi522
                have e523 : f518 40 = undef := hphi522 19 40 _ rfl rfl rfl
                exact OpY.skip (wanted_skipu rfl rfl e523) rfl
              · intro f524 wd525 he526 hout527 hphi528
                show WL _ _ _ _ _ _ _
                have hS529 : St wd2 wd525 [] := St.extend hS48 he526
                have e530 : f524 31 = v_list := hphi528 10 31 _ (by decide) rfl rfl
                obtain ⟨e531, hr532⟩ : f524 32 = (Value.int .i64 x20) ∧ InR .i64 x20 := hphi528 11 32 _ (by decide) rfl rfl
                have e533 : f524 33 = (Value.pointer (some (elA v_list (x20).toNat))) := hphi528 12 33 _ (by decide) rfl rfl
                have e534 : f524 34 = u442 := hphi528 13 34 _ (by decide) rfl rfl
                have e535 : f524 35 = (Value.bool x453) := hphi528 14 35 _ (by decide) rfl rfl
                have e536 : f524 36 = (Value.bool (!x453)) := hphi528 15 36 _ (by decide) rfl rfl
                have e537 : f524 38 = (Value.bool (!x453)) := hphi528 17 38 _ (by decide) rfl rfl
                have e538 : f524 39 = undef := hphi528 18 39 _ (by decide) rfl rfl
                have e539 : f524 40 = undef := hphi528 19 40 _ (by decide) rfl rfl
                have e540 : f524 41 = undef := hphi528 20 41 _ (by decide) rfl rfl
                have e541 : f524 42 = undef := hphi528 21 42 _ (by decide) rfl rfl
                have e542 : f524 43 = undef := hphi528 22 43 _ (by decide) rfl rfl
                have e543 : f524 44 = undef := hphi528 23 44 _ (by decide) rfl rfl
                have e544 : f524 45 = undef := hphi528 24 45 _ (by decide) rfl rfl
                have e545 : f524 1 = (Value.bool good) := (hout527 1 rfl).trans hf42
                have e546 : f524 2 = v_list := (hout527 2 rfl).trans hf43
                have e547 : f524 3 = (Value.pointer (some ⟨b1, 0, none⟩)) := (hout527 3 rfl).trans hf44
                have e548 : f524 7 = (Value.int .i64 x19) := (hout527 7 rfl).trans hf45
                have e549 : f524 8 = (Value.int .i64 x20) := (hout527 8 rfl).trans hf46
                refine WL.gskipu rfl e539 rfl ?_
                refine WL.gskipu rfl e539 rfl ?_
                refine WL.gskip rfl (bool_of e537 hc481) rfl ?_
                refine WL.val (Value.bool true) _ (op_pick_t (evb_of e537 hc481) rfl) rfl ?_
                refine WL.nil ?_
                obtain rfl := Option.some.inj hj52
                exact ⟨e545, e546, e547, e548, e549, rfl, hS529⟩
            · replace hj52 := inegb hj52 hc481
              rcases Bool.eq_false_or_eq_true good with hc566 | hc566
              · replace hj52 := ip hj52 hc566
                obtain ⟨u609, hc610, hr611⟩ := repSl.el r_list hx79
                refine W.draw mixo 25 [fun v _ => v = v_list, fun v _ => v = (Value.int .i64 x20) ∧ InR .i64 x20, fun v _ => v = (Value.pointer (some (elA v_list (x20).toNat))), fun v _ => v = u87, fun v _ => v = (Value.int .i64 ((x76).length : Int)) ∧ InR .i64 ((x76).length : Int), fun v _ => v = (Value.pointer (some ⟨b1, 0, none⟩)), fun v _ => v = v_r_Table, fun v _ => v = (Value.int .i64 ((r_Table).length : Int)) ∧ InR .i64 ((r_Table).length : Int), fun v _ => v = (Value.bool (((x76).length : Int) != ((r_Table).length : Int))), fun v _ => v = (Value.bool (((x76).length : Int) != ((r_Table).length : Int))), fun v _ => v = v_list, fun v _ => v = (Value.int .i64 x20) ∧ InR .i64 x20, fun v _ => v = (Value.pointer (some (elA v_list (x20).toNat))), fun v _ => v = u442, fun v _ => v = (Value.bool x453), fun v _ => v = (Value.bool (!x453)), fun v _ => v = (Value.bool (!x453)), fun v _ => v = (Value.bool (!x453)), fun v _ => v = (Value.bool good), fun v _ => v = (Value.bool good), fun v w' => ∃ (uu0 : Value), v = (Value.agg #[uu0]) ∧ (Ty.sl (Ty.sl (Ty.sl (Ty.i .i64)))).rep w' uu0 r_Table, fun v _ => v = v_list, fun v _ => v = (Value.int .i64 x20) ∧ InR .i64 x20, fun v _ => v = (Value.pointer (some (elA v_list (x20).toNat))), fun v _ => v = u609] (by kernel_rfl) (by kernel_rfl) (stabL ⟨(fun _ _ _ _ h => h), (fun _ _ _ _ h => h), (fun _ _ _ _ h => h), (fun _ _ _ _ h => h), (fun _ _ _ _ h => h), (fun _ _ _ _ h => h), (fun _ _ _ _ h => h), (fun _ _ _ _ h => h), (fun _ _ _ _ h => h), (fun _ _ _ _ h => h), (fun _ _ _ _ h => h), (fun _ _ _ _ h => h), (fun _ _ _ _ h => h), (fun _ _ _ _ h => h), (fun _ _ _ _ h => h), (fun _ _ _ _ h => h), (fun _ _ _ _ h => h), (fun _ _ _ _ h => h), (fun _ _ _ _ h => h), (fun _ _ _ _ h => h), (fun _ _ _ he ⟨uu0, h0, r0⟩ => ⟨uu0, h0, Ty.lift _ he r0⟩), (fun _ _ _ _ h => h), (fun _ _ _ _ h => h), (fun _ _ _ _ h => h), (fun _ _ _ _ h => h), trivial⟩) ⟨?_, ?_, ?_, ?_, ?_, ?_, ?_, ?_, ?_, ?_, ?_, ?_, ?_, ?_, ?_, ?_, ?_, ?_, ?_, ?_, ?_, ?_, ?_, ?_, ?_, trivial⟩ ?_
                · intro f53 wd54 he55 hout56 hphi57
                  have hS58 : St wd2 wd54 [] := St.extend hS48 he55
                  have e59 : f53 2 = v_list := (hout56 2 rfl).trans hf43
                  exact OpY.val v_list wd54 rfl (op_move e59) (Ext.refl _) rfl
                · intro f60 wd61 he62 hout63 hphi64
                  have hS65 : St wd2 wd61 [] := St.extend hS48 he62
                  have e66 : f60 8 = (Value.int .i64 x20) := (hout63 8 rfl).trans hf46
                  exact OpY.val (Value.int .i64 x20) wd61 rfl (op_move e66) (Ext.refl _) ⟨rfl, hr35⟩
                · intro f67 wd68 he69 hout70 hphi71
                  have hS72 : St wd2 wd68 [] := St.extend hS48 he69
                  have e73 : f67 21 = v_list := hphi71 0 21 _ rfl rfl rfl
                  obtain ⟨e74, hr75⟩ : f67 22 = (Value.int .i64 x20) ∧ InR .i64 x20 := hphi71 1 22 _ rfl rfl rfl
                  exact OpY.val (Value.pointer (some (elA v_list (x20).toNat))) wd68 rfl (op_idx sl_65 (Ty.lift _ (Ext.trans hE7 hS72.ext) r_list) e73 e74 ha77 hb78) (Ext.refl _) rfl
                · intro f80 wd81 he82 hout83 hphi84
                  have hS85 : St wd2 wd81 [] := St.extend hS48 he82
                  have e86 : f80 23 = (Value.pointer (some (elA v_list (x20).toNat))) := hphi84 2 23 _ rfl rfl rfl
                  exact OpY.val u87 wd81 rfl (op_load one_25 e86 (Ext.cell (Ext.trans hE7 hS85.ext) hc88)) (Ext.refl _) rfl
                · intro f90 wd91 he92 hout93 hphi94
                  have hS95 : St wd2 wd91 [] := St.extend hS48 he92
                  have e96 : f90 24 = u87 := hphi94 3 24 _ rfl rfl rfl
                  have hr97 := inR_len (Ty.lift _ (Ext.trans hE7 hS95.ext) hr89)
                  exact OpY.val (Value.int .i64 ((x76).length : Int)) wd91 rfl (op_lenL sl_25 (Ty.lift _ (Ext.trans hE7 hS95.ext) hr89) e96) (Ext.refl _) ⟨rfl, hr97⟩
                · intro f98 wd99 he100 hout101 hphi102
                  have hS103 : St wd2 wd99 [] := St.extend hS48 he100
                  have e104 : f98 3 = (Value.pointer (some ⟨b1, 0, none⟩)) := (hout101 3 rfl).trans hf44
                  exact OpY.val (Value.pointer (some ⟨b1, 0, none⟩)) wd99 rfl (op_fieldAddr fd_29_0 e104) (Ext.refl _) rfl
                · intro f105 wd106 he107 hout108 hphi109
                  have hS110 : St wd2 wd106 [] := St.extend hS48 he107
                  have e111 : f105 26 = (Value.pointer (some ⟨b1, 0, none⟩)) := hphi109 5 26 _ rfl rfl rfl
                  exact OpY.val v_r_Table wd106 rfl (op_load one_22 e111 (BoxAt.cell (BoxAt.lift hS110.ext hx6) rfl)) (Ext.refl _) rfl
                · intro f112 wd113 he114 hout115 hphi116
                  have hS117 : St wd2 wd113 [] := St.extend hS48 he114
                  have e118 : f112 27 = v_r_Table := hphi116 6 27 _ rfl rfl rfl
                  have hr119 := inR_len (Ty.lift _ (Ext.trans hE7 hS117.ext) r_r_Table)
                  exact OpY.val (Value.int .i64 ((r_Table).length : Int)) wd113 rfl (op_lenL sl_22 (Ty.lift _ (Ext.trans hE7 hS117.ext) r_r_Table) e118) (Ext.refl _) ⟨rfl, hr119⟩
                · intro f120 wd121 he122 hout123 hphi124
                  have hS125 : St wd2 wd121 [] := St.extend hS48 he122
                  obtain ⟨e126, hr127⟩ : f120 25 = (Value.int .i64 ((x76).length : Int)) ∧ InR .i64 ((x76).length : Int) := hphi124 4 25 _ rfl rfl rfl
                  obtain ⟨e128, hr129⟩ : f120 28 = (Value.int .i64 ((r_Table).length : Int)) ∧ InR .i64 ((r_Table).length : Int) := hphi124 7 28 _ rfl rfl rfl
                  exact OpY.val (Value.bool (((x76).length : Int) != ((r_Table).length : Int))) wd121 rfl (op_neq e126 e128) (Ext.refl _) rfl
                · intro f130 wd131 he132 hout133 hphi134
                  have hS135 : St wd2 wd131 [] := St.extend hS48 he132
                  have e136 : f130 29 = (Value.bool (((x76).length : Int) != ((r_Table).length : Int))) := hphi134 8 29 _ rfl rfl rfl
                  exact OpY.val (Value.bool (((x76).length : Int) != ((r_Table).length : Int))) wd131 rfl (op_move e136) (Ext.refl _) rfl
                · intro f408 wd409 he410 hout411 hphi412
                  have hS413 : St wd2 wd409 [] := St.extend hS48 he410
                  have e414 : f408 2 = v_list := (hout411 2 rfl).trans hf43
                  have e415 : f408 30 = (Value.bool (((x76).length : Int) != ((r_Table).length : Int))) := hphi412 9 30 _ rfl rfl rfl
                  exact OpY.val v_list wd409 (wanted_run rfl rfl e415 hc137) (op_move e414) (Ext.refl _) rfl
                · intro f416 wd417 he418 hout419 hphi420
                  have hS421 : St wd2 wd417 [] := St.extend hS48 he418
                  have e422 : f416 8 = (Value.int .i64 x20) := (hout419 8 rfl).trans hf46
                  have e423 : f416 30 = (Value.bool (((x76).length : Int) != ((r_Table).length : Int))) := hphi420 9 30 _ rfl rfl rfl
                  exact OpY.val (Value.int .i64 x20) wd417 (wanted_run rfl rfl e423 hc137) (op_move e422) (Ext.refl _) ⟨rfl, hr35⟩
                · intro f424 wd425 he426 hout427 hphi428
                  have hS429 : St wd2 wd425 [] := St.extend hS48 he426
                  have e430 : f424 30 = (Value.bool (((x76).length : Int) != ((r_Table).length : Int))) := hphi428 9 30 _ rfl rfl rfl
                  have e431 : f424 31 = v_list := hphi428 10 31 _ rfl rfl rfl
                  obtain ⟨e432, hr433⟩ : f424 32 = (Value.int .i64 x20) ∧ InR .i64 x20 := hphi428 11 32 _ rfl rfl rfl
                  exact OpY.val (Value.pointer (some (elA v_list (x20).toNat))) wd425 (wanted_run rfl rfl e430 hc137) (op_idx sl_65 (Ty.lift _ (Ext.trans hE7 hS429.ext) r_list) e431 e432 ha77 hb78) (Ext.refl _) rfl
                · intro f434 wd435 he436 hout437 hphi438
                  have hS439 : St wd2 wd435 [] := St.extend hS48 he436
                  have e440 : f434 30 = (Value.bool (((x76).length : Int) != ((r_Table).length : Int))) := hphi438 9 30 _ rfl rfl rfl
                  have e441 : f434 33 = (Value.pointer (some (elA v_list (x20).toNat))) := hphi438 12 33 _ rfl rfl rfl
                  exact OpY.val u442 wd435 (wanted_run rfl rfl e440 hc137) (op_load one_25 e441 (Ext.cell (Ext.trans hE7 hS439.ext) hc443)) (Ext.refl _) rfl
                · intro f445 wd446 he447 hout448 hphi449
                  have hS450 : St wd2 wd446 [] := St.extend hS48 he447
                  have e451 : f445 30 = (Value.bool (((x76).length : Int) != ((r_Table).length : Int))) := hphi449 9 30 _ rfl rfl rfl
                  have e452 : f445 34 = u442 := hphi449 13 34 _ rfl rfl rfl
                  refine OpY.call (wanted_run rfl rfl e451 hc137) (op_call fn_68 (args1 e452)) (Ret.mono (c_spec_l01Numbers (Ty.lift _ (Ext.trans hE7 hS450.ext) hr444) hx454) ?_)
                  rintro _ wd455 ⟨rfl, he456⟩
                  exact ⟨he456, rfl⟩
                · intro f458 wd459 he460 hout461 hphi462
                  have hS463 : St wd2 wd459 [] := St.extend hS48 he460
                  have e464 : f458 30 = (Value.bool (((x76).length : Int) != ((r_Table).length : Int))) := hphi462 9 30 _ rfl rfl rfl
                  have e465 : f458 35 = (Value.bool x453) := hphi462 14 35 _ rfl rfl rfl
                  exact OpY.val (Value.bool (!x453)) wd459 (wanted_run rfl rfl e464 hc137) (op_not e465) (Ext.refl _) rfl
                · intro f466 wd467 he468 hout469 hphi470
                  have hS471 : St wd2 wd467 [] := St.extend hS48 he468
                  have e472 : f466 30 = (Value.bool (((x76).length : Int) != ((r_Table).length : Int))) := hphi470 9 30 _ rfl rfl rfl
                  have e473 : f466 36 = (Value.bool (!x453)) := hphi470 15 36 _ rfl rfl rfl
                  exact OpY.val (Value.bool (!x453)) wd467 rfl (op_pick_f (evb_of e472 hc137) e473) (Ext.refl _) rfl
                · intro f474 wd475 he476 hout477 hphi478
                  have hS479 : St wd2 wd475 [] := St.extend hS48 he476
                  have e480 : f474 37 = (Value.bool (!x453)) := hphi478 16 37 _ rfl rfl rfl
                  exact OpY.val (Value.bool (!x453)) wd475 rfl (op_move e480) (Ext.refl _) rfl
                · intro f550 wd551 he552 hout553 hphi554
                  have hS555 : St wd2 wd551 [] := St.extend hS48 he552
                  have e556 : f550 1 = (Value.bool good) := (hout553 1 rfl).trans hf42
                  have e557 : f550 38 = (Value.bool (!x453)) := hphi554 17 38 _ rfl rfl rfl
                  exact OpY.val (Value.bool good) wd551 (wanted_run rfl rfl e557 hc481) (op_move e556) (Ext.refl _) rfl
                · intro f558 wd559 he560 hout561 hphi562
                  have hS563 : St wd2 wd559 [] := St.extend hS48 he560
                  have e564 : f558 38 = (Value.bool (!x453)) := hphi562 17 38 _ rfl rfl rfl
                  have e565 : f558 39 = (Value.bool good) := hphi562 18 39 _ rfl rfl rfl
                  exact OpY.val (Value.bool good) wd559 (wanted_run rfl rfl e564 hc481) (op_move e565) (Ext.refl _) rfl
                · intro f567 wd568 he569 hout570 hphi571
                  have hS572 : St wd2 wd568 [] := St.extend hS48 he569
                  have e573 : f567 3 = (Value.pointer (some ⟨b1, 0, none⟩)) := (hout570 3 rfl).trans hf44
                  have e574 : f567 40 = (Value.bool good) := hphi571 19 40 _ rfl rfl rfl
                  exact OpY.val (Value.agg #[v_r_Table]) wd568 (wanted_run rfl rfl e574 hc566) (op_loadBox st_29 e573 (BoxAt.lift hS572.ext hx6) rfl rfl) (Ext.refl _) ⟨v_r_Table, rfl, (Ty.lift _ (Ext.trans hE7 hS572.ext) r_r_Table)⟩
                · intro f575 wd576 he577 hout578 hphi579
                  have hS580 : St wd2 wd576 [] := St.extend hS48 he577
                  have e581 : f575 2 = v_list := (hout578 2 rfl).trans hf43
                  have e582 : f575 40 = (Value.bool good) := hphi579 19 40 _ rfl rfl rfl
                  exact OpY.val v_list wd576 (wanted_run rfl rfl e582 hc566) (op_move e581) (Ext.refl _) rfl
                · intro f583 wd584 he585 hout586 hphi587
                  have hS588 : St wd2 wd584 [] := St.extend hS48 he585
                  have e589 : f583 8 = (Value.int .i64 x20) := (hout586 8 rfl).trans hf46
                  have e590 : f583 40 = (Value.bool good) := hphi587 19 40 _ rfl rfl rfl
                  exact OpY.val (Value.int .i64 x20) wd584 (wanted_run rfl rfl e590 hc566) (op_move e589) (Ext.refl _) ⟨rfl, hr35⟩
                · intro f591 wd592 he593 hout594 hphi595
                  have hS596 : St wd2 wd592 [] := St.extend hS48 he593
                  have e597 : f591 40 = (Value.bool good) := hphi595 19 40 _ rfl rfl rfl
                  have e598 : f591 42 = v_list := hphi595 21 42 _ rfl rfl rfl
                  obtain ⟨e599, hr600⟩ : f591 43 = (Value.int .i64 x20) ∧ InR .i64 x20 := hphi595 22 43 _ rfl rfl rfl
                  exact OpY.val (Value.pointer (some (elA v_list (x20).toNat))) wd592 (wanted_run rfl rfl e597 hc566) (op_idx sl_65 (Ty.lift _ (Ext.trans hE7 hS596.ext) r_list) e598 e599 ha77 hb78) (Ext.refl _) rfl
                · intro f601 wd602 he603 hout604 hphi605
                  have hS606 : St wd2 wd602 [] := St.extend hS48 he603
                  have e607 : f601 40 = (Value.bool good) := hphi605 19 40 _ rfl rfl rfl
                  have e608 : f601 44 = (Value.pointer (some (elA v_list (x20).toNat))) := hphi605 23 44 _ rfl rfl rfl
                  exact OpY.val u609 wd602 (wanted_run rfl rfl e607 hc566) (op_load one_25 e608 (Ext.cell (Ext.trans hE7 hS606.ext) hc610)) (Ext.refl _) rfl
                · intro f612 wd613 he614 hout615 hphi616
                  show WL _ _ _ _ _ _ _
                  have hS617 : St wd2 wd613 [] := St.extend hS48 he614
                  have e618 : f612 31 = v_list := hphi616 10 31 _ (by decide) rfl rfl
                  obtain ⟨e619, hr620⟩ : f612 32 = (Value.int .i64 x20) ∧ InR .i64 x20 := hphi616 11 32 _ (by decide) rfl rfl
                  have e621 : f612 33 = (Value.pointer (some (elA v_list (x20).toNat))) := hphi616 12 33 _ (by decide) rfl rfl
                  have e622 : f612 34 = u442 := hphi616 13 34 _ (by decide) rfl rfl
                  have e623 : f612 35 = (Value.bool x453) := hphi616 14 35 _ (by decide) rfl rfl
                  have e624 : f612 36 = (Value.bool (!x453)) := hphi616 15 36 _ (by decide) rfl rfl
                  have e625 : f612 38 = (Value.bool (!x453)) := hphi616 17 38 _ (by decide) rfl rfl
                  have e626 : f612 39 = (Value.bool good) := hphi616 18 39 _ (by decide) rfl rfl
                  have e627 : f612 40 = (Value.bool good) := hphi616 19 40 _ (by decide) rfl rfl
                  obtain ⟨u629, e628, hr630⟩ := hphi616 20 41 _ (by decide) rfl rfl
                  have e631 : f612 42 = v_list := hphi616 21 42 _ (by decide) rfl rfl
                  obtain ⟨e632, hr633⟩ : f612 43 = (Value.int .i64 x20) ∧ InR .i64 x20 := hphi616 22 43 _ (by decide) rfl rfl
                  have e634 : f612 44 = (Value.pointer (some (elA v_list (x20).toNat))) := hphi616 23 44 _ (by decide) rfl rfl
                  have e635 : f612 45 = u609 := hphi616 24 45 _ (by decide) rfl rfl
                  have e636 : f612 1 = (Value.bool good) := (hout615 1 rfl).trans hf42
                  have e637 : f612 2 = v_list := (hout615 2 rfl).trans hf43
                  have e638 : f612 3 = (Value.pointer (some ⟨b1, 0, none⟩)) := (hout615 3 rfl).trans hf44
                  have e639 : f612 7 = (Value.int .i64 x19) := (hout615 7 rfl).trans hf45
                  have e640 : f612 8 = (Value.int .i64 x20) := (hout615 8 rfl).trans hf46
                  refine WL.grun rfl (bool_of e627 hc566) ?_
                  obtain ⟨x641, hx642, hj52⟩ := bs hj52
                  refine WL.call _ (op_call fn_36 (args2 e628 e635)) (c_spec_l08Is hr630 (Ty.lift _ (Ext.trans hE7 hS617.ext) hr611) hx642) rfl ?_
                  rintro _ wd643 ⟨rfl, he644⟩
                  have hS646 := St.extend hS617 he644
                  replace hS646 : St wd2 wd643 [] := hS646
                  refine WL.grun rfl (bool_of e627 hc566) ?_
                  refine WL.val (Value.bool (!x641)) _ (op_not rfl) rfl ?_
                  refine WL.grun rfl (bool_of e625 hc481) ?_
                  refine WL.val (Value.bool (!x641)) _ (op_pick_t (evb_of e627 hc566) rfl) rfl ?_
                  refine WL.val (Value.bool (!x641)) _ (op_pick_f (evb_of e625 hc481) rfl) rfl ?_
                  refine WL.nil ?_
                  obtain rfl := Option.some.inj hj52
                  exact ⟨e636, e637, e638, e639, e640, rfl, hS646⟩
              · replace hj52 := inegb hj52 hc566
                refine W.draw mixo 25 [fun v _ => v = v_list, fun v _ => v = (Value.int .i64 x20) ∧ InR .i64 x20, fun v _ => v = (Value.pointer (some (elA v_list (x20).toNat))), fun v _ => v = u87, fun v _ => v = (Value.int .i64 ((x76).length : Int)) ∧ InR .i64 ((x76).length : Int), fun v _ => v = (Value.pointer (some ⟨b1, 0, none⟩)), fun v _ => v = v_r_Table, fun v _ => v = (Value.int .i64 ((r_Table).length : Int)) ∧ InR .i64 ((r_Table).length : Int), fun v _ => v = (Value.bool (((x76).length : Int) != ((r_Table).length : Int))), fun v _ => v = (Value.bool (((x76).length : Int) != ((r_Table).length : Int))), fun v _ => v = v_list, fun v _ => v = (Value.int .i64 x20) ∧ InR .i64 x20, fun v _ => v = (Value.pointer (some (elA v_list (x20).toNat))), fun v _ => v = u442, fun v _ => v = (Value.bool x453), fun v _ => v = (Value.bool (!x453)), fun v _ => v = (Value.bool (!x453)), fun v _ => v = (Value.bool (!x453)), fun v _ => v = (Value.bool good), fun v _ => v = (Value.bool good), fun v _ => v = undef, fun v _ => v = undef, fun v _ => v = undef, fun v _ => v = undef, fun v _ => v = undef] (by kernel_rfl) (by kernel_rfl) (stabL ⟨(fun _ _ _ _ h => h), (fun _ _ _ _ h => h), (fun _ _ _ _ h => h), (fun _ _ _ _ h => h), (fun _ _ _ _ h => h), (fun _ _ _ _ h => h), (fun _ _ _ _ h => h), (fun _ _ _ _ h => h), (fun _ _ _ _ h => h), (fun _ _ _ _ h => h), (fun _ _ _ _ h => h), (fun _ _ _ _ h => h), (fun _ _ _ _ h => h), (fun _ _ _ _ h => h), (fun _ _ _ _ h => h), (fun _ _ _ _ h => h), (fun _ _ _ _ h => h), (fun _ _ _ _ h => h), (fun _ _ _ _ h => h), (fun _ _ _ _ h => h), (fun _ _ _ _ h => h), (fun _ _ _ _ h => h), (fun _ _ _ _ h => h), (fun _ _ _ _ h => h), (fun _ _ _ _ h => h), trivial⟩) ⟨?_, ?_, ?_, ?_, ?_, ?_, ?_, ?_, ?_, ?_, ?_, ?_, ?_, ?_, ?_, ?_, ?_, ?_, ?_, ?_, ?_, ?_, ?_, ?_, ?_, trivial⟩ ?_
                · intro f53 wd54 he55 hout56 hphi57
                  have hS58 : St wd2 wd54 [] := St.extend hS48 he55
                  have e59 : f53 2 = v_list := (hout56 2 rfl).trans hf43
                  exact OpY.val v_list wd54 rfl (op_move e59) (Ext.refl _) rfl
                · intro f60 wd61 he62 hout63 hphi64
                  have hS65 : St wd2 wd61 [] := St.extend hS48 he62
                  have e66 : f60 8 = (Value.int .i64 x20) := (hout63 8 rfl).trans hf46
                  exact OpY.val (Value.int .i64 x20) wd61 rfl (op_move e66) (Ext.refl _) ⟨rfl, hr35⟩
                · intro f67 wd68 he69 hout70 hphi71
                  have hS72 : St wd2 wd68 [] := St.extend hS48 he69
                  have e73 : f67 21 = v_list := hphi71 0 21 _ rfl rfl rfl
                  obtain ⟨e74, hr75⟩ : f67 22 = (Value.int .i64 x20) ∧ InR .i64 x20 := hphi71 1 22 _ rfl rfl rfl
                  exact OpY.val (Value.pointer (some (elA v_list (x20).toNat))) wd68 rfl (op_idx sl_65 (Ty.lift _ (Ext.trans hE7 hS72.ext) r_list) e73 e74 ha77 hb78) (Ext.refl _) rfl
                · intro f80 wd81 he82 hout83 hphi84
                  have hS85 : St wd2 wd81 [] := St.extend hS48 he82
                  have e86 : f80 23 = (Value.pointer (some (elA v_list (x20).toNat))) := hphi84 2 23 _ rfl rfl rfl
                  exact OpY.val u87 wd81 rfl (op_load one_25 e86 (Ext.cell (Ext.trans hE7 hS85.ext) hc88)) (Ext.refl _) rfl
                · intro f90 wd91 he92 hout93 hphi94
                  have hS95 : St wd2 wd91 [] := St.extend hS48 he92
                  have e96 : f90 24 = u87 := hphi94 3 24 _ rfl rfl rfl
                  have hr97 := inR_len (Ty.lift _ (Ext.trans hE7 hS95.ext) hr89)
                  exact OpY.val (Value.int .i64 ((x76).length : Int)) wd91 rfl (op_lenL sl_25 (Ty.lift _ (Ext.trans hE7 hS95.ext) hr89) e96) (Ext.refl _) ⟨rfl, hr97⟩
                · intro f98 wd99 he100 hout101 hphi102
                  have hS103 : St wd2 wd99 [] := St.extend hS48 he100
                  have e104 : f98 3 = (Value.pointer (some ⟨b1, 0, none⟩)) := (hout101 3 rfl).trans hf44
                  exact OpY.val (Value.pointer (some ⟨b1, 0, none⟩)) wd99 rfl (op_fieldAddr fd_29_0 e104) (Ext.refl _) rfl
                · intro f105 wd106 he107 hout108 hphi109
                  have hS110 : St wd2 wd106 [] := St.extend hS48 he107
                  have e111 : f105 26 = (Value.pointer (some ⟨b1, 0, none⟩)) := hphi109 5 26 _ rfl rfl rfl
                  exact OpY.val v_r_Table wd106 rfl (op_load one_22 e111 (BoxAt.cell (BoxAt.lift hS110.ext hx6) rfl)) (Ext.refl _) rfl
                · intro f112 wd113 he114 hout115 hphi116
                  have hS117 : St wd2 wd113 [] := St.extend hS48 he114
                  have e118 : f112 27 = v_r_Table := hphi116 6 27 _ rfl rfl rfl
                  have hr119 := inR_len (Ty.lift _ (Ext.trans hE7 hS117.ext) r_r_Table)
                  exact OpY.val (Value.int .i64 ((r_Table).length : Int)) wd113 rfl (op_lenL sl_22 (Ty.lift _ (Ext.trans hE7 hS117.ext) r_r_Table) e118) (Ext.refl _) ⟨rfl, hr119⟩
                · intro f120 wd121 he122 hout123 hphi124
                  have hS125 : St wd2 wd121 [] := St.extend hS48 he122
                  obtain ⟨e126, hr127⟩ : f120 25 = (Value.int .i64 ((x76).length : Int)) ∧ InR .i64 ((x76).length : Int) := hphi124 4 25 _ rfl rfl rfl
                  obtain ⟨e128, hr129⟩ : f120 28 = (Value.int .i64 ((r_Table).length : Int)) ∧ InR .i64 ((r_Table).length : Int) := hphi124 7 28 _ rfl rfl rfl
                  exact OpY.val (Value.bool (((x76).length : Int) != ((r_Table).length : Int))) wd121 rfl (op_neq e126 e128) (Ext.refl _) rfl
                · intro f130 wd131 he132 hout133 hphi134
                  have hS135 : St wd2 wd131 [] := St.extend hS48 he132
                  have e136 : f130 29 = (Value.bool (((x76).length : Int) != ((r_Table).length : Int))) := hphi134 8 29 _ rfl rfl rfl
                  exact OpY.val (Value.bool (((x76).length : Int) != ((r_Table).length : Int))) wd131 rfl (op_move e136) (Ext.refl _) rfl
                · intro f408 wd409 he410 hout411 hphi412
                  have hS413 : St wd2 wd409 [] := St.extend hS48 he410
                  have e414 : f408 2 = v_list := (hout411 2 rfl).trans hf43
                  have e415 : f408 30 = (Value.bool (((x76).length : Int) != ((r_Table).length : Int))) := hphi412 9 30 _ rfl rfl rfl
                  exact OpY.val v_list wd409 (wanted_run rfl rfl e415 hc137) (op_move e414) (Ext.refl _) rfl
                · intro f416 wd417 he418 hout419 hphi420
                  have hS421 : St wd2 wd417 [] := St.extend hS48 he418
                  have e422 : f416 8 = (Value.int .i64 x20) := (hout419 8 rfl).trans hf46
                  have e423 : f416 30 = (Value.bool (((x76).length : Int) != ((r_Table).length : Int))) := hphi420 9 30 _ rfl rfl rfl
                  exact OpY.val (Value.int .i64 x20) wd417 (wanted_run rfl rfl e423 hc137) (op_move e422) (Ext.refl _) ⟨rfl, hr35⟩
                · intro f424 wd425 he426 hout427 hphi428
                  have hS429 : St wd2 wd425 [] := St.extend hS48 he426
                  have e430 : f424 30 = (Value.bool (((x76).length : Int) != ((r_Table).length : Int))) := hphi428 9 30 _ rfl rfl rfl
                  have e431 : f424 31 = v_list := hphi428 10 31 _ rfl rfl rfl
                  obtain ⟨e432, hr433⟩ : f424 32 = (Value.int .i64 x20) ∧ InR .i64 x20 := hphi428 11 32 _ rfl rfl rfl
                  exact OpY.val (Value.pointer (some (elA v_list (x20).toNat))) wd425 (wanted_run rfl rfl e430 hc137) (op_idx sl_65 (Ty.lift _ (Ext.trans hE7 hS429.ext) r_list) e431 e432 ha77 hb78) (Ext.refl _) rfl
                · intro f434 wd435 he436 hout437 hphi438
                  have hS439 : St wd2 wd435 [] := St.extend hS48 he436
                  have e440 : f434 30 = (Value.bool (((x76).length : Int) != ((r_Table).length : Int))) := hphi438 9 30 _ rfl rfl rfl
                  have e441 : f434 33 = (Value.pointer (some (elA v_list (x20).toNat))) := hphi438 12 33 _ rfl rfl rfl
                  exact OpY.val u442 wd435 (wanted_run rfl rfl e440 hc137) (op_load one_25 e441 (Ext.cell (Ext.trans hE7 hS439.ext) hc443)) (Ext.refl _) rfl
                · intro f445 wd446 he447 hout448 hphi449
                  have hS450 : St wd2 wd446 [] := St.extend hS48 he447
                  have e451 : f445 30 = (Value.bool (((x76).length : Int) != ((r_Table).length : Int))) := hphi449 9 30 _ rfl rfl rfl
                  have e452 : f445 34 = u442 := hphi449 13 34 _ rfl rfl rfl
                  refine OpY.call (wanted_run rfl rfl e451 hc137) (op_call fn_68 (args1 e452)) (Ret.mono (c_spec_l01Numbers (Ty.lift _ (Ext.trans hE7 hS450.ext) hr444) hx454) ?_)
                  rintro _ wd455 ⟨rfl, he456⟩
                  exact ⟨he456, rfl⟩
                · intro f458 wd459 he460 hout461 hphi462
                  have hS463 : St wd2 wd459 [] := St.extend hS48 he460
                  have e464 : f458 30 = (Value.bool (((x76).length : Int) != ((r_Table).length : Int))) := hphi462 9 30 _ rfl rfl rfl
                  have e465 : f458 35 = (Value.bool x453) := hphi462 14 35 _ rfl rfl rfl
                  exact OpY.val (Value.bool (!x453)) wd459 (wanted_run rfl rfl e464 hc137) (op_not e465) (Ext.refl _) rfl
                · intro f466 wd467 he468 hout469 hphi470
                  have hS471 : St wd2 wd467 [] := St.extend hS48 he468
                  have e472 : f466 30 = (Value.bool (((x76).length : Int) != ((r_Table).length : Int))) := hphi470 9 30 _ rfl rfl rfl
                  have e473 : f466 36 = (Value.bool (!x453)) := hphi470 15 36 _ rfl rfl rfl
                  exact OpY.val (Value.bool (!x453)) wd467 rfl (op_pick_f (evb_of e472 hc137) e473) (Ext.refl _) rfl
                · intro f474 wd475 he476 hout477 hphi478
                  have hS479 : St wd2 wd475 [] := St.extend hS48 he476
                  have e480 : f474 37 = (Value.bool (!x453)) := hphi478 16 37 _ rfl rfl rfl
                  exact OpY.val (Value.bool (!x453)) wd475 rfl (op_move e480) (Ext.refl _) rfl
                · intro f550 wd551 he552 hout553 hphi554
                  have hS555 : St wd2 wd551 [] := St.extend hS48 he552
                  have e556 : f550 1 = (Value.bool good) := (hout553 1 rfl).trans hf42
                  have e557 : f550 38 = (Value.bool (!x453)) := hphi554 17 38 _ rfl rfl rfl
                  exact OpY.val (Value.bool good) wd551 (wanted_run rfl rfl e557 hc481) (op_move e556) (Ext.refl _) rfl
                · intro f558 wd559 he560 hout561 hphi562
                  have hS563 : St wd2 wd559 [] := St.extend hS48 he560
                  have e564 : f558 38 = (Value.bool (!x453)) := hphi562 17 38 _ rfl rfl rfl
                  have e565 : f558 39 = (Value.bool good) := hphi562 18 39 _ rfl rfl rfl
                  exact OpY.val (Value.bool good) wd559 (wanted_run rfl rfl e564 hc481) (op_move e565) (Ext.refl _) rfl
                · intro f647 wd648 he649 hout650 hphi651
                  have e652 : f647 40 = (Value.bool good) := hphi651 19 40 _ rfl rfl rfl
                  exact OpY.skip (wanted_skip rfl rfl e652 hc566) rfl
                · intro f653 wd654 he655 hout656 hphi657
                  have e658 : f653 40 = (Value.bool good) := hphi657 19 40 _ rfl rfl rfl
                  exact OpY.skip (wanted_skip rfl rfl e658 hc566) rfl
                · intro f659 wd660 he661 hout662 hphi663
                  have e664 : f659 40 = (Value.bool good) := hphi663 19 40 _ rfl rfl rfl
                  exact OpY.skip (wanted_skip rfl rfl e664 hc566) rfl
                · intro f665 wd666 he667 hout668 hphi669
                  have e670 : f665 40 = (Value.bool good) := hphi669 19 40 _ rfl rfl rfl
                  exact OpY.skip (wanted_skip rfl rfl e670 hc566) rfl
                · intro f671 wd672 he673 hout674 hphi675
                  have e676 : f671 40 = (Value.bool good) := hphi675 19 40 _ rfl rfl rfl
                  exact OpY.skip (wanted_skip rfl rfl e676 hc566) rfl
                · intro f677 wd678 he679 hout680 hphi681
                  show WL _ _ _ _ _ _ _
                  have hS682 : St wd2 wd678 [] := St.extend hS48 he679
                  have e683 : f677 31 = v_list := hphi681 10 31 _ (by decide) rfl rfl
                  obtain ⟨e684, hr685⟩ : f677 32 = (Value.int .i64 x20) ∧ InR .i64 x20 := hphi681 11 32 _ (by decide) rfl rfl
                  have e686 : f677 33 = (Value.pointer (some (elA v_list (x20).toNat))) := hphi681 12 33 _ (by decide) rfl rfl
                  have e687 : f677 34 = u442 := hphi681 13 34 _ (by decide) rfl rfl
                  have e688 : f677 35 = (Value.bool x453) := hphi681 14 35 _ (by decide) rfl rfl
                  have e689 : f677 36 = (Value.bool (!x453)) := hphi681 15 36 _ (by decide) rfl rfl
                  have e690 : f677 38 = (Value.bool (!x453)) := hphi681 17 38 _ (by decide) rfl rfl
                  have e691 : f677 39 = (Value.bool good) := hphi681 18 39 _ (by decide) rfl rfl
                  have e692 : f677 40 = (Value.bool good) := hphi681 19 40 _ (by decide) rfl rfl
                  have e693 : f677 41 = undef := hphi681 20 41 _ (by decide) rfl rfl
                  have e694 : f677 42 = undef := hphi681 21 42 _ (by decide) rfl rfl
                  have e695 : f677 43 = undef := hphi681 22 43 _ (by decide) rfl rfl
                  have e696 : f677 44 = undef := hphi681 23 44 _ (by decide) rfl rfl
                  have e697 : f677 45 = undef := hphi681 24 45 _ (by decide) rfl rfl
                  have e698 : f677 1 = (Value.bool good) := (hout680 1 rfl).trans hf42
                  have e699 : f677 2 = v_list := (hout680 2 rfl).trans hf43
                  have e700 : f677 3 = (Value.pointer (some ⟨b1, 0, none⟩)) := (hout680 3 rfl).trans hf44
                  have e701 : f677 7 = (Value.int .i64 x19) := (hout680 7 rfl).trans hf45
                  have e702 : f677 8 = (Value.int .i64 x20) := (hout680 8 rfl).trans hf46
                  refine WL.gskip rfl (bool_of e692 hc566) rfl ?_
                  refine WL.gskip rfl (bool_of e692 hc566) rfl ?_
                  refine WL.grun rfl (bool_of e690 hc481) ?_
                  refine WL.val (Value.bool false) _ (op_pick_f (evb_of e692 hc566) rfl) rfl ?_
                  refine WL.val (Value.bool false) _ (op_pick_f (evb_of e690 hc481) rfl) rfl ?_
                  refine WL.nil ?_
                  obtain rfl := Option.some.inj hj52
                  exact ⟨e698, e699, e700, e701, e702, rfl, hS682⟩
        · intro f703 wd704 hq705
          obtain ⟨hf706, hf707, hf708, hf709, hf710, hf711, hS712⟩ := hq705
          show W _ _ _ _ _ _
          obtain ⟨x713, hj714, hb25⟩ := bs hb25
          refine W.cutCode (fun fq wq => fq 1 = (Value.bool good) ∧ fq 2 = v_list ∧ fq 3 = (Value.pointer (some ⟨b1, 0, none⟩)) ∧ fq 7 = Value.int .i64 x713 ∧ InR .i64 x713 ∧ fq 8 = (Value.int .i64 x20) ∧ St wd2 wq []) ?_ ?_
          · refine W.cond x51 hf711 (fun hc715 => ?_) (fun hc715 => ?_)
            · replace hj714 := ip hj714 hc715
              refine W.region ?_
              refine WL.val (Value.int .i64 (2 : Int)) _ (op_assign rfl) rfl ?_
              refine WL.nil ?_
              obtain rfl := Option.some.inj hj714
              exact ⟨hf706, hf707, hf708, rfl, (inR_i64.2 (show (-9223372036854775808 : Int) ≤ 2 ∧ (2 : Int) ≤ 9223372036854775807 from by decide)), hf710, hS712⟩
            · replace hj714 := inegb hj714 hc715
              refine W.skip ?_
              obtain rfl := Option.some.inj hj714
              exact ⟨hf706, hf707, hf708, hf709, hr33, hf710, hS712⟩
          · intro f716 wd717 hq718
            obtain ⟨hf719, hf720, hf721, hf722, hr723, hf724, hS725⟩ := hq718
            show W _ _ _ _ _ _
            refine W.region ?_
            refine WL.val (Value.int .i64 x20) _ (op_move hf724) rfl ?_
            refine WL.val (Value.int .i64 (w64 (x20 + (1 : Int)))) _ (op_add rfl rfl) rfl ?_
            refine WL.val (Value.int .i64 (w64 (x20 + (1 : Int)))) _ (op_assign rfl) rfl ?_
            refine WL.nil ?_
            obtain rfl := Option.some.inj hb25
            show ∃ s, _ = Ctl.next s ∧ _
            exact ⟨_, rfl, hf719, hf720, hf721, hf722, hr723, rfl, (inR_wrap _ _), hS725⟩
      · replace hb25 := inegb hb25 hc49
        refine W.exit ?_
        obtain rfl := Option.some.inj hb25
        show _ = _ ∧ _
        exact ⟨rfl, _, hbrk27 _ rfl, hf45, hr33, hS48⟩
  · rintro f727 wd728 ⟨s730, rfl, hq729⟩
    replace h := onRes_fin h
    obtain ⟨x731, x732⟩ := s730
    replace hq729 : f727 7 = Value.int .i64 x731 ∧ InR .i64 x731 ∧ St wd2 wd728 [] := hq729
    replace h : (_ : Option _) = _ := h
    dsimp only at h
    obtain ⟨hf733, hr734, hS735⟩ := hq729
    show W _ _ _ _ _ _
    refine W.seq ?_
    refine W.region ?_
    refine WL.val (Value.int .i64 x731) _ (op_move hf733) rfl ?_
    refine WL.val (Value.int .i64 x731) _ (op_assign rfl) rfl ?_
    refine WL.nil ?_
    show W _ _ _ _ _ _
    refine W.ret ?_
    obtain rfl := Option.some.inj h
    show FinP _ _ _ _ _ _ _
    exact FinP.ret _ (res1 rfl rfl) ⟨rfl, hr734, (Ext.trans hE7 hS735.ext)⟩

theorem c_spec_IsCharacter {w : World} {r_Table : (List (List (List Int)))} {v_r_Table : Value} {x : (List Int)} {v_x : Value} (r_r_Table : (Ty.sl (Ty.sl (Ty.sl (Ty.i .i64)))).rep w v_r_Table r_Table) (r_x : (Ty.sl (Ty.i .i64)).rep w v_x x) {res : Bool × Int} (h : p_spec_IsCharacter r_Table x  = some res) :
    Ret Try.prog 10 #[(Value.agg #[v_r_Table]), v_x] w (fun v w' => v = (Value.tuple #[Value.bool res.1, Value.int .i64 res.2]) ∧ InR .i64 res.2 ∧ Ext w w') := by
  unfold p_spec_IsCharacter at h
  have hS0 : St w w [] := St.start w
  refine Ret.start (fn := Try.f10) Try.func10 rfl 17 rfl rfl ?_
  refine W.seq ?_
  refine W.region ?_
  refine WL.box hS0 rfl (cs := [v_r_Table]) rfl rfl ?_
  intro b1 wd2 hS3 he4 hx5
  replace hS3 : St w wd2 [bx b1 [v_r_Table]] := hS3
  have hx6 := St.boxAt hS3 0 rfl
  have hE7 : Ext w wd2 := hS3.ext
  have hS8 : St wd2 wd2 [] := St.start wd2
  refine WL.val (Value.bool false) _ (op_assign rfl) rfl ?_
  refine WL.val (Value.int .i64 (0 : Int)) _ (op_assign rfl) rfl ?_
  refine WL.nil ?_
  show W _ _ _ _ _ _
  refine W.seq ?_
  refine W.region ?_
  refine WL.val (Value.agg #[v_r_Table]) _ (op_loadBox st_29 rfl (BoxAt.lift hS8.ext hx6) rfl rfl) rfl ?_
  refine WL.val v_x _ (op_move rfl) rfl ?_
  refine WL.lit [v_x] hS8 sl_65 rfl rfl (fillL rfl ⟨rfl, rfl, (cells_rep (Ty.lift _ (Ext.trans hE7 hS8.ext) r_x)), trivial⟩) rfl rfl ?_
  intro b13 wd10 hS11 he12 hx14
  replace hS11 : St wd2 wd10 [bx b13 [v_x]] := hS11
  obtain ⟨x15, hx16, h⟩ := bs h
  refine WL.call _ (op_call fn_35 (args3 rfl rfl rfl)) (c_spec_l08List (Ty.lift _ (Ext.trans hE7 hS11.ext) r_r_Table) (rep_lit (t := (Ty.sl (Ty.i .i64))) (us := [v_x]) (xs := ([x] : (List (List Int)))) (St.boxAt hS11 0 rfl) ⟨(Ty.lift _ (Ext.trans hE7 hS11.ext) r_x), trivial⟩ rfl) hx16) rfl ?_
  rintro _ wd18 ⟨rfl, hr17, he19⟩
  have hS21 := St.extend hS11 he19
  replace hS21 : St wd2 wd18 [bx b13 [v_x]] := hS21
  refine WL.val (Value.int .i64 x15) _ (op_assign rfl) rfl ?_
  refine WL.nil ?_
  show W _ _ _ _ _ _
  refine W.seq ?_
  refine W.seq ?_
  refine W.region ?_
  refine WL.val (Value.int .i64 x15) _ (op_move rfl) rfl ?_
  refine WL.val (Value.bool (x15 != (0 : Int))) _ (op_neq rfl rfl) rfl ?_
  refine WL.nil ?_
  show W _ _ _ _ _ _
  refine W.cond (x15 != (0 : Int)) rfl (fun hc22 => ?_) (fun hc22 => ?_)
  · replace h := ip h hc22
    refine W.seq ?_
    refine W.region ?_
    refine WL.val (Value.int .i64 x15) _ (op_move rfl) rfl ?_
    refine WL.val (Value.bool false) _ (op_assign rfl) rfl ?_
    refine WL.val (Value.int .i64 x15) _ (op_assign rfl) rfl ?_
    refine WL.nil ?_
    show W _ _ _ _ _ _
    refine W.ret ?_
    obtain rfl := Option.some.inj h
    show FinP _ _ _ _ _ _ _
    exact FinP.ret _ (res2 rfl rfl rfl) ⟨rfl, hr17, (Ext.trans hE7 hS21.ext)⟩
  · replace h := inegb h hc22
    refine W.skip ?_
    show W _ _ _ _ _ _
    refine W.seq ?_
    refine W.region ?_
    refine WL.val (Value.agg #[v_r_Table]) _ (op_loadBox st_29 rfl (BoxAt.lift hS21.ext hx6) rfl rfl) rfl ?_
    refine WL.val v_x _ (op_move rfl) rfl ?_
    obtain ⟨x24, hx25, h⟩ := bs h
    refine WL.call _ (op_call fn_36 (args2 rfl rfl)) (c_spec_l08Is (Ty.lift _ (Ext.trans hE7 hS21.ext) r_r_Table) (Ty.lift _ (Ext.trans hE7 hS21.ext) r_x) hx25) rfl ?_
    rintro _ wd26 ⟨rfl, he27⟩
    have hS29 := St.extend hS21 he27
    replace hS29 : St wd2 wd26 [bx b13 [v_x]] := hS29
    refine WL.val (Value.bool x24) _ (op_assign rfl) rfl ?_
    refine WL.val (Value.int .i64 (0 : Int)) _ (op_assign rfl) rfl ?_
    refine WL.nil ?_
    show W _ _ _ _ _ _
    refine W.ret ?_
    obtain rfl := Option.some.inj h
    show FinP _ _ _ _ _ _ _
    exact FinP.ret _ (res2 rfl rfl rfl) ⟨rfl, (inR_i64.2 (show (-9223372036854775808 : Int) ≤ 0 ∧ (0 : Int) ≤ 9223372036854775807 from by decide)), (Ext.trans hE7 hS29.ext)⟩

theorem c_impl_within {w : World} {n : Int} {low : Int} {high : Int} (r_n : InR .i64 n) (r_low : InR .i64 low) (r_high : InR .i64 high) {res : Bool} (h : p_impl_within n low high  = some res) :
    Ret Try.prog 79 #[(Value.int .i64 n), (Value.int .i64 low), (Value.int .i64 high)] w (fun v w' => v = Value.bool res ∧ Ext w w') := by
  unfold p_impl_within at h
  have hS0 : St w w [] := St.start w
  refine Ret.start (fn := Try.f79) Try.func79 rfl 15 rfl rfl ?_
  refine W.seq ?_
  refine W.region ?_
  refine WL.val (Value.bool false) _ (op_assign rfl) rfl ?_
  refine WL.nil ?_
  show W _ _ _ _ _ _
  refine W.seq ?_
  refine W.region ?_
  refine WL.val (Value.int .i64 n) _ (op_move rfl) rfl ?_
  refine WL.val (Value.int .i64 low) _ (op_move rfl) rfl ?_
  refine WL.val (Value.bool (decide (n ≥ low))) _ (op_geq rfl rfl) rfl ?_
  refine WL.val (Value.bool (decide (n ≥ low))) _ (op_move rfl) rfl ?_
  refine WL.cut 4 (fun fq wq => fq 14 = (Value.bool ((decide (n ≥ low)) && (decide (n ≤ high)))) ∧ St w wq []) ?_ ?_
  · rcases Bool.eq_false_or_eq_true (decide (n ≥ low)) with hc1 | hc1
    · refine WL.grun rfl (bool_of rfl hc1) ?_
      refine WL.val (Value.int .i64 n) _ (op_move rfl) rfl ?_
      refine WL.grun rfl (bool_of rfl hc1) ?_
      refine WL.val (Value.int .i64 high) _ (op_move rfl) rfl ?_
      refine WL.grun rfl (bool_of rfl hc1) ?_
      refine WL.val (Value.bool (decide (n ≤ high))) _ (op_leq rfl rfl) rfl ?_
      refine WL.val (Value.bool (decide (n ≤ high))) _ (op_pick_t (evb_of rfl hc1) rfl) rfl ?_
      refine WL.nil ?_
      exact ⟨rfl, (andT hc1), hS0⟩
    · refine WL.gskip rfl (bool_of rfl hc1) rfl ?_
      refine WL.gskip rfl (bool_of rfl hc1) rfl ?_
      refine WL.gskip rfl (bool_of rfl hc1) rfl ?_
      refine WL.val (Value.bool false) _ (op_pick_f (evb_of rfl hc1) rfl) rfl ?_
      refine WL.nil ?_
      exact ⟨rfl, (andF hc1), hS0⟩
  · intro f2 wd3 hq4
    obtain ⟨hf5, hS6⟩ := hq4
    refine WL.val (Value.bool ((decide (n ≥ low)) && (decide (n ≤ high)))) _ (op_assign hf5) rfl ?_
    refine WL.nil ?_
    show W _ _ _ _ _ _
    refine W.ret ?_
    obtain rfl := Option.some.inj h
    show FinP _ _ _ _ _ _ _
    exact FinP.ret _ (res1 rfl rfl) ⟨rfl, hS6.ext⟩

theorem c_impl_allWithin_c1 {w : World} {n : Int} {b_c0 : Nat} {c0 : Int} {b_c1 : Nat} {c1 : Int} (r_n : InR .i64 n) (k_c0 : BoxAt w b_c0 [(Value.int .i64 c0)]) (r_c0 : InR .i64 c0) (k_c1 : BoxAt w b_c1 [(Value.int .i64 c1)]) (r_c1 : InR .i64 c1) {res : Bool} (h : p_impl_allWithin_c1 n c0 c1 = some res) :
    Ret Try.prog 100 #[(Value.int .i64 n), (Value.pointer (some ⟨b_c0, 0, none⟩)), (Value.pointer (some ⟨b_c1, 0, none⟩))] w (fun v w' => v = Value.bool res ∧ Ext w w') := by
  unfold p_impl_allWithin_c1 at h
  have hS0 : St w w [] := St.start w
  refine Ret.start (fn := Try.f100) Try.func100 rfl 10 rfl rfl ?_
  refine W.seq ?_
  refine W.region ?_
  refine WL.val (Value.bool false) _ (op_assign rfl) rfl ?_
  refine WL.nil ?_
  show W _ _ _ _ _ _
  refine W.seq ?_
  refine W.region ?_
  refine WL.val (Value.int .i64 n) _ (op_move rfl) rfl ?_
  refine WL.val (Value.int .i64 c0) _ (op_load one_2 rfl (BoxAt.cell (BoxAt.lift hS0.ext k_c0) rfl)) rfl ?_
  refine WL.val (Value.int .i64 c1) _ (op_load one_2 rfl (BoxAt.cell (BoxAt.lift hS0.ext k_c1) rfl)) rfl ?_
  obtain ⟨x1, hx2, h⟩ := bs h
  refine WL.call _ (op_call fn_79 (args3 rfl rfl rfl)) (c_impl_within r_n r_c0 r_c1 hx2) rfl ?_
  rintro _ wd3 ⟨rfl, he4⟩
  have hS6 := St.extend hS0 he4
  replace hS6 : St w wd3 [] := hS6
  refine WL.val (Value.bool (!x1)) _ (op_not rfl) rfl ?_
  refine WL.val (Value.bool (!x1)) _ (op_assign rfl) rfl ?_
  refine WL.nil ?_
  show W _ _ _ _ _ _
  refine W.ret ?_
  obtain rfl := Option.some.inj h
  show FinP _ _ _ _ _ _ _
  exact FinP.ret _ (res1 rfl rfl) ⟨rfl, hS6.ext⟩

theorem c_slices_IndexFunc_Lint64_int64 {w : World} {s1 : (List Int)} {v_s1 : Value} {f1 : Int → Option Bool} {v_f1 : Value} (r_s1 : (Ty.sl (Ty.i .i64)).rep w v_s1 s1) (r_f1 : FnT_i_to_b Try.prog v_f1 w f1) {res : Int} (h : p_slices_IndexFunc_Lint64_int64 s1 f1  = some res) :
    Ret Try.prog 115 #[v_s1, v_f1] w (fun v w' => v = Value.int .i64 res ∧ InR .i64 res ∧ Ext w w') := by
  unfold p_slices_IndexFunc_Lint64_int64 at h
  have hS0 : St w w [] := St.start w
  have q_f1 := r_f1
  obtain ⟨g_f1, fst_f1, cap_f1, eq_f1, ok_f1, call_f1⟩ := q_f1
  subst eq_f1
  refine Ret.start (fn := Try.f115) Try.func115 rfl 19 rfl rfl ?_
  refine W.seq ?_
  refine W.region ?_
  refine WL.val (Value.int .i64 (0 : Int)) _ (op_assign rfl) rfl ?_
  refine WL.nil ?_
  show W _ _ _ _ _ _
  refine W.seq ?_
  refine W.seq ?_
  refine W.region ?_
  refine WL.val v_s1 _ (op_move rfl) rfl ?_
  have hr1 := inR_len (Ty.lift _ hS0.ext r_s1)
  refine WL.val (Value.int .i64 ((s1).length : Int)) _ (op_lenL sl_25 (Ty.lift _ hS0.ext r_s1) rfl) rfl ?_
  refine WL.val (Value.int .i64 (0 : Int)) _ (op_move rfl) rfl ?_
  refine WL.nil ?_
  show W _ _ _ _ _ _
  obtain ⟨res2, hres3, h⟩ := bs h
  refine W.blockLoop (fun fq wq => ∃ s, res2 = Res.fin s ∧ St w wq []) ?_ ?_
  · refine W.forN (fun k (s : Unit) fq wq => fq 0 = v_s1 ∧ fq 1 = (Value.func (.func g_f1) fst_f1 cap_f1) ∧ fq 7 = (Value.int .i64 ((s1).length : Int)) ∧ fq 8 = Value.int .i64 (k : Int) ∧ InR .i64 (k : Int) ∧ St w wq []) hres3 ⟨rfl, rfl, rfl, rfl, (inR_i64.2 (show (-9223372036854775808 : Int) ≤ 0 ∧ (0 : Int) ≤ 9223372036854775807 from by decide)), hS0⟩ ?_ ?_
    · intro k4 s36 ct5 f6 wd7 hk8 hb9 hI10 hbrk11 hret12
      obtain ⟨⟩ := s36
      replace hI10 : f6 0 = v_s1 ∧ f6 1 = (Value.func (.func g_f1) fst_f1 cap_f1) ∧ f6 7 = (Value.int .i64 ((s1).length : Int)) ∧ f6 8 = Value.int .i64 (k4 : Int) ∧ InR .i64 (k4 : Int) ∧ St w wd7 [] := hI10
      replace hb9 : p_slices_IndexFunc_Lint64_int64_L1 s1 f1 k4  = some ct5 := hb9
      unfold p_slices_IndexFunc_Lint64_int64_L1 at hb9
      obtain ⟨hf13, hf14, hf15, hf16, hr17, hS18⟩ := hI10
      refine W.seq ?_
      refine W.region ?_
      refine WL.val (Value.bool (decide ((k4 : Int) < ((s1).length : Int)))) _ (op_lss hf16 hf15) rfl ?_
      have hl19 : (k4 : Int) < ((s1).length : Int) := by omega
      refine WL.nil ?_
      show W _ _ _ _ _ _
      refine W.seq ?_
      refine W.condT (decide ((k4 : Int) < ((s1).length : Int))) rfl (decide_eq_true hl19) ?_
      refine W.skip ?_
      show W _ _ _ _ _ _
      refine W.seq ?_
      refine W.block ?_
      refine W.seq ?_
      refine W.region ?_
      refine WL.val (Value.int .i64 (k4 : Int)) _ (op_move hf16) rfl ?_
      refine WL.val (Value.int .i64 (k4 : Int)) _ (op_assign rfl) rfl ?_
      refine WL.nil ?_
      show W _ _ _ _ _ _
      refine W.seq ?_
      refine W.region ?_
      refine WL.val (Value.func (.func g_f1) fst_f1 cap_f1) _ (op_move hf14) rfl ?_
      refine WL.val v_s1 _ (op_move hf13) rfl ?_
      refine WL.val (Value.int .i64 (k4 : Int)) _ (op_move rfl) rfl ?_
      obtain ⟨x21, hx24, hb9⟩ := bs hb9
      obtain ⟨ha22, hb23, hx24⟩ := idx_some hx24
      refine WL.val (Value.pointer (some (elA v_s1 ((k4 : Int)).toNat))) _ (op_idx sl_25 (Ty.lift _ hS18.ext r_s1) rfl rfl ha22 hb23) rfl ?_
      obtain ⟨u25, hc26, hr27⟩ := repSl.el r_s1 hx24
      obtain ⟨rfl, hr27⟩ := hr27
      refine WL.val (Value.int .i64 x21) _ (op_load one_2 rfl (Ext.cell hS18.ext hc26)) rfl ?_
      obtain ⟨x28, hx29, hb9⟩ := bs hb9
      refine WL.call _ (op_callV rfl ok_f1 (args1 rfl)) (call_f1 wd7 x21 x28 hS18.ext hr27 hx29) rfl ?_
      rintro _ wd30 ⟨rfl, he31⟩
      have hS33 := St.extend hS18 he31
      refine WL.nil ?_
      show W _ _ _ _ _ _
      refine W.cond x28 rfl (fun hc34 => ?_) (fun hc34 => ?_)
      · replace hb9 := ip hb9 hc34
        refine W.seq ?_
        refine W.region ?_
        refine WL.val (Value.int .i64 (k4 : Int)) _ (op_move rfl) rfl ?_
        refine WL.val (Value.int .i64 (k4 : Int)) _ (op_assign rfl) rfl ?_
        refine WL.nil ?_
        show W _ _ _ _ _ _
        refine W.ret ?_
        obtain rfl := Option.some.inj hb9
        obtain rfl := hret12 _ rfl
        replace h := onRes_ret h
        obtain rfl := Option.some.inj h
        show FinP _ _ _ _ _ _ _
        exact FinP.ret _ (res1 rfl rfl) ⟨rfl, hr17, hS33.ext⟩
      · replace hb9 := inegb hb9 hc34
        refine W.skip ?_
        show W _ _ _ _ _ _
        refine W.region ?_
        refine WL.val (Value.int .i64 (w64 ((k4 : Int) + (1 : Int)))) _ (op_add hf16 rfl) rfl ?_
        refine WL.val (Value.int .i64 (w64 ((k4 : Int) + (1 : Int)))) _ (op_move rfl) rfl ?_
        refine WL.nil ?_
        obtain rfl := Option.some.inj hb9
        show ∃ s, _ = Ctl.next s ∧ _
        exact ⟨_, rfl, hf13, hf14, hf15, (ctr_next hl19 hr1), (ctr_rng hl19 hr1), hS33⟩
    · intro s41 f37 wd38 hs39 hI40
      obtain ⟨⟩ := s41
      replace hI40 : f37 0 = v_s1 ∧ f37 1 = (Value.func (.func g_f1) fst_f1 cap_f1) ∧ f37 7 = (Value.int .i64 ((s1).length : Int)) ∧ f37 8 = Value.int .i64 (((s1).length : Nat) : Int) ∧ InR .i64 (((s1).length : Nat) : Int) ∧ St w wd38 [] := hI40
      obtain ⟨hf42, hf43, hf44, hf45, hr46, hS47⟩ := hI40
      refine W.seq ?_
      refine W.region ?_
      refine WL.val (Value.bool (decide ((((s1).length : Nat) : Int) < ((s1).length : Int)))) _ (op_lss hf45 hf44) rfl ?_
      have hl48 : ¬ (((s1).length : Nat) : Int) < ((s1).length : Int) := by omega
      refine WL.nil ?_
      show W _ _ _ _ _ _
      refine W.seq ?_
      refine W.condF (decide ((((s1).length : Nat) : Int) < ((s1).length : Int))) rfl (decide_eq_false hl48) ?_
      refine W.exit ?_
      show _ = _ ∧ _
      exact ⟨rfl, _, hs39, hS47⟩
  · rintro f49 wd50 ⟨s52, rfl, hq51⟩
    replace h := onRes_fin h
    obtain ⟨⟩ := s52
    replace hq51 : St w wd50 [] := hq51
    have hS53 := hq51
    show W _ _ _ _ _ _
    refine W.seq ?_
    refine W.region ?_
    refine WL.val (Value.int .i64 (-1 : Int)) _ (op_assign rfl) rfl ?_
    refine WL.nil ?_
    show W _ _ _ _ _ _
    refine W.ret ?_
    obtain rfl := Option.some.inj h
    show FinP _ _ _ _ _ _ _
    exact FinP.ret _ (res1 rfl rfl) ⟨rfl, (inR_i64.2 (show (-9223372036854775808 : Int) ≤ -1 ∧ (-1 : Int) ≤ 9223372036854775807 from by decide)), hS53.ext⟩

theorem c_slices_ContainsFunc_Lint64_int64 {w : World} {s1 : (List Int)} {v_s1 : Value} {f1 : Int → Option Bool} {v_f1 : Value} (r_s1 : (Ty.sl (Ty.i .i64)).rep w v_s1 s1) (r_f1 : FnT_i_to_b Try.prog v_f1 w f1) {res : Bool} (h : p_slices_ContainsFunc_Lint64_int64 s1 f1  = some res) :
    Ret Try.prog 99 #[v_s1, v_f1] w (fun v w' => v = Value.bool res ∧ Ext w w') := by
  unfold p_slices_ContainsFunc_Lint64_int64 at h
  have hS0 : St w w [] := St.start w
  have q_f1 := r_f1
  obtain ⟨g_f1, fst_f1, cap_f1, eq_f1, ok_f1, call_f1⟩ := q_f1
  subst eq_f1
  refine Ret.start (fn := Try.f99) Try.func99 rfl 9 rfl rfl ?_
  refine W.seq ?_
  refine W.region ?_
  refine WL.val (Value.bool false) _ (op_assign rfl) rfl ?_
  refine WL.nil ?_
  show W _ _ _ _ _ _
  refine W.seq ?_
  refine W.region ?_
  refine WL.val v_s1 _ (op_move rfl) rfl ?_
  refine WL.val (Value.func (.func g_f1) fst_f1 cap_f1) _ (op_move rfl) rfl ?_
  obtain ⟨x1, hx2, h⟩ := bs h
  refine WL.call _ (op_call fn_115 (args2 rfl rfl)) (c_slices_IndexFunc_Lint64_int64 (Ty.lift _ hS0.ext r_s1) (FnT_i_to_b.lift hS0.ext r_f1) hx2) rfl ?_
  rintro _ wd4 ⟨rfl, hr3, he5⟩
  have hS7 := St.extend hS0 he5
  replace hS7 : St w wd4 [] := hS7
  refine WL.val (Value.bool (decide (x1 ≥ (0 : Int)))) _ (op_geq rfl rfl) rfl ?_
  refine WL.val (Value.bool (decide (x1 ≥ (0 : Int)))) _ (op_assign rfl) rfl ?_
  refine WL.nil ?_
  show W _ _ _ _ _ _
  refine W.ret ?_
  obtain rfl := Option.some.inj h
  show FinP _ _ _ _ _ _ _
  exact FinP.ret _ (res1 rfl rfl) ⟨rfl, hS7.ext⟩

theorem c_impl_allWithin {w : World} {list : (List Int)} {v_list : Value} {low : Int} {high : Int} (r_list : (Ty.sl (Ty.i .i64)).rep w v_list list) (r_low : InR .i64 low) (r_high : InR .i64 high) {res : Bool} (h : p_impl_allWithin list low high  = some res) :
    Ret Try.prog 76 #[v_list, (Value.int .i64 low), (Value.int .i64 high)] w (fun v w' => v = Value.bool res ∧ Ext w w') := by
  unfold p_impl_allWithin at h
  have hS0 : St w w [] := St.start w
  refine Ret.start (fn := Try.f76) Try.func76 rfl 11 rfl rfl ?_
  refine W.seq ?_
  refine W.region ?_
  refine WL.box hS0 rfl (cs := [(Value.int .i64 low)]) rfl rfl ?_
  intro b1 wd2 hS3 he4 hx5
  replace hS3 : St w wd2 [bx b1 [(Value.int .i64 low)]] := hS3
  have hx6 := St.boxAt hS3 0 rfl
  have hE7 : Ext w wd2 := hS3.ext
  have hS8 : St wd2 wd2 [] := St.start wd2
  refine WL.box hS8 rfl (cs := [(Value.int .i64 high)]) rfl rfl ?_
  intro b9 wd10 hS11 he12 hx13
  replace hS11 : St wd2 wd10 [bx b9 [(Value.int .i64 high)]] := hS11
  have hx14 := St.boxAt hS11 0 rfl
  have hE15 : Ext w wd10 := (Ext.trans hE7 hS11.ext)
  have hE16 : Ext wd2 wd10 := hS11.ext
  have hS17 : St wd10 wd10 [] := St.start wd10
  refine WL.val (Value.bool false) _ (op_assign rfl) rfl ?_
  refine WL.nil ?_
  show W _ _ _ _ _ _
  refine W.seq ?_
  refine W.region ?_
  refine WL.val v_list _ (op_move rfl) rfl ?_
  refine WL.val (Value.func (.func 100) #[] #[(Value.pointer (some ⟨b1, 0, none⟩)), (Value.pointer (some ⟨b9, 0, none⟩))]) _ (op_makeFunc (va := #[]) (vb := #[(Value.pointer (some ⟨b1, 0, none⟩)), (Value.pointer (some ⟨b9, 0, none⟩))]) args0 (args2 rfl rfl)) rfl ?_
  obtain ⟨x22, hx23, h⟩ := bs h
  refine WL.call _ (op_call fn_99 (args2 rfl rfl)) (c_slices_ContainsFunc_Lint64_int64 (Ty.lift _ (Ext.trans hE15 hS17.ext) r_list) (⟨100, #[], #[(Value.pointer (some ⟨b1, 0, none⟩)), (Value.pointer (some ⟨b9, 0, none⟩))], rfl, fn_100, fun wd18 a0_19 r20 he19 ra0_19 hq21 => c_impl_allWithin_c1 ra0_19 (BoxAt.lift (Ext.trans (Ext.trans hE16 hS17.ext) he19) hx6) r_low (BoxAt.lift (Ext.trans hS17.ext he19) hx14) r_high hq21⟩) hx23) rfl ?_
  rintro _ wd24 ⟨rfl, he25⟩
  have hS27 := St.extend hS17 he25
  replace hS27 : St wd10 wd24 [] := hS27
  refine WL.val (Value.bool (!x22)) _ (op_not rfl) rfl ?_
  refine WL.val (Value.bool (!x22)) _ (op_assign rfl) rfl ?_
  refine WL.nil ?_
  show W _ _ _ _ _ _
  refine W.ret ?_
  obtain rfl := Option.some.inj h
  show FinP _ _ _ _ _ _ _
  exact FinP.ret _ (res1 rfl rfl) ⟨rfl, (Ext.trans hE15 hS27.ext)⟩

theorem c_impl_isCube_c1 {w : World} {row : (List Int)} {v_row : Value} {b_c0 : Nat} {c0 : Int} (r_row : (Ty.sl (Ty.i .i64)).rep w v_row row) (k_c0 : BoxAt w b_c0 [(Value.int .i64 c0)]) (r_c0 : InR .i64 c0) {res : Bool} (h : p_impl_isCube_c1 row c0 = some res) :
    Ret Try.prog 103 #[v_row, (Value.pointer (some ⟨b_c0, 0, none⟩))] w (fun v w' => v = Value.bool res ∧ Ext w w') := by
  unfold p_impl_isCube_c1 at h
  have hS0 : St w w [] := St.start w
  refine Ret.start (fn := Try.f103) Try.func103 rfl 13 rfl rfl ?_
  refine W.seq ?_
  refine W.region ?_
  refine WL.val (Value.bool false) _ (op_assign rfl) rfl ?_
  refine WL.nil ?_
  show W _ _ _ _ _ _
  refine W.seq ?_
  refine W.region ?_
  refine WL.val v_row _ (op_move rfl) rfl ?_
  have hr1 := inR_len (Ty.lift _ hS0.ext r_row)
  refine WL.val (Value.int .i64 ((row).length : Int)) _ (op_lenL sl_25 (Ty.lift _ hS0.ext r_row) rfl) rfl ?_
  refine WL.val (Value.int .i64 c0) _ (op_load one_3 rfl (BoxAt.cell (BoxAt.lift hS0.ext k_c0) rfl)) rfl ?_
  refine WL.val (Value.bool (((row).length : Int) != c0)) _ (op_neq rfl rfl) rfl ?_
  refine WL.val (Value.bool (((row).length : Int) != c0)) _ (op_move rfl) rfl ?_
  obtain ⟨x3, hj4, h⟩ := bs h
  refine WL.cut 4 (fun fq wq => fq 12 = Value.bool x3 ∧ St w wq []) ?_ ?_
  · rcases Bool.eq_false_or_eq_true (((row).length : Int) != c0) with hc2 | hc2
    · replace hj4 := ip hj4 hc2
      refine WL.gskip rfl (bool_of rfl hc2) rfl ?_
      refine WL.gskip rfl (bool_of rfl hc2) rfl ?_
      refine WL.gskip rfl (bool_of rfl hc2) rfl ?_
      refine WL.val (Value.bool true) _ (op_pick_t (evb_of rfl hc2) rfl) rfl ?_
      refine WL.nil ?_
      obtain rfl := Option.some.inj hj4
      exact ⟨rfl, rfl, hS0⟩
    · replace hj4 := inegb hj4 hc2
      refine WL.grun rfl (bool_of rfl hc2) ?_
      refine WL.val v_row _ (op_move rfl) rfl ?_
      refine WL.grun rfl (bool_of rfl hc2) ?_
      obtain ⟨x8, hx9, hj4⟩ := bs hj4
      refine WL.call _ (op_call fn_76 (args3 rfl rfl rfl)) (c_impl_allWithin (Ty.lift _ hS0.ext r_row) (inR_i64.2 (show (-9223372036854775808 : Int) ≤ 0 ∧ (0 : Int) ≤ 9223372036854775807 from by decide)) (inR_i64.2 (show (-9223372036854775808 : Int) ≤ 1000 ∧ (1000 : Int) ≤ 9223372036854775807 from by decide)) hx9) rfl ?_
      rintro _ wd10 ⟨rfl, he11⟩
      have hS13 := St.extend hS0 he11
      replace hS13 : St w wd10 [] := hS13
      refine WL.grun rfl (bool_of rfl hc2) ?_
      refine WL.val (Value.bool (!x8)) _ (op_not rfl) rfl ?_
      refine WL.val (Value.bool (!x8)) _ (op_pick_f (evb_of rfl hc2) rfl) rfl ?_
      refine WL.nil ?_
      obtain rfl := Option.some.inj hj4
      exact ⟨rfl, rfl, hS13⟩
  · intro f5 wd6 hq7
    obtain ⟨hf14, hS15⟩ := hq7
    refine WL.val (Value.bool x3) _ (op_assign hf14) rfl ?_
    refine WL.nil ?_
    show W _ _ _ _ _ _
    refine W.ret ?_
    obtain rfl := Option.some.inj h
    show FinP _ _ _ _ _ _ _
    exact FinP.ret _ (res1 rfl rfl) ⟨rfl, hS15.ext⟩

theorem c_slices_IndexFunc_LLint64_Lint64 {w : World} {s1 : (List (List Int))} {v_s1 : Value} {f1 : (List Int) → Option Bool} {v_f1 : Value} (r_s1 : (Ty.sl (Ty.sl (Ty.i .i64))).rep w v_s1 s1) (r_f1 : FnT_li_to_b Try.prog v_f1 w f1) {res : Int} (h : p_slices_IndexFunc_LLint64_Lint64 s1 f1  = some res) :
    Ret Try.prog 108 #[v_s1, v_f1] w (fun v w' => v = Value.int .i64 res ∧ InR .i64 res ∧ Ext w w') := by
  unfold p_slices_IndexFunc_LLint64_Lint64 at h
  have hS0 : St w w [] := St.start w
  have q_f1 := r_f1
  obtain ⟨g_f1, fst_f1, cap_f1, eq_f1, ok_f1, call_f1⟩ := q_f1
  subst eq_f1
  refine Ret.start (fn := Try.f108) Try.func108 rfl 19 rfl rfl ?_
  refine W.seq ?_
  refine W.region ?_
  refine WL.val (Value.int .i64 (0 : Int)) _ (op_assign rfl) rfl ?_
  refine WL.nil ?_
  show W _ _ _ _ _ _
  refine W.seq ?_
  refine W.seq ?_
  refine W.region ?_
  refine WL.val v_s1 _ (op_move rfl) rfl ?_
  have hr1 := inR_len (Ty.lift _ hS0.ext r_s1)
  refine WL.val (Value.int .i64 ((s1).length : Int)) _ (op_lenL sl_65 (Ty.lift _ hS0.ext r_s1) rfl) rfl ?_
  refine WL.val (Value.int .i64 (0 : Int)) _ (op_move rfl) rfl ?_
  refine WL.nil ?_
  show W _ _ _ _ _ _
  obtain ⟨res2, hres3, h⟩ := bs h
  refine W.blockLoop (fun fq wq => ∃ s, res2 = Res.fin s ∧ St w wq []) ?_ ?_
  · refine W.forN (fun k (s : Unit) fq wq => fq 0 = v_s1 ∧ fq 1 = (Value.func (.func g_f1) fst_f1 cap_f1) ∧ fq 7 = (Value.int .i64 ((s1).length : Int)) ∧ fq 8 = Value.int .i64 (k : Int) ∧ InR .i64 (k : Int) ∧ St w wq []) hres3 ⟨rfl, rfl, rfl, rfl, (inR_i64.2 (show (-9223372036854775808 : Int) ≤ 0 ∧ (0 : Int) ≤ 9223372036854775807 from by decide)), hS0⟩ ?_ ?_
    · intro k4 s36 ct5 f6 wd7 hk8 hb9 hI10 hbrk11 hret12
      obtain ⟨⟩ := s36
      replace hI10 : f6 0 = v_s1 ∧ f6 1 = (Value.func (.func g_f1) fst_f1 cap_f1) ∧ f6 7 = (Value.int .i64 ((s1).length : Int)) ∧ f6 8 = Value.int .i64 (k4 : Int) ∧ InR .i64 (k4 : Int) ∧ St w wd7 [] := hI10
      replace hb9 : p_slices_IndexFunc_LLint64_Lint64_L1 s1 f1 k4  = some ct5 := hb9
      unfold p_slices_IndexFunc_LLint64_Lint64_L1 at hb9
      obtain ⟨hf13, hf14, hf15, hf16, hr17, hS18⟩ := hI10
      refine W.seq ?_
      refine W.region ?_
      refine WL.val (Value.bool (decide ((k4 : Int) < ((s1).length : Int)))) _ (op_lss hf16 hf15) rfl ?_
      have hl19 : (k4 : Int) < ((s1).length : Int) := by omega
      refine WL.nil ?_
      show W _ _ _ _ _ _
      refine W.seq ?_
      refine W.condT (decide ((k4 : Int) < ((s1).length : Int))) rfl (decide_eq_true hl19) ?_
      refine W.skip ?_
      show W _ _ _ _ _ _
      refine W.seq ?_
      refine W.block ?_
      refine W.seq ?_
      refine W.region ?_
      refine WL.val (Value.int .i64 (k4 : Int)) _ (op_move hf16) rfl ?_
      refine WL.val (Value.int .i64 (k4 : Int)) _ (op_assign rfl) rfl ?_
      refine WL.nil ?_
      show W _ _ _ _ _ _
      refine W.seq ?_
      refine W.region ?_
      refine WL.val (Value.func (.func g_f1) fst_f1 cap_f1) _ (op_move hf14) rfl ?_
      refine WL.val v_s1 _ (op_move hf13) rfl ?_
      refine WL.val (Value.int .i64 (k4 : Int)) _ (op_move rfl) rfl ?_
      obtain ⟨x21, hx24, hb9⟩ := bs hb9
      obtain ⟨ha22, hb23, hx24⟩ := idx_some hx24
      refine WL.val (Value.pointer (some (elA v_s1 ((k4 : Int)).toNat))) _ (op_idx sl_65 (Ty.lift _ hS18.ext r_s1) rfl rfl ha22 hb23) rfl ?_
      obtain ⟨u25, hc26, hr27⟩ := repSl.el r_s1 hx24
      refine WL.val u25 _ (op_load one_25 rfl (Ext.cell hS18.ext hc26)) rfl ?_
      obtain ⟨x28, hx29, hb9⟩ := bs hb9
      refine WL.call _ (op_callV rfl ok_f1 (args1 rfl)) (call_f1 wd7 u25 x21 x28 hS18.ext (Ty.lift _ hS18.ext hr27) hx29) rfl ?_
      rintro _ wd30 ⟨rfl, he31⟩
      have hS33 := St.extend hS18 he31
      refine WL.nil ?_
      show W _ _ _ _ _ _
      refine W.cond x28 rfl (fun hc34 => ?_) (fun hc34 => ?_)
      · replace hb9 := ip hb9 hc34
        refine W.seq ?_
        refine W.region ?_
        refine WL.val (Value.int .i64 (k4 : Int)) _ (op_move rfl) rfl ?_
        refine WL.val (Value.int .i64 (k4 : Int)) _ (op_assign rfl) rfl ?_
        refine WL.nil ?_
        show W _ _ _ _ _ _
        refine W.ret ?_
        obtain rfl := Option.some.inj hb9
        obtain rfl := hret12 _ rfl
        replace h := onRes_ret h
        obtain rfl := Option.some.inj h
        show FinP _ _ _ _ _ _ _
        exact FinP.ret _ (res1 rfl rfl) ⟨rfl, hr17, hS33.ext⟩
      · replace hb9 := inegb hb9 hc34
        refine W.skip ?_
        show W _ _ _ _ _ _
        refine W.region ?_
        refine WL.val (Value.int .i64 (w64 ((k4 : Int) + (1 : Int)))) _ (op_add hf16 rfl) rfl ?_
        refine WL.val (Value.int .i64 (w64 ((k4 : Int) + (1 : Int)))) _ (op_move rfl) rfl ?_
        refine WL.nil ?_
        obtain rfl := Option.some.inj hb9
        show ∃ s, _ = Ctl.next s ∧ _
        exact ⟨_, rfl, hf13, hf14, hf15, (ctr_next hl19 hr1), (ctr_rng hl19 hr1), hS33⟩
    · intro s41 f37 wd38 hs39 hI40
      obtain ⟨⟩ := s41
      replace hI40 : f37 0 = v_s1 ∧ f37 1 = (Value.func (.func g_f1) fst_f1 cap_f1) ∧ f37 7 = (Value.int .i64 ((s1).length : Int)) ∧ f37 8 = Value.int .i64 (((s1).length : Nat) : Int) ∧ InR .i64 (((s1).length : Nat) : Int) ∧ St w wd38 [] := hI40
      obtain ⟨hf42, hf43, hf44, hf45, hr46, hS47⟩ := hI40
      refine W.seq ?_
      refine W.region ?_
      refine WL.val (Value.bool (decide ((((s1).length : Nat) : Int) < ((s1).length : Int)))) _ (op_lss hf45 hf44) rfl ?_
      have hl48 : ¬ (((s1).length : Nat) : Int) < ((s1).length : Int) := by omega
      refine WL.nil ?_
      show W _ _ _ _ _ _
      refine W.seq ?_
      refine W.condF (decide ((((s1).length : Nat) : Int) < ((s1).length : Int))) rfl (decide_eq_false hl48) ?_
      refine W.exit ?_
      show _ = _ ∧ _
      exact ⟨rfl, _, hs39, hS47⟩
  · rintro f49 wd50 ⟨s52, rfl, hq51⟩
    replace h := onRes_fin h
    obtain ⟨⟩ := s52
    replace hq51 : St w wd50 [] := hq51
    have hS53 := hq51
    show W _ _ _ _ _ _
    refine W.seq ?_
    refine W.region ?_
    refine WL.val (Value.int .i64 (-1 : Int)) _ (op_assign rfl) rfl ?_
    refine WL.nil ?_
    show W _ _ _ _ _ _
    refine W.ret ?_
    obtain rfl := Option.some.inj h
    show FinP _ _ _ _ _ _ _
    exact FinP.ret _ (res1 rfl rfl) ⟨rfl, (inR_i64.2 (show (-9223372036854775808 : Int) ≤ -1 ∧ (-1 : Int) ≤ 9223372036854775807 from by decide)), hS53.ext⟩

theorem c_slices_ContainsFunc_LLint64_Lint64 {w : World} {s1 : (List (List Int))} {v_s1 : Value} {f1 : (List Int) → Option Bool} {v_f1 : Value} (r_s1 : (Ty.sl (Ty.sl (Ty.i .i64))).rep w v_s1 s1) (r_f1 : FnT_li_to_b Try.prog v_f1 w f1) {res : Bool} (h : p_slices_ContainsFunc_LLint64_Lint64 s1 f1  = some res) :
    Ret Try.prog 83 #[v_s1, v_f1] w (fun v w' => v = Value.bool res ∧ Ext w w') := by
  unfold p_slices_ContainsFunc_LLint64_Lint64 at h
  have hS0 : St w w [] := St.start w
  have q_f1 := r_f1
  obtain ⟨g_f1, fst_f1, cap_f1, eq_f1, ok_f1, call_f1⟩ := q_f1
  subst eq_f1
  refine Ret.start (fn := Try.f83) Try.func83 rfl 9 rfl rfl ?_
  refine W.seq ?_
  refine W.region ?_
  refine WL.val (Value.bool false) _ (op_assign rfl) rfl ?_
  refine WL.nil ?_
  show W _ _ _ _ _ _
  refine W.seq ?_
  refine W.region ?_
  refine WL.val v_s1 _ (op_move rfl) rfl ?_
  refine WL.val (Value.func (.func g_f1) fst_f1 cap_f1) _ (op_move rfl) rfl ?_
  obtain ⟨x1, hx2, h⟩ := bs h
  refine WL.call _ (op_call fn_108 (args2 rfl rfl)) (c_slices_IndexFunc_LLint64_Lint64 (Ty.lift _ hS0.ext r_s1) (FnT_li_to_b.lift hS0.ext r_f1) hx2) rfl ?_
  rintro _ wd4 ⟨rfl, hr3, he5⟩
  have hS7 := St.extend hS0 he5
  replace hS7 : St w wd4 [] := hS7
  refine WL.val (Value.bool (decide (x1 ≥ (0 : Int)))) _ (op_geq rfl rfl) rfl ?_
  refine WL.val (Value.bool (decide (x1 ≥ (0 : Int)))) _ (op_assign rfl) rfl ?_
  refine WL.nil ?_
  show W _ _ _ _ _ _
  refine W.ret ?_
  obtain rfl := Option.some.inj h
  show FinP _ _ _ _ _ _ _
  exact FinP.ret _ (res1 rfl rfl) ⟨rfl, hS7.ext⟩

theorem c_impl_isCube {w : World} {r_Table : (List (List (List Int)))} {v_r_Table : Value} (r_r_Table : (Ty.sl (Ty.sl (Ty.sl (Ty.i .i64)))).rep w v_r_Table r_Table) {res : Bool} (h : p_impl_isCube r_Table  = some res) :
    Ret Try.prog 81 #[(Value.agg #[v_r_Table])] w (fun v w' => v = Value.bool res ∧ Ext w w') := by
  unfold p_impl_isCube at h
  have hS0 : St w w [] := St.start w
  refine Ret.start (fn := Try.f81) Try.func81 rfl 32 rfl rfl ?_
  refine W.seq ?_
  refine W.region ?_
  refine WL.box hS0 rfl (cs := [v_r_Table]) rfl rfl ?_
  intro b1 wd2 hS3 he4 hx5
  replace hS3 : St w wd2 [bx b1 [v_r_Table]] := hS3
  have hx6 := St.boxAt hS3 0 rfl
  have hE7 : Ext w wd2 := hS3.ext
  have hS8 : St wd2 wd2 [] := St.start wd2
  refine WL.val (Value.bool false) _ (op_assign rfl) rfl ?_
  refine WL.nil ?_
  show W _ _ _ _ _ _
  refine W.seq ?_
  refine W.region ?_
  refine WL.val (Value.pointer (some ⟨b1, 0, none⟩)) _ (op_fieldAddr fd_29_0 rfl) rfl ?_
  refine WL.val v_r_Table _ (op_load one_22 rfl (BoxAt.cell (BoxAt.lift hS8.ext hx6) rfl)) rfl ?_
  have hr9 := inR_len (Ty.lift _ (Ext.trans hE7 hS8.ext) r_r_Table)
  refine WL.val (Value.int .i64 ((r_Table).length : Int)) _ (op_lenL sl_22 (Ty.lift _ (Ext.trans hE7 hS8.ext) r_r_Table) rfl) rfl ?_
  refine WL.alloc hS8 ze_3 (cs := [(Value.int .i64 (0 : Int))]) rfl rfl ?_
  intro b10 wd11 hS12 he13
  replace hS12 : St wd2 wd11 [bx b10 [(Value.int .i64 (0 : Int))]] := hS12
  refine WL.storeBox [(Value.int .i64 ((r_Table).length : Int))] hS12 (k := 0) rfl rfl rfl (us := [(Value.int .i64 ((r_Table).length : Int))]) rfl sz_3 rfl rfl (all_cons rfl all_nil) rfl ?_
  intro wd14 hS15
  replace hS15 : St wd2 wd14 [bx b10 [(Value.int .i64 ((r_Table).length : Int))]] := hS15
  refine WL.nil ?_
  show W _ _ _ _ _ _
  refine W.seq ?_
  refine W.seq ?_
  refine W.region ?_
  refine WL.val (Value.pointer (some ⟨b1, 0, none⟩)) _ (op_fieldAddr fd_29_0 rfl) rfl ?_
  refine WL.val v_r_Table _ (op_load one_22 rfl (BoxAt.cell (BoxAt.lift hS15.ext hx6) rfl)) rfl ?_
  have hr16 := inR_len (Ty.lift _ (Ext.trans hE7 hS15.ext) r_r_Table)
  refine WL.val (Value.int .i64 ((r_Table).length : Int)) _ (op_lenL sl_22 (Ty.lift _ (Ext.trans hE7 hS15.ext) r_r_Table) rfl) rfl ?_
  refine WL.val (Value.int .i64 (0 : Int)) _ (op_move rfl) rfl ?_
  refine WL.nil ?_
  show W _ _ _ _ _ _
  obtain ⟨res17, hres18, h⟩ := bs h
  refine W.blockLoop (fun fq wq => ∃ s, res17 = Res.fin s ∧ fq 3 = (Value.pointer (some ⟨b10, 0, none⟩)) ∧ St wd2 wq [bx b10 [(Value.int .i64 ((r_Table).length : Int))]]) ?_ ?_
  · refine W.forN (fun k (s : Unit) fq wq => fq 3 = (Value.pointer (some ⟨b10, 0, none⟩)) ∧ fq 10 = v_r_Table ∧ fq 11 = (Value.int .i64 ((r_Table).length : Int)) ∧ fq 12 = Value.int .i64 (k : Int) ∧ InR .i64 (k : Int) ∧ St wd2 wq [bx b10 [(Value.int .i64 ((r_Table).length : Int))]]) hres18 ⟨rfl, rfl, rfl, rfl, (inR_i64.2 (show (-9223372036854775808 : Int) ≤ 0 ∧ (0 : Int) ≤ 9223372036854775807 from by decide)), hS15⟩ ?_ ?_
    · intro k19 s68 ct20 f21 wd22 hk23 hb24 hI25 hbrk26 hret27
      obtain ⟨⟩ := s68
      replace hI25 : f21 3 = (Value.pointer (some ⟨b10, 0, none⟩)) ∧ f21 10 = v_r_Table ∧ f21 11 = (Value.int .i64 ((r_Table).length : Int)) ∧ f21 12 = Value.int .i64 (k19 : Int) ∧ InR .i64 (k19 : Int) ∧ St wd2 wd22 [bx b10 [(Value.int .i64 ((r_Table).length : Int))]] := hI25
      replace hb24 : p_impl_isCube_L1 r_Table k19  = some ct20 := hb24
      unfold p_impl_isCube_L1 at hb24
      obtain ⟨hf28, hf29, hf30, hf31, hr32, hS33⟩ := hI25
      refine W.seq ?_
      refine W.region ?_
      refine WL.val (Value.bool (decide ((k19 : Int) < ((r_Table).length : Int)))) _ (op_lss hf31 hf30) rfl ?_
      have hl34 : (k19 : Int) < ((r_Table).length : Int) := by omega
      refine WL.nil ?_
      show W _ _ _ _ _ _
      refine W.seq ?_
      refine W.condT (decide ((k19 : Int) < ((r_Table).length : Int))) rfl (decide_eq_true hl34) ?_
      refine W.skip ?_
      show W _ _ _ _ _ _
      refine W.seq ?_
      refine W.block ?_
      refine W.seq ?_
      refine W.region ?_
      obtain ⟨x36, hx39, hb24⟩ := bs hb24
      obtain ⟨ha37, hb38, hx39⟩ := idx_some hx39
      refine WL.val (Value.pointer (some (elA v_r_Table ((k19 : Int)).toNat))) _ (op_idx sl_22 (Ty.lift _ (Ext.trans hE7 hS33.ext) r_r_Table) hf29 hf31 ha37 hb38) rfl ?_
      obtain ⟨u40, hc41, hr42⟩ := repSl.el r_r_Table hx39
      refine WL.val u40 _ (op_load one_65 rfl (Ext.cell (Ext.trans hE7 hS33.ext) hc41)) rfl ?_
      refine WL.val u40 _ (op_assign rfl) rfl ?_
      refine WL.nil ?_
      show W _ _ _ _ _ _
      refine W.seq ?_
      refine W.region ?_
      refine WL.val u40 _ (op_move rfl) rfl ?_
      have hr43 := inR_len (Ty.lift _ (Ext.trans hE7 hS33.ext) hr42)
      refine WL.val (Value.int .i64 ((x36).length : Int)) _ (op_lenL sl_65 (Ty.lift _ (Ext.trans hE7 hS33.ext) hr42) rfl) rfl ?_
      refine WL.val (Value.int .i64 ((r_Table).length : Int)) _ (op_load one_3 hf28 (BoxAt.cell (St.boxAt hS33 0 rfl) rfl)) rfl ?_
      refine WL.val (Value.bool (((x36).length : Int) != ((r_Table).length : Int))) _ (op_neq rfl rfl) rfl ?_
      refine WL.val (Value.bool (((x36).length : Int) != ((r_Table).length : Int))) _ (op_move rfl) rfl ?_
      obtain ⟨x45, hj46, hb24⟩ := bs hb24
      refine WL.cut 4 (fun fq wq => fq 3 = (Value.pointer (some ⟨b10, 0, none⟩)) ∧ fq 10 = v_r_Table ∧ fq 11 = (Value.int .i64 ((r_Table).length : Int)) ∧ fq 12 = (Value.int .i64 (k19 : Int)) ∧ fq 24 = Value.bool x45 ∧ St wd2 wq [bx b10 [(Value.int .i64 ((r_Table).length : Int))]]) ?_ ?_
      · rcases Bool.eq_false_or_eq_true (((x36).length : Int) != ((r_Table).length : Int)) with hc44 | hc44
        · replace hj46 := ip hj46 hc44
          refine WL.gskip rfl (bool_of rfl hc44) rfl ?_
          refine WL.gskip rfl (bool_of rfl hc44) rfl ?_
          refine WL.gskip rfl (bool_of rfl hc44) rfl ?_
          refine WL.val (Value.bool true) _ (op_pick_t (evb_of rfl hc44) rfl) rfl ?_
          refine WL.nil ?_
          obtain rfl := Option.some.inj hj46
          exact ⟨rfl, hf28, hf29, hf30, hf31, rfl, hS33⟩
        · replace hj46 := inegb hj46 hc44
          refine WL.grun rfl (bool_of rfl hc44) ?_
          refine WL.val u40 _ (op_move rfl) rfl ?_
          refine WL.grun rfl (bool_of rfl hc44) ?_
          refine WL.val (Value.func (.func 103) #[] #[(Value.pointer (some ⟨b10, 0, none⟩))]) _ (op_makeFunc (va := #[]) (vb := #[(Value.pointer (some ⟨b10, 0, none⟩))]) args0 (args1 hf28)) rfl ?_
          refine WL.grun rfl (bool_of rfl hc44) ?_
          obtain ⟨x54, hx55, hj46⟩ := bs hj46
          refine WL.call _ (op_call fn_83 (args2 rfl rfl)) (c_slices_ContainsFunc_LLint64_Lint64 (Ty.lift _ (Ext.trans hE7 hS33.ext) hr42) (⟨103, #[], #[(Value.pointer (some ⟨b10, 0, none⟩))], rfl, fn_103, fun wd50 u0_51 a0_51 r52 he51 ra0_51 hq53 => c_impl_isCube_c1 ra0_51 (BoxAt.lift he51 (St.boxAt hS33 0 rfl)) hr9 hq53⟩) hx55) rfl ?_
          rintro _ wd56 ⟨rfl, he57⟩
          have hS59 := St.extend hS33 he57
          replace hS59 : St wd2 wd56 [bx b10 [(Value.int .i64 ((r_Table).length : Int))]] := hS59
          refine WL.val (Value.bool x54) _ (op_pick_f (evb_of rfl hc44) rfl) rfl ?_
          refine WL.nil ?_
          obtain rfl := Option.some.inj hj46
          exact ⟨rfl, hf28, hf29, hf30, hf31, rfl, hS59⟩
      · intro f47 wd48 hq49
        obtain ⟨hf60, hf61, hf62, hf63, hf64, hS65⟩ := hq49
        refine WL.nil ?_
        show W _ _ _ _ _ _
        refine W.cond x45 hf64 (fun hc66 => ?_) (fun hc66 => ?_)
        · replace hb24 := ip hb24 hc66
          refine W.seq ?_
          refine W.region ?_
          refine WL.val (Value.bool false) _ (op_assign rfl) rfl ?_
          refine WL.nil ?_
          show W _ _ _ _ _ _
          refine W.ret ?_
          obtain rfl := Option.some.inj hb24
          obtain rfl := hret27 _ rfl
          replace h := onRes_ret h
          obtain rfl := Option.some.inj h
          show FinP _ _ _ _ _ _ _
          exact FinP.ret _ (res1 rfl rfl) ⟨rfl, (Ext.trans hE7 hS65.ext)⟩
        · replace hb24 := inegb hb24 hc66
          refine W.skip ?_
          show W _ _ _ _ _ _
          refine W.region ?_
          refine WL.val (Value.int .i64 (w64 ((k19 : Int) + (1 : Int)))) _ (op_add hf63 rfl) rfl ?_
          refine WL.val (Value.int .i64 (w64 ((k19 : Int) + (1 : Int)))) _ (op_move rfl) rfl ?_
          refine WL.nil ?_
          obtain rfl := Option.some.inj hb24
          show ∃ s, _ = Ctl.next s ∧ _
          exact ⟨_, rfl, hf60, hf61, hf62, (ctr_next hl34 hr16), (ctr_rng hl34 hr16), hS65⟩
    · intro s73 f69 wd70 hs71 hI72
      obtain ⟨⟩ := s73
      replace hI72 : f69 3 = (Value.pointer (some ⟨b10, 0, none⟩)) ∧ f69 10 = v_r_Table ∧ f69 11 = (Value.int .i64 ((r_Table).length : Int)) ∧ f69 12 = Value.int .i64 (((r_Table).length : Nat) : Int) ∧ InR .i64 (((r_Table).length : Nat) : Int) ∧ St wd2 wd70 [bx b10 [(Value.int .i64 ((r_Table).length : Int))]] := hI72
      obtain ⟨hf74, hf75, hf76, hf77, hr78, hS79⟩ := hI72
      refine W.seq ?_
      refine W.region ?_
      refine WL.val (Value.bool (decide ((((r_Table).length : Nat) : Int) < ((r_Table).length : Int)))) _ (op_lss hf77 hf76) rfl ?_
      have hl80 : ¬ (((r_Table).length : Nat) : Int) < ((r_Table).length : Int) := by omega
      refine WL.nil ?_
      show W _ _ _ _ _ _
      refine W.seq ?_
      refine W.condF (decide ((((r_Table).length : Nat) : Int) < ((r_Table).length : Int))) rfl (decide_eq_false hl80) ?_
      refine W.exit ?_
      show _ = _ ∧ _
      exact ⟨rfl, _, hs71, hf74, hS79⟩
  · rintro f81 wd82 ⟨s84, rfl, hq83⟩
    replace h := onRes_fin h
    obtain ⟨⟩ := s84
    replace hq83 : f81 3 = (Value.pointer (some ⟨b10, 0, none⟩)) ∧ St wd2 wd82 [bx b10 [(Value.int .i64 ((r_Table).length : Int))]] := hq83
    obtain ⟨hf85, hS86⟩ := hq83
    show W _ _ _ _ _ _
    refine W.seq ?_
    refine W.region ?_
    refine WL.val (Value.int .i64 ((r_Table).length : Int)) _ (op_load one_3 hf85 (BoxAt.cell (St.boxAt hS86 0 rfl) rfl)) rfl ?_
    refine WL.val (Value.bool (decide (((r_Table).length : Int) ≥ (1 : Int)))) _ (op_geq rfl rfl) rfl ?_
    refine WL.val (Value.bool (decide (((r_Table).length : Int) ≥ (1 : Int)))) _ (op_move rfl) rfl ?_
    refine WL.cut 3 (fun fq wq => fq 31 = (Value.bool ((decide (((r_Table).length : Int) ≥ (1 : Int))) && (decide (((r_Table).length : Int) ≤ (16 : Int))))) ∧ St wd2 wq []) ?_ ?_
    · rcases Bool.eq_false_or_eq_true (decide (((r_Table).length : Int) ≥ (1 : Int))) with hc87 | hc87
      · refine WL.grun rfl (bool_of rfl hc87) ?_
        refine WL.val (Value.int .i64 ((r_Table).length : Int)) _ (op_load one_3 hf85 (BoxAt.cell (St.boxAt hS86 0 rfl) rfl)) rfl ?_
        refine WL.grun rfl (bool_of rfl hc87) ?_
        refine WL.val (Value.bool (decide (((r_Table).length : Int) ≤ (16 : Int)))) _ (op_leq rfl rfl) rfl ?_
        refine WL.val (Value.bool (decide (((r_Table).length : Int) ≤ (16 : Int)))) _ (op_pick_t (evb_of rfl hc87) rfl) rfl ?_
        refine WL.nil ?_
        exact ⟨rfl, (andT hc87), (St.pick hS86 [] rfl)⟩
      · refine WL.gskip rfl (bool_of rfl hc87) rfl ?_
        refine WL.gskip rfl (bool_of rfl hc87) rfl ?_
        refine WL.val (Value.bool false) _ (op_pick_f (evb_of rfl hc87) rfl) rfl ?_
        refine WL.nil ?_
        exact ⟨rfl, (andF hc87), (St.pick hS86 [] rfl)⟩
    · intro f88 wd89 hq90
      obtain ⟨hf91, hS92⟩ := hq90
      refine WL.val (Value.bool ((decide (((r_Table).length : Int) ≥ (1 : Int))) && (decide (((r_Table).length : Int) ≤ (16 : Int))))) _ (op_assign hf91) rfl ?_
      refine WL.nil ?_
      show W _ _ _ _ _ _
      refine W.ret ?_
      obtain rfl := Option.some.inj h
      show FinP _ _ _ _ _ _ _
      exact FinP.ret _ (res1 rfl rfl) ⟨rfl, (Ext.trans hE7 hS92.ext)⟩

theorem c_impl_delta {w : World} {i : Int} {k1 : Int} (r_i : InR .i64 i) (r_k1 : InR .i64 k1) {res : Int} (h : p_impl_delta i k1  = some res) :
    Ret Try.prog 116 #[(Value.int .i64 i), (Value.int .i64 k1)] w (fun v w' => v = Value.int .i64 res ∧ InR .i64 res ∧ Ext w w') := by
  unfold p_impl_delta at h
  have hS0 : St w w [] := St.start w
  refine Ret.start (fn := Try.f116) Try.func116 rfl 8 rfl rfl ?_
  refine W.seq ?_
  refine W.region ?_
  refine WL.val (Value.int .i64 (0 : Int)) _ (op_assign rfl) rfl ?_
  refine WL.nil ?_
  show W _ _ _ _ _ _
  refine W.seq ?_
  refine W.seq ?_
  refine W.region ?_
  refine WL.val (Value.int .i64 i) _ (op_move rfl) rfl ?_
  refine WL.val (Value.int .i64 k1) _ (op_move rfl) rfl ?_
  refine WL.val (Value.bool (i == k1)) _ (op_eql rfl rfl) rfl ?_
  refine WL.nil ?_
  show W _ _ _ _ _ _
  refine W.cond (i == k1) rfl (fun hc1 => ?_) (fun hc1 => ?_)
  · replace h := ip h hc1
    refine W.seq ?_
    refine W.region ?_
    refine WL.val (Value.int .i64 (1 : Int)) _ (op_assign rfl) rfl ?_
    refine WL.nil ?_
    show W _ _ _ _ _ _
    refine W.ret ?_
    obtain rfl := Option.some.inj h
    show FinP _ _ _ _ _ _ _
    exact FinP.ret _ (res1 rfl rfl) ⟨rfl, (inR_i64.2 (show (-9223372036854775808 : Int) ≤ 1 ∧ (1 : Int) ≤ 9223372036854775807 from by decide)), hS0.ext⟩
  · replace h := inegb h hc1
    refine W.skip ?_
    show W _ _ _ _ _ _
    refine W.seq ?_
    refine W.region ?_
    refine WL.val (Value.int .i64 (0 : Int)) _ (op_assign rfl) rfl ?_
    refine WL.nil ?_
    show W _ _ _ _ _ _
    refine W.ret ?_
    obtain rfl := Option.some.inj h
    show FinP _ _ _ _ _ _ _
    exact FinP.ret _ (res1 rfl rfl) ⟨rfl, (inR_i64.2 (show (-9223372036854775808 : Int) ≤ 0 ∧ (0 : Int) ≤ 9223372036854775807 from by decide)), hS0.ext⟩

theorem c_impl_Ring_unitFault {w : World} {r_Table : (List (List (List Int)))} {v_r_Table : Value} (r_r_Table : (Ty.sl (Ty.sl (Ty.sl (Ty.i .i64)))).rep w v_r_Table r_Table) {res : (List Int)} (h : p_impl_Ring_unitFault r_Table  = some res) :
    Ret Try.prog 104 #[(Value.agg #[v_r_Table])] w (fun v w' => ∃ (u0 : Value), v = u0 ∧ NilIff u0 res ∧ Ext w w' ∧ Sep w.heap.size w' [(Ty.sl (Ty.i .i64)).at u0 res]) := by
  unfold p_impl_Ring_unitFault at h
  have hS0 : St w w [] := St.start w
  refine Ret.start (fn := Try.f104) Try.func104 rfl 52 rfl rfl ?_
  refine W.seq ?_
  refine W.region ?_
  refine WL.box hS0 rfl (cs := [v_r_Table]) rfl rfl ?_
  intro b1 wd2 hS3 he4 hx5
  replace hS3 : St w wd2 [bx b1 [v_r_Table]] := hS3
  have hx6 := St.boxAt hS3 0 rfl
  have hE7 : Ext w wd2 := hS3.ext
  have hS8 : St wd2 wd2 [] := St.start wd2
  refine WL.val (Value.slice none 0 0) _ (op_assign rfl) rfl ?_
  refine WL.nil ?_
  show W _ _ _ _ _ _
  refine W.seq ?_
  refine W.seq ?_
  refine W.region ?_
  refine WL.val (Value.pointer (some ⟨b1, 0, none⟩)) _ (op_fieldAddr fd_29_0 rfl) rfl ?_
  refine WL.val v_r_Table _ (op_load one_22 rfl (BoxAt.cell (BoxAt.lift hS8.ext hx6) rfl)) rfl ?_
  have hr9 := inR_len (Ty.lift _ (Ext.trans hE7 hS8.ext) r_r_Table)
  refine WL.val (Value.int .i64 ((r_Table).length : Int)) _ (op_lenL sl_22 (Ty.lift _ (Ext.trans hE7 hS8.ext) r_r_Table) rfl) rfl ?_
  refine WL.val (Value.int .i64 (0 : Int)) _ (op_move rfl) rfl ?_
  refine WL.nil ?_
  show W _ _ _ _ _ _
  obtain ⟨res10, hres11, h⟩ := bs h
  refine W.blockLoop (fun fq wq => ∃ s, res10 = Res.fin s ∧ St wd2 wq []) ?_ ?_
  · refine W.forN (fun k (s : Unit) fq wq => fq 1 = (Value.pointer (some ⟨b1, 0, none⟩)) ∧ fq 7 = (Value.int .i64 ((r_Table).length : Int)) ∧ fq 8 = Value.int .i64 (k : Int) ∧ InR .i64 (k : Int) ∧ St wd2 wq []) hres11 ⟨rfl, rfl, rfl, (inR_i64.2 (show (-9223372036854775808 : Int) ≤ 0 ∧ (0 : Int) ≤ 9223372036854775807 from by decide)), hS8⟩ ?_ ?_
    · intro k12 s513 ct13 f14 wd15 hk16 hb17 hI18 hbrk19 hret20
      obtain ⟨⟩ := s513
      replace hI18 : f14 1 = (Value.pointer (some ⟨b1, 0, none⟩)) ∧ f14 7 = (Value.int .i64 ((r_Table).length : Int)) ∧ f14 8 = Value.int .i64 (k12 : Int) ∧ InR .i64 (k12 : Int) ∧ St wd2 wd15 [] := hI18
      replace hb17 : p_impl_Ring_unitFault_L1 r_Table k12  = some ct13 := hb17
      unfold p_impl_Ring_unitFault_L1 at hb17
      obtain ⟨hf21, hf22, hf23, hr24, hS25⟩ := hI18
      refine W.seq ?_
      refine W.region ?_
      refine WL.val (Value.bool (decide ((k12 : Int) < ((r_Table).length : Int)))) _ (op_lss hf23 hf22) rfl ?_
      have hl26 : (k12 : Int) < ((r_Table).length : Int) := by omega
      refine WL.nil ?_
      show W _ _ _ _ _ _
      refine W.seq ?_
      refine W.condT (decide ((k12 : Int) < ((r_Table).length : Int))) rfl (decide_eq_true hl26) ?_
      refine W.skip ?_
      show W _ _ _ _ _ _
      refine W.seq ?_
      refine W.block ?_
      refine W.seq ?_
      refine W.region ?_
      refine WL.val (Value.int .i64 (k12 : Int)) _ (op_move hf23) rfl ?_
      refine WL.val (Value.int .i64 (k12 : Int)) _ (op_assign rfl) rfl ?_
      refine WL.nil ?_
      show W _ _ _ _ _ _
      refine W.seq ?_
      refine W.region ?_
      refine WL.val (Value.pointer (some ⟨b1, 0, none⟩)) _ (op_fieldAddr fd_29_0 hf21) rfl ?_
      refine WL.val v_r_Table _ (op_load one_22 rfl (BoxAt.cell (BoxAt.lift hS25.ext hx6) rfl)) rfl ?_
      have hr28 := inR_len (Ty.lift _ (Ext.trans hE7 hS25.ext) r_r_Table)
      refine WL.val (Value.int .i64 ((r_Table).length : Int)) _ (op_lenL sl_22 (Ty.lift _ (Ext.trans hE7 hS25.ext) r_r_Table) rfl) rfl ?_
      refine WL.val (Value.int .i64 (0 : Int)) _ (op_move rfl) rfl ?_
      refine WL.nil ?_
      show W _ _ _ _ _ _
      obtain ⟨res29, hres30, hb17⟩ := bs hb17
      refine W.blockLoop (fun fq wq => ∃ s, res29 = Res.fin s ∧ fq 1 = (Value.pointer (some ⟨b1, 0, none⟩)) ∧ fq 7 = (Value.int .i64 ((r_Table).length : Int)) ∧ fq 8 = (Value.int .i64 (k12 : Int)) ∧ St wd2 wq []) ?_ ?_
      · refine W.forN (fun k (s : Unit) fq wq => fq 1 = (Value.pointer (some ⟨b1, 0, none⟩)) ∧ fq 3 = (Value.int .i64 (k12 : Int)) ∧ fq 7 = (Value.int .i64 ((r_Table).length : Int)) ∧ fq 8 = (Value.int .i64 (k12 : Int)) ∧ fq 13 = (Value.int .i64 ((r_Table).length : Int)) ∧ fq 14 = Value.int .i64 (k : Int) ∧ InR .i64 (k : Int) ∧ St wd2 wq []) hres30 ⟨hf21, rfl, hf22, hf23, rfl, rfl, (inR_i64.2 (show (-9223372036854775808 : Int) ≤ 0 ∧ (0 : Int) ≤ 9223372036854775807 from by decide)), hS25⟩ ?_ ?_
        · intro k31 s489 ct32 f33 wd34 hk35 hb36 hI37 hbrk38 hret39
          obtain ⟨⟩ := s489
          replace hI37 : f33 1 = (Value.pointer (some ⟨b1, 0, none⟩)) ∧ f33 3 = (Value.int .i64 (k12 : Int)) ∧ f33 7 = (Value.int .i64 ((r_Table).length : Int)) ∧ f33 8 = (Value.int .i64 (k12 : Int)) ∧ f33 13 = (Value.int .i64 ((r_Table).length : Int)) ∧ f33 14 = Value.int .i64 (k31 : Int) ∧ InR .i64 (k31 : Int) ∧ St wd2 wd34 [] := hI37
          replace hb36 : p_impl_Ring_unitFault_L2 r_Table k12 k31  = some ct32 := hb36
          unfold p_impl_Ring_unitFault_L2 at hb36
          obtain ⟨hf40, hf41, hf42, hf43, hf44, hf45, hr46, hS47⟩ := hI37
          refine W.seq ?_
          refine W.region ?_
          refine WL.val (Value.bool (decide ((k31 : Int) < ((r_Table).length : Int)))) _ (op_lss hf45 hf44) rfl ?_
          have hl48 : (k31 : Int) < ((r_Table).length : Int) := by omega
          refine WL.nil ?_
          show W _ _ _ _ _ _
          refine W.seq ?_
          refine W.condT (decide ((k31 : Int) < ((r_Table).length : Int))) rfl (decide_eq_true hl48) ?_
          refine W.skip ?_
          show W _ _ _ _ _ _
          refine W.seq ?_
          refine W.block ?_
          refine W.seq ?_
          refine W.region ?_
          refine WL.val (Value.int .i64 (k31 : Int)) _ (op_move hf45) rfl ?_
          refine WL.val (Value.int .i64 (k31 : Int)) _ (op_assign rfl) rfl ?_
          refine WL.nil ?_
          show W _ _ _ _ _ _
          refine W.seq ?_
          obtain ⟨x71, hx74, hb36⟩ := bs hb36
          obtain ⟨ha72, hb73, hx74⟩ := idx_some hx74
          obtain ⟨u82, hc83, hr84⟩ := repSl.el r_r_Table hx74
          obtain ⟨x101, hx104, hb36⟩ := bs hb36
          obtain ⟨ha102, hb103, hx104⟩ := idx_some hx104
          obtain ⟨u112, hc113, hr114⟩ := repSl.el hr84 hx104
          obtain ⟨x131, hx134, hb36⟩ := bs hb36
          obtain ⟨ha132, hb133, hx134⟩ := idx_some hx134
          obtain ⟨u142, hc143, hr144⟩ := repSl.el hr114 hx134
          obtain ⟨rfl, hr144⟩ := hr144
          obtain ⟨x169, hx170, hb36⟩ := bs hb36
          obtain ⟨x192, hj193, hb36⟩ := bs hb36
          refine W.cutCode (fun fq wq => fq 1 = (Value.pointer (some ⟨b1, 0, none⟩)) ∧ fq 3 = (Value.int .i64 (k12 : Int)) ∧ fq 4 = (Value.int .i64 (k31 : Int)) ∧ fq 7 = (Value.int .i64 ((r_Table).length : Int)) ∧ fq 8 = (Value.int .i64 (k12 : Int)) ∧ fq 13 = (Value.int .i64 ((r_Table).length : Int)) ∧ fq 14 = (Value.int .i64 (k31 : Int)) ∧ fq 46 = Value.bool x192 ∧ St wd2 wq []) ?_ ?_
          · rcases Bool.eq_false_or_eq_true (x131 != x169) with hc194 | hc194
            · replace hj193 := ip hj193 hc194
              refine W.draw mixo 28 [fun v _ => v = (Value.pointer (some ⟨b1, 0, none⟩)), fun v _ => v = v_r_Table, fun v _ => v = (Value.pointer (some (elA v_r_Table ((0 : Int)).toNat))), fun v _ => v = u82, fun v _ => v = (Value.int .i64 (k12 : Int)) ∧ InR .i64 (k12 : Int), fun v _ => v = (Value.pointer (some (elA u82 ((k12 : Int)).toNat))), fun v _ => v = u112, fun v _ => v = (Value.int .i64 (k31 : Int)) ∧ InR .i64 (k31 : Int), fun v _ => v = (Value.pointer (some (elA u112 ((k31 : Int)).toNat))), fun v _ => v = (Value.int .i64 x131) ∧ InR .i64 x131, fun v _ => v = (Value.int .i64 (k12 : Int)) ∧ InR .i64 (k12 : Int), fun v _ => v = (Value.int .i64 (k31 : Int)) ∧ InR .i64 (k31 : Int), fun v _ => v = (Value.int .i64 x169) ∧ InR .i64 x169, fun v _ => v = (Value.bool (x131 != x169)), fun v _ => v = (Value.bool (x131 != x169)), fun v _ => v = undef, fun v _ => v = undef, fun v _ => v = undef, fun v _ => v = undef, fun v _ => v = undef, fun v _ => v = undef, fun v _ => v = undef, fun v _ => v = undef, fun v _ => v = undef, fun v _ => v = undef, fun v _ => v = undef, fun v _ => v = undef, fun v _ => v = undef] (by kernel_rfl) (by kernel_rfl) (stabL ⟨(fun _ _ _ _ h => h), (fun _ _ _ _ h => h), (fun _ _ _ _ h => h), (fun _ _ _ _ h => h), (fun _ _ _ _ h => h), (fun _ _ _ _ h => h), (fun _ _ _ _ h => h), (fun _ _ _ _ h => h), (fun _ _ _ _ h => h), (fun _ _ _ _ h => h), (fun _ _ _ _ h => h), (fun _ _ _ _ h => h), (fun _ _ _ _ h => h), (fun _ _ _ _ h => h), (fun _ _ _ _ h => h), (fun _ _ _ _ h => h), (fun _ _ _ _ h => h), (fun _ _ _ _ h => h), (fun _ _ _ _ h => h), (fun _ _ _ _ h => h), (fun _ _ _ _ h => h), (fun _ _ _ _ h => h), (fun _ _ _ _ h => h), (fun _ _ _ _ h => h), (fun _ _ _ _ h => h), (fun _ _ _ _ h => h), (fun _ _ _ _ h => h), (fun _ _ _ _ h => h), trivial⟩) ⟨?_, ?_, ?_, ?_, ?_, ?_, ?_, ?_, ?_, ?_, ?_, ?_, ?_, ?_, ?_, ?_, ?_, ?_, ?_, ?_, ?_, ?_, ?_, ?_, ?_, ?_, ?_, ?_, trivial⟩ ?_
              · intro f50 wd51 he52 hout53 hphi54
                have hS55 : St wd2 wd51 [] := St.extend hS47 he52
                have e56 : f50 1 = (Value.pointer (some ⟨b1, 0, none⟩)) := (hout53 1 rfl).trans hf40
                exact OpY.val (Value.pointer (some ⟨b1, 0, none⟩)) wd51 rfl (op_fieldAddr fd_29_0 e56) (Ext.refl _) rfl
              · intro f57 wd58 he59 hout60 hphi61
                have hS62 : St wd2 wd58 [] := St.extend hS47 he59
                have e63 : f57 17 = (Value.pointer (some ⟨b1, 0, none⟩)) := hphi61 0 17 _ rfl rfl rfl
                exact OpY.val v_r_Table wd58 rfl (op_load one_22 e63 (BoxAt.cell (BoxAt.lift hS62.ext hx6) rfl)) (Ext.refl _) rfl
              · intro f64 wd65 he66 hout67 hphi68
                have hS69 : St wd2 wd65 [] := St.extend hS47 he66
                have e70 : f64 18 = v_r_Table := hphi68 1 18 _ rfl rfl rfl
                exact OpY.val (Value.pointer (some (elA v_r_Table ((0 : Int)).toNat))) wd65 rfl (op_idx sl_22 (Ty.lift _ (Ext.trans hE7 hS69.ext) r_r_Table) e70 rfl ha72 hb73) (Ext.refl _) rfl
              · intro f75 wd76 he77 hout78 hphi79
                have hS80 : St wd2 wd76 [] := St.extend hS47 he77
                have e81 : f75 19 = (Value.pointer (some (elA v_r_Table ((0 : Int)).toNat))) := hphi79 2 19 _ rfl rfl rfl
                exact OpY.val u82 wd76 rfl (op_load one_65 e81 (Ext.cell (Ext.trans hE7 hS80.ext) hc83)) (Ext.refl _) rfl
              · intro f85 wd86 he87 hout88 hphi89
                have hS90 : St wd2 wd86 [] := St.extend hS47 he87
                have e91 : f85 3 = (Value.int .i64 (k12 : Int)) := (hout88 3 rfl).trans hf41
                exact OpY.val (Value.int .i64 (k12 : Int)) wd86 rfl (op_move e91) (Ext.refl _) ⟨rfl, hr24⟩
              · intro f92 wd93 he94 hout95 hphi96
                have hS97 : St wd2 wd93 [] := St.extend hS47 he94
                have e98 : f92 20 = u82 := hphi96 3 20 _ rfl rfl rfl
                obtain ⟨e99, hr100⟩ : f92 21 = (Value.int .i64 (k12 : Int)) ∧ InR .i64 (k12 : Int) := hphi96 4 21 _ rfl rfl rfl
                exact OpY.val (Value.pointer (some (elA u82 ((k12 : Int)).toNat))) wd93 rfl (op_idx sl_65 (Ty.lift _ (Ext.trans hE7 hS97.ext) hr84) e98 e99 ha102 hb103) (Ext.refl _) rfl
              · intro f105 wd106 he107 hout108 hphi109
                have hS110 : St wd2 wd106 [] := St.extend hS47 he107
                have e111 : f105 22 = (Value.pointer (some (elA u82 ((k12 : Int)).toNat))) := hphi109 5 22 _ rfl rfl rfl
                exact OpY.val u112 wd106 rfl (op_load one_25 e111 (Ext.cell (Ext.trans hE7 hS110.ext) hc113)) (Ext.refl _) rfl
              · intro f115 wd116 he117 hout118 hphi119
                have hS120 : St wd2 wd116 [] := St.extend hS47 he117
                have e121 : f115 4 = (Value.int .i64 (k31 : Int)) := (hout118 4 rfl).trans rfl
                exact OpY.val (Value.int .i64 (k31 : Int)) wd116 rfl (op_move e121) (Ext.refl _) ⟨rfl, hr46⟩
              · intro f122 wd123 he124 hout125 hphi126
                have hS127 : St wd2 wd123 [] := St.extend hS47 he124
                have e128 : f122 23 = u112 := hphi126 6 23 _ rfl rfl rfl
                obtain ⟨e129, hr130⟩ : f122 24 = (Value.int .i64 (k31 : Int)) ∧ InR .i64 (k31 : Int) := hphi126 7 24 _ rfl rfl rfl
                exact OpY.val (Value.pointer (some (elA u112 ((k31 : Int)).toNat))) wd123 rfl (op_idx sl_25 (Ty.lift _ (Ext.trans hE7 hS127.ext) hr114) e128 e129 ha132 hb133) (Ext.refl _) rfl
              · intro f135 wd136 he137 hout138 hphi139
                have hS140 : St wd2 wd136 [] := St.extend hS47 he137
                have e141 : f135 25 = (Value.pointer (some (elA u112 ((k31 : Int)).toNat))) := hphi139 8 25 _ rfl rfl rfl
                exact OpY.val (Value.int .i64 x131) wd136 rfl (op_load one_2 e141 (Ext.cell (Ext.trans hE7 hS140.ext) hc143)) (Ext.refl _) ⟨rfl, hr144⟩
              · intro f145 wd146 he147 hout148 hphi149
                have hS150 : St wd2 wd146 [] := St.extend hS47 he147
                have e151 : f145 3 = (Value.int .i64 (k12 : Int)) := (hout148 3 rfl).trans hf41
                exact OpY.val (Value.int .i64 (k12 : Int)) wd146 rfl (op_move e151) (Ext.refl _) ⟨rfl, hr24⟩
              · intro f152 wd153 he154 hout155 hphi156
                have hS157 : St wd2 wd153 [] := St.extend hS47 he154
                have e158 : f152 4 = (Value.int .i64 (k31 : Int)) := (hout155 4 rfl).trans rfl
                exact OpY.val (Value.int .i64 (k31 : Int)) wd153 rfl (op_move e158) (Ext.refl _) ⟨rfl, hr46⟩
              · intro f159 wd160 he161 hout162 hphi163
                have hS164 : St wd2 wd160 [] := St.extend hS47 he161
                obtain ⟨e165, hr166⟩ : f159 27 = (Value.int .i64 (k12 : Int)) ∧ InR .i64 (k12 : Int) := hphi163 10 27 _ rfl rfl rfl
                obtain ⟨e167, hr168⟩ : f159 28 = (Value.int .i64 (k31 : Int)) ∧ InR .i64 (k31 : Int) := hphi163 11 28 _ rfl rfl rfl
                refine OpY.call rfl (op_call fn_116 (args2 e165 e167)) (Ret.mono (c_impl_delta hr166 hr168 hx170) ?_)
                rintro _ wd172 ⟨rfl, hr171, he173⟩
                exact ⟨he173, ⟨rfl, hr171⟩⟩
              · intro f175 wd176 he177 hout178 hphi179
                have hS180 : St wd2 wd176 [] := St.extend hS47 he177
                obtain ⟨e181, hr182⟩ : f175 26 = (Value.int .i64 x131) ∧ InR .i64 x131 := hphi179 9 26 _ rfl rfl rfl
                obtain ⟨e183, hr184⟩ : f175 29 = (Value.int .i64 x169) ∧ InR .i64 x169 := hphi179 12 29 _ rfl rfl rfl
                exact OpY.val (Value.bool (x131 != x169)) wd176 rfl (op_neq e181 e183) (Ext.refl _) rfl
              · intro f185 wd186 he187 hout188 hphi189
                have hS190 : St wd2 wd186 [] := St.extend hS47 he187
                have e191 : f185 30 = (Value.bool (x131 != x169)) := hphi189 13 30 _ rfl rfl rfl
                exact OpY.val (Value.bool (x131 != x169)) wd186 rfl (op_move e191) (Ext.refl _) rfl
              · intro f195 wd196 he197 hout198 hphi199
                have e200 : f195 31 = (Value.bool (x131 != x169)) := hphi199 14 31 _ rfl rfl rfl
                exact OpY.skip (wanted_skip rfl rfl e200 hc194) rfl
              · intro f201 wd202 he203 hout204 hphi205
                have e206 : f201 31 = (Value.bool (x131 != x169)) := hphi205 14 31 _ rfl rfl rfl
                exact OpY.skip (wanted_skip rfl rfl e206 hc194) rfl
              · intro f207 wd208 he209 hout210 hphi211
                have e212 : f207 31 = (Value.bool (x131 != x169)) := hphi211 14 31 _ rfl rfl rfl
                exact OpY.skip (wanted_skip rfl rfl e212 hc194) rfl
              · intro f213 wd214 he215 hout216 hphi217
                have e218 : f213 31 = (Value.bool (x131 != x169)) := hphi217 14 31 _ rfl rfl rfl
                exact OpY.skip (wanted_skip rfl rfl e218 hc194) rfl
              · intro f219 wd220 he221 hout222 hphi223
                have e224 : f219 31 = (Value.bool (x131 != x169)) := hphi223 14 31 _ rfl rfl rfl
                exact OpY.skip (wanted_skip rfl rfl e224 hc194) rfl
              · intro f225 wd226 he227 hout228 hphi229
                have e230 : f225 31 = (Value.bool (x131 != x169)) := hphi229 14 31 _ rfl rfl rfl
                exact OpY.skip (wanted_skip rfl rfl e230 hc194) rfl
              · intro f231 wd232 he233 hout234 hphi235
                have e236 : f231 31 = (Value.bool (x131 != x169)) := hphi235 14 31 _ rfl rfl rfl
                exact OpY.skip (wanted_skip rfl rfl e236 hc194) rfl
              · intro f237 wd238 he239 hout240 hphi241
                have e242 : f237 31 = (Value.bool (x131 != x169)) := hphi241 14 31 _ rfl rfl rfl
                exact OpY.skip (wanted_skip rfl rfl e242 hc194) rfl
              · intro f243 wd244 he245 hout246 hphi247
                have e248 : f243 31 = (Value.bool (x131 != x169)) := hphi247 14 31 _ rfl rfl rfl
                exact OpY.skip (wanted_skip rfl rfl e248 hc194) rfl
              · intro f249 wd250 he251 hout252 hphi253
                have e254 : f249 31 = (Value.bool (x131 != x169)) := hphi253 14 31 _ rfl rfl rfl
                exact OpY.skip (wanted_skip rfl rfl e254 hc194) rfl
              · intro f255 wd256 he257 hout258 hphi259
                have e260 : f255 31 = (Value.bool (x131 != x169)) := hphi259 14 31 _ rfl rfl rfl
                exact OpY.skip (wanted_skip rfl rfl e260 hc194) rfl
              · intro f261 wd262 he263 hout264 hphi265
                have e266 : f261 31 = (Value.bool (x131 != x169)) := hphi265 14 31 _ rfl rfl rfl
                exact OpY.skip (wanted_skip rfl rfl e266 hc194) rfl
              · intro f267 wd268 he269 hout270 hphi271
                have e272 : f267 31 = (Value.bool (x131 != x169)) := hphi271 14 31 _ rfl rfl rfl
                exact OpY.skip (wanted_skip rfl rfl e272 hc194) rfl
              · intro f273 wd274 he275 hout276 hphi277
                show WL _ _ _ _ _ _ _
                have hS278 : St wd2 wd274 [] := St.extend hS47 he275
                have e279 : f273 31 = (Value.bool (x131 != x169)) := hphi277 14 31 _ (by decide) rfl rfl
                have e280 : f273 32 = undef := hphi277 15 32 _ (by decide) rfl rfl
                have e281 : f273 33 = undef := hphi277 16 33 _ (by decide) rfl rfl
                have e282 : f273 34 = undef := hphi277 17 34 _ (by decide) rfl rfl
                have e283 : f273 35 = undef := hphi277 18 35 _ (by decide) rfl rfl
                have e284 : f273 36 = undef := hphi277 19 36 _ (by decide) rfl rfl
                have e285 : f273 37 = undef := hphi277 20 37 _ (by decide) rfl rfl
                have e286 : f273 38 = undef := hphi277 21 38 _ (by decide) rfl rfl
                have e287 : f273 39 = undef := hphi277 22 39 _ (by decide) rfl rfl
                have e288 : f273 40 = undef := hphi277 23 40 _ (by decide) rfl rfl
                have e289 : f273 41 = undef := hphi277 24 41 _ (by decide) rfl rfl
                have e290 : f273 42 = undef := hphi277 25 42 _ (by decide) rfl rfl
                have e291 : f273 43 = undef := hphi277 26 43 _ (by decide) rfl rfl
                have e292 : f273 44 = undef := hphi277 27 44 _ (by decide) rfl rfl
                have e293 : f273 1 = (Value.pointer (some ⟨b1, 0, none⟩)) := (hout276 1 rfl).trans hf40
                have e294 : f273 3 = (Value.int .i64 (k12 : Int)) := (hout276 3 rfl).trans hf41
                have e295 : f273 4 = (Value.int .i64 (k31 : Int)) := (hout276 4 rfl).trans rfl
                have e296 : f273 7 = (Value.int .i64 ((r_Table).length : Int)) := (hout276 7 rfl).trans hf42
                have e297 : f273 8 = (Value.int .i64 (k12 : Int)) := (hout276 8 rfl).trans hf43
                have e298 : f273 13 = (Value.int .i64 ((r_Table).length : Int)) := (hout276 13 rfl).trans hf44
                have e299 : f273 14 = (Value.int .i64 (k31 : Int)) := (hout276 14 rfl).trans hf45
                refine WL.gskip rfl (bool_of e279 hc194) rfl ?_
                refine WL.val (Value.bool true) _ (op_pick_t (evb_of e279 hc194) rfl) rfl ?_
                refine WL.nil ?_
                obtain rfl := Option.some.inj hj193
                exact ⟨e293, e294, e295, e296, e297, e298, e299, rfl, hS278⟩
            · replace hj193 := inegb hj193 hc194
              obtain ⟨x334, hx337, hj193⟩ := bs hj193
              obtain ⟨ha335, hb336, hx337⟩ := idx_some hx337
              obtain ⟨u346, hc347, hr348⟩ := repSl.el r_r_Table hx337
              obtain ⟨x357, hx360, hj193⟩ := bs hj193
              obtain ⟨ha358, hb359, hx360⟩ := idx_some hx360
              obtain ⟨u369, hc370, hr371⟩ := repSl.el hr348 hx360
              obtain ⟨x390, hx393, hj193⟩ := bs hj193
              obtain ⟨ha391, hb392, hx393⟩ := idx_some hx393
              obtain ⟨u402, hc403, hr404⟩ := repSl.el hr371 hx393
              obtain ⟨rfl, hr404⟩ := hr404
              obtain ⟨x432, hx433, hj193⟩ := bs hj193
              refine W.draw mixo 28 [fun v _ => v = (Value.pointer (some ⟨b1, 0, none⟩)), fun v _ => v = v_r_Table, fun v _ => v = (Value.pointer (some (elA v_r_Table ((0 : Int)).toNat))), fun v _ => v = u82, fun v _ => v = (Value.int .i64 (k12 : Int)) ∧ InR .i64 (k12 : Int), fun v _ => v = (Value.pointer (some (elA u82 ((k12 : Int)).toNat))), fun v _ => v = u112, fun v _ => v = (Value.int .i64 (k31 : Int)) ∧ InR .i64 (k31 : Int), fun v _ => v = (Value.pointer (some (elA u112 ((k31 : Int)).toNat))), fun v _ => v = (Value.int .i64 x131) ∧ InR .i64 x131, fun v _ => v = (Value.int .i64 (k12 : Int)) ∧ InR .i64 (k12 : Int), fun v _ => v = (Value.int .i64 (k31 : Int)) ∧ InR .i64 (k31 : Int), fun v _ => v = (Value.int .i64 x169) ∧ InR .i64 x169, fun v _ => v = (Value.bool (x131 != x169)), fun v _ => v = (Value.bool (x131 != x169)), fun v _ => v = (Value.pointer (some ⟨b1, 0, none⟩)), fun v _ => v = v_r_Table, fun v _ => v = (Value.int .i64 (k12 : Int)) ∧ InR .i64 (k12 : Int), fun v _ => v = (Value.pointer (some (elA v_r_Table ((k12 : Int)).toNat))), fun v _ => v = u346, fun v _ => v = (Value.pointer (some (elA u346 ((0 : Int)).toNat))), fun v _ => v = u369, fun v _ => v = (Value.int .i64 (k31 : Int)) ∧ InR .i64 (k31 : Int), fun v _ => v = (Value.pointer (some (elA u369 ((k31 : Int)).toNat))), fun v _ => v = (Value.int .i64 x390) ∧ InR .i64 x390, fun v _ => v = (Value.int .i64 (k12 : Int)) ∧ InR .i64 (k12 : Int), fun v _ => v = (Value.int .i64 (k31 : Int)) ∧ InR .i64 (k31 : Int), fun v _ => v = (Value.int .i64 x432) ∧ InR .i64 x432] (by kernel_rfl) (by kernel_rfl) (stabL ⟨(fun _ _ _ _ h => h), (fun _ _ _ _ h => h), (fun _ _ _ _ h => h), (fun _ _ _ _ h => h), (fun _ _ _ _ h => h), (fun _ _ _ _ h => h), (fun _ _ _ _ h => h), (fun _ _ _ _ h => h), (fun _ _ _ _ h => h), (fun _ _ _ _ h => h), (fun _ _ _ _ h => h), (fun _ _ _ _ h => h), (fun _ _ _ _ h => h), (fun _ _ _ _ h => h), (fun _ _ _ _ h => h), (fun _ _ _ _ h => h), (fun _ _ _ _ h => h), (fun _ _ _ _ h => h), (fun _ _ _ _ h => h), (fun _ _ _ _ h => h), (fun _ _ _ _ h => h), (fun _ _ _ _ h => h), (fun _ _ _ _ h => h), (fun _ _ _ _ h => h), (fun _ _ _ _ h => h), (fun _ _ _ _ h => h), (fun _ _ _ _ h => h), (fun _ _ _ _ h => h), trivial⟩) ⟨?_, ?_, ?_, ?_, ?_, ?_, ?_, ?_, ?_, ?_, ?_, ?_, ?_, ?_, ?_, ?_, ?_, ?_, ?_, ?_, ?_, ?_, ?_, ?_, ?_, ?_, ?_, ?_, trivial⟩ ?_
              · intro f50 wd51 he52 hout53 hphi54
                have hS55 : St wd2 wd51 [] := St.extend hS47 he52
                have e56 : f50 1 = (Value.pointer (some ⟨b1, 0, none⟩)) := (hout53 1 rfl).trans hf40
                exact OpY.val (Value.pointer (some ⟨b1, 0, none⟩)) wd51 rfl (op_fieldAddr fd_29_0 e56) (Ext.refl _) rfl
              · intro f57 wd58 he59 hout60 hphi61
                have hS62 : St wd2 wd58 [] := St.extend hS47 he59
                have e63 : f57 17 = (Value.pointer (some ⟨b1, 0, none⟩)) := hphi61 0 17 _ rfl rfl rfl
                exact OpY.val v_r_Table wd58 rfl (op_load one_22 e63 (BoxAt.cell (BoxAt.lift hS62.ext hx6) rfl)) (Ext.refl _) rfl
              · intro f64 wd65 he66 hout67 hphi68
                have hS69 : St wd2 wd65 [] := St.extend hS47 he66
                have e70 : f64 18 = v_r_Table := hphi68 1 18 _ rfl rfl rfl
                exact OpY.val (Value.pointer (some (elA v_r_Table ((0 : Int)).toNat))) wd65 rfl (op_idx sl_22 (Ty.lift _ (Ext.trans hE7 hS69.ext) r_r_Table) e70 rfl ha72 hb73) (Ext.refl _) rfl
              · intro f75 wd76 he77 hout78 hphi79
                have hS80 : St wd2 wd76 [] := St.extend hS47 he77
                have e81 : f75 19 = (Value.pointer (some (elA v_r_Table ((0 : Int)).toNat))) := hphi79 2 19 _ rfl rfl rfl
                exact OpY.val u82 wd76 rfl (op_load one_65 e81 (Ext.cell (Ext.trans hE7 hS80.ext) hc83)) (Ext.refl _) rfl
              · intro f85 wd86 he87 hout88 hphi89
                have hS90 : St wd2 wd86 [] := St.extend hS47 he87
                have e91 : f85 3 = (Value.int .i64 (k12 : Int)) := (hout88 3 rfl).trans hf41
                exact OpY.val (Value.int .i64 (k12 : Int)) wd86 rfl (op_move e91) (Ext.refl _) ⟨rfl, hr24⟩
              · intro f92 wd93 he94 hout95 hphi96
                have hS97 : St wd2 wd93 [] := St.extend hS47 he94
                have e98 : f92 20 = u82 := hphi96 3 20 _ rfl rfl rfl
                obtain ⟨e99, hr100⟩ : f92 21 = (Value.int .i64 (k12 : Int)) ∧ InR .i64 (k12 : Int) := hphi96 4 21 _ rfl rfl rfl
                exact OpY.val (Value.pointer (some (elA u82 ((k12 : Int)).toNat))) wd93 rfl (op_idx sl_65 (Ty.lift _ (Ext.trans hE7 hS97.ext) hr84) e98 e99 ha102 hb103) (Ext.refl _) rfl
              · intro f105 wd106 he107 hout108 hphi109
                have hS110 : St wd2 wd106 [] := St.extend hS47 he107
                have e111 : f105 22 = (Value.pointer (some (elA u82 ((k12 : Int)).toNat))) := hphi109 5 22 _ rfl rfl rfl
                exact OpY.val u112 wd106 rfl (op_load one_25 e111 (Ext.cell (Ext.trans hE7 hS110.ext) hc113)) (Ext.refl _) rfl
              · intro f115 wd116 he117 hout118 hphi119
                have hS120 : St wd2 wd116 [] := St.extend hS47 he117
                have e121 : f115 4 = (Value.int .i64 (k31 : Int)) := (hout118 4 rfl).trans rfl
                exact OpY.val (Value.int .i64 (k31 : Int)) wd116 rfl (op_move e121) (Ext.refl _) ⟨rfl, hr46⟩
              · intro f122 wd123 he124 hout125 hphi126
                have hS127 : St wd2 wd123 [] := St.extend hS47 he124
                have e128 : f122 23 = u112 := hphi126 6 23 _ rfl rfl rfl
                obtain ⟨e129, hr130⟩ : f122 24 = (Value.int .i64 (k31 : Int)) ∧ InR .i64 (k31 : Int) := hphi126 7 24 _ rfl rfl rfl
                exact OpY.val (Value.pointer (some (elA u112 ((k31 : Int)).toNat))) wd123 rfl (op_idx sl_25 (Ty.lift _ (Ext.trans hE7 hS127.ext) hr114) e128 e129 ha132 hb133) (Ext.refl _) rfl
              · intro f135 wd136 he137 hout138 hphi139
                have hS140 : St wd2 wd136 [] := St.extend hS47 he137
                have e141 : f135 25 = (Value.pointer (some (elA u112 ((k31 : Int)).toNat))) := hphi139 8 25 _ rfl rfl rfl
                exact OpY.val (Value.int .i64 x131) wd136 rfl (op_load one_2 e141 (Ext.cell (Ext.trans hE7 hS140.ext) hc143)) (Ext.refl _) ⟨rfl, hr144⟩
              · intro f145 wd146 he147 hout148 hphi149
                have hS150 : St wd2 wd146 [] := St.extend hS47 he147
                have e151 : f145 3 = (Value.int .i64 (k12 : Int)) := (hout148 3 rfl).trans hf41
                exact OpY.val (Value.int .i64 (k12 : Int)) wd146 rfl (op_move e151) (Ext.refl _) ⟨rfl, hr24⟩
              · intro f152 wd153 he154 hout155 hphi156
                have hS157 : St wd2 wd153 [] := St.extend hS47 he154
                have e158 : f152 4 = (Value.int .i64 (k31 : Int)) := (hout155 4 rfl).trans rfl
                exact OpY.val (Value.int .i64 (k31 : Int)) wd153 rfl (op_move e158) (Ext.refl _) ⟨rfl, hr46⟩
              · intro f159 wd160 he161 hout162 hphi163
                have hS164 : St wd2 wd160 [] := St.extend hS47 he161
                obtain ⟨e165, hr166⟩ : f159 27 = (Value.int .i64 (k12 : Int)) ∧ InR .i64 (k12 : Int) := hphi163 10 27 _ rfl rfl rfl
                obtain ⟨e167, hr168⟩ : f159 28 = (Value.int .i64 (k31 : Int)) ∧ InR .i64 (k31 : Int) := hphi163 11 28 _ rfl rfl rfl
                refine OpY.call rfl (op_call fn_116 (args2 e165 e167)) (Ret.mono (c_impl_delta hr166 hr168 hx170) ?_)
                rintro _ wd172 ⟨rfl, hr171, he173⟩
                exact ⟨he173, ⟨rfl, hr171⟩⟩
              · intro f175 wd176 he177 hout178 hphi179
                have hS180 : St wd2 wd176 [] := St.extend hS47 he177
                obtain ⟨e181, hr182⟩ : f175 26 = (Value.int .i64 x131) ∧ InR .i64 x131 := hphi179 9 26 _ rfl rfl rfl
                obtain ⟨e183, hr184⟩ : f175 29 = (Value.int .i64 x169) ∧ InR .i64 x169 := hphi179 12 29 _ rfl rfl rfl
                exact OpY.val (Value.bool (x131 != x169)) wd176 rfl (op_neq e181 e183) (Ext.refl _) rfl
              · intro f185 wd186 he187 hout188 hphi189
                have hS190 : St wd2 wd186 [] := St.extend hS47 he187
                have e191 : f185 30 = (Value.bool (x131 != x169)) := hphi189 13 30 _ rfl rfl rfl
                exact OpY.val (Value.bool (x131 != x169)) wd186 rfl (op_move e191) (Ext.refl _) rfl
              · intro f300 wd301 he302 hout303 hphi304
                have hS305 : St wd2 wd301 [] := St.extend hS47 he302
                have e306 : f300 1 = (Value.pointer (some ⟨b1, 0, none⟩)) := (hout303 1 rfl).trans hf40
                have e307 : f300 31 = (Value.bool (x131 != x169)) := hphi304 14 31 _ rfl rfl rfl
                exact OpY.val (Value.pointer (some ⟨b1, 0, none⟩)) wd301 (wanted_run rfl rfl e307 hc194) (op_fieldAddr fd_29_0 e306) (Ext.refl _) rfl
              · intro f308 wd309 he310 hout311 hphi312
                have hS313 : St wd2 wd309 [] := St.extend hS47 he310
                have e314 : f308 31 = (Value.bool (x131 != x169)) := hphi312 14 31 _ rfl rfl rfl
                have e315 : f308 32 = (Value.pointer (some ⟨b1, 0, none⟩)) := hphi312 15 32 _ rfl rfl rfl
                exact OpY.val v_r_Table wd309 (wanted_run rfl rfl e314 hc194) (op_load one_22 e315 (BoxAt.cell (BoxAt.lift hS313.ext hx6) rfl)) (Ext.refl _) rfl
              · intro f316 wd317 he318 hout319 hphi320
                have hS321 : St wd2 wd317 [] := St.extend hS47 he318
                have e322 : f316 3 = (Value.int .i64 (k12 : Int)) := (hout319 3 rfl).trans hf41
                have e323 : f316 31 = (Value.bool (x131 != x169)) := hphi320 14 31 _ rfl rfl rfl
                exact OpY.val (Value.int .i64 (k12 : Int)) wd317 (wanted_run rfl rfl e323 hc194) (op_move e322) (Ext.refl _) ⟨rfl, hr24⟩
              · intro f324 wd325 he326 hout327 hphi328
                have hS329 : St wd2 wd325 [] := St.extend hS47 he326
                have e330 : f324 31 = (Value.bool (x131 != x169)) := hphi328 14 31 _ rfl rfl rfl
                have e331 : f324 33 = v_r_Table := hphi328 16 33 _ rfl rfl rfl
                obtain ⟨e332, hr333⟩ : f324 34 = (Value.int .i64 (k12 : Int)) ∧ InR .i64 (k12 : Int) := hphi328 17 34 _ rfl rfl rfl
                exact OpY.val (Value.pointer (some (elA v_r_Table ((k12 : Int)).toNat))) wd325 (wanted_run rfl rfl e330 hc194) (op_idx sl_22 (Ty.lift _ (Ext.trans hE7 hS329.ext) r_r_Table) e331 e332 ha335 hb336) (Ext.refl _) rfl
              · intro f338 wd339 he340 hout341 hphi342
                have hS343 : St wd2 wd339 [] := St.extend hS47 he340
                have e344 : f338 31 = (Value.bool (x131 != x169)) := hphi342 14 31 _ rfl rfl rfl
                have e345 : f338 35 = (Value.pointer (some (elA v_r_Table ((k12 : Int)).toNat))) := hphi342 18 35 _ rfl rfl rfl
                exact OpY.val u346 wd339 (wanted_run rfl rfl e344 hc194) (op_load one_65 e345 (Ext.cell (Ext.trans hE7 hS343.ext) hc347)) (Ext.refl _) rfl
              · intro f349 wd350 he351 hout352 hphi353
                have hS354 : St wd2 wd350 [] := St.extend hS47 he351
                have e355 : f349 31 = (Value.bool (x131 != x169)) := hphi353 14 31 _ rfl rfl rfl
                have e356 : f349 36 = u346 := hphi353 19 36 _ rfl rfl rfl
                exact OpY.val (Value.pointer (some (elA u346 ((0 : Int)).toNat))) wd350 (wanted_run rfl rfl e355 hc194) (op_idx sl_65 (Ty.lift _ (Ext.trans hE7 hS354.ext) hr348) e356 rfl ha358 hb359) (Ext.refl _) rfl
              · intro f361 wd362 he363 hout364 hphi365
                have hS366 : St wd2 wd362 [] := St.extend hS47 he363
                have e367 : f361 31 = (Value.bool (x131 != x169)) := hphi365 14 31 _ rfl rfl rfl
                have e368 : f361 37 = (Value.pointer (some (elA u346 ((0 : Int)).toNat))) := hphi365 20 37 _ rfl rfl rfl
                exact OpY.val u369 wd362 (wanted_run rfl rfl e367 hc194) (op_load one_25 e368 (Ext.cell (Ext.trans hE7 hS366.ext) hc370)) (Ext.refl _) rfl
              · intro f372 wd373 he374 hout375 hphi376
                have hS377 : St wd2 wd373 [] := St.extend hS47 he374
                have e378 : f372 4 = (Value.int .i64 (k31 : Int)) := (hout375 4 rfl).trans rfl
                have e379 : f372 31 = (Value.bool (x131 != x169)) := hphi376 14 31 _ rfl rfl rfl
                exact OpY.val (Value.int .i64 (k31 : Int)) wd373 (wanted_run rfl rfl e379 hc194) (op_move e378) (Ext.refl _) ⟨rfl, hr46⟩
              · intro f380 wd381 he382 hout383 hphi384
                have hS385 : St wd2 wd381 [] := St.extend hS47 he382
                have e386 : f380 31 = (Value.bool (x131 != x169)) := hphi384 14 31 _ rfl rfl rfl
                have e387 : f380 38 = u369 := hphi384 21 38 _ rfl rfl rfl
                obtain ⟨e388, hr389⟩ : f380 39 = (Value.int .i64 (k31 : Int)) ∧ InR .i64 (k31 : Int) := hphi384 22 39 _ rfl rfl rfl
                exact OpY.val (Value.pointer (some (elA u369 ((k31 : Int)).toNat))) wd381 (wanted_run rfl rfl e386 hc194) (op_idx sl_25 (Ty.lift _ (Ext.trans hE7 hS385.ext) hr371) e387 e388 ha391 hb392) (Ext.refl _) rfl
              · intro f394 wd395 he396 hout397 hphi398
                have hS399 : St wd2 wd395 [] := St.extend hS47 he396
                have e400 : f394 31 = (Value.bool (x131 != x169)) := hphi398 14 31 _ rfl rfl rfl
                have e401 : f394 40 = (Value.pointer (some (elA u369 ((k31 : Int)).toNat))) := hphi398 23 40 _ rfl rfl rfl
                exact OpY.val (Value.int .i64 x390) wd395 (wanted_run rfl rfl e400 hc194) (op_load one_2 e401 (Ext.cell (Ext.trans hE7 hS399.ext) hc403)) (Ext.refl _) ⟨rfl, hr404⟩
              · intro f405 wd406 he407 hout408 hphi409
                have hS410 : St wd2 wd406 [] := St.extend hS47 he407
                have e411 : f405 3 = (Value.int .i64 (k12 : Int)) := (hout408 3 rfl).trans hf41
                have e412 : f405 31 = (Value.bool (x131 != x169)) := hphi409 14 31 _ rfl rfl rfl
                exact OpY.val (Value.int .i64 (k12 : Int)) wd406 (wanted_run rfl rfl e412 hc194) (op_move e411) (Ext.refl _) ⟨rfl, hr24⟩
              · intro f413 wd414 he415 hout416 hphi417
                have hS418 : St wd2 wd414 [] := St.extend hS47 he415
                have e419 : f413 4 = (Value.int .i64 (k31 : Int)) := (hout416 4 rfl).trans rfl
                have e420 : f413 31 = (Value.bool (x131 != x169)) := hphi417 14 31 _ rfl rfl rfl
                exact OpY.val (Value.int .i64 (k31 : Int)) wd414 (wanted_run rfl rfl e420 hc194) (op_move e419) (Ext.refl _) ⟨rfl, hr46⟩
              · intro f421 wd422 he423 hout424 hphi425
                have hS426 : St wd2 wd422 [] := St.extend hS47 he423
                have e427 : f421 31 = (Value.bool (x131 != x169)) := hphi425 14 31 _ rfl rfl rfl
                obtain ⟨e428, hr429⟩ : f421 42 = (Value.int .i64 (k12 : Int)) ∧ InR .i64 (k12 : Int) := hphi425 25 42 _ rfl rfl rfl
                obtain ⟨e430, hr431⟩ : f421 43 = (Value.int .i64 (k31 : Int)) ∧ InR .i64 (k31 : Int) := hphi425 26 43 _ rfl rfl rfl
                refine OpY.call (wanted_run rfl rfl e427 hc194) (op_call fn_116 (args2 e428 e430)) (Ret.mono (c_impl_delta hr429 hr431 hx433) ?_)
                rintro _ wd435 ⟨rfl, hr434, he436⟩
                exact ⟨he436, ⟨rfl, hr434⟩⟩
              · intro f438 wd439 he440 hout441 hphi442
                show WL _ _ _ _ _ _ _
                have hS443 : St wd2 wd439 [] := St.extend hS47 he440
                have e444 : f438 31 = (Value.bool (x131 != x169)) := hphi442 14 31 _ (by decide) rfl rfl
                have e445 : f438 32 = (Value.pointer (some ⟨b1, 0, none⟩)) := hphi442 15 32 _ (by decide) rfl rfl
                have e446 : f438 33 = v_r_Table := hphi442 16 33 _ (by decide) rfl rfl
                obtain ⟨e447, hr448⟩ : f438 34 = (Value.int .i64 (k12 : Int)) ∧ InR .i64 (k12 : Int) := hphi442 17 34 _ (by decide) rfl rfl
                have e449 : f438 35 = (Value.pointer (some (elA v_r_Table ((k12 : Int)).toNat))) := hphi442 18 35 _ (by decide) rfl rfl
                have e450 : f438 36 = u346 := hphi442 19 36 _ (by decide) rfl rfl
                have e451 : f438 37 = (Value.pointer (some (elA u346 ((0 : Int)).toNat))) := hphi442 20 37 _ (by decide) rfl rfl
                have e452 : f438 38 = u369 := hphi442 21 38 _ (by decide) rfl rfl
                obtain ⟨e453, hr454⟩ : f438 39 = (Value.int .i64 (k31 : Int)) ∧ InR .i64 (k31 : Int) := hphi442 22 39 _ (by decide) rfl rfl
                have e455 : f438 40 = (Value.pointer (some (elA u369 ((k31 : Int)).toNat))) := hphi442 23 40 _ (by decide) rfl rfl
                obtain ⟨e456, hr457⟩ : f438 41 = (Value.int .i64 x390) ∧ InR .i64 x390 := hphi442 24 41 _ (by decide) rfl rfl
                obtain ⟨e458, hr459⟩ : f438 42 = (Value.int .i64 (k12 : Int)) ∧ InR .i64 (k12 : Int) := hphi442 25 42 _ (by decide) rfl rfl
                obtain ⟨e460, hr461⟩ : f438 43 = (Value.int .i64 (k31 : Int)) ∧ InR .i64 (k31 : Int) := hphi442 26 43 _ (by decide) rfl rfl
                obtain ⟨e462, hr463⟩ : f438 44 = (Value.int .i64 x432) ∧ InR .i64 x432 := hphi442 27 44 _ (by decide) rfl rfl
                have e464 : f438 1 = (Value.pointer (some ⟨b1, 0, none⟩)) := (hout441 1 rfl).trans hf40
                have e465 : f438 3 = (Value.int .i64 (k12 : Int)) := (hout441 3 rfl).trans hf41
                have e466 : f438 4 = (Value.int .i64 (k31 : Int)) := (hout441 4 rfl).trans rfl
                have e467 : f438 7 = (Value.int .i64 ((r_Table).length : Int)) := (hout441 7 rfl).trans hf42
                have e468 : f438 8 = (Value.int .i64 (k12 : Int)) := (hout441 8 rfl).trans hf43
                have e469 : f438 13 = (Value.int .i64 ((r_Table).length : Int)) := (hout441 13 rfl).trans hf44
                have e470 : f438 14 = (Value.int .i64 (k31 : Int)) := (hout441 14 rfl).trans hf45
                refine WL.grun rfl (bool_of e444 hc194) ?_
                refine WL.val (Value.bool (x390 != x432)) _ (op_neq e456 e462) rfl ?_
                refine WL.val (Value.bool (x390 != x432)) _ (op_pick_f (evb_of e444 hc194) rfl) rfl ?_
                refine WL.nil ?_
                obtain rfl := Option.some.inj hj193
                exact ⟨e464, e465, e466, e467, e468, e469, e470, rfl, hS443⟩
          · intro f471 wd472 hq473
            obtain ⟨hf474, hf475, hf476, hf477, hf478, hf479, hf480, hf481, hS482⟩ := hq473
            show W _ _ _ _ _ _
            refine W.cond x192 hf481 (fun hc483 => ?_) (fun hc483 => ?_)
            · replace hb36 := ip hb36 hc483
              refine W.seq ?_
              refine W.region ?_
              refine WL.val (Value.int .i64 (k12 : Int)) _ (op_move hf475) rfl ?_
              refine WL.val (Value.int .i64 (k31 : Int)) _ (op_move hf476) rfl ?_
              refine WL.litFlat (t := (Ty.i .i64)) (flat_i .i64) [(Value.int .i64 (0 : Int)), (Value.int .i64 (k12 : Int)), (Value.int .i64 (k31 : Int))] [(0 : Int), (k12 : Int), (k31 : Int)] hS482 sl_25 rfl rfl (fillL rfl ⟨rfl, rfl, rfl, rfl, rfl, rfl, rfl, rfl, rfl, trivial⟩) rfl rfl (litL ⟨⟨rfl, (inR_i64.2 (show (-9223372036854775808 : Int) ≤ 0 ∧ (0 : Int) ≤ 9223372036854775807 from by decide))⟩, ⟨rfl, hr24⟩, ⟨rfl, hr46⟩, trivial⟩) rfl ?_
              intro u485 wd486 hS487 he488
              replace hS487 : St wd2 wd486 [(Ty.sl (Ty.i .i64)).at u485 ([(0 : Int), (k12 : Int), (k31 : Int)] : (List Int))] := hS487
              refine WL.val u485 _ (op_assign rfl) rfl ?_
              refine WL.nil ?_
              show W _ _ _ _ _ _
              refine W.ret ?_
              obtain rfl := Option.some.inj hb36
              obtain rfl := hret39 _ rfl
              replace hb17 := onRes_ret hb17
              obtain rfl := Option.some.inj hb17
              obtain rfl := hret20 _ rfl
              replace h := onRes_ret h
              obtain rfl := Option.some.inj h
              show FinP _ _ _ _ _ _ _
              exact FinP.ret _ (res1 rfl rfl) ⟨u485, rfl, (nil_cons), (Ext.trans hE7 hS487.ext), (St.out (St.pick hS487 [0] rfl) (hE7))⟩
            · replace hb36 := inegb hb36 hc483
              refine W.skip ?_
              show W _ _ _ _ _ _
              refine W.region ?_
              refine WL.val (Value.int .i64 (w64 ((k31 : Int) + (1 : Int)))) _ (op_add hf480 rfl) rfl ?_
              refine WL.val (Value.int .i64 (w64 ((k31 : Int) + (1 : Int)))) _ (op_move rfl) rfl ?_
              refine WL.nil ?_
              obtain rfl := Option.some.inj hb36
              show ∃ s, _ = Ctl.next s ∧ _
              exact ⟨_, rfl, hf474, hf475, hf477, hf478, hf479, (ctr_next hl48 hr28), (ctr_rng hl48 hr28), hS482⟩
        · intro s494 f490 wd491 hs492 hI493
          obtain ⟨⟩ := s494
          replace hI493 : f490 1 = (Value.pointer (some ⟨b1, 0, none⟩)) ∧ f490 3 = (Value.int .i64 (k12 : Int)) ∧ f490 7 = (Value.int .i64 ((r_Table).length : Int)) ∧ f490 8 = (Value.int .i64 (k12 : Int)) ∧ f490 13 = (Value.int .i64 ((r_Table).length : Int)) ∧ f490 14 = Value.int .i64 (((r_Table).length : Nat) : Int) ∧ InR .i64 (((r_Table).length : Nat) : Int) ∧ St wd2 wd491 [] := hI493
          obtain ⟨hf495, hf496, hf497, hf498, hf499, hf500, hr501, hS502⟩ := hI493
          refine W.seq ?_
          refine W.region ?_
          refine WL.val (Value.bool (decide ((((r_Table).length : Nat) : Int) < ((r_Table).length : Int)))) _ (op_lss hf500 hf499) rfl ?_
          have hl503 : ¬ (((r_Table).length : Nat) : Int) < ((r_Table).length : Int) := by omega
          refine WL.nil ?_
          show W _ _ _ _ _ _
          refine W.seq ?_
          refine W.condF (decide ((((r_Table).length : Nat) : Int) < ((r_Table).length : Int))) rfl (decide_eq_false hl503) ?_
          refine W.exit ?_
          show _ = _ ∧ _
          exact ⟨rfl, _, hs492, hf495, hf497, hf498, hS502⟩
      · rintro f504 wd505 ⟨s507, rfl, hq506⟩
        replace hb17 := onRes_fin hb17
        obtain ⟨⟩ := s507
        replace hq506 : f504 1 = (Value.pointer (some ⟨b1, 0, none⟩)) ∧ f504 7 = (Value.int .i64 ((r_Table).length : Int)) ∧ f504 8 = (Value.int .i64 (k12 : Int)) ∧ St wd2 wd505 [] := hq506
        obtain ⟨hf508, hf509, hf510, hS511⟩ := hq506
        show W _ _ _ _ _ _
        refine W.region ?_
        refine WL.val (Value.int .i64 (w64 ((k12 : Int) + (1 : Int)))) _ (op_add hf510 rfl) rfl ?_
        refine WL.val (Value.int .i64 (w64 ((k12 : Int) + (1 : Int)))) _ (op_move rfl) rfl ?_
        refine WL.nil ?_
        obtain rfl := Option.some.inj hb17
        show ∃ s, _ = Ctl.next s ∧ _
        exact ⟨_, rfl, hf508, hf509, (ctr_next hl26 hr9), (ctr_rng hl26 hr9), hS511⟩
    · intro s518 f514 wd515 hs516 hI517
      obtain ⟨⟩ := s518
      replace hI517 : f514 1 = (Value.pointer (some ⟨b1, 0, none⟩)) ∧ f514 7 = (Value.int .i64 ((r_Table).length : Int)) ∧ f514 8 = Value.int .i64 (((r_Table).length : Nat) : Int) ∧ InR .i64 (((r_Table).length : Nat) : Int) ∧ St wd2 wd515 [] := hI517
      obtain ⟨hf519, hf520, hf521, hr522, hS523⟩ := hI517
      refine W.seq ?_
      refine W.region ?_
      refine WL.val (Value.bool (decide ((((r_Table).length : Nat) : Int) < ((r_Table).length : Int)))) _ (op_lss hf521 hf520) rfl ?_
      have hl524 : ¬ (((r_Table).length : Nat) : Int) < ((r_Table).length : Int) := by omega
      refine WL.nil ?_
      show W _ _ _ _ _ _
      refine W.seq ?_
      refine W.condF (decide ((((r_Table).length : Nat) : Int) < ((r_Table).length : Int))) rfl (decide_eq_false hl524) ?_
      refine W.exit ?_
      show _ = _ ∧ _
      exact ⟨rfl, _, hs516, hS523⟩
  · rintro f525 wd526 ⟨s528, rfl, hq527⟩
    replace h := onRes_fin h
    obtain ⟨⟩ := s528
    replace hq527 : St wd2 wd526 [] := hq527
    have hS529 := hq527
    show W _ _ _ _ _ _
    refine W.seq ?_
    refine W.region ?_
    refine WL.val (Value.slice none 0 0) _ (op_assign rfl) rfl ?_
    refine WL.nil ?_
    show W _ _ _ _ _ _
    refine W.ret ?_
    obtain rfl := Option.some.inj h
    show FinP _ _ _ _ _ _ _
    exact FinP.ret _ (res1 rfl rfl) ⟨(Value.slice none 0 0), rfl, (fun _ => ⟨0, 0, rfl⟩), (Ext.trans hE7 hS529.ext), (St.out (St.pick (St.addNil (Ty.i .i64) hS529) [0] rfl) (hE7))⟩

theorem c_impl_Ring_onlyOf {w : World} {r_Table : (List (List (List Int)))} {v_r_Table : Value} {i : Int} (r_r_Table : (Ty.sl (Ty.sl (Ty.sl (Ty.i .i64)))).rep w v_r_Table r_Table) (r_i : InR .i64 i) {res : Int} (h : p_impl_Ring_onlyOf r_Table i  = some res) :
    Ret Try.prog 110 #[(Value.agg #[v_r_Table]), (Value.int .i64 i)] w (fun v w' => v = Value.int .i64 res ∧ InR .i64 res ∧ Ext w w') := by
  unfold p_impl_Ring_onlyOf at h
  have hS0 : St w w [] := St.start w
  refine Ret.start (fn := Try.f110) Try.func110 rfl 34 rfl rfl ?_
  refine W.seq ?_
  refine W.region ?_
  refine WL.box hS0 rfl (cs := [v_r_Table]) rfl rfl ?_
  intro b1 wd2 hS3 he4 hx5
  replace hS3 : St w wd2 [bx b1 [v_r_Table]] := hS3
  have hx6 := St.boxAt hS3 0 rfl
  have hE7 : Ext w wd2 := hS3.ext
  have hS8 : St wd2 wd2 [] := St.start wd2
  refine WL.val (Value.int .i64 (0 : Int)) _ (op_assign rfl) rfl ?_
  refine WL.nil ?_
  show W _ _ _ _ _ _
  refine W.seq ?_
  refine W.region ?_
  refine WL.val (Value.int .i64 (-1 : Int)) _ (op_assign rfl) rfl ?_
  refine WL.nil ?_
  show W _ _ _ _ _ _
  refine W.seq ?_
  refine W.seq ?_
  refine W.region ?_
  refine WL.val (Value.pointer (some ⟨b1, 0, none⟩)) _ (op_fieldAddr fd_29_0 rfl) rfl ?_
  refine WL.val v_r_Table _ (op_load one_22 rfl (BoxAt.cell (BoxAt.lift hS8.ext hx6) rfl)) rfl ?_
  refine WL.val (Value.int .i64 i) _ (op_move rfl) rfl ?_
  obtain ⟨x9, hx12, h⟩ := bs h
  obtain ⟨ha10, hb11, hx12⟩ := idx_some hx12
  refine WL.val (Value.pointer (some (elA v_r_Table (i).toNat))) _ (op_idx sl_22 (Ty.lift _ (Ext.trans hE7 hS8.ext) r_r_Table) rfl rfl ha10 hb11) rfl ?_
  obtain ⟨u13, hc14, hr15⟩ := repSl.el r_r_Table hx12
  refine WL.val u13 _ (op_load one_65 rfl (Ext.cell (Ext.trans hE7 hS8.ext) hc14)) rfl ?_
  have hr16 := inR_len (Ty.lift _ (Ext.trans hE7 hS8.ext) hr15)
  refine WL.val (Value.int .i64 ((x9).length : Int)) _ (op_lenL sl_65 (Ty.lift _ (Ext.trans hE7 hS8.ext) hr15) rfl) rfl ?_
  refine WL.val (Value.int .i64 (0 : Int)) _ (op_move rfl) rfl ?_
  refine WL.nil ?_
  show W _ _ _ _ _ _
  obtain ⟨res17, hres18, h⟩ := bs h
  refine W.blockLoop (fun fq wq => ∃ s, res17 = Res.fin s ∧ fq 5 = Value.int .i64 s ∧ InR .i64 s ∧ St wd2 wq []) ?_ ?_
  · refine W.forN (fun k (s : Int) fq wq => fq 5 = Value.int .i64 s ∧ InR .i64 s ∧ fq 12 = u13 ∧ fq 13 = (Value.int .i64 ((x9).length : Int)) ∧ fq 14 = Value.int .i64 (k : Int) ∧ InR .i64 (k : Int) ∧ St wd2 wq []) hres18 ⟨rfl, (inR_i64.2 (show (-9223372036854775808 : Int) ≤ -1 ∧ (-1 : Int) ≤ 9223372036854775807 from by decide)), rfl, rfl, rfl, (inR_i64.2 (show (-9223372036854775808 : Int) ≤ 0 ∧ (0 : Int) ≤ 9223372036854775807 from by decide)), hS8⟩ ?_ ?_
    · intro k19 x20 ct21 f22 wd23 hk24 hb25 hI26 hbrk27 hret28
      replace hI26 : f22 5 = Value.int .i64 x20 ∧ InR .i64 x20 ∧ f22 12 = u13 ∧ f22 13 = (Value.int .i64 ((x9).length : Int)) ∧ f22 14 = Value.int .i64 (k19 : Int) ∧ InR .i64 (k19 : Int) ∧ St wd2 wd23 [] := hI26
      replace hb25 : p_impl_Ring_onlyOf_L1 x9 k19 x20 = some ct21 := hb25
      unfold p_impl_Ring_onlyOf_L1 at hb25
      obtain ⟨hf29, hr30, hf31, hf32, hf33, hr34, hS35⟩ := hI26
      refine W.seq ?_
      refine W.region ?_
      refine WL.val (Value.bool (decide ((k19 : Int) < ((x9).length : Int)))) _ (op_lss hf33 hf32) rfl ?_
      have hl36 : (k19 : Int) < ((x9).length : Int) := by omega
      refine WL.nil ?_
      show W _ _ _ _ _ _
      refine W.seq ?_
      refine W.condT (decide ((k19 : Int) < ((x9).length : Int))) rfl (decide_eq_true hl36) ?_
      refine W.skip ?_
      show W _ _ _ _ _ _
      refine W.seq ?_
      refine W.block ?_
      refine W.seq ?_
      refine W.region ?_
      refine WL.val (Value.int .i64 (k19 : Int)) _ (op_move hf33) rfl ?_
      obtain ⟨x38, hx41, hb25⟩ := bs hb25
      obtain ⟨ha39, hb40, hx41⟩ := idx_some hx41
      refine WL.val (Value.pointer (some (elA u13 ((k19 : Int)).toNat))) _ (op_idx sl_65 (Ty.lift _ (Ext.trans hE7 hS35.ext) hr15) hf31 hf33 ha39 hb40) rfl ?_
      obtain ⟨u42, hc43, hr44⟩ := repSl.el hr15 hx41
      refine WL.val u42 _ (op_load one_25 rfl (Ext.cell (Ext.trans hE7 hS35.ext) hc43)) rfl ?_
      refine WL.val (Value.int .i64 (k19 : Int)) _ (op_assign rfl) rfl ?_
      refine WL.val u42 _ (op_assign rfl) rfl ?_
      refine WL.nil ?_
      show W _ _ _ _ _ _
      refine W.seq ?_
      refine W.seq ?_
      refine W.region ?_
      refine WL.val u42 _ (op_move rfl) rfl ?_
      obtain ⟨x45, hx48, hb25⟩ := bs hb25
      obtain ⟨ha46, hb47, hx48⟩ := idx_some hx48
      refine WL.val (Value.pointer (some (elA u42 ((0 : Int)).toNat))) _ (op_idx sl_25 (Ty.lift _ (Ext.trans hE7 hS35.ext) hr44) rfl rfl ha46 hb47) rfl ?_
      obtain ⟨u49, hc50, hr51⟩ := repSl.el hr44 hx48
      obtain ⟨rfl, hr51⟩ := hr51
      refine WL.val (Value.int .i64 x45) _ (op_load one_2 rfl (Ext.cell (Ext.trans hE7 hS35.ext) hc50)) rfl ?_
      refine WL.val (Value.bool (x45 == (0 : Int))) _ (op_eql rfl rfl) rfl ?_
      refine WL.nil ?_
      show W _ _ _ _ _ _
      refine W.cond (x45 == (0 : Int)) rfl (fun hc52 => ?_) (fun hc52 => ?_)
      · replace hb25 := ip hb25 hc52
        refine W.exit ?_
        show W _ _ _ _ _ _
        refine W.region ?_
        refine WL.val (Value.int .i64 (w64 ((k19 : Int) + (1 : Int)))) _ (op_add hf33 rfl) rfl ?_
        refine WL.val (Value.int .i64 (w64 ((k19 : Int) + (1 : Int)))) _ (op_move rfl) rfl ?_
        refine WL.nil ?_
        obtain rfl := Option.some.inj hb25
        show ∃ s, _ = Ctl.next s ∧ _
        exact ⟨_, rfl, hf29, hr30, hf31, hf32, (ctr_next hl36 hr16), (ctr_rng hl36 hr16), hS35⟩
      · replace hb25 := inegb hb25 hc52
        refine W.skip ?_
        show W _ _ _ _ _ _
        refine W.seq ?_
        refine W.seq ?_
        refine W.region ?_
        refine WL.val (Value.int .i64 x20) _ (op_move hf29) rfl ?_
        refine WL.val (Value.bool (decide (x20 ≥ (0 : Int)))) _ (op_geq rfl rfl) rfl ?_
        refine WL.val (Value.bool (decide (x20 ≥ (0 : Int)))) _ (op_move rfl) rfl ?_
        refine WL.cut 5 (fun fq wq => fq 6 = (Value.int .i64 (k19 : Int)) ∧ fq 12 = u13 ∧ fq 13 = (Value.int .i64 ((x9).length : Int)) ∧ fq 14 = (Value.int .i64 (k19 : Int)) ∧ fq 30 = (Value.bool ((decide (x20 ≥ (0 : Int))) || (x45 != (1 : Int)))) ∧ St wd2 wq []) ?_ ?_
        · rcases Bool.eq_false_or_eq_true (decide (x20 ≥ (0 : Int))) with hc54 | hc54
          · refine WL.gskip rfl (bool_of rfl hc54) rfl ?_
            refine WL.gskip rfl (bool_of rfl hc54) rfl ?_
            refine WL.gskip rfl (bool_of rfl hc54) rfl ?_
            refine WL.gskip rfl (bool_of rfl hc54) rfl ?_
            refine WL.val (Value.bool true) _ (op_pick_t (evb_of rfl hc54) rfl) rfl ?_
            refine WL.nil ?_
            exact ⟨rfl, rfl, hf31, hf32, hf33, (orT hc54), hS35⟩
          · refine WL.grun rfl (bool_of rfl hc54) ?_
            refine WL.val u42 _ (op_move rfl) rfl ?_
            refine WL.grun rfl (bool_of rfl hc54) ?_
            refine WL.val (Value.pointer (some (elA u42 ((0 : Int)).toNat))) _ (op_idx sl_25 (Ty.lift _ (Ext.trans hE7 hS35.ext) hr44) rfl rfl ha46 hb47) rfl ?_
            refine WL.grun rfl (bool_of rfl hc54) ?_
            obtain ⟨u58, hc59, hr60⟩ := repSl.el hr44 hx48
            obtain ⟨rfl, hr60⟩ := hr60
            refine WL.val (Value.int .i64 x45) _ (op_load one_2 rfl (Ext.cell (Ext.trans hE7 hS35.ext) hc59)) rfl ?_
            refine WL.grun rfl (bool_of rfl hc54) ?_
            refine WL.val (Value.bool (x45 != (1 : Int))) _ (op_neq rfl rfl) rfl ?_
            refine WL.val (Value.bool (x45 != (1 : Int))) _ (op_pick_f (evb_of rfl hc54) rfl) rfl ?_
            refine WL.nil ?_
            exact ⟨rfl, rfl, hf31, hf32, hf33, (orF hc54), hS35⟩
        · intro f55 wd56 hq57
          obtain ⟨hf61, hf62, hf63, hf64, hf65, hS66⟩ := hq57
          refine WL.nil ?_
          show W _ _ _ _ _ _
          refine W.cond ((decide (x20 ≥ (0 : Int))) || (x45 != (1 : Int))) hf65 (fun hc67 => ?_) (fun hc67 => ?_)
          · replace hb25 := ip hb25 hc67
            refine W.seq ?_
            refine W.region ?_
            refine WL.val (Value.int .i64 (-1 : Int)) _ (op_assign rfl) rfl ?_
            refine WL.nil ?_
            show W _ _ _ _ _ _
            refine W.ret ?_
            obtain rfl := Option.some.inj hb25
            obtain rfl := hret28 _ rfl
            replace h := onRes_ret h
            obtain rfl := Option.some.inj h
            show FinP _ _ _ _ _ _ _
            exact FinP.ret _ (res1 rfl rfl) ⟨rfl, (inR_i64.2 (show (-9223372036854775808 : Int) ≤ -1 ∧ (-1 : Int) ≤ 9223372036854775807 from by decide)), (Ext.trans hE7 hS66.ext)⟩
          · replace hb25 := inegb hb25 hc67
            refine W.skip ?_
            show W _ _ _ _ _ _
            refine W.region ?_
            refine WL.val (Value.int .i64 (k19 : Int)) _ (op_move hf61) rfl ?_
            refine WL.val (Value.int .i64 (k19 : Int)) _ (op_assign rfl) rfl ?_
            refine WL.nil ?_
            show W _ _ _ _ _ _
            refine W.region ?_
            refine WL.val (Value.int .i64 (w64 ((k19 : Int) + (1 : Int)))) _ (op_add hf64 rfl) rfl ?_
            refine WL.val (Value.int .i64 (w64 ((k19 : Int) + (1 : Int)))) _ (op_move rfl) rfl ?_
            refine WL.nil ?_
            obtain rfl := Option.some.inj hb25
            show ∃ s, _ = Ctl.next s ∧ _
            exact ⟨_, rfl, rfl, hr34, hf62, hf63, (ctr_next hl36 hr16), (ctr_rng hl36 hr16), hS66⟩
    · intro x75 f70 wd71 hs72 hI73
      replace hI73 : f70 5 = Value.int .i64 x75 ∧ InR .i64 x75 ∧ f70 12 = u13 ∧ f70 13 = (Value.int .i64 ((x9).length : Int)) ∧ f70 14 = Value.int .i64 (((x9).length : Nat) : Int) ∧ InR .i64 (((x9).length : Nat) : Int) ∧ St wd2 wd71 [] := hI73
      obtain ⟨hf76, hr77, hf78, hf79, hf80, hr81, hS82⟩ := hI73
      refine W.seq ?_
      refine W.region ?_
      refine WL.val (Value.bool (decide ((((x9).length : Nat) : Int) < ((x9).length : Int)))) _ (op_lss hf80 hf79) rfl ?_
      have hl83 : ¬ (((x9).length : Nat) : Int) < ((x9).length : Int) := by omega
      refine WL.nil ?_
      show W _ _ _ _ _ _
      refine W.seq ?_
      refine W.condF (decide ((((x9).length : Nat) : Int) < ((x9).length : Int))) rfl (decide_eq_false hl83) ?_
      refine W.exit ?_
      show _ = _ ∧ _
      exact ⟨rfl, _, hs72, hf76, hr77, hS82⟩
  · rintro f84 wd85 ⟨x88, rfl, hq86⟩
    replace h := onRes_fin h
    replace hq86 : f84 5 = Value.int .i64 x88 ∧ InR .i64 x88 ∧ St wd2 wd85 [] := hq86
    obtain ⟨hf89, hr90, hS91⟩ := hq86
    show W _ _ _ _ _ _
    refine W.seq ?_
    refine W.region ?_
    refine WL.val (Value.int .i64 x88) _ (op_move hf89) rfl ?_
    refine WL.val (Value.int .i64 x88) _ (op_assign rfl) rfl ?_
    refine WL.nil ?_
    show W _ _ _ _ _ _
    refine W.ret ?_
    obtain rfl := Option.some.inj h
    show FinP _ _ _ _ _ _ _
    exact FinP.ret _ (res1 rfl rfl) ⟨rfl, hr90, (Ext.trans hE7 hS91.ext)⟩

theorem c_impl_Ring_dualFault {w : World} {r_Table : (List (List (List Int)))} {v_r_Table : Value} (r_r_Table : (Ty.sl (Ty.sl (Ty.sl (Ty.i .i64)))).rep w v_r_Table r_Table) {res : Int} (h : p_impl_Ring_dualFault r_Table  = some res) :
    Ret Try.prog 105 #[(Value.agg #[v_r_Table])] w (fun v w' => v = Value.int .i64 res ∧ InR .i64 res ∧ Ext w w') := by
  unfold p_impl_Ring_dualFault at h
  have hS0 : St w w [] := St.start w
  refine Ret.start (fn := Try.f105) Try.func105 rfl 25 rfl rfl ?_
  refine W.seq ?_
  refine W.region ?_
  refine WL.box hS0 rfl (cs := [v_r_Table]) rfl rfl ?_
  intro b1 wd2 hS3 he4 hx5
  replace hS3 : St w wd2 [bx b1 [v_r_Table]] := hS3
  have hx6 := St.boxAt hS3 0 rfl
  have hE7 : Ext w wd2 := hS3.ext
  have hS8 : St wd2 wd2 [] := St.start wd2
  refine WL.val (Value.int .i64 (0 : Int)) _ (op_assign rfl) rfl ?_
  refine WL.nil ?_
  show W _ _ _ _ _ _
  refine W.seq ?_
  refine W.seq ?_
  refine W.region ?_
  refine WL.val (Value.pointer (some ⟨b1, 0, none⟩)) _ (op_fieldAddr fd_29_0 rfl) rfl ?_
  refine WL.val v_r_Table _ (op_load one_22 rfl (BoxAt.cell (BoxAt.lift hS8.ext hx6) rfl)) rfl ?_
  have hr9 := inR_len (Ty.lift _ (Ext.trans hE7 hS8.ext) r_r_Table)
  refine WL.val (Value.int .i64 ((r_Table).length : Int)) _ (op_lenL sl_22 (Ty.lift _ (Ext.trans hE7 hS8.ext) r_r_Table) rfl) rfl ?_
  refine WL.val (Value.int .i64 (0 : Int)) _ (op_move rfl) rfl ?_
  refine WL.nil ?_
  show W _ _ _ _ _ _
  obtain ⟨res10, hres11, h⟩ := bs h
  refine W.blockLoop (fun fq wq => ∃ s, res10 = Res.fin s ∧ St wd2 wq []) ?_ ?_
  · refine W.forN (fun k (s : Unit) fq wq => fq 1 = (Value.pointer (some ⟨b1, 0, none⟩)) ∧ fq 7 = (Value.int .i64 ((r_Table).length : Int)) ∧ fq 8 = Value.int .i64 (k : Int) ∧ InR .i64 (k : Int) ∧ St wd2 wq []) hres11 ⟨rfl, rfl, rfl, (inR_i64.2 (show (-9223372036854775808 : Int) ≤ 0 ∧ (0 : Int) ≤ 9223372036854775807 from by decide)), hS8⟩ ?_ ?_
    · intro k12 s56 ct13 f14 wd15 hk16 hb17 hI18 hbrk19 hret20
      obtain ⟨⟩ := s56
      replace hI18 : f14 1 = (Value.pointer (some ⟨b1, 0, none⟩)) ∧ f14 7 = (Value.int .i64 ((r_Table).length : Int)) ∧ f14 8 = Value.int .i64 (k12 : Int) ∧ InR .i64 (k12 : Int) ∧ St wd2 wd15 [] := hI18
      replace hb17 : p_impl_Ring_dualFault_L1 r_Table k12  = some ct13 := hb17
      unfold p_impl_Ring_dualFault_L1 at hb17
      obtain ⟨hf21, hf22, hf23, hr24, hS25⟩ := hI18
      refine W.seq ?_
      refine W.region ?_
      refine WL.val (Value.bool (decide ((k12 : Int) < ((r_Table).length : Int)))) _ (op_lss hf23 hf22) rfl ?_
      have hl26 : (k12 : Int) < ((r_Table).length : Int) := by omega
      refine WL.nil ?_
      show W _ _ _ _ _ _
      refine W.seq ?_
      refine W.condT (decide ((k12 : Int) < ((r_Table).length : Int))) rfl (decide_eq_true hl26) ?_
      refine W.skip ?_
      show W _ _ _ _ _ _
      refine W.seq ?_
      refine W.block ?_
      refine W.seq ?_
      refine W.region ?_
      refine WL.val (Value.int .i64 (k12 : Int)) _ (op_move hf23) rfl ?_
      refine WL.val (Value.int .i64 (k12 : Int)) _ (op_assign rfl) rfl ?_
      refine WL.nil ?_
      show W _ _ _ _ _ _
      refine W.seq ?_
      refine W.region ?_
      refine WL.val (Value.agg #[v_r_Table]) _ (op_loadBox st_29 hf21 (BoxAt.lift hS25.ext hx6) rfl rfl) rfl ?_
      refine WL.val (Value.int .i64 (k12 : Int)) _ (op_move rfl) rfl ?_
      obtain ⟨x28, hx29, hb17⟩ := bs hb17
      refine WL.call _ (op_call fn_110 (args2 rfl rfl)) (c_impl_Ring_onlyOf (Ty.lift _ (Ext.trans hE7 hS25.ext) r_r_Table) hr24 hx29) rfl ?_
      rintro _ wd31 ⟨rfl, hr30, he32⟩
      have hS34 := St.extend hS25 he32
      replace hS34 : St wd2 wd31 [] := hS34
      refine WL.val (Value.int .i64 x28) _ (op_assign rfl) rfl ?_
      refine WL.nil ?_
      show W _ _ _ _ _ _
      refine W.seq ?_
      refine W.region ?_
      refine WL.val (Value.int .i64 x28) _ (op_move rfl) rfl ?_
      refine WL.val (Value.bool (decide (x28 < (0 : Int)))) _ (op_lss rfl rfl) rfl ?_
      refine WL.val (Value.bool (decide (x28 < (0 : Int)))) _ (op_move rfl) rfl ?_
      obtain ⟨x36, hj37, hb17⟩ := bs hb17
      refine WL.cut 6 (fun fq wq => fq 1 = (Value.pointer (some ⟨b1, 0, none⟩)) ∧ fq 3 = (Value.int .i64 (k12 : Int)) ∧ fq 7 = (Value.int .i64 ((r_Table).length : Int)) ∧ fq 8 = (Value.int .i64 (k12 : Int)) ∧ fq 22 = Value.bool x36 ∧ St wd2 wq []) ?_ ?_
      · rcases Bool.eq_false_or_eq_true (decide (x28 < (0 : Int))) with hc35 | hc35
        · replace hj37 := ip hj37 hc35
          refine WL.gskip rfl (bool_of rfl hc35) rfl ?_
          refine WL.gskip rfl (bool_of rfl hc35) rfl ?_
          refine WL.gskip rfl (bool_of rfl hc35) rfl ?_
          refine WL.gskip rfl (bool_of rfl hc35) rfl ?_
          refine WL.gskip rfl (bool_of rfl hc35) rfl ?_
          refine WL.val (Value.bool true) _ (op_pick_t (evb_of rfl hc35) rfl) rfl ?_
          refine WL.nil ?_
          obtain rfl := Option.some.inj hj37
          exact ⟨rfl, hf21, rfl, hf22, hf23, rfl, hS34⟩
        · replace hj37 := inegb hj37 hc35
          refine WL.grun rfl (bool_of rfl hc35) ?_
          refine WL.val (Value.agg #[v_r_Table]) _ (op_loadBox st_29 hf21 (BoxAt.lift hS34.ext hx6) rfl rfl) rfl ?_
          refine WL.grun rfl (bool_of rfl hc35) ?_
          refine WL.val (Value.int .i64 x28) _ (op_move rfl) rfl ?_
          refine WL.grun rfl (bool_of rfl hc35) ?_
          obtain ⟨x41, hx42, hj37⟩ := bs hj37
          refine WL.call _ (op_call fn_110 (args2 rfl rfl)) (c_impl_Ring_onlyOf (Ty.lift _ (Ext.trans hE7 hS34.ext) r_r_Table) hr30 hx42) rfl ?_
          rintro _ wd44 ⟨rfl, hr43, he45⟩
          have hS47 := St.extend hS34 he45
          replace hS47 : St wd2 wd44 [] := hS47
          refine WL.grun rfl (bool_of rfl hc35) ?_
          refine WL.val (Value.int .i64 (k12 : Int)) _ (op_move rfl) rfl ?_
          refine WL.grun rfl (bool_of rfl hc35) ?_
          refine WL.val (Value.bool (x41 != (k12 : Int))) _ (op_neq rfl rfl) rfl ?_
          refine WL.val (Value.bool (x41 != (k12 : Int))) _ (op_pick_f (evb_of rfl hc35) rfl) rfl ?_
          refine WL.nil ?_
          obtain rfl := Option.some.inj hj37
          exact ⟨rfl, hf21, rfl, hf22, hf23, rfl, hS47⟩
      · intro f38 wd39 hq40
        obtain ⟨hf48, hf49, hf50, hf51, hf52, hS53⟩ := hq40
        refine WL.nil ?_
        show W _ _ _ _ _ _
        refine W.cond x36 hf52 (fun hc54 => ?_) (fun hc54 => ?_)
        · replace hb17 := ip hb17 hc54
          refine W.seq ?_
          refine W.region ?_
          refine WL.val (Value.int .i64 (k12 : Int)) _ (op_move hf49) rfl ?_
          refine WL.val (Value.int .i64 (k12 : Int)) _ (op_assign rfl) rfl ?_
          refine WL.nil ?_
          show W _ _ _ _ _ _
          refine W.ret ?_
          obtain rfl := Option.some.inj hb17
          obtain rfl := hret20 _ rfl
          replace h := onRes_ret h
          obtain rfl := Option.some.inj h
          show FinP _ _ _ _ _ _ _
          exact FinP.ret _ (res1 rfl rfl) ⟨rfl, hr24, (Ext.trans hE7 hS53.ext)⟩
        · replace hb17 := inegb hb17 hc54
          refine W.skip ?_
          show W _ _ _ _ _ _
          refine W.region ?_
          refine WL.val (Value.int .i64 (w64 ((k12 : Int) + (1 : Int)))) _ (op_add hf51 rfl) rfl ?_
          refine WL.val (Value.int .i64 (w64 ((k12 : Int) + (1 : Int)))) _ (op_move rfl) rfl ?_
          refine WL.nil ?_
          obtain rfl := Option.some.inj hb17
          show ∃ s, _ = Ctl.next s ∧ _
          exact ⟨_, rfl, hf48, hf50, (ctr_next hl26 hr9), (ctr_rng hl26 hr9), hS53⟩
    · intro s61 f57 wd58 hs59 hI60
      obtain ⟨⟩ := s61
      replace hI60 : f57 1 = (Value.pointer (some ⟨b1, 0, none⟩)) ∧ f57 7 = (Value.int .i64 ((r_Table).length : Int)) ∧ f57 8 = Value.int .i64 (((r_Table).length : Nat) : Int) ∧ InR .i64 (((r_Table).length : Nat) : Int) ∧ St wd2 wd58 [] := hI60
      obtain ⟨hf62, hf63, hf64, hr65, hS66⟩ := hI60
      refine W.seq ?_
      refine W.region ?_
      refine WL.val (Value.bool (decide ((((r_Table).length : Nat) : Int) < ((r_Table).length : Int)))) _ (op_lss hf64 hf63) rfl ?_
      have hl67 : ¬ (((r_Table).length : Nat) : Int) < ((r_Table).length : Int) := by omega
      refine WL.nil ?_
      show W _ _ _ _ _ _
      refine W.seq ?_
      refine W.condF (decide ((((r_Table).length : Nat) : Int) < ((r_Table).length : Int))) rfl (decide_eq_false hl67) ?_
      refine W.exit ?_
      show _ = _ ∧ _
      exact ⟨rfl, _, hs59, hS66⟩
  · rintro f68 wd69 ⟨s71, rfl, hq70⟩
    replace h := onRes_fin h
    obtain ⟨⟩ := s71
    replace hq70 : St wd2 wd69 [] := hq70
    have hS72 := hq70
    show W _ _ _ _ _ _
    refine W.seq ?_
    refine W.region ?_
    refine WL.val (Value.int .i64 (-1 : Int)) _ (op_assign rfl) rfl ?_
    refine WL.nil ?_
    show W _ _ _ _ _ _
    refine W.ret ?_
    obtain rfl := Option.some.inj h
    show FinP _ _ _ _ _ _ _
    exact FinP.ret _ (res1 rfl rfl) ⟨rfl, (inR_i64.2 (show (-9223372036854775808 : Int) ≤ -1 ∧ (-1 : Int) ≤ 9223372036854775807 from by decide)), (Ext.trans hE7 hS72.ext)⟩

theorem c_impl_Ring_duals {w : World} {r_Table : (List (List (List Int)))} {v_r_Table : Value} (r_r_Table : (Ty.sl (Ty.sl (Ty.sl (Ty.i .i64)))).rep w v_r_Table r_Table) {res : (List Int)} (h : p_impl_Ring_duals r_Table  = some res) :
    Ret Try.prog 87 #[(Value.agg #[v_r_Table])] w (fun v w' => ∃ (u0 : Value), v = u0 ∧ Ext w w' ∧ Sep w.heap.size w' [(Ty.sl (Ty.i .i64)).at u0 res]) := by
  unfold p_impl_Ring_duals at h
  have hS0 : St w w [] := St.start w
  refine Ret.start (fn := Try.f87) Try.func87 rfl 20 rfl rfl ?_
  refine W.seq ?_
  refine W.region ?_
  refine WL.box hS0 rfl (cs := [v_r_Table]) rfl rfl ?_
  intro b1 wd2 hS3 he4 hx5
  replace hS3 : St w wd2 [bx b1 [v_r_Table]] := hS3
  have hx6 := St.boxAt hS3 0 rfl
  have hE7 : Ext w wd2 := hS3.ext
  have hS8 : St wd2 wd2 [] := St.start wd2
  refine WL.val (Value.slice none 0 0) _ (op_assign rfl) rfl ?_
  refine WL.nil ?_
  show W _ _ _ _ _ _
  refine W.seq ?_
  refine W.region ?_
  refine WL.lit0 (t := (Ty.i .i64)) hS8 sl_88 rfl rfl ?_
  intro u9 wd10 hS11 he12
  replace hS11 : St wd2 wd10 [(Ty.sl (Ty.i .i64)).at u9 ([] : (List Int))] := hS11
  refine WL.val u9 _ (op_assign rfl) rfl ?_
  refine WL.nil ?_
  show W _ _ _ _ _ _
  refine W.seq ?_
  refine W.seq ?_
  refine W.region ?_
  refine WL.val (Value.pointer (some ⟨b1, 0, none⟩)) _ (op_fieldAddr fd_29_0 rfl) rfl ?_
  refine WL.val v_r_Table _ (op_load one_22 rfl (BoxAt.cell (BoxAt.lift hS11.ext hx6) rfl)) rfl ?_
  have hr13 := inR_len (Ty.lift _ (Ext.trans hE7 hS11.ext) r_r_Table)
  refine WL.val (Value.int .i64 ((r_Table).length : Int)) _ (op_lenL sl_22 (Ty.lift _ (Ext.trans hE7 hS11.ext) r_r_Table) rfl) rfl ?_
  refine WL.val (Value.int .i64 (0 : Int)) _ (op_move rfl) rfl ?_
  refine WL.nil ?_
  show W _ _ _ _ _ _
  obtain ⟨res14, hres15, h⟩ := bs h
  refine W.blockLoop (fun fq wq => ∃ s, res14 = Res.fin s ∧ ∃ (uu0 : Value), fq 3 = uu0 ∧ St wd2 wq [(Ty.sl (Ty.i .i64)).at uu0 s]) ?_ ?_
  · refine W.forN (fun k (s : (List Int)) fq wq => ∃ (uu0 : Value), fq 1 = (Value.pointer (some ⟨b1, 0, none⟩)) ∧ fq 3 = uu0 ∧ fq 8 = (Value.int .i64 ((r_Table).length : Int)) ∧ fq 9 = Value.int .i64 (k : Int) ∧ InR .i64 (k : Int) ∧ St wd2 wq [(Ty.sl (Ty.i .i64)).at uu0 s]) hres15 ⟨u9, rfl, rfl, rfl, rfl, (inR_i64.2 (show (-9223372036854775808 : Int) ≤ 0 ∧ (0 : Int) ≤ 9223372036854775807 from by decide)), hS11⟩ ?_ ?_
    · intro k16 x17 ct18 f19 wd20 hk21 hb22 hI23 hbrk24 hret25
      replace hI23 : ∃ (uu0 : Value), f19 1 = (Value.pointer (some ⟨b1, 0, none⟩)) ∧ f19 3 = uu0 ∧ f19 8 = (Value.int .i64 ((r_Table).length : Int)) ∧ f19 9 = Value.int .i64 (k16 : Int) ∧ InR .i64 (k16 : Int) ∧ St wd2 wd20 [(Ty.sl (Ty.i .i64)).at uu0 x17] := hI23
      replace hb22 : p_impl_Ring_duals_L1 r_Table k16 x17 = some ct18 := hb22
      unfold p_impl_Ring_duals_L1 at hb22
      obtain ⟨u26, hf27, hf28, hf29, hf30, hr31, hS32⟩ := hI23
      refine W.seq ?_
      refine W.region ?_
      refine WL.val (Value.bool (decide ((k16 : Int) < ((r_Table).length : Int)))) _ (op_lss hf30 hf29) rfl ?_
      have hl33 : (k16 : Int) < ((r_Table).length : Int) := by omega
      refine WL.nil ?_
      show W _ _ _ _ _ _
      refine W.seq ?_
      refine W.condT (decide ((k16 : Int) < ((r_Table).length : Int))) rfl (decide_eq_true hl33) ?_
      refine W.skip ?_
      show W _ _ _ _ _ _
      refine W.seq ?_
      refine W.block ?_
      refine W.seq ?_
      refine W.region ?_
      refine WL.val (Value.int .i64 (k16 : Int)) _ (op_move hf30) rfl ?_
      refine WL.val (Value.int .i64 (k16 : Int)) _ (op_assign rfl) rfl ?_
      refine WL.nil ?_
      show W _ _ _ _ _ _
      refine W.region ?_
      refine WL.val u26 _ (op_move hf28) rfl ?_
      refine WL.val (Value.agg #[v_r_Table]) _ (op_loadBox st_29 hf27 (BoxAt.lift hS32.ext hx6) rfl rfl) rfl ?_
      refine WL.val (Value.int .i64 (k16 : Int)) _ (op_move rfl) rfl ?_
      obtain ⟨x35, hx36, hb22⟩ := bs hb22
      refine WL.call _ (op_call fn_110 (args2 rfl rfl)) (c_impl_Ring_onlyOf (Ty.lift _ (Ext.trans hE7 hS32.ext) r_r_Table) hr31 hx36) rfl ?_
      rintro _ wd38 ⟨rfl, hr37, he39⟩
      have hS41 := St.extend hS32 he39
      replace hS41 : St wd2 wd38 [(Ty.sl (Ty.i .i64)).at u26 x17] := hS41
      refine WL.litFlat (t := (Ty.i .i64)) (flat_i .i64) [(Value.int .i64 x35)] [x35] hS41 sl_88 rfl rfl (fillL rfl ⟨rfl, rfl, rfl, trivial⟩) rfl rfl (litL ⟨⟨rfl, hr37⟩, trivial⟩) rfl ?_
      intro u42 wd43 hS44 he45
      replace hS44 : St wd2 wd43 [(Ty.sl (Ty.i .i64)).at u26 x17, (Ty.sl (Ty.i .i64)).at u42 ([x35] : (List Int))] := hS44
      obtain ⟨x46, hx47, hb22⟩ := bs hb22
      refine WL.append (flat_i .i64) hS44 (k := 0) rfl sl_88 rfl rfl rfl rfl (St.rep (t := (Ty.sl (Ty.i .i64))) hS44 1 rfl) hx47 rfl ?_
      intro u48 wd49 hS50 hz51
      replace hS50 : St wd2 wd49 [(Ty.sl (Ty.i .i64)).at u48 x46, (Ty.sl (Ty.i .i64)).at u42 ([x35] : (List Int))] := hS50
      refine WL.val u48 _ (op_assign rfl) rfl ?_
      refine WL.nil ?_
      show W _ _ _ _ _ _
      refine W.region ?_
      refine WL.val (Value.int .i64 (w64 ((k16 : Int) + (1 : Int)))) _ (op_add hf30 rfl) rfl ?_
      refine WL.val (Value.int .i64 (w64 ((k16 : Int) + (1 : Int)))) _ (op_move rfl) rfl ?_
      refine WL.nil ?_
      obtain rfl := Option.some.inj hb22
      show ∃ s, _ = Ctl.next s ∧ _
      exact ⟨_, rfl, u48, hf27, rfl, hf29, (ctr_next hl33 hr13), (ctr_rng hl33 hr13), (St.pick hS50 [0] rfl)⟩
    · intro x58 f53 wd54 hs55 hI56
      replace hI56 : ∃ (uu0 : Value), f53 1 = (Value.pointer (some ⟨b1, 0, none⟩)) ∧ f53 3 = uu0 ∧ f53 8 = (Value.int .i64 ((r_Table).length : Int)) ∧ f53 9 = Value.int .i64 (((r_Table).length : Nat) : Int) ∧ InR .i64 (((r_Table).length : Nat) : Int) ∧ St wd2 wd54 [(Ty.sl (Ty.i .i64)).at uu0 x58] := hI56
      obtain ⟨u59, hf60, hf61, hf62, hf63, hr64, hS65⟩ := hI56
      refine W.seq ?_
      refine W.region ?_
      refine WL.val (Value.bool (decide ((((r_Table).length : Nat) : Int) < ((r_Table).length : Int)))) _ (op_lss hf63 hf62) rfl ?_
      have hl66 : ¬ (((r_Table).length : Nat) : Int) < ((r_Table).length : Int) := by omega
      refine WL.nil ?_
      show W _ _ _ _ _ _
      refine W.seq ?_
      refine W.condF (decide ((((r_Table).length : Nat) : Int) < ((r_Table).length : Int))) rfl (decide_eq_false hl66) ?_
      refine W.exit ?_
      show _ = _ ∧ _
      exact ⟨rfl, _, hs55, u59, hf61, hS65⟩
  · rintro f67 wd68 ⟨x71, rfl, hq69⟩
    replace h := onRes_fin h
    replace hq69 : ∃ (uu0 : Value), f67 3 = uu0 ∧ St wd2 wd68 [(Ty.sl (Ty.i .i64)).at uu0 x71] := hq69
    obtain ⟨u72, hf73, hS74⟩ := hq69
    show W _ _ _ _ _ _
    refine W.seq ?_
    refine W.region ?_
    refine WL.val u72 _ (op_move hf73) rfl ?_
    refine WL.val u72 _ (op_assign rfl) rfl ?_
    refine WL.nil ?_
    show W _ _ _ _ _ _
    refine W.ret ?_
    obtain rfl := Option.some.inj h
    show FinP _ _ _ _ _ _ _
    exact FinP.ret _ (res1 rfl rfl) ⟨u72, rfl, (Ext.trans hE7 hS74.ext), (St.out (St.pick hS74 [0] rfl) (hE7))⟩

end Go.VG
