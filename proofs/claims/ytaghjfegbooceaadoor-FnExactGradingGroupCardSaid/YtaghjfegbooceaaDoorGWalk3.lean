/- The walks, part 3: each Go function returns what its plain twin returns. No condition beyond what each names. -/
import Derived.Test.YtaghjfegbooceaaDoorGWalk2
set_option linter.all false
namespace Go.VG
open Go.Proofs
attribute [local irreducible] W WL Sep FinP

theorem c_impl_Ring_closed {w : World} {r_Table : (List (List (List Int)))} {v_r_Table : Value} {set : Int} (tb : TabAt w) (r_r_Table : (Ty.sl (Ty.sl (Ty.sl (Ty.i .i64)))).rep w v_r_Table r_Table) (r_set : InR .i64 set) {res : Int} (h : p_impl_Ring_closed r_Table set  = some res) :
    Ret Tryd.prog 35 #[(Value.agg #[v_r_Table]), (Value.int .i64 set)] w (fun v w' => v = Value.int .i64 res ∧ InR .i64 res ∧ Ext w w') := by
  unfold p_impl_Ring_closed at h
  have hS0 : St w w [] := St.start w
  refine Ret.start (fn := Tryd.f35) Tryd.func35 rfl 56 rfl rfl ?_
  refine W.seq (W.region ?_)
  refine WL.box hS0 rfl (cs := [v_r_Table]) rfl rfl ?_
  intro b1 wd2 hS3 he4 hx5
  replace hS3 : St w wd2 [bx b1 [v_r_Table]] := hS3
  have hx6 := St.boxAt hS3 0 rfl
  have hE7 : Ext w wd2 := hS3.ext
  have hS8 : St wd2 wd2 [] := St.start wd2
  refine WL.val (Value.int .i64 (0 : Int)) _ (op_assign rfl) rfl ?_
  refine WL.nil ?_
  refine W.seq ?_
  obtain ⟨x26, hx27, h⟩ := bs h
  refine W.drawR mixo 3 [] [fun _ v S w' => v = (Value.agg #[v_r_Table]), fun _ v S w' => SepS S w' [(Ty.sl (Ty.sl (Ty.i .i64))).at v x26], fun _ v S w' => v = (Value.agg #[v_r_Table])] (by kernel_rfl) (by kernel_rfl) ⟨pk, ⟨fun _ _ _ _ _ he h => SepS.extend he h, fun _ _ _ _ _ _ h => h⟩, pk, trivial⟩ ⟨?_, ?_, ?_, trivial⟩ ?_
  · refine ObX.op rfl fun f9 wd10 he11 hout12 hphi13 => ?_
    have hS14 := St.extend hS8 he11
    have e15 : f9 2 = (Value.pointer (some ⟨b1, 0, none⟩)) := (hout12 2 rfl).trans rfl
    exact OpX.val (Value.agg #[v_r_Table]) wd10 rfl (op_loadBox st_26 e15 (BoxAt.lift hS14.ext hx6) rfl rfl) (Ext.refl _) rfl
  · refine ObX.op rfl fun f16 wd17 he18 hout19 hphi20 => ?_
    have hS21 := St.extend hS8 he18
    obtain ⟨S22, hS23, hf24⟩ := hphi20 0 12 _ rfl rfl rfl
    have e25 : f16 12 = (Value.agg #[v_r_Table]) := hf24
    refine OpX.call rfl (op_call fn_47 (args1 e25)) (Ret.mono (c_impl_Ring_supports (Ty.lift _ (Ext.trans hE7 hS21.ext) r_r_Table) hx27) ?_)
    rintro u28 wd29 ⟨_, rfl, he30, hs31⟩
    exact ⟨he30, _, newS _ _, (Sep.new hs31)⟩
  · refine ObX.op rfl fun f32 wd33 he34 hout35 hphi36 => ?_
    have hS37 := St.extend hS8 he34
    have e38 : f32 2 = (Value.pointer (some ⟨b1, 0, none⟩)) := (hout35 2 rfl).trans rfl
    exact OpX.val (Value.agg #[v_r_Table]) wd33 rfl (op_loadBox st_26 e38 (BoxAt.lift hS37.ext hx6) rfl rfl) (Ext.refl _) rfl
  · intro f39 wd40 Ss41 he42 hout43 hSn44 hSd45 hphi46
    show WL _ _ _ _ _ _ _
    have e48 : SepS (Ss41 1) wd40 [(Ty.sl (Ty.sl (Ty.i .i64))).at (f39 13) x26] := hphi46 1 13 _ (by decide) rfl rfl
    have e49 : f39 14 = (Value.agg #[v_r_Table]) := hphi46 2 14 _ (by decide) rfl rfl
    have e50 : f39 1 = (Value.int .i64 set) := (hout43 1 rfl).trans rfl
    have hS51 := St.joinS hS8 he42 hSn44 (SepS.consS hSd45 rfl e48 SepS.nilS)
    replace hS51 : St wd2 wd40 [(Ty.sl (Ty.sl (Ty.i .i64))).at (f39 13) x26] := hS51
    have hb52 := St.rep (t := (Ty.sl (Ty.sl (Ty.i .i64)))) hS51 0 rfl
    have hE53 : Ext w wd40 := (Ext.trans hE7 hS51.ext)
    have hE54 : Ext wd2 wd40 := hS51.ext
    have hS55 : St wd40 wd40 [] := St.start wd40
    obtain ⟨x56, hx57, h⟩ := bs h
    refine WL.call _ (op_call fn_59 (args1 e49)) (c_impl_Ring_duals (Ty.lift _ (Ext.trans hE53 hS55.ext) r_r_Table) hx57) rfl ?_
    rintro u58 wd59 ⟨_, rfl, he60, hs61⟩
    have hS62 := St.join hS55 he60 hs61
    replace hS62 : St wd40 wd59 [(Ty.sl (Ty.i .i64)).at u58 x56] := hS62
    have hb63 := St.rep (t := (Ty.sl (Ty.i .i64))) hS62 0 rfl
    have hE64 : Ext w wd59 := (Ext.trans hE53 hS62.ext)
    have hE65 : Ext wd2 wd59 := (Ext.trans hE54 hS62.ext)
    have hE66 : Ext wd40 wd59 := hS62.ext
    have hS67 : St wd59 wd59 [] := St.start wd59
    refine WL.val (f39 13) _ (op_assign rfl) rfl ?_
    refine WL.val u58 _ (op_assign rfl) rfl ?_
    refine WL.nil ?_
    refine W.seq (W.region ?_)
    refine WL.val (Value.int .i64 set) _ (op_move e50) rfl ?_
    refine WL.val (Value.int .i64 (orI .i64 set (1 : Int))) _ (op_or rfl rfl) rfl ?_
    refine WL.val (Value.int .i64 (orI .i64 set (1 : Int))) _ (op_assign rfl) rfl ?_
    refine WL.nil ?_
    show W _ _ _ _ _ _
    obtain ⟨res68, hres69, h⟩ := bs h
    refine W.blockLoop (fun fq wq => ∃ s, res68 = Res.fin s ∧ St wd59 wq []) ?_ ?_
    · refine W.whileC (fun (s : Int) fq wq => fq 1 = Value.int .i64 s ∧ InR .i64 s ∧ fq 5 = (f39 13) ∧ fq 6 = u58 ∧ St wd59 wq []) hres69 ⟨rfl, (inR_wrap _ _), rfl, rfl, hS67⟩ ?_
      intro x71 ct72 f73 wd74 hb76 hI77 hbrk78 hret79
      replace hI77 : f73 1 = Value.int .i64 x71 ∧ InR .i64 x71 ∧ f73 5 = (f39 13) ∧ f73 6 = u58 ∧ St wd59 wd74 [] := hI77
      replace hb76 : p_impl_Ring_closed_L1 x56 x26  x71 = some ct72 := hb76
      unfold p_impl_Ring_closed_L1 at hb76
      obtain ⟨hf80, hr81, hf82, hf83, hS84⟩ := hI77
      refine W.block ?_
      refine W.seq (W.region ?_)
      refine WL.val (Value.int .i64 x71) _ (op_move hf80) rfl ?_
      refine WL.val (Value.int .i64 x71) _ (op_assign rfl) rfl ?_
      refine WL.nil ?_
      refine W.seq (W.seq (W.region ?_))
      refine WL.val (Value.int .i64 x71) _ (op_move hf80) rfl ?_
      obtain ⟨x85, hx86, hb76⟩ := bs hb76
      refine WL.call _ (op_call fn_49 (args1 rfl)) (c_impl_labelsIn (tb.ext (Ext.trans hE64 hS84.ext)) hr81 hx86) rfl ?_
      rintro u87 wd88 ⟨_, rfl, he89, hs90⟩
      have hS91 := St.join hS84 he89 hs90
      replace hS91 : St wd59 wd88 [(Ty.sl (Ty.i .i64)).at u87 x85] := hS91
      have hb92 := St.rep (t := (Ty.sl (Ty.i .i64))) hS91 0 rfl
      have hE93 : Ext w wd88 := (Ext.trans hE64 hS91.ext)
      have hE94 : Ext wd2 wd88 := (Ext.trans hE65 hS91.ext)
      have hE95 : Ext wd40 wd88 := (Ext.trans hE66 hS91.ext)
      have hE96 : Ext wd59 wd88 := hS91.ext
      have hS97 : St wd88 wd88 [] := St.start wd88
      have hr98 := inR_len (Ty.lift _ hS97.ext hb92)
      refine WL.val (Value.int .i64 ((x85).length : Int)) _ (op_lenL sl_61 (Ty.lift _ hS97.ext hb92) rfl) rfl ?_
      refine WL.val (Value.int .i64 (0 : Int)) _ (op_move rfl) rfl ?_
      refine WL.nil ?_
      show W _ _ _ _ _ _
      obtain ⟨res99, hres100, hb76⟩ := bs hb76
      refine W.blockLoop (fun fq wq => ∃ s, res99 = Res.fin s ∧ fq 1 = (Value.int .i64 x71) ∧ fq 5 = (f39 13) ∧ fq 6 = u58 ∧ fq 7 = Value.int .i64 s ∧ InR .i64 s ∧ St wd88 wq []) ?_ ?_
      · refine W.forN (fun k (s : Int) fq wq => fq 1 = (Value.int .i64 x71) ∧ fq 5 = (f39 13) ∧ fq 6 = u58 ∧ fq 7 = Value.int .i64 s ∧ InR .i64 s ∧ fq 20 = u87 ∧ fq 21 = (Value.int .i64 ((x85).length : Int)) ∧ fq 22 = Value.int .i64 (k : Int) ∧ InR .i64 (k : Int) ∧ St wd88 wq []) hres100 ⟨hf80, hf82, hf83, rfl, hr81, rfl, rfl, rfl, (inL rfl), hS97⟩ ?_ ?_
        · intro k101 x102 ct103 f104 wd105 hk106 hb107 hI108 hbrk109 hret110
          replace hI108 : f104 1 = (Value.int .i64 x71) ∧ f104 5 = (f39 13) ∧ f104 6 = u58 ∧ f104 7 = Value.int .i64 x102 ∧ InR .i64 x102 ∧ f104 20 = u87 ∧ f104 21 = (Value.int .i64 ((x85).length : Int)) ∧ f104 22 = Value.int .i64 (k101 : Int) ∧ InR .i64 (k101 : Int) ∧ St wd88 wd105 [] := hI108
          replace hb107 : p_impl_Ring_closed_L2 x85 x56 x71 x26 k101 x102 = some ct103 := hb107
          unfold p_impl_Ring_closed_L2 at hb107
          obtain ⟨hf111, hf112, hf113, hf114, hr115, hf116, hf117, hf118, hr119, hS120⟩ := hI108
          refine W.seq (W.region ?_)
          refine WL.val (Value.bool (decide ((k101 : Int) < ((x85).length : Int)))) _ (op_lss hf118 hf117) rfl ?_
          have hl121 : (k101 : Int) < ((x85).length : Int) := by omega
          refine WL.nil ?_
          refine W.seq ?_
          refine W.condT (decide ((k101 : Int) < ((x85).length : Int))) rfl (decide_eq_true hl121) ?_
          refine W.skip ?_
          refine W.seq ?_
          refine W.block ?_
          refine W.seq (W.region ?_)
          obtain ⟨x123, hx126, hb107⟩ := bs hb107
          obtain ⟨ha124, hb125, hx126⟩ := idx_some hx126
          refine WL.val (Value.pointer (some (elA u87 ((k101 : Int)).toNat))) _ (op_idx sl_61 (Ty.lift _ hS120.ext hb92) hf116 hf118 ha124 hb125) rfl ?_
          obtain ⟨u127, hc128, hr129⟩ := repSl.el hb92 hx126
          obtain ⟨rfl, hr129⟩ := hr129
          refine WL.val (Value.int .i64 x123) _ (op_load one_3 rfl (Ext.cell hS120.ext hc128)) rfl ?_
          refine WL.val (Value.int .i64 x123) _ (op_assign rfl) rfl ?_
          refine WL.nil ?_
          refine W.seq (W.region ?_)
          refine WL.val (Value.int .i64 x102) _ (op_move hf114) rfl ?_
          refine WL.val u58 _ (op_move hf113) rfl ?_
          refine WL.val (Value.int .i64 x123) _ (op_move rfl) rfl ?_
          obtain ⟨x130, hx133, hb107⟩ := bs hb107
          obtain ⟨ha131, hb132, hx133⟩ := idx_some hx133
          refine WL.val (Value.pointer (some (elA u58 (x123).toNat))) _ (op_idx sl_61 (Ty.lift _ (Ext.trans hE96 hS120.ext) hb63) rfl rfl ha131 hb132) rfl ?_
          obtain ⟨u134, hc135, hr136⟩ := repSl.el hb63 hx133
          obtain ⟨rfl, hr136⟩ := hr136
          refine WL.val (Value.int .i64 x130) _ (op_load one_3 rfl (Ext.cell (Ext.trans hE96 hS120.ext) hc135)) rfl ?_
          obtain ⟨x137, hz138, hb107⟩ := bs hb107
          obtain ⟨h0139, hz138⟩ := shlI_some hz138
          have hr140 : InR .i64 x137 := by rw [hz138]; exact inR_wrap _ _
          refine WL.val (Value.int .i64 x137) _ (by rw [hz138]; exact op_shl rfl rfl h0139) rfl ?_
          refine WL.val (Value.int .i64 (orI .i64 x102 x137)) _ (op_or rfl rfl) rfl ?_
          refine WL.val (Value.int .i64 (orI .i64 x102 x137)) _ (op_assign rfl) rfl ?_
          refine WL.nil ?_
          refine W.seq (W.region ?_)
          refine WL.val (Value.int .i64 x71) _ (op_move hf111) rfl ?_
          obtain ⟨x141, hx142, hb107⟩ := bs hb107
          refine WL.call _ (op_call fn_49 (args1 rfl)) (c_impl_labelsIn (tb.ext (Ext.trans hE93 hS120.ext)) hr81 hx142) rfl ?_
          rintro u143 wd144 ⟨_, rfl, he145, hs146⟩
          have hS147 := St.join hS120 he145 hs146
          replace hS147 : St wd88 wd144 [(Ty.sl (Ty.i .i64)).at u143 x141] := hS147
          have hb148 := St.rep (t := (Ty.sl (Ty.i .i64))) hS147 0 rfl
          have hE149 : Ext w wd144 := (Ext.trans hE93 hS147.ext)
          have hE150 : Ext wd2 wd144 := (Ext.trans hE94 hS147.ext)
          have hE151 : Ext wd40 wd144 := (Ext.trans hE95 hS147.ext)
          have hE152 : Ext wd59 wd144 := (Ext.trans hE96 hS147.ext)
          have hE153 : Ext wd88 wd144 := hS147.ext
          have hS154 : St wd144 wd144 [] := St.start wd144
          have hr155 := inR_len (Ty.lift _ hS154.ext hb148)
          refine WL.val (Value.int .i64 ((x141).length : Int)) _ (op_lenL sl_61 (Ty.lift _ hS154.ext hb148) rfl) rfl ?_
          refine WL.val (Value.int .i64 (0 : Int)) _ (op_move rfl) rfl ?_
          refine WL.nil ?_
          show W _ _ _ _ _ _
          obtain ⟨res156, hres157, hb107⟩ := bs hb107
          refine W.blockLoop (fun fq wq => ∃ s, res156 = Res.fin s ∧ fq 1 = (Value.int .i64 x71) ∧ fq 5 = (f39 13) ∧ fq 6 = u58 ∧ fq 7 = Value.int .i64 s ∧ InR .i64 s ∧ fq 20 = u87 ∧ fq 21 = (Value.int .i64 ((x85).length : Int)) ∧ fq 22 = (Value.int .i64 (k101 : Int)) ∧ St wd144 wq []) ?_ ?_
          · refine W.forN (fun k (s : Int) fq wq => fq 1 = (Value.int .i64 x71) ∧ fq 5 = (f39 13) ∧ fq 6 = u58 ∧ fq 7 = Value.int .i64 s ∧ InR .i64 s ∧ fq 9 = (Value.int .i64 x123) ∧ fq 20 = u87 ∧ fq 21 = (Value.int .i64 ((x85).length : Int)) ∧ fq 22 = (Value.int .i64 (k101 : Int)) ∧ fq 34 = u143 ∧ fq 35 = (Value.int .i64 ((x141).length : Int)) ∧ fq 36 = Value.int .i64 (k : Int) ∧ InR .i64 (k : Int) ∧ St wd144 wq []) hres157 ⟨hf111, hf112, hf113, rfl, (inR_wrap _ _), rfl, hf116, hf117, hf118, rfl, rfl, rfl, (inL rfl), hS154⟩ ?_ ?_
            · intro k158 x159 ct160 f161 wd162 hk163 hb164 hI165 hbrk166 hret167
              replace hI165 : f161 1 = (Value.int .i64 x71) ∧ f161 5 = (f39 13) ∧ f161 6 = u58 ∧ f161 7 = Value.int .i64 x159 ∧ InR .i64 x159 ∧ f161 9 = (Value.int .i64 x123) ∧ f161 20 = u87 ∧ f161 21 = (Value.int .i64 ((x85).length : Int)) ∧ f161 22 = (Value.int .i64 (k101 : Int)) ∧ f161 34 = u143 ∧ f161 35 = (Value.int .i64 ((x141).length : Int)) ∧ f161 36 = Value.int .i64 (k158 : Int) ∧ InR .i64 (k158 : Int) ∧ St wd144 wd162 [] := hI165
              replace hb164 : p_impl_Ring_closed_L3 x141 x26 x123 k158 x159 = some ct160 := hb164
              unfold p_impl_Ring_closed_L3 at hb164
              obtain ⟨hf168, hf169, hf170, hf171, hr172, hf173, hf174, hf175, hf176, hf177, hf178, hf179, hr180, hS181⟩ := hI165
              refine W.seq (W.region ?_)
              refine WL.val (Value.bool (decide ((k158 : Int) < ((x141).length : Int)))) _ (op_lss hf179 hf178) rfl ?_
              have hl182 : (k158 : Int) < ((x141).length : Int) := by omega
              refine WL.nil ?_
              refine W.seq ?_
              refine W.condT (decide ((k158 : Int) < ((x141).length : Int))) rfl (decide_eq_true hl182) ?_
              refine W.skip ?_
              refine W.seq ?_
              refine W.block ?_
              refine W.seq (W.region ?_)
              obtain ⟨x184, hx187, hb164⟩ := bs hb164
              obtain ⟨ha185, hb186, hx187⟩ := idx_some hx187
              refine WL.val (Value.pointer (some (elA u143 ((k158 : Int)).toNat))) _ (op_idx sl_61 (Ty.lift _ hS181.ext hb148) hf177 hf179 ha185 hb186) rfl ?_
              obtain ⟨u188, hc189, hr190⟩ := repSl.el hb148 hx187
              obtain ⟨rfl, hr190⟩ := hr190
              refine WL.val (Value.int .i64 x184) _ (op_load one_3 rfl (Ext.cell hS181.ext hc189)) rfl ?_
              refine WL.val (Value.int .i64 x184) _ (op_assign rfl) rfl ?_
              refine WL.nil ?_
              show W _ _ _ _ _ _
              refine W.region ?_
              refine WL.val (Value.int .i64 x159) _ (op_move hf171) rfl ?_
              refine WL.val (f39 13) _ (op_move hf169) rfl ?_
              refine WL.val (Value.int .i64 x123) _ (op_move hf173) rfl ?_
              obtain ⟨x191, hx194, hb164⟩ := bs hb164
              obtain ⟨ha192, hb193, hx194⟩ := idx_some hx194
              refine WL.val (Value.pointer (some (elA (f39 13) (x123).toNat))) _ (op_idx sl_41 (Ty.lift _ (Ext.trans hE151 hS181.ext) hb52) rfl rfl ha192 hb193) rfl ?_
              obtain ⟨u195, hc196, hr197⟩ := repSl.el hb52 hx194
              refine WL.val u195 _ (op_load one_33 rfl (Ext.cell (Ext.trans hE151 hS181.ext) hc196)) rfl ?_
              refine WL.val (Value.int .i64 x184) _ (op_move rfl) rfl ?_
              obtain ⟨x198, hx201, hb164⟩ := bs hb164
              obtain ⟨ha199, hb200, hx201⟩ := idx_some hx201
              refine WL.val (Value.pointer (some (elA u195 (x184).toNat))) _ (op_idx sl_33 (Ty.lift _ (Ext.trans hE151 hS181.ext) hr197) rfl rfl ha199 hb200) rfl ?_
              obtain ⟨u202, hc203, hr204⟩ := repSl.el hr197 hx201
              obtain ⟨rfl, hr204⟩ := hr204
              refine WL.val (Value.int .i64 x198) _ (op_load one_2 rfl (Ext.cell (Ext.trans hE151 hS181.ext) hc203)) rfl ?_
              refine WL.val (Value.int .i64 (orI .i64 x159 x198)) _ (op_or rfl rfl) rfl ?_
              refine WL.val (Value.int .i64 (orI .i64 x159 x198)) _ (op_assign rfl) rfl ?_
              refine WL.nil ?_
              show W _ _ _ _ _ _
              refine W.region ?_
              refine WL.val (Value.int .i64 (w64 ((k158 : Int) + (1 : Int)))) _ (op_add hf179 rfl) rfl ?_
              refine WL.val (Value.int .i64 (w64 ((k158 : Int) + (1 : Int)))) _ (op_move rfl) rfl ?_
              refine WL.nil ?_
              obtain rfl := Option.some.inj hb164
              show ∃ s, _ = Ctl.next s ∧ _
              exact ⟨_, rfl, hf168, hf169, hf170, rfl, (inR_wrap _ _), hf173, hf174, hf175, hf176, hf177, hf178, (ctr_next hl182 hr155), (ctr_rng hl182 hr155), hS181⟩
            · intro x211 f206 wd207 hs208 hI209
              replace hI209 : f206 1 = (Value.int .i64 x71) ∧ f206 5 = (f39 13) ∧ f206 6 = u58 ∧ f206 7 = Value.int .i64 x211 ∧ InR .i64 x211 ∧ f206 9 = (Value.int .i64 x123) ∧ f206 20 = u87 ∧ f206 21 = (Value.int .i64 ((x85).length : Int)) ∧ f206 22 = (Value.int .i64 (k101 : Int)) ∧ f206 34 = u143 ∧ f206 35 = (Value.int .i64 ((x141).length : Int)) ∧ f206 36 = Value.int .i64 (((x141).length : Nat) : Int) ∧ InR .i64 (((x141).length : Nat) : Int) ∧ St wd144 wd207 [] := hI209
              obtain ⟨hf212, hf213, hf214, hf215, hr216, hf217, hf218, hf219, hf220, hf221, hf222, hf223, hr224, hS225⟩ := hI209
              refine W.seq (W.region ?_)
              refine WL.val (Value.bool (decide ((((x141).length : Nat) : Int) < ((x141).length : Int)))) _ (op_lss hf223 hf222) rfl ?_
              have hl226 : ¬ (((x141).length : Nat) : Int) < ((x141).length : Int) := by omega
              refine WL.nil ?_
              refine W.seq ?_
              refine W.condF (decide ((((x141).length : Nat) : Int) < ((x141).length : Int))) rfl (decide_eq_false hl226) ?_
              refine W.exit ?_
              show _ = _ ∧ _
              exact ⟨rfl, _, hs208, hf212, hf213, hf214, hf215, hr216, hf218, hf219, hf220, hS225⟩
          · rintro f227 wd228 ⟨x231, rfl, hq229⟩
            replace hb107 := onRes_fin hb107
            replace hq229 : f227 1 = (Value.int .i64 x71) ∧ f227 5 = (f39 13) ∧ f227 6 = u58 ∧ f227 7 = Value.int .i64 x231 ∧ InR .i64 x231 ∧ f227 20 = u87 ∧ f227 21 = (Value.int .i64 ((x85).length : Int)) ∧ f227 22 = (Value.int .i64 (k101 : Int)) ∧ St wd144 wd228 [] := hq229
            obtain ⟨hf232, hf233, hf234, hf235, hr236, hf237, hf238, hf239, hS240⟩ := hq229
            show W _ _ _ _ _ _
            refine W.region ?_
            refine WL.val (Value.int .i64 (w64 ((k101 : Int) + (1 : Int)))) _ (op_add hf239 rfl) rfl ?_
            refine WL.val (Value.int .i64 (w64 ((k101 : Int) + (1 : Int)))) _ (op_move rfl) rfl ?_
            refine WL.nil ?_
            obtain rfl := Option.some.inj hb107
            show ∃ s, _ = Ctl.next s ∧ _
            exact ⟨_, rfl, hf232, hf233, hf234, hf235, hr236, hf237, hf238, (ctr_next hl121 hr98), (ctr_rng hl121 hr98), (St.ofExt (Ext.trans hE153 hS240.ext))⟩
        · intro x248 f243 wd244 hs245 hI246
          replace hI246 : f243 1 = (Value.int .i64 x71) ∧ f243 5 = (f39 13) ∧ f243 6 = u58 ∧ f243 7 = Value.int .i64 x248 ∧ InR .i64 x248 ∧ f243 20 = u87 ∧ f243 21 = (Value.int .i64 ((x85).length : Int)) ∧ f243 22 = Value.int .i64 (((x85).length : Nat) : Int) ∧ InR .i64 (((x85).length : Nat) : Int) ∧ St wd88 wd244 [] := hI246
          obtain ⟨hf249, hf250, hf251, hf252, hr253, hf254, hf255, hf256, hr257, hS258⟩ := hI246
          refine W.seq (W.region ?_)
          refine WL.val (Value.bool (decide ((((x85).length : Nat) : Int) < ((x85).length : Int)))) _ (op_lss hf256 hf255) rfl ?_
          have hl259 : ¬ (((x85).length : Nat) : Int) < ((x85).length : Int) := by omega
          refine WL.nil ?_
          refine W.seq ?_
          refine W.condF (decide ((((x85).length : Nat) : Int) < ((x85).length : Int))) rfl (decide_eq_false hl259) ?_
          refine W.exit ?_
          show _ = _ ∧ _
          exact ⟨rfl, _, hs245, hf249, hf250, hf251, hf252, hr253, hS258⟩
      · rintro f260 wd261 ⟨x264, rfl, hq262⟩
        replace hb76 := onRes_fin hb76
        replace hq262 : f260 1 = (Value.int .i64 x71) ∧ f260 5 = (f39 13) ∧ f260 6 = u58 ∧ f260 7 = Value.int .i64 x264 ∧ InR .i64 x264 ∧ St wd88 wd261 [] := hq262
        obtain ⟨hf265, hf266, hf267, hf268, hr269, hS270⟩ := hq262
        refine W.seq (W.seq (W.region ?_))
        refine WL.val (Value.int .i64 x264) _ (op_move hf268) rfl ?_
        refine WL.val (Value.int .i64 x71) _ (op_move hf265) rfl ?_
        refine WL.val (Value.bool (x264 == x71)) _ (op_eql rfl rfl) rfl ?_
        refine WL.nil ?_
        refine W.cond (x264 == x71) rfl (fun hc271 => ?_) (fun hc271 => ?_)
        · replace hb76 := ip hb76 hc271
          refine W.seq (W.region ?_)
          refine WL.val (Value.int .i64 x71) _ (op_move hf265) rfl ?_
          refine WL.val (Value.int .i64 x71) _ (op_assign rfl) rfl ?_
          refine WL.nil ?_
          refine W.ret ?_
          obtain rfl := Option.some.inj hb76
          obtain rfl := hret79 _ rfl
          replace h := onRes_ret h
          obtain rfl := Option.some.inj h
          show FinP _ _ _ _ _ _ _
          exact FinP.ret _ (res1 rfl rfl) ⟨rfl, hr81, (Ext.trans hE93 hS270.ext)⟩
        · replace hb76 := inegb hb76 hc271
          refine W.skip ?_
          show W _ _ _ _ _ _
          refine W.region ?_
          refine WL.val (Value.int .i64 x264) _ (op_move hf268) rfl ?_
          refine WL.val (Value.int .i64 x264) _ (op_assign rfl) rfl ?_
          refine WL.nil ?_
          obtain rfl := Option.some.inj hb76
          show ∃ s, _ = Ctl.next s ∧ _
          exact ⟨_, rfl, rfl, hr269, hf266, hf267, (St.ofExt (Ext.trans hE96 hS270.ext))⟩
    · rintro f275 wd276 ⟨x279, rfl, hq277⟩
      replace h := onRes_fin h
      replace hq277 : St wd59 wd276 [] := hq277
      exact nomatch (show (none : Option _) = some _ from h)

theorem c_laws_eqInt64S {w : World} {a : (List Int)} {v_a : Value} {b : (List Int)} {v_b : Value} (r_a : (Ty.sl (Ty.i .i64)).rep w v_a a) (r_b : (Ty.sl (Ty.i .i64)).rep w v_b b) {res : Bool} (h : p_laws_eqInt64S a b  = some res) :
    Ret Tryd.prog 17 #[v_a, v_b] w (fun v w' => v = Value.bool res ∧ Ext w w') := by
  unfold p_laws_eqInt64S at h
  have hS0 : St w w [] := St.start w
  refine Ret.start (fn := Tryd.f17) Tryd.func17 rfl 26 rfl rfl ?_
  refine W.seq (W.region ?_)
  refine WL.val (Value.bool false) _ (op_assign rfl) rfl ?_
  refine WL.nil ?_
  refine W.seq (W.seq (W.region ?_))
  refine WL.val v_a _ (op_move rfl) rfl ?_
  have hr1 := inR_len (Ty.lift _ hS0.ext r_a)
  refine WL.val (Value.int .i64 ((a).length : Int)) _ (op_lenL sl_33 (Ty.lift _ hS0.ext r_a) rfl) rfl ?_
  refine WL.val v_b _ (op_move rfl) rfl ?_
  have hr2 := inR_len (Ty.lift _ hS0.ext r_b)
  refine WL.val (Value.int .i64 ((b).length : Int)) _ (op_lenL sl_33 (Ty.lift _ hS0.ext r_b) rfl) rfl ?_
  refine WL.val (Value.bool (((a).length : Int) != ((b).length : Int))) _ (op_neq rfl rfl) rfl ?_
  refine WL.nil ?_
  refine W.cond (((a).length : Int) != ((b).length : Int)) rfl (fun hc3 => ?_) (fun hc3 => ?_)
  · replace h := ip h hc3
    refine W.seq (W.region ?_)
    refine WL.val (Value.bool false) _ (op_assign rfl) rfl ?_
    refine WL.nil ?_
    refine W.ret ?_
    obtain rfl := Option.some.inj h
    show FinP _ _ _ _ _ _ _
    exact FinP.ret _ (res1 rfl rfl) ⟨rfl, hS0.ext⟩
  · replace h := inegb h hc3
    refine W.skip ?_
    refine W.seq (W.seq (W.region ?_))
    refine WL.val (Value.int .i64 (0 : Int)) _ (op_assign rfl) rfl ?_
    refine WL.nil ?_
    show W _ _ _ _ _ _
    obtain ⟨res5, hres6, h⟩ := bs h
    refine W.blockLoop (fun fq wq => ∃ s, res5 = Res.fin s ∧ St w wq []) ?_ ?_
    · refine W.forN (fun k (s : Unit) fq wq => fq 0 = v_a ∧ fq 1 = v_b ∧ fq 5 = Value.int .i64 (k : Int) ∧ InR .i64 (k : Int) ∧ St w wq []) hres6 ⟨rfl, rfl, rfl, (inL rfl), hS0⟩ ?_ ?_
      · intro k7 s134 ct8 f9 wd10 hk11 hb12 hI13 hbrk14 hret15
        obtain ⟨⟩ := s134
        replace hI13 : f9 0 = v_a ∧ f9 1 = v_b ∧ f9 5 = Value.int .i64 (k7 : Int) ∧ InR .i64 (k7 : Int) ∧ St w wd10 [] := hI13
        replace hb12 : p_laws_eqInt64S_L1 a b k7  = some ct8 := hb12
        unfold p_laws_eqInt64S_L1 at hb12
        obtain ⟨hf16, hf17, hf18, hr19, hS20⟩ := hI13
        refine W.seq (W.seq (W.region ?_))
        refine WL.val (Value.int .i64 (k7 : Int)) _ (op_move hf18) rfl ?_
        refine WL.val v_a _ (op_move hf16) rfl ?_
        have hr21 := inR_len (Ty.lift _ hS20.ext r_a)
        refine WL.val (Value.int .i64 ((a).length : Int)) _ (op_lenL sl_33 (Ty.lift _ hS20.ext r_a) rfl) rfl ?_
        refine WL.val (Value.bool (decide ((k7 : Int) < ((a).length : Int)))) _ (op_lss rfl rfl) rfl ?_
        have hl22 : (k7 : Int) < ((a).length : Int) := by omega
        refine WL.nil ?_
        refine W.condT (decide ((k7 : Int) < ((a).length : Int))) rfl (decide_eq_true hl22) ?_
        refine W.skip ?_
        refine W.seq ?_
        refine W.block ?_
        refine W.seq ?_
        obtain ⟨x53, hx56, hb12⟩ := bs hb12
        obtain ⟨ha54, hb55, hx56⟩ := idx_some hx56
        obtain ⟨u67, hc68, hr69⟩ := repSl.el r_a hx56
        obtain ⟨rfl, hr69⟩ := hr69
        obtain ⟨x99, hx102, hb12⟩ := bs hb12
        obtain ⟨ha100, hb101, hx102⟩ := idx_some hx102
        obtain ⟨u113, hc114, hr115⟩ := repSl.el r_b hx102
        obtain ⟨rfl, hr115⟩ := hr115
        refine W.drawR mixo 8 [] [fun _ v _ _ => v = v_a, fun _ v _ _ => v = (Value.int .i64 (k7 : Int)) ∧ InR .i64 (k7 : Int), fun _ v _ _ => v = (Value.pointer (some (elA v_a ((k7 : Int)).toNat))), fun _ v _ _ => v = (Value.int .i64 x53) ∧ InR .i64 x53, fun _ v _ _ => v = v_b, fun _ v _ _ => v = (Value.int .i64 (k7 : Int)) ∧ InR .i64 (k7 : Int), fun _ v _ _ => v = (Value.pointer (some (elA v_b ((k7 : Int)).toNat))), fun _ v _ _ => v = (Value.int .i64 x99) ∧ InR .i64 x99] (by kernel_rfl) (by kernel_rfl) ⟨pk, pk, pk, pk, pk, pk, pk, pk, trivial⟩ ⟨?_, ?_, ?_, ?_, ?_, ?_, ?_, ?_, trivial⟩ ?_
        · refine ObX.op rfl fun f24 wd25 he26 hout27 hphi28 => ?_
          have e30 : f24 0 = v_a := (hout27 0 rfl).trans hf16
          exact OpX.val v_a wd25 rfl (op_move e30) (Ext.refl _) rfl
        · refine ObX.op rfl fun f31 wd32 he33 hout34 hphi35 => ?_
          have e37 : f31 5 = (Value.int .i64 (k7 : Int)) := (hout34 5 rfl).trans hf18
          exact OpX.val (Value.int .i64 (k7 : Int)) wd32 rfl (op_move e37) (Ext.refl _) ⟨rfl, hr19⟩
        · refine ObX.op rfl fun f38 wd39 he40 hout41 hphi42 => ?_
          have hS43 := St.extend hS20 he40
          obtain ⟨S44, hS45, hf46⟩ := hphi42 0 17 _ rfl rfl rfl
          have e47 : f38 17 = v_a := hf46
          obtain ⟨S48, hS49, hf50⟩ := hphi42 1 18 _ rfl rfl rfl
          obtain ⟨e51, hr52⟩ := hf50
          exact OpX.val (Value.pointer (some (elA v_a ((k7 : Int)).toNat))) wd39 rfl (op_idx sl_33 (Ty.lift _ hS43.ext r_a) e47 e51 ha54 hb55) (Ext.refl _) rfl
        · refine ObX.op rfl fun f57 wd58 he59 hout60 hphi61 => ?_
          have hS62 := St.extend hS20 he59
          obtain ⟨S63, hS64, hf65⟩ := hphi61 2 19 _ rfl rfl rfl
          have e66 : f57 19 = (Value.pointer (some (elA v_a ((k7 : Int)).toNat))) := hf65
          exact OpX.val (Value.int .i64 x53) wd58 rfl (op_load one_2 e66 (Ext.cell hS62.ext hc68)) (Ext.refl _) ⟨rfl, hr69⟩
        · refine ObX.op rfl fun f70 wd71 he72 hout73 hphi74 => ?_
          have e76 : f70 1 = v_b := (hout73 1 rfl).trans hf17
          exact OpX.val v_b wd71 rfl (op_move e76) (Ext.refl _) rfl
        · refine ObX.op rfl fun f77 wd78 he79 hout80 hphi81 => ?_
          have e83 : f77 5 = (Value.int .i64 (k7 : Int)) := (hout80 5 rfl).trans hf18
          exact OpX.val (Value.int .i64 (k7 : Int)) wd78 rfl (op_move e83) (Ext.refl _) ⟨rfl, hr19⟩
        · refine ObX.op rfl fun f84 wd85 he86 hout87 hphi88 => ?_
          have hS89 := St.extend hS20 he86
          obtain ⟨S90, hS91, hf92⟩ := hphi88 4 21 _ rfl rfl rfl
          have e93 : f84 21 = v_b := hf92
          obtain ⟨S94, hS95, hf96⟩ := hphi88 5 22 _ rfl rfl rfl
          obtain ⟨e97, hr98⟩ := hf96
          exact OpX.val (Value.pointer (some (elA v_b ((k7 : Int)).toNat))) wd85 rfl (op_idx sl_33 (Ty.lift _ hS89.ext r_b) e93 e97 ha100 hb101) (Ext.refl _) rfl
        · refine ObX.op rfl fun f103 wd104 he105 hout106 hphi107 => ?_
          have hS108 := St.extend hS20 he105
          obtain ⟨S109, hS110, hf111⟩ := hphi107 6 23 _ rfl rfl rfl
          have e112 : f103 23 = (Value.pointer (some (elA v_b ((k7 : Int)).toNat))) := hf111
          exact OpX.val (Value.int .i64 x99) wd104 rfl (op_load one_2 e112 (Ext.cell hS108.ext hc114)) (Ext.refl _) ⟨rfl, hr115⟩
        · intro f116 wd117 Ss118 he119 hout120 hSn121 hSd122 hphi123
          show WL _ _ _ _ _ _ _
          have hS124 := St.extend hS20 he119
          obtain ⟨e125, hr126⟩ := hphi123 3 20 _ (by decide) rfl rfl
          obtain ⟨e127, hr128⟩ := hphi123 7 24 _ (by decide) rfl rfl
          have e129 : f116 0 = v_a := (hout120 0 rfl).trans hf16
          have e130 : f116 1 = v_b := (hout120 1 rfl).trans hf17
          have e131 : f116 5 = (Value.int .i64 (k7 : Int)) := (hout120 5 rfl).trans hf18
          refine WL.val (Value.bool (x53 != x99)) _ (op_neq e125 e127) rfl ?_
          refine WL.nil ?_
          refine W.cond (x53 != x99) rfl (fun hc132 => ?_) (fun hc132 => ?_)
          · replace hb12 := ip hb12 hc132
            refine W.seq (W.region ?_)
            refine WL.val (Value.bool false) _ (op_assign rfl) rfl ?_
            refine WL.nil ?_
            refine W.ret ?_
            obtain rfl := Option.some.inj hb12
            obtain rfl := hret15 _ rfl
            replace h := onRes_ret h
            obtain rfl := Option.some.inj h
            show FinP _ _ _ _ _ _ _
            exact FinP.ret _ (res1 rfl rfl) ⟨rfl, hS124.ext⟩
          · replace hb12 := inegb hb12 hc132
            refine W.skip ?_
            show W _ _ _ _ _ _
            refine W.region ?_
            refine WL.val (Value.int .i64 (k7 : Int)) _ (op_move e131) rfl ?_
            refine WL.val (Value.int .i64 (w64 ((k7 : Int) + (1 : Int)))) _ (op_add rfl rfl) rfl ?_
            refine WL.val (Value.int .i64 (w64 ((k7 : Int) + (1 : Int)))) _ (op_assign rfl) rfl ?_
            refine WL.nil ?_
            obtain rfl := Option.some.inj hb12
            show ∃ s, _ = Ctl.next s ∧ _
            exact ⟨_, rfl, e129, e130, (ctr_next hl22 hr21), (ctr_rng hl22 hr21), hS124⟩
      · intro s139 f135 wd136 hs137 hI138
        obtain ⟨⟩ := s139
        replace hI138 : f135 0 = v_a ∧ f135 1 = v_b ∧ f135 5 = Value.int .i64 (((a).length : Nat) : Int) ∧ InR .i64 (((a).length : Nat) : Int) ∧ St w wd136 [] := hI138
        obtain ⟨hf140, hf141, hf142, hr143, hS144⟩ := hI138
        refine W.seq (W.seq (W.region ?_))
        refine WL.val (Value.int .i64 (((a).length : Nat) : Int)) _ (op_move hf142) rfl ?_
        refine WL.val v_a _ (op_move hf140) rfl ?_
        have hr145 := inR_len (Ty.lift _ hS144.ext r_a)
        refine WL.val (Value.int .i64 ((a).length : Int)) _ (op_lenL sl_33 (Ty.lift _ hS144.ext r_a) rfl) rfl ?_
        refine WL.val (Value.bool (decide ((((a).length : Nat) : Int) < ((a).length : Int)))) _ (op_lss rfl rfl) rfl ?_
        have hl146 : ¬ (((a).length : Nat) : Int) < ((a).length : Int) := by omega
        refine WL.nil ?_
        refine W.condF (decide ((((a).length : Nat) : Int) < ((a).length : Int))) rfl (decide_eq_false hl146) ?_
        refine W.exit ?_
        show _ = _ ∧ _
        exact ⟨rfl, _, hs137, hS144⟩
    · rintro f147 wd148 ⟨s150, rfl, hq149⟩
      replace h := onRes_fin h
      obtain ⟨⟩ := s150
      replace hq149 : St w wd148 [] := hq149
      have hS151 := hq149
      refine W.seq (W.region ?_)
      refine WL.val (Value.bool true) _ (op_assign rfl) rfl ?_
      refine WL.nil ?_
      refine W.ret ?_
      obtain rfl := Option.some.inj h
      show FinP _ _ _ _ _ _ _
      exact FinP.ret _ (res1 rfl rfl) ⟨rfl, hS151.ext⟩

theorem c_laws_eqInt64SS {w : World} {a : (List (List Int))} {v_a : Value} {b : (List (List Int))} {v_b : Value} (r_a : (Ty.sl (Ty.sl (Ty.i .i64))).rep w v_a a) (r_b : (Ty.sl (Ty.sl (Ty.i .i64))).rep w v_b b) {res : Bool} (h : p_laws_eqInt64SS a b  = some res) :
    Ret Tryd.prog 24 #[v_a, v_b] w (fun v w' => v = Value.bool res ∧ Ext w w') := by
  unfold p_laws_eqInt64SS at h
  have hS0 : St w w [] := St.start w
  refine Ret.start (fn := Tryd.f24) Tryd.func24 rfl 27 rfl rfl ?_
  refine W.seq (W.region ?_)
  refine WL.val (Value.bool false) _ (op_assign rfl) rfl ?_
  refine WL.nil ?_
  refine W.seq (W.seq (W.region ?_))
  refine WL.val v_a _ (op_move rfl) rfl ?_
  have hr1 := inR_len (Ty.lift _ hS0.ext r_a)
  refine WL.val (Value.int .i64 ((a).length : Int)) _ (op_lenL sl_41 (Ty.lift _ hS0.ext r_a) rfl) rfl ?_
  refine WL.val v_b _ (op_move rfl) rfl ?_
  have hr2 := inR_len (Ty.lift _ hS0.ext r_b)
  refine WL.val (Value.int .i64 ((b).length : Int)) _ (op_lenL sl_41 (Ty.lift _ hS0.ext r_b) rfl) rfl ?_
  refine WL.val (Value.bool (((a).length : Int) != ((b).length : Int))) _ (op_neq rfl rfl) rfl ?_
  refine WL.nil ?_
  refine W.cond (((a).length : Int) != ((b).length : Int)) rfl (fun hc3 => ?_) (fun hc3 => ?_)
  · replace h := ip h hc3
    refine W.seq (W.region ?_)
    refine WL.val (Value.bool false) _ (op_assign rfl) rfl ?_
    refine WL.nil ?_
    refine W.ret ?_
    obtain rfl := Option.some.inj h
    show FinP _ _ _ _ _ _ _
    exact FinP.ret _ (res1 rfl rfl) ⟨rfl, hS0.ext⟩
  · replace h := inegb h hc3
    refine W.skip ?_
    refine W.seq (W.seq (W.region ?_))
    refine WL.val (Value.int .i64 (0 : Int)) _ (op_assign rfl) rfl ?_
    refine WL.nil ?_
    show W _ _ _ _ _ _
    obtain ⟨res5, hres6, h⟩ := bs h
    refine W.blockLoop (fun fq wq => ∃ s, res5 = Res.fin s ∧ St w wq []) ?_ ?_
    · refine W.forN (fun k (s : Unit) fq wq => fq 0 = v_a ∧ fq 1 = v_b ∧ fq 5 = Value.int .i64 (k : Int) ∧ InR .i64 (k : Int) ∧ St w wq []) hres6 ⟨rfl, rfl, rfl, (inL rfl), hS0⟩ ?_ ?_
      · intro k7 s138 ct8 f9 wd10 hk11 hb12 hI13 hbrk14 hret15
        obtain ⟨⟩ := s138
        replace hI13 : f9 0 = v_a ∧ f9 1 = v_b ∧ f9 5 = Value.int .i64 (k7 : Int) ∧ InR .i64 (k7 : Int) ∧ St w wd10 [] := hI13
        replace hb12 : p_laws_eqInt64SS_L1 a b k7  = some ct8 := hb12
        unfold p_laws_eqInt64SS_L1 at hb12
        obtain ⟨hf16, hf17, hf18, hr19, hS20⟩ := hI13
        refine W.seq (W.seq (W.region ?_))
        refine WL.val (Value.int .i64 (k7 : Int)) _ (op_move hf18) rfl ?_
        refine WL.val v_a _ (op_move hf16) rfl ?_
        have hr21 := inR_len (Ty.lift _ hS20.ext r_a)
        refine WL.val (Value.int .i64 ((a).length : Int)) _ (op_lenL sl_41 (Ty.lift _ hS20.ext r_a) rfl) rfl ?_
        refine WL.val (Value.bool (decide ((k7 : Int) < ((a).length : Int)))) _ (op_lss rfl rfl) rfl ?_
        have hl22 : (k7 : Int) < ((a).length : Int) := by omega
        refine WL.nil ?_
        refine W.condT (decide ((k7 : Int) < ((a).length : Int))) rfl (decide_eq_true hl22) ?_
        refine W.skip ?_
        refine W.seq ?_
        refine W.block ?_
        refine W.seq ?_
        obtain ⟨x53, hx56, hb12⟩ := bs hb12
        obtain ⟨ha54, hb55, hx56⟩ := idx_some hx56
        obtain ⟨u67, hc68, hr69⟩ := repSl.el r_a hx56
        obtain ⟨x99, hx102, hb12⟩ := bs hb12
        obtain ⟨ha100, hb101, hx102⟩ := idx_some hx102
        obtain ⟨u113, hc114, hr115⟩ := repSl.el r_b hx102
        refine W.drawR mixo 8 [] [fun _ v _ _ => v = v_a, fun _ v _ _ => v = (Value.int .i64 (k7 : Int)) ∧ InR .i64 (k7 : Int), fun _ v _ _ => v = (Value.pointer (some (elA v_a ((k7 : Int)).toNat))), fun _ v _ _ => v = u67, fun _ v _ _ => v = v_b, fun _ v _ _ => v = (Value.int .i64 (k7 : Int)) ∧ InR .i64 (k7 : Int), fun _ v _ _ => v = (Value.pointer (some (elA v_b ((k7 : Int)).toNat))), fun _ v _ _ => v = u113] (by kernel_rfl) (by kernel_rfl) ⟨pk, pk, pk, pk, pk, pk, pk, pk, trivial⟩ ⟨?_, ?_, ?_, ?_, ?_, ?_, ?_, ?_, trivial⟩ ?_
        · refine ObX.op rfl fun f24 wd25 he26 hout27 hphi28 => ?_
          have e30 : f24 0 = v_a := (hout27 0 rfl).trans hf16
          exact OpX.val v_a wd25 rfl (op_move e30) (Ext.refl _) rfl
        · refine ObX.op rfl fun f31 wd32 he33 hout34 hphi35 => ?_
          have e37 : f31 5 = (Value.int .i64 (k7 : Int)) := (hout34 5 rfl).trans hf18
          exact OpX.val (Value.int .i64 (k7 : Int)) wd32 rfl (op_move e37) (Ext.refl _) ⟨rfl, hr19⟩
        · refine ObX.op rfl fun f38 wd39 he40 hout41 hphi42 => ?_
          have hS43 := St.extend hS20 he40
          obtain ⟨S44, hS45, hf46⟩ := hphi42 0 17 _ rfl rfl rfl
          have e47 : f38 17 = v_a := hf46
          obtain ⟨S48, hS49, hf50⟩ := hphi42 1 18 _ rfl rfl rfl
          obtain ⟨e51, hr52⟩ := hf50
          exact OpX.val (Value.pointer (some (elA v_a ((k7 : Int)).toNat))) wd39 rfl (op_idx sl_41 (Ty.lift _ hS43.ext r_a) e47 e51 ha54 hb55) (Ext.refl _) rfl
        · refine ObX.op rfl fun f57 wd58 he59 hout60 hphi61 => ?_
          have hS62 := St.extend hS20 he59
          obtain ⟨S63, hS64, hf65⟩ := hphi61 2 19 _ rfl rfl rfl
          have e66 : f57 19 = (Value.pointer (some (elA v_a ((k7 : Int)).toNat))) := hf65
          exact OpX.val u67 wd58 rfl (op_load one_33 e66 (Ext.cell hS62.ext hc68)) (Ext.refl _) rfl
        · refine ObX.op rfl fun f70 wd71 he72 hout73 hphi74 => ?_
          have e76 : f70 1 = v_b := (hout73 1 rfl).trans hf17
          exact OpX.val v_b wd71 rfl (op_move e76) (Ext.refl _) rfl
        · refine ObX.op rfl fun f77 wd78 he79 hout80 hphi81 => ?_
          have e83 : f77 5 = (Value.int .i64 (k7 : Int)) := (hout80 5 rfl).trans hf18
          exact OpX.val (Value.int .i64 (k7 : Int)) wd78 rfl (op_move e83) (Ext.refl _) ⟨rfl, hr19⟩
        · refine ObX.op rfl fun f84 wd85 he86 hout87 hphi88 => ?_
          have hS89 := St.extend hS20 he86
          obtain ⟨S90, hS91, hf92⟩ := hphi88 4 21 _ rfl rfl rfl
          have e93 : f84 21 = v_b := hf92
          obtain ⟨S94, hS95, hf96⟩ := hphi88 5 22 _ rfl rfl rfl
          obtain ⟨e97, hr98⟩ := hf96
          exact OpX.val (Value.pointer (some (elA v_b ((k7 : Int)).toNat))) wd85 rfl (op_idx sl_41 (Ty.lift _ hS89.ext r_b) e93 e97 ha100 hb101) (Ext.refl _) rfl
        · refine ObX.op rfl fun f103 wd104 he105 hout106 hphi107 => ?_
          have hS108 := St.extend hS20 he105
          obtain ⟨S109, hS110, hf111⟩ := hphi107 6 23 _ rfl rfl rfl
          have e112 : f103 23 = (Value.pointer (some (elA v_b ((k7 : Int)).toNat))) := hf111
          exact OpX.val u113 wd104 rfl (op_load one_33 e112 (Ext.cell hS108.ext hc114)) (Ext.refl _) rfl
        · intro f116 wd117 Ss118 he119 hout120 hSn121 hSd122 hphi123
          show WL _ _ _ _ _ _ _
          have hS124 := St.extend hS20 he119
          have e125 : f116 20 = u67 := hphi123 3 20 _ (by decide) rfl rfl
          have e126 : f116 24 = u113 := hphi123 7 24 _ (by decide) rfl rfl
          have e127 : f116 0 = v_a := (hout120 0 rfl).trans hf16
          have e128 : f116 1 = v_b := (hout120 1 rfl).trans hf17
          have e129 : f116 5 = (Value.int .i64 (k7 : Int)) := (hout120 5 rfl).trans hf18
          obtain ⟨x130, hx131, hb12⟩ := bs hb12
          refine WL.call _ (op_call fn_17 (args2 e125 e126)) (c_laws_eqInt64S (Ty.lift _ hS124.ext hr69) (Ty.lift _ hS124.ext hr115) hx131) rfl ?_
          rintro _ wd132 ⟨rfl, he133⟩
          have hS135 := St.extend hS124 he133
          replace hS135 : St w wd132 [] := hS135
          refine WL.val (Value.bool (!x130)) _ (op_not rfl) rfl ?_
          refine WL.nil ?_
          refine W.cond (!x130) rfl (fun hc136 => ?_) (fun hc136 => ?_)
          · replace hb12 := ip hb12 hc136
            refine W.seq (W.region ?_)
            refine WL.val (Value.bool false) _ (op_assign rfl) rfl ?_
            refine WL.nil ?_
            refine W.ret ?_
            obtain rfl := Option.some.inj hb12
            obtain rfl := hret15 _ rfl
            replace h := onRes_ret h
            obtain rfl := Option.some.inj h
            show FinP _ _ _ _ _ _ _
            exact FinP.ret _ (res1 rfl rfl) ⟨rfl, hS135.ext⟩
          · replace hb12 := inegb hb12 hc136
            refine W.skip ?_
            show W _ _ _ _ _ _
            refine W.region ?_
            refine WL.val (Value.int .i64 (k7 : Int)) _ (op_move e129) rfl ?_
            refine WL.val (Value.int .i64 (w64 ((k7 : Int) + (1 : Int)))) _ (op_add rfl rfl) rfl ?_
            refine WL.val (Value.int .i64 (w64 ((k7 : Int) + (1 : Int)))) _ (op_assign rfl) rfl ?_
            refine WL.nil ?_
            obtain rfl := Option.some.inj hb12
            show ∃ s, _ = Ctl.next s ∧ _
            exact ⟨_, rfl, e127, e128, (ctr_next hl22 hr21), (ctr_rng hl22 hr21), hS135⟩
      · intro s143 f139 wd140 hs141 hI142
        obtain ⟨⟩ := s143
        replace hI142 : f139 0 = v_a ∧ f139 1 = v_b ∧ f139 5 = Value.int .i64 (((a).length : Nat) : Int) ∧ InR .i64 (((a).length : Nat) : Int) ∧ St w wd140 [] := hI142
        obtain ⟨hf144, hf145, hf146, hr147, hS148⟩ := hI142
        refine W.seq (W.seq (W.region ?_))
        refine WL.val (Value.int .i64 (((a).length : Nat) : Int)) _ (op_move hf146) rfl ?_
        refine WL.val v_a _ (op_move hf144) rfl ?_
        have hr149 := inR_len (Ty.lift _ hS148.ext r_a)
        refine WL.val (Value.int .i64 ((a).length : Int)) _ (op_lenL sl_41 (Ty.lift _ hS148.ext r_a) rfl) rfl ?_
        refine WL.val (Value.bool (decide ((((a).length : Nat) : Int) < ((a).length : Int)))) _ (op_lss rfl rfl) rfl ?_
        have hl150 : ¬ (((a).length : Nat) : Int) < ((a).length : Int) := by omega
        refine WL.nil ?_
        refine W.condF (decide ((((a).length : Nat) : Int) < ((a).length : Int))) rfl (decide_eq_false hl150) ?_
        refine W.exit ?_
        show _ = _ ∧ _
        exact ⟨rfl, _, hs141, hS148⟩
    · rintro f151 wd152 ⟨s154, rfl, hq153⟩
      replace h := onRes_fin h
      obtain ⟨⟩ := s154
      replace hq153 : St w wd152 [] := hq153
      have hS155 := hq153
      refine W.seq (W.region ?_)
      refine WL.val (Value.bool true) _ (op_assign rfl) rfl ?_
      refine WL.nil ?_
      refine W.ret ?_
      obtain rfl := Option.some.inj h
      show FinP _ _ _ _ _ _ _
      exact FinP.ret _ (res1 rfl rfl) ⟨rfl, hS155.ext⟩

theorem c_laws_eqInt64SSS {w : World} {a : (List (List (List Int)))} {v_a : Value} {b : (List (List (List Int)))} {v_b : Value} (r_a : (Ty.sl (Ty.sl (Ty.sl (Ty.i .i64)))).rep w v_a a) (r_b : (Ty.sl (Ty.sl (Ty.sl (Ty.i .i64)))).rep w v_b b) {res : Bool} (h : p_laws_eqInt64SSS a b  = some res) :
    Ret Tryd.prog 37 #[v_a, v_b] w (fun v w' => v = Value.bool res ∧ Ext w w') := by
  unfold p_laws_eqInt64SSS at h
  have hS0 : St w w [] := St.start w
  refine Ret.start (fn := Tryd.f37) Tryd.func37 rfl 27 rfl rfl ?_
  refine W.seq (W.region ?_)
  refine WL.val (Value.bool false) _ (op_assign rfl) rfl ?_
  refine WL.nil ?_
  refine W.seq (W.seq (W.region ?_))
  refine WL.val v_a _ (op_move rfl) rfl ?_
  have hr1 := inR_len (Ty.lift _ hS0.ext r_a)
  refine WL.val (Value.int .i64 ((a).length : Int)) _ (op_lenL sl_22 (Ty.lift _ hS0.ext r_a) rfl) rfl ?_
  refine WL.val v_b _ (op_move rfl) rfl ?_
  have hr2 := inR_len (Ty.lift _ hS0.ext r_b)
  refine WL.val (Value.int .i64 ((b).length : Int)) _ (op_lenL sl_22 (Ty.lift _ hS0.ext r_b) rfl) rfl ?_
  refine WL.val (Value.bool (((a).length : Int) != ((b).length : Int))) _ (op_neq rfl rfl) rfl ?_
  refine WL.nil ?_
  refine W.cond (((a).length : Int) != ((b).length : Int)) rfl (fun hc3 => ?_) (fun hc3 => ?_)
  · replace h := ip h hc3
    refine W.seq (W.region ?_)
    refine WL.val (Value.bool false) _ (op_assign rfl) rfl ?_
    refine WL.nil ?_
    refine W.ret ?_
    obtain rfl := Option.some.inj h
    show FinP _ _ _ _ _ _ _
    exact FinP.ret _ (res1 rfl rfl) ⟨rfl, hS0.ext⟩
  · replace h := inegb h hc3
    refine W.skip ?_
    refine W.seq (W.seq (W.region ?_))
    refine WL.val (Value.int .i64 (0 : Int)) _ (op_assign rfl) rfl ?_
    refine WL.nil ?_
    show W _ _ _ _ _ _
    obtain ⟨res5, hres6, h⟩ := bs h
    refine W.blockLoop (fun fq wq => ∃ s, res5 = Res.fin s ∧ St w wq []) ?_ ?_
    · refine W.forN (fun k (s : Unit) fq wq => fq 0 = v_a ∧ fq 1 = v_b ∧ fq 5 = Value.int .i64 (k : Int) ∧ InR .i64 (k : Int) ∧ St w wq []) hres6 ⟨rfl, rfl, rfl, (inL rfl), hS0⟩ ?_ ?_
      · intro k7 s138 ct8 f9 wd10 hk11 hb12 hI13 hbrk14 hret15
        obtain ⟨⟩ := s138
        replace hI13 : f9 0 = v_a ∧ f9 1 = v_b ∧ f9 5 = Value.int .i64 (k7 : Int) ∧ InR .i64 (k7 : Int) ∧ St w wd10 [] := hI13
        replace hb12 : p_laws_eqInt64SSS_L1 a b k7  = some ct8 := hb12
        unfold p_laws_eqInt64SSS_L1 at hb12
        obtain ⟨hf16, hf17, hf18, hr19, hS20⟩ := hI13
        refine W.seq (W.seq (W.region ?_))
        refine WL.val (Value.int .i64 (k7 : Int)) _ (op_move hf18) rfl ?_
        refine WL.val v_a _ (op_move hf16) rfl ?_
        have hr21 := inR_len (Ty.lift _ hS20.ext r_a)
        refine WL.val (Value.int .i64 ((a).length : Int)) _ (op_lenL sl_22 (Ty.lift _ hS20.ext r_a) rfl) rfl ?_
        refine WL.val (Value.bool (decide ((k7 : Int) < ((a).length : Int)))) _ (op_lss rfl rfl) rfl ?_
        have hl22 : (k7 : Int) < ((a).length : Int) := by omega
        refine WL.nil ?_
        refine W.condT (decide ((k7 : Int) < ((a).length : Int))) rfl (decide_eq_true hl22) ?_
        refine W.skip ?_
        refine W.seq ?_
        refine W.block ?_
        refine W.seq ?_
        obtain ⟨x53, hx56, hb12⟩ := bs hb12
        obtain ⟨ha54, hb55, hx56⟩ := idx_some hx56
        obtain ⟨u67, hc68, hr69⟩ := repSl.el r_a hx56
        obtain ⟨x99, hx102, hb12⟩ := bs hb12
        obtain ⟨ha100, hb101, hx102⟩ := idx_some hx102
        obtain ⟨u113, hc114, hr115⟩ := repSl.el r_b hx102
        refine W.drawR mixo 8 [] [fun _ v _ _ => v = v_a, fun _ v _ _ => v = (Value.int .i64 (k7 : Int)) ∧ InR .i64 (k7 : Int), fun _ v _ _ => v = (Value.pointer (some (elA v_a ((k7 : Int)).toNat))), fun _ v _ _ => v = u67, fun _ v _ _ => v = v_b, fun _ v _ _ => v = (Value.int .i64 (k7 : Int)) ∧ InR .i64 (k7 : Int), fun _ v _ _ => v = (Value.pointer (some (elA v_b ((k7 : Int)).toNat))), fun _ v _ _ => v = u113] (by kernel_rfl) (by kernel_rfl) ⟨pk, pk, pk, pk, pk, pk, pk, pk, trivial⟩ ⟨?_, ?_, ?_, ?_, ?_, ?_, ?_, ?_, trivial⟩ ?_
        · refine ObX.op rfl fun f24 wd25 he26 hout27 hphi28 => ?_
          have e30 : f24 0 = v_a := (hout27 0 rfl).trans hf16
          exact OpX.val v_a wd25 rfl (op_move e30) (Ext.refl _) rfl
        · refine ObX.op rfl fun f31 wd32 he33 hout34 hphi35 => ?_
          have e37 : f31 5 = (Value.int .i64 (k7 : Int)) := (hout34 5 rfl).trans hf18
          exact OpX.val (Value.int .i64 (k7 : Int)) wd32 rfl (op_move e37) (Ext.refl _) ⟨rfl, hr19⟩
        · refine ObX.op rfl fun f38 wd39 he40 hout41 hphi42 => ?_
          have hS43 := St.extend hS20 he40
          obtain ⟨S44, hS45, hf46⟩ := hphi42 0 17 _ rfl rfl rfl
          have e47 : f38 17 = v_a := hf46
          obtain ⟨S48, hS49, hf50⟩ := hphi42 1 18 _ rfl rfl rfl
          obtain ⟨e51, hr52⟩ := hf50
          exact OpX.val (Value.pointer (some (elA v_a ((k7 : Int)).toNat))) wd39 rfl (op_idx sl_22 (Ty.lift _ hS43.ext r_a) e47 e51 ha54 hb55) (Ext.refl _) rfl
        · refine ObX.op rfl fun f57 wd58 he59 hout60 hphi61 => ?_
          have hS62 := St.extend hS20 he59
          obtain ⟨S63, hS64, hf65⟩ := hphi61 2 19 _ rfl rfl rfl
          have e66 : f57 19 = (Value.pointer (some (elA v_a ((k7 : Int)).toNat))) := hf65
          exact OpX.val u67 wd58 rfl (op_load one_41 e66 (Ext.cell hS62.ext hc68)) (Ext.refl _) rfl
        · refine ObX.op rfl fun f70 wd71 he72 hout73 hphi74 => ?_
          have e76 : f70 1 = v_b := (hout73 1 rfl).trans hf17
          exact OpX.val v_b wd71 rfl (op_move e76) (Ext.refl _) rfl
        · refine ObX.op rfl fun f77 wd78 he79 hout80 hphi81 => ?_
          have e83 : f77 5 = (Value.int .i64 (k7 : Int)) := (hout80 5 rfl).trans hf18
          exact OpX.val (Value.int .i64 (k7 : Int)) wd78 rfl (op_move e83) (Ext.refl _) ⟨rfl, hr19⟩
        · refine ObX.op rfl fun f84 wd85 he86 hout87 hphi88 => ?_
          have hS89 := St.extend hS20 he86
          obtain ⟨S90, hS91, hf92⟩ := hphi88 4 21 _ rfl rfl rfl
          have e93 : f84 21 = v_b := hf92
          obtain ⟨S94, hS95, hf96⟩ := hphi88 5 22 _ rfl rfl rfl
          obtain ⟨e97, hr98⟩ := hf96
          exact OpX.val (Value.pointer (some (elA v_b ((k7 : Int)).toNat))) wd85 rfl (op_idx sl_22 (Ty.lift _ hS89.ext r_b) e93 e97 ha100 hb101) (Ext.refl _) rfl
        · refine ObX.op rfl fun f103 wd104 he105 hout106 hphi107 => ?_
          have hS108 := St.extend hS20 he105
          obtain ⟨S109, hS110, hf111⟩ := hphi107 6 23 _ rfl rfl rfl
          have e112 : f103 23 = (Value.pointer (some (elA v_b ((k7 : Int)).toNat))) := hf111
          exact OpX.val u113 wd104 rfl (op_load one_41 e112 (Ext.cell hS108.ext hc114)) (Ext.refl _) rfl
        · intro f116 wd117 Ss118 he119 hout120 hSn121 hSd122 hphi123
          show WL _ _ _ _ _ _ _
          have hS124 := St.extend hS20 he119
          have e125 : f116 20 = u67 := hphi123 3 20 _ (by decide) rfl rfl
          have e126 : f116 24 = u113 := hphi123 7 24 _ (by decide) rfl rfl
          have e127 : f116 0 = v_a := (hout120 0 rfl).trans hf16
          have e128 : f116 1 = v_b := (hout120 1 rfl).trans hf17
          have e129 : f116 5 = (Value.int .i64 (k7 : Int)) := (hout120 5 rfl).trans hf18
          obtain ⟨x130, hx131, hb12⟩ := bs hb12
          refine WL.call _ (op_call fn_24 (args2 e125 e126)) (c_laws_eqInt64SS (Ty.lift _ hS124.ext hr69) (Ty.lift _ hS124.ext hr115) hx131) rfl ?_
          rintro _ wd132 ⟨rfl, he133⟩
          have hS135 := St.extend hS124 he133
          replace hS135 : St w wd132 [] := hS135
          refine WL.val (Value.bool (!x130)) _ (op_not rfl) rfl ?_
          refine WL.nil ?_
          refine W.cond (!x130) rfl (fun hc136 => ?_) (fun hc136 => ?_)
          · replace hb12 := ip hb12 hc136
            refine W.seq (W.region ?_)
            refine WL.val (Value.bool false) _ (op_assign rfl) rfl ?_
            refine WL.nil ?_
            refine W.ret ?_
            obtain rfl := Option.some.inj hb12
            obtain rfl := hret15 _ rfl
            replace h := onRes_ret h
            obtain rfl := Option.some.inj h
            show FinP _ _ _ _ _ _ _
            exact FinP.ret _ (res1 rfl rfl) ⟨rfl, hS135.ext⟩
          · replace hb12 := inegb hb12 hc136
            refine W.skip ?_
            show W _ _ _ _ _ _
            refine W.region ?_
            refine WL.val (Value.int .i64 (k7 : Int)) _ (op_move e129) rfl ?_
            refine WL.val (Value.int .i64 (w64 ((k7 : Int) + (1 : Int)))) _ (op_add rfl rfl) rfl ?_
            refine WL.val (Value.int .i64 (w64 ((k7 : Int) + (1 : Int)))) _ (op_assign rfl) rfl ?_
            refine WL.nil ?_
            obtain rfl := Option.some.inj hb12
            show ∃ s, _ = Ctl.next s ∧ _
            exact ⟨_, rfl, e127, e128, (ctr_next hl22 hr21), (ctr_rng hl22 hr21), hS135⟩
      · intro s143 f139 wd140 hs141 hI142
        obtain ⟨⟩ := s143
        replace hI142 : f139 0 = v_a ∧ f139 1 = v_b ∧ f139 5 = Value.int .i64 (((a).length : Nat) : Int) ∧ InR .i64 (((a).length : Nat) : Int) ∧ St w wd140 [] := hI142
        obtain ⟨hf144, hf145, hf146, hr147, hS148⟩ := hI142
        refine W.seq (W.seq (W.region ?_))
        refine WL.val (Value.int .i64 (((a).length : Nat) : Int)) _ (op_move hf146) rfl ?_
        refine WL.val v_a _ (op_move hf144) rfl ?_
        have hr149 := inR_len (Ty.lift _ hS148.ext r_a)
        refine WL.val (Value.int .i64 ((a).length : Int)) _ (op_lenL sl_22 (Ty.lift _ hS148.ext r_a) rfl) rfl ?_
        refine WL.val (Value.bool (decide ((((a).length : Nat) : Int) < ((a).length : Int)))) _ (op_lss rfl rfl) rfl ?_
        have hl150 : ¬ (((a).length : Nat) : Int) < ((a).length : Int) := by omega
        refine WL.nil ?_
        refine W.condF (decide ((((a).length : Nat) : Int) < ((a).length : Int))) rfl (decide_eq_false hl150) ?_
        refine W.exit ?_
        show _ = _ ∧ _
        exact ⟨rfl, _, hs141, hS148⟩
    · rintro f151 wd152 ⟨s154, rfl, hq153⟩
      replace h := onRes_fin h
      obtain ⟨⟩ := s154
      replace hq153 : St w wd152 [] := hq153
      have hS155 := hq153
      refine W.seq (W.region ?_)
      refine WL.val (Value.bool true) _ (op_assign rfl) rfl ?_
      refine WL.nil ?_
      refine W.ret ?_
      obtain rfl := Option.some.inj h
      show FinP _ _ _ _ _ _ _
      exact FinP.ret _ (res1 rfl rfl) ⟨rfl, hS155.ext⟩

theorem c_laws_eqRing {w : World} {a_Table : (List (List (List Int)))} {v_a_Table : Value} {b_Table : (List (List (List Int)))} {v_b_Table : Value} (r_a_Table : (Ty.sl (Ty.sl (Ty.sl (Ty.i .i64)))).rep w v_a_Table a_Table) (r_b_Table : (Ty.sl (Ty.sl (Ty.sl (Ty.i .i64)))).rep w v_b_Table b_Table) {res : Bool} (h : p_laws_eqRing a_Table b_Table  = some res) :
    Ret Tryd.prog 12 #[(Value.agg #[v_a_Table]), (Value.agg #[v_b_Table])] w (fun v w' => v = Value.bool res ∧ Ext w w') := by
  unfold p_laws_eqRing at h
  have hS0 : St w w [] := St.start w
  refine Ret.start (fn := Tryd.f12) Tryd.func12 rfl 11 rfl rfl ?_
  refine W.seq (W.region ?_)
  refine WL.box hS0 rfl (cs := [v_a_Table]) rfl rfl ?_
  intro b1 wd2 hS3 he4 hx5
  replace hS3 : St w wd2 [bx b1 [v_a_Table]] := hS3
  have hx6 := St.boxAt hS3 0 rfl
  have hE7 : Ext w wd2 := hS3.ext
  have hS8 : St wd2 wd2 [] := St.start wd2
  refine WL.box hS8 rfl (cs := [v_b_Table]) rfl rfl ?_
  intro b9 wd10 hS11 he12 hx13
  replace hS11 : St wd2 wd10 [bx b9 [v_b_Table]] := hS11
  have hx14 := St.boxAt hS11 0 rfl
  have hE15 : Ext w wd10 := (Ext.trans hE7 hS11.ext)
  have hE16 : Ext wd2 wd10 := hS11.ext
  have hS17 : St wd10 wd10 [] := St.start wd10
  refine WL.val (Value.bool false) _ (op_assign rfl) rfl ?_
  refine WL.nil ?_
  refine W.seq (W.seq (W.region ?_))
  refine WL.val (Value.pointer (some ⟨b1, 0, none⟩)) _ (op_fieldAddr fd_26_0 rfl) rfl ?_
  refine WL.val v_a_Table _ (op_load one_22 rfl (BoxAt.cell (BoxAt.lift (Ext.trans hE16 hS17.ext) hx6) rfl)) rfl ?_
  refine WL.val (Value.pointer (some ⟨b9, 0, none⟩)) _ (op_fieldAddr fd_26_0 rfl) rfl ?_
  refine WL.val v_b_Table _ (op_load one_22 rfl (BoxAt.cell (BoxAt.lift hS17.ext hx14) rfl)) rfl ?_
  obtain ⟨x18, hx19, h⟩ := bs h
  refine WL.call _ (op_call fn_37 (args2 rfl rfl)) (c_laws_eqInt64SSS (Ty.lift _ (Ext.trans hE15 hS17.ext) r_a_Table) (Ty.lift _ (Ext.trans hE15 hS17.ext) r_b_Table) hx19) rfl ?_
  rintro _ wd20 ⟨rfl, he21⟩
  have hS23 := St.extend hS17 he21
  replace hS23 : St wd10 wd20 [] := hS23
  refine WL.val (Value.bool (!x18)) _ (op_not rfl) rfl ?_
  refine WL.nil ?_
  refine W.cond (!x18) rfl (fun hc24 => ?_) (fun hc24 => ?_)
  · replace h := ip h hc24
    refine W.seq (W.region ?_)
    refine WL.val (Value.bool false) _ (op_assign rfl) rfl ?_
    refine WL.nil ?_
    refine W.ret ?_
    obtain rfl := Option.some.inj h
    show FinP _ _ _ _ _ _ _
    exact FinP.ret _ (res1 rfl rfl) ⟨rfl, (Ext.trans hE15 hS23.ext)⟩
  · replace h := inegb h hc24
    refine W.skip ?_
    refine W.seq (W.region ?_)
    refine WL.val (Value.bool true) _ (op_assign rfl) rfl ?_
    refine WL.nil ?_
    refine W.ret ?_
    obtain rfl := Option.some.inj h
    show FinP _ _ _ _ _ _ _
    exact FinP.ret _ (res1 rfl rfl) ⟨rfl, (Ext.trans hE15 hS23.ext)⟩

theorem c_laws_markInt64S {w : World} {a : (List Int)} {v_a : Value} {k1 : Int} {w0 : World} {R : Ent} (hS0 : St w0 w [(Ty.sl (Ty.i .i64)).at v_a a, R]) (r_k1 : InR .i64 k1) {res : Int × (List Int)} (h : p_laws_markInt64S a k1  = some res) :
    Ret Tryd.prog 18 #[v_a, (Value.int .i64 k1)] w (fun v w' => v = Value.int .i64 res.1 ∧ InR .i64 res.1 ∧ St w0 w' [(Ty.sl (Ty.i .i64)).at v_a res.2, R]) := by
  unfold p_laws_markInt64S at h
  refine Ret.start (fn := Tryd.f18) Tryd.func18 rfl 19 rfl rfl ?_
  refine W.seq (W.region ?_)
  refine WL.val (Value.int .i64 (0 : Int)) _ (op_assign rfl) rfl ?_
  refine WL.nil ?_
  refine W.seq (W.seq (W.region ?_))
  refine WL.val (Value.int .i64 (0 : Int)) _ (op_assign rfl) rfl ?_
  refine WL.nil ?_
  show W _ _ _ _ _ _
  obtain ⟨res1, hres2, h⟩ := bs h
  refine W.blockLoop (fun fq wq => ∃ s, res1 = Res.fin s ∧ fq 1 = Value.int .i64 s.2 ∧ InR .i64 s.2 ∧ (s.1).length = (a).length ∧ St w0 wq [(Ty.sl (Ty.i .i64)).at v_a s.1, R]) ?_ ?_
  · refine W.forN (fun k (s : (List Int) × Int) fq wq => fq 0 = v_a ∧ fq 1 = Value.int .i64 s.2 ∧ InR .i64 s.2 ∧ fq 5 = Value.int .i64 (k : Int) ∧ InR .i64 (k : Int) ∧ (s.1).length = (a).length ∧ St w0 wq [(Ty.sl (Ty.i .i64)).at v_a s.1, R]) hres2 ⟨rfl, rfl, r_k1, rfl, (inL rfl), rfl, hS0⟩ ?_ ?_
    · intro k3 s30 ct6 f7 wd8 hk9 hb10 hI11 hbrk12 hret13
      obtain ⟨x4, x5⟩ := s30
      replace hI11 : f7 0 = v_a ∧ f7 1 = Value.int .i64 x5 ∧ InR .i64 x5 ∧ f7 5 = Value.int .i64 (k3 : Int) ∧ InR .i64 (k3 : Int) ∧ (x4).length = (a).length ∧ St w0 wd8 [(Ty.sl (Ty.i .i64)).at v_a x4, R] := hI11
      replace hb10 : p_laws_markInt64S_L1  k3 x4 x5 = some ct6 := hb10
      unfold p_laws_markInt64S_L1 at hb10
      obtain ⟨hf14, hf15, hr16, hf17, hr18, hL19, hS20⟩ := hI11
      refine W.seq (W.seq (W.region ?_))
      refine WL.val (Value.int .i64 (k3 : Int)) _ (op_move hf17) rfl ?_
      refine WL.val v_a _ (op_move hf14) rfl ?_
      have hr21 := inR_len (St.rep (t := (Ty.sl (Ty.i .i64))) hS20 0 rfl)
      refine WL.val (Value.int .i64 ((x4).length : Int)) _ (op_lenL sl_33 (St.rep (t := (Ty.sl (Ty.i .i64))) hS20 0 rfl) rfl) rfl ?_
      refine WL.val (Value.bool (decide ((k3 : Int) < ((x4).length : Int)))) _ (op_lss rfl rfl) rfl ?_
      have hl22 : (k3 : Int) < ((x4).length : Int) := by omega
      refine WL.nil ?_
      refine W.condT (decide ((k3 : Int) < ((x4).length : Int))) rfl (decide_eq_true hl22) ?_
      refine W.skip ?_
      refine W.seq ?_
      refine W.block ?_
      refine W.seq (W.region ?_)
      refine WL.val v_a _ (op_move hf14) rfl ?_
      refine WL.val (Value.int .i64 (k3 : Int)) _ (op_move hf17) rfl ?_
      refine WL.val (Value.int .i64 x5) _ (op_move hf15) rfl ?_
      obtain ⟨x24, hx27, hb10⟩ := bs hb10
      obtain ⟨ha25, hb26, hx27⟩ := idx_some hx27
      refine WL.val (Value.pointer (some (elA v_a ((k3 : Int)).toNat))) _ (op_idx sl_33 (St.rep (t := (Ty.sl (Ty.i .i64))) hS20 0 rfl) rfl rfl ha25 hb26) rfl ?_
      refine WL.storeEl (flat_i .i64) hS20 (k := 0) rfl sz_2 rfl rfl (lt_of_idx ha25 hb26) ⟨rfl, hr16⟩ ?_
      intro wd28 hS29
      replace hS29 : St w0 wd28 [(Ty.sl (Ty.i .i64)).at v_a ((x4).set ((k3 : Int)).toNat x5), R] := hS29
      refine WL.nil ?_
      show W _ _ _ _ _ _
      refine W.region ?_
      refine WL.val (Value.int .i64 x5) _ (op_move hf15) rfl ?_
      refine WL.val (Value.int .i64 (w64 (x5 + (1 : Int)))) _ (op_add rfl rfl) rfl ?_
      refine WL.val (Value.int .i64 (w64 (x5 + (1 : Int)))) _ (op_assign rfl) rfl ?_
      refine WL.nil ?_
      show W _ _ _ _ _ _
      refine W.region ?_
      refine WL.val (Value.int .i64 (k3 : Int)) _ (op_move hf17) rfl ?_
      refine WL.val (Value.int .i64 (w64 ((k3 : Int) + (1 : Int)))) _ (op_add rfl rfl) rfl ?_
      refine WL.val (Value.int .i64 (w64 ((k3 : Int) + (1 : Int)))) _ (op_assign rfl) rfl ?_
      refine WL.nil ?_
      obtain rfl := Option.some.inj hb10
      show ∃ s, _ = Ctl.next s ∧ _
      exact ⟨_, rfl, hf14, rfl, (inR_wrap _ _), (ctr_next hl22 hr21), (ctr_rng hl22 hr21), (by first | exact hL19 | (simp only [List.length_set]; exact hL19)), hS29⟩
    · intro s35 f31 wd32 hs33 hI34
      obtain ⟨x36, x37⟩ := s35
      replace hI34 : f31 0 = v_a ∧ f31 1 = Value.int .i64 x37 ∧ InR .i64 x37 ∧ f31 5 = Value.int .i64 (((a).length : Nat) : Int) ∧ InR .i64 (((a).length : Nat) : Int) ∧ (x36).length = (a).length ∧ St w0 wd32 [(Ty.sl (Ty.i .i64)).at v_a x36, R] := hI34
      obtain ⟨hf38, hf39, hr40, hf41, hr42, hL43, hS44⟩ := hI34
      refine W.seq (W.seq (W.region ?_))
      refine WL.val (Value.int .i64 (((a).length : Nat) : Int)) _ (op_move hf41) rfl ?_
      refine WL.val v_a _ (op_move hf38) rfl ?_
      have hr45 := inR_len (St.rep (t := (Ty.sl (Ty.i .i64))) hS44 0 rfl)
      refine WL.val (Value.int .i64 ((x36).length : Int)) _ (op_lenL sl_33 (St.rep (t := (Ty.sl (Ty.i .i64))) hS44 0 rfl) rfl) rfl ?_
      refine WL.val (Value.bool (decide ((((a).length : Nat) : Int) < ((x36).length : Int)))) _ (op_lss rfl rfl) rfl ?_
      have hl46 : ¬ (((a).length : Nat) : Int) < ((x36).length : Int) := by omega
      refine WL.nil ?_
      refine W.condF (decide ((((a).length : Nat) : Int) < ((x36).length : Int))) rfl (decide_eq_false hl46) ?_
      refine W.exit ?_
      show _ = _ ∧ _
      exact ⟨rfl, _, hs33, hf39, hr40, (by first | exact hL43 | (simp only [List.length_set]; exact hL43)), hS44⟩
  · rintro f47 wd48 ⟨s50, rfl, hq49⟩
    replace h := onRes_fin h
    obtain ⟨x51, x52⟩ := s50
    replace hq49 : f47 1 = Value.int .i64 x52 ∧ InR .i64 x52 ∧ (x51).length = (a).length ∧ St w0 wd48 [(Ty.sl (Ty.i .i64)).at v_a x51, R] := hq49
    replace h : (_ : Option _) = _ := h
    dsimp only at h
    obtain ⟨hf53, hr54, hL55, hS56⟩ := hq49
    refine W.seq (W.region ?_)
    refine WL.val (Value.int .i64 x52) _ (op_move hf53) rfl ?_
    refine WL.val (Value.int .i64 x52) _ (op_assign rfl) rfl ?_
    refine WL.nil ?_
    refine W.ret ?_
    obtain rfl := Option.some.inj h
    show FinP _ _ _ _ _ _ _
    exact FinP.ret _ (res1 rfl rfl) ⟨rfl, hr54, (St.pick hS56 [0, 1] rfl)⟩

theorem c_laws_markInt64SS {w : World} {a : (List (List Int))} {v_a : Value} {k1 : Int} {w0 : World} {R : Ent} (hS0 : St w0 w [(Ty.sl (Ty.sl (Ty.i .i64))).at v_a a, R]) (r_k1 : InR .i64 k1) {res : Int × (List (List Int))} (h : p_laws_markInt64SS a k1  = some res) :
    Ret Tryd.prog 25 #[v_a, (Value.int .i64 k1)] w (fun v w' => v = Value.int .i64 res.1 ∧ InR .i64 res.1 ∧ St w0 w' [(Ty.sl (Ty.sl (Ty.i .i64))).at v_a res.2, R]) := by
  unfold p_laws_markInt64SS at h
  refine Ret.start (fn := Tryd.f25) Tryd.func25 rfl 19 rfl rfl ?_
  refine W.seq (W.region ?_)
  refine WL.val (Value.int .i64 (0 : Int)) _ (op_assign rfl) rfl ?_
  refine WL.nil ?_
  refine W.seq (W.seq (W.region ?_))
  refine WL.val (Value.int .i64 (0 : Int)) _ (op_assign rfl) rfl ?_
  refine WL.nil ?_
  show W _ _ _ _ _ _
  obtain ⟨res1, hres2, h⟩ := bs h
  refine W.blockLoop (fun fq wq => ∃ s, res1 = Res.fin s ∧ fq 1 = Value.int .i64 s.2 ∧ InR .i64 s.2 ∧ (s.1).length = (a).length ∧ St w0 wq [(Ty.sl (Ty.sl (Ty.i .i64))).at v_a s.1, R]) ?_ ?_
  · refine W.forN (fun k (s : (List (List Int)) × Int) fq wq => fq 0 = v_a ∧ fq 1 = Value.int .i64 s.2 ∧ InR .i64 s.2 ∧ fq 5 = Value.int .i64 (k : Int) ∧ InR .i64 (k : Int) ∧ (s.1).length = (a).length ∧ St w0 wq [(Ty.sl (Ty.sl (Ty.i .i64))).at v_a s.1, R]) hres2 ⟨rfl, rfl, r_k1, rfl, (inL rfl), rfl, hS0⟩ ?_ ?_
    · intro k3 s40 ct6 f7 wd8 hk9 hb10 hI11 hbrk12 hret13
      obtain ⟨x4, x5⟩ := s40
      replace hI11 : f7 0 = v_a ∧ f7 1 = Value.int .i64 x5 ∧ InR .i64 x5 ∧ f7 5 = Value.int .i64 (k3 : Int) ∧ InR .i64 (k3 : Int) ∧ (x4).length = (a).length ∧ St w0 wd8 [(Ty.sl (Ty.sl (Ty.i .i64))).at v_a x4, R] := hI11
      replace hb10 : p_laws_markInt64SS_L1  k3 x4 x5 = some ct6 := hb10
      unfold p_laws_markInt64SS_L1 at hb10
      obtain ⟨hf14, hf15, hr16, hf17, hr18, hL19, hS20⟩ := hI11
      refine W.seq (W.seq (W.region ?_))
      refine WL.val (Value.int .i64 (k3 : Int)) _ (op_move hf17) rfl ?_
      refine WL.val v_a _ (op_move hf14) rfl ?_
      have hr21 := inR_len (St.rep (t := (Ty.sl (Ty.sl (Ty.i .i64)))) hS20 0 rfl)
      refine WL.val (Value.int .i64 ((x4).length : Int)) _ (op_lenL sl_41 (St.rep (t := (Ty.sl (Ty.sl (Ty.i .i64)))) hS20 0 rfl) rfl) rfl ?_
      refine WL.val (Value.bool (decide ((k3 : Int) < ((x4).length : Int)))) _ (op_lss rfl rfl) rfl ?_
      have hl22 : (k3 : Int) < ((x4).length : Int) := by omega
      refine WL.nil ?_
      refine W.condT (decide ((k3 : Int) < ((x4).length : Int))) rfl (decide_eq_true hl22) ?_
      refine W.skip ?_
      refine W.seq ?_
      refine W.block ?_
      refine W.region ?_
      refine WL.val v_a _ (op_move hf14) rfl ?_
      refine WL.val (Value.int .i64 (k3 : Int)) _ (op_move hf17) rfl ?_
      obtain ⟨x24, hx27, hb10⟩ := bs hb10
      obtain ⟨ha25, hb26, hx27⟩ := idx_some hx27
      refine WL.val (Value.pointer (some (elA v_a ((k3 : Int)).toNat))) _ (op_idx sl_41 (St.rep (t := (Ty.sl (Ty.sl (Ty.i .i64)))) hS20 0 rfl) rfl rfl ha25 hb26) rfl ?_
      obtain ⟨u28, hc29, hr30⟩ := repSl.el (St.rep (t := (Ty.sl (Ty.sl (Ty.i .i64)))) hS20 0 rfl) hx27
      refine WL.val u28 _ (op_load one_33 rfl hc29) rfl ?_
      refine WL.val (Value.int .i64 x5) _ (op_move hf15) rfl ?_
      have hS31 := St.unrow (k := 0) hS20 rfl hx27 hc29
      replace hS31 : St w0 wd8 [holeAt (Ty.sl (Ty.i .i64)) v_a x4 ((k3 : Int)).toNat u28, R, (Ty.sl (Ty.i .i64)).at u28 x24] := hS31
      obtain ⟨x32, hx33, hb10⟩ := bs hb10
      have hS34 := St.fold [(Ty.sl (Ty.i .i64)).at u28 x24] [holeAt (Ty.sl (Ty.i .i64)) v_a x4 ((k3 : Int)).toNat u28, R] (St.pick hS31 [2, 0, 1] rfl)
      refine WL.call _ (op_call fn_18 (args2 rfl rfl)) (c_laws_markInt64S hS34 hr16 hx33) rfl ?_
      rintro _ wd37 ⟨rfl, hr38, hS35⟩
      have hS36 := St.pick (St.unfold [(Ty.sl (Ty.i .i64)).at u28 x32.2] [holeAt (Ty.sl (Ty.i .i64)) v_a x4 ((k3 : Int)).toNat u28, R] hS35) [1, 2, 0] rfl
      replace hS36 : St w0 wd37 [holeAt (Ty.sl (Ty.i .i64)) v_a x4 ((k3 : Int)).toNat u28, R, (Ty.sl (Ty.i .i64)).at u28 x32.2] := hS36
      have hS39 := St.rerow (k := 0) (k2 := 2) hS36 rfl rfl rfl
      replace hS39 : St w0 wd37 [(Ty.sl (Ty.sl (Ty.i .i64))).at v_a ((x4).set ((k3 : Int)).toNat x32.2), R, emp] := hS39
      refine WL.val (Value.int .i64 x32.1) _ (op_assign rfl) rfl ?_
      refine WL.nil ?_
      show W _ _ _ _ _ _
      refine W.region ?_
      refine WL.val (Value.int .i64 (k3 : Int)) _ (op_move hf17) rfl ?_
      refine WL.val (Value.int .i64 (w64 ((k3 : Int) + (1 : Int)))) _ (op_add rfl rfl) rfl ?_
      refine WL.val (Value.int .i64 (w64 ((k3 : Int) + (1 : Int)))) _ (op_assign rfl) rfl ?_
      refine WL.nil ?_
      obtain rfl := Option.some.inj hb10
      show ∃ s, _ = Ctl.next s ∧ _
      exact ⟨_, rfl, hf14, rfl, hr38, (ctr_next hl22 hr21), (ctr_rng hl22 hr21), (by first | exact hL19 | (simp only [List.length_set]; exact hL19)), (St.pick hS39 [0, 1] rfl)⟩
    · intro s45 f41 wd42 hs43 hI44
      obtain ⟨x46, x47⟩ := s45
      replace hI44 : f41 0 = v_a ∧ f41 1 = Value.int .i64 x47 ∧ InR .i64 x47 ∧ f41 5 = Value.int .i64 (((a).length : Nat) : Int) ∧ InR .i64 (((a).length : Nat) : Int) ∧ (x46).length = (a).length ∧ St w0 wd42 [(Ty.sl (Ty.sl (Ty.i .i64))).at v_a x46, R] := hI44
      obtain ⟨hf48, hf49, hr50, hf51, hr52, hL53, hS54⟩ := hI44
      refine W.seq (W.seq (W.region ?_))
      refine WL.val (Value.int .i64 (((a).length : Nat) : Int)) _ (op_move hf51) rfl ?_
      refine WL.val v_a _ (op_move hf48) rfl ?_
      have hr55 := inR_len (St.rep (t := (Ty.sl (Ty.sl (Ty.i .i64)))) hS54 0 rfl)
      refine WL.val (Value.int .i64 ((x46).length : Int)) _ (op_lenL sl_41 (St.rep (t := (Ty.sl (Ty.sl (Ty.i .i64)))) hS54 0 rfl) rfl) rfl ?_
      refine WL.val (Value.bool (decide ((((a).length : Nat) : Int) < ((x46).length : Int)))) _ (op_lss rfl rfl) rfl ?_
      have hl56 : ¬ (((a).length : Nat) : Int) < ((x46).length : Int) := by omega
      refine WL.nil ?_
      refine W.condF (decide ((((a).length : Nat) : Int) < ((x46).length : Int))) rfl (decide_eq_false hl56) ?_
      refine W.exit ?_
      show _ = _ ∧ _
      exact ⟨rfl, _, hs43, hf49, hr50, (by first | exact hL53 | (simp only [List.length_set]; exact hL53)), hS54⟩
  · rintro f57 wd58 ⟨s60, rfl, hq59⟩
    replace h := onRes_fin h
    obtain ⟨x61, x62⟩ := s60
    replace hq59 : f57 1 = Value.int .i64 x62 ∧ InR .i64 x62 ∧ (x61).length = (a).length ∧ St w0 wd58 [(Ty.sl (Ty.sl (Ty.i .i64))).at v_a x61, R] := hq59
    replace h : (_ : Option _) = _ := h
    dsimp only at h
    obtain ⟨hf63, hr64, hL65, hS66⟩ := hq59
    refine W.seq (W.region ?_)
    refine WL.val (Value.int .i64 x62) _ (op_move hf63) rfl ?_
    refine WL.val (Value.int .i64 x62) _ (op_assign rfl) rfl ?_
    refine WL.nil ?_
    refine W.ret ?_
    obtain rfl := Option.some.inj h
    show FinP _ _ _ _ _ _ _
    exact FinP.ret _ (res1 rfl rfl) ⟨rfl, hr64, (St.pick hS66 [0, 1] rfl)⟩

theorem c_laws_markInt64SSS {w : World} {a : (List (List (List Int)))} {v_a : Value} {k1 : Int} {w0 : World} {R : Ent} (hS0 : St w0 w [(Ty.sl (Ty.sl (Ty.sl (Ty.i .i64)))).at v_a a, R]) (r_k1 : InR .i64 k1) {res : Int × (List (List (List Int)))} (h : p_laws_markInt64SSS a k1  = some res) :
    Ret Tryd.prog 38 #[v_a, (Value.int .i64 k1)] w (fun v w' => v = Value.int .i64 res.1 ∧ InR .i64 res.1 ∧ St w0 w' [(Ty.sl (Ty.sl (Ty.sl (Ty.i .i64)))).at v_a res.2, R]) := by
  unfold p_laws_markInt64SSS at h
  refine Ret.start (fn := Tryd.f38) Tryd.func38 rfl 19 rfl rfl ?_
  refine W.seq (W.region ?_)
  refine WL.val (Value.int .i64 (0 : Int)) _ (op_assign rfl) rfl ?_
  refine WL.nil ?_
  refine W.seq (W.seq (W.region ?_))
  refine WL.val (Value.int .i64 (0 : Int)) _ (op_assign rfl) rfl ?_
  refine WL.nil ?_
  show W _ _ _ _ _ _
  obtain ⟨res1, hres2, h⟩ := bs h
  refine W.blockLoop (fun fq wq => ∃ s, res1 = Res.fin s ∧ fq 1 = Value.int .i64 s.2 ∧ InR .i64 s.2 ∧ (s.1).length = (a).length ∧ St w0 wq [(Ty.sl (Ty.sl (Ty.sl (Ty.i .i64)))).at v_a s.1, R]) ?_ ?_
  · refine W.forN (fun k (s : (List (List (List Int))) × Int) fq wq => fq 0 = v_a ∧ fq 1 = Value.int .i64 s.2 ∧ InR .i64 s.2 ∧ fq 5 = Value.int .i64 (k : Int) ∧ InR .i64 (k : Int) ∧ (s.1).length = (a).length ∧ St w0 wq [(Ty.sl (Ty.sl (Ty.sl (Ty.i .i64)))).at v_a s.1, R]) hres2 ⟨rfl, rfl, r_k1, rfl, (inL rfl), rfl, hS0⟩ ?_ ?_
    · intro k3 s40 ct6 f7 wd8 hk9 hb10 hI11 hbrk12 hret13
      obtain ⟨x4, x5⟩ := s40
      replace hI11 : f7 0 = v_a ∧ f7 1 = Value.int .i64 x5 ∧ InR .i64 x5 ∧ f7 5 = Value.int .i64 (k3 : Int) ∧ InR .i64 (k3 : Int) ∧ (x4).length = (a).length ∧ St w0 wd8 [(Ty.sl (Ty.sl (Ty.sl (Ty.i .i64)))).at v_a x4, R] := hI11
      replace hb10 : p_laws_markInt64SSS_L1  k3 x4 x5 = some ct6 := hb10
      unfold p_laws_markInt64SSS_L1 at hb10
      obtain ⟨hf14, hf15, hr16, hf17, hr18, hL19, hS20⟩ := hI11
      refine W.seq (W.seq (W.region ?_))
      refine WL.val (Value.int .i64 (k3 : Int)) _ (op_move hf17) rfl ?_
      refine WL.val v_a _ (op_move hf14) rfl ?_
      have hr21 := inR_len (St.rep (t := (Ty.sl (Ty.sl (Ty.sl (Ty.i .i64))))) hS20 0 rfl)
      refine WL.val (Value.int .i64 ((x4).length : Int)) _ (op_lenL sl_22 (St.rep (t := (Ty.sl (Ty.sl (Ty.sl (Ty.i .i64))))) hS20 0 rfl) rfl) rfl ?_
      refine WL.val (Value.bool (decide ((k3 : Int) < ((x4).length : Int)))) _ (op_lss rfl rfl) rfl ?_
      have hl22 : (k3 : Int) < ((x4).length : Int) := by omega
      refine WL.nil ?_
      refine W.condT (decide ((k3 : Int) < ((x4).length : Int))) rfl (decide_eq_true hl22) ?_
      refine W.skip ?_
      refine W.seq ?_
      refine W.block ?_
      refine W.region ?_
      refine WL.val v_a _ (op_move hf14) rfl ?_
      refine WL.val (Value.int .i64 (k3 : Int)) _ (op_move hf17) rfl ?_
      obtain ⟨x24, hx27, hb10⟩ := bs hb10
      obtain ⟨ha25, hb26, hx27⟩ := idx_some hx27
      refine WL.val (Value.pointer (some (elA v_a ((k3 : Int)).toNat))) _ (op_idx sl_22 (St.rep (t := (Ty.sl (Ty.sl (Ty.sl (Ty.i .i64))))) hS20 0 rfl) rfl rfl ha25 hb26) rfl ?_
      obtain ⟨u28, hc29, hr30⟩ := repSl.el (St.rep (t := (Ty.sl (Ty.sl (Ty.sl (Ty.i .i64))))) hS20 0 rfl) hx27
      refine WL.val u28 _ (op_load one_41 rfl hc29) rfl ?_
      refine WL.val (Value.int .i64 x5) _ (op_move hf15) rfl ?_
      have hS31 := St.unrow (k := 0) hS20 rfl hx27 hc29
      replace hS31 : St w0 wd8 [holeAt (Ty.sl (Ty.sl (Ty.i .i64))) v_a x4 ((k3 : Int)).toNat u28, R, (Ty.sl (Ty.sl (Ty.i .i64))).at u28 x24] := hS31
      obtain ⟨x32, hx33, hb10⟩ := bs hb10
      have hS34 := St.fold [(Ty.sl (Ty.sl (Ty.i .i64))).at u28 x24] [holeAt (Ty.sl (Ty.sl (Ty.i .i64))) v_a x4 ((k3 : Int)).toNat u28, R] (St.pick hS31 [2, 0, 1] rfl)
      refine WL.call _ (op_call fn_25 (args2 rfl rfl)) (c_laws_markInt64SS hS34 hr16 hx33) rfl ?_
      rintro _ wd37 ⟨rfl, hr38, hS35⟩
      have hS36 := St.pick (St.unfold [(Ty.sl (Ty.sl (Ty.i .i64))).at u28 x32.2] [holeAt (Ty.sl (Ty.sl (Ty.i .i64))) v_a x4 ((k3 : Int)).toNat u28, R] hS35) [1, 2, 0] rfl
      replace hS36 : St w0 wd37 [holeAt (Ty.sl (Ty.sl (Ty.i .i64))) v_a x4 ((k3 : Int)).toNat u28, R, (Ty.sl (Ty.sl (Ty.i .i64))).at u28 x32.2] := hS36
      have hS39 := St.rerow (k := 0) (k2 := 2) hS36 rfl rfl rfl
      replace hS39 : St w0 wd37 [(Ty.sl (Ty.sl (Ty.sl (Ty.i .i64)))).at v_a ((x4).set ((k3 : Int)).toNat x32.2), R, emp] := hS39
      refine WL.val (Value.int .i64 x32.1) _ (op_assign rfl) rfl ?_
      refine WL.nil ?_
      show W _ _ _ _ _ _
      refine W.region ?_
      refine WL.val (Value.int .i64 (k3 : Int)) _ (op_move hf17) rfl ?_
      refine WL.val (Value.int .i64 (w64 ((k3 : Int) + (1 : Int)))) _ (op_add rfl rfl) rfl ?_
      refine WL.val (Value.int .i64 (w64 ((k3 : Int) + (1 : Int)))) _ (op_assign rfl) rfl ?_
      refine WL.nil ?_
      obtain rfl := Option.some.inj hb10
      show ∃ s, _ = Ctl.next s ∧ _
      exact ⟨_, rfl, hf14, rfl, hr38, (ctr_next hl22 hr21), (ctr_rng hl22 hr21), (by first | exact hL19 | (simp only [List.length_set]; exact hL19)), (St.pick hS39 [0, 1] rfl)⟩
    · intro s45 f41 wd42 hs43 hI44
      obtain ⟨x46, x47⟩ := s45
      replace hI44 : f41 0 = v_a ∧ f41 1 = Value.int .i64 x47 ∧ InR .i64 x47 ∧ f41 5 = Value.int .i64 (((a).length : Nat) : Int) ∧ InR .i64 (((a).length : Nat) : Int) ∧ (x46).length = (a).length ∧ St w0 wd42 [(Ty.sl (Ty.sl (Ty.sl (Ty.i .i64)))).at v_a x46, R] := hI44
      obtain ⟨hf48, hf49, hr50, hf51, hr52, hL53, hS54⟩ := hI44
      refine W.seq (W.seq (W.region ?_))
      refine WL.val (Value.int .i64 (((a).length : Nat) : Int)) _ (op_move hf51) rfl ?_
      refine WL.val v_a _ (op_move hf48) rfl ?_
      have hr55 := inR_len (St.rep (t := (Ty.sl (Ty.sl (Ty.sl (Ty.i .i64))))) hS54 0 rfl)
      refine WL.val (Value.int .i64 ((x46).length : Int)) _ (op_lenL sl_22 (St.rep (t := (Ty.sl (Ty.sl (Ty.sl (Ty.i .i64))))) hS54 0 rfl) rfl) rfl ?_
      refine WL.val (Value.bool (decide ((((a).length : Nat) : Int) < ((x46).length : Int)))) _ (op_lss rfl rfl) rfl ?_
      have hl56 : ¬ (((a).length : Nat) : Int) < ((x46).length : Int) := by omega
      refine WL.nil ?_
      refine W.condF (decide ((((a).length : Nat) : Int) < ((x46).length : Int))) rfl (decide_eq_false hl56) ?_
      refine W.exit ?_
      show _ = _ ∧ _
      exact ⟨rfl, _, hs43, hf49, hr50, (by first | exact hL53 | (simp only [List.length_set]; exact hL53)), hS54⟩
  · rintro f57 wd58 ⟨s60, rfl, hq59⟩
    replace h := onRes_fin h
    obtain ⟨x61, x62⟩ := s60
    replace hq59 : f57 1 = Value.int .i64 x62 ∧ InR .i64 x62 ∧ (x61).length = (a).length ∧ St w0 wd58 [(Ty.sl (Ty.sl (Ty.sl (Ty.i .i64)))).at v_a x61, R] := hq59
    replace h : (_ : Option _) = _ := h
    dsimp only at h
    obtain ⟨hf63, hr64, hL65, hS66⟩ := hq59
    refine W.seq (W.region ?_)
    refine WL.val (Value.int .i64 x62) _ (op_move hf63) rfl ?_
    refine WL.val (Value.int .i64 x62) _ (op_assign rfl) rfl ?_
    refine WL.nil ?_
    refine W.ret ?_
    obtain rfl := Option.some.inj h
    show FinP _ _ _ _ _ _ _
    exact FinP.ret _ (res1 rfl rfl) ⟨rfl, hr64, (St.pick hS66 [0, 1] rfl)⟩

theorem c_laws_markRing {w : World} {a_Table : (List (List (List Int)))} {v_a_Table : Value} {k1 : Int} {w0 : World} {R : Ent} (hS0 : St w0 w [(Ty.sl (Ty.sl (Ty.sl (Ty.i .i64)))).at v_a_Table a_Table, R]) (r_k1 : InR .i64 k1) {res : Int × (List (List (List Int)))} (h : p_laws_markRing a_Table k1  = some res) :
    Ret Tryd.prog 13 #[(Value.agg #[v_a_Table]), (Value.int .i64 k1)] w (fun v w' => v = Value.int .i64 res.1 ∧ InR .i64 res.1 ∧ St w0 w' [(Ty.sl (Ty.sl (Ty.sl (Ty.i .i64)))).at v_a_Table res.2, R]) := by
  unfold p_laws_markRing at h
  refine Ret.start (fn := Tryd.f13) Tryd.func13 rfl 10 rfl rfl ?_
  refine W.seq (W.region ?_)
  refine WL.box hS0 rfl (cs := [v_a_Table]) rfl rfl ?_
  intro b1 wd2 hS3 he4 hx5
  replace hS3 : St w0 wd2 [(Ty.sl (Ty.sl (Ty.sl (Ty.i .i64)))).at v_a_Table a_Table, R, bx b1 [v_a_Table]] := hS3
  refine WL.val (Value.int .i64 (0 : Int)) _ (op_assign rfl) rfl ?_
  refine WL.nil ?_
  refine W.seq (W.region ?_)
  refine WL.val (Value.pointer (some ⟨b1, 0, none⟩)) _ (op_fieldAddr fd_26_0 rfl) rfl ?_
  refine WL.val v_a_Table _ (op_load one_22 rfl (BoxAt.cell (St.boxAt hS3 2 rfl) rfl)) rfl ?_
  refine WL.val (Value.int .i64 k1) _ (op_move rfl) rfl ?_
  obtain ⟨x6, hx7, h⟩ := bs h
  have hS8 := St.fold [(Ty.sl (Ty.sl (Ty.sl (Ty.i .i64)))).at v_a_Table a_Table] [R, bx b1 [v_a_Table]] (St.pick hS3 [0, 1, 2] rfl)
  refine WL.call _ (op_call fn_38 (args2 rfl rfl)) (c_laws_markInt64SSS hS8 r_k1 hx7) rfl ?_
  rintro _ wd11 ⟨rfl, hr12, hS9⟩
  have hS10 := St.pick (St.unfold [(Ty.sl (Ty.sl (Ty.sl (Ty.i .i64)))).at v_a_Table x6.2] [R, bx b1 [v_a_Table]] hS9) [0, 1, 2] rfl
  replace hS10 : St w0 wd11 [(Ty.sl (Ty.sl (Ty.sl (Ty.i .i64)))).at v_a_Table x6.2, R, bx b1 [v_a_Table]] := hS10
  refine WL.val (Value.int .i64 x6.1) _ (op_assign rfl) rfl ?_
  refine WL.nil ?_
  refine W.seq (W.region ?_)
  refine WL.val (Value.int .i64 x6.1) _ (op_move rfl) rfl ?_
  refine WL.val (Value.int .i64 x6.1) _ (op_assign rfl) rfl ?_
  refine WL.nil ?_
  refine W.ret ?_
  obtain rfl := Option.some.inj h
  show FinP _ _ _ _ _ _ _
  exact FinP.ret _ (res1 rfl rfl) ⟨rfl, hr12, (St.pick hS10 [0, 1] rfl)⟩

theorem c_laws_heldInt64S {w : World} {a : (List Int)} {v_a : Value} {k1 : Int} (r_a : (Ty.sl (Ty.i .i64)).rep w v_a a) (r_k1 : InR .i64 k1) {res : Int} (h : p_laws_heldInt64S a k1  = some res) :
    Ret Tryd.prog 19 #[v_a, (Value.int .i64 k1)] w (fun v w' => v = Value.int .i64 res ∧ InR .i64 res ∧ Ext w w') := by
  unfold p_laws_heldInt64S at h
  have hS0 : St w w [] := St.start w
  refine Ret.start (fn := Tryd.f19) Tryd.func19 rfl 21 rfl rfl ?_
  refine W.seq (W.region ?_)
  refine WL.val (Value.int .i64 (0 : Int)) _ (op_assign rfl) rfl ?_
  refine WL.nil ?_
  refine W.seq (W.seq (W.region ?_))
  refine WL.val (Value.int .i64 (0 : Int)) _ (op_assign rfl) rfl ?_
  refine WL.nil ?_
  show W _ _ _ _ _ _
  obtain ⟨res1, hres2, h⟩ := bs h
  refine W.blockLoop (fun fq wq => ∃ s, res1 = Res.fin s ∧ fq 1 = Value.int .i64 s ∧ InR .i64 s ∧ St w wq []) ?_ ?_
  · refine W.forN (fun k (s : Int) fq wq => fq 0 = v_a ∧ fq 1 = Value.int .i64 s ∧ InR .i64 s ∧ fq 5 = Value.int .i64 (k : Int) ∧ InR .i64 (k : Int) ∧ St w wq []) hres2 ⟨rfl, rfl, r_k1, rfl, (inL rfl), hS0⟩ ?_ ?_
    · intro k3 x4 ct5 f6 wd7 hk8 hb9 hI10 hbrk11 hret12
      replace hI10 : f6 0 = v_a ∧ f6 1 = Value.int .i64 x4 ∧ InR .i64 x4 ∧ f6 5 = Value.int .i64 (k3 : Int) ∧ InR .i64 (k3 : Int) ∧ St w wd7 [] := hI10
      replace hb9 : p_laws_heldInt64S_L1 a k3 x4 = some ct5 := hb9
      unfold p_laws_heldInt64S_L1 at hb9
      obtain ⟨hf13, hf14, hr15, hf16, hr17, hS18⟩ := hI10
      refine W.seq (W.seq (W.region ?_))
      refine WL.val (Value.int .i64 (k3 : Int)) _ (op_move hf16) rfl ?_
      refine WL.val v_a _ (op_move hf13) rfl ?_
      have hr19 := inR_len (Ty.lift _ hS18.ext r_a)
      refine WL.val (Value.int .i64 ((a).length : Int)) _ (op_lenL sl_33 (Ty.lift _ hS18.ext r_a) rfl) rfl ?_
      refine WL.val (Value.bool (decide ((k3 : Int) < ((a).length : Int)))) _ (op_lss rfl rfl) rfl ?_
      have hl20 : (k3 : Int) < ((a).length : Int) := by omega
      refine WL.nil ?_
      refine W.condT (decide ((k3 : Int) < ((a).length : Int))) rfl (decide_eq_true hl20) ?_
      refine W.skip ?_
      refine W.seq ?_
      refine W.block ?_
      refine W.seq (W.seq (W.region ?_))
      refine WL.val v_a _ (op_move hf13) rfl ?_
      refine WL.val (Value.int .i64 (k3 : Int)) _ (op_move hf16) rfl ?_
      obtain ⟨x22, hx25, hb9⟩ := bs hb9
      obtain ⟨ha23, hb24, hx25⟩ := idx_some hx25
      refine WL.val (Value.pointer (some (elA v_a ((k3 : Int)).toNat))) _ (op_idx sl_33 (Ty.lift _ hS18.ext r_a) rfl rfl ha23 hb24) rfl ?_
      obtain ⟨u26, hc27, hr28⟩ := repSl.el r_a hx25
      obtain ⟨rfl, hr28⟩ := hr28
      refine WL.val (Value.int .i64 x22) _ (op_load one_2 rfl (Ext.cell hS18.ext hc27)) rfl ?_
      refine WL.val (Value.int .i64 x4) _ (op_move hf14) rfl ?_
      refine WL.val (Value.bool (x22 != x4)) _ (op_neq rfl rfl) rfl ?_
      refine WL.nil ?_
      refine W.cond (x22 != x4) rfl (fun hc29 => ?_) (fun hc29 => ?_)
      · replace hb9 := ip hb9 hc29
        refine W.seq (W.region ?_)
        refine WL.val (Value.int .i64 (-1 : Int)) _ (op_assign rfl) rfl ?_
        refine WL.nil ?_
        refine W.ret ?_
        obtain rfl := Option.some.inj hb9
        obtain rfl := hret12 _ rfl
        replace h := onRes_ret h
        obtain rfl := Option.some.inj h
        show FinP _ _ _ _ _ _ _
        exact FinP.ret _ (res1 rfl rfl) ⟨rfl, (inR_i64.2 (show (-9223372036854775808 : Int) ≤ -1 ∧ (-1 : Int) ≤ 9223372036854775807 from by decide)), hS18.ext⟩
      · replace hb9 := inegb hb9 hc29
        refine W.skip ?_
        show W _ _ _ _ _ _
        refine W.region ?_
        refine WL.val (Value.int .i64 x4) _ (op_move hf14) rfl ?_
        refine WL.val (Value.int .i64 (w64 (x4 + (1 : Int)))) _ (op_add rfl rfl) rfl ?_
        refine WL.val (Value.int .i64 (w64 (x4 + (1 : Int)))) _ (op_assign rfl) rfl ?_
        refine WL.nil ?_
        show W _ _ _ _ _ _
        refine W.region ?_
        refine WL.val (Value.int .i64 (k3 : Int)) _ (op_move hf16) rfl ?_
        refine WL.val (Value.int .i64 (w64 ((k3 : Int) + (1 : Int)))) _ (op_add rfl rfl) rfl ?_
        refine WL.val (Value.int .i64 (w64 ((k3 : Int) + (1 : Int)))) _ (op_assign rfl) rfl ?_
        refine WL.nil ?_
        obtain rfl := Option.some.inj hb9
        show ∃ s, _ = Ctl.next s ∧ _
        exact ⟨_, rfl, hf13, rfl, (inR_wrap _ _), (ctr_next hl20 hr19), (ctr_rng hl20 hr19), hS18⟩
    · intro x37 f32 wd33 hs34 hI35
      replace hI35 : f32 0 = v_a ∧ f32 1 = Value.int .i64 x37 ∧ InR .i64 x37 ∧ f32 5 = Value.int .i64 (((a).length : Nat) : Int) ∧ InR .i64 (((a).length : Nat) : Int) ∧ St w wd33 [] := hI35
      obtain ⟨hf38, hf39, hr40, hf41, hr42, hS43⟩ := hI35
      refine W.seq (W.seq (W.region ?_))
      refine WL.val (Value.int .i64 (((a).length : Nat) : Int)) _ (op_move hf41) rfl ?_
      refine WL.val v_a _ (op_move hf38) rfl ?_
      have hr44 := inR_len (Ty.lift _ hS43.ext r_a)
      refine WL.val (Value.int .i64 ((a).length : Int)) _ (op_lenL sl_33 (Ty.lift _ hS43.ext r_a) rfl) rfl ?_
      refine WL.val (Value.bool (decide ((((a).length : Nat) : Int) < ((a).length : Int)))) _ (op_lss rfl rfl) rfl ?_
      have hl45 : ¬ (((a).length : Nat) : Int) < ((a).length : Int) := by omega
      refine WL.nil ?_
      refine W.condF (decide ((((a).length : Nat) : Int) < ((a).length : Int))) rfl (decide_eq_false hl45) ?_
      refine W.exit ?_
      show _ = _ ∧ _
      exact ⟨rfl, _, hs34, hf39, hr40, hS43⟩
  · rintro f46 wd47 ⟨x50, rfl, hq48⟩
    replace h := onRes_fin h
    replace hq48 : f46 1 = Value.int .i64 x50 ∧ InR .i64 x50 ∧ St w wd47 [] := hq48
    obtain ⟨hf51, hr52, hS53⟩ := hq48
    refine W.seq (W.region ?_)
    refine WL.val (Value.int .i64 x50) _ (op_move hf51) rfl ?_
    refine WL.val (Value.int .i64 x50) _ (op_assign rfl) rfl ?_
    refine WL.nil ?_
    refine W.ret ?_
    obtain rfl := Option.some.inj h
    show FinP _ _ _ _ _ _ _
    exact FinP.ret _ (res1 rfl rfl) ⟨rfl, hr52, hS53.ext⟩

theorem c_laws_heldInt64SS {w : World} {a : (List (List Int))} {v_a : Value} {k1 : Int} (r_a : (Ty.sl (Ty.sl (Ty.i .i64))).rep w v_a a) (r_k1 : InR .i64 k1) {res : Int} (h : p_laws_heldInt64SS a k1  = some res) :
    Ret Tryd.prog 26 #[v_a, (Value.int .i64 k1)] w (fun v w' => v = Value.int .i64 res ∧ InR .i64 res ∧ Ext w w') := by
  unfold p_laws_heldInt64SS at h
  have hS0 : St w w [] := St.start w
  refine Ret.start (fn := Tryd.f26) Tryd.func26 rfl 21 rfl rfl ?_
  refine W.seq (W.region ?_)
  refine WL.val (Value.int .i64 (0 : Int)) _ (op_assign rfl) rfl ?_
  refine WL.nil ?_
  refine W.seq (W.seq (W.region ?_))
  refine WL.val (Value.int .i64 (0 : Int)) _ (op_assign rfl) rfl ?_
  refine WL.nil ?_
  show W _ _ _ _ _ _
  obtain ⟨res1, hres2, h⟩ := bs h
  refine W.blockLoop (fun fq wq => ∃ s, res1 = Res.fin s ∧ fq 1 = Value.int .i64 s ∧ InR .i64 s ∧ St w wq []) ?_ ?_
  · refine W.forN (fun k (s : Int) fq wq => fq 0 = v_a ∧ fq 1 = Value.int .i64 s ∧ InR .i64 s ∧ fq 5 = Value.int .i64 (k : Int) ∧ InR .i64 (k : Int) ∧ St w wq []) hres2 ⟨rfl, rfl, r_k1, rfl, (inL rfl), hS0⟩ ?_ ?_
    · intro k3 x4 ct5 f6 wd7 hk8 hb9 hI10 hbrk11 hret12
      replace hI10 : f6 0 = v_a ∧ f6 1 = Value.int .i64 x4 ∧ InR .i64 x4 ∧ f6 5 = Value.int .i64 (k3 : Int) ∧ InR .i64 (k3 : Int) ∧ St w wd7 [] := hI10
      replace hb9 : p_laws_heldInt64SS_L1 a k3 x4 = some ct5 := hb9
      unfold p_laws_heldInt64SS_L1 at hb9
      obtain ⟨hf13, hf14, hr15, hf16, hr17, hS18⟩ := hI10
      refine W.seq (W.seq (W.region ?_))
      refine WL.val (Value.int .i64 (k3 : Int)) _ (op_move hf16) rfl ?_
      refine WL.val v_a _ (op_move hf13) rfl ?_
      have hr19 := inR_len (Ty.lift _ hS18.ext r_a)
      refine WL.val (Value.int .i64 ((a).length : Int)) _ (op_lenL sl_41 (Ty.lift _ hS18.ext r_a) rfl) rfl ?_
      refine WL.val (Value.bool (decide ((k3 : Int) < ((a).length : Int)))) _ (op_lss rfl rfl) rfl ?_
      have hl20 : (k3 : Int) < ((a).length : Int) := by omega
      refine WL.nil ?_
      refine W.condT (decide ((k3 : Int) < ((a).length : Int))) rfl (decide_eq_true hl20) ?_
      refine W.skip ?_
      refine W.seq ?_
      refine W.block ?_
      refine W.seq (W.region ?_)
      refine WL.val v_a _ (op_move hf13) rfl ?_
      refine WL.val (Value.int .i64 (k3 : Int)) _ (op_move hf16) rfl ?_
      obtain ⟨x22, hx25, hb9⟩ := bs hb9
      obtain ⟨ha23, hb24, hx25⟩ := idx_some hx25
      refine WL.val (Value.pointer (some (elA v_a ((k3 : Int)).toNat))) _ (op_idx sl_41 (Ty.lift _ hS18.ext r_a) rfl rfl ha23 hb24) rfl ?_
      obtain ⟨u26, hc27, hr28⟩ := repSl.el r_a hx25
      refine WL.val u26 _ (op_load one_33 rfl (Ext.cell hS18.ext hc27)) rfl ?_
      refine WL.val (Value.int .i64 x4) _ (op_move hf14) rfl ?_
      obtain ⟨x29, hx30, hb9⟩ := bs hb9
      refine WL.call _ (op_call fn_19 (args2 rfl rfl)) (c_laws_heldInt64S (Ty.lift _ hS18.ext hr28) hr15 hx30) rfl ?_
      rintro _ wd32 ⟨rfl, hr31, he33⟩
      have hS35 := St.extend hS18 he33
      replace hS35 : St w wd32 [] := hS35
      refine WL.val (Value.int .i64 x29) _ (op_assign rfl) rfl ?_
      refine WL.nil ?_
      refine W.seq (W.region ?_)
      refine WL.val (Value.int .i64 x29) _ (op_move rfl) rfl ?_
      refine WL.val (Value.bool (decide (x29 < (0 : Int)))) _ (op_lss rfl rfl) rfl ?_
      refine WL.nil ?_
      refine W.cond (decide (x29 < (0 : Int))) rfl (fun hc36 => ?_) (fun hc36 => ?_)
      · replace hb9 := ip hb9 hc36
        refine W.seq (W.region ?_)
        refine WL.val (Value.int .i64 (-1 : Int)) _ (op_assign rfl) rfl ?_
        refine WL.nil ?_
        refine W.ret ?_
        obtain rfl := Option.some.inj hb9
        obtain rfl := hret12 _ rfl
        replace h := onRes_ret h
        obtain rfl := Option.some.inj h
        show FinP _ _ _ _ _ _ _
        exact FinP.ret _ (res1 rfl rfl) ⟨rfl, (inR_i64.2 (show (-9223372036854775808 : Int) ≤ -1 ∧ (-1 : Int) ≤ 9223372036854775807 from by decide)), hS35.ext⟩
      · replace hb9 := inegb hb9 hc36
        refine W.skip ?_
        show W _ _ _ _ _ _
        refine W.region ?_
        refine WL.val (Value.int .i64 (k3 : Int)) _ (op_move hf16) rfl ?_
        refine WL.val (Value.int .i64 (w64 ((k3 : Int) + (1 : Int)))) _ (op_add rfl rfl) rfl ?_
        refine WL.val (Value.int .i64 (w64 ((k3 : Int) + (1 : Int)))) _ (op_assign rfl) rfl ?_
        refine WL.nil ?_
        obtain rfl := Option.some.inj hb9
        show ∃ s, _ = Ctl.next s ∧ _
        exact ⟨_, rfl, hf13, rfl, hr31, (ctr_next hl20 hr19), (ctr_rng hl20 hr19), hS35⟩
    · intro x44 f39 wd40 hs41 hI42
      replace hI42 : f39 0 = v_a ∧ f39 1 = Value.int .i64 x44 ∧ InR .i64 x44 ∧ f39 5 = Value.int .i64 (((a).length : Nat) : Int) ∧ InR .i64 (((a).length : Nat) : Int) ∧ St w wd40 [] := hI42
      obtain ⟨hf45, hf46, hr47, hf48, hr49, hS50⟩ := hI42
      refine W.seq (W.seq (W.region ?_))
      refine WL.val (Value.int .i64 (((a).length : Nat) : Int)) _ (op_move hf48) rfl ?_
      refine WL.val v_a _ (op_move hf45) rfl ?_
      have hr51 := inR_len (Ty.lift _ hS50.ext r_a)
      refine WL.val (Value.int .i64 ((a).length : Int)) _ (op_lenL sl_41 (Ty.lift _ hS50.ext r_a) rfl) rfl ?_
      refine WL.val (Value.bool (decide ((((a).length : Nat) : Int) < ((a).length : Int)))) _ (op_lss rfl rfl) rfl ?_
      have hl52 : ¬ (((a).length : Nat) : Int) < ((a).length : Int) := by omega
      refine WL.nil ?_
      refine W.condF (decide ((((a).length : Nat) : Int) < ((a).length : Int))) rfl (decide_eq_false hl52) ?_
      refine W.exit ?_
      show _ = _ ∧ _
      exact ⟨rfl, _, hs41, hf46, hr47, hS50⟩
  · rintro f53 wd54 ⟨x57, rfl, hq55⟩
    replace h := onRes_fin h
    replace hq55 : f53 1 = Value.int .i64 x57 ∧ InR .i64 x57 ∧ St w wd54 [] := hq55
    obtain ⟨hf58, hr59, hS60⟩ := hq55
    refine W.seq (W.region ?_)
    refine WL.val (Value.int .i64 x57) _ (op_move hf58) rfl ?_
    refine WL.val (Value.int .i64 x57) _ (op_assign rfl) rfl ?_
    refine WL.nil ?_
    refine W.ret ?_
    obtain rfl := Option.some.inj h
    show FinP _ _ _ _ _ _ _
    exact FinP.ret _ (res1 rfl rfl) ⟨rfl, hr59, hS60.ext⟩

theorem c_spec_l05From {w : World} {r_Table : (List (List (List Int)))} {v_r_Table : Value} {set : Int} (r_r_Table : (Ty.sl (Ty.sl (Ty.sl (Ty.i .i64)))).rep w v_r_Table r_Table) (r_set : InR .i64 set) {res : Int} (h : p_spec_l05From r_Table set  = some res) :
    Ret Tryd.prog 69 #[(Value.agg #[v_r_Table]), (Value.int .i64 set)] w (fun v w' => v = Value.int .i64 res ∧ InR .i64 res ∧ Ext w w') := by
  unfold p_spec_l05From at h
  have hS0 : St w w [] := St.start w
  refine Ret.start (fn := Tryd.f69) Tryd.func69 rfl 17 rfl rfl ?_
  refine W.seq (W.region ?_)
  refine WL.box hS0 rfl (cs := [v_r_Table]) rfl rfl ?_
  intro b1 wd2 hS3 he4 hx5
  replace hS3 : St w wd2 [bx b1 [v_r_Table]] := hS3
  have hx6 := St.boxAt hS3 0 rfl
  have hE7 : Ext w wd2 := hS3.ext
  have hS8 : St wd2 wd2 [] := St.start wd2
  refine WL.val (Value.int .i64 (0 : Int)) _ (op_assign rfl) rfl ?_
  refine WL.nil ?_
  refine W.seq (W.seq (W.region ?_))
  refine WL.val (Value.agg #[v_r_Table]) _ (op_loadBox st_26 rfl (BoxAt.lift hS8.ext hx6) rfl rfl) rfl ?_
  refine WL.val (Value.int .i64 set) _ (op_move rfl) rfl ?_
  obtain ⟨x9, hx10, h⟩ := bs h
  refine WL.call _ (op_call fn_55 (args2 rfl rfl)) (c_spec_l05Spread (Ty.lift _ (Ext.trans hE7 hS8.ext) r_r_Table) r_set hx10) rfl ?_
  rintro _ wd12 ⟨rfl, hr11, he13⟩
  have hS15 := St.extend hS8 he13
  replace hS15 : St wd2 wd12 [] := hS15
  refine WL.val (Value.int .i64 x9) _ (op_assign rfl) rfl ?_
  refine WL.nil ?_
  show W _ _ _ _ _ _
  obtain ⟨res16, hres17, h⟩ := bs h
  refine W.blockLoop (fun fq wq => ∃ s, res16 = Res.fin s ∧ fq 1 = Value.int .i64 s.1 ∧ InR .i64 s.1 ∧ St wd2 wq []) ?_ ?_
  · refine W.whileC (fun (s : Int × Int) fq wq => fq 1 = Value.int .i64 s.1 ∧ InR .i64 s.1 ∧ fq 2 = (Value.pointer (some ⟨b1, 0, none⟩)) ∧ fq 5 = Value.int .i64 s.2 ∧ InR .i64 s.2 ∧ St wd2 wq []) hres17 ⟨rfl, r_set, rfl, rfl, hr11, hS15⟩ ?_
    intro s44 ct21 f22 wd23 hb25 hI26 hbrk27 hret28
    obtain ⟨x19, x20⟩ := s44
    replace hI26 : f22 1 = Value.int .i64 x19 ∧ InR .i64 x19 ∧ f22 2 = (Value.pointer (some ⟨b1, 0, none⟩)) ∧ f22 5 = Value.int .i64 x20 ∧ InR .i64 x20 ∧ St wd2 wd23 [] := hI26
    replace hb25 : p_spec_l05From_L1 r_Table  x19 x20 = some ct21 := hb25
    unfold p_spec_l05From_L1 at hb25
    obtain ⟨hf29, hr30, hf31, hf32, hr33, hS34⟩ := hI26
    refine W.seq (W.seq (W.region ?_))
    refine WL.val (Value.int .i64 x20) _ (op_move hf32) rfl ?_
    refine WL.val (Value.int .i64 x19) _ (op_move hf29) rfl ?_
    refine WL.val (Value.bool (x20 != x19)) _ (op_neq rfl rfl) rfl ?_
    refine WL.nil ?_
    refine W.cond (x20 != x19) rfl (fun hc35 => ?_) (fun hc35 => ?_)
    · replace hb25 := ip hb25 hc35
      refine W.skip ?_
      refine W.seq ?_
      refine W.block ?_
      refine W.region ?_
      refine WL.val (Value.int .i64 x20) _ (op_move hf32) rfl ?_
      refine WL.val (Value.int .i64 x20) _ (op_assign rfl) rfl ?_
      refine WL.nil ?_
      show W _ _ _ _ _ _
      refine W.region ?_
      refine WL.val (Value.agg #[v_r_Table]) _ (op_loadBox st_26 hf31 (BoxAt.lift hS34.ext hx6) rfl rfl) rfl ?_
      refine WL.val (Value.int .i64 x20) _ (op_move rfl) rfl ?_
      obtain ⟨x37, hx38, hb25⟩ := bs hb25
      refine WL.call _ (op_call fn_55 (args2 rfl rfl)) (c_spec_l05Spread (Ty.lift _ (Ext.trans hE7 hS34.ext) r_r_Table) hr33 hx38) rfl ?_
      rintro _ wd40 ⟨rfl, hr39, he41⟩
      have hS43 := St.extend hS34 he41
      replace hS43 : St wd2 wd40 [] := hS43
      refine WL.val (Value.int .i64 x37) _ (op_assign rfl) rfl ?_
      refine WL.nil ?_
      obtain rfl := Option.some.inj hb25
      show ∃ s, _ = Ctl.next s ∧ _
      exact ⟨_, rfl, rfl, hr33, hf31, rfl, hr39, hS43⟩
    · replace hb25 := inegb hb25 hc35
      refine W.exit ?_
      obtain rfl := Option.some.inj hb25
      show _ = _ ∧ _
      exact ⟨rfl, _, hbrk27 _ rfl, hf29, hr30, hS34⟩
  · rintro f45 wd46 ⟨s48, rfl, hq47⟩
    replace h := onRes_fin h
    obtain ⟨x49, x50⟩ := s48
    replace hq47 : f45 1 = Value.int .i64 x49 ∧ InR .i64 x49 ∧ St wd2 wd46 [] := hq47
    replace h : (_ : Option _) = _ := h
    dsimp only at h
    obtain ⟨hf51, hr52, hS53⟩ := hq47
    refine W.seq (W.region ?_)
    refine WL.val (Value.int .i64 x49) _ (op_move hf51) rfl ?_
    refine WL.val (Value.int .i64 x49) _ (op_assign rfl) rfl ?_
    refine WL.nil ?_
    refine W.ret ?_
    obtain rfl := Option.some.inj h
    show FinP _ _ _ _ _ _ _
    exact FinP.ret _ (res1 rfl rfl) ⟨rfl, hr52, (Ext.trans hE7 hS53.ext)⟩

theorem c_spec_l05Adjoint {w : World} {r_Table : (List (List (List Int)))} {v_r_Table : Value} (r_r_Table : (Ty.sl (Ty.sl (Ty.sl (Ty.i .i64)))).rep w v_r_Table r_Table) {res : Int} (h : p_spec_l05Adjoint r_Table  = some res) :
    Ret Tryd.prog 45 #[(Value.agg #[v_r_Table])] w (fun v w' => v = Value.int .i64 res ∧ InR .i64 res ∧ Ext w w') := by
  unfold p_spec_l05Adjoint at h
  have hS0 : St w w [] := St.start w
  refine Ret.start (fn := Tryd.f45) Tryd.func45 rfl 44 rfl rfl ?_
  refine W.seq (W.region ?_)
  refine WL.box hS0 rfl (cs := [v_r_Table]) rfl rfl ?_
  intro b1 wd2 hS3 he4 hx5
  replace hS3 : St w wd2 [bx b1 [v_r_Table]] := hS3
  have hx6 := St.boxAt hS3 0 rfl
  have hE7 : Ext w wd2 := hS3.ext
  have hS8 : St wd2 wd2 [] := St.start wd2
  refine WL.val (Value.int .i64 (0 : Int)) _ (op_assign rfl) rfl ?_
  refine WL.nil ?_
  refine W.seq (W.region ?_)
  refine WL.val (Value.int .i64 (1 : Int)) _ (op_assign rfl) rfl ?_
  refine WL.nil ?_
  refine W.seq (W.seq (W.region ?_))
  refine WL.val (Value.int .i64 (0 : Int)) _ (op_assign rfl) rfl ?_
  refine WL.nil ?_
  show W _ _ _ _ _ _
  obtain ⟨res9, hres10, h⟩ := bs h
  refine W.blockLoop (fun fq wq => ∃ s, res9 = Res.fin s ∧ fq 1 = (Value.pointer (some ⟨b1, 0, none⟩)) ∧ fq 3 = Value.int .i64 s ∧ InR .i64 s ∧ St wd2 wq []) ?_ ?_
  · refine W.forN (fun k (s : Int) fq wq => fq 1 = (Value.pointer (some ⟨b1, 0, none⟩)) ∧ fq 3 = Value.int .i64 s ∧ InR .i64 s ∧ fq 4 = Value.int .i64 (k : Int) ∧ InR .i64 (k : Int) ∧ St wd2 wq []) hres10 ⟨rfl, rfl, (inL rfl), rfl, (inL rfl), hS8⟩ ?_ ?_
    · intro k11 x12 ct13 f14 wd15 hk16 hb17 hI18 hbrk19 hret20
      replace hI18 : f14 1 = (Value.pointer (some ⟨b1, 0, none⟩)) ∧ f14 3 = Value.int .i64 x12 ∧ InR .i64 x12 ∧ f14 4 = Value.int .i64 (k11 : Int) ∧ InR .i64 (k11 : Int) ∧ St wd2 wd15 [] := hI18
      replace hb17 : p_spec_l05Adjoint_L1 r_Table k11 x12 = some ct13 := hb17
      unfold p_spec_l05Adjoint_L1 at hb17
      obtain ⟨hf21, hf22, hr23, hf24, hr25, hS26⟩ := hI18
      refine W.seq (W.seq (W.region ?_))
      refine WL.val (Value.int .i64 (k11 : Int)) _ (op_move hf24) rfl ?_
      refine WL.val (Value.pointer (some ⟨b1, 0, none⟩)) _ (op_fieldAddr fd_26_0 hf21) rfl ?_
      refine WL.val v_r_Table _ (op_load one_22 rfl (BoxAt.cell (BoxAt.lift hS26.ext hx6) rfl)) rfl ?_
      have hr27 := inR_len (Ty.lift _ (Ext.trans hE7 hS26.ext) r_r_Table)
      refine WL.val (Value.int .i64 ((r_Table).length : Int)) _ (op_lenL sl_22 (Ty.lift _ (Ext.trans hE7 hS26.ext) r_r_Table) rfl) rfl ?_
      refine WL.val (Value.bool (decide ((k11 : Int) < ((r_Table).length : Int)))) _ (op_lss rfl rfl) rfl ?_
      have hl28 : (k11 : Int) < ((r_Table).length : Int) := by omega
      refine WL.nil ?_
      refine W.condT (decide ((k11 : Int) < ((r_Table).length : Int))) rfl (decide_eq_true hl28) ?_
      refine W.skip ?_
      refine W.seq ?_
      refine W.block ?_
      refine W.seq ?_
      obtain ⟨x69, hx72, hb17⟩ := bs hb17
      obtain ⟨ha70, hb71, hx72⟩ := idx_some hx72
      obtain ⟨u83, hc84, hr85⟩ := repSl.el r_r_Table hx72
      obtain ⟨x125, hx126, hb17⟩ := bs hb17
      refine W.drawR mixo 9 [] [fun _ v _ _ => v = (Value.pointer (some ⟨b1, 0, none⟩)), fun _ v _ _ => v = v_r_Table, fun _ v _ _ => v = (Value.int .i64 (k11 : Int)) ∧ InR .i64 (k11 : Int), fun _ v _ _ => v = (Value.pointer (some (elA v_r_Table ((k11 : Int)).toNat))), fun _ v _ _ => v = u83, fun _ v _ _ => v = (Value.pointer (some ⟨b1, 0, none⟩)), fun _ v _ _ => v = v_r_Table, fun _ v _ _ => v = (Value.int .i64 (k11 : Int)) ∧ InR .i64 (k11 : Int), fun _ v _ _ => v = (Value.int .i64 x125) ∧ InR .i64 x125] (by kernel_rfl) (by kernel_rfl) ⟨pk, pk, pk, pk, pk, pk, pk, pk, pk, trivial⟩ ⟨?_, ?_, ?_, ?_, ?_, ?_, ?_, ?_, ?_, trivial⟩ ?_
      · refine ObX.op rfl fun f30 wd31 he32 hout33 hphi34 => ?_
        have e36 : f30 1 = (Value.pointer (some ⟨b1, 0, none⟩)) := (hout33 1 rfl).trans hf21
        exact OpX.val (Value.pointer (some ⟨b1, 0, none⟩)) wd31 rfl (op_fieldAddr fd_26_0 e36) (Ext.refl _) rfl
      · refine ObX.op rfl fun f37 wd38 he39 hout40 hphi41 => ?_
        have hS42 := St.extend hS26 he39
        obtain ⟨S43, hS44, hf45⟩ := hphi41 0 14 _ rfl rfl rfl
        have e46 : f37 14 = (Value.pointer (some ⟨b1, 0, none⟩)) := hf45
        exact OpX.val v_r_Table wd38 rfl (op_load one_22 e46 (BoxAt.cell (BoxAt.lift hS42.ext hx6) rfl)) (Ext.refl _) rfl
      · refine ObX.op rfl fun f47 wd48 he49 hout50 hphi51 => ?_
        have e53 : f47 4 = (Value.int .i64 (k11 : Int)) := (hout50 4 rfl).trans hf24
        exact OpX.val (Value.int .i64 (k11 : Int)) wd48 rfl (op_move e53) (Ext.refl _) ⟨rfl, hr25⟩
      · refine ObX.op rfl fun f54 wd55 he56 hout57 hphi58 => ?_
        have hS59 := St.extend hS26 he56
        obtain ⟨S60, hS61, hf62⟩ := hphi58 1 15 _ rfl rfl rfl
        have e63 : f54 15 = v_r_Table := hf62
        obtain ⟨S64, hS65, hf66⟩ := hphi58 2 16 _ rfl rfl rfl
        obtain ⟨e67, hr68⟩ := hf66
        exact OpX.val (Value.pointer (some (elA v_r_Table ((k11 : Int)).toNat))) wd55 rfl (op_idx sl_22 (Ty.lift _ (Ext.trans hE7 hS59.ext) r_r_Table) e63 e67 ha70 hb71) (Ext.refl _) rfl
      · refine ObX.op rfl fun f73 wd74 he75 hout76 hphi77 => ?_
        have hS78 := St.extend hS26 he75
        obtain ⟨S79, hS80, hf81⟩ := hphi77 3 17 _ rfl rfl rfl
        have e82 : f73 17 = (Value.pointer (some (elA v_r_Table ((k11 : Int)).toNat))) := hf81
        exact OpX.val u83 wd74 rfl (op_load one_41 e82 (Ext.cell (Ext.trans hE7 hS78.ext) hc84)) (Ext.refl _) rfl
      · refine ObX.op rfl fun f86 wd87 he88 hout89 hphi90 => ?_
        have e92 : f86 1 = (Value.pointer (some ⟨b1, 0, none⟩)) := (hout89 1 rfl).trans hf21
        exact OpX.val (Value.pointer (some ⟨b1, 0, none⟩)) wd87 rfl (op_fieldAddr fd_26_0 e92) (Ext.refl _) rfl
      · refine ObX.op rfl fun f93 wd94 he95 hout96 hphi97 => ?_
        have hS98 := St.extend hS26 he95
        obtain ⟨S99, hS100, hf101⟩ := hphi97 5 19 _ rfl rfl rfl
        have e102 : f93 19 = (Value.pointer (some ⟨b1, 0, none⟩)) := hf101
        exact OpX.val v_r_Table wd94 rfl (op_load one_22 e102 (BoxAt.cell (BoxAt.lift hS98.ext hx6) rfl)) (Ext.refl _) rfl
      · refine ObX.op rfl fun f103 wd104 he105 hout106 hphi107 => ?_
        have e109 : f103 4 = (Value.int .i64 (k11 : Int)) := (hout106 4 rfl).trans hf24
        exact OpX.val (Value.int .i64 (k11 : Int)) wd104 rfl (op_move e109) (Ext.refl _) ⟨rfl, hr25⟩
      · refine ObX.op rfl fun f110 wd111 he112 hout113 hphi114 => ?_
        have hS115 := St.extend hS26 he112
        obtain ⟨S116, hS117, hf118⟩ := hphi114 6 20 _ rfl rfl rfl
        have e119 : f110 20 = v_r_Table := hf118
        obtain ⟨S120, hS121, hf122⟩ := hphi114 7 21 _ rfl rfl rfl
        obtain ⟨e123, hr124⟩ := hf122
        refine OpX.call rfl (op_call fn_68 (args2 e119 e123)) (Ret.mono (c_spec_l03Dual (Ty.lift _ (Ext.trans hE7 hS115.ext) r_r_Table) hr124 hx126) ?_)
        rintro _ wd128 ⟨rfl, hr127, he129⟩
        exact ⟨he129, _, noS _ _, ⟨rfl, hr127⟩⟩
      · intro f131 wd132 Ss133 he134 hout135 hSn136 hSd137 hphi138
        show WL _ _ _ _ _ _ _
        have hS139 := St.extend hS26 he134
        have e140 : f131 18 = u83 := hphi138 4 18 _ (by decide) rfl rfl
        obtain ⟨e141, hr142⟩ := hphi138 8 22 _ (by decide) rfl rfl
        have e143 : f131 1 = (Value.pointer (some ⟨b1, 0, none⟩)) := (hout135 1 rfl).trans hf21
        have e144 : f131 3 = (Value.int .i64 x12) := (hout135 3 rfl).trans hf22
        have e145 : f131 4 = (Value.int .i64 (k11 : Int)) := (hout135 4 rfl).trans hf24
        obtain ⟨x146, hx149, hb17⟩ := bs hb17
        obtain ⟨ha147, hb148, hx149⟩ := idx_some hx149
        refine WL.val (Value.pointer (some (elA u83 (x125).toNat))) _ (op_idx sl_41 (Ty.lift _ (Ext.trans hE7 hS139.ext) hr85) e140 e141 ha147 hb148) rfl ?_
        obtain ⟨u150, hc151, hr152⟩ := repSl.el hr85 hx149
        refine WL.val u150 _ (op_load one_33 rfl (Ext.cell (Ext.trans hE7 hS139.ext) hc151)) rfl ?_
        refine WL.val u150 _ (op_assign rfl) rfl ?_
        refine WL.nil ?_
        refine W.seq (W.region ?_)
        refine WL.val (Value.int .i64 (0 : Int)) _ (op_assign rfl) rfl ?_
        refine WL.nil ?_
        show W _ _ _ _ _ _
        obtain ⟨res153, hres154, hb17⟩ := bs hb17
        refine W.blockLoop (fun fq wq => ∃ s, res153 = Res.fin s ∧ fq 1 = (Value.pointer (some ⟨b1, 0, none⟩)) ∧ fq 3 = Value.int .i64 s ∧ InR .i64 s ∧ fq 4 = (Value.int .i64 (k11 : Int)) ∧ St wd2 wq []) ?_ ?_
        · refine W.forN (fun k (s : Int) fq wq => fq 1 = (Value.pointer (some ⟨b1, 0, none⟩)) ∧ fq 3 = Value.int .i64 s ∧ InR .i64 s ∧ fq 4 = (Value.int .i64 (k11 : Int)) ∧ fq 5 = u150 ∧ fq 6 = Value.int .i64 (k : Int) ∧ InR .i64 (k : Int) ∧ St wd2 wq []) hres154 ⟨e143, e144, hr23, e145, rfl, rfl, (inL rfl), hS139⟩ ?_ ?_
          · intro k155 x156 ct157 f158 wd159 hk160 hb161 hI162 hbrk163 hret164
            replace hI162 : f158 1 = (Value.pointer (some ⟨b1, 0, none⟩)) ∧ f158 3 = Value.int .i64 x156 ∧ InR .i64 x156 ∧ f158 4 = (Value.int .i64 (k11 : Int)) ∧ f158 5 = u150 ∧ f158 6 = Value.int .i64 (k155 : Int) ∧ InR .i64 (k155 : Int) ∧ St wd2 wd159 [] := hI162
            replace hb161 : p_spec_l05Adjoint_L2 x146 k155 x156 = some ct157 := hb161
            unfold p_spec_l05Adjoint_L2 at hb161
            obtain ⟨hf165, hf166, hr167, hf168, hf169, hf170, hr171, hS172⟩ := hI162
            refine W.seq (W.seq (W.region ?_))
            refine WL.val (Value.int .i64 (k155 : Int)) _ (op_move hf170) rfl ?_
            refine WL.val u150 _ (op_move hf169) rfl ?_
            have hr173 := inR_len (Ty.lift _ (Ext.trans hE7 hS172.ext) hr152)
            refine WL.val (Value.int .i64 ((x146).length : Int)) _ (op_lenL sl_33 (Ty.lift _ (Ext.trans hE7 hS172.ext) hr152) rfl) rfl ?_
            refine WL.val (Value.bool (decide ((k155 : Int) < ((x146).length : Int)))) _ (op_lss rfl rfl) rfl ?_
            have hl174 : (k155 : Int) < ((x146).length : Int) := by omega
            refine WL.nil ?_
            refine W.condT (decide ((k155 : Int) < ((x146).length : Int))) rfl (decide_eq_true hl174) ?_
            refine W.skip ?_
            refine W.seq ?_
            refine W.block ?_
            refine W.seq (W.region ?_)
            refine WL.val u150 _ (op_move hf169) rfl ?_
            refine WL.val (Value.int .i64 (k155 : Int)) _ (op_move hf170) rfl ?_
            obtain ⟨x176, hx179, hb161⟩ := bs hb161
            obtain ⟨ha177, hb178, hx179⟩ := idx_some hx179
            refine WL.val (Value.pointer (some (elA u150 ((k155 : Int)).toNat))) _ (op_idx sl_33 (Ty.lift _ (Ext.trans hE7 hS172.ext) hr152) rfl rfl ha177 hb178) rfl ?_
            obtain ⟨u180, hc181, hr182⟩ := repSl.el hr152 hx179
            obtain ⟨rfl, hr182⟩ := hr182
            refine WL.val (Value.int .i64 x176) _ (op_load one_2 rfl (Ext.cell (Ext.trans hE7 hS172.ext) hc181)) rfl ?_
            refine WL.val (Value.bool (decide (x176 > (0 : Int)))) _ (op_gtr rfl rfl) rfl ?_
            refine WL.nil ?_
            show W _ _ _ _ _ _
            obtain ⟨x183, hj184, hb161⟩ := bs hb161
            refine W.cutCode (fun fq wq => fq 1 = (Value.pointer (some ⟨b1, 0, none⟩)) ∧ fq 3 = Value.int .i64 x183 ∧ InR .i64 x183 ∧ fq 4 = (Value.int .i64 (k11 : Int)) ∧ fq 5 = u150 ∧ fq 6 = (Value.int .i64 (k155 : Int)) ∧ St wd2 wq []) ?_ ?_
            · refine W.cond (decide (x176 > (0 : Int))) rfl (fun hc185 => ?_) (fun hc185 => ?_)
              · replace hj184 := ip hj184 hc185
                refine W.region ?_
                refine WL.val (Value.int .i64 x156) _ (op_move hf166) rfl ?_
                refine WL.val (Value.int .i64 (k155 : Int)) _ (op_move hf170) rfl ?_
                refine WL.val (Value.int .u64 (IntKind.u64.wrap (k155 : Int))) _ (op_convert rfl it_3 it_69) rfl ?_
                obtain ⟨x186, hz187, hj184⟩ := bs hj184
                obtain ⟨h0188, hz187⟩ := shlI_some hz187
                have hr189 : InR .i64 x186 := by rw [hz187]; exact inR_wrap _ _
                refine WL.val (Value.int .i64 x186) _ (by rw [hz187]; exact op_shl rfl rfl h0188) rfl ?_
                refine WL.val (Value.int .i64 (orI .i64 x156 x186)) _ (op_or rfl rfl) rfl ?_
                refine WL.val (Value.int .i64 (orI .i64 x156 x186)) _ (op_assign rfl) rfl ?_
                refine WL.nil ?_
                obtain rfl := Option.some.inj hj184
                exact ⟨hf165, rfl, (inR_wrap _ _), hf168, hf169, hf170, hS172⟩
              · replace hj184 := inegb hj184 hc185
                refine W.skip ?_
                obtain rfl := Option.some.inj hj184
                exact ⟨hf165, hf166, hr167, hf168, hf169, hf170, hS172⟩
            · intro f190 wd191 hq192
              obtain ⟨hf193, hf194, hr195, hf196, hf197, hf198, hS199⟩ := hq192
              show W _ _ _ _ _ _
              refine W.region ?_
              refine WL.val (Value.int .i64 (k155 : Int)) _ (op_move hf198) rfl ?_
              refine WL.val (Value.int .i64 (w64 ((k155 : Int) + (1 : Int)))) _ (op_add rfl rfl) rfl ?_
              refine WL.val (Value.int .i64 (w64 ((k155 : Int) + (1 : Int)))) _ (op_assign rfl) rfl ?_
              refine WL.nil ?_
              obtain rfl := Option.some.inj hb161
              show ∃ s, _ = Ctl.next s ∧ _
              exact ⟨_, rfl, hf193, hf194, hr195, hf196, hf197, (ctr_next hl174 hr173), (ctr_rng hl174 hr173), hS199⟩
          · intro x206 f201 wd202 hs203 hI204
            replace hI204 : f201 1 = (Value.pointer (some ⟨b1, 0, none⟩)) ∧ f201 3 = Value.int .i64 x206 ∧ InR .i64 x206 ∧ f201 4 = (Value.int .i64 (k11 : Int)) ∧ f201 5 = u150 ∧ f201 6 = Value.int .i64 (((x146).length : Nat) : Int) ∧ InR .i64 (((x146).length : Nat) : Int) ∧ St wd2 wd202 [] := hI204
            obtain ⟨hf207, hf208, hr209, hf210, hf211, hf212, hr213, hS214⟩ := hI204
            refine W.seq (W.seq (W.region ?_))
            refine WL.val (Value.int .i64 (((x146).length : Nat) : Int)) _ (op_move hf212) rfl ?_
            refine WL.val u150 _ (op_move hf211) rfl ?_
            have hr215 := inR_len (Ty.lift _ (Ext.trans hE7 hS214.ext) hr152)
            refine WL.val (Value.int .i64 ((x146).length : Int)) _ (op_lenL sl_33 (Ty.lift _ (Ext.trans hE7 hS214.ext) hr152) rfl) rfl ?_
            refine WL.val (Value.bool (decide ((((x146).length : Nat) : Int) < ((x146).length : Int)))) _ (op_lss rfl rfl) rfl ?_
            have hl216 : ¬ (((x146).length : Nat) : Int) < ((x146).length : Int) := by omega
            refine WL.nil ?_
            refine W.condF (decide ((((x146).length : Nat) : Int) < ((x146).length : Int))) rfl (decide_eq_false hl216) ?_
            refine W.exit ?_
            show _ = _ ∧ _
            exact ⟨rfl, _, hs203, hf207, hf208, hr209, hf210, hS214⟩
        · rintro f217 wd218 ⟨x221, rfl, hq219⟩
          replace hb17 := onRes_fin hb17
          replace hq219 : f217 1 = (Value.pointer (some ⟨b1, 0, none⟩)) ∧ f217 3 = Value.int .i64 x221 ∧ InR .i64 x221 ∧ f217 4 = (Value.int .i64 (k11 : Int)) ∧ St wd2 wd218 [] := hq219
          obtain ⟨hf222, hf223, hr224, hf225, hS226⟩ := hq219
          show W _ _ _ _ _ _
          refine W.region ?_
          refine WL.val (Value.int .i64 (k11 : Int)) _ (op_move hf225) rfl ?_
          refine WL.val (Value.int .i64 (w64 ((k11 : Int) + (1 : Int)))) _ (op_add rfl rfl) rfl ?_
          refine WL.val (Value.int .i64 (w64 ((k11 : Int) + (1 : Int)))) _ (op_assign rfl) rfl ?_
          refine WL.nil ?_
          obtain rfl := Option.some.inj hb17
          show ∃ s, _ = Ctl.next s ∧ _
          exact ⟨_, rfl, hf222, hf223, hr224, (ctr_next hl28 hr27), (ctr_rng hl28 hr27), hS226⟩
    · intro x234 f229 wd230 hs231 hI232
      replace hI232 : f229 1 = (Value.pointer (some ⟨b1, 0, none⟩)) ∧ f229 3 = Value.int .i64 x234 ∧ InR .i64 x234 ∧ f229 4 = Value.int .i64 (((r_Table).length : Nat) : Int) ∧ InR .i64 (((r_Table).length : Nat) : Int) ∧ St wd2 wd230 [] := hI232
      obtain ⟨hf235, hf236, hr237, hf238, hr239, hS240⟩ := hI232
      refine W.seq (W.seq (W.region ?_))
      refine WL.val (Value.int .i64 (((r_Table).length : Nat) : Int)) _ (op_move hf238) rfl ?_
      refine WL.val (Value.pointer (some ⟨b1, 0, none⟩)) _ (op_fieldAddr fd_26_0 hf235) rfl ?_
      refine WL.val v_r_Table _ (op_load one_22 rfl (BoxAt.cell (BoxAt.lift hS240.ext hx6) rfl)) rfl ?_
      have hr241 := inR_len (Ty.lift _ (Ext.trans hE7 hS240.ext) r_r_Table)
      refine WL.val (Value.int .i64 ((r_Table).length : Int)) _ (op_lenL sl_22 (Ty.lift _ (Ext.trans hE7 hS240.ext) r_r_Table) rfl) rfl ?_
      refine WL.val (Value.bool (decide ((((r_Table).length : Nat) : Int) < ((r_Table).length : Int)))) _ (op_lss rfl rfl) rfl ?_
      have hl242 : ¬ (((r_Table).length : Nat) : Int) < ((r_Table).length : Int) := by omega
      refine WL.nil ?_
      refine W.condF (decide ((((r_Table).length : Nat) : Int) < ((r_Table).length : Int))) rfl (decide_eq_false hl242) ?_
      refine W.exit ?_
      show _ = _ ∧ _
      exact ⟨rfl, _, hs231, hf235, hf236, hr237, hS240⟩
  · rintro f243 wd244 ⟨x247, rfl, hq245⟩
    replace h := onRes_fin h
    replace hq245 : f243 1 = (Value.pointer (some ⟨b1, 0, none⟩)) ∧ f243 3 = Value.int .i64 x247 ∧ InR .i64 x247 ∧ St wd2 wd244 [] := hq245
    obtain ⟨hf248, hf249, hr250, hS251⟩ := hq245
    refine W.seq (W.region ?_)
    refine WL.val (Value.agg #[v_r_Table]) _ (op_loadBox st_26 hf248 (BoxAt.lift hS251.ext hx6) rfl rfl) rfl ?_
    refine WL.val (Value.int .i64 x247) _ (op_move hf249) rfl ?_
    obtain ⟨x252, hx253, h⟩ := bs h
    refine WL.call _ (op_call fn_69 (args2 rfl rfl)) (c_spec_l05From (Ty.lift _ (Ext.trans hE7 hS251.ext) r_r_Table) hr250 hx253) rfl ?_
    rintro _ wd255 ⟨rfl, hr254, he256⟩
    have hS258 := St.extend hS251 he256
    replace hS258 : St wd2 wd255 [] := hS258
    refine WL.val (Value.int .i64 x252) _ (op_assign rfl) rfl ?_
    refine WL.nil ?_
    refine W.ret ?_
    obtain rfl := Option.some.inj h
    show FinP _ _ _ _ _ _ _
    exact FinP.ret _ (res1 rfl rfl) ⟨rfl, hr254, (Ext.trans hE7 hS258.ext)⟩

theorem c_impl_Ring_adjoint {w : World} {r_Table : (List (List (List Int)))} {v_r_Table : Value} (tb : TabAt w) (r_r_Table : (Ty.sl (Ty.sl (Ty.sl (Ty.i .i64)))).rep w v_r_Table r_Table) {res : Int} (h : p_impl_Ring_adjoint r_Table  = some res) :
    Ret Tryd.prog 67 #[(Value.agg #[v_r_Table])] w (fun v w' => v = Value.int .i64 res ∧ InR .i64 res ∧ Ext w w') := by
  unfold p_impl_Ring_adjoint at h
  have hS0 : St w w [] := St.start w
  refine Ret.start (fn := Tryd.f67) Tryd.func67 rfl 30 rfl rfl ?_
  refine W.seq (W.region ?_)
  refine WL.box hS0 rfl (cs := [v_r_Table]) rfl rfl ?_
  intro b1 wd2 hS3 he4 hx5
  replace hS3 : St w wd2 [bx b1 [v_r_Table]] := hS3
  have hx6 := St.boxAt hS3 0 rfl
  have hE7 : Ext w wd2 := hS3.ext
  have hS8 : St wd2 wd2 [] := St.start wd2
  refine WL.val (Value.int .i64 (0 : Int)) _ (op_assign rfl) rfl ?_
  refine WL.nil ?_
  refine W.seq (W.region ?_)
  refine WL.val (Value.agg #[v_r_Table]) _ (op_loadBox st_26 rfl (BoxAt.lift hS8.ext hx6) rfl rfl) rfl ?_
  obtain ⟨x9, hx10, h⟩ := bs h
  refine WL.call _ (op_call fn_47 (args1 rfl)) (c_impl_Ring_supports (Ty.lift _ (Ext.trans hE7 hS8.ext) r_r_Table) hx10) rfl ?_
  rintro u11 wd12 ⟨_, rfl, he13, hs14⟩
  have hS15 := St.join hS8 he13 hs14
  replace hS15 : St wd2 wd12 [(Ty.sl (Ty.sl (Ty.i .i64))).at u11 x9] := hS15
  have hb16 := St.rep (t := (Ty.sl (Ty.sl (Ty.i .i64)))) hS15 0 rfl
  have hE17 : Ext w wd12 := (Ext.trans hE7 hS15.ext)
  have hE18 : Ext wd2 wd12 := hS15.ext
  have hS19 : St wd12 wd12 [] := St.start wd12
  refine WL.val u11 _ (op_assign rfl) rfl ?_
  refine WL.val (Value.int .i64 (0 : Int)) _ (op_assign rfl) rfl ?_
  refine WL.nil ?_
  refine W.seq (W.seq (W.region ?_))
  refine WL.val (Value.agg #[v_r_Table]) _ (op_loadBox st_26 rfl (BoxAt.lift (Ext.trans hE18 hS19.ext) hx6) rfl rfl) rfl ?_
  obtain ⟨x20, hx21, h⟩ := bs h
  refine WL.call _ (op_call fn_59 (args1 rfl)) (c_impl_Ring_duals (Ty.lift _ (Ext.trans hE17 hS19.ext) r_r_Table) hx21) rfl ?_
  rintro u22 wd23 ⟨_, rfl, he24, hs25⟩
  have hS26 := St.join hS19 he24 hs25
  replace hS26 : St wd12 wd23 [(Ty.sl (Ty.i .i64)).at u22 x20] := hS26
  have hb27 := St.rep (t := (Ty.sl (Ty.i .i64))) hS26 0 rfl
  have hE28 : Ext w wd23 := (Ext.trans hE17 hS26.ext)
  have hE29 : Ext wd2 wd23 := (Ext.trans hE18 hS26.ext)
  have hE30 : Ext wd12 wd23 := hS26.ext
  have hS31 : St wd23 wd23 [] := St.start wd23
  have hr32 := inR_len (Ty.lift _ hS31.ext hb27)
  refine WL.val (Value.int .i64 ((x20).length : Int)) _ (op_lenL sl_61 (Ty.lift _ hS31.ext hb27) rfl) rfl ?_
  refine WL.val (Value.int .i64 (0 : Int)) _ (op_move rfl) rfl ?_
  refine WL.nil ?_
  show W _ _ _ _ _ _
  obtain ⟨res33, hres34, h⟩ := bs h
  refine W.blockLoop (fun fq wq => ∃ s, res33 = Res.fin s ∧ fq 1 = (Value.pointer (some ⟨b1, 0, none⟩)) ∧ fq 4 = Value.int .i64 s ∧ InR .i64 s ∧ St wd23 wq []) ?_ ?_
  · refine W.forN (fun k (s : Int) fq wq => fq 1 = (Value.pointer (some ⟨b1, 0, none⟩)) ∧ fq 3 = u11 ∧ fq 4 = Value.int .i64 s ∧ InR .i64 s ∧ fq 10 = u22 ∧ fq 11 = (Value.int .i64 ((x20).length : Int)) ∧ fq 12 = Value.int .i64 (k : Int) ∧ InR .i64 (k : Int) ∧ St wd23 wq []) hres34 ⟨rfl, rfl, rfl, (inL rfl), rfl, rfl, rfl, (inL rfl), hS31⟩ ?_ ?_
    · intro k35 x36 ct37 f38 wd39 hk40 hb41 hI42 hbrk43 hret44
      replace hI42 : f38 1 = (Value.pointer (some ⟨b1, 0, none⟩)) ∧ f38 3 = u11 ∧ f38 4 = Value.int .i64 x36 ∧ InR .i64 x36 ∧ f38 10 = u22 ∧ f38 11 = (Value.int .i64 ((x20).length : Int)) ∧ f38 12 = Value.int .i64 (k35 : Int) ∧ InR .i64 (k35 : Int) ∧ St wd23 wd39 [] := hI42
      replace hb41 : p_impl_Ring_adjoint_L1 x20 x9 k35 x36 = some ct37 := hb41
      unfold p_impl_Ring_adjoint_L1 at hb41
      obtain ⟨hf45, hf46, hf47, hr48, hf49, hf50, hf51, hr52, hS53⟩ := hI42
      refine W.seq (W.region ?_)
      refine WL.val (Value.bool (decide ((k35 : Int) < ((x20).length : Int)))) _ (op_lss hf51 hf50) rfl ?_
      have hl54 : (k35 : Int) < ((x20).length : Int) := by omega
      refine WL.nil ?_
      refine W.seq ?_
      refine W.condT (decide ((k35 : Int) < ((x20).length : Int))) rfl (decide_eq_true hl54) ?_
      refine W.skip ?_
      refine W.seq ?_
      refine W.block ?_
      refine W.seq (W.region ?_)
      refine WL.val (Value.int .i64 (k35 : Int)) _ (op_move hf51) rfl ?_
      obtain ⟨x56, hx59, hb41⟩ := bs hb41
      obtain ⟨ha57, hb58, hx59⟩ := idx_some hx59
      refine WL.val (Value.pointer (some (elA u22 ((k35 : Int)).toNat))) _ (op_idx sl_61 (Ty.lift _ hS53.ext hb27) hf49 hf51 ha57 hb58) rfl ?_
      obtain ⟨u60, hc61, hr62⟩ := repSl.el hb27 hx59
      obtain ⟨rfl, hr62⟩ := hr62
      refine WL.val (Value.int .i64 x56) _ (op_load one_3 rfl (Ext.cell hS53.ext hc61)) rfl ?_
      refine WL.val (Value.int .i64 (k35 : Int)) _ (op_assign rfl) rfl ?_
      refine WL.val (Value.int .i64 x56) _ (op_assign rfl) rfl ?_
      refine WL.nil ?_
      show W _ _ _ _ _ _
      refine W.region ?_
      refine WL.val (Value.int .i64 x36) _ (op_move hf47) rfl ?_
      refine WL.val u11 _ (op_move hf46) rfl ?_
      refine WL.val (Value.int .i64 (k35 : Int)) _ (op_move rfl) rfl ?_
      obtain ⟨x63, hx66, hb41⟩ := bs hb41
      obtain ⟨ha64, hb65, hx66⟩ := idx_some hx66
      refine WL.val (Value.pointer (some (elA u11 ((k35 : Int)).toNat))) _ (op_idx sl_41 (Ty.lift _ (Ext.trans hE30 hS53.ext) hb16) rfl rfl ha64 hb65) rfl ?_
      obtain ⟨u67, hc68, hr69⟩ := repSl.el hb16 hx66
      refine WL.val u67 _ (op_load one_33 rfl (Ext.cell (Ext.trans hE30 hS53.ext) hc68)) rfl ?_
      refine WL.val (Value.int .i64 x56) _ (op_move rfl) rfl ?_
      obtain ⟨x70, hx73, hb41⟩ := bs hb41
      obtain ⟨ha71, hb72, hx73⟩ := idx_some hx73
      refine WL.val (Value.pointer (some (elA u67 (x56).toNat))) _ (op_idx sl_33 (Ty.lift _ (Ext.trans hE30 hS53.ext) hr69) rfl rfl ha71 hb72) rfl ?_
      obtain ⟨u74, hc75, hr76⟩ := repSl.el hr69 hx73
      obtain ⟨rfl, hr76⟩ := hr76
      refine WL.val (Value.int .i64 x70) _ (op_load one_2 rfl (Ext.cell (Ext.trans hE30 hS53.ext) hc75)) rfl ?_
      refine WL.val (Value.int .i64 (orI .i64 x36 x70)) _ (op_or rfl rfl) rfl ?_
      refine WL.val (Value.int .i64 (orI .i64 x36 x70)) _ (op_assign rfl) rfl ?_
      refine WL.nil ?_
      show W _ _ _ _ _ _
      refine W.region ?_
      refine WL.val (Value.int .i64 (w64 ((k35 : Int) + (1 : Int)))) _ (op_add hf51 rfl) rfl ?_
      refine WL.val (Value.int .i64 (w64 ((k35 : Int) + (1 : Int)))) _ (op_move rfl) rfl ?_
      refine WL.nil ?_
      obtain rfl := Option.some.inj hb41
      show ∃ s, _ = Ctl.next s ∧ _
      exact ⟨_, rfl, hf45, hf46, rfl, (inR_wrap _ _), hf49, hf50, (ctr_next hl54 hr32), (ctr_rng hl54 hr32), hS53⟩
    · intro x83 f78 wd79 hs80 hI81
      replace hI81 : f78 1 = (Value.pointer (some ⟨b1, 0, none⟩)) ∧ f78 3 = u11 ∧ f78 4 = Value.int .i64 x83 ∧ InR .i64 x83 ∧ f78 10 = u22 ∧ f78 11 = (Value.int .i64 ((x20).length : Int)) ∧ f78 12 = Value.int .i64 (((x20).length : Nat) : Int) ∧ InR .i64 (((x20).length : Nat) : Int) ∧ St wd23 wd79 [] := hI81
      obtain ⟨hf84, hf85, hf86, hr87, hf88, hf89, hf90, hr91, hS92⟩ := hI81
      refine W.seq (W.region ?_)
      refine WL.val (Value.bool (decide ((((x20).length : Nat) : Int) < ((x20).length : Int)))) _ (op_lss hf90 hf89) rfl ?_
      have hl93 : ¬ (((x20).length : Nat) : Int) < ((x20).length : Int) := by omega
      refine WL.nil ?_
      refine W.seq ?_
      refine W.condF (decide ((((x20).length : Nat) : Int) < ((x20).length : Int))) rfl (decide_eq_false hl93) ?_
      refine W.exit ?_
      show _ = _ ∧ _
      exact ⟨rfl, _, hs80, hf84, hf86, hr87, hS92⟩
  · rintro f94 wd95 ⟨x98, rfl, hq96⟩
    replace h := onRes_fin h
    replace hq96 : f94 1 = (Value.pointer (some ⟨b1, 0, none⟩)) ∧ f94 4 = Value.int .i64 x98 ∧ InR .i64 x98 ∧ St wd23 wd95 [] := hq96
    obtain ⟨hf99, hf100, hr101, hS102⟩ := hq96
    refine W.seq (W.region ?_)
    refine WL.val (Value.agg #[v_r_Table]) _ (op_loadBox st_26 hf99 (BoxAt.lift (Ext.trans hE29 hS102.ext) hx6) rfl rfl) rfl ?_
    refine WL.val (Value.int .i64 x98) _ (op_move hf100) rfl ?_
    obtain ⟨x103, hx104, h⟩ := bs h
    refine WL.call _ (op_call fn_35 (args2 rfl rfl)) (c_impl_Ring_closed (tb.ext (Ext.trans hE28 hS102.ext)) (Ty.lift _ (Ext.trans hE28 hS102.ext) r_r_Table) hr101 hx104) rfl ?_
    rintro _ wd106 ⟨rfl, hr105, he107⟩
    have hS109 := St.extend hS102 he107
    replace hS109 : St wd23 wd106 [] := hS109
    refine WL.val (Value.int .i64 x103) _ (op_assign rfl) rfl ?_
    refine WL.nil ?_
    refine W.ret ?_
    obtain rfl := Option.some.inj h
    show FinP _ _ _ _ _ _ _
    exact FinP.ret _ (res1 rfl rfl) ⟨rfl, hr105, (Ext.trans hE28 hS109.ext)⟩

theorem c_spec_l05Cosets {w : World} {r_Table : (List (List (List Int)))} {v_r_Table : Value} {set : Int} (r_r_Table : (Ty.sl (Ty.sl (Ty.sl (Ty.i .i64)))).rep w v_r_Table r_Table) (r_set : InR .i64 set) {res : (List Int)} (h : p_spec_l05Cosets r_Table set  = some res) :
    Ret Tryd.prog 44 #[(Value.agg #[v_r_Table]), (Value.int .i64 set)] w (fun v w' => ∃ (u0 : Value), v = u0 ∧ Ext w w' ∧ Sep w.heap.size w' [(Ty.sl (Ty.i .i64)).at u0 res]) := by
  unfold p_spec_l05Cosets at h
  have hS0 : St w w [] := St.start w
  refine Ret.start (fn := Tryd.f44) Tryd.func44 rfl 68 rfl rfl ?_
  refine W.seq (W.region ?_)
  refine WL.box hS0 rfl (cs := [v_r_Table]) rfl rfl ?_
  intro b1 wd2 hS3 he4 hx5
  replace hS3 : St w wd2 [bx b1 [v_r_Table]] := hS3
  have hx6 := St.boxAt hS3 0 rfl
  have hE7 : Ext w wd2 := hS3.ext
  have hS8 : St wd2 wd2 [] := St.start wd2
  refine WL.val (Value.slice none 0 0) _ (op_assign rfl) rfl ?_
  refine WL.nil ?_
  refine W.seq (W.region ?_)
  refine WL.val (Value.pointer (some ⟨b1, 0, none⟩)) _ (op_fieldAddr fd_26_0 rfl) rfl ?_
  refine WL.val v_r_Table _ (op_load one_22 rfl (BoxAt.cell (BoxAt.lift hS8.ext hx6) rfl)) rfl ?_
  have hr9 := inR_len (Ty.lift _ (Ext.trans hE7 hS8.ext) r_r_Table)
  refine WL.val (Value.int .i64 ((r_Table).length : Int)) _ (op_lenL sl_22 (Ty.lift _ (Ext.trans hE7 hS8.ext) r_r_Table) rfl) rfl ?_
  refine WL.val (Value.int .i64 ((r_Table).length : Int)) _ (op_assign rfl) rfl ?_
  refine WL.nil ?_
  refine W.seq (W.region ?_)
  refine WL.lit0 (t := (Ty.i .i64)) hS8 sl_33 rfl rfl ?_
  intro u10 wd11 hS12 he13
  replace hS12 : St wd2 wd11 [(Ty.sl (Ty.i .i64)).at u10 ([] : (List Int))] := hS12
  refine WL.val u10 _ (op_assign rfl) rfl ?_
  refine WL.val (Value.int .i64 (0 : Int)) _ (op_assign rfl) rfl ?_
  refine WL.nil ?_
  refine W.seq (W.seq (W.region ?_))
  refine WL.val (Value.int .i64 (0 : Int)) _ (op_assign rfl) rfl ?_
  refine WL.nil ?_
  show W _ _ _ _ _ _
  obtain ⟨res14, hres15, h⟩ := bs h
  refine W.blockLoop (fun fq wq => ∃ s, res14 = Res.fin s ∧ ∃ (uu0 : Value), fq 1 = (Value.int .i64 set) ∧ fq 2 = (Value.pointer (some ⟨b1, 0, none⟩)) ∧ fq 5 = (Value.int .i64 ((r_Table).length : Int)) ∧ fq 6 = uu0 ∧ fq 7 = (Value.int .i64 (0 : Int)) ∧ St wd2 wq [(Ty.sl (Ty.i .i64)).at uu0 s]) ?_ ?_
  · refine W.forN (fun k (s : (List Int)) fq wq => ∃ (uu0 : Value), fq 1 = (Value.int .i64 set) ∧ fq 2 = (Value.pointer (some ⟨b1, 0, none⟩)) ∧ fq 5 = (Value.int .i64 ((r_Table).length : Int)) ∧ fq 6 = uu0 ∧ fq 7 = (Value.int .i64 (0 : Int)) ∧ fq 8 = Value.int .i64 (k : Int) ∧ InR .i64 (k : Int) ∧ St wd2 wq [(Ty.sl (Ty.i .i64)).at uu0 s]) hres15 ⟨u10, rfl, rfl, rfl, rfl, rfl, rfl, (inL rfl), hS12⟩ ?_ ?_
    · intro k16 x17 ct18 f19 wd20 hk21 hb22 hI23 hbrk24 hret25
      replace hI23 : ∃ (uu0 : Value), f19 1 = (Value.int .i64 set) ∧ f19 2 = (Value.pointer (some ⟨b1, 0, none⟩)) ∧ f19 5 = (Value.int .i64 ((r_Table).length : Int)) ∧ f19 6 = uu0 ∧ f19 7 = (Value.int .i64 (0 : Int)) ∧ f19 8 = Value.int .i64 (k16 : Int) ∧ InR .i64 (k16 : Int) ∧ St wd2 wd20 [(Ty.sl (Ty.i .i64)).at uu0 x17] := hI23
      replace hb22 : p_spec_l05Cosets_L1  k16 x17 = some ct18 := hb22
      unfold p_spec_l05Cosets_L1 at hb22
      obtain ⟨u26, hf27, hf28, hf29, hf30, hf31, hf32, hr33, hS34⟩ := hI23
      refine W.seq (W.seq (W.region ?_))
      refine WL.val (Value.int .i64 (k16 : Int)) _ (op_move hf32) rfl ?_
      refine WL.val (Value.int .i64 ((r_Table).length : Int)) _ (op_move hf29) rfl ?_
      refine WL.val (Value.bool (decide ((k16 : Int) < ((r_Table).length : Int)))) _ (op_lss rfl rfl) rfl ?_
      have hl35 : (k16 : Int) < ((r_Table).length : Int) := by omega
      refine WL.nil ?_
      refine W.condT (decide ((k16 : Int) < ((r_Table).length : Int))) rfl (decide_eq_true hl35) ?_
      refine W.skip ?_
      refine W.seq ?_
      refine W.block ?_
      refine W.region ?_
      refine WL.val u26 _ (op_move hf30) rfl ?_
      refine WL.litFlat (t := (Ty.i .i64)) (flat_i .i64) [(Value.int .i64 (-1 : Int))] [(-1 : Int)] hS34 sl_33 rfl rfl (fillL rfl ⟨rfl, rfl, rfl, trivial⟩) rfl rfl (litL ⟨⟨rfl, (inR_i64.2 (show (-9223372036854775808 : Int) ≤ -1 ∧ (-1 : Int) ≤ 9223372036854775807 from by decide))⟩, trivial⟩) rfl ?_
      intro u37 wd38 hS39 he40
      replace hS39 : St wd2 wd38 [(Ty.sl (Ty.i .i64)).at u26 x17, (Ty.sl (Ty.i .i64)).at u37 ([(-1 : Int)] : (List Int))] := hS39
      obtain ⟨x41, hx42, hb22⟩ := bs hb22
      refine WL.append (flat_i .i64) hS39 (k := 0) rfl sl_33 rfl rfl rfl rfl (St.rep (t := (Ty.sl (Ty.i .i64))) hS39 1 rfl) hx42 rfl ?_
      intro u43 wd44 hS45 hz46
      replace hS45 : St wd2 wd44 [(Ty.sl (Ty.i .i64)).at u43 x41, (Ty.sl (Ty.i .i64)).at u37 ([(-1 : Int)] : (List Int))] := hS45
      refine WL.val u43 _ (op_assign rfl) rfl ?_
      refine WL.nil ?_
      show W _ _ _ _ _ _
      refine W.region ?_
      refine WL.val (Value.int .i64 (k16 : Int)) _ (op_move hf32) rfl ?_
      refine WL.val (Value.int .i64 (w64 ((k16 : Int) + (1 : Int)))) _ (op_add rfl rfl) rfl ?_
      refine WL.val (Value.int .i64 (w64 ((k16 : Int) + (1 : Int)))) _ (op_assign rfl) rfl ?_
      refine WL.nil ?_
      obtain rfl := Option.some.inj hb22
      show ∃ s, _ = Ctl.next s ∧ _
      exact ⟨_, rfl, u43, hf27, hf28, hf29, rfl, hf31, (ctr_next hl35 hr9), (ctr_rng hl35 hr9), (St.pick hS45 [0] rfl)⟩
    · intro x53 f48 wd49 hs50 hI51
      replace hI51 : ∃ (uu0 : Value), f48 1 = (Value.int .i64 set) ∧ f48 2 = (Value.pointer (some ⟨b1, 0, none⟩)) ∧ f48 5 = (Value.int .i64 ((r_Table).length : Int)) ∧ f48 6 = uu0 ∧ f48 7 = (Value.int .i64 (0 : Int)) ∧ f48 8 = Value.int .i64 (((r_Table).length : Nat) : Int) ∧ InR .i64 (((r_Table).length : Nat) : Int) ∧ St wd2 wd49 [(Ty.sl (Ty.i .i64)).at uu0 x53] := hI51
      obtain ⟨u54, hf55, hf56, hf57, hf58, hf59, hf60, hr61, hS62⟩ := hI51
      refine W.seq (W.seq (W.region ?_))
      refine WL.val (Value.int .i64 (((r_Table).length : Nat) : Int)) _ (op_move hf60) rfl ?_
      refine WL.val (Value.int .i64 ((r_Table).length : Int)) _ (op_move hf57) rfl ?_
      refine WL.val (Value.bool (decide ((((r_Table).length : Nat) : Int) < ((r_Table).length : Int)))) _ (op_lss rfl rfl) rfl ?_
      have hl63 : ¬ (((r_Table).length : Nat) : Int) < ((r_Table).length : Int) := by omega
      refine WL.nil ?_
      refine W.condF (decide ((((r_Table).length : Nat) : Int) < ((r_Table).length : Int))) rfl (decide_eq_false hl63) ?_
      refine W.exit ?_
      show _ = _ ∧ _
      exact ⟨rfl, _, hs50, u54, hf55, hf56, hf57, hf58, hf59, hS62⟩
  · rintro f64 wd65 ⟨x68, rfl, hq66⟩
    replace h := onRes_fin h
    replace hq66 : ∃ (uu0 : Value), f64 1 = (Value.int .i64 set) ∧ f64 2 = (Value.pointer (some ⟨b1, 0, none⟩)) ∧ f64 5 = (Value.int .i64 ((r_Table).length : Int)) ∧ f64 6 = uu0 ∧ f64 7 = (Value.int .i64 (0 : Int)) ∧ St wd2 wd65 [(Ty.sl (Ty.i .i64)).at uu0 x68] := hq66
    obtain ⟨u69, hf70, hf71, hf72, hf73, hf74, hS75⟩ := hq66
    refine W.seq (W.seq (W.region ?_))
    refine WL.val (Value.int .i64 (0 : Int)) _ (op_assign rfl) rfl ?_
    refine WL.nil ?_
    show W _ _ _ _ _ _
    obtain ⟨res76, hres77, h⟩ := bs h
    refine W.blockLoop (fun fq wq => ∃ s, res76 = Res.fin s ∧ fq 6 = u69 ∧ St wd2 wq [(Ty.sl (Ty.i .i64)).at u69 s.1]) ?_ ?_
    · refine W.forN (fun k (s : (List Int) × Int) fq wq => fq 1 = (Value.int .i64 set) ∧ fq 2 = (Value.pointer (some ⟨b1, 0, none⟩)) ∧ fq 5 = (Value.int .i64 ((r_Table).length : Int)) ∧ fq 6 = u69 ∧ fq 7 = Value.int .i64 s.2 ∧ InR .i64 s.2 ∧ fq 9 = Value.int .i64 (k : Int) ∧ InR .i64 (k : Int) ∧ St wd2 wq [(Ty.sl (Ty.i .i64)).at u69 s.1]) hres77 ⟨hf70, hf71, hf72, hf73, hf74, (inL rfl), rfl, (inL rfl), hS75⟩ ?_ ?_
      · intro k78 s267 ct81 f82 wd83 hk84 hb85 hI86 hbrk87 hret88
        obtain ⟨x79, x80⟩ := s267
        replace hI86 : f82 1 = (Value.int .i64 set) ∧ f82 2 = (Value.pointer (some ⟨b1, 0, none⟩)) ∧ f82 5 = (Value.int .i64 ((r_Table).length : Int)) ∧ f82 6 = u69 ∧ f82 7 = Value.int .i64 x80 ∧ InR .i64 x80 ∧ f82 9 = Value.int .i64 (k78 : Int) ∧ InR .i64 (k78 : Int) ∧ St wd2 wd83 [(Ty.sl (Ty.i .i64)).at u69 x79] := hI86
        replace hb85 : p_spec_l05Cosets_L2 r_Table set k78 x79 x80 = some ct81 := hb85
        unfold p_spec_l05Cosets_L2 at hb85
        obtain ⟨hf89, hf90, hf91, hf92, hf93, hr94, hf95, hr96, hS97⟩ := hI86
        refine W.seq (W.seq (W.region ?_))
        refine WL.val (Value.int .i64 (k78 : Int)) _ (op_move hf95) rfl ?_
        refine WL.val (Value.int .i64 ((r_Table).length : Int)) _ (op_move hf91) rfl ?_
        refine WL.val (Value.bool (decide ((k78 : Int) < ((r_Table).length : Int)))) _ (op_lss rfl rfl) rfl ?_
        have hl98 : (k78 : Int) < ((r_Table).length : Int) := by omega
        refine WL.nil ?_
        refine W.condT (decide ((k78 : Int) < ((r_Table).length : Int))) rfl (decide_eq_true hl98) ?_
        refine W.skip ?_
        refine W.seq ?_
        refine W.block ?_
        refine W.seq (W.seq (W.region ?_))
        refine WL.val u69 _ (op_move hf92) rfl ?_
        refine WL.val (Value.int .i64 (k78 : Int)) _ (op_move hf95) rfl ?_
        obtain ⟨x100, hx103, hb85⟩ := bs hb85
        obtain ⟨ha101, hb102, hx103⟩ := idx_some hx103
        refine WL.val (Value.pointer (some (elA u69 ((k78 : Int)).toNat))) _ (op_idx sl_33 (St.rep (t := (Ty.sl (Ty.i .i64))) hS97 0 rfl) rfl rfl ha101 hb102) rfl ?_
        obtain ⟨u104, hc105, hr106⟩ := repSl.el (St.rep (t := (Ty.sl (Ty.i .i64))) hS97 0 rfl) hx103
        obtain ⟨rfl, hr106⟩ := hr106
        refine WL.val (Value.int .i64 x100) _ (op_load one_2 rfl hc105) rfl ?_
        refine WL.val (Value.bool (decide (x100 ≥ (0 : Int)))) _ (op_geq rfl rfl) rfl ?_
        refine WL.nil ?_
        refine W.cond (decide (x100 ≥ (0 : Int))) rfl (fun hc107 => ?_) (fun hc107 => ?_)
        · replace hb85 := ip hb85 hc107
          refine W.exit ?_
          show W _ _ _ _ _ _
          refine W.region ?_
          refine WL.val (Value.int .i64 (k78 : Int)) _ (op_move hf95) rfl ?_
          refine WL.val (Value.int .i64 (w64 ((k78 : Int) + (1 : Int)))) _ (op_add rfl rfl) rfl ?_
          refine WL.val (Value.int .i64 (w64 ((k78 : Int) + (1 : Int)))) _ (op_assign rfl) rfl ?_
          refine WL.nil ?_
          obtain rfl := Option.some.inj hb85
          show ∃ s, _ = Ctl.next s ∧ _
          exact ⟨_, rfl, hf89, hf90, hf91, hf92, hf93, hr94, (ctr_next hl98 hr9), (ctr_rng hl98 hr9), hS97⟩
        · replace hb85 := inegb hb85 hc107
          refine W.skip ?_
          refine W.seq (W.seq (W.region ?_))
          refine WL.val (Value.int .i64 (0 : Int)) _ (op_assign rfl) rfl ?_
          refine WL.nil ?_
          show W _ _ _ _ _ _
          obtain ⟨res109, hres110, hb85⟩ := bs hb85
          refine W.blockLoop (fun fq wq => ∃ s, res109 = Res.fin s ∧ fq 1 = (Value.int .i64 set) ∧ fq 2 = (Value.pointer (some ⟨b1, 0, none⟩)) ∧ fq 5 = (Value.int .i64 ((r_Table).length : Int)) ∧ fq 6 = u69 ∧ fq 7 = (Value.int .i64 x80) ∧ fq 9 = (Value.int .i64 (k78 : Int)) ∧ St wd2 wq [(Ty.sl (Ty.i .i64)).at u69 s]) ?_ ?_
          · refine W.forN (fun k (s : (List Int)) fq wq => fq 1 = (Value.int .i64 set) ∧ fq 2 = (Value.pointer (some ⟨b1, 0, none⟩)) ∧ fq 5 = (Value.int .i64 ((r_Table).length : Int)) ∧ fq 6 = u69 ∧ fq 7 = (Value.int .i64 x80) ∧ fq 9 = (Value.int .i64 (k78 : Int)) ∧ fq 10 = Value.int .i64 (k : Int) ∧ InR .i64 (k : Int) ∧ St wd2 wq [(Ty.sl (Ty.i .i64)).at u69 s]) hres110 ⟨hf89, hf90, hf91, hf92, hf93, hf95, rfl, (inL rfl), hS97⟩ ?_ ?_
            · intro k111 x112 ct113 f114 wd115 hk116 hb117 hI118 hbrk119 hret120
              replace hI118 : f114 1 = (Value.int .i64 set) ∧ f114 2 = (Value.pointer (some ⟨b1, 0, none⟩)) ∧ f114 5 = (Value.int .i64 ((r_Table).length : Int)) ∧ f114 6 = u69 ∧ f114 7 = (Value.int .i64 x80) ∧ f114 9 = (Value.int .i64 (k78 : Int)) ∧ f114 10 = Value.int .i64 (k111 : Int) ∧ InR .i64 (k111 : Int) ∧ St wd2 wd115 [(Ty.sl (Ty.i .i64)).at u69 x112] := hI118
              replace hb117 : p_spec_l05Cosets_L3 r_Table set k78 x80 k111 x112 = some ct113 := hb117
              unfold p_spec_l05Cosets_L3 at hb117
              obtain ⟨hf121, hf122, hf123, hf124, hf125, hf126, hf127, hr128, hS129⟩ := hI118
              refine W.seq (W.seq (W.region ?_))
              refine WL.val (Value.int .i64 (k111 : Int)) _ (op_move hf127) rfl ?_
              refine WL.val (Value.int .i64 ((r_Table).length : Int)) _ (op_move hf123) rfl ?_
              refine WL.val (Value.bool (decide ((k111 : Int) < ((r_Table).length : Int)))) _ (op_lss rfl rfl) rfl ?_
              have hl130 : (k111 : Int) < ((r_Table).length : Int) := by omega
              refine WL.nil ?_
              refine W.condT (decide ((k111 : Int) < ((r_Table).length : Int))) rfl (decide_eq_true hl130) ?_
              refine W.skip ?_
              refine W.seq ?_
              refine W.block ?_
              refine W.seq (W.region ?_)
              refine WL.val (Value.int .i64 (0 : Int)) _ (op_assign rfl) rfl ?_
              refine WL.nil ?_
              show W _ _ _ _ _ _
              obtain ⟨res132, hres133, hb117⟩ := bs hb117
              refine W.blockLoop (fun fq wq => ∃ s, res132 = Res.fin s ∧ fq 1 = (Value.int .i64 set) ∧ fq 2 = (Value.pointer (some ⟨b1, 0, none⟩)) ∧ fq 5 = (Value.int .i64 ((r_Table).length : Int)) ∧ fq 6 = u69 ∧ fq 7 = (Value.int .i64 x80) ∧ fq 9 = (Value.int .i64 (k78 : Int)) ∧ fq 10 = (Value.int .i64 (k111 : Int)) ∧ St wd2 wq [(Ty.sl (Ty.i .i64)).at u69 s.1]) ?_ ?_
              · refine W.whileC (fun (s : (List Int) × Int) fq wq => fq 1 = (Value.int .i64 set) ∧ fq 2 = (Value.pointer (some ⟨b1, 0, none⟩)) ∧ fq 5 = (Value.int .i64 ((r_Table).length : Int)) ∧ fq 6 = u69 ∧ fq 7 = (Value.int .i64 x80) ∧ fq 9 = (Value.int .i64 (k78 : Int)) ∧ fq 10 = (Value.int .i64 (k111 : Int)) ∧ fq 11 = Value.int .i64 s.2 ∧ InR .i64 s.2 ∧ St wd2 wq [(Ty.sl (Ty.i .i64)).at u69 s.1]) hres133 ⟨hf121, hf122, hf123, hf124, hf125, hf126, hf127, rfl, (inL rfl), hS129⟩ ?_
                intro s221 ct137 f138 wd139 hb141 hI142 hbrk143 hret144
                obtain ⟨x135, x136⟩ := s221
                replace hI142 : f138 1 = (Value.int .i64 set) ∧ f138 2 = (Value.pointer (some ⟨b1, 0, none⟩)) ∧ f138 5 = (Value.int .i64 ((r_Table).length : Int)) ∧ f138 6 = u69 ∧ f138 7 = (Value.int .i64 x80) ∧ f138 9 = (Value.int .i64 (k78 : Int)) ∧ f138 10 = (Value.int .i64 (k111 : Int)) ∧ f138 11 = Value.int .i64 x136 ∧ InR .i64 x136 ∧ St wd2 wd139 [(Ty.sl (Ty.i .i64)).at u69 x135] := hI142
                replace hb141 : p_spec_l05Cosets_L4 r_Table set k111 k78 x80  x135 x136 = some ct137 := hb141
                unfold p_spec_l05Cosets_L4 at hb141
                obtain ⟨hf145, hf146, hf147, hf148, hf149, hf150, hf151, hf152, hr153, hS154⟩ := hI142
                refine W.seq (W.seq (W.region ?_))
                refine WL.val (Value.int .i64 x136) _ (op_move hf152) rfl ?_
                refine WL.val (Value.int .i64 ((r_Table).length : Int)) _ (op_move hf147) rfl ?_
                refine WL.val (Value.bool (decide (x136 < ((r_Table).length : Int)))) _ (op_lss rfl rfl) rfl ?_
                refine WL.val (Value.bool (decide (x136 < ((r_Table).length : Int)))) _ (op_move rfl) rfl ?_
                obtain ⟨x156, hj157, hb141⟩ := bs hb141
                refine WL.cut 4 (fun fq wq => fq 1 = (Value.int .i64 set) ∧ fq 2 = (Value.pointer (some ⟨b1, 0, none⟩)) ∧ fq 5 = (Value.int .i64 ((r_Table).length : Int)) ∧ fq 6 = u69 ∧ fq 7 = (Value.int .i64 x80) ∧ fq 9 = (Value.int .i64 (k78 : Int)) ∧ fq 10 = (Value.int .i64 (k111 : Int)) ∧ fq 11 = (Value.int .i64 x136) ∧ fq 46 = Value.bool x156 ∧ St wd2 wq [(Ty.sl (Ty.i .i64)).at u69 x135]) ?_ ?_
                · rcases Bool.eq_false_or_eq_true (decide (x136 < ((r_Table).length : Int))) with hc155 | hc155
                  · replace hj157 := ip hj157 hc155
                    refine WL.grun rfl (bool_of rfl hc155) ?_
                    refine WL.val (Value.int .i64 set) _ (op_move hf145) rfl ?_
                    refine WL.grun rfl (bool_of rfl hc155) ?_
                    refine WL.val (Value.int .i64 (k111 : Int)) _ (op_move hf151) rfl ?_
                    refine WL.grun rfl (bool_of rfl hc155) ?_
                    obtain ⟨x161, hx162, hj157⟩ := bs hj157
                    refine WL.call _ (op_call fn_64 (args2 rfl rfl)) (c_spec_l05Bit r_set hr128 hx162) rfl ?_
                    rintro _ wd163 ⟨rfl, he164⟩
                    have hS166 := St.extend hS154 he164
                    replace hS166 : St wd2 wd163 [(Ty.sl (Ty.i .i64)).at u69 x135] := hS166
                    refine WL.val (Value.bool x161) _ (op_pick_t (evb_of rfl hc155) rfl) rfl ?_
                    refine WL.nil ?_
                    obtain rfl := Option.some.inj hj157
                    exact ⟨rfl, hf145, hf146, hf147, hf148, hf149, hf150, hf151, hf152, rfl, hS166⟩
                  · replace hj157 := inegb hj157 hc155
                    refine WL.gskip rfl (bool_of rfl hc155) rfl ?_
                    refine WL.gskip rfl (bool_of rfl hc155) rfl ?_
                    refine WL.gskip rfl (bool_of rfl hc155) rfl ?_
                    refine WL.val (Value.bool false) _ (op_pick_f (evb_of rfl hc155) rfl) rfl ?_
                    refine WL.nil ?_
                    obtain rfl := Option.some.inj hj157
                    exact ⟨rfl, hf145, hf146, hf147, hf148, hf149, hf150, hf151, hf152, rfl, hS154⟩
                · intro f158 wd159 hq160
                  obtain ⟨hf167, hf168, hf169, hf170, hf171, hf172, hf173, hf174, hf175, hS176⟩ := hq160
                  refine WL.nil ?_
                  refine W.cond x156 hf175 (fun hc177 => ?_) (fun hc177 => ?_)
                  · replace hb141 := ip hb141 hc177
                    refine W.skip ?_
                    refine W.seq ?_
                    refine W.block ?_
                    refine W.seq (W.region ?_)
                    refine WL.val (Value.pointer (some ⟨b1, 0, none⟩)) _ (op_fieldAddr fd_26_0 hf168) rfl ?_
                    refine WL.val v_r_Table _ (op_load one_22 rfl (BoxAt.cell (BoxAt.lift hS176.ext hx6) rfl)) rfl ?_
                    refine WL.val (Value.int .i64 (k78 : Int)) _ (op_move hf172) rfl ?_
                    obtain ⟨x179, hx182, hb141⟩ := bs hb141
                    obtain ⟨ha180, hb181, hx182⟩ := idx_some hx182
                    refine WL.val (Value.pointer (some (elA v_r_Table ((k78 : Int)).toNat))) _ (op_idx sl_22 (Ty.lift _ (Ext.trans hE7 hS176.ext) r_r_Table) rfl rfl ha180 hb181) rfl ?_
                    obtain ⟨u183, hc184, hr185⟩ := repSl.el r_r_Table hx182
                    refine WL.val u183 _ (op_load one_41 rfl (Ext.cell (Ext.trans hE7 hS176.ext) hc184)) rfl ?_
                    refine WL.val (Value.int .i64 (k111 : Int)) _ (op_move hf173) rfl ?_
                    obtain ⟨x186, hx189, hb141⟩ := bs hb141
                    obtain ⟨ha187, hb188, hx189⟩ := idx_some hx189
                    refine WL.val (Value.pointer (some (elA u183 ((k111 : Int)).toNat))) _ (op_idx sl_41 (Ty.lift _ (Ext.trans hE7 hS176.ext) hr185) rfl rfl ha187 hb188) rfl ?_
                    obtain ⟨u190, hc191, hr192⟩ := repSl.el hr185 hx189
                    refine WL.val u190 _ (op_load one_33 rfl (Ext.cell (Ext.trans hE7 hS176.ext) hc191)) rfl ?_
                    refine WL.val (Value.int .i64 x136) _ (op_move hf174) rfl ?_
                    obtain ⟨x193, hx196, hb141⟩ := bs hb141
                    obtain ⟨ha194, hb195, hx196⟩ := idx_some hx196
                    refine WL.val (Value.pointer (some (elA u190 (x136).toNat))) _ (op_idx sl_33 (Ty.lift _ (Ext.trans hE7 hS176.ext) hr192) rfl rfl ha194 hb195) rfl ?_
                    obtain ⟨u197, hc198, hr199⟩ := repSl.el hr192 hx196
                    obtain ⟨rfl, hr199⟩ := hr199
                    refine WL.val (Value.int .i64 x193) _ (op_load one_2 rfl (Ext.cell (Ext.trans hE7 hS176.ext) hc198)) rfl ?_
                    refine WL.val (Value.bool (decide (x193 > (0 : Int)))) _ (op_gtr rfl rfl) rfl ?_
                    refine WL.nil ?_
                    show W _ _ _ _ _ _
                    obtain ⟨x200, hj201, hb141⟩ := bs hb141
                    refine W.cutCode (fun fq wq => fq 1 = (Value.int .i64 set) ∧ fq 2 = (Value.pointer (some ⟨b1, 0, none⟩)) ∧ fq 5 = (Value.int .i64 ((r_Table).length : Int)) ∧ fq 6 = u69 ∧ fq 7 = (Value.int .i64 x80) ∧ fq 9 = (Value.int .i64 (k78 : Int)) ∧ fq 10 = (Value.int .i64 (k111 : Int)) ∧ fq 11 = (Value.int .i64 x136) ∧ St wd2 wq [(Ty.sl (Ty.i .i64)).at u69 x200]) ?_ ?_
                    · refine W.cond (decide (x193 > (0 : Int))) rfl (fun hc202 => ?_) (fun hc202 => ?_)
                      · replace hj201 := ip hj201 hc202
                        refine W.region ?_
                        refine WL.val u69 _ (op_move hf170) rfl ?_
                        refine WL.val (Value.int .i64 x136) _ (op_move hf174) rfl ?_
                        refine WL.val (Value.int .i64 x80) _ (op_move hf171) rfl ?_
                        obtain ⟨x203, hx206, hj201⟩ := bs hj201
                        obtain ⟨ha204, hb205, hx206⟩ := idx_some hx206
                        refine WL.val (Value.pointer (some (elA u69 (x136).toNat))) _ (op_idx sl_33 (St.rep (t := (Ty.sl (Ty.i .i64))) hS176 0 rfl) rfl rfl ha204 hb205) rfl ?_
                        refine WL.storeEl (flat_i .i64) hS176 (k := 0) rfl sz_2 rfl rfl (lt_of_idx ha204 hb205) ⟨rfl, hr94⟩ ?_
                        intro wd207 hS208
                        replace hS208 : St wd2 wd207 [(Ty.sl (Ty.i .i64)).at u69 ((x135).set (x136).toNat x80)] := hS208
                        refine WL.nil ?_
                        obtain rfl := Option.some.inj hj201
                        exact ⟨hf167, hf168, hf169, hf170, hf171, hf172, hf173, hf174, hS208⟩
                      · replace hj201 := inegb hj201 hc202
                        refine W.skip ?_
                        obtain rfl := Option.some.inj hj201
                        exact ⟨hf167, hf168, hf169, hf170, hf171, hf172, hf173, hf174, hS176⟩
                    · intro f209 wd210 hq211
                      obtain ⟨hf212, hf213, hf214, hf215, hf216, hf217, hf218, hf219, hS220⟩ := hq211
                      show W _ _ _ _ _ _
                      refine W.region ?_
                      refine WL.val (Value.int .i64 x136) _ (op_move hf219) rfl ?_
                      refine WL.val (Value.int .i64 (w64 (x136 + (1 : Int)))) _ (op_add rfl rfl) rfl ?_
                      refine WL.val (Value.int .i64 (w64 (x136 + (1 : Int)))) _ (op_assign rfl) rfl ?_
                      refine WL.nil ?_
                      obtain rfl := Option.some.inj hb141
                      show ∃ s, _ = Ctl.next s ∧ _
                      exact ⟨_, rfl, hf212, hf213, hf214, hf215, hf216, hf217, hf218, rfl, (inR_wrap _ _), hS220⟩
                  · replace hb141 := inegb hb141 hc177
                    refine W.exit ?_
                    obtain rfl := Option.some.inj hb141
                    show _ = _ ∧ _
                    exact ⟨rfl, _, hbrk143 _ rfl, hf167, hf168, hf169, hf170, hf171, hf172, hf173, hS176⟩
              · rintro f222 wd223 ⟨s225, rfl, hq224⟩
                replace hb117 := onRes_fin hb117
                obtain ⟨x226, x227⟩ := s225
                replace hq224 : f222 1 = (Value.int .i64 set) ∧ f222 2 = (Value.pointer (some ⟨b1, 0, none⟩)) ∧ f222 5 = (Value.int .i64 ((r_Table).length : Int)) ∧ f222 6 = u69 ∧ f222 7 = (Value.int .i64 x80) ∧ f222 9 = (Value.int .i64 (k78 : Int)) ∧ f222 10 = (Value.int .i64 (k111 : Int)) ∧ St wd2 wd223 [(Ty.sl (Ty.i .i64)).at u69 x226] := hq224
                replace hb117 : (_ : Option _) = _ := hb117
                dsimp only at hb117
                obtain ⟨hf228, hf229, hf230, hf231, hf232, hf233, hf234, hS235⟩ := hq224
                show W _ _ _ _ _ _
                refine W.region ?_
                refine WL.val (Value.int .i64 (k111 : Int)) _ (op_move hf234) rfl ?_
                refine WL.val (Value.int .i64 (w64 ((k111 : Int) + (1 : Int)))) _ (op_add rfl rfl) rfl ?_
                refine WL.val (Value.int .i64 (w64 ((k111 : Int) + (1 : Int)))) _ (op_assign rfl) rfl ?_
                refine WL.nil ?_
                obtain rfl := Option.some.inj hb117
                show ∃ s, _ = Ctl.next s ∧ _
                exact ⟨_, rfl, hf228, hf229, hf230, hf231, hf232, hf233, (ctr_next hl130 hr9), (ctr_rng hl130 hr9), hS235⟩
            · intro x243 f238 wd239 hs240 hI241
              replace hI241 : f238 1 = (Value.int .i64 set) ∧ f238 2 = (Value.pointer (some ⟨b1, 0, none⟩)) ∧ f238 5 = (Value.int .i64 ((r_Table).length : Int)) ∧ f238 6 = u69 ∧ f238 7 = (Value.int .i64 x80) ∧ f238 9 = (Value.int .i64 (k78 : Int)) ∧ f238 10 = Value.int .i64 (((r_Table).length : Nat) : Int) ∧ InR .i64 (((r_Table).length : Nat) : Int) ∧ St wd2 wd239 [(Ty.sl (Ty.i .i64)).at u69 x243] := hI241
              obtain ⟨hf244, hf245, hf246, hf247, hf248, hf249, hf250, hr251, hS252⟩ := hI241
              refine W.seq (W.seq (W.region ?_))
              refine WL.val (Value.int .i64 (((r_Table).length : Nat) : Int)) _ (op_move hf250) rfl ?_
              refine WL.val (Value.int .i64 ((r_Table).length : Int)) _ (op_move hf246) rfl ?_
              refine WL.val (Value.bool (decide ((((r_Table).length : Nat) : Int) < ((r_Table).length : Int)))) _ (op_lss rfl rfl) rfl ?_
              have hl253 : ¬ (((r_Table).length : Nat) : Int) < ((r_Table).length : Int) := by omega
              refine WL.nil ?_
              refine W.condF (decide ((((r_Table).length : Nat) : Int) < ((r_Table).length : Int))) rfl (decide_eq_false hl253) ?_
              refine W.exit ?_
              show _ = _ ∧ _
              exact ⟨rfl, _, hs240, hf244, hf245, hf246, hf247, hf248, hf249, hS252⟩
          · rintro f254 wd255 ⟨x258, rfl, hq256⟩
            replace hb85 := onRes_fin hb85
            replace hq256 : f254 1 = (Value.int .i64 set) ∧ f254 2 = (Value.pointer (some ⟨b1, 0, none⟩)) ∧ f254 5 = (Value.int .i64 ((r_Table).length : Int)) ∧ f254 6 = u69 ∧ f254 7 = (Value.int .i64 x80) ∧ f254 9 = (Value.int .i64 (k78 : Int)) ∧ St wd2 wd255 [(Ty.sl (Ty.i .i64)).at u69 x258] := hq256
            obtain ⟨hf259, hf260, hf261, hf262, hf263, hf264, hS265⟩ := hq256
            show W _ _ _ _ _ _
            refine W.region ?_
            refine WL.val (Value.int .i64 x80) _ (op_move hf263) rfl ?_
            refine WL.val (Value.int .i64 (w64 (x80 + (1 : Int)))) _ (op_add rfl rfl) rfl ?_
            refine WL.val (Value.int .i64 (w64 (x80 + (1 : Int)))) _ (op_assign rfl) rfl ?_
            refine WL.nil ?_
            show W _ _ _ _ _ _
            refine W.region ?_
            refine WL.val (Value.int .i64 (k78 : Int)) _ (op_move hf264) rfl ?_
            refine WL.val (Value.int .i64 (w64 ((k78 : Int) + (1 : Int)))) _ (op_add rfl rfl) rfl ?_
            refine WL.val (Value.int .i64 (w64 ((k78 : Int) + (1 : Int)))) _ (op_assign rfl) rfl ?_
            refine WL.nil ?_
            obtain rfl := Option.some.inj hb85
            show ∃ s, _ = Ctl.next s ∧ _
            exact ⟨_, rfl, hf259, hf260, hf261, hf262, rfl, (inR_wrap _ _), (ctr_next hl98 hr9), (ctr_rng hl98 hr9), hS265⟩
      · intro s272 f268 wd269 hs270 hI271
        obtain ⟨x273, x274⟩ := s272
        replace hI271 : f268 1 = (Value.int .i64 set) ∧ f268 2 = (Value.pointer (some ⟨b1, 0, none⟩)) ∧ f268 5 = (Value.int .i64 ((r_Table).length : Int)) ∧ f268 6 = u69 ∧ f268 7 = Value.int .i64 x274 ∧ InR .i64 x274 ∧ f268 9 = Value.int .i64 (((r_Table).length : Nat) : Int) ∧ InR .i64 (((r_Table).length : Nat) : Int) ∧ St wd2 wd269 [(Ty.sl (Ty.i .i64)).at u69 x273] := hI271
        obtain ⟨hf275, hf276, hf277, hf278, hf279, hr280, hf281, hr282, hS283⟩ := hI271
        refine W.seq (W.seq (W.region ?_))
        refine WL.val (Value.int .i64 (((r_Table).length : Nat) : Int)) _ (op_move hf281) rfl ?_
        refine WL.val (Value.int .i64 ((r_Table).length : Int)) _ (op_move hf277) rfl ?_
        refine WL.val (Value.bool (decide ((((r_Table).length : Nat) : Int) < ((r_Table).length : Int)))) _ (op_lss rfl rfl) rfl ?_
        have hl284 : ¬ (((r_Table).length : Nat) : Int) < ((r_Table).length : Int) := by omega
        refine WL.nil ?_
        refine W.condF (decide ((((r_Table).length : Nat) : Int) < ((r_Table).length : Int))) rfl (decide_eq_false hl284) ?_
        refine W.exit ?_
        show _ = _ ∧ _
        exact ⟨rfl, _, hs270, hf278, hS283⟩
    · rintro f285 wd286 ⟨s288, rfl, hq287⟩
      replace h := onRes_fin h
      obtain ⟨x289, x290⟩ := s288
      replace hq287 : f285 6 = u69 ∧ St wd2 wd286 [(Ty.sl (Ty.i .i64)).at u69 x289] := hq287
      replace h : (_ : Option _) = _ := h
      dsimp only at h
      obtain ⟨hf291, hS292⟩ := hq287
      refine W.seq (W.region ?_)
      refine WL.val u69 _ (op_move hf291) rfl ?_
      refine WL.val u69 _ (op_assign rfl) rfl ?_
      refine WL.nil ?_
      refine W.ret ?_
      obtain rfl := Option.some.inj h
      show FinP _ _ _ _ _ _ _
      exact FinP.ret _ (res1 rfl rfl) ⟨u69, rfl, (Ext.trans hE7 hS292.ext), (St.out (St.pick hS292 [0] rfl) (hE7))⟩

theorem c_spec_GradingGroup {w : World} {r_Table : (List (List (List Int)))} {v_r_Table : Value} (r_r_Table : (Ty.sl (Ty.sl (Ty.sl (Ty.i .i64)))).rep w v_r_Table r_Table) {res : (List (List Int)) × Int} (h : p_spec_GradingGroup r_Table  = some res) :
    Ret Tryd.prog 22 #[(Value.agg #[v_r_Table])] w (fun v w' => ∃ (u0 : Value), v = (Value.tuple #[u0, Value.int .i64 res.2]) ∧ InR .i64 res.2 ∧ Ext w w' ∧ Sep w.heap.size w' [(Ty.sl (Ty.sl (Ty.i .i64))).at u0 res.1]) := by
  unfold p_spec_GradingGroup at h
  have hS0 : St w w [] := St.start w
  refine Ret.start (fn := Tryd.f22) Tryd.func22 rfl 71 rfl rfl ?_
  refine W.seq (W.region ?_)
  refine WL.box hS0 rfl (cs := [v_r_Table]) rfl rfl ?_
  intro b1 wd2 hS3 he4 hx5
  replace hS3 : St w wd2 [bx b1 [v_r_Table]] := hS3
  have hx6 := St.boxAt hS3 0 rfl
  have hE7 : Ext w wd2 := hS3.ext
  have hS8 : St wd2 wd2 [] := St.start wd2
  refine WL.val (Value.slice none 0 0) _ (op_assign rfl) rfl ?_
  refine WL.val (Value.int .i64 (0 : Int)) _ (op_assign rfl) rfl ?_
  refine WL.nil ?_
  refine W.seq (W.seq (W.region ?_))
  refine WL.val (Value.agg #[v_r_Table]) _ (op_loadBox st_26 rfl (BoxAt.lift hS8.ext hx6) rfl rfl) rfl ?_
  obtain ⟨x9, hx10, h⟩ := bs h
  refine WL.call _ (op_call fn_40 (args1 rfl)) (c_spec_l03Is (Ty.lift _ (Ext.trans hE7 hS8.ext) r_r_Table) hx10) rfl ?_
  rintro _ wd11 ⟨rfl, he12⟩
  have hS14 := St.extend hS8 he12
  replace hS14 : St wd2 wd11 [] := hS14
  refine WL.val (Value.bool (!x9)) _ (op_not rfl) rfl ?_
  refine WL.nil ?_
  refine W.cond (!x9) rfl (fun hc15 => ?_) (fun hc15 => ?_)
  · replace h := ip h hc15
    refine W.seq (W.region ?_)
    refine WL.val (Value.slice none 0 0) _ (op_assign rfl) rfl ?_
    refine WL.val (Value.int .i64 (1 : Int)) _ (op_assign rfl) rfl ?_
    refine WL.nil ?_
    refine W.ret ?_
    obtain rfl := Option.some.inj h
    show FinP _ _ _ _ _ _ _
    exact FinP.ret _ (res2 rfl rfl rfl) ⟨(Value.slice none 0 0), rfl, (inL rfl), (Ext.trans hE7 hS14.ext), (St.out (St.pick (St.addNil (Ty.sl (Ty.i .i64)) hS14) [0] rfl) (hE7))⟩
  · replace h := inegb h hc15
    refine W.skip ?_
    refine W.seq ?_
    obtain ⟨x41, hx42, h⟩ := bs h
    obtain ⟨x62, hx63, h⟩ := bs h
    refine W.drawR mixo 6 [] [fun _ v S w' => v = (Value.agg #[v_r_Table]), fun _ v S w' => v = (Value.agg #[v_r_Table]), fun _ v _ _ => v = (Value.int .i64 x41) ∧ InR .i64 x41, fun _ v S w' => SepS S w' [(Ty.sl (Ty.i .i64)).at v x62], fun _ v S w' => SepS S w' [(Ty.sl (Ty.sl (Ty.i .i64))).at v ([] : (List (List Int)))], fun f v _ _ => v = f 16] (by kernel_rfl) (by kernel_rfl) ⟨pk, pk, pk, ⟨fun _ _ _ _ _ he h => SepS.extend he h, fun _ _ _ _ _ _ h => h⟩, ⟨fun _ _ _ _ _ he h => SepS.extend he h, fun _ _ _ _ _ _ h => h⟩, ⟨fun _ _ _ _ _ _ h => h, fun _ _ _ _ _ hf h => h.trans (hf 3 16 rfl rfl)⟩, trivial⟩ ⟨?_, ?_, ?_, ?_, ?_, ?_, trivial⟩ ?_
    · refine ObX.op rfl fun f17 wd18 he19 hout20 hphi21 => ?_
      have hS22 := St.extend hS14 he19
      have e23 : f17 1 = (Value.pointer (some ⟨b1, 0, none⟩)) := (hout20 1 rfl).trans rfl
      exact OpX.val (Value.agg #[v_r_Table]) wd18 rfl (op_loadBox st_26 e23 (BoxAt.lift hS22.ext hx6) rfl rfl) (Ext.refl _) rfl
    · refine ObX.op rfl fun f24 wd25 he26 hout27 hphi28 => ?_
      have hS29 := St.extend hS14 he26
      have e30 : f24 1 = (Value.pointer (some ⟨b1, 0, none⟩)) := (hout27 1 rfl).trans rfl
      exact OpX.val (Value.agg #[v_r_Table]) wd25 rfl (op_loadBox st_26 e30 (BoxAt.lift hS29.ext hx6) rfl rfl) (Ext.refl _) rfl
    · refine ObX.op rfl fun f31 wd32 he33 hout34 hphi35 => ?_
      have hS36 := St.extend hS14 he33
      obtain ⟨S37, hS38, hf39⟩ := hphi35 1 14 _ rfl rfl rfl
      have e40 : f31 14 = (Value.agg #[v_r_Table]) := hf39
      refine OpX.call rfl (op_call fn_45 (args1 e40)) (Ret.mono (c_spec_l05Adjoint (Ty.lift _ (Ext.trans hE7 hS36.ext) r_r_Table) hx42) ?_)
      rintro _ wd44 ⟨rfl, hr43, he45⟩
      exact ⟨he45, _, noS _ _, ⟨rfl, hr43⟩⟩
    · refine ObX.op rfl fun f47 wd48 he49 hout50 hphi51 => ?_
      have hS52 := St.extend hS14 he49
      obtain ⟨S53, hS54, hf55⟩ := hphi51 0 13 _ rfl rfl rfl
      have e56 : f47 13 = (Value.agg #[v_r_Table]) := hf55
      obtain ⟨S57, hS58, hf59⟩ := hphi51 2 15 _ rfl rfl rfl
      obtain ⟨e60, hr61⟩ := hf59
      refine OpX.call rfl (op_call fn_44 (args2 e56 e60)) (Ret.mono (c_spec_l05Cosets (Ty.lift _ (Ext.trans hE7 hS52.ext) r_r_Table) hr61 hx63) ?_)
      rintro u64 wd65 ⟨_, rfl, he66, hs67⟩
      exact ⟨he66, _, newS _ _, (Sep.new hs67)⟩
    · refine ObX.op rfl fun f68 wd69 he70 hout71 hphi72 => ?_
      obtain ⟨v79, wd80, ho81, he82, hs83⟩ := mk_lit0 (P := Tryd.prog) (f := f68) (w := wd69) (T := 41) (t := (Ty.sl (Ty.i .i64))) sl_41 rfl
      exact OpX.valO v79 wd80 rfl ho81 he82 (Sep.new hs83)
    · refine ObX.op rfl fun f84 wd85 he86 hout87 hphi88 => ?_
      obtain ⟨S90, hS91, hf92⟩ := hphi88 3 16 _ rfl rfl rfl
      exact OpX.val (f84 16) wd85 rfl (op_assign rfl) (Ext.refl _) rfl
    · intro f94 wd95 Ss96 he97 hout98 hSn99 hSd100 hphi101
      show WL _ _ _ _ _ _ _
      have e103 : SepS (Ss96 3) wd95 [(Ty.sl (Ty.i .i64)).at (f94 16) x62] := hphi101 3 16 _ (by decide) rfl rfl
      have e104 : SepS (Ss96 4) wd95 [(Ty.sl (Ty.sl (Ty.i .i64))).at (f94 17) ([] : (List (List Int)))] := hphi101 4 17 _ (by decide) rfl rfl
      have e105 : f94 4 = (f94 16) := (hphi101 5 4 _ (by decide) rfl rfl)
      have e106 : f94 1 = (Value.pointer (some ⟨b1, 0, none⟩)) := (hout98 1 rfl).trans rfl
      have hS107 := St.joinS hS14 he97 hSn99 (SepS.consS hSd100 rfl e103 (SepS.consS hSd100 rfl e104 SepS.nilS))
      replace hS107 : St wd2 wd95 [(Ty.sl (Ty.i .i64)).at (f94 16) x62, (Ty.sl (Ty.sl (Ty.i .i64))).at (f94 17) ([] : (List (List Int)))] := hS107
      refine WL.val (f94 17) _ (op_assign rfl) rfl ?_
      refine WL.nil ?_
      refine W.seq (W.seq (W.region ?_))
      refine WL.val (Value.int .i64 (0 : Int)) _ (op_assign rfl) rfl ?_
      refine WL.nil ?_
      show W _ _ _ _ _ _
      obtain ⟨res108, hres109, h⟩ := bs h
      refine W.blockLoop (fun fq wq => ∃ s, res108 = Res.fin s ∧ ∃ (uu0 : Value), fq 5 = uu0 ∧ St wd2 wq [(Ty.sl (Ty.sl (Ty.i .i64))).at uu0 s]) ?_ ?_
      · refine W.forN (fun k (s : (List (List Int))) fq wq => ∃ (uu0 : Value), fq 1 = (Value.pointer (some ⟨b1, 0, none⟩)) ∧ fq 4 = (f94 16) ∧ fq 5 = uu0 ∧ fq 6 = Value.int .i64 (k : Int) ∧ InR .i64 (k : Int) ∧ St wd2 wq [(Ty.sl (Ty.i .i64)).at (f94 16) x62, (Ty.sl (Ty.sl (Ty.i .i64))).at uu0 s]) hres109 ⟨(f94 17), e106, e105, rfl, rfl, (inL rfl), hS107⟩ ?_ ?_
        · intro k110 x111 ct112 f113 wd114 hk115 hb116 hI117 hbrk118 hret119
          replace hI117 : ∃ (uu0 : Value), f113 1 = (Value.pointer (some ⟨b1, 0, none⟩)) ∧ f113 4 = (f94 16) ∧ f113 5 = uu0 ∧ f113 6 = Value.int .i64 (k110 : Int) ∧ InR .i64 (k110 : Int) ∧ St wd2 wd114 [(Ty.sl (Ty.i .i64)).at (f94 16) x62, (Ty.sl (Ty.sl (Ty.i .i64))).at uu0 x111] := hI117
          replace hb116 : p_spec_GradingGroup_L1 x62 r_Table k110 x111 = some ct112 := hb116
          unfold p_spec_GradingGroup_L1 at hb116
          obtain ⟨u120, hf121, hf122, hf123, hf124, hr125, hS126⟩ := hI117
          refine W.seq (W.seq (W.region ?_))
          refine WL.val (Value.int .i64 (k110 : Int)) _ (op_move hf124) rfl ?_
          refine WL.val (f94 16) _ (op_move hf122) rfl ?_
          have hr127 := inR_len (St.rep (t := (Ty.sl (Ty.i .i64))) hS126 0 rfl)
          refine WL.val (Value.int .i64 ((x62).length : Int)) _ (op_lenL sl_33 (St.rep (t := (Ty.sl (Ty.i .i64))) hS126 0 rfl) rfl) rfl ?_
          refine WL.val (Value.bool (decide ((k110 : Int) < ((x62).length : Int)))) _ (op_lss rfl rfl) rfl ?_
          have hl128 : (k110 : Int) < ((x62).length : Int) := by omega
          refine WL.nil ?_
          refine W.condT (decide ((k110 : Int) < ((x62).length : Int))) rfl (decide_eq_true hl128) ?_
          refine W.skip ?_
          refine W.seq ?_
          refine W.block ?_
          refine W.seq (W.seq (W.region ?_))
          refine WL.val (f94 16) _ (op_move hf122) rfl ?_
          refine WL.val (Value.int .i64 (k110 : Int)) _ (op_move hf124) rfl ?_
          obtain ⟨x130, hx133, hb116⟩ := bs hb116
          obtain ⟨ha131, hb132, hx133⟩ := idx_some hx133
          refine WL.val (Value.pointer (some (elA (f94 16) ((k110 : Int)).toNat))) _ (op_idx sl_33 (St.rep (t := (Ty.sl (Ty.i .i64))) hS126 0 rfl) rfl rfl ha131 hb132) rfl ?_
          obtain ⟨u134, hc135, hr136⟩ := repSl.el (St.rep (t := (Ty.sl (Ty.i .i64))) hS126 0 rfl) hx133
          obtain ⟨rfl, hr136⟩ := hr136
          refine WL.val (Value.int .i64 x130) _ (op_load one_2 rfl hc135) rfl ?_
          refine WL.val u120 _ (op_move hf123) rfl ?_
          have hr137 := inR_len (St.rep (t := (Ty.sl (Ty.sl (Ty.i .i64)))) hS126 1 rfl)
          refine WL.val (Value.int .i64 ((x111).length : Int)) _ (op_lenL sl_41 (St.rep (t := (Ty.sl (Ty.sl (Ty.i .i64)))) hS126 1 rfl) rfl) rfl ?_
          refine WL.val (Value.bool (x130 != ((x111).length : Int))) _ (op_neq rfl rfl) rfl ?_
          refine WL.nil ?_
          refine W.cond (x130 != ((x111).length : Int)) rfl (fun hc138 => ?_) (fun hc138 => ?_)
          · replace hb116 := ip hb116 hc138
            refine W.exit ?_
            show W _ _ _ _ _ _
            refine W.region ?_
            refine WL.val (Value.int .i64 (k110 : Int)) _ (op_move hf124) rfl ?_
            refine WL.val (Value.int .i64 (w64 ((k110 : Int) + (1 : Int)))) _ (op_add rfl rfl) rfl ?_
            refine WL.val (Value.int .i64 (w64 ((k110 : Int) + (1 : Int)))) _ (op_assign rfl) rfl ?_
            refine WL.nil ?_
            obtain rfl := Option.some.inj hb116
            show ∃ s, _ = Ctl.next s ∧ _
            exact ⟨_, rfl, u120, hf121, hf122, hf123, (ctr_next hl128 hr127), (ctr_rng hl128 hr127), hS126⟩
          · replace hb116 := inegb hb116 hc138
            refine W.skip ?_
            refine W.seq (W.region ?_)
            refine WL.lit0 (t := (Ty.i .i64)) hS126 sl_33 rfl rfl ?_
            intro u140 wd141 hS142 he143
            replace hS142 : St wd2 wd141 [(Ty.sl (Ty.i .i64)).at (f94 16) x62, (Ty.sl (Ty.sl (Ty.i .i64))).at u120 x111, (Ty.sl (Ty.i .i64)).at u140 ([] : (List Int))] := hS142
            refine WL.val u140 _ (op_assign rfl) rfl ?_
            refine WL.nil ?_
            refine W.seq (W.seq (W.region ?_))
            refine WL.val (Value.int .i64 (0 : Int)) _ (op_assign rfl) rfl ?_
            refine WL.nil ?_
            show W _ _ _ _ _ _
            obtain ⟨res144, hres145, hb116⟩ := bs hb116
            refine W.blockLoop (fun fq wq => ∃ s, res144 = Res.fin s ∧ ∃ (uu0 : Value), fq 1 = (Value.pointer (some ⟨b1, 0, none⟩)) ∧ fq 4 = (f94 16) ∧ fq 5 = u120 ∧ fq 6 = (Value.int .i64 (k110 : Int)) ∧ fq 7 = uu0 ∧ St wd2 wq [(Ty.sl (Ty.i .i64)).at (f94 16) x62, (Ty.sl (Ty.sl (Ty.i .i64))).at u120 x111, (Ty.sl (Ty.i .i64)).at uu0 s]) ?_ ?_
            · refine W.forN (fun k (s : (List Int)) fq wq => ∃ (uu0 : Value), fq 1 = (Value.pointer (some ⟨b1, 0, none⟩)) ∧ fq 4 = (f94 16) ∧ fq 5 = u120 ∧ fq 6 = (Value.int .i64 (k110 : Int)) ∧ fq 7 = uu0 ∧ fq 8 = Value.int .i64 (k : Int) ∧ InR .i64 (k : Int) ∧ St wd2 wq [(Ty.sl (Ty.i .i64)).at (f94 16) x62, (Ty.sl (Ty.sl (Ty.i .i64))).at u120 x111, (Ty.sl (Ty.i .i64)).at uu0 s]) hres145 ⟨u140, hf121, hf122, hf123, hf124, rfl, rfl, (inL rfl), hS142⟩ ?_ ?_
              · intro k146 x147 ct148 f149 wd150 hk151 hb152 hI153 hbrk154 hret155
                replace hI153 : ∃ (uu0 : Value), f149 1 = (Value.pointer (some ⟨b1, 0, none⟩)) ∧ f149 4 = (f94 16) ∧ f149 5 = u120 ∧ f149 6 = (Value.int .i64 (k110 : Int)) ∧ f149 7 = uu0 ∧ f149 8 = Value.int .i64 (k146 : Int) ∧ InR .i64 (k146 : Int) ∧ St wd2 wd150 [(Ty.sl (Ty.i .i64)).at (f94 16) x62, (Ty.sl (Ty.sl (Ty.i .i64))).at u120 x111, (Ty.sl (Ty.i .i64)).at uu0 x147] := hI153
                replace hb152 : p_spec_GradingGroup_L2 x62 r_Table k110 k146 x147 = some ct148 := hb152
                unfold p_spec_GradingGroup_L2 at hb152
                obtain ⟨u156, hf157, hf158, hf159, hf160, hf161, hf162, hr163, hS164⟩ := hI153
                refine W.seq (W.seq (W.region ?_))
                refine WL.val (Value.int .i64 (k146 : Int)) _ (op_move hf162) rfl ?_
                refine WL.val (f94 16) _ (op_move hf158) rfl ?_
                have hr165 := inR_len (St.rep (t := (Ty.sl (Ty.i .i64))) hS164 0 rfl)
                refine WL.val (Value.int .i64 ((x62).length : Int)) _ (op_lenL sl_33 (St.rep (t := (Ty.sl (Ty.i .i64))) hS164 0 rfl) rfl) rfl ?_
                refine WL.val (Value.bool (decide ((k146 : Int) < ((x62).length : Int)))) _ (op_lss rfl rfl) rfl ?_
                have hl166 : (k146 : Int) < ((x62).length : Int) := by omega
                refine WL.nil ?_
                refine W.condT (decide ((k146 : Int) < ((x62).length : Int))) rfl (decide_eq_true hl166) ?_
                refine W.skip ?_
                refine W.seq ?_
                refine W.block ?_
                refine W.seq (W.seq (W.region ?_))
                refine WL.val (f94 16) _ (op_move hf158) rfl ?_
                refine WL.val (Value.int .i64 (k146 : Int)) _ (op_move hf162) rfl ?_
                obtain ⟨x168, hx171, hb152⟩ := bs hb152
                obtain ⟨ha169, hb170, hx171⟩ := idx_some hx171
                refine WL.val (Value.pointer (some (elA (f94 16) ((k146 : Int)).toNat))) _ (op_idx sl_33 (St.rep (t := (Ty.sl (Ty.i .i64))) hS164 0 rfl) rfl rfl ha169 hb170) rfl ?_
                obtain ⟨u172, hc173, hr174⟩ := repSl.el (St.rep (t := (Ty.sl (Ty.i .i64))) hS164 0 rfl) hx171
                obtain ⟨rfl, hr174⟩ := hr174
                refine WL.val (Value.int .i64 x168) _ (op_load one_2 rfl hc173) rfl ?_
                refine WL.val u156 _ (op_move hf161) rfl ?_
                have hr175 := inR_len (St.rep (t := (Ty.sl (Ty.i .i64))) hS164 2 rfl)
                refine WL.val (Value.int .i64 ((x147).length : Int)) _ (op_lenL sl_33 (St.rep (t := (Ty.sl (Ty.i .i64))) hS164 2 rfl) rfl) rfl ?_
                refine WL.val (Value.bool (x168 != ((x147).length : Int))) _ (op_neq rfl rfl) rfl ?_
                refine WL.nil ?_
                refine W.cond (x168 != ((x147).length : Int)) rfl (fun hc176 => ?_) (fun hc176 => ?_)
                · replace hb152 := ip hb152 hc176
                  refine W.exit ?_
                  show W _ _ _ _ _ _
                  refine W.region ?_
                  refine WL.val (Value.int .i64 (k146 : Int)) _ (op_move hf162) rfl ?_
                  refine WL.val (Value.int .i64 (w64 ((k146 : Int) + (1 : Int)))) _ (op_add rfl rfl) rfl ?_
                  refine WL.val (Value.int .i64 (w64 ((k146 : Int) + (1 : Int)))) _ (op_assign rfl) rfl ?_
                  refine WL.nil ?_
                  obtain rfl := Option.some.inj hb152
                  show ∃ s, _ = Ctl.next s ∧ _
                  exact ⟨_, rfl, u156, hf157, hf158, hf159, hf160, hf161, (ctr_next hl166 hr165), (ctr_rng hl166 hr165), hS164⟩
                · replace hb152 := inegb hb152 hc176
                  refine W.skip ?_
                  refine W.seq (W.region ?_)
                  refine WL.val (Value.int .i64 (0 : Int)) _ (op_assign rfl) rfl ?_
                  refine WL.nil ?_
                  refine W.seq ?_
                  obtain ⟨res178, hres179, hb152⟩ := bs hb152
                  refine W.blockLoop (fun fq wq => ∃ s, res178 = Res.fin s ∧ fq 1 = (Value.pointer (some ⟨b1, 0, none⟩)) ∧ fq 4 = (f94 16) ∧ fq 5 = u120 ∧ fq 6 = (Value.int .i64 (k110 : Int)) ∧ fq 7 = u156 ∧ fq 8 = (Value.int .i64 (k146 : Int)) ∧ fq 9 = Value.int .i64 s ∧ InR .i64 s ∧ St wd2 wq [(Ty.sl (Ty.i .i64)).at (f94 16) x62, (Ty.sl (Ty.sl (Ty.i .i64))).at u120 x111, (Ty.sl (Ty.i .i64)).at u156 x147]) ?_ ?_
                  · refine W.whileC (fun (s : Int) fq wq => fq 1 = (Value.pointer (some ⟨b1, 0, none⟩)) ∧ fq 4 = (f94 16) ∧ fq 5 = u120 ∧ fq 6 = (Value.int .i64 (k110 : Int)) ∧ fq 7 = u156 ∧ fq 8 = (Value.int .i64 (k146 : Int)) ∧ fq 9 = Value.int .i64 s ∧ InR .i64 s ∧ St wd2 wq [(Ty.sl (Ty.i .i64)).at (f94 16) x62, (Ty.sl (Ty.sl (Ty.i .i64))).at u120 x111, (Ty.sl (Ty.i .i64)).at u156 x147]) hres179 ⟨hf157, hf158, hf159, hf160, hf161, hf162, rfl, (inL rfl), hS164⟩ ?_
                    intro x181 ct182 f183 wd184 hb186 hI187 hbrk188 hret189
                    replace hI187 : f183 1 = (Value.pointer (some ⟨b1, 0, none⟩)) ∧ f183 4 = (f94 16) ∧ f183 5 = u120 ∧ f183 6 = (Value.int .i64 (k110 : Int)) ∧ f183 7 = u156 ∧ f183 8 = (Value.int .i64 (k146 : Int)) ∧ f183 9 = Value.int .i64 x181 ∧ InR .i64 x181 ∧ St wd2 wd184 [(Ty.sl (Ty.i .i64)).at (f94 16) x62, (Ty.sl (Ty.sl (Ty.i .i64))).at u120 x111, (Ty.sl (Ty.i .i64)).at u156 x147] := hI187
                    replace hb186 : p_spec_GradingGroup_L3 r_Table k110 k146  x181 = some ct182 := hb186
                    unfold p_spec_GradingGroup_L3 at hb186
                    obtain ⟨hf190, hf191, hf192, hf193, hf194, hf195, hf196, hr197, hS198⟩ := hI187
                    refine W.seq (W.seq (W.region ?_))
                    refine WL.val (Value.pointer (some ⟨b1, 0, none⟩)) _ (op_fieldAddr fd_26_0 hf190) rfl ?_
                    refine WL.val v_r_Table _ (op_load one_22 rfl (BoxAt.cell (BoxAt.lift hS198.ext hx6) rfl)) rfl ?_
                    refine WL.val (Value.int .i64 (k110 : Int)) _ (op_move hf193) rfl ?_
                    obtain ⟨x199, hx202, hb186⟩ := bs hb186
                    obtain ⟨ha200, hb201, hx202⟩ := idx_some hx202
                    refine WL.val (Value.pointer (some (elA v_r_Table ((k110 : Int)).toNat))) _ (op_idx sl_22 (Ty.lift _ (Ext.trans hE7 hS198.ext) r_r_Table) rfl rfl ha200 hb201) rfl ?_
                    obtain ⟨u203, hc204, hr205⟩ := repSl.el r_r_Table hx202
                    refine WL.val u203 _ (op_load one_41 rfl (Ext.cell (Ext.trans hE7 hS198.ext) hc204)) rfl ?_
                    refine WL.val (Value.int .i64 (k146 : Int)) _ (op_move hf195) rfl ?_
                    obtain ⟨x206, hx209, hb186⟩ := bs hb186
                    obtain ⟨ha207, hb208, hx209⟩ := idx_some hx209
                    refine WL.val (Value.pointer (some (elA u203 ((k146 : Int)).toNat))) _ (op_idx sl_41 (Ty.lift _ (Ext.trans hE7 hS198.ext) hr205) rfl rfl ha207 hb208) rfl ?_
                    obtain ⟨u210, hc211, hr212⟩ := repSl.el hr205 hx209
                    refine WL.val u210 _ (op_load one_33 rfl (Ext.cell (Ext.trans hE7 hS198.ext) hc211)) rfl ?_
                    refine WL.val (Value.int .i64 x181) _ (op_move hf196) rfl ?_
                    obtain ⟨x213, hx216, hb186⟩ := bs hb186
                    obtain ⟨ha214, hb215, hx216⟩ := idx_some hx216
                    refine WL.val (Value.pointer (some (elA u210 (x181).toNat))) _ (op_idx sl_33 (Ty.lift _ (Ext.trans hE7 hS198.ext) hr212) rfl rfl ha214 hb215) rfl ?_
                    obtain ⟨u217, hc218, hr219⟩ := repSl.el hr212 hx216
                    obtain ⟨rfl, hr219⟩ := hr219
                    refine WL.val (Value.int .i64 x213) _ (op_load one_2 rfl (Ext.cell (Ext.trans hE7 hS198.ext) hc218)) rfl ?_
                    refine WL.val (Value.bool (x213 == (0 : Int))) _ (op_eql rfl rfl) rfl ?_
                    refine WL.nil ?_
                    refine W.cond (x213 == (0 : Int)) rfl (fun hc220 => ?_) (fun hc220 => ?_)
                    · replace hb186 := ip hb186 hc220
                      refine W.skip ?_
                      show W _ _ _ _ _ _
                      refine W.block ?_
                      refine W.region ?_
                      refine WL.val (Value.int .i64 x181) _ (op_move hf196) rfl ?_
                      refine WL.val (Value.int .i64 (w64 (x181 + (1 : Int)))) _ (op_add rfl rfl) rfl ?_
                      refine WL.val (Value.int .i64 (w64 (x181 + (1 : Int)))) _ (op_assign rfl) rfl ?_
                      refine WL.nil ?_
                      obtain rfl := Option.some.inj hb186
                      show ∃ s, _ = Ctl.next s ∧ _
                      exact ⟨_, rfl, hf190, hf191, hf192, hf193, hf194, hf195, rfl, (inR_wrap _ _), hS198⟩
                    · replace hb186 := inegb hb186 hc220
                      refine W.exit ?_
                      obtain rfl := Option.some.inj hb186
                      show _ = _ ∧ _
                      exact ⟨rfl, _, hbrk188 _ rfl, hf190, hf191, hf192, hf193, hf194, hf195, hf196, hr197, hS198⟩
                  · rintro f223 wd224 ⟨x227, rfl, hq225⟩
                    replace hb152 := onRes_fin hb152
                    replace hq225 : f223 1 = (Value.pointer (some ⟨b1, 0, none⟩)) ∧ f223 4 = (f94 16) ∧ f223 5 = u120 ∧ f223 6 = (Value.int .i64 (k110 : Int)) ∧ f223 7 = u156 ∧ f223 8 = (Value.int .i64 (k146 : Int)) ∧ f223 9 = Value.int .i64 x227 ∧ InR .i64 x227 ∧ St wd2 wd224 [(Ty.sl (Ty.i .i64)).at (f94 16) x62, (Ty.sl (Ty.sl (Ty.i .i64))).at u120 x111, (Ty.sl (Ty.i .i64)).at u156 x147] := hq225
                    obtain ⟨hf228, hf229, hf230, hf231, hf232, hf233, hf234, hr235, hS236⟩ := hq225
                    show W _ _ _ _ _ _
                    refine W.region ?_
                    refine WL.val u156 _ (op_move hf232) rfl ?_
                    refine WL.val (f94 16) _ (op_move hf229) rfl ?_
                    refine WL.val (Value.int .i64 x227) _ (op_move hf234) rfl ?_
                    obtain ⟨x237, hx240, hb152⟩ := bs hb152
                    obtain ⟨ha238, hb239, hx240⟩ := idx_some hx240
                    refine WL.val (Value.pointer (some (elA (f94 16) (x227).toNat))) _ (op_idx sl_33 (St.rep (t := (Ty.sl (Ty.i .i64))) hS236 0 rfl) rfl rfl ha238 hb239) rfl ?_
                    obtain ⟨u241, hc242, hr243⟩ := repSl.el (St.rep (t := (Ty.sl (Ty.i .i64))) hS236 0 rfl) hx240
                    obtain ⟨rfl, hr243⟩ := hr243
                    refine WL.val (Value.int .i64 x237) _ (op_load one_2 rfl hc242) rfl ?_
                    refine WL.litFlat (t := (Ty.i .i64)) (flat_i .i64) [(Value.int .i64 x237)] [x237] hS236 sl_33 rfl rfl (fillL rfl ⟨rfl, rfl, rfl, trivial⟩) rfl rfl (litL ⟨⟨rfl, hr243⟩, trivial⟩) rfl ?_
                    intro u244 wd245 hS246 he247
                    replace hS246 : St wd2 wd245 [(Ty.sl (Ty.i .i64)).at (f94 16) x62, (Ty.sl (Ty.sl (Ty.i .i64))).at u120 x111, (Ty.sl (Ty.i .i64)).at u156 x147, (Ty.sl (Ty.i .i64)).at u244 ([x237] : (List Int))] := hS246
                    obtain ⟨x248, hx249, hb152⟩ := bs hb152
                    refine WL.append (flat_i .i64) hS246 (k := 2) rfl sl_33 rfl rfl rfl rfl (St.rep (t := (Ty.sl (Ty.i .i64))) hS246 3 rfl) hx249 rfl ?_
                    intro u250 wd251 hS252 hz253
                    replace hS252 : St wd2 wd251 [(Ty.sl (Ty.i .i64)).at (f94 16) x62, (Ty.sl (Ty.sl (Ty.i .i64))).at u120 x111, (Ty.sl (Ty.i .i64)).at u250 x248, (Ty.sl (Ty.i .i64)).at u244 ([x237] : (List Int))] := hS252
                    refine WL.val u250 _ (op_assign rfl) rfl ?_
                    refine WL.nil ?_
                    show W _ _ _ _ _ _
                    refine W.region ?_
                    refine WL.val (Value.int .i64 (k146 : Int)) _ (op_move hf233) rfl ?_
                    refine WL.val (Value.int .i64 (w64 ((k146 : Int) + (1 : Int)))) _ (op_add rfl rfl) rfl ?_
                    refine WL.val (Value.int .i64 (w64 ((k146 : Int) + (1 : Int)))) _ (op_assign rfl) rfl ?_
                    refine WL.nil ?_
                    obtain rfl := Option.some.inj hb152
                    show ∃ s, _ = Ctl.next s ∧ _
                    exact ⟨_, rfl, u250, hf228, hf229, hf230, hf231, rfl, (ctr_next hl166 hr165), (ctr_rng hl166 hr165), (St.pick hS252 [0, 1, 2] rfl)⟩
              · intro x261 f256 wd257 hs258 hI259
                replace hI259 : ∃ (uu0 : Value), f256 1 = (Value.pointer (some ⟨b1, 0, none⟩)) ∧ f256 4 = (f94 16) ∧ f256 5 = u120 ∧ f256 6 = (Value.int .i64 (k110 : Int)) ∧ f256 7 = uu0 ∧ f256 8 = Value.int .i64 (((x62).length : Nat) : Int) ∧ InR .i64 (((x62).length : Nat) : Int) ∧ St wd2 wd257 [(Ty.sl (Ty.i .i64)).at (f94 16) x62, (Ty.sl (Ty.sl (Ty.i .i64))).at u120 x111, (Ty.sl (Ty.i .i64)).at uu0 x261] := hI259
                obtain ⟨u262, hf263, hf264, hf265, hf266, hf267, hf268, hr269, hS270⟩ := hI259
                refine W.seq (W.seq (W.region ?_))
                refine WL.val (Value.int .i64 (((x62).length : Nat) : Int)) _ (op_move hf268) rfl ?_
                refine WL.val (f94 16) _ (op_move hf264) rfl ?_
                have hr271 := inR_len (St.rep (t := (Ty.sl (Ty.i .i64))) hS270 0 rfl)
                refine WL.val (Value.int .i64 ((x62).length : Int)) _ (op_lenL sl_33 (St.rep (t := (Ty.sl (Ty.i .i64))) hS270 0 rfl) rfl) rfl ?_
                refine WL.val (Value.bool (decide ((((x62).length : Nat) : Int) < ((x62).length : Int)))) _ (op_lss rfl rfl) rfl ?_
                have hl272 : ¬ (((x62).length : Nat) : Int) < ((x62).length : Int) := by omega
                refine WL.nil ?_
                refine W.condF (decide ((((x62).length : Nat) : Int) < ((x62).length : Int))) rfl (decide_eq_false hl272) ?_
                refine W.exit ?_
                show _ = _ ∧ _
                exact ⟨rfl, _, hs258, u262, hf263, hf264, hf265, hf266, hf267, hS270⟩
            · rintro f273 wd274 ⟨x277, rfl, hq275⟩
              replace hb116 := onRes_fin hb116
              replace hq275 : ∃ (uu0 : Value), f273 1 = (Value.pointer (some ⟨b1, 0, none⟩)) ∧ f273 4 = (f94 16) ∧ f273 5 = u120 ∧ f273 6 = (Value.int .i64 (k110 : Int)) ∧ f273 7 = uu0 ∧ St wd2 wd274 [(Ty.sl (Ty.i .i64)).at (f94 16) x62, (Ty.sl (Ty.sl (Ty.i .i64))).at u120 x111, (Ty.sl (Ty.i .i64)).at uu0 x277] := hq275
              obtain ⟨u278, hf279, hf280, hf281, hf282, hf283, hS284⟩ := hq275
              show W _ _ _ _ _ _
              refine W.region ?_
              refine WL.val u120 _ (op_move hf281) rfl ?_
              refine WL.val u278 _ (op_move hf283) rfl ?_
              refine WL.lit [u278] hS284 sl_41 rfl rfl (fillL rfl ⟨rfl, rfl, (cells_rep (St.rep (t := (Ty.sl (Ty.i .i64))) hS284 2 rfl)), trivial⟩) rfl rfl ?_
              intro b289 wd286 hS287 he288 hx290
              replace hS287 : St wd2 wd286 [(Ty.sl (Ty.i .i64)).at (f94 16) x62, (Ty.sl (Ty.sl (Ty.i .i64))).at u120 x111, (Ty.sl (Ty.i .i64)).at u278 x277, bx b289 [u278]] := hS287
              obtain ⟨x291, hx292, hb116⟩ := bs hb116
              refine WL.appendRow hS287 (k := 1) (k2 := 2) (k3 := 3) rfl rfl rfl rfl sl_41 rfl rfl rfl rfl hx292 rfl ?_
              intro u293 wd294 hS295 hz296
              replace hS295 : St wd2 wd294 [(Ty.sl (Ty.i .i64)).at (f94 16) x62, (Ty.sl (Ty.sl (Ty.i .i64))).at u293 x291, emp, bx b289 [u278]] := hS295
              refine WL.val u293 _ (op_assign rfl) rfl ?_
              refine WL.nil ?_
              show W _ _ _ _ _ _
              refine W.region ?_
              refine WL.val (Value.int .i64 (k110 : Int)) _ (op_move hf282) rfl ?_
              refine WL.val (Value.int .i64 (w64 ((k110 : Int) + (1 : Int)))) _ (op_add rfl rfl) rfl ?_
              refine WL.val (Value.int .i64 (w64 ((k110 : Int) + (1 : Int)))) _ (op_assign rfl) rfl ?_
              refine WL.nil ?_
              obtain rfl := Option.some.inj hb116
              show ∃ s, _ = Ctl.next s ∧ _
              exact ⟨_, rfl, u293, hf279, hf280, rfl, (ctr_next hl128 hr127), (ctr_rng hl128 hr127), (St.pick hS295 [0, 1] rfl)⟩
        · intro x304 f299 wd300 hs301 hI302
          replace hI302 : ∃ (uu0 : Value), f299 1 = (Value.pointer (some ⟨b1, 0, none⟩)) ∧ f299 4 = (f94 16) ∧ f299 5 = uu0 ∧ f299 6 = Value.int .i64 (((x62).length : Nat) : Int) ∧ InR .i64 (((x62).length : Nat) : Int) ∧ St wd2 wd300 [(Ty.sl (Ty.i .i64)).at (f94 16) x62, (Ty.sl (Ty.sl (Ty.i .i64))).at uu0 x304] := hI302
          obtain ⟨u305, hf306, hf307, hf308, hf309, hr310, hS311⟩ := hI302
          refine W.seq (W.seq (W.region ?_))
          refine WL.val (Value.int .i64 (((x62).length : Nat) : Int)) _ (op_move hf309) rfl ?_
          refine WL.val (f94 16) _ (op_move hf307) rfl ?_
          have hr312 := inR_len (St.rep (t := (Ty.sl (Ty.i .i64))) hS311 0 rfl)
          refine WL.val (Value.int .i64 ((x62).length : Int)) _ (op_lenL sl_33 (St.rep (t := (Ty.sl (Ty.i .i64))) hS311 0 rfl) rfl) rfl ?_
          refine WL.val (Value.bool (decide ((((x62).length : Nat) : Int) < ((x62).length : Int)))) _ (op_lss rfl rfl) rfl ?_
          have hl313 : ¬ (((x62).length : Nat) : Int) < ((x62).length : Int) := by omega
          refine WL.nil ?_
          refine W.condF (decide ((((x62).length : Nat) : Int) < ((x62).length : Int))) rfl (decide_eq_false hl313) ?_
          refine W.exit ?_
          show _ = _ ∧ _
          exact ⟨rfl, _, hs301, u305, hf308, (St.pick hS311 [1] rfl)⟩
      · rintro f314 wd315 ⟨x318, rfl, hq316⟩
        replace h := onRes_fin h
        replace hq316 : ∃ (uu0 : Value), f314 5 = uu0 ∧ St wd2 wd315 [(Ty.sl (Ty.sl (Ty.i .i64))).at uu0 x318] := hq316
        obtain ⟨u319, hf320, hS321⟩ := hq316
        refine W.seq (W.region ?_)
        refine WL.val u319 _ (op_move hf320) rfl ?_
        refine WL.val u319 _ (op_assign rfl) rfl ?_
        refine WL.val (Value.int .i64 (0 : Int)) _ (op_assign rfl) rfl ?_
        refine WL.nil ?_
        refine W.ret ?_
        obtain rfl := Option.some.inj h
        show FinP _ _ _ _ _ _ _
        exact FinP.ret _ (res2 rfl rfl rfl) ⟨u319, rfl, (inL rfl), (Ext.trans hE7 hS321.ext), (St.out (St.pick hS321 [0] rfl) (hE7))⟩

theorem c_impl_Ring_components_c1 {w : World} {i : Int} {j : Int} {b_c0 : Nat} {c0 : (List (List Int))} {v_c0 : Value} {b_c1 : Nat} {c1 : (List Int)} {v_c1 : Value} {b_c2 : Nat} {c2 : Int} (r_i : InR .i64 i) (r_j : InR .i64 j) (k_c0 : BoxAt w b_c0 [v_c0]) (r_c0 : (Ty.sl (Ty.sl (Ty.i .i64))).rep w v_c0 c0) (k_c1 : BoxAt w b_c1 [v_c1]) (r_c1 : (Ty.sl (Ty.i .i64)).rep w v_c1 c1) (k_c2 : BoxAt w b_c2 [(Value.int .i64 c2)]) (r_c2 : InR .i64 c2) {res : Bool} (h : p_impl_Ring_components_c1 i j c0 c1 c2 = some res) :
    Ret Tryd.prog 71 #[(Value.int .i64 i), (Value.int .i64 j), (Value.pointer (some ⟨b_c0, 0, none⟩)), (Value.pointer (some ⟨b_c1, 0, none⟩)), (Value.pointer (some ⟨b_c2, 0, none⟩))] w (fun v w' => v = Value.bool res ∧ Ext w w') := by
  unfold p_impl_Ring_components_c1 at h
  have hS0 : St w w [] := St.start w
  refine Ret.start (fn := Tryd.f71) Tryd.func71 rfl 21 rfl rfl ?_
  refine W.seq (W.region ?_)
  refine WL.val (Value.bool false) _ (op_assign rfl) rfl ?_
  refine WL.nil ?_
  refine W.seq ?_
  obtain ⟨x37, hx40, h⟩ := bs h
  obtain ⟨ha38, hb39, hx40⟩ := idx_some hx40
  obtain ⟨u51, hc52, hr53⟩ := repSl.el r_c1 hx40
  obtain ⟨rfl, hr53⟩ := hr53
  obtain ⟨x69, hx72, h⟩ := bs h
  obtain ⟨ha70, hb71, hx72⟩ := idx_some hx72
  obtain ⟨u83, hc84, hr85⟩ := repSl.el r_c0 hx72
  obtain ⟨x108, hx111, h⟩ := bs h
  obtain ⟨ha109, hb110, hx111⟩ := idx_some hx111
  obtain ⟨u122, hc123, hr124⟩ := repSl.el hr85 hx111
  obtain ⟨rfl, hr124⟩ := hr124
  refine W.drawR mixo 11 [] [fun _ v _ _ => v = v_c0, fun _ v _ _ => v = v_c1, fun _ v _ _ => v = (Value.int .i64 i) ∧ InR .i64 i, fun _ v _ _ => v = (Value.pointer (some (elA v_c1 (i).toNat))), fun _ v _ _ => v = (Value.int .i64 x37) ∧ InR .i64 x37, fun _ v _ _ => v = (Value.pointer (some (elA v_c0 (x37).toNat))), fun _ v _ _ => v = u83, fun _ v _ _ => v = (Value.int .i64 j) ∧ InR .i64 j, fun _ v _ _ => v = (Value.pointer (some (elA u83 (j).toNat))), fun _ v _ _ => v = (Value.int .i64 x108) ∧ InR .i64 x108, fun _ v _ _ => v = (Value.int .i64 c2) ∧ InR .i64 c2] (by kernel_rfl) (by kernel_rfl) ⟨pk, pk, pk, pk, pk, pk, pk, pk, pk, pk, pk, trivial⟩ ⟨?_, ?_, ?_, ?_, ?_, ?_, ?_, ?_, ?_, ?_, ?_, trivial⟩ ?_
  · refine ObX.op rfl fun f1 wd2 he3 hout4 hphi5 => ?_
    have hS6 := St.extend hS0 he3
    have e7 : f1 2 = (Value.pointer (some ⟨b_c0, 0, none⟩)) := (hout4 2 rfl).trans rfl
    exact OpX.val v_c0 wd2 rfl (op_load one_41 e7 (BoxAt.cell (BoxAt.lift hS6.ext k_c0) rfl)) (Ext.refl _) rfl
  · refine ObX.op rfl fun f8 wd9 he10 hout11 hphi12 => ?_
    have hS13 := St.extend hS0 he10
    have e14 : f8 3 = (Value.pointer (some ⟨b_c1, 0, none⟩)) := (hout11 3 rfl).trans rfl
    exact OpX.val v_c1 wd9 rfl (op_load one_61 e14 (BoxAt.cell (BoxAt.lift hS13.ext k_c1) rfl)) (Ext.refl _) rfl
  · refine ObX.op rfl fun f15 wd16 he17 hout18 hphi19 => ?_
    have e21 : f15 0 = (Value.int .i64 i) := (hout18 0 rfl).trans rfl
    exact OpX.val (Value.int .i64 i) wd16 rfl (op_move e21) (Ext.refl _) ⟨rfl, r_i⟩
  · refine ObX.op rfl fun f22 wd23 he24 hout25 hphi26 => ?_
    have hS27 := St.extend hS0 he24
    obtain ⟨S28, hS29, hf30⟩ := hphi26 1 9 _ rfl rfl rfl
    have e31 : f22 9 = v_c1 := hf30
    obtain ⟨S32, hS33, hf34⟩ := hphi26 2 10 _ rfl rfl rfl
    obtain ⟨e35, hr36⟩ := hf34
    exact OpX.val (Value.pointer (some (elA v_c1 (i).toNat))) wd23 rfl (op_idx sl_61 (Ty.lift _ hS27.ext r_c1) e31 e35 ha38 hb39) (Ext.refl _) rfl
  · refine ObX.op rfl fun f41 wd42 he43 hout44 hphi45 => ?_
    have hS46 := St.extend hS0 he43
    obtain ⟨S47, hS48, hf49⟩ := hphi45 3 11 _ rfl rfl rfl
    have e50 : f41 11 = (Value.pointer (some (elA v_c1 (i).toNat))) := hf49
    exact OpX.val (Value.int .i64 x37) wd42 rfl (op_load one_3 e50 (Ext.cell hS46.ext hc52)) (Ext.refl _) ⟨rfl, hr53⟩
  · refine ObX.op rfl fun f54 wd55 he56 hout57 hphi58 => ?_
    have hS59 := St.extend hS0 he56
    obtain ⟨S60, hS61, hf62⟩ := hphi58 0 8 _ rfl rfl rfl
    have e63 : f54 8 = v_c0 := hf62
    obtain ⟨S64, hS65, hf66⟩ := hphi58 4 12 _ rfl rfl rfl
    obtain ⟨e67, hr68⟩ := hf66
    exact OpX.val (Value.pointer (some (elA v_c0 (x37).toNat))) wd55 rfl (op_idx sl_41 (Ty.lift _ hS59.ext r_c0) e63 e67 ha70 hb71) (Ext.refl _) rfl
  · refine ObX.op rfl fun f73 wd74 he75 hout76 hphi77 => ?_
    have hS78 := St.extend hS0 he75
    obtain ⟨S79, hS80, hf81⟩ := hphi77 5 13 _ rfl rfl rfl
    have e82 : f73 13 = (Value.pointer (some (elA v_c0 (x37).toNat))) := hf81
    exact OpX.val u83 wd74 rfl (op_load one_33 e82 (Ext.cell hS78.ext hc84)) (Ext.refl _) rfl
  · refine ObX.op rfl fun f86 wd87 he88 hout89 hphi90 => ?_
    have e92 : f86 1 = (Value.int .i64 j) := (hout89 1 rfl).trans rfl
    exact OpX.val (Value.int .i64 j) wd87 rfl (op_move e92) (Ext.refl _) ⟨rfl, r_j⟩
  · refine ObX.op rfl fun f93 wd94 he95 hout96 hphi97 => ?_
    have hS98 := St.extend hS0 he95
    obtain ⟨S99, hS100, hf101⟩ := hphi97 6 14 _ rfl rfl rfl
    have e102 : f93 14 = u83 := hf101
    obtain ⟨S103, hS104, hf105⟩ := hphi97 7 15 _ rfl rfl rfl
    obtain ⟨e106, hr107⟩ := hf105
    exact OpX.val (Value.pointer (some (elA u83 (j).toNat))) wd94 rfl (op_idx sl_33 (Ty.lift _ hS98.ext hr85) e102 e106 ha109 hb110) (Ext.refl _) rfl
  · refine ObX.op rfl fun f112 wd113 he114 hout115 hphi116 => ?_
    have hS117 := St.extend hS0 he114
    obtain ⟨S118, hS119, hf120⟩ := hphi116 8 16 _ rfl rfl rfl
    have e121 : f112 16 = (Value.pointer (some (elA u83 (j).toNat))) := hf120
    exact OpX.val (Value.int .i64 x108) wd113 rfl (op_load one_2 e121 (Ext.cell hS117.ext hc123)) (Ext.refl _) ⟨rfl, hr124⟩
  · refine ObX.op rfl fun f125 wd126 he127 hout128 hphi129 => ?_
    have hS130 := St.extend hS0 he127
    have e131 : f125 4 = (Value.pointer (some ⟨b_c2, 0, none⟩)) := (hout128 4 rfl).trans rfl
    exact OpX.val (Value.int .i64 c2) wd126 rfl (op_load one_2 e131 (BoxAt.cell (BoxAt.lift hS130.ext k_c2) rfl)) (Ext.refl _) ⟨rfl, r_c2⟩
  · intro f132 wd133 Ss134 he135 hout136 hSn137 hSd138 hphi139
    show WL _ _ _ _ _ _ _
    have hS140 := St.extend hS0 he135
    obtain ⟨e141, hr142⟩ := hphi139 9 17 _ (by decide) rfl rfl
    obtain ⟨e143, hr144⟩ := hphi139 10 18 _ (by decide) rfl rfl
    refine WL.val (Value.int .i64 (andI .i64 x108 c2)) _ (op_and e141 e143) rfl ?_
    refine WL.val (Value.bool ((andI .i64 x108 c2) != (0 : Int))) _ (op_neq rfl rfl) rfl ?_
    refine WL.val (Value.bool ((andI .i64 x108 c2) != (0 : Int))) _ (op_assign rfl) rfl ?_
    refine WL.nil ?_
    refine W.ret ?_
    obtain rfl := Option.some.inj h
    show FinP _ _ _ _ _ _ _
    exact FinP.ret _ (res1 rfl rfl) ⟨rfl, hS140.ext⟩

theorem c_impl_Ring_classes {w : World} {r_Table : (List (List (List Int)))} {v_r_Table : Value} {together : Int → Int → Option Bool} {v_together : Value} (r_r_Table : (Ty.sl (Ty.sl (Ty.sl (Ty.i .i64)))).rep w v_r_Table r_Table) (r_together : FnT_i_i_to_b Tryd.prog v_together w together) {res : (List Int)} (h : p_impl_Ring_classes r_Table together  = some res) :
    Ret Tryd.prog 70 #[(Value.agg #[v_r_Table]), v_together] w (fun v w' => ∃ (u0 : Value), v = u0 ∧ Ext w w' ∧ Sep w.heap.size w' [(Ty.sl (Ty.i .i64)).at u0 res]) := by
  unfold p_impl_Ring_classes at h
  have hS0 : St w w [] := St.start w
  have q_together := r_together
  obtain ⟨g_together, fst_together, cap_together, eq_together, ok_together, call_together⟩ := q_together
  subst eq_together
  refine Ret.start (fn := Tryd.f70) Tryd.func70 rfl 45 rfl rfl ?_
  refine W.seq (W.region ?_)
  refine WL.box hS0 rfl (cs := [v_r_Table]) rfl rfl ?_
  intro b1 wd2 hS3 he4 hx5
  replace hS3 : St w wd2 [bx b1 [v_r_Table]] := hS3
  have hx6 := St.boxAt hS3 0 rfl
  have hE7 : Ext w wd2 := hS3.ext
  have hS8 : St wd2 wd2 [] := St.start wd2
  refine WL.val (Value.slice none 0 0) _ (op_assign rfl) rfl ?_
  refine WL.nil ?_
  refine W.seq (W.region ?_)
  refine WL.lit0 (t := (Ty.i .i64)) hS8 sl_33 rfl rfl ?_
  intro u9 wd10 hS11 he12
  replace hS11 : St wd2 wd10 [(Ty.sl (Ty.i .i64)).at u9 ([] : (List Int))] := hS11
  refine WL.val u9 _ (op_assign rfl) rfl ?_
  refine WL.val (Value.int .i64 (0 : Int)) _ (op_assign rfl) rfl ?_
  refine WL.nil ?_
  refine W.seq (W.seq (W.region ?_))
  refine WL.val (Value.pointer (some ⟨b1, 0, none⟩)) _ (op_fieldAddr fd_26_0 rfl) rfl ?_
  refine WL.val v_r_Table _ (op_load one_22 rfl (BoxAt.cell (BoxAt.lift hS11.ext hx6) rfl)) rfl ?_
  have hr13 := inR_len (Ty.lift _ (Ext.trans hE7 hS11.ext) r_r_Table)
  refine WL.val (Value.int .i64 ((r_Table).length : Int)) _ (op_lenL sl_22 (Ty.lift _ (Ext.trans hE7 hS11.ext) r_r_Table) rfl) rfl ?_
  refine WL.val (Value.int .i64 (0 : Int)) _ (op_move rfl) rfl ?_
  refine WL.nil ?_
  show W _ _ _ _ _ _
  obtain ⟨res14, hres15, h⟩ := bs h
  refine W.blockLoop (fun fq wq => ∃ s, res14 = Res.fin s ∧ ∃ (uu0 : Value), fq 5 = uu0 ∧ St wd2 wq [(Ty.sl (Ty.i .i64)).at uu0 s.1]) ?_ ?_
  · refine W.forN (fun k (s : (List Int) × Int) fq wq => ∃ (uu0 : Value), fq 1 = (Value.func (.func g_together) fst_together cap_together) ∧ fq 5 = uu0 ∧ fq 6 = Value.int .i64 s.2 ∧ InR .i64 s.2 ∧ fq 13 = (Value.int .i64 ((r_Table).length : Int)) ∧ fq 14 = Value.int .i64 (k : Int) ∧ InR .i64 (k : Int) ∧ St wd2 wq [(Ty.sl (Ty.i .i64)).at uu0 s.1]) hres15 ⟨u9, rfl, rfl, rfl, (inL rfl), rfl, rfl, (inL rfl), hS11⟩ ?_ ?_
    · intro k16 s149 ct19 f20 wd21 hk22 hb23 hI24 hbrk25 hret26
      obtain ⟨x17, x18⟩ := s149
      replace hI24 : ∃ (uu0 : Value), f20 1 = (Value.func (.func g_together) fst_together cap_together) ∧ f20 5 = uu0 ∧ f20 6 = Value.int .i64 x18 ∧ InR .i64 x18 ∧ f20 13 = (Value.int .i64 ((r_Table).length : Int)) ∧ f20 14 = Value.int .i64 (k16 : Int) ∧ InR .i64 (k16 : Int) ∧ St wd2 wd21 [(Ty.sl (Ty.i .i64)).at uu0 x17] := hI24
      replace hb23 : p_impl_Ring_classes_L1 together k16 x17 x18 = some ct19 := hb23
      unfold p_impl_Ring_classes_L1 at hb23
      obtain ⟨u27, hf28, hf29, hf30, hr31, hf32, hf33, hr34, hS35⟩ := hI24
      refine W.seq (W.region ?_)
      refine WL.val (Value.bool (decide ((k16 : Int) < ((r_Table).length : Int)))) _ (op_lss hf33 hf32) rfl ?_
      have hl36 : (k16 : Int) < ((r_Table).length : Int) := by omega
      refine WL.nil ?_
      refine W.seq ?_
      refine W.condT (decide ((k16 : Int) < ((r_Table).length : Int))) rfl (decide_eq_true hl36) ?_
      refine W.skip ?_
      refine W.seq ?_
      refine W.block ?_
      refine W.seq (W.region ?_)
      refine WL.val (Value.int .i64 (k16 : Int)) _ (op_move hf33) rfl ?_
      refine WL.val (Value.int .i64 (k16 : Int)) _ (op_assign rfl) rfl ?_
      refine WL.nil ?_
      refine W.seq (W.region ?_)
      refine WL.val (Value.int .i64 (-1 : Int)) _ (op_assign rfl) rfl ?_
      refine WL.nil ?_
      refine W.seq (W.seq (W.region ?_))
      refine WL.val (Value.int .i64 (0 : Int)) _ (op_assign rfl) rfl ?_
      refine WL.nil ?_
      show W _ _ _ _ _ _
      obtain ⟨res38, hres39, hb23⟩ := bs hb23
      refine W.blockLoop (fun fq wq => ∃ s, res38 = Res.fin s ∧ fq 1 = (Value.func (.func g_together) fst_together cap_together) ∧ fq 5 = u27 ∧ fq 6 = (Value.int .i64 x18) ∧ fq 8 = Value.int .i64 s.1 ∧ InR .i64 s.1 ∧ fq 13 = (Value.int .i64 ((r_Table).length : Int)) ∧ fq 14 = (Value.int .i64 (k16 : Int)) ∧ St wd2 wq [(Ty.sl (Ty.i .i64)).at u27 x17]) ?_ ?_
      · refine W.whileC (fun (s : Int × Int) fq wq => fq 1 = (Value.func (.func g_together) fst_together cap_together) ∧ fq 5 = u27 ∧ fq 6 = (Value.int .i64 x18) ∧ fq 7 = (Value.int .i64 (k16 : Int)) ∧ fq 8 = Value.int .i64 s.1 ∧ InR .i64 s.1 ∧ fq 9 = Value.int .i64 s.2 ∧ InR .i64 s.2 ∧ fq 13 = (Value.int .i64 ((r_Table).length : Int)) ∧ fq 14 = (Value.int .i64 (k16 : Int)) ∧ St wd2 wq [(Ty.sl (Ty.i .i64)).at u27 x17]) hres39 ⟨hf28, hf29, hf30, rfl, rfl, (inR_i64.2 (show (-9223372036854775808 : Int) ≤ -1 ∧ (-1 : Int) ≤ 9223372036854775807 from by decide)), rfl, (inL rfl), hf32, hf33, hS35⟩ ?_
        intro s107 ct43 f44 wd45 hb47 hI48 hbrk49 hret50
        obtain ⟨x41, x42⟩ := s107
        replace hI48 : f44 1 = (Value.func (.func g_together) fst_together cap_together) ∧ f44 5 = u27 ∧ f44 6 = (Value.int .i64 x18) ∧ f44 7 = (Value.int .i64 (k16 : Int)) ∧ f44 8 = Value.int .i64 x41 ∧ InR .i64 x41 ∧ f44 9 = Value.int .i64 x42 ∧ InR .i64 x42 ∧ f44 13 = (Value.int .i64 ((r_Table).length : Int)) ∧ f44 14 = (Value.int .i64 (k16 : Int)) ∧ St wd2 wd45 [(Ty.sl (Ty.i .i64)).at u27 x17] := hI48
        replace hb47 : p_impl_Ring_classes_L2 k16 together x17  x41 x42 = some ct43 := hb47
        unfold p_impl_Ring_classes_L2 at hb47
        obtain ⟨hf51, hf52, hf53, hf54, hf55, hr56, hf57, hr58, hf59, hf60, hS61⟩ := hI48
        refine W.seq (W.seq (W.region ?_))
        refine WL.val (Value.int .i64 x42) _ (op_move hf57) rfl ?_
        refine WL.val (Value.int .i64 (k16 : Int)) _ (op_move hf54) rfl ?_
        refine WL.val (Value.bool (decide (x42 < (k16 : Int)))) _ (op_lss rfl rfl) rfl ?_
        refine WL.val (Value.bool (decide (x42 < (k16 : Int)))) _ (op_move rfl) rfl ?_
        refine WL.cut 3 (fun fq wq => fq 1 = (Value.func (.func g_together) fst_together cap_together) ∧ fq 5 = u27 ∧ fq 6 = (Value.int .i64 x18) ∧ fq 7 = (Value.int .i64 (k16 : Int)) ∧ fq 8 = (Value.int .i64 x41) ∧ fq 9 = (Value.int .i64 x42) ∧ fq 13 = (Value.int .i64 ((r_Table).length : Int)) ∧ fq 14 = (Value.int .i64 (k16 : Int)) ∧ fq 23 = (Value.bool ((decide (x42 < (k16 : Int))) && (decide (x41 < (0 : Int))))) ∧ St wd2 wq [(Ty.sl (Ty.i .i64)).at u27 x17]) ?_ ?_
        · rcases Bool.eq_false_or_eq_true (decide (x42 < (k16 : Int))) with hc62 | hc62
          · refine WL.grun rfl (bool_of rfl hc62) ?_
            refine WL.val (Value.int .i64 x41) _ (op_move hf55) rfl ?_
            refine WL.grun rfl (bool_of rfl hc62) ?_
            refine WL.val (Value.bool (decide (x41 < (0 : Int)))) _ (op_lss rfl rfl) rfl ?_
            refine WL.val (Value.bool (decide (x41 < (0 : Int)))) _ (op_pick_t (evb_of rfl hc62) rfl) rfl ?_
            refine WL.nil ?_
            exact ⟨rfl, hf51, hf52, hf53, hf54, hf55, hf57, hf59, hf60, (andT hc62), hS61⟩
          · refine WL.gskip rfl (bool_of rfl hc62) rfl ?_
            refine WL.gskip rfl (bool_of rfl hc62) rfl ?_
            refine WL.val (Value.bool false) _ (op_pick_f (evb_of rfl hc62) rfl) rfl ?_
            refine WL.nil ?_
            exact ⟨rfl, hf51, hf52, hf53, hf54, hf55, hf57, hf59, hf60, (andF hc62), hS61⟩
        · intro f63 wd64 hq65
          obtain ⟨hf66, hf67, hf68, hf69, hf70, hf71, hf72, hf73, hf74, hS75⟩ := hq65
          refine WL.nil ?_
          refine W.cond ((decide (x42 < (k16 : Int))) && (decide (x41 < (0 : Int)))) hf74 (fun hc76 => ?_) (fun hc76 => ?_)
          · replace hb47 := ip hb47 hc76
            refine W.skip ?_
            refine W.seq ?_
            refine W.block ?_
            refine W.seq (W.region ?_)
            refine WL.val (Value.func (.func g_together) fst_together cap_together) _ (op_move hf66) rfl ?_
            refine WL.val (Value.int .i64 x42) _ (op_move hf71) rfl ?_
            refine WL.val (Value.int .i64 (k16 : Int)) _ (op_move hf69) rfl ?_
            obtain ⟨x78, hx79, hb47⟩ := bs hb47
            refine WL.call _ (op_callV rfl ok_together (args2 rfl rfl)) (call_together wd64 x42 (k16 : Int) x78 (Ext.trans hE7 hS75.ext) hr58 hr34 hx79) rfl ?_
            rintro _ wd80 ⟨rfl, he81⟩
            have hS83 := St.extend hS75 he81
            refine WL.nil ?_
            show W _ _ _ _ _ _
            obtain ⟨x84, hj85, hb47⟩ := bs hb47
            refine W.cutCode (fun fq wq => fq 1 = (Value.func (.func g_together) fst_together cap_together) ∧ fq 5 = u27 ∧ fq 6 = (Value.int .i64 x18) ∧ fq 7 = (Value.int .i64 (k16 : Int)) ∧ fq 8 = Value.int .i64 x84 ∧ InR .i64 x84 ∧ fq 9 = (Value.int .i64 x42) ∧ fq 13 = (Value.int .i64 ((r_Table).length : Int)) ∧ fq 14 = (Value.int .i64 (k16 : Int)) ∧ St wd2 wq [(Ty.sl (Ty.i .i64)).at u27 x17]) ?_ ?_
            · refine W.cond x78 rfl (fun hc86 => ?_) (fun hc86 => ?_)
              · replace hj85 := ip hj85 hc86
                refine W.region ?_
                refine WL.val u27 _ (op_move hf67) rfl ?_
                refine WL.val (Value.int .i64 x42) _ (op_move hf71) rfl ?_
                obtain ⟨x87, hx90, hj85⟩ := bs hj85
                obtain ⟨ha88, hb89, hx90⟩ := idx_some hx90
                refine WL.val (Value.pointer (some (elA u27 (x42).toNat))) _ (op_idx sl_33 (St.rep (t := (Ty.sl (Ty.i .i64))) hS83 0 rfl) rfl rfl ha88 hb89) rfl ?_
                obtain ⟨u91, hc92, hr93⟩ := repSl.el (St.rep (t := (Ty.sl (Ty.i .i64))) hS83 0 rfl) hx90
                obtain ⟨rfl, hr93⟩ := hr93
                refine WL.val (Value.int .i64 x87) _ (op_load one_2 rfl hc92) rfl ?_
                refine WL.val (Value.int .i64 x87) _ (op_assign rfl) rfl ?_
                refine WL.nil ?_
                obtain rfl := Option.some.inj hj85
                exact ⟨hf66, hf67, hf68, hf69, rfl, hr93, hf71, hf72, hf73, hS83⟩
              · replace hj85 := inegb hj85 hc86
                refine W.skip ?_
                obtain rfl := Option.some.inj hj85
                exact ⟨hf66, hf67, hf68, hf69, hf70, hr56, hf71, hf72, hf73, hS83⟩
            · intro f94 wd95 hq96
              obtain ⟨hf97, hf98, hf99, hf100, hf101, hr102, hf103, hf104, hf105, hS106⟩ := hq96
              show W _ _ _ _ _ _
              refine W.region ?_
              refine WL.val (Value.int .i64 x42) _ (op_move hf103) rfl ?_
              refine WL.val (Value.int .i64 (w64 (x42 + (1 : Int)))) _ (op_add rfl rfl) rfl ?_
              refine WL.val (Value.int .i64 (w64 (x42 + (1 : Int)))) _ (op_assign rfl) rfl ?_
              refine WL.nil ?_
              obtain rfl := Option.some.inj hb47
              show ∃ s, _ = Ctl.next s ∧ _
              exact ⟨_, rfl, hf97, hf98, hf99, hf100, hf101, hr102, rfl, (inR_wrap _ _), hf104, hf105, hS106⟩
          · replace hb47 := inegb hb47 hc76
            refine W.exit ?_
            obtain rfl := Option.some.inj hb47
            show _ = _ ∧ _
            exact ⟨rfl, _, hbrk49 _ rfl, hf66, hf67, hf68, hf70, hr56, hf72, hf73, hS75⟩
      · rintro f108 wd109 ⟨s111, rfl, hq110⟩
        replace hb23 := onRes_fin hb23
        obtain ⟨x112, x113⟩ := s111
        replace hq110 : f108 1 = (Value.func (.func g_together) fst_together cap_together) ∧ f108 5 = u27 ∧ f108 6 = (Value.int .i64 x18) ∧ f108 8 = Value.int .i64 x112 ∧ InR .i64 x112 ∧ f108 13 = (Value.int .i64 ((r_Table).length : Int)) ∧ f108 14 = (Value.int .i64 (k16 : Int)) ∧ St wd2 wd109 [(Ty.sl (Ty.i .i64)).at u27 x17] := hq110
        replace hb23 : (_ : Option _) = _ := hb23
        dsimp only at hb23
        obtain ⟨hf114, hf115, hf116, hf117, hr118, hf119, hf120, hS121⟩ := hq110
        refine W.seq (W.seq (W.region ?_))
        refine WL.val (Value.int .i64 x112) _ (op_move hf117) rfl ?_
        refine WL.val (Value.bool (decide (x112 < (0 : Int)))) _ (op_lss rfl rfl) rfl ?_
        refine WL.nil ?_
        show W _ _ _ _ _ _
        obtain ⟨⟨x122, x123⟩, hj124, hb23⟩ := bs hb23
        refine W.cutCode (fun fq wq => fq 1 = (Value.func (.func g_together) fst_together cap_together) ∧ fq 5 = u27 ∧ fq 6 = Value.int .i64 x122 ∧ InR .i64 x122 ∧ fq 8 = Value.int .i64 x123 ∧ InR .i64 x123 ∧ fq 13 = (Value.int .i64 ((r_Table).length : Int)) ∧ fq 14 = (Value.int .i64 (k16 : Int)) ∧ St wd2 wq [(Ty.sl (Ty.i .i64)).at u27 x17]) ?_ ?_
        · refine W.cond (decide (x112 < (0 : Int))) rfl (fun hc125 => ?_) (fun hc125 => ?_)
          · replace hj124 := ip hj124 hc125
            refine W.seq (W.region ?_)
            refine WL.val (Value.int .i64 x18) _ (op_move hf116) rfl ?_
            refine WL.val (Value.int .i64 x18) _ (op_assign rfl) rfl ?_
            refine WL.nil ?_
            show W _ _ _ _ _ _
            refine W.region ?_
            refine WL.val (Value.int .i64 x18) _ (op_move hf116) rfl ?_
            refine WL.val (Value.int .i64 (w64 (x18 + (1 : Int)))) _ (op_add rfl rfl) rfl ?_
            refine WL.val (Value.int .i64 (w64 (x18 + (1 : Int)))) _ (op_assign rfl) rfl ?_
            refine WL.nil ?_
            simp only [Option.some.injEq, Prod.mk.injEq] at hj124
            obtain ⟨rfl, rfl⟩ := hj124
            exact ⟨hf114, hf115, rfl, (inR_wrap _ _), rfl, hr31, hf119, hf120, hS121⟩
          · replace hj124 := inegb hj124 hc125
            refine W.skip ?_
            simp only [Option.some.injEq, Prod.mk.injEq] at hj124
            obtain ⟨rfl, rfl⟩ := hj124
            exact ⟨hf114, hf115, hf116, hr31, hf117, hr118, hf119, hf120, hS121⟩
        · intro f126 wd127 hq128
          obtain ⟨hf129, hf130, hf131, hr132, hf133, hr134, hf135, hf136, hS137⟩ := hq128
          show W _ _ _ _ _ _
          refine W.region ?_
          refine WL.val u27 _ (op_move hf130) rfl ?_
          refine WL.val (Value.int .i64 x123) _ (op_move hf133) rfl ?_
          refine WL.litFlat (t := (Ty.i .i64)) (flat_i .i64) [(Value.int .i64 x123)] [x123] hS137 sl_33 rfl rfl (fillL rfl ⟨rfl, rfl, rfl, trivial⟩) rfl rfl (litL ⟨⟨rfl, hr134⟩, trivial⟩) rfl ?_
          intro u138 wd139 hS140 he141
          replace hS140 : St wd2 wd139 [(Ty.sl (Ty.i .i64)).at u27 x17, (Ty.sl (Ty.i .i64)).at u138 ([x123] : (List Int))] := hS140
          obtain ⟨x142, hx143, hb23⟩ := bs hb23
          refine WL.append (flat_i .i64) hS140 (k := 0) rfl sl_33 rfl rfl rfl rfl (St.rep (t := (Ty.sl (Ty.i .i64))) hS140 1 rfl) hx143 rfl ?_
          intro u144 wd145 hS146 hz147
          replace hS146 : St wd2 wd145 [(Ty.sl (Ty.i .i64)).at u144 x142, (Ty.sl (Ty.i .i64)).at u138 ([x123] : (List Int))] := hS146
          refine WL.val u144 _ (op_assign rfl) rfl ?_
          refine WL.nil ?_
          show W _ _ _ _ _ _
          refine W.region ?_
          refine WL.val (Value.int .i64 (w64 ((k16 : Int) + (1 : Int)))) _ (op_add hf136 rfl) rfl ?_
          refine WL.val (Value.int .i64 (w64 ((k16 : Int) + (1 : Int)))) _ (op_move rfl) rfl ?_
          refine WL.nil ?_
          obtain rfl := Option.some.inj hb23
          show ∃ s, _ = Ctl.next s ∧ _
          exact ⟨_, rfl, u144, hf129, rfl, hf131, hr132, hf135, (ctr_next hl36 hr13), (ctr_rng hl36 hr13), (St.pick hS146 [0] rfl)⟩
    · intro s154 f150 wd151 hs152 hI153
      obtain ⟨x155, x156⟩ := s154
      replace hI153 : ∃ (uu0 : Value), f150 1 = (Value.func (.func g_together) fst_together cap_together) ∧ f150 5 = uu0 ∧ f150 6 = Value.int .i64 x156 ∧ InR .i64 x156 ∧ f150 13 = (Value.int .i64 ((r_Table).length : Int)) ∧ f150 14 = Value.int .i64 (((r_Table).length : Nat) : Int) ∧ InR .i64 (((r_Table).length : Nat) : Int) ∧ St wd2 wd151 [(Ty.sl (Ty.i .i64)).at uu0 x155] := hI153
      obtain ⟨u157, hf158, hf159, hf160, hr161, hf162, hf163, hr164, hS165⟩ := hI153
      refine W.seq (W.region ?_)
      refine WL.val (Value.bool (decide ((((r_Table).length : Nat) : Int) < ((r_Table).length : Int)))) _ (op_lss hf163 hf162) rfl ?_
      have hl166 : ¬ (((r_Table).length : Nat) : Int) < ((r_Table).length : Int) := by omega
      refine WL.nil ?_
      refine W.seq ?_
      refine W.condF (decide ((((r_Table).length : Nat) : Int) < ((r_Table).length : Int))) rfl (decide_eq_false hl166) ?_
      refine W.exit ?_
      show _ = _ ∧ _
      exact ⟨rfl, _, hs152, u157, hf159, hS165⟩
  · rintro f167 wd168 ⟨s170, rfl, hq169⟩
    replace h := onRes_fin h
    obtain ⟨x171, x172⟩ := s170
    replace hq169 : ∃ (uu0 : Value), f167 5 = uu0 ∧ St wd2 wd168 [(Ty.sl (Ty.i .i64)).at uu0 x171] := hq169
    replace h : (_ : Option _) = _ := h
    dsimp only at h
    obtain ⟨u173, hf174, hS175⟩ := hq169
    refine W.seq (W.region ?_)
    refine WL.val u173 _ (op_move hf174) rfl ?_
    refine WL.val u173 _ (op_assign rfl) rfl ?_
    refine WL.nil ?_
    refine W.ret ?_
    obtain rfl := Option.some.inj h
    show FinP _ _ _ _ _ _ _
    exact FinP.ret _ (res1 rfl rfl) ⟨u173, rfl, (Ext.trans hE7 hS175.ext), (St.out (St.pick hS175 [0] rfl) (hE7))⟩

theorem c_impl_Ring_components {w : World} {r_Table : (List (List (List Int)))} {v_r_Table : Value} (tb : TabAt w) (r_r_Table : (Ty.sl (Ty.sl (Ty.sl (Ty.i .i64)))).rep w v_r_Table r_Table) {res : (List Int)} (h : p_impl_Ring_components r_Table  = some res) :
    Ret Tryd.prog 46 #[(Value.agg #[v_r_Table])] w (fun v w' => ∃ (u0 : Value), v = u0 ∧ Ext w w' ∧ Sep w.heap.size w' [(Ty.sl (Ty.i .i64)).at u0 res]) := by
  unfold p_impl_Ring_components at h
  have hS0 : St w w [] := St.start w
  refine Ret.start (fn := Tryd.f46) Tryd.func46 rfl 15 rfl rfl ?_
  refine W.seq (W.region ?_)
  refine WL.box hS0 rfl (cs := [v_r_Table]) rfl rfl ?_
  intro b1 wd2 hS3 he4 hx5
  replace hS3 : St w wd2 [bx b1 [v_r_Table]] := hS3
  have hx6 := St.boxAt hS3 0 rfl
  have hE7 : Ext w wd2 := hS3.ext
  have hS8 : St wd2 wd2 [] := St.start wd2
  refine WL.val (Value.slice none 0 0) _ (op_assign rfl) rfl ?_
  refine WL.nil ?_
  refine W.seq ?_
  obtain ⟨x26, hx27, h⟩ := bs h
  obtain ⟨x49, hx50, h⟩ := bs h
  obtain ⟨x72, hx73, h⟩ := bs h
  refine W.drawR mixo 9 [] [fun _ v S w' => v = (Value.agg #[v_r_Table]), fun _ v S w' => SepS S w' [(Ty.sl (Ty.sl (Ty.i .i64))).at v x26], fun _ v S w' => v = (Value.agg #[v_r_Table]), fun _ v S w' => SepS S w' [(Ty.sl (Ty.i .i64)).at v x49], fun _ v S w' => v = (Value.agg #[v_r_Table]), fun _ v _ _ => v = (Value.int .i64 x72) ∧ InR .i64 x72, fun _ v S w' => ∃ b : Nat, v = Value.pointer (some ⟨b, 0, none⟩) ∧ SepS S w' [bx b [(Value.slice none 0 0)]], fun _ v S w' => ∃ b : Nat, v = Value.pointer (some ⟨b, 0, none⟩) ∧ SepS S w' [bx b [(Value.slice none 0 0)]], fun _ v S w' => ∃ b : Nat, v = Value.pointer (some ⟨b, 0, none⟩) ∧ SepS S w' [bx b [(Value.int .i64 (0 : Int))]]] (by kernel_rfl) (by kernel_rfl) ⟨pk, ⟨fun _ _ _ _ _ he h => SepS.extend he h, fun _ _ _ _ _ _ h => h⟩, pk, ⟨fun _ _ _ _ _ he h => SepS.extend he h, fun _ _ _ _ _ _ h => h⟩, pk, pk, ⟨fun _ _ _ _ _ he ⟨b, h1, h2⟩ => ⟨b, h1, SepS.extend he h2⟩, fun _ _ _ _ _ _ h => h⟩, ⟨fun _ _ _ _ _ he ⟨b, h1, h2⟩ => ⟨b, h1, SepS.extend he h2⟩, fun _ _ _ _ _ _ h => h⟩, ⟨fun _ _ _ _ _ he ⟨b, h1, h2⟩ => ⟨b, h1, SepS.extend he h2⟩, fun _ _ _ _ _ _ h => h⟩, trivial⟩ ⟨?_, ?_, ?_, ?_, ?_, ?_, ?_, ?_, ?_, trivial⟩ ?_
  · refine ObX.op rfl fun f9 wd10 he11 hout12 hphi13 => ?_
    have hS14 := St.extend hS8 he11
    have e15 : f9 1 = (Value.pointer (some ⟨b1, 0, none⟩)) := (hout12 1 rfl).trans rfl
    exact OpX.val (Value.agg #[v_r_Table]) wd10 rfl (op_loadBox st_26 e15 (BoxAt.lift hS14.ext hx6) rfl rfl) (Ext.refl _) rfl
  · refine ObX.op rfl fun f16 wd17 he18 hout19 hphi20 => ?_
    have hS21 := St.extend hS8 he18
    obtain ⟨S22, hS23, hf24⟩ := hphi20 0 6 _ rfl rfl rfl
    have e25 : f16 6 = (Value.agg #[v_r_Table]) := hf24
    refine OpX.call rfl (op_call fn_47 (args1 e25)) (Ret.mono (c_impl_Ring_supports (Ty.lift _ (Ext.trans hE7 hS21.ext) r_r_Table) hx27) ?_)
    rintro u28 wd29 ⟨_, rfl, he30, hs31⟩
    exact ⟨he30, _, newS _ _, (Sep.new hs31)⟩
  · refine ObX.op rfl fun f32 wd33 he34 hout35 hphi36 => ?_
    have hS37 := St.extend hS8 he34
    have e38 : f32 1 = (Value.pointer (some ⟨b1, 0, none⟩)) := (hout35 1 rfl).trans rfl
    exact OpX.val (Value.agg #[v_r_Table]) wd33 rfl (op_loadBox st_26 e38 (BoxAt.lift hS37.ext hx6) rfl rfl) (Ext.refl _) rfl
  · refine ObX.op rfl fun f39 wd40 he41 hout42 hphi43 => ?_
    have hS44 := St.extend hS8 he41
    obtain ⟨S45, hS46, hf47⟩ := hphi43 2 8 _ rfl rfl rfl
    have e48 : f39 8 = (Value.agg #[v_r_Table]) := hf47
    refine OpX.call rfl (op_call fn_59 (args1 e48)) (Ret.mono (c_impl_Ring_duals (Ty.lift _ (Ext.trans hE7 hS44.ext) r_r_Table) hx50) ?_)
    rintro u51 wd52 ⟨_, rfl, he53, hs54⟩
    exact ⟨he53, _, newS _ _, (Sep.new hs54)⟩
  · refine ObX.op rfl fun f55 wd56 he57 hout58 hphi59 => ?_
    have hS60 := St.extend hS8 he57
    have e61 : f55 1 = (Value.pointer (some ⟨b1, 0, none⟩)) := (hout58 1 rfl).trans rfl
    exact OpX.val (Value.agg #[v_r_Table]) wd56 rfl (op_loadBox st_26 e61 (BoxAt.lift hS60.ext hx6) rfl rfl) (Ext.refl _) rfl
  · refine ObX.op rfl fun f62 wd63 he64 hout65 hphi66 => ?_
    have hS67 := St.extend hS8 he64
    obtain ⟨S68, hS69, hf70⟩ := hphi66 4 10 _ rfl rfl rfl
    have e71 : f62 10 = (Value.agg #[v_r_Table]) := hf70
    refine OpX.call rfl (op_call fn_67 (args1 e71)) (Ret.mono (c_impl_Ring_adjoint (tb.ext (Ext.trans hE7 hS67.ext)) (Ty.lift _ (Ext.trans hE7 hS67.ext) r_r_Table) hx73) ?_)
    rintro _ wd75 ⟨rfl, hr74, he76⟩
    exact ⟨he76, _, noS _ _, ⟨rfl, hr74⟩⟩
  · refine ObX.op rfl fun f78 wd79 he80 hout81 hphi82 => ?_
    exact OpX.valO _ _ rfl (op_alloc (cs := [(Value.slice none 0 0)].toArray) ze_41 rfl) (Ext.alloc _ _) ⟨_, rfl, Sep.new (sep_box _ [(Value.slice none 0 0)] _)⟩
  · refine ObX.op rfl fun f84 wd85 he86 hout87 hphi88 => ?_
    exact OpX.valO _ _ rfl (op_alloc (cs := [(Value.slice none 0 0)].toArray) ze_61 rfl) (Ext.alloc _ _) ⟨_, rfl, Sep.new (sep_box _ [(Value.slice none 0 0)] _)⟩
  · refine ObX.op rfl fun f90 wd91 he92 hout93 hphi94 => ?_
    exact OpX.valO _ _ rfl (op_alloc (cs := [(Value.int .i64 (0 : Int))].toArray) ze_2 rfl) (Ext.alloc _ _) ⟨_, rfl, Sep.new (sep_box _ [(Value.int .i64 (0 : Int))] _)⟩
  · intro f96 wd97 Ss98 he99 hout100 hSn101 hSd102 hphi103
    show WL _ _ _ _ _ _ _
    have e105 : SepS (Ss98 1) wd97 [(Ty.sl (Ty.sl (Ty.i .i64))).at (f96 7) x26] := hphi103 1 7 _ (by decide) rfl rfl
    have e106 : SepS (Ss98 3) wd97 [(Ty.sl (Ty.i .i64)).at (f96 9) x49] := hphi103 3 9 _ (by decide) rfl rfl
    obtain ⟨e107, hr108⟩ := hphi103 5 11 _ (by decide) rfl rfl
    obtain ⟨b110, e109, e109s⟩ : ∃ b : Nat, f96 3 = Value.pointer (some ⟨b, 0, none⟩) ∧ SepS (Ss98 6) wd97 [bx b [(Value.slice none 0 0)]] := hphi103 6 3 _ (by decide) rfl rfl
    obtain ⟨b112, e111, e111s⟩ : ∃ b : Nat, f96 4 = Value.pointer (some ⟨b, 0, none⟩) ∧ SepS (Ss98 7) wd97 [bx b [(Value.slice none 0 0)]] := hphi103 7 4 _ (by decide) rfl rfl
    obtain ⟨b114, e113, e113s⟩ : ∃ b : Nat, f96 5 = Value.pointer (some ⟨b, 0, none⟩) ∧ SepS (Ss98 8) wd97 [bx b [(Value.int .i64 (0 : Int))]] := hphi103 8 5 _ (by decide) rfl rfl
    have e115 : f96 1 = (Value.pointer (some ⟨b1, 0, none⟩)) := (hout100 1 rfl).trans rfl
    have hS116 := St.joinS hS8 he99 hSn101 (SepS.consS hSd102 rfl e109s (SepS.consS hSd102 rfl e111s (SepS.consS hSd102 rfl e113s (SepS.consS hSd102 rfl e105 (SepS.consS hSd102 rfl e106 SepS.nilS)))))
    replace hS116 : St wd2 wd97 [bx b110 [(Value.slice none 0 0)], bx b112 [(Value.slice none 0 0)], bx b114 [(Value.int .i64 (0 : Int))], (Ty.sl (Ty.sl (Ty.i .i64))).at (f96 7) x26, (Ty.sl (Ty.i .i64)).at (f96 9) x49] := hS116
    refine WL.storeBox [(f96 7)] hS116 (k := 0) rfl e109 rfl (us := [(f96 7)]) (cells_rep (St.rep (t := (Ty.sl (Ty.sl (Ty.i .i64)))) hS116 3 rfl)) sz_41 rfl rfl (all_rep (St.rep (t := (Ty.sl (Ty.sl (Ty.i .i64)))) hS116 3 rfl) all_nil) rfl ?_
    intro wd117 hS118
    replace hS118 : St wd2 wd117 [bx b110 [(f96 7)], bx b112 [(Value.slice none 0 0)], bx b114 [(Value.int .i64 (0 : Int))], (Ty.sl (Ty.sl (Ty.i .i64))).at (f96 7) x26, (Ty.sl (Ty.i .i64)).at (f96 9) x49] := hS118
    refine WL.storeBox [(f96 9)] hS118 (k := 1) rfl e111 rfl (us := [(f96 9)]) (cells_rep (St.rep (t := (Ty.sl (Ty.i .i64))) hS118 4 rfl)) sz_61 rfl rfl (all_rep (St.rep (t := (Ty.sl (Ty.i .i64))) hS118 4 rfl) all_nil) rfl ?_
    intro wd119 hS120
    replace hS120 : St wd2 wd119 [bx b110 [(f96 7)], bx b112 [(f96 9)], bx b114 [(Value.int .i64 (0 : Int))], (Ty.sl (Ty.sl (Ty.i .i64))).at (f96 7) x26, (Ty.sl (Ty.i .i64)).at (f96 9) x49] := hS120
    refine WL.storeBox [(Value.int .i64 x72)] hS120 (k := 2) rfl e113 e107 (us := [(Value.int .i64 x72)]) rfl sz_2 rfl rfl (all_cons rfl all_nil) rfl ?_
    intro wd121 hS122
    replace hS122 : St wd2 wd121 [bx b110 [(f96 7)], bx b112 [(f96 9)], bx b114 [(Value.int .i64 x72)], (Ty.sl (Ty.sl (Ty.i .i64))).at (f96 7) x26, (Ty.sl (Ty.i .i64)).at (f96 9) x49] := hS122
    refine WL.nil ?_
    refine W.seq (W.region ?_)
    refine WL.val (Value.agg #[v_r_Table]) _ (op_loadBox st_26 e115 (BoxAt.lift hS122.ext hx6) rfl rfl) rfl ?_
    refine WL.val (Value.func (.func 71) #[] #[(Value.pointer (some ⟨b110, 0, none⟩)), (Value.pointer (some ⟨b112, 0, none⟩)), (Value.pointer (some ⟨b114, 0, none⟩))]) _ (op_makeFunc (va := #[]) (vb := #[(Value.pointer (some ⟨b110, 0, none⟩)), (Value.pointer (some ⟨b112, 0, none⟩)), (Value.pointer (some ⟨b114, 0, none⟩))]) args0 (args3 e109 e111 e113)) rfl ?_
    obtain ⟨x127, hx128, h⟩ := bs h
    refine WL.call _ (op_call fn_70 (args2 rfl rfl)) (c_impl_Ring_classes (Ty.lift _ (Ext.trans hE7 hS122.ext) r_r_Table) (⟨71, #[], #[(Value.pointer (some ⟨b110, 0, none⟩)), (Value.pointer (some ⟨b112, 0, none⟩)), (Value.pointer (some ⟨b114, 0, none⟩))], rfl, fn_71, fun wd123 a0_124 a1_124 r125 he124 ra0_124 ra1_124 hq126 => c_impl_Ring_components_c1 ra0_124 ra1_124 (BoxAt.lift he124 (St.boxAt hS122 0 rfl)) (Ty.lift _ he124 (St.rep (t := (Ty.sl (Ty.sl (Ty.i .i64)))) hS122 3 rfl)) (BoxAt.lift he124 (St.boxAt hS122 1 rfl)) (Ty.lift _ he124 (St.rep (t := (Ty.sl (Ty.i .i64))) hS122 4 rfl)) (BoxAt.lift he124 (St.boxAt hS122 2 rfl)) hr108 hq126⟩) hx128) rfl ?_
    rintro u129 wd130 ⟨_, rfl, he131, hs132⟩
    have hS133 := St.join hS122 he131 hs132
    replace hS133 : St wd2 wd130 [bx b110 [(f96 7)], bx b112 [(f96 9)], bx b114 [(Value.int .i64 x72)], (Ty.sl (Ty.sl (Ty.i .i64))).at (f96 7) x26, (Ty.sl (Ty.i .i64)).at (f96 9) x49, (Ty.sl (Ty.i .i64)).at u129 x127] := hS133
    refine WL.val u129 _ (op_assign rfl) rfl ?_
    refine WL.nil ?_
    refine W.ret ?_
    obtain rfl := Option.some.inj h
    show FinP _ _ _ _ _ _ _
    exact FinP.ret _ (res1 rfl rfl) ⟨u129, rfl, (Ext.trans hE7 hS133.ext), (St.out (St.pick hS133 [5] rfl) (hE7))⟩

theorem c_impl_GradingGroup {w : World} {r_Table : (List (List (List Int)))} {v_r_Table : Value} (tb : TabAt w) (r_r_Table : (Ty.sl (Ty.sl (Ty.sl (Ty.i .i64)))).rep w v_r_Table r_Table) {res : (List (List Int)) × Int} (h : p_impl_GradingGroup r_Table  = some res) :
    Ret Tryd.prog 23 #[(Value.agg #[v_r_Table])] w (fun v w' => ∃ (u0 : Value), v = (Value.tuple #[u0, Value.int .i64 res.2]) ∧ InR .i64 res.2 ∧ Ext w w' ∧ Sep w.heap.size w' [(Ty.sl (Ty.sl (Ty.i .i64))).at u0 res.1]) := by
  unfold p_impl_GradingGroup at h
  have hS0 : St w w [] := St.start w
  refine Ret.start (fn := Tryd.f23) Tryd.func23 rfl 71 rfl rfl ?_
  refine W.seq (W.region ?_)
  refine WL.box hS0 rfl (cs := [v_r_Table]) rfl rfl ?_
  intro b1 wd2 hS3 he4 hx5
  replace hS3 : St w wd2 [bx b1 [v_r_Table]] := hS3
  have hx6 := St.boxAt hS3 0 rfl
  have hE7 : Ext w wd2 := hS3.ext
  have hS8 : St wd2 wd2 [] := St.start wd2
  refine WL.val (Value.slice none 0 0) _ (op_assign rfl) rfl ?_
  refine WL.val (Value.int .i64 (0 : Int)) _ (op_assign rfl) rfl ?_
  refine WL.nil ?_
  refine W.seq (W.seq (W.region ?_))
  refine WL.val (Value.agg #[v_r_Table]) _ (op_loadBox st_26 rfl (BoxAt.lift hS8.ext hx6) rfl rfl) rfl ?_
  obtain ⟨x9, hx10, h⟩ := bs h
  refine WL.call _ (op_call fn_42 (args1 rfl)) (c_impl_IsRing (Ty.lift _ (Ext.trans hE7 hS8.ext) r_r_Table) hx10) rfl ?_
  rintro _ wd11 ⟨rfl, he12⟩
  have hS14 := St.extend hS8 he12
  replace hS14 : St wd2 wd11 [] := hS14
  refine WL.val (Value.bool (!x9)) _ (op_not rfl) rfl ?_
  refine WL.nil ?_
  refine W.cond (!x9) rfl (fun hc15 => ?_) (fun hc15 => ?_)
  · replace h := ip h hc15
    refine W.seq (W.region ?_)
    refine WL.val (Value.slice none 0 0) _ (op_assign rfl) rfl ?_
    refine WL.val (Value.int .i64 (1 : Int)) _ (op_assign rfl) rfl ?_
    refine WL.nil ?_
    refine W.ret ?_
    obtain rfl := Option.some.inj h
    show FinP _ _ _ _ _ _ _
    exact FinP.ret _ (res2 rfl rfl rfl) ⟨(Value.slice none 0 0), rfl, (inL rfl), (Ext.trans hE7 hS14.ext), (St.out (St.pick (St.addNil (Ty.sl (Ty.i .i64)) hS14) [0] rfl) (hE7))⟩
  · replace h := inegb h hc15
    refine W.skip ?_
    refine W.seq ?_
    obtain ⟨x34, hx35, h⟩ := bs h
    refine W.drawR mixo 3 [] [fun _ v S w' => v = (Value.agg #[v_r_Table]), fun _ v S w' => SepS S w' [(Ty.sl (Ty.i .i64)).at v x34], fun _ v S w' => v = (Value.agg #[v_r_Table])] (by kernel_rfl) (by kernel_rfl) ⟨pk, ⟨fun _ _ _ _ _ he h => SepS.extend he h, fun _ _ _ _ _ _ h => h⟩, pk, trivial⟩ ⟨?_, ?_, ?_, trivial⟩ ?_
    · refine ObX.op rfl fun f17 wd18 he19 hout20 hphi21 => ?_
      have hS22 := St.extend hS14 he19
      have e23 : f17 1 = (Value.pointer (some ⟨b1, 0, none⟩)) := (hout20 1 rfl).trans rfl
      exact OpX.val (Value.agg #[v_r_Table]) wd18 rfl (op_loadBox st_26 e23 (BoxAt.lift hS22.ext hx6) rfl rfl) (Ext.refl _) rfl
    · refine ObX.op rfl fun f24 wd25 he26 hout27 hphi28 => ?_
      have hS29 := St.extend hS14 he26
      obtain ⟨S30, hS31, hf32⟩ := hphi28 0 17 _ rfl rfl rfl
      have e33 : f24 17 = (Value.agg #[v_r_Table]) := hf32
      refine OpX.call rfl (op_call fn_46 (args1 e33)) (Ret.mono (c_impl_Ring_components (tb.ext (Ext.trans hE7 hS29.ext)) (Ty.lift _ (Ext.trans hE7 hS29.ext) r_r_Table) hx35) ?_)
      rintro u36 wd37 ⟨_, rfl, he38, hs39⟩
      exact ⟨he38, _, newS _ _, (Sep.new hs39)⟩
    · refine ObX.op rfl fun f40 wd41 he42 hout43 hphi44 => ?_
      have hS45 := St.extend hS14 he42
      have e46 : f40 1 = (Value.pointer (some ⟨b1, 0, none⟩)) := (hout43 1 rfl).trans rfl
      exact OpX.val (Value.agg #[v_r_Table]) wd41 rfl (op_loadBox st_26 e46 (BoxAt.lift hS45.ext hx6) rfl rfl) (Ext.refl _) rfl
    · intro f47 wd48 Ss49 he50 hout51 hSn52 hSd53 hphi54
      show WL _ _ _ _ _ _ _
      have e56 : SepS (Ss49 1) wd48 [(Ty.sl (Ty.i .i64)).at (f47 18) x34] := hphi54 1 18 _ (by decide) rfl rfl
      have e57 : f47 19 = (Value.agg #[v_r_Table]) := hphi54 2 19 _ (by decide) rfl rfl
      have hS58 := St.joinS hS14 he50 hSn52 (SepS.consS hSd53 rfl e56 SepS.nilS)
      replace hS58 : St wd2 wd48 [(Ty.sl (Ty.i .i64)).at (f47 18) x34] := hS58
      have hb59 := St.rep (t := (Ty.sl (Ty.i .i64))) hS58 0 rfl
      have hE60 : Ext w wd48 := (Ext.trans hE7 hS58.ext)
      have hE61 : Ext wd2 wd48 := hS58.ext
      have hS62 : St wd48 wd48 [] := St.start wd48
      obtain ⟨x63, hx64, h⟩ := bs h
      refine WL.call _ (op_call fn_47 (args1 e57)) (c_impl_Ring_supports (Ty.lift _ (Ext.trans hE60 hS62.ext) r_r_Table) hx64) rfl ?_
      rintro u65 wd66 ⟨_, rfl, he67, hs68⟩
      have hS69 := St.join hS62 he67 hs68
      replace hS69 : St wd48 wd66 [(Ty.sl (Ty.sl (Ty.i .i64))).at u65 x63] := hS69
      have hb70 := St.rep (t := (Ty.sl (Ty.sl (Ty.i .i64)))) hS69 0 rfl
      have hE71 : Ext w wd66 := (Ext.trans hE60 hS69.ext)
      have hE72 : Ext wd2 wd66 := (Ext.trans hE61 hS69.ext)
      have hE73 : Ext wd48 wd66 := hS69.ext
      have hS74 : St wd66 wd66 [] := St.start wd66
      refine WL.val (f47 18) _ (op_assign rfl) rfl ?_
      refine WL.val u65 _ (op_assign rfl) rfl ?_
      refine WL.nil ?_
      refine W.seq (W.region ?_)
      refine WL.val (Value.int .i64 (0 : Int)) _ (op_assign rfl) rfl ?_
      refine WL.nil ?_
      refine W.seq (W.seq (W.region ?_))
      refine WL.val (f47 18) _ (op_move rfl) rfl ?_
      have hr75 := inR_len (Ty.lift _ (Ext.trans hE73 hS74.ext) hb59)
      refine WL.val (Value.int .i64 ((x34).length : Int)) _ (op_lenL sl_33 (Ty.lift _ (Ext.trans hE73 hS74.ext) hb59) rfl) rfl ?_
      refine WL.val (Value.int .i64 (0 : Int)) _ (op_move rfl) rfl ?_
      refine WL.nil ?_
      show W _ _ _ _ _ _
      obtain ⟨res76, hres77, h⟩ := bs h
      refine W.blockLoop (fun fq wq => ∃ s, res76 = Res.fin s ∧ fq 4 = (f47 18) ∧ fq 5 = u65 ∧ fq 6 = Value.int .i64 s ∧ InR .i64 s ∧ St wd66 wq []) ?_ ?_
      · refine W.forN (fun k (s : Int) fq wq => fq 4 = (f47 18) ∧ fq 5 = u65 ∧ fq 6 = Value.int .i64 s ∧ InR .i64 s ∧ fq 21 = (f47 18) ∧ fq 22 = (Value.int .i64 ((x34).length : Int)) ∧ fq 23 = Value.int .i64 (k : Int) ∧ InR .i64 (k : Int) ∧ St wd66 wq []) hres77 ⟨rfl, rfl, rfl, (inL rfl), rfl, rfl, rfl, (inL rfl), hS74⟩ ?_ ?_
        · intro k78 x79 ct80 f81 wd82 hk83 hb84 hI85 hbrk86 hret87
          replace hI85 : f81 4 = (f47 18) ∧ f81 5 = u65 ∧ f81 6 = Value.int .i64 x79 ∧ InR .i64 x79 ∧ f81 21 = (f47 18) ∧ f81 22 = (Value.int .i64 ((x34).length : Int)) ∧ f81 23 = Value.int .i64 (k78 : Int) ∧ InR .i64 (k78 : Int) ∧ St wd66 wd82 [] := hI85
          replace hb84 : p_impl_GradingGroup_L1 x34 k78 x79 = some ct80 := hb84
          unfold p_impl_GradingGroup_L1 at hb84
          obtain ⟨hf88, hf89, hf90, hr91, hf92, hf93, hf94, hr95, hS96⟩ := hI85
          refine W.seq (W.region ?_)
          refine WL.val (Value.bool (decide ((k78 : Int) < ((x34).length : Int)))) _ (op_lss hf94 hf93) rfl ?_
          have hl97 : (k78 : Int) < ((x34).length : Int) := by omega
          refine WL.nil ?_
          refine W.seq ?_
          refine W.condT (decide ((k78 : Int) < ((x34).length : Int))) rfl (decide_eq_true hl97) ?_
          refine W.skip ?_
          refine W.seq ?_
          refine W.block ?_
          refine W.seq (W.region ?_)
          obtain ⟨x99, hx102, hb84⟩ := bs hb84
          obtain ⟨ha100, hb101, hx102⟩ := idx_some hx102
          refine WL.val (Value.pointer (some (elA (f47 18) ((k78 : Int)).toNat))) _ (op_idx sl_33 (Ty.lift _ (Ext.trans hE73 hS96.ext) hb59) hf92 hf94 ha100 hb101) rfl ?_
          obtain ⟨u103, hc104, hr105⟩ := repSl.el hb59 hx102
          obtain ⟨rfl, hr105⟩ := hr105
          refine WL.val (Value.int .i64 x99) _ (op_load one_2 rfl (Ext.cell (Ext.trans hE73 hS96.ext) hc104)) rfl ?_
          refine WL.val (Value.int .i64 x99) _ (op_assign rfl) rfl ?_
          refine WL.nil ?_
          show W _ _ _ _ _ _
          refine W.region ?_
          refine WL.val (Value.int .i64 x79) _ (op_move hf90) rfl ?_
          refine WL.val (Value.int .i64 x99) _ (op_move rfl) rfl ?_
          refine WL.val (Value.int .i64 (w64 (x99 + (1 : Int)))) _ (op_add rfl rfl) rfl ?_
          refine WL.val (Value.int .i64 (if (w64 (x99 + (1 : Int))) > x79 then (w64 (x99 + (1 : Int))) else x79)) _ (op_max2 rfl rfl) rfl ?_
          refine WL.val (Value.int .i64 (if (w64 (x99 + (1 : Int))) > x79 then (w64 (x99 + (1 : Int))) else x79)) _ (op_assign rfl) rfl ?_
          refine WL.nil ?_
          show W _ _ _ _ _ _
          refine W.region ?_
          refine WL.val (Value.int .i64 (w64 ((k78 : Int) + (1 : Int)))) _ (op_add hf94 rfl) rfl ?_
          refine WL.val (Value.int .i64 (w64 ((k78 : Int) + (1 : Int)))) _ (op_move rfl) rfl ?_
          refine WL.nil ?_
          obtain rfl := Option.some.inj hb84
          show ∃ s, _ = Ctl.next s ∧ _
          exact ⟨_, rfl, hf88, hf89, rfl, (inR_ite (inR_wrap _ _) hr91), hf92, hf93, (ctr_next hl97 hr75), (ctr_rng hl97 hr75), hS96⟩
        · intro x112 f107 wd108 hs109 hI110
          replace hI110 : f107 4 = (f47 18) ∧ f107 5 = u65 ∧ f107 6 = Value.int .i64 x112 ∧ InR .i64 x112 ∧ f107 21 = (f47 18) ∧ f107 22 = (Value.int .i64 ((x34).length : Int)) ∧ f107 23 = Value.int .i64 (((x34).length : Nat) : Int) ∧ InR .i64 (((x34).length : Nat) : Int) ∧ St wd66 wd108 [] := hI110
          obtain ⟨hf113, hf114, hf115, hr116, hf117, hf118, hf119, hr120, hS121⟩ := hI110
          refine W.seq (W.region ?_)
          refine WL.val (Value.bool (decide ((((x34).length : Nat) : Int) < ((x34).length : Int)))) _ (op_lss hf119 hf118) rfl ?_
          have hl122 : ¬ (((x34).length : Nat) : Int) < ((x34).length : Int) := by omega
          refine WL.nil ?_
          refine W.seq ?_
          refine W.condF (decide ((((x34).length : Nat) : Int) < ((x34).length : Int))) rfl (decide_eq_false hl122) ?_
          refine W.exit ?_
          show _ = _ ∧ _
          exact ⟨rfl, _, hs109, hf113, hf114, hf115, hr116, hS121⟩
      · rintro f123 wd124 ⟨x127, rfl, hq125⟩
        replace h := onRes_fin h
        replace hq125 : f123 4 = (f47 18) ∧ f123 5 = u65 ∧ f123 6 = Value.int .i64 x127 ∧ InR .i64 x127 ∧ St wd66 wd124 [] := hq125
        obtain ⟨hf128, hf129, hf130, hr131, hS132⟩ := hq125
        refine W.seq (W.region ?_)
        refine WL.val (Value.int .i64 x127) _ (op_move hf130) rfl ?_
        refine WL.val (Value.int .i64 x127) _ (op_move hf130) rfl ?_
        obtain ⟨x133, hx134, h⟩ := bs h
        refine WL.call _ (op_call fn_48 (args2 rfl rfl)) (c_impl_zeros hr131 hr131 hx134) rfl ?_
        rintro u135 wd136 ⟨_, rfl, he137, hs138⟩
        have hS139 := St.join hS132 he137 hs138
        replace hS139 : St wd66 wd136 [(Ty.sl (Ty.sl (Ty.i .i64))).at u135 x133] := hS139
        refine WL.val u135 _ (op_assign rfl) rfl ?_
        refine WL.nil ?_
        refine W.seq (W.seq (W.region ?_))
        refine WL.val (f47 18) _ (op_move hf128) rfl ?_
        have hr140 := inR_len (Ty.lift _ (Ext.trans hE73 hS139.ext) hb59)
        refine WL.val (Value.int .i64 ((x34).length : Int)) _ (op_lenL sl_33 (Ty.lift _ (Ext.trans hE73 hS139.ext) hb59) rfl) rfl ?_
        refine WL.val (Value.int .i64 (0 : Int)) _ (op_move rfl) rfl ?_
        refine WL.nil ?_
        show W _ _ _ _ _ _
        obtain ⟨res141, hres142, h⟩ := bs h
        refine W.blockLoop (fun fq wq => ∃ s, res141 = Res.fin s ∧ fq 9 = u135 ∧ St wd66 wq [(Ty.sl (Ty.sl (Ty.i .i64))).at u135 s]) ?_ ?_
        · refine W.forN (fun k (s : (List (List Int))) fq wq => fq 4 = (f47 18) ∧ fq 5 = u65 ∧ fq 9 = u135 ∧ fq 35 = (f47 18) ∧ fq 36 = (Value.int .i64 ((x34).length : Int)) ∧ fq 37 = Value.int .i64 (k : Int) ∧ InR .i64 (k : Int) ∧ St wd66 wq [(Ty.sl (Ty.sl (Ty.i .i64))).at u135 s]) hres142 ⟨hf128, hf129, rfl, rfl, rfl, rfl, (inL rfl), hS139⟩ ?_ ?_
          · intro k143 x144 ct145 f146 wd147 hk148 hb149 hI150 hbrk151 hret152
            replace hI150 : f146 4 = (f47 18) ∧ f146 5 = u65 ∧ f146 9 = u135 ∧ f146 35 = (f47 18) ∧ f146 36 = (Value.int .i64 ((x34).length : Int)) ∧ f146 37 = Value.int .i64 (k143 : Int) ∧ InR .i64 (k143 : Int) ∧ St wd66 wd147 [(Ty.sl (Ty.sl (Ty.i .i64))).at u135 x144] := hI150
            replace hb149 : p_impl_GradingGroup_L2 x34 x63 k143 x144 = some ct145 := hb149
            unfold p_impl_GradingGroup_L2 at hb149
            obtain ⟨hf153, hf154, hf155, hf156, hf157, hf158, hr159, hS160⟩ := hI150
            refine W.seq (W.region ?_)
            refine WL.val (Value.bool (decide ((k143 : Int) < ((x34).length : Int)))) _ (op_lss hf158 hf157) rfl ?_
            have hl161 : (k143 : Int) < ((x34).length : Int) := by omega
            refine WL.nil ?_
            refine W.seq ?_
            refine W.condT (decide ((k143 : Int) < ((x34).length : Int))) rfl (decide_eq_true hl161) ?_
            refine W.skip ?_
            refine W.seq ?_
            refine W.block ?_
            refine W.seq (W.region ?_)
            refine WL.val (Value.int .i64 (k143 : Int)) _ (op_move hf158) rfl ?_
            obtain ⟨x163, hx166, hb149⟩ := bs hb149
            obtain ⟨ha164, hb165, hx166⟩ := idx_some hx166
            refine WL.val (Value.pointer (some (elA (f47 18) ((k143 : Int)).toNat))) _ (op_idx sl_33 (Ty.lift _ (Ext.trans hE73 hS160.ext) hb59) hf156 hf158 ha164 hb165) rfl ?_
            obtain ⟨u167, hc168, hr169⟩ := repSl.el hb59 hx166
            obtain ⟨rfl, hr169⟩ := hr169
            refine WL.val (Value.int .i64 x163) _ (op_load one_2 rfl (Ext.cell (Ext.trans hE73 hS160.ext) hc168)) rfl ?_
            refine WL.val (Value.int .i64 (k143 : Int)) _ (op_assign rfl) rfl ?_
            refine WL.val (Value.int .i64 x163) _ (op_assign rfl) rfl ?_
            refine WL.nil ?_
            refine W.seq (W.region ?_)
            refine WL.val (f47 18) _ (op_move hf153) rfl ?_
            have hr170 := inR_len (Ty.lift _ (Ext.trans hE73 hS160.ext) hb59)
            refine WL.val (Value.int .i64 ((x34).length : Int)) _ (op_lenL sl_33 (Ty.lift _ (Ext.trans hE73 hS160.ext) hb59) rfl) rfl ?_
            refine WL.val (Value.int .i64 (0 : Int)) _ (op_move rfl) rfl ?_
            refine WL.nil ?_
            show W _ _ _ _ _ _
            obtain ⟨res171, hres172, hb149⟩ := bs hb149
            refine W.blockLoop (fun fq wq => ∃ s, res171 = Res.fin s ∧ fq 4 = (f47 18) ∧ fq 5 = u65 ∧ fq 9 = u135 ∧ fq 35 = (f47 18) ∧ fq 36 = (Value.int .i64 ((x34).length : Int)) ∧ fq 37 = (Value.int .i64 (k143 : Int)) ∧ St wd66 wq [(Ty.sl (Ty.sl (Ty.i .i64))).at u135 s]) ?_ ?_
            · refine W.forN (fun k (s : (List (List Int))) fq wq => fq 4 = (f47 18) ∧ fq 5 = u65 ∧ fq 9 = u135 ∧ fq 10 = (Value.int .i64 (k143 : Int)) ∧ fq 11 = (Value.int .i64 x163) ∧ fq 35 = (f47 18) ∧ fq 36 = (Value.int .i64 ((x34).length : Int)) ∧ fq 37 = (Value.int .i64 (k143 : Int)) ∧ fq 42 = (f47 18) ∧ fq 43 = (Value.int .i64 ((x34).length : Int)) ∧ fq 44 = Value.int .i64 (k : Int) ∧ InR .i64 (k : Int) ∧ St wd66 wq [(Ty.sl (Ty.sl (Ty.i .i64))).at u135 s]) hres172 ⟨hf153, hf154, hf155, rfl, rfl, hf156, hf157, hf158, rfl, rfl, rfl, (inL rfl), hS160⟩ ?_ ?_
              · intro k173 x174 ct175 f176 wd177 hk178 hb179 hI180 hbrk181 hret182
                replace hI180 : f176 4 = (f47 18) ∧ f176 5 = u65 ∧ f176 9 = u135 ∧ f176 10 = (Value.int .i64 (k143 : Int)) ∧ f176 11 = (Value.int .i64 x163) ∧ f176 35 = (f47 18) ∧ f176 36 = (Value.int .i64 ((x34).length : Int)) ∧ f176 37 = (Value.int .i64 (k143 : Int)) ∧ f176 42 = (f47 18) ∧ f176 43 = (Value.int .i64 ((x34).length : Int)) ∧ f176 44 = Value.int .i64 (k173 : Int) ∧ InR .i64 (k173 : Int) ∧ St wd66 wd177 [(Ty.sl (Ty.sl (Ty.i .i64))).at u135 x174] := hI180
                replace hb179 : p_impl_GradingGroup_L3 x34 x163 x63 k143 k173 x174 = some ct175 := hb179
                unfold p_impl_GradingGroup_L3 at hb179
                obtain ⟨hf183, hf184, hf185, hf186, hf187, hf188, hf189, hf190, hf191, hf192, hf193, hr194, hS195⟩ := hI180
                refine W.seq (W.region ?_)
                refine WL.val (Value.bool (decide ((k173 : Int) < ((x34).length : Int)))) _ (op_lss hf193 hf192) rfl ?_
                have hl196 : (k173 : Int) < ((x34).length : Int) := by omega
                refine WL.nil ?_
                refine W.seq ?_
                refine W.condT (decide ((k173 : Int) < ((x34).length : Int))) rfl (decide_eq_true hl196) ?_
                refine W.skip ?_
                refine W.seq ?_
                refine W.block ?_
                refine W.seq (W.region ?_)
                refine WL.val (Value.int .i64 (k173 : Int)) _ (op_move hf193) rfl ?_
                obtain ⟨x198, hx201, hb179⟩ := bs hb179
                obtain ⟨ha199, hb200, hx201⟩ := idx_some hx201
                refine WL.val (Value.pointer (some (elA (f47 18) ((k173 : Int)).toNat))) _ (op_idx sl_33 (Ty.lift _ (Ext.trans hE73 hS195.ext) hb59) hf191 hf193 ha199 hb200) rfl ?_
                obtain ⟨u202, hc203, hr204⟩ := repSl.el hb59 hx201
                obtain ⟨rfl, hr204⟩ := hr204
                refine WL.val (Value.int .i64 x198) _ (op_load one_2 rfl (Ext.cell (Ext.trans hE73 hS195.ext) hc203)) rfl ?_
                refine WL.val (Value.int .i64 (k173 : Int)) _ (op_assign rfl) rfl ?_
                refine WL.val (Value.int .i64 x198) _ (op_assign rfl) rfl ?_
                refine WL.nil ?_
                show W _ _ _ _ _ _
                obtain ⟨x234, hx237, hb179⟩ := bs hb179
                obtain ⟨ha235, hb236, hx237⟩ := idx_some hx237
                obtain ⟨u248, hc249, hr250⟩ := repSl.el (St.rep (t := (Ty.sl (Ty.sl (Ty.i .i64)))) hS195 0 rfl) hx237
                obtain ⟨x294, hx297, hb179⟩ := bs hb179
                obtain ⟨ha295, hb296, hx297⟩ := idx_some hx297
                obtain ⟨u308, hc309, hr310⟩ := repSl.el hb70 hx297
                obtain ⟨x333, hx336, hb179⟩ := bs hb179
                obtain ⟨ha334, hb335, hx336⟩ := idx_some hx336
                obtain ⟨u347, hc348, hr349⟩ := repSl.el hr310 hx336
                obtain ⟨rfl, hr349⟩ := hr349
                obtain ⟨x361, hx362, hb179⟩ := bs hb179
                obtain ⟨x377, hx380, hb179⟩ := bs hb179
                obtain ⟨ha378, hb379, hx380⟩ := idx_some hx380
                obtain ⟨x411, hx414, hb179⟩ := bs hb179
                obtain ⟨ha412, hb413, hx414⟩ := idx_some hx414
                obtain ⟨u425, hc426, hr427⟩ := repSl.el hb59 hx414
                obtain ⟨rfl, hr427⟩ := hr427
                refine W.drawR mixo 18 [] [fun _ v _ _ => v = u135, fun _ v _ _ => v = (Value.int .i64 x163) ∧ InR .i64 x163, fun _ v _ _ => v = (Value.pointer (some (elA u135 (x163).toNat))), fun _ v _ _ => v = u248, fun _ v _ _ => v = (Value.int .i64 x198) ∧ InR .i64 x198, fun _ v _ _ => v = (f47 18), fun _ v _ _ => v = u65, fun _ v _ _ => v = (Value.int .i64 (k143 : Int)) ∧ InR .i64 (k143 : Int), fun _ v _ _ => v = (Value.pointer (some (elA u65 ((k143 : Int)).toNat))), fun _ v _ _ => v = u308, fun _ v _ _ => v = (Value.int .i64 (k173 : Int)) ∧ InR .i64 (k173 : Int), fun _ v _ _ => v = (Value.pointer (some (elA u308 ((k173 : Int)).toNat))), fun _ v _ _ => v = (Value.int .i64 x333) ∧ InR .i64 x333, fun _ v S w' => SepS S w' [(Ty.sl (Ty.i .i64)).at v x361], fun _ v _ w' => ∃ u, v = Value.pointer (some (elA u ((0 : Int)).toNat)) ∧ (Ty.sl (Ty.i .i64)).rep w' u x361, fun _ v _ _ => v = (Value.int .i64 x377) ∧ InR .i64 x377, fun _ v _ _ => v = (Value.pointer (some (elA (f47 18) (x377).toNat))), fun _ v _ _ => v = (Value.int .i64 x411) ∧ InR .i64 x411] (by kernel_rfl) (by kernel_rfl) ⟨pk, pk, pk, pk, pk, pk, pk, pk, pk, pk, pk, pk, pk, ⟨fun _ _ _ _ _ he h => SepS.extend he h, fun _ _ _ _ _ _ h => h⟩, ⟨fun _ _ _ _ _ he ⟨u, h1, h2⟩ => ⟨u, h1, Ty.lift _ he h2⟩, fun _ _ _ _ _ _ h => h⟩, pk, pk, pk, trivial⟩ ⟨?_, ?_, ?_, ?_, ?_, ?_, ?_, ?_, ?_, ?_, ?_, ?_, ?_, ?_, ?_, ?_, ?_, ?_, trivial⟩ ?_
                · refine ObX.op rfl fun f205 wd206 he207 hout208 hphi209 => ?_
                  have e211 : f205 9 = u135 := (hout208 9 rfl).trans hf185
                  exact OpX.val u135 wd206 rfl (op_move e211) (Ext.refl _) rfl
                · refine ObX.op rfl fun f212 wd213 he214 hout215 hphi216 => ?_
                  have e218 : f212 11 = (Value.int .i64 x163) := (hout215 11 rfl).trans hf187
                  exact OpX.val (Value.int .i64 x163) wd213 rfl (op_move e218) (Ext.refl _) ⟨rfl, hr169⟩
                · refine ObX.op rfl fun f219 wd220 he221 hout222 hphi223 => ?_
                  have hS224 := St.extend hS195 he221
                  obtain ⟨S225, hS226, hf227⟩ := hphi223 0 49 _ rfl rfl rfl
                  have e228 : f219 49 = u135 := hf227
                  obtain ⟨S229, hS230, hf231⟩ := hphi223 1 50 _ rfl rfl rfl
                  obtain ⟨e232, hr233⟩ := hf231
                  exact OpX.val (Value.pointer (some (elA u135 (x163).toNat))) wd220 rfl (op_idx sl_41 (St.rep (t := (Ty.sl (Ty.sl (Ty.i .i64)))) hS224 0 rfl) e228 e232 ha235 hb236) (Ext.refl _) rfl
                · refine ObX.op rfl fun f238 wd239 he240 hout241 hphi242 => ?_
                  obtain ⟨S244, hS245, hf246⟩ := hphi242 2 51 _ rfl rfl rfl
                  have e247 : f238 51 = (Value.pointer (some (elA u135 (x163).toNat))) := hf246
                  exact OpX.val u248 wd239 rfl (op_load one_33 e247 (Ext.cell he240 hc249)) (Ext.refl _) rfl
                · refine ObX.op rfl fun f251 wd252 he253 hout254 hphi255 => ?_
                  have e257 : f251 13 = (Value.int .i64 x198) := (hout254 13 rfl).trans rfl
                  exact OpX.val (Value.int .i64 x198) wd252 rfl (op_move e257) (Ext.refl _) ⟨rfl, hr204⟩
                · refine ObX.op rfl fun f258 wd259 he260 hout261 hphi262 => ?_
                  have e264 : f258 4 = (f47 18) := (hout261 4 rfl).trans hf183
                  exact OpX.val (f47 18) wd259 rfl (op_move e264) (Ext.refl _) rfl
                · refine ObX.op rfl fun f265 wd266 he267 hout268 hphi269 => ?_
                  have e271 : f265 5 = u65 := (hout268 5 rfl).trans hf184
                  exact OpX.val u65 wd266 rfl (op_move e271) (Ext.refl _) rfl
                · refine ObX.op rfl fun f272 wd273 he274 hout275 hphi276 => ?_
                  have e278 : f272 10 = (Value.int .i64 (k143 : Int)) := (hout275 10 rfl).trans hf186
                  exact OpX.val (Value.int .i64 (k143 : Int)) wd273 rfl (op_move e278) (Ext.refl _) ⟨rfl, hr159⟩
                · refine ObX.op rfl fun f279 wd280 he281 hout282 hphi283 => ?_
                  have hS284 := St.extend hS195 he281
                  obtain ⟨S285, hS286, hf287⟩ := hphi283 6 55 _ rfl rfl rfl
                  have e288 : f279 55 = u65 := hf287
                  obtain ⟨S289, hS290, hf291⟩ := hphi283 7 56 _ rfl rfl rfl
                  obtain ⟨e292, hr293⟩ := hf291
                  exact OpX.val (Value.pointer (some (elA u65 ((k143 : Int)).toNat))) wd280 rfl (op_idx sl_41 (Ty.lift _ hS284.ext hb70) e288 e292 ha295 hb296) (Ext.refl _) rfl
                · refine ObX.op rfl fun f298 wd299 he300 hout301 hphi302 => ?_
                  have hS303 := St.extend hS195 he300
                  obtain ⟨S304, hS305, hf306⟩ := hphi302 8 57 _ rfl rfl rfl
                  have e307 : f298 57 = (Value.pointer (some (elA u65 ((k143 : Int)).toNat))) := hf306
                  exact OpX.val u308 wd299 rfl (op_load one_33 e307 (Ext.cell hS303.ext hc309)) (Ext.refl _) rfl
                · refine ObX.op rfl fun f311 wd312 he313 hout314 hphi315 => ?_
                  have e317 : f311 12 = (Value.int .i64 (k173 : Int)) := (hout314 12 rfl).trans rfl
                  exact OpX.val (Value.int .i64 (k173 : Int)) wd312 rfl (op_move e317) (Ext.refl _) ⟨rfl, hr194⟩
                · refine ObX.op rfl fun f318 wd319 he320 hout321 hphi322 => ?_
                  have hS323 := St.extend hS195 he320
                  obtain ⟨S324, hS325, hf326⟩ := hphi322 9 58 _ rfl rfl rfl
                  have e327 : f318 58 = u308 := hf326
                  obtain ⟨S328, hS329, hf330⟩ := hphi322 10 59 _ rfl rfl rfl
                  obtain ⟨e331, hr332⟩ := hf330
                  exact OpX.val (Value.pointer (some (elA u308 ((k173 : Int)).toNat))) wd319 rfl (op_idx sl_33 (Ty.lift _ hS323.ext hr310) e327 e331 ha334 hb335) (Ext.refl _) rfl
                · refine ObX.op rfl fun f337 wd338 he339 hout340 hphi341 => ?_
                  have hS342 := St.extend hS195 he339
                  obtain ⟨S343, hS344, hf345⟩ := hphi341 11 60 _ rfl rfl rfl
                  have e346 : f337 60 = (Value.pointer (some (elA u308 ((k173 : Int)).toNat))) := hf345
                  exact OpX.val (Value.int .i64 x333) wd338 rfl (op_load one_2 e346 (Ext.cell hS342.ext hc348)) (Ext.refl _) ⟨rfl, hr349⟩
                · refine ObX.op rfl fun f350 wd351 he352 hout353 hphi354 => ?_
                  have hS355 := St.extend hS195 he352
                  obtain ⟨S356, hS357, hf358⟩ := hphi354 12 61 _ rfl rfl rfl
                  obtain ⟨e359, hr360⟩ := hf358
                  refine OpX.call rfl (op_call fn_49 (args1 e359)) (Ret.mono (c_impl_labelsIn (tb.ext (Ext.trans hE71 hS355.ext)) hr360 hx362) ?_)
                  rintro u363 wd364 ⟨_, rfl, he365, hs366⟩
                  exact ⟨he365, _, newS _ _, (Sep.new hs366)⟩
                · refine ObX.op rfl fun f367 wd368 he369 hout370 hphi371 => ?_
                  obtain ⟨S373, hS374, hf375⟩ := hphi371 13 62 _ rfl rfl rfl
                  have e376 : SepS S373 wd368 [(Ty.sl (Ty.i .i64)).at (f367 62) x361] := hf375
                  exact OpX.val (Value.pointer (some (elA (f367 62) ((0 : Int)).toNat))) wd368 rfl (op_idx sl_61 (SepS.rep (t := (Ty.sl (Ty.i .i64))) e376 0 rfl) rfl rfl ha378 hb379) (Ext.refl _) ⟨_, rfl, (SepS.rep (t := (Ty.sl (Ty.i .i64))) e376 0 rfl)⟩
                · refine ObX.op rfl fun f381 wd382 he383 hout384 hphi385 => ?_
                  obtain ⟨S387, hS388, hf389⟩ := hphi385 14 63 _ rfl rfl rfl
                  obtain ⟨u391, e390, hr392⟩ : ∃ u, f381 63 = Value.pointer (some (elA u ((0 : Int)).toNat)) ∧ (Ty.sl (Ty.i .i64)).rep wd382 u x361 := hf389
                  obtain ⟨u393, hc394, hr395⟩ := repSl.el hr392 hx380
                  obtain ⟨rfl, hr395⟩ := hr395
                  exact OpX.val (Value.int .i64 x377) wd382 rfl (op_load one_3 e390 hc394) (Ext.refl _) ⟨rfl, hr395⟩
                · refine ObX.op rfl fun f396 wd397 he398 hout399 hphi400 => ?_
                  have hS401 := St.extend hS195 he398
                  obtain ⟨S402, hS403, hf404⟩ := hphi400 5 54 _ rfl rfl rfl
                  have e405 : f396 54 = (f47 18) := hf404
                  obtain ⟨S406, hS407, hf408⟩ := hphi400 15 64 _ rfl rfl rfl
                  obtain ⟨e409, hr410⟩ := hf408
                  exact OpX.val (Value.pointer (some (elA (f47 18) (x377).toNat))) wd397 rfl (op_idx sl_33 (Ty.lift _ (Ext.trans hE73 hS401.ext) hb59) e405 e409 ha412 hb413) (Ext.refl _) rfl
                · refine ObX.op rfl fun f415 wd416 he417 hout418 hphi419 => ?_
                  have hS420 := St.extend hS195 he417
                  obtain ⟨S421, hS422, hf423⟩ := hphi419 16 65 _ rfl rfl rfl
                  have e424 : f415 65 = (Value.pointer (some (elA (f47 18) (x377).toNat))) := hf423
                  exact OpX.val (Value.int .i64 x411) wd416 rfl (op_load one_2 e424 (Ext.cell (Ext.trans hE73 hS420.ext) hc426)) (Ext.refl _) ⟨rfl, hr427⟩
                · intro f428 wd429 Ss430 he431 hout432 hSn433 hSd434 hphi435
                  show WL _ _ _ _ _ _ _
                  have hS436 := St.extend hS195 he431
                  have e437 : f428 52 = u248 := hphi435 3 52 _ (by decide) rfl rfl
                  obtain ⟨e438, hr439⟩ := hphi435 4 53 _ (by decide) rfl rfl
                  obtain ⟨e440, hr441⟩ := hphi435 17 66 _ (by decide) rfl rfl
                  have e442 : f428 4 = (f47 18) := (hout432 4 rfl).trans hf183
                  have e443 : f428 5 = u65 := (hout432 5 rfl).trans hf184
                  have e444 : f428 9 = u135 := (hout432 9 rfl).trans hf185
                  have e445 : f428 10 = (Value.int .i64 (k143 : Int)) := (hout432 10 rfl).trans hf186
                  have e446 : f428 11 = (Value.int .i64 x163) := (hout432 11 rfl).trans hf187
                  have e447 : f428 35 = (f47 18) := (hout432 35 rfl).trans hf188
                  have e448 : f428 36 = (Value.int .i64 ((x34).length : Int)) := (hout432 36 rfl).trans hf189
                  have e449 : f428 37 = (Value.int .i64 (k143 : Int)) := (hout432 37 rfl).trans hf190
                  have e450 : f428 42 = (f47 18) := (hout432 42 rfl).trans hf191
                  have e451 : f428 43 = (Value.int .i64 ((x34).length : Int)) := (hout432 43 rfl).trans hf192
                  have e452 : f428 44 = (Value.int .i64 (k173 : Int)) := (hout432 44 rfl).trans hf193
                  obtain ⟨x453, hx456, hb179⟩ := bs hb179
                  obtain ⟨ha454, hb455, hx456⟩ := idx_some hx456
                  refine WL.val (Value.pointer (some (elA u248 (x198).toNat))) _ (op_idx sl_33 (Ty.lift _ he431 hr250) e437 e438 ha454 hb455) rfl ?_
                  refine WL.storeEl2 (flat_i .i64) hS436 (k := 0) rfl sz_2 hx237 (Ext.cell he431 hc249) rfl e440 (lt_of_idx ha454 hb455) ⟨rfl, hr441⟩ ?_
                  intro wd457 hS458
                  replace hS458 : St wd66 wd457 [(Ty.sl (Ty.sl (Ty.i .i64))).at u135 ((x174).set (x163).toNat ((x234).set (x198).toNat x411))] := hS458
                  refine WL.nil ?_
                  show W _ _ _ _ _ _
                  refine W.region ?_
                  refine WL.val (Value.int .i64 (w64 ((k173 : Int) + (1 : Int)))) _ (op_add e452 rfl) rfl ?_
                  refine WL.val (Value.int .i64 (w64 ((k173 : Int) + (1 : Int)))) _ (op_move rfl) rfl ?_
                  refine WL.nil ?_
                  obtain rfl := Option.some.inj hb179
                  show ∃ s, _ = Ctl.next s ∧ _
                  exact ⟨_, rfl, e442, e443, e444, e445, e446, e447, e448, e449, e450, e451, (ctr_next hl196 hr170), (ctr_rng hl196 hr170), hS458⟩
              · intro x465 f460 wd461 hs462 hI463
                replace hI463 : f460 4 = (f47 18) ∧ f460 5 = u65 ∧ f460 9 = u135 ∧ f460 10 = (Value.int .i64 (k143 : Int)) ∧ f460 11 = (Value.int .i64 x163) ∧ f460 35 = (f47 18) ∧ f460 36 = (Value.int .i64 ((x34).length : Int)) ∧ f460 37 = (Value.int .i64 (k143 : Int)) ∧ f460 42 = (f47 18) ∧ f460 43 = (Value.int .i64 ((x34).length : Int)) ∧ f460 44 = Value.int .i64 (((x34).length : Nat) : Int) ∧ InR .i64 (((x34).length : Nat) : Int) ∧ St wd66 wd461 [(Ty.sl (Ty.sl (Ty.i .i64))).at u135 x465] := hI463
                obtain ⟨hf466, hf467, hf468, hf469, hf470, hf471, hf472, hf473, hf474, hf475, hf476, hr477, hS478⟩ := hI463
                refine W.seq (W.region ?_)
                refine WL.val (Value.bool (decide ((((x34).length : Nat) : Int) < ((x34).length : Int)))) _ (op_lss hf476 hf475) rfl ?_
                have hl479 : ¬ (((x34).length : Nat) : Int) < ((x34).length : Int) := by omega
                refine WL.nil ?_
                refine W.seq ?_
                refine W.condF (decide ((((x34).length : Nat) : Int) < ((x34).length : Int))) rfl (decide_eq_false hl479) ?_
                refine W.exit ?_
                show _ = _ ∧ _
                exact ⟨rfl, _, hs462, hf466, hf467, hf468, hf471, hf472, hf473, hS478⟩
            · rintro f480 wd481 ⟨x484, rfl, hq482⟩
              replace hb149 := onRes_fin hb149
              replace hq482 : f480 4 = (f47 18) ∧ f480 5 = u65 ∧ f480 9 = u135 ∧ f480 35 = (f47 18) ∧ f480 36 = (Value.int .i64 ((x34).length : Int)) ∧ f480 37 = (Value.int .i64 (k143 : Int)) ∧ St wd66 wd481 [(Ty.sl (Ty.sl (Ty.i .i64))).at u135 x484] := hq482
              obtain ⟨hf485, hf486, hf487, hf488, hf489, hf490, hS491⟩ := hq482
              show W _ _ _ _ _ _
              refine W.region ?_
              refine WL.val (Value.int .i64 (w64 ((k143 : Int) + (1 : Int)))) _ (op_add hf490 rfl) rfl ?_
              refine WL.val (Value.int .i64 (w64 ((k143 : Int) + (1 : Int)))) _ (op_move rfl) rfl ?_
              refine WL.nil ?_
              obtain rfl := Option.some.inj hb149
              show ∃ s, _ = Ctl.next s ∧ _
              exact ⟨_, rfl, hf485, hf486, hf487, hf488, hf489, (ctr_next hl161 hr140), (ctr_rng hl161 hr140), hS491⟩
          · intro x499 f494 wd495 hs496 hI497
            replace hI497 : f494 4 = (f47 18) ∧ f494 5 = u65 ∧ f494 9 = u135 ∧ f494 35 = (f47 18) ∧ f494 36 = (Value.int .i64 ((x34).length : Int)) ∧ f494 37 = Value.int .i64 (((x34).length : Nat) : Int) ∧ InR .i64 (((x34).length : Nat) : Int) ∧ St wd66 wd495 [(Ty.sl (Ty.sl (Ty.i .i64))).at u135 x499] := hI497
            obtain ⟨hf500, hf501, hf502, hf503, hf504, hf505, hr506, hS507⟩ := hI497
            refine W.seq (W.region ?_)
            refine WL.val (Value.bool (decide ((((x34).length : Nat) : Int) < ((x34).length : Int)))) _ (op_lss hf505 hf504) rfl ?_
            have hl508 : ¬ (((x34).length : Nat) : Int) < ((x34).length : Int) := by omega
            refine WL.nil ?_
            refine W.seq ?_
            refine W.condF (decide ((((x34).length : Nat) : Int) < ((x34).length : Int))) rfl (decide_eq_false hl508) ?_
            refine W.exit ?_
            show _ = _ ∧ _
            exact ⟨rfl, _, hs496, hf502, hS507⟩
        · rintro f509 wd510 ⟨x513, rfl, hq511⟩
          replace h := onRes_fin h
          replace hq511 : f509 9 = u135 ∧ St wd66 wd510 [(Ty.sl (Ty.sl (Ty.i .i64))).at u135 x513] := hq511
          obtain ⟨hf514, hS515⟩ := hq511
          refine W.seq (W.region ?_)
          refine WL.val u135 _ (op_move hf514) rfl ?_
          refine WL.val u135 _ (op_assign rfl) rfl ?_
          refine WL.val (Value.int .i64 (0 : Int)) _ (op_assign rfl) rfl ?_
          refine WL.nil ?_
          refine W.ret ?_
          obtain rfl := Option.some.inj h
          show FinP _ _ _ _ _ _ _
          exact FinP.ret _ (res2 rfl rfl rfl) ⟨u135, rfl, (inL rfl), (Ext.trans hE71 hS515.ext), (St.out (St.pick hS515 [0] rfl) (hE71))⟩

theorem c_laws_FnExactGradingGroup {w : World} {aR_Table : (List (List (List Int)))} {v_aR_Table : Value} (tb : TabAt w) (r_aR_Table : (Ty.sl (Ty.sl (Ty.sl (Ty.i .i64)))).rep w v_aR_Table aR_Table) {res : Bool} (h : p_laws_FnExactGradingGroup aR_Table  = some res) :
    Ret Tryd.prog 6 #[(Value.agg #[v_aR_Table])] w (fun v w' => v = Value.bool res ∧ Ext w w') := by
  unfold p_laws_FnExactGradingGroup at h
  have hS0 : St w w [] := St.start w
  refine Ret.start (fn := Tryd.f6) Tryd.func6 rfl 96 rfl rfl ?_
  refine W.seq (W.region ?_)
  refine WL.box hS0 rfl (cs := [v_aR_Table]) rfl rfl ?_
  intro b1 wd2 hS3 he4 hx5
  replace hS3 : St w wd2 [bx b1 [v_aR_Table]] := hS3
  have hx6 := St.boxAt hS3 0 rfl
  have hE7 : Ext w wd2 := hS3.ext
  have hS8 : St wd2 wd2 [] := St.start wd2
  refine WL.val (Value.bool false) _ (op_assign rfl) rfl ?_
  refine WL.nil ?_
  refine W.seq (W.region ?_)
  refine WL.val (Value.int .i64 (1048576 : Int)) _ (op_assign rfl) rfl ?_
  refine WL.nil ?_
  refine W.seq (W.region ?_)
  refine WL.val (Value.agg #[v_aR_Table]) _ (op_loadBox st_24 rfl (BoxAt.lift hS8.ext hx6) rfl rfl) rfl ?_
  refine WL.val (Value.int .i64 (1048576 : Int)) _ (op_move rfl) rfl ?_
  obtain ⟨x9, hx10, h⟩ := bs h
  refine WL.call _ (op_call fn_8 (args2 rfl rfl)) (c_laws_szRing (Ty.lift _ (Ext.trans hE7 hS8.ext) r_aR_Table) (inL rfl) hx10) rfl ?_
  rintro _ wd12 ⟨rfl, hr11, he13⟩
  have hS15 := St.extend hS8 he13
  replace hS15 : St wd2 wd12 [] := hS15
  refine WL.val (Value.int .i64 x9) _ (op_assign rfl) rfl ?_
  refine WL.nil ?_
  refine W.seq (W.seq (W.region ?_))
  refine WL.val (Value.int .i64 x9) _ (op_move rfl) rfl ?_
  refine WL.val (Value.bool (decide (x9 < (0 : Int)))) _ (op_lss rfl rfl) rfl ?_
  refine WL.nil ?_
  refine W.cond (decide (x9 < (0 : Int))) rfl (fun hc16 => ?_) (fun hc16 => ?_)
  · replace h := ip h hc16
    refine W.seq (W.region ?_)
    refine WL.val (Value.bool true) _ (op_assign rfl) rfl ?_
    refine WL.nil ?_
    refine W.ret ?_
    obtain rfl := Option.some.inj h
    show FinP _ _ _ _ _ _ _
    exact FinP.ret _ (res1 rfl rfl) ⟨rfl, (Ext.trans hE7 hS15.ext)⟩
  · replace h := inegb h hc16
    refine W.skip ?_
    refine W.seq (W.region ?_)
    refine WL.val (Value.agg #[v_aR_Table]) _ (op_loadBox st_24 rfl (BoxAt.lift hS15.ext hx6) rfl rfl) rfl ?_
    obtain ⟨x18, hx19, h⟩ := bs h
    refine WL.call _ (op_call fn_10 (args1 rfl)) (c_laws_toRing (Ty.lift _ (Ext.trans hE7 hS15.ext) r_aR_Table) hx19) rfl ?_
    rintro _ wd21 ⟨u20, rfl, he22, hs23⟩
    have hS24 := St.join hS15 he22 hs23
    replace hS24 : St wd2 wd21 [(Ty.sl (Ty.sl (Ty.sl (Ty.i .i64)))).at u20 x18] := hS24
    have hb25 := St.rep (t := (Ty.sl (Ty.sl (Ty.sl (Ty.i .i64))))) hS24 0 rfl
    have hE26 : Ext w wd21 := (Ext.trans hE7 hS24.ext)
    have hE27 : Ext wd2 wd21 := hS24.ext
    have hS28 : St wd21 wd21 [] := St.start wd21
    obtain ⟨x29, hx30, h⟩ := bs h
    refine WL.call _ (op_call fn_22 (args1 rfl)) (c_spec_GradingGroup (Ty.lift _ hS28.ext hb25) hx30) rfl ?_
    rintro _ wd33 ⟨u31, rfl, hr32, he34, hs35⟩
    have hS36 := St.join hS28 he34 hs35
    replace hS36 : St wd21 wd33 [(Ty.sl (Ty.sl (Ty.i .i64))).at u31 x29.1] := hS36
    have hb37 := St.rep (t := (Ty.sl (Ty.sl (Ty.i .i64)))) hS36 0 rfl
    have hE38 : Ext w wd33 := (Ext.trans hE26 hS36.ext)
    have hE39 : Ext wd2 wd33 := (Ext.trans hE27 hS36.ext)
    have hE40 : Ext wd21 wd33 := hS36.ext
    have hS41 : St wd33 wd33 [] := St.start wd33
    refine WL.val (Value.tuple #[u31, (Value.int .i64 x29.2)]) _ (op_move rfl) rfl ?_
    refine WL.val u31 _ (op_extract rfl rfl) rfl ?_
    refine WL.val (Value.int .i64 x29.2) _ (op_extract rfl rfl) rfl ?_
    refine WL.val u31 _ (op_assign rfl) rfl ?_
    refine WL.val (Value.int .i64 x29.2) _ (op_assign rfl) rfl ?_
    refine WL.nil ?_
    refine W.seq (W.region ?_)
    refine WL.val (Value.agg #[v_aR_Table]) _ (op_loadBox st_24 rfl (BoxAt.lift (Ext.trans hE39 hS41.ext) hx6) rfl rfl) rfl ?_
    obtain ⟨x42, hx43, h⟩ := bs h
    refine WL.call _ (op_call fn_10 (args1 rfl)) (c_laws_toRing (Ty.lift _ (Ext.trans hE38 hS41.ext) r_aR_Table) hx43) rfl ?_
    rintro _ wd45 ⟨u44, rfl, he46, hs47⟩
    have hS48 := St.join hS41 he46 hs47
    replace hS48 : St wd33 wd45 [(Ty.sl (Ty.sl (Ty.sl (Ty.i .i64)))).at u44 x42] := hS48
    refine WL.alloc hS48 ze_26 (cs := [(Value.slice none 0 0)]) rfl rfl ?_
    intro b49 wd50 hS51 he52
    replace hS51 : St wd33 wd50 [(Ty.sl (Ty.sl (Ty.sl (Ty.i .i64)))).at u44 x42, bx b49 [(Value.slice none 0 0)]] := hS51
    refine WL.storeBox [u44] hS51 (k := 1) rfl rfl rfl (us := [u44]) rfl sz_26 rfl rfl (all_rep (St.rep (t := (Ty.sl (Ty.sl (Ty.sl (Ty.i .i64))))) hS51 0 rfl) all_nil) rfl ?_
    intro wd53 hS54
    replace hS54 : St wd33 wd53 [(Ty.sl (Ty.sl (Ty.sl (Ty.i .i64)))).at u44 x42, bx b49 [u44]] := hS54
    refine WL.nil ?_
    refine W.seq (W.region ?_)
    refine WL.val (Value.agg #[u44]) _ (op_loadBox st_26 rfl (St.boxAt hS54 1 rfl) rfl rfl) rfl ?_
    obtain ⟨x55, hx56, h⟩ := bs h
    refine WL.call _ (op_call fn_23 (args1 rfl)) (c_impl_GradingGroup (tb.ext (Ext.trans hE38 hS54.ext)) (St.rep (t := (Ty.sl (Ty.sl (Ty.sl (Ty.i .i64))))) hS54 0 rfl) hx56) rfl ?_
    rintro _ wd59 ⟨u57, rfl, hr58, he60, hs61⟩
    have hS62 := St.join hS54 he60 hs61
    replace hS62 : St wd33 wd59 [(Ty.sl (Ty.sl (Ty.sl (Ty.i .i64)))).at u44 x42, bx b49 [u44], (Ty.sl (Ty.sl (Ty.i .i64))).at u57 x55.1] := hS62
    refine WL.val (Value.tuple #[u57, (Value.int .i64 x55.2)]) _ (op_move rfl) rfl ?_
    refine WL.val u57 _ (op_extract rfl rfl) rfl ?_
    refine WL.val (Value.int .i64 x55.2) _ (op_extract rfl rfl) rfl ?_
    refine WL.val u57 _ (op_assign rfl) rfl ?_
    refine WL.val (Value.int .i64 x55.2) _ (op_assign rfl) rfl ?_
    refine WL.nil ?_
    refine W.seq (W.seq (W.region ?_))
    refine WL.val u57 _ (op_move rfl) rfl ?_
    refine WL.val u31 _ (op_move rfl) rfl ?_
    obtain ⟨x63, hx64, h⟩ := bs h
    refine WL.call _ (op_call fn_24 (args2 rfl rfl)) (c_laws_eqInt64SS (St.rep (t := (Ty.sl (Ty.sl (Ty.i .i64)))) hS62 2 rfl) (Ty.lift _ hS62.ext hb37) hx64) rfl ?_
    rintro _ wd65 ⟨rfl, he66⟩
    have hS68 := St.extend hS62 he66
    replace hS68 : St wd33 wd65 [(Ty.sl (Ty.sl (Ty.sl (Ty.i .i64)))).at u44 x42, bx b49 [u44], (Ty.sl (Ty.sl (Ty.i .i64))).at u57 x55.1] := hS68
    refine WL.val (Value.bool (!x63)) _ (op_not rfl) rfl ?_
    refine WL.val (Value.bool (!x63)) _ (op_move rfl) rfl ?_
    refine WL.cut 4 (fun fq wq => fq 1 = (Value.pointer (some ⟨b1, 0, none⟩)) ∧ fq 4 = u31 ∧ fq 5 = (Value.int .i64 x29.2) ∧ fq 6 = (Value.pointer (some ⟨b49, 0, none⟩)) ∧ fq 7 = u57 ∧ fq 8 = (Value.int .i64 x55.2) ∧ fq 40 = (Value.bool ((!x63) || (x55.2 != x29.2))) ∧ St wd33 wq [(Ty.sl (Ty.sl (Ty.sl (Ty.i .i64)))).at u44 x42, bx b49 [u44], (Ty.sl (Ty.sl (Ty.i .i64))).at u57 x55.1]) ?_ ?_
    · rcases Bool.eq_false_or_eq_true (!x63) with hc69 | hc69
      · refine WL.gskip rfl (bool_of rfl hc69) rfl ?_
        refine WL.gskip rfl (bool_of rfl hc69) rfl ?_
        refine WL.gskip rfl (bool_of rfl hc69) rfl ?_
        refine WL.val (Value.bool true) _ (op_pick_t (evb_of rfl hc69) rfl) rfl ?_
        refine WL.nil ?_
        exact ⟨rfl, rfl, rfl, rfl, rfl, rfl, rfl, (orT hc69), hS68⟩
      · refine WL.grun rfl (bool_of rfl hc69) ?_
        refine WL.val (Value.int .i64 x55.2) _ (op_move rfl) rfl ?_
        refine WL.grun rfl (bool_of rfl hc69) ?_
        refine WL.val (Value.int .i64 x29.2) _ (op_move rfl) rfl ?_
        refine WL.grun rfl (bool_of rfl hc69) ?_
        refine WL.val (Value.bool (x55.2 != x29.2)) _ (op_neq rfl rfl) rfl ?_
        refine WL.val (Value.bool (x55.2 != x29.2)) _ (op_pick_f (evb_of rfl hc69) rfl) rfl ?_
        refine WL.nil ?_
        exact ⟨rfl, rfl, rfl, rfl, rfl, rfl, rfl, (orF hc69), hS68⟩
    · intro f70 wd71 hq72
      obtain ⟨hf73, hf74, hf75, hf76, hf77, hf78, hf79, hS80⟩ := hq72
      refine WL.nil ?_
      refine W.cond ((!x63) || (x55.2 != x29.2)) hf79 (fun hc81 => ?_) (fun hc81 => ?_)
      · replace h := ip h hc81
        refine W.seq (W.region ?_)
        refine WL.val (Value.bool false) _ (op_assign rfl) rfl ?_
        refine WL.nil ?_
        refine W.ret ?_
        obtain rfl := Option.some.inj h
        show FinP _ _ _ _ _ _ _
        exact FinP.ret _ (res1 rfl rfl) ⟨rfl, (Ext.trans hE38 hS80.ext)⟩
      · replace h := inegb h hc81
        refine W.skip ?_
        refine W.seq (W.seq ?_)
        obtain ⟨x107, hx108, h⟩ := bs h
        refine W.drawR mixo 3 [] [fun _ v S w' => v = (Value.agg #[u44]), fun _ v S w' => v = (Value.agg #[v_aR_Table]), fun _ v S w' => ∃ (uu0 : Value), v = (Value.agg #[uu0]) ∧ SepS S w' [(Ty.sl (Ty.sl (Ty.sl (Ty.i .i64)))).at uu0 x107]] (by kernel_rfl) (by kernel_rfl) ⟨pk, pk, ⟨fun _ _ _ _ _ he ⟨uu0, h0, r0⟩ => ⟨uu0, h0, SepS.extend he r0⟩, fun _ _ _ _ _ _ h => h⟩, trivial⟩ ⟨?_, ?_, ?_, trivial⟩ ?_
        · refine ObX.op rfl fun f83 wd84 he85 hout86 hphi87 => ?_
          have hS88 := St.extend hS80 he85
          have e89 : f83 6 = (Value.pointer (some ⟨b49, 0, none⟩)) := (hout86 6 rfl).trans hf76
          exact OpX.val (Value.agg #[u44]) wd84 rfl (op_loadBox st_26 e89 (St.boxAt hS88 1 rfl) rfl rfl) (Ext.refl _) rfl
        · refine ObX.op rfl fun f90 wd91 he92 hout93 hphi94 => ?_
          have hS95 := St.extend hS80 he92
          have e96 : f90 1 = (Value.pointer (some ⟨b1, 0, none⟩)) := (hout93 1 rfl).trans hf73
          exact OpX.val (Value.agg #[v_aR_Table]) wd91 rfl (op_loadBox st_24 e96 (BoxAt.lift (Ext.trans hE39 hS95.ext) hx6) rfl rfl) (Ext.refl _) rfl
        · refine ObX.op rfl fun f97 wd98 he99 hout100 hphi101 => ?_
          have hS102 := St.extend hS80 he99
          obtain ⟨S103, hS104, hf105⟩ := hphi101 1 42 _ rfl rfl rfl
          have e106 : f97 42 = (Value.agg #[v_aR_Table]) := hf105
          refine OpX.call rfl (op_call fn_10 (args1 e106)) (Ret.mono (c_laws_toRing (Ty.lift _ (Ext.trans hE38 hS102.ext) r_aR_Table) hx108) ?_)
          rintro _ wd110 ⟨u109, rfl, he111, hs112⟩
          exact ⟨he111, _, newS _ _, ⟨u109, rfl, (Sep.new hs112)⟩⟩
        · intro f113 wd114 Ss115 he116 hout117 hSn118 hSd119 hphi120
          show WL _ _ _ _ _ _ _
          have e122 : f113 41 = (Value.agg #[u44]) := hphi120 0 41 _ (by decide) rfl rfl
          obtain ⟨u124, e123, e123s⟩ := hphi120 2 43 _ (by decide) rfl rfl
          have e125 : f113 1 = (Value.pointer (some ⟨b1, 0, none⟩)) := (hout117 1 rfl).trans hf73
          have e126 : f113 4 = u31 := (hout117 4 rfl).trans hf74
          have e127 : f113 5 = (Value.int .i64 x29.2) := (hout117 5 rfl).trans hf75
          have e128 : f113 6 = (Value.pointer (some ⟨b49, 0, none⟩)) := (hout117 6 rfl).trans hf76
          have e129 : f113 7 = u57 := (hout117 7 rfl).trans hf77
          have e130 : f113 8 = (Value.int .i64 x55.2) := (hout117 8 rfl).trans hf78
          have hS131 := St.joinS hS80 he116 hSn118 (SepS.consS hSd119 rfl e123s SepS.nilS)
          replace hS131 : St wd33 wd114 [(Ty.sl (Ty.sl (Ty.sl (Ty.i .i64)))).at u44 x42, bx b49 [u44], (Ty.sl (Ty.sl (Ty.i .i64))).at u57 x55.1, (Ty.sl (Ty.sl (Ty.sl (Ty.i .i64)))).at u124 x107] := hS131
          obtain ⟨x132, hx133, h⟩ := bs h
          refine WL.call _ (op_call fn_12 (args2 e122 e123)) (c_laws_eqRing (St.rep (t := (Ty.sl (Ty.sl (Ty.sl (Ty.i .i64))))) hS131 0 rfl) (St.rep (t := (Ty.sl (Ty.sl (Ty.sl (Ty.i .i64))))) hS131 3 rfl) hx133) rfl ?_
          rintro _ wd134 ⟨rfl, he135⟩
          have hS137 := St.extend hS131 he135
          replace hS137 : St wd33 wd134 [(Ty.sl (Ty.sl (Ty.sl (Ty.i .i64)))).at u44 x42, bx b49 [u44], (Ty.sl (Ty.sl (Ty.i .i64))).at u57 x55.1, (Ty.sl (Ty.sl (Ty.sl (Ty.i .i64)))).at u124 x107] := hS137
          refine WL.val (Value.bool (!x132)) _ (op_not rfl) rfl ?_
          refine WL.nil ?_
          refine W.cond (!x132) rfl (fun hc138 => ?_) (fun hc138 => ?_)
          · replace h := ip h hc138
            refine W.seq (W.region ?_)
            refine WL.val (Value.bool false) _ (op_assign rfl) rfl ?_
            refine WL.nil ?_
            refine W.ret ?_
            obtain rfl := Option.some.inj h
            show FinP _ _ _ _ _ _ _
            exact FinP.ret _ (res1 rfl rfl) ⟨rfl, (Ext.trans hE38 hS137.ext)⟩
          · replace h := inegb h hc138
            refine W.skip ?_
            refine W.seq (W.region ?_)
            refine WL.val (Value.int .i64 (1 : Int)) _ (op_assign rfl) rfl ?_
            refine WL.nil ?_
            refine W.seq (W.region ?_)
            refine WL.val (Value.agg #[u44]) _ (op_loadBox st_26 e128 (St.boxAt hS137 1 rfl) rfl rfl) rfl ?_
            refine WL.val (Value.int .i64 (1 : Int)) _ (op_move rfl) rfl ?_
            obtain ⟨x140, hx141, h⟩ := bs h
            have hS142 := St.fold [(Ty.sl (Ty.sl (Ty.sl (Ty.i .i64)))).at u44 x42] [bx b49 [u44], (Ty.sl (Ty.sl (Ty.i .i64))).at u57 x55.1, (Ty.sl (Ty.sl (Ty.sl (Ty.i .i64)))).at u124 x107] (St.pick hS137 [0, 1, 2, 3] rfl)
            refine WL.call _ (op_call fn_13 (args2 rfl rfl)) (c_laws_markRing hS142 (inL rfl) hx141) rfl ?_
            rintro _ wd145 ⟨rfl, hr146, hS143⟩
            have hS144 := St.pick (St.unfold [(Ty.sl (Ty.sl (Ty.sl (Ty.i .i64)))).at u44 x140.2] [bx b49 [u44], (Ty.sl (Ty.sl (Ty.i .i64))).at u57 x55.1, (Ty.sl (Ty.sl (Ty.sl (Ty.i .i64)))).at u124 x107] hS143) [0, 1, 2, 3] rfl
            replace hS144 : St wd33 wd145 [(Ty.sl (Ty.sl (Ty.sl (Ty.i .i64)))).at u44 x140.2, bx b49 [u44], (Ty.sl (Ty.sl (Ty.i .i64))).at u57 x55.1, (Ty.sl (Ty.sl (Ty.sl (Ty.i .i64)))).at u124 x107] := hS144
            refine WL.val (Value.int .i64 x140.1) _ (op_assign rfl) rfl ?_
            refine WL.nil ?_
            refine W.seq (W.seq (W.region ?_))
            refine WL.val (Value.int .i64 x140.1) _ (op_move rfl) rfl ?_
            refine WL.val (Value.bool (decide (x140.1 < (0 : Int)))) _ (op_lss rfl rfl) rfl ?_
            refine WL.val (Value.bool (decide (x140.1 < (0 : Int)))) _ (op_move rfl) rfl ?_
            obtain ⟨x148, hj149, h⟩ := bs h
            refine WL.cut 5 (fun fq wq => fq 1 = (Value.pointer (some ⟨b1, 0, none⟩)) ∧ fq 4 = u31 ∧ fq 5 = (Value.int .i64 x29.2) ∧ fq 7 = u57 ∧ fq 8 = (Value.int .i64 x55.2) ∧ fq 56 = Value.bool x148 ∧ St wd33 wq [(Ty.sl (Ty.sl (Ty.i .i64))).at u57 x55.1]) ?_ ?_
            · rcases Bool.eq_false_or_eq_true (decide (x140.1 < (0 : Int))) with hc147 | hc147
              · replace hj149 := ip hj149 hc147
                refine WL.gskip rfl (bool_of rfl hc147) rfl ?_
                refine WL.gskip rfl (bool_of rfl hc147) rfl ?_
                refine WL.gskip rfl (bool_of rfl hc147) rfl ?_
                refine WL.gskip rfl (bool_of rfl hc147) rfl ?_
                refine WL.val (Value.bool true) _ (op_pick_t (evb_of rfl hc147) rfl) rfl ?_
                refine WL.nil ?_
                obtain rfl := Option.some.inj hj149
                exact ⟨rfl, e125, e126, e127, e129, e130, rfl, (St.pick hS144 [2] rfl)⟩
              · replace hj149 := inegb hj149 hc147
                refine WL.grun rfl (bool_of rfl hc147) ?_
                refine WL.val u57 _ (op_move e129) rfl ?_
                refine WL.grun rfl (bool_of rfl hc147) ?_
                refine WL.val u31 _ (op_move e126) rfl ?_
                refine WL.grun rfl (bool_of rfl hc147) ?_
                obtain ⟨x153, hx154, hj149⟩ := bs hj149
                refine WL.call _ (op_call fn_24 (args2 rfl rfl)) (c_laws_eqInt64SS (St.rep (t := (Ty.sl (Ty.sl (Ty.i .i64)))) hS144 2 rfl) (Ty.lift _ hS144.ext hb37) hx154) rfl ?_
                rintro _ wd155 ⟨rfl, he156⟩
                have hS158 := St.extend hS144 he156
                replace hS158 : St wd33 wd155 [(Ty.sl (Ty.sl (Ty.sl (Ty.i .i64)))).at u44 x140.2, bx b49 [u44], (Ty.sl (Ty.sl (Ty.i .i64))).at u57 x55.1, (Ty.sl (Ty.sl (Ty.sl (Ty.i .i64)))).at u124 x107] := hS158
                refine WL.grun rfl (bool_of rfl hc147) ?_
                refine WL.val (Value.bool (!x153)) _ (op_not rfl) rfl ?_
                refine WL.val (Value.bool (!x153)) _ (op_pick_f (evb_of rfl hc147) rfl) rfl ?_
                refine WL.nil ?_
                obtain rfl := Option.some.inj hj149
                exact ⟨rfl, e125, e126, e127, e129, e130, rfl, (St.pick hS158 [2] rfl)⟩
            · intro f150 wd151 hq152
              obtain ⟨hf159, hf160, hf161, hf162, hf163, hf164, hS165⟩ := hq152
              refine WL.val (Value.bool x148) _ (op_move hf164) rfl ?_
              refine WL.cut 4 (fun fq wq => fq 1 = (Value.pointer (some ⟨b1, 0, none⟩)) ∧ fq 4 = u31 ∧ fq 5 = (Value.int .i64 x29.2) ∧ fq 7 = u57 ∧ fq 61 = (Value.bool (x148 || (x55.2 != x29.2))) ∧ St wd33 wq [(Ty.sl (Ty.sl (Ty.i .i64))).at u57 x55.1]) ?_ ?_
              · rcases Bool.eq_false_or_eq_true x148 with hc166 | hc166
                · refine WL.gskip rfl (bool_of rfl hc166) rfl ?_
                  refine WL.gskip rfl (bool_of rfl hc166) rfl ?_
                  refine WL.gskip rfl (bool_of rfl hc166) rfl ?_
                  refine WL.val (Value.bool true) _ (op_pick_t (evb_of rfl hc166) rfl) rfl ?_
                  refine WL.nil ?_
                  exact ⟨rfl, hf159, hf160, hf161, hf162, (orT hc166), hS165⟩
                · refine WL.grun rfl (bool_of rfl hc166) ?_
                  refine WL.val (Value.int .i64 x55.2) _ (op_move hf163) rfl ?_
                  refine WL.grun rfl (bool_of rfl hc166) ?_
                  refine WL.val (Value.int .i64 x29.2) _ (op_move hf161) rfl ?_
                  refine WL.grun rfl (bool_of rfl hc166) ?_
                  refine WL.val (Value.bool (x55.2 != x29.2)) _ (op_neq rfl rfl) rfl ?_
                  refine WL.val (Value.bool (x55.2 != x29.2)) _ (op_pick_f (evb_of rfl hc166) rfl) rfl ?_
                  refine WL.nil ?_
                  exact ⟨rfl, hf159, hf160, hf161, hf162, (orF hc166), hS165⟩
              · intro f167 wd168 hq169
                obtain ⟨hf170, hf171, hf172, hf173, hf174, hS175⟩ := hq169
                refine WL.nil ?_
                refine W.cond (x148 || (x55.2 != x29.2)) hf174 (fun hc176 => ?_) (fun hc176 => ?_)
                · replace h := ip h hc176
                  refine W.seq (W.region ?_)
                  refine WL.val (Value.bool false) _ (op_assign rfl) rfl ?_
                  refine WL.nil ?_
                  refine W.ret ?_
                  obtain rfl := Option.some.inj h
                  show FinP _ _ _ _ _ _ _
                  exact FinP.ret _ (res1 rfl rfl) ⟨rfl, (Ext.trans hE38 hS175.ext)⟩
                · replace h := inegb h hc176
                  refine W.skip ?_
                  refine W.seq (W.region ?_)
                  refine WL.val (Value.int .i64 (1 : Int)) _ (op_assign rfl) rfl ?_
                  refine WL.nil ?_
                  refine W.seq (W.region ?_)
                  refine WL.val u57 _ (op_move hf173) rfl ?_
                  refine WL.val (Value.int .i64 (1 : Int)) _ (op_move rfl) rfl ?_
                  obtain ⟨x178, hx179, h⟩ := bs h
                  have hS180 := St.fold [(Ty.sl (Ty.sl (Ty.i .i64))).at u57 x55.1] [] (St.pick hS175 [0] rfl)
                  refine WL.call _ (op_call fn_25 (args2 rfl rfl)) (c_laws_markInt64SS hS180 (inL rfl) hx179) rfl ?_
                  rintro _ wd183 ⟨rfl, hr184, hS181⟩
                  have hS182 := St.pick (St.unfold [(Ty.sl (Ty.sl (Ty.i .i64))).at u57 x178.2] [] hS181) [0] rfl
                  replace hS182 : St wd33 wd183 [(Ty.sl (Ty.sl (Ty.i .i64))).at u57 x178.2] := hS182
                  refine WL.val (Value.int .i64 x178.1) _ (op_assign rfl) rfl ?_
                  refine WL.nil ?_
                  refine W.seq (W.region ?_)
                  refine WL.val (Value.int .i64 (1 : Int)) _ (op_assign rfl) rfl ?_
                  refine WL.nil ?_
                  refine W.seq (W.region ?_)
                  refine WL.val u57 _ (op_move hf173) rfl ?_
                  refine WL.val (Value.int .i64 (1 : Int)) _ (op_move rfl) rfl ?_
                  obtain ⟨x185, hx186, h⟩ := bs h
                  refine WL.call _ (op_call fn_26 (args2 rfl rfl)) (c_laws_heldInt64SS (St.rep (t := (Ty.sl (Ty.sl (Ty.i .i64)))) hS182 0 rfl) (inL rfl) hx186) rfl ?_
                  rintro _ wd188 ⟨rfl, hr187, he189⟩
                  have hS191 := St.extend hS182 he189
                  replace hS191 : St wd33 wd188 [(Ty.sl (Ty.sl (Ty.i .i64))).at u57 x178.2] := hS191
                  refine WL.val (Value.int .i64 x185) _ (op_assign rfl) rfl ?_
                  refine WL.nil ?_
                  refine W.seq (W.seq (W.region ?_))
                  refine WL.val (Value.int .i64 x185) _ (op_move rfl) rfl ?_
                  refine WL.val (Value.bool (decide (x185 < (0 : Int)))) _ (op_lss rfl rfl) rfl ?_
                  refine WL.nil ?_
                  refine W.cond (decide (x185 < (0 : Int))) rfl (fun hc192 => ?_) (fun hc192 => ?_)
                  · replace h := ip h hc192
                    refine W.seq (W.region ?_)
                    refine WL.val (Value.bool false) _ (op_assign rfl) rfl ?_
                    refine WL.nil ?_
                    refine W.ret ?_
                    obtain rfl := Option.some.inj h
                    show FinP _ _ _ _ _ _ _
                    exact FinP.ret _ (res1 rfl rfl) ⟨rfl, (Ext.trans hE38 hS191.ext)⟩
                  · replace h := inegb h hc192
                    refine W.skip ?_
                    refine W.seq (W.seq (W.region ?_))
                    refine WL.val (Value.int .i64 x185) _ (op_move rfl) rfl ?_
                    refine WL.val (Value.int .i64 x178.1) _ (op_move rfl) rfl ?_
                    refine WL.val (Value.bool (x185 != x178.1)) _ (op_neq rfl rfl) rfl ?_
                    refine WL.nil ?_
                    refine W.cond (x185 != x178.1) rfl (fun hc194 => ?_) (fun hc194 => ?_)
                    · replace h := ip h hc194
                      refine W.seq (W.region ?_)
                      refine WL.val (Value.bool false) _ (op_assign rfl) rfl ?_
                      refine WL.nil ?_
                      refine W.ret ?_
                      obtain rfl := Option.some.inj h
                      show FinP _ _ _ _ _ _ _
                      exact FinP.ret _ (res1 rfl rfl) ⟨rfl, (Ext.trans hE38 hS191.ext)⟩
                    · replace h := inegb h hc194
                      refine W.skip ?_
                      refine W.seq (W.region ?_)
                      refine WL.val (Value.agg #[v_aR_Table]) _ (op_loadBox st_24 hf170 (BoxAt.lift (Ext.trans hE39 hS191.ext) hx6) rfl rfl) rfl ?_
                      obtain ⟨x196, hx197, h⟩ := bs h
                      refine WL.call _ (op_call fn_10 (args1 rfl)) (c_laws_toRing (Ty.lift _ (Ext.trans hE38 hS191.ext) r_aR_Table) hx197) rfl ?_
                      rintro _ wd199 ⟨u198, rfl, he200, hs201⟩
                      have hS202 := St.join hS191 he200 hs201
                      replace hS202 : St wd33 wd199 [(Ty.sl (Ty.sl (Ty.i .i64))).at u57 x178.2, (Ty.sl (Ty.sl (Ty.sl (Ty.i .i64)))).at u198 x196] := hS202
                      obtain ⟨x203, hx204, h⟩ := bs h
                      refine WL.call _ (op_call fn_23 (args1 rfl)) (c_impl_GradingGroup (tb.ext (Ext.trans hE38 hS202.ext)) (St.rep (t := (Ty.sl (Ty.sl (Ty.sl (Ty.i .i64))))) hS202 1 rfl) hx204) rfl ?_
                      rintro _ wd207 ⟨u205, rfl, hr206, he208, hs209⟩
                      have hS210 := St.join hS202 he208 hs209
                      replace hS210 : St wd33 wd207 [(Ty.sl (Ty.sl (Ty.i .i64))).at u57 x178.2, (Ty.sl (Ty.sl (Ty.sl (Ty.i .i64)))).at u198 x196, (Ty.sl (Ty.sl (Ty.i .i64))).at u205 x203.1] := hS210
                      refine WL.val (Value.tuple #[u205, (Value.int .i64 x203.2)]) _ (op_move rfl) rfl ?_
                      refine WL.val u205 _ (op_extract rfl rfl) rfl ?_
                      refine WL.val (Value.int .i64 x203.2) _ (op_extract rfl rfl) rfl ?_
                      refine WL.val u205 _ (op_assign rfl) rfl ?_
                      refine WL.val (Value.int .i64 x203.2) _ (op_assign rfl) rfl ?_
                      refine WL.nil ?_
                      refine W.seq (W.seq (W.region ?_))
                      refine WL.val u205 _ (op_move rfl) rfl ?_
                      refine WL.val u31 _ (op_move hf171) rfl ?_
                      obtain ⟨x211, hx212, h⟩ := bs h
                      refine WL.call _ (op_call fn_24 (args2 rfl rfl)) (c_laws_eqInt64SS (St.rep (t := (Ty.sl (Ty.sl (Ty.i .i64)))) hS210 2 rfl) (Ty.lift _ hS210.ext hb37) hx212) rfl ?_
                      rintro _ wd213 ⟨rfl, he214⟩
                      have hS216 := St.extend hS210 he214
                      replace hS216 : St wd33 wd213 [(Ty.sl (Ty.sl (Ty.i .i64))).at u57 x178.2, (Ty.sl (Ty.sl (Ty.sl (Ty.i .i64)))).at u198 x196, (Ty.sl (Ty.sl (Ty.i .i64))).at u205 x203.1] := hS216
                      refine WL.val (Value.bool (!x211)) _ (op_not rfl) rfl ?_
                      refine WL.val (Value.bool (!x211)) _ (op_move rfl) rfl ?_
                      refine WL.cut 4 (fun fq wq => fq 7 = u57 ∧ fq 10 = (Value.int .i64 x178.1) ∧ fq 87 = (Value.bool ((!x211) || (x203.2 != x29.2))) ∧ St wd33 wq [(Ty.sl (Ty.sl (Ty.i .i64))).at u57 x178.2]) ?_ ?_
                      · rcases Bool.eq_false_or_eq_true (!x211) with hc217 | hc217
                        · refine WL.gskip rfl (bool_of rfl hc217) rfl ?_
                          refine WL.gskip rfl (bool_of rfl hc217) rfl ?_
                          refine WL.gskip rfl (bool_of rfl hc217) rfl ?_
                          refine WL.val (Value.bool true) _ (op_pick_t (evb_of rfl hc217) rfl) rfl ?_
                          refine WL.nil ?_
                          exact ⟨rfl, hf173, rfl, (orT hc217), (St.pick hS216 [0] rfl)⟩
                        · refine WL.grun rfl (bool_of rfl hc217) ?_
                          refine WL.val (Value.int .i64 x203.2) _ (op_move rfl) rfl ?_
                          refine WL.grun rfl (bool_of rfl hc217) ?_
                          refine WL.val (Value.int .i64 x29.2) _ (op_move hf172) rfl ?_
                          refine WL.grun rfl (bool_of rfl hc217) ?_
                          refine WL.val (Value.bool (x203.2 != x29.2)) _ (op_neq rfl rfl) rfl ?_
                          refine WL.val (Value.bool (x203.2 != x29.2)) _ (op_pick_f (evb_of rfl hc217) rfl) rfl ?_
                          refine WL.nil ?_
                          exact ⟨rfl, hf173, rfl, (orF hc217), (St.pick hS216 [0] rfl)⟩
                      · intro f218 wd219 hq220
                        obtain ⟨hf221, hf222, hf223, hS224⟩ := hq220
                        refine WL.nil ?_
                        refine W.cond ((!x211) || (x203.2 != x29.2)) hf223 (fun hc225 => ?_) (fun hc225 => ?_)
                        · replace h := ip h hc225
                          refine W.seq (W.region ?_)
                          refine WL.val (Value.bool false) _ (op_assign rfl) rfl ?_
                          refine WL.nil ?_
                          refine W.ret ?_
                          obtain rfl := Option.some.inj h
                          show FinP _ _ _ _ _ _ _
                          exact FinP.ret _ (res1 rfl rfl) ⟨rfl, (Ext.trans hE38 hS224.ext)⟩
                        · replace h := inegb h hc225
                          refine W.skip ?_
                          refine W.seq (W.region ?_)
                          refine WL.val (Value.int .i64 (1 : Int)) _ (op_assign rfl) rfl ?_
                          refine WL.nil ?_
                          refine W.seq (W.region ?_)
                          refine WL.val u57 _ (op_move hf221) rfl ?_
                          refine WL.val (Value.int .i64 (1 : Int)) _ (op_move rfl) rfl ?_
                          obtain ⟨x227, hx228, h⟩ := bs h
                          refine WL.call _ (op_call fn_26 (args2 rfl rfl)) (c_laws_heldInt64SS (St.rep (t := (Ty.sl (Ty.sl (Ty.i .i64)))) hS224 0 rfl) (inL rfl) hx228) rfl ?_
                          rintro _ wd230 ⟨rfl, hr229, he231⟩
                          have hS233 := St.extend hS224 he231
                          replace hS233 : St wd33 wd230 [(Ty.sl (Ty.sl (Ty.i .i64))).at u57 x178.2] := hS233
                          refine WL.val (Value.int .i64 x227) _ (op_assign rfl) rfl ?_
                          refine WL.nil ?_
                          refine W.seq (W.seq (W.region ?_))
                          refine WL.val (Value.int .i64 x227) _ (op_move rfl) rfl ?_
                          refine WL.val (Value.bool (decide (x227 < (0 : Int)))) _ (op_lss rfl rfl) rfl ?_
                          refine WL.nil ?_
                          refine W.cond (decide (x227 < (0 : Int))) rfl (fun hc234 => ?_) (fun hc234 => ?_)
                          · replace h := ip h hc234
                            refine W.seq (W.region ?_)
                            refine WL.val (Value.bool false) _ (op_assign rfl) rfl ?_
                            refine WL.nil ?_
                            refine W.ret ?_
                            obtain rfl := Option.some.inj h
                            show FinP _ _ _ _ _ _ _
                            exact FinP.ret _ (res1 rfl rfl) ⟨rfl, (Ext.trans hE38 hS233.ext)⟩
                          · replace h := inegb h hc234
                            refine W.skip ?_
                            refine W.seq (W.seq (W.region ?_))
                            refine WL.val (Value.int .i64 x227) _ (op_move rfl) rfl ?_
                            refine WL.val (Value.int .i64 x178.1) _ (op_move hf222) rfl ?_
                            refine WL.val (Value.bool (x227 != x178.1)) _ (op_neq rfl rfl) rfl ?_
                            refine WL.nil ?_
                            refine W.cond (x227 != x178.1) rfl (fun hc236 => ?_) (fun hc236 => ?_)
                            · replace h := ip h hc236
                              refine W.seq (W.region ?_)
                              refine WL.val (Value.bool false) _ (op_assign rfl) rfl ?_
                              refine WL.nil ?_
                              refine W.ret ?_
                              obtain rfl := Option.some.inj h
                              show FinP _ _ _ _ _ _ _
                              exact FinP.ret _ (res1 rfl rfl) ⟨rfl, (Ext.trans hE38 hS233.ext)⟩
                            · replace h := inegb h hc236
                              refine W.skip ?_
                              refine W.seq (W.region ?_)
                              refine WL.val (Value.bool true) _ (op_assign rfl) rfl ?_
                              refine WL.nil ?_
                              refine W.ret ?_
                              obtain rfl := Option.some.inj h
                              show FinP _ _ _ _ _ _ _
                              exact FinP.ret _ (res1 rfl rfl) ⟨rfl, (Ext.trans hE38 hS233.ext)⟩

end Go.VG
