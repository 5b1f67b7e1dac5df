/- The walks, part 2: each Go function returns what its plain twin returns. No condition beyond what each names. -/
import Derived.Test.YtgmimpbkhedfnaaGWalk1
set_option linter.all false
namespace Go.VG
open Go.Proofs
attribute [local irreducible] W WL Sep FinP

theorem c_spec_l18One {w : World} {w_Orders : (List Int)} {v_w_Orders : Value} {w_Modulus : Int} {w_Values : (List (List (List Int)))} {v_w_Values : Value} {c : (List (List Int))} {v_c : Value} {x : Int} {y : Int} {z : Int} (r_w_Orders : (Ty.sl (Ty.i .i64)).rep w v_w_Orders w_Orders) (r_w_Modulus : InR .i64 w_Modulus) (r_w_Values : (Ty.sl (Ty.sl (Ty.sl (Ty.i .i64)))).rep w v_w_Values w_Values) (r_c : (Ty.sl (Ty.sl (Ty.i .i64))).rep w v_c c) (r_x : InR .i64 x) (r_y : InR .i64 y) (r_z : InR .i64 z) {res : Bool} (h : p_spec_l18One w_Orders w_Modulus w_Values c x y z  = some res) :
    Ret Try.prog 128 #[(Value.agg #[v_w_Orders, (Value.int .i64 w_Modulus), v_w_Values]), v_c, (Value.int .i64 x), (Value.int .i64 y), (Value.int .i64 z)] w (fun v w' => v = Value.bool res ∧ Ext w w') := by
  unfold p_spec_l18One at h
  have hS0 : St w w [] := St.start w
  refine Ret.start (fn := Try.f128) Try.func128 rfl 80 rfl rfl ?_
  refine W.seq (W.region ?_)
  refine WL.box hS0 rfl (cs := [v_w_Orders, (Value.int .i64 w_Modulus), v_w_Values]) rfl rfl ?_
  intro b1 wd2 hS3 he4 hx5
  replace hS3 : St w wd2 [bx b1 [v_w_Orders, (Value.int .i64 w_Modulus), v_w_Values]] := hS3
  have hx6 := St.boxAt hS3 0 rfl
  have hE7 : Ext w wd2 := hS3.ext
  have hS8 : St wd2 wd2 [] := St.start wd2
  refine WL.val (Value.bool false) _ (op_assign rfl) rfl ?_
  refine WL.nil ?_
  refine W.seq (W.region ?_)
  refine WL.val (Value.pointer (some ⟨b1, 0, none⟩)) _ (op_fieldAddr fd_34_0 rfl) rfl ?_
  refine WL.val v_w_Orders _ (op_load one_22 rfl (BoxAt.cell (BoxAt.lift hS8.ext hx6) rfl)) rfl ?_
  refine WL.val (Value.int .i64 y) _ (op_move rfl) rfl ?_
  refine WL.val (Value.int .i64 z) _ (op_move rfl) rfl ?_
  obtain ⟨x9, hx10, h⟩ := bs h
  refine WL.call _ (op_call fn_122 (args3 rfl rfl rfl)) (c_spec_l06Add (Ty.lift _ (Ext.trans hE7 hS8.ext) r_w_Orders) r_y r_z hx10) rfl ?_
  rintro _ wd12 ⟨rfl, hr11, he13⟩
  have hS15 := St.extend hS8 he13
  replace hS15 : St wd2 wd12 [] := hS15
  refine WL.val (Value.int .i64 x9) _ (op_assign rfl) rfl ?_
  refine WL.nil ?_
  refine W.seq (W.region ?_)
  refine WL.val (Value.pointer (some ⟨b1, 2, none⟩)) _ (op_fieldAddr fd_34_2 rfl) rfl ?_
  refine WL.val v_w_Values _ (op_load one_23 rfl (BoxAt.cell (BoxAt.lift hS15.ext hx6) rfl)) rfl ?_
  refine WL.val v_w_Values _ (op_assign rfl) rfl ?_
  refine WL.nil ?_
  refine W.seq ?_
  obtain ⟨x45, hx48, h⟩ := bs h
  obtain ⟨ha46, hb47, hx48⟩ := idx_some hx48
  obtain ⟨u59, hc60, hr61⟩ := repSl.el r_w_Values hx48
  obtain ⟨x84, hx87, h⟩ := bs h
  obtain ⟨ha85, hb86, hx87⟩ := idx_some hx87
  obtain ⟨u98, hc99, hr100⟩ := repSl.el hr61 hx87
  obtain ⟨x123, hx126, h⟩ := bs h
  obtain ⟨ha124, hb125, hx126⟩ := idx_some hx126
  obtain ⟨u137, hc138, hr139⟩ := repSl.el hr100 hx126
  obtain ⟨rfl, hr139⟩ := hr139
  obtain ⟨x169, hx172, h⟩ := bs h
  obtain ⟨ha170, hb171, hx172⟩ := idx_some hx172
  obtain ⟨u183, hc184, hr185⟩ := repSl.el r_c hx172
  obtain ⟨x208, hx211, h⟩ := bs h
  obtain ⟨ha209, hb210, hx211⟩ := idx_some hx211
  obtain ⟨u222, hc223, hr224⟩ := repSl.el hr185 hx211
  obtain ⟨rfl, hr224⟩ := hr224
  obtain ⟨x270, hx273, h⟩ := bs h
  obtain ⟨ha271, hb272, hx273⟩ := idx_some hx273
  obtain ⟨u284, hc285, hr286⟩ := repSl.el r_w_Values hx273
  obtain ⟨x309, hx312, h⟩ := bs h
  obtain ⟨ha310, hb311, hx312⟩ := idx_some hx312
  obtain ⟨u323, hc324, hr325⟩ := repSl.el hr286 hx312
  obtain ⟨x348, hx351, h⟩ := bs h
  obtain ⟨ha349, hb350, hx351⟩ := idx_some hx351
  obtain ⟨u362, hc363, hr364⟩ := repSl.el hr325 hx351
  obtain ⟨rfl, hr364⟩ := hr364
  obtain ⟨u420, hc421, hr422⟩ := repSl.el r_c hx172
  obtain ⟨x445, hx448, h⟩ := bs h
  obtain ⟨ha446, hb447, hx448⟩ := idx_some hx448
  obtain ⟨u459, hc460, hr461⟩ := repSl.el hr422 hx448
  obtain ⟨rfl, hr461⟩ := hr461
  obtain ⟨u517, hc518, hr519⟩ := repSl.el r_w_Values hx48
  obtain ⟨x542, hx545, h⟩ := bs h
  obtain ⟨ha543, hb544, hx545⟩ := idx_some hx545
  obtain ⟨u556, hc557, hr558⟩ := repSl.el hr519 hx545
  obtain ⟨x581, hx584, h⟩ := bs h
  obtain ⟨ha582, hb583, hx584⟩ := idx_some hx584
  obtain ⟨u595, hc596, hr597⟩ := repSl.el hr558 hx584
  obtain ⟨rfl, hr597⟩ := hr597
  obtain ⟨u653, hc654, hr655⟩ := repSl.el r_c hx172
  obtain ⟨x678, hx681, h⟩ := bs h
  obtain ⟨ha679, hb680, hx681⟩ := idx_some hx681
  obtain ⟨u692, hc693, hr694⟩ := repSl.el hr655 hx681
  obtain ⟨rfl, hr694⟩ := hr694
  refine W.drawR mixo 58 [] [fun _ v _ _ => v = v_w_Values, fun _ v _ _ => v = (Value.int .i64 y) ∧ InR .i64 y, fun _ v _ _ => v = (Value.pointer (some (elA v_w_Values (y).toNat))), fun _ v _ _ => v = u59, fun _ v _ _ => v = (Value.int .i64 z) ∧ InR .i64 z, fun _ v _ _ => v = (Value.pointer (some (elA u59 (z).toNat))), fun _ v _ _ => v = u98, fun _ v _ _ => v = (Value.int .i64 x) ∧ InR .i64 x, fun _ v _ _ => v = (Value.pointer (some (elA u98 (x).toNat))), fun _ v _ _ => v = (Value.int .i64 x123) ∧ InR .i64 x123, fun _ v _ _ => v = v_c, fun _ v _ _ => v = (Value.int .i64 x) ∧ InR .i64 x, fun _ v _ _ => v = (Value.pointer (some (elA v_c (x).toNat))), fun _ v _ _ => v = u183, fun _ v _ _ => v = (Value.int .i64 x9) ∧ InR .i64 x9, fun _ v _ _ => v = (Value.pointer (some (elA u183 (x9).toNat))), fun _ v _ _ => v = (Value.int .i64 x208) ∧ InR .i64 x208, fun _ v _ _ => v = (Value.int .i64 (w64 (x123 + x208))) ∧ InR .i64 (w64 (x123 + x208)), fun _ v _ _ => v = v_w_Values, fun _ v _ _ => v = (Value.int .i64 x) ∧ InR .i64 x, fun _ v _ _ => v = (Value.pointer (some (elA v_w_Values (x).toNat))), fun _ v _ _ => v = u284, fun _ v _ _ => v = (Value.int .i64 y) ∧ InR .i64 y, fun _ v _ _ => v = (Value.pointer (some (elA u284 (y).toNat))), fun _ v _ _ => v = u323, fun _ v _ _ => v = (Value.int .i64 z) ∧ InR .i64 z, fun _ v _ _ => v = (Value.pointer (some (elA u323 (z).toNat))), fun _ v _ _ => v = (Value.int .i64 x348) ∧ InR .i64 x348, fun _ v _ _ => v = (Value.int .i64 (w64 ((w64 (x123 + x208)) + x348))) ∧ InR .i64 (w64 ((w64 (x123 + x208)) + x348)), fun _ v _ _ => v = v_c, fun _ v _ _ => v = (Value.int .i64 x) ∧ InR .i64 x, fun _ v _ _ => v = (Value.pointer (some (elA v_c (x).toNat))), fun _ v _ _ => v = u420, fun _ v _ _ => v = (Value.int .i64 z) ∧ InR .i64 z, fun _ v _ _ => v = (Value.pointer (some (elA u420 (z).toNat))), fun _ v _ _ => v = (Value.int .i64 x445) ∧ InR .i64 x445, fun _ v _ _ => v = (Value.int .i64 (w64 ((w64 ((w64 (x123 + x208)) + x348)) - x445))) ∧ InR .i64 (w64 ((w64 ((w64 (x123 + x208)) + x348)) - x445)), fun _ v _ _ => v = v_w_Values, fun _ v _ _ => v = (Value.int .i64 y) ∧ InR .i64 y, fun _ v _ _ => v = (Value.pointer (some (elA v_w_Values (y).toNat))), fun _ v _ _ => v = u517, fun _ v _ _ => v = (Value.int .i64 x) ∧ InR .i64 x, fun _ v _ _ => v = (Value.pointer (some (elA u517 (x).toNat))), fun _ v _ _ => v = u556, fun _ v _ _ => v = (Value.int .i64 z) ∧ InR .i64 z, fun _ v _ _ => v = (Value.pointer (some (elA u556 (z).toNat))), fun _ v _ _ => v = (Value.int .i64 x581) ∧ InR .i64 x581, fun _ v _ _ => v = (Value.int .i64 (w64 ((w64 ((w64 ((w64 (x123 + x208)) + x348)) - x445)) - x581))) ∧ InR .i64 (w64 ((w64 ((w64 ((w64 (x123 + x208)) + x348)) - x445)) - x581)), fun _ v _ _ => v = v_c, fun _ v _ _ => v = (Value.int .i64 x) ∧ InR .i64 x, fun _ v _ _ => v = (Value.pointer (some (elA v_c (x).toNat))), fun _ v _ _ => v = u653, fun _ v _ _ => v = (Value.int .i64 y) ∧ InR .i64 y, fun _ v _ _ => v = (Value.pointer (some (elA u653 (y).toNat))), fun _ v _ _ => v = (Value.int .i64 x678) ∧ InR .i64 x678, fun _ v _ _ => v = (Value.int .i64 (w64 ((w64 ((w64 ((w64 ((w64 (x123 + x208)) + x348)) - x445)) - x581)) - x678))) ∧ InR .i64 (w64 ((w64 ((w64 ((w64 ((w64 (x123 + x208)) + x348)) - x445)) - x581)) - x678)), fun _ v _ _ => v = (Value.pointer (some ⟨b1, 1, none⟩)), fun _ v _ _ => v = (Value.int .i64 w_Modulus) ∧ InR .i64 w_Modulus] (by kernel_rfl) (by kernel_rfl) ⟨pk, pk, pk, pk, pk, pk, pk, pk, pk, pk, pk, pk, pk, pk, pk, pk, pk, pk, pk, pk, pk, pk, pk, pk, pk, pk, pk, pk, pk, pk, pk, pk, pk, pk, pk, pk, pk, pk, pk, pk, pk, pk, pk, pk, pk, pk, pk, pk, pk, pk, pk, pk, pk, pk, pk, pk, pk, pk, trivial⟩ ⟨?_, ?_, ?_, ?_, ?_, ?_, ?_, ?_, ?_, ?_, ?_, ?_, ?_, ?_, ?_, ?_, ?_, ?_, ?_, ?_, ?_, ?_, ?_, ?_, ?_, ?_, ?_, ?_, ?_, ?_, ?_, ?_, ?_, ?_, ?_, ?_, ?_, ?_, ?_, ?_, ?_, ?_, ?_, ?_, ?_, ?_, ?_, ?_, ?_, ?_, ?_, ?_, ?_, ?_, ?_, ?_, ?_, ?_, trivial⟩ ?_
  · refine ObX.op rfl fun f16 wd17 he18 hout19 hphi20 => ?_
    have e22 : f16 12 = v_w_Values := (hout19 12 rfl).trans rfl
    exact OpX.val v_w_Values wd17 rfl (op_move e22) (Ext.refl _) rfl
  · refine ObX.op rfl fun f23 wd24 he25 hout26 hphi27 => ?_
    have e29 : f23 3 = (Value.int .i64 y) := (hout26 3 rfl).trans rfl
    exact OpX.val (Value.int .i64 y) wd24 rfl (op_move e29) (Ext.refl _) ⟨rfl, r_y⟩
  · refine ObX.op rfl fun f30 wd31 he32 hout33 hphi34 => ?_
    have hS35 := St.extend hS15 he32
    obtain ⟨S36, hS37, hf38⟩ := hphi34 0 20 _ rfl rfl rfl
    have e39 : f30 20 = v_w_Values := hf38
    obtain ⟨S40, hS41, hf42⟩ := hphi34 1 21 _ rfl rfl rfl
    obtain ⟨e43, hr44⟩ := hf42
    exact OpX.val (Value.pointer (some (elA v_w_Values (y).toNat))) wd31 rfl (op_idx sl_23 (Ty.lift _ (Ext.trans hE7 hS35.ext) r_w_Values) e39 e43 ha46 hb47) (Ext.refl _) rfl
  · refine ObX.op rfl fun f49 wd50 he51 hout52 hphi53 => ?_
    have hS54 := St.extend hS15 he51
    obtain ⟨S55, hS56, hf57⟩ := hphi53 2 22 _ rfl rfl rfl
    have e58 : f49 22 = (Value.pointer (some (elA v_w_Values (y).toNat))) := hf57
    exact OpX.val u59 wd50 rfl (op_load one_26 e58 (Ext.cell (Ext.trans hE7 hS54.ext) hc60)) (Ext.refl _) rfl
  · refine ObX.op rfl fun f62 wd63 he64 hout65 hphi66 => ?_
    have e68 : f62 4 = (Value.int .i64 z) := (hout65 4 rfl).trans rfl
    exact OpX.val (Value.int .i64 z) wd63 rfl (op_move e68) (Ext.refl _) ⟨rfl, r_z⟩
  · refine ObX.op rfl fun f69 wd70 he71 hout72 hphi73 => ?_
    have hS74 := St.extend hS15 he71
    obtain ⟨S75, hS76, hf77⟩ := hphi73 3 23 _ rfl rfl rfl
    have e78 : f69 23 = u59 := hf77
    obtain ⟨S79, hS80, hf81⟩ := hphi73 4 24 _ rfl rfl rfl
    obtain ⟨e82, hr83⟩ := hf81
    exact OpX.val (Value.pointer (some (elA u59 (z).toNat))) wd70 rfl (op_idx sl_26 (Ty.lift _ (Ext.trans hE7 hS74.ext) hr61) e78 e82 ha85 hb86) (Ext.refl _) rfl
  · refine ObX.op rfl fun f88 wd89 he90 hout91 hphi92 => ?_
    have hS93 := St.extend hS15 he90
    obtain ⟨S94, hS95, hf96⟩ := hphi92 5 25 _ rfl rfl rfl
    have e97 : f88 25 = (Value.pointer (some (elA u59 (z).toNat))) := hf96
    exact OpX.val u98 wd89 rfl (op_load one_22 e97 (Ext.cell (Ext.trans hE7 hS93.ext) hc99)) (Ext.refl _) rfl
  · refine ObX.op rfl fun f101 wd102 he103 hout104 hphi105 => ?_
    have e107 : f101 2 = (Value.int .i64 x) := (hout104 2 rfl).trans rfl
    exact OpX.val (Value.int .i64 x) wd102 rfl (op_move e107) (Ext.refl _) ⟨rfl, r_x⟩
  · refine ObX.op rfl fun f108 wd109 he110 hout111 hphi112 => ?_
    have hS113 := St.extend hS15 he110
    obtain ⟨S114, hS115, hf116⟩ := hphi112 6 26 _ rfl rfl rfl
    have e117 : f108 26 = u98 := hf116
    obtain ⟨S118, hS119, hf120⟩ := hphi112 7 27 _ rfl rfl rfl
    obtain ⟨e121, hr122⟩ := hf120
    exact OpX.val (Value.pointer (some (elA u98 (x).toNat))) wd109 rfl (op_idx sl_22 (Ty.lift _ (Ext.trans hE7 hS113.ext) hr100) e117 e121 ha124 hb125) (Ext.refl _) rfl
  · refine ObX.op rfl fun f127 wd128 he129 hout130 hphi131 => ?_
    have hS132 := St.extend hS15 he129
    obtain ⟨S133, hS134, hf135⟩ := hphi131 8 28 _ rfl rfl rfl
    have e136 : f127 28 = (Value.pointer (some (elA u98 (x).toNat))) := hf135
    exact OpX.val (Value.int .i64 x123) wd128 rfl (op_load one_2 e136 (Ext.cell (Ext.trans hE7 hS132.ext) hc138)) (Ext.refl _) ⟨rfl, hr139⟩
  · refine ObX.op rfl fun f140 wd141 he142 hout143 hphi144 => ?_
    have e146 : f140 1 = v_c := (hout143 1 rfl).trans rfl
    exact OpX.val v_c wd141 rfl (op_move e146) (Ext.refl _) rfl
  · refine ObX.op rfl fun f147 wd148 he149 hout150 hphi151 => ?_
    have e153 : f147 2 = (Value.int .i64 x) := (hout150 2 rfl).trans rfl
    exact OpX.val (Value.int .i64 x) wd148 rfl (op_move e153) (Ext.refl _) ⟨rfl, r_x⟩
  · refine ObX.op rfl fun f154 wd155 he156 hout157 hphi158 => ?_
    have hS159 := St.extend hS15 he156
    obtain ⟨S160, hS161, hf162⟩ := hphi158 10 30 _ rfl rfl rfl
    have e163 : f154 30 = v_c := hf162
    obtain ⟨S164, hS165, hf166⟩ := hphi158 11 31 _ rfl rfl rfl
    obtain ⟨e167, hr168⟩ := hf166
    exact OpX.val (Value.pointer (some (elA v_c (x).toNat))) wd155 rfl (op_idx sl_26 (Ty.lift _ (Ext.trans hE7 hS159.ext) r_c) e163 e167 ha170 hb171) (Ext.refl _) rfl
  · refine ObX.op rfl fun f173 wd174 he175 hout176 hphi177 => ?_
    have hS178 := St.extend hS15 he175
    obtain ⟨S179, hS180, hf181⟩ := hphi177 12 32 _ rfl rfl rfl
    have e182 : f173 32 = (Value.pointer (some (elA v_c (x).toNat))) := hf181
    exact OpX.val u183 wd174 rfl (op_load one_22 e182 (Ext.cell (Ext.trans hE7 hS178.ext) hc184)) (Ext.refl _) rfl
  · refine ObX.op rfl fun f186 wd187 he188 hout189 hphi190 => ?_
    have e192 : f186 11 = (Value.int .i64 x9) := (hout189 11 rfl).trans rfl
    exact OpX.val (Value.int .i64 x9) wd187 rfl (op_move e192) (Ext.refl _) ⟨rfl, hr11⟩
  · refine ObX.op rfl fun f193 wd194 he195 hout196 hphi197 => ?_
    have hS198 := St.extend hS15 he195
    obtain ⟨S199, hS200, hf201⟩ := hphi197 13 33 _ rfl rfl rfl
    have e202 : f193 33 = u183 := hf201
    obtain ⟨S203, hS204, hf205⟩ := hphi197 14 34 _ rfl rfl rfl
    obtain ⟨e206, hr207⟩ := hf205
    exact OpX.val (Value.pointer (some (elA u183 (x9).toNat))) wd194 rfl (op_idx sl_22 (Ty.lift _ (Ext.trans hE7 hS198.ext) hr185) e202 e206 ha209 hb210) (Ext.refl _) rfl
  · refine ObX.op rfl fun f212 wd213 he214 hout215 hphi216 => ?_
    have hS217 := St.extend hS15 he214
    obtain ⟨S218, hS219, hf220⟩ := hphi216 15 35 _ rfl rfl rfl
    have e221 : f212 35 = (Value.pointer (some (elA u183 (x9).toNat))) := hf220
    exact OpX.val (Value.int .i64 x208) wd213 rfl (op_load one_2 e221 (Ext.cell (Ext.trans hE7 hS217.ext) hc223)) (Ext.refl _) ⟨rfl, hr224⟩
  · refine ObX.op rfl fun f225 wd226 he227 hout228 hphi229 => ?_
    obtain ⟨S231, hS232, hf233⟩ := hphi229 9 29 _ rfl rfl rfl
    obtain ⟨e234, hr235⟩ := hf233
    obtain ⟨S236, hS237, hf238⟩ := hphi229 16 36 _ rfl rfl rfl
    obtain ⟨e239, hr240⟩ := hf238
    exact OpX.val (Value.int .i64 (w64 (x123 + x208))) wd226 rfl (op_add e234 e239) (Ext.refl _) ⟨rfl, (inR_wrap _ _)⟩
  · refine ObX.op rfl fun f241 wd242 he243 hout244 hphi245 => ?_
    have e247 : f241 12 = v_w_Values := (hout244 12 rfl).trans rfl
    exact OpX.val v_w_Values wd242 rfl (op_move e247) (Ext.refl _) rfl
  · refine ObX.op rfl fun f248 wd249 he250 hout251 hphi252 => ?_
    have e254 : f248 2 = (Value.int .i64 x) := (hout251 2 rfl).trans rfl
    exact OpX.val (Value.int .i64 x) wd249 rfl (op_move e254) (Ext.refl _) ⟨rfl, r_x⟩
  · refine ObX.op rfl fun f255 wd256 he257 hout258 hphi259 => ?_
    have hS260 := St.extend hS15 he257
    obtain ⟨S261, hS262, hf263⟩ := hphi259 18 38 _ rfl rfl rfl
    have e264 : f255 38 = v_w_Values := hf263
    obtain ⟨S265, hS266, hf267⟩ := hphi259 19 39 _ rfl rfl rfl
    obtain ⟨e268, hr269⟩ := hf267
    exact OpX.val (Value.pointer (some (elA v_w_Values (x).toNat))) wd256 rfl (op_idx sl_23 (Ty.lift _ (Ext.trans hE7 hS260.ext) r_w_Values) e264 e268 ha271 hb272) (Ext.refl _) rfl
  · refine ObX.op rfl fun f274 wd275 he276 hout277 hphi278 => ?_
    have hS279 := St.extend hS15 he276
    obtain ⟨S280, hS281, hf282⟩ := hphi278 20 40 _ rfl rfl rfl
    have e283 : f274 40 = (Value.pointer (some (elA v_w_Values (x).toNat))) := hf282
    exact OpX.val u284 wd275 rfl (op_load one_26 e283 (Ext.cell (Ext.trans hE7 hS279.ext) hc285)) (Ext.refl _) rfl
  · refine ObX.op rfl fun f287 wd288 he289 hout290 hphi291 => ?_
    have e293 : f287 3 = (Value.int .i64 y) := (hout290 3 rfl).trans rfl
    exact OpX.val (Value.int .i64 y) wd288 rfl (op_move e293) (Ext.refl _) ⟨rfl, r_y⟩
  · refine ObX.op rfl fun f294 wd295 he296 hout297 hphi298 => ?_
    have hS299 := St.extend hS15 he296
    obtain ⟨S300, hS301, hf302⟩ := hphi298 21 41 _ rfl rfl rfl
    have e303 : f294 41 = u284 := hf302
    obtain ⟨S304, hS305, hf306⟩ := hphi298 22 42 _ rfl rfl rfl
    obtain ⟨e307, hr308⟩ := hf306
    exact OpX.val (Value.pointer (some (elA u284 (y).toNat))) wd295 rfl (op_idx sl_26 (Ty.lift _ (Ext.trans hE7 hS299.ext) hr286) e303 e307 ha310 hb311) (Ext.refl _) rfl
  · refine ObX.op rfl fun f313 wd314 he315 hout316 hphi317 => ?_
    have hS318 := St.extend hS15 he315
    obtain ⟨S319, hS320, hf321⟩ := hphi317 23 43 _ rfl rfl rfl
    have e322 : f313 43 = (Value.pointer (some (elA u284 (y).toNat))) := hf321
    exact OpX.val u323 wd314 rfl (op_load one_22 e322 (Ext.cell (Ext.trans hE7 hS318.ext) hc324)) (Ext.refl _) rfl
  · refine ObX.op rfl fun f326 wd327 he328 hout329 hphi330 => ?_
    have e332 : f326 4 = (Value.int .i64 z) := (hout329 4 rfl).trans rfl
    exact OpX.val (Value.int .i64 z) wd327 rfl (op_move e332) (Ext.refl _) ⟨rfl, r_z⟩
  · refine ObX.op rfl fun f333 wd334 he335 hout336 hphi337 => ?_
    have hS338 := St.extend hS15 he335
    obtain ⟨S339, hS340, hf341⟩ := hphi337 24 44 _ rfl rfl rfl
    have e342 : f333 44 = u323 := hf341
    obtain ⟨S343, hS344, hf345⟩ := hphi337 25 45 _ rfl rfl rfl
    obtain ⟨e346, hr347⟩ := hf345
    exact OpX.val (Value.pointer (some (elA u323 (z).toNat))) wd334 rfl (op_idx sl_22 (Ty.lift _ (Ext.trans hE7 hS338.ext) hr325) e342 e346 ha349 hb350) (Ext.refl _) rfl
  · refine ObX.op rfl fun f352 wd353 he354 hout355 hphi356 => ?_
    have hS357 := St.extend hS15 he354
    obtain ⟨S358, hS359, hf360⟩ := hphi356 26 46 _ rfl rfl rfl
    have e361 : f352 46 = (Value.pointer (some (elA u323 (z).toNat))) := hf360
    exact OpX.val (Value.int .i64 x348) wd353 rfl (op_load one_2 e361 (Ext.cell (Ext.trans hE7 hS357.ext) hc363)) (Ext.refl _) ⟨rfl, hr364⟩
  · refine ObX.op rfl fun f365 wd366 he367 hout368 hphi369 => ?_
    obtain ⟨S371, hS372, hf373⟩ := hphi369 17 37 _ rfl rfl rfl
    obtain ⟨e374, hr375⟩ := hf373
    obtain ⟨S376, hS377, hf378⟩ := hphi369 27 47 _ rfl rfl rfl
    obtain ⟨e379, hr380⟩ := hf378
    exact OpX.val (Value.int .i64 (w64 ((w64 (x123 + x208)) + x348))) wd366 rfl (op_add e374 e379) (Ext.refl _) ⟨rfl, (inR_wrap _ _)⟩
  · refine ObX.op rfl fun f381 wd382 he383 hout384 hphi385 => ?_
    have e387 : f381 1 = v_c := (hout384 1 rfl).trans rfl
    exact OpX.val v_c wd382 rfl (op_move e387) (Ext.refl _) rfl
  · refine ObX.op rfl fun f388 wd389 he390 hout391 hphi392 => ?_
    have e394 : f388 2 = (Value.int .i64 x) := (hout391 2 rfl).trans rfl
    exact OpX.val (Value.int .i64 x) wd389 rfl (op_move e394) (Ext.refl _) ⟨rfl, r_x⟩
  · refine ObX.op rfl fun f395 wd396 he397 hout398 hphi399 => ?_
    have hS400 := St.extend hS15 he397
    obtain ⟨S401, hS402, hf403⟩ := hphi399 29 49 _ rfl rfl rfl
    have e404 : f395 49 = v_c := hf403
    obtain ⟨S405, hS406, hf407⟩ := hphi399 30 50 _ rfl rfl rfl
    obtain ⟨e408, hr409⟩ := hf407
    exact OpX.val (Value.pointer (some (elA v_c (x).toNat))) wd396 rfl (op_idx sl_26 (Ty.lift _ (Ext.trans hE7 hS400.ext) r_c) e404 e408 ha170 hb171) (Ext.refl _) rfl
  · refine ObX.op rfl fun f410 wd411 he412 hout413 hphi414 => ?_
    have hS415 := St.extend hS15 he412
    obtain ⟨S416, hS417, hf418⟩ := hphi414 31 51 _ rfl rfl rfl
    have e419 : f410 51 = (Value.pointer (some (elA v_c (x).toNat))) := hf418
    exact OpX.val u420 wd411 rfl (op_load one_22 e419 (Ext.cell (Ext.trans hE7 hS415.ext) hc421)) (Ext.refl _) rfl
  · refine ObX.op rfl fun f423 wd424 he425 hout426 hphi427 => ?_
    have e429 : f423 4 = (Value.int .i64 z) := (hout426 4 rfl).trans rfl
    exact OpX.val (Value.int .i64 z) wd424 rfl (op_move e429) (Ext.refl _) ⟨rfl, r_z⟩
  · refine ObX.op rfl fun f430 wd431 he432 hout433 hphi434 => ?_
    have hS435 := St.extend hS15 he432
    obtain ⟨S436, hS437, hf438⟩ := hphi434 32 52 _ rfl rfl rfl
    have e439 : f430 52 = u420 := hf438
    obtain ⟨S440, hS441, hf442⟩ := hphi434 33 53 _ rfl rfl rfl
    obtain ⟨e443, hr444⟩ := hf442
    exact OpX.val (Value.pointer (some (elA u420 (z).toNat))) wd431 rfl (op_idx sl_22 (Ty.lift _ (Ext.trans hE7 hS435.ext) hr422) e439 e443 ha446 hb447) (Ext.refl _) rfl
  · refine ObX.op rfl fun f449 wd450 he451 hout452 hphi453 => ?_
    have hS454 := St.extend hS15 he451
    obtain ⟨S455, hS456, hf457⟩ := hphi453 34 54 _ rfl rfl rfl
    have e458 : f449 54 = (Value.pointer (some (elA u420 (z).toNat))) := hf457
    exact OpX.val (Value.int .i64 x445) wd450 rfl (op_load one_2 e458 (Ext.cell (Ext.trans hE7 hS454.ext) hc460)) (Ext.refl _) ⟨rfl, hr461⟩
  · refine ObX.op rfl fun f462 wd463 he464 hout465 hphi466 => ?_
    obtain ⟨S468, hS469, hf470⟩ := hphi466 28 48 _ rfl rfl rfl
    obtain ⟨e471, hr472⟩ := hf470
    obtain ⟨S473, hS474, hf475⟩ := hphi466 35 55 _ rfl rfl rfl
    obtain ⟨e476, hr477⟩ := hf475
    exact OpX.val (Value.int .i64 (w64 ((w64 ((w64 (x123 + x208)) + x348)) - x445))) wd463 rfl (op_sub e471 e476) (Ext.refl _) ⟨rfl, (inR_wrap _ _)⟩
  · refine ObX.op rfl fun f478 wd479 he480 hout481 hphi482 => ?_
    have e484 : f478 12 = v_w_Values := (hout481 12 rfl).trans rfl
    exact OpX.val v_w_Values wd479 rfl (op_move e484) (Ext.refl _) rfl
  · refine ObX.op rfl fun f485 wd486 he487 hout488 hphi489 => ?_
    have e491 : f485 3 = (Value.int .i64 y) := (hout488 3 rfl).trans rfl
    exact OpX.val (Value.int .i64 y) wd486 rfl (op_move e491) (Ext.refl _) ⟨rfl, r_y⟩
  · refine ObX.op rfl fun f492 wd493 he494 hout495 hphi496 => ?_
    have hS497 := St.extend hS15 he494
    obtain ⟨S498, hS499, hf500⟩ := hphi496 37 57 _ rfl rfl rfl
    have e501 : f492 57 = v_w_Values := hf500
    obtain ⟨S502, hS503, hf504⟩ := hphi496 38 58 _ rfl rfl rfl
    obtain ⟨e505, hr506⟩ := hf504
    exact OpX.val (Value.pointer (some (elA v_w_Values (y).toNat))) wd493 rfl (op_idx sl_23 (Ty.lift _ (Ext.trans hE7 hS497.ext) r_w_Values) e501 e505 ha46 hb47) (Ext.refl _) rfl
  · refine ObX.op rfl fun f507 wd508 he509 hout510 hphi511 => ?_
    have hS512 := St.extend hS15 he509
    obtain ⟨S513, hS514, hf515⟩ := hphi511 39 59 _ rfl rfl rfl
    have e516 : f507 59 = (Value.pointer (some (elA v_w_Values (y).toNat))) := hf515
    exact OpX.val u517 wd508 rfl (op_load one_26 e516 (Ext.cell (Ext.trans hE7 hS512.ext) hc518)) (Ext.refl _) rfl
  · refine ObX.op rfl fun f520 wd521 he522 hout523 hphi524 => ?_
    have e526 : f520 2 = (Value.int .i64 x) := (hout523 2 rfl).trans rfl
    exact OpX.val (Value.int .i64 x) wd521 rfl (op_move e526) (Ext.refl _) ⟨rfl, r_x⟩
  · refine ObX.op rfl fun f527 wd528 he529 hout530 hphi531 => ?_
    have hS532 := St.extend hS15 he529
    obtain ⟨S533, hS534, hf535⟩ := hphi531 40 60 _ rfl rfl rfl
    have e536 : f527 60 = u517 := hf535
    obtain ⟨S537, hS538, hf539⟩ := hphi531 41 61 _ rfl rfl rfl
    obtain ⟨e540, hr541⟩ := hf539
    exact OpX.val (Value.pointer (some (elA u517 (x).toNat))) wd528 rfl (op_idx sl_26 (Ty.lift _ (Ext.trans hE7 hS532.ext) hr519) e536 e540 ha543 hb544) (Ext.refl _) rfl
  · refine ObX.op rfl fun f546 wd547 he548 hout549 hphi550 => ?_
    have hS551 := St.extend hS15 he548
    obtain ⟨S552, hS553, hf554⟩ := hphi550 42 62 _ rfl rfl rfl
    have e555 : f546 62 = (Value.pointer (some (elA u517 (x).toNat))) := hf554
    exact OpX.val u556 wd547 rfl (op_load one_22 e555 (Ext.cell (Ext.trans hE7 hS551.ext) hc557)) (Ext.refl _) rfl
  · refine ObX.op rfl fun f559 wd560 he561 hout562 hphi563 => ?_
    have e565 : f559 4 = (Value.int .i64 z) := (hout562 4 rfl).trans rfl
    exact OpX.val (Value.int .i64 z) wd560 rfl (op_move e565) (Ext.refl _) ⟨rfl, r_z⟩
  · refine ObX.op rfl fun f566 wd567 he568 hout569 hphi570 => ?_
    have hS571 := St.extend hS15 he568
    obtain ⟨S572, hS573, hf574⟩ := hphi570 43 63 _ rfl rfl rfl
    have e575 : f566 63 = u556 := hf574
    obtain ⟨S576, hS577, hf578⟩ := hphi570 44 64 _ rfl rfl rfl
    obtain ⟨e579, hr580⟩ := hf578
    exact OpX.val (Value.pointer (some (elA u556 (z).toNat))) wd567 rfl (op_idx sl_22 (Ty.lift _ (Ext.trans hE7 hS571.ext) hr558) e575 e579 ha582 hb583) (Ext.refl _) rfl
  · refine ObX.op rfl fun f585 wd586 he587 hout588 hphi589 => ?_
    have hS590 := St.extend hS15 he587
    obtain ⟨S591, hS592, hf593⟩ := hphi589 45 65 _ rfl rfl rfl
    have e594 : f585 65 = (Value.pointer (some (elA u556 (z).toNat))) := hf593
    exact OpX.val (Value.int .i64 x581) wd586 rfl (op_load one_2 e594 (Ext.cell (Ext.trans hE7 hS590.ext) hc596)) (Ext.refl _) ⟨rfl, hr597⟩
  · refine ObX.op rfl fun f598 wd599 he600 hout601 hphi602 => ?_
    obtain ⟨S604, hS605, hf606⟩ := hphi602 36 56 _ rfl rfl rfl
    obtain ⟨e607, hr608⟩ := hf606
    obtain ⟨S609, hS610, hf611⟩ := hphi602 46 66 _ rfl rfl rfl
    obtain ⟨e612, hr613⟩ := hf611
    exact OpX.val (Value.int .i64 (w64 ((w64 ((w64 ((w64 (x123 + x208)) + x348)) - x445)) - x581))) wd599 rfl (op_sub e607 e612) (Ext.refl _) ⟨rfl, (inR_wrap _ _)⟩
  · refine ObX.op rfl fun f614 wd615 he616 hout617 hphi618 => ?_
    have e620 : f614 1 = v_c := (hout617 1 rfl).trans rfl
    exact OpX.val v_c wd615 rfl (op_move e620) (Ext.refl _) rfl
  · refine ObX.op rfl fun f621 wd622 he623 hout624 hphi625 => ?_
    have e627 : f621 2 = (Value.int .i64 x) := (hout624 2 rfl).trans rfl
    exact OpX.val (Value.int .i64 x) wd622 rfl (op_move e627) (Ext.refl _) ⟨rfl, r_x⟩
  · refine ObX.op rfl fun f628 wd629 he630 hout631 hphi632 => ?_
    have hS633 := St.extend hS15 he630
    obtain ⟨S634, hS635, hf636⟩ := hphi632 48 68 _ rfl rfl rfl
    have e637 : f628 68 = v_c := hf636
    obtain ⟨S638, hS639, hf640⟩ := hphi632 49 69 _ rfl rfl rfl
    obtain ⟨e641, hr642⟩ := hf640
    exact OpX.val (Value.pointer (some (elA v_c (x).toNat))) wd629 rfl (op_idx sl_26 (Ty.lift _ (Ext.trans hE7 hS633.ext) r_c) e637 e641 ha170 hb171) (Ext.refl _) rfl
  · refine ObX.op rfl fun f643 wd644 he645 hout646 hphi647 => ?_
    have hS648 := St.extend hS15 he645
    obtain ⟨S649, hS650, hf651⟩ := hphi647 50 70 _ rfl rfl rfl
    have e652 : f643 70 = (Value.pointer (some (elA v_c (x).toNat))) := hf651
    exact OpX.val u653 wd644 rfl (op_load one_22 e652 (Ext.cell (Ext.trans hE7 hS648.ext) hc654)) (Ext.refl _) rfl
  · refine ObX.op rfl fun f656 wd657 he658 hout659 hphi660 => ?_
    have e662 : f656 3 = (Value.int .i64 y) := (hout659 3 rfl).trans rfl
    exact OpX.val (Value.int .i64 y) wd657 rfl (op_move e662) (Ext.refl _) ⟨rfl, r_y⟩
  · refine ObX.op rfl fun f663 wd664 he665 hout666 hphi667 => ?_
    have hS668 := St.extend hS15 he665
    obtain ⟨S669, hS670, hf671⟩ := hphi667 51 71 _ rfl rfl rfl
    have e672 : f663 71 = u653 := hf671
    obtain ⟨S673, hS674, hf675⟩ := hphi667 52 72 _ rfl rfl rfl
    obtain ⟨e676, hr677⟩ := hf675
    exact OpX.val (Value.pointer (some (elA u653 (y).toNat))) wd664 rfl (op_idx sl_22 (Ty.lift _ (Ext.trans hE7 hS668.ext) hr655) e672 e676 ha679 hb680) (Ext.refl _) rfl
  · refine ObX.op rfl fun f682 wd683 he684 hout685 hphi686 => ?_
    have hS687 := St.extend hS15 he684
    obtain ⟨S688, hS689, hf690⟩ := hphi686 53 73 _ rfl rfl rfl
    have e691 : f682 73 = (Value.pointer (some (elA u653 (y).toNat))) := hf690
    exact OpX.val (Value.int .i64 x678) wd683 rfl (op_load one_2 e691 (Ext.cell (Ext.trans hE7 hS687.ext) hc693)) (Ext.refl _) ⟨rfl, hr694⟩
  · refine ObX.op rfl fun f695 wd696 he697 hout698 hphi699 => ?_
    obtain ⟨S701, hS702, hf703⟩ := hphi699 47 67 _ rfl rfl rfl
    obtain ⟨e704, hr705⟩ := hf703
    obtain ⟨S706, hS707, hf708⟩ := hphi699 54 74 _ rfl rfl rfl
    obtain ⟨e709, hr710⟩ := hf708
    exact OpX.val (Value.int .i64 (w64 ((w64 ((w64 ((w64 ((w64 (x123 + x208)) + x348)) - x445)) - x581)) - x678))) wd696 rfl (op_sub e704 e709) (Ext.refl _) ⟨rfl, (inR_wrap _ _)⟩
  · refine ObX.op rfl fun f711 wd712 he713 hout714 hphi715 => ?_
    have e717 : f711 5 = (Value.pointer (some ⟨b1, 0, none⟩)) := (hout714 5 rfl).trans rfl
    exact OpX.val (Value.pointer (some ⟨b1, 1, none⟩)) wd712 rfl (op_fieldAddr fd_34_1 e717) (Ext.refl _) rfl
  · refine ObX.op rfl fun f718 wd719 he720 hout721 hphi722 => ?_
    have hS723 := St.extend hS15 he720
    obtain ⟨S724, hS725, hf726⟩ := hphi722 56 76 _ rfl rfl rfl
    have e727 : f718 76 = (Value.pointer (some ⟨b1, 1, none⟩)) := hf726
    exact OpX.val (Value.int .i64 w_Modulus) wd719 rfl (op_load one_2 e727 (BoxAt.cell (BoxAt.lift hS723.ext hx6) rfl)) (Ext.refl _) ⟨rfl, r_w_Modulus⟩
  · intro f728 wd729 Ss730 he731 hout732 hSn733 hSd734 hphi735
    show WL _ _ _ _ _ _ _
    have hS736 := St.extend hS15 he731
    obtain ⟨e737, hr738⟩ := hphi735 55 75 _ (by decide) rfl rfl
    obtain ⟨e739, hr740⟩ := hphi735 57 77 _ (by decide) rfl rfl
    obtain ⟨x741, hz742, h⟩ := bs h
    obtain ⟨h0743, hz742⟩ := remI_some hz742
    have hr744 : InR .i64 x741 := by rw [hz742]; exact inR_tmod hr738
    refine WL.val (Value.int .i64 x741) _ (by rw [hz742]; exact op_rem e737 e739 h0743) rfl ?_
    refine WL.val (Value.bool (x741 == (0 : Int))) _ (op_eql rfl rfl) rfl ?_
    refine WL.val (Value.bool (x741 == (0 : Int))) _ (op_assign rfl) rfl ?_
    refine WL.nil ?_
    refine W.ret ?_
    obtain rfl := Option.some.inj h
    show FinP _ _ _ _ _ _ _
    exact FinP.ret _ (res1 rfl rfl) ⟨rfl, (Ext.trans hE7 hS736.ext)⟩

theorem c_spec_l18Two {w : World} {w_Orders : (List Int)} {v_w_Orders : Value} {w_Modulus : Int} {w_Values : (List (List (List Int)))} {v_w_Values : Value} {c : (List (List Int))} {v_c : Value} {x : Int} {y : Int} {z : Int} (r_w_Orders : (Ty.sl (Ty.i .i64)).rep w v_w_Orders w_Orders) (r_w_Modulus : InR .i64 w_Modulus) (r_w_Values : (Ty.sl (Ty.sl (Ty.sl (Ty.i .i64)))).rep w v_w_Values w_Values) (r_c : (Ty.sl (Ty.sl (Ty.i .i64))).rep w v_c c) (r_x : InR .i64 x) (r_y : InR .i64 y) (r_z : InR .i64 z) {res : Bool} (h : p_spec_l18Two w_Orders w_Modulus w_Values c x y z  = some res) :
    Ret Try.prog 129 #[(Value.agg #[v_w_Orders, (Value.int .i64 w_Modulus), v_w_Values]), v_c, (Value.int .i64 x), (Value.int .i64 y), (Value.int .i64 z)] w (fun v w' => v = Value.bool res ∧ Ext w w') := by
  unfold p_spec_l18Two at h
  have hS0 : St w w [] := St.start w
  refine Ret.start (fn := Try.f129) Try.func129 rfl 80 rfl rfl ?_
  refine W.seq (W.region ?_)
  refine WL.box hS0 rfl (cs := [v_w_Orders, (Value.int .i64 w_Modulus), v_w_Values]) rfl rfl ?_
  intro b1 wd2 hS3 he4 hx5
  replace hS3 : St w wd2 [bx b1 [v_w_Orders, (Value.int .i64 w_Modulus), v_w_Values]] := hS3
  have hx6 := St.boxAt hS3 0 rfl
  have hE7 : Ext w wd2 := hS3.ext
  have hS8 : St wd2 wd2 [] := St.start wd2
  refine WL.val (Value.bool false) _ (op_assign rfl) rfl ?_
  refine WL.nil ?_
  refine W.seq (W.region ?_)
  refine WL.val (Value.pointer (some ⟨b1, 0, none⟩)) _ (op_fieldAddr fd_34_0 rfl) rfl ?_
  refine WL.val v_w_Orders _ (op_load one_22 rfl (BoxAt.cell (BoxAt.lift hS8.ext hx6) rfl)) rfl ?_
  refine WL.val (Value.int .i64 x) _ (op_move rfl) rfl ?_
  refine WL.val (Value.int .i64 y) _ (op_move rfl) rfl ?_
  obtain ⟨x9, hx10, h⟩ := bs h
  refine WL.call _ (op_call fn_122 (args3 rfl rfl rfl)) (c_spec_l06Add (Ty.lift _ (Ext.trans hE7 hS8.ext) r_w_Orders) r_x r_y hx10) rfl ?_
  rintro _ wd12 ⟨rfl, hr11, he13⟩
  have hS15 := St.extend hS8 he13
  replace hS15 : St wd2 wd12 [] := hS15
  refine WL.val (Value.int .i64 x9) _ (op_assign rfl) rfl ?_
  refine WL.nil ?_
  refine W.seq (W.region ?_)
  refine WL.val (Value.pointer (some ⟨b1, 2, none⟩)) _ (op_fieldAddr fd_34_2 rfl) rfl ?_
  refine WL.val v_w_Values _ (op_load one_23 rfl (BoxAt.cell (BoxAt.lift hS15.ext hx6) rfl)) rfl ?_
  refine WL.val v_w_Values _ (op_assign rfl) rfl ?_
  refine WL.nil ?_
  refine W.seq ?_
  obtain ⟨x45, hx48, h⟩ := bs h
  obtain ⟨ha46, hb47, hx48⟩ := idx_some hx48
  obtain ⟨u59, hc60, hr61⟩ := repSl.el r_c hx48
  obtain ⟨x84, hx87, h⟩ := bs h
  obtain ⟨ha85, hb86, hx87⟩ := idx_some hx87
  obtain ⟨u98, hc99, hr100⟩ := repSl.el hr61 hx87
  obtain ⟨rfl, hr100⟩ := hr100
  obtain ⟨x130, hx133, h⟩ := bs h
  obtain ⟨ha131, hb132, hx133⟩ := idx_some hx133
  obtain ⟨u144, hc145, hr146⟩ := repSl.el r_w_Values hx133
  obtain ⟨x169, hx172, h⟩ := bs h
  obtain ⟨ha170, hb171, hx172⟩ := idx_some hx172
  obtain ⟨u183, hc184, hr185⟩ := repSl.el hr146 hx172
  obtain ⟨x208, hx211, h⟩ := bs h
  obtain ⟨ha209, hb210, hx211⟩ := idx_some hx211
  obtain ⟨u222, hc223, hr224⟩ := repSl.el hr185 hx211
  obtain ⟨rfl, hr224⟩ := hr224
  obtain ⟨x270, hx273, h⟩ := bs h
  obtain ⟨ha271, hb272, hx273⟩ := idx_some hx273
  obtain ⟨u284, hc285, hr286⟩ := repSl.el r_w_Values hx273
  obtain ⟨x309, hx312, h⟩ := bs h
  obtain ⟨ha310, hb311, hx312⟩ := idx_some hx312
  obtain ⟨u323, hc324, hr325⟩ := repSl.el hr286 hx312
  obtain ⟨x348, hx351, h⟩ := bs h
  obtain ⟨ha349, hb350, hx351⟩ := idx_some hx351
  obtain ⟨u362, hc363, hr364⟩ := repSl.el hr325 hx351
  obtain ⟨rfl, hr364⟩ := hr364
  obtain ⟨x410, hx413, h⟩ := bs h
  obtain ⟨ha411, hb412, hx413⟩ := idx_some hx413
  obtain ⟨u424, hc425, hr426⟩ := repSl.el r_c hx413
  obtain ⟨x449, hx452, h⟩ := bs h
  obtain ⟨ha450, hb451, hx452⟩ := idx_some hx452
  obtain ⟨u463, hc464, hr465⟩ := repSl.el hr426 hx452
  obtain ⟨rfl, hr465⟩ := hr465
  obtain ⟨x511, hx514, h⟩ := bs h
  obtain ⟨ha512, hb513, hx514⟩ := idx_some hx514
  obtain ⟨u525, hc526, hr527⟩ := repSl.el r_c hx514
  obtain ⟨x550, hx553, h⟩ := bs h
  obtain ⟨ha551, hb552, hx553⟩ := idx_some hx553
  obtain ⟨u564, hc565, hr566⟩ := repSl.el hr527 hx553
  obtain ⟨rfl, hr566⟩ := hr566
  obtain ⟨u622, hc623, hr624⟩ := repSl.el r_w_Values hx273
  obtain ⟨x647, hx650, h⟩ := bs h
  obtain ⟨ha648, hb649, hx650⟩ := idx_some hx650
  obtain ⟨u661, hc662, hr663⟩ := repSl.el hr624 hx650
  obtain ⟨x686, hx689, h⟩ := bs h
  obtain ⟨ha687, hb688, hx689⟩ := idx_some hx689
  obtain ⟨u700, hc701, hr702⟩ := repSl.el hr663 hx689
  obtain ⟨rfl, hr702⟩ := hr702
  refine W.drawR mixo 58 [] [fun _ v _ _ => v = v_c, fun _ v _ _ => v = (Value.int .i64 x9) ∧ InR .i64 x9, fun _ v _ _ => v = (Value.pointer (some (elA v_c (x9).toNat))), fun _ v _ _ => v = u59, fun _ v _ _ => v = (Value.int .i64 z) ∧ InR .i64 z, fun _ v _ _ => v = (Value.pointer (some (elA u59 (z).toNat))), fun _ v _ _ => v = (Value.int .i64 x84) ∧ InR .i64 x84, fun _ v _ _ => v = v_w_Values, fun _ v _ _ => v = (Value.int .i64 z) ∧ InR .i64 z, fun _ v _ _ => v = (Value.pointer (some (elA v_w_Values (z).toNat))), fun _ v _ _ => v = u144, fun _ v _ _ => v = (Value.int .i64 x) ∧ InR .i64 x, fun _ v _ _ => v = (Value.pointer (some (elA u144 (x).toNat))), fun _ v _ _ => v = u183, fun _ v _ _ => v = (Value.int .i64 y) ∧ InR .i64 y, fun _ v _ _ => v = (Value.pointer (some (elA u183 (y).toNat))), fun _ v _ _ => v = (Value.int .i64 x208) ∧ InR .i64 x208, fun _ v _ _ => v = (Value.int .i64 (w64 (x84 - x208))) ∧ InR .i64 (w64 (x84 - x208)), fun _ v _ _ => v = v_w_Values, fun _ v _ _ => v = (Value.int .i64 x) ∧ InR .i64 x, fun _ v _ _ => v = (Value.pointer (some (elA v_w_Values (x).toNat))), fun _ v _ _ => v = u284, fun _ v _ _ => v = (Value.int .i64 y) ∧ InR .i64 y, fun _ v _ _ => v = (Value.pointer (some (elA u284 (y).toNat))), fun _ v _ _ => v = u323, fun _ v _ _ => v = (Value.int .i64 z) ∧ InR .i64 z, fun _ v _ _ => v = (Value.pointer (some (elA u323 (z).toNat))), fun _ v _ _ => v = (Value.int .i64 x348) ∧ InR .i64 x348, fun _ v _ _ => v = (Value.int .i64 (w64 ((w64 (x84 - x208)) - x348))) ∧ InR .i64 (w64 ((w64 (x84 - x208)) - x348)), fun _ v _ _ => v = v_c, fun _ v _ _ => v = (Value.int .i64 x) ∧ InR .i64 x, fun _ v _ _ => v = (Value.pointer (some (elA v_c (x).toNat))), fun _ v _ _ => v = u424, fun _ v _ _ => v = (Value.int .i64 z) ∧ InR .i64 z, fun _ v _ _ => v = (Value.pointer (some (elA u424 (z).toNat))), fun _ v _ _ => v = (Value.int .i64 x449) ∧ InR .i64 x449, fun _ v _ _ => v = (Value.int .i64 (w64 ((w64 ((w64 (x84 - x208)) - x348)) - x449))) ∧ InR .i64 (w64 ((w64 ((w64 (x84 - x208)) - x348)) - x449)), fun _ v _ _ => v = v_c, fun _ v _ _ => v = (Value.int .i64 y) ∧ InR .i64 y, fun _ v _ _ => v = (Value.pointer (some (elA v_c (y).toNat))), fun _ v _ _ => v = u525, fun _ v _ _ => v = (Value.int .i64 z) ∧ InR .i64 z, fun _ v _ _ => v = (Value.pointer (some (elA u525 (z).toNat))), fun _ v _ _ => v = (Value.int .i64 x550) ∧ InR .i64 x550, fun _ v _ _ => v = (Value.int .i64 (w64 ((w64 ((w64 ((w64 (x84 - x208)) - x348)) - x449)) - x550))) ∧ InR .i64 (w64 ((w64 ((w64 ((w64 (x84 - x208)) - x348)) - x449)) - x550)), fun _ v _ _ => v = v_w_Values, fun _ v _ _ => v = (Value.int .i64 x) ∧ InR .i64 x, fun _ v _ _ => v = (Value.pointer (some (elA v_w_Values (x).toNat))), fun _ v _ _ => v = u622, fun _ v _ _ => v = (Value.int .i64 z) ∧ InR .i64 z, fun _ v _ _ => v = (Value.pointer (some (elA u622 (z).toNat))), fun _ v _ _ => v = u661, fun _ v _ _ => v = (Value.int .i64 y) ∧ InR .i64 y, fun _ v _ _ => v = (Value.pointer (some (elA u661 (y).toNat))), fun _ v _ _ => v = (Value.int .i64 x686) ∧ InR .i64 x686, fun _ v _ _ => v = (Value.int .i64 (w64 ((w64 ((w64 ((w64 ((w64 (x84 - x208)) - x348)) - x449)) - x550)) + x686))) ∧ InR .i64 (w64 ((w64 ((w64 ((w64 ((w64 (x84 - x208)) - x348)) - x449)) - x550)) + x686)), fun _ v _ _ => v = (Value.pointer (some ⟨b1, 1, none⟩)), fun _ v _ _ => v = (Value.int .i64 w_Modulus) ∧ InR .i64 w_Modulus] (by kernel_rfl) (by kernel_rfl) ⟨pk, pk, pk, pk, pk, pk, pk, pk, pk, pk, pk, pk, pk, pk, pk, pk, pk, pk, pk, pk, pk, pk, pk, pk, pk, pk, pk, pk, pk, pk, pk, pk, pk, pk, pk, pk, pk, pk, pk, pk, pk, pk, pk, pk, pk, pk, pk, pk, pk, pk, pk, pk, pk, pk, pk, pk, pk, pk, trivial⟩ ⟨?_, ?_, ?_, ?_, ?_, ?_, ?_, ?_, ?_, ?_, ?_, ?_, ?_, ?_, ?_, ?_, ?_, ?_, ?_, ?_, ?_, ?_, ?_, ?_, ?_, ?_, ?_, ?_, ?_, ?_, ?_, ?_, ?_, ?_, ?_, ?_, ?_, ?_, ?_, ?_, ?_, ?_, ?_, ?_, ?_, ?_, ?_, ?_, ?_, ?_, ?_, ?_, ?_, ?_, ?_, ?_, ?_, ?_, trivial⟩ ?_
  · refine ObX.op rfl fun f16 wd17 he18 hout19 hphi20 => ?_
    have e22 : f16 1 = v_c := (hout19 1 rfl).trans rfl
    exact OpX.val v_c wd17 rfl (op_move e22) (Ext.refl _) rfl
  · refine ObX.op rfl fun f23 wd24 he25 hout26 hphi27 => ?_
    have e29 : f23 11 = (Value.int .i64 x9) := (hout26 11 rfl).trans rfl
    exact OpX.val (Value.int .i64 x9) wd24 rfl (op_move e29) (Ext.refl _) ⟨rfl, hr11⟩
  · refine ObX.op rfl fun f30 wd31 he32 hout33 hphi34 => ?_
    have hS35 := St.extend hS15 he32
    obtain ⟨S36, hS37, hf38⟩ := hphi34 0 20 _ rfl rfl rfl
    have e39 : f30 20 = v_c := hf38
    obtain ⟨S40, hS41, hf42⟩ := hphi34 1 21 _ rfl rfl rfl
    obtain ⟨e43, hr44⟩ := hf42
    exact OpX.val (Value.pointer (some (elA v_c (x9).toNat))) wd31 rfl (op_idx sl_26 (Ty.lift _ (Ext.trans hE7 hS35.ext) r_c) e39 e43 ha46 hb47) (Ext.refl _) rfl
  · refine ObX.op rfl fun f49 wd50 he51 hout52 hphi53 => ?_
    have hS54 := St.extend hS15 he51
    obtain ⟨S55, hS56, hf57⟩ := hphi53 2 22 _ rfl rfl rfl
    have e58 : f49 22 = (Value.pointer (some (elA v_c (x9).toNat))) := hf57
    exact OpX.val u59 wd50 rfl (op_load one_22 e58 (Ext.cell (Ext.trans hE7 hS54.ext) hc60)) (Ext.refl _) rfl
  · refine ObX.op rfl fun f62 wd63 he64 hout65 hphi66 => ?_
    have e68 : f62 4 = (Value.int .i64 z) := (hout65 4 rfl).trans rfl
    exact OpX.val (Value.int .i64 z) wd63 rfl (op_move e68) (Ext.refl _) ⟨rfl, r_z⟩
  · refine ObX.op rfl fun f69 wd70 he71 hout72 hphi73 => ?_
    have hS74 := St.extend hS15 he71
    obtain ⟨S75, hS76, hf77⟩ := hphi73 3 23 _ rfl rfl rfl
    have e78 : f69 23 = u59 := hf77
    obtain ⟨S79, hS80, hf81⟩ := hphi73 4 24 _ rfl rfl rfl
    obtain ⟨e82, hr83⟩ := hf81
    exact OpX.val (Value.pointer (some (elA u59 (z).toNat))) wd70 rfl (op_idx sl_22 (Ty.lift _ (Ext.trans hE7 hS74.ext) hr61) e78 e82 ha85 hb86) (Ext.refl _) rfl
  · refine ObX.op rfl fun f88 wd89 he90 hout91 hphi92 => ?_
    have hS93 := St.extend hS15 he90
    obtain ⟨S94, hS95, hf96⟩ := hphi92 5 25 _ rfl rfl rfl
    have e97 : f88 25 = (Value.pointer (some (elA u59 (z).toNat))) := hf96
    exact OpX.val (Value.int .i64 x84) wd89 rfl (op_load one_2 e97 (Ext.cell (Ext.trans hE7 hS93.ext) hc99)) (Ext.refl _) ⟨rfl, hr100⟩
  · refine ObX.op rfl fun f101 wd102 he103 hout104 hphi105 => ?_
    have e107 : f101 12 = v_w_Values := (hout104 12 rfl).trans rfl
    exact OpX.val v_w_Values wd102 rfl (op_move e107) (Ext.refl _) rfl
  · refine ObX.op rfl fun f108 wd109 he110 hout111 hphi112 => ?_
    have e114 : f108 4 = (Value.int .i64 z) := (hout111 4 rfl).trans rfl
    exact OpX.val (Value.int .i64 z) wd109 rfl (op_move e114) (Ext.refl _) ⟨rfl, r_z⟩
  · refine ObX.op rfl fun f115 wd116 he117 hout118 hphi119 => ?_
    have hS120 := St.extend hS15 he117
    obtain ⟨S121, hS122, hf123⟩ := hphi119 7 27 _ rfl rfl rfl
    have e124 : f115 27 = v_w_Values := hf123
    obtain ⟨S125, hS126, hf127⟩ := hphi119 8 28 _ rfl rfl rfl
    obtain ⟨e128, hr129⟩ := hf127
    exact OpX.val (Value.pointer (some (elA v_w_Values (z).toNat))) wd116 rfl (op_idx sl_23 (Ty.lift _ (Ext.trans hE7 hS120.ext) r_w_Values) e124 e128 ha131 hb132) (Ext.refl _) rfl
  · refine ObX.op rfl fun f134 wd135 he136 hout137 hphi138 => ?_
    have hS139 := St.extend hS15 he136
    obtain ⟨S140, hS141, hf142⟩ := hphi138 9 29 _ rfl rfl rfl
    have e143 : f134 29 = (Value.pointer (some (elA v_w_Values (z).toNat))) := hf142
    exact OpX.val u144 wd135 rfl (op_load one_26 e143 (Ext.cell (Ext.trans hE7 hS139.ext) hc145)) (Ext.refl _) rfl
  · refine ObX.op rfl fun f147 wd148 he149 hout150 hphi151 => ?_
    have e153 : f147 2 = (Value.int .i64 x) := (hout150 2 rfl).trans rfl
    exact OpX.val (Value.int .i64 x) wd148 rfl (op_move e153) (Ext.refl _) ⟨rfl, r_x⟩
  · refine ObX.op rfl fun f154 wd155 he156 hout157 hphi158 => ?_
    have hS159 := St.extend hS15 he156
    obtain ⟨S160, hS161, hf162⟩ := hphi158 10 30 _ rfl rfl rfl
    have e163 : f154 30 = u144 := hf162
    obtain ⟨S164, hS165, hf166⟩ := hphi158 11 31 _ rfl rfl rfl
    obtain ⟨e167, hr168⟩ := hf166
    exact OpX.val (Value.pointer (some (elA u144 (x).toNat))) wd155 rfl (op_idx sl_26 (Ty.lift _ (Ext.trans hE7 hS159.ext) hr146) e163 e167 ha170 hb171) (Ext.refl _) rfl
  · refine ObX.op rfl fun f173 wd174 he175 hout176 hphi177 => ?_
    have hS178 := St.extend hS15 he175
    obtain ⟨S179, hS180, hf181⟩ := hphi177 12 32 _ rfl rfl rfl
    have e182 : f173 32 = (Value.pointer (some (elA u144 (x).toNat))) := hf181
    exact OpX.val u183 wd174 rfl (op_load one_22 e182 (Ext.cell (Ext.trans hE7 hS178.ext) hc184)) (Ext.refl _) rfl
  · refine ObX.op rfl fun f186 wd187 he188 hout189 hphi190 => ?_
    have e192 : f186 3 = (Value.int .i64 y) := (hout189 3 rfl).trans rfl
    exact OpX.val (Value.int .i64 y) wd187 rfl (op_move e192) (Ext.refl _) ⟨rfl, r_y⟩
  · refine ObX.op rfl fun f193 wd194 he195 hout196 hphi197 => ?_
    have hS198 := St.extend hS15 he195
    obtain ⟨S199, hS200, hf201⟩ := hphi197 13 33 _ rfl rfl rfl
    have e202 : f193 33 = u183 := hf201
    obtain ⟨S203, hS204, hf205⟩ := hphi197 14 34 _ rfl rfl rfl
    obtain ⟨e206, hr207⟩ := hf205
    exact OpX.val (Value.pointer (some (elA u183 (y).toNat))) wd194 rfl (op_idx sl_22 (Ty.lift _ (Ext.trans hE7 hS198.ext) hr185) e202 e206 ha209 hb210) (Ext.refl _) rfl
  · refine ObX.op rfl fun f212 wd213 he214 hout215 hphi216 => ?_
    have hS217 := St.extend hS15 he214
    obtain ⟨S218, hS219, hf220⟩ := hphi216 15 35 _ rfl rfl rfl
    have e221 : f212 35 = (Value.pointer (some (elA u183 (y).toNat))) := hf220
    exact OpX.val (Value.int .i64 x208) wd213 rfl (op_load one_2 e221 (Ext.cell (Ext.trans hE7 hS217.ext) hc223)) (Ext.refl _) ⟨rfl, hr224⟩
  · refine ObX.op rfl fun f225 wd226 he227 hout228 hphi229 => ?_
    obtain ⟨S231, hS232, hf233⟩ := hphi229 6 26 _ rfl rfl rfl
    obtain ⟨e234, hr235⟩ := hf233
    obtain ⟨S236, hS237, hf238⟩ := hphi229 16 36 _ rfl rfl rfl
    obtain ⟨e239, hr240⟩ := hf238
    exact OpX.val (Value.int .i64 (w64 (x84 - x208))) wd226 rfl (op_sub e234 e239) (Ext.refl _) ⟨rfl, (inR_wrap _ _)⟩
  · refine ObX.op rfl fun f241 wd242 he243 hout244 hphi245 => ?_
    have e247 : f241 12 = v_w_Values := (hout244 12 rfl).trans rfl
    exact OpX.val v_w_Values wd242 rfl (op_move e247) (Ext.refl _) rfl
  · refine ObX.op rfl fun f248 wd249 he250 hout251 hphi252 => ?_
    have e254 : f248 2 = (Value.int .i64 x) := (hout251 2 rfl).trans rfl
    exact OpX.val (Value.int .i64 x) wd249 rfl (op_move e254) (Ext.refl _) ⟨rfl, r_x⟩
  · refine ObX.op rfl fun f255 wd256 he257 hout258 hphi259 => ?_
    have hS260 := St.extend hS15 he257
    obtain ⟨S261, hS262, hf263⟩ := hphi259 18 38 _ rfl rfl rfl
    have e264 : f255 38 = v_w_Values := hf263
    obtain ⟨S265, hS266, hf267⟩ := hphi259 19 39 _ rfl rfl rfl
    obtain ⟨e268, hr269⟩ := hf267
    exact OpX.val (Value.pointer (some (elA v_w_Values (x).toNat))) wd256 rfl (op_idx sl_23 (Ty.lift _ (Ext.trans hE7 hS260.ext) r_w_Values) e264 e268 ha271 hb272) (Ext.refl _) rfl
  · refine ObX.op rfl fun f274 wd275 he276 hout277 hphi278 => ?_
    have hS279 := St.extend hS15 he276
    obtain ⟨S280, hS281, hf282⟩ := hphi278 20 40 _ rfl rfl rfl
    have e283 : f274 40 = (Value.pointer (some (elA v_w_Values (x).toNat))) := hf282
    exact OpX.val u284 wd275 rfl (op_load one_26 e283 (Ext.cell (Ext.trans hE7 hS279.ext) hc285)) (Ext.refl _) rfl
  · refine ObX.op rfl fun f287 wd288 he289 hout290 hphi291 => ?_
    have e293 : f287 3 = (Value.int .i64 y) := (hout290 3 rfl).trans rfl
    exact OpX.val (Value.int .i64 y) wd288 rfl (op_move e293) (Ext.refl _) ⟨rfl, r_y⟩
  · refine ObX.op rfl fun f294 wd295 he296 hout297 hphi298 => ?_
    have hS299 := St.extend hS15 he296
    obtain ⟨S300, hS301, hf302⟩ := hphi298 21 41 _ rfl rfl rfl
    have e303 : f294 41 = u284 := hf302
    obtain ⟨S304, hS305, hf306⟩ := hphi298 22 42 _ rfl rfl rfl
    obtain ⟨e307, hr308⟩ := hf306
    exact OpX.val (Value.pointer (some (elA u284 (y).toNat))) wd295 rfl (op_idx sl_26 (Ty.lift _ (Ext.trans hE7 hS299.ext) hr286) e303 e307 ha310 hb311) (Ext.refl _) rfl
  · refine ObX.op rfl fun f313 wd314 he315 hout316 hphi317 => ?_
    have hS318 := St.extend hS15 he315
    obtain ⟨S319, hS320, hf321⟩ := hphi317 23 43 _ rfl rfl rfl
    have e322 : f313 43 = (Value.pointer (some (elA u284 (y).toNat))) := hf321
    exact OpX.val u323 wd314 rfl (op_load one_22 e322 (Ext.cell (Ext.trans hE7 hS318.ext) hc324)) (Ext.refl _) rfl
  · refine ObX.op rfl fun f326 wd327 he328 hout329 hphi330 => ?_
    have e332 : f326 4 = (Value.int .i64 z) := (hout329 4 rfl).trans rfl
    exact OpX.val (Value.int .i64 z) wd327 rfl (op_move e332) (Ext.refl _) ⟨rfl, r_z⟩
  · refine ObX.op rfl fun f333 wd334 he335 hout336 hphi337 => ?_
    have hS338 := St.extend hS15 he335
    obtain ⟨S339, hS340, hf341⟩ := hphi337 24 44 _ rfl rfl rfl
    have e342 : f333 44 = u323 := hf341
    obtain ⟨S343, hS344, hf345⟩ := hphi337 25 45 _ rfl rfl rfl
    obtain ⟨e346, hr347⟩ := hf345
    exact OpX.val (Value.pointer (some (elA u323 (z).toNat))) wd334 rfl (op_idx sl_22 (Ty.lift _ (Ext.trans hE7 hS338.ext) hr325) e342 e346 ha349 hb350) (Ext.refl _) rfl
  · refine ObX.op rfl fun f352 wd353 he354 hout355 hphi356 => ?_
    have hS357 := St.extend hS15 he354
    obtain ⟨S358, hS359, hf360⟩ := hphi356 26 46 _ rfl rfl rfl
    have e361 : f352 46 = (Value.pointer (some (elA u323 (z).toNat))) := hf360
    exact OpX.val (Value.int .i64 x348) wd353 rfl (op_load one_2 e361 (Ext.cell (Ext.trans hE7 hS357.ext) hc363)) (Ext.refl _) ⟨rfl, hr364⟩
  · refine ObX.op rfl fun f365 wd366 he367 hout368 hphi369 => ?_
    obtain ⟨S371, hS372, hf373⟩ := hphi369 17 37 _ rfl rfl rfl
    obtain ⟨e374, hr375⟩ := hf373
    obtain ⟨S376, hS377, hf378⟩ := hphi369 27 47 _ rfl rfl rfl
    obtain ⟨e379, hr380⟩ := hf378
    exact OpX.val (Value.int .i64 (w64 ((w64 (x84 - x208)) - x348))) wd366 rfl (op_sub e374 e379) (Ext.refl _) ⟨rfl, (inR_wrap _ _)⟩
  · refine ObX.op rfl fun f381 wd382 he383 hout384 hphi385 => ?_
    have e387 : f381 1 = v_c := (hout384 1 rfl).trans rfl
    exact OpX.val v_c wd382 rfl (op_move e387) (Ext.refl _) rfl
  · refine ObX.op rfl fun f388 wd389 he390 hout391 hphi392 => ?_
    have e394 : f388 2 = (Value.int .i64 x) := (hout391 2 rfl).trans rfl
    exact OpX.val (Value.int .i64 x) wd389 rfl (op_move e394) (Ext.refl _) ⟨rfl, r_x⟩
  · refine ObX.op rfl fun f395 wd396 he397 hout398 hphi399 => ?_
    have hS400 := St.extend hS15 he397
    obtain ⟨S401, hS402, hf403⟩ := hphi399 29 49 _ rfl rfl rfl
    have e404 : f395 49 = v_c := hf403
    obtain ⟨S405, hS406, hf407⟩ := hphi399 30 50 _ rfl rfl rfl
    obtain ⟨e408, hr409⟩ := hf407
    exact OpX.val (Value.pointer (some (elA v_c (x).toNat))) wd396 rfl (op_idx sl_26 (Ty.lift _ (Ext.trans hE7 hS400.ext) r_c) e404 e408 ha411 hb412) (Ext.refl _) rfl
  · refine ObX.op rfl fun f414 wd415 he416 hout417 hphi418 => ?_
    have hS419 := St.extend hS15 he416
    obtain ⟨S420, hS421, hf422⟩ := hphi418 31 51 _ rfl rfl rfl
    have e423 : f414 51 = (Value.pointer (some (elA v_c (x).toNat))) := hf422
    exact OpX.val u424 wd415 rfl (op_load one_22 e423 (Ext.cell (Ext.trans hE7 hS419.ext) hc425)) (Ext.refl _) rfl
  · refine ObX.op rfl fun f427 wd428 he429 hout430 hphi431 => ?_
    have e433 : f427 4 = (Value.int .i64 z) := (hout430 4 rfl).trans rfl
    exact OpX.val (Value.int .i64 z) wd428 rfl (op_move e433) (Ext.refl _) ⟨rfl, r_z⟩
  · refine ObX.op rfl fun f434 wd435 he436 hout437 hphi438 => ?_
    have hS439 := St.extend hS15 he436
    obtain ⟨S440, hS441, hf442⟩ := hphi438 32 52 _ rfl rfl rfl
    have e443 : f434 52 = u424 := hf442
    obtain ⟨S444, hS445, hf446⟩ := hphi438 33 53 _ rfl rfl rfl
    obtain ⟨e447, hr448⟩ := hf446
    exact OpX.val (Value.pointer (some (elA u424 (z).toNat))) wd435 rfl (op_idx sl_22 (Ty.lift _ (Ext.trans hE7 hS439.ext) hr426) e443 e447 ha450 hb451) (Ext.refl _) rfl
  · refine ObX.op rfl fun f453 wd454 he455 hout456 hphi457 => ?_
    have hS458 := St.extend hS15 he455
    obtain ⟨S459, hS460, hf461⟩ := hphi457 34 54 _ rfl rfl rfl
    have e462 : f453 54 = (Value.pointer (some (elA u424 (z).toNat))) := hf461
    exact OpX.val (Value.int .i64 x449) wd454 rfl (op_load one_2 e462 (Ext.cell (Ext.trans hE7 hS458.ext) hc464)) (Ext.refl _) ⟨rfl, hr465⟩
  · refine ObX.op rfl fun f466 wd467 he468 hout469 hphi470 => ?_
    obtain ⟨S472, hS473, hf474⟩ := hphi470 28 48 _ rfl rfl rfl
    obtain ⟨e475, hr476⟩ := hf474
    obtain ⟨S477, hS478, hf479⟩ := hphi470 35 55 _ rfl rfl rfl
    obtain ⟨e480, hr481⟩ := hf479
    exact OpX.val (Value.int .i64 (w64 ((w64 ((w64 (x84 - x208)) - x348)) - x449))) wd467 rfl (op_sub e475 e480) (Ext.refl _) ⟨rfl, (inR_wrap _ _)⟩
  · refine ObX.op rfl fun f482 wd483 he484 hout485 hphi486 => ?_
    have e488 : f482 1 = v_c := (hout485 1 rfl).trans rfl
    exact OpX.val v_c wd483 rfl (op_move e488) (Ext.refl _) rfl
  · refine ObX.op rfl fun f489 wd490 he491 hout492 hphi493 => ?_
    have e495 : f489 3 = (Value.int .i64 y) := (hout492 3 rfl).trans rfl
    exact OpX.val (Value.int .i64 y) wd490 rfl (op_move e495) (Ext.refl _) ⟨rfl, r_y⟩
  · refine ObX.op rfl fun f496 wd497 he498 hout499 hphi500 => ?_
    have hS501 := St.extend hS15 he498
    obtain ⟨S502, hS503, hf504⟩ := hphi500 37 57 _ rfl rfl rfl
    have e505 : f496 57 = v_c := hf504
    obtain ⟨S506, hS507, hf508⟩ := hphi500 38 58 _ rfl rfl rfl
    obtain ⟨e509, hr510⟩ := hf508
    exact OpX.val (Value.pointer (some (elA v_c (y).toNat))) wd497 rfl (op_idx sl_26 (Ty.lift _ (Ext.trans hE7 hS501.ext) r_c) e505 e509 ha512 hb513) (Ext.refl _) rfl
  · refine ObX.op rfl fun f515 wd516 he517 hout518 hphi519 => ?_
    have hS520 := St.extend hS15 he517
    obtain ⟨S521, hS522, hf523⟩ := hphi519 39 59 _ rfl rfl rfl
    have e524 : f515 59 = (Value.pointer (some (elA v_c (y).toNat))) := hf523
    exact OpX.val u525 wd516 rfl (op_load one_22 e524 (Ext.cell (Ext.trans hE7 hS520.ext) hc526)) (Ext.refl _) rfl
  · refine ObX.op rfl fun f528 wd529 he530 hout531 hphi532 => ?_
    have e534 : f528 4 = (Value.int .i64 z) := (hout531 4 rfl).trans rfl
    exact OpX.val (Value.int .i64 z) wd529 rfl (op_move e534) (Ext.refl _) ⟨rfl, r_z⟩
  · refine ObX.op rfl fun f535 wd536 he537 hout538 hphi539 => ?_
    have hS540 := St.extend hS15 he537
    obtain ⟨S541, hS542, hf543⟩ := hphi539 40 60 _ rfl rfl rfl
    have e544 : f535 60 = u525 := hf543
    obtain ⟨S545, hS546, hf547⟩ := hphi539 41 61 _ rfl rfl rfl
    obtain ⟨e548, hr549⟩ := hf547
    exact OpX.val (Value.pointer (some (elA u525 (z).toNat))) wd536 rfl (op_idx sl_22 (Ty.lift _ (Ext.trans hE7 hS540.ext) hr527) e544 e548 ha551 hb552) (Ext.refl _) rfl
  · refine ObX.op rfl fun f554 wd555 he556 hout557 hphi558 => ?_
    have hS559 := St.extend hS15 he556
    obtain ⟨S560, hS561, hf562⟩ := hphi558 42 62 _ rfl rfl rfl
    have e563 : f554 62 = (Value.pointer (some (elA u525 (z).toNat))) := hf562
    exact OpX.val (Value.int .i64 x550) wd555 rfl (op_load one_2 e563 (Ext.cell (Ext.trans hE7 hS559.ext) hc565)) (Ext.refl _) ⟨rfl, hr566⟩
  · refine ObX.op rfl fun f567 wd568 he569 hout570 hphi571 => ?_
    obtain ⟨S573, hS574, hf575⟩ := hphi571 36 56 _ rfl rfl rfl
    obtain ⟨e576, hr577⟩ := hf575
    obtain ⟨S578, hS579, hf580⟩ := hphi571 43 63 _ rfl rfl rfl
    obtain ⟨e581, hr582⟩ := hf580
    exact OpX.val (Value.int .i64 (w64 ((w64 ((w64 ((w64 (x84 - x208)) - x348)) - x449)) - x550))) wd568 rfl (op_sub e576 e581) (Ext.refl _) ⟨rfl, (inR_wrap _ _)⟩
  · refine ObX.op rfl fun f583 wd584 he585 hout586 hphi587 => ?_
    have e589 : f583 12 = v_w_Values := (hout586 12 rfl).trans rfl
    exact OpX.val v_w_Values wd584 rfl (op_move e589) (Ext.refl _) rfl
  · refine ObX.op rfl fun f590 wd591 he592 hout593 hphi594 => ?_
    have e596 : f590 2 = (Value.int .i64 x) := (hout593 2 rfl).trans rfl
    exact OpX.val (Value.int .i64 x) wd591 rfl (op_move e596) (Ext.refl _) ⟨rfl, r_x⟩
  · refine ObX.op rfl fun f597 wd598 he599 hout600 hphi601 => ?_
    have hS602 := St.extend hS15 he599
    obtain ⟨S603, hS604, hf605⟩ := hphi601 45 65 _ rfl rfl rfl
    have e606 : f597 65 = v_w_Values := hf605
    obtain ⟨S607, hS608, hf609⟩ := hphi601 46 66 _ rfl rfl rfl
    obtain ⟨e610, hr611⟩ := hf609
    exact OpX.val (Value.pointer (some (elA v_w_Values (x).toNat))) wd598 rfl (op_idx sl_23 (Ty.lift _ (Ext.trans hE7 hS602.ext) r_w_Values) e606 e610 ha271 hb272) (Ext.refl _) rfl
  · refine ObX.op rfl fun f612 wd613 he614 hout615 hphi616 => ?_
    have hS617 := St.extend hS15 he614
    obtain ⟨S618, hS619, hf620⟩ := hphi616 47 67 _ rfl rfl rfl
    have e621 : f612 67 = (Value.pointer (some (elA v_w_Values (x).toNat))) := hf620
    exact OpX.val u622 wd613 rfl (op_load one_26 e621 (Ext.cell (Ext.trans hE7 hS617.ext) hc623)) (Ext.refl _) rfl
  · refine ObX.op rfl fun f625 wd626 he627 hout628 hphi629 => ?_
    have e631 : f625 4 = (Value.int .i64 z) := (hout628 4 rfl).trans rfl
    exact OpX.val (Value.int .i64 z) wd626 rfl (op_move e631) (Ext.refl _) ⟨rfl, r_z⟩
  · refine ObX.op rfl fun f632 wd633 he634 hout635 hphi636 => ?_
    have hS637 := St.extend hS15 he634
    obtain ⟨S638, hS639, hf640⟩ := hphi636 48 68 _ rfl rfl rfl
    have e641 : f632 68 = u622 := hf640
    obtain ⟨S642, hS643, hf644⟩ := hphi636 49 69 _ rfl rfl rfl
    obtain ⟨e645, hr646⟩ := hf644
    exact OpX.val (Value.pointer (some (elA u622 (z).toNat))) wd633 rfl (op_idx sl_26 (Ty.lift _ (Ext.trans hE7 hS637.ext) hr624) e641 e645 ha648 hb649) (Ext.refl _) rfl
  · refine ObX.op rfl fun f651 wd652 he653 hout654 hphi655 => ?_
    have hS656 := St.extend hS15 he653
    obtain ⟨S657, hS658, hf659⟩ := hphi655 50 70 _ rfl rfl rfl
    have e660 : f651 70 = (Value.pointer (some (elA u622 (z).toNat))) := hf659
    exact OpX.val u661 wd652 rfl (op_load one_22 e660 (Ext.cell (Ext.trans hE7 hS656.ext) hc662)) (Ext.refl _) rfl
  · refine ObX.op rfl fun f664 wd665 he666 hout667 hphi668 => ?_
    have e670 : f664 3 = (Value.int .i64 y) := (hout667 3 rfl).trans rfl
    exact OpX.val (Value.int .i64 y) wd665 rfl (op_move e670) (Ext.refl _) ⟨rfl, r_y⟩
  · refine ObX.op rfl fun f671 wd672 he673 hout674 hphi675 => ?_
    have hS676 := St.extend hS15 he673
    obtain ⟨S677, hS678, hf679⟩ := hphi675 51 71 _ rfl rfl rfl
    have e680 : f671 71 = u661 := hf679
    obtain ⟨S681, hS682, hf683⟩ := hphi675 52 72 _ rfl rfl rfl
    obtain ⟨e684, hr685⟩ := hf683
    exact OpX.val (Value.pointer (some (elA u661 (y).toNat))) wd672 rfl (op_idx sl_22 (Ty.lift _ (Ext.trans hE7 hS676.ext) hr663) e680 e684 ha687 hb688) (Ext.refl _) rfl
  · refine ObX.op rfl fun f690 wd691 he692 hout693 hphi694 => ?_
    have hS695 := St.extend hS15 he692
    obtain ⟨S696, hS697, hf698⟩ := hphi694 53 73 _ rfl rfl rfl
    have e699 : f690 73 = (Value.pointer (some (elA u661 (y).toNat))) := hf698
    exact OpX.val (Value.int .i64 x686) wd691 rfl (op_load one_2 e699 (Ext.cell (Ext.trans hE7 hS695.ext) hc701)) (Ext.refl _) ⟨rfl, hr702⟩
  · refine ObX.op rfl fun f703 wd704 he705 hout706 hphi707 => ?_
    obtain ⟨S709, hS710, hf711⟩ := hphi707 44 64 _ rfl rfl rfl
    obtain ⟨e712, hr713⟩ := hf711
    obtain ⟨S714, hS715, hf716⟩ := hphi707 54 74 _ rfl rfl rfl
    obtain ⟨e717, hr718⟩ := hf716
    exact OpX.val (Value.int .i64 (w64 ((w64 ((w64 ((w64 ((w64 (x84 - x208)) - x348)) - x449)) - x550)) + x686))) wd704 rfl (op_add e712 e717) (Ext.refl _) ⟨rfl, (inR_wrap _ _)⟩
  · refine ObX.op rfl fun f719 wd720 he721 hout722 hphi723 => ?_
    have e725 : f719 5 = (Value.pointer (some ⟨b1, 0, none⟩)) := (hout722 5 rfl).trans rfl
    exact OpX.val (Value.pointer (some ⟨b1, 1, none⟩)) wd720 rfl (op_fieldAddr fd_34_1 e725) (Ext.refl _) rfl
  · refine ObX.op rfl fun f726 wd727 he728 hout729 hphi730 => ?_
    have hS731 := St.extend hS15 he728
    obtain ⟨S732, hS733, hf734⟩ := hphi730 56 76 _ rfl rfl rfl
    have e735 : f726 76 = (Value.pointer (some ⟨b1, 1, none⟩)) := hf734
    exact OpX.val (Value.int .i64 w_Modulus) wd727 rfl (op_load one_2 e735 (BoxAt.cell (BoxAt.lift hS731.ext hx6) rfl)) (Ext.refl _) ⟨rfl, r_w_Modulus⟩
  · intro f736 wd737 Ss738 he739 hout740 hSn741 hSd742 hphi743
    show WL _ _ _ _ _ _ _
    have hS744 := St.extend hS15 he739
    obtain ⟨e745, hr746⟩ := hphi743 55 75 _ (by decide) rfl rfl
    obtain ⟨e747, hr748⟩ := hphi743 57 77 _ (by decide) rfl rfl
    obtain ⟨x749, hz750, h⟩ := bs h
    obtain ⟨h0751, hz750⟩ := remI_some hz750
    have hr752 : InR .i64 x749 := by rw [hz750]; exact inR_tmod hr746
    refine WL.val (Value.int .i64 x749) _ (by rw [hz750]; exact op_rem e745 e747 h0751) rfl ?_
    refine WL.val (Value.bool (x749 == (0 : Int))) _ (op_eql rfl rfl) rfl ?_
    refine WL.val (Value.bool (x749 == (0 : Int))) _ (op_assign rfl) rfl ?_
    refine WL.nil ?_
    refine W.ret ?_
    obtain rfl := Option.some.inj h
    show FinP _ _ _ _ _ _ _
    exact FinP.ret _ (res1 rfl rfl) ⟨rfl, (Ext.trans hE7 hS744.ext)⟩

theorem c_spec_l18Fault {w : World} {w_Orders : (List Int)} {v_w_Orders : Value} {w_Modulus : Int} {w_Values : (List (List (List Int)))} {v_w_Values : Value} {c : (List (List Int))} {v_c : Value} (r_w_Orders : (Ty.sl (Ty.i .i64)).rep w v_w_Orders w_Orders) (r_w_Modulus : InR .i64 w_Modulus) (r_w_Values : (Ty.sl (Ty.sl (Ty.sl (Ty.i .i64)))).rep w v_w_Values w_Values) (r_c : (Ty.sl (Ty.sl (Ty.i .i64))).rep w v_c c) {res : (List Int)} (h : p_spec_l18Fault w_Orders w_Modulus w_Values c  = some res) :
    Ret Try.prog 100 #[(Value.agg #[v_w_Orders, (Value.int .i64 w_Modulus), v_w_Values]), v_c] w (fun v w' => ∃ (u0 : Value), v = u0 ∧ Ext w w' ∧ Sep w.heap.size w' [(Ty.sl (Ty.i .i64)).at u0 res]) := by
  unfold p_spec_l18Fault at h
  have hS0 : St w w [] := St.start w
  refine Ret.start (fn := Try.f100) Try.func100 rfl 60 rfl rfl ?_
  refine W.seq (W.region ?_)
  refine WL.box hS0 rfl (cs := [v_w_Orders, (Value.int .i64 w_Modulus), v_w_Values]) rfl rfl ?_
  intro b1 wd2 hS3 he4 hx5
  replace hS3 : St w wd2 [bx b1 [v_w_Orders, (Value.int .i64 w_Modulus), v_w_Values]] := hS3
  have hx6 := St.boxAt hS3 0 rfl
  have hE7 : Ext w wd2 := hS3.ext
  have hS8 : St wd2 wd2 [] := St.start wd2
  refine WL.val (Value.slice none 0 0) _ (op_assign rfl) rfl ?_
  refine WL.nil ?_
  refine W.seq (W.region ?_)
  refine WL.val v_c _ (op_move rfl) rfl ?_
  have hr9 := inR_len (Ty.lift _ (Ext.trans hE7 hS8.ext) r_c)
  refine WL.val (Value.int .i64 ((c).length : Int)) _ (op_lenL sl_26 (Ty.lift _ (Ext.trans hE7 hS8.ext) r_c) rfl) rfl ?_
  refine WL.val (Value.int .i64 ((c).length : Int)) _ (op_assign rfl) rfl ?_
  refine WL.nil ?_
  refine W.seq (W.seq (W.region ?_))
  refine WL.val (Value.int .i64 (1 : Int)) _ (op_assign rfl) rfl ?_
  refine WL.nil ?_
  show W _ _ _ _ _ _
  obtain ⟨res10, hres11, h⟩ := bs h
  refine W.blockLoop (fun fq wq => ∃ s, res10 = Res.fin s ∧ St wd2 wq []) ?_ ?_
  · refine W.whileC (fun (s : Int) fq wq => fq 1 = v_c ∧ fq 2 = (Value.pointer (some ⟨b1, 0, none⟩)) ∧ fq 5 = (Value.int .i64 ((c).length : Int)) ∧ fq 6 = Value.int .i64 s ∧ InR .i64 s ∧ St wd2 wq []) hres11 ⟨rfl, rfl, rfl, rfl, (inL rfl), hS8⟩ ?_
    intro x13 ct14 f15 wd16 hb18 hI19 hbrk20 hret21
    replace hI19 : f15 1 = v_c ∧ f15 2 = (Value.pointer (some ⟨b1, 0, none⟩)) ∧ f15 5 = (Value.int .i64 ((c).length : Int)) ∧ f15 6 = Value.int .i64 x13 ∧ InR .i64 x13 ∧ St wd2 wd16 [] := hI19
    replace hb18 : p_spec_l18Fault_L1 w_Orders w_Modulus w_Values c  x13 = some ct14 := hb18
    unfold p_spec_l18Fault_L1 at hb18
    obtain ⟨hf22, hf23, hf24, hf25, hr26, hS27⟩ := hI19
    refine W.seq (W.seq (W.region ?_))
    refine WL.val (Value.int .i64 x13) _ (op_move hf25) rfl ?_
    refine WL.val (Value.bool (decide (x13 ≤ (2 : Int)))) _ (op_leq rfl rfl) rfl ?_
    refine WL.nil ?_
    refine W.cond (decide (x13 ≤ (2 : Int))) rfl (fun hc28 => ?_) (fun hc28 => ?_)
    · replace hb18 := ip hb18 hc28
      refine W.skip ?_
      refine W.seq ?_
      refine W.block ?_
      refine W.seq (W.region ?_)
      refine WL.val (Value.int .i64 (0 : Int)) _ (op_assign rfl) rfl ?_
      refine WL.nil ?_
      show W _ _ _ _ _ _
      obtain ⟨res30, hres31, hb18⟩ := bs hb18
      refine W.blockLoop (fun fq wq => ∃ s, res30 = Res.fin s ∧ fq 1 = v_c ∧ fq 2 = (Value.pointer (some ⟨b1, 0, none⟩)) ∧ fq 5 = (Value.int .i64 ((c).length : Int)) ∧ fq 6 = (Value.int .i64 x13) ∧ St wd2 wq []) ?_ ?_
      · refine W.forN (fun k (s : Unit) fq wq => fq 1 = v_c ∧ fq 2 = (Value.pointer (some ⟨b1, 0, none⟩)) ∧ fq 5 = (Value.int .i64 ((c).length : Int)) ∧ fq 6 = (Value.int .i64 x13) ∧ fq 7 = Value.int .i64 (k : Int) ∧ InR .i64 (k : Int) ∧ St wd2 wq []) hres31 ⟨hf22, hf23, hf24, hf25, rfl, (inL rfl), hS27⟩ ?_ ?_
        · intro k32 s190 ct33 f34 wd35 hk36 hb37 hI38 hbrk39 hret40
          obtain ⟨⟩ := s190
          replace hI38 : f34 1 = v_c ∧ f34 2 = (Value.pointer (some ⟨b1, 0, none⟩)) ∧ f34 5 = (Value.int .i64 ((c).length : Int)) ∧ f34 6 = (Value.int .i64 x13) ∧ f34 7 = Value.int .i64 (k32 : Int) ∧ InR .i64 (k32 : Int) ∧ St wd2 wd35 [] := hI38
          replace hb37 : p_spec_l18Fault_L2 x13 w_Orders w_Modulus w_Values c k32  = some ct33 := hb37
          unfold p_spec_l18Fault_L2 at hb37
          obtain ⟨hf41, hf42, hf43, hf44, hf45, hr46, hS47⟩ := hI38
          refine W.seq (W.seq (W.region ?_))
          refine WL.val (Value.int .i64 (k32 : Int)) _ (op_move hf45) rfl ?_
          refine WL.val (Value.int .i64 ((c).length : Int)) _ (op_move hf43) rfl ?_
          refine WL.val (Value.bool (decide ((k32 : Int) < ((c).length : Int)))) _ (op_lss rfl rfl) rfl ?_
          have hl48 : (k32 : Int) < ((c).length : Int) := by omega
          refine WL.nil ?_
          refine W.condT (decide ((k32 : Int) < ((c).length : Int))) rfl (decide_eq_true hl48) ?_
          refine W.skip ?_
          refine W.seq ?_
          refine W.block ?_
          refine W.seq (W.region ?_)
          refine WL.val (Value.int .i64 (0 : Int)) _ (op_assign rfl) rfl ?_
          refine WL.nil ?_
          show W _ _ _ _ _ _
          obtain ⟨res50, hres51, hb37⟩ := bs hb37
          refine W.blockLoop (fun fq wq => ∃ s, res50 = Res.fin s ∧ fq 1 = v_c ∧ fq 2 = (Value.pointer (some ⟨b1, 0, none⟩)) ∧ fq 5 = (Value.int .i64 ((c).length : Int)) ∧ fq 6 = (Value.int .i64 x13) ∧ fq 7 = (Value.int .i64 (k32 : Int)) ∧ St wd2 wq []) ?_ ?_
          · refine W.forN (fun k (s : Unit) fq wq => fq 1 = v_c ∧ fq 2 = (Value.pointer (some ⟨b1, 0, none⟩)) ∧ fq 5 = (Value.int .i64 ((c).length : Int)) ∧ fq 6 = (Value.int .i64 x13) ∧ fq 7 = (Value.int .i64 (k32 : Int)) ∧ fq 8 = Value.int .i64 (k : Int) ∧ InR .i64 (k : Int) ∧ St wd2 wq []) hres51 ⟨hf41, hf42, hf43, hf44, hf45, rfl, (inL rfl), hS47⟩ ?_ ?_
            · intro k52 s164 ct53 f54 wd55 hk56 hb57 hI58 hbrk59 hret60
              obtain ⟨⟩ := s164
              replace hI58 : f54 1 = v_c ∧ f54 2 = (Value.pointer (some ⟨b1, 0, none⟩)) ∧ f54 5 = (Value.int .i64 ((c).length : Int)) ∧ f54 6 = (Value.int .i64 x13) ∧ f54 7 = (Value.int .i64 (k32 : Int)) ∧ f54 8 = Value.int .i64 (k52 : Int) ∧ InR .i64 (k52 : Int) ∧ St wd2 wd55 [] := hI58
              replace hb57 : p_spec_l18Fault_L3 x13 w_Orders w_Modulus w_Values c k32 k52  = some ct53 := hb57
              unfold p_spec_l18Fault_L3 at hb57
              obtain ⟨hf61, hf62, hf63, hf64, hf65, hf66, hr67, hS68⟩ := hI58
              refine W.seq (W.seq (W.region ?_))
              refine WL.val (Value.int .i64 (k52 : Int)) _ (op_move hf66) rfl ?_
              refine WL.val (Value.int .i64 ((c).length : Int)) _ (op_move hf63) rfl ?_
              refine WL.val (Value.bool (decide ((k52 : Int) < ((c).length : Int)))) _ (op_lss rfl rfl) rfl ?_
              have hl69 : (k52 : Int) < ((c).length : Int) := by omega
              refine WL.nil ?_
              refine W.condT (decide ((k52 : Int) < ((c).length : Int))) rfl (decide_eq_true hl69) ?_
              refine W.skip ?_
              refine W.seq ?_
              refine W.block ?_
              refine W.seq (W.region ?_)
              refine WL.val (Value.int .i64 (0 : Int)) _ (op_assign rfl) rfl ?_
              refine WL.nil ?_
              show W _ _ _ _ _ _
              obtain ⟨res71, hres72, hb57⟩ := bs hb57
              refine W.blockLoop (fun fq wq => ∃ s, res71 = Res.fin s ∧ fq 1 = v_c ∧ fq 2 = (Value.pointer (some ⟨b1, 0, none⟩)) ∧ fq 5 = (Value.int .i64 ((c).length : Int)) ∧ fq 6 = (Value.int .i64 x13) ∧ fq 7 = (Value.int .i64 (k32 : Int)) ∧ fq 8 = (Value.int .i64 (k52 : Int)) ∧ St wd2 wq []) ?_ ?_
              · refine W.forN (fun k (s : Unit) fq wq => fq 1 = v_c ∧ fq 2 = (Value.pointer (some ⟨b1, 0, none⟩)) ∧ fq 5 = (Value.int .i64 ((c).length : Int)) ∧ fq 6 = (Value.int .i64 x13) ∧ fq 7 = (Value.int .i64 (k32 : Int)) ∧ fq 8 = (Value.int .i64 (k52 : Int)) ∧ fq 9 = Value.int .i64 (k : Int) ∧ InR .i64 (k : Int) ∧ St wd2 wq []) hres72 ⟨hf61, hf62, hf63, hf64, hf65, hf66, rfl, (inL rfl), hS68⟩ ?_ ?_
                · intro k73 s136 ct74 f75 wd76 hk77 hb78 hI79 hbrk80 hret81
                  obtain ⟨⟩ := s136
                  replace hI79 : f75 1 = v_c ∧ f75 2 = (Value.pointer (some ⟨b1, 0, none⟩)) ∧ f75 5 = (Value.int .i64 ((c).length : Int)) ∧ f75 6 = (Value.int .i64 x13) ∧ f75 7 = (Value.int .i64 (k32 : Int)) ∧ f75 8 = (Value.int .i64 (k52 : Int)) ∧ f75 9 = Value.int .i64 (k73 : Int) ∧ InR .i64 (k73 : Int) ∧ St wd2 wd76 [] := hI79
                  replace hb78 : p_spec_l18Fault_L4 x13 w_Orders w_Modulus w_Values c k32 k52 k73  = some ct74 := hb78
                  unfold p_spec_l18Fault_L4 at hb78
                  obtain ⟨hf82, hf83, hf84, hf85, hf86, hf87, hf88, hr89, hS90⟩ := hI79
                  refine W.seq (W.seq (W.region ?_))
                  refine WL.val (Value.int .i64 (k73 : Int)) _ (op_move hf88) rfl ?_
                  refine WL.val (Value.int .i64 ((c).length : Int)) _ (op_move hf84) rfl ?_
                  refine WL.val (Value.bool (decide ((k73 : Int) < ((c).length : Int)))) _ (op_lss rfl rfl) rfl ?_
                  have hl91 : (k73 : Int) < ((c).length : Int) := by omega
                  refine WL.nil ?_
                  refine W.condT (decide ((k73 : Int) < ((c).length : Int))) rfl (decide_eq_true hl91) ?_
                  refine W.skip ?_
                  refine W.seq ?_
                  refine W.block ?_
                  refine W.seq ?_
                  obtain ⟨x93, hj94, hb78⟩ := bs hb78
                  refine W.cutCode (fun fq wq => fq 1 = v_c ∧ fq 2 = (Value.pointer (some ⟨b1, 0, none⟩)) ∧ fq 5 = (Value.int .i64 ((c).length : Int)) ∧ fq 6 = (Value.int .i64 x13) ∧ fq 7 = (Value.int .i64 (k32 : Int)) ∧ fq 8 = (Value.int .i64 (k52 : Int)) ∧ fq 9 = (Value.int .i64 (k73 : Int)) ∧ fq 54 = Value.bool x93 ∧ St wd2 wq []) ?_ ?_
                  · refine W.region ?_
                    refine WL.val (Value.int .i64 x13) _ (op_move hf85) rfl ?_
                    refine WL.val (Value.bool (x13 == (1 : Int))) _ (op_eql rfl rfl) rfl ?_
                    refine WL.val (Value.bool (x13 == (1 : Int))) _ (op_move rfl) rfl ?_
                    rcases Bool.eq_false_or_eq_true (x13 == (1 : Int)) with hc95 | hc95
                    · replace hj94 := ip hj94 hc95
                      refine WL.grun rfl (bool_of rfl hc95) ?_
                      refine WL.val (Value.agg #[v_w_Orders, (Value.int .i64 w_Modulus), v_w_Values]) _ (op_loadBox st_34 hf83 (BoxAt.lift hS90.ext hx6) rfl rfl) rfl ?_
                      refine WL.grun rfl (bool_of rfl hc95) ?_
                      refine WL.val v_c _ (op_move hf82) rfl ?_
                      refine WL.grun rfl (bool_of rfl hc95) ?_
                      refine WL.val (Value.int .i64 (k32 : Int)) _ (op_move hf86) rfl ?_
                      refine WL.grun rfl (bool_of rfl hc95) ?_
                      refine WL.val (Value.int .i64 (k52 : Int)) _ (op_move hf87) rfl ?_
                      refine WL.grun rfl (bool_of rfl hc95) ?_
                      refine WL.val (Value.int .i64 (k73 : Int)) _ (op_move hf88) rfl ?_
                      refine WL.grun rfl (bool_of rfl hc95) ?_
                      obtain ⟨x96, hx97, hj94⟩ := bs hj94
                      refine WL.call _ (op_call fn_128 (args5 rfl rfl rfl rfl rfl)) (c_spec_l18One (Ty.lift _ (Ext.trans hE7 hS90.ext) r_w_Orders) r_w_Modulus (Ty.lift _ (Ext.trans hE7 hS90.ext) r_w_Values) (Ty.lift _ (Ext.trans hE7 hS90.ext) r_c) hr46 hr67 hr89 hx97) rfl ?_
                      rintro _ wd98 ⟨rfl, he99⟩
                      have hS101 := St.extend hS90 he99
                      replace hS101 : St wd2 wd98 [] := hS101
                      refine WL.grun rfl (bool_of rfl hc95) ?_
                      refine WL.val (Value.bool (!x96)) _ (op_not rfl) rfl ?_
                      refine WL.val (Value.bool (!x96)) _ (op_pick_t (evb_of rfl hc95) rfl) rfl ?_
                      refine WL.val (Value.bool (!x96)) _ (op_move rfl) rfl ?_
                      rcases Bool.eq_false_or_eq_true (!x96) with hc102 | hc102
                      · replace hj94 := ip hj94 hc102
                        refine WL.gskip rfl (bool_of rfl hc102) rfl ?_
                        refine WL.gskip rfl (bool_of rfl hc102) rfl ?_
                        refine WL.gskip rfl (bool_of rfl hc102) rfl ?_
                        refine WL.gskipu rfl rfl rfl ?_
                        refine WL.gskipu rfl rfl rfl ?_
                        refine WL.gskipu rfl rfl rfl ?_
                        refine WL.gskipu rfl rfl rfl ?_
                        refine WL.gskipu rfl rfl rfl ?_
                        refine WL.gskipu rfl rfl rfl ?_
                        refine WL.gskipu rfl rfl rfl ?_
                        refine WL.gskip rfl (bool_of rfl hc102) rfl ?_
                        refine WL.val (Value.bool true) _ (op_pick_t (evb_of rfl hc102) rfl) rfl ?_
                        refine WL.nil ?_
                        obtain rfl := Option.some.inj hj94
                        exact ⟨hf82, hf83, hf84, hf85, hf86, hf87, hf88, rfl, hS101⟩
                      · replace hj94 := inegb hj94 hc102
                        refine WL.grun rfl (bool_of rfl hc102) ?_
                        refine WL.val (Value.int .i64 x13) _ (op_move hf85) rfl ?_
                        refine WL.grun rfl (bool_of rfl hc102) ?_
                        refine WL.val (Value.bool (x13 == (2 : Int))) _ (op_eql rfl rfl) rfl ?_
                        refine WL.grun rfl (bool_of rfl hc102) ?_
                        refine WL.val (Value.bool (x13 == (2 : Int))) _ (op_move rfl) rfl ?_
                        rcases Bool.eq_false_or_eq_true (x13 == (2 : Int)) with hc103 | hc103
                        · replace hj94 := ip hj94 hc103
                          refine WL.grun rfl (bool_of rfl hc103) ?_
                          refine WL.val (Value.agg #[v_w_Orders, (Value.int .i64 w_Modulus), v_w_Values]) _ (op_loadBox st_34 hf83 (BoxAt.lift hS101.ext hx6) rfl rfl) rfl ?_
                          refine WL.grun rfl (bool_of rfl hc103) ?_
                          refine WL.val v_c _ (op_move hf82) rfl ?_
                          refine WL.grun rfl (bool_of rfl hc103) ?_
                          refine WL.val (Value.int .i64 (k32 : Int)) _ (op_move hf86) rfl ?_
                          refine WL.grun rfl (bool_of rfl hc103) ?_
                          refine WL.val (Value.int .i64 (k52 : Int)) _ (op_move hf87) rfl ?_
                          refine WL.grun rfl (bool_of rfl hc103) ?_
                          refine WL.val (Value.int .i64 (k73 : Int)) _ (op_move hf88) rfl ?_
                          refine WL.grun rfl (bool_of rfl hc103) ?_
                          obtain ⟨x104, hx105, hj94⟩ := bs hj94
                          refine WL.call _ (op_call fn_129 (args5 rfl rfl rfl rfl rfl)) (c_spec_l18Two (Ty.lift _ (Ext.trans hE7 hS101.ext) r_w_Orders) r_w_Modulus (Ty.lift _ (Ext.trans hE7 hS101.ext) r_w_Values) (Ty.lift _ (Ext.trans hE7 hS101.ext) r_c) hr46 hr67 hr89 hx105) rfl ?_
                          rintro _ wd106 ⟨rfl, he107⟩
                          have hS109 := St.extend hS101 he107
                          replace hS109 : St wd2 wd106 [] := hS109
                          refine WL.grun rfl (bool_of rfl hc103) ?_
                          refine WL.val (Value.bool (!x104)) _ (op_not rfl) rfl ?_
                          refine WL.grun rfl (bool_of rfl hc102) ?_
                          refine WL.val (Value.bool (!x104)) _ (op_pick_t (evb_of rfl hc103) rfl) rfl ?_
                          refine WL.val (Value.bool (!x104)) _ (op_pick_f (evb_of rfl hc102) rfl) rfl ?_
                          refine WL.nil ?_
                          obtain rfl := Option.some.inj hj94
                          exact ⟨hf82, hf83, hf84, hf85, hf86, hf87, hf88, rfl, hS109⟩
                        · replace hj94 := inegb hj94 hc103
                          refine WL.gskip rfl (bool_of rfl hc103) rfl ?_
                          refine WL.gskip rfl (bool_of rfl hc103) rfl ?_
                          refine WL.gskip rfl (bool_of rfl hc103) rfl ?_
                          refine WL.gskip rfl (bool_of rfl hc103) rfl ?_
                          refine WL.gskip rfl (bool_of rfl hc103) rfl ?_
                          refine WL.gskip rfl (bool_of rfl hc103) rfl ?_
                          refine WL.gskip rfl (bool_of rfl hc103) rfl ?_
                          refine WL.grun rfl (bool_of rfl hc102) ?_
                          refine WL.val (Value.bool false) _ (op_pick_f (evb_of rfl hc103) rfl) rfl ?_
                          refine WL.val (Value.bool false) _ (op_pick_f (evb_of rfl hc102) rfl) rfl ?_
                          refine WL.nil ?_
                          obtain rfl := Option.some.inj hj94
                          exact ⟨hf82, hf83, hf84, hf85, hf86, hf87, hf88, rfl, hS101⟩
                    · replace hj94 := inegb hj94 hc95
                      refine WL.gskip rfl (bool_of rfl hc95) rfl ?_
                      refine WL.gskip rfl (bool_of rfl hc95) rfl ?_
                      refine WL.gskip rfl (bool_of rfl hc95) rfl ?_
                      refine WL.gskip rfl (bool_of rfl hc95) rfl ?_
                      refine WL.gskip rfl (bool_of rfl hc95) rfl ?_
                      refine WL.gskip rfl (bool_of rfl hc95) rfl ?_
                      refine WL.gskip rfl (bool_of rfl hc95) rfl ?_
                      refine WL.val (Value.bool false) _ (op_pick_f (evb_of rfl hc95) rfl) rfl ?_
                      refine WL.val (Value.bool false) _ (op_move rfl) rfl ?_
                      rcases Bool.eq_false_or_eq_true false with hc110 | hc110
                      · replace hj94 := ip hj94 hc110
                        refine WL.gskip rfl (bool_of rfl hc110) rfl ?_
                        refine WL.gskip rfl (bool_of rfl hc110) rfl ?_
                        refine WL.gskip rfl (bool_of rfl hc110) rfl ?_
                        refine WL.gskipu rfl rfl rfl ?_
                        refine WL.gskipu rfl rfl rfl ?_
                        refine WL.gskipu rfl rfl rfl ?_
                        refine WL.gskipu rfl rfl rfl ?_
                        refine WL.gskipu rfl rfl rfl ?_
                        refine WL.gskipu rfl rfl rfl ?_
                        refine WL.gskipu rfl rfl rfl ?_
                        refine WL.gskip rfl (bool_of rfl hc110) rfl ?_
                        refine WL.val (Value.bool true) _ (op_pick_t (evb_of rfl hc110) rfl) rfl ?_
                        refine WL.nil ?_
                        obtain rfl := Option.some.inj hj94
                        exact ⟨hf82, hf83, hf84, hf85, hf86, hf87, hf88, rfl, hS90⟩
                      · replace hj94 := inegb hj94 hc110
                        refine WL.grun rfl (bool_of rfl hc110) ?_
                        refine WL.val (Value.int .i64 x13) _ (op_move hf85) rfl ?_
                        refine WL.grun rfl (bool_of rfl hc110) ?_
                        refine WL.val (Value.bool (x13 == (2 : Int))) _ (op_eql rfl rfl) rfl ?_
                        refine WL.grun rfl (bool_of rfl hc110) ?_
                        refine WL.val (Value.bool (x13 == (2 : Int))) _ (op_move rfl) rfl ?_
                        rcases Bool.eq_false_or_eq_true (x13 == (2 : Int)) with hc111 | hc111
                        · replace hj94 := ip hj94 hc111
                          refine WL.grun rfl (bool_of rfl hc111) ?_
                          refine WL.val (Value.agg #[v_w_Orders, (Value.int .i64 w_Modulus), v_w_Values]) _ (op_loadBox st_34 hf83 (BoxAt.lift hS90.ext hx6) rfl rfl) rfl ?_
                          refine WL.grun rfl (bool_of rfl hc111) ?_
                          refine WL.val v_c _ (op_move hf82) rfl ?_
                          refine WL.grun rfl (bool_of rfl hc111) ?_
                          refine WL.val (Value.int .i64 (k32 : Int)) _ (op_move hf86) rfl ?_
                          refine WL.grun rfl (bool_of rfl hc111) ?_
                          refine WL.val (Value.int .i64 (k52 : Int)) _ (op_move hf87) rfl ?_
                          refine WL.grun rfl (bool_of rfl hc111) ?_
                          refine WL.val (Value.int .i64 (k73 : Int)) _ (op_move hf88) rfl ?_
                          refine WL.grun rfl (bool_of rfl hc111) ?_
                          obtain ⟨x112, hx113, hj94⟩ := bs hj94
                          refine WL.call _ (op_call fn_129 (args5 rfl rfl rfl rfl rfl)) (c_spec_l18Two (Ty.lift _ (Ext.trans hE7 hS90.ext) r_w_Orders) r_w_Modulus (Ty.lift _ (Ext.trans hE7 hS90.ext) r_w_Values) (Ty.lift _ (Ext.trans hE7 hS90.ext) r_c) hr46 hr67 hr89 hx113) rfl ?_
                          rintro _ wd114 ⟨rfl, he115⟩
                          have hS117 := St.extend hS90 he115
                          replace hS117 : St wd2 wd114 [] := hS117
                          refine WL.grun rfl (bool_of rfl hc111) ?_
                          refine WL.val (Value.bool (!x112)) _ (op_not rfl) rfl ?_
                          refine WL.grun rfl (bool_of rfl hc110) ?_
                          refine WL.val (Value.bool (!x112)) _ (op_pick_t (evb_of rfl hc111) rfl) rfl ?_
                          refine WL.val (Value.bool (!x112)) _ (op_pick_f (evb_of rfl hc110) rfl) rfl ?_
                          refine WL.nil ?_
                          obtain rfl := Option.some.inj hj94
                          exact ⟨hf82, hf83, hf84, hf85, hf86, hf87, hf88, rfl, hS117⟩
                        · replace hj94 := inegb hj94 hc111
                          refine WL.gskip rfl (bool_of rfl hc111) rfl ?_
                          refine WL.gskip rfl (bool_of rfl hc111) rfl ?_
                          refine WL.gskip rfl (bool_of rfl hc111) rfl ?_
                          refine WL.gskip rfl (bool_of rfl hc111) rfl ?_
                          refine WL.gskip rfl (bool_of rfl hc111) rfl ?_
                          refine WL.gskip rfl (bool_of rfl hc111) rfl ?_
                          refine WL.gskip rfl (bool_of rfl hc111) rfl ?_
                          refine WL.grun rfl (bool_of rfl hc110) ?_
                          refine WL.val (Value.bool false) _ (op_pick_f (evb_of rfl hc111) rfl) rfl ?_
                          refine WL.val (Value.bool false) _ (op_pick_f (evb_of rfl hc110) rfl) rfl ?_
                          refine WL.nil ?_
                          obtain rfl := Option.some.inj hj94
                          exact ⟨hf82, hf83, hf84, hf85, hf86, hf87, hf88, rfl, hS90⟩
                  · intro f118 wd119 hq120
                    obtain ⟨hf121, hf122, hf123, hf124, hf125, hf126, hf127, hf128, hS129⟩ := hq120
                    refine W.cond x93 hf128 (fun hc130 => ?_) (fun hc130 => ?_)
                    · replace hb78 := ip hb78 hc130
                      refine W.seq (W.region ?_)
                      refine WL.val (Value.int .i64 x13) _ (op_move hf124) rfl ?_
                      refine WL.val (Value.int .i64 (k32 : Int)) _ (op_move hf125) rfl ?_
                      refine WL.val (Value.int .i64 (k52 : Int)) _ (op_move hf126) rfl ?_
                      refine WL.val (Value.int .i64 (k73 : Int)) _ (op_move hf127) rfl ?_
                      refine WL.litFlat (t := (Ty.i .i64)) (flat_i .i64) [(Value.int .i64 x13), (Value.int .i64 (k32 : Int)), (Value.int .i64 (k52 : Int)), (Value.int .i64 (k73 : Int))] [x13, (k32 : Int), (k52 : Int), (k73 : Int)] hS129 sl_22 rfl rfl (fillL rfl ⟨rfl, rfl, rfl, rfl, rfl, rfl, rfl, rfl, rfl, rfl, rfl, rfl, trivial⟩) rfl rfl (litL ⟨⟨rfl, hr26⟩, ⟨rfl, hr46⟩, ⟨rfl, hr67⟩, ⟨rfl, hr89⟩, trivial⟩) rfl ?_
                      intro u132 wd133 hS134 he135
                      replace hS134 : St wd2 wd133 [(Ty.sl (Ty.i .i64)).at u132 ([x13, (k32 : Int), (k52 : Int), (k73 : Int)] : (List Int))] := hS134
                      refine WL.val u132 _ (op_assign rfl) rfl ?_
                      refine WL.nil ?_
                      refine W.ret ?_
                      obtain rfl := Option.some.inj hb78
                      obtain rfl := hret81 _ rfl
                      replace hb57 := onRes_ret hb57
                      obtain rfl := Option.some.inj hb57
                      obtain rfl := hret60 _ rfl
                      replace hb37 := onRes_ret hb37
                      obtain rfl := Option.some.inj hb37
                      obtain rfl := hret40 _ rfl
                      replace hb18 := onRes_ret hb18
                      obtain rfl := Option.some.inj hb18
                      obtain rfl := hret21 _ rfl
                      replace h := onRes_ret h
                      obtain rfl := Option.some.inj h
                      show FinP _ _ _ _ _ _ _
                      exact FinP.ret _ (res1 rfl rfl) ⟨u132, rfl, (Ext.trans hE7 hS134.ext), (St.out (St.pick hS134 [0] rfl) (hE7))⟩
                    · replace hb78 := inegb hb78 hc130
                      refine W.skip ?_
                      show W _ _ _ _ _ _
                      refine W.region ?_
                      refine WL.val (Value.int .i64 (k73 : Int)) _ (op_move hf127) rfl ?_
                      refine WL.val (Value.int .i64 (w64 ((k73 : Int) + (1 : Int)))) _ (op_add rfl rfl) rfl ?_
                      refine WL.val (Value.int .i64 (w64 ((k73 : Int) + (1 : Int)))) _ (op_assign rfl) rfl ?_
                      refine WL.nil ?_
                      obtain rfl := Option.some.inj hb78
                      show ∃ s, _ = Ctl.next s ∧ _
                      exact ⟨_, rfl, hf121, hf122, hf123, hf124, hf125, hf126, (ctr_next hl91 hr9), (ctr_rng hl91 hr9), hS129⟩
                · intro s141 f137 wd138 hs139 hI140
                  obtain ⟨⟩ := s141
                  replace hI140 : f137 1 = v_c ∧ f137 2 = (Value.pointer (some ⟨b1, 0, none⟩)) ∧ f137 5 = (Value.int .i64 ((c).length : Int)) ∧ f137 6 = (Value.int .i64 x13) ∧ f137 7 = (Value.int .i64 (k32 : Int)) ∧ f137 8 = (Value.int .i64 (k52 : Int)) ∧ f137 9 = Value.int .i64 (((c).length : Nat) : Int) ∧ InR .i64 (((c).length : Nat) : Int) ∧ St wd2 wd138 [] := hI140
                  obtain ⟨hf142, hf143, hf144, hf145, hf146, hf147, hf148, hr149, hS150⟩ := hI140
                  refine W.seq (W.seq (W.region ?_))
                  refine WL.val (Value.int .i64 (((c).length : Nat) : Int)) _ (op_move hf148) rfl ?_
                  refine WL.val (Value.int .i64 ((c).length : Int)) _ (op_move hf144) rfl ?_
                  refine WL.val (Value.bool (decide ((((c).length : Nat) : Int) < ((c).length : Int)))) _ (op_lss rfl rfl) rfl ?_
                  have hl151 : ¬ (((c).length : Nat) : Int) < ((c).length : Int) := by omega
                  refine WL.nil ?_
                  refine W.condF (decide ((((c).length : Nat) : Int) < ((c).length : Int))) rfl (decide_eq_false hl151) ?_
                  refine W.exit ?_
                  show _ = _ ∧ _
                  exact ⟨rfl, _, hs139, hf142, hf143, hf144, hf145, hf146, hf147, hS150⟩
              · rintro f152 wd153 ⟨s155, rfl, hq154⟩
                replace hb57 := onRes_fin hb57
                obtain ⟨⟩ := s155
                replace hq154 : f152 1 = v_c ∧ f152 2 = (Value.pointer (some ⟨b1, 0, none⟩)) ∧ f152 5 = (Value.int .i64 ((c).length : Int)) ∧ f152 6 = (Value.int .i64 x13) ∧ f152 7 = (Value.int .i64 (k32 : Int)) ∧ f152 8 = (Value.int .i64 (k52 : Int)) ∧ St wd2 wd153 [] := hq154
                obtain ⟨hf156, hf157, hf158, hf159, hf160, hf161, hS162⟩ := hq154
                show W _ _ _ _ _ _
                refine W.region ?_
                refine WL.val (Value.int .i64 (k52 : Int)) _ (op_move hf161) rfl ?_
                refine WL.val (Value.int .i64 (w64 ((k52 : Int) + (1 : Int)))) _ (op_add rfl rfl) rfl ?_
                refine WL.val (Value.int .i64 (w64 ((k52 : Int) + (1 : Int)))) _ (op_assign rfl) rfl ?_
                refine WL.nil ?_
                obtain rfl := Option.some.inj hb57
                show ∃ s, _ = Ctl.next s ∧ _
                exact ⟨_, rfl, hf156, hf157, hf158, hf159, hf160, (ctr_next hl69 hr9), (ctr_rng hl69 hr9), hS162⟩
            · intro s169 f165 wd166 hs167 hI168
              obtain ⟨⟩ := s169
              replace hI168 : f165 1 = v_c ∧ f165 2 = (Value.pointer (some ⟨b1, 0, none⟩)) ∧ f165 5 = (Value.int .i64 ((c).length : Int)) ∧ f165 6 = (Value.int .i64 x13) ∧ f165 7 = (Value.int .i64 (k32 : Int)) ∧ f165 8 = Value.int .i64 (((c).length : Nat) : Int) ∧ InR .i64 (((c).length : Nat) : Int) ∧ St wd2 wd166 [] := hI168
              obtain ⟨hf170, hf171, hf172, hf173, hf174, hf175, hr176, hS177⟩ := hI168
              refine W.seq (W.seq (W.region ?_))
              refine WL.val (Value.int .i64 (((c).length : Nat) : Int)) _ (op_move hf175) rfl ?_
              refine WL.val (Value.int .i64 ((c).length : Int)) _ (op_move hf172) rfl ?_
              refine WL.val (Value.bool (decide ((((c).length : Nat) : Int) < ((c).length : Int)))) _ (op_lss rfl rfl) rfl ?_
              have hl178 : ¬ (((c).length : Nat) : Int) < ((c).length : Int) := by omega
              refine WL.nil ?_
              refine W.condF (decide ((((c).length : Nat) : Int) < ((c).length : Int))) rfl (decide_eq_false hl178) ?_
              refine W.exit ?_
              show _ = _ ∧ _
              exact ⟨rfl, _, hs167, hf170, hf171, hf172, hf173, hf174, hS177⟩
          · rintro f179 wd180 ⟨s182, rfl, hq181⟩
            replace hb37 := onRes_fin hb37
            obtain ⟨⟩ := s182
            replace hq181 : f179 1 = v_c ∧ f179 2 = (Value.pointer (some ⟨b1, 0, none⟩)) ∧ f179 5 = (Value.int .i64 ((c).length : Int)) ∧ f179 6 = (Value.int .i64 x13) ∧ f179 7 = (Value.int .i64 (k32 : Int)) ∧ St wd2 wd180 [] := hq181
            obtain ⟨hf183, hf184, hf185, hf186, hf187, hS188⟩ := hq181
            show W _ _ _ _ _ _
            refine W.region ?_
            refine WL.val (Value.int .i64 (k32 : Int)) _ (op_move hf187) rfl ?_
            refine WL.val (Value.int .i64 (w64 ((k32 : Int) + (1 : Int)))) _ (op_add rfl rfl) rfl ?_
            refine WL.val (Value.int .i64 (w64 ((k32 : Int) + (1 : Int)))) _ (op_assign rfl) rfl ?_
            refine WL.nil ?_
            obtain rfl := Option.some.inj hb37
            show ∃ s, _ = Ctl.next s ∧ _
            exact ⟨_, rfl, hf183, hf184, hf185, hf186, (ctr_next hl48 hr9), (ctr_rng hl48 hr9), hS188⟩
        · intro s195 f191 wd192 hs193 hI194
          obtain ⟨⟩ := s195
          replace hI194 : f191 1 = v_c ∧ f191 2 = (Value.pointer (some ⟨b1, 0, none⟩)) ∧ f191 5 = (Value.int .i64 ((c).length : Int)) ∧ f191 6 = (Value.int .i64 x13) ∧ f191 7 = Value.int .i64 (((c).length : Nat) : Int) ∧ InR .i64 (((c).length : Nat) : Int) ∧ St wd2 wd192 [] := hI194
          obtain ⟨hf196, hf197, hf198, hf199, hf200, hr201, hS202⟩ := hI194
          refine W.seq (W.seq (W.region ?_))
          refine WL.val (Value.int .i64 (((c).length : Nat) : Int)) _ (op_move hf200) rfl ?_
          refine WL.val (Value.int .i64 ((c).length : Int)) _ (op_move hf198) rfl ?_
          refine WL.val (Value.bool (decide ((((c).length : Nat) : Int) < ((c).length : Int)))) _ (op_lss rfl rfl) rfl ?_
          have hl203 : ¬ (((c).length : Nat) : Int) < ((c).length : Int) := by omega
          refine WL.nil ?_
          refine W.condF (decide ((((c).length : Nat) : Int) < ((c).length : Int))) rfl (decide_eq_false hl203) ?_
          refine W.exit ?_
          show _ = _ ∧ _
          exact ⟨rfl, _, hs193, hf196, hf197, hf198, hf199, hS202⟩
      · rintro f204 wd205 ⟨s207, rfl, hq206⟩
        replace hb18 := onRes_fin hb18
        obtain ⟨⟩ := s207
        replace hq206 : f204 1 = v_c ∧ f204 2 = (Value.pointer (some ⟨b1, 0, none⟩)) ∧ f204 5 = (Value.int .i64 ((c).length : Int)) ∧ f204 6 = (Value.int .i64 x13) ∧ St wd2 wd205 [] := hq206
        obtain ⟨hf208, hf209, hf210, hf211, hS212⟩ := hq206
        show W _ _ _ _ _ _
        refine W.region ?_
        refine WL.val (Value.int .i64 x13) _ (op_move hf211) rfl ?_
        refine WL.val (Value.int .i64 (w64 (x13 + (1 : Int)))) _ (op_add rfl rfl) rfl ?_
        refine WL.val (Value.int .i64 (w64 (x13 + (1 : Int)))) _ (op_assign rfl) rfl ?_
        refine WL.nil ?_
        obtain rfl := Option.some.inj hb18
        show ∃ s, _ = Ctl.next s ∧ _
        exact ⟨_, rfl, hf208, hf209, hf210, rfl, (inR_wrap _ _), hS212⟩
    · replace hb18 := inegb hb18 hc28
      refine W.exit ?_
      obtain rfl := Option.some.inj hb18
      show _ = _ ∧ _
      exact ⟨rfl, _, hbrk20 _ rfl, hS27⟩
  · rintro f215 wd216 ⟨x219, rfl, hq217⟩
    replace h := onRes_fin h
    replace hq217 : St wd2 wd216 [] := hq217
    have hS220 := hq217
    refine W.seq (W.region ?_)
    refine WL.val (Value.slice none 0 0) _ (op_assign rfl) rfl ?_
    refine WL.nil ?_
    refine W.ret ?_
    obtain rfl := Option.some.inj h
    show FinP _ _ _ _ _ _ _
    exact FinP.ret _ (res1 rfl rfl) ⟨(Value.slice none 0 0), rfl, (Ext.trans hE7 hS220.ext), (St.out (St.pick (St.addNil (Ty.i .i64) hS220) [0] rfl) (hE7))⟩

theorem c_spec_l18Is {w : World} {b_Cocycle_Orders : (List Int)} {v_b_Cocycle_Orders : Value} {b_Cocycle_Modulus : Int} {b_Cocycle_Values : (List (List (List Int)))} {v_b_Cocycle_Values : Value} {b_Values : (List (List Int))} {v_b_Values : Value} (r_b_Cocycle_Orders : (Ty.sl (Ty.i .i64)).rep w v_b_Cocycle_Orders b_Cocycle_Orders) (r_b_Cocycle_Modulus : InR .i64 b_Cocycle_Modulus) (r_b_Cocycle_Values : (Ty.sl (Ty.sl (Ty.sl (Ty.i .i64)))).rep w v_b_Cocycle_Values b_Cocycle_Values) (r_b_Values : (Ty.sl (Ty.sl (Ty.i .i64))).rep w v_b_Values b_Values) {res : Bool} (h : p_spec_l18Is b_Cocycle_Orders b_Cocycle_Modulus b_Cocycle_Values b_Values  = some res) :
    Ret Try.prog 42 #[(Value.agg #[v_b_Cocycle_Orders, (Value.int .i64 b_Cocycle_Modulus), v_b_Cocycle_Values, v_b_Values])] w (fun v w' => v = Value.bool res ∧ Ext w w') := by
  unfold p_spec_l18Is at h
  have hS0 : St w w [] := St.start w
  refine Ret.start (fn := Try.f42) Try.func42 rfl 14 rfl rfl ?_
  refine W.seq (W.region ?_)
  refine WL.box hS0 rfl (cs := [v_b_Cocycle_Orders, (Value.int .i64 b_Cocycle_Modulus), v_b_Cocycle_Values, v_b_Values]) rfl rfl ?_
  intro b1 wd2 hS3 he4 hx5
  replace hS3 : St w wd2 [bx b1 [v_b_Cocycle_Orders, (Value.int .i64 b_Cocycle_Modulus), v_b_Cocycle_Values, v_b_Values]] := hS3
  have hx6 := St.boxAt hS3 0 rfl
  have hE7 : Ext w wd2 := hS3.ext
  have hS8 : St wd2 wd2 [] := St.start wd2
  refine WL.val (Value.bool false) _ (op_assign rfl) rfl ?_
  refine WL.nil ?_
  refine W.seq (W.region ?_)
  refine WL.val (Value.agg #[v_b_Cocycle_Orders, (Value.int .i64 b_Cocycle_Modulus), v_b_Cocycle_Values, v_b_Values]) _ (op_loadBox st_36 rfl (BoxAt.lift hS8.ext hx6) rfl rfl) rfl ?_
  obtain ⟨x9, hx10, h⟩ := bs h
  refine WL.call _ (op_call fn_99 (args1 rfl)) (c_spec_l18Shape (Ty.lift _ (Ext.trans hE7 hS8.ext) r_b_Cocycle_Orders) r_b_Cocycle_Modulus (Ty.lift _ (Ext.trans hE7 hS8.ext) r_b_Cocycle_Values) (Ty.lift _ (Ext.trans hE7 hS8.ext) r_b_Values) hx10) rfl ?_
  rintro _ wd11 ⟨rfl, he12⟩
  have hS14 := St.extend hS8 he12
  replace hS14 : St wd2 wd11 [] := hS14
  refine WL.val (Value.bool x9) _ (op_move rfl) rfl ?_
  obtain ⟨x16, hj17, h⟩ := bs h
  refine WL.cut 8 (fun fq wq => fq 13 = Value.bool x16 ∧ St wd2 wq []) ?_ ?_
  · rcases Bool.eq_false_or_eq_true x9 with hc15 | hc15
    · replace hj17 := ip hj17 hc15
      refine WL.grun rfl (bool_of rfl hc15) ?_
      refine WL.val (Value.pointer (some ⟨b1, 0, none⟩)) _ (op_fieldAddr fd_36_0 rfl) rfl ?_
      refine WL.grun rfl (bool_of rfl hc15) ?_
      refine WL.val (Value.agg #[v_b_Cocycle_Orders, (Value.int .i64 b_Cocycle_Modulus), v_b_Cocycle_Values]) _ (op_loadBox st_34 rfl (BoxAt.lift hS14.ext hx6) rfl rfl) rfl ?_
      refine WL.grun rfl (bool_of rfl hc15) ?_
      refine WL.val (Value.pointer (some ⟨b1, 3, none⟩)) _ (op_fieldAddr fd_36_1 rfl) rfl ?_
      refine WL.grun rfl (bool_of rfl hc15) ?_
      refine WL.val v_b_Values _ (op_load one_26 rfl (BoxAt.cell (BoxAt.lift hS14.ext hx6) rfl)) rfl ?_
      refine WL.grun rfl (bool_of rfl hc15) ?_
      obtain ⟨x21, hx22, hj17⟩ := bs hj17
      refine WL.call _ (op_call fn_100 (args2 rfl rfl)) (c_spec_l18Fault (Ty.lift _ (Ext.trans hE7 hS14.ext) r_b_Cocycle_Orders) r_b_Cocycle_Modulus (Ty.lift _ (Ext.trans hE7 hS14.ext) r_b_Cocycle_Values) (Ty.lift _ (Ext.trans hE7 hS14.ext) r_b_Values) hx22) rfl ?_
      rintro u23 wd24 ⟨_, rfl, he25, hs26⟩
      have hS27 := St.join hS14 he25 hs26
      replace hS27 : St wd2 wd24 [(Ty.sl (Ty.i .i64)).at u23 x21] := hS27
      refine WL.grun rfl (bool_of rfl hc15) ?_
      have hr28 := inR_len (St.rep (t := (Ty.sl (Ty.i .i64))) hS27 0 rfl)
      refine WL.val (Value.int .i64 ((x21).length : Int)) _ (op_lenL sl_22 (St.rep (t := (Ty.sl (Ty.i .i64))) hS27 0 rfl) rfl) rfl ?_
      refine WL.grun rfl (bool_of rfl hc15) ?_
      refine WL.val (Value.bool (((x21).length : Int) == (0 : Int))) _ (op_eql rfl rfl) rfl ?_
      refine WL.val (Value.bool (((x21).length : Int) == (0 : Int))) _ (op_pick_t (evb_of rfl hc15) rfl) rfl ?_
      refine WL.nil ?_
      obtain rfl := Option.some.inj hj17
      exact ⟨rfl, rfl, (St.pick hS27 [] rfl)⟩
    · replace hj17 := inegb hj17 hc15
      refine WL.gskip rfl (bool_of rfl hc15) rfl ?_
      refine WL.gskip rfl (bool_of rfl hc15) rfl ?_
      refine WL.gskip rfl (bool_of rfl hc15) rfl ?_
      refine WL.gskip rfl (bool_of rfl hc15) rfl ?_
      refine WL.gskip rfl (bool_of rfl hc15) rfl ?_
      refine WL.gskip rfl (bool_of rfl hc15) rfl ?_
      refine WL.gskip rfl (bool_of rfl hc15) rfl ?_
      refine WL.val (Value.bool false) _ (op_pick_f (evb_of rfl hc15) rfl) rfl ?_
      refine WL.nil ?_
      obtain rfl := Option.some.inj hj17
      exact ⟨rfl, rfl, hS14⟩
  · intro f18 wd19 hq20
    obtain ⟨hf29, hS30⟩ := hq20
    refine WL.val (Value.bool x16) _ (op_assign hf29) rfl ?_
    refine WL.nil ?_
    refine W.ret ?_
    obtain rfl := Option.some.inj h
    show FinP _ _ _ _ _ _ _
    exact FinP.ret _ (res1 rfl rfl) ⟨rfl, (Ext.trans hE7 hS30.ext)⟩

theorem c_spec_l01Own {w : World} {list : (List Int)} {v_list : Value} (r_list : (Ty.sl (Ty.i .i64)).rep w v_list list) {res : (List Int)} (h : p_spec_l01Own list  = some res) :
    Ret Try.prog 45 #[v_list] w (fun v w' => ∃ (u0 : Value), v = u0 ∧ Ext w w' ∧ Sep w.heap.size w' [(Ty.sl (Ty.i .i64)).at u0 res]) := by
  unfold p_spec_l01Own at h
  have hS0 : St w w [] := St.start w
  refine Ret.start (fn := Try.f45) Try.func45 rfl 6 rfl rfl ?_
  refine W.seq (W.region ?_)
  refine WL.val (Value.slice none 0 0) _ (op_assign rfl) rfl ?_
  refine WL.nil ?_
  refine W.seq (W.region ?_)
  refine WL.lit0 (t := (Ty.i .i64)) hS0 sl_22 rfl rfl ?_
  intro u1 wd2 hS3 he4
  replace hS3 : St w wd2 [(Ty.sl (Ty.i .i64)).at u1 ([] : (List Int))] := hS3
  refine WL.val v_list _ (op_move rfl) rfl ?_
  obtain ⟨x5, hx6, h⟩ := bs h
  refine WL.append (flat_i .i64) hS3 (k := 0) rfl sl_22 rfl rfl rfl rfl (Ty.lift _ hS3.ext r_list) hx6 rfl ?_
  intro u7 wd8 hS9 hz10
  replace hS9 : St w wd8 [(Ty.sl (Ty.i .i64)).at u7 x5] := hS9
  refine WL.val u7 _ (op_assign rfl) rfl ?_
  refine WL.nil ?_
  refine W.ret ?_
  obtain rfl := Option.some.inj h
  show FinP _ _ _ _ _ _ _
  exact FinP.ret _ (res1 rfl rfl) ⟨u7, rfl, hS9.ext, (St.out (St.pick hS9 [0] rfl) (Ext.refl _))⟩

theorem c_impl_groupSize {w : World} {orders : (List Int)} {v_orders : Value} (r_orders : (Ty.sl (Ty.i .i64)).rep w v_orders orders) {res : Int} (h : p_impl_groupSize orders  = some res) :
    Ret Try.prog 107 #[v_orders] w (fun v w' => v = Value.int .i64 res ∧ InR .i64 res ∧ Ext w w') := by
  unfold p_impl_groupSize at h
  have hS0 : St w w [] := St.start w
  refine Ret.start (fn := Try.f107) Try.func107 rfl 24 rfl rfl ?_
  refine W.seq (W.region ?_)
  refine WL.val (Value.int .i64 (0 : Int)) _ (op_assign rfl) rfl ?_
  refine WL.nil ?_
  refine W.seq (W.region ?_)
  refine WL.val (Value.int .i64 (1 : Int)) _ (op_assign rfl) rfl ?_
  refine WL.nil ?_
  refine W.seq (W.seq (W.region ?_))
  refine WL.val v_orders _ (op_move rfl) rfl ?_
  have hr1 := inR_len (Ty.lift _ hS0.ext r_orders)
  refine WL.val (Value.int .i64 ((orders).length : Int)) _ (op_lenL sl_22 (Ty.lift _ hS0.ext r_orders) rfl) rfl ?_
  refine WL.val (Value.int .i64 (0 : Int)) _ (op_move rfl) rfl ?_
  refine WL.nil ?_
  show W _ _ _ _ _ _
  obtain ⟨res2, hres3, h⟩ := bs h
  refine W.blockLoop (fun fq wq => ∃ s, res2 = Res.fin s ∧ fq 0 = v_orders ∧ fq 3 = Value.int .i64 s ∧ InR .i64 s ∧ St w wq []) ?_ ?_
  · refine W.forN (fun k (s : Int) fq wq => fq 0 = v_orders ∧ fq 3 = Value.int .i64 s ∧ InR .i64 s ∧ fq 6 = v_orders ∧ fq 7 = (Value.int .i64 ((orders).length : Int)) ∧ fq 8 = Value.int .i64 (k : Int) ∧ InR .i64 (k : Int) ∧ St w wq []) hres3 ⟨rfl, rfl, (inL rfl), rfl, rfl, rfl, (inL rfl), hS0⟩ ?_ ?_
    · intro k4 x5 ct6 f7 wd8 hk9 hb10 hI11 hbrk12 hret13
      replace hI11 : f7 0 = v_orders ∧ f7 3 = Value.int .i64 x5 ∧ InR .i64 x5 ∧ f7 6 = v_orders ∧ f7 7 = (Value.int .i64 ((orders).length : Int)) ∧ f7 8 = Value.int .i64 (k4 : Int) ∧ InR .i64 (k4 : Int) ∧ St w wd8 [] := hI11
      replace hb10 : p_impl_groupSize_L1 orders k4 x5 = some ct6 := hb10
      unfold p_impl_groupSize_L1 at hb10
      obtain ⟨hf14, hf15, hr16, hf17, hf18, hf19, hr20, hS21⟩ := hI11
      refine W.seq (W.region ?_)
      refine WL.val (Value.bool (decide ((k4 : Int) < ((orders).length : Int)))) _ (op_lss hf19 hf18) rfl ?_
      have hl22 : (k4 : Int) < ((orders).length : Int) := by omega
      refine WL.nil ?_
      refine W.seq ?_
      refine W.condT (decide ((k4 : Int) < ((orders).length : Int))) rfl (decide_eq_true hl22) ?_
      refine W.skip ?_
      refine W.seq ?_
      refine W.block ?_
      refine W.seq (W.region ?_)
      obtain ⟨x24, hx27, hb10⟩ := bs hb10
      obtain ⟨ha25, hb26, hx27⟩ := idx_some hx27
      refine WL.val (Value.pointer (some (elA v_orders ((k4 : Int)).toNat))) _ (op_idx sl_22 (Ty.lift _ hS21.ext r_orders) hf17 hf19 ha25 hb26) rfl ?_
      obtain ⟨u28, hc29, hr30⟩ := repSl.el r_orders hx27
      obtain ⟨rfl, hr30⟩ := hr30
      refine WL.val (Value.int .i64 x24) _ (op_load one_2 rfl (Ext.cell hS21.ext hc29)) rfl ?_
      refine WL.val (Value.int .i64 x24) _ (op_assign rfl) rfl ?_
      refine WL.nil ?_
      refine W.seq (W.seq (W.region ?_))
      refine WL.val (Value.int .i64 x24) _ (op_move rfl) rfl ?_
      refine WL.val (Value.bool (decide (x24 < (1 : Int)))) _ (op_lss rfl rfl) rfl ?_
      refine WL.nil ?_
      refine W.cond (decide (x24 < (1 : Int))) rfl (fun hc31 => ?_) (fun hc31 => ?_)
      · replace hb10 := ip hb10 hc31
        refine W.seq (W.region ?_)
        refine WL.val (Value.int .i64 (0 : Int)) _ (op_assign rfl) rfl ?_
        refine WL.nil ?_
        refine W.ret ?_
        obtain rfl := Option.some.inj hb10
        obtain rfl := hret13 _ rfl
        replace h := onRes_ret h
        obtain rfl := Option.some.inj h
        show FinP _ _ _ _ _ _ _
        exact FinP.ret _ (res1 rfl rfl) ⟨rfl, (inL rfl), hS21.ext⟩
      · replace hb10 := inegb hb10 hc31
        refine W.skip ?_
        show W _ _ _ _ _ _
        refine W.region ?_
        refine WL.val (Value.int .i64 x5) _ (op_move hf15) rfl ?_
        refine WL.val (Value.int .i64 x24) _ (op_move rfl) rfl ?_
        refine WL.val (Value.int .i64 (if (17 : Int) < x24 then (17 : Int) else x24)) _ (op_min2 rfl rfl) rfl ?_
        refine WL.val (Value.int .i64 (w64 (x5 * (if (17 : Int) < x24 then (17 : Int) else x24)))) _ (op_mul rfl rfl) rfl ?_
        refine WL.val (Value.int .i64 (if (w64 (x5 * (if (17 : Int) < x24 then (17 : Int) else x24))) < (17 : Int) then (w64 (x5 * (if (17 : Int) < x24 then (17 : Int) else x24))) else (17 : Int))) _ (op_min2 rfl rfl) rfl ?_
        refine WL.val (Value.int .i64 (if (w64 (x5 * (if (17 : Int) < x24 then (17 : Int) else x24))) < (17 : Int) then (w64 (x5 * (if (17 : Int) < x24 then (17 : Int) else x24))) else (17 : Int))) _ (op_assign rfl) rfl ?_
        refine WL.nil ?_
        show W _ _ _ _ _ _
        refine W.region ?_
        refine WL.val (Value.int .i64 (w64 ((k4 : Int) + (1 : Int)))) _ (op_add hf19 rfl) rfl ?_
        refine WL.val (Value.int .i64 (w64 ((k4 : Int) + (1 : Int)))) _ (op_move rfl) rfl ?_
        refine WL.nil ?_
        obtain rfl := Option.some.inj hb10
        show ∃ s, _ = Ctl.next s ∧ _
        exact ⟨_, rfl, hf14, rfl, (inR_ite (inR_wrap _ _) (inL rfl)), hf17, hf18, (ctr_next hl22 hr1), (ctr_rng hl22 hr1), hS21⟩
    · intro x39 f34 wd35 hs36 hI37
      replace hI37 : f34 0 = v_orders ∧ f34 3 = Value.int .i64 x39 ∧ InR .i64 x39 ∧ f34 6 = v_orders ∧ f34 7 = (Value.int .i64 ((orders).length : Int)) ∧ f34 8 = Value.int .i64 (((orders).length : Nat) : Int) ∧ InR .i64 (((orders).length : Nat) : Int) ∧ St w wd35 [] := hI37
      obtain ⟨hf40, hf41, hr42, hf43, hf44, hf45, hr46, hS47⟩ := hI37
      refine W.seq (W.region ?_)
      refine WL.val (Value.bool (decide ((((orders).length : Nat) : Int) < ((orders).length : Int)))) _ (op_lss hf45 hf44) rfl ?_
      have hl48 : ¬ (((orders).length : Nat) : Int) < ((orders).length : Int) := by omega
      refine WL.nil ?_
      refine W.seq ?_
      refine W.condF (decide ((((orders).length : Nat) : Int) < ((orders).length : Int))) rfl (decide_eq_false hl48) ?_
      refine W.exit ?_
      show _ = _ ∧ _
      exact ⟨rfl, _, hs36, hf40, hf41, hr42, hS47⟩
  · rintro f49 wd50 ⟨x53, rfl, hq51⟩
    replace h := onRes_fin h
    replace hq51 : f49 0 = v_orders ∧ f49 3 = Value.int .i64 x53 ∧ InR .i64 x53 ∧ St w wd50 [] := hq51
    obtain ⟨hf54, hf55, hr56, hS57⟩ := hq51
    refine W.seq (W.seq (W.region ?_))
    refine WL.val v_orders _ (op_move hf54) rfl ?_
    have hr58 := inR_len (Ty.lift _ hS57.ext r_orders)
    refine WL.val (Value.int .i64 ((orders).length : Int)) _ (op_lenL sl_22 (Ty.lift _ hS57.ext r_orders) rfl) rfl ?_
    refine WL.val (Value.bool (((orders).length : Int) == (0 : Int))) _ (op_eql rfl rfl) rfl ?_
    refine WL.nil ?_
    refine W.cond (((orders).length : Int) == (0 : Int)) rfl (fun hc59 => ?_) (fun hc59 => ?_)
    · replace h := ip h hc59
      refine W.seq (W.region ?_)
      refine WL.val (Value.int .i64 (0 : Int)) _ (op_assign rfl) rfl ?_
      refine WL.nil ?_
      refine W.ret ?_
      obtain rfl := Option.some.inj h
      show FinP _ _ _ _ _ _ _
      exact FinP.ret _ (res1 rfl rfl) ⟨rfl, (inL rfl), hS57.ext⟩
    · replace h := inegb h hc59
      refine W.skip ?_
      refine W.seq (W.region ?_)
      refine WL.val (Value.int .i64 x53) _ (op_move hf55) rfl ?_
      refine WL.val (Value.int .i64 x53) _ (op_assign rfl) rfl ?_
      refine WL.nil ?_
      refine W.ret ?_
      obtain rfl := Option.some.inj h
      show FinP _ _ _ _ _ _ _
      exact FinP.ret _ (res1 rfl rfl) ⟨rfl, hr56, hS57.ext⟩

theorem c_impl_within {w : World} {n : Int} {low : Int} {high : Int} (r_n : InR .i64 n) (r_low : InR .i64 low) (r_high : InR .i64 high) {res : Bool} (h : p_impl_within n low high  = some res) :
    Ret Try.prog 86 #[(Value.int .i64 n), (Value.int .i64 low), (Value.int .i64 high)] w (fun v w' => v = Value.bool res ∧ Ext w w') := by
  unfold p_impl_within at h
  have hS0 : St w w [] := St.start w
  refine Ret.start (fn := Try.f86) Try.func86 rfl 15 rfl rfl ?_
  refine W.seq (W.region ?_)
  refine WL.val (Value.bool false) _ (op_assign rfl) rfl ?_
  refine WL.nil ?_
  refine W.seq (W.region ?_)
  refine WL.val (Value.int .i64 n) _ (op_move rfl) rfl ?_
  refine WL.val (Value.int .i64 low) _ (op_move rfl) rfl ?_
  refine WL.val (Value.bool (decide (n ≥ low))) _ (op_geq rfl rfl) rfl ?_
  refine WL.val (Value.bool (decide (n ≥ low))) _ (op_move rfl) rfl ?_
  refine WL.cut 4 (fun fq wq => fq 14 = (Value.bool ((decide (n ≥ low)) && (decide (n ≤ high)))) ∧ St w wq []) ?_ ?_
  · rcases Bool.eq_false_or_eq_true (decide (n ≥ low)) with hc1 | hc1
    · refine WL.grun rfl (bool_of rfl hc1) ?_
      refine WL.val (Value.int .i64 n) _ (op_move rfl) rfl ?_
      refine WL.grun rfl (bool_of rfl hc1) ?_
      refine WL.val (Value.int .i64 high) _ (op_move rfl) rfl ?_
      refine WL.grun rfl (bool_of rfl hc1) ?_
      refine WL.val (Value.bool (decide (n ≤ high))) _ (op_leq rfl rfl) rfl ?_
      refine WL.val (Value.bool (decide (n ≤ high))) _ (op_pick_t (evb_of rfl hc1) rfl) rfl ?_
      refine WL.nil ?_
      exact ⟨rfl, (andT hc1), hS0⟩
    · refine WL.gskip rfl (bool_of rfl hc1) rfl ?_
      refine WL.gskip rfl (bool_of rfl hc1) rfl ?_
      refine WL.gskip rfl (bool_of rfl hc1) rfl ?_
      refine WL.val (Value.bool false) _ (op_pick_f (evb_of rfl hc1) rfl) rfl ?_
      refine WL.nil ?_
      exact ⟨rfl, (andF hc1), hS0⟩
  · intro f2 wd3 hq4
    obtain ⟨hf5, hS6⟩ := hq4
    refine WL.val (Value.bool ((decide (n ≥ low)) && (decide (n ≤ high)))) _ (op_assign hf5) rfl ?_
    refine WL.nil ?_
    refine W.ret ?_
    obtain rfl := Option.some.inj h
    show FinP _ _ _ _ _ _ _
    exact FinP.ret _ (res1 rfl rfl) ⟨rfl, hS6.ext⟩

theorem c_impl_isModulus {w : World} {m : Int} (r_m : InR .i64 m) {res : Bool} (h : p_impl_isModulus m  = some res) :
    Ret Try.prog 118 #[(Value.int .i64 m)] w (fun v w' => v = Value.bool res ∧ Ext w w') := by
  unfold p_impl_isModulus at h
  have hS0 : St w w [] := St.start w
  refine Ret.start (fn := Try.f118) Try.func118 rfl 5 rfl rfl ?_
  refine W.seq (W.region ?_)
  refine WL.val (Value.bool false) _ (op_assign rfl) rfl ?_
  refine WL.nil ?_
  refine W.seq (W.region ?_)
  refine WL.val (Value.int .i64 m) _ (op_move rfl) rfl ?_
  obtain ⟨x1, hx2, h⟩ := bs h
  refine WL.call _ (op_call fn_86 (args3 rfl rfl rfl)) (c_impl_within r_m (inL rfl) (inL rfl) hx2) rfl ?_
  rintro _ wd3 ⟨rfl, he4⟩
  have hS6 := St.extend hS0 he4
  replace hS6 : St w wd3 [] := hS6
  refine WL.val (Value.bool x1) _ (op_assign rfl) rfl ?_
  refine WL.nil ?_
  refine W.ret ?_
  obtain rfl := Option.some.inj h
  show FinP _ _ _ _ _ _ _
  exact FinP.ret _ (res1 rfl rfl) ⟨rfl, hS6.ext⟩

theorem c_impl_allWithin_c1 {w : World} {n : Int} {b_c0 : Nat} {c0 : Int} {b_c1 : Nat} {c1 : Int} (r_n : InR .i64 n) (k_c0 : BoxAt w b_c0 [(Value.int .i64 c0)]) (r_c0 : InR .i64 c0) (k_c1 : BoxAt w b_c1 [(Value.int .i64 c1)]) (r_c1 : InR .i64 c1) {res : Bool} (h : p_impl_allWithin_c1 n c0 c1 = some res) :
    Ret Try.prog 133 #[(Value.int .i64 n), (Value.pointer (some ⟨b_c0, 0, none⟩)), (Value.pointer (some ⟨b_c1, 0, none⟩))] w (fun v w' => v = Value.bool res ∧ Ext w w') := by
  unfold p_impl_allWithin_c1 at h
  have hS0 : St w w [] := St.start w
  refine Ret.start (fn := Try.f133) Try.func133 rfl 10 rfl rfl ?_
  refine W.seq (W.region ?_)
  refine WL.val (Value.bool false) _ (op_assign rfl) rfl ?_
  refine WL.nil ?_
  refine W.seq (W.region ?_)
  refine WL.val (Value.int .i64 n) _ (op_move rfl) rfl ?_
  refine WL.val (Value.int .i64 c0) _ (op_load one_2 rfl (BoxAt.cell (BoxAt.lift hS0.ext k_c0) rfl)) rfl ?_
  refine WL.val (Value.int .i64 c1) _ (op_load one_2 rfl (BoxAt.cell (BoxAt.lift hS0.ext k_c1) rfl)) rfl ?_
  obtain ⟨x1, hx2, h⟩ := bs h
  refine WL.call _ (op_call fn_86 (args3 rfl rfl rfl)) (c_impl_within r_n r_c0 r_c1 hx2) rfl ?_
  rintro _ wd3 ⟨rfl, he4⟩
  have hS6 := St.extend hS0 he4
  replace hS6 : St w wd3 [] := hS6
  refine WL.val (Value.bool (!x1)) _ (op_not rfl) rfl ?_
  refine WL.val (Value.bool (!x1)) _ (op_assign rfl) rfl ?_
  refine WL.nil ?_
  refine W.ret ?_
  obtain rfl := Option.some.inj h
  show FinP _ _ _ _ _ _ _
  exact FinP.ret _ (res1 rfl rfl) ⟨rfl, hS6.ext⟩

theorem c_slices_IndexFunc_Lint64_int64 {w : World} {s1 : (List Int)} {v_s1 : Value} {f1 : Int → Option Bool} {v_f1 : Value} (r_s1 : (Ty.sl (Ty.i .i64)).rep w v_s1 s1) (r_f1 : FnT_i_to_b Try.prog v_f1 w f1) {res : Int} (h : p_slices_IndexFunc_Lint64_int64 s1 f1  = some res) :
    Ret Try.prog 141 #[v_s1, v_f1] w (fun v w' => v = Value.int .i64 res ∧ InR .i64 res ∧ Ext w w') := by
  unfold p_slices_IndexFunc_Lint64_int64 at h
  have hS0 : St w w [] := St.start w
  have q_f1 := r_f1
  obtain ⟨g_f1, fst_f1, cap_f1, eq_f1, ok_f1, call_f1⟩ := q_f1
  subst eq_f1
  refine Ret.start (fn := Try.f141) Try.func141 rfl 19 rfl rfl ?_
  refine W.seq (W.region ?_)
  refine WL.val (Value.int .i64 (0 : Int)) _ (op_assign rfl) rfl ?_
  refine WL.nil ?_
  refine W.seq (W.seq (W.region ?_))
  refine WL.val v_s1 _ (op_move rfl) rfl ?_
  have hr1 := inR_len (Ty.lift _ hS0.ext r_s1)
  refine WL.val (Value.int .i64 ((s1).length : Int)) _ (op_lenL sl_22 (Ty.lift _ hS0.ext r_s1) rfl) rfl ?_
  refine WL.val (Value.int .i64 (0 : Int)) _ (op_move rfl) rfl ?_
  refine WL.nil ?_
  show W _ _ _ _ _ _
  obtain ⟨res2, hres3, h⟩ := bs h
  refine W.blockLoop (fun fq wq => ∃ s, res2 = Res.fin s ∧ St w wq []) ?_ ?_
  · refine W.forN (fun k (s : Unit) fq wq => fq 0 = v_s1 ∧ fq 1 = (Value.func (.func g_f1) fst_f1 cap_f1) ∧ fq 7 = (Value.int .i64 ((s1).length : Int)) ∧ fq 8 = Value.int .i64 (k : Int) ∧ InR .i64 (k : Int) ∧ St w wq []) hres3 ⟨rfl, rfl, rfl, rfl, (inL rfl), hS0⟩ ?_ ?_
    · intro k4 s36 ct5 f6 wd7 hk8 hb9 hI10 hbrk11 hret12
      obtain ⟨⟩ := s36
      replace hI10 : f6 0 = v_s1 ∧ f6 1 = (Value.func (.func g_f1) fst_f1 cap_f1) ∧ f6 7 = (Value.int .i64 ((s1).length : Int)) ∧ f6 8 = Value.int .i64 (k4 : Int) ∧ InR .i64 (k4 : Int) ∧ St w wd7 [] := hI10
      replace hb9 : p_slices_IndexFunc_Lint64_int64_L1 s1 f1 k4  = some ct5 := hb9
      unfold p_slices_IndexFunc_Lint64_int64_L1 at hb9
      obtain ⟨hf13, hf14, hf15, hf16, hr17, hS18⟩ := hI10
      refine W.seq (W.region ?_)
      refine WL.val (Value.bool (decide ((k4 : Int) < ((s1).length : Int)))) _ (op_lss hf16 hf15) rfl ?_
      have hl19 : (k4 : Int) < ((s1).length : Int) := by omega
      refine WL.nil ?_
      refine W.seq ?_
      refine W.condT (decide ((k4 : Int) < ((s1).length : Int))) rfl (decide_eq_true hl19) ?_
      refine W.skip ?_
      refine W.seq ?_
      refine W.block ?_
      refine W.seq (W.region ?_)
      refine WL.val (Value.int .i64 (k4 : Int)) _ (op_move hf16) rfl ?_
      refine WL.val (Value.int .i64 (k4 : Int)) _ (op_assign rfl) rfl ?_
      refine WL.nil ?_
      refine W.seq (W.region ?_)
      refine WL.val (Value.func (.func g_f1) fst_f1 cap_f1) _ (op_move hf14) rfl ?_
      refine WL.val v_s1 _ (op_move hf13) rfl ?_
      refine WL.val (Value.int .i64 (k4 : Int)) _ (op_move rfl) rfl ?_
      obtain ⟨x21, hx24, hb9⟩ := bs hb9
      obtain ⟨ha22, hb23, hx24⟩ := idx_some hx24
      refine WL.val (Value.pointer (some (elA v_s1 ((k4 : Int)).toNat))) _ (op_idx sl_22 (Ty.lift _ hS18.ext r_s1) rfl rfl ha22 hb23) rfl ?_
      obtain ⟨u25, hc26, hr27⟩ := repSl.el r_s1 hx24
      obtain ⟨rfl, hr27⟩ := hr27
      refine WL.val (Value.int .i64 x21) _ (op_load one_2 rfl (Ext.cell hS18.ext hc26)) rfl ?_
      obtain ⟨x28, hx29, hb9⟩ := bs hb9
      refine WL.call _ (op_callV rfl ok_f1 (args1 rfl)) (call_f1 wd7 x21 x28 hS18.ext hr27 hx29) rfl ?_
      rintro _ wd30 ⟨rfl, he31⟩
      have hS33 := St.extend hS18 he31
      refine WL.nil ?_
      refine W.cond x28 rfl (fun hc34 => ?_) (fun hc34 => ?_)
      · replace hb9 := ip hb9 hc34
        refine W.seq (W.region ?_)
        refine WL.val (Value.int .i64 (k4 : Int)) _ (op_move rfl) rfl ?_
        refine WL.val (Value.int .i64 (k4 : Int)) _ (op_assign rfl) rfl ?_
        refine WL.nil ?_
        refine W.ret ?_
        obtain rfl := Option.some.inj hb9
        obtain rfl := hret12 _ rfl
        replace h := onRes_ret h
        obtain rfl := Option.some.inj h
        show FinP _ _ _ _ _ _ _
        exact FinP.ret _ (res1 rfl rfl) ⟨rfl, hr17, hS33.ext⟩
      · replace hb9 := inegb hb9 hc34
        refine W.skip ?_
        show W _ _ _ _ _ _
        refine W.region ?_
        refine WL.val (Value.int .i64 (w64 ((k4 : Int) + (1 : Int)))) _ (op_add hf16 rfl) rfl ?_
        refine WL.val (Value.int .i64 (w64 ((k4 : Int) + (1 : Int)))) _ (op_move rfl) rfl ?_
        refine WL.nil ?_
        obtain rfl := Option.some.inj hb9
        show ∃ s, _ = Ctl.next s ∧ _
        exact ⟨_, rfl, hf13, hf14, hf15, (ctr_next hl19 hr1), (ctr_rng hl19 hr1), hS33⟩
    · intro s41 f37 wd38 hs39 hI40
      obtain ⟨⟩ := s41
      replace hI40 : f37 0 = v_s1 ∧ f37 1 = (Value.func (.func g_f1) fst_f1 cap_f1) ∧ f37 7 = (Value.int .i64 ((s1).length : Int)) ∧ f37 8 = Value.int .i64 (((s1).length : Nat) : Int) ∧ InR .i64 (((s1).length : Nat) : Int) ∧ St w wd38 [] := hI40
      obtain ⟨hf42, hf43, hf44, hf45, hr46, hS47⟩ := hI40
      refine W.seq (W.region ?_)
      refine WL.val (Value.bool (decide ((((s1).length : Nat) : Int) < ((s1).length : Int)))) _ (op_lss hf45 hf44) rfl ?_
      have hl48 : ¬ (((s1).length : Nat) : Int) < ((s1).length : Int) := by omega
      refine WL.nil ?_
      refine W.seq ?_
      refine W.condF (decide ((((s1).length : Nat) : Int) < ((s1).length : Int))) rfl (decide_eq_false hl48) ?_
      refine W.exit ?_
      show _ = _ ∧ _
      exact ⟨rfl, _, hs39, hS47⟩
  · rintro f49 wd50 ⟨s52, rfl, hq51⟩
    replace h := onRes_fin h
    obtain ⟨⟩ := s52
    replace hq51 : St w wd50 [] := hq51
    have hS53 := hq51
    refine W.seq (W.region ?_)
    refine WL.val (Value.int .i64 (-1 : Int)) _ (op_assign rfl) rfl ?_
    refine WL.nil ?_
    refine W.ret ?_
    obtain rfl := Option.some.inj h
    show FinP _ _ _ _ _ _ _
    exact FinP.ret _ (res1 rfl rfl) ⟨rfl, (inR_i64.2 (show (-9223372036854775808 : Int) ≤ -1 ∧ (-1 : Int) ≤ 9223372036854775807 from by decide)), hS53.ext⟩

theorem c_slices_ContainsFunc_Lint64_int64 {w : World} {s1 : (List Int)} {v_s1 : Value} {f1 : Int → Option Bool} {v_f1 : Value} (r_s1 : (Ty.sl (Ty.i .i64)).rep w v_s1 s1) (r_f1 : FnT_i_to_b Try.prog v_f1 w f1) {res : Bool} (h : p_slices_ContainsFunc_Lint64_int64 s1 f1  = some res) :
    Ret Try.prog 132 #[v_s1, v_f1] w (fun v w' => v = Value.bool res ∧ Ext w w') := by
  unfold p_slices_ContainsFunc_Lint64_int64 at h
  have hS0 : St w w [] := St.start w
  have q_f1 := r_f1
  obtain ⟨g_f1, fst_f1, cap_f1, eq_f1, ok_f1, call_f1⟩ := q_f1
  subst eq_f1
  refine Ret.start (fn := Try.f132) Try.func132 rfl 9 rfl rfl ?_
  refine W.seq (W.region ?_)
  refine WL.val (Value.bool false) _ (op_assign rfl) rfl ?_
  refine WL.nil ?_
  refine W.seq (W.region ?_)
  refine WL.val v_s1 _ (op_move rfl) rfl ?_
  refine WL.val (Value.func (.func g_f1) fst_f1 cap_f1) _ (op_move rfl) rfl ?_
  obtain ⟨x1, hx2, h⟩ := bs h
  refine WL.call _ (op_call fn_141 (args2 rfl rfl)) (c_slices_IndexFunc_Lint64_int64 (Ty.lift _ hS0.ext r_s1) (FnT_i_to_b.lift hS0.ext r_f1) hx2) rfl ?_
  rintro _ wd4 ⟨rfl, hr3, he5⟩
  have hS7 := St.extend hS0 he5
  replace hS7 : St w wd4 [] := hS7
  refine WL.val (Value.bool (decide (x1 ≥ (0 : Int)))) _ (op_geq rfl rfl) rfl ?_
  refine WL.val (Value.bool (decide (x1 ≥ (0 : Int)))) _ (op_assign rfl) rfl ?_
  refine WL.nil ?_
  refine W.ret ?_
  obtain rfl := Option.some.inj h
  show FinP _ _ _ _ _ _ _
  exact FinP.ret _ (res1 rfl rfl) ⟨rfl, hS7.ext⟩

theorem c_impl_allWithin {w : World} {list : (List Int)} {v_list : Value} {low : Int} {high : Int} (r_list : (Ty.sl (Ty.i .i64)).rep w v_list list) (r_low : InR .i64 low) (r_high : InR .i64 high) {res : Bool} (h : p_impl_allWithin list low high  = some res) :
    Ret Try.prog 106 #[v_list, (Value.int .i64 low), (Value.int .i64 high)] w (fun v w' => v = Value.bool res ∧ Ext w w') := by
  unfold p_impl_allWithin at h
  have hS0 : St w w [] := St.start w
  refine Ret.start (fn := Try.f106) Try.func106 rfl 11 rfl rfl ?_
  refine W.seq (W.region ?_)
  refine WL.box hS0 rfl (cs := [(Value.int .i64 low)]) rfl rfl ?_
  intro b1 wd2 hS3 he4 hx5
  replace hS3 : St w wd2 [bx b1 [(Value.int .i64 low)]] := hS3
  have hx6 := St.boxAt hS3 0 rfl
  have hE7 : Ext w wd2 := hS3.ext
  have hS8 : St wd2 wd2 [] := St.start wd2
  refine WL.box hS8 rfl (cs := [(Value.int .i64 high)]) rfl rfl ?_
  intro b9 wd10 hS11 he12 hx13
  replace hS11 : St wd2 wd10 [bx b9 [(Value.int .i64 high)]] := hS11
  have hx14 := St.boxAt hS11 0 rfl
  have hE15 : Ext w wd10 := (Ext.trans hE7 hS11.ext)
  have hE16 : Ext wd2 wd10 := hS11.ext
  have hS17 : St wd10 wd10 [] := St.start wd10
  refine WL.val (Value.bool false) _ (op_assign rfl) rfl ?_
  refine WL.nil ?_
  refine W.seq (W.region ?_)
  refine WL.val v_list _ (op_move rfl) rfl ?_
  refine WL.val (Value.func (.func 133) #[] #[(Value.pointer (some ⟨b1, 0, none⟩)), (Value.pointer (some ⟨b9, 0, none⟩))]) _ (op_makeFunc (va := #[]) (vb := #[(Value.pointer (some ⟨b1, 0, none⟩)), (Value.pointer (some ⟨b9, 0, none⟩))]) args0 (args2 rfl rfl)) rfl ?_
  obtain ⟨x22, hx23, h⟩ := bs h
  refine WL.call _ (op_call fn_132 (args2 rfl rfl)) (c_slices_ContainsFunc_Lint64_int64 (Ty.lift _ (Ext.trans hE15 hS17.ext) r_list) (⟨133, #[], #[(Value.pointer (some ⟨b1, 0, none⟩)), (Value.pointer (some ⟨b9, 0, none⟩))], rfl, fn_133, fun wd18 a0_19 r20 he19 ra0_19 hq21 => c_impl_allWithin_c1 ra0_19 (BoxAt.lift (Ext.trans (Ext.trans hE16 hS17.ext) he19) hx6) r_low (BoxAt.lift (Ext.trans hS17.ext he19) hx14) r_high hq21⟩) hx23) rfl ?_
  rintro _ wd24 ⟨rfl, he25⟩
  have hS27 := St.extend hS17 he25
  replace hS27 : St wd10 wd24 [] := hS27
  refine WL.val (Value.bool (!x22)) _ (op_not rfl) rfl ?_
  refine WL.val (Value.bool (!x22)) _ (op_assign rfl) rfl ?_
  refine WL.nil ?_
  refine W.ret ?_
  obtain rfl := Option.some.inj h
  show FinP _ _ _ _ _ _ _
  exact FinP.ret _ (res1 rfl rfl) ⟨rfl, (Ext.trans hE15 hS27.ext)⟩

theorem c_impl_isGrid_c1 {w : World} {row : (List Int)} {v_row : Value} {b_c0 : Nat} {c0 : Int} {b_c1 : Nat} {c1 : Int} (r_row : (Ty.sl (Ty.i .i64)).rep w v_row row) (k_c0 : BoxAt w b_c0 [(Value.int .i64 c0)]) (r_c0 : InR .i64 c0) (k_c1 : BoxAt w b_c1 [(Value.int .i64 c1)]) (r_c1 : InR .i64 c1) {res : Bool} (h : p_impl_isGrid_c1 row c0 c1 = some res) :
    Ret Try.prog 138 #[v_row, (Value.pointer (some ⟨b_c0, 0, none⟩)), (Value.pointer (some ⟨b_c1, 0, none⟩))] w (fun v w' => v = Value.bool res ∧ Ext w w') := by
  unfold p_impl_isGrid_c1 at h
  have hS0 : St w w [] := St.start w
  refine Ret.start (fn := Try.f138) Try.func138 rfl 16 rfl rfl ?_
  refine W.seq (W.region ?_)
  refine WL.val (Value.bool false) _ (op_assign rfl) rfl ?_
  refine WL.nil ?_
  refine W.seq (W.region ?_)
  refine WL.val v_row _ (op_move rfl) rfl ?_
  have hr1 := inR_len (Ty.lift _ hS0.ext r_row)
  refine WL.val (Value.int .i64 ((row).length : Int)) _ (op_lenL sl_22 (Ty.lift _ hS0.ext r_row) rfl) rfl ?_
  refine WL.val (Value.int .i64 c0) _ (op_load one_3 rfl (BoxAt.cell (BoxAt.lift hS0.ext k_c0) rfl)) rfl ?_
  refine WL.val (Value.bool (((row).length : Int) != c0)) _ (op_neq rfl rfl) rfl ?_
  refine WL.val (Value.bool (((row).length : Int) != c0)) _ (op_move rfl) rfl ?_
  obtain ⟨x3, hj4, h⟩ := bs h
  refine WL.cut 6 (fun fq wq => fq 15 = Value.bool x3 ∧ St w wq []) ?_ ?_
  · rcases Bool.eq_false_or_eq_true (((row).length : Int) != c0) with hc2 | hc2
    · replace hj4 := ip hj4 hc2
      refine WL.gskip rfl (bool_of rfl hc2) rfl ?_
      refine WL.gskip rfl (bool_of rfl hc2) rfl ?_
      refine WL.gskip rfl (bool_of rfl hc2) rfl ?_
      refine WL.gskip rfl (bool_of rfl hc2) rfl ?_
      refine WL.gskip rfl (bool_of rfl hc2) rfl ?_
      refine WL.val (Value.bool true) _ (op_pick_t (evb_of rfl hc2) rfl) rfl ?_
      refine WL.nil ?_
      obtain rfl := Option.some.inj hj4
      exact ⟨rfl, rfl, hS0⟩
    · replace hj4 := inegb hj4 hc2
      refine WL.grun rfl (bool_of rfl hc2) ?_
      refine WL.val v_row _ (op_move rfl) rfl ?_
      refine WL.grun rfl (bool_of rfl hc2) ?_
      refine WL.val (Value.int .i64 c1) _ (op_load one_2 rfl (BoxAt.cell (BoxAt.lift hS0.ext k_c1) rfl)) rfl ?_
      refine WL.grun rfl (bool_of rfl hc2) ?_
      refine WL.val (Value.int .i64 (w64 (c1 - (1 : Int)))) _ (op_sub rfl rfl) rfl ?_
      refine WL.grun rfl (bool_of rfl hc2) ?_
      obtain ⟨x8, hx9, hj4⟩ := bs hj4
      refine WL.call _ (op_call fn_106 (args3 rfl rfl rfl)) (c_impl_allWithin (Ty.lift _ hS0.ext r_row) (inL rfl) (inR_wrap _ _) hx9) rfl ?_
      rintro _ wd10 ⟨rfl, he11⟩
      have hS13 := St.extend hS0 he11
      replace hS13 : St w wd10 [] := hS13
      refine WL.grun rfl (bool_of rfl hc2) ?_
      refine WL.val (Value.bool (!x8)) _ (op_not rfl) rfl ?_
      refine WL.val (Value.bool (!x8)) _ (op_pick_f (evb_of rfl hc2) rfl) rfl ?_
      refine WL.nil ?_
      obtain rfl := Option.some.inj hj4
      exact ⟨rfl, rfl, hS13⟩
  · intro f5 wd6 hq7
    obtain ⟨hf14, hS15⟩ := hq7
    refine WL.val (Value.bool x3) _ (op_assign hf14) rfl ?_
    refine WL.nil ?_
    refine W.ret ?_
    obtain rfl := Option.some.inj h
    show FinP _ _ _ _ _ _ _
    exact FinP.ret _ (res1 rfl rfl) ⟨rfl, hS15.ext⟩

theorem c_slices_IndexFunc_LLint64_Lint64 {w : World} {s1 : (List (List Int))} {v_s1 : Value} {f1 : (List Int) → Option Bool} {v_f1 : Value} (r_s1 : (Ty.sl (Ty.sl (Ty.i .i64))).rep w v_s1 s1) (r_f1 : FnT_li_to_b Try.prog v_f1 w f1) {res : Int} (h : p_slices_IndexFunc_LLint64_Lint64 s1 f1  = some res) :
    Ret Try.prog 142 #[v_s1, v_f1] w (fun v w' => v = Value.int .i64 res ∧ InR .i64 res ∧ Ext w w') := by
  unfold p_slices_IndexFunc_LLint64_Lint64 at h
  have hS0 : St w w [] := St.start w
  have q_f1 := r_f1
  obtain ⟨g_f1, fst_f1, cap_f1, eq_f1, ok_f1, call_f1⟩ := q_f1
  subst eq_f1
  refine Ret.start (fn := Try.f142) Try.func142 rfl 19 rfl rfl ?_
  refine W.seq (W.region ?_)
  refine WL.val (Value.int .i64 (0 : Int)) _ (op_assign rfl) rfl ?_
  refine WL.nil ?_
  refine W.seq (W.seq (W.region ?_))
  refine WL.val v_s1 _ (op_move rfl) rfl ?_
  have hr1 := inR_len (Ty.lift _ hS0.ext r_s1)
  refine WL.val (Value.int .i64 ((s1).length : Int)) _ (op_lenL sl_26 (Ty.lift _ hS0.ext r_s1) rfl) rfl ?_
  refine WL.val (Value.int .i64 (0 : Int)) _ (op_move rfl) rfl ?_
  refine WL.nil ?_
  show W _ _ _ _ _ _
  obtain ⟨res2, hres3, h⟩ := bs h
  refine W.blockLoop (fun fq wq => ∃ s, res2 = Res.fin s ∧ St w wq []) ?_ ?_
  · refine W.forN (fun k (s : Unit) fq wq => fq 0 = v_s1 ∧ fq 1 = (Value.func (.func g_f1) fst_f1 cap_f1) ∧ fq 7 = (Value.int .i64 ((s1).length : Int)) ∧ fq 8 = Value.int .i64 (k : Int) ∧ InR .i64 (k : Int) ∧ St w wq []) hres3 ⟨rfl, rfl, rfl, rfl, (inL rfl), hS0⟩ ?_ ?_
    · intro k4 s36 ct5 f6 wd7 hk8 hb9 hI10 hbrk11 hret12
      obtain ⟨⟩ := s36
      replace hI10 : f6 0 = v_s1 ∧ f6 1 = (Value.func (.func g_f1) fst_f1 cap_f1) ∧ f6 7 = (Value.int .i64 ((s1).length : Int)) ∧ f6 8 = Value.int .i64 (k4 : Int) ∧ InR .i64 (k4 : Int) ∧ St w wd7 [] := hI10
      replace hb9 : p_slices_IndexFunc_LLint64_Lint64_L1 s1 f1 k4  = some ct5 := hb9
      unfold p_slices_IndexFunc_LLint64_Lint64_L1 at hb9
      obtain ⟨hf13, hf14, hf15, hf16, hr17, hS18⟩ := hI10
      refine W.seq (W.region ?_)
      refine WL.val (Value.bool (decide ((k4 : Int) < ((s1).length : Int)))) _ (op_lss hf16 hf15) rfl ?_
      have hl19 : (k4 : Int) < ((s1).length : Int) := by omega
      refine WL.nil ?_
      refine W.seq ?_
      refine W.condT (decide ((k4 : Int) < ((s1).length : Int))) rfl (decide_eq_true hl19) ?_
      refine W.skip ?_
      refine W.seq ?_
      refine W.block ?_
      refine W.seq (W.region ?_)
      refine WL.val (Value.int .i64 (k4 : Int)) _ (op_move hf16) rfl ?_
      refine WL.val (Value.int .i64 (k4 : Int)) _ (op_assign rfl) rfl ?_
      refine WL.nil ?_
      refine W.seq (W.region ?_)
      refine WL.val (Value.func (.func g_f1) fst_f1 cap_f1) _ (op_move hf14) rfl ?_
      refine WL.val v_s1 _ (op_move hf13) rfl ?_
      refine WL.val (Value.int .i64 (k4 : Int)) _ (op_move rfl) rfl ?_
      obtain ⟨x21, hx24, hb9⟩ := bs hb9
      obtain ⟨ha22, hb23, hx24⟩ := idx_some hx24
      refine WL.val (Value.pointer (some (elA v_s1 ((k4 : Int)).toNat))) _ (op_idx sl_26 (Ty.lift _ hS18.ext r_s1) rfl rfl ha22 hb23) rfl ?_
      obtain ⟨u25, hc26, hr27⟩ := repSl.el r_s1 hx24
      refine WL.val u25 _ (op_load one_22 rfl (Ext.cell hS18.ext hc26)) rfl ?_
      obtain ⟨x28, hx29, hb9⟩ := bs hb9
      refine WL.call _ (op_callV rfl ok_f1 (args1 rfl)) (call_f1 wd7 u25 x21 x28 hS18.ext (Ty.lift _ hS18.ext hr27) hx29) rfl ?_
      rintro _ wd30 ⟨rfl, he31⟩
      have hS33 := St.extend hS18 he31
      refine WL.nil ?_
      refine W.cond x28 rfl (fun hc34 => ?_) (fun hc34 => ?_)
      · replace hb9 := ip hb9 hc34
        refine W.seq (W.region ?_)
        refine WL.val (Value.int .i64 (k4 : Int)) _ (op_move rfl) rfl ?_
        refine WL.val (Value.int .i64 (k4 : Int)) _ (op_assign rfl) rfl ?_
        refine WL.nil ?_
        refine W.ret ?_
        obtain rfl := Option.some.inj hb9
        obtain rfl := hret12 _ rfl
        replace h := onRes_ret h
        obtain rfl := Option.some.inj h
        show FinP _ _ _ _ _ _ _
        exact FinP.ret _ (res1 rfl rfl) ⟨rfl, hr17, hS33.ext⟩
      · replace hb9 := inegb hb9 hc34
        refine W.skip ?_
        show W _ _ _ _ _ _
        refine W.region ?_
        refine WL.val (Value.int .i64 (w64 ((k4 : Int) + (1 : Int)))) _ (op_add hf16 rfl) rfl ?_
        refine WL.val (Value.int .i64 (w64 ((k4 : Int) + (1 : Int)))) _ (op_move rfl) rfl ?_
        refine WL.nil ?_
        obtain rfl := Option.some.inj hb9
        show ∃ s, _ = Ctl.next s ∧ _
        exact ⟨_, rfl, hf13, hf14, hf15, (ctr_next hl19 hr1), (ctr_rng hl19 hr1), hS33⟩
    · intro s41 f37 wd38 hs39 hI40
      obtain ⟨⟩ := s41
      replace hI40 : f37 0 = v_s1 ∧ f37 1 = (Value.func (.func g_f1) fst_f1 cap_f1) ∧ f37 7 = (Value.int .i64 ((s1).length : Int)) ∧ f37 8 = Value.int .i64 (((s1).length : Nat) : Int) ∧ InR .i64 (((s1).length : Nat) : Int) ∧ St w wd38 [] := hI40
      obtain ⟨hf42, hf43, hf44, hf45, hr46, hS47⟩ := hI40
      refine W.seq (W.region ?_)
      refine WL.val (Value.bool (decide ((((s1).length : Nat) : Int) < ((s1).length : Int)))) _ (op_lss hf45 hf44) rfl ?_
      have hl48 : ¬ (((s1).length : Nat) : Int) < ((s1).length : Int) := by omega
      refine WL.nil ?_
      refine W.seq ?_
      refine W.condF (decide ((((s1).length : Nat) : Int) < ((s1).length : Int))) rfl (decide_eq_false hl48) ?_
      refine W.exit ?_
      show _ = _ ∧ _
      exact ⟨rfl, _, hs39, hS47⟩
  · rintro f49 wd50 ⟨s52, rfl, hq51⟩
    replace h := onRes_fin h
    obtain ⟨⟩ := s52
    replace hq51 : St w wd50 [] := hq51
    have hS53 := hq51
    refine W.seq (W.region ?_)
    refine WL.val (Value.int .i64 (-1 : Int)) _ (op_assign rfl) rfl ?_
    refine WL.nil ?_
    refine W.ret ?_
    obtain rfl := Option.some.inj h
    show FinP _ _ _ _ _ _ _
    exact FinP.ret _ (res1 rfl rfl) ⟨rfl, (inR_i64.2 (show (-9223372036854775808 : Int) ≤ -1 ∧ (-1 : Int) ≤ 9223372036854775807 from by decide)), hS53.ext⟩

theorem c_slices_ContainsFunc_LLint64_Lint64 {w : World} {s1 : (List (List Int))} {v_s1 : Value} {f1 : (List Int) → Option Bool} {v_f1 : Value} (r_s1 : (Ty.sl (Ty.sl (Ty.i .i64))).rep w v_s1 s1) (r_f1 : FnT_li_to_b Try.prog v_f1 w f1) {res : Bool} (h : p_slices_ContainsFunc_LLint64_Lint64 s1 f1  = some res) :
    Ret Try.prog 137 #[v_s1, v_f1] w (fun v w' => v = Value.bool res ∧ Ext w w') := by
  unfold p_slices_ContainsFunc_LLint64_Lint64 at h
  have hS0 : St w w [] := St.start w
  have q_f1 := r_f1
  obtain ⟨g_f1, fst_f1, cap_f1, eq_f1, ok_f1, call_f1⟩ := q_f1
  subst eq_f1
  refine Ret.start (fn := Try.f137) Try.func137 rfl 9 rfl rfl ?_
  refine W.seq (W.region ?_)
  refine WL.val (Value.bool false) _ (op_assign rfl) rfl ?_
  refine WL.nil ?_
  refine W.seq (W.region ?_)
  refine WL.val v_s1 _ (op_move rfl) rfl ?_
  refine WL.val (Value.func (.func g_f1) fst_f1 cap_f1) _ (op_move rfl) rfl ?_
  obtain ⟨x1, hx2, h⟩ := bs h
  refine WL.call _ (op_call fn_142 (args2 rfl rfl)) (c_slices_IndexFunc_LLint64_Lint64 (Ty.lift _ hS0.ext r_s1) (FnT_li_to_b.lift hS0.ext r_f1) hx2) rfl ?_
  rintro _ wd4 ⟨rfl, hr3, he5⟩
  have hS7 := St.extend hS0 he5
  replace hS7 : St w wd4 [] := hS7
  refine WL.val (Value.bool (decide (x1 ≥ (0 : Int)))) _ (op_geq rfl rfl) rfl ?_
  refine WL.val (Value.bool (decide (x1 ≥ (0 : Int)))) _ (op_assign rfl) rfl ?_
  refine WL.nil ?_
  refine W.ret ?_
  obtain rfl := Option.some.inj h
  show FinP _ _ _ _ _ _ _
  exact FinP.ret _ (res1 rfl rfl) ⟨rfl, hS7.ext⟩

theorem c_impl_isGrid {w : World} {rows : (List (List Int))} {v_rows : Value} {n : Int} {m : Int} (r_rows : (Ty.sl (Ty.sl (Ty.i .i64))).rep w v_rows rows) (r_n : InR .i64 n) (r_m : InR .i64 m) {res : Bool} (h : p_impl_isGrid rows n m  = some res) :
    Ret Try.prog 121 #[v_rows, (Value.int .i64 n), (Value.int .i64 m)] w (fun v w' => v = Value.bool res ∧ Ext w w') := by
  unfold p_impl_isGrid at h
  have hS0 : St w w [] := St.start w
  refine Ret.start (fn := Try.f121) Try.func121 rfl 17 rfl rfl ?_
  refine W.seq (W.region ?_)
  refine WL.box hS0 rfl (cs := [(Value.int .i64 n)]) rfl rfl ?_
  intro b1 wd2 hS3 he4 hx5
  replace hS3 : St w wd2 [bx b1 [(Value.int .i64 n)]] := hS3
  have hx6 := St.boxAt hS3 0 rfl
  have hE7 : Ext w wd2 := hS3.ext
  have hS8 : St wd2 wd2 [] := St.start wd2
  refine WL.box hS8 rfl (cs := [(Value.int .i64 m)]) rfl rfl ?_
  intro b9 wd10 hS11 he12 hx13
  replace hS11 : St wd2 wd10 [bx b9 [(Value.int .i64 m)]] := hS11
  have hx14 := St.boxAt hS11 0 rfl
  have hE15 : Ext w wd10 := (Ext.trans hE7 hS11.ext)
  have hE16 : Ext wd2 wd10 := hS11.ext
  have hS17 : St wd10 wd10 [] := St.start wd10
  refine WL.val (Value.bool false) _ (op_assign rfl) rfl ?_
  refine WL.nil ?_
  refine W.seq (W.region ?_)
  refine WL.val v_rows _ (op_move rfl) rfl ?_
  have hr18 := inR_len (Ty.lift _ (Ext.trans hE15 hS17.ext) r_rows)
  refine WL.val (Value.int .i64 ((rows).length : Int)) _ (op_lenL sl_26 (Ty.lift _ (Ext.trans hE15 hS17.ext) r_rows) rfl) rfl ?_
  refine WL.val (Value.int .i64 n) _ (op_load one_3 rfl (BoxAt.cell (BoxAt.lift (Ext.trans hE16 hS17.ext) hx6) rfl)) rfl ?_
  refine WL.val (Value.bool (((rows).length : Int) == n)) _ (op_eql rfl rfl) rfl ?_
  refine WL.val (Value.bool (((rows).length : Int) == n)) _ (op_move rfl) rfl ?_
  obtain ⟨x20, hj21, h⟩ := bs h
  refine WL.cut 5 (fun fq wq => fq 16 = Value.bool x20 ∧ St wd10 wq []) ?_ ?_
  · rcases Bool.eq_false_or_eq_true (((rows).length : Int) == n) with hc19 | hc19
    · replace hj21 := ip hj21 hc19
      refine WL.grun rfl (bool_of rfl hc19) ?_
      refine WL.val v_rows _ (op_move rfl) rfl ?_
      refine WL.grun rfl (bool_of rfl hc19) ?_
      refine WL.val (Value.func (.func 138) #[] #[(Value.pointer (some ⟨b1, 0, none⟩)), (Value.pointer (some ⟨b9, 0, none⟩))]) _ (op_makeFunc (va := #[]) (vb := #[(Value.pointer (some ⟨b1, 0, none⟩)), (Value.pointer (some ⟨b9, 0, none⟩))]) args0 (args2 rfl rfl)) rfl ?_
      refine WL.grun rfl (bool_of rfl hc19) ?_
      obtain ⟨x29, hx30, hj21⟩ := bs hj21
      refine WL.call _ (op_call fn_137 (args2 rfl rfl)) (c_slices_ContainsFunc_LLint64_Lint64 (Ty.lift _ (Ext.trans hE15 hS17.ext) r_rows) (⟨138, #[], #[(Value.pointer (some ⟨b1, 0, none⟩)), (Value.pointer (some ⟨b9, 0, none⟩))], rfl, fn_138, fun wd25 u0_26 a0_26 r27 he26 ra0_26 hq28 => c_impl_isGrid_c1 ra0_26 (BoxAt.lift (Ext.trans (Ext.trans hE16 hS17.ext) he26) hx6) r_n (BoxAt.lift (Ext.trans hS17.ext he26) hx14) r_m hq28⟩) hx30) rfl ?_
      rintro _ wd31 ⟨rfl, he32⟩
      have hS34 := St.extend hS17 he32
      replace hS34 : St wd10 wd31 [] := hS34
      refine WL.grun rfl (bool_of rfl hc19) ?_
      refine WL.val (Value.bool (!x29)) _ (op_not rfl) rfl ?_
      refine WL.val (Value.bool (!x29)) _ (op_pick_t (evb_of rfl hc19) rfl) rfl ?_
      refine WL.nil ?_
      obtain rfl := Option.some.inj hj21
      exact ⟨rfl, rfl, hS34⟩
    · replace hj21 := inegb hj21 hc19
      refine WL.gskip rfl (bool_of rfl hc19) rfl ?_
      refine WL.gskip rfl (bool_of rfl hc19) rfl ?_
      refine WL.gskip rfl (bool_of rfl hc19) rfl ?_
      refine WL.gskip rfl (bool_of rfl hc19) rfl ?_
      refine WL.val (Value.bool false) _ (op_pick_f (evb_of rfl hc19) rfl) rfl ?_
      refine WL.nil ?_
      obtain rfl := Option.some.inj hj21
      exact ⟨rfl, rfl, hS17⟩
  · intro f22 wd23 hq24
    obtain ⟨hf35, hS36⟩ := hq24
    refine WL.val (Value.bool x20) _ (op_assign hf35) rfl ?_
    refine WL.nil ?_
    refine W.ret ?_
    obtain rfl := Option.some.inj h
    show FinP _ _ _ _ _ _ _
    exact FinP.ret _ (res1 rfl rfl) ⟨rfl, (Ext.trans hE15 hS36.ext)⟩

theorem c_impl_isCochain_c1 {w : World} {rows : (List (List Int))} {v_rows : Value} {b_c0 : Nat} {c0 : Int} {b_c1 : Nat} {c1_Orders : (List Int)} {v_c1_Orders : Value} {c1_Modulus : Int} {c1_Values : (List (List (List Int)))} {v_c1_Values : Value} (r_rows : (Ty.sl (Ty.sl (Ty.i .i64))).rep w v_rows rows) (k_c0 : BoxAt w b_c0 [(Value.int .i64 c0)]) (r_c0 : InR .i64 c0) (k_c1 : BoxAt w b_c1 [v_c1_Orders, (Value.int .i64 c1_Modulus), v_c1_Values]) (r_c1_Orders : (Ty.sl (Ty.i .i64)).rep w v_c1_Orders c1_Orders) (r_c1_Modulus : InR .i64 c1_Modulus) (r_c1_Values : (Ty.sl (Ty.sl (Ty.sl (Ty.i .i64)))).rep w v_c1_Values c1_Values) {res : Bool} (h : p_impl_isCochain_c1 rows c0 c1_Orders c1_Modulus c1_Values = some res) :
    Ret Try.prog 120 #[v_rows, (Value.pointer (some ⟨b_c0, 0, none⟩)), (Value.pointer (some ⟨b_c1, 0, none⟩))] w (fun v w' => v = Value.bool res ∧ Ext w w') := by
  unfold p_impl_isCochain_c1 at h
  have hS0 : St w w [] := St.start w
  refine Ret.start (fn := Try.f120) Try.func120 rfl 11 rfl rfl ?_
  refine W.seq (W.region ?_)
  refine WL.val (Value.bool false) _ (op_assign rfl) rfl ?_
  refine WL.nil ?_
  refine W.seq (W.region ?_)
  refine WL.val v_rows _ (op_move rfl) rfl ?_
  refine WL.val (Value.int .i64 c0) _ (op_load one_2 rfl (BoxAt.cell (BoxAt.lift hS0.ext k_c0) rfl)) rfl ?_
  refine WL.val (Value.pointer (some ⟨b_c1, 1, none⟩)) _ (op_fieldAddr fd_34_1 rfl) rfl ?_
  refine WL.val (Value.int .i64 c1_Modulus) _ (op_load one_2 rfl (BoxAt.cell (BoxAt.lift hS0.ext k_c1) rfl)) rfl ?_
  obtain ⟨x1, hx2, h⟩ := bs h
  refine WL.call _ (op_call fn_121 (args3 rfl rfl rfl)) (c_impl_isGrid (Ty.lift _ hS0.ext r_rows) r_c0 r_c1_Modulus hx2) rfl ?_
  rintro _ wd3 ⟨rfl, he4⟩
  have hS6 := St.extend hS0 he4
  replace hS6 : St w wd3 [] := hS6
  refine WL.val (Value.bool (!x1)) _ (op_not rfl) rfl ?_
  refine WL.val (Value.bool (!x1)) _ (op_assign rfl) rfl ?_
  refine WL.nil ?_
  refine W.ret ?_
  obtain rfl := Option.some.inj h
  show FinP _ _ _ _ _ _ _
  exact FinP.ret _ (res1 rfl rfl) ⟨rfl, hS6.ext⟩

theorem c_slices_IndexFunc_LLLint64_LLint64 {w : World} {s1 : (List (List (List Int)))} {v_s1 : Value} {f1 : (List (List Int)) → Option Bool} {v_f1 : Value} (r_s1 : (Ty.sl (Ty.sl (Ty.sl (Ty.i .i64)))).rep w v_s1 s1) (r_f1 : FnT_lli_to_b Try.prog v_f1 w f1) {res : Int} (h : p_slices_IndexFunc_LLLint64_LLint64 s1 f1  = some res) :
    Ret Try.prog 136 #[v_s1, v_f1] w (fun v w' => v = Value.int .i64 res ∧ InR .i64 res ∧ Ext w w') := by
  unfold p_slices_IndexFunc_LLLint64_LLint64 at h
  have hS0 : St w w [] := St.start w
  have q_f1 := r_f1
  obtain ⟨g_f1, fst_f1, cap_f1, eq_f1, ok_f1, call_f1⟩ := q_f1
  subst eq_f1
  refine Ret.start (fn := Try.f136) Try.func136 rfl 19 rfl rfl ?_
  refine W.seq (W.region ?_)
  refine WL.val (Value.int .i64 (0 : Int)) _ (op_assign rfl) rfl ?_
  refine WL.nil ?_
  refine W.seq (W.seq (W.region ?_))
  refine WL.val v_s1 _ (op_move rfl) rfl ?_
  have hr1 := inR_len (Ty.lift _ hS0.ext r_s1)
  refine WL.val (Value.int .i64 ((s1).length : Int)) _ (op_lenL sl_23 (Ty.lift _ hS0.ext r_s1) rfl) rfl ?_
  refine WL.val (Value.int .i64 (0 : Int)) _ (op_move rfl) rfl ?_
  refine WL.nil ?_
  show W _ _ _ _ _ _
  obtain ⟨res2, hres3, h⟩ := bs h
  refine W.blockLoop (fun fq wq => ∃ s, res2 = Res.fin s ∧ St w wq []) ?_ ?_
  · refine W.forN (fun k (s : Unit) fq wq => fq 0 = v_s1 ∧ fq 1 = (Value.func (.func g_f1) fst_f1 cap_f1) ∧ fq 7 = (Value.int .i64 ((s1).length : Int)) ∧ fq 8 = Value.int .i64 (k : Int) ∧ InR .i64 (k : Int) ∧ St w wq []) hres3 ⟨rfl, rfl, rfl, rfl, (inL rfl), hS0⟩ ?_ ?_
    · intro k4 s36 ct5 f6 wd7 hk8 hb9 hI10 hbrk11 hret12
      obtain ⟨⟩ := s36
      replace hI10 : f6 0 = v_s1 ∧ f6 1 = (Value.func (.func g_f1) fst_f1 cap_f1) ∧ f6 7 = (Value.int .i64 ((s1).length : Int)) ∧ f6 8 = Value.int .i64 (k4 : Int) ∧ InR .i64 (k4 : Int) ∧ St w wd7 [] := hI10
      replace hb9 : p_slices_IndexFunc_LLLint64_LLint64_L1 s1 f1 k4  = some ct5 := hb9
      unfold p_slices_IndexFunc_LLLint64_LLint64_L1 at hb9
      obtain ⟨hf13, hf14, hf15, hf16, hr17, hS18⟩ := hI10
      refine W.seq (W.region ?_)
      refine WL.val (Value.bool (decide ((k4 : Int) < ((s1).length : Int)))) _ (op_lss hf16 hf15) rfl ?_
      have hl19 : (k4 : Int) < ((s1).length : Int) := by omega
      refine WL.nil ?_
      refine W.seq ?_
      refine W.condT (decide ((k4 : Int) < ((s1).length : Int))) rfl (decide_eq_true hl19) ?_
      refine W.skip ?_
      refine W.seq ?_
      refine W.block ?_
      refine W.seq (W.region ?_)
      refine WL.val (Value.int .i64 (k4 : Int)) _ (op_move hf16) rfl ?_
      refine WL.val (Value.int .i64 (k4 : Int)) _ (op_assign rfl) rfl ?_
      refine WL.nil ?_
      refine W.seq (W.region ?_)
      refine WL.val (Value.func (.func g_f1) fst_f1 cap_f1) _ (op_move hf14) rfl ?_
      refine WL.val v_s1 _ (op_move hf13) rfl ?_
      refine WL.val (Value.int .i64 (k4 : Int)) _ (op_move rfl) rfl ?_
      obtain ⟨x21, hx24, hb9⟩ := bs hb9
      obtain ⟨ha22, hb23, hx24⟩ := idx_some hx24
      refine WL.val (Value.pointer (some (elA v_s1 ((k4 : Int)).toNat))) _ (op_idx sl_23 (Ty.lift _ hS18.ext r_s1) rfl rfl ha22 hb23) rfl ?_
      obtain ⟨u25, hc26, hr27⟩ := repSl.el r_s1 hx24
      refine WL.val u25 _ (op_load one_26 rfl (Ext.cell hS18.ext hc26)) rfl ?_
      obtain ⟨x28, hx29, hb9⟩ := bs hb9
      refine WL.call _ (op_callV rfl ok_f1 (args1 rfl)) (call_f1 wd7 u25 x21 x28 hS18.ext (Ty.lift _ hS18.ext hr27) hx29) rfl ?_
      rintro _ wd30 ⟨rfl, he31⟩
      have hS33 := St.extend hS18 he31
      refine WL.nil ?_
      refine W.cond x28 rfl (fun hc34 => ?_) (fun hc34 => ?_)
      · replace hb9 := ip hb9 hc34
        refine W.seq (W.region ?_)
        refine WL.val (Value.int .i64 (k4 : Int)) _ (op_move rfl) rfl ?_
        refine WL.val (Value.int .i64 (k4 : Int)) _ (op_assign rfl) rfl ?_
        refine WL.nil ?_
        refine W.ret ?_
        obtain rfl := Option.some.inj hb9
        obtain rfl := hret12 _ rfl
        replace h := onRes_ret h
        obtain rfl := Option.some.inj h
        show FinP _ _ _ _ _ _ _
        exact FinP.ret _ (res1 rfl rfl) ⟨rfl, hr17, hS33.ext⟩
      · replace hb9 := inegb hb9 hc34
        refine W.skip ?_
        show W _ _ _ _ _ _
        refine W.region ?_
        refine WL.val (Value.int .i64 (w64 ((k4 : Int) + (1 : Int)))) _ (op_add hf16 rfl) rfl ?_
        refine WL.val (Value.int .i64 (w64 ((k4 : Int) + (1 : Int)))) _ (op_move rfl) rfl ?_
        refine WL.nil ?_
        obtain rfl := Option.some.inj hb9
        show ∃ s, _ = Ctl.next s ∧ _
        exact ⟨_, rfl, hf13, hf14, hf15, (ctr_next hl19 hr1), (ctr_rng hl19 hr1), hS33⟩
    · intro s41 f37 wd38 hs39 hI40
      obtain ⟨⟩ := s41
      replace hI40 : f37 0 = v_s1 ∧ f37 1 = (Value.func (.func g_f1) fst_f1 cap_f1) ∧ f37 7 = (Value.int .i64 ((s1).length : Int)) ∧ f37 8 = Value.int .i64 (((s1).length : Nat) : Int) ∧ InR .i64 (((s1).length : Nat) : Int) ∧ St w wd38 [] := hI40
      obtain ⟨hf42, hf43, hf44, hf45, hr46, hS47⟩ := hI40
      refine W.seq (W.region ?_)
      refine WL.val (Value.bool (decide ((((s1).length : Nat) : Int) < ((s1).length : Int)))) _ (op_lss hf45 hf44) rfl ?_
      have hl48 : ¬ (((s1).length : Nat) : Int) < ((s1).length : Int) := by omega
      refine WL.nil ?_
      refine W.seq ?_
      refine W.condF (decide ((((s1).length : Nat) : Int) < ((s1).length : Int))) rfl (decide_eq_false hl48) ?_
      refine W.exit ?_
      show _ = _ ∧ _
      exact ⟨rfl, _, hs39, hS47⟩
  · rintro f49 wd50 ⟨s52, rfl, hq51⟩
    replace h := onRes_fin h
    obtain ⟨⟩ := s52
    replace hq51 : St w wd50 [] := hq51
    have hS53 := hq51
    refine W.seq (W.region ?_)
    refine WL.val (Value.int .i64 (-1 : Int)) _ (op_assign rfl) rfl ?_
    refine WL.nil ?_
    refine W.ret ?_
    obtain rfl := Option.some.inj h
    show FinP _ _ _ _ _ _ _
    exact FinP.ret _ (res1 rfl rfl) ⟨rfl, (inR_i64.2 (show (-9223372036854775808 : Int) ≤ -1 ∧ (-1 : Int) ≤ 9223372036854775807 from by decide)), hS53.ext⟩

theorem c_slices_ContainsFunc_LLLint64_LLint64 {w : World} {s1 : (List (List (List Int)))} {v_s1 : Value} {f1 : (List (List Int)) → Option Bool} {v_f1 : Value} (r_s1 : (Ty.sl (Ty.sl (Ty.sl (Ty.i .i64)))).rep w v_s1 s1) (r_f1 : FnT_lli_to_b Try.prog v_f1 w f1) {res : Bool} (h : p_slices_ContainsFunc_LLLint64_LLint64 s1 f1  = some res) :
    Ret Try.prog 119 #[v_s1, v_f1] w (fun v w' => v = Value.bool res ∧ Ext w w') := by
  unfold p_slices_ContainsFunc_LLLint64_LLint64 at h
  have hS0 : St w w [] := St.start w
  have q_f1 := r_f1
  obtain ⟨g_f1, fst_f1, cap_f1, eq_f1, ok_f1, call_f1⟩ := q_f1
  subst eq_f1
  refine Ret.start (fn := Try.f119) Try.func119 rfl 9 rfl rfl ?_
  refine W.seq (W.region ?_)
  refine WL.val (Value.bool false) _ (op_assign rfl) rfl ?_
  refine WL.nil ?_
  refine W.seq (W.region ?_)
  refine WL.val v_s1 _ (op_move rfl) rfl ?_
  refine WL.val (Value.func (.func g_f1) fst_f1 cap_f1) _ (op_move rfl) rfl ?_
  obtain ⟨x1, hx2, h⟩ := bs h
  refine WL.call _ (op_call fn_136 (args2 rfl rfl)) (c_slices_IndexFunc_LLLint64_LLint64 (Ty.lift _ hS0.ext r_s1) (FnT_lli_to_b.lift hS0.ext r_f1) hx2) rfl ?_
  rintro _ wd4 ⟨rfl, hr3, he5⟩
  have hS7 := St.extend hS0 he5
  replace hS7 : St w wd4 [] := hS7
  refine WL.val (Value.bool (decide (x1 ≥ (0 : Int)))) _ (op_geq rfl rfl) rfl ?_
  refine WL.val (Value.bool (decide (x1 ≥ (0 : Int)))) _ (op_assign rfl) rfl ?_
  refine WL.nil ?_
  refine W.ret ?_
  obtain rfl := Option.some.inj h
  show FinP _ _ _ _ _ _ _
  exact FinP.ret _ (res1 rfl rfl) ⟨rfl, hS7.ext⟩

theorem c_impl_isCochain {w : World} {c_Orders : (List Int)} {v_c_Orders : Value} {c_Modulus : Int} {c_Values : (List (List (List Int)))} {v_c_Values : Value} (r_c_Orders : (Ty.sl (Ty.i .i64)).rep w v_c_Orders c_Orders) (r_c_Modulus : InR .i64 c_Modulus) (r_c_Values : (Ty.sl (Ty.sl (Ty.sl (Ty.i .i64)))).rep w v_c_Values c_Values) {res : Bool} (h : p_impl_isCochain c_Orders c_Modulus c_Values  = some res) :
    Ret Try.prog 70 #[(Value.agg #[v_c_Orders, (Value.int .i64 c_Modulus), v_c_Values])] w (fun v w' => v = Value.bool res ∧ Ext w w') := by
  unfold p_impl_isCochain at h
  have hS0 : St w w [] := St.start w
  refine Ret.start (fn := Try.f70) Try.func70 rfl 28 rfl rfl ?_
  refine W.seq (W.region ?_)
  refine WL.box hS0 rfl (cs := [v_c_Orders, (Value.int .i64 c_Modulus), v_c_Values]) rfl rfl ?_
  intro b1 wd2 hS3 he4 hx5
  replace hS3 : St w wd2 [bx b1 [v_c_Orders, (Value.int .i64 c_Modulus), v_c_Values]] := hS3
  have hx6 := St.boxAt hS3 0 rfl
  have hE7 : Ext w wd2 := hS3.ext
  have hS8 : St wd2 wd2 [] := St.start wd2
  refine WL.val (Value.bool false) _ (op_assign rfl) rfl ?_
  refine WL.nil ?_
  refine W.seq (W.region ?_)
  refine WL.val (Value.pointer (some ⟨b1, 0, none⟩)) _ (op_fieldAddr fd_34_0 rfl) rfl ?_
  refine WL.val v_c_Orders _ (op_load one_22 rfl (BoxAt.cell (BoxAt.lift hS8.ext hx6) rfl)) rfl ?_
  obtain ⟨x9, hx10, h⟩ := bs h
  refine WL.call _ (op_call fn_107 (args1 rfl)) (c_impl_groupSize (Ty.lift _ (Ext.trans hE7 hS8.ext) r_c_Orders) hx10) rfl ?_
  rintro _ wd12 ⟨rfl, hr11, he13⟩
  have hS15 := St.extend hS8 he13
  replace hS15 : St wd2 wd12 [] := hS15
  refine WL.alloc hS15 ze_2 (cs := [(Value.int .i64 (0 : Int))]) rfl rfl ?_
  intro b16 wd17 hS18 he19
  replace hS18 : St wd2 wd17 [bx b16 [(Value.int .i64 (0 : Int))]] := hS18
  refine WL.storeBox [(Value.int .i64 x9)] hS18 (k := 0) rfl rfl rfl (us := [(Value.int .i64 x9)]) rfl sz_2 rfl rfl (all_cons rfl all_nil) rfl ?_
  intro wd20 hS21
  replace hS21 : St wd2 wd20 [bx b16 [(Value.int .i64 x9)]] := hS21
  refine WL.nil ?_
  refine W.seq (W.seq (W.region ?_))
  refine WL.val (Value.int .i64 x9) _ (op_load one_2 rfl (BoxAt.cell (St.boxAt hS21 0 rfl) rfl)) rfl ?_
  obtain ⟨x22, hx23, h⟩ := bs h
  refine WL.call _ (op_call fn_86 (args3 rfl rfl rfl)) (c_impl_within hr11 (inL rfl) (inL rfl) hx23) rfl ?_
  rintro _ wd24 ⟨rfl, he25⟩
  have hS27 := St.extend hS21 he25
  replace hS27 : St wd2 wd24 [bx b16 [(Value.int .i64 x9)]] := hS27
  refine WL.val (Value.bool (!x22)) _ (op_not rfl) rfl ?_
  refine WL.val (Value.bool (!x22)) _ (op_move rfl) rfl ?_
  obtain ⟨x29, hj30, h⟩ := bs h
  refine WL.cut 5 (fun fq wq => fq 1 = (Value.pointer (some ⟨b1, 0, none⟩)) ∧ fq 3 = (Value.pointer (some ⟨b16, 0, none⟩)) ∧ fq 15 = Value.bool x29 ∧ St wd2 wq [bx b16 [(Value.int .i64 x9)]]) ?_ ?_
  · rcases Bool.eq_false_or_eq_true (!x22) with hc28 | hc28
    · replace hj30 := ip hj30 hc28
      refine WL.gskip rfl (bool_of rfl hc28) rfl ?_
      refine WL.gskip rfl (bool_of rfl hc28) rfl ?_
      refine WL.gskip rfl (bool_of rfl hc28) rfl ?_
      refine WL.gskip rfl (bool_of rfl hc28) rfl ?_
      refine WL.val (Value.bool true) _ (op_pick_t (evb_of rfl hc28) rfl) rfl ?_
      refine WL.nil ?_
      obtain rfl := Option.some.inj hj30
      exact ⟨rfl, rfl, rfl, rfl, hS27⟩
    · replace hj30 := inegb hj30 hc28
      refine WL.grun rfl (bool_of rfl hc28) ?_
      refine WL.val (Value.pointer (some ⟨b1, 1, none⟩)) _ (op_fieldAddr fd_34_1 rfl) rfl ?_
      refine WL.grun rfl (bool_of rfl hc28) ?_
      refine WL.val (Value.int .i64 c_Modulus) _ (op_load one_2 rfl (BoxAt.cell (BoxAt.lift hS27.ext hx6) rfl)) rfl ?_
      refine WL.grun rfl (bool_of rfl hc28) ?_
      obtain ⟨x34, hx35, hj30⟩ := bs hj30
      refine WL.call _ (op_call fn_118 (args1 rfl)) (c_impl_isModulus r_c_Modulus hx35) rfl ?_
      rintro _ wd36 ⟨rfl, he37⟩
      have hS39 := St.extend hS27 he37
      replace hS39 : St wd2 wd36 [bx b16 [(Value.int .i64 x9)]] := hS39
      refine WL.grun rfl (bool_of rfl hc28) ?_
      refine WL.val (Value.bool (!x34)) _ (op_not rfl) rfl ?_
      refine WL.val (Value.bool (!x34)) _ (op_pick_f (evb_of rfl hc28) rfl) rfl ?_
      refine WL.nil ?_
      obtain rfl := Option.some.inj hj30
      exact ⟨rfl, rfl, rfl, rfl, hS39⟩
  · intro f31 wd32 hq33
    obtain ⟨hf40, hf41, hf42, hS43⟩ := hq33
    refine WL.val (Value.bool x29) _ (op_move hf42) rfl ?_
    refine WL.cut 6 (fun fq wq => fq 1 = (Value.pointer (some ⟨b1, 0, none⟩)) ∧ fq 3 = (Value.pointer (some ⟨b16, 0, none⟩)) ∧ fq 22 = (Value.bool (x29 || (((c_Values).length : Int) != x9))) ∧ St wd2 wq [bx b16 [(Value.int .i64 x9)]]) ?_ ?_
    · rcases Bool.eq_false_or_eq_true x29 with hc44 | hc44
      · refine WL.gskip rfl (bool_of rfl hc44) rfl ?_
        refine WL.gskip rfl (bool_of rfl hc44) rfl ?_
        refine WL.gskip rfl (bool_of rfl hc44) rfl ?_
        refine WL.gskip rfl (bool_of rfl hc44) rfl ?_
        refine WL.gskip rfl (bool_of rfl hc44) rfl ?_
        refine WL.val (Value.bool true) _ (op_pick_t (evb_of rfl hc44) rfl) rfl ?_
        refine WL.nil ?_
        exact ⟨rfl, hf40, hf41, (orT hc44), hS43⟩
      · refine WL.grun rfl (bool_of rfl hc44) ?_
        refine WL.val (Value.pointer (some ⟨b1, 2, none⟩)) _ (op_fieldAddr fd_34_2 hf40) rfl ?_
        refine WL.grun rfl (bool_of rfl hc44) ?_
        refine WL.val v_c_Values _ (op_load one_23 rfl (BoxAt.cell (BoxAt.lift hS43.ext hx6) rfl)) rfl ?_
        refine WL.grun rfl (bool_of rfl hc44) ?_
        have hr48 := inR_len (Ty.lift _ (Ext.trans hE7 hS43.ext) r_c_Values)
        refine WL.val (Value.int .i64 ((c_Values).length : Int)) _ (op_lenL sl_23 (Ty.lift _ (Ext.trans hE7 hS43.ext) r_c_Values) rfl) rfl ?_
        refine WL.grun rfl (bool_of rfl hc44) ?_
        refine WL.val (Value.int .i64 x9) _ (op_load one_2 hf41 (BoxAt.cell (St.boxAt hS43 0 rfl) rfl)) rfl ?_
        refine WL.grun rfl (bool_of rfl hc44) ?_
        refine WL.val (Value.bool (((c_Values).length : Int) != x9)) _ (op_neq rfl rfl) rfl ?_
        refine WL.val (Value.bool (((c_Values).length : Int) != x9)) _ (op_pick_f (evb_of rfl hc44) rfl) rfl ?_
        refine WL.nil ?_
        exact ⟨rfl, hf40, hf41, (orF hc44), hS43⟩
    · intro f45 wd46 hq47
      obtain ⟨hf49, hf50, hf51, hS52⟩ := hq47
      refine WL.nil ?_
      refine W.cond (x29 || (((c_Values).length : Int) != x9)) hf51 (fun hc53 => ?_) (fun hc53 => ?_)
      · replace h := ip h hc53
        refine W.seq (W.region ?_)
        refine WL.val (Value.bool false) _ (op_assign rfl) rfl ?_
        refine WL.nil ?_
        refine W.ret ?_
        obtain rfl := Option.some.inj h
        show FinP _ _ _ _ _ _ _
        exact FinP.ret _ (res1 rfl rfl) ⟨rfl, (Ext.trans hE7 hS52.ext)⟩
      · replace h := inegb h hc53
        refine W.skip ?_
        refine W.seq (W.region ?_)
        refine WL.val (Value.pointer (some ⟨b1, 2, none⟩)) _ (op_fieldAddr fd_34_2 hf49) rfl ?_
        refine WL.val v_c_Values _ (op_load one_23 rfl (BoxAt.cell (BoxAt.lift hS52.ext hx6) rfl)) rfl ?_
        refine WL.val (Value.func (.func 120) #[] #[(Value.pointer (some ⟨b16, 0, none⟩)), (Value.pointer (some ⟨b1, 0, none⟩))]) _ (op_makeFunc (va := #[]) (vb := #[(Value.pointer (some ⟨b16, 0, none⟩)), (Value.pointer (some ⟨b1, 0, none⟩))]) args0 (args2 hf50 hf49)) rfl ?_
        obtain ⟨x59, hx60, h⟩ := bs h
        refine WL.call _ (op_call fn_119 (args2 rfl rfl)) (c_slices_ContainsFunc_LLLint64_LLint64 (Ty.lift _ (Ext.trans hE7 hS52.ext) r_c_Values) (⟨120, #[], #[(Value.pointer (some ⟨b16, 0, none⟩)), (Value.pointer (some ⟨b1, 0, none⟩))], rfl, fn_120, fun wd55 u0_56 a0_56 r57 he56 ra0_56 hq58 => c_impl_isCochain_c1 ra0_56 (BoxAt.lift he56 (St.boxAt hS52 0 rfl)) hr11 (BoxAt.lift (Ext.trans hS52.ext he56) hx6) (Ty.lift _ (Ext.trans (Ext.trans hE7 hS52.ext) he56) r_c_Orders) r_c_Modulus (Ty.lift _ (Ext.trans (Ext.trans hE7 hS52.ext) he56) r_c_Values) hq58⟩) hx60) rfl ?_
        rintro _ wd61 ⟨rfl, he62⟩
        have hS64 := St.extend hS52 he62
        replace hS64 : St wd2 wd61 [bx b16 [(Value.int .i64 x9)]] := hS64
        refine WL.val (Value.bool (!x59)) _ (op_not rfl) rfl ?_
        refine WL.val (Value.bool (!x59)) _ (op_assign rfl) rfl ?_
        refine WL.nil ?_
        refine W.ret ?_
        obtain rfl := Option.some.inj h
        show FinP _ _ _ _ _ _ _
        exact FinP.ret _ (res1 rfl rfl) ⟨rfl, (Ext.trans hE7 hS64.ext)⟩

theorem c_impl_Cocycle_isNormalised {w : World} {c_Orders : (List Int)} {v_c_Orders : Value} {c_Modulus : Int} {c_Values : (List (List (List Int)))} {v_c_Values : Value} (r_c_Orders : (Ty.sl (Ty.i .i64)).rep w v_c_Orders c_Orders) (r_c_Modulus : InR .i64 c_Modulus) (r_c_Values : (Ty.sl (Ty.sl (Ty.sl (Ty.i .i64)))).rep w v_c_Values c_Values) {res : Bool} (h : p_impl_Cocycle_isNormalised c_Orders c_Modulus c_Values  = some res) :
    Ret Try.prog 71 #[(Value.agg #[v_c_Orders, (Value.int .i64 c_Modulus), v_c_Values])] w (fun v w' => v = Value.bool res ∧ Ext w w') := by
  unfold p_impl_Cocycle_isNormalised at h
  have hS0 : St w w [] := St.start w
  refine Ret.start (fn := Try.f71) Try.func71 rfl 48 rfl rfl ?_
  refine W.seq (W.region ?_)
  refine WL.box hS0 rfl (cs := [v_c_Orders, (Value.int .i64 c_Modulus), v_c_Values]) rfl rfl ?_
  intro b1 wd2 hS3 he4 hx5
  replace hS3 : St w wd2 [bx b1 [v_c_Orders, (Value.int .i64 c_Modulus), v_c_Values]] := hS3
  have hx6 := St.boxAt hS3 0 rfl
  have hE7 : Ext w wd2 := hS3.ext
  have hS8 : St wd2 wd2 [] := St.start wd2
  refine WL.val (Value.bool false) _ (op_assign rfl) rfl ?_
  refine WL.nil ?_
  refine W.seq (W.seq (W.region ?_))
  refine WL.val (Value.pointer (some ⟨b1, 2, none⟩)) _ (op_fieldAddr fd_34_2 rfl) rfl ?_
  refine WL.val v_c_Values _ (op_load one_23 rfl (BoxAt.cell (BoxAt.lift hS8.ext hx6) rfl)) rfl ?_
  have hr9 := inR_len (Ty.lift _ (Ext.trans hE7 hS8.ext) r_c_Values)
  refine WL.val (Value.int .i64 ((c_Values).length : Int)) _ (op_lenL sl_23 (Ty.lift _ (Ext.trans hE7 hS8.ext) r_c_Values) rfl) rfl ?_
  refine WL.val (Value.int .i64 (0 : Int)) _ (op_move rfl) rfl ?_
  refine WL.nil ?_
  show W _ _ _ _ _ _
  obtain ⟨res10, hres11, h⟩ := bs h
  refine W.blockLoop (fun fq wq => ∃ s, res10 = Res.fin s ∧ St wd2 wq []) ?_ ?_
  · refine W.forN (fun k (s : Unit) fq wq => fq 10 = v_c_Values ∧ fq 11 = (Value.int .i64 ((c_Values).length : Int)) ∧ fq 12 = Value.int .i64 (k : Int) ∧ InR .i64 (k : Int) ∧ St wd2 wq []) hres11 ⟨rfl, rfl, rfl, (inL rfl), hS8⟩ ?_ ?_
    · intro k12 s181 ct13 f14 wd15 hk16 hb17 hI18 hbrk19 hret20
      obtain ⟨⟩ := s181
      replace hI18 : f14 10 = v_c_Values ∧ f14 11 = (Value.int .i64 ((c_Values).length : Int)) ∧ f14 12 = Value.int .i64 (k12 : Int) ∧ InR .i64 (k12 : Int) ∧ St wd2 wd15 [] := hI18
      replace hb17 : p_impl_Cocycle_isNormalised_L1 c_Values k12  = some ct13 := hb17
      unfold p_impl_Cocycle_isNormalised_L1 at hb17
      obtain ⟨hf21, hf22, hf23, hr24, hS25⟩ := hI18
      refine W.seq (W.region ?_)
      refine WL.val (Value.bool (decide ((k12 : Int) < ((c_Values).length : Int)))) _ (op_lss hf23 hf22) rfl ?_
      have hl26 : (k12 : Int) < ((c_Values).length : Int) := by omega
      refine WL.nil ?_
      refine W.seq ?_
      refine W.condT (decide ((k12 : Int) < ((c_Values).length : Int))) rfl (decide_eq_true hl26) ?_
      refine W.skip ?_
      refine W.seq ?_
      refine W.block ?_
      refine W.seq (W.region ?_)
      refine WL.val (Value.int .i64 (k12 : Int)) _ (op_move hf23) rfl ?_
      obtain ⟨x28, hx31, hb17⟩ := bs hb17
      obtain ⟨ha29, hb30, hx31⟩ := idx_some hx31
      refine WL.val (Value.pointer (some (elA v_c_Values ((k12 : Int)).toNat))) _ (op_idx sl_23 (Ty.lift _ (Ext.trans hE7 hS25.ext) r_c_Values) hf21 hf23 ha29 hb30) rfl ?_
      obtain ⟨u32, hc33, hr34⟩ := repSl.el r_c_Values hx31
      refine WL.val u32 _ (op_load one_26 rfl (Ext.cell (Ext.trans hE7 hS25.ext) hc33)) rfl ?_
      refine WL.val (Value.int .i64 (k12 : Int)) _ (op_assign rfl) rfl ?_
      refine WL.val u32 _ (op_assign rfl) rfl ?_
      refine WL.nil ?_
      refine W.seq (W.region ?_)
      refine WL.val u32 _ (op_move rfl) rfl ?_
      have hr35 := inR_len (Ty.lift _ (Ext.trans hE7 hS25.ext) hr34)
      refine WL.val (Value.int .i64 ((x28).length : Int)) _ (op_lenL sl_26 (Ty.lift _ (Ext.trans hE7 hS25.ext) hr34) rfl) rfl ?_
      refine WL.val (Value.int .i64 (0 : Int)) _ (op_move rfl) rfl ?_
      refine WL.nil ?_
      show W _ _ _ _ _ _
      obtain ⟨res36, hres37, hb17⟩ := bs hb17
      refine W.blockLoop (fun fq wq => ∃ s, res36 = Res.fin s ∧ fq 10 = v_c_Values ∧ fq 11 = (Value.int .i64 ((c_Values).length : Int)) ∧ fq 12 = (Value.int .i64 (k12 : Int)) ∧ St wd2 wq []) ?_ ?_
      · refine W.forN (fun k (s : Unit) fq wq => fq 3 = (Value.int .i64 (k12 : Int)) ∧ fq 10 = v_c_Values ∧ fq 11 = (Value.int .i64 ((c_Values).length : Int)) ∧ fq 12 = (Value.int .i64 (k12 : Int)) ∧ fq 17 = u32 ∧ fq 18 = (Value.int .i64 ((x28).length : Int)) ∧ fq 19 = Value.int .i64 (k : Int) ∧ InR .i64 (k : Int) ∧ St wd2 wq []) hres37 ⟨rfl, hf21, hf22, hf23, rfl, rfl, rfl, (inL rfl), hS25⟩ ?_ ?_
        · intro k38 s156 ct39 f40 wd41 hk42 hb43 hI44 hbrk45 hret46
          obtain ⟨⟩ := s156
          replace hI44 : f40 3 = (Value.int .i64 (k12 : Int)) ∧ f40 10 = v_c_Values ∧ f40 11 = (Value.int .i64 ((c_Values).length : Int)) ∧ f40 12 = (Value.int .i64 (k12 : Int)) ∧ f40 17 = u32 ∧ f40 18 = (Value.int .i64 ((x28).length : Int)) ∧ f40 19 = Value.int .i64 (k38 : Int) ∧ InR .i64 (k38 : Int) ∧ St wd2 wd41 [] := hI44
          replace hb43 : p_impl_Cocycle_isNormalised_L2 x28 k12 k38  = some ct39 := hb43
          unfold p_impl_Cocycle_isNormalised_L2 at hb43
          obtain ⟨hf47, hf48, hf49, hf50, hf51, hf52, hf53, hr54, hS55⟩ := hI44
          refine W.seq (W.region ?_)
          refine WL.val (Value.bool (decide ((k38 : Int) < ((x28).length : Int)))) _ (op_lss hf53 hf52) rfl ?_
          have hl56 : (k38 : Int) < ((x28).length : Int) := by omega
          refine WL.nil ?_
          refine W.seq ?_
          refine W.condT (decide ((k38 : Int) < ((x28).length : Int))) rfl (decide_eq_true hl56) ?_
          refine W.skip ?_
          refine W.seq ?_
          refine W.block ?_
          refine W.seq (W.region ?_)
          refine WL.val (Value.int .i64 (k38 : Int)) _ (op_move hf53) rfl ?_
          obtain ⟨x58, hx61, hb43⟩ := bs hb43
          obtain ⟨ha59, hb60, hx61⟩ := idx_some hx61
          refine WL.val (Value.pointer (some (elA u32 ((k38 : Int)).toNat))) _ (op_idx sl_26 (Ty.lift _ (Ext.trans hE7 hS55.ext) hr34) hf51 hf53 ha59 hb60) rfl ?_
          obtain ⟨u62, hc63, hr64⟩ := repSl.el hr34 hx61
          refine WL.val u62 _ (op_load one_22 rfl (Ext.cell (Ext.trans hE7 hS55.ext) hc63)) rfl ?_
          refine WL.val (Value.int .i64 (k38 : Int)) _ (op_assign rfl) rfl ?_
          refine WL.val u62 _ (op_assign rfl) rfl ?_
          refine WL.nil ?_
          refine W.seq (W.region ?_)
          refine WL.val u62 _ (op_move rfl) rfl ?_
          have hr65 := inR_len (Ty.lift _ (Ext.trans hE7 hS55.ext) hr64)
          refine WL.val (Value.int .i64 ((x58).length : Int)) _ (op_lenL sl_22 (Ty.lift _ (Ext.trans hE7 hS55.ext) hr64) rfl) rfl ?_
          refine WL.val (Value.int .i64 (0 : Int)) _ (op_move rfl) rfl ?_
          refine WL.nil ?_
          show W _ _ _ _ _ _
          obtain ⟨res66, hres67, hb43⟩ := bs hb43
          refine W.blockLoop (fun fq wq => ∃ s, res66 = Res.fin s ∧ fq 3 = (Value.int .i64 (k12 : Int)) ∧ fq 10 = v_c_Values ∧ fq 11 = (Value.int .i64 ((c_Values).length : Int)) ∧ fq 12 = (Value.int .i64 (k12 : Int)) ∧ fq 17 = u32 ∧ fq 18 = (Value.int .i64 ((x28).length : Int)) ∧ fq 19 = (Value.int .i64 (k38 : Int)) ∧ St wd2 wq []) ?_ ?_
          · refine W.forN (fun k (s : Unit) fq wq => fq 3 = (Value.int .i64 (k12 : Int)) ∧ fq 5 = (Value.int .i64 (k38 : Int)) ∧ fq 10 = v_c_Values ∧ fq 11 = (Value.int .i64 ((c_Values).length : Int)) ∧ fq 12 = (Value.int .i64 (k12 : Int)) ∧ fq 17 = u32 ∧ fq 18 = (Value.int .i64 ((x28).length : Int)) ∧ fq 19 = (Value.int .i64 (k38 : Int)) ∧ fq 24 = u62 ∧ fq 25 = (Value.int .i64 ((x58).length : Int)) ∧ fq 26 = Value.int .i64 (k : Int) ∧ InR .i64 (k : Int) ∧ St wd2 wq []) hres67 ⟨hf47, rfl, hf48, hf49, hf50, hf51, hf52, hf53, rfl, rfl, rfl, (inL rfl), hS55⟩ ?_ ?_
            · intro k68 s123 ct69 f70 wd71 hk72 hb73 hI74 hbrk75 hret76
              obtain ⟨⟩ := s123
              replace hI74 : f70 3 = (Value.int .i64 (k12 : Int)) ∧ f70 5 = (Value.int .i64 (k38 : Int)) ∧ f70 10 = v_c_Values ∧ f70 11 = (Value.int .i64 ((c_Values).length : Int)) ∧ f70 12 = (Value.int .i64 (k12 : Int)) ∧ f70 17 = u32 ∧ f70 18 = (Value.int .i64 ((x28).length : Int)) ∧ f70 19 = (Value.int .i64 (k38 : Int)) ∧ f70 24 = u62 ∧ f70 25 = (Value.int .i64 ((x58).length : Int)) ∧ f70 26 = Value.int .i64 (k68 : Int) ∧ InR .i64 (k68 : Int) ∧ St wd2 wd71 [] := hI74
              replace hb73 : p_impl_Cocycle_isNormalised_L3 x58 k12 k38 k68  = some ct69 := hb73
              unfold p_impl_Cocycle_isNormalised_L3 at hb73
              obtain ⟨hf77, hf78, hf79, hf80, hf81, hf82, hf83, hf84, hf85, hf86, hf87, hr88, hS89⟩ := hI74
              refine W.seq (W.region ?_)
              refine WL.val (Value.bool (decide ((k68 : Int) < ((x58).length : Int)))) _ (op_lss hf87 hf86) rfl ?_
              have hl90 : (k68 : Int) < ((x58).length : Int) := by omega
              refine WL.nil ?_
              refine W.seq ?_
              refine W.condT (decide ((k68 : Int) < ((x58).length : Int))) rfl (decide_eq_true hl90) ?_
              refine W.skip ?_
              refine W.seq ?_
              refine W.block ?_
              refine W.seq (W.region ?_)
              refine WL.val (Value.int .i64 (k68 : Int)) _ (op_move hf87) rfl ?_
              obtain ⟨x92, hx95, hb73⟩ := bs hb73
              obtain ⟨ha93, hb94, hx95⟩ := idx_some hx95
              refine WL.val (Value.pointer (some (elA u62 ((k68 : Int)).toNat))) _ (op_idx sl_22 (Ty.lift _ (Ext.trans hE7 hS89.ext) hr64) hf85 hf87 ha93 hb94) rfl ?_
              obtain ⟨u96, hc97, hr98⟩ := repSl.el hr64 hx95
              obtain ⟨rfl, hr98⟩ := hr98
              refine WL.val (Value.int .i64 x92) _ (op_load one_2 rfl (Ext.cell (Ext.trans hE7 hS89.ext) hc97)) rfl ?_
              refine WL.val (Value.int .i64 (k68 : Int)) _ (op_assign rfl) rfl ?_
              refine WL.val (Value.int .i64 x92) _ (op_assign rfl) rfl ?_
              refine WL.nil ?_
              refine W.seq ?_
              obtain ⟨x99, hj100, hb73⟩ := bs hb73
              refine W.cutCode (fun fq wq => fq 3 = (Value.int .i64 (k12 : Int)) ∧ fq 5 = (Value.int .i64 (k38 : Int)) ∧ fq 10 = v_c_Values ∧ fq 11 = (Value.int .i64 ((c_Values).length : Int)) ∧ fq 12 = (Value.int .i64 (k12 : Int)) ∧ fq 17 = u32 ∧ fq 18 = (Value.int .i64 ((x28).length : Int)) ∧ fq 19 = (Value.int .i64 (k38 : Int)) ∧ fq 24 = u62 ∧ fq 25 = (Value.int .i64 ((x58).length : Int)) ∧ fq 26 = (Value.int .i64 (k68 : Int)) ∧ fq 44 = Value.bool x99 ∧ St wd2 wq []) ?_ ?_
              · refine W.region ?_
                refine WL.val (Value.int .i64 x92) _ (op_move rfl) rfl ?_
                refine WL.val (Value.bool (x92 != (0 : Int))) _ (op_neq rfl rfl) rfl ?_
                refine WL.val (Value.bool (x92 != (0 : Int))) _ (op_move rfl) rfl ?_
                rcases Bool.eq_false_or_eq_true (x92 != (0 : Int)) with hc101 | hc101
                · replace hj100 := ip hj100 hc101
                  refine WL.grun rfl (bool_of rfl hc101) ?_
                  refine WL.val (Value.int .i64 (k12 : Int)) _ (op_move hf77) rfl ?_
                  refine WL.grun rfl (bool_of rfl hc101) ?_
                  refine WL.val (Value.bool ((k12 : Int) == (0 : Int))) _ (op_eql rfl rfl) rfl ?_
                  refine WL.grun rfl (bool_of rfl hc101) ?_
                  refine WL.val (Value.bool ((k12 : Int) == (0 : Int))) _ (op_move rfl) rfl ?_
                  rcases Bool.eq_false_or_eq_true ((k12 : Int) == (0 : Int)) with hc102 | hc102
                  · replace hj100 := ip hj100 hc102
                    refine WL.gskip rfl (bool_of rfl hc102) rfl ?_
                    refine WL.gskip rfl (bool_of rfl hc102) rfl ?_
                    refine WL.grun rfl (bool_of rfl hc101) ?_
                    refine WL.val (Value.bool true) _ (op_pick_t (evb_of rfl hc102) rfl) rfl ?_
                    refine WL.grun rfl (bool_of rfl hc101) ?_
                    refine WL.val (Value.bool true) _ (op_move rfl) rfl ?_
                    rcases Bool.eq_false_or_eq_true true with hc103 | hc103
                    · replace hj100 := ip hj100 hc103
                      refine WL.gskip rfl (bool_of rfl hc103) rfl ?_
                      refine WL.gskip rfl (bool_of rfl hc103) rfl ?_
                      refine WL.grun rfl (bool_of rfl hc101) ?_
                      refine WL.val (Value.bool true) _ (op_pick_t (evb_of rfl hc103) rfl) rfl ?_
                      refine WL.val (Value.bool true) _ (op_pick_t (evb_of rfl hc101) rfl) rfl ?_
                      refine WL.nil ?_
                      obtain rfl := Option.some.inj hj100
                      exact ⟨hf77, hf78, hf79, hf80, hf81, hf82, hf83, hf84, hf85, hf86, hf87, rfl, hS89⟩
                    · replace hj100 := inegb hj100 hc103
                      refine WL.grun rfl (bool_of rfl hc103) ?_
                      refine WL.val (Value.int .i64 (k68 : Int)) _ (op_move rfl) rfl ?_
                      refine WL.grun rfl (bool_of rfl hc103) ?_
                      refine WL.val (Value.bool ((k68 : Int) == (0 : Int))) _ (op_eql rfl rfl) rfl ?_
                      refine WL.grun rfl (bool_of rfl hc101) ?_
                      refine WL.val (Value.bool ((k68 : Int) == (0 : Int))) _ (op_pick_f (evb_of rfl hc103) rfl) rfl ?_
                      refine WL.val (Value.bool ((k68 : Int) == (0 : Int))) _ (op_pick_t (evb_of rfl hc101) rfl) rfl ?_
                      refine WL.nil ?_
                      obtain rfl := Option.some.inj hj100
                      exact ⟨hf77, hf78, hf79, hf80, hf81, hf82, hf83, hf84, hf85, hf86, hf87, rfl, hS89⟩
                  · replace hj100 := inegb hj100 hc102
                    refine WL.grun rfl (bool_of rfl hc102) ?_
                    refine WL.val (Value.int .i64 (k38 : Int)) _ (op_move hf78) rfl ?_
                    refine WL.grun rfl (bool_of rfl hc102) ?_
                    refine WL.val (Value.bool ((k38 : Int) == (0 : Int))) _ (op_eql rfl rfl) rfl ?_
                    refine WL.grun rfl (bool_of rfl hc101) ?_
                    refine WL.val (Value.bool ((k38 : Int) == (0 : Int))) _ (op_pick_f (evb_of rfl hc102) rfl) rfl ?_
                    refine WL.grun rfl (bool_of rfl hc101) ?_
                    refine WL.val (Value.bool ((k38 : Int) == (0 : Int))) _ (op_move rfl) rfl ?_
                    rcases Bool.eq_false_or_eq_true ((k38 : Int) == (0 : Int)) with hc104 | hc104
                    · replace hj100 := ip hj100 hc104
                      refine WL.gskip rfl (bool_of rfl hc104) rfl ?_
                      refine WL.gskip rfl (bool_of rfl hc104) rfl ?_
                      refine WL.grun rfl (bool_of rfl hc101) ?_
                      refine WL.val (Value.bool true) _ (op_pick_t (evb_of rfl hc104) rfl) rfl ?_
                      refine WL.val (Value.bool true) _ (op_pick_t (evb_of rfl hc101) rfl) rfl ?_
                      refine WL.nil ?_
                      obtain rfl := Option.some.inj hj100
                      exact ⟨hf77, hf78, hf79, hf80, hf81, hf82, hf83, hf84, hf85, hf86, hf87, rfl, hS89⟩
                    · replace hj100 := inegb hj100 hc104
                      refine WL.grun rfl (bool_of rfl hc104) ?_
                      refine WL.val (Value.int .i64 (k68 : Int)) _ (op_move rfl) rfl ?_
                      refine WL.grun rfl (bool_of rfl hc104) ?_
                      refine WL.val (Value.bool ((k68 : Int) == (0 : Int))) _ (op_eql rfl rfl) rfl ?_
                      refine WL.grun rfl (bool_of rfl hc101) ?_
                      refine WL.val (Value.bool ((k68 : Int) == (0 : Int))) _ (op_pick_f (evb_of rfl hc104) rfl) rfl ?_
                      refine WL.val (Value.bool ((k68 : Int) == (0 : Int))) _ (op_pick_t (evb_of rfl hc101) rfl) rfl ?_
                      refine WL.nil ?_
                      obtain rfl := Option.some.inj hj100
                      exact ⟨hf77, hf78, hf79, hf80, hf81, hf82, hf83, hf84, hf85, hf86, hf87, rfl, hS89⟩
                · replace hj100 := inegb hj100 hc101
                  refine WL.gskip rfl (bool_of rfl hc101) rfl ?_
                  refine WL.gskip rfl (bool_of rfl hc101) rfl ?_
                  refine WL.gskip rfl (bool_of rfl hc101) rfl ?_
                  refine WL.gskipu rfl rfl rfl ?_
                  refine WL.gskipu rfl rfl rfl ?_
                  refine WL.gskip rfl (bool_of rfl hc101) rfl ?_
                  refine WL.gskip rfl (bool_of rfl hc101) rfl ?_
                  refine WL.gskipu rfl rfl rfl ?_
                  refine WL.gskipu rfl rfl rfl ?_
                  refine WL.gskip rfl (bool_of rfl hc101) rfl ?_
                  refine WL.val (Value.bool false) _ (op_pick_f (evb_of rfl hc101) rfl) rfl ?_
                  refine WL.nil ?_
                  obtain rfl := Option.some.inj hj100
                  exact ⟨hf77, hf78, hf79, hf80, hf81, hf82, hf83, hf84, hf85, hf86, hf87, rfl, hS89⟩
              · intro f105 wd106 hq107
                obtain ⟨hf108, hf109, hf110, hf111, hf112, hf113, hf114, hf115, hf116, hf117, hf118, hf119, hS120⟩ := hq107
                refine W.cond x99 hf119 (fun hc121 => ?_) (fun hc121 => ?_)
                · replace hb73 := ip hb73 hc121
                  refine W.seq (W.region ?_)
                  refine WL.val (Value.bool false) _ (op_assign rfl) rfl ?_
                  refine WL.nil ?_
                  refine W.ret ?_
                  obtain rfl := Option.some.inj hb73
                  obtain rfl := hret76 _ rfl
                  replace hb43 := onRes_ret hb43
                  obtain rfl := Option.some.inj hb43
                  obtain rfl := hret46 _ rfl
                  replace hb17 := onRes_ret hb17
                  obtain rfl := Option.some.inj hb17
                  obtain rfl := hret20 _ rfl
                  replace h := onRes_ret h
                  obtain rfl := Option.some.inj h
                  show FinP _ _ _ _ _ _ _
                  exact FinP.ret _ (res1 rfl rfl) ⟨rfl, (Ext.trans hE7 hS120.ext)⟩
                · replace hb73 := inegb hb73 hc121
                  refine W.skip ?_
                  show W _ _ _ _ _ _
                  refine W.region ?_
                  refine WL.val (Value.int .i64 (w64 ((k68 : Int) + (1 : Int)))) _ (op_add hf118 rfl) rfl ?_
                  refine WL.val (Value.int .i64 (w64 ((k68 : Int) + (1 : Int)))) _ (op_move rfl) rfl ?_
                  refine WL.nil ?_
                  obtain rfl := Option.some.inj hb73
                  show ∃ s, _ = Ctl.next s ∧ _
                  exact ⟨_, rfl, hf108, hf109, hf110, hf111, hf112, hf113, hf114, hf115, hf116, hf117, (ctr_next hl90 hr65), (ctr_rng hl90 hr65), hS120⟩
            · intro s128 f124 wd125 hs126 hI127
              obtain ⟨⟩ := s128
              replace hI127 : f124 3 = (Value.int .i64 (k12 : Int)) ∧ f124 5 = (Value.int .i64 (k38 : Int)) ∧ f124 10 = v_c_Values ∧ f124 11 = (Value.int .i64 ((c_Values).length : Int)) ∧ f124 12 = (Value.int .i64 (k12 : Int)) ∧ f124 17 = u32 ∧ f124 18 = (Value.int .i64 ((x28).length : Int)) ∧ f124 19 = (Value.int .i64 (k38 : Int)) ∧ f124 24 = u62 ∧ f124 25 = (Value.int .i64 ((x58).length : Int)) ∧ f124 26 = Value.int .i64 (((x58).length : Nat) : Int) ∧ InR .i64 (((x58).length : Nat) : Int) ∧ St wd2 wd125 [] := hI127
              obtain ⟨hf129, hf130, hf131, hf132, hf133, hf134, hf135, hf136, hf137, hf138, hf139, hr140, hS141⟩ := hI127
              refine W.seq (W.region ?_)
              refine WL.val (Value.bool (decide ((((x58).length : Nat) : Int) < ((x58).length : Int)))) _ (op_lss hf139 hf138) rfl ?_
              have hl142 : ¬ (((x58).length : Nat) : Int) < ((x58).length : Int) := by omega
              refine WL.nil ?_
              refine W.seq ?_
              refine W.condF (decide ((((x58).length : Nat) : Int) < ((x58).length : Int))) rfl (decide_eq_false hl142) ?_
              refine W.exit ?_
              show _ = _ ∧ _
              exact ⟨rfl, _, hs126, hf129, hf131, hf132, hf133, hf134, hf135, hf136, hS141⟩
          · rintro f143 wd144 ⟨s146, rfl, hq145⟩
            replace hb43 := onRes_fin hb43
            obtain ⟨⟩ := s146
            replace hq145 : f143 3 = (Value.int .i64 (k12 : Int)) ∧ f143 10 = v_c_Values ∧ f143 11 = (Value.int .i64 ((c_Values).length : Int)) ∧ f143 12 = (Value.int .i64 (k12 : Int)) ∧ f143 17 = u32 ∧ f143 18 = (Value.int .i64 ((x28).length : Int)) ∧ f143 19 = (Value.int .i64 (k38 : Int)) ∧ St wd2 wd144 [] := hq145
            obtain ⟨hf147, hf148, hf149, hf150, hf151, hf152, hf153, hS154⟩ := hq145
            show W _ _ _ _ _ _
            refine W.region ?_
            refine WL.val (Value.int .i64 (w64 ((k38 : Int) + (1 : Int)))) _ (op_add hf153 rfl) rfl ?_
            refine WL.val (Value.int .i64 (w64 ((k38 : Int) + (1 : Int)))) _ (op_move rfl) rfl ?_
            refine WL.nil ?_
            obtain rfl := Option.some.inj hb43
            show ∃ s, _ = Ctl.next s ∧ _
            exact ⟨_, rfl, hf147, hf148, hf149, hf150, hf151, hf152, (ctr_next hl56 hr35), (ctr_rng hl56 hr35), hS154⟩
        · intro s161 f157 wd158 hs159 hI160
          obtain ⟨⟩ := s161
          replace hI160 : f157 3 = (Value.int .i64 (k12 : Int)) ∧ f157 10 = v_c_Values ∧ f157 11 = (Value.int .i64 ((c_Values).length : Int)) ∧ f157 12 = (Value.int .i64 (k12 : Int)) ∧ f157 17 = u32 ∧ f157 18 = (Value.int .i64 ((x28).length : Int)) ∧ f157 19 = Value.int .i64 (((x28).length : Nat) : Int) ∧ InR .i64 (((x28).length : Nat) : Int) ∧ St wd2 wd158 [] := hI160
          obtain ⟨hf162, hf163, hf164, hf165, hf166, hf167, hf168, hr169, hS170⟩ := hI160
          refine W.seq (W.region ?_)
          refine WL.val (Value.bool (decide ((((x28).length : Nat) : Int) < ((x28).length : Int)))) _ (op_lss hf168 hf167) rfl ?_
          have hl171 : ¬ (((x28).length : Nat) : Int) < ((x28).length : Int) := by omega
          refine WL.nil ?_
          refine W.seq ?_
          refine W.condF (decide ((((x28).length : Nat) : Int) < ((x28).length : Int))) rfl (decide_eq_false hl171) ?_
          refine W.exit ?_
          show _ = _ ∧ _
          exact ⟨rfl, _, hs159, hf163, hf164, hf165, hS170⟩
      · rintro f172 wd173 ⟨s175, rfl, hq174⟩
        replace hb17 := onRes_fin hb17
        obtain ⟨⟩ := s175
        replace hq174 : f172 10 = v_c_Values ∧ f172 11 = (Value.int .i64 ((c_Values).length : Int)) ∧ f172 12 = (Value.int .i64 (k12 : Int)) ∧ St wd2 wd173 [] := hq174
        obtain ⟨hf176, hf177, hf178, hS179⟩ := hq174
        show W _ _ _ _ _ _
        refine W.region ?_
        refine WL.val (Value.int .i64 (w64 ((k12 : Int) + (1 : Int)))) _ (op_add hf178 rfl) rfl ?_
        refine WL.val (Value.int .i64 (w64 ((k12 : Int) + (1 : Int)))) _ (op_move rfl) rfl ?_
        refine WL.nil ?_
        obtain rfl := Option.some.inj hb17
        show ∃ s, _ = Ctl.next s ∧ _
        exact ⟨_, rfl, hf176, hf177, (ctr_next hl26 hr9), (ctr_rng hl26 hr9), hS179⟩
    · intro s186 f182 wd183 hs184 hI185
      obtain ⟨⟩ := s186
      replace hI185 : f182 10 = v_c_Values ∧ f182 11 = (Value.int .i64 ((c_Values).length : Int)) ∧ f182 12 = Value.int .i64 (((c_Values).length : Nat) : Int) ∧ InR .i64 (((c_Values).length : Nat) : Int) ∧ St wd2 wd183 [] := hI185
      obtain ⟨hf187, hf188, hf189, hr190, hS191⟩ := hI185
      refine W.seq (W.region ?_)
      refine WL.val (Value.bool (decide ((((c_Values).length : Nat) : Int) < ((c_Values).length : Int)))) _ (op_lss hf189 hf188) rfl ?_
      have hl192 : ¬ (((c_Values).length : Nat) : Int) < ((c_Values).length : Int) := by omega
      refine WL.nil ?_
      refine W.seq ?_
      refine W.condF (decide ((((c_Values).length : Nat) : Int) < ((c_Values).length : Int))) rfl (decide_eq_false hl192) ?_
      refine W.exit ?_
      show _ = _ ∧ _
      exact ⟨rfl, _, hs184, hS191⟩
  · rintro f193 wd194 ⟨s196, rfl, hq195⟩
    replace h := onRes_fin h
    obtain ⟨⟩ := s196
    replace hq195 : St wd2 wd194 [] := hq195
    have hS197 := hq195
    refine W.seq (W.region ?_)
    refine WL.val (Value.bool true) _ (op_assign rfl) rfl ?_
    refine WL.nil ?_
    refine W.ret ?_
    obtain rfl := Option.some.inj h
    show FinP _ _ _ _ _ _ _
    exact FinP.ret _ (res1 rfl rfl) ⟨rfl, (Ext.trans hE7 hS197.ext)⟩

theorem c_slices_Backward_Lint64_int64_c1 {w : World} {yield : Int → Int → Option Bool} {v_yield : Value} {b_c0 : Nat} {c0 : (List Int)} {v_c0 : Value} (r_yield : FnT_i_i_to_b Try.prog v_yield w yield) (k_c0 : BoxAt w b_c0 [v_c0]) (r_c0 : (Ty.sl (Ty.i .i64)).rep w v_c0 c0) {res : Unit} (h : p_slices_Backward_Lint64_int64_c1 yield c0 = some res) :
    Ret Try.prog 143 #[v_yield, (Value.pointer (some ⟨b_c0, 0, none⟩))] w (fun v w' => v = (Value.tuple #[]) ∧ Ext w w') := by
  unfold p_slices_Backward_Lint64_int64_c1 at h
  have hS0 : St w w [] := St.start w
  have q_yield := r_yield
  obtain ⟨g_yield, fst_yield, cap_yield, eq_yield, ok_yield, call_yield⟩ := q_yield
  subst eq_yield
  refine Ret.start (fn := Try.f143) Try.func143 rfl 19 rfl rfl ?_
  refine W.seq (W.region ?_)
  refine WL.val v_c0 _ (op_load one_22 rfl (BoxAt.cell (BoxAt.lift hS0.ext k_c0) rfl)) rfl ?_
  have hr1 := inR_len (Ty.lift _ hS0.ext r_c0)
  refine WL.val (Value.int .i64 ((c0).length : Int)) _ (op_lenL sl_22 (Ty.lift _ hS0.ext r_c0) rfl) rfl ?_
  refine WL.val (Value.int .i64 (w64 (((c0).length : Int) - (1 : Int)))) _ (op_sub rfl rfl) rfl ?_
  refine WL.val (Value.int .i64 (w64 (((c0).length : Int) - (1 : Int)))) _ (op_assign rfl) rfl ?_
  refine WL.nil ?_
  show W _ _ _ _ _ _
  obtain ⟨res2, hres3, h⟩ := bs h
  refine W.blockLoop (fun fq wq => ∃ s, res2 = Res.fin s ∧ St w wq []) ?_ ?_
  · refine W.whileC (fun (s : Int) fq wq => fq 0 = (Value.func (.func g_yield) fst_yield cap_yield) ∧ fq 1 = (Value.pointer (some ⟨b_c0, 0, none⟩)) ∧ fq 3 = Value.int .i64 s ∧ InR .i64 s ∧ St w wq []) hres3 ⟨rfl, rfl, rfl, (inR_wrap _ _), hS0⟩ ?_
    intro x5 ct6 f7 wd8 hb10 hI11 hbrk12 hret13
    replace hI11 : f7 0 = (Value.func (.func g_yield) fst_yield cap_yield) ∧ f7 1 = (Value.pointer (some ⟨b_c0, 0, none⟩)) ∧ f7 3 = Value.int .i64 x5 ∧ InR .i64 x5 ∧ St w wd8 [] := hI11
    replace hb10 : p_slices_Backward_Lint64_int64_c1_L1 c0 yield  x5 = some ct6 := hb10
    unfold p_slices_Backward_Lint64_int64_c1_L1 at hb10
    obtain ⟨hf14, hf15, hf16, hr17, hS18⟩ := hI11
    refine W.seq (W.seq (W.region ?_))
    refine WL.val (Value.int .i64 x5) _ (op_move hf16) rfl ?_
    refine WL.val (Value.bool (decide (x5 ≥ (0 : Int)))) _ (op_geq rfl rfl) rfl ?_
    refine WL.nil ?_
    refine W.cond (decide (x5 ≥ (0 : Int))) rfl (fun hc19 => ?_) (fun hc19 => ?_)
    · replace hb10 := ip hb10 hc19
      refine W.skip ?_
      refine W.seq ?_
      refine W.block ?_
      refine W.seq (W.region ?_)
      refine WL.val (Value.func (.func g_yield) fst_yield cap_yield) _ (op_move hf14) rfl ?_
      refine WL.val (Value.int .i64 x5) _ (op_move hf16) rfl ?_
      refine WL.val v_c0 _ (op_load one_22 hf15 (BoxAt.cell (BoxAt.lift hS18.ext k_c0) rfl)) rfl ?_
      refine WL.val (Value.int .i64 x5) _ (op_move hf16) rfl ?_
      obtain ⟨x21, hx24, hb10⟩ := bs hb10
      obtain ⟨ha22, hb23, hx24⟩ := idx_some hx24
      refine WL.val (Value.pointer (some (elA v_c0 (x5).toNat))) _ (op_idx sl_22 (Ty.lift _ hS18.ext r_c0) rfl rfl ha22 hb23) rfl ?_
      obtain ⟨u25, hc26, hr27⟩ := repSl.el r_c0 hx24
      obtain ⟨rfl, hr27⟩ := hr27
      refine WL.val (Value.int .i64 x21) _ (op_load one_2 rfl (Ext.cell hS18.ext hc26)) rfl ?_
      obtain ⟨x28, hx29, hb10⟩ := bs hb10
      refine WL.call _ (op_callV rfl ok_yield (args2 rfl rfl)) (call_yield wd8 x5 x21 x28 hS18.ext hr17 hr27 hx29) rfl ?_
      rintro _ wd30 ⟨rfl, he31⟩
      have hS33 := St.extend hS18 he31
      refine WL.val (Value.bool (!x28)) _ (op_not rfl) rfl ?_
      refine WL.nil ?_
      refine W.cond (!x28) rfl (fun hc34 => ?_) (fun hc34 => ?_)
      · replace hb10 := ip hb10 hc34
        refine W.ret ?_
        obtain rfl := Option.some.inj hb10
        obtain rfl := hret13 _ rfl
        replace h := onRes_ret h
        obtain rfl := Option.some.inj h
        show FinP _ _ _ _ _ _ _
        exact FinP.ret _ (res0 rfl) ⟨rfl, hS33.ext⟩
      · replace hb10 := inegb hb10 hc34
        refine W.skip ?_
        show W _ _ _ _ _ _
        refine W.region ?_
        refine WL.val (Value.int .i64 x5) _ (op_move hf16) rfl ?_
        refine WL.val (Value.int .i64 (w64 (x5 - (1 : Int)))) _ (op_sub rfl rfl) rfl ?_
        refine WL.val (Value.int .i64 (w64 (x5 - (1 : Int)))) _ (op_assign rfl) rfl ?_
        refine WL.nil ?_
        obtain rfl := Option.some.inj hb10
        show ∃ s, _ = Ctl.next s ∧ _
        exact ⟨_, rfl, hf14, hf15, rfl, (inR_wrap _ _), hS33⟩
    · replace hb10 := inegb hb10 hc19
      refine W.exit ?_
      obtain rfl := Option.some.inj hb10
      show _ = _ ∧ _
      exact ⟨rfl, _, hbrk12 _ rfl, hS18⟩
  · rintro f37 wd38 ⟨x41, rfl, hq39⟩
    replace h := onRes_fin h
    replace hq39 : St w wd38 [] := hq39
    have hS42 := hq39
    obtain rfl := Option.some.inj h
    show FinP _ _ _ _ _ _ _
    exact FinP.end _ (res0 rfl) ⟨rfl, hS42.ext⟩

attribute [local irreducible] WR WI WLI
/-- The rounds' code. -/
noncomputable def bkBody : Code := match Try.f126.body with
  | some (.seq _ (.seq _ (.seq (.seq _ (.block _ (.rangeFunc _ _ _ c))) _))) => c
  | _ => .skip
theorem bk_body {w Wd : World} {f : Fr} {b1 b6 b11 b15 : Nat} {EE : Ent} {a b s0 p0 mm : Int} {m lr : Nat} (r_a : InR .i64 a) (r_b : InR .i64 b) (r_s0 : InR .i64 s0) (r_p0 : InR .i64 p0) (r_mm : InR .i64 mm) (h0m : mm ≠ 0)
    (hf4 : f 4 = Value.pointer (some ⟨b1, 0, none⟩)) (hf5 : f 5 = Value.pointer (some ⟨b6, 0, none⟩)) (hf7 : f 7 = Value.pointer (some ⟨b11, 0, none⟩)) (hf8 : f 8 = Value.pointer (some ⟨b15, 0, none⟩)) (hf10 : f 10 = Value.int .i64 mm)
    (hS22 : St w Wd [bx b1 [Value.int .i64 a], bx b6 [Value.int .i64 b], bx b11 [Value.int .i64 s0], bx b15 [Value.int .i64 p0], EE]) :
    WR Try.prog 38 m lr bkBody (fun _ w' => St w w' [bx b1 [Value.int .i64 (p_impl_addElements_S mm (a, b, s0, p0)).1], bx b6 [Value.int .i64 (p_impl_addElements_S mm (a, b, s0, p0)).2.1], bx b11 [Value.int .i64 (p_impl_addElements_S mm (a, b, s0, p0)).2.2.1], bx b15 [Value.int .i64 (p_impl_addElements_S mm (a, b, s0, p0)).2.2.2], EE]) f Wd := by
  have hfin0 := True.intro
  refine WR.block ?_
  refine WR.seq ?_
  obtain ⟨x60, hz61⟩ : ∃ x, x = (a).tmod mm := ⟨_, rfl⟩ -- HZ
  have h062 := h0m
  obtain ⟨x94, hz95⟩ : ∃ x, x = (b).tmod mm := ⟨_, rfl⟩ -- HZ
  have h096 := h0m
  obtain ⟨x137, hz138⟩ : ∃ x, x = (w64 (x60 + x94)).tmod mm := ⟨_, rfl⟩ -- HZ
  have h0139 := h0m
  have hfin : ∀ {w2 : World}, St w w2 [bx b1 [Value.int .i64 (w64 (a.tdiv mm))], bx b6 [Value.int .i64 (w64 (b.tdiv mm))], bx b11 [Value.int .i64 (w64 (s0 + (w64 (x137 * p0))))], bx b15 [Value.int .i64 (w64 (p0 * mm))], EE] → St w w2 [bx b1 [Value.int .i64 (p_impl_addElements_S mm (a, b, s0, p0)).1], bx b6 [Value.int .i64 (p_impl_addElements_S mm (a, b, s0, p0)).2.1], bx b11 [Value.int .i64 (p_impl_addElements_S mm (a, b, s0, p0)).2.2.1], bx b15 [Value.int .i64 (p_impl_addElements_S mm (a, b, s0, p0)).2.2.2], EE] := by
    intro w2 h; rw [hz138, hz61, hz95] at h; exact h
  refine WR.drawR mixo (by kernel_rfl) 12 [] [fun _ v _ _ => v = (Value.int .i64 s0) ∧ InR .i64 s0, fun _ v _ _ => v = (Value.int .i64 a) ∧ InR .i64 a, fun _ v _ _ => v = (Value.int .i64 mm) ∧ InR .i64 mm, fun _ v _ _ => v = (Value.int .i64 x60) ∧ InR .i64 x60, fun _ v _ _ => v = (Value.int .i64 b) ∧ InR .i64 b, fun _ v _ _ => v = (Value.int .i64 mm) ∧ InR .i64 mm, fun _ v _ _ => v = (Value.int .i64 x94) ∧ InR .i64 x94, fun _ v _ _ => v = (Value.int .i64 (w64 (x60 + x94))) ∧ InR .i64 (w64 (x60 + x94)), fun _ v _ _ => v = (Value.int .i64 mm) ∧ InR .i64 mm, fun _ v _ _ => v = (Value.int .i64 x137) ∧ InR .i64 x137, fun _ v _ _ => v = (Value.int .i64 p0) ∧ InR .i64 p0, fun _ v _ _ => v = (Value.int .i64 (w64 (x137 * p0))) ∧ InR .i64 (w64 (x137 * p0))] (by kernel_rfl) (by kernel_rfl) ⟨pk, pk, pk, pk, pk, pk, pk, pk, pk, pk, pk, pk, trivial⟩ ⟨?_, ?_, ?_, ?_, ?_, ?_, ?_, ?_, ?_, ?_, ?_, ?_, trivial⟩ ?_
  · refine ObX.op rfl fun f23 wd24 he25 hout26 hphi27 => ?_
    have hS28 := St.extend hS22 he25
    have e29 : f23 7 = (Value.pointer (some ⟨b11, 0, none⟩)) := (hout26 7 rfl).trans hf7
    exact OpX.val (Value.int .i64 s0) wd24 rfl (op_load one_2 e29 (BoxAt.cell (St.boxAt hS28 2 rfl) rfl)) (Ext.refl _) ⟨rfl, r_s0⟩
  · refine ObX.op rfl fun f30 wd31 he32 hout33 hphi34 => ?_
    have hS35 := St.extend hS22 he32
    have e36 : f30 4 = (Value.pointer (some ⟨b1, 0, none⟩)) := (hout33 4 rfl).trans hf4
    exact OpX.val (Value.int .i64 a) wd31 rfl (op_load one_2 e36 (BoxAt.cell (St.boxAt hS35 0 rfl) rfl)) (Ext.refl _) ⟨rfl, r_a⟩
  · refine ObX.op rfl fun f37 wd38 he39 hout40 hphi41 => ?_
    have e43 : f37 10 = (Value.int .i64 mm) := (hout40 10 rfl).trans hf10
    exact OpX.val (Value.int .i64 mm) wd38 rfl (op_move e43) (Ext.refl _) ⟨rfl, r_mm⟩
  · refine ObX.op rfl fun f44 wd45 he46 hout47 hphi48 => ?_
    obtain ⟨S50, hS51, hf52⟩ := hphi48 1 16 _ rfl rfl rfl
    obtain ⟨e53, hr54⟩ := hf52
    obtain ⟨S55, hS56, hf57⟩ := hphi48 2 17 _ rfl rfl rfl
    obtain ⟨e58, hr59⟩ := hf57
    have hr63 : InR .i64 x60 := by rw [hz61]; exact inR_tmod hr54
    exact OpX.val (Value.int .i64 x60) wd45 rfl (by rw [hz61]; exact op_rem e53 e58 h062) (Ext.refl _) ⟨rfl, hr63⟩
  · refine ObX.op rfl fun f64 wd65 he66 hout67 hphi68 => ?_
    have hS69 := St.extend hS22 he66
    have e70 : f64 5 = (Value.pointer (some ⟨b6, 0, none⟩)) := (hout67 5 rfl).trans hf5
    exact OpX.val (Value.int .i64 b) wd65 rfl (op_load one_2 e70 (BoxAt.cell (St.boxAt hS69 1 rfl) rfl)) (Ext.refl _) ⟨rfl, r_b⟩
  · refine ObX.op rfl fun f71 wd72 he73 hout74 hphi75 => ?_
    have e77 : f71 10 = (Value.int .i64 mm) := (hout74 10 rfl).trans hf10
    exact OpX.val (Value.int .i64 mm) wd72 rfl (op_move e77) (Ext.refl _) ⟨rfl, r_mm⟩
  · refine ObX.op rfl fun f78 wd79 he80 hout81 hphi82 => ?_
    obtain ⟨S84, hS85, hf86⟩ := hphi82 4 19 _ rfl rfl rfl
    obtain ⟨e87, hr88⟩ := hf86
    obtain ⟨S89, hS90, hf91⟩ := hphi82 5 20 _ rfl rfl rfl
    obtain ⟨e92, hr93⟩ := hf91
    have hr97 : InR .i64 x94 := by rw [hz95]; exact inR_tmod hr88
    exact OpX.val (Value.int .i64 x94) wd79 rfl (by rw [hz95]; exact op_rem e87 e92 h096) (Ext.refl _) ⟨rfl, hr97⟩
  · refine ObX.op rfl fun f98 wd99 he100 hout101 hphi102 => ?_
    obtain ⟨S104, hS105, hf106⟩ := hphi102 3 18 _ rfl rfl rfl
    obtain ⟨e107, hr108⟩ := hf106
    obtain ⟨S109, hS110, hf111⟩ := hphi102 6 21 _ rfl rfl rfl
    obtain ⟨e112, hr113⟩ := hf111
    exact OpX.val (Value.int .i64 (w64 (x60 + x94))) wd99 rfl (op_add e107 e112) (Ext.refl _) ⟨rfl, (inR_wrap _ _)⟩
  · refine ObX.op rfl fun f114 wd115 he116 hout117 hphi118 => ?_
    have e120 : f114 10 = (Value.int .i64 mm) := (hout117 10 rfl).trans hf10
    exact OpX.val (Value.int .i64 mm) wd115 rfl (op_move e120) (Ext.refl _) ⟨rfl, r_mm⟩
  · refine ObX.op rfl fun f121 wd122 he123 hout124 hphi125 => ?_
    obtain ⟨S127, hS128, hf129⟩ := hphi125 7 22 _ rfl rfl rfl
    obtain ⟨e130, hr131⟩ := hf129
    obtain ⟨S132, hS133, hf134⟩ := hphi125 8 23 _ rfl rfl rfl
    obtain ⟨e135, hr136⟩ := hf134
    have hr140 : InR .i64 x137 := by rw [hz138]; exact inR_tmod hr131
    exact OpX.val (Value.int .i64 x137) wd122 rfl (by rw [hz138]; exact op_rem e130 e135 h0139) (Ext.refl _) ⟨rfl, hr140⟩
  · refine ObX.op rfl fun f141 wd142 he143 hout144 hphi145 => ?_
    have hS146 := St.extend hS22 he143
    have e147 : f141 8 = (Value.pointer (some ⟨b15, 0, none⟩)) := (hout144 8 rfl).trans hf8
    exact OpX.val (Value.int .i64 p0) wd142 rfl (op_load one_2 e147 (BoxAt.cell (St.boxAt hS146 3 rfl) rfl)) (Ext.refl _) ⟨rfl, r_p0⟩
  · refine ObX.op rfl fun f148 wd149 he150 hout151 hphi152 => ?_
    obtain ⟨S154, hS155, hf156⟩ := hphi152 9 24 _ rfl rfl rfl
    obtain ⟨e157, hr158⟩ := hf156
    obtain ⟨S159, hS160, hf161⟩ := hphi152 10 25 _ rfl rfl rfl
    obtain ⟨e162, hr163⟩ := hf161
    exact OpX.val (Value.int .i64 (w64 (x137 * p0))) wd149 rfl (op_mul e157 e162) (Ext.refl _) ⟨rfl, (inR_wrap _ _)⟩
  · intro f164 wd165 Ss166 he167 hout168 hSn169 hSd170 hphi171
    show WL _ _ _ _ _ _ _
    have hS172 := St.extend hS22 he167
    obtain ⟨e173, hr174⟩ := hphi171 0 15 _ (by decide) rfl rfl
    obtain ⟨e175, hr176⟩ := hphi171 11 26 _ (by decide) rfl rfl
    have e177 : f164 4 = (Value.pointer (some ⟨b1, 0, none⟩)) := (hout168 4 rfl).trans hf4
    have e178 : f164 5 = (Value.pointer (some ⟨b6, 0, none⟩)) := (hout168 5 rfl).trans hf5
    have e179 : f164 7 = (Value.pointer (some ⟨b11, 0, none⟩)) := (hout168 7 rfl).trans hf7
    have e180 : f164 8 = (Value.pointer (some ⟨b15, 0, none⟩)) := (hout168 8 rfl).trans hf8
    have e181 : f164 10 = (Value.int .i64 mm) := (hout168 10 rfl).trans hf10
    refine WL.val (Value.int .i64 (w64 (s0 + (w64 (x137 * p0))))) _ (op_add e173 e175) rfl ?_
    refine WL.storeBox [(Value.int .i64 (w64 (s0 + (w64 (x137 * p0)))))] hS172 (k := 2) rfl e179 rfl (us := [(Value.int .i64 (w64 (s0 + (w64 (x137 * p0)))))]) rfl sz_2 rfl rfl (all_cons rfl all_nil) rfl ?_
    intro wd182 hS183
    replace hS183 : St w wd182 [bx b1 [(Value.int .i64 a)], bx b6 [(Value.int .i64 b)], bx b11 [(Value.int .i64 (w64 (s0 + (w64 (x137 * p0)))))], bx b15 [(Value.int .i64 p0)], EE] := hS183
    refine WL.nil ?_
    show WR _ _ _ _ _ _ _ _
    refine WR.seq ?_
    refine WR.region (by kernel_rfl) ?_
    refine WL.val (Value.int .i64 p0) _ (op_load one_2 e180 (BoxAt.cell (St.boxAt hS183 3 rfl) rfl)) rfl ?_
    refine WL.val (Value.int .i64 mm) _ (op_move e181) rfl ?_
    refine WL.val (Value.int .i64 (w64 (p0 * mm))) _ (op_mul rfl rfl) rfl ?_
    refine WL.storeBox [(Value.int .i64 (w64 (p0 * mm)))] hS183 (k := 3) rfl e180 rfl (us := [(Value.int .i64 (w64 (p0 * mm)))]) rfl sz_2 rfl rfl (all_cons rfl all_nil) rfl ?_
    intro wd184 hS185
    replace hS185 : St w wd184 [bx b1 [(Value.int .i64 a)], bx b6 [(Value.int .i64 b)], bx b11 [(Value.int .i64 (w64 (s0 + (w64 (x137 * p0)))))], bx b15 [(Value.int .i64 (w64 (p0 * mm)))], EE] := hS185
    refine WL.nil ?_
    show WR _ _ _ _ _ _ _ _
    refine WR.orders mixo (by kernel_rfl) ?_
    intro wd186 he187
    have hS188 := St.extend hS185 he187
    refine WA.take (Value.int .i64 mm) (i := 1) rfl rfl rfl rfl (by kernel_rfl) (fun _ => (op_move e181)) ?_
    refine WA.take (Value.int .i64 mm) (i := 4) rfl rfl rfl rfl (by kernel_rfl) (fun _ => (op_move e181)) ?_
    refine WA.all [0, 3] (by kernel_rfl) rfl ⟨⟨_, rfl, ?_⟩, ⟨_, rfl, ?_⟩, trivial⟩
    · refine WL.val (Value.int .i64 a) _ (op_load one_2 e177 (BoxAt.cell (St.boxAt hS188 0 rfl) rfl)) rfl ?_
      refine WL.nil ?_
      show WA _ _ _ _ _ _ _ _
      refine WA.all [2, 3] (by kernel_rfl) rfl ⟨⟨_, rfl, ?_⟩, ⟨_, rfl, ?_⟩, trivial⟩
      · refine WL.val (Value.int .i64 (w64 ((a).tdiv mm))) _ (op_quo (b := mm) rfl rfl h0m) rfl ?_
        refine WL.nil ?_
        show WA _ _ _ _ _ _ _ _
        refine WA.all [3, 6] (by kernel_rfl) rfl ⟨⟨_, rfl, ?_⟩, ⟨_, rfl, ?_⟩, trivial⟩
        · refine WL.val (Value.int .i64 b) _ (op_load one_2 e178 (BoxAt.cell (St.boxAt hS188 1 rfl) rfl)) rfl ?_
          refine WL.nil ?_
          show WA _ _ _ _ _ _ _ _
          refine WA.all [5, 6] (by kernel_rfl) rfl ⟨⟨_, rfl, ?_⟩, ⟨_, rfl, ?_⟩, trivial⟩
          · refine WL.val (Value.int .i64 (w64 ((b).tdiv mm))) _ (op_quo (b := mm) rfl rfl h0m) rfl ?_
            refine WL.nil ?_
            show WA _ _ _ _ _ _ _ _
            refine WA.all [6] (by kernel_rfl) rfl ⟨⟨_, rfl, ?_⟩, trivial⟩
            · refine WL.storeBox [(Value.int .i64 (w64 ((a).tdiv mm)))] hS188 (k := 0) rfl e177 rfl (us := [(Value.int .i64 (w64 ((a).tdiv mm)))]) rfl sz_2 rfl rfl (all_cons rfl all_nil) rfl ?_
              intro wd189 hS190
              replace hS190 : St w wd189 [bx b1 [(Value.int .i64 (w64 ((a).tdiv mm)))], bx b6 [(Value.int .i64 b)], bx b11 [(Value.int .i64 (w64 (s0 + (w64 (x137 * p0)))))], bx b15 [(Value.int .i64 (w64 (p0 * mm)))], EE] := hS190
              refine WL.nil ?_
              show WA _ _ _ _ _ _ _ _
              refine WA.all [7] (by kernel_rfl) rfl ⟨⟨_, rfl, ?_⟩, trivial⟩
              · refine WL.storeBox [(Value.int .i64 (w64 ((b).tdiv mm)))] hS190 (k := 1) rfl e178 rfl (us := [(Value.int .i64 (w64 ((b).tdiv mm)))]) rfl sz_2 rfl rfl (all_cons rfl all_nil) rfl ?_
                intro wd191 hS192
                replace hS192 : St w wd191 [bx b1 [(Value.int .i64 (w64 ((a).tdiv mm)))], bx b6 [(Value.int .i64 (w64 ((b).tdiv mm)))], bx b11 [(Value.int .i64 (w64 (s0 + (w64 (x137 * p0)))))], bx b15 [(Value.int .i64 (w64 (p0 * mm)))], EE] := hS192
                refine WL.nil ?_
                show WA _ _ _ _ _ _ _ _
                refine WA.done (by kernel_rfl) ?_
                exact hfin hS192
          · refine WL.storeBox [(Value.int .i64 (w64 ((a).tdiv mm)))] hS188 (k := 0) rfl e177 rfl (us := [(Value.int .i64 (w64 ((a).tdiv mm)))]) rfl sz_2 rfl rfl (all_cons rfl all_nil) rfl ?_
            intro wd193 hS194
            replace hS194 : St w wd193 [bx b1 [(Value.int .i64 (w64 ((a).tdiv mm)))], bx b6 [(Value.int .i64 b)], bx b11 [(Value.int .i64 (w64 (s0 + (w64 (x137 * p0)))))], bx b15 [(Value.int .i64 (w64 (p0 * mm)))], EE] := hS194
            refine WL.nil ?_
            show WA _ _ _ _ _ _ _ _
            refine WA.all [5] (by kernel_rfl) rfl ⟨⟨_, rfl, ?_⟩, trivial⟩
            · refine WL.val (Value.int .i64 (w64 ((b).tdiv mm))) _ (op_quo (b := mm) rfl rfl h0m) rfl ?_
              refine WL.nil ?_
              show WA _ _ _ _ _ _ _ _
              refine WA.all [7] (by kernel_rfl) rfl ⟨⟨_, rfl, ?_⟩, trivial⟩
              · refine WL.storeBox [(Value.int .i64 (w64 ((b).tdiv mm)))] hS194 (k := 1) rfl e178 rfl (us := [(Value.int .i64 (w64 ((b).tdiv mm)))]) rfl sz_2 rfl rfl (all_cons rfl all_nil) rfl ?_
                intro wd195 hS196
                replace hS196 : St w wd195 [bx b1 [(Value.int .i64 (w64 ((a).tdiv mm)))], bx b6 [(Value.int .i64 (w64 ((b).tdiv mm)))], bx b11 [(Value.int .i64 (w64 (s0 + (w64 (x137 * p0)))))], bx b15 [(Value.int .i64 (w64 (p0 * mm)))], EE] := hS196
                refine WL.nil ?_
                show WA _ _ _ _ _ _ _ _
                refine WA.done (by kernel_rfl) ?_
                exact hfin hS196
        · refine WL.storeBox [(Value.int .i64 (w64 ((a).tdiv mm)))] hS188 (k := 0) rfl e177 rfl (us := [(Value.int .i64 (w64 ((a).tdiv mm)))]) rfl sz_2 rfl rfl (all_cons rfl all_nil) rfl ?_
          intro wd197 hS198
          replace hS198 : St w wd197 [bx b1 [(Value.int .i64 (w64 ((a).tdiv mm)))], bx b6 [(Value.int .i64 b)], bx b11 [(Value.int .i64 (w64 (s0 + (w64 (x137 * p0)))))], bx b15 [(Value.int .i64 (w64 (p0 * mm)))], EE] := hS198
          refine WL.nil ?_
          show WA _ _ _ _ _ _ _ _
          refine WA.all [3] (by kernel_rfl) rfl ⟨⟨_, rfl, ?_⟩, trivial⟩
          · refine WL.val (Value.int .i64 b) _ (op_load one_2 e178 (BoxAt.cell (St.boxAt hS198 1 rfl) rfl)) rfl ?_
            refine WL.nil ?_
            show WA _ _ _ _ _ _ _ _
            refine WA.all [5] (by kernel_rfl) rfl ⟨⟨_, rfl, ?_⟩, trivial⟩
            · refine WL.val (Value.int .i64 (w64 ((b).tdiv mm))) _ (op_quo (b := mm) rfl rfl h0m) rfl ?_
              refine WL.nil ?_
              show WA _ _ _ _ _ _ _ _
              refine WA.all [7] (by kernel_rfl) rfl ⟨⟨_, rfl, ?_⟩, trivial⟩
              · refine WL.storeBox [(Value.int .i64 (w64 ((b).tdiv mm)))] hS198 (k := 1) rfl e178 rfl (us := [(Value.int .i64 (w64 ((b).tdiv mm)))]) rfl sz_2 rfl rfl (all_cons rfl all_nil) rfl ?_
                intro wd199 hS200
                replace hS200 : St w wd199 [bx b1 [(Value.int .i64 (w64 ((a).tdiv mm)))], bx b6 [(Value.int .i64 (w64 ((b).tdiv mm)))], bx b11 [(Value.int .i64 (w64 (s0 + (w64 (x137 * p0)))))], bx b15 [(Value.int .i64 (w64 (p0 * mm)))], EE] := hS200
                refine WL.nil ?_
                show WA _ _ _ _ _ _ _ _
                refine WA.done (by kernel_rfl) ?_
                exact hfin hS200
      · refine WL.val (Value.int .i64 b) _ (op_load one_2 e178 (BoxAt.cell (St.boxAt hS188 1 rfl) rfl)) rfl ?_
        refine WL.nil ?_
        show WA _ _ _ _ _ _ _ _
        refine WA.all [2, 5] (by kernel_rfl) rfl ⟨⟨_, rfl, ?_⟩, ⟨_, rfl, ?_⟩, trivial⟩
        · refine WL.val (Value.int .i64 (w64 ((a).tdiv mm))) _ (op_quo (b := mm) rfl rfl h0m) rfl ?_
          refine WL.nil ?_
          show WA _ _ _ _ _ _ _ _
          refine WA.all [5, 6] (by kernel_rfl) rfl ⟨⟨_, rfl, ?_⟩, ⟨_, rfl, ?_⟩, trivial⟩
          · refine WL.val (Value.int .i64 (w64 ((b).tdiv mm))) _ (op_quo (b := mm) rfl rfl h0m) rfl ?_
            refine WL.nil ?_
            show WA _ _ _ _ _ _ _ _
            refine WA.all [6] (by kernel_rfl) rfl ⟨⟨_, rfl, ?_⟩, trivial⟩
            · refine WL.storeBox [(Value.int .i64 (w64 ((a).tdiv mm)))] hS188 (k := 0) rfl e177 rfl (us := [(Value.int .i64 (w64 ((a).tdiv mm)))]) rfl sz_2 rfl rfl (all_cons rfl all_nil) rfl ?_
              intro wd201 hS202
              replace hS202 : St w wd201 [bx b1 [(Value.int .i64 (w64 ((a).tdiv mm)))], bx b6 [(Value.int .i64 b)], bx b11 [(Value.int .i64 (w64 (s0 + (w64 (x137 * p0)))))], bx b15 [(Value.int .i64 (w64 (p0 * mm)))], EE] := hS202
              refine WL.nil ?_
              show WA _ _ _ _ _ _ _ _
              refine WA.all [7] (by kernel_rfl) rfl ⟨⟨_, rfl, ?_⟩, trivial⟩
              · refine WL.storeBox [(Value.int .i64 (w64 ((b).tdiv mm)))] hS202 (k := 1) rfl e178 rfl (us := [(Value.int .i64 (w64 ((b).tdiv mm)))]) rfl sz_2 rfl rfl (all_cons rfl all_nil) rfl ?_
                intro wd203 hS204
                replace hS204 : St w wd203 [bx b1 [(Value.int .i64 (w64 ((a).tdiv mm)))], bx b6 [(Value.int .i64 (w64 ((b).tdiv mm)))], bx b11 [(Value.int .i64 (w64 (s0 + (w64 (x137 * p0)))))], bx b15 [(Value.int .i64 (w64 (p0 * mm)))], EE] := hS204
                refine WL.nil ?_
                show WA _ _ _ _ _ _ _ _
                refine WA.done (by kernel_rfl) ?_
                exact hfin hS204
          · refine WL.storeBox [(Value.int .i64 (w64 ((a).tdiv mm)))] hS188 (k := 0) rfl e177 rfl (us := [(Value.int .i64 (w64 ((a).tdiv mm)))]) rfl sz_2 rfl rfl (all_cons rfl all_nil) rfl ?_
            intro wd205 hS206
            replace hS206 : St w wd205 [bx b1 [(Value.int .i64 (w64 ((a).tdiv mm)))], bx b6 [(Value.int .i64 b)], bx b11 [(Value.int .i64 (w64 (s0 + (w64 (x137 * p0)))))], bx b15 [(Value.int .i64 (w64 (p0 * mm)))], EE] := hS206
            refine WL.nil ?_
            show WA _ _ _ _ _ _ _ _
            refine WA.all [5] (by kernel_rfl) rfl ⟨⟨_, rfl, ?_⟩, trivial⟩
            · refine WL.val (Value.int .i64 (w64 ((b).tdiv mm))) _ (op_quo (b := mm) rfl rfl h0m) rfl ?_
              refine WL.nil ?_
              show WA _ _ _ _ _ _ _ _
              refine WA.all [7] (by kernel_rfl) rfl ⟨⟨_, rfl, ?_⟩, trivial⟩
              · refine WL.storeBox [(Value.int .i64 (w64 ((b).tdiv mm)))] hS206 (k := 1) rfl e178 rfl (us := [(Value.int .i64 (w64 ((b).tdiv mm)))]) rfl sz_2 rfl rfl (all_cons rfl all_nil) rfl ?_
                intro wd207 hS208
                replace hS208 : St w wd207 [bx b1 [(Value.int .i64 (w64 ((a).tdiv mm)))], bx b6 [(Value.int .i64 (w64 ((b).tdiv mm)))], bx b11 [(Value.int .i64 (w64 (s0 + (w64 (x137 * p0)))))], bx b15 [(Value.int .i64 (w64 (p0 * mm)))], EE] := hS208
                refine WL.nil ?_
                show WA _ _ _ _ _ _ _ _
                refine WA.done (by kernel_rfl) ?_
                exact hfin hS208
        · refine WL.val (Value.int .i64 (w64 ((b).tdiv mm))) _ (op_quo (b := mm) rfl rfl h0m) rfl ?_
          refine WL.nil ?_
          show WA _ _ _ _ _ _ _ _
          refine WA.all [2] (by kernel_rfl) rfl ⟨⟨_, rfl, ?_⟩, trivial⟩
          · refine WL.val (Value.int .i64 (w64 ((a).tdiv mm))) _ (op_quo (b := mm) rfl rfl h0m) rfl ?_
            refine WL.nil ?_
            show WA _ _ _ _ _ _ _ _
            refine WA.all [6] (by kernel_rfl) rfl ⟨⟨_, rfl, ?_⟩, trivial⟩
            · refine WL.storeBox [(Value.int .i64 (w64 ((a).tdiv mm)))] hS188 (k := 0) rfl e177 rfl (us := [(Value.int .i64 (w64 ((a).tdiv mm)))]) rfl sz_2 rfl rfl (all_cons rfl all_nil) rfl ?_
              intro wd209 hS210
              replace hS210 : St w wd209 [bx b1 [(Value.int .i64 (w64 ((a).tdiv mm)))], bx b6 [(Value.int .i64 b)], bx b11 [(Value.int .i64 (w64 (s0 + (w64 (x137 * p0)))))], bx b15 [(Value.int .i64 (w64 (p0 * mm)))], EE] := hS210
              refine WL.nil ?_
              show WA _ _ _ _ _ _ _ _
              refine WA.all [7] (by kernel_rfl) rfl ⟨⟨_, rfl, ?_⟩, trivial⟩
              · refine WL.storeBox [(Value.int .i64 (w64 ((b).tdiv mm)))] hS210 (k := 1) rfl e178 rfl (us := [(Value.int .i64 (w64 ((b).tdiv mm)))]) rfl sz_2 rfl rfl (all_cons rfl all_nil) rfl ?_
                intro wd211 hS212
                replace hS212 : St w wd211 [bx b1 [(Value.int .i64 (w64 ((a).tdiv mm)))], bx b6 [(Value.int .i64 (w64 ((b).tdiv mm)))], bx b11 [(Value.int .i64 (w64 (s0 + (w64 (x137 * p0)))))], bx b15 [(Value.int .i64 (w64 (p0 * mm)))], EE] := hS212
                refine WL.nil ?_
                show WA _ _ _ _ _ _ _ _
                refine WA.done (by kernel_rfl) ?_
                exact hfin hS212
    · refine WL.val (Value.int .i64 b) _ (op_load one_2 e178 (BoxAt.cell (St.boxAt hS188 1 rfl) rfl)) rfl ?_
      refine WL.nil ?_
      show WA _ _ _ _ _ _ _ _
      refine WA.all [0, 5] (by kernel_rfl) rfl ⟨⟨_, rfl, ?_⟩, ⟨_, rfl, ?_⟩, trivial⟩
      · refine WL.val (Value.int .i64 a) _ (op_load one_2 e177 (BoxAt.cell (St.boxAt hS188 0 rfl) rfl)) rfl ?_
        refine WL.nil ?_
        show WA _ _ _ _ _ _ _ _
        refine WA.all [2, 5] (by kernel_rfl) rfl ⟨⟨_, rfl, ?_⟩, ⟨_, rfl, ?_⟩, trivial⟩
        · refine WL.val (Value.int .i64 (w64 ((a).tdiv mm))) _ (op_quo (b := mm) rfl rfl h0m) rfl ?_
          refine WL.nil ?_
          show WA _ _ _ _ _ _ _ _
          refine WA.all [5, 6] (by kernel_rfl) rfl ⟨⟨_, rfl, ?_⟩, ⟨_, rfl, ?_⟩, trivial⟩
          · refine WL.val (Value.int .i64 (w64 ((b).tdiv mm))) _ (op_quo (b := mm) rfl rfl h0m) rfl ?_
            refine WL.nil ?_
            show WA _ _ _ _ _ _ _ _
            refine WA.all [6] (by kernel_rfl) rfl ⟨⟨_, rfl, ?_⟩, trivial⟩
            · refine WL.storeBox [(Value.int .i64 (w64 ((a).tdiv mm)))] hS188 (k := 0) rfl e177 rfl (us := [(Value.int .i64 (w64 ((a).tdiv mm)))]) rfl sz_2 rfl rfl (all_cons rfl all_nil) rfl ?_
              intro wd213 hS214
              replace hS214 : St w wd213 [bx b1 [(Value.int .i64 (w64 ((a).tdiv mm)))], bx b6 [(Value.int .i64 b)], bx b11 [(Value.int .i64 (w64 (s0 + (w64 (x137 * p0)))))], bx b15 [(Value.int .i64 (w64 (p0 * mm)))], EE] := hS214
              refine WL.nil ?_
              show WA _ _ _ _ _ _ _ _
              refine WA.all [7] (by kernel_rfl) rfl ⟨⟨_, rfl, ?_⟩, trivial⟩
              · refine WL.storeBox [(Value.int .i64 (w64 ((b).tdiv mm)))] hS214 (k := 1) rfl e178 rfl (us := [(Value.int .i64 (w64 ((b).tdiv mm)))]) rfl sz_2 rfl rfl (all_cons rfl all_nil) rfl ?_
                intro wd215 hS216
                replace hS216 : St w wd215 [bx b1 [(Value.int .i64 (w64 ((a).tdiv mm)))], bx b6 [(Value.int .i64 (w64 ((b).tdiv mm)))], bx b11 [(Value.int .i64 (w64 (s0 + (w64 (x137 * p0)))))], bx b15 [(Value.int .i64 (w64 (p0 * mm)))], EE] := hS216
                refine WL.nil ?_
                show WA _ _ _ _ _ _ _ _
                refine WA.done (by kernel_rfl) ?_
                exact hfin hS216
          · refine WL.storeBox [(Value.int .i64 (w64 ((a).tdiv mm)))] hS188 (k := 0) rfl e177 rfl (us := [(Value.int .i64 (w64 ((a).tdiv mm)))]) rfl sz_2 rfl rfl (all_cons rfl all_nil) rfl ?_
            intro wd217 hS218
            replace hS218 : St w wd217 [bx b1 [(Value.int .i64 (w64 ((a).tdiv mm)))], bx b6 [(Value.int .i64 b)], bx b11 [(Value.int .i64 (w64 (s0 + (w64 (x137 * p0)))))], bx b15 [(Value.int .i64 (w64 (p0 * mm)))], EE] := hS218
            refine WL.nil ?_
            show WA _ _ _ _ _ _ _ _
            refine WA.all [5] (by kernel_rfl) rfl ⟨⟨_, rfl, ?_⟩, trivial⟩
            · refine WL.val (Value.int .i64 (w64 ((b).tdiv mm))) _ (op_quo (b := mm) rfl rfl h0m) rfl ?_
              refine WL.nil ?_
              show WA _ _ _ _ _ _ _ _
              refine WA.all [7] (by kernel_rfl) rfl ⟨⟨_, rfl, ?_⟩, trivial⟩
              · refine WL.storeBox [(Value.int .i64 (w64 ((b).tdiv mm)))] hS218 (k := 1) rfl e178 rfl (us := [(Value.int .i64 (w64 ((b).tdiv mm)))]) rfl sz_2 rfl rfl (all_cons rfl all_nil) rfl ?_
                intro wd219 hS220
                replace hS220 : St w wd219 [bx b1 [(Value.int .i64 (w64 ((a).tdiv mm)))], bx b6 [(Value.int .i64 (w64 ((b).tdiv mm)))], bx b11 [(Value.int .i64 (w64 (s0 + (w64 (x137 * p0)))))], bx b15 [(Value.int .i64 (w64 (p0 * mm)))], EE] := hS220
                refine WL.nil ?_
                show WA _ _ _ _ _ _ _ _
                refine WA.done (by kernel_rfl) ?_
                exact hfin hS220
        · refine WL.val (Value.int .i64 (w64 ((b).tdiv mm))) _ (op_quo (b := mm) rfl rfl h0m) rfl ?_
          refine WL.nil ?_
          show WA _ _ _ _ _ _ _ _
          refine WA.all [2] (by kernel_rfl) rfl ⟨⟨_, rfl, ?_⟩, trivial⟩
          · refine WL.val (Value.int .i64 (w64 ((a).tdiv mm))) _ (op_quo (b := mm) rfl rfl h0m) rfl ?_
            refine WL.nil ?_
            show WA _ _ _ _ _ _ _ _
            refine WA.all [6] (by kernel_rfl) rfl ⟨⟨_, rfl, ?_⟩, trivial⟩
            · refine WL.storeBox [(Value.int .i64 (w64 ((a).tdiv mm)))] hS188 (k := 0) rfl e177 rfl (us := [(Value.int .i64 (w64 ((a).tdiv mm)))]) rfl sz_2 rfl rfl (all_cons rfl all_nil) rfl ?_
              intro wd221 hS222
              replace hS222 : St w wd221 [bx b1 [(Value.int .i64 (w64 ((a).tdiv mm)))], bx b6 [(Value.int .i64 b)], bx b11 [(Value.int .i64 (w64 (s0 + (w64 (x137 * p0)))))], bx b15 [(Value.int .i64 (w64 (p0 * mm)))], EE] := hS222
              refine WL.nil ?_
              show WA _ _ _ _ _ _ _ _
              refine WA.all [7] (by kernel_rfl) rfl ⟨⟨_, rfl, ?_⟩, trivial⟩
              · refine WL.storeBox [(Value.int .i64 (w64 ((b).tdiv mm)))] hS222 (k := 1) rfl e178 rfl (us := [(Value.int .i64 (w64 ((b).tdiv mm)))]) rfl sz_2 rfl rfl (all_cons rfl all_nil) rfl ?_
                intro wd223 hS224
                replace hS224 : St w wd223 [bx b1 [(Value.int .i64 (w64 ((a).tdiv mm)))], bx b6 [(Value.int .i64 (w64 ((b).tdiv mm)))], bx b11 [(Value.int .i64 (w64 (s0 + (w64 (x137 * p0)))))], bx b15 [(Value.int .i64 (w64 (p0 * mm)))], EE] := hS224
                refine WL.nil ?_
                show WA _ _ _ _ _ _ _ _
                refine WA.done (by kernel_rfl) ?_
                exact hfin hS224
      · refine WL.val (Value.int .i64 (w64 ((b).tdiv mm))) _ (op_quo (b := mm) rfl rfl h0m) rfl ?_
        refine WL.nil ?_
        show WA _ _ _ _ _ _ _ _
        refine WA.all [0] (by kernel_rfl) rfl ⟨⟨_, rfl, ?_⟩, trivial⟩
        · refine WL.val (Value.int .i64 a) _ (op_load one_2 e177 (BoxAt.cell (St.boxAt hS188 0 rfl) rfl)) rfl ?_
          refine WL.nil ?_
          show WA _ _ _ _ _ _ _ _
          refine WA.all [2] (by kernel_rfl) rfl ⟨⟨_, rfl, ?_⟩, trivial⟩
          · refine WL.val (Value.int .i64 (w64 ((a).tdiv mm))) _ (op_quo (b := mm) rfl rfl h0m) rfl ?_
            refine WL.nil ?_
            show WA _ _ _ _ _ _ _ _
            refine WA.all [6] (by kernel_rfl) rfl ⟨⟨_, rfl, ?_⟩, trivial⟩
            · refine WL.storeBox [(Value.int .i64 (w64 ((a).tdiv mm)))] hS188 (k := 0) rfl e177 rfl (us := [(Value.int .i64 (w64 ((a).tdiv mm)))]) rfl sz_2 rfl rfl (all_cons rfl all_nil) rfl ?_
              intro wd225 hS226
              replace hS226 : St w wd225 [bx b1 [(Value.int .i64 (w64 ((a).tdiv mm)))], bx b6 [(Value.int .i64 b)], bx b11 [(Value.int .i64 (w64 (s0 + (w64 (x137 * p0)))))], bx b15 [(Value.int .i64 (w64 (p0 * mm)))], EE] := hS226
              refine WL.nil ?_
              show WA _ _ _ _ _ _ _ _
              refine WA.all [7] (by kernel_rfl) rfl ⟨⟨_, rfl, ?_⟩, trivial⟩
              · refine WL.storeBox [(Value.int .i64 (w64 ((b).tdiv mm)))] hS226 (k := 1) rfl e178 rfl (us := [(Value.int .i64 (w64 ((b).tdiv mm)))]) rfl sz_2 rfl rfl (all_cons rfl all_nil) rfl ?_
                intro wd227 hS228
                replace hS228 : St w wd227 [bx b1 [(Value.int .i64 (w64 ((a).tdiv mm)))], bx b6 [(Value.int .i64 (w64 ((b).tdiv mm)))], bx b11 [(Value.int .i64 (w64 (s0 + (w64 (x137 * p0)))))], bx b15 [(Value.int .i64 (w64 (p0 * mm)))], EE] := hS228
                refine WL.nil ?_
                show WA _ _ _ _ _ _ _ _
                refine WA.done (by kernel_rfl) ?_
                exact hfin hS228

theorem bk_maker {w : World} {v : Value} (hv : v.cells = [v].toArray) : Ret Try.prog 139 #[v] w (fun u w' => ∃ Bs, u = .func (.func 143) #[] #[.pointer (some ⟨Bs, 0, none⟩)] ∧ St w w' [bx Bs [v]]) := by
  have hS0 : St w w [] := St.start w
  refine Ret.start (fn := Try.f139) Try.func139 rfl 4 rfl rfl ?_
  refine W.seq (W.region ?_)
  refine WL.box hS0 rfl (cs := [v]) hv rfl ?_
  intro b1 wd2 hS3 he4 hx5
  refine WL.val Value.nilFunc _ (op_assign rfl) rfl ?_
  refine WL.nil ?_
  refine W.seq (W.region ?_)
  refine WL.val (.func (.func 143) #[] #[.pointer (some ⟨b1, 0, none⟩)]) _ (op_makeFunc (va := #[]) (vb := #[.pointer (some ⟨b1, 0, none⟩)]) args0 (args1 rfl)) rfl ?_
  refine WL.val (.func (.func 143) #[] #[.pointer (some ⟨b1, 0, none⟩)]) _ (op_assign rfl) rfl ?_
  refine WL.nil ?_
  refine W.ret ?_
  show FinP _ _ _ _ _ _ _
  exact FinP.ret _ (res1 rfl rfl) ⟨b1, rfl, hS3⟩

theorem bk_closure {α : Type} {enc : α → Array Value} {g : Nat → α} {w0 Wd : World} {v : Value} {zs : List Int} (hrep : (Ty.sl (Ty.i .i64)).rep w0 v zs)
    (hg : ∀ j, j < zs.length → enc (g j) = #[.int .i64 ((zs.length : Int) - 1 - j), .int .i64 (zs.getD (zs.length - 1 - j) 0)]) {m l Bs : Nat} {J Jx : List α → World → Prop}
    (hY : ∀ pre x W, J pre W → pre.length < zs.length → YieldAt Fence.wide (m - 1) Try.prog l (enc x) W fun e W' => (e = .returned (.bool true) ∧ J (pre ++ [x]) W' ∧ KpB w0 Bs W W') ∨ (e = .returned (.bool false) ∧ Jx (pre ++ [x]) W'))
    (hW : Ext w0 Wd) (hBs : Wd.cell? ⟨Bs, 0, none⟩ = some v) (h0 : J [] Wd) :
    CallsIn Fence.wide m Try.prog 143 #[.func (.yield l) #[] #[], .pointer (some ⟨Bs, 0, none⟩)] Wd fun e W' => (∃ v, e = .returned v) ∧ ((∃ xs, xs = (List.range zs.length).map g ∧ J xs W') ∨ (∃ pre, True ∧ Jx pre W')) := by
  refine WI.calls Try.func143 rfl rfl rfl rfl ?_
  · skip
    have hm : zs.length ≤ 9223372036854775807 := by have := repSl.max hrep; simpa [maxLen] using this
    have ew : ∀ x : Int, -9223372036854775808 ≤ x → x ≤ 9223372036854775807 → IntKind.i64.wrap x = x := fun x h1 h2 => w64_id (inR_i64.2 ⟨h1, h2⟩)
    refine WI.seq (WI.ofW (W.region ?_))
    refine WL.val v _ (op_load one_22 rfl hBs) rfl ?_
    refine WL.val (Value.int .i64 (zs.length : Int)) _ (op_lenL sl_22 (Ty.lift _ hW hrep) rfl) rfl ?_
    refine WL.val (Value.int .i64 ((zs.length : Int) - 1)) _ (by rw [← ew ((zs.length : Int) - 1) (by omega) (by omega)]; exact op_sub rfl rfl) rfl ?_
    refine WL.val (Value.int .i64 ((zs.length : Int) - 1)) _ (op_assign rfl) rfl ?_
    refine WL.nil ?_
    show WI _ _ _ _ _ _ _
    refine WI.block (WI.loop (fun f wr => ∃ j : Nat, j ≤ zs.length ∧ f 0 = .func (.yield l) #[] #[] ∧ f 1 = .pointer (some ⟨Bs, 0, none⟩) ∧ f 3 = .int .i64 ((zs.length : Int) - 1 - j) ∧ J ((List.range j).map g) wr ∧ Ext w0 wr ∧ wr.cell? ⟨Bs, 0, none⟩ = some v) 3 (fun v => match v with | .int _ x => (x + 1).toNat | _ => 0)
      ⟨0, Nat.zero_le _, rfl, rfl, by show Value.int .i64 ((zs.length : Int) - 1) = _; congr 1; omega, h0, hW, hBs⟩ ?_)
    rintro f wr ⟨j, hj, hf0, hf1, hf3, hJ, hE, hB⟩
    refine WI.seq (WI.seq (WI.ofW (W.region ?_)))
    refine WL.val (Value.int .i64 ((zs.length : Int) - 1 - j)) _ (op_move hf3) rfl ?_
    refine WL.val (Value.bool (decide (((zs.length : Int) - 1 - j) ≥ 0))) _ (op_geq rfl rfl) rfl ?_
    refine WL.nil ?_
    show WI _ _ _ _ _ _ _
    refine WI.cond (decide (((zs.length : Int) - 1 - j) ≥ 0)) rfl (fun hc => ?_) (fun hc => ?_)
    · have hlt : j < zs.length := by simp at hc; omega
      refine WI.skip ?_
      show WI _ _ _ _ _ _ _
      refine WI.seq (WI.block (WI.seq (WI.region ?_)))
      refine WLI.val (.func (.yield l) #[] #[]) _ (op_move hf0) rfl (by intro c h; cases h) ?_
      refine WLI.val (Value.int .i64 ((zs.length : Int) - 1 - j)) _ (op_move hf3) rfl (by intro c h; cases h) ?_
      refine WLI.val v _ (op_load one_22 hf1 hB) rfl (by intro c h; cases h) ?_
      refine WLI.val (Value.int .i64 ((zs.length : Int) - 1 - j)) _ (op_move hf3) rfl (by intro c h; cases h) ?_
      refine WLI.val (Value.pointer (some (elA v ((zs.length : Int) - 1 - j).toNat))) _ (op_idx sl_22 (Ty.lift _ hE hrep) rfl rfl (by omega) (by omega)) rfl (by intro c h; cases h) ?_
      have en : ((zs.length : Int) - 1 - j).toNat = zs.length - 1 - j := by omega
      obtain ⟨u, hc2, hu, _⟩ := repSl.el hrep (i := zs.length - 1 - j) (x := zs.getD (zs.length - 1 - j) 0) (by rw [List.getD_eq_getElem?_getD, List.getElem?_eq_getElem (by omega)]; rfl)
      subst hu
      refine WLI.val (Value.int .i64 (zs.getD (zs.length - 1 - j) 0)) _ (op_load one_2 rfl (by rw [en]; exact Ext.cell hE hc2)) rfl (by intro c h; cases h) ?_
      refine WLI.yield rfl rfl (vs := enc (g j)) (by rw [hg j hlt]; exact args2 rfl rfl) (hY _ (g j) wr hJ (by simp; exact hlt)) rfl ?_
      rintro e W3 (⟨rfl, hJ3, hk⟩ | ⟨rfl, hJx⟩)
      · refine ⟨_, rfl, ?_⟩
        refine WLI.val (.bool false) _ (op_not (b := true) rfl) rfl (by intro c h; cases h) (WLI.nil ?_)
        show WI _ _ _ _ _ _ _
        refine WI.cond false rfl (fun h => by cases h) (fun _ => WI.skip ?_)
        show WI _ _ _ _ _ _ _
        refine WI.ofW (W.region ?_)
        refine WL.val (Value.int .i64 ((zs.length : Int) - 1 - j)) _ (op_move hf3) rfl ?_
        refine WL.val (Value.int .i64 ((zs.length : Int) - 1 - (j + 1 : Nat))) _ (by rw [show ((zs.length : Int) - 1 - (j + 1 : Nat)) = IntKind.i64.wrap ((zs.length : Int) - 1 - j - 1) from by rw [ew _ (by omega) (by omega)]; omega]; exact op_sub rfl rfl) rfl ?_
        refine WL.val (Value.int .i64 ((zs.length : Int) - 1 - (j + 1 : Nat))) _ (op_assign rfl) rfl ?_
        refine WL.nil ?_
        refine ⟨⟨j + 1, hlt, hf0, hf1, rfl, by rw [List.range_succ, List.map_append]; exact hJ3, Go.RowKit.Below.trans hE hk.1, cell_same hk.2 hB⟩, ?_⟩
        show ((zs.length : Int) - 1 - (j + 1 : Nat) + 1).toNat < (match f 3 with | .int _ x => (x + 1).toNat | _ => 0)
        rw [hf3]
        show ((zs.length : Int) - 1 - (j + 1 : Nat) + 1).toNat < ((zs.length : Int) - 1 - j + 1).toNat
        omega
      · refine ⟨_, rfl, ?_⟩
        refine WLI.val (.bool true) _ (op_not (b := false) rfl) rfl (by intro c h; cases h) (WLI.nil ?_)
        show WI _ _ _ _ _ _ _
        refine WI.cond true rfl (fun _ => WI.ret ?_) (fun h => by cases h)
        exact ⟨.inr rfl, .inr ⟨_, trivial, hJx⟩⟩
    · have hje : j = zs.length := by simp at hc; omega
      subst hje
      refine WI.exit ?_
      show (Exit.normal = Exit.normal ∨ Exit.normal = Exit.ret) ∧ _
      exact ⟨.inl rfl, .inl ⟨_, rfl, hJ⟩⟩

/-! ### The loop's caller -/

abbrev BkI := { x : Int × Int // InR .i64 x.1 ∧ InR .i64 x.2 ∧ x.2 ≠ 0 }
def bkEnc (x : BkI) : Array Value := #[.int .i64 x.1.1, .int .i64 x.1.2]
def bkF (a b : Int) (pre : List BkI) : Int × Int × Int × Int := pre.foldl (fun s x => p_impl_addElements_S x.1.2 s) (a, b, 0, 1)
theorem bkF_snoc (a b : Int) (pre : List BkI) (x : BkI) : bkF a b (pre ++ [x]) = p_impl_addElements_S x.1.2 (bkF a b pre) := by simp [bkF]
theorem bkF_rng {a b : Int} (ha : InR .i64 a) (hb : InR .i64 b) (pre : List BkI) : InR .i64 (bkF a b pre).1 ∧ InR .i64 (bkF a b pre).2.1 ∧ InR .i64 (bkF a b pre).2.2.1 ∧ InR .i64 (bkF a b pre).2.2.2 := by
  rcases List.eq_nil_or_concat pre with rfl | ⟨pre, x, rfl⟩
  · exact ⟨ha, hb, inR_i64.2 (by simp [bkF]), inR_i64.2 (by simp [bkF])⟩
  · rw [List.concat_eq_append, bkF_snoc]; exact ⟨inR_wrap _ _, inR_wrap _ _, inR_wrap _ _, inR_wrap _ _⟩
theorem bk_list (orders : List Int) (hr : ∀ x ∈ orders, InR .i64 x) (hz : ∀ x ∈ orders, x ≠ 0) (hm : orders.length ≤ 9223372036854775807) : ∃ g : Nat → BkI, ∀ j, j < orders.length → (g j).1 = ((orders.length : Int) - 1 - j, orders.getD (orders.length - 1 - j) 0) := by
  refine ⟨fun j => if h : j < orders.length then ⟨((orders.length : Int) - 1 - j, orders.getD (orders.length - 1 - j) 0), inR_i64.2 ⟨by omega, by omega⟩, ?_, ?_⟩ else ⟨(0, 1), inR_i64.2 (by simp), inR_i64.2 (by simp), by simp⟩, fun j hj => by simp [hj]⟩
  · refine hr _ ?_
    rw [List.getD_eq_getElem?_getD, List.getElem?_eq_getElem (by omega)]; exact List.getElem_mem _
  · refine hz _ ?_
    rw [List.getD_eq_getElem?_getD, List.getElem?_eq_getElem (by omega)]; exact List.getElem_mem _
theorem bk_fold (orders : List Int) (a b : Int) (g : Nat → BkI) (hg : ∀ j, j < orders.length → (g j).1 = ((orders.length : Int) - 1 - j, orders.getD (orders.length - 1 - j) 0)) :
    bkF a b ((List.range orders.length).map g) = orders.reverse.foldl (fun s m => p_impl_addElements_S m s) (a, b, 0, 1) := by
  have e : ((List.range orders.length).map g).map (fun x => x.1.2) = orders.reverse := by
    apply List.ext_getElem
    · simp
    · intro i h1 h2
      simp at h1
      simp [hg i h1, List.getElem_reverse, List.getD_eq_getElem?_getD, List.getElem?_eq_getElem (show orders.length - 1 - i < orders.length by omega)]
  rw [← e, List.foldl_map]
  rfl
theorem c_impl_addElements {w : World} {orders : (List Int)} {v_orders : Value} {a : Int} {b : Int} (r_orders : (Ty.sl (Ty.i .i64)).rep w v_orders orders) (r_a : InR .i64 a) (r_b : InR .i64 b) {res : Int} (h : p_impl_addElements orders a b = some res) :
    Ret Try.prog 126 #[v_orders, (Value.int .i64 a), (Value.int .i64 b)] w (fun v w' => v = Value.int .i64 res ∧ InR .i64 res ∧ Ext w w') := by
  unfold p_impl_addElements at h
  split at h
  case isFalse => cases h
  rename_i hz
  have hz' : ∀ x ∈ orders, x ≠ 0 := by simpa using hz
  obtain rfl := Option.some.inj h
  have hm : orders.length ≤ 9223372036854775807 := by have := repSl.max r_orders; simpa [maxLen] using this
  have hrng : ∀ x ∈ orders, InR .i64 x := by
    intro x hx
    obtain ⟨i, hi, rfl⟩ := List.mem_iff_getElem.1 hx
    obtain ⟨u, _, _, hr⟩ := repSl.el r_orders (List.getElem?_eq_getElem hi)
    exact hr
  obtain ⟨g, hg⟩ := bk_list orders hrng hz' hm
  have hvc : v_orders.cells = [v_orders].toArray := by obtain ⟨p, c, hv, _⟩ := r_orders; rw [hv]; rfl
  refine (callsIn_wide (n := 3)).1 (callsIn_of_wp_marks Try.func126 rfl trivial ?_ rfl)
  have hS0 : St w w [] := St.start w
  refine WI.step (n := 38) (f := fr0 #[v_orders, (Value.int .i64 a), (Value.int .i64 b)]) (K := fun f1 w1 => ∃ b1 b6, f1 0 = v_orders ∧ f1 4 = .pointer (some ⟨b1, 0, none⟩) ∧ f1 5 = .pointer (some ⟨b6, 0, none⟩) ∧ St w w1 [bx b1 [Value.int .i64 a], bx b6 [Value.int .i64 b]]) (W.region ?_) (agree_start rfl (Nat.le_of_ble_eq_true rfl)) ?_
  · refine WL.box hS0 rfl (cs := [(Value.int .i64 a)]) rfl rfl ?_
    intro b1 wd2 hS3 he4 hx5
    refine WL.box hS3 rfl (cs := [(Value.int .i64 b)]) rfl rfl ?_
    intro b6 wd7 hS8 he9 hx10
    refine WL.val (Value.int .i64 (0 : Int)) _ (op_assign rfl) rfl ?_
    refine WL.nil ?_
    exact ⟨b1, b6, rfl, rfl, rfl, hS8⟩
  rintro f1 w1 a1 ha1 ⟨b1, b6, h0, h4, h5, hS8⟩
  refine WI.step (K := fun f1 w1 => ∃ b11 b15, f1 0 = v_orders ∧ f1 4 = .pointer (some ⟨b1, 0, none⟩) ∧ f1 5 = .pointer (some ⟨b6, 0, none⟩) ∧ f1 7 = .pointer (some ⟨b11, 0, none⟩) ∧ f1 8 = .pointer (some ⟨b15, 0, none⟩) ∧ St w w1 [bx b1 [Value.int .i64 a], bx b6 [Value.int .i64 b], bx b11 [Value.int .i64 0], bx b15 [Value.int .i64 1]]) (W.region ?_) ha1 ?_
  · refine WL.alloc hS8 ze_2 (cs := [(Value.int .i64 (0 : Int))]) rfl rfl ?_
    intro b11 wd12 hS13 he14
    refine WL.alloc hS13 ze_2 (cs := [(Value.int .i64 (0 : Int))]) rfl rfl ?_
    intro b15 wd16 hS17 he18
    replace hS17 : St w wd16 [bx b1 [(Value.int .i64 a)], bx b6 [(Value.int .i64 b)], bx b11 [(Value.int .i64 (0 : Int))], bx b15 [(Value.int .i64 (0 : Int))]] := hS17
    refine WL.storeBox [(Value.int .i64 (0 : Int))] hS17 (k := 2) rfl rfl rfl (us := [(Value.int .i64 (0 : Int))]) rfl sz_2 rfl rfl (all_cons rfl all_nil) rfl ?_
    intro wd19 hS20
    replace hS20 : St w wd19 [bx b1 [(Value.int .i64 a)], bx b6 [(Value.int .i64 b)], bx b11 [(Value.int .i64 (0 : Int))], bx b15 [(Value.int .i64 (0 : Int))]] := hS20
    refine WL.storeBox [(Value.int .i64 (1 : Int))] hS20 (k := 3) rfl rfl rfl (us := [(Value.int .i64 (1 : Int))]) rfl sz_2 rfl rfl (all_cons rfl all_nil) rfl ?_
    intro wd21 hS22
    refine WL.nil ?_
    exact ⟨b11, b15, h0, h4, h5, rfl, rfl, hS22⟩
  rintro f2 w2 a2 ha2 ⟨b11, b15, h0, h4, h5, h7, h8, hS22⟩
  refine wpIn_seq ?_
  refine WI.step (K := fun f1 w1 => ∃ Bs, f1 4 = .pointer (some ⟨b1, 0, none⟩) ∧ f1 5 = .pointer (some ⟨b6, 0, none⟩) ∧ f1 7 = .pointer (some ⟨b11, 0, none⟩) ∧ f1 8 = .pointer (some ⟨b15, 0, none⟩) ∧ f1 12 = .func (.func 143) #[] #[.pointer (some ⟨Bs, 0, none⟩)] ∧ St w w1 [bx b1 [Value.int .i64 a], bx b6 [Value.int .i64 b], bx b11 [Value.int .i64 0], bx b15 [Value.int .i64 1], bx Bs [v_orders]]) (W.region ?_) ha2 ?_
  · refine WL.val v_orders _ (op_move h0) rfl ?_
    refine WL.call _ (op_call fn_139 (args1 rfl)) (bk_maker hvc) rfl ?_
    rintro u w4 ⟨Bs, rfl, hS4⟩
    refine WL.nil ?_
    exact ⟨Bs, h4, h5, h7, h8, rfl, hS22.join hS4.ext hS4.sep⟩
  rintro f3 w3 a3 ha3 ⟨Bs, h4, h5, h7, h8, h12, hS3⟩
  refine wpIn_block ?_
  obtain ⟨g1, g2, g3, g4, d12, d13, d14, d23, d24, d34, hI0, gs, hsl, hsn, hcell⟩ := bk_start (s := (a, b, 0, 1)) hS3
  have hA0 : ∀ x : BkI, Agree 38 ({ tmps := ((#[13, 14] : Array Tmp).zip (bkEnc x)).foldl (fun t (p, v) => t.setIfInBounds p v) a3.tmps, defers := [] } : Act) (upd (upd f3 13 (.int .i64 x.1.1)) 14 (.int .i64 x.1.2)) := fun x => by
    have ha : Agree 38 ({ tmps := a3.tmps, defers := [] } : Act) f3 := ⟨rfl, ha3.size, ha3.get⟩
    have e : ((#[13, 14] : Array Tmp).zip (bkEnc x)).foldl (fun t (p, v) => t.setIfInBounds p v) a3.tmps = (a3.tmps.setIfInBounds 13 (.int .i64 x.1.1)).setIfInBounds 14 (.int .i64 x.1.2) := by first | rfl | simp [bkEnc]
    rw [e]
    exact (ha.put 13 (.int .i64 x.1.1) rfl).put 14 (.int .i64 x.1.2) rfl
  refine wpIn_rangeFunc_ownF (F := Fence.wide) (n := 3) rfl (by decide) (gf := 143) (lb := #[.pointer (some ⟨Bs, 0, none⟩)]) (by rw [ha3.eval]; exact h12) trivial (enters_of Try.func143 (by kernel_rfl) rfl)
    (encs := bkEnc) (Kp := KpB w Bs) (S := fun xs => xs = (List.range orders.length).map g) (Sp := fun _ => True) (N := orders.length) (w0 := w3) ?seq (fun h k => ⟨h.1.trans k.1, k.2.trans h.2⟩) ?kb (Go.RowKit.Below.refl _ _) (fun _ => rfl)
    (fun pre Wd => BkI0 w Wd b1 b6 b11 b15 Bs v_orders (bkF a b pre)) (fun _ _ _ => False) (BkI0.own hS3.ext.size) (fun c s A B row h _ _ => h) hI0
    (fun x => ({ tmps := ((#[13, 14] : Array Tmp).zip (bkEnc x)).foldl (fun t (p, v) => t.setIfInBounds p v) a3.tmps, defers := [] } : Act).put (some 10) (({ tmps := ((#[13, 14] : Array Tmp).zip (bkEnc x)).foldl (fun t (p, v) => t.setIfInBounds p v) a3.tmps, defers := [] } : Act).eval (.tmp 14))) ?assign ?body ?done ?stop
  case seq =>
    intro l J Jx Wd hW _ _ hY h0
    exact bk_closure r_orders (fun j hj => by simp only [bkEnc, hg j hj]) hY (Ext.trans hS3.ext hW) (cell_same (hW.block _ hsl) hcell) h0
  case kb =>
    intro Wd l o o' hl ho hc hw
    refine ⟨belowK_b (w := w3) hS3.ext.size Wd l o o' hl ho hc hw, World.putObj_heap_other (by omega)⟩
  case assign =>
    intro l x Wd K hK
    refine wpIn_region_lit (wpListIn_plain rfl fun K' hK' => ⟨fun _ _ => trivial, ?_⟩)
    rw [Oper.semAt_eq _ _ _ (by intro c h; cases h)]
    simp only [execOp]
    exact hK' _ _ hK
  case body =>
    intro l pre x Wd hI hlen
    obtain ⟨q1, q2, q3, q4⟩ := bkF_rng r_a r_b pre
    have hA1 := (hA0 x).put 10 (({ tmps := ((#[13, 14] : Array Tmp).zip (bkEnc x)).foldl (fun t (p, v) => t.setIfInBounds p v) a3.tmps, defers := [] } : Act).eval (.tmp 14)) rfl
    have hv14 : (({ tmps := ((#[13, 14] : Array Tmp).zip (bkEnc x)).foldl (fun t (p, v) => t.setIfInBounds p v) a3.tmps, defers := [] } : Act).eval (.tmp 14)) = .int .i64 x.1.2 := by rw [(hA0 x).eval]; rfl
    refine wpIn_mono (WR.at (bk_body (m := 3 - 1 - 1) (lr := l) q1 q2 q3 q4 x.2.2.1 x.2.2.2 (f := upd (upd (upd f3 13 (.int .i64 x.1.1)) 14 (.int .i64 x.1.2)) 10 (({ tmps := ((#[13, 14] : Array Tmp).zip (bkEnc x)).foldl (fun t (p, v) => t.setIfInBounds p v) a3.tmps, defers := [] } : Act).eval (.tmp 14))) h4 h5 h7 h8 hv14 (hI.st g1 g2 g3 g4 d12 d13 d14 d23 d24 d34)) _ hA1) ?_
    rintro e a' W' ⟨f', hag, hh⟩
    cases e <;> try exact hh.elim
    have := bk_end (s' := p_impl_addElements_S x.1.2 (bkF a b pre)) hI g1 ⟨gs, hsn⟩ hh
    exact ⟨this.1, this.2.1, by show BkI0 w W' b1 b6 b11 b15 Bs v_orders (bkF a b (pre ++ [x])); rw [bkF_snoc]; exact this.2.2⟩
  case done =>
    intro D xs Wd hD hxs hI hK
    subst hxs
    show (Code.seq _ Code.ret).wpIn _ _ _ _ _ _
    refine wpIn_seq (wpIn_region_lit (wpListIn_plain rfl fun K hK1 => ⟨fun _ _ => trivial, ?_⟩))
    have hl : OpV Try.prog (.load 2 (.tmp 7)) 2 f3 Wd (.int .i64 (bkF a b ((List.range orders.length).map g)).2.2.1) Wd := op_load one_2 h7 hI.cell3
    rw [Oper.semAt_eq _ _ _ (by intro c h; cases h)]
    rw [show (Act.eval { tmps := a3.tmps, defers := { target := .collected D, args := #[] } :: a3.defers } : Operand → Value) = ev f3 from ha3.eval]
    rw [hl _ _ _ _]
    refine hK1 _ _ ?_
    refine wpListIn_plain rfl fun K hK2 => ⟨fun _ _ => trivial, ?_⟩
    rw [Oper.semAt_eq _ _ _ (by intro c h; cases h)]
    simp only [execOp]
    refine hK2 _ _ ?_
    show Code.ret.wpIn _ _ _ _ _ _
    refine wpIn_ret ?_
    refine ⟨by simp, .inl ⟨_, _, rfl, run_takeDeferred hK, ?_⟩⟩
    rw [ha3.defers]
    refine ⟨_, results_tmp rfl _ _ _, _, rfl, ?_, ?_, ?_⟩
    · have e1 := ((ha3.put 37 (.int .i64 (bkF a b ((List.range orders.length).map g)).2.2.1) rfl).put 6 (.int .i64 (bkF a b ((List.range orders.length).map g)).2.2.1) rfl).get 6
      have e2 : (a3.put (some 37) (.int .i64 (bkF a b ((List.range orders.length).map g)).2.2.1)).eval (.tmp 37) = (.int .i64 (bkF a b ((List.range orders.length).map g)).2.2.1) := by
        rw [(ha3.put 37 (.int .i64 (bkF a b ((List.range orders.length).map g)).2.2.1) rfl).eval]; rfl
      rw [← bk_fold orders a b g hg]
      refine Eq.trans ?_ e1
      show ((a3.put (some 37) _).put (some 6) ((a3.put (some 37) (.int .i64 (bkF a b ((List.range orders.length).map g)).2.2.1)).eval (.tmp 37))).tmps.getD 6 undef = _
      rw [e2]
    · rw [← bk_fold orders a b g hg]; exact (bkF_rng r_a r_b _).2.2.1
    · exact Go.RowKit.Below.trans hI.ext (belowK_b (w := w3) hS3.ext.size Wd D _ _ hD hK rfl rfl)
  case stop =>
    intro D c pre Wd _ _ h _
    exact h.elim

theorem c_impl_Cocycle_plus {w : World} {c_Orders : (List Int)} {v_c_Orders : Value} {c_Modulus : Int} {c_Values : (List (List (List Int)))} {v_c_Values : Value} {x : Int} {y : Int} (r_c_Orders : (Ty.sl (Ty.i .i64)).rep w v_c_Orders c_Orders) (r_c_Modulus : InR .i64 c_Modulus) (r_c_Values : (Ty.sl (Ty.sl (Ty.sl (Ty.i .i64)))).rep w v_c_Values c_Values) (r_x : InR .i64 x) (r_y : InR .i64 y) {res : Int} (h : p_impl_Cocycle_plus c_Orders c_Modulus c_Values x y  = some res) :
    Ret Try.prog 84 #[(Value.agg #[v_c_Orders, (Value.int .i64 c_Modulus), v_c_Values]), (Value.int .i64 x), (Value.int .i64 y)] w (fun v w' => v = Value.int .i64 res ∧ InR .i64 res ∧ Ext w w') := by
  unfold p_impl_Cocycle_plus at h
  have hS0 : St w w [] := St.start w
  refine Ret.start (fn := Try.f84) Try.func84 rfl 12 rfl rfl ?_
  refine W.seq (W.region ?_)
  refine WL.box hS0 rfl (cs := [v_c_Orders, (Value.int .i64 c_Modulus), v_c_Values]) rfl rfl ?_
  intro b1 wd2 hS3 he4 hx5
  replace hS3 : St w wd2 [bx b1 [v_c_Orders, (Value.int .i64 c_Modulus), v_c_Values]] := hS3
  have hx6 := St.boxAt hS3 0 rfl
  have hE7 : Ext w wd2 := hS3.ext
  have hS8 : St wd2 wd2 [] := St.start wd2
  refine WL.val (Value.int .i64 (0 : Int)) _ (op_assign rfl) rfl ?_
  refine WL.nil ?_
  refine W.seq (W.region ?_)
  refine WL.val (Value.pointer (some ⟨b1, 0, none⟩)) _ (op_fieldAddr fd_34_0 rfl) rfl ?_
  refine WL.val v_c_Orders _ (op_load one_22 rfl (BoxAt.cell (BoxAt.lift hS8.ext hx6) rfl)) rfl ?_
  refine WL.val (Value.int .i64 x) _ (op_move rfl) rfl ?_
  refine WL.val (Value.int .i64 y) _ (op_move rfl) rfl ?_
  obtain ⟨x9, hx10, h⟩ := bs h
  refine WL.call _ (op_call fn_126 (args3 rfl rfl rfl)) (c_impl_addElements (Ty.lift _ (Ext.trans hE7 hS8.ext) r_c_Orders) r_x r_y hx10) rfl ?_
  rintro _ wd12 ⟨rfl, hr11, he13⟩
  have hS15 := St.extend hS8 he13
  replace hS15 : St wd2 wd12 [] := hS15
  refine WL.val (Value.int .i64 x9) _ (op_assign rfl) rfl ?_
  refine WL.nil ?_
  refine W.ret ?_
  obtain rfl := Option.some.inj h
  show FinP _ _ _ _ _ _ _
  exact FinP.ret _ (res1 rfl rfl) ⟨rfl, hr11, (Ext.trans hE7 hS15.ext)⟩

theorem c_impl_Cocycle_rest {w : World} {c_Orders : (List Int)} {v_c_Orders : Value} {c_Modulus : Int} {c_Values : (List (List (List Int)))} {v_c_Values : Value} {n : Int} (r_c_Orders : (Ty.sl (Ty.i .i64)).rep w v_c_Orders c_Orders) (r_c_Modulus : InR .i64 c_Modulus) (r_c_Values : (Ty.sl (Ty.sl (Ty.sl (Ty.i .i64)))).rep w v_c_Values c_Values) (r_n : InR .i64 n) {res : Int} (h : p_impl_Cocycle_rest c_Orders c_Modulus c_Values n  = some res) :
    Ret Try.prog 85 #[(Value.agg #[v_c_Orders, (Value.int .i64 c_Modulus), v_c_Values]), (Value.int .i64 n)] w (fun v w' => v = Value.int .i64 res ∧ InR .i64 res ∧ Ext w w') := by
  unfold p_impl_Cocycle_rest at h
  have hS0 : St w w [] := St.start w
  refine Ret.start (fn := Try.f85) Try.func85 rfl 15 rfl rfl ?_
  refine W.seq (W.region ?_)
  refine WL.box hS0 rfl (cs := [v_c_Orders, (Value.int .i64 c_Modulus), v_c_Values]) rfl rfl ?_
  intro b1 wd2 hS3 he4 hx5
  replace hS3 : St w wd2 [bx b1 [v_c_Orders, (Value.int .i64 c_Modulus), v_c_Values]] := hS3
  have hx6 := St.boxAt hS3 0 rfl
  have hE7 : Ext w wd2 := hS3.ext
  have hS8 : St wd2 wd2 [] := St.start wd2
  refine WL.val (Value.int .i64 (0 : Int)) _ (op_assign rfl) rfl ?_
  refine WL.nil ?_
  refine W.seq ?_
  obtain ⟨x49, hz50, h⟩ := bs h
  obtain ⟨h051, hz50⟩ := remI_some hz50
  refine W.drawR mixo 9 [] [fun _ v _ _ => v = (Value.int .i64 n) ∧ InR .i64 n, fun _ v _ _ => v = (Value.pointer (some ⟨b1, 1, none⟩)), fun _ v _ _ => v = (Value.int .i64 c_Modulus) ∧ InR .i64 c_Modulus, fun _ v _ _ => v = (Value.int .i64 x49) ∧ InR .i64 x49, fun _ v _ _ => v = (Value.pointer (some ⟨b1, 1, none⟩)), fun _ v _ _ => v = (Value.int .i64 c_Modulus) ∧ InR .i64 c_Modulus, fun _ v _ _ => v = (Value.int .i64 (w64 (x49 + c_Modulus))) ∧ InR .i64 (w64 (x49 + c_Modulus)), fun _ v _ _ => v = (Value.pointer (some ⟨b1, 1, none⟩)), fun _ v _ _ => v = (Value.int .i64 c_Modulus) ∧ InR .i64 c_Modulus] (by kernel_rfl) (by kernel_rfl) ⟨pk, pk, pk, pk, pk, pk, pk, pk, pk, trivial⟩ ⟨?_, ?_, ?_, ?_, ?_, ?_, ?_, ?_, ?_, trivial⟩ ?_
  · refine ObX.op rfl fun f9 wd10 he11 hout12 hphi13 => ?_
    have e15 : f9 1 = (Value.int .i64 n) := (hout12 1 rfl).trans rfl
    exact OpX.val (Value.int .i64 n) wd10 rfl (op_move e15) (Ext.refl _) ⟨rfl, r_n⟩
  · refine ObX.op rfl fun f16 wd17 he18 hout19 hphi20 => ?_
    have e22 : f16 2 = (Value.pointer (some ⟨b1, 0, none⟩)) := (hout19 2 rfl).trans rfl
    exact OpX.val (Value.pointer (some ⟨b1, 1, none⟩)) wd17 rfl (op_fieldAddr fd_34_1 e22) (Ext.refl _) rfl
  · refine ObX.op rfl fun f23 wd24 he25 hout26 hphi27 => ?_
    have hS28 := St.extend hS8 he25
    obtain ⟨S29, hS30, hf31⟩ := hphi27 1 6 _ rfl rfl rfl
    have e32 : f23 6 = (Value.pointer (some ⟨b1, 1, none⟩)) := hf31
    exact OpX.val (Value.int .i64 c_Modulus) wd24 rfl (op_load one_2 e32 (BoxAt.cell (BoxAt.lift hS28.ext hx6) rfl)) (Ext.refl _) ⟨rfl, r_c_Modulus⟩
  · refine ObX.op rfl fun f33 wd34 he35 hout36 hphi37 => ?_
    obtain ⟨S39, hS40, hf41⟩ := hphi37 0 5 _ rfl rfl rfl
    obtain ⟨e42, hr43⟩ := hf41
    obtain ⟨S44, hS45, hf46⟩ := hphi37 2 7 _ rfl rfl rfl
    obtain ⟨e47, hr48⟩ := hf46
    have hr52 : InR .i64 x49 := by rw [hz50]; exact inR_tmod hr43
    exact OpX.val (Value.int .i64 x49) wd34 rfl (by rw [hz50]; exact op_rem e42 e47 h051) (Ext.refl _) ⟨rfl, hr52⟩
  · refine ObX.op rfl fun f53 wd54 he55 hout56 hphi57 => ?_
    have e59 : f53 2 = (Value.pointer (some ⟨b1, 0, none⟩)) := (hout56 2 rfl).trans rfl
    exact OpX.val (Value.pointer (some ⟨b1, 1, none⟩)) wd54 rfl (op_fieldAddr fd_34_1 e59) (Ext.refl _) rfl
  · refine ObX.op rfl fun f60 wd61 he62 hout63 hphi64 => ?_
    have hS65 := St.extend hS8 he62
    obtain ⟨S66, hS67, hf68⟩ := hphi64 4 9 _ rfl rfl rfl
    have e69 : f60 9 = (Value.pointer (some ⟨b1, 1, none⟩)) := hf68
    exact OpX.val (Value.int .i64 c_Modulus) wd61 rfl (op_load one_2 e69 (BoxAt.cell (BoxAt.lift hS65.ext hx6) rfl)) (Ext.refl _) ⟨rfl, r_c_Modulus⟩
  · refine ObX.op rfl fun f70 wd71 he72 hout73 hphi74 => ?_
    obtain ⟨S76, hS77, hf78⟩ := hphi74 3 8 _ rfl rfl rfl
    obtain ⟨e79, hr80⟩ := hf78
    obtain ⟨S81, hS82, hf83⟩ := hphi74 5 10 _ rfl rfl rfl
    obtain ⟨e84, hr85⟩ := hf83
    exact OpX.val (Value.int .i64 (w64 (x49 + c_Modulus))) wd71 rfl (op_add e79 e84) (Ext.refl _) ⟨rfl, (inR_wrap _ _)⟩
  · refine ObX.op rfl fun f86 wd87 he88 hout89 hphi90 => ?_
    have e92 : f86 2 = (Value.pointer (some ⟨b1, 0, none⟩)) := (hout89 2 rfl).trans rfl
    exact OpX.val (Value.pointer (some ⟨b1, 1, none⟩)) wd87 rfl (op_fieldAddr fd_34_1 e92) (Ext.refl _) rfl
  · refine ObX.op rfl fun f93 wd94 he95 hout96 hphi97 => ?_
    have hS98 := St.extend hS8 he95
    obtain ⟨S99, hS100, hf101⟩ := hphi97 7 12 _ rfl rfl rfl
    have e102 : f93 12 = (Value.pointer (some ⟨b1, 1, none⟩)) := hf101
    exact OpX.val (Value.int .i64 c_Modulus) wd94 rfl (op_load one_2 e102 (BoxAt.cell (BoxAt.lift hS98.ext hx6) rfl)) (Ext.refl _) ⟨rfl, r_c_Modulus⟩
  · intro f103 wd104 Ss105 he106 hout107 hSn108 hSd109 hphi110
    show WL _ _ _ _ _ _ _
    have hS111 := St.extend hS8 he106
    obtain ⟨e112, hr113⟩ := hphi110 6 11 _ (by decide) rfl rfl
    obtain ⟨e114, hr115⟩ := hphi110 8 13 _ (by decide) rfl rfl
    obtain ⟨x116, hz117, h⟩ := bs h
    obtain ⟨h0118, hz117⟩ := remI_some hz117
    have hr119 : InR .i64 x116 := by rw [hz117]; exact inR_tmod hr113
    refine WL.val (Value.int .i64 x116) _ (by rw [hz117]; exact op_rem e112 e114 h0118) rfl ?_
    refine WL.val (Value.int .i64 x116) _ (op_assign rfl) rfl ?_
    refine WL.nil ?_
    refine W.ret ?_
    obtain rfl := Option.some.inj h
    show FinP _ _ _ _ _ _ _
    exact FinP.ret _ (res1 rfl rfl) ⟨rfl, hr119, (Ext.trans hE7 hS111.ext)⟩

end Go.VG
