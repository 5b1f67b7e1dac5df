/- The walks, part 3: each Go function returns what its plain twin returns. No condition beyond what each names. -/
import Derived.Test.YtajalkfoblcaaaaGWalk2
set_option linter.all false
namespace Go.VG
open Go.Proofs
attribute [local irreducible] W WL Sep FinP

theorem c_spec_l18One {w : World} {w_Orders : (List Int)} {v_w_Orders : Value} {w_Modulus : Int} {w_Values : (List (List (List Int)))} {v_w_Values : Value} {c : (List (List Int))} {v_c : Value} {x : Int} {y : Int} {z : Int} (r_w_Orders : (Ty.sl (Ty.i .i64)).rep w v_w_Orders w_Orders) (r_w_Modulus : InR .i64 w_Modulus) (r_w_Values : (Ty.sl (Ty.sl (Ty.sl (Ty.i .i64)))).rep w v_w_Values w_Values) (r_c : (Ty.sl (Ty.sl (Ty.i .i64))).rep w v_c c) (r_x : InR .i64 x) (r_y : InR .i64 y) (r_z : InR .i64 z) {res : Bool} (h : p_spec_l18One w_Orders w_Modulus w_Values c x y z  = some res) :
    Ret Try.prog 95 #[(Value.agg #[v_w_Orders, (Value.int .i64 w_Modulus), v_w_Values]), v_c, (Value.int .i64 x), (Value.int .i64 y), (Value.int .i64 z)] w (fun v w' => v = Value.bool res ∧ Ext w w') := by
  unfold p_spec_l18One at h
  have hS0 : St w w [] := St.start w
  refine Ret.start (fn := Try.f95) Try.func95 rfl 80 rfl rfl ?_
  refine W.seq (W.region ?_)
  refine WL.box hS0 rfl (cs := [v_w_Orders, (Value.int .i64 w_Modulus), v_w_Values]) rfl rfl ?_
  intro b1 wd2 hS3 he4 hx5
  replace hS3 : St w wd2 [bx b1 [v_w_Orders, (Value.int .i64 w_Modulus), v_w_Values]] := hS3
  have hx6 := St.boxAt hS3 0 rfl
  have hE7 : Ext w wd2 := hS3.ext
  have hS8 : St wd2 wd2 [] := St.start wd2
  refine WL.val (Value.bool false) _ (op_assign rfl) rfl ?_
  refine WL.nil ?_
  show W _ _ _ _ _ _
  refine W.seq (W.region ?_)
  refine WL.val (Value.pointer (some ⟨b1, 0, none⟩)) _ (op_fieldAddr fd_30_0 rfl) rfl ?_
  refine WL.val v_w_Orders _ (op_load one_22 rfl (BoxAt.cell (BoxAt.lift hS8.ext hx6) rfl)) rfl ?_
  refine WL.val (Value.int .i64 y) _ (op_move rfl) rfl ?_
  refine WL.val (Value.int .i64 z) _ (op_move rfl) rfl ?_
  obtain ⟨x9, hx10, h⟩ := bs h
  refine WL.call _ (op_call fn_99 (args3 rfl rfl rfl)) (c_spec_l06Add (Ty.lift _ (Ext.trans hE7 hS8.ext) r_w_Orders) r_y r_z hx10) rfl ?_
  rintro _ wd12 ⟨rfl, hr11, he13⟩
  have hS15 := St.extend hS8 he13
  replace hS15 : St wd2 wd12 [] := hS15
  refine WL.val (Value.int .i64 x9) _ (op_assign rfl) rfl ?_
  refine WL.nil ?_
  show W _ _ _ _ _ _
  refine W.seq (W.region ?_)
  refine WL.val (Value.pointer (some ⟨b1, 2, none⟩)) _ (op_fieldAddr fd_30_2 rfl) rfl ?_
  refine WL.val v_w_Values _ (op_load one_23 rfl (BoxAt.cell (BoxAt.lift hS15.ext hx6) rfl)) rfl ?_
  refine WL.val v_w_Values _ (op_assign rfl) rfl ?_
  refine WL.nil ?_
  show W _ _ _ _ _ _
  refine W.seq ?_
  obtain ⟨x45, hx48, h⟩ := bs h
  obtain ⟨ha46, hb47, hx48⟩ := idx_some hx48
  obtain ⟨u59, hc60, hr61⟩ := repSl.el r_w_Values hx48
  obtain ⟨x84, hx87, h⟩ := bs h
  obtain ⟨ha85, hb86, hx87⟩ := idx_some hx87
  obtain ⟨u98, hc99, hr100⟩ := repSl.el hr61 hx87
  obtain ⟨x123, hx126, h⟩ := bs h
  obtain ⟨ha124, hb125, hx126⟩ := idx_some hx126
  obtain ⟨u137, hc138, hr139⟩ := repSl.el hr100 hx126
  obtain ⟨rfl, hr139⟩ := hr139
  obtain ⟨x169, hx172, h⟩ := bs h
  obtain ⟨ha170, hb171, hx172⟩ := idx_some hx172
  obtain ⟨u183, hc184, hr185⟩ := repSl.el r_c hx172
  obtain ⟨x208, hx211, h⟩ := bs h
  obtain ⟨ha209, hb210, hx211⟩ := idx_some hx211
  obtain ⟨u222, hc223, hr224⟩ := repSl.el hr185 hx211
  obtain ⟨rfl, hr224⟩ := hr224
  obtain ⟨x270, hx273, h⟩ := bs h
  obtain ⟨ha271, hb272, hx273⟩ := idx_some hx273
  obtain ⟨u284, hc285, hr286⟩ := repSl.el r_w_Values hx273
  obtain ⟨x309, hx312, h⟩ := bs h
  obtain ⟨ha310, hb311, hx312⟩ := idx_some hx312
  obtain ⟨u323, hc324, hr325⟩ := repSl.el hr286 hx312
  obtain ⟨x348, hx351, h⟩ := bs h
  obtain ⟨ha349, hb350, hx351⟩ := idx_some hx351
  obtain ⟨u362, hc363, hr364⟩ := repSl.el hr325 hx351
  obtain ⟨rfl, hr364⟩ := hr364
  obtain ⟨u420, hc421, hr422⟩ := repSl.el r_c hx172
  obtain ⟨x445, hx448, h⟩ := bs h
  obtain ⟨ha446, hb447, hx448⟩ := idx_some hx448
  obtain ⟨u459, hc460, hr461⟩ := repSl.el hr422 hx448
  obtain ⟨rfl, hr461⟩ := hr461
  obtain ⟨u517, hc518, hr519⟩ := repSl.el r_w_Values hx48
  obtain ⟨x542, hx545, h⟩ := bs h
  obtain ⟨ha543, hb544, hx545⟩ := idx_some hx545
  obtain ⟨u556, hc557, hr558⟩ := repSl.el hr519 hx545
  obtain ⟨x581, hx584, h⟩ := bs h
  obtain ⟨ha582, hb583, hx584⟩ := idx_some hx584
  obtain ⟨u595, hc596, hr597⟩ := repSl.el hr558 hx584
  obtain ⟨rfl, hr597⟩ := hr597
  obtain ⟨u653, hc654, hr655⟩ := repSl.el r_c hx172
  obtain ⟨x678, hx681, h⟩ := bs h
  obtain ⟨ha679, hb680, hx681⟩ := idx_some hx681
  obtain ⟨u692, hc693, hr694⟩ := repSl.el hr655 hx681
  obtain ⟨rfl, hr694⟩ := hr694
  refine W.drawR mixo 58 [] [fun _ v _ _ => v = v_w_Values, fun _ v _ _ => v = (Value.int .i64 y) ∧ InR .i64 y, fun _ v _ _ => v = (Value.pointer (some (elA v_w_Values (y).toNat))), fun _ v _ _ => v = u59, fun _ v _ _ => v = (Value.int .i64 z) ∧ InR .i64 z, fun _ v _ _ => v = (Value.pointer (some (elA u59 (z).toNat))), fun _ v _ _ => v = u98, fun _ v _ _ => v = (Value.int .i64 x) ∧ InR .i64 x, fun _ v _ _ => v = (Value.pointer (some (elA u98 (x).toNat))), fun _ v _ _ => v = (Value.int .i64 x123) ∧ InR .i64 x123, fun _ v _ _ => v = v_c, fun _ v _ _ => v = (Value.int .i64 x) ∧ InR .i64 x, fun _ v _ _ => v = (Value.pointer (some (elA v_c (x).toNat))), fun _ v _ _ => v = u183, fun _ v _ _ => v = (Value.int .i64 x9) ∧ InR .i64 x9, fun _ v _ _ => v = (Value.pointer (some (elA u183 (x9).toNat))), fun _ v _ _ => v = (Value.int .i64 x208) ∧ InR .i64 x208, fun _ v _ _ => v = (Value.int .i64 (w64 (x123 + x208))) ∧ InR .i64 (w64 (x123 + x208)), fun _ v _ _ => v = v_w_Values, fun _ v _ _ => v = (Value.int .i64 x) ∧ InR .i64 x, fun _ v _ _ => v = (Value.pointer (some (elA v_w_Values (x).toNat))), fun _ v _ _ => v = u284, fun _ v _ _ => v = (Value.int .i64 y) ∧ InR .i64 y, fun _ v _ _ => v = (Value.pointer (some (elA u284 (y).toNat))), fun _ v _ _ => v = u323, fun _ v _ _ => v = (Value.int .i64 z) ∧ InR .i64 z, fun _ v _ _ => v = (Value.pointer (some (elA u323 (z).toNat))), fun _ v _ _ => v = (Value.int .i64 x348) ∧ InR .i64 x348, fun _ v _ _ => v = (Value.int .i64 (w64 ((w64 (x123 + x208)) + x348))) ∧ InR .i64 (w64 ((w64 (x123 + x208)) + x348)), fun _ v _ _ => v = v_c, fun _ v _ _ => v = (Value.int .i64 x) ∧ InR .i64 x, fun _ v _ _ => v = (Value.pointer (some (elA v_c (x).toNat))), fun _ v _ _ => v = u420, fun _ v _ _ => v = (Value.int .i64 z) ∧ InR .i64 z, fun _ v _ _ => v = (Value.pointer (some (elA u420 (z).toNat))), fun _ v _ _ => v = (Value.int .i64 x445) ∧ InR .i64 x445, fun _ v _ _ => v = (Value.int .i64 (w64 ((w64 ((w64 (x123 + x208)) + x348)) - x445))) ∧ InR .i64 (w64 ((w64 ((w64 (x123 + x208)) + x348)) - x445)), fun _ v _ _ => v = v_w_Values, fun _ v _ _ => v = (Value.int .i64 y) ∧ InR .i64 y, fun _ v _ _ => v = (Value.pointer (some (elA v_w_Values (y).toNat))), fun _ v _ _ => v = u517, fun _ v _ _ => v = (Value.int .i64 x) ∧ InR .i64 x, fun _ v _ _ => v = (Value.pointer (some (elA u517 (x).toNat))), fun _ v _ _ => v = u556, fun _ v _ _ => v = (Value.int .i64 z) ∧ InR .i64 z, fun _ v _ _ => v = (Value.pointer (some (elA u556 (z).toNat))), fun _ v _ _ => v = (Value.int .i64 x581) ∧ InR .i64 x581, fun _ v _ _ => v = (Value.int .i64 (w64 ((w64 ((w64 ((w64 (x123 + x208)) + x348)) - x445)) - x581))) ∧ InR .i64 (w64 ((w64 ((w64 ((w64 (x123 + x208)) + x348)) - x445)) - x581)), fun _ v _ _ => v = v_c, fun _ v _ _ => v = (Value.int .i64 x) ∧ InR .i64 x, fun _ v _ _ => v = (Value.pointer (some (elA v_c (x).toNat))), fun _ v _ _ => v = u653, fun _ v _ _ => v = (Value.int .i64 y) ∧ InR .i64 y, fun _ v _ _ => v = (Value.pointer (some (elA u653 (y).toNat))), fun _ v _ _ => v = (Value.int .i64 x678) ∧ InR .i64 x678, fun _ v _ _ => v = (Value.int .i64 (w64 ((w64 ((w64 ((w64 ((w64 (x123 + x208)) + x348)) - x445)) - x581)) - x678))) ∧ InR .i64 (w64 ((w64 ((w64 ((w64 ((w64 (x123 + x208)) + x348)) - x445)) - x581)) - x678)), fun _ v _ _ => v = (Value.pointer (some ⟨b1, 1, none⟩)), fun _ v _ _ => v = (Value.int .i64 w_Modulus) ∧ InR .i64 w_Modulus] (by kernel_rfl) (by kernel_rfl) ⟨⟨fun _ _ _ _ _ _ h => h, fun _ _ _ _ _ _ h => h⟩, ⟨fun _ _ _ _ _ _ h => h, fun _ _ _ _ _ _ h => h⟩, ⟨fun _ _ _ _ _ _ h => h, fun _ _ _ _ _ _ h => h⟩, ⟨fun _ _ _ _ _ _ h => h, fun _ _ _ _ _ _ h => h⟩, ⟨fun _ _ _ _ _ _ h => h, fun _ _ _ _ _ _ h => h⟩, ⟨fun _ _ _ _ _ _ h => h, fun _ _ _ _ _ _ h => h⟩, ⟨fun _ _ _ _ _ _ h => h, fun _ _ _ _ _ _ h => h⟩, ⟨fun _ _ _ _ _ _ h => h, fun _ _ _ _ _ _ h => h⟩, ⟨fun _ _ _ _ _ _ h => h, fun _ _ _ _ _ _ h => h⟩, ⟨fun _ _ _ _ _ _ h => h, fun _ _ _ _ _ _ h => h⟩, ⟨fun _ _ _ _ _ _ h => h, fun _ _ _ _ _ _ h => h⟩, ⟨fun _ _ _ _ _ _ h => h, fun _ _ _ _ _ _ h => h⟩, ⟨fun _ _ _ _ _ _ h => h, fun _ _ _ _ _ _ h => h⟩, ⟨fun _ _ _ _ _ _ h => h, fun _ _ _ _ _ _ h => h⟩, ⟨fun _ _ _ _ _ _ h => h, fun _ _ _ _ _ _ h => h⟩, ⟨fun _ _ _ _ _ _ h => h, fun _ _ _ _ _ _ h => h⟩, ⟨fun _ _ _ _ _ _ h => h, fun _ _ _ _ _ _ h => h⟩, ⟨fun _ _ _ _ _ _ h => h, fun _ _ _ _ _ _ h => h⟩, ⟨fun _ _ _ _ _ _ h => h, fun _ _ _ _ _ _ h => h⟩, ⟨fun _ _ _ _ _ _ h => h, fun _ _ _ _ _ _ h => h⟩, ⟨fun _ _ _ _ _ _ h => h, fun _ _ _ _ _ _ h => h⟩, ⟨fun _ _ _ _ _ _ h => h, fun _ _ _ _ _ _ h => h⟩, ⟨fun _ _ _ _ _ _ h => h, fun _ _ _ _ _ _ h => h⟩, ⟨fun _ _ _ _ _ _ h => h, fun _ _ _ _ _ _ h => h⟩, ⟨fun _ _ _ _ _ _ h => h, fun _ _ _ _ _ _ h => h⟩, ⟨fun _ _ _ _ _ _ h => h, fun _ _ _ _ _ _ h => h⟩, ⟨fun _ _ _ _ _ _ h => h, fun _ _ _ _ _ _ h => h⟩, ⟨fun _ _ _ _ _ _ h => h, fun _ _ _ _ _ _ h => h⟩, ⟨fun _ _ _ _ _ _ h => h, fun _ _ _ _ _ _ h => h⟩, ⟨fun _ _ _ _ _ _ h => h, fun _ _ _ _ _ _ h => h⟩, ⟨fun _ _ _ _ _ _ h => h, fun _ _ _ _ _ _ h => h⟩, ⟨fun _ _ _ _ _ _ h => h, fun _ _ _ _ _ _ h => h⟩, ⟨fun _ _ _ _ _ _ h => h, fun _ _ _ _ _ _ h => h⟩, ⟨fun _ _ _ _ _ _ h => h, fun _ _ _ _ _ _ h => h⟩, ⟨fun _ _ _ _ _ _ h => h, fun _ _ _ _ _ _ h => h⟩, ⟨fun _ _ _ _ _ _ h => h, fun _ _ _ _ _ _ h => h⟩, ⟨fun _ _ _ _ _ _ h => h, fun _ _ _ _ _ _ h => h⟩, ⟨fun _ _ _ _ _ _ h => h, fun _ _ _ _ _ _ h => h⟩, ⟨fun _ _ _ _ _ _ h => h, fun _ _ _ _ _ _ h => h⟩, ⟨fun _ _ _ _ _ _ h => h, fun _ _ _ _ _ _ h => h⟩, ⟨fun _ _ _ _ _ _ h => h, fun _ _ _ _ _ _ h => h⟩, ⟨fun _ _ _ _ _ _ h => h, fun _ _ _ _ _ _ h => h⟩, ⟨fun _ _ _ _ _ _ h => h, fun _ _ _ _ _ _ h => h⟩, ⟨fun _ _ _ _ _ _ h => h, fun _ _ _ _ _ _ h => h⟩, ⟨fun _ _ _ _ _ _ h => h, fun _ _ _ _ _ _ h => h⟩, ⟨fun _ _ _ _ _ _ h => h, fun _ _ _ _ _ _ h => h⟩, ⟨fun _ _ _ _ _ _ h => h, fun _ _ _ _ _ _ h => h⟩, ⟨fun _ _ _ _ _ _ h => h, fun _ _ _ _ _ _ h => h⟩, ⟨fun _ _ _ _ _ _ h => h, fun _ _ _ _ _ _ h => h⟩, ⟨fun _ _ _ _ _ _ h => h, fun _ _ _ _ _ _ h => h⟩, ⟨fun _ _ _ _ _ _ h => h, fun _ _ _ _ _ _ h => h⟩, ⟨fun _ _ _ _ _ _ h => h, fun _ _ _ _ _ _ h => h⟩, ⟨fun _ _ _ _ _ _ h => h, fun _ _ _ _ _ _ h => h⟩, ⟨fun _ _ _ _ _ _ h => h, fun _ _ _ _ _ _ h => h⟩, ⟨fun _ _ _ _ _ _ h => h, fun _ _ _ _ _ _ h => h⟩, ⟨fun _ _ _ _ _ _ h => h, fun _ _ _ _ _ _ h => h⟩, ⟨fun _ _ _ _ _ _ h => h, fun _ _ _ _ _ _ h => h⟩, ⟨fun _ _ _ _ _ _ h => h, fun _ _ _ _ _ _ h => h⟩, trivial⟩ ⟨?_, ?_, ?_, ?_, ?_, ?_, ?_, ?_, ?_, ?_, ?_, ?_, ?_, ?_, ?_, ?_, ?_, ?_, ?_, ?_, ?_, ?_, ?_, ?_, ?_, ?_, ?_, ?_, ?_, ?_, ?_, ?_, ?_, ?_, ?_, ?_, ?_, ?_, ?_, ?_, ?_, ?_, ?_, ?_, ?_, ?_, ?_, ?_, ?_, ?_, ?_, ?_, ?_, ?_, ?_, ?_, ?_, ?_, trivial⟩ ?_
  · refine ObX.op rfl ?_
    intro f16 wd17 he18 hout19 hphi20
    have hS21 : St wd2 wd17 [] := St.extend hS15 he18
    have e22 : f16 12 = v_w_Values := (hout19 12 rfl).trans rfl
    exact OpX.val v_w_Values wd17 rfl (op_move e22) (Ext.refl _) rfl
  · refine ObX.op rfl ?_
    intro f23 wd24 he25 hout26 hphi27
    have hS28 : St wd2 wd24 [] := St.extend hS15 he25
    have e29 : f23 3 = (Value.int .i64 y) := (hout26 3 rfl).trans rfl
    exact OpX.val (Value.int .i64 y) wd24 rfl (op_move e29) (Ext.refl _) ⟨rfl, r_y⟩
  · refine ObX.op rfl ?_
    intro f30 wd31 he32 hout33 hphi34
    have hS35 : St wd2 wd31 [] := St.extend hS15 he32
    obtain ⟨S36, hS37, hf38⟩ := hphi34 0 20 _ rfl rfl rfl
    have e39 : f30 20 = v_w_Values := hf38
    obtain ⟨S40, hS41, hf42⟩ := hphi34 1 21 _ rfl rfl rfl
    obtain ⟨e43, hr44⟩ : f30 21 = (Value.int .i64 y) ∧ InR .i64 y := hf42
    exact OpX.val (Value.pointer (some (elA v_w_Values (y).toNat))) wd31 rfl (op_idx sl_23 (Ty.lift _ (Ext.trans hE7 hS35.ext) r_w_Values) e39 e43 ha46 hb47) (Ext.refl _) rfl
  · refine ObX.op rfl ?_
    intro f49 wd50 he51 hout52 hphi53
    have hS54 : St wd2 wd50 [] := St.extend hS15 he51
    obtain ⟨S55, hS56, hf57⟩ := hphi53 2 22 _ rfl rfl rfl
    have e58 : f49 22 = (Value.pointer (some (elA v_w_Values (y).toNat))) := hf57
    exact OpX.val u59 wd50 rfl (op_load one_27 e58 (Ext.cell (Ext.trans hE7 hS54.ext) hc60)) (Ext.refl _) rfl
  · refine ObX.op rfl ?_
    intro f62 wd63 he64 hout65 hphi66
    have hS67 : St wd2 wd63 [] := St.extend hS15 he64
    have e68 : f62 4 = (Value.int .i64 z) := (hout65 4 rfl).trans rfl
    exact OpX.val (Value.int .i64 z) wd63 rfl (op_move e68) (Ext.refl _) ⟨rfl, r_z⟩
  · refine ObX.op rfl ?_
    intro f69 wd70 he71 hout72 hphi73
    have hS74 : St wd2 wd70 [] := St.extend hS15 he71
    obtain ⟨S75, hS76, hf77⟩ := hphi73 3 23 _ rfl rfl rfl
    have e78 : f69 23 = u59 := hf77
    obtain ⟨S79, hS80, hf81⟩ := hphi73 4 24 _ rfl rfl rfl
    obtain ⟨e82, hr83⟩ : f69 24 = (Value.int .i64 z) ∧ InR .i64 z := hf81
    exact OpX.val (Value.pointer (some (elA u59 (z).toNat))) wd70 rfl (op_idx sl_27 (Ty.lift _ (Ext.trans hE7 hS74.ext) hr61) e78 e82 ha85 hb86) (Ext.refl _) rfl
  · refine ObX.op rfl ?_
    intro f88 wd89 he90 hout91 hphi92
    have hS93 : St wd2 wd89 [] := St.extend hS15 he90
    obtain ⟨S94, hS95, hf96⟩ := hphi92 5 25 _ rfl rfl rfl
    have e97 : f88 25 = (Value.pointer (some (elA u59 (z).toNat))) := hf96
    exact OpX.val u98 wd89 rfl (op_load one_22 e97 (Ext.cell (Ext.trans hE7 hS93.ext) hc99)) (Ext.refl _) rfl
  · refine ObX.op rfl ?_
    intro f101 wd102 he103 hout104 hphi105
    have hS106 : St wd2 wd102 [] := St.extend hS15 he103
    have e107 : f101 2 = (Value.int .i64 x) := (hout104 2 rfl).trans rfl
    exact OpX.val (Value.int .i64 x) wd102 rfl (op_move e107) (Ext.refl _) ⟨rfl, r_x⟩
  · refine ObX.op rfl ?_
    intro f108 wd109 he110 hout111 hphi112
    have hS113 : St wd2 wd109 [] := St.extend hS15 he110
    obtain ⟨S114, hS115, hf116⟩ := hphi112 6 26 _ rfl rfl rfl
    have e117 : f108 26 = u98 := hf116
    obtain ⟨S118, hS119, hf120⟩ := hphi112 7 27 _ rfl rfl rfl
    obtain ⟨e121, hr122⟩ : f108 27 = (Value.int .i64 x) ∧ InR .i64 x := hf120
    exact OpX.val (Value.pointer (some (elA u98 (x).toNat))) wd109 rfl (op_idx sl_22 (Ty.lift _ (Ext.trans hE7 hS113.ext) hr100) e117 e121 ha124 hb125) (Ext.refl _) rfl
  · refine ObX.op rfl ?_
    intro f127 wd128 he129 hout130 hphi131
    have hS132 : St wd2 wd128 [] := St.extend hS15 he129
    obtain ⟨S133, hS134, hf135⟩ := hphi131 8 28 _ rfl rfl rfl
    have e136 : f127 28 = (Value.pointer (some (elA u98 (x).toNat))) := hf135
    exact OpX.val (Value.int .i64 x123) wd128 rfl (op_load one_2 e136 (Ext.cell (Ext.trans hE7 hS132.ext) hc138)) (Ext.refl _) ⟨rfl, hr139⟩
  · refine ObX.op rfl ?_
    intro f140 wd141 he142 hout143 hphi144
    have hS145 : St wd2 wd141 [] := St.extend hS15 he142
    have e146 : f140 1 = v_c := (hout143 1 rfl).trans rfl
    exact OpX.val v_c wd141 rfl (op_move e146) (Ext.refl _) rfl
  · refine ObX.op rfl ?_
    intro f147 wd148 he149 hout150 hphi151
    have hS152 : St wd2 wd148 [] := St.extend hS15 he149
    have e153 : f147 2 = (Value.int .i64 x) := (hout150 2 rfl).trans rfl
    exact OpX.val (Value.int .i64 x) wd148 rfl (op_move e153) (Ext.refl _) ⟨rfl, r_x⟩
  · refine ObX.op rfl ?_
    intro f154 wd155 he156 hout157 hphi158
    have hS159 : St wd2 wd155 [] := St.extend hS15 he156
    obtain ⟨S160, hS161, hf162⟩ := hphi158 10 30 _ rfl rfl rfl
    have e163 : f154 30 = v_c := hf162
    obtain ⟨S164, hS165, hf166⟩ := hphi158 11 31 _ rfl rfl rfl
    obtain ⟨e167, hr168⟩ : f154 31 = (Value.int .i64 x) ∧ InR .i64 x := hf166
    exact OpX.val (Value.pointer (some (elA v_c (x).toNat))) wd155 rfl (op_idx sl_27 (Ty.lift _ (Ext.trans hE7 hS159.ext) r_c) e163 e167 ha170 hb171) (Ext.refl _) rfl
  · refine ObX.op rfl ?_
    intro f173 wd174 he175 hout176 hphi177
    have hS178 : St wd2 wd174 [] := St.extend hS15 he175
    obtain ⟨S179, hS180, hf181⟩ := hphi177 12 32 _ rfl rfl rfl
    have e182 : f173 32 = (Value.pointer (some (elA v_c (x).toNat))) := hf181
    exact OpX.val u183 wd174 rfl (op_load one_22 e182 (Ext.cell (Ext.trans hE7 hS178.ext) hc184)) (Ext.refl _) rfl
  · refine ObX.op rfl ?_
    intro f186 wd187 he188 hout189 hphi190
    have hS191 : St wd2 wd187 [] := St.extend hS15 he188
    have e192 : f186 11 = (Value.int .i64 x9) := (hout189 11 rfl).trans rfl
    exact OpX.val (Value.int .i64 x9) wd187 rfl (op_move e192) (Ext.refl _) ⟨rfl, hr11⟩
  · refine ObX.op rfl ?_
    intro f193 wd194 he195 hout196 hphi197
    have hS198 : St wd2 wd194 [] := St.extend hS15 he195
    obtain ⟨S199, hS200, hf201⟩ := hphi197 13 33 _ rfl rfl rfl
    have e202 : f193 33 = u183 := hf201
    obtain ⟨S203, hS204, hf205⟩ := hphi197 14 34 _ rfl rfl rfl
    obtain ⟨e206, hr207⟩ : f193 34 = (Value.int .i64 x9) ∧ InR .i64 x9 := hf205
    exact OpX.val (Value.pointer (some (elA u183 (x9).toNat))) wd194 rfl (op_idx sl_22 (Ty.lift _ (Ext.trans hE7 hS198.ext) hr185) e202 e206 ha209 hb210) (Ext.refl _) rfl
  · refine ObX.op rfl ?_
    intro f212 wd213 he214 hout215 hphi216
    have hS217 : St wd2 wd213 [] := St.extend hS15 he214
    obtain ⟨S218, hS219, hf220⟩ := hphi216 15 35 _ rfl rfl rfl
    have e221 : f212 35 = (Value.pointer (some (elA u183 (x9).toNat))) := hf220
    exact OpX.val (Value.int .i64 x208) wd213 rfl (op_load one_2 e221 (Ext.cell (Ext.trans hE7 hS217.ext) hc223)) (Ext.refl _) ⟨rfl, hr224⟩
  · refine ObX.op rfl ?_
    intro f225 wd226 he227 hout228 hphi229
    have hS230 : St wd2 wd226 [] := St.extend hS15 he227
    obtain ⟨S231, hS232, hf233⟩ := hphi229 9 29 _ rfl rfl rfl
    obtain ⟨e234, hr235⟩ : f225 29 = (Value.int .i64 x123) ∧ InR .i64 x123 := hf233
    obtain ⟨S236, hS237, hf238⟩ := hphi229 16 36 _ rfl rfl rfl
    obtain ⟨e239, hr240⟩ : f225 36 = (Value.int .i64 x208) ∧ InR .i64 x208 := hf238
    exact OpX.val (Value.int .i64 (w64 (x123 + x208))) wd226 rfl (op_add e234 e239) (Ext.refl _) ⟨rfl, (inR_wrap _ _)⟩
  · refine ObX.op rfl ?_
    intro f241 wd242 he243 hout244 hphi245
    have hS246 : St wd2 wd242 [] := St.extend hS15 he243
    have e247 : f241 12 = v_w_Values := (hout244 12 rfl).trans rfl
    exact OpX.val v_w_Values wd242 rfl (op_move e247) (Ext.refl _) rfl
  · refine ObX.op rfl ?_
    intro f248 wd249 he250 hout251 hphi252
    have hS253 : St wd2 wd249 [] := St.extend hS15 he250
    have e254 : f248 2 = (Value.int .i64 x) := (hout251 2 rfl).trans rfl
    exact OpX.val (Value.int .i64 x) wd249 rfl (op_move e254) (Ext.refl _) ⟨rfl, r_x⟩
  · refine ObX.op rfl ?_
    intro f255 wd256 he257 hout258 hphi259
    have hS260 : St wd2 wd256 [] := St.extend hS15 he257
    obtain ⟨S261, hS262, hf263⟩ := hphi259 18 38 _ rfl rfl rfl
    have e264 : f255 38 = v_w_Values := hf263
    obtain ⟨S265, hS266, hf267⟩ := hphi259 19 39 _ rfl rfl rfl
    obtain ⟨e268, hr269⟩ : f255 39 = (Value.int .i64 x) ∧ InR .i64 x := hf267
    exact OpX.val (Value.pointer (some (elA v_w_Values (x).toNat))) wd256 rfl (op_idx sl_23 (Ty.lift _ (Ext.trans hE7 hS260.ext) r_w_Values) e264 e268 ha271 hb272) (Ext.refl _) rfl
  · refine ObX.op rfl ?_
    intro f274 wd275 he276 hout277 hphi278
    have hS279 : St wd2 wd275 [] := St.extend hS15 he276
    obtain ⟨S280, hS281, hf282⟩ := hphi278 20 40 _ rfl rfl rfl
    have e283 : f274 40 = (Value.pointer (some (elA v_w_Values (x).toNat))) := hf282
    exact OpX.val u284 wd275 rfl (op_load one_27 e283 (Ext.cell (Ext.trans hE7 hS279.ext) hc285)) (Ext.refl _) rfl
  · refine ObX.op rfl ?_
    intro f287 wd288 he289 hout290 hphi291
    have hS292 : St wd2 wd288 [] := St.extend hS15 he289
    have e293 : f287 3 = (Value.int .i64 y) := (hout290 3 rfl).trans rfl
    exact OpX.val (Value.int .i64 y) wd288 rfl (op_move e293) (Ext.refl _) ⟨rfl, r_y⟩
  · refine ObX.op rfl ?_
    intro f294 wd295 he296 hout297 hphi298
    have hS299 : St wd2 wd295 [] := St.extend hS15 he296
    obtain ⟨S300, hS301, hf302⟩ := hphi298 21 41 _ rfl rfl rfl
    have e303 : f294 41 = u284 := hf302
    obtain ⟨S304, hS305, hf306⟩ := hphi298 22 42 _ rfl rfl rfl
    obtain ⟨e307, hr308⟩ : f294 42 = (Value.int .i64 y) ∧ InR .i64 y := hf306
    exact OpX.val (Value.pointer (some (elA u284 (y).toNat))) wd295 rfl (op_idx sl_27 (Ty.lift _ (Ext.trans hE7 hS299.ext) hr286) e303 e307 ha310 hb311) (Ext.refl _) rfl
  · refine ObX.op rfl ?_
    intro f313 wd314 he315 hout316 hphi317
    have hS318 : St wd2 wd314 [] := St.extend hS15 he315
    obtain ⟨S319, hS320, hf321⟩ := hphi317 23 43 _ rfl rfl rfl
    have e322 : f313 43 = (Value.pointer (some (elA u284 (y).toNat))) := hf321
    exact OpX.val u323 wd314 rfl (op_load one_22 e322 (Ext.cell (Ext.trans hE7 hS318.ext) hc324)) (Ext.refl _) rfl
  · refine ObX.op rfl ?_
    intro f326 wd327 he328 hout329 hphi330
    have hS331 : St wd2 wd327 [] := St.extend hS15 he328
    have e332 : f326 4 = (Value.int .i64 z) := (hout329 4 rfl).trans rfl
    exact OpX.val (Value.int .i64 z) wd327 rfl (op_move e332) (Ext.refl _) ⟨rfl, r_z⟩
  · refine ObX.op rfl ?_
    intro f333 wd334 he335 hout336 hphi337
    have hS338 : St wd2 wd334 [] := St.extend hS15 he335
    obtain ⟨S339, hS340, hf341⟩ := hphi337 24 44 _ rfl rfl rfl
    have e342 : f333 44 = u323 := hf341
    obtain ⟨S343, hS344, hf345⟩ := hphi337 25 45 _ rfl rfl rfl
    obtain ⟨e346, hr347⟩ : f333 45 = (Value.int .i64 z) ∧ InR .i64 z := hf345
    exact OpX.val (Value.pointer (some (elA u323 (z).toNat))) wd334 rfl (op_idx sl_22 (Ty.lift _ (Ext.trans hE7 hS338.ext) hr325) e342 e346 ha349 hb350) (Ext.refl _) rfl
  · refine ObX.op rfl ?_
    intro f352 wd353 he354 hout355 hphi356
    have hS357 : St wd2 wd353 [] := St.extend hS15 he354
    obtain ⟨S358, hS359, hf360⟩ := hphi356 26 46 _ rfl rfl rfl
    have e361 : f352 46 = (Value.pointer (some (elA u323 (z).toNat))) := hf360
    exact OpX.val (Value.int .i64 x348) wd353 rfl (op_load one_2 e361 (Ext.cell (Ext.trans hE7 hS357.ext) hc363)) (Ext.refl _) ⟨rfl, hr364⟩
  · refine ObX.op rfl ?_
    intro f365 wd366 he367 hout368 hphi369
    have hS370 : St wd2 wd366 [] := St.extend hS15 he367
    obtain ⟨S371, hS372, hf373⟩ := hphi369 17 37 _ rfl rfl rfl
    obtain ⟨e374, hr375⟩ : f365 37 = (Value.int .i64 (w64 (x123 + x208))) ∧ InR .i64 (w64 (x123 + x208)) := hf373
    obtain ⟨S376, hS377, hf378⟩ := hphi369 27 47 _ rfl rfl rfl
    obtain ⟨e379, hr380⟩ : f365 47 = (Value.int .i64 x348) ∧ InR .i64 x348 := hf378
    exact OpX.val (Value.int .i64 (w64 ((w64 (x123 + x208)) + x348))) wd366 rfl (op_add e374 e379) (Ext.refl _) ⟨rfl, (inR_wrap _ _)⟩
  · refine ObX.op rfl ?_
    intro f381 wd382 he383 hout384 hphi385
    have hS386 : St wd2 wd382 [] := St.extend hS15 he383
    have e387 : f381 1 = v_c := (hout384 1 rfl).trans rfl
    exact OpX.val v_c wd382 rfl (op_move e387) (Ext.refl _) rfl
  · refine ObX.op rfl ?_
    intro f388 wd389 he390 hout391 hphi392
    have hS393 : St wd2 wd389 [] := St.extend hS15 he390
    have e394 : f388 2 = (Value.int .i64 x) := (hout391 2 rfl).trans rfl
    exact OpX.val (Value.int .i64 x) wd389 rfl (op_move e394) (Ext.refl _) ⟨rfl, r_x⟩
  · refine ObX.op rfl ?_
    intro f395 wd396 he397 hout398 hphi399
    have hS400 : St wd2 wd396 [] := St.extend hS15 he397
    obtain ⟨S401, hS402, hf403⟩ := hphi399 29 49 _ rfl rfl rfl
    have e404 : f395 49 = v_c := hf403
    obtain ⟨S405, hS406, hf407⟩ := hphi399 30 50 _ rfl rfl rfl
    obtain ⟨e408, hr409⟩ : f395 50 = (Value.int .i64 x) ∧ InR .i64 x := hf407
    exact OpX.val (Value.pointer (some (elA v_c (x).toNat))) wd396 rfl (op_idx sl_27 (Ty.lift _ (Ext.trans hE7 hS400.ext) r_c) e404 e408 ha170 hb171) (Ext.refl _) rfl
  · refine ObX.op rfl ?_
    intro f410 wd411 he412 hout413 hphi414
    have hS415 : St wd2 wd411 [] := St.extend hS15 he412
    obtain ⟨S416, hS417, hf418⟩ := hphi414 31 51 _ rfl rfl rfl
    have e419 : f410 51 = (Value.pointer (some (elA v_c (x).toNat))) := hf418
    exact OpX.val u420 wd411 rfl (op_load one_22 e419 (Ext.cell (Ext.trans hE7 hS415.ext) hc421)) (Ext.refl _) rfl
  · refine ObX.op rfl ?_
    intro f423 wd424 he425 hout426 hphi427
    have hS428 : St wd2 wd424 [] := St.extend hS15 he425
    have e429 : f423 4 = (Value.int .i64 z) := (hout426 4 rfl).trans rfl
    exact OpX.val (Value.int .i64 z) wd424 rfl (op_move e429) (Ext.refl _) ⟨rfl, r_z⟩
  · refine ObX.op rfl ?_
    intro f430 wd431 he432 hout433 hphi434
    have hS435 : St wd2 wd431 [] := St.extend hS15 he432
    obtain ⟨S436, hS437, hf438⟩ := hphi434 32 52 _ rfl rfl rfl
    have e439 : f430 52 = u420 := hf438
    obtain ⟨S440, hS441, hf442⟩ := hphi434 33 53 _ rfl rfl rfl
    obtain ⟨e443, hr444⟩ : f430 53 = (Value.int .i64 z) ∧ InR .i64 z := hf442
    exact OpX.val (Value.pointer (some (elA u420 (z).toNat))) wd431 rfl (op_idx sl_22 (Ty.lift _ (Ext.trans hE7 hS435.ext) hr422) e439 e443 ha446 hb447) (Ext.refl _) rfl
  · refine ObX.op rfl ?_
    intro f449 wd450 he451 hout452 hphi453
    have hS454 : St wd2 wd450 [] := St.extend hS15 he451
    obtain ⟨S455, hS456, hf457⟩ := hphi453 34 54 _ rfl rfl rfl
    have e458 : f449 54 = (Value.pointer (some (elA u420 (z).toNat))) := hf457
    exact OpX.val (Value.int .i64 x445) wd450 rfl (op_load one_2 e458 (Ext.cell (Ext.trans hE7 hS454.ext) hc460)) (Ext.refl _) ⟨rfl, hr461⟩
  · refine ObX.op rfl ?_
    intro f462 wd463 he464 hout465 hphi466
    have hS467 : St wd2 wd463 [] := St.extend hS15 he464
    obtain ⟨S468, hS469, hf470⟩ := hphi466 28 48 _ rfl rfl rfl
    obtain ⟨e471, hr472⟩ : f462 48 = (Value.int .i64 (w64 ((w64 (x123 + x208)) + x348))) ∧ InR .i64 (w64 ((w64 (x123 + x208)) + x348)) := hf470
    obtain ⟨S473, hS474, hf475⟩ := hphi466 35 55 _ rfl rfl rfl
    obtain ⟨e476, hr477⟩ : f462 55 = (Value.int .i64 x445) ∧ InR .i64 x445 := hf475
    exact OpX.val (Value.int .i64 (w64 ((w64 ((w64 (x123 + x208)) + x348)) - x445))) wd463 rfl (op_sub e471 e476) (Ext.refl _) ⟨rfl, (inR_wrap _ _)⟩
  · refine ObX.op rfl ?_
    intro f478 wd479 he480 hout481 hphi482
    have hS483 : St wd2 wd479 [] := St.extend hS15 he480
    have e484 : f478 12 = v_w_Values := (hout481 12 rfl).trans rfl
    exact OpX.val v_w_Values wd479 rfl (op_move e484) (Ext.refl _) rfl
  · refine ObX.op rfl ?_
    intro f485 wd486 he487 hout488 hphi489
    have hS490 : St wd2 wd486 [] := St.extend hS15 he487
    have e491 : f485 3 = (Value.int .i64 y) := (hout488 3 rfl).trans rfl
    exact OpX.val (Value.int .i64 y) wd486 rfl (op_move e491) (Ext.refl _) ⟨rfl, r_y⟩
  · refine ObX.op rfl ?_
    intro f492 wd493 he494 hout495 hphi496
    have hS497 : St wd2 wd493 [] := St.extend hS15 he494
    obtain ⟨S498, hS499, hf500⟩ := hphi496 37 57 _ rfl rfl rfl
    have e501 : f492 57 = v_w_Values := hf500
    obtain ⟨S502, hS503, hf504⟩ := hphi496 38 58 _ rfl rfl rfl
    obtain ⟨e505, hr506⟩ : f492 58 = (Value.int .i64 y) ∧ InR .i64 y := hf504
    exact OpX.val (Value.pointer (some (elA v_w_Values (y).toNat))) wd493 rfl (op_idx sl_23 (Ty.lift _ (Ext.trans hE7 hS497.ext) r_w_Values) e501 e505 ha46 hb47) (Ext.refl _) rfl
  · refine ObX.op rfl ?_
    intro f507 wd508 he509 hout510 hphi511
    have hS512 : St wd2 wd508 [] := St.extend hS15 he509
    obtain ⟨S513, hS514, hf515⟩ := hphi511 39 59 _ rfl rfl rfl
    have e516 : f507 59 = (Value.pointer (some (elA v_w_Values (y).toNat))) := hf515
    exact OpX.val u517 wd508 rfl (op_load one_27 e516 (Ext.cell (Ext.trans hE7 hS512.ext) hc518)) (Ext.refl _) rfl
  · refine ObX.op rfl ?_
    intro f520 wd521 he522 hout523 hphi524
    have hS525 : St wd2 wd521 [] := St.extend hS15 he522
    have e526 : f520 2 = (Value.int .i64 x) := (hout523 2 rfl).trans rfl
    exact OpX.val (Value.int .i64 x) wd521 rfl (op_move e526) (Ext.refl _) ⟨rfl, r_x⟩
  · refine ObX.op rfl ?_
    intro f527 wd528 he529 hout530 hphi531
    have hS532 : St wd2 wd528 [] := St.extend hS15 he529
    obtain ⟨S533, hS534, hf535⟩ := hphi531 40 60 _ rfl rfl rfl
    have e536 : f527 60 = u517 := hf535
    obtain ⟨S537, hS538, hf539⟩ := hphi531 41 61 _ rfl rfl rfl
    obtain ⟨e540, hr541⟩ : f527 61 = (Value.int .i64 x) ∧ InR .i64 x := hf539
    exact OpX.val (Value.pointer (some (elA u517 (x).toNat))) wd528 rfl (op_idx sl_27 (Ty.lift _ (Ext.trans hE7 hS532.ext) hr519) e536 e540 ha543 hb544) (Ext.refl _) rfl
  · refine ObX.op rfl ?_
    intro f546 wd547 he548 hout549 hphi550
    have hS551 : St wd2 wd547 [] := St.extend hS15 he548
    obtain ⟨S552, hS553, hf554⟩ := hphi550 42 62 _ rfl rfl rfl
    have e555 : f546 62 = (Value.pointer (some (elA u517 (x).toNat))) := hf554
    exact OpX.val u556 wd547 rfl (op_load one_22 e555 (Ext.cell (Ext.trans hE7 hS551.ext) hc557)) (Ext.refl _) rfl
  · refine ObX.op rfl ?_
    intro f559 wd560 he561 hout562 hphi563
    have hS564 : St wd2 wd560 [] := St.extend hS15 he561
    have e565 : f559 4 = (Value.int .i64 z) := (hout562 4 rfl).trans rfl
    exact OpX.val (Value.int .i64 z) wd560 rfl (op_move e565) (Ext.refl _) ⟨rfl, r_z⟩
  · refine ObX.op rfl ?_
    intro f566 wd567 he568 hout569 hphi570
    have hS571 : St wd2 wd567 [] := St.extend hS15 he568
    obtain ⟨S572, hS573, hf574⟩ := hphi570 43 63 _ rfl rfl rfl
    have e575 : f566 63 = u556 := hf574
    obtain ⟨S576, hS577, hf578⟩ := hphi570 44 64 _ rfl rfl rfl
    obtain ⟨e579, hr580⟩ : f566 64 = (Value.int .i64 z) ∧ InR .i64 z := hf578
    exact OpX.val (Value.pointer (some (elA u556 (z).toNat))) wd567 rfl (op_idx sl_22 (Ty.lift _ (Ext.trans hE7 hS571.ext) hr558) e575 e579 ha582 hb583) (Ext.refl _) rfl
  · refine ObX.op rfl ?_
    intro f585 wd586 he587 hout588 hphi589
    have hS590 : St wd2 wd586 [] := St.extend hS15 he587
    obtain ⟨S591, hS592, hf593⟩ := hphi589 45 65 _ rfl rfl rfl
    have e594 : f585 65 = (Value.pointer (some (elA u556 (z).toNat))) := hf593
    exact OpX.val (Value.int .i64 x581) wd586 rfl (op_load one_2 e594 (Ext.cell (Ext.trans hE7 hS590.ext) hc596)) (Ext.refl _) ⟨rfl, hr597⟩
  · refine ObX.op rfl ?_
    intro f598 wd599 he600 hout601 hphi602
    have hS603 : St wd2 wd599 [] := St.extend hS15 he600
    obtain ⟨S604, hS605, hf606⟩ := hphi602 36 56 _ rfl rfl rfl
    obtain ⟨e607, hr608⟩ : f598 56 = (Value.int .i64 (w64 ((w64 ((w64 (x123 + x208)) + x348)) - x445))) ∧ InR .i64 (w64 ((w64 ((w64 (x123 + x208)) + x348)) - x445)) := hf606
    obtain ⟨S609, hS610, hf611⟩ := hphi602 46 66 _ rfl rfl rfl
    obtain ⟨e612, hr613⟩ : f598 66 = (Value.int .i64 x581) ∧ InR .i64 x581 := hf611
    exact OpX.val (Value.int .i64 (w64 ((w64 ((w64 ((w64 (x123 + x208)) + x348)) - x445)) - x581))) wd599 rfl (op_sub e607 e612) (Ext.refl _) ⟨rfl, (inR_wrap _ _)⟩
  · refine ObX.op rfl ?_
    intro f614 wd615 he616 hout617 hphi618
    have hS619 : St wd2 wd615 [] := St.extend hS15 he616
    have e620 : f614 1 = v_c := (hout617 1 rfl).trans rfl
    exact OpX.val v_c wd615 rfl (op_move e620) (Ext.refl _) rfl
  · refine ObX.op rfl ?_
    intro f621 wd622 he623 hout624 hphi625
    have hS626 : St wd2 wd622 [] := St.extend hS15 he623
    have e627 : f621 2 = (Value.int .i64 x) := (hout624 2 rfl).trans rfl
    exact OpX.val (Value.int .i64 x) wd622 rfl (op_move e627) (Ext.refl _) ⟨rfl, r_x⟩
  · refine ObX.op rfl ?_
    intro f628 wd629 he630 hout631 hphi632
    have hS633 : St wd2 wd629 [] := St.extend hS15 he630
    obtain ⟨S634, hS635, hf636⟩ := hphi632 48 68 _ rfl rfl rfl
    have e637 : f628 68 = v_c := hf636
    obtain ⟨S638, hS639, hf640⟩ := hphi632 49 69 _ rfl rfl rfl
    obtain ⟨e641, hr642⟩ : f628 69 = (Value.int .i64 x) ∧ InR .i64 x := hf640
    exact OpX.val (Value.pointer (some (elA v_c (x).toNat))) wd629 rfl (op_idx sl_27 (Ty.lift _ (Ext.trans hE7 hS633.ext) r_c) e637 e641 ha170 hb171) (Ext.refl _) rfl
  · refine ObX.op rfl ?_
    intro f643 wd644 he645 hout646 hphi647
    have hS648 : St wd2 wd644 [] := St.extend hS15 he645
    obtain ⟨S649, hS650, hf651⟩ := hphi647 50 70 _ rfl rfl rfl
    have e652 : f643 70 = (Value.pointer (some (elA v_c (x).toNat))) := hf651
    exact OpX.val u653 wd644 rfl (op_load one_22 e652 (Ext.cell (Ext.trans hE7 hS648.ext) hc654)) (Ext.refl _) rfl
  · refine ObX.op rfl ?_
    intro f656 wd657 he658 hout659 hphi660
    have hS661 : St wd2 wd657 [] := St.extend hS15 he658
    have e662 : f656 3 = (Value.int .i64 y) := (hout659 3 rfl).trans rfl
    exact OpX.val (Value.int .i64 y) wd657 rfl (op_move e662) (Ext.refl _) ⟨rfl, r_y⟩
  · refine ObX.op rfl ?_
    intro f663 wd664 he665 hout666 hphi667
    have hS668 : St wd2 wd664 [] := St.extend hS15 he665
    obtain ⟨S669, hS670, hf671⟩ := hphi667 51 71 _ rfl rfl rfl
    have e672 : f663 71 = u653 := hf671
    obtain ⟨S673, hS674, hf675⟩ := hphi667 52 72 _ rfl rfl rfl
    obtain ⟨e676, hr677⟩ : f663 72 = (Value.int .i64 y) ∧ InR .i64 y := hf675
    exact OpX.val (Value.pointer (some (elA u653 (y).toNat))) wd664 rfl (op_idx sl_22 (Ty.lift _ (Ext.trans hE7 hS668.ext) hr655) e672 e676 ha679 hb680) (Ext.refl _) rfl
  · refine ObX.op rfl ?_
    intro f682 wd683 he684 hout685 hphi686
    have hS687 : St wd2 wd683 [] := St.extend hS15 he684
    obtain ⟨S688, hS689, hf690⟩ := hphi686 53 73 _ rfl rfl rfl
    have e691 : f682 73 = (Value.pointer (some (elA u653 (y).toNat))) := hf690
    exact OpX.val (Value.int .i64 x678) wd683 rfl (op_load one_2 e691 (Ext.cell (Ext.trans hE7 hS687.ext) hc693)) (Ext.refl _) ⟨rfl, hr694⟩
  · refine ObX.op rfl ?_
    intro f695 wd696 he697 hout698 hphi699
    have hS700 : St wd2 wd696 [] := St.extend hS15 he697
    obtain ⟨S701, hS702, hf703⟩ := hphi699 47 67 _ rfl rfl rfl
    obtain ⟨e704, hr705⟩ : f695 67 = (Value.int .i64 (w64 ((w64 ((w64 ((w64 (x123 + x208)) + x348)) - x445)) - x581))) ∧ InR .i64 (w64 ((w64 ((w64 ((w64 (x123 + x208)) + x348)) - x445)) - x581)) := hf703
    obtain ⟨S706, hS707, hf708⟩ := hphi699 54 74 _ rfl rfl rfl
    obtain ⟨e709, hr710⟩ : f695 74 = (Value.int .i64 x678) ∧ InR .i64 x678 := hf708
    exact OpX.val (Value.int .i64 (w64 ((w64 ((w64 ((w64 ((w64 (x123 + x208)) + x348)) - x445)) - x581)) - x678))) wd696 rfl (op_sub e704 e709) (Ext.refl _) ⟨rfl, (inR_wrap _ _)⟩
  · refine ObX.op rfl ?_
    intro f711 wd712 he713 hout714 hphi715
    have hS716 : St wd2 wd712 [] := St.extend hS15 he713
    have e717 : f711 5 = (Value.pointer (some ⟨b1, 0, none⟩)) := (hout714 5 rfl).trans rfl
    exact OpX.val (Value.pointer (some ⟨b1, 1, none⟩)) wd712 rfl (op_fieldAddr fd_30_1 e717) (Ext.refl _) rfl
  · refine ObX.op rfl ?_
    intro f718 wd719 he720 hout721 hphi722
    have hS723 : St wd2 wd719 [] := St.extend hS15 he720
    obtain ⟨S724, hS725, hf726⟩ := hphi722 56 76 _ rfl rfl rfl
    have e727 : f718 76 = (Value.pointer (some ⟨b1, 1, none⟩)) := hf726
    exact OpX.val (Value.int .i64 w_Modulus) wd719 rfl (op_load one_2 e727 (BoxAt.cell (BoxAt.lift hS723.ext hx6) rfl)) (Ext.refl _) ⟨rfl, r_w_Modulus⟩
  · intro f728 wd729 Ss730 he731 hout732 hSn733 hSd734 hphi735
    show WL _ _ _ _ _ _ _
    have hS736 : St wd2 wd729 [] := St.extend hS15 he731
    obtain ⟨e737, hr738⟩ : f728 75 = (Value.int .i64 (w64 ((w64 ((w64 ((w64 ((w64 (x123 + x208)) + x348)) - x445)) - x581)) - x678))) ∧ InR .i64 (w64 ((w64 ((w64 ((w64 ((w64 (x123 + x208)) + x348)) - x445)) - x581)) - x678)) := hphi735 55 75 _ (by decide) rfl rfl
    obtain ⟨e739, hr740⟩ : f728 77 = (Value.int .i64 w_Modulus) ∧ InR .i64 w_Modulus := hphi735 57 77 _ (by decide) rfl rfl
    obtain ⟨x741, hz742, h⟩ := bs h
    obtain ⟨h0743, hz742⟩ := remI_some hz742
    have hr744 : InR .i64 x741 := by rw [hz742]; exact inR_tmod hr738
    refine WL.val (Value.int .i64 x741) _ (by rw [hz742]; exact op_rem e737 e739 h0743) rfl ?_
    refine WL.val (Value.bool (x741 == (0 : Int))) _ (op_eql rfl rfl) rfl ?_
    refine WL.val (Value.bool (x741 == (0 : Int))) _ (op_assign rfl) rfl ?_
    refine WL.nil ?_
    show W _ _ _ _ _ _
    refine W.ret ?_
    obtain rfl := Option.some.inj h
    show FinP _ _ _ _ _ _ _
    exact FinP.ret _ (res1 rfl rfl) ⟨rfl, (Ext.trans hE7 hS736.ext)⟩

theorem c_spec_l18Two {w : World} {w_Orders : (List Int)} {v_w_Orders : Value} {w_Modulus : Int} {w_Values : (List (List (List Int)))} {v_w_Values : Value} {c : (List (List Int))} {v_c : Value} {x : Int} {y : Int} {z : Int} (r_w_Orders : (Ty.sl (Ty.i .i64)).rep w v_w_Orders w_Orders) (r_w_Modulus : InR .i64 w_Modulus) (r_w_Values : (Ty.sl (Ty.sl (Ty.sl (Ty.i .i64)))).rep w v_w_Values w_Values) (r_c : (Ty.sl (Ty.sl (Ty.i .i64))).rep w v_c c) (r_x : InR .i64 x) (r_y : InR .i64 y) (r_z : InR .i64 z) {res : Bool} (h : p_spec_l18Two w_Orders w_Modulus w_Values c x y z  = some res) :
    Ret Try.prog 96 #[(Value.agg #[v_w_Orders, (Value.int .i64 w_Modulus), v_w_Values]), v_c, (Value.int .i64 x), (Value.int .i64 y), (Value.int .i64 z)] w (fun v w' => v = Value.bool res ∧ Ext w w') := by
  unfold p_spec_l18Two at h
  have hS0 : St w w [] := St.start w
  refine Ret.start (fn := Try.f96) Try.func96 rfl 80 rfl rfl ?_
  refine W.seq (W.region ?_)
  refine WL.box hS0 rfl (cs := [v_w_Orders, (Value.int .i64 w_Modulus), v_w_Values]) rfl rfl ?_
  intro b1 wd2 hS3 he4 hx5
  replace hS3 : St w wd2 [bx b1 [v_w_Orders, (Value.int .i64 w_Modulus), v_w_Values]] := hS3
  have hx6 := St.boxAt hS3 0 rfl
  have hE7 : Ext w wd2 := hS3.ext
  have hS8 : St wd2 wd2 [] := St.start wd2
  refine WL.val (Value.bool false) _ (op_assign rfl) rfl ?_
  refine WL.nil ?_
  show W _ _ _ _ _ _
  refine W.seq (W.region ?_)
  refine WL.val (Value.pointer (some ⟨b1, 0, none⟩)) _ (op_fieldAddr fd_30_0 rfl) rfl ?_
  refine WL.val v_w_Orders _ (op_load one_22 rfl (BoxAt.cell (BoxAt.lift hS8.ext hx6) rfl)) rfl ?_
  refine WL.val (Value.int .i64 x) _ (op_move rfl) rfl ?_
  refine WL.val (Value.int .i64 y) _ (op_move rfl) rfl ?_
  obtain ⟨x9, hx10, h⟩ := bs h
  refine WL.call _ (op_call fn_99 (args3 rfl rfl rfl)) (c_spec_l06Add (Ty.lift _ (Ext.trans hE7 hS8.ext) r_w_Orders) r_x r_y hx10) rfl ?_
  rintro _ wd12 ⟨rfl, hr11, he13⟩
  have hS15 := St.extend hS8 he13
  replace hS15 : St wd2 wd12 [] := hS15
  refine WL.val (Value.int .i64 x9) _ (op_assign rfl) rfl ?_
  refine WL.nil ?_
  show W _ _ _ _ _ _
  refine W.seq (W.region ?_)
  refine WL.val (Value.pointer (some ⟨b1, 2, none⟩)) _ (op_fieldAddr fd_30_2 rfl) rfl ?_
  refine WL.val v_w_Values _ (op_load one_23 rfl (BoxAt.cell (BoxAt.lift hS15.ext hx6) rfl)) rfl ?_
  refine WL.val v_w_Values _ (op_assign rfl) rfl ?_
  refine WL.nil ?_
  show W _ _ _ _ _ _
  refine W.seq ?_
  obtain ⟨x45, hx48, h⟩ := bs h
  obtain ⟨ha46, hb47, hx48⟩ := idx_some hx48
  obtain ⟨u59, hc60, hr61⟩ := repSl.el r_c hx48
  obtain ⟨x84, hx87, h⟩ := bs h
  obtain ⟨ha85, hb86, hx87⟩ := idx_some hx87
  obtain ⟨u98, hc99, hr100⟩ := repSl.el hr61 hx87
  obtain ⟨rfl, hr100⟩ := hr100
  obtain ⟨x130, hx133, h⟩ := bs h
  obtain ⟨ha131, hb132, hx133⟩ := idx_some hx133
  obtain ⟨u144, hc145, hr146⟩ := repSl.el r_w_Values hx133
  obtain ⟨x169, hx172, h⟩ := bs h
  obtain ⟨ha170, hb171, hx172⟩ := idx_some hx172
  obtain ⟨u183, hc184, hr185⟩ := repSl.el hr146 hx172
  obtain ⟨x208, hx211, h⟩ := bs h
  obtain ⟨ha209, hb210, hx211⟩ := idx_some hx211
  obtain ⟨u222, hc223, hr224⟩ := repSl.el hr185 hx211
  obtain ⟨rfl, hr224⟩ := hr224
  obtain ⟨x270, hx273, h⟩ := bs h
  obtain ⟨ha271, hb272, hx273⟩ := idx_some hx273
  obtain ⟨u284, hc285, hr286⟩ := repSl.el r_w_Values hx273
  obtain ⟨x309, hx312, h⟩ := bs h
  obtain ⟨ha310, hb311, hx312⟩ := idx_some hx312
  obtain ⟨u323, hc324, hr325⟩ := repSl.el hr286 hx312
  obtain ⟨x348, hx351, h⟩ := bs h
  obtain ⟨ha349, hb350, hx351⟩ := idx_some hx351
  obtain ⟨u362, hc363, hr364⟩ := repSl.el hr325 hx351
  obtain ⟨rfl, hr364⟩ := hr364
  obtain ⟨x410, hx413, h⟩ := bs h
  obtain ⟨ha411, hb412, hx413⟩ := idx_some hx413
  obtain ⟨u424, hc425, hr426⟩ := repSl.el r_c hx413
  obtain ⟨x449, hx452, h⟩ := bs h
  obtain ⟨ha450, hb451, hx452⟩ := idx_some hx452
  obtain ⟨u463, hc464, hr465⟩ := repSl.el hr426 hx452
  obtain ⟨rfl, hr465⟩ := hr465
  obtain ⟨x511, hx514, h⟩ := bs h
  obtain ⟨ha512, hb513, hx514⟩ := idx_some hx514
  obtain ⟨u525, hc526, hr527⟩ := repSl.el r_c hx514
  obtain ⟨x550, hx553, h⟩ := bs h
  obtain ⟨ha551, hb552, hx553⟩ := idx_some hx553
  obtain ⟨u564, hc565, hr566⟩ := repSl.el hr527 hx553
  obtain ⟨rfl, hr566⟩ := hr566
  obtain ⟨u622, hc623, hr624⟩ := repSl.el r_w_Values hx273
  obtain ⟨x647, hx650, h⟩ := bs h
  obtain ⟨ha648, hb649, hx650⟩ := idx_some hx650
  obtain ⟨u661, hc662, hr663⟩ := repSl.el hr624 hx650
  obtain ⟨x686, hx689, h⟩ := bs h
  obtain ⟨ha687, hb688, hx689⟩ := idx_some hx689
  obtain ⟨u700, hc701, hr702⟩ := repSl.el hr663 hx689
  obtain ⟨rfl, hr702⟩ := hr702
  refine W.drawR mixo 58 [] [fun _ v _ _ => v = v_c, fun _ v _ _ => v = (Value.int .i64 x9) ∧ InR .i64 x9, fun _ v _ _ => v = (Value.pointer (some (elA v_c (x9).toNat))), fun _ v _ _ => v = u59, fun _ v _ _ => v = (Value.int .i64 z) ∧ InR .i64 z, fun _ v _ _ => v = (Value.pointer (some (elA u59 (z).toNat))), fun _ v _ _ => v = (Value.int .i64 x84) ∧ InR .i64 x84, fun _ v _ _ => v = v_w_Values, fun _ v _ _ => v = (Value.int .i64 z) ∧ InR .i64 z, fun _ v _ _ => v = (Value.pointer (some (elA v_w_Values (z).toNat))), fun _ v _ _ => v = u144, fun _ v _ _ => v = (Value.int .i64 x) ∧ InR .i64 x, fun _ v _ _ => v = (Value.pointer (some (elA u144 (x).toNat))), fun _ v _ _ => v = u183, fun _ v _ _ => v = (Value.int .i64 y) ∧ InR .i64 y, fun _ v _ _ => v = (Value.pointer (some (elA u183 (y).toNat))), fun _ v _ _ => v = (Value.int .i64 x208) ∧ InR .i64 x208, fun _ v _ _ => v = (Value.int .i64 (w64 (x84 - x208))) ∧ InR .i64 (w64 (x84 - x208)), fun _ v _ _ => v = v_w_Values, fun _ v _ _ => v = (Value.int .i64 x) ∧ InR .i64 x, fun _ v _ _ => v = (Value.pointer (some (elA v_w_Values (x).toNat))), fun _ v _ _ => v = u284, fun _ v _ _ => v = (Value.int .i64 y) ∧ InR .i64 y, fun _ v _ _ => v = (Value.pointer (some (elA u284 (y).toNat))), fun _ v _ _ => v = u323, fun _ v _ _ => v = (Value.int .i64 z) ∧ InR .i64 z, fun _ v _ _ => v = (Value.pointer (some (elA u323 (z).toNat))), fun _ v _ _ => v = (Value.int .i64 x348) ∧ InR .i64 x348, fun _ v _ _ => v = (Value.int .i64 (w64 ((w64 (x84 - x208)) - x348))) ∧ InR .i64 (w64 ((w64 (x84 - x208)) - x348)), fun _ v _ _ => v = v_c, fun _ v _ _ => v = (Value.int .i64 x) ∧ InR .i64 x, fun _ v _ _ => v = (Value.pointer (some (elA v_c (x).toNat))), fun _ v _ _ => v = u424, fun _ v _ _ => v = (Value.int .i64 z) ∧ InR .i64 z, fun _ v _ _ => v = (Value.pointer (some (elA u424 (z).toNat))), fun _ v _ _ => v = (Value.int .i64 x449) ∧ InR .i64 x449, fun _ v _ _ => v = (Value.int .i64 (w64 ((w64 ((w64 (x84 - x208)) - x348)) - x449))) ∧ InR .i64 (w64 ((w64 ((w64 (x84 - x208)) - x348)) - x449)), fun _ v _ _ => v = v_c, fun _ v _ _ => v = (Value.int .i64 y) ∧ InR .i64 y, fun _ v _ _ => v = (Value.pointer (some (elA v_c (y).toNat))), fun _ v _ _ => v = u525, fun _ v _ _ => v = (Value.int .i64 z) ∧ InR .i64 z, fun _ v _ _ => v = (Value.pointer (some (elA u525 (z).toNat))), fun _ v _ _ => v = (Value.int .i64 x550) ∧ InR .i64 x550, fun _ v _ _ => v = (Value.int .i64 (w64 ((w64 ((w64 ((w64 (x84 - x208)) - x348)) - x449)) - x550))) ∧ InR .i64 (w64 ((w64 ((w64 ((w64 (x84 - x208)) - x348)) - x449)) - x550)), fun _ v _ _ => v = v_w_Values, fun _ v _ _ => v = (Value.int .i64 x) ∧ InR .i64 x, fun _ v _ _ => v = (Value.pointer (some (elA v_w_Values (x).toNat))), fun _ v _ _ => v = u622, fun _ v _ _ => v = (Value.int .i64 z) ∧ InR .i64 z, fun _ v _ _ => v = (Value.pointer (some (elA u622 (z).toNat))), fun _ v _ _ => v = u661, fun _ v _ _ => v = (Value.int .i64 y) ∧ InR .i64 y, fun _ v _ _ => v = (Value.pointer (some (elA u661 (y).toNat))), fun _ v _ _ => v = (Value.int .i64 x686) ∧ InR .i64 x686, fun _ v _ _ => v = (Value.int .i64 (w64 ((w64 ((w64 ((w64 ((w64 (x84 - x208)) - x348)) - x449)) - x550)) + x686))) ∧ InR .i64 (w64 ((w64 ((w64 ((w64 ((w64 (x84 - x208)) - x348)) - x449)) - x550)) + x686)), fun _ v _ _ => v = (Value.pointer (some ⟨b1, 1, none⟩)), fun _ v _ _ => v = (Value.int .i64 w_Modulus) ∧ InR .i64 w_Modulus] (by kernel_rfl) (by kernel_rfl) ⟨⟨fun _ _ _ _ _ _ h => h, fun _ _ _ _ _ _ h => h⟩, ⟨fun _ _ _ _ _ _ h => h, fun _ _ _ _ _ _ h => h⟩, ⟨fun _ _ _ _ _ _ h => h, fun _ _ _ _ _ _ h => h⟩, ⟨fun _ _ _ _ _ _ h => h, fun _ _ _ _ _ _ h => h⟩, ⟨fun _ _ _ _ _ _ h => h, fun _ _ _ _ _ _ h => h⟩, ⟨fun _ _ _ _ _ _ h => h, fun _ _ _ _ _ _ h => h⟩, ⟨fun _ _ _ _ _ _ h => h, fun _ _ _ _ _ _ h => h⟩, ⟨fun _ _ _ _ _ _ h => h, fun _ _ _ _ _ _ h => h⟩, ⟨fun _ _ _ _ _ _ h => h, fun _ _ _ _ _ _ h => h⟩, ⟨fun _ _ _ _ _ _ h => h, fun _ _ _ _ _ _ h => h⟩, ⟨fun _ _ _ _ _ _ h => h, fun _ _ _ _ _ _ h => h⟩, ⟨fun _ _ _ _ _ _ h => h, fun _ _ _ _ _ _ h => h⟩, ⟨fun _ _ _ _ _ _ h => h, fun _ _ _ _ _ _ h => h⟩, ⟨fun _ _ _ _ _ _ h => h, fun _ _ _ _ _ _ h => h⟩, ⟨fun _ _ _ _ _ _ h => h, fun _ _ _ _ _ _ h => h⟩, ⟨fun _ _ _ _ _ _ h => h, fun _ _ _ _ _ _ h => h⟩, ⟨fun _ _ _ _ _ _ h => h, fun _ _ _ _ _ _ h => h⟩, ⟨fun _ _ _ _ _ _ h => h, fun _ _ _ _ _ _ h => h⟩, ⟨fun _ _ _ _ _ _ h => h, fun _ _ _ _ _ _ h => h⟩, ⟨fun _ _ _ _ _ _ h => h, fun _ _ _ _ _ _ h => h⟩, ⟨fun _ _ _ _ _ _ h => h, fun _ _ _ _ _ _ h => h⟩, ⟨fun _ _ _ _ _ _ h => h, fun _ _ _ _ _ _ h => h⟩, ⟨fun _ _ _ _ _ _ h => h, fun _ _ _ _ _ _ h => h⟩, ⟨fun _ _ _ _ _ _ h => h, fun _ _ _ _ _ _ h => h⟩, ⟨fun _ _ _ _ _ _ h => h, fun _ _ _ _ _ _ h => h⟩, ⟨fun _ _ _ _ _ _ h => h, fun _ _ _ _ _ _ h => h⟩, ⟨fun _ _ _ _ _ _ h => h, fun _ _ _ _ _ _ h => h⟩, ⟨fun _ _ _ _ _ _ h => h, fun _ _ _ _ _ _ h => h⟩, ⟨fun _ _ _ _ _ _ h => h, fun _ _ _ _ _ _ h => h⟩, ⟨fun _ _ _ _ _ _ h => h, fun _ _ _ _ _ _ h => h⟩, ⟨fun _ _ _ _ _ _ h => h, fun _ _ _ _ _ _ h => h⟩, ⟨fun _ _ _ _ _ _ h => h, fun _ _ _ _ _ _ h => h⟩, ⟨fun _ _ _ _ _ _ h => h, fun _ _ _ _ _ _ h => h⟩, ⟨fun _ _ _ _ _ _ h => h, fun _ _ _ _ _ _ h => h⟩, ⟨fun _ _ _ _ _ _ h => h, fun _ _ _ _ _ _ h => h⟩, ⟨fun _ _ _ _ _ _ h => h, fun _ _ _ _ _ _ h => h⟩, ⟨fun _ _ _ _ _ _ h => h, fun _ _ _ _ _ _ h => h⟩, ⟨fun _ _ _ _ _ _ h => h, fun _ _ _ _ _ _ h => h⟩, ⟨fun _ _ _ _ _ _ h => h, fun _ _ _ _ _ _ h => h⟩, ⟨fun _ _ _ _ _ _ h => h, fun _ _ _ _ _ _ h => h⟩, ⟨fun _ _ _ _ _ _ h => h, fun _ _ _ _ _ _ h => h⟩, ⟨fun _ _ _ _ _ _ h => h, fun _ _ _ _ _ _ h => h⟩, ⟨fun _ _ _ _ _ _ h => h, fun _ _ _ _ _ _ h => h⟩, ⟨fun _ _ _ _ _ _ h => h, fun _ _ _ _ _ _ h => h⟩, ⟨fun _ _ _ _ _ _ h => h, fun _ _ _ _ _ _ h => h⟩, ⟨fun _ _ _ _ _ _ h => h, fun _ _ _ _ _ _ h => h⟩, ⟨fun _ _ _ _ _ _ h => h, fun _ _ _ _ _ _ h => h⟩, ⟨fun _ _ _ _ _ _ h => h, fun _ _ _ _ _ _ h => h⟩, ⟨fun _ _ _ _ _ _ h => h, fun _ _ _ _ _ _ h => h⟩, ⟨fun _ _ _ _ _ _ h => h, fun _ _ _ _ _ _ h => h⟩, ⟨fun _ _ _ _ _ _ h => h, fun _ _ _ _ _ _ h => h⟩, ⟨fun _ _ _ _ _ _ h => h, fun _ _ _ _ _ _ h => h⟩, ⟨fun _ _ _ _ _ _ h => h, fun _ _ _ _ _ _ h => h⟩, ⟨fun _ _ _ _ _ _ h => h, fun _ _ _ _ _ _ h => h⟩, ⟨fun _ _ _ _ _ _ h => h, fun _ _ _ _ _ _ h => h⟩, ⟨fun _ _ _ _ _ _ h => h, fun _ _ _ _ _ _ h => h⟩, ⟨fun _ _ _ _ _ _ h => h, fun _ _ _ _ _ _ h => h⟩, ⟨fun _ _ _ _ _ _ h => h, fun _ _ _ _ _ _ h => h⟩, trivial⟩ ⟨?_, ?_, ?_, ?_, ?_, ?_, ?_, ?_, ?_, ?_, ?_, ?_, ?_, ?_, ?_, ?_, ?_, ?_, ?_, ?_, ?_, ?_, ?_, ?_, ?_, ?_, ?_, ?_, ?_, ?_, ?_, ?_, ?_, ?_, ?_, ?_, ?_, ?_, ?_, ?_, ?_, ?_, ?_, ?_, ?_, ?_, ?_, ?_, ?_, ?_, ?_, ?_, ?_, ?_, ?_, ?_, ?_, ?_, trivial⟩ ?_
  · refine ObX.op rfl ?_
    intro f16 wd17 he18 hout19 hphi20
    have hS21 : St wd2 wd17 [] := St.extend hS15 he18
    have e22 : f16 1 = v_c := (hout19 1 rfl).trans rfl
    exact OpX.val v_c wd17 rfl (op_move e22) (Ext.refl _) rfl
  · refine ObX.op rfl ?_
    intro f23 wd24 he25 hout26 hphi27
    have hS28 : St wd2 wd24 [] := St.extend hS15 he25
    have e29 : f23 11 = (Value.int .i64 x9) := (hout26 11 rfl).trans rfl
    exact OpX.val (Value.int .i64 x9) wd24 rfl (op_move e29) (Ext.refl _) ⟨rfl, hr11⟩
  · refine ObX.op rfl ?_
    intro f30 wd31 he32 hout33 hphi34
    have hS35 : St wd2 wd31 [] := St.extend hS15 he32
    obtain ⟨S36, hS37, hf38⟩ := hphi34 0 20 _ rfl rfl rfl
    have e39 : f30 20 = v_c := hf38
    obtain ⟨S40, hS41, hf42⟩ := hphi34 1 21 _ rfl rfl rfl
    obtain ⟨e43, hr44⟩ : f30 21 = (Value.int .i64 x9) ∧ InR .i64 x9 := hf42
    exact OpX.val (Value.pointer (some (elA v_c (x9).toNat))) wd31 rfl (op_idx sl_27 (Ty.lift _ (Ext.trans hE7 hS35.ext) r_c) e39 e43 ha46 hb47) (Ext.refl _) rfl
  · refine ObX.op rfl ?_
    intro f49 wd50 he51 hout52 hphi53
    have hS54 : St wd2 wd50 [] := St.extend hS15 he51
    obtain ⟨S55, hS56, hf57⟩ := hphi53 2 22 _ rfl rfl rfl
    have e58 : f49 22 = (Value.pointer (some (elA v_c (x9).toNat))) := hf57
    exact OpX.val u59 wd50 rfl (op_load one_22 e58 (Ext.cell (Ext.trans hE7 hS54.ext) hc60)) (Ext.refl _) rfl
  · refine ObX.op rfl ?_
    intro f62 wd63 he64 hout65 hphi66
    have hS67 : St wd2 wd63 [] := St.extend hS15 he64
    have e68 : f62 4 = (Value.int .i64 z) := (hout65 4 rfl).trans rfl
    exact OpX.val (Value.int .i64 z) wd63 rfl (op_move e68) (Ext.refl _) ⟨rfl, r_z⟩
  · refine ObX.op rfl ?_
    intro f69 wd70 he71 hout72 hphi73
    have hS74 : St wd2 wd70 [] := St.extend hS15 he71
    obtain ⟨S75, hS76, hf77⟩ := hphi73 3 23 _ rfl rfl rfl
    have e78 : f69 23 = u59 := hf77
    obtain ⟨S79, hS80, hf81⟩ := hphi73 4 24 _ rfl rfl rfl
    obtain ⟨e82, hr83⟩ : f69 24 = (Value.int .i64 z) ∧ InR .i64 z := hf81
    exact OpX.val (Value.pointer (some (elA u59 (z).toNat))) wd70 rfl (op_idx sl_22 (Ty.lift _ (Ext.trans hE7 hS74.ext) hr61) e78 e82 ha85 hb86) (Ext.refl _) rfl
  · refine ObX.op rfl ?_
    intro f88 wd89 he90 hout91 hphi92
    have hS93 : St wd2 wd89 [] := St.extend hS15 he90
    obtain ⟨S94, hS95, hf96⟩ := hphi92 5 25 _ rfl rfl rfl
    have e97 : f88 25 = (Value.pointer (some (elA u59 (z).toNat))) := hf96
    exact OpX.val (Value.int .i64 x84) wd89 rfl (op_load one_2 e97 (Ext.cell (Ext.trans hE7 hS93.ext) hc99)) (Ext.refl _) ⟨rfl, hr100⟩
  · refine ObX.op rfl ?_
    intro f101 wd102 he103 hout104 hphi105
    have hS106 : St wd2 wd102 [] := St.extend hS15 he103
    have e107 : f101 12 = v_w_Values := (hout104 12 rfl).trans rfl
    exact OpX.val v_w_Values wd102 rfl (op_move e107) (Ext.refl _) rfl
  · refine ObX.op rfl ?_
    intro f108 wd109 he110 hout111 hphi112
    have hS113 : St wd2 wd109 [] := St.extend hS15 he110
    have e114 : f108 4 = (Value.int .i64 z) := (hout111 4 rfl).trans rfl
    exact OpX.val (Value.int .i64 z) wd109 rfl (op_move e114) (Ext.refl _) ⟨rfl, r_z⟩
  · refine ObX.op rfl ?_
    intro f115 wd116 he117 hout118 hphi119
    have hS120 : St wd2 wd116 [] := St.extend hS15 he117
    obtain ⟨S121, hS122, hf123⟩ := hphi119 7 27 _ rfl rfl rfl
    have e124 : f115 27 = v_w_Values := hf123
    obtain ⟨S125, hS126, hf127⟩ := hphi119 8 28 _ rfl rfl rfl
    obtain ⟨e128, hr129⟩ : f115 28 = (Value.int .i64 z) ∧ InR .i64 z := hf127
    exact OpX.val (Value.pointer (some (elA v_w_Values (z).toNat))) wd116 rfl (op_idx sl_23 (Ty.lift _ (Ext.trans hE7 hS120.ext) r_w_Values) e124 e128 ha131 hb132) (Ext.refl _) rfl
  · refine ObX.op rfl ?_
    intro f134 wd135 he136 hout137 hphi138
    have hS139 : St wd2 wd135 [] := St.extend hS15 he136
    obtain ⟨S140, hS141, hf142⟩ := hphi138 9 29 _ rfl rfl rfl
    have e143 : f134 29 = (Value.pointer (some (elA v_w_Values (z).toNat))) := hf142
    exact OpX.val u144 wd135 rfl (op_load one_27 e143 (Ext.cell (Ext.trans hE7 hS139.ext) hc145)) (Ext.refl _) rfl
  · refine ObX.op rfl ?_
    intro f147 wd148 he149 hout150 hphi151
    have hS152 : St wd2 wd148 [] := St.extend hS15 he149
    have e153 : f147 2 = (Value.int .i64 x) := (hout150 2 rfl).trans rfl
    exact OpX.val (Value.int .i64 x) wd148 rfl (op_move e153) (Ext.refl _) ⟨rfl, r_x⟩
  · refine ObX.op rfl ?_
    intro f154 wd155 he156 hout157 hphi158
    have hS159 : St wd2 wd155 [] := St.extend hS15 he156
    obtain ⟨S160, hS161, hf162⟩ := hphi158 10 30 _ rfl rfl rfl
    have e163 : f154 30 = u144 := hf162
    obtain ⟨S164, hS165, hf166⟩ := hphi158 11 31 _ rfl rfl rfl
    obtain ⟨e167, hr168⟩ : f154 31 = (Value.int .i64 x) ∧ InR .i64 x := hf166
    exact OpX.val (Value.pointer (some (elA u144 (x).toNat))) wd155 rfl (op_idx sl_27 (Ty.lift _ (Ext.trans hE7 hS159.ext) hr146) e163 e167 ha170 hb171) (Ext.refl _) rfl
  · refine ObX.op rfl ?_
    intro f173 wd174 he175 hout176 hphi177
    have hS178 : St wd2 wd174 [] := St.extend hS15 he175
    obtain ⟨S179, hS180, hf181⟩ := hphi177 12 32 _ rfl rfl rfl
    have e182 : f173 32 = (Value.pointer (some (elA u144 (x).toNat))) := hf181
    exact OpX.val u183 wd174 rfl (op_load one_22 e182 (Ext.cell (Ext.trans hE7 hS178.ext) hc184)) (Ext.refl _) rfl
  · refine ObX.op rfl ?_
    intro f186 wd187 he188 hout189 hphi190
    have hS191 : St wd2 wd187 [] := St.extend hS15 he188
    have e192 : f186 3 = (Value.int .i64 y) := (hout189 3 rfl).trans rfl
    exact OpX.val (Value.int .i64 y) wd187 rfl (op_move e192) (Ext.refl _) ⟨rfl, r_y⟩
  · refine ObX.op rfl ?_
    intro f193 wd194 he195 hout196 hphi197
    have hS198 : St wd2 wd194 [] := St.extend hS15 he195
    obtain ⟨S199, hS200, hf201⟩ := hphi197 13 33 _ rfl rfl rfl
    have e202 : f193 33 = u183 := hf201
    obtain ⟨S203, hS204, hf205⟩ := hphi197 14 34 _ rfl rfl rfl
    obtain ⟨e206, hr207⟩ : f193 34 = (Value.int .i64 y) ∧ InR .i64 y := hf205
    exact OpX.val (Value.pointer (some (elA u183 (y).toNat))) wd194 rfl (op_idx sl_22 (Ty.lift _ (Ext.trans hE7 hS198.ext) hr185) e202 e206 ha209 hb210) (Ext.refl _) rfl
  · refine ObX.op rfl ?_
    intro f212 wd213 he214 hout215 hphi216
    have hS217 : St wd2 wd213 [] := St.extend hS15 he214
    obtain ⟨S218, hS219, hf220⟩ := hphi216 15 35 _ rfl rfl rfl
    have e221 : f212 35 = (Value.pointer (some (elA u183 (y).toNat))) := hf220
    exact OpX.val (Value.int .i64 x208) wd213 rfl (op_load one_2 e221 (Ext.cell (Ext.trans hE7 hS217.ext) hc223)) (Ext.refl _) ⟨rfl, hr224⟩
  · refine ObX.op rfl ?_
    intro f225 wd226 he227 hout228 hphi229
    have hS230 : St wd2 wd226 [] := St.extend hS15 he227
    obtain ⟨S231, hS232, hf233⟩ := hphi229 6 26 _ rfl rfl rfl
    obtain ⟨e234, hr235⟩ : f225 26 = (Value.int .i64 x84) ∧ InR .i64 x84 := hf233
    obtain ⟨S236, hS237, hf238⟩ := hphi229 16 36 _ rfl rfl rfl
    obtain ⟨e239, hr240⟩ : f225 36 = (Value.int .i64 x208) ∧ InR .i64 x208 := hf238
    exact OpX.val (Value.int .i64 (w64 (x84 - x208))) wd226 rfl (op_sub e234 e239) (Ext.refl _) ⟨rfl, (inR_wrap _ _)⟩
  · refine ObX.op rfl ?_
    intro f241 wd242 he243 hout244 hphi245
    have hS246 : St wd2 wd242 [] := St.extend hS15 he243
    have e247 : f241 12 = v_w_Values := (hout244 12 rfl).trans rfl
    exact OpX.val v_w_Values wd242 rfl (op_move e247) (Ext.refl _) rfl
  · refine ObX.op rfl ?_
    intro f248 wd249 he250 hout251 hphi252
    have hS253 : St wd2 wd249 [] := St.extend hS15 he250
    have e254 : f248 2 = (Value.int .i64 x) := (hout251 2 rfl).trans rfl
    exact OpX.val (Value.int .i64 x) wd249 rfl (op_move e254) (Ext.refl _) ⟨rfl, r_x⟩
  · refine ObX.op rfl ?_
    intro f255 wd256 he257 hout258 hphi259
    have hS260 : St wd2 wd256 [] := St.extend hS15 he257
    obtain ⟨S261, hS262, hf263⟩ := hphi259 18 38 _ rfl rfl rfl
    have e264 : f255 38 = v_w_Values := hf263
    obtain ⟨S265, hS266, hf267⟩ := hphi259 19 39 _ rfl rfl rfl
    obtain ⟨e268, hr269⟩ : f255 39 = (Value.int .i64 x) ∧ InR .i64 x := hf267
    exact OpX.val (Value.pointer (some (elA v_w_Values (x).toNat))) wd256 rfl (op_idx sl_23 (Ty.lift _ (Ext.trans hE7 hS260.ext) r_w_Values) e264 e268 ha271 hb272) (Ext.refl _) rfl
  · refine ObX.op rfl ?_
    intro f274 wd275 he276 hout277 hphi278
    have hS279 : St wd2 wd275 [] := St.extend hS15 he276
    obtain ⟨S280, hS281, hf282⟩ := hphi278 20 40 _ rfl rfl rfl
    have e283 : f274 40 = (Value.pointer (some (elA v_w_Values (x).toNat))) := hf282
    exact OpX.val u284 wd275 rfl (op_load one_27 e283 (Ext.cell (Ext.trans hE7 hS279.ext) hc285)) (Ext.refl _) rfl
  · refine ObX.op rfl ?_
    intro f287 wd288 he289 hout290 hphi291
    have hS292 : St wd2 wd288 [] := St.extend hS15 he289
    have e293 : f287 3 = (Value.int .i64 y) := (hout290 3 rfl).trans rfl
    exact OpX.val (Value.int .i64 y) wd288 rfl (op_move e293) (Ext.refl _) ⟨rfl, r_y⟩
  · refine ObX.op rfl ?_
    intro f294 wd295 he296 hout297 hphi298
    have hS299 : St wd2 wd295 [] := St.extend hS15 he296
    obtain ⟨S300, hS301, hf302⟩ := hphi298 21 41 _ rfl rfl rfl
    have e303 : f294 41 = u284 := hf302
    obtain ⟨S304, hS305, hf306⟩ := hphi298 22 42 _ rfl rfl rfl
    obtain ⟨e307, hr308⟩ : f294 42 = (Value.int .i64 y) ∧ InR .i64 y := hf306
    exact OpX.val (Value.pointer (some (elA u284 (y).toNat))) wd295 rfl (op_idx sl_27 (Ty.lift _ (Ext.trans hE7 hS299.ext) hr286) e303 e307 ha310 hb311) (Ext.refl _) rfl
  · refine ObX.op rfl ?_
    intro f313 wd314 he315 hout316 hphi317
    have hS318 : St wd2 wd314 [] := St.extend hS15 he315
    obtain ⟨S319, hS320, hf321⟩ := hphi317 23 43 _ rfl rfl rfl
    have e322 : f313 43 = (Value.pointer (some (elA u284 (y).toNat))) := hf321
    exact OpX.val u323 wd314 rfl (op_load one_22 e322 (Ext.cell (Ext.trans hE7 hS318.ext) hc324)) (Ext.refl _) rfl
  · refine ObX.op rfl ?_
    intro f326 wd327 he328 hout329 hphi330
    have hS331 : St wd2 wd327 [] := St.extend hS15 he328
    have e332 : f326 4 = (Value.int .i64 z) := (hout329 4 rfl).trans rfl
    exact OpX.val (Value.int .i64 z) wd327 rfl (op_move e332) (Ext.refl _) ⟨rfl, r_z⟩
  · refine ObX.op rfl ?_
    intro f333 wd334 he335 hout336 hphi337
    have hS338 : St wd2 wd334 [] := St.extend hS15 he335
    obtain ⟨S339, hS340, hf341⟩ := hphi337 24 44 _ rfl rfl rfl
    have e342 : f333 44 = u323 := hf341
    obtain ⟨S343, hS344, hf345⟩ := hphi337 25 45 _ rfl rfl rfl
    obtain ⟨e346, hr347⟩ : f333 45 = (Value.int .i64 z) ∧ InR .i64 z := hf345
    exact OpX.val (Value.pointer (some (elA u323 (z).toNat))) wd334 rfl (op_idx sl_22 (Ty.lift _ (Ext.trans hE7 hS338.ext) hr325) e342 e346 ha349 hb350) (Ext.refl _) rfl
  · refine ObX.op rfl ?_
    intro f352 wd353 he354 hout355 hphi356
    have hS357 : St wd2 wd353 [] := St.extend hS15 he354
    obtain ⟨S358, hS359, hf360⟩ := hphi356 26 46 _ rfl rfl rfl
    have e361 : f352 46 = (Value.pointer (some (elA u323 (z).toNat))) := hf360
    exact OpX.val (Value.int .i64 x348) wd353 rfl (op_load one_2 e361 (Ext.cell (Ext.trans hE7 hS357.ext) hc363)) (Ext.refl _) ⟨rfl, hr364⟩
  · refine ObX.op rfl ?_
    intro f365 wd366 he367 hout368 hphi369
    have hS370 : St wd2 wd366 [] := St.extend hS15 he367
    obtain ⟨S371, hS372, hf373⟩ := hphi369 17 37 _ rfl rfl rfl
    obtain ⟨e374, hr375⟩ : f365 37 = (Value.int .i64 (w64 (x84 - x208))) ∧ InR .i64 (w64 (x84 - x208)) := hf373
    obtain ⟨S376, hS377, hf378⟩ := hphi369 27 47 _ rfl rfl rfl
    obtain ⟨e379, hr380⟩ : f365 47 = (Value.int .i64 x348) ∧ InR .i64 x348 := hf378
    exact OpX.val (Value.int .i64 (w64 ((w64 (x84 - x208)) - x348))) wd366 rfl (op_sub e374 e379) (Ext.refl _) ⟨rfl, (inR_wrap _ _)⟩
  · refine ObX.op rfl ?_
    intro f381 wd382 he383 hout384 hphi385
    have hS386 : St wd2 wd382 [] := St.extend hS15 he383
    have e387 : f381 1 = v_c := (hout384 1 rfl).trans rfl
    exact OpX.val v_c wd382 rfl (op_move e387) (Ext.refl _) rfl
  · refine ObX.op rfl ?_
    intro f388 wd389 he390 hout391 hphi392
    have hS393 : St wd2 wd389 [] := St.extend hS15 he390
    have e394 : f388 2 = (Value.int .i64 x) := (hout391 2 rfl).trans rfl
    exact OpX.val (Value.int .i64 x) wd389 rfl (op_move e394) (Ext.refl _) ⟨rfl, r_x⟩
  · refine ObX.op rfl ?_
    intro f395 wd396 he397 hout398 hphi399
    have hS400 : St wd2 wd396 [] := St.extend hS15 he397
    obtain ⟨S401, hS402, hf403⟩ := hphi399 29 49 _ rfl rfl rfl
    have e404 : f395 49 = v_c := hf403
    obtain ⟨S405, hS406, hf407⟩ := hphi399 30 50 _ rfl rfl rfl
    obtain ⟨e408, hr409⟩ : f395 50 = (Value.int .i64 x) ∧ InR .i64 x := hf407
    exact OpX.val (Value.pointer (some (elA v_c (x).toNat))) wd396 rfl (op_idx sl_27 (Ty.lift _ (Ext.trans hE7 hS400.ext) r_c) e404 e408 ha411 hb412) (Ext.refl _) rfl
  · refine ObX.op rfl ?_
    intro f414 wd415 he416 hout417 hphi418
    have hS419 : St wd2 wd415 [] := St.extend hS15 he416
    obtain ⟨S420, hS421, hf422⟩ := hphi418 31 51 _ rfl rfl rfl
    have e423 : f414 51 = (Value.pointer (some (elA v_c (x).toNat))) := hf422
    exact OpX.val u424 wd415 rfl (op_load one_22 e423 (Ext.cell (Ext.trans hE7 hS419.ext) hc425)) (Ext.refl _) rfl
  · refine ObX.op rfl ?_
    intro f427 wd428 he429 hout430 hphi431
    have hS432 : St wd2 wd428 [] := St.extend hS15 he429
    have e433 : f427 4 = (Value.int .i64 z) := (hout430 4 rfl).trans rfl
    exact OpX.val (Value.int .i64 z) wd428 rfl (op_move e433) (Ext.refl _) ⟨rfl, r_z⟩
  · refine ObX.op rfl ?_
    intro f434 wd435 he436 hout437 hphi438
    have hS439 : St wd2 wd435 [] := St.extend hS15 he436
    obtain ⟨S440, hS441, hf442⟩ := hphi438 32 52 _ rfl rfl rfl
    have e443 : f434 52 = u424 := hf442
    obtain ⟨S444, hS445, hf446⟩ := hphi438 33 53 _ rfl rfl rfl
    obtain ⟨e447, hr448⟩ : f434 53 = (Value.int .i64 z) ∧ InR .i64 z := hf446
    exact OpX.val (Value.pointer (some (elA u424 (z).toNat))) wd435 rfl (op_idx sl_22 (Ty.lift _ (Ext.trans hE7 hS439.ext) hr426) e443 e447 ha450 hb451) (Ext.refl _) rfl
  · refine ObX.op rfl ?_
    intro f453 wd454 he455 hout456 hphi457
    have hS458 : St wd2 wd454 [] := St.extend hS15 he455
    obtain ⟨S459, hS460, hf461⟩ := hphi457 34 54 _ rfl rfl rfl
    have e462 : f453 54 = (Value.pointer (some (elA u424 (z).toNat))) := hf461
    exact OpX.val (Value.int .i64 x449) wd454 rfl (op_load one_2 e462 (Ext.cell (Ext.trans hE7 hS458.ext) hc464)) (Ext.refl _) ⟨rfl, hr465⟩
  · refine ObX.op rfl ?_
    intro f466 wd467 he468 hout469 hphi470
    have hS471 : St wd2 wd467 [] := St.extend hS15 he468
    obtain ⟨S472, hS473, hf474⟩ := hphi470 28 48 _ rfl rfl rfl
    obtain ⟨e475, hr476⟩ : f466 48 = (Value.int .i64 (w64 ((w64 (x84 - x208)) - x348))) ∧ InR .i64 (w64 ((w64 (x84 - x208)) - x348)) := hf474
    obtain ⟨S477, hS478, hf479⟩ := hphi470 35 55 _ rfl rfl rfl
    obtain ⟨e480, hr481⟩ : f466 55 = (Value.int .i64 x449) ∧ InR .i64 x449 := hf479
    exact OpX.val (Value.int .i64 (w64 ((w64 ((w64 (x84 - x208)) - x348)) - x449))) wd467 rfl (op_sub e475 e480) (Ext.refl _) ⟨rfl, (inR_wrap _ _)⟩
  · refine ObX.op rfl ?_
    intro f482 wd483 he484 hout485 hphi486
    have hS487 : St wd2 wd483 [] := St.extend hS15 he484
    have e488 : f482 1 = v_c := (hout485 1 rfl).trans rfl
    exact OpX.val v_c wd483 rfl (op_move e488) (Ext.refl _) rfl
  · refine ObX.op rfl ?_
    intro f489 wd490 he491 hout492 hphi493
    have hS494 : St wd2 wd490 [] := St.extend hS15 he491
    have e495 : f489 3 = (Value.int .i64 y) := (hout492 3 rfl).trans rfl
    exact OpX.val (Value.int .i64 y) wd490 rfl (op_move e495) (Ext.refl _) ⟨rfl, r_y⟩
  · refine ObX.op rfl ?_
    intro f496 wd497 he498 hout499 hphi500
    have hS501 : St wd2 wd497 [] := St.extend hS15 he498
    obtain ⟨S502, hS503, hf504⟩ := hphi500 37 57 _ rfl rfl rfl
    have e505 : f496 57 = v_c := hf504
    obtain ⟨S506, hS507, hf508⟩ := hphi500 38 58 _ rfl rfl rfl
    obtain ⟨e509, hr510⟩ : f496 58 = (Value.int .i64 y) ∧ InR .i64 y := hf508
    exact OpX.val (Value.pointer (some (elA v_c (y).toNat))) wd497 rfl (op_idx sl_27 (Ty.lift _ (Ext.trans hE7 hS501.ext) r_c) e505 e509 ha512 hb513) (Ext.refl _) rfl
  · refine ObX.op rfl ?_
    intro f515 wd516 he517 hout518 hphi519
    have hS520 : St wd2 wd516 [] := St.extend hS15 he517
    obtain ⟨S521, hS522, hf523⟩ := hphi519 39 59 _ rfl rfl rfl
    have e524 : f515 59 = (Value.pointer (some (elA v_c (y).toNat))) := hf523
    exact OpX.val u525 wd516 rfl (op_load one_22 e524 (Ext.cell (Ext.trans hE7 hS520.ext) hc526)) (Ext.refl _) rfl
  · refine ObX.op rfl ?_
    intro f528 wd529 he530 hout531 hphi532
    have hS533 : St wd2 wd529 [] := St.extend hS15 he530
    have e534 : f528 4 = (Value.int .i64 z) := (hout531 4 rfl).trans rfl
    exact OpX.val (Value.int .i64 z) wd529 rfl (op_move e534) (Ext.refl _) ⟨rfl, r_z⟩
  · refine ObX.op rfl ?_
    intro f535 wd536 he537 hout538 hphi539
    have hS540 : St wd2 wd536 [] := St.extend hS15 he537
    obtain ⟨S541, hS542, hf543⟩ := hphi539 40 60 _ rfl rfl rfl
    have e544 : f535 60 = u525 := hf543
    obtain ⟨S545, hS546, hf547⟩ := hphi539 41 61 _ rfl rfl rfl
    obtain ⟨e548, hr549⟩ : f535 61 = (Value.int .i64 z) ∧ InR .i64 z := hf547
    exact OpX.val (Value.pointer (some (elA u525 (z).toNat))) wd536 rfl (op_idx sl_22 (Ty.lift _ (Ext.trans hE7 hS540.ext) hr527) e544 e548 ha551 hb552) (Ext.refl _) rfl
  · refine ObX.op rfl ?_
    intro f554 wd555 he556 hout557 hphi558
    have hS559 : St wd2 wd555 [] := St.extend hS15 he556
    obtain ⟨S560, hS561, hf562⟩ := hphi558 42 62 _ rfl rfl rfl
    have e563 : f554 62 = (Value.pointer (some (elA u525 (z).toNat))) := hf562
    exact OpX.val (Value.int .i64 x550) wd555 rfl (op_load one_2 e563 (Ext.cell (Ext.trans hE7 hS559.ext) hc565)) (Ext.refl _) ⟨rfl, hr566⟩
  · refine ObX.op rfl ?_
    intro f567 wd568 he569 hout570 hphi571
    have hS572 : St wd2 wd568 [] := St.extend hS15 he569
    obtain ⟨S573, hS574, hf575⟩ := hphi571 36 56 _ rfl rfl rfl
    obtain ⟨e576, hr577⟩ : f567 56 = (Value.int .i64 (w64 ((w64 ((w64 (x84 - x208)) - x348)) - x449))) ∧ InR .i64 (w64 ((w64 ((w64 (x84 - x208)) - x348)) - x449)) := hf575
    obtain ⟨S578, hS579, hf580⟩ := hphi571 43 63 _ rfl rfl rfl
    obtain ⟨e581, hr582⟩ : f567 63 = (Value.int .i64 x550) ∧ InR .i64 x550 := hf580
    exact OpX.val (Value.int .i64 (w64 ((w64 ((w64 ((w64 (x84 - x208)) - x348)) - x449)) - x550))) wd568 rfl (op_sub e576 e581) (Ext.refl _) ⟨rfl, (inR_wrap _ _)⟩
  · refine ObX.op rfl ?_
    intro f583 wd584 he585 hout586 hphi587
    have hS588 : St wd2 wd584 [] := St.extend hS15 he585
    have e589 : f583 12 = v_w_Values := (hout586 12 rfl).trans rfl
    exact OpX.val v_w_Values wd584 rfl (op_move e589) (Ext.refl _) rfl
  · refine ObX.op rfl ?_
    intro f590 wd591 he592 hout593 hphi594
    have hS595 : St wd2 wd591 [] := St.extend hS15 he592
    have e596 : f590 2 = (Value.int .i64 x) := (hout593 2 rfl).trans rfl
    exact OpX.val (Value.int .i64 x) wd591 rfl (op_move e596) (Ext.refl _) ⟨rfl, r_x⟩
  · refine ObX.op rfl ?_
    intro f597 wd598 he599 hout600 hphi601
    have hS602 : St wd2 wd598 [] := St.extend hS15 he599
    obtain ⟨S603, hS604, hf605⟩ := hphi601 45 65 _ rfl rfl rfl
    have e606 : f597 65 = v_w_Values := hf605
    obtain ⟨S607, hS608, hf609⟩ := hphi601 46 66 _ rfl rfl rfl
    obtain ⟨e610, hr611⟩ : f597 66 = (Value.int .i64 x) ∧ InR .i64 x := hf609
    exact OpX.val (Value.pointer (some (elA v_w_Values (x).toNat))) wd598 rfl (op_idx sl_23 (Ty.lift _ (Ext.trans hE7 hS602.ext) r_w_Values) e606 e610 ha271 hb272) (Ext.refl _) rfl
  · refine ObX.op rfl ?_
    intro f612 wd613 he614 hout615 hphi616
    have hS617 : St wd2 wd613 [] := St.extend hS15 he614
    obtain ⟨S618, hS619, hf620⟩ := hphi616 47 67 _ rfl rfl rfl
    have e621 : f612 67 = (Value.pointer (some (elA v_w_Values (x).toNat))) := hf620
    exact OpX.val u622 wd613 rfl (op_load one_27 e621 (Ext.cell (Ext.trans hE7 hS617.ext) hc623)) (Ext.refl _) rfl
  · refine ObX.op rfl ?_
    intro f625 wd626 he627 hout628 hphi629
    have hS630 : St wd2 wd626 [] := St.extend hS15 he627
    have e631 : f625 4 = (Value.int .i64 z) := (hout628 4 rfl).trans rfl
    exact OpX.val (Value.int .i64 z) wd626 rfl (op_move e631) (Ext.refl _) ⟨rfl, r_z⟩
  · refine ObX.op rfl ?_
    intro f632 wd633 he634 hout635 hphi636
    have hS637 : St wd2 wd633 [] := St.extend hS15 he634
    obtain ⟨S638, hS639, hf640⟩ := hphi636 48 68 _ rfl rfl rfl
    have e641 : f632 68 = u622 := hf640
    obtain ⟨S642, hS643, hf644⟩ := hphi636 49 69 _ rfl rfl rfl
    obtain ⟨e645, hr646⟩ : f632 69 = (Value.int .i64 z) ∧ InR .i64 z := hf644
    exact OpX.val (Value.pointer (some (elA u622 (z).toNat))) wd633 rfl (op_idx sl_27 (Ty.lift _ (Ext.trans hE7 hS637.ext) hr624) e641 e645 ha648 hb649) (Ext.refl _) rfl
  · refine ObX.op rfl ?_
    intro f651 wd652 he653 hout654 hphi655
    have hS656 : St wd2 wd652 [] := St.extend hS15 he653
    obtain ⟨S657, hS658, hf659⟩ := hphi655 50 70 _ rfl rfl rfl
    have e660 : f651 70 = (Value.pointer (some (elA u622 (z).toNat))) := hf659
    exact OpX.val u661 wd652 rfl (op_load one_22 e660 (Ext.cell (Ext.trans hE7 hS656.ext) hc662)) (Ext.refl _) rfl
  · refine ObX.op rfl ?_
    intro f664 wd665 he666 hout667 hphi668
    have hS669 : St wd2 wd665 [] := St.extend hS15 he666
    have e670 : f664 3 = (Value.int .i64 y) := (hout667 3 rfl).trans rfl
    exact OpX.val (Value.int .i64 y) wd665 rfl (op_move e670) (Ext.refl _) ⟨rfl, r_y⟩
  · refine ObX.op rfl ?_
    intro f671 wd672 he673 hout674 hphi675
    have hS676 : St wd2 wd672 [] := St.extend hS15 he673
    obtain ⟨S677, hS678, hf679⟩ := hphi675 51 71 _ rfl rfl rfl
    have e680 : f671 71 = u661 := hf679
    obtain ⟨S681, hS682, hf683⟩ := hphi675 52 72 _ rfl rfl rfl
    obtain ⟨e684, hr685⟩ : f671 72 = (Value.int .i64 y) ∧ InR .i64 y := hf683
    exact OpX.val (Value.pointer (some (elA u661 (y).toNat))) wd672 rfl (op_idx sl_22 (Ty.lift _ (Ext.trans hE7 hS676.ext) hr663) e680 e684 ha687 hb688) (Ext.refl _) rfl
  · refine ObX.op rfl ?_
    intro f690 wd691 he692 hout693 hphi694
    have hS695 : St wd2 wd691 [] := St.extend hS15 he692
    obtain ⟨S696, hS697, hf698⟩ := hphi694 53 73 _ rfl rfl rfl
    have e699 : f690 73 = (Value.pointer (some (elA u661 (y).toNat))) := hf698
    exact OpX.val (Value.int .i64 x686) wd691 rfl (op_load one_2 e699 (Ext.cell (Ext.trans hE7 hS695.ext) hc701)) (Ext.refl _) ⟨rfl, hr702⟩
  · refine ObX.op rfl ?_
    intro f703 wd704 he705 hout706 hphi707
    have hS708 : St wd2 wd704 [] := St.extend hS15 he705
    obtain ⟨S709, hS710, hf711⟩ := hphi707 44 64 _ rfl rfl rfl
    obtain ⟨e712, hr713⟩ : f703 64 = (Value.int .i64 (w64 ((w64 ((w64 ((w64 (x84 - x208)) - x348)) - x449)) - x550))) ∧ InR .i64 (w64 ((w64 ((w64 ((w64 (x84 - x208)) - x348)) - x449)) - x550)) := hf711
    obtain ⟨S714, hS715, hf716⟩ := hphi707 54 74 _ rfl rfl rfl
    obtain ⟨e717, hr718⟩ : f703 74 = (Value.int .i64 x686) ∧ InR .i64 x686 := hf716
    exact OpX.val (Value.int .i64 (w64 ((w64 ((w64 ((w64 ((w64 (x84 - x208)) - x348)) - x449)) - x550)) + x686))) wd704 rfl (op_add e712 e717) (Ext.refl _) ⟨rfl, (inR_wrap _ _)⟩
  · refine ObX.op rfl ?_
    intro f719 wd720 he721 hout722 hphi723
    have hS724 : St wd2 wd720 [] := St.extend hS15 he721
    have e725 : f719 5 = (Value.pointer (some ⟨b1, 0, none⟩)) := (hout722 5 rfl).trans rfl
    exact OpX.val (Value.pointer (some ⟨b1, 1, none⟩)) wd720 rfl (op_fieldAddr fd_30_1 e725) (Ext.refl _) rfl
  · refine ObX.op rfl ?_
    intro f726 wd727 he728 hout729 hphi730
    have hS731 : St wd2 wd727 [] := St.extend hS15 he728
    obtain ⟨S732, hS733, hf734⟩ := hphi730 56 76 _ rfl rfl rfl
    have e735 : f726 76 = (Value.pointer (some ⟨b1, 1, none⟩)) := hf734
    exact OpX.val (Value.int .i64 w_Modulus) wd727 rfl (op_load one_2 e735 (BoxAt.cell (BoxAt.lift hS731.ext hx6) rfl)) (Ext.refl _) ⟨rfl, r_w_Modulus⟩
  · intro f736 wd737 Ss738 he739 hout740 hSn741 hSd742 hphi743
    show WL _ _ _ _ _ _ _
    have hS744 : St wd2 wd737 [] := St.extend hS15 he739
    obtain ⟨e745, hr746⟩ : f736 75 = (Value.int .i64 (w64 ((w64 ((w64 ((w64 ((w64 (x84 - x208)) - x348)) - x449)) - x550)) + x686))) ∧ InR .i64 (w64 ((w64 ((w64 ((w64 ((w64 (x84 - x208)) - x348)) - x449)) - x550)) + x686)) := hphi743 55 75 _ (by decide) rfl rfl
    obtain ⟨e747, hr748⟩ : f736 77 = (Value.int .i64 w_Modulus) ∧ InR .i64 w_Modulus := hphi743 57 77 _ (by decide) rfl rfl
    obtain ⟨x749, hz750, h⟩ := bs h
    obtain ⟨h0751, hz750⟩ := remI_some hz750
    have hr752 : InR .i64 x749 := by rw [hz750]; exact inR_tmod hr746
    refine WL.val (Value.int .i64 x749) _ (by rw [hz750]; exact op_rem e745 e747 h0751) rfl ?_
    refine WL.val (Value.bool (x749 == (0 : Int))) _ (op_eql rfl rfl) rfl ?_
    refine WL.val (Value.bool (x749 == (0 : Int))) _ (op_assign rfl) rfl ?_
    refine WL.nil ?_
    show W _ _ _ _ _ _
    refine W.ret ?_
    obtain rfl := Option.some.inj h
    show FinP _ _ _ _ _ _ _
    exact FinP.ret _ (res1 rfl rfl) ⟨rfl, (Ext.trans hE7 hS744.ext)⟩

theorem c_spec_l18Fault {w : World} {w_Orders : (List Int)} {v_w_Orders : Value} {w_Modulus : Int} {w_Values : (List (List (List Int)))} {v_w_Values : Value} {c : (List (List Int))} {v_c : Value} (r_w_Orders : (Ty.sl (Ty.i .i64)).rep w v_w_Orders w_Orders) (r_w_Modulus : InR .i64 w_Modulus) (r_w_Values : (Ty.sl (Ty.sl (Ty.sl (Ty.i .i64)))).rep w v_w_Values w_Values) (r_c : (Ty.sl (Ty.sl (Ty.i .i64))).rep w v_c c) {res : (List Int)} (h : p_spec_l18Fault w_Orders w_Modulus w_Values c  = some res) :
    Ret Try.prog 70 #[(Value.agg #[v_w_Orders, (Value.int .i64 w_Modulus), v_w_Values]), v_c] w (fun v w' => ∃ (u0 : Value), v = u0 ∧ Ext w w' ∧ Sep w.heap.size w' [(Ty.sl (Ty.i .i64)).at u0 res]) := by
  unfold p_spec_l18Fault at h
  have hS0 : St w w [] := St.start w
  refine Ret.start (fn := Try.f70) Try.func70 rfl 60 rfl rfl ?_
  refine W.seq (W.region ?_)
  refine WL.box hS0 rfl (cs := [v_w_Orders, (Value.int .i64 w_Modulus), v_w_Values]) rfl rfl ?_
  intro b1 wd2 hS3 he4 hx5
  replace hS3 : St w wd2 [bx b1 [v_w_Orders, (Value.int .i64 w_Modulus), v_w_Values]] := hS3
  have hx6 := St.boxAt hS3 0 rfl
  have hE7 : Ext w wd2 := hS3.ext
  have hS8 : St wd2 wd2 [] := St.start wd2
  refine WL.val (Value.slice none 0 0) _ (op_assign rfl) rfl ?_
  refine WL.nil ?_
  show W _ _ _ _ _ _
  refine W.seq (W.region ?_)
  refine WL.val v_c _ (op_move rfl) rfl ?_
  have hr9 := inR_len (Ty.lift _ (Ext.trans hE7 hS8.ext) r_c)
  refine WL.val (Value.int .i64 ((c).length : Int)) _ (op_lenL sl_27 (Ty.lift _ (Ext.trans hE7 hS8.ext) r_c) rfl) rfl ?_
  refine WL.val (Value.int .i64 ((c).length : Int)) _ (op_assign rfl) rfl ?_
  refine WL.nil ?_
  show W _ _ _ _ _ _
  refine W.seq (W.seq (W.region ?_))
  refine WL.val (Value.int .i64 (1 : Int)) _ (op_assign rfl) rfl ?_
  refine WL.nil ?_
  show W _ _ _ _ _ _
  obtain ⟨res10, hres11, h⟩ := bs h
  refine W.blockLoop (fun fq wq => ∃ s, res10 = Res.fin s ∧ St wd2 wq []) ?_ ?_
  · refine W.whileC (fun (s : Int) fq wq => fq 1 = v_c ∧ fq 2 = (Value.pointer (some ⟨b1, 0, none⟩)) ∧ fq 5 = (Value.int .i64 ((c).length : Int)) ∧ fq 6 = Value.int .i64 s ∧ InR .i64 s ∧ St wd2 wq []) hres11 ⟨rfl, rfl, rfl, rfl, (inR_i64.2 (show (-9223372036854775808 : Int) ≤ 1 ∧ (1 : Int) ≤ 9223372036854775807 from by decide)), hS8⟩ ?_
    intro x13 ct14 f15 wd16 hb18 hI19 hbrk20 hret21
    replace hI19 : f15 1 = v_c ∧ f15 2 = (Value.pointer (some ⟨b1, 0, none⟩)) ∧ f15 5 = (Value.int .i64 ((c).length : Int)) ∧ f15 6 = Value.int .i64 x13 ∧ InR .i64 x13 ∧ St wd2 wd16 [] := hI19
    replace hb18 : p_spec_l18Fault_L1 w_Orders w_Modulus w_Values c  x13 = some ct14 := hb18
    unfold p_spec_l18Fault_L1 at hb18
    obtain ⟨hf22, hf23, hf24, hf25, hr26, hS27⟩ := hI19
    refine W.seq (W.seq (W.region ?_))
    refine WL.val (Value.int .i64 x13) _ (op_move hf25) rfl ?_
    refine WL.val (Value.bool (decide (x13 ≤ (2 : Int)))) _ (op_leq rfl rfl) rfl ?_
    refine WL.nil ?_
    show W _ _ _ _ _ _
    refine W.cond (decide (x13 ≤ (2 : Int))) rfl (fun hc28 => ?_) (fun hc28 => ?_)
    · replace hb18 := ip hb18 hc28
      refine W.skip ?_
      show W _ _ _ _ _ _
      refine W.seq ?_
      refine W.block ?_
      refine W.seq (W.region ?_)
      refine WL.val (Value.int .i64 (0 : Int)) _ (op_assign rfl) rfl ?_
      refine WL.nil ?_
      show W _ _ _ _ _ _
      obtain ⟨res30, hres31, hb18⟩ := bs hb18
      refine W.blockLoop (fun fq wq => ∃ s, res30 = Res.fin s ∧ fq 1 = v_c ∧ fq 2 = (Value.pointer (some ⟨b1, 0, none⟩)) ∧ fq 5 = (Value.int .i64 ((c).length : Int)) ∧ fq 6 = (Value.int .i64 x13) ∧ St wd2 wq []) ?_ ?_
      · refine W.forN (fun k (s : Unit) fq wq => fq 1 = v_c ∧ fq 2 = (Value.pointer (some ⟨b1, 0, none⟩)) ∧ fq 5 = (Value.int .i64 ((c).length : Int)) ∧ fq 6 = (Value.int .i64 x13) ∧ fq 7 = Value.int .i64 (k : Int) ∧ InR .i64 (k : Int) ∧ St wd2 wq []) hres31 ⟨hf22, hf23, hf24, hf25, rfl, (inR_i64.2 (show (-9223372036854775808 : Int) ≤ 0 ∧ (0 : Int) ≤ 9223372036854775807 from by decide)), hS27⟩ ?_ ?_
        · intro k32 s190 ct33 f34 wd35 hk36 hb37 hI38 hbrk39 hret40
          obtain ⟨⟩ := s190
          replace hI38 : f34 1 = v_c ∧ f34 2 = (Value.pointer (some ⟨b1, 0, none⟩)) ∧ f34 5 = (Value.int .i64 ((c).length : Int)) ∧ f34 6 = (Value.int .i64 x13) ∧ f34 7 = Value.int .i64 (k32 : Int) ∧ InR .i64 (k32 : Int) ∧ St wd2 wd35 [] := hI38
          replace hb37 : p_spec_l18Fault_L2 x13 w_Orders w_Modulus w_Values c k32  = some ct33 := hb37
          unfold p_spec_l18Fault_L2 at hb37
          obtain ⟨hf41, hf42, hf43, hf44, hf45, hr46, hS47⟩ := hI38
          refine W.seq (W.seq (W.region ?_))
          refine WL.val (Value.int .i64 (k32 : Int)) _ (op_move hf45) rfl ?_
          refine WL.val (Value.int .i64 ((c).length : Int)) _ (op_move hf43) rfl ?_
          refine WL.val (Value.bool (decide ((k32 : Int) < ((c).length : Int)))) _ (op_lss rfl rfl) rfl ?_
          have hl48 : (k32 : Int) < ((c).length : Int) := by omega
          refine WL.nil ?_
          show W _ _ _ _ _ _
          refine W.condT (decide ((k32 : Int) < ((c).length : Int))) rfl (decide_eq_true hl48) ?_
          refine W.skip ?_
          show W _ _ _ _ _ _
          refine W.seq ?_
          refine W.block ?_
          refine W.seq (W.region ?_)
          refine WL.val (Value.int .i64 (0 : Int)) _ (op_assign rfl) rfl ?_
          refine WL.nil ?_
          show W _ _ _ _ _ _
          obtain ⟨res50, hres51, hb37⟩ := bs hb37
          refine W.blockLoop (fun fq wq => ∃ s, res50 = Res.fin s ∧ fq 1 = v_c ∧ fq 2 = (Value.pointer (some ⟨b1, 0, none⟩)) ∧ fq 5 = (Value.int .i64 ((c).length : Int)) ∧ fq 6 = (Value.int .i64 x13) ∧ fq 7 = (Value.int .i64 (k32 : Int)) ∧ St wd2 wq []) ?_ ?_
          · refine W.forN (fun k (s : Unit) fq wq => fq 1 = v_c ∧ fq 2 = (Value.pointer (some ⟨b1, 0, none⟩)) ∧ fq 5 = (Value.int .i64 ((c).length : Int)) ∧ fq 6 = (Value.int .i64 x13) ∧ fq 7 = (Value.int .i64 (k32 : Int)) ∧ fq 8 = Value.int .i64 (k : Int) ∧ InR .i64 (k : Int) ∧ St wd2 wq []) hres51 ⟨hf41, hf42, hf43, hf44, hf45, rfl, (inR_i64.2 (show (-9223372036854775808 : Int) ≤ 0 ∧ (0 : Int) ≤ 9223372036854775807 from by decide)), hS47⟩ ?_ ?_
            · intro k52 s164 ct53 f54 wd55 hk56 hb57 hI58 hbrk59 hret60
              obtain ⟨⟩ := s164
              replace hI58 : f54 1 = v_c ∧ f54 2 = (Value.pointer (some ⟨b1, 0, none⟩)) ∧ f54 5 = (Value.int .i64 ((c).length : Int)) ∧ f54 6 = (Value.int .i64 x13) ∧ f54 7 = (Value.int .i64 (k32 : Int)) ∧ f54 8 = Value.int .i64 (k52 : Int) ∧ InR .i64 (k52 : Int) ∧ St wd2 wd55 [] := hI58
              replace hb57 : p_spec_l18Fault_L3 x13 w_Orders w_Modulus w_Values c k32 k52  = some ct53 := hb57
              unfold p_spec_l18Fault_L3 at hb57
              obtain ⟨hf61, hf62, hf63, hf64, hf65, hf66, hr67, hS68⟩ := hI58
              refine W.seq (W.seq (W.region ?_))
              refine WL.val (Value.int .i64 (k52 : Int)) _ (op_move hf66) rfl ?_
              refine WL.val (Value.int .i64 ((c).length : Int)) _ (op_move hf63) rfl ?_
              refine WL.val (Value.bool (decide ((k52 : Int) < ((c).length : Int)))) _ (op_lss rfl rfl) rfl ?_
              have hl69 : (k52 : Int) < ((c).length : Int) := by omega
              refine WL.nil ?_
              show W _ _ _ _ _ _
              refine W.condT (decide ((k52 : Int) < ((c).length : Int))) rfl (decide_eq_true hl69) ?_
              refine W.skip ?_
              show W _ _ _ _ _ _
              refine W.seq ?_
              refine W.block ?_
              refine W.seq (W.region ?_)
              refine WL.val (Value.int .i64 (0 : Int)) _ (op_assign rfl) rfl ?_
              refine WL.nil ?_
              show W _ _ _ _ _ _
              obtain ⟨res71, hres72, hb57⟩ := bs hb57
              refine W.blockLoop (fun fq wq => ∃ s, res71 = Res.fin s ∧ fq 1 = v_c ∧ fq 2 = (Value.pointer (some ⟨b1, 0, none⟩)) ∧ fq 5 = (Value.int .i64 ((c).length : Int)) ∧ fq 6 = (Value.int .i64 x13) ∧ fq 7 = (Value.int .i64 (k32 : Int)) ∧ fq 8 = (Value.int .i64 (k52 : Int)) ∧ St wd2 wq []) ?_ ?_
              · refine W.forN (fun k (s : Unit) fq wq => fq 1 = v_c ∧ fq 2 = (Value.pointer (some ⟨b1, 0, none⟩)) ∧ fq 5 = (Value.int .i64 ((c).length : Int)) ∧ fq 6 = (Value.int .i64 x13) ∧ fq 7 = (Value.int .i64 (k32 : Int)) ∧ fq 8 = (Value.int .i64 (k52 : Int)) ∧ fq 9 = Value.int .i64 (k : Int) ∧ InR .i64 (k : Int) ∧ St wd2 wq []) hres72 ⟨hf61, hf62, hf63, hf64, hf65, hf66, rfl, (inR_i64.2 (show (-9223372036854775808 : Int) ≤ 0 ∧ (0 : Int) ≤ 9223372036854775807 from by decide)), hS68⟩ ?_ ?_
                · intro k73 s136 ct74 f75 wd76 hk77 hb78 hI79 hbrk80 hret81
                  obtain ⟨⟩ := s136
                  replace hI79 : f75 1 = v_c ∧ f75 2 = (Value.pointer (some ⟨b1, 0, none⟩)) ∧ f75 5 = (Value.int .i64 ((c).length : Int)) ∧ f75 6 = (Value.int .i64 x13) ∧ f75 7 = (Value.int .i64 (k32 : Int)) ∧ f75 8 = (Value.int .i64 (k52 : Int)) ∧ f75 9 = Value.int .i64 (k73 : Int) ∧ InR .i64 (k73 : Int) ∧ St wd2 wd76 [] := hI79
                  replace hb78 : p_spec_l18Fault_L4 x13 w_Orders w_Modulus w_Values c k32 k52 k73  = some ct74 := hb78
                  unfold p_spec_l18Fault_L4 at hb78
                  obtain ⟨hf82, hf83, hf84, hf85, hf86, hf87, hf88, hr89, hS90⟩ := hI79
                  refine W.seq (W.seq (W.region ?_))
                  refine WL.val (Value.int .i64 (k73 : Int)) _ (op_move hf88) rfl ?_
                  refine WL.val (Value.int .i64 ((c).length : Int)) _ (op_move hf84) rfl ?_
                  refine WL.val (Value.bool (decide ((k73 : Int) < ((c).length : Int)))) _ (op_lss rfl rfl) rfl ?_
                  have hl91 : (k73 : Int) < ((c).length : Int) := by omega
                  refine WL.nil ?_
                  show W _ _ _ _ _ _
                  refine W.condT (decide ((k73 : Int) < ((c).length : Int))) rfl (decide_eq_true hl91) ?_
                  refine W.skip ?_
                  show W _ _ _ _ _ _
                  refine W.seq ?_
                  refine W.block ?_
                  refine W.seq ?_
                  obtain ⟨x93, hj94, hb78⟩ := bs hb78
                  refine W.cutCode (fun fq wq => fq 1 = v_c ∧ fq 2 = (Value.pointer (some ⟨b1, 0, none⟩)) ∧ fq 5 = (Value.int .i64 ((c).length : Int)) ∧ fq 6 = (Value.int .i64 x13) ∧ fq 7 = (Value.int .i64 (k32 : Int)) ∧ fq 8 = (Value.int .i64 (k52 : Int)) ∧ fq 9 = (Value.int .i64 (k73 : Int)) ∧ fq 54 = Value.bool x93 ∧ St wd2 wq []) ?_ ?_
                  · refine W.region ?_
                    refine WL.val (Value.int .i64 x13) _ (op_move hf85) rfl ?_
                    refine WL.val (Value.bool (x13 == (1 : Int))) _ (op_eql rfl rfl) rfl ?_
                    refine WL.val (Value.bool (x13 == (1 : Int))) _ (op_move rfl) rfl ?_
                    rcases Bool.eq_false_or_eq_true (x13 == (1 : Int)) with hc95 | hc95
                    · replace hj94 := ip hj94 hc95
                      refine WL.grun rfl (bool_of rfl hc95) ?_
                      refine WL.val (Value.agg #[v_w_Orders, (Value.int .i64 w_Modulus), v_w_Values]) _ (op_loadBox st_30 hf83 (BoxAt.lift hS90.ext hx6) rfl rfl) rfl ?_
                      refine WL.grun rfl (bool_of rfl hc95) ?_
                      refine WL.val v_c _ (op_move hf82) rfl ?_
                      refine WL.grun rfl (bool_of rfl hc95) ?_
                      refine WL.val (Value.int .i64 (k32 : Int)) _ (op_move hf86) rfl ?_
                      refine WL.grun rfl (bool_of rfl hc95) ?_
                      refine WL.val (Value.int .i64 (k52 : Int)) _ (op_move hf87) rfl ?_
                      refine WL.grun rfl (bool_of rfl hc95) ?_
                      refine WL.val (Value.int .i64 (k73 : Int)) _ (op_move hf88) rfl ?_
                      refine WL.grun rfl (bool_of rfl hc95) ?_
                      obtain ⟨x96, hx97, hj94⟩ := bs hj94
                      refine WL.call _ (op_call fn_95 (args5 rfl rfl rfl rfl rfl)) (c_spec_l18One (Ty.lift _ (Ext.trans hE7 hS90.ext) r_w_Orders) r_w_Modulus (Ty.lift _ (Ext.trans hE7 hS90.ext) r_w_Values) (Ty.lift _ (Ext.trans hE7 hS90.ext) r_c) hr46 hr67 hr89 hx97) rfl ?_
                      rintro _ wd98 ⟨rfl, he99⟩
                      have hS101 := St.extend hS90 he99
                      replace hS101 : St wd2 wd98 [] := hS101
                      refine WL.grun rfl (bool_of rfl hc95) ?_
                      refine WL.val (Value.bool (!x96)) _ (op_not rfl) rfl ?_
                      refine WL.val (Value.bool (!x96)) _ (op_pick_t (evb_of rfl hc95) rfl) rfl ?_
                      refine WL.val (Value.bool (!x96)) _ (op_move rfl) rfl ?_
                      rcases Bool.eq_false_or_eq_true (!x96) with hc102 | hc102
                      · replace hj94 := ip hj94 hc102
                        refine WL.gskip rfl (bool_of rfl hc102) rfl ?_
                        refine WL.gskip rfl (bool_of rfl hc102) rfl ?_
                        refine WL.gskip rfl (bool_of rfl hc102) rfl ?_
                        refine WL.gskipu rfl rfl rfl ?_
                        refine WL.gskipu rfl rfl rfl ?_
                        refine WL.gskipu rfl rfl rfl ?_
                        refine WL.gskipu rfl rfl rfl ?_
                        refine WL.gskipu rfl rfl rfl ?_
                        refine WL.gskipu rfl rfl rfl ?_
                        refine WL.gskipu rfl rfl rfl ?_
                        refine WL.gskip rfl (bool_of rfl hc102) rfl ?_
                        refine WL.val (Value.bool true) _ (op_pick_t (evb_of rfl hc102) rfl) rfl ?_
                        refine WL.nil ?_
                        obtain rfl := Option.some.inj hj94
                        exact ⟨hf82, hf83, hf84, hf85, hf86, hf87, hf88, rfl, hS101⟩
                      · replace hj94 := inegb hj94 hc102
                        refine WL.grun rfl (bool_of rfl hc102) ?_
                        refine WL.val (Value.int .i64 x13) _ (op_move hf85) rfl ?_
                        refine WL.grun rfl (bool_of rfl hc102) ?_
                        refine WL.val (Value.bool (x13 == (2 : Int))) _ (op_eql rfl rfl) rfl ?_
                        refine WL.grun rfl (bool_of rfl hc102) ?_
                        refine WL.val (Value.bool (x13 == (2 : Int))) _ (op_move rfl) rfl ?_
                        rcases Bool.eq_false_or_eq_true (x13 == (2 : Int)) with hc103 | hc103
                        · replace hj94 := ip hj94 hc103
                          refine WL.grun rfl (bool_of rfl hc103) ?_
                          refine WL.val (Value.agg #[v_w_Orders, (Value.int .i64 w_Modulus), v_w_Values]) _ (op_loadBox st_30 hf83 (BoxAt.lift hS101.ext hx6) rfl rfl) rfl ?_
                          refine WL.grun rfl (bool_of rfl hc103) ?_
                          refine WL.val v_c _ (op_move hf82) rfl ?_
                          refine WL.grun rfl (bool_of rfl hc103) ?_
                          refine WL.val (Value.int .i64 (k32 : Int)) _ (op_move hf86) rfl ?_
                          refine WL.grun rfl (bool_of rfl hc103) ?_
                          refine WL.val (Value.int .i64 (k52 : Int)) _ (op_move hf87) rfl ?_
                          refine WL.grun rfl (bool_of rfl hc103) ?_
                          refine WL.val (Value.int .i64 (k73 : Int)) _ (op_move hf88) rfl ?_
                          refine WL.grun rfl (bool_of rfl hc103) ?_
                          obtain ⟨x104, hx105, hj94⟩ := bs hj94
                          refine WL.call _ (op_call fn_96 (args5 rfl rfl rfl rfl rfl)) (c_spec_l18Two (Ty.lift _ (Ext.trans hE7 hS101.ext) r_w_Orders) r_w_Modulus (Ty.lift _ (Ext.trans hE7 hS101.ext) r_w_Values) (Ty.lift _ (Ext.trans hE7 hS101.ext) r_c) hr46 hr67 hr89 hx105) rfl ?_
                          rintro _ wd106 ⟨rfl, he107⟩
                          have hS109 := St.extend hS101 he107
                          replace hS109 : St wd2 wd106 [] := hS109
                          refine WL.grun rfl (bool_of rfl hc103) ?_
                          refine WL.val (Value.bool (!x104)) _ (op_not rfl) rfl ?_
                          refine WL.grun rfl (bool_of rfl hc102) ?_
                          refine WL.val (Value.bool (!x104)) _ (op_pick_t (evb_of rfl hc103) rfl) rfl ?_
                          refine WL.val (Value.bool (!x104)) _ (op_pick_f (evb_of rfl hc102) rfl) rfl ?_
                          refine WL.nil ?_
                          obtain rfl := Option.some.inj hj94
                          exact ⟨hf82, hf83, hf84, hf85, hf86, hf87, hf88, rfl, hS109⟩
                        · replace hj94 := inegb hj94 hc103
                          refine WL.gskip rfl (bool_of rfl hc103) rfl ?_
                          refine WL.gskip rfl (bool_of rfl hc103) rfl ?_
                          refine WL.gskip rfl (bool_of rfl hc103) rfl ?_
                          refine WL.gskip rfl (bool_of rfl hc103) rfl ?_
                          refine WL.gskip rfl (bool_of rfl hc103) rfl ?_
                          refine WL.gskip rfl (bool_of rfl hc103) rfl ?_
                          refine WL.gskip rfl (bool_of rfl hc103) rfl ?_
                          refine WL.grun rfl (bool_of rfl hc102) ?_
                          refine WL.val (Value.bool false) _ (op_pick_f (evb_of rfl hc103) rfl) rfl ?_
                          refine WL.val (Value.bool false) _ (op_pick_f (evb_of rfl hc102) rfl) rfl ?_
                          refine WL.nil ?_
                          obtain rfl := Option.some.inj hj94
                          exact ⟨hf82, hf83, hf84, hf85, hf86, hf87, hf88, rfl, hS101⟩
                    · replace hj94 := inegb hj94 hc95
                      refine WL.gskip rfl (bool_of rfl hc95) rfl ?_
                      refine WL.gskip rfl (bool_of rfl hc95) rfl ?_
                      refine WL.gskip rfl (bool_of rfl hc95) rfl ?_
                      refine WL.gskip rfl (bool_of rfl hc95) rfl ?_
                      refine WL.gskip rfl (bool_of rfl hc95) rfl ?_
                      refine WL.gskip rfl (bool_of rfl hc95) rfl ?_
                      refine WL.gskip rfl (bool_of rfl hc95) rfl ?_
                      refine WL.val (Value.bool false) _ (op_pick_f (evb_of rfl hc95) rfl) rfl ?_
                      refine WL.val (Value.bool false) _ (op_move rfl) rfl ?_
                      rcases Bool.eq_false_or_eq_true false with hc110 | hc110
                      · replace hj94 := ip hj94 hc110
                        refine WL.gskip rfl (bool_of rfl hc110) rfl ?_
                        refine WL.gskip rfl (bool_of rfl hc110) rfl ?_
                        refine WL.gskip rfl (bool_of rfl hc110) rfl ?_
                        refine WL.gskipu rfl rfl rfl ?_
                        refine WL.gskipu rfl rfl rfl ?_
                        refine WL.gskipu rfl rfl rfl ?_
                        refine WL.gskipu rfl rfl rfl ?_
                        refine WL.gskipu rfl rfl rfl ?_
                        refine WL.gskipu rfl rfl rfl ?_
                        refine WL.gskipu rfl rfl rfl ?_
                        refine WL.gskip rfl (bool_of rfl hc110) rfl ?_
                        refine WL.val (Value.bool true) _ (op_pick_t (evb_of rfl hc110) rfl) rfl ?_
                        refine WL.nil ?_
                        obtain rfl := Option.some.inj hj94
                        exact ⟨hf82, hf83, hf84, hf85, hf86, hf87, hf88, rfl, hS90⟩
                      · replace hj94 := inegb hj94 hc110
                        refine WL.grun rfl (bool_of rfl hc110) ?_
                        refine WL.val (Value.int .i64 x13) _ (op_move hf85) rfl ?_
                        refine WL.grun rfl (bool_of rfl hc110) ?_
                        refine WL.val (Value.bool (x13 == (2 : Int))) _ (op_eql rfl rfl) rfl ?_
                        refine WL.grun rfl (bool_of rfl hc110) ?_
                        refine WL.val (Value.bool (x13 == (2 : Int))) _ (op_move rfl) rfl ?_
                        rcases Bool.eq_false_or_eq_true (x13 == (2 : Int)) with hc111 | hc111
                        · replace hj94 := ip hj94 hc111
                          refine WL.grun rfl (bool_of rfl hc111) ?_
                          refine WL.val (Value.agg #[v_w_Orders, (Value.int .i64 w_Modulus), v_w_Values]) _ (op_loadBox st_30 hf83 (BoxAt.lift hS90.ext hx6) rfl rfl) rfl ?_
                          refine WL.grun rfl (bool_of rfl hc111) ?_
                          refine WL.val v_c _ (op_move hf82) rfl ?_
                          refine WL.grun rfl (bool_of rfl hc111) ?_
                          refine WL.val (Value.int .i64 (k32 : Int)) _ (op_move hf86) rfl ?_
                          refine WL.grun rfl (bool_of rfl hc111) ?_
                          refine WL.val (Value.int .i64 (k52 : Int)) _ (op_move hf87) rfl ?_
                          refine WL.grun rfl (bool_of rfl hc111) ?_
                          refine WL.val (Value.int .i64 (k73 : Int)) _ (op_move hf88) rfl ?_
                          refine WL.grun rfl (bool_of rfl hc111) ?_
                          obtain ⟨x112, hx113, hj94⟩ := bs hj94
                          refine WL.call _ (op_call fn_96 (args5 rfl rfl rfl rfl rfl)) (c_spec_l18Two (Ty.lift _ (Ext.trans hE7 hS90.ext) r_w_Orders) r_w_Modulus (Ty.lift _ (Ext.trans hE7 hS90.ext) r_w_Values) (Ty.lift _ (Ext.trans hE7 hS90.ext) r_c) hr46 hr67 hr89 hx113) rfl ?_
                          rintro _ wd114 ⟨rfl, he115⟩
                          have hS117 := St.extend hS90 he115
                          replace hS117 : St wd2 wd114 [] := hS117
                          refine WL.grun rfl (bool_of rfl hc111) ?_
                          refine WL.val (Value.bool (!x112)) _ (op_not rfl) rfl ?_
                          refine WL.grun rfl (bool_of rfl hc110) ?_
                          refine WL.val (Value.bool (!x112)) _ (op_pick_t (evb_of rfl hc111) rfl) rfl ?_
                          refine WL.val (Value.bool (!x112)) _ (op_pick_f (evb_of rfl hc110) rfl) rfl ?_
                          refine WL.nil ?_
                          obtain rfl := Option.some.inj hj94
                          exact ⟨hf82, hf83, hf84, hf85, hf86, hf87, hf88, rfl, hS117⟩
                        · replace hj94 := inegb hj94 hc111
                          refine WL.gskip rfl (bool_of rfl hc111) rfl ?_
                          refine WL.gskip rfl (bool_of rfl hc111) rfl ?_
                          refine WL.gskip rfl (bool_of rfl hc111) rfl ?_
                          refine WL.gskip rfl (bool_of rfl hc111) rfl ?_
                          refine WL.gskip rfl (bool_of rfl hc111) rfl ?_
                          refine WL.gskip rfl (bool_of rfl hc111) rfl ?_
                          refine WL.gskip rfl (bool_of rfl hc111) rfl ?_
                          refine WL.grun rfl (bool_of rfl hc110) ?_
                          refine WL.val (Value.bool false) _ (op_pick_f (evb_of rfl hc111) rfl) rfl ?_
                          refine WL.val (Value.bool false) _ (op_pick_f (evb_of rfl hc110) rfl) rfl ?_
                          refine WL.nil ?_
                          obtain rfl := Option.some.inj hj94
                          exact ⟨hf82, hf83, hf84, hf85, hf86, hf87, hf88, rfl, hS90⟩
                  · intro f118 wd119 hq120
                    obtain ⟨hf121, hf122, hf123, hf124, hf125, hf126, hf127, hf128, hS129⟩ := hq120
                    show W _ _ _ _ _ _
                    refine W.cond x93 hf128 (fun hc130 => ?_) (fun hc130 => ?_)
                    · replace hb78 := ip hb78 hc130
                      refine W.seq (W.region ?_)
                      refine WL.val (Value.int .i64 x13) _ (op_move hf124) rfl ?_
                      refine WL.val (Value.int .i64 (k32 : Int)) _ (op_move hf125) rfl ?_
                      refine WL.val (Value.int .i64 (k52 : Int)) _ (op_move hf126) rfl ?_
                      refine WL.val (Value.int .i64 (k73 : Int)) _ (op_move hf127) rfl ?_
                      refine WL.litFlat (t := (Ty.i .i64)) (flat_i .i64) [(Value.int .i64 x13), (Value.int .i64 (k32 : Int)), (Value.int .i64 (k52 : Int)), (Value.int .i64 (k73 : Int))] [x13, (k32 : Int), (k52 : Int), (k73 : Int)] hS129 sl_22 rfl rfl (fillL rfl ⟨rfl, rfl, rfl, rfl, rfl, rfl, rfl, rfl, rfl, rfl, rfl, rfl, trivial⟩) rfl rfl (litL ⟨⟨rfl, hr26⟩, ⟨rfl, hr46⟩, ⟨rfl, hr67⟩, ⟨rfl, hr89⟩, trivial⟩) rfl ?_
                      intro u132 wd133 hS134 he135
                      replace hS134 : St wd2 wd133 [(Ty.sl (Ty.i .i64)).at u132 ([x13, (k32 : Int), (k52 : Int), (k73 : Int)] : (List Int))] := hS134
                      refine WL.val u132 _ (op_assign rfl) rfl ?_
                      refine WL.nil ?_
                      show W _ _ _ _ _ _
                      refine W.ret ?_
                      obtain rfl := Option.some.inj hb78
                      obtain rfl := hret81 _ rfl
                      replace hb57 := onRes_ret hb57
                      obtain rfl := Option.some.inj hb57
                      obtain rfl := hret60 _ rfl
                      replace hb37 := onRes_ret hb37
                      obtain rfl := Option.some.inj hb37
                      obtain rfl := hret40 _ rfl
                      replace hb18 := onRes_ret hb18
                      obtain rfl := Option.some.inj hb18
                      obtain rfl := hret21 _ rfl
                      replace h := onRes_ret h
                      obtain rfl := Option.some.inj h
                      show FinP _ _ _ _ _ _ _
                      exact FinP.ret _ (res1 rfl rfl) ⟨u132, rfl, (Ext.trans hE7 hS134.ext), (St.out (St.pick hS134 [0] rfl) (hE7))⟩
                    · replace hb78 := inegb hb78 hc130
                      refine W.skip ?_
                      show W _ _ _ _ _ _
                      refine W.region ?_
                      refine WL.val (Value.int .i64 (k73 : Int)) _ (op_move hf127) rfl ?_
                      refine WL.val (Value.int .i64 (w64 ((k73 : Int) + (1 : Int)))) _ (op_add rfl rfl) rfl ?_
                      refine WL.val (Value.int .i64 (w64 ((k73 : Int) + (1 : Int)))) _ (op_assign rfl) rfl ?_
                      refine WL.nil ?_
                      obtain rfl := Option.some.inj hb78
                      show ∃ s, _ = Ctl.next s ∧ _
                      exact ⟨_, rfl, hf121, hf122, hf123, hf124, hf125, hf126, (ctr_next hl91 hr9), (ctr_rng hl91 hr9), hS129⟩
                · intro s141 f137 wd138 hs139 hI140
                  obtain ⟨⟩ := s141
                  replace hI140 : f137 1 = v_c ∧ f137 2 = (Value.pointer (some ⟨b1, 0, none⟩)) ∧ f137 5 = (Value.int .i64 ((c).length : Int)) ∧ f137 6 = (Value.int .i64 x13) ∧ f137 7 = (Value.int .i64 (k32 : Int)) ∧ f137 8 = (Value.int .i64 (k52 : Int)) ∧ f137 9 = Value.int .i64 (((c).length : Nat) : Int) ∧ InR .i64 (((c).length : Nat) : Int) ∧ St wd2 wd138 [] := hI140
                  obtain ⟨hf142, hf143, hf144, hf145, hf146, hf147, hf148, hr149, hS150⟩ := hI140
                  refine W.seq (W.seq (W.region ?_))
                  refine WL.val (Value.int .i64 (((c).length : Nat) : Int)) _ (op_move hf148) rfl ?_
                  refine WL.val (Value.int .i64 ((c).length : Int)) _ (op_move hf144) rfl ?_
                  refine WL.val (Value.bool (decide ((((c).length : Nat) : Int) < ((c).length : Int)))) _ (op_lss rfl rfl) rfl ?_
                  have hl151 : ¬ (((c).length : Nat) : Int) < ((c).length : Int) := by omega
                  refine WL.nil ?_
                  show W _ _ _ _ _ _
                  refine W.condF (decide ((((c).length : Nat) : Int) < ((c).length : Int))) rfl (decide_eq_false hl151) ?_
                  refine W.exit ?_
                  show _ = _ ∧ _
                  exact ⟨rfl, _, hs139, hf142, hf143, hf144, hf145, hf146, hf147, hS150⟩
              · rintro f152 wd153 ⟨s155, rfl, hq154⟩
                replace hb57 := onRes_fin hb57
                obtain ⟨⟩ := s155
                replace hq154 : f152 1 = v_c ∧ f152 2 = (Value.pointer (some ⟨b1, 0, none⟩)) ∧ f152 5 = (Value.int .i64 ((c).length : Int)) ∧ f152 6 = (Value.int .i64 x13) ∧ f152 7 = (Value.int .i64 (k32 : Int)) ∧ f152 8 = (Value.int .i64 (k52 : Int)) ∧ St wd2 wd153 [] := hq154
                obtain ⟨hf156, hf157, hf158, hf159, hf160, hf161, hS162⟩ := hq154
                show W _ _ _ _ _ _
                refine W.region ?_
                refine WL.val (Value.int .i64 (k52 : Int)) _ (op_move hf161) rfl ?_
                refine WL.val (Value.int .i64 (w64 ((k52 : Int) + (1 : Int)))) _ (op_add rfl rfl) rfl ?_
                refine WL.val (Value.int .i64 (w64 ((k52 : Int) + (1 : Int)))) _ (op_assign rfl) rfl ?_
                refine WL.nil ?_
                obtain rfl := Option.some.inj hb57
                show ∃ s, _ = Ctl.next s ∧ _
                exact ⟨_, rfl, hf156, hf157, hf158, hf159, hf160, (ctr_next hl69 hr9), (ctr_rng hl69 hr9), hS162⟩
            · intro s169 f165 wd166 hs167 hI168
              obtain ⟨⟩ := s169
              replace hI168 : f165 1 = v_c ∧ f165 2 = (Value.pointer (some ⟨b1, 0, none⟩)) ∧ f165 5 = (Value.int .i64 ((c).length : Int)) ∧ f165 6 = (Value.int .i64 x13) ∧ f165 7 = (Value.int .i64 (k32 : Int)) ∧ f165 8 = Value.int .i64 (((c).length : Nat) : Int) ∧ InR .i64 (((c).length : Nat) : Int) ∧ St wd2 wd166 [] := hI168
              obtain ⟨hf170, hf171, hf172, hf173, hf174, hf175, hr176, hS177⟩ := hI168
              refine W.seq (W.seq (W.region ?_))
              refine WL.val (Value.int .i64 (((c).length : Nat) : Int)) _ (op_move hf175) rfl ?_
              refine WL.val (Value.int .i64 ((c).length : Int)) _ (op_move hf172) rfl ?_
              refine WL.val (Value.bool (decide ((((c).length : Nat) : Int) < ((c).length : Int)))) _ (op_lss rfl rfl) rfl ?_
              have hl178 : ¬ (((c).length : Nat) : Int) < ((c).length : Int) := by omega
              refine WL.nil ?_
              show W _ _ _ _ _ _
              refine W.condF (decide ((((c).length : Nat) : Int) < ((c).length : Int))) rfl (decide_eq_false hl178) ?_
              refine W.exit ?_
              show _ = _ ∧ _
              exact ⟨rfl, _, hs167, hf170, hf171, hf172, hf173, hf174, hS177⟩
          · rintro f179 wd180 ⟨s182, rfl, hq181⟩
            replace hb37 := onRes_fin hb37
            obtain ⟨⟩ := s182
            replace hq181 : f179 1 = v_c ∧ f179 2 = (Value.pointer (some ⟨b1, 0, none⟩)) ∧ f179 5 = (Value.int .i64 ((c).length : Int)) ∧ f179 6 = (Value.int .i64 x13) ∧ f179 7 = (Value.int .i64 (k32 : Int)) ∧ St wd2 wd180 [] := hq181
            obtain ⟨hf183, hf184, hf185, hf186, hf187, hS188⟩ := hq181
            show W _ _ _ _ _ _
            refine W.region ?_
            refine WL.val (Value.int .i64 (k32 : Int)) _ (op_move hf187) rfl ?_
            refine WL.val (Value.int .i64 (w64 ((k32 : Int) + (1 : Int)))) _ (op_add rfl rfl) rfl ?_
            refine WL.val (Value.int .i64 (w64 ((k32 : Int) + (1 : Int)))) _ (op_assign rfl) rfl ?_
            refine WL.nil ?_
            obtain rfl := Option.some.inj hb37
            show ∃ s, _ = Ctl.next s ∧ _
            exact ⟨_, rfl, hf183, hf184, hf185, hf186, (ctr_next hl48 hr9), (ctr_rng hl48 hr9), hS188⟩
        · intro s195 f191 wd192 hs193 hI194
          obtain ⟨⟩ := s195
          replace hI194 : f191 1 = v_c ∧ f191 2 = (Value.pointer (some ⟨b1, 0, none⟩)) ∧ f191 5 = (Value.int .i64 ((c).length : Int)) ∧ f191 6 = (Value.int .i64 x13) ∧ f191 7 = Value.int .i64 (((c).length : Nat) : Int) ∧ InR .i64 (((c).length : Nat) : Int) ∧ St wd2 wd192 [] := hI194
          obtain ⟨hf196, hf197, hf198, hf199, hf200, hr201, hS202⟩ := hI194
          refine W.seq (W.seq (W.region ?_))
          refine WL.val (Value.int .i64 (((c).length : Nat) : Int)) _ (op_move hf200) rfl ?_
          refine WL.val (Value.int .i64 ((c).length : Int)) _ (op_move hf198) rfl ?_
          refine WL.val (Value.bool (decide ((((c).length : Nat) : Int) < ((c).length : Int)))) _ (op_lss rfl rfl) rfl ?_
          have hl203 : ¬ (((c).length : Nat) : Int) < ((c).length : Int) := by omega
          refine WL.nil ?_
          show W _ _ _ _ _ _
          refine W.condF (decide ((((c).length : Nat) : Int) < ((c).length : Int))) rfl (decide_eq_false hl203) ?_
          refine W.exit ?_
          show _ = _ ∧ _
          exact ⟨rfl, _, hs193, hf196, hf197, hf198, hf199, hS202⟩
      · rintro f204 wd205 ⟨s207, rfl, hq206⟩
        replace hb18 := onRes_fin hb18
        obtain ⟨⟩ := s207
        replace hq206 : f204 1 = v_c ∧ f204 2 = (Value.pointer (some ⟨b1, 0, none⟩)) ∧ f204 5 = (Value.int .i64 ((c).length : Int)) ∧ f204 6 = (Value.int .i64 x13) ∧ St wd2 wd205 [] := hq206
        obtain ⟨hf208, hf209, hf210, hf211, hS212⟩ := hq206
        show W _ _ _ _ _ _
        refine W.region ?_
        refine WL.val (Value.int .i64 x13) _ (op_move hf211) rfl ?_
        refine WL.val (Value.int .i64 (w64 (x13 + (1 : Int)))) _ (op_add rfl rfl) rfl ?_
        refine WL.val (Value.int .i64 (w64 (x13 + (1 : Int)))) _ (op_assign rfl) rfl ?_
        refine WL.nil ?_
        obtain rfl := Option.some.inj hb18
        show ∃ s, _ = Ctl.next s ∧ _
        exact ⟨_, rfl, hf208, hf209, hf210, rfl, (inR_wrap _ _), hS212⟩
    · replace hb18 := inegb hb18 hc28
      refine W.exit ?_
      obtain rfl := Option.some.inj hb18
      show _ = _ ∧ _
      exact ⟨rfl, _, hbrk20 _ rfl, hS27⟩
  · rintro f215 wd216 ⟨x219, rfl, hq217⟩
    replace h := onRes_fin h
    replace hq217 : St wd2 wd216 [] := hq217
    have hS220 := hq217
    show W _ _ _ _ _ _
    refine W.seq (W.region ?_)
    refine WL.val (Value.slice none 0 0) _ (op_assign rfl) rfl ?_
    refine WL.nil ?_
    show W _ _ _ _ _ _
    refine W.ret ?_
    obtain rfl := Option.some.inj h
    show FinP _ _ _ _ _ _ _
    exact FinP.ret _ (res1 rfl rfl) ⟨(Value.slice none 0 0), rfl, (Ext.trans hE7 hS220.ext), (St.out (St.pick (St.addNil (Ty.i .i64) hS220) [0] rfl) (hE7))⟩

theorem c_spec_l18Is {w : World} {b_Cocycle_Orders : (List Int)} {v_b_Cocycle_Orders : Value} {b_Cocycle_Modulus : Int} {b_Cocycle_Values : (List (List (List Int)))} {v_b_Cocycle_Values : Value} {b_Values : (List (List Int))} {v_b_Values : Value} (r_b_Cocycle_Orders : (Ty.sl (Ty.i .i64)).rep w v_b_Cocycle_Orders b_Cocycle_Orders) (r_b_Cocycle_Modulus : InR .i64 b_Cocycle_Modulus) (r_b_Cocycle_Values : (Ty.sl (Ty.sl (Ty.sl (Ty.i .i64)))).rep w v_b_Cocycle_Values b_Cocycle_Values) (r_b_Values : (Ty.sl (Ty.sl (Ty.i .i64))).rep w v_b_Values b_Values) {res : Bool} (h : p_spec_l18Is b_Cocycle_Orders b_Cocycle_Modulus b_Cocycle_Values b_Values  = some res) :
    Ret Try.prog 47 #[(Value.agg #[v_b_Cocycle_Orders, (Value.int .i64 b_Cocycle_Modulus), v_b_Cocycle_Values, v_b_Values])] w (fun v w' => v = Value.bool res ∧ Ext w w') := by
  unfold p_spec_l18Is at h
  have hS0 : St w w [] := St.start w
  refine Ret.start (fn := Try.f47) Try.func47 rfl 14 rfl rfl ?_
  refine W.seq (W.region ?_)
  refine WL.box hS0 rfl (cs := [v_b_Cocycle_Orders, (Value.int .i64 b_Cocycle_Modulus), v_b_Cocycle_Values, v_b_Values]) rfl rfl ?_
  intro b1 wd2 hS3 he4 hx5
  replace hS3 : St w wd2 [bx b1 [v_b_Cocycle_Orders, (Value.int .i64 b_Cocycle_Modulus), v_b_Cocycle_Values, v_b_Values]] := hS3
  have hx6 := St.boxAt hS3 0 rfl
  have hE7 : Ext w wd2 := hS3.ext
  have hS8 : St wd2 wd2 [] := St.start wd2
  refine WL.val (Value.bool false) _ (op_assign rfl) rfl ?_
  refine WL.nil ?_
  show W _ _ _ _ _ _
  refine W.seq (W.region ?_)
  refine WL.val (Value.agg #[v_b_Cocycle_Orders, (Value.int .i64 b_Cocycle_Modulus), v_b_Cocycle_Values, v_b_Values]) _ (op_loadBox st_42 rfl (BoxAt.lift hS8.ext hx6) rfl rfl) rfl ?_
  obtain ⟨x9, hx10, h⟩ := bs h
  refine WL.call _ (op_call fn_69 (args1 rfl)) (c_spec_l18Shape (Ty.lift _ (Ext.trans hE7 hS8.ext) r_b_Cocycle_Orders) r_b_Cocycle_Modulus (Ty.lift _ (Ext.trans hE7 hS8.ext) r_b_Cocycle_Values) (Ty.lift _ (Ext.trans hE7 hS8.ext) r_b_Values) hx10) rfl ?_
  rintro _ wd11 ⟨rfl, he12⟩
  have hS14 := St.extend hS8 he12
  replace hS14 : St wd2 wd11 [] := hS14
  refine WL.val (Value.bool x9) _ (op_move rfl) rfl ?_
  obtain ⟨x16, hj17, h⟩ := bs h
  refine WL.cut 8 (fun fq wq => fq 13 = Value.bool x16 ∧ St wd2 wq []) ?_ ?_
  · rcases Bool.eq_false_or_eq_true x9 with hc15 | hc15
    · replace hj17 := ip hj17 hc15
      refine WL.grun rfl (bool_of rfl hc15) ?_
      refine WL.val (Value.pointer (some ⟨b1, 0, none⟩)) _ (op_fieldAddr fd_42_0 rfl) rfl ?_
      refine WL.grun rfl (bool_of rfl hc15) ?_
      refine WL.val (Value.agg #[v_b_Cocycle_Orders, (Value.int .i64 b_Cocycle_Modulus), v_b_Cocycle_Values]) _ (op_loadBox st_30 rfl (BoxAt.lift hS14.ext hx6) rfl rfl) rfl ?_
      refine WL.grun rfl (bool_of rfl hc15) ?_
      refine WL.val (Value.pointer (some ⟨b1, 3, none⟩)) _ (op_fieldAddr fd_42_1 rfl) rfl ?_
      refine WL.grun rfl (bool_of rfl hc15) ?_
      refine WL.val v_b_Values _ (op_load one_27 rfl (BoxAt.cell (BoxAt.lift hS14.ext hx6) rfl)) rfl ?_
      refine WL.grun rfl (bool_of rfl hc15) ?_
      obtain ⟨x21, hx22, hj17⟩ := bs hj17
      refine WL.call _ (op_call fn_70 (args2 rfl rfl)) (c_spec_l18Fault (Ty.lift _ (Ext.trans hE7 hS14.ext) r_b_Cocycle_Orders) r_b_Cocycle_Modulus (Ty.lift _ (Ext.trans hE7 hS14.ext) r_b_Cocycle_Values) (Ty.lift _ (Ext.trans hE7 hS14.ext) r_b_Values) hx22) rfl ?_
      rintro u23 wd24 ⟨_, rfl, he25, hs26⟩
      have hS27 := St.join hS14 he25 hs26
      replace hS27 : St wd2 wd24 [(Ty.sl (Ty.i .i64)).at u23 x21] := hS27
      refine WL.grun rfl (bool_of rfl hc15) ?_
      have hr28 := inR_len (St.rep (t := (Ty.sl (Ty.i .i64))) hS27 0 rfl)
      refine WL.val (Value.int .i64 ((x21).length : Int)) _ (op_lenL sl_22 (St.rep (t := (Ty.sl (Ty.i .i64))) hS27 0 rfl) rfl) rfl ?_
      refine WL.grun rfl (bool_of rfl hc15) ?_
      refine WL.val (Value.bool (((x21).length : Int) == (0 : Int))) _ (op_eql rfl rfl) rfl ?_
      refine WL.val (Value.bool (((x21).length : Int) == (0 : Int))) _ (op_pick_t (evb_of rfl hc15) rfl) rfl ?_
      refine WL.nil ?_
      obtain rfl := Option.some.inj hj17
      exact ⟨rfl, rfl, (St.pick hS27 [] rfl)⟩
    · replace hj17 := inegb hj17 hc15
      refine WL.gskip rfl (bool_of rfl hc15) rfl ?_
      refine WL.gskip rfl (bool_of rfl hc15) rfl ?_
      refine WL.gskip rfl (bool_of rfl hc15) rfl ?_
      refine WL.gskip rfl (bool_of rfl hc15) rfl ?_
      refine WL.gskip rfl (bool_of rfl hc15) rfl ?_
      refine WL.gskip rfl (bool_of rfl hc15) rfl ?_
      refine WL.gskip rfl (bool_of rfl hc15) rfl ?_
      refine WL.val (Value.bool false) _ (op_pick_f (evb_of rfl hc15) rfl) rfl ?_
      refine WL.nil ?_
      obtain rfl := Option.some.inj hj17
      exact ⟨rfl, rfl, hS14⟩
  · intro f18 wd19 hq20
    obtain ⟨hf29, hS30⟩ := hq20
    refine WL.val (Value.bool x16) _ (op_assign hf29) rfl ?_
    refine WL.nil ?_
    show W _ _ _ _ _ _
    refine W.ret ?_
    obtain rfl := Option.some.inj h
    show FinP _ _ _ _ _ _ _
    exact FinP.ret _ (res1 rfl rfl) ⟨rfl, (Ext.trans hE7 hS30.ext)⟩

theorem c_impl_isPairing {w : World} {f1 : (List (List Int))} {v_f1 : Value} {n : Int} {m : Int} (r_f1 : (Ty.sl (Ty.sl (Ty.i .i64))).rep w v_f1 f1) (r_n : InR .i64 n) (r_m : InR .i64 m) {res : Bool} (h : p_impl_isPairing f1 n m  = some res) :
    Ret Try.prog 71 #[v_f1, (Value.int .i64 n), (Value.int .i64 m)] w (fun v w' => v = Value.bool res ∧ Ext w w') := by
  unfold p_impl_isPairing at h
  have hS0 : St w w [] := St.start w
  refine Ret.start (fn := Try.f71) Try.func71 rfl 35 rfl rfl ?_
  refine W.seq (W.region ?_)
  refine WL.val (Value.bool false) _ (op_assign rfl) rfl ?_
  refine WL.nil ?_
  show W _ _ _ _ _ _
  refine W.seq (W.seq (W.region ?_))
  refine WL.val v_f1 _ (op_move rfl) rfl ?_
  refine WL.val (Value.int .i64 n) _ (op_move rfl) rfl ?_
  refine WL.val (Value.int .i64 m) _ (op_move rfl) rfl ?_
  obtain ⟨x1, hx2, h⟩ := bs h
  refine WL.call _ (op_call fn_93 (args3 rfl rfl rfl)) (c_impl_isGrid (Ty.lift _ hS0.ext r_f1) r_n r_m hx2) rfl ?_
  rintro _ wd3 ⟨rfl, he4⟩
  have hS6 := St.extend hS0 he4
  replace hS6 : St w wd3 [] := hS6
  refine WL.val (Value.bool (!x1)) _ (op_not rfl) rfl ?_
  refine WL.nil ?_
  show W _ _ _ _ _ _
  refine W.cond (!x1) rfl (fun hc7 => ?_) (fun hc7 => ?_)
  · replace h := ip h hc7
    refine W.seq (W.region ?_)
    refine WL.val (Value.bool false) _ (op_assign rfl) rfl ?_
    refine WL.nil ?_
    show W _ _ _ _ _ _
    refine W.ret ?_
    obtain rfl := Option.some.inj h
    show FinP _ _ _ _ _ _ _
    exact FinP.ret _ (res1 rfl rfl) ⟨rfl, hS6.ext⟩
  · replace h := inegb h hc7
    refine W.skip ?_
    show W _ _ _ _ _ _
    refine W.seq (W.seq (W.region ?_))
    refine WL.val v_f1 _ (op_move rfl) rfl ?_
    have hr9 := inR_len (Ty.lift _ hS6.ext r_f1)
    refine WL.val (Value.int .i64 ((f1).length : Int)) _ (op_lenL sl_27 (Ty.lift _ hS6.ext r_f1) rfl) rfl ?_
    refine WL.val (Value.int .i64 (0 : Int)) _ (op_move rfl) rfl ?_
    refine WL.nil ?_
    show W _ _ _ _ _ _
    obtain ⟨res10, hres11, h⟩ := bs h
    refine W.blockLoop (fun fq wq => ∃ s, res10 = Res.fin s ∧ St w wq []) ?_ ?_
    · refine W.forN (fun k (s : Unit) fq wq => fq 0 = v_f1 ∧ fq 14 = (Value.int .i64 ((f1).length : Int)) ∧ fq 15 = Value.int .i64 (k : Int) ∧ InR .i64 (k : Int) ∧ St w wq []) hres11 ⟨rfl, rfl, rfl, (inR_i64.2 (show (-9223372036854775808 : Int) ≤ 0 ∧ (0 : Int) ≤ 9223372036854775807 from by decide)), hS6⟩ ?_ ?_
      · intro k12 s69 ct13 f14 wd15 hk16 hb17 hI18 hbrk19 hret20
        obtain ⟨⟩ := s69
        replace hI18 : f14 0 = v_f1 ∧ f14 14 = (Value.int .i64 ((f1).length : Int)) ∧ f14 15 = Value.int .i64 (k12 : Int) ∧ InR .i64 (k12 : Int) ∧ St w wd15 [] := hI18
        replace hb17 : p_impl_isPairing_L1 f1 k12  = some ct13 := hb17
        unfold p_impl_isPairing_L1 at hb17
        obtain ⟨hf21, hf22, hf23, hr24, hS25⟩ := hI18
        refine W.seq (W.region ?_)
        refine WL.val (Value.bool (decide ((k12 : Int) < ((f1).length : Int)))) _ (op_lss hf23 hf22) rfl ?_
        have hl26 : (k12 : Int) < ((f1).length : Int) := by omega
        refine WL.nil ?_
        show W _ _ _ _ _ _
        refine W.seq ?_
        refine W.condT (decide ((k12 : Int) < ((f1).length : Int))) rfl (decide_eq_true hl26) ?_
        refine W.skip ?_
        show W _ _ _ _ _ _
        refine W.seq ?_
        refine W.block ?_
        refine W.seq (W.region ?_)
        refine WL.val (Value.int .i64 (k12 : Int)) _ (op_move hf23) rfl ?_
        refine WL.val (Value.int .i64 (k12 : Int)) _ (op_assign rfl) rfl ?_
        refine WL.nil ?_
        show W _ _ _ _ _ _
        refine W.seq (W.region ?_)
        refine WL.val v_f1 _ (op_move hf21) rfl ?_
        obtain ⟨x28, hx31, hb17⟩ := bs hb17
        obtain ⟨ha29, hb30, hx31⟩ := idx_some hx31
        refine WL.val (Value.pointer (some (elA v_f1 ((0 : Int)).toNat))) _ (op_idx sl_27 (Ty.lift _ hS25.ext r_f1) rfl rfl ha29 hb30) rfl ?_
        obtain ⟨u32, hc33, hr34⟩ := repSl.el r_f1 hx31
        refine WL.val u32 _ (op_load one_22 rfl (Ext.cell hS25.ext hc33)) rfl ?_
        refine WL.val (Value.int .i64 (k12 : Int)) _ (op_move rfl) rfl ?_
        obtain ⟨x35, hx38, hb17⟩ := bs hb17
        obtain ⟨ha36, hb37, hx38⟩ := idx_some hx38
        refine WL.val (Value.pointer (some (elA u32 ((k12 : Int)).toNat))) _ (op_idx sl_22 (Ty.lift _ hS25.ext hr34) rfl rfl ha36 hb37) rfl ?_
        obtain ⟨u39, hc40, hr41⟩ := repSl.el hr34 hx38
        obtain ⟨rfl, hr41⟩ := hr41
        refine WL.val (Value.int .i64 x35) _ (op_load one_2 rfl (Ext.cell hS25.ext hc40)) rfl ?_
        refine WL.val (Value.bool (x35 != (0 : Int))) _ (op_neq rfl rfl) rfl ?_
        refine WL.val (Value.bool (x35 != (0 : Int))) _ (op_move rfl) rfl ?_
        obtain ⟨x43, hj44, hb17⟩ := bs hb17
        refine WL.cut 8 (fun fq wq => fq 0 = v_f1 ∧ fq 14 = (Value.int .i64 ((f1).length : Int)) ∧ fq 15 = (Value.int .i64 (k12 : Int)) ∧ fq 33 = Value.bool x43 ∧ St w wq []) ?_ ?_
        · rcases Bool.eq_false_or_eq_true (x35 != (0 : Int)) with hc42 | hc42
          · replace hj44 := ip hj44 hc42
            refine WL.gskip rfl (bool_of rfl hc42) rfl ?_
            refine WL.gskip rfl (bool_of rfl hc42) rfl ?_
            refine WL.gskip rfl (bool_of rfl hc42) rfl ?_
            refine WL.gskip rfl (bool_of rfl hc42) rfl ?_
            refine WL.gskip rfl (bool_of rfl hc42) rfl ?_
            refine WL.gskip rfl (bool_of rfl hc42) rfl ?_
            refine WL.gskip rfl (bool_of rfl hc42) rfl ?_
            refine WL.val (Value.bool true) _ (op_pick_t (evb_of rfl hc42) rfl) rfl ?_
            refine WL.nil ?_
            obtain rfl := Option.some.inj hj44
            exact ⟨rfl, hf21, hf22, hf23, rfl, hS25⟩
          · replace hj44 := inegb hj44 hc42
            refine WL.grun rfl (bool_of rfl hc42) ?_
            refine WL.val v_f1 _ (op_move hf21) rfl ?_
            refine WL.grun rfl (bool_of rfl hc42) ?_
            refine WL.val (Value.int .i64 (k12 : Int)) _ (op_move rfl) rfl ?_
            refine WL.grun rfl (bool_of rfl hc42) ?_
            obtain ⟨x48, hx51, hj44⟩ := bs hj44
            obtain ⟨ha49, hb50, hx51⟩ := idx_some hx51
            refine WL.val (Value.pointer (some (elA v_f1 ((k12 : Int)).toNat))) _ (op_idx sl_27 (Ty.lift _ hS25.ext r_f1) rfl rfl ha49 hb50) rfl ?_
            refine WL.grun rfl (bool_of rfl hc42) ?_
            obtain ⟨u52, hc53, hr54⟩ := repSl.el r_f1 hx51
            refine WL.val u52 _ (op_load one_22 rfl (Ext.cell hS25.ext hc53)) rfl ?_
            refine WL.grun rfl (bool_of rfl hc42) ?_
            obtain ⟨x55, hx58, hj44⟩ := bs hj44
            obtain ⟨ha56, hb57, hx58⟩ := idx_some hx58
            refine WL.val (Value.pointer (some (elA u52 ((0 : Int)).toNat))) _ (op_idx sl_22 (Ty.lift _ hS25.ext hr54) rfl rfl ha56 hb57) rfl ?_
            refine WL.grun rfl (bool_of rfl hc42) ?_
            obtain ⟨u59, hc60, hr61⟩ := repSl.el hr54 hx58
            obtain ⟨rfl, hr61⟩ := hr61
            refine WL.val (Value.int .i64 x55) _ (op_load one_2 rfl (Ext.cell hS25.ext hc60)) rfl ?_
            refine WL.grun rfl (bool_of rfl hc42) ?_
            refine WL.val (Value.bool (x55 != (0 : Int))) _ (op_neq rfl rfl) rfl ?_
            refine WL.val (Value.bool (x55 != (0 : Int))) _ (op_pick_f (evb_of rfl hc42) rfl) rfl ?_
            refine WL.nil ?_
            obtain rfl := Option.some.inj hj44
            exact ⟨rfl, hf21, hf22, hf23, rfl, hS25⟩
        · intro f45 wd46 hq47
          obtain ⟨hf62, hf63, hf64, hf65, hS66⟩ := hq47
          refine WL.nil ?_
          show W _ _ _ _ _ _
          refine W.cond x43 hf65 (fun hc67 => ?_) (fun hc67 => ?_)
          · replace hb17 := ip hb17 hc67
            refine W.seq (W.region ?_)
            refine WL.val (Value.bool false) _ (op_assign rfl) rfl ?_
            refine WL.nil ?_
            show W _ _ _ _ _ _
            refine W.ret ?_
            obtain rfl := Option.some.inj hb17
            obtain rfl := hret20 _ rfl
            replace h := onRes_ret h
            obtain rfl := Option.some.inj h
            show FinP _ _ _ _ _ _ _
            exact FinP.ret _ (res1 rfl rfl) ⟨rfl, hS66.ext⟩
          · replace hb17 := inegb hb17 hc67
            refine W.skip ?_
            show W _ _ _ _ _ _
            refine W.region ?_
            refine WL.val (Value.int .i64 (w64 ((k12 : Int) + (1 : Int)))) _ (op_add hf64 rfl) rfl ?_
            refine WL.val (Value.int .i64 (w64 ((k12 : Int) + (1 : Int)))) _ (op_move rfl) rfl ?_
            refine WL.nil ?_
            obtain rfl := Option.some.inj hb17
            show ∃ s, _ = Ctl.next s ∧ _
            exact ⟨_, rfl, hf62, hf63, (ctr_next hl26 hr9), (ctr_rng hl26 hr9), hS66⟩
      · intro s74 f70 wd71 hs72 hI73
        obtain ⟨⟩ := s74
        replace hI73 : f70 0 = v_f1 ∧ f70 14 = (Value.int .i64 ((f1).length : Int)) ∧ f70 15 = Value.int .i64 (((f1).length : Nat) : Int) ∧ InR .i64 (((f1).length : Nat) : Int) ∧ St w wd71 [] := hI73
        obtain ⟨hf75, hf76, hf77, hr78, hS79⟩ := hI73
        refine W.seq (W.region ?_)
        refine WL.val (Value.bool (decide ((((f1).length : Nat) : Int) < ((f1).length : Int)))) _ (op_lss hf77 hf76) rfl ?_
        have hl80 : ¬ (((f1).length : Nat) : Int) < ((f1).length : Int) := by omega
        refine WL.nil ?_
        show W _ _ _ _ _ _
        refine W.seq ?_
        refine W.condF (decide ((((f1).length : Nat) : Int) < ((f1).length : Int))) rfl (decide_eq_false hl80) ?_
        refine W.exit ?_
        show _ = _ ∧ _
        exact ⟨rfl, _, hs72, hS79⟩
    · rintro f81 wd82 ⟨s84, rfl, hq83⟩
      replace h := onRes_fin h
      obtain ⟨⟩ := s84
      replace hq83 : St w wd82 [] := hq83
      have hS85 := hq83
      show W _ _ _ _ _ _
      refine W.seq (W.region ?_)
      refine WL.val (Value.bool true) _ (op_assign rfl) rfl ?_
      refine WL.nil ?_
      show W _ _ _ _ _ _
      refine W.ret ?_
      obtain rfl := Option.some.inj h
      show FinP _ _ _ _ _ _ _
      exact FinP.ret _ (res1 rfl rfl) ⟨rfl, hS85.ext⟩

theorem c_impl_hasNumbers {w : World} {b_Cocycle_Orders : (List Int)} {v_b_Cocycle_Orders : Value} {b_Cocycle_Modulus : Int} {b_Cocycle_Values : (List (List (List Int)))} {v_b_Cocycle_Values : Value} {b_Values : (List (List Int))} {v_b_Values : Value} (r_b_Cocycle_Orders : (Ty.sl (Ty.i .i64)).rep w v_b_Cocycle_Orders b_Cocycle_Orders) (r_b_Cocycle_Modulus : InR .i64 b_Cocycle_Modulus) (r_b_Cocycle_Values : (Ty.sl (Ty.sl (Ty.sl (Ty.i .i64)))).rep w v_b_Cocycle_Values b_Cocycle_Values) (r_b_Values : (Ty.sl (Ty.sl (Ty.i .i64))).rep w v_b_Values b_Values) {res : Bool} (h : p_impl_hasNumbers b_Cocycle_Orders b_Cocycle_Modulus b_Cocycle_Values b_Values  = some res) :
    Ret Try.prog 48 #[(Value.agg #[v_b_Cocycle_Orders, (Value.int .i64 b_Cocycle_Modulus), v_b_Cocycle_Values, v_b_Values])] w (fun v w' => v = Value.bool res ∧ Ext w w') := by
  unfold p_impl_hasNumbers at h
  have hS0 : St w w [] := St.start w
  refine Ret.start (fn := Try.f48) Try.func48 rfl 18 rfl rfl ?_
  refine W.seq (W.region ?_)
  refine WL.box hS0 rfl (cs := [v_b_Cocycle_Orders, (Value.int .i64 b_Cocycle_Modulus), v_b_Cocycle_Values, v_b_Values]) rfl rfl ?_
  intro b1 wd2 hS3 he4 hx5
  replace hS3 : St w wd2 [bx b1 [v_b_Cocycle_Orders, (Value.int .i64 b_Cocycle_Modulus), v_b_Cocycle_Values, v_b_Values]] := hS3
  have hx6 := St.boxAt hS3 0 rfl
  have hE7 : Ext w wd2 := hS3.ext
  have hS8 : St wd2 wd2 [] := St.start wd2
  refine WL.val (Value.bool false) _ (op_assign rfl) rfl ?_
  refine WL.nil ?_
  show W _ _ _ _ _ _
  refine W.seq (W.region ?_)
  refine WL.val (Value.pointer (some ⟨b1, 0, none⟩)) _ (op_fieldAddr fd_42_0 rfl) rfl ?_
  refine WL.val (Value.agg #[v_b_Cocycle_Orders, (Value.int .i64 b_Cocycle_Modulus), v_b_Cocycle_Values]) _ (op_loadBox st_30 rfl (BoxAt.lift hS8.ext hx6) rfl rfl) rfl ?_
  obtain ⟨x9, hx10, h⟩ := bs h
  refine WL.call _ (op_call fn_40 (args1 rfl)) (c_impl_IsCocycle (Ty.lift _ (Ext.trans hE7 hS8.ext) r_b_Cocycle_Orders) r_b_Cocycle_Modulus (Ty.lift _ (Ext.trans hE7 hS8.ext) r_b_Cocycle_Values) hx10) rfl ?_
  rintro _ wd11 ⟨rfl, he12⟩
  have hS14 := St.extend hS8 he12
  replace hS14 : St wd2 wd11 [] := hS14
  refine WL.val (Value.bool x9) _ (op_move rfl) rfl ?_
  obtain ⟨x16, hj17, h⟩ := bs h
  refine WL.cut 11 (fun fq wq => fq 17 = Value.bool x16 ∧ St wd2 wq []) ?_ ?_
  · rcases Bool.eq_false_or_eq_true x9 with hc15 | hc15
    · replace hj17 := ip hj17 hc15
      refine WL.grun rfl (bool_of rfl hc15) ?_
      refine WL.val (Value.pointer (some ⟨b1, 3, none⟩)) _ (op_fieldAddr fd_42_1 rfl) rfl ?_
      refine WL.grun rfl (bool_of rfl hc15) ?_
      refine WL.val v_b_Values _ (op_load one_27 rfl (BoxAt.cell (BoxAt.lift hS14.ext hx6) rfl)) rfl ?_
      refine WL.grun rfl (bool_of rfl hc15) ?_
      refine WL.val (Value.pointer (some ⟨b1, 0, none⟩)) _ (op_fieldAddr fd_42_0 rfl) rfl ?_
      refine WL.grun rfl (bool_of rfl hc15) ?_
      refine WL.val (Value.pointer (some ⟨b1, 2, none⟩)) _ (op_fieldAddr fd_30_2 rfl) rfl ?_
      refine WL.grun rfl (bool_of rfl hc15) ?_
      refine WL.val v_b_Cocycle_Values _ (op_load one_23 rfl (BoxAt.cell (BoxAt.lift hS14.ext hx6) rfl)) rfl ?_
      refine WL.grun rfl (bool_of rfl hc15) ?_
      have hr21 := inR_len (Ty.lift _ (Ext.trans hE7 hS14.ext) r_b_Cocycle_Values)
      refine WL.val (Value.int .i64 ((b_Cocycle_Values).length : Int)) _ (op_lenL sl_23 (Ty.lift _ (Ext.trans hE7 hS14.ext) r_b_Cocycle_Values) rfl) rfl ?_
      refine WL.grun rfl (bool_of rfl hc15) ?_
      refine WL.val (Value.pointer (some ⟨b1, 0, none⟩)) _ (op_fieldAddr fd_42_0 rfl) rfl ?_
      refine WL.grun rfl (bool_of rfl hc15) ?_
      refine WL.val (Value.pointer (some ⟨b1, 1, none⟩)) _ (op_fieldAddr fd_30_1 rfl) rfl ?_
      refine WL.grun rfl (bool_of rfl hc15) ?_
      refine WL.val (Value.int .i64 b_Cocycle_Modulus) _ (op_load one_2 rfl (BoxAt.cell (BoxAt.lift hS14.ext hx6) rfl)) rfl ?_
      refine WL.grun rfl (bool_of rfl hc15) ?_
      obtain ⟨x22, hx23, hj17⟩ := bs hj17
      refine WL.call _ (op_call fn_71 (args3 rfl rfl rfl)) (c_impl_isPairing (Ty.lift _ (Ext.trans hE7 hS14.ext) r_b_Values) hr21 r_b_Cocycle_Modulus hx23) rfl ?_
      rintro _ wd24 ⟨rfl, he25⟩
      have hS27 := St.extend hS14 he25
      replace hS27 : St wd2 wd24 [] := hS27
      refine WL.val (Value.bool x22) _ (op_pick_t (evb_of rfl hc15) rfl) rfl ?_
      refine WL.nil ?_
      obtain rfl := Option.some.inj hj17
      exact ⟨rfl, rfl, hS27⟩
    · replace hj17 := inegb hj17 hc15
      refine WL.gskip rfl (bool_of rfl hc15) rfl ?_
      refine WL.gskip rfl (bool_of rfl hc15) rfl ?_
      refine WL.gskip rfl (bool_of rfl hc15) rfl ?_
      refine WL.gskip rfl (bool_of rfl hc15) rfl ?_
      refine WL.gskip rfl (bool_of rfl hc15) rfl ?_
      refine WL.gskip rfl (bool_of rfl hc15) rfl ?_
      refine WL.gskip rfl (bool_of rfl hc15) rfl ?_
      refine WL.gskip rfl (bool_of rfl hc15) rfl ?_
      refine WL.gskip rfl (bool_of rfl hc15) rfl ?_
      refine WL.gskip rfl (bool_of rfl hc15) rfl ?_
      refine WL.val (Value.bool false) _ (op_pick_f (evb_of rfl hc15) rfl) rfl ?_
      refine WL.nil ?_
      obtain rfl := Option.some.inj hj17
      exact ⟨rfl, rfl, hS14⟩
  · intro f18 wd19 hq20
    obtain ⟨hf28, hS29⟩ := hq20
    refine WL.val (Value.bool x16) _ (op_assign hf28) rfl ?_
    refine WL.nil ?_
    show W _ _ _ _ _ _
    refine W.ret ?_
    obtain rfl := Option.some.inj h
    show FinP _ _ _ _ _ _ _
    exact FinP.ret _ (res1 rfl rfl) ⟨rfl, (Ext.trans hE7 hS29.ext)⟩

theorem c_impl_Braiding_holds {w : World} {b_Cocycle_Orders : (List Int)} {v_b_Cocycle_Orders : Value} {b_Cocycle_Modulus : Int} {b_Cocycle_Values : (List (List (List Int)))} {v_b_Cocycle_Values : Value} {b_Values : (List (List Int))} {v_b_Values : Value} {equation : Int} {x : Int} {y : Int} {z : Int} (r_b_Cocycle_Orders : (Ty.sl (Ty.i .i64)).rep w v_b_Cocycle_Orders b_Cocycle_Orders) (r_b_Cocycle_Modulus : InR .i64 b_Cocycle_Modulus) (r_b_Cocycle_Values : (Ty.sl (Ty.sl (Ty.sl (Ty.i .i64)))).rep w v_b_Cocycle_Values b_Cocycle_Values) (r_b_Values : (Ty.sl (Ty.sl (Ty.i .i64))).rep w v_b_Values b_Values) (r_equation : InR .i64 equation) (r_x : InR .i64 x) (r_y : InR .i64 y) (r_z : InR .i64 z) {res : Bool} (h : p_impl_Braiding_holds b_Cocycle_Orders b_Cocycle_Modulus b_Cocycle_Values b_Values equation x y z  = some res) :
    Ret Try.prog 72 #[(Value.agg #[v_b_Cocycle_Orders, (Value.int .i64 b_Cocycle_Modulus), v_b_Cocycle_Values, v_b_Values]), (Value.int .i64 equation), (Value.int .i64 x), (Value.int .i64 y), (Value.int .i64 z)] w (fun v w' => v = Value.bool res ∧ Ext w w') := by
  unfold p_impl_Braiding_holds at h
  have hS0 : St w w [] := St.start w
  refine Ret.start (fn := Try.f72) Try.func72 rfl 149 rfl rfl ?_
  refine W.seq (W.region ?_)
  refine WL.box hS0 rfl (cs := [v_b_Cocycle_Orders, (Value.int .i64 b_Cocycle_Modulus), v_b_Cocycle_Values, v_b_Values]) rfl rfl ?_
  intro b1 wd2 hS3 he4 hx5
  replace hS3 : St w wd2 [bx b1 [v_b_Cocycle_Orders, (Value.int .i64 b_Cocycle_Modulus), v_b_Cocycle_Values, v_b_Values]] := hS3
  have hx6 := St.boxAt hS3 0 rfl
  have hE7 : Ext w wd2 := hS3.ext
  have hS8 : St wd2 wd2 [] := St.start wd2
  refine WL.val (Value.bool false) _ (op_assign rfl) rfl ?_
  refine WL.nil ?_
  show W _ _ _ _ _ _
  refine W.seq ?_
  refine W.drawR mixo 10 [] [fun _ v _ _ => v = (Value.pointer (some ⟨b1, 0, none⟩)), fun _ v _ _ => v = (Value.pointer (some ⟨b1, 2, none⟩)), fun _ v _ _ => v = v_b_Cocycle_Values, fun _ v _ _ => v = (Value.pointer (some ⟨b1, 3, none⟩)), fun _ v _ _ => v = v_b_Values, fun _ v _ _ => v = (Value.pointer (some ⟨b1, 0, none⟩)), fun _ v S w' => v = (Value.agg #[v_b_Cocycle_Orders, (Value.int .i64 b_Cocycle_Modulus), v_b_Cocycle_Values]) ∧ InR .i64 b_Cocycle_Modulus, fun _ v S w' => ∃ b : Nat, v = Value.pointer (some ⟨b, 0, none⟩) ∧ SepS S w' [bx b [(Value.slice none 0 0), (Value.int .i64 (0 : Int)), (Value.slice none 0 0)]], fun _ v _ _ => v = v_b_Cocycle_Values, fun _ v _ _ => v = v_b_Values] (by kernel_rfl) (by kernel_rfl) ⟨⟨fun _ _ _ _ _ _ h => h, fun _ _ _ _ _ _ h => h⟩, ⟨fun _ _ _ _ _ _ h => h, fun _ _ _ _ _ _ h => h⟩, ⟨fun _ _ _ _ _ _ h => h, fun _ _ _ _ _ _ h => h⟩, ⟨fun _ _ _ _ _ _ h => h, fun _ _ _ _ _ _ h => h⟩, ⟨fun _ _ _ _ _ _ h => h, fun _ _ _ _ _ _ h => h⟩, ⟨fun _ _ _ _ _ _ h => h, fun _ _ _ _ _ _ h => h⟩, ⟨fun _ _ _ _ _ he ⟨h0, h1⟩ => ⟨h0, h1⟩, fun _ _ _ _ _ _ h => h⟩, ⟨fun _ _ _ _ _ he ⟨b, h1, h2⟩ => ⟨b, h1, SepS.extend he h2⟩, fun _ _ _ _ _ _ h => h⟩, ⟨fun _ _ _ _ _ _ h => h, fun _ _ _ _ _ _ h => h⟩, ⟨fun _ _ _ _ _ _ h => h, fun _ _ _ _ _ _ h => h⟩, trivial⟩ ⟨?_, ?_, ?_, ?_, ?_, ?_, ?_, ?_, ?_, ?_, trivial⟩ ?_
  · refine ObX.op rfl ?_
    intro f9 wd10 he11 hout12 hphi13
    have hS14 : St wd2 wd10 [] := St.extend hS8 he11
    have e15 : f9 5 = (Value.pointer (some ⟨b1, 0, none⟩)) := (hout12 5 rfl).trans rfl
    exact OpX.val (Value.pointer (some ⟨b1, 0, none⟩)) wd10 rfl (op_fieldAddr fd_42_0 e15) (Ext.refl _) rfl
  · refine ObX.op rfl ?_
    intro f16 wd17 he18 hout19 hphi20
    have hS21 : St wd2 wd17 [] := St.extend hS8 he18
    obtain ⟨S22, hS23, hf24⟩ := hphi20 0 14 _ rfl rfl rfl
    have e25 : f16 14 = (Value.pointer (some ⟨b1, 0, none⟩)) := hf24
    exact OpX.val (Value.pointer (some ⟨b1, 2, none⟩)) wd17 rfl (op_fieldAddr fd_30_2 e25) (Ext.refl _) rfl
  · refine ObX.op rfl ?_
    intro f26 wd27 he28 hout29 hphi30
    have hS31 : St wd2 wd27 [] := St.extend hS8 he28
    obtain ⟨S32, hS33, hf34⟩ := hphi30 1 15 _ rfl rfl rfl
    have e35 : f26 15 = (Value.pointer (some ⟨b1, 2, none⟩)) := hf34
    exact OpX.val v_b_Cocycle_Values wd27 rfl (op_load one_23 e35 (BoxAt.cell (BoxAt.lift hS31.ext hx6) rfl)) (Ext.refl _) rfl
  · refine ObX.op rfl ?_
    intro f36 wd37 he38 hout39 hphi40
    have hS41 : St wd2 wd37 [] := St.extend hS8 he38
    have e42 : f36 5 = (Value.pointer (some ⟨b1, 0, none⟩)) := (hout39 5 rfl).trans rfl
    exact OpX.val (Value.pointer (some ⟨b1, 3, none⟩)) wd37 rfl (op_fieldAddr fd_42_1 e42) (Ext.refl _) rfl
  · refine ObX.op rfl ?_
    intro f43 wd44 he45 hout46 hphi47
    have hS48 : St wd2 wd44 [] := St.extend hS8 he45
    obtain ⟨S49, hS50, hf51⟩ := hphi47 3 17 _ rfl rfl rfl
    have e52 : f43 17 = (Value.pointer (some ⟨b1, 3, none⟩)) := hf51
    exact OpX.val v_b_Values wd44 rfl (op_load one_27 e52 (BoxAt.cell (BoxAt.lift hS48.ext hx6) rfl)) (Ext.refl _) rfl
  · refine ObX.op rfl ?_
    intro f53 wd54 he55 hout56 hphi57
    have hS58 : St wd2 wd54 [] := St.extend hS8 he55
    have e59 : f53 5 = (Value.pointer (some ⟨b1, 0, none⟩)) := (hout56 5 rfl).trans rfl
    exact OpX.val (Value.pointer (some ⟨b1, 0, none⟩)) wd54 rfl (op_fieldAddr fd_42_0 e59) (Ext.refl _) rfl
  · refine ObX.op rfl ?_
    intro f60 wd61 he62 hout63 hphi64
    have hS65 : St wd2 wd61 [] := St.extend hS8 he62
    obtain ⟨S66, hS67, hf68⟩ := hphi64 5 19 _ rfl rfl rfl
    have e69 : f60 19 = (Value.pointer (some ⟨b1, 0, none⟩)) := hf68
    exact OpX.val (Value.agg #[v_b_Cocycle_Orders, (Value.int .i64 b_Cocycle_Modulus), v_b_Cocycle_Values]) wd61 rfl (op_loadBox st_30 e69 (BoxAt.lift hS65.ext hx6) rfl rfl) (Ext.refl _) ⟨rfl, r_b_Cocycle_Modulus⟩
  · refine ObX.op rfl ?_
    intro f70 wd71 he72 hout73 hphi74
    have hS75 : St wd2 wd71 [] := St.extend hS8 he72
    exact OpX.valO _ _ rfl (op_alloc (cs := [(Value.slice none 0 0), (Value.int .i64 (0 : Int)), (Value.slice none 0 0)].toArray) ze_30 rfl) (Ext.alloc _ _) ⟨_, rfl, Sep.new (sep_box _ [(Value.slice none 0 0), (Value.int .i64 (0 : Int)), (Value.slice none 0 0)] _)⟩
  · refine ObX.op rfl ?_
    intro f76 wd77 he78 hout79 hphi80
    have hS81 : St wd2 wd77 [] := St.extend hS8 he78
    obtain ⟨S82, hS83, hf84⟩ := hphi80 2 16 _ rfl rfl rfl
    have e85 : f76 16 = v_b_Cocycle_Values := hf84
    exact OpX.val v_b_Cocycle_Values wd77 rfl (op_assign e85) (Ext.refl _) rfl
  · refine ObX.op rfl ?_
    intro f86 wd87 he88 hout89 hphi90
    have hS91 : St wd2 wd87 [] := St.extend hS8 he88
    obtain ⟨S92, hS93, hf94⟩ := hphi90 4 18 _ rfl rfl rfl
    have e95 : f86 18 = v_b_Values := hf94
    exact OpX.val v_b_Values wd87 rfl (op_assign e95) (Ext.refl _) rfl
  · intro f96 wd97 Ss98 he99 hout100 hSn101 hSd102 hphi103
    show WL _ _ _ _ _ _ _
    have hS104 : St wd2 wd97 [] := St.extend hS8 he99
    obtain ⟨e105, hr106⟩ := hphi103 6 20 _ (by decide) rfl rfl
    obtain ⟨b108, e107, e107s⟩ : ∃ b : Nat, f96 13 = Value.pointer (some ⟨b, 0, none⟩) ∧ SepS (Ss98 7) wd97 [bx b [(Value.slice none 0 0), (Value.int .i64 (0 : Int)), (Value.slice none 0 0)]] := hphi103 7 13 _ (by decide) rfl rfl
    have e109 : f96 11 = v_b_Cocycle_Values := hphi103 8 11 _ (by decide) rfl rfl
    have e110 : f96 12 = v_b_Values := hphi103 9 12 _ (by decide) rfl rfl
    have e111 : f96 1 = (Value.int .i64 equation) := (hout100 1 rfl).trans rfl
    have e112 : f96 2 = (Value.int .i64 x) := (hout100 2 rfl).trans rfl
    have e113 : f96 3 = (Value.int .i64 y) := (hout100 3 rfl).trans rfl
    have e114 : f96 4 = (Value.int .i64 z) := (hout100 4 rfl).trans rfl
    have hS115 := St.joinS hS8 he99 hSn101 (SepS.consS hSd102 rfl e107s SepS.nilS)
    replace hS115 : St wd2 wd97 [bx b108 [(Value.slice none 0 0), (Value.int .i64 (0 : Int)), (Value.slice none 0 0)]] := hS115
    refine WL.storeBox [v_b_Cocycle_Orders, (Value.int .i64 b_Cocycle_Modulus), v_b_Cocycle_Values] hS115 (k := 0) rfl e107 e105 (us := [v_b_Cocycle_Orders, (Value.int .i64 b_Cocycle_Modulus), v_b_Cocycle_Values]) rfl sz_30 rfl rfl (all_rep (Ty.lift _ (Ext.trans hE7 hS115.ext) r_b_Cocycle_Orders) (all_cons rfl (all_rep (Ty.lift _ (Ext.trans hE7 hS115.ext) r_b_Cocycle_Values) all_nil))) rfl ?_
    intro wd116 hS117
    replace hS117 : St wd2 wd116 [bx b108 [v_b_Cocycle_Orders, (Value.int .i64 b_Cocycle_Modulus), v_b_Cocycle_Values]] := hS117
    refine WL.nil ?_
    show W _ _ _ _ _ _
    refine W.seq (W.seq (W.region ?_))
    refine WL.val (Value.int .i64 equation) _ (op_move e111) rfl ?_
    refine WL.val (Value.bool (equation == (1 : Int))) _ (op_eql rfl rfl) rfl ?_
    refine WL.nil ?_
    show W _ _ _ _ _ _
    refine W.cond (equation == (1 : Int)) rfl (fun hc118 => ?_) (fun hc118 => ?_)
    · replace h := ip h hc118
      refine W.seq ?_
      obtain ⟨x156, hx159, h⟩ := bs h
      obtain ⟨ha157, hb158, hx159⟩ := idx_some hx159
      obtain ⟨u170, hc171, hr172⟩ := repSl.el r_b_Cocycle_Values hx159
      obtain ⟨x195, hx198, h⟩ := bs h
      obtain ⟨ha196, hb197, hx198⟩ := idx_some hx198
      obtain ⟨u209, hc210, hr211⟩ := repSl.el hr172 hx198
      obtain ⟨x234, hx237, h⟩ := bs h
      obtain ⟨ha235, hb236, hx237⟩ := idx_some hx237
      obtain ⟨u248, hc249, hr250⟩ := repSl.el hr211 hx237
      obtain ⟨rfl, hr250⟩ := hr250
      obtain ⟨x280, hx283, h⟩ := bs h
      obtain ⟨ha281, hb282, hx283⟩ := idx_some hx283
      obtain ⟨u294, hc295, hr296⟩ := repSl.el r_b_Values hx283
      obtain ⟨x339, hx340, h⟩ := bs h
      obtain ⟨x360, hx363, h⟩ := bs h
      obtain ⟨ha361, hb362, hx363⟩ := idx_some hx363
      obtain ⟨u374, hc375, hr376⟩ := repSl.el hr296 hx363
      obtain ⟨rfl, hr376⟩ := hr376
      obtain ⟨x422, hx425, h⟩ := bs h
      obtain ⟨ha423, hb424, hx425⟩ := idx_some hx425
      obtain ⟨u436, hc437, hr438⟩ := repSl.el r_b_Cocycle_Values hx425
      obtain ⟨x461, hx464, h⟩ := bs h
      obtain ⟨ha462, hb463, hx464⟩ := idx_some hx464
      obtain ⟨u475, hc476, hr477⟩ := repSl.el hr438 hx464
      obtain ⟨x500, hx503, h⟩ := bs h
      obtain ⟨ha501, hb502, hx503⟩ := idx_some hx503
      obtain ⟨u514, hc515, hr516⟩ := repSl.el hr477 hx503
      obtain ⟨rfl, hr516⟩ := hr516
      obtain ⟨x549, hx550, h⟩ := bs h
      obtain ⟨u601, hc602, hr603⟩ := repSl.el r_b_Values hx283
      obtain ⟨x626, hx629, h⟩ := bs h
      obtain ⟨ha627, hb628, hx629⟩ := idx_some hx629
      obtain ⟨u640, hc641, hr642⟩ := repSl.el hr603 hx629
      obtain ⟨rfl, hr642⟩ := hr642
      obtain ⟨u682, hc683, hr684⟩ := repSl.el r_b_Cocycle_Values hx159
      obtain ⟨x707, hx710, h⟩ := bs h
      obtain ⟨ha708, hb709, hx710⟩ := idx_some hx710
      obtain ⟨u721, hc722, hr723⟩ := repSl.el hr684 hx710
      obtain ⟨x746, hx749, h⟩ := bs h
      obtain ⟨ha747, hb748, hx749⟩ := idx_some hx749
      obtain ⟨u760, hc761, hr762⟩ := repSl.el hr723 hx749
      obtain ⟨rfl, hr762⟩ := hr762
      obtain ⟨u818, hc819, hr820⟩ := repSl.el r_b_Values hx283
      obtain ⟨x843, hx846, h⟩ := bs h
      obtain ⟨ha844, hb845, hx846⟩ := idx_some hx846
      obtain ⟨u857, hc858, hr859⟩ := repSl.el hr820 hx846
      obtain ⟨rfl, hr859⟩ := hr859
      refine W.drawR mixo 61 [] [fun _ v S w' => v = (Value.agg #[v_b_Cocycle_Orders, (Value.int .i64 b_Cocycle_Modulus), v_b_Cocycle_Values]) ∧ InR .i64 b_Cocycle_Modulus, fun _ v _ _ => v = v_b_Cocycle_Values, fun _ v _ _ => v = (Value.int .i64 y) ∧ InR .i64 y, fun _ v _ _ => v = (Value.pointer (some (elA v_b_Cocycle_Values (y).toNat))), fun _ v _ _ => v = u170, fun _ v _ _ => v = (Value.int .i64 z) ∧ InR .i64 z, fun _ v _ _ => v = (Value.pointer (some (elA u170 (z).toNat))), fun _ v _ _ => v = u209, fun _ v _ _ => v = (Value.int .i64 x) ∧ InR .i64 x, fun _ v _ _ => v = (Value.pointer (some (elA u209 (x).toNat))), fun _ v _ _ => v = (Value.int .i64 x234) ∧ InR .i64 x234, fun _ v _ _ => v = v_b_Values, fun _ v _ _ => v = (Value.int .i64 x) ∧ InR .i64 x, fun _ v _ _ => v = (Value.pointer (some (elA v_b_Values (x).toNat))), fun _ v _ _ => v = u294, fun _ v S w' => v = (Value.agg #[v_b_Cocycle_Orders, (Value.int .i64 b_Cocycle_Modulus), v_b_Cocycle_Values]) ∧ InR .i64 b_Cocycle_Modulus, fun _ v _ _ => v = (Value.int .i64 y) ∧ InR .i64 y, fun _ v _ _ => v = (Value.int .i64 z) ∧ InR .i64 z, fun _ v _ _ => v = (Value.int .i64 x339) ∧ InR .i64 x339, fun _ v _ _ => v = (Value.pointer (some (elA u294 (x339).toNat))), fun _ v _ _ => v = (Value.int .i64 x360) ∧ InR .i64 x360, fun _ v _ _ => v = (Value.int .i64 (w64 (x234 + x360))) ∧ InR .i64 (w64 (x234 + x360)), fun _ v _ _ => v = v_b_Cocycle_Values, fun _ v _ _ => v = (Value.int .i64 x) ∧ InR .i64 x, fun _ v _ _ => v = (Value.pointer (some (elA v_b_Cocycle_Values (x).toNat))), fun _ v _ _ => v = u436, fun _ v _ _ => v = (Value.int .i64 y) ∧ InR .i64 y, fun _ v _ _ => v = (Value.pointer (some (elA u436 (y).toNat))), fun _ v _ _ => v = u475, fun _ v _ _ => v = (Value.int .i64 z) ∧ InR .i64 z, fun _ v _ _ => v = (Value.pointer (some (elA u475 (z).toNat))), fun _ v _ _ => v = (Value.int .i64 x500) ∧ InR .i64 x500, fun _ v _ _ => v = (Value.int .i64 (w64 ((w64 (x234 + x360)) + x500))) ∧ InR .i64 (w64 ((w64 (x234 + x360)) + x500)), fun _ v _ _ => v = (Value.int .i64 x549) ∧ InR .i64 x549, fun _ v S w' => v = (Value.agg #[v_b_Cocycle_Orders, (Value.int .i64 b_Cocycle_Modulus), v_b_Cocycle_Values]) ∧ InR .i64 b_Cocycle_Modulus, fun _ v _ _ => v = v_b_Values, fun _ v _ _ => v = (Value.int .i64 x) ∧ InR .i64 x, fun _ v _ _ => v = (Value.pointer (some (elA v_b_Values (x).toNat))), fun _ v _ _ => v = u601, fun _ v _ _ => v = (Value.int .i64 z) ∧ InR .i64 z, fun _ v _ _ => v = (Value.pointer (some (elA u601 (z).toNat))), fun _ v _ _ => v = (Value.int .i64 x626) ∧ InR .i64 x626, fun _ v _ _ => v = v_b_Cocycle_Values, fun _ v _ _ => v = (Value.int .i64 y) ∧ InR .i64 y, fun _ v _ _ => v = (Value.pointer (some (elA v_b_Cocycle_Values (y).toNat))), fun _ v _ _ => v = u682, fun _ v _ _ => v = (Value.int .i64 x) ∧ InR .i64 x, fun _ v _ _ => v = (Value.pointer (some (elA u682 (x).toNat))), fun _ v _ _ => v = u721, fun _ v _ _ => v = (Value.int .i64 z) ∧ InR .i64 z, fun _ v _ _ => v = (Value.pointer (some (elA u721 (z).toNat))), fun _ v _ _ => v = (Value.int .i64 x746) ∧ InR .i64 x746, fun _ v _ _ => v = (Value.int .i64 (w64 (x626 + x746))) ∧ InR .i64 (w64 (x626 + x746)), fun _ v _ _ => v = v_b_Values, fun _ v _ _ => v = (Value.int .i64 x) ∧ InR .i64 x, fun _ v _ _ => v = (Value.pointer (some (elA v_b_Values (x).toNat))), fun _ v _ _ => v = u818, fun _ v _ _ => v = (Value.int .i64 y) ∧ InR .i64 y, fun _ v _ _ => v = (Value.pointer (some (elA u818 (y).toNat))), fun _ v _ _ => v = (Value.int .i64 x843) ∧ InR .i64 x843, fun _ v _ _ => v = (Value.int .i64 (w64 ((w64 (x626 + x746)) + x843))) ∧ InR .i64 (w64 ((w64 (x626 + x746)) + x843))] (by kernel_rfl) (by kernel_rfl) ⟨⟨fun _ _ _ _ _ he ⟨h0, h1⟩ => ⟨h0, h1⟩, fun _ _ _ _ _ _ h => h⟩, ⟨fun _ _ _ _ _ _ h => h, fun _ _ _ _ _ _ h => h⟩, ⟨fun _ _ _ _ _ _ h => h, fun _ _ _ _ _ _ h => h⟩, ⟨fun _ _ _ _ _ _ h => h, fun _ _ _ _ _ _ h => h⟩, ⟨fun _ _ _ _ _ _ h => h, fun _ _ _ _ _ _ h => h⟩, ⟨fun _ _ _ _ _ _ h => h, fun _ _ _ _ _ _ h => h⟩, ⟨fun _ _ _ _ _ _ h => h, fun _ _ _ _ _ _ h => h⟩, ⟨fun _ _ _ _ _ _ h => h, fun _ _ _ _ _ _ h => h⟩, ⟨fun _ _ _ _ _ _ h => h, fun _ _ _ _ _ _ h => h⟩, ⟨fun _ _ _ _ _ _ h => h, fun _ _ _ _ _ _ h => h⟩, ⟨fun _ _ _ _ _ _ h => h, fun _ _ _ _ _ _ h => h⟩, ⟨fun _ _ _ _ _ _ h => h, fun _ _ _ _ _ _ h => h⟩, ⟨fun _ _ _ _ _ _ h => h, fun _ _ _ _ _ _ h => h⟩, ⟨fun _ _ _ _ _ _ h => h, fun _ _ _ _ _ _ h => h⟩, ⟨fun _ _ _ _ _ _ h => h, fun _ _ _ _ _ _ h => h⟩, ⟨fun _ _ _ _ _ he ⟨h0, h1⟩ => ⟨h0, h1⟩, fun _ _ _ _ _ _ h => h⟩, ⟨fun _ _ _ _ _ _ h => h, fun _ _ _ _ _ _ h => h⟩, ⟨fun _ _ _ _ _ _ h => h, fun _ _ _ _ _ _ h => h⟩, ⟨fun _ _ _ _ _ _ h => h, fun _ _ _ _ _ _ h => h⟩, ⟨fun _ _ _ _ _ _ h => h, fun _ _ _ _ _ _ h => h⟩, ⟨fun _ _ _ _ _ _ h => h, fun _ _ _ _ _ _ h => h⟩, ⟨fun _ _ _ _ _ _ h => h, fun _ _ _ _ _ _ h => h⟩, ⟨fun _ _ _ _ _ _ h => h, fun _ _ _ _ _ _ h => h⟩, ⟨fun _ _ _ _ _ _ h => h, fun _ _ _ _ _ _ h => h⟩, ⟨fun _ _ _ _ _ _ h => h, fun _ _ _ _ _ _ h => h⟩, ⟨fun _ _ _ _ _ _ h => h, fun _ _ _ _ _ _ h => h⟩, ⟨fun _ _ _ _ _ _ h => h, fun _ _ _ _ _ _ h => h⟩, ⟨fun _ _ _ _ _ _ h => h, fun _ _ _ _ _ _ h => h⟩, ⟨fun _ _ _ _ _ _ h => h, fun _ _ _ _ _ _ h => h⟩, ⟨fun _ _ _ _ _ _ h => h, fun _ _ _ _ _ _ h => h⟩, ⟨fun _ _ _ _ _ _ h => h, fun _ _ _ _ _ _ h => h⟩, ⟨fun _ _ _ _ _ _ h => h, fun _ _ _ _ _ _ h => h⟩, ⟨fun _ _ _ _ _ _ h => h, fun _ _ _ _ _ _ h => h⟩, ⟨fun _ _ _ _ _ _ h => h, fun _ _ _ _ _ _ h => h⟩, ⟨fun _ _ _ _ _ he ⟨h0, h1⟩ => ⟨h0, h1⟩, fun _ _ _ _ _ _ h => h⟩, ⟨fun _ _ _ _ _ _ h => h, fun _ _ _ _ _ _ h => h⟩, ⟨fun _ _ _ _ _ _ h => h, fun _ _ _ _ _ _ h => h⟩, ⟨fun _ _ _ _ _ _ h => h, fun _ _ _ _ _ _ h => h⟩, ⟨fun _ _ _ _ _ _ h => h, fun _ _ _ _ _ _ h => h⟩, ⟨fun _ _ _ _ _ _ h => h, fun _ _ _ _ _ _ h => h⟩, ⟨fun _ _ _ _ _ _ h => h, fun _ _ _ _ _ _ h => h⟩, ⟨fun _ _ _ _ _ _ h => h, fun _ _ _ _ _ _ h => h⟩, ⟨fun _ _ _ _ _ _ h => h, fun _ _ _ _ _ _ h => h⟩, ⟨fun _ _ _ _ _ _ h => h, fun _ _ _ _ _ _ h => h⟩, ⟨fun _ _ _ _ _ _ h => h, fun _ _ _ _ _ _ h => h⟩, ⟨fun _ _ _ _ _ _ h => h, fun _ _ _ _ _ _ h => h⟩, ⟨fun _ _ _ _ _ _ h => h, fun _ _ _ _ _ _ h => h⟩, ⟨fun _ _ _ _ _ _ h => h, fun _ _ _ _ _ _ h => h⟩, ⟨fun _ _ _ _ _ _ h => h, fun _ _ _ _ _ _ h => h⟩, ⟨fun _ _ _ _ _ _ h => h, fun _ _ _ _ _ _ h => h⟩, ⟨fun _ _ _ _ _ _ h => h, fun _ _ _ _ _ _ h => h⟩, ⟨fun _ _ _ _ _ _ h => h, fun _ _ _ _ _ _ h => h⟩, ⟨fun _ _ _ _ _ _ h => h, fun _ _ _ _ _ _ h => h⟩, ⟨fun _ _ _ _ _ _ h => h, fun _ _ _ _ _ _ h => h⟩, ⟨fun _ _ _ _ _ _ h => h, fun _ _ _ _ _ _ h => h⟩, ⟨fun _ _ _ _ _ _ h => h, fun _ _ _ _ _ _ h => h⟩, ⟨fun _ _ _ _ _ _ h => h, fun _ _ _ _ _ _ h => h⟩, ⟨fun _ _ _ _ _ _ h => h, fun _ _ _ _ _ _ h => h⟩, ⟨fun _ _ _ _ _ _ h => h, fun _ _ _ _ _ _ h => h⟩, ⟨fun _ _ _ _ _ _ h => h, fun _ _ _ _ _ _ h => h⟩, ⟨fun _ _ _ _ _ _ h => h, fun _ _ _ _ _ _ h => h⟩, trivial⟩ ⟨?_, ?_, ?_, ?_, ?_, ?_, ?_, ?_, ?_, ?_, ?_, ?_, ?_, ?_, ?_, ?_, ?_, ?_, ?_, ?_, ?_, ?_, ?_, ?_, ?_, ?_, ?_, ?_, ?_, ?_, ?_, ?_, ?_, ?_, ?_, ?_, ?_, ?_, ?_, ?_, ?_, ?_, ?_, ?_, ?_, ?_, ?_, ?_, ?_, ?_, ?_, ?_, ?_, ?_, ?_, ?_, ?_, ?_, ?_, ?_, ?_, trivial⟩ ?_
      · refine ObX.op rfl ?_
        intro f120 wd121 he122 hout123 hphi124
        have hS125 : St wd2 wd121 [bx b108 [v_b_Cocycle_Orders, (Value.int .i64 b_Cocycle_Modulus), v_b_Cocycle_Values]] := St.extend hS117 he122
        have e126 : f120 13 = (Value.pointer (some ⟨b108, 0, none⟩)) := (hout123 13 rfl).trans e107
        exact OpX.val (Value.agg #[v_b_Cocycle_Orders, (Value.int .i64 b_Cocycle_Modulus), v_b_Cocycle_Values]) wd121 rfl (op_loadBox st_30 e126 (St.boxAt hS125 0 rfl) rfl rfl) (Ext.refl _) ⟨rfl, hr106⟩
      · refine ObX.op rfl ?_
        intro f127 wd128 he129 hout130 hphi131
        have hS132 : St wd2 wd128 [bx b108 [v_b_Cocycle_Orders, (Value.int .i64 b_Cocycle_Modulus), v_b_Cocycle_Values]] := St.extend hS117 he129
        have e133 : f127 11 = v_b_Cocycle_Values := (hout130 11 rfl).trans e109
        exact OpX.val v_b_Cocycle_Values wd128 rfl (op_move e133) (Ext.refl _) rfl
      · refine ObX.op rfl ?_
        intro f134 wd135 he136 hout137 hphi138
        have hS139 : St wd2 wd135 [bx b108 [v_b_Cocycle_Orders, (Value.int .i64 b_Cocycle_Modulus), v_b_Cocycle_Values]] := St.extend hS117 he136
        have e140 : f134 3 = (Value.int .i64 y) := (hout137 3 rfl).trans e113
        exact OpX.val (Value.int .i64 y) wd135 rfl (op_move e140) (Ext.refl _) ⟨rfl, r_y⟩
      · refine ObX.op rfl ?_
        intro f141 wd142 he143 hout144 hphi145
        have hS146 : St wd2 wd142 [bx b108 [v_b_Cocycle_Orders, (Value.int .i64 b_Cocycle_Modulus), v_b_Cocycle_Values]] := St.extend hS117 he143
        obtain ⟨S147, hS148, hf149⟩ := hphi145 1 24 _ rfl rfl rfl
        have e150 : f141 24 = v_b_Cocycle_Values := hf149
        obtain ⟨S151, hS152, hf153⟩ := hphi145 2 25 _ rfl rfl rfl
        obtain ⟨e154, hr155⟩ : f141 25 = (Value.int .i64 y) ∧ InR .i64 y := hf153
        exact OpX.val (Value.pointer (some (elA v_b_Cocycle_Values (y).toNat))) wd142 rfl (op_idx sl_23 (Ty.lift _ (Ext.trans hE7 hS146.ext) r_b_Cocycle_Values) e150 e154 ha157 hb158) (Ext.refl _) rfl
      · refine ObX.op rfl ?_
        intro f160 wd161 he162 hout163 hphi164
        have hS165 : St wd2 wd161 [bx b108 [v_b_Cocycle_Orders, (Value.int .i64 b_Cocycle_Modulus), v_b_Cocycle_Values]] := St.extend hS117 he162
        obtain ⟨S166, hS167, hf168⟩ := hphi164 3 26 _ rfl rfl rfl
        have e169 : f160 26 = (Value.pointer (some (elA v_b_Cocycle_Values (y).toNat))) := hf168
        exact OpX.val u170 wd161 rfl (op_load one_27 e169 (Ext.cell (Ext.trans hE7 hS165.ext) hc171)) (Ext.refl _) rfl
      · refine ObX.op rfl ?_
        intro f173 wd174 he175 hout176 hphi177
        have hS178 : St wd2 wd174 [bx b108 [v_b_Cocycle_Orders, (Value.int .i64 b_Cocycle_Modulus), v_b_Cocycle_Values]] := St.extend hS117 he175
        have e179 : f173 4 = (Value.int .i64 z) := (hout176 4 rfl).trans e114
        exact OpX.val (Value.int .i64 z) wd174 rfl (op_move e179) (Ext.refl _) ⟨rfl, r_z⟩
      · refine ObX.op rfl ?_
        intro f180 wd181 he182 hout183 hphi184
        have hS185 : St wd2 wd181 [bx b108 [v_b_Cocycle_Orders, (Value.int .i64 b_Cocycle_Modulus), v_b_Cocycle_Values]] := St.extend hS117 he182
        obtain ⟨S186, hS187, hf188⟩ := hphi184 4 27 _ rfl rfl rfl
        have e189 : f180 27 = u170 := hf188
        obtain ⟨S190, hS191, hf192⟩ := hphi184 5 28 _ rfl rfl rfl
        obtain ⟨e193, hr194⟩ : f180 28 = (Value.int .i64 z) ∧ InR .i64 z := hf192
        exact OpX.val (Value.pointer (some (elA u170 (z).toNat))) wd181 rfl (op_idx sl_27 (Ty.lift _ (Ext.trans hE7 hS185.ext) hr172) e189 e193 ha196 hb197) (Ext.refl _) rfl
      · refine ObX.op rfl ?_
        intro f199 wd200 he201 hout202 hphi203
        have hS204 : St wd2 wd200 [bx b108 [v_b_Cocycle_Orders, (Value.int .i64 b_Cocycle_Modulus), v_b_Cocycle_Values]] := St.extend hS117 he201
        obtain ⟨S205, hS206, hf207⟩ := hphi203 6 29 _ rfl rfl rfl
        have e208 : f199 29 = (Value.pointer (some (elA u170 (z).toNat))) := hf207
        exact OpX.val u209 wd200 rfl (op_load one_22 e208 (Ext.cell (Ext.trans hE7 hS204.ext) hc210)) (Ext.refl _) rfl
      · refine ObX.op rfl ?_
        intro f212 wd213 he214 hout215 hphi216
        have hS217 : St wd2 wd213 [bx b108 [v_b_Cocycle_Orders, (Value.int .i64 b_Cocycle_Modulus), v_b_Cocycle_Values]] := St.extend hS117 he214
        have e218 : f212 2 = (Value.int .i64 x) := (hout215 2 rfl).trans e112
        exact OpX.val (Value.int .i64 x) wd213 rfl (op_move e218) (Ext.refl _) ⟨rfl, r_x⟩
      · refine ObX.op rfl ?_
        intro f219 wd220 he221 hout222 hphi223
        have hS224 : St wd2 wd220 [bx b108 [v_b_Cocycle_Orders, (Value.int .i64 b_Cocycle_Modulus), v_b_Cocycle_Values]] := St.extend hS117 he221
        obtain ⟨S225, hS226, hf227⟩ := hphi223 7 30 _ rfl rfl rfl
        have e228 : f219 30 = u209 := hf227
        obtain ⟨S229, hS230, hf231⟩ := hphi223 8 31 _ rfl rfl rfl
        obtain ⟨e232, hr233⟩ : f219 31 = (Value.int .i64 x) ∧ InR .i64 x := hf231
        exact OpX.val (Value.pointer (some (elA u209 (x).toNat))) wd220 rfl (op_idx sl_22 (Ty.lift _ (Ext.trans hE7 hS224.ext) hr211) e228 e232 ha235 hb236) (Ext.refl _) rfl
      · refine ObX.op rfl ?_
        intro f238 wd239 he240 hout241 hphi242
        have hS243 : St wd2 wd239 [bx b108 [v_b_Cocycle_Orders, (Value.int .i64 b_Cocycle_Modulus), v_b_Cocycle_Values]] := St.extend hS117 he240
        obtain ⟨S244, hS245, hf246⟩ := hphi242 9 32 _ rfl rfl rfl
        have e247 : f238 32 = (Value.pointer (some (elA u209 (x).toNat))) := hf246
        exact OpX.val (Value.int .i64 x234) wd239 rfl (op_load one_2 e247 (Ext.cell (Ext.trans hE7 hS243.ext) hc249)) (Ext.refl _) ⟨rfl, hr250⟩
      · refine ObX.op rfl ?_
        intro f251 wd252 he253 hout254 hphi255
        have hS256 : St wd2 wd252 [bx b108 [v_b_Cocycle_Orders, (Value.int .i64 b_Cocycle_Modulus), v_b_Cocycle_Values]] := St.extend hS117 he253
        have e257 : f251 12 = v_b_Values := (hout254 12 rfl).trans e110
        exact OpX.val v_b_Values wd252 rfl (op_move e257) (Ext.refl _) rfl
      · refine ObX.op rfl ?_
        intro f258 wd259 he260 hout261 hphi262
        have hS263 : St wd2 wd259 [bx b108 [v_b_Cocycle_Orders, (Value.int .i64 b_Cocycle_Modulus), v_b_Cocycle_Values]] := St.extend hS117 he260
        have e264 : f258 2 = (Value.int .i64 x) := (hout261 2 rfl).trans e112
        exact OpX.val (Value.int .i64 x) wd259 rfl (op_move e264) (Ext.refl _) ⟨rfl, r_x⟩
      · refine ObX.op rfl ?_
        intro f265 wd266 he267 hout268 hphi269
        have hS270 : St wd2 wd266 [bx b108 [v_b_Cocycle_Orders, (Value.int .i64 b_Cocycle_Modulus), v_b_Cocycle_Values]] := St.extend hS117 he267
        obtain ⟨S271, hS272, hf273⟩ := hphi269 11 34 _ rfl rfl rfl
        have e274 : f265 34 = v_b_Values := hf273
        obtain ⟨S275, hS276, hf277⟩ := hphi269 12 35 _ rfl rfl rfl
        obtain ⟨e278, hr279⟩ : f265 35 = (Value.int .i64 x) ∧ InR .i64 x := hf277
        exact OpX.val (Value.pointer (some (elA v_b_Values (x).toNat))) wd266 rfl (op_idx sl_27 (Ty.lift _ (Ext.trans hE7 hS270.ext) r_b_Values) e274 e278 ha281 hb282) (Ext.refl _) rfl
      · refine ObX.op rfl ?_
        intro f284 wd285 he286 hout287 hphi288
        have hS289 : St wd2 wd285 [bx b108 [v_b_Cocycle_Orders, (Value.int .i64 b_Cocycle_Modulus), v_b_Cocycle_Values]] := St.extend hS117 he286
        obtain ⟨S290, hS291, hf292⟩ := hphi288 13 36 _ rfl rfl rfl
        have e293 : f284 36 = (Value.pointer (some (elA v_b_Values (x).toNat))) := hf292
        exact OpX.val u294 wd285 rfl (op_load one_22 e293 (Ext.cell (Ext.trans hE7 hS289.ext) hc295)) (Ext.refl _) rfl
      · refine ObX.op rfl ?_
        intro f297 wd298 he299 hout300 hphi301
        have hS302 : St wd2 wd298 [bx b108 [v_b_Cocycle_Orders, (Value.int .i64 b_Cocycle_Modulus), v_b_Cocycle_Values]] := St.extend hS117 he299
        have e303 : f297 13 = (Value.pointer (some ⟨b108, 0, none⟩)) := (hout300 13 rfl).trans e107
        exact OpX.val (Value.agg #[v_b_Cocycle_Orders, (Value.int .i64 b_Cocycle_Modulus), v_b_Cocycle_Values]) wd298 rfl (op_loadBox st_30 e303 (St.boxAt hS302 0 rfl) rfl rfl) (Ext.refl _) ⟨rfl, hr106⟩
      · refine ObX.op rfl ?_
        intro f304 wd305 he306 hout307 hphi308
        have hS309 : St wd2 wd305 [bx b108 [v_b_Cocycle_Orders, (Value.int .i64 b_Cocycle_Modulus), v_b_Cocycle_Values]] := St.extend hS117 he306
        have e310 : f304 3 = (Value.int .i64 y) := (hout307 3 rfl).trans e113
        exact OpX.val (Value.int .i64 y) wd305 rfl (op_move e310) (Ext.refl _) ⟨rfl, r_y⟩
      · refine ObX.op rfl ?_
        intro f311 wd312 he313 hout314 hphi315
        have hS316 : St wd2 wd312 [bx b108 [v_b_Cocycle_Orders, (Value.int .i64 b_Cocycle_Modulus), v_b_Cocycle_Values]] := St.extend hS117 he313
        have e317 : f311 4 = (Value.int .i64 z) := (hout314 4 rfl).trans e114
        exact OpX.val (Value.int .i64 z) wd312 rfl (op_move e317) (Ext.refl _) ⟨rfl, r_z⟩
      · refine ObX.op rfl ?_
        intro f318 wd319 he320 hout321 hphi322
        have hS323 : St wd2 wd319 [bx b108 [v_b_Cocycle_Orders, (Value.int .i64 b_Cocycle_Modulus), v_b_Cocycle_Values]] := St.extend hS117 he320
        obtain ⟨S324, hS325, hf326⟩ := hphi322 15 38 _ rfl rfl rfl
        obtain ⟨e327, hr328⟩ := hf326
        obtain ⟨S329, hS330, hf331⟩ := hphi322 16 39 _ rfl rfl rfl
        obtain ⟨e332, hr333⟩ : f318 39 = (Value.int .i64 y) ∧ InR .i64 y := hf331
        obtain ⟨S334, hS335, hf336⟩ := hphi322 17 40 _ rfl rfl rfl
        obtain ⟨e337, hr338⟩ : f318 40 = (Value.int .i64 z) ∧ InR .i64 z := hf336
        refine OpX.call rfl (op_call fn_83 (args3 e327 e332 e337)) (Ret.mono (c_impl_Cocycle_plus (Ty.lift _ (Ext.trans hE7 hS323.ext) r_b_Cocycle_Orders) hr328 (Ty.lift _ (Ext.trans hE7 hS323.ext) r_b_Cocycle_Values) hr333 hr338 hx340) ?_)
        rintro _ wd342 ⟨rfl, hr341, he343⟩
        exact ⟨he343, _, noS _ _, ⟨rfl, hr341⟩⟩
      · refine ObX.op rfl ?_
        intro f345 wd346 he347 hout348 hphi349
        have hS350 : St wd2 wd346 [bx b108 [v_b_Cocycle_Orders, (Value.int .i64 b_Cocycle_Modulus), v_b_Cocycle_Values]] := St.extend hS117 he347
        obtain ⟨S351, hS352, hf353⟩ := hphi349 14 37 _ rfl rfl rfl
        have e354 : f345 37 = u294 := hf353
        obtain ⟨S355, hS356, hf357⟩ := hphi349 18 41 _ rfl rfl rfl
        obtain ⟨e358, hr359⟩ : f345 41 = (Value.int .i64 x339) ∧ InR .i64 x339 := hf357
        exact OpX.val (Value.pointer (some (elA u294 (x339).toNat))) wd346 rfl (op_idx sl_22 (Ty.lift _ (Ext.trans hE7 hS350.ext) hr296) e354 e358 ha361 hb362) (Ext.refl _) rfl
      · refine ObX.op rfl ?_
        intro f364 wd365 he366 hout367 hphi368
        have hS369 : St wd2 wd365 [bx b108 [v_b_Cocycle_Orders, (Value.int .i64 b_Cocycle_Modulus), v_b_Cocycle_Values]] := St.extend hS117 he366
        obtain ⟨S370, hS371, hf372⟩ := hphi368 19 42 _ rfl rfl rfl
        have e373 : f364 42 = (Value.pointer (some (elA u294 (x339).toNat))) := hf372
        exact OpX.val (Value.int .i64 x360) wd365 rfl (op_load one_2 e373 (Ext.cell (Ext.trans hE7 hS369.ext) hc375)) (Ext.refl _) ⟨rfl, hr376⟩
      · refine ObX.op rfl ?_
        intro f377 wd378 he379 hout380 hphi381
        have hS382 : St wd2 wd378 [bx b108 [v_b_Cocycle_Orders, (Value.int .i64 b_Cocycle_Modulus), v_b_Cocycle_Values]] := St.extend hS117 he379
        obtain ⟨S383, hS384, hf385⟩ := hphi381 10 33 _ rfl rfl rfl
        obtain ⟨e386, hr387⟩ : f377 33 = (Value.int .i64 x234) ∧ InR .i64 x234 := hf385
        obtain ⟨S388, hS389, hf390⟩ := hphi381 20 43 _ rfl rfl rfl
        obtain ⟨e391, hr392⟩ : f377 43 = (Value.int .i64 x360) ∧ InR .i64 x360 := hf390
        exact OpX.val (Value.int .i64 (w64 (x234 + x360))) wd378 rfl (op_add e386 e391) (Ext.refl _) ⟨rfl, (inR_wrap _ _)⟩
      · refine ObX.op rfl ?_
        intro f393 wd394 he395 hout396 hphi397
        have hS398 : St wd2 wd394 [bx b108 [v_b_Cocycle_Orders, (Value.int .i64 b_Cocycle_Modulus), v_b_Cocycle_Values]] := St.extend hS117 he395
        have e399 : f393 11 = v_b_Cocycle_Values := (hout396 11 rfl).trans e109
        exact OpX.val v_b_Cocycle_Values wd394 rfl (op_move e399) (Ext.refl _) rfl
      · refine ObX.op rfl ?_
        intro f400 wd401 he402 hout403 hphi404
        have hS405 : St wd2 wd401 [bx b108 [v_b_Cocycle_Orders, (Value.int .i64 b_Cocycle_Modulus), v_b_Cocycle_Values]] := St.extend hS117 he402
        have e406 : f400 2 = (Value.int .i64 x) := (hout403 2 rfl).trans e112
        exact OpX.val (Value.int .i64 x) wd401 rfl (op_move e406) (Ext.refl _) ⟨rfl, r_x⟩
      · refine ObX.op rfl ?_
        intro f407 wd408 he409 hout410 hphi411
        have hS412 : St wd2 wd408 [bx b108 [v_b_Cocycle_Orders, (Value.int .i64 b_Cocycle_Modulus), v_b_Cocycle_Values]] := St.extend hS117 he409
        obtain ⟨S413, hS414, hf415⟩ := hphi411 22 45 _ rfl rfl rfl
        have e416 : f407 45 = v_b_Cocycle_Values := hf415
        obtain ⟨S417, hS418, hf419⟩ := hphi411 23 46 _ rfl rfl rfl
        obtain ⟨e420, hr421⟩ : f407 46 = (Value.int .i64 x) ∧ InR .i64 x := hf419
        exact OpX.val (Value.pointer (some (elA v_b_Cocycle_Values (x).toNat))) wd408 rfl (op_idx sl_23 (Ty.lift _ (Ext.trans hE7 hS412.ext) r_b_Cocycle_Values) e416 e420 ha423 hb424) (Ext.refl _) rfl
      · refine ObX.op rfl ?_
        intro f426 wd427 he428 hout429 hphi430
        have hS431 : St wd2 wd427 [bx b108 [v_b_Cocycle_Orders, (Value.int .i64 b_Cocycle_Modulus), v_b_Cocycle_Values]] := St.extend hS117 he428
        obtain ⟨S432, hS433, hf434⟩ := hphi430 24 47 _ rfl rfl rfl
        have e435 : f426 47 = (Value.pointer (some (elA v_b_Cocycle_Values (x).toNat))) := hf434
        exact OpX.val u436 wd427 rfl (op_load one_27 e435 (Ext.cell (Ext.trans hE7 hS431.ext) hc437)) (Ext.refl _) rfl
      · refine ObX.op rfl ?_
        intro f439 wd440 he441 hout442 hphi443
        have hS444 : St wd2 wd440 [bx b108 [v_b_Cocycle_Orders, (Value.int .i64 b_Cocycle_Modulus), v_b_Cocycle_Values]] := St.extend hS117 he441
        have e445 : f439 3 = (Value.int .i64 y) := (hout442 3 rfl).trans e113
        exact OpX.val (Value.int .i64 y) wd440 rfl (op_move e445) (Ext.refl _) ⟨rfl, r_y⟩
      · refine ObX.op rfl ?_
        intro f446 wd447 he448 hout449 hphi450
        have hS451 : St wd2 wd447 [bx b108 [v_b_Cocycle_Orders, (Value.int .i64 b_Cocycle_Modulus), v_b_Cocycle_Values]] := St.extend hS117 he448
        obtain ⟨S452, hS453, hf454⟩ := hphi450 25 48 _ rfl rfl rfl
        have e455 : f446 48 = u436 := hf454
        obtain ⟨S456, hS457, hf458⟩ := hphi450 26 49 _ rfl rfl rfl
        obtain ⟨e459, hr460⟩ : f446 49 = (Value.int .i64 y) ∧ InR .i64 y := hf458
        exact OpX.val (Value.pointer (some (elA u436 (y).toNat))) wd447 rfl (op_idx sl_27 (Ty.lift _ (Ext.trans hE7 hS451.ext) hr438) e455 e459 ha462 hb463) (Ext.refl _) rfl
      · refine ObX.op rfl ?_
        intro f465 wd466 he467 hout468 hphi469
        have hS470 : St wd2 wd466 [bx b108 [v_b_Cocycle_Orders, (Value.int .i64 b_Cocycle_Modulus), v_b_Cocycle_Values]] := St.extend hS117 he467
        obtain ⟨S471, hS472, hf473⟩ := hphi469 27 50 _ rfl rfl rfl
        have e474 : f465 50 = (Value.pointer (some (elA u436 (y).toNat))) := hf473
        exact OpX.val u475 wd466 rfl (op_load one_22 e474 (Ext.cell (Ext.trans hE7 hS470.ext) hc476)) (Ext.refl _) rfl
      · refine ObX.op rfl ?_
        intro f478 wd479 he480 hout481 hphi482
        have hS483 : St wd2 wd479 [bx b108 [v_b_Cocycle_Orders, (Value.int .i64 b_Cocycle_Modulus), v_b_Cocycle_Values]] := St.extend hS117 he480
        have e484 : f478 4 = (Value.int .i64 z) := (hout481 4 rfl).trans e114
        exact OpX.val (Value.int .i64 z) wd479 rfl (op_move e484) (Ext.refl _) ⟨rfl, r_z⟩
      · refine ObX.op rfl ?_
        intro f485 wd486 he487 hout488 hphi489
        have hS490 : St wd2 wd486 [bx b108 [v_b_Cocycle_Orders, (Value.int .i64 b_Cocycle_Modulus), v_b_Cocycle_Values]] := St.extend hS117 he487
        obtain ⟨S491, hS492, hf493⟩ := hphi489 28 51 _ rfl rfl rfl
        have e494 : f485 51 = u475 := hf493
        obtain ⟨S495, hS496, hf497⟩ := hphi489 29 52 _ rfl rfl rfl
        obtain ⟨e498, hr499⟩ : f485 52 = (Value.int .i64 z) ∧ InR .i64 z := hf497
        exact OpX.val (Value.pointer (some (elA u475 (z).toNat))) wd486 rfl (op_idx sl_22 (Ty.lift _ (Ext.trans hE7 hS490.ext) hr477) e494 e498 ha501 hb502) (Ext.refl _) rfl
      · refine ObX.op rfl ?_
        intro f504 wd505 he506 hout507 hphi508
        have hS509 : St wd2 wd505 [bx b108 [v_b_Cocycle_Orders, (Value.int .i64 b_Cocycle_Modulus), v_b_Cocycle_Values]] := St.extend hS117 he506
        obtain ⟨S510, hS511, hf512⟩ := hphi508 30 53 _ rfl rfl rfl
        have e513 : f504 53 = (Value.pointer (some (elA u475 (z).toNat))) := hf512
        exact OpX.val (Value.int .i64 x500) wd505 rfl (op_load one_2 e513 (Ext.cell (Ext.trans hE7 hS509.ext) hc515)) (Ext.refl _) ⟨rfl, hr516⟩
      · refine ObX.op rfl ?_
        intro f517 wd518 he519 hout520 hphi521
        have hS522 : St wd2 wd518 [bx b108 [v_b_Cocycle_Orders, (Value.int .i64 b_Cocycle_Modulus), v_b_Cocycle_Values]] := St.extend hS117 he519
        obtain ⟨S523, hS524, hf525⟩ := hphi521 21 44 _ rfl rfl rfl
        obtain ⟨e526, hr527⟩ : f517 44 = (Value.int .i64 (w64 (x234 + x360))) ∧ InR .i64 (w64 (x234 + x360)) := hf525
        obtain ⟨S528, hS529, hf530⟩ := hphi521 31 54 _ rfl rfl rfl
        obtain ⟨e531, hr532⟩ : f517 54 = (Value.int .i64 x500) ∧ InR .i64 x500 := hf530
        exact OpX.val (Value.int .i64 (w64 ((w64 (x234 + x360)) + x500))) wd518 rfl (op_add e526 e531) (Ext.refl _) ⟨rfl, (inR_wrap _ _)⟩
      · refine ObX.op rfl ?_
        intro f533 wd534 he535 hout536 hphi537
        have hS538 : St wd2 wd534 [bx b108 [v_b_Cocycle_Orders, (Value.int .i64 b_Cocycle_Modulus), v_b_Cocycle_Values]] := St.extend hS117 he535
        obtain ⟨S539, hS540, hf541⟩ := hphi537 0 23 _ rfl rfl rfl
        obtain ⟨e542, hr543⟩ := hf541
        obtain ⟨S544, hS545, hf546⟩ := hphi537 32 55 _ rfl rfl rfl
        obtain ⟨e547, hr548⟩ : f533 55 = (Value.int .i64 (w64 ((w64 (x234 + x360)) + x500))) ∧ InR .i64 (w64 ((w64 (x234 + x360)) + x500)) := hf546
        refine OpX.call rfl (op_call fn_43 (args2 e542 e547)) (Ret.mono (c_impl_Cocycle_rest (Ty.lift _ (Ext.trans hE7 hS538.ext) r_b_Cocycle_Orders) hr543 (Ty.lift _ (Ext.trans hE7 hS538.ext) r_b_Cocycle_Values) hr548 hx550) ?_)
        rintro _ wd552 ⟨rfl, hr551, he553⟩
        exact ⟨he553, _, noS _ _, ⟨rfl, hr551⟩⟩
      · refine ObX.op rfl ?_
        intro f555 wd556 he557 hout558 hphi559
        have hS560 : St wd2 wd556 [bx b108 [v_b_Cocycle_Orders, (Value.int .i64 b_Cocycle_Modulus), v_b_Cocycle_Values]] := St.extend hS117 he557
        have e561 : f555 13 = (Value.pointer (some ⟨b108, 0, none⟩)) := (hout558 13 rfl).trans e107
        exact OpX.val (Value.agg #[v_b_Cocycle_Orders, (Value.int .i64 b_Cocycle_Modulus), v_b_Cocycle_Values]) wd556 rfl (op_loadBox st_30 e561 (St.boxAt hS560 0 rfl) rfl rfl) (Ext.refl _) ⟨rfl, hr106⟩
      · refine ObX.op rfl ?_
        intro f562 wd563 he564 hout565 hphi566
        have hS567 : St wd2 wd563 [bx b108 [v_b_Cocycle_Orders, (Value.int .i64 b_Cocycle_Modulus), v_b_Cocycle_Values]] := St.extend hS117 he564
        have e568 : f562 12 = v_b_Values := (hout565 12 rfl).trans e110
        exact OpX.val v_b_Values wd563 rfl (op_move e568) (Ext.refl _) rfl
      · refine ObX.op rfl ?_
        intro f569 wd570 he571 hout572 hphi573
        have hS574 : St wd2 wd570 [bx b108 [v_b_Cocycle_Orders, (Value.int .i64 b_Cocycle_Modulus), v_b_Cocycle_Values]] := St.extend hS117 he571
        have e575 : f569 2 = (Value.int .i64 x) := (hout572 2 rfl).trans e112
        exact OpX.val (Value.int .i64 x) wd570 rfl (op_move e575) (Ext.refl _) ⟨rfl, r_x⟩
      · refine ObX.op rfl ?_
        intro f576 wd577 he578 hout579 hphi580
        have hS581 : St wd2 wd577 [bx b108 [v_b_Cocycle_Orders, (Value.int .i64 b_Cocycle_Modulus), v_b_Cocycle_Values]] := St.extend hS117 he578
        obtain ⟨S582, hS583, hf584⟩ := hphi580 35 58 _ rfl rfl rfl
        have e585 : f576 58 = v_b_Values := hf584
        obtain ⟨S586, hS587, hf588⟩ := hphi580 36 59 _ rfl rfl rfl
        obtain ⟨e589, hr590⟩ : f576 59 = (Value.int .i64 x) ∧ InR .i64 x := hf588
        exact OpX.val (Value.pointer (some (elA v_b_Values (x).toNat))) wd577 rfl (op_idx sl_27 (Ty.lift _ (Ext.trans hE7 hS581.ext) r_b_Values) e585 e589 ha281 hb282) (Ext.refl _) rfl
      · refine ObX.op rfl ?_
        intro f591 wd592 he593 hout594 hphi595
        have hS596 : St wd2 wd592 [bx b108 [v_b_Cocycle_Orders, (Value.int .i64 b_Cocycle_Modulus), v_b_Cocycle_Values]] := St.extend hS117 he593
        obtain ⟨S597, hS598, hf599⟩ := hphi595 37 60 _ rfl rfl rfl
        have e600 : f591 60 = (Value.pointer (some (elA v_b_Values (x).toNat))) := hf599
        exact OpX.val u601 wd592 rfl (op_load one_22 e600 (Ext.cell (Ext.trans hE7 hS596.ext) hc602)) (Ext.refl _) rfl
      · refine ObX.op rfl ?_
        intro f604 wd605 he606 hout607 hphi608
        have hS609 : St wd2 wd605 [bx b108 [v_b_Cocycle_Orders, (Value.int .i64 b_Cocycle_Modulus), v_b_Cocycle_Values]] := St.extend hS117 he606
        have e610 : f604 4 = (Value.int .i64 z) := (hout607 4 rfl).trans e114
        exact OpX.val (Value.int .i64 z) wd605 rfl (op_move e610) (Ext.refl _) ⟨rfl, r_z⟩
      · refine ObX.op rfl ?_
        intro f611 wd612 he613 hout614 hphi615
        have hS616 : St wd2 wd612 [bx b108 [v_b_Cocycle_Orders, (Value.int .i64 b_Cocycle_Modulus), v_b_Cocycle_Values]] := St.extend hS117 he613
        obtain ⟨S617, hS618, hf619⟩ := hphi615 38 61 _ rfl rfl rfl
        have e620 : f611 61 = u601 := hf619
        obtain ⟨S621, hS622, hf623⟩ := hphi615 39 62 _ rfl rfl rfl
        obtain ⟨e624, hr625⟩ : f611 62 = (Value.int .i64 z) ∧ InR .i64 z := hf623
        exact OpX.val (Value.pointer (some (elA u601 (z).toNat))) wd612 rfl (op_idx sl_22 (Ty.lift _ (Ext.trans hE7 hS616.ext) hr603) e620 e624 ha627 hb628) (Ext.refl _) rfl
      · refine ObX.op rfl ?_
        intro f630 wd631 he632 hout633 hphi634
        have hS635 : St wd2 wd631 [bx b108 [v_b_Cocycle_Orders, (Value.int .i64 b_Cocycle_Modulus), v_b_Cocycle_Values]] := St.extend hS117 he632
        obtain ⟨S636, hS637, hf638⟩ := hphi634 40 63 _ rfl rfl rfl
        have e639 : f630 63 = (Value.pointer (some (elA u601 (z).toNat))) := hf638
        exact OpX.val (Value.int .i64 x626) wd631 rfl (op_load one_2 e639 (Ext.cell (Ext.trans hE7 hS635.ext) hc641)) (Ext.refl _) ⟨rfl, hr642⟩
      · refine ObX.op rfl ?_
        intro f643 wd644 he645 hout646 hphi647
        have hS648 : St wd2 wd644 [bx b108 [v_b_Cocycle_Orders, (Value.int .i64 b_Cocycle_Modulus), v_b_Cocycle_Values]] := St.extend hS117 he645
        have e649 : f643 11 = v_b_Cocycle_Values := (hout646 11 rfl).trans e109
        exact OpX.val v_b_Cocycle_Values wd644 rfl (op_move e649) (Ext.refl _) rfl
      · refine ObX.op rfl ?_
        intro f650 wd651 he652 hout653 hphi654
        have hS655 : St wd2 wd651 [bx b108 [v_b_Cocycle_Orders, (Value.int .i64 b_Cocycle_Modulus), v_b_Cocycle_Values]] := St.extend hS117 he652
        have e656 : f650 3 = (Value.int .i64 y) := (hout653 3 rfl).trans e113
        exact OpX.val (Value.int .i64 y) wd651 rfl (op_move e656) (Ext.refl _) ⟨rfl, r_y⟩
      · refine ObX.op rfl ?_
        intro f657 wd658 he659 hout660 hphi661
        have hS662 : St wd2 wd658 [bx b108 [v_b_Cocycle_Orders, (Value.int .i64 b_Cocycle_Modulus), v_b_Cocycle_Values]] := St.extend hS117 he659
        obtain ⟨S663, hS664, hf665⟩ := hphi661 42 65 _ rfl rfl rfl
        have e666 : f657 65 = v_b_Cocycle_Values := hf665
        obtain ⟨S667, hS668, hf669⟩ := hphi661 43 66 _ rfl rfl rfl
        obtain ⟨e670, hr671⟩ : f657 66 = (Value.int .i64 y) ∧ InR .i64 y := hf669
        exact OpX.val (Value.pointer (some (elA v_b_Cocycle_Values (y).toNat))) wd658 rfl (op_idx sl_23 (Ty.lift _ (Ext.trans hE7 hS662.ext) r_b_Cocycle_Values) e666 e670 ha157 hb158) (Ext.refl _) rfl
      · refine ObX.op rfl ?_
        intro f672 wd673 he674 hout675 hphi676
        have hS677 : St wd2 wd673 [bx b108 [v_b_Cocycle_Orders, (Value.int .i64 b_Cocycle_Modulus), v_b_Cocycle_Values]] := St.extend hS117 he674
        obtain ⟨S678, hS679, hf680⟩ := hphi676 44 67 _ rfl rfl rfl
        have e681 : f672 67 = (Value.pointer (some (elA v_b_Cocycle_Values (y).toNat))) := hf680
        exact OpX.val u682 wd673 rfl (op_load one_27 e681 (Ext.cell (Ext.trans hE7 hS677.ext) hc683)) (Ext.refl _) rfl
      · refine ObX.op rfl ?_
        intro f685 wd686 he687 hout688 hphi689
        have hS690 : St wd2 wd686 [bx b108 [v_b_Cocycle_Orders, (Value.int .i64 b_Cocycle_Modulus), v_b_Cocycle_Values]] := St.extend hS117 he687
        have e691 : f685 2 = (Value.int .i64 x) := (hout688 2 rfl).trans e112
        exact OpX.val (Value.int .i64 x) wd686 rfl (op_move e691) (Ext.refl _) ⟨rfl, r_x⟩
      · refine ObX.op rfl ?_
        intro f692 wd693 he694 hout695 hphi696
        have hS697 : St wd2 wd693 [bx b108 [v_b_Cocycle_Orders, (Value.int .i64 b_Cocycle_Modulus), v_b_Cocycle_Values]] := St.extend hS117 he694
        obtain ⟨S698, hS699, hf700⟩ := hphi696 45 68 _ rfl rfl rfl
        have e701 : f692 68 = u682 := hf700
        obtain ⟨S702, hS703, hf704⟩ := hphi696 46 69 _ rfl rfl rfl
        obtain ⟨e705, hr706⟩ : f692 69 = (Value.int .i64 x) ∧ InR .i64 x := hf704
        exact OpX.val (Value.pointer (some (elA u682 (x).toNat))) wd693 rfl (op_idx sl_27 (Ty.lift _ (Ext.trans hE7 hS697.ext) hr684) e701 e705 ha708 hb709) (Ext.refl _) rfl
      · refine ObX.op rfl ?_
        intro f711 wd712 he713 hout714 hphi715
        have hS716 : St wd2 wd712 [bx b108 [v_b_Cocycle_Orders, (Value.int .i64 b_Cocycle_Modulus), v_b_Cocycle_Values]] := St.extend hS117 he713
        obtain ⟨S717, hS718, hf719⟩ := hphi715 47 70 _ rfl rfl rfl
        have e720 : f711 70 = (Value.pointer (some (elA u682 (x).toNat))) := hf719
        exact OpX.val u721 wd712 rfl (op_load one_22 e720 (Ext.cell (Ext.trans hE7 hS716.ext) hc722)) (Ext.refl _) rfl
      · refine ObX.op rfl ?_
        intro f724 wd725 he726 hout727 hphi728
        have hS729 : St wd2 wd725 [bx b108 [v_b_Cocycle_Orders, (Value.int .i64 b_Cocycle_Modulus), v_b_Cocycle_Values]] := St.extend hS117 he726
        have e730 : f724 4 = (Value.int .i64 z) := (hout727 4 rfl).trans e114
        exact OpX.val (Value.int .i64 z) wd725 rfl (op_move e730) (Ext.refl _) ⟨rfl, r_z⟩
      · refine ObX.op rfl ?_
        intro f731 wd732 he733 hout734 hphi735
        have hS736 : St wd2 wd732 [bx b108 [v_b_Cocycle_Orders, (Value.int .i64 b_Cocycle_Modulus), v_b_Cocycle_Values]] := St.extend hS117 he733
        obtain ⟨S737, hS738, hf739⟩ := hphi735 48 71 _ rfl rfl rfl
        have e740 : f731 71 = u721 := hf739
        obtain ⟨S741, hS742, hf743⟩ := hphi735 49 72 _ rfl rfl rfl
        obtain ⟨e744, hr745⟩ : f731 72 = (Value.int .i64 z) ∧ InR .i64 z := hf743
        exact OpX.val (Value.pointer (some (elA u721 (z).toNat))) wd732 rfl (op_idx sl_22 (Ty.lift _ (Ext.trans hE7 hS736.ext) hr723) e740 e744 ha747 hb748) (Ext.refl _) rfl
      · refine ObX.op rfl ?_
        intro f750 wd751 he752 hout753 hphi754
        have hS755 : St wd2 wd751 [bx b108 [v_b_Cocycle_Orders, (Value.int .i64 b_Cocycle_Modulus), v_b_Cocycle_Values]] := St.extend hS117 he752
        obtain ⟨S756, hS757, hf758⟩ := hphi754 50 73 _ rfl rfl rfl
        have e759 : f750 73 = (Value.pointer (some (elA u721 (z).toNat))) := hf758
        exact OpX.val (Value.int .i64 x746) wd751 rfl (op_load one_2 e759 (Ext.cell (Ext.trans hE7 hS755.ext) hc761)) (Ext.refl _) ⟨rfl, hr762⟩
      · refine ObX.op rfl ?_
        intro f763 wd764 he765 hout766 hphi767
        have hS768 : St wd2 wd764 [bx b108 [v_b_Cocycle_Orders, (Value.int .i64 b_Cocycle_Modulus), v_b_Cocycle_Values]] := St.extend hS117 he765
        obtain ⟨S769, hS770, hf771⟩ := hphi767 41 64 _ rfl rfl rfl
        obtain ⟨e772, hr773⟩ : f763 64 = (Value.int .i64 x626) ∧ InR .i64 x626 := hf771
        obtain ⟨S774, hS775, hf776⟩ := hphi767 51 74 _ rfl rfl rfl
        obtain ⟨e777, hr778⟩ : f763 74 = (Value.int .i64 x746) ∧ InR .i64 x746 := hf776
        exact OpX.val (Value.int .i64 (w64 (x626 + x746))) wd764 rfl (op_add e772 e777) (Ext.refl _) ⟨rfl, (inR_wrap _ _)⟩
      · refine ObX.op rfl ?_
        intro f779 wd780 he781 hout782 hphi783
        have hS784 : St wd2 wd780 [bx b108 [v_b_Cocycle_Orders, (Value.int .i64 b_Cocycle_Modulus), v_b_Cocycle_Values]] := St.extend hS117 he781
        have e785 : f779 12 = v_b_Values := (hout782 12 rfl).trans e110
        exact OpX.val v_b_Values wd780 rfl (op_move e785) (Ext.refl _) rfl
      · refine ObX.op rfl ?_
        intro f786 wd787 he788 hout789 hphi790
        have hS791 : St wd2 wd787 [bx b108 [v_b_Cocycle_Orders, (Value.int .i64 b_Cocycle_Modulus), v_b_Cocycle_Values]] := St.extend hS117 he788
        have e792 : f786 2 = (Value.int .i64 x) := (hout789 2 rfl).trans e112
        exact OpX.val (Value.int .i64 x) wd787 rfl (op_move e792) (Ext.refl _) ⟨rfl, r_x⟩
      · refine ObX.op rfl ?_
        intro f793 wd794 he795 hout796 hphi797
        have hS798 : St wd2 wd794 [bx b108 [v_b_Cocycle_Orders, (Value.int .i64 b_Cocycle_Modulus), v_b_Cocycle_Values]] := St.extend hS117 he795
        obtain ⟨S799, hS800, hf801⟩ := hphi797 53 76 _ rfl rfl rfl
        have e802 : f793 76 = v_b_Values := hf801
        obtain ⟨S803, hS804, hf805⟩ := hphi797 54 77 _ rfl rfl rfl
        obtain ⟨e806, hr807⟩ : f793 77 = (Value.int .i64 x) ∧ InR .i64 x := hf805
        exact OpX.val (Value.pointer (some (elA v_b_Values (x).toNat))) wd794 rfl (op_idx sl_27 (Ty.lift _ (Ext.trans hE7 hS798.ext) r_b_Values) e802 e806 ha281 hb282) (Ext.refl _) rfl
      · refine ObX.op rfl ?_
        intro f808 wd809 he810 hout811 hphi812
        have hS813 : St wd2 wd809 [bx b108 [v_b_Cocycle_Orders, (Value.int .i64 b_Cocycle_Modulus), v_b_Cocycle_Values]] := St.extend hS117 he810
        obtain ⟨S814, hS815, hf816⟩ := hphi812 55 78 _ rfl rfl rfl
        have e817 : f808 78 = (Value.pointer (some (elA v_b_Values (x).toNat))) := hf816
        exact OpX.val u818 wd809 rfl (op_load one_22 e817 (Ext.cell (Ext.trans hE7 hS813.ext) hc819)) (Ext.refl _) rfl
      · refine ObX.op rfl ?_
        intro f821 wd822 he823 hout824 hphi825
        have hS826 : St wd2 wd822 [bx b108 [v_b_Cocycle_Orders, (Value.int .i64 b_Cocycle_Modulus), v_b_Cocycle_Values]] := St.extend hS117 he823
        have e827 : f821 3 = (Value.int .i64 y) := (hout824 3 rfl).trans e113
        exact OpX.val (Value.int .i64 y) wd822 rfl (op_move e827) (Ext.refl _) ⟨rfl, r_y⟩
      · refine ObX.op rfl ?_
        intro f828 wd829 he830 hout831 hphi832
        have hS833 : St wd2 wd829 [bx b108 [v_b_Cocycle_Orders, (Value.int .i64 b_Cocycle_Modulus), v_b_Cocycle_Values]] := St.extend hS117 he830
        obtain ⟨S834, hS835, hf836⟩ := hphi832 56 79 _ rfl rfl rfl
        have e837 : f828 79 = u818 := hf836
        obtain ⟨S838, hS839, hf840⟩ := hphi832 57 80 _ rfl rfl rfl
        obtain ⟨e841, hr842⟩ : f828 80 = (Value.int .i64 y) ∧ InR .i64 y := hf840
        exact OpX.val (Value.pointer (some (elA u818 (y).toNat))) wd829 rfl (op_idx sl_22 (Ty.lift _ (Ext.trans hE7 hS833.ext) hr820) e837 e841 ha844 hb845) (Ext.refl _) rfl
      · refine ObX.op rfl ?_
        intro f847 wd848 he849 hout850 hphi851
        have hS852 : St wd2 wd848 [bx b108 [v_b_Cocycle_Orders, (Value.int .i64 b_Cocycle_Modulus), v_b_Cocycle_Values]] := St.extend hS117 he849
        obtain ⟨S853, hS854, hf855⟩ := hphi851 58 81 _ rfl rfl rfl
        have e856 : f847 81 = (Value.pointer (some (elA u818 (y).toNat))) := hf855
        exact OpX.val (Value.int .i64 x843) wd848 rfl (op_load one_2 e856 (Ext.cell (Ext.trans hE7 hS852.ext) hc858)) (Ext.refl _) ⟨rfl, hr859⟩
      · refine ObX.op rfl ?_
        intro f860 wd861 he862 hout863 hphi864
        have hS865 : St wd2 wd861 [bx b108 [v_b_Cocycle_Orders, (Value.int .i64 b_Cocycle_Modulus), v_b_Cocycle_Values]] := St.extend hS117 he862
        obtain ⟨S866, hS867, hf868⟩ := hphi864 52 75 _ rfl rfl rfl
        obtain ⟨e869, hr870⟩ : f860 75 = (Value.int .i64 (w64 (x626 + x746))) ∧ InR .i64 (w64 (x626 + x746)) := hf868
        obtain ⟨S871, hS872, hf873⟩ := hphi864 59 82 _ rfl rfl rfl
        obtain ⟨e874, hr875⟩ : f860 82 = (Value.int .i64 x843) ∧ InR .i64 x843 := hf873
        exact OpX.val (Value.int .i64 (w64 ((w64 (x626 + x746)) + x843))) wd861 rfl (op_add e869 e874) (Ext.refl _) ⟨rfl, (inR_wrap _ _)⟩
      · intro f876 wd877 Ss878 he879 hout880 hSn881 hSd882 hphi883
        show WL _ _ _ _ _ _ _
        have hS884 : St wd2 wd877 [bx b108 [v_b_Cocycle_Orders, (Value.int .i64 b_Cocycle_Modulus), v_b_Cocycle_Values]] := St.extend hS117 he879
        obtain ⟨e885, hr886⟩ : f876 56 = (Value.int .i64 x549) ∧ InR .i64 x549 := hphi883 33 56 _ (by decide) rfl rfl
        obtain ⟨e887, hr888⟩ := hphi883 34 57 _ (by decide) rfl rfl
        obtain ⟨e889, hr890⟩ : f876 83 = (Value.int .i64 (w64 ((w64 (x626 + x746)) + x843))) ∧ InR .i64 (w64 ((w64 (x626 + x746)) + x843)) := hphi883 60 83 _ (by decide) rfl rfl
        obtain ⟨x891, hx892, h⟩ := bs h
        refine WL.call _ (op_call fn_43 (args2 e887 e889)) (c_impl_Cocycle_rest (Ty.lift _ (Ext.trans hE7 hS884.ext) r_b_Cocycle_Orders) hr888 (Ty.lift _ (Ext.trans hE7 hS884.ext) r_b_Cocycle_Values) hr890 hx892) rfl ?_
        rintro _ wd894 ⟨rfl, hr893, he895⟩
        have hS897 := St.extend hS884 he895
        replace hS897 : St wd2 wd894 [bx b108 [v_b_Cocycle_Orders, (Value.int .i64 b_Cocycle_Modulus), v_b_Cocycle_Values]] := hS897
        refine WL.val (Value.bool (x549 == x891)) _ (op_eql e885 rfl) rfl ?_
        refine WL.val (Value.bool (x549 == x891)) _ (op_assign rfl) rfl ?_
        refine WL.nil ?_
        show W _ _ _ _ _ _
        refine W.ret ?_
        obtain rfl := Option.some.inj h
        show FinP _ _ _ _ _ _ _
        exact FinP.ret _ (res1 rfl rfl) ⟨rfl, (Ext.trans hE7 hS897.ext)⟩
    · replace h := inegb h hc118
      refine W.skip ?_
      show W _ _ _ _ _ _
      refine W.seq ?_
      obtain ⟨x954, hx955, h⟩ := bs h
      obtain ⟨x975, hx978, h⟩ := bs h
      obtain ⟨ha976, hb977, hx978⟩ := idx_some hx978
      obtain ⟨u989, hc990, hr991⟩ := repSl.el r_b_Values hx978
      obtain ⟨x1014, hx1017, h⟩ := bs h
      obtain ⟨ha1015, hb1016, hx1017⟩ := idx_some hx1017
      obtain ⟨u1028, hc1029, hr1030⟩ := repSl.el hr991 hx1017
      obtain ⟨rfl, hr1030⟩ := hr1030
      obtain ⟨x1060, hx1063, h⟩ := bs h
      obtain ⟨ha1061, hb1062, hx1063⟩ := idx_some hx1063
      obtain ⟨u1074, hc1075, hr1076⟩ := repSl.el r_b_Cocycle_Values hx1063
      obtain ⟨x1099, hx1102, h⟩ := bs h
      obtain ⟨ha1100, hb1101, hx1102⟩ := idx_some hx1102
      obtain ⟨u1113, hc1114, hr1115⟩ := repSl.el hr1076 hx1102
      obtain ⟨x1138, hx1141, h⟩ := bs h
      obtain ⟨ha1139, hb1140, hx1141⟩ := idx_some hx1141
      obtain ⟨u1152, hc1153, hr1154⟩ := repSl.el hr1115 hx1141
      obtain ⟨rfl, hr1154⟩ := hr1154
      obtain ⟨x1200, hx1203, h⟩ := bs h
      obtain ⟨ha1201, hb1202, hx1203⟩ := idx_some hx1203
      obtain ⟨u1214, hc1215, hr1216⟩ := repSl.el r_b_Cocycle_Values hx1203
      obtain ⟨x1239, hx1242, h⟩ := bs h
      obtain ⟨ha1240, hb1241, hx1242⟩ := idx_some hx1242
      obtain ⟨u1253, hc1254, hr1255⟩ := repSl.el hr1216 hx1242
      obtain ⟨x1278, hx1281, h⟩ := bs h
      obtain ⟨ha1279, hb1280, hx1281⟩ := idx_some hx1281
      obtain ⟨u1292, hc1293, hr1294⟩ := repSl.el hr1255 hx1281
      obtain ⟨rfl, hr1294⟩ := hr1294
      obtain ⟨x1327, hx1328, h⟩ := bs h
      obtain ⟨x1369, hx1372, h⟩ := bs h
      obtain ⟨ha1370, hb1371, hx1372⟩ := idx_some hx1372
      obtain ⟨u1383, hc1384, hr1385⟩ := repSl.el r_b_Values hx1372
      obtain ⟨x1408, hx1411, h⟩ := bs h
      obtain ⟨ha1409, hb1410, hx1411⟩ := idx_some hx1411
      obtain ⟨u1422, hc1423, hr1424⟩ := repSl.el hr1385 hx1411
      obtain ⟨rfl, hr1424⟩ := hr1424
      obtain ⟨x1454, hx1457, h⟩ := bs h
      obtain ⟨ha1455, hb1456, hx1457⟩ := idx_some hx1457
      obtain ⟨u1468, hc1469, hr1470⟩ := repSl.el r_b_Values hx1457
      obtain ⟨x1493, hx1496, h⟩ := bs h
      obtain ⟨ha1494, hb1495, hx1496⟩ := idx_some hx1496
      obtain ⟨u1507, hc1508, hr1509⟩ := repSl.el hr1470 hx1496
      obtain ⟨rfl, hr1509⟩ := hr1509
      obtain ⟨u1565, hc1566, hr1567⟩ := repSl.el r_b_Cocycle_Values hx1203
      obtain ⟨x1590, hx1593, h⟩ := bs h
      obtain ⟨ha1591, hb1592, hx1593⟩ := idx_some hx1593
      obtain ⟨u1604, hc1605, hr1606⟩ := repSl.el hr1567 hx1593
      obtain ⟨x1629, hx1632, h⟩ := bs h
      obtain ⟨ha1630, hb1631, hx1632⟩ := idx_some hx1632
      obtain ⟨u1643, hc1644, hr1645⟩ := repSl.el hr1606 hx1632
      obtain ⟨rfl, hr1645⟩ := hr1645
      refine W.drawR mixo 61 [] [fun _ v S w' => v = (Value.agg #[v_b_Cocycle_Orders, (Value.int .i64 b_Cocycle_Modulus), v_b_Cocycle_Values]) ∧ InR .i64 b_Cocycle_Modulus, fun _ v _ _ => v = v_b_Values, fun _ v S w' => v = (Value.agg #[v_b_Cocycle_Orders, (Value.int .i64 b_Cocycle_Modulus), v_b_Cocycle_Values]) ∧ InR .i64 b_Cocycle_Modulus, fun _ v _ _ => v = (Value.int .i64 x) ∧ InR .i64 x, fun _ v _ _ => v = (Value.int .i64 y) ∧ InR .i64 y, fun _ v _ _ => v = (Value.int .i64 x954) ∧ InR .i64 x954, fun _ v _ _ => v = (Value.pointer (some (elA v_b_Values (x954).toNat))), fun _ v _ _ => v = u989, fun _ v _ _ => v = (Value.int .i64 z) ∧ InR .i64 z, fun _ v _ _ => v = (Value.pointer (some (elA u989 (z).toNat))), fun _ v _ _ => v = (Value.int .i64 x1014) ∧ InR .i64 x1014, fun _ v _ _ => v = v_b_Cocycle_Values, fun _ v _ _ => v = (Value.int .i64 z) ∧ InR .i64 z, fun _ v _ _ => v = (Value.pointer (some (elA v_b_Cocycle_Values (z).toNat))), fun _ v _ _ => v = u1074, fun _ v _ _ => v = (Value.int .i64 x) ∧ InR .i64 x, fun _ v _ _ => v = (Value.pointer (some (elA u1074 (x).toNat))), fun _ v _ _ => v = u1113, fun _ v _ _ => v = (Value.int .i64 y) ∧ InR .i64 y, fun _ v _ _ => v = (Value.pointer (some (elA u1113 (y).toNat))), fun _ v _ _ => v = (Value.int .i64 x1138) ∧ InR .i64 x1138, fun _ v _ _ => v = (Value.int .i64 (w64 (x1014 - x1138))) ∧ InR .i64 (w64 (x1014 - x1138)), fun _ v _ _ => v = v_b_Cocycle_Values, fun _ v _ _ => v = (Value.int .i64 x) ∧ InR .i64 x, fun _ v _ _ => v = (Value.pointer (some (elA v_b_Cocycle_Values (x).toNat))), fun _ v _ _ => v = u1214, fun _ v _ _ => v = (Value.int .i64 y) ∧ InR .i64 y, fun _ v _ _ => v = (Value.pointer (some (elA u1214 (y).toNat))), fun _ v _ _ => v = u1253, fun _ v _ _ => v = (Value.int .i64 z) ∧ InR .i64 z, fun _ v _ _ => v = (Value.pointer (some (elA u1253 (z).toNat))), fun _ v _ _ => v = (Value.int .i64 x1278) ∧ InR .i64 x1278, fun _ v _ _ => v = (Value.int .i64 (w64 ((w64 (x1014 - x1138)) - x1278))) ∧ InR .i64 (w64 ((w64 (x1014 - x1138)) - x1278)), fun _ v _ _ => v = (Value.int .i64 x1327) ∧ InR .i64 x1327, fun _ v S w' => v = (Value.agg #[v_b_Cocycle_Orders, (Value.int .i64 b_Cocycle_Modulus), v_b_Cocycle_Values]) ∧ InR .i64 b_Cocycle_Modulus, fun _ v _ _ => v = v_b_Values, fun _ v _ _ => v = (Value.int .i64 x) ∧ InR .i64 x, fun _ v _ _ => v = (Value.pointer (some (elA v_b_Values (x).toNat))), fun _ v _ _ => v = u1383, fun _ v _ _ => v = (Value.int .i64 z) ∧ InR .i64 z, fun _ v _ _ => v = (Value.pointer (some (elA u1383 (z).toNat))), fun _ v _ _ => v = (Value.int .i64 x1408) ∧ InR .i64 x1408, fun _ v _ _ => v = v_b_Values, fun _ v _ _ => v = (Value.int .i64 y) ∧ InR .i64 y, fun _ v _ _ => v = (Value.pointer (some (elA v_b_Values (y).toNat))), fun _ v _ _ => v = u1468, fun _ v _ _ => v = (Value.int .i64 z) ∧ InR .i64 z, fun _ v _ _ => v = (Value.pointer (some (elA u1468 (z).toNat))), fun _ v _ _ => v = (Value.int .i64 x1493) ∧ InR .i64 x1493, fun _ v _ _ => v = (Value.int .i64 (w64 (x1408 + x1493))) ∧ InR .i64 (w64 (x1408 + x1493)), fun _ v _ _ => v = v_b_Cocycle_Values, fun _ v _ _ => v = (Value.int .i64 x) ∧ InR .i64 x, fun _ v _ _ => v = (Value.pointer (some (elA v_b_Cocycle_Values (x).toNat))), fun _ v _ _ => v = u1565, fun _ v _ _ => v = (Value.int .i64 z) ∧ InR .i64 z, fun _ v _ _ => v = (Value.pointer (some (elA u1565 (z).toNat))), fun _ v _ _ => v = u1604, fun _ v _ _ => v = (Value.int .i64 y) ∧ InR .i64 y, fun _ v _ _ => v = (Value.pointer (some (elA u1604 (y).toNat))), fun _ v _ _ => v = (Value.int .i64 x1629) ∧ InR .i64 x1629, fun _ v _ _ => v = (Value.int .i64 (w64 ((w64 (x1408 + x1493)) - x1629))) ∧ InR .i64 (w64 ((w64 (x1408 + x1493)) - x1629))] (by kernel_rfl) (by kernel_rfl) ⟨⟨fun _ _ _ _ _ he ⟨h0, h1⟩ => ⟨h0, h1⟩, fun _ _ _ _ _ _ h => h⟩, ⟨fun _ _ _ _ _ _ h => h, fun _ _ _ _ _ _ h => h⟩, ⟨fun _ _ _ _ _ he ⟨h0, h1⟩ => ⟨h0, h1⟩, fun _ _ _ _ _ _ h => h⟩, ⟨fun _ _ _ _ _ _ h => h, fun _ _ _ _ _ _ h => h⟩, ⟨fun _ _ _ _ _ _ h => h, fun _ _ _ _ _ _ h => h⟩, ⟨fun _ _ _ _ _ _ h => h, fun _ _ _ _ _ _ h => h⟩, ⟨fun _ _ _ _ _ _ h => h, fun _ _ _ _ _ _ h => h⟩, ⟨fun _ _ _ _ _ _ h => h, fun _ _ _ _ _ _ h => h⟩, ⟨fun _ _ _ _ _ _ h => h, fun _ _ _ _ _ _ h => h⟩, ⟨fun _ _ _ _ _ _ h => h, fun _ _ _ _ _ _ h => h⟩, ⟨fun _ _ _ _ _ _ h => h, fun _ _ _ _ _ _ h => h⟩, ⟨fun _ _ _ _ _ _ h => h, fun _ _ _ _ _ _ h => h⟩, ⟨fun _ _ _ _ _ _ h => h, fun _ _ _ _ _ _ h => h⟩, ⟨fun _ _ _ _ _ _ h => h, fun _ _ _ _ _ _ h => h⟩, ⟨fun _ _ _ _ _ _ h => h, fun _ _ _ _ _ _ h => h⟩, ⟨fun _ _ _ _ _ _ h => h, fun _ _ _ _ _ _ h => h⟩, ⟨fun _ _ _ _ _ _ h => h, fun _ _ _ _ _ _ h => h⟩, ⟨fun _ _ _ _ _ _ h => h, fun _ _ _ _ _ _ h => h⟩, ⟨fun _ _ _ _ _ _ h => h, fun _ _ _ _ _ _ h => h⟩, ⟨fun _ _ _ _ _ _ h => h, fun _ _ _ _ _ _ h => h⟩, ⟨fun _ _ _ _ _ _ h => h, fun _ _ _ _ _ _ h => h⟩, ⟨fun _ _ _ _ _ _ h => h, fun _ _ _ _ _ _ h => h⟩, ⟨fun _ _ _ _ _ _ h => h, fun _ _ _ _ _ _ h => h⟩, ⟨fun _ _ _ _ _ _ h => h, fun _ _ _ _ _ _ h => h⟩, ⟨fun _ _ _ _ _ _ h => h, fun _ _ _ _ _ _ h => h⟩, ⟨fun _ _ _ _ _ _ h => h, fun _ _ _ _ _ _ h => h⟩, ⟨fun _ _ _ _ _ _ h => h, fun _ _ _ _ _ _ h => h⟩, ⟨fun _ _ _ _ _ _ h => h, fun _ _ _ _ _ _ h => h⟩, ⟨fun _ _ _ _ _ _ h => h, fun _ _ _ _ _ _ h => h⟩, ⟨fun _ _ _ _ _ _ h => h, fun _ _ _ _ _ _ h => h⟩, ⟨fun _ _ _ _ _ _ h => h, fun _ _ _ _ _ _ h => h⟩, ⟨fun _ _ _ _ _ _ h => h, fun _ _ _ _ _ _ h => h⟩, ⟨fun _ _ _ _ _ _ h => h, fun _ _ _ _ _ _ h => h⟩, ⟨fun _ _ _ _ _ _ h => h, fun _ _ _ _ _ _ h => h⟩, ⟨fun _ _ _ _ _ he ⟨h0, h1⟩ => ⟨h0, h1⟩, fun _ _ _ _ _ _ h => h⟩, ⟨fun _ _ _ _ _ _ h => h, fun _ _ _ _ _ _ h => h⟩, ⟨fun _ _ _ _ _ _ h => h, fun _ _ _ _ _ _ h => h⟩, ⟨fun _ _ _ _ _ _ h => h, fun _ _ _ _ _ _ h => h⟩, ⟨fun _ _ _ _ _ _ h => h, fun _ _ _ _ _ _ h => h⟩, ⟨fun _ _ _ _ _ _ h => h, fun _ _ _ _ _ _ h => h⟩, ⟨fun _ _ _ _ _ _ h => h, fun _ _ _ _ _ _ h => h⟩, ⟨fun _ _ _ _ _ _ h => h, fun _ _ _ _ _ _ h => h⟩, ⟨fun _ _ _ _ _ _ h => h, fun _ _ _ _ _ _ h => h⟩, ⟨fun _ _ _ _ _ _ h => h, fun _ _ _ _ _ _ h => h⟩, ⟨fun _ _ _ _ _ _ h => h, fun _ _ _ _ _ _ h => h⟩, ⟨fun _ _ _ _ _ _ h => h, fun _ _ _ _ _ _ h => h⟩, ⟨fun _ _ _ _ _ _ h => h, fun _ _ _ _ _ _ h => h⟩, ⟨fun _ _ _ _ _ _ h => h, fun _ _ _ _ _ _ h => h⟩, ⟨fun _ _ _ _ _ _ h => h, fun _ _ _ _ _ _ h => h⟩, ⟨fun _ _ _ _ _ _ h => h, fun _ _ _ _ _ _ h => h⟩, ⟨fun _ _ _ _ _ _ h => h, fun _ _ _ _ _ _ h => h⟩, ⟨fun _ _ _ _ _ _ h => h, fun _ _ _ _ _ _ h => h⟩, ⟨fun _ _ _ _ _ _ h => h, fun _ _ _ _ _ _ h => h⟩, ⟨fun _ _ _ _ _ _ h => h, fun _ _ _ _ _ _ h => h⟩, ⟨fun _ _ _ _ _ _ h => h, fun _ _ _ _ _ _ h => h⟩, ⟨fun _ _ _ _ _ _ h => h, fun _ _ _ _ _ _ h => h⟩, ⟨fun _ _ _ _ _ _ h => h, fun _ _ _ _ _ _ h => h⟩, ⟨fun _ _ _ _ _ _ h => h, fun _ _ _ _ _ _ h => h⟩, ⟨fun _ _ _ _ _ _ h => h, fun _ _ _ _ _ _ h => h⟩, ⟨fun _ _ _ _ _ _ h => h, fun _ _ _ _ _ _ h => h⟩, ⟨fun _ _ _ _ _ _ h => h, fun _ _ _ _ _ _ h => h⟩, trivial⟩ ⟨?_, ?_, ?_, ?_, ?_, ?_, ?_, ?_, ?_, ?_, ?_, ?_, ?_, ?_, ?_, ?_, ?_, ?_, ?_, ?_, ?_, ?_, ?_, ?_, ?_, ?_, ?_, ?_, ?_, ?_, ?_, ?_, ?_, ?_, ?_, ?_, ?_, ?_, ?_, ?_, ?_, ?_, ?_, ?_, ?_, ?_, ?_, ?_, ?_, ?_, ?_, ?_, ?_, ?_, ?_, ?_, ?_, ?_, ?_, ?_, ?_, trivial⟩ ?_
      · refine ObX.op rfl ?_
        intro f898 wd899 he900 hout901 hphi902
        have hS903 : St wd2 wd899 [bx b108 [v_b_Cocycle_Orders, (Value.int .i64 b_Cocycle_Modulus), v_b_Cocycle_Values]] := St.extend hS117 he900
        have e904 : f898 13 = (Value.pointer (some ⟨b108, 0, none⟩)) := (hout901 13 rfl).trans e107
        exact OpX.val (Value.agg #[v_b_Cocycle_Orders, (Value.int .i64 b_Cocycle_Modulus), v_b_Cocycle_Values]) wd899 rfl (op_loadBox st_30 e904 (St.boxAt hS903 0 rfl) rfl rfl) (Ext.refl _) ⟨rfl, hr106⟩
      · refine ObX.op rfl ?_
        intro f905 wd906 he907 hout908 hphi909
        have hS910 : St wd2 wd906 [bx b108 [v_b_Cocycle_Orders, (Value.int .i64 b_Cocycle_Modulus), v_b_Cocycle_Values]] := St.extend hS117 he907
        have e911 : f905 12 = v_b_Values := (hout908 12 rfl).trans e110
        exact OpX.val v_b_Values wd906 rfl (op_move e911) (Ext.refl _) rfl
      · refine ObX.op rfl ?_
        intro f912 wd913 he914 hout915 hphi916
        have hS917 : St wd2 wd913 [bx b108 [v_b_Cocycle_Orders, (Value.int .i64 b_Cocycle_Modulus), v_b_Cocycle_Values]] := St.extend hS117 he914
        have e918 : f912 13 = (Value.pointer (some ⟨b108, 0, none⟩)) := (hout915 13 rfl).trans e107
        exact OpX.val (Value.agg #[v_b_Cocycle_Orders, (Value.int .i64 b_Cocycle_Modulus), v_b_Cocycle_Values]) wd913 rfl (op_loadBox st_30 e918 (St.boxAt hS917 0 rfl) rfl rfl) (Ext.refl _) ⟨rfl, hr106⟩
      · refine ObX.op rfl ?_
        intro f919 wd920 he921 hout922 hphi923
        have hS924 : St wd2 wd920 [bx b108 [v_b_Cocycle_Orders, (Value.int .i64 b_Cocycle_Modulus), v_b_Cocycle_Values]] := St.extend hS117 he921
        have e925 : f919 2 = (Value.int .i64 x) := (hout922 2 rfl).trans e112
        exact OpX.val (Value.int .i64 x) wd920 rfl (op_move e925) (Ext.refl _) ⟨rfl, r_x⟩
      · refine ObX.op rfl ?_
        intro f926 wd927 he928 hout929 hphi930
        have hS931 : St wd2 wd927 [bx b108 [v_b_Cocycle_Orders, (Value.int .i64 b_Cocycle_Modulus), v_b_Cocycle_Values]] := St.extend hS117 he928
        have e932 : f926 3 = (Value.int .i64 y) := (hout929 3 rfl).trans e113
        exact OpX.val (Value.int .i64 y) wd927 rfl (op_move e932) (Ext.refl _) ⟨rfl, r_y⟩
      · refine ObX.op rfl ?_
        intro f933 wd934 he935 hout936 hphi937
        have hS938 : St wd2 wd934 [bx b108 [v_b_Cocycle_Orders, (Value.int .i64 b_Cocycle_Modulus), v_b_Cocycle_Values]] := St.extend hS117 he935
        obtain ⟨S939, hS940, hf941⟩ := hphi937 2 88 _ rfl rfl rfl
        obtain ⟨e942, hr943⟩ := hf941
        obtain ⟨S944, hS945, hf946⟩ := hphi937 3 89 _ rfl rfl rfl
        obtain ⟨e947, hr948⟩ : f933 89 = (Value.int .i64 x) ∧ InR .i64 x := hf946
        obtain ⟨S949, hS950, hf951⟩ := hphi937 4 90 _ rfl rfl rfl
        obtain ⟨e952, hr953⟩ : f933 90 = (Value.int .i64 y) ∧ InR .i64 y := hf951
        refine OpX.call rfl (op_call fn_83 (args3 e942 e947 e952)) (Ret.mono (c_impl_Cocycle_plus (Ty.lift _ (Ext.trans hE7 hS938.ext) r_b_Cocycle_Orders) hr943 (Ty.lift _ (Ext.trans hE7 hS938.ext) r_b_Cocycle_Values) hr948 hr953 hx955) ?_)
        rintro _ wd957 ⟨rfl, hr956, he958⟩
        exact ⟨he958, _, noS _ _, ⟨rfl, hr956⟩⟩
      · refine ObX.op rfl ?_
        intro f960 wd961 he962 hout963 hphi964
        have hS965 : St wd2 wd961 [bx b108 [v_b_Cocycle_Orders, (Value.int .i64 b_Cocycle_Modulus), v_b_Cocycle_Values]] := St.extend hS117 he962
        obtain ⟨S966, hS967, hf968⟩ := hphi964 1 87 _ rfl rfl rfl
        have e969 : f960 87 = v_b_Values := hf968
        obtain ⟨S970, hS971, hf972⟩ := hphi964 5 91 _ rfl rfl rfl
        obtain ⟨e973, hr974⟩ : f960 91 = (Value.int .i64 x954) ∧ InR .i64 x954 := hf972
        exact OpX.val (Value.pointer (some (elA v_b_Values (x954).toNat))) wd961 rfl (op_idx sl_27 (Ty.lift _ (Ext.trans hE7 hS965.ext) r_b_Values) e969 e973 ha976 hb977) (Ext.refl _) rfl
      · refine ObX.op rfl ?_
        intro f979 wd980 he981 hout982 hphi983
        have hS984 : St wd2 wd980 [bx b108 [v_b_Cocycle_Orders, (Value.int .i64 b_Cocycle_Modulus), v_b_Cocycle_Values]] := St.extend hS117 he981
        obtain ⟨S985, hS986, hf987⟩ := hphi983 6 92 _ rfl rfl rfl
        have e988 : f979 92 = (Value.pointer (some (elA v_b_Values (x954).toNat))) := hf987
        exact OpX.val u989 wd980 rfl (op_load one_22 e988 (Ext.cell (Ext.trans hE7 hS984.ext) hc990)) (Ext.refl _) rfl
      · refine ObX.op rfl ?_
        intro f992 wd993 he994 hout995 hphi996
        have hS997 : St wd2 wd993 [bx b108 [v_b_Cocycle_Orders, (Value.int .i64 b_Cocycle_Modulus), v_b_Cocycle_Values]] := St.extend hS117 he994
        have e998 : f992 4 = (Value.int .i64 z) := (hout995 4 rfl).trans e114
        exact OpX.val (Value.int .i64 z) wd993 rfl (op_move e998) (Ext.refl _) ⟨rfl, r_z⟩
      · refine ObX.op rfl ?_
        intro f999 wd1000 he1001 hout1002 hphi1003
        have hS1004 : St wd2 wd1000 [bx b108 [v_b_Cocycle_Orders, (Value.int .i64 b_Cocycle_Modulus), v_b_Cocycle_Values]] := St.extend hS117 he1001
        obtain ⟨S1005, hS1006, hf1007⟩ := hphi1003 7 93 _ rfl rfl rfl
        have e1008 : f999 93 = u989 := hf1007
        obtain ⟨S1009, hS1010, hf1011⟩ := hphi1003 8 94 _ rfl rfl rfl
        obtain ⟨e1012, hr1013⟩ : f999 94 = (Value.int .i64 z) ∧ InR .i64 z := hf1011
        exact OpX.val (Value.pointer (some (elA u989 (z).toNat))) wd1000 rfl (op_idx sl_22 (Ty.lift _ (Ext.trans hE7 hS1004.ext) hr991) e1008 e1012 ha1015 hb1016) (Ext.refl _) rfl
      · refine ObX.op rfl ?_
        intro f1018 wd1019 he1020 hout1021 hphi1022
        have hS1023 : St wd2 wd1019 [bx b108 [v_b_Cocycle_Orders, (Value.int .i64 b_Cocycle_Modulus), v_b_Cocycle_Values]] := St.extend hS117 he1020
        obtain ⟨S1024, hS1025, hf1026⟩ := hphi1022 9 95 _ rfl rfl rfl
        have e1027 : f1018 95 = (Value.pointer (some (elA u989 (z).toNat))) := hf1026
        exact OpX.val (Value.int .i64 x1014) wd1019 rfl (op_load one_2 e1027 (Ext.cell (Ext.trans hE7 hS1023.ext) hc1029)) (Ext.refl _) ⟨rfl, hr1030⟩
      · refine ObX.op rfl ?_
        intro f1031 wd1032 he1033 hout1034 hphi1035
        have hS1036 : St wd2 wd1032 [bx b108 [v_b_Cocycle_Orders, (Value.int .i64 b_Cocycle_Modulus), v_b_Cocycle_Values]] := St.extend hS117 he1033
        have e1037 : f1031 11 = v_b_Cocycle_Values := (hout1034 11 rfl).trans e109
        exact OpX.val v_b_Cocycle_Values wd1032 rfl (op_move e1037) (Ext.refl _) rfl
      · refine ObX.op rfl ?_
        intro f1038 wd1039 he1040 hout1041 hphi1042
        have hS1043 : St wd2 wd1039 [bx b108 [v_b_Cocycle_Orders, (Value.int .i64 b_Cocycle_Modulus), v_b_Cocycle_Values]] := St.extend hS117 he1040
        have e1044 : f1038 4 = (Value.int .i64 z) := (hout1041 4 rfl).trans e114
        exact OpX.val (Value.int .i64 z) wd1039 rfl (op_move e1044) (Ext.refl _) ⟨rfl, r_z⟩
      · refine ObX.op rfl ?_
        intro f1045 wd1046 he1047 hout1048 hphi1049
        have hS1050 : St wd2 wd1046 [bx b108 [v_b_Cocycle_Orders, (Value.int .i64 b_Cocycle_Modulus), v_b_Cocycle_Values]] := St.extend hS117 he1047
        obtain ⟨S1051, hS1052, hf1053⟩ := hphi1049 11 97 _ rfl rfl rfl
        have e1054 : f1045 97 = v_b_Cocycle_Values := hf1053
        obtain ⟨S1055, hS1056, hf1057⟩ := hphi1049 12 98 _ rfl rfl rfl
        obtain ⟨e1058, hr1059⟩ : f1045 98 = (Value.int .i64 z) ∧ InR .i64 z := hf1057
        exact OpX.val (Value.pointer (some (elA v_b_Cocycle_Values (z).toNat))) wd1046 rfl (op_idx sl_23 (Ty.lift _ (Ext.trans hE7 hS1050.ext) r_b_Cocycle_Values) e1054 e1058 ha1061 hb1062) (Ext.refl _) rfl
      · refine ObX.op rfl ?_
        intro f1064 wd1065 he1066 hout1067 hphi1068
        have hS1069 : St wd2 wd1065 [bx b108 [v_b_Cocycle_Orders, (Value.int .i64 b_Cocycle_Modulus), v_b_Cocycle_Values]] := St.extend hS117 he1066
        obtain ⟨S1070, hS1071, hf1072⟩ := hphi1068 13 99 _ rfl rfl rfl
        have e1073 : f1064 99 = (Value.pointer (some (elA v_b_Cocycle_Values (z).toNat))) := hf1072
        exact OpX.val u1074 wd1065 rfl (op_load one_27 e1073 (Ext.cell (Ext.trans hE7 hS1069.ext) hc1075)) (Ext.refl _) rfl
      · refine ObX.op rfl ?_
        intro f1077 wd1078 he1079 hout1080 hphi1081
        have hS1082 : St wd2 wd1078 [bx b108 [v_b_Cocycle_Orders, (Value.int .i64 b_Cocycle_Modulus), v_b_Cocycle_Values]] := St.extend hS117 he1079
        have e1083 : f1077 2 = (Value.int .i64 x) := (hout1080 2 rfl).trans e112
        exact OpX.val (Value.int .i64 x) wd1078 rfl (op_move e1083) (Ext.refl _) ⟨rfl, r_x⟩
      · refine ObX.op rfl ?_
        intro f1084 wd1085 he1086 hout1087 hphi1088
        have hS1089 : St wd2 wd1085 [bx b108 [v_b_Cocycle_Orders, (Value.int .i64 b_Cocycle_Modulus), v_b_Cocycle_Values]] := St.extend hS117 he1086
        obtain ⟨S1090, hS1091, hf1092⟩ := hphi1088 14 100 _ rfl rfl rfl
        have e1093 : f1084 100 = u1074 := hf1092
        obtain ⟨S1094, hS1095, hf1096⟩ := hphi1088 15 101 _ rfl rfl rfl
        obtain ⟨e1097, hr1098⟩ : f1084 101 = (Value.int .i64 x) ∧ InR .i64 x := hf1096
        exact OpX.val (Value.pointer (some (elA u1074 (x).toNat))) wd1085 rfl (op_idx sl_27 (Ty.lift _ (Ext.trans hE7 hS1089.ext) hr1076) e1093 e1097 ha1100 hb1101) (Ext.refl _) rfl
      · refine ObX.op rfl ?_
        intro f1103 wd1104 he1105 hout1106 hphi1107
        have hS1108 : St wd2 wd1104 [bx b108 [v_b_Cocycle_Orders, (Value.int .i64 b_Cocycle_Modulus), v_b_Cocycle_Values]] := St.extend hS117 he1105
        obtain ⟨S1109, hS1110, hf1111⟩ := hphi1107 16 102 _ rfl rfl rfl
        have e1112 : f1103 102 = (Value.pointer (some (elA u1074 (x).toNat))) := hf1111
        exact OpX.val u1113 wd1104 rfl (op_load one_22 e1112 (Ext.cell (Ext.trans hE7 hS1108.ext) hc1114)) (Ext.refl _) rfl
      · refine ObX.op rfl ?_
        intro f1116 wd1117 he1118 hout1119 hphi1120
        have hS1121 : St wd2 wd1117 [bx b108 [v_b_Cocycle_Orders, (Value.int .i64 b_Cocycle_Modulus), v_b_Cocycle_Values]] := St.extend hS117 he1118
        have e1122 : f1116 3 = (Value.int .i64 y) := (hout1119 3 rfl).trans e113
        exact OpX.val (Value.int .i64 y) wd1117 rfl (op_move e1122) (Ext.refl _) ⟨rfl, r_y⟩
      · refine ObX.op rfl ?_
        intro f1123 wd1124 he1125 hout1126 hphi1127
        have hS1128 : St wd2 wd1124 [bx b108 [v_b_Cocycle_Orders, (Value.int .i64 b_Cocycle_Modulus), v_b_Cocycle_Values]] := St.extend hS117 he1125
        obtain ⟨S1129, hS1130, hf1131⟩ := hphi1127 17 103 _ rfl rfl rfl
        have e1132 : f1123 103 = u1113 := hf1131
        obtain ⟨S1133, hS1134, hf1135⟩ := hphi1127 18 104 _ rfl rfl rfl
        obtain ⟨e1136, hr1137⟩ : f1123 104 = (Value.int .i64 y) ∧ InR .i64 y := hf1135
        exact OpX.val (Value.pointer (some (elA u1113 (y).toNat))) wd1124 rfl (op_idx sl_22 (Ty.lift _ (Ext.trans hE7 hS1128.ext) hr1115) e1132 e1136 ha1139 hb1140) (Ext.refl _) rfl
      · refine ObX.op rfl ?_
        intro f1142 wd1143 he1144 hout1145 hphi1146
        have hS1147 : St wd2 wd1143 [bx b108 [v_b_Cocycle_Orders, (Value.int .i64 b_Cocycle_Modulus), v_b_Cocycle_Values]] := St.extend hS117 he1144
        obtain ⟨S1148, hS1149, hf1150⟩ := hphi1146 19 105 _ rfl rfl rfl
        have e1151 : f1142 105 = (Value.pointer (some (elA u1113 (y).toNat))) := hf1150
        exact OpX.val (Value.int .i64 x1138) wd1143 rfl (op_load one_2 e1151 (Ext.cell (Ext.trans hE7 hS1147.ext) hc1153)) (Ext.refl _) ⟨rfl, hr1154⟩
      · refine ObX.op rfl ?_
        intro f1155 wd1156 he1157 hout1158 hphi1159
        have hS1160 : St wd2 wd1156 [bx b108 [v_b_Cocycle_Orders, (Value.int .i64 b_Cocycle_Modulus), v_b_Cocycle_Values]] := St.extend hS117 he1157
        obtain ⟨S1161, hS1162, hf1163⟩ := hphi1159 10 96 _ rfl rfl rfl
        obtain ⟨e1164, hr1165⟩ : f1155 96 = (Value.int .i64 x1014) ∧ InR .i64 x1014 := hf1163
        obtain ⟨S1166, hS1167, hf1168⟩ := hphi1159 20 106 _ rfl rfl rfl
        obtain ⟨e1169, hr1170⟩ : f1155 106 = (Value.int .i64 x1138) ∧ InR .i64 x1138 := hf1168
        exact OpX.val (Value.int .i64 (w64 (x1014 - x1138))) wd1156 rfl (op_sub e1164 e1169) (Ext.refl _) ⟨rfl, (inR_wrap _ _)⟩
      · refine ObX.op rfl ?_
        intro f1171 wd1172 he1173 hout1174 hphi1175
        have hS1176 : St wd2 wd1172 [bx b108 [v_b_Cocycle_Orders, (Value.int .i64 b_Cocycle_Modulus), v_b_Cocycle_Values]] := St.extend hS117 he1173
        have e1177 : f1171 11 = v_b_Cocycle_Values := (hout1174 11 rfl).trans e109
        exact OpX.val v_b_Cocycle_Values wd1172 rfl (op_move e1177) (Ext.refl _) rfl
      · refine ObX.op rfl ?_
        intro f1178 wd1179 he1180 hout1181 hphi1182
        have hS1183 : St wd2 wd1179 [bx b108 [v_b_Cocycle_Orders, (Value.int .i64 b_Cocycle_Modulus), v_b_Cocycle_Values]] := St.extend hS117 he1180
        have e1184 : f1178 2 = (Value.int .i64 x) := (hout1181 2 rfl).trans e112
        exact OpX.val (Value.int .i64 x) wd1179 rfl (op_move e1184) (Ext.refl _) ⟨rfl, r_x⟩
      · refine ObX.op rfl ?_
        intro f1185 wd1186 he1187 hout1188 hphi1189
        have hS1190 : St wd2 wd1186 [bx b108 [v_b_Cocycle_Orders, (Value.int .i64 b_Cocycle_Modulus), v_b_Cocycle_Values]] := St.extend hS117 he1187
        obtain ⟨S1191, hS1192, hf1193⟩ := hphi1189 22 108 _ rfl rfl rfl
        have e1194 : f1185 108 = v_b_Cocycle_Values := hf1193
        obtain ⟨S1195, hS1196, hf1197⟩ := hphi1189 23 109 _ rfl rfl rfl
        obtain ⟨e1198, hr1199⟩ : f1185 109 = (Value.int .i64 x) ∧ InR .i64 x := hf1197
        exact OpX.val (Value.pointer (some (elA v_b_Cocycle_Values (x).toNat))) wd1186 rfl (op_idx sl_23 (Ty.lift _ (Ext.trans hE7 hS1190.ext) r_b_Cocycle_Values) e1194 e1198 ha1201 hb1202) (Ext.refl _) rfl
      · refine ObX.op rfl ?_
        intro f1204 wd1205 he1206 hout1207 hphi1208
        have hS1209 : St wd2 wd1205 [bx b108 [v_b_Cocycle_Orders, (Value.int .i64 b_Cocycle_Modulus), v_b_Cocycle_Values]] := St.extend hS117 he1206
        obtain ⟨S1210, hS1211, hf1212⟩ := hphi1208 24 110 _ rfl rfl rfl
        have e1213 : f1204 110 = (Value.pointer (some (elA v_b_Cocycle_Values (x).toNat))) := hf1212
        exact OpX.val u1214 wd1205 rfl (op_load one_27 e1213 (Ext.cell (Ext.trans hE7 hS1209.ext) hc1215)) (Ext.refl _) rfl
      · refine ObX.op rfl ?_
        intro f1217 wd1218 he1219 hout1220 hphi1221
        have hS1222 : St wd2 wd1218 [bx b108 [v_b_Cocycle_Orders, (Value.int .i64 b_Cocycle_Modulus), v_b_Cocycle_Values]] := St.extend hS117 he1219
        have e1223 : f1217 3 = (Value.int .i64 y) := (hout1220 3 rfl).trans e113
        exact OpX.val (Value.int .i64 y) wd1218 rfl (op_move e1223) (Ext.refl _) ⟨rfl, r_y⟩
      · refine ObX.op rfl ?_
        intro f1224 wd1225 he1226 hout1227 hphi1228
        have hS1229 : St wd2 wd1225 [bx b108 [v_b_Cocycle_Orders, (Value.int .i64 b_Cocycle_Modulus), v_b_Cocycle_Values]] := St.extend hS117 he1226
        obtain ⟨S1230, hS1231, hf1232⟩ := hphi1228 25 111 _ rfl rfl rfl
        have e1233 : f1224 111 = u1214 := hf1232
        obtain ⟨S1234, hS1235, hf1236⟩ := hphi1228 26 112 _ rfl rfl rfl
        obtain ⟨e1237, hr1238⟩ : f1224 112 = (Value.int .i64 y) ∧ InR .i64 y := hf1236
        exact OpX.val (Value.pointer (some (elA u1214 (y).toNat))) wd1225 rfl (op_idx sl_27 (Ty.lift _ (Ext.trans hE7 hS1229.ext) hr1216) e1233 e1237 ha1240 hb1241) (Ext.refl _) rfl
      · refine ObX.op rfl ?_
        intro f1243 wd1244 he1245 hout1246 hphi1247
        have hS1248 : St wd2 wd1244 [bx b108 [v_b_Cocycle_Orders, (Value.int .i64 b_Cocycle_Modulus), v_b_Cocycle_Values]] := St.extend hS117 he1245
        obtain ⟨S1249, hS1250, hf1251⟩ := hphi1247 27 113 _ rfl rfl rfl
        have e1252 : f1243 113 = (Value.pointer (some (elA u1214 (y).toNat))) := hf1251
        exact OpX.val u1253 wd1244 rfl (op_load one_22 e1252 (Ext.cell (Ext.trans hE7 hS1248.ext) hc1254)) (Ext.refl _) rfl
      · refine ObX.op rfl ?_
        intro f1256 wd1257 he1258 hout1259 hphi1260
        have hS1261 : St wd2 wd1257 [bx b108 [v_b_Cocycle_Orders, (Value.int .i64 b_Cocycle_Modulus), v_b_Cocycle_Values]] := St.extend hS117 he1258
        have e1262 : f1256 4 = (Value.int .i64 z) := (hout1259 4 rfl).trans e114
        exact OpX.val (Value.int .i64 z) wd1257 rfl (op_move e1262) (Ext.refl _) ⟨rfl, r_z⟩
      · refine ObX.op rfl ?_
        intro f1263 wd1264 he1265 hout1266 hphi1267
        have hS1268 : St wd2 wd1264 [bx b108 [v_b_Cocycle_Orders, (Value.int .i64 b_Cocycle_Modulus), v_b_Cocycle_Values]] := St.extend hS117 he1265
        obtain ⟨S1269, hS1270, hf1271⟩ := hphi1267 28 114 _ rfl rfl rfl
        have e1272 : f1263 114 = u1253 := hf1271
        obtain ⟨S1273, hS1274, hf1275⟩ := hphi1267 29 115 _ rfl rfl rfl
        obtain ⟨e1276, hr1277⟩ : f1263 115 = (Value.int .i64 z) ∧ InR .i64 z := hf1275
        exact OpX.val (Value.pointer (some (elA u1253 (z).toNat))) wd1264 rfl (op_idx sl_22 (Ty.lift _ (Ext.trans hE7 hS1268.ext) hr1255) e1272 e1276 ha1279 hb1280) (Ext.refl _) rfl
      · refine ObX.op rfl ?_
        intro f1282 wd1283 he1284 hout1285 hphi1286
        have hS1287 : St wd2 wd1283 [bx b108 [v_b_Cocycle_Orders, (Value.int .i64 b_Cocycle_Modulus), v_b_Cocycle_Values]] := St.extend hS117 he1284
        obtain ⟨S1288, hS1289, hf1290⟩ := hphi1286 30 116 _ rfl rfl rfl
        have e1291 : f1282 116 = (Value.pointer (some (elA u1253 (z).toNat))) := hf1290
        exact OpX.val (Value.int .i64 x1278) wd1283 rfl (op_load one_2 e1291 (Ext.cell (Ext.trans hE7 hS1287.ext) hc1293)) (Ext.refl _) ⟨rfl, hr1294⟩
      · refine ObX.op rfl ?_
        intro f1295 wd1296 he1297 hout1298 hphi1299
        have hS1300 : St wd2 wd1296 [bx b108 [v_b_Cocycle_Orders, (Value.int .i64 b_Cocycle_Modulus), v_b_Cocycle_Values]] := St.extend hS117 he1297
        obtain ⟨S1301, hS1302, hf1303⟩ := hphi1299 21 107 _ rfl rfl rfl
        obtain ⟨e1304, hr1305⟩ : f1295 107 = (Value.int .i64 (w64 (x1014 - x1138))) ∧ InR .i64 (w64 (x1014 - x1138)) := hf1303
        obtain ⟨S1306, hS1307, hf1308⟩ := hphi1299 31 117 _ rfl rfl rfl
        obtain ⟨e1309, hr1310⟩ : f1295 117 = (Value.int .i64 x1278) ∧ InR .i64 x1278 := hf1308
        exact OpX.val (Value.int .i64 (w64 ((w64 (x1014 - x1138)) - x1278))) wd1296 rfl (op_sub e1304 e1309) (Ext.refl _) ⟨rfl, (inR_wrap _ _)⟩
      · refine ObX.op rfl ?_
        intro f1311 wd1312 he1313 hout1314 hphi1315
        have hS1316 : St wd2 wd1312 [bx b108 [v_b_Cocycle_Orders, (Value.int .i64 b_Cocycle_Modulus), v_b_Cocycle_Values]] := St.extend hS117 he1313
        obtain ⟨S1317, hS1318, hf1319⟩ := hphi1315 0 86 _ rfl rfl rfl
        obtain ⟨e1320, hr1321⟩ := hf1319
        obtain ⟨S1322, hS1323, hf1324⟩ := hphi1315 32 118 _ rfl rfl rfl
        obtain ⟨e1325, hr1326⟩ : f1311 118 = (Value.int .i64 (w64 ((w64 (x1014 - x1138)) - x1278))) ∧ InR .i64 (w64 ((w64 (x1014 - x1138)) - x1278)) := hf1324
        refine OpX.call rfl (op_call fn_43 (args2 e1320 e1325)) (Ret.mono (c_impl_Cocycle_rest (Ty.lift _ (Ext.trans hE7 hS1316.ext) r_b_Cocycle_Orders) hr1321 (Ty.lift _ (Ext.trans hE7 hS1316.ext) r_b_Cocycle_Values) hr1326 hx1328) ?_)
        rintro _ wd1330 ⟨rfl, hr1329, he1331⟩
        exact ⟨he1331, _, noS _ _, ⟨rfl, hr1329⟩⟩
      · refine ObX.op rfl ?_
        intro f1333 wd1334 he1335 hout1336 hphi1337
        have hS1338 : St wd2 wd1334 [bx b108 [v_b_Cocycle_Orders, (Value.int .i64 b_Cocycle_Modulus), v_b_Cocycle_Values]] := St.extend hS117 he1335
        have e1339 : f1333 13 = (Value.pointer (some ⟨b108, 0, none⟩)) := (hout1336 13 rfl).trans e107
        exact OpX.val (Value.agg #[v_b_Cocycle_Orders, (Value.int .i64 b_Cocycle_Modulus), v_b_Cocycle_Values]) wd1334 rfl (op_loadBox st_30 e1339 (St.boxAt hS1338 0 rfl) rfl rfl) (Ext.refl _) ⟨rfl, hr106⟩
      · refine ObX.op rfl ?_
        intro f1340 wd1341 he1342 hout1343 hphi1344
        have hS1345 : St wd2 wd1341 [bx b108 [v_b_Cocycle_Orders, (Value.int .i64 b_Cocycle_Modulus), v_b_Cocycle_Values]] := St.extend hS117 he1342
        have e1346 : f1340 12 = v_b_Values := (hout1343 12 rfl).trans e110
        exact OpX.val v_b_Values wd1341 rfl (op_move e1346) (Ext.refl _) rfl
      · refine ObX.op rfl ?_
        intro f1347 wd1348 he1349 hout1350 hphi1351
        have hS1352 : St wd2 wd1348 [bx b108 [v_b_Cocycle_Orders, (Value.int .i64 b_Cocycle_Modulus), v_b_Cocycle_Values]] := St.extend hS117 he1349
        have e1353 : f1347 2 = (Value.int .i64 x) := (hout1350 2 rfl).trans e112
        exact OpX.val (Value.int .i64 x) wd1348 rfl (op_move e1353) (Ext.refl _) ⟨rfl, r_x⟩
      · refine ObX.op rfl ?_
        intro f1354 wd1355 he1356 hout1357 hphi1358
        have hS1359 : St wd2 wd1355 [bx b108 [v_b_Cocycle_Orders, (Value.int .i64 b_Cocycle_Modulus), v_b_Cocycle_Values]] := St.extend hS117 he1356
        obtain ⟨S1360, hS1361, hf1362⟩ := hphi1358 35 121 _ rfl rfl rfl
        have e1363 : f1354 121 = v_b_Values := hf1362
        obtain ⟨S1364, hS1365, hf1366⟩ := hphi1358 36 122 _ rfl rfl rfl
        obtain ⟨e1367, hr1368⟩ : f1354 122 = (Value.int .i64 x) ∧ InR .i64 x := hf1366
        exact OpX.val (Value.pointer (some (elA v_b_Values (x).toNat))) wd1355 rfl (op_idx sl_27 (Ty.lift _ (Ext.trans hE7 hS1359.ext) r_b_Values) e1363 e1367 ha1370 hb1371) (Ext.refl _) rfl
      · refine ObX.op rfl ?_
        intro f1373 wd1374 he1375 hout1376 hphi1377
        have hS1378 : St wd2 wd1374 [bx b108 [v_b_Cocycle_Orders, (Value.int .i64 b_Cocycle_Modulus), v_b_Cocycle_Values]] := St.extend hS117 he1375
        obtain ⟨S1379, hS1380, hf1381⟩ := hphi1377 37 123 _ rfl rfl rfl
        have e1382 : f1373 123 = (Value.pointer (some (elA v_b_Values (x).toNat))) := hf1381
        exact OpX.val u1383 wd1374 rfl (op_load one_22 e1382 (Ext.cell (Ext.trans hE7 hS1378.ext) hc1384)) (Ext.refl _) rfl
      · refine ObX.op rfl ?_
        intro f1386 wd1387 he1388 hout1389 hphi1390
        have hS1391 : St wd2 wd1387 [bx b108 [v_b_Cocycle_Orders, (Value.int .i64 b_Cocycle_Modulus), v_b_Cocycle_Values]] := St.extend hS117 he1388
        have e1392 : f1386 4 = (Value.int .i64 z) := (hout1389 4 rfl).trans e114
        exact OpX.val (Value.int .i64 z) wd1387 rfl (op_move e1392) (Ext.refl _) ⟨rfl, r_z⟩
      · refine ObX.op rfl ?_
        intro f1393 wd1394 he1395 hout1396 hphi1397
        have hS1398 : St wd2 wd1394 [bx b108 [v_b_Cocycle_Orders, (Value.int .i64 b_Cocycle_Modulus), v_b_Cocycle_Values]] := St.extend hS117 he1395
        obtain ⟨S1399, hS1400, hf1401⟩ := hphi1397 38 124 _ rfl rfl rfl
        have e1402 : f1393 124 = u1383 := hf1401
        obtain ⟨S1403, hS1404, hf1405⟩ := hphi1397 39 125 _ rfl rfl rfl
        obtain ⟨e1406, hr1407⟩ : f1393 125 = (Value.int .i64 z) ∧ InR .i64 z := hf1405
        exact OpX.val (Value.pointer (some (elA u1383 (z).toNat))) wd1394 rfl (op_idx sl_22 (Ty.lift _ (Ext.trans hE7 hS1398.ext) hr1385) e1402 e1406 ha1409 hb1410) (Ext.refl _) rfl
      · refine ObX.op rfl ?_
        intro f1412 wd1413 he1414 hout1415 hphi1416
        have hS1417 : St wd2 wd1413 [bx b108 [v_b_Cocycle_Orders, (Value.int .i64 b_Cocycle_Modulus), v_b_Cocycle_Values]] := St.extend hS117 he1414
        obtain ⟨S1418, hS1419, hf1420⟩ := hphi1416 40 126 _ rfl rfl rfl
        have e1421 : f1412 126 = (Value.pointer (some (elA u1383 (z).toNat))) := hf1420
        exact OpX.val (Value.int .i64 x1408) wd1413 rfl (op_load one_2 e1421 (Ext.cell (Ext.trans hE7 hS1417.ext) hc1423)) (Ext.refl _) ⟨rfl, hr1424⟩
      · refine ObX.op rfl ?_
        intro f1425 wd1426 he1427 hout1428 hphi1429
        have hS1430 : St wd2 wd1426 [bx b108 [v_b_Cocycle_Orders, (Value.int .i64 b_Cocycle_Modulus), v_b_Cocycle_Values]] := St.extend hS117 he1427
        have e1431 : f1425 12 = v_b_Values := (hout1428 12 rfl).trans e110
        exact OpX.val v_b_Values wd1426 rfl (op_move e1431) (Ext.refl _) rfl
      · refine ObX.op rfl ?_
        intro f1432 wd1433 he1434 hout1435 hphi1436
        have hS1437 : St wd2 wd1433 [bx b108 [v_b_Cocycle_Orders, (Value.int .i64 b_Cocycle_Modulus), v_b_Cocycle_Values]] := St.extend hS117 he1434
        have e1438 : f1432 3 = (Value.int .i64 y) := (hout1435 3 rfl).trans e113
        exact OpX.val (Value.int .i64 y) wd1433 rfl (op_move e1438) (Ext.refl _) ⟨rfl, r_y⟩
      · refine ObX.op rfl ?_
        intro f1439 wd1440 he1441 hout1442 hphi1443
        have hS1444 : St wd2 wd1440 [bx b108 [v_b_Cocycle_Orders, (Value.int .i64 b_Cocycle_Modulus), v_b_Cocycle_Values]] := St.extend hS117 he1441
        obtain ⟨S1445, hS1446, hf1447⟩ := hphi1443 42 128 _ rfl rfl rfl
        have e1448 : f1439 128 = v_b_Values := hf1447
        obtain ⟨S1449, hS1450, hf1451⟩ := hphi1443 43 129 _ rfl rfl rfl
        obtain ⟨e1452, hr1453⟩ : f1439 129 = (Value.int .i64 y) ∧ InR .i64 y := hf1451
        exact OpX.val (Value.pointer (some (elA v_b_Values (y).toNat))) wd1440 rfl (op_idx sl_27 (Ty.lift _ (Ext.trans hE7 hS1444.ext) r_b_Values) e1448 e1452 ha1455 hb1456) (Ext.refl _) rfl
      · refine ObX.op rfl ?_
        intro f1458 wd1459 he1460 hout1461 hphi1462
        have hS1463 : St wd2 wd1459 [bx b108 [v_b_Cocycle_Orders, (Value.int .i64 b_Cocycle_Modulus), v_b_Cocycle_Values]] := St.extend hS117 he1460
        obtain ⟨S1464, hS1465, hf1466⟩ := hphi1462 44 130 _ rfl rfl rfl
        have e1467 : f1458 130 = (Value.pointer (some (elA v_b_Values (y).toNat))) := hf1466
        exact OpX.val u1468 wd1459 rfl (op_load one_22 e1467 (Ext.cell (Ext.trans hE7 hS1463.ext) hc1469)) (Ext.refl _) rfl
      · refine ObX.op rfl ?_
        intro f1471 wd1472 he1473 hout1474 hphi1475
        have hS1476 : St wd2 wd1472 [bx b108 [v_b_Cocycle_Orders, (Value.int .i64 b_Cocycle_Modulus), v_b_Cocycle_Values]] := St.extend hS117 he1473
        have e1477 : f1471 4 = (Value.int .i64 z) := (hout1474 4 rfl).trans e114
        exact OpX.val (Value.int .i64 z) wd1472 rfl (op_move e1477) (Ext.refl _) ⟨rfl, r_z⟩
      · refine ObX.op rfl ?_
        intro f1478 wd1479 he1480 hout1481 hphi1482
        have hS1483 : St wd2 wd1479 [bx b108 [v_b_Cocycle_Orders, (Value.int .i64 b_Cocycle_Modulus), v_b_Cocycle_Values]] := St.extend hS117 he1480
        obtain ⟨S1484, hS1485, hf1486⟩ := hphi1482 45 131 _ rfl rfl rfl
        have e1487 : f1478 131 = u1468 := hf1486
        obtain ⟨S1488, hS1489, hf1490⟩ := hphi1482 46 132 _ rfl rfl rfl
        obtain ⟨e1491, hr1492⟩ : f1478 132 = (Value.int .i64 z) ∧ InR .i64 z := hf1490
        exact OpX.val (Value.pointer (some (elA u1468 (z).toNat))) wd1479 rfl (op_idx sl_22 (Ty.lift _ (Ext.trans hE7 hS1483.ext) hr1470) e1487 e1491 ha1494 hb1495) (Ext.refl _) rfl
      · refine ObX.op rfl ?_
        intro f1497 wd1498 he1499 hout1500 hphi1501
        have hS1502 : St wd2 wd1498 [bx b108 [v_b_Cocycle_Orders, (Value.int .i64 b_Cocycle_Modulus), v_b_Cocycle_Values]] := St.extend hS117 he1499
        obtain ⟨S1503, hS1504, hf1505⟩ := hphi1501 47 133 _ rfl rfl rfl
        have e1506 : f1497 133 = (Value.pointer (some (elA u1468 (z).toNat))) := hf1505
        exact OpX.val (Value.int .i64 x1493) wd1498 rfl (op_load one_2 e1506 (Ext.cell (Ext.trans hE7 hS1502.ext) hc1508)) (Ext.refl _) ⟨rfl, hr1509⟩
      · refine ObX.op rfl ?_
        intro f1510 wd1511 he1512 hout1513 hphi1514
        have hS1515 : St wd2 wd1511 [bx b108 [v_b_Cocycle_Orders, (Value.int .i64 b_Cocycle_Modulus), v_b_Cocycle_Values]] := St.extend hS117 he1512
        obtain ⟨S1516, hS1517, hf1518⟩ := hphi1514 41 127 _ rfl rfl rfl
        obtain ⟨e1519, hr1520⟩ : f1510 127 = (Value.int .i64 x1408) ∧ InR .i64 x1408 := hf1518
        obtain ⟨S1521, hS1522, hf1523⟩ := hphi1514 48 134 _ rfl rfl rfl
        obtain ⟨e1524, hr1525⟩ : f1510 134 = (Value.int .i64 x1493) ∧ InR .i64 x1493 := hf1523
        exact OpX.val (Value.int .i64 (w64 (x1408 + x1493))) wd1511 rfl (op_add e1519 e1524) (Ext.refl _) ⟨rfl, (inR_wrap _ _)⟩
      · refine ObX.op rfl ?_
        intro f1526 wd1527 he1528 hout1529 hphi1530
        have hS1531 : St wd2 wd1527 [bx b108 [v_b_Cocycle_Orders, (Value.int .i64 b_Cocycle_Modulus), v_b_Cocycle_Values]] := St.extend hS117 he1528
        have e1532 : f1526 11 = v_b_Cocycle_Values := (hout1529 11 rfl).trans e109
        exact OpX.val v_b_Cocycle_Values wd1527 rfl (op_move e1532) (Ext.refl _) rfl
      · refine ObX.op rfl ?_
        intro f1533 wd1534 he1535 hout1536 hphi1537
        have hS1538 : St wd2 wd1534 [bx b108 [v_b_Cocycle_Orders, (Value.int .i64 b_Cocycle_Modulus), v_b_Cocycle_Values]] := St.extend hS117 he1535
        have e1539 : f1533 2 = (Value.int .i64 x) := (hout1536 2 rfl).trans e112
        exact OpX.val (Value.int .i64 x) wd1534 rfl (op_move e1539) (Ext.refl _) ⟨rfl, r_x⟩
      · refine ObX.op rfl ?_
        intro f1540 wd1541 he1542 hout1543 hphi1544
        have hS1545 : St wd2 wd1541 [bx b108 [v_b_Cocycle_Orders, (Value.int .i64 b_Cocycle_Modulus), v_b_Cocycle_Values]] := St.extend hS117 he1542
        obtain ⟨S1546, hS1547, hf1548⟩ := hphi1544 50 136 _ rfl rfl rfl
        have e1549 : f1540 136 = v_b_Cocycle_Values := hf1548
        obtain ⟨S1550, hS1551, hf1552⟩ := hphi1544 51 137 _ rfl rfl rfl
        obtain ⟨e1553, hr1554⟩ : f1540 137 = (Value.int .i64 x) ∧ InR .i64 x := hf1552
        exact OpX.val (Value.pointer (some (elA v_b_Cocycle_Values (x).toNat))) wd1541 rfl (op_idx sl_23 (Ty.lift _ (Ext.trans hE7 hS1545.ext) r_b_Cocycle_Values) e1549 e1553 ha1201 hb1202) (Ext.refl _) rfl
      · refine ObX.op rfl ?_
        intro f1555 wd1556 he1557 hout1558 hphi1559
        have hS1560 : St wd2 wd1556 [bx b108 [v_b_Cocycle_Orders, (Value.int .i64 b_Cocycle_Modulus), v_b_Cocycle_Values]] := St.extend hS117 he1557
        obtain ⟨S1561, hS1562, hf1563⟩ := hphi1559 52 138 _ rfl rfl rfl
        have e1564 : f1555 138 = (Value.pointer (some (elA v_b_Cocycle_Values (x).toNat))) := hf1563
        exact OpX.val u1565 wd1556 rfl (op_load one_27 e1564 (Ext.cell (Ext.trans hE7 hS1560.ext) hc1566)) (Ext.refl _) rfl
      · refine ObX.op rfl ?_
        intro f1568 wd1569 he1570 hout1571 hphi1572
        have hS1573 : St wd2 wd1569 [bx b108 [v_b_Cocycle_Orders, (Value.int .i64 b_Cocycle_Modulus), v_b_Cocycle_Values]] := St.extend hS117 he1570
        have e1574 : f1568 4 = (Value.int .i64 z) := (hout1571 4 rfl).trans e114
        exact OpX.val (Value.int .i64 z) wd1569 rfl (op_move e1574) (Ext.refl _) ⟨rfl, r_z⟩
      · refine ObX.op rfl ?_
        intro f1575 wd1576 he1577 hout1578 hphi1579
        have hS1580 : St wd2 wd1576 [bx b108 [v_b_Cocycle_Orders, (Value.int .i64 b_Cocycle_Modulus), v_b_Cocycle_Values]] := St.extend hS117 he1577
        obtain ⟨S1581, hS1582, hf1583⟩ := hphi1579 53 139 _ rfl rfl rfl
        have e1584 : f1575 139 = u1565 := hf1583
        obtain ⟨S1585, hS1586, hf1587⟩ := hphi1579 54 140 _ rfl rfl rfl
        obtain ⟨e1588, hr1589⟩ : f1575 140 = (Value.int .i64 z) ∧ InR .i64 z := hf1587
        exact OpX.val (Value.pointer (some (elA u1565 (z).toNat))) wd1576 rfl (op_idx sl_27 (Ty.lift _ (Ext.trans hE7 hS1580.ext) hr1567) e1584 e1588 ha1591 hb1592) (Ext.refl _) rfl
      · refine ObX.op rfl ?_
        intro f1594 wd1595 he1596 hout1597 hphi1598
        have hS1599 : St wd2 wd1595 [bx b108 [v_b_Cocycle_Orders, (Value.int .i64 b_Cocycle_Modulus), v_b_Cocycle_Values]] := St.extend hS117 he1596
        obtain ⟨S1600, hS1601, hf1602⟩ := hphi1598 55 141 _ rfl rfl rfl
        have e1603 : f1594 141 = (Value.pointer (some (elA u1565 (z).toNat))) := hf1602
        exact OpX.val u1604 wd1595 rfl (op_load one_22 e1603 (Ext.cell (Ext.trans hE7 hS1599.ext) hc1605)) (Ext.refl _) rfl
      · refine ObX.op rfl ?_
        intro f1607 wd1608 he1609 hout1610 hphi1611
        have hS1612 : St wd2 wd1608 [bx b108 [v_b_Cocycle_Orders, (Value.int .i64 b_Cocycle_Modulus), v_b_Cocycle_Values]] := St.extend hS117 he1609
        have e1613 : f1607 3 = (Value.int .i64 y) := (hout1610 3 rfl).trans e113
        exact OpX.val (Value.int .i64 y) wd1608 rfl (op_move e1613) (Ext.refl _) ⟨rfl, r_y⟩
      · refine ObX.op rfl ?_
        intro f1614 wd1615 he1616 hout1617 hphi1618
        have hS1619 : St wd2 wd1615 [bx b108 [v_b_Cocycle_Orders, (Value.int .i64 b_Cocycle_Modulus), v_b_Cocycle_Values]] := St.extend hS117 he1616
        obtain ⟨S1620, hS1621, hf1622⟩ := hphi1618 56 142 _ rfl rfl rfl
        have e1623 : f1614 142 = u1604 := hf1622
        obtain ⟨S1624, hS1625, hf1626⟩ := hphi1618 57 143 _ rfl rfl rfl
        obtain ⟨e1627, hr1628⟩ : f1614 143 = (Value.int .i64 y) ∧ InR .i64 y := hf1626
        exact OpX.val (Value.pointer (some (elA u1604 (y).toNat))) wd1615 rfl (op_idx sl_22 (Ty.lift _ (Ext.trans hE7 hS1619.ext) hr1606) e1623 e1627 ha1630 hb1631) (Ext.refl _) rfl
      · refine ObX.op rfl ?_
        intro f1633 wd1634 he1635 hout1636 hphi1637
        have hS1638 : St wd2 wd1634 [bx b108 [v_b_Cocycle_Orders, (Value.int .i64 b_Cocycle_Modulus), v_b_Cocycle_Values]] := St.extend hS117 he1635
        obtain ⟨S1639, hS1640, hf1641⟩ := hphi1637 58 144 _ rfl rfl rfl
        have e1642 : f1633 144 = (Value.pointer (some (elA u1604 (y).toNat))) := hf1641
        exact OpX.val (Value.int .i64 x1629) wd1634 rfl (op_load one_2 e1642 (Ext.cell (Ext.trans hE7 hS1638.ext) hc1644)) (Ext.refl _) ⟨rfl, hr1645⟩
      · refine ObX.op rfl ?_
        intro f1646 wd1647 he1648 hout1649 hphi1650
        have hS1651 : St wd2 wd1647 [bx b108 [v_b_Cocycle_Orders, (Value.int .i64 b_Cocycle_Modulus), v_b_Cocycle_Values]] := St.extend hS117 he1648
        obtain ⟨S1652, hS1653, hf1654⟩ := hphi1650 49 135 _ rfl rfl rfl
        obtain ⟨e1655, hr1656⟩ : f1646 135 = (Value.int .i64 (w64 (x1408 + x1493))) ∧ InR .i64 (w64 (x1408 + x1493)) := hf1654
        obtain ⟨S1657, hS1658, hf1659⟩ := hphi1650 59 145 _ rfl rfl rfl
        obtain ⟨e1660, hr1661⟩ : f1646 145 = (Value.int .i64 x1629) ∧ InR .i64 x1629 := hf1659
        exact OpX.val (Value.int .i64 (w64 ((w64 (x1408 + x1493)) - x1629))) wd1647 rfl (op_sub e1655 e1660) (Ext.refl _) ⟨rfl, (inR_wrap _ _)⟩
      · intro f1662 wd1663 Ss1664 he1665 hout1666 hSn1667 hSd1668 hphi1669
        show WL _ _ _ _ _ _ _
        have hS1670 : St wd2 wd1663 [bx b108 [v_b_Cocycle_Orders, (Value.int .i64 b_Cocycle_Modulus), v_b_Cocycle_Values]] := St.extend hS117 he1665
        obtain ⟨e1671, hr1672⟩ : f1662 119 = (Value.int .i64 x1327) ∧ InR .i64 x1327 := hphi1669 33 119 _ (by decide) rfl rfl
        obtain ⟨e1673, hr1674⟩ := hphi1669 34 120 _ (by decide) rfl rfl
        obtain ⟨e1675, hr1676⟩ : f1662 146 = (Value.int .i64 (w64 ((w64 (x1408 + x1493)) - x1629))) ∧ InR .i64 (w64 ((w64 (x1408 + x1493)) - x1629)) := hphi1669 60 146 _ (by decide) rfl rfl
        obtain ⟨x1677, hx1678, h⟩ := bs h
        refine WL.call _ (op_call fn_43 (args2 e1673 e1675)) (c_impl_Cocycle_rest (Ty.lift _ (Ext.trans hE7 hS1670.ext) r_b_Cocycle_Orders) hr1674 (Ty.lift _ (Ext.trans hE7 hS1670.ext) r_b_Cocycle_Values) hr1676 hx1678) rfl ?_
        rintro _ wd1680 ⟨rfl, hr1679, he1681⟩
        have hS1683 := St.extend hS1670 he1681
        replace hS1683 : St wd2 wd1680 [bx b108 [v_b_Cocycle_Orders, (Value.int .i64 b_Cocycle_Modulus), v_b_Cocycle_Values]] := hS1683
        refine WL.val (Value.bool (x1327 == x1677)) _ (op_eql e1671 rfl) rfl ?_
        refine WL.val (Value.bool (x1327 == x1677)) _ (op_assign rfl) rfl ?_
        refine WL.nil ?_
        show W _ _ _ _ _ _
        refine W.ret ?_
        obtain rfl := Option.some.inj h
        show FinP _ _ _ _ _ _ _
        exact FinP.ret _ (res1 rfl rfl) ⟨rfl, (Ext.trans hE7 hS1683.ext)⟩

theorem c_impl_Braiding_fault {w : World} {b_Cocycle_Orders : (List Int)} {v_b_Cocycle_Orders : Value} {b_Cocycle_Modulus : Int} {b_Cocycle_Values : (List (List (List Int)))} {v_b_Cocycle_Values : Value} {b_Values : (List (List Int))} {v_b_Values : Value} (r_b_Cocycle_Orders : (Ty.sl (Ty.i .i64)).rep w v_b_Cocycle_Orders b_Cocycle_Orders) (r_b_Cocycle_Modulus : InR .i64 b_Cocycle_Modulus) (r_b_Cocycle_Values : (Ty.sl (Ty.sl (Ty.sl (Ty.i .i64)))).rep w v_b_Cocycle_Values b_Cocycle_Values) (r_b_Values : (Ty.sl (Ty.sl (Ty.i .i64))).rep w v_b_Values b_Values) {res : (List Int)} (h : p_impl_Braiding_fault b_Cocycle_Orders b_Cocycle_Modulus b_Cocycle_Values b_Values  = some res) :
    Ret Try.prog 49 #[(Value.agg #[v_b_Cocycle_Orders, (Value.int .i64 b_Cocycle_Modulus), v_b_Cocycle_Values, v_b_Values])] w (fun v w' => ∃ (u0 : Value), v = u0 ∧ NilIff u0 res ∧ Ext w w' ∧ Sep w.heap.size w' [(Ty.sl (Ty.i .i64)).at u0 res]) := by
  unfold p_impl_Braiding_fault at h
  have hS0 : St w w [] := St.start w
  refine Ret.start (fn := Try.f49) Try.func49 rfl 44 rfl rfl ?_
  refine W.seq (W.region ?_)
  refine WL.box hS0 rfl (cs := [v_b_Cocycle_Orders, (Value.int .i64 b_Cocycle_Modulus), v_b_Cocycle_Values, v_b_Values]) rfl rfl ?_
  intro b1 wd2 hS3 he4 hx5
  replace hS3 : St w wd2 [bx b1 [v_b_Cocycle_Orders, (Value.int .i64 b_Cocycle_Modulus), v_b_Cocycle_Values, v_b_Values]] := hS3
  have hx6 := St.boxAt hS3 0 rfl
  have hE7 : Ext w wd2 := hS3.ext
  have hS8 : St wd2 wd2 [] := St.start wd2
  refine WL.val (Value.slice none 0 0) _ (op_assign rfl) rfl ?_
  refine WL.nil ?_
  show W _ _ _ _ _ _
  refine W.seq (W.seq (W.region ?_))
  refine WL.val (Value.int .i64 (1 : Int)) _ (op_assign rfl) rfl ?_
  refine WL.nil ?_
  show W _ _ _ _ _ _
  obtain ⟨res9, hres10, h⟩ := bs h
  refine W.blockLoop (fun fq wq => ∃ s, res9 = Res.fin s ∧ St wd2 wq []) ?_ ?_
  · refine W.whileC (fun (s : Int) fq wq => fq 1 = (Value.pointer (some ⟨b1, 0, none⟩)) ∧ fq 3 = Value.int .i64 s ∧ InR .i64 s ∧ St wd2 wq []) hres10 ⟨rfl, rfl, (inR_i64.2 (show (-9223372036854775808 : Int) ≤ 1 ∧ (1 : Int) ≤ 9223372036854775807 from by decide)), hS8⟩ ?_
    intro x12 ct13 f14 wd15 hb17 hI18 hbrk19 hret20
    replace hI18 : f14 1 = (Value.pointer (some ⟨b1, 0, none⟩)) ∧ f14 3 = Value.int .i64 x12 ∧ InR .i64 x12 ∧ St wd2 wd15 [] := hI18
    replace hb17 : p_impl_Braiding_fault_L1 b_Cocycle_Orders b_Cocycle_Modulus b_Cocycle_Values b_Values  x12 = some ct13 := hb17
    unfold p_impl_Braiding_fault_L1 at hb17
    obtain ⟨hf21, hf22, hr23, hS24⟩ := hI18
    refine W.seq (W.seq (W.region ?_))
    refine WL.val (Value.int .i64 x12) _ (op_move hf22) rfl ?_
    refine WL.val (Value.bool (decide (x12 ≤ (2 : Int)))) _ (op_leq rfl rfl) rfl ?_
    refine WL.nil ?_
    show W _ _ _ _ _ _
    refine W.cond (decide (x12 ≤ (2 : Int))) rfl (fun hc25 => ?_) (fun hc25 => ?_)
    · replace hb17 := ip hb17 hc25
      refine W.skip ?_
      show W _ _ _ _ _ _
      refine W.seq ?_
      refine W.block ?_
      refine W.seq (W.region ?_)
      refine WL.val (Value.pointer (some ⟨b1, 3, none⟩)) _ (op_fieldAddr fd_42_1 hf21) rfl ?_
      refine WL.val v_b_Values _ (op_load one_27 rfl (BoxAt.cell (BoxAt.lift hS24.ext hx6) rfl)) rfl ?_
      have hr27 := inR_len (Ty.lift _ (Ext.trans hE7 hS24.ext) r_b_Values)
      refine WL.val (Value.int .i64 ((b_Values).length : Int)) _ (op_lenL sl_27 (Ty.lift _ (Ext.trans hE7 hS24.ext) r_b_Values) rfl) rfl ?_
      refine WL.val (Value.int .i64 (0 : Int)) _ (op_move rfl) rfl ?_
      refine WL.nil ?_
      show W _ _ _ _ _ _
      obtain ⟨res28, hres29, hb17⟩ := bs hb17
      refine W.blockLoop (fun fq wq => ∃ s, res28 = Res.fin s ∧ fq 1 = (Value.pointer (some ⟨b1, 0, none⟩)) ∧ fq 3 = (Value.int .i64 x12) ∧ St wd2 wq []) ?_ ?_
      · refine W.forN (fun k (s : Unit) fq wq => fq 1 = (Value.pointer (some ⟨b1, 0, none⟩)) ∧ fq 3 = (Value.int .i64 x12) ∧ fq 13 = (Value.int .i64 ((b_Values).length : Int)) ∧ fq 14 = Value.int .i64 (k : Int) ∧ InR .i64 (k : Int) ∧ St wd2 wq []) hres29 ⟨hf21, hf22, rfl, rfl, (inR_i64.2 (show (-9223372036854775808 : Int) ≤ 0 ∧ (0 : Int) ≤ 9223372036854775807 from by decide)), hS24⟩ ?_ ?_
        · intro k30 s166 ct31 f32 wd33 hk34 hb35 hI36 hbrk37 hret38
          obtain ⟨⟩ := s166
          replace hI36 : f32 1 = (Value.pointer (some ⟨b1, 0, none⟩)) ∧ f32 3 = (Value.int .i64 x12) ∧ f32 13 = (Value.int .i64 ((b_Values).length : Int)) ∧ f32 14 = Value.int .i64 (k30 : Int) ∧ InR .i64 (k30 : Int) ∧ St wd2 wd33 [] := hI36
          replace hb35 : p_impl_Braiding_fault_L2 b_Cocycle_Orders b_Cocycle_Modulus b_Cocycle_Values b_Values x12 k30  = some ct31 := hb35
          unfold p_impl_Braiding_fault_L2 at hb35
          obtain ⟨hf39, hf40, hf41, hf42, hr43, hS44⟩ := hI36
          refine W.seq (W.region ?_)
          refine WL.val (Value.bool (decide ((k30 : Int) < ((b_Values).length : Int)))) _ (op_lss hf42 hf41) rfl ?_
          have hl45 : (k30 : Int) < ((b_Values).length : Int) := by omega
          refine WL.nil ?_
          show W _ _ _ _ _ _
          refine W.seq ?_
          refine W.condT (decide ((k30 : Int) < ((b_Values).length : Int))) rfl (decide_eq_true hl45) ?_
          refine W.skip ?_
          show W _ _ _ _ _ _
          refine W.seq ?_
          refine W.block ?_
          refine W.seq (W.region ?_)
          refine WL.val (Value.int .i64 (k30 : Int)) _ (op_move hf42) rfl ?_
          refine WL.val (Value.int .i64 (k30 : Int)) _ (op_assign rfl) rfl ?_
          refine WL.nil ?_
          show W _ _ _ _ _ _
          refine W.seq (W.region ?_)
          refine WL.val (Value.pointer (some ⟨b1, 3, none⟩)) _ (op_fieldAddr fd_42_1 hf39) rfl ?_
          refine WL.val v_b_Values _ (op_load one_27 rfl (BoxAt.cell (BoxAt.lift hS44.ext hx6) rfl)) rfl ?_
          have hr47 := inR_len (Ty.lift _ (Ext.trans hE7 hS44.ext) r_b_Values)
          refine WL.val (Value.int .i64 ((b_Values).length : Int)) _ (op_lenL sl_27 (Ty.lift _ (Ext.trans hE7 hS44.ext) r_b_Values) rfl) rfl ?_
          refine WL.val (Value.int .i64 (0 : Int)) _ (op_move rfl) rfl ?_
          refine WL.nil ?_
          show W _ _ _ _ _ _
          obtain ⟨res48, hres49, hb35⟩ := bs hb35
          refine W.blockLoop (fun fq wq => ∃ s, res48 = Res.fin s ∧ fq 1 = (Value.pointer (some ⟨b1, 0, none⟩)) ∧ fq 3 = (Value.int .i64 x12) ∧ fq 13 = (Value.int .i64 ((b_Values).length : Int)) ∧ fq 14 = (Value.int .i64 (k30 : Int)) ∧ St wd2 wq []) ?_ ?_
          · refine W.forN (fun k (s : Unit) fq wq => fq 1 = (Value.pointer (some ⟨b1, 0, none⟩)) ∧ fq 3 = (Value.int .i64 x12) ∧ fq 4 = (Value.int .i64 (k30 : Int)) ∧ fq 13 = (Value.int .i64 ((b_Values).length : Int)) ∧ fq 14 = (Value.int .i64 (k30 : Int)) ∧ fq 19 = (Value.int .i64 ((b_Values).length : Int)) ∧ fq 20 = Value.int .i64 (k : Int) ∧ InR .i64 (k : Int) ∧ St wd2 wq []) hres49 ⟨hf39, hf40, rfl, hf41, hf42, rfl, rfl, (inR_i64.2 (show (-9223372036854775808 : Int) ≤ 0 ∧ (0 : Int) ≤ 9223372036854775807 from by decide)), hS44⟩ ?_ ?_
            · intro k50 s140 ct51 f52 wd53 hk54 hb55 hI56 hbrk57 hret58
              obtain ⟨⟩ := s140
              replace hI56 : f52 1 = (Value.pointer (some ⟨b1, 0, none⟩)) ∧ f52 3 = (Value.int .i64 x12) ∧ f52 4 = (Value.int .i64 (k30 : Int)) ∧ f52 13 = (Value.int .i64 ((b_Values).length : Int)) ∧ f52 14 = (Value.int .i64 (k30 : Int)) ∧ f52 19 = (Value.int .i64 ((b_Values).length : Int)) ∧ f52 20 = Value.int .i64 (k50 : Int) ∧ InR .i64 (k50 : Int) ∧ St wd2 wd53 [] := hI56
              replace hb55 : p_impl_Braiding_fault_L3 b_Cocycle_Orders b_Cocycle_Modulus b_Cocycle_Values b_Values x12 k30 k50  = some ct51 := hb55
              unfold p_impl_Braiding_fault_L3 at hb55
              obtain ⟨hf59, hf60, hf61, hf62, hf63, hf64, hf65, hr66, hS67⟩ := hI56
              refine W.seq (W.region ?_)
              refine WL.val (Value.bool (decide ((k50 : Int) < ((b_Values).length : Int)))) _ (op_lss hf65 hf64) rfl ?_
              have hl68 : (k50 : Int) < ((b_Values).length : Int) := by omega
              refine WL.nil ?_
              show W _ _ _ _ _ _
              refine W.seq ?_
              refine W.condT (decide ((k50 : Int) < ((b_Values).length : Int))) rfl (decide_eq_true hl68) ?_
              refine W.skip ?_
              show W _ _ _ _ _ _
              refine W.seq ?_
              refine W.block ?_
              refine W.seq (W.region ?_)
              refine WL.val (Value.int .i64 (k50 : Int)) _ (op_move hf65) rfl ?_
              refine WL.val (Value.int .i64 (k50 : Int)) _ (op_assign rfl) rfl ?_
              refine WL.nil ?_
              show W _ _ _ _ _ _
              refine W.seq (W.region ?_)
              refine WL.val (Value.pointer (some ⟨b1, 3, none⟩)) _ (op_fieldAddr fd_42_1 hf59) rfl ?_
              refine WL.val v_b_Values _ (op_load one_27 rfl (BoxAt.cell (BoxAt.lift hS67.ext hx6) rfl)) rfl ?_
              have hr70 := inR_len (Ty.lift _ (Ext.trans hE7 hS67.ext) r_b_Values)
              refine WL.val (Value.int .i64 ((b_Values).length : Int)) _ (op_lenL sl_27 (Ty.lift _ (Ext.trans hE7 hS67.ext) r_b_Values) rfl) rfl ?_
              refine WL.val (Value.int .i64 (0 : Int)) _ (op_move rfl) rfl ?_
              refine WL.nil ?_
              show W _ _ _ _ _ _
              obtain ⟨res71, hres72, hb55⟩ := bs hb55
              refine W.blockLoop (fun fq wq => ∃ s, res71 = Res.fin s ∧ fq 1 = (Value.pointer (some ⟨b1, 0, none⟩)) ∧ fq 3 = (Value.int .i64 x12) ∧ fq 4 = (Value.int .i64 (k30 : Int)) ∧ fq 13 = (Value.int .i64 ((b_Values).length : Int)) ∧ fq 14 = (Value.int .i64 (k30 : Int)) ∧ fq 19 = (Value.int .i64 ((b_Values).length : Int)) ∧ fq 20 = (Value.int .i64 (k50 : Int)) ∧ St wd2 wq []) ?_ ?_
              · refine W.forN (fun k (s : Unit) fq wq => fq 1 = (Value.pointer (some ⟨b1, 0, none⟩)) ∧ fq 3 = (Value.int .i64 x12) ∧ fq 4 = (Value.int .i64 (k30 : Int)) ∧ fq 5 = (Value.int .i64 (k50 : Int)) ∧ fq 13 = (Value.int .i64 ((b_Values).length : Int)) ∧ fq 14 = (Value.int .i64 (k30 : Int)) ∧ fq 19 = (Value.int .i64 ((b_Values).length : Int)) ∧ fq 20 = (Value.int .i64 (k50 : Int)) ∧ fq 25 = (Value.int .i64 ((b_Values).length : Int)) ∧ fq 26 = Value.int .i64 (k : Int) ∧ InR .i64 (k : Int) ∧ St wd2 wq []) hres72 ⟨hf59, hf60, hf61, rfl, hf62, hf63, hf64, hf65, rfl, rfl, (inR_i64.2 (show (-9223372036854775808 : Int) ≤ 0 ∧ (0 : Int) ≤ 9223372036854775807 from by decide)), hS67⟩ ?_ ?_
                · intro k73 s108 ct74 f75 wd76 hk77 hb78 hI79 hbrk80 hret81
                  obtain ⟨⟩ := s108
                  replace hI79 : f75 1 = (Value.pointer (some ⟨b1, 0, none⟩)) ∧ f75 3 = (Value.int .i64 x12) ∧ f75 4 = (Value.int .i64 (k30 : Int)) ∧ f75 5 = (Value.int .i64 (k50 : Int)) ∧ f75 13 = (Value.int .i64 ((b_Values).length : Int)) ∧ f75 14 = (Value.int .i64 (k30 : Int)) ∧ f75 19 = (Value.int .i64 ((b_Values).length : Int)) ∧ f75 20 = (Value.int .i64 (k50 : Int)) ∧ f75 25 = (Value.int .i64 ((b_Values).length : Int)) ∧ f75 26 = Value.int .i64 (k73 : Int) ∧ InR .i64 (k73 : Int) ∧ St wd2 wd76 [] := hI79
                  replace hb78 : p_impl_Braiding_fault_L4 b_Cocycle_Orders b_Cocycle_Modulus b_Cocycle_Values b_Values x12 k30 k50 k73  = some ct74 := hb78
                  unfold p_impl_Braiding_fault_L4 at hb78
                  obtain ⟨hf82, hf83, hf84, hf85, hf86, hf87, hf88, hf89, hf90, hf91, hr92, hS93⟩ := hI79
                  refine W.seq (W.region ?_)
                  refine WL.val (Value.bool (decide ((k73 : Int) < ((b_Values).length : Int)))) _ (op_lss hf91 hf90) rfl ?_
                  have hl94 : (k73 : Int) < ((b_Values).length : Int) := by omega
                  refine WL.nil ?_
                  show W _ _ _ _ _ _
                  refine W.seq ?_
                  refine W.condT (decide ((k73 : Int) < ((b_Values).length : Int))) rfl (decide_eq_true hl94) ?_
                  refine W.skip ?_
                  show W _ _ _ _ _ _
                  refine W.seq ?_
                  refine W.block ?_
                  refine W.seq (W.region ?_)
                  refine WL.val (Value.int .i64 (k73 : Int)) _ (op_move hf91) rfl ?_
                  refine WL.val (Value.int .i64 (k73 : Int)) _ (op_assign rfl) rfl ?_
                  refine WL.nil ?_
                  show W _ _ _ _ _ _
                  refine W.seq (W.region ?_)
                  refine WL.val (Value.agg #[v_b_Cocycle_Orders, (Value.int .i64 b_Cocycle_Modulus), v_b_Cocycle_Values, v_b_Values]) _ (op_loadBox st_42 hf82 (BoxAt.lift hS93.ext hx6) rfl rfl) rfl ?_
                  refine WL.val (Value.int .i64 x12) _ (op_move hf83) rfl ?_
                  refine WL.val (Value.int .i64 (k30 : Int)) _ (op_move hf84) rfl ?_
                  refine WL.val (Value.int .i64 (k50 : Int)) _ (op_move hf85) rfl ?_
                  refine WL.val (Value.int .i64 (k73 : Int)) _ (op_move rfl) rfl ?_
                  obtain ⟨x96, hx97, hb78⟩ := bs hb78
                  refine WL.call _ (op_call fn_72 (args5 rfl rfl rfl rfl rfl)) (c_impl_Braiding_holds (Ty.lift _ (Ext.trans hE7 hS93.ext) r_b_Cocycle_Orders) r_b_Cocycle_Modulus (Ty.lift _ (Ext.trans hE7 hS93.ext) r_b_Cocycle_Values) (Ty.lift _ (Ext.trans hE7 hS93.ext) r_b_Values) hr23 hr43 hr66 hr92 hx97) rfl ?_
                  rintro _ wd98 ⟨rfl, he99⟩
                  have hS101 := St.extend hS93 he99
                  replace hS101 : St wd2 wd98 [] := hS101
                  refine WL.val (Value.bool (!x96)) _ (op_not rfl) rfl ?_
                  refine WL.nil ?_
                  show W _ _ _ _ _ _
                  refine W.cond (!x96) rfl (fun hc102 => ?_) (fun hc102 => ?_)
                  · replace hb78 := ip hb78 hc102
                    refine W.seq (W.region ?_)
                    refine WL.val (Value.int .i64 x12) _ (op_move hf83) rfl ?_
                    refine WL.val (Value.int .i64 (k30 : Int)) _ (op_move hf84) rfl ?_
                    refine WL.val (Value.int .i64 (k50 : Int)) _ (op_move hf85) rfl ?_
                    refine WL.val (Value.int .i64 (k73 : Int)) _ (op_move rfl) rfl ?_
                    refine WL.litFlat (t := (Ty.i .i64)) (flat_i .i64) [(Value.int .i64 x12), (Value.int .i64 (k30 : Int)), (Value.int .i64 (k50 : Int)), (Value.int .i64 (k73 : Int))] [x12, (k30 : Int), (k50 : Int), (k73 : Int)] hS101 sl_22 rfl rfl (fillL rfl ⟨rfl, rfl, rfl, rfl, rfl, rfl, rfl, rfl, rfl, rfl, rfl, rfl, trivial⟩) rfl rfl (litL ⟨⟨rfl, hr23⟩, ⟨rfl, hr43⟩, ⟨rfl, hr66⟩, ⟨rfl, hr92⟩, trivial⟩) rfl ?_
                    intro u104 wd105 hS106 he107
                    replace hS106 : St wd2 wd105 [(Ty.sl (Ty.i .i64)).at u104 ([x12, (k30 : Int), (k50 : Int), (k73 : Int)] : (List Int))] := hS106
                    refine WL.val u104 _ (op_assign rfl) rfl ?_
                    refine WL.nil ?_
                    show W _ _ _ _ _ _
                    refine W.ret ?_
                    obtain rfl := Option.some.inj hb78
                    obtain rfl := hret81 _ rfl
                    replace hb55 := onRes_ret hb55
                    obtain rfl := Option.some.inj hb55
                    obtain rfl := hret58 _ rfl
                    replace hb35 := onRes_ret hb35
                    obtain rfl := Option.some.inj hb35
                    obtain rfl := hret38 _ rfl
                    replace hb17 := onRes_ret hb17
                    obtain rfl := Option.some.inj hb17
                    obtain rfl := hret20 _ rfl
                    replace h := onRes_ret h
                    obtain rfl := Option.some.inj h
                    show FinP _ _ _ _ _ _ _
                    exact FinP.ret _ (res1 rfl rfl) ⟨u104, rfl, (nil_cons), (Ext.trans hE7 hS106.ext), (St.out (St.pick hS106 [0] rfl) (hE7))⟩
                  · replace hb78 := inegb hb78 hc102
                    refine W.skip ?_
                    show W _ _ _ _ _ _
                    refine W.region ?_
                    refine WL.val (Value.int .i64 (w64 ((k73 : Int) + (1 : Int)))) _ (op_add hf91 rfl) rfl ?_
                    refine WL.val (Value.int .i64 (w64 ((k73 : Int) + (1 : Int)))) _ (op_move rfl) rfl ?_
                    refine WL.nil ?_
                    obtain rfl := Option.some.inj hb78
                    show ∃ s, _ = Ctl.next s ∧ _
                    exact ⟨_, rfl, hf82, hf83, hf84, hf85, hf86, hf87, hf88, hf89, hf90, (ctr_next hl94 hr70), (ctr_rng hl94 hr70), hS101⟩
                · intro s113 f109 wd110 hs111 hI112
                  obtain ⟨⟩ := s113
                  replace hI112 : f109 1 = (Value.pointer (some ⟨b1, 0, none⟩)) ∧ f109 3 = (Value.int .i64 x12) ∧ f109 4 = (Value.int .i64 (k30 : Int)) ∧ f109 5 = (Value.int .i64 (k50 : Int)) ∧ f109 13 = (Value.int .i64 ((b_Values).length : Int)) ∧ f109 14 = (Value.int .i64 (k30 : Int)) ∧ f109 19 = (Value.int .i64 ((b_Values).length : Int)) ∧ f109 20 = (Value.int .i64 (k50 : Int)) ∧ f109 25 = (Value.int .i64 ((b_Values).length : Int)) ∧ f109 26 = Value.int .i64 (((b_Values).length : Nat) : Int) ∧ InR .i64 (((b_Values).length : Nat) : Int) ∧ St wd2 wd110 [] := hI112
                  obtain ⟨hf114, hf115, hf116, hf117, hf118, hf119, hf120, hf121, hf122, hf123, hr124, hS125⟩ := hI112
                  refine W.seq (W.region ?_)
                  refine WL.val (Value.bool (decide ((((b_Values).length : Nat) : Int) < ((b_Values).length : Int)))) _ (op_lss hf123 hf122) rfl ?_
                  have hl126 : ¬ (((b_Values).length : Nat) : Int) < ((b_Values).length : Int) := by omega
                  refine WL.nil ?_
                  show W _ _ _ _ _ _
                  refine W.seq ?_
                  refine W.condF (decide ((((b_Values).length : Nat) : Int) < ((b_Values).length : Int))) rfl (decide_eq_false hl126) ?_
                  refine W.exit ?_
                  show _ = _ ∧ _
                  exact ⟨rfl, _, hs111, hf114, hf115, hf116, hf118, hf119, hf120, hf121, hS125⟩
              · rintro f127 wd128 ⟨s130, rfl, hq129⟩
                replace hb55 := onRes_fin hb55
                obtain ⟨⟩ := s130
                replace hq129 : f127 1 = (Value.pointer (some ⟨b1, 0, none⟩)) ∧ f127 3 = (Value.int .i64 x12) ∧ f127 4 = (Value.int .i64 (k30 : Int)) ∧ f127 13 = (Value.int .i64 ((b_Values).length : Int)) ∧ f127 14 = (Value.int .i64 (k30 : Int)) ∧ f127 19 = (Value.int .i64 ((b_Values).length : Int)) ∧ f127 20 = (Value.int .i64 (k50 : Int)) ∧ St wd2 wd128 [] := hq129
                obtain ⟨hf131, hf132, hf133, hf134, hf135, hf136, hf137, hS138⟩ := hq129
                show W _ _ _ _ _ _
                refine W.region ?_
                refine WL.val (Value.int .i64 (w64 ((k50 : Int) + (1 : Int)))) _ (op_add hf137 rfl) rfl ?_
                refine WL.val (Value.int .i64 (w64 ((k50 : Int) + (1 : Int)))) _ (op_move rfl) rfl ?_
                refine WL.nil ?_
                obtain rfl := Option.some.inj hb55
                show ∃ s, _ = Ctl.next s ∧ _
                exact ⟨_, rfl, hf131, hf132, hf133, hf134, hf135, hf136, (ctr_next hl68 hr47), (ctr_rng hl68 hr47), hS138⟩
            · intro s145 f141 wd142 hs143 hI144
              obtain ⟨⟩ := s145
              replace hI144 : f141 1 = (Value.pointer (some ⟨b1, 0, none⟩)) ∧ f141 3 = (Value.int .i64 x12) ∧ f141 4 = (Value.int .i64 (k30 : Int)) ∧ f141 13 = (Value.int .i64 ((b_Values).length : Int)) ∧ f141 14 = (Value.int .i64 (k30 : Int)) ∧ f141 19 = (Value.int .i64 ((b_Values).length : Int)) ∧ f141 20 = Value.int .i64 (((b_Values).length : Nat) : Int) ∧ InR .i64 (((b_Values).length : Nat) : Int) ∧ St wd2 wd142 [] := hI144
              obtain ⟨hf146, hf147, hf148, hf149, hf150, hf151, hf152, hr153, hS154⟩ := hI144
              refine W.seq (W.region ?_)
              refine WL.val (Value.bool (decide ((((b_Values).length : Nat) : Int) < ((b_Values).length : Int)))) _ (op_lss hf152 hf151) rfl ?_
              have hl155 : ¬ (((b_Values).length : Nat) : Int) < ((b_Values).length : Int) := by omega
              refine WL.nil ?_
              show W _ _ _ _ _ _
              refine W.seq ?_
              refine W.condF (decide ((((b_Values).length : Nat) : Int) < ((b_Values).length : Int))) rfl (decide_eq_false hl155) ?_
              refine W.exit ?_
              show _ = _ ∧ _
              exact ⟨rfl, _, hs143, hf146, hf147, hf149, hf150, hS154⟩
          · rintro f156 wd157 ⟨s159, rfl, hq158⟩
            replace hb35 := onRes_fin hb35
            obtain ⟨⟩ := s159
            replace hq158 : f156 1 = (Value.pointer (some ⟨b1, 0, none⟩)) ∧ f156 3 = (Value.int .i64 x12) ∧ f156 13 = (Value.int .i64 ((b_Values).length : Int)) ∧ f156 14 = (Value.int .i64 (k30 : Int)) ∧ St wd2 wd157 [] := hq158
            obtain ⟨hf160, hf161, hf162, hf163, hS164⟩ := hq158
            show W _ _ _ _ _ _
            refine W.region ?_
            refine WL.val (Value.int .i64 (w64 ((k30 : Int) + (1 : Int)))) _ (op_add hf163 rfl) rfl ?_
            refine WL.val (Value.int .i64 (w64 ((k30 : Int) + (1 : Int)))) _ (op_move rfl) rfl ?_
            refine WL.nil ?_
            obtain rfl := Option.some.inj hb35
            show ∃ s, _ = Ctl.next s ∧ _
            exact ⟨_, rfl, hf160, hf161, hf162, (ctr_next hl45 hr27), (ctr_rng hl45 hr27), hS164⟩
        · intro s171 f167 wd168 hs169 hI170
          obtain ⟨⟩ := s171
          replace hI170 : f167 1 = (Value.pointer (some ⟨b1, 0, none⟩)) ∧ f167 3 = (Value.int .i64 x12) ∧ f167 13 = (Value.int .i64 ((b_Values).length : Int)) ∧ f167 14 = Value.int .i64 (((b_Values).length : Nat) : Int) ∧ InR .i64 (((b_Values).length : Nat) : Int) ∧ St wd2 wd168 [] := hI170
          obtain ⟨hf172, hf173, hf174, hf175, hr176, hS177⟩ := hI170
          refine W.seq (W.region ?_)
          refine WL.val (Value.bool (decide ((((b_Values).length : Nat) : Int) < ((b_Values).length : Int)))) _ (op_lss hf175 hf174) rfl ?_
          have hl178 : ¬ (((b_Values).length : Nat) : Int) < ((b_Values).length : Int) := by omega
          refine WL.nil ?_
          show W _ _ _ _ _ _
          refine W.seq ?_
          refine W.condF (decide ((((b_Values).length : Nat) : Int) < ((b_Values).length : Int))) rfl (decide_eq_false hl178) ?_
          refine W.exit ?_
          show _ = _ ∧ _
          exact ⟨rfl, _, hs169, hf172, hf173, hS177⟩
      · rintro f179 wd180 ⟨s182, rfl, hq181⟩
        replace hb17 := onRes_fin hb17
        obtain ⟨⟩ := s182
        replace hq181 : f179 1 = (Value.pointer (some ⟨b1, 0, none⟩)) ∧ f179 3 = (Value.int .i64 x12) ∧ St wd2 wd180 [] := hq181
        obtain ⟨hf183, hf184, hS185⟩ := hq181
        show W _ _ _ _ _ _
        refine W.region ?_
        refine WL.val (Value.int .i64 x12) _ (op_move hf184) rfl ?_
        refine WL.val (Value.int .i64 (w64 (x12 + (1 : Int)))) _ (op_add rfl rfl) rfl ?_
        refine WL.val (Value.int .i64 (w64 (x12 + (1 : Int)))) _ (op_assign rfl) rfl ?_
        refine WL.nil ?_
        obtain rfl := Option.some.inj hb17
        show ∃ s, _ = Ctl.next s ∧ _
        exact ⟨_, rfl, hf183, rfl, (inR_wrap _ _), hS185⟩
    · replace hb17 := inegb hb17 hc25
      refine W.exit ?_
      obtain rfl := Option.some.inj hb17
      show _ = _ ∧ _
      exact ⟨rfl, _, hbrk19 _ rfl, hS24⟩
  · rintro f188 wd189 ⟨x192, rfl, hq190⟩
    replace h := onRes_fin h
    replace hq190 : St wd2 wd189 [] := hq190
    have hS193 := hq190
    show W _ _ _ _ _ _
    refine W.seq (W.region ?_)
    refine WL.val (Value.slice none 0 0) _ (op_assign rfl) rfl ?_
    refine WL.nil ?_
    show W _ _ _ _ _ _
    refine W.ret ?_
    obtain rfl := Option.some.inj h
    show FinP _ _ _ _ _ _ _
    exact FinP.ret _ (res1 rfl rfl) ⟨(Value.slice none 0 0), rfl, (fun _ => ⟨0, 0, rfl⟩), (Ext.trans hE7 hS193.ext), (St.out (St.pick (St.addNil (Ty.i .i64) hS193) [0] rfl) (hE7))⟩

theorem c_impl_IsBraiding {w : World} {b_Cocycle_Orders : (List Int)} {v_b_Cocycle_Orders : Value} {b_Cocycle_Modulus : Int} {b_Cocycle_Values : (List (List (List Int)))} {v_b_Cocycle_Values : Value} {b_Values : (List (List Int))} {v_b_Values : Value} (r_b_Cocycle_Orders : (Ty.sl (Ty.i .i64)).rep w v_b_Cocycle_Orders b_Cocycle_Orders) (r_b_Cocycle_Modulus : InR .i64 b_Cocycle_Modulus) (r_b_Cocycle_Values : (Ty.sl (Ty.sl (Ty.sl (Ty.i .i64)))).rep w v_b_Cocycle_Values b_Cocycle_Values) (r_b_Values : (Ty.sl (Ty.sl (Ty.i .i64))).rep w v_b_Values b_Values) {res : Bool} (h : p_impl_IsBraiding b_Cocycle_Orders b_Cocycle_Modulus b_Cocycle_Values b_Values  = some res) :
    Ret Try.prog 20 #[(Value.agg #[v_b_Cocycle_Orders, (Value.int .i64 b_Cocycle_Modulus), v_b_Cocycle_Values, v_b_Values])] w (fun v w' => v = Value.bool res ∧ Ext w w') := by
  unfold p_impl_IsBraiding at h
  have hS0 : St w w [] := St.start w
  refine Ret.start (fn := Try.f20) Try.func20 rfl 10 rfl rfl ?_
  refine W.seq (W.region ?_)
  refine WL.box hS0 rfl (cs := [v_b_Cocycle_Orders, (Value.int .i64 b_Cocycle_Modulus), v_b_Cocycle_Values, v_b_Values]) rfl rfl ?_
  intro b1 wd2 hS3 he4 hx5
  replace hS3 : St w wd2 [bx b1 [v_b_Cocycle_Orders, (Value.int .i64 b_Cocycle_Modulus), v_b_Cocycle_Values, v_b_Values]] := hS3
  have hx6 := St.boxAt hS3 0 rfl
  have hE7 : Ext w wd2 := hS3.ext
  have hS8 : St wd2 wd2 [] := St.start wd2
  refine WL.val (Value.bool false) _ (op_assign rfl) rfl ?_
  refine WL.nil ?_
  show W _ _ _ _ _ _
  refine W.seq (W.region ?_)
  refine WL.val (Value.agg #[v_b_Cocycle_Orders, (Value.int .i64 b_Cocycle_Modulus), v_b_Cocycle_Values, v_b_Values]) _ (op_loadBox st_42 rfl (BoxAt.lift hS8.ext hx6) rfl rfl) rfl ?_
  obtain ⟨x9, hx10, h⟩ := bs h
  refine WL.call _ (op_call fn_48 (args1 rfl)) (c_impl_hasNumbers (Ty.lift _ (Ext.trans hE7 hS8.ext) r_b_Cocycle_Orders) r_b_Cocycle_Modulus (Ty.lift _ (Ext.trans hE7 hS8.ext) r_b_Cocycle_Values) (Ty.lift _ (Ext.trans hE7 hS8.ext) r_b_Values) hx10) rfl ?_
  rintro _ wd11 ⟨rfl, he12⟩
  have hS14 := St.extend hS8 he12
  replace hS14 : St wd2 wd11 [] := hS14
  refine WL.val (Value.bool x9) _ (op_move rfl) rfl ?_
  obtain ⟨x16, hj17, h⟩ := bs h
  refine WL.cut 4 (fun fq wq => fq 9 = Value.bool x16 ∧ St wd2 wq []) ?_ ?_
  · rcases Bool.eq_false_or_eq_true x9 with hc15 | hc15
    · replace hj17 := ip hj17 hc15
      refine WL.grun rfl (bool_of rfl hc15) ?_
      refine WL.val (Value.agg #[v_b_Cocycle_Orders, (Value.int .i64 b_Cocycle_Modulus), v_b_Cocycle_Values, v_b_Values]) _ (op_loadBox st_42 rfl (BoxAt.lift hS14.ext hx6) rfl rfl) rfl ?_
      refine WL.grun rfl (bool_of rfl hc15) ?_
      obtain ⟨x21, hx22, hj17⟩ := bs hj17
      refine WL.call _ (op_call fn_49 (args1 rfl)) (c_impl_Braiding_fault (Ty.lift _ (Ext.trans hE7 hS14.ext) r_b_Cocycle_Orders) r_b_Cocycle_Modulus (Ty.lift _ (Ext.trans hE7 hS14.ext) r_b_Cocycle_Values) (Ty.lift _ (Ext.trans hE7 hS14.ext) r_b_Values) hx22) rfl ?_
      rintro u23 wd25 ⟨_, rfl, hn24, he26, hs27⟩
      have hS28 := St.join hS14 he26 hs27
      replace hS28 : St wd2 wd25 [(Ty.sl (Ty.i .i64)).at u23 x21] := hS28
      refine WL.grun rfl (bool_of rfl hc15) ?_
      refine WL.val (Value.bool (x21).isEmpty) _ (op_eqlNilL sl_22 (St.rep (t := (Ty.sl (Ty.i .i64))) hS28 0 rfl) hn24 rfl rfl) rfl ?_
      refine WL.val (Value.bool (x21).isEmpty) _ (op_pick_t (evb_of rfl hc15) rfl) rfl ?_
      refine WL.nil ?_
      obtain rfl := Option.some.inj hj17
      exact ⟨rfl, rfl, (St.pick hS28 [] rfl)⟩
    · replace hj17 := inegb hj17 hc15
      refine WL.gskip rfl (bool_of rfl hc15) rfl ?_
      refine WL.gskip rfl (bool_of rfl hc15) rfl ?_
      refine WL.gskip rfl (bool_of rfl hc15) rfl ?_
      refine WL.val (Value.bool false) _ (op_pick_f (evb_of rfl hc15) rfl) rfl ?_
      refine WL.nil ?_
      obtain rfl := Option.some.inj hj17
      exact ⟨rfl, rfl, hS14⟩
  · intro f18 wd19 hq20
    obtain ⟨hf29, hS30⟩ := hq20
    refine WL.val (Value.bool x16) _ (op_assign hf29) rfl ?_
    refine WL.nil ?_
    show W _ _ _ _ _ _
    refine W.ret ?_
    obtain rfl := Option.some.inj h
    show FinP _ _ _ _ _ _ _
    exact FinP.ret _ (res1 rfl rfl) ⟨rfl, (Ext.trans hE7 hS30.ext)⟩

theorem c_laws_eqBraiding {w : World} {a_Cocycle_Orders : (List Int)} {v_a_Cocycle_Orders : Value} {a_Cocycle_Modulus : Int} {a_Cocycle_Values : (List (List (List Int)))} {v_a_Cocycle_Values : Value} {a_Values : (List (List Int))} {v_a_Values : Value} {b_Cocycle_Orders : (List Int)} {v_b_Cocycle_Orders : Value} {b_Cocycle_Modulus : Int} {b_Cocycle_Values : (List (List (List Int)))} {v_b_Cocycle_Values : Value} {b_Values : (List (List Int))} {v_b_Values : Value} (r_a_Cocycle_Orders : (Ty.sl (Ty.i .i64)).rep w v_a_Cocycle_Orders a_Cocycle_Orders) (r_a_Cocycle_Modulus : InR .i64 a_Cocycle_Modulus) (r_a_Cocycle_Values : (Ty.sl (Ty.sl (Ty.sl (Ty.i .i64)))).rep w v_a_Cocycle_Values a_Cocycle_Values) (r_a_Values : (Ty.sl (Ty.sl (Ty.i .i64))).rep w v_a_Values a_Values) (r_b_Cocycle_Orders : (Ty.sl (Ty.i .i64)).rep w v_b_Cocycle_Orders b_Cocycle_Orders) (r_b_Cocycle_Modulus : InR .i64 b_Cocycle_Modulus) (r_b_Cocycle_Values : (Ty.sl (Ty.sl (Ty.sl (Ty.i .i64)))).rep w v_b_Cocycle_Values b_Cocycle_Values) (r_b_Values : (Ty.sl (Ty.sl (Ty.i .i64))).rep w v_b_Values b_Values) {res : Bool} (h : p_laws_eqBraiding a_Cocycle_Orders a_Cocycle_Modulus a_Cocycle_Values a_Values b_Cocycle_Orders b_Cocycle_Modulus b_Cocycle_Values b_Values  = some res) :
    Ret Try.prog 21 #[(Value.agg #[v_a_Cocycle_Orders, (Value.int .i64 a_Cocycle_Modulus), v_a_Cocycle_Values, v_a_Values]), (Value.agg #[v_b_Cocycle_Orders, (Value.int .i64 b_Cocycle_Modulus), v_b_Cocycle_Values, v_b_Values])] w (fun v w' => v = Value.bool res ∧ Ext w w') := by
  unfold p_laws_eqBraiding at h
  have hS0 : St w w [] := St.start w
  refine Ret.start (fn := Try.f21) Try.func21 rfl 17 rfl rfl ?_
  refine W.seq (W.region ?_)
  refine WL.box hS0 rfl (cs := [v_a_Cocycle_Orders, (Value.int .i64 a_Cocycle_Modulus), v_a_Cocycle_Values, v_a_Values]) rfl rfl ?_
  intro b1 wd2 hS3 he4 hx5
  replace hS3 : St w wd2 [bx b1 [v_a_Cocycle_Orders, (Value.int .i64 a_Cocycle_Modulus), v_a_Cocycle_Values, v_a_Values]] := hS3
  have hx6 := St.boxAt hS3 0 rfl
  have hE7 : Ext w wd2 := hS3.ext
  have hS8 : St wd2 wd2 [] := St.start wd2
  refine WL.box hS8 rfl (cs := [v_b_Cocycle_Orders, (Value.int .i64 b_Cocycle_Modulus), v_b_Cocycle_Values, v_b_Values]) rfl rfl ?_
  intro b9 wd10 hS11 he12 hx13
  replace hS11 : St wd2 wd10 [bx b9 [v_b_Cocycle_Orders, (Value.int .i64 b_Cocycle_Modulus), v_b_Cocycle_Values, v_b_Values]] := hS11
  have hx14 := St.boxAt hS11 0 rfl
  have hE15 : Ext w wd10 := (Ext.trans hE7 hS11.ext)
  have hE16 : Ext wd2 wd10 := hS11.ext
  have hS17 : St wd10 wd10 [] := St.start wd10
  refine WL.val (Value.bool false) _ (op_assign rfl) rfl ?_
  refine WL.nil ?_
  show W _ _ _ _ _ _
  refine W.seq (W.seq (W.region ?_))
  refine WL.val (Value.pointer (some ⟨b1, 0, none⟩)) _ (op_fieldAddr fd_42_0 rfl) rfl ?_
  refine WL.val (Value.agg #[v_a_Cocycle_Orders, (Value.int .i64 a_Cocycle_Modulus), v_a_Cocycle_Values]) _ (op_loadBox st_30 rfl (BoxAt.lift (Ext.trans hE16 hS17.ext) hx6) rfl rfl) rfl ?_
  refine WL.val (Value.pointer (some ⟨b9, 0, none⟩)) _ (op_fieldAddr fd_42_0 rfl) rfl ?_
  refine WL.val (Value.agg #[v_b_Cocycle_Orders, (Value.int .i64 b_Cocycle_Modulus), v_b_Cocycle_Values]) _ (op_loadBox st_30 rfl (BoxAt.lift hS17.ext hx14) rfl rfl) rfl ?_
  obtain ⟨x18, hx19, h⟩ := bs h
  refine WL.call _ (op_call fn_13 (args2 rfl rfl)) (c_laws_eqCocycle (Ty.lift _ (Ext.trans hE15 hS17.ext) r_a_Cocycle_Orders) r_a_Cocycle_Modulus (Ty.lift _ (Ext.trans hE15 hS17.ext) r_a_Cocycle_Values) (Ty.lift _ (Ext.trans hE15 hS17.ext) r_b_Cocycle_Orders) r_b_Cocycle_Modulus (Ty.lift _ (Ext.trans hE15 hS17.ext) r_b_Cocycle_Values) hx19) rfl ?_
  rintro _ wd20 ⟨rfl, he21⟩
  have hS23 := St.extend hS17 he21
  replace hS23 : St wd10 wd20 [] := hS23
  refine WL.val (Value.bool (!x18)) _ (op_not rfl) rfl ?_
  refine WL.nil ?_
  show W _ _ _ _ _ _
  refine W.cond (!x18) rfl (fun hc24 => ?_) (fun hc24 => ?_)
  · replace h := ip h hc24
    refine W.seq (W.region ?_)
    refine WL.val (Value.bool false) _ (op_assign rfl) rfl ?_
    refine WL.nil ?_
    show W _ _ _ _ _ _
    refine W.ret ?_
    obtain rfl := Option.some.inj h
    show FinP _ _ _ _ _ _ _
    exact FinP.ret _ (res1 rfl rfl) ⟨rfl, (Ext.trans hE15 hS23.ext)⟩
  · replace h := inegb h hc24
    refine W.skip ?_
    show W _ _ _ _ _ _
    refine W.seq (W.seq (W.region ?_))
    refine WL.val (Value.pointer (some ⟨b1, 3, none⟩)) _ (op_fieldAddr fd_42_1 rfl) rfl ?_
    refine WL.val v_a_Values _ (op_load one_27 rfl (BoxAt.cell (BoxAt.lift (Ext.trans hE16 hS23.ext) hx6) rfl)) rfl ?_
    refine WL.val (Value.pointer (some ⟨b9, 3, none⟩)) _ (op_fieldAddr fd_42_1 rfl) rfl ?_
    refine WL.val v_b_Values _ (op_load one_27 rfl (BoxAt.cell (BoxAt.lift hS23.ext hx14) rfl)) rfl ?_
    obtain ⟨x26, hx27, h⟩ := bs h
    refine WL.call _ (op_call fn_12 (args2 rfl rfl)) (c_laws_eqInt64SS (Ty.lift _ (Ext.trans hE15 hS23.ext) r_a_Values) (Ty.lift _ (Ext.trans hE15 hS23.ext) r_b_Values) hx27) rfl ?_
    rintro _ wd28 ⟨rfl, he29⟩
    have hS31 := St.extend hS23 he29
    replace hS31 : St wd10 wd28 [] := hS31
    refine WL.val (Value.bool (!x26)) _ (op_not rfl) rfl ?_
    refine WL.nil ?_
    show W _ _ _ _ _ _
    refine W.cond (!x26) rfl (fun hc32 => ?_) (fun hc32 => ?_)
    · replace h := ip h hc32
      refine W.seq (W.region ?_)
      refine WL.val (Value.bool false) _ (op_assign rfl) rfl ?_
      refine WL.nil ?_
      show W _ _ _ _ _ _
      refine W.ret ?_
      obtain rfl := Option.some.inj h
      show FinP _ _ _ _ _ _ _
      exact FinP.ret _ (res1 rfl rfl) ⟨rfl, (Ext.trans hE15 hS31.ext)⟩
    · replace h := inegb h hc32
      refine W.skip ?_
      show W _ _ _ _ _ _
      refine W.seq (W.region ?_)
      refine WL.val (Value.bool true) _ (op_assign rfl) rfl ?_
      refine WL.nil ?_
      show W _ _ _ _ _ _
      refine W.ret ?_
      obtain rfl := Option.some.inj h
      show FinP _ _ _ _ _ _ _
      exact FinP.ret _ (res1 rfl rfl) ⟨rfl, (Ext.trans hE15 hS31.ext)⟩

theorem c_spec_l18Monodromy {w : World} {b_Cocycle_Orders : (List Int)} {v_b_Cocycle_Orders : Value} {b_Cocycle_Modulus : Int} {b_Cocycle_Values : (List (List (List Int)))} {v_b_Cocycle_Values : Value} {b_Values : (List (List Int))} {v_b_Values : Value} {x : Int} {y : Int} (r_b_Cocycle_Orders : (Ty.sl (Ty.i .i64)).rep w v_b_Cocycle_Orders b_Cocycle_Orders) (r_b_Cocycle_Modulus : InR .i64 b_Cocycle_Modulus) (r_b_Cocycle_Values : (Ty.sl (Ty.sl (Ty.sl (Ty.i .i64)))).rep w v_b_Cocycle_Values b_Cocycle_Values) (r_b_Values : (Ty.sl (Ty.sl (Ty.i .i64))).rep w v_b_Values b_Values) (r_x : InR .i64 x) (r_y : InR .i64 y) {res : Int} (h : p_spec_l18Monodromy b_Cocycle_Orders b_Cocycle_Modulus b_Cocycle_Values b_Values x y  = some res) :
    Ret Try.prog 57 #[(Value.agg #[v_b_Cocycle_Orders, (Value.int .i64 b_Cocycle_Modulus), v_b_Cocycle_Values, v_b_Values]), (Value.int .i64 x), (Value.int .i64 y)] w (fun v w' => v = Value.int .i64 res ∧ InR .i64 res ∧ Ext w w') := by
  unfold p_spec_l18Monodromy at h
  have hS0 : St w w [] := St.start w
  refine Ret.start (fn := Try.f57) Try.func57 rfl 28 rfl rfl ?_
  refine W.seq (W.region ?_)
  refine WL.box hS0 rfl (cs := [v_b_Cocycle_Orders, (Value.int .i64 b_Cocycle_Modulus), v_b_Cocycle_Values, v_b_Values]) rfl rfl ?_
  intro b1 wd2 hS3 he4 hx5
  replace hS3 : St w wd2 [bx b1 [v_b_Cocycle_Orders, (Value.int .i64 b_Cocycle_Modulus), v_b_Cocycle_Values, v_b_Values]] := hS3
  have hx6 := St.boxAt hS3 0 rfl
  have hE7 : Ext w wd2 := hS3.ext
  have hS8 : St wd2 wd2 [] := St.start wd2
  refine WL.val (Value.int .i64 (0 : Int)) _ (op_assign rfl) rfl ?_
  refine WL.nil ?_
  show W _ _ _ _ _ _
  refine W.seq ?_
  obtain ⟨x48, hx51, h⟩ := bs h
  obtain ⟨ha49, hb50, hx51⟩ := idx_some hx51
  obtain ⟨u62, hc63, hr64⟩ := repSl.el r_b_Values hx51
  obtain ⟨x87, hx90, h⟩ := bs h
  obtain ⟨ha88, hb89, hx90⟩ := idx_some hx90
  obtain ⟨u101, hc102, hr103⟩ := repSl.el hr64 hx90
  obtain ⟨rfl, hr103⟩ := hr103
  obtain ⟨x143, hx146, h⟩ := bs h
  obtain ⟨ha144, hb145, hx146⟩ := idx_some hx146
  obtain ⟨u157, hc158, hr159⟩ := repSl.el r_b_Values hx146
  obtain ⟨x182, hx185, h⟩ := bs h
  obtain ⟨ha183, hb184, hx185⟩ := idx_some hx185
  obtain ⟨u196, hc197, hr198⟩ := repSl.el hr159 hx185
  obtain ⟨rfl, hr198⟩ := hr198
  refine W.drawR mixo 20 [] [fun _ v _ _ => v = (Value.pointer (some ⟨b1, 3, none⟩)), fun _ v _ _ => v = v_b_Values, fun _ v _ _ => v = (Value.int .i64 x) ∧ InR .i64 x, fun _ v _ _ => v = (Value.pointer (some (elA v_b_Values (x).toNat))), fun _ v _ _ => v = u62, fun _ v _ _ => v = (Value.int .i64 y) ∧ InR .i64 y, fun _ v _ _ => v = (Value.pointer (some (elA u62 (y).toNat))), fun _ v _ _ => v = (Value.int .i64 x87) ∧ InR .i64 x87, fun _ v _ _ => v = (Value.pointer (some ⟨b1, 3, none⟩)), fun _ v _ _ => v = v_b_Values, fun _ v _ _ => v = (Value.int .i64 y) ∧ InR .i64 y, fun _ v _ _ => v = (Value.pointer (some (elA v_b_Values (y).toNat))), fun _ v _ _ => v = u157, fun _ v _ _ => v = (Value.int .i64 x) ∧ InR .i64 x, fun _ v _ _ => v = (Value.pointer (some (elA u157 (x).toNat))), fun _ v _ _ => v = (Value.int .i64 x182) ∧ InR .i64 x182, fun _ v _ _ => v = (Value.int .i64 (w64 (x87 + x182))) ∧ InR .i64 (w64 (x87 + x182)), fun _ v _ _ => v = (Value.pointer (some ⟨b1, 0, none⟩)), fun _ v _ _ => v = (Value.pointer (some ⟨b1, 1, none⟩)), fun _ v _ _ => v = (Value.int .i64 b_Cocycle_Modulus) ∧ InR .i64 b_Cocycle_Modulus] (by kernel_rfl) (by kernel_rfl) ⟨⟨fun _ _ _ _ _ _ h => h, fun _ _ _ _ _ _ h => h⟩, ⟨fun _ _ _ _ _ _ h => h, fun _ _ _ _ _ _ h => h⟩, ⟨fun _ _ _ _ _ _ h => h, fun _ _ _ _ _ _ h => h⟩, ⟨fun _ _ _ _ _ _ h => h, fun _ _ _ _ _ _ h => h⟩, ⟨fun _ _ _ _ _ _ h => h, fun _ _ _ _ _ _ h => h⟩, ⟨fun _ _ _ _ _ _ h => h, fun _ _ _ _ _ _ h => h⟩, ⟨fun _ _ _ _ _ _ h => h, fun _ _ _ _ _ _ h => h⟩, ⟨fun _ _ _ _ _ _ h => h, fun _ _ _ _ _ _ h => h⟩, ⟨fun _ _ _ _ _ _ h => h, fun _ _ _ _ _ _ h => h⟩, ⟨fun _ _ _ _ _ _ h => h, fun _ _ _ _ _ _ h => h⟩, ⟨fun _ _ _ _ _ _ h => h, fun _ _ _ _ _ _ h => h⟩, ⟨fun _ _ _ _ _ _ h => h, fun _ _ _ _ _ _ h => h⟩, ⟨fun _ _ _ _ _ _ h => h, fun _ _ _ _ _ _ h => h⟩, ⟨fun _ _ _ _ _ _ h => h, fun _ _ _ _ _ _ h => h⟩, ⟨fun _ _ _ _ _ _ h => h, fun _ _ _ _ _ _ h => h⟩, ⟨fun _ _ _ _ _ _ h => h, fun _ _ _ _ _ _ h => h⟩, ⟨fun _ _ _ _ _ _ h => h, fun _ _ _ _ _ _ h => h⟩, ⟨fun _ _ _ _ _ _ h => h, fun _ _ _ _ _ _ h => h⟩, ⟨fun _ _ _ _ _ _ h => h, fun _ _ _ _ _ _ h => h⟩, ⟨fun _ _ _ _ _ _ h => h, fun _ _ _ _ _ _ h => h⟩, trivial⟩ ⟨?_, ?_, ?_, ?_, ?_, ?_, ?_, ?_, ?_, ?_, ?_, ?_, ?_, ?_, ?_, ?_, ?_, ?_, ?_, ?_, trivial⟩ ?_
  · refine ObX.op rfl ?_
    intro f9 wd10 he11 hout12 hphi13
    have hS14 : St wd2 wd10 [] := St.extend hS8 he11
    have e15 : f9 3 = (Value.pointer (some ⟨b1, 0, none⟩)) := (hout12 3 rfl).trans rfl
    exact OpX.val (Value.pointer (some ⟨b1, 3, none⟩)) wd10 rfl (op_fieldAddr fd_42_1 e15) (Ext.refl _) rfl
  · refine ObX.op rfl ?_
    intro f16 wd17 he18 hout19 hphi20
    have hS21 : St wd2 wd17 [] := St.extend hS8 he18
    obtain ⟨S22, hS23, hf24⟩ := hphi20 0 7 _ rfl rfl rfl
    have e25 : f16 7 = (Value.pointer (some ⟨b1, 3, none⟩)) := hf24
    exact OpX.val v_b_Values wd17 rfl (op_load one_27 e25 (BoxAt.cell (BoxAt.lift hS21.ext hx6) rfl)) (Ext.refl _) rfl
  · refine ObX.op rfl ?_
    intro f26 wd27 he28 hout29 hphi30
    have hS31 : St wd2 wd27 [] := St.extend hS8 he28
    have e32 : f26 1 = (Value.int .i64 x) := (hout29 1 rfl).trans rfl
    exact OpX.val (Value.int .i64 x) wd27 rfl (op_move e32) (Ext.refl _) ⟨rfl, r_x⟩
  · refine ObX.op rfl ?_
    intro f33 wd34 he35 hout36 hphi37
    have hS38 : St wd2 wd34 [] := St.extend hS8 he35
    obtain ⟨S39, hS40, hf41⟩ := hphi37 1 8 _ rfl rfl rfl
    have e42 : f33 8 = v_b_Values := hf41
    obtain ⟨S43, hS44, hf45⟩ := hphi37 2 9 _ rfl rfl rfl
    obtain ⟨e46, hr47⟩ : f33 9 = (Value.int .i64 x) ∧ InR .i64 x := hf45
    exact OpX.val (Value.pointer (some (elA v_b_Values (x).toNat))) wd34 rfl (op_idx sl_27 (Ty.lift _ (Ext.trans hE7 hS38.ext) r_b_Values) e42 e46 ha49 hb50) (Ext.refl _) rfl
  · refine ObX.op rfl ?_
    intro f52 wd53 he54 hout55 hphi56
    have hS57 : St wd2 wd53 [] := St.extend hS8 he54
    obtain ⟨S58, hS59, hf60⟩ := hphi56 3 10 _ rfl rfl rfl
    have e61 : f52 10 = (Value.pointer (some (elA v_b_Values (x).toNat))) := hf60
    exact OpX.val u62 wd53 rfl (op_load one_22 e61 (Ext.cell (Ext.trans hE7 hS57.ext) hc63)) (Ext.refl _) rfl
  · refine ObX.op rfl ?_
    intro f65 wd66 he67 hout68 hphi69
    have hS70 : St wd2 wd66 [] := St.extend hS8 he67
    have e71 : f65 2 = (Value.int .i64 y) := (hout68 2 rfl).trans rfl
    exact OpX.val (Value.int .i64 y) wd66 rfl (op_move e71) (Ext.refl _) ⟨rfl, r_y⟩
  · refine ObX.op rfl ?_
    intro f72 wd73 he74 hout75 hphi76
    have hS77 : St wd2 wd73 [] := St.extend hS8 he74
    obtain ⟨S78, hS79, hf80⟩ := hphi76 4 11 _ rfl rfl rfl
    have e81 : f72 11 = u62 := hf80
    obtain ⟨S82, hS83, hf84⟩ := hphi76 5 12 _ rfl rfl rfl
    obtain ⟨e85, hr86⟩ : f72 12 = (Value.int .i64 y) ∧ InR .i64 y := hf84
    exact OpX.val (Value.pointer (some (elA u62 (y).toNat))) wd73 rfl (op_idx sl_22 (Ty.lift _ (Ext.trans hE7 hS77.ext) hr64) e81 e85 ha88 hb89) (Ext.refl _) rfl
  · refine ObX.op rfl ?_
    intro f91 wd92 he93 hout94 hphi95
    have hS96 : St wd2 wd92 [] := St.extend hS8 he93
    obtain ⟨S97, hS98, hf99⟩ := hphi95 6 13 _ rfl rfl rfl
    have e100 : f91 13 = (Value.pointer (some (elA u62 (y).toNat))) := hf99
    exact OpX.val (Value.int .i64 x87) wd92 rfl (op_load one_2 e100 (Ext.cell (Ext.trans hE7 hS96.ext) hc102)) (Ext.refl _) ⟨rfl, hr103⟩
  · refine ObX.op rfl ?_
    intro f104 wd105 he106 hout107 hphi108
    have hS109 : St wd2 wd105 [] := St.extend hS8 he106
    have e110 : f104 3 = (Value.pointer (some ⟨b1, 0, none⟩)) := (hout107 3 rfl).trans rfl
    exact OpX.val (Value.pointer (some ⟨b1, 3, none⟩)) wd105 rfl (op_fieldAddr fd_42_1 e110) (Ext.refl _) rfl
  · refine ObX.op rfl ?_
    intro f111 wd112 he113 hout114 hphi115
    have hS116 : St wd2 wd112 [] := St.extend hS8 he113
    obtain ⟨S117, hS118, hf119⟩ := hphi115 8 15 _ rfl rfl rfl
    have e120 : f111 15 = (Value.pointer (some ⟨b1, 3, none⟩)) := hf119
    exact OpX.val v_b_Values wd112 rfl (op_load one_27 e120 (BoxAt.cell (BoxAt.lift hS116.ext hx6) rfl)) (Ext.refl _) rfl
  · refine ObX.op rfl ?_
    intro f121 wd122 he123 hout124 hphi125
    have hS126 : St wd2 wd122 [] := St.extend hS8 he123
    have e127 : f121 2 = (Value.int .i64 y) := (hout124 2 rfl).trans rfl
    exact OpX.val (Value.int .i64 y) wd122 rfl (op_move e127) (Ext.refl _) ⟨rfl, r_y⟩
  · refine ObX.op rfl ?_
    intro f128 wd129 he130 hout131 hphi132
    have hS133 : St wd2 wd129 [] := St.extend hS8 he130
    obtain ⟨S134, hS135, hf136⟩ := hphi132 9 16 _ rfl rfl rfl
    have e137 : f128 16 = v_b_Values := hf136
    obtain ⟨S138, hS139, hf140⟩ := hphi132 10 17 _ rfl rfl rfl
    obtain ⟨e141, hr142⟩ : f128 17 = (Value.int .i64 y) ∧ InR .i64 y := hf140
    exact OpX.val (Value.pointer (some (elA v_b_Values (y).toNat))) wd129 rfl (op_idx sl_27 (Ty.lift _ (Ext.trans hE7 hS133.ext) r_b_Values) e137 e141 ha144 hb145) (Ext.refl _) rfl
  · refine ObX.op rfl ?_
    intro f147 wd148 he149 hout150 hphi151
    have hS152 : St wd2 wd148 [] := St.extend hS8 he149
    obtain ⟨S153, hS154, hf155⟩ := hphi151 11 18 _ rfl rfl rfl
    have e156 : f147 18 = (Value.pointer (some (elA v_b_Values (y).toNat))) := hf155
    exact OpX.val u157 wd148 rfl (op_load one_22 e156 (Ext.cell (Ext.trans hE7 hS152.ext) hc158)) (Ext.refl _) rfl
  · refine ObX.op rfl ?_
    intro f160 wd161 he162 hout163 hphi164
    have hS165 : St wd2 wd161 [] := St.extend hS8 he162
    have e166 : f160 1 = (Value.int .i64 x) := (hout163 1 rfl).trans rfl
    exact OpX.val (Value.int .i64 x) wd161 rfl (op_move e166) (Ext.refl _) ⟨rfl, r_x⟩
  · refine ObX.op rfl ?_
    intro f167 wd168 he169 hout170 hphi171
    have hS172 : St wd2 wd168 [] := St.extend hS8 he169
    obtain ⟨S173, hS174, hf175⟩ := hphi171 12 19 _ rfl rfl rfl
    have e176 : f167 19 = u157 := hf175
    obtain ⟨S177, hS178, hf179⟩ := hphi171 13 20 _ rfl rfl rfl
    obtain ⟨e180, hr181⟩ : f167 20 = (Value.int .i64 x) ∧ InR .i64 x := hf179
    exact OpX.val (Value.pointer (some (elA u157 (x).toNat))) wd168 rfl (op_idx sl_22 (Ty.lift _ (Ext.trans hE7 hS172.ext) hr159) e176 e180 ha183 hb184) (Ext.refl _) rfl
  · refine ObX.op rfl ?_
    intro f186 wd187 he188 hout189 hphi190
    have hS191 : St wd2 wd187 [] := St.extend hS8 he188
    obtain ⟨S192, hS193, hf194⟩ := hphi190 14 21 _ rfl rfl rfl
    have e195 : f186 21 = (Value.pointer (some (elA u157 (x).toNat))) := hf194
    exact OpX.val (Value.int .i64 x182) wd187 rfl (op_load one_2 e195 (Ext.cell (Ext.trans hE7 hS191.ext) hc197)) (Ext.refl _) ⟨rfl, hr198⟩
  · refine ObX.op rfl ?_
    intro f199 wd200 he201 hout202 hphi203
    have hS204 : St wd2 wd200 [] := St.extend hS8 he201
    obtain ⟨S205, hS206, hf207⟩ := hphi203 7 14 _ rfl rfl rfl
    obtain ⟨e208, hr209⟩ : f199 14 = (Value.int .i64 x87) ∧ InR .i64 x87 := hf207
    obtain ⟨S210, hS211, hf212⟩ := hphi203 15 22 _ rfl rfl rfl
    obtain ⟨e213, hr214⟩ : f199 22 = (Value.int .i64 x182) ∧ InR .i64 x182 := hf212
    exact OpX.val (Value.int .i64 (w64 (x87 + x182))) wd200 rfl (op_add e208 e213) (Ext.refl _) ⟨rfl, (inR_wrap _ _)⟩
  · refine ObX.op rfl ?_
    intro f215 wd216 he217 hout218 hphi219
    have hS220 : St wd2 wd216 [] := St.extend hS8 he217
    have e221 : f215 3 = (Value.pointer (some ⟨b1, 0, none⟩)) := (hout218 3 rfl).trans rfl
    exact OpX.val (Value.pointer (some ⟨b1, 0, none⟩)) wd216 rfl (op_fieldAddr fd_42_0 e221) (Ext.refl _) rfl
  · refine ObX.op rfl ?_
    intro f222 wd223 he224 hout225 hphi226
    have hS227 : St wd2 wd223 [] := St.extend hS8 he224
    obtain ⟨S228, hS229, hf230⟩ := hphi226 17 24 _ rfl rfl rfl
    have e231 : f222 24 = (Value.pointer (some ⟨b1, 0, none⟩)) := hf230
    exact OpX.val (Value.pointer (some ⟨b1, 1, none⟩)) wd223 rfl (op_fieldAddr fd_30_1 e231) (Ext.refl _) rfl
  · refine ObX.op rfl ?_
    intro f232 wd233 he234 hout235 hphi236
    have hS237 : St wd2 wd233 [] := St.extend hS8 he234
    obtain ⟨S238, hS239, hf240⟩ := hphi236 18 25 _ rfl rfl rfl
    have e241 : f232 25 = (Value.pointer (some ⟨b1, 1, none⟩)) := hf240
    exact OpX.val (Value.int .i64 b_Cocycle_Modulus) wd233 rfl (op_load one_2 e241 (BoxAt.cell (BoxAt.lift hS237.ext hx6) rfl)) (Ext.refl _) ⟨rfl, r_b_Cocycle_Modulus⟩
  · intro f242 wd243 Ss244 he245 hout246 hSn247 hSd248 hphi249
    show WL _ _ _ _ _ _ _
    have hS250 : St wd2 wd243 [] := St.extend hS8 he245
    obtain ⟨e251, hr252⟩ : f242 23 = (Value.int .i64 (w64 (x87 + x182))) ∧ InR .i64 (w64 (x87 + x182)) := hphi249 16 23 _ (by decide) rfl rfl
    obtain ⟨e253, hr254⟩ : f242 26 = (Value.int .i64 b_Cocycle_Modulus) ∧ InR .i64 b_Cocycle_Modulus := hphi249 19 26 _ (by decide) rfl rfl
    obtain ⟨x255, hz256, h⟩ := bs h
    obtain ⟨h0257, hz256⟩ := remI_some hz256
    have hr258 : InR .i64 x255 := by rw [hz256]; exact inR_tmod hr252
    refine WL.val (Value.int .i64 x255) _ (by rw [hz256]; exact op_rem e251 e253 h0257) rfl ?_
    refine WL.val (Value.int .i64 x255) _ (op_assign rfl) rfl ?_
    refine WL.nil ?_
    show W _ _ _ _ _ _
    refine W.ret ?_
    obtain rfl := Option.some.inj h
    show FinP _ _ _ _ _ _ _
    exact FinP.ret _ (res1 rfl rfl) ⟨rfl, hr258, (Ext.trans hE7 hS250.ext)⟩

theorem c_spec_MonodromyNumber {w : World} {b_Cocycle_Orders : (List Int)} {v_b_Cocycle_Orders : Value} {b_Cocycle_Modulus : Int} {b_Cocycle_Values : (List (List (List Int)))} {v_b_Cocycle_Values : Value} {b_Values : (List (List Int))} {v_b_Values : Value} {x : Int} {y : Int} (r_b_Cocycle_Orders : (Ty.sl (Ty.i .i64)).rep w v_b_Cocycle_Orders b_Cocycle_Orders) (r_b_Cocycle_Modulus : InR .i64 b_Cocycle_Modulus) (r_b_Cocycle_Values : (Ty.sl (Ty.sl (Ty.sl (Ty.i .i64)))).rep w v_b_Cocycle_Values b_Cocycle_Values) (r_b_Values : (Ty.sl (Ty.sl (Ty.i .i64))).rep w v_b_Values b_Values) (r_x : InR .i64 x) (r_y : InR .i64 y) {res : Int × Int} (h : p_spec_MonodromyNumber b_Cocycle_Orders b_Cocycle_Modulus b_Cocycle_Values b_Values x y  = some res) :
    Ret Try.prog 31 #[(Value.agg #[v_b_Cocycle_Orders, (Value.int .i64 b_Cocycle_Modulus), v_b_Cocycle_Values, v_b_Values]), (Value.int .i64 x), (Value.int .i64 y)] w (fun v w' => v = (Value.tuple #[Value.int .i64 res.1, Value.int .i64 res.2]) ∧ InR .i64 res.1 ∧ InR .i64 res.2 ∧ Ext w w') := by
  unfold p_spec_MonodromyNumber at h
  have hS0 : St w w [] := St.start w
  refine Ret.start (fn := Try.f31) Try.func31 rfl 31 rfl rfl ?_
  refine W.seq (W.region ?_)
  refine WL.box hS0 rfl (cs := [v_b_Cocycle_Orders, (Value.int .i64 b_Cocycle_Modulus), v_b_Cocycle_Values, v_b_Values]) rfl rfl ?_
  intro b1 wd2 hS3 he4 hx5
  replace hS3 : St w wd2 [bx b1 [v_b_Cocycle_Orders, (Value.int .i64 b_Cocycle_Modulus), v_b_Cocycle_Values, v_b_Values]] := hS3
  have hx6 := St.boxAt hS3 0 rfl
  have hE7 : Ext w wd2 := hS3.ext
  have hS8 : St wd2 wd2 [] := St.start wd2
  refine WL.val (Value.int .i64 (0 : Int)) _ (op_assign rfl) rfl ?_
  refine WL.val (Value.int .i64 (0 : Int)) _ (op_assign rfl) rfl ?_
  refine WL.nil ?_
  show W _ _ _ _ _ _
  refine W.seq (W.seq (W.region ?_))
  refine WL.val (Value.agg #[v_b_Cocycle_Orders, (Value.int .i64 b_Cocycle_Modulus), v_b_Cocycle_Values, v_b_Values]) _ (op_loadBox st_42 rfl (BoxAt.lift hS8.ext hx6) rfl rfl) rfl ?_
  obtain ⟨x9, hx10, h⟩ := bs h
  refine WL.call _ (op_call fn_47 (args1 rfl)) (c_spec_l18Is (Ty.lift _ (Ext.trans hE7 hS8.ext) r_b_Cocycle_Orders) r_b_Cocycle_Modulus (Ty.lift _ (Ext.trans hE7 hS8.ext) r_b_Cocycle_Values) (Ty.lift _ (Ext.trans hE7 hS8.ext) r_b_Values) hx10) rfl ?_
  rintro _ wd11 ⟨rfl, he12⟩
  have hS14 := St.extend hS8 he12
  replace hS14 : St wd2 wd11 [] := hS14
  refine WL.val (Value.bool (!x9)) _ (op_not rfl) rfl ?_
  refine WL.nil ?_
  show W _ _ _ _ _ _
  refine W.cond (!x9) rfl (fun hc15 => ?_) (fun hc15 => ?_)
  · replace h := ip h hc15
    refine W.seq (W.region ?_)
    refine WL.val (Value.int .i64 (0 : Int)) _ (op_assign rfl) rfl ?_
    refine WL.val (Value.int .i64 (1 : Int)) _ (op_assign rfl) rfl ?_
    refine WL.nil ?_
    show W _ _ _ _ _ _
    refine W.ret ?_
    obtain rfl := Option.some.inj h
    show FinP _ _ _ _ _ _ _
    exact FinP.ret _ (res2 rfl rfl rfl) ⟨rfl, (inR_i64.2 (show (-9223372036854775808 : Int) ≤ 0 ∧ (0 : Int) ≤ 9223372036854775807 from by decide)), (inR_i64.2 (show (-9223372036854775808 : Int) ≤ 1 ∧ (1 : Int) ≤ 9223372036854775807 from by decide)), (Ext.trans hE7 hS14.ext)⟩
  · replace h := inegb h hc15
    refine W.skip ?_
    show W _ _ _ _ _ _
    refine W.seq (W.region ?_)
    refine WL.val (Value.pointer (some ⟨b1, 3, none⟩)) _ (op_fieldAddr fd_42_1 rfl) rfl ?_
    refine WL.val v_b_Values _ (op_load one_27 rfl (BoxAt.cell (BoxAt.lift hS14.ext hx6) rfl)) rfl ?_
    have hr17 := inR_len (Ty.lift _ (Ext.trans hE7 hS14.ext) r_b_Values)
    refine WL.val (Value.int .i64 ((b_Values).length : Int)) _ (op_lenL sl_27 (Ty.lift _ (Ext.trans hE7 hS14.ext) r_b_Values) rfl) rfl ?_
    refine WL.val (Value.int .i64 ((b_Values).length : Int)) _ (op_assign rfl) rfl ?_
    refine WL.nil ?_
    show W _ _ _ _ _ _
    refine W.seq (W.seq (W.region ?_))
    refine WL.val (Value.int .i64 x) _ (op_move rfl) rfl ?_
    refine WL.val (Value.int .i64 ((b_Values).length : Int)) _ (op_move rfl) rfl ?_
    refine WL.val (Value.int .i64 (w64 (((b_Values).length : Int) - (1 : Int)))) _ (op_sub rfl rfl) rfl ?_
    obtain ⟨x18, hx19, h⟩ := bs h
    refine WL.call _ (op_call fn_56 (args3 rfl rfl rfl)) (c_spec_l01In r_x (inR_i64.2 (show (-9223372036854775808 : Int) ≤ 0 ∧ (0 : Int) ≤ 9223372036854775807 from by decide)) (inR_wrap _ _) hx19) rfl ?_
    rintro _ wd20 ⟨rfl, he21⟩
    have hS23 := St.extend hS14 he21
    replace hS23 : St wd2 wd20 [] := hS23
    refine WL.val (Value.bool (!x18)) _ (op_not rfl) rfl ?_
    refine WL.val (Value.bool (!x18)) _ (op_move rfl) rfl ?_
    obtain ⟨x25, hj26, h⟩ := bs h
    refine WL.cut 6 (fun fq wq => fq 1 = (Value.int .i64 x) ∧ fq 2 = (Value.int .i64 y) ∧ fq 3 = (Value.pointer (some ⟨b1, 0, none⟩)) ∧ fq 26 = Value.bool x25 ∧ St wd2 wq []) ?_ ?_
    · rcases Bool.eq_false_or_eq_true (!x18) with hc24 | hc24
      · replace hj26 := ip hj26 hc24
        refine WL.gskip rfl (bool_of rfl hc24) rfl ?_
        refine WL.gskip rfl (bool_of rfl hc24) rfl ?_
        refine WL.gskip rfl (bool_of rfl hc24) rfl ?_
        refine WL.gskip rfl (bool_of rfl hc24) rfl ?_
        refine WL.gskip rfl (bool_of rfl hc24) rfl ?_
        refine WL.val (Value.bool true) _ (op_pick_t (evb_of rfl hc24) rfl) rfl ?_
        refine WL.nil ?_
        obtain rfl := Option.some.inj hj26
        exact ⟨rfl, rfl, rfl, rfl, rfl, hS23⟩
      · replace hj26 := inegb hj26 hc24
        refine WL.grun rfl (bool_of rfl hc24) ?_
        refine WL.val (Value.int .i64 y) _ (op_move rfl) rfl ?_
        refine WL.grun rfl (bool_of rfl hc24) ?_
        refine WL.val (Value.int .i64 ((b_Values).length : Int)) _ (op_move rfl) rfl ?_
        refine WL.grun rfl (bool_of rfl hc24) ?_
        refine WL.val (Value.int .i64 (w64 (((b_Values).length : Int) - (1 : Int)))) _ (op_sub rfl rfl) rfl ?_
        refine WL.grun rfl (bool_of rfl hc24) ?_
        obtain ⟨x30, hx31, hj26⟩ := bs hj26
        refine WL.call _ (op_call fn_56 (args3 rfl rfl rfl)) (c_spec_l01In r_y (inR_i64.2 (show (-9223372036854775808 : Int) ≤ 0 ∧ (0 : Int) ≤ 9223372036854775807 from by decide)) (inR_wrap _ _) hx31) rfl ?_
        rintro _ wd32 ⟨rfl, he33⟩
        have hS35 := St.extend hS23 he33
        replace hS35 : St wd2 wd32 [] := hS35
        refine WL.grun rfl (bool_of rfl hc24) ?_
        refine WL.val (Value.bool (!x30)) _ (op_not rfl) rfl ?_
        refine WL.val (Value.bool (!x30)) _ (op_pick_f (evb_of rfl hc24) rfl) rfl ?_
        refine WL.nil ?_
        obtain rfl := Option.some.inj hj26
        exact ⟨rfl, rfl, rfl, rfl, rfl, hS35⟩
    · intro f27 wd28 hq29
      obtain ⟨hf36, hf37, hf38, hf39, hS40⟩ := hq29
      refine WL.nil ?_
      show W _ _ _ _ _ _
      refine W.cond x25 hf39 (fun hc41 => ?_) (fun hc41 => ?_)
      · replace h := ip h hc41
        refine W.seq (W.region ?_)
        refine WL.val (Value.int .i64 (0 : Int)) _ (op_assign rfl) rfl ?_
        refine WL.val (Value.int .i64 (2 : Int)) _ (op_assign rfl) rfl ?_
        refine WL.nil ?_
        show W _ _ _ _ _ _
        refine W.ret ?_
        obtain rfl := Option.some.inj h
        show FinP _ _ _ _ _ _ _
        exact FinP.ret _ (res2 rfl rfl rfl) ⟨rfl, (inR_i64.2 (show (-9223372036854775808 : Int) ≤ 0 ∧ (0 : Int) ≤ 9223372036854775807 from by decide)), (inR_i64.2 (show (-9223372036854775808 : Int) ≤ 2 ∧ (2 : Int) ≤ 9223372036854775807 from by decide)), (Ext.trans hE7 hS40.ext)⟩
      · replace h := inegb h hc41
        refine W.skip ?_
        show W _ _ _ _ _ _
        refine W.seq (W.region ?_)
        refine WL.val (Value.agg #[v_b_Cocycle_Orders, (Value.int .i64 b_Cocycle_Modulus), v_b_Cocycle_Values, v_b_Values]) _ (op_loadBox st_42 hf38 (BoxAt.lift hS40.ext hx6) rfl rfl) rfl ?_
        refine WL.val (Value.int .i64 x) _ (op_move hf36) rfl ?_
        refine WL.val (Value.int .i64 y) _ (op_move hf37) rfl ?_
        obtain ⟨x43, hx44, h⟩ := bs h
        refine WL.call _ (op_call fn_57 (args3 rfl rfl rfl)) (c_spec_l18Monodromy (Ty.lift _ (Ext.trans hE7 hS40.ext) r_b_Cocycle_Orders) r_b_Cocycle_Modulus (Ty.lift _ (Ext.trans hE7 hS40.ext) r_b_Cocycle_Values) (Ty.lift _ (Ext.trans hE7 hS40.ext) r_b_Values) r_x r_y hx44) rfl ?_
        rintro _ wd46 ⟨rfl, hr45, he47⟩
        have hS49 := St.extend hS40 he47
        replace hS49 : St wd2 wd46 [] := hS49
        refine WL.val (Value.int .i64 x43) _ (op_assign rfl) rfl ?_
        refine WL.val (Value.int .i64 (0 : Int)) _ (op_assign rfl) rfl ?_
        refine WL.nil ?_
        show W _ _ _ _ _ _
        refine W.ret ?_
        obtain rfl := Option.some.inj h
        show FinP _ _ _ _ _ _ _
        exact FinP.ret _ (res2 rfl rfl rfl) ⟨rfl, hr45, (inR_i64.2 (show (-9223372036854775808 : Int) ≤ 0 ∧ (0 : Int) ≤ 9223372036854775807 from by decide)), (Ext.trans hE7 hS49.ext)⟩

end Go.VG
