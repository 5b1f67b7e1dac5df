/- The walks, part 2: each Go function returns what its plain twin returns. No condition beyond what each names. -/
import Derived.Test.YtdgdpllnmgaonaaGWalk1
set_option linter.all false
namespace Go.VG
open Go.Proofs
attribute [local irreducible] W WL Sep FinP

theorem c_spec_l18Two {w : World} {w_Orders : (List Int)} {v_w_Orders : Value} {w_Modulus : Int} {w_Values : (List (List (List Int)))} {v_w_Values : Value} {c : (List (List Int))} {v_c : Value} {x : Int} {y : Int} {z : Int} (r_w_Orders : (Ty.sl (Ty.i .i64)).rep w v_w_Orders w_Orders) (r_w_Modulus : InR .i64 w_Modulus) (r_w_Values : (Ty.sl (Ty.sl (Ty.sl (Ty.i .i64)))).rep w v_w_Values w_Values) (r_c : (Ty.sl (Ty.sl (Ty.i .i64))).rep w v_c c) (r_x : InR .i64 x) (r_y : InR .i64 y) (r_z : InR .i64 z) {res : Bool} (h : p_spec_l18Two w_Orders w_Modulus w_Values c x y z  = some res) :
    Ret Try.prog 68 #[(Value.agg #[v_w_Orders, (Value.int .i64 w_Modulus), v_w_Values]), v_c, (Value.int .i64 x), (Value.int .i64 y), (Value.int .i64 z)] w (fun v w' => v = Value.bool res ∧ Ext w w') := by
  unfold p_spec_l18Two at h
  have hS0 : St w w [] := St.start w
  refine Ret.start (fn := Try.f68) Try.func68 rfl 80 rfl rfl ?_
  refine W.seq (W.region ?_)
  refine WL.box hS0 rfl (cs := [v_w_Orders, (Value.int .i64 w_Modulus), v_w_Values]) rfl rfl ?_
  intro b1 wd2 hS3 he4 hx5
  replace hS3 : St w wd2 [bx b1 [v_w_Orders, (Value.int .i64 w_Modulus), v_w_Values]] := hS3
  have hx6 := St.boxAt hS3 0 rfl
  have hE7 : Ext w wd2 := hS3.ext
  have hS8 : St wd2 wd2 [] := St.start wd2
  refine WL.val (Value.bool false) _ (op_assign rfl) rfl ?_
  refine WL.nil ?_
  show W _ _ _ _ _ _
  refine W.seq (W.region ?_)
  refine WL.val (Value.pointer (some ⟨b1, 0, none⟩)) _ (op_fieldAddr fd_32_0 rfl) rfl ?_
  refine WL.val v_w_Orders _ (op_load one_22 rfl (BoxAt.cell (BoxAt.lift hS8.ext hx6) rfl)) rfl ?_
  refine WL.val (Value.int .i64 x) _ (op_move rfl) rfl ?_
  refine WL.val (Value.int .i64 y) _ (op_move rfl) rfl ?_
  obtain ⟨x9, hx10, h⟩ := bs h
  refine WL.call _ (op_call fn_95 (args3 rfl rfl rfl)) (c_spec_l06Add (Ty.lift _ (Ext.trans hE7 hS8.ext) r_w_Orders) r_x r_y hx10) rfl ?_
  rintro _ wd12 ⟨rfl, hr11, he13⟩
  have hS15 := St.extend hS8 he13
  replace hS15 : St wd2 wd12 [] := hS15
  refine WL.val (Value.int .i64 x9) _ (op_assign rfl) rfl ?_
  refine WL.nil ?_
  show W _ _ _ _ _ _
  refine W.seq (W.region ?_)
  refine WL.val (Value.pointer (some ⟨b1, 2, none⟩)) _ (op_fieldAddr fd_32_2 rfl) rfl ?_
  refine WL.val v_w_Values _ (op_load one_23 rfl (BoxAt.cell (BoxAt.lift hS15.ext hx6) rfl)) rfl ?_
  refine WL.val v_w_Values _ (op_assign rfl) rfl ?_
  refine WL.nil ?_
  show W _ _ _ _ _ _
  refine W.seq ?_
  obtain ⟨x45, hx48, h⟩ := bs h
  obtain ⟨ha46, hb47, hx48⟩ := idx_some hx48
  obtain ⟨u59, hc60, hr61⟩ := repSl.el r_c hx48
  obtain ⟨x84, hx87, h⟩ := bs h
  obtain ⟨ha85, hb86, hx87⟩ := idx_some hx87
  obtain ⟨u98, hc99, hr100⟩ := repSl.el hr61 hx87
  obtain ⟨rfl, hr100⟩ := hr100
  obtain ⟨x130, hx133, h⟩ := bs h
  obtain ⟨ha131, hb132, hx133⟩ := idx_some hx133
  obtain ⟨u144, hc145, hr146⟩ := repSl.el r_w_Values hx133
  obtain ⟨x169, hx172, h⟩ := bs h
  obtain ⟨ha170, hb171, hx172⟩ := idx_some hx172
  obtain ⟨u183, hc184, hr185⟩ := repSl.el hr146 hx172
  obtain ⟨x208, hx211, h⟩ := bs h
  obtain ⟨ha209, hb210, hx211⟩ := idx_some hx211
  obtain ⟨u222, hc223, hr224⟩ := repSl.el hr185 hx211
  obtain ⟨rfl, hr224⟩ := hr224
  obtain ⟨x270, hx273, h⟩ := bs h
  obtain ⟨ha271, hb272, hx273⟩ := idx_some hx273
  obtain ⟨u284, hc285, hr286⟩ := repSl.el r_w_Values hx273
  obtain ⟨x309, hx312, h⟩ := bs h
  obtain ⟨ha310, hb311, hx312⟩ := idx_some hx312
  obtain ⟨u323, hc324, hr325⟩ := repSl.el hr286 hx312
  obtain ⟨x348, hx351, h⟩ := bs h
  obtain ⟨ha349, hb350, hx351⟩ := idx_some hx351
  obtain ⟨u362, hc363, hr364⟩ := repSl.el hr325 hx351
  obtain ⟨rfl, hr364⟩ := hr364
  obtain ⟨x410, hx413, h⟩ := bs h
  obtain ⟨ha411, hb412, hx413⟩ := idx_some hx413
  obtain ⟨u424, hc425, hr426⟩ := repSl.el r_c hx413
  obtain ⟨x449, hx452, h⟩ := bs h
  obtain ⟨ha450, hb451, hx452⟩ := idx_some hx452
  obtain ⟨u463, hc464, hr465⟩ := repSl.el hr426 hx452
  obtain ⟨rfl, hr465⟩ := hr465
  obtain ⟨x511, hx514, h⟩ := bs h
  obtain ⟨ha512, hb513, hx514⟩ := idx_some hx514
  obtain ⟨u525, hc526, hr527⟩ := repSl.el r_c hx514
  obtain ⟨x550, hx553, h⟩ := bs h
  obtain ⟨ha551, hb552, hx553⟩ := idx_some hx553
  obtain ⟨u564, hc565, hr566⟩ := repSl.el hr527 hx553
  obtain ⟨rfl, hr566⟩ := hr566
  obtain ⟨u622, hc623, hr624⟩ := repSl.el r_w_Values hx273
  obtain ⟨x647, hx650, h⟩ := bs h
  obtain ⟨ha648, hb649, hx650⟩ := idx_some hx650
  obtain ⟨u661, hc662, hr663⟩ := repSl.el hr624 hx650
  obtain ⟨x686, hx689, h⟩ := bs h
  obtain ⟨ha687, hb688, hx689⟩ := idx_some hx689
  obtain ⟨u700, hc701, hr702⟩ := repSl.el hr663 hx689
  obtain ⟨rfl, hr702⟩ := hr702
  refine W.drawR mixo 58 [] [fun _ v _ _ => v = v_c, fun _ v _ _ => v = (Value.int .i64 x9) ∧ InR .i64 x9, fun _ v _ _ => v = (Value.pointer (some (elA v_c (x9).toNat))), fun _ v _ _ => v = u59, fun _ v _ _ => v = (Value.int .i64 z) ∧ InR .i64 z, fun _ v _ _ => v = (Value.pointer (some (elA u59 (z).toNat))), fun _ v _ _ => v = (Value.int .i64 x84) ∧ InR .i64 x84, fun _ v _ _ => v = v_w_Values, fun _ v _ _ => v = (Value.int .i64 z) ∧ InR .i64 z, fun _ v _ _ => v = (Value.pointer (some (elA v_w_Values (z).toNat))), fun _ v _ _ => v = u144, fun _ v _ _ => v = (Value.int .i64 x) ∧ InR .i64 x, fun _ v _ _ => v = (Value.pointer (some (elA u144 (x).toNat))), fun _ v _ _ => v = u183, fun _ v _ _ => v = (Value.int .i64 y) ∧ InR .i64 y, fun _ v _ _ => v = (Value.pointer (some (elA u183 (y).toNat))), fun _ v _ _ => v = (Value.int .i64 x208) ∧ InR .i64 x208, fun _ v _ _ => v = (Value.int .i64 (w64 (x84 - x208))) ∧ InR .i64 (w64 (x84 - x208)), fun _ v _ _ => v = v_w_Values, fun _ v _ _ => v = (Value.int .i64 x) ∧ InR .i64 x, fun _ v _ _ => v = (Value.pointer (some (elA v_w_Values (x).toNat))), fun _ v _ _ => v = u284, fun _ v _ _ => v = (Value.int .i64 y) ∧ InR .i64 y, fun _ v _ _ => v = (Value.pointer (some (elA u284 (y).toNat))), fun _ v _ _ => v = u323, fun _ v _ _ => v = (Value.int .i64 z) ∧ InR .i64 z, fun _ v _ _ => v = (Value.pointer (some (elA u323 (z).toNat))), fun _ v _ _ => v = (Value.int .i64 x348) ∧ InR .i64 x348, fun _ v _ _ => v = (Value.int .i64 (w64 ((w64 (x84 - x208)) - x348))) ∧ InR .i64 (w64 ((w64 (x84 - x208)) - x348)), fun _ v _ _ => v = v_c, fun _ v _ _ => v = (Value.int .i64 x) ∧ InR .i64 x, fun _ v _ _ => v = (Value.pointer (some (elA v_c (x).toNat))), fun _ v _ _ => v = u424, fun _ v _ _ => v = (Value.int .i64 z) ∧ InR .i64 z, fun _ v _ _ => v = (Value.pointer (some (elA u424 (z).toNat))), fun _ v _ _ => v = (Value.int .i64 x449) ∧ InR .i64 x449, fun _ v _ _ => v = (Value.int .i64 (w64 ((w64 ((w64 (x84 - x208)) - x348)) - x449))) ∧ InR .i64 (w64 ((w64 ((w64 (x84 - x208)) - x348)) - x449)), fun _ v _ _ => v = v_c, fun _ v _ _ => v = (Value.int .i64 y) ∧ InR .i64 y, fun _ v _ _ => v = (Value.pointer (some (elA v_c (y).toNat))), fun _ v _ _ => v = u525, fun _ v _ _ => v = (Value.int .i64 z) ∧ InR .i64 z, fun _ v _ _ => v = (Value.pointer (some (elA u525 (z).toNat))), fun _ v _ _ => v = (Value.int .i64 x550) ∧ InR .i64 x550, fun _ v _ _ => v = (Value.int .i64 (w64 ((w64 ((w64 ((w64 (x84 - x208)) - x348)) - x449)) - x550))) ∧ InR .i64 (w64 ((w64 ((w64 ((w64 (x84 - x208)) - x348)) - x449)) - x550)), fun _ v _ _ => v = v_w_Values, fun _ v _ _ => v = (Value.int .i64 x) ∧ InR .i64 x, fun _ v _ _ => v = (Value.pointer (some (elA v_w_Values (x).toNat))), fun _ v _ _ => v = u622, fun _ v _ _ => v = (Value.int .i64 z) ∧ InR .i64 z, fun _ v _ _ => v = (Value.pointer (some (elA u622 (z).toNat))), fun _ v _ _ => v = u661, fun _ v _ _ => v = (Value.int .i64 y) ∧ InR .i64 y, fun _ v _ _ => v = (Value.pointer (some (elA u661 (y).toNat))), fun _ v _ _ => v = (Value.int .i64 x686) ∧ InR .i64 x686, fun _ v _ _ => v = (Value.int .i64 (w64 ((w64 ((w64 ((w64 ((w64 (x84 - x208)) - x348)) - x449)) - x550)) + x686))) ∧ InR .i64 (w64 ((w64 ((w64 ((w64 ((w64 (x84 - x208)) - x348)) - x449)) - x550)) + x686)), fun _ v _ _ => v = (Value.pointer (some ⟨b1, 1, none⟩)), fun _ v _ _ => v = (Value.int .i64 w_Modulus) ∧ InR .i64 w_Modulus] (by kernel_rfl) (by kernel_rfl) ⟨⟨fun _ _ _ _ _ _ h => h, fun _ _ _ _ _ _ h => h⟩, ⟨fun _ _ _ _ _ _ h => h, fun _ _ _ _ _ _ h => h⟩, ⟨fun _ _ _ _ _ _ h => h, fun _ _ _ _ _ _ h => h⟩, ⟨fun _ _ _ _ _ _ h => h, fun _ _ _ _ _ _ h => h⟩, ⟨fun _ _ _ _ _ _ h => h, fun _ _ _ _ _ _ h => h⟩, ⟨fun _ _ _ _ _ _ h => h, fun _ _ _ _ _ _ h => h⟩, ⟨fun _ _ _ _ _ _ h => h, fun _ _ _ _ _ _ h => h⟩, ⟨fun _ _ _ _ _ _ h => h, fun _ _ _ _ _ _ h => h⟩, ⟨fun _ _ _ _ _ _ h => h, fun _ _ _ _ _ _ h => h⟩, ⟨fun _ _ _ _ _ _ h => h, fun _ _ _ _ _ _ h => h⟩, ⟨fun _ _ _ _ _ _ h => h, fun _ _ _ _ _ _ h => h⟩, ⟨fun _ _ _ _ _ _ h => h, fun _ _ _ _ _ _ h => h⟩, ⟨fun _ _ _ _ _ _ h => h, fun _ _ _ _ _ _ h => h⟩, ⟨fun _ _ _ _ _ _ h => h, fun _ _ _ _ _ _ h => h⟩, ⟨fun _ _ _ _ _ _ h => h, fun _ _ _ _ _ _ h => h⟩, ⟨fun _ _ _ _ _ _ h => h, fun _ _ _ _ _ _ h => h⟩, ⟨fun _ _ _ _ _ _ h => h, fun _ _ _ _ _ _ h => h⟩, ⟨fun _ _ _ _ _ _ h => h, fun _ _ _ _ _ _ h => h⟩, ⟨fun _ _ _ _ _ _ h => h, fun _ _ _ _ _ _ h => h⟩, ⟨fun _ _ _ _ _ _ h => h, fun _ _ _ _ _ _ h => h⟩, ⟨fun _ _ _ _ _ _ h => h, fun _ _ _ _ _ _ h => h⟩, ⟨fun _ _ _ _ _ _ h => h, fun _ _ _ _ _ _ h => h⟩, ⟨fun _ _ _ _ _ _ h => h, fun _ _ _ _ _ _ h => h⟩, ⟨fun _ _ _ _ _ _ h => h, fun _ _ _ _ _ _ h => h⟩, ⟨fun _ _ _ _ _ _ h => h, fun _ _ _ _ _ _ h => h⟩, ⟨fun _ _ _ _ _ _ h => h, fun _ _ _ _ _ _ h => h⟩, ⟨fun _ _ _ _ _ _ h => h, fun _ _ _ _ _ _ h => h⟩, ⟨fun _ _ _ _ _ _ h => h, fun _ _ _ _ _ _ h => h⟩, ⟨fun _ _ _ _ _ _ h => h, fun _ _ _ _ _ _ h => h⟩, ⟨fun _ _ _ _ _ _ h => h, fun _ _ _ _ _ _ h => h⟩, ⟨fun _ _ _ _ _ _ h => h, fun _ _ _ _ _ _ h => h⟩, ⟨fun _ _ _ _ _ _ h => h, fun _ _ _ _ _ _ h => h⟩, ⟨fun _ _ _ _ _ _ h => h, fun _ _ _ _ _ _ h => h⟩, ⟨fun _ _ _ _ _ _ h => h, fun _ _ _ _ _ _ h => h⟩, ⟨fun _ _ _ _ _ _ h => h, fun _ _ _ _ _ _ h => h⟩, ⟨fun _ _ _ _ _ _ h => h, fun _ _ _ _ _ _ h => h⟩, ⟨fun _ _ _ _ _ _ h => h, fun _ _ _ _ _ _ h => h⟩, ⟨fun _ _ _ _ _ _ h => h, fun _ _ _ _ _ _ h => h⟩, ⟨fun _ _ _ _ _ _ h => h, fun _ _ _ _ _ _ h => h⟩, ⟨fun _ _ _ _ _ _ h => h, fun _ _ _ _ _ _ h => h⟩, ⟨fun _ _ _ _ _ _ h => h, fun _ _ _ _ _ _ h => h⟩, ⟨fun _ _ _ _ _ _ h => h, fun _ _ _ _ _ _ h => h⟩, ⟨fun _ _ _ _ _ _ h => h, fun _ _ _ _ _ _ h => h⟩, ⟨fun _ _ _ _ _ _ h => h, fun _ _ _ _ _ _ h => h⟩, ⟨fun _ _ _ _ _ _ h => h, fun _ _ _ _ _ _ h => h⟩, ⟨fun _ _ _ _ _ _ h => h, fun _ _ _ _ _ _ h => h⟩, ⟨fun _ _ _ _ _ _ h => h, fun _ _ _ _ _ _ h => h⟩, ⟨fun _ _ _ _ _ _ h => h, fun _ _ _ _ _ _ h => h⟩, ⟨fun _ _ _ _ _ _ h => h, fun _ _ _ _ _ _ h => h⟩, ⟨fun _ _ _ _ _ _ h => h, fun _ _ _ _ _ _ h => h⟩, ⟨fun _ _ _ _ _ _ h => h, fun _ _ _ _ _ _ h => h⟩, ⟨fun _ _ _ _ _ _ h => h, fun _ _ _ _ _ _ h => h⟩, ⟨fun _ _ _ _ _ _ h => h, fun _ _ _ _ _ _ h => h⟩, ⟨fun _ _ _ _ _ _ h => h, fun _ _ _ _ _ _ h => h⟩, ⟨fun _ _ _ _ _ _ h => h, fun _ _ _ _ _ _ h => h⟩, ⟨fun _ _ _ _ _ _ h => h, fun _ _ _ _ _ _ h => h⟩, ⟨fun _ _ _ _ _ _ h => h, fun _ _ _ _ _ _ h => h⟩, ⟨fun _ _ _ _ _ _ h => h, fun _ _ _ _ _ _ h => h⟩, trivial⟩ ⟨?_, ?_, ?_, ?_, ?_, ?_, ?_, ?_, ?_, ?_, ?_, ?_, ?_, ?_, ?_, ?_, ?_, ?_, ?_, ?_, ?_, ?_, ?_, ?_, ?_, ?_, ?_, ?_, ?_, ?_, ?_, ?_, ?_, ?_, ?_, ?_, ?_, ?_, ?_, ?_, ?_, ?_, ?_, ?_, ?_, ?_, ?_, ?_, ?_, ?_, ?_, ?_, ?_, ?_, ?_, ?_, ?_, ?_, trivial⟩ ?_
  · refine ObX.op rfl ?_
    intro f16 wd17 he18 hout19 hphi20
    have hS21 : St wd2 wd17 [] := St.extend hS15 he18
    have e22 : f16 1 = v_c := (hout19 1 rfl).trans rfl
    exact OpX.val v_c wd17 rfl (op_move e22) (Ext.refl _) rfl
  · refine ObX.op rfl ?_
    intro f23 wd24 he25 hout26 hphi27
    have hS28 : St wd2 wd24 [] := St.extend hS15 he25
    have e29 : f23 11 = (Value.int .i64 x9) := (hout26 11 rfl).trans rfl
    exact OpX.val (Value.int .i64 x9) wd24 rfl (op_move e29) (Ext.refl _) ⟨rfl, hr11⟩
  · refine ObX.op rfl ?_
    intro f30 wd31 he32 hout33 hphi34
    have hS35 : St wd2 wd31 [] := St.extend hS15 he32
    obtain ⟨S36, hS37, hf38⟩ := hphi34 0 20 _ rfl rfl rfl
    have e39 : f30 20 = v_c := hf38
    obtain ⟨S40, hS41, hf42⟩ := hphi34 1 21 _ rfl rfl rfl
    obtain ⟨e43, hr44⟩ : f30 21 = (Value.int .i64 x9) ∧ InR .i64 x9 := hf42
    exact OpX.val (Value.pointer (some (elA v_c (x9).toNat))) wd31 rfl (op_idx sl_26 (Ty.lift _ (Ext.trans hE7 hS35.ext) r_c) e39 e43 ha46 hb47) (Ext.refl _) rfl
  · refine ObX.op rfl ?_
    intro f49 wd50 he51 hout52 hphi53
    have hS54 : St wd2 wd50 [] := St.extend hS15 he51
    obtain ⟨S55, hS56, hf57⟩ := hphi53 2 22 _ rfl rfl rfl
    have e58 : f49 22 = (Value.pointer (some (elA v_c (x9).toNat))) := hf57
    exact OpX.val u59 wd50 rfl (op_load one_22 e58 (Ext.cell (Ext.trans hE7 hS54.ext) hc60)) (Ext.refl _) rfl
  · refine ObX.op rfl ?_
    intro f62 wd63 he64 hout65 hphi66
    have hS67 : St wd2 wd63 [] := St.extend hS15 he64
    have e68 : f62 4 = (Value.int .i64 z) := (hout65 4 rfl).trans rfl
    exact OpX.val (Value.int .i64 z) wd63 rfl (op_move e68) (Ext.refl _) ⟨rfl, r_z⟩
  · refine ObX.op rfl ?_
    intro f69 wd70 he71 hout72 hphi73
    have hS74 : St wd2 wd70 [] := St.extend hS15 he71
    obtain ⟨S75, hS76, hf77⟩ := hphi73 3 23 _ rfl rfl rfl
    have e78 : f69 23 = u59 := hf77
    obtain ⟨S79, hS80, hf81⟩ := hphi73 4 24 _ rfl rfl rfl
    obtain ⟨e82, hr83⟩ : f69 24 = (Value.int .i64 z) ∧ InR .i64 z := hf81
    exact OpX.val (Value.pointer (some (elA u59 (z).toNat))) wd70 rfl (op_idx sl_22 (Ty.lift _ (Ext.trans hE7 hS74.ext) hr61) e78 e82 ha85 hb86) (Ext.refl _) rfl
  · refine ObX.op rfl ?_
    intro f88 wd89 he90 hout91 hphi92
    have hS93 : St wd2 wd89 [] := St.extend hS15 he90
    obtain ⟨S94, hS95, hf96⟩ := hphi92 5 25 _ rfl rfl rfl
    have e97 : f88 25 = (Value.pointer (some (elA u59 (z).toNat))) := hf96
    exact OpX.val (Value.int .i64 x84) wd89 rfl (op_load one_2 e97 (Ext.cell (Ext.trans hE7 hS93.ext) hc99)) (Ext.refl _) ⟨rfl, hr100⟩
  · refine ObX.op rfl ?_
    intro f101 wd102 he103 hout104 hphi105
    have hS106 : St wd2 wd102 [] := St.extend hS15 he103
    have e107 : f101 12 = v_w_Values := (hout104 12 rfl).trans rfl
    exact OpX.val v_w_Values wd102 rfl (op_move e107) (Ext.refl _) rfl
  · refine ObX.op rfl ?_
    intro f108 wd109 he110 hout111 hphi112
    have hS113 : St wd2 wd109 [] := St.extend hS15 he110
    have e114 : f108 4 = (Value.int .i64 z) := (hout111 4 rfl).trans rfl
    exact OpX.val (Value.int .i64 z) wd109 rfl (op_move e114) (Ext.refl _) ⟨rfl, r_z⟩
  · refine ObX.op rfl ?_
    intro f115 wd116 he117 hout118 hphi119
    have hS120 : St wd2 wd116 [] := St.extend hS15 he117
    obtain ⟨S121, hS122, hf123⟩ := hphi119 7 27 _ rfl rfl rfl
    have e124 : f115 27 = v_w_Values := hf123
    obtain ⟨S125, hS126, hf127⟩ := hphi119 8 28 _ rfl rfl rfl
    obtain ⟨e128, hr129⟩ : f115 28 = (Value.int .i64 z) ∧ InR .i64 z := hf127
    exact OpX.val (Value.pointer (some (elA v_w_Values (z).toNat))) wd116 rfl (op_idx sl_23 (Ty.lift _ (Ext.trans hE7 hS120.ext) r_w_Values) e124 e128 ha131 hb132) (Ext.refl _) rfl
  · refine ObX.op rfl ?_
    intro f134 wd135 he136 hout137 hphi138
    have hS139 : St wd2 wd135 [] := St.extend hS15 he136
    obtain ⟨S140, hS141, hf142⟩ := hphi138 9 29 _ rfl rfl rfl
    have e143 : f134 29 = (Value.pointer (some (elA v_w_Values (z).toNat))) := hf142
    exact OpX.val u144 wd135 rfl (op_load one_26 e143 (Ext.cell (Ext.trans hE7 hS139.ext) hc145)) (Ext.refl _) rfl
  · refine ObX.op rfl ?_
    intro f147 wd148 he149 hout150 hphi151
    have hS152 : St wd2 wd148 [] := St.extend hS15 he149
    have e153 : f147 2 = (Value.int .i64 x) := (hout150 2 rfl).trans rfl
    exact OpX.val (Value.int .i64 x) wd148 rfl (op_move e153) (Ext.refl _) ⟨rfl, r_x⟩
  · refine ObX.op rfl ?_
    intro f154 wd155 he156 hout157 hphi158
    have hS159 : St wd2 wd155 [] := St.extend hS15 he156
    obtain ⟨S160, hS161, hf162⟩ := hphi158 10 30 _ rfl rfl rfl
    have e163 : f154 30 = u144 := hf162
    obtain ⟨S164, hS165, hf166⟩ := hphi158 11 31 _ rfl rfl rfl
    obtain ⟨e167, hr168⟩ : f154 31 = (Value.int .i64 x) ∧ InR .i64 x := hf166
    exact OpX.val (Value.pointer (some (elA u144 (x).toNat))) wd155 rfl (op_idx sl_26 (Ty.lift _ (Ext.trans hE7 hS159.ext) hr146) e163 e167 ha170 hb171) (Ext.refl _) rfl
  · refine ObX.op rfl ?_
    intro f173 wd174 he175 hout176 hphi177
    have hS178 : St wd2 wd174 [] := St.extend hS15 he175
    obtain ⟨S179, hS180, hf181⟩ := hphi177 12 32 _ rfl rfl rfl
    have e182 : f173 32 = (Value.pointer (some (elA u144 (x).toNat))) := hf181
    exact OpX.val u183 wd174 rfl (op_load one_22 e182 (Ext.cell (Ext.trans hE7 hS178.ext) hc184)) (Ext.refl _) rfl
  · refine ObX.op rfl ?_
    intro f186 wd187 he188 hout189 hphi190
    have hS191 : St wd2 wd187 [] := St.extend hS15 he188
    have e192 : f186 3 = (Value.int .i64 y) := (hout189 3 rfl).trans rfl
    exact OpX.val (Value.int .i64 y) wd187 rfl (op_move e192) (Ext.refl _) ⟨rfl, r_y⟩
  · refine ObX.op rfl ?_
    intro f193 wd194 he195 hout196 hphi197
    have hS198 : St wd2 wd194 [] := St.extend hS15 he195
    obtain ⟨S199, hS200, hf201⟩ := hphi197 13 33 _ rfl rfl rfl
    have e202 : f193 33 = u183 := hf201
    obtain ⟨S203, hS204, hf205⟩ := hphi197 14 34 _ rfl rfl rfl
    obtain ⟨e206, hr207⟩ : f193 34 = (Value.int .i64 y) ∧ InR .i64 y := hf205
    exact OpX.val (Value.pointer (some (elA u183 (y).toNat))) wd194 rfl (op_idx sl_22 (Ty.lift _ (Ext.trans hE7 hS198.ext) hr185) e202 e206 ha209 hb210) (Ext.refl _) rfl
  · refine ObX.op rfl ?_
    intro f212 wd213 he214 hout215 hphi216
    have hS217 : St wd2 wd213 [] := St.extend hS15 he214
    obtain ⟨S218, hS219, hf220⟩ := hphi216 15 35 _ rfl rfl rfl
    have e221 : f212 35 = (Value.pointer (some (elA u183 (y).toNat))) := hf220
    exact OpX.val (Value.int .i64 x208) wd213 rfl (op_load one_2 e221 (Ext.cell (Ext.trans hE7 hS217.ext) hc223)) (Ext.refl _) ⟨rfl, hr224⟩
  · refine ObX.op rfl ?_
    intro f225 wd226 he227 hout228 hphi229
    have hS230 : St wd2 wd226 [] := St.extend hS15 he227
    obtain ⟨S231, hS232, hf233⟩ := hphi229 6 26 _ rfl rfl rfl
    obtain ⟨e234, hr235⟩ : f225 26 = (Value.int .i64 x84) ∧ InR .i64 x84 := hf233
    obtain ⟨S236, hS237, hf238⟩ := hphi229 16 36 _ rfl rfl rfl
    obtain ⟨e239, hr240⟩ : f225 36 = (Value.int .i64 x208) ∧ InR .i64 x208 := hf238
    exact OpX.val (Value.int .i64 (w64 (x84 - x208))) wd226 rfl (op_sub e234 e239) (Ext.refl _) ⟨rfl, (inR_wrap _ _)⟩
  · refine ObX.op rfl ?_
    intro f241 wd242 he243 hout244 hphi245
    have hS246 : St wd2 wd242 [] := St.extend hS15 he243
    have e247 : f241 12 = v_w_Values := (hout244 12 rfl).trans rfl
    exact OpX.val v_w_Values wd242 rfl (op_move e247) (Ext.refl _) rfl
  · refine ObX.op rfl ?_
    intro f248 wd249 he250 hout251 hphi252
    have hS253 : St wd2 wd249 [] := St.extend hS15 he250
    have e254 : f248 2 = (Value.int .i64 x) := (hout251 2 rfl).trans rfl
    exact OpX.val (Value.int .i64 x) wd249 rfl (op_move e254) (Ext.refl _) ⟨rfl, r_x⟩
  · refine ObX.op rfl ?_
    intro f255 wd256 he257 hout258 hphi259
    have hS260 : St wd2 wd256 [] := St.extend hS15 he257
    obtain ⟨S261, hS262, hf263⟩ := hphi259 18 38 _ rfl rfl rfl
    have e264 : f255 38 = v_w_Values := hf263
    obtain ⟨S265, hS266, hf267⟩ := hphi259 19 39 _ rfl rfl rfl
    obtain ⟨e268, hr269⟩ : f255 39 = (Value.int .i64 x) ∧ InR .i64 x := hf267
    exact OpX.val (Value.pointer (some (elA v_w_Values (x).toNat))) wd256 rfl (op_idx sl_23 (Ty.lift _ (Ext.trans hE7 hS260.ext) r_w_Values) e264 e268 ha271 hb272) (Ext.refl _) rfl
  · refine ObX.op rfl ?_
    intro f274 wd275 he276 hout277 hphi278
    have hS279 : St wd2 wd275 [] := St.extend hS15 he276
    obtain ⟨S280, hS281, hf282⟩ := hphi278 20 40 _ rfl rfl rfl
    have e283 : f274 40 = (Value.pointer (some (elA v_w_Values (x).toNat))) := hf282
    exact OpX.val u284 wd275 rfl (op_load one_26 e283 (Ext.cell (Ext.trans hE7 hS279.ext) hc285)) (Ext.refl _) rfl
  · refine ObX.op rfl ?_
    intro f287 wd288 he289 hout290 hphi291
    have hS292 : St wd2 wd288 [] := St.extend hS15 he289
    have e293 : f287 3 = (Value.int .i64 y) := (hout290 3 rfl).trans rfl
    exact OpX.val (Value.int .i64 y) wd288 rfl (op_move e293) (Ext.refl _) ⟨rfl, r_y⟩
  · refine ObX.op rfl ?_
    intro f294 wd295 he296 hout297 hphi298
    have hS299 : St wd2 wd295 [] := St.extend hS15 he296
    obtain ⟨S300, hS301, hf302⟩ := hphi298 21 41 _ rfl rfl rfl
    have e303 : f294 41 = u284 := hf302
    obtain ⟨S304, hS305, hf306⟩ := hphi298 22 42 _ rfl rfl rfl
    obtain ⟨e307, hr308⟩ : f294 42 = (Value.int .i64 y) ∧ InR .i64 y := hf306
    exact OpX.val (Value.pointer (some (elA u284 (y).toNat))) wd295 rfl (op_idx sl_26 (Ty.lift _ (Ext.trans hE7 hS299.ext) hr286) e303 e307 ha310 hb311) (Ext.refl _) rfl
  · refine ObX.op rfl ?_
    intro f313 wd314 he315 hout316 hphi317
    have hS318 : St wd2 wd314 [] := St.extend hS15 he315
    obtain ⟨S319, hS320, hf321⟩ := hphi317 23 43 _ rfl rfl rfl
    have e322 : f313 43 = (Value.pointer (some (elA u284 (y).toNat))) := hf321
    exact OpX.val u323 wd314 rfl (op_load one_22 e322 (Ext.cell (Ext.trans hE7 hS318.ext) hc324)) (Ext.refl _) rfl
  · refine ObX.op rfl ?_
    intro f326 wd327 he328 hout329 hphi330
    have hS331 : St wd2 wd327 [] := St.extend hS15 he328
    have e332 : f326 4 = (Value.int .i64 z) := (hout329 4 rfl).trans rfl
    exact OpX.val (Value.int .i64 z) wd327 rfl (op_move e332) (Ext.refl _) ⟨rfl, r_z⟩
  · refine ObX.op rfl ?_
    intro f333 wd334 he335 hout336 hphi337
    have hS338 : St wd2 wd334 [] := St.extend hS15 he335
    obtain ⟨S339, hS340, hf341⟩ := hphi337 24 44 _ rfl rfl rfl
    have e342 : f333 44 = u323 := hf341
    obtain ⟨S343, hS344, hf345⟩ := hphi337 25 45 _ rfl rfl rfl
    obtain ⟨e346, hr347⟩ : f333 45 = (Value.int .i64 z) ∧ InR .i64 z := hf345
    exact OpX.val (Value.pointer (some (elA u323 (z).toNat))) wd334 rfl (op_idx sl_22 (Ty.lift _ (Ext.trans hE7 hS338.ext) hr325) e342 e346 ha349 hb350) (Ext.refl _) rfl
  · refine ObX.op rfl ?_
    intro f352 wd353 he354 hout355 hphi356
    have hS357 : St wd2 wd353 [] := St.extend hS15 he354
    obtain ⟨S358, hS359, hf360⟩ := hphi356 26 46 _ rfl rfl rfl
    have e361 : f352 46 = (Value.pointer (some (elA u323 (z).toNat))) := hf360
    exact OpX.val (Value.int .i64 x348) wd353 rfl (op_load one_2 e361 (Ext.cell (Ext.trans hE7 hS357.ext) hc363)) (Ext.refl _) ⟨rfl, hr364⟩
  · refine ObX.op rfl ?_
    intro f365 wd366 he367 hout368 hphi369
    have hS370 : St wd2 wd366 [] := St.extend hS15 he367
    obtain ⟨S371, hS372, hf373⟩ := hphi369 17 37 _ rfl rfl rfl
    obtain ⟨e374, hr375⟩ : f365 37 = (Value.int .i64 (w64 (x84 - x208))) ∧ InR .i64 (w64 (x84 - x208)) := hf373
    obtain ⟨S376, hS377, hf378⟩ := hphi369 27 47 _ rfl rfl rfl
    obtain ⟨e379, hr380⟩ : f365 47 = (Value.int .i64 x348) ∧ InR .i64 x348 := hf378
    exact OpX.val (Value.int .i64 (w64 ((w64 (x84 - x208)) - x348))) wd366 rfl (op_sub e374 e379) (Ext.refl _) ⟨rfl, (inR_wrap _ _)⟩
  · refine ObX.op rfl ?_
    intro f381 wd382 he383 hout384 hphi385
    have hS386 : St wd2 wd382 [] := St.extend hS15 he383
    have e387 : f381 1 = v_c := (hout384 1 rfl).trans rfl
    exact OpX.val v_c wd382 rfl (op_move e387) (Ext.refl _) rfl
  · refine ObX.op rfl ?_
    intro f388 wd389 he390 hout391 hphi392
    have hS393 : St wd2 wd389 [] := St.extend hS15 he390
    have e394 : f388 2 = (Value.int .i64 x) := (hout391 2 rfl).trans rfl
    exact OpX.val (Value.int .i64 x) wd389 rfl (op_move e394) (Ext.refl _) ⟨rfl, r_x⟩
  · refine ObX.op rfl ?_
    intro f395 wd396 he397 hout398 hphi399
    have hS400 : St wd2 wd396 [] := St.extend hS15 he397
    obtain ⟨S401, hS402, hf403⟩ := hphi399 29 49 _ rfl rfl rfl
    have e404 : f395 49 = v_c := hf403
    obtain ⟨S405, hS406, hf407⟩ := hphi399 30 50 _ rfl rfl rfl
    obtain ⟨e408, hr409⟩ : f395 50 = (Value.int .i64 x) ∧ InR .i64 x := hf407
    exact OpX.val (Value.pointer (some (elA v_c (x).toNat))) wd396 rfl (op_idx sl_26 (Ty.lift _ (Ext.trans hE7 hS400.ext) r_c) e404 e408 ha411 hb412) (Ext.refl _) rfl
  · refine ObX.op rfl ?_
    intro f414 wd415 he416 hout417 hphi418
    have hS419 : St wd2 wd415 [] := St.extend hS15 he416
    obtain ⟨S420, hS421, hf422⟩ := hphi418 31 51 _ rfl rfl rfl
    have e423 : f414 51 = (Value.pointer (some (elA v_c (x).toNat))) := hf422
    exact OpX.val u424 wd415 rfl (op_load one_22 e423 (Ext.cell (Ext.trans hE7 hS419.ext) hc425)) (Ext.refl _) rfl
  · refine ObX.op rfl ?_
    intro f427 wd428 he429 hout430 hphi431
    have hS432 : St wd2 wd428 [] := St.extend hS15 he429
    have e433 : f427 4 = (Value.int .i64 z) := (hout430 4 rfl).trans rfl
    exact OpX.val (Value.int .i64 z) wd428 rfl (op_move e433) (Ext.refl _) ⟨rfl, r_z⟩
  · refine ObX.op rfl ?_
    intro f434 wd435 he436 hout437 hphi438
    have hS439 : St wd2 wd435 [] := St.extend hS15 he436
    obtain ⟨S440, hS441, hf442⟩ := hphi438 32 52 _ rfl rfl rfl
    have e443 : f434 52 = u424 := hf442
    obtain ⟨S444, hS445, hf446⟩ := hphi438 33 53 _ rfl rfl rfl
    obtain ⟨e447, hr448⟩ : f434 53 = (Value.int .i64 z) ∧ InR .i64 z := hf446
    exact OpX.val (Value.pointer (some (elA u424 (z).toNat))) wd435 rfl (op_idx sl_22 (Ty.lift _ (Ext.trans hE7 hS439.ext) hr426) e443 e447 ha450 hb451) (Ext.refl _) rfl
  · refine ObX.op rfl ?_
    intro f453 wd454 he455 hout456 hphi457
    have hS458 : St wd2 wd454 [] := St.extend hS15 he455
    obtain ⟨S459, hS460, hf461⟩ := hphi457 34 54 _ rfl rfl rfl
    have e462 : f453 54 = (Value.pointer (some (elA u424 (z).toNat))) := hf461
    exact OpX.val (Value.int .i64 x449) wd454 rfl (op_load one_2 e462 (Ext.cell (Ext.trans hE7 hS458.ext) hc464)) (Ext.refl _) ⟨rfl, hr465⟩
  · refine ObX.op rfl ?_
    intro f466 wd467 he468 hout469 hphi470
    have hS471 : St wd2 wd467 [] := St.extend hS15 he468
    obtain ⟨S472, hS473, hf474⟩ := hphi470 28 48 _ rfl rfl rfl
    obtain ⟨e475, hr476⟩ : f466 48 = (Value.int .i64 (w64 ((w64 (x84 - x208)) - x348))) ∧ InR .i64 (w64 ((w64 (x84 - x208)) - x348)) := hf474
    obtain ⟨S477, hS478, hf479⟩ := hphi470 35 55 _ rfl rfl rfl
    obtain ⟨e480, hr481⟩ : f466 55 = (Value.int .i64 x449) ∧ InR .i64 x449 := hf479
    exact OpX.val (Value.int .i64 (w64 ((w64 ((w64 (x84 - x208)) - x348)) - x449))) wd467 rfl (op_sub e475 e480) (Ext.refl _) ⟨rfl, (inR_wrap _ _)⟩
  · refine ObX.op rfl ?_
    intro f482 wd483 he484 hout485 hphi486
    have hS487 : St wd2 wd483 [] := St.extend hS15 he484
    have e488 : f482 1 = v_c := (hout485 1 rfl).trans rfl
    exact OpX.val v_c wd483 rfl (op_move e488) (Ext.refl _) rfl
  · refine ObX.op rfl ?_
    intro f489 wd490 he491 hout492 hphi493
    have hS494 : St wd2 wd490 [] := St.extend hS15 he491
    have e495 : f489 3 = (Value.int .i64 y) := (hout492 3 rfl).trans rfl
    exact OpX.val (Value.int .i64 y) wd490 rfl (op_move e495) (Ext.refl _) ⟨rfl, r_y⟩
  · refine ObX.op rfl ?_
    intro f496 wd497 he498 hout499 hphi500
    have hS501 : St wd2 wd497 [] := St.extend hS15 he498
    obtain ⟨S502, hS503, hf504⟩ := hphi500 37 57 _ rfl rfl rfl
    have e505 : f496 57 = v_c := hf504
    obtain ⟨S506, hS507, hf508⟩ := hphi500 38 58 _ rfl rfl rfl
    obtain ⟨e509, hr510⟩ : f496 58 = (Value.int .i64 y) ∧ InR .i64 y := hf508
    exact OpX.val (Value.pointer (some (elA v_c (y).toNat))) wd497 rfl (op_idx sl_26 (Ty.lift _ (Ext.trans hE7 hS501.ext) r_c) e505 e509 ha512 hb513) (Ext.refl _) rfl
  · refine ObX.op rfl ?_
    intro f515 wd516 he517 hout518 hphi519
    have hS520 : St wd2 wd516 [] := St.extend hS15 he517
    obtain ⟨S521, hS522, hf523⟩ := hphi519 39 59 _ rfl rfl rfl
    have e524 : f515 59 = (Value.pointer (some (elA v_c (y).toNat))) := hf523
    exact OpX.val u525 wd516 rfl (op_load one_22 e524 (Ext.cell (Ext.trans hE7 hS520.ext) hc526)) (Ext.refl _) rfl
  · refine ObX.op rfl ?_
    intro f528 wd529 he530 hout531 hphi532
    have hS533 : St wd2 wd529 [] := St.extend hS15 he530
    have e534 : f528 4 = (Value.int .i64 z) := (hout531 4 rfl).trans rfl
    exact OpX.val (Value.int .i64 z) wd529 rfl (op_move e534) (Ext.refl _) ⟨rfl, r_z⟩
  · refine ObX.op rfl ?_
    intro f535 wd536 he537 hout538 hphi539
    have hS540 : St wd2 wd536 [] := St.extend hS15 he537
    obtain ⟨S541, hS542, hf543⟩ := hphi539 40 60 _ rfl rfl rfl
    have e544 : f535 60 = u525 := hf543
    obtain ⟨S545, hS546, hf547⟩ := hphi539 41 61 _ rfl rfl rfl
    obtain ⟨e548, hr549⟩ : f535 61 = (Value.int .i64 z) ∧ InR .i64 z := hf547
    exact OpX.val (Value.pointer (some (elA u525 (z).toNat))) wd536 rfl (op_idx sl_22 (Ty.lift _ (Ext.trans hE7 hS540.ext) hr527) e544 e548 ha551 hb552) (Ext.refl _) rfl
  · refine ObX.op rfl ?_
    intro f554 wd555 he556 hout557 hphi558
    have hS559 : St wd2 wd555 [] := St.extend hS15 he556
    obtain ⟨S560, hS561, hf562⟩ := hphi558 42 62 _ rfl rfl rfl
    have e563 : f554 62 = (Value.pointer (some (elA u525 (z).toNat))) := hf562
    exact OpX.val (Value.int .i64 x550) wd555 rfl (op_load one_2 e563 (Ext.cell (Ext.trans hE7 hS559.ext) hc565)) (Ext.refl _) ⟨rfl, hr566⟩
  · refine ObX.op rfl ?_
    intro f567 wd568 he569 hout570 hphi571
    have hS572 : St wd2 wd568 [] := St.extend hS15 he569
    obtain ⟨S573, hS574, hf575⟩ := hphi571 36 56 _ rfl rfl rfl
    obtain ⟨e576, hr577⟩ : f567 56 = (Value.int .i64 (w64 ((w64 ((w64 (x84 - x208)) - x348)) - x449))) ∧ InR .i64 (w64 ((w64 ((w64 (x84 - x208)) - x348)) - x449)) := hf575
    obtain ⟨S578, hS579, hf580⟩ := hphi571 43 63 _ rfl rfl rfl
    obtain ⟨e581, hr582⟩ : f567 63 = (Value.int .i64 x550) ∧ InR .i64 x550 := hf580
    exact OpX.val (Value.int .i64 (w64 ((w64 ((w64 ((w64 (x84 - x208)) - x348)) - x449)) - x550))) wd568 rfl (op_sub e576 e581) (Ext.refl _) ⟨rfl, (inR_wrap _ _)⟩
  · refine ObX.op rfl ?_
    intro f583 wd584 he585 hout586 hphi587
    have hS588 : St wd2 wd584 [] := St.extend hS15 he585
    have e589 : f583 12 = v_w_Values := (hout586 12 rfl).trans rfl
    exact OpX.val v_w_Values wd584 rfl (op_move e589) (Ext.refl _) rfl
  · refine ObX.op rfl ?_
    intro f590 wd591 he592 hout593 hphi594
    have hS595 : St wd2 wd591 [] := St.extend hS15 he592
    have e596 : f590 2 = (Value.int .i64 x) := (hout593 2 rfl).trans rfl
    exact OpX.val (Value.int .i64 x) wd591 rfl (op_move e596) (Ext.refl _) ⟨rfl, r_x⟩
  · refine ObX.op rfl ?_
    intro f597 wd598 he599 hout600 hphi601
    have hS602 : St wd2 wd598 [] := St.extend hS15 he599
    obtain ⟨S603, hS604, hf605⟩ := hphi601 45 65 _ rfl rfl rfl
    have e606 : f597 65 = v_w_Values := hf605
    obtain ⟨S607, hS608, hf609⟩ := hphi601 46 66 _ rfl rfl rfl
    obtain ⟨e610, hr611⟩ : f597 66 = (Value.int .i64 x) ∧ InR .i64 x := hf609
    exact OpX.val (Value.pointer (some (elA v_w_Values (x).toNat))) wd598 rfl (op_idx sl_23 (Ty.lift _ (Ext.trans hE7 hS602.ext) r_w_Values) e606 e610 ha271 hb272) (Ext.refl _) rfl
  · refine ObX.op rfl ?_
    intro f612 wd613 he614 hout615 hphi616
    have hS617 : St wd2 wd613 [] := St.extend hS15 he614
    obtain ⟨S618, hS619, hf620⟩ := hphi616 47 67 _ rfl rfl rfl
    have e621 : f612 67 = (Value.pointer (some (elA v_w_Values (x).toNat))) := hf620
    exact OpX.val u622 wd613 rfl (op_load one_26 e621 (Ext.cell (Ext.trans hE7 hS617.ext) hc623)) (Ext.refl _) rfl
  · refine ObX.op rfl ?_
    intro f625 wd626 he627 hout628 hphi629
    have hS630 : St wd2 wd626 [] := St.extend hS15 he627
    have e631 : f625 4 = (Value.int .i64 z) := (hout628 4 rfl).trans rfl
    exact OpX.val (Value.int .i64 z) wd626 rfl (op_move e631) (Ext.refl _) ⟨rfl, r_z⟩
  · refine ObX.op rfl ?_
    intro f632 wd633 he634 hout635 hphi636
    have hS637 : St wd2 wd633 [] := St.extend hS15 he634
    obtain ⟨S638, hS639, hf640⟩ := hphi636 48 68 _ rfl rfl rfl
    have e641 : f632 68 = u622 := hf640
    obtain ⟨S642, hS643, hf644⟩ := hphi636 49 69 _ rfl rfl rfl
    obtain ⟨e645, hr646⟩ : f632 69 = (Value.int .i64 z) ∧ InR .i64 z := hf644
    exact OpX.val (Value.pointer (some (elA u622 (z).toNat))) wd633 rfl (op_idx sl_26 (Ty.lift _ (Ext.trans hE7 hS637.ext) hr624) e641 e645 ha648 hb649) (Ext.refl _) rfl
  · refine ObX.op rfl ?_
    intro f651 wd652 he653 hout654 hphi655
    have hS656 : St wd2 wd652 [] := St.extend hS15 he653
    obtain ⟨S657, hS658, hf659⟩ := hphi655 50 70 _ rfl rfl rfl
    have e660 : f651 70 = (Value.pointer (some (elA u622 (z).toNat))) := hf659
    exact OpX.val u661 wd652 rfl (op_load one_22 e660 (Ext.cell (Ext.trans hE7 hS656.ext) hc662)) (Ext.refl _) rfl
  · refine ObX.op rfl ?_
    intro f664 wd665 he666 hout667 hphi668
    have hS669 : St wd2 wd665 [] := St.extend hS15 he666
    have e670 : f664 3 = (Value.int .i64 y) := (hout667 3 rfl).trans rfl
    exact OpX.val (Value.int .i64 y) wd665 rfl (op_move e670) (Ext.refl _) ⟨rfl, r_y⟩
  · refine ObX.op rfl ?_
    intro f671 wd672 he673 hout674 hphi675
    have hS676 : St wd2 wd672 [] := St.extend hS15 he673
    obtain ⟨S677, hS678, hf679⟩ := hphi675 51 71 _ rfl rfl rfl
    have e680 : f671 71 = u661 := hf679
    obtain ⟨S681, hS682, hf683⟩ := hphi675 52 72 _ rfl rfl rfl
    obtain ⟨e684, hr685⟩ : f671 72 = (Value.int .i64 y) ∧ InR .i64 y := hf683
    exact OpX.val (Value.pointer (some (elA u661 (y).toNat))) wd672 rfl (op_idx sl_22 (Ty.lift _ (Ext.trans hE7 hS676.ext) hr663) e680 e684 ha687 hb688) (Ext.refl _) rfl
  · refine ObX.op rfl ?_
    intro f690 wd691 he692 hout693 hphi694
    have hS695 : St wd2 wd691 [] := St.extend hS15 he692
    obtain ⟨S696, hS697, hf698⟩ := hphi694 53 73 _ rfl rfl rfl
    have e699 : f690 73 = (Value.pointer (some (elA u661 (y).toNat))) := hf698
    exact OpX.val (Value.int .i64 x686) wd691 rfl (op_load one_2 e699 (Ext.cell (Ext.trans hE7 hS695.ext) hc701)) (Ext.refl _) ⟨rfl, hr702⟩
  · refine ObX.op rfl ?_
    intro f703 wd704 he705 hout706 hphi707
    have hS708 : St wd2 wd704 [] := St.extend hS15 he705
    obtain ⟨S709, hS710, hf711⟩ := hphi707 44 64 _ rfl rfl rfl
    obtain ⟨e712, hr713⟩ : f703 64 = (Value.int .i64 (w64 ((w64 ((w64 ((w64 (x84 - x208)) - x348)) - x449)) - x550))) ∧ InR .i64 (w64 ((w64 ((w64 ((w64 (x84 - x208)) - x348)) - x449)) - x550)) := hf711
    obtain ⟨S714, hS715, hf716⟩ := hphi707 54 74 _ rfl rfl rfl
    obtain ⟨e717, hr718⟩ : f703 74 = (Value.int .i64 x686) ∧ InR .i64 x686 := hf716
    exact OpX.val (Value.int .i64 (w64 ((w64 ((w64 ((w64 ((w64 (x84 - x208)) - x348)) - x449)) - x550)) + x686))) wd704 rfl (op_add e712 e717) (Ext.refl _) ⟨rfl, (inR_wrap _ _)⟩
  · refine ObX.op rfl ?_
    intro f719 wd720 he721 hout722 hphi723
    have hS724 : St wd2 wd720 [] := St.extend hS15 he721
    have e725 : f719 5 = (Value.pointer (some ⟨b1, 0, none⟩)) := (hout722 5 rfl).trans rfl
    exact OpX.val (Value.pointer (some ⟨b1, 1, none⟩)) wd720 rfl (op_fieldAddr fd_32_1 e725) (Ext.refl _) rfl
  · refine ObX.op rfl ?_
    intro f726 wd727 he728 hout729 hphi730
    have hS731 : St wd2 wd727 [] := St.extend hS15 he728
    obtain ⟨S732, hS733, hf734⟩ := hphi730 56 76 _ rfl rfl rfl
    have e735 : f726 76 = (Value.pointer (some ⟨b1, 1, none⟩)) := hf734
    exact OpX.val (Value.int .i64 w_Modulus) wd727 rfl (op_load one_2 e735 (BoxAt.cell (BoxAt.lift hS731.ext hx6) rfl)) (Ext.refl _) ⟨rfl, r_w_Modulus⟩
  · intro f736 wd737 Ss738 he739 hout740 hSn741 hSd742 hphi743
    show WL _ _ _ _ _ _ _
    have hS744 : St wd2 wd737 [] := St.extend hS15 he739
    obtain ⟨e745, hr746⟩ : f736 75 = (Value.int .i64 (w64 ((w64 ((w64 ((w64 ((w64 (x84 - x208)) - x348)) - x449)) - x550)) + x686))) ∧ InR .i64 (w64 ((w64 ((w64 ((w64 ((w64 (x84 - x208)) - x348)) - x449)) - x550)) + x686)) := hphi743 55 75 _ (by decide) rfl rfl
    obtain ⟨e747, hr748⟩ : f736 77 = (Value.int .i64 w_Modulus) ∧ InR .i64 w_Modulus := hphi743 57 77 _ (by decide) rfl rfl
    obtain ⟨x749, hz750, h⟩ := bs h
    obtain ⟨h0751, hz750⟩ := remI_some hz750
    have hr752 : InR .i64 x749 := by rw [hz750]; exact inR_tmod hr746
    refine WL.val (Value.int .i64 x749) _ (by rw [hz750]; exact op_rem e745 e747 h0751) rfl ?_
    refine WL.val (Value.bool (x749 == (0 : Int))) _ (op_eql rfl rfl) rfl ?_
    refine WL.val (Value.bool (x749 == (0 : Int))) _ (op_assign rfl) rfl ?_
    refine WL.nil ?_
    show W _ _ _ _ _ _
    refine W.ret ?_
    obtain rfl := Option.some.inj h
    show FinP _ _ _ _ _ _ _
    exact FinP.ret _ (res1 rfl rfl) ⟨rfl, (Ext.trans hE7 hS744.ext)⟩

theorem c_spec_l18Fault {w : World} {w_Orders : (List Int)} {v_w_Orders : Value} {w_Modulus : Int} {w_Values : (List (List (List Int)))} {v_w_Values : Value} {c : (List (List Int))} {v_c : Value} (r_w_Orders : (Ty.sl (Ty.i .i64)).rep w v_w_Orders w_Orders) (r_w_Modulus : InR .i64 w_Modulus) (r_w_Values : (Ty.sl (Ty.sl (Ty.sl (Ty.i .i64)))).rep w v_w_Values w_Values) (r_c : (Ty.sl (Ty.sl (Ty.i .i64))).rep w v_c c) {res : (List Int)} (h : p_spec_l18Fault w_Orders w_Modulus w_Values c  = some res) :
    Ret Try.prog 32 #[(Value.agg #[v_w_Orders, (Value.int .i64 w_Modulus), v_w_Values]), v_c] w (fun v w' => ∃ (u0 : Value), v = u0 ∧ Ext w w' ∧ Sep w.heap.size w' [(Ty.sl (Ty.i .i64)).at u0 res]) := by
  unfold p_spec_l18Fault at h
  have hS0 : St w w [] := St.start w
  refine Ret.start (fn := Try.f32) Try.func32 rfl 60 rfl rfl ?_
  refine W.seq (W.region ?_)
  refine WL.box hS0 rfl (cs := [v_w_Orders, (Value.int .i64 w_Modulus), v_w_Values]) rfl rfl ?_
  intro b1 wd2 hS3 he4 hx5
  replace hS3 : St w wd2 [bx b1 [v_w_Orders, (Value.int .i64 w_Modulus), v_w_Values]] := hS3
  have hx6 := St.boxAt hS3 0 rfl
  have hE7 : Ext w wd2 := hS3.ext
  have hS8 : St wd2 wd2 [] := St.start wd2
  refine WL.val (Value.slice none 0 0) _ (op_assign rfl) rfl ?_
  refine WL.nil ?_
  show W _ _ _ _ _ _
  refine W.seq (W.region ?_)
  refine WL.val v_c _ (op_move rfl) rfl ?_
  have hr9 := inR_len (Ty.lift _ (Ext.trans hE7 hS8.ext) r_c)
  refine WL.val (Value.int .i64 ((c).length : Int)) _ (op_lenL sl_26 (Ty.lift _ (Ext.trans hE7 hS8.ext) r_c) rfl) rfl ?_
  refine WL.val (Value.int .i64 ((c).length : Int)) _ (op_assign rfl) rfl ?_
  refine WL.nil ?_
  show W _ _ _ _ _ _
  refine W.seq (W.seq (W.region ?_))
  refine WL.val (Value.int .i64 (1 : Int)) _ (op_assign rfl) rfl ?_
  refine WL.nil ?_
  show W _ _ _ _ _ _
  obtain ⟨res10, hres11, h⟩ := bs h
  refine W.blockLoop (fun fq wq => ∃ s, res10 = Res.fin s ∧ St wd2 wq []) ?_ ?_
  · refine W.whileC (fun (s : Int) fq wq => fq 1 = v_c ∧ fq 2 = (Value.pointer (some ⟨b1, 0, none⟩)) ∧ fq 5 = (Value.int .i64 ((c).length : Int)) ∧ fq 6 = Value.int .i64 s ∧ InR .i64 s ∧ St wd2 wq []) hres11 ⟨rfl, rfl, rfl, rfl, (inR_i64.2 (show (-9223372036854775808 : Int) ≤ 1 ∧ (1 : Int) ≤ 9223372036854775807 from by decide)), hS8⟩ ?_
    intro x13 ct14 f15 wd16 hb18 hI19 hbrk20 hret21
    replace hI19 : f15 1 = v_c ∧ f15 2 = (Value.pointer (some ⟨b1, 0, none⟩)) ∧ f15 5 = (Value.int .i64 ((c).length : Int)) ∧ f15 6 = Value.int .i64 x13 ∧ InR .i64 x13 ∧ St wd2 wd16 [] := hI19
    replace hb18 : p_spec_l18Fault_L1 w_Orders w_Modulus w_Values c  x13 = some ct14 := hb18
    unfold p_spec_l18Fault_L1 at hb18
    obtain ⟨hf22, hf23, hf24, hf25, hr26, hS27⟩ := hI19
    refine W.seq (W.seq (W.region ?_))
    refine WL.val (Value.int .i64 x13) _ (op_move hf25) rfl ?_
    refine WL.val (Value.bool (decide (x13 ≤ (2 : Int)))) _ (op_leq rfl rfl) rfl ?_
    refine WL.nil ?_
    show W _ _ _ _ _ _
    refine W.cond (decide (x13 ≤ (2 : Int))) rfl (fun hc28 => ?_) (fun hc28 => ?_)
    · replace hb18 := ip hb18 hc28
      refine W.skip ?_
      show W _ _ _ _ _ _
      refine W.seq ?_
      refine W.block ?_
      refine W.seq (W.region ?_)
      refine WL.val (Value.int .i64 (0 : Int)) _ (op_assign rfl) rfl ?_
      refine WL.nil ?_
      show W _ _ _ _ _ _
      obtain ⟨res30, hres31, hb18⟩ := bs hb18
      refine W.blockLoop (fun fq wq => ∃ s, res30 = Res.fin s ∧ fq 1 = v_c ∧ fq 2 = (Value.pointer (some ⟨b1, 0, none⟩)) ∧ fq 5 = (Value.int .i64 ((c).length : Int)) ∧ fq 6 = (Value.int .i64 x13) ∧ St wd2 wq []) ?_ ?_
      · refine W.forN (fun k (s : Unit) fq wq => fq 1 = v_c ∧ fq 2 = (Value.pointer (some ⟨b1, 0, none⟩)) ∧ fq 5 = (Value.int .i64 ((c).length : Int)) ∧ fq 6 = (Value.int .i64 x13) ∧ fq 7 = Value.int .i64 (k : Int) ∧ InR .i64 (k : Int) ∧ St wd2 wq []) hres31 ⟨hf22, hf23, hf24, hf25, rfl, (inR_i64.2 (show (-9223372036854775808 : Int) ≤ 0 ∧ (0 : Int) ≤ 9223372036854775807 from by decide)), hS27⟩ ?_ ?_
        · intro k32 s190 ct33 f34 wd35 hk36 hb37 hI38 hbrk39 hret40
          obtain ⟨⟩ := s190
          replace hI38 : f34 1 = v_c ∧ f34 2 = (Value.pointer (some ⟨b1, 0, none⟩)) ∧ f34 5 = (Value.int .i64 ((c).length : Int)) ∧ f34 6 = (Value.int .i64 x13) ∧ f34 7 = Value.int .i64 (k32 : Int) ∧ InR .i64 (k32 : Int) ∧ St wd2 wd35 [] := hI38
          replace hb37 : p_spec_l18Fault_L2 x13 w_Orders w_Modulus w_Values c k32  = some ct33 := hb37
          unfold p_spec_l18Fault_L2 at hb37
          obtain ⟨hf41, hf42, hf43, hf44, hf45, hr46, hS47⟩ := hI38
          refine W.seq (W.seq (W.region ?_))
          refine WL.val (Value.int .i64 (k32 : Int)) _ (op_move hf45) rfl ?_
          refine WL.val (Value.int .i64 ((c).length : Int)) _ (op_move hf43) rfl ?_
          refine WL.val (Value.bool (decide ((k32 : Int) < ((c).length : Int)))) _ (op_lss rfl rfl) rfl ?_
          have hl48 : (k32 : Int) < ((c).length : Int) := by omega
          refine WL.nil ?_
          show W _ _ _ _ _ _
          refine W.condT (decide ((k32 : Int) < ((c).length : Int))) rfl (decide_eq_true hl48) ?_
          refine W.skip ?_
          show W _ _ _ _ _ _
          refine W.seq ?_
          refine W.block ?_
          refine W.seq (W.region ?_)
          refine WL.val (Value.int .i64 (0 : Int)) _ (op_assign rfl) rfl ?_
          refine WL.nil ?_
          show W _ _ _ _ _ _
          obtain ⟨res50, hres51, hb37⟩ := bs hb37
          refine W.blockLoop (fun fq wq => ∃ s, res50 = Res.fin s ∧ fq 1 = v_c ∧ fq 2 = (Value.pointer (some ⟨b1, 0, none⟩)) ∧ fq 5 = (Value.int .i64 ((c).length : Int)) ∧ fq 6 = (Value.int .i64 x13) ∧ fq 7 = (Value.int .i64 (k32 : Int)) ∧ St wd2 wq []) ?_ ?_
          · refine W.forN (fun k (s : Unit) fq wq => fq 1 = v_c ∧ fq 2 = (Value.pointer (some ⟨b1, 0, none⟩)) ∧ fq 5 = (Value.int .i64 ((c).length : Int)) ∧ fq 6 = (Value.int .i64 x13) ∧ fq 7 = (Value.int .i64 (k32 : Int)) ∧ fq 8 = Value.int .i64 (k : Int) ∧ InR .i64 (k : Int) ∧ St wd2 wq []) hres51 ⟨hf41, hf42, hf43, hf44, hf45, rfl, (inR_i64.2 (show (-9223372036854775808 : Int) ≤ 0 ∧ (0 : Int) ≤ 9223372036854775807 from by decide)), hS47⟩ ?_ ?_
            · intro k52 s164 ct53 f54 wd55 hk56 hb57 hI58 hbrk59 hret60
              obtain ⟨⟩ := s164
              replace hI58 : f54 1 = v_c ∧ f54 2 = (Value.pointer (some ⟨b1, 0, none⟩)) ∧ f54 5 = (Value.int .i64 ((c).length : Int)) ∧ f54 6 = (Value.int .i64 x13) ∧ f54 7 = (Value.int .i64 (k32 : Int)) ∧ f54 8 = Value.int .i64 (k52 : Int) ∧ InR .i64 (k52 : Int) ∧ St wd2 wd55 [] := hI58
              replace hb57 : p_spec_l18Fault_L3 x13 w_Orders w_Modulus w_Values c k32 k52  = some ct53 := hb57
              unfold p_spec_l18Fault_L3 at hb57
              obtain ⟨hf61, hf62, hf63, hf64, hf65, hf66, hr67, hS68⟩ := hI58
              refine W.seq (W.seq (W.region ?_))
              refine WL.val (Value.int .i64 (k52 : Int)) _ (op_move hf66) rfl ?_
              refine WL.val (Value.int .i64 ((c).length : Int)) _ (op_move hf63) rfl ?_
              refine WL.val (Value.bool (decide ((k52 : Int) < ((c).length : Int)))) _ (op_lss rfl rfl) rfl ?_
              have hl69 : (k52 : Int) < ((c).length : Int) := by omega
              refine WL.nil ?_
              show W _ _ _ _ _ _
              refine W.condT (decide ((k52 : Int) < ((c).length : Int))) rfl (decide_eq_true hl69) ?_
              refine W.skip ?_
              show W _ _ _ _ _ _
              refine W.seq ?_
              refine W.block ?_
              refine W.seq (W.region ?_)
              refine WL.val (Value.int .i64 (0 : Int)) _ (op_assign rfl) rfl ?_
              refine WL.nil ?_
              show W _ _ _ _ _ _
              obtain ⟨res71, hres72, hb57⟩ := bs hb57
              refine W.blockLoop (fun fq wq => ∃ s, res71 = Res.fin s ∧ fq 1 = v_c ∧ fq 2 = (Value.pointer (some ⟨b1, 0, none⟩)) ∧ fq 5 = (Value.int .i64 ((c).length : Int)) ∧ fq 6 = (Value.int .i64 x13) ∧ fq 7 = (Value.int .i64 (k32 : Int)) ∧ fq 8 = (Value.int .i64 (k52 : Int)) ∧ St wd2 wq []) ?_ ?_
              · refine W.forN (fun k (s : Unit) fq wq => fq 1 = v_c ∧ fq 2 = (Value.pointer (some ⟨b1, 0, none⟩)) ∧ fq 5 = (Value.int .i64 ((c).length : Int)) ∧ fq 6 = (Value.int .i64 x13) ∧ fq 7 = (Value.int .i64 (k32 : Int)) ∧ fq 8 = (Value.int .i64 (k52 : Int)) ∧ fq 9 = Value.int .i64 (k : Int) ∧ InR .i64 (k : Int) ∧ St wd2 wq []) hres72 ⟨hf61, hf62, hf63, hf64, hf65, hf66, rfl, (inR_i64.2 (show (-9223372036854775808 : Int) ≤ 0 ∧ (0 : Int) ≤ 9223372036854775807 from by decide)), hS68⟩ ?_ ?_
                · intro k73 s136 ct74 f75 wd76 hk77 hb78 hI79 hbrk80 hret81
                  obtain ⟨⟩ := s136
                  replace hI79 : f75 1 = v_c ∧ f75 2 = (Value.pointer (some ⟨b1, 0, none⟩)) ∧ f75 5 = (Value.int .i64 ((c).length : Int)) ∧ f75 6 = (Value.int .i64 x13) ∧ f75 7 = (Value.int .i64 (k32 : Int)) ∧ f75 8 = (Value.int .i64 (k52 : Int)) ∧ f75 9 = Value.int .i64 (k73 : Int) ∧ InR .i64 (k73 : Int) ∧ St wd2 wd76 [] := hI79
                  replace hb78 : p_spec_l18Fault_L4 x13 w_Orders w_Modulus w_Values c k32 k52 k73  = some ct74 := hb78
                  unfold p_spec_l18Fault_L4 at hb78
                  obtain ⟨hf82, hf83, hf84, hf85, hf86, hf87, hf88, hr89, hS90⟩ := hI79
                  refine W.seq (W.seq (W.region ?_))
                  refine WL.val (Value.int .i64 (k73 : Int)) _ (op_move hf88) rfl ?_
                  refine WL.val (Value.int .i64 ((c).length : Int)) _ (op_move hf84) rfl ?_
                  refine WL.val (Value.bool (decide ((k73 : Int) < ((c).length : Int)))) _ (op_lss rfl rfl) rfl ?_
                  have hl91 : (k73 : Int) < ((c).length : Int) := by omega
                  refine WL.nil ?_
                  show W _ _ _ _ _ _
                  refine W.condT (decide ((k73 : Int) < ((c).length : Int))) rfl (decide_eq_true hl91) ?_
                  refine W.skip ?_
                  show W _ _ _ _ _ _
                  refine W.seq ?_
                  refine W.block ?_
                  refine W.seq ?_
                  obtain ⟨x93, hj94, hb78⟩ := bs hb78
                  refine W.cutCode (fun fq wq => fq 1 = v_c ∧ fq 2 = (Value.pointer (some ⟨b1, 0, none⟩)) ∧ fq 5 = (Value.int .i64 ((c).length : Int)) ∧ fq 6 = (Value.int .i64 x13) ∧ fq 7 = (Value.int .i64 (k32 : Int)) ∧ fq 8 = (Value.int .i64 (k52 : Int)) ∧ fq 9 = (Value.int .i64 (k73 : Int)) ∧ fq 54 = Value.bool x93 ∧ St wd2 wq []) ?_ ?_
                  · refine W.region ?_
                    refine WL.val (Value.int .i64 x13) _ (op_move hf85) rfl ?_
                    refine WL.val (Value.bool (x13 == (1 : Int))) _ (op_eql rfl rfl) rfl ?_
                    refine WL.val (Value.bool (x13 == (1 : Int))) _ (op_move rfl) rfl ?_
                    rcases Bool.eq_false_or_eq_true (x13 == (1 : Int)) with hc95 | hc95
                    · replace hj94 := ip hj94 hc95
                      refine WL.grun rfl (bool_of rfl hc95) ?_
                      refine WL.val (Value.agg #[v_w_Orders, (Value.int .i64 w_Modulus), v_w_Values]) _ (op_loadBox st_32 hf83 (BoxAt.lift hS90.ext hx6) rfl rfl) rfl ?_
                      refine WL.grun rfl (bool_of rfl hc95) ?_
                      refine WL.val v_c _ (op_move hf82) rfl ?_
                      refine WL.grun rfl (bool_of rfl hc95) ?_
                      refine WL.val (Value.int .i64 (k32 : Int)) _ (op_move hf86) rfl ?_
                      refine WL.grun rfl (bool_of rfl hc95) ?_
                      refine WL.val (Value.int .i64 (k52 : Int)) _ (op_move hf87) rfl ?_
                      refine WL.grun rfl (bool_of rfl hc95) ?_
                      refine WL.val (Value.int .i64 (k73 : Int)) _ (op_move hf88) rfl ?_
                      refine WL.grun rfl (bool_of rfl hc95) ?_
                      obtain ⟨x96, hx97, hj94⟩ := bs hj94
                      refine WL.call _ (op_call fn_67 (args5 rfl rfl rfl rfl rfl)) (c_spec_l18One (Ty.lift _ (Ext.trans hE7 hS90.ext) r_w_Orders) r_w_Modulus (Ty.lift _ (Ext.trans hE7 hS90.ext) r_w_Values) (Ty.lift _ (Ext.trans hE7 hS90.ext) r_c) hr46 hr67 hr89 hx97) rfl ?_
                      rintro _ wd98 ⟨rfl, he99⟩
                      have hS101 := St.extend hS90 he99
                      replace hS101 : St wd2 wd98 [] := hS101
                      refine WL.grun rfl (bool_of rfl hc95) ?_
                      refine WL.val (Value.bool (!x96)) _ (op_not rfl) rfl ?_
                      refine WL.val (Value.bool (!x96)) _ (op_pick_t (evb_of rfl hc95) rfl) rfl ?_
                      refine WL.val (Value.bool (!x96)) _ (op_move rfl) rfl ?_
                      rcases Bool.eq_false_or_eq_true (!x96) with hc102 | hc102
                      · replace hj94 := ip hj94 hc102
                        refine WL.gskip rfl (bool_of rfl hc102) rfl ?_
                        refine WL.gskip rfl (bool_of rfl hc102) rfl ?_
                        refine WL.gskip rfl (bool_of rfl hc102) rfl ?_
                        refine WL.gskipu rfl rfl rfl ?_
                        refine WL.gskipu rfl rfl rfl ?_
                        refine WL.gskipu rfl rfl rfl ?_
                        refine WL.gskipu rfl rfl rfl ?_
                        refine WL.gskipu rfl rfl rfl ?_
                        refine WL.gskipu rfl rfl rfl ?_
                        refine WL.gskipu rfl rfl rfl ?_
                        refine WL.gskip rfl (bool_of rfl hc102) rfl ?_
                        refine WL.val (Value.bool true) _ (op_pick_t (evb_of rfl hc102) rfl) rfl ?_
                        refine WL.nil ?_
                        obtain rfl := Option.some.inj hj94
                        exact ⟨hf82, hf83, hf84, hf85, hf86, hf87, hf88, rfl, hS101⟩
                      · replace hj94 := inegb hj94 hc102
                        refine WL.grun rfl (bool_of rfl hc102) ?_
                        refine WL.val (Value.int .i64 x13) _ (op_move hf85) rfl ?_
                        refine WL.grun rfl (bool_of rfl hc102) ?_
                        refine WL.val (Value.bool (x13 == (2 : Int))) _ (op_eql rfl rfl) rfl ?_
                        refine WL.grun rfl (bool_of rfl hc102) ?_
                        refine WL.val (Value.bool (x13 == (2 : Int))) _ (op_move rfl) rfl ?_
                        rcases Bool.eq_false_or_eq_true (x13 == (2 : Int)) with hc103 | hc103
                        · replace hj94 := ip hj94 hc103
                          refine WL.grun rfl (bool_of rfl hc103) ?_
                          refine WL.val (Value.agg #[v_w_Orders, (Value.int .i64 w_Modulus), v_w_Values]) _ (op_loadBox st_32 hf83 (BoxAt.lift hS101.ext hx6) rfl rfl) rfl ?_
                          refine WL.grun rfl (bool_of rfl hc103) ?_
                          refine WL.val v_c _ (op_move hf82) rfl ?_
                          refine WL.grun rfl (bool_of rfl hc103) ?_
                          refine WL.val (Value.int .i64 (k32 : Int)) _ (op_move hf86) rfl ?_
                          refine WL.grun rfl (bool_of rfl hc103) ?_
                          refine WL.val (Value.int .i64 (k52 : Int)) _ (op_move hf87) rfl ?_
                          refine WL.grun rfl (bool_of rfl hc103) ?_
                          refine WL.val (Value.int .i64 (k73 : Int)) _ (op_move hf88) rfl ?_
                          refine WL.grun rfl (bool_of rfl hc103) ?_
                          obtain ⟨x104, hx105, hj94⟩ := bs hj94
                          refine WL.call _ (op_call fn_68 (args5 rfl rfl rfl rfl rfl)) (c_spec_l18Two (Ty.lift _ (Ext.trans hE7 hS101.ext) r_w_Orders) r_w_Modulus (Ty.lift _ (Ext.trans hE7 hS101.ext) r_w_Values) (Ty.lift _ (Ext.trans hE7 hS101.ext) r_c) hr46 hr67 hr89 hx105) rfl ?_
                          rintro _ wd106 ⟨rfl, he107⟩
                          have hS109 := St.extend hS101 he107
                          replace hS109 : St wd2 wd106 [] := hS109
                          refine WL.grun rfl (bool_of rfl hc103) ?_
                          refine WL.val (Value.bool (!x104)) _ (op_not rfl) rfl ?_
                          refine WL.grun rfl (bool_of rfl hc102) ?_
                          refine WL.val (Value.bool (!x104)) _ (op_pick_t (evb_of rfl hc103) rfl) rfl ?_
                          refine WL.val (Value.bool (!x104)) _ (op_pick_f (evb_of rfl hc102) rfl) rfl ?_
                          refine WL.nil ?_
                          obtain rfl := Option.some.inj hj94
                          exact ⟨hf82, hf83, hf84, hf85, hf86, hf87, hf88, rfl, hS109⟩
                        · replace hj94 := inegb hj94 hc103
                          refine WL.gskip rfl (bool_of rfl hc103) rfl ?_
                          refine WL.gskip rfl (bool_of rfl hc103) rfl ?_
                          refine WL.gskip rfl (bool_of rfl hc103) rfl ?_
                          refine WL.gskip rfl (bool_of rfl hc103) rfl ?_
                          refine WL.gskip rfl (bool_of rfl hc103) rfl ?_
                          refine WL.gskip rfl (bool_of rfl hc103) rfl ?_
                          refine WL.gskip rfl (bool_of rfl hc103) rfl ?_
                          refine WL.grun rfl (bool_of rfl hc102) ?_
                          refine WL.val (Value.bool false) _ (op_pick_f (evb_of rfl hc103) rfl) rfl ?_
                          refine WL.val (Value.bool false) _ (op_pick_f (evb_of rfl hc102) rfl) rfl ?_
                          refine WL.nil ?_
                          obtain rfl := Option.some.inj hj94
                          exact ⟨hf82, hf83, hf84, hf85, hf86, hf87, hf88, rfl, hS101⟩
                    · replace hj94 := inegb hj94 hc95
                      refine WL.gskip rfl (bool_of rfl hc95) rfl ?_
                      refine WL.gskip rfl (bool_of rfl hc95) rfl ?_
                      refine WL.gskip rfl (bool_of rfl hc95) rfl ?_
                      refine WL.gskip rfl (bool_of rfl hc95) rfl ?_
                      refine WL.gskip rfl (bool_of rfl hc95) rfl ?_
                      refine WL.gskip rfl (bool_of rfl hc95) rfl ?_
                      refine WL.gskip rfl (bool_of rfl hc95) rfl ?_
                      refine WL.val (Value.bool false) _ (op_pick_f (evb_of rfl hc95) rfl) rfl ?_
                      refine WL.val (Value.bool false) _ (op_move rfl) rfl ?_
                      rcases Bool.eq_false_or_eq_true false with hc110 | hc110
                      · replace hj94 := ip hj94 hc110
                        refine WL.gskip rfl (bool_of rfl hc110) rfl ?_
                        refine WL.gskip rfl (bool_of rfl hc110) rfl ?_
                        refine WL.gskip rfl (bool_of rfl hc110) rfl ?_
                        refine WL.gskipu rfl rfl rfl ?_
                        refine WL.gskipu rfl rfl rfl ?_
                        refine WL.gskipu rfl rfl rfl ?_
                        refine WL.gskipu rfl rfl rfl ?_
                        refine WL.gskipu rfl rfl rfl ?_
                        refine WL.gskipu rfl rfl rfl ?_
                        refine WL.gskipu rfl rfl rfl ?_
                        refine WL.gskip rfl (bool_of rfl hc110) rfl ?_
                        refine WL.val (Value.bool true) _ (op_pick_t (evb_of rfl hc110) rfl) rfl ?_
                        refine WL.nil ?_
                        obtain rfl := Option.some.inj hj94
                        exact ⟨hf82, hf83, hf84, hf85, hf86, hf87, hf88, rfl, hS90⟩
                      · replace hj94 := inegb hj94 hc110
                        refine WL.grun rfl (bool_of rfl hc110) ?_
                        refine WL.val (Value.int .i64 x13) _ (op_move hf85) rfl ?_
                        refine WL.grun rfl (bool_of rfl hc110) ?_
                        refine WL.val (Value.bool (x13 == (2 : Int))) _ (op_eql rfl rfl) rfl ?_
                        refine WL.grun rfl (bool_of rfl hc110) ?_
                        refine WL.val (Value.bool (x13 == (2 : Int))) _ (op_move rfl) rfl ?_
                        rcases Bool.eq_false_or_eq_true (x13 == (2 : Int)) with hc111 | hc111
                        · replace hj94 := ip hj94 hc111
                          refine WL.grun rfl (bool_of rfl hc111) ?_
                          refine WL.val (Value.agg #[v_w_Orders, (Value.int .i64 w_Modulus), v_w_Values]) _ (op_loadBox st_32 hf83 (BoxAt.lift hS90.ext hx6) rfl rfl) rfl ?_
                          refine WL.grun rfl (bool_of rfl hc111) ?_
                          refine WL.val v_c _ (op_move hf82) rfl ?_
                          refine WL.grun rfl (bool_of rfl hc111) ?_
                          refine WL.val (Value.int .i64 (k32 : Int)) _ (op_move hf86) rfl ?_
                          refine WL.grun rfl (bool_of rfl hc111) ?_
                          refine WL.val (Value.int .i64 (k52 : Int)) _ (op_move hf87) rfl ?_
                          refine WL.grun rfl (bool_of rfl hc111) ?_
                          refine WL.val (Value.int .i64 (k73 : Int)) _ (op_move hf88) rfl ?_
                          refine WL.grun rfl (bool_of rfl hc111) ?_
                          obtain ⟨x112, hx113, hj94⟩ := bs hj94
                          refine WL.call _ (op_call fn_68 (args5 rfl rfl rfl rfl rfl)) (c_spec_l18Two (Ty.lift _ (Ext.trans hE7 hS90.ext) r_w_Orders) r_w_Modulus (Ty.lift _ (Ext.trans hE7 hS90.ext) r_w_Values) (Ty.lift _ (Ext.trans hE7 hS90.ext) r_c) hr46 hr67 hr89 hx113) rfl ?_
                          rintro _ wd114 ⟨rfl, he115⟩
                          have hS117 := St.extend hS90 he115
                          replace hS117 : St wd2 wd114 [] := hS117
                          refine WL.grun rfl (bool_of rfl hc111) ?_
                          refine WL.val (Value.bool (!x112)) _ (op_not rfl) rfl ?_
                          refine WL.grun rfl (bool_of rfl hc110) ?_
                          refine WL.val (Value.bool (!x112)) _ (op_pick_t (evb_of rfl hc111) rfl) rfl ?_
                          refine WL.val (Value.bool (!x112)) _ (op_pick_f (evb_of rfl hc110) rfl) rfl ?_
                          refine WL.nil ?_
                          obtain rfl := Option.some.inj hj94
                          exact ⟨hf82, hf83, hf84, hf85, hf86, hf87, hf88, rfl, hS117⟩
                        · replace hj94 := inegb hj94 hc111
                          refine WL.gskip rfl (bool_of rfl hc111) rfl ?_
                          refine WL.gskip rfl (bool_of rfl hc111) rfl ?_
                          refine WL.gskip rfl (bool_of rfl hc111) rfl ?_
                          refine WL.gskip rfl (bool_of rfl hc111) rfl ?_
                          refine WL.gskip rfl (bool_of rfl hc111) rfl ?_
                          refine WL.gskip rfl (bool_of rfl hc111) rfl ?_
                          refine WL.gskip rfl (bool_of rfl hc111) rfl ?_
                          refine WL.grun rfl (bool_of rfl hc110) ?_
                          refine WL.val (Value.bool false) _ (op_pick_f (evb_of rfl hc111) rfl) rfl ?_
                          refine WL.val (Value.bool false) _ (op_pick_f (evb_of rfl hc110) rfl) rfl ?_
                          refine WL.nil ?_
                          obtain rfl := Option.some.inj hj94
                          exact ⟨hf82, hf83, hf84, hf85, hf86, hf87, hf88, rfl, hS90⟩
                  · intro f118 wd119 hq120
                    obtain ⟨hf121, hf122, hf123, hf124, hf125, hf126, hf127, hf128, hS129⟩ := hq120
                    show W _ _ _ _ _ _
                    refine W.cond x93 hf128 (fun hc130 => ?_) (fun hc130 => ?_)
                    · replace hb78 := ip hb78 hc130
                      refine W.seq (W.region ?_)
                      refine WL.val (Value.int .i64 x13) _ (op_move hf124) rfl ?_
                      refine WL.val (Value.int .i64 (k32 : Int)) _ (op_move hf125) rfl ?_
                      refine WL.val (Value.int .i64 (k52 : Int)) _ (op_move hf126) rfl ?_
                      refine WL.val (Value.int .i64 (k73 : Int)) _ (op_move hf127) rfl ?_
                      refine WL.litFlat (t := (Ty.i .i64)) (flat_i .i64) [(Value.int .i64 x13), (Value.int .i64 (k32 : Int)), (Value.int .i64 (k52 : Int)), (Value.int .i64 (k73 : Int))] [x13, (k32 : Int), (k52 : Int), (k73 : Int)] hS129 sl_22 rfl rfl (fillL rfl ⟨rfl, rfl, rfl, rfl, rfl, rfl, rfl, rfl, rfl, rfl, rfl, rfl, trivial⟩) rfl rfl (litL ⟨⟨rfl, hr26⟩, ⟨rfl, hr46⟩, ⟨rfl, hr67⟩, ⟨rfl, hr89⟩, trivial⟩) rfl ?_
                      intro u132 wd133 hS134 he135
                      replace hS134 : St wd2 wd133 [(Ty.sl (Ty.i .i64)).at u132 ([x13, (k32 : Int), (k52 : Int), (k73 : Int)] : (List Int))] := hS134
                      refine WL.val u132 _ (op_assign rfl) rfl ?_
                      refine WL.nil ?_
                      show W _ _ _ _ _ _
                      refine W.ret ?_
                      obtain rfl := Option.some.inj hb78
                      obtain rfl := hret81 _ rfl
                      replace hb57 := onRes_ret hb57
                      obtain rfl := Option.some.inj hb57
                      obtain rfl := hret60 _ rfl
                      replace hb37 := onRes_ret hb37
                      obtain rfl := Option.some.inj hb37
                      obtain rfl := hret40 _ rfl
                      replace hb18 := onRes_ret hb18
                      obtain rfl := Option.some.inj hb18
                      obtain rfl := hret21 _ rfl
                      replace h := onRes_ret h
                      obtain rfl := Option.some.inj h
                      show FinP _ _ _ _ _ _ _
                      exact FinP.ret _ (res1 rfl rfl) ⟨u132, rfl, (Ext.trans hE7 hS134.ext), (St.out (St.pick hS134 [0] rfl) (hE7))⟩
                    · replace hb78 := inegb hb78 hc130
                      refine W.skip ?_
                      show W _ _ _ _ _ _
                      refine W.region ?_
                      refine WL.val (Value.int .i64 (k73 : Int)) _ (op_move hf127) rfl ?_
                      refine WL.val (Value.int .i64 (w64 ((k73 : Int) + (1 : Int)))) _ (op_add rfl rfl) rfl ?_
                      refine WL.val (Value.int .i64 (w64 ((k73 : Int) + (1 : Int)))) _ (op_assign rfl) rfl ?_
                      refine WL.nil ?_
                      obtain rfl := Option.some.inj hb78
                      show ∃ s, _ = Ctl.next s ∧ _
                      exact ⟨_, rfl, hf121, hf122, hf123, hf124, hf125, hf126, (ctr_next hl91 hr9), (ctr_rng hl91 hr9), hS129⟩
                · intro s141 f137 wd138 hs139 hI140
                  obtain ⟨⟩ := s141
                  replace hI140 : f137 1 = v_c ∧ f137 2 = (Value.pointer (some ⟨b1, 0, none⟩)) ∧ f137 5 = (Value.int .i64 ((c).length : Int)) ∧ f137 6 = (Value.int .i64 x13) ∧ f137 7 = (Value.int .i64 (k32 : Int)) ∧ f137 8 = (Value.int .i64 (k52 : Int)) ∧ f137 9 = Value.int .i64 (((c).length : Nat) : Int) ∧ InR .i64 (((c).length : Nat) : Int) ∧ St wd2 wd138 [] := hI140
                  obtain ⟨hf142, hf143, hf144, hf145, hf146, hf147, hf148, hr149, hS150⟩ := hI140
                  refine W.seq (W.seq (W.region ?_))
                  refine WL.val (Value.int .i64 (((c).length : Nat) : Int)) _ (op_move hf148) rfl ?_
                  refine WL.val (Value.int .i64 ((c).length : Int)) _ (op_move hf144) rfl ?_
                  refine WL.val (Value.bool (decide ((((c).length : Nat) : Int) < ((c).length : Int)))) _ (op_lss rfl rfl) rfl ?_
                  have hl151 : ¬ (((c).length : Nat) : Int) < ((c).length : Int) := by omega
                  refine WL.nil ?_
                  show W _ _ _ _ _ _
                  refine W.condF (decide ((((c).length : Nat) : Int) < ((c).length : Int))) rfl (decide_eq_false hl151) ?_
                  refine W.exit ?_
                  show _ = _ ∧ _
                  exact ⟨rfl, _, hs139, hf142, hf143, hf144, hf145, hf146, hf147, hS150⟩
              · rintro f152 wd153 ⟨s155, rfl, hq154⟩
                replace hb57 := onRes_fin hb57
                obtain ⟨⟩ := s155
                replace hq154 : f152 1 = v_c ∧ f152 2 = (Value.pointer (some ⟨b1, 0, none⟩)) ∧ f152 5 = (Value.int .i64 ((c).length : Int)) ∧ f152 6 = (Value.int .i64 x13) ∧ f152 7 = (Value.int .i64 (k32 : Int)) ∧ f152 8 = (Value.int .i64 (k52 : Int)) ∧ St wd2 wd153 [] := hq154
                obtain ⟨hf156, hf157, hf158, hf159, hf160, hf161, hS162⟩ := hq154
                show W _ _ _ _ _ _
                refine W.region ?_
                refine WL.val (Value.int .i64 (k52 : Int)) _ (op_move hf161) rfl ?_
                refine WL.val (Value.int .i64 (w64 ((k52 : Int) + (1 : Int)))) _ (op_add rfl rfl) rfl ?_
                refine WL.val (Value.int .i64 (w64 ((k52 : Int) + (1 : Int)))) _ (op_assign rfl) rfl ?_
                refine WL.nil ?_
                obtain rfl := Option.some.inj hb57
                show ∃ s, _ = Ctl.next s ∧ _
                exact ⟨_, rfl, hf156, hf157, hf158, hf159, hf160, (ctr_next hl69 hr9), (ctr_rng hl69 hr9), hS162⟩
            · intro s169 f165 wd166 hs167 hI168
              obtain ⟨⟩ := s169
              replace hI168 : f165 1 = v_c ∧ f165 2 = (Value.pointer (some ⟨b1, 0, none⟩)) ∧ f165 5 = (Value.int .i64 ((c).length : Int)) ∧ f165 6 = (Value.int .i64 x13) ∧ f165 7 = (Value.int .i64 (k32 : Int)) ∧ f165 8 = Value.int .i64 (((c).length : Nat) : Int) ∧ InR .i64 (((c).length : Nat) : Int) ∧ St wd2 wd166 [] := hI168
              obtain ⟨hf170, hf171, hf172, hf173, hf174, hf175, hr176, hS177⟩ := hI168
              refine W.seq (W.seq (W.region ?_))
              refine WL.val (Value.int .i64 (((c).length : Nat) : Int)) _ (op_move hf175) rfl ?_
              refine WL.val (Value.int .i64 ((c).length : Int)) _ (op_move hf172) rfl ?_
              refine WL.val (Value.bool (decide ((((c).length : Nat) : Int) < ((c).length : Int)))) _ (op_lss rfl rfl) rfl ?_
              have hl178 : ¬ (((c).length : Nat) : Int) < ((c).length : Int) := by omega
              refine WL.nil ?_
              show W _ _ _ _ _ _
              refine W.condF (decide ((((c).length : Nat) : Int) < ((c).length : Int))) rfl (decide_eq_false hl178) ?_
              refine W.exit ?_
              show _ = _ ∧ _
              exact ⟨rfl, _, hs167, hf170, hf171, hf172, hf173, hf174, hS177⟩
          · rintro f179 wd180 ⟨s182, rfl, hq181⟩
            replace hb37 := onRes_fin hb37
            obtain ⟨⟩ := s182
            replace hq181 : f179 1 = v_c ∧ f179 2 = (Value.pointer (some ⟨b1, 0, none⟩)) ∧ f179 5 = (Value.int .i64 ((c).length : Int)) ∧ f179 6 = (Value.int .i64 x13) ∧ f179 7 = (Value.int .i64 (k32 : Int)) ∧ St wd2 wd180 [] := hq181
            obtain ⟨hf183, hf184, hf185, hf186, hf187, hS188⟩ := hq181
            show W _ _ _ _ _ _
            refine W.region ?_
            refine WL.val (Value.int .i64 (k32 : Int)) _ (op_move hf187) rfl ?_
            refine WL.val (Value.int .i64 (w64 ((k32 : Int) + (1 : Int)))) _ (op_add rfl rfl) rfl ?_
            refine WL.val (Value.int .i64 (w64 ((k32 : Int) + (1 : Int)))) _ (op_assign rfl) rfl ?_
            refine WL.nil ?_
            obtain rfl := Option.some.inj hb37
            show ∃ s, _ = Ctl.next s ∧ _
            exact ⟨_, rfl, hf183, hf184, hf185, hf186, (ctr_next hl48 hr9), (ctr_rng hl48 hr9), hS188⟩
        · intro s195 f191 wd192 hs193 hI194
          obtain ⟨⟩ := s195
          replace hI194 : f191 1 = v_c ∧ f191 2 = (Value.pointer (some ⟨b1, 0, none⟩)) ∧ f191 5 = (Value.int .i64 ((c).length : Int)) ∧ f191 6 = (Value.int .i64 x13) ∧ f191 7 = Value.int .i64 (((c).length : Nat) : Int) ∧ InR .i64 (((c).length : Nat) : Int) ∧ St wd2 wd192 [] := hI194
          obtain ⟨hf196, hf197, hf198, hf199, hf200, hr201, hS202⟩ := hI194
          refine W.seq (W.seq (W.region ?_))
          refine WL.val (Value.int .i64 (((c).length : Nat) : Int)) _ (op_move hf200) rfl ?_
          refine WL.val (Value.int .i64 ((c).length : Int)) _ (op_move hf198) rfl ?_
          refine WL.val (Value.bool (decide ((((c).length : Nat) : Int) < ((c).length : Int)))) _ (op_lss rfl rfl) rfl ?_
          have hl203 : ¬ (((c).length : Nat) : Int) < ((c).length : Int) := by omega
          refine WL.nil ?_
          show W _ _ _ _ _ _
          refine W.condF (decide ((((c).length : Nat) : Int) < ((c).length : Int))) rfl (decide_eq_false hl203) ?_
          refine W.exit ?_
          show _ = _ ∧ _
          exact ⟨rfl, _, hs193, hf196, hf197, hf198, hf199, hS202⟩
      · rintro f204 wd205 ⟨s207, rfl, hq206⟩
        replace hb18 := onRes_fin hb18
        obtain ⟨⟩ := s207
        replace hq206 : f204 1 = v_c ∧ f204 2 = (Value.pointer (some ⟨b1, 0, none⟩)) ∧ f204 5 = (Value.int .i64 ((c).length : Int)) ∧ f204 6 = (Value.int .i64 x13) ∧ St wd2 wd205 [] := hq206
        obtain ⟨hf208, hf209, hf210, hf211, hS212⟩ := hq206
        show W _ _ _ _ _ _
        refine W.region ?_
        refine WL.val (Value.int .i64 x13) _ (op_move hf211) rfl ?_
        refine WL.val (Value.int .i64 (w64 (x13 + (1 : Int)))) _ (op_add rfl rfl) rfl ?_
        refine WL.val (Value.int .i64 (w64 (x13 + (1 : Int)))) _ (op_assign rfl) rfl ?_
        refine WL.nil ?_
        obtain rfl := Option.some.inj hb18
        show ∃ s, _ = Ctl.next s ∧ _
        exact ⟨_, rfl, hf208, hf209, hf210, rfl, (inR_wrap _ _), hS212⟩
    · replace hb18 := inegb hb18 hc28
      refine W.exit ?_
      obtain rfl := Option.some.inj hb18
      show _ = _ ∧ _
      exact ⟨rfl, _, hbrk20 _ rfl, hS27⟩
  · rintro f215 wd216 ⟨x219, rfl, hq217⟩
    replace h := onRes_fin h
    replace hq217 : St wd2 wd216 [] := hq217
    have hS220 := hq217
    show W _ _ _ _ _ _
    refine W.seq (W.region ?_)
    refine WL.val (Value.slice none 0 0) _ (op_assign rfl) rfl ?_
    refine WL.nil ?_
    show W _ _ _ _ _ _
    refine W.ret ?_
    obtain rfl := Option.some.inj h
    show FinP _ _ _ _ _ _ _
    exact FinP.ret _ (res1 rfl rfl) ⟨(Value.slice none 0 0), rfl, (Ext.trans hE7 hS220.ext), (St.out (St.pick (St.addNil (Ty.i .i64) hS220) [0] rfl) (hE7))⟩

theorem c_impl_groupSize {w : World} {orders : (List Int)} {v_orders : Value} (r_orders : (Ty.sl (Ty.i .i64)).rep w v_orders orders) {res : Int} (h : p_impl_groupSize orders  = some res) :
    Ret Try.prog 79 #[v_orders] w (fun v w' => v = Value.int .i64 res ∧ InR .i64 res ∧ Ext w w') := by
  unfold p_impl_groupSize at h
  have hS0 : St w w [] := St.start w
  refine Ret.start (fn := Try.f79) Try.func79 rfl 24 rfl rfl ?_
  refine W.seq (W.region ?_)
  refine WL.val (Value.int .i64 (0 : Int)) _ (op_assign rfl) rfl ?_
  refine WL.nil ?_
  show W _ _ _ _ _ _
  refine W.seq (W.region ?_)
  refine WL.val (Value.int .i64 (1 : Int)) _ (op_assign rfl) rfl ?_
  refine WL.nil ?_
  show W _ _ _ _ _ _
  refine W.seq (W.seq (W.region ?_))
  refine WL.val v_orders _ (op_move rfl) rfl ?_
  have hr1 := inR_len (Ty.lift _ hS0.ext r_orders)
  refine WL.val (Value.int .i64 ((orders).length : Int)) _ (op_lenL sl_22 (Ty.lift _ hS0.ext r_orders) rfl) rfl ?_
  refine WL.val (Value.int .i64 (0 : Int)) _ (op_move rfl) rfl ?_
  refine WL.nil ?_
  show W _ _ _ _ _ _
  obtain ⟨res2, hres3, h⟩ := bs h
  refine W.blockLoop (fun fq wq => ∃ s, res2 = Res.fin s ∧ fq 0 = v_orders ∧ fq 3 = Value.int .i64 s ∧ InR .i64 s ∧ St w wq []) ?_ ?_
  · refine W.forN (fun k (s : Int) fq wq => fq 0 = v_orders ∧ fq 3 = Value.int .i64 s ∧ InR .i64 s ∧ fq 6 = v_orders ∧ fq 7 = (Value.int .i64 ((orders).length : Int)) ∧ fq 8 = Value.int .i64 (k : Int) ∧ InR .i64 (k : Int) ∧ St w wq []) hres3 ⟨rfl, rfl, (inR_i64.2 (show (-9223372036854775808 : Int) ≤ 1 ∧ (1 : Int) ≤ 9223372036854775807 from by decide)), rfl, rfl, rfl, (inR_i64.2 (show (-9223372036854775808 : Int) ≤ 0 ∧ (0 : Int) ≤ 9223372036854775807 from by decide)), hS0⟩ ?_ ?_
    · intro k4 x5 ct6 f7 wd8 hk9 hb10 hI11 hbrk12 hret13
      replace hI11 : f7 0 = v_orders ∧ f7 3 = Value.int .i64 x5 ∧ InR .i64 x5 ∧ f7 6 = v_orders ∧ f7 7 = (Value.int .i64 ((orders).length : Int)) ∧ f7 8 = Value.int .i64 (k4 : Int) ∧ InR .i64 (k4 : Int) ∧ St w wd8 [] := hI11
      replace hb10 : p_impl_groupSize_L1 orders k4 x5 = some ct6 := hb10
      unfold p_impl_groupSize_L1 at hb10
      obtain ⟨hf14, hf15, hr16, hf17, hf18, hf19, hr20, hS21⟩ := hI11
      refine W.seq (W.region ?_)
      refine WL.val (Value.bool (decide ((k4 : Int) < ((orders).length : Int)))) _ (op_lss hf19 hf18) rfl ?_
      have hl22 : (k4 : Int) < ((orders).length : Int) := by omega
      refine WL.nil ?_
      show W _ _ _ _ _ _
      refine W.seq ?_
      refine W.condT (decide ((k4 : Int) < ((orders).length : Int))) rfl (decide_eq_true hl22) ?_
      refine W.skip ?_
      show W _ _ _ _ _ _
      refine W.seq ?_
      refine W.block ?_
      refine W.seq (W.region ?_)
      obtain ⟨x24, hx27, hb10⟩ := bs hb10
      obtain ⟨ha25, hb26, hx27⟩ := idx_some hx27
      refine WL.val (Value.pointer (some (elA v_orders ((k4 : Int)).toNat))) _ (op_idx sl_22 (Ty.lift _ hS21.ext r_orders) hf17 hf19 ha25 hb26) rfl ?_
      obtain ⟨u28, hc29, hr30⟩ := repSl.el r_orders hx27
      obtain ⟨rfl, hr30⟩ := hr30
      refine WL.val (Value.int .i64 x24) _ (op_load one_2 rfl (Ext.cell hS21.ext hc29)) rfl ?_
      refine WL.val (Value.int .i64 x24) _ (op_assign rfl) rfl ?_
      refine WL.nil ?_
      show W _ _ _ _ _ _
      refine W.seq (W.seq (W.region ?_))
      refine WL.val (Value.int .i64 x24) _ (op_move rfl) rfl ?_
      refine WL.val (Value.bool (decide (x24 < (1 : Int)))) _ (op_lss rfl rfl) rfl ?_
      refine WL.nil ?_
      show W _ _ _ _ _ _
      refine W.cond (decide (x24 < (1 : Int))) rfl (fun hc31 => ?_) (fun hc31 => ?_)
      · replace hb10 := ip hb10 hc31
        refine W.seq (W.region ?_)
        refine WL.val (Value.int .i64 (0 : Int)) _ (op_assign rfl) rfl ?_
        refine WL.nil ?_
        show W _ _ _ _ _ _
        refine W.ret ?_
        obtain rfl := Option.some.inj hb10
        obtain rfl := hret13 _ rfl
        replace h := onRes_ret h
        obtain rfl := Option.some.inj h
        show FinP _ _ _ _ _ _ _
        exact FinP.ret _ (res1 rfl rfl) ⟨rfl, (inR_i64.2 (show (-9223372036854775808 : Int) ≤ 0 ∧ (0 : Int) ≤ 9223372036854775807 from by decide)), hS21.ext⟩
      · replace hb10 := inegb hb10 hc31
        refine W.skip ?_
        show W _ _ _ _ _ _
        refine W.region ?_
        refine WL.val (Value.int .i64 x5) _ (op_move hf15) rfl ?_
        refine WL.val (Value.int .i64 x24) _ (op_move rfl) rfl ?_
        refine WL.val (Value.int .i64 (if (17 : Int) < x24 then (17 : Int) else x24)) _ (op_min2 rfl rfl) rfl ?_
        refine WL.val (Value.int .i64 (w64 (x5 * (if (17 : Int) < x24 then (17 : Int) else x24)))) _ (op_mul rfl rfl) rfl ?_
        refine WL.val (Value.int .i64 (if (w64 (x5 * (if (17 : Int) < x24 then (17 : Int) else x24))) < (17 : Int) then (w64 (x5 * (if (17 : Int) < x24 then (17 : Int) else x24))) else (17 : Int))) _ (op_min2 rfl rfl) rfl ?_
        refine WL.val (Value.int .i64 (if (w64 (x5 * (if (17 : Int) < x24 then (17 : Int) else x24))) < (17 : Int) then (w64 (x5 * (if (17 : Int) < x24 then (17 : Int) else x24))) else (17 : Int))) _ (op_assign rfl) rfl ?_
        refine WL.nil ?_
        show W _ _ _ _ _ _
        refine W.region ?_
        refine WL.val (Value.int .i64 (w64 ((k4 : Int) + (1 : Int)))) _ (op_add hf19 rfl) rfl ?_
        refine WL.val (Value.int .i64 (w64 ((k4 : Int) + (1 : Int)))) _ (op_move rfl) rfl ?_
        refine WL.nil ?_
        obtain rfl := Option.some.inj hb10
        show ∃ s, _ = Ctl.next s ∧ _
        exact ⟨_, rfl, hf14, rfl, (inR_ite (inR_wrap _ _) (inR_i64.2 (show (-9223372036854775808 : Int) ≤ 17 ∧ (17 : Int) ≤ 9223372036854775807 from by decide))), hf17, hf18, (ctr_next hl22 hr1), (ctr_rng hl22 hr1), hS21⟩
    · intro x39 f34 wd35 hs36 hI37
      replace hI37 : f34 0 = v_orders ∧ f34 3 = Value.int .i64 x39 ∧ InR .i64 x39 ∧ f34 6 = v_orders ∧ f34 7 = (Value.int .i64 ((orders).length : Int)) ∧ f34 8 = Value.int .i64 (((orders).length : Nat) : Int) ∧ InR .i64 (((orders).length : Nat) : Int) ∧ St w wd35 [] := hI37
      obtain ⟨hf40, hf41, hr42, hf43, hf44, hf45, hr46, hS47⟩ := hI37
      refine W.seq (W.region ?_)
      refine WL.val (Value.bool (decide ((((orders).length : Nat) : Int) < ((orders).length : Int)))) _ (op_lss hf45 hf44) rfl ?_
      have hl48 : ¬ (((orders).length : Nat) : Int) < ((orders).length : Int) := by omega
      refine WL.nil ?_
      show W _ _ _ _ _ _
      refine W.seq ?_
      refine W.condF (decide ((((orders).length : Nat) : Int) < ((orders).length : Int))) rfl (decide_eq_false hl48) ?_
      refine W.exit ?_
      show _ = _ ∧ _
      exact ⟨rfl, _, hs36, hf40, hf41, hr42, hS47⟩
  · rintro f49 wd50 ⟨x53, rfl, hq51⟩
    replace h := onRes_fin h
    replace hq51 : f49 0 = v_orders ∧ f49 3 = Value.int .i64 x53 ∧ InR .i64 x53 ∧ St w wd50 [] := hq51
    obtain ⟨hf54, hf55, hr56, hS57⟩ := hq51
    show W _ _ _ _ _ _
    refine W.seq (W.seq (W.region ?_))
    refine WL.val v_orders _ (op_move hf54) rfl ?_
    have hr58 := inR_len (Ty.lift _ hS57.ext r_orders)
    refine WL.val (Value.int .i64 ((orders).length : Int)) _ (op_lenL sl_22 (Ty.lift _ hS57.ext r_orders) rfl) rfl ?_
    refine WL.val (Value.bool (((orders).length : Int) == (0 : Int))) _ (op_eql rfl rfl) rfl ?_
    refine WL.nil ?_
    show W _ _ _ _ _ _
    refine W.cond (((orders).length : Int) == (0 : Int)) rfl (fun hc59 => ?_) (fun hc59 => ?_)
    · replace h := ip h hc59
      refine W.seq (W.region ?_)
      refine WL.val (Value.int .i64 (0 : Int)) _ (op_assign rfl) rfl ?_
      refine WL.nil ?_
      show W _ _ _ _ _ _
      refine W.ret ?_
      obtain rfl := Option.some.inj h
      show FinP _ _ _ _ _ _ _
      exact FinP.ret _ (res1 rfl rfl) ⟨rfl, (inR_i64.2 (show (-9223372036854775808 : Int) ≤ 0 ∧ (0 : Int) ≤ 9223372036854775807 from by decide)), hS57.ext⟩
    · replace h := inegb h hc59
      refine W.skip ?_
      show W _ _ _ _ _ _
      refine W.seq (W.region ?_)
      refine WL.val (Value.int .i64 x53) _ (op_move hf55) rfl ?_
      refine WL.val (Value.int .i64 x53) _ (op_assign rfl) rfl ?_
      refine WL.nil ?_
      show W _ _ _ _ _ _
      refine W.ret ?_
      obtain rfl := Option.some.inj h
      show FinP _ _ _ _ _ _ _
      exact FinP.ret _ (res1 rfl rfl) ⟨rfl, hr56, hS57.ext⟩

theorem c_impl_within {w : World} {n : Int} {low : Int} {high : Int} (r_n : InR .i64 n) (r_low : InR .i64 low) (r_high : InR .i64 high) {res : Bool} (h : p_impl_within n low high  = some res) :
    Ret Try.prog 98 #[(Value.int .i64 n), (Value.int .i64 low), (Value.int .i64 high)] w (fun v w' => v = Value.bool res ∧ Ext w w') := by
  unfold p_impl_within at h
  have hS0 : St w w [] := St.start w
  refine Ret.start (fn := Try.f98) Try.func98 rfl 15 rfl rfl ?_
  refine W.seq (W.region ?_)
  refine WL.val (Value.bool false) _ (op_assign rfl) rfl ?_
  refine WL.nil ?_
  show W _ _ _ _ _ _
  refine W.seq (W.region ?_)
  refine WL.val (Value.int .i64 n) _ (op_move rfl) rfl ?_
  refine WL.val (Value.int .i64 low) _ (op_move rfl) rfl ?_
  refine WL.val (Value.bool (decide (n ≥ low))) _ (op_geq rfl rfl) rfl ?_
  refine WL.val (Value.bool (decide (n ≥ low))) _ (op_move rfl) rfl ?_
  refine WL.cut 4 (fun fq wq => fq 14 = (Value.bool ((decide (n ≥ low)) && (decide (n ≤ high)))) ∧ St w wq []) ?_ ?_
  · rcases Bool.eq_false_or_eq_true (decide (n ≥ low)) with hc1 | hc1
    · refine WL.grun rfl (bool_of rfl hc1) ?_
      refine WL.val (Value.int .i64 n) _ (op_move rfl) rfl ?_
      refine WL.grun rfl (bool_of rfl hc1) ?_
      refine WL.val (Value.int .i64 high) _ (op_move rfl) rfl ?_
      refine WL.grun rfl (bool_of rfl hc1) ?_
      refine WL.val (Value.bool (decide (n ≤ high))) _ (op_leq rfl rfl) rfl ?_
      refine WL.val (Value.bool (decide (n ≤ high))) _ (op_pick_t (evb_of rfl hc1) rfl) rfl ?_
      refine WL.nil ?_
      exact ⟨rfl, (andT hc1), hS0⟩
    · refine WL.gskip rfl (bool_of rfl hc1) rfl ?_
      refine WL.gskip rfl (bool_of rfl hc1) rfl ?_
      refine WL.gskip rfl (bool_of rfl hc1) rfl ?_
      refine WL.val (Value.bool false) _ (op_pick_f (evb_of rfl hc1) rfl) rfl ?_
      refine WL.nil ?_
      exact ⟨rfl, (andF hc1), hS0⟩
  · intro f2 wd3 hq4
    obtain ⟨hf5, hS6⟩ := hq4
    refine WL.val (Value.bool ((decide (n ≥ low)) && (decide (n ≤ high)))) _ (op_assign hf5) rfl ?_
    refine WL.nil ?_
    show W _ _ _ _ _ _
    refine W.ret ?_
    obtain rfl := Option.some.inj h
    show FinP _ _ _ _ _ _ _
    exact FinP.ret _ (res1 rfl rfl) ⟨rfl, hS6.ext⟩

theorem c_impl_isModulus {w : World} {m : Int} (r_m : InR .i64 m) {res : Bool} (h : p_impl_isModulus m  = some res) :
    Ret Try.prog 78 #[(Value.int .i64 m)] w (fun v w' => v = Value.bool res ∧ Ext w w') := by
  unfold p_impl_isModulus at h
  have hS0 : St w w [] := St.start w
  refine Ret.start (fn := Try.f78) Try.func78 rfl 5 rfl rfl ?_
  refine W.seq (W.region ?_)
  refine WL.val (Value.bool false) _ (op_assign rfl) rfl ?_
  refine WL.nil ?_
  show W _ _ _ _ _ _
  refine W.seq (W.region ?_)
  refine WL.val (Value.int .i64 m) _ (op_move rfl) rfl ?_
  obtain ⟨x1, hx2, h⟩ := bs h
  refine WL.call _ (op_call fn_98 (args3 rfl rfl rfl)) (c_impl_within r_m (inR_i64.2 (show (-9223372036854775808 : Int) ≤ 1 ∧ (1 : Int) ≤ 9223372036854775807 from by decide)) (inR_i64.2 (show (-9223372036854775808 : Int) ≤ 1000 ∧ (1000 : Int) ≤ 9223372036854775807 from by decide)) hx2) rfl ?_
  rintro _ wd3 ⟨rfl, he4⟩
  have hS6 := St.extend hS0 he4
  replace hS6 : St w wd3 [] := hS6
  refine WL.val (Value.bool x1) _ (op_assign rfl) rfl ?_
  refine WL.nil ?_
  show W _ _ _ _ _ _
  refine W.ret ?_
  obtain rfl := Option.some.inj h
  show FinP _ _ _ _ _ _ _
  exact FinP.ret _ (res1 rfl rfl) ⟨rfl, hS6.ext⟩

theorem c_impl_allWithin_c1 {w : World} {n : Int} {b_c0 : Nat} {c0 : Int} {b_c1 : Nat} {c1 : Int} (r_n : InR .i64 n) (k_c0 : BoxAt w b_c0 [(Value.int .i64 c0)]) (r_c0 : InR .i64 c0) (k_c1 : BoxAt w b_c1 [(Value.int .i64 c1)]) (r_c1 : InR .i64 c1) {res : Bool} (h : p_impl_allWithin_c1 n c0 c1 = some res) :
    Ret Try.prog 109 #[(Value.int .i64 n), (Value.pointer (some ⟨b_c0, 0, none⟩)), (Value.pointer (some ⟨b_c1, 0, none⟩))] w (fun v w' => v = Value.bool res ∧ Ext w w') := by
  unfold p_impl_allWithin_c1 at h
  have hS0 : St w w [] := St.start w
  refine Ret.start (fn := Try.f109) Try.func109 rfl 10 rfl rfl ?_
  refine W.seq (W.region ?_)
  refine WL.val (Value.bool false) _ (op_assign rfl) rfl ?_
  refine WL.nil ?_
  show W _ _ _ _ _ _
  refine W.seq (W.region ?_)
  refine WL.val (Value.int .i64 n) _ (op_move rfl) rfl ?_
  refine WL.val (Value.int .i64 c0) _ (op_load one_2 rfl (BoxAt.cell (BoxAt.lift hS0.ext k_c0) rfl)) rfl ?_
  refine WL.val (Value.int .i64 c1) _ (op_load one_2 rfl (BoxAt.cell (BoxAt.lift hS0.ext k_c1) rfl)) rfl ?_
  obtain ⟨x1, hx2, h⟩ := bs h
  refine WL.call _ (op_call fn_98 (args3 rfl rfl rfl)) (c_impl_within r_n r_c0 r_c1 hx2) rfl ?_
  rintro _ wd3 ⟨rfl, he4⟩
  have hS6 := St.extend hS0 he4
  replace hS6 : St w wd3 [] := hS6
  refine WL.val (Value.bool (!x1)) _ (op_not rfl) rfl ?_
  refine WL.val (Value.bool (!x1)) _ (op_assign rfl) rfl ?_
  refine WL.nil ?_
  show W _ _ _ _ _ _
  refine W.ret ?_
  obtain rfl := Option.some.inj h
  show FinP _ _ _ _ _ _ _
  exact FinP.ret _ (res1 rfl rfl) ⟨rfl, hS6.ext⟩

theorem c_slices_IndexFunc_Lint64_int64 {w : World} {s1 : (List Int)} {v_s1 : Value} {f1 : Int → Option Bool} {v_f1 : Value} (r_s1 : (Ty.sl (Ty.i .i64)).rep w v_s1 s1) (r_f1 : FnT_i_to_b Try.prog v_f1 w f1) {res : Int} (h : p_slices_IndexFunc_Lint64_int64 s1 f1  = some res) :
    Ret Try.prog 111 #[v_s1, v_f1] w (fun v w' => v = Value.int .i64 res ∧ InR .i64 res ∧ Ext w w') := by
  unfold p_slices_IndexFunc_Lint64_int64 at h
  have hS0 : St w w [] := St.start w
  have q_f1 := r_f1
  obtain ⟨g_f1, fst_f1, cap_f1, eq_f1, ok_f1, call_f1⟩ := q_f1
  subst eq_f1
  refine Ret.start (fn := Try.f111) Try.func111 rfl 19 rfl rfl ?_
  refine W.seq (W.region ?_)
  refine WL.val (Value.int .i64 (0 : Int)) _ (op_assign rfl) rfl ?_
  refine WL.nil ?_
  show W _ _ _ _ _ _
  refine W.seq (W.seq (W.region ?_))
  refine WL.val v_s1 _ (op_move rfl) rfl ?_
  have hr1 := inR_len (Ty.lift _ hS0.ext r_s1)
  refine WL.val (Value.int .i64 ((s1).length : Int)) _ (op_lenL sl_22 (Ty.lift _ hS0.ext r_s1) rfl) rfl ?_
  refine WL.val (Value.int .i64 (0 : Int)) _ (op_move rfl) rfl ?_
  refine WL.nil ?_
  show W _ _ _ _ _ _
  obtain ⟨res2, hres3, h⟩ := bs h
  refine W.blockLoop (fun fq wq => ∃ s, res2 = Res.fin s ∧ St w wq []) ?_ ?_
  · refine W.forN (fun k (s : Unit) fq wq => fq 0 = v_s1 ∧ fq 1 = (Value.func (.func g_f1) fst_f1 cap_f1) ∧ fq 7 = (Value.int .i64 ((s1).length : Int)) ∧ fq 8 = Value.int .i64 (k : Int) ∧ InR .i64 (k : Int) ∧ St w wq []) hres3 ⟨rfl, rfl, rfl, rfl, (inR_i64.2 (show (-9223372036854775808 : Int) ≤ 0 ∧ (0 : Int) ≤ 9223372036854775807 from by decide)), hS0⟩ ?_ ?_
    · intro k4 s36 ct5 f6 wd7 hk8 hb9 hI10 hbrk11 hret12
      obtain ⟨⟩ := s36
      replace hI10 : f6 0 = v_s1 ∧ f6 1 = (Value.func (.func g_f1) fst_f1 cap_f1) ∧ f6 7 = (Value.int .i64 ((s1).length : Int)) ∧ f6 8 = Value.int .i64 (k4 : Int) ∧ InR .i64 (k4 : Int) ∧ St w wd7 [] := hI10
      replace hb9 : p_slices_IndexFunc_Lint64_int64_L1 s1 f1 k4  = some ct5 := hb9
      unfold p_slices_IndexFunc_Lint64_int64_L1 at hb9
      obtain ⟨hf13, hf14, hf15, hf16, hr17, hS18⟩ := hI10
      refine W.seq (W.region ?_)
      refine WL.val (Value.bool (decide ((k4 : Int) < ((s1).length : Int)))) _ (op_lss hf16 hf15) rfl ?_
      have hl19 : (k4 : Int) < ((s1).length : Int) := by omega
      refine WL.nil ?_
      show W _ _ _ _ _ _
      refine W.seq ?_
      refine W.condT (decide ((k4 : Int) < ((s1).length : Int))) rfl (decide_eq_true hl19) ?_
      refine W.skip ?_
      show W _ _ _ _ _ _
      refine W.seq ?_
      refine W.block ?_
      refine W.seq (W.region ?_)
      refine WL.val (Value.int .i64 (k4 : Int)) _ (op_move hf16) rfl ?_
      refine WL.val (Value.int .i64 (k4 : Int)) _ (op_assign rfl) rfl ?_
      refine WL.nil ?_
      show W _ _ _ _ _ _
      refine W.seq (W.region ?_)
      refine WL.val (Value.func (.func g_f1) fst_f1 cap_f1) _ (op_move hf14) rfl ?_
      refine WL.val v_s1 _ (op_move hf13) rfl ?_
      refine WL.val (Value.int .i64 (k4 : Int)) _ (op_move rfl) rfl ?_
      obtain ⟨x21, hx24, hb9⟩ := bs hb9
      obtain ⟨ha22, hb23, hx24⟩ := idx_some hx24
      refine WL.val (Value.pointer (some (elA v_s1 ((k4 : Int)).toNat))) _ (op_idx sl_22 (Ty.lift _ hS18.ext r_s1) rfl rfl ha22 hb23) rfl ?_
      obtain ⟨u25, hc26, hr27⟩ := repSl.el r_s1 hx24
      obtain ⟨rfl, hr27⟩ := hr27
      refine WL.val (Value.int .i64 x21) _ (op_load one_2 rfl (Ext.cell hS18.ext hc26)) rfl ?_
      obtain ⟨x28, hx29, hb9⟩ := bs hb9
      refine WL.call _ (op_callV rfl ok_f1 (args1 rfl)) (call_f1 wd7 x21 x28 hS18.ext hr27 hx29) rfl ?_
      rintro _ wd30 ⟨rfl, he31⟩
      have hS33 := St.extend hS18 he31
      refine WL.nil ?_
      show W _ _ _ _ _ _
      refine W.cond x28 rfl (fun hc34 => ?_) (fun hc34 => ?_)
      · replace hb9 := ip hb9 hc34
        refine W.seq (W.region ?_)
        refine WL.val (Value.int .i64 (k4 : Int)) _ (op_move rfl) rfl ?_
        refine WL.val (Value.int .i64 (k4 : Int)) _ (op_assign rfl) rfl ?_
        refine WL.nil ?_
        show W _ _ _ _ _ _
        refine W.ret ?_
        obtain rfl := Option.some.inj hb9
        obtain rfl := hret12 _ rfl
        replace h := onRes_ret h
        obtain rfl := Option.some.inj h
        show FinP _ _ _ _ _ _ _
        exact FinP.ret _ (res1 rfl rfl) ⟨rfl, hr17, hS33.ext⟩
      · replace hb9 := inegb hb9 hc34
        refine W.skip ?_
        show W _ _ _ _ _ _
        refine W.region ?_
        refine WL.val (Value.int .i64 (w64 ((k4 : Int) + (1 : Int)))) _ (op_add hf16 rfl) rfl ?_
        refine WL.val (Value.int .i64 (w64 ((k4 : Int) + (1 : Int)))) _ (op_move rfl) rfl ?_
        refine WL.nil ?_
        obtain rfl := Option.some.inj hb9
        show ∃ s, _ = Ctl.next s ∧ _
        exact ⟨_, rfl, hf13, hf14, hf15, (ctr_next hl19 hr1), (ctr_rng hl19 hr1), hS33⟩
    · intro s41 f37 wd38 hs39 hI40
      obtain ⟨⟩ := s41
      replace hI40 : f37 0 = v_s1 ∧ f37 1 = (Value.func (.func g_f1) fst_f1 cap_f1) ∧ f37 7 = (Value.int .i64 ((s1).length : Int)) ∧ f37 8 = Value.int .i64 (((s1).length : Nat) : Int) ∧ InR .i64 (((s1).length : Nat) : Int) ∧ St w wd38 [] := hI40
      obtain ⟨hf42, hf43, hf44, hf45, hr46, hS47⟩ := hI40
      refine W.seq (W.region ?_)
      refine WL.val (Value.bool (decide ((((s1).length : Nat) : Int) < ((s1).length : Int)))) _ (op_lss hf45 hf44) rfl ?_
      have hl48 : ¬ (((s1).length : Nat) : Int) < ((s1).length : Int) := by omega
      refine WL.nil ?_
      show W _ _ _ _ _ _
      refine W.seq ?_
      refine W.condF (decide ((((s1).length : Nat) : Int) < ((s1).length : Int))) rfl (decide_eq_false hl48) ?_
      refine W.exit ?_
      show _ = _ ∧ _
      exact ⟨rfl, _, hs39, hS47⟩
  · rintro f49 wd50 ⟨s52, rfl, hq51⟩
    replace h := onRes_fin h
    obtain ⟨⟩ := s52
    replace hq51 : St w wd50 [] := hq51
    have hS53 := hq51
    show W _ _ _ _ _ _
    refine W.seq (W.region ?_)
    refine WL.val (Value.int .i64 (-1 : Int)) _ (op_assign rfl) rfl ?_
    refine WL.nil ?_
    show W _ _ _ _ _ _
    refine W.ret ?_
    obtain rfl := Option.some.inj h
    show FinP _ _ _ _ _ _ _
    exact FinP.ret _ (res1 rfl rfl) ⟨rfl, (inR_i64.2 (show (-9223372036854775808 : Int) ≤ -1 ∧ (-1 : Int) ≤ 9223372036854775807 from by decide)), hS53.ext⟩

theorem c_slices_ContainsFunc_Lint64_int64 {w : World} {s1 : (List Int)} {v_s1 : Value} {f1 : Int → Option Bool} {v_f1 : Value} (r_s1 : (Ty.sl (Ty.i .i64)).rep w v_s1 s1) (r_f1 : FnT_i_to_b Try.prog v_f1 w f1) {res : Bool} (h : p_slices_ContainsFunc_Lint64_int64 s1 f1  = some res) :
    Ret Try.prog 108 #[v_s1, v_f1] w (fun v w' => v = Value.bool res ∧ Ext w w') := by
  unfold p_slices_ContainsFunc_Lint64_int64 at h
  have hS0 : St w w [] := St.start w
  have q_f1 := r_f1
  obtain ⟨g_f1, fst_f1, cap_f1, eq_f1, ok_f1, call_f1⟩ := q_f1
  subst eq_f1
  refine Ret.start (fn := Try.f108) Try.func108 rfl 9 rfl rfl ?_
  refine W.seq (W.region ?_)
  refine WL.val (Value.bool false) _ (op_assign rfl) rfl ?_
  refine WL.nil ?_
  show W _ _ _ _ _ _
  refine W.seq (W.region ?_)
  refine WL.val v_s1 _ (op_move rfl) rfl ?_
  refine WL.val (Value.func (.func g_f1) fst_f1 cap_f1) _ (op_move rfl) rfl ?_
  obtain ⟨x1, hx2, h⟩ := bs h
  refine WL.call _ (op_call fn_111 (args2 rfl rfl)) (c_slices_IndexFunc_Lint64_int64 (Ty.lift _ hS0.ext r_s1) (FnT_i_to_b.lift hS0.ext r_f1) hx2) rfl ?_
  rintro _ wd4 ⟨rfl, hr3, he5⟩
  have hS7 := St.extend hS0 he5
  replace hS7 : St w wd4 [] := hS7
  refine WL.val (Value.bool (decide (x1 ≥ (0 : Int)))) _ (op_geq rfl rfl) rfl ?_
  refine WL.val (Value.bool (decide (x1 ≥ (0 : Int)))) _ (op_assign rfl) rfl ?_
  refine WL.nil ?_
  show W _ _ _ _ _ _
  refine W.ret ?_
  obtain rfl := Option.some.inj h
  show FinP _ _ _ _ _ _ _
  exact FinP.ret _ (res1 rfl rfl) ⟨rfl, hS7.ext⟩

theorem c_impl_allWithin {w : World} {list : (List Int)} {v_list : Value} {low : Int} {high : Int} (r_list : (Ty.sl (Ty.i .i64)).rep w v_list list) (r_low : InR .i64 low) (r_high : InR .i64 high) {res : Bool} (h : p_impl_allWithin list low high  = some res) :
    Ret Try.prog 105 #[v_list, (Value.int .i64 low), (Value.int .i64 high)] w (fun v w' => v = Value.bool res ∧ Ext w w') := by
  unfold p_impl_allWithin at h
  have hS0 : St w w [] := St.start w
  refine Ret.start (fn := Try.f105) Try.func105 rfl 11 rfl rfl ?_
  refine W.seq (W.region ?_)
  refine WL.box hS0 rfl (cs := [(Value.int .i64 low)]) rfl rfl ?_
  intro b1 wd2 hS3 he4 hx5
  replace hS3 : St w wd2 [bx b1 [(Value.int .i64 low)]] := hS3
  have hx6 := St.boxAt hS3 0 rfl
  have hE7 : Ext w wd2 := hS3.ext
  have hS8 : St wd2 wd2 [] := St.start wd2
  refine WL.box hS8 rfl (cs := [(Value.int .i64 high)]) rfl rfl ?_
  intro b9 wd10 hS11 he12 hx13
  replace hS11 : St wd2 wd10 [bx b9 [(Value.int .i64 high)]] := hS11
  have hx14 := St.boxAt hS11 0 rfl
  have hE15 : Ext w wd10 := (Ext.trans hE7 hS11.ext)
  have hE16 : Ext wd2 wd10 := hS11.ext
  have hS17 : St wd10 wd10 [] := St.start wd10
  refine WL.val (Value.bool false) _ (op_assign rfl) rfl ?_
  refine WL.nil ?_
  show W _ _ _ _ _ _
  refine W.seq (W.region ?_)
  refine WL.val v_list _ (op_move rfl) rfl ?_
  refine WL.val (Value.func (.func 109) #[] #[(Value.pointer (some ⟨b1, 0, none⟩)), (Value.pointer (some ⟨b9, 0, none⟩))]) _ (op_makeFunc (va := #[]) (vb := #[(Value.pointer (some ⟨b1, 0, none⟩)), (Value.pointer (some ⟨b9, 0, none⟩))]) args0 (args2 rfl rfl)) rfl ?_
  obtain ⟨x22, hx23, h⟩ := bs h
  refine WL.call _ (op_call fn_108 (args2 rfl rfl)) (c_slices_ContainsFunc_Lint64_int64 (Ty.lift _ (Ext.trans hE15 hS17.ext) r_list) (⟨109, #[], #[(Value.pointer (some ⟨b1, 0, none⟩)), (Value.pointer (some ⟨b9, 0, none⟩))], rfl, fn_109, fun wd18 a0_19 r20 he19 ra0_19 hq21 => c_impl_allWithin_c1 ra0_19 (BoxAt.lift (Ext.trans (Ext.trans hE16 hS17.ext) he19) hx6) r_low (BoxAt.lift (Ext.trans hS17.ext he19) hx14) r_high hq21⟩) hx23) rfl ?_
  rintro _ wd24 ⟨rfl, he25⟩
  have hS27 := St.extend hS17 he25
  replace hS27 : St wd10 wd24 [] := hS27
  refine WL.val (Value.bool (!x22)) _ (op_not rfl) rfl ?_
  refine WL.val (Value.bool (!x22)) _ (op_assign rfl) rfl ?_
  refine WL.nil ?_
  show W _ _ _ _ _ _
  refine W.ret ?_
  obtain rfl := Option.some.inj h
  show FinP _ _ _ _ _ _ _
  exact FinP.ret _ (res1 rfl rfl) ⟨rfl, (Ext.trans hE15 hS27.ext)⟩

theorem c_impl_isGrid_c1 {w : World} {row : (List Int)} {v_row : Value} {b_c0 : Nat} {c0 : Int} {b_c1 : Nat} {c1 : Int} (r_row : (Ty.sl (Ty.i .i64)).rep w v_row row) (k_c0 : BoxAt w b_c0 [(Value.int .i64 c0)]) (r_c0 : InR .i64 c0) (k_c1 : BoxAt w b_c1 [(Value.int .i64 c1)]) (r_c1 : InR .i64 c1) {res : Bool} (h : p_impl_isGrid_c1 row c0 c1 = some res) :
    Ret Try.prog 104 #[v_row, (Value.pointer (some ⟨b_c0, 0, none⟩)), (Value.pointer (some ⟨b_c1, 0, none⟩))] w (fun v w' => v = Value.bool res ∧ Ext w w') := by
  unfold p_impl_isGrid_c1 at h
  have hS0 : St w w [] := St.start w
  refine Ret.start (fn := Try.f104) Try.func104 rfl 16 rfl rfl ?_
  refine W.seq (W.region ?_)
  refine WL.val (Value.bool false) _ (op_assign rfl) rfl ?_
  refine WL.nil ?_
  show W _ _ _ _ _ _
  refine W.seq (W.region ?_)
  refine WL.val v_row _ (op_move rfl) rfl ?_
  have hr1 := inR_len (Ty.lift _ hS0.ext r_row)
  refine WL.val (Value.int .i64 ((row).length : Int)) _ (op_lenL sl_22 (Ty.lift _ hS0.ext r_row) rfl) rfl ?_
  refine WL.val (Value.int .i64 c0) _ (op_load one_3 rfl (BoxAt.cell (BoxAt.lift hS0.ext k_c0) rfl)) rfl ?_
  refine WL.val (Value.bool (((row).length : Int) != c0)) _ (op_neq rfl rfl) rfl ?_
  refine WL.val (Value.bool (((row).length : Int) != c0)) _ (op_move rfl) rfl ?_
  obtain ⟨x3, hj4, h⟩ := bs h
  refine WL.cut 6 (fun fq wq => fq 15 = Value.bool x3 ∧ St w wq []) ?_ ?_
  · rcases Bool.eq_false_or_eq_true (((row).length : Int) != c0) with hc2 | hc2
    · replace hj4 := ip hj4 hc2
      refine WL.gskip rfl (bool_of rfl hc2) rfl ?_
      refine WL.gskip rfl (bool_of rfl hc2) rfl ?_
      refine WL.gskip rfl (bool_of rfl hc2) rfl ?_
      refine WL.gskip rfl (bool_of rfl hc2) rfl ?_
      refine WL.gskip rfl (bool_of rfl hc2) rfl ?_
      refine WL.val (Value.bool true) _ (op_pick_t (evb_of rfl hc2) rfl) rfl ?_
      refine WL.nil ?_
      obtain rfl := Option.some.inj hj4
      exact ⟨rfl, rfl, hS0⟩
    · replace hj4 := inegb hj4 hc2
      refine WL.grun rfl (bool_of rfl hc2) ?_
      refine WL.val v_row _ (op_move rfl) rfl ?_
      refine WL.grun rfl (bool_of rfl hc2) ?_
      refine WL.val (Value.int .i64 c1) _ (op_load one_2 rfl (BoxAt.cell (BoxAt.lift hS0.ext k_c1) rfl)) rfl ?_
      refine WL.grun rfl (bool_of rfl hc2) ?_
      refine WL.val (Value.int .i64 (w64 (c1 - (1 : Int)))) _ (op_sub rfl rfl) rfl ?_
      refine WL.grun rfl (bool_of rfl hc2) ?_
      obtain ⟨x8, hx9, hj4⟩ := bs hj4
      refine WL.call _ (op_call fn_105 (args3 rfl rfl rfl)) (c_impl_allWithin (Ty.lift _ hS0.ext r_row) (inR_i64.2 (show (-9223372036854775808 : Int) ≤ 0 ∧ (0 : Int) ≤ 9223372036854775807 from by decide)) (inR_wrap _ _) hx9) rfl ?_
      rintro _ wd10 ⟨rfl, he11⟩
      have hS13 := St.extend hS0 he11
      replace hS13 : St w wd10 [] := hS13
      refine WL.grun rfl (bool_of rfl hc2) ?_
      refine WL.val (Value.bool (!x8)) _ (op_not rfl) rfl ?_
      refine WL.val (Value.bool (!x8)) _ (op_pick_f (evb_of rfl hc2) rfl) rfl ?_
      refine WL.nil ?_
      obtain rfl := Option.some.inj hj4
      exact ⟨rfl, rfl, hS13⟩
  · intro f5 wd6 hq7
    obtain ⟨hf14, hS15⟩ := hq7
    refine WL.val (Value.bool x3) _ (op_assign hf14) rfl ?_
    refine WL.nil ?_
    show W _ _ _ _ _ _
    refine W.ret ?_
    obtain rfl := Option.some.inj h
    show FinP _ _ _ _ _ _ _
    exact FinP.ret _ (res1 rfl rfl) ⟨rfl, hS15.ext⟩

theorem c_slices_IndexFunc_LLint64_Lint64 {w : World} {s1 : (List (List Int))} {v_s1 : Value} {f1 : (List Int) → Option Bool} {v_f1 : Value} (r_s1 : (Ty.sl (Ty.sl (Ty.i .i64))).rep w v_s1 s1) (r_f1 : FnT_li_to_b Try.prog v_f1 w f1) {res : Int} (h : p_slices_IndexFunc_LLint64_Lint64 s1 f1  = some res) :
    Ret Try.prog 92 #[v_s1, v_f1] w (fun v w' => v = Value.int .i64 res ∧ InR .i64 res ∧ Ext w w') := by
  unfold p_slices_IndexFunc_LLint64_Lint64 at h
  have hS0 : St w w [] := St.start w
  have q_f1 := r_f1
  obtain ⟨g_f1, fst_f1, cap_f1, eq_f1, ok_f1, call_f1⟩ := q_f1
  subst eq_f1
  refine Ret.start (fn := Try.f92) Try.func92 rfl 19 rfl rfl ?_
  refine W.seq (W.region ?_)
  refine WL.val (Value.int .i64 (0 : Int)) _ (op_assign rfl) rfl ?_
  refine WL.nil ?_
  show W _ _ _ _ _ _
  refine W.seq (W.seq (W.region ?_))
  refine WL.val v_s1 _ (op_move rfl) rfl ?_
  have hr1 := inR_len (Ty.lift _ hS0.ext r_s1)
  refine WL.val (Value.int .i64 ((s1).length : Int)) _ (op_lenL sl_26 (Ty.lift _ hS0.ext r_s1) rfl) rfl ?_
  refine WL.val (Value.int .i64 (0 : Int)) _ (op_move rfl) rfl ?_
  refine WL.nil ?_
  show W _ _ _ _ _ _
  obtain ⟨res2, hres3, h⟩ := bs h
  refine W.blockLoop (fun fq wq => ∃ s, res2 = Res.fin s ∧ St w wq []) ?_ ?_
  · refine W.forN (fun k (s : Unit) fq wq => fq 0 = v_s1 ∧ fq 1 = (Value.func (.func g_f1) fst_f1 cap_f1) ∧ fq 7 = (Value.int .i64 ((s1).length : Int)) ∧ fq 8 = Value.int .i64 (k : Int) ∧ InR .i64 (k : Int) ∧ St w wq []) hres3 ⟨rfl, rfl, rfl, rfl, (inR_i64.2 (show (-9223372036854775808 : Int) ≤ 0 ∧ (0 : Int) ≤ 9223372036854775807 from by decide)), hS0⟩ ?_ ?_
    · intro k4 s36 ct5 f6 wd7 hk8 hb9 hI10 hbrk11 hret12
      obtain ⟨⟩ := s36
      replace hI10 : f6 0 = v_s1 ∧ f6 1 = (Value.func (.func g_f1) fst_f1 cap_f1) ∧ f6 7 = (Value.int .i64 ((s1).length : Int)) ∧ f6 8 = Value.int .i64 (k4 : Int) ∧ InR .i64 (k4 : Int) ∧ St w wd7 [] := hI10
      replace hb9 : p_slices_IndexFunc_LLint64_Lint64_L1 s1 f1 k4  = some ct5 := hb9
      unfold p_slices_IndexFunc_LLint64_Lint64_L1 at hb9
      obtain ⟨hf13, hf14, hf15, hf16, hr17, hS18⟩ := hI10
      refine W.seq (W.region ?_)
      refine WL.val (Value.bool (decide ((k4 : Int) < ((s1).length : Int)))) _ (op_lss hf16 hf15) rfl ?_
      have hl19 : (k4 : Int) < ((s1).length : Int) := by omega
      refine WL.nil ?_
      show W _ _ _ _ _ _
      refine W.seq ?_
      refine W.condT (decide ((k4 : Int) < ((s1).length : Int))) rfl (decide_eq_true hl19) ?_
      refine W.skip ?_
      show W _ _ _ _ _ _
      refine W.seq ?_
      refine W.block ?_
      refine W.seq (W.region ?_)
      refine WL.val (Value.int .i64 (k4 : Int)) _ (op_move hf16) rfl ?_
      refine WL.val (Value.int .i64 (k4 : Int)) _ (op_assign rfl) rfl ?_
      refine WL.nil ?_
      show W _ _ _ _ _ _
      refine W.seq (W.region ?_)
      refine WL.val (Value.func (.func g_f1) fst_f1 cap_f1) _ (op_move hf14) rfl ?_
      refine WL.val v_s1 _ (op_move hf13) rfl ?_
      refine WL.val (Value.int .i64 (k4 : Int)) _ (op_move rfl) rfl ?_
      obtain ⟨x21, hx24, hb9⟩ := bs hb9
      obtain ⟨ha22, hb23, hx24⟩ := idx_some hx24
      refine WL.val (Value.pointer (some (elA v_s1 ((k4 : Int)).toNat))) _ (op_idx sl_26 (Ty.lift _ hS18.ext r_s1) rfl rfl ha22 hb23) rfl ?_
      obtain ⟨u25, hc26, hr27⟩ := repSl.el r_s1 hx24
      refine WL.val u25 _ (op_load one_22 rfl (Ext.cell hS18.ext hc26)) rfl ?_
      obtain ⟨x28, hx29, hb9⟩ := bs hb9
      refine WL.call _ (op_callV rfl ok_f1 (args1 rfl)) (call_f1 wd7 u25 x21 x28 hS18.ext (Ty.lift _ hS18.ext hr27) hx29) rfl ?_
      rintro _ wd30 ⟨rfl, he31⟩
      have hS33 := St.extend hS18 he31
      refine WL.nil ?_
      show W _ _ _ _ _ _
      refine W.cond x28 rfl (fun hc34 => ?_) (fun hc34 => ?_)
      · replace hb9 := ip hb9 hc34
        refine W.seq (W.region ?_)
        refine WL.val (Value.int .i64 (k4 : Int)) _ (op_move rfl) rfl ?_
        refine WL.val (Value.int .i64 (k4 : Int)) _ (op_assign rfl) rfl ?_
        refine WL.nil ?_
        show W _ _ _ _ _ _
        refine W.ret ?_
        obtain rfl := Option.some.inj hb9
        obtain rfl := hret12 _ rfl
        replace h := onRes_ret h
        obtain rfl := Option.some.inj h
        show FinP _ _ _ _ _ _ _
        exact FinP.ret _ (res1 rfl rfl) ⟨rfl, hr17, hS33.ext⟩
      · replace hb9 := inegb hb9 hc34
        refine W.skip ?_
        show W _ _ _ _ _ _
        refine W.region ?_
        refine WL.val (Value.int .i64 (w64 ((k4 : Int) + (1 : Int)))) _ (op_add hf16 rfl) rfl ?_
        refine WL.val (Value.int .i64 (w64 ((k4 : Int) + (1 : Int)))) _ (op_move rfl) rfl ?_
        refine WL.nil ?_
        obtain rfl := Option.some.inj hb9
        show ∃ s, _ = Ctl.next s ∧ _
        exact ⟨_, rfl, hf13, hf14, hf15, (ctr_next hl19 hr1), (ctr_rng hl19 hr1), hS33⟩
    · intro s41 f37 wd38 hs39 hI40
      obtain ⟨⟩ := s41
      replace hI40 : f37 0 = v_s1 ∧ f37 1 = (Value.func (.func g_f1) fst_f1 cap_f1) ∧ f37 7 = (Value.int .i64 ((s1).length : Int)) ∧ f37 8 = Value.int .i64 (((s1).length : Nat) : Int) ∧ InR .i64 (((s1).length : Nat) : Int) ∧ St w wd38 [] := hI40
      obtain ⟨hf42, hf43, hf44, hf45, hr46, hS47⟩ := hI40
      refine W.seq (W.region ?_)
      refine WL.val (Value.bool (decide ((((s1).length : Nat) : Int) < ((s1).length : Int)))) _ (op_lss hf45 hf44) rfl ?_
      have hl48 : ¬ (((s1).length : Nat) : Int) < ((s1).length : Int) := by omega
      refine WL.nil ?_
      show W _ _ _ _ _ _
      refine W.seq ?_
      refine W.condF (decide ((((s1).length : Nat) : Int) < ((s1).length : Int))) rfl (decide_eq_false hl48) ?_
      refine W.exit ?_
      show _ = _ ∧ _
      exact ⟨rfl, _, hs39, hS47⟩
  · rintro f49 wd50 ⟨s52, rfl, hq51⟩
    replace h := onRes_fin h
    obtain ⟨⟩ := s52
    replace hq51 : St w wd50 [] := hq51
    have hS53 := hq51
    show W _ _ _ _ _ _
    refine W.seq (W.region ?_)
    refine WL.val (Value.int .i64 (-1 : Int)) _ (op_assign rfl) rfl ?_
    refine WL.nil ?_
    show W _ _ _ _ _ _
    refine W.ret ?_
    obtain rfl := Option.some.inj h
    show FinP _ _ _ _ _ _ _
    exact FinP.ret _ (res1 rfl rfl) ⟨rfl, (inR_i64.2 (show (-9223372036854775808 : Int) ≤ -1 ∧ (-1 : Int) ≤ 9223372036854775807 from by decide)), hS53.ext⟩

theorem c_slices_ContainsFunc_LLint64_Lint64 {w : World} {s1 : (List (List Int))} {v_s1 : Value} {f1 : (List Int) → Option Bool} {v_f1 : Value} (r_s1 : (Ty.sl (Ty.sl (Ty.i .i64))).rep w v_s1 s1) (r_f1 : FnT_li_to_b Try.prog v_f1 w f1) {res : Bool} (h : p_slices_ContainsFunc_LLint64_Lint64 s1 f1  = some res) :
    Ret Try.prog 103 #[v_s1, v_f1] w (fun v w' => v = Value.bool res ∧ Ext w w') := by
  unfold p_slices_ContainsFunc_LLint64_Lint64 at h
  have hS0 : St w w [] := St.start w
  have q_f1 := r_f1
  obtain ⟨g_f1, fst_f1, cap_f1, eq_f1, ok_f1, call_f1⟩ := q_f1
  subst eq_f1
  refine Ret.start (fn := Try.f103) Try.func103 rfl 9 rfl rfl ?_
  refine W.seq (W.region ?_)
  refine WL.val (Value.bool false) _ (op_assign rfl) rfl ?_
  refine WL.nil ?_
  show W _ _ _ _ _ _
  refine W.seq (W.region ?_)
  refine WL.val v_s1 _ (op_move rfl) rfl ?_
  refine WL.val (Value.func (.func g_f1) fst_f1 cap_f1) _ (op_move rfl) rfl ?_
  obtain ⟨x1, hx2, h⟩ := bs h
  refine WL.call _ (op_call fn_92 (args2 rfl rfl)) (c_slices_IndexFunc_LLint64_Lint64 (Ty.lift _ hS0.ext r_s1) (FnT_li_to_b.lift hS0.ext r_f1) hx2) rfl ?_
  rintro _ wd4 ⟨rfl, hr3, he5⟩
  have hS7 := St.extend hS0 he5
  replace hS7 : St w wd4 [] := hS7
  refine WL.val (Value.bool (decide (x1 ≥ (0 : Int)))) _ (op_geq rfl rfl) rfl ?_
  refine WL.val (Value.bool (decide (x1 ≥ (0 : Int)))) _ (op_assign rfl) rfl ?_
  refine WL.nil ?_
  show W _ _ _ _ _ _
  refine W.ret ?_
  obtain rfl := Option.some.inj h
  show FinP _ _ _ _ _ _ _
  exact FinP.ret _ (res1 rfl rfl) ⟨rfl, hS7.ext⟩

theorem c_impl_isGrid {w : World} {rows : (List (List Int))} {v_rows : Value} {n : Int} {m : Int} (r_rows : (Ty.sl (Ty.sl (Ty.i .i64))).rep w v_rows rows) (r_n : InR .i64 n) (r_m : InR .i64 m) {res : Bool} (h : p_impl_isGrid rows n m  = some res) :
    Ret Try.prog 96 #[v_rows, (Value.int .i64 n), (Value.int .i64 m)] w (fun v w' => v = Value.bool res ∧ Ext w w') := by
  unfold p_impl_isGrid at h
  have hS0 : St w w [] := St.start w
  refine Ret.start (fn := Try.f96) Try.func96 rfl 17 rfl rfl ?_
  refine W.seq (W.region ?_)
  refine WL.box hS0 rfl (cs := [(Value.int .i64 n)]) rfl rfl ?_
  intro b1 wd2 hS3 he4 hx5
  replace hS3 : St w wd2 [bx b1 [(Value.int .i64 n)]] := hS3
  have hx6 := St.boxAt hS3 0 rfl
  have hE7 : Ext w wd2 := hS3.ext
  have hS8 : St wd2 wd2 [] := St.start wd2
  refine WL.box hS8 rfl (cs := [(Value.int .i64 m)]) rfl rfl ?_
  intro b9 wd10 hS11 he12 hx13
  replace hS11 : St wd2 wd10 [bx b9 [(Value.int .i64 m)]] := hS11
  have hx14 := St.boxAt hS11 0 rfl
  have hE15 : Ext w wd10 := (Ext.trans hE7 hS11.ext)
  have hE16 : Ext wd2 wd10 := hS11.ext
  have hS17 : St wd10 wd10 [] := St.start wd10
  refine WL.val (Value.bool false) _ (op_assign rfl) rfl ?_
  refine WL.nil ?_
  show W _ _ _ _ _ _
  refine W.seq (W.region ?_)
  refine WL.val v_rows _ (op_move rfl) rfl ?_
  have hr18 := inR_len (Ty.lift _ (Ext.trans hE15 hS17.ext) r_rows)
  refine WL.val (Value.int .i64 ((rows).length : Int)) _ (op_lenL sl_26 (Ty.lift _ (Ext.trans hE15 hS17.ext) r_rows) rfl) rfl ?_
  refine WL.val (Value.int .i64 n) _ (op_load one_3 rfl (BoxAt.cell (BoxAt.lift (Ext.trans hE16 hS17.ext) hx6) rfl)) rfl ?_
  refine WL.val (Value.bool (((rows).length : Int) == n)) _ (op_eql rfl rfl) rfl ?_
  refine WL.val (Value.bool (((rows).length : Int) == n)) _ (op_move rfl) rfl ?_
  obtain ⟨x20, hj21, h⟩ := bs h
  refine WL.cut 5 (fun fq wq => fq 16 = Value.bool x20 ∧ St wd10 wq []) ?_ ?_
  · rcases Bool.eq_false_or_eq_true (((rows).length : Int) == n) with hc19 | hc19
    · replace hj21 := ip hj21 hc19
      refine WL.grun rfl (bool_of rfl hc19) ?_
      refine WL.val v_rows _ (op_move rfl) rfl ?_
      refine WL.grun rfl (bool_of rfl hc19) ?_
      refine WL.val (Value.func (.func 104) #[] #[(Value.pointer (some ⟨b1, 0, none⟩)), (Value.pointer (some ⟨b9, 0, none⟩))]) _ (op_makeFunc (va := #[]) (vb := #[(Value.pointer (some ⟨b1, 0, none⟩)), (Value.pointer (some ⟨b9, 0, none⟩))]) args0 (args2 rfl rfl)) rfl ?_
      refine WL.grun rfl (bool_of rfl hc19) ?_
      obtain ⟨x29, hx30, hj21⟩ := bs hj21
      refine WL.call _ (op_call fn_103 (args2 rfl rfl)) (c_slices_ContainsFunc_LLint64_Lint64 (Ty.lift _ (Ext.trans hE15 hS17.ext) r_rows) (⟨104, #[], #[(Value.pointer (some ⟨b1, 0, none⟩)), (Value.pointer (some ⟨b9, 0, none⟩))], rfl, fn_104, fun wd25 u0_26 a0_26 r27 he26 ra0_26 hq28 => c_impl_isGrid_c1 ra0_26 (BoxAt.lift (Ext.trans (Ext.trans hE16 hS17.ext) he26) hx6) r_n (BoxAt.lift (Ext.trans hS17.ext he26) hx14) r_m hq28⟩) hx30) rfl ?_
      rintro _ wd31 ⟨rfl, he32⟩
      have hS34 := St.extend hS17 he32
      replace hS34 : St wd10 wd31 [] := hS34
      refine WL.grun rfl (bool_of rfl hc19) ?_
      refine WL.val (Value.bool (!x29)) _ (op_not rfl) rfl ?_
      refine WL.val (Value.bool (!x29)) _ (op_pick_t (evb_of rfl hc19) rfl) rfl ?_
      refine WL.nil ?_
      obtain rfl := Option.some.inj hj21
      exact ⟨rfl, rfl, hS34⟩
    · replace hj21 := inegb hj21 hc19
      refine WL.gskip rfl (bool_of rfl hc19) rfl ?_
      refine WL.gskip rfl (bool_of rfl hc19) rfl ?_
      refine WL.gskip rfl (bool_of rfl hc19) rfl ?_
      refine WL.gskip rfl (bool_of rfl hc19) rfl ?_
      refine WL.val (Value.bool false) _ (op_pick_f (evb_of rfl hc19) rfl) rfl ?_
      refine WL.nil ?_
      obtain rfl := Option.some.inj hj21
      exact ⟨rfl, rfl, hS17⟩
  · intro f22 wd23 hq24
    obtain ⟨hf35, hS36⟩ := hq24
    refine WL.val (Value.bool x20) _ (op_assign hf35) rfl ?_
    refine WL.nil ?_
    show W _ _ _ _ _ _
    refine W.ret ?_
    obtain rfl := Option.some.inj h
    show FinP _ _ _ _ _ _ _
    exact FinP.ret _ (res1 rfl rfl) ⟨rfl, (Ext.trans hE15 hS36.ext)⟩

theorem c_slices_Backward_Lint64_int64_c1 {w : World} {yield : Int → Int → Option Bool} {v_yield : Value} {b_c0 : Nat} {c0 : (List Int)} {v_c0 : Value} (r_yield : FnT_i_i_to_b Try.prog v_yield w yield) (k_c0 : BoxAt w b_c0 [v_c0]) (r_c0 : (Ty.sl (Ty.i .i64)).rep w v_c0 c0) {res : Unit} (h : p_slices_Backward_Lint64_int64_c1 yield c0 = some res) :
    Ret Try.prog 112 #[v_yield, (Value.pointer (some ⟨b_c0, 0, none⟩))] w (fun v w' => v = (Value.tuple #[]) ∧ Ext w w') := by
  unfold p_slices_Backward_Lint64_int64_c1 at h
  have hS0 : St w w [] := St.start w
  have q_yield := r_yield
  obtain ⟨g_yield, fst_yield, cap_yield, eq_yield, ok_yield, call_yield⟩ := q_yield
  subst eq_yield
  refine Ret.start (fn := Try.f112) Try.func112 rfl 19 rfl rfl ?_
  refine W.seq (W.region ?_)
  refine WL.val v_c0 _ (op_load one_22 rfl (BoxAt.cell (BoxAt.lift hS0.ext k_c0) rfl)) rfl ?_
  have hr1 := inR_len (Ty.lift _ hS0.ext r_c0)
  refine WL.val (Value.int .i64 ((c0).length : Int)) _ (op_lenL sl_22 (Ty.lift _ hS0.ext r_c0) rfl) rfl ?_
  refine WL.val (Value.int .i64 (w64 (((c0).length : Int) - (1 : Int)))) _ (op_sub rfl rfl) rfl ?_
  refine WL.val (Value.int .i64 (w64 (((c0).length : Int) - (1 : Int)))) _ (op_assign rfl) rfl ?_
  refine WL.nil ?_
  show W _ _ _ _ _ _
  obtain ⟨res2, hres3, h⟩ := bs h
  refine W.blockLoop (fun fq wq => ∃ s, res2 = Res.fin s ∧ St w wq []) ?_ ?_
  · refine W.whileC (fun (s : Int) fq wq => fq 0 = (Value.func (.func g_yield) fst_yield cap_yield) ∧ fq 1 = (Value.pointer (some ⟨b_c0, 0, none⟩)) ∧ fq 3 = Value.int .i64 s ∧ InR .i64 s ∧ St w wq []) hres3 ⟨rfl, rfl, rfl, (inR_wrap _ _), hS0⟩ ?_
    intro x5 ct6 f7 wd8 hb10 hI11 hbrk12 hret13
    replace hI11 : f7 0 = (Value.func (.func g_yield) fst_yield cap_yield) ∧ f7 1 = (Value.pointer (some ⟨b_c0, 0, none⟩)) ∧ f7 3 = Value.int .i64 x5 ∧ InR .i64 x5 ∧ St w wd8 [] := hI11
    replace hb10 : p_slices_Backward_Lint64_int64_c1_L1 c0 yield  x5 = some ct6 := hb10
    unfold p_slices_Backward_Lint64_int64_c1_L1 at hb10
    obtain ⟨hf14, hf15, hf16, hr17, hS18⟩ := hI11
    refine W.seq (W.seq (W.region ?_))
    refine WL.val (Value.int .i64 x5) _ (op_move hf16) rfl ?_
    refine WL.val (Value.bool (decide (x5 ≥ (0 : Int)))) _ (op_geq rfl rfl) rfl ?_
    refine WL.nil ?_
    show W _ _ _ _ _ _
    refine W.cond (decide (x5 ≥ (0 : Int))) rfl (fun hc19 => ?_) (fun hc19 => ?_)
    · replace hb10 := ip hb10 hc19
      refine W.skip ?_
      show W _ _ _ _ _ _
      refine W.seq ?_
      refine W.block ?_
      refine W.seq (W.region ?_)
      refine WL.val (Value.func (.func g_yield) fst_yield cap_yield) _ (op_move hf14) rfl ?_
      refine WL.val (Value.int .i64 x5) _ (op_move hf16) rfl ?_
      refine WL.val v_c0 _ (op_load one_22 hf15 (BoxAt.cell (BoxAt.lift hS18.ext k_c0) rfl)) rfl ?_
      refine WL.val (Value.int .i64 x5) _ (op_move hf16) rfl ?_
      obtain ⟨x21, hx24, hb10⟩ := bs hb10
      obtain ⟨ha22, hb23, hx24⟩ := idx_some hx24
      refine WL.val (Value.pointer (some (elA v_c0 (x5).toNat))) _ (op_idx sl_22 (Ty.lift _ hS18.ext r_c0) rfl rfl ha22 hb23) rfl ?_
      obtain ⟨u25, hc26, hr27⟩ := repSl.el r_c0 hx24
      obtain ⟨rfl, hr27⟩ := hr27
      refine WL.val (Value.int .i64 x21) _ (op_load one_2 rfl (Ext.cell hS18.ext hc26)) rfl ?_
      obtain ⟨x28, hx29, hb10⟩ := bs hb10
      refine WL.call _ (op_callV rfl ok_yield (args2 rfl rfl)) (call_yield wd8 x5 x21 x28 hS18.ext hr17 hr27 hx29) rfl ?_
      rintro _ wd30 ⟨rfl, he31⟩
      have hS33 := St.extend hS18 he31
      refine WL.val (Value.bool (!x28)) _ (op_not rfl) rfl ?_
      refine WL.nil ?_
      show W _ _ _ _ _ _
      refine W.cond (!x28) rfl (fun hc34 => ?_) (fun hc34 => ?_)
      · replace hb10 := ip hb10 hc34
        refine W.ret ?_
        obtain rfl := Option.some.inj hb10
        obtain rfl := hret13 _ rfl
        replace h := onRes_ret h
        obtain rfl := Option.some.inj h
        show FinP _ _ _ _ _ _ _
        exact FinP.ret _ (res0 rfl) ⟨rfl, hS33.ext⟩
      · replace hb10 := inegb hb10 hc34
        refine W.skip ?_
        show W _ _ _ _ _ _
        refine W.region ?_
        refine WL.val (Value.int .i64 x5) _ (op_move hf16) rfl ?_
        refine WL.val (Value.int .i64 (w64 (x5 - (1 : Int)))) _ (op_sub rfl rfl) rfl ?_
        refine WL.val (Value.int .i64 (w64 (x5 - (1 : Int)))) _ (op_assign rfl) rfl ?_
        refine WL.nil ?_
        obtain rfl := Option.some.inj hb10
        show ∃ s, _ = Ctl.next s ∧ _
        exact ⟨_, rfl, hf14, hf15, rfl, (inR_wrap _ _), hS33⟩
    · replace hb10 := inegb hb10 hc19
      refine W.exit ?_
      obtain rfl := Option.some.inj hb10
      show _ = _ ∧ _
      exact ⟨rfl, _, hbrk12 _ rfl, hS18⟩
  · rintro f37 wd38 ⟨x41, rfl, hq39⟩
    replace h := onRes_fin h
    replace hq39 : St w wd38 [] := hq39
    have hS42 := hq39
    obtain rfl := Option.some.inj h
    show FinP _ _ _ _ _ _ _
    exact FinP.end _ (res0 rfl) ⟨rfl, hS42.ext⟩

attribute [local irreducible] WR WI WLI
/-- The rounds' code. -/
noncomputable def bkBody : Code := match Try.f106.body with
  | some (.seq _ (.seq _ (.seq (.seq _ (.block _ (.rangeFunc _ _ _ c))) _))) => c
  | _ => .skip
theorem bk_body {w Wd : World} {f : Fr} {b1 b6 b11 b15 : Nat} {EE : Ent} {a b s0 p0 mm : Int} {m lr : Nat} (r_a : InR .i64 a) (r_b : InR .i64 b) (r_s0 : InR .i64 s0) (r_p0 : InR .i64 p0) (r_mm : InR .i64 mm) (h0m : mm ≠ 0)
    (hf4 : f 4 = Value.pointer (some ⟨b1, 0, none⟩)) (hf5 : f 5 = Value.pointer (some ⟨b6, 0, none⟩)) (hf7 : f 7 = Value.pointer (some ⟨b11, 0, none⟩)) (hf8 : f 8 = Value.pointer (some ⟨b15, 0, none⟩)) (hf10 : f 10 = Value.int .i64 mm)
    (hS22 : St w Wd [bx b1 [Value.int .i64 a], bx b6 [Value.int .i64 b], bx b11 [Value.int .i64 s0], bx b15 [Value.int .i64 p0], EE]) :
    WR Try.prog 38 m lr bkBody (fun _ w' => St w w' [bx b1 [Value.int .i64 (p_impl_addElements_S mm (a, b, s0, p0)).1], bx b6 [Value.int .i64 (p_impl_addElements_S mm (a, b, s0, p0)).2.1], bx b11 [Value.int .i64 (p_impl_addElements_S mm (a, b, s0, p0)).2.2.1], bx b15 [Value.int .i64 (p_impl_addElements_S mm (a, b, s0, p0)).2.2.2], EE]) f Wd := by
  have hfin0 := True.intro
  refine WR.block ?_
  refine WR.seq ?_
  obtain ⟨x60, hz61⟩ : ∃ x, x = (a).tmod mm := ⟨_, rfl⟩ -- HZ
  have h062 := h0m
  obtain ⟨x94, hz95⟩ : ∃ x, x = (b).tmod mm := ⟨_, rfl⟩ -- HZ
  have h096 := h0m
  obtain ⟨x137, hz138⟩ : ∃ x, x = (w64 (x60 + x94)).tmod mm := ⟨_, rfl⟩ -- HZ
  have h0139 := h0m
  have hfin : ∀ {w2 : World}, St w w2 [bx b1 [Value.int .i64 (w64 (a.tdiv mm))], bx b6 [Value.int .i64 (w64 (b.tdiv mm))], bx b11 [Value.int .i64 (w64 (s0 + (w64 (x137 * p0))))], bx b15 [Value.int .i64 (w64 (p0 * mm))], EE] → St w w2 [bx b1 [Value.int .i64 (p_impl_addElements_S mm (a, b, s0, p0)).1], bx b6 [Value.int .i64 (p_impl_addElements_S mm (a, b, s0, p0)).2.1], bx b11 [Value.int .i64 (p_impl_addElements_S mm (a, b, s0, p0)).2.2.1], bx b15 [Value.int .i64 (p_impl_addElements_S mm (a, b, s0, p0)).2.2.2], EE] := by
    intro w2 h; rw [hz138, hz61, hz95] at h; exact h
  refine WR.drawR mixo (by kernel_rfl) 12 [] [fun _ v _ _ => v = (Value.int .i64 s0) ∧ InR .i64 s0, fun _ v _ _ => v = (Value.int .i64 a) ∧ InR .i64 a, fun _ v _ _ => v = (Value.int .i64 mm) ∧ InR .i64 mm, fun _ v _ _ => v = (Value.int .i64 x60) ∧ InR .i64 x60, fun _ v _ _ => v = (Value.int .i64 b) ∧ InR .i64 b, fun _ v _ _ => v = (Value.int .i64 mm) ∧ InR .i64 mm, fun _ v _ _ => v = (Value.int .i64 x94) ∧ InR .i64 x94, fun _ v _ _ => v = (Value.int .i64 (w64 (x60 + x94))) ∧ InR .i64 (w64 (x60 + x94)), fun _ v _ _ => v = (Value.int .i64 mm) ∧ InR .i64 mm, fun _ v _ _ => v = (Value.int .i64 x137) ∧ InR .i64 x137, fun _ v _ _ => v = (Value.int .i64 p0) ∧ InR .i64 p0, fun _ v _ _ => v = (Value.int .i64 (w64 (x137 * p0))) ∧ InR .i64 (w64 (x137 * p0))] (by kernel_rfl) (by kernel_rfl) ⟨⟨fun _ _ _ _ _ _ h => h, fun _ _ _ _ _ _ h => h⟩, ⟨fun _ _ _ _ _ _ h => h, fun _ _ _ _ _ _ h => h⟩, ⟨fun _ _ _ _ _ _ h => h, fun _ _ _ _ _ _ h => h⟩, ⟨fun _ _ _ _ _ _ h => h, fun _ _ _ _ _ _ h => h⟩, ⟨fun _ _ _ _ _ _ h => h, fun _ _ _ _ _ _ h => h⟩, ⟨fun _ _ _ _ _ _ h => h, fun _ _ _ _ _ _ h => h⟩, ⟨fun _ _ _ _ _ _ h => h, fun _ _ _ _ _ _ h => h⟩, ⟨fun _ _ _ _ _ _ h => h, fun _ _ _ _ _ _ h => h⟩, ⟨fun _ _ _ _ _ _ h => h, fun _ _ _ _ _ _ h => h⟩, ⟨fun _ _ _ _ _ _ h => h, fun _ _ _ _ _ _ h => h⟩, ⟨fun _ _ _ _ _ _ h => h, fun _ _ _ _ _ _ h => h⟩, ⟨fun _ _ _ _ _ _ h => h, fun _ _ _ _ _ _ h => h⟩, trivial⟩ ⟨?_, ?_, ?_, ?_, ?_, ?_, ?_, ?_, ?_, ?_, ?_, ?_, trivial⟩ ?_
  · refine ObX.op rfl ?_
    intro f23 wd24 he25 hout26 hphi27
    have hS28 : St w wd24 [bx b1 [(Value.int .i64 a)], bx b6 [(Value.int .i64 b)], bx b11 [(Value.int .i64 s0)], bx b15 [(Value.int .i64 p0)], EE] := St.extend hS22 he25
    have e29 : f23 7 = (Value.pointer (some ⟨b11, 0, none⟩)) := (hout26 7 rfl).trans hf7
    exact OpX.val (Value.int .i64 s0) wd24 rfl (op_load one_2 e29 (BoxAt.cell (St.boxAt hS28 2 rfl) rfl)) (Ext.refl _) ⟨rfl, r_s0⟩
  · refine ObX.op rfl ?_
    intro f30 wd31 he32 hout33 hphi34
    have hS35 : St w wd31 [bx b1 [(Value.int .i64 a)], bx b6 [(Value.int .i64 b)], bx b11 [(Value.int .i64 s0)], bx b15 [(Value.int .i64 p0)], EE] := St.extend hS22 he32
    have e36 : f30 4 = (Value.pointer (some ⟨b1, 0, none⟩)) := (hout33 4 rfl).trans hf4
    exact OpX.val (Value.int .i64 a) wd31 rfl (op_load one_2 e36 (BoxAt.cell (St.boxAt hS35 0 rfl) rfl)) (Ext.refl _) ⟨rfl, r_a⟩
  · refine ObX.op rfl ?_
    intro f37 wd38 he39 hout40 hphi41
    have hS42 : St w wd38 [bx b1 [(Value.int .i64 a)], bx b6 [(Value.int .i64 b)], bx b11 [(Value.int .i64 s0)], bx b15 [(Value.int .i64 p0)], EE] := St.extend hS22 he39
    have e43 : f37 10 = (Value.int .i64 mm) := (hout40 10 rfl).trans hf10
    exact OpX.val (Value.int .i64 mm) wd38 rfl (op_move e43) (Ext.refl _) ⟨rfl, r_mm⟩
  · refine ObX.op rfl ?_
    intro f44 wd45 he46 hout47 hphi48
    have hS49 : St w wd45 [bx b1 [(Value.int .i64 a)], bx b6 [(Value.int .i64 b)], bx b11 [(Value.int .i64 s0)], bx b15 [(Value.int .i64 p0)], EE] := St.extend hS22 he46
    obtain ⟨S50, hS51, hf52⟩ := hphi48 1 16 _ rfl rfl rfl
    obtain ⟨e53, hr54⟩ : f44 16 = (Value.int .i64 a) ∧ InR .i64 a := hf52
    obtain ⟨S55, hS56, hf57⟩ := hphi48 2 17 _ rfl rfl rfl
    obtain ⟨e58, hr59⟩ : f44 17 = (Value.int .i64 mm) ∧ InR .i64 mm := hf57
    have hr63 : InR .i64 x60 := by rw [hz61]; exact inR_tmod hr54
    exact OpX.val (Value.int .i64 x60) wd45 rfl (by rw [hz61]; exact op_rem e53 e58 h062) (Ext.refl _) ⟨rfl, hr63⟩
  · refine ObX.op rfl ?_
    intro f64 wd65 he66 hout67 hphi68
    have hS69 : St w wd65 [bx b1 [(Value.int .i64 a)], bx b6 [(Value.int .i64 b)], bx b11 [(Value.int .i64 s0)], bx b15 [(Value.int .i64 p0)], EE] := St.extend hS22 he66
    have e70 : f64 5 = (Value.pointer (some ⟨b6, 0, none⟩)) := (hout67 5 rfl).trans hf5
    exact OpX.val (Value.int .i64 b) wd65 rfl (op_load one_2 e70 (BoxAt.cell (St.boxAt hS69 1 rfl) rfl)) (Ext.refl _) ⟨rfl, r_b⟩
  · refine ObX.op rfl ?_
    intro f71 wd72 he73 hout74 hphi75
    have hS76 : St w wd72 [bx b1 [(Value.int .i64 a)], bx b6 [(Value.int .i64 b)], bx b11 [(Value.int .i64 s0)], bx b15 [(Value.int .i64 p0)], EE] := St.extend hS22 he73
    have e77 : f71 10 = (Value.int .i64 mm) := (hout74 10 rfl).trans hf10
    exact OpX.val (Value.int .i64 mm) wd72 rfl (op_move e77) (Ext.refl _) ⟨rfl, r_mm⟩
  · refine ObX.op rfl ?_
    intro f78 wd79 he80 hout81 hphi82
    have hS83 : St w wd79 [bx b1 [(Value.int .i64 a)], bx b6 [(Value.int .i64 b)], bx b11 [(Value.int .i64 s0)], bx b15 [(Value.int .i64 p0)], EE] := St.extend hS22 he80
    obtain ⟨S84, hS85, hf86⟩ := hphi82 4 19 _ rfl rfl rfl
    obtain ⟨e87, hr88⟩ : f78 19 = (Value.int .i64 b) ∧ InR .i64 b := hf86
    obtain ⟨S89, hS90, hf91⟩ := hphi82 5 20 _ rfl rfl rfl
    obtain ⟨e92, hr93⟩ : f78 20 = (Value.int .i64 mm) ∧ InR .i64 mm := hf91
    have hr97 : InR .i64 x94 := by rw [hz95]; exact inR_tmod hr88
    exact OpX.val (Value.int .i64 x94) wd79 rfl (by rw [hz95]; exact op_rem e87 e92 h096) (Ext.refl _) ⟨rfl, hr97⟩
  · refine ObX.op rfl ?_
    intro f98 wd99 he100 hout101 hphi102
    have hS103 : St w wd99 [bx b1 [(Value.int .i64 a)], bx b6 [(Value.int .i64 b)], bx b11 [(Value.int .i64 s0)], bx b15 [(Value.int .i64 p0)], EE] := St.extend hS22 he100
    obtain ⟨S104, hS105, hf106⟩ := hphi102 3 18 _ rfl rfl rfl
    obtain ⟨e107, hr108⟩ : f98 18 = (Value.int .i64 x60) ∧ InR .i64 x60 := hf106
    obtain ⟨S109, hS110, hf111⟩ := hphi102 6 21 _ rfl rfl rfl
    obtain ⟨e112, hr113⟩ : f98 21 = (Value.int .i64 x94) ∧ InR .i64 x94 := hf111
    exact OpX.val (Value.int .i64 (w64 (x60 + x94))) wd99 rfl (op_add e107 e112) (Ext.refl _) ⟨rfl, (inR_wrap _ _)⟩
  · refine ObX.op rfl ?_
    intro f114 wd115 he116 hout117 hphi118
    have hS119 : St w wd115 [bx b1 [(Value.int .i64 a)], bx b6 [(Value.int .i64 b)], bx b11 [(Value.int .i64 s0)], bx b15 [(Value.int .i64 p0)], EE] := St.extend hS22 he116
    have e120 : f114 10 = (Value.int .i64 mm) := (hout117 10 rfl).trans hf10
    exact OpX.val (Value.int .i64 mm) wd115 rfl (op_move e120) (Ext.refl _) ⟨rfl, r_mm⟩
  · refine ObX.op rfl ?_
    intro f121 wd122 he123 hout124 hphi125
    have hS126 : St w wd122 [bx b1 [(Value.int .i64 a)], bx b6 [(Value.int .i64 b)], bx b11 [(Value.int .i64 s0)], bx b15 [(Value.int .i64 p0)], EE] := St.extend hS22 he123
    obtain ⟨S127, hS128, hf129⟩ := hphi125 7 22 _ rfl rfl rfl
    obtain ⟨e130, hr131⟩ : f121 22 = (Value.int .i64 (w64 (x60 + x94))) ∧ InR .i64 (w64 (x60 + x94)) := hf129
    obtain ⟨S132, hS133, hf134⟩ := hphi125 8 23 _ rfl rfl rfl
    obtain ⟨e135, hr136⟩ : f121 23 = (Value.int .i64 mm) ∧ InR .i64 mm := hf134
    have hr140 : InR .i64 x137 := by rw [hz138]; exact inR_tmod hr131
    exact OpX.val (Value.int .i64 x137) wd122 rfl (by rw [hz138]; exact op_rem e130 e135 h0139) (Ext.refl _) ⟨rfl, hr140⟩
  · refine ObX.op rfl ?_
    intro f141 wd142 he143 hout144 hphi145
    have hS146 : St w wd142 [bx b1 [(Value.int .i64 a)], bx b6 [(Value.int .i64 b)], bx b11 [(Value.int .i64 s0)], bx b15 [(Value.int .i64 p0)], EE] := St.extend hS22 he143
    have e147 : f141 8 = (Value.pointer (some ⟨b15, 0, none⟩)) := (hout144 8 rfl).trans hf8
    exact OpX.val (Value.int .i64 p0) wd142 rfl (op_load one_2 e147 (BoxAt.cell (St.boxAt hS146 3 rfl) rfl)) (Ext.refl _) ⟨rfl, r_p0⟩
  · refine ObX.op rfl ?_
    intro f148 wd149 he150 hout151 hphi152
    have hS153 : St w wd149 [bx b1 [(Value.int .i64 a)], bx b6 [(Value.int .i64 b)], bx b11 [(Value.int .i64 s0)], bx b15 [(Value.int .i64 p0)], EE] := St.extend hS22 he150
    obtain ⟨S154, hS155, hf156⟩ := hphi152 9 24 _ rfl rfl rfl
    obtain ⟨e157, hr158⟩ : f148 24 = (Value.int .i64 x137) ∧ InR .i64 x137 := hf156
    obtain ⟨S159, hS160, hf161⟩ := hphi152 10 25 _ rfl rfl rfl
    obtain ⟨e162, hr163⟩ : f148 25 = (Value.int .i64 p0) ∧ InR .i64 p0 := hf161
    exact OpX.val (Value.int .i64 (w64 (x137 * p0))) wd149 rfl (op_mul e157 e162) (Ext.refl _) ⟨rfl, (inR_wrap _ _)⟩
  · intro f164 wd165 Ss166 he167 hout168 hSn169 hSd170 hphi171
    show WL _ _ _ _ _ _ _
    have hS172 : St w wd165 [bx b1 [(Value.int .i64 a)], bx b6 [(Value.int .i64 b)], bx b11 [(Value.int .i64 s0)], bx b15 [(Value.int .i64 p0)], EE] := St.extend hS22 he167
    obtain ⟨e173, hr174⟩ : f164 15 = (Value.int .i64 s0) ∧ InR .i64 s0 := hphi171 0 15 _ (by decide) rfl rfl
    obtain ⟨e175, hr176⟩ : f164 26 = (Value.int .i64 (w64 (x137 * p0))) ∧ InR .i64 (w64 (x137 * p0)) := hphi171 11 26 _ (by decide) rfl rfl
    have e177 : f164 4 = (Value.pointer (some ⟨b1, 0, none⟩)) := (hout168 4 rfl).trans hf4
    have e178 : f164 5 = (Value.pointer (some ⟨b6, 0, none⟩)) := (hout168 5 rfl).trans hf5
    have e179 : f164 7 = (Value.pointer (some ⟨b11, 0, none⟩)) := (hout168 7 rfl).trans hf7
    have e180 : f164 8 = (Value.pointer (some ⟨b15, 0, none⟩)) := (hout168 8 rfl).trans hf8
    have e181 : f164 10 = (Value.int .i64 mm) := (hout168 10 rfl).trans hf10
    refine WL.val (Value.int .i64 (w64 (s0 + (w64 (x137 * p0))))) _ (op_add e173 e175) rfl ?_
    refine WL.storeBox [(Value.int .i64 (w64 (s0 + (w64 (x137 * p0)))))] hS172 (k := 2) rfl e179 rfl (us := [(Value.int .i64 (w64 (s0 + (w64 (x137 * p0)))))]) rfl sz_2 rfl rfl (all_cons rfl all_nil) rfl ?_
    intro wd182 hS183
    replace hS183 : St w wd182 [bx b1 [(Value.int .i64 a)], bx b6 [(Value.int .i64 b)], bx b11 [(Value.int .i64 (w64 (s0 + (w64 (x137 * p0)))))], bx b15 [(Value.int .i64 p0)], EE] := hS183
    refine WL.nil ?_
    show WR _ _ _ _ _ _ _ _
    refine WR.seq ?_
    refine WR.region (by kernel_rfl) ?_
    refine WL.val (Value.int .i64 p0) _ (op_load one_2 e180 (BoxAt.cell (St.boxAt hS183 3 rfl) rfl)) rfl ?_
    refine WL.val (Value.int .i64 mm) _ (op_move e181) rfl ?_
    refine WL.val (Value.int .i64 (w64 (p0 * mm))) _ (op_mul rfl rfl) rfl ?_
    refine WL.storeBox [(Value.int .i64 (w64 (p0 * mm)))] hS183 (k := 3) rfl e180 rfl (us := [(Value.int .i64 (w64 (p0 * mm)))]) rfl sz_2 rfl rfl (all_cons rfl all_nil) rfl ?_
    intro wd184 hS185
    replace hS185 : St w wd184 [bx b1 [(Value.int .i64 a)], bx b6 [(Value.int .i64 b)], bx b11 [(Value.int .i64 (w64 (s0 + (w64 (x137 * p0)))))], bx b15 [(Value.int .i64 (w64 (p0 * mm)))], EE] := hS185
    refine WL.nil ?_
    show WR _ _ _ _ _ _ _ _
    refine WR.orders mixo (by kernel_rfl) ?_
    intro wd186 he187
    have hS188 : St w wd186 [bx b1 [(Value.int .i64 a)], bx b6 [(Value.int .i64 b)], bx b11 [(Value.int .i64 (w64 (s0 + (w64 (x137 * p0)))))], bx b15 [(Value.int .i64 (w64 (p0 * mm)))], EE] := St.extend hS185 he187
    refine WA.take (Value.int .i64 mm) (i := 1) rfl rfl rfl rfl (by kernel_rfl) (fun _ => (op_move e181)) ?_
    refine WA.take (Value.int .i64 mm) (i := 4) rfl rfl rfl rfl (by kernel_rfl) (fun _ => (op_move e181)) ?_
    refine WA.all [0, 3] (by kernel_rfl) rfl ⟨⟨_, rfl, ?_⟩, ⟨_, rfl, ?_⟩, trivial⟩
    · refine WL.val (Value.int .i64 a) _ (op_load one_2 e177 (BoxAt.cell (St.boxAt hS188 0 rfl) rfl)) rfl ?_
      refine WL.nil ?_
      show WA _ _ _ _ _ _ _ _
      refine WA.all [2, 3] (by kernel_rfl) rfl ⟨⟨_, rfl, ?_⟩, ⟨_, rfl, ?_⟩, trivial⟩
      · refine WL.val (Value.int .i64 (w64 ((a).tdiv mm))) _ (op_quo (b := mm) rfl rfl h0m) rfl ?_
        refine WL.nil ?_
        show WA _ _ _ _ _ _ _ _
        refine WA.all [3, 6] (by kernel_rfl) rfl ⟨⟨_, rfl, ?_⟩, ⟨_, rfl, ?_⟩, trivial⟩
        · refine WL.val (Value.int .i64 b) _ (op_load one_2 e178 (BoxAt.cell (St.boxAt hS188 1 rfl) rfl)) rfl ?_
          refine WL.nil ?_
          show WA _ _ _ _ _ _ _ _
          refine WA.all [5, 6] (by kernel_rfl) rfl ⟨⟨_, rfl, ?_⟩, ⟨_, rfl, ?_⟩, trivial⟩
          · refine WL.val (Value.int .i64 (w64 ((b).tdiv mm))) _ (op_quo (b := mm) rfl rfl h0m) rfl ?_
            refine WL.nil ?_
            show WA _ _ _ _ _ _ _ _
            refine WA.all [6] (by kernel_rfl) rfl ⟨⟨_, rfl, ?_⟩, trivial⟩
            · refine WL.storeBox [(Value.int .i64 (w64 ((a).tdiv mm)))] hS188 (k := 0) rfl e177 rfl (us := [(Value.int .i64 (w64 ((a).tdiv mm)))]) rfl sz_2 rfl rfl (all_cons rfl all_nil) rfl ?_
              intro wd189 hS190
              replace hS190 : St w wd189 [bx b1 [(Value.int .i64 (w64 ((a).tdiv mm)))], bx b6 [(Value.int .i64 b)], bx b11 [(Value.int .i64 (w64 (s0 + (w64 (x137 * p0)))))], bx b15 [(Value.int .i64 (w64 (p0 * mm)))], EE] := hS190
              refine WL.nil ?_
              show WA _ _ _ _ _ _ _ _
              refine WA.all [7] (by kernel_rfl) rfl ⟨⟨_, rfl, ?_⟩, trivial⟩
              · refine WL.storeBox [(Value.int .i64 (w64 ((b).tdiv mm)))] hS190 (k := 1) rfl e178 rfl (us := [(Value.int .i64 (w64 ((b).tdiv mm)))]) rfl sz_2 rfl rfl (all_cons rfl all_nil) rfl ?_
                intro wd191 hS192
                replace hS192 : St w wd191 [bx b1 [(Value.int .i64 (w64 ((a).tdiv mm)))], bx b6 [(Value.int .i64 (w64 ((b).tdiv mm)))], bx b11 [(Value.int .i64 (w64 (s0 + (w64 (x137 * p0)))))], bx b15 [(Value.int .i64 (w64 (p0 * mm)))], EE] := hS192
                refine WL.nil ?_
                show WA _ _ _ _ _ _ _ _
                refine WA.done (by kernel_rfl) ?_
                exact hfin hS192
          · refine WL.storeBox [(Value.int .i64 (w64 ((a).tdiv mm)))] hS188 (k := 0) rfl e177 rfl (us := [(Value.int .i64 (w64 ((a).tdiv mm)))]) rfl sz_2 rfl rfl (all_cons rfl all_nil) rfl ?_
            intro wd193 hS194
            replace hS194 : St w wd193 [bx b1 [(Value.int .i64 (w64 ((a).tdiv mm)))], bx b6 [(Value.int .i64 b)], bx b11 [(Value.int .i64 (w64 (s0 + (w64 (x137 * p0)))))], bx b15 [(Value.int .i64 (w64 (p0 * mm)))], EE] := hS194
            refine WL.nil ?_
            show WA _ _ _ _ _ _ _ _
            refine WA.all [5] (by kernel_rfl) rfl ⟨⟨_, rfl, ?_⟩, trivial⟩
            · refine WL.val (Value.int .i64 (w64 ((b).tdiv mm))) _ (op_quo (b := mm) rfl rfl h0m) rfl ?_
              refine WL.nil ?_
              show WA _ _ _ _ _ _ _ _
              refine WA.all [7] (by kernel_rfl) rfl ⟨⟨_, rfl, ?_⟩, trivial⟩
              · refine WL.storeBox [(Value.int .i64 (w64 ((b).tdiv mm)))] hS194 (k := 1) rfl e178 rfl (us := [(Value.int .i64 (w64 ((b).tdiv mm)))]) rfl sz_2 rfl rfl (all_cons rfl all_nil) rfl ?_
                intro wd195 hS196
                replace hS196 : St w wd195 [bx b1 [(Value.int .i64 (w64 ((a).tdiv mm)))], bx b6 [(Value.int .i64 (w64 ((b).tdiv mm)))], bx b11 [(Value.int .i64 (w64 (s0 + (w64 (x137 * p0)))))], bx b15 [(Value.int .i64 (w64 (p0 * mm)))], EE] := hS196
                refine WL.nil ?_
                show WA _ _ _ _ _ _ _ _
                refine WA.done (by kernel_rfl) ?_
                exact hfin hS196
        · refine WL.storeBox [(Value.int .i64 (w64 ((a).tdiv mm)))] hS188 (k := 0) rfl e177 rfl (us := [(Value.int .i64 (w64 ((a).tdiv mm)))]) rfl sz_2 rfl rfl (all_cons rfl all_nil) rfl ?_
          intro wd197 hS198
          replace hS198 : St w wd197 [bx b1 [(Value.int .i64 (w64 ((a).tdiv mm)))], bx b6 [(Value.int .i64 b)], bx b11 [(Value.int .i64 (w64 (s0 + (w64 (x137 * p0)))))], bx b15 [(Value.int .i64 (w64 (p0 * mm)))], EE] := hS198
          refine WL.nil ?_
          show WA _ _ _ _ _ _ _ _
          refine WA.all [3] (by kernel_rfl) rfl ⟨⟨_, rfl, ?_⟩, trivial⟩
          · refine WL.val (Value.int .i64 b) _ (op_load one_2 e178 (BoxAt.cell (St.boxAt hS198 1 rfl) rfl)) rfl ?_
            refine WL.nil ?_
            show WA _ _ _ _ _ _ _ _
            refine WA.all [5] (by kernel_rfl) rfl ⟨⟨_, rfl, ?_⟩, trivial⟩
            · refine WL.val (Value.int .i64 (w64 ((b).tdiv mm))) _ (op_quo (b := mm) rfl rfl h0m) rfl ?_
              refine WL.nil ?_
              show WA _ _ _ _ _ _ _ _
              refine WA.all [7] (by kernel_rfl) rfl ⟨⟨_, rfl, ?_⟩, trivial⟩
              · refine WL.storeBox [(Value.int .i64 (w64 ((b).tdiv mm)))] hS198 (k := 1) rfl e178 rfl (us := [(Value.int .i64 (w64 ((b).tdiv mm)))]) rfl sz_2 rfl rfl (all_cons rfl all_nil) rfl ?_
                intro wd199 hS200
                replace hS200 : St w wd199 [bx b1 [(Value.int .i64 (w64 ((a).tdiv mm)))], bx b6 [(Value.int .i64 (w64 ((b).tdiv mm)))], bx b11 [(Value.int .i64 (w64 (s0 + (w64 (x137 * p0)))))], bx b15 [(Value.int .i64 (w64 (p0 * mm)))], EE] := hS200
                refine WL.nil ?_
                show WA _ _ _ _ _ _ _ _
                refine WA.done (by kernel_rfl) ?_
                exact hfin hS200
      · refine WL.val (Value.int .i64 b) _ (op_load one_2 e178 (BoxAt.cell (St.boxAt hS188 1 rfl) rfl)) rfl ?_
        refine WL.nil ?_
        show WA _ _ _ _ _ _ _ _
        refine WA.all [2, 5] (by kernel_rfl) rfl ⟨⟨_, rfl, ?_⟩, ⟨_, rfl, ?_⟩, trivial⟩
        · refine WL.val (Value.int .i64 (w64 ((a).tdiv mm))) _ (op_quo (b := mm) rfl rfl h0m) rfl ?_
          refine WL.nil ?_
          show WA _ _ _ _ _ _ _ _
          refine WA.all [5, 6] (by kernel_rfl) rfl ⟨⟨_, rfl, ?_⟩, ⟨_, rfl, ?_⟩, trivial⟩
          · refine WL.val (Value.int .i64 (w64 ((b).tdiv mm))) _ (op_quo (b := mm) rfl rfl h0m) rfl ?_
            refine WL.nil ?_
            show WA _ _ _ _ _ _ _ _
            refine WA.all [6] (by kernel_rfl) rfl ⟨⟨_, rfl, ?_⟩, trivial⟩
            · refine WL.storeBox [(Value.int .i64 (w64 ((a).tdiv mm)))] hS188 (k := 0) rfl e177 rfl (us := [(Value.int .i64 (w64 ((a).tdiv mm)))]) rfl sz_2 rfl rfl (all_cons rfl all_nil) rfl ?_
              intro wd201 hS202
              replace hS202 : St w wd201 [bx b1 [(Value.int .i64 (w64 ((a).tdiv mm)))], bx b6 [(Value.int .i64 b)], bx b11 [(Value.int .i64 (w64 (s0 + (w64 (x137 * p0)))))], bx b15 [(Value.int .i64 (w64 (p0 * mm)))], EE] := hS202
              refine WL.nil ?_
              show WA _ _ _ _ _ _ _ _
              refine WA.all [7] (by kernel_rfl) rfl ⟨⟨_, rfl, ?_⟩, trivial⟩
              · refine WL.storeBox [(Value.int .i64 (w64 ((b).tdiv mm)))] hS202 (k := 1) rfl e178 rfl (us := [(Value.int .i64 (w64 ((b).tdiv mm)))]) rfl sz_2 rfl rfl (all_cons rfl all_nil) rfl ?_
                intro wd203 hS204
                replace hS204 : St w wd203 [bx b1 [(Value.int .i64 (w64 ((a).tdiv mm)))], bx b6 [(Value.int .i64 (w64 ((b).tdiv mm)))], bx b11 [(Value.int .i64 (w64 (s0 + (w64 (x137 * p0)))))], bx b15 [(Value.int .i64 (w64 (p0 * mm)))], EE] := hS204
                refine WL.nil ?_
                show WA _ _ _ _ _ _ _ _
                refine WA.done (by kernel_rfl) ?_
                exact hfin hS204
          · refine WL.storeBox [(Value.int .i64 (w64 ((a).tdiv mm)))] hS188 (k := 0) rfl e177 rfl (us := [(Value.int .i64 (w64 ((a).tdiv mm)))]) rfl sz_2 rfl rfl (all_cons rfl all_nil) rfl ?_
            intro wd205 hS206
            replace hS206 : St w wd205 [bx b1 [(Value.int .i64 (w64 ((a).tdiv mm)))], bx b6 [(Value.int .i64 b)], bx b11 [(Value.int .i64 (w64 (s0 + (w64 (x137 * p0)))))], bx b15 [(Value.int .i64 (w64 (p0 * mm)))], EE] := hS206
            refine WL.nil ?_
            show WA _ _ _ _ _ _ _ _
            refine WA.all [5] (by kernel_rfl) rfl ⟨⟨_, rfl, ?_⟩, trivial⟩
            · refine WL.val (Value.int .i64 (w64 ((b).tdiv mm))) _ (op_quo (b := mm) rfl rfl h0m) rfl ?_
              refine WL.nil ?_
              show WA _ _ _ _ _ _ _ _
              refine WA.all [7] (by kernel_rfl) rfl ⟨⟨_, rfl, ?_⟩, trivial⟩
              · refine WL.storeBox [(Value.int .i64 (w64 ((b).tdiv mm)))] hS206 (k := 1) rfl e178 rfl (us := [(Value.int .i64 (w64 ((b).tdiv mm)))]) rfl sz_2 rfl rfl (all_cons rfl all_nil) rfl ?_
                intro wd207 hS208
                replace hS208 : St w wd207 [bx b1 [(Value.int .i64 (w64 ((a).tdiv mm)))], bx b6 [(Value.int .i64 (w64 ((b).tdiv mm)))], bx b11 [(Value.int .i64 (w64 (s0 + (w64 (x137 * p0)))))], bx b15 [(Value.int .i64 (w64 (p0 * mm)))], EE] := hS208
                refine WL.nil ?_
                show WA _ _ _ _ _ _ _ _
                refine WA.done (by kernel_rfl) ?_
                exact hfin hS208
        · refine WL.val (Value.int .i64 (w64 ((b).tdiv mm))) _ (op_quo (b := mm) rfl rfl h0m) rfl ?_
          refine WL.nil ?_
          show WA _ _ _ _ _ _ _ _
          refine WA.all [2] (by kernel_rfl) rfl ⟨⟨_, rfl, ?_⟩, trivial⟩
          · refine WL.val (Value.int .i64 (w64 ((a).tdiv mm))) _ (op_quo (b := mm) rfl rfl h0m) rfl ?_
            refine WL.nil ?_
            show WA _ _ _ _ _ _ _ _
            refine WA.all [6] (by kernel_rfl) rfl ⟨⟨_, rfl, ?_⟩, trivial⟩
            · refine WL.storeBox [(Value.int .i64 (w64 ((a).tdiv mm)))] hS188 (k := 0) rfl e177 rfl (us := [(Value.int .i64 (w64 ((a).tdiv mm)))]) rfl sz_2 rfl rfl (all_cons rfl all_nil) rfl ?_
              intro wd209 hS210
              replace hS210 : St w wd209 [bx b1 [(Value.int .i64 (w64 ((a).tdiv mm)))], bx b6 [(Value.int .i64 b)], bx b11 [(Value.int .i64 (w64 (s0 + (w64 (x137 * p0)))))], bx b15 [(Value.int .i64 (w64 (p0 * mm)))], EE] := hS210
              refine WL.nil ?_
              show WA _ _ _ _ _ _ _ _
              refine WA.all [7] (by kernel_rfl) rfl ⟨⟨_, rfl, ?_⟩, trivial⟩
              · refine WL.storeBox [(Value.int .i64 (w64 ((b).tdiv mm)))] hS210 (k := 1) rfl e178 rfl (us := [(Value.int .i64 (w64 ((b).tdiv mm)))]) rfl sz_2 rfl rfl (all_cons rfl all_nil) rfl ?_
                intro wd211 hS212
                replace hS212 : St w wd211 [bx b1 [(Value.int .i64 (w64 ((a).tdiv mm)))], bx b6 [(Value.int .i64 (w64 ((b).tdiv mm)))], bx b11 [(Value.int .i64 (w64 (s0 + (w64 (x137 * p0)))))], bx b15 [(Value.int .i64 (w64 (p0 * mm)))], EE] := hS212
                refine WL.nil ?_
                show WA _ _ _ _ _ _ _ _
                refine WA.done (by kernel_rfl) ?_
                exact hfin hS212
    · refine WL.val (Value.int .i64 b) _ (op_load one_2 e178 (BoxAt.cell (St.boxAt hS188 1 rfl) rfl)) rfl ?_
      refine WL.nil ?_
      show WA _ _ _ _ _ _ _ _
      refine WA.all [0, 5] (by kernel_rfl) rfl ⟨⟨_, rfl, ?_⟩, ⟨_, rfl, ?_⟩, trivial⟩
      · refine WL.val (Value.int .i64 a) _ (op_load one_2 e177 (BoxAt.cell (St.boxAt hS188 0 rfl) rfl)) rfl ?_
        refine WL.nil ?_
        show WA _ _ _ _ _ _ _ _
        refine WA.all [2, 5] (by kernel_rfl) rfl ⟨⟨_, rfl, ?_⟩, ⟨_, rfl, ?_⟩, trivial⟩
        · refine WL.val (Value.int .i64 (w64 ((a).tdiv mm))) _ (op_quo (b := mm) rfl rfl h0m) rfl ?_
          refine WL.nil ?_
          show WA _ _ _ _ _ _ _ _
          refine WA.all [5, 6] (by kernel_rfl) rfl ⟨⟨_, rfl, ?_⟩, ⟨_, rfl, ?_⟩, trivial⟩
          · refine WL.val (Value.int .i64 (w64 ((b).tdiv mm))) _ (op_quo (b := mm) rfl rfl h0m) rfl ?_
            refine WL.nil ?_
            show WA _ _ _ _ _ _ _ _
            refine WA.all [6] (by kernel_rfl) rfl ⟨⟨_, rfl, ?_⟩, trivial⟩
            · refine WL.storeBox [(Value.int .i64 (w64 ((a).tdiv mm)))] hS188 (k := 0) rfl e177 rfl (us := [(Value.int .i64 (w64 ((a).tdiv mm)))]) rfl sz_2 rfl rfl (all_cons rfl all_nil) rfl ?_
              intro wd213 hS214
              replace hS214 : St w wd213 [bx b1 [(Value.int .i64 (w64 ((a).tdiv mm)))], bx b6 [(Value.int .i64 b)], bx b11 [(Value.int .i64 (w64 (s0 + (w64 (x137 * p0)))))], bx b15 [(Value.int .i64 (w64 (p0 * mm)))], EE] := hS214
              refine WL.nil ?_
              show WA _ _ _ _ _ _ _ _
              refine WA.all [7] (by kernel_rfl) rfl ⟨⟨_, rfl, ?_⟩, trivial⟩
              · refine WL.storeBox [(Value.int .i64 (w64 ((b).tdiv mm)))] hS214 (k := 1) rfl e178 rfl (us := [(Value.int .i64 (w64 ((b).tdiv mm)))]) rfl sz_2 rfl rfl (all_cons rfl all_nil) rfl ?_
                intro wd215 hS216
                replace hS216 : St w wd215 [bx b1 [(Value.int .i64 (w64 ((a).tdiv mm)))], bx b6 [(Value.int .i64 (w64 ((b).tdiv mm)))], bx b11 [(Value.int .i64 (w64 (s0 + (w64 (x137 * p0)))))], bx b15 [(Value.int .i64 (w64 (p0 * mm)))], EE] := hS216
                refine WL.nil ?_
                show WA _ _ _ _ _ _ _ _
                refine WA.done (by kernel_rfl) ?_
                exact hfin hS216
          · refine WL.storeBox [(Value.int .i64 (w64 ((a).tdiv mm)))] hS188 (k := 0) rfl e177 rfl (us := [(Value.int .i64 (w64 ((a).tdiv mm)))]) rfl sz_2 rfl rfl (all_cons rfl all_nil) rfl ?_
            intro wd217 hS218
            replace hS218 : St w wd217 [bx b1 [(Value.int .i64 (w64 ((a).tdiv mm)))], bx b6 [(Value.int .i64 b)], bx b11 [(Value.int .i64 (w64 (s0 + (w64 (x137 * p0)))))], bx b15 [(Value.int .i64 (w64 (p0 * mm)))], EE] := hS218
            refine WL.nil ?_
            show WA _ _ _ _ _ _ _ _
            refine WA.all [5] (by kernel_rfl) rfl ⟨⟨_, rfl, ?_⟩, trivial⟩
            · refine WL.val (Value.int .i64 (w64 ((b).tdiv mm))) _ (op_quo (b := mm) rfl rfl h0m) rfl ?_
              refine WL.nil ?_
              show WA _ _ _ _ _ _ _ _
              refine WA.all [7] (by kernel_rfl) rfl ⟨⟨_, rfl, ?_⟩, trivial⟩
              · refine WL.storeBox [(Value.int .i64 (w64 ((b).tdiv mm)))] hS218 (k := 1) rfl e178 rfl (us := [(Value.int .i64 (w64 ((b).tdiv mm)))]) rfl sz_2 rfl rfl (all_cons rfl all_nil) rfl ?_
                intro wd219 hS220
                replace hS220 : St w wd219 [bx b1 [(Value.int .i64 (w64 ((a).tdiv mm)))], bx b6 [(Value.int .i64 (w64 ((b).tdiv mm)))], bx b11 [(Value.int .i64 (w64 (s0 + (w64 (x137 * p0)))))], bx b15 [(Value.int .i64 (w64 (p0 * mm)))], EE] := hS220
                refine WL.nil ?_
                show WA _ _ _ _ _ _ _ _
                refine WA.done (by kernel_rfl) ?_
                exact hfin hS220
        · refine WL.val (Value.int .i64 (w64 ((b).tdiv mm))) _ (op_quo (b := mm) rfl rfl h0m) rfl ?_
          refine WL.nil ?_
          show WA _ _ _ _ _ _ _ _
          refine WA.all [2] (by kernel_rfl) rfl ⟨⟨_, rfl, ?_⟩, trivial⟩
          · refine WL.val (Value.int .i64 (w64 ((a).tdiv mm))) _ (op_quo (b := mm) rfl rfl h0m) rfl ?_
            refine WL.nil ?_
            show WA _ _ _ _ _ _ _ _
            refine WA.all [6] (by kernel_rfl) rfl ⟨⟨_, rfl, ?_⟩, trivial⟩
            · refine WL.storeBox [(Value.int .i64 (w64 ((a).tdiv mm)))] hS188 (k := 0) rfl e177 rfl (us := [(Value.int .i64 (w64 ((a).tdiv mm)))]) rfl sz_2 rfl rfl (all_cons rfl all_nil) rfl ?_
              intro wd221 hS222
              replace hS222 : St w wd221 [bx b1 [(Value.int .i64 (w64 ((a).tdiv mm)))], bx b6 [(Value.int .i64 b)], bx b11 [(Value.int .i64 (w64 (s0 + (w64 (x137 * p0)))))], bx b15 [(Value.int .i64 (w64 (p0 * mm)))], EE] := hS222
              refine WL.nil ?_
              show WA _ _ _ _ _ _ _ _
              refine WA.all [7] (by kernel_rfl) rfl ⟨⟨_, rfl, ?_⟩, trivial⟩
              · refine WL.storeBox [(Value.int .i64 (w64 ((b).tdiv mm)))] hS222 (k := 1) rfl e178 rfl (us := [(Value.int .i64 (w64 ((b).tdiv mm)))]) rfl sz_2 rfl rfl (all_cons rfl all_nil) rfl ?_
                intro wd223 hS224
                replace hS224 : St w wd223 [bx b1 [(Value.int .i64 (w64 ((a).tdiv mm)))], bx b6 [(Value.int .i64 (w64 ((b).tdiv mm)))], bx b11 [(Value.int .i64 (w64 (s0 + (w64 (x137 * p0)))))], bx b15 [(Value.int .i64 (w64 (p0 * mm)))], EE] := hS224
                refine WL.nil ?_
                show WA _ _ _ _ _ _ _ _
                refine WA.done (by kernel_rfl) ?_
                exact hfin hS224
      · refine WL.val (Value.int .i64 (w64 ((b).tdiv mm))) _ (op_quo (b := mm) rfl rfl h0m) rfl ?_
        refine WL.nil ?_
        show WA _ _ _ _ _ _ _ _
        refine WA.all [0] (by kernel_rfl) rfl ⟨⟨_, rfl, ?_⟩, trivial⟩
        · refine WL.val (Value.int .i64 a) _ (op_load one_2 e177 (BoxAt.cell (St.boxAt hS188 0 rfl) rfl)) rfl ?_
          refine WL.nil ?_
          show WA _ _ _ _ _ _ _ _
          refine WA.all [2] (by kernel_rfl) rfl ⟨⟨_, rfl, ?_⟩, trivial⟩
          · refine WL.val (Value.int .i64 (w64 ((a).tdiv mm))) _ (op_quo (b := mm) rfl rfl h0m) rfl ?_
            refine WL.nil ?_
            show WA _ _ _ _ _ _ _ _
            refine WA.all [6] (by kernel_rfl) rfl ⟨⟨_, rfl, ?_⟩, trivial⟩
            · refine WL.storeBox [(Value.int .i64 (w64 ((a).tdiv mm)))] hS188 (k := 0) rfl e177 rfl (us := [(Value.int .i64 (w64 ((a).tdiv mm)))]) rfl sz_2 rfl rfl (all_cons rfl all_nil) rfl ?_
              intro wd225 hS226
              replace hS226 : St w wd225 [bx b1 [(Value.int .i64 (w64 ((a).tdiv mm)))], bx b6 [(Value.int .i64 b)], bx b11 [(Value.int .i64 (w64 (s0 + (w64 (x137 * p0)))))], bx b15 [(Value.int .i64 (w64 (p0 * mm)))], EE] := hS226
              refine WL.nil ?_
              show WA _ _ _ _ _ _ _ _
              refine WA.all [7] (by kernel_rfl) rfl ⟨⟨_, rfl, ?_⟩, trivial⟩
              · refine WL.storeBox [(Value.int .i64 (w64 ((b).tdiv mm)))] hS226 (k := 1) rfl e178 rfl (us := [(Value.int .i64 (w64 ((b).tdiv mm)))]) rfl sz_2 rfl rfl (all_cons rfl all_nil) rfl ?_
                intro wd227 hS228
                replace hS228 : St w wd227 [bx b1 [(Value.int .i64 (w64 ((a).tdiv mm)))], bx b6 [(Value.int .i64 (w64 ((b).tdiv mm)))], bx b11 [(Value.int .i64 (w64 (s0 + (w64 (x137 * p0)))))], bx b15 [(Value.int .i64 (w64 (p0 * mm)))], EE] := hS228
                refine WL.nil ?_
                show WA _ _ _ _ _ _ _ _
                refine WA.done (by kernel_rfl) ?_
                exact hfin hS228

theorem bk_maker {w : World} {v : Value} (hv : v.cells = [v].toArray) : Ret Try.prog 110 #[v] w (fun u w' => ∃ Bs, u = .func (.func 112) #[] #[.pointer (some ⟨Bs, 0, none⟩)] ∧ St w w' [bx Bs [v]]) := by
  have hS0 : St w w [] := St.start w
  refine Ret.start (fn := Try.f110) Try.func110 rfl 4 rfl rfl ?_
  refine W.seq (W.region ?_)
  refine WL.box hS0 rfl (cs := [v]) hv rfl ?_
  intro b1 wd2 hS3 he4 hx5
  refine WL.val Value.nilFunc _ (op_assign rfl) rfl ?_
  refine WL.nil ?_
  show W _ _ _ _ _ _
  refine W.seq (W.region ?_)
  refine WL.val (.func (.func 112) #[] #[.pointer (some ⟨b1, 0, none⟩)]) _ (op_makeFunc (va := #[]) (vb := #[.pointer (some ⟨b1, 0, none⟩)]) args0 (args1 rfl)) rfl ?_
  refine WL.val (.func (.func 112) #[] #[.pointer (some ⟨b1, 0, none⟩)]) _ (op_assign rfl) rfl ?_
  refine WL.nil ?_
  show W _ _ _ _ _ _
  refine W.ret ?_
  show FinP _ _ _ _ _ _ _
  exact FinP.ret _ (res1 rfl rfl) ⟨b1, rfl, hS3⟩

theorem bk_closure {α : Type} {enc : α → Array Value} {g : Nat → α} {w0 Wd : World} {v : Value} {zs : List Int} (hrep : (Ty.sl (Ty.i .i64)).rep w0 v zs)
    (hg : ∀ j, j < zs.length → enc (g j) = #[.int .i64 ((zs.length : Int) - 1 - j), .int .i64 (zs.getD (zs.length - 1 - j) 0)]) {m l Bs : Nat} {J Jx : List α → World → Prop}
    (hY : ∀ pre x W, J pre W → pre.length < zs.length → YieldAt Fence.wide (m - 1) Try.prog l (enc x) W fun e W' => (e = .returned (.bool true) ∧ J (pre ++ [x]) W' ∧ KpB w0 Bs W W') ∨ (e = .returned (.bool false) ∧ Jx (pre ++ [x]) W'))
    (hW : Ext w0 Wd) (hBs : Wd.cell? ⟨Bs, 0, none⟩ = some v) (h0 : J [] Wd) :
    CallsIn Fence.wide m Try.prog 112 #[.func (.yield l) #[] #[], .pointer (some ⟨Bs, 0, none⟩)] Wd fun e W' => (∃ v, e = .returned v) ∧ ((∃ xs, xs = (List.range zs.length).map g ∧ J xs W') ∨ (∃ pre, True ∧ Jx pre W')) := by
  refine WI.calls Try.func112 rfl rfl rfl rfl ?_
  · skip
    have hm : zs.length ≤ 9223372036854775807 := by have := repSl.max hrep; simpa [maxLen] using this
    have ew : ∀ x : Int, -9223372036854775808 ≤ x → x ≤ 9223372036854775807 → IntKind.i64.wrap x = x := fun x h1 h2 => w64_id (inR_i64.2 ⟨h1, h2⟩)
    refine WI.seq (WI.ofW (W.region ?_))
    refine WL.val v _ (op_load one_22 rfl hBs) rfl ?_
    refine WL.val (Value.int .i64 (zs.length : Int)) _ (op_lenL sl_22 (Ty.lift _ hW hrep) rfl) rfl ?_
    refine WL.val (Value.int .i64 ((zs.length : Int) - 1)) _ (by rw [← ew ((zs.length : Int) - 1) (by omega) (by omega)]; exact op_sub rfl rfl) rfl ?_
    refine WL.val (Value.int .i64 ((zs.length : Int) - 1)) _ (op_assign rfl) rfl ?_
    refine WL.nil ?_
    show WI _ _ _ _ _ _ _
    refine WI.block (WI.loop (fun f wr => ∃ j : Nat, j ≤ zs.length ∧ f 0 = .func (.yield l) #[] #[] ∧ f 1 = .pointer (some ⟨Bs, 0, none⟩) ∧ f 3 = .int .i64 ((zs.length : Int) - 1 - j) ∧ J ((List.range j).map g) wr ∧ Ext w0 wr ∧ wr.cell? ⟨Bs, 0, none⟩ = some v) 3 (fun v => match v with | .int _ x => (x + 1).toNat | _ => 0)
      ⟨0, Nat.zero_le _, rfl, rfl, by show Value.int .i64 ((zs.length : Int) - 1) = _; congr 1; omega, h0, hW, hBs⟩ ?_)
    rintro f wr ⟨j, hj, hf0, hf1, hf3, hJ, hE, hB⟩
    refine WI.seq (WI.seq (WI.ofW (W.region ?_)))
    refine WL.val (Value.int .i64 ((zs.length : Int) - 1 - j)) _ (op_move hf3) rfl ?_
    refine WL.val (Value.bool (decide (((zs.length : Int) - 1 - j) ≥ 0))) _ (op_geq rfl rfl) rfl ?_
    refine WL.nil ?_
    show WI _ _ _ _ _ _ _
    refine WI.cond (decide (((zs.length : Int) - 1 - j) ≥ 0)) rfl (fun hc => ?_) (fun hc => ?_)
    · have hlt : j < zs.length := by simp at hc; omega
      refine WI.skip ?_
      show WI _ _ _ _ _ _ _
      refine WI.seq (WI.block (WI.seq (WI.region ?_)))
      refine WLI.val (.func (.yield l) #[] #[]) _ (op_move hf0) rfl (by intro c h; cases h) ?_
      refine WLI.val (Value.int .i64 ((zs.length : Int) - 1 - j)) _ (op_move hf3) rfl (by intro c h; cases h) ?_
      refine WLI.val v _ (op_load one_22 hf1 hB) rfl (by intro c h; cases h) ?_
      refine WLI.val (Value.int .i64 ((zs.length : Int) - 1 - j)) _ (op_move hf3) rfl (by intro c h; cases h) ?_
      refine WLI.val (Value.pointer (some (elA v ((zs.length : Int) - 1 - j).toNat))) _ (op_idx sl_22 (Ty.lift _ hE hrep) rfl rfl (by omega) (by omega)) rfl (by intro c h; cases h) ?_
      have en : ((zs.length : Int) - 1 - j).toNat = zs.length - 1 - j := by omega
      obtain ⟨u, hc2, hu, _⟩ := repSl.el hrep (i := zs.length - 1 - j) (x := zs.getD (zs.length - 1 - j) 0) (by rw [List.getD_eq_getElem?_getD, List.getElem?_eq_getElem (by omega)]; rfl)
      subst hu
      refine WLI.val (Value.int .i64 (zs.getD (zs.length - 1 - j) 0)) _ (op_load one_2 rfl (by rw [en]; exact Ext.cell hE hc2)) rfl (by intro c h; cases h) ?_
      refine WLI.yield rfl rfl (vs := enc (g j)) (by rw [hg j hlt]; exact args2 rfl rfl) (hY _ (g j) wr hJ (by simp; exact hlt)) rfl ?_
      rintro e W3 (⟨rfl, hJ3, hk⟩ | ⟨rfl, hJx⟩)
      · refine ⟨_, rfl, ?_⟩
        refine WLI.val (.bool false) _ (op_not (b := true) rfl) rfl (by intro c h; cases h) (WLI.nil ?_)
        show WI _ _ _ _ _ _ _
        refine WI.cond false rfl (fun h => by cases h) (fun _ => WI.skip ?_)
        show WI _ _ _ _ _ _ _
        refine WI.ofW (W.region ?_)
        refine WL.val (Value.int .i64 ((zs.length : Int) - 1 - j)) _ (op_move hf3) rfl ?_
        refine WL.val (Value.int .i64 ((zs.length : Int) - 1 - (j + 1 : Nat))) _ (by rw [show ((zs.length : Int) - 1 - (j + 1 : Nat)) = IntKind.i64.wrap ((zs.length : Int) - 1 - j - 1) from by rw [ew _ (by omega) (by omega)]; omega]; exact op_sub rfl rfl) rfl ?_
        refine WL.val (Value.int .i64 ((zs.length : Int) - 1 - (j + 1 : Nat))) _ (op_assign rfl) rfl ?_
        refine WL.nil ?_
        refine ⟨⟨j + 1, hlt, hf0, hf1, rfl, by rw [List.range_succ, List.map_append]; exact hJ3, Go.RowKit.Below.trans hE hk.1, cell_same hk.2 hB⟩, ?_⟩
        show ((zs.length : Int) - 1 - (j + 1 : Nat) + 1).toNat < (match f 3 with | .int _ x => (x + 1).toNat | _ => 0)
        rw [hf3]
        show ((zs.length : Int) - 1 - (j + 1 : Nat) + 1).toNat < ((zs.length : Int) - 1 - j + 1).toNat
        omega
      · refine ⟨_, rfl, ?_⟩
        refine WLI.val (.bool true) _ (op_not (b := false) rfl) rfl (by intro c h; cases h) (WLI.nil ?_)
        show WI _ _ _ _ _ _ _
        refine WI.cond true rfl (fun _ => WI.ret ?_) (fun h => by cases h)
        exact ⟨.inr rfl, .inr ⟨_, trivial, hJx⟩⟩
    · have hje : j = zs.length := by simp at hc; omega
      subst hje
      refine WI.exit ?_
      show (Exit.normal = Exit.normal ∨ Exit.normal = Exit.ret) ∧ _
      exact ⟨.inl rfl, .inl ⟨_, rfl, hJ⟩⟩

/-! ### The loop's caller -/

abbrev BkI := { x : Int × Int // InR .i64 x.1 ∧ InR .i64 x.2 ∧ x.2 ≠ 0 }
def bkEnc (x : BkI) : Array Value := #[.int .i64 x.1.1, .int .i64 x.1.2]
def bkF (a b : Int) (pre : List BkI) : Int × Int × Int × Int := pre.foldl (fun s x => p_impl_addElements_S x.1.2 s) (a, b, 0, 1)
theorem bkF_snoc (a b : Int) (pre : List BkI) (x : BkI) : bkF a b (pre ++ [x]) = p_impl_addElements_S x.1.2 (bkF a b pre) := by simp [bkF]
theorem bkF_rng {a b : Int} (ha : InR .i64 a) (hb : InR .i64 b) (pre : List BkI) : InR .i64 (bkF a b pre).1 ∧ InR .i64 (bkF a b pre).2.1 ∧ InR .i64 (bkF a b pre).2.2.1 ∧ InR .i64 (bkF a b pre).2.2.2 := by
  rcases List.eq_nil_or_concat pre with rfl | ⟨pre, x, rfl⟩
  · exact ⟨ha, hb, inR_i64.2 (by simp [bkF]), inR_i64.2 (by simp [bkF])⟩
  · rw [List.concat_eq_append, bkF_snoc]; exact ⟨inR_wrap _ _, inR_wrap _ _, inR_wrap _ _, inR_wrap _ _⟩
theorem bk_list (orders : List Int) (hr : ∀ x ∈ orders, InR .i64 x) (hz : ∀ x ∈ orders, x ≠ 0) (hm : orders.length ≤ 9223372036854775807) : ∃ g : Nat → BkI, ∀ j, j < orders.length → (g j).1 = ((orders.length : Int) - 1 - j, orders.getD (orders.length - 1 - j) 0) := by
  refine ⟨fun j => if h : j < orders.length then ⟨((orders.length : Int) - 1 - j, orders.getD (orders.length - 1 - j) 0), inR_i64.2 ⟨by omega, by omega⟩, ?_, ?_⟩ else ⟨(0, 1), inR_i64.2 (by simp), inR_i64.2 (by simp), by simp⟩, fun j hj => by simp [hj]⟩
  · refine hr _ ?_
    rw [List.getD_eq_getElem?_getD, List.getElem?_eq_getElem (by omega)]; exact List.getElem_mem _
  · refine hz _ ?_
    rw [List.getD_eq_getElem?_getD, List.getElem?_eq_getElem (by omega)]; exact List.getElem_mem _
theorem bk_fold (orders : List Int) (a b : Int) (g : Nat → BkI) (hg : ∀ j, j < orders.length → (g j).1 = ((orders.length : Int) - 1 - j, orders.getD (orders.length - 1 - j) 0)) :
    bkF a b ((List.range orders.length).map g) = orders.reverse.foldl (fun s m => p_impl_addElements_S m s) (a, b, 0, 1) := by
  have e : ((List.range orders.length).map g).map (fun x => x.1.2) = orders.reverse := by
    apply List.ext_getElem
    · simp
    · intro i h1 h2
      simp at h1
      simp [hg i h1, List.getElem_reverse, List.getD_eq_getElem?_getD, List.getElem?_eq_getElem (show orders.length - 1 - i < orders.length by omega)]
  rw [← e, List.foldl_map]
  rfl
theorem c_impl_addElements {w : World} {orders : (List Int)} {v_orders : Value} {a : Int} {b : Int} (r_orders : (Ty.sl (Ty.i .i64)).rep w v_orders orders) (r_a : InR .i64 a) (r_b : InR .i64 b) {res : Int} (h : p_impl_addElements orders a b = some res) :
    Ret Try.prog 106 #[v_orders, (Value.int .i64 a), (Value.int .i64 b)] w (fun v w' => v = Value.int .i64 res ∧ InR .i64 res ∧ Ext w w') := by
  unfold p_impl_addElements at h
  split at h
  case isFalse => cases h
  rename_i hz
  have hz' : ∀ x ∈ orders, x ≠ 0 := by simpa using hz
  obtain rfl := Option.some.inj h
  have hm : orders.length ≤ 9223372036854775807 := by have := repSl.max r_orders; simpa [maxLen] using this
  have hrng : ∀ x ∈ orders, InR .i64 x := by
    intro x hx
    obtain ⟨i, hi, rfl⟩ := List.mem_iff_getElem.1 hx
    obtain ⟨u, _, _, hr⟩ := repSl.el r_orders (List.getElem?_eq_getElem hi)
    exact hr
  obtain ⟨g, hg⟩ := bk_list orders hrng hz' hm
  have hvc : v_orders.cells = [v_orders].toArray := by obtain ⟨p, c, hv, _⟩ := r_orders; rw [hv]; rfl
  refine (callsIn_wide (n := 3)).1 (callsIn_of_wp_marks Try.func106 rfl trivial ?_ rfl)
  have hS0 : St w w [] := St.start w
  refine WI.step (n := 38) (f := fr0 #[v_orders, (Value.int .i64 a), (Value.int .i64 b)]) (K := fun f1 w1 => ∃ b1 b6, f1 0 = v_orders ∧ f1 4 = .pointer (some ⟨b1, 0, none⟩) ∧ f1 5 = .pointer (some ⟨b6, 0, none⟩) ∧ St w w1 [bx b1 [Value.int .i64 a], bx b6 [Value.int .i64 b]]) (W.region ?_) (agree_start rfl (Nat.le_of_ble_eq_true rfl)) ?_
  · refine WL.box hS0 rfl (cs := [(Value.int .i64 a)]) rfl rfl ?_
    intro b1 wd2 hS3 he4 hx5
    refine WL.box hS3 rfl (cs := [(Value.int .i64 b)]) rfl rfl ?_
    intro b6 wd7 hS8 he9 hx10
    refine WL.val (Value.int .i64 (0 : Int)) _ (op_assign rfl) rfl ?_
    refine WL.nil ?_
    exact ⟨b1, b6, rfl, rfl, rfl, hS8⟩
  rintro f1 w1 a1 ha1 ⟨b1, b6, h0, h4, h5, hS8⟩
  refine WI.step (K := fun f1 w1 => ∃ b11 b15, f1 0 = v_orders ∧ f1 4 = .pointer (some ⟨b1, 0, none⟩) ∧ f1 5 = .pointer (some ⟨b6, 0, none⟩) ∧ f1 7 = .pointer (some ⟨b11, 0, none⟩) ∧ f1 8 = .pointer (some ⟨b15, 0, none⟩) ∧ St w w1 [bx b1 [Value.int .i64 a], bx b6 [Value.int .i64 b], bx b11 [Value.int .i64 0], bx b15 [Value.int .i64 1]]) (W.region ?_) ha1 ?_
  · refine WL.alloc hS8 ze_2 (cs := [(Value.int .i64 (0 : Int))]) rfl rfl ?_
    intro b11 wd12 hS13 he14
    refine WL.alloc hS13 ze_2 (cs := [(Value.int .i64 (0 : Int))]) rfl rfl ?_
    intro b15 wd16 hS17 he18
    replace hS17 : St w wd16 [bx b1 [(Value.int .i64 a)], bx b6 [(Value.int .i64 b)], bx b11 [(Value.int .i64 (0 : Int))], bx b15 [(Value.int .i64 (0 : Int))]] := hS17
    refine WL.storeBox [(Value.int .i64 (0 : Int))] hS17 (k := 2) rfl rfl rfl (us := [(Value.int .i64 (0 : Int))]) rfl sz_2 rfl rfl (all_cons rfl all_nil) rfl ?_
    intro wd19 hS20
    replace hS20 : St w wd19 [bx b1 [(Value.int .i64 a)], bx b6 [(Value.int .i64 b)], bx b11 [(Value.int .i64 (0 : Int))], bx b15 [(Value.int .i64 (0 : Int))]] := hS20
    refine WL.storeBox [(Value.int .i64 (1 : Int))] hS20 (k := 3) rfl rfl rfl (us := [(Value.int .i64 (1 : Int))]) rfl sz_2 rfl rfl (all_cons rfl all_nil) rfl ?_
    intro wd21 hS22
    refine WL.nil ?_
    exact ⟨b11, b15, h0, h4, h5, rfl, rfl, hS22⟩
  rintro f2 w2 a2 ha2 ⟨b11, b15, h0, h4, h5, h7, h8, hS22⟩
  refine wpIn_seq ?_
  refine WI.step (K := fun f1 w1 => ∃ Bs, f1 4 = .pointer (some ⟨b1, 0, none⟩) ∧ f1 5 = .pointer (some ⟨b6, 0, none⟩) ∧ f1 7 = .pointer (some ⟨b11, 0, none⟩) ∧ f1 8 = .pointer (some ⟨b15, 0, none⟩) ∧ f1 12 = .func (.func 112) #[] #[.pointer (some ⟨Bs, 0, none⟩)] ∧ St w w1 [bx b1 [Value.int .i64 a], bx b6 [Value.int .i64 b], bx b11 [Value.int .i64 0], bx b15 [Value.int .i64 1], bx Bs [v_orders]]) (W.region ?_) ha2 ?_
  · refine WL.val v_orders _ (op_move h0) rfl ?_
    refine WL.call _ (op_call fn_110 (args1 rfl)) (bk_maker hvc) rfl ?_
    rintro u w4 ⟨Bs, rfl, hS4⟩
    refine WL.nil ?_
    exact ⟨Bs, h4, h5, h7, h8, rfl, hS22.join hS4.ext hS4.sep⟩
  rintro f3 w3 a3 ha3 ⟨Bs, h4, h5, h7, h8, h12, hS3⟩
  refine wpIn_block ?_
  obtain ⟨g1, g2, g3, g4, d12, d13, d14, d23, d24, d34, hI0, gs, hsl, hsn, hcell⟩ := bk_start (s := (a, b, 0, 1)) hS3
  have hA0 : ∀ x : BkI, Agree 38 ({ tmps := ((#[13, 14] : Array Tmp).zip (bkEnc x)).foldl (fun t (p, v) => t.setIfInBounds p v) a3.tmps, defers := [] } : Act) (upd (upd f3 13 (.int .i64 x.1.1)) 14 (.int .i64 x.1.2)) := fun x => by
    have ha : Agree 38 ({ tmps := a3.tmps, defers := [] } : Act) f3 := ⟨rfl, ha3.size, ha3.get⟩
    have e : ((#[13, 14] : Array Tmp).zip (bkEnc x)).foldl (fun t (p, v) => t.setIfInBounds p v) a3.tmps = (a3.tmps.setIfInBounds 13 (.int .i64 x.1.1)).setIfInBounds 14 (.int .i64 x.1.2) := by first | rfl | simp [bkEnc]
    rw [e]
    exact (ha.put 13 (.int .i64 x.1.1) rfl).put 14 (.int .i64 x.1.2) rfl
  refine wpIn_rangeFunc_ownF (F := Fence.wide) (n := 3) rfl (by decide) (gf := 112) (lb := #[.pointer (some ⟨Bs, 0, none⟩)]) (by rw [ha3.eval]; exact h12) trivial (enters_of Try.func112 (by kernel_rfl) rfl)
    (encs := bkEnc) (Kp := KpB w Bs) (S := fun xs => xs = (List.range orders.length).map g) (Sp := fun _ => True) (N := orders.length) (w0 := w3) ?seq (fun h k => ⟨h.1.trans k.1, k.2.trans h.2⟩) ?kb (Go.RowKit.Below.refl _ _) (fun _ => rfl)
    (fun pre Wd => BkI0 w Wd b1 b6 b11 b15 Bs v_orders (bkF a b pre)) (fun _ _ _ => False) (BkI0.own hS3.ext.size) (fun c s A B row h _ _ => h) hI0
    (fun x => ({ tmps := ((#[13, 14] : Array Tmp).zip (bkEnc x)).foldl (fun t (p, v) => t.setIfInBounds p v) a3.tmps, defers := [] } : Act).put (some 10) (({ tmps := ((#[13, 14] : Array Tmp).zip (bkEnc x)).foldl (fun t (p, v) => t.setIfInBounds p v) a3.tmps, defers := [] } : Act).eval (.tmp 14))) ?assign ?body ?done ?stop
  case seq =>
    intro l J Jx Wd hW _ _ hY h0
    exact bk_closure r_orders (fun j hj => by simp only [bkEnc, hg j hj]) hY (Ext.trans hS3.ext hW) (cell_same (hW.block _ hsl) hcell) h0
  case kb =>
    intro Wd l o o' hl ho hc hw
    refine ⟨belowK_b (w := w3) hS3.ext.size Wd l o o' hl ho hc hw, World.putObj_heap_other (by omega)⟩
  case assign =>
    intro l x Wd K hK
    refine wpIn_region_lit (wpListIn_plain rfl fun K' hK' => ⟨fun _ _ => trivial, ?_⟩)
    rw [Oper.semAt_eq _ _ _ (by intro c h; cases h)]
    simp only [execOp]
    exact hK' _ _ hK
  case body =>
    intro l pre x Wd hI hlen
    obtain ⟨q1, q2, q3, q4⟩ := bkF_rng r_a r_b pre
    have hA1 := (hA0 x).put 10 (({ tmps := ((#[13, 14] : Array Tmp).zip (bkEnc x)).foldl (fun t (p, v) => t.setIfInBounds p v) a3.tmps, defers := [] } : Act).eval (.tmp 14)) rfl
    have hv14 : (({ tmps := ((#[13, 14] : Array Tmp).zip (bkEnc x)).foldl (fun t (p, v) => t.setIfInBounds p v) a3.tmps, defers := [] } : Act).eval (.tmp 14)) = .int .i64 x.1.2 := by rw [(hA0 x).eval]; rfl
    refine wpIn_mono (WR.at (bk_body (m := 3 - 1 - 1) (lr := l) q1 q2 q3 q4 x.2.2.1 x.2.2.2 (f := upd (upd (upd f3 13 (.int .i64 x.1.1)) 14 (.int .i64 x.1.2)) 10 (({ tmps := ((#[13, 14] : Array Tmp).zip (bkEnc x)).foldl (fun t (p, v) => t.setIfInBounds p v) a3.tmps, defers := [] } : Act).eval (.tmp 14))) h4 h5 h7 h8 hv14 (hI.st g1 g2 g3 g4 d12 d13 d14 d23 d24 d34)) _ hA1) ?_
    rintro e a' W' ⟨f', hag, hh⟩
    cases e <;> try exact hh.elim
    have := bk_end (s' := p_impl_addElements_S x.1.2 (bkF a b pre)) hI g1 ⟨gs, hsn⟩ hh
    exact ⟨this.1, this.2.1, by show BkI0 w W' b1 b6 b11 b15 Bs v_orders (bkF a b (pre ++ [x])); rw [bkF_snoc]; exact this.2.2⟩
  case done =>
    intro D xs Wd hD hxs hI hK
    subst hxs
    show (Code.seq _ Code.ret).wpIn _ _ _ _ _ _
    refine wpIn_seq (wpIn_region_lit (wpListIn_plain rfl fun K hK1 => ⟨fun _ _ => trivial, ?_⟩))
    have hl : OpV Try.prog (.load 2 (.tmp 7)) 2 f3 Wd (.int .i64 (bkF a b ((List.range orders.length).map g)).2.2.1) Wd := op_load one_2 h7 hI.cell3
    rw [Oper.semAt_eq _ _ _ (by intro c h; cases h)]
    rw [show (Act.eval { tmps := a3.tmps, defers := { target := .collected D, args := #[] } :: a3.defers } : Operand → Value) = ev f3 from ha3.eval]
    rw [hl _ _ _ _]
    refine hK1 _ _ ?_
    refine wpListIn_plain rfl fun K hK2 => ⟨fun _ _ => trivial, ?_⟩
    rw [Oper.semAt_eq _ _ _ (by intro c h; cases h)]
    simp only [execOp]
    refine hK2 _ _ ?_
    show Code.ret.wpIn _ _ _ _ _ _
    refine wpIn_ret ?_
    refine ⟨by simp, .inl ⟨_, _, rfl, run_takeDeferred hK, ?_⟩⟩
    rw [ha3.defers]
    refine ⟨_, results_tmp rfl _ _ _, _, rfl, ?_, ?_, ?_⟩
    · have e1 := ((ha3.put 37 (.int .i64 (bkF a b ((List.range orders.length).map g)).2.2.1) rfl).put 6 (.int .i64 (bkF a b ((List.range orders.length).map g)).2.2.1) rfl).get 6
      have e2 : (a3.put (some 37) (.int .i64 (bkF a b ((List.range orders.length).map g)).2.2.1)).eval (.tmp 37) = (.int .i64 (bkF a b ((List.range orders.length).map g)).2.2.1) := by
        rw [(ha3.put 37 (.int .i64 (bkF a b ((List.range orders.length).map g)).2.2.1) rfl).eval]; rfl
      rw [← bk_fold orders a b g hg]
      refine Eq.trans ?_ e1
      show ((a3.put (some 37) _).put (some 6) ((a3.put (some 37) (.int .i64 (bkF a b ((List.range orders.length).map g)).2.2.1)).eval (.tmp 37))).tmps.getD 6 undef = _
      rw [e2]
    · rw [← bk_fold orders a b g hg]; exact (bkF_rng r_a r_b _).2.2.1
    · exact Go.RowKit.Below.trans hI.ext (belowK_b (w := w3) hS3.ext.size Wd D _ _ hD hK rfl rfl)
  case stop =>
    intro D c pre Wd _ _ h _
    exact h.elim

theorem c_impl_Cocycle_plus {w : World} {c_Orders : (List Int)} {v_c_Orders : Value} {c_Modulus : Int} {c_Values : (List (List (List Int)))} {v_c_Values : Value} {x : Int} {y : Int} (r_c_Orders : (Ty.sl (Ty.i .i64)).rep w v_c_Orders c_Orders) (r_c_Modulus : InR .i64 c_Modulus) (r_c_Values : (Ty.sl (Ty.sl (Ty.sl (Ty.i .i64)))).rep w v_c_Values c_Values) (r_x : InR .i64 x) (r_y : InR .i64 y) {res : Int} (h : p_impl_Cocycle_plus c_Orders c_Modulus c_Values x y  = some res) :
    Ret Try.prog 97 #[(Value.agg #[v_c_Orders, (Value.int .i64 c_Modulus), v_c_Values]), (Value.int .i64 x), (Value.int .i64 y)] w (fun v w' => v = Value.int .i64 res ∧ InR .i64 res ∧ Ext w w') := by
  unfold p_impl_Cocycle_plus at h
  have hS0 : St w w [] := St.start w
  refine Ret.start (fn := Try.f97) Try.func97 rfl 12 rfl rfl ?_
  refine W.seq (W.region ?_)
  refine WL.box hS0 rfl (cs := [v_c_Orders, (Value.int .i64 c_Modulus), v_c_Values]) rfl rfl ?_
  intro b1 wd2 hS3 he4 hx5
  replace hS3 : St w wd2 [bx b1 [v_c_Orders, (Value.int .i64 c_Modulus), v_c_Values]] := hS3
  have hx6 := St.boxAt hS3 0 rfl
  have hE7 : Ext w wd2 := hS3.ext
  have hS8 : St wd2 wd2 [] := St.start wd2
  refine WL.val (Value.int .i64 (0 : Int)) _ (op_assign rfl) rfl ?_
  refine WL.nil ?_
  show W _ _ _ _ _ _
  refine W.seq (W.region ?_)
  refine WL.val (Value.pointer (some ⟨b1, 0, none⟩)) _ (op_fieldAddr fd_32_0 rfl) rfl ?_
  refine WL.val v_c_Orders _ (op_load one_22 rfl (BoxAt.cell (BoxAt.lift hS8.ext hx6) rfl)) rfl ?_
  refine WL.val (Value.int .i64 x) _ (op_move rfl) rfl ?_
  refine WL.val (Value.int .i64 y) _ (op_move rfl) rfl ?_
  obtain ⟨x9, hx10, h⟩ := bs h
  refine WL.call _ (op_call fn_106 (args3 rfl rfl rfl)) (c_impl_addElements (Ty.lift _ (Ext.trans hE7 hS8.ext) r_c_Orders) r_x r_y hx10) rfl ?_
  rintro _ wd12 ⟨rfl, hr11, he13⟩
  have hS15 := St.extend hS8 he13
  replace hS15 : St wd2 wd12 [] := hS15
  refine WL.val (Value.int .i64 x9) _ (op_assign rfl) rfl ?_
  refine WL.nil ?_
  show W _ _ _ _ _ _
  refine W.ret ?_
  obtain rfl := Option.some.inj h
  show FinP _ _ _ _ _ _ _
  exact FinP.ret _ (res1 rfl rfl) ⟨rfl, hr11, (Ext.trans hE7 hS15.ext)⟩

theorem c_impl_Cocycle_rest {w : World} {c_Orders : (List Int)} {v_c_Orders : Value} {c_Modulus : Int} {c_Values : (List (List (List Int)))} {v_c_Values : Value} {n : Int} (r_c_Orders : (Ty.sl (Ty.i .i64)).rep w v_c_Orders c_Orders) (r_c_Modulus : InR .i64 c_Modulus) (r_c_Values : (Ty.sl (Ty.sl (Ty.sl (Ty.i .i64)))).rep w v_c_Values c_Values) (r_n : InR .i64 n) {res : Int} (h : p_impl_Cocycle_rest c_Orders c_Modulus c_Values n  = some res) :
    Ret Try.prog 72 #[(Value.agg #[v_c_Orders, (Value.int .i64 c_Modulus), v_c_Values]), (Value.int .i64 n)] w (fun v w' => v = Value.int .i64 res ∧ InR .i64 res ∧ Ext w w') := by
  unfold p_impl_Cocycle_rest at h
  have hS0 : St w w [] := St.start w
  refine Ret.start (fn := Try.f72) Try.func72 rfl 15 rfl rfl ?_
  refine W.seq (W.region ?_)
  refine WL.box hS0 rfl (cs := [v_c_Orders, (Value.int .i64 c_Modulus), v_c_Values]) rfl rfl ?_
  intro b1 wd2 hS3 he4 hx5
  replace hS3 : St w wd2 [bx b1 [v_c_Orders, (Value.int .i64 c_Modulus), v_c_Values]] := hS3
  have hx6 := St.boxAt hS3 0 rfl
  have hE7 : Ext w wd2 := hS3.ext
  have hS8 : St wd2 wd2 [] := St.start wd2
  refine WL.val (Value.int .i64 (0 : Int)) _ (op_assign rfl) rfl ?_
  refine WL.nil ?_
  show W _ _ _ _ _ _
  refine W.seq ?_
  obtain ⟨x49, hz50, h⟩ := bs h
  obtain ⟨h051, hz50⟩ := remI_some hz50
  refine W.drawR mixo 9 [] [fun _ v _ _ => v = (Value.int .i64 n) ∧ InR .i64 n, fun _ v _ _ => v = (Value.pointer (some ⟨b1, 1, none⟩)), fun _ v _ _ => v = (Value.int .i64 c_Modulus) ∧ InR .i64 c_Modulus, fun _ v _ _ => v = (Value.int .i64 x49) ∧ InR .i64 x49, fun _ v _ _ => v = (Value.pointer (some ⟨b1, 1, none⟩)), fun _ v _ _ => v = (Value.int .i64 c_Modulus) ∧ InR .i64 c_Modulus, fun _ v _ _ => v = (Value.int .i64 (w64 (x49 + c_Modulus))) ∧ InR .i64 (w64 (x49 + c_Modulus)), fun _ v _ _ => v = (Value.pointer (some ⟨b1, 1, none⟩)), fun _ v _ _ => v = (Value.int .i64 c_Modulus) ∧ InR .i64 c_Modulus] (by kernel_rfl) (by kernel_rfl) ⟨⟨fun _ _ _ _ _ _ h => h, fun _ _ _ _ _ _ h => h⟩, ⟨fun _ _ _ _ _ _ h => h, fun _ _ _ _ _ _ h => h⟩, ⟨fun _ _ _ _ _ _ h => h, fun _ _ _ _ _ _ h => h⟩, ⟨fun _ _ _ _ _ _ h => h, fun _ _ _ _ _ _ h => h⟩, ⟨fun _ _ _ _ _ _ h => h, fun _ _ _ _ _ _ h => h⟩, ⟨fun _ _ _ _ _ _ h => h, fun _ _ _ _ _ _ h => h⟩, ⟨fun _ _ _ _ _ _ h => h, fun _ _ _ _ _ _ h => h⟩, ⟨fun _ _ _ _ _ _ h => h, fun _ _ _ _ _ _ h => h⟩, ⟨fun _ _ _ _ _ _ h => h, fun _ _ _ _ _ _ h => h⟩, trivial⟩ ⟨?_, ?_, ?_, ?_, ?_, ?_, ?_, ?_, ?_, trivial⟩ ?_
  · refine ObX.op rfl ?_
    intro f9 wd10 he11 hout12 hphi13
    have hS14 : St wd2 wd10 [] := St.extend hS8 he11
    have e15 : f9 1 = (Value.int .i64 n) := (hout12 1 rfl).trans rfl
    exact OpX.val (Value.int .i64 n) wd10 rfl (op_move e15) (Ext.refl _) ⟨rfl, r_n⟩
  · refine ObX.op rfl ?_
    intro f16 wd17 he18 hout19 hphi20
    have hS21 : St wd2 wd17 [] := St.extend hS8 he18
    have e22 : f16 2 = (Value.pointer (some ⟨b1, 0, none⟩)) := (hout19 2 rfl).trans rfl
    exact OpX.val (Value.pointer (some ⟨b1, 1, none⟩)) wd17 rfl (op_fieldAddr fd_32_1 e22) (Ext.refl _) rfl
  · refine ObX.op rfl ?_
    intro f23 wd24 he25 hout26 hphi27
    have hS28 : St wd2 wd24 [] := St.extend hS8 he25
    obtain ⟨S29, hS30, hf31⟩ := hphi27 1 6 _ rfl rfl rfl
    have e32 : f23 6 = (Value.pointer (some ⟨b1, 1, none⟩)) := hf31
    exact OpX.val (Value.int .i64 c_Modulus) wd24 rfl (op_load one_2 e32 (BoxAt.cell (BoxAt.lift hS28.ext hx6) rfl)) (Ext.refl _) ⟨rfl, r_c_Modulus⟩
  · refine ObX.op rfl ?_
    intro f33 wd34 he35 hout36 hphi37
    have hS38 : St wd2 wd34 [] := St.extend hS8 he35
    obtain ⟨S39, hS40, hf41⟩ := hphi37 0 5 _ rfl rfl rfl
    obtain ⟨e42, hr43⟩ : f33 5 = (Value.int .i64 n) ∧ InR .i64 n := hf41
    obtain ⟨S44, hS45, hf46⟩ := hphi37 2 7 _ rfl rfl rfl
    obtain ⟨e47, hr48⟩ : f33 7 = (Value.int .i64 c_Modulus) ∧ InR .i64 c_Modulus := hf46
    have hr52 : InR .i64 x49 := by rw [hz50]; exact inR_tmod hr43
    exact OpX.val (Value.int .i64 x49) wd34 rfl (by rw [hz50]; exact op_rem e42 e47 h051) (Ext.refl _) ⟨rfl, hr52⟩
  · refine ObX.op rfl ?_
    intro f53 wd54 he55 hout56 hphi57
    have hS58 : St wd2 wd54 [] := St.extend hS8 he55
    have e59 : f53 2 = (Value.pointer (some ⟨b1, 0, none⟩)) := (hout56 2 rfl).trans rfl
    exact OpX.val (Value.pointer (some ⟨b1, 1, none⟩)) wd54 rfl (op_fieldAddr fd_32_1 e59) (Ext.refl _) rfl
  · refine ObX.op rfl ?_
    intro f60 wd61 he62 hout63 hphi64
    have hS65 : St wd2 wd61 [] := St.extend hS8 he62
    obtain ⟨S66, hS67, hf68⟩ := hphi64 4 9 _ rfl rfl rfl
    have e69 : f60 9 = (Value.pointer (some ⟨b1, 1, none⟩)) := hf68
    exact OpX.val (Value.int .i64 c_Modulus) wd61 rfl (op_load one_2 e69 (BoxAt.cell (BoxAt.lift hS65.ext hx6) rfl)) (Ext.refl _) ⟨rfl, r_c_Modulus⟩
  · refine ObX.op rfl ?_
    intro f70 wd71 he72 hout73 hphi74
    have hS75 : St wd2 wd71 [] := St.extend hS8 he72
    obtain ⟨S76, hS77, hf78⟩ := hphi74 3 8 _ rfl rfl rfl
    obtain ⟨e79, hr80⟩ : f70 8 = (Value.int .i64 x49) ∧ InR .i64 x49 := hf78
    obtain ⟨S81, hS82, hf83⟩ := hphi74 5 10 _ rfl rfl rfl
    obtain ⟨e84, hr85⟩ : f70 10 = (Value.int .i64 c_Modulus) ∧ InR .i64 c_Modulus := hf83
    exact OpX.val (Value.int .i64 (w64 (x49 + c_Modulus))) wd71 rfl (op_add e79 e84) (Ext.refl _) ⟨rfl, (inR_wrap _ _)⟩
  · refine ObX.op rfl ?_
    intro f86 wd87 he88 hout89 hphi90
    have hS91 : St wd2 wd87 [] := St.extend hS8 he88
    have e92 : f86 2 = (Value.pointer (some ⟨b1, 0, none⟩)) := (hout89 2 rfl).trans rfl
    exact OpX.val (Value.pointer (some ⟨b1, 1, none⟩)) wd87 rfl (op_fieldAddr fd_32_1 e92) (Ext.refl _) rfl
  · refine ObX.op rfl ?_
    intro f93 wd94 he95 hout96 hphi97
    have hS98 : St wd2 wd94 [] := St.extend hS8 he95
    obtain ⟨S99, hS100, hf101⟩ := hphi97 7 12 _ rfl rfl rfl
    have e102 : f93 12 = (Value.pointer (some ⟨b1, 1, none⟩)) := hf101
    exact OpX.val (Value.int .i64 c_Modulus) wd94 rfl (op_load one_2 e102 (BoxAt.cell (BoxAt.lift hS98.ext hx6) rfl)) (Ext.refl _) ⟨rfl, r_c_Modulus⟩
  · intro f103 wd104 Ss105 he106 hout107 hSn108 hSd109 hphi110
    show WL _ _ _ _ _ _ _
    have hS111 : St wd2 wd104 [] := St.extend hS8 he106
    obtain ⟨e112, hr113⟩ : f103 11 = (Value.int .i64 (w64 (x49 + c_Modulus))) ∧ InR .i64 (w64 (x49 + c_Modulus)) := hphi110 6 11 _ (by decide) rfl rfl
    obtain ⟨e114, hr115⟩ : f103 13 = (Value.int .i64 c_Modulus) ∧ InR .i64 c_Modulus := hphi110 8 13 _ (by decide) rfl rfl
    obtain ⟨x116, hz117, h⟩ := bs h
    obtain ⟨h0118, hz117⟩ := remI_some hz117
    have hr119 : InR .i64 x116 := by rw [hz117]; exact inR_tmod hr113
    refine WL.val (Value.int .i64 x116) _ (by rw [hz117]; exact op_rem e112 e114 h0118) rfl ?_
    refine WL.val (Value.int .i64 x116) _ (op_assign rfl) rfl ?_
    refine WL.nil ?_
    show W _ _ _ _ _ _
    refine W.ret ?_
    obtain rfl := Option.some.inj h
    show FinP _ _ _ _ _ _ _
    exact FinP.ret _ (res1 rfl rfl) ⟨rfl, hr119, (Ext.trans hE7 hS111.ext)⟩

theorem c_impl_isPairing {w : World} {f1 : (List (List Int))} {v_f1 : Value} {n : Int} {m : Int} (r_f1 : (Ty.sl (Ty.sl (Ty.i .i64))).rep w v_f1 f1) (r_n : InR .i64 n) (r_m : InR .i64 m) {res : Bool} (h : p_impl_isPairing f1 n m  = some res) :
    Ret Try.prog 69 #[v_f1, (Value.int .i64 n), (Value.int .i64 m)] w (fun v w' => v = Value.bool res ∧ Ext w w') := by
  unfold p_impl_isPairing at h
  have hS0 : St w w [] := St.start w
  refine Ret.start (fn := Try.f69) Try.func69 rfl 35 rfl rfl ?_
  refine W.seq (W.region ?_)
  refine WL.val (Value.bool false) _ (op_assign rfl) rfl ?_
  refine WL.nil ?_
  show W _ _ _ _ _ _
  refine W.seq (W.seq (W.region ?_))
  refine WL.val v_f1 _ (op_move rfl) rfl ?_
  refine WL.val (Value.int .i64 n) _ (op_move rfl) rfl ?_
  refine WL.val (Value.int .i64 m) _ (op_move rfl) rfl ?_
  obtain ⟨x1, hx2, h⟩ := bs h
  refine WL.call _ (op_call fn_96 (args3 rfl rfl rfl)) (c_impl_isGrid (Ty.lift _ hS0.ext r_f1) r_n r_m hx2) rfl ?_
  rintro _ wd3 ⟨rfl, he4⟩
  have hS6 := St.extend hS0 he4
  replace hS6 : St w wd3 [] := hS6
  refine WL.val (Value.bool (!x1)) _ (op_not rfl) rfl ?_
  refine WL.nil ?_
  show W _ _ _ _ _ _
  refine W.cond (!x1) rfl (fun hc7 => ?_) (fun hc7 => ?_)
  · replace h := ip h hc7
    refine W.seq (W.region ?_)
    refine WL.val (Value.bool false) _ (op_assign rfl) rfl ?_
    refine WL.nil ?_
    show W _ _ _ _ _ _
    refine W.ret ?_
    obtain rfl := Option.some.inj h
    show FinP _ _ _ _ _ _ _
    exact FinP.ret _ (res1 rfl rfl) ⟨rfl, hS6.ext⟩
  · replace h := inegb h hc7
    refine W.skip ?_
    show W _ _ _ _ _ _
    refine W.seq (W.seq (W.region ?_))
    refine WL.val v_f1 _ (op_move rfl) rfl ?_
    have hr9 := inR_len (Ty.lift _ hS6.ext r_f1)
    refine WL.val (Value.int .i64 ((f1).length : Int)) _ (op_lenL sl_26 (Ty.lift _ hS6.ext r_f1) rfl) rfl ?_
    refine WL.val (Value.int .i64 (0 : Int)) _ (op_move rfl) rfl ?_
    refine WL.nil ?_
    show W _ _ _ _ _ _
    obtain ⟨res10, hres11, h⟩ := bs h
    refine W.blockLoop (fun fq wq => ∃ s, res10 = Res.fin s ∧ St w wq []) ?_ ?_
    · refine W.forN (fun k (s : Unit) fq wq => fq 0 = v_f1 ∧ fq 14 = (Value.int .i64 ((f1).length : Int)) ∧ fq 15 = Value.int .i64 (k : Int) ∧ InR .i64 (k : Int) ∧ St w wq []) hres11 ⟨rfl, rfl, rfl, (inR_i64.2 (show (-9223372036854775808 : Int) ≤ 0 ∧ (0 : Int) ≤ 9223372036854775807 from by decide)), hS6⟩ ?_ ?_
      · intro k12 s69 ct13 f14 wd15 hk16 hb17 hI18 hbrk19 hret20
        obtain ⟨⟩ := s69
        replace hI18 : f14 0 = v_f1 ∧ f14 14 = (Value.int .i64 ((f1).length : Int)) ∧ f14 15 = Value.int .i64 (k12 : Int) ∧ InR .i64 (k12 : Int) ∧ St w wd15 [] := hI18
        replace hb17 : p_impl_isPairing_L1 f1 k12  = some ct13 := hb17
        unfold p_impl_isPairing_L1 at hb17
        obtain ⟨hf21, hf22, hf23, hr24, hS25⟩ := hI18
        refine W.seq (W.region ?_)
        refine WL.val (Value.bool (decide ((k12 : Int) < ((f1).length : Int)))) _ (op_lss hf23 hf22) rfl ?_
        have hl26 : (k12 : Int) < ((f1).length : Int) := by omega
        refine WL.nil ?_
        show W _ _ _ _ _ _
        refine W.seq ?_
        refine W.condT (decide ((k12 : Int) < ((f1).length : Int))) rfl (decide_eq_true hl26) ?_
        refine W.skip ?_
        show W _ _ _ _ _ _
        refine W.seq ?_
        refine W.block ?_
        refine W.seq (W.region ?_)
        refine WL.val (Value.int .i64 (k12 : Int)) _ (op_move hf23) rfl ?_
        refine WL.val (Value.int .i64 (k12 : Int)) _ (op_assign rfl) rfl ?_
        refine WL.nil ?_
        show W _ _ _ _ _ _
        refine W.seq (W.region ?_)
        refine WL.val v_f1 _ (op_move hf21) rfl ?_
        obtain ⟨x28, hx31, hb17⟩ := bs hb17
        obtain ⟨ha29, hb30, hx31⟩ := idx_some hx31
        refine WL.val (Value.pointer (some (elA v_f1 ((0 : Int)).toNat))) _ (op_idx sl_26 (Ty.lift _ hS25.ext r_f1) rfl rfl ha29 hb30) rfl ?_
        obtain ⟨u32, hc33, hr34⟩ := repSl.el r_f1 hx31
        refine WL.val u32 _ (op_load one_22 rfl (Ext.cell hS25.ext hc33)) rfl ?_
        refine WL.val (Value.int .i64 (k12 : Int)) _ (op_move rfl) rfl ?_
        obtain ⟨x35, hx38, hb17⟩ := bs hb17
        obtain ⟨ha36, hb37, hx38⟩ := idx_some hx38
        refine WL.val (Value.pointer (some (elA u32 ((k12 : Int)).toNat))) _ (op_idx sl_22 (Ty.lift _ hS25.ext hr34) rfl rfl ha36 hb37) rfl ?_
        obtain ⟨u39, hc40, hr41⟩ := repSl.el hr34 hx38
        obtain ⟨rfl, hr41⟩ := hr41
        refine WL.val (Value.int .i64 x35) _ (op_load one_2 rfl (Ext.cell hS25.ext hc40)) rfl ?_
        refine WL.val (Value.bool (x35 != (0 : Int))) _ (op_neq rfl rfl) rfl ?_
        refine WL.val (Value.bool (x35 != (0 : Int))) _ (op_move rfl) rfl ?_
        obtain ⟨x43, hj44, hb17⟩ := bs hb17
        refine WL.cut 8 (fun fq wq => fq 0 = v_f1 ∧ fq 14 = (Value.int .i64 ((f1).length : Int)) ∧ fq 15 = (Value.int .i64 (k12 : Int)) ∧ fq 33 = Value.bool x43 ∧ St w wq []) ?_ ?_
        · rcases Bool.eq_false_or_eq_true (x35 != (0 : Int)) with hc42 | hc42
          · replace hj44 := ip hj44 hc42
            refine WL.gskip rfl (bool_of rfl hc42) rfl ?_
            refine WL.gskip rfl (bool_of rfl hc42) rfl ?_
            refine WL.gskip rfl (bool_of rfl hc42) rfl ?_
            refine WL.gskip rfl (bool_of rfl hc42) rfl ?_
            refine WL.gskip rfl (bool_of rfl hc42) rfl ?_
            refine WL.gskip rfl (bool_of rfl hc42) rfl ?_
            refine WL.gskip rfl (bool_of rfl hc42) rfl ?_
            refine WL.val (Value.bool true) _ (op_pick_t (evb_of rfl hc42) rfl) rfl ?_
            refine WL.nil ?_
            obtain rfl := Option.some.inj hj44
            exact ⟨rfl, hf21, hf22, hf23, rfl, hS25⟩
          · replace hj44 := inegb hj44 hc42
            refine WL.grun rfl (bool_of rfl hc42) ?_
            refine WL.val v_f1 _ (op_move hf21) rfl ?_
            refine WL.grun rfl (bool_of rfl hc42) ?_
            refine WL.val (Value.int .i64 (k12 : Int)) _ (op_move rfl) rfl ?_
            refine WL.grun rfl (bool_of rfl hc42) ?_
            obtain ⟨x48, hx51, hj44⟩ := bs hj44
            obtain ⟨ha49, hb50, hx51⟩ := idx_some hx51
            refine WL.val (Value.pointer (some (elA v_f1 ((k12 : Int)).toNat))) _ (op_idx sl_26 (Ty.lift _ hS25.ext r_f1) rfl rfl ha49 hb50) rfl ?_
            refine WL.grun rfl (bool_of rfl hc42) ?_
            obtain ⟨u52, hc53, hr54⟩ := repSl.el r_f1 hx51
            refine WL.val u52 _ (op_load one_22 rfl (Ext.cell hS25.ext hc53)) rfl ?_
            refine WL.grun rfl (bool_of rfl hc42) ?_
            obtain ⟨x55, hx58, hj44⟩ := bs hj44
            obtain ⟨ha56, hb57, hx58⟩ := idx_some hx58
            refine WL.val (Value.pointer (some (elA u52 ((0 : Int)).toNat))) _ (op_idx sl_22 (Ty.lift _ hS25.ext hr54) rfl rfl ha56 hb57) rfl ?_
            refine WL.grun rfl (bool_of rfl hc42) ?_
            obtain ⟨u59, hc60, hr61⟩ := repSl.el hr54 hx58
            obtain ⟨rfl, hr61⟩ := hr61
            refine WL.val (Value.int .i64 x55) _ (op_load one_2 rfl (Ext.cell hS25.ext hc60)) rfl ?_
            refine WL.grun rfl (bool_of rfl hc42) ?_
            refine WL.val (Value.bool (x55 != (0 : Int))) _ (op_neq rfl rfl) rfl ?_
            refine WL.val (Value.bool (x55 != (0 : Int))) _ (op_pick_f (evb_of rfl hc42) rfl) rfl ?_
            refine WL.nil ?_
            obtain rfl := Option.some.inj hj44
            exact ⟨rfl, hf21, hf22, hf23, rfl, hS25⟩
        · intro f45 wd46 hq47
          obtain ⟨hf62, hf63, hf64, hf65, hS66⟩ := hq47
          refine WL.nil ?_
          show W _ _ _ _ _ _
          refine W.cond x43 hf65 (fun hc67 => ?_) (fun hc67 => ?_)
          · replace hb17 := ip hb17 hc67
            refine W.seq (W.region ?_)
            refine WL.val (Value.bool false) _ (op_assign rfl) rfl ?_
            refine WL.nil ?_
            show W _ _ _ _ _ _
            refine W.ret ?_
            obtain rfl := Option.some.inj hb17
            obtain rfl := hret20 _ rfl
            replace h := onRes_ret h
            obtain rfl := Option.some.inj h
            show FinP _ _ _ _ _ _ _
            exact FinP.ret _ (res1 rfl rfl) ⟨rfl, hS66.ext⟩
          · replace hb17 := inegb hb17 hc67
            refine W.skip ?_
            show W _ _ _ _ _ _
            refine W.region ?_
            refine WL.val (Value.int .i64 (w64 ((k12 : Int) + (1 : Int)))) _ (op_add hf64 rfl) rfl ?_
            refine WL.val (Value.int .i64 (w64 ((k12 : Int) + (1 : Int)))) _ (op_move rfl) rfl ?_
            refine WL.nil ?_
            obtain rfl := Option.some.inj hb17
            show ∃ s, _ = Ctl.next s ∧ _
            exact ⟨_, rfl, hf62, hf63, (ctr_next hl26 hr9), (ctr_rng hl26 hr9), hS66⟩
      · intro s74 f70 wd71 hs72 hI73
        obtain ⟨⟩ := s74
        replace hI73 : f70 0 = v_f1 ∧ f70 14 = (Value.int .i64 ((f1).length : Int)) ∧ f70 15 = Value.int .i64 (((f1).length : Nat) : Int) ∧ InR .i64 (((f1).length : Nat) : Int) ∧ St w wd71 [] := hI73
        obtain ⟨hf75, hf76, hf77, hr78, hS79⟩ := hI73
        refine W.seq (W.region ?_)
        refine WL.val (Value.bool (decide ((((f1).length : Nat) : Int) < ((f1).length : Int)))) _ (op_lss hf77 hf76) rfl ?_
        have hl80 : ¬ (((f1).length : Nat) : Int) < ((f1).length : Int) := by omega
        refine WL.nil ?_
        show W _ _ _ _ _ _
        refine W.seq ?_
        refine W.condF (decide ((((f1).length : Nat) : Int) < ((f1).length : Int))) rfl (decide_eq_false hl80) ?_
        refine W.exit ?_
        show _ = _ ∧ _
        exact ⟨rfl, _, hs72, hS79⟩
    · rintro f81 wd82 ⟨s84, rfl, hq83⟩
      replace h := onRes_fin h
      obtain ⟨⟩ := s84
      replace hq83 : St w wd82 [] := hq83
      have hS85 := hq83
      show W _ _ _ _ _ _
      refine W.seq (W.region ?_)
      refine WL.val (Value.bool true) _ (op_assign rfl) rfl ?_
      refine WL.nil ?_
      show W _ _ _ _ _ _
      refine W.ret ?_
      obtain rfl := Option.some.inj h
      show FinP _ _ _ _ _ _ _
      exact FinP.ret _ (res1 rfl rfl) ⟨rfl, hS85.ext⟩

theorem c_impl_Braiding_holds {w : World} {b_Cocycle_Orders : (List Int)} {v_b_Cocycle_Orders : Value} {b_Cocycle_Modulus : Int} {b_Cocycle_Values : (List (List (List Int)))} {v_b_Cocycle_Values : Value} {b_Values : (List (List Int))} {v_b_Values : Value} {equation : Int} {x : Int} {y : Int} {z : Int} (r_b_Cocycle_Orders : (Ty.sl (Ty.i .i64)).rep w v_b_Cocycle_Orders b_Cocycle_Orders) (r_b_Cocycle_Modulus : InR .i64 b_Cocycle_Modulus) (r_b_Cocycle_Values : (Ty.sl (Ty.sl (Ty.sl (Ty.i .i64)))).rep w v_b_Cocycle_Values b_Cocycle_Values) (r_b_Values : (Ty.sl (Ty.sl (Ty.i .i64))).rep w v_b_Values b_Values) (r_equation : InR .i64 equation) (r_x : InR .i64 x) (r_y : InR .i64 y) (r_z : InR .i64 z) {res : Bool} (h : p_impl_Braiding_holds b_Cocycle_Orders b_Cocycle_Modulus b_Cocycle_Values b_Values equation x y z  = some res) :
    Ret Try.prog 70 #[(Value.agg #[v_b_Cocycle_Orders, (Value.int .i64 b_Cocycle_Modulus), v_b_Cocycle_Values, v_b_Values]), (Value.int .i64 equation), (Value.int .i64 x), (Value.int .i64 y), (Value.int .i64 z)] w (fun v w' => v = Value.bool res ∧ Ext w w') := by
  unfold p_impl_Braiding_holds at h
  have hS0 : St w w [] := St.start w
  refine Ret.start (fn := Try.f70) Try.func70 rfl 149 rfl rfl ?_
  refine W.seq (W.region ?_)
  refine WL.box hS0 rfl (cs := [v_b_Cocycle_Orders, (Value.int .i64 b_Cocycle_Modulus), v_b_Cocycle_Values, v_b_Values]) rfl rfl ?_
  intro b1 wd2 hS3 he4 hx5
  replace hS3 : St w wd2 [bx b1 [v_b_Cocycle_Orders, (Value.int .i64 b_Cocycle_Modulus), v_b_Cocycle_Values, v_b_Values]] := hS3
  have hx6 := St.boxAt hS3 0 rfl
  have hE7 : Ext w wd2 := hS3.ext
  have hS8 : St wd2 wd2 [] := St.start wd2
  refine WL.val (Value.bool false) _ (op_assign rfl) rfl ?_
  refine WL.nil ?_
  show W _ _ _ _ _ _
  refine W.seq ?_
  refine W.drawR mixo 10 [] [fun _ v _ _ => v = (Value.pointer (some ⟨b1, 0, none⟩)), fun _ v _ _ => v = (Value.pointer (some ⟨b1, 2, none⟩)), fun _ v _ _ => v = v_b_Cocycle_Values, fun _ v _ _ => v = (Value.pointer (some ⟨b1, 3, none⟩)), fun _ v _ _ => v = v_b_Values, fun _ v _ _ => v = (Value.pointer (some ⟨b1, 0, none⟩)), fun _ v S w' => v = (Value.agg #[v_b_Cocycle_Orders, (Value.int .i64 b_Cocycle_Modulus), v_b_Cocycle_Values]) ∧ InR .i64 b_Cocycle_Modulus, fun _ v S w' => ∃ b : Nat, v = Value.pointer (some ⟨b, 0, none⟩) ∧ SepS S w' [bx b [(Value.slice none 0 0), (Value.int .i64 (0 : Int)), (Value.slice none 0 0)]], fun _ v _ _ => v = v_b_Cocycle_Values, fun _ v _ _ => v = v_b_Values] (by kernel_rfl) (by kernel_rfl) ⟨⟨fun _ _ _ _ _ _ h => h, fun _ _ _ _ _ _ h => h⟩, ⟨fun _ _ _ _ _ _ h => h, fun _ _ _ _ _ _ h => h⟩, ⟨fun _ _ _ _ _ _ h => h, fun _ _ _ _ _ _ h => h⟩, ⟨fun _ _ _ _ _ _ h => h, fun _ _ _ _ _ _ h => h⟩, ⟨fun _ _ _ _ _ _ h => h, fun _ _ _ _ _ _ h => h⟩, ⟨fun _ _ _ _ _ _ h => h, fun _ _ _ _ _ _ h => h⟩, ⟨fun _ _ _ _ _ he ⟨h0, h1⟩ => ⟨h0, h1⟩, fun _ _ _ _ _ _ h => h⟩, ⟨fun _ _ _ _ _ he ⟨b, h1, h2⟩ => ⟨b, h1, SepS.extend he h2⟩, fun _ _ _ _ _ _ h => h⟩, ⟨fun _ _ _ _ _ _ h => h, fun _ _ _ _ _ _ h => h⟩, ⟨fun _ _ _ _ _ _ h => h, fun _ _ _ _ _ _ h => h⟩, trivial⟩ ⟨?_, ?_, ?_, ?_, ?_, ?_, ?_, ?_, ?_, ?_, trivial⟩ ?_
  · refine ObX.op rfl ?_
    intro f9 wd10 he11 hout12 hphi13
    have hS14 : St wd2 wd10 [] := St.extend hS8 he11
    have e15 : f9 5 = (Value.pointer (some ⟨b1, 0, none⟩)) := (hout12 5 rfl).trans rfl
    exact OpX.val (Value.pointer (some ⟨b1, 0, none⟩)) wd10 rfl (op_fieldAddr fd_34_0 e15) (Ext.refl _) rfl
  · refine ObX.op rfl ?_
    intro f16 wd17 he18 hout19 hphi20
    have hS21 : St wd2 wd17 [] := St.extend hS8 he18
    obtain ⟨S22, hS23, hf24⟩ := hphi20 0 14 _ rfl rfl rfl
    have e25 : f16 14 = (Value.pointer (some ⟨b1, 0, none⟩)) := hf24
    exact OpX.val (Value.pointer (some ⟨b1, 2, none⟩)) wd17 rfl (op_fieldAddr fd_32_2 e25) (Ext.refl _) rfl
  · refine ObX.op rfl ?_
    intro f26 wd27 he28 hout29 hphi30
    have hS31 : St wd2 wd27 [] := St.extend hS8 he28
    obtain ⟨S32, hS33, hf34⟩ := hphi30 1 15 _ rfl rfl rfl
    have e35 : f26 15 = (Value.pointer (some ⟨b1, 2, none⟩)) := hf34
    exact OpX.val v_b_Cocycle_Values wd27 rfl (op_load one_23 e35 (BoxAt.cell (BoxAt.lift hS31.ext hx6) rfl)) (Ext.refl _) rfl
  · refine ObX.op rfl ?_
    intro f36 wd37 he38 hout39 hphi40
    have hS41 : St wd2 wd37 [] := St.extend hS8 he38
    have e42 : f36 5 = (Value.pointer (some ⟨b1, 0, none⟩)) := (hout39 5 rfl).trans rfl
    exact OpX.val (Value.pointer (some ⟨b1, 3, none⟩)) wd37 rfl (op_fieldAddr fd_34_1 e42) (Ext.refl _) rfl
  · refine ObX.op rfl ?_
    intro f43 wd44 he45 hout46 hphi47
    have hS48 : St wd2 wd44 [] := St.extend hS8 he45
    obtain ⟨S49, hS50, hf51⟩ := hphi47 3 17 _ rfl rfl rfl
    have e52 : f43 17 = (Value.pointer (some ⟨b1, 3, none⟩)) := hf51
    exact OpX.val v_b_Values wd44 rfl (op_load one_26 e52 (BoxAt.cell (BoxAt.lift hS48.ext hx6) rfl)) (Ext.refl _) rfl
  · refine ObX.op rfl ?_
    intro f53 wd54 he55 hout56 hphi57
    have hS58 : St wd2 wd54 [] := St.extend hS8 he55
    have e59 : f53 5 = (Value.pointer (some ⟨b1, 0, none⟩)) := (hout56 5 rfl).trans rfl
    exact OpX.val (Value.pointer (some ⟨b1, 0, none⟩)) wd54 rfl (op_fieldAddr fd_34_0 e59) (Ext.refl _) rfl
  · refine ObX.op rfl ?_
    intro f60 wd61 he62 hout63 hphi64
    have hS65 : St wd2 wd61 [] := St.extend hS8 he62
    obtain ⟨S66, hS67, hf68⟩ := hphi64 5 19 _ rfl rfl rfl
    have e69 : f60 19 = (Value.pointer (some ⟨b1, 0, none⟩)) := hf68
    exact OpX.val (Value.agg #[v_b_Cocycle_Orders, (Value.int .i64 b_Cocycle_Modulus), v_b_Cocycle_Values]) wd61 rfl (op_loadBox st_32 e69 (BoxAt.lift hS65.ext hx6) rfl rfl) (Ext.refl _) ⟨rfl, r_b_Cocycle_Modulus⟩
  · refine ObX.op rfl ?_
    intro f70 wd71 he72 hout73 hphi74
    have hS75 : St wd2 wd71 [] := St.extend hS8 he72
    exact OpX.valO _ _ rfl (op_alloc (cs := [(Value.slice none 0 0), (Value.int .i64 (0 : Int)), (Value.slice none 0 0)].toArray) ze_32 rfl) (Ext.alloc _ _) ⟨_, rfl, Sep.new (sep_box _ [(Value.slice none 0 0), (Value.int .i64 (0 : Int)), (Value.slice none 0 0)] _)⟩
  · refine ObX.op rfl ?_
    intro f76 wd77 he78 hout79 hphi80
    have hS81 : St wd2 wd77 [] := St.extend hS8 he78
    obtain ⟨S82, hS83, hf84⟩ := hphi80 2 16 _ rfl rfl rfl
    have e85 : f76 16 = v_b_Cocycle_Values := hf84
    exact OpX.val v_b_Cocycle_Values wd77 rfl (op_assign e85) (Ext.refl _) rfl
  · refine ObX.op rfl ?_
    intro f86 wd87 he88 hout89 hphi90
    have hS91 : St wd2 wd87 [] := St.extend hS8 he88
    obtain ⟨S92, hS93, hf94⟩ := hphi90 4 18 _ rfl rfl rfl
    have e95 : f86 18 = v_b_Values := hf94
    exact OpX.val v_b_Values wd87 rfl (op_assign e95) (Ext.refl _) rfl
  · intro f96 wd97 Ss98 he99 hout100 hSn101 hSd102 hphi103
    show WL _ _ _ _ _ _ _
    have hS104 : St wd2 wd97 [] := St.extend hS8 he99
    obtain ⟨e105, hr106⟩ := hphi103 6 20 _ (by decide) rfl rfl
    obtain ⟨b108, e107, e107s⟩ : ∃ b : Nat, f96 13 = Value.pointer (some ⟨b, 0, none⟩) ∧ SepS (Ss98 7) wd97 [bx b [(Value.slice none 0 0), (Value.int .i64 (0 : Int)), (Value.slice none 0 0)]] := hphi103 7 13 _ (by decide) rfl rfl
    have e109 : f96 11 = v_b_Cocycle_Values := hphi103 8 11 _ (by decide) rfl rfl
    have e110 : f96 12 = v_b_Values := hphi103 9 12 _ (by decide) rfl rfl
    have e111 : f96 1 = (Value.int .i64 equation) := (hout100 1 rfl).trans rfl
    have e112 : f96 2 = (Value.int .i64 x) := (hout100 2 rfl).trans rfl
    have e113 : f96 3 = (Value.int .i64 y) := (hout100 3 rfl).trans rfl
    have e114 : f96 4 = (Value.int .i64 z) := (hout100 4 rfl).trans rfl
    have hS115 := St.joinS hS8 he99 hSn101 (SepS.consS hSd102 rfl e107s SepS.nilS)
    replace hS115 : St wd2 wd97 [bx b108 [(Value.slice none 0 0), (Value.int .i64 (0 : Int)), (Value.slice none 0 0)]] := hS115
    refine WL.storeBox [v_b_Cocycle_Orders, (Value.int .i64 b_Cocycle_Modulus), v_b_Cocycle_Values] hS115 (k := 0) rfl e107 e105 (us := [v_b_Cocycle_Orders, (Value.int .i64 b_Cocycle_Modulus), v_b_Cocycle_Values]) rfl sz_32 rfl rfl (all_rep (Ty.lift _ (Ext.trans hE7 hS115.ext) r_b_Cocycle_Orders) (all_cons rfl (all_rep (Ty.lift _ (Ext.trans hE7 hS115.ext) r_b_Cocycle_Values) all_nil))) rfl ?_
    intro wd116 hS117
    replace hS117 : St wd2 wd116 [bx b108 [v_b_Cocycle_Orders, (Value.int .i64 b_Cocycle_Modulus), v_b_Cocycle_Values]] := hS117
    refine WL.nil ?_
    show W _ _ _ _ _ _
    refine W.seq (W.seq (W.region ?_))
    refine WL.val (Value.int .i64 equation) _ (op_move e111) rfl ?_
    refine WL.val (Value.bool (equation == (1 : Int))) _ (op_eql rfl rfl) rfl ?_
    refine WL.nil ?_
    show W _ _ _ _ _ _
    refine W.cond (equation == (1 : Int)) rfl (fun hc118 => ?_) (fun hc118 => ?_)
    · replace h := ip h hc118
      refine W.seq ?_
      obtain ⟨x156, hx159, h⟩ := bs h
      obtain ⟨ha157, hb158, hx159⟩ := idx_some hx159
      obtain ⟨u170, hc171, hr172⟩ := repSl.el r_b_Cocycle_Values hx159
      obtain ⟨x195, hx198, h⟩ := bs h
      obtain ⟨ha196, hb197, hx198⟩ := idx_some hx198
      obtain ⟨u209, hc210, hr211⟩ := repSl.el hr172 hx198
      obtain ⟨x234, hx237, h⟩ := bs h
      obtain ⟨ha235, hb236, hx237⟩ := idx_some hx237
      obtain ⟨u248, hc249, hr250⟩ := repSl.el hr211 hx237
      obtain ⟨rfl, hr250⟩ := hr250
      obtain ⟨x280, hx283, h⟩ := bs h
      obtain ⟨ha281, hb282, hx283⟩ := idx_some hx283
      obtain ⟨u294, hc295, hr296⟩ := repSl.el r_b_Values hx283
      obtain ⟨x339, hx340, h⟩ := bs h
      obtain ⟨x360, hx363, h⟩ := bs h
      obtain ⟨ha361, hb362, hx363⟩ := idx_some hx363
      obtain ⟨u374, hc375, hr376⟩ := repSl.el hr296 hx363
      obtain ⟨rfl, hr376⟩ := hr376
      obtain ⟨x422, hx425, h⟩ := bs h
      obtain ⟨ha423, hb424, hx425⟩ := idx_some hx425
      obtain ⟨u436, hc437, hr438⟩ := repSl.el r_b_Cocycle_Values hx425
      obtain ⟨x461, hx464, h⟩ := bs h
      obtain ⟨ha462, hb463, hx464⟩ := idx_some hx464
      obtain ⟨u475, hc476, hr477⟩ := repSl.el hr438 hx464
      obtain ⟨x500, hx503, h⟩ := bs h
      obtain ⟨ha501, hb502, hx503⟩ := idx_some hx503
      obtain ⟨u514, hc515, hr516⟩ := repSl.el hr477 hx503
      obtain ⟨rfl, hr516⟩ := hr516
      obtain ⟨x549, hx550, h⟩ := bs h
      obtain ⟨u601, hc602, hr603⟩ := repSl.el r_b_Values hx283
      obtain ⟨x626, hx629, h⟩ := bs h
      obtain ⟨ha627, hb628, hx629⟩ := idx_some hx629
      obtain ⟨u640, hc641, hr642⟩ := repSl.el hr603 hx629
      obtain ⟨rfl, hr642⟩ := hr642
      obtain ⟨u682, hc683, hr684⟩ := repSl.el r_b_Cocycle_Values hx159
      obtain ⟨x707, hx710, h⟩ := bs h
      obtain ⟨ha708, hb709, hx710⟩ := idx_some hx710
      obtain ⟨u721, hc722, hr723⟩ := repSl.el hr684 hx710
      obtain ⟨x746, hx749, h⟩ := bs h
      obtain ⟨ha747, hb748, hx749⟩ := idx_some hx749
      obtain ⟨u760, hc761, hr762⟩ := repSl.el hr723 hx749
      obtain ⟨rfl, hr762⟩ := hr762
      obtain ⟨u818, hc819, hr820⟩ := repSl.el r_b_Values hx283
      obtain ⟨x843, hx846, h⟩ := bs h
      obtain ⟨ha844, hb845, hx846⟩ := idx_some hx846
      obtain ⟨u857, hc858, hr859⟩ := repSl.el hr820 hx846
      obtain ⟨rfl, hr859⟩ := hr859
      refine W.drawR mixo 61 [] [fun _ v S w' => v = (Value.agg #[v_b_Cocycle_Orders, (Value.int .i64 b_Cocycle_Modulus), v_b_Cocycle_Values]) ∧ InR .i64 b_Cocycle_Modulus, fun _ v _ _ => v = v_b_Cocycle_Values, fun _ v _ _ => v = (Value.int .i64 y) ∧ InR .i64 y, fun _ v _ _ => v = (Value.pointer (some (elA v_b_Cocycle_Values (y).toNat))), fun _ v _ _ => v = u170, fun _ v _ _ => v = (Value.int .i64 z) ∧ InR .i64 z, fun _ v _ _ => v = (Value.pointer (some (elA u170 (z).toNat))), fun _ v _ _ => v = u209, fun _ v _ _ => v = (Value.int .i64 x) ∧ InR .i64 x, fun _ v _ _ => v = (Value.pointer (some (elA u209 (x).toNat))), fun _ v _ _ => v = (Value.int .i64 x234) ∧ InR .i64 x234, fun _ v _ _ => v = v_b_Values, fun _ v _ _ => v = (Value.int .i64 x) ∧ InR .i64 x, fun _ v _ _ => v = (Value.pointer (some (elA v_b_Values (x).toNat))), fun _ v _ _ => v = u294, fun _ v S w' => v = (Value.agg #[v_b_Cocycle_Orders, (Value.int .i64 b_Cocycle_Modulus), v_b_Cocycle_Values]) ∧ InR .i64 b_Cocycle_Modulus, fun _ v _ _ => v = (Value.int .i64 y) ∧ InR .i64 y, fun _ v _ _ => v = (Value.int .i64 z) ∧ InR .i64 z, fun _ v _ _ => v = (Value.int .i64 x339) ∧ InR .i64 x339, fun _ v _ _ => v = (Value.pointer (some (elA u294 (x339).toNat))), fun _ v _ _ => v = (Value.int .i64 x360) ∧ InR .i64 x360, fun _ v _ _ => v = (Value.int .i64 (w64 (x234 + x360))) ∧ InR .i64 (w64 (x234 + x360)), fun _ v _ _ => v = v_b_Cocycle_Values, fun _ v _ _ => v = (Value.int .i64 x) ∧ InR .i64 x, fun _ v _ _ => v = (Value.pointer (some (elA v_b_Cocycle_Values (x).toNat))), fun _ v _ _ => v = u436, fun _ v _ _ => v = (Value.int .i64 y) ∧ InR .i64 y, fun _ v _ _ => v = (Value.pointer (some (elA u436 (y).toNat))), fun _ v _ _ => v = u475, fun _ v _ _ => v = (Value.int .i64 z) ∧ InR .i64 z, fun _ v _ _ => v = (Value.pointer (some (elA u475 (z).toNat))), fun _ v _ _ => v = (Value.int .i64 x500) ∧ InR .i64 x500, fun _ v _ _ => v = (Value.int .i64 (w64 ((w64 (x234 + x360)) + x500))) ∧ InR .i64 (w64 ((w64 (x234 + x360)) + x500)), fun _ v _ _ => v = (Value.int .i64 x549) ∧ InR .i64 x549, fun _ v S w' => v = (Value.agg #[v_b_Cocycle_Orders, (Value.int .i64 b_Cocycle_Modulus), v_b_Cocycle_Values]) ∧ InR .i64 b_Cocycle_Modulus, fun _ v _ _ => v = v_b_Values, fun _ v _ _ => v = (Value.int .i64 x) ∧ InR .i64 x, fun _ v _ _ => v = (Value.pointer (some (elA v_b_Values (x).toNat))), fun _ v _ _ => v = u601, fun _ v _ _ => v = (Value.int .i64 z) ∧ InR .i64 z, fun _ v _ _ => v = (Value.pointer (some (elA u601 (z).toNat))), fun _ v _ _ => v = (Value.int .i64 x626) ∧ InR .i64 x626, fun _ v _ _ => v = v_b_Cocycle_Values, fun _ v _ _ => v = (Value.int .i64 y) ∧ InR .i64 y, fun _ v _ _ => v = (Value.pointer (some (elA v_b_Cocycle_Values (y).toNat))), fun _ v _ _ => v = u682, fun _ v _ _ => v = (Value.int .i64 x) ∧ InR .i64 x, fun _ v _ _ => v = (Value.pointer (some (elA u682 (x).toNat))), fun _ v _ _ => v = u721, fun _ v _ _ => v = (Value.int .i64 z) ∧ InR .i64 z, fun _ v _ _ => v = (Value.pointer (some (elA u721 (z).toNat))), fun _ v _ _ => v = (Value.int .i64 x746) ∧ InR .i64 x746, fun _ v _ _ => v = (Value.int .i64 (w64 (x626 + x746))) ∧ InR .i64 (w64 (x626 + x746)), fun _ v _ _ => v = v_b_Values, fun _ v _ _ => v = (Value.int .i64 x) ∧ InR .i64 x, fun _ v _ _ => v = (Value.pointer (some (elA v_b_Values (x).toNat))), fun _ v _ _ => v = u818, fun _ v _ _ => v = (Value.int .i64 y) ∧ InR .i64 y, fun _ v _ _ => v = (Value.pointer (some (elA u818 (y).toNat))), fun _ v _ _ => v = (Value.int .i64 x843) ∧ InR .i64 x843, fun _ v _ _ => v = (Value.int .i64 (w64 ((w64 (x626 + x746)) + x843))) ∧ InR .i64 (w64 ((w64 (x626 + x746)) + x843))] (by kernel_rfl) (by kernel_rfl) ⟨⟨fun _ _ _ _ _ he ⟨h0, h1⟩ => ⟨h0, h1⟩, fun _ _ _ _ _ _ h => h⟩, ⟨fun _ _ _ _ _ _ h => h, fun _ _ _ _ _ _ h => h⟩, ⟨fun _ _ _ _ _ _ h => h, fun _ _ _ _ _ _ h => h⟩, ⟨fun _ _ _ _ _ _ h => h, fun _ _ _ _ _ _ h => h⟩, ⟨fun _ _ _ _ _ _ h => h, fun _ _ _ _ _ _ h => h⟩, ⟨fun _ _ _ _ _ _ h => h, fun _ _ _ _ _ _ h => h⟩, ⟨fun _ _ _ _ _ _ h => h, fun _ _ _ _ _ _ h => h⟩, ⟨fun _ _ _ _ _ _ h => h, fun _ _ _ _ _ _ h => h⟩, ⟨fun _ _ _ _ _ _ h => h, fun _ _ _ _ _ _ h => h⟩, ⟨fun _ _ _ _ _ _ h => h, fun _ _ _ _ _ _ h => h⟩, ⟨fun _ _ _ _ _ _ h => h, fun _ _ _ _ _ _ h => h⟩, ⟨fun _ _ _ _ _ _ h => h, fun _ _ _ _ _ _ h => h⟩, ⟨fun _ _ _ _ _ _ h => h, fun _ _ _ _ _ _ h => h⟩, ⟨fun _ _ _ _ _ _ h => h, fun _ _ _ _ _ _ h => h⟩, ⟨fun _ _ _ _ _ _ h => h, fun _ _ _ _ _ _ h => h⟩, ⟨fun _ _ _ _ _ he ⟨h0, h1⟩ => ⟨h0, h1⟩, fun _ _ _ _ _ _ h => h⟩, ⟨fun _ _ _ _ _ _ h => h, fun _ _ _ _ _ _ h => h⟩, ⟨fun _ _ _ _ _ _ h => h, fun _ _ _ _ _ _ h => h⟩, ⟨fun _ _ _ _ _ _ h => h, fun _ _ _ _ _ _ h => h⟩, ⟨fun _ _ _ _ _ _ h => h, fun _ _ _ _ _ _ h => h⟩, ⟨fun _ _ _ _ _ _ h => h, fun _ _ _ _ _ _ h => h⟩, ⟨fun _ _ _ _ _ _ h => h, fun _ _ _ _ _ _ h => h⟩, ⟨fun _ _ _ _ _ _ h => h, fun _ _ _ _ _ _ h => h⟩, ⟨fun _ _ _ _ _ _ h => h, fun _ _ _ _ _ _ h => h⟩, ⟨fun _ _ _ _ _ _ h => h, fun _ _ _ _ _ _ h => h⟩, ⟨fun _ _ _ _ _ _ h => h, fun _ _ _ _ _ _ h => h⟩, ⟨fun _ _ _ _ _ _ h => h, fun _ _ _ _ _ _ h => h⟩, ⟨fun _ _ _ _ _ _ h => h, fun _ _ _ _ _ _ h => h⟩, ⟨fun _ _ _ _ _ _ h => h, fun _ _ _ _ _ _ h => h⟩, ⟨fun _ _ _ _ _ _ h => h, fun _ _ _ _ _ _ h => h⟩, ⟨fun _ _ _ _ _ _ h => h, fun _ _ _ _ _ _ h => h⟩, ⟨fun _ _ _ _ _ _ h => h, fun _ _ _ _ _ _ h => h⟩, ⟨fun _ _ _ _ _ _ h => h, fun _ _ _ _ _ _ h => h⟩, ⟨fun _ _ _ _ _ _ h => h, fun _ _ _ _ _ _ h => h⟩, ⟨fun _ _ _ _ _ he ⟨h0, h1⟩ => ⟨h0, h1⟩, fun _ _ _ _ _ _ h => h⟩, ⟨fun _ _ _ _ _ _ h => h, fun _ _ _ _ _ _ h => h⟩, ⟨fun _ _ _ _ _ _ h => h, fun _ _ _ _ _ _ h => h⟩, ⟨fun _ _ _ _ _ _ h => h, fun _ _ _ _ _ _ h => h⟩, ⟨fun _ _ _ _ _ _ h => h, fun _ _ _ _ _ _ h => h⟩, ⟨fun _ _ _ _ _ _ h => h, fun _ _ _ _ _ _ h => h⟩, ⟨fun _ _ _ _ _ _ h => h, fun _ _ _ _ _ _ h => h⟩, ⟨fun _ _ _ _ _ _ h => h, fun _ _ _ _ _ _ h => h⟩, ⟨fun _ _ _ _ _ _ h => h, fun _ _ _ _ _ _ h => h⟩, ⟨fun _ _ _ _ _ _ h => h, fun _ _ _ _ _ _ h => h⟩, ⟨fun _ _ _ _ _ _ h => h, fun _ _ _ _ _ _ h => h⟩, ⟨fun _ _ _ _ _ _ h => h, fun _ _ _ _ _ _ h => h⟩, ⟨fun _ _ _ _ _ _ h => h, fun _ _ _ _ _ _ h => h⟩, ⟨fun _ _ _ _ _ _ h => h, fun _ _ _ _ _ _ h => h⟩, ⟨fun _ _ _ _ _ _ h => h, fun _ _ _ _ _ _ h => h⟩, ⟨fun _ _ _ _ _ _ h => h, fun _ _ _ _ _ _ h => h⟩, ⟨fun _ _ _ _ _ _ h => h, fun _ _ _ _ _ _ h => h⟩, ⟨fun _ _ _ _ _ _ h => h, fun _ _ _ _ _ _ h => h⟩, ⟨fun _ _ _ _ _ _ h => h, fun _ _ _ _ _ _ h => h⟩, ⟨fun _ _ _ _ _ _ h => h, fun _ _ _ _ _ _ h => h⟩, ⟨fun _ _ _ _ _ _ h => h, fun _ _ _ _ _ _ h => h⟩, ⟨fun _ _ _ _ _ _ h => h, fun _ _ _ _ _ _ h => h⟩, ⟨fun _ _ _ _ _ _ h => h, fun _ _ _ _ _ _ h => h⟩, ⟨fun _ _ _ _ _ _ h => h, fun _ _ _ _ _ _ h => h⟩, ⟨fun _ _ _ _ _ _ h => h, fun _ _ _ _ _ _ h => h⟩, ⟨fun _ _ _ _ _ _ h => h, fun _ _ _ _ _ _ h => h⟩, ⟨fun _ _ _ _ _ _ h => h, fun _ _ _ _ _ _ h => h⟩, trivial⟩ ⟨?_, ?_, ?_, ?_, ?_, ?_, ?_, ?_, ?_, ?_, ?_, ?_, ?_, ?_, ?_, ?_, ?_, ?_, ?_, ?_, ?_, ?_, ?_, ?_, ?_, ?_, ?_, ?_, ?_, ?_, ?_, ?_, ?_, ?_, ?_, ?_, ?_, ?_, ?_, ?_, ?_, ?_, ?_, ?_, ?_, ?_, ?_, ?_, ?_, ?_, ?_, ?_, ?_, ?_, ?_, ?_, ?_, ?_, ?_, ?_, ?_, trivial⟩ ?_
      · refine ObX.op rfl ?_
        intro f120 wd121 he122 hout123 hphi124
        have hS125 : St wd2 wd121 [bx b108 [v_b_Cocycle_Orders, (Value.int .i64 b_Cocycle_Modulus), v_b_Cocycle_Values]] := St.extend hS117 he122
        have e126 : f120 13 = (Value.pointer (some ⟨b108, 0, none⟩)) := (hout123 13 rfl).trans e107
        exact OpX.val (Value.agg #[v_b_Cocycle_Orders, (Value.int .i64 b_Cocycle_Modulus), v_b_Cocycle_Values]) wd121 rfl (op_loadBox st_32 e126 (St.boxAt hS125 0 rfl) rfl rfl) (Ext.refl _) ⟨rfl, hr106⟩
      · refine ObX.op rfl ?_
        intro f127 wd128 he129 hout130 hphi131
        have hS132 : St wd2 wd128 [bx b108 [v_b_Cocycle_Orders, (Value.int .i64 b_Cocycle_Modulus), v_b_Cocycle_Values]] := St.extend hS117 he129
        have e133 : f127 11 = v_b_Cocycle_Values := (hout130 11 rfl).trans e109
        exact OpX.val v_b_Cocycle_Values wd128 rfl (op_move e133) (Ext.refl _) rfl
      · refine ObX.op rfl ?_
        intro f134 wd135 he136 hout137 hphi138
        have hS139 : St wd2 wd135 [bx b108 [v_b_Cocycle_Orders, (Value.int .i64 b_Cocycle_Modulus), v_b_Cocycle_Values]] := St.extend hS117 he136
        have e140 : f134 3 = (Value.int .i64 y) := (hout137 3 rfl).trans e113
        exact OpX.val (Value.int .i64 y) wd135 rfl (op_move e140) (Ext.refl _) ⟨rfl, r_y⟩
      · refine ObX.op rfl ?_
        intro f141 wd142 he143 hout144 hphi145
        have hS146 : St wd2 wd142 [bx b108 [v_b_Cocycle_Orders, (Value.int .i64 b_Cocycle_Modulus), v_b_Cocycle_Values]] := St.extend hS117 he143
        obtain ⟨S147, hS148, hf149⟩ := hphi145 1 24 _ rfl rfl rfl
        have e150 : f141 24 = v_b_Cocycle_Values := hf149
        obtain ⟨S151, hS152, hf153⟩ := hphi145 2 25 _ rfl rfl rfl
        obtain ⟨e154, hr155⟩ : f141 25 = (Value.int .i64 y) ∧ InR .i64 y := hf153
        exact OpX.val (Value.pointer (some (elA v_b_Cocycle_Values (y).toNat))) wd142 rfl (op_idx sl_23 (Ty.lift _ (Ext.trans hE7 hS146.ext) r_b_Cocycle_Values) e150 e154 ha157 hb158) (Ext.refl _) rfl
      · refine ObX.op rfl ?_
        intro f160 wd161 he162 hout163 hphi164
        have hS165 : St wd2 wd161 [bx b108 [v_b_Cocycle_Orders, (Value.int .i64 b_Cocycle_Modulus), v_b_Cocycle_Values]] := St.extend hS117 he162
        obtain ⟨S166, hS167, hf168⟩ := hphi164 3 26 _ rfl rfl rfl
        have e169 : f160 26 = (Value.pointer (some (elA v_b_Cocycle_Values (y).toNat))) := hf168
        exact OpX.val u170 wd161 rfl (op_load one_26 e169 (Ext.cell (Ext.trans hE7 hS165.ext) hc171)) (Ext.refl _) rfl
      · refine ObX.op rfl ?_
        intro f173 wd174 he175 hout176 hphi177
        have hS178 : St wd2 wd174 [bx b108 [v_b_Cocycle_Orders, (Value.int .i64 b_Cocycle_Modulus), v_b_Cocycle_Values]] := St.extend hS117 he175
        have e179 : f173 4 = (Value.int .i64 z) := (hout176 4 rfl).trans e114
        exact OpX.val (Value.int .i64 z) wd174 rfl (op_move e179) (Ext.refl _) ⟨rfl, r_z⟩
      · refine ObX.op rfl ?_
        intro f180 wd181 he182 hout183 hphi184
        have hS185 : St wd2 wd181 [bx b108 [v_b_Cocycle_Orders, (Value.int .i64 b_Cocycle_Modulus), v_b_Cocycle_Values]] := St.extend hS117 he182
        obtain ⟨S186, hS187, hf188⟩ := hphi184 4 27 _ rfl rfl rfl
        have e189 : f180 27 = u170 := hf188
        obtain ⟨S190, hS191, hf192⟩ := hphi184 5 28 _ rfl rfl rfl
        obtain ⟨e193, hr194⟩ : f180 28 = (Value.int .i64 z) ∧ InR .i64 z := hf192
        exact OpX.val (Value.pointer (some (elA u170 (z).toNat))) wd181 rfl (op_idx sl_26 (Ty.lift _ (Ext.trans hE7 hS185.ext) hr172) e189 e193 ha196 hb197) (Ext.refl _) rfl
      · refine ObX.op rfl ?_
        intro f199 wd200 he201 hout202 hphi203
        have hS204 : St wd2 wd200 [bx b108 [v_b_Cocycle_Orders, (Value.int .i64 b_Cocycle_Modulus), v_b_Cocycle_Values]] := St.extend hS117 he201
        obtain ⟨S205, hS206, hf207⟩ := hphi203 6 29 _ rfl rfl rfl
        have e208 : f199 29 = (Value.pointer (some (elA u170 (z).toNat))) := hf207
        exact OpX.val u209 wd200 rfl (op_load one_22 e208 (Ext.cell (Ext.trans hE7 hS204.ext) hc210)) (Ext.refl _) rfl
      · refine ObX.op rfl ?_
        intro f212 wd213 he214 hout215 hphi216
        have hS217 : St wd2 wd213 [bx b108 [v_b_Cocycle_Orders, (Value.int .i64 b_Cocycle_Modulus), v_b_Cocycle_Values]] := St.extend hS117 he214
        have e218 : f212 2 = (Value.int .i64 x) := (hout215 2 rfl).trans e112
        exact OpX.val (Value.int .i64 x) wd213 rfl (op_move e218) (Ext.refl _) ⟨rfl, r_x⟩
      · refine ObX.op rfl ?_
        intro f219 wd220 he221 hout222 hphi223
        have hS224 : St wd2 wd220 [bx b108 [v_b_Cocycle_Orders, (Value.int .i64 b_Cocycle_Modulus), v_b_Cocycle_Values]] := St.extend hS117 he221
        obtain ⟨S225, hS226, hf227⟩ := hphi223 7 30 _ rfl rfl rfl
        have e228 : f219 30 = u209 := hf227
        obtain ⟨S229, hS230, hf231⟩ := hphi223 8 31 _ rfl rfl rfl
        obtain ⟨e232, hr233⟩ : f219 31 = (Value.int .i64 x) ∧ InR .i64 x := hf231
        exact OpX.val (Value.pointer (some (elA u209 (x).toNat))) wd220 rfl (op_idx sl_22 (Ty.lift _ (Ext.trans hE7 hS224.ext) hr211) e228 e232 ha235 hb236) (Ext.refl _) rfl
      · refine ObX.op rfl ?_
        intro f238 wd239 he240 hout241 hphi242
        have hS243 : St wd2 wd239 [bx b108 [v_b_Cocycle_Orders, (Value.int .i64 b_Cocycle_Modulus), v_b_Cocycle_Values]] := St.extend hS117 he240
        obtain ⟨S244, hS245, hf246⟩ := hphi242 9 32 _ rfl rfl rfl
        have e247 : f238 32 = (Value.pointer (some (elA u209 (x).toNat))) := hf246
        exact OpX.val (Value.int .i64 x234) wd239 rfl (op_load one_2 e247 (Ext.cell (Ext.trans hE7 hS243.ext) hc249)) (Ext.refl _) ⟨rfl, hr250⟩
      · refine ObX.op rfl ?_
        intro f251 wd252 he253 hout254 hphi255
        have hS256 : St wd2 wd252 [bx b108 [v_b_Cocycle_Orders, (Value.int .i64 b_Cocycle_Modulus), v_b_Cocycle_Values]] := St.extend hS117 he253
        have e257 : f251 12 = v_b_Values := (hout254 12 rfl).trans e110
        exact OpX.val v_b_Values wd252 rfl (op_move e257) (Ext.refl _) rfl
      · refine ObX.op rfl ?_
        intro f258 wd259 he260 hout261 hphi262
        have hS263 : St wd2 wd259 [bx b108 [v_b_Cocycle_Orders, (Value.int .i64 b_Cocycle_Modulus), v_b_Cocycle_Values]] := St.extend hS117 he260
        have e264 : f258 2 = (Value.int .i64 x) := (hout261 2 rfl).trans e112
        exact OpX.val (Value.int .i64 x) wd259 rfl (op_move e264) (Ext.refl _) ⟨rfl, r_x⟩
      · refine ObX.op rfl ?_
        intro f265 wd266 he267 hout268 hphi269
        have hS270 : St wd2 wd266 [bx b108 [v_b_Cocycle_Orders, (Value.int .i64 b_Cocycle_Modulus), v_b_Cocycle_Values]] := St.extend hS117 he267
        obtain ⟨S271, hS272, hf273⟩ := hphi269 11 34 _ rfl rfl rfl
        have e274 : f265 34 = v_b_Values := hf273
        obtain ⟨S275, hS276, hf277⟩ := hphi269 12 35 _ rfl rfl rfl
        obtain ⟨e278, hr279⟩ : f265 35 = (Value.int .i64 x) ∧ InR .i64 x := hf277
        exact OpX.val (Value.pointer (some (elA v_b_Values (x).toNat))) wd266 rfl (op_idx sl_26 (Ty.lift _ (Ext.trans hE7 hS270.ext) r_b_Values) e274 e278 ha281 hb282) (Ext.refl _) rfl
      · refine ObX.op rfl ?_
        intro f284 wd285 he286 hout287 hphi288
        have hS289 : St wd2 wd285 [bx b108 [v_b_Cocycle_Orders, (Value.int .i64 b_Cocycle_Modulus), v_b_Cocycle_Values]] := St.extend hS117 he286
        obtain ⟨S290, hS291, hf292⟩ := hphi288 13 36 _ rfl rfl rfl
        have e293 : f284 36 = (Value.pointer (some (elA v_b_Values (x).toNat))) := hf292
        exact OpX.val u294 wd285 rfl (op_load one_22 e293 (Ext.cell (Ext.trans hE7 hS289.ext) hc295)) (Ext.refl _) rfl
      · refine ObX.op rfl ?_
        intro f297 wd298 he299 hout300 hphi301
        have hS302 : St wd2 wd298 [bx b108 [v_b_Cocycle_Orders, (Value.int .i64 b_Cocycle_Modulus), v_b_Cocycle_Values]] := St.extend hS117 he299
        have e303 : f297 13 = (Value.pointer (some ⟨b108, 0, none⟩)) := (hout300 13 rfl).trans e107
        exact OpX.val (Value.agg #[v_b_Cocycle_Orders, (Value.int .i64 b_Cocycle_Modulus), v_b_Cocycle_Values]) wd298 rfl (op_loadBox st_32 e303 (St.boxAt hS302 0 rfl) rfl rfl) (Ext.refl _) ⟨rfl, hr106⟩
      · refine ObX.op rfl ?_
        intro f304 wd305 he306 hout307 hphi308
        have hS309 : St wd2 wd305 [bx b108 [v_b_Cocycle_Orders, (Value.int .i64 b_Cocycle_Modulus), v_b_Cocycle_Values]] := St.extend hS117 he306
        have e310 : f304 3 = (Value.int .i64 y) := (hout307 3 rfl).trans e113
        exact OpX.val (Value.int .i64 y) wd305 rfl (op_move e310) (Ext.refl _) ⟨rfl, r_y⟩
      · refine ObX.op rfl ?_
        intro f311 wd312 he313 hout314 hphi315
        have hS316 : St wd2 wd312 [bx b108 [v_b_Cocycle_Orders, (Value.int .i64 b_Cocycle_Modulus), v_b_Cocycle_Values]] := St.extend hS117 he313
        have e317 : f311 4 = (Value.int .i64 z) := (hout314 4 rfl).trans e114
        exact OpX.val (Value.int .i64 z) wd312 rfl (op_move e317) (Ext.refl _) ⟨rfl, r_z⟩
      · refine ObX.op rfl ?_
        intro f318 wd319 he320 hout321 hphi322
        have hS323 : St wd2 wd319 [bx b108 [v_b_Cocycle_Orders, (Value.int .i64 b_Cocycle_Modulus), v_b_Cocycle_Values]] := St.extend hS117 he320
        obtain ⟨S324, hS325, hf326⟩ := hphi322 15 38 _ rfl rfl rfl
        obtain ⟨e327, hr328⟩ := hf326
        obtain ⟨S329, hS330, hf331⟩ := hphi322 16 39 _ rfl rfl rfl
        obtain ⟨e332, hr333⟩ : f318 39 = (Value.int .i64 y) ∧ InR .i64 y := hf331
        obtain ⟨S334, hS335, hf336⟩ := hphi322 17 40 _ rfl rfl rfl
        obtain ⟨e337, hr338⟩ : f318 40 = (Value.int .i64 z) ∧ InR .i64 z := hf336
        refine OpX.call rfl (op_call fn_97 (args3 e327 e332 e337)) (Ret.mono (c_impl_Cocycle_plus (Ty.lift _ (Ext.trans hE7 hS323.ext) r_b_Cocycle_Orders) hr328 (Ty.lift _ (Ext.trans hE7 hS323.ext) r_b_Cocycle_Values) hr333 hr338 hx340) ?_)
        rintro _ wd342 ⟨rfl, hr341, he343⟩
        exact ⟨he343, _, noS _ _, ⟨rfl, hr341⟩⟩
      · refine ObX.op rfl ?_
        intro f345 wd346 he347 hout348 hphi349
        have hS350 : St wd2 wd346 [bx b108 [v_b_Cocycle_Orders, (Value.int .i64 b_Cocycle_Modulus), v_b_Cocycle_Values]] := St.extend hS117 he347
        obtain ⟨S351, hS352, hf353⟩ := hphi349 14 37 _ rfl rfl rfl
        have e354 : f345 37 = u294 := hf353
        obtain ⟨S355, hS356, hf357⟩ := hphi349 18 41 _ rfl rfl rfl
        obtain ⟨e358, hr359⟩ : f345 41 = (Value.int .i64 x339) ∧ InR .i64 x339 := hf357
        exact OpX.val (Value.pointer (some (elA u294 (x339).toNat))) wd346 rfl (op_idx sl_22 (Ty.lift _ (Ext.trans hE7 hS350.ext) hr296) e354 e358 ha361 hb362) (Ext.refl _) rfl
      · refine ObX.op rfl ?_
        intro f364 wd365 he366 hout367 hphi368
        have hS369 : St wd2 wd365 [bx b108 [v_b_Cocycle_Orders, (Value.int .i64 b_Cocycle_Modulus), v_b_Cocycle_Values]] := St.extend hS117 he366
        obtain ⟨S370, hS371, hf372⟩ := hphi368 19 42 _ rfl rfl rfl
        have e373 : f364 42 = (Value.pointer (some (elA u294 (x339).toNat))) := hf372
        exact OpX.val (Value.int .i64 x360) wd365 rfl (op_load one_2 e373 (Ext.cell (Ext.trans hE7 hS369.ext) hc375)) (Ext.refl _) ⟨rfl, hr376⟩
      · refine ObX.op rfl ?_
        intro f377 wd378 he379 hout380 hphi381
        have hS382 : St wd2 wd378 [bx b108 [v_b_Cocycle_Orders, (Value.int .i64 b_Cocycle_Modulus), v_b_Cocycle_Values]] := St.extend hS117 he379
        obtain ⟨S383, hS384, hf385⟩ := hphi381 10 33 _ rfl rfl rfl
        obtain ⟨e386, hr387⟩ : f377 33 = (Value.int .i64 x234) ∧ InR .i64 x234 := hf385
        obtain ⟨S388, hS389, hf390⟩ := hphi381 20 43 _ rfl rfl rfl
        obtain ⟨e391, hr392⟩ : f377 43 = (Value.int .i64 x360) ∧ InR .i64 x360 := hf390
        exact OpX.val (Value.int .i64 (w64 (x234 + x360))) wd378 rfl (op_add e386 e391) (Ext.refl _) ⟨rfl, (inR_wrap _ _)⟩
      · refine ObX.op rfl ?_
        intro f393 wd394 he395 hout396 hphi397
        have hS398 : St wd2 wd394 [bx b108 [v_b_Cocycle_Orders, (Value.int .i64 b_Cocycle_Modulus), v_b_Cocycle_Values]] := St.extend hS117 he395
        have e399 : f393 11 = v_b_Cocycle_Values := (hout396 11 rfl).trans e109
        exact OpX.val v_b_Cocycle_Values wd394 rfl (op_move e399) (Ext.refl _) rfl
      · refine ObX.op rfl ?_
        intro f400 wd401 he402 hout403 hphi404
        have hS405 : St wd2 wd401 [bx b108 [v_b_Cocycle_Orders, (Value.int .i64 b_Cocycle_Modulus), v_b_Cocycle_Values]] := St.extend hS117 he402
        have e406 : f400 2 = (Value.int .i64 x) := (hout403 2 rfl).trans e112
        exact OpX.val (Value.int .i64 x) wd401 rfl (op_move e406) (Ext.refl _) ⟨rfl, r_x⟩
      · refine ObX.op rfl ?_
        intro f407 wd408 he409 hout410 hphi411
        have hS412 : St wd2 wd408 [bx b108 [v_b_Cocycle_Orders, (Value.int .i64 b_Cocycle_Modulus), v_b_Cocycle_Values]] := St.extend hS117 he409
        obtain ⟨S413, hS414, hf415⟩ := hphi411 22 45 _ rfl rfl rfl
        have e416 : f407 45 = v_b_Cocycle_Values := hf415
        obtain ⟨S417, hS418, hf419⟩ := hphi411 23 46 _ rfl rfl rfl
        obtain ⟨e420, hr421⟩ : f407 46 = (Value.int .i64 x) ∧ InR .i64 x := hf419
        exact OpX.val (Value.pointer (some (elA v_b_Cocycle_Values (x).toNat))) wd408 rfl (op_idx sl_23 (Ty.lift _ (Ext.trans hE7 hS412.ext) r_b_Cocycle_Values) e416 e420 ha423 hb424) (Ext.refl _) rfl
      · refine ObX.op rfl ?_
        intro f426 wd427 he428 hout429 hphi430
        have hS431 : St wd2 wd427 [bx b108 [v_b_Cocycle_Orders, (Value.int .i64 b_Cocycle_Modulus), v_b_Cocycle_Values]] := St.extend hS117 he428
        obtain ⟨S432, hS433, hf434⟩ := hphi430 24 47 _ rfl rfl rfl
        have e435 : f426 47 = (Value.pointer (some (elA v_b_Cocycle_Values (x).toNat))) := hf434
        exact OpX.val u436 wd427 rfl (op_load one_26 e435 (Ext.cell (Ext.trans hE7 hS431.ext) hc437)) (Ext.refl _) rfl
      · refine ObX.op rfl ?_
        intro f439 wd440 he441 hout442 hphi443
        have hS444 : St wd2 wd440 [bx b108 [v_b_Cocycle_Orders, (Value.int .i64 b_Cocycle_Modulus), v_b_Cocycle_Values]] := St.extend hS117 he441
        have e445 : f439 3 = (Value.int .i64 y) := (hout442 3 rfl).trans e113
        exact OpX.val (Value.int .i64 y) wd440 rfl (op_move e445) (Ext.refl _) ⟨rfl, r_y⟩
      · refine ObX.op rfl ?_
        intro f446 wd447 he448 hout449 hphi450
        have hS451 : St wd2 wd447 [bx b108 [v_b_Cocycle_Orders, (Value.int .i64 b_Cocycle_Modulus), v_b_Cocycle_Values]] := St.extend hS117 he448
        obtain ⟨S452, hS453, hf454⟩ := hphi450 25 48 _ rfl rfl rfl
        have e455 : f446 48 = u436 := hf454
        obtain ⟨S456, hS457, hf458⟩ := hphi450 26 49 _ rfl rfl rfl
        obtain ⟨e459, hr460⟩ : f446 49 = (Value.int .i64 y) ∧ InR .i64 y := hf458
        exact OpX.val (Value.pointer (some (elA u436 (y).toNat))) wd447 rfl (op_idx sl_26 (Ty.lift _ (Ext.trans hE7 hS451.ext) hr438) e455 e459 ha462 hb463) (Ext.refl _) rfl
      · refine ObX.op rfl ?_
        intro f465 wd466 he467 hout468 hphi469
        have hS470 : St wd2 wd466 [bx b108 [v_b_Cocycle_Orders, (Value.int .i64 b_Cocycle_Modulus), v_b_Cocycle_Values]] := St.extend hS117 he467
        obtain ⟨S471, hS472, hf473⟩ := hphi469 27 50 _ rfl rfl rfl
        have e474 : f465 50 = (Value.pointer (some (elA u436 (y).toNat))) := hf473
        exact OpX.val u475 wd466 rfl (op_load one_22 e474 (Ext.cell (Ext.trans hE7 hS470.ext) hc476)) (Ext.refl _) rfl
      · refine ObX.op rfl ?_
        intro f478 wd479 he480 hout481 hphi482
        have hS483 : St wd2 wd479 [bx b108 [v_b_Cocycle_Orders, (Value.int .i64 b_Cocycle_Modulus), v_b_Cocycle_Values]] := St.extend hS117 he480
        have e484 : f478 4 = (Value.int .i64 z) := (hout481 4 rfl).trans e114
        exact OpX.val (Value.int .i64 z) wd479 rfl (op_move e484) (Ext.refl _) ⟨rfl, r_z⟩
      · refine ObX.op rfl ?_
        intro f485 wd486 he487 hout488 hphi489
        have hS490 : St wd2 wd486 [bx b108 [v_b_Cocycle_Orders, (Value.int .i64 b_Cocycle_Modulus), v_b_Cocycle_Values]] := St.extend hS117 he487
        obtain ⟨S491, hS492, hf493⟩ := hphi489 28 51 _ rfl rfl rfl
        have e494 : f485 51 = u475 := hf493
        obtain ⟨S495, hS496, hf497⟩ := hphi489 29 52 _ rfl rfl rfl
        obtain ⟨e498, hr499⟩ : f485 52 = (Value.int .i64 z) ∧ InR .i64 z := hf497
        exact OpX.val (Value.pointer (some (elA u475 (z).toNat))) wd486 rfl (op_idx sl_22 (Ty.lift _ (Ext.trans hE7 hS490.ext) hr477) e494 e498 ha501 hb502) (Ext.refl _) rfl
      · refine ObX.op rfl ?_
        intro f504 wd505 he506 hout507 hphi508
        have hS509 : St wd2 wd505 [bx b108 [v_b_Cocycle_Orders, (Value.int .i64 b_Cocycle_Modulus), v_b_Cocycle_Values]] := St.extend hS117 he506
        obtain ⟨S510, hS511, hf512⟩ := hphi508 30 53 _ rfl rfl rfl
        have e513 : f504 53 = (Value.pointer (some (elA u475 (z).toNat))) := hf512
        exact OpX.val (Value.int .i64 x500) wd505 rfl (op_load one_2 e513 (Ext.cell (Ext.trans hE7 hS509.ext) hc515)) (Ext.refl _) ⟨rfl, hr516⟩
      · refine ObX.op rfl ?_
        intro f517 wd518 he519 hout520 hphi521
        have hS522 : St wd2 wd518 [bx b108 [v_b_Cocycle_Orders, (Value.int .i64 b_Cocycle_Modulus), v_b_Cocycle_Values]] := St.extend hS117 he519
        obtain ⟨S523, hS524, hf525⟩ := hphi521 21 44 _ rfl rfl rfl
        obtain ⟨e526, hr527⟩ : f517 44 = (Value.int .i64 (w64 (x234 + x360))) ∧ InR .i64 (w64 (x234 + x360)) := hf525
        obtain ⟨S528, hS529, hf530⟩ := hphi521 31 54 _ rfl rfl rfl
        obtain ⟨e531, hr532⟩ : f517 54 = (Value.int .i64 x500) ∧ InR .i64 x500 := hf530
        exact OpX.val (Value.int .i64 (w64 ((w64 (x234 + x360)) + x500))) wd518 rfl (op_add e526 e531) (Ext.refl _) ⟨rfl, (inR_wrap _ _)⟩
      · refine ObX.op rfl ?_
        intro f533 wd534 he535 hout536 hphi537
        have hS538 : St wd2 wd534 [bx b108 [v_b_Cocycle_Orders, (Value.int .i64 b_Cocycle_Modulus), v_b_Cocycle_Values]] := St.extend hS117 he535
        obtain ⟨S539, hS540, hf541⟩ := hphi537 0 23 _ rfl rfl rfl
        obtain ⟨e542, hr543⟩ := hf541
        obtain ⟨S544, hS545, hf546⟩ := hphi537 32 55 _ rfl rfl rfl
        obtain ⟨e547, hr548⟩ : f533 55 = (Value.int .i64 (w64 ((w64 (x234 + x360)) + x500))) ∧ InR .i64 (w64 ((w64 (x234 + x360)) + x500)) := hf546
        refine OpX.call rfl (op_call fn_72 (args2 e542 e547)) (Ret.mono (c_impl_Cocycle_rest (Ty.lift _ (Ext.trans hE7 hS538.ext) r_b_Cocycle_Orders) hr543 (Ty.lift _ (Ext.trans hE7 hS538.ext) r_b_Cocycle_Values) hr548 hx550) ?_)
        rintro _ wd552 ⟨rfl, hr551, he553⟩
        exact ⟨he553, _, noS _ _, ⟨rfl, hr551⟩⟩
      · refine ObX.op rfl ?_
        intro f555 wd556 he557 hout558 hphi559
        have hS560 : St wd2 wd556 [bx b108 [v_b_Cocycle_Orders, (Value.int .i64 b_Cocycle_Modulus), v_b_Cocycle_Values]] := St.extend hS117 he557
        have e561 : f555 13 = (Value.pointer (some ⟨b108, 0, none⟩)) := (hout558 13 rfl).trans e107
        exact OpX.val (Value.agg #[v_b_Cocycle_Orders, (Value.int .i64 b_Cocycle_Modulus), v_b_Cocycle_Values]) wd556 rfl (op_loadBox st_32 e561 (St.boxAt hS560 0 rfl) rfl rfl) (Ext.refl _) ⟨rfl, hr106⟩
      · refine ObX.op rfl ?_
        intro f562 wd563 he564 hout565 hphi566
        have hS567 : St wd2 wd563 [bx b108 [v_b_Cocycle_Orders, (Value.int .i64 b_Cocycle_Modulus), v_b_Cocycle_Values]] := St.extend hS117 he564
        have e568 : f562 12 = v_b_Values := (hout565 12 rfl).trans e110
        exact OpX.val v_b_Values wd563 rfl (op_move e568) (Ext.refl _) rfl
      · refine ObX.op rfl ?_
        intro f569 wd570 he571 hout572 hphi573
        have hS574 : St wd2 wd570 [bx b108 [v_b_Cocycle_Orders, (Value.int .i64 b_Cocycle_Modulus), v_b_Cocycle_Values]] := St.extend hS117 he571
        have e575 : f569 2 = (Value.int .i64 x) := (hout572 2 rfl).trans e112
        exact OpX.val (Value.int .i64 x) wd570 rfl (op_move e575) (Ext.refl _) ⟨rfl, r_x⟩
      · refine ObX.op rfl ?_
        intro f576 wd577 he578 hout579 hphi580
        have hS581 : St wd2 wd577 [bx b108 [v_b_Cocycle_Orders, (Value.int .i64 b_Cocycle_Modulus), v_b_Cocycle_Values]] := St.extend hS117 he578
        obtain ⟨S582, hS583, hf584⟩ := hphi580 35 58 _ rfl rfl rfl
        have e585 : f576 58 = v_b_Values := hf584
        obtain ⟨S586, hS587, hf588⟩ := hphi580 36 59 _ rfl rfl rfl
        obtain ⟨e589, hr590⟩ : f576 59 = (Value.int .i64 x) ∧ InR .i64 x := hf588
        exact OpX.val (Value.pointer (some (elA v_b_Values (x).toNat))) wd577 rfl (op_idx sl_26 (Ty.lift _ (Ext.trans hE7 hS581.ext) r_b_Values) e585 e589 ha281 hb282) (Ext.refl _) rfl
      · refine ObX.op rfl ?_
        intro f591 wd592 he593 hout594 hphi595
        have hS596 : St wd2 wd592 [bx b108 [v_b_Cocycle_Orders, (Value.int .i64 b_Cocycle_Modulus), v_b_Cocycle_Values]] := St.extend hS117 he593
        obtain ⟨S597, hS598, hf599⟩ := hphi595 37 60 _ rfl rfl rfl
        have e600 : f591 60 = (Value.pointer (some (elA v_b_Values (x).toNat))) := hf599
        exact OpX.val u601 wd592 rfl (op_load one_22 e600 (Ext.cell (Ext.trans hE7 hS596.ext) hc602)) (Ext.refl _) rfl
      · refine ObX.op rfl ?_
        intro f604 wd605 he606 hout607 hphi608
        have hS609 : St wd2 wd605 [bx b108 [v_b_Cocycle_Orders, (Value.int .i64 b_Cocycle_Modulus), v_b_Cocycle_Values]] := St.extend hS117 he606
        have e610 : f604 4 = (Value.int .i64 z) := (hout607 4 rfl).trans e114
        exact OpX.val (Value.int .i64 z) wd605 rfl (op_move e610) (Ext.refl _) ⟨rfl, r_z⟩
      · refine ObX.op rfl ?_
        intro f611 wd612 he613 hout614 hphi615
        have hS616 : St wd2 wd612 [bx b108 [v_b_Cocycle_Orders, (Value.int .i64 b_Cocycle_Modulus), v_b_Cocycle_Values]] := St.extend hS117 he613
        obtain ⟨S617, hS618, hf619⟩ := hphi615 38 61 _ rfl rfl rfl
        have e620 : f611 61 = u601 := hf619
        obtain ⟨S621, hS622, hf623⟩ := hphi615 39 62 _ rfl rfl rfl
        obtain ⟨e624, hr625⟩ : f611 62 = (Value.int .i64 z) ∧ InR .i64 z := hf623
        exact OpX.val (Value.pointer (some (elA u601 (z).toNat))) wd612 rfl (op_idx sl_22 (Ty.lift _ (Ext.trans hE7 hS616.ext) hr603) e620 e624 ha627 hb628) (Ext.refl _) rfl
      · refine ObX.op rfl ?_
        intro f630 wd631 he632 hout633 hphi634
        have hS635 : St wd2 wd631 [bx b108 [v_b_Cocycle_Orders, (Value.int .i64 b_Cocycle_Modulus), v_b_Cocycle_Values]] := St.extend hS117 he632
        obtain ⟨S636, hS637, hf638⟩ := hphi634 40 63 _ rfl rfl rfl
        have e639 : f630 63 = (Value.pointer (some (elA u601 (z).toNat))) := hf638
        exact OpX.val (Value.int .i64 x626) wd631 rfl (op_load one_2 e639 (Ext.cell (Ext.trans hE7 hS635.ext) hc641)) (Ext.refl _) ⟨rfl, hr642⟩
      · refine ObX.op rfl ?_
        intro f643 wd644 he645 hout646 hphi647
        have hS648 : St wd2 wd644 [bx b108 [v_b_Cocycle_Orders, (Value.int .i64 b_Cocycle_Modulus), v_b_Cocycle_Values]] := St.extend hS117 he645
        have e649 : f643 11 = v_b_Cocycle_Values := (hout646 11 rfl).trans e109
        exact OpX.val v_b_Cocycle_Values wd644 rfl (op_move e649) (Ext.refl _) rfl
      · refine ObX.op rfl ?_
        intro f650 wd651 he652 hout653 hphi654
        have hS655 : St wd2 wd651 [bx b108 [v_b_Cocycle_Orders, (Value.int .i64 b_Cocycle_Modulus), v_b_Cocycle_Values]] := St.extend hS117 he652
        have e656 : f650 3 = (Value.int .i64 y) := (hout653 3 rfl).trans e113
        exact OpX.val (Value.int .i64 y) wd651 rfl (op_move e656) (Ext.refl _) ⟨rfl, r_y⟩
      · refine ObX.op rfl ?_
        intro f657 wd658 he659 hout660 hphi661
        have hS662 : St wd2 wd658 [bx b108 [v_b_Cocycle_Orders, (Value.int .i64 b_Cocycle_Modulus), v_b_Cocycle_Values]] := St.extend hS117 he659
        obtain ⟨S663, hS664, hf665⟩ := hphi661 42 65 _ rfl rfl rfl
        have e666 : f657 65 = v_b_Cocycle_Values := hf665
        obtain ⟨S667, hS668, hf669⟩ := hphi661 43 66 _ rfl rfl rfl
        obtain ⟨e670, hr671⟩ : f657 66 = (Value.int .i64 y) ∧ InR .i64 y := hf669
        exact OpX.val (Value.pointer (some (elA v_b_Cocycle_Values (y).toNat))) wd658 rfl (op_idx sl_23 (Ty.lift _ (Ext.trans hE7 hS662.ext) r_b_Cocycle_Values) e666 e670 ha157 hb158) (Ext.refl _) rfl
      · refine ObX.op rfl ?_
        intro f672 wd673 he674 hout675 hphi676
        have hS677 : St wd2 wd673 [bx b108 [v_b_Cocycle_Orders, (Value.int .i64 b_Cocycle_Modulus), v_b_Cocycle_Values]] := St.extend hS117 he674
        obtain ⟨S678, hS679, hf680⟩ := hphi676 44 67 _ rfl rfl rfl
        have e681 : f672 67 = (Value.pointer (some (elA v_b_Cocycle_Values (y).toNat))) := hf680
        exact OpX.val u682 wd673 rfl (op_load one_26 e681 (Ext.cell (Ext.trans hE7 hS677.ext) hc683)) (Ext.refl _) rfl
      · refine ObX.op rfl ?_
        intro f685 wd686 he687 hout688 hphi689
        have hS690 : St wd2 wd686 [bx b108 [v_b_Cocycle_Orders, (Value.int .i64 b_Cocycle_Modulus), v_b_Cocycle_Values]] := St.extend hS117 he687
        have e691 : f685 2 = (Value.int .i64 x) := (hout688 2 rfl).trans e112
        exact OpX.val (Value.int .i64 x) wd686 rfl (op_move e691) (Ext.refl _) ⟨rfl, r_x⟩
      · refine ObX.op rfl ?_
        intro f692 wd693 he694 hout695 hphi696
        have hS697 : St wd2 wd693 [bx b108 [v_b_Cocycle_Orders, (Value.int .i64 b_Cocycle_Modulus), v_b_Cocycle_Values]] := St.extend hS117 he694
        obtain ⟨S698, hS699, hf700⟩ := hphi696 45 68 _ rfl rfl rfl
        have e701 : f692 68 = u682 := hf700
        obtain ⟨S702, hS703, hf704⟩ := hphi696 46 69 _ rfl rfl rfl
        obtain ⟨e705, hr706⟩ : f692 69 = (Value.int .i64 x) ∧ InR .i64 x := hf704
        exact OpX.val (Value.pointer (some (elA u682 (x).toNat))) wd693 rfl (op_idx sl_26 (Ty.lift _ (Ext.trans hE7 hS697.ext) hr684) e701 e705 ha708 hb709) (Ext.refl _) rfl
      · refine ObX.op rfl ?_
        intro f711 wd712 he713 hout714 hphi715
        have hS716 : St wd2 wd712 [bx b108 [v_b_Cocycle_Orders, (Value.int .i64 b_Cocycle_Modulus), v_b_Cocycle_Values]] := St.extend hS117 he713
        obtain ⟨S717, hS718, hf719⟩ := hphi715 47 70 _ rfl rfl rfl
        have e720 : f711 70 = (Value.pointer (some (elA u682 (x).toNat))) := hf719
        exact OpX.val u721 wd712 rfl (op_load one_22 e720 (Ext.cell (Ext.trans hE7 hS716.ext) hc722)) (Ext.refl _) rfl
      · refine ObX.op rfl ?_
        intro f724 wd725 he726 hout727 hphi728
        have hS729 : St wd2 wd725 [bx b108 [v_b_Cocycle_Orders, (Value.int .i64 b_Cocycle_Modulus), v_b_Cocycle_Values]] := St.extend hS117 he726
        have e730 : f724 4 = (Value.int .i64 z) := (hout727 4 rfl).trans e114
        exact OpX.val (Value.int .i64 z) wd725 rfl (op_move e730) (Ext.refl _) ⟨rfl, r_z⟩
      · refine ObX.op rfl ?_
        intro f731 wd732 he733 hout734 hphi735
        have hS736 : St wd2 wd732 [bx b108 [v_b_Cocycle_Orders, (Value.int .i64 b_Cocycle_Modulus), v_b_Cocycle_Values]] := St.extend hS117 he733
        obtain ⟨S737, hS738, hf739⟩ := hphi735 48 71 _ rfl rfl rfl
        have e740 : f731 71 = u721 := hf739
        obtain ⟨S741, hS742, hf743⟩ := hphi735 49 72 _ rfl rfl rfl
        obtain ⟨e744, hr745⟩ : f731 72 = (Value.int .i64 z) ∧ InR .i64 z := hf743
        exact OpX.val (Value.pointer (some (elA u721 (z).toNat))) wd732 rfl (op_idx sl_22 (Ty.lift _ (Ext.trans hE7 hS736.ext) hr723) e740 e744 ha747 hb748) (Ext.refl _) rfl
      · refine ObX.op rfl ?_
        intro f750 wd751 he752 hout753 hphi754
        have hS755 : St wd2 wd751 [bx b108 [v_b_Cocycle_Orders, (Value.int .i64 b_Cocycle_Modulus), v_b_Cocycle_Values]] := St.extend hS117 he752
        obtain ⟨S756, hS757, hf758⟩ := hphi754 50 73 _ rfl rfl rfl
        have e759 : f750 73 = (Value.pointer (some (elA u721 (z).toNat))) := hf758
        exact OpX.val (Value.int .i64 x746) wd751 rfl (op_load one_2 e759 (Ext.cell (Ext.trans hE7 hS755.ext) hc761)) (Ext.refl _) ⟨rfl, hr762⟩
      · refine ObX.op rfl ?_
        intro f763 wd764 he765 hout766 hphi767
        have hS768 : St wd2 wd764 [bx b108 [v_b_Cocycle_Orders, (Value.int .i64 b_Cocycle_Modulus), v_b_Cocycle_Values]] := St.extend hS117 he765
        obtain ⟨S769, hS770, hf771⟩ := hphi767 41 64 _ rfl rfl rfl
        obtain ⟨e772, hr773⟩ : f763 64 = (Value.int .i64 x626) ∧ InR .i64 x626 := hf771
        obtain ⟨S774, hS775, hf776⟩ := hphi767 51 74 _ rfl rfl rfl
        obtain ⟨e777, hr778⟩ : f763 74 = (Value.int .i64 x746) ∧ InR .i64 x746 := hf776
        exact OpX.val (Value.int .i64 (w64 (x626 + x746))) wd764 rfl (op_add e772 e777) (Ext.refl _) ⟨rfl, (inR_wrap _ _)⟩
      · refine ObX.op rfl ?_
        intro f779 wd780 he781 hout782 hphi783
        have hS784 : St wd2 wd780 [bx b108 [v_b_Cocycle_Orders, (Value.int .i64 b_Cocycle_Modulus), v_b_Cocycle_Values]] := St.extend hS117 he781
        have e785 : f779 12 = v_b_Values := (hout782 12 rfl).trans e110
        exact OpX.val v_b_Values wd780 rfl (op_move e785) (Ext.refl _) rfl
      · refine ObX.op rfl ?_
        intro f786 wd787 he788 hout789 hphi790
        have hS791 : St wd2 wd787 [bx b108 [v_b_Cocycle_Orders, (Value.int .i64 b_Cocycle_Modulus), v_b_Cocycle_Values]] := St.extend hS117 he788
        have e792 : f786 2 = (Value.int .i64 x) := (hout789 2 rfl).trans e112
        exact OpX.val (Value.int .i64 x) wd787 rfl (op_move e792) (Ext.refl _) ⟨rfl, r_x⟩
      · refine ObX.op rfl ?_
        intro f793 wd794 he795 hout796 hphi797
        have hS798 : St wd2 wd794 [bx b108 [v_b_Cocycle_Orders, (Value.int .i64 b_Cocycle_Modulus), v_b_Cocycle_Values]] := St.extend hS117 he795
        obtain ⟨S799, hS800, hf801⟩ := hphi797 53 76 _ rfl rfl rfl
        have e802 : f793 76 = v_b_Values := hf801
        obtain ⟨S803, hS804, hf805⟩ := hphi797 54 77 _ rfl rfl rfl
        obtain ⟨e806, hr807⟩ : f793 77 = (Value.int .i64 x) ∧ InR .i64 x := hf805
        exact OpX.val (Value.pointer (some (elA v_b_Values (x).toNat))) wd794 rfl (op_idx sl_26 (Ty.lift _ (Ext.trans hE7 hS798.ext) r_b_Values) e802 e806 ha281 hb282) (Ext.refl _) rfl
      · refine ObX.op rfl ?_
        intro f808 wd809 he810 hout811 hphi812
        have hS813 : St wd2 wd809 [bx b108 [v_b_Cocycle_Orders, (Value.int .i64 b_Cocycle_Modulus), v_b_Cocycle_Values]] := St.extend hS117 he810
        obtain ⟨S814, hS815, hf816⟩ := hphi812 55 78 _ rfl rfl rfl
        have e817 : f808 78 = (Value.pointer (some (elA v_b_Values (x).toNat))) := hf816
        exact OpX.val u818 wd809 rfl (op_load one_22 e817 (Ext.cell (Ext.trans hE7 hS813.ext) hc819)) (Ext.refl _) rfl
      · refine ObX.op rfl ?_
        intro f821 wd822 he823 hout824 hphi825
        have hS826 : St wd2 wd822 [bx b108 [v_b_Cocycle_Orders, (Value.int .i64 b_Cocycle_Modulus), v_b_Cocycle_Values]] := St.extend hS117 he823
        have e827 : f821 3 = (Value.int .i64 y) := (hout824 3 rfl).trans e113
        exact OpX.val (Value.int .i64 y) wd822 rfl (op_move e827) (Ext.refl _) ⟨rfl, r_y⟩
      · refine ObX.op rfl ?_
        intro f828 wd829 he830 hout831 hphi832
        have hS833 : St wd2 wd829 [bx b108 [v_b_Cocycle_Orders, (Value.int .i64 b_Cocycle_Modulus), v_b_Cocycle_Values]] := St.extend hS117 he830
        obtain ⟨S834, hS835, hf836⟩ := hphi832 56 79 _ rfl rfl rfl
        have e837 : f828 79 = u818 := hf836
        obtain ⟨S838, hS839, hf840⟩ := hphi832 57 80 _ rfl rfl rfl
        obtain ⟨e841, hr842⟩ : f828 80 = (Value.int .i64 y) ∧ InR .i64 y := hf840
        exact OpX.val (Value.pointer (some (elA u818 (y).toNat))) wd829 rfl (op_idx sl_22 (Ty.lift _ (Ext.trans hE7 hS833.ext) hr820) e837 e841 ha844 hb845) (Ext.refl _) rfl
      · refine ObX.op rfl ?_
        intro f847 wd848 he849 hout850 hphi851
        have hS852 : St wd2 wd848 [bx b108 [v_b_Cocycle_Orders, (Value.int .i64 b_Cocycle_Modulus), v_b_Cocycle_Values]] := St.extend hS117 he849
        obtain ⟨S853, hS854, hf855⟩ := hphi851 58 81 _ rfl rfl rfl
        have e856 : f847 81 = (Value.pointer (some (elA u818 (y).toNat))) := hf855
        exact OpX.val (Value.int .i64 x843) wd848 rfl (op_load one_2 e856 (Ext.cell (Ext.trans hE7 hS852.ext) hc858)) (Ext.refl _) ⟨rfl, hr859⟩
      · refine ObX.op rfl ?_
        intro f860 wd861 he862 hout863 hphi864
        have hS865 : St wd2 wd861 [bx b108 [v_b_Cocycle_Orders, (Value.int .i64 b_Cocycle_Modulus), v_b_Cocycle_Values]] := St.extend hS117 he862
        obtain ⟨S866, hS867, hf868⟩ := hphi864 52 75 _ rfl rfl rfl
        obtain ⟨e869, hr870⟩ : f860 75 = (Value.int .i64 (w64 (x626 + x746))) ∧ InR .i64 (w64 (x626 + x746)) := hf868
        obtain ⟨S871, hS872, hf873⟩ := hphi864 59 82 _ rfl rfl rfl
        obtain ⟨e874, hr875⟩ : f860 82 = (Value.int .i64 x843) ∧ InR .i64 x843 := hf873
        exact OpX.val (Value.int .i64 (w64 ((w64 (x626 + x746)) + x843))) wd861 rfl (op_add e869 e874) (Ext.refl _) ⟨rfl, (inR_wrap _ _)⟩
      · intro f876 wd877 Ss878 he879 hout880 hSn881 hSd882 hphi883
        show WL _ _ _ _ _ _ _
        have hS884 : St wd2 wd877 [bx b108 [v_b_Cocycle_Orders, (Value.int .i64 b_Cocycle_Modulus), v_b_Cocycle_Values]] := St.extend hS117 he879
        obtain ⟨e885, hr886⟩ : f876 56 = (Value.int .i64 x549) ∧ InR .i64 x549 := hphi883 33 56 _ (by decide) rfl rfl
        obtain ⟨e887, hr888⟩ := hphi883 34 57 _ (by decide) rfl rfl
        obtain ⟨e889, hr890⟩ : f876 83 = (Value.int .i64 (w64 ((w64 (x626 + x746)) + x843))) ∧ InR .i64 (w64 ((w64 (x626 + x746)) + x843)) := hphi883 60 83 _ (by decide) rfl rfl
        obtain ⟨x891, hx892, h⟩ := bs h
        refine WL.call _ (op_call fn_72 (args2 e887 e889)) (c_impl_Cocycle_rest (Ty.lift _ (Ext.trans hE7 hS884.ext) r_b_Cocycle_Orders) hr888 (Ty.lift _ (Ext.trans hE7 hS884.ext) r_b_Cocycle_Values) hr890 hx892) rfl ?_
        rintro _ wd894 ⟨rfl, hr893, he895⟩
        have hS897 := St.extend hS884 he895
        replace hS897 : St wd2 wd894 [bx b108 [v_b_Cocycle_Orders, (Value.int .i64 b_Cocycle_Modulus), v_b_Cocycle_Values]] := hS897
        refine WL.val (Value.bool (x549 == x891)) _ (op_eql e885 rfl) rfl ?_
        refine WL.val (Value.bool (x549 == x891)) _ (op_assign rfl) rfl ?_
        refine WL.nil ?_
        show W _ _ _ _ _ _
        refine W.ret ?_
        obtain rfl := Option.some.inj h
        show FinP _ _ _ _ _ _ _
        exact FinP.ret _ (res1 rfl rfl) ⟨rfl, (Ext.trans hE7 hS897.ext)⟩
    · replace h := inegb h hc118
      refine W.skip ?_
      show W _ _ _ _ _ _
      refine W.seq ?_
      obtain ⟨x954, hx955, h⟩ := bs h
      obtain ⟨x975, hx978, h⟩ := bs h
      obtain ⟨ha976, hb977, hx978⟩ := idx_some hx978
      obtain ⟨u989, hc990, hr991⟩ := repSl.el r_b_Values hx978
      obtain ⟨x1014, hx1017, h⟩ := bs h
      obtain ⟨ha1015, hb1016, hx1017⟩ := idx_some hx1017
      obtain ⟨u1028, hc1029, hr1030⟩ := repSl.el hr991 hx1017
      obtain ⟨rfl, hr1030⟩ := hr1030
      obtain ⟨x1060, hx1063, h⟩ := bs h
      obtain ⟨ha1061, hb1062, hx1063⟩ := idx_some hx1063
      obtain ⟨u1074, hc1075, hr1076⟩ := repSl.el r_b_Cocycle_Values hx1063
      obtain ⟨x1099, hx1102, h⟩ := bs h
      obtain ⟨ha1100, hb1101, hx1102⟩ := idx_some hx1102
      obtain ⟨u1113, hc1114, hr1115⟩ := repSl.el hr1076 hx1102
      obtain ⟨x1138, hx1141, h⟩ := bs h
      obtain ⟨ha1139, hb1140, hx1141⟩ := idx_some hx1141
      obtain ⟨u1152, hc1153, hr1154⟩ := repSl.el hr1115 hx1141
      obtain ⟨rfl, hr1154⟩ := hr1154
      obtain ⟨x1200, hx1203, h⟩ := bs h
      obtain ⟨ha1201, hb1202, hx1203⟩ := idx_some hx1203
      obtain ⟨u1214, hc1215, hr1216⟩ := repSl.el r_b_Cocycle_Values hx1203
      obtain ⟨x1239, hx1242, h⟩ := bs h
      obtain ⟨ha1240, hb1241, hx1242⟩ := idx_some hx1242
      obtain ⟨u1253, hc1254, hr1255⟩ := repSl.el hr1216 hx1242
      obtain ⟨x1278, hx1281, h⟩ := bs h
      obtain ⟨ha1279, hb1280, hx1281⟩ := idx_some hx1281
      obtain ⟨u1292, hc1293, hr1294⟩ := repSl.el hr1255 hx1281
      obtain ⟨rfl, hr1294⟩ := hr1294
      obtain ⟨x1327, hx1328, h⟩ := bs h
      obtain ⟨x1369, hx1372, h⟩ := bs h
      obtain ⟨ha1370, hb1371, hx1372⟩ := idx_some hx1372
      obtain ⟨u1383, hc1384, hr1385⟩ := repSl.el r_b_Values hx1372
      obtain ⟨x1408, hx1411, h⟩ := bs h
      obtain ⟨ha1409, hb1410, hx1411⟩ := idx_some hx1411
      obtain ⟨u1422, hc1423, hr1424⟩ := repSl.el hr1385 hx1411
      obtain ⟨rfl, hr1424⟩ := hr1424
      obtain ⟨x1454, hx1457, h⟩ := bs h
      obtain ⟨ha1455, hb1456, hx1457⟩ := idx_some hx1457
      obtain ⟨u1468, hc1469, hr1470⟩ := repSl.el r_b_Values hx1457
      obtain ⟨x1493, hx1496, h⟩ := bs h
      obtain ⟨ha1494, hb1495, hx1496⟩ := idx_some hx1496
      obtain ⟨u1507, hc1508, hr1509⟩ := repSl.el hr1470 hx1496
      obtain ⟨rfl, hr1509⟩ := hr1509
      obtain ⟨u1565, hc1566, hr1567⟩ := repSl.el r_b_Cocycle_Values hx1203
      obtain ⟨x1590, hx1593, h⟩ := bs h
      obtain ⟨ha1591, hb1592, hx1593⟩ := idx_some hx1593
      obtain ⟨u1604, hc1605, hr1606⟩ := repSl.el hr1567 hx1593
      obtain ⟨x1629, hx1632, h⟩ := bs h
      obtain ⟨ha1630, hb1631, hx1632⟩ := idx_some hx1632
      obtain ⟨u1643, hc1644, hr1645⟩ := repSl.el hr1606 hx1632
      obtain ⟨rfl, hr1645⟩ := hr1645
      refine W.drawR mixo 61 [] [fun _ v S w' => v = (Value.agg #[v_b_Cocycle_Orders, (Value.int .i64 b_Cocycle_Modulus), v_b_Cocycle_Values]) ∧ InR .i64 b_Cocycle_Modulus, fun _ v _ _ => v = v_b_Values, fun _ v S w' => v = (Value.agg #[v_b_Cocycle_Orders, (Value.int .i64 b_Cocycle_Modulus), v_b_Cocycle_Values]) ∧ InR .i64 b_Cocycle_Modulus, fun _ v _ _ => v = (Value.int .i64 x) ∧ InR .i64 x, fun _ v _ _ => v = (Value.int .i64 y) ∧ InR .i64 y, fun _ v _ _ => v = (Value.int .i64 x954) ∧ InR .i64 x954, fun _ v _ _ => v = (Value.pointer (some (elA v_b_Values (x954).toNat))), fun _ v _ _ => v = u989, fun _ v _ _ => v = (Value.int .i64 z) ∧ InR .i64 z, fun _ v _ _ => v = (Value.pointer (some (elA u989 (z).toNat))), fun _ v _ _ => v = (Value.int .i64 x1014) ∧ InR .i64 x1014, fun _ v _ _ => v = v_b_Cocycle_Values, fun _ v _ _ => v = (Value.int .i64 z) ∧ InR .i64 z, fun _ v _ _ => v = (Value.pointer (some (elA v_b_Cocycle_Values (z).toNat))), fun _ v _ _ => v = u1074, fun _ v _ _ => v = (Value.int .i64 x) ∧ InR .i64 x, fun _ v _ _ => v = (Value.pointer (some (elA u1074 (x).toNat))), fun _ v _ _ => v = u1113, fun _ v _ _ => v = (Value.int .i64 y) ∧ InR .i64 y, fun _ v _ _ => v = (Value.pointer (some (elA u1113 (y).toNat))), fun _ v _ _ => v = (Value.int .i64 x1138) ∧ InR .i64 x1138, fun _ v _ _ => v = (Value.int .i64 (w64 (x1014 - x1138))) ∧ InR .i64 (w64 (x1014 - x1138)), fun _ v _ _ => v = v_b_Cocycle_Values, fun _ v _ _ => v = (Value.int .i64 x) ∧ InR .i64 x, fun _ v _ _ => v = (Value.pointer (some (elA v_b_Cocycle_Values (x).toNat))), fun _ v _ _ => v = u1214, fun _ v _ _ => v = (Value.int .i64 y) ∧ InR .i64 y, fun _ v _ _ => v = (Value.pointer (some (elA u1214 (y).toNat))), fun _ v _ _ => v = u1253, fun _ v _ _ => v = (Value.int .i64 z) ∧ InR .i64 z, fun _ v _ _ => v = (Value.pointer (some (elA u1253 (z).toNat))), fun _ v _ _ => v = (Value.int .i64 x1278) ∧ InR .i64 x1278, fun _ v _ _ => v = (Value.int .i64 (w64 ((w64 (x1014 - x1138)) - x1278))) ∧ InR .i64 (w64 ((w64 (x1014 - x1138)) - x1278)), fun _ v _ _ => v = (Value.int .i64 x1327) ∧ InR .i64 x1327, fun _ v S w' => v = (Value.agg #[v_b_Cocycle_Orders, (Value.int .i64 b_Cocycle_Modulus), v_b_Cocycle_Values]) ∧ InR .i64 b_Cocycle_Modulus, fun _ v _ _ => v = v_b_Values, fun _ v _ _ => v = (Value.int .i64 x) ∧ InR .i64 x, fun _ v _ _ => v = (Value.pointer (some (elA v_b_Values (x).toNat))), fun _ v _ _ => v = u1383, fun _ v _ _ => v = (Value.int .i64 z) ∧ InR .i64 z, fun _ v _ _ => v = (Value.pointer (some (elA u1383 (z).toNat))), fun _ v _ _ => v = (Value.int .i64 x1408) ∧ InR .i64 x1408, fun _ v _ _ => v = v_b_Values, fun _ v _ _ => v = (Value.int .i64 y) ∧ InR .i64 y, fun _ v _ _ => v = (Value.pointer (some (elA v_b_Values (y).toNat))), fun _ v _ _ => v = u1468, fun _ v _ _ => v = (Value.int .i64 z) ∧ InR .i64 z, fun _ v _ _ => v = (Value.pointer (some (elA u1468 (z).toNat))), fun _ v _ _ => v = (Value.int .i64 x1493) ∧ InR .i64 x1493, fun _ v _ _ => v = (Value.int .i64 (w64 (x1408 + x1493))) ∧ InR .i64 (w64 (x1408 + x1493)), fun _ v _ _ => v = v_b_Cocycle_Values, fun _ v _ _ => v = (Value.int .i64 x) ∧ InR .i64 x, fun _ v _ _ => v = (Value.pointer (some (elA v_b_Cocycle_Values (x).toNat))), fun _ v _ _ => v = u1565, fun _ v _ _ => v = (Value.int .i64 z) ∧ InR .i64 z, fun _ v _ _ => v = (Value.pointer (some (elA u1565 (z).toNat))), fun _ v _ _ => v = u1604, fun _ v _ _ => v = (Value.int .i64 y) ∧ InR .i64 y, fun _ v _ _ => v = (Value.pointer (some (elA u1604 (y).toNat))), fun _ v _ _ => v = (Value.int .i64 x1629) ∧ InR .i64 x1629, fun _ v _ _ => v = (Value.int .i64 (w64 ((w64 (x1408 + x1493)) - x1629))) ∧ InR .i64 (w64 ((w64 (x1408 + x1493)) - x1629))] (by kernel_rfl) (by kernel_rfl) ⟨⟨fun _ _ _ _ _ he ⟨h0, h1⟩ => ⟨h0, h1⟩, fun _ _ _ _ _ _ h => h⟩, ⟨fun _ _ _ _ _ _ h => h, fun _ _ _ _ _ _ h => h⟩, ⟨fun _ _ _ _ _ he ⟨h0, h1⟩ => ⟨h0, h1⟩, fun _ _ _ _ _ _ h => h⟩, ⟨fun _ _ _ _ _ _ h => h, fun _ _ _ _ _ _ h => h⟩, ⟨fun _ _ _ _ _ _ h => h, fun _ _ _ _ _ _ h => h⟩, ⟨fun _ _ _ _ _ _ h => h, fun _ _ _ _ _ _ h => h⟩, ⟨fun _ _ _ _ _ _ h => h, fun _ _ _ _ _ _ h => h⟩, ⟨fun _ _ _ _ _ _ h => h, fun _ _ _ _ _ _ h => h⟩, ⟨fun _ _ _ _ _ _ h => h, fun _ _ _ _ _ _ h => h⟩, ⟨fun _ _ _ _ _ _ h => h, fun _ _ _ _ _ _ h => h⟩, ⟨fun _ _ _ _ _ _ h => h, fun _ _ _ _ _ _ h => h⟩, ⟨fun _ _ _ _ _ _ h => h, fun _ _ _ _ _ _ h => h⟩, ⟨fun _ _ _ _ _ _ h => h, fun _ _ _ _ _ _ h => h⟩, ⟨fun _ _ _ _ _ _ h => h, fun _ _ _ _ _ _ h => h⟩, ⟨fun _ _ _ _ _ _ h => h, fun _ _ _ _ _ _ h => h⟩, ⟨fun _ _ _ _ _ _ h => h, fun _ _ _ _ _ _ h => h⟩, ⟨fun _ _ _ _ _ _ h => h, fun _ _ _ _ _ _ h => h⟩, ⟨fun _ _ _ _ _ _ h => h, fun _ _ _ _ _ _ h => h⟩, ⟨fun _ _ _ _ _ _ h => h, fun _ _ _ _ _ _ h => h⟩, ⟨fun _ _ _ _ _ _ h => h, fun _ _ _ _ _ _ h => h⟩, ⟨fun _ _ _ _ _ _ h => h, fun _ _ _ _ _ _ h => h⟩, ⟨fun _ _ _ _ _ _ h => h, fun _ _ _ _ _ _ h => h⟩, ⟨fun _ _ _ _ _ _ h => h, fun _ _ _ _ _ _ h => h⟩, ⟨fun _ _ _ _ _ _ h => h, fun _ _ _ _ _ _ h => h⟩, ⟨fun _ _ _ _ _ _ h => h, fun _ _ _ _ _ _ h => h⟩, ⟨fun _ _ _ _ _ _ h => h, fun _ _ _ _ _ _ h => h⟩, ⟨fun _ _ _ _ _ _ h => h, fun _ _ _ _ _ _ h => h⟩, ⟨fun _ _ _ _ _ _ h => h, fun _ _ _ _ _ _ h => h⟩, ⟨fun _ _ _ _ _ _ h => h, fun _ _ _ _ _ _ h => h⟩, ⟨fun _ _ _ _ _ _ h => h, fun _ _ _ _ _ _ h => h⟩, ⟨fun _ _ _ _ _ _ h => h, fun _ _ _ _ _ _ h => h⟩, ⟨fun _ _ _ _ _ _ h => h, fun _ _ _ _ _ _ h => h⟩, ⟨fun _ _ _ _ _ _ h => h, fun _ _ _ _ _ _ h => h⟩, ⟨fun _ _ _ _ _ _ h => h, fun _ _ _ _ _ _ h => h⟩, ⟨fun _ _ _ _ _ he ⟨h0, h1⟩ => ⟨h0, h1⟩, fun _ _ _ _ _ _ h => h⟩, ⟨fun _ _ _ _ _ _ h => h, fun _ _ _ _ _ _ h => h⟩, ⟨fun _ _ _ _ _ _ h => h, fun _ _ _ _ _ _ h => h⟩, ⟨fun _ _ _ _ _ _ h => h, fun _ _ _ _ _ _ h => h⟩, ⟨fun _ _ _ _ _ _ h => h, fun _ _ _ _ _ _ h => h⟩, ⟨fun _ _ _ _ _ _ h => h, fun _ _ _ _ _ _ h => h⟩, ⟨fun _ _ _ _ _ _ h => h, fun _ _ _ _ _ _ h => h⟩, ⟨fun _ _ _ _ _ _ h => h, fun _ _ _ _ _ _ h => h⟩, ⟨fun _ _ _ _ _ _ h => h, fun _ _ _ _ _ _ h => h⟩, ⟨fun _ _ _ _ _ _ h => h, fun _ _ _ _ _ _ h => h⟩, ⟨fun _ _ _ _ _ _ h => h, fun _ _ _ _ _ _ h => h⟩, ⟨fun _ _ _ _ _ _ h => h, fun _ _ _ _ _ _ h => h⟩, ⟨fun _ _ _ _ _ _ h => h, fun _ _ _ _ _ _ h => h⟩, ⟨fun _ _ _ _ _ _ h => h, fun _ _ _ _ _ _ h => h⟩, ⟨fun _ _ _ _ _ _ h => h, fun _ _ _ _ _ _ h => h⟩, ⟨fun _ _ _ _ _ _ h => h, fun _ _ _ _ _ _ h => h⟩, ⟨fun _ _ _ _ _ _ h => h, fun _ _ _ _ _ _ h => h⟩, ⟨fun _ _ _ _ _ _ h => h, fun _ _ _ _ _ _ h => h⟩, ⟨fun _ _ _ _ _ _ h => h, fun _ _ _ _ _ _ h => h⟩, ⟨fun _ _ _ _ _ _ h => h, fun _ _ _ _ _ _ h => h⟩, ⟨fun _ _ _ _ _ _ h => h, fun _ _ _ _ _ _ h => h⟩, ⟨fun _ _ _ _ _ _ h => h, fun _ _ _ _ _ _ h => h⟩, ⟨fun _ _ _ _ _ _ h => h, fun _ _ _ _ _ _ h => h⟩, ⟨fun _ _ _ _ _ _ h => h, fun _ _ _ _ _ _ h => h⟩, ⟨fun _ _ _ _ _ _ h => h, fun _ _ _ _ _ _ h => h⟩, ⟨fun _ _ _ _ _ _ h => h, fun _ _ _ _ _ _ h => h⟩, ⟨fun _ _ _ _ _ _ h => h, fun _ _ _ _ _ _ h => h⟩, trivial⟩ ⟨?_, ?_, ?_, ?_, ?_, ?_, ?_, ?_, ?_, ?_, ?_, ?_, ?_, ?_, ?_, ?_, ?_, ?_, ?_, ?_, ?_, ?_, ?_, ?_, ?_, ?_, ?_, ?_, ?_, ?_, ?_, ?_, ?_, ?_, ?_, ?_, ?_, ?_, ?_, ?_, ?_, ?_, ?_, ?_, ?_, ?_, ?_, ?_, ?_, ?_, ?_, ?_, ?_, ?_, ?_, ?_, ?_, ?_, ?_, ?_, ?_, trivial⟩ ?_
      · refine ObX.op rfl ?_
        intro f898 wd899 he900 hout901 hphi902
        have hS903 : St wd2 wd899 [bx b108 [v_b_Cocycle_Orders, (Value.int .i64 b_Cocycle_Modulus), v_b_Cocycle_Values]] := St.extend hS117 he900
        have e904 : f898 13 = (Value.pointer (some ⟨b108, 0, none⟩)) := (hout901 13 rfl).trans e107
        exact OpX.val (Value.agg #[v_b_Cocycle_Orders, (Value.int .i64 b_Cocycle_Modulus), v_b_Cocycle_Values]) wd899 rfl (op_loadBox st_32 e904 (St.boxAt hS903 0 rfl) rfl rfl) (Ext.refl _) ⟨rfl, hr106⟩
      · refine ObX.op rfl ?_
        intro f905 wd906 he907 hout908 hphi909
        have hS910 : St wd2 wd906 [bx b108 [v_b_Cocycle_Orders, (Value.int .i64 b_Cocycle_Modulus), v_b_Cocycle_Values]] := St.extend hS117 he907
        have e911 : f905 12 = v_b_Values := (hout908 12 rfl).trans e110
        exact OpX.val v_b_Values wd906 rfl (op_move e911) (Ext.refl _) rfl
      · refine ObX.op rfl ?_
        intro f912 wd913 he914 hout915 hphi916
        have hS917 : St wd2 wd913 [bx b108 [v_b_Cocycle_Orders, (Value.int .i64 b_Cocycle_Modulus), v_b_Cocycle_Values]] := St.extend hS117 he914
        have e918 : f912 13 = (Value.pointer (some ⟨b108, 0, none⟩)) := (hout915 13 rfl).trans e107
        exact OpX.val (Value.agg #[v_b_Cocycle_Orders, (Value.int .i64 b_Cocycle_Modulus), v_b_Cocycle_Values]) wd913 rfl (op_loadBox st_32 e918 (St.boxAt hS917 0 rfl) rfl rfl) (Ext.refl _) ⟨rfl, hr106⟩
      · refine ObX.op rfl ?_
        intro f919 wd920 he921 hout922 hphi923
        have hS924 : St wd2 wd920 [bx b108 [v_b_Cocycle_Orders, (Value.int .i64 b_Cocycle_Modulus), v_b_Cocycle_Values]] := St.extend hS117 he921
        have e925 : f919 2 = (Value.int .i64 x) := (hout922 2 rfl).trans e112
        exact OpX.val (Value.int .i64 x) wd920 rfl (op_move e925) (Ext.refl _) ⟨rfl, r_x⟩
      · refine ObX.op rfl ?_
        intro f926 wd927 he928 hout929 hphi930
        have hS931 : St wd2 wd927 [bx b108 [v_b_Cocycle_Orders, (Value.int .i64 b_Cocycle_Modulus), v_b_Cocycle_Values]] := St.extend hS117 he928
        have e932 : f926 3 = (Value.int .i64 y) := (hout929 3 rfl).trans e113
        exact OpX.val (Value.int .i64 y) wd927 rfl (op_move e932) (Ext.refl _) ⟨rfl, r_y⟩
      · refine ObX.op rfl ?_
        intro f933 wd934 he935 hout936 hphi937
        have hS938 : St wd2 wd934 [bx b108 [v_b_Cocycle_Orders, (Value.int .i64 b_Cocycle_Modulus), v_b_Cocycle_Values]] := St.extend hS117 he935
        obtain ⟨S939, hS940, hf941⟩ := hphi937 2 88 _ rfl rfl rfl
        obtain ⟨e942, hr943⟩ := hf941
        obtain ⟨S944, hS945, hf946⟩ := hphi937 3 89 _ rfl rfl rfl
        obtain ⟨e947, hr948⟩ : f933 89 = (Value.int .i64 x) ∧ InR .i64 x := hf946
        obtain ⟨S949, hS950, hf951⟩ := hphi937 4 90 _ rfl rfl rfl
        obtain ⟨e952, hr953⟩ : f933 90 = (Value.int .i64 y) ∧ InR .i64 y := hf951
        refine OpX.call rfl (op_call fn_97 (args3 e942 e947 e952)) (Ret.mono (c_impl_Cocycle_plus (Ty.lift _ (Ext.trans hE7 hS938.ext) r_b_Cocycle_Orders) hr943 (Ty.lift _ (Ext.trans hE7 hS938.ext) r_b_Cocycle_Values) hr948 hr953 hx955) ?_)
        rintro _ wd957 ⟨rfl, hr956, he958⟩
        exact ⟨he958, _, noS _ _, ⟨rfl, hr956⟩⟩
      · refine ObX.op rfl ?_
        intro f960 wd961 he962 hout963 hphi964
        have hS965 : St wd2 wd961 [bx b108 [v_b_Cocycle_Orders, (Value.int .i64 b_Cocycle_Modulus), v_b_Cocycle_Values]] := St.extend hS117 he962
        obtain ⟨S966, hS967, hf968⟩ := hphi964 1 87 _ rfl rfl rfl
        have e969 : f960 87 = v_b_Values := hf968
        obtain ⟨S970, hS971, hf972⟩ := hphi964 5 91 _ rfl rfl rfl
        obtain ⟨e973, hr974⟩ : f960 91 = (Value.int .i64 x954) ∧ InR .i64 x954 := hf972
        exact OpX.val (Value.pointer (some (elA v_b_Values (x954).toNat))) wd961 rfl (op_idx sl_26 (Ty.lift _ (Ext.trans hE7 hS965.ext) r_b_Values) e969 e973 ha976 hb977) (Ext.refl _) rfl
      · refine ObX.op rfl ?_
        intro f979 wd980 he981 hout982 hphi983
        have hS984 : St wd2 wd980 [bx b108 [v_b_Cocycle_Orders, (Value.int .i64 b_Cocycle_Modulus), v_b_Cocycle_Values]] := St.extend hS117 he981
        obtain ⟨S985, hS986, hf987⟩ := hphi983 6 92 _ rfl rfl rfl
        have e988 : f979 92 = (Value.pointer (some (elA v_b_Values (x954).toNat))) := hf987
        exact OpX.val u989 wd980 rfl (op_load one_22 e988 (Ext.cell (Ext.trans hE7 hS984.ext) hc990)) (Ext.refl _) rfl
      · refine ObX.op rfl ?_
        intro f992 wd993 he994 hout995 hphi996
        have hS997 : St wd2 wd993 [bx b108 [v_b_Cocycle_Orders, (Value.int .i64 b_Cocycle_Modulus), v_b_Cocycle_Values]] := St.extend hS117 he994
        have e998 : f992 4 = (Value.int .i64 z) := (hout995 4 rfl).trans e114
        exact OpX.val (Value.int .i64 z) wd993 rfl (op_move e998) (Ext.refl _) ⟨rfl, r_z⟩
      · refine ObX.op rfl ?_
        intro f999 wd1000 he1001 hout1002 hphi1003
        have hS1004 : St wd2 wd1000 [bx b108 [v_b_Cocycle_Orders, (Value.int .i64 b_Cocycle_Modulus), v_b_Cocycle_Values]] := St.extend hS117 he1001
        obtain ⟨S1005, hS1006, hf1007⟩ := hphi1003 7 93 _ rfl rfl rfl
        have e1008 : f999 93 = u989 := hf1007
        obtain ⟨S1009, hS1010, hf1011⟩ := hphi1003 8 94 _ rfl rfl rfl
        obtain ⟨e1012, hr1013⟩ : f999 94 = (Value.int .i64 z) ∧ InR .i64 z := hf1011
        exact OpX.val (Value.pointer (some (elA u989 (z).toNat))) wd1000 rfl (op_idx sl_22 (Ty.lift _ (Ext.trans hE7 hS1004.ext) hr991) e1008 e1012 ha1015 hb1016) (Ext.refl _) rfl
      · refine ObX.op rfl ?_
        intro f1018 wd1019 he1020 hout1021 hphi1022
        have hS1023 : St wd2 wd1019 [bx b108 [v_b_Cocycle_Orders, (Value.int .i64 b_Cocycle_Modulus), v_b_Cocycle_Values]] := St.extend hS117 he1020
        obtain ⟨S1024, hS1025, hf1026⟩ := hphi1022 9 95 _ rfl rfl rfl
        have e1027 : f1018 95 = (Value.pointer (some (elA u989 (z).toNat))) := hf1026
        exact OpX.val (Value.int .i64 x1014) wd1019 rfl (op_load one_2 e1027 (Ext.cell (Ext.trans hE7 hS1023.ext) hc1029)) (Ext.refl _) ⟨rfl, hr1030⟩
      · refine ObX.op rfl ?_
        intro f1031 wd1032 he1033 hout1034 hphi1035
        have hS1036 : St wd2 wd1032 [bx b108 [v_b_Cocycle_Orders, (Value.int .i64 b_Cocycle_Modulus), v_b_Cocycle_Values]] := St.extend hS117 he1033
        have e1037 : f1031 11 = v_b_Cocycle_Values := (hout1034 11 rfl).trans e109
        exact OpX.val v_b_Cocycle_Values wd1032 rfl (op_move e1037) (Ext.refl _) rfl
      · refine ObX.op rfl ?_
        intro f1038 wd1039 he1040 hout1041 hphi1042
        have hS1043 : St wd2 wd1039 [bx b108 [v_b_Cocycle_Orders, (Value.int .i64 b_Cocycle_Modulus), v_b_Cocycle_Values]] := St.extend hS117 he1040
        have e1044 : f1038 4 = (Value.int .i64 z) := (hout1041 4 rfl).trans e114
        exact OpX.val (Value.int .i64 z) wd1039 rfl (op_move e1044) (Ext.refl _) ⟨rfl, r_z⟩
      · refine ObX.op rfl ?_
        intro f1045 wd1046 he1047 hout1048 hphi1049
        have hS1050 : St wd2 wd1046 [bx b108 [v_b_Cocycle_Orders, (Value.int .i64 b_Cocycle_Modulus), v_b_Cocycle_Values]] := St.extend hS117 he1047
        obtain ⟨S1051, hS1052, hf1053⟩ := hphi1049 11 97 _ rfl rfl rfl
        have e1054 : f1045 97 = v_b_Cocycle_Values := hf1053
        obtain ⟨S1055, hS1056, hf1057⟩ := hphi1049 12 98 _ rfl rfl rfl
        obtain ⟨e1058, hr1059⟩ : f1045 98 = (Value.int .i64 z) ∧ InR .i64 z := hf1057
        exact OpX.val (Value.pointer (some (elA v_b_Cocycle_Values (z).toNat))) wd1046 rfl (op_idx sl_23 (Ty.lift _ (Ext.trans hE7 hS1050.ext) r_b_Cocycle_Values) e1054 e1058 ha1061 hb1062) (Ext.refl _) rfl
      · refine ObX.op rfl ?_
        intro f1064 wd1065 he1066 hout1067 hphi1068
        have hS1069 : St wd2 wd1065 [bx b108 [v_b_Cocycle_Orders, (Value.int .i64 b_Cocycle_Modulus), v_b_Cocycle_Values]] := St.extend hS117 he1066
        obtain ⟨S1070, hS1071, hf1072⟩ := hphi1068 13 99 _ rfl rfl rfl
        have e1073 : f1064 99 = (Value.pointer (some (elA v_b_Cocycle_Values (z).toNat))) := hf1072
        exact OpX.val u1074 wd1065 rfl (op_load one_26 e1073 (Ext.cell (Ext.trans hE7 hS1069.ext) hc1075)) (Ext.refl _) rfl
      · refine ObX.op rfl ?_
        intro f1077 wd1078 he1079 hout1080 hphi1081
        have hS1082 : St wd2 wd1078 [bx b108 [v_b_Cocycle_Orders, (Value.int .i64 b_Cocycle_Modulus), v_b_Cocycle_Values]] := St.extend hS117 he1079
        have e1083 : f1077 2 = (Value.int .i64 x) := (hout1080 2 rfl).trans e112
        exact OpX.val (Value.int .i64 x) wd1078 rfl (op_move e1083) (Ext.refl _) ⟨rfl, r_x⟩
      · refine ObX.op rfl ?_
        intro f1084 wd1085 he1086 hout1087 hphi1088
        have hS1089 : St wd2 wd1085 [bx b108 [v_b_Cocycle_Orders, (Value.int .i64 b_Cocycle_Modulus), v_b_Cocycle_Values]] := St.extend hS117 he1086
        obtain ⟨S1090, hS1091, hf1092⟩ := hphi1088 14 100 _ rfl rfl rfl
        have e1093 : f1084 100 = u1074 := hf1092
        obtain ⟨S1094, hS1095, hf1096⟩ := hphi1088 15 101 _ rfl rfl rfl
        obtain ⟨e1097, hr1098⟩ : f1084 101 = (Value.int .i64 x) ∧ InR .i64 x := hf1096
        exact OpX.val (Value.pointer (some (elA u1074 (x).toNat))) wd1085 rfl (op_idx sl_26 (Ty.lift _ (Ext.trans hE7 hS1089.ext) hr1076) e1093 e1097 ha1100 hb1101) (Ext.refl _) rfl
      · refine ObX.op rfl ?_
        intro f1103 wd1104 he1105 hout1106 hphi1107
        have hS1108 : St wd2 wd1104 [bx b108 [v_b_Cocycle_Orders, (Value.int .i64 b_Cocycle_Modulus), v_b_Cocycle_Values]] := St.extend hS117 he1105
        obtain ⟨S1109, hS1110, hf1111⟩ := hphi1107 16 102 _ rfl rfl rfl
        have e1112 : f1103 102 = (Value.pointer (some (elA u1074 (x).toNat))) := hf1111
        exact OpX.val u1113 wd1104 rfl (op_load one_22 e1112 (Ext.cell (Ext.trans hE7 hS1108.ext) hc1114)) (Ext.refl _) rfl
      · refine ObX.op rfl ?_
        intro f1116 wd1117 he1118 hout1119 hphi1120
        have hS1121 : St wd2 wd1117 [bx b108 [v_b_Cocycle_Orders, (Value.int .i64 b_Cocycle_Modulus), v_b_Cocycle_Values]] := St.extend hS117 he1118
        have e1122 : f1116 3 = (Value.int .i64 y) := (hout1119 3 rfl).trans e113
        exact OpX.val (Value.int .i64 y) wd1117 rfl (op_move e1122) (Ext.refl _) ⟨rfl, r_y⟩
      · refine ObX.op rfl ?_
        intro f1123 wd1124 he1125 hout1126 hphi1127
        have hS1128 : St wd2 wd1124 [bx b108 [v_b_Cocycle_Orders, (Value.int .i64 b_Cocycle_Modulus), v_b_Cocycle_Values]] := St.extend hS117 he1125
        obtain ⟨S1129, hS1130, hf1131⟩ := hphi1127 17 103 _ rfl rfl rfl
        have e1132 : f1123 103 = u1113 := hf1131
        obtain ⟨S1133, hS1134, hf1135⟩ := hphi1127 18 104 _ rfl rfl rfl
        obtain ⟨e1136, hr1137⟩ : f1123 104 = (Value.int .i64 y) ∧ InR .i64 y := hf1135
        exact OpX.val (Value.pointer (some (elA u1113 (y).toNat))) wd1124 rfl (op_idx sl_22 (Ty.lift _ (Ext.trans hE7 hS1128.ext) hr1115) e1132 e1136 ha1139 hb1140) (Ext.refl _) rfl
      · refine ObX.op rfl ?_
        intro f1142 wd1143 he1144 hout1145 hphi1146
        have hS1147 : St wd2 wd1143 [bx b108 [v_b_Cocycle_Orders, (Value.int .i64 b_Cocycle_Modulus), v_b_Cocycle_Values]] := St.extend hS117 he1144
        obtain ⟨S1148, hS1149, hf1150⟩ := hphi1146 19 105 _ rfl rfl rfl
        have e1151 : f1142 105 = (Value.pointer (some (elA u1113 (y).toNat))) := hf1150
        exact OpX.val (Value.int .i64 x1138) wd1143 rfl (op_load one_2 e1151 (Ext.cell (Ext.trans hE7 hS1147.ext) hc1153)) (Ext.refl _) ⟨rfl, hr1154⟩
      · refine ObX.op rfl ?_
        intro f1155 wd1156 he1157 hout1158 hphi1159
        have hS1160 : St wd2 wd1156 [bx b108 [v_b_Cocycle_Orders, (Value.int .i64 b_Cocycle_Modulus), v_b_Cocycle_Values]] := St.extend hS117 he1157
        obtain ⟨S1161, hS1162, hf1163⟩ := hphi1159 10 96 _ rfl rfl rfl
        obtain ⟨e1164, hr1165⟩ : f1155 96 = (Value.int .i64 x1014) ∧ InR .i64 x1014 := hf1163
        obtain ⟨S1166, hS1167, hf1168⟩ := hphi1159 20 106 _ rfl rfl rfl
        obtain ⟨e1169, hr1170⟩ : f1155 106 = (Value.int .i64 x1138) ∧ InR .i64 x1138 := hf1168
        exact OpX.val (Value.int .i64 (w64 (x1014 - x1138))) wd1156 rfl (op_sub e1164 e1169) (Ext.refl _) ⟨rfl, (inR_wrap _ _)⟩
      · refine ObX.op rfl ?_
        intro f1171 wd1172 he1173 hout1174 hphi1175
        have hS1176 : St wd2 wd1172 [bx b108 [v_b_Cocycle_Orders, (Value.int .i64 b_Cocycle_Modulus), v_b_Cocycle_Values]] := St.extend hS117 he1173
        have e1177 : f1171 11 = v_b_Cocycle_Values := (hout1174 11 rfl).trans e109
        exact OpX.val v_b_Cocycle_Values wd1172 rfl (op_move e1177) (Ext.refl _) rfl
      · refine ObX.op rfl ?_
        intro f1178 wd1179 he1180 hout1181 hphi1182
        have hS1183 : St wd2 wd1179 [bx b108 [v_b_Cocycle_Orders, (Value.int .i64 b_Cocycle_Modulus), v_b_Cocycle_Values]] := St.extend hS117 he1180
        have e1184 : f1178 2 = (Value.int .i64 x) := (hout1181 2 rfl).trans e112
        exact OpX.val (Value.int .i64 x) wd1179 rfl (op_move e1184) (Ext.refl _) ⟨rfl, r_x⟩
      · refine ObX.op rfl ?_
        intro f1185 wd1186 he1187 hout1188 hphi1189
        have hS1190 : St wd2 wd1186 [bx b108 [v_b_Cocycle_Orders, (Value.int .i64 b_Cocycle_Modulus), v_b_Cocycle_Values]] := St.extend hS117 he1187
        obtain ⟨S1191, hS1192, hf1193⟩ := hphi1189 22 108 _ rfl rfl rfl
        have e1194 : f1185 108 = v_b_Cocycle_Values := hf1193
        obtain ⟨S1195, hS1196, hf1197⟩ := hphi1189 23 109 _ rfl rfl rfl
        obtain ⟨e1198, hr1199⟩ : f1185 109 = (Value.int .i64 x) ∧ InR .i64 x := hf1197
        exact OpX.val (Value.pointer (some (elA v_b_Cocycle_Values (x).toNat))) wd1186 rfl (op_idx sl_23 (Ty.lift _ (Ext.trans hE7 hS1190.ext) r_b_Cocycle_Values) e1194 e1198 ha1201 hb1202) (Ext.refl _) rfl
      · refine ObX.op rfl ?_
        intro f1204 wd1205 he1206 hout1207 hphi1208
        have hS1209 : St wd2 wd1205 [bx b108 [v_b_Cocycle_Orders, (Value.int .i64 b_Cocycle_Modulus), v_b_Cocycle_Values]] := St.extend hS117 he1206
        obtain ⟨S1210, hS1211, hf1212⟩ := hphi1208 24 110 _ rfl rfl rfl
        have e1213 : f1204 110 = (Value.pointer (some (elA v_b_Cocycle_Values (x).toNat))) := hf1212
        exact OpX.val u1214 wd1205 rfl (op_load one_26 e1213 (Ext.cell (Ext.trans hE7 hS1209.ext) hc1215)) (Ext.refl _) rfl
      · refine ObX.op rfl ?_
        intro f1217 wd1218 he1219 hout1220 hphi1221
        have hS1222 : St wd2 wd1218 [bx b108 [v_b_Cocycle_Orders, (Value.int .i64 b_Cocycle_Modulus), v_b_Cocycle_Values]] := St.extend hS117 he1219
        have e1223 : f1217 3 = (Value.int .i64 y) := (hout1220 3 rfl).trans e113
        exact OpX.val (Value.int .i64 y) wd1218 rfl (op_move e1223) (Ext.refl _) ⟨rfl, r_y⟩
      · refine ObX.op rfl ?_
        intro f1224 wd1225 he1226 hout1227 hphi1228
        have hS1229 : St wd2 wd1225 [bx b108 [v_b_Cocycle_Orders, (Value.int .i64 b_Cocycle_Modulus), v_b_Cocycle_Values]] := St.extend hS117 he1226
        obtain ⟨S1230, hS1231, hf1232⟩ := hphi1228 25 111 _ rfl rfl rfl
        have e1233 : f1224 111 = u1214 := hf1232
        obtain ⟨S1234, hS1235, hf1236⟩ := hphi1228 26 112 _ rfl rfl rfl
        obtain ⟨e1237, hr1238⟩ : f1224 112 = (Value.int .i64 y) ∧ InR .i64 y := hf1236
        exact OpX.val (Value.pointer (some (elA u1214 (y).toNat))) wd1225 rfl (op_idx sl_26 (Ty.lift _ (Ext.trans hE7 hS1229.ext) hr1216) e1233 e1237 ha1240 hb1241) (Ext.refl _) rfl
      · refine ObX.op rfl ?_
        intro f1243 wd1244 he1245 hout1246 hphi1247
        have hS1248 : St wd2 wd1244 [bx b108 [v_b_Cocycle_Orders, (Value.int .i64 b_Cocycle_Modulus), v_b_Cocycle_Values]] := St.extend hS117 he1245
        obtain ⟨S1249, hS1250, hf1251⟩ := hphi1247 27 113 _ rfl rfl rfl
        have e1252 : f1243 113 = (Value.pointer (some (elA u1214 (y).toNat))) := hf1251
        exact OpX.val u1253 wd1244 rfl (op_load one_22 e1252 (Ext.cell (Ext.trans hE7 hS1248.ext) hc1254)) (Ext.refl _) rfl
      · refine ObX.op rfl ?_
        intro f1256 wd1257 he1258 hout1259 hphi1260
        have hS1261 : St wd2 wd1257 [bx b108 [v_b_Cocycle_Orders, (Value.int .i64 b_Cocycle_Modulus), v_b_Cocycle_Values]] := St.extend hS117 he1258
        have e1262 : f1256 4 = (Value.int .i64 z) := (hout1259 4 rfl).trans e114
        exact OpX.val (Value.int .i64 z) wd1257 rfl (op_move e1262) (Ext.refl _) ⟨rfl, r_z⟩
      · refine ObX.op rfl ?_
        intro f1263 wd1264 he1265 hout1266 hphi1267
        have hS1268 : St wd2 wd1264 [bx b108 [v_b_Cocycle_Orders, (Value.int .i64 b_Cocycle_Modulus), v_b_Cocycle_Values]] := St.extend hS117 he1265
        obtain ⟨S1269, hS1270, hf1271⟩ := hphi1267 28 114 _ rfl rfl rfl
        have e1272 : f1263 114 = u1253 := hf1271
        obtain ⟨S1273, hS1274, hf1275⟩ := hphi1267 29 115 _ rfl rfl rfl
        obtain ⟨e1276, hr1277⟩ : f1263 115 = (Value.int .i64 z) ∧ InR .i64 z := hf1275
        exact OpX.val (Value.pointer (some (elA u1253 (z).toNat))) wd1264 rfl (op_idx sl_22 (Ty.lift _ (Ext.trans hE7 hS1268.ext) hr1255) e1272 e1276 ha1279 hb1280) (Ext.refl _) rfl
      · refine ObX.op rfl ?_
        intro f1282 wd1283 he1284 hout1285 hphi1286
        have hS1287 : St wd2 wd1283 [bx b108 [v_b_Cocycle_Orders, (Value.int .i64 b_Cocycle_Modulus), v_b_Cocycle_Values]] := St.extend hS117 he1284
        obtain ⟨S1288, hS1289, hf1290⟩ := hphi1286 30 116 _ rfl rfl rfl
        have e1291 : f1282 116 = (Value.pointer (some (elA u1253 (z).toNat))) := hf1290
        exact OpX.val (Value.int .i64 x1278) wd1283 rfl (op_load one_2 e1291 (Ext.cell (Ext.trans hE7 hS1287.ext) hc1293)) (Ext.refl _) ⟨rfl, hr1294⟩
      · refine ObX.op rfl ?_
        intro f1295 wd1296 he1297 hout1298 hphi1299
        have hS1300 : St wd2 wd1296 [bx b108 [v_b_Cocycle_Orders, (Value.int .i64 b_Cocycle_Modulus), v_b_Cocycle_Values]] := St.extend hS117 he1297
        obtain ⟨S1301, hS1302, hf1303⟩ := hphi1299 21 107 _ rfl rfl rfl
        obtain ⟨e1304, hr1305⟩ : f1295 107 = (Value.int .i64 (w64 (x1014 - x1138))) ∧ InR .i64 (w64 (x1014 - x1138)) := hf1303
        obtain ⟨S1306, hS1307, hf1308⟩ := hphi1299 31 117 _ rfl rfl rfl
        obtain ⟨e1309, hr1310⟩ : f1295 117 = (Value.int .i64 x1278) ∧ InR .i64 x1278 := hf1308
        exact OpX.val (Value.int .i64 (w64 ((w64 (x1014 - x1138)) - x1278))) wd1296 rfl (op_sub e1304 e1309) (Ext.refl _) ⟨rfl, (inR_wrap _ _)⟩
      · refine ObX.op rfl ?_
        intro f1311 wd1312 he1313 hout1314 hphi1315
        have hS1316 : St wd2 wd1312 [bx b108 [v_b_Cocycle_Orders, (Value.int .i64 b_Cocycle_Modulus), v_b_Cocycle_Values]] := St.extend hS117 he1313
        obtain ⟨S1317, hS1318, hf1319⟩ := hphi1315 0 86 _ rfl rfl rfl
        obtain ⟨e1320, hr1321⟩ := hf1319
        obtain ⟨S1322, hS1323, hf1324⟩ := hphi1315 32 118 _ rfl rfl rfl
        obtain ⟨e1325, hr1326⟩ : f1311 118 = (Value.int .i64 (w64 ((w64 (x1014 - x1138)) - x1278))) ∧ InR .i64 (w64 ((w64 (x1014 - x1138)) - x1278)) := hf1324
        refine OpX.call rfl (op_call fn_72 (args2 e1320 e1325)) (Ret.mono (c_impl_Cocycle_rest (Ty.lift _ (Ext.trans hE7 hS1316.ext) r_b_Cocycle_Orders) hr1321 (Ty.lift _ (Ext.trans hE7 hS1316.ext) r_b_Cocycle_Values) hr1326 hx1328) ?_)
        rintro _ wd1330 ⟨rfl, hr1329, he1331⟩
        exact ⟨he1331, _, noS _ _, ⟨rfl, hr1329⟩⟩
      · refine ObX.op rfl ?_
        intro f1333 wd1334 he1335 hout1336 hphi1337
        have hS1338 : St wd2 wd1334 [bx b108 [v_b_Cocycle_Orders, (Value.int .i64 b_Cocycle_Modulus), v_b_Cocycle_Values]] := St.extend hS117 he1335
        have e1339 : f1333 13 = (Value.pointer (some ⟨b108, 0, none⟩)) := (hout1336 13 rfl).trans e107
        exact OpX.val (Value.agg #[v_b_Cocycle_Orders, (Value.int .i64 b_Cocycle_Modulus), v_b_Cocycle_Values]) wd1334 rfl (op_loadBox st_32 e1339 (St.boxAt hS1338 0 rfl) rfl rfl) (Ext.refl _) ⟨rfl, hr106⟩
      · refine ObX.op rfl ?_
        intro f1340 wd1341 he1342 hout1343 hphi1344
        have hS1345 : St wd2 wd1341 [bx b108 [v_b_Cocycle_Orders, (Value.int .i64 b_Cocycle_Modulus), v_b_Cocycle_Values]] := St.extend hS117 he1342
        have e1346 : f1340 12 = v_b_Values := (hout1343 12 rfl).trans e110
        exact OpX.val v_b_Values wd1341 rfl (op_move e1346) (Ext.refl _) rfl
      · refine ObX.op rfl ?_
        intro f1347 wd1348 he1349 hout1350 hphi1351
        have hS1352 : St wd2 wd1348 [bx b108 [v_b_Cocycle_Orders, (Value.int .i64 b_Cocycle_Modulus), v_b_Cocycle_Values]] := St.extend hS117 he1349
        have e1353 : f1347 2 = (Value.int .i64 x) := (hout1350 2 rfl).trans e112
        exact OpX.val (Value.int .i64 x) wd1348 rfl (op_move e1353) (Ext.refl _) ⟨rfl, r_x⟩
      · refine ObX.op rfl ?_
        intro f1354 wd1355 he1356 hout1357 hphi1358
        have hS1359 : St wd2 wd1355 [bx b108 [v_b_Cocycle_Orders, (Value.int .i64 b_Cocycle_Modulus), v_b_Cocycle_Values]] := St.extend hS117 he1356
        obtain ⟨S1360, hS1361, hf1362⟩ := hphi1358 35 121 _ rfl rfl rfl
        have e1363 : f1354 121 = v_b_Values := hf1362
        obtain ⟨S1364, hS1365, hf1366⟩ := hphi1358 36 122 _ rfl rfl rfl
        obtain ⟨e1367, hr1368⟩ : f1354 122 = (Value.int .i64 x) ∧ InR .i64 x := hf1366
        exact OpX.val (Value.pointer (some (elA v_b_Values (x).toNat))) wd1355 rfl (op_idx sl_26 (Ty.lift _ (Ext.trans hE7 hS1359.ext) r_b_Values) e1363 e1367 ha1370 hb1371) (Ext.refl _) rfl
      · refine ObX.op rfl ?_
        intro f1373 wd1374 he1375 hout1376 hphi1377
        have hS1378 : St wd2 wd1374 [bx b108 [v_b_Cocycle_Orders, (Value.int .i64 b_Cocycle_Modulus), v_b_Cocycle_Values]] := St.extend hS117 he1375
        obtain ⟨S1379, hS1380, hf1381⟩ := hphi1377 37 123 _ rfl rfl rfl
        have e1382 : f1373 123 = (Value.pointer (some (elA v_b_Values (x).toNat))) := hf1381
        exact OpX.val u1383 wd1374 rfl (op_load one_22 e1382 (Ext.cell (Ext.trans hE7 hS1378.ext) hc1384)) (Ext.refl _) rfl
      · refine ObX.op rfl ?_
        intro f1386 wd1387 he1388 hout1389 hphi1390
        have hS1391 : St wd2 wd1387 [bx b108 [v_b_Cocycle_Orders, (Value.int .i64 b_Cocycle_Modulus), v_b_Cocycle_Values]] := St.extend hS117 he1388
        have e1392 : f1386 4 = (Value.int .i64 z) := (hout1389 4 rfl).trans e114
        exact OpX.val (Value.int .i64 z) wd1387 rfl (op_move e1392) (Ext.refl _) ⟨rfl, r_z⟩
      · refine ObX.op rfl ?_
        intro f1393 wd1394 he1395 hout1396 hphi1397
        have hS1398 : St wd2 wd1394 [bx b108 [v_b_Cocycle_Orders, (Value.int .i64 b_Cocycle_Modulus), v_b_Cocycle_Values]] := St.extend hS117 he1395
        obtain ⟨S1399, hS1400, hf1401⟩ := hphi1397 38 124 _ rfl rfl rfl
        have e1402 : f1393 124 = u1383 := hf1401
        obtain ⟨S1403, hS1404, hf1405⟩ := hphi1397 39 125 _ rfl rfl rfl
        obtain ⟨e1406, hr1407⟩ : f1393 125 = (Value.int .i64 z) ∧ InR .i64 z := hf1405
        exact OpX.val (Value.pointer (some (elA u1383 (z).toNat))) wd1394 rfl (op_idx sl_22 (Ty.lift _ (Ext.trans hE7 hS1398.ext) hr1385) e1402 e1406 ha1409 hb1410) (Ext.refl _) rfl
      · refine ObX.op rfl ?_
        intro f1412 wd1413 he1414 hout1415 hphi1416
        have hS1417 : St wd2 wd1413 [bx b108 [v_b_Cocycle_Orders, (Value.int .i64 b_Cocycle_Modulus), v_b_Cocycle_Values]] := St.extend hS117 he1414
        obtain ⟨S1418, hS1419, hf1420⟩ := hphi1416 40 126 _ rfl rfl rfl
        have e1421 : f1412 126 = (Value.pointer (some (elA u1383 (z).toNat))) := hf1420
        exact OpX.val (Value.int .i64 x1408) wd1413 rfl (op_load one_2 e1421 (Ext.cell (Ext.trans hE7 hS1417.ext) hc1423)) (Ext.refl _) ⟨rfl, hr1424⟩
      · refine ObX.op rfl ?_
        intro f1425 wd1426 he1427 hout1428 hphi1429
        have hS1430 : St wd2 wd1426 [bx b108 [v_b_Cocycle_Orders, (Value.int .i64 b_Cocycle_Modulus), v_b_Cocycle_Values]] := St.extend hS117 he1427
        have e1431 : f1425 12 = v_b_Values := (hout1428 12 rfl).trans e110
        exact OpX.val v_b_Values wd1426 rfl (op_move e1431) (Ext.refl _) rfl
      · refine ObX.op rfl ?_
        intro f1432 wd1433 he1434 hout1435 hphi1436
        have hS1437 : St wd2 wd1433 [bx b108 [v_b_Cocycle_Orders, (Value.int .i64 b_Cocycle_Modulus), v_b_Cocycle_Values]] := St.extend hS117 he1434
        have e1438 : f1432 3 = (Value.int .i64 y) := (hout1435 3 rfl).trans e113
        exact OpX.val (Value.int .i64 y) wd1433 rfl (op_move e1438) (Ext.refl _) ⟨rfl, r_y⟩
      · refine ObX.op rfl ?_
        intro f1439 wd1440 he1441 hout1442 hphi1443
        have hS1444 : St wd2 wd1440 [bx b108 [v_b_Cocycle_Orders, (Value.int .i64 b_Cocycle_Modulus), v_b_Cocycle_Values]] := St.extend hS117 he1441
        obtain ⟨S1445, hS1446, hf1447⟩ := hphi1443 42 128 _ rfl rfl rfl
        have e1448 : f1439 128 = v_b_Values := hf1447
        obtain ⟨S1449, hS1450, hf1451⟩ := hphi1443 43 129 _ rfl rfl rfl
        obtain ⟨e1452, hr1453⟩ : f1439 129 = (Value.int .i64 y) ∧ InR .i64 y := hf1451
        exact OpX.val (Value.pointer (some (elA v_b_Values (y).toNat))) wd1440 rfl (op_idx sl_26 (Ty.lift _ (Ext.trans hE7 hS1444.ext) r_b_Values) e1448 e1452 ha1455 hb1456) (Ext.refl _) rfl
      · refine ObX.op rfl ?_
        intro f1458 wd1459 he1460 hout1461 hphi1462
        have hS1463 : St wd2 wd1459 [bx b108 [v_b_Cocycle_Orders, (Value.int .i64 b_Cocycle_Modulus), v_b_Cocycle_Values]] := St.extend hS117 he1460
        obtain ⟨S1464, hS1465, hf1466⟩ := hphi1462 44 130 _ rfl rfl rfl
        have e1467 : f1458 130 = (Value.pointer (some (elA v_b_Values (y).toNat))) := hf1466
        exact OpX.val u1468 wd1459 rfl (op_load one_22 e1467 (Ext.cell (Ext.trans hE7 hS1463.ext) hc1469)) (Ext.refl _) rfl
      · refine ObX.op rfl ?_
        intro f1471 wd1472 he1473 hout1474 hphi1475
        have hS1476 : St wd2 wd1472 [bx b108 [v_b_Cocycle_Orders, (Value.int .i64 b_Cocycle_Modulus), v_b_Cocycle_Values]] := St.extend hS117 he1473
        have e1477 : f1471 4 = (Value.int .i64 z) := (hout1474 4 rfl).trans e114
        exact OpX.val (Value.int .i64 z) wd1472 rfl (op_move e1477) (Ext.refl _) ⟨rfl, r_z⟩
      · refine ObX.op rfl ?_
        intro f1478 wd1479 he1480 hout1481 hphi1482
        have hS1483 : St wd2 wd1479 [bx b108 [v_b_Cocycle_Orders, (Value.int .i64 b_Cocycle_Modulus), v_b_Cocycle_Values]] := St.extend hS117 he1480
        obtain ⟨S1484, hS1485, hf1486⟩ := hphi1482 45 131 _ rfl rfl rfl
        have e1487 : f1478 131 = u1468 := hf1486
        obtain ⟨S1488, hS1489, hf1490⟩ := hphi1482 46 132 _ rfl rfl rfl
        obtain ⟨e1491, hr1492⟩ : f1478 132 = (Value.int .i64 z) ∧ InR .i64 z := hf1490
        exact OpX.val (Value.pointer (some (elA u1468 (z).toNat))) wd1479 rfl (op_idx sl_22 (Ty.lift _ (Ext.trans hE7 hS1483.ext) hr1470) e1487 e1491 ha1494 hb1495) (Ext.refl _) rfl
      · refine ObX.op rfl ?_
        intro f1497 wd1498 he1499 hout1500 hphi1501
        have hS1502 : St wd2 wd1498 [bx b108 [v_b_Cocycle_Orders, (Value.int .i64 b_Cocycle_Modulus), v_b_Cocycle_Values]] := St.extend hS117 he1499
        obtain ⟨S1503, hS1504, hf1505⟩ := hphi1501 47 133 _ rfl rfl rfl
        have e1506 : f1497 133 = (Value.pointer (some (elA u1468 (z).toNat))) := hf1505
        exact OpX.val (Value.int .i64 x1493) wd1498 rfl (op_load one_2 e1506 (Ext.cell (Ext.trans hE7 hS1502.ext) hc1508)) (Ext.refl _) ⟨rfl, hr1509⟩
      · refine ObX.op rfl ?_
        intro f1510 wd1511 he1512 hout1513 hphi1514
        have hS1515 : St wd2 wd1511 [bx b108 [v_b_Cocycle_Orders, (Value.int .i64 b_Cocycle_Modulus), v_b_Cocycle_Values]] := St.extend hS117 he1512
        obtain ⟨S1516, hS1517, hf1518⟩ := hphi1514 41 127 _ rfl rfl rfl
        obtain ⟨e1519, hr1520⟩ : f1510 127 = (Value.int .i64 x1408) ∧ InR .i64 x1408 := hf1518
        obtain ⟨S1521, hS1522, hf1523⟩ := hphi1514 48 134 _ rfl rfl rfl
        obtain ⟨e1524, hr1525⟩ : f1510 134 = (Value.int .i64 x1493) ∧ InR .i64 x1493 := hf1523
        exact OpX.val (Value.int .i64 (w64 (x1408 + x1493))) wd1511 rfl (op_add e1519 e1524) (Ext.refl _) ⟨rfl, (inR_wrap _ _)⟩
      · refine ObX.op rfl ?_
        intro f1526 wd1527 he1528 hout1529 hphi1530
        have hS1531 : St wd2 wd1527 [bx b108 [v_b_Cocycle_Orders, (Value.int .i64 b_Cocycle_Modulus), v_b_Cocycle_Values]] := St.extend hS117 he1528
        have e1532 : f1526 11 = v_b_Cocycle_Values := (hout1529 11 rfl).trans e109
        exact OpX.val v_b_Cocycle_Values wd1527 rfl (op_move e1532) (Ext.refl _) rfl
      · refine ObX.op rfl ?_
        intro f1533 wd1534 he1535 hout1536 hphi1537
        have hS1538 : St wd2 wd1534 [bx b108 [v_b_Cocycle_Orders, (Value.int .i64 b_Cocycle_Modulus), v_b_Cocycle_Values]] := St.extend hS117 he1535
        have e1539 : f1533 2 = (Value.int .i64 x) := (hout1536 2 rfl).trans e112
        exact OpX.val (Value.int .i64 x) wd1534 rfl (op_move e1539) (Ext.refl _) ⟨rfl, r_x⟩
      · refine ObX.op rfl ?_
        intro f1540 wd1541 he1542 hout1543 hphi1544
        have hS1545 : St wd2 wd1541 [bx b108 [v_b_Cocycle_Orders, (Value.int .i64 b_Cocycle_Modulus), v_b_Cocycle_Values]] := St.extend hS117 he1542
        obtain ⟨S1546, hS1547, hf1548⟩ := hphi1544 50 136 _ rfl rfl rfl
        have e1549 : f1540 136 = v_b_Cocycle_Values := hf1548
        obtain ⟨S1550, hS1551, hf1552⟩ := hphi1544 51 137 _ rfl rfl rfl
        obtain ⟨e1553, hr1554⟩ : f1540 137 = (Value.int .i64 x) ∧ InR .i64 x := hf1552
        exact OpX.val (Value.pointer (some (elA v_b_Cocycle_Values (x).toNat))) wd1541 rfl (op_idx sl_23 (Ty.lift _ (Ext.trans hE7 hS1545.ext) r_b_Cocycle_Values) e1549 e1553 ha1201 hb1202) (Ext.refl _) rfl
      · refine ObX.op rfl ?_
        intro f1555 wd1556 he1557 hout1558 hphi1559
        have hS1560 : St wd2 wd1556 [bx b108 [v_b_Cocycle_Orders, (Value.int .i64 b_Cocycle_Modulus), v_b_Cocycle_Values]] := St.extend hS117 he1557
        obtain ⟨S1561, hS1562, hf1563⟩ := hphi1559 52 138 _ rfl rfl rfl
        have e1564 : f1555 138 = (Value.pointer (some (elA v_b_Cocycle_Values (x).toNat))) := hf1563
        exact OpX.val u1565 wd1556 rfl (op_load one_26 e1564 (Ext.cell (Ext.trans hE7 hS1560.ext) hc1566)) (Ext.refl _) rfl
      · refine ObX.op rfl ?_
        intro f1568 wd1569 he1570 hout1571 hphi1572
        have hS1573 : St wd2 wd1569 [bx b108 [v_b_Cocycle_Orders, (Value.int .i64 b_Cocycle_Modulus), v_b_Cocycle_Values]] := St.extend hS117 he1570
        have e1574 : f1568 4 = (Value.int .i64 z) := (hout1571 4 rfl).trans e114
        exact OpX.val (Value.int .i64 z) wd1569 rfl (op_move e1574) (Ext.refl _) ⟨rfl, r_z⟩
      · refine ObX.op rfl ?_
        intro f1575 wd1576 he1577 hout1578 hphi1579
        have hS1580 : St wd2 wd1576 [bx b108 [v_b_Cocycle_Orders, (Value.int .i64 b_Cocycle_Modulus), v_b_Cocycle_Values]] := St.extend hS117 he1577
        obtain ⟨S1581, hS1582, hf1583⟩ := hphi1579 53 139 _ rfl rfl rfl
        have e1584 : f1575 139 = u1565 := hf1583
        obtain ⟨S1585, hS1586, hf1587⟩ := hphi1579 54 140 _ rfl rfl rfl
        obtain ⟨e1588, hr1589⟩ : f1575 140 = (Value.int .i64 z) ∧ InR .i64 z := hf1587
        exact OpX.val (Value.pointer (some (elA u1565 (z).toNat))) wd1576 rfl (op_idx sl_26 (Ty.lift _ (Ext.trans hE7 hS1580.ext) hr1567) e1584 e1588 ha1591 hb1592) (Ext.refl _) rfl
      · refine ObX.op rfl ?_
        intro f1594 wd1595 he1596 hout1597 hphi1598
        have hS1599 : St wd2 wd1595 [bx b108 [v_b_Cocycle_Orders, (Value.int .i64 b_Cocycle_Modulus), v_b_Cocycle_Values]] := St.extend hS117 he1596
        obtain ⟨S1600, hS1601, hf1602⟩ := hphi1598 55 141 _ rfl rfl rfl
        have e1603 : f1594 141 = (Value.pointer (some (elA u1565 (z).toNat))) := hf1602
        exact OpX.val u1604 wd1595 rfl (op_load one_22 e1603 (Ext.cell (Ext.trans hE7 hS1599.ext) hc1605)) (Ext.refl _) rfl
      · refine ObX.op rfl ?_
        intro f1607 wd1608 he1609 hout1610 hphi1611
        have hS1612 : St wd2 wd1608 [bx b108 [v_b_Cocycle_Orders, (Value.int .i64 b_Cocycle_Modulus), v_b_Cocycle_Values]] := St.extend hS117 he1609
        have e1613 : f1607 3 = (Value.int .i64 y) := (hout1610 3 rfl).trans e113
        exact OpX.val (Value.int .i64 y) wd1608 rfl (op_move e1613) (Ext.refl _) ⟨rfl, r_y⟩
      · refine ObX.op rfl ?_
        intro f1614 wd1615 he1616 hout1617 hphi1618
        have hS1619 : St wd2 wd1615 [bx b108 [v_b_Cocycle_Orders, (Value.int .i64 b_Cocycle_Modulus), v_b_Cocycle_Values]] := St.extend hS117 he1616
        obtain ⟨S1620, hS1621, hf1622⟩ := hphi1618 56 142 _ rfl rfl rfl
        have e1623 : f1614 142 = u1604 := hf1622
        obtain ⟨S1624, hS1625, hf1626⟩ := hphi1618 57 143 _ rfl rfl rfl
        obtain ⟨e1627, hr1628⟩ : f1614 143 = (Value.int .i64 y) ∧ InR .i64 y := hf1626
        exact OpX.val (Value.pointer (some (elA u1604 (y).toNat))) wd1615 rfl (op_idx sl_22 (Ty.lift _ (Ext.trans hE7 hS1619.ext) hr1606) e1623 e1627 ha1630 hb1631) (Ext.refl _) rfl
      · refine ObX.op rfl ?_
        intro f1633 wd1634 he1635 hout1636 hphi1637
        have hS1638 : St wd2 wd1634 [bx b108 [v_b_Cocycle_Orders, (Value.int .i64 b_Cocycle_Modulus), v_b_Cocycle_Values]] := St.extend hS117 he1635
        obtain ⟨S1639, hS1640, hf1641⟩ := hphi1637 58 144 _ rfl rfl rfl
        have e1642 : f1633 144 = (Value.pointer (some (elA u1604 (y).toNat))) := hf1641
        exact OpX.val (Value.int .i64 x1629) wd1634 rfl (op_load one_2 e1642 (Ext.cell (Ext.trans hE7 hS1638.ext) hc1644)) (Ext.refl _) ⟨rfl, hr1645⟩
      · refine ObX.op rfl ?_
        intro f1646 wd1647 he1648 hout1649 hphi1650
        have hS1651 : St wd2 wd1647 [bx b108 [v_b_Cocycle_Orders, (Value.int .i64 b_Cocycle_Modulus), v_b_Cocycle_Values]] := St.extend hS117 he1648
        obtain ⟨S1652, hS1653, hf1654⟩ := hphi1650 49 135 _ rfl rfl rfl
        obtain ⟨e1655, hr1656⟩ : f1646 135 = (Value.int .i64 (w64 (x1408 + x1493))) ∧ InR .i64 (w64 (x1408 + x1493)) := hf1654
        obtain ⟨S1657, hS1658, hf1659⟩ := hphi1650 59 145 _ rfl rfl rfl
        obtain ⟨e1660, hr1661⟩ : f1646 145 = (Value.int .i64 x1629) ∧ InR .i64 x1629 := hf1659
        exact OpX.val (Value.int .i64 (w64 ((w64 (x1408 + x1493)) - x1629))) wd1647 rfl (op_sub e1655 e1660) (Ext.refl _) ⟨rfl, (inR_wrap _ _)⟩
      · intro f1662 wd1663 Ss1664 he1665 hout1666 hSn1667 hSd1668 hphi1669
        show WL _ _ _ _ _ _ _
        have hS1670 : St wd2 wd1663 [bx b108 [v_b_Cocycle_Orders, (Value.int .i64 b_Cocycle_Modulus), v_b_Cocycle_Values]] := St.extend hS117 he1665
        obtain ⟨e1671, hr1672⟩ : f1662 119 = (Value.int .i64 x1327) ∧ InR .i64 x1327 := hphi1669 33 119 _ (by decide) rfl rfl
        obtain ⟨e1673, hr1674⟩ := hphi1669 34 120 _ (by decide) rfl rfl
        obtain ⟨e1675, hr1676⟩ : f1662 146 = (Value.int .i64 (w64 ((w64 (x1408 + x1493)) - x1629))) ∧ InR .i64 (w64 ((w64 (x1408 + x1493)) - x1629)) := hphi1669 60 146 _ (by decide) rfl rfl
        obtain ⟨x1677, hx1678, h⟩ := bs h
        refine WL.call _ (op_call fn_72 (args2 e1673 e1675)) (c_impl_Cocycle_rest (Ty.lift _ (Ext.trans hE7 hS1670.ext) r_b_Cocycle_Orders) hr1674 (Ty.lift _ (Ext.trans hE7 hS1670.ext) r_b_Cocycle_Values) hr1676 hx1678) rfl ?_
        rintro _ wd1680 ⟨rfl, hr1679, he1681⟩
        have hS1683 := St.extend hS1670 he1681
        replace hS1683 : St wd2 wd1680 [bx b108 [v_b_Cocycle_Orders, (Value.int .i64 b_Cocycle_Modulus), v_b_Cocycle_Values]] := hS1683
        refine WL.val (Value.bool (x1327 == x1677)) _ (op_eql e1671 rfl) rfl ?_
        refine WL.val (Value.bool (x1327 == x1677)) _ (op_assign rfl) rfl ?_
        refine WL.nil ?_
        show W _ _ _ _ _ _
        refine W.ret ?_
        obtain rfl := Option.some.inj h
        show FinP _ _ _ _ _ _ _
        exact FinP.ret _ (res1 rfl rfl) ⟨rfl, (Ext.trans hE7 hS1683.ext)⟩

end Go.VG
