/- The walks, part 4: each Go function returns what its plain twin returns. No condition beyond what each names. -/
import Derived.Test.YtajalkfoblcaaaaGWalk3
set_option linter.all false
namespace Go.VG
open Go.Proofs
attribute [local irreducible] W WL Sep FinP

theorem c_impl_Braiding_monodromy {w : World} {b_Cocycle_Orders : (List Int)} {v_b_Cocycle_Orders : Value} {b_Cocycle_Modulus : Int} {b_Cocycle_Values : (List (List (List Int)))} {v_b_Cocycle_Values : Value} {b_Values : (List (List Int))} {v_b_Values : Value} {x : Int} {y : Int} (r_b_Cocycle_Orders : (Ty.sl (Ty.i .i64)).rep w v_b_Cocycle_Orders b_Cocycle_Orders) (r_b_Cocycle_Modulus : InR .i64 b_Cocycle_Modulus) (r_b_Cocycle_Values : (Ty.sl (Ty.sl (Ty.sl (Ty.i .i64)))).rep w v_b_Cocycle_Values b_Cocycle_Values) (r_b_Values : (Ty.sl (Ty.sl (Ty.i .i64))).rep w v_b_Values b_Values) (r_x : InR .i64 x) (r_y : InR .i64 y) {res : Int} (h : p_impl_Braiding_monodromy b_Cocycle_Orders b_Cocycle_Modulus b_Cocycle_Values b_Values x y  = some res) :
    Ret Try.prog 58 #[(Value.agg #[v_b_Cocycle_Orders, (Value.int .i64 b_Cocycle_Modulus), v_b_Cocycle_Values, v_b_Values]), (Value.int .i64 x), (Value.int .i64 y)] w (fun v w' => v = Value.int .i64 res ∧ InR .i64 res ∧ Ext w w') := by
  unfold p_impl_Braiding_monodromy at h
  have hS0 : St w w [] := St.start w
  refine Ret.start (fn := Try.f58) Try.func58 rfl 27 rfl rfl ?_
  refine W.seq (W.region ?_)
  refine WL.box hS0 rfl (cs := [v_b_Cocycle_Orders, (Value.int .i64 b_Cocycle_Modulus), v_b_Cocycle_Values, v_b_Values]) rfl rfl ?_
  intro b1 wd2 hS3 he4 hx5
  replace hS3 : St w wd2 [bx b1 [v_b_Cocycle_Orders, (Value.int .i64 b_Cocycle_Modulus), v_b_Cocycle_Values, v_b_Values]] := hS3
  have hx6 := St.boxAt hS3 0 rfl
  have hE7 : Ext w wd2 := hS3.ext
  have hS8 : St wd2 wd2 [] := St.start wd2
  refine WL.val (Value.int .i64 (0 : Int)) _ (op_assign rfl) rfl ?_
  refine WL.nil ?_
  show W _ _ _ _ _ _
  refine W.seq ?_
  obtain ⟨x65, hx68, h⟩ := bs h
  obtain ⟨ha66, hb67, hx68⟩ := idx_some hx68
  obtain ⟨u79, hc80, hr81⟩ := repSl.el r_b_Values hx68
  obtain ⟨x104, hx107, h⟩ := bs h
  obtain ⟨ha105, hb106, hx107⟩ := idx_some hx107
  obtain ⟨u118, hc119, hr120⟩ := repSl.el hr81 hx107
  obtain ⟨rfl, hr120⟩ := hr120
  obtain ⟨x160, hx163, h⟩ := bs h
  obtain ⟨ha161, hb162, hx163⟩ := idx_some hx163
  obtain ⟨u174, hc175, hr176⟩ := repSl.el r_b_Values hx163
  obtain ⟨x199, hx202, h⟩ := bs h
  obtain ⟨ha200, hb201, hx202⟩ := idx_some hx202
  obtain ⟨u213, hc214, hr215⟩ := repSl.el hr176 hx202
  obtain ⟨rfl, hr215⟩ := hr215
  refine W.drawR mixo 19 [] [fun _ v _ _ => v = (Value.pointer (some ⟨b1, 0, none⟩)), fun _ v S w' => v = (Value.agg #[v_b_Cocycle_Orders, (Value.int .i64 b_Cocycle_Modulus), v_b_Cocycle_Values]) ∧ InR .i64 b_Cocycle_Modulus, fun _ v _ _ => v = (Value.pointer (some ⟨b1, 3, none⟩)), fun _ v _ _ => v = v_b_Values, fun _ v _ _ => v = (Value.int .i64 x) ∧ InR .i64 x, fun _ v _ _ => v = (Value.pointer (some (elA v_b_Values (x).toNat))), fun _ v _ _ => v = u79, fun _ v _ _ => v = (Value.int .i64 y) ∧ InR .i64 y, fun _ v _ _ => v = (Value.pointer (some (elA u79 (y).toNat))), fun _ v _ _ => v = (Value.int .i64 x104) ∧ InR .i64 x104, fun _ v _ _ => v = (Value.pointer (some ⟨b1, 3, none⟩)), fun _ v _ _ => v = v_b_Values, fun _ v _ _ => v = (Value.int .i64 y) ∧ InR .i64 y, fun _ v _ _ => v = (Value.pointer (some (elA v_b_Values (y).toNat))), fun _ v _ _ => v = u174, fun _ v _ _ => v = (Value.int .i64 x) ∧ InR .i64 x, fun _ v _ _ => v = (Value.pointer (some (elA u174 (x).toNat))), fun _ v _ _ => v = (Value.int .i64 x199) ∧ InR .i64 x199, fun _ v _ _ => v = (Value.int .i64 (w64 (x104 + x199))) ∧ InR .i64 (w64 (x104 + x199))] (by kernel_rfl) (by kernel_rfl) ⟨⟨fun _ _ _ _ _ _ h => h, fun _ _ _ _ _ _ h => h⟩, ⟨fun _ _ _ _ _ he ⟨h0, h1⟩ => ⟨h0, h1⟩, fun _ _ _ _ _ _ h => h⟩, ⟨fun _ _ _ _ _ _ h => h, fun _ _ _ _ _ _ h => h⟩, ⟨fun _ _ _ _ _ _ h => h, fun _ _ _ _ _ _ h => h⟩, ⟨fun _ _ _ _ _ _ h => h, fun _ _ _ _ _ _ h => h⟩, ⟨fun _ _ _ _ _ _ h => h, fun _ _ _ _ _ _ h => h⟩, ⟨fun _ _ _ _ _ _ h => h, fun _ _ _ _ _ _ h => h⟩, ⟨fun _ _ _ _ _ _ h => h, fun _ _ _ _ _ _ h => h⟩, ⟨fun _ _ _ _ _ _ h => h, fun _ _ _ _ _ _ h => h⟩, ⟨fun _ _ _ _ _ _ h => h, fun _ _ _ _ _ _ h => h⟩, ⟨fun _ _ _ _ _ _ h => h, fun _ _ _ _ _ _ h => h⟩, ⟨fun _ _ _ _ _ _ h => h, fun _ _ _ _ _ _ h => h⟩, ⟨fun _ _ _ _ _ _ h => h, fun _ _ _ _ _ _ h => h⟩, ⟨fun _ _ _ _ _ _ h => h, fun _ _ _ _ _ _ h => h⟩, ⟨fun _ _ _ _ _ _ h => h, fun _ _ _ _ _ _ h => h⟩, ⟨fun _ _ _ _ _ _ h => h, fun _ _ _ _ _ _ h => h⟩, ⟨fun _ _ _ _ _ _ h => h, fun _ _ _ _ _ _ h => h⟩, ⟨fun _ _ _ _ _ _ h => h, fun _ _ _ _ _ _ h => h⟩, ⟨fun _ _ _ _ _ _ h => h, fun _ _ _ _ _ _ h => h⟩, trivial⟩ ⟨?_, ?_, ?_, ?_, ?_, ?_, ?_, ?_, ?_, ?_, ?_, ?_, ?_, ?_, ?_, ?_, ?_, ?_, ?_, trivial⟩ ?_
  · refine ObX.op rfl ?_
    intro f9 wd10 he11 hout12 hphi13
    have hS14 : St wd2 wd10 [] := St.extend hS8 he11
    have e15 : f9 3 = (Value.pointer (some ⟨b1, 0, none⟩)) := (hout12 3 rfl).trans rfl
    exact OpX.val (Value.pointer (some ⟨b1, 0, none⟩)) wd10 rfl (op_fieldAddr fd_42_0 e15) (Ext.refl _) rfl
  · refine ObX.op rfl ?_
    intro f16 wd17 he18 hout19 hphi20
    have hS21 : St wd2 wd17 [] := St.extend hS8 he18
    obtain ⟨S22, hS23, hf24⟩ := hphi20 0 7 _ rfl rfl rfl
    have e25 : f16 7 = (Value.pointer (some ⟨b1, 0, none⟩)) := hf24
    exact OpX.val (Value.agg #[v_b_Cocycle_Orders, (Value.int .i64 b_Cocycle_Modulus), v_b_Cocycle_Values]) wd17 rfl (op_loadBox st_30 e25 (BoxAt.lift hS21.ext hx6) rfl rfl) (Ext.refl _) ⟨rfl, r_b_Cocycle_Modulus⟩
  · refine ObX.op rfl ?_
    intro f26 wd27 he28 hout29 hphi30
    have hS31 : St wd2 wd27 [] := St.extend hS8 he28
    have e32 : f26 3 = (Value.pointer (some ⟨b1, 0, none⟩)) := (hout29 3 rfl).trans rfl
    exact OpX.val (Value.pointer (some ⟨b1, 3, none⟩)) wd27 rfl (op_fieldAddr fd_42_1 e32) (Ext.refl _) rfl
  · refine ObX.op rfl ?_
    intro f33 wd34 he35 hout36 hphi37
    have hS38 : St wd2 wd34 [] := St.extend hS8 he35
    obtain ⟨S39, hS40, hf41⟩ := hphi37 2 9 _ rfl rfl rfl
    have e42 : f33 9 = (Value.pointer (some ⟨b1, 3, none⟩)) := hf41
    exact OpX.val v_b_Values wd34 rfl (op_load one_27 e42 (BoxAt.cell (BoxAt.lift hS38.ext hx6) rfl)) (Ext.refl _) rfl
  · refine ObX.op rfl ?_
    intro f43 wd44 he45 hout46 hphi47
    have hS48 : St wd2 wd44 [] := St.extend hS8 he45
    have e49 : f43 1 = (Value.int .i64 x) := (hout46 1 rfl).trans rfl
    exact OpX.val (Value.int .i64 x) wd44 rfl (op_move e49) (Ext.refl _) ⟨rfl, r_x⟩
  · refine ObX.op rfl ?_
    intro f50 wd51 he52 hout53 hphi54
    have hS55 : St wd2 wd51 [] := St.extend hS8 he52
    obtain ⟨S56, hS57, hf58⟩ := hphi54 3 10 _ rfl rfl rfl
    have e59 : f50 10 = v_b_Values := hf58
    obtain ⟨S60, hS61, hf62⟩ := hphi54 4 11 _ rfl rfl rfl
    obtain ⟨e63, hr64⟩ : f50 11 = (Value.int .i64 x) ∧ InR .i64 x := hf62
    exact OpX.val (Value.pointer (some (elA v_b_Values (x).toNat))) wd51 rfl (op_idx sl_27 (Ty.lift _ (Ext.trans hE7 hS55.ext) r_b_Values) e59 e63 ha66 hb67) (Ext.refl _) rfl
  · refine ObX.op rfl ?_
    intro f69 wd70 he71 hout72 hphi73
    have hS74 : St wd2 wd70 [] := St.extend hS8 he71
    obtain ⟨S75, hS76, hf77⟩ := hphi73 5 12 _ rfl rfl rfl
    have e78 : f69 12 = (Value.pointer (some (elA v_b_Values (x).toNat))) := hf77
    exact OpX.val u79 wd70 rfl (op_load one_22 e78 (Ext.cell (Ext.trans hE7 hS74.ext) hc80)) (Ext.refl _) rfl
  · refine ObX.op rfl ?_
    intro f82 wd83 he84 hout85 hphi86
    have hS87 : St wd2 wd83 [] := St.extend hS8 he84
    have e88 : f82 2 = (Value.int .i64 y) := (hout85 2 rfl).trans rfl
    exact OpX.val (Value.int .i64 y) wd83 rfl (op_move e88) (Ext.refl _) ⟨rfl, r_y⟩
  · refine ObX.op rfl ?_
    intro f89 wd90 he91 hout92 hphi93
    have hS94 : St wd2 wd90 [] := St.extend hS8 he91
    obtain ⟨S95, hS96, hf97⟩ := hphi93 6 13 _ rfl rfl rfl
    have e98 : f89 13 = u79 := hf97
    obtain ⟨S99, hS100, hf101⟩ := hphi93 7 14 _ rfl rfl rfl
    obtain ⟨e102, hr103⟩ : f89 14 = (Value.int .i64 y) ∧ InR .i64 y := hf101
    exact OpX.val (Value.pointer (some (elA u79 (y).toNat))) wd90 rfl (op_idx sl_22 (Ty.lift _ (Ext.trans hE7 hS94.ext) hr81) e98 e102 ha105 hb106) (Ext.refl _) rfl
  · refine ObX.op rfl ?_
    intro f108 wd109 he110 hout111 hphi112
    have hS113 : St wd2 wd109 [] := St.extend hS8 he110
    obtain ⟨S114, hS115, hf116⟩ := hphi112 8 15 _ rfl rfl rfl
    have e117 : f108 15 = (Value.pointer (some (elA u79 (y).toNat))) := hf116
    exact OpX.val (Value.int .i64 x104) wd109 rfl (op_load one_2 e117 (Ext.cell (Ext.trans hE7 hS113.ext) hc119)) (Ext.refl _) ⟨rfl, hr120⟩
  · refine ObX.op rfl ?_
    intro f121 wd122 he123 hout124 hphi125
    have hS126 : St wd2 wd122 [] := St.extend hS8 he123
    have e127 : f121 3 = (Value.pointer (some ⟨b1, 0, none⟩)) := (hout124 3 rfl).trans rfl
    exact OpX.val (Value.pointer (some ⟨b1, 3, none⟩)) wd122 rfl (op_fieldAddr fd_42_1 e127) (Ext.refl _) rfl
  · refine ObX.op rfl ?_
    intro f128 wd129 he130 hout131 hphi132
    have hS133 : St wd2 wd129 [] := St.extend hS8 he130
    obtain ⟨S134, hS135, hf136⟩ := hphi132 10 17 _ rfl rfl rfl
    have e137 : f128 17 = (Value.pointer (some ⟨b1, 3, none⟩)) := hf136
    exact OpX.val v_b_Values wd129 rfl (op_load one_27 e137 (BoxAt.cell (BoxAt.lift hS133.ext hx6) rfl)) (Ext.refl _) rfl
  · refine ObX.op rfl ?_
    intro f138 wd139 he140 hout141 hphi142
    have hS143 : St wd2 wd139 [] := St.extend hS8 he140
    have e144 : f138 2 = (Value.int .i64 y) := (hout141 2 rfl).trans rfl
    exact OpX.val (Value.int .i64 y) wd139 rfl (op_move e144) (Ext.refl _) ⟨rfl, r_y⟩
  · refine ObX.op rfl ?_
    intro f145 wd146 he147 hout148 hphi149
    have hS150 : St wd2 wd146 [] := St.extend hS8 he147
    obtain ⟨S151, hS152, hf153⟩ := hphi149 11 18 _ rfl rfl rfl
    have e154 : f145 18 = v_b_Values := hf153
    obtain ⟨S155, hS156, hf157⟩ := hphi149 12 19 _ rfl rfl rfl
    obtain ⟨e158, hr159⟩ : f145 19 = (Value.int .i64 y) ∧ InR .i64 y := hf157
    exact OpX.val (Value.pointer (some (elA v_b_Values (y).toNat))) wd146 rfl (op_idx sl_27 (Ty.lift _ (Ext.trans hE7 hS150.ext) r_b_Values) e154 e158 ha161 hb162) (Ext.refl _) rfl
  · refine ObX.op rfl ?_
    intro f164 wd165 he166 hout167 hphi168
    have hS169 : St wd2 wd165 [] := St.extend hS8 he166
    obtain ⟨S170, hS171, hf172⟩ := hphi168 13 20 _ rfl rfl rfl
    have e173 : f164 20 = (Value.pointer (some (elA v_b_Values (y).toNat))) := hf172
    exact OpX.val u174 wd165 rfl (op_load one_22 e173 (Ext.cell (Ext.trans hE7 hS169.ext) hc175)) (Ext.refl _) rfl
  · refine ObX.op rfl ?_
    intro f177 wd178 he179 hout180 hphi181
    have hS182 : St wd2 wd178 [] := St.extend hS8 he179
    have e183 : f177 1 = (Value.int .i64 x) := (hout180 1 rfl).trans rfl
    exact OpX.val (Value.int .i64 x) wd178 rfl (op_move e183) (Ext.refl _) ⟨rfl, r_x⟩
  · refine ObX.op rfl ?_
    intro f184 wd185 he186 hout187 hphi188
    have hS189 : St wd2 wd185 [] := St.extend hS8 he186
    obtain ⟨S190, hS191, hf192⟩ := hphi188 14 21 _ rfl rfl rfl
    have e193 : f184 21 = u174 := hf192
    obtain ⟨S194, hS195, hf196⟩ := hphi188 15 22 _ rfl rfl rfl
    obtain ⟨e197, hr198⟩ : f184 22 = (Value.int .i64 x) ∧ InR .i64 x := hf196
    exact OpX.val (Value.pointer (some (elA u174 (x).toNat))) wd185 rfl (op_idx sl_22 (Ty.lift _ (Ext.trans hE7 hS189.ext) hr176) e193 e197 ha200 hb201) (Ext.refl _) rfl
  · refine ObX.op rfl ?_
    intro f203 wd204 he205 hout206 hphi207
    have hS208 : St wd2 wd204 [] := St.extend hS8 he205
    obtain ⟨S209, hS210, hf211⟩ := hphi207 16 23 _ rfl rfl rfl
    have e212 : f203 23 = (Value.pointer (some (elA u174 (x).toNat))) := hf211
    exact OpX.val (Value.int .i64 x199) wd204 rfl (op_load one_2 e212 (Ext.cell (Ext.trans hE7 hS208.ext) hc214)) (Ext.refl _) ⟨rfl, hr215⟩
  · refine ObX.op rfl ?_
    intro f216 wd217 he218 hout219 hphi220
    have hS221 : St wd2 wd217 [] := St.extend hS8 he218
    obtain ⟨S222, hS223, hf224⟩ := hphi220 9 16 _ rfl rfl rfl
    obtain ⟨e225, hr226⟩ : f216 16 = (Value.int .i64 x104) ∧ InR .i64 x104 := hf224
    obtain ⟨S227, hS228, hf229⟩ := hphi220 17 24 _ rfl rfl rfl
    obtain ⟨e230, hr231⟩ : f216 24 = (Value.int .i64 x199) ∧ InR .i64 x199 := hf229
    exact OpX.val (Value.int .i64 (w64 (x104 + x199))) wd217 rfl (op_add e225 e230) (Ext.refl _) ⟨rfl, (inR_wrap _ _)⟩
  · intro f232 wd233 Ss234 he235 hout236 hSn237 hSd238 hphi239
    show WL _ _ _ _ _ _ _
    have hS240 : St wd2 wd233 [] := St.extend hS8 he235
    obtain ⟨e241, hr242⟩ := hphi239 1 8 _ (by decide) rfl rfl
    obtain ⟨e243, hr244⟩ : f232 25 = (Value.int .i64 (w64 (x104 + x199))) ∧ InR .i64 (w64 (x104 + x199)) := hphi239 18 25 _ (by decide) rfl rfl
    obtain ⟨x245, hx246, h⟩ := bs h
    refine WL.call _ (op_call fn_43 (args2 e241 e243)) (c_impl_Cocycle_rest (Ty.lift _ (Ext.trans hE7 hS240.ext) r_b_Cocycle_Orders) hr242 (Ty.lift _ (Ext.trans hE7 hS240.ext) r_b_Cocycle_Values) hr244 hx246) rfl ?_
    rintro _ wd248 ⟨rfl, hr247, he249⟩
    have hS251 := St.extend hS240 he249
    replace hS251 : St wd2 wd248 [] := hS251
    refine WL.val (Value.int .i64 x245) _ (op_assign rfl) rfl ?_
    refine WL.nil ?_
    show W _ _ _ _ _ _
    refine W.ret ?_
    obtain rfl := Option.some.inj h
    show FinP _ _ _ _ _ _ _
    exact FinP.ret _ (res1 rfl rfl) ⟨rfl, hr247, (Ext.trans hE7 hS251.ext)⟩

theorem c_impl_MonodromyNumber {w : World} {b_Cocycle_Orders : (List Int)} {v_b_Cocycle_Orders : Value} {b_Cocycle_Modulus : Int} {b_Cocycle_Values : (List (List (List Int)))} {v_b_Cocycle_Values : Value} {b_Values : (List (List Int))} {v_b_Values : Value} {x : Int} {y : Int} (r_b_Cocycle_Orders : (Ty.sl (Ty.i .i64)).rep w v_b_Cocycle_Orders b_Cocycle_Orders) (r_b_Cocycle_Modulus : InR .i64 b_Cocycle_Modulus) (r_b_Cocycle_Values : (Ty.sl (Ty.sl (Ty.sl (Ty.i .i64)))).rep w v_b_Cocycle_Values b_Cocycle_Values) (r_b_Values : (Ty.sl (Ty.sl (Ty.i .i64))).rep w v_b_Values b_Values) (r_x : InR .i64 x) (r_y : InR .i64 y) {res : Int × Int} (h : p_impl_MonodromyNumber b_Cocycle_Orders b_Cocycle_Modulus b_Cocycle_Values b_Values x y  = some res) :
    Ret Try.prog 32 #[(Value.agg #[v_b_Cocycle_Orders, (Value.int .i64 b_Cocycle_Modulus), v_b_Cocycle_Values, v_b_Values]), (Value.int .i64 x), (Value.int .i64 y)] w (fun v w' => v = (Value.tuple #[Value.int .i64 res.1, Value.int .i64 res.2]) ∧ InR .i64 res.1 ∧ InR .i64 res.2 ∧ Ext w w') := by
  unfold p_impl_MonodromyNumber at h
  have hS0 : St w w [] := St.start w
  refine Ret.start (fn := Try.f32) Try.func32 rfl 27 rfl rfl ?_
  refine W.seq (W.region ?_)
  refine WL.box hS0 rfl (cs := [v_b_Cocycle_Orders, (Value.int .i64 b_Cocycle_Modulus), v_b_Cocycle_Values, v_b_Values]) rfl rfl ?_
  intro b1 wd2 hS3 he4 hx5
  replace hS3 : St w wd2 [bx b1 [v_b_Cocycle_Orders, (Value.int .i64 b_Cocycle_Modulus), v_b_Cocycle_Values, v_b_Values]] := hS3
  have hx6 := St.boxAt hS3 0 rfl
  have hE7 : Ext w wd2 := hS3.ext
  have hS8 : St wd2 wd2 [] := St.start wd2
  refine WL.val (Value.int .i64 (0 : Int)) _ (op_assign rfl) rfl ?_
  refine WL.val (Value.int .i64 (0 : Int)) _ (op_assign rfl) rfl ?_
  refine WL.nil ?_
  show W _ _ _ _ _ _
  refine W.seq (W.seq (W.region ?_))
  refine WL.val (Value.agg #[v_b_Cocycle_Orders, (Value.int .i64 b_Cocycle_Modulus), v_b_Cocycle_Values, v_b_Values]) _ (op_loadBox st_42 rfl (BoxAt.lift hS8.ext hx6) rfl rfl) rfl ?_
  obtain ⟨x9, hx10, h⟩ := bs h
  refine WL.call _ (op_call fn_20 (args1 rfl)) (c_impl_IsBraiding (Ty.lift _ (Ext.trans hE7 hS8.ext) r_b_Cocycle_Orders) r_b_Cocycle_Modulus (Ty.lift _ (Ext.trans hE7 hS8.ext) r_b_Cocycle_Values) (Ty.lift _ (Ext.trans hE7 hS8.ext) r_b_Values) hx10) rfl ?_
  rintro _ wd11 ⟨rfl, he12⟩
  have hS14 := St.extend hS8 he12
  replace hS14 : St wd2 wd11 [] := hS14
  refine WL.val (Value.bool (!x9)) _ (op_not rfl) rfl ?_
  refine WL.nil ?_
  show W _ _ _ _ _ _
  refine W.cond (!x9) rfl (fun hc15 => ?_) (fun hc15 => ?_)
  · replace h := ip h hc15
    refine W.seq (W.region ?_)
    refine WL.val (Value.int .i64 (0 : Int)) _ (op_assign rfl) rfl ?_
    refine WL.val (Value.int .i64 (1 : Int)) _ (op_assign rfl) rfl ?_
    refine WL.nil ?_
    show W _ _ _ _ _ _
    refine W.ret ?_
    obtain rfl := Option.some.inj h
    show FinP _ _ _ _ _ _ _
    exact FinP.ret _ (res2 rfl rfl rfl) ⟨rfl, (inR_i64.2 (show (-9223372036854775808 : Int) ≤ 0 ∧ (0 : Int) ≤ 9223372036854775807 from by decide)), (inR_i64.2 (show (-9223372036854775808 : Int) ≤ 1 ∧ (1 : Int) ≤ 9223372036854775807 from by decide)), (Ext.trans hE7 hS14.ext)⟩
  · replace h := inegb h hc15
    refine W.skip ?_
    show W _ _ _ _ _ _
    refine W.seq (W.seq (W.region ?_))
    refine WL.val (Value.pointer (some ⟨b1, 0, none⟩)) _ (op_fieldAddr fd_42_0 rfl) rfl ?_
    refine WL.val (Value.agg #[v_b_Cocycle_Orders, (Value.int .i64 b_Cocycle_Modulus), v_b_Cocycle_Values]) _ (op_loadBox st_30 rfl (BoxAt.lift hS14.ext hx6) rfl rfl) rfl ?_
    refine WL.val (Value.int .i64 x) _ (op_move rfl) rfl ?_
    obtain ⟨x17, hx18, h⟩ := bs h
    refine WL.call _ (op_call fn_41 (args2 rfl rfl)) (c_impl_Cocycle_isElement (Ty.lift _ (Ext.trans hE7 hS14.ext) r_b_Cocycle_Orders) r_b_Cocycle_Modulus (Ty.lift _ (Ext.trans hE7 hS14.ext) r_b_Cocycle_Values) r_x hx18) rfl ?_
    rintro _ wd19 ⟨rfl, he20⟩
    have hS22 := St.extend hS14 he20
    replace hS22 : St wd2 wd19 [] := hS22
    refine WL.val (Value.bool (!x17)) _ (op_not rfl) rfl ?_
    refine WL.val (Value.bool (!x17)) _ (op_move rfl) rfl ?_
    obtain ⟨x24, hj25, h⟩ := bs h
    refine WL.cut 6 (fun fq wq => fq 1 = (Value.int .i64 x) ∧ fq 2 = (Value.int .i64 y) ∧ fq 3 = (Value.pointer (some ⟨b1, 0, none⟩)) ∧ fq 22 = Value.bool x24 ∧ St wd2 wq []) ?_ ?_
    · rcases Bool.eq_false_or_eq_true (!x17) with hc23 | hc23
      · replace hj25 := ip hj25 hc23
        refine WL.gskip rfl (bool_of rfl hc23) rfl ?_
        refine WL.gskip rfl (bool_of rfl hc23) rfl ?_
        refine WL.gskip rfl (bool_of rfl hc23) rfl ?_
        refine WL.gskip rfl (bool_of rfl hc23) rfl ?_
        refine WL.gskip rfl (bool_of rfl hc23) rfl ?_
        refine WL.val (Value.bool true) _ (op_pick_t (evb_of rfl hc23) rfl) rfl ?_
        refine WL.nil ?_
        obtain rfl := Option.some.inj hj25
        exact ⟨rfl, rfl, rfl, rfl, rfl, hS22⟩
      · replace hj25 := inegb hj25 hc23
        refine WL.grun rfl (bool_of rfl hc23) ?_
        refine WL.val (Value.pointer (some ⟨b1, 0, none⟩)) _ (op_fieldAddr fd_42_0 rfl) rfl ?_
        refine WL.grun rfl (bool_of rfl hc23) ?_
        refine WL.val (Value.agg #[v_b_Cocycle_Orders, (Value.int .i64 b_Cocycle_Modulus), v_b_Cocycle_Values]) _ (op_loadBox st_30 rfl (BoxAt.lift hS22.ext hx6) rfl rfl) rfl ?_
        refine WL.grun rfl (bool_of rfl hc23) ?_
        refine WL.val (Value.int .i64 y) _ (op_move rfl) rfl ?_
        refine WL.grun rfl (bool_of rfl hc23) ?_
        obtain ⟨x29, hx30, hj25⟩ := bs hj25
        refine WL.call _ (op_call fn_41 (args2 rfl rfl)) (c_impl_Cocycle_isElement (Ty.lift _ (Ext.trans hE7 hS22.ext) r_b_Cocycle_Orders) r_b_Cocycle_Modulus (Ty.lift _ (Ext.trans hE7 hS22.ext) r_b_Cocycle_Values) r_y hx30) rfl ?_
        rintro _ wd31 ⟨rfl, he32⟩
        have hS34 := St.extend hS22 he32
        replace hS34 : St wd2 wd31 [] := hS34
        refine WL.grun rfl (bool_of rfl hc23) ?_
        refine WL.val (Value.bool (!x29)) _ (op_not rfl) rfl ?_
        refine WL.val (Value.bool (!x29)) _ (op_pick_f (evb_of rfl hc23) rfl) rfl ?_
        refine WL.nil ?_
        obtain rfl := Option.some.inj hj25
        exact ⟨rfl, rfl, rfl, rfl, rfl, hS34⟩
    · intro f26 wd27 hq28
      obtain ⟨hf35, hf36, hf37, hf38, hS39⟩ := hq28
      refine WL.nil ?_
      show W _ _ _ _ _ _
      refine W.cond x24 hf38 (fun hc40 => ?_) (fun hc40 => ?_)
      · replace h := ip h hc40
        refine W.seq (W.region ?_)
        refine WL.val (Value.int .i64 (0 : Int)) _ (op_assign rfl) rfl ?_
        refine WL.val (Value.int .i64 (2 : Int)) _ (op_assign rfl) rfl ?_
        refine WL.nil ?_
        show W _ _ _ _ _ _
        refine W.ret ?_
        obtain rfl := Option.some.inj h
        show FinP _ _ _ _ _ _ _
        exact FinP.ret _ (res2 rfl rfl rfl) ⟨rfl, (inR_i64.2 (show (-9223372036854775808 : Int) ≤ 0 ∧ (0 : Int) ≤ 9223372036854775807 from by decide)), (inR_i64.2 (show (-9223372036854775808 : Int) ≤ 2 ∧ (2 : Int) ≤ 9223372036854775807 from by decide)), (Ext.trans hE7 hS39.ext)⟩
      · replace h := inegb h hc40
        refine W.skip ?_
        show W _ _ _ _ _ _
        refine W.seq (W.region ?_)
        refine WL.val (Value.agg #[v_b_Cocycle_Orders, (Value.int .i64 b_Cocycle_Modulus), v_b_Cocycle_Values, v_b_Values]) _ (op_loadBox st_42 hf37 (BoxAt.lift hS39.ext hx6) rfl rfl) rfl ?_
        refine WL.val (Value.int .i64 x) _ (op_move hf35) rfl ?_
        refine WL.val (Value.int .i64 y) _ (op_move hf36) rfl ?_
        obtain ⟨x42, hx43, h⟩ := bs h
        refine WL.call _ (op_call fn_58 (args3 rfl rfl rfl)) (c_impl_Braiding_monodromy (Ty.lift _ (Ext.trans hE7 hS39.ext) r_b_Cocycle_Orders) r_b_Cocycle_Modulus (Ty.lift _ (Ext.trans hE7 hS39.ext) r_b_Cocycle_Values) (Ty.lift _ (Ext.trans hE7 hS39.ext) r_b_Values) r_x r_y hx43) rfl ?_
        rintro _ wd45 ⟨rfl, hr44, he46⟩
        have hS48 := St.extend hS39 he46
        replace hS48 : St wd2 wd45 [] := hS48
        refine WL.val (Value.int .i64 x42) _ (op_assign rfl) rfl ?_
        refine WL.val (Value.int .i64 (0 : Int)) _ (op_assign rfl) rfl ?_
        refine WL.nil ?_
        show W _ _ _ _ _ _
        refine W.ret ?_
        obtain rfl := Option.some.inj h
        show FinP _ _ _ _ _ _ _
        exact FinP.ret _ (res2 rfl rfl rfl) ⟨rfl, hr44, (inR_i64.2 (show (-9223372036854775808 : Int) ≤ 0 ∧ (0 : Int) ≤ 9223372036854775807 from by decide)), (Ext.trans hE7 hS48.ext)⟩

theorem c_laws_FnExactMonodromyNumber {w : World} {aB_Cocycle_Orders : (List Int)} {v_aB_Cocycle_Orders : Value} {aB_Cocycle_Modulus : Int} {aB_Cocycle_Values : (List (List (List Int)))} {v_aB_Cocycle_Values : Value} {aB_Values : (List (List Int))} {v_aB_Values : Value} {aX : Int} {aY : Int} (r_aB_Cocycle_Orders : (Ty.sl (Ty.i .i64)).rep w v_aB_Cocycle_Orders aB_Cocycle_Orders) (r_aB_Cocycle_Modulus : InR .i64 aB_Cocycle_Modulus) (r_aB_Cocycle_Values : (Ty.sl (Ty.sl (Ty.sl (Ty.i .i64)))).rep w v_aB_Cocycle_Values aB_Cocycle_Values) (r_aB_Values : (Ty.sl (Ty.sl (Ty.i .i64))).rep w v_aB_Values aB_Values) (r_aX : InR .i64 aX) (r_aY : InR .i64 aY) {res : Bool} (h : p_laws_FnExactMonodromyNumber aB_Cocycle_Orders aB_Cocycle_Modulus aB_Cocycle_Values aB_Values aX aY  = some res) :
    Ret Try.prog 6 #[(Value.agg #[v_aB_Cocycle_Orders, (Value.int .i64 aB_Cocycle_Modulus), v_aB_Cocycle_Values, v_aB_Values]), (Value.int .i64 aX), (Value.int .i64 aY)] w (fun v w' => v = Value.bool res ∧ Ext w w') := by
  unfold p_laws_FnExactMonodromyNumber at h
  have hS0 : St w w [] := St.start w
  refine Ret.start (fn := Try.f6) Try.func6 rfl 48 rfl rfl ?_
  refine W.seq (W.region ?_)
  refine WL.box hS0 rfl (cs := [v_aB_Cocycle_Orders, (Value.int .i64 aB_Cocycle_Modulus), v_aB_Cocycle_Values, v_aB_Values]) rfl rfl ?_
  intro b1 wd2 hS3 he4 hx5
  replace hS3 : St w wd2 [bx b1 [v_aB_Cocycle_Orders, (Value.int .i64 aB_Cocycle_Modulus), v_aB_Cocycle_Values, v_aB_Values]] := hS3
  have hx6 := St.boxAt hS3 0 rfl
  have hE7 : Ext w wd2 := hS3.ext
  have hS8 : St wd2 wd2 [] := St.start wd2
  refine WL.val (Value.bool false) _ (op_assign rfl) rfl ?_
  refine WL.nil ?_
  show W _ _ _ _ _ _
  refine W.seq (W.region ?_)
  refine WL.val (Value.int .i64 (1048576 : Int)) _ (op_assign rfl) rfl ?_
  refine WL.nil ?_
  show W _ _ _ _ _ _
  refine W.seq (W.region ?_)
  refine WL.val (Value.agg #[v_aB_Cocycle_Orders, (Value.int .i64 aB_Cocycle_Modulus), v_aB_Cocycle_Values, v_aB_Values]) _ (op_loadBox st_38 rfl (BoxAt.lift hS8.ext hx6) rfl rfl) rfl ?_
  refine WL.val (Value.int .i64 (1048576 : Int)) _ (op_move rfl) rfl ?_
  obtain ⟨x9, hx10, h⟩ := bs h
  refine WL.call _ (op_call fn_17 (args2 rfl rfl)) (c_laws_szBraiding (Ty.lift _ (Ext.trans hE7 hS8.ext) r_aB_Cocycle_Orders) r_aB_Cocycle_Modulus (Ty.lift _ (Ext.trans hE7 hS8.ext) r_aB_Cocycle_Values) (Ty.lift _ (Ext.trans hE7 hS8.ext) r_aB_Values) (inR_i64.2 (show (-9223372036854775808 : Int) ≤ 1048576 ∧ (1048576 : Int) ≤ 9223372036854775807 from by decide)) hx10) rfl ?_
  rintro _ wd12 ⟨rfl, hr11, he13⟩
  have hS15 := St.extend hS8 he13
  replace hS15 : St wd2 wd12 [] := hS15
  refine WL.val (Value.int .i64 x9) _ (op_assign rfl) rfl ?_
  refine WL.nil ?_
  show W _ _ _ _ _ _
  refine W.seq (W.seq (W.region ?_))
  refine WL.val (Value.int .i64 x9) _ (op_move rfl) rfl ?_
  refine WL.val (Value.bool (decide (x9 < (0 : Int)))) _ (op_lss rfl rfl) rfl ?_
  refine WL.nil ?_
  show W _ _ _ _ _ _
  refine W.cond (decide (x9 < (0 : Int))) rfl (fun hc16 => ?_) (fun hc16 => ?_)
  · replace h := ip h hc16
    refine W.seq (W.region ?_)
    refine WL.val (Value.bool true) _ (op_assign rfl) rfl ?_
    refine WL.nil ?_
    show W _ _ _ _ _ _
    refine W.ret ?_
    obtain rfl := Option.some.inj h
    show FinP _ _ _ _ _ _ _
    exact FinP.ret _ (res1 rfl rfl) ⟨rfl, (Ext.trans hE7 hS15.ext)⟩
  · replace h := inegb h hc16
    refine W.skip ?_
    show W _ _ _ _ _ _
    refine W.seq (W.region ?_)
    refine WL.val (Value.agg #[v_aB_Cocycle_Orders, (Value.int .i64 aB_Cocycle_Modulus), v_aB_Cocycle_Values, v_aB_Values]) _ (op_loadBox st_38 rfl (BoxAt.lift hS15.ext hx6) rfl rfl) rfl ?_
    obtain ⟨x18, hx19, h⟩ := bs h
    refine WL.call _ (op_call fn_19 (args1 rfl)) (c_laws_toBraiding (Ty.lift _ (Ext.trans hE7 hS15.ext) r_aB_Cocycle_Orders) r_aB_Cocycle_Modulus (Ty.lift _ (Ext.trans hE7 hS15.ext) r_aB_Cocycle_Values) (Ty.lift _ (Ext.trans hE7 hS15.ext) r_aB_Values) hx19) rfl ?_
    rintro _ wd24 ⟨u20, u22, u23, rfl, hr21, he25, hs26⟩
    have hS27 := St.join hS15 he25 hs26
    replace hS27 : St wd2 wd24 [(Ty.sl (Ty.i .i64)).at u20 x18.1, (Ty.sl (Ty.sl (Ty.sl (Ty.i .i64)))).at u22 x18.2.2.1, (Ty.sl (Ty.sl (Ty.i .i64))).at u23 x18.2.2.2] := hS27
    have hb28 := St.rep (t := (Ty.sl (Ty.i .i64))) hS27 0 rfl
    have hb29 := St.rep (t := (Ty.sl (Ty.sl (Ty.sl (Ty.i .i64))))) hS27 1 rfl
    have hb30 := St.rep (t := (Ty.sl (Ty.sl (Ty.i .i64)))) hS27 2 rfl
    have hE31 : Ext w wd24 := (Ext.trans hE7 hS27.ext)
    have hE32 : Ext wd2 wd24 := hS27.ext
    have hS33 : St wd24 wd24 [] := St.start wd24
    refine WL.val (Value.int .i64 aX) _ (op_move rfl) rfl ?_
    refine WL.val (Value.int .i64 aY) _ (op_move rfl) rfl ?_
    obtain ⟨x34, hx35, h⟩ := bs h
    refine WL.call _ (op_call fn_31 (args3 rfl rfl rfl)) (c_spec_MonodromyNumber (Ty.lift _ hS33.ext hb28) hr21 (Ty.lift _ hS33.ext hb29) (Ty.lift _ hS33.ext hb30) r_aX r_aY hx35) rfl ?_
    rintro _ wd38 ⟨rfl, hr36, hr37, he39⟩
    have hS41 := St.extend hS33 he39
    replace hS41 : St wd24 wd38 [] := hS41
    refine WL.val (Value.tuple #[(Value.int .i64 x34.1), (Value.int .i64 x34.2)]) _ (op_move rfl) rfl ?_
    refine WL.val (Value.int .i64 x34.1) _ (op_extract rfl rfl) rfl ?_
    refine WL.val (Value.int .i64 x34.2) _ (op_extract rfl rfl) rfl ?_
    refine WL.val (Value.int .i64 x34.1) _ (op_assign rfl) rfl ?_
    refine WL.val (Value.int .i64 x34.2) _ (op_assign rfl) rfl ?_
    refine WL.nil ?_
    show W _ _ _ _ _ _
    refine W.seq (W.region ?_)
    refine WL.val (Value.agg #[v_aB_Cocycle_Orders, (Value.int .i64 aB_Cocycle_Modulus), v_aB_Cocycle_Values, v_aB_Values]) _ (op_loadBox st_38 rfl (BoxAt.lift (Ext.trans hE32 hS41.ext) hx6) rfl rfl) rfl ?_
    obtain ⟨x42, hx43, h⟩ := bs h
    refine WL.call _ (op_call fn_19 (args1 rfl)) (c_laws_toBraiding (Ty.lift _ (Ext.trans hE31 hS41.ext) r_aB_Cocycle_Orders) r_aB_Cocycle_Modulus (Ty.lift _ (Ext.trans hE31 hS41.ext) r_aB_Cocycle_Values) (Ty.lift _ (Ext.trans hE31 hS41.ext) r_aB_Values) hx43) rfl ?_
    rintro _ wd48 ⟨u44, u46, u47, rfl, hr45, he49, hs50⟩
    have hS51 := St.join hS41 he49 hs50
    replace hS51 : St wd24 wd48 [(Ty.sl (Ty.i .i64)).at u44 x42.1, (Ty.sl (Ty.sl (Ty.sl (Ty.i .i64)))).at u46 x42.2.2.1, (Ty.sl (Ty.sl (Ty.i .i64))).at u47 x42.2.2.2] := hS51
    refine WL.alloc hS51 ze_42 (cs := [(Value.slice none 0 0), (Value.int .i64 (0 : Int)), (Value.slice none 0 0), (Value.slice none 0 0)]) rfl rfl ?_
    intro b52 wd53 hS54 he55
    replace hS54 : St wd24 wd53 [(Ty.sl (Ty.i .i64)).at u44 x42.1, (Ty.sl (Ty.sl (Ty.sl (Ty.i .i64)))).at u46 x42.2.2.1, (Ty.sl (Ty.sl (Ty.i .i64))).at u47 x42.2.2.2, bx b52 [(Value.slice none 0 0), (Value.int .i64 (0 : Int)), (Value.slice none 0 0), (Value.slice none 0 0)]] := hS54
    refine WL.storeBox [u44, (Value.int .i64 x42.2.1), u46, u47] hS54 (k := 3) rfl rfl rfl (us := [u44, (Value.int .i64 x42.2.1), u46, u47]) rfl sz_42 rfl rfl (all_rep (St.rep (t := (Ty.sl (Ty.i .i64))) hS54 0 rfl) (all_cons rfl (all_rep (St.rep (t := (Ty.sl (Ty.sl (Ty.sl (Ty.i .i64))))) hS54 1 rfl) (all_rep (St.rep (t := (Ty.sl (Ty.sl (Ty.i .i64)))) hS54 2 rfl) all_nil)))) rfl ?_
    intro wd56 hS57
    replace hS57 : St wd24 wd56 [(Ty.sl (Ty.i .i64)).at u44 x42.1, (Ty.sl (Ty.sl (Ty.sl (Ty.i .i64)))).at u46 x42.2.2.1, (Ty.sl (Ty.sl (Ty.i .i64))).at u47 x42.2.2.2, bx b52 [u44, (Value.int .i64 x42.2.1), u46, u47]] := hS57
    refine WL.nil ?_
    show W _ _ _ _ _ _
    refine W.seq (W.region ?_)
    refine WL.val (Value.agg #[u44, (Value.int .i64 x42.2.1), u46, u47]) _ (op_loadBox st_42 rfl (St.boxAt hS57 3 rfl) rfl rfl) rfl ?_
    refine WL.val (Value.int .i64 aX) _ (op_move rfl) rfl ?_
    refine WL.val (Value.int .i64 aY) _ (op_move rfl) rfl ?_
    obtain ⟨x58, hx59, h⟩ := bs h
    refine WL.call _ (op_call fn_32 (args3 rfl rfl rfl)) (c_impl_MonodromyNumber (St.rep (t := (Ty.sl (Ty.i .i64))) hS57 0 rfl) hr45 (St.rep (t := (Ty.sl (Ty.sl (Ty.sl (Ty.i .i64))))) hS57 1 rfl) (St.rep (t := (Ty.sl (Ty.sl (Ty.i .i64)))) hS57 2 rfl) r_aX r_aY hx59) rfl ?_
    rintro _ wd62 ⟨rfl, hr60, hr61, he63⟩
    have hS65 := St.extend hS57 he63
    replace hS65 : St wd24 wd62 [(Ty.sl (Ty.i .i64)).at u44 x42.1, (Ty.sl (Ty.sl (Ty.sl (Ty.i .i64)))).at u46 x42.2.2.1, (Ty.sl (Ty.sl (Ty.i .i64))).at u47 x42.2.2.2, bx b52 [u44, (Value.int .i64 x42.2.1), u46, u47]] := hS65
    refine WL.val (Value.tuple #[(Value.int .i64 x58.1), (Value.int .i64 x58.2)]) _ (op_move rfl) rfl ?_
    refine WL.val (Value.int .i64 x58.1) _ (op_extract rfl rfl) rfl ?_
    refine WL.val (Value.int .i64 x58.2) _ (op_extract rfl rfl) rfl ?_
    refine WL.val (Value.int .i64 x58.1) _ (op_assign rfl) rfl ?_
    refine WL.val (Value.int .i64 x58.2) _ (op_assign rfl) rfl ?_
    refine WL.nil ?_
    show W _ _ _ _ _ _
    refine W.seq (W.seq (W.region ?_))
    refine WL.val (Value.int .i64 x58.1) _ (op_move rfl) rfl ?_
    refine WL.val (Value.int .i64 x34.1) _ (op_move rfl) rfl ?_
    refine WL.val (Value.bool (x58.1 != x34.1)) _ (op_neq rfl rfl) rfl ?_
    refine WL.val (Value.bool (x58.1 != x34.1)) _ (op_move rfl) rfl ?_
    refine WL.cut 4 (fun fq wq => fq 3 = (Value.pointer (some ⟨b1, 0, none⟩)) ∧ fq 10 = (Value.pointer (some ⟨b52, 0, none⟩)) ∧ fq 42 = (Value.bool ((x58.1 != x34.1) || (x58.2 != x34.2))) ∧ St wd24 wq [(Ty.sl (Ty.i .i64)).at u44 x42.1, (Ty.sl (Ty.sl (Ty.sl (Ty.i .i64)))).at u46 x42.2.2.1, (Ty.sl (Ty.sl (Ty.i .i64))).at u47 x42.2.2.2, bx b52 [u44, (Value.int .i64 x42.2.1), u46, u47]]) ?_ ?_
    · rcases Bool.eq_false_or_eq_true (x58.1 != x34.1) with hc66 | hc66
      · refine WL.gskip rfl (bool_of rfl hc66) rfl ?_
        refine WL.gskip rfl (bool_of rfl hc66) rfl ?_
        refine WL.gskip rfl (bool_of rfl hc66) rfl ?_
        refine WL.val (Value.bool true) _ (op_pick_t (evb_of rfl hc66) rfl) rfl ?_
        refine WL.nil ?_
        exact ⟨rfl, rfl, rfl, (orT hc66), hS65⟩
      · refine WL.grun rfl (bool_of rfl hc66) ?_
        refine WL.val (Value.int .i64 x58.2) _ (op_move rfl) rfl ?_
        refine WL.grun rfl (bool_of rfl hc66) ?_
        refine WL.val (Value.int .i64 x34.2) _ (op_move rfl) rfl ?_
        refine WL.grun rfl (bool_of rfl hc66) ?_
        refine WL.val (Value.bool (x58.2 != x34.2)) _ (op_neq rfl rfl) rfl ?_
        refine WL.val (Value.bool (x58.2 != x34.2)) _ (op_pick_f (evb_of rfl hc66) rfl) rfl ?_
        refine WL.nil ?_
        exact ⟨rfl, rfl, rfl, (orF hc66), hS65⟩
    · intro f67 wd68 hq69
      obtain ⟨hf70, hf71, hf72, hS73⟩ := hq69
      refine WL.nil ?_
      show W _ _ _ _ _ _
      refine W.cond ((x58.1 != x34.1) || (x58.2 != x34.2)) hf72 (fun hc74 => ?_) (fun hc74 => ?_)
      · replace h := ip h hc74
        refine W.seq (W.region ?_)
        refine WL.val (Value.bool false) _ (op_assign rfl) rfl ?_
        refine WL.nil ?_
        show W _ _ _ _ _ _
        refine W.ret ?_
        obtain rfl := Option.some.inj h
        show FinP _ _ _ _ _ _ _
        exact FinP.ret _ (res1 rfl rfl) ⟨rfl, (Ext.trans hE31 hS73.ext)⟩
      · replace h := inegb h hc74
        refine W.skip ?_
        show W _ _ _ _ _ _
        refine W.seq (W.seq ?_)
        obtain ⟨x101, hx102, h⟩ := bs h
        refine W.drawR mixo 3 [] [fun _ v S w' => v = (Value.agg #[u44, (Value.int .i64 x42.2.1), u46, u47]) ∧ InR .i64 x42.2.1, fun _ v S w' => v = (Value.agg #[v_aB_Cocycle_Orders, (Value.int .i64 aB_Cocycle_Modulus), v_aB_Cocycle_Values, v_aB_Values]) ∧ InR .i64 aB_Cocycle_Modulus, fun _ v S w' => ∃ (uu0 : Value) (uu1 : Value) (uu2 : Value), v = (Value.agg #[uu0, (Value.int .i64 x101.2.1), uu1, uu2]) ∧ InR .i64 x101.2.1 ∧ SepS S w' [(Ty.sl (Ty.i .i64)).at uu0 x101.1, (Ty.sl (Ty.sl (Ty.sl (Ty.i .i64)))).at uu1 x101.2.2.1, (Ty.sl (Ty.sl (Ty.i .i64))).at uu2 x101.2.2.2]] (by kernel_rfl) (by kernel_rfl) ⟨⟨fun _ _ _ _ _ he ⟨h0, h1⟩ => ⟨h0, h1⟩, fun _ _ _ _ _ _ h => h⟩, ⟨fun _ _ _ _ _ he ⟨h0, h1⟩ => ⟨h0, h1⟩, fun _ _ _ _ _ _ h => h⟩, ⟨fun _ _ _ _ _ he ⟨uu0, uu1, uu2, h0, h1, r0⟩ => ⟨uu0, uu1, uu2, h0, h1, SepS.extend he r0⟩, fun _ _ _ _ _ _ h => h⟩, trivial⟩ ⟨?_, ?_, ?_, trivial⟩ ?_
        · refine ObX.op rfl ?_
          intro f76 wd77 he78 hout79 hphi80
          have hS81 : St wd24 wd77 [(Ty.sl (Ty.i .i64)).at u44 x42.1, (Ty.sl (Ty.sl (Ty.sl (Ty.i .i64)))).at u46 x42.2.2.1, (Ty.sl (Ty.sl (Ty.i .i64))).at u47 x42.2.2.2, bx b52 [u44, (Value.int .i64 x42.2.1), u46, u47]] := St.extend hS73 he78
          have e82 : f76 10 = (Value.pointer (some ⟨b52, 0, none⟩)) := (hout79 10 rfl).trans hf71
          exact OpX.val (Value.agg #[u44, (Value.int .i64 x42.2.1), u46, u47]) wd77 rfl (op_loadBox st_42 e82 (St.boxAt hS81 3 rfl) rfl rfl) (Ext.refl _) ⟨rfl, hr45⟩
        · refine ObX.op rfl ?_
          intro f83 wd84 he85 hout86 hphi87
          have hS88 : St wd24 wd84 [(Ty.sl (Ty.i .i64)).at u44 x42.1, (Ty.sl (Ty.sl (Ty.sl (Ty.i .i64)))).at u46 x42.2.2.1, (Ty.sl (Ty.sl (Ty.i .i64))).at u47 x42.2.2.2, bx b52 [u44, (Value.int .i64 x42.2.1), u46, u47]] := St.extend hS73 he85
          have e89 : f83 3 = (Value.pointer (some ⟨b1, 0, none⟩)) := (hout86 3 rfl).trans hf70
          exact OpX.val (Value.agg #[v_aB_Cocycle_Orders, (Value.int .i64 aB_Cocycle_Modulus), v_aB_Cocycle_Values, v_aB_Values]) wd84 rfl (op_loadBox st_38 e89 (BoxAt.lift (Ext.trans hE32 hS88.ext) hx6) rfl rfl) (Ext.refl _) ⟨rfl, r_aB_Cocycle_Modulus⟩
        · refine ObX.op rfl ?_
          intro f90 wd91 he92 hout93 hphi94
          have hS95 : St wd24 wd91 [(Ty.sl (Ty.i .i64)).at u44 x42.1, (Ty.sl (Ty.sl (Ty.sl (Ty.i .i64)))).at u46 x42.2.2.1, (Ty.sl (Ty.sl (Ty.i .i64))).at u47 x42.2.2.2, bx b52 [u44, (Value.int .i64 x42.2.1), u46, u47]] := St.extend hS73 he92
          obtain ⟨S96, hS97, hf98⟩ := hphi94 1 44 _ rfl rfl rfl
          obtain ⟨e99, hr100⟩ := hf98
          refine OpX.call rfl (op_call fn_19 (args1 e99)) (Ret.mono (c_laws_toBraiding (Ty.lift _ (Ext.trans hE31 hS95.ext) r_aB_Cocycle_Orders) hr100 (Ty.lift _ (Ext.trans hE31 hS95.ext) r_aB_Cocycle_Values) (Ty.lift _ (Ext.trans hE31 hS95.ext) r_aB_Values) hx102) ?_)
          rintro _ wd107 ⟨u103, u105, u106, rfl, hr104, he108, hs109⟩
          exact ⟨he108, _, newS _ _, ⟨u103, u105, u106, rfl, hr104, (Sep.new hs109)⟩⟩
        · intro f110 wd111 Ss112 he113 hout114 hSn115 hSd116 hphi117
          show WL _ _ _ _ _ _ _
          have hS118 : St wd24 wd111 [(Ty.sl (Ty.i .i64)).at u44 x42.1, (Ty.sl (Ty.sl (Ty.sl (Ty.i .i64)))).at u46 x42.2.2.1, (Ty.sl (Ty.sl (Ty.i .i64))).at u47 x42.2.2.2, bx b52 [u44, (Value.int .i64 x42.2.1), u46, u47]] := St.extend hS73 he113
          obtain ⟨e119, hr120⟩ := hphi117 0 43 _ (by decide) rfl rfl
          obtain ⟨u122, u124, u125, e121, hr123, e121s⟩ := hphi117 2 45 _ (by decide) rfl rfl
          have hS126 := St.joinS hS73 he113 hSn115 (SepS.consS hSd116 rfl e121s SepS.nilS)
          replace hS126 : St wd24 wd111 [(Ty.sl (Ty.i .i64)).at u44 x42.1, (Ty.sl (Ty.sl (Ty.sl (Ty.i .i64)))).at u46 x42.2.2.1, (Ty.sl (Ty.sl (Ty.i .i64))).at u47 x42.2.2.2, bx b52 [u44, (Value.int .i64 x42.2.1), u46, u47], (Ty.sl (Ty.i .i64)).at u122 x101.1, (Ty.sl (Ty.sl (Ty.sl (Ty.i .i64)))).at u124 x101.2.2.1, (Ty.sl (Ty.sl (Ty.i .i64))).at u125 x101.2.2.2] := hS126
          obtain ⟨x127, hx128, h⟩ := bs h
          refine WL.call _ (op_call fn_21 (args2 e119 e121)) (c_laws_eqBraiding (St.rep (t := (Ty.sl (Ty.i .i64))) hS126 0 rfl) hr120 (St.rep (t := (Ty.sl (Ty.sl (Ty.sl (Ty.i .i64))))) hS126 1 rfl) (St.rep (t := (Ty.sl (Ty.sl (Ty.i .i64)))) hS126 2 rfl) (St.rep (t := (Ty.sl (Ty.i .i64))) hS126 4 rfl) hr123 (St.rep (t := (Ty.sl (Ty.sl (Ty.sl (Ty.i .i64))))) hS126 5 rfl) (St.rep (t := (Ty.sl (Ty.sl (Ty.i .i64)))) hS126 6 rfl) hx128) rfl ?_
          rintro _ wd129 ⟨rfl, he130⟩
          have hS132 := St.extend hS126 he130
          replace hS132 : St wd24 wd129 [(Ty.sl (Ty.i .i64)).at u44 x42.1, (Ty.sl (Ty.sl (Ty.sl (Ty.i .i64)))).at u46 x42.2.2.1, (Ty.sl (Ty.sl (Ty.i .i64))).at u47 x42.2.2.2, bx b52 [u44, (Value.int .i64 x42.2.1), u46, u47], (Ty.sl (Ty.i .i64)).at u122 x101.1, (Ty.sl (Ty.sl (Ty.sl (Ty.i .i64)))).at u124 x101.2.2.1, (Ty.sl (Ty.sl (Ty.i .i64))).at u125 x101.2.2.2] := hS132
          refine WL.val (Value.bool (!x127)) _ (op_not rfl) rfl ?_
          refine WL.nil ?_
          show W _ _ _ _ _ _
          refine W.cond (!x127) rfl (fun hc133 => ?_) (fun hc133 => ?_)
          · replace h := ip h hc133
            refine W.seq (W.region ?_)
            refine WL.val (Value.bool false) _ (op_assign rfl) rfl ?_
            refine WL.nil ?_
            show W _ _ _ _ _ _
            refine W.ret ?_
            obtain rfl := Option.some.inj h
            show FinP _ _ _ _ _ _ _
            exact FinP.ret _ (res1 rfl rfl) ⟨rfl, (Ext.trans hE31 hS132.ext)⟩
          · replace h := inegb h hc133
            refine W.skip ?_
            show W _ _ _ _ _ _
            refine W.seq (W.region ?_)
            refine WL.val (Value.bool true) _ (op_assign rfl) rfl ?_
            refine WL.nil ?_
            show W _ _ _ _ _ _
            refine W.ret ?_
            obtain rfl := Option.some.inj h
            show FinP _ _ _ _ _ _ _
            exact FinP.ret _ (res1 rfl rfl) ⟨rfl, (Ext.trans hE31 hS132.ext)⟩

end Go.VG
