/- The walks, part 2: each Go function returns what its plain twin returns. No condition beyond what each names. -/
import Derived.Test.YtmofhdohclbidaaGWalk1
set_option linter.all false
namespace Go.VG
open Go.Proofs
attribute [local irreducible] W WL Sep FinP

theorem c_spec_l17Flat {w : World} {c_Orders : (List Int)} {v_c_Orders : Value} {c_Modulus : Int} {c_Values : (List (List (List Int)))} {v_c_Values : Value} (r_c_Orders : (Ty.sl (Ty.i .i64)).rep w v_c_Orders c_Orders) (r_c_Modulus : InR .i64 c_Modulus) (r_c_Values : (Ty.sl (Ty.sl (Ty.sl (Ty.i .i64)))).rep w v_c_Values c_Values) {res : (List Int)} (h : p_spec_l17Flat c_Orders c_Modulus c_Values  = some res) :
    Ret Try.prog 14 #[(Value.agg #[v_c_Orders, (Value.int .i64 c_Modulus), v_c_Values])] w (fun v w' => ∃ (u0 : Value), v = u0 ∧ Ext w w' ∧ Sep w.heap.size w' [(Ty.sl (Ty.i .i64)).at u0 res]) := by
  unfold p_spec_l17Flat at h
  have hS0 : St w w [] := St.start w
  refine Ret.start (fn := Try.f14) Try.func14 rfl 32 rfl rfl ?_
  refine W.seq (W.region ?_)
  refine WL.box hS0 rfl (cs := [v_c_Orders, (Value.int .i64 c_Modulus), v_c_Values]) rfl rfl ?_
  intro b1 wd2 hS3 he4 hx5
  replace hS3 : St w wd2 [bx b1 [v_c_Orders, (Value.int .i64 c_Modulus), v_c_Values]] := hS3
  have hx6 := St.boxAt hS3 0 rfl
  have hE7 : Ext w wd2 := hS3.ext
  have hS8 : St wd2 wd2 [] := St.start wd2
  refine WL.val (Value.slice none 0 0) _ (op_assign rfl) rfl ?_
  refine WL.nil ?_
  refine W.seq (W.region ?_)
  refine WL.lit0 (t := (Ty.i .i64)) hS8 sl_22 rfl rfl ?_
  intro u9 wd10 hS11 he12
  replace hS11 : St wd2 wd10 [(Ty.sl (Ty.i .i64)).at u9 ([] : (List Int))] := hS11
  refine WL.val u9 _ (op_assign rfl) rfl ?_
  refine WL.nil ?_
  refine W.seq (W.seq (W.region ?_))
  refine WL.val (Value.int .i64 (0 : Int)) _ (op_assign rfl) rfl ?_
  refine WL.nil ?_
  show W _ _ _ _ _ _
  obtain ⟨res13, hres14, h⟩ := bs h
  refine W.blockLoop (fun fq wq => ∃ s, res13 = Res.fin s ∧ ∃ (uu0 : Value), fq 3 = uu0 ∧ St wd2 wq [(Ty.sl (Ty.i .i64)).at uu0 s]) ?_ ?_
  · refine W.forN (fun k (s : (List Int)) fq wq => ∃ (uu0 : Value), fq 1 = (Value.pointer (some ⟨b1, 0, none⟩)) ∧ fq 3 = uu0 ∧ fq 4 = Value.int .i64 (k : Int) ∧ InR .i64 (k : Int) ∧ St wd2 wq [(Ty.sl (Ty.i .i64)).at uu0 s]) hres14 ⟨u9, rfl, rfl, rfl, (inL rfl), hS11⟩ ?_ ?_
    · intro k15 x16 ct17 f18 wd19 hk20 hb21 hI22 hbrk23 hret24
      replace hI22 : ∃ (uu0 : Value), f18 1 = (Value.pointer (some ⟨b1, 0, none⟩)) ∧ f18 3 = uu0 ∧ f18 4 = Value.int .i64 (k15 : Int) ∧ InR .i64 (k15 : Int) ∧ St wd2 wd19 [(Ty.sl (Ty.i .i64)).at uu0 x16] := hI22
      replace hb21 : p_spec_l17Flat_L1 c_Values k15 x16 = some ct17 := hb21
      unfold p_spec_l17Flat_L1 at hb21
      obtain ⟨u25, hf26, hf27, hf28, hr29, hS30⟩ := hI22
      refine W.seq (W.seq (W.region ?_))
      refine WL.val (Value.int .i64 (k15 : Int)) _ (op_move hf28) rfl ?_
      refine WL.val (Value.pointer (some ⟨b1, 2, none⟩)) _ (op_fieldAddr fd_29_2 hf26) rfl ?_
      refine WL.val v_c_Values _ (op_load one_23 rfl (BoxAt.cell (BoxAt.lift hS30.ext hx6) rfl)) rfl ?_
      have hr31 := inR_len (Ty.lift _ (Ext.trans hE7 hS30.ext) r_c_Values)
      refine WL.val (Value.int .i64 ((c_Values).length : Int)) _ (op_lenL sl_23 (Ty.lift _ (Ext.trans hE7 hS30.ext) r_c_Values) rfl) rfl ?_
      refine WL.val (Value.bool (decide ((k15 : Int) < ((c_Values).length : Int)))) _ (op_lss rfl rfl) rfl ?_
      have hl32 : (k15 : Int) < ((c_Values).length : Int) := by omega
      refine WL.nil ?_
      refine W.condT (decide ((k15 : Int) < ((c_Values).length : Int))) rfl (decide_eq_true hl32) ?_
      refine W.skip ?_
      refine W.seq ?_
      refine W.block ?_
      refine W.seq (W.region ?_)
      refine WL.val (Value.int .i64 (0 : Int)) _ (op_assign rfl) rfl ?_
      refine WL.nil ?_
      show W _ _ _ _ _ _
      obtain ⟨res34, hres35, hb21⟩ := bs hb21
      refine W.blockLoop (fun fq wq => ∃ s, res34 = Res.fin s ∧ ∃ (uu0 : Value), fq 1 = (Value.pointer (some ⟨b1, 0, none⟩)) ∧ fq 3 = uu0 ∧ fq 4 = (Value.int .i64 (k15 : Int)) ∧ St wd2 wq [(Ty.sl (Ty.i .i64)).at uu0 s]) ?_ ?_
      · refine W.forN (fun k (s : (List Int)) fq wq => ∃ (uu0 : Value), fq 1 = (Value.pointer (some ⟨b1, 0, none⟩)) ∧ fq 3 = uu0 ∧ fq 4 = (Value.int .i64 (k15 : Int)) ∧ fq 5 = Value.int .i64 (k : Int) ∧ InR .i64 (k : Int) ∧ St wd2 wq [(Ty.sl (Ty.i .i64)).at uu0 s]) hres35 ⟨u25, hf26, hf27, hf28, rfl, (inL rfl), hS30⟩ ?_ ?_
        · intro k36 x37 ct38 f39 wd40 hk41 hb42 hI43 hbrk44 hret45
          replace hI43 : ∃ (uu0 : Value), f39 1 = (Value.pointer (some ⟨b1, 0, none⟩)) ∧ f39 3 = uu0 ∧ f39 4 = (Value.int .i64 (k15 : Int)) ∧ f39 5 = Value.int .i64 (k36 : Int) ∧ InR .i64 (k36 : Int) ∧ St wd2 wd40 [(Ty.sl (Ty.i .i64)).at uu0 x37] := hI43
          replace hb42 : p_spec_l17Flat_L2 c_Values k15 k36 x37 = some ct38 := hb42
          unfold p_spec_l17Flat_L2 at hb42
          obtain ⟨u46, hf47, hf48, hf49, hf50, hr51, hS52⟩ := hI43
          refine W.seq (W.seq (W.region ?_))
          refine WL.val (Value.int .i64 (k36 : Int)) _ (op_move hf50) rfl ?_
          refine WL.val (Value.pointer (some ⟨b1, 2, none⟩)) _ (op_fieldAddr fd_29_2 hf47) rfl ?_
          refine WL.val v_c_Values _ (op_load one_23 rfl (BoxAt.cell (BoxAt.lift hS52.ext hx6) rfl)) rfl ?_
          have hr53 := inR_len (Ty.lift _ (Ext.trans hE7 hS52.ext) r_c_Values)
          refine WL.val (Value.int .i64 ((c_Values).length : Int)) _ (op_lenL sl_23 (Ty.lift _ (Ext.trans hE7 hS52.ext) r_c_Values) rfl) rfl ?_
          refine WL.val (Value.bool (decide ((k36 : Int) < ((c_Values).length : Int)))) _ (op_lss rfl rfl) rfl ?_
          have hl54 : (k36 : Int) < ((c_Values).length : Int) := by omega
          refine WL.nil ?_
          refine W.condT (decide ((k36 : Int) < ((c_Values).length : Int))) rfl (decide_eq_true hl54) ?_
          refine W.skip ?_
          refine W.seq ?_
          refine W.block ?_
          refine W.region ?_
          refine WL.val u46 _ (op_move hf48) rfl ?_
          refine WL.val (Value.pointer (some ⟨b1, 2, none⟩)) _ (op_fieldAddr fd_29_2 hf47) rfl ?_
          refine WL.val v_c_Values _ (op_load one_23 rfl (BoxAt.cell (BoxAt.lift hS52.ext hx6) rfl)) rfl ?_
          refine WL.val (Value.int .i64 (k15 : Int)) _ (op_move hf49) rfl ?_
          obtain ⟨x56, hx59, hb42⟩ := bs hb42
          obtain ⟨ha57, hb58, hx59⟩ := idx_some hx59
          refine WL.val (Value.pointer (some (elA v_c_Values ((k15 : Int)).toNat))) _ (op_idx sl_23 (Ty.lift _ (Ext.trans hE7 hS52.ext) r_c_Values) rfl rfl ha57 hb58) rfl ?_
          obtain ⟨u60, hc61, hr62⟩ := repSl.el r_c_Values hx59
          refine WL.val u60 _ (op_load one_37 rfl (Ext.cell (Ext.trans hE7 hS52.ext) hc61)) rfl ?_
          refine WL.val (Value.int .i64 (k36 : Int)) _ (op_move hf50) rfl ?_
          obtain ⟨x63, hx66, hb42⟩ := bs hb42
          obtain ⟨ha64, hb65, hx66⟩ := idx_some hx66
          refine WL.val (Value.pointer (some (elA u60 ((k36 : Int)).toNat))) _ (op_idx sl_37 (Ty.lift _ (Ext.trans hE7 hS52.ext) hr62) rfl rfl ha64 hb65) rfl ?_
          obtain ⟨u67, hc68, hr69⟩ := repSl.el hr62 hx66
          refine WL.val u67 _ (op_load one_22 rfl (Ext.cell (Ext.trans hE7 hS52.ext) hc68)) rfl ?_
          obtain ⟨x70, hx71, hb42⟩ := bs hb42
          refine WL.append (flat_i .i64) hS52 (k := 0) rfl sl_22 rfl rfl rfl rfl (Ty.lift _ (Ext.trans hE7 hS52.ext) hr69) hx71 rfl ?_
          intro u72 wd73 hS74 hz75
          replace hS74 : St wd2 wd73 [(Ty.sl (Ty.i .i64)).at u72 x70] := hS74
          refine WL.val u72 _ (op_assign rfl) rfl ?_
          refine WL.nil ?_
          show W _ _ _ _ _ _
          refine W.region ?_
          refine WL.val (Value.int .i64 (k36 : Int)) _ (op_move hf50) rfl ?_
          refine WL.val (Value.int .i64 (w64 ((k36 : Int) + (1 : Int)))) _ (op_add rfl rfl) rfl ?_
          refine WL.val (Value.int .i64 (w64 ((k36 : Int) + (1 : Int)))) _ (op_assign rfl) rfl ?_
          refine WL.nil ?_
          obtain rfl := Option.some.inj hb42
          show ∃ s, _ = Ctl.next s ∧ _
          exact ⟨_, rfl, u72, hf47, rfl, hf49, (ctr_next hl54 hr53), (ctr_rng hl54 hr53), hS74⟩
        · intro x82 f77 wd78 hs79 hI80
          replace hI80 : ∃ (uu0 : Value), f77 1 = (Value.pointer (some ⟨b1, 0, none⟩)) ∧ f77 3 = uu0 ∧ f77 4 = (Value.int .i64 (k15 : Int)) ∧ f77 5 = Value.int .i64 (((c_Values).length : Nat) : Int) ∧ InR .i64 (((c_Values).length : Nat) : Int) ∧ St wd2 wd78 [(Ty.sl (Ty.i .i64)).at uu0 x82] := hI80
          obtain ⟨u83, hf84, hf85, hf86, hf87, hr88, hS89⟩ := hI80
          refine W.seq (W.seq (W.region ?_))
          refine WL.val (Value.int .i64 (((c_Values).length : Nat) : Int)) _ (op_move hf87) rfl ?_
          refine WL.val (Value.pointer (some ⟨b1, 2, none⟩)) _ (op_fieldAddr fd_29_2 hf84) rfl ?_
          refine WL.val v_c_Values _ (op_load one_23 rfl (BoxAt.cell (BoxAt.lift hS89.ext hx6) rfl)) rfl ?_
          have hr90 := inR_len (Ty.lift _ (Ext.trans hE7 hS89.ext) r_c_Values)
          refine WL.val (Value.int .i64 ((c_Values).length : Int)) _ (op_lenL sl_23 (Ty.lift _ (Ext.trans hE7 hS89.ext) r_c_Values) rfl) rfl ?_
          refine WL.val (Value.bool (decide ((((c_Values).length : Nat) : Int) < ((c_Values).length : Int)))) _ (op_lss rfl rfl) rfl ?_
          have hl91 : ¬ (((c_Values).length : Nat) : Int) < ((c_Values).length : Int) := by omega
          refine WL.nil ?_
          refine W.condF (decide ((((c_Values).length : Nat) : Int) < ((c_Values).length : Int))) rfl (decide_eq_false hl91) ?_
          refine W.exit ?_
          show _ = _ ∧ _
          exact ⟨rfl, _, hs79, u83, hf84, hf85, hf86, hS89⟩
      · rintro f92 wd93 ⟨x96, rfl, hq94⟩
        replace hb21 := onRes_fin hb21
        replace hq94 : ∃ (uu0 : Value), f92 1 = (Value.pointer (some ⟨b1, 0, none⟩)) ∧ f92 3 = uu0 ∧ f92 4 = (Value.int .i64 (k15 : Int)) ∧ St wd2 wd93 [(Ty.sl (Ty.i .i64)).at uu0 x96] := hq94
        obtain ⟨u97, hf98, hf99, hf100, hS101⟩ := hq94
        show W _ _ _ _ _ _
        refine W.region ?_
        refine WL.val (Value.int .i64 (k15 : Int)) _ (op_move hf100) rfl ?_
        refine WL.val (Value.int .i64 (w64 ((k15 : Int) + (1 : Int)))) _ (op_add rfl rfl) rfl ?_
        refine WL.val (Value.int .i64 (w64 ((k15 : Int) + (1 : Int)))) _ (op_assign rfl) rfl ?_
        refine WL.nil ?_
        obtain rfl := Option.some.inj hb21
        show ∃ s, _ = Ctl.next s ∧ _
        exact ⟨_, rfl, u97, hf98, hf99, (ctr_next hl32 hr31), (ctr_rng hl32 hr31), hS101⟩
    · intro x109 f104 wd105 hs106 hI107
      replace hI107 : ∃ (uu0 : Value), f104 1 = (Value.pointer (some ⟨b1, 0, none⟩)) ∧ f104 3 = uu0 ∧ f104 4 = Value.int .i64 (((c_Values).length : Nat) : Int) ∧ InR .i64 (((c_Values).length : Nat) : Int) ∧ St wd2 wd105 [(Ty.sl (Ty.i .i64)).at uu0 x109] := hI107
      obtain ⟨u110, hf111, hf112, hf113, hr114, hS115⟩ := hI107
      refine W.seq (W.seq (W.region ?_))
      refine WL.val (Value.int .i64 (((c_Values).length : Nat) : Int)) _ (op_move hf113) rfl ?_
      refine WL.val (Value.pointer (some ⟨b1, 2, none⟩)) _ (op_fieldAddr fd_29_2 hf111) rfl ?_
      refine WL.val v_c_Values _ (op_load one_23 rfl (BoxAt.cell (BoxAt.lift hS115.ext hx6) rfl)) rfl ?_
      have hr116 := inR_len (Ty.lift _ (Ext.trans hE7 hS115.ext) r_c_Values)
      refine WL.val (Value.int .i64 ((c_Values).length : Int)) _ (op_lenL sl_23 (Ty.lift _ (Ext.trans hE7 hS115.ext) r_c_Values) rfl) rfl ?_
      refine WL.val (Value.bool (decide ((((c_Values).length : Nat) : Int) < ((c_Values).length : Int)))) _ (op_lss rfl rfl) rfl ?_
      have hl117 : ¬ (((c_Values).length : Nat) : Int) < ((c_Values).length : Int) := by omega
      refine WL.nil ?_
      refine W.condF (decide ((((c_Values).length : Nat) : Int) < ((c_Values).length : Int))) rfl (decide_eq_false hl117) ?_
      refine W.exit ?_
      show _ = _ ∧ _
      exact ⟨rfl, _, hs106, u110, hf112, hS115⟩
  · rintro f118 wd119 ⟨x122, rfl, hq120⟩
    replace h := onRes_fin h
    replace hq120 : ∃ (uu0 : Value), f118 3 = uu0 ∧ St wd2 wd119 [(Ty.sl (Ty.i .i64)).at uu0 x122] := hq120
    obtain ⟨u123, hf124, hS125⟩ := hq120
    refine W.seq (W.region ?_)
    refine WL.val u123 _ (op_move hf124) rfl ?_
    refine WL.val u123 _ (op_assign rfl) rfl ?_
    refine WL.nil ?_
    refine W.ret ?_
    obtain rfl := Option.some.inj h
    show FinP _ _ _ _ _ _ _
    exact FinP.ret _ (res1 rfl rfl) ⟨u123, rfl, (Ext.trans hE7 hS125.ext), (St.out (St.pick hS125 [0] rfl) (hE7))⟩

theorem c_spec_l17Bounds {w : World} {orders : (List Int)} {v_orders : Value} {p : Int} (r_orders : (Ty.sl (Ty.i .i64)).rep w v_orders orders) (r_p : InR .i64 p) {res : (List (List Int))} (h : p_spec_l17Bounds orders p  = some res) :
    Ret Try.prog 13 #[v_orders, (Value.int .i64 p)] w (fun v w' => ∃ (u0 : Value), v = u0 ∧ Ext w w' ∧ Sep w.heap.size w' [(Ty.sl (Ty.sl (Ty.i .i64))).at u0 res]) := by
  unfold p_spec_l17Bounds at h
  have hS0 : St w w [] := St.start w
  refine Ret.start (fn := Try.f13) Try.func13 rfl 52 rfl rfl ?_
  refine W.seq (W.region ?_)
  refine WL.val (Value.slice none 0 0) _ (op_assign rfl) rfl ?_
  refine WL.nil ?_
  refine W.seq (W.region ?_)
  refine WL.val v_orders _ (op_move rfl) rfl ?_
  obtain ⟨x1, hx2, h⟩ := bs h
  refine WL.call _ (op_call fn_29 (args1 rfl)) (c_spec_l17Size (Ty.lift _ hS0.ext r_orders) hx2) rfl ?_
  rintro _ wd4 ⟨rfl, hr3, he5⟩
  have hS7 := St.extend hS0 he5
  replace hS7 : St w wd4 [] := hS7
  refine WL.lit0 (t := (Ty.sl (Ty.i .i64))) hS7 sl_37 rfl rfl ?_
  intro u8 wd9 hS10 he11
  replace hS10 : St w wd9 [(Ty.sl (Ty.sl (Ty.i .i64))).at u8 ([] : (List (List Int)))] := hS10
  refine WL.val (Value.int .i64 x1) _ (op_assign rfl) rfl ?_
  refine WL.val u8 _ (op_assign rfl) rfl ?_
  refine WL.nil ?_
  refine W.seq (W.seq (W.region ?_))
  refine WL.val (Value.int .i64 (1 : Int)) _ (op_assign rfl) rfl ?_
  refine WL.nil ?_
  show W _ _ _ _ _ _
  obtain ⟨res12, hres13, h⟩ := bs h
  refine W.blockLoop (fun fq wq => ∃ s, res12 = Res.fin s ∧ ∃ (uu0 : Value), fq 6 = uu0 ∧ St w wq [(Ty.sl (Ty.sl (Ty.i .i64))).at uu0 s]) ?_ ?_
  · refine W.forN (fun k (s : (List (List Int))) fq wq => ∃ (uu0 : Value), fq 0 = v_orders ∧ fq 1 = (Value.int .i64 p) ∧ fq 5 = (Value.int .i64 x1) ∧ fq 6 = uu0 ∧ fq 7 = Value.int .i64 ((1 : Int) + (k : Int)) ∧ InR .i64 ((1 : Int) + (k : Int)) ∧ St w wq [(Ty.sl (Ty.sl (Ty.i .i64))).at uu0 s]) hres13 ⟨u8, rfl, rfl, rfl, rfl, rfl, (inL rfl), hS10⟩ ?_ ?_
    · intro k14 x15 ct16 f17 wd18 hk19 hb20 hI21 hbrk22 hret23
      replace hI21 : ∃ (uu0 : Value), f17 0 = v_orders ∧ f17 1 = (Value.int .i64 p) ∧ f17 5 = (Value.int .i64 x1) ∧ f17 6 = uu0 ∧ f17 7 = Value.int .i64 ((1 : Int) + (k14 : Int)) ∧ InR .i64 ((1 : Int) + (k14 : Int)) ∧ St w wd18 [(Ty.sl (Ty.sl (Ty.i .i64))).at uu0 x15] := hI21
      replace hb20 : p_spec_l17Bounds_L1 x1 orders p k14 x15 = some ct16 := hb20
      unfold p_spec_l17Bounds_L1 at hb20
      obtain ⟨u24, hf25, hf26, hf27, hf28, hf29, hr30, hS31⟩ := hI21
      refine W.seq (W.seq (W.region ?_))
      refine WL.val (Value.int .i64 ((1 : Int) + (k14 : Int))) _ (op_move hf29) rfl ?_
      refine WL.val (Value.int .i64 x1) _ (op_move hf27) rfl ?_
      refine WL.val (Value.bool (decide (((1 : Int) + (k14 : Int)) < x1))) _ (op_lss rfl rfl) rfl ?_
      have hl32 : ((1 : Int) + (k14 : Int)) < x1 := by omega
      refine WL.nil ?_
      refine W.condT (decide (((1 : Int) + (k14 : Int)) < x1)) rfl (decide_eq_true hl32) ?_
      refine W.skip ?_
      refine W.seq ?_
      refine W.block ?_
      refine W.seq (W.region ?_)
      refine WL.val (Value.int .i64 (1 : Int)) _ (op_assign rfl) rfl ?_
      refine WL.nil ?_
      show W _ _ _ _ _ _
      obtain ⟨res34, hres35, hb20⟩ := bs hb20
      refine W.blockLoop (fun fq wq => ∃ s, res34 = Res.fin s ∧ ∃ (uu0 : Value), fq 0 = v_orders ∧ fq 1 = (Value.int .i64 p) ∧ fq 5 = (Value.int .i64 x1) ∧ fq 6 = uu0 ∧ fq 7 = (Value.int .i64 ((1 : Int) + (k14 : Int))) ∧ St w wq [(Ty.sl (Ty.sl (Ty.i .i64))).at uu0 s]) ?_ ?_
      · refine W.forN (fun k (s : (List (List Int))) fq wq => ∃ (uu0 : Value), fq 0 = v_orders ∧ fq 1 = (Value.int .i64 p) ∧ fq 5 = (Value.int .i64 x1) ∧ fq 6 = uu0 ∧ fq 7 = (Value.int .i64 ((1 : Int) + (k14 : Int))) ∧ fq 8 = Value.int .i64 ((1 : Int) + (k : Int)) ∧ InR .i64 ((1 : Int) + (k : Int)) ∧ St w wq [(Ty.sl (Ty.sl (Ty.i .i64))).at uu0 s]) hres35 ⟨u24, hf25, hf26, hf27, hf28, hf29, rfl, (inL rfl), hS31⟩ ?_ ?_
        · intro k36 x37 ct38 f39 wd40 hk41 hb42 hI43 hbrk44 hret45
          replace hI43 : ∃ (uu0 : Value), f39 0 = v_orders ∧ f39 1 = (Value.int .i64 p) ∧ f39 5 = (Value.int .i64 x1) ∧ f39 6 = uu0 ∧ f39 7 = (Value.int .i64 ((1 : Int) + (k14 : Int))) ∧ f39 8 = Value.int .i64 ((1 : Int) + (k36 : Int)) ∧ InR .i64 ((1 : Int) + (k36 : Int)) ∧ St w wd40 [(Ty.sl (Ty.sl (Ty.i .i64))).at uu0 x37] := hI43
          replace hb42 : p_spec_l17Bounds_L2 x1 k14 orders p k36 x37 = some ct38 := hb42
          unfold p_spec_l17Bounds_L2 at hb42
          obtain ⟨u46, hf47, hf48, hf49, hf50, hf51, hf52, hr53, hS54⟩ := hI43
          refine W.seq (W.seq (W.region ?_))
          refine WL.val (Value.int .i64 ((1 : Int) + (k36 : Int))) _ (op_move hf52) rfl ?_
          refine WL.val (Value.int .i64 x1) _ (op_move hf49) rfl ?_
          refine WL.val (Value.bool (decide (((1 : Int) + (k36 : Int)) < x1))) _ (op_lss rfl rfl) rfl ?_
          have hl55 : ((1 : Int) + (k36 : Int)) < x1 := by omega
          refine WL.nil ?_
          refine W.condT (decide (((1 : Int) + (k36 : Int)) < x1)) rfl (decide_eq_true hl55) ?_
          refine W.skip ?_
          refine W.seq ?_
          refine W.block ?_
          refine W.seq (W.region ?_)
          refine WL.lit0 (t := (Ty.sl (Ty.i .i64))) hS54 sl_37 rfl rfl ?_
          intro u57 wd58 hS59 he60
          replace hS59 : St w wd58 [(Ty.sl (Ty.sl (Ty.i .i64))).at u46 x37, (Ty.sl (Ty.sl (Ty.i .i64))).at u57 ([] : (List (List Int)))] := hS59
          refine WL.val u57 _ (op_assign rfl) rfl ?_
          refine WL.nil ?_
          refine W.seq (W.seq (W.region ?_))
          refine WL.val (Value.int .i64 (0 : Int)) _ (op_assign rfl) rfl ?_
          refine WL.nil ?_
          show W _ _ _ _ _ _
          obtain ⟨res61, hres62, hb42⟩ := bs hb42
          refine W.blockLoop (fun fq wq => ∃ s, res61 = Res.fin s ∧ ∃ (uu0 : Value), fq 0 = v_orders ∧ fq 1 = (Value.int .i64 p) ∧ fq 5 = (Value.int .i64 x1) ∧ fq 6 = u46 ∧ fq 7 = (Value.int .i64 ((1 : Int) + (k14 : Int))) ∧ fq 8 = (Value.int .i64 ((1 : Int) + (k36 : Int))) ∧ fq 9 = uu0 ∧ St w wq [(Ty.sl (Ty.sl (Ty.i .i64))).at u46 x37, (Ty.sl (Ty.sl (Ty.i .i64))).at uu0 s]) ?_ ?_
          · refine W.forN (fun k (s : (List (List Int))) fq wq => ∃ (uu0 : Value), fq 0 = v_orders ∧ fq 1 = (Value.int .i64 p) ∧ fq 5 = (Value.int .i64 x1) ∧ fq 6 = u46 ∧ fq 7 = (Value.int .i64 ((1 : Int) + (k14 : Int))) ∧ fq 8 = (Value.int .i64 ((1 : Int) + (k36 : Int))) ∧ fq 9 = uu0 ∧ fq 10 = Value.int .i64 (k : Int) ∧ InR .i64 (k : Int) ∧ St w wq [(Ty.sl (Ty.sl (Ty.i .i64))).at u46 x37, (Ty.sl (Ty.sl (Ty.i .i64))).at uu0 s]) hres62 ⟨u57, hf47, hf48, hf49, hf50, hf51, hf52, rfl, rfl, (inL rfl), hS59⟩ ?_ ?_
            · intro k63 x64 ct65 f66 wd67 hk68 hb69 hI70 hbrk71 hret72
              replace hI70 : ∃ (uu0 : Value), f66 0 = v_orders ∧ f66 1 = (Value.int .i64 p) ∧ f66 5 = (Value.int .i64 x1) ∧ f66 6 = u46 ∧ f66 7 = (Value.int .i64 ((1 : Int) + (k14 : Int))) ∧ f66 8 = (Value.int .i64 ((1 : Int) + (k36 : Int))) ∧ f66 9 = uu0 ∧ f66 10 = Value.int .i64 (k63 : Int) ∧ InR .i64 (k63 : Int) ∧ St w wd67 [(Ty.sl (Ty.sl (Ty.i .i64))).at u46 x37, (Ty.sl (Ty.sl (Ty.i .i64))).at uu0 x64] := hI70
              replace hb69 : p_spec_l17Bounds_L3 x1 k63 x64 = some ct65 := hb69
              unfold p_spec_l17Bounds_L3 at hb69
              obtain ⟨u73, hf74, hf75, hf76, hf77, hf78, hf79, hf80, hf81, hr82, hS83⟩ := hI70
              refine W.seq (W.seq (W.region ?_))
              refine WL.val (Value.int .i64 (k63 : Int)) _ (op_move hf81) rfl ?_
              refine WL.val (Value.int .i64 x1) _ (op_move hf76) rfl ?_
              refine WL.val (Value.bool (decide ((k63 : Int) < x1))) _ (op_lss rfl rfl) rfl ?_
              have hl84 : (k63 : Int) < x1 := by omega
              refine WL.nil ?_
              refine W.condT (decide ((k63 : Int) < x1)) rfl (decide_eq_true hl84) ?_
              refine W.skip ?_
              refine W.seq ?_
              refine W.block ?_
              refine W.region ?_
              refine WL.val u73 _ (op_move hf80) rfl ?_
              refine WL.val (Value.int .i64 x1) _ (op_move hf76) rfl ?_
              obtain ⟨x86, hx87, hb69⟩ := bs hb69
              refine WL.make (t := (Ty.i .i64)) hS83 sl_22 (fun _ _ => ⟨rfl, (inL rfl)⟩) rfl rfl hx87 rfl rfl ?_
              intro u88 wd89 hS90 he91
              replace hS90 : St w wd89 [(Ty.sl (Ty.sl (Ty.i .i64))).at u46 x37, (Ty.sl (Ty.sl (Ty.i .i64))).at u73 x64, (Ty.sl (Ty.i .i64)).at u88 x86] := hS90
              refine WL.lit [u88] hS90 sl_37 rfl rfl (fillL rfl ⟨rfl, rfl, (cells_rep (St.rep (t := (Ty.sl (Ty.i .i64))) hS90 2 rfl)), trivial⟩) rfl rfl ?_
              intro b96 wd93 hS94 he95 hx97
              replace hS94 : St w wd93 [(Ty.sl (Ty.sl (Ty.i .i64))).at u46 x37, (Ty.sl (Ty.sl (Ty.i .i64))).at u73 x64, (Ty.sl (Ty.i .i64)).at u88 x86, bx b96 [u88]] := hS94
              obtain ⟨x98, hx99, hb69⟩ := bs hb69
              refine WL.appendRow hS94 (k := 1) (k2 := 2) (k3 := 3) rfl rfl rfl rfl sl_37 rfl rfl rfl rfl hx99 rfl ?_
              intro u100 wd101 hS102 hz103
              replace hS102 : St w wd101 [(Ty.sl (Ty.sl (Ty.i .i64))).at u46 x37, (Ty.sl (Ty.sl (Ty.i .i64))).at u100 x98, emp, bx b96 [u88]] := hS102
              refine WL.val u100 _ (op_assign rfl) rfl ?_
              refine WL.nil ?_
              show W _ _ _ _ _ _
              refine W.region ?_
              refine WL.val (Value.int .i64 (k63 : Int)) _ (op_move hf81) rfl ?_
              refine WL.val (Value.int .i64 (w64 ((k63 : Int) + (1 : Int)))) _ (op_add rfl rfl) rfl ?_
              refine WL.val (Value.int .i64 (w64 ((k63 : Int) + (1 : Int)))) _ (op_assign rfl) rfl ?_
              refine WL.nil ?_
              obtain rfl := Option.some.inj hb69
              show ∃ s, _ = Ctl.next s ∧ _
              exact ⟨_, rfl, u100, hf74, hf75, hf76, hf77, hf78, hf79, rfl, (ctr_next hl84 hr3), (ctr_rng hl84 hr3), (St.pick hS102 [0, 1] rfl)⟩
            · intro x110 f105 wd106 hs107 hI108
              replace hI108 : ∃ (uu0 : Value), f105 0 = v_orders ∧ f105 1 = (Value.int .i64 p) ∧ f105 5 = (Value.int .i64 x1) ∧ f105 6 = u46 ∧ f105 7 = (Value.int .i64 ((1 : Int) + (k14 : Int))) ∧ f105 8 = (Value.int .i64 ((1 : Int) + (k36 : Int))) ∧ f105 9 = uu0 ∧ f105 10 = Value.int .i64 (((x1).toNat : Nat) : Int) ∧ InR .i64 (((x1).toNat : Nat) : Int) ∧ St w wd106 [(Ty.sl (Ty.sl (Ty.i .i64))).at u46 x37, (Ty.sl (Ty.sl (Ty.i .i64))).at uu0 x110] := hI108
              obtain ⟨u111, hf112, hf113, hf114, hf115, hf116, hf117, hf118, hf119, hr120, hS121⟩ := hI108
              refine W.seq (W.seq (W.region ?_))
              refine WL.val (Value.int .i64 (((x1).toNat : Nat) : Int)) _ (op_move hf119) rfl ?_
              refine WL.val (Value.int .i64 x1) _ (op_move hf114) rfl ?_
              refine WL.val (Value.bool (decide ((((x1).toNat : Nat) : Int) < x1))) _ (op_lss rfl rfl) rfl ?_
              have hl122 : ¬ (((x1).toNat : Nat) : Int) < x1 := by omega
              refine WL.nil ?_
              refine W.condF (decide ((((x1).toNat : Nat) : Int) < x1)) rfl (decide_eq_false hl122) ?_
              refine W.exit ?_
              show _ = _ ∧ _
              exact ⟨rfl, _, hs107, u111, hf112, hf113, hf114, hf115, hf116, hf117, hf118, hS121⟩
          · rintro f123 wd124 ⟨x127, rfl, hq125⟩
            replace hb42 := onRes_fin hb42
            replace hq125 : ∃ (uu0 : Value), f123 0 = v_orders ∧ f123 1 = (Value.int .i64 p) ∧ f123 5 = (Value.int .i64 x1) ∧ f123 6 = u46 ∧ f123 7 = (Value.int .i64 ((1 : Int) + (k14 : Int))) ∧ f123 8 = (Value.int .i64 ((1 : Int) + (k36 : Int))) ∧ f123 9 = uu0 ∧ St w wd124 [(Ty.sl (Ty.sl (Ty.i .i64))).at u46 x37, (Ty.sl (Ty.sl (Ty.i .i64))).at uu0 x127] := hq125
            obtain ⟨u128, hf129, hf130, hf131, hf132, hf133, hf134, hf135, hS136⟩ := hq125
            refine W.seq (W.region ?_)
            refine WL.val u128 _ (op_move hf135) rfl ?_
            refine WL.val (Value.int .i64 ((1 : Int) + (k14 : Int))) _ (op_move hf133) rfl ?_
            obtain ⟨x137, hx140, hb42⟩ := bs hb42
            obtain ⟨ha138, hb139, hx140⟩ := idx_some hx140
            refine WL.val (Value.pointer (some (elA u128 (((1 : Int) + (k14 : Int))).toNat))) _ (op_idx sl_37 (St.rep (t := (Ty.sl (Ty.sl (Ty.i .i64)))) hS136 1 rfl) rfl rfl ha138 hb139) rfl ?_
            obtain ⟨u141, hc142, hr143⟩ := repSl.el (St.rep (t := (Ty.sl (Ty.sl (Ty.i .i64)))) hS136 1 rfl) hx140
            refine WL.val u141 _ (op_load one_22 rfl hc142) rfl ?_
            refine WL.val u141 _ (op_assign rfl) rfl ?_
            refine WL.nil ?_
            refine W.seq (W.region ?_)
            refine WL.val u141 _ (op_move rfl) rfl ?_
            refine WL.val (Value.int .i64 ((1 : Int) + (k36 : Int))) _ (op_move hf134) rfl ?_
            obtain ⟨x144, hx147, hb42⟩ := bs hb42
            obtain ⟨ha145, hb146, hx147⟩ := idx_some hx147
            refine WL.val (Value.pointer (some (elA u141 (((1 : Int) + (k36 : Int))).toNat))) _ (op_idx sl_22 hr143 rfl rfl ha145 hb146) rfl ?_
            refine WL.storeEl2 (flat_i .i64) hS136 (k := 1) rfl sz_2 hx140 hc142 rfl rfl (lt_of_idx ha145 hb146) ⟨rfl, (inL rfl)⟩ ?_
            intro wd148 hS149
            replace hS149 : St w wd148 [(Ty.sl (Ty.sl (Ty.i .i64))).at u46 x37, (Ty.sl (Ty.sl (Ty.i .i64))).at u128 ((x127).set (((1 : Int) + (k14 : Int))).toNat ((x137).set (((1 : Int) + (k36 : Int))).toNat (1 : Int)))] := hS149
            refine WL.nil ?_
            show W _ _ _ _ _ _
            refine W.region ?_
            refine WL.val u46 _ (op_move hf132) rfl ?_
            refine WL.val v_orders _ (op_move hf129) rfl ?_
            refine WL.val (Value.int .i64 p) _ (op_move hf130) rfl ?_
            refine WL.val u128 _ (op_move hf135) rfl ?_
            obtain ⟨x150, hx151, hb42⟩ := bs hb42
            refine WL.call _ (op_call fn_30 (args3 rfl rfl rfl)) (c_spec_l17Coboundary (Ty.lift _ hS149.ext r_orders) r_p (St.rep (t := (Ty.sl (Ty.sl (Ty.i .i64)))) hS149 1 rfl) hx151) rfl ?_
            rintro _ wd155 ⟨u152, u154, rfl, hr153, he156, hs157⟩
            have hS158 := St.join hS149 he156 hs157
            replace hS158 : St w wd155 [(Ty.sl (Ty.sl (Ty.i .i64))).at u46 x37, (Ty.sl (Ty.sl (Ty.i .i64))).at u128 ((x127).set (((1 : Int) + (k14 : Int))).toNat ((x137).set (((1 : Int) + (k36 : Int))).toNat (1 : Int))), (Ty.sl (Ty.i .i64)).at u152 x150.1, (Ty.sl (Ty.sl (Ty.sl (Ty.i .i64)))).at u154 x150.2.2] := hS158
            obtain ⟨x159, hx160, hb42⟩ := bs hb42
            refine WL.call _ (op_call fn_14 (args1 rfl)) (c_spec_l17Flat (St.rep (t := (Ty.sl (Ty.i .i64))) hS158 2 rfl) hr153 (St.rep (t := (Ty.sl (Ty.sl (Ty.sl (Ty.i .i64))))) hS158 3 rfl) hx160) rfl ?_
            rintro u161 wd162 ⟨_, rfl, he163, hs164⟩
            have hS165 := St.join hS158 he163 hs164
            replace hS165 : St w wd162 [(Ty.sl (Ty.sl (Ty.i .i64))).at u46 x37, (Ty.sl (Ty.sl (Ty.i .i64))).at u128 ((x127).set (((1 : Int) + (k14 : Int))).toNat ((x137).set (((1 : Int) + (k36 : Int))).toNat (1 : Int))), (Ty.sl (Ty.i .i64)).at u152 x150.1, (Ty.sl (Ty.sl (Ty.sl (Ty.i .i64)))).at u154 x150.2.2, (Ty.sl (Ty.i .i64)).at u161 x159] := hS165
            refine WL.lit [u161] hS165 sl_37 rfl rfl (fillL rfl ⟨rfl, rfl, (cells_rep (St.rep (t := (Ty.sl (Ty.i .i64))) hS165 4 rfl)), trivial⟩) rfl rfl ?_
            intro b170 wd167 hS168 he169 hx171
            replace hS168 : St w wd167 [(Ty.sl (Ty.sl (Ty.i .i64))).at u46 x37, (Ty.sl (Ty.sl (Ty.i .i64))).at u128 ((x127).set (((1 : Int) + (k14 : Int))).toNat ((x137).set (((1 : Int) + (k36 : Int))).toNat (1 : Int))), (Ty.sl (Ty.i .i64)).at u152 x150.1, (Ty.sl (Ty.sl (Ty.sl (Ty.i .i64)))).at u154 x150.2.2, (Ty.sl (Ty.i .i64)).at u161 x159, bx b170 [u161]] := hS168
            obtain ⟨x172, hx173, hb42⟩ := bs hb42
            refine WL.appendRow hS168 (k := 0) (k2 := 4) (k3 := 5) rfl rfl rfl rfl sl_37 rfl rfl rfl rfl hx173 rfl ?_
            intro u174 wd175 hS176 hz177
            replace hS176 : St w wd175 [(Ty.sl (Ty.sl (Ty.i .i64))).at u174 x172, (Ty.sl (Ty.sl (Ty.i .i64))).at u128 ((x127).set (((1 : Int) + (k14 : Int))).toNat ((x137).set (((1 : Int) + (k36 : Int))).toNat (1 : Int))), (Ty.sl (Ty.i .i64)).at u152 x150.1, (Ty.sl (Ty.sl (Ty.sl (Ty.i .i64)))).at u154 x150.2.2, emp, bx b170 [u161]] := hS176
            refine WL.val u174 _ (op_assign rfl) rfl ?_
            refine WL.nil ?_
            show W _ _ _ _ _ _
            refine W.region ?_
            refine WL.val (Value.int .i64 ((1 : Int) + (k36 : Int))) _ (op_move hf134) rfl ?_
            refine WL.val (Value.int .i64 (w64 (((1 : Int) + (k36 : Int)) + (1 : Int)))) _ (op_add rfl rfl) rfl ?_
            refine WL.val (Value.int .i64 (w64 (((1 : Int) + (k36 : Int)) + (1 : Int)))) _ (op_assign rfl) rfl ?_
            refine WL.nil ?_
            obtain rfl := Option.some.inj hb42
            show ∃ s, _ = Ctl.next s ∧ _
            exact ⟨_, rfl, u174, hf129, hf130, hf131, rfl, hf133, (ctrS_next hl55 hr3 (inL rfl)), (ctrS_rng hl55 hr3 (inL rfl)), (St.pick hS176 [0] rfl)⟩
        · intro x185 f180 wd181 hs182 hI183
          replace hI183 : ∃ (uu0 : Value), f180 0 = v_orders ∧ f180 1 = (Value.int .i64 p) ∧ f180 5 = (Value.int .i64 x1) ∧ f180 6 = uu0 ∧ f180 7 = (Value.int .i64 ((1 : Int) + (k14 : Int))) ∧ f180 8 = Value.int .i64 ((1 : Int) + (((x1 - (1 : Int)).toNat : Nat) : Int)) ∧ InR .i64 ((1 : Int) + (((x1 - (1 : Int)).toNat : Nat) : Int)) ∧ St w wd181 [(Ty.sl (Ty.sl (Ty.i .i64))).at uu0 x185] := hI183
          obtain ⟨u186, hf187, hf188, hf189, hf190, hf191, hf192, hr193, hS194⟩ := hI183
          refine W.seq (W.seq (W.region ?_))
          refine WL.val (Value.int .i64 ((1 : Int) + (((x1 - (1 : Int)).toNat : Nat) : Int))) _ (op_move hf192) rfl ?_
          refine WL.val (Value.int .i64 x1) _ (op_move hf189) rfl ?_
          refine WL.val (Value.bool (decide (((1 : Int) + (((x1 - (1 : Int)).toNat : Nat) : Int)) < x1))) _ (op_lss rfl rfl) rfl ?_
          have hl195 : ¬ ((1 : Int) + (((x1 - (1 : Int)).toNat : Nat) : Int)) < x1 := by omega
          refine WL.nil ?_
          refine W.condF (decide (((1 : Int) + (((x1 - (1 : Int)).toNat : Nat) : Int)) < x1)) rfl (decide_eq_false hl195) ?_
          refine W.exit ?_
          show _ = _ ∧ _
          exact ⟨rfl, _, hs182, u186, hf187, hf188, hf189, hf190, hf191, hS194⟩
      · rintro f196 wd197 ⟨x200, rfl, hq198⟩
        replace hb20 := onRes_fin hb20
        replace hq198 : ∃ (uu0 : Value), f196 0 = v_orders ∧ f196 1 = (Value.int .i64 p) ∧ f196 5 = (Value.int .i64 x1) ∧ f196 6 = uu0 ∧ f196 7 = (Value.int .i64 ((1 : Int) + (k14 : Int))) ∧ St w wd197 [(Ty.sl (Ty.sl (Ty.i .i64))).at uu0 x200] := hq198
        obtain ⟨u201, hf202, hf203, hf204, hf205, hf206, hS207⟩ := hq198
        show W _ _ _ _ _ _
        refine W.region ?_
        refine WL.val (Value.int .i64 ((1 : Int) + (k14 : Int))) _ (op_move hf206) rfl ?_
        refine WL.val (Value.int .i64 (w64 (((1 : Int) + (k14 : Int)) + (1 : Int)))) _ (op_add rfl rfl) rfl ?_
        refine WL.val (Value.int .i64 (w64 (((1 : Int) + (k14 : Int)) + (1 : Int)))) _ (op_assign rfl) rfl ?_
        refine WL.nil ?_
        obtain rfl := Option.some.inj hb20
        show ∃ s, _ = Ctl.next s ∧ _
        exact ⟨_, rfl, u201, hf202, hf203, hf204, hf205, (ctrS_next hl32 hr3 (inL rfl)), (ctrS_rng hl32 hr3 (inL rfl)), hS207⟩
    · intro x215 f210 wd211 hs212 hI213
      replace hI213 : ∃ (uu0 : Value), f210 0 = v_orders ∧ f210 1 = (Value.int .i64 p) ∧ f210 5 = (Value.int .i64 x1) ∧ f210 6 = uu0 ∧ f210 7 = Value.int .i64 ((1 : Int) + (((x1 - (1 : Int)).toNat : Nat) : Int)) ∧ InR .i64 ((1 : Int) + (((x1 - (1 : Int)).toNat : Nat) : Int)) ∧ St w wd211 [(Ty.sl (Ty.sl (Ty.i .i64))).at uu0 x215] := hI213
      obtain ⟨u216, hf217, hf218, hf219, hf220, hf221, hr222, hS223⟩ := hI213
      refine W.seq (W.seq (W.region ?_))
      refine WL.val (Value.int .i64 ((1 : Int) + (((x1 - (1 : Int)).toNat : Nat) : Int))) _ (op_move hf221) rfl ?_
      refine WL.val (Value.int .i64 x1) _ (op_move hf219) rfl ?_
      refine WL.val (Value.bool (decide (((1 : Int) + (((x1 - (1 : Int)).toNat : Nat) : Int)) < x1))) _ (op_lss rfl rfl) rfl ?_
      have hl224 : ¬ ((1 : Int) + (((x1 - (1 : Int)).toNat : Nat) : Int)) < x1 := by omega
      refine WL.nil ?_
      refine W.condF (decide (((1 : Int) + (((x1 - (1 : Int)).toNat : Nat) : Int)) < x1)) rfl (decide_eq_false hl224) ?_
      refine W.exit ?_
      show _ = _ ∧ _
      exact ⟨rfl, _, hs212, u216, hf220, hS223⟩
  · rintro f225 wd226 ⟨x229, rfl, hq227⟩
    replace h := onRes_fin h
    replace hq227 : ∃ (uu0 : Value), f225 6 = uu0 ∧ St w wd226 [(Ty.sl (Ty.sl (Ty.i .i64))).at uu0 x229] := hq227
    obtain ⟨u230, hf231, hS232⟩ := hq227
    refine W.seq (W.region ?_)
    refine WL.val u230 _ (op_move hf231) rfl ?_
    refine WL.val u230 _ (op_assign rfl) rfl ?_
    refine WL.nil ?_
    refine W.ret ?_
    obtain rfl := Option.some.inj h
    show FinP _ _ _ _ _ _ _
    exact FinP.ret _ (res1 rfl rfl) ⟨u230, rfl, hS232.ext, (St.out (St.pick hS232 [0] rfl) (Ext.refl _))⟩

theorem c_spec_l17Less {w : World} {p : Int} {a : (List Int)} {v_a : Value} {b : (List Int)} {v_b : Value} {k1 : Int} (r_p : InR .i64 p) (r_a : (Ty.sl (Ty.i .i64)).rep w v_a a) (r_b : (Ty.sl (Ty.i .i64)).rep w v_b b) (r_k1 : InR .i64 k1) {res : (List Int)} (h : p_spec_l17Less p a b k1  = some res) :
    Ret Try.prog 32 #[(Value.int .i64 p), v_a, v_b, (Value.int .i64 k1)] w (fun v w' => ∃ (u0 : Value), v = u0 ∧ Ext w w' ∧ Sep w.heap.size w' [(Ty.sl (Ty.i .i64)).at u0 res]) := by
  unfold p_spec_l17Less at h
  have hS0 : St w w [] := St.start w
  refine Ret.start (fn := Try.f32) Try.func32 rfl 37 rfl rfl ?_
  refine W.seq (W.region ?_)
  refine WL.val (Value.slice none 0 0) _ (op_assign rfl) rfl ?_
  refine WL.nil ?_
  refine W.seq (W.region ?_)
  refine WL.lit0 (t := (Ty.i .i64)) hS0 sl_22 rfl rfl ?_
  intro u1 wd2 hS3 he4
  replace hS3 : St w wd2 [(Ty.sl (Ty.i .i64)).at u1 ([] : (List Int))] := hS3
  refine WL.val u1 _ (op_assign rfl) rfl ?_
  refine WL.nil ?_
  refine W.seq (W.seq (W.region ?_))
  refine WL.val (Value.int .i64 (0 : Int)) _ (op_assign rfl) rfl ?_
  refine WL.nil ?_
  show W _ _ _ _ _ _
  obtain ⟨res5, hres6, h⟩ := bs h
  refine W.blockLoop (fun fq wq => ∃ s, res5 = Res.fin s ∧ ∃ (uu0 : Value), fq 9 = uu0 ∧ St w wq [(Ty.sl (Ty.i .i64)).at uu0 s]) ?_ ?_
  · refine W.forN (fun k (s : (List Int)) fq wq => ∃ (uu0 : Value), fq 0 = (Value.int .i64 p) ∧ fq 1 = v_a ∧ fq 2 = v_b ∧ fq 3 = (Value.int .i64 k1) ∧ fq 9 = uu0 ∧ fq 10 = Value.int .i64 (k : Int) ∧ InR .i64 (k : Int) ∧ St w wq [(Ty.sl (Ty.i .i64)).at uu0 s]) hres6 ⟨u1, rfl, rfl, rfl, rfl, rfl, rfl, (inL rfl), hS3⟩ ?_ ?_
    · intro k7 x8 ct9 f10 wd11 hk12 hb13 hI14 hbrk15 hret16
      replace hI14 : ∃ (uu0 : Value), f10 0 = (Value.int .i64 p) ∧ f10 1 = v_a ∧ f10 2 = v_b ∧ f10 3 = (Value.int .i64 k1) ∧ f10 9 = uu0 ∧ f10 10 = Value.int .i64 (k7 : Int) ∧ InR .i64 (k7 : Int) ∧ St w wd11 [(Ty.sl (Ty.i .i64)).at uu0 x8] := hI14
      replace hb13 : p_spec_l17Less_L1 a b p k1 k7 x8 = some ct9 := hb13
      unfold p_spec_l17Less_L1 at hb13
      obtain ⟨u17, hf18, hf19, hf20, hf21, hf22, hf23, hr24, hS25⟩ := hI14
      refine W.seq (W.seq (W.region ?_))
      refine WL.val (Value.int .i64 (k7 : Int)) _ (op_move hf23) rfl ?_
      refine WL.val v_a _ (op_move hf19) rfl ?_
      have hr26 := inR_len (Ty.lift _ hS25.ext r_a)
      refine WL.val (Value.int .i64 ((a).length : Int)) _ (op_lenL sl_22 (Ty.lift _ hS25.ext r_a) rfl) rfl ?_
      refine WL.val (Value.bool (decide ((k7 : Int) < ((a).length : Int)))) _ (op_lss rfl rfl) rfl ?_
      have hl27 : (k7 : Int) < ((a).length : Int) := by omega
      refine WL.nil ?_
      refine W.condT (decide ((k7 : Int) < ((a).length : Int))) rfl (decide_eq_true hl27) ?_
      refine W.skip ?_
      refine W.seq ?_
      refine W.block ?_
      obtain ⟨x65, hx68, hb13⟩ := bs hb13
      obtain ⟨ha66, hb67, hx68⟩ := idx_some hx68
      obtain ⟨u79, hc80, hr81⟩ := repSl.el r_a hx68
      obtain ⟨rfl, hr81⟩ := hr81
      obtain ⟨x141, hx144, hb13⟩ := bs hb13
      obtain ⟨ha142, hb143, hx144⟩ := idx_some hx144
      obtain ⟨u155, hc156, hr157⟩ := repSl.el r_b hx144
      obtain ⟨rfl, hr157⟩ := hr157
      obtain ⟨x213, hz214, hb13⟩ := bs hb13
      obtain ⟨h0215, hz214⟩ := remI_some hz214
      refine W.drawR mixo 17 [] [fun _ v _ _ => v = u17, fun _ v _ _ => v = v_a, fun _ v _ _ => v = (Value.int .i64 (k7 : Int)) ∧ InR .i64 (k7 : Int), fun _ v _ _ => v = (Value.pointer (some (elA v_a ((k7 : Int)).toNat))), fun _ v _ _ => v = (Value.int .i64 x65) ∧ InR .i64 x65, fun _ v _ _ => v = (Value.int .i64 p) ∧ InR .i64 p, fun _ v _ _ => v = (Value.int .i64 k1) ∧ InR .i64 k1, fun _ v _ _ => v = (Value.int .i64 (w64 (p - k1))) ∧ InR .i64 (w64 (p - k1)), fun _ v _ _ => v = v_b, fun _ v _ _ => v = (Value.int .i64 (k7 : Int)) ∧ InR .i64 (k7 : Int), fun _ v _ _ => v = (Value.pointer (some (elA v_b ((k7 : Int)).toNat))), fun _ v _ _ => v = (Value.int .i64 x141) ∧ InR .i64 x141, fun _ v _ _ => v = (Value.int .i64 (w64 ((w64 (p - k1)) * x141))) ∧ InR .i64 (w64 ((w64 (p - k1)) * x141)), fun _ v _ _ => v = (Value.int .i64 (w64 (x65 + (w64 ((w64 (p - k1)) * x141))))) ∧ InR .i64 (w64 (x65 + (w64 ((w64 (p - k1)) * x141)))), fun _ v _ _ => v = (Value.int .i64 p) ∧ InR .i64 p, fun _ v _ _ => v = (Value.int .i64 x213) ∧ InR .i64 x213, fun _ v S w' => SepS S w' [(Ty.sl (Ty.i .i64)).at v ([x213] : (List Int))]] (by kernel_rfl) (by kernel_rfl) ⟨pk, pk, pk, pk, pk, pk, pk, pk, pk, pk, pk, pk, pk, pk, pk, pk, ⟨fun _ _ _ _ _ he h => SepS.extend he h, fun _ _ _ _ _ _ h => h⟩, trivial⟩ ⟨?_, ?_, ?_, ?_, ?_, ?_, ?_, ?_, ?_, ?_, ?_, ?_, ?_, ?_, ?_, ?_, ?_, trivial⟩ ?_
      · refine ObX.op rfl fun f29 wd30 he31 hout32 hphi33 => ?_
        have e35 : f29 9 = u17 := (hout32 9 rfl).trans hf22
        exact OpX.val u17 wd30 rfl (op_move e35) (Ext.refl _) rfl
      · refine ObX.op rfl fun f36 wd37 he38 hout39 hphi40 => ?_
        have e42 : f36 1 = v_a := (hout39 1 rfl).trans hf19
        exact OpX.val v_a wd37 rfl (op_move e42) (Ext.refl _) rfl
      · refine ObX.op rfl fun f43 wd44 he45 hout46 hphi47 => ?_
        have e49 : f43 10 = (Value.int .i64 (k7 : Int)) := (hout46 10 rfl).trans hf23
        exact OpX.val (Value.int .i64 (k7 : Int)) wd44 rfl (op_move e49) (Ext.refl _) ⟨rfl, hr24⟩
      · refine ObX.op rfl fun f50 wd51 he52 hout53 hphi54 => ?_
        have hS55 := St.extend hS25 he52
        obtain ⟨S56, hS57, hf58⟩ := hphi54 1 19 _ rfl rfl rfl
        have e59 : f50 19 = v_a := hf58
        obtain ⟨S60, hS61, hf62⟩ := hphi54 2 20 _ rfl rfl rfl
        obtain ⟨e63, hr64⟩ := hf62
        exact OpX.val (Value.pointer (some (elA v_a ((k7 : Int)).toNat))) wd51 rfl (op_idx sl_22 (Ty.lift _ hS55.ext r_a) e59 e63 ha66 hb67) (Ext.refl _) rfl
      · refine ObX.op rfl fun f69 wd70 he71 hout72 hphi73 => ?_
        have hS74 := St.extend hS25 he71
        obtain ⟨S75, hS76, hf77⟩ := hphi73 3 21 _ rfl rfl rfl
        have e78 : f69 21 = (Value.pointer (some (elA v_a ((k7 : Int)).toNat))) := hf77
        exact OpX.val (Value.int .i64 x65) wd70 rfl (op_load one_2 e78 (Ext.cell hS74.ext hc80)) (Ext.refl _) ⟨rfl, hr81⟩
      · refine ObX.op rfl fun f82 wd83 he84 hout85 hphi86 => ?_
        have e88 : f82 0 = (Value.int .i64 p) := (hout85 0 rfl).trans hf18
        exact OpX.val (Value.int .i64 p) wd83 rfl (op_move e88) (Ext.refl _) ⟨rfl, r_p⟩
      · refine ObX.op rfl fun f89 wd90 he91 hout92 hphi93 => ?_
        have e95 : f89 3 = (Value.int .i64 k1) := (hout92 3 rfl).trans hf21
        exact OpX.val (Value.int .i64 k1) wd90 rfl (op_move e95) (Ext.refl _) ⟨rfl, r_k1⟩
      · refine ObX.op rfl fun f96 wd97 he98 hout99 hphi100 => ?_
        obtain ⟨S102, hS103, hf104⟩ := hphi100 5 23 _ rfl rfl rfl
        obtain ⟨e105, hr106⟩ := hf104
        obtain ⟨S107, hS108, hf109⟩ := hphi100 6 24 _ rfl rfl rfl
        obtain ⟨e110, hr111⟩ := hf109
        exact OpX.val (Value.int .i64 (w64 (p - k1))) wd97 rfl (op_sub e105 e110) (Ext.refl _) ⟨rfl, (inR_wrap _ _)⟩
      · refine ObX.op rfl fun f112 wd113 he114 hout115 hphi116 => ?_
        have e118 : f112 2 = v_b := (hout115 2 rfl).trans hf20
        exact OpX.val v_b wd113 rfl (op_move e118) (Ext.refl _) rfl
      · refine ObX.op rfl fun f119 wd120 he121 hout122 hphi123 => ?_
        have e125 : f119 10 = (Value.int .i64 (k7 : Int)) := (hout122 10 rfl).trans hf23
        exact OpX.val (Value.int .i64 (k7 : Int)) wd120 rfl (op_move e125) (Ext.refl _) ⟨rfl, hr24⟩
      · refine ObX.op rfl fun f126 wd127 he128 hout129 hphi130 => ?_
        have hS131 := St.extend hS25 he128
        obtain ⟨S132, hS133, hf134⟩ := hphi130 8 26 _ rfl rfl rfl
        have e135 : f126 26 = v_b := hf134
        obtain ⟨S136, hS137, hf138⟩ := hphi130 9 27 _ rfl rfl rfl
        obtain ⟨e139, hr140⟩ := hf138
        exact OpX.val (Value.pointer (some (elA v_b ((k7 : Int)).toNat))) wd127 rfl (op_idx sl_22 (Ty.lift _ hS131.ext r_b) e135 e139 ha142 hb143) (Ext.refl _) rfl
      · refine ObX.op rfl fun f145 wd146 he147 hout148 hphi149 => ?_
        have hS150 := St.extend hS25 he147
        obtain ⟨S151, hS152, hf153⟩ := hphi149 10 28 _ rfl rfl rfl
        have e154 : f145 28 = (Value.pointer (some (elA v_b ((k7 : Int)).toNat))) := hf153
        exact OpX.val (Value.int .i64 x141) wd146 rfl (op_load one_2 e154 (Ext.cell hS150.ext hc156)) (Ext.refl _) ⟨rfl, hr157⟩
      · refine ObX.op rfl fun f158 wd159 he160 hout161 hphi162 => ?_
        obtain ⟨S164, hS165, hf166⟩ := hphi162 7 25 _ rfl rfl rfl
        obtain ⟨e167, hr168⟩ := hf166
        obtain ⟨S169, hS170, hf171⟩ := hphi162 11 29 _ rfl rfl rfl
        obtain ⟨e172, hr173⟩ := hf171
        exact OpX.val (Value.int .i64 (w64 ((w64 (p - k1)) * x141))) wd159 rfl (op_mul e167 e172) (Ext.refl _) ⟨rfl, (inR_wrap _ _)⟩
      · refine ObX.op rfl fun f174 wd175 he176 hout177 hphi178 => ?_
        obtain ⟨S180, hS181, hf182⟩ := hphi178 4 22 _ rfl rfl rfl
        obtain ⟨e183, hr184⟩ := hf182
        obtain ⟨S185, hS186, hf187⟩ := hphi178 12 30 _ rfl rfl rfl
        obtain ⟨e188, hr189⟩ := hf187
        exact OpX.val (Value.int .i64 (w64 (x65 + (w64 ((w64 (p - k1)) * x141))))) wd175 rfl (op_add e183 e188) (Ext.refl _) ⟨rfl, (inR_wrap _ _)⟩
      · refine ObX.op rfl fun f190 wd191 he192 hout193 hphi194 => ?_
        have e196 : f190 0 = (Value.int .i64 p) := (hout193 0 rfl).trans hf18
        exact OpX.val (Value.int .i64 p) wd191 rfl (op_move e196) (Ext.refl _) ⟨rfl, r_p⟩
      · refine ObX.op rfl fun f197 wd198 he199 hout200 hphi201 => ?_
        obtain ⟨S203, hS204, hf205⟩ := hphi201 13 31 _ rfl rfl rfl
        obtain ⟨e206, hr207⟩ := hf205
        obtain ⟨S208, hS209, hf210⟩ := hphi201 14 32 _ rfl rfl rfl
        obtain ⟨e211, hr212⟩ := hf210
        have hr216 : InR .i64 x213 := by rw [hz214]; exact inR_tmod hr207
        exact OpX.val (Value.int .i64 x213) wd198 rfl (by rw [hz214]; exact op_rem e206 e211 h0215) (Ext.refl _) ⟨rfl, hr216⟩
      · refine ObX.op rfl fun f217 wd218 he219 hout220 hphi221 => ?_
        obtain ⟨S223, hS224, hf225⟩ := hphi221 15 33 _ rfl rfl rfl
        obtain ⟨e226, hr227⟩ := hf225
        obtain ⟨v228, wd229, ho230, he231, hs232⟩ := mk_litFlat (P := Try.prog) (f := f217) (w := wd218) (T := 22) (m := 1) (ps := #[(0, Operand.tmp 33)]) (us := [(Value.int .i64 x213)]) (t := (Ty.i .i64)) (flat_i .i64) ([x213] : (List Int)) sl_22 rfl (Nat.le_of_ble_eq_true rfl) (fillL rfl ⟨rfl, e226, rfl, trivial⟩) rfl rfl (litL ⟨⟨rfl, hr227⟩, trivial⟩)
        exact OpX.valO v228 wd229 rfl ho230 he231 (Sep.new hs232)
      · intro f233 wd234 Ss235 he236 hout237 hSn238 hSd239 hphi240
        show WL _ _ _ _ _ _ _
        have e242 : f233 18 = u17 := hphi240 0 18 _ (by decide) rfl rfl
        have e243 : SepS (Ss235 16) wd234 [(Ty.sl (Ty.i .i64)).at (f233 34) ([x213] : (List Int))] := hphi240 16 34 _ (by decide) rfl rfl
        have e244 : f233 0 = (Value.int .i64 p) := (hout237 0 rfl).trans hf18
        have e245 : f233 1 = v_a := (hout237 1 rfl).trans hf19
        have e246 : f233 2 = v_b := (hout237 2 rfl).trans hf20
        have e247 : f233 3 = (Value.int .i64 k1) := (hout237 3 rfl).trans hf21
        have e248 : f233 10 = (Value.int .i64 (k7 : Int)) := (hout237 10 rfl).trans hf23
        have hS249 := St.joinS hS25 he236 hSn238 (SepS.consS hSd239 rfl e243 SepS.nilS)
        replace hS249 : St w wd234 [(Ty.sl (Ty.i .i64)).at u17 x8, (Ty.sl (Ty.i .i64)).at (f233 34) ([x213] : (List Int))] := hS249
        obtain ⟨x250, hx251, hb13⟩ := bs hb13
        refine WL.append (flat_i .i64) hS249 (k := 0) rfl sl_22 rfl rfl e242 rfl (St.rep (t := (Ty.sl (Ty.i .i64))) hS249 1 rfl) hx251 rfl ?_
        intro u252 wd253 hS254 hz255
        replace hS254 : St w wd253 [(Ty.sl (Ty.i .i64)).at u252 x250, (Ty.sl (Ty.i .i64)).at (f233 34) ([x213] : (List Int))] := hS254
        refine WL.val u252 _ (op_assign rfl) rfl ?_
        refine WL.nil ?_
        show W _ _ _ _ _ _
        refine W.region ?_
        refine WL.val (Value.int .i64 (k7 : Int)) _ (op_move e248) rfl ?_
        refine WL.val (Value.int .i64 (w64 ((k7 : Int) + (1 : Int)))) _ (op_add rfl rfl) rfl ?_
        refine WL.val (Value.int .i64 (w64 ((k7 : Int) + (1 : Int)))) _ (op_assign rfl) rfl ?_
        refine WL.nil ?_
        obtain rfl := Option.some.inj hb13
        show ∃ s, _ = Ctl.next s ∧ _
        exact ⟨_, rfl, u252, e244, e245, e246, e247, rfl, (ctr_next hl27 hr26), (ctr_rng hl27 hr26), (St.pick hS254 [0] rfl)⟩
    · intro x262 f257 wd258 hs259 hI260
      replace hI260 : ∃ (uu0 : Value), f257 0 = (Value.int .i64 p) ∧ f257 1 = v_a ∧ f257 2 = v_b ∧ f257 3 = (Value.int .i64 k1) ∧ f257 9 = uu0 ∧ f257 10 = Value.int .i64 (((a).length : Nat) : Int) ∧ InR .i64 (((a).length : Nat) : Int) ∧ St w wd258 [(Ty.sl (Ty.i .i64)).at uu0 x262] := hI260
      obtain ⟨u263, hf264, hf265, hf266, hf267, hf268, hf269, hr270, hS271⟩ := hI260
      refine W.seq (W.seq (W.region ?_))
      refine WL.val (Value.int .i64 (((a).length : Nat) : Int)) _ (op_move hf269) rfl ?_
      refine WL.val v_a _ (op_move hf265) rfl ?_
      have hr272 := inR_len (Ty.lift _ hS271.ext r_a)
      refine WL.val (Value.int .i64 ((a).length : Int)) _ (op_lenL sl_22 (Ty.lift _ hS271.ext r_a) rfl) rfl ?_
      refine WL.val (Value.bool (decide ((((a).length : Nat) : Int) < ((a).length : Int)))) _ (op_lss rfl rfl) rfl ?_
      have hl273 : ¬ (((a).length : Nat) : Int) < ((a).length : Int) := by omega
      refine WL.nil ?_
      refine W.condF (decide ((((a).length : Nat) : Int) < ((a).length : Int))) rfl (decide_eq_false hl273) ?_
      refine W.exit ?_
      show _ = _ ∧ _
      exact ⟨rfl, _, hs259, u263, hf268, hS271⟩
  · rintro f274 wd275 ⟨x278, rfl, hq276⟩
    replace h := onRes_fin h
    replace hq276 : ∃ (uu0 : Value), f274 9 = uu0 ∧ St w wd275 [(Ty.sl (Ty.i .i64)).at uu0 x278] := hq276
    obtain ⟨u279, hf280, hS281⟩ := hq276
    refine W.seq (W.region ?_)
    refine WL.val u279 _ (op_move hf280) rfl ?_
    refine WL.val u279 _ (op_assign rfl) rfl ?_
    refine WL.nil ?_
    refine W.ret ?_
    obtain rfl := Option.some.inj h
    show FinP _ _ _ _ _ _ _
    exact FinP.ret _ (res1 rfl rfl) ⟨u279, rfl, hS281.ext, (St.out (St.pick hS281 [0] rfl) (Ext.refl _))⟩

theorem c_spec_l17Rank {w : World} {p : Int} {lists : (List (List Int))} {v_lists : Value} (r_p : InR .i64 p) (r_lists : (Ty.sl (Ty.sl (Ty.i .i64))).rep w v_lists lists) {res : Int} (h : p_spec_l17Rank p lists  = some res) :
    Ret Try.prog 15 #[(Value.int .i64 p), v_lists] w (fun v w' => v = Value.int .i64 res ∧ InR .i64 res ∧ Ext w w') := by
  unfold p_spec_l17Rank at h
  have hS0 : St w w [] := St.start w
  refine Ret.start (fn := Try.f15) Try.func15 rfl 99 rfl rfl ?_
  refine W.seq (W.region ?_)
  refine WL.val (Value.int .i64 (0 : Int)) _ (op_assign rfl) rfl ?_
  refine WL.nil ?_
  refine W.seq (W.region ?_)
  refine WL.lit0 (t := (Ty.sl (Ty.i .i64))) hS0 sl_37 rfl rfl ?_
  intro u1 wd2 hS3 he4
  replace hS3 : St w wd2 [(Ty.sl (Ty.sl (Ty.i .i64))).at u1 ([] : (List (List Int)))] := hS3
  refine WL.lit0 (t := (Ty.i .i64)) hS3 sl_50 rfl rfl ?_
  intro u5 wd6 hS7 he8
  replace hS7 : St w wd6 [(Ty.sl (Ty.sl (Ty.i .i64))).at u1 ([] : (List (List Int))), (Ty.sl (Ty.i .i64)).at u5 ([] : (List Int))] := hS7
  refine WL.val u1 _ (op_assign rfl) rfl ?_
  refine WL.val u5 _ (op_assign rfl) rfl ?_
  refine WL.nil ?_
  refine W.seq (W.seq (W.region ?_))
  refine WL.val (Value.int .i64 (0 : Int)) _ (op_assign rfl) rfl ?_
  refine WL.nil ?_
  show W _ _ _ _ _ _
  obtain ⟨res9, hres10, h⟩ := bs h
  refine W.blockLoop (fun fq wq => ∃ s, res9 = Res.fin s ∧ ∃ (uu0 : Value), fq 5 = uu0 ∧ St w wq [(Ty.sl (Ty.sl (Ty.i .i64))).at uu0 s.1]) ?_ ?_
  · refine W.forN (fun k (s : (List (List Int)) × (List Int)) fq wq => ∃ (uu0 : Value) (uu1 : Value), fq 0 = (Value.int .i64 p) ∧ fq 1 = v_lists ∧ fq 5 = uu0 ∧ fq 6 = uu1 ∧ fq 7 = Value.int .i64 (k : Int) ∧ InR .i64 (k : Int) ∧ St w wq [(Ty.sl (Ty.sl (Ty.i .i64))).at uu0 s.1, (Ty.sl (Ty.i .i64)).at uu1 s.2]) hres10 ⟨u1, u5, rfl, rfl, rfl, rfl, rfl, (inL rfl), hS7⟩ ?_ ?_
    · intro k11 s453 ct14 f15 wd16 hk17 hb18 hI19 hbrk20 hret21
      obtain ⟨x12, x13⟩ := s453
      replace hI19 : ∃ (uu0 : Value) (uu1 : Value), f15 0 = (Value.int .i64 p) ∧ f15 1 = v_lists ∧ f15 5 = uu0 ∧ f15 6 = uu1 ∧ f15 7 = Value.int .i64 (k11 : Int) ∧ InR .i64 (k11 : Int) ∧ St w wd16 [(Ty.sl (Ty.sl (Ty.i .i64))).at uu0 x12, (Ty.sl (Ty.i .i64)).at uu1 x13] := hI19
      replace hb18 : p_spec_l17Rank_L1 lists p k11 x12 x13 = some ct14 := hb18
      unfold p_spec_l17Rank_L1 at hb18
      obtain ⟨u22, u23, hf24, hf25, hf26, hf27, hf28, hr29, hS30⟩ := hI19
      refine W.seq (W.seq (W.region ?_))
      refine WL.val (Value.int .i64 (k11 : Int)) _ (op_move hf28) rfl ?_
      refine WL.val v_lists _ (op_move hf25) rfl ?_
      have hr31 := inR_len (Ty.lift _ hS30.ext r_lists)
      refine WL.val (Value.int .i64 ((lists).length : Int)) _ (op_lenL sl_37 (Ty.lift _ hS30.ext r_lists) rfl) rfl ?_
      refine WL.val (Value.bool (decide ((k11 : Int) < ((lists).length : Int)))) _ (op_lss rfl rfl) rfl ?_
      have hl32 : (k11 : Int) < ((lists).length : Int) := by omega
      refine WL.nil ?_
      refine W.condT (decide ((k11 : Int) < ((lists).length : Int))) rfl (decide_eq_true hl32) ?_
      refine W.skip ?_
      refine W.seq ?_
      refine W.block ?_
      refine W.seq (W.region ?_)
      refine WL.val v_lists _ (op_move hf25) rfl ?_
      refine WL.val (Value.int .i64 (k11 : Int)) _ (op_move hf28) rfl ?_
      obtain ⟨x34, hx37, hb18⟩ := bs hb18
      obtain ⟨ha35, hb36, hx37⟩ := idx_some hx37
      refine WL.val (Value.pointer (some (elA v_lists ((k11 : Int)).toNat))) _ (op_idx sl_37 (Ty.lift _ hS30.ext r_lists) rfl rfl ha35 hb36) rfl ?_
      obtain ⟨u38, hc39, hr40⟩ := repSl.el r_lists hx37
      refine WL.val u38 _ (op_load one_22 rfl (Ext.cell hS30.ext hc39)) rfl ?_
      obtain ⟨x41, hx42, hb18⟩ := bs hb18
      refine WL.call _ (op_call fn_31 (args1 rfl)) (c_spec_l01Own (Ty.lift _ hS30.ext hr40) hx42) rfl ?_
      rintro u43 wd44 ⟨_, rfl, he45, hs46⟩
      have hS47 := St.join hS30 he45 hs46
      replace hS47 : St w wd44 [(Ty.sl (Ty.sl (Ty.i .i64))).at u22 x12, (Ty.sl (Ty.i .i64)).at u23 x13, (Ty.sl (Ty.i .i64)).at u43 x41] := hS47
      refine WL.val u43 _ (op_assign rfl) rfl ?_
      refine WL.nil ?_
      refine W.seq (W.seq (W.region ?_))
      refine WL.val (Value.int .i64 (0 : Int)) _ (op_assign rfl) rfl ?_
      refine WL.nil ?_
      show W _ _ _ _ _ _
      obtain ⟨res48, hres49, hb18⟩ := bs hb18
      refine W.blockLoop (fun fq wq => ∃ s, res48 = Res.fin s ∧ ∃ (uu0 : Value), fq 0 = (Value.int .i64 p) ∧ fq 1 = v_lists ∧ fq 5 = u22 ∧ fq 6 = u23 ∧ fq 7 = (Value.int .i64 (k11 : Int)) ∧ fq 8 = uu0 ∧ St w wq [(Ty.sl (Ty.sl (Ty.i .i64))).at u22 x12, (Ty.sl (Ty.i .i64)).at u23 x13, (Ty.sl (Ty.i .i64)).at uu0 s]) ?_ ?_
      · refine W.forN (fun k (s : (List Int)) fq wq => ∃ (uu0 : Value), fq 0 = (Value.int .i64 p) ∧ fq 1 = v_lists ∧ fq 5 = u22 ∧ fq 6 = u23 ∧ fq 7 = (Value.int .i64 (k11 : Int)) ∧ fq 8 = uu0 ∧ fq 9 = Value.int .i64 (k : Int) ∧ InR .i64 (k : Int) ∧ St w wq [(Ty.sl (Ty.sl (Ty.i .i64))).at u22 x12, (Ty.sl (Ty.i .i64)).at u23 x13, (Ty.sl (Ty.i .i64)).at uu0 s]) hres49 ⟨u43, hf24, hf25, hf26, hf27, hf28, rfl, rfl, (inL rfl), hS47⟩ ?_ ?_
        · intro k50 x51 ct52 f53 wd54 hk55 hb56 hI57 hbrk58 hret59
          replace hI57 : ∃ (uu0 : Value), f53 0 = (Value.int .i64 p) ∧ f53 1 = v_lists ∧ f53 5 = u22 ∧ f53 6 = u23 ∧ f53 7 = (Value.int .i64 (k11 : Int)) ∧ f53 8 = uu0 ∧ f53 9 = Value.int .i64 (k50 : Int) ∧ InR .i64 (k50 : Int) ∧ St w wd54 [(Ty.sl (Ty.sl (Ty.i .i64))).at u22 x12, (Ty.sl (Ty.i .i64)).at u23 x13, (Ty.sl (Ty.i .i64)).at uu0 x51] := hI57
          replace hb56 : p_spec_l17Rank_L2 x13 x12 p k50 x51 = some ct52 := hb56
          unfold p_spec_l17Rank_L2 at hb56
          obtain ⟨u60, hf61, hf62, hf63, hf64, hf65, hf66, hf67, hr68, hS69⟩ := hI57
          refine W.seq (W.seq (W.region ?_))
          refine WL.val (Value.int .i64 (k50 : Int)) _ (op_move hf67) rfl ?_
          refine WL.val u22 _ (op_move hf63) rfl ?_
          have hr70 := inR_len (St.rep (t := (Ty.sl (Ty.sl (Ty.i .i64)))) hS69 0 rfl)
          refine WL.val (Value.int .i64 ((x12).length : Int)) _ (op_lenL sl_37 (St.rep (t := (Ty.sl (Ty.sl (Ty.i .i64)))) hS69 0 rfl) rfl) rfl ?_
          refine WL.val (Value.bool (decide ((k50 : Int) < ((x12).length : Int)))) _ (op_lss rfl rfl) rfl ?_
          have hl71 : (k50 : Int) < ((x12).length : Int) := by omega
          refine WL.nil ?_
          refine W.condT (decide ((k50 : Int) < ((x12).length : Int))) rfl (decide_eq_true hl71) ?_
          refine W.skip ?_
          refine W.seq ?_
          refine W.block ?_
          refine W.seq (W.region ?_)
          refine WL.val u60 _ (op_move hf66) rfl ?_
          refine WL.val u23 _ (op_move hf64) rfl ?_
          refine WL.val (Value.int .i64 (k50 : Int)) _ (op_move hf67) rfl ?_
          obtain ⟨x73, hx76, hb56⟩ := bs hb56
          obtain ⟨ha74, hb75, hx76⟩ := idx_some hx76
          refine WL.val (Value.pointer (some (elA u23 ((k50 : Int)).toNat))) _ (op_idx sl_50 (St.rep (t := (Ty.sl (Ty.i .i64))) hS69 1 rfl) rfl rfl ha74 hb75) rfl ?_
          obtain ⟨u77, hc78, hr79⟩ := repSl.el (St.rep (t := (Ty.sl (Ty.i .i64))) hS69 1 rfl) hx76
          obtain ⟨rfl, hr79⟩ := hr79
          refine WL.val (Value.int .i64 x73) _ (op_load one_3 rfl hc78) rfl ?_
          obtain ⟨x80, hx83, hb56⟩ := bs hb56
          obtain ⟨ha81, hb82, hx83⟩ := idx_some hx83
          refine WL.val (Value.pointer (some (elA u60 (x73).toNat))) _ (op_idx sl_22 (St.rep (t := (Ty.sl (Ty.i .i64))) hS69 2 rfl) rfl rfl ha81 hb82) rfl ?_
          obtain ⟨u84, hc85, hr86⟩ := repSl.el (St.rep (t := (Ty.sl (Ty.i .i64))) hS69 2 rfl) hx83
          obtain ⟨rfl, hr86⟩ := hr86
          refine WL.val (Value.int .i64 x80) _ (op_load one_2 rfl hc85) rfl ?_
          refine WL.val (Value.bool (x80 != (0 : Int))) _ (op_neq rfl rfl) rfl ?_
          refine WL.nil ?_
          show W _ _ _ _ _ _
          obtain ⟨x87, hj88, hb56⟩ := bs hb56
          refine W.cutCode (fun fq wq => ∃ (uu0 : Value), fq 0 = (Value.int .i64 p) ∧ fq 1 = v_lists ∧ fq 5 = u22 ∧ fq 6 = u23 ∧ fq 7 = (Value.int .i64 (k11 : Int)) ∧ fq 8 = uu0 ∧ fq 9 = (Value.int .i64 (k50 : Int)) ∧ St w wq [(Ty.sl (Ty.sl (Ty.i .i64))).at u22 x12, (Ty.sl (Ty.i .i64)).at u23 x13, (Ty.sl (Ty.i .i64)).at uu0 x87]) ?_ ?_
          · refine W.cond (x80 != (0 : Int)) rfl (fun hc89 => ?_) (fun hc89 => ?_)
            · replace hj88 := ip hj88 hc89
              obtain ⟨x133, hx136, hj88⟩ := bs hj88
              obtain ⟨ha134, hb135, hx136⟩ := idx_some hx136
              obtain ⟨u147, hc148, hr149⟩ := repSl.el (St.rep (t := (Ty.sl (Ty.sl (Ty.i .i64)))) hS69 0 rfl) hx136
              obtain ⟨u196, hc197, hr198⟩ := repSl.el (St.rep (t := (Ty.sl (Ty.i .i64))) hS69 1 rfl) hx76
              obtain ⟨rfl, hr198⟩ := hr198
              obtain ⟨u224, hc225, hr226⟩ := repSl.el (St.rep (t := (Ty.sl (Ty.i .i64))) hS69 2 rfl) hx83
              obtain ⟨rfl, hr226⟩ := hr226
              refine W.drawR mixo 13 [] [fun _ v _ _ => v = (Value.int .i64 p) ∧ InR .i64 p, fun _ v _ _ => v = u60, fun _ v _ _ => v = u22, fun _ v _ _ => v = (Value.int .i64 (k50 : Int)) ∧ InR .i64 (k50 : Int), fun _ v _ _ => v = (Value.pointer (some (elA u22 ((k50 : Int)).toNat))), fun _ v _ _ => v = u147, fun _ v _ _ => v = u60, fun _ v _ _ => v = u23, fun _ v _ _ => v = (Value.int .i64 (k50 : Int)) ∧ InR .i64 (k50 : Int), fun _ v _ _ => v = (Value.pointer (some (elA u23 ((k50 : Int)).toNat))), fun _ v _ _ => v = (Value.int .i64 x73) ∧ InR .i64 x73, fun _ v _ _ => v = (Value.pointer (some (elA u60 (x73).toNat))), fun _ v _ _ => v = (Value.int .i64 x80) ∧ InR .i64 x80] (by kernel_rfl) (by kernel_rfl) ⟨pk, pk, pk, pk, pk, pk, pk, pk, pk, pk, pk, pk, pk, trivial⟩ ⟨?_, ?_, ?_, ?_, ?_, ?_, ?_, ?_, ?_, ?_, ?_, ?_, ?_, trivial⟩ ?_
              · refine ObX.op rfl fun f90 wd91 he92 hout93 hphi94 => ?_
                have e96 : f90 0 = (Value.int .i64 p) := (hout93 0 rfl).trans hf61
                exact OpX.val (Value.int .i64 p) wd91 rfl (op_move e96) (Ext.refl _) ⟨rfl, r_p⟩
              · refine ObX.op rfl fun f97 wd98 he99 hout100 hphi101 => ?_
                have e103 : f97 8 = u60 := (hout100 8 rfl).trans hf66
                exact OpX.val u60 wd98 rfl (op_move e103) (Ext.refl _) rfl
              · refine ObX.op rfl fun f104 wd105 he106 hout107 hphi108 => ?_
                have e110 : f104 5 = u22 := (hout107 5 rfl).trans hf63
                exact OpX.val u22 wd105 rfl (op_move e110) (Ext.refl _) rfl
              · refine ObX.op rfl fun f111 wd112 he113 hout114 hphi115 => ?_
                have e117 : f111 9 = (Value.int .i64 (k50 : Int)) := (hout114 9 rfl).trans hf67
                exact OpX.val (Value.int .i64 (k50 : Int)) wd112 rfl (op_move e117) (Ext.refl _) ⟨rfl, hr68⟩
              · refine ObX.op rfl fun f118 wd119 he120 hout121 hphi122 => ?_
                have hS123 := St.extend hS69 he120
                obtain ⟨S124, hS125, hf126⟩ := hphi122 2 41 _ rfl rfl rfl
                have e127 : f118 41 = u22 := hf126
                obtain ⟨S128, hS129, hf130⟩ := hphi122 3 42 _ rfl rfl rfl
                obtain ⟨e131, hr132⟩ := hf130
                exact OpX.val (Value.pointer (some (elA u22 ((k50 : Int)).toNat))) wd119 rfl (op_idx sl_37 (St.rep (t := (Ty.sl (Ty.sl (Ty.i .i64)))) hS123 0 rfl) e127 e131 ha134 hb135) (Ext.refl _) rfl
              · refine ObX.op rfl fun f137 wd138 he139 hout140 hphi141 => ?_
                obtain ⟨S143, hS144, hf145⟩ := hphi141 4 43 _ rfl rfl rfl
                have e146 : f137 43 = (Value.pointer (some (elA u22 ((k50 : Int)).toNat))) := hf145
                exact OpX.val u147 wd138 rfl (op_load one_22 e146 (Ext.cell he139 hc148)) (Ext.refl _) rfl
              · refine ObX.op rfl fun f150 wd151 he152 hout153 hphi154 => ?_
                have e156 : f150 8 = u60 := (hout153 8 rfl).trans hf66
                exact OpX.val u60 wd151 rfl (op_move e156) (Ext.refl _) rfl
              · refine ObX.op rfl fun f157 wd158 he159 hout160 hphi161 => ?_
                have e163 : f157 6 = u23 := (hout160 6 rfl).trans hf64
                exact OpX.val u23 wd158 rfl (op_move e163) (Ext.refl _) rfl
              · refine ObX.op rfl fun f164 wd165 he166 hout167 hphi168 => ?_
                have e170 : f164 9 = (Value.int .i64 (k50 : Int)) := (hout167 9 rfl).trans hf67
                exact OpX.val (Value.int .i64 (k50 : Int)) wd165 rfl (op_move e170) (Ext.refl _) ⟨rfl, hr68⟩
              · refine ObX.op rfl fun f171 wd172 he173 hout174 hphi175 => ?_
                have hS176 := St.extend hS69 he173
                obtain ⟨S177, hS178, hf179⟩ := hphi175 7 46 _ rfl rfl rfl
                have e180 : f171 46 = u23 := hf179
                obtain ⟨S181, hS182, hf183⟩ := hphi175 8 47 _ rfl rfl rfl
                obtain ⟨e184, hr185⟩ := hf183
                exact OpX.val (Value.pointer (some (elA u23 ((k50 : Int)).toNat))) wd172 rfl (op_idx sl_50 (St.rep (t := (Ty.sl (Ty.i .i64))) hS176 1 rfl) e180 e184 ha74 hb75) (Ext.refl _) rfl
              · refine ObX.op rfl fun f186 wd187 he188 hout189 hphi190 => ?_
                obtain ⟨S192, hS193, hf194⟩ := hphi190 9 48 _ rfl rfl rfl
                have e195 : f186 48 = (Value.pointer (some (elA u23 ((k50 : Int)).toNat))) := hf194
                exact OpX.val (Value.int .i64 x73) wd187 rfl (op_load one_3 e195 (Ext.cell he188 hc197)) (Ext.refl _) ⟨rfl, hr198⟩
              · refine ObX.op rfl fun f199 wd200 he201 hout202 hphi203 => ?_
                have hS204 := St.extend hS69 he201
                obtain ⟨S205, hS206, hf207⟩ := hphi203 6 45 _ rfl rfl rfl
                have e208 : f199 45 = u60 := hf207
                obtain ⟨S209, hS210, hf211⟩ := hphi203 10 49 _ rfl rfl rfl
                obtain ⟨e212, hr213⟩ := hf211
                exact OpX.val (Value.pointer (some (elA u60 (x73).toNat))) wd200 rfl (op_idx sl_22 (St.rep (t := (Ty.sl (Ty.i .i64))) hS204 2 rfl) e208 e212 ha81 hb82) (Ext.refl _) rfl
              · refine ObX.op rfl fun f214 wd215 he216 hout217 hphi218 => ?_
                obtain ⟨S220, hS221, hf222⟩ := hphi218 11 50 _ rfl rfl rfl
                have e223 : f214 50 = (Value.pointer (some (elA u60 (x73).toNat))) := hf222
                exact OpX.val (Value.int .i64 x80) wd215 rfl (op_load one_2 e223 (Ext.cell he216 hc225)) (Ext.refl _) ⟨rfl, hr226⟩
              · intro f227 wd228 Ss229 he230 hout231 hSn232 hSd233 hphi234
                show WL _ _ _ _ _ _ _
                have hS235 := St.extend hS69 he230
                obtain ⟨e236, hr237⟩ := hphi234 0 39 _ (by decide) rfl rfl
                have e238 : f227 40 = u60 := hphi234 1 40 _ (by decide) rfl rfl
                have e239 : f227 44 = u147 := hphi234 5 44 _ (by decide) rfl rfl
                obtain ⟨e240, hr241⟩ := hphi234 12 51 _ (by decide) rfl rfl
                have e242 : f227 0 = (Value.int .i64 p) := (hout231 0 rfl).trans hf61
                have e243 : f227 1 = v_lists := (hout231 1 rfl).trans hf62
                have e244 : f227 5 = u22 := (hout231 5 rfl).trans hf63
                have e245 : f227 6 = u23 := (hout231 6 rfl).trans hf64
                have e246 : f227 7 = (Value.int .i64 (k11 : Int)) := (hout231 7 rfl).trans hf65
                have e247 : f227 9 = (Value.int .i64 (k50 : Int)) := (hout231 9 rfl).trans hf67
                obtain ⟨x248, hx249, hj88⟩ := bs hj88
                refine WL.call _ (op_call fn_32 (args4 e236 e238 e239 e240)) (c_spec_l17Less hr237 (St.rep (t := (Ty.sl (Ty.i .i64))) hS235 2 rfl) (Ty.lift _ he230 hr149) hr241 hx249) rfl ?_
                rintro u250 wd251 ⟨_, rfl, he252, hs253⟩
                have hS254 := St.join hS235 he252 hs253
                replace hS254 : St w wd251 [(Ty.sl (Ty.sl (Ty.i .i64))).at u22 x12, (Ty.sl (Ty.i .i64)).at u23 x13, (Ty.sl (Ty.i .i64)).at u60 x51, (Ty.sl (Ty.i .i64)).at u250 x248] := hS254
                refine WL.val u250 _ (op_assign rfl) rfl ?_
                refine WL.nil ?_
                obtain rfl := Option.some.inj hj88
                exact ⟨u250, e242, e243, e244, e245, e246, rfl, e247, (St.pick hS254 [0, 1, 3] rfl)⟩
            · replace hj88 := inegb hj88 hc89
              refine W.skip ?_
              obtain rfl := Option.some.inj hj88
              exact ⟨u60, hf61, hf62, hf63, hf64, hf65, hf66, hf67, hS69⟩
          · intro f255 wd256 hq257
            obtain ⟨u258, hf259, hf260, hf261, hf262, hf263, hf264, hf265, hS266⟩ := hq257
            show W _ _ _ _ _ _
            refine W.region ?_
            refine WL.val (Value.int .i64 (k50 : Int)) _ (op_move hf265) rfl ?_
            refine WL.val (Value.int .i64 (w64 ((k50 : Int) + (1 : Int)))) _ (op_add rfl rfl) rfl ?_
            refine WL.val (Value.int .i64 (w64 ((k50 : Int) + (1 : Int)))) _ (op_assign rfl) rfl ?_
            refine WL.nil ?_
            obtain rfl := Option.some.inj hb56
            show ∃ s, _ = Ctl.next s ∧ _
            exact ⟨_, rfl, u258, hf259, hf260, hf261, hf262, hf263, hf264, (ctr_next hl71 hr70), (ctr_rng hl71 hr70), hS266⟩
        · intro x273 f268 wd269 hs270 hI271
          replace hI271 : ∃ (uu0 : Value), f268 0 = (Value.int .i64 p) ∧ f268 1 = v_lists ∧ f268 5 = u22 ∧ f268 6 = u23 ∧ f268 7 = (Value.int .i64 (k11 : Int)) ∧ f268 8 = uu0 ∧ f268 9 = Value.int .i64 (((x12).length : Nat) : Int) ∧ InR .i64 (((x12).length : Nat) : Int) ∧ St w wd269 [(Ty.sl (Ty.sl (Ty.i .i64))).at u22 x12, (Ty.sl (Ty.i .i64)).at u23 x13, (Ty.sl (Ty.i .i64)).at uu0 x273] := hI271
          obtain ⟨u274, hf275, hf276, hf277, hf278, hf279, hf280, hf281, hr282, hS283⟩ := hI271
          refine W.seq (W.seq (W.region ?_))
          refine WL.val (Value.int .i64 (((x12).length : Nat) : Int)) _ (op_move hf281) rfl ?_
          refine WL.val u22 _ (op_move hf277) rfl ?_
          have hr284 := inR_len (St.rep (t := (Ty.sl (Ty.sl (Ty.i .i64)))) hS283 0 rfl)
          refine WL.val (Value.int .i64 ((x12).length : Int)) _ (op_lenL sl_37 (St.rep (t := (Ty.sl (Ty.sl (Ty.i .i64)))) hS283 0 rfl) rfl) rfl ?_
          refine WL.val (Value.bool (decide ((((x12).length : Nat) : Int) < ((x12).length : Int)))) _ (op_lss rfl rfl) rfl ?_
          have hl285 : ¬ (((x12).length : Nat) : Int) < ((x12).length : Int) := by omega
          refine WL.nil ?_
          refine W.condF (decide ((((x12).length : Nat) : Int) < ((x12).length : Int))) rfl (decide_eq_false hl285) ?_
          refine W.exit ?_
          show _ = _ ∧ _
          exact ⟨rfl, _, hs270, u274, hf275, hf276, hf277, hf278, hf279, hf280, hS283⟩
      · rintro f286 wd287 ⟨x290, rfl, hq288⟩
        replace hb18 := onRes_fin hb18
        replace hq288 : ∃ (uu0 : Value), f286 0 = (Value.int .i64 p) ∧ f286 1 = v_lists ∧ f286 5 = u22 ∧ f286 6 = u23 ∧ f286 7 = (Value.int .i64 (k11 : Int)) ∧ f286 8 = uu0 ∧ St w wd287 [(Ty.sl (Ty.sl (Ty.i .i64))).at u22 x12, (Ty.sl (Ty.i .i64)).at u23 x13, (Ty.sl (Ty.i .i64)).at uu0 x290] := hq288
        obtain ⟨u291, hf292, hf293, hf294, hf295, hf296, hf297, hS298⟩ := hq288
        refine W.seq (W.region ?_)
        refine WL.val (Value.int .i64 (0 : Int)) _ (op_assign rfl) rfl ?_
        refine WL.nil ?_
        refine W.seq ?_
        obtain ⟨res299, hres300, hb18⟩ := bs hb18
        refine W.blockLoop (fun fq wq => ∃ s, res299 = Res.fin s ∧ fq 0 = (Value.int .i64 p) ∧ fq 1 = v_lists ∧ fq 5 = u22 ∧ fq 6 = u23 ∧ fq 7 = (Value.int .i64 (k11 : Int)) ∧ fq 8 = u291 ∧ fq 10 = Value.int .i64 s ∧ InR .i64 s ∧ St w wq [(Ty.sl (Ty.sl (Ty.i .i64))).at u22 x12, (Ty.sl (Ty.i .i64)).at u23 x13, (Ty.sl (Ty.i .i64)).at u291 x290]) ?_ ?_
        · refine W.whileC (fun (s : Int) fq wq => fq 0 = (Value.int .i64 p) ∧ fq 1 = v_lists ∧ fq 5 = u22 ∧ fq 6 = u23 ∧ fq 7 = (Value.int .i64 (k11 : Int)) ∧ fq 8 = u291 ∧ fq 10 = Value.int .i64 s ∧ InR .i64 s ∧ St w wq [(Ty.sl (Ty.sl (Ty.i .i64))).at u22 x12, (Ty.sl (Ty.i .i64)).at u23 x13, (Ty.sl (Ty.i .i64)).at u291 x290]) hres300 ⟨hf292, hf293, hf294, hf295, hf296, hf297, rfl, (inL rfl), hS298⟩ ?_
          intro x302 ct303 f304 wd305 hb307 hI308 hbrk309 hret310
          replace hI308 : f304 0 = (Value.int .i64 p) ∧ f304 1 = v_lists ∧ f304 5 = u22 ∧ f304 6 = u23 ∧ f304 7 = (Value.int .i64 (k11 : Int)) ∧ f304 8 = u291 ∧ f304 10 = Value.int .i64 x302 ∧ InR .i64 x302 ∧ St w wd305 [(Ty.sl (Ty.sl (Ty.i .i64))).at u22 x12, (Ty.sl (Ty.i .i64)).at u23 x13, (Ty.sl (Ty.i .i64)).at u291 x290] := hI308
          replace hb307 : p_spec_l17Rank_L3 x290  x302 = some ct303 := hb307
          unfold p_spec_l17Rank_L3 at hb307
          obtain ⟨hf311, hf312, hf313, hf314, hf315, hf316, hf317, hr318, hS319⟩ := hI308
          refine W.seq (W.seq (W.region ?_))
          refine WL.val (Value.int .i64 x302) _ (op_move hf317) rfl ?_
          refine WL.val u291 _ (op_move hf316) rfl ?_
          have hr320 := inR_len (St.rep (t := (Ty.sl (Ty.i .i64))) hS319 2 rfl)
          refine WL.val (Value.int .i64 ((x290).length : Int)) _ (op_lenL sl_22 (St.rep (t := (Ty.sl (Ty.i .i64))) hS319 2 rfl) rfl) rfl ?_
          refine WL.val (Value.bool (decide (x302 < ((x290).length : Int)))) _ (op_lss rfl rfl) rfl ?_
          refine WL.val (Value.bool (decide (x302 < ((x290).length : Int)))) _ (op_move rfl) rfl ?_
          obtain ⟨x322, hj323, hb307⟩ := bs hb307
          refine WL.cut 6 (fun fq wq => fq 0 = (Value.int .i64 p) ∧ fq 1 = v_lists ∧ fq 5 = u22 ∧ fq 6 = u23 ∧ fq 7 = (Value.int .i64 (k11 : Int)) ∧ fq 8 = u291 ∧ fq 10 = (Value.int .i64 x302) ∧ fq 63 = Value.bool x322 ∧ St w wq [(Ty.sl (Ty.sl (Ty.i .i64))).at u22 x12, (Ty.sl (Ty.i .i64)).at u23 x13, (Ty.sl (Ty.i .i64)).at u291 x290]) ?_ ?_
          · rcases Bool.eq_false_or_eq_true (decide (x302 < ((x290).length : Int))) with hc321 | hc321
            · replace hj323 := ip hj323 hc321
              refine WL.grun rfl (bool_of rfl hc321) ?_
              refine WL.val u291 _ (op_move hf316) rfl ?_
              refine WL.grun rfl (bool_of rfl hc321) ?_
              refine WL.val (Value.int .i64 x302) _ (op_move hf317) rfl ?_
              refine WL.grun rfl (bool_of rfl hc321) ?_
              obtain ⟨x327, hx330, hj323⟩ := bs hj323
              obtain ⟨ha328, hb329, hx330⟩ := idx_some hx330
              refine WL.val (Value.pointer (some (elA u291 (x302).toNat))) _ (op_idx sl_22 (St.rep (t := (Ty.sl (Ty.i .i64))) hS319 2 rfl) rfl rfl ha328 hb329) rfl ?_
              refine WL.grun rfl (bool_of rfl hc321) ?_
              obtain ⟨u331, hc332, hr333⟩ := repSl.el (St.rep (t := (Ty.sl (Ty.i .i64))) hS319 2 rfl) hx330
              obtain ⟨rfl, hr333⟩ := hr333
              refine WL.val (Value.int .i64 x327) _ (op_load one_2 rfl hc332) rfl ?_
              refine WL.grun rfl (bool_of rfl hc321) ?_
              refine WL.val (Value.bool (x327 == (0 : Int))) _ (op_eql rfl rfl) rfl ?_
              refine WL.val (Value.bool (x327 == (0 : Int))) _ (op_pick_t (evb_of rfl hc321) rfl) rfl ?_
              refine WL.nil ?_
              obtain rfl := Option.some.inj hj323
              exact ⟨rfl, hf311, hf312, hf313, hf314, hf315, hf316, hf317, rfl, hS319⟩
            · replace hj323 := inegb hj323 hc321
              refine WL.gskip rfl (bool_of rfl hc321) rfl ?_
              refine WL.gskip rfl (bool_of rfl hc321) rfl ?_
              refine WL.gskip rfl (bool_of rfl hc321) rfl ?_
              refine WL.gskip rfl (bool_of rfl hc321) rfl ?_
              refine WL.gskip rfl (bool_of rfl hc321) rfl ?_
              refine WL.val (Value.bool false) _ (op_pick_f (evb_of rfl hc321) rfl) rfl ?_
              refine WL.nil ?_
              obtain rfl := Option.some.inj hj323
              exact ⟨rfl, hf311, hf312, hf313, hf314, hf315, hf316, hf317, rfl, hS319⟩
          · intro f324 wd325 hq326
            obtain ⟨hf334, hf335, hf336, hf337, hf338, hf339, hf340, hf341, hS342⟩ := hq326
            refine WL.nil ?_
            refine W.cond x322 hf341 (fun hc343 => ?_) (fun hc343 => ?_)
            · replace hb307 := ip hb307 hc343
              refine W.skip ?_
              show W _ _ _ _ _ _
              refine W.block ?_
              refine W.region ?_
              refine WL.val (Value.int .i64 x302) _ (op_move hf340) rfl ?_
              refine WL.val (Value.int .i64 (w64 (x302 + (1 : Int)))) _ (op_add rfl rfl) rfl ?_
              refine WL.val (Value.int .i64 (w64 (x302 + (1 : Int)))) _ (op_assign rfl) rfl ?_
              refine WL.nil ?_
              obtain rfl := Option.some.inj hb307
              show ∃ s, _ = Ctl.next s ∧ _
              exact ⟨_, rfl, hf334, hf335, hf336, hf337, hf338, hf339, rfl, (inR_wrap _ _), hS342⟩
            · replace hb307 := inegb hb307 hc343
              refine W.exit ?_
              obtain rfl := Option.some.inj hb307
              show _ = _ ∧ _
              exact ⟨rfl, _, hbrk309 _ rfl, hf334, hf335, hf336, hf337, hf338, hf339, hf340, hr318, hS342⟩
        · rintro f346 wd347 ⟨x350, rfl, hq348⟩
          replace hb18 := onRes_fin hb18
          replace hq348 : f346 0 = (Value.int .i64 p) ∧ f346 1 = v_lists ∧ f346 5 = u22 ∧ f346 6 = u23 ∧ f346 7 = (Value.int .i64 (k11 : Int)) ∧ f346 8 = u291 ∧ f346 10 = Value.int .i64 x350 ∧ InR .i64 x350 ∧ St w wd347 [(Ty.sl (Ty.sl (Ty.i .i64))).at u22 x12, (Ty.sl (Ty.i .i64)).at u23 x13, (Ty.sl (Ty.i .i64)).at u291 x290] := hq348
          obtain ⟨hf351, hf352, hf353, hf354, hf355, hf356, hf357, hr358, hS359⟩ := hq348
          refine W.seq (W.seq (W.region ?_))
          refine WL.val (Value.int .i64 x350) _ (op_move hf357) rfl ?_
          refine WL.val u291 _ (op_move hf356) rfl ?_
          have hr360 := inR_len (St.rep (t := (Ty.sl (Ty.i .i64))) hS359 2 rfl)
          refine WL.val (Value.int .i64 ((x290).length : Int)) _ (op_lenL sl_22 (St.rep (t := (Ty.sl (Ty.i .i64))) hS359 2 rfl) rfl) rfl ?_
          refine WL.val (Value.bool (x350 == ((x290).length : Int))) _ (op_eql rfl rfl) rfl ?_
          refine WL.nil ?_
          refine W.cond (x350 == ((x290).length : Int)) rfl (fun hc361 => ?_) (fun hc361 => ?_)
          · replace hb18 := ip hb18 hc361
            refine W.exit ?_
            show W _ _ _ _ _ _
            refine W.region ?_
            refine WL.val (Value.int .i64 (k11 : Int)) _ (op_move hf355) rfl ?_
            refine WL.val (Value.int .i64 (w64 ((k11 : Int) + (1 : Int)))) _ (op_add rfl rfl) rfl ?_
            refine WL.val (Value.int .i64 (w64 ((k11 : Int) + (1 : Int)))) _ (op_assign rfl) rfl ?_
            refine WL.nil ?_
            obtain rfl := Option.some.inj hb18
            show ∃ s, _ = Ctl.next s ∧ _
            exact ⟨_, rfl, u22, u23, hf351, hf352, hf353, hf354, (ctr_next hl32 hr31), (ctr_rng hl32 hr31), (St.pick hS359 [0, 1] rfl)⟩
          · replace hb18 := inegb hb18 hc361
            refine W.skip ?_
            refine W.seq (W.region ?_)
            refine WL.val (Value.int .i64 (1 : Int)) _ (op_assign rfl) rfl ?_
            refine WL.nil ?_
            refine W.seq ?_
            obtain ⟨res363, hres364, hb18⟩ := bs hb18
            refine W.blockLoop (fun fq wq => ∃ s, res363 = Res.fin s ∧ fq 0 = (Value.int .i64 p) ∧ fq 1 = v_lists ∧ fq 5 = u22 ∧ fq 6 = u23 ∧ fq 7 = (Value.int .i64 (k11 : Int)) ∧ fq 8 = u291 ∧ fq 10 = (Value.int .i64 x350) ∧ fq 11 = Value.int .i64 s ∧ InR .i64 s ∧ St w wq [(Ty.sl (Ty.sl (Ty.i .i64))).at u22 x12, (Ty.sl (Ty.i .i64)).at u23 x13, (Ty.sl (Ty.i .i64)).at u291 x290]) ?_ ?_
            · refine W.whileC (fun (s : Int) fq wq => fq 0 = (Value.int .i64 p) ∧ fq 1 = v_lists ∧ fq 5 = u22 ∧ fq 6 = u23 ∧ fq 7 = (Value.int .i64 (k11 : Int)) ∧ fq 8 = u291 ∧ fq 10 = (Value.int .i64 x350) ∧ fq 11 = Value.int .i64 s ∧ InR .i64 s ∧ St w wq [(Ty.sl (Ty.sl (Ty.i .i64))).at u22 x12, (Ty.sl (Ty.i .i64)).at u23 x13, (Ty.sl (Ty.i .i64)).at u291 x290]) hres364 ⟨hf351, hf352, hf353, hf354, hf355, hf356, hf357, rfl, (inL rfl), hS359⟩ ?_
              intro x366 ct367 f368 wd369 hb371 hI372 hbrk373 hret374
              replace hI372 : f368 0 = (Value.int .i64 p) ∧ f368 1 = v_lists ∧ f368 5 = u22 ∧ f368 6 = u23 ∧ f368 7 = (Value.int .i64 (k11 : Int)) ∧ f368 8 = u291 ∧ f368 10 = (Value.int .i64 x350) ∧ f368 11 = Value.int .i64 x366 ∧ InR .i64 x366 ∧ St w wd369 [(Ty.sl (Ty.sl (Ty.i .i64))).at u22 x12, (Ty.sl (Ty.i .i64)).at u23 x13, (Ty.sl (Ty.i .i64)).at u291 x290] := hI372
              replace hb371 : p_spec_l17Rank_L4 x290 x350 p  x366 = some ct367 := hb371
              unfold p_spec_l17Rank_L4 at hb371
              obtain ⟨hf375, hf376, hf377, hf378, hf379, hf380, hf381, hf382, hr383, hS384⟩ := hI372
              refine W.seq (W.seq (W.region ?_))
              refine WL.val (Value.int .i64 x366) _ (op_move hf382) rfl ?_
              refine WL.val u291 _ (op_move hf380) rfl ?_
              refine WL.val (Value.int .i64 x350) _ (op_move hf381) rfl ?_
              obtain ⟨x385, hx388, hb371⟩ := bs hb371
              obtain ⟨ha386, hb387, hx388⟩ := idx_some hx388
              refine WL.val (Value.pointer (some (elA u291 (x350).toNat))) _ (op_idx sl_22 (St.rep (t := (Ty.sl (Ty.i .i64))) hS384 2 rfl) rfl rfl ha386 hb387) rfl ?_
              obtain ⟨u389, hc390, hr391⟩ := repSl.el (St.rep (t := (Ty.sl (Ty.i .i64))) hS384 2 rfl) hx388
              obtain ⟨rfl, hr391⟩ := hr391
              refine WL.val (Value.int .i64 x385) _ (op_load one_2 rfl hc390) rfl ?_
              refine WL.val (Value.int .i64 (w64 (x366 * x385))) _ (op_mul rfl rfl) rfl ?_
              refine WL.val (Value.int .i64 p) _ (op_move hf375) rfl ?_
              obtain ⟨x392, hz393, hb371⟩ := bs hb371
              obtain ⟨h0394, hz393⟩ := remI_some hz393
              have hr395 : InR .i64 x392 := by rw [hz393]; exact inR_tmod (inR_wrap _ _)
              refine WL.val (Value.int .i64 x392) _ (by rw [hz393]; exact op_rem rfl rfl h0394) rfl ?_
              refine WL.val (Value.bool (x392 != (1 : Int))) _ (op_neq rfl rfl) rfl ?_
              refine WL.nil ?_
              refine W.cond (x392 != (1 : Int)) rfl (fun hc396 => ?_) (fun hc396 => ?_)
              · replace hb371 := ip hb371 hc396
                refine W.skip ?_
                show W _ _ _ _ _ _
                refine W.block ?_
                refine W.region ?_
                refine WL.val (Value.int .i64 x366) _ (op_move hf382) rfl ?_
                refine WL.val (Value.int .i64 (w64 (x366 + (1 : Int)))) _ (op_add rfl rfl) rfl ?_
                refine WL.val (Value.int .i64 (w64 (x366 + (1 : Int)))) _ (op_assign rfl) rfl ?_
                refine WL.nil ?_
                obtain rfl := Option.some.inj hb371
                show ∃ s, _ = Ctl.next s ∧ _
                exact ⟨_, rfl, hf375, hf376, hf377, hf378, hf379, hf380, hf381, rfl, (inR_wrap _ _), hS384⟩
              · replace hb371 := inegb hb371 hc396
                refine W.exit ?_
                obtain rfl := Option.some.inj hb371
                show _ = _ ∧ _
                exact ⟨rfl, _, hbrk373 _ rfl, hf375, hf376, hf377, hf378, hf379, hf380, hf381, hf382, hr383, hS384⟩
            · rintro f399 wd400 ⟨x403, rfl, hq401⟩
              replace hb18 := onRes_fin hb18
              replace hq401 : f399 0 = (Value.int .i64 p) ∧ f399 1 = v_lists ∧ f399 5 = u22 ∧ f399 6 = u23 ∧ f399 7 = (Value.int .i64 (k11 : Int)) ∧ f399 8 = u291 ∧ f399 10 = (Value.int .i64 x350) ∧ f399 11 = Value.int .i64 x403 ∧ InR .i64 x403 ∧ St w wd400 [(Ty.sl (Ty.sl (Ty.i .i64))).at u22 x12, (Ty.sl (Ty.i .i64)).at u23 x13, (Ty.sl (Ty.i .i64)).at u291 x290] := hq401
              obtain ⟨hf404, hf405, hf406, hf407, hf408, hf409, hf410, hf411, hr412, hS413⟩ := hq401
              refine W.seq (W.region ?_)
              refine WL.val u22 _ (op_move hf406) rfl ?_
              refine WL.val (Value.int .i64 p) _ (op_move hf404) rfl ?_
              refine WL.val u291 _ (op_move hf409) rfl ?_
              have hr414 := inR_len (St.rep (t := (Ty.sl (Ty.i .i64))) hS413 2 rfl)
              refine WL.val (Value.int .i64 ((x290).length : Int)) _ (op_lenL sl_22 (St.rep (t := (Ty.sl (Ty.i .i64))) hS413 2 rfl) rfl) rfl ?_
              obtain ⟨x415, hx416, hb18⟩ := bs hb18
              refine WL.make (t := (Ty.i .i64)) hS413 sl_22 (fun _ _ => ⟨rfl, (inL rfl)⟩) rfl rfl hx416 rfl rfl ?_
              intro u417 wd418 hS419 he420
              replace hS419 : St w wd418 [(Ty.sl (Ty.sl (Ty.i .i64))).at u22 x12, (Ty.sl (Ty.i .i64)).at u23 x13, (Ty.sl (Ty.i .i64)).at u291 x290, (Ty.sl (Ty.i .i64)).at u417 x415] := hS419
              refine WL.val u291 _ (op_move hf409) rfl ?_
              refine WL.val (Value.int .i64 p) _ (op_move hf404) rfl ?_
              refine WL.val (Value.int .i64 x403) _ (op_move hf411) rfl ?_
              refine WL.val (Value.int .i64 (w64 (p - x403))) _ (op_sub rfl rfl) rfl ?_
              obtain ⟨x421, hx422, hb18⟩ := bs hb18
              refine WL.call _ (op_call fn_32 (args4 rfl rfl rfl rfl)) (c_spec_l17Less r_p (St.rep (t := (Ty.sl (Ty.i .i64))) hS419 3 rfl) (St.rep (t := (Ty.sl (Ty.i .i64))) hS419 2 rfl) (inR_wrap _ _) hx422) rfl ?_
              rintro u423 wd424 ⟨_, rfl, he425, hs426⟩
              have hS427 := St.join hS419 he425 hs426
              replace hS427 : St w wd424 [(Ty.sl (Ty.sl (Ty.i .i64))).at u22 x12, (Ty.sl (Ty.i .i64)).at u23 x13, (Ty.sl (Ty.i .i64)).at u291 x290, (Ty.sl (Ty.i .i64)).at u417 x415, (Ty.sl (Ty.i .i64)).at u423 x421] := hS427
              refine WL.lit [u423] hS427 sl_37 rfl rfl (fillL rfl ⟨rfl, rfl, (cells_rep (St.rep (t := (Ty.sl (Ty.i .i64))) hS427 4 rfl)), trivial⟩) rfl rfl ?_
              intro b432 wd429 hS430 he431 hx433
              replace hS430 : St w wd429 [(Ty.sl (Ty.sl (Ty.i .i64))).at u22 x12, (Ty.sl (Ty.i .i64)).at u23 x13, (Ty.sl (Ty.i .i64)).at u291 x290, (Ty.sl (Ty.i .i64)).at u417 x415, (Ty.sl (Ty.i .i64)).at u423 x421, bx b432 [u423]] := hS430
              obtain ⟨x434, hx435, hb18⟩ := bs hb18
              refine WL.appendRow hS430 (k := 0) (k2 := 4) (k3 := 5) rfl rfl rfl rfl sl_37 rfl rfl rfl rfl hx435 rfl ?_
              intro u436 wd437 hS438 hz439
              replace hS438 : St w wd437 [(Ty.sl (Ty.sl (Ty.i .i64))).at u436 x434, (Ty.sl (Ty.i .i64)).at u23 x13, (Ty.sl (Ty.i .i64)).at u291 x290, (Ty.sl (Ty.i .i64)).at u417 x415, emp, bx b432 [u423]] := hS438
              refine WL.val u436 _ (op_assign rfl) rfl ?_
              refine WL.nil ?_
              show W _ _ _ _ _ _
              refine W.region ?_
              refine WL.val u23 _ (op_move hf407) rfl ?_
              refine WL.val (Value.int .i64 x350) _ (op_move hf410) rfl ?_
              refine WL.litFlat (t := (Ty.i .i64)) (flat_i .i64) [(Value.int .i64 x350)] [x350] hS438 sl_50 rfl rfl (fillL rfl ⟨rfl, rfl, rfl, trivial⟩) rfl rfl (litL ⟨⟨rfl, hr358⟩, trivial⟩) rfl ?_
              intro u440 wd441 hS442 he443
              replace hS442 : St w wd441 [(Ty.sl (Ty.sl (Ty.i .i64))).at u436 x434, (Ty.sl (Ty.i .i64)).at u23 x13, (Ty.sl (Ty.i .i64)).at u291 x290, (Ty.sl (Ty.i .i64)).at u417 x415, emp, bx b432 [u423], (Ty.sl (Ty.i .i64)).at u440 ([x350] : (List Int))] := hS442
              obtain ⟨x444, hx445, hb18⟩ := bs hb18
              refine WL.append (flat_i .i64) hS442 (k := 1) rfl sl_50 rfl rfl rfl rfl (St.rep (t := (Ty.sl (Ty.i .i64))) hS442 6 rfl) hx445 rfl ?_
              intro u446 wd447 hS448 hz449
              replace hS448 : St w wd447 [(Ty.sl (Ty.sl (Ty.i .i64))).at u436 x434, (Ty.sl (Ty.i .i64)).at u446 x444, (Ty.sl (Ty.i .i64)).at u291 x290, (Ty.sl (Ty.i .i64)).at u417 x415, emp, bx b432 [u423], (Ty.sl (Ty.i .i64)).at u440 ([x350] : (List Int))] := hS448
              refine WL.val u446 _ (op_assign rfl) rfl ?_
              refine WL.nil ?_
              show W _ _ _ _ _ _
              refine W.region ?_
              refine WL.val (Value.int .i64 (k11 : Int)) _ (op_move hf408) rfl ?_
              refine WL.val (Value.int .i64 (w64 ((k11 : Int) + (1 : Int)))) _ (op_add rfl rfl) rfl ?_
              refine WL.val (Value.int .i64 (w64 ((k11 : Int) + (1 : Int)))) _ (op_assign rfl) rfl ?_
              refine WL.nil ?_
              obtain rfl := Option.some.inj hb18
              show ∃ s, _ = Ctl.next s ∧ _
              exact ⟨_, rfl, u436, u446, hf404, hf405, rfl, rfl, (ctr_next hl32 hr31), (ctr_rng hl32 hr31), (St.pick hS448 [0, 1] rfl)⟩
    · intro s458 f454 wd455 hs456 hI457
      obtain ⟨x459, x460⟩ := s458
      replace hI457 : ∃ (uu0 : Value) (uu1 : Value), f454 0 = (Value.int .i64 p) ∧ f454 1 = v_lists ∧ f454 5 = uu0 ∧ f454 6 = uu1 ∧ f454 7 = Value.int .i64 (((lists).length : Nat) : Int) ∧ InR .i64 (((lists).length : Nat) : Int) ∧ St w wd455 [(Ty.sl (Ty.sl (Ty.i .i64))).at uu0 x459, (Ty.sl (Ty.i .i64)).at uu1 x460] := hI457
      obtain ⟨u461, u462, hf463, hf464, hf465, hf466, hf467, hr468, hS469⟩ := hI457
      refine W.seq (W.seq (W.region ?_))
      refine WL.val (Value.int .i64 (((lists).length : Nat) : Int)) _ (op_move hf467) rfl ?_
      refine WL.val v_lists _ (op_move hf464) rfl ?_
      have hr470 := inR_len (Ty.lift _ hS469.ext r_lists)
      refine WL.val (Value.int .i64 ((lists).length : Int)) _ (op_lenL sl_37 (Ty.lift _ hS469.ext r_lists) rfl) rfl ?_
      refine WL.val (Value.bool (decide ((((lists).length : Nat) : Int) < ((lists).length : Int)))) _ (op_lss rfl rfl) rfl ?_
      have hl471 : ¬ (((lists).length : Nat) : Int) < ((lists).length : Int) := by omega
      refine WL.nil ?_
      refine W.condF (decide ((((lists).length : Nat) : Int) < ((lists).length : Int))) rfl (decide_eq_false hl471) ?_
      refine W.exit ?_
      show _ = _ ∧ _
      exact ⟨rfl, _, hs456, u461, hf465, (St.pick hS469 [0] rfl)⟩
  · rintro f472 wd473 ⟨s475, rfl, hq474⟩
    replace h := onRes_fin h
    obtain ⟨x476, x477⟩ := s475
    replace hq474 : ∃ (uu0 : Value), f472 5 = uu0 ∧ St w wd473 [(Ty.sl (Ty.sl (Ty.i .i64))).at uu0 x476] := hq474
    replace h : (_ : Option _) = _ := h
    dsimp only at h
    obtain ⟨u478, hf479, hS480⟩ := hq474
    refine W.seq (W.region ?_)
    refine WL.val u478 _ (op_move hf479) rfl ?_
    have hr481 := inR_len (St.rep (t := (Ty.sl (Ty.sl (Ty.i .i64)))) hS480 0 rfl)
    refine WL.val (Value.int .i64 ((x476).length : Int)) _ (op_lenL sl_37 (St.rep (t := (Ty.sl (Ty.sl (Ty.i .i64)))) hS480 0 rfl) rfl) rfl ?_
    refine WL.val (Value.int .i64 ((x476).length : Int)) _ (op_assign rfl) rfl ?_
    refine WL.nil ?_
    refine W.ret ?_
    obtain rfl := Option.some.inj h
    show FinP _ _ _ _ _ _ _
    exact FinP.ret _ (res1 rfl rfl) ⟨rfl, hr481, hS480.ext⟩

theorem c_spec_IsCoboundary {w : World} {c_Orders : (List Int)} {v_c_Orders : Value} {c_Modulus : Int} {c_Values : (List (List (List Int)))} {v_c_Values : Value} (r_c_Orders : (Ty.sl (Ty.i .i64)).rep w v_c_Orders c_Orders) (r_c_Modulus : InR .i64 c_Modulus) (r_c_Values : (Ty.sl (Ty.sl (Ty.sl (Ty.i .i64)))).rep w v_c_Values c_Values) {res : Bool × Int} (h : p_spec_IsCoboundary c_Orders c_Modulus c_Values  = some res) :
    Ret Try.prog 5 #[(Value.agg #[v_c_Orders, (Value.int .i64 c_Modulus), v_c_Values])] w (fun v w' => v = (Value.tuple #[Value.bool res.1, Value.int .i64 res.2]) ∧ InR .i64 res.2 ∧ Ext w w') := by
  unfold p_spec_IsCoboundary at h
  have hS0 : St w w [] := St.start w
  refine Ret.start (fn := Try.f5) Try.func5 rfl 36 rfl rfl ?_
  refine W.seq (W.region ?_)
  refine WL.box hS0 rfl (cs := [v_c_Orders, (Value.int .i64 c_Modulus), v_c_Values]) rfl rfl ?_
  intro b1 wd2 hS3 he4 hx5
  replace hS3 : St w wd2 [bx b1 [v_c_Orders, (Value.int .i64 c_Modulus), v_c_Values]] := hS3
  have hx6 := St.boxAt hS3 0 rfl
  have hE7 : Ext w wd2 := hS3.ext
  have hS8 : St wd2 wd2 [] := St.start wd2
  refine WL.val (Value.bool false) _ (op_assign rfl) rfl ?_
  refine WL.val (Value.int .i64 (0 : Int)) _ (op_assign rfl) rfl ?_
  refine WL.nil ?_
  refine W.seq ?_
  refine W.block ?_
  refine W.seq (W.region ?_)
  refine WL.val (Value.agg #[v_c_Orders, (Value.int .i64 c_Modulus), v_c_Values]) _ (op_loadBox st_29 rfl (BoxAt.lift hS8.ext hx6) rfl rfl) rfl ?_
  obtain ⟨x9, hx10, h⟩ := bs h
  refine WL.call _ (op_call fn_11 (args1 rfl)) (c_spec_l17Is (Ty.lift _ (Ext.trans hE7 hS8.ext) r_c_Orders) r_c_Modulus (Ty.lift _ (Ext.trans hE7 hS8.ext) r_c_Values) hx10) rfl ?_
  rintro _ wd11 ⟨rfl, he12⟩
  have hS14 := St.extend hS8 he12
  replace hS14 : St wd2 wd11 [] := hS14
  refine WL.val (Value.bool (!x9)) _ (op_not rfl) rfl ?_
  refine WL.val (Value.bool (!x9)) _ (op_assign rfl) rfl ?_
  refine WL.nil ?_
  refine W.cond (!x9) rfl (fun hc15 => ?_) (fun hc15 => ?_)
  · replace h := ip h hc15
    refine W.seq (W.region ?_)
    refine WL.val (Value.bool false) _ (op_assign rfl) rfl ?_
    refine WL.val (Value.int .i64 (1 : Int)) _ (op_assign rfl) rfl ?_
    refine WL.nil ?_
    refine W.ret ?_
    obtain rfl := Option.some.inj h
    show FinP _ _ _ _ _ _ _
    exact FinP.ret _ (res2 rfl rfl rfl) ⟨rfl, (inL rfl), (Ext.trans hE7 hS14.ext)⟩
  · replace h := inegb h hc15
    refine W.seq (W.region ?_)
    refine WL.val (Value.pointer (some ⟨b1, 1, none⟩)) _ (op_fieldAddr fd_29_1 rfl) rfl ?_
    refine WL.val (Value.int .i64 c_Modulus) _ (op_load one_2 rfl (BoxAt.cell (BoxAt.lift hS14.ext hx6) rfl)) rfl ?_
    obtain ⟨x17, hx18, h⟩ := bs h
    refine WL.call _ (op_call fn_12 (args1 rfl)) (c_spec_l17Prime r_c_Modulus hx18) rfl ?_
    rintro _ wd19 ⟨rfl, he20⟩
    have hS22 := St.extend hS14 he20
    replace hS22 : St wd2 wd19 [] := hS22
    refine WL.val (Value.bool (!x17)) _ (op_not rfl) rfl ?_
    refine WL.val (Value.bool (!x17)) _ (op_assign rfl) rfl ?_
    refine WL.nil ?_
    refine W.cond (!x17) rfl (fun hc23 => ?_) (fun hc23 => ?_)
    · replace h := ip h hc23
      refine W.seq (W.region ?_)
      refine WL.val (Value.bool false) _ (op_assign rfl) rfl ?_
      refine WL.val (Value.int .i64 (5 : Int)) _ (op_assign rfl) rfl ?_
      refine WL.nil ?_
      refine W.ret ?_
      obtain rfl := Option.some.inj h
      show FinP _ _ _ _ _ _ _
      exact FinP.ret _ (res2 rfl rfl rfl) ⟨rfl, (inL rfl), (Ext.trans hE7 hS22.ext)⟩
    · replace h := inegb h hc23
      refine W.skip ?_
      refine W.seq (W.region ?_)
      refine WL.val (Value.pointer (some ⟨b1, 0, none⟩)) _ (op_fieldAddr fd_29_0 rfl) rfl ?_
      refine WL.val v_c_Orders _ (op_load one_22 rfl (BoxAt.cell (BoxAt.lift hS22.ext hx6) rfl)) rfl ?_
      refine WL.val (Value.pointer (some ⟨b1, 1, none⟩)) _ (op_fieldAddr fd_29_1 rfl) rfl ?_
      refine WL.val (Value.int .i64 c_Modulus) _ (op_load one_2 rfl (BoxAt.cell (BoxAt.lift hS22.ext hx6) rfl)) rfl ?_
      obtain ⟨x25, hx26, h⟩ := bs h
      refine WL.call _ (op_call fn_13 (args2 rfl rfl)) (c_spec_l17Bounds (Ty.lift _ (Ext.trans hE7 hS22.ext) r_c_Orders) r_c_Modulus hx26) rfl ?_
      rintro u27 wd28 ⟨_, rfl, he29, hs30⟩
      have hS31 := St.join hS22 he29 hs30
      replace hS31 : St wd2 wd28 [(Ty.sl (Ty.sl (Ty.i .i64))).at u27 x25] := hS31
      refine WL.val u27 _ (op_assign rfl) rfl ?_
      refine WL.nil ?_
      refine W.seq ?_
      obtain ⟨us32, hl33, hS34⟩ := St.openMix (k := 0) hS31 rfl
      replace hS34 : St wd2 wd28 [(Ty.mix (Ty.sl (Ty.i .i64)) us32).at u27 x25] := hS34
      obtain ⟨x42, hx43, h⟩ := bs h
      obtain ⟨x48, hx49, h⟩ := bs h
      obtain ⟨x61, hx62, h⟩ := bs h
      refine W.cutCode (fun fq wq => ∃ (uu0 : Value), fq 1 = (Value.pointer (some ⟨b1, 0, none⟩)) ∧ fq 4 = u27 ∧ fq 5 = uu0 ∧ (Ty.sl (Ty.sl (Ty.i .i64))).rep wq uu0 x61 ∧ St wd2 wq [(Ty.mix (Ty.sl (Ty.i .i64)) us32).at u27 x25]) ?_ ?_
      · refine W.orders mixo ?_
        intro wd35 he36
        have hS37 := St.extend hS34 he36
        refine WA.take u27 (i := 1) rfl rfl rfl rfl (by kernel_rfl) (fun _ => (op_move rfl)) ?_
        refine WA.all [0, 3] (by kernel_rfl) rfl ⟨⟨_, rfl, ?_⟩, ⟨_, rfl, ?_⟩, trivial⟩
        · refine WL.lit0 (t := Ty.opq) hS37 sl_37 rfl rfl ?_
          intro u38 wd39 hS40 he41
          replace hS40 : St wd2 wd39 [(Ty.mix (Ty.sl (Ty.i .i64)) us32).at u27 x25, (Ty.sl Ty.opq).at u38 ([] : List Value)] := hS40
          refine WL.nil ?_
          show WA _ _ _ _ _ _ _ _
          refine WA.all [2, 3] (by kernel_rfl) rfl ⟨⟨_, rfl, ?_⟩, ⟨_, rfl, ?_⟩, trivial⟩
          · refine WL.append flat_o hS40 (k := 1) rfl sl_37 rfl rfl rfl rfl (mix_opq hl33 (St.rep (t := (Ty.mix (Ty.sl (Ty.i .i64)) us32)) hS40 0 rfl)).1 (appL_len (a := ([] : (List (List Int)))) (b := ([] : List Value)) rfl hl33 hx43) rfl ?_
            intro u44 wd45 hS46 hz47
            replace hS46 : St wd2 wd45 [(Ty.mix (Ty.sl (Ty.i .i64)) us32).at u27 x25, (Ty.sl Ty.opq).at u44 us32] := hS46
            refine WL.nil ?_
            show WA _ _ _ _ _ _ _ _
            refine WA.all [3] (by kernel_rfl) rfl ⟨⟨_, rfl, ?_⟩, trivial⟩
            · refine WL.val (Value.agg #[v_c_Orders, (Value.int .i64 c_Modulus), v_c_Values]) _ (op_loadBox st_29 rfl (BoxAt.lift hS46.ext hx6) rfl rfl) rfl ?_
              refine WL.nil ?_
              show WA _ _ _ _ _ _ _ _
              refine WA.all [4] (by kernel_rfl) rfl ⟨⟨_, rfl, ?_⟩, trivial⟩
              · refine WL.call _ (op_call fn_14 (args1 rfl)) (c_spec_l17Flat (Ty.lift _ (Ext.trans hE7 hS46.ext) r_c_Orders) r_c_Modulus (Ty.lift _ (Ext.trans hE7 hS46.ext) r_c_Values) hx49) rfl ?_
                rintro u50 wd51 ⟨_, rfl, he52, hs53⟩
                have hS54 := St.join hS46 he52 hs53
                replace hS54 : St wd2 wd51 [(Ty.mix (Ty.sl (Ty.i .i64)) us32).at u27 x25, (Ty.sl Ty.opq).at u44 us32, (Ty.sl (Ty.i .i64)).at u50 x48] := hS54
                refine WL.nil ?_
                show WA _ _ _ _ _ _ _ _
                refine WA.all [5] (by kernel_rfl) rfl ⟨⟨_, rfl, ?_⟩, trivial⟩
                · refine WL.lit [u50] hS54 sl_37 rfl rfl (fillL rfl ⟨rfl, rfl, (cells_rep (St.rep (t := (Ty.sl (Ty.i .i64))) hS54 2 rfl)), trivial⟩) rfl rfl ?_
                  intro b59 wd56 hS57 he58 hx60
                  replace hS57 : St wd2 wd56 [(Ty.mix (Ty.sl (Ty.i .i64)) us32).at u27 x25, (Ty.sl Ty.opq).at u44 us32, (Ty.sl (Ty.i .i64)).at u50 x48, bx b59 [u50]] := hS57
                  refine WL.nil ?_
                  show WA _ _ _ _ _ _ _ _
                  refine WA.all [6] (by kernel_rfl) rfl ⟨⟨_, rfl, ?_⟩, trivial⟩
                  · refine WL.append flat_o hS57 (k := 1) rfl sl_37 rfl rfl rfl rfl (rep_lit (t := Ty.opq) (us := [u50]) (xs := [u50]) (St.boxAt hS57 3 rfl) ⟨opq_row (t := (Ty.sl (Ty.i .i64))) (St.rep (t := (Ty.sl (Ty.i .i64))) hS57 2 rfl), trivial⟩ rfl) (appL_len (a := x42) (l := [x48]) (b := us32) (m := [u50]) (more_len hl33 hx43) rfl hx62) rfl ?_
                    intro u63 wd64 hS65 hz66
                    replace hS65 : St wd2 wd64 [(Ty.mix (Ty.sl (Ty.i .i64)) us32).at u27 x25, (Ty.sl Ty.opq).at u63 (us32 ++ [u50]), (Ty.sl (Ty.i .i64)).at u50 x48, bx b59 [u50]] := hS65
                    have hr67 : (Ty.sl (Ty.sl (Ty.i .i64))).rep wd64 u63 x61 := more_rep hl33 (St.rep (t := (Ty.mix (Ty.sl (Ty.i .i64)) us32)) hS65 0 rfl) (St.rep (t := Ty.sl Ty.opq) hS65 1 rfl) (St.rep (t := (Ty.sl (Ty.i .i64))) hS65 2 rfl) hx43 hx62
                    refine WL.nil ?_
                    show WA _ _ _ _ _ _ _ _
                    refine WA.take u63 (i := 7) rfl rfl rfl rfl (by kernel_rfl) (fun _ => (op_assign rfl)) ?_
                    refine WA.done (by kernel_rfl) ?_
                    exact ⟨u63, rfl, rfl, rfl, hr67, (St.pick hS65 [0] rfl)⟩
          · refine WL.val (Value.agg #[v_c_Orders, (Value.int .i64 c_Modulus), v_c_Values]) _ (op_loadBox st_29 rfl (BoxAt.lift hS40.ext hx6) rfl rfl) rfl ?_
            refine WL.nil ?_
            show WA _ _ _ _ _ _ _ _
            refine WA.all [2] (by kernel_rfl) rfl ⟨⟨_, rfl, ?_⟩, trivial⟩
            · refine WL.append flat_o hS40 (k := 1) rfl sl_37 rfl rfl rfl rfl (mix_opq hl33 (St.rep (t := (Ty.mix (Ty.sl (Ty.i .i64)) us32)) hS40 0 rfl)).1 (appL_len (a := ([] : (List (List Int)))) (b := ([] : List Value)) rfl hl33 hx43) rfl ?_
              intro u44 wd45 hS46 hz47
              replace hS46 : St wd2 wd45 [(Ty.mix (Ty.sl (Ty.i .i64)) us32).at u27 x25, (Ty.sl Ty.opq).at u44 us32] := hS46
              refine WL.nil ?_
              show WA _ _ _ _ _ _ _ _
              refine WA.all [4] (by kernel_rfl) rfl ⟨⟨_, rfl, ?_⟩, trivial⟩
              · refine WL.call _ (op_call fn_14 (args1 rfl)) (c_spec_l17Flat (Ty.lift _ (Ext.trans hE7 hS46.ext) r_c_Orders) r_c_Modulus (Ty.lift _ (Ext.trans hE7 hS46.ext) r_c_Values) hx49) rfl ?_
                rintro u50 wd51 ⟨_, rfl, he52, hs53⟩
                have hS54 := St.join hS46 he52 hs53
                replace hS54 : St wd2 wd51 [(Ty.mix (Ty.sl (Ty.i .i64)) us32).at u27 x25, (Ty.sl Ty.opq).at u44 us32, (Ty.sl (Ty.i .i64)).at u50 x48] := hS54
                refine WL.nil ?_
                show WA _ _ _ _ _ _ _ _
                refine WA.all [5] (by kernel_rfl) rfl ⟨⟨_, rfl, ?_⟩, trivial⟩
                · refine WL.lit [u50] hS54 sl_37 rfl rfl (fillL rfl ⟨rfl, rfl, (cells_rep (St.rep (t := (Ty.sl (Ty.i .i64))) hS54 2 rfl)), trivial⟩) rfl rfl ?_
                  intro b59 wd56 hS57 he58 hx60
                  replace hS57 : St wd2 wd56 [(Ty.mix (Ty.sl (Ty.i .i64)) us32).at u27 x25, (Ty.sl Ty.opq).at u44 us32, (Ty.sl (Ty.i .i64)).at u50 x48, bx b59 [u50]] := hS57
                  refine WL.nil ?_
                  show WA _ _ _ _ _ _ _ _
                  refine WA.all [6] (by kernel_rfl) rfl ⟨⟨_, rfl, ?_⟩, trivial⟩
                  · refine WL.append flat_o hS57 (k := 1) rfl sl_37 rfl rfl rfl rfl (rep_lit (t := Ty.opq) (us := [u50]) (xs := [u50]) (St.boxAt hS57 3 rfl) ⟨opq_row (t := (Ty.sl (Ty.i .i64))) (St.rep (t := (Ty.sl (Ty.i .i64))) hS57 2 rfl), trivial⟩ rfl) (appL_len (a := x42) (l := [x48]) (b := us32) (m := [u50]) (more_len hl33 hx43) rfl hx62) rfl ?_
                    intro u63 wd64 hS65 hz66
                    replace hS65 : St wd2 wd64 [(Ty.mix (Ty.sl (Ty.i .i64)) us32).at u27 x25, (Ty.sl Ty.opq).at u63 (us32 ++ [u50]), (Ty.sl (Ty.i .i64)).at u50 x48, bx b59 [u50]] := hS65
                    have hr67 : (Ty.sl (Ty.sl (Ty.i .i64))).rep wd64 u63 x61 := more_rep hl33 (St.rep (t := (Ty.mix (Ty.sl (Ty.i .i64)) us32)) hS65 0 rfl) (St.rep (t := Ty.sl Ty.opq) hS65 1 rfl) (St.rep (t := (Ty.sl (Ty.i .i64))) hS65 2 rfl) hx43 hx62
                    refine WL.nil ?_
                    show WA _ _ _ _ _ _ _ _
                    refine WA.take u63 (i := 7) rfl rfl rfl rfl (by kernel_rfl) (fun _ => (op_assign rfl)) ?_
                    refine WA.done (by kernel_rfl) ?_
                    exact ⟨u63, rfl, rfl, rfl, hr67, (St.pick hS65 [0] rfl)⟩
        · refine WL.val (Value.agg #[v_c_Orders, (Value.int .i64 c_Modulus), v_c_Values]) _ (op_loadBox st_29 rfl (BoxAt.lift hS37.ext hx6) rfl rfl) rfl ?_
          refine WL.nil ?_
          show WA _ _ _ _ _ _ _ _
          refine WA.all [0] (by kernel_rfl) rfl ⟨⟨_, rfl, ?_⟩, trivial⟩
          · refine WL.lit0 (t := Ty.opq) hS37 sl_37 rfl rfl ?_
            intro u38 wd39 hS40 he41
            replace hS40 : St wd2 wd39 [(Ty.mix (Ty.sl (Ty.i .i64)) us32).at u27 x25, (Ty.sl Ty.opq).at u38 ([] : List Value)] := hS40
            refine WL.nil ?_
            show WA _ _ _ _ _ _ _ _
            refine WA.all [2] (by kernel_rfl) rfl ⟨⟨_, rfl, ?_⟩, trivial⟩
            · refine WL.append flat_o hS40 (k := 1) rfl sl_37 rfl rfl rfl rfl (mix_opq hl33 (St.rep (t := (Ty.mix (Ty.sl (Ty.i .i64)) us32)) hS40 0 rfl)).1 (appL_len (a := ([] : (List (List Int)))) (b := ([] : List Value)) rfl hl33 hx43) rfl ?_
              intro u44 wd45 hS46 hz47
              replace hS46 : St wd2 wd45 [(Ty.mix (Ty.sl (Ty.i .i64)) us32).at u27 x25, (Ty.sl Ty.opq).at u44 us32] := hS46
              refine WL.nil ?_
              show WA _ _ _ _ _ _ _ _
              refine WA.all [4] (by kernel_rfl) rfl ⟨⟨_, rfl, ?_⟩, trivial⟩
              · refine WL.call _ (op_call fn_14 (args1 rfl)) (c_spec_l17Flat (Ty.lift _ (Ext.trans hE7 hS46.ext) r_c_Orders) r_c_Modulus (Ty.lift _ (Ext.trans hE7 hS46.ext) r_c_Values) hx49) rfl ?_
                rintro u50 wd51 ⟨_, rfl, he52, hs53⟩
                have hS54 := St.join hS46 he52 hs53
                replace hS54 : St wd2 wd51 [(Ty.mix (Ty.sl (Ty.i .i64)) us32).at u27 x25, (Ty.sl Ty.opq).at u44 us32, (Ty.sl (Ty.i .i64)).at u50 x48] := hS54
                refine WL.nil ?_
                show WA _ _ _ _ _ _ _ _
                refine WA.all [5] (by kernel_rfl) rfl ⟨⟨_, rfl, ?_⟩, trivial⟩
                · refine WL.lit [u50] hS54 sl_37 rfl rfl (fillL rfl ⟨rfl, rfl, (cells_rep (St.rep (t := (Ty.sl (Ty.i .i64))) hS54 2 rfl)), trivial⟩) rfl rfl ?_
                  intro b59 wd56 hS57 he58 hx60
                  replace hS57 : St wd2 wd56 [(Ty.mix (Ty.sl (Ty.i .i64)) us32).at u27 x25, (Ty.sl Ty.opq).at u44 us32, (Ty.sl (Ty.i .i64)).at u50 x48, bx b59 [u50]] := hS57
                  refine WL.nil ?_
                  show WA _ _ _ _ _ _ _ _
                  refine WA.all [6] (by kernel_rfl) rfl ⟨⟨_, rfl, ?_⟩, trivial⟩
                  · refine WL.append flat_o hS57 (k := 1) rfl sl_37 rfl rfl rfl rfl (rep_lit (t := Ty.opq) (us := [u50]) (xs := [u50]) (St.boxAt hS57 3 rfl) ⟨opq_row (t := (Ty.sl (Ty.i .i64))) (St.rep (t := (Ty.sl (Ty.i .i64))) hS57 2 rfl), trivial⟩ rfl) (appL_len (a := x42) (l := [x48]) (b := us32) (m := [u50]) (more_len hl33 hx43) rfl hx62) rfl ?_
                    intro u63 wd64 hS65 hz66
                    replace hS65 : St wd2 wd64 [(Ty.mix (Ty.sl (Ty.i .i64)) us32).at u27 x25, (Ty.sl Ty.opq).at u63 (us32 ++ [u50]), (Ty.sl (Ty.i .i64)).at u50 x48, bx b59 [u50]] := hS65
                    have hr67 : (Ty.sl (Ty.sl (Ty.i .i64))).rep wd64 u63 x61 := more_rep hl33 (St.rep (t := (Ty.mix (Ty.sl (Ty.i .i64)) us32)) hS65 0 rfl) (St.rep (t := Ty.sl Ty.opq) hS65 1 rfl) (St.rep (t := (Ty.sl (Ty.i .i64))) hS65 2 rfl) hx43 hx62
                    refine WL.nil ?_
                    show WA _ _ _ _ _ _ _ _
                    refine WA.take u63 (i := 7) rfl rfl rfl rfl (by kernel_rfl) (fun _ => (op_assign rfl)) ?_
                    refine WA.done (by kernel_rfl) ?_
                    exact ⟨u63, rfl, rfl, rfl, hr67, (St.pick hS65 [0] rfl)⟩
      · intro f68 wd69 hq70
        obtain ⟨u71, hf72, hf73, hf74, hr75, hS76⟩ := hq70
        refine W.seq ?_
        obtain ⟨x116, hx117, h⟩ := bs h
        refine W.drawR mixo 7 [] [fun _ v _ _ => v = (Value.pointer (some ⟨b1, 1, none⟩)), fun _ v _ _ => v = (Value.int .i64 c_Modulus) ∧ InR .i64 c_Modulus, fun _ v _ _ => v = u27, fun _ v _ _ => v = (Value.int .i64 x116) ∧ InR .i64 x116, fun _ v _ _ => v = (Value.pointer (some ⟨b1, 1, none⟩)), fun _ v _ _ => v = (Value.int .i64 c_Modulus) ∧ InR .i64 c_Modulus, fun _ v _ _ => v = u71] (by kernel_rfl) (by kernel_rfl) ⟨pk, pk, pk, pk, pk, pk, pk, trivial⟩ ⟨?_, ?_, ?_, ?_, ?_, ?_, ?_, trivial⟩ ?_
        · refine ObX.op rfl fun f77 wd78 he79 hout80 hphi81 => ?_
          have e83 : f77 1 = (Value.pointer (some ⟨b1, 0, none⟩)) := (hout80 1 rfl).trans hf72
          exact OpX.val (Value.pointer (some ⟨b1, 1, none⟩)) wd78 rfl (op_fieldAddr fd_29_1 e83) (Ext.refl _) rfl
        · refine ObX.op rfl fun f84 wd85 he86 hout87 hphi88 => ?_
          have hS89 := St.extend hS76 he86
          obtain ⟨S90, hS91, hf92⟩ := hphi88 0 27 _ rfl rfl rfl
          have e93 : f84 27 = (Value.pointer (some ⟨b1, 1, none⟩)) := hf92
          exact OpX.val (Value.int .i64 c_Modulus) wd85 rfl (op_load one_2 e93 (BoxAt.cell (BoxAt.lift hS89.ext hx6) rfl)) (Ext.refl _) ⟨rfl, r_c_Modulus⟩
        · refine ObX.op rfl fun f94 wd95 he96 hout97 hphi98 => ?_
          have e100 : f94 4 = u27 := (hout97 4 rfl).trans hf73
          exact OpX.val u27 wd95 rfl (op_move e100) (Ext.refl _) rfl
        · refine ObX.op rfl fun f101 wd102 he103 hout104 hphi105 => ?_
          have hS106 := St.extend hS76 he103
          obtain ⟨S107, hS108, hf109⟩ := hphi105 1 28 _ rfl rfl rfl
          obtain ⟨e110, hr111⟩ := hf109
          obtain ⟨S112, hS113, hf114⟩ := hphi105 2 29 _ rfl rfl rfl
          have e115 : f101 29 = u27 := hf114
          refine OpX.call rfl (op_call fn_15 (args2 e110 e115)) (Ret.mono (c_spec_l17Rank hr111 (St.rep (t := (Ty.mix (Ty.sl (Ty.i .i64)) us32)) hS106 0 rfl).1 hx117) ?_)
          rintro _ wd119 ⟨rfl, hr118, he120⟩
          exact ⟨he120, _, noS _ _, ⟨rfl, hr118⟩⟩
        · refine ObX.op rfl fun f122 wd123 he124 hout125 hphi126 => ?_
          have e128 : f122 1 = (Value.pointer (some ⟨b1, 0, none⟩)) := (hout125 1 rfl).trans hf72
          exact OpX.val (Value.pointer (some ⟨b1, 1, none⟩)) wd123 rfl (op_fieldAddr fd_29_1 e128) (Ext.refl _) rfl
        · refine ObX.op rfl fun f129 wd130 he131 hout132 hphi133 => ?_
          have hS134 := St.extend hS76 he131
          obtain ⟨S135, hS136, hf137⟩ := hphi133 4 31 _ rfl rfl rfl
          have e138 : f129 31 = (Value.pointer (some ⟨b1, 1, none⟩)) := hf137
          exact OpX.val (Value.int .i64 c_Modulus) wd130 rfl (op_load one_2 e138 (BoxAt.cell (BoxAt.lift hS134.ext hx6) rfl)) (Ext.refl _) ⟨rfl, r_c_Modulus⟩
        · refine ObX.op rfl fun f139 wd140 he141 hout142 hphi143 => ?_
          have e145 : f139 5 = u71 := (hout142 5 rfl).trans hf74
          exact OpX.val u71 wd140 rfl (op_move e145) (Ext.refl _) rfl
        · intro f146 wd147 Ss148 he149 hout150 hSn151 hSd152 hphi153
          show WL _ _ _ _ _ _ _
          have hS154 := St.extend hS76 he149
          obtain ⟨e155, hr156⟩ := hphi153 3 30 _ (by decide) rfl rfl
          obtain ⟨e157, hr158⟩ := hphi153 5 32 _ (by decide) rfl rfl
          have e159 : f146 33 = u71 := hphi153 6 33 _ (by decide) rfl rfl
          obtain ⟨x160, hx161, h⟩ := bs h
          refine WL.call _ (op_call fn_15 (args2 e157 e159)) (c_spec_l17Rank hr158 (Ty.lift _ he149 hr75) hx161) rfl ?_
          rintro _ wd163 ⟨rfl, hr162, he164⟩
          have hS166 := St.extend hS154 he164
          replace hS166 : St wd2 wd163 [(Ty.mix (Ty.sl (Ty.i .i64)) us32).at u27 x25] := hS166
          refine WL.val (Value.bool (x116 == x160)) _ (op_eql e155 rfl) rfl ?_
          refine WL.val (Value.bool (x116 == x160)) _ (op_assign rfl) rfl ?_
          refine WL.val (Value.int .i64 (0 : Int)) _ (op_assign rfl) rfl ?_
          refine WL.nil ?_
          refine W.ret ?_
          obtain rfl := Option.some.inj h
          show FinP _ _ _ _ _ _ _
          exact FinP.ret _ (res2 rfl rfl rfl) ⟨rfl, (inL rfl), (Ext.trans hE7 hS166.ext)⟩

theorem c_impl_groupSize {w : World} {orders : (List Int)} {v_orders : Value} (r_orders : (Ty.sl (Ty.i .i64)).rep w v_orders orders) {res : Int} (h : p_impl_groupSize orders  = some res) :
    Ret Try.prog 37 #[v_orders] w (fun v w' => v = Value.int .i64 res ∧ InR .i64 res ∧ Ext w w') := by
  unfold p_impl_groupSize at h
  have hS0 : St w w [] := St.start w
  refine Ret.start (fn := Try.f37) Try.func37 rfl 24 rfl rfl ?_
  refine W.seq (W.region ?_)
  refine WL.val (Value.int .i64 (0 : Int)) _ (op_assign rfl) rfl ?_
  refine WL.nil ?_
  refine W.seq (W.region ?_)
  refine WL.val (Value.int .i64 (1 : Int)) _ (op_assign rfl) rfl ?_
  refine WL.nil ?_
  refine W.seq (W.seq (W.region ?_))
  refine WL.val v_orders _ (op_move rfl) rfl ?_
  have hr1 := inR_len (Ty.lift _ hS0.ext r_orders)
  refine WL.val (Value.int .i64 ((orders).length : Int)) _ (op_lenL sl_22 (Ty.lift _ hS0.ext r_orders) rfl) rfl ?_
  refine WL.val (Value.int .i64 (0 : Int)) _ (op_move rfl) rfl ?_
  refine WL.nil ?_
  show W _ _ _ _ _ _
  obtain ⟨res2, hres3, h⟩ := bs h
  refine W.blockLoop (fun fq wq => ∃ s, res2 = Res.fin s ∧ fq 0 = v_orders ∧ fq 3 = Value.int .i64 s ∧ InR .i64 s ∧ St w wq []) ?_ ?_
  · refine W.forN (fun k (s : Int) fq wq => fq 0 = v_orders ∧ fq 3 = Value.int .i64 s ∧ InR .i64 s ∧ fq 6 = v_orders ∧ fq 7 = (Value.int .i64 ((orders).length : Int)) ∧ fq 8 = Value.int .i64 (k : Int) ∧ InR .i64 (k : Int) ∧ St w wq []) hres3 ⟨rfl, rfl, (inL rfl), rfl, rfl, rfl, (inL rfl), hS0⟩ ?_ ?_
    · intro k4 x5 ct6 f7 wd8 hk9 hb10 hI11 hbrk12 hret13
      replace hI11 : f7 0 = v_orders ∧ f7 3 = Value.int .i64 x5 ∧ InR .i64 x5 ∧ f7 6 = v_orders ∧ f7 7 = (Value.int .i64 ((orders).length : Int)) ∧ f7 8 = Value.int .i64 (k4 : Int) ∧ InR .i64 (k4 : Int) ∧ St w wd8 [] := hI11
      replace hb10 : p_impl_groupSize_L1 orders k4 x5 = some ct6 := hb10
      unfold p_impl_groupSize_L1 at hb10
      obtain ⟨hf14, hf15, hr16, hf17, hf18, hf19, hr20, hS21⟩ := hI11
      refine W.seq (W.region ?_)
      refine WL.val (Value.bool (decide ((k4 : Int) < ((orders).length : Int)))) _ (op_lss hf19 hf18) rfl ?_
      have hl22 : (k4 : Int) < ((orders).length : Int) := by omega
      refine WL.nil ?_
      refine W.seq ?_
      refine W.condT (decide ((k4 : Int) < ((orders).length : Int))) rfl (decide_eq_true hl22) ?_
      refine W.skip ?_
      refine W.seq ?_
      refine W.block ?_
      refine W.seq (W.region ?_)
      obtain ⟨x24, hx27, hb10⟩ := bs hb10
      obtain ⟨ha25, hb26, hx27⟩ := idx_some hx27
      refine WL.val (Value.pointer (some (elA v_orders ((k4 : Int)).toNat))) _ (op_idx sl_22 (Ty.lift _ hS21.ext r_orders) hf17 hf19 ha25 hb26) rfl ?_
      obtain ⟨u28, hc29, hr30⟩ := repSl.el r_orders hx27
      obtain ⟨rfl, hr30⟩ := hr30
      refine WL.val (Value.int .i64 x24) _ (op_load one_2 rfl (Ext.cell hS21.ext hc29)) rfl ?_
      refine WL.val (Value.int .i64 x24) _ (op_assign rfl) rfl ?_
      refine WL.nil ?_
      refine W.seq (W.seq (W.region ?_))
      refine WL.val (Value.int .i64 x24) _ (op_move rfl) rfl ?_
      refine WL.val (Value.bool (decide (x24 < (1 : Int)))) _ (op_lss rfl rfl) rfl ?_
      refine WL.nil ?_
      refine W.cond (decide (x24 < (1 : Int))) rfl (fun hc31 => ?_) (fun hc31 => ?_)
      · replace hb10 := ip hb10 hc31
        refine W.seq (W.region ?_)
        refine WL.val (Value.int .i64 (0 : Int)) _ (op_assign rfl) rfl ?_
        refine WL.nil ?_
        refine W.ret ?_
        obtain rfl := Option.some.inj hb10
        obtain rfl := hret13 _ rfl
        replace h := onRes_ret h
        obtain rfl := Option.some.inj h
        show FinP _ _ _ _ _ _ _
        exact FinP.ret _ (res1 rfl rfl) ⟨rfl, (inL rfl), hS21.ext⟩
      · replace hb10 := inegb hb10 hc31
        refine W.skip ?_
        show W _ _ _ _ _ _
        refine W.region ?_
        refine WL.val (Value.int .i64 x5) _ (op_move hf15) rfl ?_
        refine WL.val (Value.int .i64 x24) _ (op_move rfl) rfl ?_
        refine WL.val (Value.int .i64 (if (17 : Int) < x24 then (17 : Int) else x24)) _ (op_min2 rfl rfl) rfl ?_
        refine WL.val (Value.int .i64 (w64 (x5 * (if (17 : Int) < x24 then (17 : Int) else x24)))) _ (op_mul rfl rfl) rfl ?_
        refine WL.val (Value.int .i64 (if (w64 (x5 * (if (17 : Int) < x24 then (17 : Int) else x24))) < (17 : Int) then (w64 (x5 * (if (17 : Int) < x24 then (17 : Int) else x24))) else (17 : Int))) _ (op_min2 rfl rfl) rfl ?_
        refine WL.val (Value.int .i64 (if (w64 (x5 * (if (17 : Int) < x24 then (17 : Int) else x24))) < (17 : Int) then (w64 (x5 * (if (17 : Int) < x24 then (17 : Int) else x24))) else (17 : Int))) _ (op_assign rfl) rfl ?_
        refine WL.nil ?_
        show W _ _ _ _ _ _
        refine W.region ?_
        refine WL.val (Value.int .i64 (w64 ((k4 : Int) + (1 : Int)))) _ (op_add hf19 rfl) rfl ?_
        refine WL.val (Value.int .i64 (w64 ((k4 : Int) + (1 : Int)))) _ (op_move rfl) rfl ?_
        refine WL.nil ?_
        obtain rfl := Option.some.inj hb10
        show ∃ s, _ = Ctl.next s ∧ _
        exact ⟨_, rfl, hf14, rfl, (inR_ite (inR_wrap _ _) (inL rfl)), hf17, hf18, (ctr_next hl22 hr1), (ctr_rng hl22 hr1), hS21⟩
    · intro x39 f34 wd35 hs36 hI37
      replace hI37 : f34 0 = v_orders ∧ f34 3 = Value.int .i64 x39 ∧ InR .i64 x39 ∧ f34 6 = v_orders ∧ f34 7 = (Value.int .i64 ((orders).length : Int)) ∧ f34 8 = Value.int .i64 (((orders).length : Nat) : Int) ∧ InR .i64 (((orders).length : Nat) : Int) ∧ St w wd35 [] := hI37
      obtain ⟨hf40, hf41, hr42, hf43, hf44, hf45, hr46, hS47⟩ := hI37
      refine W.seq (W.region ?_)
      refine WL.val (Value.bool (decide ((((orders).length : Nat) : Int) < ((orders).length : Int)))) _ (op_lss hf45 hf44) rfl ?_
      have hl48 : ¬ (((orders).length : Nat) : Int) < ((orders).length : Int) := by omega
      refine WL.nil ?_
      refine W.seq ?_
      refine W.condF (decide ((((orders).length : Nat) : Int) < ((orders).length : Int))) rfl (decide_eq_false hl48) ?_
      refine W.exit ?_
      show _ = _ ∧ _
      exact ⟨rfl, _, hs36, hf40, hf41, hr42, hS47⟩
  · rintro f49 wd50 ⟨x53, rfl, hq51⟩
    replace h := onRes_fin h
    replace hq51 : f49 0 = v_orders ∧ f49 3 = Value.int .i64 x53 ∧ InR .i64 x53 ∧ St w wd50 [] := hq51
    obtain ⟨hf54, hf55, hr56, hS57⟩ := hq51
    refine W.seq (W.seq (W.region ?_))
    refine WL.val v_orders _ (op_move hf54) rfl ?_
    have hr58 := inR_len (Ty.lift _ hS57.ext r_orders)
    refine WL.val (Value.int .i64 ((orders).length : Int)) _ (op_lenL sl_22 (Ty.lift _ hS57.ext r_orders) rfl) rfl ?_
    refine WL.val (Value.bool (((orders).length : Int) == (0 : Int))) _ (op_eql rfl rfl) rfl ?_
    refine WL.nil ?_
    refine W.cond (((orders).length : Int) == (0 : Int)) rfl (fun hc59 => ?_) (fun hc59 => ?_)
    · replace h := ip h hc59
      refine W.seq (W.region ?_)
      refine WL.val (Value.int .i64 (0 : Int)) _ (op_assign rfl) rfl ?_
      refine WL.nil ?_
      refine W.ret ?_
      obtain rfl := Option.some.inj h
      show FinP _ _ _ _ _ _ _
      exact FinP.ret _ (res1 rfl rfl) ⟨rfl, (inL rfl), hS57.ext⟩
    · replace h := inegb h hc59
      refine W.skip ?_
      refine W.seq (W.region ?_)
      refine WL.val (Value.int .i64 x53) _ (op_move hf55) rfl ?_
      refine WL.val (Value.int .i64 x53) _ (op_assign rfl) rfl ?_
      refine WL.nil ?_
      refine W.ret ?_
      obtain rfl := Option.some.inj h
      show FinP _ _ _ _ _ _ _
      exact FinP.ret _ (res1 rfl rfl) ⟨rfl, hr56, hS57.ext⟩

theorem c_impl_within {w : World} {n : Int} {low : Int} {high : Int} (r_n : InR .i64 n) (r_low : InR .i64 low) (r_high : InR .i64 high) {res : Bool} (h : p_impl_within n low high  = some res) :
    Ret Try.prog 50 #[(Value.int .i64 n), (Value.int .i64 low), (Value.int .i64 high)] w (fun v w' => v = Value.bool res ∧ Ext w w') := by
  unfold p_impl_within at h
  have hS0 : St w w [] := St.start w
  refine Ret.start (fn := Try.f50) Try.func50 rfl 15 rfl rfl ?_
  refine W.seq (W.region ?_)
  refine WL.val (Value.bool false) _ (op_assign rfl) rfl ?_
  refine WL.nil ?_
  refine W.seq (W.region ?_)
  refine WL.val (Value.int .i64 n) _ (op_move rfl) rfl ?_
  refine WL.val (Value.int .i64 low) _ (op_move rfl) rfl ?_
  refine WL.val (Value.bool (decide (n ≥ low))) _ (op_geq rfl rfl) rfl ?_
  refine WL.val (Value.bool (decide (n ≥ low))) _ (op_move rfl) rfl ?_
  refine WL.cut 4 (fun fq wq => fq 14 = (Value.bool ((decide (n ≥ low)) && (decide (n ≤ high)))) ∧ St w wq []) ?_ ?_
  · rcases Bool.eq_false_or_eq_true (decide (n ≥ low)) with hc1 | hc1
    · refine WL.grun rfl (bool_of rfl hc1) ?_
      refine WL.val (Value.int .i64 n) _ (op_move rfl) rfl ?_
      refine WL.grun rfl (bool_of rfl hc1) ?_
      refine WL.val (Value.int .i64 high) _ (op_move rfl) rfl ?_
      refine WL.grun rfl (bool_of rfl hc1) ?_
      refine WL.val (Value.bool (decide (n ≤ high))) _ (op_leq rfl rfl) rfl ?_
      refine WL.val (Value.bool (decide (n ≤ high))) _ (op_pick_t (evb_of rfl hc1) rfl) rfl ?_
      refine WL.nil ?_
      exact ⟨rfl, (andT hc1), hS0⟩
    · refine WL.gskip rfl (bool_of rfl hc1) rfl ?_
      refine WL.gskip rfl (bool_of rfl hc1) rfl ?_
      refine WL.gskip rfl (bool_of rfl hc1) rfl ?_
      refine WL.val (Value.bool false) _ (op_pick_f (evb_of rfl hc1) rfl) rfl ?_
      refine WL.nil ?_
      exact ⟨rfl, (andF hc1), hS0⟩
  · intro f2 wd3 hq4
    obtain ⟨hf5, hS6⟩ := hq4
    refine WL.val (Value.bool ((decide (n ≥ low)) && (decide (n ≤ high)))) _ (op_assign hf5) rfl ?_
    refine WL.nil ?_
    refine W.ret ?_
    obtain rfl := Option.some.inj h
    show FinP _ _ _ _ _ _ _
    exact FinP.ret _ (res1 rfl rfl) ⟨rfl, hS6.ext⟩

theorem c_impl_isModulus {w : World} {m : Int} (r_m : InR .i64 m) {res : Bool} (h : p_impl_isModulus m  = some res) :
    Ret Try.prog 51 #[(Value.int .i64 m)] w (fun v w' => v = Value.bool res ∧ Ext w w') := by
  unfold p_impl_isModulus at h
  have hS0 : St w w [] := St.start w
  refine Ret.start (fn := Try.f51) Try.func51 rfl 5 rfl rfl ?_
  refine W.seq (W.region ?_)
  refine WL.val (Value.bool false) _ (op_assign rfl) rfl ?_
  refine WL.nil ?_
  refine W.seq (W.region ?_)
  refine WL.val (Value.int .i64 m) _ (op_move rfl) rfl ?_
  obtain ⟨x1, hx2, h⟩ := bs h
  refine WL.call _ (op_call fn_50 (args3 rfl rfl rfl)) (c_impl_within r_m (inL rfl) (inL rfl) hx2) rfl ?_
  rintro _ wd3 ⟨rfl, he4⟩
  have hS6 := St.extend hS0 he4
  replace hS6 : St w wd3 [] := hS6
  refine WL.val (Value.bool x1) _ (op_assign rfl) rfl ?_
  refine WL.nil ?_
  refine W.ret ?_
  obtain rfl := Option.some.inj h
  show FinP _ _ _ _ _ _ _
  exact FinP.ret _ (res1 rfl rfl) ⟨rfl, hS6.ext⟩

theorem c_impl_allWithin_c1 {w : World} {n : Int} {b_c0 : Nat} {c0 : Int} {b_c1 : Nat} {c1 : Int} (r_n : InR .i64 n) (k_c0 : BoxAt w b_c0 [(Value.int .i64 c0)]) (r_c0 : InR .i64 c0) (k_c1 : BoxAt w b_c1 [(Value.int .i64 c1)]) (r_c1 : InR .i64 c1) {res : Bool} (h : p_impl_allWithin_c1 n c0 c1 = some res) :
    Ret Try.prog 66 #[(Value.int .i64 n), (Value.pointer (some ⟨b_c0, 0, none⟩)), (Value.pointer (some ⟨b_c1, 0, none⟩))] w (fun v w' => v = Value.bool res ∧ Ext w w') := by
  unfold p_impl_allWithin_c1 at h
  have hS0 : St w w [] := St.start w
  refine Ret.start (fn := Try.f66) Try.func66 rfl 10 rfl rfl ?_
  refine W.seq (W.region ?_)
  refine WL.val (Value.bool false) _ (op_assign rfl) rfl ?_
  refine WL.nil ?_
  refine W.seq (W.region ?_)
  refine WL.val (Value.int .i64 n) _ (op_move rfl) rfl ?_
  refine WL.val (Value.int .i64 c0) _ (op_load one_2 rfl (BoxAt.cell (BoxAt.lift hS0.ext k_c0) rfl)) rfl ?_
  refine WL.val (Value.int .i64 c1) _ (op_load one_2 rfl (BoxAt.cell (BoxAt.lift hS0.ext k_c1) rfl)) rfl ?_
  obtain ⟨x1, hx2, h⟩ := bs h
  refine WL.call _ (op_call fn_50 (args3 rfl rfl rfl)) (c_impl_within r_n r_c0 r_c1 hx2) rfl ?_
  rintro _ wd3 ⟨rfl, he4⟩
  have hS6 := St.extend hS0 he4
  replace hS6 : St w wd3 [] := hS6
  refine WL.val (Value.bool (!x1)) _ (op_not rfl) rfl ?_
  refine WL.val (Value.bool (!x1)) _ (op_assign rfl) rfl ?_
  refine WL.nil ?_
  refine W.ret ?_
  obtain rfl := Option.some.inj h
  show FinP _ _ _ _ _ _ _
  exact FinP.ret _ (res1 rfl rfl) ⟨rfl, hS6.ext⟩

theorem c_slices_IndexFunc_Lint64_int64 {w : World} {s1 : (List Int)} {v_s1 : Value} {f1 : Int → Option Bool} {v_f1 : Value} (r_s1 : (Ty.sl (Ty.i .i64)).rep w v_s1 s1) (r_f1 : FnT_i_to_b Try.prog v_f1 w f1) {res : Int} (h : p_slices_IndexFunc_Lint64_int64 s1 f1  = some res) :
    Ret Try.prog 68 #[v_s1, v_f1] w (fun v w' => v = Value.int .i64 res ∧ InR .i64 res ∧ Ext w w') := by
  unfold p_slices_IndexFunc_Lint64_int64 at h
  have hS0 : St w w [] := St.start w
  have q_f1 := r_f1
  obtain ⟨g_f1, fst_f1, cap_f1, eq_f1, ok_f1, call_f1⟩ := q_f1
  subst eq_f1
  refine Ret.start (fn := Try.f68) Try.func68 rfl 19 rfl rfl ?_
  refine W.seq (W.region ?_)
  refine WL.val (Value.int .i64 (0 : Int)) _ (op_assign rfl) rfl ?_
  refine WL.nil ?_
  refine W.seq (W.seq (W.region ?_))
  refine WL.val v_s1 _ (op_move rfl) rfl ?_
  have hr1 := inR_len (Ty.lift _ hS0.ext r_s1)
  refine WL.val (Value.int .i64 ((s1).length : Int)) _ (op_lenL sl_22 (Ty.lift _ hS0.ext r_s1) rfl) rfl ?_
  refine WL.val (Value.int .i64 (0 : Int)) _ (op_move rfl) rfl ?_
  refine WL.nil ?_
  show W _ _ _ _ _ _
  obtain ⟨res2, hres3, h⟩ := bs h
  refine W.blockLoop (fun fq wq => ∃ s, res2 = Res.fin s ∧ St w wq []) ?_ ?_
  · refine W.forN (fun k (s : Unit) fq wq => fq 0 = v_s1 ∧ fq 1 = (Value.func (.func g_f1) fst_f1 cap_f1) ∧ fq 7 = (Value.int .i64 ((s1).length : Int)) ∧ fq 8 = Value.int .i64 (k : Int) ∧ InR .i64 (k : Int) ∧ St w wq []) hres3 ⟨rfl, rfl, rfl, rfl, (inL rfl), hS0⟩ ?_ ?_
    · intro k4 s36 ct5 f6 wd7 hk8 hb9 hI10 hbrk11 hret12
      obtain ⟨⟩ := s36
      replace hI10 : f6 0 = v_s1 ∧ f6 1 = (Value.func (.func g_f1) fst_f1 cap_f1) ∧ f6 7 = (Value.int .i64 ((s1).length : Int)) ∧ f6 8 = Value.int .i64 (k4 : Int) ∧ InR .i64 (k4 : Int) ∧ St w wd7 [] := hI10
      replace hb9 : p_slices_IndexFunc_Lint64_int64_L1 s1 f1 k4  = some ct5 := hb9
      unfold p_slices_IndexFunc_Lint64_int64_L1 at hb9
      obtain ⟨hf13, hf14, hf15, hf16, hr17, hS18⟩ := hI10
      refine W.seq (W.region ?_)
      refine WL.val (Value.bool (decide ((k4 : Int) < ((s1).length : Int)))) _ (op_lss hf16 hf15) rfl ?_
      have hl19 : (k4 : Int) < ((s1).length : Int) := by omega
      refine WL.nil ?_
      refine W.seq ?_
      refine W.condT (decide ((k4 : Int) < ((s1).length : Int))) rfl (decide_eq_true hl19) ?_
      refine W.skip ?_
      refine W.seq ?_
      refine W.block ?_
      refine W.seq (W.region ?_)
      refine WL.val (Value.int .i64 (k4 : Int)) _ (op_move hf16) rfl ?_
      refine WL.val (Value.int .i64 (k4 : Int)) _ (op_assign rfl) rfl ?_
      refine WL.nil ?_
      refine W.seq (W.region ?_)
      refine WL.val (Value.func (.func g_f1) fst_f1 cap_f1) _ (op_move hf14) rfl ?_
      refine WL.val v_s1 _ (op_move hf13) rfl ?_
      refine WL.val (Value.int .i64 (k4 : Int)) _ (op_move rfl) rfl ?_
      obtain ⟨x21, hx24, hb9⟩ := bs hb9
      obtain ⟨ha22, hb23, hx24⟩ := idx_some hx24
      refine WL.val (Value.pointer (some (elA v_s1 ((k4 : Int)).toNat))) _ (op_idx sl_22 (Ty.lift _ hS18.ext r_s1) rfl rfl ha22 hb23) rfl ?_
      obtain ⟨u25, hc26, hr27⟩ := repSl.el r_s1 hx24
      obtain ⟨rfl, hr27⟩ := hr27
      refine WL.val (Value.int .i64 x21) _ (op_load one_2 rfl (Ext.cell hS18.ext hc26)) rfl ?_
      obtain ⟨x28, hx29, hb9⟩ := bs hb9
      refine WL.call _ (op_callV rfl ok_f1 (args1 rfl)) (call_f1 wd7 x21 x28 hS18.ext hr27 hx29) rfl ?_
      rintro _ wd30 ⟨rfl, he31⟩
      have hS33 := St.extend hS18 he31
      refine WL.nil ?_
      refine W.cond x28 rfl (fun hc34 => ?_) (fun hc34 => ?_)
      · replace hb9 := ip hb9 hc34
        refine W.seq (W.region ?_)
        refine WL.val (Value.int .i64 (k4 : Int)) _ (op_move rfl) rfl ?_
        refine WL.val (Value.int .i64 (k4 : Int)) _ (op_assign rfl) rfl ?_
        refine WL.nil ?_
        refine W.ret ?_
        obtain rfl := Option.some.inj hb9
        obtain rfl := hret12 _ rfl
        replace h := onRes_ret h
        obtain rfl := Option.some.inj h
        show FinP _ _ _ _ _ _ _
        exact FinP.ret _ (res1 rfl rfl) ⟨rfl, hr17, hS33.ext⟩
      · replace hb9 := inegb hb9 hc34
        refine W.skip ?_
        show W _ _ _ _ _ _
        refine W.region ?_
        refine WL.val (Value.int .i64 (w64 ((k4 : Int) + (1 : Int)))) _ (op_add hf16 rfl) rfl ?_
        refine WL.val (Value.int .i64 (w64 ((k4 : Int) + (1 : Int)))) _ (op_move rfl) rfl ?_
        refine WL.nil ?_
        obtain rfl := Option.some.inj hb9
        show ∃ s, _ = Ctl.next s ∧ _
        exact ⟨_, rfl, hf13, hf14, hf15, (ctr_next hl19 hr1), (ctr_rng hl19 hr1), hS33⟩
    · intro s41 f37 wd38 hs39 hI40
      obtain ⟨⟩ := s41
      replace hI40 : f37 0 = v_s1 ∧ f37 1 = (Value.func (.func g_f1) fst_f1 cap_f1) ∧ f37 7 = (Value.int .i64 ((s1).length : Int)) ∧ f37 8 = Value.int .i64 (((s1).length : Nat) : Int) ∧ InR .i64 (((s1).length : Nat) : Int) ∧ St w wd38 [] := hI40
      obtain ⟨hf42, hf43, hf44, hf45, hr46, hS47⟩ := hI40
      refine W.seq (W.region ?_)
      refine WL.val (Value.bool (decide ((((s1).length : Nat) : Int) < ((s1).length : Int)))) _ (op_lss hf45 hf44) rfl ?_
      have hl48 : ¬ (((s1).length : Nat) : Int) < ((s1).length : Int) := by omega
      refine WL.nil ?_
      refine W.seq ?_
      refine W.condF (decide ((((s1).length : Nat) : Int) < ((s1).length : Int))) rfl (decide_eq_false hl48) ?_
      refine W.exit ?_
      show _ = _ ∧ _
      exact ⟨rfl, _, hs39, hS47⟩
  · rintro f49 wd50 ⟨s52, rfl, hq51⟩
    replace h := onRes_fin h
    obtain ⟨⟩ := s52
    replace hq51 : St w wd50 [] := hq51
    have hS53 := hq51
    refine W.seq (W.region ?_)
    refine WL.val (Value.int .i64 (-1 : Int)) _ (op_assign rfl) rfl ?_
    refine WL.nil ?_
    refine W.ret ?_
    obtain rfl := Option.some.inj h
    show FinP _ _ _ _ _ _ _
    exact FinP.ret _ (res1 rfl rfl) ⟨rfl, (inR_i64.2 (show (-9223372036854775808 : Int) ≤ -1 ∧ (-1 : Int) ≤ 9223372036854775807 from by decide)), hS53.ext⟩

theorem c_slices_ContainsFunc_Lint64_int64 {w : World} {s1 : (List Int)} {v_s1 : Value} {f1 : Int → Option Bool} {v_f1 : Value} (r_s1 : (Ty.sl (Ty.i .i64)).rep w v_s1 s1) (r_f1 : FnT_i_to_b Try.prog v_f1 w f1) {res : Bool} (h : p_slices_ContainsFunc_Lint64_int64 s1 f1  = some res) :
    Ret Try.prog 65 #[v_s1, v_f1] w (fun v w' => v = Value.bool res ∧ Ext w w') := by
  unfold p_slices_ContainsFunc_Lint64_int64 at h
  have hS0 : St w w [] := St.start w
  have q_f1 := r_f1
  obtain ⟨g_f1, fst_f1, cap_f1, eq_f1, ok_f1, call_f1⟩ := q_f1
  subst eq_f1
  refine Ret.start (fn := Try.f65) Try.func65 rfl 9 rfl rfl ?_
  refine W.seq (W.region ?_)
  refine WL.val (Value.bool false) _ (op_assign rfl) rfl ?_
  refine WL.nil ?_
  refine W.seq (W.region ?_)
  refine WL.val v_s1 _ (op_move rfl) rfl ?_
  refine WL.val (Value.func (.func g_f1) fst_f1 cap_f1) _ (op_move rfl) rfl ?_
  obtain ⟨x1, hx2, h⟩ := bs h
  refine WL.call _ (op_call fn_68 (args2 rfl rfl)) (c_slices_IndexFunc_Lint64_int64 (Ty.lift _ hS0.ext r_s1) (FnT_i_to_b.lift hS0.ext r_f1) hx2) rfl ?_
  rintro _ wd4 ⟨rfl, hr3, he5⟩
  have hS7 := St.extend hS0 he5
  replace hS7 : St w wd4 [] := hS7
  refine WL.val (Value.bool (decide (x1 ≥ (0 : Int)))) _ (op_geq rfl rfl) rfl ?_
  refine WL.val (Value.bool (decide (x1 ≥ (0 : Int)))) _ (op_assign rfl) rfl ?_
  refine WL.nil ?_
  refine W.ret ?_
  obtain rfl := Option.some.inj h
  show FinP _ _ _ _ _ _ _
  exact FinP.ret _ (res1 rfl rfl) ⟨rfl, hS7.ext⟩

theorem c_impl_allWithin {w : World} {list : (List Int)} {v_list : Value} {low : Int} {high : Int} (r_list : (Ty.sl (Ty.i .i64)).rep w v_list list) (r_low : InR .i64 low) (r_high : InR .i64 high) {res : Bool} (h : p_impl_allWithin list low high  = some res) :
    Ret Try.prog 63 #[v_list, (Value.int .i64 low), (Value.int .i64 high)] w (fun v w' => v = Value.bool res ∧ Ext w w') := by
  unfold p_impl_allWithin at h
  have hS0 : St w w [] := St.start w
  refine Ret.start (fn := Try.f63) Try.func63 rfl 11 rfl rfl ?_
  refine W.seq (W.region ?_)
  refine WL.box hS0 rfl (cs := [(Value.int .i64 low)]) rfl rfl ?_
  intro b1 wd2 hS3 he4 hx5
  replace hS3 : St w wd2 [bx b1 [(Value.int .i64 low)]] := hS3
  have hx6 := St.boxAt hS3 0 rfl
  have hE7 : Ext w wd2 := hS3.ext
  have hS8 : St wd2 wd2 [] := St.start wd2
  refine WL.box hS8 rfl (cs := [(Value.int .i64 high)]) rfl rfl ?_
  intro b9 wd10 hS11 he12 hx13
  replace hS11 : St wd2 wd10 [bx b9 [(Value.int .i64 high)]] := hS11
  have hx14 := St.boxAt hS11 0 rfl
  have hE15 : Ext w wd10 := (Ext.trans hE7 hS11.ext)
  have hE16 : Ext wd2 wd10 := hS11.ext
  have hS17 : St wd10 wd10 [] := St.start wd10
  refine WL.val (Value.bool false) _ (op_assign rfl) rfl ?_
  refine WL.nil ?_
  refine W.seq (W.region ?_)
  refine WL.val v_list _ (op_move rfl) rfl ?_
  refine WL.val (Value.func (.func 66) #[] #[(Value.pointer (some ⟨b1, 0, none⟩)), (Value.pointer (some ⟨b9, 0, none⟩))]) _ (op_makeFunc (va := #[]) (vb := #[(Value.pointer (some ⟨b1, 0, none⟩)), (Value.pointer (some ⟨b9, 0, none⟩))]) args0 (args2 rfl rfl)) rfl ?_
  obtain ⟨x22, hx23, h⟩ := bs h
  refine WL.call _ (op_call fn_65 (args2 rfl rfl)) (c_slices_ContainsFunc_Lint64_int64 (Ty.lift _ (Ext.trans hE15 hS17.ext) r_list) (⟨66, #[], #[(Value.pointer (some ⟨b1, 0, none⟩)), (Value.pointer (some ⟨b9, 0, none⟩))], rfl, fn_66, fun wd18 a0_19 r20 he19 ra0_19 hq21 => c_impl_allWithin_c1 ra0_19 (BoxAt.lift (Ext.trans (Ext.trans hE16 hS17.ext) he19) hx6) r_low (BoxAt.lift (Ext.trans hS17.ext he19) hx14) r_high hq21⟩) hx23) rfl ?_
  rintro _ wd24 ⟨rfl, he25⟩
  have hS27 := St.extend hS17 he25
  replace hS27 : St wd10 wd24 [] := hS27
  refine WL.val (Value.bool (!x22)) _ (op_not rfl) rfl ?_
  refine WL.val (Value.bool (!x22)) _ (op_assign rfl) rfl ?_
  refine WL.nil ?_
  refine W.ret ?_
  obtain rfl := Option.some.inj h
  show FinP _ _ _ _ _ _ _
  exact FinP.ret _ (res1 rfl rfl) ⟨rfl, (Ext.trans hE15 hS27.ext)⟩

theorem c_impl_isGrid_c1 {w : World} {row : (List Int)} {v_row : Value} {b_c0 : Nat} {c0 : Int} {b_c1 : Nat} {c1 : Int} (r_row : (Ty.sl (Ty.i .i64)).rep w v_row row) (k_c0 : BoxAt w b_c0 [(Value.int .i64 c0)]) (r_c0 : InR .i64 c0) (k_c1 : BoxAt w b_c1 [(Value.int .i64 c1)]) (r_c1 : InR .i64 c1) {res : Bool} (h : p_impl_isGrid_c1 row c0 c1 = some res) :
    Ret Try.prog 62 #[v_row, (Value.pointer (some ⟨b_c0, 0, none⟩)), (Value.pointer (some ⟨b_c1, 0, none⟩))] w (fun v w' => v = Value.bool res ∧ Ext w w') := by
  unfold p_impl_isGrid_c1 at h
  have hS0 : St w w [] := St.start w
  refine Ret.start (fn := Try.f62) Try.func62 rfl 16 rfl rfl ?_
  refine W.seq (W.region ?_)
  refine WL.val (Value.bool false) _ (op_assign rfl) rfl ?_
  refine WL.nil ?_
  refine W.seq (W.region ?_)
  refine WL.val v_row _ (op_move rfl) rfl ?_
  have hr1 := inR_len (Ty.lift _ hS0.ext r_row)
  refine WL.val (Value.int .i64 ((row).length : Int)) _ (op_lenL sl_22 (Ty.lift _ hS0.ext r_row) rfl) rfl ?_
  refine WL.val (Value.int .i64 c0) _ (op_load one_3 rfl (BoxAt.cell (BoxAt.lift hS0.ext k_c0) rfl)) rfl ?_
  refine WL.val (Value.bool (((row).length : Int) != c0)) _ (op_neq rfl rfl) rfl ?_
  refine WL.val (Value.bool (((row).length : Int) != c0)) _ (op_move rfl) rfl ?_
  obtain ⟨x3, hj4, h⟩ := bs h
  refine WL.cut 6 (fun fq wq => fq 15 = Value.bool x3 ∧ St w wq []) ?_ ?_
  · rcases Bool.eq_false_or_eq_true (((row).length : Int) != c0) with hc2 | hc2
    · replace hj4 := ip hj4 hc2
      refine WL.gskip rfl (bool_of rfl hc2) rfl ?_
      refine WL.gskip rfl (bool_of rfl hc2) rfl ?_
      refine WL.gskip rfl (bool_of rfl hc2) rfl ?_
      refine WL.gskip rfl (bool_of rfl hc2) rfl ?_
      refine WL.gskip rfl (bool_of rfl hc2) rfl ?_
      refine WL.val (Value.bool true) _ (op_pick_t (evb_of rfl hc2) rfl) rfl ?_
      refine WL.nil ?_
      obtain rfl := Option.some.inj hj4
      exact ⟨rfl, rfl, hS0⟩
    · replace hj4 := inegb hj4 hc2
      refine WL.grun rfl (bool_of rfl hc2) ?_
      refine WL.val v_row _ (op_move rfl) rfl ?_
      refine WL.grun rfl (bool_of rfl hc2) ?_
      refine WL.val (Value.int .i64 c1) _ (op_load one_2 rfl (BoxAt.cell (BoxAt.lift hS0.ext k_c1) rfl)) rfl ?_
      refine WL.grun rfl (bool_of rfl hc2) ?_
      refine WL.val (Value.int .i64 (w64 (c1 - (1 : Int)))) _ (op_sub rfl rfl) rfl ?_
      refine WL.grun rfl (bool_of rfl hc2) ?_
      obtain ⟨x8, hx9, hj4⟩ := bs hj4
      refine WL.call _ (op_call fn_63 (args3 rfl rfl rfl)) (c_impl_allWithin (Ty.lift _ hS0.ext r_row) (inL rfl) (inR_wrap _ _) hx9) rfl ?_
      rintro _ wd10 ⟨rfl, he11⟩
      have hS13 := St.extend hS0 he11
      replace hS13 : St w wd10 [] := hS13
      refine WL.grun rfl (bool_of rfl hc2) ?_
      refine WL.val (Value.bool (!x8)) _ (op_not rfl) rfl ?_
      refine WL.val (Value.bool (!x8)) _ (op_pick_f (evb_of rfl hc2) rfl) rfl ?_
      refine WL.nil ?_
      obtain rfl := Option.some.inj hj4
      exact ⟨rfl, rfl, hS13⟩
  · intro f5 wd6 hq7
    obtain ⟨hf14, hS15⟩ := hq7
    refine WL.val (Value.bool x3) _ (op_assign hf14) rfl ?_
    refine WL.nil ?_
    refine W.ret ?_
    obtain rfl := Option.some.inj h
    show FinP _ _ _ _ _ _ _
    exact FinP.ret _ (res1 rfl rfl) ⟨rfl, hS15.ext⟩

theorem c_slices_IndexFunc_LLint64_Lint64 {w : World} {s1 : (List (List Int))} {v_s1 : Value} {f1 : (List Int) → Option Bool} {v_f1 : Value} (r_s1 : (Ty.sl (Ty.sl (Ty.i .i64))).rep w v_s1 s1) (r_f1 : FnT_li_to_b Try.prog v_f1 w f1) {res : Int} (h : p_slices_IndexFunc_LLint64_Lint64 s1 f1  = some res) :
    Ret Try.prog 41 #[v_s1, v_f1] w (fun v w' => v = Value.int .i64 res ∧ InR .i64 res ∧ Ext w w') := by
  unfold p_slices_IndexFunc_LLint64_Lint64 at h
  have hS0 : St w w [] := St.start w
  have q_f1 := r_f1
  obtain ⟨g_f1, fst_f1, cap_f1, eq_f1, ok_f1, call_f1⟩ := q_f1
  subst eq_f1
  refine Ret.start (fn := Try.f41) Try.func41 rfl 19 rfl rfl ?_
  refine W.seq (W.region ?_)
  refine WL.val (Value.int .i64 (0 : Int)) _ (op_assign rfl) rfl ?_
  refine WL.nil ?_
  refine W.seq (W.seq (W.region ?_))
  refine WL.val v_s1 _ (op_move rfl) rfl ?_
  have hr1 := inR_len (Ty.lift _ hS0.ext r_s1)
  refine WL.val (Value.int .i64 ((s1).length : Int)) _ (op_lenL sl_37 (Ty.lift _ hS0.ext r_s1) rfl) rfl ?_
  refine WL.val (Value.int .i64 (0 : Int)) _ (op_move rfl) rfl ?_
  refine WL.nil ?_
  show W _ _ _ _ _ _
  obtain ⟨res2, hres3, h⟩ := bs h
  refine W.blockLoop (fun fq wq => ∃ s, res2 = Res.fin s ∧ St w wq []) ?_ ?_
  · refine W.forN (fun k (s : Unit) fq wq => fq 0 = v_s1 ∧ fq 1 = (Value.func (.func g_f1) fst_f1 cap_f1) ∧ fq 7 = (Value.int .i64 ((s1).length : Int)) ∧ fq 8 = Value.int .i64 (k : Int) ∧ InR .i64 (k : Int) ∧ St w wq []) hres3 ⟨rfl, rfl, rfl, rfl, (inL rfl), hS0⟩ ?_ ?_
    · intro k4 s36 ct5 f6 wd7 hk8 hb9 hI10 hbrk11 hret12
      obtain ⟨⟩ := s36
      replace hI10 : f6 0 = v_s1 ∧ f6 1 = (Value.func (.func g_f1) fst_f1 cap_f1) ∧ f6 7 = (Value.int .i64 ((s1).length : Int)) ∧ f6 8 = Value.int .i64 (k4 : Int) ∧ InR .i64 (k4 : Int) ∧ St w wd7 [] := hI10
      replace hb9 : p_slices_IndexFunc_LLint64_Lint64_L1 s1 f1 k4  = some ct5 := hb9
      unfold p_slices_IndexFunc_LLint64_Lint64_L1 at hb9
      obtain ⟨hf13, hf14, hf15, hf16, hr17, hS18⟩ := hI10
      refine W.seq (W.region ?_)
      refine WL.val (Value.bool (decide ((k4 : Int) < ((s1).length : Int)))) _ (op_lss hf16 hf15) rfl ?_
      have hl19 : (k4 : Int) < ((s1).length : Int) := by omega
      refine WL.nil ?_
      refine W.seq ?_
      refine W.condT (decide ((k4 : Int) < ((s1).length : Int))) rfl (decide_eq_true hl19) ?_
      refine W.skip ?_
      refine W.seq ?_
      refine W.block ?_
      refine W.seq (W.region ?_)
      refine WL.val (Value.int .i64 (k4 : Int)) _ (op_move hf16) rfl ?_
      refine WL.val (Value.int .i64 (k4 : Int)) _ (op_assign rfl) rfl ?_
      refine WL.nil ?_
      refine W.seq (W.region ?_)
      refine WL.val (Value.func (.func g_f1) fst_f1 cap_f1) _ (op_move hf14) rfl ?_
      refine WL.val v_s1 _ (op_move hf13) rfl ?_
      refine WL.val (Value.int .i64 (k4 : Int)) _ (op_move rfl) rfl ?_
      obtain ⟨x21, hx24, hb9⟩ := bs hb9
      obtain ⟨ha22, hb23, hx24⟩ := idx_some hx24
      refine WL.val (Value.pointer (some (elA v_s1 ((k4 : Int)).toNat))) _ (op_idx sl_37 (Ty.lift _ hS18.ext r_s1) rfl rfl ha22 hb23) rfl ?_
      obtain ⟨u25, hc26, hr27⟩ := repSl.el r_s1 hx24
      refine WL.val u25 _ (op_load one_22 rfl (Ext.cell hS18.ext hc26)) rfl ?_
      obtain ⟨x28, hx29, hb9⟩ := bs hb9
      refine WL.call _ (op_callV rfl ok_f1 (args1 rfl)) (call_f1 wd7 u25 x21 x28 hS18.ext (Ty.lift _ hS18.ext hr27) hx29) rfl ?_
      rintro _ wd30 ⟨rfl, he31⟩
      have hS33 := St.extend hS18 he31
      refine WL.nil ?_
      refine W.cond x28 rfl (fun hc34 => ?_) (fun hc34 => ?_)
      · replace hb9 := ip hb9 hc34
        refine W.seq (W.region ?_)
        refine WL.val (Value.int .i64 (k4 : Int)) _ (op_move rfl) rfl ?_
        refine WL.val (Value.int .i64 (k4 : Int)) _ (op_assign rfl) rfl ?_
        refine WL.nil ?_
        refine W.ret ?_
        obtain rfl := Option.some.inj hb9
        obtain rfl := hret12 _ rfl
        replace h := onRes_ret h
        obtain rfl := Option.some.inj h
        show FinP _ _ _ _ _ _ _
        exact FinP.ret _ (res1 rfl rfl) ⟨rfl, hr17, hS33.ext⟩
      · replace hb9 := inegb hb9 hc34
        refine W.skip ?_
        show W _ _ _ _ _ _
        refine W.region ?_
        refine WL.val (Value.int .i64 (w64 ((k4 : Int) + (1 : Int)))) _ (op_add hf16 rfl) rfl ?_
        refine WL.val (Value.int .i64 (w64 ((k4 : Int) + (1 : Int)))) _ (op_move rfl) rfl ?_
        refine WL.nil ?_
        obtain rfl := Option.some.inj hb9
        show ∃ s, _ = Ctl.next s ∧ _
        exact ⟨_, rfl, hf13, hf14, hf15, (ctr_next hl19 hr1), (ctr_rng hl19 hr1), hS33⟩
    · intro s41 f37 wd38 hs39 hI40
      obtain ⟨⟩ := s41
      replace hI40 : f37 0 = v_s1 ∧ f37 1 = (Value.func (.func g_f1) fst_f1 cap_f1) ∧ f37 7 = (Value.int .i64 ((s1).length : Int)) ∧ f37 8 = Value.int .i64 (((s1).length : Nat) : Int) ∧ InR .i64 (((s1).length : Nat) : Int) ∧ St w wd38 [] := hI40
      obtain ⟨hf42, hf43, hf44, hf45, hr46, hS47⟩ := hI40
      refine W.seq (W.region ?_)
      refine WL.val (Value.bool (decide ((((s1).length : Nat) : Int) < ((s1).length : Int)))) _ (op_lss hf45 hf44) rfl ?_
      have hl48 : ¬ (((s1).length : Nat) : Int) < ((s1).length : Int) := by omega
      refine WL.nil ?_
      refine W.seq ?_
      refine W.condF (decide ((((s1).length : Nat) : Int) < ((s1).length : Int))) rfl (decide_eq_false hl48) ?_
      refine W.exit ?_
      show _ = _ ∧ _
      exact ⟨rfl, _, hs39, hS47⟩
  · rintro f49 wd50 ⟨s52, rfl, hq51⟩
    replace h := onRes_fin h
    obtain ⟨⟩ := s52
    replace hq51 : St w wd50 [] := hq51
    have hS53 := hq51
    refine W.seq (W.region ?_)
    refine WL.val (Value.int .i64 (-1 : Int)) _ (op_assign rfl) rfl ?_
    refine WL.nil ?_
    refine W.ret ?_
    obtain rfl := Option.some.inj h
    show FinP _ _ _ _ _ _ _
    exact FinP.ret _ (res1 rfl rfl) ⟨rfl, (inR_i64.2 (show (-9223372036854775808 : Int) ≤ -1 ∧ (-1 : Int) ≤ 9223372036854775807 from by decide)), hS53.ext⟩

theorem c_slices_ContainsFunc_LLint64_Lint64 {w : World} {s1 : (List (List Int))} {v_s1 : Value} {f1 : (List Int) → Option Bool} {v_f1 : Value} (r_s1 : (Ty.sl (Ty.sl (Ty.i .i64))).rep w v_s1 s1) (r_f1 : FnT_li_to_b Try.prog v_f1 w f1) {res : Bool} (h : p_slices_ContainsFunc_LLint64_Lint64 s1 f1  = some res) :
    Ret Try.prog 61 #[v_s1, v_f1] w (fun v w' => v = Value.bool res ∧ Ext w w') := by
  unfold p_slices_ContainsFunc_LLint64_Lint64 at h
  have hS0 : St w w [] := St.start w
  have q_f1 := r_f1
  obtain ⟨g_f1, fst_f1, cap_f1, eq_f1, ok_f1, call_f1⟩ := q_f1
  subst eq_f1
  refine Ret.start (fn := Try.f61) Try.func61 rfl 9 rfl rfl ?_
  refine W.seq (W.region ?_)
  refine WL.val (Value.bool false) _ (op_assign rfl) rfl ?_
  refine WL.nil ?_
  refine W.seq (W.region ?_)
  refine WL.val v_s1 _ (op_move rfl) rfl ?_
  refine WL.val (Value.func (.func g_f1) fst_f1 cap_f1) _ (op_move rfl) rfl ?_
  obtain ⟨x1, hx2, h⟩ := bs h
  refine WL.call _ (op_call fn_41 (args2 rfl rfl)) (c_slices_IndexFunc_LLint64_Lint64 (Ty.lift _ hS0.ext r_s1) (FnT_li_to_b.lift hS0.ext r_f1) hx2) rfl ?_
  rintro _ wd4 ⟨rfl, hr3, he5⟩
  have hS7 := St.extend hS0 he5
  replace hS7 : St w wd4 [] := hS7
  refine WL.val (Value.bool (decide (x1 ≥ (0 : Int)))) _ (op_geq rfl rfl) rfl ?_
  refine WL.val (Value.bool (decide (x1 ≥ (0 : Int)))) _ (op_assign rfl) rfl ?_
  refine WL.nil ?_
  refine W.ret ?_
  obtain rfl := Option.some.inj h
  show FinP _ _ _ _ _ _ _
  exact FinP.ret _ (res1 rfl rfl) ⟨rfl, hS7.ext⟩

theorem c_impl_isGrid {w : World} {rows : (List (List Int))} {v_rows : Value} {n : Int} {m : Int} (r_rows : (Ty.sl (Ty.sl (Ty.i .i64))).rep w v_rows rows) (r_n : InR .i64 n) (r_m : InR .i64 m) {res : Bool} (h : p_impl_isGrid rows n m  = some res) :
    Ret Try.prog 54 #[v_rows, (Value.int .i64 n), (Value.int .i64 m)] w (fun v w' => v = Value.bool res ∧ Ext w w') := by
  unfold p_impl_isGrid at h
  have hS0 : St w w [] := St.start w
  refine Ret.start (fn := Try.f54) Try.func54 rfl 17 rfl rfl ?_
  refine W.seq (W.region ?_)
  refine WL.box hS0 rfl (cs := [(Value.int .i64 n)]) rfl rfl ?_
  intro b1 wd2 hS3 he4 hx5
  replace hS3 : St w wd2 [bx b1 [(Value.int .i64 n)]] := hS3
  have hx6 := St.boxAt hS3 0 rfl
  have hE7 : Ext w wd2 := hS3.ext
  have hS8 : St wd2 wd2 [] := St.start wd2
  refine WL.box hS8 rfl (cs := [(Value.int .i64 m)]) rfl rfl ?_
  intro b9 wd10 hS11 he12 hx13
  replace hS11 : St wd2 wd10 [bx b9 [(Value.int .i64 m)]] := hS11
  have hx14 := St.boxAt hS11 0 rfl
  have hE15 : Ext w wd10 := (Ext.trans hE7 hS11.ext)
  have hE16 : Ext wd2 wd10 := hS11.ext
  have hS17 : St wd10 wd10 [] := St.start wd10
  refine WL.val (Value.bool false) _ (op_assign rfl) rfl ?_
  refine WL.nil ?_
  refine W.seq (W.region ?_)
  refine WL.val v_rows _ (op_move rfl) rfl ?_
  have hr18 := inR_len (Ty.lift _ (Ext.trans hE15 hS17.ext) r_rows)
  refine WL.val (Value.int .i64 ((rows).length : Int)) _ (op_lenL sl_37 (Ty.lift _ (Ext.trans hE15 hS17.ext) r_rows) rfl) rfl ?_
  refine WL.val (Value.int .i64 n) _ (op_load one_3 rfl (BoxAt.cell (BoxAt.lift (Ext.trans hE16 hS17.ext) hx6) rfl)) rfl ?_
  refine WL.val (Value.bool (((rows).length : Int) == n)) _ (op_eql rfl rfl) rfl ?_
  refine WL.val (Value.bool (((rows).length : Int) == n)) _ (op_move rfl) rfl ?_
  obtain ⟨x20, hj21, h⟩ := bs h
  refine WL.cut 5 (fun fq wq => fq 16 = Value.bool x20 ∧ St wd10 wq []) ?_ ?_
  · rcases Bool.eq_false_or_eq_true (((rows).length : Int) == n) with hc19 | hc19
    · replace hj21 := ip hj21 hc19
      refine WL.grun rfl (bool_of rfl hc19) ?_
      refine WL.val v_rows _ (op_move rfl) rfl ?_
      refine WL.grun rfl (bool_of rfl hc19) ?_
      refine WL.val (Value.func (.func 62) #[] #[(Value.pointer (some ⟨b1, 0, none⟩)), (Value.pointer (some ⟨b9, 0, none⟩))]) _ (op_makeFunc (va := #[]) (vb := #[(Value.pointer (some ⟨b1, 0, none⟩)), (Value.pointer (some ⟨b9, 0, none⟩))]) args0 (args2 rfl rfl)) rfl ?_
      refine WL.grun rfl (bool_of rfl hc19) ?_
      obtain ⟨x29, hx30, hj21⟩ := bs hj21
      refine WL.call _ (op_call fn_61 (args2 rfl rfl)) (c_slices_ContainsFunc_LLint64_Lint64 (Ty.lift _ (Ext.trans hE15 hS17.ext) r_rows) (⟨62, #[], #[(Value.pointer (some ⟨b1, 0, none⟩)), (Value.pointer (some ⟨b9, 0, none⟩))], rfl, fn_62, fun wd25 u0_26 a0_26 r27 he26 ra0_26 hq28 => c_impl_isGrid_c1 ra0_26 (BoxAt.lift (Ext.trans (Ext.trans hE16 hS17.ext) he26) hx6) r_n (BoxAt.lift (Ext.trans hS17.ext he26) hx14) r_m hq28⟩) hx30) rfl ?_
      rintro _ wd31 ⟨rfl, he32⟩
      have hS34 := St.extend hS17 he32
      replace hS34 : St wd10 wd31 [] := hS34
      refine WL.grun rfl (bool_of rfl hc19) ?_
      refine WL.val (Value.bool (!x29)) _ (op_not rfl) rfl ?_
      refine WL.val (Value.bool (!x29)) _ (op_pick_t (evb_of rfl hc19) rfl) rfl ?_
      refine WL.nil ?_
      obtain rfl := Option.some.inj hj21
      exact ⟨rfl, rfl, hS34⟩
    · replace hj21 := inegb hj21 hc19
      refine WL.gskip rfl (bool_of rfl hc19) rfl ?_
      refine WL.gskip rfl (bool_of rfl hc19) rfl ?_
      refine WL.gskip rfl (bool_of rfl hc19) rfl ?_
      refine WL.gskip rfl (bool_of rfl hc19) rfl ?_
      refine WL.val (Value.bool false) _ (op_pick_f (evb_of rfl hc19) rfl) rfl ?_
      refine WL.nil ?_
      obtain rfl := Option.some.inj hj21
      exact ⟨rfl, rfl, hS17⟩
  · intro f22 wd23 hq24
    obtain ⟨hf35, hS36⟩ := hq24
    refine WL.val (Value.bool x20) _ (op_assign hf35) rfl ?_
    refine WL.nil ?_
    refine W.ret ?_
    obtain rfl := Option.some.inj h
    show FinP _ _ _ _ _ _ _
    exact FinP.ret _ (res1 rfl rfl) ⟨rfl, (Ext.trans hE15 hS36.ext)⟩

theorem c_impl_isCochain_c1 {w : World} {rows : (List (List Int))} {v_rows : Value} {b_c0 : Nat} {c0 : Int} {b_c1 : Nat} {c1_Orders : (List Int)} {v_c1_Orders : Value} {c1_Modulus : Int} {c1_Values : (List (List (List Int)))} {v_c1_Values : Value} (r_rows : (Ty.sl (Ty.sl (Ty.i .i64))).rep w v_rows rows) (k_c0 : BoxAt w b_c0 [(Value.int .i64 c0)]) (r_c0 : InR .i64 c0) (k_c1 : BoxAt w b_c1 [v_c1_Orders, (Value.int .i64 c1_Modulus), v_c1_Values]) (r_c1_Orders : (Ty.sl (Ty.i .i64)).rep w v_c1_Orders c1_Orders) (r_c1_Modulus : InR .i64 c1_Modulus) (r_c1_Values : (Ty.sl (Ty.sl (Ty.sl (Ty.i .i64)))).rep w v_c1_Values c1_Values) {res : Bool} (h : p_impl_isCochain_c1 rows c0 c1_Orders c1_Modulus c1_Values = some res) :
    Ret Try.prog 53 #[v_rows, (Value.pointer (some ⟨b_c0, 0, none⟩)), (Value.pointer (some ⟨b_c1, 0, none⟩))] w (fun v w' => v = Value.bool res ∧ Ext w w') := by
  unfold p_impl_isCochain_c1 at h
  have hS0 : St w w [] := St.start w
  refine Ret.start (fn := Try.f53) Try.func53 rfl 11 rfl rfl ?_
  refine W.seq (W.region ?_)
  refine WL.val (Value.bool false) _ (op_assign rfl) rfl ?_
  refine WL.nil ?_
  refine W.seq (W.region ?_)
  refine WL.val v_rows _ (op_move rfl) rfl ?_
  refine WL.val (Value.int .i64 c0) _ (op_load one_2 rfl (BoxAt.cell (BoxAt.lift hS0.ext k_c0) rfl)) rfl ?_
  refine WL.val (Value.pointer (some ⟨b_c1, 1, none⟩)) _ (op_fieldAddr fd_29_1 rfl) rfl ?_
  refine WL.val (Value.int .i64 c1_Modulus) _ (op_load one_2 rfl (BoxAt.cell (BoxAt.lift hS0.ext k_c1) rfl)) rfl ?_
  obtain ⟨x1, hx2, h⟩ := bs h
  refine WL.call _ (op_call fn_54 (args3 rfl rfl rfl)) (c_impl_isGrid (Ty.lift _ hS0.ext r_rows) r_c0 r_c1_Modulus hx2) rfl ?_
  rintro _ wd3 ⟨rfl, he4⟩
  have hS6 := St.extend hS0 he4
  replace hS6 : St w wd3 [] := hS6
  refine WL.val (Value.bool (!x1)) _ (op_not rfl) rfl ?_
  refine WL.val (Value.bool (!x1)) _ (op_assign rfl) rfl ?_
  refine WL.nil ?_
  refine W.ret ?_
  obtain rfl := Option.some.inj h
  show FinP _ _ _ _ _ _ _
  exact FinP.ret _ (res1 rfl rfl) ⟨rfl, hS6.ext⟩

theorem c_slices_IndexFunc_LLLint64_LLint64 {w : World} {s1 : (List (List (List Int)))} {v_s1 : Value} {f1 : (List (List Int)) → Option Bool} {v_f1 : Value} (r_s1 : (Ty.sl (Ty.sl (Ty.sl (Ty.i .i64)))).rep w v_s1 s1) (r_f1 : FnT_lli_to_b Try.prog v_f1 w f1) {res : Int} (h : p_slices_IndexFunc_LLLint64_LLint64 s1 f1  = some res) :
    Ret Try.prog 60 #[v_s1, v_f1] w (fun v w' => v = Value.int .i64 res ∧ InR .i64 res ∧ Ext w w') := by
  unfold p_slices_IndexFunc_LLLint64_LLint64 at h
  have hS0 : St w w [] := St.start w
  have q_f1 := r_f1
  obtain ⟨g_f1, fst_f1, cap_f1, eq_f1, ok_f1, call_f1⟩ := q_f1
  subst eq_f1
  refine Ret.start (fn := Try.f60) Try.func60 rfl 19 rfl rfl ?_
  refine W.seq (W.region ?_)
  refine WL.val (Value.int .i64 (0 : Int)) _ (op_assign rfl) rfl ?_
  refine WL.nil ?_
  refine W.seq (W.seq (W.region ?_))
  refine WL.val v_s1 _ (op_move rfl) rfl ?_
  have hr1 := inR_len (Ty.lift _ hS0.ext r_s1)
  refine WL.val (Value.int .i64 ((s1).length : Int)) _ (op_lenL sl_23 (Ty.lift _ hS0.ext r_s1) rfl) rfl ?_
  refine WL.val (Value.int .i64 (0 : Int)) _ (op_move rfl) rfl ?_
  refine WL.nil ?_
  show W _ _ _ _ _ _
  obtain ⟨res2, hres3, h⟩ := bs h
  refine W.blockLoop (fun fq wq => ∃ s, res2 = Res.fin s ∧ St w wq []) ?_ ?_
  · refine W.forN (fun k (s : Unit) fq wq => fq 0 = v_s1 ∧ fq 1 = (Value.func (.func g_f1) fst_f1 cap_f1) ∧ fq 7 = (Value.int .i64 ((s1).length : Int)) ∧ fq 8 = Value.int .i64 (k : Int) ∧ InR .i64 (k : Int) ∧ St w wq []) hres3 ⟨rfl, rfl, rfl, rfl, (inL rfl), hS0⟩ ?_ ?_
    · intro k4 s36 ct5 f6 wd7 hk8 hb9 hI10 hbrk11 hret12
      obtain ⟨⟩ := s36
      replace hI10 : f6 0 = v_s1 ∧ f6 1 = (Value.func (.func g_f1) fst_f1 cap_f1) ∧ f6 7 = (Value.int .i64 ((s1).length : Int)) ∧ f6 8 = Value.int .i64 (k4 : Int) ∧ InR .i64 (k4 : Int) ∧ St w wd7 [] := hI10
      replace hb9 : p_slices_IndexFunc_LLLint64_LLint64_L1 s1 f1 k4  = some ct5 := hb9
      unfold p_slices_IndexFunc_LLLint64_LLint64_L1 at hb9
      obtain ⟨hf13, hf14, hf15, hf16, hr17, hS18⟩ := hI10
      refine W.seq (W.region ?_)
      refine WL.val (Value.bool (decide ((k4 : Int) < ((s1).length : Int)))) _ (op_lss hf16 hf15) rfl ?_
      have hl19 : (k4 : Int) < ((s1).length : Int) := by omega
      refine WL.nil ?_
      refine W.seq ?_
      refine W.condT (decide ((k4 : Int) < ((s1).length : Int))) rfl (decide_eq_true hl19) ?_
      refine W.skip ?_
      refine W.seq ?_
      refine W.block ?_
      refine W.seq (W.region ?_)
      refine WL.val (Value.int .i64 (k4 : Int)) _ (op_move hf16) rfl ?_
      refine WL.val (Value.int .i64 (k4 : Int)) _ (op_assign rfl) rfl ?_
      refine WL.nil ?_
      refine W.seq (W.region ?_)
      refine WL.val (Value.func (.func g_f1) fst_f1 cap_f1) _ (op_move hf14) rfl ?_
      refine WL.val v_s1 _ (op_move hf13) rfl ?_
      refine WL.val (Value.int .i64 (k4 : Int)) _ (op_move rfl) rfl ?_
      obtain ⟨x21, hx24, hb9⟩ := bs hb9
      obtain ⟨ha22, hb23, hx24⟩ := idx_some hx24
      refine WL.val (Value.pointer (some (elA v_s1 ((k4 : Int)).toNat))) _ (op_idx sl_23 (Ty.lift _ hS18.ext r_s1) rfl rfl ha22 hb23) rfl ?_
      obtain ⟨u25, hc26, hr27⟩ := repSl.el r_s1 hx24
      refine WL.val u25 _ (op_load one_37 rfl (Ext.cell hS18.ext hc26)) rfl ?_
      obtain ⟨x28, hx29, hb9⟩ := bs hb9
      refine WL.call _ (op_callV rfl ok_f1 (args1 rfl)) (call_f1 wd7 u25 x21 x28 hS18.ext (Ty.lift _ hS18.ext hr27) hx29) rfl ?_
      rintro _ wd30 ⟨rfl, he31⟩
      have hS33 := St.extend hS18 he31
      refine WL.nil ?_
      refine W.cond x28 rfl (fun hc34 => ?_) (fun hc34 => ?_)
      · replace hb9 := ip hb9 hc34
        refine W.seq (W.region ?_)
        refine WL.val (Value.int .i64 (k4 : Int)) _ (op_move rfl) rfl ?_
        refine WL.val (Value.int .i64 (k4 : Int)) _ (op_assign rfl) rfl ?_
        refine WL.nil ?_
        refine W.ret ?_
        obtain rfl := Option.some.inj hb9
        obtain rfl := hret12 _ rfl
        replace h := onRes_ret h
        obtain rfl := Option.some.inj h
        show FinP _ _ _ _ _ _ _
        exact FinP.ret _ (res1 rfl rfl) ⟨rfl, hr17, hS33.ext⟩
      · replace hb9 := inegb hb9 hc34
        refine W.skip ?_
        show W _ _ _ _ _ _
        refine W.region ?_
        refine WL.val (Value.int .i64 (w64 ((k4 : Int) + (1 : Int)))) _ (op_add hf16 rfl) rfl ?_
        refine WL.val (Value.int .i64 (w64 ((k4 : Int) + (1 : Int)))) _ (op_move rfl) rfl ?_
        refine WL.nil ?_
        obtain rfl := Option.some.inj hb9
        show ∃ s, _ = Ctl.next s ∧ _
        exact ⟨_, rfl, hf13, hf14, hf15, (ctr_next hl19 hr1), (ctr_rng hl19 hr1), hS33⟩
    · intro s41 f37 wd38 hs39 hI40
      obtain ⟨⟩ := s41
      replace hI40 : f37 0 = v_s1 ∧ f37 1 = (Value.func (.func g_f1) fst_f1 cap_f1) ∧ f37 7 = (Value.int .i64 ((s1).length : Int)) ∧ f37 8 = Value.int .i64 (((s1).length : Nat) : Int) ∧ InR .i64 (((s1).length : Nat) : Int) ∧ St w wd38 [] := hI40
      obtain ⟨hf42, hf43, hf44, hf45, hr46, hS47⟩ := hI40
      refine W.seq (W.region ?_)
      refine WL.val (Value.bool (decide ((((s1).length : Nat) : Int) < ((s1).length : Int)))) _ (op_lss hf45 hf44) rfl ?_
      have hl48 : ¬ (((s1).length : Nat) : Int) < ((s1).length : Int) := by omega
      refine WL.nil ?_
      refine W.seq ?_
      refine W.condF (decide ((((s1).length : Nat) : Int) < ((s1).length : Int))) rfl (decide_eq_false hl48) ?_
      refine W.exit ?_
      show _ = _ ∧ _
      exact ⟨rfl, _, hs39, hS47⟩
  · rintro f49 wd50 ⟨s52, rfl, hq51⟩
    replace h := onRes_fin h
    obtain ⟨⟩ := s52
    replace hq51 : St w wd50 [] := hq51
    have hS53 := hq51
    refine W.seq (W.region ?_)
    refine WL.val (Value.int .i64 (-1 : Int)) _ (op_assign rfl) rfl ?_
    refine WL.nil ?_
    refine W.ret ?_
    obtain rfl := Option.some.inj h
    show FinP _ _ _ _ _ _ _
    exact FinP.ret _ (res1 rfl rfl) ⟨rfl, (inR_i64.2 (show (-9223372036854775808 : Int) ≤ -1 ∧ (-1 : Int) ≤ 9223372036854775807 from by decide)), hS53.ext⟩

theorem c_slices_ContainsFunc_LLLint64_LLint64 {w : World} {s1 : (List (List (List Int)))} {v_s1 : Value} {f1 : (List (List Int)) → Option Bool} {v_f1 : Value} (r_s1 : (Ty.sl (Ty.sl (Ty.sl (Ty.i .i64)))).rep w v_s1 s1) (r_f1 : FnT_lli_to_b Try.prog v_f1 w f1) {res : Bool} (h : p_slices_ContainsFunc_LLLint64_LLint64 s1 f1  = some res) :
    Ret Try.prog 52 #[v_s1, v_f1] w (fun v w' => v = Value.bool res ∧ Ext w w') := by
  unfold p_slices_ContainsFunc_LLLint64_LLint64 at h
  have hS0 : St w w [] := St.start w
  have q_f1 := r_f1
  obtain ⟨g_f1, fst_f1, cap_f1, eq_f1, ok_f1, call_f1⟩ := q_f1
  subst eq_f1
  refine Ret.start (fn := Try.f52) Try.func52 rfl 9 rfl rfl ?_
  refine W.seq (W.region ?_)
  refine WL.val (Value.bool false) _ (op_assign rfl) rfl ?_
  refine WL.nil ?_
  refine W.seq (W.region ?_)
  refine WL.val v_s1 _ (op_move rfl) rfl ?_
  refine WL.val (Value.func (.func g_f1) fst_f1 cap_f1) _ (op_move rfl) rfl ?_
  obtain ⟨x1, hx2, h⟩ := bs h
  refine WL.call _ (op_call fn_60 (args2 rfl rfl)) (c_slices_IndexFunc_LLLint64_LLint64 (Ty.lift _ hS0.ext r_s1) (FnT_lli_to_b.lift hS0.ext r_f1) hx2) rfl ?_
  rintro _ wd4 ⟨rfl, hr3, he5⟩
  have hS7 := St.extend hS0 he5
  replace hS7 : St w wd4 [] := hS7
  refine WL.val (Value.bool (decide (x1 ≥ (0 : Int)))) _ (op_geq rfl rfl) rfl ?_
  refine WL.val (Value.bool (decide (x1 ≥ (0 : Int)))) _ (op_assign rfl) rfl ?_
  refine WL.nil ?_
  refine W.ret ?_
  obtain rfl := Option.some.inj h
  show FinP _ _ _ _ _ _ _
  exact FinP.ret _ (res1 rfl rfl) ⟨rfl, hS7.ext⟩

theorem c_impl_isCochain {w : World} {c_Orders : (List Int)} {v_c_Orders : Value} {c_Modulus : Int} {c_Values : (List (List (List Int)))} {v_c_Values : Value} (r_c_Orders : (Ty.sl (Ty.i .i64)).rep w v_c_Orders c_Orders) (r_c_Modulus : InR .i64 c_Modulus) (r_c_Values : (Ty.sl (Ty.sl (Ty.sl (Ty.i .i64)))).rep w v_c_Values c_Values) {res : Bool} (h : p_impl_isCochain c_Orders c_Modulus c_Values  = some res) :
    Ret Try.prog 34 #[(Value.agg #[v_c_Orders, (Value.int .i64 c_Modulus), v_c_Values])] w (fun v w' => v = Value.bool res ∧ Ext w w') := by
  unfold p_impl_isCochain at h
  have hS0 : St w w [] := St.start w
  refine Ret.start (fn := Try.f34) Try.func34 rfl 28 rfl rfl ?_
  refine W.seq (W.region ?_)
  refine WL.box hS0 rfl (cs := [v_c_Orders, (Value.int .i64 c_Modulus), v_c_Values]) rfl rfl ?_
  intro b1 wd2 hS3 he4 hx5
  replace hS3 : St w wd2 [bx b1 [v_c_Orders, (Value.int .i64 c_Modulus), v_c_Values]] := hS3
  have hx6 := St.boxAt hS3 0 rfl
  have hE7 : Ext w wd2 := hS3.ext
  have hS8 : St wd2 wd2 [] := St.start wd2
  refine WL.val (Value.bool false) _ (op_assign rfl) rfl ?_
  refine WL.nil ?_
  refine W.seq (W.region ?_)
  refine WL.val (Value.pointer (some ⟨b1, 0, none⟩)) _ (op_fieldAddr fd_29_0 rfl) rfl ?_
  refine WL.val v_c_Orders _ (op_load one_22 rfl (BoxAt.cell (BoxAt.lift hS8.ext hx6) rfl)) rfl ?_
  obtain ⟨x9, hx10, h⟩ := bs h
  refine WL.call _ (op_call fn_37 (args1 rfl)) (c_impl_groupSize (Ty.lift _ (Ext.trans hE7 hS8.ext) r_c_Orders) hx10) rfl ?_
  rintro _ wd12 ⟨rfl, hr11, he13⟩
  have hS15 := St.extend hS8 he13
  replace hS15 : St wd2 wd12 [] := hS15
  refine WL.alloc hS15 ze_2 (cs := [(Value.int .i64 (0 : Int))]) rfl rfl ?_
  intro b16 wd17 hS18 he19
  replace hS18 : St wd2 wd17 [bx b16 [(Value.int .i64 (0 : Int))]] := hS18
  refine WL.storeBox [(Value.int .i64 x9)] hS18 (k := 0) rfl rfl rfl (us := [(Value.int .i64 x9)]) rfl sz_2 rfl rfl (all_cons rfl all_nil) rfl ?_
  intro wd20 hS21
  replace hS21 : St wd2 wd20 [bx b16 [(Value.int .i64 x9)]] := hS21
  refine WL.nil ?_
  refine W.seq (W.seq (W.region ?_))
  refine WL.val (Value.int .i64 x9) _ (op_load one_2 rfl (BoxAt.cell (St.boxAt hS21 0 rfl) rfl)) rfl ?_
  obtain ⟨x22, hx23, h⟩ := bs h
  refine WL.call _ (op_call fn_50 (args3 rfl rfl rfl)) (c_impl_within hr11 (inL rfl) (inL rfl) hx23) rfl ?_
  rintro _ wd24 ⟨rfl, he25⟩
  have hS27 := St.extend hS21 he25
  replace hS27 : St wd2 wd24 [bx b16 [(Value.int .i64 x9)]] := hS27
  refine WL.val (Value.bool (!x22)) _ (op_not rfl) rfl ?_
  refine WL.val (Value.bool (!x22)) _ (op_move rfl) rfl ?_
  obtain ⟨x29, hj30, h⟩ := bs h
  refine WL.cut 5 (fun fq wq => fq 1 = (Value.pointer (some ⟨b1, 0, none⟩)) ∧ fq 3 = (Value.pointer (some ⟨b16, 0, none⟩)) ∧ fq 15 = Value.bool x29 ∧ St wd2 wq [bx b16 [(Value.int .i64 x9)]]) ?_ ?_
  · rcases Bool.eq_false_or_eq_true (!x22) with hc28 | hc28
    · replace hj30 := ip hj30 hc28
      refine WL.gskip rfl (bool_of rfl hc28) rfl ?_
      refine WL.gskip rfl (bool_of rfl hc28) rfl ?_
      refine WL.gskip rfl (bool_of rfl hc28) rfl ?_
      refine WL.gskip rfl (bool_of rfl hc28) rfl ?_
      refine WL.val (Value.bool true) _ (op_pick_t (evb_of rfl hc28) rfl) rfl ?_
      refine WL.nil ?_
      obtain rfl := Option.some.inj hj30
      exact ⟨rfl, rfl, rfl, rfl, hS27⟩
    · replace hj30 := inegb hj30 hc28
      refine WL.grun rfl (bool_of rfl hc28) ?_
      refine WL.val (Value.pointer (some ⟨b1, 1, none⟩)) _ (op_fieldAddr fd_29_1 rfl) rfl ?_
      refine WL.grun rfl (bool_of rfl hc28) ?_
      refine WL.val (Value.int .i64 c_Modulus) _ (op_load one_2 rfl (BoxAt.cell (BoxAt.lift hS27.ext hx6) rfl)) rfl ?_
      refine WL.grun rfl (bool_of rfl hc28) ?_
      obtain ⟨x34, hx35, hj30⟩ := bs hj30
      refine WL.call _ (op_call fn_51 (args1 rfl)) (c_impl_isModulus r_c_Modulus hx35) rfl ?_
      rintro _ wd36 ⟨rfl, he37⟩
      have hS39 := St.extend hS27 he37
      replace hS39 : St wd2 wd36 [bx b16 [(Value.int .i64 x9)]] := hS39
      refine WL.grun rfl (bool_of rfl hc28) ?_
      refine WL.val (Value.bool (!x34)) _ (op_not rfl) rfl ?_
      refine WL.val (Value.bool (!x34)) _ (op_pick_f (evb_of rfl hc28) rfl) rfl ?_
      refine WL.nil ?_
      obtain rfl := Option.some.inj hj30
      exact ⟨rfl, rfl, rfl, rfl, hS39⟩
  · intro f31 wd32 hq33
    obtain ⟨hf40, hf41, hf42, hS43⟩ := hq33
    refine WL.val (Value.bool x29) _ (op_move hf42) rfl ?_
    refine WL.cut 6 (fun fq wq => fq 1 = (Value.pointer (some ⟨b1, 0, none⟩)) ∧ fq 3 = (Value.pointer (some ⟨b16, 0, none⟩)) ∧ fq 22 = (Value.bool (x29 || (((c_Values).length : Int) != x9))) ∧ St wd2 wq [bx b16 [(Value.int .i64 x9)]]) ?_ ?_
    · rcases Bool.eq_false_or_eq_true x29 with hc44 | hc44
      · refine WL.gskip rfl (bool_of rfl hc44) rfl ?_
        refine WL.gskip rfl (bool_of rfl hc44) rfl ?_
        refine WL.gskip rfl (bool_of rfl hc44) rfl ?_
        refine WL.gskip rfl (bool_of rfl hc44) rfl ?_
        refine WL.gskip rfl (bool_of rfl hc44) rfl ?_
        refine WL.val (Value.bool true) _ (op_pick_t (evb_of rfl hc44) rfl) rfl ?_
        refine WL.nil ?_
        exact ⟨rfl, hf40, hf41, (orT hc44), hS43⟩
      · refine WL.grun rfl (bool_of rfl hc44) ?_
        refine WL.val (Value.pointer (some ⟨b1, 2, none⟩)) _ (op_fieldAddr fd_29_2 hf40) rfl ?_
        refine WL.grun rfl (bool_of rfl hc44) ?_
        refine WL.val v_c_Values _ (op_load one_23 rfl (BoxAt.cell (BoxAt.lift hS43.ext hx6) rfl)) rfl ?_
        refine WL.grun rfl (bool_of rfl hc44) ?_
        have hr48 := inR_len (Ty.lift _ (Ext.trans hE7 hS43.ext) r_c_Values)
        refine WL.val (Value.int .i64 ((c_Values).length : Int)) _ (op_lenL sl_23 (Ty.lift _ (Ext.trans hE7 hS43.ext) r_c_Values) rfl) rfl ?_
        refine WL.grun rfl (bool_of rfl hc44) ?_
        refine WL.val (Value.int .i64 x9) _ (op_load one_2 hf41 (BoxAt.cell (St.boxAt hS43 0 rfl) rfl)) rfl ?_
        refine WL.grun rfl (bool_of rfl hc44) ?_
        refine WL.val (Value.bool (((c_Values).length : Int) != x9)) _ (op_neq rfl rfl) rfl ?_
        refine WL.val (Value.bool (((c_Values).length : Int) != x9)) _ (op_pick_f (evb_of rfl hc44) rfl) rfl ?_
        refine WL.nil ?_
        exact ⟨rfl, hf40, hf41, (orF hc44), hS43⟩
    · intro f45 wd46 hq47
      obtain ⟨hf49, hf50, hf51, hS52⟩ := hq47
      refine WL.nil ?_
      refine W.cond (x29 || (((c_Values).length : Int) != x9)) hf51 (fun hc53 => ?_) (fun hc53 => ?_)
      · replace h := ip h hc53
        refine W.seq (W.region ?_)
        refine WL.val (Value.bool false) _ (op_assign rfl) rfl ?_
        refine WL.nil ?_
        refine W.ret ?_
        obtain rfl := Option.some.inj h
        show FinP _ _ _ _ _ _ _
        exact FinP.ret _ (res1 rfl rfl) ⟨rfl, (Ext.trans hE7 hS52.ext)⟩
      · replace h := inegb h hc53
        refine W.skip ?_
        refine W.seq (W.region ?_)
        refine WL.val (Value.pointer (some ⟨b1, 2, none⟩)) _ (op_fieldAddr fd_29_2 hf49) rfl ?_
        refine WL.val v_c_Values _ (op_load one_23 rfl (BoxAt.cell (BoxAt.lift hS52.ext hx6) rfl)) rfl ?_
        refine WL.val (Value.func (.func 53) #[] #[(Value.pointer (some ⟨b16, 0, none⟩)), (Value.pointer (some ⟨b1, 0, none⟩))]) _ (op_makeFunc (va := #[]) (vb := #[(Value.pointer (some ⟨b16, 0, none⟩)), (Value.pointer (some ⟨b1, 0, none⟩))]) args0 (args2 hf50 hf49)) rfl ?_
        obtain ⟨x59, hx60, h⟩ := bs h
        refine WL.call _ (op_call fn_52 (args2 rfl rfl)) (c_slices_ContainsFunc_LLLint64_LLint64 (Ty.lift _ (Ext.trans hE7 hS52.ext) r_c_Values) (⟨53, #[], #[(Value.pointer (some ⟨b16, 0, none⟩)), (Value.pointer (some ⟨b1, 0, none⟩))], rfl, fn_53, fun wd55 u0_56 a0_56 r57 he56 ra0_56 hq58 => c_impl_isCochain_c1 ra0_56 (BoxAt.lift he56 (St.boxAt hS52 0 rfl)) hr11 (BoxAt.lift (Ext.trans hS52.ext he56) hx6) (Ty.lift _ (Ext.trans (Ext.trans hE7 hS52.ext) he56) r_c_Orders) r_c_Modulus (Ty.lift _ (Ext.trans (Ext.trans hE7 hS52.ext) he56) r_c_Values) hq58⟩) hx60) rfl ?_
        rintro _ wd61 ⟨rfl, he62⟩
        have hS64 := St.extend hS52 he62
        replace hS64 : St wd2 wd61 [bx b16 [(Value.int .i64 x9)]] := hS64
        refine WL.val (Value.bool (!x59)) _ (op_not rfl) rfl ?_
        refine WL.val (Value.bool (!x59)) _ (op_assign rfl) rfl ?_
        refine WL.nil ?_
        refine W.ret ?_
        obtain rfl := Option.some.inj h
        show FinP _ _ _ _ _ _ _
        exact FinP.ret _ (res1 rfl rfl) ⟨rfl, (Ext.trans hE7 hS64.ext)⟩

theorem c_impl_Cocycle_isNormalised {w : World} {c_Orders : (List Int)} {v_c_Orders : Value} {c_Modulus : Int} {c_Values : (List (List (List Int)))} {v_c_Values : Value} (r_c_Orders : (Ty.sl (Ty.i .i64)).rep w v_c_Orders c_Orders) (r_c_Modulus : InR .i64 c_Modulus) (r_c_Values : (Ty.sl (Ty.sl (Ty.sl (Ty.i .i64)))).rep w v_c_Values c_Values) {res : Bool} (h : p_impl_Cocycle_isNormalised c_Orders c_Modulus c_Values  = some res) :
    Ret Try.prog 35 #[(Value.agg #[v_c_Orders, (Value.int .i64 c_Modulus), v_c_Values])] w (fun v w' => v = Value.bool res ∧ Ext w w') := by
  unfold p_impl_Cocycle_isNormalised at h
  have hS0 : St w w [] := St.start w
  refine Ret.start (fn := Try.f35) Try.func35 rfl 48 rfl rfl ?_
  refine W.seq (W.region ?_)
  refine WL.box hS0 rfl (cs := [v_c_Orders, (Value.int .i64 c_Modulus), v_c_Values]) rfl rfl ?_
  intro b1 wd2 hS3 he4 hx5
  replace hS3 : St w wd2 [bx b1 [v_c_Orders, (Value.int .i64 c_Modulus), v_c_Values]] := hS3
  have hx6 := St.boxAt hS3 0 rfl
  have hE7 : Ext w wd2 := hS3.ext
  have hS8 : St wd2 wd2 [] := St.start wd2
  refine WL.val (Value.bool false) _ (op_assign rfl) rfl ?_
  refine WL.nil ?_
  refine W.seq (W.seq (W.region ?_))
  refine WL.val (Value.pointer (some ⟨b1, 2, none⟩)) _ (op_fieldAddr fd_29_2 rfl) rfl ?_
  refine WL.val v_c_Values _ (op_load one_23 rfl (BoxAt.cell (BoxAt.lift hS8.ext hx6) rfl)) rfl ?_
  have hr9 := inR_len (Ty.lift _ (Ext.trans hE7 hS8.ext) r_c_Values)
  refine WL.val (Value.int .i64 ((c_Values).length : Int)) _ (op_lenL sl_23 (Ty.lift _ (Ext.trans hE7 hS8.ext) r_c_Values) rfl) rfl ?_
  refine WL.val (Value.int .i64 (0 : Int)) _ (op_move rfl) rfl ?_
  refine WL.nil ?_
  show W _ _ _ _ _ _
  obtain ⟨res10, hres11, h⟩ := bs h
  refine W.blockLoop (fun fq wq => ∃ s, res10 = Res.fin s ∧ St wd2 wq []) ?_ ?_
  · refine W.forN (fun k (s : Unit) fq wq => fq 10 = v_c_Values ∧ fq 11 = (Value.int .i64 ((c_Values).length : Int)) ∧ fq 12 = Value.int .i64 (k : Int) ∧ InR .i64 (k : Int) ∧ St wd2 wq []) hres11 ⟨rfl, rfl, rfl, (inL rfl), hS8⟩ ?_ ?_
    · intro k12 s181 ct13 f14 wd15 hk16 hb17 hI18 hbrk19 hret20
      obtain ⟨⟩ := s181
      replace hI18 : f14 10 = v_c_Values ∧ f14 11 = (Value.int .i64 ((c_Values).length : Int)) ∧ f14 12 = Value.int .i64 (k12 : Int) ∧ InR .i64 (k12 : Int) ∧ St wd2 wd15 [] := hI18
      replace hb17 : p_impl_Cocycle_isNormalised_L1 c_Values k12  = some ct13 := hb17
      unfold p_impl_Cocycle_isNormalised_L1 at hb17
      obtain ⟨hf21, hf22, hf23, hr24, hS25⟩ := hI18
      refine W.seq (W.region ?_)
      refine WL.val (Value.bool (decide ((k12 : Int) < ((c_Values).length : Int)))) _ (op_lss hf23 hf22) rfl ?_
      have hl26 : (k12 : Int) < ((c_Values).length : Int) := by omega
      refine WL.nil ?_
      refine W.seq ?_
      refine W.condT (decide ((k12 : Int) < ((c_Values).length : Int))) rfl (decide_eq_true hl26) ?_
      refine W.skip ?_
      refine W.seq ?_
      refine W.block ?_
      refine W.seq (W.region ?_)
      refine WL.val (Value.int .i64 (k12 : Int)) _ (op_move hf23) rfl ?_
      obtain ⟨x28, hx31, hb17⟩ := bs hb17
      obtain ⟨ha29, hb30, hx31⟩ := idx_some hx31
      refine WL.val (Value.pointer (some (elA v_c_Values ((k12 : Int)).toNat))) _ (op_idx sl_23 (Ty.lift _ (Ext.trans hE7 hS25.ext) r_c_Values) hf21 hf23 ha29 hb30) rfl ?_
      obtain ⟨u32, hc33, hr34⟩ := repSl.el r_c_Values hx31
      refine WL.val u32 _ (op_load one_37 rfl (Ext.cell (Ext.trans hE7 hS25.ext) hc33)) rfl ?_
      refine WL.val (Value.int .i64 (k12 : Int)) _ (op_assign rfl) rfl ?_
      refine WL.val u32 _ (op_assign rfl) rfl ?_
      refine WL.nil ?_
      refine W.seq (W.region ?_)
      refine WL.val u32 _ (op_move rfl) rfl ?_
      have hr35 := inR_len (Ty.lift _ (Ext.trans hE7 hS25.ext) hr34)
      refine WL.val (Value.int .i64 ((x28).length : Int)) _ (op_lenL sl_37 (Ty.lift _ (Ext.trans hE7 hS25.ext) hr34) rfl) rfl ?_
      refine WL.val (Value.int .i64 (0 : Int)) _ (op_move rfl) rfl ?_
      refine WL.nil ?_
      show W _ _ _ _ _ _
      obtain ⟨res36, hres37, hb17⟩ := bs hb17
      refine W.blockLoop (fun fq wq => ∃ s, res36 = Res.fin s ∧ fq 10 = v_c_Values ∧ fq 11 = (Value.int .i64 ((c_Values).length : Int)) ∧ fq 12 = (Value.int .i64 (k12 : Int)) ∧ St wd2 wq []) ?_ ?_
      · refine W.forN (fun k (s : Unit) fq wq => fq 3 = (Value.int .i64 (k12 : Int)) ∧ fq 10 = v_c_Values ∧ fq 11 = (Value.int .i64 ((c_Values).length : Int)) ∧ fq 12 = (Value.int .i64 (k12 : Int)) ∧ fq 17 = u32 ∧ fq 18 = (Value.int .i64 ((x28).length : Int)) ∧ fq 19 = Value.int .i64 (k : Int) ∧ InR .i64 (k : Int) ∧ St wd2 wq []) hres37 ⟨rfl, hf21, hf22, hf23, rfl, rfl, rfl, (inL rfl), hS25⟩ ?_ ?_
        · intro k38 s156 ct39 f40 wd41 hk42 hb43 hI44 hbrk45 hret46
          obtain ⟨⟩ := s156
          replace hI44 : f40 3 = (Value.int .i64 (k12 : Int)) ∧ f40 10 = v_c_Values ∧ f40 11 = (Value.int .i64 ((c_Values).length : Int)) ∧ f40 12 = (Value.int .i64 (k12 : Int)) ∧ f40 17 = u32 ∧ f40 18 = (Value.int .i64 ((x28).length : Int)) ∧ f40 19 = Value.int .i64 (k38 : Int) ∧ InR .i64 (k38 : Int) ∧ St wd2 wd41 [] := hI44
          replace hb43 : p_impl_Cocycle_isNormalised_L2 x28 k12 k38  = some ct39 := hb43
          unfold p_impl_Cocycle_isNormalised_L2 at hb43
          obtain ⟨hf47, hf48, hf49, hf50, hf51, hf52, hf53, hr54, hS55⟩ := hI44
          refine W.seq (W.region ?_)
          refine WL.val (Value.bool (decide ((k38 : Int) < ((x28).length : Int)))) _ (op_lss hf53 hf52) rfl ?_
          have hl56 : (k38 : Int) < ((x28).length : Int) := by omega
          refine WL.nil ?_
          refine W.seq ?_
          refine W.condT (decide ((k38 : Int) < ((x28).length : Int))) rfl (decide_eq_true hl56) ?_
          refine W.skip ?_
          refine W.seq ?_
          refine W.block ?_
          refine W.seq (W.region ?_)
          refine WL.val (Value.int .i64 (k38 : Int)) _ (op_move hf53) rfl ?_
          obtain ⟨x58, hx61, hb43⟩ := bs hb43
          obtain ⟨ha59, hb60, hx61⟩ := idx_some hx61
          refine WL.val (Value.pointer (some (elA u32 ((k38 : Int)).toNat))) _ (op_idx sl_37 (Ty.lift _ (Ext.trans hE7 hS55.ext) hr34) hf51 hf53 ha59 hb60) rfl ?_
          obtain ⟨u62, hc63, hr64⟩ := repSl.el hr34 hx61
          refine WL.val u62 _ (op_load one_22 rfl (Ext.cell (Ext.trans hE7 hS55.ext) hc63)) rfl ?_
          refine WL.val (Value.int .i64 (k38 : Int)) _ (op_assign rfl) rfl ?_
          refine WL.val u62 _ (op_assign rfl) rfl ?_
          refine WL.nil ?_
          refine W.seq (W.region ?_)
          refine WL.val u62 _ (op_move rfl) rfl ?_
          have hr65 := inR_len (Ty.lift _ (Ext.trans hE7 hS55.ext) hr64)
          refine WL.val (Value.int .i64 ((x58).length : Int)) _ (op_lenL sl_22 (Ty.lift _ (Ext.trans hE7 hS55.ext) hr64) rfl) rfl ?_
          refine WL.val (Value.int .i64 (0 : Int)) _ (op_move rfl) rfl ?_
          refine WL.nil ?_
          show W _ _ _ _ _ _
          obtain ⟨res66, hres67, hb43⟩ := bs hb43
          refine W.blockLoop (fun fq wq => ∃ s, res66 = Res.fin s ∧ fq 3 = (Value.int .i64 (k12 : Int)) ∧ fq 10 = v_c_Values ∧ fq 11 = (Value.int .i64 ((c_Values).length : Int)) ∧ fq 12 = (Value.int .i64 (k12 : Int)) ∧ fq 17 = u32 ∧ fq 18 = (Value.int .i64 ((x28).length : Int)) ∧ fq 19 = (Value.int .i64 (k38 : Int)) ∧ St wd2 wq []) ?_ ?_
          · refine W.forN (fun k (s : Unit) fq wq => fq 3 = (Value.int .i64 (k12 : Int)) ∧ fq 5 = (Value.int .i64 (k38 : Int)) ∧ fq 10 = v_c_Values ∧ fq 11 = (Value.int .i64 ((c_Values).length : Int)) ∧ fq 12 = (Value.int .i64 (k12 : Int)) ∧ fq 17 = u32 ∧ fq 18 = (Value.int .i64 ((x28).length : Int)) ∧ fq 19 = (Value.int .i64 (k38 : Int)) ∧ fq 24 = u62 ∧ fq 25 = (Value.int .i64 ((x58).length : Int)) ∧ fq 26 = Value.int .i64 (k : Int) ∧ InR .i64 (k : Int) ∧ St wd2 wq []) hres67 ⟨hf47, rfl, hf48, hf49, hf50, hf51, hf52, hf53, rfl, rfl, rfl, (inL rfl), hS55⟩ ?_ ?_
            · intro k68 s123 ct69 f70 wd71 hk72 hb73 hI74 hbrk75 hret76
              obtain ⟨⟩ := s123
              replace hI74 : f70 3 = (Value.int .i64 (k12 : Int)) ∧ f70 5 = (Value.int .i64 (k38 : Int)) ∧ f70 10 = v_c_Values ∧ f70 11 = (Value.int .i64 ((c_Values).length : Int)) ∧ f70 12 = (Value.int .i64 (k12 : Int)) ∧ f70 17 = u32 ∧ f70 18 = (Value.int .i64 ((x28).length : Int)) ∧ f70 19 = (Value.int .i64 (k38 : Int)) ∧ f70 24 = u62 ∧ f70 25 = (Value.int .i64 ((x58).length : Int)) ∧ f70 26 = Value.int .i64 (k68 : Int) ∧ InR .i64 (k68 : Int) ∧ St wd2 wd71 [] := hI74
              replace hb73 : p_impl_Cocycle_isNormalised_L3 x58 k12 k38 k68  = some ct69 := hb73
              unfold p_impl_Cocycle_isNormalised_L3 at hb73
              obtain ⟨hf77, hf78, hf79, hf80, hf81, hf82, hf83, hf84, hf85, hf86, hf87, hr88, hS89⟩ := hI74
              refine W.seq (W.region ?_)
              refine WL.val (Value.bool (decide ((k68 : Int) < ((x58).length : Int)))) _ (op_lss hf87 hf86) rfl ?_
              have hl90 : (k68 : Int) < ((x58).length : Int) := by omega
              refine WL.nil ?_
              refine W.seq ?_
              refine W.condT (decide ((k68 : Int) < ((x58).length : Int))) rfl (decide_eq_true hl90) ?_
              refine W.skip ?_
              refine W.seq ?_
              refine W.block ?_
              refine W.seq (W.region ?_)
              refine WL.val (Value.int .i64 (k68 : Int)) _ (op_move hf87) rfl ?_
              obtain ⟨x92, hx95, hb73⟩ := bs hb73
              obtain ⟨ha93, hb94, hx95⟩ := idx_some hx95
              refine WL.val (Value.pointer (some (elA u62 ((k68 : Int)).toNat))) _ (op_idx sl_22 (Ty.lift _ (Ext.trans hE7 hS89.ext) hr64) hf85 hf87 ha93 hb94) rfl ?_
              obtain ⟨u96, hc97, hr98⟩ := repSl.el hr64 hx95
              obtain ⟨rfl, hr98⟩ := hr98
              refine WL.val (Value.int .i64 x92) _ (op_load one_2 rfl (Ext.cell (Ext.trans hE7 hS89.ext) hc97)) rfl ?_
              refine WL.val (Value.int .i64 (k68 : Int)) _ (op_assign rfl) rfl ?_
              refine WL.val (Value.int .i64 x92) _ (op_assign rfl) rfl ?_
              refine WL.nil ?_
              refine W.seq ?_
              obtain ⟨x99, hj100, hb73⟩ := bs hb73
              refine W.cutCode (fun fq wq => fq 3 = (Value.int .i64 (k12 : Int)) ∧ fq 5 = (Value.int .i64 (k38 : Int)) ∧ fq 10 = v_c_Values ∧ fq 11 = (Value.int .i64 ((c_Values).length : Int)) ∧ fq 12 = (Value.int .i64 (k12 : Int)) ∧ fq 17 = u32 ∧ fq 18 = (Value.int .i64 ((x28).length : Int)) ∧ fq 19 = (Value.int .i64 (k38 : Int)) ∧ fq 24 = u62 ∧ fq 25 = (Value.int .i64 ((x58).length : Int)) ∧ fq 26 = (Value.int .i64 (k68 : Int)) ∧ fq 44 = Value.bool x99 ∧ St wd2 wq []) ?_ ?_
              · refine W.region ?_
                refine WL.val (Value.int .i64 x92) _ (op_move rfl) rfl ?_
                refine WL.val (Value.bool (x92 != (0 : Int))) _ (op_neq rfl rfl) rfl ?_
                refine WL.val (Value.bool (x92 != (0 : Int))) _ (op_move rfl) rfl ?_
                rcases Bool.eq_false_or_eq_true (x92 != (0 : Int)) with hc101 | hc101
                · replace hj100 := ip hj100 hc101
                  refine WL.grun rfl (bool_of rfl hc101) ?_
                  refine WL.val (Value.int .i64 (k12 : Int)) _ (op_move hf77) rfl ?_
                  refine WL.grun rfl (bool_of rfl hc101) ?_
                  refine WL.val (Value.bool ((k12 : Int) == (0 : Int))) _ (op_eql rfl rfl) rfl ?_
                  refine WL.grun rfl (bool_of rfl hc101) ?_
                  refine WL.val (Value.bool ((k12 : Int) == (0 : Int))) _ (op_move rfl) rfl ?_
                  rcases Bool.eq_false_or_eq_true ((k12 : Int) == (0 : Int)) with hc102 | hc102
                  · replace hj100 := ip hj100 hc102
                    refine WL.gskip rfl (bool_of rfl hc102) rfl ?_
                    refine WL.gskip rfl (bool_of rfl hc102) rfl ?_
                    refine WL.grun rfl (bool_of rfl hc101) ?_
                    refine WL.val (Value.bool true) _ (op_pick_t (evb_of rfl hc102) rfl) rfl ?_
                    refine WL.grun rfl (bool_of rfl hc101) ?_
                    refine WL.val (Value.bool true) _ (op_move rfl) rfl ?_
                    rcases Bool.eq_false_or_eq_true true with hc103 | hc103
                    · replace hj100 := ip hj100 hc103
                      refine WL.gskip rfl (bool_of rfl hc103) rfl ?_
                      refine WL.gskip rfl (bool_of rfl hc103) rfl ?_
                      refine WL.grun rfl (bool_of rfl hc101) ?_
                      refine WL.val (Value.bool true) _ (op_pick_t (evb_of rfl hc103) rfl) rfl ?_
                      refine WL.val (Value.bool true) _ (op_pick_t (evb_of rfl hc101) rfl) rfl ?_
                      refine WL.nil ?_
                      obtain rfl := Option.some.inj hj100
                      exact ⟨hf77, hf78, hf79, hf80, hf81, hf82, hf83, hf84, hf85, hf86, hf87, rfl, hS89⟩
                    · replace hj100 := inegb hj100 hc103
                      refine WL.grun rfl (bool_of rfl hc103) ?_
                      refine WL.val (Value.int .i64 (k68 : Int)) _ (op_move rfl) rfl ?_
                      refine WL.grun rfl (bool_of rfl hc103) ?_
                      refine WL.val (Value.bool ((k68 : Int) == (0 : Int))) _ (op_eql rfl rfl) rfl ?_
                      refine WL.grun rfl (bool_of rfl hc101) ?_
                      refine WL.val (Value.bool ((k68 : Int) == (0 : Int))) _ (op_pick_f (evb_of rfl hc103) rfl) rfl ?_
                      refine WL.val (Value.bool ((k68 : Int) == (0 : Int))) _ (op_pick_t (evb_of rfl hc101) rfl) rfl ?_
                      refine WL.nil ?_
                      obtain rfl := Option.some.inj hj100
                      exact ⟨hf77, hf78, hf79, hf80, hf81, hf82, hf83, hf84, hf85, hf86, hf87, rfl, hS89⟩
                  · replace hj100 := inegb hj100 hc102
                    refine WL.grun rfl (bool_of rfl hc102) ?_
                    refine WL.val (Value.int .i64 (k38 : Int)) _ (op_move hf78) rfl ?_
                    refine WL.grun rfl (bool_of rfl hc102) ?_
                    refine WL.val (Value.bool ((k38 : Int) == (0 : Int))) _ (op_eql rfl rfl) rfl ?_
                    refine WL.grun rfl (bool_of rfl hc101) ?_
                    refine WL.val (Value.bool ((k38 : Int) == (0 : Int))) _ (op_pick_f (evb_of rfl hc102) rfl) rfl ?_
                    refine WL.grun rfl (bool_of rfl hc101) ?_
                    refine WL.val (Value.bool ((k38 : Int) == (0 : Int))) _ (op_move rfl) rfl ?_
                    rcases Bool.eq_false_or_eq_true ((k38 : Int) == (0 : Int)) with hc104 | hc104
                    · replace hj100 := ip hj100 hc104
                      refine WL.gskip rfl (bool_of rfl hc104) rfl ?_
                      refine WL.gskip rfl (bool_of rfl hc104) rfl ?_
                      refine WL.grun rfl (bool_of rfl hc101) ?_
                      refine WL.val (Value.bool true) _ (op_pick_t (evb_of rfl hc104) rfl) rfl ?_
                      refine WL.val (Value.bool true) _ (op_pick_t (evb_of rfl hc101) rfl) rfl ?_
                      refine WL.nil ?_
                      obtain rfl := Option.some.inj hj100
                      exact ⟨hf77, hf78, hf79, hf80, hf81, hf82, hf83, hf84, hf85, hf86, hf87, rfl, hS89⟩
                    · replace hj100 := inegb hj100 hc104
                      refine WL.grun rfl (bool_of rfl hc104) ?_
                      refine WL.val (Value.int .i64 (k68 : Int)) _ (op_move rfl) rfl ?_
                      refine WL.grun rfl (bool_of rfl hc104) ?_
                      refine WL.val (Value.bool ((k68 : Int) == (0 : Int))) _ (op_eql rfl rfl) rfl ?_
                      refine WL.grun rfl (bool_of rfl hc101) ?_
                      refine WL.val (Value.bool ((k68 : Int) == (0 : Int))) _ (op_pick_f (evb_of rfl hc104) rfl) rfl ?_
                      refine WL.val (Value.bool ((k68 : Int) == (0 : Int))) _ (op_pick_t (evb_of rfl hc101) rfl) rfl ?_
                      refine WL.nil ?_
                      obtain rfl := Option.some.inj hj100
                      exact ⟨hf77, hf78, hf79, hf80, hf81, hf82, hf83, hf84, hf85, hf86, hf87, rfl, hS89⟩
                · replace hj100 := inegb hj100 hc101
                  refine WL.gskip rfl (bool_of rfl hc101) rfl ?_
                  refine WL.gskip rfl (bool_of rfl hc101) rfl ?_
                  refine WL.gskip rfl (bool_of rfl hc101) rfl ?_
                  refine WL.gskipu rfl rfl rfl ?_
                  refine WL.gskipu rfl rfl rfl ?_
                  refine WL.gskip rfl (bool_of rfl hc101) rfl ?_
                  refine WL.gskip rfl (bool_of rfl hc101) rfl ?_
                  refine WL.gskipu rfl rfl rfl ?_
                  refine WL.gskipu rfl rfl rfl ?_
                  refine WL.gskip rfl (bool_of rfl hc101) rfl ?_
                  refine WL.val (Value.bool false) _ (op_pick_f (evb_of rfl hc101) rfl) rfl ?_
                  refine WL.nil ?_
                  obtain rfl := Option.some.inj hj100
                  exact ⟨hf77, hf78, hf79, hf80, hf81, hf82, hf83, hf84, hf85, hf86, hf87, rfl, hS89⟩
              · intro f105 wd106 hq107
                obtain ⟨hf108, hf109, hf110, hf111, hf112, hf113, hf114, hf115, hf116, hf117, hf118, hf119, hS120⟩ := hq107
                refine W.cond x99 hf119 (fun hc121 => ?_) (fun hc121 => ?_)
                · replace hb73 := ip hb73 hc121
                  refine W.seq (W.region ?_)
                  refine WL.val (Value.bool false) _ (op_assign rfl) rfl ?_
                  refine WL.nil ?_
                  refine W.ret ?_
                  obtain rfl := Option.some.inj hb73
                  obtain rfl := hret76 _ rfl
                  replace hb43 := onRes_ret hb43
                  obtain rfl := Option.some.inj hb43
                  obtain rfl := hret46 _ rfl
                  replace hb17 := onRes_ret hb17
                  obtain rfl := Option.some.inj hb17
                  obtain rfl := hret20 _ rfl
                  replace h := onRes_ret h
                  obtain rfl := Option.some.inj h
                  show FinP _ _ _ _ _ _ _
                  exact FinP.ret _ (res1 rfl rfl) ⟨rfl, (Ext.trans hE7 hS120.ext)⟩
                · replace hb73 := inegb hb73 hc121
                  refine W.skip ?_
                  show W _ _ _ _ _ _
                  refine W.region ?_
                  refine WL.val (Value.int .i64 (w64 ((k68 : Int) + (1 : Int)))) _ (op_add hf118 rfl) rfl ?_
                  refine WL.val (Value.int .i64 (w64 ((k68 : Int) + (1 : Int)))) _ (op_move rfl) rfl ?_
                  refine WL.nil ?_
                  obtain rfl := Option.some.inj hb73
                  show ∃ s, _ = Ctl.next s ∧ _
                  exact ⟨_, rfl, hf108, hf109, hf110, hf111, hf112, hf113, hf114, hf115, hf116, hf117, (ctr_next hl90 hr65), (ctr_rng hl90 hr65), hS120⟩
            · intro s128 f124 wd125 hs126 hI127
              obtain ⟨⟩ := s128
              replace hI127 : f124 3 = (Value.int .i64 (k12 : Int)) ∧ f124 5 = (Value.int .i64 (k38 : Int)) ∧ f124 10 = v_c_Values ∧ f124 11 = (Value.int .i64 ((c_Values).length : Int)) ∧ f124 12 = (Value.int .i64 (k12 : Int)) ∧ f124 17 = u32 ∧ f124 18 = (Value.int .i64 ((x28).length : Int)) ∧ f124 19 = (Value.int .i64 (k38 : Int)) ∧ f124 24 = u62 ∧ f124 25 = (Value.int .i64 ((x58).length : Int)) ∧ f124 26 = Value.int .i64 (((x58).length : Nat) : Int) ∧ InR .i64 (((x58).length : Nat) : Int) ∧ St wd2 wd125 [] := hI127
              obtain ⟨hf129, hf130, hf131, hf132, hf133, hf134, hf135, hf136, hf137, hf138, hf139, hr140, hS141⟩ := hI127
              refine W.seq (W.region ?_)
              refine WL.val (Value.bool (decide ((((x58).length : Nat) : Int) < ((x58).length : Int)))) _ (op_lss hf139 hf138) rfl ?_
              have hl142 : ¬ (((x58).length : Nat) : Int) < ((x58).length : Int) := by omega
              refine WL.nil ?_
              refine W.seq ?_
              refine W.condF (decide ((((x58).length : Nat) : Int) < ((x58).length : Int))) rfl (decide_eq_false hl142) ?_
              refine W.exit ?_
              show _ = _ ∧ _
              exact ⟨rfl, _, hs126, hf129, hf131, hf132, hf133, hf134, hf135, hf136, hS141⟩
          · rintro f143 wd144 ⟨s146, rfl, hq145⟩
            replace hb43 := onRes_fin hb43
            obtain ⟨⟩ := s146
            replace hq145 : f143 3 = (Value.int .i64 (k12 : Int)) ∧ f143 10 = v_c_Values ∧ f143 11 = (Value.int .i64 ((c_Values).length : Int)) ∧ f143 12 = (Value.int .i64 (k12 : Int)) ∧ f143 17 = u32 ∧ f143 18 = (Value.int .i64 ((x28).length : Int)) ∧ f143 19 = (Value.int .i64 (k38 : Int)) ∧ St wd2 wd144 [] := hq145
            obtain ⟨hf147, hf148, hf149, hf150, hf151, hf152, hf153, hS154⟩ := hq145
            show W _ _ _ _ _ _
            refine W.region ?_
            refine WL.val (Value.int .i64 (w64 ((k38 : Int) + (1 : Int)))) _ (op_add hf153 rfl) rfl ?_
            refine WL.val (Value.int .i64 (w64 ((k38 : Int) + (1 : Int)))) _ (op_move rfl) rfl ?_
            refine WL.nil ?_
            obtain rfl := Option.some.inj hb43
            show ∃ s, _ = Ctl.next s ∧ _
            exact ⟨_, rfl, hf147, hf148, hf149, hf150, hf151, hf152, (ctr_next hl56 hr35), (ctr_rng hl56 hr35), hS154⟩
        · intro s161 f157 wd158 hs159 hI160
          obtain ⟨⟩ := s161
          replace hI160 : f157 3 = (Value.int .i64 (k12 : Int)) ∧ f157 10 = v_c_Values ∧ f157 11 = (Value.int .i64 ((c_Values).length : Int)) ∧ f157 12 = (Value.int .i64 (k12 : Int)) ∧ f157 17 = u32 ∧ f157 18 = (Value.int .i64 ((x28).length : Int)) ∧ f157 19 = Value.int .i64 (((x28).length : Nat) : Int) ∧ InR .i64 (((x28).length : Nat) : Int) ∧ St wd2 wd158 [] := hI160
          obtain ⟨hf162, hf163, hf164, hf165, hf166, hf167, hf168, hr169, hS170⟩ := hI160
          refine W.seq (W.region ?_)
          refine WL.val (Value.bool (decide ((((x28).length : Nat) : Int) < ((x28).length : Int)))) _ (op_lss hf168 hf167) rfl ?_
          have hl171 : ¬ (((x28).length : Nat) : Int) < ((x28).length : Int) := by omega
          refine WL.nil ?_
          refine W.seq ?_
          refine W.condF (decide ((((x28).length : Nat) : Int) < ((x28).length : Int))) rfl (decide_eq_false hl171) ?_
          refine W.exit ?_
          show _ = _ ∧ _
          exact ⟨rfl, _, hs159, hf163, hf164, hf165, hS170⟩
      · rintro f172 wd173 ⟨s175, rfl, hq174⟩
        replace hb17 := onRes_fin hb17
        obtain ⟨⟩ := s175
        replace hq174 : f172 10 = v_c_Values ∧ f172 11 = (Value.int .i64 ((c_Values).length : Int)) ∧ f172 12 = (Value.int .i64 (k12 : Int)) ∧ St wd2 wd173 [] := hq174
        obtain ⟨hf176, hf177, hf178, hS179⟩ := hq174
        show W _ _ _ _ _ _
        refine W.region ?_
        refine WL.val (Value.int .i64 (w64 ((k12 : Int) + (1 : Int)))) _ (op_add hf178 rfl) rfl ?_
        refine WL.val (Value.int .i64 (w64 ((k12 : Int) + (1 : Int)))) _ (op_move rfl) rfl ?_
        refine WL.nil ?_
        obtain rfl := Option.some.inj hb17
        show ∃ s, _ = Ctl.next s ∧ _
        exact ⟨_, rfl, hf176, hf177, (ctr_next hl26 hr9), (ctr_rng hl26 hr9), hS179⟩
    · intro s186 f182 wd183 hs184 hI185
      obtain ⟨⟩ := s186
      replace hI185 : f182 10 = v_c_Values ∧ f182 11 = (Value.int .i64 ((c_Values).length : Int)) ∧ f182 12 = Value.int .i64 (((c_Values).length : Nat) : Int) ∧ InR .i64 (((c_Values).length : Nat) : Int) ∧ St wd2 wd183 [] := hI185
      obtain ⟨hf187, hf188, hf189, hr190, hS191⟩ := hI185
      refine W.seq (W.region ?_)
      refine WL.val (Value.bool (decide ((((c_Values).length : Nat) : Int) < ((c_Values).length : Int)))) _ (op_lss hf189 hf188) rfl ?_
      have hl192 : ¬ (((c_Values).length : Nat) : Int) < ((c_Values).length : Int) := by omega
      refine WL.nil ?_
      refine W.seq ?_
      refine W.condF (decide ((((c_Values).length : Nat) : Int) < ((c_Values).length : Int))) rfl (decide_eq_false hl192) ?_
      refine W.exit ?_
      show _ = _ ∧ _
      exact ⟨rfl, _, hs184, hS191⟩
  · rintro f193 wd194 ⟨s196, rfl, hq195⟩
    replace h := onRes_fin h
    obtain ⟨⟩ := s196
    replace hq195 : St wd2 wd194 [] := hq195
    have hS197 := hq195
    refine W.seq (W.region ?_)
    refine WL.val (Value.bool true) _ (op_assign rfl) rfl ?_
    refine WL.nil ?_
    refine W.ret ?_
    obtain rfl := Option.some.inj h
    show FinP _ _ _ _ _ _ _
    exact FinP.ret _ (res1 rfl rfl) ⟨rfl, (Ext.trans hE7 hS197.ext)⟩

theorem c_slices_Backward_Lint64_int64_c1 {w : World} {yield : Int → Int → Option Bool} {v_yield : Value} {b_c0 : Nat} {c0 : (List Int)} {v_c0 : Value} (r_yield : FnT_i_i_to_b Try.prog v_yield w yield) (k_c0 : BoxAt w b_c0 [v_c0]) (r_c0 : (Ty.sl (Ty.i .i64)).rep w v_c0 c0) {res : Unit} (h : p_slices_Backward_Lint64_int64_c1 yield c0 = some res) :
    Ret Try.prog 69 #[v_yield, (Value.pointer (some ⟨b_c0, 0, none⟩))] w (fun v w' => v = (Value.tuple #[]) ∧ Ext w w') := by
  unfold p_slices_Backward_Lint64_int64_c1 at h
  have hS0 : St w w [] := St.start w
  have q_yield := r_yield
  obtain ⟨g_yield, fst_yield, cap_yield, eq_yield, ok_yield, call_yield⟩ := q_yield
  subst eq_yield
  refine Ret.start (fn := Try.f69) Try.func69 rfl 19 rfl rfl ?_
  refine W.seq (W.region ?_)
  refine WL.val v_c0 _ (op_load one_22 rfl (BoxAt.cell (BoxAt.lift hS0.ext k_c0) rfl)) rfl ?_
  have hr1 := inR_len (Ty.lift _ hS0.ext r_c0)
  refine WL.val (Value.int .i64 ((c0).length : Int)) _ (op_lenL sl_22 (Ty.lift _ hS0.ext r_c0) rfl) rfl ?_
  refine WL.val (Value.int .i64 (w64 (((c0).length : Int) - (1 : Int)))) _ (op_sub rfl rfl) rfl ?_
  refine WL.val (Value.int .i64 (w64 (((c0).length : Int) - (1 : Int)))) _ (op_assign rfl) rfl ?_
  refine WL.nil ?_
  show W _ _ _ _ _ _
  obtain ⟨res2, hres3, h⟩ := bs h
  refine W.blockLoop (fun fq wq => ∃ s, res2 = Res.fin s ∧ St w wq []) ?_ ?_
  · refine W.whileC (fun (s : Int) fq wq => fq 0 = (Value.func (.func g_yield) fst_yield cap_yield) ∧ fq 1 = (Value.pointer (some ⟨b_c0, 0, none⟩)) ∧ fq 3 = Value.int .i64 s ∧ InR .i64 s ∧ St w wq []) hres3 ⟨rfl, rfl, rfl, (inR_wrap _ _), hS0⟩ ?_
    intro x5 ct6 f7 wd8 hb10 hI11 hbrk12 hret13
    replace hI11 : f7 0 = (Value.func (.func g_yield) fst_yield cap_yield) ∧ f7 1 = (Value.pointer (some ⟨b_c0, 0, none⟩)) ∧ f7 3 = Value.int .i64 x5 ∧ InR .i64 x5 ∧ St w wd8 [] := hI11
    replace hb10 : p_slices_Backward_Lint64_int64_c1_L1 c0 yield  x5 = some ct6 := hb10
    unfold p_slices_Backward_Lint64_int64_c1_L1 at hb10
    obtain ⟨hf14, hf15, hf16, hr17, hS18⟩ := hI11
    refine W.seq (W.seq (W.region ?_))
    refine WL.val (Value.int .i64 x5) _ (op_move hf16) rfl ?_
    refine WL.val (Value.bool (decide (x5 ≥ (0 : Int)))) _ (op_geq rfl rfl) rfl ?_
    refine WL.nil ?_
    refine W.cond (decide (x5 ≥ (0 : Int))) rfl (fun hc19 => ?_) (fun hc19 => ?_)
    · replace hb10 := ip hb10 hc19
      refine W.skip ?_
      refine W.seq ?_
      refine W.block ?_
      refine W.seq (W.region ?_)
      refine WL.val (Value.func (.func g_yield) fst_yield cap_yield) _ (op_move hf14) rfl ?_
      refine WL.val (Value.int .i64 x5) _ (op_move hf16) rfl ?_
      refine WL.val v_c0 _ (op_load one_22 hf15 (BoxAt.cell (BoxAt.lift hS18.ext k_c0) rfl)) rfl ?_
      refine WL.val (Value.int .i64 x5) _ (op_move hf16) rfl ?_
      obtain ⟨x21, hx24, hb10⟩ := bs hb10
      obtain ⟨ha22, hb23, hx24⟩ := idx_some hx24
      refine WL.val (Value.pointer (some (elA v_c0 (x5).toNat))) _ (op_idx sl_22 (Ty.lift _ hS18.ext r_c0) rfl rfl ha22 hb23) rfl ?_
      obtain ⟨u25, hc26, hr27⟩ := repSl.el r_c0 hx24
      obtain ⟨rfl, hr27⟩ := hr27
      refine WL.val (Value.int .i64 x21) _ (op_load one_2 rfl (Ext.cell hS18.ext hc26)) rfl ?_
      obtain ⟨x28, hx29, hb10⟩ := bs hb10
      refine WL.call _ (op_callV rfl ok_yield (args2 rfl rfl)) (call_yield wd8 x5 x21 x28 hS18.ext hr17 hr27 hx29) rfl ?_
      rintro _ wd30 ⟨rfl, he31⟩
      have hS33 := St.extend hS18 he31
      refine WL.val (Value.bool (!x28)) _ (op_not rfl) rfl ?_
      refine WL.nil ?_
      refine W.cond (!x28) rfl (fun hc34 => ?_) (fun hc34 => ?_)
      · replace hb10 := ip hb10 hc34
        refine W.ret ?_
        obtain rfl := Option.some.inj hb10
        obtain rfl := hret13 _ rfl
        replace h := onRes_ret h
        obtain rfl := Option.some.inj h
        show FinP _ _ _ _ _ _ _
        exact FinP.ret _ (res0 rfl) ⟨rfl, hS33.ext⟩
      · replace hb10 := inegb hb10 hc34
        refine W.skip ?_
        show W _ _ _ _ _ _
        refine W.region ?_
        refine WL.val (Value.int .i64 x5) _ (op_move hf16) rfl ?_
        refine WL.val (Value.int .i64 (w64 (x5 - (1 : Int)))) _ (op_sub rfl rfl) rfl ?_
        refine WL.val (Value.int .i64 (w64 (x5 - (1 : Int)))) _ (op_assign rfl) rfl ?_
        refine WL.nil ?_
        obtain rfl := Option.some.inj hb10
        show ∃ s, _ = Ctl.next s ∧ _
        exact ⟨_, rfl, hf14, hf15, rfl, (inR_wrap _ _), hS33⟩
    · replace hb10 := inegb hb10 hc19
      refine W.exit ?_
      obtain rfl := Option.some.inj hb10
      show _ = _ ∧ _
      exact ⟨rfl, _, hbrk12 _ rfl, hS18⟩
  · rintro f37 wd38 ⟨x41, rfl, hq39⟩
    replace h := onRes_fin h
    replace hq39 : St w wd38 [] := hq39
    have hS42 := hq39
    obtain rfl := Option.some.inj h
    show FinP _ _ _ _ _ _ _
    exact FinP.end _ (res0 rfl) ⟨rfl, hS42.ext⟩

attribute [local irreducible] WR WI WLI
/-- The rounds' code. -/
noncomputable def bkBody : Code := match Try.f64.body with
  | some (.seq _ (.seq _ (.seq (.seq _ (.block _ (.rangeFunc _ _ _ c))) _))) => c
  | _ => .skip
theorem bk_body {w Wd : World} {f : Fr} {b1 b6 b11 b15 : Nat} {EE : Ent} {a b s0 p0 mm : Int} {m lr : Nat} (r_a : InR .i64 a) (r_b : InR .i64 b) (r_s0 : InR .i64 s0) (r_p0 : InR .i64 p0) (r_mm : InR .i64 mm) (h0m : mm ≠ 0)
    (hf4 : f 4 = Value.pointer (some ⟨b1, 0, none⟩)) (hf5 : f 5 = Value.pointer (some ⟨b6, 0, none⟩)) (hf7 : f 7 = Value.pointer (some ⟨b11, 0, none⟩)) (hf8 : f 8 = Value.pointer (some ⟨b15, 0, none⟩)) (hf10 : f 10 = Value.int .i64 mm)
    (hS22 : St w Wd [bx b1 [Value.int .i64 a], bx b6 [Value.int .i64 b], bx b11 [Value.int .i64 s0], bx b15 [Value.int .i64 p0], EE]) :
    WR Try.prog 38 m lr bkBody (fun _ w' => St w w' [bx b1 [Value.int .i64 (p_impl_addElements_S mm (a, b, s0, p0)).1], bx b6 [Value.int .i64 (p_impl_addElements_S mm (a, b, s0, p0)).2.1], bx b11 [Value.int .i64 (p_impl_addElements_S mm (a, b, s0, p0)).2.2.1], bx b15 [Value.int .i64 (p_impl_addElements_S mm (a, b, s0, p0)).2.2.2], EE]) f Wd := by
  have hfin0 := True.intro
  refine WR.block ?_
  refine WR.seq ?_
  obtain ⟨x60, hz61⟩ : ∃ x, x = (a).tmod mm := ⟨_, rfl⟩ -- HZ
  have h062 := h0m
  obtain ⟨x94, hz95⟩ : ∃ x, x = (b).tmod mm := ⟨_, rfl⟩ -- HZ
  have h096 := h0m
  obtain ⟨x137, hz138⟩ : ∃ x, x = (w64 (x60 + x94)).tmod mm := ⟨_, rfl⟩ -- HZ
  have h0139 := h0m
  have hfin : ∀ {w2 : World}, St w w2 [bx b1 [Value.int .i64 (w64 (a.tdiv mm))], bx b6 [Value.int .i64 (w64 (b.tdiv mm))], bx b11 [Value.int .i64 (w64 (s0 + (w64 (x137 * p0))))], bx b15 [Value.int .i64 (w64 (p0 * mm))], EE] → St w w2 [bx b1 [Value.int .i64 (p_impl_addElements_S mm (a, b, s0, p0)).1], bx b6 [Value.int .i64 (p_impl_addElements_S mm (a, b, s0, p0)).2.1], bx b11 [Value.int .i64 (p_impl_addElements_S mm (a, b, s0, p0)).2.2.1], bx b15 [Value.int .i64 (p_impl_addElements_S mm (a, b, s0, p0)).2.2.2], EE] := by
    intro w2 h; rw [hz138, hz61, hz95] at h; exact h
  refine WR.drawR mixo (by kernel_rfl) 12 [] [fun _ v _ _ => v = (Value.int .i64 s0) ∧ InR .i64 s0, fun _ v _ _ => v = (Value.int .i64 a) ∧ InR .i64 a, fun _ v _ _ => v = (Value.int .i64 mm) ∧ InR .i64 mm, fun _ v _ _ => v = (Value.int .i64 x60) ∧ InR .i64 x60, fun _ v _ _ => v = (Value.int .i64 b) ∧ InR .i64 b, fun _ v _ _ => v = (Value.int .i64 mm) ∧ InR .i64 mm, fun _ v _ _ => v = (Value.int .i64 x94) ∧ InR .i64 x94, fun _ v _ _ => v = (Value.int .i64 (w64 (x60 + x94))) ∧ InR .i64 (w64 (x60 + x94)), fun _ v _ _ => v = (Value.int .i64 mm) ∧ InR .i64 mm, fun _ v _ _ => v = (Value.int .i64 x137) ∧ InR .i64 x137, fun _ v _ _ => v = (Value.int .i64 p0) ∧ InR .i64 p0, fun _ v _ _ => v = (Value.int .i64 (w64 (x137 * p0))) ∧ InR .i64 (w64 (x137 * p0))] (by kernel_rfl) (by kernel_rfl) ⟨pk, pk, pk, pk, pk, pk, pk, pk, pk, pk, pk, pk, trivial⟩ ⟨?_, ?_, ?_, ?_, ?_, ?_, ?_, ?_, ?_, ?_, ?_, ?_, trivial⟩ ?_
  · refine ObX.op rfl fun f23 wd24 he25 hout26 hphi27 => ?_
    have hS28 := St.extend hS22 he25
    have e29 : f23 7 = (Value.pointer (some ⟨b11, 0, none⟩)) := (hout26 7 rfl).trans hf7
    exact OpX.val (Value.int .i64 s0) wd24 rfl (op_load one_2 e29 (BoxAt.cell (St.boxAt hS28 2 rfl) rfl)) (Ext.refl _) ⟨rfl, r_s0⟩
  · refine ObX.op rfl fun f30 wd31 he32 hout33 hphi34 => ?_
    have hS35 := St.extend hS22 he32
    have e36 : f30 4 = (Value.pointer (some ⟨b1, 0, none⟩)) := (hout33 4 rfl).trans hf4
    exact OpX.val (Value.int .i64 a) wd31 rfl (op_load one_2 e36 (BoxAt.cell (St.boxAt hS35 0 rfl) rfl)) (Ext.refl _) ⟨rfl, r_a⟩
  · refine ObX.op rfl fun f37 wd38 he39 hout40 hphi41 => ?_
    have e43 : f37 10 = (Value.int .i64 mm) := (hout40 10 rfl).trans hf10
    exact OpX.val (Value.int .i64 mm) wd38 rfl (op_move e43) (Ext.refl _) ⟨rfl, r_mm⟩
  · refine ObX.op rfl fun f44 wd45 he46 hout47 hphi48 => ?_
    obtain ⟨S50, hS51, hf52⟩ := hphi48 1 16 _ rfl rfl rfl
    obtain ⟨e53, hr54⟩ := hf52
    obtain ⟨S55, hS56, hf57⟩ := hphi48 2 17 _ rfl rfl rfl
    obtain ⟨e58, hr59⟩ := hf57
    have hr63 : InR .i64 x60 := by rw [hz61]; exact inR_tmod hr54
    exact OpX.val (Value.int .i64 x60) wd45 rfl (by rw [hz61]; exact op_rem e53 e58 h062) (Ext.refl _) ⟨rfl, hr63⟩
  · refine ObX.op rfl fun f64 wd65 he66 hout67 hphi68 => ?_
    have hS69 := St.extend hS22 he66
    have e70 : f64 5 = (Value.pointer (some ⟨b6, 0, none⟩)) := (hout67 5 rfl).trans hf5
    exact OpX.val (Value.int .i64 b) wd65 rfl (op_load one_2 e70 (BoxAt.cell (St.boxAt hS69 1 rfl) rfl)) (Ext.refl _) ⟨rfl, r_b⟩
  · refine ObX.op rfl fun f71 wd72 he73 hout74 hphi75 => ?_
    have e77 : f71 10 = (Value.int .i64 mm) := (hout74 10 rfl).trans hf10
    exact OpX.val (Value.int .i64 mm) wd72 rfl (op_move e77) (Ext.refl _) ⟨rfl, r_mm⟩
  · refine ObX.op rfl fun f78 wd79 he80 hout81 hphi82 => ?_
    obtain ⟨S84, hS85, hf86⟩ := hphi82 4 19 _ rfl rfl rfl
    obtain ⟨e87, hr88⟩ := hf86
    obtain ⟨S89, hS90, hf91⟩ := hphi82 5 20 _ rfl rfl rfl
    obtain ⟨e92, hr93⟩ := hf91
    have hr97 : InR .i64 x94 := by rw [hz95]; exact inR_tmod hr88
    exact OpX.val (Value.int .i64 x94) wd79 rfl (by rw [hz95]; exact op_rem e87 e92 h096) (Ext.refl _) ⟨rfl, hr97⟩
  · refine ObX.op rfl fun f98 wd99 he100 hout101 hphi102 => ?_
    obtain ⟨S104, hS105, hf106⟩ := hphi102 3 18 _ rfl rfl rfl
    obtain ⟨e107, hr108⟩ := hf106
    obtain ⟨S109, hS110, hf111⟩ := hphi102 6 21 _ rfl rfl rfl
    obtain ⟨e112, hr113⟩ := hf111
    exact OpX.val (Value.int .i64 (w64 (x60 + x94))) wd99 rfl (op_add e107 e112) (Ext.refl _) ⟨rfl, (inR_wrap _ _)⟩
  · refine ObX.op rfl fun f114 wd115 he116 hout117 hphi118 => ?_
    have e120 : f114 10 = (Value.int .i64 mm) := (hout117 10 rfl).trans hf10
    exact OpX.val (Value.int .i64 mm) wd115 rfl (op_move e120) (Ext.refl _) ⟨rfl, r_mm⟩
  · refine ObX.op rfl fun f121 wd122 he123 hout124 hphi125 => ?_
    obtain ⟨S127, hS128, hf129⟩ := hphi125 7 22 _ rfl rfl rfl
    obtain ⟨e130, hr131⟩ := hf129
    obtain ⟨S132, hS133, hf134⟩ := hphi125 8 23 _ rfl rfl rfl
    obtain ⟨e135, hr136⟩ := hf134
    have hr140 : InR .i64 x137 := by rw [hz138]; exact inR_tmod hr131
    exact OpX.val (Value.int .i64 x137) wd122 rfl (by rw [hz138]; exact op_rem e130 e135 h0139) (Ext.refl _) ⟨rfl, hr140⟩
  · refine ObX.op rfl fun f141 wd142 he143 hout144 hphi145 => ?_
    have hS146 := St.extend hS22 he143
    have e147 : f141 8 = (Value.pointer (some ⟨b15, 0, none⟩)) := (hout144 8 rfl).trans hf8
    exact OpX.val (Value.int .i64 p0) wd142 rfl (op_load one_2 e147 (BoxAt.cell (St.boxAt hS146 3 rfl) rfl)) (Ext.refl _) ⟨rfl, r_p0⟩
  · refine ObX.op rfl fun f148 wd149 he150 hout151 hphi152 => ?_
    obtain ⟨S154, hS155, hf156⟩ := hphi152 9 24 _ rfl rfl rfl
    obtain ⟨e157, hr158⟩ := hf156
    obtain ⟨S159, hS160, hf161⟩ := hphi152 10 25 _ rfl rfl rfl
    obtain ⟨e162, hr163⟩ := hf161
    exact OpX.val (Value.int .i64 (w64 (x137 * p0))) wd149 rfl (op_mul e157 e162) (Ext.refl _) ⟨rfl, (inR_wrap _ _)⟩
  · intro f164 wd165 Ss166 he167 hout168 hSn169 hSd170 hphi171
    show WL _ _ _ _ _ _ _
    have hS172 := St.extend hS22 he167
    obtain ⟨e173, hr174⟩ := hphi171 0 15 _ (by decide) rfl rfl
    obtain ⟨e175, hr176⟩ := hphi171 11 26 _ (by decide) rfl rfl
    have e177 : f164 4 = (Value.pointer (some ⟨b1, 0, none⟩)) := (hout168 4 rfl).trans hf4
    have e178 : f164 5 = (Value.pointer (some ⟨b6, 0, none⟩)) := (hout168 5 rfl).trans hf5
    have e179 : f164 7 = (Value.pointer (some ⟨b11, 0, none⟩)) := (hout168 7 rfl).trans hf7
    have e180 : f164 8 = (Value.pointer (some ⟨b15, 0, none⟩)) := (hout168 8 rfl).trans hf8
    have e181 : f164 10 = (Value.int .i64 mm) := (hout168 10 rfl).trans hf10
    refine WL.val (Value.int .i64 (w64 (s0 + (w64 (x137 * p0))))) _ (op_add e173 e175) rfl ?_
    refine WL.storeBox [(Value.int .i64 (w64 (s0 + (w64 (x137 * p0)))))] hS172 (k := 2) rfl e179 rfl (us := [(Value.int .i64 (w64 (s0 + (w64 (x137 * p0)))))]) rfl sz_2 rfl rfl (all_cons rfl all_nil) rfl ?_
    intro wd182 hS183
    replace hS183 : St w wd182 [bx b1 [(Value.int .i64 a)], bx b6 [(Value.int .i64 b)], bx b11 [(Value.int .i64 (w64 (s0 + (w64 (x137 * p0)))))], bx b15 [(Value.int .i64 p0)], EE] := hS183
    refine WL.nil ?_
    show WR _ _ _ _ _ _ _ _
    refine WR.seq ?_
    refine WR.region (by kernel_rfl) ?_
    refine WL.val (Value.int .i64 p0) _ (op_load one_2 e180 (BoxAt.cell (St.boxAt hS183 3 rfl) rfl)) rfl ?_
    refine WL.val (Value.int .i64 mm) _ (op_move e181) rfl ?_
    refine WL.val (Value.int .i64 (w64 (p0 * mm))) _ (op_mul rfl rfl) rfl ?_
    refine WL.storeBox [(Value.int .i64 (w64 (p0 * mm)))] hS183 (k := 3) rfl e180 rfl (us := [(Value.int .i64 (w64 (p0 * mm)))]) rfl sz_2 rfl rfl (all_cons rfl all_nil) rfl ?_
    intro wd184 hS185
    replace hS185 : St w wd184 [bx b1 [(Value.int .i64 a)], bx b6 [(Value.int .i64 b)], bx b11 [(Value.int .i64 (w64 (s0 + (w64 (x137 * p0)))))], bx b15 [(Value.int .i64 (w64 (p0 * mm)))], EE] := hS185
    refine WL.nil ?_
    show WR _ _ _ _ _ _ _ _
    refine WR.orders mixo (by kernel_rfl) ?_
    intro wd186 he187
    have hS188 := St.extend hS185 he187
    refine WA.take (Value.int .i64 mm) (i := 1) rfl rfl rfl rfl (by kernel_rfl) (fun _ => (op_move e181)) ?_
    refine WA.take (Value.int .i64 mm) (i := 4) rfl rfl rfl rfl (by kernel_rfl) (fun _ => (op_move e181)) ?_
    refine WA.all [0, 3] (by kernel_rfl) rfl ⟨⟨_, rfl, ?_⟩, ⟨_, rfl, ?_⟩, trivial⟩
    · refine WL.val (Value.int .i64 a) _ (op_load one_2 e177 (BoxAt.cell (St.boxAt hS188 0 rfl) rfl)) rfl ?_
      refine WL.nil ?_
      show WA _ _ _ _ _ _ _ _
      refine WA.all [2, 3] (by kernel_rfl) rfl ⟨⟨_, rfl, ?_⟩, ⟨_, rfl, ?_⟩, trivial⟩
      · refine WL.val (Value.int .i64 (w64 ((a).tdiv mm))) _ (op_quo (b := mm) rfl rfl h0m) rfl ?_
        refine WL.nil ?_
        show WA _ _ _ _ _ _ _ _
        refine WA.all [3, 6] (by kernel_rfl) rfl ⟨⟨_, rfl, ?_⟩, ⟨_, rfl, ?_⟩, trivial⟩
        · refine WL.val (Value.int .i64 b) _ (op_load one_2 e178 (BoxAt.cell (St.boxAt hS188 1 rfl) rfl)) rfl ?_
          refine WL.nil ?_
          show WA _ _ _ _ _ _ _ _
          refine WA.all [5, 6] (by kernel_rfl) rfl ⟨⟨_, rfl, ?_⟩, ⟨_, rfl, ?_⟩, trivial⟩
          · refine WL.val (Value.int .i64 (w64 ((b).tdiv mm))) _ (op_quo (b := mm) rfl rfl h0m) rfl ?_
            refine WL.nil ?_
            show WA _ _ _ _ _ _ _ _
            refine WA.all [6] (by kernel_rfl) rfl ⟨⟨_, rfl, ?_⟩, trivial⟩
            · refine WL.storeBox [(Value.int .i64 (w64 ((a).tdiv mm)))] hS188 (k := 0) rfl e177 rfl (us := [(Value.int .i64 (w64 ((a).tdiv mm)))]) rfl sz_2 rfl rfl (all_cons rfl all_nil) rfl ?_
              intro wd189 hS190
              replace hS190 : St w wd189 [bx b1 [(Value.int .i64 (w64 ((a).tdiv mm)))], bx b6 [(Value.int .i64 b)], bx b11 [(Value.int .i64 (w64 (s0 + (w64 (x137 * p0)))))], bx b15 [(Value.int .i64 (w64 (p0 * mm)))], EE] := hS190
              refine WL.nil ?_
              show WA _ _ _ _ _ _ _ _
              refine WA.all [7] (by kernel_rfl) rfl ⟨⟨_, rfl, ?_⟩, trivial⟩
              · refine WL.storeBox [(Value.int .i64 (w64 ((b).tdiv mm)))] hS190 (k := 1) rfl e178 rfl (us := [(Value.int .i64 (w64 ((b).tdiv mm)))]) rfl sz_2 rfl rfl (all_cons rfl all_nil) rfl ?_
                intro wd191 hS192
                replace hS192 : St w wd191 [bx b1 [(Value.int .i64 (w64 ((a).tdiv mm)))], bx b6 [(Value.int .i64 (w64 ((b).tdiv mm)))], bx b11 [(Value.int .i64 (w64 (s0 + (w64 (x137 * p0)))))], bx b15 [(Value.int .i64 (w64 (p0 * mm)))], EE] := hS192
                refine WL.nil ?_
                show WA _ _ _ _ _ _ _ _
                refine WA.done (by kernel_rfl) ?_
                exact hfin hS192
          · refine WL.storeBox [(Value.int .i64 (w64 ((a).tdiv mm)))] hS188 (k := 0) rfl e177 rfl (us := [(Value.int .i64 (w64 ((a).tdiv mm)))]) rfl sz_2 rfl rfl (all_cons rfl all_nil) rfl ?_
            intro wd193 hS194
            replace hS194 : St w wd193 [bx b1 [(Value.int .i64 (w64 ((a).tdiv mm)))], bx b6 [(Value.int .i64 b)], bx b11 [(Value.int .i64 (w64 (s0 + (w64 (x137 * p0)))))], bx b15 [(Value.int .i64 (w64 (p0 * mm)))], EE] := hS194
            refine WL.nil ?_
            show WA _ _ _ _ _ _ _ _
            refine WA.all [5] (by kernel_rfl) rfl ⟨⟨_, rfl, ?_⟩, trivial⟩
            · refine WL.val (Value.int .i64 (w64 ((b).tdiv mm))) _ (op_quo (b := mm) rfl rfl h0m) rfl ?_
              refine WL.nil ?_
              show WA _ _ _ _ _ _ _ _
              refine WA.all [7] (by kernel_rfl) rfl ⟨⟨_, rfl, ?_⟩, trivial⟩
              · refine WL.storeBox [(Value.int .i64 (w64 ((b).tdiv mm)))] hS194 (k := 1) rfl e178 rfl (us := [(Value.int .i64 (w64 ((b).tdiv mm)))]) rfl sz_2 rfl rfl (all_cons rfl all_nil) rfl ?_
                intro wd195 hS196
                replace hS196 : St w wd195 [bx b1 [(Value.int .i64 (w64 ((a).tdiv mm)))], bx b6 [(Value.int .i64 (w64 ((b).tdiv mm)))], bx b11 [(Value.int .i64 (w64 (s0 + (w64 (x137 * p0)))))], bx b15 [(Value.int .i64 (w64 (p0 * mm)))], EE] := hS196
                refine WL.nil ?_
                show WA _ _ _ _ _ _ _ _
                refine WA.done (by kernel_rfl) ?_
                exact hfin hS196
        · refine WL.storeBox [(Value.int .i64 (w64 ((a).tdiv mm)))] hS188 (k := 0) rfl e177 rfl (us := [(Value.int .i64 (w64 ((a).tdiv mm)))]) rfl sz_2 rfl rfl (all_cons rfl all_nil) rfl ?_
          intro wd197 hS198
          replace hS198 : St w wd197 [bx b1 [(Value.int .i64 (w64 ((a).tdiv mm)))], bx b6 [(Value.int .i64 b)], bx b11 [(Value.int .i64 (w64 (s0 + (w64 (x137 * p0)))))], bx b15 [(Value.int .i64 (w64 (p0 * mm)))], EE] := hS198
          refine WL.nil ?_
          show WA _ _ _ _ _ _ _ _
          refine WA.all [3] (by kernel_rfl) rfl ⟨⟨_, rfl, ?_⟩, trivial⟩
          · refine WL.val (Value.int .i64 b) _ (op_load one_2 e178 (BoxAt.cell (St.boxAt hS198 1 rfl) rfl)) rfl ?_
            refine WL.nil ?_
            show WA _ _ _ _ _ _ _ _
            refine WA.all [5] (by kernel_rfl) rfl ⟨⟨_, rfl, ?_⟩, trivial⟩
            · refine WL.val (Value.int .i64 (w64 ((b).tdiv mm))) _ (op_quo (b := mm) rfl rfl h0m) rfl ?_
              refine WL.nil ?_
              show WA _ _ _ _ _ _ _ _
              refine WA.all [7] (by kernel_rfl) rfl ⟨⟨_, rfl, ?_⟩, trivial⟩
              · refine WL.storeBox [(Value.int .i64 (w64 ((b).tdiv mm)))] hS198 (k := 1) rfl e178 rfl (us := [(Value.int .i64 (w64 ((b).tdiv mm)))]) rfl sz_2 rfl rfl (all_cons rfl all_nil) rfl ?_
                intro wd199 hS200
                replace hS200 : St w wd199 [bx b1 [(Value.int .i64 (w64 ((a).tdiv mm)))], bx b6 [(Value.int .i64 (w64 ((b).tdiv mm)))], bx b11 [(Value.int .i64 (w64 (s0 + (w64 (x137 * p0)))))], bx b15 [(Value.int .i64 (w64 (p0 * mm)))], EE] := hS200
                refine WL.nil ?_
                show WA _ _ _ _ _ _ _ _
                refine WA.done (by kernel_rfl) ?_
                exact hfin hS200
      · refine WL.val (Value.int .i64 b) _ (op_load one_2 e178 (BoxAt.cell (St.boxAt hS188 1 rfl) rfl)) rfl ?_
        refine WL.nil ?_
        show WA _ _ _ _ _ _ _ _
        refine WA.all [2, 5] (by kernel_rfl) rfl ⟨⟨_, rfl, ?_⟩, ⟨_, rfl, ?_⟩, trivial⟩
        · refine WL.val (Value.int .i64 (w64 ((a).tdiv mm))) _ (op_quo (b := mm) rfl rfl h0m) rfl ?_
          refine WL.nil ?_
          show WA _ _ _ _ _ _ _ _
          refine WA.all [5, 6] (by kernel_rfl) rfl ⟨⟨_, rfl, ?_⟩, ⟨_, rfl, ?_⟩, trivial⟩
          · refine WL.val (Value.int .i64 (w64 ((b).tdiv mm))) _ (op_quo (b := mm) rfl rfl h0m) rfl ?_
            refine WL.nil ?_
            show WA _ _ _ _ _ _ _ _
            refine WA.all [6] (by kernel_rfl) rfl ⟨⟨_, rfl, ?_⟩, trivial⟩
            · refine WL.storeBox [(Value.int .i64 (w64 ((a).tdiv mm)))] hS188 (k := 0) rfl e177 rfl (us := [(Value.int .i64 (w64 ((a).tdiv mm)))]) rfl sz_2 rfl rfl (all_cons rfl all_nil) rfl ?_
              intro wd201 hS202
              replace hS202 : St w wd201 [bx b1 [(Value.int .i64 (w64 ((a).tdiv mm)))], bx b6 [(Value.int .i64 b)], bx b11 [(Value.int .i64 (w64 (s0 + (w64 (x137 * p0)))))], bx b15 [(Value.int .i64 (w64 (p0 * mm)))], EE] := hS202
              refine WL.nil ?_
              show WA _ _ _ _ _ _ _ _
              refine WA.all [7] (by kernel_rfl) rfl ⟨⟨_, rfl, ?_⟩, trivial⟩
              · refine WL.storeBox [(Value.int .i64 (w64 ((b).tdiv mm)))] hS202 (k := 1) rfl e178 rfl (us := [(Value.int .i64 (w64 ((b).tdiv mm)))]) rfl sz_2 rfl rfl (all_cons rfl all_nil) rfl ?_
                intro wd203 hS204
                replace hS204 : St w wd203 [bx b1 [(Value.int .i64 (w64 ((a).tdiv mm)))], bx b6 [(Value.int .i64 (w64 ((b).tdiv mm)))], bx b11 [(Value.int .i64 (w64 (s0 + (w64 (x137 * p0)))))], bx b15 [(Value.int .i64 (w64 (p0 * mm)))], EE] := hS204
                refine WL.nil ?_
                show WA _ _ _ _ _ _ _ _
                refine WA.done (by kernel_rfl) ?_
                exact hfin hS204
          · refine WL.storeBox [(Value.int .i64 (w64 ((a).tdiv mm)))] hS188 (k := 0) rfl e177 rfl (us := [(Value.int .i64 (w64 ((a).tdiv mm)))]) rfl sz_2 rfl rfl (all_cons rfl all_nil) rfl ?_
            intro wd205 hS206
            replace hS206 : St w wd205 [bx b1 [(Value.int .i64 (w64 ((a).tdiv mm)))], bx b6 [(Value.int .i64 b)], bx b11 [(Value.int .i64 (w64 (s0 + (w64 (x137 * p0)))))], bx b15 [(Value.int .i64 (w64 (p0 * mm)))], EE] := hS206
            refine WL.nil ?_
            show WA _ _ _ _ _ _ _ _
            refine WA.all [5] (by kernel_rfl) rfl ⟨⟨_, rfl, ?_⟩, trivial⟩
            · refine WL.val (Value.int .i64 (w64 ((b).tdiv mm))) _ (op_quo (b := mm) rfl rfl h0m) rfl ?_
              refine WL.nil ?_
              show WA _ _ _ _ _ _ _ _
              refine WA.all [7] (by kernel_rfl) rfl ⟨⟨_, rfl, ?_⟩, trivial⟩
              · refine WL.storeBox [(Value.int .i64 (w64 ((b).tdiv mm)))] hS206 (k := 1) rfl e178 rfl (us := [(Value.int .i64 (w64 ((b).tdiv mm)))]) rfl sz_2 rfl rfl (all_cons rfl all_nil) rfl ?_
                intro wd207 hS208
                replace hS208 : St w wd207 [bx b1 [(Value.int .i64 (w64 ((a).tdiv mm)))], bx b6 [(Value.int .i64 (w64 ((b).tdiv mm)))], bx b11 [(Value.int .i64 (w64 (s0 + (w64 (x137 * p0)))))], bx b15 [(Value.int .i64 (w64 (p0 * mm)))], EE] := hS208
                refine WL.nil ?_
                show WA _ _ _ _ _ _ _ _
                refine WA.done (by kernel_rfl) ?_
                exact hfin hS208
        · refine WL.val (Value.int .i64 (w64 ((b).tdiv mm))) _ (op_quo (b := mm) rfl rfl h0m) rfl ?_
          refine WL.nil ?_
          show WA _ _ _ _ _ _ _ _
          refine WA.all [2] (by kernel_rfl) rfl ⟨⟨_, rfl, ?_⟩, trivial⟩
          · refine WL.val (Value.int .i64 (w64 ((a).tdiv mm))) _ (op_quo (b := mm) rfl rfl h0m) rfl ?_
            refine WL.nil ?_
            show WA _ _ _ _ _ _ _ _
            refine WA.all [6] (by kernel_rfl) rfl ⟨⟨_, rfl, ?_⟩, trivial⟩
            · refine WL.storeBox [(Value.int .i64 (w64 ((a).tdiv mm)))] hS188 (k := 0) rfl e177 rfl (us := [(Value.int .i64 (w64 ((a).tdiv mm)))]) rfl sz_2 rfl rfl (all_cons rfl all_nil) rfl ?_
              intro wd209 hS210
              replace hS210 : St w wd209 [bx b1 [(Value.int .i64 (w64 ((a).tdiv mm)))], bx b6 [(Value.int .i64 b)], bx b11 [(Value.int .i64 (w64 (s0 + (w64 (x137 * p0)))))], bx b15 [(Value.int .i64 (w64 (p0 * mm)))], EE] := hS210
              refine WL.nil ?_
              show WA _ _ _ _ _ _ _ _
              refine WA.all [7] (by kernel_rfl) rfl ⟨⟨_, rfl, ?_⟩, trivial⟩
              · refine WL.storeBox [(Value.int .i64 (w64 ((b).tdiv mm)))] hS210 (k := 1) rfl e178 rfl (us := [(Value.int .i64 (w64 ((b).tdiv mm)))]) rfl sz_2 rfl rfl (all_cons rfl all_nil) rfl ?_
                intro wd211 hS212
                replace hS212 : St w wd211 [bx b1 [(Value.int .i64 (w64 ((a).tdiv mm)))], bx b6 [(Value.int .i64 (w64 ((b).tdiv mm)))], bx b11 [(Value.int .i64 (w64 (s0 + (w64 (x137 * p0)))))], bx b15 [(Value.int .i64 (w64 (p0 * mm)))], EE] := hS212
                refine WL.nil ?_
                show WA _ _ _ _ _ _ _ _
                refine WA.done (by kernel_rfl) ?_
                exact hfin hS212
    · refine WL.val (Value.int .i64 b) _ (op_load one_2 e178 (BoxAt.cell (St.boxAt hS188 1 rfl) rfl)) rfl ?_
      refine WL.nil ?_
      show WA _ _ _ _ _ _ _ _
      refine WA.all [0, 5] (by kernel_rfl) rfl ⟨⟨_, rfl, ?_⟩, ⟨_, rfl, ?_⟩, trivial⟩
      · refine WL.val (Value.int .i64 a) _ (op_load one_2 e177 (BoxAt.cell (St.boxAt hS188 0 rfl) rfl)) rfl ?_
        refine WL.nil ?_
        show WA _ _ _ _ _ _ _ _
        refine WA.all [2, 5] (by kernel_rfl) rfl ⟨⟨_, rfl, ?_⟩, ⟨_, rfl, ?_⟩, trivial⟩
        · refine WL.val (Value.int .i64 (w64 ((a).tdiv mm))) _ (op_quo (b := mm) rfl rfl h0m) rfl ?_
          refine WL.nil ?_
          show WA _ _ _ _ _ _ _ _
          refine WA.all [5, 6] (by kernel_rfl) rfl ⟨⟨_, rfl, ?_⟩, ⟨_, rfl, ?_⟩, trivial⟩
          · refine WL.val (Value.int .i64 (w64 ((b).tdiv mm))) _ (op_quo (b := mm) rfl rfl h0m) rfl ?_
            refine WL.nil ?_
            show WA _ _ _ _ _ _ _ _
            refine WA.all [6] (by kernel_rfl) rfl ⟨⟨_, rfl, ?_⟩, trivial⟩
            · refine WL.storeBox [(Value.int .i64 (w64 ((a).tdiv mm)))] hS188 (k := 0) rfl e177 rfl (us := [(Value.int .i64 (w64 ((a).tdiv mm)))]) rfl sz_2 rfl rfl (all_cons rfl all_nil) rfl ?_
              intro wd213 hS214
              replace hS214 : St w wd213 [bx b1 [(Value.int .i64 (w64 ((a).tdiv mm)))], bx b6 [(Value.int .i64 b)], bx b11 [(Value.int .i64 (w64 (s0 + (w64 (x137 * p0)))))], bx b15 [(Value.int .i64 (w64 (p0 * mm)))], EE] := hS214
              refine WL.nil ?_
              show WA _ _ _ _ _ _ _ _
              refine WA.all [7] (by kernel_rfl) rfl ⟨⟨_, rfl, ?_⟩, trivial⟩
              · refine WL.storeBox [(Value.int .i64 (w64 ((b).tdiv mm)))] hS214 (k := 1) rfl e178 rfl (us := [(Value.int .i64 (w64 ((b).tdiv mm)))]) rfl sz_2 rfl rfl (all_cons rfl all_nil) rfl ?_
                intro wd215 hS216
                replace hS216 : St w wd215 [bx b1 [(Value.int .i64 (w64 ((a).tdiv mm)))], bx b6 [(Value.int .i64 (w64 ((b).tdiv mm)))], bx b11 [(Value.int .i64 (w64 (s0 + (w64 (x137 * p0)))))], bx b15 [(Value.int .i64 (w64 (p0 * mm)))], EE] := hS216
                refine WL.nil ?_
                show WA _ _ _ _ _ _ _ _
                refine WA.done (by kernel_rfl) ?_
                exact hfin hS216
          · refine WL.storeBox [(Value.int .i64 (w64 ((a).tdiv mm)))] hS188 (k := 0) rfl e177 rfl (us := [(Value.int .i64 (w64 ((a).tdiv mm)))]) rfl sz_2 rfl rfl (all_cons rfl all_nil) rfl ?_
            intro wd217 hS218
            replace hS218 : St w wd217 [bx b1 [(Value.int .i64 (w64 ((a).tdiv mm)))], bx b6 [(Value.int .i64 b)], bx b11 [(Value.int .i64 (w64 (s0 + (w64 (x137 * p0)))))], bx b15 [(Value.int .i64 (w64 (p0 * mm)))], EE] := hS218
            refine WL.nil ?_
            show WA _ _ _ _ _ _ _ _
            refine WA.all [5] (by kernel_rfl) rfl ⟨⟨_, rfl, ?_⟩, trivial⟩
            · refine WL.val (Value.int .i64 (w64 ((b).tdiv mm))) _ (op_quo (b := mm) rfl rfl h0m) rfl ?_
              refine WL.nil ?_
              show WA _ _ _ _ _ _ _ _
              refine WA.all [7] (by kernel_rfl) rfl ⟨⟨_, rfl, ?_⟩, trivial⟩
              · refine WL.storeBox [(Value.int .i64 (w64 ((b).tdiv mm)))] hS218 (k := 1) rfl e178 rfl (us := [(Value.int .i64 (w64 ((b).tdiv mm)))]) rfl sz_2 rfl rfl (all_cons rfl all_nil) rfl ?_
                intro wd219 hS220
                replace hS220 : St w wd219 [bx b1 [(Value.int .i64 (w64 ((a).tdiv mm)))], bx b6 [(Value.int .i64 (w64 ((b).tdiv mm)))], bx b11 [(Value.int .i64 (w64 (s0 + (w64 (x137 * p0)))))], bx b15 [(Value.int .i64 (w64 (p0 * mm)))], EE] := hS220
                refine WL.nil ?_
                show WA _ _ _ _ _ _ _ _
                refine WA.done (by kernel_rfl) ?_
                exact hfin hS220
        · refine WL.val (Value.int .i64 (w64 ((b).tdiv mm))) _ (op_quo (b := mm) rfl rfl h0m) rfl ?_
          refine WL.nil ?_
          show WA _ _ _ _ _ _ _ _
          refine WA.all [2] (by kernel_rfl) rfl ⟨⟨_, rfl, ?_⟩, trivial⟩
          · refine WL.val (Value.int .i64 (w64 ((a).tdiv mm))) _ (op_quo (b := mm) rfl rfl h0m) rfl ?_
            refine WL.nil ?_
            show WA _ _ _ _ _ _ _ _
            refine WA.all [6] (by kernel_rfl) rfl ⟨⟨_, rfl, ?_⟩, trivial⟩
            · refine WL.storeBox [(Value.int .i64 (w64 ((a).tdiv mm)))] hS188 (k := 0) rfl e177 rfl (us := [(Value.int .i64 (w64 ((a).tdiv mm)))]) rfl sz_2 rfl rfl (all_cons rfl all_nil) rfl ?_
              intro wd221 hS222
              replace hS222 : St w wd221 [bx b1 [(Value.int .i64 (w64 ((a).tdiv mm)))], bx b6 [(Value.int .i64 b)], bx b11 [(Value.int .i64 (w64 (s0 + (w64 (x137 * p0)))))], bx b15 [(Value.int .i64 (w64 (p0 * mm)))], EE] := hS222
              refine WL.nil ?_
              show WA _ _ _ _ _ _ _ _
              refine WA.all [7] (by kernel_rfl) rfl ⟨⟨_, rfl, ?_⟩, trivial⟩
              · refine WL.storeBox [(Value.int .i64 (w64 ((b).tdiv mm)))] hS222 (k := 1) rfl e178 rfl (us := [(Value.int .i64 (w64 ((b).tdiv mm)))]) rfl sz_2 rfl rfl (all_cons rfl all_nil) rfl ?_
                intro wd223 hS224
                replace hS224 : St w wd223 [bx b1 [(Value.int .i64 (w64 ((a).tdiv mm)))], bx b6 [(Value.int .i64 (w64 ((b).tdiv mm)))], bx b11 [(Value.int .i64 (w64 (s0 + (w64 (x137 * p0)))))], bx b15 [(Value.int .i64 (w64 (p0 * mm)))], EE] := hS224
                refine WL.nil ?_
                show WA _ _ _ _ _ _ _ _
                refine WA.done (by kernel_rfl) ?_
                exact hfin hS224
      · refine WL.val (Value.int .i64 (w64 ((b).tdiv mm))) _ (op_quo (b := mm) rfl rfl h0m) rfl ?_
        refine WL.nil ?_
        show WA _ _ _ _ _ _ _ _
        refine WA.all [0] (by kernel_rfl) rfl ⟨⟨_, rfl, ?_⟩, trivial⟩
        · refine WL.val (Value.int .i64 a) _ (op_load one_2 e177 (BoxAt.cell (St.boxAt hS188 0 rfl) rfl)) rfl ?_
          refine WL.nil ?_
          show WA _ _ _ _ _ _ _ _
          refine WA.all [2] (by kernel_rfl) rfl ⟨⟨_, rfl, ?_⟩, trivial⟩
          · refine WL.val (Value.int .i64 (w64 ((a).tdiv mm))) _ (op_quo (b := mm) rfl rfl h0m) rfl ?_
            refine WL.nil ?_
            show WA _ _ _ _ _ _ _ _
            refine WA.all [6] (by kernel_rfl) rfl ⟨⟨_, rfl, ?_⟩, trivial⟩
            · refine WL.storeBox [(Value.int .i64 (w64 ((a).tdiv mm)))] hS188 (k := 0) rfl e177 rfl (us := [(Value.int .i64 (w64 ((a).tdiv mm)))]) rfl sz_2 rfl rfl (all_cons rfl all_nil) rfl ?_
              intro wd225 hS226
              replace hS226 : St w wd225 [bx b1 [(Value.int .i64 (w64 ((a).tdiv mm)))], bx b6 [(Value.int .i64 b)], bx b11 [(Value.int .i64 (w64 (s0 + (w64 (x137 * p0)))))], bx b15 [(Value.int .i64 (w64 (p0 * mm)))], EE] := hS226
              refine WL.nil ?_
              show WA _ _ _ _ _ _ _ _
              refine WA.all [7] (by kernel_rfl) rfl ⟨⟨_, rfl, ?_⟩, trivial⟩
              · refine WL.storeBox [(Value.int .i64 (w64 ((b).tdiv mm)))] hS226 (k := 1) rfl e178 rfl (us := [(Value.int .i64 (w64 ((b).tdiv mm)))]) rfl sz_2 rfl rfl (all_cons rfl all_nil) rfl ?_
                intro wd227 hS228
                replace hS228 : St w wd227 [bx b1 [(Value.int .i64 (w64 ((a).tdiv mm)))], bx b6 [(Value.int .i64 (w64 ((b).tdiv mm)))], bx b11 [(Value.int .i64 (w64 (s0 + (w64 (x137 * p0)))))], bx b15 [(Value.int .i64 (w64 (p0 * mm)))], EE] := hS228
                refine WL.nil ?_
                show WA _ _ _ _ _ _ _ _
                refine WA.done (by kernel_rfl) ?_
                exact hfin hS228

theorem bk_maker {w : World} {v : Value} (hv : v.cells = [v].toArray) : Ret Try.prog 67 #[v] w (fun u w' => ∃ Bs, u = .func (.func 69) #[] #[.pointer (some ⟨Bs, 0, none⟩)] ∧ St w w' [bx Bs [v]]) := by
  have hS0 : St w w [] := St.start w
  refine Ret.start (fn := Try.f67) Try.func67 rfl 4 rfl rfl ?_
  refine W.seq (W.region ?_)
  refine WL.box hS0 rfl (cs := [v]) hv rfl ?_
  intro b1 wd2 hS3 he4 hx5
  refine WL.val Value.nilFunc _ (op_assign rfl) rfl ?_
  refine WL.nil ?_
  refine W.seq (W.region ?_)
  refine WL.val (.func (.func 69) #[] #[.pointer (some ⟨b1, 0, none⟩)]) _ (op_makeFunc (va := #[]) (vb := #[.pointer (some ⟨b1, 0, none⟩)]) args0 (args1 rfl)) rfl ?_
  refine WL.val (.func (.func 69) #[] #[.pointer (some ⟨b1, 0, none⟩)]) _ (op_assign rfl) rfl ?_
  refine WL.nil ?_
  refine W.ret ?_
  show FinP _ _ _ _ _ _ _
  exact FinP.ret _ (res1 rfl rfl) ⟨b1, rfl, hS3⟩

theorem bk_closure {α : Type} {enc : α → Array Value} {g : Nat → α} {w0 Wd : World} {v : Value} {zs : List Int} (hrep : (Ty.sl (Ty.i .i64)).rep w0 v zs)
    (hg : ∀ j, j < zs.length → enc (g j) = #[.int .i64 ((zs.length : Int) - 1 - j), .int .i64 (zs.getD (zs.length - 1 - j) 0)]) {m l Bs : Nat} {J Jx : List α → World → Prop}
    (hY : ∀ pre x W, J pre W → pre.length < zs.length → YieldAt Fence.wide (m - 1) Try.prog l (enc x) W fun e W' => (e = .returned (.bool true) ∧ J (pre ++ [x]) W' ∧ KpB w0 Bs W W') ∨ (e = .returned (.bool false) ∧ Jx (pre ++ [x]) W'))
    (hW : Ext w0 Wd) (hBs : Wd.cell? ⟨Bs, 0, none⟩ = some v) (h0 : J [] Wd) :
    CallsIn Fence.wide m Try.prog 69 #[.func (.yield l) #[] #[], .pointer (some ⟨Bs, 0, none⟩)] Wd fun e W' => (∃ v, e = .returned v) ∧ ((∃ xs, xs = (List.range zs.length).map g ∧ J xs W') ∨ (∃ pre, True ∧ Jx pre W')) := by
  refine WI.calls Try.func69 rfl rfl rfl rfl ?_
  · skip
    have hm : zs.length ≤ 9223372036854775807 := by have := repSl.max hrep; simpa [maxLen] using this
    have ew : ∀ x : Int, -9223372036854775808 ≤ x → x ≤ 9223372036854775807 → IntKind.i64.wrap x = x := fun x h1 h2 => w64_id (inR_i64.2 ⟨h1, h2⟩)
    refine WI.seq (WI.ofW (W.region ?_))
    refine WL.val v _ (op_load one_22 rfl hBs) rfl ?_
    refine WL.val (Value.int .i64 (zs.length : Int)) _ (op_lenL sl_22 (Ty.lift _ hW hrep) rfl) rfl ?_
    refine WL.val (Value.int .i64 ((zs.length : Int) - 1)) _ (by rw [← ew ((zs.length : Int) - 1) (by omega) (by omega)]; exact op_sub rfl rfl) rfl ?_
    refine WL.val (Value.int .i64 ((zs.length : Int) - 1)) _ (op_assign rfl) rfl ?_
    refine WL.nil ?_
    show WI _ _ _ _ _ _ _
    refine WI.block (WI.loop (fun f wr => ∃ j : Nat, j ≤ zs.length ∧ f 0 = .func (.yield l) #[] #[] ∧ f 1 = .pointer (some ⟨Bs, 0, none⟩) ∧ f 3 = .int .i64 ((zs.length : Int) - 1 - j) ∧ J ((List.range j).map g) wr ∧ Ext w0 wr ∧ wr.cell? ⟨Bs, 0, none⟩ = some v) 3 (fun v => match v with | .int _ x => (x + 1).toNat | _ => 0)
      ⟨0, Nat.zero_le _, rfl, rfl, by show Value.int .i64 ((zs.length : Int) - 1) = _; congr 1; omega, h0, hW, hBs⟩ ?_)
    rintro f wr ⟨j, hj, hf0, hf1, hf3, hJ, hE, hB⟩
    refine WI.seq (WI.seq (WI.ofW (W.region ?_)))
    refine WL.val (Value.int .i64 ((zs.length : Int) - 1 - j)) _ (op_move hf3) rfl ?_
    refine WL.val (Value.bool (decide (((zs.length : Int) - 1 - j) ≥ 0))) _ (op_geq rfl rfl) rfl ?_
    refine WL.nil ?_
    show WI _ _ _ _ _ _ _
    refine WI.cond (decide (((zs.length : Int) - 1 - j) ≥ 0)) rfl (fun hc => ?_) (fun hc => ?_)
    · have hlt : j < zs.length := by simp at hc; omega
      refine WI.skip ?_
      show WI _ _ _ _ _ _ _
      refine WI.seq (WI.block (WI.seq (WI.region ?_)))
      refine WLI.val (.func (.yield l) #[] #[]) _ (op_move hf0) rfl (by intro c h; cases h) ?_
      refine WLI.val (Value.int .i64 ((zs.length : Int) - 1 - j)) _ (op_move hf3) rfl (by intro c h; cases h) ?_
      refine WLI.val v _ (op_load one_22 hf1 hB) rfl (by intro c h; cases h) ?_
      refine WLI.val (Value.int .i64 ((zs.length : Int) - 1 - j)) _ (op_move hf3) rfl (by intro c h; cases h) ?_
      refine WLI.val (Value.pointer (some (elA v ((zs.length : Int) - 1 - j).toNat))) _ (op_idx sl_22 (Ty.lift _ hE hrep) rfl rfl (by omega) (by omega)) rfl (by intro c h; cases h) ?_
      have en : ((zs.length : Int) - 1 - j).toNat = zs.length - 1 - j := by omega
      obtain ⟨u, hc2, hu, _⟩ := repSl.el hrep (i := zs.length - 1 - j) (x := zs.getD (zs.length - 1 - j) 0) (by rw [List.getD_eq_getElem?_getD, List.getElem?_eq_getElem (by omega)]; rfl)
      subst hu
      refine WLI.val (Value.int .i64 (zs.getD (zs.length - 1 - j) 0)) _ (op_load one_2 rfl (by rw [en]; exact Ext.cell hE hc2)) rfl (by intro c h; cases h) ?_
      refine WLI.yield rfl rfl (vs := enc (g j)) (by rw [hg j hlt]; exact args2 rfl rfl) (hY _ (g j) wr hJ (by simp; exact hlt)) rfl ?_
      rintro e W3 (⟨rfl, hJ3, hk⟩ | ⟨rfl, hJx⟩)
      · refine ⟨_, rfl, ?_⟩
        refine WLI.val (.bool false) _ (op_not (b := true) rfl) rfl (by intro c h; cases h) (WLI.nil ?_)
        show WI _ _ _ _ _ _ _
        refine WI.cond false rfl (fun h => by cases h) (fun _ => WI.skip ?_)
        show WI _ _ _ _ _ _ _
        refine WI.ofW (W.region ?_)
        refine WL.val (Value.int .i64 ((zs.length : Int) - 1 - j)) _ (op_move hf3) rfl ?_
        refine WL.val (Value.int .i64 ((zs.length : Int) - 1 - (j + 1 : Nat))) _ (by rw [show ((zs.length : Int) - 1 - (j + 1 : Nat)) = IntKind.i64.wrap ((zs.length : Int) - 1 - j - 1) from by rw [ew _ (by omega) (by omega)]; omega]; exact op_sub rfl rfl) rfl ?_
        refine WL.val (Value.int .i64 ((zs.length : Int) - 1 - (j + 1 : Nat))) _ (op_assign rfl) rfl ?_
        refine WL.nil ?_
        refine ⟨⟨j + 1, hlt, hf0, hf1, rfl, by rw [List.range_succ, List.map_append]; exact hJ3, Go.RowKit.Below.trans hE hk.1, cell_same hk.2 hB⟩, ?_⟩
        show ((zs.length : Int) - 1 - (j + 1 : Nat) + 1).toNat < (match f 3 with | .int _ x => (x + 1).toNat | _ => 0)
        rw [hf3]
        show ((zs.length : Int) - 1 - (j + 1 : Nat) + 1).toNat < ((zs.length : Int) - 1 - j + 1).toNat
        omega
      · refine ⟨_, rfl, ?_⟩
        refine WLI.val (.bool true) _ (op_not (b := false) rfl) rfl (by intro c h; cases h) (WLI.nil ?_)
        show WI _ _ _ _ _ _ _
        refine WI.cond true rfl (fun _ => WI.ret ?_) (fun h => by cases h)
        exact ⟨.inr rfl, .inr ⟨_, trivial, hJx⟩⟩
    · have hje : j = zs.length := by simp at hc; omega
      subst hje
      refine WI.exit ?_
      show (Exit.normal = Exit.normal ∨ Exit.normal = Exit.ret) ∧ _
      exact ⟨.inl rfl, .inl ⟨_, rfl, hJ⟩⟩

/-! ### The loop's caller -/

abbrev BkI := { x : Int × Int // InR .i64 x.1 ∧ InR .i64 x.2 ∧ x.2 ≠ 0 }
def bkEnc (x : BkI) : Array Value := #[.int .i64 x.1.1, .int .i64 x.1.2]
def bkF (a b : Int) (pre : List BkI) : Int × Int × Int × Int := pre.foldl (fun s x => p_impl_addElements_S x.1.2 s) (a, b, 0, 1)
theorem bkF_snoc (a b : Int) (pre : List BkI) (x : BkI) : bkF a b (pre ++ [x]) = p_impl_addElements_S x.1.2 (bkF a b pre) := by simp [bkF]
theorem bkF_rng {a b : Int} (ha : InR .i64 a) (hb : InR .i64 b) (pre : List BkI) : InR .i64 (bkF a b pre).1 ∧ InR .i64 (bkF a b pre).2.1 ∧ InR .i64 (bkF a b pre).2.2.1 ∧ InR .i64 (bkF a b pre).2.2.2 := by
  rcases List.eq_nil_or_concat pre with rfl | ⟨pre, x, rfl⟩
  · exact ⟨ha, hb, inR_i64.2 (by simp [bkF]), inR_i64.2 (by simp [bkF])⟩
  · rw [List.concat_eq_append, bkF_snoc]; exact ⟨inR_wrap _ _, inR_wrap _ _, inR_wrap _ _, inR_wrap _ _⟩
theorem bk_list (orders : List Int) (hr : ∀ x ∈ orders, InR .i64 x) (hz : ∀ x ∈ orders, x ≠ 0) (hm : orders.length ≤ 9223372036854775807) : ∃ g : Nat → BkI, ∀ j, j < orders.length → (g j).1 = ((orders.length : Int) - 1 - j, orders.getD (orders.length - 1 - j) 0) := by
  refine ⟨fun j => if h : j < orders.length then ⟨((orders.length : Int) - 1 - j, orders.getD (orders.length - 1 - j) 0), inR_i64.2 ⟨by omega, by omega⟩, ?_, ?_⟩ else ⟨(0, 1), inR_i64.2 (by simp), inR_i64.2 (by simp), by simp⟩, fun j hj => by simp [hj]⟩
  · refine hr _ ?_
    rw [List.getD_eq_getElem?_getD, List.getElem?_eq_getElem (by omega)]; exact List.getElem_mem _
  · refine hz _ ?_
    rw [List.getD_eq_getElem?_getD, List.getElem?_eq_getElem (by omega)]; exact List.getElem_mem _
theorem bk_fold (orders : List Int) (a b : Int) (g : Nat → BkI) (hg : ∀ j, j < orders.length → (g j).1 = ((orders.length : Int) - 1 - j, orders.getD (orders.length - 1 - j) 0)) :
    bkF a b ((List.range orders.length).map g) = orders.reverse.foldl (fun s m => p_impl_addElements_S m s) (a, b, 0, 1) := by
  have e : ((List.range orders.length).map g).map (fun x => x.1.2) = orders.reverse := by
    apply List.ext_getElem
    · simp
    · intro i h1 h2
      simp at h1
      simp [hg i h1, List.getElem_reverse, List.getD_eq_getElem?_getD, List.getElem?_eq_getElem (show orders.length - 1 - i < orders.length by omega)]
  rw [← e, List.foldl_map]
  rfl
theorem c_impl_addElements {w : World} {orders : (List Int)} {v_orders : Value} {a : Int} {b : Int} (r_orders : (Ty.sl (Ty.i .i64)).rep w v_orders orders) (r_a : InR .i64 a) (r_b : InR .i64 b) {res : Int} (h : p_impl_addElements orders a b = some res) :
    Ret Try.prog 64 #[v_orders, (Value.int .i64 a), (Value.int .i64 b)] w (fun v w' => v = Value.int .i64 res ∧ InR .i64 res ∧ Ext w w') := by
  unfold p_impl_addElements at h
  split at h
  case isFalse => cases h
  rename_i hz
  have hz' : ∀ x ∈ orders, x ≠ 0 := by simpa using hz
  obtain rfl := Option.some.inj h
  have hm : orders.length ≤ 9223372036854775807 := by have := repSl.max r_orders; simpa [maxLen] using this
  have hrng : ∀ x ∈ orders, InR .i64 x := by
    intro x hx
    obtain ⟨i, hi, rfl⟩ := List.mem_iff_getElem.1 hx
    obtain ⟨u, _, _, hr⟩ := repSl.el r_orders (List.getElem?_eq_getElem hi)
    exact hr
  obtain ⟨g, hg⟩ := bk_list orders hrng hz' hm
  have hvc : v_orders.cells = [v_orders].toArray := by obtain ⟨p, c, hv, _⟩ := r_orders; rw [hv]; rfl
  refine (callsIn_wide (n := 3)).1 (callsIn_of_wp_marks Try.func64 rfl trivial ?_ rfl)
  have hS0 : St w w [] := St.start w
  refine WI.step (n := 38) (f := fr0 #[v_orders, (Value.int .i64 a), (Value.int .i64 b)]) (K := fun f1 w1 => ∃ b1 b6, f1 0 = v_orders ∧ f1 4 = .pointer (some ⟨b1, 0, none⟩) ∧ f1 5 = .pointer (some ⟨b6, 0, none⟩) ∧ St w w1 [bx b1 [Value.int .i64 a], bx b6 [Value.int .i64 b]]) (W.region ?_) (agree_start rfl (Nat.le_of_ble_eq_true rfl)) ?_
  · refine WL.box hS0 rfl (cs := [(Value.int .i64 a)]) rfl rfl ?_
    intro b1 wd2 hS3 he4 hx5
    refine WL.box hS3 rfl (cs := [(Value.int .i64 b)]) rfl rfl ?_
    intro b6 wd7 hS8 he9 hx10
    refine WL.val (Value.int .i64 (0 : Int)) _ (op_assign rfl) rfl ?_
    refine WL.nil ?_
    exact ⟨b1, b6, rfl, rfl, rfl, hS8⟩
  rintro f1 w1 a1 ha1 ⟨b1, b6, h0, h4, h5, hS8⟩
  refine WI.step (K := fun f1 w1 => ∃ b11 b15, f1 0 = v_orders ∧ f1 4 = .pointer (some ⟨b1, 0, none⟩) ∧ f1 5 = .pointer (some ⟨b6, 0, none⟩) ∧ f1 7 = .pointer (some ⟨b11, 0, none⟩) ∧ f1 8 = .pointer (some ⟨b15, 0, none⟩) ∧ St w w1 [bx b1 [Value.int .i64 a], bx b6 [Value.int .i64 b], bx b11 [Value.int .i64 0], bx b15 [Value.int .i64 1]]) (W.region ?_) ha1 ?_
  · refine WL.alloc hS8 ze_2 (cs := [(Value.int .i64 (0 : Int))]) rfl rfl ?_
    intro b11 wd12 hS13 he14
    refine WL.alloc hS13 ze_2 (cs := [(Value.int .i64 (0 : Int))]) rfl rfl ?_
    intro b15 wd16 hS17 he18
    replace hS17 : St w wd16 [bx b1 [(Value.int .i64 a)], bx b6 [(Value.int .i64 b)], bx b11 [(Value.int .i64 (0 : Int))], bx b15 [(Value.int .i64 (0 : Int))]] := hS17
    refine WL.storeBox [(Value.int .i64 (0 : Int))] hS17 (k := 2) rfl rfl rfl (us := [(Value.int .i64 (0 : Int))]) rfl sz_2 rfl rfl (all_cons rfl all_nil) rfl ?_
    intro wd19 hS20
    replace hS20 : St w wd19 [bx b1 [(Value.int .i64 a)], bx b6 [(Value.int .i64 b)], bx b11 [(Value.int .i64 (0 : Int))], bx b15 [(Value.int .i64 (0 : Int))]] := hS20
    refine WL.storeBox [(Value.int .i64 (1 : Int))] hS20 (k := 3) rfl rfl rfl (us := [(Value.int .i64 (1 : Int))]) rfl sz_2 rfl rfl (all_cons rfl all_nil) rfl ?_
    intro wd21 hS22
    refine WL.nil ?_
    exact ⟨b11, b15, h0, h4, h5, rfl, rfl, hS22⟩
  rintro f2 w2 a2 ha2 ⟨b11, b15, h0, h4, h5, h7, h8, hS22⟩
  refine wpIn_seq ?_
  refine WI.step (K := fun f1 w1 => ∃ Bs, f1 4 = .pointer (some ⟨b1, 0, none⟩) ∧ f1 5 = .pointer (some ⟨b6, 0, none⟩) ∧ f1 7 = .pointer (some ⟨b11, 0, none⟩) ∧ f1 8 = .pointer (some ⟨b15, 0, none⟩) ∧ f1 12 = .func (.func 69) #[] #[.pointer (some ⟨Bs, 0, none⟩)] ∧ St w w1 [bx b1 [Value.int .i64 a], bx b6 [Value.int .i64 b], bx b11 [Value.int .i64 0], bx b15 [Value.int .i64 1], bx Bs [v_orders]]) (W.region ?_) ha2 ?_
  · refine WL.val v_orders _ (op_move h0) rfl ?_
    refine WL.call _ (op_call fn_67 (args1 rfl)) (bk_maker hvc) rfl ?_
    rintro u w4 ⟨Bs, rfl, hS4⟩
    refine WL.nil ?_
    exact ⟨Bs, h4, h5, h7, h8, rfl, hS22.join hS4.ext hS4.sep⟩
  rintro f3 w3 a3 ha3 ⟨Bs, h4, h5, h7, h8, h12, hS3⟩
  refine wpIn_block ?_
  obtain ⟨g1, g2, g3, g4, d12, d13, d14, d23, d24, d34, hI0, gs, hsl, hsn, hcell⟩ := bk_start (s := (a, b, 0, 1)) hS3
  have hA0 : ∀ x : BkI, Agree 38 ({ tmps := ((#[13, 14] : Array Tmp).zip (bkEnc x)).foldl (fun t (p, v) => t.setIfInBounds p v) a3.tmps, defers := [] } : Act) (upd (upd f3 13 (.int .i64 x.1.1)) 14 (.int .i64 x.1.2)) := fun x => by
    have ha : Agree 38 ({ tmps := a3.tmps, defers := [] } : Act) f3 := ⟨rfl, ha3.size, ha3.get⟩
    have e : ((#[13, 14] : Array Tmp).zip (bkEnc x)).foldl (fun t (p, v) => t.setIfInBounds p v) a3.tmps = (a3.tmps.setIfInBounds 13 (.int .i64 x.1.1)).setIfInBounds 14 (.int .i64 x.1.2) := by first | rfl | simp [bkEnc]
    rw [e]
    exact (ha.put 13 (.int .i64 x.1.1) rfl).put 14 (.int .i64 x.1.2) rfl
  refine wpIn_rangeFunc_ownF (F := Fence.wide) (n := 3) rfl (by decide) (gf := 69) (lb := #[.pointer (some ⟨Bs, 0, none⟩)]) (by rw [ha3.eval]; exact h12) trivial (enters_of Try.func69 (by kernel_rfl) rfl)
    (encs := bkEnc) (Kp := KpB w Bs) (S := fun xs => xs = (List.range orders.length).map g) (Sp := fun _ => True) (N := orders.length) (w0 := w3) ?seq (fun h k => ⟨h.1.trans k.1, k.2.trans h.2⟩) ?kb (Go.RowKit.Below.refl _ _) (fun _ => rfl)
    (fun pre Wd => BkI0 w Wd b1 b6 b11 b15 Bs v_orders (bkF a b pre)) (fun _ _ _ => False) (BkI0.own hS3.ext.size) (fun c s A B row h _ _ => h) hI0
    (fun x => ({ tmps := ((#[13, 14] : Array Tmp).zip (bkEnc x)).foldl (fun t (p, v) => t.setIfInBounds p v) a3.tmps, defers := [] } : Act).put (some 10) (({ tmps := ((#[13, 14] : Array Tmp).zip (bkEnc x)).foldl (fun t (p, v) => t.setIfInBounds p v) a3.tmps, defers := [] } : Act).eval (.tmp 14))) ?assign ?body ?done ?stop
  case seq =>
    intro l J Jx Wd hW _ _ hY h0
    exact bk_closure r_orders (fun j hj => by simp only [bkEnc, hg j hj]) hY (Ext.trans hS3.ext hW) (cell_same (hW.block _ hsl) hcell) h0
  case kb =>
    intro Wd l o o' hl ho hc hw
    refine ⟨belowK_b (w := w3) hS3.ext.size Wd l o o' hl ho hc hw, World.putObj_heap_other (by omega)⟩
  case assign =>
    intro l x Wd K hK
    refine wpIn_region_lit (wpListIn_plain rfl fun K' hK' => ⟨fun _ _ => trivial, ?_⟩)
    rw [Oper.semAt_eq _ _ _ (by intro c h; cases h)]
    simp only [execOp]
    exact hK' _ _ hK
  case body =>
    intro l pre x Wd hI hlen
    obtain ⟨q1, q2, q3, q4⟩ := bkF_rng r_a r_b pre
    have hA1 := (hA0 x).put 10 (({ tmps := ((#[13, 14] : Array Tmp).zip (bkEnc x)).foldl (fun t (p, v) => t.setIfInBounds p v) a3.tmps, defers := [] } : Act).eval (.tmp 14)) rfl
    have hv14 : (({ tmps := ((#[13, 14] : Array Tmp).zip (bkEnc x)).foldl (fun t (p, v) => t.setIfInBounds p v) a3.tmps, defers := [] } : Act).eval (.tmp 14)) = .int .i64 x.1.2 := by rw [(hA0 x).eval]; rfl
    refine wpIn_mono (WR.at (bk_body (m := 3 - 1 - 1) (lr := l) q1 q2 q3 q4 x.2.2.1 x.2.2.2 (f := upd (upd (upd f3 13 (.int .i64 x.1.1)) 14 (.int .i64 x.1.2)) 10 (({ tmps := ((#[13, 14] : Array Tmp).zip (bkEnc x)).foldl (fun t (p, v) => t.setIfInBounds p v) a3.tmps, defers := [] } : Act).eval (.tmp 14))) h4 h5 h7 h8 hv14 (hI.st g1 g2 g3 g4 d12 d13 d14 d23 d24 d34)) _ hA1) ?_
    rintro e a' W' ⟨f', hag, hh⟩
    cases e <;> try exact hh.elim
    have := bk_end (s' := p_impl_addElements_S x.1.2 (bkF a b pre)) hI g1 ⟨gs, hsn⟩ hh
    exact ⟨this.1, this.2.1, by show BkI0 w W' b1 b6 b11 b15 Bs v_orders (bkF a b (pre ++ [x])); rw [bkF_snoc]; exact this.2.2⟩
  case done =>
    intro D xs Wd hD hxs hI hK
    subst hxs
    show (Code.seq _ Code.ret).wpIn _ _ _ _ _ _
    refine wpIn_seq (wpIn_region_lit (wpListIn_plain rfl fun K hK1 => ⟨fun _ _ => trivial, ?_⟩))
    have hl : OpV Try.prog (.load 2 (.tmp 7)) 2 f3 Wd (.int .i64 (bkF a b ((List.range orders.length).map g)).2.2.1) Wd := op_load one_2 h7 hI.cell3
    rw [Oper.semAt_eq _ _ _ (by intro c h; cases h)]
    rw [show (Act.eval { tmps := a3.tmps, defers := { target := .collected D, args := #[] } :: a3.defers } : Operand → Value) = ev f3 from ha3.eval]
    rw [hl _ _ _ _]
    refine hK1 _ _ ?_
    refine wpListIn_plain rfl fun K hK2 => ⟨fun _ _ => trivial, ?_⟩
    rw [Oper.semAt_eq _ _ _ (by intro c h; cases h)]
    simp only [execOp]
    refine hK2 _ _ ?_
    show Code.ret.wpIn _ _ _ _ _ _
    refine wpIn_ret ?_
    refine ⟨by simp, .inl ⟨_, _, rfl, run_takeDeferred hK, ?_⟩⟩
    rw [ha3.defers]
    refine ⟨_, results_tmp rfl _ _ _, _, rfl, ?_, ?_, ?_⟩
    · have e1 := ((ha3.put 37 (.int .i64 (bkF a b ((List.range orders.length).map g)).2.2.1) rfl).put 6 (.int .i64 (bkF a b ((List.range orders.length).map g)).2.2.1) rfl).get 6
      have e2 : (a3.put (some 37) (.int .i64 (bkF a b ((List.range orders.length).map g)).2.2.1)).eval (.tmp 37) = (.int .i64 (bkF a b ((List.range orders.length).map g)).2.2.1) := by
        rw [(ha3.put 37 (.int .i64 (bkF a b ((List.range orders.length).map g)).2.2.1) rfl).eval]; rfl
      rw [← bk_fold orders a b g hg]
      refine Eq.trans ?_ e1
      show ((a3.put (some 37) _).put (some 6) ((a3.put (some 37) (.int .i64 (bkF a b ((List.range orders.length).map g)).2.2.1)).eval (.tmp 37))).tmps.getD 6 undef = _
      rw [e2]
    · rw [← bk_fold orders a b g hg]; exact (bkF_rng r_a r_b _).2.2.1
    · exact Go.RowKit.Below.trans hI.ext (belowK_b (w := w3) hS3.ext.size Wd D _ _ hD hK rfl rfl)
  case stop =>
    intro D c pre Wd _ _ h _
    exact h.elim

theorem c_impl_Cocycle_plus {w : World} {c_Orders : (List Int)} {v_c_Orders : Value} {c_Modulus : Int} {c_Values : (List (List (List Int)))} {v_c_Values : Value} {x : Int} {y : Int} (r_c_Orders : (Ty.sl (Ty.i .i64)).rep w v_c_Orders c_Orders) (r_c_Modulus : InR .i64 c_Modulus) (r_c_Values : (Ty.sl (Ty.sl (Ty.sl (Ty.i .i64)))).rep w v_c_Values c_Values) (r_x : InR .i64 x) (r_y : InR .i64 y) {res : Int} (h : p_impl_Cocycle_plus c_Orders c_Modulus c_Values x y  = some res) :
    Ret Try.prog 55 #[(Value.agg #[v_c_Orders, (Value.int .i64 c_Modulus), v_c_Values]), (Value.int .i64 x), (Value.int .i64 y)] w (fun v w' => v = Value.int .i64 res ∧ InR .i64 res ∧ Ext w w') := by
  unfold p_impl_Cocycle_plus at h
  have hS0 : St w w [] := St.start w
  refine Ret.start (fn := Try.f55) Try.func55 rfl 12 rfl rfl ?_
  refine W.seq (W.region ?_)
  refine WL.box hS0 rfl (cs := [v_c_Orders, (Value.int .i64 c_Modulus), v_c_Values]) rfl rfl ?_
  intro b1 wd2 hS3 he4 hx5
  replace hS3 : St w wd2 [bx b1 [v_c_Orders, (Value.int .i64 c_Modulus), v_c_Values]] := hS3
  have hx6 := St.boxAt hS3 0 rfl
  have hE7 : Ext w wd2 := hS3.ext
  have hS8 : St wd2 wd2 [] := St.start wd2
  refine WL.val (Value.int .i64 (0 : Int)) _ (op_assign rfl) rfl ?_
  refine WL.nil ?_
  refine W.seq (W.region ?_)
  refine WL.val (Value.pointer (some ⟨b1, 0, none⟩)) _ (op_fieldAddr fd_29_0 rfl) rfl ?_
  refine WL.val v_c_Orders _ (op_load one_22 rfl (BoxAt.cell (BoxAt.lift hS8.ext hx6) rfl)) rfl ?_
  refine WL.val (Value.int .i64 x) _ (op_move rfl) rfl ?_
  refine WL.val (Value.int .i64 y) _ (op_move rfl) rfl ?_
  obtain ⟨x9, hx10, h⟩ := bs h
  refine WL.call _ (op_call fn_64 (args3 rfl rfl rfl)) (c_impl_addElements (Ty.lift _ (Ext.trans hE7 hS8.ext) r_c_Orders) r_x r_y hx10) rfl ?_
  rintro _ wd12 ⟨rfl, hr11, he13⟩
  have hS15 := St.extend hS8 he13
  replace hS15 : St wd2 wd12 [] := hS15
  refine WL.val (Value.int .i64 x9) _ (op_assign rfl) rfl ?_
  refine WL.nil ?_
  refine W.ret ?_
  obtain rfl := Option.some.inj h
  show FinP _ _ _ _ _ _ _
  exact FinP.ret _ (res1 rfl rfl) ⟨rfl, hr11, (Ext.trans hE7 hS15.ext)⟩

theorem c_impl_Cocycle_rest {w : World} {c_Orders : (List Int)} {v_c_Orders : Value} {c_Modulus : Int} {c_Values : (List (List (List Int)))} {v_c_Values : Value} {n : Int} (r_c_Orders : (Ty.sl (Ty.i .i64)).rep w v_c_Orders c_Orders) (r_c_Modulus : InR .i64 c_Modulus) (r_c_Values : (Ty.sl (Ty.sl (Ty.sl (Ty.i .i64)))).rep w v_c_Values c_Values) (r_n : InR .i64 n) {res : Int} (h : p_impl_Cocycle_rest c_Orders c_Modulus c_Values n  = some res) :
    Ret Try.prog 56 #[(Value.agg #[v_c_Orders, (Value.int .i64 c_Modulus), v_c_Values]), (Value.int .i64 n)] w (fun v w' => v = Value.int .i64 res ∧ InR .i64 res ∧ Ext w w') := by
  unfold p_impl_Cocycle_rest at h
  have hS0 : St w w [] := St.start w
  refine Ret.start (fn := Try.f56) Try.func56 rfl 15 rfl rfl ?_
  refine W.seq (W.region ?_)
  refine WL.box hS0 rfl (cs := [v_c_Orders, (Value.int .i64 c_Modulus), v_c_Values]) rfl rfl ?_
  intro b1 wd2 hS3 he4 hx5
  replace hS3 : St w wd2 [bx b1 [v_c_Orders, (Value.int .i64 c_Modulus), v_c_Values]] := hS3
  have hx6 := St.boxAt hS3 0 rfl
  have hE7 : Ext w wd2 := hS3.ext
  have hS8 : St wd2 wd2 [] := St.start wd2
  refine WL.val (Value.int .i64 (0 : Int)) _ (op_assign rfl) rfl ?_
  refine WL.nil ?_
  refine W.seq ?_
  obtain ⟨x49, hz50, h⟩ := bs h
  obtain ⟨h051, hz50⟩ := remI_some hz50
  refine W.drawR mixo 9 [] [fun _ v _ _ => v = (Value.int .i64 n) ∧ InR .i64 n, fun _ v _ _ => v = (Value.pointer (some ⟨b1, 1, none⟩)), fun _ v _ _ => v = (Value.int .i64 c_Modulus) ∧ InR .i64 c_Modulus, fun _ v _ _ => v = (Value.int .i64 x49) ∧ InR .i64 x49, fun _ v _ _ => v = (Value.pointer (some ⟨b1, 1, none⟩)), fun _ v _ _ => v = (Value.int .i64 c_Modulus) ∧ InR .i64 c_Modulus, fun _ v _ _ => v = (Value.int .i64 (w64 (x49 + c_Modulus))) ∧ InR .i64 (w64 (x49 + c_Modulus)), fun _ v _ _ => v = (Value.pointer (some ⟨b1, 1, none⟩)), fun _ v _ _ => v = (Value.int .i64 c_Modulus) ∧ InR .i64 c_Modulus] (by kernel_rfl) (by kernel_rfl) ⟨pk, pk, pk, pk, pk, pk, pk, pk, pk, trivial⟩ ⟨?_, ?_, ?_, ?_, ?_, ?_, ?_, ?_, ?_, trivial⟩ ?_
  · refine ObX.op rfl fun f9 wd10 he11 hout12 hphi13 => ?_
    have e15 : f9 1 = (Value.int .i64 n) := (hout12 1 rfl).trans rfl
    exact OpX.val (Value.int .i64 n) wd10 rfl (op_move e15) (Ext.refl _) ⟨rfl, r_n⟩
  · refine ObX.op rfl fun f16 wd17 he18 hout19 hphi20 => ?_
    have e22 : f16 2 = (Value.pointer (some ⟨b1, 0, none⟩)) := (hout19 2 rfl).trans rfl
    exact OpX.val (Value.pointer (some ⟨b1, 1, none⟩)) wd17 rfl (op_fieldAddr fd_29_1 e22) (Ext.refl _) rfl
  · refine ObX.op rfl fun f23 wd24 he25 hout26 hphi27 => ?_
    have hS28 := St.extend hS8 he25
    obtain ⟨S29, hS30, hf31⟩ := hphi27 1 6 _ rfl rfl rfl
    have e32 : f23 6 = (Value.pointer (some ⟨b1, 1, none⟩)) := hf31
    exact OpX.val (Value.int .i64 c_Modulus) wd24 rfl (op_load one_2 e32 (BoxAt.cell (BoxAt.lift hS28.ext hx6) rfl)) (Ext.refl _) ⟨rfl, r_c_Modulus⟩
  · refine ObX.op rfl fun f33 wd34 he35 hout36 hphi37 => ?_
    obtain ⟨S39, hS40, hf41⟩ := hphi37 0 5 _ rfl rfl rfl
    obtain ⟨e42, hr43⟩ := hf41
    obtain ⟨S44, hS45, hf46⟩ := hphi37 2 7 _ rfl rfl rfl
    obtain ⟨e47, hr48⟩ := hf46
    have hr52 : InR .i64 x49 := by rw [hz50]; exact inR_tmod hr43
    exact OpX.val (Value.int .i64 x49) wd34 rfl (by rw [hz50]; exact op_rem e42 e47 h051) (Ext.refl _) ⟨rfl, hr52⟩
  · refine ObX.op rfl fun f53 wd54 he55 hout56 hphi57 => ?_
    have e59 : f53 2 = (Value.pointer (some ⟨b1, 0, none⟩)) := (hout56 2 rfl).trans rfl
    exact OpX.val (Value.pointer (some ⟨b1, 1, none⟩)) wd54 rfl (op_fieldAddr fd_29_1 e59) (Ext.refl _) rfl
  · refine ObX.op rfl fun f60 wd61 he62 hout63 hphi64 => ?_
    have hS65 := St.extend hS8 he62
    obtain ⟨S66, hS67, hf68⟩ := hphi64 4 9 _ rfl rfl rfl
    have e69 : f60 9 = (Value.pointer (some ⟨b1, 1, none⟩)) := hf68
    exact OpX.val (Value.int .i64 c_Modulus) wd61 rfl (op_load one_2 e69 (BoxAt.cell (BoxAt.lift hS65.ext hx6) rfl)) (Ext.refl _) ⟨rfl, r_c_Modulus⟩
  · refine ObX.op rfl fun f70 wd71 he72 hout73 hphi74 => ?_
    obtain ⟨S76, hS77, hf78⟩ := hphi74 3 8 _ rfl rfl rfl
    obtain ⟨e79, hr80⟩ := hf78
    obtain ⟨S81, hS82, hf83⟩ := hphi74 5 10 _ rfl rfl rfl
    obtain ⟨e84, hr85⟩ := hf83
    exact OpX.val (Value.int .i64 (w64 (x49 + c_Modulus))) wd71 rfl (op_add e79 e84) (Ext.refl _) ⟨rfl, (inR_wrap _ _)⟩
  · refine ObX.op rfl fun f86 wd87 he88 hout89 hphi90 => ?_
    have e92 : f86 2 = (Value.pointer (some ⟨b1, 0, none⟩)) := (hout89 2 rfl).trans rfl
    exact OpX.val (Value.pointer (some ⟨b1, 1, none⟩)) wd87 rfl (op_fieldAddr fd_29_1 e92) (Ext.refl _) rfl
  · refine ObX.op rfl fun f93 wd94 he95 hout96 hphi97 => ?_
    have hS98 := St.extend hS8 he95
    obtain ⟨S99, hS100, hf101⟩ := hphi97 7 12 _ rfl rfl rfl
    have e102 : f93 12 = (Value.pointer (some ⟨b1, 1, none⟩)) := hf101
    exact OpX.val (Value.int .i64 c_Modulus) wd94 rfl (op_load one_2 e102 (BoxAt.cell (BoxAt.lift hS98.ext hx6) rfl)) (Ext.refl _) ⟨rfl, r_c_Modulus⟩
  · intro f103 wd104 Ss105 he106 hout107 hSn108 hSd109 hphi110
    show WL _ _ _ _ _ _ _
    have hS111 := St.extend hS8 he106
    obtain ⟨e112, hr113⟩ := hphi110 6 11 _ (by decide) rfl rfl
    obtain ⟨e114, hr115⟩ := hphi110 8 13 _ (by decide) rfl rfl
    obtain ⟨x116, hz117, h⟩ := bs h
    obtain ⟨h0118, hz117⟩ := remI_some hz117
    have hr119 : InR .i64 x116 := by rw [hz117]; exact inR_tmod hr113
    refine WL.val (Value.int .i64 x116) _ (by rw [hz117]; exact op_rem e112 e114 h0118) rfl ?_
    refine WL.val (Value.int .i64 x116) _ (op_assign rfl) rfl ?_
    refine WL.nil ?_
    refine W.ret ?_
    obtain rfl := Option.some.inj h
    show FinP _ _ _ _ _ _ _
    exact FinP.ret _ (res1 rfl rfl) ⟨rfl, hr119, (Ext.trans hE7 hS111.ext)⟩

end Go.VG
