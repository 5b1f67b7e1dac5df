/- The walks, part 3: each Go function returns what its plain twin returns. No condition beyond what each names. -/
import Derived.Test.YtaghjfegbooceaaDoorGWalk2
set_option linter.all false
namespace Go.VG
open Go.Proofs
attribute [local irreducible] W WL Sep FinP

theorem c_impl_zeros {w : World} {rows : Int} {columns : Int} (r_rows : InR .i64 rows) (r_columns : InR .i64 columns) {res : (List (List Int))} (h : p_impl_zeros rows columns  = some res) :
    Ret Tryd.prog 48 #[(Value.int .i64 rows), (Value.int .i64 columns)] w (fun v w' => ∃ (u0 : Value), v = u0 ∧ Ext w w' ∧ Sep w.heap.size w' [(Ty.sl (Ty.sl (Ty.i .i64))).at u0 res]) := by
  unfold p_impl_zeros at h
  have hS0 : St w w [] := St.start w
  refine Ret.start (fn := Tryd.f48) Tryd.func48 rfl 17 rfl rfl ?_
  refine W.seq (W.region ?_)
  refine WL.val (Value.slice none 0 0) _ (op_assign rfl) rfl ?_
  refine WL.nil ?_
  refine W.seq (W.region ?_)
  refine WL.lit0 (t := (Ty.sl (Ty.i .i64))) hS0 sl_41 rfl rfl ?_
  intro u1 wd2 hS3 he4
  replace hS3 : St w wd2 [(Ty.sl (Ty.sl (Ty.i .i64))).at u1 ([] : (List (List Int)))] := hS3
  refine WL.val u1 _ (op_assign rfl) rfl ?_
  refine WL.nil ?_
  refine W.seq (W.seq (W.region ?_))
  refine WL.val (Value.int .i64 rows) _ (op_move rfl) rfl ?_
  refine WL.val (Value.int .i64 (0 : Int)) _ (op_move rfl) rfl ?_
  refine WL.nil ?_
  show W _ _ _ _ _ _
  obtain ⟨res5, hres6, h⟩ := bs h
  refine W.blockLoop (fun fq wq => ∃ s, res5 = Res.fin s ∧ ∃ (uu0 : Value), fq 5 = uu0 ∧ St w wq [(Ty.sl (Ty.sl (Ty.i .i64))).at uu0 s]) ?_ ?_
  · refine W.forN (fun k (s : (List (List Int))) fq wq => ∃ (uu0 : Value), fq 1 = (Value.int .i64 columns) ∧ fq 5 = uu0 ∧ fq 7 = (Value.int .i64 rows) ∧ fq 8 = Value.int .i64 (k : Int) ∧ InR .i64 (k : Int) ∧ St w wq [(Ty.sl (Ty.sl (Ty.i .i64))).at uu0 s]) hres6 ⟨u1, rfl, rfl, rfl, rfl, (inL rfl), hS3⟩ ?_ ?_
    · intro k7 x8 ct9 f10 wd11 hk12 hb13 hI14 hbrk15 hret16
      replace hI14 : ∃ (uu0 : Value), f10 1 = (Value.int .i64 columns) ∧ f10 5 = uu0 ∧ f10 7 = (Value.int .i64 rows) ∧ f10 8 = Value.int .i64 (k7 : Int) ∧ InR .i64 (k7 : Int) ∧ St w wd11 [(Ty.sl (Ty.sl (Ty.i .i64))).at uu0 x8] := hI14
      replace hb13 : p_impl_zeros_L1 columns k7 x8 = some ct9 := hb13
      unfold p_impl_zeros_L1 at hb13
      obtain ⟨u17, hf18, hf19, hf20, hf21, hr22, hS23⟩ := hI14
      refine W.seq (W.region ?_)
      refine WL.val (Value.bool (decide ((k7 : Int) < rows))) _ (op_lss hf21 hf20) rfl ?_
      have hl24 : (k7 : Int) < rows := by omega
      refine WL.nil ?_
      refine W.seq ?_
      refine W.condT (decide ((k7 : Int) < rows)) rfl (decide_eq_true hl24) ?_
      refine W.skip ?_
      refine W.seq ?_
      refine W.block ?_
      refine W.region ?_
      refine WL.val u17 _ (op_move hf19) rfl ?_
      refine WL.val (Value.int .i64 columns) _ (op_move hf18) rfl ?_
      obtain ⟨x26, hx27, hb13⟩ := bs hb13
      refine WL.make (t := (Ty.i .i64)) hS23 sl_33 (fun _ _ => ⟨rfl, (inL rfl)⟩) rfl rfl hx27 rfl rfl ?_
      intro u28 wd29 hS30 he31
      replace hS30 : St w wd29 [(Ty.sl (Ty.sl (Ty.i .i64))).at u17 x8, (Ty.sl (Ty.i .i64)).at u28 x26] := hS30
      refine WL.lit [u28] hS30 sl_41 rfl rfl (fillL rfl ⟨rfl, rfl, (cells_rep (St.rep (t := (Ty.sl (Ty.i .i64))) hS30 1 rfl)), trivial⟩) rfl rfl ?_
      intro b36 wd33 hS34 he35 hx37
      replace hS34 : St w wd33 [(Ty.sl (Ty.sl (Ty.i .i64))).at u17 x8, (Ty.sl (Ty.i .i64)).at u28 x26, bx b36 [u28]] := hS34
      obtain ⟨x38, hx39, hb13⟩ := bs hb13
      refine WL.appendRow hS34 (k := 0) (k2 := 1) (k3 := 2) rfl rfl rfl rfl sl_41 rfl rfl rfl rfl hx39 rfl ?_
      intro u40 wd41 hS42 hz43
      replace hS42 : St w wd41 [(Ty.sl (Ty.sl (Ty.i .i64))).at u40 x38, emp, bx b36 [u28]] := hS42
      refine WL.val u40 _ (op_assign rfl) rfl ?_
      refine WL.nil ?_
      show W _ _ _ _ _ _
      refine W.region ?_
      refine WL.val (Value.int .i64 (w64 ((k7 : Int) + (1 : Int)))) _ (op_add hf21 rfl) rfl ?_
      refine WL.val (Value.int .i64 (w64 ((k7 : Int) + (1 : Int)))) _ (op_move rfl) rfl ?_
      refine WL.nil ?_
      obtain rfl := Option.some.inj hb13
      show ∃ s, _ = Ctl.next s ∧ _
      exact ⟨_, rfl, u40, hf18, rfl, hf20, (ctr_next hl24 r_rows), (ctr_rng hl24 r_rows), (St.pick hS42 [0] rfl)⟩
    · intro x50 f45 wd46 hs47 hI48
      replace hI48 : ∃ (uu0 : Value), f45 1 = (Value.int .i64 columns) ∧ f45 5 = uu0 ∧ f45 7 = (Value.int .i64 rows) ∧ f45 8 = Value.int .i64 (((rows).toNat : Nat) : Int) ∧ InR .i64 (((rows).toNat : Nat) : Int) ∧ St w wd46 [(Ty.sl (Ty.sl (Ty.i .i64))).at uu0 x50] := hI48
      obtain ⟨u51, hf52, hf53, hf54, hf55, hr56, hS57⟩ := hI48
      refine W.seq (W.region ?_)
      refine WL.val (Value.bool (decide ((((rows).toNat : Nat) : Int) < rows))) _ (op_lss hf55 hf54) rfl ?_
      have hl58 : ¬ (((rows).toNat : Nat) : Int) < rows := by omega
      refine WL.nil ?_
      refine W.seq ?_
      refine W.condF (decide ((((rows).toNat : Nat) : Int) < rows)) rfl (decide_eq_false hl58) ?_
      refine W.exit ?_
      show _ = _ ∧ _
      exact ⟨rfl, _, hs47, u51, hf53, hS57⟩
  · rintro f59 wd60 ⟨x63, rfl, hq61⟩
    replace h := onRes_fin h
    replace hq61 : ∃ (uu0 : Value), f59 5 = uu0 ∧ St w wd60 [(Ty.sl (Ty.sl (Ty.i .i64))).at uu0 x63] := hq61
    obtain ⟨u64, hf65, hS66⟩ := hq61
    refine W.seq (W.region ?_)
    refine WL.val u64 _ (op_move hf65) rfl ?_
    refine WL.val u64 _ (op_assign rfl) rfl ?_
    refine WL.nil ?_
    refine W.ret ?_
    obtain rfl := Option.some.inj h
    show FinP _ _ _ _ _ _ _
    exact FinP.ret _ (res1 rfl rfl) ⟨u64, rfl, hS66.ext, (St.out (St.pick hS66 [0] rfl) (Ext.refl _))⟩

theorem c_impl_Ring_supports {w : World} {r_Table : (List (List (List Int)))} {v_r_Table : Value} (r_r_Table : (Ty.sl (Ty.sl (Ty.sl (Ty.i .i64)))).rep w v_r_Table r_Table) {res : (List (List Int))} (h : p_impl_Ring_supports r_Table  = some res) :
    Ret Tryd.prog 47 #[(Value.agg #[v_r_Table])] w (fun v w' => ∃ (u0 : Value), v = u0 ∧ Ext w w' ∧ Sep w.heap.size w' [(Ty.sl (Ty.sl (Ty.i .i64))).at u0 res]) := by
  unfold p_impl_Ring_supports at h
  have hS0 : St w w [] := St.start w
  refine Ret.start (fn := Tryd.f47) Tryd.func47 rfl 56 rfl rfl ?_
  refine W.seq (W.region ?_)
  refine WL.box hS0 rfl (cs := [v_r_Table]) rfl rfl ?_
  intro b1 wd2 hS3 he4 hx5
  replace hS3 : St w wd2 [bx b1 [v_r_Table]] := hS3
  have hx6 := St.boxAt hS3 0 rfl
  have hE7 : Ext w wd2 := hS3.ext
  have hS8 : St wd2 wd2 [] := St.start wd2
  refine WL.val (Value.slice none 0 0) _ (op_assign rfl) rfl ?_
  refine WL.nil ?_
  refine W.seq (W.region ?_)
  refine WL.val (Value.pointer (some ⟨b1, 0, none⟩)) _ (op_fieldAddr fd_26_0 rfl) rfl ?_
  refine WL.val v_r_Table _ (op_load one_22 rfl (BoxAt.cell (BoxAt.lift hS8.ext hx6) rfl)) rfl ?_
  have hr9 := inR_len (Ty.lift _ (Ext.trans hE7 hS8.ext) r_r_Table)
  refine WL.val (Value.int .i64 ((r_Table).length : Int)) _ (op_lenL sl_22 (Ty.lift _ (Ext.trans hE7 hS8.ext) r_r_Table) rfl) rfl ?_
  refine WL.val (Value.pointer (some ⟨b1, 0, none⟩)) _ (op_fieldAddr fd_26_0 rfl) rfl ?_
  refine WL.val v_r_Table _ (op_load one_22 rfl (BoxAt.cell (BoxAt.lift hS8.ext hx6) rfl)) rfl ?_
  have hr10 := inR_len (Ty.lift _ (Ext.trans hE7 hS8.ext) r_r_Table)
  refine WL.val (Value.int .i64 ((r_Table).length : Int)) _ (op_lenL sl_22 (Ty.lift _ (Ext.trans hE7 hS8.ext) r_r_Table) rfl) rfl ?_
  obtain ⟨x11, hx12, h⟩ := bs h
  refine WL.call _ (op_call fn_48 (args2 rfl rfl)) (c_impl_zeros hr9 hr10 hx12) rfl ?_
  rintro u13 wd14 ⟨_, rfl, he15, hs16⟩
  have hS17 := St.join hS8 he15 hs16
  replace hS17 : St wd2 wd14 [(Ty.sl (Ty.sl (Ty.i .i64))).at u13 x11] := hS17
  refine WL.val u13 _ (op_assign rfl) rfl ?_
  refine WL.nil ?_
  refine W.seq (W.seq (W.region ?_))
  refine WL.val (Value.pointer (some ⟨b1, 0, none⟩)) _ (op_fieldAddr fd_26_0 rfl) rfl ?_
  refine WL.val v_r_Table _ (op_load one_22 rfl (BoxAt.cell (BoxAt.lift hS17.ext hx6) rfl)) rfl ?_
  have hr18 := inR_len (Ty.lift _ (Ext.trans hE7 hS17.ext) r_r_Table)
  refine WL.val (Value.int .i64 ((r_Table).length : Int)) _ (op_lenL sl_22 (Ty.lift _ (Ext.trans hE7 hS17.ext) r_r_Table) rfl) rfl ?_
  refine WL.val (Value.int .i64 (0 : Int)) _ (op_move rfl) rfl ?_
  refine WL.nil ?_
  show W _ _ _ _ _ _
  obtain ⟨res19, hres20, h⟩ := bs h
  refine W.blockLoop (fun fq wq => ∃ s, res19 = Res.fin s ∧ fq 3 = u13 ∧ St wd2 wq [(Ty.sl (Ty.sl (Ty.i .i64))).at u13 s]) ?_ ?_
  · refine W.forN (fun k (s : (List (List Int))) fq wq => fq 3 = u13 ∧ fq 18 = v_r_Table ∧ fq 19 = (Value.int .i64 ((r_Table).length : Int)) ∧ fq 20 = Value.int .i64 (k : Int) ∧ InR .i64 (k : Int) ∧ St wd2 wq [(Ty.sl (Ty.sl (Ty.i .i64))).at u13 s]) hres20 ⟨rfl, rfl, rfl, rfl, (inL rfl), hS17⟩ ?_ ?_
    · intro k21 x22 ct23 f24 wd25 hk26 hb27 hI28 hbrk29 hret30
      replace hI28 : f24 3 = u13 ∧ f24 18 = v_r_Table ∧ f24 19 = (Value.int .i64 ((r_Table).length : Int)) ∧ f24 20 = Value.int .i64 (k21 : Int) ∧ InR .i64 (k21 : Int) ∧ St wd2 wd25 [(Ty.sl (Ty.sl (Ty.i .i64))).at u13 x22] := hI28
      replace hb27 : p_impl_Ring_supports_L1 r_Table k21 x22 = some ct23 := hb27
      unfold p_impl_Ring_supports_L1 at hb27
      obtain ⟨hf31, hf32, hf33, hf34, hr35, hS36⟩ := hI28
      refine W.seq (W.region ?_)
      refine WL.val (Value.bool (decide ((k21 : Int) < ((r_Table).length : Int)))) _ (op_lss hf34 hf33) rfl ?_
      have hl37 : (k21 : Int) < ((r_Table).length : Int) := by omega
      refine WL.nil ?_
      refine W.seq ?_
      refine W.condT (decide ((k21 : Int) < ((r_Table).length : Int))) rfl (decide_eq_true hl37) ?_
      refine W.skip ?_
      refine W.seq ?_
      refine W.block ?_
      refine W.seq (W.region ?_)
      refine WL.val (Value.int .i64 (k21 : Int)) _ (op_move hf34) rfl ?_
      obtain ⟨x39, hx42, hb27⟩ := bs hb27
      obtain ⟨ha40, hb41, hx42⟩ := idx_some hx42
      refine WL.val (Value.pointer (some (elA v_r_Table ((k21 : Int)).toNat))) _ (op_idx sl_22 (Ty.lift _ (Ext.trans hE7 hS36.ext) r_r_Table) hf32 hf34 ha40 hb41) rfl ?_
      obtain ⟨u43, hc44, hr45⟩ := repSl.el r_r_Table hx42
      refine WL.val u43 _ (op_load one_41 rfl (Ext.cell (Ext.trans hE7 hS36.ext) hc44)) rfl ?_
      refine WL.val (Value.int .i64 (k21 : Int)) _ (op_assign rfl) rfl ?_
      refine WL.val u43 _ (op_assign rfl) rfl ?_
      refine WL.nil ?_
      refine W.seq (W.region ?_)
      refine WL.val u43 _ (op_move rfl) rfl ?_
      have hr46 := inR_len (Ty.lift _ (Ext.trans hE7 hS36.ext) hr45)
      refine WL.val (Value.int .i64 ((x39).length : Int)) _ (op_lenL sl_41 (Ty.lift _ (Ext.trans hE7 hS36.ext) hr45) rfl) rfl ?_
      refine WL.val (Value.int .i64 (0 : Int)) _ (op_move rfl) rfl ?_
      refine WL.nil ?_
      show W _ _ _ _ _ _
      obtain ⟨res47, hres48, hb27⟩ := bs hb27
      refine W.blockLoop (fun fq wq => ∃ s, res47 = Res.fin s ∧ fq 3 = u13 ∧ fq 18 = v_r_Table ∧ fq 19 = (Value.int .i64 ((r_Table).length : Int)) ∧ fq 20 = (Value.int .i64 (k21 : Int)) ∧ St wd2 wq [(Ty.sl (Ty.sl (Ty.i .i64))).at u13 s]) ?_ ?_
      · refine W.forN (fun k (s : (List (List Int))) fq wq => fq 3 = u13 ∧ fq 4 = (Value.int .i64 (k21 : Int)) ∧ fq 18 = v_r_Table ∧ fq 19 = (Value.int .i64 ((r_Table).length : Int)) ∧ fq 20 = (Value.int .i64 (k21 : Int)) ∧ fq 25 = u43 ∧ fq 26 = (Value.int .i64 ((x39).length : Int)) ∧ fq 27 = Value.int .i64 (k : Int) ∧ InR .i64 (k : Int) ∧ St wd2 wq [(Ty.sl (Ty.sl (Ty.i .i64))).at u13 s]) hres48 ⟨hf31, rfl, hf32, hf33, hf34, rfl, rfl, rfl, (inL rfl), hS36⟩ ?_ ?_
        · intro k49 x50 ct51 f52 wd53 hk54 hb55 hI56 hbrk57 hret58
          replace hI56 : f52 3 = u13 ∧ f52 4 = (Value.int .i64 (k21 : Int)) ∧ f52 18 = v_r_Table ∧ f52 19 = (Value.int .i64 ((r_Table).length : Int)) ∧ f52 20 = (Value.int .i64 (k21 : Int)) ∧ f52 25 = u43 ∧ f52 26 = (Value.int .i64 ((x39).length : Int)) ∧ f52 27 = Value.int .i64 (k49 : Int) ∧ InR .i64 (k49 : Int) ∧ St wd2 wd53 [(Ty.sl (Ty.sl (Ty.i .i64))).at u13 x50] := hI56
          replace hb55 : p_impl_Ring_supports_L2 x39 k21 k49 x50 = some ct51 := hb55
          unfold p_impl_Ring_supports_L2 at hb55
          obtain ⟨hf59, hf60, hf61, hf62, hf63, hf64, hf65, hf66, hr67, hS68⟩ := hI56
          refine W.seq (W.region ?_)
          refine WL.val (Value.bool (decide ((k49 : Int) < ((x39).length : Int)))) _ (op_lss hf66 hf65) rfl ?_
          have hl69 : (k49 : Int) < ((x39).length : Int) := by omega
          refine WL.nil ?_
          refine W.seq ?_
          refine W.condT (decide ((k49 : Int) < ((x39).length : Int))) rfl (decide_eq_true hl69) ?_
          refine W.skip ?_
          refine W.seq ?_
          refine W.block ?_
          refine W.seq (W.region ?_)
          refine WL.val (Value.int .i64 (k49 : Int)) _ (op_move hf66) rfl ?_
          obtain ⟨x71, hx74, hb55⟩ := bs hb55
          obtain ⟨ha72, hb73, hx74⟩ := idx_some hx74
          refine WL.val (Value.pointer (some (elA u43 ((k49 : Int)).toNat))) _ (op_idx sl_41 (Ty.lift _ (Ext.trans hE7 hS68.ext) hr45) hf64 hf66 ha72 hb73) rfl ?_
          obtain ⟨u75, hc76, hr77⟩ := repSl.el hr45 hx74
          refine WL.val u75 _ (op_load one_33 rfl (Ext.cell (Ext.trans hE7 hS68.ext) hc76)) rfl ?_
          refine WL.val (Value.int .i64 (k49 : Int)) _ (op_assign rfl) rfl ?_
          refine WL.val u75 _ (op_assign rfl) rfl ?_
          refine WL.nil ?_
          refine W.seq (W.region ?_)
          refine WL.val u75 _ (op_move rfl) rfl ?_
          have hr78 := inR_len (Ty.lift _ (Ext.trans hE7 hS68.ext) hr77)
          refine WL.val (Value.int .i64 ((x71).length : Int)) _ (op_lenL sl_33 (Ty.lift _ (Ext.trans hE7 hS68.ext) hr77) rfl) rfl ?_
          refine WL.val (Value.int .i64 (0 : Int)) _ (op_move rfl) rfl ?_
          refine WL.nil ?_
          show W _ _ _ _ _ _
          obtain ⟨res79, hres80, hb55⟩ := bs hb55
          refine W.blockLoop (fun fq wq => ∃ s, res79 = Res.fin s ∧ fq 3 = u13 ∧ fq 4 = (Value.int .i64 (k21 : Int)) ∧ fq 18 = v_r_Table ∧ fq 19 = (Value.int .i64 ((r_Table).length : Int)) ∧ fq 20 = (Value.int .i64 (k21 : Int)) ∧ fq 25 = u43 ∧ fq 26 = (Value.int .i64 ((x39).length : Int)) ∧ fq 27 = (Value.int .i64 (k49 : Int)) ∧ St wd2 wq [(Ty.sl (Ty.sl (Ty.i .i64))).at u13 s]) ?_ ?_
          · refine W.forN (fun k (s : (List (List Int))) fq wq => fq 3 = u13 ∧ fq 4 = (Value.int .i64 (k21 : Int)) ∧ fq 6 = (Value.int .i64 (k49 : Int)) ∧ fq 18 = v_r_Table ∧ fq 19 = (Value.int .i64 ((r_Table).length : Int)) ∧ fq 20 = (Value.int .i64 (k21 : Int)) ∧ fq 25 = u43 ∧ fq 26 = (Value.int .i64 ((x39).length : Int)) ∧ fq 27 = (Value.int .i64 (k49 : Int)) ∧ fq 32 = u75 ∧ fq 33 = (Value.int .i64 ((x71).length : Int)) ∧ fq 34 = Value.int .i64 (k : Int) ∧ InR .i64 (k : Int) ∧ St wd2 wq [(Ty.sl (Ty.sl (Ty.i .i64))).at u13 s]) hres80 ⟨hf59, hf60, rfl, hf61, hf62, hf63, hf64, hf65, hf66, rfl, rfl, rfl, (inL rfl), hS68⟩ ?_ ?_
            · intro k81 x82 ct83 f84 wd85 hk86 hb87 hI88 hbrk89 hret90
              replace hI88 : f84 3 = u13 ∧ f84 4 = (Value.int .i64 (k21 : Int)) ∧ f84 6 = (Value.int .i64 (k49 : Int)) ∧ f84 18 = v_r_Table ∧ f84 19 = (Value.int .i64 ((r_Table).length : Int)) ∧ f84 20 = (Value.int .i64 (k21 : Int)) ∧ f84 25 = u43 ∧ f84 26 = (Value.int .i64 ((x39).length : Int)) ∧ f84 27 = (Value.int .i64 (k49 : Int)) ∧ f84 32 = u75 ∧ f84 33 = (Value.int .i64 ((x71).length : Int)) ∧ f84 34 = Value.int .i64 (k81 : Int) ∧ InR .i64 (k81 : Int) ∧ St wd2 wd85 [(Ty.sl (Ty.sl (Ty.i .i64))).at u13 x82] := hI88
              replace hb87 : p_impl_Ring_supports_L3 x71 k21 k49 k81 x82 = some ct83 := hb87
              unfold p_impl_Ring_supports_L3 at hb87
              obtain ⟨hf91, hf92, hf93, hf94, hf95, hf96, hf97, hf98, hf99, hf100, hf101, hf102, hr103, hS104⟩ := hI88
              refine W.seq (W.region ?_)
              refine WL.val (Value.bool (decide ((k81 : Int) < ((x71).length : Int)))) _ (op_lss hf102 hf101) rfl ?_
              have hl105 : (k81 : Int) < ((x71).length : Int) := by omega
              refine WL.nil ?_
              refine W.seq ?_
              refine W.condT (decide ((k81 : Int) < ((x71).length : Int))) rfl (decide_eq_true hl105) ?_
              refine W.skip ?_
              refine W.seq ?_
              refine W.block ?_
              refine W.seq (W.region ?_)
              refine WL.val (Value.int .i64 (k81 : Int)) _ (op_move hf102) rfl ?_
              obtain ⟨x107, hx110, hb87⟩ := bs hb87
              obtain ⟨ha108, hb109, hx110⟩ := idx_some hx110
              refine WL.val (Value.pointer (some (elA u75 ((k81 : Int)).toNat))) _ (op_idx sl_33 (Ty.lift _ (Ext.trans hE7 hS104.ext) hr77) hf100 hf102 ha108 hb109) rfl ?_
              obtain ⟨u111, hc112, hr113⟩ := repSl.el hr77 hx110
              obtain ⟨rfl, hr113⟩ := hr113
              refine WL.val (Value.int .i64 x107) _ (op_load one_2 rfl (Ext.cell (Ext.trans hE7 hS104.ext) hc112)) rfl ?_
              refine WL.val (Value.int .i64 (k81 : Int)) _ (op_assign rfl) rfl ?_
              refine WL.val (Value.int .i64 x107) _ (op_assign rfl) rfl ?_
              refine WL.nil ?_
              refine W.seq (W.region ?_)
              refine WL.val (Value.int .i64 x107) _ (op_move rfl) rfl ?_
              refine WL.val (Value.bool (decide (x107 > (0 : Int)))) _ (op_gtr rfl rfl) rfl ?_
              refine WL.nil ?_
              show W _ _ _ _ _ _
              obtain ⟨x114, hj115, hb87⟩ := bs hb87
              refine W.cutCode (fun fq wq => fq 3 = u13 ∧ fq 4 = (Value.int .i64 (k21 : Int)) ∧ fq 6 = (Value.int .i64 (k49 : Int)) ∧ fq 18 = v_r_Table ∧ fq 19 = (Value.int .i64 ((r_Table).length : Int)) ∧ fq 20 = (Value.int .i64 (k21 : Int)) ∧ fq 25 = u43 ∧ fq 26 = (Value.int .i64 ((x39).length : Int)) ∧ fq 27 = (Value.int .i64 (k49 : Int)) ∧ fq 32 = u75 ∧ fq 33 = (Value.int .i64 ((x71).length : Int)) ∧ fq 34 = (Value.int .i64 (k81 : Int)) ∧ St wd2 wq [(Ty.sl (Ty.sl (Ty.i .i64))).at u13 x114]) ?_ ?_
              · refine W.cond (decide (x107 > (0 : Int))) rfl (fun hc116 => ?_) (fun hc116 => ?_)
                · replace hj115 := ip hj115 hc116
                  obtain ⟨x146, hx149, hj115⟩ := bs hj115
                  obtain ⟨ha147, hb148, hx149⟩ := idx_some hx149
                  obtain ⟨u160, hc161, hr162⟩ := repSl.el (St.rep (t := (Ty.sl (Ty.sl (Ty.i .i64)))) hS104 0 rfl) hx149
                  obtain ⟨x185, hx188, hj115⟩ := bs hj115
                  obtain ⟨ha186, hb187, hx188⟩ := idx_some hx188
                  obtain ⟨u199, hc200, hr201⟩ := repSl.el hr162 hx188
                  obtain ⟨rfl, hr201⟩ := hr201
                  obtain ⟨x220, hz221, hj115⟩ := bs hj115
                  obtain ⟨h0222, hz221⟩ := shlI_some hz221
                  refine W.drawR mixo 9 [] [fun _ v _ _ => v = u13, fun _ v _ _ => v = (Value.int .i64 (k21 : Int)) ∧ InR .i64 (k21 : Int), fun _ v _ _ => v = (Value.pointer (some (elA u13 ((k21 : Int)).toNat))), fun _ v _ _ => v = u160, fun _ v _ _ => v = (Value.int .i64 (k49 : Int)) ∧ InR .i64 (k49 : Int), fun _ v _ _ => v = (Value.pointer (some (elA u160 ((k49 : Int)).toNat))), fun _ v _ _ => v = (Value.int .i64 x185) ∧ InR .i64 x185, fun _ v _ _ => v = (Value.int .i64 (k81 : Int)) ∧ InR .i64 (k81 : Int), fun _ v _ _ => v = (Value.int .i64 x220) ∧ InR .i64 x220] (by kernel_rfl) (by kernel_rfl) ⟨pk, pk, pk, pk, pk, pk, pk, pk, pk, trivial⟩ ⟨?_, ?_, ?_, ?_, ?_, ?_, ?_, ?_, ?_, trivial⟩ ?_
                  · refine ObX.op rfl fun f117 wd118 he119 hout120 hphi121 => ?_
                    have e123 : f117 3 = u13 := (hout120 3 rfl).trans hf91
                    exact OpX.val u13 wd118 rfl (op_move e123) (Ext.refl _) rfl
                  · refine ObX.op rfl fun f124 wd125 he126 hout127 hphi128 => ?_
                    have e130 : f124 4 = (Value.int .i64 (k21 : Int)) := (hout127 4 rfl).trans hf92
                    exact OpX.val (Value.int .i64 (k21 : Int)) wd125 rfl (op_move e130) (Ext.refl _) ⟨rfl, hr35⟩
                  · refine ObX.op rfl fun f131 wd132 he133 hout134 hphi135 => ?_
                    have hS136 := St.extend hS104 he133
                    obtain ⟨S137, hS138, hf139⟩ := hphi135 0 41 _ rfl rfl rfl
                    have e140 : f131 41 = u13 := hf139
                    obtain ⟨S141, hS142, hf143⟩ := hphi135 1 42 _ rfl rfl rfl
                    obtain ⟨e144, hr145⟩ := hf143
                    exact OpX.val (Value.pointer (some (elA u13 ((k21 : Int)).toNat))) wd132 rfl (op_idx sl_41 (St.rep (t := (Ty.sl (Ty.sl (Ty.i .i64)))) hS136 0 rfl) e140 e144 ha147 hb148) (Ext.refl _) rfl
                  · refine ObX.op rfl fun f150 wd151 he152 hout153 hphi154 => ?_
                    obtain ⟨S156, hS157, hf158⟩ := hphi154 2 43 _ rfl rfl rfl
                    have e159 : f150 43 = (Value.pointer (some (elA u13 ((k21 : Int)).toNat))) := hf158
                    exact OpX.val u160 wd151 rfl (op_load one_33 e159 (Ext.cell he152 hc161)) (Ext.refl _) rfl
                  · refine ObX.op rfl fun f163 wd164 he165 hout166 hphi167 => ?_
                    have e169 : f163 6 = (Value.int .i64 (k49 : Int)) := (hout166 6 rfl).trans hf93
                    exact OpX.val (Value.int .i64 (k49 : Int)) wd164 rfl (op_move e169) (Ext.refl _) ⟨rfl, hr67⟩
                  · refine ObX.op rfl fun f170 wd171 he172 hout173 hphi174 => ?_
                    obtain ⟨S176, hS177, hf178⟩ := hphi174 3 44 _ rfl rfl rfl
                    have e179 : f170 44 = u160 := hf178
                    obtain ⟨S180, hS181, hf182⟩ := hphi174 4 45 _ rfl rfl rfl
                    obtain ⟨e183, hr184⟩ := hf182
                    exact OpX.val (Value.pointer (some (elA u160 ((k49 : Int)).toNat))) wd171 rfl (op_idx sl_33 (Ty.lift _ he172 hr162) e179 e183 ha186 hb187) (Ext.refl _) rfl
                  · refine ObX.op rfl fun f189 wd190 he191 hout192 hphi193 => ?_
                    obtain ⟨S195, hS196, hf197⟩ := hphi193 5 46 _ rfl rfl rfl
                    have e198 : f189 46 = (Value.pointer (some (elA u160 ((k49 : Int)).toNat))) := hf197
                    exact OpX.val (Value.int .i64 x185) wd190 rfl (op_load one_2 e198 (Ext.cell he191 hc200)) (Ext.refl _) ⟨rfl, hr201⟩
                  · refine ObX.op rfl fun f202 wd203 he204 hout205 hphi206 => ?_
                    have e208 : f202 8 = (Value.int .i64 (k81 : Int)) := (hout205 8 rfl).trans rfl
                    exact OpX.val (Value.int .i64 (k81 : Int)) wd203 rfl (op_move e208) (Ext.refl _) ⟨rfl, hr103⟩
                  · refine ObX.op rfl fun f209 wd210 he211 hout212 hphi213 => ?_
                    obtain ⟨S215, hS216, hf217⟩ := hphi213 7 48 _ rfl rfl rfl
                    obtain ⟨e218, hr219⟩ := hf217
                    have hr223 : InR .i64 x220 := by rw [hz221]; exact inR_wrap _ _
                    exact OpX.val (Value.int .i64 x220) wd210 rfl (by rw [hz221]; exact op_shl rfl e218 h0222) (Ext.refl _) ⟨rfl, hr223⟩
                  · intro f224 wd225 Ss226 he227 hout228 hSn229 hSd230 hphi231
                    show WL _ _ _ _ _ _ _
                    have hS232 := St.extend hS104 he227
                    have e233 : f224 44 = u160 := hphi231 3 44 _ (by decide) rfl rfl
                    obtain ⟨e234, hr235⟩ := hphi231 4 45 _ (by decide) rfl rfl
                    obtain ⟨e236, hr237⟩ := hphi231 6 47 _ (by decide) rfl rfl
                    obtain ⟨e238, hr239⟩ := hphi231 8 49 _ (by decide) rfl rfl
                    have e240 : f224 3 = u13 := (hout228 3 rfl).trans hf91
                    have e241 : f224 4 = (Value.int .i64 (k21 : Int)) := (hout228 4 rfl).trans hf92
                    have e242 : f224 6 = (Value.int .i64 (k49 : Int)) := (hout228 6 rfl).trans hf93
                    have e243 : f224 18 = v_r_Table := (hout228 18 rfl).trans hf94
                    have e244 : f224 19 = (Value.int .i64 ((r_Table).length : Int)) := (hout228 19 rfl).trans hf95
                    have e245 : f224 20 = (Value.int .i64 (k21 : Int)) := (hout228 20 rfl).trans hf96
                    have e246 : f224 25 = u43 := (hout228 25 rfl).trans hf97
                    have e247 : f224 26 = (Value.int .i64 ((x39).length : Int)) := (hout228 26 rfl).trans hf98
                    have e248 : f224 27 = (Value.int .i64 (k49 : Int)) := (hout228 27 rfl).trans hf99
                    have e249 : f224 32 = u75 := (hout228 32 rfl).trans hf100
                    have e250 : f224 33 = (Value.int .i64 ((x71).length : Int)) := (hout228 33 rfl).trans hf101
                    have e251 : f224 34 = (Value.int .i64 (k81 : Int)) := (hout228 34 rfl).trans hf102
                    refine WL.val (Value.int .i64 (orI .i64 x185 x220)) _ (op_or e236 e238) rfl ?_
                    refine WL.val (Value.pointer (some (elA u160 ((k49 : Int)).toNat))) _ (op_idx sl_33 (Ty.lift _ he227 hr162) e233 e234 ha186 hb187) rfl ?_
                    refine WL.storeEl2 (flat_i .i64) hS232 (k := 0) rfl sz_2 hx149 (Ext.cell he227 hc161) rfl rfl (lt_of_idx ha186 hb187) ⟨rfl, (inR_wrap _ _)⟩ ?_
                    intro wd252 hS253
                    replace hS253 : St wd2 wd252 [(Ty.sl (Ty.sl (Ty.i .i64))).at u13 ((x82).set ((k21 : Int)).toNat ((x146).set ((k49 : Int)).toNat (orI .i64 x185 x220)))] := hS253
                    refine WL.nil ?_
                    obtain rfl := Option.some.inj hj115
                    exact ⟨e240, e241, e242, e243, e244, e245, e246, e247, e248, e249, e250, e251, hS253⟩
                · replace hj115 := inegb hj115 hc116
                  refine W.skip ?_
                  obtain rfl := Option.some.inj hj115
                  exact ⟨hf91, hf92, hf93, hf94, hf95, hf96, hf97, hf98, hf99, hf100, hf101, hf102, hS104⟩
              · intro f254 wd255 hq256
                obtain ⟨hf257, hf258, hf259, hf260, hf261, hf262, hf263, hf264, hf265, hf266, hf267, hf268, hS269⟩ := hq256
                show W _ _ _ _ _ _
                refine W.region ?_
                refine WL.val (Value.int .i64 (w64 ((k81 : Int) + (1 : Int)))) _ (op_add hf268 rfl) rfl ?_
                refine WL.val (Value.int .i64 (w64 ((k81 : Int) + (1 : Int)))) _ (op_move rfl) rfl ?_
                refine WL.nil ?_
                obtain rfl := Option.some.inj hb87
                show ∃ s, _ = Ctl.next s ∧ _
                exact ⟨_, rfl, hf257, hf258, hf259, hf260, hf261, hf262, hf263, hf264, hf265, hf266, hf267, (ctr_next hl105 hr78), (ctr_rng hl105 hr78), hS269⟩
            · intro x276 f271 wd272 hs273 hI274
              replace hI274 : f271 3 = u13 ∧ f271 4 = (Value.int .i64 (k21 : Int)) ∧ f271 6 = (Value.int .i64 (k49 : Int)) ∧ f271 18 = v_r_Table ∧ f271 19 = (Value.int .i64 ((r_Table).length : Int)) ∧ f271 20 = (Value.int .i64 (k21 : Int)) ∧ f271 25 = u43 ∧ f271 26 = (Value.int .i64 ((x39).length : Int)) ∧ f271 27 = (Value.int .i64 (k49 : Int)) ∧ f271 32 = u75 ∧ f271 33 = (Value.int .i64 ((x71).length : Int)) ∧ f271 34 = Value.int .i64 (((x71).length : Nat) : Int) ∧ InR .i64 (((x71).length : Nat) : Int) ∧ St wd2 wd272 [(Ty.sl (Ty.sl (Ty.i .i64))).at u13 x276] := hI274
              obtain ⟨hf277, hf278, hf279, hf280, hf281, hf282, hf283, hf284, hf285, hf286, hf287, hf288, hr289, hS290⟩ := hI274
              refine W.seq (W.region ?_)
              refine WL.val (Value.bool (decide ((((x71).length : Nat) : Int) < ((x71).length : Int)))) _ (op_lss hf288 hf287) rfl ?_
              have hl291 : ¬ (((x71).length : Nat) : Int) < ((x71).length : Int) := by omega
              refine WL.nil ?_
              refine W.seq ?_
              refine W.condF (decide ((((x71).length : Nat) : Int) < ((x71).length : Int))) rfl (decide_eq_false hl291) ?_
              refine W.exit ?_
              show _ = _ ∧ _
              exact ⟨rfl, _, hs273, hf277, hf278, hf280, hf281, hf282, hf283, hf284, hf285, hS290⟩
          · rintro f292 wd293 ⟨x296, rfl, hq294⟩
            replace hb55 := onRes_fin hb55
            replace hq294 : f292 3 = u13 ∧ f292 4 = (Value.int .i64 (k21 : Int)) ∧ f292 18 = v_r_Table ∧ f292 19 = (Value.int .i64 ((r_Table).length : Int)) ∧ f292 20 = (Value.int .i64 (k21 : Int)) ∧ f292 25 = u43 ∧ f292 26 = (Value.int .i64 ((x39).length : Int)) ∧ f292 27 = (Value.int .i64 (k49 : Int)) ∧ St wd2 wd293 [(Ty.sl (Ty.sl (Ty.i .i64))).at u13 x296] := hq294
            obtain ⟨hf297, hf298, hf299, hf300, hf301, hf302, hf303, hf304, hS305⟩ := hq294
            show W _ _ _ _ _ _
            refine W.region ?_
            refine WL.val (Value.int .i64 (w64 ((k49 : Int) + (1 : Int)))) _ (op_add hf304 rfl) rfl ?_
            refine WL.val (Value.int .i64 (w64 ((k49 : Int) + (1 : Int)))) _ (op_move rfl) rfl ?_
            refine WL.nil ?_
            obtain rfl := Option.some.inj hb55
            show ∃ s, _ = Ctl.next s ∧ _
            exact ⟨_, rfl, hf297, hf298, hf299, hf300, hf301, hf302, hf303, (ctr_next hl69 hr46), (ctr_rng hl69 hr46), hS305⟩
        · intro x313 f308 wd309 hs310 hI311
          replace hI311 : f308 3 = u13 ∧ f308 4 = (Value.int .i64 (k21 : Int)) ∧ f308 18 = v_r_Table ∧ f308 19 = (Value.int .i64 ((r_Table).length : Int)) ∧ f308 20 = (Value.int .i64 (k21 : Int)) ∧ f308 25 = u43 ∧ f308 26 = (Value.int .i64 ((x39).length : Int)) ∧ f308 27 = Value.int .i64 (((x39).length : Nat) : Int) ∧ InR .i64 (((x39).length : Nat) : Int) ∧ St wd2 wd309 [(Ty.sl (Ty.sl (Ty.i .i64))).at u13 x313] := hI311
          obtain ⟨hf314, hf315, hf316, hf317, hf318, hf319, hf320, hf321, hr322, hS323⟩ := hI311
          refine W.seq (W.region ?_)
          refine WL.val (Value.bool (decide ((((x39).length : Nat) : Int) < ((x39).length : Int)))) _ (op_lss hf321 hf320) rfl ?_
          have hl324 : ¬ (((x39).length : Nat) : Int) < ((x39).length : Int) := by omega
          refine WL.nil ?_
          refine W.seq ?_
          refine W.condF (decide ((((x39).length : Nat) : Int) < ((x39).length : Int))) rfl (decide_eq_false hl324) ?_
          refine W.exit ?_
          show _ = _ ∧ _
          exact ⟨rfl, _, hs310, hf314, hf316, hf317, hf318, hS323⟩
      · rintro f325 wd326 ⟨x329, rfl, hq327⟩
        replace hb27 := onRes_fin hb27
        replace hq327 : f325 3 = u13 ∧ f325 18 = v_r_Table ∧ f325 19 = (Value.int .i64 ((r_Table).length : Int)) ∧ f325 20 = (Value.int .i64 (k21 : Int)) ∧ St wd2 wd326 [(Ty.sl (Ty.sl (Ty.i .i64))).at u13 x329] := hq327
        obtain ⟨hf330, hf331, hf332, hf333, hS334⟩ := hq327
        show W _ _ _ _ _ _
        refine W.region ?_
        refine WL.val (Value.int .i64 (w64 ((k21 : Int) + (1 : Int)))) _ (op_add hf333 rfl) rfl ?_
        refine WL.val (Value.int .i64 (w64 ((k21 : Int) + (1 : Int)))) _ (op_move rfl) rfl ?_
        refine WL.nil ?_
        obtain rfl := Option.some.inj hb27
        show ∃ s, _ = Ctl.next s ∧ _
        exact ⟨_, rfl, hf330, hf331, hf332, (ctr_next hl37 hr18), (ctr_rng hl37 hr18), hS334⟩
    · intro x342 f337 wd338 hs339 hI340
      replace hI340 : f337 3 = u13 ∧ f337 18 = v_r_Table ∧ f337 19 = (Value.int .i64 ((r_Table).length : Int)) ∧ f337 20 = Value.int .i64 (((r_Table).length : Nat) : Int) ∧ InR .i64 (((r_Table).length : Nat) : Int) ∧ St wd2 wd338 [(Ty.sl (Ty.sl (Ty.i .i64))).at u13 x342] := hI340
      obtain ⟨hf343, hf344, hf345, hf346, hr347, hS348⟩ := hI340
      refine W.seq (W.region ?_)
      refine WL.val (Value.bool (decide ((((r_Table).length : Nat) : Int) < ((r_Table).length : Int)))) _ (op_lss hf346 hf345) rfl ?_
      have hl349 : ¬ (((r_Table).length : Nat) : Int) < ((r_Table).length : Int) := by omega
      refine WL.nil ?_
      refine W.seq ?_
      refine W.condF (decide ((((r_Table).length : Nat) : Int) < ((r_Table).length : Int))) rfl (decide_eq_false hl349) ?_
      refine W.exit ?_
      show _ = _ ∧ _
      exact ⟨rfl, _, hs339, hf343, hS348⟩
  · rintro f350 wd351 ⟨x354, rfl, hq352⟩
    replace h := onRes_fin h
    replace hq352 : f350 3 = u13 ∧ St wd2 wd351 [(Ty.sl (Ty.sl (Ty.i .i64))).at u13 x354] := hq352
    obtain ⟨hf355, hS356⟩ := hq352
    refine W.seq (W.region ?_)
    refine WL.val u13 _ (op_move hf355) rfl ?_
    refine WL.val u13 _ (op_assign rfl) rfl ?_
    refine WL.nil ?_
    refine W.ret ?_
    obtain rfl := Option.some.inj h
    show FinP _ _ _ _ _ _ _
    exact FinP.ret _ (res1 rfl rfl) ⟨u13, rfl, (Ext.trans hE7 hS356.ext), (St.out (St.pick hS356 [0] rfl) (hE7))⟩

theorem c_math_bits_TrailingZeros64 {w : World} {x : Int} (tb : TabAt w) (r_x : InR .u64 x) {res : Int} (h : p_math_bits_TrailingZeros64 x  = some res) :
    Ret Tryd.prog 72 #[(Value.int .u64 x)] w (fun v w' => v = Value.int .i64 res ∧ InR .i64 res ∧ Ext w w') := by
  unfold p_math_bits_TrailingZeros64 at h
  have hS0 : St w w [] := St.start w
  refine Ret.start (fn := Tryd.f72) Tryd.func72 rfl 14 rfl rfl ?_
  refine W.seq (W.region ?_)
  refine WL.val (Value.int .i64 (0 : Int)) _ (op_assign rfl) rfl ?_
  refine WL.nil ?_
  refine W.seq (W.seq (W.region ?_))
  refine WL.val (Value.int .u64 x) _ (op_move rfl) rfl ?_
  refine WL.val (Value.bool (x == (0 : Int))) _ (op_eql rfl rfl) rfl ?_
  refine WL.nil ?_
  refine W.cond (x == (0 : Int)) rfl (fun hc1 => ?_) (fun hc1 => ?_)
  · replace h := (Option.some.inj h).symm.trans (tz_pos hc1)
    refine W.seq (W.region ?_)
    refine WL.val (Value.int .i64 (64 : Int)) _ (op_assign rfl) rfl ?_
    refine WL.nil ?_
    refine W.ret ?_
    subst h
    show FinP _ _ _ _ _ _ _
    exact FinP.ret _ (res1 rfl rfl) ⟨rfl, (inL rfl), hS0.ext⟩
  · obtain ⟨hi0, hi1, hi2⟩ := tz_ix r_x (tz_ne hc1)
    replace h := (Option.some.inj h).symm.trans (tz_neg r_x hc1)
    refine W.skip ?_
    refine W.seq (W.region ?_)
    refine WL.val (Value.int .u64 x) _ (op_move rfl) rfl ?_
    refine WL.val (Value.int .u64 x) _ (op_move rfl) rfl ?_
    refine WL.val (Value.int .u64 (IntKind.u64.wrap (0 - x))) _ (op_neg rfl) rfl ?_
    refine WL.val (Value.int .u64 (andI .u64 x (IntKind.u64.wrap (0 - x)))) _ (op_and rfl rfl) rfl ?_
    refine WL.val (Value.int .u64 (IntKind.u64.wrap ((andI .u64 x (IntKind.u64.wrap (0 - x))) * (285870213051353865 : Int)))) _ (op_mul rfl rfl) rfl ?_
    refine WL.val (Value.int .u64 (((IntKind.u64.wrap ((andI .u64 x (IntKind.u64.wrap (0 - x))) * (285870213051353865 : Int)))).fdiv (2 ^ 58))) _ (op_shr (b := 58) rfl rfl (by decide)) rfl ?_
    refine WL.val (Value.pointer (some ⟨0, (tzIx x).toNat, none⟩)) _ (op_indexArr (k := .u64) (j := tzIx x) ay_85 rfl rfl hi0 hi1) rfl ?_
    refine WL.val (Value.int .u8 (tzTab.getD (tzIx x).toNat 0)) _ (op_load one_5 rfl (tb _ (tz_lt r_x hc1))) rfl ?_
    refine WL.val (Value.int .i64 (w64 (tzTab.getD (tzIx x).toNat 0))) _ (op_convert rfl it_5 it_3) rfl ?_
    refine WL.val (Value.int .i64 (w64 (tzTab.getD (tzIx x).toNat 0))) _ (op_assign rfl) rfl ?_
    refine WL.nil ?_
    refine W.ret ?_
    subst h
    show FinP _ _ _ _ _ _ _
    exact FinP.ret _ (res1 rfl rfl) ⟨rfl, (inR_wrap _ _), hS0.ext⟩

theorem c_impl_labelsIn {w : World} {set : Int} (tb : TabAt w) (r_set : InR .i64 set) {res : (List Int)} (h : p_impl_labelsIn set  = some res) :
    Ret Tryd.prog 49 #[(Value.int .i64 set)] w (fun v w' => ∃ (u0 : Value), v = u0 ∧ Ext w w' ∧ Sep w.heap.size w' [(Ty.sl (Ty.i .i64)).at u0 res]) := by
  unfold p_impl_labelsIn at h
  have hS0 : St w w [] := St.start w
  refine Ret.start (fn := Tryd.f49) Tryd.func49 rfl 18 rfl rfl ?_
  refine W.seq (W.region ?_)
  refine WL.val (Value.slice none 0 0) _ (op_assign rfl) rfl ?_
  refine WL.nil ?_
  refine W.seq (W.region ?_)
  refine WL.lit0 (t := (Ty.i .i64)) hS0 sl_61 rfl rfl ?_
  intro u1 wd2 hS3 he4
  replace hS3 : St w wd2 [(Ty.sl (Ty.i .i64)).at u1 ([] : (List Int))] := hS3
  refine WL.val u1 _ (op_assign rfl) rfl ?_
  refine WL.nil ?_
  refine W.seq ?_
  obtain ⟨res5, hres6, h⟩ := bs h
  refine W.blockLoop (fun fq wq => ∃ s, res5 = Res.fin s ∧ ∃ (uu0 : Value), fq 3 = uu0 ∧ St w wq [(Ty.sl (Ty.i .i64)).at uu0 s.1]) ?_ ?_
  · refine W.whileC (fun (s : (List Int) × Int) fq wq => ∃ (uu0 : Value), fq 0 = Value.int .i64 s.2 ∧ InR .i64 s.2 ∧ fq 3 = uu0 ∧ St w wq [(Ty.sl (Ty.i .i64)).at uu0 s.1]) hres6 ⟨u1, rfl, r_set, rfl, hS3⟩ ?_
    intro s42 ct10 f11 wd12 hb14 hI15 hbrk16 hret17
    obtain ⟨x8, x9⟩ := s42
    replace hI15 : ∃ (uu0 : Value), f11 0 = Value.int .i64 x9 ∧ InR .i64 x9 ∧ f11 3 = uu0 ∧ St w wd12 [(Ty.sl (Ty.i .i64)).at uu0 x8] := hI15
    replace hb14 : p_impl_labelsIn_L1   x8 x9 = some ct10 := hb14
    unfold p_impl_labelsIn_L1 at hb14
    obtain ⟨u18, hf19, hr20, hf21, hS22⟩ := hI15
    refine W.seq (W.seq (W.region ?_))
    refine WL.val (Value.int .i64 x9) _ (op_move hf19) rfl ?_
    refine WL.val (Value.bool (x9 != (0 : Int))) _ (op_neq rfl rfl) rfl ?_
    refine WL.nil ?_
    refine W.cond (x9 != (0 : Int)) rfl (fun hc23 => ?_) (fun hc23 => ?_)
    · replace hb14 := ip hb14 hc23
      refine W.skip ?_
      refine W.seq ?_
      refine W.block ?_
      refine W.region ?_
      refine WL.val u18 _ (op_move hf21) rfl ?_
      refine WL.val (Value.int .i64 x9) _ (op_move hf19) rfl ?_
      refine WL.val (Value.int .u64 (IntKind.u64.wrap x9)) _ (op_convert rfl it_2 it_69) rfl ?_
      obtain ⟨x25, hx26, hb14⟩ := bs hb14
      refine WL.call _ (op_call fn_72 (args1 rfl)) (c_math_bits_TrailingZeros64 (tb.ext hS22.ext) (inR_wrap _ _) hx26) rfl ?_
      rintro _ wd28 ⟨rfl, hr27, he29⟩
      have hS31 := St.extend hS22 he29
      replace hS31 : St w wd28 [(Ty.sl (Ty.i .i64)).at u18 x8] := hS31
      refine WL.litFlat (t := (Ty.i .i64)) (flat_i .i64) [(Value.int .i64 x25)] [x25] hS31 sl_61 rfl rfl (fillL rfl ⟨rfl, rfl, rfl, trivial⟩) rfl rfl (litL ⟨⟨rfl, hr27⟩, trivial⟩) rfl ?_
      intro u32 wd33 hS34 he35
      replace hS34 : St w wd33 [(Ty.sl (Ty.i .i64)).at u18 x8, (Ty.sl (Ty.i .i64)).at u32 ([x25] : (List Int))] := hS34
      obtain ⟨x36, hx37, hb14⟩ := bs hb14
      refine WL.append (flat_i .i64) hS34 (k := 0) rfl sl_61 rfl rfl rfl rfl (St.rep (t := (Ty.sl (Ty.i .i64))) hS34 1 rfl) hx37 rfl ?_
      intro u38 wd39 hS40 hz41
      replace hS40 : St w wd39 [(Ty.sl (Ty.i .i64)).at u38 x36, (Ty.sl (Ty.i .i64)).at u32 ([x25] : (List Int))] := hS40
      refine WL.val u38 _ (op_assign rfl) rfl ?_
      refine WL.nil ?_
      show W _ _ _ _ _ _
      refine W.region ?_
      refine WL.val (Value.int .i64 x9) _ (op_move hf19) rfl ?_
      refine WL.val (Value.int .i64 x9) _ (op_move hf19) rfl ?_
      refine WL.val (Value.int .i64 (w64 (x9 - (1 : Int)))) _ (op_sub rfl rfl) rfl ?_
      refine WL.val (Value.int .i64 (andI .i64 x9 (w64 (x9 - (1 : Int))))) _ (op_and rfl rfl) rfl ?_
      refine WL.val (Value.int .i64 (andI .i64 x9 (w64 (x9 - (1 : Int))))) _ (op_assign rfl) rfl ?_
      refine WL.nil ?_
      obtain rfl := Option.some.inj hb14
      show ∃ s, _ = Ctl.next s ∧ _
      exact ⟨_, rfl, u38, rfl, (inR_wrap _ _), rfl, (St.pick hS40 [0] rfl)⟩
    · replace hb14 := inegb hb14 hc23
      refine W.exit ?_
      obtain rfl := Option.some.inj hb14
      show _ = _ ∧ _
      exact ⟨rfl, _, hbrk16 _ rfl, u18, hf21, hS22⟩
  · rintro f43 wd44 ⟨s46, rfl, hq45⟩
    replace h := onRes_fin h
    obtain ⟨x47, x48⟩ := s46
    replace hq45 : ∃ (uu0 : Value), f43 3 = uu0 ∧ St w wd44 [(Ty.sl (Ty.i .i64)).at uu0 x47] := hq45
    replace h : (_ : Option _) = _ := h
    dsimp only at h
    obtain ⟨u49, hf50, hS51⟩ := hq45
    refine W.seq (W.region ?_)
    refine WL.val u49 _ (op_move hf50) rfl ?_
    refine WL.val u49 _ (op_assign rfl) rfl ?_
    refine WL.nil ?_
    refine W.ret ?_
    obtain rfl := Option.some.inj h
    show FinP _ _ _ _ _ _ _
    exact FinP.ret _ (res1 rfl rfl) ⟨u49, rfl, hS51.ext, (St.out (St.pick hS51 [0] rfl) (Ext.refl _))⟩

theorem c_impl_Ring_closed {w : World} {r_Table : (List (List (List Int)))} {v_r_Table : Value} {set : Int} (tb : TabAt w) (r_r_Table : (Ty.sl (Ty.sl (Ty.sl (Ty.i .i64)))).rep w v_r_Table r_Table) (r_set : InR .i64 set) {res : Int} (h : p_impl_Ring_closed r_Table set  = some res) :
    Ret Tryd.prog 35 #[(Value.agg #[v_r_Table]), (Value.int .i64 set)] w (fun v w' => v = Value.int .i64 res ∧ InR .i64 res ∧ Ext w w') := by
  unfold p_impl_Ring_closed at h
  have hS0 : St w w [] := St.start w
  refine Ret.start (fn := Tryd.f35) Tryd.func35 rfl 56 rfl rfl ?_
  refine W.seq (W.region ?_)
  refine WL.box hS0 rfl (cs := [v_r_Table]) rfl rfl ?_
  intro b1 wd2 hS3 he4 hx5
  replace hS3 : St w wd2 [bx b1 [v_r_Table]] := hS3
  have hx6 := St.boxAt hS3 0 rfl
  have hE7 : Ext w wd2 := hS3.ext
  have hS8 : St wd2 wd2 [] := St.start wd2
  refine WL.val (Value.int .i64 (0 : Int)) _ (op_assign rfl) rfl ?_
  refine WL.nil ?_
  refine W.seq ?_
  obtain ⟨x26, hx27, h⟩ := bs h
  refine W.drawR mixo 3 [] [fun _ v S w' => v = (Value.agg #[v_r_Table]), fun _ v S w' => SepS S w' [(Ty.sl (Ty.sl (Ty.i .i64))).at v x26], fun _ v S w' => v = (Value.agg #[v_r_Table])] (by kernel_rfl) (by kernel_rfl) ⟨pk, ⟨fun _ _ _ _ _ he h => SepS.extend he h, fun _ _ _ _ _ _ h => h⟩, pk, trivial⟩ ⟨?_, ?_, ?_, trivial⟩ ?_
  · refine ObX.op rfl fun f9 wd10 he11 hout12 hphi13 => ?_
    have hS14 := St.extend hS8 he11
    have e15 : f9 2 = (Value.pointer (some ⟨b1, 0, none⟩)) := (hout12 2 rfl).trans rfl
    exact OpX.val (Value.agg #[v_r_Table]) wd10 rfl (op_loadBox st_26 e15 (BoxAt.lift hS14.ext hx6) rfl rfl) (Ext.refl _) rfl
  · refine ObX.op rfl fun f16 wd17 he18 hout19 hphi20 => ?_
    have hS21 := St.extend hS8 he18
    obtain ⟨S22, hS23, hf24⟩ := hphi20 0 12 _ rfl rfl rfl
    have e25 : f16 12 = (Value.agg #[v_r_Table]) := hf24
    refine OpX.call rfl (op_call fn_47 (args1 e25)) (Ret.mono (c_impl_Ring_supports (Ty.lift _ (Ext.trans hE7 hS21.ext) r_r_Table) hx27) ?_)
    rintro u28 wd29 ⟨_, rfl, he30, hs31⟩
    exact ⟨he30, _, newS _ _, (Sep.new hs31)⟩
  · refine ObX.op rfl fun f32 wd33 he34 hout35 hphi36 => ?_
    have hS37 := St.extend hS8 he34
    have e38 : f32 2 = (Value.pointer (some ⟨b1, 0, none⟩)) := (hout35 2 rfl).trans rfl
    exact OpX.val (Value.agg #[v_r_Table]) wd33 rfl (op_loadBox st_26 e38 (BoxAt.lift hS37.ext hx6) rfl rfl) (Ext.refl _) rfl
  · intro f39 wd40 Ss41 he42 hout43 hSn44 hSd45 hphi46
    show WL _ _ _ _ _ _ _
    have e48 : SepS (Ss41 1) wd40 [(Ty.sl (Ty.sl (Ty.i .i64))).at (f39 13) x26] := hphi46 1 13 _ (by decide) rfl rfl
    have e49 : f39 14 = (Value.agg #[v_r_Table]) := hphi46 2 14 _ (by decide) rfl rfl
    have e50 : f39 1 = (Value.int .i64 set) := (hout43 1 rfl).trans rfl
    have hS51 := St.joinS hS8 he42 hSn44 (SepS.consS hSd45 rfl e48 SepS.nilS)
    replace hS51 : St wd2 wd40 [(Ty.sl (Ty.sl (Ty.i .i64))).at (f39 13) x26] := hS51
    have hb52 := St.rep (t := (Ty.sl (Ty.sl (Ty.i .i64)))) hS51 0 rfl
    have hE53 : Ext w wd40 := (Ext.trans hE7 hS51.ext)
    have hE54 : Ext wd2 wd40 := hS51.ext
    have hS55 : St wd40 wd40 [] := St.start wd40
    obtain ⟨x56, hx57, h⟩ := bs h
    refine WL.call _ (op_call fn_59 (args1 e49)) (c_impl_Ring_duals (Ty.lift _ (Ext.trans hE53 hS55.ext) r_r_Table) hx57) rfl ?_
    rintro u58 wd59 ⟨_, rfl, he60, hs61⟩
    have hS62 := St.join hS55 he60 hs61
    replace hS62 : St wd40 wd59 [(Ty.sl (Ty.i .i64)).at u58 x56] := hS62
    have hb63 := St.rep (t := (Ty.sl (Ty.i .i64))) hS62 0 rfl
    have hE64 : Ext w wd59 := (Ext.trans hE53 hS62.ext)
    have hE65 : Ext wd2 wd59 := (Ext.trans hE54 hS62.ext)
    have hE66 : Ext wd40 wd59 := hS62.ext
    have hS67 : St wd59 wd59 [] := St.start wd59
    refine WL.val (f39 13) _ (op_assign rfl) rfl ?_
    refine WL.val u58 _ (op_assign rfl) rfl ?_
    refine WL.nil ?_
    refine W.seq (W.region ?_)
    refine WL.val (Value.int .i64 set) _ (op_move e50) rfl ?_
    refine WL.val (Value.int .i64 (orI .i64 set (1 : Int))) _ (op_or rfl rfl) rfl ?_
    refine WL.val (Value.int .i64 (orI .i64 set (1 : Int))) _ (op_assign rfl) rfl ?_
    refine WL.nil ?_
    show W _ _ _ _ _ _
    obtain ⟨res68, hres69, h⟩ := bs h
    refine W.blockLoop (fun fq wq => ∃ s, res68 = Res.fin s ∧ St wd59 wq []) ?_ ?_
    · refine W.whileC (fun (s : Int) fq wq => fq 1 = Value.int .i64 s ∧ InR .i64 s ∧ fq 5 = (f39 13) ∧ fq 6 = u58 ∧ St wd59 wq []) hres69 ⟨rfl, (inR_wrap _ _), rfl, rfl, hS67⟩ ?_
      intro x71 ct72 f73 wd74 hb76 hI77 hbrk78 hret79
      replace hI77 : f73 1 = Value.int .i64 x71 ∧ InR .i64 x71 ∧ f73 5 = (f39 13) ∧ f73 6 = u58 ∧ St wd59 wd74 [] := hI77
      replace hb76 : p_impl_Ring_closed_L1 x56 x26  x71 = some ct72 := hb76
      unfold p_impl_Ring_closed_L1 at hb76
      obtain ⟨hf80, hr81, hf82, hf83, hS84⟩ := hI77
      refine W.block ?_
      refine W.seq (W.region ?_)
      refine WL.val (Value.int .i64 x71) _ (op_move hf80) rfl ?_
      refine WL.val (Value.int .i64 x71) _ (op_assign rfl) rfl ?_
      refine WL.nil ?_
      refine W.seq (W.seq (W.region ?_))
      refine WL.val (Value.int .i64 x71) _ (op_move hf80) rfl ?_
      obtain ⟨x85, hx86, hb76⟩ := bs hb76
      refine WL.call _ (op_call fn_49 (args1 rfl)) (c_impl_labelsIn (tb.ext (Ext.trans hE64 hS84.ext)) hr81 hx86) rfl ?_
      rintro u87 wd88 ⟨_, rfl, he89, hs90⟩
      have hS91 := St.join hS84 he89 hs90
      replace hS91 : St wd59 wd88 [(Ty.sl (Ty.i .i64)).at u87 x85] := hS91
      have hb92 := St.rep (t := (Ty.sl (Ty.i .i64))) hS91 0 rfl
      have hE93 : Ext w wd88 := (Ext.trans hE64 hS91.ext)
      have hE94 : Ext wd2 wd88 := (Ext.trans hE65 hS91.ext)
      have hE95 : Ext wd40 wd88 := (Ext.trans hE66 hS91.ext)
      have hE96 : Ext wd59 wd88 := hS91.ext
      have hS97 : St wd88 wd88 [] := St.start wd88
      have hr98 := inR_len (Ty.lift _ hS97.ext hb92)
      refine WL.val (Value.int .i64 ((x85).length : Int)) _ (op_lenL sl_61 (Ty.lift _ hS97.ext hb92) rfl) rfl ?_
      refine WL.val (Value.int .i64 (0 : Int)) _ (op_move rfl) rfl ?_
      refine WL.nil ?_
      show W _ _ _ _ _ _
      obtain ⟨res99, hres100, hb76⟩ := bs hb76
      refine W.blockLoop (fun fq wq => ∃ s, res99 = Res.fin s ∧ fq 1 = (Value.int .i64 x71) ∧ fq 5 = (f39 13) ∧ fq 6 = u58 ∧ fq 7 = Value.int .i64 s ∧ InR .i64 s ∧ St wd88 wq []) ?_ ?_
      · refine W.forN (fun k (s : Int) fq wq => fq 1 = (Value.int .i64 x71) ∧ fq 5 = (f39 13) ∧ fq 6 = u58 ∧ fq 7 = Value.int .i64 s ∧ InR .i64 s ∧ fq 20 = u87 ∧ fq 21 = (Value.int .i64 ((x85).length : Int)) ∧ fq 22 = Value.int .i64 (k : Int) ∧ InR .i64 (k : Int) ∧ St wd88 wq []) hres100 ⟨hf80, hf82, hf83, rfl, hr81, rfl, rfl, rfl, (inL rfl), hS97⟩ ?_ ?_
        · intro k101 x102 ct103 f104 wd105 hk106 hb107 hI108 hbrk109 hret110
          replace hI108 : f104 1 = (Value.int .i64 x71) ∧ f104 5 = (f39 13) ∧ f104 6 = u58 ∧ f104 7 = Value.int .i64 x102 ∧ InR .i64 x102 ∧ f104 20 = u87 ∧ f104 21 = (Value.int .i64 ((x85).length : Int)) ∧ f104 22 = Value.int .i64 (k101 : Int) ∧ InR .i64 (k101 : Int) ∧ St wd88 wd105 [] := hI108
          replace hb107 : p_impl_Ring_closed_L2 x85 x56 x71 x26 k101 x102 = some ct103 := hb107
          unfold p_impl_Ring_closed_L2 at hb107
          obtain ⟨hf111, hf112, hf113, hf114, hr115, hf116, hf117, hf118, hr119, hS120⟩ := hI108
          refine W.seq (W.region ?_)
          refine WL.val (Value.bool (decide ((k101 : Int) < ((x85).length : Int)))) _ (op_lss hf118 hf117) rfl ?_
          have hl121 : (k101 : Int) < ((x85).length : Int) := by omega
          refine WL.nil ?_
          refine W.seq ?_
          refine W.condT (decide ((k101 : Int) < ((x85).length : Int))) rfl (decide_eq_true hl121) ?_
          refine W.skip ?_
          refine W.seq ?_
          refine W.block ?_
          refine W.seq (W.region ?_)
          obtain ⟨x123, hx126, hb107⟩ := bs hb107
          obtain ⟨ha124, hb125, hx126⟩ := idx_some hx126
          refine WL.val (Value.pointer (some (elA u87 ((k101 : Int)).toNat))) _ (op_idx sl_61 (Ty.lift _ hS120.ext hb92) hf116 hf118 ha124 hb125) rfl ?_
          obtain ⟨u127, hc128, hr129⟩ := repSl.el hb92 hx126
          obtain ⟨rfl, hr129⟩ := hr129
          refine WL.val (Value.int .i64 x123) _ (op_load one_3 rfl (Ext.cell hS120.ext hc128)) rfl ?_
          refine WL.val (Value.int .i64 x123) _ (op_assign rfl) rfl ?_
          refine WL.nil ?_
          refine W.seq (W.region ?_)
          refine WL.val (Value.int .i64 x102) _ (op_move hf114) rfl ?_
          refine WL.val u58 _ (op_move hf113) rfl ?_
          refine WL.val (Value.int .i64 x123) _ (op_move rfl) rfl ?_
          obtain ⟨x130, hx133, hb107⟩ := bs hb107
          obtain ⟨ha131, hb132, hx133⟩ := idx_some hx133
          refine WL.val (Value.pointer (some (elA u58 (x123).toNat))) _ (op_idx sl_61 (Ty.lift _ (Ext.trans hE96 hS120.ext) hb63) rfl rfl ha131 hb132) rfl ?_
          obtain ⟨u134, hc135, hr136⟩ := repSl.el hb63 hx133
          obtain ⟨rfl, hr136⟩ := hr136
          refine WL.val (Value.int .i64 x130) _ (op_load one_3 rfl (Ext.cell (Ext.trans hE96 hS120.ext) hc135)) rfl ?_
          obtain ⟨x137, hz138, hb107⟩ := bs hb107
          obtain ⟨h0139, hz138⟩ := shlI_some hz138
          have hr140 : InR .i64 x137 := by rw [hz138]; exact inR_wrap _ _
          refine WL.val (Value.int .i64 x137) _ (by rw [hz138]; exact op_shl rfl rfl h0139) rfl ?_
          refine WL.val (Value.int .i64 (orI .i64 x102 x137)) _ (op_or rfl rfl) rfl ?_
          refine WL.val (Value.int .i64 (orI .i64 x102 x137)) _ (op_assign rfl) rfl ?_
          refine WL.nil ?_
          refine W.seq (W.region ?_)
          refine WL.val (Value.int .i64 x71) _ (op_move hf111) rfl ?_
          obtain ⟨x141, hx142, hb107⟩ := bs hb107
          refine WL.call _ (op_call fn_49 (args1 rfl)) (c_impl_labelsIn (tb.ext (Ext.trans hE93 hS120.ext)) hr81 hx142) rfl ?_
          rintro u143 wd144 ⟨_, rfl, he145, hs146⟩
          have hS147 := St.join hS120 he145 hs146
          replace hS147 : St wd88 wd144 [(Ty.sl (Ty.i .i64)).at u143 x141] := hS147
          have hb148 := St.rep (t := (Ty.sl (Ty.i .i64))) hS147 0 rfl
          have hE149 : Ext w wd144 := (Ext.trans hE93 hS147.ext)
          have hE150 : Ext wd2 wd144 := (Ext.trans hE94 hS147.ext)
          have hE151 : Ext wd40 wd144 := (Ext.trans hE95 hS147.ext)
          have hE152 : Ext wd59 wd144 := (Ext.trans hE96 hS147.ext)
          have hE153 : Ext wd88 wd144 := hS147.ext
          have hS154 : St wd144 wd144 [] := St.start wd144
          have hr155 := inR_len (Ty.lift _ hS154.ext hb148)
          refine WL.val (Value.int .i64 ((x141).length : Int)) _ (op_lenL sl_61 (Ty.lift _ hS154.ext hb148) rfl) rfl ?_
          refine WL.val (Value.int .i64 (0 : Int)) _ (op_move rfl) rfl ?_
          refine WL.nil ?_
          show W _ _ _ _ _ _
          obtain ⟨res156, hres157, hb107⟩ := bs hb107
          refine W.blockLoop (fun fq wq => ∃ s, res156 = Res.fin s ∧ fq 1 = (Value.int .i64 x71) ∧ fq 5 = (f39 13) ∧ fq 6 = u58 ∧ fq 7 = Value.int .i64 s ∧ InR .i64 s ∧ fq 20 = u87 ∧ fq 21 = (Value.int .i64 ((x85).length : Int)) ∧ fq 22 = (Value.int .i64 (k101 : Int)) ∧ St wd144 wq []) ?_ ?_
          · refine W.forN (fun k (s : Int) fq wq => fq 1 = (Value.int .i64 x71) ∧ fq 5 = (f39 13) ∧ fq 6 = u58 ∧ fq 7 = Value.int .i64 s ∧ InR .i64 s ∧ fq 9 = (Value.int .i64 x123) ∧ fq 20 = u87 ∧ fq 21 = (Value.int .i64 ((x85).length : Int)) ∧ fq 22 = (Value.int .i64 (k101 : Int)) ∧ fq 34 = u143 ∧ fq 35 = (Value.int .i64 ((x141).length : Int)) ∧ fq 36 = Value.int .i64 (k : Int) ∧ InR .i64 (k : Int) ∧ St wd144 wq []) hres157 ⟨hf111, hf112, hf113, rfl, (inR_wrap _ _), rfl, hf116, hf117, hf118, rfl, rfl, rfl, (inL rfl), hS154⟩ ?_ ?_
            · intro k158 x159 ct160 f161 wd162 hk163 hb164 hI165 hbrk166 hret167
              replace hI165 : f161 1 = (Value.int .i64 x71) ∧ f161 5 = (f39 13) ∧ f161 6 = u58 ∧ f161 7 = Value.int .i64 x159 ∧ InR .i64 x159 ∧ f161 9 = (Value.int .i64 x123) ∧ f161 20 = u87 ∧ f161 21 = (Value.int .i64 ((x85).length : Int)) ∧ f161 22 = (Value.int .i64 (k101 : Int)) ∧ f161 34 = u143 ∧ f161 35 = (Value.int .i64 ((x141).length : Int)) ∧ f161 36 = Value.int .i64 (k158 : Int) ∧ InR .i64 (k158 : Int) ∧ St wd144 wd162 [] := hI165
              replace hb164 : p_impl_Ring_closed_L3 x141 x26 x123 k158 x159 = some ct160 := hb164
              unfold p_impl_Ring_closed_L3 at hb164
              obtain ⟨hf168, hf169, hf170, hf171, hr172, hf173, hf174, hf175, hf176, hf177, hf178, hf179, hr180, hS181⟩ := hI165
              refine W.seq (W.region ?_)
              refine WL.val (Value.bool (decide ((k158 : Int) < ((x141).length : Int)))) _ (op_lss hf179 hf178) rfl ?_
              have hl182 : (k158 : Int) < ((x141).length : Int) := by omega
              refine WL.nil ?_
              refine W.seq ?_
              refine W.condT (decide ((k158 : Int) < ((x141).length : Int))) rfl (decide_eq_true hl182) ?_
              refine W.skip ?_
              refine W.seq ?_
              refine W.block ?_
              refine W.seq (W.region ?_)
              obtain ⟨x184, hx187, hb164⟩ := bs hb164
              obtain ⟨ha185, hb186, hx187⟩ := idx_some hx187
              refine WL.val (Value.pointer (some (elA u143 ((k158 : Int)).toNat))) _ (op_idx sl_61 (Ty.lift _ hS181.ext hb148) hf177 hf179 ha185 hb186) rfl ?_
              obtain ⟨u188, hc189, hr190⟩ := repSl.el hb148 hx187
              obtain ⟨rfl, hr190⟩ := hr190
              refine WL.val (Value.int .i64 x184) _ (op_load one_3 rfl (Ext.cell hS181.ext hc189)) rfl ?_
              refine WL.val (Value.int .i64 x184) _ (op_assign rfl) rfl ?_
              refine WL.nil ?_
              show W _ _ _ _ _ _
              refine W.region ?_
              refine WL.val (Value.int .i64 x159) _ (op_move hf171) rfl ?_
              refine WL.val (f39 13) _ (op_move hf169) rfl ?_
              refine WL.val (Value.int .i64 x123) _ (op_move hf173) rfl ?_
              obtain ⟨x191, hx194, hb164⟩ := bs hb164
              obtain ⟨ha192, hb193, hx194⟩ := idx_some hx194
              refine WL.val (Value.pointer (some (elA (f39 13) (x123).toNat))) _ (op_idx sl_41 (Ty.lift _ (Ext.trans hE151 hS181.ext) hb52) rfl rfl ha192 hb193) rfl ?_
              obtain ⟨u195, hc196, hr197⟩ := repSl.el hb52 hx194
              refine WL.val u195 _ (op_load one_33 rfl (Ext.cell (Ext.trans hE151 hS181.ext) hc196)) rfl ?_
              refine WL.val (Value.int .i64 x184) _ (op_move rfl) rfl ?_
              obtain ⟨x198, hx201, hb164⟩ := bs hb164
              obtain ⟨ha199, hb200, hx201⟩ := idx_some hx201
              refine WL.val (Value.pointer (some (elA u195 (x184).toNat))) _ (op_idx sl_33 (Ty.lift _ (Ext.trans hE151 hS181.ext) hr197) rfl rfl ha199 hb200) rfl ?_
              obtain ⟨u202, hc203, hr204⟩ := repSl.el hr197 hx201
              obtain ⟨rfl, hr204⟩ := hr204
              refine WL.val (Value.int .i64 x198) _ (op_load one_2 rfl (Ext.cell (Ext.trans hE151 hS181.ext) hc203)) rfl ?_
              refine WL.val (Value.int .i64 (orI .i64 x159 x198)) _ (op_or rfl rfl) rfl ?_
              refine WL.val (Value.int .i64 (orI .i64 x159 x198)) _ (op_assign rfl) rfl ?_
              refine WL.nil ?_
              show W _ _ _ _ _ _
              refine W.region ?_
              refine WL.val (Value.int .i64 (w64 ((k158 : Int) + (1 : Int)))) _ (op_add hf179 rfl) rfl ?_
              refine WL.val (Value.int .i64 (w64 ((k158 : Int) + (1 : Int)))) _ (op_move rfl) rfl ?_
              refine WL.nil ?_
              obtain rfl := Option.some.inj hb164
              show ∃ s, _ = Ctl.next s ∧ _
              exact ⟨_, rfl, hf168, hf169, hf170, rfl, (inR_wrap _ _), hf173, hf174, hf175, hf176, hf177, hf178, (ctr_next hl182 hr155), (ctr_rng hl182 hr155), hS181⟩
            · intro x211 f206 wd207 hs208 hI209
              replace hI209 : f206 1 = (Value.int .i64 x71) ∧ f206 5 = (f39 13) ∧ f206 6 = u58 ∧ f206 7 = Value.int .i64 x211 ∧ InR .i64 x211 ∧ f206 9 = (Value.int .i64 x123) ∧ f206 20 = u87 ∧ f206 21 = (Value.int .i64 ((x85).length : Int)) ∧ f206 22 = (Value.int .i64 (k101 : Int)) ∧ f206 34 = u143 ∧ f206 35 = (Value.int .i64 ((x141).length : Int)) ∧ f206 36 = Value.int .i64 (((x141).length : Nat) : Int) ∧ InR .i64 (((x141).length : Nat) : Int) ∧ St wd144 wd207 [] := hI209
              obtain ⟨hf212, hf213, hf214, hf215, hr216, hf217, hf218, hf219, hf220, hf221, hf222, hf223, hr224, hS225⟩ := hI209
              refine W.seq (W.region ?_)
              refine WL.val (Value.bool (decide ((((x141).length : Nat) : Int) < ((x141).length : Int)))) _ (op_lss hf223 hf222) rfl ?_
              have hl226 : ¬ (((x141).length : Nat) : Int) < ((x141).length : Int) := by omega
              refine WL.nil ?_
              refine W.seq ?_
              refine W.condF (decide ((((x141).length : Nat) : Int) < ((x141).length : Int))) rfl (decide_eq_false hl226) ?_
              refine W.exit ?_
              show _ = _ ∧ _
              exact ⟨rfl, _, hs208, hf212, hf213, hf214, hf215, hr216, hf218, hf219, hf220, hS225⟩
          · rintro f227 wd228 ⟨x231, rfl, hq229⟩
            replace hb107 := onRes_fin hb107
            replace hq229 : f227 1 = (Value.int .i64 x71) ∧ f227 5 = (f39 13) ∧ f227 6 = u58 ∧ f227 7 = Value.int .i64 x231 ∧ InR .i64 x231 ∧ f227 20 = u87 ∧ f227 21 = (Value.int .i64 ((x85).length : Int)) ∧ f227 22 = (Value.int .i64 (k101 : Int)) ∧ St wd144 wd228 [] := hq229
            obtain ⟨hf232, hf233, hf234, hf235, hr236, hf237, hf238, hf239, hS240⟩ := hq229
            show W _ _ _ _ _ _
            refine W.region ?_
            refine WL.val (Value.int .i64 (w64 ((k101 : Int) + (1 : Int)))) _ (op_add hf239 rfl) rfl ?_
            refine WL.val (Value.int .i64 (w64 ((k101 : Int) + (1 : Int)))) _ (op_move rfl) rfl ?_
            refine WL.nil ?_
            obtain rfl := Option.some.inj hb107
            show ∃ s, _ = Ctl.next s ∧ _
            exact ⟨_, rfl, hf232, hf233, hf234, hf235, hr236, hf237, hf238, (ctr_next hl121 hr98), (ctr_rng hl121 hr98), (St.ofExt (Ext.trans hE153 hS240.ext))⟩
        · intro x248 f243 wd244 hs245 hI246
          replace hI246 : f243 1 = (Value.int .i64 x71) ∧ f243 5 = (f39 13) ∧ f243 6 = u58 ∧ f243 7 = Value.int .i64 x248 ∧ InR .i64 x248 ∧ f243 20 = u87 ∧ f243 21 = (Value.int .i64 ((x85).length : Int)) ∧ f243 22 = Value.int .i64 (((x85).length : Nat) : Int) ∧ InR .i64 (((x85).length : Nat) : Int) ∧ St wd88 wd244 [] := hI246
          obtain ⟨hf249, hf250, hf251, hf252, hr253, hf254, hf255, hf256, hr257, hS258⟩ := hI246
          refine W.seq (W.region ?_)
          refine WL.val (Value.bool (decide ((((x85).length : Nat) : Int) < ((x85).length : Int)))) _ (op_lss hf256 hf255) rfl ?_
          have hl259 : ¬ (((x85).length : Nat) : Int) < ((x85).length : Int) := by omega
          refine WL.nil ?_
          refine W.seq ?_
          refine W.condF (decide ((((x85).length : Nat) : Int) < ((x85).length : Int))) rfl (decide_eq_false hl259) ?_
          refine W.exit ?_
          show _ = _ ∧ _
          exact ⟨rfl, _, hs245, hf249, hf250, hf251, hf252, hr253, hS258⟩
      · rintro f260 wd261 ⟨x264, rfl, hq262⟩
        replace hb76 := onRes_fin hb76
        replace hq262 : f260 1 = (Value.int .i64 x71) ∧ f260 5 = (f39 13) ∧ f260 6 = u58 ∧ f260 7 = Value.int .i64 x264 ∧ InR .i64 x264 ∧ St wd88 wd261 [] := hq262
        obtain ⟨hf265, hf266, hf267, hf268, hr269, hS270⟩ := hq262
        refine W.seq (W.seq (W.region ?_))
        refine WL.val (Value.int .i64 x264) _ (op_move hf268) rfl ?_
        refine WL.val (Value.int .i64 x71) _ (op_move hf265) rfl ?_
        refine WL.val (Value.bool (x264 == x71)) _ (op_eql rfl rfl) rfl ?_
        refine WL.nil ?_
        refine W.cond (x264 == x71) rfl (fun hc271 => ?_) (fun hc271 => ?_)
        · replace hb76 := ip hb76 hc271
          refine W.seq (W.region ?_)
          refine WL.val (Value.int .i64 x71) _ (op_move hf265) rfl ?_
          refine WL.val (Value.int .i64 x71) _ (op_assign rfl) rfl ?_
          refine WL.nil ?_
          refine W.ret ?_
          obtain rfl := Option.some.inj hb76
          obtain rfl := hret79 _ rfl
          replace h := onRes_ret h
          obtain rfl := Option.some.inj h
          show FinP _ _ _ _ _ _ _
          exact FinP.ret _ (res1 rfl rfl) ⟨rfl, hr81, (Ext.trans hE93 hS270.ext)⟩
        · replace hb76 := inegb hb76 hc271
          refine W.skip ?_
          show W _ _ _ _ _ _
          refine W.region ?_
          refine WL.val (Value.int .i64 x264) _ (op_move hf268) rfl ?_
          refine WL.val (Value.int .i64 x264) _ (op_assign rfl) rfl ?_
          refine WL.nil ?_
          obtain rfl := Option.some.inj hb76
          show ∃ s, _ = Ctl.next s ∧ _
          exact ⟨_, rfl, rfl, hr269, hf266, hf267, (St.ofExt (Ext.trans hE96 hS270.ext))⟩
    · rintro f275 wd276 ⟨x279, rfl, hq277⟩
      replace h := onRes_fin h
      replace hq277 : St wd59 wd276 [] := hq277
      exact nomatch (show (none : Option _) = some _ from h)

theorem c_math_bits_OnesCount64 {w : World} {x : Int} (r_x : InR .u64 x) {res : Int} (h : p_math_bits_OnesCount64 x  = some res) :
    Ret Tryd.prog 61 #[(Value.int .u64 x)] w (fun v w' => v = Value.int .i64 res ∧ InR .i64 res ∧ Ext w w') := by
  unfold p_math_bits_OnesCount64 at h
  have hS0 : St w w [] := St.start w
  refine Ret.start (fn := Tryd.f61) Tryd.func61 rfl 35 rfl rfl ?_
  refine W.seq (W.region ?_)
  refine WL.val (Value.int .i64 (0 : Int)) _ (op_assign rfl) rfl ?_
  refine WL.nil ?_
  refine W.seq (W.region ?_)
  refine WL.val (Value.int .u64 x) _ (op_move rfl) rfl ?_
  refine WL.val (Value.int .u64 ((x).fdiv (2 ^ 1))) _ (op_shr (b := 1) rfl rfl (by decide)) rfl ?_
  refine WL.val (Value.int .u64 (andI .u64 ((x).fdiv (2 ^ 1)) (6148914691236517205 : Int))) _ (op_and rfl rfl) rfl ?_
  refine WL.val (Value.int .u64 x) _ (op_move rfl) rfl ?_
  refine WL.val (Value.int .u64 (andI .u64 x (6148914691236517205 : Int))) _ (op_and rfl rfl) rfl ?_
  refine WL.val (Value.int .u64 (IntKind.u64.wrap ((andI .u64 ((x).fdiv (2 ^ 1)) (6148914691236517205 : Int)) + (andI .u64 x (6148914691236517205 : Int))))) _ (op_add rfl rfl) rfl ?_
  refine WL.val (Value.int .u64 (IntKind.u64.wrap ((andI .u64 ((x).fdiv (2 ^ 1)) (6148914691236517205 : Int)) + (andI .u64 x (6148914691236517205 : Int))))) _ (op_assign rfl) rfl ?_
  refine WL.nil ?_
  refine W.seq (W.region ?_)
  refine WL.val (Value.int .u64 (IntKind.u64.wrap ((andI .u64 ((x).fdiv (2 ^ 1)) (6148914691236517205 : Int)) + (andI .u64 x (6148914691236517205 : Int))))) _ (op_move rfl) rfl ?_
  refine WL.val (Value.int .u64 (((IntKind.u64.wrap ((andI .u64 ((x).fdiv (2 ^ 1)) (6148914691236517205 : Int)) + (andI .u64 x (6148914691236517205 : Int))))).fdiv (2 ^ 2))) _ (op_shr (b := 2) rfl rfl (by decide)) rfl ?_
  refine WL.val (Value.int .u64 (andI .u64 (((IntKind.u64.wrap ((andI .u64 ((x).fdiv (2 ^ 1)) (6148914691236517205 : Int)) + (andI .u64 x (6148914691236517205 : Int))))).fdiv (2 ^ 2)) (3689348814741910323 : Int))) _ (op_and rfl rfl) rfl ?_
  refine WL.val (Value.int .u64 (IntKind.u64.wrap ((andI .u64 ((x).fdiv (2 ^ 1)) (6148914691236517205 : Int)) + (andI .u64 x (6148914691236517205 : Int))))) _ (op_move rfl) rfl ?_
  refine WL.val (Value.int .u64 (andI .u64 (IntKind.u64.wrap ((andI .u64 ((x).fdiv (2 ^ 1)) (6148914691236517205 : Int)) + (andI .u64 x (6148914691236517205 : Int)))) (3689348814741910323 : Int))) _ (op_and rfl rfl) rfl ?_
  refine WL.val (Value.int .u64 (IntKind.u64.wrap ((andI .u64 (((IntKind.u64.wrap ((andI .u64 ((x).fdiv (2 ^ 1)) (6148914691236517205 : Int)) + (andI .u64 x (6148914691236517205 : Int))))).fdiv (2 ^ 2)) (3689348814741910323 : Int)) + (andI .u64 (IntKind.u64.wrap ((andI .u64 ((x).fdiv (2 ^ 1)) (6148914691236517205 : Int)) + (andI .u64 x (6148914691236517205 : Int)))) (3689348814741910323 : Int))))) _ (op_add rfl rfl) rfl ?_
  refine WL.val (Value.int .u64 (IntKind.u64.wrap ((andI .u64 (((IntKind.u64.wrap ((andI .u64 ((x).fdiv (2 ^ 1)) (6148914691236517205 : Int)) + (andI .u64 x (6148914691236517205 : Int))))).fdiv (2 ^ 2)) (3689348814741910323 : Int)) + (andI .u64 (IntKind.u64.wrap ((andI .u64 ((x).fdiv (2 ^ 1)) (6148914691236517205 : Int)) + (andI .u64 x (6148914691236517205 : Int)))) (3689348814741910323 : Int))))) _ (op_assign rfl) rfl ?_
  refine WL.nil ?_
  refine W.seq (W.region ?_)
  refine WL.val (Value.int .u64 (IntKind.u64.wrap ((andI .u64 (((IntKind.u64.wrap ((andI .u64 ((x).fdiv (2 ^ 1)) (6148914691236517205 : Int)) + (andI .u64 x (6148914691236517205 : Int))))).fdiv (2 ^ 2)) (3689348814741910323 : Int)) + (andI .u64 (IntKind.u64.wrap ((andI .u64 ((x).fdiv (2 ^ 1)) (6148914691236517205 : Int)) + (andI .u64 x (6148914691236517205 : Int)))) (3689348814741910323 : Int))))) _ (op_move rfl) rfl ?_
  refine WL.val (Value.int .u64 (((IntKind.u64.wrap ((andI .u64 (((IntKind.u64.wrap ((andI .u64 ((x).fdiv (2 ^ 1)) (6148914691236517205 : Int)) + (andI .u64 x (6148914691236517205 : Int))))).fdiv (2 ^ 2)) (3689348814741910323 : Int)) + (andI .u64 (IntKind.u64.wrap ((andI .u64 ((x).fdiv (2 ^ 1)) (6148914691236517205 : Int)) + (andI .u64 x (6148914691236517205 : Int)))) (3689348814741910323 : Int))))).fdiv (2 ^ 4))) _ (op_shr (b := 4) rfl rfl (by decide)) rfl ?_
  refine WL.val (Value.int .u64 (IntKind.u64.wrap ((andI .u64 (((IntKind.u64.wrap ((andI .u64 ((x).fdiv (2 ^ 1)) (6148914691236517205 : Int)) + (andI .u64 x (6148914691236517205 : Int))))).fdiv (2 ^ 2)) (3689348814741910323 : Int)) + (andI .u64 (IntKind.u64.wrap ((andI .u64 ((x).fdiv (2 ^ 1)) (6148914691236517205 : Int)) + (andI .u64 x (6148914691236517205 : Int)))) (3689348814741910323 : Int))))) _ (op_move rfl) rfl ?_
  refine WL.val (Value.int .u64 (IntKind.u64.wrap ((((IntKind.u64.wrap ((andI .u64 (((IntKind.u64.wrap ((andI .u64 ((x).fdiv (2 ^ 1)) (6148914691236517205 : Int)) + (andI .u64 x (6148914691236517205 : Int))))).fdiv (2 ^ 2)) (3689348814741910323 : Int)) + (andI .u64 (IntKind.u64.wrap ((andI .u64 ((x).fdiv (2 ^ 1)) (6148914691236517205 : Int)) + (andI .u64 x (6148914691236517205 : Int)))) (3689348814741910323 : Int))))).fdiv (2 ^ 4)) + (IntKind.u64.wrap ((andI .u64 (((IntKind.u64.wrap ((andI .u64 ((x).fdiv (2 ^ 1)) (6148914691236517205 : Int)) + (andI .u64 x (6148914691236517205 : Int))))).fdiv (2 ^ 2)) (3689348814741910323 : Int)) + (andI .u64 (IntKind.u64.wrap ((andI .u64 ((x).fdiv (2 ^ 1)) (6148914691236517205 : Int)) + (andI .u64 x (6148914691236517205 : Int)))) (3689348814741910323 : Int))))))) _ (op_add rfl rfl) rfl ?_
  refine WL.val (Value.int .u64 (andI .u64 (IntKind.u64.wrap ((((IntKind.u64.wrap ((andI .u64 (((IntKind.u64.wrap ((andI .u64 ((x).fdiv (2 ^ 1)) (6148914691236517205 : Int)) + (andI .u64 x (6148914691236517205 : Int))))).fdiv (2 ^ 2)) (3689348814741910323 : Int)) + (andI .u64 (IntKind.u64.wrap ((andI .u64 ((x).fdiv (2 ^ 1)) (6148914691236517205 : Int)) + (andI .u64 x (6148914691236517205 : Int)))) (3689348814741910323 : Int))))).fdiv (2 ^ 4)) + (IntKind.u64.wrap ((andI .u64 (((IntKind.u64.wrap ((andI .u64 ((x).fdiv (2 ^ 1)) (6148914691236517205 : Int)) + (andI .u64 x (6148914691236517205 : Int))))).fdiv (2 ^ 2)) (3689348814741910323 : Int)) + (andI .u64 (IntKind.u64.wrap ((andI .u64 ((x).fdiv (2 ^ 1)) (6148914691236517205 : Int)) + (andI .u64 x (6148914691236517205 : Int)))) (3689348814741910323 : Int)))))) (1085102592571150095 : Int))) _ (op_and rfl rfl) rfl ?_
  refine WL.val (Value.int .u64 (andI .u64 (IntKind.u64.wrap ((((IntKind.u64.wrap ((andI .u64 (((IntKind.u64.wrap ((andI .u64 ((x).fdiv (2 ^ 1)) (6148914691236517205 : Int)) + (andI .u64 x (6148914691236517205 : Int))))).fdiv (2 ^ 2)) (3689348814741910323 : Int)) + (andI .u64 (IntKind.u64.wrap ((andI .u64 ((x).fdiv (2 ^ 1)) (6148914691236517205 : Int)) + (andI .u64 x (6148914691236517205 : Int)))) (3689348814741910323 : Int))))).fdiv (2 ^ 4)) + (IntKind.u64.wrap ((andI .u64 (((IntKind.u64.wrap ((andI .u64 ((x).fdiv (2 ^ 1)) (6148914691236517205 : Int)) + (andI .u64 x (6148914691236517205 : Int))))).fdiv (2 ^ 2)) (3689348814741910323 : Int)) + (andI .u64 (IntKind.u64.wrap ((andI .u64 ((x).fdiv (2 ^ 1)) (6148914691236517205 : Int)) + (andI .u64 x (6148914691236517205 : Int)))) (3689348814741910323 : Int)))))) (1085102592571150095 : Int))) _ (op_assign rfl) rfl ?_
  refine WL.nil ?_
  refine W.seq (W.region ?_)
  refine WL.val (Value.int .u64 (andI .u64 (IntKind.u64.wrap ((((IntKind.u64.wrap ((andI .u64 (((IntKind.u64.wrap ((andI .u64 ((x).fdiv (2 ^ 1)) (6148914691236517205 : Int)) + (andI .u64 x (6148914691236517205 : Int))))).fdiv (2 ^ 2)) (3689348814741910323 : Int)) + (andI .u64 (IntKind.u64.wrap ((andI .u64 ((x).fdiv (2 ^ 1)) (6148914691236517205 : Int)) + (andI .u64 x (6148914691236517205 : Int)))) (3689348814741910323 : Int))))).fdiv (2 ^ 4)) + (IntKind.u64.wrap ((andI .u64 (((IntKind.u64.wrap ((andI .u64 ((x).fdiv (2 ^ 1)) (6148914691236517205 : Int)) + (andI .u64 x (6148914691236517205 : Int))))).fdiv (2 ^ 2)) (3689348814741910323 : Int)) + (andI .u64 (IntKind.u64.wrap ((andI .u64 ((x).fdiv (2 ^ 1)) (6148914691236517205 : Int)) + (andI .u64 x (6148914691236517205 : Int)))) (3689348814741910323 : Int)))))) (1085102592571150095 : Int))) _ (op_move rfl) rfl ?_
  refine WL.val (Value.int .u64 (andI .u64 (IntKind.u64.wrap ((((IntKind.u64.wrap ((andI .u64 (((IntKind.u64.wrap ((andI .u64 ((x).fdiv (2 ^ 1)) (6148914691236517205 : Int)) + (andI .u64 x (6148914691236517205 : Int))))).fdiv (2 ^ 2)) (3689348814741910323 : Int)) + (andI .u64 (IntKind.u64.wrap ((andI .u64 ((x).fdiv (2 ^ 1)) (6148914691236517205 : Int)) + (andI .u64 x (6148914691236517205 : Int)))) (3689348814741910323 : Int))))).fdiv (2 ^ 4)) + (IntKind.u64.wrap ((andI .u64 (((IntKind.u64.wrap ((andI .u64 ((x).fdiv (2 ^ 1)) (6148914691236517205 : Int)) + (andI .u64 x (6148914691236517205 : Int))))).fdiv (2 ^ 2)) (3689348814741910323 : Int)) + (andI .u64 (IntKind.u64.wrap ((andI .u64 ((x).fdiv (2 ^ 1)) (6148914691236517205 : Int)) + (andI .u64 x (6148914691236517205 : Int)))) (3689348814741910323 : Int)))))) (1085102592571150095 : Int))) _ (op_move rfl) rfl ?_
  refine WL.val (Value.int .u64 (((andI .u64 (IntKind.u64.wrap ((((IntKind.u64.wrap ((andI .u64 (((IntKind.u64.wrap ((andI .u64 ((x).fdiv (2 ^ 1)) (6148914691236517205 : Int)) + (andI .u64 x (6148914691236517205 : Int))))).fdiv (2 ^ 2)) (3689348814741910323 : Int)) + (andI .u64 (IntKind.u64.wrap ((andI .u64 ((x).fdiv (2 ^ 1)) (6148914691236517205 : Int)) + (andI .u64 x (6148914691236517205 : Int)))) (3689348814741910323 : Int))))).fdiv (2 ^ 4)) + (IntKind.u64.wrap ((andI .u64 (((IntKind.u64.wrap ((andI .u64 ((x).fdiv (2 ^ 1)) (6148914691236517205 : Int)) + (andI .u64 x (6148914691236517205 : Int))))).fdiv (2 ^ 2)) (3689348814741910323 : Int)) + (andI .u64 (IntKind.u64.wrap ((andI .u64 ((x).fdiv (2 ^ 1)) (6148914691236517205 : Int)) + (andI .u64 x (6148914691236517205 : Int)))) (3689348814741910323 : Int)))))) (1085102592571150095 : Int))).fdiv (2 ^ 8))) _ (op_shr (b := 8) rfl rfl (by decide)) rfl ?_
  refine WL.val (Value.int .u64 (IntKind.u64.wrap ((andI .u64 (IntKind.u64.wrap ((((IntKind.u64.wrap ((andI .u64 (((IntKind.u64.wrap ((andI .u64 ((x).fdiv (2 ^ 1)) (6148914691236517205 : Int)) + (andI .u64 x (6148914691236517205 : Int))))).fdiv (2 ^ 2)) (3689348814741910323 : Int)) + (andI .u64 (IntKind.u64.wrap ((andI .u64 ((x).fdiv (2 ^ 1)) (6148914691236517205 : Int)) + (andI .u64 x (6148914691236517205 : Int)))) (3689348814741910323 : Int))))).fdiv (2 ^ 4)) + (IntKind.u64.wrap ((andI .u64 (((IntKind.u64.wrap ((andI .u64 ((x).fdiv (2 ^ 1)) (6148914691236517205 : Int)) + (andI .u64 x (6148914691236517205 : Int))))).fdiv (2 ^ 2)) (3689348814741910323 : Int)) + (andI .u64 (IntKind.u64.wrap ((andI .u64 ((x).fdiv (2 ^ 1)) (6148914691236517205 : Int)) + (andI .u64 x (6148914691236517205 : Int)))) (3689348814741910323 : Int)))))) (1085102592571150095 : Int)) + (((andI .u64 (IntKind.u64.wrap ((((IntKind.u64.wrap ((andI .u64 (((IntKind.u64.wrap ((andI .u64 ((x).fdiv (2 ^ 1)) (6148914691236517205 : Int)) + (andI .u64 x (6148914691236517205 : Int))))).fdiv (2 ^ 2)) (3689348814741910323 : Int)) + (andI .u64 (IntKind.u64.wrap ((andI .u64 ((x).fdiv (2 ^ 1)) (6148914691236517205 : Int)) + (andI .u64 x (6148914691236517205 : Int)))) (3689348814741910323 : Int))))).fdiv (2 ^ 4)) + (IntKind.u64.wrap ((andI .u64 (((IntKind.u64.wrap ((andI .u64 ((x).fdiv (2 ^ 1)) (6148914691236517205 : Int)) + (andI .u64 x (6148914691236517205 : Int))))).fdiv (2 ^ 2)) (3689348814741910323 : Int)) + (andI .u64 (IntKind.u64.wrap ((andI .u64 ((x).fdiv (2 ^ 1)) (6148914691236517205 : Int)) + (andI .u64 x (6148914691236517205 : Int)))) (3689348814741910323 : Int)))))) (1085102592571150095 : Int))).fdiv (2 ^ 8))))) _ (op_add rfl rfl) rfl ?_
  refine WL.val (Value.int .u64 (IntKind.u64.wrap ((andI .u64 (IntKind.u64.wrap ((((IntKind.u64.wrap ((andI .u64 (((IntKind.u64.wrap ((andI .u64 ((x).fdiv (2 ^ 1)) (6148914691236517205 : Int)) + (andI .u64 x (6148914691236517205 : Int))))).fdiv (2 ^ 2)) (3689348814741910323 : Int)) + (andI .u64 (IntKind.u64.wrap ((andI .u64 ((x).fdiv (2 ^ 1)) (6148914691236517205 : Int)) + (andI .u64 x (6148914691236517205 : Int)))) (3689348814741910323 : Int))))).fdiv (2 ^ 4)) + (IntKind.u64.wrap ((andI .u64 (((IntKind.u64.wrap ((andI .u64 ((x).fdiv (2 ^ 1)) (6148914691236517205 : Int)) + (andI .u64 x (6148914691236517205 : Int))))).fdiv (2 ^ 2)) (3689348814741910323 : Int)) + (andI .u64 (IntKind.u64.wrap ((andI .u64 ((x).fdiv (2 ^ 1)) (6148914691236517205 : Int)) + (andI .u64 x (6148914691236517205 : Int)))) (3689348814741910323 : Int)))))) (1085102592571150095 : Int)) + (((andI .u64 (IntKind.u64.wrap ((((IntKind.u64.wrap ((andI .u64 (((IntKind.u64.wrap ((andI .u64 ((x).fdiv (2 ^ 1)) (6148914691236517205 : Int)) + (andI .u64 x (6148914691236517205 : Int))))).fdiv (2 ^ 2)) (3689348814741910323 : Int)) + (andI .u64 (IntKind.u64.wrap ((andI .u64 ((x).fdiv (2 ^ 1)) (6148914691236517205 : Int)) + (andI .u64 x (6148914691236517205 : Int)))) (3689348814741910323 : Int))))).fdiv (2 ^ 4)) + (IntKind.u64.wrap ((andI .u64 (((IntKind.u64.wrap ((andI .u64 ((x).fdiv (2 ^ 1)) (6148914691236517205 : Int)) + (andI .u64 x (6148914691236517205 : Int))))).fdiv (2 ^ 2)) (3689348814741910323 : Int)) + (andI .u64 (IntKind.u64.wrap ((andI .u64 ((x).fdiv (2 ^ 1)) (6148914691236517205 : Int)) + (andI .u64 x (6148914691236517205 : Int)))) (3689348814741910323 : Int)))))) (1085102592571150095 : Int))).fdiv (2 ^ 8))))) _ (op_assign rfl) rfl ?_
  refine WL.nil ?_
  refine W.seq (W.region ?_)
  refine WL.val (Value.int .u64 (IntKind.u64.wrap ((andI .u64 (IntKind.u64.wrap ((((IntKind.u64.wrap ((andI .u64 (((IntKind.u64.wrap ((andI .u64 ((x).fdiv (2 ^ 1)) (6148914691236517205 : Int)) + (andI .u64 x (6148914691236517205 : Int))))).fdiv (2 ^ 2)) (3689348814741910323 : Int)) + (andI .u64 (IntKind.u64.wrap ((andI .u64 ((x).fdiv (2 ^ 1)) (6148914691236517205 : Int)) + (andI .u64 x (6148914691236517205 : Int)))) (3689348814741910323 : Int))))).fdiv (2 ^ 4)) + (IntKind.u64.wrap ((andI .u64 (((IntKind.u64.wrap ((andI .u64 ((x).fdiv (2 ^ 1)) (6148914691236517205 : Int)) + (andI .u64 x (6148914691236517205 : Int))))).fdiv (2 ^ 2)) (3689348814741910323 : Int)) + (andI .u64 (IntKind.u64.wrap ((andI .u64 ((x).fdiv (2 ^ 1)) (6148914691236517205 : Int)) + (andI .u64 x (6148914691236517205 : Int)))) (3689348814741910323 : Int)))))) (1085102592571150095 : Int)) + (((andI .u64 (IntKind.u64.wrap ((((IntKind.u64.wrap ((andI .u64 (((IntKind.u64.wrap ((andI .u64 ((x).fdiv (2 ^ 1)) (6148914691236517205 : Int)) + (andI .u64 x (6148914691236517205 : Int))))).fdiv (2 ^ 2)) (3689348814741910323 : Int)) + (andI .u64 (IntKind.u64.wrap ((andI .u64 ((x).fdiv (2 ^ 1)) (6148914691236517205 : Int)) + (andI .u64 x (6148914691236517205 : Int)))) (3689348814741910323 : Int))))).fdiv (2 ^ 4)) + (IntKind.u64.wrap ((andI .u64 (((IntKind.u64.wrap ((andI .u64 ((x).fdiv (2 ^ 1)) (6148914691236517205 : Int)) + (andI .u64 x (6148914691236517205 : Int))))).fdiv (2 ^ 2)) (3689348814741910323 : Int)) + (andI .u64 (IntKind.u64.wrap ((andI .u64 ((x).fdiv (2 ^ 1)) (6148914691236517205 : Int)) + (andI .u64 x (6148914691236517205 : Int)))) (3689348814741910323 : Int)))))) (1085102592571150095 : Int))).fdiv (2 ^ 8))))) _ (op_move rfl) rfl ?_
  refine WL.val (Value.int .u64 (IntKind.u64.wrap ((andI .u64 (IntKind.u64.wrap ((((IntKind.u64.wrap ((andI .u64 (((IntKind.u64.wrap ((andI .u64 ((x).fdiv (2 ^ 1)) (6148914691236517205 : Int)) + (andI .u64 x (6148914691236517205 : Int))))).fdiv (2 ^ 2)) (3689348814741910323 : Int)) + (andI .u64 (IntKind.u64.wrap ((andI .u64 ((x).fdiv (2 ^ 1)) (6148914691236517205 : Int)) + (andI .u64 x (6148914691236517205 : Int)))) (3689348814741910323 : Int))))).fdiv (2 ^ 4)) + (IntKind.u64.wrap ((andI .u64 (((IntKind.u64.wrap ((andI .u64 ((x).fdiv (2 ^ 1)) (6148914691236517205 : Int)) + (andI .u64 x (6148914691236517205 : Int))))).fdiv (2 ^ 2)) (3689348814741910323 : Int)) + (andI .u64 (IntKind.u64.wrap ((andI .u64 ((x).fdiv (2 ^ 1)) (6148914691236517205 : Int)) + (andI .u64 x (6148914691236517205 : Int)))) (3689348814741910323 : Int)))))) (1085102592571150095 : Int)) + (((andI .u64 (IntKind.u64.wrap ((((IntKind.u64.wrap ((andI .u64 (((IntKind.u64.wrap ((andI .u64 ((x).fdiv (2 ^ 1)) (6148914691236517205 : Int)) + (andI .u64 x (6148914691236517205 : Int))))).fdiv (2 ^ 2)) (3689348814741910323 : Int)) + (andI .u64 (IntKind.u64.wrap ((andI .u64 ((x).fdiv (2 ^ 1)) (6148914691236517205 : Int)) + (andI .u64 x (6148914691236517205 : Int)))) (3689348814741910323 : Int))))).fdiv (2 ^ 4)) + (IntKind.u64.wrap ((andI .u64 (((IntKind.u64.wrap ((andI .u64 ((x).fdiv (2 ^ 1)) (6148914691236517205 : Int)) + (andI .u64 x (6148914691236517205 : Int))))).fdiv (2 ^ 2)) (3689348814741910323 : Int)) + (andI .u64 (IntKind.u64.wrap ((andI .u64 ((x).fdiv (2 ^ 1)) (6148914691236517205 : Int)) + (andI .u64 x (6148914691236517205 : Int)))) (3689348814741910323 : Int)))))) (1085102592571150095 : Int))).fdiv (2 ^ 8))))) _ (op_move rfl) rfl ?_
  refine WL.val (Value.int .u64 (((IntKind.u64.wrap ((andI .u64 (IntKind.u64.wrap ((((IntKind.u64.wrap ((andI .u64 (((IntKind.u64.wrap ((andI .u64 ((x).fdiv (2 ^ 1)) (6148914691236517205 : Int)) + (andI .u64 x (6148914691236517205 : Int))))).fdiv (2 ^ 2)) (3689348814741910323 : Int)) + (andI .u64 (IntKind.u64.wrap ((andI .u64 ((x).fdiv (2 ^ 1)) (6148914691236517205 : Int)) + (andI .u64 x (6148914691236517205 : Int)))) (3689348814741910323 : Int))))).fdiv (2 ^ 4)) + (IntKind.u64.wrap ((andI .u64 (((IntKind.u64.wrap ((andI .u64 ((x).fdiv (2 ^ 1)) (6148914691236517205 : Int)) + (andI .u64 x (6148914691236517205 : Int))))).fdiv (2 ^ 2)) (3689348814741910323 : Int)) + (andI .u64 (IntKind.u64.wrap ((andI .u64 ((x).fdiv (2 ^ 1)) (6148914691236517205 : Int)) + (andI .u64 x (6148914691236517205 : Int)))) (3689348814741910323 : Int)))))) (1085102592571150095 : Int)) + (((andI .u64 (IntKind.u64.wrap ((((IntKind.u64.wrap ((andI .u64 (((IntKind.u64.wrap ((andI .u64 ((x).fdiv (2 ^ 1)) (6148914691236517205 : Int)) + (andI .u64 x (6148914691236517205 : Int))))).fdiv (2 ^ 2)) (3689348814741910323 : Int)) + (andI .u64 (IntKind.u64.wrap ((andI .u64 ((x).fdiv (2 ^ 1)) (6148914691236517205 : Int)) + (andI .u64 x (6148914691236517205 : Int)))) (3689348814741910323 : Int))))).fdiv (2 ^ 4)) + (IntKind.u64.wrap ((andI .u64 (((IntKind.u64.wrap ((andI .u64 ((x).fdiv (2 ^ 1)) (6148914691236517205 : Int)) + (andI .u64 x (6148914691236517205 : Int))))).fdiv (2 ^ 2)) (3689348814741910323 : Int)) + (andI .u64 (IntKind.u64.wrap ((andI .u64 ((x).fdiv (2 ^ 1)) (6148914691236517205 : Int)) + (andI .u64 x (6148914691236517205 : Int)))) (3689348814741910323 : Int)))))) (1085102592571150095 : Int))).fdiv (2 ^ 8))))).fdiv (2 ^ 16))) _ (op_shr (b := 16) rfl rfl (by decide)) rfl ?_
  refine WL.val (Value.int .u64 (IntKind.u64.wrap ((IntKind.u64.wrap ((andI .u64 (IntKind.u64.wrap ((((IntKind.u64.wrap ((andI .u64 (((IntKind.u64.wrap ((andI .u64 ((x).fdiv (2 ^ 1)) (6148914691236517205 : Int)) + (andI .u64 x (6148914691236517205 : Int))))).fdiv (2 ^ 2)) (3689348814741910323 : Int)) + (andI .u64 (IntKind.u64.wrap ((andI .u64 ((x).fdiv (2 ^ 1)) (6148914691236517205 : Int)) + (andI .u64 x (6148914691236517205 : Int)))) (3689348814741910323 : Int))))).fdiv (2 ^ 4)) + (IntKind.u64.wrap ((andI .u64 (((IntKind.u64.wrap ((andI .u64 ((x).fdiv (2 ^ 1)) (6148914691236517205 : Int)) + (andI .u64 x (6148914691236517205 : Int))))).fdiv (2 ^ 2)) (3689348814741910323 : Int)) + (andI .u64 (IntKind.u64.wrap ((andI .u64 ((x).fdiv (2 ^ 1)) (6148914691236517205 : Int)) + (andI .u64 x (6148914691236517205 : Int)))) (3689348814741910323 : Int)))))) (1085102592571150095 : Int)) + (((andI .u64 (IntKind.u64.wrap ((((IntKind.u64.wrap ((andI .u64 (((IntKind.u64.wrap ((andI .u64 ((x).fdiv (2 ^ 1)) (6148914691236517205 : Int)) + (andI .u64 x (6148914691236517205 : Int))))).fdiv (2 ^ 2)) (3689348814741910323 : Int)) + (andI .u64 (IntKind.u64.wrap ((andI .u64 ((x).fdiv (2 ^ 1)) (6148914691236517205 : Int)) + (andI .u64 x (6148914691236517205 : Int)))) (3689348814741910323 : Int))))).fdiv (2 ^ 4)) + (IntKind.u64.wrap ((andI .u64 (((IntKind.u64.wrap ((andI .u64 ((x).fdiv (2 ^ 1)) (6148914691236517205 : Int)) + (andI .u64 x (6148914691236517205 : Int))))).fdiv (2 ^ 2)) (3689348814741910323 : Int)) + (andI .u64 (IntKind.u64.wrap ((andI .u64 ((x).fdiv (2 ^ 1)) (6148914691236517205 : Int)) + (andI .u64 x (6148914691236517205 : Int)))) (3689348814741910323 : Int)))))) (1085102592571150095 : Int))).fdiv (2 ^ 8)))) + (((IntKind.u64.wrap ((andI .u64 (IntKind.u64.wrap ((((IntKind.u64.wrap ((andI .u64 (((IntKind.u64.wrap ((andI .u64 ((x).fdiv (2 ^ 1)) (6148914691236517205 : Int)) + (andI .u64 x (6148914691236517205 : Int))))).fdiv (2 ^ 2)) (3689348814741910323 : Int)) + (andI .u64 (IntKind.u64.wrap ((andI .u64 ((x).fdiv (2 ^ 1)) (6148914691236517205 : Int)) + (andI .u64 x (6148914691236517205 : Int)))) (3689348814741910323 : Int))))).fdiv (2 ^ 4)) + (IntKind.u64.wrap ((andI .u64 (((IntKind.u64.wrap ((andI .u64 ((x).fdiv (2 ^ 1)) (6148914691236517205 : Int)) + (andI .u64 x (6148914691236517205 : Int))))).fdiv (2 ^ 2)) (3689348814741910323 : Int)) + (andI .u64 (IntKind.u64.wrap ((andI .u64 ((x).fdiv (2 ^ 1)) (6148914691236517205 : Int)) + (andI .u64 x (6148914691236517205 : Int)))) (3689348814741910323 : Int)))))) (1085102592571150095 : Int)) + (((andI .u64 (IntKind.u64.wrap ((((IntKind.u64.wrap ((andI .u64 (((IntKind.u64.wrap ((andI .u64 ((x).fdiv (2 ^ 1)) (6148914691236517205 : Int)) + (andI .u64 x (6148914691236517205 : Int))))).fdiv (2 ^ 2)) (3689348814741910323 : Int)) + (andI .u64 (IntKind.u64.wrap ((andI .u64 ((x).fdiv (2 ^ 1)) (6148914691236517205 : Int)) + (andI .u64 x (6148914691236517205 : Int)))) (3689348814741910323 : Int))))).fdiv (2 ^ 4)) + (IntKind.u64.wrap ((andI .u64 (((IntKind.u64.wrap ((andI .u64 ((x).fdiv (2 ^ 1)) (6148914691236517205 : Int)) + (andI .u64 x (6148914691236517205 : Int))))).fdiv (2 ^ 2)) (3689348814741910323 : Int)) + (andI .u64 (IntKind.u64.wrap ((andI .u64 ((x).fdiv (2 ^ 1)) (6148914691236517205 : Int)) + (andI .u64 x (6148914691236517205 : Int)))) (3689348814741910323 : Int)))))) (1085102592571150095 : Int))).fdiv (2 ^ 8))))).fdiv (2 ^ 16))))) _ (op_add rfl rfl) rfl ?_
  refine WL.val (Value.int .u64 (IntKind.u64.wrap ((IntKind.u64.wrap ((andI .u64 (IntKind.u64.wrap ((((IntKind.u64.wrap ((andI .u64 (((IntKind.u64.wrap ((andI .u64 ((x).fdiv (2 ^ 1)) (6148914691236517205 : Int)) + (andI .u64 x (6148914691236517205 : Int))))).fdiv (2 ^ 2)) (3689348814741910323 : Int)) + (andI .u64 (IntKind.u64.wrap ((andI .u64 ((x).fdiv (2 ^ 1)) (6148914691236517205 : Int)) + (andI .u64 x (6148914691236517205 : Int)))) (3689348814741910323 : Int))))).fdiv (2 ^ 4)) + (IntKind.u64.wrap ((andI .u64 (((IntKind.u64.wrap ((andI .u64 ((x).fdiv (2 ^ 1)) (6148914691236517205 : Int)) + (andI .u64 x (6148914691236517205 : Int))))).fdiv (2 ^ 2)) (3689348814741910323 : Int)) + (andI .u64 (IntKind.u64.wrap ((andI .u64 ((x).fdiv (2 ^ 1)) (6148914691236517205 : Int)) + (andI .u64 x (6148914691236517205 : Int)))) (3689348814741910323 : Int)))))) (1085102592571150095 : Int)) + (((andI .u64 (IntKind.u64.wrap ((((IntKind.u64.wrap ((andI .u64 (((IntKind.u64.wrap ((andI .u64 ((x).fdiv (2 ^ 1)) (6148914691236517205 : Int)) + (andI .u64 x (6148914691236517205 : Int))))).fdiv (2 ^ 2)) (3689348814741910323 : Int)) + (andI .u64 (IntKind.u64.wrap ((andI .u64 ((x).fdiv (2 ^ 1)) (6148914691236517205 : Int)) + (andI .u64 x (6148914691236517205 : Int)))) (3689348814741910323 : Int))))).fdiv (2 ^ 4)) + (IntKind.u64.wrap ((andI .u64 (((IntKind.u64.wrap ((andI .u64 ((x).fdiv (2 ^ 1)) (6148914691236517205 : Int)) + (andI .u64 x (6148914691236517205 : Int))))).fdiv (2 ^ 2)) (3689348814741910323 : Int)) + (andI .u64 (IntKind.u64.wrap ((andI .u64 ((x).fdiv (2 ^ 1)) (6148914691236517205 : Int)) + (andI .u64 x (6148914691236517205 : Int)))) (3689348814741910323 : Int)))))) (1085102592571150095 : Int))).fdiv (2 ^ 8)))) + (((IntKind.u64.wrap ((andI .u64 (IntKind.u64.wrap ((((IntKind.u64.wrap ((andI .u64 (((IntKind.u64.wrap ((andI .u64 ((x).fdiv (2 ^ 1)) (6148914691236517205 : Int)) + (andI .u64 x (6148914691236517205 : Int))))).fdiv (2 ^ 2)) (3689348814741910323 : Int)) + (andI .u64 (IntKind.u64.wrap ((andI .u64 ((x).fdiv (2 ^ 1)) (6148914691236517205 : Int)) + (andI .u64 x (6148914691236517205 : Int)))) (3689348814741910323 : Int))))).fdiv (2 ^ 4)) + (IntKind.u64.wrap ((andI .u64 (((IntKind.u64.wrap ((andI .u64 ((x).fdiv (2 ^ 1)) (6148914691236517205 : Int)) + (andI .u64 x (6148914691236517205 : Int))))).fdiv (2 ^ 2)) (3689348814741910323 : Int)) + (andI .u64 (IntKind.u64.wrap ((andI .u64 ((x).fdiv (2 ^ 1)) (6148914691236517205 : Int)) + (andI .u64 x (6148914691236517205 : Int)))) (3689348814741910323 : Int)))))) (1085102592571150095 : Int)) + (((andI .u64 (IntKind.u64.wrap ((((IntKind.u64.wrap ((andI .u64 (((IntKind.u64.wrap ((andI .u64 ((x).fdiv (2 ^ 1)) (6148914691236517205 : Int)) + (andI .u64 x (6148914691236517205 : Int))))).fdiv (2 ^ 2)) (3689348814741910323 : Int)) + (andI .u64 (IntKind.u64.wrap ((andI .u64 ((x).fdiv (2 ^ 1)) (6148914691236517205 : Int)) + (andI .u64 x (6148914691236517205 : Int)))) (3689348814741910323 : Int))))).fdiv (2 ^ 4)) + (IntKind.u64.wrap ((andI .u64 (((IntKind.u64.wrap ((andI .u64 ((x).fdiv (2 ^ 1)) (6148914691236517205 : Int)) + (andI .u64 x (6148914691236517205 : Int))))).fdiv (2 ^ 2)) (3689348814741910323 : Int)) + (andI .u64 (IntKind.u64.wrap ((andI .u64 ((x).fdiv (2 ^ 1)) (6148914691236517205 : Int)) + (andI .u64 x (6148914691236517205 : Int)))) (3689348814741910323 : Int)))))) (1085102592571150095 : Int))).fdiv (2 ^ 8))))).fdiv (2 ^ 16))))) _ (op_assign rfl) rfl ?_
  refine WL.nil ?_
  refine W.seq (W.region ?_)
  refine WL.val (Value.int .u64 (IntKind.u64.wrap ((IntKind.u64.wrap ((andI .u64 (IntKind.u64.wrap ((((IntKind.u64.wrap ((andI .u64 (((IntKind.u64.wrap ((andI .u64 ((x).fdiv (2 ^ 1)) (6148914691236517205 : Int)) + (andI .u64 x (6148914691236517205 : Int))))).fdiv (2 ^ 2)) (3689348814741910323 : Int)) + (andI .u64 (IntKind.u64.wrap ((andI .u64 ((x).fdiv (2 ^ 1)) (6148914691236517205 : Int)) + (andI .u64 x (6148914691236517205 : Int)))) (3689348814741910323 : Int))))).fdiv (2 ^ 4)) + (IntKind.u64.wrap ((andI .u64 (((IntKind.u64.wrap ((andI .u64 ((x).fdiv (2 ^ 1)) (6148914691236517205 : Int)) + (andI .u64 x (6148914691236517205 : Int))))).fdiv (2 ^ 2)) (3689348814741910323 : Int)) + (andI .u64 (IntKind.u64.wrap ((andI .u64 ((x).fdiv (2 ^ 1)) (6148914691236517205 : Int)) + (andI .u64 x (6148914691236517205 : Int)))) (3689348814741910323 : Int)))))) (1085102592571150095 : Int)) + (((andI .u64 (IntKind.u64.wrap ((((IntKind.u64.wrap ((andI .u64 (((IntKind.u64.wrap ((andI .u64 ((x).fdiv (2 ^ 1)) (6148914691236517205 : Int)) + (andI .u64 x (6148914691236517205 : Int))))).fdiv (2 ^ 2)) (3689348814741910323 : Int)) + (andI .u64 (IntKind.u64.wrap ((andI .u64 ((x).fdiv (2 ^ 1)) (6148914691236517205 : Int)) + (andI .u64 x (6148914691236517205 : Int)))) (3689348814741910323 : Int))))).fdiv (2 ^ 4)) + (IntKind.u64.wrap ((andI .u64 (((IntKind.u64.wrap ((andI .u64 ((x).fdiv (2 ^ 1)) (6148914691236517205 : Int)) + (andI .u64 x (6148914691236517205 : Int))))).fdiv (2 ^ 2)) (3689348814741910323 : Int)) + (andI .u64 (IntKind.u64.wrap ((andI .u64 ((x).fdiv (2 ^ 1)) (6148914691236517205 : Int)) + (andI .u64 x (6148914691236517205 : Int)))) (3689348814741910323 : Int)))))) (1085102592571150095 : Int))).fdiv (2 ^ 8)))) + (((IntKind.u64.wrap ((andI .u64 (IntKind.u64.wrap ((((IntKind.u64.wrap ((andI .u64 (((IntKind.u64.wrap ((andI .u64 ((x).fdiv (2 ^ 1)) (6148914691236517205 : Int)) + (andI .u64 x (6148914691236517205 : Int))))).fdiv (2 ^ 2)) (3689348814741910323 : Int)) + (andI .u64 (IntKind.u64.wrap ((andI .u64 ((x).fdiv (2 ^ 1)) (6148914691236517205 : Int)) + (andI .u64 x (6148914691236517205 : Int)))) (3689348814741910323 : Int))))).fdiv (2 ^ 4)) + (IntKind.u64.wrap ((andI .u64 (((IntKind.u64.wrap ((andI .u64 ((x).fdiv (2 ^ 1)) (6148914691236517205 : Int)) + (andI .u64 x (6148914691236517205 : Int))))).fdiv (2 ^ 2)) (3689348814741910323 : Int)) + (andI .u64 (IntKind.u64.wrap ((andI .u64 ((x).fdiv (2 ^ 1)) (6148914691236517205 : Int)) + (andI .u64 x (6148914691236517205 : Int)))) (3689348814741910323 : Int)))))) (1085102592571150095 : Int)) + (((andI .u64 (IntKind.u64.wrap ((((IntKind.u64.wrap ((andI .u64 (((IntKind.u64.wrap ((andI .u64 ((x).fdiv (2 ^ 1)) (6148914691236517205 : Int)) + (andI .u64 x (6148914691236517205 : Int))))).fdiv (2 ^ 2)) (3689348814741910323 : Int)) + (andI .u64 (IntKind.u64.wrap ((andI .u64 ((x).fdiv (2 ^ 1)) (6148914691236517205 : Int)) + (andI .u64 x (6148914691236517205 : Int)))) (3689348814741910323 : Int))))).fdiv (2 ^ 4)) + (IntKind.u64.wrap ((andI .u64 (((IntKind.u64.wrap ((andI .u64 ((x).fdiv (2 ^ 1)) (6148914691236517205 : Int)) + (andI .u64 x (6148914691236517205 : Int))))).fdiv (2 ^ 2)) (3689348814741910323 : Int)) + (andI .u64 (IntKind.u64.wrap ((andI .u64 ((x).fdiv (2 ^ 1)) (6148914691236517205 : Int)) + (andI .u64 x (6148914691236517205 : Int)))) (3689348814741910323 : Int)))))) (1085102592571150095 : Int))).fdiv (2 ^ 8))))).fdiv (2 ^ 16))))) _ (op_move rfl) rfl ?_
  refine WL.val (Value.int .u64 (IntKind.u64.wrap ((IntKind.u64.wrap ((andI .u64 (IntKind.u64.wrap ((((IntKind.u64.wrap ((andI .u64 (((IntKind.u64.wrap ((andI .u64 ((x).fdiv (2 ^ 1)) (6148914691236517205 : Int)) + (andI .u64 x (6148914691236517205 : Int))))).fdiv (2 ^ 2)) (3689348814741910323 : Int)) + (andI .u64 (IntKind.u64.wrap ((andI .u64 ((x).fdiv (2 ^ 1)) (6148914691236517205 : Int)) + (andI .u64 x (6148914691236517205 : Int)))) (3689348814741910323 : Int))))).fdiv (2 ^ 4)) + (IntKind.u64.wrap ((andI .u64 (((IntKind.u64.wrap ((andI .u64 ((x).fdiv (2 ^ 1)) (6148914691236517205 : Int)) + (andI .u64 x (6148914691236517205 : Int))))).fdiv (2 ^ 2)) (3689348814741910323 : Int)) + (andI .u64 (IntKind.u64.wrap ((andI .u64 ((x).fdiv (2 ^ 1)) (6148914691236517205 : Int)) + (andI .u64 x (6148914691236517205 : Int)))) (3689348814741910323 : Int)))))) (1085102592571150095 : Int)) + (((andI .u64 (IntKind.u64.wrap ((((IntKind.u64.wrap ((andI .u64 (((IntKind.u64.wrap ((andI .u64 ((x).fdiv (2 ^ 1)) (6148914691236517205 : Int)) + (andI .u64 x (6148914691236517205 : Int))))).fdiv (2 ^ 2)) (3689348814741910323 : Int)) + (andI .u64 (IntKind.u64.wrap ((andI .u64 ((x).fdiv (2 ^ 1)) (6148914691236517205 : Int)) + (andI .u64 x (6148914691236517205 : Int)))) (3689348814741910323 : Int))))).fdiv (2 ^ 4)) + (IntKind.u64.wrap ((andI .u64 (((IntKind.u64.wrap ((andI .u64 ((x).fdiv (2 ^ 1)) (6148914691236517205 : Int)) + (andI .u64 x (6148914691236517205 : Int))))).fdiv (2 ^ 2)) (3689348814741910323 : Int)) + (andI .u64 (IntKind.u64.wrap ((andI .u64 ((x).fdiv (2 ^ 1)) (6148914691236517205 : Int)) + (andI .u64 x (6148914691236517205 : Int)))) (3689348814741910323 : Int)))))) (1085102592571150095 : Int))).fdiv (2 ^ 8)))) + (((IntKind.u64.wrap ((andI .u64 (IntKind.u64.wrap ((((IntKind.u64.wrap ((andI .u64 (((IntKind.u64.wrap ((andI .u64 ((x).fdiv (2 ^ 1)) (6148914691236517205 : Int)) + (andI .u64 x (6148914691236517205 : Int))))).fdiv (2 ^ 2)) (3689348814741910323 : Int)) + (andI .u64 (IntKind.u64.wrap ((andI .u64 ((x).fdiv (2 ^ 1)) (6148914691236517205 : Int)) + (andI .u64 x (6148914691236517205 : Int)))) (3689348814741910323 : Int))))).fdiv (2 ^ 4)) + (IntKind.u64.wrap ((andI .u64 (((IntKind.u64.wrap ((andI .u64 ((x).fdiv (2 ^ 1)) (6148914691236517205 : Int)) + (andI .u64 x (6148914691236517205 : Int))))).fdiv (2 ^ 2)) (3689348814741910323 : Int)) + (andI .u64 (IntKind.u64.wrap ((andI .u64 ((x).fdiv (2 ^ 1)) (6148914691236517205 : Int)) + (andI .u64 x (6148914691236517205 : Int)))) (3689348814741910323 : Int)))))) (1085102592571150095 : Int)) + (((andI .u64 (IntKind.u64.wrap ((((IntKind.u64.wrap ((andI .u64 (((IntKind.u64.wrap ((andI .u64 ((x).fdiv (2 ^ 1)) (6148914691236517205 : Int)) + (andI .u64 x (6148914691236517205 : Int))))).fdiv (2 ^ 2)) (3689348814741910323 : Int)) + (andI .u64 (IntKind.u64.wrap ((andI .u64 ((x).fdiv (2 ^ 1)) (6148914691236517205 : Int)) + (andI .u64 x (6148914691236517205 : Int)))) (3689348814741910323 : Int))))).fdiv (2 ^ 4)) + (IntKind.u64.wrap ((andI .u64 (((IntKind.u64.wrap ((andI .u64 ((x).fdiv (2 ^ 1)) (6148914691236517205 : Int)) + (andI .u64 x (6148914691236517205 : Int))))).fdiv (2 ^ 2)) (3689348814741910323 : Int)) + (andI .u64 (IntKind.u64.wrap ((andI .u64 ((x).fdiv (2 ^ 1)) (6148914691236517205 : Int)) + (andI .u64 x (6148914691236517205 : Int)))) (3689348814741910323 : Int)))))) (1085102592571150095 : Int))).fdiv (2 ^ 8))))).fdiv (2 ^ 16))))) _ (op_move rfl) rfl ?_
  refine WL.val (Value.int .u64 (((IntKind.u64.wrap ((IntKind.u64.wrap ((andI .u64 (IntKind.u64.wrap ((((IntKind.u64.wrap ((andI .u64 (((IntKind.u64.wrap ((andI .u64 ((x).fdiv (2 ^ 1)) (6148914691236517205 : Int)) + (andI .u64 x (6148914691236517205 : Int))))).fdiv (2 ^ 2)) (3689348814741910323 : Int)) + (andI .u64 (IntKind.u64.wrap ((andI .u64 ((x).fdiv (2 ^ 1)) (6148914691236517205 : Int)) + (andI .u64 x (6148914691236517205 : Int)))) (3689348814741910323 : Int))))).fdiv (2 ^ 4)) + (IntKind.u64.wrap ((andI .u64 (((IntKind.u64.wrap ((andI .u64 ((x).fdiv (2 ^ 1)) (6148914691236517205 : Int)) + (andI .u64 x (6148914691236517205 : Int))))).fdiv (2 ^ 2)) (3689348814741910323 : Int)) + (andI .u64 (IntKind.u64.wrap ((andI .u64 ((x).fdiv (2 ^ 1)) (6148914691236517205 : Int)) + (andI .u64 x (6148914691236517205 : Int)))) (3689348814741910323 : Int)))))) (1085102592571150095 : Int)) + (((andI .u64 (IntKind.u64.wrap ((((IntKind.u64.wrap ((andI .u64 (((IntKind.u64.wrap ((andI .u64 ((x).fdiv (2 ^ 1)) (6148914691236517205 : Int)) + (andI .u64 x (6148914691236517205 : Int))))).fdiv (2 ^ 2)) (3689348814741910323 : Int)) + (andI .u64 (IntKind.u64.wrap ((andI .u64 ((x).fdiv (2 ^ 1)) (6148914691236517205 : Int)) + (andI .u64 x (6148914691236517205 : Int)))) (3689348814741910323 : Int))))).fdiv (2 ^ 4)) + (IntKind.u64.wrap ((andI .u64 (((IntKind.u64.wrap ((andI .u64 ((x).fdiv (2 ^ 1)) (6148914691236517205 : Int)) + (andI .u64 x (6148914691236517205 : Int))))).fdiv (2 ^ 2)) (3689348814741910323 : Int)) + (andI .u64 (IntKind.u64.wrap ((andI .u64 ((x).fdiv (2 ^ 1)) (6148914691236517205 : Int)) + (andI .u64 x (6148914691236517205 : Int)))) (3689348814741910323 : Int)))))) (1085102592571150095 : Int))).fdiv (2 ^ 8)))) + (((IntKind.u64.wrap ((andI .u64 (IntKind.u64.wrap ((((IntKind.u64.wrap ((andI .u64 (((IntKind.u64.wrap ((andI .u64 ((x).fdiv (2 ^ 1)) (6148914691236517205 : Int)) + (andI .u64 x (6148914691236517205 : Int))))).fdiv (2 ^ 2)) (3689348814741910323 : Int)) + (andI .u64 (IntKind.u64.wrap ((andI .u64 ((x).fdiv (2 ^ 1)) (6148914691236517205 : Int)) + (andI .u64 x (6148914691236517205 : Int)))) (3689348814741910323 : Int))))).fdiv (2 ^ 4)) + (IntKind.u64.wrap ((andI .u64 (((IntKind.u64.wrap ((andI .u64 ((x).fdiv (2 ^ 1)) (6148914691236517205 : Int)) + (andI .u64 x (6148914691236517205 : Int))))).fdiv (2 ^ 2)) (3689348814741910323 : Int)) + (andI .u64 (IntKind.u64.wrap ((andI .u64 ((x).fdiv (2 ^ 1)) (6148914691236517205 : Int)) + (andI .u64 x (6148914691236517205 : Int)))) (3689348814741910323 : Int)))))) (1085102592571150095 : Int)) + (((andI .u64 (IntKind.u64.wrap ((((IntKind.u64.wrap ((andI .u64 (((IntKind.u64.wrap ((andI .u64 ((x).fdiv (2 ^ 1)) (6148914691236517205 : Int)) + (andI .u64 x (6148914691236517205 : Int))))).fdiv (2 ^ 2)) (3689348814741910323 : Int)) + (andI .u64 (IntKind.u64.wrap ((andI .u64 ((x).fdiv (2 ^ 1)) (6148914691236517205 : Int)) + (andI .u64 x (6148914691236517205 : Int)))) (3689348814741910323 : Int))))).fdiv (2 ^ 4)) + (IntKind.u64.wrap ((andI .u64 (((IntKind.u64.wrap ((andI .u64 ((x).fdiv (2 ^ 1)) (6148914691236517205 : Int)) + (andI .u64 x (6148914691236517205 : Int))))).fdiv (2 ^ 2)) (3689348814741910323 : Int)) + (andI .u64 (IntKind.u64.wrap ((andI .u64 ((x).fdiv (2 ^ 1)) (6148914691236517205 : Int)) + (andI .u64 x (6148914691236517205 : Int)))) (3689348814741910323 : Int)))))) (1085102592571150095 : Int))).fdiv (2 ^ 8))))).fdiv (2 ^ 16))))).fdiv (2 ^ 32))) _ (op_shr (b := 32) rfl rfl (by decide)) rfl ?_
  refine WL.val (Value.int .u64 (IntKind.u64.wrap ((IntKind.u64.wrap ((IntKind.u64.wrap ((andI .u64 (IntKind.u64.wrap ((((IntKind.u64.wrap ((andI .u64 (((IntKind.u64.wrap ((andI .u64 ((x).fdiv (2 ^ 1)) (6148914691236517205 : Int)) + (andI .u64 x (6148914691236517205 : Int))))).fdiv (2 ^ 2)) (3689348814741910323 : Int)) + (andI .u64 (IntKind.u64.wrap ((andI .u64 ((x).fdiv (2 ^ 1)) (6148914691236517205 : Int)) + (andI .u64 x (6148914691236517205 : Int)))) (3689348814741910323 : Int))))).fdiv (2 ^ 4)) + (IntKind.u64.wrap ((andI .u64 (((IntKind.u64.wrap ((andI .u64 ((x).fdiv (2 ^ 1)) (6148914691236517205 : Int)) + (andI .u64 x (6148914691236517205 : Int))))).fdiv (2 ^ 2)) (3689348814741910323 : Int)) + (andI .u64 (IntKind.u64.wrap ((andI .u64 ((x).fdiv (2 ^ 1)) (6148914691236517205 : Int)) + (andI .u64 x (6148914691236517205 : Int)))) (3689348814741910323 : Int)))))) (1085102592571150095 : Int)) + (((andI .u64 (IntKind.u64.wrap ((((IntKind.u64.wrap ((andI .u64 (((IntKind.u64.wrap ((andI .u64 ((x).fdiv (2 ^ 1)) (6148914691236517205 : Int)) + (andI .u64 x (6148914691236517205 : Int))))).fdiv (2 ^ 2)) (3689348814741910323 : Int)) + (andI .u64 (IntKind.u64.wrap ((andI .u64 ((x).fdiv (2 ^ 1)) (6148914691236517205 : Int)) + (andI .u64 x (6148914691236517205 : Int)))) (3689348814741910323 : Int))))).fdiv (2 ^ 4)) + (IntKind.u64.wrap ((andI .u64 (((IntKind.u64.wrap ((andI .u64 ((x).fdiv (2 ^ 1)) (6148914691236517205 : Int)) + (andI .u64 x (6148914691236517205 : Int))))).fdiv (2 ^ 2)) (3689348814741910323 : Int)) + (andI .u64 (IntKind.u64.wrap ((andI .u64 ((x).fdiv (2 ^ 1)) (6148914691236517205 : Int)) + (andI .u64 x (6148914691236517205 : Int)))) (3689348814741910323 : Int)))))) (1085102592571150095 : Int))).fdiv (2 ^ 8)))) + (((IntKind.u64.wrap ((andI .u64 (IntKind.u64.wrap ((((IntKind.u64.wrap ((andI .u64 (((IntKind.u64.wrap ((andI .u64 ((x).fdiv (2 ^ 1)) (6148914691236517205 : Int)) + (andI .u64 x (6148914691236517205 : Int))))).fdiv (2 ^ 2)) (3689348814741910323 : Int)) + (andI .u64 (IntKind.u64.wrap ((andI .u64 ((x).fdiv (2 ^ 1)) (6148914691236517205 : Int)) + (andI .u64 x (6148914691236517205 : Int)))) (3689348814741910323 : Int))))).fdiv (2 ^ 4)) + (IntKind.u64.wrap ((andI .u64 (((IntKind.u64.wrap ((andI .u64 ((x).fdiv (2 ^ 1)) (6148914691236517205 : Int)) + (andI .u64 x (6148914691236517205 : Int))))).fdiv (2 ^ 2)) (3689348814741910323 : Int)) + (andI .u64 (IntKind.u64.wrap ((andI .u64 ((x).fdiv (2 ^ 1)) (6148914691236517205 : Int)) + (andI .u64 x (6148914691236517205 : Int)))) (3689348814741910323 : Int)))))) (1085102592571150095 : Int)) + (((andI .u64 (IntKind.u64.wrap ((((IntKind.u64.wrap ((andI .u64 (((IntKind.u64.wrap ((andI .u64 ((x).fdiv (2 ^ 1)) (6148914691236517205 : Int)) + (andI .u64 x (6148914691236517205 : Int))))).fdiv (2 ^ 2)) (3689348814741910323 : Int)) + (andI .u64 (IntKind.u64.wrap ((andI .u64 ((x).fdiv (2 ^ 1)) (6148914691236517205 : Int)) + (andI .u64 x (6148914691236517205 : Int)))) (3689348814741910323 : Int))))).fdiv (2 ^ 4)) + (IntKind.u64.wrap ((andI .u64 (((IntKind.u64.wrap ((andI .u64 ((x).fdiv (2 ^ 1)) (6148914691236517205 : Int)) + (andI .u64 x (6148914691236517205 : Int))))).fdiv (2 ^ 2)) (3689348814741910323 : Int)) + (andI .u64 (IntKind.u64.wrap ((andI .u64 ((x).fdiv (2 ^ 1)) (6148914691236517205 : Int)) + (andI .u64 x (6148914691236517205 : Int)))) (3689348814741910323 : Int)))))) (1085102592571150095 : Int))).fdiv (2 ^ 8))))).fdiv (2 ^ 16)))) + (((IntKind.u64.wrap ((IntKind.u64.wrap ((andI .u64 (IntKind.u64.wrap ((((IntKind.u64.wrap ((andI .u64 (((IntKind.u64.wrap ((andI .u64 ((x).fdiv (2 ^ 1)) (6148914691236517205 : Int)) + (andI .u64 x (6148914691236517205 : Int))))).fdiv (2 ^ 2)) (3689348814741910323 : Int)) + (andI .u64 (IntKind.u64.wrap ((andI .u64 ((x).fdiv (2 ^ 1)) (6148914691236517205 : Int)) + (andI .u64 x (6148914691236517205 : Int)))) (3689348814741910323 : Int))))).fdiv (2 ^ 4)) + (IntKind.u64.wrap ((andI .u64 (((IntKind.u64.wrap ((andI .u64 ((x).fdiv (2 ^ 1)) (6148914691236517205 : Int)) + (andI .u64 x (6148914691236517205 : Int))))).fdiv (2 ^ 2)) (3689348814741910323 : Int)) + (andI .u64 (IntKind.u64.wrap ((andI .u64 ((x).fdiv (2 ^ 1)) (6148914691236517205 : Int)) + (andI .u64 x (6148914691236517205 : Int)))) (3689348814741910323 : Int)))))) (1085102592571150095 : Int)) + (((andI .u64 (IntKind.u64.wrap ((((IntKind.u64.wrap ((andI .u64 (((IntKind.u64.wrap ((andI .u64 ((x).fdiv (2 ^ 1)) (6148914691236517205 : Int)) + (andI .u64 x (6148914691236517205 : Int))))).fdiv (2 ^ 2)) (3689348814741910323 : Int)) + (andI .u64 (IntKind.u64.wrap ((andI .u64 ((x).fdiv (2 ^ 1)) (6148914691236517205 : Int)) + (andI .u64 x (6148914691236517205 : Int)))) (3689348814741910323 : Int))))).fdiv (2 ^ 4)) + (IntKind.u64.wrap ((andI .u64 (((IntKind.u64.wrap ((andI .u64 ((x).fdiv (2 ^ 1)) (6148914691236517205 : Int)) + (andI .u64 x (6148914691236517205 : Int))))).fdiv (2 ^ 2)) (3689348814741910323 : Int)) + (andI .u64 (IntKind.u64.wrap ((andI .u64 ((x).fdiv (2 ^ 1)) (6148914691236517205 : Int)) + (andI .u64 x (6148914691236517205 : Int)))) (3689348814741910323 : Int)))))) (1085102592571150095 : Int))).fdiv (2 ^ 8)))) + (((IntKind.u64.wrap ((andI .u64 (IntKind.u64.wrap ((((IntKind.u64.wrap ((andI .u64 (((IntKind.u64.wrap ((andI .u64 ((x).fdiv (2 ^ 1)) (6148914691236517205 : Int)) + (andI .u64 x (6148914691236517205 : Int))))).fdiv (2 ^ 2)) (3689348814741910323 : Int)) + (andI .u64 (IntKind.u64.wrap ((andI .u64 ((x).fdiv (2 ^ 1)) (6148914691236517205 : Int)) + (andI .u64 x (6148914691236517205 : Int)))) (3689348814741910323 : Int))))).fdiv (2 ^ 4)) + (IntKind.u64.wrap ((andI .u64 (((IntKind.u64.wrap ((andI .u64 ((x).fdiv (2 ^ 1)) (6148914691236517205 : Int)) + (andI .u64 x (6148914691236517205 : Int))))).fdiv (2 ^ 2)) (3689348814741910323 : Int)) + (andI .u64 (IntKind.u64.wrap ((andI .u64 ((x).fdiv (2 ^ 1)) (6148914691236517205 : Int)) + (andI .u64 x (6148914691236517205 : Int)))) (3689348814741910323 : Int)))))) (1085102592571150095 : Int)) + (((andI .u64 (IntKind.u64.wrap ((((IntKind.u64.wrap ((andI .u64 (((IntKind.u64.wrap ((andI .u64 ((x).fdiv (2 ^ 1)) (6148914691236517205 : Int)) + (andI .u64 x (6148914691236517205 : Int))))).fdiv (2 ^ 2)) (3689348814741910323 : Int)) + (andI .u64 (IntKind.u64.wrap ((andI .u64 ((x).fdiv (2 ^ 1)) (6148914691236517205 : Int)) + (andI .u64 x (6148914691236517205 : Int)))) (3689348814741910323 : Int))))).fdiv (2 ^ 4)) + (IntKind.u64.wrap ((andI .u64 (((IntKind.u64.wrap ((andI .u64 ((x).fdiv (2 ^ 1)) (6148914691236517205 : Int)) + (andI .u64 x (6148914691236517205 : Int))))).fdiv (2 ^ 2)) (3689348814741910323 : Int)) + (andI .u64 (IntKind.u64.wrap ((andI .u64 ((x).fdiv (2 ^ 1)) (6148914691236517205 : Int)) + (andI .u64 x (6148914691236517205 : Int)))) (3689348814741910323 : Int)))))) (1085102592571150095 : Int))).fdiv (2 ^ 8))))).fdiv (2 ^ 16))))).fdiv (2 ^ 32))))) _ (op_add rfl rfl) rfl ?_
  refine WL.val (Value.int .u64 (IntKind.u64.wrap ((IntKind.u64.wrap ((IntKind.u64.wrap ((andI .u64 (IntKind.u64.wrap ((((IntKind.u64.wrap ((andI .u64 (((IntKind.u64.wrap ((andI .u64 ((x).fdiv (2 ^ 1)) (6148914691236517205 : Int)) + (andI .u64 x (6148914691236517205 : Int))))).fdiv (2 ^ 2)) (3689348814741910323 : Int)) + (andI .u64 (IntKind.u64.wrap ((andI .u64 ((x).fdiv (2 ^ 1)) (6148914691236517205 : Int)) + (andI .u64 x (6148914691236517205 : Int)))) (3689348814741910323 : Int))))).fdiv (2 ^ 4)) + (IntKind.u64.wrap ((andI .u64 (((IntKind.u64.wrap ((andI .u64 ((x).fdiv (2 ^ 1)) (6148914691236517205 : Int)) + (andI .u64 x (6148914691236517205 : Int))))).fdiv (2 ^ 2)) (3689348814741910323 : Int)) + (andI .u64 (IntKind.u64.wrap ((andI .u64 ((x).fdiv (2 ^ 1)) (6148914691236517205 : Int)) + (andI .u64 x (6148914691236517205 : Int)))) (3689348814741910323 : Int)))))) (1085102592571150095 : Int)) + (((andI .u64 (IntKind.u64.wrap ((((IntKind.u64.wrap ((andI .u64 (((IntKind.u64.wrap ((andI .u64 ((x).fdiv (2 ^ 1)) (6148914691236517205 : Int)) + (andI .u64 x (6148914691236517205 : Int))))).fdiv (2 ^ 2)) (3689348814741910323 : Int)) + (andI .u64 (IntKind.u64.wrap ((andI .u64 ((x).fdiv (2 ^ 1)) (6148914691236517205 : Int)) + (andI .u64 x (6148914691236517205 : Int)))) (3689348814741910323 : Int))))).fdiv (2 ^ 4)) + (IntKind.u64.wrap ((andI .u64 (((IntKind.u64.wrap ((andI .u64 ((x).fdiv (2 ^ 1)) (6148914691236517205 : Int)) + (andI .u64 x (6148914691236517205 : Int))))).fdiv (2 ^ 2)) (3689348814741910323 : Int)) + (andI .u64 (IntKind.u64.wrap ((andI .u64 ((x).fdiv (2 ^ 1)) (6148914691236517205 : Int)) + (andI .u64 x (6148914691236517205 : Int)))) (3689348814741910323 : Int)))))) (1085102592571150095 : Int))).fdiv (2 ^ 8)))) + (((IntKind.u64.wrap ((andI .u64 (IntKind.u64.wrap ((((IntKind.u64.wrap ((andI .u64 (((IntKind.u64.wrap ((andI .u64 ((x).fdiv (2 ^ 1)) (6148914691236517205 : Int)) + (andI .u64 x (6148914691236517205 : Int))))).fdiv (2 ^ 2)) (3689348814741910323 : Int)) + (andI .u64 (IntKind.u64.wrap ((andI .u64 ((x).fdiv (2 ^ 1)) (6148914691236517205 : Int)) + (andI .u64 x (6148914691236517205 : Int)))) (3689348814741910323 : Int))))).fdiv (2 ^ 4)) + (IntKind.u64.wrap ((andI .u64 (((IntKind.u64.wrap ((andI .u64 ((x).fdiv (2 ^ 1)) (6148914691236517205 : Int)) + (andI .u64 x (6148914691236517205 : Int))))).fdiv (2 ^ 2)) (3689348814741910323 : Int)) + (andI .u64 (IntKind.u64.wrap ((andI .u64 ((x).fdiv (2 ^ 1)) (6148914691236517205 : Int)) + (andI .u64 x (6148914691236517205 : Int)))) (3689348814741910323 : Int)))))) (1085102592571150095 : Int)) + (((andI .u64 (IntKind.u64.wrap ((((IntKind.u64.wrap ((andI .u64 (((IntKind.u64.wrap ((andI .u64 ((x).fdiv (2 ^ 1)) (6148914691236517205 : Int)) + (andI .u64 x (6148914691236517205 : Int))))).fdiv (2 ^ 2)) (3689348814741910323 : Int)) + (andI .u64 (IntKind.u64.wrap ((andI .u64 ((x).fdiv (2 ^ 1)) (6148914691236517205 : Int)) + (andI .u64 x (6148914691236517205 : Int)))) (3689348814741910323 : Int))))).fdiv (2 ^ 4)) + (IntKind.u64.wrap ((andI .u64 (((IntKind.u64.wrap ((andI .u64 ((x).fdiv (2 ^ 1)) (6148914691236517205 : Int)) + (andI .u64 x (6148914691236517205 : Int))))).fdiv (2 ^ 2)) (3689348814741910323 : Int)) + (andI .u64 (IntKind.u64.wrap ((andI .u64 ((x).fdiv (2 ^ 1)) (6148914691236517205 : Int)) + (andI .u64 x (6148914691236517205 : Int)))) (3689348814741910323 : Int)))))) (1085102592571150095 : Int))).fdiv (2 ^ 8))))).fdiv (2 ^ 16)))) + (((IntKind.u64.wrap ((IntKind.u64.wrap ((andI .u64 (IntKind.u64.wrap ((((IntKind.u64.wrap ((andI .u64 (((IntKind.u64.wrap ((andI .u64 ((x).fdiv (2 ^ 1)) (6148914691236517205 : Int)) + (andI .u64 x (6148914691236517205 : Int))))).fdiv (2 ^ 2)) (3689348814741910323 : Int)) + (andI .u64 (IntKind.u64.wrap ((andI .u64 ((x).fdiv (2 ^ 1)) (6148914691236517205 : Int)) + (andI .u64 x (6148914691236517205 : Int)))) (3689348814741910323 : Int))))).fdiv (2 ^ 4)) + (IntKind.u64.wrap ((andI .u64 (((IntKind.u64.wrap ((andI .u64 ((x).fdiv (2 ^ 1)) (6148914691236517205 : Int)) + (andI .u64 x (6148914691236517205 : Int))))).fdiv (2 ^ 2)) (3689348814741910323 : Int)) + (andI .u64 (IntKind.u64.wrap ((andI .u64 ((x).fdiv (2 ^ 1)) (6148914691236517205 : Int)) + (andI .u64 x (6148914691236517205 : Int)))) (3689348814741910323 : Int)))))) (1085102592571150095 : Int)) + (((andI .u64 (IntKind.u64.wrap ((((IntKind.u64.wrap ((andI .u64 (((IntKind.u64.wrap ((andI .u64 ((x).fdiv (2 ^ 1)) (6148914691236517205 : Int)) + (andI .u64 x (6148914691236517205 : Int))))).fdiv (2 ^ 2)) (3689348814741910323 : Int)) + (andI .u64 (IntKind.u64.wrap ((andI .u64 ((x).fdiv (2 ^ 1)) (6148914691236517205 : Int)) + (andI .u64 x (6148914691236517205 : Int)))) (3689348814741910323 : Int))))).fdiv (2 ^ 4)) + (IntKind.u64.wrap ((andI .u64 (((IntKind.u64.wrap ((andI .u64 ((x).fdiv (2 ^ 1)) (6148914691236517205 : Int)) + (andI .u64 x (6148914691236517205 : Int))))).fdiv (2 ^ 2)) (3689348814741910323 : Int)) + (andI .u64 (IntKind.u64.wrap ((andI .u64 ((x).fdiv (2 ^ 1)) (6148914691236517205 : Int)) + (andI .u64 x (6148914691236517205 : Int)))) (3689348814741910323 : Int)))))) (1085102592571150095 : Int))).fdiv (2 ^ 8)))) + (((IntKind.u64.wrap ((andI .u64 (IntKind.u64.wrap ((((IntKind.u64.wrap ((andI .u64 (((IntKind.u64.wrap ((andI .u64 ((x).fdiv (2 ^ 1)) (6148914691236517205 : Int)) + (andI .u64 x (6148914691236517205 : Int))))).fdiv (2 ^ 2)) (3689348814741910323 : Int)) + (andI .u64 (IntKind.u64.wrap ((andI .u64 ((x).fdiv (2 ^ 1)) (6148914691236517205 : Int)) + (andI .u64 x (6148914691236517205 : Int)))) (3689348814741910323 : Int))))).fdiv (2 ^ 4)) + (IntKind.u64.wrap ((andI .u64 (((IntKind.u64.wrap ((andI .u64 ((x).fdiv (2 ^ 1)) (6148914691236517205 : Int)) + (andI .u64 x (6148914691236517205 : Int))))).fdiv (2 ^ 2)) (3689348814741910323 : Int)) + (andI .u64 (IntKind.u64.wrap ((andI .u64 ((x).fdiv (2 ^ 1)) (6148914691236517205 : Int)) + (andI .u64 x (6148914691236517205 : Int)))) (3689348814741910323 : Int)))))) (1085102592571150095 : Int)) + (((andI .u64 (IntKind.u64.wrap ((((IntKind.u64.wrap ((andI .u64 (((IntKind.u64.wrap ((andI .u64 ((x).fdiv (2 ^ 1)) (6148914691236517205 : Int)) + (andI .u64 x (6148914691236517205 : Int))))).fdiv (2 ^ 2)) (3689348814741910323 : Int)) + (andI .u64 (IntKind.u64.wrap ((andI .u64 ((x).fdiv (2 ^ 1)) (6148914691236517205 : Int)) + (andI .u64 x (6148914691236517205 : Int)))) (3689348814741910323 : Int))))).fdiv (2 ^ 4)) + (IntKind.u64.wrap ((andI .u64 (((IntKind.u64.wrap ((andI .u64 ((x).fdiv (2 ^ 1)) (6148914691236517205 : Int)) + (andI .u64 x (6148914691236517205 : Int))))).fdiv (2 ^ 2)) (3689348814741910323 : Int)) + (andI .u64 (IntKind.u64.wrap ((andI .u64 ((x).fdiv (2 ^ 1)) (6148914691236517205 : Int)) + (andI .u64 x (6148914691236517205 : Int)))) (3689348814741910323 : Int)))))) (1085102592571150095 : Int))).fdiv (2 ^ 8))))).fdiv (2 ^ 16))))).fdiv (2 ^ 32))))) _ (op_assign rfl) rfl ?_
  refine WL.nil ?_
  refine W.seq (W.region ?_)
  refine WL.val (Value.int .u64 (IntKind.u64.wrap ((IntKind.u64.wrap ((IntKind.u64.wrap ((andI .u64 (IntKind.u64.wrap ((((IntKind.u64.wrap ((andI .u64 (((IntKind.u64.wrap ((andI .u64 ((x).fdiv (2 ^ 1)) (6148914691236517205 : Int)) + (andI .u64 x (6148914691236517205 : Int))))).fdiv (2 ^ 2)) (3689348814741910323 : Int)) + (andI .u64 (IntKind.u64.wrap ((andI .u64 ((x).fdiv (2 ^ 1)) (6148914691236517205 : Int)) + (andI .u64 x (6148914691236517205 : Int)))) (3689348814741910323 : Int))))).fdiv (2 ^ 4)) + (IntKind.u64.wrap ((andI .u64 (((IntKind.u64.wrap ((andI .u64 ((x).fdiv (2 ^ 1)) (6148914691236517205 : Int)) + (andI .u64 x (6148914691236517205 : Int))))).fdiv (2 ^ 2)) (3689348814741910323 : Int)) + (andI .u64 (IntKind.u64.wrap ((andI .u64 ((x).fdiv (2 ^ 1)) (6148914691236517205 : Int)) + (andI .u64 x (6148914691236517205 : Int)))) (3689348814741910323 : Int)))))) (1085102592571150095 : Int)) + (((andI .u64 (IntKind.u64.wrap ((((IntKind.u64.wrap ((andI .u64 (((IntKind.u64.wrap ((andI .u64 ((x).fdiv (2 ^ 1)) (6148914691236517205 : Int)) + (andI .u64 x (6148914691236517205 : Int))))).fdiv (2 ^ 2)) (3689348814741910323 : Int)) + (andI .u64 (IntKind.u64.wrap ((andI .u64 ((x).fdiv (2 ^ 1)) (6148914691236517205 : Int)) + (andI .u64 x (6148914691236517205 : Int)))) (3689348814741910323 : Int))))).fdiv (2 ^ 4)) + (IntKind.u64.wrap ((andI .u64 (((IntKind.u64.wrap ((andI .u64 ((x).fdiv (2 ^ 1)) (6148914691236517205 : Int)) + (andI .u64 x (6148914691236517205 : Int))))).fdiv (2 ^ 2)) (3689348814741910323 : Int)) + (andI .u64 (IntKind.u64.wrap ((andI .u64 ((x).fdiv (2 ^ 1)) (6148914691236517205 : Int)) + (andI .u64 x (6148914691236517205 : Int)))) (3689348814741910323 : Int)))))) (1085102592571150095 : Int))).fdiv (2 ^ 8)))) + (((IntKind.u64.wrap ((andI .u64 (IntKind.u64.wrap ((((IntKind.u64.wrap ((andI .u64 (((IntKind.u64.wrap ((andI .u64 ((x).fdiv (2 ^ 1)) (6148914691236517205 : Int)) + (andI .u64 x (6148914691236517205 : Int))))).fdiv (2 ^ 2)) (3689348814741910323 : Int)) + (andI .u64 (IntKind.u64.wrap ((andI .u64 ((x).fdiv (2 ^ 1)) (6148914691236517205 : Int)) + (andI .u64 x (6148914691236517205 : Int)))) (3689348814741910323 : Int))))).fdiv (2 ^ 4)) + (IntKind.u64.wrap ((andI .u64 (((IntKind.u64.wrap ((andI .u64 ((x).fdiv (2 ^ 1)) (6148914691236517205 : Int)) + (andI .u64 x (6148914691236517205 : Int))))).fdiv (2 ^ 2)) (3689348814741910323 : Int)) + (andI .u64 (IntKind.u64.wrap ((andI .u64 ((x).fdiv (2 ^ 1)) (6148914691236517205 : Int)) + (andI .u64 x (6148914691236517205 : Int)))) (3689348814741910323 : Int)))))) (1085102592571150095 : Int)) + (((andI .u64 (IntKind.u64.wrap ((((IntKind.u64.wrap ((andI .u64 (((IntKind.u64.wrap ((andI .u64 ((x).fdiv (2 ^ 1)) (6148914691236517205 : Int)) + (andI .u64 x (6148914691236517205 : Int))))).fdiv (2 ^ 2)) (3689348814741910323 : Int)) + (andI .u64 (IntKind.u64.wrap ((andI .u64 ((x).fdiv (2 ^ 1)) (6148914691236517205 : Int)) + (andI .u64 x (6148914691236517205 : Int)))) (3689348814741910323 : Int))))).fdiv (2 ^ 4)) + (IntKind.u64.wrap ((andI .u64 (((IntKind.u64.wrap ((andI .u64 ((x).fdiv (2 ^ 1)) (6148914691236517205 : Int)) + (andI .u64 x (6148914691236517205 : Int))))).fdiv (2 ^ 2)) (3689348814741910323 : Int)) + (andI .u64 (IntKind.u64.wrap ((andI .u64 ((x).fdiv (2 ^ 1)) (6148914691236517205 : Int)) + (andI .u64 x (6148914691236517205 : Int)))) (3689348814741910323 : Int)))))) (1085102592571150095 : Int))).fdiv (2 ^ 8))))).fdiv (2 ^ 16)))) + (((IntKind.u64.wrap ((IntKind.u64.wrap ((andI .u64 (IntKind.u64.wrap ((((IntKind.u64.wrap ((andI .u64 (((IntKind.u64.wrap ((andI .u64 ((x).fdiv (2 ^ 1)) (6148914691236517205 : Int)) + (andI .u64 x (6148914691236517205 : Int))))).fdiv (2 ^ 2)) (3689348814741910323 : Int)) + (andI .u64 (IntKind.u64.wrap ((andI .u64 ((x).fdiv (2 ^ 1)) (6148914691236517205 : Int)) + (andI .u64 x (6148914691236517205 : Int)))) (3689348814741910323 : Int))))).fdiv (2 ^ 4)) + (IntKind.u64.wrap ((andI .u64 (((IntKind.u64.wrap ((andI .u64 ((x).fdiv (2 ^ 1)) (6148914691236517205 : Int)) + (andI .u64 x (6148914691236517205 : Int))))).fdiv (2 ^ 2)) (3689348814741910323 : Int)) + (andI .u64 (IntKind.u64.wrap ((andI .u64 ((x).fdiv (2 ^ 1)) (6148914691236517205 : Int)) + (andI .u64 x (6148914691236517205 : Int)))) (3689348814741910323 : Int)))))) (1085102592571150095 : Int)) + (((andI .u64 (IntKind.u64.wrap ((((IntKind.u64.wrap ((andI .u64 (((IntKind.u64.wrap ((andI .u64 ((x).fdiv (2 ^ 1)) (6148914691236517205 : Int)) + (andI .u64 x (6148914691236517205 : Int))))).fdiv (2 ^ 2)) (3689348814741910323 : Int)) + (andI .u64 (IntKind.u64.wrap ((andI .u64 ((x).fdiv (2 ^ 1)) (6148914691236517205 : Int)) + (andI .u64 x (6148914691236517205 : Int)))) (3689348814741910323 : Int))))).fdiv (2 ^ 4)) + (IntKind.u64.wrap ((andI .u64 (((IntKind.u64.wrap ((andI .u64 ((x).fdiv (2 ^ 1)) (6148914691236517205 : Int)) + (andI .u64 x (6148914691236517205 : Int))))).fdiv (2 ^ 2)) (3689348814741910323 : Int)) + (andI .u64 (IntKind.u64.wrap ((andI .u64 ((x).fdiv (2 ^ 1)) (6148914691236517205 : Int)) + (andI .u64 x (6148914691236517205 : Int)))) (3689348814741910323 : Int)))))) (1085102592571150095 : Int))).fdiv (2 ^ 8)))) + (((IntKind.u64.wrap ((andI .u64 (IntKind.u64.wrap ((((IntKind.u64.wrap ((andI .u64 (((IntKind.u64.wrap ((andI .u64 ((x).fdiv (2 ^ 1)) (6148914691236517205 : Int)) + (andI .u64 x (6148914691236517205 : Int))))).fdiv (2 ^ 2)) (3689348814741910323 : Int)) + (andI .u64 (IntKind.u64.wrap ((andI .u64 ((x).fdiv (2 ^ 1)) (6148914691236517205 : Int)) + (andI .u64 x (6148914691236517205 : Int)))) (3689348814741910323 : Int))))).fdiv (2 ^ 4)) + (IntKind.u64.wrap ((andI .u64 (((IntKind.u64.wrap ((andI .u64 ((x).fdiv (2 ^ 1)) (6148914691236517205 : Int)) + (andI .u64 x (6148914691236517205 : Int))))).fdiv (2 ^ 2)) (3689348814741910323 : Int)) + (andI .u64 (IntKind.u64.wrap ((andI .u64 ((x).fdiv (2 ^ 1)) (6148914691236517205 : Int)) + (andI .u64 x (6148914691236517205 : Int)))) (3689348814741910323 : Int)))))) (1085102592571150095 : Int)) + (((andI .u64 (IntKind.u64.wrap ((((IntKind.u64.wrap ((andI .u64 (((IntKind.u64.wrap ((andI .u64 ((x).fdiv (2 ^ 1)) (6148914691236517205 : Int)) + (andI .u64 x (6148914691236517205 : Int))))).fdiv (2 ^ 2)) (3689348814741910323 : Int)) + (andI .u64 (IntKind.u64.wrap ((andI .u64 ((x).fdiv (2 ^ 1)) (6148914691236517205 : Int)) + (andI .u64 x (6148914691236517205 : Int)))) (3689348814741910323 : Int))))).fdiv (2 ^ 4)) + (IntKind.u64.wrap ((andI .u64 (((IntKind.u64.wrap ((andI .u64 ((x).fdiv (2 ^ 1)) (6148914691236517205 : Int)) + (andI .u64 x (6148914691236517205 : Int))))).fdiv (2 ^ 2)) (3689348814741910323 : Int)) + (andI .u64 (IntKind.u64.wrap ((andI .u64 ((x).fdiv (2 ^ 1)) (6148914691236517205 : Int)) + (andI .u64 x (6148914691236517205 : Int)))) (3689348814741910323 : Int)))))) (1085102592571150095 : Int))).fdiv (2 ^ 8))))).fdiv (2 ^ 16))))).fdiv (2 ^ 32))))) _ (op_move rfl) rfl ?_
  refine WL.val (Value.int .i64 (w64 (IntKind.u64.wrap ((IntKind.u64.wrap ((IntKind.u64.wrap ((andI .u64 (IntKind.u64.wrap ((((IntKind.u64.wrap ((andI .u64 (((IntKind.u64.wrap ((andI .u64 ((x).fdiv (2 ^ 1)) (6148914691236517205 : Int)) + (andI .u64 x (6148914691236517205 : Int))))).fdiv (2 ^ 2)) (3689348814741910323 : Int)) + (andI .u64 (IntKind.u64.wrap ((andI .u64 ((x).fdiv (2 ^ 1)) (6148914691236517205 : Int)) + (andI .u64 x (6148914691236517205 : Int)))) (3689348814741910323 : Int))))).fdiv (2 ^ 4)) + (IntKind.u64.wrap ((andI .u64 (((IntKind.u64.wrap ((andI .u64 ((x).fdiv (2 ^ 1)) (6148914691236517205 : Int)) + (andI .u64 x (6148914691236517205 : Int))))).fdiv (2 ^ 2)) (3689348814741910323 : Int)) + (andI .u64 (IntKind.u64.wrap ((andI .u64 ((x).fdiv (2 ^ 1)) (6148914691236517205 : Int)) + (andI .u64 x (6148914691236517205 : Int)))) (3689348814741910323 : Int)))))) (1085102592571150095 : Int)) + (((andI .u64 (IntKind.u64.wrap ((((IntKind.u64.wrap ((andI .u64 (((IntKind.u64.wrap ((andI .u64 ((x).fdiv (2 ^ 1)) (6148914691236517205 : Int)) + (andI .u64 x (6148914691236517205 : Int))))).fdiv (2 ^ 2)) (3689348814741910323 : Int)) + (andI .u64 (IntKind.u64.wrap ((andI .u64 ((x).fdiv (2 ^ 1)) (6148914691236517205 : Int)) + (andI .u64 x (6148914691236517205 : Int)))) (3689348814741910323 : Int))))).fdiv (2 ^ 4)) + (IntKind.u64.wrap ((andI .u64 (((IntKind.u64.wrap ((andI .u64 ((x).fdiv (2 ^ 1)) (6148914691236517205 : Int)) + (andI .u64 x (6148914691236517205 : Int))))).fdiv (2 ^ 2)) (3689348814741910323 : Int)) + (andI .u64 (IntKind.u64.wrap ((andI .u64 ((x).fdiv (2 ^ 1)) (6148914691236517205 : Int)) + (andI .u64 x (6148914691236517205 : Int)))) (3689348814741910323 : Int)))))) (1085102592571150095 : Int))).fdiv (2 ^ 8)))) + (((IntKind.u64.wrap ((andI .u64 (IntKind.u64.wrap ((((IntKind.u64.wrap ((andI .u64 (((IntKind.u64.wrap ((andI .u64 ((x).fdiv (2 ^ 1)) (6148914691236517205 : Int)) + (andI .u64 x (6148914691236517205 : Int))))).fdiv (2 ^ 2)) (3689348814741910323 : Int)) + (andI .u64 (IntKind.u64.wrap ((andI .u64 ((x).fdiv (2 ^ 1)) (6148914691236517205 : Int)) + (andI .u64 x (6148914691236517205 : Int)))) (3689348814741910323 : Int))))).fdiv (2 ^ 4)) + (IntKind.u64.wrap ((andI .u64 (((IntKind.u64.wrap ((andI .u64 ((x).fdiv (2 ^ 1)) (6148914691236517205 : Int)) + (andI .u64 x (6148914691236517205 : Int))))).fdiv (2 ^ 2)) (3689348814741910323 : Int)) + (andI .u64 (IntKind.u64.wrap ((andI .u64 ((x).fdiv (2 ^ 1)) (6148914691236517205 : Int)) + (andI .u64 x (6148914691236517205 : Int)))) (3689348814741910323 : Int)))))) (1085102592571150095 : Int)) + (((andI .u64 (IntKind.u64.wrap ((((IntKind.u64.wrap ((andI .u64 (((IntKind.u64.wrap ((andI .u64 ((x).fdiv (2 ^ 1)) (6148914691236517205 : Int)) + (andI .u64 x (6148914691236517205 : Int))))).fdiv (2 ^ 2)) (3689348814741910323 : Int)) + (andI .u64 (IntKind.u64.wrap ((andI .u64 ((x).fdiv (2 ^ 1)) (6148914691236517205 : Int)) + (andI .u64 x (6148914691236517205 : Int)))) (3689348814741910323 : Int))))).fdiv (2 ^ 4)) + (IntKind.u64.wrap ((andI .u64 (((IntKind.u64.wrap ((andI .u64 ((x).fdiv (2 ^ 1)) (6148914691236517205 : Int)) + (andI .u64 x (6148914691236517205 : Int))))).fdiv (2 ^ 2)) (3689348814741910323 : Int)) + (andI .u64 (IntKind.u64.wrap ((andI .u64 ((x).fdiv (2 ^ 1)) (6148914691236517205 : Int)) + (andI .u64 x (6148914691236517205 : Int)))) (3689348814741910323 : Int)))))) (1085102592571150095 : Int))).fdiv (2 ^ 8))))).fdiv (2 ^ 16)))) + (((IntKind.u64.wrap ((IntKind.u64.wrap ((andI .u64 (IntKind.u64.wrap ((((IntKind.u64.wrap ((andI .u64 (((IntKind.u64.wrap ((andI .u64 ((x).fdiv (2 ^ 1)) (6148914691236517205 : Int)) + (andI .u64 x (6148914691236517205 : Int))))).fdiv (2 ^ 2)) (3689348814741910323 : Int)) + (andI .u64 (IntKind.u64.wrap ((andI .u64 ((x).fdiv (2 ^ 1)) (6148914691236517205 : Int)) + (andI .u64 x (6148914691236517205 : Int)))) (3689348814741910323 : Int))))).fdiv (2 ^ 4)) + (IntKind.u64.wrap ((andI .u64 (((IntKind.u64.wrap ((andI .u64 ((x).fdiv (2 ^ 1)) (6148914691236517205 : Int)) + (andI .u64 x (6148914691236517205 : Int))))).fdiv (2 ^ 2)) (3689348814741910323 : Int)) + (andI .u64 (IntKind.u64.wrap ((andI .u64 ((x).fdiv (2 ^ 1)) (6148914691236517205 : Int)) + (andI .u64 x (6148914691236517205 : Int)))) (3689348814741910323 : Int)))))) (1085102592571150095 : Int)) + (((andI .u64 (IntKind.u64.wrap ((((IntKind.u64.wrap ((andI .u64 (((IntKind.u64.wrap ((andI .u64 ((x).fdiv (2 ^ 1)) (6148914691236517205 : Int)) + (andI .u64 x (6148914691236517205 : Int))))).fdiv (2 ^ 2)) (3689348814741910323 : Int)) + (andI .u64 (IntKind.u64.wrap ((andI .u64 ((x).fdiv (2 ^ 1)) (6148914691236517205 : Int)) + (andI .u64 x (6148914691236517205 : Int)))) (3689348814741910323 : Int))))).fdiv (2 ^ 4)) + (IntKind.u64.wrap ((andI .u64 (((IntKind.u64.wrap ((andI .u64 ((x).fdiv (2 ^ 1)) (6148914691236517205 : Int)) + (andI .u64 x (6148914691236517205 : Int))))).fdiv (2 ^ 2)) (3689348814741910323 : Int)) + (andI .u64 (IntKind.u64.wrap ((andI .u64 ((x).fdiv (2 ^ 1)) (6148914691236517205 : Int)) + (andI .u64 x (6148914691236517205 : Int)))) (3689348814741910323 : Int)))))) (1085102592571150095 : Int))).fdiv (2 ^ 8)))) + (((IntKind.u64.wrap ((andI .u64 (IntKind.u64.wrap ((((IntKind.u64.wrap ((andI .u64 (((IntKind.u64.wrap ((andI .u64 ((x).fdiv (2 ^ 1)) (6148914691236517205 : Int)) + (andI .u64 x (6148914691236517205 : Int))))).fdiv (2 ^ 2)) (3689348814741910323 : Int)) + (andI .u64 (IntKind.u64.wrap ((andI .u64 ((x).fdiv (2 ^ 1)) (6148914691236517205 : Int)) + (andI .u64 x (6148914691236517205 : Int)))) (3689348814741910323 : Int))))).fdiv (2 ^ 4)) + (IntKind.u64.wrap ((andI .u64 (((IntKind.u64.wrap ((andI .u64 ((x).fdiv (2 ^ 1)) (6148914691236517205 : Int)) + (andI .u64 x (6148914691236517205 : Int))))).fdiv (2 ^ 2)) (3689348814741910323 : Int)) + (andI .u64 (IntKind.u64.wrap ((andI .u64 ((x).fdiv (2 ^ 1)) (6148914691236517205 : Int)) + (andI .u64 x (6148914691236517205 : Int)))) (3689348814741910323 : Int)))))) (1085102592571150095 : Int)) + (((andI .u64 (IntKind.u64.wrap ((((IntKind.u64.wrap ((andI .u64 (((IntKind.u64.wrap ((andI .u64 ((x).fdiv (2 ^ 1)) (6148914691236517205 : Int)) + (andI .u64 x (6148914691236517205 : Int))))).fdiv (2 ^ 2)) (3689348814741910323 : Int)) + (andI .u64 (IntKind.u64.wrap ((andI .u64 ((x).fdiv (2 ^ 1)) (6148914691236517205 : Int)) + (andI .u64 x (6148914691236517205 : Int)))) (3689348814741910323 : Int))))).fdiv (2 ^ 4)) + (IntKind.u64.wrap ((andI .u64 (((IntKind.u64.wrap ((andI .u64 ((x).fdiv (2 ^ 1)) (6148914691236517205 : Int)) + (andI .u64 x (6148914691236517205 : Int))))).fdiv (2 ^ 2)) (3689348814741910323 : Int)) + (andI .u64 (IntKind.u64.wrap ((andI .u64 ((x).fdiv (2 ^ 1)) (6148914691236517205 : Int)) + (andI .u64 x (6148914691236517205 : Int)))) (3689348814741910323 : Int)))))) (1085102592571150095 : Int))).fdiv (2 ^ 8))))).fdiv (2 ^ 16))))).fdiv (2 ^ 32)))))) _ (op_convert rfl it_69 it_3) rfl ?_
  refine WL.val (Value.int .i64 (andI .i64 (w64 (IntKind.u64.wrap ((IntKind.u64.wrap ((IntKind.u64.wrap ((andI .u64 (IntKind.u64.wrap ((((IntKind.u64.wrap ((andI .u64 (((IntKind.u64.wrap ((andI .u64 ((x).fdiv (2 ^ 1)) (6148914691236517205 : Int)) + (andI .u64 x (6148914691236517205 : Int))))).fdiv (2 ^ 2)) (3689348814741910323 : Int)) + (andI .u64 (IntKind.u64.wrap ((andI .u64 ((x).fdiv (2 ^ 1)) (6148914691236517205 : Int)) + (andI .u64 x (6148914691236517205 : Int)))) (3689348814741910323 : Int))))).fdiv (2 ^ 4)) + (IntKind.u64.wrap ((andI .u64 (((IntKind.u64.wrap ((andI .u64 ((x).fdiv (2 ^ 1)) (6148914691236517205 : Int)) + (andI .u64 x (6148914691236517205 : Int))))).fdiv (2 ^ 2)) (3689348814741910323 : Int)) + (andI .u64 (IntKind.u64.wrap ((andI .u64 ((x).fdiv (2 ^ 1)) (6148914691236517205 : Int)) + (andI .u64 x (6148914691236517205 : Int)))) (3689348814741910323 : Int)))))) (1085102592571150095 : Int)) + (((andI .u64 (IntKind.u64.wrap ((((IntKind.u64.wrap ((andI .u64 (((IntKind.u64.wrap ((andI .u64 ((x).fdiv (2 ^ 1)) (6148914691236517205 : Int)) + (andI .u64 x (6148914691236517205 : Int))))).fdiv (2 ^ 2)) (3689348814741910323 : Int)) + (andI .u64 (IntKind.u64.wrap ((andI .u64 ((x).fdiv (2 ^ 1)) (6148914691236517205 : Int)) + (andI .u64 x (6148914691236517205 : Int)))) (3689348814741910323 : Int))))).fdiv (2 ^ 4)) + (IntKind.u64.wrap ((andI .u64 (((IntKind.u64.wrap ((andI .u64 ((x).fdiv (2 ^ 1)) (6148914691236517205 : Int)) + (andI .u64 x (6148914691236517205 : Int))))).fdiv (2 ^ 2)) (3689348814741910323 : Int)) + (andI .u64 (IntKind.u64.wrap ((andI .u64 ((x).fdiv (2 ^ 1)) (6148914691236517205 : Int)) + (andI .u64 x (6148914691236517205 : Int)))) (3689348814741910323 : Int)))))) (1085102592571150095 : Int))).fdiv (2 ^ 8)))) + (((IntKind.u64.wrap ((andI .u64 (IntKind.u64.wrap ((((IntKind.u64.wrap ((andI .u64 (((IntKind.u64.wrap ((andI .u64 ((x).fdiv (2 ^ 1)) (6148914691236517205 : Int)) + (andI .u64 x (6148914691236517205 : Int))))).fdiv (2 ^ 2)) (3689348814741910323 : Int)) + (andI .u64 (IntKind.u64.wrap ((andI .u64 ((x).fdiv (2 ^ 1)) (6148914691236517205 : Int)) + (andI .u64 x (6148914691236517205 : Int)))) (3689348814741910323 : Int))))).fdiv (2 ^ 4)) + (IntKind.u64.wrap ((andI .u64 (((IntKind.u64.wrap ((andI .u64 ((x).fdiv (2 ^ 1)) (6148914691236517205 : Int)) + (andI .u64 x (6148914691236517205 : Int))))).fdiv (2 ^ 2)) (3689348814741910323 : Int)) + (andI .u64 (IntKind.u64.wrap ((andI .u64 ((x).fdiv (2 ^ 1)) (6148914691236517205 : Int)) + (andI .u64 x (6148914691236517205 : Int)))) (3689348814741910323 : Int)))))) (1085102592571150095 : Int)) + (((andI .u64 (IntKind.u64.wrap ((((IntKind.u64.wrap ((andI .u64 (((IntKind.u64.wrap ((andI .u64 ((x).fdiv (2 ^ 1)) (6148914691236517205 : Int)) + (andI .u64 x (6148914691236517205 : Int))))).fdiv (2 ^ 2)) (3689348814741910323 : Int)) + (andI .u64 (IntKind.u64.wrap ((andI .u64 ((x).fdiv (2 ^ 1)) (6148914691236517205 : Int)) + (andI .u64 x (6148914691236517205 : Int)))) (3689348814741910323 : Int))))).fdiv (2 ^ 4)) + (IntKind.u64.wrap ((andI .u64 (((IntKind.u64.wrap ((andI .u64 ((x).fdiv (2 ^ 1)) (6148914691236517205 : Int)) + (andI .u64 x (6148914691236517205 : Int))))).fdiv (2 ^ 2)) (3689348814741910323 : Int)) + (andI .u64 (IntKind.u64.wrap ((andI .u64 ((x).fdiv (2 ^ 1)) (6148914691236517205 : Int)) + (andI .u64 x (6148914691236517205 : Int)))) (3689348814741910323 : Int)))))) (1085102592571150095 : Int))).fdiv (2 ^ 8))))).fdiv (2 ^ 16)))) + (((IntKind.u64.wrap ((IntKind.u64.wrap ((andI .u64 (IntKind.u64.wrap ((((IntKind.u64.wrap ((andI .u64 (((IntKind.u64.wrap ((andI .u64 ((x).fdiv (2 ^ 1)) (6148914691236517205 : Int)) + (andI .u64 x (6148914691236517205 : Int))))).fdiv (2 ^ 2)) (3689348814741910323 : Int)) + (andI .u64 (IntKind.u64.wrap ((andI .u64 ((x).fdiv (2 ^ 1)) (6148914691236517205 : Int)) + (andI .u64 x (6148914691236517205 : Int)))) (3689348814741910323 : Int))))).fdiv (2 ^ 4)) + (IntKind.u64.wrap ((andI .u64 (((IntKind.u64.wrap ((andI .u64 ((x).fdiv (2 ^ 1)) (6148914691236517205 : Int)) + (andI .u64 x (6148914691236517205 : Int))))).fdiv (2 ^ 2)) (3689348814741910323 : Int)) + (andI .u64 (IntKind.u64.wrap ((andI .u64 ((x).fdiv (2 ^ 1)) (6148914691236517205 : Int)) + (andI .u64 x (6148914691236517205 : Int)))) (3689348814741910323 : Int)))))) (1085102592571150095 : Int)) + (((andI .u64 (IntKind.u64.wrap ((((IntKind.u64.wrap ((andI .u64 (((IntKind.u64.wrap ((andI .u64 ((x).fdiv (2 ^ 1)) (6148914691236517205 : Int)) + (andI .u64 x (6148914691236517205 : Int))))).fdiv (2 ^ 2)) (3689348814741910323 : Int)) + (andI .u64 (IntKind.u64.wrap ((andI .u64 ((x).fdiv (2 ^ 1)) (6148914691236517205 : Int)) + (andI .u64 x (6148914691236517205 : Int)))) (3689348814741910323 : Int))))).fdiv (2 ^ 4)) + (IntKind.u64.wrap ((andI .u64 (((IntKind.u64.wrap ((andI .u64 ((x).fdiv (2 ^ 1)) (6148914691236517205 : Int)) + (andI .u64 x (6148914691236517205 : Int))))).fdiv (2 ^ 2)) (3689348814741910323 : Int)) + (andI .u64 (IntKind.u64.wrap ((andI .u64 ((x).fdiv (2 ^ 1)) (6148914691236517205 : Int)) + (andI .u64 x (6148914691236517205 : Int)))) (3689348814741910323 : Int)))))) (1085102592571150095 : Int))).fdiv (2 ^ 8)))) + (((IntKind.u64.wrap ((andI .u64 (IntKind.u64.wrap ((((IntKind.u64.wrap ((andI .u64 (((IntKind.u64.wrap ((andI .u64 ((x).fdiv (2 ^ 1)) (6148914691236517205 : Int)) + (andI .u64 x (6148914691236517205 : Int))))).fdiv (2 ^ 2)) (3689348814741910323 : Int)) + (andI .u64 (IntKind.u64.wrap ((andI .u64 ((x).fdiv (2 ^ 1)) (6148914691236517205 : Int)) + (andI .u64 x (6148914691236517205 : Int)))) (3689348814741910323 : Int))))).fdiv (2 ^ 4)) + (IntKind.u64.wrap ((andI .u64 (((IntKind.u64.wrap ((andI .u64 ((x).fdiv (2 ^ 1)) (6148914691236517205 : Int)) + (andI .u64 x (6148914691236517205 : Int))))).fdiv (2 ^ 2)) (3689348814741910323 : Int)) + (andI .u64 (IntKind.u64.wrap ((andI .u64 ((x).fdiv (2 ^ 1)) (6148914691236517205 : Int)) + (andI .u64 x (6148914691236517205 : Int)))) (3689348814741910323 : Int)))))) (1085102592571150095 : Int)) + (((andI .u64 (IntKind.u64.wrap ((((IntKind.u64.wrap ((andI .u64 (((IntKind.u64.wrap ((andI .u64 ((x).fdiv (2 ^ 1)) (6148914691236517205 : Int)) + (andI .u64 x (6148914691236517205 : Int))))).fdiv (2 ^ 2)) (3689348814741910323 : Int)) + (andI .u64 (IntKind.u64.wrap ((andI .u64 ((x).fdiv (2 ^ 1)) (6148914691236517205 : Int)) + (andI .u64 x (6148914691236517205 : Int)))) (3689348814741910323 : Int))))).fdiv (2 ^ 4)) + (IntKind.u64.wrap ((andI .u64 (((IntKind.u64.wrap ((andI .u64 ((x).fdiv (2 ^ 1)) (6148914691236517205 : Int)) + (andI .u64 x (6148914691236517205 : Int))))).fdiv (2 ^ 2)) (3689348814741910323 : Int)) + (andI .u64 (IntKind.u64.wrap ((andI .u64 ((x).fdiv (2 ^ 1)) (6148914691236517205 : Int)) + (andI .u64 x (6148914691236517205 : Int)))) (3689348814741910323 : Int)))))) (1085102592571150095 : Int))).fdiv (2 ^ 8))))).fdiv (2 ^ 16))))).fdiv (2 ^ 32))))) (127 : Int))) _ (op_and rfl rfl) rfl ?_
  refine WL.val (Value.int .i64 (andI .i64 (w64 (IntKind.u64.wrap ((IntKind.u64.wrap ((IntKind.u64.wrap ((andI .u64 (IntKind.u64.wrap ((((IntKind.u64.wrap ((andI .u64 (((IntKind.u64.wrap ((andI .u64 ((x).fdiv (2 ^ 1)) (6148914691236517205 : Int)) + (andI .u64 x (6148914691236517205 : Int))))).fdiv (2 ^ 2)) (3689348814741910323 : Int)) + (andI .u64 (IntKind.u64.wrap ((andI .u64 ((x).fdiv (2 ^ 1)) (6148914691236517205 : Int)) + (andI .u64 x (6148914691236517205 : Int)))) (3689348814741910323 : Int))))).fdiv (2 ^ 4)) + (IntKind.u64.wrap ((andI .u64 (((IntKind.u64.wrap ((andI .u64 ((x).fdiv (2 ^ 1)) (6148914691236517205 : Int)) + (andI .u64 x (6148914691236517205 : Int))))).fdiv (2 ^ 2)) (3689348814741910323 : Int)) + (andI .u64 (IntKind.u64.wrap ((andI .u64 ((x).fdiv (2 ^ 1)) (6148914691236517205 : Int)) + (andI .u64 x (6148914691236517205 : Int)))) (3689348814741910323 : Int)))))) (1085102592571150095 : Int)) + (((andI .u64 (IntKind.u64.wrap ((((IntKind.u64.wrap ((andI .u64 (((IntKind.u64.wrap ((andI .u64 ((x).fdiv (2 ^ 1)) (6148914691236517205 : Int)) + (andI .u64 x (6148914691236517205 : Int))))).fdiv (2 ^ 2)) (3689348814741910323 : Int)) + (andI .u64 (IntKind.u64.wrap ((andI .u64 ((x).fdiv (2 ^ 1)) (6148914691236517205 : Int)) + (andI .u64 x (6148914691236517205 : Int)))) (3689348814741910323 : Int))))).fdiv (2 ^ 4)) + (IntKind.u64.wrap ((andI .u64 (((IntKind.u64.wrap ((andI .u64 ((x).fdiv (2 ^ 1)) (6148914691236517205 : Int)) + (andI .u64 x (6148914691236517205 : Int))))).fdiv (2 ^ 2)) (3689348814741910323 : Int)) + (andI .u64 (IntKind.u64.wrap ((andI .u64 ((x).fdiv (2 ^ 1)) (6148914691236517205 : Int)) + (andI .u64 x (6148914691236517205 : Int)))) (3689348814741910323 : Int)))))) (1085102592571150095 : Int))).fdiv (2 ^ 8)))) + (((IntKind.u64.wrap ((andI .u64 (IntKind.u64.wrap ((((IntKind.u64.wrap ((andI .u64 (((IntKind.u64.wrap ((andI .u64 ((x).fdiv (2 ^ 1)) (6148914691236517205 : Int)) + (andI .u64 x (6148914691236517205 : Int))))).fdiv (2 ^ 2)) (3689348814741910323 : Int)) + (andI .u64 (IntKind.u64.wrap ((andI .u64 ((x).fdiv (2 ^ 1)) (6148914691236517205 : Int)) + (andI .u64 x (6148914691236517205 : Int)))) (3689348814741910323 : Int))))).fdiv (2 ^ 4)) + (IntKind.u64.wrap ((andI .u64 (((IntKind.u64.wrap ((andI .u64 ((x).fdiv (2 ^ 1)) (6148914691236517205 : Int)) + (andI .u64 x (6148914691236517205 : Int))))).fdiv (2 ^ 2)) (3689348814741910323 : Int)) + (andI .u64 (IntKind.u64.wrap ((andI .u64 ((x).fdiv (2 ^ 1)) (6148914691236517205 : Int)) + (andI .u64 x (6148914691236517205 : Int)))) (3689348814741910323 : Int)))))) (1085102592571150095 : Int)) + (((andI .u64 (IntKind.u64.wrap ((((IntKind.u64.wrap ((andI .u64 (((IntKind.u64.wrap ((andI .u64 ((x).fdiv (2 ^ 1)) (6148914691236517205 : Int)) + (andI .u64 x (6148914691236517205 : Int))))).fdiv (2 ^ 2)) (3689348814741910323 : Int)) + (andI .u64 (IntKind.u64.wrap ((andI .u64 ((x).fdiv (2 ^ 1)) (6148914691236517205 : Int)) + (andI .u64 x (6148914691236517205 : Int)))) (3689348814741910323 : Int))))).fdiv (2 ^ 4)) + (IntKind.u64.wrap ((andI .u64 (((IntKind.u64.wrap ((andI .u64 ((x).fdiv (2 ^ 1)) (6148914691236517205 : Int)) + (andI .u64 x (6148914691236517205 : Int))))).fdiv (2 ^ 2)) (3689348814741910323 : Int)) + (andI .u64 (IntKind.u64.wrap ((andI .u64 ((x).fdiv (2 ^ 1)) (6148914691236517205 : Int)) + (andI .u64 x (6148914691236517205 : Int)))) (3689348814741910323 : Int)))))) (1085102592571150095 : Int))).fdiv (2 ^ 8))))).fdiv (2 ^ 16)))) + (((IntKind.u64.wrap ((IntKind.u64.wrap ((andI .u64 (IntKind.u64.wrap ((((IntKind.u64.wrap ((andI .u64 (((IntKind.u64.wrap ((andI .u64 ((x).fdiv (2 ^ 1)) (6148914691236517205 : Int)) + (andI .u64 x (6148914691236517205 : Int))))).fdiv (2 ^ 2)) (3689348814741910323 : Int)) + (andI .u64 (IntKind.u64.wrap ((andI .u64 ((x).fdiv (2 ^ 1)) (6148914691236517205 : Int)) + (andI .u64 x (6148914691236517205 : Int)))) (3689348814741910323 : Int))))).fdiv (2 ^ 4)) + (IntKind.u64.wrap ((andI .u64 (((IntKind.u64.wrap ((andI .u64 ((x).fdiv (2 ^ 1)) (6148914691236517205 : Int)) + (andI .u64 x (6148914691236517205 : Int))))).fdiv (2 ^ 2)) (3689348814741910323 : Int)) + (andI .u64 (IntKind.u64.wrap ((andI .u64 ((x).fdiv (2 ^ 1)) (6148914691236517205 : Int)) + (andI .u64 x (6148914691236517205 : Int)))) (3689348814741910323 : Int)))))) (1085102592571150095 : Int)) + (((andI .u64 (IntKind.u64.wrap ((((IntKind.u64.wrap ((andI .u64 (((IntKind.u64.wrap ((andI .u64 ((x).fdiv (2 ^ 1)) (6148914691236517205 : Int)) + (andI .u64 x (6148914691236517205 : Int))))).fdiv (2 ^ 2)) (3689348814741910323 : Int)) + (andI .u64 (IntKind.u64.wrap ((andI .u64 ((x).fdiv (2 ^ 1)) (6148914691236517205 : Int)) + (andI .u64 x (6148914691236517205 : Int)))) (3689348814741910323 : Int))))).fdiv (2 ^ 4)) + (IntKind.u64.wrap ((andI .u64 (((IntKind.u64.wrap ((andI .u64 ((x).fdiv (2 ^ 1)) (6148914691236517205 : Int)) + (andI .u64 x (6148914691236517205 : Int))))).fdiv (2 ^ 2)) (3689348814741910323 : Int)) + (andI .u64 (IntKind.u64.wrap ((andI .u64 ((x).fdiv (2 ^ 1)) (6148914691236517205 : Int)) + (andI .u64 x (6148914691236517205 : Int)))) (3689348814741910323 : Int)))))) (1085102592571150095 : Int))).fdiv (2 ^ 8)))) + (((IntKind.u64.wrap ((andI .u64 (IntKind.u64.wrap ((((IntKind.u64.wrap ((andI .u64 (((IntKind.u64.wrap ((andI .u64 ((x).fdiv (2 ^ 1)) (6148914691236517205 : Int)) + (andI .u64 x (6148914691236517205 : Int))))).fdiv (2 ^ 2)) (3689348814741910323 : Int)) + (andI .u64 (IntKind.u64.wrap ((andI .u64 ((x).fdiv (2 ^ 1)) (6148914691236517205 : Int)) + (andI .u64 x (6148914691236517205 : Int)))) (3689348814741910323 : Int))))).fdiv (2 ^ 4)) + (IntKind.u64.wrap ((andI .u64 (((IntKind.u64.wrap ((andI .u64 ((x).fdiv (2 ^ 1)) (6148914691236517205 : Int)) + (andI .u64 x (6148914691236517205 : Int))))).fdiv (2 ^ 2)) (3689348814741910323 : Int)) + (andI .u64 (IntKind.u64.wrap ((andI .u64 ((x).fdiv (2 ^ 1)) (6148914691236517205 : Int)) + (andI .u64 x (6148914691236517205 : Int)))) (3689348814741910323 : Int)))))) (1085102592571150095 : Int)) + (((andI .u64 (IntKind.u64.wrap ((((IntKind.u64.wrap ((andI .u64 (((IntKind.u64.wrap ((andI .u64 ((x).fdiv (2 ^ 1)) (6148914691236517205 : Int)) + (andI .u64 x (6148914691236517205 : Int))))).fdiv (2 ^ 2)) (3689348814741910323 : Int)) + (andI .u64 (IntKind.u64.wrap ((andI .u64 ((x).fdiv (2 ^ 1)) (6148914691236517205 : Int)) + (andI .u64 x (6148914691236517205 : Int)))) (3689348814741910323 : Int))))).fdiv (2 ^ 4)) + (IntKind.u64.wrap ((andI .u64 (((IntKind.u64.wrap ((andI .u64 ((x).fdiv (2 ^ 1)) (6148914691236517205 : Int)) + (andI .u64 x (6148914691236517205 : Int))))).fdiv (2 ^ 2)) (3689348814741910323 : Int)) + (andI .u64 (IntKind.u64.wrap ((andI .u64 ((x).fdiv (2 ^ 1)) (6148914691236517205 : Int)) + (andI .u64 x (6148914691236517205 : Int)))) (3689348814741910323 : Int)))))) (1085102592571150095 : Int))).fdiv (2 ^ 8))))).fdiv (2 ^ 16))))).fdiv (2 ^ 32))))) (127 : Int))) _ (op_assign rfl) rfl ?_
  refine WL.nil ?_
  refine W.ret ?_
  obtain rfl := Option.some.inj h
  show FinP _ _ _ _ _ _ _
  exact FinP.ret _ (res1 rfl rfl) ⟨rfl, (inR_wrap _ _), hS0.ext⟩

theorem c_impl_emptyCube {w : World} {n : Int} (r_n : InR .i64 n) {res : (List (List (List Int)))} (h : p_impl_emptyCube n  = some res) :
    Ret Tryd.prog 60 #[(Value.int .i64 n)] w (fun v w' => ∃ (u0 : Value), v = (Value.agg #[u0]) ∧ Ext w w' ∧ Sep w.heap.size w' [(Ty.sl (Ty.sl (Ty.sl (Ty.i .i64)))).at u0 res]) := by
  unfold p_impl_emptyCube at h
  have hS0 : St w w [] := St.start w
  refine Ret.start (fn := Tryd.f60) Tryd.func60 rfl 18 rfl rfl ?_
  refine W.seq (W.region ?_)
  refine WL.alloc hS0 ze_26 (cs := [(Value.slice none 0 0)]) rfl rfl ?_
  intro b1 wd2 hS3 he4
  replace hS3 : St w wd2 [bx b1 [(Value.slice none 0 0)]] := hS3
  refine WL.nil ?_
  refine W.seq (W.region ?_)
  refine WL.val (Value.agg #[(Value.slice none 0 0)]) _ (op_build bd_26 (parts := []) (partsL trivial) trivial rfl) rfl ?_
  refine WL.alloc hS3 ze_26 (cs := [(Value.slice none 0 0)]) rfl rfl ?_
  intro b5 wd6 hS7 he8
  replace hS7 : St w wd6 [bx b1 [(Value.slice none 0 0)], bx b5 [(Value.slice none 0 0)]] := hS7
  have hS11 := St.addNil (Ty.sl (Ty.sl (Ty.i .i64))) hS7
  replace hS11 : St w wd6 [bx b1 [(Value.slice none 0 0)], bx b5 [(Value.slice none 0 0)], (Ty.sl (Ty.sl (Ty.sl (Ty.i .i64)))).at (Value.slice none 0 0) ([] : (List (List (List Int))))] := hS11
  refine WL.storeBox [(Value.slice none 0 0)] hS11 (k := 1) rfl rfl rfl (us := [(Value.slice none 0 0)]) rfl sz_26 rfl rfl (all_rep (St.rep (t := (Ty.sl (Ty.sl (Ty.sl (Ty.i .i64))))) hS11 2 rfl) all_nil) rfl ?_
  intro wd9 hS10
  replace hS10 : St w wd9 [bx b1 [(Value.slice none 0 0)], bx b5 [(Value.slice none 0 0)], (Ty.sl (Ty.sl (Ty.sl (Ty.i .i64)))).at (Value.slice none 0 0) ([] : (List (List (List Int))))] := hS10
  refine WL.nil ?_
  refine W.seq (W.seq (W.region ?_))
  refine WL.val (Value.int .i64 n) _ (op_move rfl) rfl ?_
  refine WL.val (Value.int .i64 (0 : Int)) _ (op_move rfl) rfl ?_
  refine WL.nil ?_
  show W _ _ _ _ _ _
  obtain ⟨res12, hres13, h⟩ := bs h
  refine W.blockLoop (fun fq wq => ∃ s, res12 = Res.fin s ∧ ∃ (uu0 : Value), fq 2 = (Value.pointer (some ⟨b1, 0, none⟩)) ∧ fq 3 = (Value.pointer (some ⟨b5, 0, none⟩)) ∧ St w wq [bx b1 [(Value.slice none 0 0)], bx b5 [uu0], (Ty.sl (Ty.sl (Ty.sl (Ty.i .i64)))).at uu0 s]) ?_ ?_
  · refine W.forN (fun k (s : (List (List (List Int)))) fq wq => ∃ (uu0 : Value), fq 0 = (Value.int .i64 n) ∧ fq 2 = (Value.pointer (some ⟨b1, 0, none⟩)) ∧ fq 3 = (Value.pointer (some ⟨b5, 0, none⟩)) ∧ fq 5 = (Value.int .i64 n) ∧ fq 6 = Value.int .i64 (k : Int) ∧ InR .i64 (k : Int) ∧ St w wq [bx b1 [(Value.slice none 0 0)], bx b5 [uu0], (Ty.sl (Ty.sl (Ty.sl (Ty.i .i64)))).at uu0 s]) hres13 ⟨(Value.slice none 0 0), rfl, rfl, rfl, rfl, rfl, (inL rfl), hS10⟩ ?_ ?_
    · intro k14 x15 ct16 f17 wd18 hk19 hb20 hI21 hbrk22 hret23
      replace hI21 : ∃ (uu0 : Value), f17 0 = (Value.int .i64 n) ∧ f17 2 = (Value.pointer (some ⟨b1, 0, none⟩)) ∧ f17 3 = (Value.pointer (some ⟨b5, 0, none⟩)) ∧ f17 5 = (Value.int .i64 n) ∧ f17 6 = Value.int .i64 (k14 : Int) ∧ InR .i64 (k14 : Int) ∧ St w wd18 [bx b1 [(Value.slice none 0 0)], bx b5 [uu0], (Ty.sl (Ty.sl (Ty.sl (Ty.i .i64)))).at uu0 x15] := hI21
      replace hb20 : p_impl_emptyCube_L1 n k14 x15 = some ct16 := hb20
      unfold p_impl_emptyCube_L1 at hb20
      obtain ⟨u24, hf25, hf26, hf27, hf28, hf29, hr30, hS31⟩ := hI21
      refine W.seq (W.region ?_)
      refine WL.val (Value.bool (decide ((k14 : Int) < n))) _ (op_lss hf29 hf28) rfl ?_
      have hl32 : (k14 : Int) < n := by omega
      refine WL.nil ?_
      refine W.seq ?_
      refine W.condT (decide ((k14 : Int) < n)) rfl (decide_eq_true hl32) ?_
      refine W.skip ?_
      refine W.seq ?_
      refine W.block ?_
      obtain ⟨x81, hx82, hb20⟩ := bs hb20
      refine W.drawR mixo 6 [] [fun _ v _ _ => v = (Value.pointer (some ⟨b5, 0, none⟩)), fun _ v _ _ => v = u24, fun _ v _ _ => v = (Value.int .i64 n) ∧ InR .i64 n, fun _ v _ _ => v = (Value.int .i64 n) ∧ InR .i64 n, fun _ v S w' => SepS S w' [(Ty.sl (Ty.sl (Ty.i .i64))).at v x81], fun f v S w' => ∃ b : Nat, v = Value.slice (some ⟨b, 0, none⟩) 1 1 ∧ SepS S w' [bx b [f 12]]] (by kernel_rfl) (by kernel_rfl) ⟨pk, pk, pk, pk, ⟨fun _ _ _ _ _ he h => SepS.extend he h, fun _ _ _ _ _ _ h => h⟩, ⟨fun _ _ _ _ _ he ⟨b, h1, h2⟩ => ⟨b, h1, SepS.extend he h2⟩, fun f f2 _ _ _ hf ⟨b, h1, h2⟩ => ⟨b, h1, by rw [← hf 4 12 rfl rfl]; exact h2⟩⟩, trivial⟩ ⟨?_, ?_, ?_, ?_, ?_, ?_, trivial⟩ ?_
      · refine ObX.op rfl fun f34 wd35 he36 hout37 hphi38 => ?_
        have e40 : f34 3 = (Value.pointer (some ⟨b5, 0, none⟩)) := (hout37 3 rfl).trans hf27
        exact OpX.val (Value.pointer (some ⟨b5, 0, none⟩)) wd35 rfl (op_fieldAddr fd_26_0 e40) (Ext.refl _) rfl
      · refine ObX.op rfl fun f41 wd42 he43 hout44 hphi45 => ?_
        have hS46 := St.extend hS31 he43
        obtain ⟨S47, hS48, hf49⟩ := hphi45 0 8 _ rfl rfl rfl
        have e50 : f41 8 = (Value.pointer (some ⟨b5, 0, none⟩)) := hf49
        exact OpX.val u24 wd42 rfl (op_load one_22 e50 (BoxAt.cell (St.boxAt hS46 1 rfl) rfl)) (Ext.refl _) rfl
      · refine ObX.op rfl fun f51 wd52 he53 hout54 hphi55 => ?_
        have e57 : f51 0 = (Value.int .i64 n) := (hout54 0 rfl).trans hf25
        exact OpX.val (Value.int .i64 n) wd52 rfl (op_move e57) (Ext.refl _) ⟨rfl, r_n⟩
      · refine ObX.op rfl fun f58 wd59 he60 hout61 hphi62 => ?_
        have e64 : f58 0 = (Value.int .i64 n) := (hout61 0 rfl).trans hf25
        exact OpX.val (Value.int .i64 n) wd59 rfl (op_move e64) (Ext.refl _) ⟨rfl, r_n⟩
      · refine ObX.op rfl fun f65 wd66 he67 hout68 hphi69 => ?_
        obtain ⟨S71, hS72, hf73⟩ := hphi69 2 10 _ rfl rfl rfl
        obtain ⟨e74, hr75⟩ := hf73
        obtain ⟨S76, hS77, hf78⟩ := hphi69 3 11 _ rfl rfl rfl
        obtain ⟨e79, hr80⟩ := hf78
        refine OpX.call rfl (op_call fn_48 (args2 e74 e79)) (Ret.mono (c_impl_zeros hr75 hr80 hx82) ?_)
        rintro u83 wd84 ⟨_, rfl, he85, hs86⟩
        exact ⟨he85, _, newS _ _, (Sep.new hs86)⟩
      · refine ObX.op rfl fun f87 wd88 he89 hout90 hphi91 => ?_
        obtain ⟨S93, hS94, hf95⟩ := hphi91 4 12 _ rfl rfl rfl
        have e96 : SepS S93 wd88 [(Ty.sl (Ty.sl (Ty.i .i64))).at (f87 12) x81] := hf95
        exact OpX.valO _ _ rfl (mk_lit (us := [(f87 12)]) sl_22 rfl (by decide) (fillL rfl ⟨rfl, rfl, (cells_rep (SepS.rep (t := (Ty.sl (Ty.sl (Ty.i .i64)))) e96 0 rfl)), trivial⟩) rfl) (Ext.alloc _ _) ⟨_, rfl, Sep.new (sep_box _ [(f87 12)] _)⟩
      · intro f97 wd98 Ss99 he100 hout101 hSn102 hSd103 hphi104
        show WL _ _ _ _ _ _ _
        have e106 : f97 9 = u24 := hphi104 1 9 _ (by decide) rfl rfl
        have e107 : SepS (Ss99 4) wd98 [(Ty.sl (Ty.sl (Ty.i .i64))).at (f97 12) x81] := hphi104 4 12 _ (by decide) rfl rfl
        obtain ⟨b109, e108, e108s⟩ : ∃ b : Nat, f97 13 = Value.slice (some ⟨b, 0, none⟩) 1 1 ∧ SepS (Ss99 5) wd98 [bx b [f97 12]] := hphi104 5 13 _ (by decide) rfl rfl
        have e110 : f97 0 = (Value.int .i64 n) := (hout101 0 rfl).trans hf25
        have e111 : f97 2 = (Value.pointer (some ⟨b1, 0, none⟩)) := (hout101 2 rfl).trans hf26
        have e112 : f97 3 = (Value.pointer (some ⟨b5, 0, none⟩)) := (hout101 3 rfl).trans hf27
        have e113 : f97 5 = (Value.int .i64 n) := (hout101 5 rfl).trans hf28
        have e114 : f97 6 = (Value.int .i64 (k14 : Int)) := (hout101 6 rfl).trans hf29
        have hS115 := St.joinS hS31 he100 hSn102 (SepS.consS hSd103 rfl e107 (SepS.consS hSd103 rfl e108s SepS.nilS))
        replace hS115 : St w wd98 [bx b1 [(Value.slice none 0 0)], bx b5 [u24], (Ty.sl (Ty.sl (Ty.sl (Ty.i .i64)))).at u24 x15, (Ty.sl (Ty.sl (Ty.i .i64))).at (f97 12) x81, bx b109 [(f97 12)]] := hS115
        obtain ⟨x116, hx117, hb20⟩ := bs hb20
        refine WL.appendRow hS115 (k := 2) (k2 := 3) (k3 := 4) rfl rfl rfl rfl sl_22 rfl rfl e106 e108 hx117 rfl ?_
        intro u118 wd119 hS120 hz121
        replace hS120 : St w wd119 [bx b1 [(Value.slice none 0 0)], bx b5 [u24], (Ty.sl (Ty.sl (Ty.sl (Ty.i .i64)))).at u118 x116, emp, bx b109 [(f97 12)]] := hS120
        refine WL.val (Value.pointer (some ⟨b5, 0, none⟩)) _ (op_fieldAddr fd_26_0 e112) rfl ?_
        refine WL.storeBox [u118] hS120 (k := 1) rfl rfl rfl (us := [u118]) (cells_rep (St.rep (t := (Ty.sl (Ty.sl (Ty.sl (Ty.i .i64))))) hS120 2 rfl)) sz_22 rfl rfl (all_rep (St.rep (t := (Ty.sl (Ty.sl (Ty.sl (Ty.i .i64))))) hS120 2 rfl) all_nil) rfl ?_
        intro wd122 hS123
        replace hS123 : St w wd122 [bx b1 [(Value.slice none 0 0)], bx b5 [u118], (Ty.sl (Ty.sl (Ty.sl (Ty.i .i64)))).at u118 x116, emp, bx b109 [(f97 12)]] := hS123
        refine WL.nil ?_
        show W _ _ _ _ _ _
        refine W.region ?_
        refine WL.val (Value.int .i64 (w64 ((k14 : Int) + (1 : Int)))) _ (op_add e114 rfl) rfl ?_
        refine WL.val (Value.int .i64 (w64 ((k14 : Int) + (1 : Int)))) _ (op_move rfl) rfl ?_
        refine WL.nil ?_
        obtain rfl := Option.some.inj hb20
        show ∃ s, _ = Ctl.next s ∧ _
        exact ⟨_, rfl, u118, e110, e111, e112, e113, (ctr_next hl32 r_n), (ctr_rng hl32 r_n), (St.pick hS123 [0, 1, 2] rfl)⟩
    · intro x130 f125 wd126 hs127 hI128
      replace hI128 : ∃ (uu0 : Value), f125 0 = (Value.int .i64 n) ∧ f125 2 = (Value.pointer (some ⟨b1, 0, none⟩)) ∧ f125 3 = (Value.pointer (some ⟨b5, 0, none⟩)) ∧ f125 5 = (Value.int .i64 n) ∧ f125 6 = Value.int .i64 (((n).toNat : Nat) : Int) ∧ InR .i64 (((n).toNat : Nat) : Int) ∧ St w wd126 [bx b1 [(Value.slice none 0 0)], bx b5 [uu0], (Ty.sl (Ty.sl (Ty.sl (Ty.i .i64)))).at uu0 x130] := hI128
      obtain ⟨u131, hf132, hf133, hf134, hf135, hf136, hr137, hS138⟩ := hI128
      refine W.seq (W.region ?_)
      refine WL.val (Value.bool (decide ((((n).toNat : Nat) : Int) < n))) _ (op_lss hf136 hf135) rfl ?_
      have hl139 : ¬ (((n).toNat : Nat) : Int) < n := by omega
      refine WL.nil ?_
      refine W.seq ?_
      refine W.condF (decide ((((n).toNat : Nat) : Int) < n)) rfl (decide_eq_false hl139) ?_
      refine W.exit ?_
      show _ = _ ∧ _
      exact ⟨rfl, _, hs127, u131, hf133, hf134, hS138⟩
  · rintro f140 wd141 ⟨x144, rfl, hq142⟩
    replace h := onRes_fin h
    replace hq142 : ∃ (uu0 : Value), f140 2 = (Value.pointer (some ⟨b1, 0, none⟩)) ∧ f140 3 = (Value.pointer (some ⟨b5, 0, none⟩)) ∧ St w wd141 [bx b1 [(Value.slice none 0 0)], bx b5 [uu0], (Ty.sl (Ty.sl (Ty.sl (Ty.i .i64)))).at uu0 x144] := hq142
    obtain ⟨u145, hf146, hf147, hS148⟩ := hq142
    refine W.seq (W.region ?_)
    refine WL.val (Value.agg #[u145]) _ (op_loadBox st_26 hf147 (St.boxAt hS148 1 rfl) rfl rfl) rfl ?_
    refine WL.storeBox [u145] hS148 (k := 0) rfl hf146 rfl (us := [u145]) rfl sz_26 rfl rfl (all_rep (St.rep (t := (Ty.sl (Ty.sl (Ty.sl (Ty.i .i64))))) hS148 2 rfl) all_nil) rfl ?_
    intro wd149 hS150
    replace hS150 : St w wd149 [bx b1 [u145], bx b5 [u145], (Ty.sl (Ty.sl (Ty.sl (Ty.i .i64)))).at u145 x144] := hS150
    refine WL.nil ?_
    refine W.ret ?_
    obtain rfl := Option.some.inj h
    show FinP _ _ _ _ _ _ _
    exact FinP.ret _ (resC rfl hf146 st_26 (St.boxAt hS150 0 rfl) rfl) ⟨u145, rfl, hS150.ext, (St.out (St.pick hS150 [2] rfl) (Ext.refl _))⟩

theorem c_impl_Ring_ringOf {w : World} {r_Table : (List (List (List Int)))} {v_r_Table : Value} {set : Int} (tb : TabAt w) (r_r_Table : (Ty.sl (Ty.sl (Ty.sl (Ty.i .i64)))).rep w v_r_Table r_Table) (r_set : InR .i64 set) {res : (List (List (List Int)))} (h : p_impl_Ring_ringOf r_Table set  = some res) :
    Ret Tryd.prog 36 #[(Value.agg #[v_r_Table]), (Value.int .i64 set)] w (fun v w' => ∃ (u0 : Value), v = (Value.agg #[u0]) ∧ Ext w w' ∧ Sep w.heap.size w' [(Ty.sl (Ty.sl (Ty.sl (Ty.i .i64)))).at u0 res]) := by
  unfold p_impl_Ring_ringOf at h
  have hS0 : St w w [] := St.start w
  refine Ret.start (fn := Tryd.f36) Tryd.func36 rfl 65 rfl rfl ?_
  refine W.seq (W.region ?_)
  refine WL.box hS0 rfl (cs := [v_r_Table]) rfl rfl ?_
  intro b1 wd2 hS3 he4 hx5
  replace hS3 : St w wd2 [bx b1 [v_r_Table]] := hS3
  have hx6 := St.boxAt hS3 0 rfl
  have hE7 : Ext w wd2 := hS3.ext
  have hS8 : St wd2 wd2 [] := St.start wd2
  refine WL.alloc hS8 ze_26 (cs := [(Value.slice none 0 0)]) rfl rfl ?_
  intro b9 wd10 hS11 he12
  replace hS11 : St wd2 wd10 [bx b9 [(Value.slice none 0 0)]] := hS11
  refine WL.nil ?_
  refine W.seq (W.region ?_)
  refine WL.val (Value.int .i64 set) _ (op_move rfl) rfl ?_
  obtain ⟨x13, hx14, h⟩ := bs h
  refine WL.call _ (op_call fn_49 (args1 rfl)) (c_impl_labelsIn (tb.ext (Ext.trans hE7 hS11.ext)) r_set hx14) rfl ?_
  rintro u15 wd16 ⟨_, rfl, he17, hs18⟩
  have hS19 := St.join hS11 he17 hs18
  replace hS19 : St wd2 wd16 [bx b9 [(Value.slice none 0 0)], (Ty.sl (Ty.i .i64)).at u15 x13] := hS19
  refine WL.val (Value.int .i64 set) _ (op_move rfl) rfl ?_
  refine WL.val (Value.int .u64 (IntKind.u64.wrap set)) _ (op_convert rfl it_2 it_69) rfl ?_
  obtain ⟨x20, hx21, h⟩ := bs h
  refine WL.call _ (op_call fn_61 (args1 rfl)) (c_math_bits_OnesCount64 (inR_wrap _ _) hx21) rfl ?_
  rintro _ wd23 ⟨rfl, hr22, he24⟩
  have hS26 := St.extend hS19 he24
  replace hS26 : St wd2 wd23 [bx b9 [(Value.slice none 0 0)], (Ty.sl (Ty.i .i64)).at u15 x13] := hS26
  obtain ⟨x27, hx28, h⟩ := bs h
  refine WL.call _ (op_call fn_60 (args1 rfl)) (c_impl_emptyCube hr22 hx28) rfl ?_
  rintro _ wd30 ⟨u29, rfl, he31, hs32⟩
  have hS33 := St.join hS26 he31 hs32
  replace hS33 : St wd2 wd30 [bx b9 [(Value.slice none 0 0)], (Ty.sl (Ty.i .i64)).at u15 x13, (Ty.sl (Ty.sl (Ty.sl (Ty.i .i64)))).at u29 x27] := hS33
  refine WL.alloc hS33 ze_26 (cs := [(Value.slice none 0 0)]) rfl rfl ?_
  intro b34 wd35 hS36 he37
  replace hS36 : St wd2 wd35 [bx b9 [(Value.slice none 0 0)], (Ty.sl (Ty.i .i64)).at u15 x13, (Ty.sl (Ty.sl (Ty.sl (Ty.i .i64)))).at u29 x27, bx b34 [(Value.slice none 0 0)]] := hS36
  refine WL.val u15 _ (op_assign rfl) rfl ?_
  refine WL.storeBox [u29] hS36 (k := 3) rfl rfl rfl (us := [u29]) rfl sz_26 rfl rfl (all_rep (St.rep (t := (Ty.sl (Ty.sl (Ty.sl (Ty.i .i64))))) hS36 2 rfl) all_nil) rfl ?_
  intro wd38 hS39
  replace hS39 : St wd2 wd38 [bx b9 [(Value.slice none 0 0)], (Ty.sl (Ty.i .i64)).at u15 x13, (Ty.sl (Ty.sl (Ty.sl (Ty.i .i64)))).at u29 x27, bx b34 [u29]] := hS39
  refine WL.nil ?_
  refine W.seq (W.seq (W.region ?_))
  refine WL.val u15 _ (op_move rfl) rfl ?_
  have hr40 := inR_len (St.rep (t := (Ty.sl (Ty.i .i64))) hS39 1 rfl)
  refine WL.val (Value.int .i64 ((x13).length : Int)) _ (op_lenL sl_61 (St.rep (t := (Ty.sl (Ty.i .i64))) hS39 1 rfl) rfl) rfl ?_
  refine WL.val (Value.int .i64 (0 : Int)) _ (op_move rfl) rfl ?_
  refine WL.nil ?_
  show W _ _ _ _ _ _
  obtain ⟨res41, hres42, h⟩ := bs h
  refine W.blockLoop (fun fq wq => ∃ s, res41 = Res.fin s ∧ fq 4 = (Value.pointer (some ⟨b9, 0, none⟩)) ∧ fq 6 = (Value.pointer (some ⟨b34, 0, none⟩)) ∧ St wd2 wq [bx b9 [(Value.slice none 0 0)], (Ty.sl (Ty.sl (Ty.sl (Ty.i .i64)))).at u29 s, bx b34 [u29]]) ?_ ?_
  · refine W.forN (fun k (s : (List (List (List Int)))) fq wq => fq 2 = (Value.pointer (some ⟨b1, 0, none⟩)) ∧ fq 4 = (Value.pointer (some ⟨b9, 0, none⟩)) ∧ fq 5 = u15 ∧ fq 6 = (Value.pointer (some ⟨b34, 0, none⟩)) ∧ fq 19 = u15 ∧ fq 20 = (Value.int .i64 ((x13).length : Int)) ∧ fq 21 = Value.int .i64 (k : Int) ∧ InR .i64 (k : Int) ∧ St wd2 wq [bx b9 [(Value.slice none 0 0)], (Ty.sl (Ty.i .i64)).at u15 x13, (Ty.sl (Ty.sl (Ty.sl (Ty.i .i64)))).at u29 s, bx b34 [u29]]) hres42 ⟨rfl, rfl, rfl, rfl, rfl, rfl, rfl, (inL rfl), hS39⟩ ?_ ?_
    · intro k43 x44 ct45 f46 wd47 hk48 hb49 hI50 hbrk51 hret52
      replace hI50 : f46 2 = (Value.pointer (some ⟨b1, 0, none⟩)) ∧ f46 4 = (Value.pointer (some ⟨b9, 0, none⟩)) ∧ f46 5 = u15 ∧ f46 6 = (Value.pointer (some ⟨b34, 0, none⟩)) ∧ f46 19 = u15 ∧ f46 20 = (Value.int .i64 ((x13).length : Int)) ∧ f46 21 = Value.int .i64 (k43 : Int) ∧ InR .i64 (k43 : Int) ∧ St wd2 wd47 [bx b9 [(Value.slice none 0 0)], (Ty.sl (Ty.i .i64)).at u15 x13, (Ty.sl (Ty.sl (Ty.sl (Ty.i .i64)))).at u29 x44, bx b34 [u29]] := hI50
      replace hb49 : p_impl_Ring_ringOf_L1 x13 r_Table set k43 x44 = some ct45 := hb49
      unfold p_impl_Ring_ringOf_L1 at hb49
      obtain ⟨hf53, hf54, hf55, hf56, hf57, hf58, hf59, hr60, hS61⟩ := hI50
      refine W.seq (W.region ?_)
      refine WL.val (Value.bool (decide ((k43 : Int) < ((x13).length : Int)))) _ (op_lss hf59 hf58) rfl ?_
      have hl62 : (k43 : Int) < ((x13).length : Int) := by omega
      refine WL.nil ?_
      refine W.seq ?_
      refine W.condT (decide ((k43 : Int) < ((x13).length : Int))) rfl (decide_eq_true hl62) ?_
      refine W.skip ?_
      refine W.seq ?_
      refine W.block ?_
      refine W.seq (W.region ?_)
      refine WL.val (Value.int .i64 (k43 : Int)) _ (op_move hf59) rfl ?_
      obtain ⟨x64, hx67, hb49⟩ := bs hb49
      obtain ⟨ha65, hb66, hx67⟩ := idx_some hx67
      refine WL.val (Value.pointer (some (elA u15 ((k43 : Int)).toNat))) _ (op_idx sl_61 (St.rep (t := (Ty.sl (Ty.i .i64))) hS61 1 rfl) hf57 hf59 ha65 hb66) rfl ?_
      obtain ⟨u68, hc69, hr70⟩ := repSl.el (St.rep (t := (Ty.sl (Ty.i .i64))) hS61 1 rfl) hx67
      obtain ⟨rfl, hr70⟩ := hr70
      refine WL.val (Value.int .i64 x64) _ (op_load one_3 rfl hc69) rfl ?_
      refine WL.val (Value.int .i64 (k43 : Int)) _ (op_assign rfl) rfl ?_
      refine WL.val (Value.int .i64 x64) _ (op_assign rfl) rfl ?_
      refine WL.nil ?_
      refine W.seq (W.region ?_)
      refine WL.val u15 _ (op_move hf55) rfl ?_
      have hr71 := inR_len (St.rep (t := (Ty.sl (Ty.i .i64))) hS61 1 rfl)
      refine WL.val (Value.int .i64 ((x13).length : Int)) _ (op_lenL sl_61 (St.rep (t := (Ty.sl (Ty.i .i64))) hS61 1 rfl) rfl) rfl ?_
      refine WL.val (Value.int .i64 (0 : Int)) _ (op_move rfl) rfl ?_
      refine WL.nil ?_
      show W _ _ _ _ _ _
      obtain ⟨res72, hres73, hb49⟩ := bs hb49
      refine W.blockLoop (fun fq wq => ∃ s, res72 = Res.fin s ∧ fq 2 = (Value.pointer (some ⟨b1, 0, none⟩)) ∧ fq 4 = (Value.pointer (some ⟨b9, 0, none⟩)) ∧ fq 5 = u15 ∧ fq 6 = (Value.pointer (some ⟨b34, 0, none⟩)) ∧ fq 19 = u15 ∧ fq 20 = (Value.int .i64 ((x13).length : Int)) ∧ fq 21 = (Value.int .i64 (k43 : Int)) ∧ St wd2 wq [bx b9 [(Value.slice none 0 0)], (Ty.sl (Ty.i .i64)).at u15 x13, (Ty.sl (Ty.sl (Ty.sl (Ty.i .i64)))).at u29 s, bx b34 [u29]]) ?_ ?_
      · refine W.forN (fun k (s : (List (List (List Int)))) fq wq => fq 2 = (Value.pointer (some ⟨b1, 0, none⟩)) ∧ fq 4 = (Value.pointer (some ⟨b9, 0, none⟩)) ∧ fq 5 = u15 ∧ fq 6 = (Value.pointer (some ⟨b34, 0, none⟩)) ∧ fq 7 = (Value.int .i64 (k43 : Int)) ∧ fq 8 = (Value.int .i64 x64) ∧ fq 19 = u15 ∧ fq 20 = (Value.int .i64 ((x13).length : Int)) ∧ fq 21 = (Value.int .i64 (k43 : Int)) ∧ fq 26 = u15 ∧ fq 27 = (Value.int .i64 ((x13).length : Int)) ∧ fq 28 = Value.int .i64 (k : Int) ∧ InR .i64 (k : Int) ∧ St wd2 wq [bx b9 [(Value.slice none 0 0)], (Ty.sl (Ty.i .i64)).at u15 x13, (Ty.sl (Ty.sl (Ty.sl (Ty.i .i64)))).at u29 s, bx b34 [u29]]) hres73 ⟨hf53, hf54, hf55, hf56, rfl, rfl, hf57, hf58, hf59, rfl, rfl, rfl, (inL rfl), hS61⟩ ?_ ?_
        · intro k74 x75 ct76 f77 wd78 hk79 hb80 hI81 hbrk82 hret83
          replace hI81 : f77 2 = (Value.pointer (some ⟨b1, 0, none⟩)) ∧ f77 4 = (Value.pointer (some ⟨b9, 0, none⟩)) ∧ f77 5 = u15 ∧ f77 6 = (Value.pointer (some ⟨b34, 0, none⟩)) ∧ f77 7 = (Value.int .i64 (k43 : Int)) ∧ f77 8 = (Value.int .i64 x64) ∧ f77 19 = u15 ∧ f77 20 = (Value.int .i64 ((x13).length : Int)) ∧ f77 21 = (Value.int .i64 (k43 : Int)) ∧ f77 26 = u15 ∧ f77 27 = (Value.int .i64 ((x13).length : Int)) ∧ f77 28 = Value.int .i64 (k74 : Int) ∧ InR .i64 (k74 : Int) ∧ St wd2 wd78 [bx b9 [(Value.slice none 0 0)], (Ty.sl (Ty.i .i64)).at u15 x13, (Ty.sl (Ty.sl (Ty.sl (Ty.i .i64)))).at u29 x75, bx b34 [u29]] := hI81
          replace hb80 : p_impl_Ring_ringOf_L2 x13 k43 r_Table x64 set k74 x75 = some ct76 := hb80
          unfold p_impl_Ring_ringOf_L2 at hb80
          obtain ⟨hf84, hf85, hf86, hf87, hf88, hf89, hf90, hf91, hf92, hf93, hf94, hf95, hr96, hS97⟩ := hI81
          refine W.seq (W.region ?_)
          refine WL.val (Value.bool (decide ((k74 : Int) < ((x13).length : Int)))) _ (op_lss hf95 hf94) rfl ?_
          have hl98 : (k74 : Int) < ((x13).length : Int) := by omega
          refine WL.nil ?_
          refine W.seq ?_
          refine W.condT (decide ((k74 : Int) < ((x13).length : Int))) rfl (decide_eq_true hl98) ?_
          refine W.skip ?_
          refine W.seq ?_
          refine W.block ?_
          refine W.seq (W.region ?_)
          refine WL.val (Value.int .i64 (k74 : Int)) _ (op_move hf95) rfl ?_
          obtain ⟨x100, hx103, hb80⟩ := bs hb80
          obtain ⟨ha101, hb102, hx103⟩ := idx_some hx103
          refine WL.val (Value.pointer (some (elA u15 ((k74 : Int)).toNat))) _ (op_idx sl_61 (St.rep (t := (Ty.sl (Ty.i .i64))) hS97 1 rfl) hf93 hf95 ha101 hb102) rfl ?_
          obtain ⟨u104, hc105, hr106⟩ := repSl.el (St.rep (t := (Ty.sl (Ty.i .i64))) hS97 1 rfl) hx103
          obtain ⟨rfl, hr106⟩ := hr106
          refine WL.val (Value.int .i64 x100) _ (op_load one_3 rfl hc105) rfl ?_
          refine WL.val (Value.int .i64 (k74 : Int)) _ (op_assign rfl) rfl ?_
          refine WL.val (Value.int .i64 x100) _ (op_assign rfl) rfl ?_
          refine WL.nil ?_
          refine W.seq (W.region ?_)
          refine WL.val u15 _ (op_move hf86) rfl ?_
          have hr107 := inR_len (St.rep (t := (Ty.sl (Ty.i .i64))) hS97 1 rfl)
          refine WL.val (Value.int .i64 ((x13).length : Int)) _ (op_lenL sl_61 (St.rep (t := (Ty.sl (Ty.i .i64))) hS97 1 rfl) rfl) rfl ?_
          refine WL.val (Value.int .i64 (0 : Int)) _ (op_move rfl) rfl ?_
          refine WL.nil ?_
          show W _ _ _ _ _ _
          obtain ⟨res108, hres109, hb80⟩ := bs hb80
          refine W.blockLoop (fun fq wq => ∃ s, res108 = Res.fin s ∧ fq 2 = (Value.pointer (some ⟨b1, 0, none⟩)) ∧ fq 4 = (Value.pointer (some ⟨b9, 0, none⟩)) ∧ fq 5 = u15 ∧ fq 6 = (Value.pointer (some ⟨b34, 0, none⟩)) ∧ fq 7 = (Value.int .i64 (k43 : Int)) ∧ fq 8 = (Value.int .i64 x64) ∧ fq 19 = u15 ∧ fq 20 = (Value.int .i64 ((x13).length : Int)) ∧ fq 21 = (Value.int .i64 (k43 : Int)) ∧ fq 26 = u15 ∧ fq 27 = (Value.int .i64 ((x13).length : Int)) ∧ fq 28 = (Value.int .i64 (k74 : Int)) ∧ St wd2 wq [bx b9 [(Value.slice none 0 0)], (Ty.sl (Ty.i .i64)).at u15 x13, (Ty.sl (Ty.sl (Ty.sl (Ty.i .i64)))).at u29 s, bx b34 [u29]]) ?_ ?_
          · refine W.forN (fun k (s : (List (List (List Int)))) fq wq => fq 2 = (Value.pointer (some ⟨b1, 0, none⟩)) ∧ fq 4 = (Value.pointer (some ⟨b9, 0, none⟩)) ∧ fq 5 = u15 ∧ fq 6 = (Value.pointer (some ⟨b34, 0, none⟩)) ∧ fq 7 = (Value.int .i64 (k43 : Int)) ∧ fq 8 = (Value.int .i64 x64) ∧ fq 9 = (Value.int .i64 (k74 : Int)) ∧ fq 10 = (Value.int .i64 x100) ∧ fq 19 = u15 ∧ fq 20 = (Value.int .i64 ((x13).length : Int)) ∧ fq 21 = (Value.int .i64 (k43 : Int)) ∧ fq 26 = u15 ∧ fq 27 = (Value.int .i64 ((x13).length : Int)) ∧ fq 28 = (Value.int .i64 (k74 : Int)) ∧ fq 33 = u15 ∧ fq 34 = (Value.int .i64 ((x13).length : Int)) ∧ fq 35 = Value.int .i64 (k : Int) ∧ InR .i64 (k : Int) ∧ St wd2 wq [bx b9 [(Value.slice none 0 0)], (Ty.sl (Ty.i .i64)).at u15 x13, (Ty.sl (Ty.sl (Ty.sl (Ty.i .i64)))).at u29 s, bx b34 [u29]]) hres109 ⟨hf84, hf85, hf86, hf87, hf88, hf89, rfl, rfl, hf90, hf91, hf92, hf93, hf94, hf95, rfl, rfl, rfl, (inL rfl), hS97⟩ ?_ ?_
            · intro k110 x111 ct112 f113 wd114 hk115 hb116 hI117 hbrk118 hret119
              replace hI117 : f113 2 = (Value.pointer (some ⟨b1, 0, none⟩)) ∧ f113 4 = (Value.pointer (some ⟨b9, 0, none⟩)) ∧ f113 5 = u15 ∧ f113 6 = (Value.pointer (some ⟨b34, 0, none⟩)) ∧ f113 7 = (Value.int .i64 (k43 : Int)) ∧ f113 8 = (Value.int .i64 x64) ∧ f113 9 = (Value.int .i64 (k74 : Int)) ∧ f113 10 = (Value.int .i64 x100) ∧ f113 19 = u15 ∧ f113 20 = (Value.int .i64 ((x13).length : Int)) ∧ f113 21 = (Value.int .i64 (k43 : Int)) ∧ f113 26 = u15 ∧ f113 27 = (Value.int .i64 ((x13).length : Int)) ∧ f113 28 = (Value.int .i64 (k74 : Int)) ∧ f113 33 = u15 ∧ f113 34 = (Value.int .i64 ((x13).length : Int)) ∧ f113 35 = Value.int .i64 (k110 : Int) ∧ InR .i64 (k110 : Int) ∧ St wd2 wd114 [bx b9 [(Value.slice none 0 0)], (Ty.sl (Ty.i .i64)).at u15 x13, (Ty.sl (Ty.sl (Ty.sl (Ty.i .i64)))).at u29 x111, bx b34 [u29]] := hI117
              replace hb116 : p_impl_Ring_ringOf_L3 x13 k43 k74 r_Table x64 x100 set k110 x111 = some ct112 := hb116
              unfold p_impl_Ring_ringOf_L3 at hb116
              obtain ⟨hf120, hf121, hf122, hf123, hf124, hf125, hf126, hf127, hf128, hf129, hf130, hf131, hf132, hf133, hf134, hf135, hf136, hr137, hS138⟩ := hI117
              refine W.seq (W.region ?_)
              refine WL.val (Value.bool (decide ((k110 : Int) < ((x13).length : Int)))) _ (op_lss hf136 hf135) rfl ?_
              have hl139 : (k110 : Int) < ((x13).length : Int) := by omega
              refine WL.nil ?_
              refine W.seq ?_
              refine W.condT (decide ((k110 : Int) < ((x13).length : Int))) rfl (decide_eq_true hl139) ?_
              refine W.skip ?_
              refine W.seq ?_
              refine W.block ?_
              refine W.seq (W.region ?_)
              refine WL.val (Value.int .i64 (k110 : Int)) _ (op_move hf136) rfl ?_
              obtain ⟨x141, hx144, hb116⟩ := bs hb116
              obtain ⟨ha142, hb143, hx144⟩ := idx_some hx144
              refine WL.val (Value.pointer (some (elA u15 ((k110 : Int)).toNat))) _ (op_idx sl_61 (St.rep (t := (Ty.sl (Ty.i .i64))) hS138 1 rfl) hf134 hf136 ha142 hb143) rfl ?_
              obtain ⟨u145, hc146, hr147⟩ := repSl.el (St.rep (t := (Ty.sl (Ty.i .i64))) hS138 1 rfl) hx144
              obtain ⟨rfl, hr147⟩ := hr147
              refine WL.val (Value.int .i64 x141) _ (op_load one_3 rfl hc146) rfl ?_
              refine WL.val (Value.int .i64 (k110 : Int)) _ (op_assign rfl) rfl ?_
              refine WL.val (Value.int .i64 x141) _ (op_assign rfl) rfl ?_
              refine WL.nil ?_
              show W _ _ _ _ _ _
              obtain ⟨x187, hx190, hb116⟩ := bs hb116
              obtain ⟨ha188, hb189, hx190⟩ := idx_some hx190
              obtain ⟨u201, hc202, hr203⟩ := repSl.el (St.rep (t := (Ty.sl (Ty.sl (Ty.sl (Ty.i .i64))))) hS138 2 rfl) hx190
              obtain ⟨x226, hx229, hb116⟩ := bs hb116
              obtain ⟨ha227, hb228, hx229⟩ := idx_some hx229
              obtain ⟨u240, hc241, hr242⟩ := repSl.el hr203 hx229
              obtain ⟨x289, hx292, hb116⟩ := bs hb116
              obtain ⟨ha290, hb291, hx292⟩ := idx_some hx292
              obtain ⟨u303, hc304, hr305⟩ := repSl.el r_r_Table hx292
              obtain ⟨x328, hx331, hb116⟩ := bs hb116
              obtain ⟨ha329, hb330, hx331⟩ := idx_some hx331
              obtain ⟨u342, hc343, hr344⟩ := repSl.el hr305 hx331
              obtain ⟨x367, hx370, hb116⟩ := bs hb116
              obtain ⟨ha368, hb369, hx370⟩ := idx_some hx370
              obtain ⟨u381, hc382, hr383⟩ := repSl.el hr344 hx370
              obtain ⟨rfl, hr383⟩ := hr383
              refine W.drawR mixo 20 [] [fun _ v _ _ => v = (Value.pointer (some ⟨b34, 0, none⟩)), fun _ v _ _ => v = u29, fun _ v _ _ => v = (Value.int .i64 (k43 : Int)) ∧ InR .i64 (k43 : Int), fun _ v _ _ => v = (Value.pointer (some (elA u29 ((k43 : Int)).toNat))), fun _ v _ _ => v = u201, fun _ v _ _ => v = (Value.int .i64 (k74 : Int)) ∧ InR .i64 (k74 : Int), fun _ v _ _ => v = (Value.pointer (some (elA u201 ((k74 : Int)).toNat))), fun _ v _ _ => v = u240, fun _ v _ _ => v = (Value.int .i64 (k110 : Int)) ∧ InR .i64 (k110 : Int), fun _ v _ _ => v = (Value.pointer (some ⟨b1, 0, none⟩)), fun _ v _ _ => v = v_r_Table, fun _ v _ _ => v = (Value.int .i64 x64) ∧ InR .i64 x64, fun _ v _ _ => v = (Value.pointer (some (elA v_r_Table (x64).toNat))), fun _ v _ _ => v = u303, fun _ v _ _ => v = (Value.int .i64 x100) ∧ InR .i64 x100, fun _ v _ _ => v = (Value.pointer (some (elA u303 (x100).toNat))), fun _ v _ _ => v = u342, fun _ v _ _ => v = (Value.int .i64 x141) ∧ InR .i64 x141, fun _ v _ _ => v = (Value.pointer (some (elA u342 (x141).toNat))), fun _ v _ _ => v = (Value.int .i64 x367) ∧ InR .i64 x367] (by kernel_rfl) (by kernel_rfl) ⟨pk, pk, pk, pk, pk, pk, pk, pk, pk, pk, pk, pk, pk, pk, pk, pk, pk, pk, pk, pk, trivial⟩ ⟨?_, ?_, ?_, ?_, ?_, ?_, ?_, ?_, ?_, ?_, ?_, ?_, ?_, ?_, ?_, ?_, ?_, ?_, ?_, ?_, trivial⟩ ?_
              · refine ObX.op rfl fun f148 wd149 he150 hout151 hphi152 => ?_
                have e154 : f148 6 = (Value.pointer (some ⟨b34, 0, none⟩)) := (hout151 6 rfl).trans hf123
                exact OpX.val (Value.pointer (some ⟨b34, 0, none⟩)) wd149 rfl (op_fieldAddr fd_26_0 e154) (Ext.refl _) rfl
              · refine ObX.op rfl fun f155 wd156 he157 hout158 hphi159 => ?_
                have hS160 := St.extend hS138 he157
                obtain ⟨S161, hS162, hf163⟩ := hphi159 0 40 _ rfl rfl rfl
                have e164 : f155 40 = (Value.pointer (some ⟨b34, 0, none⟩)) := hf163
                exact OpX.val u29 wd156 rfl (op_load one_22 e164 (BoxAt.cell (St.boxAt hS160 3 rfl) rfl)) (Ext.refl _) rfl
              · refine ObX.op rfl fun f165 wd166 he167 hout168 hphi169 => ?_
                have e171 : f165 7 = (Value.int .i64 (k43 : Int)) := (hout168 7 rfl).trans hf124
                exact OpX.val (Value.int .i64 (k43 : Int)) wd166 rfl (op_move e171) (Ext.refl _) ⟨rfl, hr60⟩
              · refine ObX.op rfl fun f172 wd173 he174 hout175 hphi176 => ?_
                have hS177 := St.extend hS138 he174
                obtain ⟨S178, hS179, hf180⟩ := hphi176 1 41 _ rfl rfl rfl
                have e181 : f172 41 = u29 := hf180
                obtain ⟨S182, hS183, hf184⟩ := hphi176 2 42 _ rfl rfl rfl
                obtain ⟨e185, hr186⟩ := hf184
                exact OpX.val (Value.pointer (some (elA u29 ((k43 : Int)).toNat))) wd173 rfl (op_idx sl_22 (St.rep (t := (Ty.sl (Ty.sl (Ty.sl (Ty.i .i64))))) hS177 2 rfl) e181 e185 ha188 hb189) (Ext.refl _) rfl
              · refine ObX.op rfl fun f191 wd192 he193 hout194 hphi195 => ?_
                obtain ⟨S197, hS198, hf199⟩ := hphi195 3 43 _ rfl rfl rfl
                have e200 : f191 43 = (Value.pointer (some (elA u29 ((k43 : Int)).toNat))) := hf199
                exact OpX.val u201 wd192 rfl (op_load one_41 e200 (Ext.cell he193 hc202)) (Ext.refl _) rfl
              · refine ObX.op rfl fun f204 wd205 he206 hout207 hphi208 => ?_
                have e210 : f204 9 = (Value.int .i64 (k74 : Int)) := (hout207 9 rfl).trans hf126
                exact OpX.val (Value.int .i64 (k74 : Int)) wd205 rfl (op_move e210) (Ext.refl _) ⟨rfl, hr96⟩
              · refine ObX.op rfl fun f211 wd212 he213 hout214 hphi215 => ?_
                obtain ⟨S217, hS218, hf219⟩ := hphi215 4 44 _ rfl rfl rfl
                have e220 : f211 44 = u201 := hf219
                obtain ⟨S221, hS222, hf223⟩ := hphi215 5 45 _ rfl rfl rfl
                obtain ⟨e224, hr225⟩ := hf223
                exact OpX.val (Value.pointer (some (elA u201 ((k74 : Int)).toNat))) wd212 rfl (op_idx sl_41 (Ty.lift _ he213 hr203) e220 e224 ha227 hb228) (Ext.refl _) rfl
              · refine ObX.op rfl fun f230 wd231 he232 hout233 hphi234 => ?_
                obtain ⟨S236, hS237, hf238⟩ := hphi234 6 46 _ rfl rfl rfl
                have e239 : f230 46 = (Value.pointer (some (elA u201 ((k74 : Int)).toNat))) := hf238
                exact OpX.val u240 wd231 rfl (op_load one_33 e239 (Ext.cell he232 hc241)) (Ext.refl _) rfl
              · refine ObX.op rfl fun f243 wd244 he245 hout246 hphi247 => ?_
                have e249 : f243 11 = (Value.int .i64 (k110 : Int)) := (hout246 11 rfl).trans rfl
                exact OpX.val (Value.int .i64 (k110 : Int)) wd244 rfl (op_move e249) (Ext.refl _) ⟨rfl, hr137⟩
              · refine ObX.op rfl fun f250 wd251 he252 hout253 hphi254 => ?_
                have e256 : f250 2 = (Value.pointer (some ⟨b1, 0, none⟩)) := (hout253 2 rfl).trans hf120
                exact OpX.val (Value.pointer (some ⟨b1, 0, none⟩)) wd251 rfl (op_fieldAddr fd_26_0 e256) (Ext.refl _) rfl
              · refine ObX.op rfl fun f257 wd258 he259 hout260 hphi261 => ?_
                have hS262 := St.extend hS138 he259
                obtain ⟨S263, hS264, hf265⟩ := hphi261 9 49 _ rfl rfl rfl
                have e266 : f257 49 = (Value.pointer (some ⟨b1, 0, none⟩)) := hf265
                exact OpX.val v_r_Table wd258 rfl (op_load one_22 e266 (BoxAt.cell (BoxAt.lift hS262.ext hx6) rfl)) (Ext.refl _) rfl
              · refine ObX.op rfl fun f267 wd268 he269 hout270 hphi271 => ?_
                have e273 : f267 8 = (Value.int .i64 x64) := (hout270 8 rfl).trans hf125
                exact OpX.val (Value.int .i64 x64) wd268 rfl (op_move e273) (Ext.refl _) ⟨rfl, hr70⟩
              · refine ObX.op rfl fun f274 wd275 he276 hout277 hphi278 => ?_
                have hS279 := St.extend hS138 he276
                obtain ⟨S280, hS281, hf282⟩ := hphi278 10 50 _ rfl rfl rfl
                have e283 : f274 50 = v_r_Table := hf282
                obtain ⟨S284, hS285, hf286⟩ := hphi278 11 51 _ rfl rfl rfl
                obtain ⟨e287, hr288⟩ := hf286
                exact OpX.val (Value.pointer (some (elA v_r_Table (x64).toNat))) wd275 rfl (op_idx sl_22 (Ty.lift _ (Ext.trans hE7 hS279.ext) r_r_Table) e283 e287 ha290 hb291) (Ext.refl _) rfl
              · refine ObX.op rfl fun f293 wd294 he295 hout296 hphi297 => ?_
                have hS298 := St.extend hS138 he295
                obtain ⟨S299, hS300, hf301⟩ := hphi297 12 52 _ rfl rfl rfl
                have e302 : f293 52 = (Value.pointer (some (elA v_r_Table (x64).toNat))) := hf301
                exact OpX.val u303 wd294 rfl (op_load one_41 e302 (Ext.cell (Ext.trans hE7 hS298.ext) hc304)) (Ext.refl _) rfl
              · refine ObX.op rfl fun f306 wd307 he308 hout309 hphi310 => ?_
                have e312 : f306 10 = (Value.int .i64 x100) := (hout309 10 rfl).trans hf127
                exact OpX.val (Value.int .i64 x100) wd307 rfl (op_move e312) (Ext.refl _) ⟨rfl, hr106⟩
              · refine ObX.op rfl fun f313 wd314 he315 hout316 hphi317 => ?_
                have hS318 := St.extend hS138 he315
                obtain ⟨S319, hS320, hf321⟩ := hphi317 13 53 _ rfl rfl rfl
                have e322 : f313 53 = u303 := hf321
                obtain ⟨S323, hS324, hf325⟩ := hphi317 14 54 _ rfl rfl rfl
                obtain ⟨e326, hr327⟩ := hf325
                exact OpX.val (Value.pointer (some (elA u303 (x100).toNat))) wd314 rfl (op_idx sl_41 (Ty.lift _ (Ext.trans hE7 hS318.ext) hr305) e322 e326 ha329 hb330) (Ext.refl _) rfl
              · refine ObX.op rfl fun f332 wd333 he334 hout335 hphi336 => ?_
                have hS337 := St.extend hS138 he334
                obtain ⟨S338, hS339, hf340⟩ := hphi336 15 55 _ rfl rfl rfl
                have e341 : f332 55 = (Value.pointer (some (elA u303 (x100).toNat))) := hf340
                exact OpX.val u342 wd333 rfl (op_load one_33 e341 (Ext.cell (Ext.trans hE7 hS337.ext) hc343)) (Ext.refl _) rfl
              · refine ObX.op rfl fun f345 wd346 he347 hout348 hphi349 => ?_
                have e351 : f345 12 = (Value.int .i64 x141) := (hout348 12 rfl).trans rfl
                exact OpX.val (Value.int .i64 x141) wd346 rfl (op_move e351) (Ext.refl _) ⟨rfl, hr147⟩
              · refine ObX.op rfl fun f352 wd353 he354 hout355 hphi356 => ?_
                have hS357 := St.extend hS138 he354
                obtain ⟨S358, hS359, hf360⟩ := hphi356 16 56 _ rfl rfl rfl
                have e361 : f352 56 = u342 := hf360
                obtain ⟨S362, hS363, hf364⟩ := hphi356 17 57 _ rfl rfl rfl
                obtain ⟨e365, hr366⟩ := hf364
                exact OpX.val (Value.pointer (some (elA u342 (x141).toNat))) wd353 rfl (op_idx sl_33 (Ty.lift _ (Ext.trans hE7 hS357.ext) hr344) e361 e365 ha368 hb369) (Ext.refl _) rfl
              · refine ObX.op rfl fun f371 wd372 he373 hout374 hphi375 => ?_
                have hS376 := St.extend hS138 he373
                obtain ⟨S377, hS378, hf379⟩ := hphi375 18 58 _ rfl rfl rfl
                have e380 : f371 58 = (Value.pointer (some (elA u342 (x141).toNat))) := hf379
                exact OpX.val (Value.int .i64 x367) wd372 rfl (op_load one_2 e380 (Ext.cell (Ext.trans hE7 hS376.ext) hc382)) (Ext.refl _) ⟨rfl, hr383⟩
              · intro f384 wd385 Ss386 he387 hout388 hSn389 hSd390 hphi391
                show WL _ _ _ _ _ _ _
                have hS392 := St.extend hS138 he387
                have e393 : f384 47 = u240 := hphi391 7 47 _ (by decide) rfl rfl
                obtain ⟨e394, hr395⟩ := hphi391 8 48 _ (by decide) rfl rfl
                obtain ⟨e396, hr397⟩ := hphi391 19 59 _ (by decide) rfl rfl
                have e398 : f384 2 = (Value.pointer (some ⟨b1, 0, none⟩)) := (hout388 2 rfl).trans hf120
                have e399 : f384 4 = (Value.pointer (some ⟨b9, 0, none⟩)) := (hout388 4 rfl).trans hf121
                have e400 : f384 5 = u15 := (hout388 5 rfl).trans hf122
                have e401 : f384 6 = (Value.pointer (some ⟨b34, 0, none⟩)) := (hout388 6 rfl).trans hf123
                have e402 : f384 7 = (Value.int .i64 (k43 : Int)) := (hout388 7 rfl).trans hf124
                have e403 : f384 8 = (Value.int .i64 x64) := (hout388 8 rfl).trans hf125
                have e404 : f384 9 = (Value.int .i64 (k74 : Int)) := (hout388 9 rfl).trans hf126
                have e405 : f384 10 = (Value.int .i64 x100) := (hout388 10 rfl).trans hf127
                have e406 : f384 19 = u15 := (hout388 19 rfl).trans hf128
                have e407 : f384 20 = (Value.int .i64 ((x13).length : Int)) := (hout388 20 rfl).trans hf129
                have e408 : f384 21 = (Value.int .i64 (k43 : Int)) := (hout388 21 rfl).trans hf130
                have e409 : f384 26 = u15 := (hout388 26 rfl).trans hf131
                have e410 : f384 27 = (Value.int .i64 ((x13).length : Int)) := (hout388 27 rfl).trans hf132
                have e411 : f384 28 = (Value.int .i64 (k74 : Int)) := (hout388 28 rfl).trans hf133
                have e412 : f384 33 = u15 := (hout388 33 rfl).trans hf134
                have e413 : f384 34 = (Value.int .i64 ((x13).length : Int)) := (hout388 34 rfl).trans hf135
                have e414 : f384 35 = (Value.int .i64 (k110 : Int)) := (hout388 35 rfl).trans hf136
                obtain ⟨x415, hx418, hb116⟩ := bs hb116
                obtain ⟨ha416, hb417, hx418⟩ := idx_some hx418
                refine WL.val (Value.pointer (some (elA u240 ((k110 : Int)).toNat))) _ (op_idx sl_33 (Ty.lift _ he387 hr242) e393 e394 ha416 hb417) rfl ?_
                refine WL.storeEl3 (flat_i .i64) hS392 (k := 2) rfl sz_2 hx190 hx229 (Ext.cell he387 hc202) (Ext.cell he387 hc241) rfl e396 (lt_of_idx ha416 hb417) ⟨rfl, hr397⟩ ?_
                intro wd419 hS420
                replace hS420 : St wd2 wd419 [bx b9 [(Value.slice none 0 0)], (Ty.sl (Ty.i .i64)).at u15 x13, (Ty.sl (Ty.sl (Ty.sl (Ty.i .i64)))).at u29 ((x111).set ((k43 : Int)).toNat ((x187).set ((k74 : Int)).toNat ((x226).set ((k110 : Int)).toNat x367))), bx b34 [u29]] := hS420
                refine WL.nil ?_
                show W _ _ _ _ _ _
                refine W.region ?_
                refine WL.val (Value.int .i64 (w64 ((k110 : Int) + (1 : Int)))) _ (op_add e414 rfl) rfl ?_
                refine WL.val (Value.int .i64 (w64 ((k110 : Int) + (1 : Int)))) _ (op_move rfl) rfl ?_
                refine WL.nil ?_
                obtain rfl := Option.some.inj hb116
                show ∃ s, _ = Ctl.next s ∧ _
                exact ⟨_, rfl, e398, e399, e400, e401, e402, e403, e404, e405, e406, e407, e408, e409, e410, e411, e412, e413, (ctr_next hl139 hr107), (ctr_rng hl139 hr107), hS420⟩
            · intro x427 f422 wd423 hs424 hI425
              replace hI425 : f422 2 = (Value.pointer (some ⟨b1, 0, none⟩)) ∧ f422 4 = (Value.pointer (some ⟨b9, 0, none⟩)) ∧ f422 5 = u15 ∧ f422 6 = (Value.pointer (some ⟨b34, 0, none⟩)) ∧ f422 7 = (Value.int .i64 (k43 : Int)) ∧ f422 8 = (Value.int .i64 x64) ∧ f422 9 = (Value.int .i64 (k74 : Int)) ∧ f422 10 = (Value.int .i64 x100) ∧ f422 19 = u15 ∧ f422 20 = (Value.int .i64 ((x13).length : Int)) ∧ f422 21 = (Value.int .i64 (k43 : Int)) ∧ f422 26 = u15 ∧ f422 27 = (Value.int .i64 ((x13).length : Int)) ∧ f422 28 = (Value.int .i64 (k74 : Int)) ∧ f422 33 = u15 ∧ f422 34 = (Value.int .i64 ((x13).length : Int)) ∧ f422 35 = Value.int .i64 (((x13).length : Nat) : Int) ∧ InR .i64 (((x13).length : Nat) : Int) ∧ St wd2 wd423 [bx b9 [(Value.slice none 0 0)], (Ty.sl (Ty.i .i64)).at u15 x13, (Ty.sl (Ty.sl (Ty.sl (Ty.i .i64)))).at u29 x427, bx b34 [u29]] := hI425
              obtain ⟨hf428, hf429, hf430, hf431, hf432, hf433, hf434, hf435, hf436, hf437, hf438, hf439, hf440, hf441, hf442, hf443, hf444, hr445, hS446⟩ := hI425
              refine W.seq (W.region ?_)
              refine WL.val (Value.bool (decide ((((x13).length : Nat) : Int) < ((x13).length : Int)))) _ (op_lss hf444 hf443) rfl ?_
              have hl447 : ¬ (((x13).length : Nat) : Int) < ((x13).length : Int) := by omega
              refine WL.nil ?_
              refine W.seq ?_
              refine W.condF (decide ((((x13).length : Nat) : Int) < ((x13).length : Int))) rfl (decide_eq_false hl447) ?_
              refine W.exit ?_
              show _ = _ ∧ _
              exact ⟨rfl, _, hs424, hf428, hf429, hf430, hf431, hf432, hf433, hf436, hf437, hf438, hf439, hf440, hf441, hS446⟩
          · rintro f448 wd449 ⟨x452, rfl, hq450⟩
            replace hb80 := onRes_fin hb80
            replace hq450 : f448 2 = (Value.pointer (some ⟨b1, 0, none⟩)) ∧ f448 4 = (Value.pointer (some ⟨b9, 0, none⟩)) ∧ f448 5 = u15 ∧ f448 6 = (Value.pointer (some ⟨b34, 0, none⟩)) ∧ f448 7 = (Value.int .i64 (k43 : Int)) ∧ f448 8 = (Value.int .i64 x64) ∧ f448 19 = u15 ∧ f448 20 = (Value.int .i64 ((x13).length : Int)) ∧ f448 21 = (Value.int .i64 (k43 : Int)) ∧ f448 26 = u15 ∧ f448 27 = (Value.int .i64 ((x13).length : Int)) ∧ f448 28 = (Value.int .i64 (k74 : Int)) ∧ St wd2 wd449 [bx b9 [(Value.slice none 0 0)], (Ty.sl (Ty.i .i64)).at u15 x13, (Ty.sl (Ty.sl (Ty.sl (Ty.i .i64)))).at u29 x452, bx b34 [u29]] := hq450
            obtain ⟨hf453, hf454, hf455, hf456, hf457, hf458, hf459, hf460, hf461, hf462, hf463, hf464, hS465⟩ := hq450
            show W _ _ _ _ _ _
            refine W.region ?_
            refine WL.val (Value.int .i64 (w64 ((k74 : Int) + (1 : Int)))) _ (op_add hf464 rfl) rfl ?_
            refine WL.val (Value.int .i64 (w64 ((k74 : Int) + (1 : Int)))) _ (op_move rfl) rfl ?_
            refine WL.nil ?_
            obtain rfl := Option.some.inj hb80
            show ∃ s, _ = Ctl.next s ∧ _
            exact ⟨_, rfl, hf453, hf454, hf455, hf456, hf457, hf458, hf459, hf460, hf461, hf462, hf463, (ctr_next hl98 hr71), (ctr_rng hl98 hr71), hS465⟩
        · intro x473 f468 wd469 hs470 hI471
          replace hI471 : f468 2 = (Value.pointer (some ⟨b1, 0, none⟩)) ∧ f468 4 = (Value.pointer (some ⟨b9, 0, none⟩)) ∧ f468 5 = u15 ∧ f468 6 = (Value.pointer (some ⟨b34, 0, none⟩)) ∧ f468 7 = (Value.int .i64 (k43 : Int)) ∧ f468 8 = (Value.int .i64 x64) ∧ f468 19 = u15 ∧ f468 20 = (Value.int .i64 ((x13).length : Int)) ∧ f468 21 = (Value.int .i64 (k43 : Int)) ∧ f468 26 = u15 ∧ f468 27 = (Value.int .i64 ((x13).length : Int)) ∧ f468 28 = Value.int .i64 (((x13).length : Nat) : Int) ∧ InR .i64 (((x13).length : Nat) : Int) ∧ St wd2 wd469 [bx b9 [(Value.slice none 0 0)], (Ty.sl (Ty.i .i64)).at u15 x13, (Ty.sl (Ty.sl (Ty.sl (Ty.i .i64)))).at u29 x473, bx b34 [u29]] := hI471
          obtain ⟨hf474, hf475, hf476, hf477, hf478, hf479, hf480, hf481, hf482, hf483, hf484, hf485, hr486, hS487⟩ := hI471
          refine W.seq (W.region ?_)
          refine WL.val (Value.bool (decide ((((x13).length : Nat) : Int) < ((x13).length : Int)))) _ (op_lss hf485 hf484) rfl ?_
          have hl488 : ¬ (((x13).length : Nat) : Int) < ((x13).length : Int) := by omega
          refine WL.nil ?_
          refine W.seq ?_
          refine W.condF (decide ((((x13).length : Nat) : Int) < ((x13).length : Int))) rfl (decide_eq_false hl488) ?_
          refine W.exit ?_
          show _ = _ ∧ _
          exact ⟨rfl, _, hs470, hf474, hf475, hf476, hf477, hf480, hf481, hf482, hS487⟩
      · rintro f489 wd490 ⟨x493, rfl, hq491⟩
        replace hb49 := onRes_fin hb49
        replace hq491 : f489 2 = (Value.pointer (some ⟨b1, 0, none⟩)) ∧ f489 4 = (Value.pointer (some ⟨b9, 0, none⟩)) ∧ f489 5 = u15 ∧ f489 6 = (Value.pointer (some ⟨b34, 0, none⟩)) ∧ f489 19 = u15 ∧ f489 20 = (Value.int .i64 ((x13).length : Int)) ∧ f489 21 = (Value.int .i64 (k43 : Int)) ∧ St wd2 wd490 [bx b9 [(Value.slice none 0 0)], (Ty.sl (Ty.i .i64)).at u15 x13, (Ty.sl (Ty.sl (Ty.sl (Ty.i .i64)))).at u29 x493, bx b34 [u29]] := hq491
        obtain ⟨hf494, hf495, hf496, hf497, hf498, hf499, hf500, hS501⟩ := hq491
        show W _ _ _ _ _ _
        refine W.region ?_
        refine WL.val (Value.int .i64 (w64 ((k43 : Int) + (1 : Int)))) _ (op_add hf500 rfl) rfl ?_
        refine WL.val (Value.int .i64 (w64 ((k43 : Int) + (1 : Int)))) _ (op_move rfl) rfl ?_
        refine WL.nil ?_
        obtain rfl := Option.some.inj hb49
        show ∃ s, _ = Ctl.next s ∧ _
        exact ⟨_, rfl, hf494, hf495, hf496, hf497, hf498, hf499, (ctr_next hl62 hr40), (ctr_rng hl62 hr40), hS501⟩
    · intro x509 f504 wd505 hs506 hI507
      replace hI507 : f504 2 = (Value.pointer (some ⟨b1, 0, none⟩)) ∧ f504 4 = (Value.pointer (some ⟨b9, 0, none⟩)) ∧ f504 5 = u15 ∧ f504 6 = (Value.pointer (some ⟨b34, 0, none⟩)) ∧ f504 19 = u15 ∧ f504 20 = (Value.int .i64 ((x13).length : Int)) ∧ f504 21 = Value.int .i64 (((x13).length : Nat) : Int) ∧ InR .i64 (((x13).length : Nat) : Int) ∧ St wd2 wd505 [bx b9 [(Value.slice none 0 0)], (Ty.sl (Ty.i .i64)).at u15 x13, (Ty.sl (Ty.sl (Ty.sl (Ty.i .i64)))).at u29 x509, bx b34 [u29]] := hI507
      obtain ⟨hf510, hf511, hf512, hf513, hf514, hf515, hf516, hr517, hS518⟩ := hI507
      refine W.seq (W.region ?_)
      refine WL.val (Value.bool (decide ((((x13).length : Nat) : Int) < ((x13).length : Int)))) _ (op_lss hf516 hf515) rfl ?_
      have hl519 : ¬ (((x13).length : Nat) : Int) < ((x13).length : Int) := by omega
      refine WL.nil ?_
      refine W.seq ?_
      refine W.condF (decide ((((x13).length : Nat) : Int) < ((x13).length : Int))) rfl (decide_eq_false hl519) ?_
      refine W.exit ?_
      show _ = _ ∧ _
      exact ⟨rfl, _, hs506, hf511, hf513, (St.pick hS518 [0, 2, 3] rfl)⟩
  · rintro f520 wd521 ⟨x524, rfl, hq522⟩
    replace h := onRes_fin h
    replace hq522 : f520 4 = (Value.pointer (some ⟨b9, 0, none⟩)) ∧ f520 6 = (Value.pointer (some ⟨b34, 0, none⟩)) ∧ St wd2 wd521 [bx b9 [(Value.slice none 0 0)], (Ty.sl (Ty.sl (Ty.sl (Ty.i .i64)))).at u29 x524, bx b34 [u29]] := hq522
    obtain ⟨hf525, hf526, hS527⟩ := hq522
    refine W.seq (W.region ?_)
    refine WL.val (Value.agg #[u29]) _ (op_loadBox st_26 hf526 (St.boxAt hS527 2 rfl) rfl rfl) rfl ?_
    refine WL.storeBox [u29] hS527 (k := 0) rfl hf525 rfl (us := [u29]) rfl sz_26 rfl rfl (all_rep (St.rep (t := (Ty.sl (Ty.sl (Ty.sl (Ty.i .i64))))) hS527 1 rfl) all_nil) rfl ?_
    intro wd528 hS529
    replace hS529 : St wd2 wd528 [bx b9 [u29], (Ty.sl (Ty.sl (Ty.sl (Ty.i .i64)))).at u29 x524, bx b34 [u29]] := hS529
    refine WL.nil ?_
    refine W.ret ?_
    obtain rfl := Option.some.inj h
    show FinP _ _ _ _ _ _ _
    exact FinP.ret _ (resC rfl hf525 st_26 (St.boxAt hS529 0 rfl) rfl) ⟨u29, rfl, (Ext.trans hE7 hS529.ext), (St.out (St.pick hS529 [1] rfl) (hE7))⟩

theorem c_laws_eqInt64S {w : World} {a : (List Int)} {v_a : Value} {b : (List Int)} {v_b : Value} (r_a : (Ty.sl (Ty.i .i64)).rep w v_a a) (r_b : (Ty.sl (Ty.i .i64)).rep w v_b b) {res : Bool} (h : p_laws_eqInt64S a b  = some res) :
    Ret Tryd.prog 17 #[v_a, v_b] w (fun v w' => v = Value.bool res ∧ Ext w w') := by
  unfold p_laws_eqInt64S at h
  have hS0 : St w w [] := St.start w
  refine Ret.start (fn := Tryd.f17) Tryd.func17 rfl 26 rfl rfl ?_
  refine W.seq (W.region ?_)
  refine WL.val (Value.bool false) _ (op_assign rfl) rfl ?_
  refine WL.nil ?_
  refine W.seq (W.seq (W.region ?_))
  refine WL.val v_a _ (op_move rfl) rfl ?_
  have hr1 := inR_len (Ty.lift _ hS0.ext r_a)
  refine WL.val (Value.int .i64 ((a).length : Int)) _ (op_lenL sl_33 (Ty.lift _ hS0.ext r_a) rfl) rfl ?_
  refine WL.val v_b _ (op_move rfl) rfl ?_
  have hr2 := inR_len (Ty.lift _ hS0.ext r_b)
  refine WL.val (Value.int .i64 ((b).length : Int)) _ (op_lenL sl_33 (Ty.lift _ hS0.ext r_b) rfl) rfl ?_
  refine WL.val (Value.bool (((a).length : Int) != ((b).length : Int))) _ (op_neq rfl rfl) rfl ?_
  refine WL.nil ?_
  refine W.cond (((a).length : Int) != ((b).length : Int)) rfl (fun hc3 => ?_) (fun hc3 => ?_)
  · replace h := ip h hc3
    refine W.seq (W.region ?_)
    refine WL.val (Value.bool false) _ (op_assign rfl) rfl ?_
    refine WL.nil ?_
    refine W.ret ?_
    obtain rfl := Option.some.inj h
    show FinP _ _ _ _ _ _ _
    exact FinP.ret _ (res1 rfl rfl) ⟨rfl, hS0.ext⟩
  · replace h := inegb h hc3
    refine W.skip ?_
    refine W.seq (W.seq (W.region ?_))
    refine WL.val (Value.int .i64 (0 : Int)) _ (op_assign rfl) rfl ?_
    refine WL.nil ?_
    show W _ _ _ _ _ _
    obtain ⟨res5, hres6, h⟩ := bs h
    refine W.blockLoop (fun fq wq => ∃ s, res5 = Res.fin s ∧ St w wq []) ?_ ?_
    · refine W.forN (fun k (s : Unit) fq wq => fq 0 = v_a ∧ fq 1 = v_b ∧ fq 5 = Value.int .i64 (k : Int) ∧ InR .i64 (k : Int) ∧ St w wq []) hres6 ⟨rfl, rfl, rfl, (inL rfl), hS0⟩ ?_ ?_
      · intro k7 s134 ct8 f9 wd10 hk11 hb12 hI13 hbrk14 hret15
        obtain ⟨⟩ := s134
        replace hI13 : f9 0 = v_a ∧ f9 1 = v_b ∧ f9 5 = Value.int .i64 (k7 : Int) ∧ InR .i64 (k7 : Int) ∧ St w wd10 [] := hI13
        replace hb12 : p_laws_eqInt64S_L1 a b k7  = some ct8 := hb12
        unfold p_laws_eqInt64S_L1 at hb12
        obtain ⟨hf16, hf17, hf18, hr19, hS20⟩ := hI13
        refine W.seq (W.seq (W.region ?_))
        refine WL.val (Value.int .i64 (k7 : Int)) _ (op_move hf18) rfl ?_
        refine WL.val v_a _ (op_move hf16) rfl ?_
        have hr21 := inR_len (Ty.lift _ hS20.ext r_a)
        refine WL.val (Value.int .i64 ((a).length : Int)) _ (op_lenL sl_33 (Ty.lift _ hS20.ext r_a) rfl) rfl ?_
        refine WL.val (Value.bool (decide ((k7 : Int) < ((a).length : Int)))) _ (op_lss rfl rfl) rfl ?_
        have hl22 : (k7 : Int) < ((a).length : Int) := by omega
        refine WL.nil ?_
        refine W.condT (decide ((k7 : Int) < ((a).length : Int))) rfl (decide_eq_true hl22) ?_
        refine W.skip ?_
        refine W.seq ?_
        refine W.block ?_
        refine W.seq ?_
        obtain ⟨x53, hx56, hb12⟩ := bs hb12
        obtain ⟨ha54, hb55, hx56⟩ := idx_some hx56
        obtain ⟨u67, hc68, hr69⟩ := repSl.el r_a hx56
        obtain ⟨rfl, hr69⟩ := hr69
        obtain ⟨x99, hx102, hb12⟩ := bs hb12
        obtain ⟨ha100, hb101, hx102⟩ := idx_some hx102
        obtain ⟨u113, hc114, hr115⟩ := repSl.el r_b hx102
        obtain ⟨rfl, hr115⟩ := hr115
        refine W.drawR mixo 8 [] [fun _ v _ _ => v = v_a, fun _ v _ _ => v = (Value.int .i64 (k7 : Int)) ∧ InR .i64 (k7 : Int), fun _ v _ _ => v = (Value.pointer (some (elA v_a ((k7 : Int)).toNat))), fun _ v _ _ => v = (Value.int .i64 x53) ∧ InR .i64 x53, fun _ v _ _ => v = v_b, fun _ v _ _ => v = (Value.int .i64 (k7 : Int)) ∧ InR .i64 (k7 : Int), fun _ v _ _ => v = (Value.pointer (some (elA v_b ((k7 : Int)).toNat))), fun _ v _ _ => v = (Value.int .i64 x99) ∧ InR .i64 x99] (by kernel_rfl) (by kernel_rfl) ⟨pk, pk, pk, pk, pk, pk, pk, pk, trivial⟩ ⟨?_, ?_, ?_, ?_, ?_, ?_, ?_, ?_, trivial⟩ ?_
        · refine ObX.op rfl fun f24 wd25 he26 hout27 hphi28 => ?_
          have e30 : f24 0 = v_a := (hout27 0 rfl).trans hf16
          exact OpX.val v_a wd25 rfl (op_move e30) (Ext.refl _) rfl
        · refine ObX.op rfl fun f31 wd32 he33 hout34 hphi35 => ?_
          have e37 : f31 5 = (Value.int .i64 (k7 : Int)) := (hout34 5 rfl).trans hf18
          exact OpX.val (Value.int .i64 (k7 : Int)) wd32 rfl (op_move e37) (Ext.refl _) ⟨rfl, hr19⟩
        · refine ObX.op rfl fun f38 wd39 he40 hout41 hphi42 => ?_
          have hS43 := St.extend hS20 he40
          obtain ⟨S44, hS45, hf46⟩ := hphi42 0 17 _ rfl rfl rfl
          have e47 : f38 17 = v_a := hf46
          obtain ⟨S48, hS49, hf50⟩ := hphi42 1 18 _ rfl rfl rfl
          obtain ⟨e51, hr52⟩ := hf50
          exact OpX.val (Value.pointer (some (elA v_a ((k7 : Int)).toNat))) wd39 rfl (op_idx sl_33 (Ty.lift _ hS43.ext r_a) e47 e51 ha54 hb55) (Ext.refl _) rfl
        · refine ObX.op rfl fun f57 wd58 he59 hout60 hphi61 => ?_
          have hS62 := St.extend hS20 he59
          obtain ⟨S63, hS64, hf65⟩ := hphi61 2 19 _ rfl rfl rfl
          have e66 : f57 19 = (Value.pointer (some (elA v_a ((k7 : Int)).toNat))) := hf65
          exact OpX.val (Value.int .i64 x53) wd58 rfl (op_load one_2 e66 (Ext.cell hS62.ext hc68)) (Ext.refl _) ⟨rfl, hr69⟩
        · refine ObX.op rfl fun f70 wd71 he72 hout73 hphi74 => ?_
          have e76 : f70 1 = v_b := (hout73 1 rfl).trans hf17
          exact OpX.val v_b wd71 rfl (op_move e76) (Ext.refl _) rfl
        · refine ObX.op rfl fun f77 wd78 he79 hout80 hphi81 => ?_
          have e83 : f77 5 = (Value.int .i64 (k7 : Int)) := (hout80 5 rfl).trans hf18
          exact OpX.val (Value.int .i64 (k7 : Int)) wd78 rfl (op_move e83) (Ext.refl _) ⟨rfl, hr19⟩
        · refine ObX.op rfl fun f84 wd85 he86 hout87 hphi88 => ?_
          have hS89 := St.extend hS20 he86
          obtain ⟨S90, hS91, hf92⟩ := hphi88 4 21 _ rfl rfl rfl
          have e93 : f84 21 = v_b := hf92
          obtain ⟨S94, hS95, hf96⟩ := hphi88 5 22 _ rfl rfl rfl
          obtain ⟨e97, hr98⟩ := hf96
          exact OpX.val (Value.pointer (some (elA v_b ((k7 : Int)).toNat))) wd85 rfl (op_idx sl_33 (Ty.lift _ hS89.ext r_b) e93 e97 ha100 hb101) (Ext.refl _) rfl
        · refine ObX.op rfl fun f103 wd104 he105 hout106 hphi107 => ?_
          have hS108 := St.extend hS20 he105
          obtain ⟨S109, hS110, hf111⟩ := hphi107 6 23 _ rfl rfl rfl
          have e112 : f103 23 = (Value.pointer (some (elA v_b ((k7 : Int)).toNat))) := hf111
          exact OpX.val (Value.int .i64 x99) wd104 rfl (op_load one_2 e112 (Ext.cell hS108.ext hc114)) (Ext.refl _) ⟨rfl, hr115⟩
        · intro f116 wd117 Ss118 he119 hout120 hSn121 hSd122 hphi123
          show WL _ _ _ _ _ _ _
          have hS124 := St.extend hS20 he119
          obtain ⟨e125, hr126⟩ := hphi123 3 20 _ (by decide) rfl rfl
          obtain ⟨e127, hr128⟩ := hphi123 7 24 _ (by decide) rfl rfl
          have e129 : f116 0 = v_a := (hout120 0 rfl).trans hf16
          have e130 : f116 1 = v_b := (hout120 1 rfl).trans hf17
          have e131 : f116 5 = (Value.int .i64 (k7 : Int)) := (hout120 5 rfl).trans hf18
          refine WL.val (Value.bool (x53 != x99)) _ (op_neq e125 e127) rfl ?_
          refine WL.nil ?_
          refine W.cond (x53 != x99) rfl (fun hc132 => ?_) (fun hc132 => ?_)
          · replace hb12 := ip hb12 hc132
            refine W.seq (W.region ?_)
            refine WL.val (Value.bool false) _ (op_assign rfl) rfl ?_
            refine WL.nil ?_
            refine W.ret ?_
            obtain rfl := Option.some.inj hb12
            obtain rfl := hret15 _ rfl
            replace h := onRes_ret h
            obtain rfl := Option.some.inj h
            show FinP _ _ _ _ _ _ _
            exact FinP.ret _ (res1 rfl rfl) ⟨rfl, hS124.ext⟩
          · replace hb12 := inegb hb12 hc132
            refine W.skip ?_
            show W _ _ _ _ _ _
            refine W.region ?_
            refine WL.val (Value.int .i64 (k7 : Int)) _ (op_move e131) rfl ?_
            refine WL.val (Value.int .i64 (w64 ((k7 : Int) + (1 : Int)))) _ (op_add rfl rfl) rfl ?_
            refine WL.val (Value.int .i64 (w64 ((k7 : Int) + (1 : Int)))) _ (op_assign rfl) rfl ?_
            refine WL.nil ?_
            obtain rfl := Option.some.inj hb12
            show ∃ s, _ = Ctl.next s ∧ _
            exact ⟨_, rfl, e129, e130, (ctr_next hl22 hr21), (ctr_rng hl22 hr21), hS124⟩
      · intro s139 f135 wd136 hs137 hI138
        obtain ⟨⟩ := s139
        replace hI138 : f135 0 = v_a ∧ f135 1 = v_b ∧ f135 5 = Value.int .i64 (((a).length : Nat) : Int) ∧ InR .i64 (((a).length : Nat) : Int) ∧ St w wd136 [] := hI138
        obtain ⟨hf140, hf141, hf142, hr143, hS144⟩ := hI138
        refine W.seq (W.seq (W.region ?_))
        refine WL.val (Value.int .i64 (((a).length : Nat) : Int)) _ (op_move hf142) rfl ?_
        refine WL.val v_a _ (op_move hf140) rfl ?_
        have hr145 := inR_len (Ty.lift _ hS144.ext r_a)
        refine WL.val (Value.int .i64 ((a).length : Int)) _ (op_lenL sl_33 (Ty.lift _ hS144.ext r_a) rfl) rfl ?_
        refine WL.val (Value.bool (decide ((((a).length : Nat) : Int) < ((a).length : Int)))) _ (op_lss rfl rfl) rfl ?_
        have hl146 : ¬ (((a).length : Nat) : Int) < ((a).length : Int) := by omega
        refine WL.nil ?_
        refine W.condF (decide ((((a).length : Nat) : Int) < ((a).length : Int))) rfl (decide_eq_false hl146) ?_
        refine W.exit ?_
        show _ = _ ∧ _
        exact ⟨rfl, _, hs137, hS144⟩
    · rintro f147 wd148 ⟨s150, rfl, hq149⟩
      replace h := onRes_fin h
      obtain ⟨⟩ := s150
      replace hq149 : St w wd148 [] := hq149
      have hS151 := hq149
      refine W.seq (W.region ?_)
      refine WL.val (Value.bool true) _ (op_assign rfl) rfl ?_
      refine WL.nil ?_
      refine W.ret ?_
      obtain rfl := Option.some.inj h
      show FinP _ _ _ _ _ _ _
      exact FinP.ret _ (res1 rfl rfl) ⟨rfl, hS151.ext⟩

theorem c_laws_eqInt64SS {w : World} {a : (List (List Int))} {v_a : Value} {b : (List (List Int))} {v_b : Value} (r_a : (Ty.sl (Ty.sl (Ty.i .i64))).rep w v_a a) (r_b : (Ty.sl (Ty.sl (Ty.i .i64))).rep w v_b b) {res : Bool} (h : p_laws_eqInt64SS a b  = some res) :
    Ret Tryd.prog 24 #[v_a, v_b] w (fun v w' => v = Value.bool res ∧ Ext w w') := by
  unfold p_laws_eqInt64SS at h
  have hS0 : St w w [] := St.start w
  refine Ret.start (fn := Tryd.f24) Tryd.func24 rfl 27 rfl rfl ?_
  refine W.seq (W.region ?_)
  refine WL.val (Value.bool false) _ (op_assign rfl) rfl ?_
  refine WL.nil ?_
  refine W.seq (W.seq (W.region ?_))
  refine WL.val v_a _ (op_move rfl) rfl ?_
  have hr1 := inR_len (Ty.lift _ hS0.ext r_a)
  refine WL.val (Value.int .i64 ((a).length : Int)) _ (op_lenL sl_41 (Ty.lift _ hS0.ext r_a) rfl) rfl ?_
  refine WL.val v_b _ (op_move rfl) rfl ?_
  have hr2 := inR_len (Ty.lift _ hS0.ext r_b)
  refine WL.val (Value.int .i64 ((b).length : Int)) _ (op_lenL sl_41 (Ty.lift _ hS0.ext r_b) rfl) rfl ?_
  refine WL.val (Value.bool (((a).length : Int) != ((b).length : Int))) _ (op_neq rfl rfl) rfl ?_
  refine WL.nil ?_
  refine W.cond (((a).length : Int) != ((b).length : Int)) rfl (fun hc3 => ?_) (fun hc3 => ?_)
  · replace h := ip h hc3
    refine W.seq (W.region ?_)
    refine WL.val (Value.bool false) _ (op_assign rfl) rfl ?_
    refine WL.nil ?_
    refine W.ret ?_
    obtain rfl := Option.some.inj h
    show FinP _ _ _ _ _ _ _
    exact FinP.ret _ (res1 rfl rfl) ⟨rfl, hS0.ext⟩
  · replace h := inegb h hc3
    refine W.skip ?_
    refine W.seq (W.seq (W.region ?_))
    refine WL.val (Value.int .i64 (0 : Int)) _ (op_assign rfl) rfl ?_
    refine WL.nil ?_
    show W _ _ _ _ _ _
    obtain ⟨res5, hres6, h⟩ := bs h
    refine W.blockLoop (fun fq wq => ∃ s, res5 = Res.fin s ∧ St w wq []) ?_ ?_
    · refine W.forN (fun k (s : Unit) fq wq => fq 0 = v_a ∧ fq 1 = v_b ∧ fq 5 = Value.int .i64 (k : Int) ∧ InR .i64 (k : Int) ∧ St w wq []) hres6 ⟨rfl, rfl, rfl, (inL rfl), hS0⟩ ?_ ?_
      · intro k7 s138 ct8 f9 wd10 hk11 hb12 hI13 hbrk14 hret15
        obtain ⟨⟩ := s138
        replace hI13 : f9 0 = v_a ∧ f9 1 = v_b ∧ f9 5 = Value.int .i64 (k7 : Int) ∧ InR .i64 (k7 : Int) ∧ St w wd10 [] := hI13
        replace hb12 : p_laws_eqInt64SS_L1 a b k7  = some ct8 := hb12
        unfold p_laws_eqInt64SS_L1 at hb12
        obtain ⟨hf16, hf17, hf18, hr19, hS20⟩ := hI13
        refine W.seq (W.seq (W.region ?_))
        refine WL.val (Value.int .i64 (k7 : Int)) _ (op_move hf18) rfl ?_
        refine WL.val v_a _ (op_move hf16) rfl ?_
        have hr21 := inR_len (Ty.lift _ hS20.ext r_a)
        refine WL.val (Value.int .i64 ((a).length : Int)) _ (op_lenL sl_41 (Ty.lift _ hS20.ext r_a) rfl) rfl ?_
        refine WL.val (Value.bool (decide ((k7 : Int) < ((a).length : Int)))) _ (op_lss rfl rfl) rfl ?_
        have hl22 : (k7 : Int) < ((a).length : Int) := by omega
        refine WL.nil ?_
        refine W.condT (decide ((k7 : Int) < ((a).length : Int))) rfl (decide_eq_true hl22) ?_
        refine W.skip ?_
        refine W.seq ?_
        refine W.block ?_
        refine W.seq ?_
        obtain ⟨x53, hx56, hb12⟩ := bs hb12
        obtain ⟨ha54, hb55, hx56⟩ := idx_some hx56
        obtain ⟨u67, hc68, hr69⟩ := repSl.el r_a hx56
        obtain ⟨x99, hx102, hb12⟩ := bs hb12
        obtain ⟨ha100, hb101, hx102⟩ := idx_some hx102
        obtain ⟨u113, hc114, hr115⟩ := repSl.el r_b hx102
        refine W.drawR mixo 8 [] [fun _ v _ _ => v = v_a, fun _ v _ _ => v = (Value.int .i64 (k7 : Int)) ∧ InR .i64 (k7 : Int), fun _ v _ _ => v = (Value.pointer (some (elA v_a ((k7 : Int)).toNat))), fun _ v _ _ => v = u67, fun _ v _ _ => v = v_b, fun _ v _ _ => v = (Value.int .i64 (k7 : Int)) ∧ InR .i64 (k7 : Int), fun _ v _ _ => v = (Value.pointer (some (elA v_b ((k7 : Int)).toNat))), fun _ v _ _ => v = u113] (by kernel_rfl) (by kernel_rfl) ⟨pk, pk, pk, pk, pk, pk, pk, pk, trivial⟩ ⟨?_, ?_, ?_, ?_, ?_, ?_, ?_, ?_, trivial⟩ ?_
        · refine ObX.op rfl fun f24 wd25 he26 hout27 hphi28 => ?_
          have e30 : f24 0 = v_a := (hout27 0 rfl).trans hf16
          exact OpX.val v_a wd25 rfl (op_move e30) (Ext.refl _) rfl
        · refine ObX.op rfl fun f31 wd32 he33 hout34 hphi35 => ?_
          have e37 : f31 5 = (Value.int .i64 (k7 : Int)) := (hout34 5 rfl).trans hf18
          exact OpX.val (Value.int .i64 (k7 : Int)) wd32 rfl (op_move e37) (Ext.refl _) ⟨rfl, hr19⟩
        · refine ObX.op rfl fun f38 wd39 he40 hout41 hphi42 => ?_
          have hS43 := St.extend hS20 he40
          obtain ⟨S44, hS45, hf46⟩ := hphi42 0 17 _ rfl rfl rfl
          have e47 : f38 17 = v_a := hf46
          obtain ⟨S48, hS49, hf50⟩ := hphi42 1 18 _ rfl rfl rfl
          obtain ⟨e51, hr52⟩ := hf50
          exact OpX.val (Value.pointer (some (elA v_a ((k7 : Int)).toNat))) wd39 rfl (op_idx sl_41 (Ty.lift _ hS43.ext r_a) e47 e51 ha54 hb55) (Ext.refl _) rfl
        · refine ObX.op rfl fun f57 wd58 he59 hout60 hphi61 => ?_
          have hS62 := St.extend hS20 he59
          obtain ⟨S63, hS64, hf65⟩ := hphi61 2 19 _ rfl rfl rfl
          have e66 : f57 19 = (Value.pointer (some (elA v_a ((k7 : Int)).toNat))) := hf65
          exact OpX.val u67 wd58 rfl (op_load one_33 e66 (Ext.cell hS62.ext hc68)) (Ext.refl _) rfl
        · refine ObX.op rfl fun f70 wd71 he72 hout73 hphi74 => ?_
          have e76 : f70 1 = v_b := (hout73 1 rfl).trans hf17
          exact OpX.val v_b wd71 rfl (op_move e76) (Ext.refl _) rfl
        · refine ObX.op rfl fun f77 wd78 he79 hout80 hphi81 => ?_
          have e83 : f77 5 = (Value.int .i64 (k7 : Int)) := (hout80 5 rfl).trans hf18
          exact OpX.val (Value.int .i64 (k7 : Int)) wd78 rfl (op_move e83) (Ext.refl _) ⟨rfl, hr19⟩
        · refine ObX.op rfl fun f84 wd85 he86 hout87 hphi88 => ?_
          have hS89 := St.extend hS20 he86
          obtain ⟨S90, hS91, hf92⟩ := hphi88 4 21 _ rfl rfl rfl
          have e93 : f84 21 = v_b := hf92
          obtain ⟨S94, hS95, hf96⟩ := hphi88 5 22 _ rfl rfl rfl
          obtain ⟨e97, hr98⟩ := hf96
          exact OpX.val (Value.pointer (some (elA v_b ((k7 : Int)).toNat))) wd85 rfl (op_idx sl_41 (Ty.lift _ hS89.ext r_b) e93 e97 ha100 hb101) (Ext.refl _) rfl
        · refine ObX.op rfl fun f103 wd104 he105 hout106 hphi107 => ?_
          have hS108 := St.extend hS20 he105
          obtain ⟨S109, hS110, hf111⟩ := hphi107 6 23 _ rfl rfl rfl
          have e112 : f103 23 = (Value.pointer (some (elA v_b ((k7 : Int)).toNat))) := hf111
          exact OpX.val u113 wd104 rfl (op_load one_33 e112 (Ext.cell hS108.ext hc114)) (Ext.refl _) rfl
        · intro f116 wd117 Ss118 he119 hout120 hSn121 hSd122 hphi123
          show WL _ _ _ _ _ _ _
          have hS124 := St.extend hS20 he119
          have e125 : f116 20 = u67 := hphi123 3 20 _ (by decide) rfl rfl
          have e126 : f116 24 = u113 := hphi123 7 24 _ (by decide) rfl rfl
          have e127 : f116 0 = v_a := (hout120 0 rfl).trans hf16
          have e128 : f116 1 = v_b := (hout120 1 rfl).trans hf17
          have e129 : f116 5 = (Value.int .i64 (k7 : Int)) := (hout120 5 rfl).trans hf18
          obtain ⟨x130, hx131, hb12⟩ := bs hb12
          refine WL.call _ (op_call fn_17 (args2 e125 e126)) (c_laws_eqInt64S (Ty.lift _ hS124.ext hr69) (Ty.lift _ hS124.ext hr115) hx131) rfl ?_
          rintro _ wd132 ⟨rfl, he133⟩
          have hS135 := St.extend hS124 he133
          replace hS135 : St w wd132 [] := hS135
          refine WL.val (Value.bool (!x130)) _ (op_not rfl) rfl ?_
          refine WL.nil ?_
          refine W.cond (!x130) rfl (fun hc136 => ?_) (fun hc136 => ?_)
          · replace hb12 := ip hb12 hc136
            refine W.seq (W.region ?_)
            refine WL.val (Value.bool false) _ (op_assign rfl) rfl ?_
            refine WL.nil ?_
            refine W.ret ?_
            obtain rfl := Option.some.inj hb12
            obtain rfl := hret15 _ rfl
            replace h := onRes_ret h
            obtain rfl := Option.some.inj h
            show FinP _ _ _ _ _ _ _
            exact FinP.ret _ (res1 rfl rfl) ⟨rfl, hS135.ext⟩
          · replace hb12 := inegb hb12 hc136
            refine W.skip ?_
            show W _ _ _ _ _ _
            refine W.region ?_
            refine WL.val (Value.int .i64 (k7 : Int)) _ (op_move e129) rfl ?_
            refine WL.val (Value.int .i64 (w64 ((k7 : Int) + (1 : Int)))) _ (op_add rfl rfl) rfl ?_
            refine WL.val (Value.int .i64 (w64 ((k7 : Int) + (1 : Int)))) _ (op_assign rfl) rfl ?_
            refine WL.nil ?_
            obtain rfl := Option.some.inj hb12
            show ∃ s, _ = Ctl.next s ∧ _
            exact ⟨_, rfl, e127, e128, (ctr_next hl22 hr21), (ctr_rng hl22 hr21), hS135⟩
      · intro s143 f139 wd140 hs141 hI142
        obtain ⟨⟩ := s143
        replace hI142 : f139 0 = v_a ∧ f139 1 = v_b ∧ f139 5 = Value.int .i64 (((a).length : Nat) : Int) ∧ InR .i64 (((a).length : Nat) : Int) ∧ St w wd140 [] := hI142
        obtain ⟨hf144, hf145, hf146, hr147, hS148⟩ := hI142
        refine W.seq (W.seq (W.region ?_))
        refine WL.val (Value.int .i64 (((a).length : Nat) : Int)) _ (op_move hf146) rfl ?_
        refine WL.val v_a _ (op_move hf144) rfl ?_
        have hr149 := inR_len (Ty.lift _ hS148.ext r_a)
        refine WL.val (Value.int .i64 ((a).length : Int)) _ (op_lenL sl_41 (Ty.lift _ hS148.ext r_a) rfl) rfl ?_
        refine WL.val (Value.bool (decide ((((a).length : Nat) : Int) < ((a).length : Int)))) _ (op_lss rfl rfl) rfl ?_
        have hl150 : ¬ (((a).length : Nat) : Int) < ((a).length : Int) := by omega
        refine WL.nil ?_
        refine W.condF (decide ((((a).length : Nat) : Int) < ((a).length : Int))) rfl (decide_eq_false hl150) ?_
        refine W.exit ?_
        show _ = _ ∧ _
        exact ⟨rfl, _, hs141, hS148⟩
    · rintro f151 wd152 ⟨s154, rfl, hq153⟩
      replace h := onRes_fin h
      obtain ⟨⟩ := s154
      replace hq153 : St w wd152 [] := hq153
      have hS155 := hq153
      refine W.seq (W.region ?_)
      refine WL.val (Value.bool true) _ (op_assign rfl) rfl ?_
      refine WL.nil ?_
      refine W.ret ?_
      obtain rfl := Option.some.inj h
      show FinP _ _ _ _ _ _ _
      exact FinP.ret _ (res1 rfl rfl) ⟨rfl, hS155.ext⟩

theorem c_laws_eqInt64SSS {w : World} {a : (List (List (List Int)))} {v_a : Value} {b : (List (List (List Int)))} {v_b : Value} (r_a : (Ty.sl (Ty.sl (Ty.sl (Ty.i .i64)))).rep w v_a a) (r_b : (Ty.sl (Ty.sl (Ty.sl (Ty.i .i64)))).rep w v_b b) {res : Bool} (h : p_laws_eqInt64SSS a b  = some res) :
    Ret Tryd.prog 37 #[v_a, v_b] w (fun v w' => v = Value.bool res ∧ Ext w w') := by
  unfold p_laws_eqInt64SSS at h
  have hS0 : St w w [] := St.start w
  refine Ret.start (fn := Tryd.f37) Tryd.func37 rfl 27 rfl rfl ?_
  refine W.seq (W.region ?_)
  refine WL.val (Value.bool false) _ (op_assign rfl) rfl ?_
  refine WL.nil ?_
  refine W.seq (W.seq (W.region ?_))
  refine WL.val v_a _ (op_move rfl) rfl ?_
  have hr1 := inR_len (Ty.lift _ hS0.ext r_a)
  refine WL.val (Value.int .i64 ((a).length : Int)) _ (op_lenL sl_22 (Ty.lift _ hS0.ext r_a) rfl) rfl ?_
  refine WL.val v_b _ (op_move rfl) rfl ?_
  have hr2 := inR_len (Ty.lift _ hS0.ext r_b)
  refine WL.val (Value.int .i64 ((b).length : Int)) _ (op_lenL sl_22 (Ty.lift _ hS0.ext r_b) rfl) rfl ?_
  refine WL.val (Value.bool (((a).length : Int) != ((b).length : Int))) _ (op_neq rfl rfl) rfl ?_
  refine WL.nil ?_
  refine W.cond (((a).length : Int) != ((b).length : Int)) rfl (fun hc3 => ?_) (fun hc3 => ?_)
  · replace h := ip h hc3
    refine W.seq (W.region ?_)
    refine WL.val (Value.bool false) _ (op_assign rfl) rfl ?_
    refine WL.nil ?_
    refine W.ret ?_
    obtain rfl := Option.some.inj h
    show FinP _ _ _ _ _ _ _
    exact FinP.ret _ (res1 rfl rfl) ⟨rfl, hS0.ext⟩
  · replace h := inegb h hc3
    refine W.skip ?_
    refine W.seq (W.seq (W.region ?_))
    refine WL.val (Value.int .i64 (0 : Int)) _ (op_assign rfl) rfl ?_
    refine WL.nil ?_
    show W _ _ _ _ _ _
    obtain ⟨res5, hres6, h⟩ := bs h
    refine W.blockLoop (fun fq wq => ∃ s, res5 = Res.fin s ∧ St w wq []) ?_ ?_
    · refine W.forN (fun k (s : Unit) fq wq => fq 0 = v_a ∧ fq 1 = v_b ∧ fq 5 = Value.int .i64 (k : Int) ∧ InR .i64 (k : Int) ∧ St w wq []) hres6 ⟨rfl, rfl, rfl, (inL rfl), hS0⟩ ?_ ?_
      · intro k7 s138 ct8 f9 wd10 hk11 hb12 hI13 hbrk14 hret15
        obtain ⟨⟩ := s138
        replace hI13 : f9 0 = v_a ∧ f9 1 = v_b ∧ f9 5 = Value.int .i64 (k7 : Int) ∧ InR .i64 (k7 : Int) ∧ St w wd10 [] := hI13
        replace hb12 : p_laws_eqInt64SSS_L1 a b k7  = some ct8 := hb12
        unfold p_laws_eqInt64SSS_L1 at hb12
        obtain ⟨hf16, hf17, hf18, hr19, hS20⟩ := hI13
        refine W.seq (W.seq (W.region ?_))
        refine WL.val (Value.int .i64 (k7 : Int)) _ (op_move hf18) rfl ?_
        refine WL.val v_a _ (op_move hf16) rfl ?_
        have hr21 := inR_len (Ty.lift _ hS20.ext r_a)
        refine WL.val (Value.int .i64 ((a).length : Int)) _ (op_lenL sl_22 (Ty.lift _ hS20.ext r_a) rfl) rfl ?_
        refine WL.val (Value.bool (decide ((k7 : Int) < ((a).length : Int)))) _ (op_lss rfl rfl) rfl ?_
        have hl22 : (k7 : Int) < ((a).length : Int) := by omega
        refine WL.nil ?_
        refine W.condT (decide ((k7 : Int) < ((a).length : Int))) rfl (decide_eq_true hl22) ?_
        refine W.skip ?_
        refine W.seq ?_
        refine W.block ?_
        refine W.seq ?_
        obtain ⟨x53, hx56, hb12⟩ := bs hb12
        obtain ⟨ha54, hb55, hx56⟩ := idx_some hx56
        obtain ⟨u67, hc68, hr69⟩ := repSl.el r_a hx56
        obtain ⟨x99, hx102, hb12⟩ := bs hb12
        obtain ⟨ha100, hb101, hx102⟩ := idx_some hx102
        obtain ⟨u113, hc114, hr115⟩ := repSl.el r_b hx102
        refine W.drawR mixo 8 [] [fun _ v _ _ => v = v_a, fun _ v _ _ => v = (Value.int .i64 (k7 : Int)) ∧ InR .i64 (k7 : Int), fun _ v _ _ => v = (Value.pointer (some (elA v_a ((k7 : Int)).toNat))), fun _ v _ _ => v = u67, fun _ v _ _ => v = v_b, fun _ v _ _ => v = (Value.int .i64 (k7 : Int)) ∧ InR .i64 (k7 : Int), fun _ v _ _ => v = (Value.pointer (some (elA v_b ((k7 : Int)).toNat))), fun _ v _ _ => v = u113] (by kernel_rfl) (by kernel_rfl) ⟨pk, pk, pk, pk, pk, pk, pk, pk, trivial⟩ ⟨?_, ?_, ?_, ?_, ?_, ?_, ?_, ?_, trivial⟩ ?_
        · refine ObX.op rfl fun f24 wd25 he26 hout27 hphi28 => ?_
          have e30 : f24 0 = v_a := (hout27 0 rfl).trans hf16
          exact OpX.val v_a wd25 rfl (op_move e30) (Ext.refl _) rfl
        · refine ObX.op rfl fun f31 wd32 he33 hout34 hphi35 => ?_
          have e37 : f31 5 = (Value.int .i64 (k7 : Int)) := (hout34 5 rfl).trans hf18
          exact OpX.val (Value.int .i64 (k7 : Int)) wd32 rfl (op_move e37) (Ext.refl _) ⟨rfl, hr19⟩
        · refine ObX.op rfl fun f38 wd39 he40 hout41 hphi42 => ?_
          have hS43 := St.extend hS20 he40
          obtain ⟨S44, hS45, hf46⟩ := hphi42 0 17 _ rfl rfl rfl
          have e47 : f38 17 = v_a := hf46
          obtain ⟨S48, hS49, hf50⟩ := hphi42 1 18 _ rfl rfl rfl
          obtain ⟨e51, hr52⟩ := hf50
          exact OpX.val (Value.pointer (some (elA v_a ((k7 : Int)).toNat))) wd39 rfl (op_idx sl_22 (Ty.lift _ hS43.ext r_a) e47 e51 ha54 hb55) (Ext.refl _) rfl
        · refine ObX.op rfl fun f57 wd58 he59 hout60 hphi61 => ?_
          have hS62 := St.extend hS20 he59
          obtain ⟨S63, hS64, hf65⟩ := hphi61 2 19 _ rfl rfl rfl
          have e66 : f57 19 = (Value.pointer (some (elA v_a ((k7 : Int)).toNat))) := hf65
          exact OpX.val u67 wd58 rfl (op_load one_41 e66 (Ext.cell hS62.ext hc68)) (Ext.refl _) rfl
        · refine ObX.op rfl fun f70 wd71 he72 hout73 hphi74 => ?_
          have e76 : f70 1 = v_b := (hout73 1 rfl).trans hf17
          exact OpX.val v_b wd71 rfl (op_move e76) (Ext.refl _) rfl
        · refine ObX.op rfl fun f77 wd78 he79 hout80 hphi81 => ?_
          have e83 : f77 5 = (Value.int .i64 (k7 : Int)) := (hout80 5 rfl).trans hf18
          exact OpX.val (Value.int .i64 (k7 : Int)) wd78 rfl (op_move e83) (Ext.refl _) ⟨rfl, hr19⟩
        · refine ObX.op rfl fun f84 wd85 he86 hout87 hphi88 => ?_
          have hS89 := St.extend hS20 he86
          obtain ⟨S90, hS91, hf92⟩ := hphi88 4 21 _ rfl rfl rfl
          have e93 : f84 21 = v_b := hf92
          obtain ⟨S94, hS95, hf96⟩ := hphi88 5 22 _ rfl rfl rfl
          obtain ⟨e97, hr98⟩ := hf96
          exact OpX.val (Value.pointer (some (elA v_b ((k7 : Int)).toNat))) wd85 rfl (op_idx sl_22 (Ty.lift _ hS89.ext r_b) e93 e97 ha100 hb101) (Ext.refl _) rfl
        · refine ObX.op rfl fun f103 wd104 he105 hout106 hphi107 => ?_
          have hS108 := St.extend hS20 he105
          obtain ⟨S109, hS110, hf111⟩ := hphi107 6 23 _ rfl rfl rfl
          have e112 : f103 23 = (Value.pointer (some (elA v_b ((k7 : Int)).toNat))) := hf111
          exact OpX.val u113 wd104 rfl (op_load one_41 e112 (Ext.cell hS108.ext hc114)) (Ext.refl _) rfl
        · intro f116 wd117 Ss118 he119 hout120 hSn121 hSd122 hphi123
          show WL _ _ _ _ _ _ _
          have hS124 := St.extend hS20 he119
          have e125 : f116 20 = u67 := hphi123 3 20 _ (by decide) rfl rfl
          have e126 : f116 24 = u113 := hphi123 7 24 _ (by decide) rfl rfl
          have e127 : f116 0 = v_a := (hout120 0 rfl).trans hf16
          have e128 : f116 1 = v_b := (hout120 1 rfl).trans hf17
          have e129 : f116 5 = (Value.int .i64 (k7 : Int)) := (hout120 5 rfl).trans hf18
          obtain ⟨x130, hx131, hb12⟩ := bs hb12
          refine WL.call _ (op_call fn_24 (args2 e125 e126)) (c_laws_eqInt64SS (Ty.lift _ hS124.ext hr69) (Ty.lift _ hS124.ext hr115) hx131) rfl ?_
          rintro _ wd132 ⟨rfl, he133⟩
          have hS135 := St.extend hS124 he133
          replace hS135 : St w wd132 [] := hS135
          refine WL.val (Value.bool (!x130)) _ (op_not rfl) rfl ?_
          refine WL.nil ?_
          refine W.cond (!x130) rfl (fun hc136 => ?_) (fun hc136 => ?_)
          · replace hb12 := ip hb12 hc136
            refine W.seq (W.region ?_)
            refine WL.val (Value.bool false) _ (op_assign rfl) rfl ?_
            refine WL.nil ?_
            refine W.ret ?_
            obtain rfl := Option.some.inj hb12
            obtain rfl := hret15 _ rfl
            replace h := onRes_ret h
            obtain rfl := Option.some.inj h
            show FinP _ _ _ _ _ _ _
            exact FinP.ret _ (res1 rfl rfl) ⟨rfl, hS135.ext⟩
          · replace hb12 := inegb hb12 hc136
            refine W.skip ?_
            show W _ _ _ _ _ _
            refine W.region ?_
            refine WL.val (Value.int .i64 (k7 : Int)) _ (op_move e129) rfl ?_
            refine WL.val (Value.int .i64 (w64 ((k7 : Int) + (1 : Int)))) _ (op_add rfl rfl) rfl ?_
            refine WL.val (Value.int .i64 (w64 ((k7 : Int) + (1 : Int)))) _ (op_assign rfl) rfl ?_
            refine WL.nil ?_
            obtain rfl := Option.some.inj hb12
            show ∃ s, _ = Ctl.next s ∧ _
            exact ⟨_, rfl, e127, e128, (ctr_next hl22 hr21), (ctr_rng hl22 hr21), hS135⟩
      · intro s143 f139 wd140 hs141 hI142
        obtain ⟨⟩ := s143
        replace hI142 : f139 0 = v_a ∧ f139 1 = v_b ∧ f139 5 = Value.int .i64 (((a).length : Nat) : Int) ∧ InR .i64 (((a).length : Nat) : Int) ∧ St w wd140 [] := hI142
        obtain ⟨hf144, hf145, hf146, hr147, hS148⟩ := hI142
        refine W.seq (W.seq (W.region ?_))
        refine WL.val (Value.int .i64 (((a).length : Nat) : Int)) _ (op_move hf146) rfl ?_
        refine WL.val v_a _ (op_move hf144) rfl ?_
        have hr149 := inR_len (Ty.lift _ hS148.ext r_a)
        refine WL.val (Value.int .i64 ((a).length : Int)) _ (op_lenL sl_22 (Ty.lift _ hS148.ext r_a) rfl) rfl ?_
        refine WL.val (Value.bool (decide ((((a).length : Nat) : Int) < ((a).length : Int)))) _ (op_lss rfl rfl) rfl ?_
        have hl150 : ¬ (((a).length : Nat) : Int) < ((a).length : Int) := by omega
        refine WL.nil ?_
        refine W.condF (decide ((((a).length : Nat) : Int) < ((a).length : Int))) rfl (decide_eq_false hl150) ?_
        refine W.exit ?_
        show _ = _ ∧ _
        exact ⟨rfl, _, hs141, hS148⟩
    · rintro f151 wd152 ⟨s154, rfl, hq153⟩
      replace h := onRes_fin h
      obtain ⟨⟩ := s154
      replace hq153 : St w wd152 [] := hq153
      have hS155 := hq153
      refine W.seq (W.region ?_)
      refine WL.val (Value.bool true) _ (op_assign rfl) rfl ?_
      refine WL.nil ?_
      refine W.ret ?_
      obtain rfl := Option.some.inj h
      show FinP _ _ _ _ _ _ _
      exact FinP.ret _ (res1 rfl rfl) ⟨rfl, hS155.ext⟩

theorem c_laws_eqRing {w : World} {a_Table : (List (List (List Int)))} {v_a_Table : Value} {b_Table : (List (List (List Int)))} {v_b_Table : Value} (r_a_Table : (Ty.sl (Ty.sl (Ty.sl (Ty.i .i64)))).rep w v_a_Table a_Table) (r_b_Table : (Ty.sl (Ty.sl (Ty.sl (Ty.i .i64)))).rep w v_b_Table b_Table) {res : Bool} (h : p_laws_eqRing a_Table b_Table  = some res) :
    Ret Tryd.prog 12 #[(Value.agg #[v_a_Table]), (Value.agg #[v_b_Table])] w (fun v w' => v = Value.bool res ∧ Ext w w') := by
  unfold p_laws_eqRing at h
  have hS0 : St w w [] := St.start w
  refine Ret.start (fn := Tryd.f12) Tryd.func12 rfl 11 rfl rfl ?_
  refine W.seq (W.region ?_)
  refine WL.box hS0 rfl (cs := [v_a_Table]) rfl rfl ?_
  intro b1 wd2 hS3 he4 hx5
  replace hS3 : St w wd2 [bx b1 [v_a_Table]] := hS3
  have hx6 := St.boxAt hS3 0 rfl
  have hE7 : Ext w wd2 := hS3.ext
  have hS8 : St wd2 wd2 [] := St.start wd2
  refine WL.box hS8 rfl (cs := [v_b_Table]) rfl rfl ?_
  intro b9 wd10 hS11 he12 hx13
  replace hS11 : St wd2 wd10 [bx b9 [v_b_Table]] := hS11
  have hx14 := St.boxAt hS11 0 rfl
  have hE15 : Ext w wd10 := (Ext.trans hE7 hS11.ext)
  have hE16 : Ext wd2 wd10 := hS11.ext
  have hS17 : St wd10 wd10 [] := St.start wd10
  refine WL.val (Value.bool false) _ (op_assign rfl) rfl ?_
  refine WL.nil ?_
  refine W.seq (W.seq (W.region ?_))
  refine WL.val (Value.pointer (some ⟨b1, 0, none⟩)) _ (op_fieldAddr fd_26_0 rfl) rfl ?_
  refine WL.val v_a_Table _ (op_load one_22 rfl (BoxAt.cell (BoxAt.lift (Ext.trans hE16 hS17.ext) hx6) rfl)) rfl ?_
  refine WL.val (Value.pointer (some ⟨b9, 0, none⟩)) _ (op_fieldAddr fd_26_0 rfl) rfl ?_
  refine WL.val v_b_Table _ (op_load one_22 rfl (BoxAt.cell (BoxAt.lift hS17.ext hx14) rfl)) rfl ?_
  obtain ⟨x18, hx19, h⟩ := bs h
  refine WL.call _ (op_call fn_37 (args2 rfl rfl)) (c_laws_eqInt64SSS (Ty.lift _ (Ext.trans hE15 hS17.ext) r_a_Table) (Ty.lift _ (Ext.trans hE15 hS17.ext) r_b_Table) hx19) rfl ?_
  rintro _ wd20 ⟨rfl, he21⟩
  have hS23 := St.extend hS17 he21
  replace hS23 : St wd10 wd20 [] := hS23
  refine WL.val (Value.bool (!x18)) _ (op_not rfl) rfl ?_
  refine WL.nil ?_
  refine W.cond (!x18) rfl (fun hc24 => ?_) (fun hc24 => ?_)
  · replace h := ip h hc24
    refine W.seq (W.region ?_)
    refine WL.val (Value.bool false) _ (op_assign rfl) rfl ?_
    refine WL.nil ?_
    refine W.ret ?_
    obtain rfl := Option.some.inj h
    show FinP _ _ _ _ _ _ _
    exact FinP.ret _ (res1 rfl rfl) ⟨rfl, (Ext.trans hE15 hS23.ext)⟩
  · replace h := inegb h hc24
    refine W.skip ?_
    refine W.seq (W.region ?_)
    refine WL.val (Value.bool true) _ (op_assign rfl) rfl ?_
    refine WL.nil ?_
    refine W.ret ?_
    obtain rfl := Option.some.inj h
    show FinP _ _ _ _ _ _ _
    exact FinP.ret _ (res1 rfl rfl) ⟨rfl, (Ext.trans hE15 hS23.ext)⟩

theorem c_spec_l05From {w : World} {r_Table : (List (List (List Int)))} {v_r_Table : Value} {set : Int} (r_r_Table : (Ty.sl (Ty.sl (Ty.sl (Ty.i .i64)))).rep w v_r_Table r_Table) (r_set : InR .i64 set) {res : Int} (h : p_spec_l05From r_Table set  = some res) :
    Ret Tryd.prog 69 #[(Value.agg #[v_r_Table]), (Value.int .i64 set)] w (fun v w' => v = Value.int .i64 res ∧ InR .i64 res ∧ Ext w w') := by
  unfold p_spec_l05From at h
  have hS0 : St w w [] := St.start w
  refine Ret.start (fn := Tryd.f69) Tryd.func69 rfl 17 rfl rfl ?_
  refine W.seq (W.region ?_)
  refine WL.box hS0 rfl (cs := [v_r_Table]) rfl rfl ?_
  intro b1 wd2 hS3 he4 hx5
  replace hS3 : St w wd2 [bx b1 [v_r_Table]] := hS3
  have hx6 := St.boxAt hS3 0 rfl
  have hE7 : Ext w wd2 := hS3.ext
  have hS8 : St wd2 wd2 [] := St.start wd2
  refine WL.val (Value.int .i64 (0 : Int)) _ (op_assign rfl) rfl ?_
  refine WL.nil ?_
  refine W.seq (W.seq (W.region ?_))
  refine WL.val (Value.agg #[v_r_Table]) _ (op_loadBox st_26 rfl (BoxAt.lift hS8.ext hx6) rfl rfl) rfl ?_
  refine WL.val (Value.int .i64 set) _ (op_move rfl) rfl ?_
  obtain ⟨x9, hx10, h⟩ := bs h
  refine WL.call _ (op_call fn_55 (args2 rfl rfl)) (c_spec_l05Spread (Ty.lift _ (Ext.trans hE7 hS8.ext) r_r_Table) r_set hx10) rfl ?_
  rintro _ wd12 ⟨rfl, hr11, he13⟩
  have hS15 := St.extend hS8 he13
  replace hS15 : St wd2 wd12 [] := hS15
  refine WL.val (Value.int .i64 x9) _ (op_assign rfl) rfl ?_
  refine WL.nil ?_
  show W _ _ _ _ _ _
  obtain ⟨res16, hres17, h⟩ := bs h
  refine W.blockLoop (fun fq wq => ∃ s, res16 = Res.fin s ∧ fq 1 = Value.int .i64 s.1 ∧ InR .i64 s.1 ∧ St wd2 wq []) ?_ ?_
  · refine W.whileC (fun (s : Int × Int) fq wq => fq 1 = Value.int .i64 s.1 ∧ InR .i64 s.1 ∧ fq 2 = (Value.pointer (some ⟨b1, 0, none⟩)) ∧ fq 5 = Value.int .i64 s.2 ∧ InR .i64 s.2 ∧ St wd2 wq []) hres17 ⟨rfl, r_set, rfl, rfl, hr11, hS15⟩ ?_
    intro s44 ct21 f22 wd23 hb25 hI26 hbrk27 hret28
    obtain ⟨x19, x20⟩ := s44
    replace hI26 : f22 1 = Value.int .i64 x19 ∧ InR .i64 x19 ∧ f22 2 = (Value.pointer (some ⟨b1, 0, none⟩)) ∧ f22 5 = Value.int .i64 x20 ∧ InR .i64 x20 ∧ St wd2 wd23 [] := hI26
    replace hb25 : p_spec_l05From_L1 r_Table  x19 x20 = some ct21 := hb25
    unfold p_spec_l05From_L1 at hb25
    obtain ⟨hf29, hr30, hf31, hf32, hr33, hS34⟩ := hI26
    refine W.seq (W.seq (W.region ?_))
    refine WL.val (Value.int .i64 x20) _ (op_move hf32) rfl ?_
    refine WL.val (Value.int .i64 x19) _ (op_move hf29) rfl ?_
    refine WL.val (Value.bool (x20 != x19)) _ (op_neq rfl rfl) rfl ?_
    refine WL.nil ?_
    refine W.cond (x20 != x19) rfl (fun hc35 => ?_) (fun hc35 => ?_)
    · replace hb25 := ip hb25 hc35
      refine W.skip ?_
      refine W.seq ?_
      refine W.block ?_
      refine W.region ?_
      refine WL.val (Value.int .i64 x20) _ (op_move hf32) rfl ?_
      refine WL.val (Value.int .i64 x20) _ (op_assign rfl) rfl ?_
      refine WL.nil ?_
      show W _ _ _ _ _ _
      refine W.region ?_
      refine WL.val (Value.agg #[v_r_Table]) _ (op_loadBox st_26 hf31 (BoxAt.lift hS34.ext hx6) rfl rfl) rfl ?_
      refine WL.val (Value.int .i64 x20) _ (op_move rfl) rfl ?_
      obtain ⟨x37, hx38, hb25⟩ := bs hb25
      refine WL.call _ (op_call fn_55 (args2 rfl rfl)) (c_spec_l05Spread (Ty.lift _ (Ext.trans hE7 hS34.ext) r_r_Table) hr33 hx38) rfl ?_
      rintro _ wd40 ⟨rfl, hr39, he41⟩
      have hS43 := St.extend hS34 he41
      replace hS43 : St wd2 wd40 [] := hS43
      refine WL.val (Value.int .i64 x37) _ (op_assign rfl) rfl ?_
      refine WL.nil ?_
      obtain rfl := Option.some.inj hb25
      show ∃ s, _ = Ctl.next s ∧ _
      exact ⟨_, rfl, rfl, hr33, hf31, rfl, hr39, hS43⟩
    · replace hb25 := inegb hb25 hc35
      refine W.exit ?_
      obtain rfl := Option.some.inj hb25
      show _ = _ ∧ _
      exact ⟨rfl, _, hbrk27 _ rfl, hf29, hr30, hS34⟩
  · rintro f45 wd46 ⟨s48, rfl, hq47⟩
    replace h := onRes_fin h
    obtain ⟨x49, x50⟩ := s48
    replace hq47 : f45 1 = Value.int .i64 x49 ∧ InR .i64 x49 ∧ St wd2 wd46 [] := hq47
    replace h : (_ : Option _) = _ := h
    dsimp only at h
    obtain ⟨hf51, hr52, hS53⟩ := hq47
    refine W.seq (W.region ?_)
    refine WL.val (Value.int .i64 x49) _ (op_move hf51) rfl ?_
    refine WL.val (Value.int .i64 x49) _ (op_assign rfl) rfl ?_
    refine WL.nil ?_
    refine W.ret ?_
    obtain rfl := Option.some.inj h
    show FinP _ _ _ _ _ _ _
    exact FinP.ret _ (res1 rfl rfl) ⟨rfl, hr52, (Ext.trans hE7 hS53.ext)⟩

theorem c_spec_l05Adjoint {w : World} {r_Table : (List (List (List Int)))} {v_r_Table : Value} (r_r_Table : (Ty.sl (Ty.sl (Ty.sl (Ty.i .i64)))).rep w v_r_Table r_Table) {res : Int} (h : p_spec_l05Adjoint r_Table  = some res) :
    Ret Tryd.prog 45 #[(Value.agg #[v_r_Table])] w (fun v w' => v = Value.int .i64 res ∧ InR .i64 res ∧ Ext w w') := by
  unfold p_spec_l05Adjoint at h
  have hS0 : St w w [] := St.start w
  refine Ret.start (fn := Tryd.f45) Tryd.func45 rfl 44 rfl rfl ?_
  refine W.seq (W.region ?_)
  refine WL.box hS0 rfl (cs := [v_r_Table]) rfl rfl ?_
  intro b1 wd2 hS3 he4 hx5
  replace hS3 : St w wd2 [bx b1 [v_r_Table]] := hS3
  have hx6 := St.boxAt hS3 0 rfl
  have hE7 : Ext w wd2 := hS3.ext
  have hS8 : St wd2 wd2 [] := St.start wd2
  refine WL.val (Value.int .i64 (0 : Int)) _ (op_assign rfl) rfl ?_
  refine WL.nil ?_
  refine W.seq (W.region ?_)
  refine WL.val (Value.int .i64 (1 : Int)) _ (op_assign rfl) rfl ?_
  refine WL.nil ?_
  refine W.seq (W.seq (W.region ?_))
  refine WL.val (Value.int .i64 (0 : Int)) _ (op_assign rfl) rfl ?_
  refine WL.nil ?_
  show W _ _ _ _ _ _
  obtain ⟨res9, hres10, h⟩ := bs h
  refine W.blockLoop (fun fq wq => ∃ s, res9 = Res.fin s ∧ fq 1 = (Value.pointer (some ⟨b1, 0, none⟩)) ∧ fq 3 = Value.int .i64 s ∧ InR .i64 s ∧ St wd2 wq []) ?_ ?_
  · refine W.forN (fun k (s : Int) fq wq => fq 1 = (Value.pointer (some ⟨b1, 0, none⟩)) ∧ fq 3 = Value.int .i64 s ∧ InR .i64 s ∧ fq 4 = Value.int .i64 (k : Int) ∧ InR .i64 (k : Int) ∧ St wd2 wq []) hres10 ⟨rfl, rfl, (inL rfl), rfl, (inL rfl), hS8⟩ ?_ ?_
    · intro k11 x12 ct13 f14 wd15 hk16 hb17 hI18 hbrk19 hret20
      replace hI18 : f14 1 = (Value.pointer (some ⟨b1, 0, none⟩)) ∧ f14 3 = Value.int .i64 x12 ∧ InR .i64 x12 ∧ f14 4 = Value.int .i64 (k11 : Int) ∧ InR .i64 (k11 : Int) ∧ St wd2 wd15 [] := hI18
      replace hb17 : p_spec_l05Adjoint_L1 r_Table k11 x12 = some ct13 := hb17
      unfold p_spec_l05Adjoint_L1 at hb17
      obtain ⟨hf21, hf22, hr23, hf24, hr25, hS26⟩ := hI18
      refine W.seq (W.seq (W.region ?_))
      refine WL.val (Value.int .i64 (k11 : Int)) _ (op_move hf24) rfl ?_
      refine WL.val (Value.pointer (some ⟨b1, 0, none⟩)) _ (op_fieldAddr fd_26_0 hf21) rfl ?_
      refine WL.val v_r_Table _ (op_load one_22 rfl (BoxAt.cell (BoxAt.lift hS26.ext hx6) rfl)) rfl ?_
      have hr27 := inR_len (Ty.lift _ (Ext.trans hE7 hS26.ext) r_r_Table)
      refine WL.val (Value.int .i64 ((r_Table).length : Int)) _ (op_lenL sl_22 (Ty.lift _ (Ext.trans hE7 hS26.ext) r_r_Table) rfl) rfl ?_
      refine WL.val (Value.bool (decide ((k11 : Int) < ((r_Table).length : Int)))) _ (op_lss rfl rfl) rfl ?_
      have hl28 : (k11 : Int) < ((r_Table).length : Int) := by omega
      refine WL.nil ?_
      refine W.condT (decide ((k11 : Int) < ((r_Table).length : Int))) rfl (decide_eq_true hl28) ?_
      refine W.skip ?_
      refine W.seq ?_
      refine W.block ?_
      refine W.seq ?_
      obtain ⟨x69, hx72, hb17⟩ := bs hb17
      obtain ⟨ha70, hb71, hx72⟩ := idx_some hx72
      obtain ⟨u83, hc84, hr85⟩ := repSl.el r_r_Table hx72
      obtain ⟨x125, hx126, hb17⟩ := bs hb17
      refine W.drawR mixo 9 [] [fun _ v _ _ => v = (Value.pointer (some ⟨b1, 0, none⟩)), fun _ v _ _ => v = v_r_Table, fun _ v _ _ => v = (Value.int .i64 (k11 : Int)) ∧ InR .i64 (k11 : Int), fun _ v _ _ => v = (Value.pointer (some (elA v_r_Table ((k11 : Int)).toNat))), fun _ v _ _ => v = u83, fun _ v _ _ => v = (Value.pointer (some ⟨b1, 0, none⟩)), fun _ v _ _ => v = v_r_Table, fun _ v _ _ => v = (Value.int .i64 (k11 : Int)) ∧ InR .i64 (k11 : Int), fun _ v _ _ => v = (Value.int .i64 x125) ∧ InR .i64 x125] (by kernel_rfl) (by kernel_rfl) ⟨pk, pk, pk, pk, pk, pk, pk, pk, pk, trivial⟩ ⟨?_, ?_, ?_, ?_, ?_, ?_, ?_, ?_, ?_, trivial⟩ ?_
      · refine ObX.op rfl fun f30 wd31 he32 hout33 hphi34 => ?_
        have e36 : f30 1 = (Value.pointer (some ⟨b1, 0, none⟩)) := (hout33 1 rfl).trans hf21
        exact OpX.val (Value.pointer (some ⟨b1, 0, none⟩)) wd31 rfl (op_fieldAddr fd_26_0 e36) (Ext.refl _) rfl
      · refine ObX.op rfl fun f37 wd38 he39 hout40 hphi41 => ?_
        have hS42 := St.extend hS26 he39
        obtain ⟨S43, hS44, hf45⟩ := hphi41 0 14 _ rfl rfl rfl
        have e46 : f37 14 = (Value.pointer (some ⟨b1, 0, none⟩)) := hf45
        exact OpX.val v_r_Table wd38 rfl (op_load one_22 e46 (BoxAt.cell (BoxAt.lift hS42.ext hx6) rfl)) (Ext.refl _) rfl
      · refine ObX.op rfl fun f47 wd48 he49 hout50 hphi51 => ?_
        have e53 : f47 4 = (Value.int .i64 (k11 : Int)) := (hout50 4 rfl).trans hf24
        exact OpX.val (Value.int .i64 (k11 : Int)) wd48 rfl (op_move e53) (Ext.refl _) ⟨rfl, hr25⟩
      · refine ObX.op rfl fun f54 wd55 he56 hout57 hphi58 => ?_
        have hS59 := St.extend hS26 he56
        obtain ⟨S60, hS61, hf62⟩ := hphi58 1 15 _ rfl rfl rfl
        have e63 : f54 15 = v_r_Table := hf62
        obtain ⟨S64, hS65, hf66⟩ := hphi58 2 16 _ rfl rfl rfl
        obtain ⟨e67, hr68⟩ := hf66
        exact OpX.val (Value.pointer (some (elA v_r_Table ((k11 : Int)).toNat))) wd55 rfl (op_idx sl_22 (Ty.lift _ (Ext.trans hE7 hS59.ext) r_r_Table) e63 e67 ha70 hb71) (Ext.refl _) rfl
      · refine ObX.op rfl fun f73 wd74 he75 hout76 hphi77 => ?_
        have hS78 := St.extend hS26 he75
        obtain ⟨S79, hS80, hf81⟩ := hphi77 3 17 _ rfl rfl rfl
        have e82 : f73 17 = (Value.pointer (some (elA v_r_Table ((k11 : Int)).toNat))) := hf81
        exact OpX.val u83 wd74 rfl (op_load one_41 e82 (Ext.cell (Ext.trans hE7 hS78.ext) hc84)) (Ext.refl _) rfl
      · refine ObX.op rfl fun f86 wd87 he88 hout89 hphi90 => ?_
        have e92 : f86 1 = (Value.pointer (some ⟨b1, 0, none⟩)) := (hout89 1 rfl).trans hf21
        exact OpX.val (Value.pointer (some ⟨b1, 0, none⟩)) wd87 rfl (op_fieldAddr fd_26_0 e92) (Ext.refl _) rfl
      · refine ObX.op rfl fun f93 wd94 he95 hout96 hphi97 => ?_
        have hS98 := St.extend hS26 he95
        obtain ⟨S99, hS100, hf101⟩ := hphi97 5 19 _ rfl rfl rfl
        have e102 : f93 19 = (Value.pointer (some ⟨b1, 0, none⟩)) := hf101
        exact OpX.val v_r_Table wd94 rfl (op_load one_22 e102 (BoxAt.cell (BoxAt.lift hS98.ext hx6) rfl)) (Ext.refl _) rfl
      · refine ObX.op rfl fun f103 wd104 he105 hout106 hphi107 => ?_
        have e109 : f103 4 = (Value.int .i64 (k11 : Int)) := (hout106 4 rfl).trans hf24
        exact OpX.val (Value.int .i64 (k11 : Int)) wd104 rfl (op_move e109) (Ext.refl _) ⟨rfl, hr25⟩
      · refine ObX.op rfl fun f110 wd111 he112 hout113 hphi114 => ?_
        have hS115 := St.extend hS26 he112
        obtain ⟨S116, hS117, hf118⟩ := hphi114 6 20 _ rfl rfl rfl
        have e119 : f110 20 = v_r_Table := hf118
        obtain ⟨S120, hS121, hf122⟩ := hphi114 7 21 _ rfl rfl rfl
        obtain ⟨e123, hr124⟩ := hf122
        refine OpX.call rfl (op_call fn_68 (args2 e119 e123)) (Ret.mono (c_spec_l03Dual (Ty.lift _ (Ext.trans hE7 hS115.ext) r_r_Table) hr124 hx126) ?_)
        rintro _ wd128 ⟨rfl, hr127, he129⟩
        exact ⟨he129, _, noS _ _, ⟨rfl, hr127⟩⟩
      · intro f131 wd132 Ss133 he134 hout135 hSn136 hSd137 hphi138
        show WL _ _ _ _ _ _ _
        have hS139 := St.extend hS26 he134
        have e140 : f131 18 = u83 := hphi138 4 18 _ (by decide) rfl rfl
        obtain ⟨e141, hr142⟩ := hphi138 8 22 _ (by decide) rfl rfl
        have e143 : f131 1 = (Value.pointer (some ⟨b1, 0, none⟩)) := (hout135 1 rfl).trans hf21
        have e144 : f131 3 = (Value.int .i64 x12) := (hout135 3 rfl).trans hf22
        have e145 : f131 4 = (Value.int .i64 (k11 : Int)) := (hout135 4 rfl).trans hf24
        obtain ⟨x146, hx149, hb17⟩ := bs hb17
        obtain ⟨ha147, hb148, hx149⟩ := idx_some hx149
        refine WL.val (Value.pointer (some (elA u83 (x125).toNat))) _ (op_idx sl_41 (Ty.lift _ (Ext.trans hE7 hS139.ext) hr85) e140 e141 ha147 hb148) rfl ?_
        obtain ⟨u150, hc151, hr152⟩ := repSl.el hr85 hx149
        refine WL.val u150 _ (op_load one_33 rfl (Ext.cell (Ext.trans hE7 hS139.ext) hc151)) rfl ?_
        refine WL.val u150 _ (op_assign rfl) rfl ?_
        refine WL.nil ?_
        refine W.seq (W.region ?_)
        refine WL.val (Value.int .i64 (0 : Int)) _ (op_assign rfl) rfl ?_
        refine WL.nil ?_
        show W _ _ _ _ _ _
        obtain ⟨res153, hres154, hb17⟩ := bs hb17
        refine W.blockLoop (fun fq wq => ∃ s, res153 = Res.fin s ∧ fq 1 = (Value.pointer (some ⟨b1, 0, none⟩)) ∧ fq 3 = Value.int .i64 s ∧ InR .i64 s ∧ fq 4 = (Value.int .i64 (k11 : Int)) ∧ St wd2 wq []) ?_ ?_
        · refine W.forN (fun k (s : Int) fq wq => fq 1 = (Value.pointer (some ⟨b1, 0, none⟩)) ∧ fq 3 = Value.int .i64 s ∧ InR .i64 s ∧ fq 4 = (Value.int .i64 (k11 : Int)) ∧ fq 5 = u150 ∧ fq 6 = Value.int .i64 (k : Int) ∧ InR .i64 (k : Int) ∧ St wd2 wq []) hres154 ⟨e143, e144, hr23, e145, rfl, rfl, (inL rfl), hS139⟩ ?_ ?_
          · intro k155 x156 ct157 f158 wd159 hk160 hb161 hI162 hbrk163 hret164
            replace hI162 : f158 1 = (Value.pointer (some ⟨b1, 0, none⟩)) ∧ f158 3 = Value.int .i64 x156 ∧ InR .i64 x156 ∧ f158 4 = (Value.int .i64 (k11 : Int)) ∧ f158 5 = u150 ∧ f158 6 = Value.int .i64 (k155 : Int) ∧ InR .i64 (k155 : Int) ∧ St wd2 wd159 [] := hI162
            replace hb161 : p_spec_l05Adjoint_L2 x146 k155 x156 = some ct157 := hb161
            unfold p_spec_l05Adjoint_L2 at hb161
            obtain ⟨hf165, hf166, hr167, hf168, hf169, hf170, hr171, hS172⟩ := hI162
            refine W.seq (W.seq (W.region ?_))
            refine WL.val (Value.int .i64 (k155 : Int)) _ (op_move hf170) rfl ?_
            refine WL.val u150 _ (op_move hf169) rfl ?_
            have hr173 := inR_len (Ty.lift _ (Ext.trans hE7 hS172.ext) hr152)
            refine WL.val (Value.int .i64 ((x146).length : Int)) _ (op_lenL sl_33 (Ty.lift _ (Ext.trans hE7 hS172.ext) hr152) rfl) rfl ?_
            refine WL.val (Value.bool (decide ((k155 : Int) < ((x146).length : Int)))) _ (op_lss rfl rfl) rfl ?_
            have hl174 : (k155 : Int) < ((x146).length : Int) := by omega
            refine WL.nil ?_
            refine W.condT (decide ((k155 : Int) < ((x146).length : Int))) rfl (decide_eq_true hl174) ?_
            refine W.skip ?_
            refine W.seq ?_
            refine W.block ?_
            refine W.seq (W.region ?_)
            refine WL.val u150 _ (op_move hf169) rfl ?_
            refine WL.val (Value.int .i64 (k155 : Int)) _ (op_move hf170) rfl ?_
            obtain ⟨x176, hx179, hb161⟩ := bs hb161
            obtain ⟨ha177, hb178, hx179⟩ := idx_some hx179
            refine WL.val (Value.pointer (some (elA u150 ((k155 : Int)).toNat))) _ (op_idx sl_33 (Ty.lift _ (Ext.trans hE7 hS172.ext) hr152) rfl rfl ha177 hb178) rfl ?_
            obtain ⟨u180, hc181, hr182⟩ := repSl.el hr152 hx179
            obtain ⟨rfl, hr182⟩ := hr182
            refine WL.val (Value.int .i64 x176) _ (op_load one_2 rfl (Ext.cell (Ext.trans hE7 hS172.ext) hc181)) rfl ?_
            refine WL.val (Value.bool (decide (x176 > (0 : Int)))) _ (op_gtr rfl rfl) rfl ?_
            refine WL.nil ?_
            show W _ _ _ _ _ _
            obtain ⟨x183, hj184, hb161⟩ := bs hb161
            refine W.cutCode (fun fq wq => fq 1 = (Value.pointer (some ⟨b1, 0, none⟩)) ∧ fq 3 = Value.int .i64 x183 ∧ InR .i64 x183 ∧ fq 4 = (Value.int .i64 (k11 : Int)) ∧ fq 5 = u150 ∧ fq 6 = (Value.int .i64 (k155 : Int)) ∧ St wd2 wq []) ?_ ?_
            · refine W.cond (decide (x176 > (0 : Int))) rfl (fun hc185 => ?_) (fun hc185 => ?_)
              · replace hj184 := ip hj184 hc185
                refine W.region ?_
                refine WL.val (Value.int .i64 x156) _ (op_move hf166) rfl ?_
                refine WL.val (Value.int .i64 (k155 : Int)) _ (op_move hf170) rfl ?_
                refine WL.val (Value.int .u64 (IntKind.u64.wrap (k155 : Int))) _ (op_convert rfl it_3 it_69) rfl ?_
                obtain ⟨x186, hz187, hj184⟩ := bs hj184
                obtain ⟨h0188, hz187⟩ := shlI_some hz187
                have hr189 : InR .i64 x186 := by rw [hz187]; exact inR_wrap _ _
                refine WL.val (Value.int .i64 x186) _ (by rw [hz187]; exact op_shl rfl rfl h0188) rfl ?_
                refine WL.val (Value.int .i64 (orI .i64 x156 x186)) _ (op_or rfl rfl) rfl ?_
                refine WL.val (Value.int .i64 (orI .i64 x156 x186)) _ (op_assign rfl) rfl ?_
                refine WL.nil ?_
                obtain rfl := Option.some.inj hj184
                exact ⟨hf165, rfl, (inR_wrap _ _), hf168, hf169, hf170, hS172⟩
              · replace hj184 := inegb hj184 hc185
                refine W.skip ?_
                obtain rfl := Option.some.inj hj184
                exact ⟨hf165, hf166, hr167, hf168, hf169, hf170, hS172⟩
            · intro f190 wd191 hq192
              obtain ⟨hf193, hf194, hr195, hf196, hf197, hf198, hS199⟩ := hq192
              show W _ _ _ _ _ _
              refine W.region ?_
              refine WL.val (Value.int .i64 (k155 : Int)) _ (op_move hf198) rfl ?_
              refine WL.val (Value.int .i64 (w64 ((k155 : Int) + (1 : Int)))) _ (op_add rfl rfl) rfl ?_
              refine WL.val (Value.int .i64 (w64 ((k155 : Int) + (1 : Int)))) _ (op_assign rfl) rfl ?_
              refine WL.nil ?_
              obtain rfl := Option.some.inj hb161
              show ∃ s, _ = Ctl.next s ∧ _
              exact ⟨_, rfl, hf193, hf194, hr195, hf196, hf197, (ctr_next hl174 hr173), (ctr_rng hl174 hr173), hS199⟩
          · intro x206 f201 wd202 hs203 hI204
            replace hI204 : f201 1 = (Value.pointer (some ⟨b1, 0, none⟩)) ∧ f201 3 = Value.int .i64 x206 ∧ InR .i64 x206 ∧ f201 4 = (Value.int .i64 (k11 : Int)) ∧ f201 5 = u150 ∧ f201 6 = Value.int .i64 (((x146).length : Nat) : Int) ∧ InR .i64 (((x146).length : Nat) : Int) ∧ St wd2 wd202 [] := hI204
            obtain ⟨hf207, hf208, hr209, hf210, hf211, hf212, hr213, hS214⟩ := hI204
            refine W.seq (W.seq (W.region ?_))
            refine WL.val (Value.int .i64 (((x146).length : Nat) : Int)) _ (op_move hf212) rfl ?_
            refine WL.val u150 _ (op_move hf211) rfl ?_
            have hr215 := inR_len (Ty.lift _ (Ext.trans hE7 hS214.ext) hr152)
            refine WL.val (Value.int .i64 ((x146).length : Int)) _ (op_lenL sl_33 (Ty.lift _ (Ext.trans hE7 hS214.ext) hr152) rfl) rfl ?_
            refine WL.val (Value.bool (decide ((((x146).length : Nat) : Int) < ((x146).length : Int)))) _ (op_lss rfl rfl) rfl ?_
            have hl216 : ¬ (((x146).length : Nat) : Int) < ((x146).length : Int) := by omega
            refine WL.nil ?_
            refine W.condF (decide ((((x146).length : Nat) : Int) < ((x146).length : Int))) rfl (decide_eq_false hl216) ?_
            refine W.exit ?_
            show _ = _ ∧ _
            exact ⟨rfl, _, hs203, hf207, hf208, hr209, hf210, hS214⟩
        · rintro f217 wd218 ⟨x221, rfl, hq219⟩
          replace hb17 := onRes_fin hb17
          replace hq219 : f217 1 = (Value.pointer (some ⟨b1, 0, none⟩)) ∧ f217 3 = Value.int .i64 x221 ∧ InR .i64 x221 ∧ f217 4 = (Value.int .i64 (k11 : Int)) ∧ St wd2 wd218 [] := hq219
          obtain ⟨hf222, hf223, hr224, hf225, hS226⟩ := hq219
          show W _ _ _ _ _ _
          refine W.region ?_
          refine WL.val (Value.int .i64 (k11 : Int)) _ (op_move hf225) rfl ?_
          refine WL.val (Value.int .i64 (w64 ((k11 : Int) + (1 : Int)))) _ (op_add rfl rfl) rfl ?_
          refine WL.val (Value.int .i64 (w64 ((k11 : Int) + (1 : Int)))) _ (op_assign rfl) rfl ?_
          refine WL.nil ?_
          obtain rfl := Option.some.inj hb17
          show ∃ s, _ = Ctl.next s ∧ _
          exact ⟨_, rfl, hf222, hf223, hr224, (ctr_next hl28 hr27), (ctr_rng hl28 hr27), hS226⟩
    · intro x234 f229 wd230 hs231 hI232
      replace hI232 : f229 1 = (Value.pointer (some ⟨b1, 0, none⟩)) ∧ f229 3 = Value.int .i64 x234 ∧ InR .i64 x234 ∧ f229 4 = Value.int .i64 (((r_Table).length : Nat) : Int) ∧ InR .i64 (((r_Table).length : Nat) : Int) ∧ St wd2 wd230 [] := hI232
      obtain ⟨hf235, hf236, hr237, hf238, hr239, hS240⟩ := hI232
      refine W.seq (W.seq (W.region ?_))
      refine WL.val (Value.int .i64 (((r_Table).length : Nat) : Int)) _ (op_move hf238) rfl ?_
      refine WL.val (Value.pointer (some ⟨b1, 0, none⟩)) _ (op_fieldAddr fd_26_0 hf235) rfl ?_
      refine WL.val v_r_Table _ (op_load one_22 rfl (BoxAt.cell (BoxAt.lift hS240.ext hx6) rfl)) rfl ?_
      have hr241 := inR_len (Ty.lift _ (Ext.trans hE7 hS240.ext) r_r_Table)
      refine WL.val (Value.int .i64 ((r_Table).length : Int)) _ (op_lenL sl_22 (Ty.lift _ (Ext.trans hE7 hS240.ext) r_r_Table) rfl) rfl ?_
      refine WL.val (Value.bool (decide ((((r_Table).length : Nat) : Int) < ((r_Table).length : Int)))) _ (op_lss rfl rfl) rfl ?_
      have hl242 : ¬ (((r_Table).length : Nat) : Int) < ((r_Table).length : Int) := by omega
      refine WL.nil ?_
      refine W.condF (decide ((((r_Table).length : Nat) : Int) < ((r_Table).length : Int))) rfl (decide_eq_false hl242) ?_
      refine W.exit ?_
      show _ = _ ∧ _
      exact ⟨rfl, _, hs231, hf235, hf236, hr237, hS240⟩
  · rintro f243 wd244 ⟨x247, rfl, hq245⟩
    replace h := onRes_fin h
    replace hq245 : f243 1 = (Value.pointer (some ⟨b1, 0, none⟩)) ∧ f243 3 = Value.int .i64 x247 ∧ InR .i64 x247 ∧ St wd2 wd244 [] := hq245
    obtain ⟨hf248, hf249, hr250, hS251⟩ := hq245
    refine W.seq (W.region ?_)
    refine WL.val (Value.agg #[v_r_Table]) _ (op_loadBox st_26 hf248 (BoxAt.lift hS251.ext hx6) rfl rfl) rfl ?_
    refine WL.val (Value.int .i64 x247) _ (op_move hf249) rfl ?_
    obtain ⟨x252, hx253, h⟩ := bs h
    refine WL.call _ (op_call fn_69 (args2 rfl rfl)) (c_spec_l05From (Ty.lift _ (Ext.trans hE7 hS251.ext) r_r_Table) hr250 hx253) rfl ?_
    rintro _ wd255 ⟨rfl, hr254, he256⟩
    have hS258 := St.extend hS251 he256
    replace hS258 : St wd2 wd255 [] := hS258
    refine WL.val (Value.int .i64 x252) _ (op_assign rfl) rfl ?_
    refine WL.nil ?_
    refine W.ret ?_
    obtain rfl := Option.some.inj h
    show FinP _ _ _ _ _ _ _
    exact FinP.ret _ (res1 rfl rfl) ⟨rfl, hr254, (Ext.trans hE7 hS258.ext)⟩

theorem c_spec_l05Series {w : World} {r_Table : (List (List (List Int)))} {v_r_Table : Value} (r_r_Table : (Ty.sl (Ty.sl (Ty.sl (Ty.i .i64)))).rep w v_r_Table r_Table) {res : (List Int)} (h : p_spec_l05Series r_Table  = some res) :
    Ret Tryd.prog 41 #[(Value.agg #[v_r_Table])] w (fun v w' => ∃ (u0 : Value), v = u0 ∧ Ext w w' ∧ Sep w.heap.size w' [(Ty.sl (Ty.i .i64)).at u0 res]) := by
  unfold p_spec_l05Series at h
  have hS0 : St w w [] := St.start w
  refine Ret.start (fn := Tryd.f41) Tryd.func41 rfl 50 rfl rfl ?_
  refine W.seq (W.region ?_)
  refine WL.box hS0 rfl (cs := [v_r_Table]) rfl rfl ?_
  intro b1 wd2 hS3 he4 hx5
  replace hS3 : St w wd2 [bx b1 [v_r_Table]] := hS3
  have hx6 := St.boxAt hS3 0 rfl
  have hE7 : Ext w wd2 := hS3.ext
  have hS8 : St wd2 wd2 [] := St.start wd2
  refine WL.val (Value.slice none 0 0) _ (op_assign rfl) rfl ?_
  refine WL.nil ?_
  refine W.seq (W.region ?_)
  refine WL.val (Value.agg #[v_r_Table]) _ (op_loadBox st_26 rfl (BoxAt.lift hS8.ext hx6) rfl rfl) rfl ?_
  obtain ⟨x9, hx10, h⟩ := bs h
  refine WL.call _ (op_call fn_54 (args1 rfl)) (c_spec_l05All (Ty.lift _ (Ext.trans hE7 hS8.ext) r_r_Table) hx10) rfl ?_
  rintro _ wd12 ⟨rfl, hr11, he13⟩
  have hS15 := St.extend hS8 he13
  replace hS15 : St wd2 wd12 [] := hS15
  refine WL.litFlat (t := (Ty.i .i64)) (flat_i .i64) [(Value.int .i64 x9)] [x9] hS15 sl_33 rfl rfl (fillL rfl ⟨rfl, rfl, rfl, trivial⟩) rfl rfl (litL ⟨⟨rfl, hr11⟩, trivial⟩) rfl ?_
  intro u16 wd17 hS18 he19
  replace hS18 : St wd2 wd17 [(Ty.sl (Ty.i .i64)).at u16 ([x9] : (List Int))] := hS18
  refine WL.val u16 _ (op_assign rfl) rfl ?_
  refine WL.nil ?_
  show W _ _ _ _ _ _
  obtain ⟨res20, hres21, h⟩ := bs h
  refine W.blockLoop (fun fq wq => ∃ s, res20 = Res.fin s ∧ St wd2 wq []) ?_ ?_
  · refine W.whileC (fun (s : (List Int)) fq wq => ∃ (uu0 : Value), fq 1 = (Value.pointer (some ⟨b1, 0, none⟩)) ∧ fq 3 = uu0 ∧ St wd2 wq [(Ty.sl (Ty.i .i64)).at uu0 s]) hres21 ⟨u16, rfl, rfl, hS18⟩ ?_
    intro x23 ct24 f25 wd26 hb28 hI29 hbrk30 hret31
    replace hI29 : ∃ (uu0 : Value), f25 1 = (Value.pointer (some ⟨b1, 0, none⟩)) ∧ f25 3 = uu0 ∧ St wd2 wd26 [(Ty.sl (Ty.i .i64)).at uu0 x23] := hI29
    replace hb28 : p_spec_l05Series_L1 r_Table  x23 = some ct24 := hb28
    unfold p_spec_l05Series_L1 at hb28
    obtain ⟨u32, hf33, hf34, hS35⟩ := hI29
    refine W.block ?_
    refine W.seq (W.region ?_)
    refine WL.val u32 _ (op_move hf34) rfl ?_
    refine WL.val u32 _ (op_move hf34) rfl ?_
    have hr36 := inR_len (St.rep (t := (Ty.sl (Ty.i .i64))) hS35 0 rfl)
    refine WL.val (Value.int .i64 ((x23).length : Int)) _ (op_lenL sl_33 (St.rep (t := (Ty.sl (Ty.i .i64))) hS35 0 rfl) rfl) rfl ?_
    refine WL.val (Value.int .i64 (w64 (((x23).length : Int) - (1 : Int)))) _ (op_sub rfl rfl) rfl ?_
    obtain ⟨x37, hx40, hb28⟩ := bs hb28
    obtain ⟨ha38, hb39, hx40⟩ := idx_some hx40
    refine WL.val (Value.pointer (some (elA u32 ((w64 (((x23).length : Int) - (1 : Int)))).toNat))) _ (op_idx sl_33 (St.rep (t := (Ty.sl (Ty.i .i64))) hS35 0 rfl) rfl rfl ha38 hb39) rfl ?_
    obtain ⟨u41, hc42, hr43⟩ := repSl.el (St.rep (t := (Ty.sl (Ty.i .i64))) hS35 0 rfl) hx40
    obtain ⟨rfl, hr43⟩ := hr43
    refine WL.val (Value.int .i64 x37) _ (op_load one_2 rfl hc42) rfl ?_
    refine WL.val (Value.int .i64 x37) _ (op_assign rfl) rfl ?_
    refine WL.nil ?_
    refine W.seq (W.region ?_)
    refine WL.val (Value.agg #[v_r_Table]) _ (op_loadBox st_26 hf33 (BoxAt.lift hS35.ext hx6) rfl rfl) rfl ?_
    refine WL.val (Value.int .i64 x37) _ (op_move rfl) rfl ?_
    obtain ⟨x44, hx45, hb28⟩ := bs hb28
    refine WL.call _ (op_call fn_56 (args2 rfl rfl)) (c_spec_l05Labels (Ty.lift _ (Ext.trans hE7 hS35.ext) r_r_Table) hr43 hx45) rfl ?_
    rintro u46 wd47 ⟨_, rfl, he48, hs49⟩
    have hS50 := St.join hS35 he48 hs49
    replace hS50 : St wd2 wd47 [(Ty.sl (Ty.i .i64)).at u32 x23, (Ty.sl (Ty.i .i64)).at u46 x44] := hS50
    refine WL.val u46 _ (op_assign rfl) rfl ?_
    refine WL.nil ?_
    refine W.seq (W.region ?_)
    refine WL.val (Value.agg #[v_r_Table]) _ (op_loadBox st_26 hf33 (BoxAt.lift hS50.ext hx6) rfl rfl) rfl ?_
    refine WL.val (Value.int .i64 x37) _ (op_move rfl) rfl ?_
    obtain ⟨x51, hx52, hb28⟩ := bs hb28
    refine WL.call _ (op_call fn_32 (args2 rfl rfl)) (c_spec_l05Ring (Ty.lift _ (Ext.trans hE7 hS50.ext) r_r_Table) hr43 hx52) rfl ?_
    rintro _ wd54 ⟨u53, rfl, he55, hs56⟩
    have hS57 := St.join hS50 he55 hs56
    replace hS57 : St wd2 wd54 [(Ty.sl (Ty.i .i64)).at u32 x23, (Ty.sl (Ty.i .i64)).at u46 x44, (Ty.sl (Ty.sl (Ty.sl (Ty.i .i64)))).at u53 x51] := hS57
    obtain ⟨x58, hx59, hb28⟩ := bs hb28
    refine WL.call _ (op_call fn_45 (args1 rfl)) (c_spec_l05Adjoint (St.rep (t := (Ty.sl (Ty.sl (Ty.sl (Ty.i .i64))))) hS57 2 rfl) hx59) rfl ?_
    rintro _ wd61 ⟨rfl, hr60, he62⟩
    have hS64 := St.extend hS57 he62
    replace hS64 : St wd2 wd61 [(Ty.sl (Ty.i .i64)).at u32 x23, (Ty.sl (Ty.i .i64)).at u46 x44, (Ty.sl (Ty.sl (Ty.sl (Ty.i .i64)))).at u53 x51] := hS64
    refine WL.val (Value.int .i64 x58) _ (op_assign rfl) rfl ?_
    refine WL.val (Value.int .i64 (0 : Int)) _ (op_assign rfl) rfl ?_
    refine WL.nil ?_
    refine W.seq (W.seq (W.region ?_))
    refine WL.val (Value.int .i64 (0 : Int)) _ (op_assign rfl) rfl ?_
    refine WL.nil ?_
    show W _ _ _ _ _ _
    obtain ⟨res65, hres66, hb28⟩ := bs hb28
    refine W.blockLoop (fun fq wq => ∃ s, res65 = Res.fin s ∧ fq 1 = (Value.pointer (some ⟨b1, 0, none⟩)) ∧ fq 3 = u32 ∧ fq 4 = (Value.int .i64 x37) ∧ fq 7 = Value.int .i64 s ∧ InR .i64 s ∧ St wd2 wq [(Ty.sl (Ty.i .i64)).at u32 x23]) ?_ ?_
    · refine W.forN (fun k (s : Int) fq wq => fq 1 = (Value.pointer (some ⟨b1, 0, none⟩)) ∧ fq 3 = u32 ∧ fq 4 = (Value.int .i64 x37) ∧ fq 5 = u46 ∧ fq 6 = (Value.int .i64 x58) ∧ fq 7 = Value.int .i64 s ∧ InR .i64 s ∧ fq 8 = Value.int .i64 (k : Int) ∧ InR .i64 (k : Int) ∧ St wd2 wq [(Ty.sl (Ty.i .i64)).at u32 x23, (Ty.sl (Ty.i .i64)).at u46 x44]) hres66 ⟨hf33, hf34, rfl, rfl, rfl, rfl, (inL rfl), rfl, (inL rfl), (St.pick hS64 [0, 1] rfl)⟩ ?_ ?_
      · intro k67 x68 ct69 f70 wd71 hk72 hb73 hI74 hbrk75 hret76
        replace hI74 : f70 1 = (Value.pointer (some ⟨b1, 0, none⟩)) ∧ f70 3 = u32 ∧ f70 4 = (Value.int .i64 x37) ∧ f70 5 = u46 ∧ f70 6 = (Value.int .i64 x58) ∧ f70 7 = Value.int .i64 x68 ∧ InR .i64 x68 ∧ f70 8 = Value.int .i64 (k67 : Int) ∧ InR .i64 (k67 : Int) ∧ St wd2 wd71 [(Ty.sl (Ty.i .i64)).at u32 x23, (Ty.sl (Ty.i .i64)).at u46 x44] := hI74
        replace hb73 : p_spec_l05Series_L2 x58 x44 k67 x68 = some ct69 := hb73
        unfold p_spec_l05Series_L2 at hb73
        obtain ⟨hf77, hf78, hf79, hf80, hf81, hf82, hr83, hf84, hr85, hS86⟩ := hI74
        refine W.seq (W.seq (W.region ?_))
        refine WL.val (Value.int .i64 (k67 : Int)) _ (op_move hf84) rfl ?_
        refine WL.val u46 _ (op_move hf80) rfl ?_
        have hr87 := inR_len (St.rep (t := (Ty.sl (Ty.i .i64))) hS86 1 rfl)
        refine WL.val (Value.int .i64 ((x44).length : Int)) _ (op_lenL sl_33 (St.rep (t := (Ty.sl (Ty.i .i64))) hS86 1 rfl) rfl) rfl ?_
        refine WL.val (Value.bool (decide ((k67 : Int) < ((x44).length : Int)))) _ (op_lss rfl rfl) rfl ?_
        have hl88 : (k67 : Int) < ((x44).length : Int) := by omega
        refine WL.nil ?_
        refine W.condT (decide ((k67 : Int) < ((x44).length : Int))) rfl (decide_eq_true hl88) ?_
        refine W.skip ?_
        refine W.seq ?_
        refine W.block ?_
        refine W.seq (W.region ?_)
        refine WL.val (Value.int .i64 x58) _ (op_move hf81) rfl ?_
        refine WL.val (Value.int .i64 (k67 : Int)) _ (op_move hf84) rfl ?_
        obtain ⟨x90, hx91, hb73⟩ := bs hb73
        refine WL.call _ (op_call fn_64 (args2 rfl rfl)) (c_spec_l05Bit hr60 hr85 hx91) rfl ?_
        rintro _ wd92 ⟨rfl, he93⟩
        have hS95 := St.extend hS86 he93
        replace hS95 : St wd2 wd92 [(Ty.sl (Ty.i .i64)).at u32 x23, (Ty.sl (Ty.i .i64)).at u46 x44] := hS95
        refine WL.nil ?_
        show W _ _ _ _ _ _
        obtain ⟨x96, hj97, hb73⟩ := bs hb73
        refine W.cutCode (fun fq wq => fq 1 = (Value.pointer (some ⟨b1, 0, none⟩)) ∧ fq 3 = u32 ∧ fq 4 = (Value.int .i64 x37) ∧ fq 5 = u46 ∧ fq 6 = (Value.int .i64 x58) ∧ fq 7 = Value.int .i64 x96 ∧ InR .i64 x96 ∧ fq 8 = (Value.int .i64 (k67 : Int)) ∧ St wd2 wq [(Ty.sl (Ty.i .i64)).at u32 x23, (Ty.sl (Ty.i .i64)).at u46 x44]) ?_ ?_
        · refine W.cond x90 rfl (fun hc98 => ?_) (fun hc98 => ?_)
          · replace hj97 := ip hj97 hc98
            refine W.region ?_
            refine WL.val (Value.int .i64 x68) _ (op_move hf82) rfl ?_
            refine WL.val u46 _ (op_move hf80) rfl ?_
            refine WL.val (Value.int .i64 (k67 : Int)) _ (op_move hf84) rfl ?_
            obtain ⟨x99, hx102, hj97⟩ := bs hj97
            obtain ⟨ha100, hb101, hx102⟩ := idx_some hx102
            refine WL.val (Value.pointer (some (elA u46 ((k67 : Int)).toNat))) _ (op_idx sl_33 (St.rep (t := (Ty.sl (Ty.i .i64))) hS95 1 rfl) rfl rfl ha100 hb101) rfl ?_
            obtain ⟨u103, hc104, hr105⟩ := repSl.el (St.rep (t := (Ty.sl (Ty.i .i64))) hS95 1 rfl) hx102
            obtain ⟨rfl, hr105⟩ := hr105
            refine WL.val (Value.int .i64 x99) _ (op_load one_2 rfl hc104) rfl ?_
            refine WL.val (Value.int .u64 (IntKind.u64.wrap x99)) _ (op_convert rfl it_2 it_69) rfl ?_
            obtain ⟨x106, hz107, hj97⟩ := bs hj97
            obtain ⟨h0108, hz107⟩ := shlI_some hz107
            have hr109 : InR .i64 x106 := by rw [hz107]; exact inR_wrap _ _
            refine WL.val (Value.int .i64 x106) _ (by rw [hz107]; exact op_shl rfl rfl h0108) rfl ?_
            refine WL.val (Value.int .i64 (orI .i64 x68 x106)) _ (op_or rfl rfl) rfl ?_
            refine WL.val (Value.int .i64 (orI .i64 x68 x106)) _ (op_assign rfl) rfl ?_
            refine WL.nil ?_
            obtain rfl := Option.some.inj hj97
            exact ⟨hf77, hf78, hf79, hf80, hf81, rfl, (inR_wrap _ _), hf84, hS95⟩
          · replace hj97 := inegb hj97 hc98
            refine W.skip ?_
            obtain rfl := Option.some.inj hj97
            exact ⟨hf77, hf78, hf79, hf80, hf81, hf82, hr83, hf84, hS95⟩
        · intro f110 wd111 hq112
          obtain ⟨hf113, hf114, hf115, hf116, hf117, hf118, hr119, hf120, hS121⟩ := hq112
          show W _ _ _ _ _ _
          refine W.region ?_
          refine WL.val (Value.int .i64 (k67 : Int)) _ (op_move hf120) rfl ?_
          refine WL.val (Value.int .i64 (w64 ((k67 : Int) + (1 : Int)))) _ (op_add rfl rfl) rfl ?_
          refine WL.val (Value.int .i64 (w64 ((k67 : Int) + (1 : Int)))) _ (op_assign rfl) rfl ?_
          refine WL.nil ?_
          obtain rfl := Option.some.inj hb73
          show ∃ s, _ = Ctl.next s ∧ _
          exact ⟨_, rfl, hf113, hf114, hf115, hf116, hf117, hf118, hr119, (ctr_next hl88 hr87), (ctr_rng hl88 hr87), hS121⟩
      · intro x128 f123 wd124 hs125 hI126
        replace hI126 : f123 1 = (Value.pointer (some ⟨b1, 0, none⟩)) ∧ f123 3 = u32 ∧ f123 4 = (Value.int .i64 x37) ∧ f123 5 = u46 ∧ f123 6 = (Value.int .i64 x58) ∧ f123 7 = Value.int .i64 x128 ∧ InR .i64 x128 ∧ f123 8 = Value.int .i64 (((x44).length : Nat) : Int) ∧ InR .i64 (((x44).length : Nat) : Int) ∧ St wd2 wd124 [(Ty.sl (Ty.i .i64)).at u32 x23, (Ty.sl (Ty.i .i64)).at u46 x44] := hI126
        obtain ⟨hf129, hf130, hf131, hf132, hf133, hf134, hr135, hf136, hr137, hS138⟩ := hI126
        refine W.seq (W.seq (W.region ?_))
        refine WL.val (Value.int .i64 (((x44).length : Nat) : Int)) _ (op_move hf136) rfl ?_
        refine WL.val u46 _ (op_move hf132) rfl ?_
        have hr139 := inR_len (St.rep (t := (Ty.sl (Ty.i .i64))) hS138 1 rfl)
        refine WL.val (Value.int .i64 ((x44).length : Int)) _ (op_lenL sl_33 (St.rep (t := (Ty.sl (Ty.i .i64))) hS138 1 rfl) rfl) rfl ?_
        refine WL.val (Value.bool (decide ((((x44).length : Nat) : Int) < ((x44).length : Int)))) _ (op_lss rfl rfl) rfl ?_
        have hl140 : ¬ (((x44).length : Nat) : Int) < ((x44).length : Int) := by omega
        refine WL.nil ?_
        refine W.condF (decide ((((x44).length : Nat) : Int) < ((x44).length : Int))) rfl (decide_eq_false hl140) ?_
        refine W.exit ?_
        show _ = _ ∧ _
        exact ⟨rfl, _, hs125, hf129, hf130, hf131, hf134, hr135, (St.pick hS138 [0] rfl)⟩
    · rintro f141 wd142 ⟨x145, rfl, hq143⟩
      replace hb28 := onRes_fin hb28
      replace hq143 : f141 1 = (Value.pointer (some ⟨b1, 0, none⟩)) ∧ f141 3 = u32 ∧ f141 4 = (Value.int .i64 x37) ∧ f141 7 = Value.int .i64 x145 ∧ InR .i64 x145 ∧ St wd2 wd142 [(Ty.sl (Ty.i .i64)).at u32 x23] := hq143
      obtain ⟨hf146, hf147, hf148, hf149, hr150, hS151⟩ := hq143
      refine W.seq (W.seq (W.region ?_))
      refine WL.val (Value.int .i64 x145) _ (op_move hf149) rfl ?_
      refine WL.val (Value.int .i64 x37) _ (op_move hf148) rfl ?_
      refine WL.val (Value.bool (x145 == x37)) _ (op_eql rfl rfl) rfl ?_
      refine WL.nil ?_
      refine W.cond (x145 == x37) rfl (fun hc152 => ?_) (fun hc152 => ?_)
      · replace hb28 := ip hb28 hc152
        refine W.seq (W.region ?_)
        refine WL.val u32 _ (op_move hf147) rfl ?_
        refine WL.val u32 _ (op_assign rfl) rfl ?_
        refine WL.nil ?_
        refine W.ret ?_
        obtain rfl := Option.some.inj hb28
        obtain rfl := hret31 _ rfl
        replace h := onRes_ret h
        obtain rfl := Option.some.inj h
        show FinP _ _ _ _ _ _ _
        exact FinP.ret _ (res1 rfl rfl) ⟨u32, rfl, (Ext.trans hE7 hS151.ext), (St.out (St.pick hS151 [0] rfl) (hE7))⟩
      · replace hb28 := inegb hb28 hc152
        refine W.skip ?_
        show W _ _ _ _ _ _
        refine W.region ?_
        refine WL.val u32 _ (op_move hf147) rfl ?_
        refine WL.val (Value.int .i64 x145) _ (op_move hf149) rfl ?_
        refine WL.litFlat (t := (Ty.i .i64)) (flat_i .i64) [(Value.int .i64 x145)] [x145] hS151 sl_33 rfl rfl (fillL rfl ⟨rfl, rfl, rfl, trivial⟩) rfl rfl (litL ⟨⟨rfl, hr150⟩, trivial⟩) rfl ?_
        intro u154 wd155 hS156 he157
        replace hS156 : St wd2 wd155 [(Ty.sl (Ty.i .i64)).at u32 x23, (Ty.sl (Ty.i .i64)).at u154 ([x145] : (List Int))] := hS156
        obtain ⟨x158, hx159, hb28⟩ := bs hb28
        refine WL.append (flat_i .i64) hS156 (k := 0) rfl sl_33 rfl rfl rfl rfl (St.rep (t := (Ty.sl (Ty.i .i64))) hS156 1 rfl) hx159 rfl ?_
        intro u160 wd161 hS162 hz163
        replace hS162 : St wd2 wd161 [(Ty.sl (Ty.i .i64)).at u160 x158, (Ty.sl (Ty.i .i64)).at u154 ([x145] : (List Int))] := hS162
        refine WL.val u160 _ (op_assign rfl) rfl ?_
        refine WL.nil ?_
        obtain rfl := Option.some.inj hb28
        show ∃ s, _ = Ctl.next s ∧ _
        exact ⟨_, rfl, u160, hf146, rfl, (St.pick hS162 [0] rfl)⟩
  · rintro f166 wd167 ⟨x170, rfl, hq168⟩
    replace h := onRes_fin h
    replace hq168 : St wd2 wd167 [] := hq168
    exact nomatch (show (none : Option _) = some _ from h)

theorem c_spec_AdjointSeries {w : World} {r_Table : (List (List (List Int)))} {v_r_Table : Value} (r_r_Table : (Ty.sl (Ty.sl (Ty.sl (Ty.i .i64)))).rep w v_r_Table r_Table) {res : (List Int) × Int} (h : p_spec_AdjointSeries r_Table  = some res) :
    Ret Tryd.prog 15 #[(Value.agg #[v_r_Table])] w (fun v w' => ∃ (u0 : Value), v = (Value.tuple #[u0, Value.int .i64 res.2]) ∧ InR .i64 res.2 ∧ Ext w w' ∧ Sep w.heap.size w' [(Ty.sl (Ty.i .i64)).at u0 res.1]) := by
  unfold p_spec_AdjointSeries at h
  have hS0 : St w w [] := St.start w
  refine Ret.start (fn := Tryd.f15) Tryd.func15 rfl 9 rfl rfl ?_
  refine W.seq (W.region ?_)
  refine WL.box hS0 rfl (cs := [v_r_Table]) rfl rfl ?_
  intro b1 wd2 hS3 he4 hx5
  replace hS3 : St w wd2 [bx b1 [v_r_Table]] := hS3
  have hx6 := St.boxAt hS3 0 rfl
  have hE7 : Ext w wd2 := hS3.ext
  have hS8 : St wd2 wd2 [] := St.start wd2
  refine WL.val (Value.slice none 0 0) _ (op_assign rfl) rfl ?_
  refine WL.val (Value.int .i64 (0 : Int)) _ (op_assign rfl) rfl ?_
  refine WL.nil ?_
  refine W.seq (W.seq (W.region ?_))
  refine WL.val (Value.agg #[v_r_Table]) _ (op_loadBox st_26 rfl (BoxAt.lift hS8.ext hx6) rfl rfl) rfl ?_
  obtain ⟨x9, hx10, h⟩ := bs h
  refine WL.call _ (op_call fn_40 (args1 rfl)) (c_spec_l03Is (Ty.lift _ (Ext.trans hE7 hS8.ext) r_r_Table) hx10) rfl ?_
  rintro _ wd11 ⟨rfl, he12⟩
  have hS14 := St.extend hS8 he12
  replace hS14 : St wd2 wd11 [] := hS14
  refine WL.val (Value.bool (!x9)) _ (op_not rfl) rfl ?_
  refine WL.nil ?_
  refine W.cond (!x9) rfl (fun hc15 => ?_) (fun hc15 => ?_)
  · replace h := ip h hc15
    refine W.seq (W.region ?_)
    refine WL.val (Value.slice none 0 0) _ (op_assign rfl) rfl ?_
    refine WL.val (Value.int .i64 (1 : Int)) _ (op_assign rfl) rfl ?_
    refine WL.nil ?_
    refine W.ret ?_
    obtain rfl := Option.some.inj h
    show FinP _ _ _ _ _ _ _
    exact FinP.ret _ (res2 rfl rfl rfl) ⟨(Value.slice none 0 0), rfl, (inL rfl), (Ext.trans hE7 hS14.ext), (St.out (St.pick (St.addNil (Ty.i .i64) hS14) [0] rfl) (hE7))⟩
  · replace h := inegb h hc15
    refine W.skip ?_
    refine W.seq (W.region ?_)
    refine WL.val (Value.agg #[v_r_Table]) _ (op_loadBox st_26 rfl (BoxAt.lift hS14.ext hx6) rfl rfl) rfl ?_
    obtain ⟨x17, hx18, h⟩ := bs h
    refine WL.call _ (op_call fn_41 (args1 rfl)) (c_spec_l05Series (Ty.lift _ (Ext.trans hE7 hS14.ext) r_r_Table) hx18) rfl ?_
    rintro u19 wd20 ⟨_, rfl, he21, hs22⟩
    have hS23 := St.join hS14 he21 hs22
    replace hS23 : St wd2 wd20 [(Ty.sl (Ty.i .i64)).at u19 x17] := hS23
    refine WL.val u19 _ (op_assign rfl) rfl ?_
    refine WL.val (Value.int .i64 (0 : Int)) _ (op_assign rfl) rfl ?_
    refine WL.nil ?_
    refine W.ret ?_
    obtain rfl := Option.some.inj h
    show FinP _ _ _ _ _ _ _
    exact FinP.ret _ (res2 rfl rfl rfl) ⟨u19, rfl, (inL rfl), (Ext.trans hE7 hS23.ext), (St.out (St.pick hS23 [0] rfl) (hE7))⟩

theorem c_impl_Ring_adjoint {w : World} {r_Table : (List (List (List Int)))} {v_r_Table : Value} (tb : TabAt w) (r_r_Table : (Ty.sl (Ty.sl (Ty.sl (Ty.i .i64)))).rep w v_r_Table r_Table) {res : Int} (h : p_impl_Ring_adjoint r_Table  = some res) :
    Ret Tryd.prog 67 #[(Value.agg #[v_r_Table])] w (fun v w' => v = Value.int .i64 res ∧ InR .i64 res ∧ Ext w w') := by
  unfold p_impl_Ring_adjoint at h
  have hS0 : St w w [] := St.start w
  refine Ret.start (fn := Tryd.f67) Tryd.func67 rfl 30 rfl rfl ?_
  refine W.seq (W.region ?_)
  refine WL.box hS0 rfl (cs := [v_r_Table]) rfl rfl ?_
  intro b1 wd2 hS3 he4 hx5
  replace hS3 : St w wd2 [bx b1 [v_r_Table]] := hS3
  have hx6 := St.boxAt hS3 0 rfl
  have hE7 : Ext w wd2 := hS3.ext
  have hS8 : St wd2 wd2 [] := St.start wd2
  refine WL.val (Value.int .i64 (0 : Int)) _ (op_assign rfl) rfl ?_
  refine WL.nil ?_
  refine W.seq (W.region ?_)
  refine WL.val (Value.agg #[v_r_Table]) _ (op_loadBox st_26 rfl (BoxAt.lift hS8.ext hx6) rfl rfl) rfl ?_
  obtain ⟨x9, hx10, h⟩ := bs h
  refine WL.call _ (op_call fn_47 (args1 rfl)) (c_impl_Ring_supports (Ty.lift _ (Ext.trans hE7 hS8.ext) r_r_Table) hx10) rfl ?_
  rintro u11 wd12 ⟨_, rfl, he13, hs14⟩
  have hS15 := St.join hS8 he13 hs14
  replace hS15 : St wd2 wd12 [(Ty.sl (Ty.sl (Ty.i .i64))).at u11 x9] := hS15
  have hb16 := St.rep (t := (Ty.sl (Ty.sl (Ty.i .i64)))) hS15 0 rfl
  have hE17 : Ext w wd12 := (Ext.trans hE7 hS15.ext)
  have hE18 : Ext wd2 wd12 := hS15.ext
  have hS19 : St wd12 wd12 [] := St.start wd12
  refine WL.val u11 _ (op_assign rfl) rfl ?_
  refine WL.val (Value.int .i64 (0 : Int)) _ (op_assign rfl) rfl ?_
  refine WL.nil ?_
  refine W.seq (W.seq (W.region ?_))
  refine WL.val (Value.agg #[v_r_Table]) _ (op_loadBox st_26 rfl (BoxAt.lift (Ext.trans hE18 hS19.ext) hx6) rfl rfl) rfl ?_
  obtain ⟨x20, hx21, h⟩ := bs h
  refine WL.call _ (op_call fn_59 (args1 rfl)) (c_impl_Ring_duals (Ty.lift _ (Ext.trans hE17 hS19.ext) r_r_Table) hx21) rfl ?_
  rintro u22 wd23 ⟨_, rfl, he24, hs25⟩
  have hS26 := St.join hS19 he24 hs25
  replace hS26 : St wd12 wd23 [(Ty.sl (Ty.i .i64)).at u22 x20] := hS26
  have hb27 := St.rep (t := (Ty.sl (Ty.i .i64))) hS26 0 rfl
  have hE28 : Ext w wd23 := (Ext.trans hE17 hS26.ext)
  have hE29 : Ext wd2 wd23 := (Ext.trans hE18 hS26.ext)
  have hE30 : Ext wd12 wd23 := hS26.ext
  have hS31 : St wd23 wd23 [] := St.start wd23
  have hr32 := inR_len (Ty.lift _ hS31.ext hb27)
  refine WL.val (Value.int .i64 ((x20).length : Int)) _ (op_lenL sl_61 (Ty.lift _ hS31.ext hb27) rfl) rfl ?_
  refine WL.val (Value.int .i64 (0 : Int)) _ (op_move rfl) rfl ?_
  refine WL.nil ?_
  show W _ _ _ _ _ _
  obtain ⟨res33, hres34, h⟩ := bs h
  refine W.blockLoop (fun fq wq => ∃ s, res33 = Res.fin s ∧ fq 1 = (Value.pointer (some ⟨b1, 0, none⟩)) ∧ fq 4 = Value.int .i64 s ∧ InR .i64 s ∧ St wd23 wq []) ?_ ?_
  · refine W.forN (fun k (s : Int) fq wq => fq 1 = (Value.pointer (some ⟨b1, 0, none⟩)) ∧ fq 3 = u11 ∧ fq 4 = Value.int .i64 s ∧ InR .i64 s ∧ fq 10 = u22 ∧ fq 11 = (Value.int .i64 ((x20).length : Int)) ∧ fq 12 = Value.int .i64 (k : Int) ∧ InR .i64 (k : Int) ∧ St wd23 wq []) hres34 ⟨rfl, rfl, rfl, (inL rfl), rfl, rfl, rfl, (inL rfl), hS31⟩ ?_ ?_
    · intro k35 x36 ct37 f38 wd39 hk40 hb41 hI42 hbrk43 hret44
      replace hI42 : f38 1 = (Value.pointer (some ⟨b1, 0, none⟩)) ∧ f38 3 = u11 ∧ f38 4 = Value.int .i64 x36 ∧ InR .i64 x36 ∧ f38 10 = u22 ∧ f38 11 = (Value.int .i64 ((x20).length : Int)) ∧ f38 12 = Value.int .i64 (k35 : Int) ∧ InR .i64 (k35 : Int) ∧ St wd23 wd39 [] := hI42
      replace hb41 : p_impl_Ring_adjoint_L1 x20 x9 k35 x36 = some ct37 := hb41
      unfold p_impl_Ring_adjoint_L1 at hb41
      obtain ⟨hf45, hf46, hf47, hr48, hf49, hf50, hf51, hr52, hS53⟩ := hI42
      refine W.seq (W.region ?_)
      refine WL.val (Value.bool (decide ((k35 : Int) < ((x20).length : Int)))) _ (op_lss hf51 hf50) rfl ?_
      have hl54 : (k35 : Int) < ((x20).length : Int) := by omega
      refine WL.nil ?_
      refine W.seq ?_
      refine W.condT (decide ((k35 : Int) < ((x20).length : Int))) rfl (decide_eq_true hl54) ?_
      refine W.skip ?_
      refine W.seq ?_
      refine W.block ?_
      refine W.seq (W.region ?_)
      refine WL.val (Value.int .i64 (k35 : Int)) _ (op_move hf51) rfl ?_
      obtain ⟨x56, hx59, hb41⟩ := bs hb41
      obtain ⟨ha57, hb58, hx59⟩ := idx_some hx59
      refine WL.val (Value.pointer (some (elA u22 ((k35 : Int)).toNat))) _ (op_idx sl_61 (Ty.lift _ hS53.ext hb27) hf49 hf51 ha57 hb58) rfl ?_
      obtain ⟨u60, hc61, hr62⟩ := repSl.el hb27 hx59
      obtain ⟨rfl, hr62⟩ := hr62
      refine WL.val (Value.int .i64 x56) _ (op_load one_3 rfl (Ext.cell hS53.ext hc61)) rfl ?_
      refine WL.val (Value.int .i64 (k35 : Int)) _ (op_assign rfl) rfl ?_
      refine WL.val (Value.int .i64 x56) _ (op_assign rfl) rfl ?_
      refine WL.nil ?_
      show W _ _ _ _ _ _
      refine W.region ?_
      refine WL.val (Value.int .i64 x36) _ (op_move hf47) rfl ?_
      refine WL.val u11 _ (op_move hf46) rfl ?_
      refine WL.val (Value.int .i64 (k35 : Int)) _ (op_move rfl) rfl ?_
      obtain ⟨x63, hx66, hb41⟩ := bs hb41
      obtain ⟨ha64, hb65, hx66⟩ := idx_some hx66
      refine WL.val (Value.pointer (some (elA u11 ((k35 : Int)).toNat))) _ (op_idx sl_41 (Ty.lift _ (Ext.trans hE30 hS53.ext) hb16) rfl rfl ha64 hb65) rfl ?_
      obtain ⟨u67, hc68, hr69⟩ := repSl.el hb16 hx66
      refine WL.val u67 _ (op_load one_33 rfl (Ext.cell (Ext.trans hE30 hS53.ext) hc68)) rfl ?_
      refine WL.val (Value.int .i64 x56) _ (op_move rfl) rfl ?_
      obtain ⟨x70, hx73, hb41⟩ := bs hb41
      obtain ⟨ha71, hb72, hx73⟩ := idx_some hx73
      refine WL.val (Value.pointer (some (elA u67 (x56).toNat))) _ (op_idx sl_33 (Ty.lift _ (Ext.trans hE30 hS53.ext) hr69) rfl rfl ha71 hb72) rfl ?_
      obtain ⟨u74, hc75, hr76⟩ := repSl.el hr69 hx73
      obtain ⟨rfl, hr76⟩ := hr76
      refine WL.val (Value.int .i64 x70) _ (op_load one_2 rfl (Ext.cell (Ext.trans hE30 hS53.ext) hc75)) rfl ?_
      refine WL.val (Value.int .i64 (orI .i64 x36 x70)) _ (op_or rfl rfl) rfl ?_
      refine WL.val (Value.int .i64 (orI .i64 x36 x70)) _ (op_assign rfl) rfl ?_
      refine WL.nil ?_
      show W _ _ _ _ _ _
      refine W.region ?_
      refine WL.val (Value.int .i64 (w64 ((k35 : Int) + (1 : Int)))) _ (op_add hf51 rfl) rfl ?_
      refine WL.val (Value.int .i64 (w64 ((k35 : Int) + (1 : Int)))) _ (op_move rfl) rfl ?_
      refine WL.nil ?_
      obtain rfl := Option.some.inj hb41
      show ∃ s, _ = Ctl.next s ∧ _
      exact ⟨_, rfl, hf45, hf46, rfl, (inR_wrap _ _), hf49, hf50, (ctr_next hl54 hr32), (ctr_rng hl54 hr32), hS53⟩
    · intro x83 f78 wd79 hs80 hI81
      replace hI81 : f78 1 = (Value.pointer (some ⟨b1, 0, none⟩)) ∧ f78 3 = u11 ∧ f78 4 = Value.int .i64 x83 ∧ InR .i64 x83 ∧ f78 10 = u22 ∧ f78 11 = (Value.int .i64 ((x20).length : Int)) ∧ f78 12 = Value.int .i64 (((x20).length : Nat) : Int) ∧ InR .i64 (((x20).length : Nat) : Int) ∧ St wd23 wd79 [] := hI81
      obtain ⟨hf84, hf85, hf86, hr87, hf88, hf89, hf90, hr91, hS92⟩ := hI81
      refine W.seq (W.region ?_)
      refine WL.val (Value.bool (decide ((((x20).length : Nat) : Int) < ((x20).length : Int)))) _ (op_lss hf90 hf89) rfl ?_
      have hl93 : ¬ (((x20).length : Nat) : Int) < ((x20).length : Int) := by omega
      refine WL.nil ?_
      refine W.seq ?_
      refine W.condF (decide ((((x20).length : Nat) : Int) < ((x20).length : Int))) rfl (decide_eq_false hl93) ?_
      refine W.exit ?_
      show _ = _ ∧ _
      exact ⟨rfl, _, hs80, hf84, hf86, hr87, hS92⟩
  · rintro f94 wd95 ⟨x98, rfl, hq96⟩
    replace h := onRes_fin h
    replace hq96 : f94 1 = (Value.pointer (some ⟨b1, 0, none⟩)) ∧ f94 4 = Value.int .i64 x98 ∧ InR .i64 x98 ∧ St wd23 wd95 [] := hq96
    obtain ⟨hf99, hf100, hr101, hS102⟩ := hq96
    refine W.seq (W.region ?_)
    refine WL.val (Value.agg #[v_r_Table]) _ (op_loadBox st_26 hf99 (BoxAt.lift (Ext.trans hE29 hS102.ext) hx6) rfl rfl) rfl ?_
    refine WL.val (Value.int .i64 x98) _ (op_move hf100) rfl ?_
    obtain ⟨x103, hx104, h⟩ := bs h
    refine WL.call _ (op_call fn_35 (args2 rfl rfl)) (c_impl_Ring_closed (tb.ext (Ext.trans hE28 hS102.ext)) (Ty.lift _ (Ext.trans hE28 hS102.ext) r_r_Table) hr101 hx104) rfl ?_
    rintro _ wd106 ⟨rfl, hr105, he107⟩
    have hS109 := St.extend hS102 he107
    replace hS109 : St wd23 wd106 [] := hS109
    refine WL.val (Value.int .i64 x103) _ (op_assign rfl) rfl ?_
    refine WL.nil ?_
    refine W.ret ?_
    obtain rfl := Option.some.inj h
    show FinP _ _ _ _ _ _ _
    exact FinP.ret _ (res1 rfl rfl) ⟨rfl, hr105, (Ext.trans hE28 hS109.ext)⟩

theorem c_impl_Ring_series {w : World} {r_Table : (List (List (List Int)))} {v_r_Table : Value} (tb : TabAt w) (r_r_Table : (Ty.sl (Ty.sl (Ty.sl (Ty.i .i64)))).rep w v_r_Table r_Table) {res : (List Int)} (h : p_impl_Ring_series r_Table  = some res) :
    Ret Tryd.prog 43 #[(Value.agg #[v_r_Table])] w (fun v w' => ∃ (u0 : Value), v = u0 ∧ Ext w w' ∧ Sep w.heap.size w' [(Ty.sl (Ty.i .i64)).at u0 res]) := by
  unfold p_impl_Ring_series at h
  have hS0 : St w w [] := St.start w
  refine Ret.start (fn := Tryd.f43) Tryd.func43 rfl 45 rfl rfl ?_
  refine W.seq (W.region ?_)
  refine WL.box hS0 rfl (cs := [v_r_Table]) rfl rfl ?_
  intro b1 wd2 hS3 he4 hx5
  replace hS3 : St w wd2 [bx b1 [v_r_Table]] := hS3
  have hx6 := St.boxAt hS3 0 rfl
  have hE7 : Ext w wd2 := hS3.ext
  have hS8 : St wd2 wd2 [] := St.start wd2
  refine WL.val (Value.slice none 0 0) _ (op_assign rfl) rfl ?_
  refine WL.nil ?_
  refine W.seq (W.region ?_)
  refine WL.val (Value.pointer (some ⟨b1, 0, none⟩)) _ (op_fieldAddr fd_26_0 rfl) rfl ?_
  refine WL.val v_r_Table _ (op_load one_22 rfl (BoxAt.cell (BoxAt.lift hS8.ext hx6) rfl)) rfl ?_
  have hr9 := inR_len (Ty.lift _ (Ext.trans hE7 hS8.ext) r_r_Table)
  refine WL.val (Value.int .i64 ((r_Table).length : Int)) _ (op_lenL sl_22 (Ty.lift _ (Ext.trans hE7 hS8.ext) r_r_Table) rfl) rfl ?_
  obtain ⟨x10, hz11, h⟩ := bs h
  obtain ⟨h012, hz11⟩ := shlI_some hz11
  have hr13 : InR .i64 x10 := by rw [hz11]; exact inR_wrap _ _
  refine WL.val (Value.int .i64 x10) _ (by rw [hz11]; exact op_shl rfl rfl h012) rfl ?_
  refine WL.val (Value.int .i64 (w64 (x10 - (1 : Int)))) _ (op_sub rfl rfl) rfl ?_
  refine WL.val (Value.int .i64 (w64 (x10 - (1 : Int)))) _ (op_assign rfl) rfl ?_
  refine WL.nil ?_
  refine W.seq (W.region ?_)
  refine WL.val (Value.int .i64 (w64 (x10 - (1 : Int)))) _ (op_move rfl) rfl ?_
  refine WL.litFlat (t := (Ty.i .i64)) (flat_i .i64) [(Value.int .i64 (w64 (x10 - (1 : Int))))] [(w64 (x10 - (1 : Int)))] hS8 sl_33 rfl rfl (fillL rfl ⟨rfl, rfl, rfl, trivial⟩) rfl rfl (litL ⟨⟨rfl, (inR_wrap _ _)⟩, trivial⟩) rfl ?_
  intro u14 wd15 hS16 he17
  replace hS16 : St wd2 wd15 [(Ty.sl (Ty.i .i64)).at u14 ([(w64 (x10 - (1 : Int)))] : (List Int))] := hS16
  refine WL.val u14 _ (op_assign rfl) rfl ?_
  refine WL.nil ?_
  show W _ _ _ _ _ _
  obtain ⟨res18, hres19, h⟩ := bs h
  refine W.blockLoop (fun fq wq => ∃ s, res18 = Res.fin s ∧ St wd2 wq []) ?_ ?_
  · refine W.whileC (fun (s : (List Int) × Int) fq wq => ∃ (uu0 : Value), fq 1 = (Value.pointer (some ⟨b1, 0, none⟩)) ∧ fq 3 = Value.int .i64 s.2 ∧ InR .i64 s.2 ∧ fq 4 = uu0 ∧ St wd2 wq [(Ty.sl (Ty.i .i64)).at uu0 s.1]) hres19 ⟨u14, rfl, rfl, (inR_wrap _ _), rfl, hS16⟩ ?_
    intro s152 ct23 f24 wd25 hb27 hI28 hbrk29 hret30
    obtain ⟨x21, x22⟩ := s152
    replace hI28 : ∃ (uu0 : Value), f24 1 = (Value.pointer (some ⟨b1, 0, none⟩)) ∧ f24 3 = Value.int .i64 x22 ∧ InR .i64 x22 ∧ f24 4 = uu0 ∧ St wd2 wd25 [(Ty.sl (Ty.i .i64)).at uu0 x21] := hI28
    replace hb27 : p_impl_Ring_series_L1 r_Table  x21 x22 = some ct23 := hb27
    unfold p_impl_Ring_series_L1 at hb27
    obtain ⟨u31, hf32, hf33, hr34, hf35, hS36⟩ := hI28
    refine W.block ?_
    refine W.seq (W.region ?_)
    refine WL.val (Value.int .i64 x22) _ (op_move hf33) rfl ?_
    obtain ⟨x37, hx38, hb27⟩ := bs hb27
    refine WL.call _ (op_call fn_49 (args1 rfl)) (c_impl_labelsIn (tb.ext (Ext.trans hE7 hS36.ext)) hr34 hx38) rfl ?_
    rintro u39 wd40 ⟨_, rfl, he41, hs42⟩
    have hS43 := St.join hS36 he41 hs42
    replace hS43 : St wd2 wd40 [(Ty.sl (Ty.i .i64)).at u31 x21, (Ty.sl (Ty.i .i64)).at u39 x37] := hS43
    refine WL.val u39 _ (op_assign rfl) rfl ?_
    refine WL.val (Value.int .i64 (0 : Int)) _ (op_assign rfl) rfl ?_
    refine WL.nil ?_
    refine W.seq (W.seq (W.region ?_))
    refine WL.val (Value.agg #[v_r_Table]) _ (op_loadBox st_26 hf32 (BoxAt.lift hS43.ext hx6) rfl rfl) rfl ?_
    refine WL.val (Value.int .i64 x22) _ (op_move hf33) rfl ?_
    obtain ⟨x44, hx45, hb27⟩ := bs hb27
    refine WL.call _ (op_call fn_36 (args2 rfl rfl)) (c_impl_Ring_ringOf (tb.ext (Ext.trans hE7 hS43.ext)) (Ty.lift _ (Ext.trans hE7 hS43.ext) r_r_Table) hr34 hx45) rfl ?_
    rintro _ wd47 ⟨u46, rfl, he48, hs49⟩
    have hS50 := St.join hS43 he48 hs49
    replace hS50 : St wd2 wd47 [(Ty.sl (Ty.i .i64)).at u31 x21, (Ty.sl (Ty.i .i64)).at u39 x37, (Ty.sl (Ty.sl (Ty.sl (Ty.i .i64)))).at u46 x44] := hS50
    obtain ⟨x51, hx52, hb27⟩ := bs hb27
    refine WL.call _ (op_call fn_67 (args1 rfl)) (c_impl_Ring_adjoint (tb.ext (Ext.trans hE7 hS50.ext)) (St.rep (t := (Ty.sl (Ty.sl (Ty.sl (Ty.i .i64))))) hS50 2 rfl) hx52) rfl ?_
    rintro _ wd54 ⟨rfl, hr53, he55⟩
    have hS57 := St.extend hS50 he55
    replace hS57 : St wd2 wd54 [(Ty.sl (Ty.i .i64)).at u31 x21, (Ty.sl (Ty.i .i64)).at u39 x37, (Ty.sl (Ty.sl (Ty.sl (Ty.i .i64)))).at u46 x44] := hS57
    obtain ⟨x58, hx59, hb27⟩ := bs hb27
    refine WL.call _ (op_call fn_49 (args1 rfl)) (c_impl_labelsIn (tb.ext (Ext.trans hE7 hS57.ext)) hr53 hx59) rfl ?_
    rintro u60 wd61 ⟨_, rfl, he62, hs63⟩
    have hS64 := St.join hS57 he62 hs63
    replace hS64 : St wd2 wd61 [(Ty.sl (Ty.i .i64)).at u31 x21, (Ty.sl (Ty.i .i64)).at u39 x37, (Ty.sl (Ty.sl (Ty.sl (Ty.i .i64)))).at u46 x44, (Ty.sl (Ty.i .i64)).at u60 x58] := hS64
    have hr65 := inR_len (St.rep (t := (Ty.sl (Ty.i .i64))) hS64 3 rfl)
    refine WL.val (Value.int .i64 ((x58).length : Int)) _ (op_lenL sl_61 (St.rep (t := (Ty.sl (Ty.i .i64))) hS64 3 rfl) rfl) rfl ?_
    refine WL.val (Value.int .i64 (0 : Int)) _ (op_move rfl) rfl ?_
    refine WL.nil ?_
    show W _ _ _ _ _ _
    obtain ⟨res66, hres67, hb27⟩ := bs hb27
    refine W.blockLoop (fun fq wq => ∃ s, res66 = Res.fin s ∧ fq 1 = (Value.pointer (some ⟨b1, 0, none⟩)) ∧ fq 3 = (Value.int .i64 x22) ∧ fq 4 = u31 ∧ fq 6 = Value.int .i64 s ∧ InR .i64 s ∧ St wd2 wq [(Ty.sl (Ty.i .i64)).at u31 x21]) ?_ ?_
    · refine W.forN (fun k (s : Int) fq wq => fq 1 = (Value.pointer (some ⟨b1, 0, none⟩)) ∧ fq 3 = (Value.int .i64 x22) ∧ fq 4 = u31 ∧ fq 5 = u39 ∧ fq 6 = Value.int .i64 s ∧ InR .i64 s ∧ fq 22 = u60 ∧ fq 23 = (Value.int .i64 ((x58).length : Int)) ∧ fq 24 = Value.int .i64 (k : Int) ∧ InR .i64 (k : Int) ∧ St wd2 wq [(Ty.sl (Ty.i .i64)).at u31 x21, (Ty.sl (Ty.i .i64)).at u39 x37, (Ty.sl (Ty.i .i64)).at u60 x58]) hres67 ⟨hf32, hf33, hf35, rfl, rfl, (inL rfl), rfl, rfl, rfl, (inL rfl), (St.pick hS64 [0, 1, 3] rfl)⟩ ?_ ?_
      · intro k68 x69 ct70 f71 wd72 hk73 hb74 hI75 hbrk76 hret77
        replace hI75 : f71 1 = (Value.pointer (some ⟨b1, 0, none⟩)) ∧ f71 3 = (Value.int .i64 x22) ∧ f71 4 = u31 ∧ f71 5 = u39 ∧ f71 6 = Value.int .i64 x69 ∧ InR .i64 x69 ∧ f71 22 = u60 ∧ f71 23 = (Value.int .i64 ((x58).length : Int)) ∧ f71 24 = Value.int .i64 (k68 : Int) ∧ InR .i64 (k68 : Int) ∧ St wd2 wd72 [(Ty.sl (Ty.i .i64)).at u31 x21, (Ty.sl (Ty.i .i64)).at u39 x37, (Ty.sl (Ty.i .i64)).at u60 x58] := hI75
        replace hb74 : p_impl_Ring_series_L2 x58 x37 k68 x69 = some ct70 := hb74
        unfold p_impl_Ring_series_L2 at hb74
        obtain ⟨hf78, hf79, hf80, hf81, hf82, hr83, hf84, hf85, hf86, hr87, hS88⟩ := hI75
        refine W.seq (W.region ?_)
        refine WL.val (Value.bool (decide ((k68 : Int) < ((x58).length : Int)))) _ (op_lss hf86 hf85) rfl ?_
        have hl89 : (k68 : Int) < ((x58).length : Int) := by omega
        refine WL.nil ?_
        refine W.seq ?_
        refine W.condT (decide ((k68 : Int) < ((x58).length : Int))) rfl (decide_eq_true hl89) ?_
        refine W.skip ?_
        refine W.seq ?_
        refine W.block ?_
        refine W.seq (W.region ?_)
        obtain ⟨x91, hx94, hb74⟩ := bs hb74
        obtain ⟨ha92, hb93, hx94⟩ := idx_some hx94
        refine WL.val (Value.pointer (some (elA u60 ((k68 : Int)).toNat))) _ (op_idx sl_61 (St.rep (t := (Ty.sl (Ty.i .i64))) hS88 2 rfl) hf84 hf86 ha92 hb93) rfl ?_
        obtain ⟨u95, hc96, hr97⟩ := repSl.el (St.rep (t := (Ty.sl (Ty.i .i64))) hS88 2 rfl) hx94
        obtain ⟨rfl, hr97⟩ := hr97
        refine WL.val (Value.int .i64 x91) _ (op_load one_3 rfl hc96) rfl ?_
        refine WL.val (Value.int .i64 x91) _ (op_assign rfl) rfl ?_
        refine WL.nil ?_
        show W _ _ _ _ _ _
        refine W.region ?_
        refine WL.val (Value.int .i64 x69) _ (op_move hf82) rfl ?_
        refine WL.val u39 _ (op_move hf81) rfl ?_
        refine WL.val (Value.int .i64 x91) _ (op_move rfl) rfl ?_
        obtain ⟨x98, hx101, hb74⟩ := bs hb74
        obtain ⟨ha99, hb100, hx101⟩ := idx_some hx101
        refine WL.val (Value.pointer (some (elA u39 (x91).toNat))) _ (op_idx sl_61 (St.rep (t := (Ty.sl (Ty.i .i64))) hS88 1 rfl) rfl rfl ha99 hb100) rfl ?_
        obtain ⟨u102, hc103, hr104⟩ := repSl.el (St.rep (t := (Ty.sl (Ty.i .i64))) hS88 1 rfl) hx101
        obtain ⟨rfl, hr104⟩ := hr104
        refine WL.val (Value.int .i64 x98) _ (op_load one_3 rfl hc103) rfl ?_
        obtain ⟨x105, hz106, hb74⟩ := bs hb74
        obtain ⟨h0107, hz106⟩ := shlI_some hz106
        have hr108 : InR .i64 x105 := by rw [hz106]; exact inR_wrap _ _
        refine WL.val (Value.int .i64 x105) _ (by rw [hz106]; exact op_shl rfl rfl h0107) rfl ?_
        refine WL.val (Value.int .i64 (orI .i64 x69 x105)) _ (op_or rfl rfl) rfl ?_
        refine WL.val (Value.int .i64 (orI .i64 x69 x105)) _ (op_assign rfl) rfl ?_
        refine WL.nil ?_
        show W _ _ _ _ _ _
        refine W.region ?_
        refine WL.val (Value.int .i64 (w64 ((k68 : Int) + (1 : Int)))) _ (op_add hf86 rfl) rfl ?_
        refine WL.val (Value.int .i64 (w64 ((k68 : Int) + (1 : Int)))) _ (op_move rfl) rfl ?_
        refine WL.nil ?_
        obtain rfl := Option.some.inj hb74
        show ∃ s, _ = Ctl.next s ∧ _
        exact ⟨_, rfl, hf78, hf79, hf80, hf81, rfl, (inR_wrap _ _), hf84, hf85, (ctr_next hl89 hr65), (ctr_rng hl89 hr65), hS88⟩
      · intro x115 f110 wd111 hs112 hI113
        replace hI113 : f110 1 = (Value.pointer (some ⟨b1, 0, none⟩)) ∧ f110 3 = (Value.int .i64 x22) ∧ f110 4 = u31 ∧ f110 5 = u39 ∧ f110 6 = Value.int .i64 x115 ∧ InR .i64 x115 ∧ f110 22 = u60 ∧ f110 23 = (Value.int .i64 ((x58).length : Int)) ∧ f110 24 = Value.int .i64 (((x58).length : Nat) : Int) ∧ InR .i64 (((x58).length : Nat) : Int) ∧ St wd2 wd111 [(Ty.sl (Ty.i .i64)).at u31 x21, (Ty.sl (Ty.i .i64)).at u39 x37, (Ty.sl (Ty.i .i64)).at u60 x58] := hI113
        obtain ⟨hf116, hf117, hf118, hf119, hf120, hr121, hf122, hf123, hf124, hr125, hS126⟩ := hI113
        refine W.seq (W.region ?_)
        refine WL.val (Value.bool (decide ((((x58).length : Nat) : Int) < ((x58).length : Int)))) _ (op_lss hf124 hf123) rfl ?_
        have hl127 : ¬ (((x58).length : Nat) : Int) < ((x58).length : Int) := by omega
        refine WL.nil ?_
        refine W.seq ?_
        refine W.condF (decide ((((x58).length : Nat) : Int) < ((x58).length : Int))) rfl (decide_eq_false hl127) ?_
        refine W.exit ?_
        show _ = _ ∧ _
        exact ⟨rfl, _, hs112, hf116, hf117, hf118, hf120, hr121, (St.pick hS126 [0] rfl)⟩
    · rintro f128 wd129 ⟨x132, rfl, hq130⟩
      replace hb27 := onRes_fin hb27
      replace hq130 : f128 1 = (Value.pointer (some ⟨b1, 0, none⟩)) ∧ f128 3 = (Value.int .i64 x22) ∧ f128 4 = u31 ∧ f128 6 = Value.int .i64 x132 ∧ InR .i64 x132 ∧ St wd2 wd129 [(Ty.sl (Ty.i .i64)).at u31 x21] := hq130
      obtain ⟨hf133, hf134, hf135, hf136, hr137, hS138⟩ := hq130
      refine W.seq (W.seq (W.region ?_))
      refine WL.val (Value.int .i64 x132) _ (op_move hf136) rfl ?_
      refine WL.val (Value.int .i64 x22) _ (op_move hf134) rfl ?_
      refine WL.val (Value.bool (x132 == x22)) _ (op_eql rfl rfl) rfl ?_
      refine WL.nil ?_
      refine W.cond (x132 == x22) rfl (fun hc139 => ?_) (fun hc139 => ?_)
      · replace hb27 := ip hb27 hc139
        refine W.seq (W.region ?_)
        refine WL.val u31 _ (op_move hf135) rfl ?_
        refine WL.val u31 _ (op_assign rfl) rfl ?_
        refine WL.nil ?_
        refine W.ret ?_
        obtain rfl := Option.some.inj hb27
        obtain rfl := hret30 _ rfl
        replace h := onRes_ret h
        obtain rfl := Option.some.inj h
        show FinP _ _ _ _ _ _ _
        exact FinP.ret _ (res1 rfl rfl) ⟨u31, rfl, (Ext.trans hE7 hS138.ext), (St.out (St.pick hS138 [0] rfl) (hE7))⟩
      · replace hb27 := inegb hb27 hc139
        refine W.skip ?_
        show W _ _ _ _ _ _
        refine W.region ?_
        refine WL.val u31 _ (op_move hf135) rfl ?_
        refine WL.val (Value.int .i64 x132) _ (op_move hf136) rfl ?_
        refine WL.litFlat (t := (Ty.i .i64)) (flat_i .i64) [(Value.int .i64 x132)] [x132] hS138 sl_33 rfl rfl (fillL rfl ⟨rfl, rfl, rfl, trivial⟩) rfl rfl (litL ⟨⟨rfl, hr137⟩, trivial⟩) rfl ?_
        intro u141 wd142 hS143 he144
        replace hS143 : St wd2 wd142 [(Ty.sl (Ty.i .i64)).at u31 x21, (Ty.sl (Ty.i .i64)).at u141 ([x132] : (List Int))] := hS143
        obtain ⟨x145, hx146, hb27⟩ := bs hb27
        refine WL.append (flat_i .i64) hS143 (k := 0) rfl sl_33 rfl rfl rfl rfl (St.rep (t := (Ty.sl (Ty.i .i64))) hS143 1 rfl) hx146 rfl ?_
        intro u147 wd148 hS149 hz150
        replace hS149 : St wd2 wd148 [(Ty.sl (Ty.i .i64)).at u147 x145, (Ty.sl (Ty.i .i64)).at u141 ([x132] : (List Int))] := hS149
        refine WL.val (Value.int .i64 x132) _ (op_move hf136) rfl ?_
        refine WL.val u147 _ (op_assign rfl) rfl ?_
        refine WL.val (Value.int .i64 x132) _ (op_assign rfl) rfl ?_
        refine WL.nil ?_
        obtain rfl := Option.some.inj hb27
        show ∃ s, _ = Ctl.next s ∧ _
        exact ⟨_, rfl, u147, hf133, rfl, hr137, rfl, (St.pick hS149 [0] rfl)⟩
  · rintro f153 wd154 ⟨s156, rfl, hq155⟩
    replace h := onRes_fin h
    obtain ⟨x157, x158⟩ := s156
    replace hq155 : St wd2 wd154 [] := hq155
    exact nomatch (show (none : Option _) = some _ from h)

end Go.VG
