/- The walks, part 2: each Go function returns what its plain twin returns. No condition beyond what each names. -/
import Derived.Test.YtajalkfoblcaaaaGWalk1
set_option linter.all false
namespace Go.VG
open Go.Proofs
attribute [local irreducible] W WL Sep FinP

theorem c_laws_eqBraiding {w : World} {a_Cocycle_Orders : (List Int)} {v_a_Cocycle_Orders : Value} {a_Cocycle_Modulus : Int} {a_Cocycle_Values : (List (List (List Int)))} {v_a_Cocycle_Values : Value} {a_Values : (List (List Int))} {v_a_Values : Value} {b_Cocycle_Orders : (List Int)} {v_b_Cocycle_Orders : Value} {b_Cocycle_Modulus : Int} {b_Cocycle_Values : (List (List (List Int)))} {v_b_Cocycle_Values : Value} {b_Values : (List (List Int))} {v_b_Values : Value} (r_a_Cocycle_Orders : (Ty.sl (Ty.i .i64)).rep w v_a_Cocycle_Orders a_Cocycle_Orders) (r_a_Cocycle_Modulus : InR .i64 a_Cocycle_Modulus) (r_a_Cocycle_Values : (Ty.sl (Ty.sl (Ty.sl (Ty.i .i64)))).rep w v_a_Cocycle_Values a_Cocycle_Values) (r_a_Values : (Ty.sl (Ty.sl (Ty.i .i64))).rep w v_a_Values a_Values) (r_b_Cocycle_Orders : (Ty.sl (Ty.i .i64)).rep w v_b_Cocycle_Orders b_Cocycle_Orders) (r_b_Cocycle_Modulus : InR .i64 b_Cocycle_Modulus) (r_b_Cocycle_Values : (Ty.sl (Ty.sl (Ty.sl (Ty.i .i64)))).rep w v_b_Cocycle_Values b_Cocycle_Values) (r_b_Values : (Ty.sl (Ty.sl (Ty.i .i64))).rep w v_b_Values b_Values) {res : Bool} (h : p_laws_eqBraiding a_Cocycle_Orders a_Cocycle_Modulus a_Cocycle_Values a_Values b_Cocycle_Orders b_Cocycle_Modulus b_Cocycle_Values b_Values  = some res) :
    Ret Try.prog 21 #[(Value.agg #[v_a_Cocycle_Orders, (Value.int .i64 a_Cocycle_Modulus), v_a_Cocycle_Values, v_a_Values]), (Value.agg #[v_b_Cocycle_Orders, (Value.int .i64 b_Cocycle_Modulus), v_b_Cocycle_Values, v_b_Values])] w (fun v w' => v = Value.bool res ∧ Ext w w') := by
  unfold p_laws_eqBraiding at h
  have hS0 : St w w [] := St.start w
  refine Ret.start (fn := Try.f21) Try.func21 rfl 17 rfl rfl ?_
  refine W.seq (W.region ?_)
  refine WL.box hS0 rfl (cs := [v_a_Cocycle_Orders, (Value.int .i64 a_Cocycle_Modulus), v_a_Cocycle_Values, v_a_Values]) rfl rfl ?_
  intro b1 wd2 hS3 he4 hx5
  replace hS3 : St w wd2 [bx b1 [v_a_Cocycle_Orders, (Value.int .i64 a_Cocycle_Modulus), v_a_Cocycle_Values, v_a_Values]] := hS3
  have hx6 := St.boxAt hS3 0 rfl
  have hE7 : Ext w wd2 := hS3.ext
  have hS8 : St wd2 wd2 [] := St.start wd2
  refine WL.box hS8 rfl (cs := [v_b_Cocycle_Orders, (Value.int .i64 b_Cocycle_Modulus), v_b_Cocycle_Values, v_b_Values]) rfl rfl ?_
  intro b9 wd10 hS11 he12 hx13
  replace hS11 : St wd2 wd10 [bx b9 [v_b_Cocycle_Orders, (Value.int .i64 b_Cocycle_Modulus), v_b_Cocycle_Values, v_b_Values]] := hS11
  have hx14 := St.boxAt hS11 0 rfl
  have hE15 : Ext w wd10 := (Ext.trans hE7 hS11.ext)
  have hE16 : Ext wd2 wd10 := hS11.ext
  have hS17 : St wd10 wd10 [] := St.start wd10
  refine WL.val (Value.bool false) _ (op_assign rfl) rfl ?_
  refine WL.nil ?_
  show W _ _ _ _ _ _
  refine W.seq (W.seq (W.region ?_))
  refine WL.val (Value.pointer (some ⟨b1, 0, none⟩)) _ (op_fieldAddr fd_42_0 rfl) rfl ?_
  refine WL.val (Value.agg #[v_a_Cocycle_Orders, (Value.int .i64 a_Cocycle_Modulus), v_a_Cocycle_Values]) _ (op_loadBox st_30 rfl (BoxAt.lift (Ext.trans hE16 hS17.ext) hx6) rfl rfl) rfl ?_
  refine WL.val (Value.pointer (some ⟨b9, 0, none⟩)) _ (op_fieldAddr fd_42_0 rfl) rfl ?_
  refine WL.val (Value.agg #[v_b_Cocycle_Orders, (Value.int .i64 b_Cocycle_Modulus), v_b_Cocycle_Values]) _ (op_loadBox st_30 rfl (BoxAt.lift hS17.ext hx14) rfl rfl) rfl ?_
  obtain ⟨x18, hx19, h⟩ := bs h
  refine WL.call _ (op_call fn_13 (args2 rfl rfl)) (c_laws_eqCocycle (Ty.lift _ (Ext.trans hE15 hS17.ext) r_a_Cocycle_Orders) r_a_Cocycle_Modulus (Ty.lift _ (Ext.trans hE15 hS17.ext) r_a_Cocycle_Values) (Ty.lift _ (Ext.trans hE15 hS17.ext) r_b_Cocycle_Orders) r_b_Cocycle_Modulus (Ty.lift _ (Ext.trans hE15 hS17.ext) r_b_Cocycle_Values) hx19) rfl ?_
  rintro _ wd20 ⟨rfl, he21⟩
  have hS23 := St.extend hS17 he21
  replace hS23 : St wd10 wd20 [] := hS23
  refine WL.val (Value.bool (!x18)) _ (op_not rfl) rfl ?_
  refine WL.nil ?_
  show W _ _ _ _ _ _
  refine W.cond (!x18) rfl (fun hc24 => ?_) (fun hc24 => ?_)
  · replace h := ip h hc24
    refine W.seq (W.region ?_)
    refine WL.val (Value.bool false) _ (op_assign rfl) rfl ?_
    refine WL.nil ?_
    show W _ _ _ _ _ _
    refine W.ret ?_
    obtain rfl := Option.some.inj h
    show FinP _ _ _ _ _ _ _
    exact FinP.ret _ (res1 rfl rfl) ⟨rfl, (Ext.trans hE15 hS23.ext)⟩
  · replace h := inegb h hc24
    refine W.skip ?_
    show W _ _ _ _ _ _
    refine W.seq (W.seq (W.region ?_))
    refine WL.val (Value.pointer (some ⟨b1, 3, none⟩)) _ (op_fieldAddr fd_42_1 rfl) rfl ?_
    refine WL.val v_a_Values _ (op_load one_27 rfl (BoxAt.cell (BoxAt.lift (Ext.trans hE16 hS23.ext) hx6) rfl)) rfl ?_
    refine WL.val (Value.pointer (some ⟨b9, 3, none⟩)) _ (op_fieldAddr fd_42_1 rfl) rfl ?_
    refine WL.val v_b_Values _ (op_load one_27 rfl (BoxAt.cell (BoxAt.lift hS23.ext hx14) rfl)) rfl ?_
    obtain ⟨x26, hx27, h⟩ := bs h
    refine WL.call _ (op_call fn_12 (args2 rfl rfl)) (c_laws_eqInt64SS (Ty.lift _ (Ext.trans hE15 hS23.ext) r_a_Values) (Ty.lift _ (Ext.trans hE15 hS23.ext) r_b_Values) hx27) rfl ?_
    rintro _ wd28 ⟨rfl, he29⟩
    have hS31 := St.extend hS23 he29
    replace hS31 : St wd10 wd28 [] := hS31
    refine WL.val (Value.bool (!x26)) _ (op_not rfl) rfl ?_
    refine WL.nil ?_
    show W _ _ _ _ _ _
    refine W.cond (!x26) rfl (fun hc32 => ?_) (fun hc32 => ?_)
    · replace h := ip h hc32
      refine W.seq (W.region ?_)
      refine WL.val (Value.bool false) _ (op_assign rfl) rfl ?_
      refine WL.nil ?_
      show W _ _ _ _ _ _
      refine W.ret ?_
      obtain rfl := Option.some.inj h
      show FinP _ _ _ _ _ _ _
      exact FinP.ret _ (res1 rfl rfl) ⟨rfl, (Ext.trans hE15 hS31.ext)⟩
    · replace h := inegb h hc32
      refine W.skip ?_
      show W _ _ _ _ _ _
      refine W.seq (W.region ?_)
      refine WL.val (Value.bool true) _ (op_assign rfl) rfl ?_
      refine WL.nil ?_
      show W _ _ _ _ _ _
      refine W.ret ?_
      obtain rfl := Option.some.inj h
      show FinP _ _ _ _ _ _ _
      exact FinP.ret _ (res1 rfl rfl) ⟨rfl, (Ext.trans hE15 hS31.ext)⟩

theorem c_spec_l01Own {w : World} {list : (List Int)} {v_list : Value} (r_list : (Ty.sl (Ty.i .i64)).rep w v_list list) {res : (List Int)} (h : p_spec_l01Own list  = some res) :
    Ret Try.prog 87 #[v_list] w (fun v w' => ∃ (u0 : Value), v = u0 ∧ Ext w w' ∧ Sep w.heap.size w' [(Ty.sl (Ty.i .i64)).at u0 res]) := by
  unfold p_spec_l01Own at h
  have hS0 : St w w [] := St.start w
  refine Ret.start (fn := Try.f87) Try.func87 rfl 6 rfl rfl ?_
  refine W.seq (W.region ?_)
  refine WL.val (Value.slice none 0 0) _ (op_assign rfl) rfl ?_
  refine WL.nil ?_
  show W _ _ _ _ _ _
  refine W.seq (W.region ?_)
  refine WL.lit0 (t := (Ty.i .i64)) hS0 sl_22 rfl rfl ?_
  intro u1 wd2 hS3 he4
  replace hS3 : St w wd2 [(Ty.sl (Ty.i .i64)).at u1 ([] : (List Int))] := hS3
  refine WL.val v_list _ (op_move rfl) rfl ?_
  obtain ⟨x5, hx6, h⟩ := bs h
  refine WL.append (flat_i .i64) hS3 (k := 0) rfl sl_22 rfl rfl rfl rfl (Ty.lift _ hS3.ext r_list) hx6 rfl ?_
  intro u7 wd8 hS9 hz10
  replace hS9 : St w wd8 [(Ty.sl (Ty.i .i64)).at u7 x5] := hS9
  refine WL.val u7 _ (op_assign rfl) rfl ?_
  refine WL.nil ?_
  show W _ _ _ _ _ _
  refine W.ret ?_
  obtain rfl := Option.some.inj h
  show FinP _ _ _ _ _ _ _
  exact FinP.ret _ (res1 rfl rfl) ⟨u7, rfl, hS9.ext, (St.out (St.pick hS9 [0] rfl) (Ext.refl _))⟩

theorem c_spec_l06Empty {w : World} {n : Int} (r_n : InR .i64 n) {res : (List (List (List Int)))} (h : p_spec_l06Empty n  = some res) :
    Ret Try.prog 98 #[(Value.int .i64 n)] w (fun v w' => ∃ (u0 : Value), v = u0 ∧ Ext w w' ∧ Sep w.heap.size w' [(Ty.sl (Ty.sl (Ty.sl (Ty.i .i64)))).at u0 res]) := by
  unfold p_spec_l06Empty at h
  have hS0 : St w w [] := St.start w
  refine Ret.start (fn := Try.f98) Try.func98 rfl 29 rfl rfl ?_
  refine W.seq (W.region ?_)
  refine WL.val (Value.slice none 0 0) _ (op_assign rfl) rfl ?_
  refine WL.nil ?_
  show W _ _ _ _ _ _
  refine W.seq (W.region ?_)
  refine WL.lit0 (t := (Ty.sl (Ty.sl (Ty.i .i64)))) hS0 sl_23 rfl rfl ?_
  intro u1 wd2 hS3 he4
  replace hS3 : St w wd2 [(Ty.sl (Ty.sl (Ty.sl (Ty.i .i64)))).at u1 ([] : (List (List (List Int))))] := hS3
  refine WL.val u1 _ (op_assign rfl) rfl ?_
  refine WL.nil ?_
  show W _ _ _ _ _ _
  refine W.seq (W.seq (W.region ?_))
  refine WL.val (Value.int .i64 (0 : Int)) _ (op_assign rfl) rfl ?_
  refine WL.nil ?_
  show W _ _ _ _ _ _
  obtain ⟨res5, hres6, h⟩ := bs h
  refine W.blockLoop (fun fq wq => ∃ s, res5 = Res.fin s ∧ ∃ (uu0 : Value), fq 3 = uu0 ∧ St w wq [(Ty.sl (Ty.sl (Ty.sl (Ty.i .i64)))).at uu0 s]) ?_ ?_
  · refine W.forN (fun k (s : (List (List (List Int)))) fq wq => ∃ (uu0 : Value), fq 0 = (Value.int .i64 n) ∧ fq 3 = uu0 ∧ fq 4 = Value.int .i64 (k : Int) ∧ InR .i64 (k : Int) ∧ St w wq [(Ty.sl (Ty.sl (Ty.sl (Ty.i .i64)))).at uu0 s]) hres6 ⟨u1, rfl, rfl, rfl, (inR_i64.2 (show (-9223372036854775808 : Int) ≤ 0 ∧ (0 : Int) ≤ 9223372036854775807 from by decide)), hS3⟩ ?_ ?_
    · intro k7 x8 ct9 f10 wd11 hk12 hb13 hI14 hbrk15 hret16
      replace hI14 : ∃ (uu0 : Value), f10 0 = (Value.int .i64 n) ∧ f10 3 = uu0 ∧ f10 4 = Value.int .i64 (k7 : Int) ∧ InR .i64 (k7 : Int) ∧ St w wd11 [(Ty.sl (Ty.sl (Ty.sl (Ty.i .i64)))).at uu0 x8] := hI14
      replace hb13 : p_spec_l06Empty_L1 n k7 x8 = some ct9 := hb13
      unfold p_spec_l06Empty_L1 at hb13
      obtain ⟨u17, hf18, hf19, hf20, hr21, hS22⟩ := hI14
      refine W.seq (W.seq (W.region ?_))
      refine WL.val (Value.int .i64 (k7 : Int)) _ (op_move hf20) rfl ?_
      refine WL.val (Value.int .i64 n) _ (op_move hf18) rfl ?_
      refine WL.val (Value.bool (decide ((k7 : Int) < n))) _ (op_lss rfl rfl) rfl ?_
      have hl23 : (k7 : Int) < n := by omega
      refine WL.nil ?_
      show W _ _ _ _ _ _
      refine W.condT (decide ((k7 : Int) < n)) rfl (decide_eq_true hl23) ?_
      refine W.skip ?_
      show W _ _ _ _ _ _
      refine W.seq ?_
      refine W.block ?_
      refine W.seq (W.region ?_)
      refine WL.lit0 (t := (Ty.sl (Ty.i .i64))) hS22 sl_27 rfl rfl ?_
      intro u25 wd26 hS27 he28
      replace hS27 : St w wd26 [(Ty.sl (Ty.sl (Ty.sl (Ty.i .i64)))).at u17 x8, (Ty.sl (Ty.sl (Ty.i .i64))).at u25 ([] : (List (List Int)))] := hS27
      refine WL.val u25 _ (op_assign rfl) rfl ?_
      refine WL.nil ?_
      show W _ _ _ _ _ _
      refine W.seq (W.seq (W.region ?_))
      refine WL.val (Value.int .i64 (0 : Int)) _ (op_assign rfl) rfl ?_
      refine WL.nil ?_
      show W _ _ _ _ _ _
      obtain ⟨res29, hres30, hb13⟩ := bs hb13
      refine W.blockLoop (fun fq wq => ∃ s, res29 = Res.fin s ∧ ∃ (uu0 : Value), fq 0 = (Value.int .i64 n) ∧ fq 3 = u17 ∧ fq 4 = (Value.int .i64 (k7 : Int)) ∧ fq 5 = uu0 ∧ St w wq [(Ty.sl (Ty.sl (Ty.sl (Ty.i .i64)))).at u17 x8, (Ty.sl (Ty.sl (Ty.i .i64))).at uu0 s]) ?_ ?_
      · refine W.forN (fun k (s : (List (List Int))) fq wq => ∃ (uu0 : Value), fq 0 = (Value.int .i64 n) ∧ fq 3 = u17 ∧ fq 4 = (Value.int .i64 (k7 : Int)) ∧ fq 5 = uu0 ∧ fq 6 = Value.int .i64 (k : Int) ∧ InR .i64 (k : Int) ∧ St w wq [(Ty.sl (Ty.sl (Ty.sl (Ty.i .i64)))).at u17 x8, (Ty.sl (Ty.sl (Ty.i .i64))).at uu0 s]) hres30 ⟨u25, hf18, hf19, hf20, rfl, rfl, (inR_i64.2 (show (-9223372036854775808 : Int) ≤ 0 ∧ (0 : Int) ≤ 9223372036854775807 from by decide)), hS27⟩ ?_ ?_
        · intro k31 x32 ct33 f34 wd35 hk36 hb37 hI38 hbrk39 hret40
          replace hI38 : ∃ (uu0 : Value), f34 0 = (Value.int .i64 n) ∧ f34 3 = u17 ∧ f34 4 = (Value.int .i64 (k7 : Int)) ∧ f34 5 = uu0 ∧ f34 6 = Value.int .i64 (k31 : Int) ∧ InR .i64 (k31 : Int) ∧ St w wd35 [(Ty.sl (Ty.sl (Ty.sl (Ty.i .i64)))).at u17 x8, (Ty.sl (Ty.sl (Ty.i .i64))).at uu0 x32] := hI38
          replace hb37 : p_spec_l06Empty_L2 n k31 x32 = some ct33 := hb37
          unfold p_spec_l06Empty_L2 at hb37
          obtain ⟨u41, hf42, hf43, hf44, hf45, hf46, hr47, hS48⟩ := hI38
          refine W.seq (W.seq (W.region ?_))
          refine WL.val (Value.int .i64 (k31 : Int)) _ (op_move hf46) rfl ?_
          refine WL.val (Value.int .i64 n) _ (op_move hf42) rfl ?_
          refine WL.val (Value.bool (decide ((k31 : Int) < n))) _ (op_lss rfl rfl) rfl ?_
          have hl49 : (k31 : Int) < n := by omega
          refine WL.nil ?_
          show W _ _ _ _ _ _
          refine W.condT (decide ((k31 : Int) < n)) rfl (decide_eq_true hl49) ?_
          refine W.skip ?_
          show W _ _ _ _ _ _
          refine W.seq ?_
          refine W.block ?_
          refine W.region ?_
          refine WL.val u41 _ (op_move hf45) rfl ?_
          refine WL.val (Value.int .i64 n) _ (op_move hf42) rfl ?_
          obtain ⟨x51, hx52, hb37⟩ := bs hb37
          refine WL.make (t := (Ty.i .i64)) hS48 sl_22 (fun _ _ => ⟨rfl, (inR_i64.2 (show (-9223372036854775808 : Int) ≤ 0 ∧ (0 : Int) ≤ 9223372036854775807 from by decide))⟩) rfl rfl hx52 rfl rfl ?_
          intro u53 wd54 hS55 he56
          replace hS55 : St w wd54 [(Ty.sl (Ty.sl (Ty.sl (Ty.i .i64)))).at u17 x8, (Ty.sl (Ty.sl (Ty.i .i64))).at u41 x32, (Ty.sl (Ty.i .i64)).at u53 x51] := hS55
          refine WL.lit [u53] hS55 sl_27 rfl rfl (fillL rfl ⟨rfl, rfl, (cells_rep (St.rep (t := (Ty.sl (Ty.i .i64))) hS55 2 rfl)), trivial⟩) rfl rfl ?_
          intro b61 wd58 hS59 he60 hx62
          replace hS59 : St w wd58 [(Ty.sl (Ty.sl (Ty.sl (Ty.i .i64)))).at u17 x8, (Ty.sl (Ty.sl (Ty.i .i64))).at u41 x32, (Ty.sl (Ty.i .i64)).at u53 x51, bx b61 [u53]] := hS59
          obtain ⟨x63, hx64, hb37⟩ := bs hb37
          refine WL.appendRow hS59 (k := 1) (k2 := 2) (k3 := 3) rfl rfl rfl rfl sl_27 rfl rfl rfl rfl hx64 rfl ?_
          intro u65 wd66 hS67 hz68
          replace hS67 : St w wd66 [(Ty.sl (Ty.sl (Ty.sl (Ty.i .i64)))).at u17 x8, (Ty.sl (Ty.sl (Ty.i .i64))).at u65 x63, emp, bx b61 [u53]] := hS67
          refine WL.val u65 _ (op_assign rfl) rfl ?_
          refine WL.nil ?_
          show W _ _ _ _ _ _
          refine W.region ?_
          refine WL.val (Value.int .i64 (k31 : Int)) _ (op_move hf46) rfl ?_
          refine WL.val (Value.int .i64 (w64 ((k31 : Int) + (1 : Int)))) _ (op_add rfl rfl) rfl ?_
          refine WL.val (Value.int .i64 (w64 ((k31 : Int) + (1 : Int)))) _ (op_assign rfl) rfl ?_
          refine WL.nil ?_
          obtain rfl := Option.some.inj hb37
          show ∃ s, _ = Ctl.next s ∧ _
          exact ⟨_, rfl, u65, hf42, hf43, hf44, rfl, (ctr_next hl49 r_n), (ctr_rng hl49 r_n), (St.pick hS67 [0, 1] rfl)⟩
        · intro x75 f70 wd71 hs72 hI73
          replace hI73 : ∃ (uu0 : Value), f70 0 = (Value.int .i64 n) ∧ f70 3 = u17 ∧ f70 4 = (Value.int .i64 (k7 : Int)) ∧ f70 5 = uu0 ∧ f70 6 = Value.int .i64 (((n).toNat : Nat) : Int) ∧ InR .i64 (((n).toNat : Nat) : Int) ∧ St w wd71 [(Ty.sl (Ty.sl (Ty.sl (Ty.i .i64)))).at u17 x8, (Ty.sl (Ty.sl (Ty.i .i64))).at uu0 x75] := hI73
          obtain ⟨u76, hf77, hf78, hf79, hf80, hf81, hr82, hS83⟩ := hI73
          refine W.seq (W.seq (W.region ?_))
          refine WL.val (Value.int .i64 (((n).toNat : Nat) : Int)) _ (op_move hf81) rfl ?_
          refine WL.val (Value.int .i64 n) _ (op_move hf77) rfl ?_
          refine WL.val (Value.bool (decide ((((n).toNat : Nat) : Int) < n))) _ (op_lss rfl rfl) rfl ?_
          have hl84 : ¬ (((n).toNat : Nat) : Int) < n := by omega
          refine WL.nil ?_
          show W _ _ _ _ _ _
          refine W.condF (decide ((((n).toNat : Nat) : Int) < n)) rfl (decide_eq_false hl84) ?_
          refine W.exit ?_
          show _ = _ ∧ _
          exact ⟨rfl, _, hs72, u76, hf77, hf78, hf79, hf80, hS83⟩
      · rintro f85 wd86 ⟨x89, rfl, hq87⟩
        replace hb13 := onRes_fin hb13
        replace hq87 : ∃ (uu0 : Value), f85 0 = (Value.int .i64 n) ∧ f85 3 = u17 ∧ f85 4 = (Value.int .i64 (k7 : Int)) ∧ f85 5 = uu0 ∧ St w wd86 [(Ty.sl (Ty.sl (Ty.sl (Ty.i .i64)))).at u17 x8, (Ty.sl (Ty.sl (Ty.i .i64))).at uu0 x89] := hq87
        obtain ⟨u90, hf91, hf92, hf93, hf94, hS95⟩ := hq87
        show W _ _ _ _ _ _
        refine W.region ?_
        refine WL.val u17 _ (op_move hf92) rfl ?_
        refine WL.val u90 _ (op_move hf94) rfl ?_
        refine WL.lit [u90] hS95 sl_23 rfl rfl (fillL rfl ⟨rfl, rfl, (cells_rep (St.rep (t := (Ty.sl (Ty.sl (Ty.i .i64)))) hS95 1 rfl)), trivial⟩) rfl rfl ?_
        intro b100 wd97 hS98 he99 hx101
        replace hS98 : St w wd97 [(Ty.sl (Ty.sl (Ty.sl (Ty.i .i64)))).at u17 x8, (Ty.sl (Ty.sl (Ty.i .i64))).at u90 x89, bx b100 [u90]] := hS98
        obtain ⟨x102, hx103, hb13⟩ := bs hb13
        refine WL.appendRow hS98 (k := 0) (k2 := 1) (k3 := 2) rfl rfl rfl rfl sl_23 rfl rfl rfl rfl hx103 rfl ?_
        intro u104 wd105 hS106 hz107
        replace hS106 : St w wd105 [(Ty.sl (Ty.sl (Ty.sl (Ty.i .i64)))).at u104 x102, emp, bx b100 [u90]] := hS106
        refine WL.val u104 _ (op_assign rfl) rfl ?_
        refine WL.nil ?_
        show W _ _ _ _ _ _
        refine W.region ?_
        refine WL.val (Value.int .i64 (k7 : Int)) _ (op_move hf93) rfl ?_
        refine WL.val (Value.int .i64 (w64 ((k7 : Int) + (1 : Int)))) _ (op_add rfl rfl) rfl ?_
        refine WL.val (Value.int .i64 (w64 ((k7 : Int) + (1 : Int)))) _ (op_assign rfl) rfl ?_
        refine WL.nil ?_
        obtain rfl := Option.some.inj hb13
        show ∃ s, _ = Ctl.next s ∧ _
        exact ⟨_, rfl, u104, hf91, rfl, (ctr_next hl23 r_n), (ctr_rng hl23 r_n), (St.pick hS106 [0] rfl)⟩
    · intro x115 f110 wd111 hs112 hI113
      replace hI113 : ∃ (uu0 : Value), f110 0 = (Value.int .i64 n) ∧ f110 3 = uu0 ∧ f110 4 = Value.int .i64 (((n).toNat : Nat) : Int) ∧ InR .i64 (((n).toNat : Nat) : Int) ∧ St w wd111 [(Ty.sl (Ty.sl (Ty.sl (Ty.i .i64)))).at uu0 x115] := hI113
      obtain ⟨u116, hf117, hf118, hf119, hr120, hS121⟩ := hI113
      refine W.seq (W.seq (W.region ?_))
      refine WL.val (Value.int .i64 (((n).toNat : Nat) : Int)) _ (op_move hf119) rfl ?_
      refine WL.val (Value.int .i64 n) _ (op_move hf117) rfl ?_
      refine WL.val (Value.bool (decide ((((n).toNat : Nat) : Int) < n))) _ (op_lss rfl rfl) rfl ?_
      have hl122 : ¬ (((n).toNat : Nat) : Int) < n := by omega
      refine WL.nil ?_
      show W _ _ _ _ _ _
      refine W.condF (decide ((((n).toNat : Nat) : Int) < n)) rfl (decide_eq_false hl122) ?_
      refine W.exit ?_
      show _ = _ ∧ _
      exact ⟨rfl, _, hs112, u116, hf118, hS121⟩
  · rintro f123 wd124 ⟨x127, rfl, hq125⟩
    replace h := onRes_fin h
    replace hq125 : ∃ (uu0 : Value), f123 3 = uu0 ∧ St w wd124 [(Ty.sl (Ty.sl (Ty.sl (Ty.i .i64)))).at uu0 x127] := hq125
    obtain ⟨u128, hf129, hS130⟩ := hq125
    show W _ _ _ _ _ _
    refine W.seq (W.region ?_)
    refine WL.val u128 _ (op_move hf129) rfl ?_
    refine WL.val u128 _ (op_assign rfl) rfl ?_
    refine WL.nil ?_
    show W _ _ _ _ _ _
    refine W.ret ?_
    obtain rfl := Option.some.inj h
    show FinP _ _ _ _ _ _ _
    exact FinP.ret _ (res1 rfl rfl) ⟨u128, rfl, hS130.ext, (St.out (St.pick hS130 [0] rfl) (Ext.refl _))⟩

theorem c_spec_l17Coboundary {w : World} {orders : (List Int)} {v_orders : Value} {m : Int} {f1 : (List (List Int))} {v_f1 : Value} (r_orders : (Ty.sl (Ty.i .i64)).rep w v_orders orders) (r_m : InR .i64 m) (r_f1 : (Ty.sl (Ty.sl (Ty.i .i64))).rep w v_f1 f1) {res : (List Int) × Int × (List (List (List Int)))} (h : p_spec_l17Coboundary orders m f1  = some res) :
    Ret Try.prog 76 #[v_orders, (Value.int .i64 m), v_f1] w (fun v w' => ∃ (u0 : Value) (u2 : Value), v = (Value.agg #[u0, Value.int .i64 res.2.1, u2]) ∧ InR .i64 res.2.1 ∧ Ext w w' ∧ Sep w.heap.size w' [(Ty.sl (Ty.i .i64)).at u0 res.1, (Ty.sl (Ty.sl (Ty.sl (Ty.i .i64)))).at u2 res.2.2]) := by
  unfold p_spec_l17Coboundary at h
  have hS0 : St w w [] := St.start w
  refine Ret.start (fn := Try.f76) Try.func76 rfl 90 rfl rfl ?_
  refine W.seq (W.region ?_)
  refine WL.alloc hS0 ze_30 (cs := [(Value.slice none 0 0), (Value.int .i64 (0 : Int)), (Value.slice none 0 0)]) rfl rfl ?_
  intro b1 wd2 hS3 he4
  replace hS3 : St w wd2 [bx b1 [(Value.slice none 0 0), (Value.int .i64 (0 : Int)), (Value.slice none 0 0)]] := hS3
  refine WL.nil ?_
  show W _ _ _ _ _ _
  refine W.seq (W.region ?_)
  refine WL.val v_f1 _ (op_move rfl) rfl ?_
  have hr5 := inR_len (Ty.lift _ hS3.ext r_f1)
  refine WL.val (Value.int .i64 ((f1).length : Int)) _ (op_lenL sl_27 (Ty.lift _ hS3.ext r_f1) rfl) rfl ?_
  refine WL.val (Value.int .i64 ((f1).length : Int)) _ (op_assign rfl) rfl ?_
  refine WL.nil ?_
  show W _ _ _ _ _ _
  refine W.seq (W.region ?_)
  refine WL.val v_orders _ (op_move rfl) rfl ?_
  obtain ⟨x6, hx7, h⟩ := bs h
  refine WL.call _ (op_call fn_87 (args1 rfl)) (c_spec_l01Own (Ty.lift _ hS3.ext r_orders) hx7) rfl ?_
  rintro u8 wd9 ⟨_, rfl, he10, hs11⟩
  have hS12 := St.join hS3 he10 hs11
  replace hS12 : St w wd9 [bx b1 [(Value.slice none 0 0), (Value.int .i64 (0 : Int)), (Value.slice none 0 0)], (Ty.sl (Ty.i .i64)).at u8 x6] := hS12
  refine WL.val (Value.int .i64 m) _ (op_move rfl) rfl ?_
  refine WL.val (Value.int .i64 ((f1).length : Int)) _ (op_move rfl) rfl ?_
  obtain ⟨x13, hx14, h⟩ := bs h
  refine WL.call _ (op_call fn_98 (args1 rfl)) (c_spec_l06Empty hr5 hx14) rfl ?_
  rintro u15 wd16 ⟨_, rfl, he17, hs18⟩
  have hS19 := St.join hS12 he17 hs18
  replace hS19 : St w wd16 [bx b1 [(Value.slice none 0 0), (Value.int .i64 (0 : Int)), (Value.slice none 0 0)], (Ty.sl (Ty.i .i64)).at u8 x6, (Ty.sl (Ty.sl (Ty.sl (Ty.i .i64)))).at u15 x13] := hS19
  refine WL.val (Value.agg #[u8, (Value.int .i64 m), u15]) _ (op_build bd_30 (parts := [(0, u8, [u8]), (1, (Value.int .i64 m), [(Value.int .i64 m)]), (2, u15, [u15])]) (partsL ⟨rfl, rfl, rfl, rfl, rfl, rfl, trivial⟩) ⟨(cells_rep (St.rep (t := (Ty.sl (Ty.i .i64))) hS19 1 rfl)), rfl, (cells_rep (St.rep (t := (Ty.sl (Ty.sl (Ty.sl (Ty.i .i64))))) hS19 2 rfl)), trivial⟩ rfl) rfl ?_
  refine WL.alloc hS19 ze_30 (cs := [(Value.slice none 0 0), (Value.int .i64 (0 : Int)), (Value.slice none 0 0)]) rfl rfl ?_
  intro b20 wd21 hS22 he23
  replace hS22 : St w wd21 [bx b1 [(Value.slice none 0 0), (Value.int .i64 (0 : Int)), (Value.slice none 0 0)], (Ty.sl (Ty.i .i64)).at u8 x6, (Ty.sl (Ty.sl (Ty.sl (Ty.i .i64)))).at u15 x13, bx b20 [(Value.slice none 0 0), (Value.int .i64 (0 : Int)), (Value.slice none 0 0)]] := hS22
  refine WL.storeBox [u8, (Value.int .i64 m), u15] hS22 (k := 3) rfl rfl rfl (us := [u8, (Value.int .i64 m), u15]) rfl sz_30 rfl rfl (all_rep (St.rep (t := (Ty.sl (Ty.i .i64))) hS22 1 rfl) (all_cons rfl (all_rep (St.rep (t := (Ty.sl (Ty.sl (Ty.sl (Ty.i .i64))))) hS22 2 rfl) all_nil))) rfl ?_
  intro wd24 hS25
  replace hS25 : St w wd24 [bx b1 [(Value.slice none 0 0), (Value.int .i64 (0 : Int)), (Value.slice none 0 0)], (Ty.sl (Ty.i .i64)).at u8 x6, (Ty.sl (Ty.sl (Ty.sl (Ty.i .i64)))).at u15 x13, bx b20 [u8, (Value.int .i64 m), u15]] := hS25
  refine WL.nil ?_
  show W _ _ _ _ _ _
  refine W.seq (W.seq (W.region ?_))
  refine WL.val (Value.int .i64 (0 : Int)) _ (op_assign rfl) rfl ?_
  refine WL.nil ?_
  show W _ _ _ _ _ _
  obtain ⟨res26, hres27, h⟩ := bs h
  refine W.blockLoop (fun fq wq => ∃ s, res26 = Res.fin s ∧ fq 6 = (Value.pointer (some ⟨b1, 0, none⟩)) ∧ fq 8 = (Value.pointer (some ⟨b20, 0, none⟩)) ∧ St w wq [bx b1 [(Value.slice none 0 0), (Value.int .i64 (0 : Int)), (Value.slice none 0 0)], (Ty.sl (Ty.i .i64)).at u8 x6, (Ty.sl (Ty.sl (Ty.sl (Ty.i .i64)))).at u15 s, bx b20 [u8, (Value.int .i64 m), u15]]) ?_ ?_
  · refine W.forN (fun k (s : (List (List (List Int)))) fq wq => fq 0 = v_orders ∧ fq 1 = (Value.int .i64 m) ∧ fq 2 = v_f1 ∧ fq 6 = (Value.pointer (some ⟨b1, 0, none⟩)) ∧ fq 7 = (Value.int .i64 ((f1).length : Int)) ∧ fq 8 = (Value.pointer (some ⟨b20, 0, none⟩)) ∧ fq 9 = Value.int .i64 (k : Int) ∧ InR .i64 (k : Int) ∧ St w wq [bx b1 [(Value.slice none 0 0), (Value.int .i64 (0 : Int)), (Value.slice none 0 0)], (Ty.sl (Ty.i .i64)).at u8 x6, (Ty.sl (Ty.sl (Ty.sl (Ty.i .i64)))).at u15 s, bx b20 [u8, (Value.int .i64 m), u15]]) hres27 ⟨rfl, rfl, rfl, rfl, rfl, rfl, rfl, (inR_i64.2 (show (-9223372036854775808 : Int) ≤ 0 ∧ (0 : Int) ≤ 9223372036854775807 from by decide)), hS25⟩ ?_ ?_
    · intro k28 x29 ct30 f31 wd32 hk33 hb34 hI35 hbrk36 hret37
      replace hI35 : f31 0 = v_orders ∧ f31 1 = (Value.int .i64 m) ∧ f31 2 = v_f1 ∧ f31 6 = (Value.pointer (some ⟨b1, 0, none⟩)) ∧ f31 7 = (Value.int .i64 ((f1).length : Int)) ∧ f31 8 = (Value.pointer (some ⟨b20, 0, none⟩)) ∧ f31 9 = Value.int .i64 (k28 : Int) ∧ InR .i64 (k28 : Int) ∧ St w wd32 [bx b1 [(Value.slice none 0 0), (Value.int .i64 (0 : Int)), (Value.slice none 0 0)], (Ty.sl (Ty.i .i64)).at u8 x6, (Ty.sl (Ty.sl (Ty.sl (Ty.i .i64)))).at u15 x29, bx b20 [u8, (Value.int .i64 m), u15]] := hI35
      replace hb34 : p_spec_l17Coboundary_L1 f1 orders m k28 x29 = some ct30 := hb34
      unfold p_spec_l17Coboundary_L1 at hb34
      obtain ⟨hf38, hf39, hf40, hf41, hf42, hf43, hf44, hr45, hS46⟩ := hI35
      refine W.seq (W.seq (W.region ?_))
      refine WL.val (Value.int .i64 (k28 : Int)) _ (op_move hf44) rfl ?_
      refine WL.val (Value.int .i64 ((f1).length : Int)) _ (op_move hf42) rfl ?_
      refine WL.val (Value.bool (decide ((k28 : Int) < ((f1).length : Int)))) _ (op_lss rfl rfl) rfl ?_
      have hl47 : (k28 : Int) < ((f1).length : Int) := by omega
      refine WL.nil ?_
      show W _ _ _ _ _ _
      refine W.condT (decide ((k28 : Int) < ((f1).length : Int))) rfl (decide_eq_true hl47) ?_
      refine W.skip ?_
      show W _ _ _ _ _ _
      refine W.seq ?_
      refine W.block ?_
      refine W.seq (W.region ?_)
      refine WL.val (Value.int .i64 (0 : Int)) _ (op_assign rfl) rfl ?_
      refine WL.nil ?_
      show W _ _ _ _ _ _
      obtain ⟨res49, hres50, hb34⟩ := bs hb34
      refine W.blockLoop (fun fq wq => ∃ s, res49 = Res.fin s ∧ fq 0 = v_orders ∧ fq 1 = (Value.int .i64 m) ∧ fq 2 = v_f1 ∧ fq 6 = (Value.pointer (some ⟨b1, 0, none⟩)) ∧ fq 7 = (Value.int .i64 ((f1).length : Int)) ∧ fq 8 = (Value.pointer (some ⟨b20, 0, none⟩)) ∧ fq 9 = (Value.int .i64 (k28 : Int)) ∧ St w wq [bx b1 [(Value.slice none 0 0), (Value.int .i64 (0 : Int)), (Value.slice none 0 0)], (Ty.sl (Ty.i .i64)).at u8 x6, (Ty.sl (Ty.sl (Ty.sl (Ty.i .i64)))).at u15 s, bx b20 [u8, (Value.int .i64 m), u15]]) ?_ ?_
      · refine W.forN (fun k (s : (List (List (List Int)))) fq wq => fq 0 = v_orders ∧ fq 1 = (Value.int .i64 m) ∧ fq 2 = v_f1 ∧ fq 6 = (Value.pointer (some ⟨b1, 0, none⟩)) ∧ fq 7 = (Value.int .i64 ((f1).length : Int)) ∧ fq 8 = (Value.pointer (some ⟨b20, 0, none⟩)) ∧ fq 9 = (Value.int .i64 (k28 : Int)) ∧ fq 10 = Value.int .i64 (k : Int) ∧ InR .i64 (k : Int) ∧ St w wq [bx b1 [(Value.slice none 0 0), (Value.int .i64 (0 : Int)), (Value.slice none 0 0)], (Ty.sl (Ty.i .i64)).at u8 x6, (Ty.sl (Ty.sl (Ty.sl (Ty.i .i64)))).at u15 s, bx b20 [u8, (Value.int .i64 m), u15]]) hres50 ⟨hf38, hf39, hf40, hf41, hf42, hf43, hf44, rfl, (inR_i64.2 (show (-9223372036854775808 : Int) ≤ 0 ∧ (0 : Int) ≤ 9223372036854775807 from by decide)), hS46⟩ ?_ ?_
        · intro k51 x52 ct53 f54 wd55 hk56 hb57 hI58 hbrk59 hret60
          replace hI58 : f54 0 = v_orders ∧ f54 1 = (Value.int .i64 m) ∧ f54 2 = v_f1 ∧ f54 6 = (Value.pointer (some ⟨b1, 0, none⟩)) ∧ f54 7 = (Value.int .i64 ((f1).length : Int)) ∧ f54 8 = (Value.pointer (some ⟨b20, 0, none⟩)) ∧ f54 9 = (Value.int .i64 (k28 : Int)) ∧ f54 10 = Value.int .i64 (k51 : Int) ∧ InR .i64 (k51 : Int) ∧ St w wd55 [bx b1 [(Value.slice none 0 0), (Value.int .i64 (0 : Int)), (Value.slice none 0 0)], (Ty.sl (Ty.i .i64)).at u8 x6, (Ty.sl (Ty.sl (Ty.sl (Ty.i .i64)))).at u15 x52, bx b20 [u8, (Value.int .i64 m), u15]] := hI58
          replace hb57 : p_spec_l17Coboundary_L2 f1 orders k28 m k51 x52 = some ct53 := hb57
          unfold p_spec_l17Coboundary_L2 at hb57
          obtain ⟨hf61, hf62, hf63, hf64, hf65, hf66, hf67, hf68, hr69, hS70⟩ := hI58
          refine W.seq (W.seq (W.region ?_))
          refine WL.val (Value.int .i64 (k51 : Int)) _ (op_move hf68) rfl ?_
          refine WL.val (Value.int .i64 ((f1).length : Int)) _ (op_move hf65) rfl ?_
          refine WL.val (Value.bool (decide ((k51 : Int) < ((f1).length : Int)))) _ (op_lss rfl rfl) rfl ?_
          have hl71 : (k51 : Int) < ((f1).length : Int) := by omega
          refine WL.nil ?_
          show W _ _ _ _ _ _
          refine W.condT (decide ((k51 : Int) < ((f1).length : Int))) rfl (decide_eq_true hl71) ?_
          refine W.skip ?_
          show W _ _ _ _ _ _
          refine W.seq ?_
          refine W.block ?_
          refine W.seq (W.region ?_)
          refine WL.val (Value.int .i64 (0 : Int)) _ (op_assign rfl) rfl ?_
          refine WL.nil ?_
          show W _ _ _ _ _ _
          obtain ⟨res73, hres74, hb57⟩ := bs hb57
          refine W.blockLoop (fun fq wq => ∃ s, res73 = Res.fin s ∧ fq 0 = v_orders ∧ fq 1 = (Value.int .i64 m) ∧ fq 2 = v_f1 ∧ fq 6 = (Value.pointer (some ⟨b1, 0, none⟩)) ∧ fq 7 = (Value.int .i64 ((f1).length : Int)) ∧ fq 8 = (Value.pointer (some ⟨b20, 0, none⟩)) ∧ fq 9 = (Value.int .i64 (k28 : Int)) ∧ fq 10 = (Value.int .i64 (k51 : Int)) ∧ St w wq [bx b1 [(Value.slice none 0 0), (Value.int .i64 (0 : Int)), (Value.slice none 0 0)], (Ty.sl (Ty.i .i64)).at u8 x6, (Ty.sl (Ty.sl (Ty.sl (Ty.i .i64)))).at u15 s, bx b20 [u8, (Value.int .i64 m), u15]]) ?_ ?_
          · refine W.forN (fun k (s : (List (List (List Int)))) fq wq => fq 0 = v_orders ∧ fq 1 = (Value.int .i64 m) ∧ fq 2 = v_f1 ∧ fq 6 = (Value.pointer (some ⟨b1, 0, none⟩)) ∧ fq 7 = (Value.int .i64 ((f1).length : Int)) ∧ fq 8 = (Value.pointer (some ⟨b20, 0, none⟩)) ∧ fq 9 = (Value.int .i64 (k28 : Int)) ∧ fq 10 = (Value.int .i64 (k51 : Int)) ∧ fq 11 = Value.int .i64 (k : Int) ∧ InR .i64 (k : Int) ∧ St w wq [bx b1 [(Value.slice none 0 0), (Value.int .i64 (0 : Int)), (Value.slice none 0 0)], (Ty.sl (Ty.i .i64)).at u8 x6, (Ty.sl (Ty.sl (Ty.sl (Ty.i .i64)))).at u15 s, bx b20 [u8, (Value.int .i64 m), u15]]) hres74 ⟨hf61, hf62, hf63, hf64, hf65, hf66, hf67, hf68, rfl, (inR_i64.2 (show (-9223372036854775808 : Int) ≤ 0 ∧ (0 : Int) ≤ 9223372036854775807 from by decide)), hS70⟩ ?_ ?_
            · intro k75 x76 ct77 f78 wd79 hk80 hb81 hI82 hbrk83 hret84
              replace hI82 : f78 0 = v_orders ∧ f78 1 = (Value.int .i64 m) ∧ f78 2 = v_f1 ∧ f78 6 = (Value.pointer (some ⟨b1, 0, none⟩)) ∧ f78 7 = (Value.int .i64 ((f1).length : Int)) ∧ f78 8 = (Value.pointer (some ⟨b20, 0, none⟩)) ∧ f78 9 = (Value.int .i64 (k28 : Int)) ∧ f78 10 = (Value.int .i64 (k51 : Int)) ∧ f78 11 = Value.int .i64 (k75 : Int) ∧ InR .i64 (k75 : Int) ∧ St w wd79 [bx b1 [(Value.slice none 0 0), (Value.int .i64 (0 : Int)), (Value.slice none 0 0)], (Ty.sl (Ty.i .i64)).at u8 x6, (Ty.sl (Ty.sl (Ty.sl (Ty.i .i64)))).at u15 x76, bx b20 [u8, (Value.int .i64 m), u15]] := hI82
              replace hb81 : p_spec_l17Coboundary_L3 f1 k51 orders k28 m k75 x76 = some ct77 := hb81
              unfold p_spec_l17Coboundary_L3 at hb81
              obtain ⟨hf85, hf86, hf87, hf88, hf89, hf90, hf91, hf92, hf93, hr94, hS95⟩ := hI82
              refine W.seq (W.seq (W.region ?_))
              refine WL.val (Value.int .i64 (k75 : Int)) _ (op_move hf93) rfl ?_
              refine WL.val (Value.int .i64 ((f1).length : Int)) _ (op_move hf89) rfl ?_
              refine WL.val (Value.bool (decide ((k75 : Int) < ((f1).length : Int)))) _ (op_lss rfl rfl) rfl ?_
              have hl96 : (k75 : Int) < ((f1).length : Int) := by omega
              refine WL.nil ?_
              show W _ _ _ _ _ _
              refine W.condT (decide ((k75 : Int) < ((f1).length : Int))) rfl (decide_eq_true hl96) ?_
              refine W.skip ?_
              show W _ _ _ _ _ _
              refine W.seq ?_
              refine W.block ?_
              refine W.seq ?_
              obtain ⟨x127, hx130, hb81⟩ := bs hb81
              obtain ⟨ha128, hb129, hx130⟩ := idx_some hx130
              obtain ⟨u141, hc142, hr143⟩ := repSl.el r_f1 hx130
              obtain ⟨x166, hx169, hb81⟩ := bs hb81
              obtain ⟨ha167, hb168, hx169⟩ := idx_some hx169
              obtain ⟨u180, hc181, hr182⟩ := repSl.el hr143 hx169
              obtain ⟨rfl, hr182⟩ := hr182
              obtain ⟨x231, hx232, hb81⟩ := bs hb81
              obtain ⟨x252, hx255, hb81⟩ := bs hb81
              obtain ⟨ha253, hb254, hx255⟩ := idx_some hx255
              obtain ⟨u266, hc267, hr268⟩ := repSl.el r_f1 hx255
              obtain ⟨x291, hx294, hb81⟩ := bs hb81
              obtain ⟨ha292, hb293, hx294⟩ := idx_some hx294
              obtain ⟨u305, hc306, hr307⟩ := repSl.el hr268 hx294
              obtain ⟨rfl, hr307⟩ := hr307
              obtain ⟨x353, hx356, hb81⟩ := bs hb81
              obtain ⟨ha354, hb355, hx356⟩ := idx_some hx356
              obtain ⟨u367, hc368, hr369⟩ := repSl.el r_f1 hx356
              obtain ⟨x411, hx412, hb81⟩ := bs hb81
              obtain ⟨x432, hx435, hb81⟩ := bs hb81
              obtain ⟨ha433, hb434, hx435⟩ := idx_some hx435
              obtain ⟨u446, hc447, hr448⟩ := repSl.el hr369 hx435
              obtain ⟨rfl, hr448⟩ := hr448
              obtain ⟨u504, hc505, hr506⟩ := repSl.el r_f1 hx356
              obtain ⟨x529, hx532, hb81⟩ := bs hb81
              obtain ⟨ha530, hb531, hx532⟩ := idx_some hx532
              obtain ⟨u543, hc544, hr545⟩ := repSl.el hr506 hx532
              obtain ⟨rfl, hr545⟩ := hr545
              refine W.drawR mixo 36 [] [fun _ v _ _ => v = v_f1, fun _ v _ _ => v = (Value.int .i64 (k51 : Int)) ∧ InR .i64 (k51 : Int), fun _ v _ _ => v = (Value.pointer (some (elA v_f1 ((k51 : Int)).toNat))), fun _ v _ _ => v = u141, fun _ v _ _ => v = (Value.int .i64 (k75 : Int)) ∧ InR .i64 (k75 : Int), fun _ v _ _ => v = (Value.pointer (some (elA u141 ((k75 : Int)).toNat))), fun _ v _ _ => v = (Value.int .i64 x166) ∧ InR .i64 x166, fun _ v _ _ => v = v_f1, fun _ v _ _ => v = v_orders, fun _ v _ _ => v = (Value.int .i64 (k28 : Int)) ∧ InR .i64 (k28 : Int), fun _ v _ _ => v = (Value.int .i64 (k51 : Int)) ∧ InR .i64 (k51 : Int), fun _ v _ _ => v = (Value.int .i64 x231) ∧ InR .i64 x231, fun _ v _ _ => v = (Value.pointer (some (elA v_f1 (x231).toNat))), fun _ v _ _ => v = u266, fun _ v _ _ => v = (Value.int .i64 (k75 : Int)) ∧ InR .i64 (k75 : Int), fun _ v _ _ => v = (Value.pointer (some (elA u266 ((k75 : Int)).toNat))), fun _ v _ _ => v = (Value.int .i64 x291) ∧ InR .i64 x291, fun _ v _ _ => v = (Value.int .i64 (w64 (x166 - x291))) ∧ InR .i64 (w64 (x166 - x291)), fun _ v _ _ => v = v_f1, fun _ v _ _ => v = (Value.int .i64 (k28 : Int)) ∧ InR .i64 (k28 : Int), fun _ v _ _ => v = (Value.pointer (some (elA v_f1 ((k28 : Int)).toNat))), fun _ v _ _ => v = u367, fun _ v _ _ => v = v_orders, fun _ v _ _ => v = (Value.int .i64 (k51 : Int)) ∧ InR .i64 (k51 : Int), fun _ v _ _ => v = (Value.int .i64 (k75 : Int)) ∧ InR .i64 (k75 : Int), fun _ v _ _ => v = (Value.int .i64 x411) ∧ InR .i64 x411, fun _ v _ _ => v = (Value.pointer (some (elA u367 (x411).toNat))), fun _ v _ _ => v = (Value.int .i64 x432) ∧ InR .i64 x432, fun _ v _ _ => v = (Value.int .i64 (w64 ((w64 (x166 - x291)) + x432))) ∧ InR .i64 (w64 ((w64 (x166 - x291)) + x432)), fun _ v _ _ => v = v_f1, fun _ v _ _ => v = (Value.int .i64 (k28 : Int)) ∧ InR .i64 (k28 : Int), fun _ v _ _ => v = (Value.pointer (some (elA v_f1 ((k28 : Int)).toNat))), fun _ v _ _ => v = u504, fun _ v _ _ => v = (Value.int .i64 (k51 : Int)) ∧ InR .i64 (k51 : Int), fun _ v _ _ => v = (Value.pointer (some (elA u504 ((k51 : Int)).toNat))), fun _ v _ _ => v = (Value.int .i64 x529) ∧ InR .i64 x529] (by kernel_rfl) (by kernel_rfl) ⟨⟨fun _ _ _ _ _ _ h => h, fun _ _ _ _ _ _ h => h⟩, ⟨fun _ _ _ _ _ _ h => h, fun _ _ _ _ _ _ h => h⟩, ⟨fun _ _ _ _ _ _ h => h, fun _ _ _ _ _ _ h => h⟩, ⟨fun _ _ _ _ _ _ h => h, fun _ _ _ _ _ _ h => h⟩, ⟨fun _ _ _ _ _ _ h => h, fun _ _ _ _ _ _ h => h⟩, ⟨fun _ _ _ _ _ _ h => h, fun _ _ _ _ _ _ h => h⟩, ⟨fun _ _ _ _ _ _ h => h, fun _ _ _ _ _ _ h => h⟩, ⟨fun _ _ _ _ _ _ h => h, fun _ _ _ _ _ _ h => h⟩, ⟨fun _ _ _ _ _ _ h => h, fun _ _ _ _ _ _ h => h⟩, ⟨fun _ _ _ _ _ _ h => h, fun _ _ _ _ _ _ h => h⟩, ⟨fun _ _ _ _ _ _ h => h, fun _ _ _ _ _ _ h => h⟩, ⟨fun _ _ _ _ _ _ h => h, fun _ _ _ _ _ _ h => h⟩, ⟨fun _ _ _ _ _ _ h => h, fun _ _ _ _ _ _ h => h⟩, ⟨fun _ _ _ _ _ _ h => h, fun _ _ _ _ _ _ h => h⟩, ⟨fun _ _ _ _ _ _ h => h, fun _ _ _ _ _ _ h => h⟩, ⟨fun _ _ _ _ _ _ h => h, fun _ _ _ _ _ _ h => h⟩, ⟨fun _ _ _ _ _ _ h => h, fun _ _ _ _ _ _ h => h⟩, ⟨fun _ _ _ _ _ _ h => h, fun _ _ _ _ _ _ h => h⟩, ⟨fun _ _ _ _ _ _ h => h, fun _ _ _ _ _ _ h => h⟩, ⟨fun _ _ _ _ _ _ h => h, fun _ _ _ _ _ _ h => h⟩, ⟨fun _ _ _ _ _ _ h => h, fun _ _ _ _ _ _ h => h⟩, ⟨fun _ _ _ _ _ _ h => h, fun _ _ _ _ _ _ h => h⟩, ⟨fun _ _ _ _ _ _ h => h, fun _ _ _ _ _ _ h => h⟩, ⟨fun _ _ _ _ _ _ h => h, fun _ _ _ _ _ _ h => h⟩, ⟨fun _ _ _ _ _ _ h => h, fun _ _ _ _ _ _ h => h⟩, ⟨fun _ _ _ _ _ _ h => h, fun _ _ _ _ _ _ h => h⟩, ⟨fun _ _ _ _ _ _ h => h, fun _ _ _ _ _ _ h => h⟩, ⟨fun _ _ _ _ _ _ h => h, fun _ _ _ _ _ _ h => h⟩, ⟨fun _ _ _ _ _ _ h => h, fun _ _ _ _ _ _ h => h⟩, ⟨fun _ _ _ _ _ _ h => h, fun _ _ _ _ _ _ h => h⟩, ⟨fun _ _ _ _ _ _ h => h, fun _ _ _ _ _ _ h => h⟩, ⟨fun _ _ _ _ _ _ h => h, fun _ _ _ _ _ _ h => h⟩, ⟨fun _ _ _ _ _ _ h => h, fun _ _ _ _ _ _ h => h⟩, ⟨fun _ _ _ _ _ _ h => h, fun _ _ _ _ _ _ h => h⟩, ⟨fun _ _ _ _ _ _ h => h, fun _ _ _ _ _ _ h => h⟩, ⟨fun _ _ _ _ _ _ h => h, fun _ _ _ _ _ _ h => h⟩, trivial⟩ ⟨?_, ?_, ?_, ?_, ?_, ?_, ?_, ?_, ?_, ?_, ?_, ?_, ?_, ?_, ?_, ?_, ?_, ?_, ?_, ?_, ?_, ?_, ?_, ?_, ?_, ?_, ?_, ?_, ?_, ?_, ?_, ?_, ?_, ?_, ?_, ?_, trivial⟩ ?_
              · refine ObX.op rfl ?_
                intro f98 wd99 he100 hout101 hphi102
                have hS103 : St w wd99 [bx b1 [(Value.slice none 0 0), (Value.int .i64 (0 : Int)), (Value.slice none 0 0)], (Ty.sl (Ty.i .i64)).at u8 x6, (Ty.sl (Ty.sl (Ty.sl (Ty.i .i64)))).at u15 x76, bx b20 [u8, (Value.int .i64 m), u15]] := St.extend hS95 he100
                have e104 : f98 2 = v_f1 := (hout101 2 rfl).trans hf87
                exact OpX.val v_f1 wd99 rfl (op_move e104) (Ext.refl _) rfl
              · refine ObX.op rfl ?_
                intro f105 wd106 he107 hout108 hphi109
                have hS110 : St w wd106 [bx b1 [(Value.slice none 0 0), (Value.int .i64 (0 : Int)), (Value.slice none 0 0)], (Ty.sl (Ty.i .i64)).at u8 x6, (Ty.sl (Ty.sl (Ty.sl (Ty.i .i64)))).at u15 x76, bx b20 [u8, (Value.int .i64 m), u15]] := St.extend hS95 he107
                have e111 : f105 10 = (Value.int .i64 (k51 : Int)) := (hout108 10 rfl).trans hf92
                exact OpX.val (Value.int .i64 (k51 : Int)) wd106 rfl (op_move e111) (Ext.refl _) ⟨rfl, hr69⟩
              · refine ObX.op rfl ?_
                intro f112 wd113 he114 hout115 hphi116
                have hS117 : St w wd113 [bx b1 [(Value.slice none 0 0), (Value.int .i64 (0 : Int)), (Value.slice none 0 0)], (Ty.sl (Ty.i .i64)).at u8 x6, (Ty.sl (Ty.sl (Ty.sl (Ty.i .i64)))).at u15 x76, bx b20 [u8, (Value.int .i64 m), u15]] := St.extend hS95 he114
                obtain ⟨S118, hS119, hf120⟩ := hphi116 0 36 _ rfl rfl rfl
                have e121 : f112 36 = v_f1 := hf120
                obtain ⟨S122, hS123, hf124⟩ := hphi116 1 37 _ rfl rfl rfl
                obtain ⟨e125, hr126⟩ : f112 37 = (Value.int .i64 (k51 : Int)) ∧ InR .i64 (k51 : Int) := hf124
                exact OpX.val (Value.pointer (some (elA v_f1 ((k51 : Int)).toNat))) wd113 rfl (op_idx sl_27 (Ty.lift _ hS117.ext r_f1) e121 e125 ha128 hb129) (Ext.refl _) rfl
              · refine ObX.op rfl ?_
                intro f131 wd132 he133 hout134 hphi135
                have hS136 : St w wd132 [bx b1 [(Value.slice none 0 0), (Value.int .i64 (0 : Int)), (Value.slice none 0 0)], (Ty.sl (Ty.i .i64)).at u8 x6, (Ty.sl (Ty.sl (Ty.sl (Ty.i .i64)))).at u15 x76, bx b20 [u8, (Value.int .i64 m), u15]] := St.extend hS95 he133
                obtain ⟨S137, hS138, hf139⟩ := hphi135 2 38 _ rfl rfl rfl
                have e140 : f131 38 = (Value.pointer (some (elA v_f1 ((k51 : Int)).toNat))) := hf139
                exact OpX.val u141 wd132 rfl (op_load one_22 e140 (Ext.cell hS136.ext hc142)) (Ext.refl _) rfl
              · refine ObX.op rfl ?_
                intro f144 wd145 he146 hout147 hphi148
                have hS149 : St w wd145 [bx b1 [(Value.slice none 0 0), (Value.int .i64 (0 : Int)), (Value.slice none 0 0)], (Ty.sl (Ty.i .i64)).at u8 x6, (Ty.sl (Ty.sl (Ty.sl (Ty.i .i64)))).at u15 x76, bx b20 [u8, (Value.int .i64 m), u15]] := St.extend hS95 he146
                have e150 : f144 11 = (Value.int .i64 (k75 : Int)) := (hout147 11 rfl).trans hf93
                exact OpX.val (Value.int .i64 (k75 : Int)) wd145 rfl (op_move e150) (Ext.refl _) ⟨rfl, hr94⟩
              · refine ObX.op rfl ?_
                intro f151 wd152 he153 hout154 hphi155
                have hS156 : St w wd152 [bx b1 [(Value.slice none 0 0), (Value.int .i64 (0 : Int)), (Value.slice none 0 0)], (Ty.sl (Ty.i .i64)).at u8 x6, (Ty.sl (Ty.sl (Ty.sl (Ty.i .i64)))).at u15 x76, bx b20 [u8, (Value.int .i64 m), u15]] := St.extend hS95 he153
                obtain ⟨S157, hS158, hf159⟩ := hphi155 3 39 _ rfl rfl rfl
                have e160 : f151 39 = u141 := hf159
                obtain ⟨S161, hS162, hf163⟩ := hphi155 4 40 _ rfl rfl rfl
                obtain ⟨e164, hr165⟩ : f151 40 = (Value.int .i64 (k75 : Int)) ∧ InR .i64 (k75 : Int) := hf163
                exact OpX.val (Value.pointer (some (elA u141 ((k75 : Int)).toNat))) wd152 rfl (op_idx sl_22 (Ty.lift _ hS156.ext hr143) e160 e164 ha167 hb168) (Ext.refl _) rfl
              · refine ObX.op rfl ?_
                intro f170 wd171 he172 hout173 hphi174
                have hS175 : St w wd171 [bx b1 [(Value.slice none 0 0), (Value.int .i64 (0 : Int)), (Value.slice none 0 0)], (Ty.sl (Ty.i .i64)).at u8 x6, (Ty.sl (Ty.sl (Ty.sl (Ty.i .i64)))).at u15 x76, bx b20 [u8, (Value.int .i64 m), u15]] := St.extend hS95 he172
                obtain ⟨S176, hS177, hf178⟩ := hphi174 5 41 _ rfl rfl rfl
                have e179 : f170 41 = (Value.pointer (some (elA u141 ((k75 : Int)).toNat))) := hf178
                exact OpX.val (Value.int .i64 x166) wd171 rfl (op_load one_2 e179 (Ext.cell hS175.ext hc181)) (Ext.refl _) ⟨rfl, hr182⟩
              · refine ObX.op rfl ?_
                intro f183 wd184 he185 hout186 hphi187
                have hS188 : St w wd184 [bx b1 [(Value.slice none 0 0), (Value.int .i64 (0 : Int)), (Value.slice none 0 0)], (Ty.sl (Ty.i .i64)).at u8 x6, (Ty.sl (Ty.sl (Ty.sl (Ty.i .i64)))).at u15 x76, bx b20 [u8, (Value.int .i64 m), u15]] := St.extend hS95 he185
                have e189 : f183 2 = v_f1 := (hout186 2 rfl).trans hf87
                exact OpX.val v_f1 wd184 rfl (op_move e189) (Ext.refl _) rfl
              · refine ObX.op rfl ?_
                intro f190 wd191 he192 hout193 hphi194
                have hS195 : St w wd191 [bx b1 [(Value.slice none 0 0), (Value.int .i64 (0 : Int)), (Value.slice none 0 0)], (Ty.sl (Ty.i .i64)).at u8 x6, (Ty.sl (Ty.sl (Ty.sl (Ty.i .i64)))).at u15 x76, bx b20 [u8, (Value.int .i64 m), u15]] := St.extend hS95 he192
                have e196 : f190 0 = v_orders := (hout193 0 rfl).trans hf85
                exact OpX.val v_orders wd191 rfl (op_move e196) (Ext.refl _) rfl
              · refine ObX.op rfl ?_
                intro f197 wd198 he199 hout200 hphi201
                have hS202 : St w wd198 [bx b1 [(Value.slice none 0 0), (Value.int .i64 (0 : Int)), (Value.slice none 0 0)], (Ty.sl (Ty.i .i64)).at u8 x6, (Ty.sl (Ty.sl (Ty.sl (Ty.i .i64)))).at u15 x76, bx b20 [u8, (Value.int .i64 m), u15]] := St.extend hS95 he199
                have e203 : f197 9 = (Value.int .i64 (k28 : Int)) := (hout200 9 rfl).trans hf91
                exact OpX.val (Value.int .i64 (k28 : Int)) wd198 rfl (op_move e203) (Ext.refl _) ⟨rfl, hr45⟩
              · refine ObX.op rfl ?_
                intro f204 wd205 he206 hout207 hphi208
                have hS209 : St w wd205 [bx b1 [(Value.slice none 0 0), (Value.int .i64 (0 : Int)), (Value.slice none 0 0)], (Ty.sl (Ty.i .i64)).at u8 x6, (Ty.sl (Ty.sl (Ty.sl (Ty.i .i64)))).at u15 x76, bx b20 [u8, (Value.int .i64 m), u15]] := St.extend hS95 he206
                have e210 : f204 10 = (Value.int .i64 (k51 : Int)) := (hout207 10 rfl).trans hf92
                exact OpX.val (Value.int .i64 (k51 : Int)) wd205 rfl (op_move e210) (Ext.refl _) ⟨rfl, hr69⟩
              · refine ObX.op rfl ?_
                intro f211 wd212 he213 hout214 hphi215
                have hS216 : St w wd212 [bx b1 [(Value.slice none 0 0), (Value.int .i64 (0 : Int)), (Value.slice none 0 0)], (Ty.sl (Ty.i .i64)).at u8 x6, (Ty.sl (Ty.sl (Ty.sl (Ty.i .i64)))).at u15 x76, bx b20 [u8, (Value.int .i64 m), u15]] := St.extend hS95 he213
                obtain ⟨S217, hS218, hf219⟩ := hphi215 8 44 _ rfl rfl rfl
                have e220 : f211 44 = v_orders := hf219
                obtain ⟨S221, hS222, hf223⟩ := hphi215 9 45 _ rfl rfl rfl
                obtain ⟨e224, hr225⟩ : f211 45 = (Value.int .i64 (k28 : Int)) ∧ InR .i64 (k28 : Int) := hf223
                obtain ⟨S226, hS227, hf228⟩ := hphi215 10 46 _ rfl rfl rfl
                obtain ⟨e229, hr230⟩ : f211 46 = (Value.int .i64 (k51 : Int)) ∧ InR .i64 (k51 : Int) := hf228
                refine OpX.call rfl (op_call fn_99 (args3 e220 e224 e229)) (Ret.mono (c_spec_l06Add (Ty.lift _ hS216.ext r_orders) hr225 hr230 hx232) ?_)
                rintro _ wd234 ⟨rfl, hr233, he235⟩
                exact ⟨he235, _, noS _ _, ⟨rfl, hr233⟩⟩
              · refine ObX.op rfl ?_
                intro f237 wd238 he239 hout240 hphi241
                have hS242 : St w wd238 [bx b1 [(Value.slice none 0 0), (Value.int .i64 (0 : Int)), (Value.slice none 0 0)], (Ty.sl (Ty.i .i64)).at u8 x6, (Ty.sl (Ty.sl (Ty.sl (Ty.i .i64)))).at u15 x76, bx b20 [u8, (Value.int .i64 m), u15]] := St.extend hS95 he239
                obtain ⟨S243, hS244, hf245⟩ := hphi241 7 43 _ rfl rfl rfl
                have e246 : f237 43 = v_f1 := hf245
                obtain ⟨S247, hS248, hf249⟩ := hphi241 11 47 _ rfl rfl rfl
                obtain ⟨e250, hr251⟩ : f237 47 = (Value.int .i64 x231) ∧ InR .i64 x231 := hf249
                exact OpX.val (Value.pointer (some (elA v_f1 (x231).toNat))) wd238 rfl (op_idx sl_27 (Ty.lift _ hS242.ext r_f1) e246 e250 ha253 hb254) (Ext.refl _) rfl
              · refine ObX.op rfl ?_
                intro f256 wd257 he258 hout259 hphi260
                have hS261 : St w wd257 [bx b1 [(Value.slice none 0 0), (Value.int .i64 (0 : Int)), (Value.slice none 0 0)], (Ty.sl (Ty.i .i64)).at u8 x6, (Ty.sl (Ty.sl (Ty.sl (Ty.i .i64)))).at u15 x76, bx b20 [u8, (Value.int .i64 m), u15]] := St.extend hS95 he258
                obtain ⟨S262, hS263, hf264⟩ := hphi260 12 48 _ rfl rfl rfl
                have e265 : f256 48 = (Value.pointer (some (elA v_f1 (x231).toNat))) := hf264
                exact OpX.val u266 wd257 rfl (op_load one_22 e265 (Ext.cell hS261.ext hc267)) (Ext.refl _) rfl
              · refine ObX.op rfl ?_
                intro f269 wd270 he271 hout272 hphi273
                have hS274 : St w wd270 [bx b1 [(Value.slice none 0 0), (Value.int .i64 (0 : Int)), (Value.slice none 0 0)], (Ty.sl (Ty.i .i64)).at u8 x6, (Ty.sl (Ty.sl (Ty.sl (Ty.i .i64)))).at u15 x76, bx b20 [u8, (Value.int .i64 m), u15]] := St.extend hS95 he271
                have e275 : f269 11 = (Value.int .i64 (k75 : Int)) := (hout272 11 rfl).trans hf93
                exact OpX.val (Value.int .i64 (k75 : Int)) wd270 rfl (op_move e275) (Ext.refl _) ⟨rfl, hr94⟩
              · refine ObX.op rfl ?_
                intro f276 wd277 he278 hout279 hphi280
                have hS281 : St w wd277 [bx b1 [(Value.slice none 0 0), (Value.int .i64 (0 : Int)), (Value.slice none 0 0)], (Ty.sl (Ty.i .i64)).at u8 x6, (Ty.sl (Ty.sl (Ty.sl (Ty.i .i64)))).at u15 x76, bx b20 [u8, (Value.int .i64 m), u15]] := St.extend hS95 he278
                obtain ⟨S282, hS283, hf284⟩ := hphi280 13 49 _ rfl rfl rfl
                have e285 : f276 49 = u266 := hf284
                obtain ⟨S286, hS287, hf288⟩ := hphi280 14 50 _ rfl rfl rfl
                obtain ⟨e289, hr290⟩ : f276 50 = (Value.int .i64 (k75 : Int)) ∧ InR .i64 (k75 : Int) := hf288
                exact OpX.val (Value.pointer (some (elA u266 ((k75 : Int)).toNat))) wd277 rfl (op_idx sl_22 (Ty.lift _ hS281.ext hr268) e285 e289 ha292 hb293) (Ext.refl _) rfl
              · refine ObX.op rfl ?_
                intro f295 wd296 he297 hout298 hphi299
                have hS300 : St w wd296 [bx b1 [(Value.slice none 0 0), (Value.int .i64 (0 : Int)), (Value.slice none 0 0)], (Ty.sl (Ty.i .i64)).at u8 x6, (Ty.sl (Ty.sl (Ty.sl (Ty.i .i64)))).at u15 x76, bx b20 [u8, (Value.int .i64 m), u15]] := St.extend hS95 he297
                obtain ⟨S301, hS302, hf303⟩ := hphi299 15 51 _ rfl rfl rfl
                have e304 : f295 51 = (Value.pointer (some (elA u266 ((k75 : Int)).toNat))) := hf303
                exact OpX.val (Value.int .i64 x291) wd296 rfl (op_load one_2 e304 (Ext.cell hS300.ext hc306)) (Ext.refl _) ⟨rfl, hr307⟩
              · refine ObX.op rfl ?_
                intro f308 wd309 he310 hout311 hphi312
                have hS313 : St w wd309 [bx b1 [(Value.slice none 0 0), (Value.int .i64 (0 : Int)), (Value.slice none 0 0)], (Ty.sl (Ty.i .i64)).at u8 x6, (Ty.sl (Ty.sl (Ty.sl (Ty.i .i64)))).at u15 x76, bx b20 [u8, (Value.int .i64 m), u15]] := St.extend hS95 he310
                obtain ⟨S314, hS315, hf316⟩ := hphi312 6 42 _ rfl rfl rfl
                obtain ⟨e317, hr318⟩ : f308 42 = (Value.int .i64 x166) ∧ InR .i64 x166 := hf316
                obtain ⟨S319, hS320, hf321⟩ := hphi312 16 52 _ rfl rfl rfl
                obtain ⟨e322, hr323⟩ : f308 52 = (Value.int .i64 x291) ∧ InR .i64 x291 := hf321
                exact OpX.val (Value.int .i64 (w64 (x166 - x291))) wd309 rfl (op_sub e317 e322) (Ext.refl _) ⟨rfl, (inR_wrap _ _)⟩
              · refine ObX.op rfl ?_
                intro f324 wd325 he326 hout327 hphi328
                have hS329 : St w wd325 [bx b1 [(Value.slice none 0 0), (Value.int .i64 (0 : Int)), (Value.slice none 0 0)], (Ty.sl (Ty.i .i64)).at u8 x6, (Ty.sl (Ty.sl (Ty.sl (Ty.i .i64)))).at u15 x76, bx b20 [u8, (Value.int .i64 m), u15]] := St.extend hS95 he326
                have e330 : f324 2 = v_f1 := (hout327 2 rfl).trans hf87
                exact OpX.val v_f1 wd325 rfl (op_move e330) (Ext.refl _) rfl
              · refine ObX.op rfl ?_
                intro f331 wd332 he333 hout334 hphi335
                have hS336 : St w wd332 [bx b1 [(Value.slice none 0 0), (Value.int .i64 (0 : Int)), (Value.slice none 0 0)], (Ty.sl (Ty.i .i64)).at u8 x6, (Ty.sl (Ty.sl (Ty.sl (Ty.i .i64)))).at u15 x76, bx b20 [u8, (Value.int .i64 m), u15]] := St.extend hS95 he333
                have e337 : f331 9 = (Value.int .i64 (k28 : Int)) := (hout334 9 rfl).trans hf91
                exact OpX.val (Value.int .i64 (k28 : Int)) wd332 rfl (op_move e337) (Ext.refl _) ⟨rfl, hr45⟩
              · refine ObX.op rfl ?_
                intro f338 wd339 he340 hout341 hphi342
                have hS343 : St w wd339 [bx b1 [(Value.slice none 0 0), (Value.int .i64 (0 : Int)), (Value.slice none 0 0)], (Ty.sl (Ty.i .i64)).at u8 x6, (Ty.sl (Ty.sl (Ty.sl (Ty.i .i64)))).at u15 x76, bx b20 [u8, (Value.int .i64 m), u15]] := St.extend hS95 he340
                obtain ⟨S344, hS345, hf346⟩ := hphi342 18 54 _ rfl rfl rfl
                have e347 : f338 54 = v_f1 := hf346
                obtain ⟨S348, hS349, hf350⟩ := hphi342 19 55 _ rfl rfl rfl
                obtain ⟨e351, hr352⟩ : f338 55 = (Value.int .i64 (k28 : Int)) ∧ InR .i64 (k28 : Int) := hf350
                exact OpX.val (Value.pointer (some (elA v_f1 ((k28 : Int)).toNat))) wd339 rfl (op_idx sl_27 (Ty.lift _ hS343.ext r_f1) e347 e351 ha354 hb355) (Ext.refl _) rfl
              · refine ObX.op rfl ?_
                intro f357 wd358 he359 hout360 hphi361
                have hS362 : St w wd358 [bx b1 [(Value.slice none 0 0), (Value.int .i64 (0 : Int)), (Value.slice none 0 0)], (Ty.sl (Ty.i .i64)).at u8 x6, (Ty.sl (Ty.sl (Ty.sl (Ty.i .i64)))).at u15 x76, bx b20 [u8, (Value.int .i64 m), u15]] := St.extend hS95 he359
                obtain ⟨S363, hS364, hf365⟩ := hphi361 20 56 _ rfl rfl rfl
                have e366 : f357 56 = (Value.pointer (some (elA v_f1 ((k28 : Int)).toNat))) := hf365
                exact OpX.val u367 wd358 rfl (op_load one_22 e366 (Ext.cell hS362.ext hc368)) (Ext.refl _) rfl
              · refine ObX.op rfl ?_
                intro f370 wd371 he372 hout373 hphi374
                have hS375 : St w wd371 [bx b1 [(Value.slice none 0 0), (Value.int .i64 (0 : Int)), (Value.slice none 0 0)], (Ty.sl (Ty.i .i64)).at u8 x6, (Ty.sl (Ty.sl (Ty.sl (Ty.i .i64)))).at u15 x76, bx b20 [u8, (Value.int .i64 m), u15]] := St.extend hS95 he372
                have e376 : f370 0 = v_orders := (hout373 0 rfl).trans hf85
                exact OpX.val v_orders wd371 rfl (op_move e376) (Ext.refl _) rfl
              · refine ObX.op rfl ?_
                intro f377 wd378 he379 hout380 hphi381
                have hS382 : St w wd378 [bx b1 [(Value.slice none 0 0), (Value.int .i64 (0 : Int)), (Value.slice none 0 0)], (Ty.sl (Ty.i .i64)).at u8 x6, (Ty.sl (Ty.sl (Ty.sl (Ty.i .i64)))).at u15 x76, bx b20 [u8, (Value.int .i64 m), u15]] := St.extend hS95 he379
                have e383 : f377 10 = (Value.int .i64 (k51 : Int)) := (hout380 10 rfl).trans hf92
                exact OpX.val (Value.int .i64 (k51 : Int)) wd378 rfl (op_move e383) (Ext.refl _) ⟨rfl, hr69⟩
              · refine ObX.op rfl ?_
                intro f384 wd385 he386 hout387 hphi388
                have hS389 : St w wd385 [bx b1 [(Value.slice none 0 0), (Value.int .i64 (0 : Int)), (Value.slice none 0 0)], (Ty.sl (Ty.i .i64)).at u8 x6, (Ty.sl (Ty.sl (Ty.sl (Ty.i .i64)))).at u15 x76, bx b20 [u8, (Value.int .i64 m), u15]] := St.extend hS95 he386
                have e390 : f384 11 = (Value.int .i64 (k75 : Int)) := (hout387 11 rfl).trans hf93
                exact OpX.val (Value.int .i64 (k75 : Int)) wd385 rfl (op_move e390) (Ext.refl _) ⟨rfl, hr94⟩
              · refine ObX.op rfl ?_
                intro f391 wd392 he393 hout394 hphi395
                have hS396 : St w wd392 [bx b1 [(Value.slice none 0 0), (Value.int .i64 (0 : Int)), (Value.slice none 0 0)], (Ty.sl (Ty.i .i64)).at u8 x6, (Ty.sl (Ty.sl (Ty.sl (Ty.i .i64)))).at u15 x76, bx b20 [u8, (Value.int .i64 m), u15]] := St.extend hS95 he393
                obtain ⟨S397, hS398, hf399⟩ := hphi395 22 58 _ rfl rfl rfl
                have e400 : f391 58 = v_orders := hf399
                obtain ⟨S401, hS402, hf403⟩ := hphi395 23 59 _ rfl rfl rfl
                obtain ⟨e404, hr405⟩ : f391 59 = (Value.int .i64 (k51 : Int)) ∧ InR .i64 (k51 : Int) := hf403
                obtain ⟨S406, hS407, hf408⟩ := hphi395 24 60 _ rfl rfl rfl
                obtain ⟨e409, hr410⟩ : f391 60 = (Value.int .i64 (k75 : Int)) ∧ InR .i64 (k75 : Int) := hf408
                refine OpX.call rfl (op_call fn_99 (args3 e400 e404 e409)) (Ret.mono (c_spec_l06Add (Ty.lift _ hS396.ext r_orders) hr405 hr410 hx412) ?_)
                rintro _ wd414 ⟨rfl, hr413, he415⟩
                exact ⟨he415, _, noS _ _, ⟨rfl, hr413⟩⟩
              · refine ObX.op rfl ?_
                intro f417 wd418 he419 hout420 hphi421
                have hS422 : St w wd418 [bx b1 [(Value.slice none 0 0), (Value.int .i64 (0 : Int)), (Value.slice none 0 0)], (Ty.sl (Ty.i .i64)).at u8 x6, (Ty.sl (Ty.sl (Ty.sl (Ty.i .i64)))).at u15 x76, bx b20 [u8, (Value.int .i64 m), u15]] := St.extend hS95 he419
                obtain ⟨S423, hS424, hf425⟩ := hphi421 21 57 _ rfl rfl rfl
                have e426 : f417 57 = u367 := hf425
                obtain ⟨S427, hS428, hf429⟩ := hphi421 25 61 _ rfl rfl rfl
                obtain ⟨e430, hr431⟩ : f417 61 = (Value.int .i64 x411) ∧ InR .i64 x411 := hf429
                exact OpX.val (Value.pointer (some (elA u367 (x411).toNat))) wd418 rfl (op_idx sl_22 (Ty.lift _ hS422.ext hr369) e426 e430 ha433 hb434) (Ext.refl _) rfl
              · refine ObX.op rfl ?_
                intro f436 wd437 he438 hout439 hphi440
                have hS441 : St w wd437 [bx b1 [(Value.slice none 0 0), (Value.int .i64 (0 : Int)), (Value.slice none 0 0)], (Ty.sl (Ty.i .i64)).at u8 x6, (Ty.sl (Ty.sl (Ty.sl (Ty.i .i64)))).at u15 x76, bx b20 [u8, (Value.int .i64 m), u15]] := St.extend hS95 he438
                obtain ⟨S442, hS443, hf444⟩ := hphi440 26 62 _ rfl rfl rfl
                have e445 : f436 62 = (Value.pointer (some (elA u367 (x411).toNat))) := hf444
                exact OpX.val (Value.int .i64 x432) wd437 rfl (op_load one_2 e445 (Ext.cell hS441.ext hc447)) (Ext.refl _) ⟨rfl, hr448⟩
              · refine ObX.op rfl ?_
                intro f449 wd450 he451 hout452 hphi453
                have hS454 : St w wd450 [bx b1 [(Value.slice none 0 0), (Value.int .i64 (0 : Int)), (Value.slice none 0 0)], (Ty.sl (Ty.i .i64)).at u8 x6, (Ty.sl (Ty.sl (Ty.sl (Ty.i .i64)))).at u15 x76, bx b20 [u8, (Value.int .i64 m), u15]] := St.extend hS95 he451
                obtain ⟨S455, hS456, hf457⟩ := hphi453 17 53 _ rfl rfl rfl
                obtain ⟨e458, hr459⟩ : f449 53 = (Value.int .i64 (w64 (x166 - x291))) ∧ InR .i64 (w64 (x166 - x291)) := hf457
                obtain ⟨S460, hS461, hf462⟩ := hphi453 27 63 _ rfl rfl rfl
                obtain ⟨e463, hr464⟩ : f449 63 = (Value.int .i64 x432) ∧ InR .i64 x432 := hf462
                exact OpX.val (Value.int .i64 (w64 ((w64 (x166 - x291)) + x432))) wd450 rfl (op_add e458 e463) (Ext.refl _) ⟨rfl, (inR_wrap _ _)⟩
              · refine ObX.op rfl ?_
                intro f465 wd466 he467 hout468 hphi469
                have hS470 : St w wd466 [bx b1 [(Value.slice none 0 0), (Value.int .i64 (0 : Int)), (Value.slice none 0 0)], (Ty.sl (Ty.i .i64)).at u8 x6, (Ty.sl (Ty.sl (Ty.sl (Ty.i .i64)))).at u15 x76, bx b20 [u8, (Value.int .i64 m), u15]] := St.extend hS95 he467
                have e471 : f465 2 = v_f1 := (hout468 2 rfl).trans hf87
                exact OpX.val v_f1 wd466 rfl (op_move e471) (Ext.refl _) rfl
              · refine ObX.op rfl ?_
                intro f472 wd473 he474 hout475 hphi476
                have hS477 : St w wd473 [bx b1 [(Value.slice none 0 0), (Value.int .i64 (0 : Int)), (Value.slice none 0 0)], (Ty.sl (Ty.i .i64)).at u8 x6, (Ty.sl (Ty.sl (Ty.sl (Ty.i .i64)))).at u15 x76, bx b20 [u8, (Value.int .i64 m), u15]] := St.extend hS95 he474
                have e478 : f472 9 = (Value.int .i64 (k28 : Int)) := (hout475 9 rfl).trans hf91
                exact OpX.val (Value.int .i64 (k28 : Int)) wd473 rfl (op_move e478) (Ext.refl _) ⟨rfl, hr45⟩
              · refine ObX.op rfl ?_
                intro f479 wd480 he481 hout482 hphi483
                have hS484 : St w wd480 [bx b1 [(Value.slice none 0 0), (Value.int .i64 (0 : Int)), (Value.slice none 0 0)], (Ty.sl (Ty.i .i64)).at u8 x6, (Ty.sl (Ty.sl (Ty.sl (Ty.i .i64)))).at u15 x76, bx b20 [u8, (Value.int .i64 m), u15]] := St.extend hS95 he481
                obtain ⟨S485, hS486, hf487⟩ := hphi483 29 65 _ rfl rfl rfl
                have e488 : f479 65 = v_f1 := hf487
                obtain ⟨S489, hS490, hf491⟩ := hphi483 30 66 _ rfl rfl rfl
                obtain ⟨e492, hr493⟩ : f479 66 = (Value.int .i64 (k28 : Int)) ∧ InR .i64 (k28 : Int) := hf491
                exact OpX.val (Value.pointer (some (elA v_f1 ((k28 : Int)).toNat))) wd480 rfl (op_idx sl_27 (Ty.lift _ hS484.ext r_f1) e488 e492 ha354 hb355) (Ext.refl _) rfl
              · refine ObX.op rfl ?_
                intro f494 wd495 he496 hout497 hphi498
                have hS499 : St w wd495 [bx b1 [(Value.slice none 0 0), (Value.int .i64 (0 : Int)), (Value.slice none 0 0)], (Ty.sl (Ty.i .i64)).at u8 x6, (Ty.sl (Ty.sl (Ty.sl (Ty.i .i64)))).at u15 x76, bx b20 [u8, (Value.int .i64 m), u15]] := St.extend hS95 he496
                obtain ⟨S500, hS501, hf502⟩ := hphi498 31 67 _ rfl rfl rfl
                have e503 : f494 67 = (Value.pointer (some (elA v_f1 ((k28 : Int)).toNat))) := hf502
                exact OpX.val u504 wd495 rfl (op_load one_22 e503 (Ext.cell hS499.ext hc505)) (Ext.refl _) rfl
              · refine ObX.op rfl ?_
                intro f507 wd508 he509 hout510 hphi511
                have hS512 : St w wd508 [bx b1 [(Value.slice none 0 0), (Value.int .i64 (0 : Int)), (Value.slice none 0 0)], (Ty.sl (Ty.i .i64)).at u8 x6, (Ty.sl (Ty.sl (Ty.sl (Ty.i .i64)))).at u15 x76, bx b20 [u8, (Value.int .i64 m), u15]] := St.extend hS95 he509
                have e513 : f507 10 = (Value.int .i64 (k51 : Int)) := (hout510 10 rfl).trans hf92
                exact OpX.val (Value.int .i64 (k51 : Int)) wd508 rfl (op_move e513) (Ext.refl _) ⟨rfl, hr69⟩
              · refine ObX.op rfl ?_
                intro f514 wd515 he516 hout517 hphi518
                have hS519 : St w wd515 [bx b1 [(Value.slice none 0 0), (Value.int .i64 (0 : Int)), (Value.slice none 0 0)], (Ty.sl (Ty.i .i64)).at u8 x6, (Ty.sl (Ty.sl (Ty.sl (Ty.i .i64)))).at u15 x76, bx b20 [u8, (Value.int .i64 m), u15]] := St.extend hS95 he516
                obtain ⟨S520, hS521, hf522⟩ := hphi518 32 68 _ rfl rfl rfl
                have e523 : f514 68 = u504 := hf522
                obtain ⟨S524, hS525, hf526⟩ := hphi518 33 69 _ rfl rfl rfl
                obtain ⟨e527, hr528⟩ : f514 69 = (Value.int .i64 (k51 : Int)) ∧ InR .i64 (k51 : Int) := hf526
                exact OpX.val (Value.pointer (some (elA u504 ((k51 : Int)).toNat))) wd515 rfl (op_idx sl_22 (Ty.lift _ hS519.ext hr506) e523 e527 ha530 hb531) (Ext.refl _) rfl
              · refine ObX.op rfl ?_
                intro f533 wd534 he535 hout536 hphi537
                have hS538 : St w wd534 [bx b1 [(Value.slice none 0 0), (Value.int .i64 (0 : Int)), (Value.slice none 0 0)], (Ty.sl (Ty.i .i64)).at u8 x6, (Ty.sl (Ty.sl (Ty.sl (Ty.i .i64)))).at u15 x76, bx b20 [u8, (Value.int .i64 m), u15]] := St.extend hS95 he535
                obtain ⟨S539, hS540, hf541⟩ := hphi537 34 70 _ rfl rfl rfl
                have e542 : f533 70 = (Value.pointer (some (elA u504 ((k51 : Int)).toNat))) := hf541
                exact OpX.val (Value.int .i64 x529) wd534 rfl (op_load one_2 e542 (Ext.cell hS538.ext hc544)) (Ext.refl _) ⟨rfl, hr545⟩
              · intro f546 wd547 Ss548 he549 hout550 hSn551 hSd552 hphi553
                show WL _ _ _ _ _ _ _
                have hS554 : St w wd547 [bx b1 [(Value.slice none 0 0), (Value.int .i64 (0 : Int)), (Value.slice none 0 0)], (Ty.sl (Ty.i .i64)).at u8 x6, (Ty.sl (Ty.sl (Ty.sl (Ty.i .i64)))).at u15 x76, bx b20 [u8, (Value.int .i64 m), u15]] := St.extend hS95 he549
                obtain ⟨e555, hr556⟩ : f546 64 = (Value.int .i64 (w64 ((w64 (x166 - x291)) + x432))) ∧ InR .i64 (w64 ((w64 (x166 - x291)) + x432)) := hphi553 28 64 _ (by decide) rfl rfl
                obtain ⟨e557, hr558⟩ : f546 71 = (Value.int .i64 x529) ∧ InR .i64 x529 := hphi553 35 71 _ (by decide) rfl rfl
                have e559 : f546 0 = v_orders := (hout550 0 rfl).trans hf85
                have e560 : f546 1 = (Value.int .i64 m) := (hout550 1 rfl).trans hf86
                have e561 : f546 2 = v_f1 := (hout550 2 rfl).trans hf87
                have e562 : f546 6 = (Value.pointer (some ⟨b1, 0, none⟩)) := (hout550 6 rfl).trans hf88
                have e563 : f546 7 = (Value.int .i64 ((f1).length : Int)) := (hout550 7 rfl).trans hf89
                have e564 : f546 8 = (Value.pointer (some ⟨b20, 0, none⟩)) := (hout550 8 rfl).trans hf90
                have e565 : f546 9 = (Value.int .i64 (k28 : Int)) := (hout550 9 rfl).trans hf91
                have e566 : f546 10 = (Value.int .i64 (k51 : Int)) := (hout550 10 rfl).trans hf92
                have e567 : f546 11 = (Value.int .i64 (k75 : Int)) := (hout550 11 rfl).trans hf93
                refine WL.val (Value.int .i64 (w64 ((w64 ((w64 (x166 - x291)) + x432)) - x529))) _ (op_sub e555 e557) rfl ?_
                refine WL.val (Value.int .i64 (w64 ((w64 ((w64 (x166 - x291)) + x432)) - x529))) _ (op_assign rfl) rfl ?_
                refine WL.nil ?_
                show W _ _ _ _ _ _
                obtain ⟨x607, hx610, hb81⟩ := bs hb81
                obtain ⟨ha608, hb609, hx610⟩ := idx_some hx610
                obtain ⟨u621, hc622, hr623⟩ := repSl.el (St.rep (t := (Ty.sl (Ty.sl (Ty.sl (Ty.i .i64))))) hS554 2 rfl) hx610
                obtain ⟨x646, hx649, hb81⟩ := bs hb81
                obtain ⟨ha647, hb648, hx649⟩ := idx_some hx649
                obtain ⟨u660, hc661, hr662⟩ := repSl.el hr623 hx649
                obtain ⟨x734, hz735, hb81⟩ := bs hb81
                obtain ⟨h0736, hz735⟩ := remI_some hz735
                refine W.drawR mixo 15 [] [fun _ v _ _ => v = (Value.pointer (some ⟨b20, 2, none⟩)), fun _ v _ _ => v = u15, fun _ v _ _ => v = (Value.int .i64 (k28 : Int)) ∧ InR .i64 (k28 : Int), fun _ v _ _ => v = (Value.pointer (some (elA u15 ((k28 : Int)).toNat))), fun _ v _ _ => v = u621, fun _ v _ _ => v = (Value.int .i64 (k51 : Int)) ∧ InR .i64 (k51 : Int), fun _ v _ _ => v = (Value.pointer (some (elA u621 ((k51 : Int)).toNat))), fun _ v _ _ => v = u660, fun _ v _ _ => v = (Value.int .i64 (k75 : Int)) ∧ InR .i64 (k75 : Int), fun _ v _ _ => v = (Value.int .i64 (w64 ((w64 ((w64 (x166 - x291)) + x432)) - x529))) ∧ InR .i64 (w64 ((w64 ((w64 (x166 - x291)) + x432)) - x529)), fun _ v _ _ => v = (Value.int .i64 m) ∧ InR .i64 m, fun _ v _ _ => v = (Value.int .i64 (w64 ((2 : Int) * m))) ∧ InR .i64 (w64 ((2 : Int) * m)), fun _ v _ _ => v = (Value.int .i64 (w64 ((w64 ((w64 ((w64 (x166 - x291)) + x432)) - x529)) + (w64 ((2 : Int) * m))))) ∧ InR .i64 (w64 ((w64 ((w64 ((w64 (x166 - x291)) + x432)) - x529)) + (w64 ((2 : Int) * m)))), fun _ v _ _ => v = (Value.int .i64 m) ∧ InR .i64 m, fun _ v _ _ => v = (Value.int .i64 x734) ∧ InR .i64 x734] (by kernel_rfl) (by kernel_rfl) ⟨⟨fun _ _ _ _ _ _ h => h, fun _ _ _ _ _ _ h => h⟩, ⟨fun _ _ _ _ _ _ h => h, fun _ _ _ _ _ _ h => h⟩, ⟨fun _ _ _ _ _ _ h => h, fun _ _ _ _ _ _ h => h⟩, ⟨fun _ _ _ _ _ _ h => h, fun _ _ _ _ _ _ h => h⟩, ⟨fun _ _ _ _ _ _ h => h, fun _ _ _ _ _ _ h => h⟩, ⟨fun _ _ _ _ _ _ h => h, fun _ _ _ _ _ _ h => h⟩, ⟨fun _ _ _ _ _ _ h => h, fun _ _ _ _ _ _ h => h⟩, ⟨fun _ _ _ _ _ _ h => h, fun _ _ _ _ _ _ h => h⟩, ⟨fun _ _ _ _ _ _ h => h, fun _ _ _ _ _ _ h => h⟩, ⟨fun _ _ _ _ _ _ h => h, fun _ _ _ _ _ _ h => h⟩, ⟨fun _ _ _ _ _ _ h => h, fun _ _ _ _ _ _ h => h⟩, ⟨fun _ _ _ _ _ _ h => h, fun _ _ _ _ _ _ h => h⟩, ⟨fun _ _ _ _ _ _ h => h, fun _ _ _ _ _ _ h => h⟩, ⟨fun _ _ _ _ _ _ h => h, fun _ _ _ _ _ _ h => h⟩, ⟨fun _ _ _ _ _ _ h => h, fun _ _ _ _ _ _ h => h⟩, trivial⟩ ⟨?_, ?_, ?_, ?_, ?_, ?_, ?_, ?_, ?_, ?_, ?_, ?_, ?_, ?_, ?_, trivial⟩ ?_
                · refine ObX.op rfl ?_
                  intro f568 wd569 he570 hout571 hphi572
                  have hS573 : St w wd569 [bx b1 [(Value.slice none 0 0), (Value.int .i64 (0 : Int)), (Value.slice none 0 0)], (Ty.sl (Ty.i .i64)).at u8 x6, (Ty.sl (Ty.sl (Ty.sl (Ty.i .i64)))).at u15 x76, bx b20 [u8, (Value.int .i64 m), u15]] := St.extend hS554 he570
                  have e574 : f568 8 = (Value.pointer (some ⟨b20, 0, none⟩)) := (hout571 8 rfl).trans e564
                  exact OpX.val (Value.pointer (some ⟨b20, 2, none⟩)) wd569 rfl (op_fieldAddr fd_30_2 e574) (Ext.refl _) rfl
                · refine ObX.op rfl ?_
                  intro f575 wd576 he577 hout578 hphi579
                  have hS580 : St w wd576 [bx b1 [(Value.slice none 0 0), (Value.int .i64 (0 : Int)), (Value.slice none 0 0)], (Ty.sl (Ty.i .i64)).at u8 x6, (Ty.sl (Ty.sl (Ty.sl (Ty.i .i64)))).at u15 x76, bx b20 [u8, (Value.int .i64 m), u15]] := St.extend hS554 he577
                  obtain ⟨S581, hS582, hf583⟩ := hphi579 0 73 _ rfl rfl rfl
                  have e584 : f575 73 = (Value.pointer (some ⟨b20, 2, none⟩)) := hf583
                  exact OpX.val u15 wd576 rfl (op_load one_23 e584 (BoxAt.cell (St.boxAt hS580 3 rfl) rfl)) (Ext.refl _) rfl
                · refine ObX.op rfl ?_
                  intro f585 wd586 he587 hout588 hphi589
                  have hS590 : St w wd586 [bx b1 [(Value.slice none 0 0), (Value.int .i64 (0 : Int)), (Value.slice none 0 0)], (Ty.sl (Ty.i .i64)).at u8 x6, (Ty.sl (Ty.sl (Ty.sl (Ty.i .i64)))).at u15 x76, bx b20 [u8, (Value.int .i64 m), u15]] := St.extend hS554 he587
                  have e591 : f585 9 = (Value.int .i64 (k28 : Int)) := (hout588 9 rfl).trans e565
                  exact OpX.val (Value.int .i64 (k28 : Int)) wd586 rfl (op_move e591) (Ext.refl _) ⟨rfl, hr45⟩
                · refine ObX.op rfl ?_
                  intro f592 wd593 he594 hout595 hphi596
                  have hS597 : St w wd593 [bx b1 [(Value.slice none 0 0), (Value.int .i64 (0 : Int)), (Value.slice none 0 0)], (Ty.sl (Ty.i .i64)).at u8 x6, (Ty.sl (Ty.sl (Ty.sl (Ty.i .i64)))).at u15 x76, bx b20 [u8, (Value.int .i64 m), u15]] := St.extend hS554 he594
                  obtain ⟨S598, hS599, hf600⟩ := hphi596 1 74 _ rfl rfl rfl
                  have e601 : f592 74 = u15 := hf600
                  obtain ⟨S602, hS603, hf604⟩ := hphi596 2 75 _ rfl rfl rfl
                  obtain ⟨e605, hr606⟩ : f592 75 = (Value.int .i64 (k28 : Int)) ∧ InR .i64 (k28 : Int) := hf604
                  exact OpX.val (Value.pointer (some (elA u15 ((k28 : Int)).toNat))) wd593 rfl (op_idx sl_23 (St.rep (t := (Ty.sl (Ty.sl (Ty.sl (Ty.i .i64))))) hS597 2 rfl) e601 e605 ha608 hb609) (Ext.refl _) rfl
                · refine ObX.op rfl ?_
                  intro f611 wd612 he613 hout614 hphi615
                  have hS616 : St w wd612 [bx b1 [(Value.slice none 0 0), (Value.int .i64 (0 : Int)), (Value.slice none 0 0)], (Ty.sl (Ty.i .i64)).at u8 x6, (Ty.sl (Ty.sl (Ty.sl (Ty.i .i64)))).at u15 x76, bx b20 [u8, (Value.int .i64 m), u15]] := St.extend hS554 he613
                  obtain ⟨S617, hS618, hf619⟩ := hphi615 3 76 _ rfl rfl rfl
                  have e620 : f611 76 = (Value.pointer (some (elA u15 ((k28 : Int)).toNat))) := hf619
                  exact OpX.val u621 wd612 rfl (op_load one_27 e620 (Ext.cell he613 hc622)) (Ext.refl _) rfl
                · refine ObX.op rfl ?_
                  intro f624 wd625 he626 hout627 hphi628
                  have hS629 : St w wd625 [bx b1 [(Value.slice none 0 0), (Value.int .i64 (0 : Int)), (Value.slice none 0 0)], (Ty.sl (Ty.i .i64)).at u8 x6, (Ty.sl (Ty.sl (Ty.sl (Ty.i .i64)))).at u15 x76, bx b20 [u8, (Value.int .i64 m), u15]] := St.extend hS554 he626
                  have e630 : f624 10 = (Value.int .i64 (k51 : Int)) := (hout627 10 rfl).trans e566
                  exact OpX.val (Value.int .i64 (k51 : Int)) wd625 rfl (op_move e630) (Ext.refl _) ⟨rfl, hr69⟩
                · refine ObX.op rfl ?_
                  intro f631 wd632 he633 hout634 hphi635
                  have hS636 : St w wd632 [bx b1 [(Value.slice none 0 0), (Value.int .i64 (0 : Int)), (Value.slice none 0 0)], (Ty.sl (Ty.i .i64)).at u8 x6, (Ty.sl (Ty.sl (Ty.sl (Ty.i .i64)))).at u15 x76, bx b20 [u8, (Value.int .i64 m), u15]] := St.extend hS554 he633
                  obtain ⟨S637, hS638, hf639⟩ := hphi635 4 77 _ rfl rfl rfl
                  have e640 : f631 77 = u621 := hf639
                  obtain ⟨S641, hS642, hf643⟩ := hphi635 5 78 _ rfl rfl rfl
                  obtain ⟨e644, hr645⟩ : f631 78 = (Value.int .i64 (k51 : Int)) ∧ InR .i64 (k51 : Int) := hf643
                  exact OpX.val (Value.pointer (some (elA u621 ((k51 : Int)).toNat))) wd632 rfl (op_idx sl_27 (Ty.lift _ he633 hr623) e640 e644 ha647 hb648) (Ext.refl _) rfl
                · refine ObX.op rfl ?_
                  intro f650 wd651 he652 hout653 hphi654
                  have hS655 : St w wd651 [bx b1 [(Value.slice none 0 0), (Value.int .i64 (0 : Int)), (Value.slice none 0 0)], (Ty.sl (Ty.i .i64)).at u8 x6, (Ty.sl (Ty.sl (Ty.sl (Ty.i .i64)))).at u15 x76, bx b20 [u8, (Value.int .i64 m), u15]] := St.extend hS554 he652
                  obtain ⟨S656, hS657, hf658⟩ := hphi654 6 79 _ rfl rfl rfl
                  have e659 : f650 79 = (Value.pointer (some (elA u621 ((k51 : Int)).toNat))) := hf658
                  exact OpX.val u660 wd651 rfl (op_load one_22 e659 (Ext.cell he652 hc661)) (Ext.refl _) rfl
                · refine ObX.op rfl ?_
                  intro f663 wd664 he665 hout666 hphi667
                  have hS668 : St w wd664 [bx b1 [(Value.slice none 0 0), (Value.int .i64 (0 : Int)), (Value.slice none 0 0)], (Ty.sl (Ty.i .i64)).at u8 x6, (Ty.sl (Ty.sl (Ty.sl (Ty.i .i64)))).at u15 x76, bx b20 [u8, (Value.int .i64 m), u15]] := St.extend hS554 he665
                  have e669 : f663 11 = (Value.int .i64 (k75 : Int)) := (hout666 11 rfl).trans e567
                  exact OpX.val (Value.int .i64 (k75 : Int)) wd664 rfl (op_move e669) (Ext.refl _) ⟨rfl, hr94⟩
                · refine ObX.op rfl ?_
                  intro f670 wd671 he672 hout673 hphi674
                  have hS675 : St w wd671 [bx b1 [(Value.slice none 0 0), (Value.int .i64 (0 : Int)), (Value.slice none 0 0)], (Ty.sl (Ty.i .i64)).at u8 x6, (Ty.sl (Ty.sl (Ty.sl (Ty.i .i64)))).at u15 x76, bx b20 [u8, (Value.int .i64 m), u15]] := St.extend hS554 he672
                  have e676 : f670 12 = (Value.int .i64 (w64 ((w64 ((w64 (x166 - x291)) + x432)) - x529))) := (hout673 12 rfl).trans rfl
                  exact OpX.val (Value.int .i64 (w64 ((w64 ((w64 (x166 - x291)) + x432)) - x529))) wd671 rfl (op_move e676) (Ext.refl _) ⟨rfl, (inR_wrap _ _)⟩
                · refine ObX.op rfl ?_
                  intro f677 wd678 he679 hout680 hphi681
                  have hS682 : St w wd678 [bx b1 [(Value.slice none 0 0), (Value.int .i64 (0 : Int)), (Value.slice none 0 0)], (Ty.sl (Ty.i .i64)).at u8 x6, (Ty.sl (Ty.sl (Ty.sl (Ty.i .i64)))).at u15 x76, bx b20 [u8, (Value.int .i64 m), u15]] := St.extend hS554 he679
                  have e683 : f677 1 = (Value.int .i64 m) := (hout680 1 rfl).trans e560
                  exact OpX.val (Value.int .i64 m) wd678 rfl (op_move e683) (Ext.refl _) ⟨rfl, r_m⟩
                · refine ObX.op rfl ?_
                  intro f684 wd685 he686 hout687 hphi688
                  have hS689 : St w wd685 [bx b1 [(Value.slice none 0 0), (Value.int .i64 (0 : Int)), (Value.slice none 0 0)], (Ty.sl (Ty.i .i64)).at u8 x6, (Ty.sl (Ty.sl (Ty.sl (Ty.i .i64)))).at u15 x76, bx b20 [u8, (Value.int .i64 m), u15]] := St.extend hS554 he686
                  obtain ⟨S690, hS691, hf692⟩ := hphi688 10 83 _ rfl rfl rfl
                  obtain ⟨e693, hr694⟩ : f684 83 = (Value.int .i64 m) ∧ InR .i64 m := hf692
                  exact OpX.val (Value.int .i64 (w64 ((2 : Int) * m))) wd685 rfl (op_mul rfl e693) (Ext.refl _) ⟨rfl, (inR_wrap _ _)⟩
                · refine ObX.op rfl ?_
                  intro f695 wd696 he697 hout698 hphi699
                  have hS700 : St w wd696 [bx b1 [(Value.slice none 0 0), (Value.int .i64 (0 : Int)), (Value.slice none 0 0)], (Ty.sl (Ty.i .i64)).at u8 x6, (Ty.sl (Ty.sl (Ty.sl (Ty.i .i64)))).at u15 x76, bx b20 [u8, (Value.int .i64 m), u15]] := St.extend hS554 he697
                  obtain ⟨S701, hS702, hf703⟩ := hphi699 9 82 _ rfl rfl rfl
                  obtain ⟨e704, hr705⟩ : f695 82 = (Value.int .i64 (w64 ((w64 ((w64 (x166 - x291)) + x432)) - x529))) ∧ InR .i64 (w64 ((w64 ((w64 (x166 - x291)) + x432)) - x529)) := hf703
                  obtain ⟨S706, hS707, hf708⟩ := hphi699 11 84 _ rfl rfl rfl
                  obtain ⟨e709, hr710⟩ : f695 84 = (Value.int .i64 (w64 ((2 : Int) * m))) ∧ InR .i64 (w64 ((2 : Int) * m)) := hf708
                  exact OpX.val (Value.int .i64 (w64 ((w64 ((w64 ((w64 (x166 - x291)) + x432)) - x529)) + (w64 ((2 : Int) * m))))) wd696 rfl (op_add e704 e709) (Ext.refl _) ⟨rfl, (inR_wrap _ _)⟩
                · refine ObX.op rfl ?_
                  intro f711 wd712 he713 hout714 hphi715
                  have hS716 : St w wd712 [bx b1 [(Value.slice none 0 0), (Value.int .i64 (0 : Int)), (Value.slice none 0 0)], (Ty.sl (Ty.i .i64)).at u8 x6, (Ty.sl (Ty.sl (Ty.sl (Ty.i .i64)))).at u15 x76, bx b20 [u8, (Value.int .i64 m), u15]] := St.extend hS554 he713
                  have e717 : f711 1 = (Value.int .i64 m) := (hout714 1 rfl).trans e560
                  exact OpX.val (Value.int .i64 m) wd712 rfl (op_move e717) (Ext.refl _) ⟨rfl, r_m⟩
                · refine ObX.op rfl ?_
                  intro f718 wd719 he720 hout721 hphi722
                  have hS723 : St w wd719 [bx b1 [(Value.slice none 0 0), (Value.int .i64 (0 : Int)), (Value.slice none 0 0)], (Ty.sl (Ty.i .i64)).at u8 x6, (Ty.sl (Ty.sl (Ty.sl (Ty.i .i64)))).at u15 x76, bx b20 [u8, (Value.int .i64 m), u15]] := St.extend hS554 he720
                  obtain ⟨S724, hS725, hf726⟩ := hphi722 12 85 _ rfl rfl rfl
                  obtain ⟨e727, hr728⟩ : f718 85 = (Value.int .i64 (w64 ((w64 ((w64 ((w64 (x166 - x291)) + x432)) - x529)) + (w64 ((2 : Int) * m))))) ∧ InR .i64 (w64 ((w64 ((w64 ((w64 (x166 - x291)) + x432)) - x529)) + (w64 ((2 : Int) * m)))) := hf726
                  obtain ⟨S729, hS730, hf731⟩ := hphi722 13 86 _ rfl rfl rfl
                  obtain ⟨e732, hr733⟩ : f718 86 = (Value.int .i64 m) ∧ InR .i64 m := hf731
                  have hr737 : InR .i64 x734 := by rw [hz735]; exact inR_tmod hr728
                  exact OpX.val (Value.int .i64 x734) wd719 rfl (by rw [hz735]; exact op_rem e727 e732 h0736) (Ext.refl _) ⟨rfl, hr737⟩
                · intro f738 wd739 Ss740 he741 hout742 hSn743 hSd744 hphi745
                  show WL _ _ _ _ _ _ _
                  have hS746 : St w wd739 [bx b1 [(Value.slice none 0 0), (Value.int .i64 (0 : Int)), (Value.slice none 0 0)], (Ty.sl (Ty.i .i64)).at u8 x6, (Ty.sl (Ty.sl (Ty.sl (Ty.i .i64)))).at u15 x76, bx b20 [u8, (Value.int .i64 m), u15]] := St.extend hS554 he741
                  have e747 : f738 80 = u660 := hphi745 7 80 _ (by decide) rfl rfl
                  obtain ⟨e748, hr749⟩ : f738 81 = (Value.int .i64 (k75 : Int)) ∧ InR .i64 (k75 : Int) := hphi745 8 81 _ (by decide) rfl rfl
                  obtain ⟨e750, hr751⟩ : f738 87 = (Value.int .i64 x734) ∧ InR .i64 x734 := hphi745 14 87 _ (by decide) rfl rfl
                  have e752 : f738 0 = v_orders := (hout742 0 rfl).trans e559
                  have e753 : f738 1 = (Value.int .i64 m) := (hout742 1 rfl).trans e560
                  have e754 : f738 2 = v_f1 := (hout742 2 rfl).trans e561
                  have e755 : f738 6 = (Value.pointer (some ⟨b1, 0, none⟩)) := (hout742 6 rfl).trans e562
                  have e756 : f738 7 = (Value.int .i64 ((f1).length : Int)) := (hout742 7 rfl).trans e563
                  have e757 : f738 8 = (Value.pointer (some ⟨b20, 0, none⟩)) := (hout742 8 rfl).trans e564
                  have e758 : f738 9 = (Value.int .i64 (k28 : Int)) := (hout742 9 rfl).trans e565
                  have e759 : f738 10 = (Value.int .i64 (k51 : Int)) := (hout742 10 rfl).trans e566
                  have e760 : f738 11 = (Value.int .i64 (k75 : Int)) := (hout742 11 rfl).trans e567
                  obtain ⟨x761, hx764, hb81⟩ := bs hb81
                  obtain ⟨ha762, hb763, hx764⟩ := idx_some hx764
                  refine WL.val (Value.pointer (some (elA u660 ((k75 : Int)).toNat))) _ (op_idx sl_22 (Ty.lift _ he741 hr662) e747 e748 ha762 hb763) rfl ?_
                  refine WL.storeEl3 (flat_i .i64) hS746 (k := 2) rfl sz_2 hx610 hx649 (Ext.cell he741 hc622) (Ext.cell he741 hc661) rfl e750 (lt_of_idx ha762 hb763) ⟨rfl, hr751⟩ ?_
                  intro wd765 hS766
                  replace hS766 : St w wd765 [bx b1 [(Value.slice none 0 0), (Value.int .i64 (0 : Int)), (Value.slice none 0 0)], (Ty.sl (Ty.i .i64)).at u8 x6, (Ty.sl (Ty.sl (Ty.sl (Ty.i .i64)))).at u15 ((x76).set ((k28 : Int)).toNat ((x607).set ((k51 : Int)).toNat ((x646).set ((k75 : Int)).toNat x734))), bx b20 [u8, (Value.int .i64 m), u15]] := hS766
                  refine WL.nil ?_
                  show W _ _ _ _ _ _
                  refine W.region ?_
                  refine WL.val (Value.int .i64 (k75 : Int)) _ (op_move e760) rfl ?_
                  refine WL.val (Value.int .i64 (w64 ((k75 : Int) + (1 : Int)))) _ (op_add rfl rfl) rfl ?_
                  refine WL.val (Value.int .i64 (w64 ((k75 : Int) + (1 : Int)))) _ (op_assign rfl) rfl ?_
                  refine WL.nil ?_
                  obtain rfl := Option.some.inj hb81
                  show ∃ s, _ = Ctl.next s ∧ _
                  exact ⟨_, rfl, e752, e753, e754, e755, e756, e757, e758, e759, (ctr_next hl96 hr5), (ctr_rng hl96 hr5), hS766⟩
            · intro x773 f768 wd769 hs770 hI771
              replace hI771 : f768 0 = v_orders ∧ f768 1 = (Value.int .i64 m) ∧ f768 2 = v_f1 ∧ f768 6 = (Value.pointer (some ⟨b1, 0, none⟩)) ∧ f768 7 = (Value.int .i64 ((f1).length : Int)) ∧ f768 8 = (Value.pointer (some ⟨b20, 0, none⟩)) ∧ f768 9 = (Value.int .i64 (k28 : Int)) ∧ f768 10 = (Value.int .i64 (k51 : Int)) ∧ f768 11 = Value.int .i64 (((f1).length : Nat) : Int) ∧ InR .i64 (((f1).length : Nat) : Int) ∧ St w wd769 [bx b1 [(Value.slice none 0 0), (Value.int .i64 (0 : Int)), (Value.slice none 0 0)], (Ty.sl (Ty.i .i64)).at u8 x6, (Ty.sl (Ty.sl (Ty.sl (Ty.i .i64)))).at u15 x773, bx b20 [u8, (Value.int .i64 m), u15]] := hI771
              obtain ⟨hf774, hf775, hf776, hf777, hf778, hf779, hf780, hf781, hf782, hr783, hS784⟩ := hI771
              refine W.seq (W.seq (W.region ?_))
              refine WL.val (Value.int .i64 (((f1).length : Nat) : Int)) _ (op_move hf782) rfl ?_
              refine WL.val (Value.int .i64 ((f1).length : Int)) _ (op_move hf778) rfl ?_
              refine WL.val (Value.bool (decide ((((f1).length : Nat) : Int) < ((f1).length : Int)))) _ (op_lss rfl rfl) rfl ?_
              have hl785 : ¬ (((f1).length : Nat) : Int) < ((f1).length : Int) := by omega
              refine WL.nil ?_
              show W _ _ _ _ _ _
              refine W.condF (decide ((((f1).length : Nat) : Int) < ((f1).length : Int))) rfl (decide_eq_false hl785) ?_
              refine W.exit ?_
              show _ = _ ∧ _
              exact ⟨rfl, _, hs770, hf774, hf775, hf776, hf777, hf778, hf779, hf780, hf781, hS784⟩
          · rintro f786 wd787 ⟨x790, rfl, hq788⟩
            replace hb57 := onRes_fin hb57
            replace hq788 : f786 0 = v_orders ∧ f786 1 = (Value.int .i64 m) ∧ f786 2 = v_f1 ∧ f786 6 = (Value.pointer (some ⟨b1, 0, none⟩)) ∧ f786 7 = (Value.int .i64 ((f1).length : Int)) ∧ f786 8 = (Value.pointer (some ⟨b20, 0, none⟩)) ∧ f786 9 = (Value.int .i64 (k28 : Int)) ∧ f786 10 = (Value.int .i64 (k51 : Int)) ∧ St w wd787 [bx b1 [(Value.slice none 0 0), (Value.int .i64 (0 : Int)), (Value.slice none 0 0)], (Ty.sl (Ty.i .i64)).at u8 x6, (Ty.sl (Ty.sl (Ty.sl (Ty.i .i64)))).at u15 x790, bx b20 [u8, (Value.int .i64 m), u15]] := hq788
            obtain ⟨hf791, hf792, hf793, hf794, hf795, hf796, hf797, hf798, hS799⟩ := hq788
            show W _ _ _ _ _ _
            refine W.region ?_
            refine WL.val (Value.int .i64 (k51 : Int)) _ (op_move hf798) rfl ?_
            refine WL.val (Value.int .i64 (w64 ((k51 : Int) + (1 : Int)))) _ (op_add rfl rfl) rfl ?_
            refine WL.val (Value.int .i64 (w64 ((k51 : Int) + (1 : Int)))) _ (op_assign rfl) rfl ?_
            refine WL.nil ?_
            obtain rfl := Option.some.inj hb57
            show ∃ s, _ = Ctl.next s ∧ _
            exact ⟨_, rfl, hf791, hf792, hf793, hf794, hf795, hf796, hf797, (ctr_next hl71 hr5), (ctr_rng hl71 hr5), hS799⟩
        · intro x807 f802 wd803 hs804 hI805
          replace hI805 : f802 0 = v_orders ∧ f802 1 = (Value.int .i64 m) ∧ f802 2 = v_f1 ∧ f802 6 = (Value.pointer (some ⟨b1, 0, none⟩)) ∧ f802 7 = (Value.int .i64 ((f1).length : Int)) ∧ f802 8 = (Value.pointer (some ⟨b20, 0, none⟩)) ∧ f802 9 = (Value.int .i64 (k28 : Int)) ∧ f802 10 = Value.int .i64 (((f1).length : Nat) : Int) ∧ InR .i64 (((f1).length : Nat) : Int) ∧ St w wd803 [bx b1 [(Value.slice none 0 0), (Value.int .i64 (0 : Int)), (Value.slice none 0 0)], (Ty.sl (Ty.i .i64)).at u8 x6, (Ty.sl (Ty.sl (Ty.sl (Ty.i .i64)))).at u15 x807, bx b20 [u8, (Value.int .i64 m), u15]] := hI805
          obtain ⟨hf808, hf809, hf810, hf811, hf812, hf813, hf814, hf815, hr816, hS817⟩ := hI805
          refine W.seq (W.seq (W.region ?_))
          refine WL.val (Value.int .i64 (((f1).length : Nat) : Int)) _ (op_move hf815) rfl ?_
          refine WL.val (Value.int .i64 ((f1).length : Int)) _ (op_move hf812) rfl ?_
          refine WL.val (Value.bool (decide ((((f1).length : Nat) : Int) < ((f1).length : Int)))) _ (op_lss rfl rfl) rfl ?_
          have hl818 : ¬ (((f1).length : Nat) : Int) < ((f1).length : Int) := by omega
          refine WL.nil ?_
          show W _ _ _ _ _ _
          refine W.condF (decide ((((f1).length : Nat) : Int) < ((f1).length : Int))) rfl (decide_eq_false hl818) ?_
          refine W.exit ?_
          show _ = _ ∧ _
          exact ⟨rfl, _, hs804, hf808, hf809, hf810, hf811, hf812, hf813, hf814, hS817⟩
      · rintro f819 wd820 ⟨x823, rfl, hq821⟩
        replace hb34 := onRes_fin hb34
        replace hq821 : f819 0 = v_orders ∧ f819 1 = (Value.int .i64 m) ∧ f819 2 = v_f1 ∧ f819 6 = (Value.pointer (some ⟨b1, 0, none⟩)) ∧ f819 7 = (Value.int .i64 ((f1).length : Int)) ∧ f819 8 = (Value.pointer (some ⟨b20, 0, none⟩)) ∧ f819 9 = (Value.int .i64 (k28 : Int)) ∧ St w wd820 [bx b1 [(Value.slice none 0 0), (Value.int .i64 (0 : Int)), (Value.slice none 0 0)], (Ty.sl (Ty.i .i64)).at u8 x6, (Ty.sl (Ty.sl (Ty.sl (Ty.i .i64)))).at u15 x823, bx b20 [u8, (Value.int .i64 m), u15]] := hq821
        obtain ⟨hf824, hf825, hf826, hf827, hf828, hf829, hf830, hS831⟩ := hq821
        show W _ _ _ _ _ _
        refine W.region ?_
        refine WL.val (Value.int .i64 (k28 : Int)) _ (op_move hf830) rfl ?_
        refine WL.val (Value.int .i64 (w64 ((k28 : Int) + (1 : Int)))) _ (op_add rfl rfl) rfl ?_
        refine WL.val (Value.int .i64 (w64 ((k28 : Int) + (1 : Int)))) _ (op_assign rfl) rfl ?_
        refine WL.nil ?_
        obtain rfl := Option.some.inj hb34
        show ∃ s, _ = Ctl.next s ∧ _
        exact ⟨_, rfl, hf824, hf825, hf826, hf827, hf828, hf829, (ctr_next hl47 hr5), (ctr_rng hl47 hr5), hS831⟩
    · intro x839 f834 wd835 hs836 hI837
      replace hI837 : f834 0 = v_orders ∧ f834 1 = (Value.int .i64 m) ∧ f834 2 = v_f1 ∧ f834 6 = (Value.pointer (some ⟨b1, 0, none⟩)) ∧ f834 7 = (Value.int .i64 ((f1).length : Int)) ∧ f834 8 = (Value.pointer (some ⟨b20, 0, none⟩)) ∧ f834 9 = Value.int .i64 (((f1).length : Nat) : Int) ∧ InR .i64 (((f1).length : Nat) : Int) ∧ St w wd835 [bx b1 [(Value.slice none 0 0), (Value.int .i64 (0 : Int)), (Value.slice none 0 0)], (Ty.sl (Ty.i .i64)).at u8 x6, (Ty.sl (Ty.sl (Ty.sl (Ty.i .i64)))).at u15 x839, bx b20 [u8, (Value.int .i64 m), u15]] := hI837
      obtain ⟨hf840, hf841, hf842, hf843, hf844, hf845, hf846, hr847, hS848⟩ := hI837
      refine W.seq (W.seq (W.region ?_))
      refine WL.val (Value.int .i64 (((f1).length : Nat) : Int)) _ (op_move hf846) rfl ?_
      refine WL.val (Value.int .i64 ((f1).length : Int)) _ (op_move hf844) rfl ?_
      refine WL.val (Value.bool (decide ((((f1).length : Nat) : Int) < ((f1).length : Int)))) _ (op_lss rfl rfl) rfl ?_
      have hl849 : ¬ (((f1).length : Nat) : Int) < ((f1).length : Int) := by omega
      refine WL.nil ?_
      show W _ _ _ _ _ _
      refine W.condF (decide ((((f1).length : Nat) : Int) < ((f1).length : Int))) rfl (decide_eq_false hl849) ?_
      refine W.exit ?_
      show _ = _ ∧ _
      exact ⟨rfl, _, hs836, hf843, hf845, hS848⟩
  · rintro f850 wd851 ⟨x854, rfl, hq852⟩
    replace h := onRes_fin h
    replace hq852 : f850 6 = (Value.pointer (some ⟨b1, 0, none⟩)) ∧ f850 8 = (Value.pointer (some ⟨b20, 0, none⟩)) ∧ St w wd851 [bx b1 [(Value.slice none 0 0), (Value.int .i64 (0 : Int)), (Value.slice none 0 0)], (Ty.sl (Ty.i .i64)).at u8 x6, (Ty.sl (Ty.sl (Ty.sl (Ty.i .i64)))).at u15 x854, bx b20 [u8, (Value.int .i64 m), u15]] := hq852
    obtain ⟨hf855, hf856, hS857⟩ := hq852
    show W _ _ _ _ _ _
    refine W.seq (W.region ?_)
    refine WL.val (Value.agg #[u8, (Value.int .i64 m), u15]) _ (op_loadBox st_30 hf856 (St.boxAt hS857 3 rfl) rfl rfl) rfl ?_
    refine WL.storeBox [u8, (Value.int .i64 m), u15] hS857 (k := 0) rfl hf855 rfl (us := [u8, (Value.int .i64 m), u15]) rfl sz_30 rfl rfl (all_rep (St.rep (t := (Ty.sl (Ty.i .i64))) hS857 1 rfl) (all_cons rfl (all_rep (St.rep (t := (Ty.sl (Ty.sl (Ty.sl (Ty.i .i64))))) hS857 2 rfl) all_nil))) rfl ?_
    intro wd858 hS859
    replace hS859 : St w wd858 [bx b1 [u8, (Value.int .i64 m), u15], (Ty.sl (Ty.i .i64)).at u8 x6, (Ty.sl (Ty.sl (Ty.sl (Ty.i .i64)))).at u15 x854, bx b20 [u8, (Value.int .i64 m), u15]] := hS859
    refine WL.nil ?_
    show W _ _ _ _ _ _
    refine W.ret ?_
    obtain rfl := Option.some.inj h
    show FinP _ _ _ _ _ _ _
    exact FinP.ret _ (resC rfl hf855 st_30 (St.boxAt hS859 0 rfl) rfl) ⟨u8, u15, rfl, r_m, hS859.ext, (St.out (St.pick hS859 [1, 2] rfl) (Ext.refl _))⟩

theorem c_spec_CoboundaryOf {w : World} {orders : (List Int)} {v_orders : Value} {m : Int} {f1 : (List (List Int))} {v_f1 : Value} (r_orders : (Ty.sl (Ty.i .i64)).rep w v_orders orders) (r_m : InR .i64 m) (r_f1 : (Ty.sl (Ty.sl (Ty.i .i64))).rep w v_f1 f1) {res : (List Int) × Int × (List (List (List Int))) × Int} (h : p_spec_CoboundaryOf orders m f1  = some res) :
    Ret Try.prog 50 #[v_orders, (Value.int .i64 m), v_f1] w (fun v w' => ∃ (u0 : Value) (u2 : Value), v = (Value.tuple #[(Value.agg #[u0, Value.int .i64 res.2.1, u2]), Value.int .i64 res.2.2.2]) ∧ InR .i64 res.2.1 ∧ InR .i64 res.2.2.2 ∧ Ext w w' ∧ Sep w.heap.size w' [(Ty.sl (Ty.i .i64)).at u0 res.1, (Ty.sl (Ty.sl (Ty.sl (Ty.i .i64)))).at u2 res.2.2.1]) := by
  unfold p_spec_CoboundaryOf at h
  have hS0 : St w w [] := St.start w
  refine Ret.start (fn := Try.f50) Try.func50 rfl 35 rfl rfl ?_
  refine W.seq (W.region ?_)
  refine WL.alloc hS0 ze_30 (cs := [(Value.slice none 0 0), (Value.int .i64 (0 : Int)), (Value.slice none 0 0)]) rfl rfl ?_
  intro b1 wd2 hS3 he4
  replace hS3 : St w wd2 [bx b1 [(Value.slice none 0 0), (Value.int .i64 (0 : Int)), (Value.slice none 0 0)]] := hS3
  refine WL.val (Value.int .i64 (0 : Int)) _ (op_assign rfl) rfl ?_
  refine WL.nil ?_
  show W _ _ _ _ _ _
  refine W.seq ?_
  refine W.block ?_
  refine W.seq (W.region ?_)
  refine WL.val v_orders _ (op_move rfl) rfl ?_
  obtain ⟨x5, hx6, h⟩ := bs h
  refine WL.call _ (op_call fn_73 (args1 rfl)) (c_spec_l06Orders (Ty.lift _ hS3.ext r_orders) hx6) rfl ?_
  rintro _ wd7 ⟨rfl, he8⟩
  have hS10 := St.extend hS3 he8
  replace hS10 : St w wd7 [bx b1 [(Value.slice none 0 0), (Value.int .i64 (0 : Int)), (Value.slice none 0 0)]] := hS10
  refine WL.val (Value.bool (!x5)) _ (op_not rfl) rfl ?_
  refine WL.val (Value.bool (!x5)) _ (op_assign rfl) rfl ?_
  refine WL.nil ?_
  show W _ _ _ _ _ _
  refine W.cond (!x5) rfl (fun hc11 => ?_) (fun hc11 => ?_)
  · replace h := ip h hc11
    refine W.seq (W.region ?_)
    refine WL.val (Value.agg #[(Value.slice none 0 0), (Value.int .i64 (0 : Int)), (Value.slice none 0 0)]) _ (op_build bd_30 (parts := []) (partsL trivial) trivial rfl) rfl ?_
    have hS15 := St.addNil (Ty.i .i64) hS10
    replace hS15 : St w wd7 [bx b1 [(Value.slice none 0 0), (Value.int .i64 (0 : Int)), (Value.slice none 0 0)], (Ty.sl (Ty.i .i64)).at (Value.slice none 0 0) ([] : (List Int))] := hS15
    have hS16 := St.addNil (Ty.sl (Ty.sl (Ty.i .i64))) hS15
    replace hS16 : St w wd7 [bx b1 [(Value.slice none 0 0), (Value.int .i64 (0 : Int)), (Value.slice none 0 0)], (Ty.sl (Ty.i .i64)).at (Value.slice none 0 0) ([] : (List Int)), (Ty.sl (Ty.sl (Ty.sl (Ty.i .i64)))).at (Value.slice none 0 0) ([] : (List (List (List Int))))] := hS16
    refine WL.storeBox [(Value.slice none 0 0), (Value.int .i64 (0 : Int)), (Value.slice none 0 0)] hS16 (k := 0) rfl rfl rfl (us := [(Value.slice none 0 0), (Value.int .i64 (0 : Int)), (Value.slice none 0 0)]) rfl sz_30 rfl rfl (all_rep (St.rep (t := (Ty.sl (Ty.i .i64))) hS16 1 rfl) (all_cons rfl (all_rep (St.rep (t := (Ty.sl (Ty.sl (Ty.sl (Ty.i .i64))))) hS16 2 rfl) all_nil))) rfl ?_
    intro wd13 hS14
    replace hS14 : St w wd13 [bx b1 [(Value.slice none 0 0), (Value.int .i64 (0 : Int)), (Value.slice none 0 0)], (Ty.sl (Ty.i .i64)).at (Value.slice none 0 0) ([] : (List Int)), (Ty.sl (Ty.sl (Ty.sl (Ty.i .i64)))).at (Value.slice none 0 0) ([] : (List (List (List Int))))] := hS14
    refine WL.val (Value.int .i64 (1 : Int)) _ (op_assign rfl) rfl ?_
    refine WL.nil ?_
    show W _ _ _ _ _ _
    refine W.ret ?_
    obtain rfl := Option.some.inj h
    show FinP _ _ _ _ _ _ _
    exact FinP.ret _ (resCT rfl rfl st_30 (St.boxAt hS14 0 rfl) rfl rfl) ⟨(Value.slice none 0 0), (Value.slice none 0 0), rfl, (inR_i64.2 (show (-9223372036854775808 : Int) ≤ 0 ∧ (0 : Int) ≤ 9223372036854775807 from by decide)), (inR_i64.2 (show (-9223372036854775808 : Int) ≤ 1 ∧ (1 : Int) ≤ 9223372036854775807 from by decide)), hS14.ext, (St.out (St.pick hS14 [1, 2] rfl) (Ext.refl _))⟩
  · replace h := inegb h hc11
    refine W.seq (W.region ?_)
    refine WL.val v_orders _ (op_move rfl) rfl ?_
    obtain ⟨x17, hx18, h⟩ := bs h
    refine WL.call _ (op_call fn_74 (args1 rfl)) (c_spec_l17Size (Ty.lift _ hS10.ext r_orders) hx18) rfl ?_
    rintro _ wd20 ⟨rfl, hr19, he21⟩
    have hS23 := St.extend hS10 he21
    replace hS23 : St w wd20 [bx b1 [(Value.slice none 0 0), (Value.int .i64 (0 : Int)), (Value.slice none 0 0)]] := hS23
    refine WL.val (Value.bool (decide (x17 > (8 : Int)))) _ (op_gtr rfl rfl) rfl ?_
    refine WL.val (Value.bool (decide (x17 > (8 : Int)))) _ (op_assign rfl) rfl ?_
    refine WL.nil ?_
    show W _ _ _ _ _ _
    refine W.cond (decide (x17 > (8 : Int))) rfl (fun hc24 => ?_) (fun hc24 => ?_)
    · replace h := ip h hc24
      refine W.seq (W.region ?_)
      refine WL.val (Value.agg #[(Value.slice none 0 0), (Value.int .i64 (0 : Int)), (Value.slice none 0 0)]) _ (op_build bd_30 (parts := []) (partsL trivial) trivial rfl) rfl ?_
      have hS28 := St.addNil (Ty.i .i64) hS23
      replace hS28 : St w wd20 [bx b1 [(Value.slice none 0 0), (Value.int .i64 (0 : Int)), (Value.slice none 0 0)], (Ty.sl (Ty.i .i64)).at (Value.slice none 0 0) ([] : (List Int))] := hS28
      have hS29 := St.addNil (Ty.sl (Ty.sl (Ty.i .i64))) hS28
      replace hS29 : St w wd20 [bx b1 [(Value.slice none 0 0), (Value.int .i64 (0 : Int)), (Value.slice none 0 0)], (Ty.sl (Ty.i .i64)).at (Value.slice none 0 0) ([] : (List Int)), (Ty.sl (Ty.sl (Ty.sl (Ty.i .i64)))).at (Value.slice none 0 0) ([] : (List (List (List Int))))] := hS29
      refine WL.storeBox [(Value.slice none 0 0), (Value.int .i64 (0 : Int)), (Value.slice none 0 0)] hS29 (k := 0) rfl rfl rfl (us := [(Value.slice none 0 0), (Value.int .i64 (0 : Int)), (Value.slice none 0 0)]) rfl sz_30 rfl rfl (all_rep (St.rep (t := (Ty.sl (Ty.i .i64))) hS29 1 rfl) (all_cons rfl (all_rep (St.rep (t := (Ty.sl (Ty.sl (Ty.sl (Ty.i .i64))))) hS29 2 rfl) all_nil))) rfl ?_
      intro wd26 hS27
      replace hS27 : St w wd26 [bx b1 [(Value.slice none 0 0), (Value.int .i64 (0 : Int)), (Value.slice none 0 0)], (Ty.sl (Ty.i .i64)).at (Value.slice none 0 0) ([] : (List Int)), (Ty.sl (Ty.sl (Ty.sl (Ty.i .i64)))).at (Value.slice none 0 0) ([] : (List (List (List Int))))] := hS27
      refine WL.val (Value.int .i64 (3 : Int)) _ (op_assign rfl) rfl ?_
      refine WL.nil ?_
      show W _ _ _ _ _ _
      refine W.ret ?_
      obtain rfl := Option.some.inj h
      show FinP _ _ _ _ _ _ _
      exact FinP.ret _ (resCT rfl rfl st_30 (St.boxAt hS27 0 rfl) rfl rfl) ⟨(Value.slice none 0 0), (Value.slice none 0 0), rfl, (inR_i64.2 (show (-9223372036854775808 : Int) ≤ 0 ∧ (0 : Int) ≤ 9223372036854775807 from by decide)), (inR_i64.2 (show (-9223372036854775808 : Int) ≤ 3 ∧ (3 : Int) ≤ 9223372036854775807 from by decide)), hS27.ext, (St.out (St.pick hS27 [1, 2] rfl) (Ext.refl _))⟩
    · replace h := inegb h hc24
      refine W.seq (W.region ?_)
      refine WL.val (Value.int .i64 m) _ (op_move rfl) rfl ?_
      obtain ⟨x30, hx31, h⟩ := bs h
      refine WL.call _ (op_call fn_56 (args3 rfl rfl rfl)) (c_spec_l01In r_m (inR_i64.2 (show (-9223372036854775808 : Int) ≤ 1 ∧ (1 : Int) ≤ 9223372036854775807 from by decide)) (inR_i64.2 (show (-9223372036854775808 : Int) ≤ 1000 ∧ (1000 : Int) ≤ 9223372036854775807 from by decide)) hx31) rfl ?_
      rintro _ wd32 ⟨rfl, he33⟩
      have hS35 := St.extend hS23 he33
      replace hS35 : St w wd32 [bx b1 [(Value.slice none 0 0), (Value.int .i64 (0 : Int)), (Value.slice none 0 0)]] := hS35
      refine WL.val (Value.bool (!x30)) _ (op_not rfl) rfl ?_
      refine WL.val (Value.bool (!x30)) _ (op_move rfl) rfl ?_
      obtain ⟨x37, hj38, h⟩ := bs h
      refine WL.cut 7 (fun fq wq => fq 0 = v_orders ∧ fq 1 = (Value.int .i64 m) ∧ fq 2 = v_f1 ∧ fq 6 = (Value.pointer (some ⟨b1, 0, none⟩)) ∧ fq 29 = Value.bool x37 ∧ St w wq [bx b1 [(Value.slice none 0 0), (Value.int .i64 (0 : Int)), (Value.slice none 0 0)]]) ?_ ?_
      · rcases Bool.eq_false_or_eq_true (!x30) with hc36 | hc36
        · replace hj38 := ip hj38 hc36
          refine WL.gskip rfl (bool_of rfl hc36) rfl ?_
          refine WL.gskip rfl (bool_of rfl hc36) rfl ?_
          refine WL.gskip rfl (bool_of rfl hc36) rfl ?_
          refine WL.gskip rfl (bool_of rfl hc36) rfl ?_
          refine WL.gskip rfl (bool_of rfl hc36) rfl ?_
          refine WL.gskip rfl (bool_of rfl hc36) rfl ?_
          refine WL.val (Value.bool true) _ (op_pick_t (evb_of rfl hc36) rfl) rfl ?_
          refine WL.nil ?_
          obtain rfl := Option.some.inj hj38
          exact ⟨rfl, rfl, rfl, rfl, rfl, rfl, hS35⟩
        · replace hj38 := inegb hj38 hc36
          refine WL.grun rfl (bool_of rfl hc36) ?_
          refine WL.val v_orders _ (op_move rfl) rfl ?_
          refine WL.grun rfl (bool_of rfl hc36) ?_
          obtain ⟨x42, hx43, hj38⟩ := bs hj38
          refine WL.call _ (op_call fn_74 (args1 rfl)) (c_spec_l17Size (Ty.lift _ hS35.ext r_orders) hx43) rfl ?_
          rintro _ wd45 ⟨rfl, hr44, he46⟩
          have hS48 := St.extend hS35 he46
          replace hS48 : St w wd45 [bx b1 [(Value.slice none 0 0), (Value.int .i64 (0 : Int)), (Value.slice none 0 0)]] := hS48
          refine WL.grun rfl (bool_of rfl hc36) ?_
          refine WL.val (Value.int .i64 m) _ (op_move rfl) rfl ?_
          refine WL.grun rfl (bool_of rfl hc36) ?_
          refine WL.val v_f1 _ (op_move rfl) rfl ?_
          refine WL.grun rfl (bool_of rfl hc36) ?_
          obtain ⟨x49, hx50, hj38⟩ := bs hj38
          refine WL.call _ (op_call fn_75 (args3 rfl rfl rfl)) (c_spec_l17Pairing hr44 r_m (Ty.lift _ hS48.ext r_f1) hx50) rfl ?_
          rintro _ wd51 ⟨rfl, he52⟩
          have hS54 := St.extend hS48 he52
          replace hS54 : St w wd51 [bx b1 [(Value.slice none 0 0), (Value.int .i64 (0 : Int)), (Value.slice none 0 0)]] := hS54
          refine WL.grun rfl (bool_of rfl hc36) ?_
          refine WL.val (Value.bool (!x49)) _ (op_not rfl) rfl ?_
          refine WL.val (Value.bool (!x49)) _ (op_pick_f (evb_of rfl hc36) rfl) rfl ?_
          refine WL.nil ?_
          obtain rfl := Option.some.inj hj38
          exact ⟨rfl, rfl, rfl, rfl, rfl, rfl, hS54⟩
      · intro f39 wd40 hq41
        obtain ⟨hf55, hf56, hf57, hf58, hf59, hS60⟩ := hq41
        refine WL.val (Value.bool x37) _ (op_assign hf59) rfl ?_
        refine WL.nil ?_
        show W _ _ _ _ _ _
        refine W.cond x37 rfl (fun hc61 => ?_) (fun hc61 => ?_)
        · replace h := ip h hc61
          refine W.seq (W.region ?_)
          refine WL.val (Value.agg #[(Value.slice none 0 0), (Value.int .i64 (0 : Int)), (Value.slice none 0 0)]) _ (op_build bd_30 (parts := []) (partsL trivial) trivial rfl) rfl ?_
          have hS65 := St.addNil (Ty.i .i64) hS60
          replace hS65 : St w wd40 [bx b1 [(Value.slice none 0 0), (Value.int .i64 (0 : Int)), (Value.slice none 0 0)], (Ty.sl (Ty.i .i64)).at (Value.slice none 0 0) ([] : (List Int))] := hS65
          have hS66 := St.addNil (Ty.sl (Ty.sl (Ty.i .i64))) hS65
          replace hS66 : St w wd40 [bx b1 [(Value.slice none 0 0), (Value.int .i64 (0 : Int)), (Value.slice none 0 0)], (Ty.sl (Ty.i .i64)).at (Value.slice none 0 0) ([] : (List Int)), (Ty.sl (Ty.sl (Ty.sl (Ty.i .i64)))).at (Value.slice none 0 0) ([] : (List (List (List Int))))] := hS66
          refine WL.storeBox [(Value.slice none 0 0), (Value.int .i64 (0 : Int)), (Value.slice none 0 0)] hS66 (k := 0) rfl hf58 rfl (us := [(Value.slice none 0 0), (Value.int .i64 (0 : Int)), (Value.slice none 0 0)]) rfl sz_30 rfl rfl (all_rep (St.rep (t := (Ty.sl (Ty.i .i64))) hS66 1 rfl) (all_cons rfl (all_rep (St.rep (t := (Ty.sl (Ty.sl (Ty.sl (Ty.i .i64))))) hS66 2 rfl) all_nil))) rfl ?_
          intro wd63 hS64
          replace hS64 : St w wd63 [bx b1 [(Value.slice none 0 0), (Value.int .i64 (0 : Int)), (Value.slice none 0 0)], (Ty.sl (Ty.i .i64)).at (Value.slice none 0 0) ([] : (List Int)), (Ty.sl (Ty.sl (Ty.sl (Ty.i .i64)))).at (Value.slice none 0 0) ([] : (List (List (List Int))))] := hS64
          refine WL.val (Value.int .i64 (2 : Int)) _ (op_assign rfl) rfl ?_
          refine WL.nil ?_
          show W _ _ _ _ _ _
          refine W.ret ?_
          obtain rfl := Option.some.inj h
          show FinP _ _ _ _ _ _ _
          exact FinP.ret _ (resCT rfl hf58 st_30 (St.boxAt hS64 0 rfl) rfl rfl) ⟨(Value.slice none 0 0), (Value.slice none 0 0), rfl, (inR_i64.2 (show (-9223372036854775808 : Int) ≤ 0 ∧ (0 : Int) ≤ 9223372036854775807 from by decide)), (inR_i64.2 (show (-9223372036854775808 : Int) ≤ 2 ∧ (2 : Int) ≤ 9223372036854775807 from by decide)), hS64.ext, (St.out (St.pick hS64 [1, 2] rfl) (Ext.refl _))⟩
        · replace h := inegb h hc61
          refine W.skip ?_
          show W _ _ _ _ _ _
          refine W.seq (W.region ?_)
          refine WL.val v_orders _ (op_move hf55) rfl ?_
          refine WL.val (Value.int .i64 m) _ (op_move hf56) rfl ?_
          refine WL.val v_f1 _ (op_move hf57) rfl ?_
          obtain ⟨x67, hx68, h⟩ := bs h
          refine WL.call _ (op_call fn_76 (args3 rfl rfl rfl)) (c_spec_l17Coboundary (Ty.lift _ hS60.ext r_orders) r_m (Ty.lift _ hS60.ext r_f1) hx68) rfl ?_
          rintro _ wd72 ⟨u69, u71, rfl, hr70, he73, hs74⟩
          have hS75 := St.join hS60 he73 hs74
          replace hS75 : St w wd72 [bx b1 [(Value.slice none 0 0), (Value.int .i64 (0 : Int)), (Value.slice none 0 0)], (Ty.sl (Ty.i .i64)).at u69 x67.1, (Ty.sl (Ty.sl (Ty.sl (Ty.i .i64)))).at u71 x67.2.2] := hS75
          refine WL.storeBox [u69, (Value.int .i64 x67.2.1), u71] hS75 (k := 0) rfl hf58 rfl (us := [u69, (Value.int .i64 x67.2.1), u71]) rfl sz_30 rfl rfl (all_rep (St.rep (t := (Ty.sl (Ty.i .i64))) hS75 1 rfl) (all_cons rfl (all_rep (St.rep (t := (Ty.sl (Ty.sl (Ty.sl (Ty.i .i64))))) hS75 2 rfl) all_nil))) rfl ?_
          intro wd76 hS77
          replace hS77 : St w wd76 [bx b1 [u69, (Value.int .i64 x67.2.1), u71], (Ty.sl (Ty.i .i64)).at u69 x67.1, (Ty.sl (Ty.sl (Ty.sl (Ty.i .i64)))).at u71 x67.2.2] := hS77
          refine WL.val (Value.int .i64 (0 : Int)) _ (op_assign rfl) rfl ?_
          refine WL.nil ?_
          show W _ _ _ _ _ _
          refine W.ret ?_
          obtain rfl := Option.some.inj h
          show FinP _ _ _ _ _ _ _
          exact FinP.ret _ (resCT rfl hf58 st_30 (St.boxAt hS77 0 rfl) rfl rfl) ⟨u69, u71, rfl, hr70, (inR_i64.2 (show (-9223372036854775808 : Int) ≤ 0 ∧ (0 : Int) ≤ 9223372036854775807 from by decide)), hS77.ext, (St.out (St.pick hS77 [1, 2] rfl) (Ext.refl _))⟩

theorem c_spec_l18Mod {w : World} {n : Int} {m : Int} (r_n : InR .i64 n) (r_m : InR .i64 m) {res : Int} (h : p_spec_l18Mod n m  = some res) :
    Ret Try.prog 77 #[(Value.int .i64 n), (Value.int .i64 m)] w (fun v w' => v = Value.int .i64 res ∧ InR .i64 res ∧ Ext w w') := by
  unfold p_spec_l18Mod at h
  have hS0 : St w w [] := St.start w
  refine Ret.start (fn := Try.f77) Try.func77 rfl 12 rfl rfl ?_
  refine W.seq (W.region ?_)
  refine WL.val (Value.int .i64 (0 : Int)) _ (op_assign rfl) rfl ?_
  refine WL.nil ?_
  show W _ _ _ _ _ _
  refine W.seq (W.region ?_)
  refine WL.val (Value.int .i64 n) _ (op_move rfl) rfl ?_
  refine WL.val (Value.int .i64 m) _ (op_move rfl) rfl ?_
  obtain ⟨x1, hz2, h⟩ := bs h
  obtain ⟨h03, hz2⟩ := remI_some hz2
  have hr4 : InR .i64 x1 := by rw [hz2]; exact inR_tmod r_n
  refine WL.val (Value.int .i64 x1) _ (by rw [hz2]; exact op_rem rfl rfl h03) rfl ?_
  refine WL.val (Value.int .i64 m) _ (op_move rfl) rfl ?_
  refine WL.val (Value.int .i64 (w64 (x1 + m))) _ (op_add rfl rfl) rfl ?_
  refine WL.val (Value.int .i64 m) _ (op_move rfl) rfl ?_
  obtain ⟨x5, hz6, h⟩ := bs h
  obtain ⟨h07, hz6⟩ := remI_some hz6
  have hr8 : InR .i64 x5 := by rw [hz6]; exact inR_tmod (inR_wrap _ _)
  refine WL.val (Value.int .i64 x5) _ (by rw [hz6]; exact op_rem rfl rfl h07) rfl ?_
  refine WL.val (Value.int .i64 x5) _ (op_assign rfl) rfl ?_
  refine WL.nil ?_
  show W _ _ _ _ _ _
  refine W.ret ?_
  obtain rfl := Option.some.inj h
  show FinP _ _ _ _ _ _ _
  exact FinP.ret _ (res1 rfl rfl) ⟨rfl, hr8, hS0.ext⟩

theorem c_spec_l18Turn {w : World} {f1 : (List (List Int))} {v_f1 : Value} {m : Int} (r_f1 : (Ty.sl (Ty.sl (Ty.i .i64))).rep w v_f1 f1) (r_m : InR .i64 m) {res : (List (List Int))} (h : p_spec_l18Turn f1 m  = some res) :
    Ret Try.prog 51 #[v_f1, (Value.int .i64 m)] w (fun v w' => ∃ (u0 : Value), v = u0 ∧ Ext w w' ∧ Sep w.heap.size w' [(Ty.sl (Ty.sl (Ty.i .i64))).at u0 res]) := by
  unfold p_spec_l18Turn at h
  have hS0 : St w w [] := St.start w
  refine Ret.start (fn := Try.f51) Try.func51 rfl 48 rfl rfl ?_
  refine W.seq (W.region ?_)
  refine WL.val (Value.slice none 0 0) _ (op_assign rfl) rfl ?_
  refine WL.nil ?_
  show W _ _ _ _ _ _
  refine W.seq (W.region ?_)
  refine WL.lit0 (t := (Ty.sl (Ty.i .i64))) hS0 sl_27 rfl rfl ?_
  intro u1 wd2 hS3 he4
  replace hS3 : St w wd2 [(Ty.sl (Ty.sl (Ty.i .i64))).at u1 ([] : (List (List Int)))] := hS3
  refine WL.val u1 _ (op_assign rfl) rfl ?_
  refine WL.nil ?_
  show W _ _ _ _ _ _
  refine W.seq (W.seq (W.region ?_))
  refine WL.val (Value.int .i64 (0 : Int)) _ (op_assign rfl) rfl ?_
  refine WL.nil ?_
  show W _ _ _ _ _ _
  obtain ⟨res5, hres6, h⟩ := bs h
  refine W.blockLoop (fun fq wq => ∃ s, res5 = Res.fin s ∧ ∃ (uu0 : Value), fq 5 = uu0 ∧ St w wq [(Ty.sl (Ty.sl (Ty.i .i64))).at uu0 s]) ?_ ?_
  · refine W.forN (fun k (s : (List (List Int))) fq wq => ∃ (uu0 : Value), fq 0 = v_f1 ∧ fq 1 = (Value.int .i64 m) ∧ fq 5 = uu0 ∧ fq 6 = Value.int .i64 (k : Int) ∧ InR .i64 (k : Int) ∧ St w wq [(Ty.sl (Ty.sl (Ty.i .i64))).at uu0 s]) hres6 ⟨u1, rfl, rfl, rfl, rfl, (inR_i64.2 (show (-9223372036854775808 : Int) ≤ 0 ∧ (0 : Int) ≤ 9223372036854775807 from by decide)), hS3⟩ ?_ ?_
    · intro k7 x8 ct9 f10 wd11 hk12 hb13 hI14 hbrk15 hret16
      replace hI14 : ∃ (uu0 : Value), f10 0 = v_f1 ∧ f10 1 = (Value.int .i64 m) ∧ f10 5 = uu0 ∧ f10 6 = Value.int .i64 (k7 : Int) ∧ InR .i64 (k7 : Int) ∧ St w wd11 [(Ty.sl (Ty.sl (Ty.i .i64))).at uu0 x8] := hI14
      replace hb13 : p_spec_l18Turn_L1 f1 m k7 x8 = some ct9 := hb13
      unfold p_spec_l18Turn_L1 at hb13
      obtain ⟨u17, hf18, hf19, hf20, hf21, hr22, hS23⟩ := hI14
      refine W.seq (W.seq (W.region ?_))
      refine WL.val (Value.int .i64 (k7 : Int)) _ (op_move hf21) rfl ?_
      refine WL.val v_f1 _ (op_move hf18) rfl ?_
      have hr24 := inR_len (Ty.lift _ hS23.ext r_f1)
      refine WL.val (Value.int .i64 ((f1).length : Int)) _ (op_lenL sl_27 (Ty.lift _ hS23.ext r_f1) rfl) rfl ?_
      refine WL.val (Value.bool (decide ((k7 : Int) < ((f1).length : Int)))) _ (op_lss rfl rfl) rfl ?_
      have hl25 : (k7 : Int) < ((f1).length : Int) := by omega
      refine WL.nil ?_
      show W _ _ _ _ _ _
      refine W.condT (decide ((k7 : Int) < ((f1).length : Int))) rfl (decide_eq_true hl25) ?_
      refine W.skip ?_
      show W _ _ _ _ _ _
      refine W.seq ?_
      refine W.block ?_
      refine W.seq (W.region ?_)
      refine WL.lit0 (t := (Ty.i .i64)) hS23 sl_22 rfl rfl ?_
      intro u27 wd28 hS29 he30
      replace hS29 : St w wd28 [(Ty.sl (Ty.sl (Ty.i .i64))).at u17 x8, (Ty.sl (Ty.i .i64)).at u27 ([] : (List Int))] := hS29
      refine WL.val u27 _ (op_assign rfl) rfl ?_
      refine WL.nil ?_
      show W _ _ _ _ _ _
      refine W.seq (W.seq (W.region ?_))
      refine WL.val (Value.int .i64 (0 : Int)) _ (op_assign rfl) rfl ?_
      refine WL.nil ?_
      show W _ _ _ _ _ _
      obtain ⟨res31, hres32, hb13⟩ := bs hb13
      refine W.blockLoop (fun fq wq => ∃ s, res31 = Res.fin s ∧ ∃ (uu0 : Value), fq 0 = v_f1 ∧ fq 1 = (Value.int .i64 m) ∧ fq 5 = u17 ∧ fq 6 = (Value.int .i64 (k7 : Int)) ∧ fq 7 = uu0 ∧ St w wq [(Ty.sl (Ty.sl (Ty.i .i64))).at u17 x8, (Ty.sl (Ty.i .i64)).at uu0 s]) ?_ ?_
      · refine W.forN (fun k (s : (List Int)) fq wq => ∃ (uu0 : Value), fq 0 = v_f1 ∧ fq 1 = (Value.int .i64 m) ∧ fq 5 = u17 ∧ fq 6 = (Value.int .i64 (k7 : Int)) ∧ fq 7 = uu0 ∧ fq 8 = Value.int .i64 (k : Int) ∧ InR .i64 (k : Int) ∧ St w wq [(Ty.sl (Ty.sl (Ty.i .i64))).at u17 x8, (Ty.sl (Ty.i .i64)).at uu0 s]) hres32 ⟨u27, hf18, hf19, hf20, hf21, rfl, rfl, (inR_i64.2 (show (-9223372036854775808 : Int) ≤ 0 ∧ (0 : Int) ≤ 9223372036854775807 from by decide)), hS29⟩ ?_ ?_
        · intro k33 x34 ct35 f36 wd37 hk38 hb39 hI40 hbrk41 hret42
          replace hI40 : ∃ (uu0 : Value), f36 0 = v_f1 ∧ f36 1 = (Value.int .i64 m) ∧ f36 5 = u17 ∧ f36 6 = (Value.int .i64 (k7 : Int)) ∧ f36 7 = uu0 ∧ f36 8 = Value.int .i64 (k33 : Int) ∧ InR .i64 (k33 : Int) ∧ St w wd37 [(Ty.sl (Ty.sl (Ty.i .i64))).at u17 x8, (Ty.sl (Ty.i .i64)).at uu0 x34] := hI40
          replace hb39 : p_spec_l18Turn_L2 f1 k7 m k33 x34 = some ct35 := hb39
          unfold p_spec_l18Turn_L2 at hb39
          obtain ⟨u43, hf44, hf45, hf46, hf47, hf48, hf49, hr50, hS51⟩ := hI40
          refine W.seq (W.seq (W.region ?_))
          refine WL.val (Value.int .i64 (k33 : Int)) _ (op_move hf49) rfl ?_
          refine WL.val v_f1 _ (op_move hf44) rfl ?_
          have hr52 := inR_len (Ty.lift _ hS51.ext r_f1)
          refine WL.val (Value.int .i64 ((f1).length : Int)) _ (op_lenL sl_27 (Ty.lift _ hS51.ext r_f1) rfl) rfl ?_
          refine WL.val (Value.bool (decide ((k33 : Int) < ((f1).length : Int)))) _ (op_lss rfl rfl) rfl ?_
          have hl53 : (k33 : Int) < ((f1).length : Int) := by omega
          refine WL.nil ?_
          show W _ _ _ _ _ _
          refine W.condT (decide ((k33 : Int) < ((f1).length : Int))) rfl (decide_eq_true hl53) ?_
          refine W.skip ?_
          show W _ _ _ _ _ _
          refine W.seq ?_
          refine W.block ?_
          obtain ⟨x91, hx94, hb39⟩ := bs hb39
          obtain ⟨ha92, hb93, hx94⟩ := idx_some hx94
          obtain ⟨u105, hc106, hr107⟩ := repSl.el r_f1 hx94
          obtain ⟨x130, hx133, hb39⟩ := bs hb39
          obtain ⟨ha131, hb132, hx133⟩ := idx_some hx133
          obtain ⟨u144, hc145, hr146⟩ := repSl.el hr107 hx133
          obtain ⟨rfl, hr146⟩ := hr146
          obtain ⟨x176, hx179, hb39⟩ := bs hb39
          obtain ⟨ha177, hb178, hx179⟩ := idx_some hx179
          obtain ⟨u190, hc191, hr192⟩ := repSl.el r_f1 hx179
          obtain ⟨x215, hx218, hb39⟩ := bs hb39
          obtain ⟨ha216, hb217, hx218⟩ := idx_some hx218
          obtain ⟨u229, hc230, hr231⟩ := repSl.el hr192 hx218
          obtain ⟨rfl, hr231⟩ := hr231
          obtain ⟨x271, hx272, hb39⟩ := bs hb39
          refine W.drawR mixo 19 [] [fun _ v _ _ => v = u43, fun _ v _ _ => v = v_f1, fun _ v _ _ => v = (Value.int .i64 (k33 : Int)) ∧ InR .i64 (k33 : Int), fun _ v _ _ => v = (Value.pointer (some (elA v_f1 ((k33 : Int)).toNat))), fun _ v _ _ => v = u105, fun _ v _ _ => v = (Value.int .i64 (k7 : Int)) ∧ InR .i64 (k7 : Int), fun _ v _ _ => v = (Value.pointer (some (elA u105 ((k7 : Int)).toNat))), fun _ v _ _ => v = (Value.int .i64 x130) ∧ InR .i64 x130, fun _ v _ _ => v = v_f1, fun _ v _ _ => v = (Value.int .i64 (k7 : Int)) ∧ InR .i64 (k7 : Int), fun _ v _ _ => v = (Value.pointer (some (elA v_f1 ((k7 : Int)).toNat))), fun _ v _ _ => v = u190, fun _ v _ _ => v = (Value.int .i64 (k33 : Int)) ∧ InR .i64 (k33 : Int), fun _ v _ _ => v = (Value.pointer (some (elA u190 ((k33 : Int)).toNat))), fun _ v _ _ => v = (Value.int .i64 x215) ∧ InR .i64 x215, fun _ v _ _ => v = (Value.int .i64 (w64 (x130 - x215))) ∧ InR .i64 (w64 (x130 - x215)), fun _ v _ _ => v = (Value.int .i64 m) ∧ InR .i64 m, fun _ v _ _ => v = (Value.int .i64 x271) ∧ InR .i64 x271, fun _ v S w' => SepS S w' [(Ty.sl (Ty.i .i64)).at v ([x271] : (List Int))]] (by kernel_rfl) (by kernel_rfl) ⟨⟨fun _ _ _ _ _ _ h => h, fun _ _ _ _ _ _ h => h⟩, ⟨fun _ _ _ _ _ _ h => h, fun _ _ _ _ _ _ h => h⟩, ⟨fun _ _ _ _ _ _ h => h, fun _ _ _ _ _ _ h => h⟩, ⟨fun _ _ _ _ _ _ h => h, fun _ _ _ _ _ _ h => h⟩, ⟨fun _ _ _ _ _ _ h => h, fun _ _ _ _ _ _ h => h⟩, ⟨fun _ _ _ _ _ _ h => h, fun _ _ _ _ _ _ h => h⟩, ⟨fun _ _ _ _ _ _ h => h, fun _ _ _ _ _ _ h => h⟩, ⟨fun _ _ _ _ _ _ h => h, fun _ _ _ _ _ _ h => h⟩, ⟨fun _ _ _ _ _ _ h => h, fun _ _ _ _ _ _ h => h⟩, ⟨fun _ _ _ _ _ _ h => h, fun _ _ _ _ _ _ h => h⟩, ⟨fun _ _ _ _ _ _ h => h, fun _ _ _ _ _ _ h => h⟩, ⟨fun _ _ _ _ _ _ h => h, fun _ _ _ _ _ _ h => h⟩, ⟨fun _ _ _ _ _ _ h => h, fun _ _ _ _ _ _ h => h⟩, ⟨fun _ _ _ _ _ _ h => h, fun _ _ _ _ _ _ h => h⟩, ⟨fun _ _ _ _ _ _ h => h, fun _ _ _ _ _ _ h => h⟩, ⟨fun _ _ _ _ _ _ h => h, fun _ _ _ _ _ _ h => h⟩, ⟨fun _ _ _ _ _ _ h => h, fun _ _ _ _ _ _ h => h⟩, ⟨fun _ _ _ _ _ _ h => h, fun _ _ _ _ _ _ h => h⟩, ⟨fun _ _ _ _ _ he h => SepS.extend he h, fun _ _ _ _ _ _ h => h⟩, trivial⟩ ⟨?_, ?_, ?_, ?_, ?_, ?_, ?_, ?_, ?_, ?_, ?_, ?_, ?_, ?_, ?_, ?_, ?_, ?_, ?_, trivial⟩ ?_
          · refine ObX.op rfl ?_
            intro f55 wd56 he57 hout58 hphi59
            have hS60 : St w wd56 [(Ty.sl (Ty.sl (Ty.i .i64))).at u17 x8, (Ty.sl (Ty.i .i64)).at u43 x34] := St.extend hS51 he57
            have e61 : f55 7 = u43 := (hout58 7 rfl).trans hf48
            exact OpX.val u43 wd56 rfl (op_move e61) (Ext.refl _) rfl
          · refine ObX.op rfl ?_
            intro f62 wd63 he64 hout65 hphi66
            have hS67 : St w wd63 [(Ty.sl (Ty.sl (Ty.i .i64))).at u17 x8, (Ty.sl (Ty.i .i64)).at u43 x34] := St.extend hS51 he64
            have e68 : f62 0 = v_f1 := (hout65 0 rfl).trans hf44
            exact OpX.val v_f1 wd63 rfl (op_move e68) (Ext.refl _) rfl
          · refine ObX.op rfl ?_
            intro f69 wd70 he71 hout72 hphi73
            have hS74 : St w wd70 [(Ty.sl (Ty.sl (Ty.i .i64))).at u17 x8, (Ty.sl (Ty.i .i64)).at u43 x34] := St.extend hS51 he71
            have e75 : f69 8 = (Value.int .i64 (k33 : Int)) := (hout72 8 rfl).trans hf49
            exact OpX.val (Value.int .i64 (k33 : Int)) wd70 rfl (op_move e75) (Ext.refl _) ⟨rfl, hr50⟩
          · refine ObX.op rfl ?_
            intro f76 wd77 he78 hout79 hphi80
            have hS81 : St w wd77 [(Ty.sl (Ty.sl (Ty.i .i64))).at u17 x8, (Ty.sl (Ty.i .i64)).at u43 x34] := St.extend hS51 he78
            obtain ⟨S82, hS83, hf84⟩ := hphi80 1 24 _ rfl rfl rfl
            have e85 : f76 24 = v_f1 := hf84
            obtain ⟨S86, hS87, hf88⟩ := hphi80 2 25 _ rfl rfl rfl
            obtain ⟨e89, hr90⟩ : f76 25 = (Value.int .i64 (k33 : Int)) ∧ InR .i64 (k33 : Int) := hf88
            exact OpX.val (Value.pointer (some (elA v_f1 ((k33 : Int)).toNat))) wd77 rfl (op_idx sl_27 (Ty.lift _ hS81.ext r_f1) e85 e89 ha92 hb93) (Ext.refl _) rfl
          · refine ObX.op rfl ?_
            intro f95 wd96 he97 hout98 hphi99
            have hS100 : St w wd96 [(Ty.sl (Ty.sl (Ty.i .i64))).at u17 x8, (Ty.sl (Ty.i .i64)).at u43 x34] := St.extend hS51 he97
            obtain ⟨S101, hS102, hf103⟩ := hphi99 3 26 _ rfl rfl rfl
            have e104 : f95 26 = (Value.pointer (some (elA v_f1 ((k33 : Int)).toNat))) := hf103
            exact OpX.val u105 wd96 rfl (op_load one_22 e104 (Ext.cell hS100.ext hc106)) (Ext.refl _) rfl
          · refine ObX.op rfl ?_
            intro f108 wd109 he110 hout111 hphi112
            have hS113 : St w wd109 [(Ty.sl (Ty.sl (Ty.i .i64))).at u17 x8, (Ty.sl (Ty.i .i64)).at u43 x34] := St.extend hS51 he110
            have e114 : f108 6 = (Value.int .i64 (k7 : Int)) := (hout111 6 rfl).trans hf47
            exact OpX.val (Value.int .i64 (k7 : Int)) wd109 rfl (op_move e114) (Ext.refl _) ⟨rfl, hr22⟩
          · refine ObX.op rfl ?_
            intro f115 wd116 he117 hout118 hphi119
            have hS120 : St w wd116 [(Ty.sl (Ty.sl (Ty.i .i64))).at u17 x8, (Ty.sl (Ty.i .i64)).at u43 x34] := St.extend hS51 he117
            obtain ⟨S121, hS122, hf123⟩ := hphi119 4 27 _ rfl rfl rfl
            have e124 : f115 27 = u105 := hf123
            obtain ⟨S125, hS126, hf127⟩ := hphi119 5 28 _ rfl rfl rfl
            obtain ⟨e128, hr129⟩ : f115 28 = (Value.int .i64 (k7 : Int)) ∧ InR .i64 (k7 : Int) := hf127
            exact OpX.val (Value.pointer (some (elA u105 ((k7 : Int)).toNat))) wd116 rfl (op_idx sl_22 (Ty.lift _ hS120.ext hr107) e124 e128 ha131 hb132) (Ext.refl _) rfl
          · refine ObX.op rfl ?_
            intro f134 wd135 he136 hout137 hphi138
            have hS139 : St w wd135 [(Ty.sl (Ty.sl (Ty.i .i64))).at u17 x8, (Ty.sl (Ty.i .i64)).at u43 x34] := St.extend hS51 he136
            obtain ⟨S140, hS141, hf142⟩ := hphi138 6 29 _ rfl rfl rfl
            have e143 : f134 29 = (Value.pointer (some (elA u105 ((k7 : Int)).toNat))) := hf142
            exact OpX.val (Value.int .i64 x130) wd135 rfl (op_load one_2 e143 (Ext.cell hS139.ext hc145)) (Ext.refl _) ⟨rfl, hr146⟩
          · refine ObX.op rfl ?_
            intro f147 wd148 he149 hout150 hphi151
            have hS152 : St w wd148 [(Ty.sl (Ty.sl (Ty.i .i64))).at u17 x8, (Ty.sl (Ty.i .i64)).at u43 x34] := St.extend hS51 he149
            have e153 : f147 0 = v_f1 := (hout150 0 rfl).trans hf44
            exact OpX.val v_f1 wd148 rfl (op_move e153) (Ext.refl _) rfl
          · refine ObX.op rfl ?_
            intro f154 wd155 he156 hout157 hphi158
            have hS159 : St w wd155 [(Ty.sl (Ty.sl (Ty.i .i64))).at u17 x8, (Ty.sl (Ty.i .i64)).at u43 x34] := St.extend hS51 he156
            have e160 : f154 6 = (Value.int .i64 (k7 : Int)) := (hout157 6 rfl).trans hf47
            exact OpX.val (Value.int .i64 (k7 : Int)) wd155 rfl (op_move e160) (Ext.refl _) ⟨rfl, hr22⟩
          · refine ObX.op rfl ?_
            intro f161 wd162 he163 hout164 hphi165
            have hS166 : St w wd162 [(Ty.sl (Ty.sl (Ty.i .i64))).at u17 x8, (Ty.sl (Ty.i .i64)).at u43 x34] := St.extend hS51 he163
            obtain ⟨S167, hS168, hf169⟩ := hphi165 8 31 _ rfl rfl rfl
            have e170 : f161 31 = v_f1 := hf169
            obtain ⟨S171, hS172, hf173⟩ := hphi165 9 32 _ rfl rfl rfl
            obtain ⟨e174, hr175⟩ : f161 32 = (Value.int .i64 (k7 : Int)) ∧ InR .i64 (k7 : Int) := hf173
            exact OpX.val (Value.pointer (some (elA v_f1 ((k7 : Int)).toNat))) wd162 rfl (op_idx sl_27 (Ty.lift _ hS166.ext r_f1) e170 e174 ha177 hb178) (Ext.refl _) rfl
          · refine ObX.op rfl ?_
            intro f180 wd181 he182 hout183 hphi184
            have hS185 : St w wd181 [(Ty.sl (Ty.sl (Ty.i .i64))).at u17 x8, (Ty.sl (Ty.i .i64)).at u43 x34] := St.extend hS51 he182
            obtain ⟨S186, hS187, hf188⟩ := hphi184 10 33 _ rfl rfl rfl
            have e189 : f180 33 = (Value.pointer (some (elA v_f1 ((k7 : Int)).toNat))) := hf188
            exact OpX.val u190 wd181 rfl (op_load one_22 e189 (Ext.cell hS185.ext hc191)) (Ext.refl _) rfl
          · refine ObX.op rfl ?_
            intro f193 wd194 he195 hout196 hphi197
            have hS198 : St w wd194 [(Ty.sl (Ty.sl (Ty.i .i64))).at u17 x8, (Ty.sl (Ty.i .i64)).at u43 x34] := St.extend hS51 he195
            have e199 : f193 8 = (Value.int .i64 (k33 : Int)) := (hout196 8 rfl).trans hf49
            exact OpX.val (Value.int .i64 (k33 : Int)) wd194 rfl (op_move e199) (Ext.refl _) ⟨rfl, hr50⟩
          · refine ObX.op rfl ?_
            intro f200 wd201 he202 hout203 hphi204
            have hS205 : St w wd201 [(Ty.sl (Ty.sl (Ty.i .i64))).at u17 x8, (Ty.sl (Ty.i .i64)).at u43 x34] := St.extend hS51 he202
            obtain ⟨S206, hS207, hf208⟩ := hphi204 11 34 _ rfl rfl rfl
            have e209 : f200 34 = u190 := hf208
            obtain ⟨S210, hS211, hf212⟩ := hphi204 12 35 _ rfl rfl rfl
            obtain ⟨e213, hr214⟩ : f200 35 = (Value.int .i64 (k33 : Int)) ∧ InR .i64 (k33 : Int) := hf212
            exact OpX.val (Value.pointer (some (elA u190 ((k33 : Int)).toNat))) wd201 rfl (op_idx sl_22 (Ty.lift _ hS205.ext hr192) e209 e213 ha216 hb217) (Ext.refl _) rfl
          · refine ObX.op rfl ?_
            intro f219 wd220 he221 hout222 hphi223
            have hS224 : St w wd220 [(Ty.sl (Ty.sl (Ty.i .i64))).at u17 x8, (Ty.sl (Ty.i .i64)).at u43 x34] := St.extend hS51 he221
            obtain ⟨S225, hS226, hf227⟩ := hphi223 13 36 _ rfl rfl rfl
            have e228 : f219 36 = (Value.pointer (some (elA u190 ((k33 : Int)).toNat))) := hf227
            exact OpX.val (Value.int .i64 x215) wd220 rfl (op_load one_2 e228 (Ext.cell hS224.ext hc230)) (Ext.refl _) ⟨rfl, hr231⟩
          · refine ObX.op rfl ?_
            intro f232 wd233 he234 hout235 hphi236
            have hS237 : St w wd233 [(Ty.sl (Ty.sl (Ty.i .i64))).at u17 x8, (Ty.sl (Ty.i .i64)).at u43 x34] := St.extend hS51 he234
            obtain ⟨S238, hS239, hf240⟩ := hphi236 7 30 _ rfl rfl rfl
            obtain ⟨e241, hr242⟩ : f232 30 = (Value.int .i64 x130) ∧ InR .i64 x130 := hf240
            obtain ⟨S243, hS244, hf245⟩ := hphi236 14 37 _ rfl rfl rfl
            obtain ⟨e246, hr247⟩ : f232 37 = (Value.int .i64 x215) ∧ InR .i64 x215 := hf245
            exact OpX.val (Value.int .i64 (w64 (x130 - x215))) wd233 rfl (op_sub e241 e246) (Ext.refl _) ⟨rfl, (inR_wrap _ _)⟩
          · refine ObX.op rfl ?_
            intro f248 wd249 he250 hout251 hphi252
            have hS253 : St w wd249 [(Ty.sl (Ty.sl (Ty.i .i64))).at u17 x8, (Ty.sl (Ty.i .i64)).at u43 x34] := St.extend hS51 he250
            have e254 : f248 1 = (Value.int .i64 m) := (hout251 1 rfl).trans hf45
            exact OpX.val (Value.int .i64 m) wd249 rfl (op_move e254) (Ext.refl _) ⟨rfl, r_m⟩
          · refine ObX.op rfl ?_
            intro f255 wd256 he257 hout258 hphi259
            have hS260 : St w wd256 [(Ty.sl (Ty.sl (Ty.i .i64))).at u17 x8, (Ty.sl (Ty.i .i64)).at u43 x34] := St.extend hS51 he257
            obtain ⟨S261, hS262, hf263⟩ := hphi259 15 38 _ rfl rfl rfl
            obtain ⟨e264, hr265⟩ : f255 38 = (Value.int .i64 (w64 (x130 - x215))) ∧ InR .i64 (w64 (x130 - x215)) := hf263
            obtain ⟨S266, hS267, hf268⟩ := hphi259 16 39 _ rfl rfl rfl
            obtain ⟨e269, hr270⟩ : f255 39 = (Value.int .i64 m) ∧ InR .i64 m := hf268
            refine OpX.call rfl (op_call fn_77 (args2 e264 e269)) (Ret.mono (c_spec_l18Mod hr265 hr270 hx272) ?_)
            rintro _ wd274 ⟨rfl, hr273, he275⟩
            exact ⟨he275, _, noS _ _, ⟨rfl, hr273⟩⟩
          · refine ObX.op rfl ?_
            intro f277 wd278 he279 hout280 hphi281
            have hS282 : St w wd278 [(Ty.sl (Ty.sl (Ty.i .i64))).at u17 x8, (Ty.sl (Ty.i .i64)).at u43 x34] := St.extend hS51 he279
            obtain ⟨S283, hS284, hf285⟩ := hphi281 17 40 _ rfl rfl rfl
            obtain ⟨e286, hr287⟩ : f277 40 = (Value.int .i64 x271) ∧ InR .i64 x271 := hf285
            obtain ⟨v288, wd289, ho290, he291, hs292⟩ := mk_litFlat (P := Try.prog) (f := f277) (w := wd278) (T := 22) (m := 1) (ps := #[(0, Operand.tmp 40)]) (us := [(Value.int .i64 x271)]) (t := (Ty.i .i64)) (flat_i .i64) ([x271] : (List Int)) sl_22 rfl (Nat.le_of_ble_eq_true rfl) (fillL rfl ⟨rfl, e286, rfl, trivial⟩) rfl rfl (litL ⟨⟨rfl, hr287⟩, trivial⟩)
            exact OpX.valO v288 wd289 rfl ho290 he291 (Sep.new hs292)
          · intro f293 wd294 Ss295 he296 hout297 hSn298 hSd299 hphi300
            show WL _ _ _ _ _ _ _
            have hS301 : St w wd294 [(Ty.sl (Ty.sl (Ty.i .i64))).at u17 x8, (Ty.sl (Ty.i .i64)).at u43 x34] := St.extend hS51 he296
            have e302 : f293 23 = u43 := hphi300 0 23 _ (by decide) rfl rfl
            have e303 : SepS (Ss295 18) wd294 [(Ty.sl (Ty.i .i64)).at (f293 41) ([x271] : (List Int))] := hphi300 18 41 _ (by decide) rfl rfl
            have e304 : f293 0 = v_f1 := (hout297 0 rfl).trans hf44
            have e305 : f293 1 = (Value.int .i64 m) := (hout297 1 rfl).trans hf45
            have e306 : f293 5 = u17 := (hout297 5 rfl).trans hf46
            have e307 : f293 6 = (Value.int .i64 (k7 : Int)) := (hout297 6 rfl).trans hf47
            have e308 : f293 8 = (Value.int .i64 (k33 : Int)) := (hout297 8 rfl).trans hf49
            have hS309 := St.joinS hS51 he296 hSn298 (SepS.consS hSd299 rfl e303 SepS.nilS)
            replace hS309 : St w wd294 [(Ty.sl (Ty.sl (Ty.i .i64))).at u17 x8, (Ty.sl (Ty.i .i64)).at u43 x34, (Ty.sl (Ty.i .i64)).at (f293 41) ([x271] : (List Int))] := hS309
            obtain ⟨x310, hx311, hb39⟩ := bs hb39
            refine WL.append (flat_i .i64) hS309 (k := 1) rfl sl_22 rfl rfl e302 rfl (St.rep (t := (Ty.sl (Ty.i .i64))) hS309 2 rfl) hx311 rfl ?_
            intro u312 wd313 hS314 hz315
            replace hS314 : St w wd313 [(Ty.sl (Ty.sl (Ty.i .i64))).at u17 x8, (Ty.sl (Ty.i .i64)).at u312 x310, (Ty.sl (Ty.i .i64)).at (f293 41) ([x271] : (List Int))] := hS314
            refine WL.val u312 _ (op_assign rfl) rfl ?_
            refine WL.nil ?_
            show W _ _ _ _ _ _
            refine W.region ?_
            refine WL.val (Value.int .i64 (k33 : Int)) _ (op_move e308) rfl ?_
            refine WL.val (Value.int .i64 (w64 ((k33 : Int) + (1 : Int)))) _ (op_add rfl rfl) rfl ?_
            refine WL.val (Value.int .i64 (w64 ((k33 : Int) + (1 : Int)))) _ (op_assign rfl) rfl ?_
            refine WL.nil ?_
            obtain rfl := Option.some.inj hb39
            show ∃ s, _ = Ctl.next s ∧ _
            exact ⟨_, rfl, u312, e304, e305, e306, e307, rfl, (ctr_next hl53 hr52), (ctr_rng hl53 hr52), (St.pick hS314 [0, 1] rfl)⟩
        · intro x322 f317 wd318 hs319 hI320
          replace hI320 : ∃ (uu0 : Value), f317 0 = v_f1 ∧ f317 1 = (Value.int .i64 m) ∧ f317 5 = u17 ∧ f317 6 = (Value.int .i64 (k7 : Int)) ∧ f317 7 = uu0 ∧ f317 8 = Value.int .i64 (((f1).length : Nat) : Int) ∧ InR .i64 (((f1).length : Nat) : Int) ∧ St w wd318 [(Ty.sl (Ty.sl (Ty.i .i64))).at u17 x8, (Ty.sl (Ty.i .i64)).at uu0 x322] := hI320
          obtain ⟨u323, hf324, hf325, hf326, hf327, hf328, hf329, hr330, hS331⟩ := hI320
          refine W.seq (W.seq (W.region ?_))
          refine WL.val (Value.int .i64 (((f1).length : Nat) : Int)) _ (op_move hf329) rfl ?_
          refine WL.val v_f1 _ (op_move hf324) rfl ?_
          have hr332 := inR_len (Ty.lift _ hS331.ext r_f1)
          refine WL.val (Value.int .i64 ((f1).length : Int)) _ (op_lenL sl_27 (Ty.lift _ hS331.ext r_f1) rfl) rfl ?_
          refine WL.val (Value.bool (decide ((((f1).length : Nat) : Int) < ((f1).length : Int)))) _ (op_lss rfl rfl) rfl ?_
          have hl333 : ¬ (((f1).length : Nat) : Int) < ((f1).length : Int) := by omega
          refine WL.nil ?_
          show W _ _ _ _ _ _
          refine W.condF (decide ((((f1).length : Nat) : Int) < ((f1).length : Int))) rfl (decide_eq_false hl333) ?_
          refine W.exit ?_
          show _ = _ ∧ _
          exact ⟨rfl, _, hs319, u323, hf324, hf325, hf326, hf327, hf328, hS331⟩
      · rintro f334 wd335 ⟨x338, rfl, hq336⟩
        replace hb13 := onRes_fin hb13
        replace hq336 : ∃ (uu0 : Value), f334 0 = v_f1 ∧ f334 1 = (Value.int .i64 m) ∧ f334 5 = u17 ∧ f334 6 = (Value.int .i64 (k7 : Int)) ∧ f334 7 = uu0 ∧ St w wd335 [(Ty.sl (Ty.sl (Ty.i .i64))).at u17 x8, (Ty.sl (Ty.i .i64)).at uu0 x338] := hq336
        obtain ⟨u339, hf340, hf341, hf342, hf343, hf344, hS345⟩ := hq336
        show W _ _ _ _ _ _
        refine W.region ?_
        refine WL.val u17 _ (op_move hf342) rfl ?_
        refine WL.val u339 _ (op_move hf344) rfl ?_
        refine WL.lit [u339] hS345 sl_27 rfl rfl (fillL rfl ⟨rfl, rfl, (cells_rep (St.rep (t := (Ty.sl (Ty.i .i64))) hS345 1 rfl)), trivial⟩) rfl rfl ?_
        intro b350 wd347 hS348 he349 hx351
        replace hS348 : St w wd347 [(Ty.sl (Ty.sl (Ty.i .i64))).at u17 x8, (Ty.sl (Ty.i .i64)).at u339 x338, bx b350 [u339]] := hS348
        obtain ⟨x352, hx353, hb13⟩ := bs hb13
        refine WL.appendRow hS348 (k := 0) (k2 := 1) (k3 := 2) rfl rfl rfl rfl sl_27 rfl rfl rfl rfl hx353 rfl ?_
        intro u354 wd355 hS356 hz357
        replace hS356 : St w wd355 [(Ty.sl (Ty.sl (Ty.i .i64))).at u354 x352, emp, bx b350 [u339]] := hS356
        refine WL.val u354 _ (op_assign rfl) rfl ?_
        refine WL.nil ?_
        show W _ _ _ _ _ _
        refine W.region ?_
        refine WL.val (Value.int .i64 (k7 : Int)) _ (op_move hf343) rfl ?_
        refine WL.val (Value.int .i64 (w64 ((k7 : Int) + (1 : Int)))) _ (op_add rfl rfl) rfl ?_
        refine WL.val (Value.int .i64 (w64 ((k7 : Int) + (1 : Int)))) _ (op_assign rfl) rfl ?_
        refine WL.nil ?_
        obtain rfl := Option.some.inj hb13
        show ∃ s, _ = Ctl.next s ∧ _
        exact ⟨_, rfl, u354, hf340, hf341, rfl, (ctr_next hl25 hr24), (ctr_rng hl25 hr24), (St.pick hS356 [0] rfl)⟩
    · intro x365 f360 wd361 hs362 hI363
      replace hI363 : ∃ (uu0 : Value), f360 0 = v_f1 ∧ f360 1 = (Value.int .i64 m) ∧ f360 5 = uu0 ∧ f360 6 = Value.int .i64 (((f1).length : Nat) : Int) ∧ InR .i64 (((f1).length : Nat) : Int) ∧ St w wd361 [(Ty.sl (Ty.sl (Ty.i .i64))).at uu0 x365] := hI363
      obtain ⟨u366, hf367, hf368, hf369, hf370, hr371, hS372⟩ := hI363
      refine W.seq (W.seq (W.region ?_))
      refine WL.val (Value.int .i64 (((f1).length : Nat) : Int)) _ (op_move hf370) rfl ?_
      refine WL.val v_f1 _ (op_move hf367) rfl ?_
      have hr373 := inR_len (Ty.lift _ hS372.ext r_f1)
      refine WL.val (Value.int .i64 ((f1).length : Int)) _ (op_lenL sl_27 (Ty.lift _ hS372.ext r_f1) rfl) rfl ?_
      refine WL.val (Value.bool (decide ((((f1).length : Nat) : Int) < ((f1).length : Int)))) _ (op_lss rfl rfl) rfl ?_
      have hl374 : ¬ (((f1).length : Nat) : Int) < ((f1).length : Int) := by omega
      refine WL.nil ?_
      show W _ _ _ _ _ _
      refine W.condF (decide ((((f1).length : Nat) : Int) < ((f1).length : Int))) rfl (decide_eq_false hl374) ?_
      refine W.exit ?_
      show _ = _ ∧ _
      exact ⟨rfl, _, hs362, u366, hf369, hS372⟩
  · rintro f375 wd376 ⟨x379, rfl, hq377⟩
    replace h := onRes_fin h
    replace hq377 : ∃ (uu0 : Value), f375 5 = uu0 ∧ St w wd376 [(Ty.sl (Ty.sl (Ty.i .i64))).at uu0 x379] := hq377
    obtain ⟨u380, hf381, hS382⟩ := hq377
    show W _ _ _ _ _ _
    refine W.seq (W.region ?_)
    refine WL.val u380 _ (op_move hf381) rfl ?_
    refine WL.val u380 _ (op_assign rfl) rfl ?_
    refine WL.nil ?_
    show W _ _ _ _ _ _
    refine W.ret ?_
    obtain rfl := Option.some.inj h
    show FinP _ _ _ _ _ _ _
    exact FinP.ret _ (res1 rfl rfl) ⟨u380, rfl, hS382.ext, (St.out (St.pick hS382 [0] rfl) (Ext.refl _))⟩

theorem c_spec_CoboundaryBraiding {w : World} {orders : (List Int)} {v_orders : Value} {m : Int} {f1 : (List (List Int))} {v_f1 : Value} (r_orders : (Ty.sl (Ty.i .i64)).rep w v_orders orders) (r_m : InR .i64 m) (r_f1 : (Ty.sl (Ty.sl (Ty.i .i64))).rep w v_f1 f1) {res : (List Int) × Int × (List (List (List Int))) × (List (List Int)) × Int} (h : p_spec_CoboundaryBraiding orders m f1  = some res) :
    Ret Try.prog 23 #[v_orders, (Value.int .i64 m), v_f1] w (fun v w' => ∃ (u0 : Value) (u2 : Value) (u3 : Value), v = (Value.tuple #[(Value.agg #[u0, Value.int .i64 res.2.1, u2, u3]), Value.int .i64 res.2.2.2.2]) ∧ InR .i64 res.2.1 ∧ InR .i64 res.2.2.2.2 ∧ Ext w w' ∧ Sep w.heap.size w' [(Ty.sl (Ty.i .i64)).at u0 res.1, (Ty.sl (Ty.sl (Ty.sl (Ty.i .i64)))).at u2 res.2.2.1, (Ty.sl (Ty.sl (Ty.i .i64))).at u3 res.2.2.2.1]) := by
  unfold p_spec_CoboundaryBraiding at h
  have hS0 : St w w [] := St.start w
  refine Ret.start (fn := Try.f23) Try.func23 rfl 26 rfl rfl ?_
  refine W.seq (W.region ?_)
  refine WL.alloc hS0 ze_42 (cs := [(Value.slice none 0 0), (Value.int .i64 (0 : Int)), (Value.slice none 0 0), (Value.slice none 0 0)]) rfl rfl ?_
  intro b1 wd2 hS3 he4
  replace hS3 : St w wd2 [bx b1 [(Value.slice none 0 0), (Value.int .i64 (0 : Int)), (Value.slice none 0 0), (Value.slice none 0 0)]] := hS3
  refine WL.val (Value.int .i64 (0 : Int)) _ (op_assign rfl) rfl ?_
  refine WL.nil ?_
  show W _ _ _ _ _ _
  refine W.seq (W.region ?_)
  refine WL.val v_orders _ (op_move rfl) rfl ?_
  refine WL.val (Value.int .i64 m) _ (op_move rfl) rfl ?_
  refine WL.val v_f1 _ (op_move rfl) rfl ?_
  obtain ⟨x5, hx6, h⟩ := bs h
  refine WL.call _ (op_call fn_50 (args3 rfl rfl rfl)) (c_spec_CoboundaryOf (Ty.lift _ hS3.ext r_orders) r_m (Ty.lift _ hS3.ext r_f1) hx6) rfl ?_
  rintro _ wd11 ⟨u7, u9, rfl, hr8, hr10, he12, hs13⟩
  have hS14 := St.join hS3 he12 hs13
  replace hS14 : St w wd11 [bx b1 [(Value.slice none 0 0), (Value.int .i64 (0 : Int)), (Value.slice none 0 0), (Value.slice none 0 0)], (Ty.sl (Ty.i .i64)).at u7 x5.1, (Ty.sl (Ty.sl (Ty.sl (Ty.i .i64)))).at u9 x5.2.2.1] := hS14
  refine WL.val (Value.tuple #[(Value.agg #[u7, (Value.int .i64 x5.2.1), u9]), (Value.int .i64 x5.2.2.2)]) _ (op_move rfl) rfl ?_
  refine WL.val (Value.agg #[u7, (Value.int .i64 x5.2.1), u9]) _ (op_extract rfl rfl) rfl ?_
  refine WL.val (Value.int .i64 x5.2.2.2) _ (op_extract rfl rfl) rfl ?_
  refine WL.alloc hS14 ze_30 (cs := [(Value.slice none 0 0), (Value.int .i64 (0 : Int)), (Value.slice none 0 0)]) rfl rfl ?_
  intro b15 wd16 hS17 he18
  replace hS17 : St w wd16 [bx b1 [(Value.slice none 0 0), (Value.int .i64 (0 : Int)), (Value.slice none 0 0), (Value.slice none 0 0)], (Ty.sl (Ty.i .i64)).at u7 x5.1, (Ty.sl (Ty.sl (Ty.sl (Ty.i .i64)))).at u9 x5.2.2.1, bx b15 [(Value.slice none 0 0), (Value.int .i64 (0 : Int)), (Value.slice none 0 0)]] := hS17
  refine WL.storeBox [u7, (Value.int .i64 x5.2.1), u9] hS17 (k := 3) rfl rfl rfl (us := [u7, (Value.int .i64 x5.2.1), u9]) rfl sz_30 rfl rfl (all_rep (St.rep (t := (Ty.sl (Ty.i .i64))) hS17 1 rfl) (all_cons rfl (all_rep (St.rep (t := (Ty.sl (Ty.sl (Ty.sl (Ty.i .i64))))) hS17 2 rfl) all_nil))) rfl ?_
  intro wd19 hS20
  replace hS20 : St w wd19 [bx b1 [(Value.slice none 0 0), (Value.int .i64 (0 : Int)), (Value.slice none 0 0), (Value.slice none 0 0)], (Ty.sl (Ty.i .i64)).at u7 x5.1, (Ty.sl (Ty.sl (Ty.sl (Ty.i .i64)))).at u9 x5.2.2.1, bx b15 [u7, (Value.int .i64 x5.2.1), u9]] := hS20
  refine WL.val (Value.int .i64 x5.2.2.2) _ (op_assign rfl) rfl ?_
  refine WL.nil ?_
  show W _ _ _ _ _ _
  refine W.seq (W.seq (W.region ?_))
  refine WL.val (Value.int .i64 x5.2.2.2) _ (op_move rfl) rfl ?_
  refine WL.val (Value.bool (x5.2.2.2 != (0 : Int))) _ (op_neq rfl rfl) rfl ?_
  refine WL.nil ?_
  show W _ _ _ _ _ _
  refine W.cond (x5.2.2.2 != (0 : Int)) rfl (fun hc21 => ?_) (fun hc21 => ?_)
  · replace h := ip h hc21
    refine W.seq (W.region ?_)
    refine WL.val (Value.agg #[(Value.slice none 0 0), (Value.int .i64 (0 : Int)), (Value.slice none 0 0), (Value.slice none 0 0)]) _ (op_build bd_42 (parts := []) (partsL trivial) trivial rfl) rfl ?_
    refine WL.val (Value.int .i64 x5.2.2.2) _ (op_move rfl) rfl ?_
    have hS25 := St.addNil (Ty.i .i64) hS20
    replace hS25 : St w wd19 [bx b1 [(Value.slice none 0 0), (Value.int .i64 (0 : Int)), (Value.slice none 0 0), (Value.slice none 0 0)], (Ty.sl (Ty.i .i64)).at u7 x5.1, (Ty.sl (Ty.sl (Ty.sl (Ty.i .i64)))).at u9 x5.2.2.1, bx b15 [u7, (Value.int .i64 x5.2.1), u9], (Ty.sl (Ty.i .i64)).at (Value.slice none 0 0) ([] : (List Int))] := hS25
    have hS26 := St.addNil (Ty.sl (Ty.sl (Ty.i .i64))) hS25
    replace hS26 : St w wd19 [bx b1 [(Value.slice none 0 0), (Value.int .i64 (0 : Int)), (Value.slice none 0 0), (Value.slice none 0 0)], (Ty.sl (Ty.i .i64)).at u7 x5.1, (Ty.sl (Ty.sl (Ty.sl (Ty.i .i64)))).at u9 x5.2.2.1, bx b15 [u7, (Value.int .i64 x5.2.1), u9], (Ty.sl (Ty.i .i64)).at (Value.slice none 0 0) ([] : (List Int)), (Ty.sl (Ty.sl (Ty.sl (Ty.i .i64)))).at (Value.slice none 0 0) ([] : (List (List (List Int))))] := hS26
    have hS27 := St.addNil (Ty.sl (Ty.i .i64)) hS26
    replace hS27 : St w wd19 [bx b1 [(Value.slice none 0 0), (Value.int .i64 (0 : Int)), (Value.slice none 0 0), (Value.slice none 0 0)], (Ty.sl (Ty.i .i64)).at u7 x5.1, (Ty.sl (Ty.sl (Ty.sl (Ty.i .i64)))).at u9 x5.2.2.1, bx b15 [u7, (Value.int .i64 x5.2.1), u9], (Ty.sl (Ty.i .i64)).at (Value.slice none 0 0) ([] : (List Int)), (Ty.sl (Ty.sl (Ty.sl (Ty.i .i64)))).at (Value.slice none 0 0) ([] : (List (List (List Int)))), (Ty.sl (Ty.sl (Ty.i .i64))).at (Value.slice none 0 0) ([] : (List (List Int)))] := hS27
    refine WL.storeBox [(Value.slice none 0 0), (Value.int .i64 (0 : Int)), (Value.slice none 0 0), (Value.slice none 0 0)] hS27 (k := 0) rfl rfl rfl (us := [(Value.slice none 0 0), (Value.int .i64 (0 : Int)), (Value.slice none 0 0), (Value.slice none 0 0)]) rfl sz_42 rfl rfl (all_rep (St.rep (t := (Ty.sl (Ty.i .i64))) hS27 4 rfl) (all_cons rfl (all_rep (St.rep (t := (Ty.sl (Ty.sl (Ty.sl (Ty.i .i64))))) hS27 5 rfl) (all_rep (St.rep (t := (Ty.sl (Ty.sl (Ty.i .i64)))) hS27 6 rfl) all_nil)))) rfl ?_
    intro wd23 hS24
    replace hS24 : St w wd23 [bx b1 [(Value.slice none 0 0), (Value.int .i64 (0 : Int)), (Value.slice none 0 0), (Value.slice none 0 0)], (Ty.sl (Ty.i .i64)).at u7 x5.1, (Ty.sl (Ty.sl (Ty.sl (Ty.i .i64)))).at u9 x5.2.2.1, bx b15 [u7, (Value.int .i64 x5.2.1), u9], (Ty.sl (Ty.i .i64)).at (Value.slice none 0 0) ([] : (List Int)), (Ty.sl (Ty.sl (Ty.sl (Ty.i .i64)))).at (Value.slice none 0 0) ([] : (List (List (List Int)))), (Ty.sl (Ty.sl (Ty.i .i64))).at (Value.slice none 0 0) ([] : (List (List Int)))] := hS24
    refine WL.val (Value.int .i64 x5.2.2.2) _ (op_assign rfl) rfl ?_
    refine WL.nil ?_
    show W _ _ _ _ _ _
    refine W.ret ?_
    obtain rfl := Option.some.inj h
    show FinP _ _ _ _ _ _ _
    exact FinP.ret _ (resCT rfl rfl st_42 (St.boxAt hS24 0 rfl) rfl rfl) ⟨(Value.slice none 0 0), (Value.slice none 0 0), (Value.slice none 0 0), rfl, (inR_i64.2 (show (-9223372036854775808 : Int) ≤ 0 ∧ (0 : Int) ≤ 9223372036854775807 from by decide)), hr10, hS24.ext, (St.out (St.pick hS24 [4, 5, 6] rfl) (Ext.refl _))⟩
  · replace h := inegb h hc21
    refine W.skip ?_
    show W _ _ _ _ _ _
    refine W.seq ?_
    obtain ⟨x64, hx65, h⟩ := bs h
    refine W.drawR mixo 4 [] [fun _ v S w' => v = (Value.agg #[u7, (Value.int .i64 x5.2.1), u9]) ∧ InR .i64 x5.2.1, fun _ v _ _ => v = v_f1, fun _ v _ _ => v = (Value.int .i64 m) ∧ InR .i64 m, fun _ v S w' => SepS S w' [(Ty.sl (Ty.sl (Ty.i .i64))).at v x64]] (by kernel_rfl) (by kernel_rfl) ⟨⟨fun _ _ _ _ _ he ⟨h0, h1⟩ => ⟨h0, h1⟩, fun _ _ _ _ _ _ h => h⟩, ⟨fun _ _ _ _ _ _ h => h, fun _ _ _ _ _ _ h => h⟩, ⟨fun _ _ _ _ _ _ h => h, fun _ _ _ _ _ _ h => h⟩, ⟨fun _ _ _ _ _ he h => SepS.extend he h, fun _ _ _ _ _ _ h => h⟩, trivial⟩ ⟨?_, ?_, ?_, ?_, trivial⟩ ?_
    · refine ObX.op rfl ?_
      intro f28 wd29 he30 hout31 hphi32
      have hS33 : St w wd29 [bx b1 [(Value.slice none 0 0), (Value.int .i64 (0 : Int)), (Value.slice none 0 0), (Value.slice none 0 0)], (Ty.sl (Ty.i .i64)).at u7 x5.1, (Ty.sl (Ty.sl (Ty.sl (Ty.i .i64)))).at u9 x5.2.2.1, bx b15 [u7, (Value.int .i64 x5.2.1), u9]] := St.extend hS20 he30
      have e34 : f28 8 = (Value.pointer (some ⟨b15, 0, none⟩)) := (hout31 8 rfl).trans rfl
      exact OpX.val (Value.agg #[u7, (Value.int .i64 x5.2.1), u9]) wd29 rfl (op_loadBox st_30 e34 (St.boxAt hS33 3 rfl) rfl rfl) (Ext.refl _) ⟨rfl, hr8⟩
    · refine ObX.op rfl ?_
      intro f35 wd36 he37 hout38 hphi39
      have hS40 : St w wd36 [bx b1 [(Value.slice none 0 0), (Value.int .i64 (0 : Int)), (Value.slice none 0 0), (Value.slice none 0 0)], (Ty.sl (Ty.i .i64)).at u7 x5.1, (Ty.sl (Ty.sl (Ty.sl (Ty.i .i64)))).at u9 x5.2.2.1, bx b15 [u7, (Value.int .i64 x5.2.1), u9]] := St.extend hS20 he37
      have e41 : f35 2 = v_f1 := (hout38 2 rfl).trans rfl
      exact OpX.val v_f1 wd36 rfl (op_move e41) (Ext.refl _) rfl
    · refine ObX.op rfl ?_
      intro f42 wd43 he44 hout45 hphi46
      have hS47 : St w wd43 [bx b1 [(Value.slice none 0 0), (Value.int .i64 (0 : Int)), (Value.slice none 0 0), (Value.slice none 0 0)], (Ty.sl (Ty.i .i64)).at u7 x5.1, (Ty.sl (Ty.sl (Ty.sl (Ty.i .i64)))).at u9 x5.2.2.1, bx b15 [u7, (Value.int .i64 x5.2.1), u9]] := St.extend hS20 he44
      have e48 : f42 1 = (Value.int .i64 m) := (hout45 1 rfl).trans rfl
      exact OpX.val (Value.int .i64 m) wd43 rfl (op_move e48) (Ext.refl _) ⟨rfl, r_m⟩
    · refine ObX.op rfl ?_
      intro f49 wd50 he51 hout52 hphi53
      have hS54 : St w wd50 [bx b1 [(Value.slice none 0 0), (Value.int .i64 (0 : Int)), (Value.slice none 0 0), (Value.slice none 0 0)], (Ty.sl (Ty.i .i64)).at u7 x5.1, (Ty.sl (Ty.sl (Ty.sl (Ty.i .i64)))).at u9 x5.2.2.1, bx b15 [u7, (Value.int .i64 x5.2.1), u9]] := St.extend hS20 he51
      obtain ⟨S55, hS56, hf57⟩ := hphi53 1 22 _ rfl rfl rfl
      have e58 : f49 22 = v_f1 := hf57
      obtain ⟨S59, hS60, hf61⟩ := hphi53 2 23 _ rfl rfl rfl
      obtain ⟨e62, hr63⟩ : f49 23 = (Value.int .i64 m) ∧ InR .i64 m := hf61
      refine OpX.call rfl (op_call fn_51 (args2 e58 e62)) (Ret.mono (c_spec_l18Turn (Ty.lift _ hS54.ext r_f1) hr63 hx65) ?_)
      rintro u66 wd67 ⟨_, rfl, he68, hs69⟩
      exact ⟨he68, _, newS _ _, (Sep.new hs69)⟩
    · intro f70 wd71 Ss72 he73 hout74 hSn75 hSd76 hphi77
      show WL _ _ _ _ _ _ _
      have hS78 : St w wd71 [bx b1 [(Value.slice none 0 0), (Value.int .i64 (0 : Int)), (Value.slice none 0 0), (Value.slice none 0 0)], (Ty.sl (Ty.i .i64)).at u7 x5.1, (Ty.sl (Ty.sl (Ty.sl (Ty.i .i64)))).at u9 x5.2.2.1, bx b15 [u7, (Value.int .i64 x5.2.1), u9]] := St.extend hS20 he73
      obtain ⟨e79, hr80⟩ := hphi77 0 21 _ (by decide) rfl rfl
      have e81 : SepS (Ss72 3) wd71 [(Ty.sl (Ty.sl (Ty.i .i64))).at (f70 24) x64] := hphi77 3 24 _ (by decide) rfl rfl
      have e82 : f70 6 = (Value.pointer (some ⟨b1, 0, none⟩)) := (hout74 6 rfl).trans rfl
      have hS83 := St.joinS hS20 he73 hSn75 (SepS.consS hSd76 rfl e81 SepS.nilS)
      replace hS83 : St w wd71 [bx b1 [(Value.slice none 0 0), (Value.int .i64 (0 : Int)), (Value.slice none 0 0), (Value.slice none 0 0)], (Ty.sl (Ty.i .i64)).at u7 x5.1, (Ty.sl (Ty.sl (Ty.sl (Ty.i .i64)))).at u9 x5.2.2.1, bx b15 [u7, (Value.int .i64 x5.2.1), u9], (Ty.sl (Ty.sl (Ty.i .i64))).at (f70 24) x64] := hS83
      refine WL.val (Value.agg #[u7, (Value.int .i64 x5.2.1), u9, (f70 24)]) _ (op_build bd_42 (parts := [(0, (Value.agg #[u7, (Value.int .i64 x5.2.1), u9]), [u7, (Value.int .i64 x5.2.1), u9]), (1, (f70 24), [(f70 24)])]) (partsL ⟨rfl, e79, rfl, rfl, trivial⟩) ⟨rfl, (cells_rep (St.rep (t := (Ty.sl (Ty.sl (Ty.i .i64)))) hS83 4 rfl)), trivial⟩ rfl) rfl ?_
      refine WL.storeBox [u7, (Value.int .i64 x5.2.1), u9, (f70 24)] hS83 (k := 0) rfl e82 rfl (us := [u7, (Value.int .i64 x5.2.1), u9, (f70 24)]) rfl sz_42 rfl rfl (all_rep (St.rep (t := (Ty.sl (Ty.i .i64))) hS83 1 rfl) (all_cons rfl (all_rep (St.rep (t := (Ty.sl (Ty.sl (Ty.sl (Ty.i .i64))))) hS83 2 rfl) (all_rep (St.rep (t := (Ty.sl (Ty.sl (Ty.i .i64)))) hS83 4 rfl) all_nil)))) rfl ?_
      intro wd84 hS85
      replace hS85 : St w wd84 [bx b1 [u7, (Value.int .i64 x5.2.1), u9, (f70 24)], (Ty.sl (Ty.i .i64)).at u7 x5.1, (Ty.sl (Ty.sl (Ty.sl (Ty.i .i64)))).at u9 x5.2.2.1, bx b15 [u7, (Value.int .i64 x5.2.1), u9], (Ty.sl (Ty.sl (Ty.i .i64))).at (f70 24) x64] := hS85
      refine WL.val (Value.int .i64 (0 : Int)) _ (op_assign rfl) rfl ?_
      refine WL.nil ?_
      show W _ _ _ _ _ _
      refine W.ret ?_
      obtain rfl := Option.some.inj h
      show FinP _ _ _ _ _ _ _
      exact FinP.ret _ (resCT rfl e82 st_42 (St.boxAt hS85 0 rfl) rfl rfl) ⟨u7, u9, (f70 24), rfl, hr80, (inR_i64.2 (show (-9223372036854775808 : Int) ≤ 0 ∧ (0 : Int) ≤ 9223372036854775807 from by decide)), hS85.ext, (St.out (St.pick hS85 [1, 2, 4] rfl) (Ext.refl _))⟩

theorem c_impl_ordersCode {w : World} {orders : (List Int)} {v_orders : Value} {most : Int} (r_orders : (Ty.sl (Ty.i .i64)).rep w v_orders orders) (r_most : InR .i64 most) {res : Int} (h : p_impl_ordersCode orders most  = some res) :
    Ret Try.prog 78 #[v_orders, (Value.int .i64 most)] w (fun v w' => v = Value.int .i64 res ∧ InR .i64 res ∧ Ext w w') := by
  unfold p_impl_ordersCode at h
  have hS0 : St w w [] := St.start w
  refine Ret.start (fn := Try.f78) Try.func78 rfl 13 rfl rfl ?_
  refine W.seq (W.region ?_)
  refine WL.val (Value.int .i64 (0 : Int)) _ (op_assign rfl) rfl ?_
  refine WL.nil ?_
  show W _ _ _ _ _ _
  refine W.seq (W.region ?_)
  refine WL.val v_orders _ (op_move rfl) rfl ?_
  obtain ⟨x1, hx2, h⟩ := bs h
  refine WL.call _ (op_call fn_80 (args1 rfl)) (c_impl_groupSize (Ty.lift _ hS0.ext r_orders) hx2) rfl ?_
  rintro _ wd4 ⟨rfl, hr3, he5⟩
  have hS7 := St.extend hS0 he5
  replace hS7 : St w wd4 [] := hS7
  refine WL.val (Value.int .i64 x1) _ (op_assign rfl) rfl ?_
  refine WL.nil ?_
  show W _ _ _ _ _ _
  refine W.seq (W.seq (W.region ?_))
  refine WL.val (Value.int .i64 x1) _ (op_move rfl) rfl ?_
  refine WL.val (Value.bool (x1 == (0 : Int))) _ (op_eql rfl rfl) rfl ?_
  refine WL.nil ?_
  show W _ _ _ _ _ _
  refine W.cond (x1 == (0 : Int)) rfl (fun hc8 => ?_) (fun hc8 => ?_)
  · replace h := ip h hc8
    refine W.seq (W.region ?_)
    refine WL.val (Value.int .i64 (1 : Int)) _ (op_assign rfl) rfl ?_
    refine WL.nil ?_
    show W _ _ _ _ _ _
    refine W.ret ?_
    obtain rfl := Option.some.inj h
    show FinP _ _ _ _ _ _ _
    exact FinP.ret _ (res1 rfl rfl) ⟨rfl, (inR_i64.2 (show (-9223372036854775808 : Int) ≤ 1 ∧ (1 : Int) ≤ 9223372036854775807 from by decide)), hS7.ext⟩
  · replace h := inegb h hc8
    refine W.skip ?_
    show W _ _ _ _ _ _
    refine W.seq (W.seq (W.region ?_))
    refine WL.val (Value.int .i64 x1) _ (op_move rfl) rfl ?_
    refine WL.val (Value.int .i64 most) _ (op_move rfl) rfl ?_
    refine WL.val (Value.bool (decide (x1 > most))) _ (op_gtr rfl rfl) rfl ?_
    refine WL.nil ?_
    show W _ _ _ _ _ _
    refine W.cond (decide (x1 > most)) rfl (fun hc10 => ?_) (fun hc10 => ?_)
    · replace h := ip h hc10
      refine W.seq (W.region ?_)
      refine WL.val (Value.int .i64 (3 : Int)) _ (op_assign rfl) rfl ?_
      refine WL.nil ?_
      show W _ _ _ _ _ _
      refine W.ret ?_
      obtain rfl := Option.some.inj h
      show FinP _ _ _ _ _ _ _
      exact FinP.ret _ (res1 rfl rfl) ⟨rfl, (inR_i64.2 (show (-9223372036854775808 : Int) ≤ 3 ∧ (3 : Int) ≤ 9223372036854775807 from by decide)), hS7.ext⟩
    · replace h := inegb h hc10
      refine W.skip ?_
      show W _ _ _ _ _ _
      refine W.seq (W.region ?_)
      refine WL.val (Value.int .i64 (0 : Int)) _ (op_assign rfl) rfl ?_
      refine WL.nil ?_
      show W _ _ _ _ _ _
      refine W.ret ?_
      obtain rfl := Option.some.inj h
      show FinP _ _ _ _ _ _ _
      exact FinP.ret _ (res1 rfl rfl) ⟨rfl, (inR_i64.2 (show (-9223372036854775808 : Int) ≤ 0 ∧ (0 : Int) ≤ 9223372036854775807 from by decide)), hS7.ext⟩

theorem c_impl_pairingCode {w : World} {orders : (List Int)} {v_orders : Value} {m : Int} {f1 : (List (List Int))} {v_f1 : Value} (r_orders : (Ty.sl (Ty.i .i64)).rep w v_orders orders) (r_m : InR .i64 m) (r_f1 : (Ty.sl (Ty.sl (Ty.i .i64))).rep w v_f1 f1) {res : Int} (h : p_impl_pairingCode orders m f1  = some res) :
    Ret Try.prog 52 #[v_orders, (Value.int .i64 m), v_f1] w (fun v w' => v = Value.int .i64 res ∧ InR .i64 res ∧ Ext w w') := by
  unfold p_impl_pairingCode at h
  have hS0 : St w w [] := St.start w
  refine Ret.start (fn := Try.f52) Try.func52 rfl 24 rfl rfl ?_
  refine W.seq (W.region ?_)
  refine WL.val (Value.int .i64 (0 : Int)) _ (op_assign rfl) rfl ?_
  refine WL.nil ?_
  show W _ _ _ _ _ _
  refine W.seq (W.seq (W.region ?_))
  refine WL.val v_orders _ (op_move rfl) rfl ?_
  obtain ⟨x1, hx2, h⟩ := bs h
  refine WL.call _ (op_call fn_78 (args2 rfl rfl)) (c_impl_ordersCode (Ty.lift _ hS0.ext r_orders) (inR_i64.2 (show (-9223372036854775808 : Int) ≤ 8 ∧ (8 : Int) ≤ 9223372036854775807 from by decide)) hx2) rfl ?_
  rintro _ wd4 ⟨rfl, hr3, he5⟩
  have hS7 := St.extend hS0 he5
  replace hS7 : St w wd4 [] := hS7
  refine WL.val (Value.int .i64 x1) _ (op_assign rfl) rfl ?_
  refine WL.nil ?_
  show W _ _ _ _ _ _
  refine W.seq (W.region ?_)
  refine WL.val (Value.int .i64 x1) _ (op_move rfl) rfl ?_
  refine WL.val (Value.bool (x1 != (0 : Int))) _ (op_neq rfl rfl) rfl ?_
  refine WL.nil ?_
  show W _ _ _ _ _ _
  refine W.cond (x1 != (0 : Int)) rfl (fun hc8 => ?_) (fun hc8 => ?_)
  · replace h := ip h hc8
    refine W.seq (W.region ?_)
    refine WL.val (Value.int .i64 x1) _ (op_move rfl) rfl ?_
    refine WL.val (Value.int .i64 x1) _ (op_assign rfl) rfl ?_
    refine WL.nil ?_
    show W _ _ _ _ _ _
    refine W.ret ?_
    obtain rfl := Option.some.inj h
    show FinP _ _ _ _ _ _ _
    exact FinP.ret _ (res1 rfl rfl) ⟨rfl, hr3, hS7.ext⟩
  · replace h := inegb h hc8
    refine W.skip ?_
    show W _ _ _ _ _ _
    refine W.seq (W.seq (W.region ?_))
    refine WL.val (Value.int .i64 m) _ (op_move rfl) rfl ?_
    obtain ⟨x10, hx11, h⟩ := bs h
    refine WL.call _ (op_call fn_79 (args1 rfl)) (c_impl_isModulus r_m hx11) rfl ?_
    rintro _ wd12 ⟨rfl, he13⟩
    have hS15 := St.extend hS7 he13
    replace hS15 : St w wd12 [] := hS15
    refine WL.val (Value.bool (!x10)) _ (op_not rfl) rfl ?_
    refine WL.val (Value.bool (!x10)) _ (op_move rfl) rfl ?_
    obtain ⟨x17, hj18, h⟩ := bs h
    refine WL.cut 7 (fun fq wq => fq 23 = Value.bool x17 ∧ St w wq []) ?_ ?_
    · rcases Bool.eq_false_or_eq_true (!x10) with hc16 | hc16
      · replace hj18 := ip hj18 hc16
        refine WL.gskip rfl (bool_of rfl hc16) rfl ?_
        refine WL.gskip rfl (bool_of rfl hc16) rfl ?_
        refine WL.gskip rfl (bool_of rfl hc16) rfl ?_
        refine WL.gskip rfl (bool_of rfl hc16) rfl ?_
        refine WL.gskip rfl (bool_of rfl hc16) rfl ?_
        refine WL.gskip rfl (bool_of rfl hc16) rfl ?_
        refine WL.val (Value.bool true) _ (op_pick_t (evb_of rfl hc16) rfl) rfl ?_
        refine WL.nil ?_
        obtain rfl := Option.some.inj hj18
        exact ⟨rfl, rfl, hS15⟩
      · replace hj18 := inegb hj18 hc16
        refine WL.grun rfl (bool_of rfl hc16) ?_
        refine WL.val v_f1 _ (op_move rfl) rfl ?_
        refine WL.grun rfl (bool_of rfl hc16) ?_
        refine WL.val v_orders _ (op_move rfl) rfl ?_
        refine WL.grun rfl (bool_of rfl hc16) ?_
        obtain ⟨x22, hx23, hj18⟩ := bs hj18
        refine WL.call _ (op_call fn_80 (args1 rfl)) (c_impl_groupSize (Ty.lift _ hS15.ext r_orders) hx23) rfl ?_
        rintro _ wd25 ⟨rfl, hr24, he26⟩
        have hS28 := St.extend hS15 he26
        replace hS28 : St w wd25 [] := hS28
        refine WL.grun rfl (bool_of rfl hc16) ?_
        refine WL.val (Value.int .i64 m) _ (op_move rfl) rfl ?_
        refine WL.grun rfl (bool_of rfl hc16) ?_
        obtain ⟨x29, hx30, hj18⟩ := bs hj18
        refine WL.call _ (op_call fn_71 (args3 rfl rfl rfl)) (c_impl_isPairing (Ty.lift _ hS28.ext r_f1) hr24 r_m hx30) rfl ?_
        rintro _ wd31 ⟨rfl, he32⟩
        have hS34 := St.extend hS28 he32
        replace hS34 : St w wd31 [] := hS34
        refine WL.grun rfl (bool_of rfl hc16) ?_
        refine WL.val (Value.bool (!x29)) _ (op_not rfl) rfl ?_
        refine WL.val (Value.bool (!x29)) _ (op_pick_f (evb_of rfl hc16) rfl) rfl ?_
        refine WL.nil ?_
        obtain rfl := Option.some.inj hj18
        exact ⟨rfl, rfl, hS34⟩
    · intro f19 wd20 hq21
      obtain ⟨hf35, hS36⟩ := hq21
      refine WL.nil ?_
      show W _ _ _ _ _ _
      refine W.cond x17 hf35 (fun hc37 => ?_) (fun hc37 => ?_)
      · replace h := ip h hc37
        refine W.seq (W.region ?_)
        refine WL.val (Value.int .i64 (2 : Int)) _ (op_assign rfl) rfl ?_
        refine WL.nil ?_
        show W _ _ _ _ _ _
        refine W.ret ?_
        obtain rfl := Option.some.inj h
        show FinP _ _ _ _ _ _ _
        exact FinP.ret _ (res1 rfl rfl) ⟨rfl, (inR_i64.2 (show (-9223372036854775808 : Int) ≤ 2 ∧ (2 : Int) ≤ 9223372036854775807 from by decide)), hS36.ext⟩
      · replace h := inegb h hc37
        refine W.skip ?_
        show W _ _ _ _ _ _
        refine W.seq (W.region ?_)
        refine WL.val (Value.int .i64 (0 : Int)) _ (op_assign rfl) rfl ?_
        refine WL.nil ?_
        show W _ _ _ _ _ _
        refine W.ret ?_
        obtain rfl := Option.some.inj h
        show FinP _ _ _ _ _ _ _
        exact FinP.ret _ (res1 rfl rfl) ⟨rfl, (inR_i64.2 (show (-9223372036854775808 : Int) ≤ 0 ∧ (0 : Int) ≤ 9223372036854775807 from by decide)), hS36.ext⟩

theorem c_impl_coboundary_c1 {w : World} {x : Int} {y : Int} {z : Int} {b_c0 : Nat} {c0 : (List (List Int))} {v_c0 : Value} {b_c1 : Nat} {c1_Orders : (List Int)} {v_c1_Orders : Value} {c1_Modulus : Int} {c1_Values : (List (List (List Int)))} {v_c1_Values : Value} (r_x : InR .i64 x) (r_y : InR .i64 y) (r_z : InR .i64 z) (k_c0 : BoxAt w b_c0 [v_c0]) (r_c0 : (Ty.sl (Ty.sl (Ty.i .i64))).rep w v_c0 c0) (k_c1 : BoxAt w b_c1 [v_c1_Orders, (Value.int .i64 c1_Modulus), v_c1_Values]) (r_c1_Orders : (Ty.sl (Ty.i .i64)).rep w v_c1_Orders c1_Orders) (r_c1_Modulus : InR .i64 c1_Modulus) (r_c1_Values : (Ty.sl (Ty.sl (Ty.sl (Ty.i .i64)))).rep w v_c1_Values c1_Values) {res : Int} (h : p_impl_coboundary_c1 x y z c0 c1_Orders c1_Modulus c1_Values = some res) :
    Ret Try.prog 82 #[(Value.int .i64 x), (Value.int .i64 y), (Value.int .i64 z), (Value.pointer (some ⟨b_c0, 0, none⟩)), (Value.pointer (some ⟨b_c1, 0, none⟩))] w (fun v w' => v = Value.int .i64 res ∧ InR .i64 res ∧ Ext w w') := by
  unfold p_impl_coboundary_c1 at h
  have hS0 : St w w [] := St.start w
  refine Ret.start (fn := Try.f82) Try.func82 rfl 46 rfl rfl ?_
  refine W.seq (W.region ?_)
  refine WL.val (Value.int .i64 (0 : Int)) _ (op_assign rfl) rfl ?_
  refine WL.nil ?_
  show W _ _ _ _ _ _
  refine W.seq ?_
  obtain ⟨x30, hx33, h⟩ := bs h
  obtain ⟨ha31, hb32, hx33⟩ := idx_some hx33
  obtain ⟨u44, hc45, hr46⟩ := repSl.el r_c0 hx33
  obtain ⟨x69, hx72, h⟩ := bs h
  obtain ⟨ha70, hb71, hx72⟩ := idx_some hx72
  obtain ⟨u83, hc84, hr85⟩ := repSl.el hr46 hx72
  obtain ⟨rfl, hr85⟩ := hr85
  obtain ⟨x135, hx136, h⟩ := bs h
  obtain ⟨x156, hx159, h⟩ := bs h
  obtain ⟨ha157, hb158, hx159⟩ := idx_some hx159
  obtain ⟨u170, hc171, hr172⟩ := repSl.el r_c0 hx159
  obtain ⟨x195, hx198, h⟩ := bs h
  obtain ⟨ha196, hb197, hx198⟩ := idx_some hx198
  obtain ⟨u209, hc210, hr211⟩ := repSl.el hr172 hx198
  obtain ⟨rfl, hr211⟩ := hr211
  obtain ⟨x257, hx260, h⟩ := bs h
  obtain ⟨ha258, hb259, hx260⟩ := idx_some hx260
  obtain ⟨u271, hc272, hr273⟩ := repSl.el r_c0 hx260
  obtain ⟨x316, hx317, h⟩ := bs h
  obtain ⟨x337, hx340, h⟩ := bs h
  obtain ⟨ha338, hb339, hx340⟩ := idx_some hx340
  obtain ⟨u351, hc352, hr353⟩ := repSl.el hr273 hx340
  obtain ⟨rfl, hr353⟩ := hr353
  obtain ⟨u409, hc410, hr411⟩ := repSl.el r_c0 hx260
  obtain ⟨x434, hx437, h⟩ := bs h
  obtain ⟨ha435, hb436, hx437⟩ := idx_some hx437
  obtain ⟨u448, hc449, hr450⟩ := repSl.el hr411 hx437
  obtain ⟨rfl, hr450⟩ := hr450
  refine W.drawR mixo 36 [] [fun _ v _ _ => v = v_c0, fun _ v _ _ => v = (Value.int .i64 y) ∧ InR .i64 y, fun _ v _ _ => v = (Value.pointer (some (elA v_c0 (y).toNat))), fun _ v _ _ => v = u44, fun _ v _ _ => v = (Value.int .i64 z) ∧ InR .i64 z, fun _ v _ _ => v = (Value.pointer (some (elA u44 (z).toNat))), fun _ v _ _ => v = (Value.int .i64 x69) ∧ InR .i64 x69, fun _ v _ _ => v = v_c0, fun _ v S w' => v = (Value.agg #[v_c1_Orders, (Value.int .i64 c1_Modulus), v_c1_Values]) ∧ InR .i64 c1_Modulus, fun _ v _ _ => v = (Value.int .i64 x) ∧ InR .i64 x, fun _ v _ _ => v = (Value.int .i64 y) ∧ InR .i64 y, fun _ v _ _ => v = (Value.int .i64 x135) ∧ InR .i64 x135, fun _ v _ _ => v = (Value.pointer (some (elA v_c0 (x135).toNat))), fun _ v _ _ => v = u170, fun _ v _ _ => v = (Value.int .i64 z) ∧ InR .i64 z, fun _ v _ _ => v = (Value.pointer (some (elA u170 (z).toNat))), fun _ v _ _ => v = (Value.int .i64 x195) ∧ InR .i64 x195, fun _ v _ _ => v = (Value.int .i64 (w64 (x69 - x195))) ∧ InR .i64 (w64 (x69 - x195)), fun _ v _ _ => v = v_c0, fun _ v _ _ => v = (Value.int .i64 x) ∧ InR .i64 x, fun _ v _ _ => v = (Value.pointer (some (elA v_c0 (x).toNat))), fun _ v _ _ => v = u271, fun _ v S w' => v = (Value.agg #[v_c1_Orders, (Value.int .i64 c1_Modulus), v_c1_Values]) ∧ InR .i64 c1_Modulus, fun _ v _ _ => v = (Value.int .i64 y) ∧ InR .i64 y, fun _ v _ _ => v = (Value.int .i64 z) ∧ InR .i64 z, fun _ v _ _ => v = (Value.int .i64 x316) ∧ InR .i64 x316, fun _ v _ _ => v = (Value.pointer (some (elA u271 (x316).toNat))), fun _ v _ _ => v = (Value.int .i64 x337) ∧ InR .i64 x337, fun _ v _ _ => v = (Value.int .i64 (w64 ((w64 (x69 - x195)) + x337))) ∧ InR .i64 (w64 ((w64 (x69 - x195)) + x337)), fun _ v _ _ => v = v_c0, fun _ v _ _ => v = (Value.int .i64 x) ∧ InR .i64 x, fun _ v _ _ => v = (Value.pointer (some (elA v_c0 (x).toNat))), fun _ v _ _ => v = u409, fun _ v _ _ => v = (Value.int .i64 y) ∧ InR .i64 y, fun _ v _ _ => v = (Value.pointer (some (elA u409 (y).toNat))), fun _ v _ _ => v = (Value.int .i64 x434) ∧ InR .i64 x434] (by kernel_rfl) (by kernel_rfl) ⟨⟨fun _ _ _ _ _ _ h => h, fun _ _ _ _ _ _ h => h⟩, ⟨fun _ _ _ _ _ _ h => h, fun _ _ _ _ _ _ h => h⟩, ⟨fun _ _ _ _ _ _ h => h, fun _ _ _ _ _ _ h => h⟩, ⟨fun _ _ _ _ _ _ h => h, fun _ _ _ _ _ _ h => h⟩, ⟨fun _ _ _ _ _ _ h => h, fun _ _ _ _ _ _ h => h⟩, ⟨fun _ _ _ _ _ _ h => h, fun _ _ _ _ _ _ h => h⟩, ⟨fun _ _ _ _ _ _ h => h, fun _ _ _ _ _ _ h => h⟩, ⟨fun _ _ _ _ _ _ h => h, fun _ _ _ _ _ _ h => h⟩, ⟨fun _ _ _ _ _ he ⟨h0, h1⟩ => ⟨h0, h1⟩, fun _ _ _ _ _ _ h => h⟩, ⟨fun _ _ _ _ _ _ h => h, fun _ _ _ _ _ _ h => h⟩, ⟨fun _ _ _ _ _ _ h => h, fun _ _ _ _ _ _ h => h⟩, ⟨fun _ _ _ _ _ _ h => h, fun _ _ _ _ _ _ h => h⟩, ⟨fun _ _ _ _ _ _ h => h, fun _ _ _ _ _ _ h => h⟩, ⟨fun _ _ _ _ _ _ h => h, fun _ _ _ _ _ _ h => h⟩, ⟨fun _ _ _ _ _ _ h => h, fun _ _ _ _ _ _ h => h⟩, ⟨fun _ _ _ _ _ _ h => h, fun _ _ _ _ _ _ h => h⟩, ⟨fun _ _ _ _ _ _ h => h, fun _ _ _ _ _ _ h => h⟩, ⟨fun _ _ _ _ _ _ h => h, fun _ _ _ _ _ _ h => h⟩, ⟨fun _ _ _ _ _ _ h => h, fun _ _ _ _ _ _ h => h⟩, ⟨fun _ _ _ _ _ _ h => h, fun _ _ _ _ _ _ h => h⟩, ⟨fun _ _ _ _ _ _ h => h, fun _ _ _ _ _ _ h => h⟩, ⟨fun _ _ _ _ _ _ h => h, fun _ _ _ _ _ _ h => h⟩, ⟨fun _ _ _ _ _ he ⟨h0, h1⟩ => ⟨h0, h1⟩, fun _ _ _ _ _ _ h => h⟩, ⟨fun _ _ _ _ _ _ h => h, fun _ _ _ _ _ _ h => h⟩, ⟨fun _ _ _ _ _ _ h => h, fun _ _ _ _ _ _ h => h⟩, ⟨fun _ _ _ _ _ _ h => h, fun _ _ _ _ _ _ h => h⟩, ⟨fun _ _ _ _ _ _ h => h, fun _ _ _ _ _ _ h => h⟩, ⟨fun _ _ _ _ _ _ h => h, fun _ _ _ _ _ _ h => h⟩, ⟨fun _ _ _ _ _ _ h => h, fun _ _ _ _ _ _ h => h⟩, ⟨fun _ _ _ _ _ _ h => h, fun _ _ _ _ _ _ h => h⟩, ⟨fun _ _ _ _ _ _ h => h, fun _ _ _ _ _ _ h => h⟩, ⟨fun _ _ _ _ _ _ h => h, fun _ _ _ _ _ _ h => h⟩, ⟨fun _ _ _ _ _ _ h => h, fun _ _ _ _ _ _ h => h⟩, ⟨fun _ _ _ _ _ _ h => h, fun _ _ _ _ _ _ h => h⟩, ⟨fun _ _ _ _ _ _ h => h, fun _ _ _ _ _ _ h => h⟩, ⟨fun _ _ _ _ _ _ h => h, fun _ _ _ _ _ _ h => h⟩, trivial⟩ ⟨?_, ?_, ?_, ?_, ?_, ?_, ?_, ?_, ?_, ?_, ?_, ?_, ?_, ?_, ?_, ?_, ?_, ?_, ?_, ?_, ?_, ?_, ?_, ?_, ?_, ?_, ?_, ?_, ?_, ?_, ?_, ?_, ?_, ?_, ?_, ?_, trivial⟩ ?_
  · refine ObX.op rfl ?_
    intro f1 wd2 he3 hout4 hphi5
    have hS6 : St w wd2 [] := St.extend hS0 he3
    have e7 : f1 3 = (Value.pointer (some ⟨b_c0, 0, none⟩)) := (hout4 3 rfl).trans rfl
    exact OpX.val v_c0 wd2 rfl (op_load one_27 e7 (BoxAt.cell (BoxAt.lift hS6.ext k_c0) rfl)) (Ext.refl _) rfl
  · refine ObX.op rfl ?_
    intro f8 wd9 he10 hout11 hphi12
    have hS13 : St w wd9 [] := St.extend hS0 he10
    have e14 : f8 1 = (Value.int .i64 y) := (hout11 1 rfl).trans rfl
    exact OpX.val (Value.int .i64 y) wd9 rfl (op_move e14) (Ext.refl _) ⟨rfl, r_y⟩
  · refine ObX.op rfl ?_
    intro f15 wd16 he17 hout18 hphi19
    have hS20 : St w wd16 [] := St.extend hS0 he17
    obtain ⟨S21, hS22, hf23⟩ := hphi19 0 9 _ rfl rfl rfl
    have e24 : f15 9 = v_c0 := hf23
    obtain ⟨S25, hS26, hf27⟩ := hphi19 1 10 _ rfl rfl rfl
    obtain ⟨e28, hr29⟩ : f15 10 = (Value.int .i64 y) ∧ InR .i64 y := hf27
    exact OpX.val (Value.pointer (some (elA v_c0 (y).toNat))) wd16 rfl (op_idx sl_27 (Ty.lift _ hS20.ext r_c0) e24 e28 ha31 hb32) (Ext.refl _) rfl
  · refine ObX.op rfl ?_
    intro f34 wd35 he36 hout37 hphi38
    have hS39 : St w wd35 [] := St.extend hS0 he36
    obtain ⟨S40, hS41, hf42⟩ := hphi38 2 11 _ rfl rfl rfl
    have e43 : f34 11 = (Value.pointer (some (elA v_c0 (y).toNat))) := hf42
    exact OpX.val u44 wd35 rfl (op_load one_22 e43 (Ext.cell hS39.ext hc45)) (Ext.refl _) rfl
  · refine ObX.op rfl ?_
    intro f47 wd48 he49 hout50 hphi51
    have hS52 : St w wd48 [] := St.extend hS0 he49
    have e53 : f47 2 = (Value.int .i64 z) := (hout50 2 rfl).trans rfl
    exact OpX.val (Value.int .i64 z) wd48 rfl (op_move e53) (Ext.refl _) ⟨rfl, r_z⟩
  · refine ObX.op rfl ?_
    intro f54 wd55 he56 hout57 hphi58
    have hS59 : St w wd55 [] := St.extend hS0 he56
    obtain ⟨S60, hS61, hf62⟩ := hphi58 3 12 _ rfl rfl rfl
    have e63 : f54 12 = u44 := hf62
    obtain ⟨S64, hS65, hf66⟩ := hphi58 4 13 _ rfl rfl rfl
    obtain ⟨e67, hr68⟩ : f54 13 = (Value.int .i64 z) ∧ InR .i64 z := hf66
    exact OpX.val (Value.pointer (some (elA u44 (z).toNat))) wd55 rfl (op_idx sl_22 (Ty.lift _ hS59.ext hr46) e63 e67 ha70 hb71) (Ext.refl _) rfl
  · refine ObX.op rfl ?_
    intro f73 wd74 he75 hout76 hphi77
    have hS78 : St w wd74 [] := St.extend hS0 he75
    obtain ⟨S79, hS80, hf81⟩ := hphi77 5 14 _ rfl rfl rfl
    have e82 : f73 14 = (Value.pointer (some (elA u44 (z).toNat))) := hf81
    exact OpX.val (Value.int .i64 x69) wd74 rfl (op_load one_2 e82 (Ext.cell hS78.ext hc84)) (Ext.refl _) ⟨rfl, hr85⟩
  · refine ObX.op rfl ?_
    intro f86 wd87 he88 hout89 hphi90
    have hS91 : St w wd87 [] := St.extend hS0 he88
    have e92 : f86 3 = (Value.pointer (some ⟨b_c0, 0, none⟩)) := (hout89 3 rfl).trans rfl
    exact OpX.val v_c0 wd87 rfl (op_load one_27 e92 (BoxAt.cell (BoxAt.lift hS91.ext k_c0) rfl)) (Ext.refl _) rfl
  · refine ObX.op rfl ?_
    intro f93 wd94 he95 hout96 hphi97
    have hS98 : St w wd94 [] := St.extend hS0 he95
    have e99 : f93 4 = (Value.pointer (some ⟨b_c1, 0, none⟩)) := (hout96 4 rfl).trans rfl
    exact OpX.val (Value.agg #[v_c1_Orders, (Value.int .i64 c1_Modulus), v_c1_Values]) wd94 rfl (op_loadBox st_30 e99 (BoxAt.lift hS98.ext k_c1) rfl rfl) (Ext.refl _) ⟨rfl, r_c1_Modulus⟩
  · refine ObX.op rfl ?_
    intro f100 wd101 he102 hout103 hphi104
    have hS105 : St w wd101 [] := St.extend hS0 he102
    have e106 : f100 0 = (Value.int .i64 x) := (hout103 0 rfl).trans rfl
    exact OpX.val (Value.int .i64 x) wd101 rfl (op_move e106) (Ext.refl _) ⟨rfl, r_x⟩
  · refine ObX.op rfl ?_
    intro f107 wd108 he109 hout110 hphi111
    have hS112 : St w wd108 [] := St.extend hS0 he109
    have e113 : f107 1 = (Value.int .i64 y) := (hout110 1 rfl).trans rfl
    exact OpX.val (Value.int .i64 y) wd108 rfl (op_move e113) (Ext.refl _) ⟨rfl, r_y⟩
  · refine ObX.op rfl ?_
    intro f114 wd115 he116 hout117 hphi118
    have hS119 : St w wd115 [] := St.extend hS0 he116
    obtain ⟨S120, hS121, hf122⟩ := hphi118 8 17 _ rfl rfl rfl
    obtain ⟨e123, hr124⟩ := hf122
    obtain ⟨S125, hS126, hf127⟩ := hphi118 9 18 _ rfl rfl rfl
    obtain ⟨e128, hr129⟩ : f114 18 = (Value.int .i64 x) ∧ InR .i64 x := hf127
    obtain ⟨S130, hS131, hf132⟩ := hphi118 10 19 _ rfl rfl rfl
    obtain ⟨e133, hr134⟩ : f114 19 = (Value.int .i64 y) ∧ InR .i64 y := hf132
    refine OpX.call rfl (op_call fn_83 (args3 e123 e128 e133)) (Ret.mono (c_impl_Cocycle_plus (Ty.lift _ hS119.ext r_c1_Orders) hr124 (Ty.lift _ hS119.ext r_c1_Values) hr129 hr134 hx136) ?_)
    rintro _ wd138 ⟨rfl, hr137, he139⟩
    exact ⟨he139, _, noS _ _, ⟨rfl, hr137⟩⟩
  · refine ObX.op rfl ?_
    intro f141 wd142 he143 hout144 hphi145
    have hS146 : St w wd142 [] := St.extend hS0 he143
    obtain ⟨S147, hS148, hf149⟩ := hphi145 7 16 _ rfl rfl rfl
    have e150 : f141 16 = v_c0 := hf149
    obtain ⟨S151, hS152, hf153⟩ := hphi145 11 20 _ rfl rfl rfl
    obtain ⟨e154, hr155⟩ : f141 20 = (Value.int .i64 x135) ∧ InR .i64 x135 := hf153
    exact OpX.val (Value.pointer (some (elA v_c0 (x135).toNat))) wd142 rfl (op_idx sl_27 (Ty.lift _ hS146.ext r_c0) e150 e154 ha157 hb158) (Ext.refl _) rfl
  · refine ObX.op rfl ?_
    intro f160 wd161 he162 hout163 hphi164
    have hS165 : St w wd161 [] := St.extend hS0 he162
    obtain ⟨S166, hS167, hf168⟩ := hphi164 12 21 _ rfl rfl rfl
    have e169 : f160 21 = (Value.pointer (some (elA v_c0 (x135).toNat))) := hf168
    exact OpX.val u170 wd161 rfl (op_load one_22 e169 (Ext.cell hS165.ext hc171)) (Ext.refl _) rfl
  · refine ObX.op rfl ?_
    intro f173 wd174 he175 hout176 hphi177
    have hS178 : St w wd174 [] := St.extend hS0 he175
    have e179 : f173 2 = (Value.int .i64 z) := (hout176 2 rfl).trans rfl
    exact OpX.val (Value.int .i64 z) wd174 rfl (op_move e179) (Ext.refl _) ⟨rfl, r_z⟩
  · refine ObX.op rfl ?_
    intro f180 wd181 he182 hout183 hphi184
    have hS185 : St w wd181 [] := St.extend hS0 he182
    obtain ⟨S186, hS187, hf188⟩ := hphi184 13 22 _ rfl rfl rfl
    have e189 : f180 22 = u170 := hf188
    obtain ⟨S190, hS191, hf192⟩ := hphi184 14 23 _ rfl rfl rfl
    obtain ⟨e193, hr194⟩ : f180 23 = (Value.int .i64 z) ∧ InR .i64 z := hf192
    exact OpX.val (Value.pointer (some (elA u170 (z).toNat))) wd181 rfl (op_idx sl_22 (Ty.lift _ hS185.ext hr172) e189 e193 ha196 hb197) (Ext.refl _) rfl
  · refine ObX.op rfl ?_
    intro f199 wd200 he201 hout202 hphi203
    have hS204 : St w wd200 [] := St.extend hS0 he201
    obtain ⟨S205, hS206, hf207⟩ := hphi203 15 24 _ rfl rfl rfl
    have e208 : f199 24 = (Value.pointer (some (elA u170 (z).toNat))) := hf207
    exact OpX.val (Value.int .i64 x195) wd200 rfl (op_load one_2 e208 (Ext.cell hS204.ext hc210)) (Ext.refl _) ⟨rfl, hr211⟩
  · refine ObX.op rfl ?_
    intro f212 wd213 he214 hout215 hphi216
    have hS217 : St w wd213 [] := St.extend hS0 he214
    obtain ⟨S218, hS219, hf220⟩ := hphi216 6 15 _ rfl rfl rfl
    obtain ⟨e221, hr222⟩ : f212 15 = (Value.int .i64 x69) ∧ InR .i64 x69 := hf220
    obtain ⟨S223, hS224, hf225⟩ := hphi216 16 25 _ rfl rfl rfl
    obtain ⟨e226, hr227⟩ : f212 25 = (Value.int .i64 x195) ∧ InR .i64 x195 := hf225
    exact OpX.val (Value.int .i64 (w64 (x69 - x195))) wd213 rfl (op_sub e221 e226) (Ext.refl _) ⟨rfl, (inR_wrap _ _)⟩
  · refine ObX.op rfl ?_
    intro f228 wd229 he230 hout231 hphi232
    have hS233 : St w wd229 [] := St.extend hS0 he230
    have e234 : f228 3 = (Value.pointer (some ⟨b_c0, 0, none⟩)) := (hout231 3 rfl).trans rfl
    exact OpX.val v_c0 wd229 rfl (op_load one_27 e234 (BoxAt.cell (BoxAt.lift hS233.ext k_c0) rfl)) (Ext.refl _) rfl
  · refine ObX.op rfl ?_
    intro f235 wd236 he237 hout238 hphi239
    have hS240 : St w wd236 [] := St.extend hS0 he237
    have e241 : f235 0 = (Value.int .i64 x) := (hout238 0 rfl).trans rfl
    exact OpX.val (Value.int .i64 x) wd236 rfl (op_move e241) (Ext.refl _) ⟨rfl, r_x⟩
  · refine ObX.op rfl ?_
    intro f242 wd243 he244 hout245 hphi246
    have hS247 : St w wd243 [] := St.extend hS0 he244
    obtain ⟨S248, hS249, hf250⟩ := hphi246 18 27 _ rfl rfl rfl
    have e251 : f242 27 = v_c0 := hf250
    obtain ⟨S252, hS253, hf254⟩ := hphi246 19 28 _ rfl rfl rfl
    obtain ⟨e255, hr256⟩ : f242 28 = (Value.int .i64 x) ∧ InR .i64 x := hf254
    exact OpX.val (Value.pointer (some (elA v_c0 (x).toNat))) wd243 rfl (op_idx sl_27 (Ty.lift _ hS247.ext r_c0) e251 e255 ha258 hb259) (Ext.refl _) rfl
  · refine ObX.op rfl ?_
    intro f261 wd262 he263 hout264 hphi265
    have hS266 : St w wd262 [] := St.extend hS0 he263
    obtain ⟨S267, hS268, hf269⟩ := hphi265 20 29 _ rfl rfl rfl
    have e270 : f261 29 = (Value.pointer (some (elA v_c0 (x).toNat))) := hf269
    exact OpX.val u271 wd262 rfl (op_load one_22 e270 (Ext.cell hS266.ext hc272)) (Ext.refl _) rfl
  · refine ObX.op rfl ?_
    intro f274 wd275 he276 hout277 hphi278
    have hS279 : St w wd275 [] := St.extend hS0 he276
    have e280 : f274 4 = (Value.pointer (some ⟨b_c1, 0, none⟩)) := (hout277 4 rfl).trans rfl
    exact OpX.val (Value.agg #[v_c1_Orders, (Value.int .i64 c1_Modulus), v_c1_Values]) wd275 rfl (op_loadBox st_30 e280 (BoxAt.lift hS279.ext k_c1) rfl rfl) (Ext.refl _) ⟨rfl, r_c1_Modulus⟩
  · refine ObX.op rfl ?_
    intro f281 wd282 he283 hout284 hphi285
    have hS286 : St w wd282 [] := St.extend hS0 he283
    have e287 : f281 1 = (Value.int .i64 y) := (hout284 1 rfl).trans rfl
    exact OpX.val (Value.int .i64 y) wd282 rfl (op_move e287) (Ext.refl _) ⟨rfl, r_y⟩
  · refine ObX.op rfl ?_
    intro f288 wd289 he290 hout291 hphi292
    have hS293 : St w wd289 [] := St.extend hS0 he290
    have e294 : f288 2 = (Value.int .i64 z) := (hout291 2 rfl).trans rfl
    exact OpX.val (Value.int .i64 z) wd289 rfl (op_move e294) (Ext.refl _) ⟨rfl, r_z⟩
  · refine ObX.op rfl ?_
    intro f295 wd296 he297 hout298 hphi299
    have hS300 : St w wd296 [] := St.extend hS0 he297
    obtain ⟨S301, hS302, hf303⟩ := hphi299 22 31 _ rfl rfl rfl
    obtain ⟨e304, hr305⟩ := hf303
    obtain ⟨S306, hS307, hf308⟩ := hphi299 23 32 _ rfl rfl rfl
    obtain ⟨e309, hr310⟩ : f295 32 = (Value.int .i64 y) ∧ InR .i64 y := hf308
    obtain ⟨S311, hS312, hf313⟩ := hphi299 24 33 _ rfl rfl rfl
    obtain ⟨e314, hr315⟩ : f295 33 = (Value.int .i64 z) ∧ InR .i64 z := hf313
    refine OpX.call rfl (op_call fn_83 (args3 e304 e309 e314)) (Ret.mono (c_impl_Cocycle_plus (Ty.lift _ hS300.ext r_c1_Orders) hr305 (Ty.lift _ hS300.ext r_c1_Values) hr310 hr315 hx317) ?_)
    rintro _ wd319 ⟨rfl, hr318, he320⟩
    exact ⟨he320, _, noS _ _, ⟨rfl, hr318⟩⟩
  · refine ObX.op rfl ?_
    intro f322 wd323 he324 hout325 hphi326
    have hS327 : St w wd323 [] := St.extend hS0 he324
    obtain ⟨S328, hS329, hf330⟩ := hphi326 21 30 _ rfl rfl rfl
    have e331 : f322 30 = u271 := hf330
    obtain ⟨S332, hS333, hf334⟩ := hphi326 25 34 _ rfl rfl rfl
    obtain ⟨e335, hr336⟩ : f322 34 = (Value.int .i64 x316) ∧ InR .i64 x316 := hf334
    exact OpX.val (Value.pointer (some (elA u271 (x316).toNat))) wd323 rfl (op_idx sl_22 (Ty.lift _ hS327.ext hr273) e331 e335 ha338 hb339) (Ext.refl _) rfl
  · refine ObX.op rfl ?_
    intro f341 wd342 he343 hout344 hphi345
    have hS346 : St w wd342 [] := St.extend hS0 he343
    obtain ⟨S347, hS348, hf349⟩ := hphi345 26 35 _ rfl rfl rfl
    have e350 : f341 35 = (Value.pointer (some (elA u271 (x316).toNat))) := hf349
    exact OpX.val (Value.int .i64 x337) wd342 rfl (op_load one_2 e350 (Ext.cell hS346.ext hc352)) (Ext.refl _) ⟨rfl, hr353⟩
  · refine ObX.op rfl ?_
    intro f354 wd355 he356 hout357 hphi358
    have hS359 : St w wd355 [] := St.extend hS0 he356
    obtain ⟨S360, hS361, hf362⟩ := hphi358 17 26 _ rfl rfl rfl
    obtain ⟨e363, hr364⟩ : f354 26 = (Value.int .i64 (w64 (x69 - x195))) ∧ InR .i64 (w64 (x69 - x195)) := hf362
    obtain ⟨S365, hS366, hf367⟩ := hphi358 27 36 _ rfl rfl rfl
    obtain ⟨e368, hr369⟩ : f354 36 = (Value.int .i64 x337) ∧ InR .i64 x337 := hf367
    exact OpX.val (Value.int .i64 (w64 ((w64 (x69 - x195)) + x337))) wd355 rfl (op_add e363 e368) (Ext.refl _) ⟨rfl, (inR_wrap _ _)⟩
  · refine ObX.op rfl ?_
    intro f370 wd371 he372 hout373 hphi374
    have hS375 : St w wd371 [] := St.extend hS0 he372
    have e376 : f370 3 = (Value.pointer (some ⟨b_c0, 0, none⟩)) := (hout373 3 rfl).trans rfl
    exact OpX.val v_c0 wd371 rfl (op_load one_27 e376 (BoxAt.cell (BoxAt.lift hS375.ext k_c0) rfl)) (Ext.refl _) rfl
  · refine ObX.op rfl ?_
    intro f377 wd378 he379 hout380 hphi381
    have hS382 : St w wd378 [] := St.extend hS0 he379
    have e383 : f377 0 = (Value.int .i64 x) := (hout380 0 rfl).trans rfl
    exact OpX.val (Value.int .i64 x) wd378 rfl (op_move e383) (Ext.refl _) ⟨rfl, r_x⟩
  · refine ObX.op rfl ?_
    intro f384 wd385 he386 hout387 hphi388
    have hS389 : St w wd385 [] := St.extend hS0 he386
    obtain ⟨S390, hS391, hf392⟩ := hphi388 29 38 _ rfl rfl rfl
    have e393 : f384 38 = v_c0 := hf392
    obtain ⟨S394, hS395, hf396⟩ := hphi388 30 39 _ rfl rfl rfl
    obtain ⟨e397, hr398⟩ : f384 39 = (Value.int .i64 x) ∧ InR .i64 x := hf396
    exact OpX.val (Value.pointer (some (elA v_c0 (x).toNat))) wd385 rfl (op_idx sl_27 (Ty.lift _ hS389.ext r_c0) e393 e397 ha258 hb259) (Ext.refl _) rfl
  · refine ObX.op rfl ?_
    intro f399 wd400 he401 hout402 hphi403
    have hS404 : St w wd400 [] := St.extend hS0 he401
    obtain ⟨S405, hS406, hf407⟩ := hphi403 31 40 _ rfl rfl rfl
    have e408 : f399 40 = (Value.pointer (some (elA v_c0 (x).toNat))) := hf407
    exact OpX.val u409 wd400 rfl (op_load one_22 e408 (Ext.cell hS404.ext hc410)) (Ext.refl _) rfl
  · refine ObX.op rfl ?_
    intro f412 wd413 he414 hout415 hphi416
    have hS417 : St w wd413 [] := St.extend hS0 he414
    have e418 : f412 1 = (Value.int .i64 y) := (hout415 1 rfl).trans rfl
    exact OpX.val (Value.int .i64 y) wd413 rfl (op_move e418) (Ext.refl _) ⟨rfl, r_y⟩
  · refine ObX.op rfl ?_
    intro f419 wd420 he421 hout422 hphi423
    have hS424 : St w wd420 [] := St.extend hS0 he421
    obtain ⟨S425, hS426, hf427⟩ := hphi423 32 41 _ rfl rfl rfl
    have e428 : f419 41 = u409 := hf427
    obtain ⟨S429, hS430, hf431⟩ := hphi423 33 42 _ rfl rfl rfl
    obtain ⟨e432, hr433⟩ : f419 42 = (Value.int .i64 y) ∧ InR .i64 y := hf431
    exact OpX.val (Value.pointer (some (elA u409 (y).toNat))) wd420 rfl (op_idx sl_22 (Ty.lift _ hS424.ext hr411) e428 e432 ha435 hb436) (Ext.refl _) rfl
  · refine ObX.op rfl ?_
    intro f438 wd439 he440 hout441 hphi442
    have hS443 : St w wd439 [] := St.extend hS0 he440
    obtain ⟨S444, hS445, hf446⟩ := hphi442 34 43 _ rfl rfl rfl
    have e447 : f438 43 = (Value.pointer (some (elA u409 (y).toNat))) := hf446
    exact OpX.val (Value.int .i64 x434) wd439 rfl (op_load one_2 e447 (Ext.cell hS443.ext hc449)) (Ext.refl _) ⟨rfl, hr450⟩
  · intro f451 wd452 Ss453 he454 hout455 hSn456 hSd457 hphi458
    show WL _ _ _ _ _ _ _
    have hS459 : St w wd452 [] := St.extend hS0 he454
    obtain ⟨e460, hr461⟩ : f451 37 = (Value.int .i64 (w64 ((w64 (x69 - x195)) + x337))) ∧ InR .i64 (w64 ((w64 (x69 - x195)) + x337)) := hphi458 28 37 _ (by decide) rfl rfl
    obtain ⟨e462, hr463⟩ : f451 44 = (Value.int .i64 x434) ∧ InR .i64 x434 := hphi458 35 44 _ (by decide) rfl rfl
    refine WL.val (Value.int .i64 (w64 ((w64 ((w64 (x69 - x195)) + x337)) - x434))) _ (op_sub e460 e462) rfl ?_
    refine WL.val (Value.int .i64 (w64 ((w64 ((w64 (x69 - x195)) + x337)) - x434))) _ (op_assign rfl) rfl ?_
    refine WL.nil ?_
    show W _ _ _ _ _ _
    refine W.ret ?_
    obtain rfl := Option.some.inj h
    show FinP _ _ _ _ _ _ _
    exact FinP.ret _ (res1 rfl rfl) ⟨rfl, (inR_wrap _ _), hS459.ext⟩

theorem c_slices_Clone_Lint64_int64 {w : World} {s1 : (List Int)} {v_s1 : Value} (r_s1 : (Ty.sl (Ty.i .i64)).rep w v_s1 s1) {res : (List Int)} (h : p_slices_Clone_Lint64_int64 s1  = some res) :
    Ret Try.prog 100 #[v_s1] w (fun v w' => ∃ (u0 : Value), v = u0 ∧ Ext w w' ∧ Sep w.heap.size w' [(Ty.sl (Ty.i .i64)).at u0 res]) := by
  unfold p_slices_Clone_Lint64_int64 at h
  have hS0 : St w w [] := St.start w
  obtain ⟨p0, c0, hv0, hl10, hl20, hp0, hel0⟩ := id r_s1
  refine Ret.start (fn := Try.f100) Try.func100 rfl 8 rfl rfl ?_
  refine W.seq (W.region ?_)
  refine WL.val (Value.slice none 0 0) _ (op_assign rfl) rfl ?_
  refine WL.nil ?_
  show W _ _ _ _ _ _
  refine W.seq (W.seq (W.region ?_))
  refine WL.val v_s1 _ (op_move rfl) rfl ?_
  refine WL.val (Value.bool p0.isNone) _ (op_eqlNil (Eq.trans rfl hv0) rfl sl_22.1) rfl ?_
  refine WL.nil ?_
  show W _ _ _ _ _ _
  refine W.cond p0.isNone rfl (fun hc1 => ?_) (fun hc1 => ?_)
  · obtain rfl : p0 = none := by cases p0 <;> simp_all
    obtain rfl : s1 = [] := Classical.byContradiction fun hn => hp0 hn rfl
    simp [appL] at h
    subst h
    refine W.seq (W.region ?_)
    refine WL.val (Value.slice none 0 0) _ (op_assign rfl) rfl ?_
    refine WL.nil ?_
    show W _ _ _ _ _ _
    refine W.ret ?_
    show FinP _ _ _ _ _ _ _
    exact FinP.ret _ (res1 rfl rfl) ⟨(Value.slice none 0 0), rfl, hS0.ext, (St.out (St.pick (St.addNil (Ty.i .i64) hS0) [0] rfl) (Ext.refl _))⟩
  · refine W.skip ?_
    show W _ _ _ _ _ _
    refine W.seq (W.region ?_)
    refine WL.lit0 (t := (Ty.i .i64)) hS0 sl_22 rfl rfl ?_
    intro u2 wd3 hS4 he5
    replace hS4 : St w wd3 [(Ty.sl (Ty.i .i64)).at u2 ([] : (List Int))] := hS4
    refine WL.val v_s1 _ (op_move rfl) rfl ?_
    obtain ⟨x6, hx7, h⟩ := bs h
    refine WL.append (flat_i .i64) hS4 (k := 0) rfl sl_22 rfl rfl rfl rfl (Ty.lift _ hS4.ext r_s1) hx7 rfl ?_
    intro u8 wd9 hS10 hz11
    replace hS10 : St w wd9 [(Ty.sl (Ty.i .i64)).at u8 x6] := hS10
    refine WL.val u8 _ (op_assign rfl) rfl ?_
    refine WL.nil ?_
    show W _ _ _ _ _ _
    refine W.ret ?_
    obtain rfl := Option.some.inj h
    show FinP _ _ _ _ _ _ _
    exact FinP.ret _ (res1 rfl rfl) ⟨u8, rfl, hS10.ext, (St.out (St.pick hS10 [0] rfl) (Ext.refl _))⟩

theorem c_impl_cocycleBy {w : World} {orders : (List Int)} {v_orders : Value} {m : Int} {number : Int → Int → Int → Option Int} {v_number : Value} (r_orders : (Ty.sl (Ty.i .i64)).rep w v_orders orders) (r_m : InR .i64 m) (r_number : FnT_i_i_i_to_i Try.prog v_number w number) {res : (List Int) × Int × (List (List (List Int)))} (h : p_impl_cocycleBy orders m number  = some res) :
    Ret Try.prog 81 #[v_orders, (Value.int .i64 m), v_number] w (fun v w' => ∃ (u0 : Value) (u2 : Value), v = (Value.agg #[u0, Value.int .i64 res.2.1, u2]) ∧ InR .i64 res.2.1 ∧ Ext w w' ∧ Sep w.heap.size w' [(Ty.sl (Ty.i .i64)).at u0 res.1, (Ty.sl (Ty.sl (Ty.sl (Ty.i .i64)))).at u2 res.2.2]) := by
  unfold p_impl_cocycleBy at h
  have hS0 : St w w [] := St.start w
  have q_number := r_number
  obtain ⟨g_number, fst_number, cap_number, eq_number, ok_number, call_number⟩ := q_number
  subst eq_number
  refine Ret.start (fn := Try.f81) Try.func81 rfl 57 rfl rfl ?_
  refine W.seq (W.region ?_)
  refine WL.alloc hS0 ze_30 (cs := [(Value.slice none 0 0), (Value.int .i64 (0 : Int)), (Value.slice none 0 0)]) rfl rfl ?_
  intro b1 wd2 hS3 he4
  replace hS3 : St w wd2 [bx b1 [(Value.slice none 0 0), (Value.int .i64 (0 : Int)), (Value.slice none 0 0)]] := hS3
  refine WL.nil ?_
  show W _ _ _ _ _ _
  refine W.seq (W.region ?_)
  refine WL.val v_orders _ (op_move rfl) rfl ?_
  obtain ⟨x5, hx6, h⟩ := bs h
  refine WL.call _ (op_call fn_100 (args1 rfl)) (c_slices_Clone_Lint64_int64 (Ty.lift _ hS3.ext r_orders) hx6) rfl ?_
  rintro u7 wd8 ⟨_, rfl, he9, hs10⟩
  have hS11 := St.join hS3 he9 hs10
  replace hS11 : St w wd8 [bx b1 [(Value.slice none 0 0), (Value.int .i64 (0 : Int)), (Value.slice none 0 0)], (Ty.sl (Ty.i .i64)).at u7 x5] := hS11
  refine WL.val (Value.int .i64 m) _ (op_move rfl) rfl ?_
  refine WL.val (Value.agg #[u7, (Value.int .i64 m), (Value.slice none 0 0)]) _ (op_build bd_30 (parts := [(0, u7, [u7]), (1, (Value.int .i64 m), [(Value.int .i64 m)])]) (partsL ⟨rfl, rfl, rfl, rfl, trivial⟩) ⟨(cells_rep (St.rep (t := (Ty.sl (Ty.i .i64))) hS11 1 rfl)), rfl, trivial⟩ rfl) rfl ?_
  refine WL.val v_orders _ (op_move rfl) rfl ?_
  obtain ⟨x12, hx13, h⟩ := bs h
  refine WL.call _ (op_call fn_80 (args1 rfl)) (c_impl_groupSize (Ty.lift _ hS11.ext r_orders) hx13) rfl ?_
  rintro _ wd15 ⟨rfl, hr14, he16⟩
  have hS18 := St.extend hS11 he16
  replace hS18 : St w wd15 [bx b1 [(Value.slice none 0 0), (Value.int .i64 (0 : Int)), (Value.slice none 0 0)], (Ty.sl (Ty.i .i64)).at u7 x5] := hS18
  refine WL.alloc hS18 ze_30 (cs := [(Value.slice none 0 0), (Value.int .i64 (0 : Int)), (Value.slice none 0 0)]) rfl rfl ?_
  intro b19 wd20 hS21 he22
  replace hS21 : St w wd20 [bx b1 [(Value.slice none 0 0), (Value.int .i64 (0 : Int)), (Value.slice none 0 0)], (Ty.sl (Ty.i .i64)).at u7 x5, bx b19 [(Value.slice none 0 0), (Value.int .i64 (0 : Int)), (Value.slice none 0 0)]] := hS21
  have hS25 := St.addNil (Ty.sl (Ty.sl (Ty.i .i64))) hS21
  replace hS25 : St w wd20 [bx b1 [(Value.slice none 0 0), (Value.int .i64 (0 : Int)), (Value.slice none 0 0)], (Ty.sl (Ty.i .i64)).at u7 x5, bx b19 [(Value.slice none 0 0), (Value.int .i64 (0 : Int)), (Value.slice none 0 0)], (Ty.sl (Ty.sl (Ty.sl (Ty.i .i64)))).at (Value.slice none 0 0) ([] : (List (List (List Int))))] := hS25
  refine WL.storeBox [u7, (Value.int .i64 m), (Value.slice none 0 0)] hS25 (k := 2) rfl rfl rfl (us := [u7, (Value.int .i64 m), (Value.slice none 0 0)]) rfl sz_30 rfl rfl (all_rep (St.rep (t := (Ty.sl (Ty.i .i64))) hS25 1 rfl) (all_cons rfl (all_rep (St.rep (t := (Ty.sl (Ty.sl (Ty.sl (Ty.i .i64))))) hS25 3 rfl) all_nil))) rfl ?_
  intro wd23 hS24
  replace hS24 : St w wd23 [bx b1 [(Value.slice none 0 0), (Value.int .i64 (0 : Int)), (Value.slice none 0 0)], (Ty.sl (Ty.i .i64)).at u7 x5, bx b19 [u7, (Value.int .i64 m), (Value.slice none 0 0)], (Ty.sl (Ty.sl (Ty.sl (Ty.i .i64)))).at (Value.slice none 0 0) ([] : (List (List (List Int))))] := hS24
  refine WL.val (Value.int .i64 x12) _ (op_assign rfl) rfl ?_
  refine WL.nil ?_
  show W _ _ _ _ _ _
  refine W.seq (W.seq (W.region ?_))
  refine WL.val (Value.int .i64 x12) _ (op_move rfl) rfl ?_
  refine WL.val (Value.int .i64 (0 : Int)) _ (op_move rfl) rfl ?_
  refine WL.nil ?_
  show W _ _ _ _ _ _
  obtain ⟨res26, hres27, h⟩ := bs h
  refine W.blockLoop (fun fq wq => ∃ s, res26 = Res.fin s ∧ ∃ (uu0 : Value), fq 6 = (Value.pointer (some ⟨b1, 0, none⟩)) ∧ fq 7 = (Value.pointer (some ⟨b19, 0, none⟩)) ∧ St w wq [bx b1 [(Value.slice none 0 0), (Value.int .i64 (0 : Int)), (Value.slice none 0 0)], (Ty.sl (Ty.i .i64)).at u7 x5, bx b19 [u7, (Value.int .i64 m), uu0], (Ty.sl (Ty.sl (Ty.sl (Ty.i .i64)))).at uu0 s]) ?_ ?_
  · refine W.forN (fun k (s : (List (List (List Int)))) fq wq => ∃ (uu0 : Value), fq 2 = (Value.func (.func g_number) fst_number cap_number) ∧ fq 6 = (Value.pointer (some ⟨b1, 0, none⟩)) ∧ fq 7 = (Value.pointer (some ⟨b19, 0, none⟩)) ∧ fq 8 = (Value.int .i64 x12) ∧ fq 19 = (Value.int .i64 x12) ∧ fq 20 = Value.int .i64 (k : Int) ∧ InR .i64 (k : Int) ∧ St w wq [bx b1 [(Value.slice none 0 0), (Value.int .i64 (0 : Int)), (Value.slice none 0 0)], (Ty.sl (Ty.i .i64)).at u7 x5, bx b19 [u7, (Value.int .i64 m), uu0], (Ty.sl (Ty.sl (Ty.sl (Ty.i .i64)))).at uu0 s]) hres27 ⟨(Value.slice none 0 0), rfl, rfl, rfl, rfl, rfl, rfl, (inR_i64.2 (show (-9223372036854775808 : Int) ≤ 0 ∧ (0 : Int) ≤ 9223372036854775807 from by decide)), hS24⟩ ?_ ?_
    · intro k28 x29 ct30 f31 wd32 hk33 hb34 hI35 hbrk36 hret37
      replace hI35 : ∃ (uu0 : Value), f31 2 = (Value.func (.func g_number) fst_number cap_number) ∧ f31 6 = (Value.pointer (some ⟨b1, 0, none⟩)) ∧ f31 7 = (Value.pointer (some ⟨b19, 0, none⟩)) ∧ f31 8 = (Value.int .i64 x12) ∧ f31 19 = (Value.int .i64 x12) ∧ f31 20 = Value.int .i64 (k28 : Int) ∧ InR .i64 (k28 : Int) ∧ St w wd32 [bx b1 [(Value.slice none 0 0), (Value.int .i64 (0 : Int)), (Value.slice none 0 0)], (Ty.sl (Ty.i .i64)).at u7 x5, bx b19 [u7, (Value.int .i64 m), uu0], (Ty.sl (Ty.sl (Ty.sl (Ty.i .i64)))).at uu0 x29] := hI35
      replace hb34 : p_impl_cocycleBy_L1 x12 number x5 m k28 x29 = some ct30 := hb34
      unfold p_impl_cocycleBy_L1 at hb34
      obtain ⟨u38, hf39, hf40, hf41, hf42, hf43, hf44, hr45, hS46⟩ := hI35
      refine W.seq (W.region ?_)
      refine WL.val (Value.bool (decide ((k28 : Int) < x12))) _ (op_lss hf44 hf43) rfl ?_
      have hl47 : (k28 : Int) < x12 := by omega
      refine WL.nil ?_
      show W _ _ _ _ _ _
      refine W.seq ?_
      refine W.condT (decide ((k28 : Int) < x12)) rfl (decide_eq_true hl47) ?_
      refine W.skip ?_
      show W _ _ _ _ _ _
      refine W.seq ?_
      refine W.block ?_
      refine W.seq (W.region ?_)
      refine WL.val (Value.int .i64 (k28 : Int)) _ (op_move hf44) rfl ?_
      refine WL.val (Value.int .i64 (k28 : Int)) _ (op_assign rfl) rfl ?_
      refine WL.nil ?_
      show W _ _ _ _ _ _
      refine W.seq (W.region ?_)
      refine WL.val (Value.int .i64 x12) _ (op_move hf42) rfl ?_
      refine WL.val (Value.int .i64 x12) _ (op_move hf42) rfl ?_
      obtain ⟨x49, hx50, hb34⟩ := bs hb34
      refine WL.call _ (op_call fn_42 (args2 rfl rfl)) (c_impl_zeros hr14 hr14 hx50) rfl ?_
      rintro u51 wd52 ⟨_, rfl, he53, hs54⟩
      have hS55 := St.join hS46 he53 hs54
      replace hS55 : St w wd52 [bx b1 [(Value.slice none 0 0), (Value.int .i64 (0 : Int)), (Value.slice none 0 0)], (Ty.sl (Ty.i .i64)).at u7 x5, bx b19 [u7, (Value.int .i64 m), u38], (Ty.sl (Ty.sl (Ty.sl (Ty.i .i64)))).at u38 x29, (Ty.sl (Ty.sl (Ty.i .i64))).at u51 x49] := hS55
      refine WL.val u51 _ (op_assign rfl) rfl ?_
      refine WL.nil ?_
      show W _ _ _ _ _ _
      refine W.seq (W.seq (W.region ?_))
      refine WL.val (Value.int .i64 x12) _ (op_move hf42) rfl ?_
      refine WL.val (Value.int .i64 (0 : Int)) _ (op_move rfl) rfl ?_
      refine WL.nil ?_
      show W _ _ _ _ _ _
      obtain ⟨res56, hres57, hb34⟩ := bs hb34
      refine W.blockLoop (fun fq wq => ∃ s, res56 = Res.fin s ∧ fq 2 = (Value.func (.func g_number) fst_number cap_number) ∧ fq 6 = (Value.pointer (some ⟨b1, 0, none⟩)) ∧ fq 7 = (Value.pointer (some ⟨b19, 0, none⟩)) ∧ fq 8 = (Value.int .i64 x12) ∧ fq 10 = u51 ∧ fq 19 = (Value.int .i64 x12) ∧ fq 20 = (Value.int .i64 (k28 : Int)) ∧ St w wq [bx b1 [(Value.slice none 0 0), (Value.int .i64 (0 : Int)), (Value.slice none 0 0)], (Ty.sl (Ty.i .i64)).at u7 x5, bx b19 [u7, (Value.int .i64 m), u38], (Ty.sl (Ty.sl (Ty.sl (Ty.i .i64)))).at u38 x29, (Ty.sl (Ty.sl (Ty.i .i64))).at u51 s]) ?_ ?_
      · refine W.forN (fun k (s : (List (List Int))) fq wq => fq 2 = (Value.func (.func g_number) fst_number cap_number) ∧ fq 6 = (Value.pointer (some ⟨b1, 0, none⟩)) ∧ fq 7 = (Value.pointer (some ⟨b19, 0, none⟩)) ∧ fq 8 = (Value.int .i64 x12) ∧ fq 9 = (Value.int .i64 (k28 : Int)) ∧ fq 10 = u51 ∧ fq 19 = (Value.int .i64 x12) ∧ fq 20 = (Value.int .i64 (k28 : Int)) ∧ fq 26 = (Value.int .i64 x12) ∧ fq 27 = Value.int .i64 (k : Int) ∧ InR .i64 (k : Int) ∧ St w wq [bx b1 [(Value.slice none 0 0), (Value.int .i64 (0 : Int)), (Value.slice none 0 0)], (Ty.sl (Ty.i .i64)).at u7 x5, bx b19 [u7, (Value.int .i64 m), u38], (Ty.sl (Ty.sl (Ty.sl (Ty.i .i64)))).at u38 x29, (Ty.sl (Ty.sl (Ty.i .i64))).at u51 s]) hres57 ⟨hf39, hf40, hf41, hf42, rfl, rfl, hf43, hf44, rfl, rfl, (inR_i64.2 (show (-9223372036854775808 : Int) ≤ 0 ∧ (0 : Int) ≤ 9223372036854775807 from by decide)), hS55⟩ ?_ ?_
        · intro k58 x59 ct60 f61 wd62 hk63 hb64 hI65 hbrk66 hret67
          replace hI65 : f61 2 = (Value.func (.func g_number) fst_number cap_number) ∧ f61 6 = (Value.pointer (some ⟨b1, 0, none⟩)) ∧ f61 7 = (Value.pointer (some ⟨b19, 0, none⟩)) ∧ f61 8 = (Value.int .i64 x12) ∧ f61 9 = (Value.int .i64 (k28 : Int)) ∧ f61 10 = u51 ∧ f61 19 = (Value.int .i64 x12) ∧ f61 20 = (Value.int .i64 (k28 : Int)) ∧ f61 26 = (Value.int .i64 x12) ∧ f61 27 = Value.int .i64 (k58 : Int) ∧ InR .i64 (k58 : Int) ∧ St w wd62 [bx b1 [(Value.slice none 0 0), (Value.int .i64 (0 : Int)), (Value.slice none 0 0)], (Ty.sl (Ty.i .i64)).at u7 x5, bx b19 [u7, (Value.int .i64 m), u38], (Ty.sl (Ty.sl (Ty.sl (Ty.i .i64)))).at u38 x29, (Ty.sl (Ty.sl (Ty.i .i64))).at u51 x59] := hI65
          replace hb64 : p_impl_cocycleBy_L2 number k28 x5 m x29 x12 k58 x59 = some ct60 := hb64
          unfold p_impl_cocycleBy_L2 at hb64
          obtain ⟨hf68, hf69, hf70, hf71, hf72, hf73, hf74, hf75, hf76, hf77, hr78, hS79⟩ := hI65
          refine W.seq (W.region ?_)
          refine WL.val (Value.bool (decide ((k58 : Int) < x12))) _ (op_lss hf77 hf76) rfl ?_
          have hl80 : (k58 : Int) < x12 := by omega
          refine WL.nil ?_
          show W _ _ _ _ _ _
          refine W.seq ?_
          refine W.condT (decide ((k58 : Int) < x12)) rfl (decide_eq_true hl80) ?_
          refine W.skip ?_
          show W _ _ _ _ _ _
          refine W.seq ?_
          refine W.block ?_
          refine W.seq (W.region ?_)
          refine WL.val (Value.int .i64 (k58 : Int)) _ (op_move hf77) rfl ?_
          refine WL.val (Value.int .i64 (k58 : Int)) _ (op_assign rfl) rfl ?_
          refine WL.nil ?_
          show W _ _ _ _ _ _
          refine W.seq (W.region ?_)
          refine WL.val (Value.int .i64 x12) _ (op_move hf71) rfl ?_
          refine WL.val (Value.int .i64 (0 : Int)) _ (op_move rfl) rfl ?_
          refine WL.nil ?_
          show W _ _ _ _ _ _
          obtain ⟨res82, hres83, hb64⟩ := bs hb64
          refine W.blockLoop (fun fq wq => ∃ s, res82 = Res.fin s ∧ fq 2 = (Value.func (.func g_number) fst_number cap_number) ∧ fq 6 = (Value.pointer (some ⟨b1, 0, none⟩)) ∧ fq 7 = (Value.pointer (some ⟨b19, 0, none⟩)) ∧ fq 8 = (Value.int .i64 x12) ∧ fq 9 = (Value.int .i64 (k28 : Int)) ∧ fq 10 = u51 ∧ fq 19 = (Value.int .i64 x12) ∧ fq 20 = (Value.int .i64 (k28 : Int)) ∧ fq 26 = (Value.int .i64 x12) ∧ fq 27 = (Value.int .i64 (k58 : Int)) ∧ St w wq [bx b1 [(Value.slice none 0 0), (Value.int .i64 (0 : Int)), (Value.slice none 0 0)], (Ty.sl (Ty.i .i64)).at u7 x5, bx b19 [u7, (Value.int .i64 m), u38], (Ty.sl (Ty.sl (Ty.sl (Ty.i .i64)))).at u38 x29, (Ty.sl (Ty.sl (Ty.i .i64))).at u51 s]) ?_ ?_
          · refine W.forN (fun k (s : (List (List Int))) fq wq => fq 2 = (Value.func (.func g_number) fst_number cap_number) ∧ fq 6 = (Value.pointer (some ⟨b1, 0, none⟩)) ∧ fq 7 = (Value.pointer (some ⟨b19, 0, none⟩)) ∧ fq 8 = (Value.int .i64 x12) ∧ fq 9 = (Value.int .i64 (k28 : Int)) ∧ fq 10 = u51 ∧ fq 11 = (Value.int .i64 (k58 : Int)) ∧ fq 19 = (Value.int .i64 x12) ∧ fq 20 = (Value.int .i64 (k28 : Int)) ∧ fq 26 = (Value.int .i64 x12) ∧ fq 27 = (Value.int .i64 (k58 : Int)) ∧ fq 30 = (Value.int .i64 x12) ∧ fq 31 = Value.int .i64 (k : Int) ∧ InR .i64 (k : Int) ∧ St w wq [bx b1 [(Value.slice none 0 0), (Value.int .i64 (0 : Int)), (Value.slice none 0 0)], (Ty.sl (Ty.i .i64)).at u7 x5, bx b19 [u7, (Value.int .i64 m), u38], (Ty.sl (Ty.sl (Ty.sl (Ty.i .i64)))).at u38 x29, (Ty.sl (Ty.sl (Ty.i .i64))).at u51 s]) hres83 ⟨hf68, hf69, hf70, hf71, hf72, hf73, rfl, hf74, hf75, hf76, hf77, rfl, rfl, (inR_i64.2 (show (-9223372036854775808 : Int) ≤ 0 ∧ (0 : Int) ≤ 9223372036854775807 from by decide)), hS79⟩ ?_ ?_
            · intro k84 x85 ct86 f87 wd88 hk89 hb90 hI91 hbrk92 hret93
              replace hI91 : f87 2 = (Value.func (.func g_number) fst_number cap_number) ∧ f87 6 = (Value.pointer (some ⟨b1, 0, none⟩)) ∧ f87 7 = (Value.pointer (some ⟨b19, 0, none⟩)) ∧ f87 8 = (Value.int .i64 x12) ∧ f87 9 = (Value.int .i64 (k28 : Int)) ∧ f87 10 = u51 ∧ f87 11 = (Value.int .i64 (k58 : Int)) ∧ f87 19 = (Value.int .i64 x12) ∧ f87 20 = (Value.int .i64 (k28 : Int)) ∧ f87 26 = (Value.int .i64 x12) ∧ f87 27 = (Value.int .i64 (k58 : Int)) ∧ f87 30 = (Value.int .i64 x12) ∧ f87 31 = Value.int .i64 (k84 : Int) ∧ InR .i64 (k84 : Int) ∧ St w wd88 [bx b1 [(Value.slice none 0 0), (Value.int .i64 (0 : Int)), (Value.slice none 0 0)], (Ty.sl (Ty.i .i64)).at u7 x5, bx b19 [u7, (Value.int .i64 m), u38], (Ty.sl (Ty.sl (Ty.sl (Ty.i .i64)))).at u38 x29, (Ty.sl (Ty.sl (Ty.i .i64))).at u51 x85] := hI91
              replace hb90 : p_impl_cocycleBy_L3 k58 number k28 x5 m x29 k84 x85 = some ct86 := hb90
              unfold p_impl_cocycleBy_L3 at hb90
              obtain ⟨hf94, hf95, hf96, hf97, hf98, hf99, hf100, hf101, hf102, hf103, hf104, hf105, hf106, hr107, hS108⟩ := hI91
              refine W.seq (W.region ?_)
              refine WL.val (Value.bool (decide ((k84 : Int) < x12))) _ (op_lss hf106 hf105) rfl ?_
              have hl109 : (k84 : Int) < x12 := by omega
              refine WL.nil ?_
              show W _ _ _ _ _ _
              refine W.seq ?_
              refine W.condT (decide ((k84 : Int) < x12)) rfl (decide_eq_true hl109) ?_
              refine W.skip ?_
              show W _ _ _ _ _ _
              refine W.seq ?_
              refine W.block ?_
              refine W.seq (W.region ?_)
              refine WL.val (Value.int .i64 (k84 : Int)) _ (op_move hf106) rfl ?_
              refine WL.val (Value.int .i64 (k84 : Int)) _ (op_assign rfl) rfl ?_
              refine WL.nil ?_
              show W _ _ _ _ _ _
              obtain ⟨x140, hx143, hb90⟩ := bs hb90
              obtain ⟨ha141, hb142, hx143⟩ := idx_some hx143
              obtain ⟨u154, hc155, hr156⟩ := repSl.el (St.rep (t := (Ty.sl (Ty.sl (Ty.i .i64)))) hS108 4 rfl) hx143
              obtain ⟨x224, hx225, hb90⟩ := bs hb90
              obtain ⟨x245, hx246, hb90⟩ := bs hb90
              refine W.drawR mixo 12 [] [fun _ v _ _ => v = u51, fun _ v _ _ => v = (Value.int .i64 (k58 : Int)) ∧ InR .i64 (k58 : Int), fun _ v _ _ => v = (Value.pointer (some (elA u51 ((k58 : Int)).toNat))), fun _ v _ _ => v = u154, fun _ v _ _ => v = (Value.int .i64 (k84 : Int)) ∧ InR .i64 (k84 : Int), fun _ v S w' => v = (Value.agg #[u7, (Value.int .i64 m), u38]) ∧ InR .i64 m, fun _ v _ _ => v = (Value.func (.func g_number) fst_number cap_number), fun _ v _ _ => v = (Value.int .i64 (k28 : Int)) ∧ InR .i64 (k28 : Int), fun _ v _ _ => v = (Value.int .i64 (k58 : Int)) ∧ InR .i64 (k58 : Int), fun _ v _ _ => v = (Value.int .i64 (k84 : Int)) ∧ InR .i64 (k84 : Int), fun _ v _ _ => v = (Value.int .i64 x224) ∧ InR .i64 x224, fun _ v _ _ => v = (Value.int .i64 x245) ∧ InR .i64 x245] (by kernel_rfl) (by kernel_rfl) ⟨⟨fun _ _ _ _ _ _ h => h, fun _ _ _ _ _ _ h => h⟩, ⟨fun _ _ _ _ _ _ h => h, fun _ _ _ _ _ _ h => h⟩, ⟨fun _ _ _ _ _ _ h => h, fun _ _ _ _ _ _ h => h⟩, ⟨fun _ _ _ _ _ _ h => h, fun _ _ _ _ _ _ h => h⟩, ⟨fun _ _ _ _ _ _ h => h, fun _ _ _ _ _ _ h => h⟩, ⟨fun _ _ _ _ _ he ⟨h0, h1⟩ => ⟨h0, h1⟩, fun _ _ _ _ _ _ h => h⟩, ⟨fun _ _ _ _ _ _ h => h, fun _ _ _ _ _ _ h => h⟩, ⟨fun _ _ _ _ _ _ h => h, fun _ _ _ _ _ _ h => h⟩, ⟨fun _ _ _ _ _ _ h => h, fun _ _ _ _ _ _ h => h⟩, ⟨fun _ _ _ _ _ _ h => h, fun _ _ _ _ _ _ h => h⟩, ⟨fun _ _ _ _ _ _ h => h, fun _ _ _ _ _ _ h => h⟩, ⟨fun _ _ _ _ _ _ h => h, fun _ _ _ _ _ _ h => h⟩, trivial⟩ ⟨?_, ?_, ?_, ?_, ?_, ?_, ?_, ?_, ?_, ?_, ?_, ?_, trivial⟩ ?_
              · refine ObX.op rfl ?_
                intro f111 wd112 he113 hout114 hphi115
                have hS116 : St w wd112 [bx b1 [(Value.slice none 0 0), (Value.int .i64 (0 : Int)), (Value.slice none 0 0)], (Ty.sl (Ty.i .i64)).at u7 x5, bx b19 [u7, (Value.int .i64 m), u38], (Ty.sl (Ty.sl (Ty.sl (Ty.i .i64)))).at u38 x29, (Ty.sl (Ty.sl (Ty.i .i64))).at u51 x85] := St.extend hS108 he113
                have e117 : f111 10 = u51 := (hout114 10 rfl).trans hf99
                exact OpX.val u51 wd112 rfl (op_move e117) (Ext.refl _) rfl
              · refine ObX.op rfl ?_
                intro f118 wd119 he120 hout121 hphi122
                have hS123 : St w wd119 [bx b1 [(Value.slice none 0 0), (Value.int .i64 (0 : Int)), (Value.slice none 0 0)], (Ty.sl (Ty.i .i64)).at u7 x5, bx b19 [u7, (Value.int .i64 m), u38], (Ty.sl (Ty.sl (Ty.sl (Ty.i .i64)))).at u38 x29, (Ty.sl (Ty.sl (Ty.i .i64))).at u51 x85] := St.extend hS108 he120
                have e124 : f118 11 = (Value.int .i64 (k58 : Int)) := (hout121 11 rfl).trans hf100
                exact OpX.val (Value.int .i64 (k58 : Int)) wd119 rfl (op_move e124) (Ext.refl _) ⟨rfl, hr78⟩
              · refine ObX.op rfl ?_
                intro f125 wd126 he127 hout128 hphi129
                have hS130 : St w wd126 [bx b1 [(Value.slice none 0 0), (Value.int .i64 (0 : Int)), (Value.slice none 0 0)], (Ty.sl (Ty.i .i64)).at u7 x5, bx b19 [u7, (Value.int .i64 m), u38], (Ty.sl (Ty.sl (Ty.sl (Ty.i .i64)))).at u38 x29, (Ty.sl (Ty.sl (Ty.i .i64))).at u51 x85] := St.extend hS108 he127
                obtain ⟨S131, hS132, hf133⟩ := hphi129 0 34 _ rfl rfl rfl
                have e134 : f125 34 = u51 := hf133
                obtain ⟨S135, hS136, hf137⟩ := hphi129 1 35 _ rfl rfl rfl
                obtain ⟨e138, hr139⟩ : f125 35 = (Value.int .i64 (k58 : Int)) ∧ InR .i64 (k58 : Int) := hf137
                exact OpX.val (Value.pointer (some (elA u51 ((k58 : Int)).toNat))) wd126 rfl (op_idx sl_27 (St.rep (t := (Ty.sl (Ty.sl (Ty.i .i64)))) hS130 4 rfl) e134 e138 ha141 hb142) (Ext.refl _) rfl
              · refine ObX.op rfl ?_
                intro f144 wd145 he146 hout147 hphi148
                have hS149 : St w wd145 [bx b1 [(Value.slice none 0 0), (Value.int .i64 (0 : Int)), (Value.slice none 0 0)], (Ty.sl (Ty.i .i64)).at u7 x5, bx b19 [u7, (Value.int .i64 m), u38], (Ty.sl (Ty.sl (Ty.sl (Ty.i .i64)))).at u38 x29, (Ty.sl (Ty.sl (Ty.i .i64))).at u51 x85] := St.extend hS108 he146
                obtain ⟨S150, hS151, hf152⟩ := hphi148 2 36 _ rfl rfl rfl
                have e153 : f144 36 = (Value.pointer (some (elA u51 ((k58 : Int)).toNat))) := hf152
                exact OpX.val u154 wd145 rfl (op_load one_22 e153 (Ext.cell he146 hc155)) (Ext.refl _) rfl
              · refine ObX.op rfl ?_
                intro f157 wd158 he159 hout160 hphi161
                have hS162 : St w wd158 [bx b1 [(Value.slice none 0 0), (Value.int .i64 (0 : Int)), (Value.slice none 0 0)], (Ty.sl (Ty.i .i64)).at u7 x5, bx b19 [u7, (Value.int .i64 m), u38], (Ty.sl (Ty.sl (Ty.sl (Ty.i .i64)))).at u38 x29, (Ty.sl (Ty.sl (Ty.i .i64))).at u51 x85] := St.extend hS108 he159
                have e163 : f157 12 = (Value.int .i64 (k84 : Int)) := (hout160 12 rfl).trans rfl
                exact OpX.val (Value.int .i64 (k84 : Int)) wd158 rfl (op_move e163) (Ext.refl _) ⟨rfl, hr107⟩
              · refine ObX.op rfl ?_
                intro f164 wd165 he166 hout167 hphi168
                have hS169 : St w wd165 [bx b1 [(Value.slice none 0 0), (Value.int .i64 (0 : Int)), (Value.slice none 0 0)], (Ty.sl (Ty.i .i64)).at u7 x5, bx b19 [u7, (Value.int .i64 m), u38], (Ty.sl (Ty.sl (Ty.sl (Ty.i .i64)))).at u38 x29, (Ty.sl (Ty.sl (Ty.i .i64))).at u51 x85] := St.extend hS108 he166
                have e170 : f164 7 = (Value.pointer (some ⟨b19, 0, none⟩)) := (hout167 7 rfl).trans hf96
                exact OpX.val (Value.agg #[u7, (Value.int .i64 m), u38]) wd165 rfl (op_loadBox st_30 e170 (St.boxAt hS169 2 rfl) rfl rfl) (Ext.refl _) ⟨rfl, r_m⟩
              · refine ObX.op rfl ?_
                intro f171 wd172 he173 hout174 hphi175
                have hS176 : St w wd172 [bx b1 [(Value.slice none 0 0), (Value.int .i64 (0 : Int)), (Value.slice none 0 0)], (Ty.sl (Ty.i .i64)).at u7 x5, bx b19 [u7, (Value.int .i64 m), u38], (Ty.sl (Ty.sl (Ty.sl (Ty.i .i64)))).at u38 x29, (Ty.sl (Ty.sl (Ty.i .i64))).at u51 x85] := St.extend hS108 he173
                have e177 : f171 2 = (Value.func (.func g_number) fst_number cap_number) := (hout174 2 rfl).trans hf94
                exact OpX.val (Value.func (.func g_number) fst_number cap_number) wd172 rfl (op_move e177) (Ext.refl _) rfl
              · refine ObX.op rfl ?_
                intro f178 wd179 he180 hout181 hphi182
                have hS183 : St w wd179 [bx b1 [(Value.slice none 0 0), (Value.int .i64 (0 : Int)), (Value.slice none 0 0)], (Ty.sl (Ty.i .i64)).at u7 x5, bx b19 [u7, (Value.int .i64 m), u38], (Ty.sl (Ty.sl (Ty.sl (Ty.i .i64)))).at u38 x29, (Ty.sl (Ty.sl (Ty.i .i64))).at u51 x85] := St.extend hS108 he180
                have e184 : f178 9 = (Value.int .i64 (k28 : Int)) := (hout181 9 rfl).trans hf98
                exact OpX.val (Value.int .i64 (k28 : Int)) wd179 rfl (op_move e184) (Ext.refl _) ⟨rfl, hr45⟩
              · refine ObX.op rfl ?_
                intro f185 wd186 he187 hout188 hphi189
                have hS190 : St w wd186 [bx b1 [(Value.slice none 0 0), (Value.int .i64 (0 : Int)), (Value.slice none 0 0)], (Ty.sl (Ty.i .i64)).at u7 x5, bx b19 [u7, (Value.int .i64 m), u38], (Ty.sl (Ty.sl (Ty.sl (Ty.i .i64)))).at u38 x29, (Ty.sl (Ty.sl (Ty.i .i64))).at u51 x85] := St.extend hS108 he187
                have e191 : f185 11 = (Value.int .i64 (k58 : Int)) := (hout188 11 rfl).trans hf100
                exact OpX.val (Value.int .i64 (k58 : Int)) wd186 rfl (op_move e191) (Ext.refl _) ⟨rfl, hr78⟩
              · refine ObX.op rfl ?_
                intro f192 wd193 he194 hout195 hphi196
                have hS197 : St w wd193 [bx b1 [(Value.slice none 0 0), (Value.int .i64 (0 : Int)), (Value.slice none 0 0)], (Ty.sl (Ty.i .i64)).at u7 x5, bx b19 [u7, (Value.int .i64 m), u38], (Ty.sl (Ty.sl (Ty.sl (Ty.i .i64)))).at u38 x29, (Ty.sl (Ty.sl (Ty.i .i64))).at u51 x85] := St.extend hS108 he194
                have e198 : f192 12 = (Value.int .i64 (k84 : Int)) := (hout195 12 rfl).trans rfl
                exact OpX.val (Value.int .i64 (k84 : Int)) wd193 rfl (op_move e198) (Ext.refl _) ⟨rfl, hr107⟩
              · refine ObX.op rfl ?_
                intro f199 wd200 he201 hout202 hphi203
                have hS204 : St w wd200 [bx b1 [(Value.slice none 0 0), (Value.int .i64 (0 : Int)), (Value.slice none 0 0)], (Ty.sl (Ty.i .i64)).at u7 x5, bx b19 [u7, (Value.int .i64 m), u38], (Ty.sl (Ty.sl (Ty.sl (Ty.i .i64)))).at u38 x29, (Ty.sl (Ty.sl (Ty.i .i64))).at u51 x85] := St.extend hS108 he201
                obtain ⟨S205, hS206, hf207⟩ := hphi203 6 40 _ rfl rfl rfl
                have e208 : f199 40 = (Value.func (.func g_number) fst_number cap_number) := hf207
                obtain ⟨S209, hS210, hf211⟩ := hphi203 7 41 _ rfl rfl rfl
                obtain ⟨e212, hr213⟩ : f199 41 = (Value.int .i64 (k28 : Int)) ∧ InR .i64 (k28 : Int) := hf211
                obtain ⟨S214, hS215, hf216⟩ := hphi203 8 42 _ rfl rfl rfl
                obtain ⟨e217, hr218⟩ : f199 42 = (Value.int .i64 (k58 : Int)) ∧ InR .i64 (k58 : Int) := hf216
                obtain ⟨S219, hS220, hf221⟩ := hphi203 9 43 _ rfl rfl rfl
                obtain ⟨e222, hr223⟩ : f199 43 = (Value.int .i64 (k84 : Int)) ∧ InR .i64 (k84 : Int) := hf221
                refine OpX.call rfl (op_callV e208 ok_number (args3 e212 e217 e222)) (Ret.mono (call_number wd200 (k28 : Int) (k58 : Int) (k84 : Int) x224 hS204.ext hr213 hr218 hr223 hx225) ?_)
                rintro _ wd226 ⟨rfl, hr228, he227⟩
                exact ⟨he227, _, noS _ _, ⟨rfl, hr228⟩⟩
              · refine ObX.op rfl ?_
                intro f229 wd230 he231 hout232 hphi233
                have hS234 : St w wd230 [bx b1 [(Value.slice none 0 0), (Value.int .i64 (0 : Int)), (Value.slice none 0 0)], (Ty.sl (Ty.i .i64)).at u7 x5, bx b19 [u7, (Value.int .i64 m), u38], (Ty.sl (Ty.sl (Ty.sl (Ty.i .i64)))).at u38 x29, (Ty.sl (Ty.sl (Ty.i .i64))).at u51 x85] := St.extend hS108 he231
                obtain ⟨S235, hS236, hf237⟩ := hphi233 5 39 _ rfl rfl rfl
                obtain ⟨e238, hr239⟩ := hf237
                obtain ⟨S240, hS241, hf242⟩ := hphi233 10 44 _ rfl rfl rfl
                obtain ⟨e243, hr244⟩ : f229 44 = (Value.int .i64 x224) ∧ InR .i64 x224 := hf242
                refine OpX.call rfl (op_call fn_43 (args2 e238 e243)) (Ret.mono (c_impl_Cocycle_rest (St.rep (t := (Ty.sl (Ty.i .i64))) hS234 1 rfl) hr239 (St.rep (t := (Ty.sl (Ty.sl (Ty.sl (Ty.i .i64))))) hS234 3 rfl) hr244 hx246) ?_)
                rintro _ wd248 ⟨rfl, hr247, he249⟩
                exact ⟨he249, _, noS _ _, ⟨rfl, hr247⟩⟩
              · intro f251 wd252 Ss253 he254 hout255 hSn256 hSd257 hphi258
                show WL _ _ _ _ _ _ _
                have hS259 : St w wd252 [bx b1 [(Value.slice none 0 0), (Value.int .i64 (0 : Int)), (Value.slice none 0 0)], (Ty.sl (Ty.i .i64)).at u7 x5, bx b19 [u7, (Value.int .i64 m), u38], (Ty.sl (Ty.sl (Ty.sl (Ty.i .i64)))).at u38 x29, (Ty.sl (Ty.sl (Ty.i .i64))).at u51 x85] := St.extend hS108 he254
                have e260 : f251 37 = u154 := hphi258 3 37 _ (by decide) rfl rfl
                obtain ⟨e261, hr262⟩ : f251 38 = (Value.int .i64 (k84 : Int)) ∧ InR .i64 (k84 : Int) := hphi258 4 38 _ (by decide) rfl rfl
                obtain ⟨e263, hr264⟩ : f251 45 = (Value.int .i64 x245) ∧ InR .i64 x245 := hphi258 11 45 _ (by decide) rfl rfl
                have e265 : f251 2 = (Value.func (.func g_number) fst_number cap_number) := (hout255 2 rfl).trans hf94
                have e266 : f251 6 = (Value.pointer (some ⟨b1, 0, none⟩)) := (hout255 6 rfl).trans hf95
                have e267 : f251 7 = (Value.pointer (some ⟨b19, 0, none⟩)) := (hout255 7 rfl).trans hf96
                have e268 : f251 8 = (Value.int .i64 x12) := (hout255 8 rfl).trans hf97
                have e269 : f251 9 = (Value.int .i64 (k28 : Int)) := (hout255 9 rfl).trans hf98
                have e270 : f251 10 = u51 := (hout255 10 rfl).trans hf99
                have e271 : f251 11 = (Value.int .i64 (k58 : Int)) := (hout255 11 rfl).trans hf100
                have e272 : f251 19 = (Value.int .i64 x12) := (hout255 19 rfl).trans hf101
                have e273 : f251 20 = (Value.int .i64 (k28 : Int)) := (hout255 20 rfl).trans hf102
                have e274 : f251 26 = (Value.int .i64 x12) := (hout255 26 rfl).trans hf103
                have e275 : f251 27 = (Value.int .i64 (k58 : Int)) := (hout255 27 rfl).trans hf104
                have e276 : f251 30 = (Value.int .i64 x12) := (hout255 30 rfl).trans hf105
                have e277 : f251 31 = (Value.int .i64 (k84 : Int)) := (hout255 31 rfl).trans hf106
                obtain ⟨x278, hx281, hb90⟩ := bs hb90
                obtain ⟨ha279, hb280, hx281⟩ := idx_some hx281
                refine WL.val (Value.pointer (some (elA u154 ((k84 : Int)).toNat))) _ (op_idx sl_22 (Ty.lift _ he254 hr156) e260 e261 ha279 hb280) rfl ?_
                refine WL.storeEl2 (flat_i .i64) hS259 (k := 4) rfl sz_2 hx143 (Ext.cell he254 hc155) rfl e263 (lt_of_idx ha279 hb280) ⟨rfl, hr264⟩ ?_
                intro wd282 hS283
                replace hS283 : St w wd282 [bx b1 [(Value.slice none 0 0), (Value.int .i64 (0 : Int)), (Value.slice none 0 0)], (Ty.sl (Ty.i .i64)).at u7 x5, bx b19 [u7, (Value.int .i64 m), u38], (Ty.sl (Ty.sl (Ty.sl (Ty.i .i64)))).at u38 x29, (Ty.sl (Ty.sl (Ty.i .i64))).at u51 ((x85).set ((k58 : Int)).toNat ((x140).set ((k84 : Int)).toNat x245))] := hS283
                refine WL.nil ?_
                show W _ _ _ _ _ _
                refine W.region ?_
                refine WL.val (Value.int .i64 (w64 ((k84 : Int) + (1 : Int)))) _ (op_add e277 rfl) rfl ?_
                refine WL.val (Value.int .i64 (w64 ((k84 : Int) + (1 : Int)))) _ (op_move rfl) rfl ?_
                refine WL.nil ?_
                obtain rfl := Option.some.inj hb90
                show ∃ s, _ = Ctl.next s ∧ _
                exact ⟨_, rfl, e265, e266, e267, e268, e269, e270, e271, e272, e273, e274, e275, e276, (ctr_next hl109 hr14), (ctr_rng hl109 hr14), hS283⟩
            · intro x290 f285 wd286 hs287 hI288
              replace hI288 : f285 2 = (Value.func (.func g_number) fst_number cap_number) ∧ f285 6 = (Value.pointer (some ⟨b1, 0, none⟩)) ∧ f285 7 = (Value.pointer (some ⟨b19, 0, none⟩)) ∧ f285 8 = (Value.int .i64 x12) ∧ f285 9 = (Value.int .i64 (k28 : Int)) ∧ f285 10 = u51 ∧ f285 11 = (Value.int .i64 (k58 : Int)) ∧ f285 19 = (Value.int .i64 x12) ∧ f285 20 = (Value.int .i64 (k28 : Int)) ∧ f285 26 = (Value.int .i64 x12) ∧ f285 27 = (Value.int .i64 (k58 : Int)) ∧ f285 30 = (Value.int .i64 x12) ∧ f285 31 = Value.int .i64 (((x12).toNat : Nat) : Int) ∧ InR .i64 (((x12).toNat : Nat) : Int) ∧ St w wd286 [bx b1 [(Value.slice none 0 0), (Value.int .i64 (0 : Int)), (Value.slice none 0 0)], (Ty.sl (Ty.i .i64)).at u7 x5, bx b19 [u7, (Value.int .i64 m), u38], (Ty.sl (Ty.sl (Ty.sl (Ty.i .i64)))).at u38 x29, (Ty.sl (Ty.sl (Ty.i .i64))).at u51 x290] := hI288
              obtain ⟨hf291, hf292, hf293, hf294, hf295, hf296, hf297, hf298, hf299, hf300, hf301, hf302, hf303, hr304, hS305⟩ := hI288
              refine W.seq (W.region ?_)
              refine WL.val (Value.bool (decide ((((x12).toNat : Nat) : Int) < x12))) _ (op_lss hf303 hf302) rfl ?_
              have hl306 : ¬ (((x12).toNat : Nat) : Int) < x12 := by omega
              refine WL.nil ?_
              show W _ _ _ _ _ _
              refine W.seq ?_
              refine W.condF (decide ((((x12).toNat : Nat) : Int) < x12)) rfl (decide_eq_false hl306) ?_
              refine W.exit ?_
              show _ = _ ∧ _
              exact ⟨rfl, _, hs287, hf291, hf292, hf293, hf294, hf295, hf296, hf298, hf299, hf300, hf301, hS305⟩
          · rintro f307 wd308 ⟨x311, rfl, hq309⟩
            replace hb64 := onRes_fin hb64
            replace hq309 : f307 2 = (Value.func (.func g_number) fst_number cap_number) ∧ f307 6 = (Value.pointer (some ⟨b1, 0, none⟩)) ∧ f307 7 = (Value.pointer (some ⟨b19, 0, none⟩)) ∧ f307 8 = (Value.int .i64 x12) ∧ f307 9 = (Value.int .i64 (k28 : Int)) ∧ f307 10 = u51 ∧ f307 19 = (Value.int .i64 x12) ∧ f307 20 = (Value.int .i64 (k28 : Int)) ∧ f307 26 = (Value.int .i64 x12) ∧ f307 27 = (Value.int .i64 (k58 : Int)) ∧ St w wd308 [bx b1 [(Value.slice none 0 0), (Value.int .i64 (0 : Int)), (Value.slice none 0 0)], (Ty.sl (Ty.i .i64)).at u7 x5, bx b19 [u7, (Value.int .i64 m), u38], (Ty.sl (Ty.sl (Ty.sl (Ty.i .i64)))).at u38 x29, (Ty.sl (Ty.sl (Ty.i .i64))).at u51 x311] := hq309
            obtain ⟨hf312, hf313, hf314, hf315, hf316, hf317, hf318, hf319, hf320, hf321, hS322⟩ := hq309
            show W _ _ _ _ _ _
            refine W.region ?_
            refine WL.val (Value.int .i64 (w64 ((k58 : Int) + (1 : Int)))) _ (op_add hf321 rfl) rfl ?_
            refine WL.val (Value.int .i64 (w64 ((k58 : Int) + (1 : Int)))) _ (op_move rfl) rfl ?_
            refine WL.nil ?_
            obtain rfl := Option.some.inj hb64
            show ∃ s, _ = Ctl.next s ∧ _
            exact ⟨_, rfl, hf312, hf313, hf314, hf315, hf316, hf317, hf318, hf319, hf320, (ctr_next hl80 hr14), (ctr_rng hl80 hr14), hS322⟩
        · intro x330 f325 wd326 hs327 hI328
          replace hI328 : f325 2 = (Value.func (.func g_number) fst_number cap_number) ∧ f325 6 = (Value.pointer (some ⟨b1, 0, none⟩)) ∧ f325 7 = (Value.pointer (some ⟨b19, 0, none⟩)) ∧ f325 8 = (Value.int .i64 x12) ∧ f325 9 = (Value.int .i64 (k28 : Int)) ∧ f325 10 = u51 ∧ f325 19 = (Value.int .i64 x12) ∧ f325 20 = (Value.int .i64 (k28 : Int)) ∧ f325 26 = (Value.int .i64 x12) ∧ f325 27 = Value.int .i64 (((x12).toNat : Nat) : Int) ∧ InR .i64 (((x12).toNat : Nat) : Int) ∧ St w wd326 [bx b1 [(Value.slice none 0 0), (Value.int .i64 (0 : Int)), (Value.slice none 0 0)], (Ty.sl (Ty.i .i64)).at u7 x5, bx b19 [u7, (Value.int .i64 m), u38], (Ty.sl (Ty.sl (Ty.sl (Ty.i .i64)))).at u38 x29, (Ty.sl (Ty.sl (Ty.i .i64))).at u51 x330] := hI328
          obtain ⟨hf331, hf332, hf333, hf334, hf335, hf336, hf337, hf338, hf339, hf340, hr341, hS342⟩ := hI328
          refine W.seq (W.region ?_)
          refine WL.val (Value.bool (decide ((((x12).toNat : Nat) : Int) < x12))) _ (op_lss hf340 hf339) rfl ?_
          have hl343 : ¬ (((x12).toNat : Nat) : Int) < x12 := by omega
          refine WL.nil ?_
          show W _ _ _ _ _ _
          refine W.seq ?_
          refine W.condF (decide ((((x12).toNat : Nat) : Int) < x12)) rfl (decide_eq_false hl343) ?_
          refine W.exit ?_
          show _ = _ ∧ _
          exact ⟨rfl, _, hs327, hf331, hf332, hf333, hf334, hf336, hf337, hf338, hS342⟩
      · rintro f344 wd345 ⟨x348, rfl, hq346⟩
        replace hb34 := onRes_fin hb34
        replace hq346 : f344 2 = (Value.func (.func g_number) fst_number cap_number) ∧ f344 6 = (Value.pointer (some ⟨b1, 0, none⟩)) ∧ f344 7 = (Value.pointer (some ⟨b19, 0, none⟩)) ∧ f344 8 = (Value.int .i64 x12) ∧ f344 10 = u51 ∧ f344 19 = (Value.int .i64 x12) ∧ f344 20 = (Value.int .i64 (k28 : Int)) ∧ St w wd345 [bx b1 [(Value.slice none 0 0), (Value.int .i64 (0 : Int)), (Value.slice none 0 0)], (Ty.sl (Ty.i .i64)).at u7 x5, bx b19 [u7, (Value.int .i64 m), u38], (Ty.sl (Ty.sl (Ty.sl (Ty.i .i64)))).at u38 x29, (Ty.sl (Ty.sl (Ty.i .i64))).at u51 x348] := hq346
        obtain ⟨hf349, hf350, hf351, hf352, hf353, hf354, hf355, hS356⟩ := hq346
        show W _ _ _ _ _ _
        refine W.region ?_
        refine WL.val (Value.pointer (some ⟨b19, 2, none⟩)) _ (op_fieldAddr fd_30_2 hf351) rfl ?_
        refine WL.val u38 _ (op_load one_23 rfl (BoxAt.cell (St.boxAt hS356 2 rfl) rfl)) rfl ?_
        refine WL.val u51 _ (op_move hf353) rfl ?_
        refine WL.lit [u51] hS356 sl_23 rfl rfl (fillL rfl ⟨rfl, rfl, (cells_rep (St.rep (t := (Ty.sl (Ty.sl (Ty.i .i64)))) hS356 4 rfl)), trivial⟩) rfl rfl ?_
        intro b361 wd358 hS359 he360 hx362
        replace hS359 : St w wd358 [bx b1 [(Value.slice none 0 0), (Value.int .i64 (0 : Int)), (Value.slice none 0 0)], (Ty.sl (Ty.i .i64)).at u7 x5, bx b19 [u7, (Value.int .i64 m), u38], (Ty.sl (Ty.sl (Ty.sl (Ty.i .i64)))).at u38 x29, (Ty.sl (Ty.sl (Ty.i .i64))).at u51 x348, bx b361 [u51]] := hS359
        obtain ⟨x363, hx364, hb34⟩ := bs hb34
        refine WL.appendRow hS359 (k := 3) (k2 := 4) (k3 := 5) rfl rfl rfl rfl sl_23 rfl rfl rfl rfl hx364 rfl ?_
        intro u365 wd366 hS367 hz368
        replace hS367 : St w wd366 [bx b1 [(Value.slice none 0 0), (Value.int .i64 (0 : Int)), (Value.slice none 0 0)], (Ty.sl (Ty.i .i64)).at u7 x5, bx b19 [u7, (Value.int .i64 m), u38], (Ty.sl (Ty.sl (Ty.sl (Ty.i .i64)))).at u365 x363, emp, bx b361 [u51]] := hS367
        refine WL.val (Value.pointer (some ⟨b19, 2, none⟩)) _ (op_fieldAddr fd_30_2 hf351) rfl ?_
        refine WL.storeBox [u7, (Value.int .i64 m), u365] hS367 (k := 2) rfl rfl rfl (us := [u365]) (cells_rep (St.rep (t := (Ty.sl (Ty.sl (Ty.sl (Ty.i .i64))))) hS367 3 rfl)) sz_23 rfl rfl (all_rep (St.rep (t := (Ty.sl (Ty.sl (Ty.sl (Ty.i .i64))))) hS367 3 rfl) all_nil) rfl ?_
        intro wd369 hS370
        replace hS370 : St w wd369 [bx b1 [(Value.slice none 0 0), (Value.int .i64 (0 : Int)), (Value.slice none 0 0)], (Ty.sl (Ty.i .i64)).at u7 x5, bx b19 [u7, (Value.int .i64 m), u365], (Ty.sl (Ty.sl (Ty.sl (Ty.i .i64)))).at u365 x363, emp, bx b361 [u51]] := hS370
        refine WL.nil ?_
        show W _ _ _ _ _ _
        refine W.region ?_
        refine WL.val (Value.int .i64 (w64 ((k28 : Int) + (1 : Int)))) _ (op_add hf355 rfl) rfl ?_
        refine WL.val (Value.int .i64 (w64 ((k28 : Int) + (1 : Int)))) _ (op_move rfl) rfl ?_
        refine WL.nil ?_
        obtain rfl := Option.some.inj hb34
        show ∃ s, _ = Ctl.next s ∧ _
        exact ⟨_, rfl, u365, hf349, hf350, hf351, hf352, hf354, (ctr_next hl47 hr14), (ctr_rng hl47 hr14), (St.pick hS370 [0, 1, 2, 3] rfl)⟩
    · intro x378 f373 wd374 hs375 hI376
      replace hI376 : ∃ (uu0 : Value), f373 2 = (Value.func (.func g_number) fst_number cap_number) ∧ f373 6 = (Value.pointer (some ⟨b1, 0, none⟩)) ∧ f373 7 = (Value.pointer (some ⟨b19, 0, none⟩)) ∧ f373 8 = (Value.int .i64 x12) ∧ f373 19 = (Value.int .i64 x12) ∧ f373 20 = Value.int .i64 (((x12).toNat : Nat) : Int) ∧ InR .i64 (((x12).toNat : Nat) : Int) ∧ St w wd374 [bx b1 [(Value.slice none 0 0), (Value.int .i64 (0 : Int)), (Value.slice none 0 0)], (Ty.sl (Ty.i .i64)).at u7 x5, bx b19 [u7, (Value.int .i64 m), uu0], (Ty.sl (Ty.sl (Ty.sl (Ty.i .i64)))).at uu0 x378] := hI376
      obtain ⟨u379, hf380, hf381, hf382, hf383, hf384, hf385, hr386, hS387⟩ := hI376
      refine W.seq (W.region ?_)
      refine WL.val (Value.bool (decide ((((x12).toNat : Nat) : Int) < x12))) _ (op_lss hf385 hf384) rfl ?_
      have hl388 : ¬ (((x12).toNat : Nat) : Int) < x12 := by omega
      refine WL.nil ?_
      show W _ _ _ _ _ _
      refine W.seq ?_
      refine W.condF (decide ((((x12).toNat : Nat) : Int) < x12)) rfl (decide_eq_false hl388) ?_
      refine W.exit ?_
      show _ = _ ∧ _
      exact ⟨rfl, _, hs375, u379, hf381, hf382, hS387⟩
  · rintro f389 wd390 ⟨x393, rfl, hq391⟩
    replace h := onRes_fin h
    replace hq391 : ∃ (uu0 : Value), f389 6 = (Value.pointer (some ⟨b1, 0, none⟩)) ∧ f389 7 = (Value.pointer (some ⟨b19, 0, none⟩)) ∧ St w wd390 [bx b1 [(Value.slice none 0 0), (Value.int .i64 (0 : Int)), (Value.slice none 0 0)], (Ty.sl (Ty.i .i64)).at u7 x5, bx b19 [u7, (Value.int .i64 m), uu0], (Ty.sl (Ty.sl (Ty.sl (Ty.i .i64)))).at uu0 x393] := hq391
    obtain ⟨u394, hf395, hf396, hS397⟩ := hq391
    show W _ _ _ _ _ _
    refine W.seq (W.region ?_)
    refine WL.val (Value.agg #[u7, (Value.int .i64 m), u394]) _ (op_loadBox st_30 hf396 (St.boxAt hS397 2 rfl) rfl rfl) rfl ?_
    refine WL.storeBox [u7, (Value.int .i64 m), u394] hS397 (k := 0) rfl hf395 rfl (us := [u7, (Value.int .i64 m), u394]) rfl sz_30 rfl rfl (all_rep (St.rep (t := (Ty.sl (Ty.i .i64))) hS397 1 rfl) (all_cons rfl (all_rep (St.rep (t := (Ty.sl (Ty.sl (Ty.sl (Ty.i .i64))))) hS397 3 rfl) all_nil))) rfl ?_
    intro wd398 hS399
    replace hS399 : St w wd398 [bx b1 [u7, (Value.int .i64 m), u394], (Ty.sl (Ty.i .i64)).at u7 x5, bx b19 [u7, (Value.int .i64 m), u394], (Ty.sl (Ty.sl (Ty.sl (Ty.i .i64)))).at u394 x393] := hS399
    refine WL.nil ?_
    show W _ _ _ _ _ _
    refine W.ret ?_
    obtain rfl := Option.some.inj h
    show FinP _ _ _ _ _ _ _
    exact FinP.ret _ (resC rfl hf395 st_30 (St.boxAt hS399 0 rfl) rfl) ⟨u7, u394, rfl, r_m, hS399.ext, (St.out (St.pick hS399 [1, 3] rfl) (Ext.refl _))⟩

theorem c_impl_coboundary {w : World} {orders : (List Int)} {v_orders : Value} {m : Int} {f1 : (List (List Int))} {v_f1 : Value} (r_orders : (Ty.sl (Ty.i .i64)).rep w v_orders orders) (r_m : InR .i64 m) (r_f1 : (Ty.sl (Ty.sl (Ty.i .i64))).rep w v_f1 f1) {res : (List Int) × Int × (List (List (List Int)))} (h : p_impl_coboundary orders m f1  = some res) :
    Ret Try.prog 54 #[v_orders, (Value.int .i64 m), v_f1] w (fun v w' => ∃ (u0 : Value) (u2 : Value), v = (Value.agg #[u0, Value.int .i64 res.2.1, u2]) ∧ InR .i64 res.2.1 ∧ Ext w w' ∧ Sep w.heap.size w' [(Ty.sl (Ty.i .i64)).at u0 res.1, (Ty.sl (Ty.sl (Ty.sl (Ty.i .i64)))).at u2 res.2.2]) := by
  unfold p_impl_coboundary at h
  have hS0 : St w w [] := St.start w
  refine Ret.start (fn := Try.f54) Try.func54 rfl 15 rfl rfl ?_
  refine W.seq (W.region ?_)
  refine WL.box hS0 rfl (cs := [v_f1]) (cells_rep (Ty.lift _ hS0.ext r_f1)) rfl ?_
  intro b1 wd2 hS3 he4 hx5
  replace hS3 : St w wd2 [bx b1 [v_f1]] := hS3
  have hx6 := St.boxAt hS3 0 rfl
  have hE7 : Ext w wd2 := hS3.ext
  have hS8 : St wd2 wd2 [] := St.start wd2
  refine WL.alloc hS8 ze_30 (cs := [(Value.slice none 0 0), (Value.int .i64 (0 : Int)), (Value.slice none 0 0)]) rfl rfl ?_
  intro b9 wd10 hS11 he12
  replace hS11 : St wd2 wd10 [bx b9 [(Value.slice none 0 0), (Value.int .i64 (0 : Int)), (Value.slice none 0 0)]] := hS11
  refine WL.nil ?_
  show W _ _ _ _ _ _
  refine W.seq (W.region ?_)
  refine WL.val v_orders _ (op_move rfl) rfl ?_
  refine WL.val (Value.int .i64 m) _ (op_move rfl) rfl ?_
  refine WL.val (Value.agg #[v_orders, (Value.int .i64 m), (Value.slice none 0 0)]) _ (op_build bd_30 (parts := [(0, v_orders, [v_orders]), (1, (Value.int .i64 m), [(Value.int .i64 m)])]) (partsL ⟨rfl, rfl, rfl, rfl, trivial⟩) ⟨(cells_rep (Ty.lift _ (Ext.trans hE7 hS11.ext) r_orders)), rfl, trivial⟩ rfl) rfl ?_
  refine WL.alloc hS11 ze_30 (cs := [(Value.slice none 0 0), (Value.int .i64 (0 : Int)), (Value.slice none 0 0)]) rfl rfl ?_
  intro b13 wd14 hS15 he16
  replace hS15 : St wd2 wd14 [bx b9 [(Value.slice none 0 0), (Value.int .i64 (0 : Int)), (Value.slice none 0 0)], bx b13 [(Value.slice none 0 0), (Value.int .i64 (0 : Int)), (Value.slice none 0 0)]] := hS15
  have hS19 := St.addNil (Ty.sl (Ty.sl (Ty.i .i64))) hS15
  replace hS19 : St wd2 wd14 [bx b9 [(Value.slice none 0 0), (Value.int .i64 (0 : Int)), (Value.slice none 0 0)], bx b13 [(Value.slice none 0 0), (Value.int .i64 (0 : Int)), (Value.slice none 0 0)], (Ty.sl (Ty.sl (Ty.sl (Ty.i .i64)))).at (Value.slice none 0 0) ([] : (List (List (List Int))))] := hS19
  refine WL.storeBox [v_orders, (Value.int .i64 m), (Value.slice none 0 0)] hS19 (k := 1) rfl rfl rfl (us := [v_orders, (Value.int .i64 m), (Value.slice none 0 0)]) rfl sz_30 rfl rfl (all_rep (Ty.lift _ (Ext.trans hE7 hS19.ext) r_orders) (all_cons rfl (all_rep (St.rep (t := (Ty.sl (Ty.sl (Ty.sl (Ty.i .i64))))) hS19 2 rfl) all_nil))) rfl ?_
  intro wd17 hS18
  replace hS18 : St wd2 wd17 [bx b9 [(Value.slice none 0 0), (Value.int .i64 (0 : Int)), (Value.slice none 0 0)], bx b13 [v_orders, (Value.int .i64 m), (Value.slice none 0 0)], (Ty.sl (Ty.sl (Ty.sl (Ty.i .i64)))).at (Value.slice none 0 0) ([] : (List (List (List Int))))] := hS18
  refine WL.nil ?_
  show W _ _ _ _ _ _
  refine W.seq (W.region ?_)
  refine WL.val v_orders _ (op_move rfl) rfl ?_
  refine WL.val (Value.int .i64 m) _ (op_move rfl) rfl ?_
  refine WL.val (Value.func (.func 82) #[] #[(Value.pointer (some ⟨b1, 0, none⟩)), (Value.pointer (some ⟨b13, 0, none⟩))]) _ (op_makeFunc (va := #[]) (vb := #[(Value.pointer (some ⟨b1, 0, none⟩)), (Value.pointer (some ⟨b13, 0, none⟩))]) args0 (args2 rfl rfl)) rfl ?_
  obtain ⟨x24, hx25, h⟩ := bs h
  refine WL.call _ (op_call fn_81 (args3 rfl rfl rfl)) (c_impl_cocycleBy (Ty.lift _ (Ext.trans hE7 hS18.ext) r_orders) r_m (⟨82, #[], #[(Value.pointer (some ⟨b1, 0, none⟩)), (Value.pointer (some ⟨b13, 0, none⟩))], rfl, fn_82, fun wd20 a0_21 a1_21 a2_21 r22 he21 ra0_21 ra1_21 ra2_21 hq23 => c_impl_coboundary_c1 ra0_21 ra1_21 ra2_21 (BoxAt.lift (Ext.trans hS18.ext he21) hx6) (Ty.lift _ (Ext.trans (Ext.trans hE7 hS18.ext) he21) r_f1) (BoxAt.lift he21 (St.boxAt hS18 1 rfl)) (Ty.lift _ (Ext.trans (Ext.trans hE7 hS18.ext) he21) r_orders) r_m (Ty.lift _ he21 (St.rep (t := (Ty.sl (Ty.sl (Ty.sl (Ty.i .i64))))) hS18 2 rfl)) hq23⟩) hx25) rfl ?_
  rintro _ wd29 ⟨u26, u28, rfl, hr27, he30, hs31⟩
  have hS32 := St.join hS18 he30 hs31
  replace hS32 : St wd2 wd29 [bx b9 [(Value.slice none 0 0), (Value.int .i64 (0 : Int)), (Value.slice none 0 0)], bx b13 [v_orders, (Value.int .i64 m), (Value.slice none 0 0)], (Ty.sl (Ty.sl (Ty.sl (Ty.i .i64)))).at (Value.slice none 0 0) ([] : (List (List (List Int)))), (Ty.sl (Ty.i .i64)).at u26 x24.1, (Ty.sl (Ty.sl (Ty.sl (Ty.i .i64)))).at u28 x24.2.2] := hS32
  refine WL.storeBox [u26, (Value.int .i64 x24.2.1), u28] hS32 (k := 0) rfl rfl rfl (us := [u26, (Value.int .i64 x24.2.1), u28]) rfl sz_30 rfl rfl (all_rep (St.rep (t := (Ty.sl (Ty.i .i64))) hS32 3 rfl) (all_cons rfl (all_rep (St.rep (t := (Ty.sl (Ty.sl (Ty.sl (Ty.i .i64))))) hS32 4 rfl) all_nil))) rfl ?_
  intro wd33 hS34
  replace hS34 : St wd2 wd33 [bx b9 [u26, (Value.int .i64 x24.2.1), u28], bx b13 [v_orders, (Value.int .i64 m), (Value.slice none 0 0)], (Ty.sl (Ty.sl (Ty.sl (Ty.i .i64)))).at (Value.slice none 0 0) ([] : (List (List (List Int)))), (Ty.sl (Ty.i .i64)).at u26 x24.1, (Ty.sl (Ty.sl (Ty.sl (Ty.i .i64)))).at u28 x24.2.2] := hS34
  refine WL.nil ?_
  show W _ _ _ _ _ _
  refine W.ret ?_
  obtain rfl := Option.some.inj h
  show FinP _ _ _ _ _ _ _
  exact FinP.ret _ (resC rfl rfl st_30 (St.boxAt hS34 0 rfl) rfl) ⟨u26, u28, rfl, hr27, (Ext.trans hE7 hS34.ext), (St.out (St.pick hS34 [3, 4] rfl) (hE7))⟩

theorem c_impl_CoboundaryBraiding_c1 {w : World} {x : Int} {y : Int} {b_c0 : Nat} {c0 : (List (List Int))} {v_c0 : Value} (r_x : InR .i64 x) (r_y : InR .i64 y) (k_c0 : BoxAt w b_c0 [v_c0]) (r_c0 : (Ty.sl (Ty.sl (Ty.i .i64))).rep w v_c0 c0) {res : Int} (h : p_impl_CoboundaryBraiding_c1 x y c0 = some res) :
    Ret Try.prog 55 #[(Value.int .i64 x), (Value.int .i64 y), (Value.pointer (some ⟨b_c0, 0, none⟩))] w (fun v w' => v = Value.int .i64 res ∧ InR .i64 res ∧ Ext w w') := by
  unfold p_impl_CoboundaryBraiding_c1 at h
  have hS0 : St w w [] := St.start w
  refine Ret.start (fn := Try.f55) Try.func55 rfl 21 rfl rfl ?_
  refine W.seq (W.region ?_)
  refine WL.val (Value.int .i64 (0 : Int)) _ (op_assign rfl) rfl ?_
  refine WL.nil ?_
  show W _ _ _ _ _ _
  refine W.seq ?_
  obtain ⟨x30, hx33, h⟩ := bs h
  obtain ⟨ha31, hb32, hx33⟩ := idx_some hx33
  obtain ⟨u44, hc45, hr46⟩ := repSl.el r_c0 hx33
  obtain ⟨x69, hx72, h⟩ := bs h
  obtain ⟨ha70, hb71, hx72⟩ := idx_some hx72
  obtain ⟨u83, hc84, hr85⟩ := repSl.el hr46 hx72
  obtain ⟨rfl, hr85⟩ := hr85
  obtain ⟨x115, hx118, h⟩ := bs h
  obtain ⟨ha116, hb117, hx118⟩ := idx_some hx118
  obtain ⟨u129, hc130, hr131⟩ := repSl.el r_c0 hx118
  obtain ⟨x154, hx157, h⟩ := bs h
  obtain ⟨ha155, hb156, hx157⟩ := idx_some hx157
  obtain ⟨u168, hc169, hr170⟩ := repSl.el hr131 hx157
  obtain ⟨rfl, hr170⟩ := hr170
  refine W.drawR mixo 14 [] [fun _ v _ _ => v = v_c0, fun _ v _ _ => v = (Value.int .i64 y) ∧ InR .i64 y, fun _ v _ _ => v = (Value.pointer (some (elA v_c0 (y).toNat))), fun _ v _ _ => v = u44, fun _ v _ _ => v = (Value.int .i64 x) ∧ InR .i64 x, fun _ v _ _ => v = (Value.pointer (some (elA u44 (x).toNat))), fun _ v _ _ => v = (Value.int .i64 x69) ∧ InR .i64 x69, fun _ v _ _ => v = v_c0, fun _ v _ _ => v = (Value.int .i64 x) ∧ InR .i64 x, fun _ v _ _ => v = (Value.pointer (some (elA v_c0 (x).toNat))), fun _ v _ _ => v = u129, fun _ v _ _ => v = (Value.int .i64 y) ∧ InR .i64 y, fun _ v _ _ => v = (Value.pointer (some (elA u129 (y).toNat))), fun _ v _ _ => v = (Value.int .i64 x154) ∧ InR .i64 x154] (by kernel_rfl) (by kernel_rfl) ⟨⟨fun _ _ _ _ _ _ h => h, fun _ _ _ _ _ _ h => h⟩, ⟨fun _ _ _ _ _ _ h => h, fun _ _ _ _ _ _ h => h⟩, ⟨fun _ _ _ _ _ _ h => h, fun _ _ _ _ _ _ h => h⟩, ⟨fun _ _ _ _ _ _ h => h, fun _ _ _ _ _ _ h => h⟩, ⟨fun _ _ _ _ _ _ h => h, fun _ _ _ _ _ _ h => h⟩, ⟨fun _ _ _ _ _ _ h => h, fun _ _ _ _ _ _ h => h⟩, ⟨fun _ _ _ _ _ _ h => h, fun _ _ _ _ _ _ h => h⟩, ⟨fun _ _ _ _ _ _ h => h, fun _ _ _ _ _ _ h => h⟩, ⟨fun _ _ _ _ _ _ h => h, fun _ _ _ _ _ _ h => h⟩, ⟨fun _ _ _ _ _ _ h => h, fun _ _ _ _ _ _ h => h⟩, ⟨fun _ _ _ _ _ _ h => h, fun _ _ _ _ _ _ h => h⟩, ⟨fun _ _ _ _ _ _ h => h, fun _ _ _ _ _ _ h => h⟩, ⟨fun _ _ _ _ _ _ h => h, fun _ _ _ _ _ _ h => h⟩, ⟨fun _ _ _ _ _ _ h => h, fun _ _ _ _ _ _ h => h⟩, trivial⟩ ⟨?_, ?_, ?_, ?_, ?_, ?_, ?_, ?_, ?_, ?_, ?_, ?_, ?_, ?_, trivial⟩ ?_
  · refine ObX.op rfl ?_
    intro f1 wd2 he3 hout4 hphi5
    have hS6 : St w wd2 [] := St.extend hS0 he3
    have e7 : f1 2 = (Value.pointer (some ⟨b_c0, 0, none⟩)) := (hout4 2 rfl).trans rfl
    exact OpX.val v_c0 wd2 rfl (op_load one_27 e7 (BoxAt.cell (BoxAt.lift hS6.ext k_c0) rfl)) (Ext.refl _) rfl
  · refine ObX.op rfl ?_
    intro f8 wd9 he10 hout11 hphi12
    have hS13 : St w wd9 [] := St.extend hS0 he10
    have e14 : f8 1 = (Value.int .i64 y) := (hout11 1 rfl).trans rfl
    exact OpX.val (Value.int .i64 y) wd9 rfl (op_move e14) (Ext.refl _) ⟨rfl, r_y⟩
  · refine ObX.op rfl ?_
    intro f15 wd16 he17 hout18 hphi19
    have hS20 : St w wd16 [] := St.extend hS0 he17
    obtain ⟨S21, hS22, hf23⟩ := hphi19 0 6 _ rfl rfl rfl
    have e24 : f15 6 = v_c0 := hf23
    obtain ⟨S25, hS26, hf27⟩ := hphi19 1 7 _ rfl rfl rfl
    obtain ⟨e28, hr29⟩ : f15 7 = (Value.int .i64 y) ∧ InR .i64 y := hf27
    exact OpX.val (Value.pointer (some (elA v_c0 (y).toNat))) wd16 rfl (op_idx sl_27 (Ty.lift _ hS20.ext r_c0) e24 e28 ha31 hb32) (Ext.refl _) rfl
  · refine ObX.op rfl ?_
    intro f34 wd35 he36 hout37 hphi38
    have hS39 : St w wd35 [] := St.extend hS0 he36
    obtain ⟨S40, hS41, hf42⟩ := hphi38 2 8 _ rfl rfl rfl
    have e43 : f34 8 = (Value.pointer (some (elA v_c0 (y).toNat))) := hf42
    exact OpX.val u44 wd35 rfl (op_load one_22 e43 (Ext.cell hS39.ext hc45)) (Ext.refl _) rfl
  · refine ObX.op rfl ?_
    intro f47 wd48 he49 hout50 hphi51
    have hS52 : St w wd48 [] := St.extend hS0 he49
    have e53 : f47 0 = (Value.int .i64 x) := (hout50 0 rfl).trans rfl
    exact OpX.val (Value.int .i64 x) wd48 rfl (op_move e53) (Ext.refl _) ⟨rfl, r_x⟩
  · refine ObX.op rfl ?_
    intro f54 wd55 he56 hout57 hphi58
    have hS59 : St w wd55 [] := St.extend hS0 he56
    obtain ⟨S60, hS61, hf62⟩ := hphi58 3 9 _ rfl rfl rfl
    have e63 : f54 9 = u44 := hf62
    obtain ⟨S64, hS65, hf66⟩ := hphi58 4 10 _ rfl rfl rfl
    obtain ⟨e67, hr68⟩ : f54 10 = (Value.int .i64 x) ∧ InR .i64 x := hf66
    exact OpX.val (Value.pointer (some (elA u44 (x).toNat))) wd55 rfl (op_idx sl_22 (Ty.lift _ hS59.ext hr46) e63 e67 ha70 hb71) (Ext.refl _) rfl
  · refine ObX.op rfl ?_
    intro f73 wd74 he75 hout76 hphi77
    have hS78 : St w wd74 [] := St.extend hS0 he75
    obtain ⟨S79, hS80, hf81⟩ := hphi77 5 11 _ rfl rfl rfl
    have e82 : f73 11 = (Value.pointer (some (elA u44 (x).toNat))) := hf81
    exact OpX.val (Value.int .i64 x69) wd74 rfl (op_load one_2 e82 (Ext.cell hS78.ext hc84)) (Ext.refl _) ⟨rfl, hr85⟩
  · refine ObX.op rfl ?_
    intro f86 wd87 he88 hout89 hphi90
    have hS91 : St w wd87 [] := St.extend hS0 he88
    have e92 : f86 2 = (Value.pointer (some ⟨b_c0, 0, none⟩)) := (hout89 2 rfl).trans rfl
    exact OpX.val v_c0 wd87 rfl (op_load one_27 e92 (BoxAt.cell (BoxAt.lift hS91.ext k_c0) rfl)) (Ext.refl _) rfl
  · refine ObX.op rfl ?_
    intro f93 wd94 he95 hout96 hphi97
    have hS98 : St w wd94 [] := St.extend hS0 he95
    have e99 : f93 0 = (Value.int .i64 x) := (hout96 0 rfl).trans rfl
    exact OpX.val (Value.int .i64 x) wd94 rfl (op_move e99) (Ext.refl _) ⟨rfl, r_x⟩
  · refine ObX.op rfl ?_
    intro f100 wd101 he102 hout103 hphi104
    have hS105 : St w wd101 [] := St.extend hS0 he102
    obtain ⟨S106, hS107, hf108⟩ := hphi104 7 13 _ rfl rfl rfl
    have e109 : f100 13 = v_c0 := hf108
    obtain ⟨S110, hS111, hf112⟩ := hphi104 8 14 _ rfl rfl rfl
    obtain ⟨e113, hr114⟩ : f100 14 = (Value.int .i64 x) ∧ InR .i64 x := hf112
    exact OpX.val (Value.pointer (some (elA v_c0 (x).toNat))) wd101 rfl (op_idx sl_27 (Ty.lift _ hS105.ext r_c0) e109 e113 ha116 hb117) (Ext.refl _) rfl
  · refine ObX.op rfl ?_
    intro f119 wd120 he121 hout122 hphi123
    have hS124 : St w wd120 [] := St.extend hS0 he121
    obtain ⟨S125, hS126, hf127⟩ := hphi123 9 15 _ rfl rfl rfl
    have e128 : f119 15 = (Value.pointer (some (elA v_c0 (x).toNat))) := hf127
    exact OpX.val u129 wd120 rfl (op_load one_22 e128 (Ext.cell hS124.ext hc130)) (Ext.refl _) rfl
  · refine ObX.op rfl ?_
    intro f132 wd133 he134 hout135 hphi136
    have hS137 : St w wd133 [] := St.extend hS0 he134
    have e138 : f132 1 = (Value.int .i64 y) := (hout135 1 rfl).trans rfl
    exact OpX.val (Value.int .i64 y) wd133 rfl (op_move e138) (Ext.refl _) ⟨rfl, r_y⟩
  · refine ObX.op rfl ?_
    intro f139 wd140 he141 hout142 hphi143
    have hS144 : St w wd140 [] := St.extend hS0 he141
    obtain ⟨S145, hS146, hf147⟩ := hphi143 10 16 _ rfl rfl rfl
    have e148 : f139 16 = u129 := hf147
    obtain ⟨S149, hS150, hf151⟩ := hphi143 11 17 _ rfl rfl rfl
    obtain ⟨e152, hr153⟩ : f139 17 = (Value.int .i64 y) ∧ InR .i64 y := hf151
    exact OpX.val (Value.pointer (some (elA u129 (y).toNat))) wd140 rfl (op_idx sl_22 (Ty.lift _ hS144.ext hr131) e148 e152 ha155 hb156) (Ext.refl _) rfl
  · refine ObX.op rfl ?_
    intro f158 wd159 he160 hout161 hphi162
    have hS163 : St w wd159 [] := St.extend hS0 he160
    obtain ⟨S164, hS165, hf166⟩ := hphi162 12 18 _ rfl rfl rfl
    have e167 : f158 18 = (Value.pointer (some (elA u129 (y).toNat))) := hf166
    exact OpX.val (Value.int .i64 x154) wd159 rfl (op_load one_2 e167 (Ext.cell hS163.ext hc169)) (Ext.refl _) ⟨rfl, hr170⟩
  · intro f171 wd172 Ss173 he174 hout175 hSn176 hSd177 hphi178
    show WL _ _ _ _ _ _ _
    have hS179 : St w wd172 [] := St.extend hS0 he174
    obtain ⟨e180, hr181⟩ : f171 12 = (Value.int .i64 x69) ∧ InR .i64 x69 := hphi178 6 12 _ (by decide) rfl rfl
    obtain ⟨e182, hr183⟩ : f171 19 = (Value.int .i64 x154) ∧ InR .i64 x154 := hphi178 13 19 _ (by decide) rfl rfl
    refine WL.val (Value.int .i64 (w64 (x69 - x154))) _ (op_sub e180 e182) rfl ?_
    refine WL.val (Value.int .i64 (w64 (x69 - x154))) _ (op_assign rfl) rfl ?_
    refine WL.nil ?_
    show W _ _ _ _ _ _
    refine W.ret ?_
    obtain rfl := Option.some.inj h
    show FinP _ _ _ _ _ _ _
    exact FinP.ret _ (res1 rfl rfl) ⟨rfl, (inR_wrap _ _), hS179.ext⟩

theorem c_impl_braidingBy {w : World} {c_Orders : (List Int)} {v_c_Orders : Value} {c_Modulus : Int} {c_Values : (List (List (List Int)))} {v_c_Values : Value} {number : Int → Int → Option Int} {v_number : Value} (r_c_Orders : (Ty.sl (Ty.i .i64)).rep w v_c_Orders c_Orders) (r_c_Modulus : InR .i64 c_Modulus) (r_c_Values : (Ty.sl (Ty.sl (Ty.sl (Ty.i .i64)))).rep w v_c_Values c_Values) (r_number : FnT_i_i_to_i Try.prog v_number w number) {res : (List Int) × Int × (List (List (List Int))) × (List (List Int))} (h : p_impl_braidingBy c_Orders c_Modulus c_Values number  = some res) :
    Ret Try.prog 53 #[(Value.agg #[v_c_Orders, (Value.int .i64 c_Modulus), v_c_Values]), v_number] w (fun v w' => ∃ (u3 : Value), v = (Value.agg #[v_c_Orders, Value.int .i64 res.2.1, v_c_Values, u3]) ∧ InR .i64 res.2.1 ∧ Ext w w' ∧ Sep w.heap.size w' [(Ty.sl (Ty.sl (Ty.i .i64))).at u3 res.2.2.2]) := by
  unfold p_impl_braidingBy at h
  have hS0 : St w w [] := St.start w
  have q_number := r_number
  obtain ⟨g_number, fst_number, cap_number, eq_number, ok_number, call_number⟩ := q_number
  subst eq_number
  refine Ret.start (fn := Try.f53) Try.func53 rfl 45 rfl rfl ?_
  refine W.seq (W.region ?_)
  refine WL.box hS0 rfl (cs := [v_c_Orders, (Value.int .i64 c_Modulus), v_c_Values]) rfl rfl ?_
  intro b1 wd2 hS3 he4 hx5
  replace hS3 : St w wd2 [bx b1 [v_c_Orders, (Value.int .i64 c_Modulus), v_c_Values]] := hS3
  have hx6 := St.boxAt hS3 0 rfl
  have hE7 : Ext w wd2 := hS3.ext
  have hS8 : St wd2 wd2 [] := St.start wd2
  refine WL.alloc hS8 ze_42 (cs := [(Value.slice none 0 0), (Value.int .i64 (0 : Int)), (Value.slice none 0 0), (Value.slice none 0 0)]) rfl rfl ?_
  intro b9 wd10 hS11 he12
  replace hS11 : St wd2 wd10 [bx b9 [(Value.slice none 0 0), (Value.int .i64 (0 : Int)), (Value.slice none 0 0), (Value.slice none 0 0)]] := hS11
  refine WL.nil ?_
  show W _ _ _ _ _ _
  refine W.seq ?_
  obtain ⟨x92, hx93, h⟩ := bs h
  refine W.drawR mixo 10 [] [fun _ v S w' => v = (Value.agg #[v_c_Orders, (Value.int .i64 c_Modulus), v_c_Values]) ∧ InR .i64 c_Modulus, fun _ v _ _ => v = (Value.pointer (some ⟨b1, 2, none⟩)), fun _ v _ _ => v = v_c_Values, fun _ v _ _ => v = (Value.int .i64 ((c_Values).length : Int)) ∧ InR .i64 ((c_Values).length : Int), fun _ v _ _ => v = (Value.pointer (some ⟨b1, 2, none⟩)), fun _ v _ _ => v = v_c_Values, fun _ v _ _ => v = (Value.int .i64 ((c_Values).length : Int)) ∧ InR .i64 ((c_Values).length : Int), fun _ v S w' => SepS S w' [(Ty.sl (Ty.sl (Ty.i .i64))).at v x92], fun f v _ _ => v = Value.agg #[v_c_Orders, (Value.int .i64 c_Modulus), v_c_Values, f 15], fun _ v S w' => ∃ b : Nat, v = Value.pointer (some ⟨b, 0, none⟩) ∧ SepS S w' [bx b [(Value.slice none 0 0), (Value.int .i64 (0 : Int)), (Value.slice none 0 0), (Value.slice none 0 0)]]] (by kernel_rfl) (by kernel_rfl) ⟨⟨fun _ _ _ _ _ he ⟨h0, h1⟩ => ⟨h0, h1⟩, fun _ _ _ _ _ _ h => h⟩, ⟨fun _ _ _ _ _ _ h => h, fun _ _ _ _ _ _ h => h⟩, ⟨fun _ _ _ _ _ _ h => h, fun _ _ _ _ _ _ h => h⟩, ⟨fun _ _ _ _ _ _ h => h, fun _ _ _ _ _ _ h => h⟩, ⟨fun _ _ _ _ _ _ h => h, fun _ _ _ _ _ _ h => h⟩, ⟨fun _ _ _ _ _ _ h => h, fun _ _ _ _ _ _ h => h⟩, ⟨fun _ _ _ _ _ _ h => h, fun _ _ _ _ _ _ h => h⟩, ⟨fun _ _ _ _ _ he h => SepS.extend he h, fun _ _ _ _ _ _ h => h⟩, ⟨fun _ _ _ _ _ _ h => h, fun f1 f2 _ _ _ hf h => by show _ = Value.agg #[v_c_Orders, (Value.int .i64 c_Modulus), v_c_Values, f2 15]; rw [← hf 7 15 rfl rfl]; exact h⟩, ⟨fun _ _ _ _ _ he ⟨b, h1, h2⟩ => ⟨b, h1, SepS.extend he h2⟩, fun _ _ _ _ _ _ h => h⟩, trivial⟩ ⟨?_, ?_, ?_, ?_, ?_, ?_, ?_, ?_, ?_, ?_, trivial⟩ ?_
  · refine ObX.op rfl ?_
    intro f13 wd14 he15 hout16 hphi17
    have hS18 : St wd2 wd14 [bx b9 [(Value.slice none 0 0), (Value.int .i64 (0 : Int)), (Value.slice none 0 0), (Value.slice none 0 0)]] := St.extend hS11 he15
    have e19 : f13 2 = (Value.pointer (some ⟨b1, 0, none⟩)) := (hout16 2 rfl).trans rfl
    exact OpX.val (Value.agg #[v_c_Orders, (Value.int .i64 c_Modulus), v_c_Values]) wd14 rfl (op_loadBox st_30 e19 (BoxAt.lift hS18.ext hx6) rfl rfl) (Ext.refl _) ⟨rfl, r_c_Modulus⟩
  · refine ObX.op rfl ?_
    intro f20 wd21 he22 hout23 hphi24
    have hS25 : St wd2 wd21 [bx b9 [(Value.slice none 0 0), (Value.int .i64 (0 : Int)), (Value.slice none 0 0), (Value.slice none 0 0)]] := St.extend hS11 he22
    have e26 : f20 2 = (Value.pointer (some ⟨b1, 0, none⟩)) := (hout23 2 rfl).trans rfl
    exact OpX.val (Value.pointer (some ⟨b1, 2, none⟩)) wd21 rfl (op_fieldAddr fd_30_2 e26) (Ext.refl _) rfl
  · refine ObX.op rfl ?_
    intro f27 wd28 he29 hout30 hphi31
    have hS32 : St wd2 wd28 [bx b9 [(Value.slice none 0 0), (Value.int .i64 (0 : Int)), (Value.slice none 0 0), (Value.slice none 0 0)]] := St.extend hS11 he29
    obtain ⟨S33, hS34, hf35⟩ := hphi31 1 9 _ rfl rfl rfl
    have e36 : f27 9 = (Value.pointer (some ⟨b1, 2, none⟩)) := hf35
    exact OpX.val v_c_Values wd28 rfl (op_load one_23 e36 (BoxAt.cell (BoxAt.lift hS32.ext hx6) rfl)) (Ext.refl _) rfl
  · refine ObX.op rfl ?_
    intro f37 wd38 he39 hout40 hphi41
    have hS42 : St wd2 wd38 [bx b9 [(Value.slice none 0 0), (Value.int .i64 (0 : Int)), (Value.slice none 0 0), (Value.slice none 0 0)]] := St.extend hS11 he39
    obtain ⟨S43, hS44, hf45⟩ := hphi41 2 10 _ rfl rfl rfl
    have e46 : f37 10 = v_c_Values := hf45
    have hr47 := inR_len (Ty.lift _ (Ext.trans hE7 hS42.ext) r_c_Values)
    exact OpX.val (Value.int .i64 ((c_Values).length : Int)) wd38 rfl (op_lenL sl_23 (Ty.lift _ (Ext.trans hE7 hS42.ext) r_c_Values) e46) (Ext.refl _) ⟨rfl, hr47⟩
  · refine ObX.op rfl ?_
    intro f48 wd49 he50 hout51 hphi52
    have hS53 : St wd2 wd49 [bx b9 [(Value.slice none 0 0), (Value.int .i64 (0 : Int)), (Value.slice none 0 0), (Value.slice none 0 0)]] := St.extend hS11 he50
    have e54 : f48 2 = (Value.pointer (some ⟨b1, 0, none⟩)) := (hout51 2 rfl).trans rfl
    exact OpX.val (Value.pointer (some ⟨b1, 2, none⟩)) wd49 rfl (op_fieldAddr fd_30_2 e54) (Ext.refl _) rfl
  · refine ObX.op rfl ?_
    intro f55 wd56 he57 hout58 hphi59
    have hS60 : St wd2 wd56 [bx b9 [(Value.slice none 0 0), (Value.int .i64 (0 : Int)), (Value.slice none 0 0), (Value.slice none 0 0)]] := St.extend hS11 he57
    obtain ⟨S61, hS62, hf63⟩ := hphi59 4 12 _ rfl rfl rfl
    have e64 : f55 12 = (Value.pointer (some ⟨b1, 2, none⟩)) := hf63
    exact OpX.val v_c_Values wd56 rfl (op_load one_23 e64 (BoxAt.cell (BoxAt.lift hS60.ext hx6) rfl)) (Ext.refl _) rfl
  · refine ObX.op rfl ?_
    intro f65 wd66 he67 hout68 hphi69
    have hS70 : St wd2 wd66 [bx b9 [(Value.slice none 0 0), (Value.int .i64 (0 : Int)), (Value.slice none 0 0), (Value.slice none 0 0)]] := St.extend hS11 he67
    obtain ⟨S71, hS72, hf73⟩ := hphi69 5 13 _ rfl rfl rfl
    have e74 : f65 13 = v_c_Values := hf73
    have hr75 := inR_len (Ty.lift _ (Ext.trans hE7 hS70.ext) r_c_Values)
    exact OpX.val (Value.int .i64 ((c_Values).length : Int)) wd66 rfl (op_lenL sl_23 (Ty.lift _ (Ext.trans hE7 hS70.ext) r_c_Values) e74) (Ext.refl _) ⟨rfl, hr75⟩
  · refine ObX.op rfl ?_
    intro f76 wd77 he78 hout79 hphi80
    have hS81 : St wd2 wd77 [bx b9 [(Value.slice none 0 0), (Value.int .i64 (0 : Int)), (Value.slice none 0 0), (Value.slice none 0 0)]] := St.extend hS11 he78
    obtain ⟨S82, hS83, hf84⟩ := hphi80 3 11 _ rfl rfl rfl
    obtain ⟨e85, hr86⟩ : f76 11 = (Value.int .i64 ((c_Values).length : Int)) ∧ InR .i64 ((c_Values).length : Int) := hf84
    obtain ⟨S87, hS88, hf89⟩ := hphi80 6 14 _ rfl rfl rfl
    obtain ⟨e90, hr91⟩ : f76 14 = (Value.int .i64 ((c_Values).length : Int)) ∧ InR .i64 ((c_Values).length : Int) := hf89
    refine OpX.call rfl (op_call fn_42 (args2 e85 e90)) (Ret.mono (c_impl_zeros hr86 hr91 hx93) ?_)
    rintro u94 wd95 ⟨_, rfl, he96, hs97⟩
    exact ⟨he96, _, newS _ _, (Sep.new hs97)⟩
  · refine ObX.op rfl ?_
    intro f98 wd99 he100 hout101 hphi102
    have hS103 : St wd2 wd99 [bx b9 [(Value.slice none 0 0), (Value.int .i64 (0 : Int)), (Value.slice none 0 0), (Value.slice none 0 0)]] := St.extend hS11 he100
    obtain ⟨S104, hS105, hf106⟩ := hphi102 0 8 _ rfl rfl rfl
    obtain ⟨e107, hr108⟩ := hf106
    obtain ⟨S109, hS110, hf111⟩ := hphi102 7 15 _ rfl rfl rfl
    have e112 : SepS S109 wd99 [(Ty.sl (Ty.sl (Ty.i .i64))).at (f98 15) x92] := hf111
    exact OpX.val (Value.agg #[v_c_Orders, (Value.int .i64 c_Modulus), v_c_Values, (f98 15)]) wd99 rfl (op_build bd_42 (parts := [(0, (Value.agg #[v_c_Orders, (Value.int .i64 c_Modulus), v_c_Values]), [v_c_Orders, (Value.int .i64 c_Modulus), v_c_Values]), (1, (f98 15), [(f98 15)])]) (partsL ⟨rfl, e107, rfl, rfl, trivial⟩) ⟨rfl, (cells_rep (SepS.rep (t := (Ty.sl (Ty.sl (Ty.i .i64)))) e112 0 rfl)), trivial⟩ rfl) (Ext.refl _) rfl
  · refine ObX.op rfl ?_
    intro f113 wd114 he115 hout116 hphi117
    have hS118 : St wd2 wd114 [bx b9 [(Value.slice none 0 0), (Value.int .i64 (0 : Int)), (Value.slice none 0 0), (Value.slice none 0 0)]] := St.extend hS11 he115
    exact OpX.valO _ _ rfl (op_alloc (cs := [(Value.slice none 0 0), (Value.int .i64 (0 : Int)), (Value.slice none 0 0), (Value.slice none 0 0)].toArray) ze_42 rfl) (Ext.alloc _ _) ⟨_, rfl, Sep.new (sep_box _ [(Value.slice none 0 0), (Value.int .i64 (0 : Int)), (Value.slice none 0 0), (Value.slice none 0 0)] _)⟩
  · intro f119 wd120 Ss121 he122 hout123 hSn124 hSd125 hphi126
    show WL _ _ _ _ _ _ _
    have hS127 : St wd2 wd120 [bx b9 [(Value.slice none 0 0), (Value.int .i64 (0 : Int)), (Value.slice none 0 0), (Value.slice none 0 0)]] := St.extend hS11 he122
    have e128 : SepS (Ss121 7) wd120 [(Ty.sl (Ty.sl (Ty.i .i64))).at (f119 15) x92] := hphi126 7 15 _ (by decide) rfl rfl
    have e129 : f119 16 = (Value.agg #[v_c_Orders, (Value.int .i64 c_Modulus), v_c_Values, (f119 15)]) := (hphi126 8 16 _ (by decide) rfl rfl)
    obtain ⟨b131, e130, e130s⟩ : ∃ b : Nat, f119 5 = Value.pointer (some ⟨b, 0, none⟩) ∧ SepS (Ss121 9) wd120 [bx b [(Value.slice none 0 0), (Value.int .i64 (0 : Int)), (Value.slice none 0 0), (Value.slice none 0 0)]] := hphi126 9 5 _ (by decide) rfl rfl
    have e132 : f119 1 = (Value.func (.func g_number) fst_number cap_number) := (hout123 1 rfl).trans rfl
    have e133 : f119 2 = (Value.pointer (some ⟨b1, 0, none⟩)) := (hout123 2 rfl).trans rfl
    have e134 : f119 4 = (Value.pointer (some ⟨b9, 0, none⟩)) := (hout123 4 rfl).trans rfl
    have hS135 := St.joinS hS11 he122 hSn124 (SepS.consS hSd125 rfl e130s (SepS.consS hSd125 rfl e128 SepS.nilS))
    replace hS135 : St wd2 wd120 [bx b9 [(Value.slice none 0 0), (Value.int .i64 (0 : Int)), (Value.slice none 0 0), (Value.slice none 0 0)], bx b131 [(Value.slice none 0 0), (Value.int .i64 (0 : Int)), (Value.slice none 0 0), (Value.slice none 0 0)], (Ty.sl (Ty.sl (Ty.i .i64))).at (f119 15) x92] := hS135
    refine WL.storeBox [v_c_Orders, (Value.int .i64 c_Modulus), v_c_Values, (f119 15)] hS135 (k := 1) rfl e130 e129 (us := [v_c_Orders, (Value.int .i64 c_Modulus), v_c_Values, (f119 15)]) rfl sz_42 rfl rfl (all_rep (Ty.lift _ (Ext.trans hE7 hS135.ext) r_c_Orders) (all_cons rfl (all_rep (Ty.lift _ (Ext.trans hE7 hS135.ext) r_c_Values) (all_rep (St.rep (t := (Ty.sl (Ty.sl (Ty.i .i64)))) hS135 2 rfl) all_nil)))) rfl ?_
    intro wd136 hS137
    replace hS137 : St wd2 wd136 [bx b9 [(Value.slice none 0 0), (Value.int .i64 (0 : Int)), (Value.slice none 0 0), (Value.slice none 0 0)], bx b131 [v_c_Orders, (Value.int .i64 c_Modulus), v_c_Values, (f119 15)], (Ty.sl (Ty.sl (Ty.i .i64))).at (f119 15) x92] := hS137
    refine WL.nil ?_
    show W _ _ _ _ _ _
    refine W.seq (W.seq (W.region ?_))
    refine WL.val (Value.pointer (some ⟨b131, 3, none⟩)) _ (op_fieldAddr fd_42_1 e130) rfl ?_
    refine WL.val (f119 15) _ (op_load one_27 rfl (BoxAt.cell (St.boxAt hS137 1 rfl) rfl)) rfl ?_
    have hr138 := inR_len (St.rep (t := (Ty.sl (Ty.sl (Ty.i .i64)))) hS137 2 rfl)
    refine WL.val (Value.int .i64 ((x92).length : Int)) _ (op_lenL sl_27 (St.rep (t := (Ty.sl (Ty.sl (Ty.i .i64)))) hS137 2 rfl) rfl) rfl ?_
    refine WL.val (Value.int .i64 (0 : Int)) _ (op_move rfl) rfl ?_
    refine WL.nil ?_
    show W _ _ _ _ _ _
    obtain ⟨res139, hres140, h⟩ := bs h
    refine W.blockLoop (fun fq wq => ∃ s, res139 = Res.fin s ∧ fq 4 = (Value.pointer (some ⟨b9, 0, none⟩)) ∧ fq 5 = (Value.pointer (some ⟨b131, 0, none⟩)) ∧ St wd2 wq [bx b9 [(Value.slice none 0 0), (Value.int .i64 (0 : Int)), (Value.slice none 0 0), (Value.slice none 0 0)], bx b131 [v_c_Orders, (Value.int .i64 c_Modulus), v_c_Values, (f119 15)], (Ty.sl (Ty.sl (Ty.i .i64))).at (f119 15) s]) ?_ ?_
    · refine W.forN (fun k (s : (List (List Int))) fq wq => fq 1 = (Value.func (.func g_number) fst_number cap_number) ∧ fq 2 = (Value.pointer (some ⟨b1, 0, none⟩)) ∧ fq 4 = (Value.pointer (some ⟨b9, 0, none⟩)) ∧ fq 5 = (Value.pointer (some ⟨b131, 0, none⟩)) ∧ fq 19 = (Value.int .i64 ((x92).length : Int)) ∧ fq 20 = Value.int .i64 (k : Int) ∧ InR .i64 (k : Int) ∧ St wd2 wq [bx b9 [(Value.slice none 0 0), (Value.int .i64 (0 : Int)), (Value.slice none 0 0), (Value.slice none 0 0)], bx b131 [v_c_Orders, (Value.int .i64 c_Modulus), v_c_Values, (f119 15)], (Ty.sl (Ty.sl (Ty.i .i64))).at (f119 15) s]) hres140 ⟨e132, e133, e134, e130, rfl, rfl, (inR_i64.2 (show (-9223372036854775808 : Int) ≤ 0 ∧ (0 : Int) ≤ 9223372036854775807 from by decide)), hS137⟩ ?_ ?_
      · intro k141 x142 ct143 f144 wd145 hk146 hb147 hI148 hbrk149 hret150
        replace hI148 : f144 1 = (Value.func (.func g_number) fst_number cap_number) ∧ f144 2 = (Value.pointer (some ⟨b1, 0, none⟩)) ∧ f144 4 = (Value.pointer (some ⟨b9, 0, none⟩)) ∧ f144 5 = (Value.pointer (some ⟨b131, 0, none⟩)) ∧ f144 19 = (Value.int .i64 ((x92).length : Int)) ∧ f144 20 = Value.int .i64 (k141 : Int) ∧ InR .i64 (k141 : Int) ∧ St wd2 wd145 [bx b9 [(Value.slice none 0 0), (Value.int .i64 (0 : Int)), (Value.slice none 0 0), (Value.slice none 0 0)], bx b131 [v_c_Orders, (Value.int .i64 c_Modulus), v_c_Values, (f119 15)], (Ty.sl (Ty.sl (Ty.i .i64))).at (f119 15) x142] := hI148
        replace hb147 : p_impl_braidingBy_L1 number c_Orders c_Modulus c_Values k141 x142 = some ct143 := hb147
        unfold p_impl_braidingBy_L1 at hb147
        obtain ⟨hf151, hf152, hf153, hf154, hf155, hf156, hr157, hS158⟩ := hI148
        refine W.seq (W.region ?_)
        refine WL.val (Value.bool (decide ((k141 : Int) < ((x92).length : Int)))) _ (op_lss hf156 hf155) rfl ?_
        have hl159 : (k141 : Int) < ((x92).length : Int) := by omega
        refine WL.nil ?_
        show W _ _ _ _ _ _
        refine W.seq ?_
        refine W.condT (decide ((k141 : Int) < ((x92).length : Int))) rfl (decide_eq_true hl159) ?_
        refine W.skip ?_
        show W _ _ _ _ _ _
        refine W.seq ?_
        refine W.block ?_
        refine W.seq (W.region ?_)
        refine WL.val (Value.int .i64 (k141 : Int)) _ (op_move hf156) rfl ?_
        refine WL.val (Value.int .i64 (k141 : Int)) _ (op_assign rfl) rfl ?_
        refine WL.nil ?_
        show W _ _ _ _ _ _
        refine W.seq (W.region ?_)
        refine WL.val (Value.pointer (some ⟨b131, 3, none⟩)) _ (op_fieldAddr fd_42_1 hf154) rfl ?_
        refine WL.val (f119 15) _ (op_load one_27 rfl (BoxAt.cell (St.boxAt hS158 1 rfl) rfl)) rfl ?_
        have hr161 := inR_len (St.rep (t := (Ty.sl (Ty.sl (Ty.i .i64)))) hS158 2 rfl)
        refine WL.val (Value.int .i64 ((x142).length : Int)) _ (op_lenL sl_27 (St.rep (t := (Ty.sl (Ty.sl (Ty.i .i64)))) hS158 2 rfl) rfl) rfl ?_
        refine WL.val (Value.int .i64 (0 : Int)) _ (op_move rfl) rfl ?_
        refine WL.nil ?_
        show W _ _ _ _ _ _
        obtain ⟨res162, hres163, hb147⟩ := bs hb147
        refine W.blockLoop (fun fq wq => ∃ s, res162 = Res.fin s ∧ fq 1 = (Value.func (.func g_number) fst_number cap_number) ∧ fq 2 = (Value.pointer (some ⟨b1, 0, none⟩)) ∧ fq 4 = (Value.pointer (some ⟨b9, 0, none⟩)) ∧ fq 5 = (Value.pointer (some ⟨b131, 0, none⟩)) ∧ fq 19 = (Value.int .i64 ((x92).length : Int)) ∧ fq 20 = (Value.int .i64 (k141 : Int)) ∧ St wd2 wq [bx b9 [(Value.slice none 0 0), (Value.int .i64 (0 : Int)), (Value.slice none 0 0), (Value.slice none 0 0)], bx b131 [v_c_Orders, (Value.int .i64 c_Modulus), v_c_Values, (f119 15)], (Ty.sl (Ty.sl (Ty.i .i64))).at (f119 15) s]) ?_ ?_
        · refine W.forN (fun k (s : (List (List Int))) fq wq => fq 1 = (Value.func (.func g_number) fst_number cap_number) ∧ fq 2 = (Value.pointer (some ⟨b1, 0, none⟩)) ∧ fq 4 = (Value.pointer (some ⟨b9, 0, none⟩)) ∧ fq 5 = (Value.pointer (some ⟨b131, 0, none⟩)) ∧ fq 6 = (Value.int .i64 (k141 : Int)) ∧ fq 19 = (Value.int .i64 ((x92).length : Int)) ∧ fq 20 = (Value.int .i64 (k141 : Int)) ∧ fq 25 = (Value.int .i64 ((x142).length : Int)) ∧ fq 26 = Value.int .i64 (k : Int) ∧ InR .i64 (k : Int) ∧ St wd2 wq [bx b9 [(Value.slice none 0 0), (Value.int .i64 (0 : Int)), (Value.slice none 0 0), (Value.slice none 0 0)], bx b131 [v_c_Orders, (Value.int .i64 c_Modulus), v_c_Values, (f119 15)], (Ty.sl (Ty.sl (Ty.i .i64))).at (f119 15) s]) hres163 ⟨hf151, hf152, hf153, hf154, rfl, hf155, hf156, rfl, rfl, (inR_i64.2 (show (-9223372036854775808 : Int) ≤ 0 ∧ (0 : Int) ≤ 9223372036854775807 from by decide)), hS158⟩ ?_ ?_
          · intro k164 x165 ct166 f167 wd168 hk169 hb170 hI171 hbrk172 hret173
            replace hI171 : f167 1 = (Value.func (.func g_number) fst_number cap_number) ∧ f167 2 = (Value.pointer (some ⟨b1, 0, none⟩)) ∧ f167 4 = (Value.pointer (some ⟨b9, 0, none⟩)) ∧ f167 5 = (Value.pointer (some ⟨b131, 0, none⟩)) ∧ f167 6 = (Value.int .i64 (k141 : Int)) ∧ f167 19 = (Value.int .i64 ((x92).length : Int)) ∧ f167 20 = (Value.int .i64 (k141 : Int)) ∧ f167 25 = (Value.int .i64 ((x142).length : Int)) ∧ f167 26 = Value.int .i64 (k164 : Int) ∧ InR .i64 (k164 : Int) ∧ St wd2 wd168 [bx b9 [(Value.slice none 0 0), (Value.int .i64 (0 : Int)), (Value.slice none 0 0), (Value.slice none 0 0)], bx b131 [v_c_Orders, (Value.int .i64 c_Modulus), v_c_Values, (f119 15)], (Ty.sl (Ty.sl (Ty.i .i64))).at (f119 15) x165] := hI171
            replace hb170 : p_impl_braidingBy_L2 k141 number c_Orders c_Modulus c_Values k164 x165 = some ct166 := hb170
            unfold p_impl_braidingBy_L2 at hb170
            obtain ⟨hf174, hf175, hf176, hf177, hf178, hf179, hf180, hf181, hf182, hr183, hS184⟩ := hI171
            refine W.seq (W.region ?_)
            refine WL.val (Value.bool (decide ((k164 : Int) < ((x142).length : Int)))) _ (op_lss hf182 hf181) rfl ?_
            have hl185 : (k164 : Int) < ((x142).length : Int) := by omega
            refine WL.nil ?_
            show W _ _ _ _ _ _
            refine W.seq ?_
            refine W.condT (decide ((k164 : Int) < ((x142).length : Int))) rfl (decide_eq_true hl185) ?_
            refine W.skip ?_
            show W _ _ _ _ _ _
            refine W.seq ?_
            refine W.block ?_
            refine W.seq (W.region ?_)
            refine WL.val (Value.int .i64 (k164 : Int)) _ (op_move hf182) rfl ?_
            refine WL.val (Value.int .i64 (k164 : Int)) _ (op_assign rfl) rfl ?_
            refine WL.nil ?_
            show W _ _ _ _ _ _
            obtain ⟨x226, hx229, hb170⟩ := bs hb170
            obtain ⟨ha227, hb228, hx229⟩ := idx_some hx229
            obtain ⟨u240, hc241, hr242⟩ := repSl.el (St.rep (t := (Ty.sl (Ty.sl (Ty.i .i64)))) hS184 2 rfl) hx229
            obtain ⟨x298, hx299, hb170⟩ := bs hb170
            obtain ⟨x319, hx320, hb170⟩ := bs hb170
            refine W.drawR mixo 12 [] [fun _ v _ _ => v = (Value.pointer (some ⟨b131, 3, none⟩)), fun _ v _ _ => v = (f119 15), fun _ v _ _ => v = (Value.int .i64 (k141 : Int)) ∧ InR .i64 (k141 : Int), fun _ v _ _ => v = (Value.pointer (some (elA (f119 15) ((k141 : Int)).toNat))), fun _ v _ _ => v = u240, fun _ v _ _ => v = (Value.int .i64 (k164 : Int)) ∧ InR .i64 (k164 : Int), fun _ v S w' => v = (Value.agg #[v_c_Orders, (Value.int .i64 c_Modulus), v_c_Values]) ∧ InR .i64 c_Modulus, fun _ v _ _ => v = (Value.func (.func g_number) fst_number cap_number), fun _ v _ _ => v = (Value.int .i64 (k141 : Int)) ∧ InR .i64 (k141 : Int), fun _ v _ _ => v = (Value.int .i64 (k164 : Int)) ∧ InR .i64 (k164 : Int), fun _ v _ _ => v = (Value.int .i64 x298) ∧ InR .i64 x298, fun _ v _ _ => v = (Value.int .i64 x319) ∧ InR .i64 x319] (by kernel_rfl) (by kernel_rfl) ⟨⟨fun _ _ _ _ _ _ h => h, fun _ _ _ _ _ _ h => h⟩, ⟨fun _ _ _ _ _ _ h => h, fun _ _ _ _ _ _ h => h⟩, ⟨fun _ _ _ _ _ _ h => h, fun _ _ _ _ _ _ h => h⟩, ⟨fun _ _ _ _ _ _ h => h, fun _ _ _ _ _ _ h => h⟩, ⟨fun _ _ _ _ _ _ h => h, fun _ _ _ _ _ _ h => h⟩, ⟨fun _ _ _ _ _ _ h => h, fun _ _ _ _ _ _ h => h⟩, ⟨fun _ _ _ _ _ he ⟨h0, h1⟩ => ⟨h0, h1⟩, fun _ _ _ _ _ _ h => h⟩, ⟨fun _ _ _ _ _ _ h => h, fun _ _ _ _ _ _ h => h⟩, ⟨fun _ _ _ _ _ _ h => h, fun _ _ _ _ _ _ h => h⟩, ⟨fun _ _ _ _ _ _ h => h, fun _ _ _ _ _ _ h => h⟩, ⟨fun _ _ _ _ _ _ h => h, fun _ _ _ _ _ _ h => h⟩, ⟨fun _ _ _ _ _ _ h => h, fun _ _ _ _ _ _ h => h⟩, trivial⟩ ⟨?_, ?_, ?_, ?_, ?_, ?_, ?_, ?_, ?_, ?_, ?_, ?_, trivial⟩ ?_
            · refine ObX.op rfl ?_
              intro f187 wd188 he189 hout190 hphi191
              have hS192 : St wd2 wd188 [bx b9 [(Value.slice none 0 0), (Value.int .i64 (0 : Int)), (Value.slice none 0 0), (Value.slice none 0 0)], bx b131 [v_c_Orders, (Value.int .i64 c_Modulus), v_c_Values, (f119 15)], (Ty.sl (Ty.sl (Ty.i .i64))).at (f119 15) x165] := St.extend hS184 he189
              have e193 : f187 5 = (Value.pointer (some ⟨b131, 0, none⟩)) := (hout190 5 rfl).trans hf177
              exact OpX.val (Value.pointer (some ⟨b131, 3, none⟩)) wd188 rfl (op_fieldAddr fd_42_1 e193) (Ext.refl _) rfl
            · refine ObX.op rfl ?_
              intro f194 wd195 he196 hout197 hphi198
              have hS199 : St wd2 wd195 [bx b9 [(Value.slice none 0 0), (Value.int .i64 (0 : Int)), (Value.slice none 0 0), (Value.slice none 0 0)], bx b131 [v_c_Orders, (Value.int .i64 c_Modulus), v_c_Values, (f119 15)], (Ty.sl (Ty.sl (Ty.i .i64))).at (f119 15) x165] := St.extend hS184 he196
              obtain ⟨S200, hS201, hf202⟩ := hphi198 0 29 _ rfl rfl rfl
              have e203 : f194 29 = (Value.pointer (some ⟨b131, 3, none⟩)) := hf202
              exact OpX.val (f119 15) wd195 rfl (op_load one_27 e203 (BoxAt.cell (St.boxAt hS199 1 rfl) rfl)) (Ext.refl _) rfl
            · refine ObX.op rfl ?_
              intro f204 wd205 he206 hout207 hphi208
              have hS209 : St wd2 wd205 [bx b9 [(Value.slice none 0 0), (Value.int .i64 (0 : Int)), (Value.slice none 0 0), (Value.slice none 0 0)], bx b131 [v_c_Orders, (Value.int .i64 c_Modulus), v_c_Values, (f119 15)], (Ty.sl (Ty.sl (Ty.i .i64))).at (f119 15) x165] := St.extend hS184 he206
              have e210 : f204 6 = (Value.int .i64 (k141 : Int)) := (hout207 6 rfl).trans hf178
              exact OpX.val (Value.int .i64 (k141 : Int)) wd205 rfl (op_move e210) (Ext.refl _) ⟨rfl, hr157⟩
            · refine ObX.op rfl ?_
              intro f211 wd212 he213 hout214 hphi215
              have hS216 : St wd2 wd212 [bx b9 [(Value.slice none 0 0), (Value.int .i64 (0 : Int)), (Value.slice none 0 0), (Value.slice none 0 0)], bx b131 [v_c_Orders, (Value.int .i64 c_Modulus), v_c_Values, (f119 15)], (Ty.sl (Ty.sl (Ty.i .i64))).at (f119 15) x165] := St.extend hS184 he213
              obtain ⟨S217, hS218, hf219⟩ := hphi215 1 30 _ rfl rfl rfl
              have e220 : f211 30 = (f119 15) := hf219
              obtain ⟨S221, hS222, hf223⟩ := hphi215 2 31 _ rfl rfl rfl
              obtain ⟨e224, hr225⟩ : f211 31 = (Value.int .i64 (k141 : Int)) ∧ InR .i64 (k141 : Int) := hf223
              exact OpX.val (Value.pointer (some (elA (f119 15) ((k141 : Int)).toNat))) wd212 rfl (op_idx sl_27 (St.rep (t := (Ty.sl (Ty.sl (Ty.i .i64)))) hS216 2 rfl) e220 e224 ha227 hb228) (Ext.refl _) rfl
            · refine ObX.op rfl ?_
              intro f230 wd231 he232 hout233 hphi234
              have hS235 : St wd2 wd231 [bx b9 [(Value.slice none 0 0), (Value.int .i64 (0 : Int)), (Value.slice none 0 0), (Value.slice none 0 0)], bx b131 [v_c_Orders, (Value.int .i64 c_Modulus), v_c_Values, (f119 15)], (Ty.sl (Ty.sl (Ty.i .i64))).at (f119 15) x165] := St.extend hS184 he232
              obtain ⟨S236, hS237, hf238⟩ := hphi234 3 32 _ rfl rfl rfl
              have e239 : f230 32 = (Value.pointer (some (elA (f119 15) ((k141 : Int)).toNat))) := hf238
              exact OpX.val u240 wd231 rfl (op_load one_22 e239 (Ext.cell he232 hc241)) (Ext.refl _) rfl
            · refine ObX.op rfl ?_
              intro f243 wd244 he245 hout246 hphi247
              have hS248 : St wd2 wd244 [bx b9 [(Value.slice none 0 0), (Value.int .i64 (0 : Int)), (Value.slice none 0 0), (Value.slice none 0 0)], bx b131 [v_c_Orders, (Value.int .i64 c_Modulus), v_c_Values, (f119 15)], (Ty.sl (Ty.sl (Ty.i .i64))).at (f119 15) x165] := St.extend hS184 he245
              have e249 : f243 7 = (Value.int .i64 (k164 : Int)) := (hout246 7 rfl).trans rfl
              exact OpX.val (Value.int .i64 (k164 : Int)) wd244 rfl (op_move e249) (Ext.refl _) ⟨rfl, hr183⟩
            · refine ObX.op rfl ?_
              intro f250 wd251 he252 hout253 hphi254
              have hS255 : St wd2 wd251 [bx b9 [(Value.slice none 0 0), (Value.int .i64 (0 : Int)), (Value.slice none 0 0), (Value.slice none 0 0)], bx b131 [v_c_Orders, (Value.int .i64 c_Modulus), v_c_Values, (f119 15)], (Ty.sl (Ty.sl (Ty.i .i64))).at (f119 15) x165] := St.extend hS184 he252
              have e256 : f250 2 = (Value.pointer (some ⟨b1, 0, none⟩)) := (hout253 2 rfl).trans hf175
              exact OpX.val (Value.agg #[v_c_Orders, (Value.int .i64 c_Modulus), v_c_Values]) wd251 rfl (op_loadBox st_30 e256 (BoxAt.lift hS255.ext hx6) rfl rfl) (Ext.refl _) ⟨rfl, r_c_Modulus⟩
            · refine ObX.op rfl ?_
              intro f257 wd258 he259 hout260 hphi261
              have hS262 : St wd2 wd258 [bx b9 [(Value.slice none 0 0), (Value.int .i64 (0 : Int)), (Value.slice none 0 0), (Value.slice none 0 0)], bx b131 [v_c_Orders, (Value.int .i64 c_Modulus), v_c_Values, (f119 15)], (Ty.sl (Ty.sl (Ty.i .i64))).at (f119 15) x165] := St.extend hS184 he259
              have e263 : f257 1 = (Value.func (.func g_number) fst_number cap_number) := (hout260 1 rfl).trans hf174
              exact OpX.val (Value.func (.func g_number) fst_number cap_number) wd258 rfl (op_move e263) (Ext.refl _) rfl
            · refine ObX.op rfl ?_
              intro f264 wd265 he266 hout267 hphi268
              have hS269 : St wd2 wd265 [bx b9 [(Value.slice none 0 0), (Value.int .i64 (0 : Int)), (Value.slice none 0 0), (Value.slice none 0 0)], bx b131 [v_c_Orders, (Value.int .i64 c_Modulus), v_c_Values, (f119 15)], (Ty.sl (Ty.sl (Ty.i .i64))).at (f119 15) x165] := St.extend hS184 he266
              have e270 : f264 6 = (Value.int .i64 (k141 : Int)) := (hout267 6 rfl).trans hf178
              exact OpX.val (Value.int .i64 (k141 : Int)) wd265 rfl (op_move e270) (Ext.refl _) ⟨rfl, hr157⟩
            · refine ObX.op rfl ?_
              intro f271 wd272 he273 hout274 hphi275
              have hS276 : St wd2 wd272 [bx b9 [(Value.slice none 0 0), (Value.int .i64 (0 : Int)), (Value.slice none 0 0), (Value.slice none 0 0)], bx b131 [v_c_Orders, (Value.int .i64 c_Modulus), v_c_Values, (f119 15)], (Ty.sl (Ty.sl (Ty.i .i64))).at (f119 15) x165] := St.extend hS184 he273
              have e277 : f271 7 = (Value.int .i64 (k164 : Int)) := (hout274 7 rfl).trans rfl
              exact OpX.val (Value.int .i64 (k164 : Int)) wd272 rfl (op_move e277) (Ext.refl _) ⟨rfl, hr183⟩
            · refine ObX.op rfl ?_
              intro f278 wd279 he280 hout281 hphi282
              have hS283 : St wd2 wd279 [bx b9 [(Value.slice none 0 0), (Value.int .i64 (0 : Int)), (Value.slice none 0 0), (Value.slice none 0 0)], bx b131 [v_c_Orders, (Value.int .i64 c_Modulus), v_c_Values, (f119 15)], (Ty.sl (Ty.sl (Ty.i .i64))).at (f119 15) x165] := St.extend hS184 he280
              obtain ⟨S284, hS285, hf286⟩ := hphi282 7 36 _ rfl rfl rfl
              have e287 : f278 36 = (Value.func (.func g_number) fst_number cap_number) := hf286
              obtain ⟨S288, hS289, hf290⟩ := hphi282 8 37 _ rfl rfl rfl
              obtain ⟨e291, hr292⟩ : f278 37 = (Value.int .i64 (k141 : Int)) ∧ InR .i64 (k141 : Int) := hf290
              obtain ⟨S293, hS294, hf295⟩ := hphi282 9 38 _ rfl rfl rfl
              obtain ⟨e296, hr297⟩ : f278 38 = (Value.int .i64 (k164 : Int)) ∧ InR .i64 (k164 : Int) := hf295
              refine OpX.call rfl (op_callV e287 ok_number (args2 e291 e296)) (Ret.mono (call_number wd279 (k141 : Int) (k164 : Int) x298 (Ext.trans hE7 hS283.ext) hr292 hr297 hx299) ?_)
              rintro _ wd300 ⟨rfl, hr302, he301⟩
              exact ⟨he301, _, noS _ _, ⟨rfl, hr302⟩⟩
            · refine ObX.op rfl ?_
              intro f303 wd304 he305 hout306 hphi307
              have hS308 : St wd2 wd304 [bx b9 [(Value.slice none 0 0), (Value.int .i64 (0 : Int)), (Value.slice none 0 0), (Value.slice none 0 0)], bx b131 [v_c_Orders, (Value.int .i64 c_Modulus), v_c_Values, (f119 15)], (Ty.sl (Ty.sl (Ty.i .i64))).at (f119 15) x165] := St.extend hS184 he305
              obtain ⟨S309, hS310, hf311⟩ := hphi307 6 35 _ rfl rfl rfl
              obtain ⟨e312, hr313⟩ := hf311
              obtain ⟨S314, hS315, hf316⟩ := hphi307 10 39 _ rfl rfl rfl
              obtain ⟨e317, hr318⟩ : f303 39 = (Value.int .i64 x298) ∧ InR .i64 x298 := hf316
              refine OpX.call rfl (op_call fn_43 (args2 e312 e317)) (Ret.mono (c_impl_Cocycle_rest (Ty.lift _ (Ext.trans hE7 hS308.ext) r_c_Orders) hr313 (Ty.lift _ (Ext.trans hE7 hS308.ext) r_c_Values) hr318 hx320) ?_)
              rintro _ wd322 ⟨rfl, hr321, he323⟩
              exact ⟨he323, _, noS _ _, ⟨rfl, hr321⟩⟩
            · intro f325 wd326 Ss327 he328 hout329 hSn330 hSd331 hphi332
              show WL _ _ _ _ _ _ _
              have hS333 : St wd2 wd326 [bx b9 [(Value.slice none 0 0), (Value.int .i64 (0 : Int)), (Value.slice none 0 0), (Value.slice none 0 0)], bx b131 [v_c_Orders, (Value.int .i64 c_Modulus), v_c_Values, (f119 15)], (Ty.sl (Ty.sl (Ty.i .i64))).at (f119 15) x165] := St.extend hS184 he328
              have e334 : f325 33 = u240 := hphi332 4 33 _ (by decide) rfl rfl
              obtain ⟨e335, hr336⟩ : f325 34 = (Value.int .i64 (k164 : Int)) ∧ InR .i64 (k164 : Int) := hphi332 5 34 _ (by decide) rfl rfl
              obtain ⟨e337, hr338⟩ : f325 40 = (Value.int .i64 x319) ∧ InR .i64 x319 := hphi332 11 40 _ (by decide) rfl rfl
              have e339 : f325 1 = (Value.func (.func g_number) fst_number cap_number) := (hout329 1 rfl).trans hf174
              have e340 : f325 2 = (Value.pointer (some ⟨b1, 0, none⟩)) := (hout329 2 rfl).trans hf175
              have e341 : f325 4 = (Value.pointer (some ⟨b9, 0, none⟩)) := (hout329 4 rfl).trans hf176
              have e342 : f325 5 = (Value.pointer (some ⟨b131, 0, none⟩)) := (hout329 5 rfl).trans hf177
              have e343 : f325 6 = (Value.int .i64 (k141 : Int)) := (hout329 6 rfl).trans hf178
              have e344 : f325 19 = (Value.int .i64 ((x92).length : Int)) := (hout329 19 rfl).trans hf179
              have e345 : f325 20 = (Value.int .i64 (k141 : Int)) := (hout329 20 rfl).trans hf180
              have e346 : f325 25 = (Value.int .i64 ((x142).length : Int)) := (hout329 25 rfl).trans hf181
              have e347 : f325 26 = (Value.int .i64 (k164 : Int)) := (hout329 26 rfl).trans hf182
              obtain ⟨x348, hx351, hb170⟩ := bs hb170
              obtain ⟨ha349, hb350, hx351⟩ := idx_some hx351
              refine WL.val (Value.pointer (some (elA u240 ((k164 : Int)).toNat))) _ (op_idx sl_22 (Ty.lift _ he328 hr242) e334 e335 ha349 hb350) rfl ?_
              refine WL.storeEl2 (flat_i .i64) hS333 (k := 2) rfl sz_2 hx229 (Ext.cell he328 hc241) rfl e337 (lt_of_idx ha349 hb350) ⟨rfl, hr338⟩ ?_
              intro wd352 hS353
              replace hS353 : St wd2 wd352 [bx b9 [(Value.slice none 0 0), (Value.int .i64 (0 : Int)), (Value.slice none 0 0), (Value.slice none 0 0)], bx b131 [v_c_Orders, (Value.int .i64 c_Modulus), v_c_Values, (f119 15)], (Ty.sl (Ty.sl (Ty.i .i64))).at (f119 15) ((x165).set ((k141 : Int)).toNat ((x226).set ((k164 : Int)).toNat x319))] := hS353
              refine WL.nil ?_
              show W _ _ _ _ _ _
              refine W.region ?_
              refine WL.val (Value.int .i64 (w64 ((k164 : Int) + (1 : Int)))) _ (op_add e347 rfl) rfl ?_
              refine WL.val (Value.int .i64 (w64 ((k164 : Int) + (1 : Int)))) _ (op_move rfl) rfl ?_
              refine WL.nil ?_
              obtain rfl := Option.some.inj hb170
              show ∃ s, _ = Ctl.next s ∧ _
              exact ⟨_, rfl, e339, e340, e341, e342, e343, e344, e345, e346, (ctr_next hl185 hr161), (ctr_rng hl185 hr161), hS353⟩
          · intro x360 f355 wd356 hs357 hI358
            replace hI358 : f355 1 = (Value.func (.func g_number) fst_number cap_number) ∧ f355 2 = (Value.pointer (some ⟨b1, 0, none⟩)) ∧ f355 4 = (Value.pointer (some ⟨b9, 0, none⟩)) ∧ f355 5 = (Value.pointer (some ⟨b131, 0, none⟩)) ∧ f355 6 = (Value.int .i64 (k141 : Int)) ∧ f355 19 = (Value.int .i64 ((x92).length : Int)) ∧ f355 20 = (Value.int .i64 (k141 : Int)) ∧ f355 25 = (Value.int .i64 ((x142).length : Int)) ∧ f355 26 = Value.int .i64 (((x142).length : Nat) : Int) ∧ InR .i64 (((x142).length : Nat) : Int) ∧ St wd2 wd356 [bx b9 [(Value.slice none 0 0), (Value.int .i64 (0 : Int)), (Value.slice none 0 0), (Value.slice none 0 0)], bx b131 [v_c_Orders, (Value.int .i64 c_Modulus), v_c_Values, (f119 15)], (Ty.sl (Ty.sl (Ty.i .i64))).at (f119 15) x360] := hI358
            obtain ⟨hf361, hf362, hf363, hf364, hf365, hf366, hf367, hf368, hf369, hr370, hS371⟩ := hI358
            refine W.seq (W.region ?_)
            refine WL.val (Value.bool (decide ((((x142).length : Nat) : Int) < ((x142).length : Int)))) _ (op_lss hf369 hf368) rfl ?_
            have hl372 : ¬ (((x142).length : Nat) : Int) < ((x142).length : Int) := by omega
            refine WL.nil ?_
            show W _ _ _ _ _ _
            refine W.seq ?_
            refine W.condF (decide ((((x142).length : Nat) : Int) < ((x142).length : Int))) rfl (decide_eq_false hl372) ?_
            refine W.exit ?_
            show _ = _ ∧ _
            exact ⟨rfl, _, hs357, hf361, hf362, hf363, hf364, hf366, hf367, hS371⟩
        · rintro f373 wd374 ⟨x377, rfl, hq375⟩
          replace hb147 := onRes_fin hb147
          replace hq375 : f373 1 = (Value.func (.func g_number) fst_number cap_number) ∧ f373 2 = (Value.pointer (some ⟨b1, 0, none⟩)) ∧ f373 4 = (Value.pointer (some ⟨b9, 0, none⟩)) ∧ f373 5 = (Value.pointer (some ⟨b131, 0, none⟩)) ∧ f373 19 = (Value.int .i64 ((x92).length : Int)) ∧ f373 20 = (Value.int .i64 (k141 : Int)) ∧ St wd2 wd374 [bx b9 [(Value.slice none 0 0), (Value.int .i64 (0 : Int)), (Value.slice none 0 0), (Value.slice none 0 0)], bx b131 [v_c_Orders, (Value.int .i64 c_Modulus), v_c_Values, (f119 15)], (Ty.sl (Ty.sl (Ty.i .i64))).at (f119 15) x377] := hq375
          obtain ⟨hf378, hf379, hf380, hf381, hf382, hf383, hS384⟩ := hq375
          show W _ _ _ _ _ _
          refine W.region ?_
          refine WL.val (Value.int .i64 (w64 ((k141 : Int) + (1 : Int)))) _ (op_add hf383 rfl) rfl ?_
          refine WL.val (Value.int .i64 (w64 ((k141 : Int) + (1 : Int)))) _ (op_move rfl) rfl ?_
          refine WL.nil ?_
          obtain rfl := Option.some.inj hb147
          show ∃ s, _ = Ctl.next s ∧ _
          exact ⟨_, rfl, hf378, hf379, hf380, hf381, hf382, (ctr_next hl159 hr138), (ctr_rng hl159 hr138), hS384⟩
      · intro x392 f387 wd388 hs389 hI390
        replace hI390 : f387 1 = (Value.func (.func g_number) fst_number cap_number) ∧ f387 2 = (Value.pointer (some ⟨b1, 0, none⟩)) ∧ f387 4 = (Value.pointer (some ⟨b9, 0, none⟩)) ∧ f387 5 = (Value.pointer (some ⟨b131, 0, none⟩)) ∧ f387 19 = (Value.int .i64 ((x92).length : Int)) ∧ f387 20 = Value.int .i64 (((x92).length : Nat) : Int) ∧ InR .i64 (((x92).length : Nat) : Int) ∧ St wd2 wd388 [bx b9 [(Value.slice none 0 0), (Value.int .i64 (0 : Int)), (Value.slice none 0 0), (Value.slice none 0 0)], bx b131 [v_c_Orders, (Value.int .i64 c_Modulus), v_c_Values, (f119 15)], (Ty.sl (Ty.sl (Ty.i .i64))).at (f119 15) x392] := hI390
        obtain ⟨hf393, hf394, hf395, hf396, hf397, hf398, hr399, hS400⟩ := hI390
        refine W.seq (W.region ?_)
        refine WL.val (Value.bool (decide ((((x92).length : Nat) : Int) < ((x92).length : Int)))) _ (op_lss hf398 hf397) rfl ?_
        have hl401 : ¬ (((x92).length : Nat) : Int) < ((x92).length : Int) := by omega
        refine WL.nil ?_
        show W _ _ _ _ _ _
        refine W.seq ?_
        refine W.condF (decide ((((x92).length : Nat) : Int) < ((x92).length : Int))) rfl (decide_eq_false hl401) ?_
        refine W.exit ?_
        show _ = _ ∧ _
        exact ⟨rfl, _, hs389, hf395, hf396, hS400⟩
    · rintro f402 wd403 ⟨x406, rfl, hq404⟩
      replace h := onRes_fin h
      replace hq404 : f402 4 = (Value.pointer (some ⟨b9, 0, none⟩)) ∧ f402 5 = (Value.pointer (some ⟨b131, 0, none⟩)) ∧ St wd2 wd403 [bx b9 [(Value.slice none 0 0), (Value.int .i64 (0 : Int)), (Value.slice none 0 0), (Value.slice none 0 0)], bx b131 [v_c_Orders, (Value.int .i64 c_Modulus), v_c_Values, (f119 15)], (Ty.sl (Ty.sl (Ty.i .i64))).at (f119 15) x406] := hq404
      obtain ⟨hf407, hf408, hS409⟩ := hq404
      show W _ _ _ _ _ _
      refine W.seq (W.region ?_)
      refine WL.val (Value.agg #[v_c_Orders, (Value.int .i64 c_Modulus), v_c_Values, (f119 15)]) _ (op_loadBox st_42 hf408 (St.boxAt hS409 1 rfl) rfl rfl) rfl ?_
      refine WL.storeBox [v_c_Orders, (Value.int .i64 c_Modulus), v_c_Values, (f119 15)] hS409 (k := 0) rfl hf407 rfl (us := [v_c_Orders, (Value.int .i64 c_Modulus), v_c_Values, (f119 15)]) rfl sz_42 rfl rfl (all_rep (Ty.lift _ (Ext.trans hE7 hS409.ext) r_c_Orders) (all_cons rfl (all_rep (Ty.lift _ (Ext.trans hE7 hS409.ext) r_c_Values) (all_rep (St.rep (t := (Ty.sl (Ty.sl (Ty.i .i64)))) hS409 2 rfl) all_nil)))) rfl ?_
      intro wd410 hS411
      replace hS411 : St wd2 wd410 [bx b9 [v_c_Orders, (Value.int .i64 c_Modulus), v_c_Values, (f119 15)], bx b131 [v_c_Orders, (Value.int .i64 c_Modulus), v_c_Values, (f119 15)], (Ty.sl (Ty.sl (Ty.i .i64))).at (f119 15) x406] := hS411
      refine WL.nil ?_
      show W _ _ _ _ _ _
      refine W.ret ?_
      obtain rfl := Option.some.inj h
      show FinP _ _ _ _ _ _ _
      exact FinP.ret _ (resC rfl hf407 st_42 (St.boxAt hS411 0 rfl) rfl) ⟨(f119 15), rfl, r_c_Modulus, (Ext.trans hE7 hS411.ext), (St.out (St.pick hS411 [2] rfl) (hE7))⟩

theorem c_impl_CoboundaryBraiding {w : World} {orders : (List Int)} {v_orders : Value} {m : Int} {f1 : (List (List Int))} {v_f1 : Value} (r_orders : (Ty.sl (Ty.i .i64)).rep w v_orders orders) (r_m : InR .i64 m) (r_f1 : (Ty.sl (Ty.sl (Ty.i .i64))).rep w v_f1 f1) {res : (List Int) × Int × (List (List (List Int))) × (List (List Int)) × Int} (h : p_impl_CoboundaryBraiding orders m f1  = some res) :
    Ret Try.prog 26 #[v_orders, (Value.int .i64 m), v_f1] w (fun v w' => ∃ (u0 : Value) (u2 : Value) (u3 : Value), v = (Value.tuple #[(Value.agg #[u0, Value.int .i64 res.2.1, u2, u3]), Value.int .i64 res.2.2.2.2]) ∧ InR .i64 res.2.1 ∧ InR .i64 res.2.2.2.2 ∧ Ext w w' ∧ Sep w.heap.size w' [(Ty.sl (Ty.i .i64)).at u0 res.1, (Ty.sl (Ty.sl (Ty.sl (Ty.i .i64)))).at u2 res.2.2.1, (Ty.sl (Ty.sl (Ty.i .i64))).at u3 res.2.2.2.1]) := by
  unfold p_impl_CoboundaryBraiding at h
  have hS0 : St w w [] := St.start w
  refine Ret.start (fn := Try.f26) Try.func26 rfl 23 rfl rfl ?_
  refine W.seq (W.region ?_)
  refine WL.box hS0 rfl (cs := [v_f1]) (cells_rep (Ty.lift _ hS0.ext r_f1)) rfl ?_
  intro b1 wd2 hS3 he4 hx5
  replace hS3 : St w wd2 [bx b1 [v_f1]] := hS3
  have hx6 := St.boxAt hS3 0 rfl
  have hE7 : Ext w wd2 := hS3.ext
  have hS8 : St wd2 wd2 [] := St.start wd2
  refine WL.alloc hS8 ze_42 (cs := [(Value.slice none 0 0), (Value.int .i64 (0 : Int)), (Value.slice none 0 0), (Value.slice none 0 0)]) rfl rfl ?_
  intro b9 wd10 hS11 he12
  replace hS11 : St wd2 wd10 [bx b9 [(Value.slice none 0 0), (Value.int .i64 (0 : Int)), (Value.slice none 0 0), (Value.slice none 0 0)]] := hS11
  refine WL.val (Value.int .i64 (0 : Int)) _ (op_assign rfl) rfl ?_
  refine WL.nil ?_
  show W _ _ _ _ _ _
  refine W.seq (W.seq (W.region ?_))
  refine WL.val v_orders _ (op_move rfl) rfl ?_
  refine WL.val (Value.int .i64 m) _ (op_move rfl) rfl ?_
  refine WL.val v_f1 _ (op_load one_27 rfl (BoxAt.cell (BoxAt.lift hS11.ext hx6) rfl)) rfl ?_
  obtain ⟨x13, hx14, h⟩ := bs h
  refine WL.call _ (op_call fn_52 (args3 rfl rfl rfl)) (c_impl_pairingCode (Ty.lift _ (Ext.trans hE7 hS11.ext) r_orders) r_m (Ty.lift _ (Ext.trans hE7 hS11.ext) r_f1) hx14) rfl ?_
  rintro _ wd16 ⟨rfl, hr15, he17⟩
  have hS19 := St.extend hS11 he17
  replace hS19 : St wd2 wd16 [bx b9 [(Value.slice none 0 0), (Value.int .i64 (0 : Int)), (Value.slice none 0 0), (Value.slice none 0 0)]] := hS19
  refine WL.val (Value.int .i64 x13) _ (op_assign rfl) rfl ?_
  refine WL.nil ?_
  show W _ _ _ _ _ _
  refine W.seq (W.region ?_)
  refine WL.val (Value.int .i64 x13) _ (op_move rfl) rfl ?_
  refine WL.val (Value.bool (x13 != (0 : Int))) _ (op_neq rfl rfl) rfl ?_
  refine WL.nil ?_
  show W _ _ _ _ _ _
  refine W.cond (x13 != (0 : Int)) rfl (fun hc20 => ?_) (fun hc20 => ?_)
  · replace h := ip h hc20
    refine W.seq (W.region ?_)
    refine WL.val (Value.agg #[(Value.slice none 0 0), (Value.int .i64 (0 : Int)), (Value.slice none 0 0), (Value.slice none 0 0)]) _ (op_build bd_42 (parts := []) (partsL trivial) trivial rfl) rfl ?_
    refine WL.val (Value.int .i64 x13) _ (op_move rfl) rfl ?_
    have hS24 := St.addNil (Ty.i .i64) hS19
    replace hS24 : St wd2 wd16 [bx b9 [(Value.slice none 0 0), (Value.int .i64 (0 : Int)), (Value.slice none 0 0), (Value.slice none 0 0)], (Ty.sl (Ty.i .i64)).at (Value.slice none 0 0) ([] : (List Int))] := hS24
    have hS25 := St.addNil (Ty.sl (Ty.sl (Ty.i .i64))) hS24
    replace hS25 : St wd2 wd16 [bx b9 [(Value.slice none 0 0), (Value.int .i64 (0 : Int)), (Value.slice none 0 0), (Value.slice none 0 0)], (Ty.sl (Ty.i .i64)).at (Value.slice none 0 0) ([] : (List Int)), (Ty.sl (Ty.sl (Ty.sl (Ty.i .i64)))).at (Value.slice none 0 0) ([] : (List (List (List Int))))] := hS25
    have hS26 := St.addNil (Ty.sl (Ty.i .i64)) hS25
    replace hS26 : St wd2 wd16 [bx b9 [(Value.slice none 0 0), (Value.int .i64 (0 : Int)), (Value.slice none 0 0), (Value.slice none 0 0)], (Ty.sl (Ty.i .i64)).at (Value.slice none 0 0) ([] : (List Int)), (Ty.sl (Ty.sl (Ty.sl (Ty.i .i64)))).at (Value.slice none 0 0) ([] : (List (List (List Int)))), (Ty.sl (Ty.sl (Ty.i .i64))).at (Value.slice none 0 0) ([] : (List (List Int)))] := hS26
    refine WL.storeBox [(Value.slice none 0 0), (Value.int .i64 (0 : Int)), (Value.slice none 0 0), (Value.slice none 0 0)] hS26 (k := 0) rfl rfl rfl (us := [(Value.slice none 0 0), (Value.int .i64 (0 : Int)), (Value.slice none 0 0), (Value.slice none 0 0)]) rfl sz_42 rfl rfl (all_rep (St.rep (t := (Ty.sl (Ty.i .i64))) hS26 1 rfl) (all_cons rfl (all_rep (St.rep (t := (Ty.sl (Ty.sl (Ty.sl (Ty.i .i64))))) hS26 2 rfl) (all_rep (St.rep (t := (Ty.sl (Ty.sl (Ty.i .i64)))) hS26 3 rfl) all_nil)))) rfl ?_
    intro wd22 hS23
    replace hS23 : St wd2 wd22 [bx b9 [(Value.slice none 0 0), (Value.int .i64 (0 : Int)), (Value.slice none 0 0), (Value.slice none 0 0)], (Ty.sl (Ty.i .i64)).at (Value.slice none 0 0) ([] : (List Int)), (Ty.sl (Ty.sl (Ty.sl (Ty.i .i64)))).at (Value.slice none 0 0) ([] : (List (List (List Int)))), (Ty.sl (Ty.sl (Ty.i .i64))).at (Value.slice none 0 0) ([] : (List (List Int)))] := hS23
    refine WL.val (Value.int .i64 x13) _ (op_assign rfl) rfl ?_
    refine WL.nil ?_
    show W _ _ _ _ _ _
    refine W.ret ?_
    obtain rfl := Option.some.inj h
    show FinP _ _ _ _ _ _ _
    exact FinP.ret _ (resCT rfl rfl st_42 (St.boxAt hS23 0 rfl) rfl rfl) ⟨(Value.slice none 0 0), (Value.slice none 0 0), (Value.slice none 0 0), rfl, (inR_i64.2 (show (-9223372036854775808 : Int) ≤ 0 ∧ (0 : Int) ≤ 9223372036854775807 from by decide)), hr15, (Ext.trans hE7 hS23.ext), (St.out (St.pick hS23 [1, 2, 3] rfl) (hE7))⟩
  · replace h := inegb h hc20
    refine W.skip ?_
    show W _ _ _ _ _ _
    refine W.seq (W.region ?_)
    refine WL.val v_orders _ (op_move rfl) rfl ?_
    refine WL.val (Value.int .i64 m) _ (op_move rfl) rfl ?_
    refine WL.val v_f1 _ (op_load one_27 rfl (BoxAt.cell (BoxAt.lift hS19.ext hx6) rfl)) rfl ?_
    obtain ⟨x27, hx28, h⟩ := bs h
    refine WL.call _ (op_call fn_54 (args3 rfl rfl rfl)) (c_impl_coboundary (Ty.lift _ (Ext.trans hE7 hS19.ext) r_orders) r_m (Ty.lift _ (Ext.trans hE7 hS19.ext) r_f1) hx28) rfl ?_
    rintro _ wd32 ⟨u29, u31, rfl, hr30, he33, hs34⟩
    have hS35 := St.join hS19 he33 hs34
    replace hS35 : St wd2 wd32 [bx b9 [(Value.slice none 0 0), (Value.int .i64 (0 : Int)), (Value.slice none 0 0), (Value.slice none 0 0)], (Ty.sl (Ty.i .i64)).at u29 x27.1, (Ty.sl (Ty.sl (Ty.sl (Ty.i .i64)))).at u31 x27.2.2] := hS35
    refine WL.val (Value.func (.func 55) #[] #[(Value.pointer (some ⟨b1, 0, none⟩))]) _ (op_makeFunc (va := #[]) (vb := #[(Value.pointer (some ⟨b1, 0, none⟩))]) args0 (args1 rfl)) rfl ?_
    obtain ⟨x40, hx41, h⟩ := bs h
    refine WL.call _ (op_call fn_53 (args2 rfl rfl)) (c_impl_braidingBy (St.rep (t := (Ty.sl (Ty.i .i64))) hS35 1 rfl) hr30 (St.rep (t := (Ty.sl (Ty.sl (Ty.sl (Ty.i .i64))))) hS35 2 rfl) (⟨55, #[], #[(Value.pointer (some ⟨b1, 0, none⟩))], rfl, fn_55, fun wd36 a0_37 a1_37 r38 he37 ra0_37 ra1_37 hq39 => c_impl_CoboundaryBraiding_c1 ra0_37 ra1_37 (BoxAt.lift (Ext.trans hS35.ext he37) hx6) (Ty.lift _ (Ext.trans (Ext.trans hE7 hS35.ext) he37) r_f1) hq39⟩) hx41) rfl ?_
    rintro _ wd44 ⟨u43, rfl, hr42, he45, hs46⟩
    have hS47 := St.join hS35 he45 hs46
    replace hS47 : St wd2 wd44 [bx b9 [(Value.slice none 0 0), (Value.int .i64 (0 : Int)), (Value.slice none 0 0), (Value.slice none 0 0)], (Ty.sl (Ty.i .i64)).at u29 x27.1, (Ty.sl (Ty.sl (Ty.sl (Ty.i .i64)))).at u31 x27.2.2, (Ty.sl (Ty.sl (Ty.i .i64))).at u43 x40.2.2.2] := hS47
    refine WL.storeBox [u29, (Value.int .i64 x40.2.1), u31, u43] hS47 (k := 0) rfl rfl rfl (us := [u29, (Value.int .i64 x40.2.1), u31, u43]) rfl sz_42 rfl rfl (all_rep (St.rep (t := (Ty.sl (Ty.i .i64))) hS47 1 rfl) (all_cons rfl (all_rep (St.rep (t := (Ty.sl (Ty.sl (Ty.sl (Ty.i .i64))))) hS47 2 rfl) (all_rep (St.rep (t := (Ty.sl (Ty.sl (Ty.i .i64)))) hS47 3 rfl) all_nil)))) rfl ?_
    intro wd48 hS49
    replace hS49 : St wd2 wd48 [bx b9 [u29, (Value.int .i64 x40.2.1), u31, u43], (Ty.sl (Ty.i .i64)).at u29 x27.1, (Ty.sl (Ty.sl (Ty.sl (Ty.i .i64)))).at u31 x27.2.2, (Ty.sl (Ty.sl (Ty.i .i64))).at u43 x40.2.2.2] := hS49
    refine WL.val (Value.int .i64 (0 : Int)) _ (op_assign rfl) rfl ?_
    refine WL.nil ?_
    show W _ _ _ _ _ _
    refine W.ret ?_
    obtain rfl := Option.some.inj h
    show FinP _ _ _ _ _ _ _
    exact FinP.ret _ (resCT rfl rfl st_42 (St.boxAt hS49 0 rfl) rfl rfl) ⟨u29, u31, u43, rfl, hr42, (inR_i64.2 (show (-9223372036854775808 : Int) ≤ 0 ∧ (0 : Int) ≤ 9223372036854775807 from by decide)), (Ext.trans hE7 hS49.ext), (St.out (St.pick hS49 [1, 2, 3] rfl) (hE7))⟩

end Go.VG
