/- The walks, part 3: each Go function returns what its plain twin returns. No condition beyond what each names. -/
import Derived.Test.YtppnedfpdobgiaaGWalk2
set_option linter.all false
namespace Go.VG
open Go.Proofs
attribute [local irreducible] W WL Sep FinP

theorem c_spec_InvertibleSubring {w : World} {r_Table : (List (List (List Int)))} {v_r_Table : Value} (r_r_Table : (Ty.sl (Ty.sl (Ty.sl (Ty.i .i64)))).rep w v_r_Table r_Table) {res : Int × Int} (h : p_spec_InvertibleSubring r_Table  = some res) :
    Ret Try.prog 18 #[(Value.agg #[v_r_Table])] w (fun v w' => v = (Value.tuple #[Value.int .i64 res.1, Value.int .i64 res.2]) ∧ InR .i64 res.1 ∧ InR .i64 res.2 ∧ Ext w w') := by
  unfold p_spec_InvertibleSubring at h
  have hS0 : St w w [] := St.start w
  refine Ret.start (fn := Try.f18) Try.func18 rfl 25 rfl rfl ?_
  refine W.seq ?_
  refine W.region ?_
  refine WL.box hS0 rfl (cs := [v_r_Table]) rfl rfl ?_
  intro b1 wd2 hS3 he4 hx5
  replace hS3 : St w wd2 [bx b1 [v_r_Table]] := hS3
  have hx6 := St.boxAt hS3 0 rfl
  have hE7 : Ext w wd2 := hS3.ext
  have hS8 : St wd2 wd2 [] := St.start wd2
  refine WL.val (Value.int .i64 (0 : Int)) _ (op_assign rfl) rfl ?_
  refine WL.val (Value.int .i64 (0 : Int)) _ (op_assign rfl) rfl ?_
  refine WL.nil ?_
  show W _ _ _ _ _ _
  refine W.seq ?_
  refine W.seq ?_
  refine W.region ?_
  refine WL.val (Value.agg #[v_r_Table]) _ (op_loadBox st_29 rfl (BoxAt.lift hS8.ext hx6) rfl rfl) rfl ?_
  obtain ⟨x9, hx10, h⟩ := bs h
  refine WL.call _ (op_call fn_37 (args1 rfl)) (c_spec_l03Is (Ty.lift _ (Ext.trans hE7 hS8.ext) r_r_Table) hx10) rfl ?_
  rintro _ wd11 ⟨rfl, he12⟩
  have hS14 := St.extend hS8 he12
  replace hS14 : St wd2 wd11 [] := hS14
  refine WL.val (Value.bool (!x9)) _ (op_not rfl) rfl ?_
  refine WL.nil ?_
  show W _ _ _ _ _ _
  refine W.cond (!x9) rfl (fun hc15 => ?_) (fun hc15 => ?_)
  · replace h := ip h hc15
    refine W.seq ?_
    refine W.region ?_
    refine WL.val (Value.int .i64 (0 : Int)) _ (op_assign rfl) rfl ?_
    refine WL.val (Value.int .i64 (1 : Int)) _ (op_assign rfl) rfl ?_
    refine WL.nil ?_
    show W _ _ _ _ _ _
    refine W.ret ?_
    obtain rfl := Option.some.inj h
    show FinP _ _ _ _ _ _ _
    exact FinP.ret _ (res2 rfl rfl rfl) ⟨rfl, (inR_i64.2 (show (-9223372036854775808 : Int) ≤ 0 ∧ (0 : Int) ≤ 9223372036854775807 from by decide)), (inR_i64.2 (show (-9223372036854775808 : Int) ≤ 1 ∧ (1 : Int) ≤ 9223372036854775807 from by decide)), (Ext.trans hE7 hS14.ext)⟩
  · replace h := inegb h hc15
    refine W.skip ?_
    show W _ _ _ _ _ _
    refine W.seq ?_
    refine W.region ?_
    refine WL.val (Value.int .i64 (0 : Int)) _ (op_assign rfl) rfl ?_
    refine WL.nil ?_
    show W _ _ _ _ _ _
    refine W.seq ?_
    refine W.seq ?_
    refine W.region ?_
    refine WL.val (Value.int .i64 (0 : Int)) _ (op_assign rfl) rfl ?_
    refine WL.nil ?_
    show W _ _ _ _ _ _
    obtain ⟨res17, hres18, h⟩ := bs h
    refine W.blockLoop (fun fq wq => ∃ s, res17 = Res.fin s ∧ fq 4 = Value.int .i64 s ∧ InR .i64 s ∧ St wd2 wq []) ?_ ?_
    · refine W.forN (fun k s fq wq => fq 1 = (Value.pointer (some ⟨b1, 0, none⟩)) ∧ fq 4 = Value.int .i64 s ∧ InR .i64 s ∧ fq 5 = Value.int .i64 (k : Int) ∧ InR .i64 (k : Int) ∧ St wd2 wq []) hres18 ⟨rfl, rfl, (inR_i64.2 (show (-9223372036854775808 : Int) ≤ 0 ∧ (0 : Int) ≤ 9223372036854775807 from by decide)), rfl, (inR_i64.2 (show (-9223372036854775808 : Int) ≤ 0 ∧ (0 : Int) ≤ 9223372036854775807 from by decide)), hS14⟩ ?_ ?_
      · intro k19 x20 ct21 f22 wd23 hk24 hb25 hI26 hbrk27 hret28
        replace hI26 : f22 1 = (Value.pointer (some ⟨b1, 0, none⟩)) ∧ f22 4 = Value.int .i64 x20 ∧ InR .i64 x20 ∧ f22 5 = Value.int .i64 (k19 : Int) ∧ InR .i64 (k19 : Int) ∧ St wd2 wd23 [] := hI26
        replace hb25 : p_spec_InvertibleSubring_L1 r_Table k19 x20 = some ct21 := hb25
        unfold p_spec_InvertibleSubring_L1 at hb25
        obtain ⟨hf29, hf30, hr31, hf32, hr33, hS34⟩ := hI26
        refine W.seq ?_
        refine W.seq ?_
        refine W.region ?_
        refine WL.val (Value.int .i64 (k19 : Int)) _ (op_move hf32) rfl ?_
        refine WL.val (Value.pointer (some ⟨b1, 0, none⟩)) _ (op_fieldAddr fd_29_0 hf29) rfl ?_
        refine WL.val v_r_Table _ (op_load one_22 rfl (BoxAt.cell (BoxAt.lift hS34.ext hx6) rfl)) rfl ?_
        have hr35 := inR_len (Ty.lift _ (Ext.trans hE7 hS34.ext) r_r_Table)
        refine WL.val (Value.int .i64 ((r_Table).length : Int)) _ (op_lenL sl_22 (Ty.lift _ (Ext.trans hE7 hS34.ext) r_r_Table) rfl) rfl ?_
        refine WL.val (Value.bool (decide ((k19 : Int) < ((r_Table).length : Int)))) _ (op_lss rfl rfl) rfl ?_
        have hl36 : (k19 : Int) < ((r_Table).length : Int) := by omega
        refine WL.nil ?_
        show W _ _ _ _ _ _
        refine W.condT (decide ((k19 : Int) < ((r_Table).length : Int))) rfl (decide_eq_true hl36) ?_
        refine W.skip ?_
        show W _ _ _ _ _ _
        refine W.seq ?_
        refine W.block ?_
        refine W.seq ?_
        refine W.region ?_
        refine WL.val (Value.agg #[v_r_Table]) _ (op_loadBox st_29 hf29 (BoxAt.lift hS34.ext hx6) rfl rfl) rfl ?_
        refine WL.val (Value.int .i64 (k19 : Int)) _ (op_move hf32) rfl ?_
        obtain ⟨x38, hx39, hb25⟩ := bs hb25
        refine WL.call _ (op_call fn_45 (args2 rfl rfl)) (c_spec_l04Invertible (Ty.lift _ (Ext.trans hE7 hS34.ext) r_r_Table) hr33 hx39) rfl ?_
        rintro _ wd40 ⟨rfl, he41⟩
        have hS43 := St.extend hS34 he41
        replace hS43 : St wd2 wd40 [] := hS43
        refine WL.nil ?_
        show W _ _ _ _ _ _
        obtain ⟨x44, hj45, hb25⟩ := bs hb25
        refine W.cutCode (fun fq wq => fq 1 = (Value.pointer (some ⟨b1, 0, none⟩)) ∧ fq 4 = Value.int .i64 x44 ∧ InR .i64 x44 ∧ fq 5 = (Value.int .i64 (k19 : Int)) ∧ St wd2 wq []) ?_ ?_
        · refine W.cond x38 rfl (fun hc46 => ?_) (fun hc46 => ?_)
          · replace hj45 := ip hj45 hc46
            refine W.region ?_
            refine WL.val (Value.int .i64 x20) _ (op_move hf30) rfl ?_
            refine WL.val (Value.int .i64 (k19 : Int)) _ (op_move hf32) rfl ?_
            refine WL.val (Value.int .u64 (IntKind.u64.wrap (k19 : Int))) _ (op_convert rfl it_2 it_56) rfl ?_
            obtain ⟨x47, hz48, hj45⟩ := bs hj45
            obtain ⟨h049, hz48⟩ := shlI_some hz48
            have hr50 : InR .i64 x47 := by rw [hz48]; exact inR_wrap _ _
            refine WL.val (Value.int .i64 x47) _ (by rw [hz48]; exact op_shl rfl rfl h049) rfl ?_
            refine WL.val (Value.int .i64 (orI .i64 x20 x47)) _ (op_or rfl rfl) rfl ?_
            refine WL.val (Value.int .i64 (orI .i64 x20 x47)) _ (op_assign rfl) rfl ?_
            refine WL.nil ?_
            obtain rfl := Option.some.inj hj45
            exact ⟨hf29, rfl, (inR_wrap _ _), hf32, hS43⟩
          · replace hj45 := inegb hj45 hc46
            refine W.skip ?_
            obtain rfl := Option.some.inj hj45
            exact ⟨hf29, hf30, hr31, hf32, hS43⟩
        · intro f51 wd52 hq53
          obtain ⟨hf54, hf55, hr56, hf57, hS58⟩ := hq53
          show W _ _ _ _ _ _
          refine W.region ?_
          refine WL.val (Value.int .i64 (k19 : Int)) _ (op_move hf57) rfl ?_
          refine WL.val (Value.int .i64 (w64 ((k19 : Int) + (1 : Int)))) _ (op_add rfl rfl) rfl ?_
          refine WL.val (Value.int .i64 (w64 ((k19 : Int) + (1 : Int)))) _ (op_assign rfl) rfl ?_
          refine WL.nil ?_
          obtain rfl := Option.some.inj hb25
          show ∃ s, _ = Ctl.next s ∧ _
          exact ⟨_, rfl, hf54, hf55, hr56, (ctr_next hl36 hr35), (ctr_rng hl36 hr35), hS58⟩
      · intro x65 f60 wd61 hs62 hI63
        replace hI63 : f60 1 = (Value.pointer (some ⟨b1, 0, none⟩)) ∧ f60 4 = Value.int .i64 x65 ∧ InR .i64 x65 ∧ f60 5 = Value.int .i64 (((r_Table).length : Nat) : Int) ∧ InR .i64 (((r_Table).length : Nat) : Int) ∧ St wd2 wd61 [] := hI63
        obtain ⟨hf66, hf67, hr68, hf69, hr70, hS71⟩ := hI63
        refine W.seq ?_
        refine W.seq ?_
        refine W.region ?_
        refine WL.val (Value.int .i64 (((r_Table).length : Nat) : Int)) _ (op_move hf69) rfl ?_
        refine WL.val (Value.pointer (some ⟨b1, 0, none⟩)) _ (op_fieldAddr fd_29_0 hf66) rfl ?_
        refine WL.val v_r_Table _ (op_load one_22 rfl (BoxAt.cell (BoxAt.lift hS71.ext hx6) rfl)) rfl ?_
        have hr72 := inR_len (Ty.lift _ (Ext.trans hE7 hS71.ext) r_r_Table)
        refine WL.val (Value.int .i64 ((r_Table).length : Int)) _ (op_lenL sl_22 (Ty.lift _ (Ext.trans hE7 hS71.ext) r_r_Table) rfl) rfl ?_
        refine WL.val (Value.bool (decide ((((r_Table).length : Nat) : Int) < ((r_Table).length : Int)))) _ (op_lss rfl rfl) rfl ?_
        have hl73 : ¬ (((r_Table).length : Nat) : Int) < ((r_Table).length : Int) := by omega
        refine WL.nil ?_
        show W _ _ _ _ _ _
        refine W.condF (decide ((((r_Table).length : Nat) : Int) < ((r_Table).length : Int))) rfl (decide_eq_false hl73) ?_
        refine W.exit ?_
        show _ = _ ∧ _
        exact ⟨rfl, _, hs62, hf67, hr68, hS71⟩
    · rintro f74 wd75 ⟨x78, rfl, hq76⟩
      replace h := onRes_fin h
      replace hq76 : f74 4 = Value.int .i64 x78 ∧ InR .i64 x78 ∧ St wd2 wd75 [] := hq76
      obtain ⟨hf79, hr80, hS81⟩ := hq76
      show W _ _ _ _ _ _
      refine W.seq ?_
      refine W.region ?_
      refine WL.val (Value.int .i64 x78) _ (op_move hf79) rfl ?_
      refine WL.val (Value.int .i64 x78) _ (op_assign rfl) rfl ?_
      refine WL.val (Value.int .i64 (0 : Int)) _ (op_assign rfl) rfl ?_
      refine WL.nil ?_
      show W _ _ _ _ _ _
      refine W.ret ?_
      obtain rfl := Option.some.inj h
      show FinP _ _ _ _ _ _ _
      exact FinP.ret _ (res2 rfl rfl rfl) ⟨rfl, hr80, (inR_i64.2 (show (-9223372036854775808 : Int) ≤ 0 ∧ (0 : Int) ≤ 9223372036854775807 from by decide)), (Ext.trans hE7 hS81.ext)⟩

theorem c_impl_Ring_vectorOf {w : World} {r_Table : (List (List (List Int)))} {v_r_Table : Value} {i : Int} (r_r_Table : (Ty.sl (Ty.sl (Ty.sl (Ty.i .i64)))).rep w v_r_Table r_Table) (r_i : InR .i64 i) {res : (List Int)} (h : p_impl_Ring_vectorOf r_Table i  = some res) :
    Ret Try.prog 60 #[(Value.agg #[v_r_Table]), (Value.int .i64 i)] w (fun v w' => ∃ (u0 : Value), v = u0 ∧ Ext w w' ∧ Sep w.heap.size w' [(Ty.sl (Ty.i .i64)).at u0 res]) := by
  unfold p_impl_Ring_vectorOf at h
  have hS0 : St w w [] := St.start w
  refine Ret.start (fn := Try.f60) Try.func60 rfl 14 rfl rfl ?_
  refine W.seq ?_
  refine W.region ?_
  refine WL.box hS0 rfl (cs := [v_r_Table]) rfl rfl ?_
  intro b1 wd2 hS3 he4 hx5
  replace hS3 : St w wd2 [bx b1 [v_r_Table]] := hS3
  have hx6 := St.boxAt hS3 0 rfl
  have hE7 : Ext w wd2 := hS3.ext
  have hS8 : St wd2 wd2 [] := St.start wd2
  refine WL.val (Value.slice none 0 0) _ (op_assign rfl) rfl ?_
  refine WL.nil ?_
  show W _ _ _ _ _ _
  refine W.seq ?_
  refine W.region ?_
  refine WL.val (Value.pointer (some ⟨b1, 0, none⟩)) _ (op_fieldAddr fd_29_0 rfl) rfl ?_
  refine WL.val v_r_Table _ (op_load one_22 rfl (BoxAt.cell (BoxAt.lift hS8.ext hx6) rfl)) rfl ?_
  have hr9 := inR_len (Ty.lift _ (Ext.trans hE7 hS8.ext) r_r_Table)
  refine WL.val (Value.int .i64 ((r_Table).length : Int)) _ (op_lenL sl_22 (Ty.lift _ (Ext.trans hE7 hS8.ext) r_r_Table) rfl) rfl ?_
  obtain ⟨x10, hx11, h⟩ := bs h
  refine WL.make (t := (Ty.i .i64)) hS8 sl_25 (fun _ _ => ⟨rfl, (inR_i64.2 (show (-9223372036854775808 : Int) ≤ 0 ∧ (0 : Int) ≤ 9223372036854775807 from by decide))⟩) rfl rfl hx11 rfl rfl ?_
  intro u12 wd13 hS14 he15
  replace hS14 : St wd2 wd13 [(Ty.sl (Ty.i .i64)).at u12 x10] := hS14
  refine WL.val u12 _ (op_assign rfl) rfl ?_
  refine WL.nil ?_
  show W _ _ _ _ _ _
  refine W.seq ?_
  refine W.region ?_
  refine WL.val u12 _ (op_move rfl) rfl ?_
  refine WL.val (Value.int .i64 i) _ (op_move rfl) rfl ?_
  obtain ⟨x16, hx19, h⟩ := bs h
  obtain ⟨ha17, hb18, hx19⟩ := idx_some hx19
  refine WL.val (Value.pointer (some (elA u12 (i).toNat))) _ (op_idx sl_25 (St.rep (t := (Ty.sl (Ty.i .i64))) hS14 0 rfl) rfl rfl ha17 hb18) rfl ?_
  refine WL.storeEl (flat_i .i64) hS14 (k := 0) rfl sz_2 rfl rfl (lt_of_idx ha17 hb18) ⟨rfl, (inR_i64.2 (show (-9223372036854775808 : Int) ≤ 1 ∧ (1 : Int) ≤ 9223372036854775807 from by decide))⟩ ?_
  intro wd20 hS21
  replace hS21 : St wd2 wd20 [(Ty.sl (Ty.i .i64)).at u12 ((x10).set (i).toNat (1 : Int))] := hS21
  refine WL.nil ?_
  show W _ _ _ _ _ _
  refine W.seq ?_
  refine W.region ?_
  refine WL.val u12 _ (op_move rfl) rfl ?_
  refine WL.val u12 _ (op_assign rfl) rfl ?_
  refine WL.nil ?_
  show W _ _ _ _ _ _
  refine W.ret ?_
  obtain rfl := Option.some.inj h
  show FinP _ _ _ _ _ _ _
  exact FinP.ret _ (res1 rfl rfl) ⟨u12, rfl, (Ext.trans hE7 hS21.ext), (St.out (St.pick hS21 [0] rfl) (hE7))⟩

theorem c_slices_Equal_Lint64_int64 {w : World} {s1 : (List Int)} {v_s1 : Value} {s2 : (List Int)} {v_s2 : Value} (r_s1 : (Ty.sl (Ty.i .i64)).rep w v_s1 s1) (r_s2 : (Ty.sl (Ty.i .i64)).rep w v_s2 s2) {res : Bool} (h : p_slices_Equal_Lint64_int64 s1 s2  = some res) :
    Ret Try.prog 75 #[v_s1, v_s2] w (fun v w' => v = Value.bool res ∧ Ext w w') := by
  unfold p_slices_Equal_Lint64_int64 at h
  have hS0 : St w w [] := St.start w
  refine Ret.start (fn := Try.f75) Try.func75 rfl 26 rfl rfl ?_
  refine W.seq ?_
  refine W.region ?_
  refine WL.val (Value.bool false) _ (op_assign rfl) rfl ?_
  refine WL.nil ?_
  show W _ _ _ _ _ _
  refine W.seq ?_
  refine W.seq ?_
  refine W.region ?_
  refine WL.val v_s1 _ (op_move rfl) rfl ?_
  have hr1 := inR_len (Ty.lift _ hS0.ext r_s1)
  refine WL.val (Value.int .i64 ((s1).length : Int)) _ (op_lenL sl_25 (Ty.lift _ hS0.ext r_s1) rfl) rfl ?_
  refine WL.val v_s2 _ (op_move rfl) rfl ?_
  have hr2 := inR_len (Ty.lift _ hS0.ext r_s2)
  refine WL.val (Value.int .i64 ((s2).length : Int)) _ (op_lenL sl_25 (Ty.lift _ hS0.ext r_s2) rfl) rfl ?_
  refine WL.val (Value.bool (((s1).length : Int) != ((s2).length : Int))) _ (op_neq rfl rfl) rfl ?_
  refine WL.nil ?_
  show W _ _ _ _ _ _
  refine W.cond (((s1).length : Int) != ((s2).length : Int)) rfl (fun hc3 => ?_) (fun hc3 => ?_)
  · replace h := ip h hc3
    refine W.seq ?_
    refine W.region ?_
    refine WL.val (Value.bool false) _ (op_assign rfl) rfl ?_
    refine WL.nil ?_
    show W _ _ _ _ _ _
    refine W.ret ?_
    obtain rfl := Option.some.inj h
    show FinP _ _ _ _ _ _ _
    exact FinP.ret _ (res1 rfl rfl) ⟨rfl, hS0.ext⟩
  · replace h := inegb h hc3
    refine W.skip ?_
    show W _ _ _ _ _ _
    refine W.seq ?_
    refine W.seq ?_
    refine W.region ?_
    refine WL.val v_s1 _ (op_move rfl) rfl ?_
    have hr5 := inR_len (Ty.lift _ hS0.ext r_s1)
    refine WL.val (Value.int .i64 ((s1).length : Int)) _ (op_lenL sl_25 (Ty.lift _ hS0.ext r_s1) rfl) rfl ?_
    refine WL.val (Value.int .i64 (0 : Int)) _ (op_move rfl) rfl ?_
    refine WL.nil ?_
    show W _ _ _ _ _ _
    obtain ⟨res6, hres7, h⟩ := bs h
    refine W.blockLoop (fun fq wq => ∃ s, res6 = Res.fin s ∧ St w wq []) ?_ ?_
    · refine W.forN (fun k s fq wq => fq 0 = v_s1 ∧ fq 1 = v_s2 ∧ fq 12 = (Value.int .i64 ((s1).length : Int)) ∧ fq 13 = Value.int .i64 (k : Int) ∧ InR .i64 (k : Int) ∧ St w wq []) hres7 ⟨rfl, rfl, rfl, rfl, (inR_i64.2 (show (-9223372036854775808 : Int) ≤ 0 ∧ (0 : Int) ≤ 9223372036854775807 from by decide)), hS0⟩ ?_ ?_
      · intro k8 s115 ct9 f10 wd11 hk12 hb13 hI14 hbrk15 hret16
        obtain ⟨⟩ := s115
        replace hI14 : f10 0 = v_s1 ∧ f10 1 = v_s2 ∧ f10 12 = (Value.int .i64 ((s1).length : Int)) ∧ f10 13 = Value.int .i64 (k8 : Int) ∧ InR .i64 (k8 : Int) ∧ St w wd11 [] := hI14
        replace hb13 : p_slices_Equal_Lint64_int64_L1 s1 s2 k8  = some ct9 := hb13
        unfold p_slices_Equal_Lint64_int64_L1 at hb13
        obtain ⟨hf17, hf18, hf19, hf20, hr21, hS22⟩ := hI14
        refine W.seq ?_
        refine W.region ?_
        refine WL.val (Value.bool (decide ((k8 : Int) < ((s1).length : Int)))) _ (op_lss hf20 hf19) rfl ?_
        have hl23 : (k8 : Int) < ((s1).length : Int) := by omega
        refine WL.nil ?_
        show W _ _ _ _ _ _
        refine W.seq ?_
        refine W.condT (decide ((k8 : Int) < ((s1).length : Int))) rfl (decide_eq_true hl23) ?_
        refine W.skip ?_
        show W _ _ _ _ _ _
        refine W.seq ?_
        refine W.block ?_
        refine W.seq ?_
        refine W.region ?_
        refine WL.val (Value.int .i64 (k8 : Int)) _ (op_move hf20) rfl ?_
        refine WL.val (Value.int .i64 (k8 : Int)) _ (op_assign rfl) rfl ?_
        refine WL.nil ?_
        show W _ _ _ _ _ _
        refine W.seq ?_
        obtain ⟨x48, hx51, hb13⟩ := bs hb13
        obtain ⟨ha49, hb50, hx51⟩ := idx_some hx51
        obtain ⟨u59, hc60, hr61⟩ := repSl.el r_s1 hx51
        obtain ⟨rfl, hr61⟩ := hr61
        obtain ⟨x85, hx88, hb13⟩ := bs hb13
        obtain ⟨ha86, hb87, hx88⟩ := idx_some hx88
        obtain ⟨u96, hc97, hr98⟩ := repSl.el r_s2 hx88
        obtain ⟨rfl, hr98⟩ := hr98
        refine W.draw mixo 8 [fun v _ => v = v_s1, fun v _ => v = (Value.int .i64 (k8 : Int)) ∧ InR .i64 (k8 : Int), fun v _ => v = (Value.pointer (some (elA v_s1 ((k8 : Int)).toNat))), fun v _ => v = (Value.int .i64 x48) ∧ InR .i64 x48, fun v _ => v = v_s2, fun v _ => v = (Value.int .i64 (k8 : Int)) ∧ InR .i64 (k8 : Int), fun v _ => v = (Value.pointer (some (elA v_s2 ((k8 : Int)).toNat))), fun v _ => v = (Value.int .i64 x85) ∧ InR .i64 x85] (by kernel_rfl) (by kernel_rfl) (stabL ⟨(fun _ _ _ _ h => h), (fun _ _ _ _ h => h), (fun _ _ _ _ h => h), (fun _ _ _ _ h => h), (fun _ _ _ _ h => h), (fun _ _ _ _ h => h), (fun _ _ _ _ h => h), (fun _ _ _ _ h => h), trivial⟩) ⟨?_, ?_, ?_, ?_, ?_, ?_, ?_, ?_, trivial⟩ ?_
        · intro f25 wd26 he27 hout28 hphi29
          have hS30 : St w wd26 [] := St.extend hS22 he27
          have e31 : f25 0 = v_s1 := (hout28 0 rfl).trans hf17
          exact OpY.val v_s1 wd26 rfl (op_move e31) (Ext.refl _) rfl
        · intro f32 wd33 he34 hout35 hphi36
          have hS37 : St w wd33 [] := St.extend hS22 he34
          have e38 : f32 5 = (Value.int .i64 (k8 : Int)) := (hout35 5 rfl).trans rfl
          exact OpY.val (Value.int .i64 (k8 : Int)) wd33 rfl (op_move e38) (Ext.refl _) ⟨rfl, hr21⟩
        · intro f39 wd40 he41 hout42 hphi43
          have hS44 : St w wd40 [] := St.extend hS22 he41
          have e45 : f39 16 = v_s1 := hphi43 0 16 _ rfl rfl rfl
          obtain ⟨e46, hr47⟩ : f39 17 = (Value.int .i64 (k8 : Int)) ∧ InR .i64 (k8 : Int) := hphi43 1 17 _ rfl rfl rfl
          exact OpY.val (Value.pointer (some (elA v_s1 ((k8 : Int)).toNat))) wd40 rfl (op_idx sl_25 (Ty.lift _ hS44.ext r_s1) e45 e46 ha49 hb50) (Ext.refl _) rfl
        · intro f52 wd53 he54 hout55 hphi56
          have hS57 : St w wd53 [] := St.extend hS22 he54
          have e58 : f52 18 = (Value.pointer (some (elA v_s1 ((k8 : Int)).toNat))) := hphi56 2 18 _ rfl rfl rfl
          exact OpY.val (Value.int .i64 x48) wd53 rfl (op_load one_2 e58 (Ext.cell hS57.ext hc60)) (Ext.refl _) ⟨rfl, hr61⟩
        · intro f62 wd63 he64 hout65 hphi66
          have hS67 : St w wd63 [] := St.extend hS22 he64
          have e68 : f62 1 = v_s2 := (hout65 1 rfl).trans hf18
          exact OpY.val v_s2 wd63 rfl (op_move e68) (Ext.refl _) rfl
        · intro f69 wd70 he71 hout72 hphi73
          have hS74 : St w wd70 [] := St.extend hS22 he71
          have e75 : f69 5 = (Value.int .i64 (k8 : Int)) := (hout72 5 rfl).trans rfl
          exact OpY.val (Value.int .i64 (k8 : Int)) wd70 rfl (op_move e75) (Ext.refl _) ⟨rfl, hr21⟩
        · intro f76 wd77 he78 hout79 hphi80
          have hS81 : St w wd77 [] := St.extend hS22 he78
          have e82 : f76 20 = v_s2 := hphi80 4 20 _ rfl rfl rfl
          obtain ⟨e83, hr84⟩ : f76 21 = (Value.int .i64 (k8 : Int)) ∧ InR .i64 (k8 : Int) := hphi80 5 21 _ rfl rfl rfl
          exact OpY.val (Value.pointer (some (elA v_s2 ((k8 : Int)).toNat))) wd77 rfl (op_idx sl_25 (Ty.lift _ hS81.ext r_s2) e82 e83 ha86 hb87) (Ext.refl _) rfl
        · intro f89 wd90 he91 hout92 hphi93
          have hS94 : St w wd90 [] := St.extend hS22 he91
          have e95 : f89 22 = (Value.pointer (some (elA v_s2 ((k8 : Int)).toNat))) := hphi93 6 22 _ rfl rfl rfl
          exact OpY.val (Value.int .i64 x85) wd90 rfl (op_load one_2 e95 (Ext.cell hS94.ext hc97)) (Ext.refl _) ⟨rfl, hr98⟩
        · intro f99 wd100 he101 hout102 hphi103
          show WL _ _ _ _ _ _ _
          have hS104 : St w wd100 [] := St.extend hS22 he101
          obtain ⟨e105, hr106⟩ : f99 19 = (Value.int .i64 x48) ∧ InR .i64 x48 := hphi103 3 19 _ (by decide) rfl rfl
          obtain ⟨e107, hr108⟩ : f99 23 = (Value.int .i64 x85) ∧ InR .i64 x85 := hphi103 7 23 _ (by decide) rfl rfl
          have e109 : f99 0 = v_s1 := (hout102 0 rfl).trans hf17
          have e110 : f99 1 = v_s2 := (hout102 1 rfl).trans hf18
          have e111 : f99 12 = (Value.int .i64 ((s1).length : Int)) := (hout102 12 rfl).trans hf19
          have e112 : f99 13 = (Value.int .i64 (k8 : Int)) := (hout102 13 rfl).trans hf20
          refine WL.val (Value.bool (x48 != x85)) _ (op_neq e105 e107) rfl ?_
          refine WL.nil ?_
          show W _ _ _ _ _ _
          refine W.cond (x48 != x85) rfl (fun hc113 => ?_) (fun hc113 => ?_)
          · replace hb13 := ip hb13 hc113
            refine W.seq ?_
            refine W.region ?_
            refine WL.val (Value.bool false) _ (op_assign rfl) rfl ?_
            refine WL.nil ?_
            show W _ _ _ _ _ _
            refine W.ret ?_
            obtain rfl := Option.some.inj hb13
            obtain rfl := hret16 _ rfl
            replace h := onRes_ret h
            obtain rfl := Option.some.inj h
            show FinP _ _ _ _ _ _ _
            exact FinP.ret _ (res1 rfl rfl) ⟨rfl, hS104.ext⟩
          · replace hb13 := inegb hb13 hc113
            refine W.skip ?_
            show W _ _ _ _ _ _
            refine W.region ?_
            refine WL.val (Value.int .i64 (w64 ((k8 : Int) + (1 : Int)))) _ (op_add e112 rfl) rfl ?_
            refine WL.val (Value.int .i64 (w64 ((k8 : Int) + (1 : Int)))) _ (op_move rfl) rfl ?_
            refine WL.nil ?_
            obtain rfl := Option.some.inj hb13
            show ∃ s, _ = Ctl.next s ∧ _
            exact ⟨_, rfl, e109, e110, e111, (ctr_next hl23 hr5), (ctr_rng hl23 hr5), hS104⟩
      · intro s120 f116 wd117 hs118 hI119
        obtain ⟨⟩ := s120
        replace hI119 : f116 0 = v_s1 ∧ f116 1 = v_s2 ∧ f116 12 = (Value.int .i64 ((s1).length : Int)) ∧ f116 13 = Value.int .i64 (((s1).length : Nat) : Int) ∧ InR .i64 (((s1).length : Nat) : Int) ∧ St w wd117 [] := hI119
        obtain ⟨hf121, hf122, hf123, hf124, hr125, hS126⟩ := hI119
        refine W.seq ?_
        refine W.region ?_
        refine WL.val (Value.bool (decide ((((s1).length : Nat) : Int) < ((s1).length : Int)))) _ (op_lss hf124 hf123) rfl ?_
        have hl127 : ¬ (((s1).length : Nat) : Int) < ((s1).length : Int) := by omega
        refine WL.nil ?_
        show W _ _ _ _ _ _
        refine W.seq ?_
        refine W.condF (decide ((((s1).length : Nat) : Int) < ((s1).length : Int))) rfl (decide_eq_false hl127) ?_
        refine W.exit ?_
        show _ = _ ∧ _
        exact ⟨rfl, _, hs118, hS126⟩
    · rintro f128 wd129 ⟨s131, rfl, hq130⟩
      replace h := onRes_fin h
      obtain ⟨⟩ := s131
      replace hq130 : St w wd129 [] := hq130
      have hS132 := hq130
      show W _ _ _ _ _ _
      refine W.seq ?_
      refine W.region ?_
      refine WL.val (Value.bool true) _ (op_assign rfl) rfl ?_
      refine WL.nil ?_
      show W _ _ _ _ _ _
      refine W.ret ?_
      obtain rfl := Option.some.inj h
      show FinP _ _ _ _ _ _ _
      exact FinP.ret _ (res1 rfl rfl) ⟨rfl, hS132.ext⟩

theorem c_impl_Ring_isInvertible {w : World} {r_Table : (List (List (List Int)))} {v_r_Table : Value} {i : Int} (r_r_Table : (Ty.sl (Ty.sl (Ty.sl (Ty.i .i64)))).rep w v_r_Table r_Table) (r_i : InR .i64 i) {res : Bool} (h : p_impl_Ring_isInvertible r_Table i  = some res) :
    Ret Try.prog 51 #[(Value.agg #[v_r_Table]), (Value.int .i64 i)] w (fun v w' => v = Value.bool res ∧ Ext w w') := by
  unfold p_impl_Ring_isInvertible at h
  have hS0 : St w w [] := St.start w
  refine Ret.start (fn := Try.f51) Try.func51 rfl 18 rfl rfl ?_
  refine W.seq ?_
  refine W.region ?_
  refine WL.box hS0 rfl (cs := [v_r_Table]) rfl rfl ?_
  intro b1 wd2 hS3 he4 hx5
  replace hS3 : St w wd2 [bx b1 [v_r_Table]] := hS3
  have hx6 := St.boxAt hS3 0 rfl
  have hE7 : Ext w wd2 := hS3.ext
  have hS8 : St wd2 wd2 [] := St.start wd2
  refine WL.val (Value.bool false) _ (op_assign rfl) rfl ?_
  refine WL.nil ?_
  show W _ _ _ _ _ _
  refine W.seq ?_
  obtain ⟨x39, hx42, h⟩ := bs h
  obtain ⟨ha40, hb41, hx42⟩ := idx_some hx42
  obtain ⟨u50, hc51, hr52⟩ := repSl.el r_r_Table hx42
  obtain ⟨x78, hx79, h⟩ := bs h
  obtain ⟨x93, hx96, h⟩ := bs h
  obtain ⟨ha94, hb95, hx96⟩ := idx_some hx96
  obtain ⟨u104, hc105, hr106⟩ := repSl.el hr52 hx96
  obtain ⟨x123, hx124, h⟩ := bs h
  refine W.draw mixo 12 [fun v _ => v = (Value.pointer (some ⟨b1, 0, none⟩)), fun v _ => v = v_r_Table, fun v _ => v = (Value.int .i64 i) ∧ InR .i64 i, fun v _ => v = (Value.pointer (some (elA v_r_Table (i).toNat))), fun v _ => v = u50, fun v w' => ∃ (uu0 : Value), v = (Value.agg #[uu0]) ∧ (Ty.sl (Ty.sl (Ty.sl (Ty.i .i64)))).rep w' uu0 r_Table, fun v _ => v = (Value.int .i64 i) ∧ InR .i64 i, fun v _ => v = (Value.int .i64 x78) ∧ InR .i64 x78, fun v _ => v = (Value.pointer (some (elA u50 (x78).toNat))), fun v _ => v = u104, fun v w' => ∃ (uu0 : Value), v = (Value.agg #[uu0]) ∧ (Ty.sl (Ty.sl (Ty.sl (Ty.i .i64)))).rep w' uu0 r_Table, fun v w' => (Ty.sl (Ty.i .i64)).rep w' v x123] (by kernel_rfl) (by kernel_rfl) (stabL ⟨(fun _ _ _ _ h => h), (fun _ _ _ _ h => h), (fun _ _ _ _ h => h), (fun _ _ _ _ h => h), (fun _ _ _ _ h => h), (fun _ _ _ he ⟨uu0, h0, r0⟩ => ⟨uu0, h0, Ty.lift _ he r0⟩), (fun _ _ _ _ h => h), (fun _ _ _ _ h => h), (fun _ _ _ _ h => h), (fun _ _ _ _ h => h), (fun _ _ _ he ⟨uu0, h0, r0⟩ => ⟨uu0, h0, Ty.lift _ he r0⟩), (fun _ _ _ he h => Ty.lift _ he h), trivial⟩) ⟨?_, ?_, ?_, ?_, ?_, ?_, ?_, ?_, ?_, ?_, ?_, ?_, trivial⟩ ?_
  · intro f9 wd10 he11 hout12 hphi13
    have hS14 : St wd2 wd10 [] := St.extend hS8 he11
    have e15 : f9 2 = (Value.pointer (some ⟨b1, 0, none⟩)) := (hout12 2 rfl).trans rfl
    exact OpY.val (Value.pointer (some ⟨b1, 0, none⟩)) wd10 rfl (op_fieldAddr fd_29_0 e15) (Ext.refl _) rfl
  · intro f16 wd17 he18 hout19 hphi20
    have hS21 : St wd2 wd17 [] := St.extend hS8 he18
    have e22 : f16 5 = (Value.pointer (some ⟨b1, 0, none⟩)) := hphi20 0 5 _ rfl rfl rfl
    exact OpY.val v_r_Table wd17 rfl (op_load one_22 e22 (BoxAt.cell (BoxAt.lift hS21.ext hx6) rfl)) (Ext.refl _) rfl
  · intro f23 wd24 he25 hout26 hphi27
    have hS28 : St wd2 wd24 [] := St.extend hS8 he25
    have e29 : f23 1 = (Value.int .i64 i) := (hout26 1 rfl).trans rfl
    exact OpY.val (Value.int .i64 i) wd24 rfl (op_move e29) (Ext.refl _) ⟨rfl, r_i⟩
  · intro f30 wd31 he32 hout33 hphi34
    have hS35 : St wd2 wd31 [] := St.extend hS8 he32
    have e36 : f30 6 = v_r_Table := hphi34 1 6 _ rfl rfl rfl
    obtain ⟨e37, hr38⟩ : f30 7 = (Value.int .i64 i) ∧ InR .i64 i := hphi34 2 7 _ rfl rfl rfl
    exact OpY.val (Value.pointer (some (elA v_r_Table (i).toNat))) wd31 rfl (op_idx sl_22 (Ty.lift _ (Ext.trans hE7 hS35.ext) r_r_Table) e36 e37 ha40 hb41) (Ext.refl _) rfl
  · intro f43 wd44 he45 hout46 hphi47
    have hS48 : St wd2 wd44 [] := St.extend hS8 he45
    have e49 : f43 8 = (Value.pointer (some (elA v_r_Table (i).toNat))) := hphi47 3 8 _ rfl rfl rfl
    exact OpY.val u50 wd44 rfl (op_load one_61 e49 (Ext.cell (Ext.trans hE7 hS48.ext) hc51)) (Ext.refl _) rfl
  · intro f53 wd54 he55 hout56 hphi57
    have hS58 : St wd2 wd54 [] := St.extend hS8 he55
    have e59 : f53 2 = (Value.pointer (some ⟨b1, 0, none⟩)) := (hout56 2 rfl).trans rfl
    exact OpY.val (Value.agg #[v_r_Table]) wd54 rfl (op_loadBox st_29 e59 (BoxAt.lift hS58.ext hx6) rfl rfl) (Ext.refl _) ⟨v_r_Table, rfl, (Ty.lift _ (Ext.trans hE7 hS58.ext) r_r_Table)⟩
  · intro f60 wd61 he62 hout63 hphi64
    have hS65 : St wd2 wd61 [] := St.extend hS8 he62
    have e66 : f60 1 = (Value.int .i64 i) := (hout63 1 rfl).trans rfl
    exact OpY.val (Value.int .i64 i) wd61 rfl (op_move e66) (Ext.refl _) ⟨rfl, r_i⟩
  · intro f67 wd68 he69 hout70 hphi71
    have hS72 : St wd2 wd68 [] := St.extend hS8 he69
    obtain ⟨u74, e73, hr75⟩ := hphi71 5 10 _ rfl rfl rfl
    obtain ⟨e76, hr77⟩ : f67 11 = (Value.int .i64 i) ∧ InR .i64 i := hphi71 6 11 _ rfl rfl rfl
    refine OpY.call rfl (op_call fn_76 (args2 e73 e76)) (Ret.mono (c_impl_Ring_onlyOf hr75 hr77 hx79) ?_)
    rintro _ wd81 ⟨rfl, hr80, he82⟩
    exact ⟨he82, ⟨rfl, hr80⟩⟩
  · intro f84 wd85 he86 hout87 hphi88
    have hS89 : St wd2 wd85 [] := St.extend hS8 he86
    have e90 : f84 9 = u50 := hphi88 4 9 _ rfl rfl rfl
    obtain ⟨e91, hr92⟩ : f84 12 = (Value.int .i64 x78) ∧ InR .i64 x78 := hphi88 7 12 _ rfl rfl rfl
    exact OpY.val (Value.pointer (some (elA u50 (x78).toNat))) wd85 rfl (op_idx sl_61 (Ty.lift _ (Ext.trans hE7 hS89.ext) hr52) e90 e91 ha94 hb95) (Ext.refl _) rfl
  · intro f97 wd98 he99 hout100 hphi101
    have hS102 : St wd2 wd98 [] := St.extend hS8 he99
    have e103 : f97 13 = (Value.pointer (some (elA u50 (x78).toNat))) := hphi101 8 13 _ rfl rfl rfl
    exact OpY.val u104 wd98 rfl (op_load one_25 e103 (Ext.cell (Ext.trans hE7 hS102.ext) hc105)) (Ext.refl _) rfl
  · intro f107 wd108 he109 hout110 hphi111
    have hS112 : St wd2 wd108 [] := St.extend hS8 he109
    have e113 : f107 2 = (Value.pointer (some ⟨b1, 0, none⟩)) := (hout110 2 rfl).trans rfl
    exact OpY.val (Value.agg #[v_r_Table]) wd108 rfl (op_loadBox st_29 e113 (BoxAt.lift hS112.ext hx6) rfl rfl) (Ext.refl _) ⟨v_r_Table, rfl, (Ty.lift _ (Ext.trans hE7 hS112.ext) r_r_Table)⟩
  · intro f114 wd115 he116 hout117 hphi118
    have hS119 : St wd2 wd115 [] := St.extend hS8 he116
    obtain ⟨u121, e120, hr122⟩ := hphi118 10 15 _ rfl rfl rfl
    refine OpY.call rfl (op_call fn_60 (args2 e120 rfl)) (Ret.mono (c_impl_Ring_vectorOf hr122 (inR_i64.2 (show (-9223372036854775808 : Int) ≤ 0 ∧ (0 : Int) ≤ 9223372036854775807 from by decide)) hx124) ?_)
    rintro u125 wd126 ⟨_, rfl, he127, hs128⟩
    exact ⟨he127, (Sep.rep (t := (Ty.sl (Ty.i .i64))) hs128 0 rfl)⟩
  · intro f129 wd130 he131 hout132 hphi133
    show WL _ _ _ _ _ _ _
    have hS134 : St wd2 wd130 [] := St.extend hS8 he131
    have e135 : f129 14 = u104 := hphi133 9 14 _ (by decide) rfl rfl
    have e136 : (Ty.sl (Ty.i .i64)).rep wd130 (f129 16) x123 := hphi133 11 16 _ (by decide) rfl rfl
    obtain ⟨x137, hx138, h⟩ := bs h
    refine WL.call _ (op_call fn_75 (args2 e135 rfl)) (c_slices_Equal_Lint64_int64 (Ty.lift _ (Ext.trans hE7 hS134.ext) hr106) e136 hx138) rfl ?_
    rintro _ wd139 ⟨rfl, he140⟩
    have hS142 := St.extend hS134 he140
    replace hS142 : St wd2 wd139 [] := hS142
    refine WL.val (Value.bool x137) _ (op_assign rfl) rfl ?_
    refine WL.nil ?_
    show W _ _ _ _ _ _
    refine W.ret ?_
    obtain rfl := Option.some.inj h
    show FinP _ _ _ _ _ _ _
    exact FinP.ret _ (res1 rfl rfl) ⟨rfl, (Ext.trans hE7 hS142.ext)⟩

theorem c_impl_InvertibleLabels {w : World} {r_Table : (List (List (List Int)))} {v_r_Table : Value} (r_r_Table : (Ty.sl (Ty.sl (Ty.sl (Ty.i .i64)))).rep w v_r_Table r_Table) {res : (List Int) × Int} (h : p_impl_InvertibleLabels r_Table  = some res) :
    Ret Try.prog 30 #[(Value.agg #[v_r_Table])] w (fun v w' => ∃ (u0 : Value), v = (Value.tuple #[u0, Value.int .i64 res.2]) ∧ InR .i64 res.2 ∧ Ext w w' ∧ Sep w.heap.size w' [(Ty.sl (Ty.i .i64)).at u0 res.1]) := by
  unfold p_impl_InvertibleLabels at h
  have hS0 : St w w [] := St.start w
  refine Ret.start (fn := Try.f30) Try.func30 rfl 25 rfl rfl ?_
  refine W.seq ?_
  refine W.region ?_
  refine WL.box hS0 rfl (cs := [v_r_Table]) rfl rfl ?_
  intro b1 wd2 hS3 he4 hx5
  replace hS3 : St w wd2 [bx b1 [v_r_Table]] := hS3
  have hx6 := St.boxAt hS3 0 rfl
  have hE7 : Ext w wd2 := hS3.ext
  have hS8 : St wd2 wd2 [] := St.start wd2
  refine WL.val (Value.slice none 0 0) _ (op_assign rfl) rfl ?_
  refine WL.val (Value.int .i64 (0 : Int)) _ (op_assign rfl) rfl ?_
  refine WL.nil ?_
  show W _ _ _ _ _ _
  refine W.seq ?_
  refine W.seq ?_
  refine W.region ?_
  refine WL.val (Value.agg #[v_r_Table]) _ (op_loadBox st_29 rfl (BoxAt.lift hS8.ext hx6) rfl rfl) rfl ?_
  obtain ⟨x9, hx10, h⟩ := bs h
  refine WL.call _ (op_call fn_41 (args1 rfl)) (c_impl_IsRing (Ty.lift _ (Ext.trans hE7 hS8.ext) r_r_Table) hx10) rfl ?_
  rintro _ wd11 ⟨rfl, he12⟩
  have hS14 := St.extend hS8 he12
  replace hS14 : St wd2 wd11 [] := hS14
  refine WL.val (Value.bool (!x9)) _ (op_not rfl) rfl ?_
  refine WL.nil ?_
  show W _ _ _ _ _ _
  refine W.cond (!x9) rfl (fun hc15 => ?_) (fun hc15 => ?_)
  · replace h := ip h hc15
    refine W.seq ?_
    refine W.region ?_
    refine WL.val (Value.slice none 0 0) _ (op_assign rfl) rfl ?_
    refine WL.val (Value.int .i64 (1 : Int)) _ (op_assign rfl) rfl ?_
    refine WL.nil ?_
    show W _ _ _ _ _ _
    refine W.ret ?_
    obtain rfl := Option.some.inj h
    show FinP _ _ _ _ _ _ _
    exact FinP.ret _ (res2 rfl rfl rfl) ⟨(Value.slice none 0 0), rfl, (inR_i64.2 (show (-9223372036854775808 : Int) ≤ 1 ∧ (1 : Int) ≤ 9223372036854775807 from by decide)), (Ext.trans hE7 hS14.ext), (St.out (St.pick (St.addNil (Ty.i .i64) hS14) [0] rfl) (hE7))⟩
  · replace h := inegb h hc15
    refine W.skip ?_
    show W _ _ _ _ _ _
    refine W.seq ?_
    refine W.region ?_
    refine WL.lit0 (t := (Ty.i .i64)) hS14 sl_25 rfl rfl ?_
    intro u17 wd18 hS19 he20
    replace hS19 : St wd2 wd18 [(Ty.sl (Ty.i .i64)).at u17 ([] : (List Int))] := hS19
    refine WL.val u17 _ (op_assign rfl) rfl ?_
    refine WL.nil ?_
    show W _ _ _ _ _ _
    refine W.seq ?_
    refine W.seq ?_
    refine W.region ?_
    refine WL.val (Value.pointer (some ⟨b1, 0, none⟩)) _ (op_fieldAddr fd_29_0 rfl) rfl ?_
    refine WL.val v_r_Table _ (op_load one_22 rfl (BoxAt.cell (BoxAt.lift hS19.ext hx6) rfl)) rfl ?_
    have hr21 := inR_len (Ty.lift _ (Ext.trans hE7 hS19.ext) r_r_Table)
    refine WL.val (Value.int .i64 ((r_Table).length : Int)) _ (op_lenL sl_22 (Ty.lift _ (Ext.trans hE7 hS19.ext) r_r_Table) rfl) rfl ?_
    refine WL.val (Value.int .i64 (0 : Int)) _ (op_move rfl) rfl ?_
    refine WL.nil ?_
    show W _ _ _ _ _ _
    obtain ⟨res22, hres23, h⟩ := bs h
    refine W.blockLoop (fun fq wq => ∃ s, res22 = Res.fin s ∧ ∃ (uu0 : Value), fq 4 = uu0 ∧ St wd2 wq [(Ty.sl (Ty.i .i64)).at uu0 s]) ?_ ?_
    · refine W.forN (fun k s fq wq => ∃ (uu0 : Value), fq 1 = (Value.pointer (some ⟨b1, 0, none⟩)) ∧ fq 4 = uu0 ∧ fq 12 = (Value.int .i64 ((r_Table).length : Int)) ∧ fq 13 = Value.int .i64 (k : Int) ∧ InR .i64 (k : Int) ∧ St wd2 wq [(Ty.sl (Ty.i .i64)).at uu0 s]) hres23 ⟨u17, rfl, rfl, rfl, rfl, (inR_i64.2 (show (-9223372036854775808 : Int) ≤ 0 ∧ (0 : Int) ≤ 9223372036854775807 from by decide)), hS19⟩ ?_ ?_
      · intro k24 x25 ct26 f27 wd28 hk29 hb30 hI31 hbrk32 hret33
        replace hI31 : ∃ (uu0 : Value), f27 1 = (Value.pointer (some ⟨b1, 0, none⟩)) ∧ f27 4 = uu0 ∧ f27 12 = (Value.int .i64 ((r_Table).length : Int)) ∧ f27 13 = Value.int .i64 (k24 : Int) ∧ InR .i64 (k24 : Int) ∧ St wd2 wd28 [(Ty.sl (Ty.i .i64)).at uu0 x25] := hI31
        replace hb30 : p_impl_InvertibleLabels_L1 r_Table k24 x25 = some ct26 := hb30
        unfold p_impl_InvertibleLabels_L1 at hb30
        obtain ⟨u34, hf35, hf36, hf37, hf38, hr39, hS40⟩ := hI31
        refine W.seq ?_
        refine W.region ?_
        refine WL.val (Value.bool (decide ((k24 : Int) < ((r_Table).length : Int)))) _ (op_lss hf38 hf37) rfl ?_
        have hl41 : (k24 : Int) < ((r_Table).length : Int) := by omega
        refine WL.nil ?_
        show W _ _ _ _ _ _
        refine W.seq ?_
        refine W.condT (decide ((k24 : Int) < ((r_Table).length : Int))) rfl (decide_eq_true hl41) ?_
        refine W.skip ?_
        show W _ _ _ _ _ _
        refine W.seq ?_
        refine W.block ?_
        refine W.seq ?_
        refine W.region ?_
        refine WL.val (Value.int .i64 (k24 : Int)) _ (op_move hf38) rfl ?_
        refine WL.val (Value.int .i64 (k24 : Int)) _ (op_assign rfl) rfl ?_
        refine WL.nil ?_
        show W _ _ _ _ _ _
        refine W.seq ?_
        refine W.region ?_
        refine WL.val (Value.agg #[v_r_Table]) _ (op_loadBox st_29 hf35 (BoxAt.lift hS40.ext hx6) rfl rfl) rfl ?_
        refine WL.val (Value.int .i64 (k24 : Int)) _ (op_move rfl) rfl ?_
        obtain ⟨x43, hx44, hb30⟩ := bs hb30
        refine WL.call _ (op_call fn_51 (args2 rfl rfl)) (c_impl_Ring_isInvertible (Ty.lift _ (Ext.trans hE7 hS40.ext) r_r_Table) hr39 hx44) rfl ?_
        rintro _ wd45 ⟨rfl, he46⟩
        have hS48 := St.extend hS40 he46
        replace hS48 : St wd2 wd45 [(Ty.sl (Ty.i .i64)).at u34 x25] := hS48
        refine WL.nil ?_
        show W _ _ _ _ _ _
        obtain ⟨x49, hj50, hb30⟩ := bs hb30
        refine W.cutCode (fun fq wq => ∃ (uu0 : Value), fq 1 = (Value.pointer (some ⟨b1, 0, none⟩)) ∧ fq 4 = uu0 ∧ fq 12 = (Value.int .i64 ((r_Table).length : Int)) ∧ fq 13 = (Value.int .i64 (k24 : Int)) ∧ St wd2 wq [(Ty.sl (Ty.i .i64)).at uu0 x49]) ?_ ?_
        · refine W.cond x43 rfl (fun hc51 => ?_) (fun hc51 => ?_)
          · replace hj50 := ip hj50 hc51
            refine W.region ?_
            refine WL.val u34 _ (op_move hf36) rfl ?_
            refine WL.val (Value.int .i64 (k24 : Int)) _ (op_move rfl) rfl ?_
            refine WL.litFlat (t := (Ty.i .i64)) (flat_i .i64) [(Value.int .i64 (k24 : Int))] [(k24 : Int)] hS48 sl_25 rfl rfl (fillL rfl ⟨rfl, rfl, rfl, trivial⟩) rfl rfl (litL ⟨⟨rfl, hr39⟩, trivial⟩) rfl ?_
            intro u52 wd53 hS54 he55
            replace hS54 : St wd2 wd53 [(Ty.sl (Ty.i .i64)).at u34 x25, (Ty.sl (Ty.i .i64)).at u52 ([(k24 : Int)] : (List Int))] := hS54
            obtain ⟨x56, hx57, hj50⟩ := bs hj50
            refine WL.append (flat_i .i64) hS54 (k := 0) rfl sl_25 rfl rfl rfl rfl (St.rep (t := (Ty.sl (Ty.i .i64))) hS54 1 rfl) hx57 rfl ?_
            intro u58 wd59 hS60 hz61
            replace hS60 : St wd2 wd59 [(Ty.sl (Ty.i .i64)).at u58 x56, (Ty.sl (Ty.i .i64)).at u52 ([(k24 : Int)] : (List Int))] := hS60
            refine WL.val u58 _ (op_assign rfl) rfl ?_
            refine WL.nil ?_
            obtain rfl := Option.some.inj hj50
            exact ⟨u58, hf35, rfl, hf37, hf38, (St.pick hS60 [0] rfl)⟩
          · replace hj50 := inegb hj50 hc51
            refine W.skip ?_
            obtain rfl := Option.some.inj hj50
            exact ⟨u34, hf35, hf36, hf37, hf38, hS48⟩
        · intro f62 wd63 hq64
          obtain ⟨u65, hf66, hf67, hf68, hf69, hS70⟩ := hq64
          show W _ _ _ _ _ _
          refine W.region ?_
          refine WL.val (Value.int .i64 (w64 ((k24 : Int) + (1 : Int)))) _ (op_add hf69 rfl) rfl ?_
          refine WL.val (Value.int .i64 (w64 ((k24 : Int) + (1 : Int)))) _ (op_move rfl) rfl ?_
          refine WL.nil ?_
          obtain rfl := Option.some.inj hb30
          show ∃ s, _ = Ctl.next s ∧ _
          exact ⟨_, rfl, u65, hf66, hf67, hf68, (ctr_next hl41 hr21), (ctr_rng hl41 hr21), hS70⟩
      · intro x77 f72 wd73 hs74 hI75
        replace hI75 : ∃ (uu0 : Value), f72 1 = (Value.pointer (some ⟨b1, 0, none⟩)) ∧ f72 4 = uu0 ∧ f72 12 = (Value.int .i64 ((r_Table).length : Int)) ∧ f72 13 = Value.int .i64 (((r_Table).length : Nat) : Int) ∧ InR .i64 (((r_Table).length : Nat) : Int) ∧ St wd2 wd73 [(Ty.sl (Ty.i .i64)).at uu0 x77] := hI75
        obtain ⟨u78, hf79, hf80, hf81, hf82, hr83, hS84⟩ := hI75
        refine W.seq ?_
        refine W.region ?_
        refine WL.val (Value.bool (decide ((((r_Table).length : Nat) : Int) < ((r_Table).length : Int)))) _ (op_lss hf82 hf81) rfl ?_
        have hl85 : ¬ (((r_Table).length : Nat) : Int) < ((r_Table).length : Int) := by omega
        refine WL.nil ?_
        show W _ _ _ _ _ _
        refine W.seq ?_
        refine W.condF (decide ((((r_Table).length : Nat) : Int) < ((r_Table).length : Int))) rfl (decide_eq_false hl85) ?_
        refine W.exit ?_
        show _ = _ ∧ _
        exact ⟨rfl, _, hs74, u78, hf80, hS84⟩
    · rintro f86 wd87 ⟨x90, rfl, hq88⟩
      replace h := onRes_fin h
      replace hq88 : ∃ (uu0 : Value), f86 4 = uu0 ∧ St wd2 wd87 [(Ty.sl (Ty.i .i64)).at uu0 x90] := hq88
      obtain ⟨u91, hf92, hS93⟩ := hq88
      show W _ _ _ _ _ _
      refine W.seq ?_
      refine W.region ?_
      refine WL.val u91 _ (op_move hf92) rfl ?_
      refine WL.val u91 _ (op_assign rfl) rfl ?_
      refine WL.val (Value.int .i64 (0 : Int)) _ (op_assign rfl) rfl ?_
      refine WL.nil ?_
      show W _ _ _ _ _ _
      refine W.ret ?_
      obtain rfl := Option.some.inj h
      show FinP _ _ _ _ _ _ _
      exact FinP.ret _ (res2 rfl rfl rfl) ⟨u91, rfl, (inR_i64.2 (show (-9223372036854775808 : Int) ≤ 0 ∧ (0 : Int) ≤ 9223372036854775807 from by decide)), (Ext.trans hE7 hS93.ext), (St.out (St.pick hS93 [0] rfl) (hE7))⟩

theorem c_impl_InvertibleSubring {w : World} {r_Table : (List (List (List Int)))} {v_r_Table : Value} (r_r_Table : (Ty.sl (Ty.sl (Ty.sl (Ty.i .i64)))).rep w v_r_Table r_Table) {res : Int × Int} (h : p_impl_InvertibleSubring r_Table  = some res) :
    Ret Try.prog 19 #[(Value.agg #[v_r_Table])] w (fun v w' => v = (Value.tuple #[Value.int .i64 res.1, Value.int .i64 res.2]) ∧ InR .i64 res.1 ∧ InR .i64 res.2 ∧ Ext w w') := by
  unfold p_impl_InvertibleSubring at h
  have hS0 : St w w [] := St.start w
  refine Ret.start (fn := Try.f19) Try.func19 rfl 27 rfl rfl ?_
  refine W.seq ?_
  refine W.region ?_
  refine WL.box hS0 rfl (cs := [v_r_Table]) rfl rfl ?_
  intro b1 wd2 hS3 he4 hx5
  replace hS3 : St w wd2 [bx b1 [v_r_Table]] := hS3
  have hx6 := St.boxAt hS3 0 rfl
  have hE7 : Ext w wd2 := hS3.ext
  have hS8 : St wd2 wd2 [] := St.start wd2
  refine WL.val (Value.int .i64 (0 : Int)) _ (op_assign rfl) rfl ?_
  refine WL.val (Value.int .i64 (0 : Int)) _ (op_assign rfl) rfl ?_
  refine WL.nil ?_
  show W _ _ _ _ _ _
  refine W.seq ?_
  refine W.region ?_
  refine WL.val (Value.agg #[v_r_Table]) _ (op_loadBox st_29 rfl (BoxAt.lift hS8.ext hx6) rfl rfl) rfl ?_
  obtain ⟨x9, hx10, h⟩ := bs h
  refine WL.call _ (op_call fn_30 (args1 rfl)) (c_impl_InvertibleLabels (Ty.lift _ (Ext.trans hE7 hS8.ext) r_r_Table) hx10) rfl ?_
  rintro _ wd13 ⟨u11, rfl, hr12, he14, hs15⟩
  have hS16 := St.join hS8 he14 hs15
  replace hS16 : St wd2 wd13 [(Ty.sl (Ty.i .i64)).at u11 x9.1] := hS16
  refine WL.val (Value.tuple #[u11, (Value.int .i64 x9.2)]) _ (op_move rfl) rfl ?_
  refine WL.val u11 _ (op_extract rfl rfl) rfl ?_
  refine WL.val (Value.int .i64 x9.2) _ (op_extract rfl rfl) rfl ?_
  refine WL.val u11 _ (op_assign rfl) rfl ?_
  refine WL.val (Value.int .i64 x9.2) _ (op_assign rfl) rfl ?_
  refine WL.nil ?_
  show W _ _ _ _ _ _
  refine W.seq ?_
  refine W.region ?_
  refine WL.val (Value.int .i64 (0 : Int)) _ (op_assign rfl) rfl ?_
  refine WL.nil ?_
  show W _ _ _ _ _ _
  refine W.seq ?_
  refine W.seq ?_
  refine W.region ?_
  refine WL.val u11 _ (op_move rfl) rfl ?_
  have hr17 := inR_len (St.rep (t := (Ty.sl (Ty.i .i64))) hS16 0 rfl)
  refine WL.val (Value.int .i64 ((x9.1).length : Int)) _ (op_lenL sl_25 (St.rep (t := (Ty.sl (Ty.i .i64))) hS16 0 rfl) rfl) rfl ?_
  refine WL.val (Value.int .i64 (0 : Int)) _ (op_move rfl) rfl ?_
  refine WL.nil ?_
  show W _ _ _ _ _ _
  obtain ⟨res18, hres19, h⟩ := bs h
  refine W.blockLoop (fun fq wq => ∃ s, res18 = Res.fin s ∧ fq 5 = (Value.int .i64 x9.2) ∧ fq 6 = Value.int .i64 s ∧ InR .i64 s ∧ St wd2 wq []) ?_ ?_
  · refine W.forN (fun k s fq wq => fq 5 = (Value.int .i64 x9.2) ∧ fq 6 = Value.int .i64 s ∧ InR .i64 s ∧ fq 14 = u11 ∧ fq 15 = (Value.int .i64 ((x9.1).length : Int)) ∧ fq 16 = Value.int .i64 (k : Int) ∧ InR .i64 (k : Int) ∧ St wd2 wq [(Ty.sl (Ty.i .i64)).at u11 x9.1]) hres19 ⟨rfl, rfl, (inR_i64.2 (show (-9223372036854775808 : Int) ≤ 0 ∧ (0 : Int) ≤ 9223372036854775807 from by decide)), rfl, rfl, rfl, (inR_i64.2 (show (-9223372036854775808 : Int) ≤ 0 ∧ (0 : Int) ≤ 9223372036854775807 from by decide)), hS16⟩ ?_ ?_
    · intro k20 x21 ct22 f23 wd24 hk25 hb26 hI27 hbrk28 hret29
      replace hI27 : f23 5 = (Value.int .i64 x9.2) ∧ f23 6 = Value.int .i64 x21 ∧ InR .i64 x21 ∧ f23 14 = u11 ∧ f23 15 = (Value.int .i64 ((x9.1).length : Int)) ∧ f23 16 = Value.int .i64 (k20 : Int) ∧ InR .i64 (k20 : Int) ∧ St wd2 wd24 [(Ty.sl (Ty.i .i64)).at u11 x9.1] := hI27
      replace hb26 : p_impl_InvertibleSubring_L1 x9 k20 x21 = some ct22 := hb26
      unfold p_impl_InvertibleSubring_L1 at hb26
      obtain ⟨hf30, hf31, hr32, hf33, hf34, hf35, hr36, hS37⟩ := hI27
      refine W.seq ?_
      refine W.region ?_
      refine WL.val (Value.bool (decide ((k20 : Int) < ((x9.1).length : Int)))) _ (op_lss hf35 hf34) rfl ?_
      have hl38 : (k20 : Int) < ((x9.1).length : Int) := by omega
      refine WL.nil ?_
      show W _ _ _ _ _ _
      refine W.seq ?_
      refine W.condT (decide ((k20 : Int) < ((x9.1).length : Int))) rfl (decide_eq_true hl38) ?_
      refine W.skip ?_
      show W _ _ _ _ _ _
      refine W.seq ?_
      refine W.block ?_
      refine W.seq ?_
      refine W.region ?_
      obtain ⟨x40, hx43, hb26⟩ := bs hb26
      obtain ⟨ha41, hb42, hx43⟩ := idx_some hx43
      refine WL.val (Value.pointer (some (elA u11 ((k20 : Int)).toNat))) _ (op_idx sl_25 (St.rep (t := (Ty.sl (Ty.i .i64))) hS37 0 rfl) hf33 hf35 ha41 hb42) rfl ?_
      obtain ⟨u44, hc45, hr46⟩ := repSl.el (St.rep (t := (Ty.sl (Ty.i .i64))) hS37 0 rfl) hx43
      obtain ⟨rfl, hr46⟩ := hr46
      refine WL.val (Value.int .i64 x40) _ (op_load one_2 rfl hc45) rfl ?_
      refine WL.val (Value.int .i64 x40) _ (op_assign rfl) rfl ?_
      refine WL.nil ?_
      show W _ _ _ _ _ _
      refine W.region ?_
      refine WL.val (Value.int .i64 x21) _ (op_move hf31) rfl ?_
      refine WL.val (Value.int .i64 x40) _ (op_move rfl) rfl ?_
      obtain ⟨x47, hz48, hb26⟩ := bs hb26
      obtain ⟨h049, hz48⟩ := shlI_some hz48
      have hr50 : InR .i64 x47 := by rw [hz48]; exact inR_wrap _ _
      refine WL.val (Value.int .i64 x47) _ (by rw [hz48]; exact op_shl rfl rfl h049) rfl ?_
      refine WL.val (Value.int .i64 (orI .i64 x21 x47)) _ (op_or rfl rfl) rfl ?_
      refine WL.val (Value.int .i64 (orI .i64 x21 x47)) _ (op_assign rfl) rfl ?_
      refine WL.nil ?_
      show W _ _ _ _ _ _
      refine W.region ?_
      refine WL.val (Value.int .i64 (w64 ((k20 : Int) + (1 : Int)))) _ (op_add hf35 rfl) rfl ?_
      refine WL.val (Value.int .i64 (w64 ((k20 : Int) + (1 : Int)))) _ (op_move rfl) rfl ?_
      refine WL.nil ?_
      obtain rfl := Option.some.inj hb26
      show ∃ s, _ = Ctl.next s ∧ _
      exact ⟨_, rfl, hf30, rfl, (inR_wrap _ _), hf33, hf34, (ctr_next hl38 hr17), (ctr_rng hl38 hr17), hS37⟩
    · intro x57 f52 wd53 hs54 hI55
      replace hI55 : f52 5 = (Value.int .i64 x9.2) ∧ f52 6 = Value.int .i64 x57 ∧ InR .i64 x57 ∧ f52 14 = u11 ∧ f52 15 = (Value.int .i64 ((x9.1).length : Int)) ∧ f52 16 = Value.int .i64 (((x9.1).length : Nat) : Int) ∧ InR .i64 (((x9.1).length : Nat) : Int) ∧ St wd2 wd53 [(Ty.sl (Ty.i .i64)).at u11 x9.1] := hI55
      obtain ⟨hf58, hf59, hr60, hf61, hf62, hf63, hr64, hS65⟩ := hI55
      refine W.seq ?_
      refine W.region ?_
      refine WL.val (Value.bool (decide ((((x9.1).length : Nat) : Int) < ((x9.1).length : Int)))) _ (op_lss hf63 hf62) rfl ?_
      have hl66 : ¬ (((x9.1).length : Nat) : Int) < ((x9.1).length : Int) := by omega
      refine WL.nil ?_
      show W _ _ _ _ _ _
      refine W.seq ?_
      refine W.condF (decide ((((x9.1).length : Nat) : Int) < ((x9.1).length : Int))) rfl (decide_eq_false hl66) ?_
      refine W.exit ?_
      show _ = _ ∧ _
      exact ⟨rfl, _, hs54, hf58, hf59, hr60, (St.pick hS65 [] rfl)⟩
  · rintro f67 wd68 ⟨x71, rfl, hq69⟩
    replace h := onRes_fin h
    replace hq69 : f67 5 = (Value.int .i64 x9.2) ∧ f67 6 = Value.int .i64 x71 ∧ InR .i64 x71 ∧ St wd2 wd68 [] := hq69
    obtain ⟨hf72, hf73, hr74, hS75⟩ := hq69
    show W _ _ _ _ _ _
    refine W.seq ?_
    refine W.region ?_
    refine WL.val (Value.int .i64 x71) _ (op_move hf73) rfl ?_
    refine WL.val (Value.int .i64 x9.2) _ (op_move hf72) rfl ?_
    refine WL.val (Value.int .i64 x71) _ (op_assign rfl) rfl ?_
    refine WL.val (Value.int .i64 x9.2) _ (op_assign rfl) rfl ?_
    refine WL.nil ?_
    show W _ _ _ _ _ _
    refine W.ret ?_
    obtain rfl := Option.some.inj h
    show FinP _ _ _ _ _ _ _
    exact FinP.ret _ (res2 rfl rfl rfl) ⟨rfl, hr74, hr12, (Ext.trans hE7 hS75.ext)⟩

theorem c_laws_FnExactInvertibleSubring {w : World} {aR_Table : (List (List (List Int)))} {v_aR_Table : Value} (r_aR_Table : (Ty.sl (Ty.sl (Ty.sl (Ty.i .i64)))).rep w v_aR_Table aR_Table) {res : Bool} (h : p_laws_FnExactInvertibleSubring aR_Table  = some res) :
    Ret Try.prog 4 #[(Value.agg #[v_aR_Table])] w (fun v w' => v = Value.bool res ∧ Ext w w') := by
  unfold p_laws_FnExactInvertibleSubring at h
  have hS0 : St w w [] := St.start w
  refine Ret.start (fn := Try.f4) Try.func4 rfl 40 rfl rfl ?_
  refine W.seq ?_
  refine W.region ?_
  refine WL.box hS0 rfl (cs := [v_aR_Table]) rfl rfl ?_
  intro b1 wd2 hS3 he4 hx5
  replace hS3 : St w wd2 [bx b1 [v_aR_Table]] := hS3
  have hx6 := St.boxAt hS3 0 rfl
  have hE7 : Ext w wd2 := hS3.ext
  have hS8 : St wd2 wd2 [] := St.start wd2
  refine WL.val (Value.bool false) _ (op_assign rfl) rfl ?_
  refine WL.nil ?_
  show W _ _ _ _ _ _
  refine W.seq ?_
  refine W.region ?_
  refine WL.val (Value.int .i64 (1048576 : Int)) _ (op_assign rfl) rfl ?_
  refine WL.nil ?_
  show W _ _ _ _ _ _
  refine W.seq ?_
  refine W.region ?_
  refine WL.val (Value.agg #[v_aR_Table]) _ (op_loadBox st_24 rfl (BoxAt.lift hS8.ext hx6) rfl rfl) rfl ?_
  refine WL.val (Value.int .i64 (1048576 : Int)) _ (op_move rfl) rfl ?_
  obtain ⟨x9, hx10, h⟩ := bs h
  refine WL.call _ (op_call fn_11 (args2 rfl rfl)) (c_laws_szRing (Ty.lift _ (Ext.trans hE7 hS8.ext) r_aR_Table) (inR_i64.2 (show (-9223372036854775808 : Int) ≤ 1048576 ∧ (1048576 : Int) ≤ 9223372036854775807 from by decide)) hx10) rfl ?_
  rintro _ wd12 ⟨rfl, hr11, he13⟩
  have hS15 := St.extend hS8 he13
  replace hS15 : St wd2 wd12 [] := hS15
  refine WL.val (Value.int .i64 x9) _ (op_assign rfl) rfl ?_
  refine WL.nil ?_
  show W _ _ _ _ _ _
  refine W.seq ?_
  refine W.seq ?_
  refine W.region ?_
  refine WL.val (Value.int .i64 x9) _ (op_move rfl) rfl ?_
  refine WL.val (Value.bool (decide (x9 < (0 : Int)))) _ (op_lss rfl rfl) rfl ?_
  refine WL.nil ?_
  show W _ _ _ _ _ _
  refine W.cond (decide (x9 < (0 : Int))) rfl (fun hc16 => ?_) (fun hc16 => ?_)
  · replace h := ip h hc16
    refine W.seq ?_
    refine W.region ?_
    refine WL.val (Value.bool true) _ (op_assign rfl) rfl ?_
    refine WL.nil ?_
    show W _ _ _ _ _ _
    refine W.ret ?_
    obtain rfl := Option.some.inj h
    show FinP _ _ _ _ _ _ _
    exact FinP.ret _ (res1 rfl rfl) ⟨rfl, (Ext.trans hE7 hS15.ext)⟩
  · replace h := inegb h hc16
    refine W.skip ?_
    show W _ _ _ _ _ _
    refine W.seq ?_
    refine W.region ?_
    refine WL.val (Value.agg #[v_aR_Table]) _ (op_loadBox st_24 rfl (BoxAt.lift hS15.ext hx6) rfl rfl) rfl ?_
    obtain ⟨x18, hx19, h⟩ := bs h
    refine WL.call _ (op_call fn_13 (args1 rfl)) (c_laws_toRing (Ty.lift _ (Ext.trans hE7 hS15.ext) r_aR_Table) hx19) rfl ?_
    rintro _ wd21 ⟨u20, rfl, he22, hs23⟩
    have hS24 := St.join hS15 he22 hs23
    replace hS24 : St wd2 wd21 [(Ty.sl (Ty.sl (Ty.sl (Ty.i .i64)))).at u20 x18] := hS24
    have hb25 := St.rep (t := (Ty.sl (Ty.sl (Ty.sl (Ty.i .i64))))) hS24 0 rfl
    have hE26 : Ext w wd21 := (Ext.trans hE7 hS24.ext)
    have hE27 : Ext wd2 wd21 := hS24.ext
    have hS28 : St wd21 wd21 [] := St.start wd21
    obtain ⟨x29, hx30, h⟩ := bs h
    refine WL.call _ (op_call fn_18 (args1 rfl)) (c_spec_InvertibleSubring (Ty.lift _ hS28.ext hb25) hx30) rfl ?_
    rintro _ wd33 ⟨rfl, hr31, hr32, he34⟩
    have hS36 := St.extend hS28 he34
    replace hS36 : St wd21 wd33 [] := hS36
    refine WL.val (Value.tuple #[(Value.int .i64 x29.1), (Value.int .i64 x29.2)]) _ (op_move rfl) rfl ?_
    refine WL.val (Value.int .i64 x29.1) _ (op_extract rfl rfl) rfl ?_
    refine WL.val (Value.int .i64 x29.2) _ (op_extract rfl rfl) rfl ?_
    refine WL.val (Value.int .i64 x29.1) _ (op_assign rfl) rfl ?_
    refine WL.val (Value.int .i64 x29.2) _ (op_assign rfl) rfl ?_
    refine WL.nil ?_
    show W _ _ _ _ _ _
    refine W.seq ?_
    refine W.region ?_
    refine WL.val (Value.agg #[v_aR_Table]) _ (op_loadBox st_24 rfl (BoxAt.lift (Ext.trans hE27 hS36.ext) hx6) rfl rfl) rfl ?_
    obtain ⟨x37, hx38, h⟩ := bs h
    refine WL.call _ (op_call fn_13 (args1 rfl)) (c_laws_toRing (Ty.lift _ (Ext.trans hE26 hS36.ext) r_aR_Table) hx38) rfl ?_
    rintro _ wd40 ⟨u39, rfl, he41, hs42⟩
    have hS43 := St.join hS36 he41 hs42
    replace hS43 : St wd21 wd40 [(Ty.sl (Ty.sl (Ty.sl (Ty.i .i64)))).at u39 x37] := hS43
    refine WL.alloc hS43 ze_29 (cs := [(Value.slice none 0 0)]) rfl rfl ?_
    intro b44 wd45 hS46 he47
    replace hS46 : St wd21 wd45 [(Ty.sl (Ty.sl (Ty.sl (Ty.i .i64)))).at u39 x37, bx b44 [(Value.slice none 0 0)]] := hS46
    refine WL.storeBox [u39] hS46 (k := 1) rfl rfl rfl (us := [u39]) rfl sz_29 rfl rfl (all_rep (St.rep (t := (Ty.sl (Ty.sl (Ty.sl (Ty.i .i64))))) hS46 0 rfl) all_nil) rfl ?_
    intro wd48 hS49
    replace hS49 : St wd21 wd48 [(Ty.sl (Ty.sl (Ty.sl (Ty.i .i64)))).at u39 x37, bx b44 [u39]] := hS49
    refine WL.nil ?_
    show W _ _ _ _ _ _
    refine W.seq ?_
    refine W.region ?_
    refine WL.val (Value.agg #[u39]) _ (op_loadBox st_29 rfl (St.boxAt hS49 1 rfl) rfl rfl) rfl ?_
    obtain ⟨x50, hx51, h⟩ := bs h
    refine WL.call _ (op_call fn_19 (args1 rfl)) (c_impl_InvertibleSubring (St.rep (t := (Ty.sl (Ty.sl (Ty.sl (Ty.i .i64))))) hS49 0 rfl) hx51) rfl ?_
    rintro _ wd54 ⟨rfl, hr52, hr53, he55⟩
    have hS57 := St.extend hS49 he55
    replace hS57 : St wd21 wd54 [(Ty.sl (Ty.sl (Ty.sl (Ty.i .i64)))).at u39 x37, bx b44 [u39]] := hS57
    refine WL.val (Value.tuple #[(Value.int .i64 x50.1), (Value.int .i64 x50.2)]) _ (op_move rfl) rfl ?_
    refine WL.val (Value.int .i64 x50.1) _ (op_extract rfl rfl) rfl ?_
    refine WL.val (Value.int .i64 x50.2) _ (op_extract rfl rfl) rfl ?_
    refine WL.val (Value.int .i64 x50.1) _ (op_assign rfl) rfl ?_
    refine WL.val (Value.int .i64 x50.2) _ (op_assign rfl) rfl ?_
    refine WL.nil ?_
    show W _ _ _ _ _ _
    refine W.seq ?_
    refine W.seq ?_
    refine W.region ?_
    refine WL.val (Value.int .i64 x50.1) _ (op_move rfl) rfl ?_
    refine WL.val (Value.int .i64 x29.1) _ (op_move rfl) rfl ?_
    refine WL.val (Value.bool (x50.1 != x29.1)) _ (op_neq rfl rfl) rfl ?_
    refine WL.val (Value.bool (x50.1 != x29.1)) _ (op_move rfl) rfl ?_
    refine WL.cut 4 (fun fq wq => fq 1 = (Value.pointer (some ⟨b1, 0, none⟩)) ∧ fq 6 = (Value.pointer (some ⟨b44, 0, none⟩)) ∧ fq 34 = (Value.bool ((x50.1 != x29.1) || (x50.2 != x29.2))) ∧ St wd21 wq [(Ty.sl (Ty.sl (Ty.sl (Ty.i .i64)))).at u39 x37, bx b44 [u39]]) ?_ ?_
    · rcases Bool.eq_false_or_eq_true (x50.1 != x29.1) with hc58 | hc58
      · refine WL.gskip rfl (bool_of rfl hc58) rfl ?_
        refine WL.gskip rfl (bool_of rfl hc58) rfl ?_
        refine WL.gskip rfl (bool_of rfl hc58) rfl ?_
        refine WL.val (Value.bool true) _ (op_pick_t (evb_of rfl hc58) rfl) rfl ?_
        refine WL.nil ?_
        exact ⟨rfl, rfl, rfl, (orT hc58), hS57⟩
      · refine WL.grun rfl (bool_of rfl hc58) ?_
        refine WL.val (Value.int .i64 x50.2) _ (op_move rfl) rfl ?_
        refine WL.grun rfl (bool_of rfl hc58) ?_
        refine WL.val (Value.int .i64 x29.2) _ (op_move rfl) rfl ?_
        refine WL.grun rfl (bool_of rfl hc58) ?_
        refine WL.val (Value.bool (x50.2 != x29.2)) _ (op_neq rfl rfl) rfl ?_
        refine WL.val (Value.bool (x50.2 != x29.2)) _ (op_pick_f (evb_of rfl hc58) rfl) rfl ?_
        refine WL.nil ?_
        exact ⟨rfl, rfl, rfl, (orF hc58), hS57⟩
    · intro f59 wd60 hq61
      obtain ⟨hf62, hf63, hf64, hS65⟩ := hq61
      refine WL.nil ?_
      show W _ _ _ _ _ _
      refine W.cond ((x50.1 != x29.1) || (x50.2 != x29.2)) hf64 (fun hc66 => ?_) (fun hc66 => ?_)
      · replace h := ip h hc66
        refine W.seq ?_
        refine W.region ?_
        refine WL.val (Value.bool false) _ (op_assign rfl) rfl ?_
        refine WL.nil ?_
        show W _ _ _ _ _ _
        refine W.ret ?_
        obtain rfl := Option.some.inj h
        show FinP _ _ _ _ _ _ _
        exact FinP.ret _ (res1 rfl rfl) ⟨rfl, (Ext.trans hE26 hS65.ext)⟩
      · replace h := inegb h hc66
        refine W.skip ?_
        show W _ _ _ _ _ _
        refine W.seq ?_
        refine W.seq ?_
        obtain ⟨x91, hx92, h⟩ := bs h
        refine W.draw mixo 3 [fun v w' => ∃ (uu0 : Value), v = (Value.agg #[uu0]) ∧ (Ty.sl (Ty.sl (Ty.sl (Ty.i .i64)))).rep w' uu0 x37, fun v w' => ∃ (uu0 : Value), v = (Value.agg #[uu0]) ∧ (Ty.sl (Ty.sl (Ty.sl (Ty.i .i64)))).rep w' uu0 aR_Table, fun v w' => ∃ (uu0 : Value), v = (Value.agg #[uu0]) ∧ (Ty.sl (Ty.sl (Ty.sl (Ty.i .i64)))).rep w' uu0 x91] (by kernel_rfl) (by kernel_rfl) (stabL ⟨(fun _ _ _ he ⟨uu0, h0, r0⟩ => ⟨uu0, h0, Ty.lift _ he r0⟩), (fun _ _ _ he ⟨uu0, h0, r0⟩ => ⟨uu0, h0, Ty.lift _ he r0⟩), (fun _ _ _ he ⟨uu0, h0, r0⟩ => ⟨uu0, h0, Ty.lift _ he r0⟩), trivial⟩) ⟨?_, ?_, ?_, trivial⟩ ?_
        · intro f68 wd69 he70 hout71 hphi72
          have hS73 : St wd21 wd69 [(Ty.sl (Ty.sl (Ty.sl (Ty.i .i64)))).at u39 x37, bx b44 [u39]] := St.extend hS65 he70
          have e74 : f68 6 = (Value.pointer (some ⟨b44, 0, none⟩)) := (hout71 6 rfl).trans hf63
          exact OpY.val (Value.agg #[u39]) wd69 rfl (op_loadBox st_29 e74 (St.boxAt hS73 1 rfl) rfl rfl) (Ext.refl _) ⟨u39, rfl, (St.rep (t := (Ty.sl (Ty.sl (Ty.sl (Ty.i .i64))))) hS73 0 rfl)⟩
        · intro f75 wd76 he77 hout78 hphi79
          have hS80 : St wd21 wd76 [(Ty.sl (Ty.sl (Ty.sl (Ty.i .i64)))).at u39 x37, bx b44 [u39]] := St.extend hS65 he77
          have e81 : f75 1 = (Value.pointer (some ⟨b1, 0, none⟩)) := (hout78 1 rfl).trans hf62
          exact OpY.val (Value.agg #[v_aR_Table]) wd76 rfl (op_loadBox st_24 e81 (BoxAt.lift (Ext.trans hE27 hS80.ext) hx6) rfl rfl) (Ext.refl _) ⟨v_aR_Table, rfl, (Ty.lift _ (Ext.trans hE26 hS80.ext) r_aR_Table)⟩
        · intro f82 wd83 he84 hout85 hphi86
          have hS87 : St wd21 wd83 [(Ty.sl (Ty.sl (Ty.sl (Ty.i .i64)))).at u39 x37, bx b44 [u39]] := St.extend hS65 he84
          obtain ⟨u89, e88, hr90⟩ := hphi86 1 36 _ rfl rfl rfl
          refine OpY.call rfl (op_call fn_13 (args1 e88)) (Ret.mono (c_laws_toRing hr90 hx92) ?_)
          rintro _ wd94 ⟨u93, rfl, he95, hs96⟩
          exact ⟨he95, ⟨u93, rfl, (Sep.rep (t := (Ty.sl (Ty.sl (Ty.sl (Ty.i .i64))))) hs96 0 rfl)⟩⟩
        · intro f97 wd98 he99 hout100 hphi101
          show WL _ _ _ _ _ _ _
          have hS102 : St wd21 wd98 [(Ty.sl (Ty.sl (Ty.sl (Ty.i .i64)))).at u39 x37, bx b44 [u39]] := St.extend hS65 he99
          obtain ⟨u104, e103, hr105⟩ := hphi101 0 35 _ (by decide) rfl rfl
          obtain ⟨u107, e106, hr108⟩ := hphi101 2 37 _ (by decide) rfl rfl
          obtain ⟨x109, hx110, h⟩ := bs h
          refine WL.call _ (op_call fn_16 (args2 e103 e106)) (c_laws_eqRing hr105 hr108 hx110) rfl ?_
          rintro _ wd111 ⟨rfl, he112⟩
          have hS114 := St.extend hS102 he112
          replace hS114 : St wd21 wd111 [(Ty.sl (Ty.sl (Ty.sl (Ty.i .i64)))).at u39 x37, bx b44 [u39]] := hS114
          refine WL.val (Value.bool (!x109)) _ (op_not rfl) rfl ?_
          refine WL.nil ?_
          show W _ _ _ _ _ _
          refine W.cond (!x109) rfl (fun hc115 => ?_) (fun hc115 => ?_)
          · replace h := ip h hc115
            refine W.seq ?_
            refine W.region ?_
            refine WL.val (Value.bool false) _ (op_assign rfl) rfl ?_
            refine WL.nil ?_
            show W _ _ _ _ _ _
            refine W.ret ?_
            obtain rfl := Option.some.inj h
            show FinP _ _ _ _ _ _ _
            exact FinP.ret _ (res1 rfl rfl) ⟨rfl, (Ext.trans hE26 hS114.ext)⟩
          · replace h := inegb h hc115
            refine W.skip ?_
            show W _ _ _ _ _ _
            refine W.seq ?_
            refine W.region ?_
            refine WL.val (Value.bool true) _ (op_assign rfl) rfl ?_
            refine WL.nil ?_
            show W _ _ _ _ _ _
            refine W.ret ?_
            obtain rfl := Option.some.inj h
            show FinP _ _ _ _ _ _ _
            exact FinP.ret _ (res1 rfl rfl) ⟨rfl, (Ext.trans hE26 hS114.ext)⟩

end Go.VG
