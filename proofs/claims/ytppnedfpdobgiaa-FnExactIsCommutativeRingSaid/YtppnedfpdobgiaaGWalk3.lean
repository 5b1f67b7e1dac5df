/- The walks, part 3: each Go function returns what its plain twin returns. No condition beyond what each names. -/
import Derived.Test.YtppnedfpdobgiaaGWalk2
set_option linter.all false
namespace Go.VG
open Go.Proofs
attribute [local irreducible] W WL Sep FinP

theorem c_slices_Equal_Lint64_int64 {w : World} {s1 : (List Int)} {v_s1 : Value} {s2 : (List Int)} {v_s2 : Value} (r_s1 : (Ty.sl (Ty.i .i64)).rep w v_s1 s1) (r_s2 : (Ty.sl (Ty.i .i64)).rep w v_s2 s2) {res : Bool} (h : p_slices_Equal_Lint64_int64 s1 s2  = some res) :
    Ret Try.prog 75 #[v_s1, v_s2] w (fun v w' => v = Value.bool res ∧ Ext w w') := by
  unfold p_slices_Equal_Lint64_int64 at h
  have hS0 : St w w [] := St.start w
  refine Ret.start (fn := Try.f75) Try.func75 rfl 26 rfl rfl ?_
  refine W.seq ?_
  refine W.region ?_
  refine WL.val (Value.bool false) _ (op_assign rfl) rfl ?_
  refine WL.nil ?_
  show W _ _ _ _ _ _
  refine W.seq ?_
  refine W.seq ?_
  refine W.region ?_
  refine WL.val v_s1 _ (op_move rfl) rfl ?_
  have hr1 := inR_len (Ty.lift _ hS0.ext r_s1)
  refine WL.val (Value.int .i64 ((s1).length : Int)) _ (op_lenL sl_25 (Ty.lift _ hS0.ext r_s1) rfl) rfl ?_
  refine WL.val v_s2 _ (op_move rfl) rfl ?_
  have hr2 := inR_len (Ty.lift _ hS0.ext r_s2)
  refine WL.val (Value.int .i64 ((s2).length : Int)) _ (op_lenL sl_25 (Ty.lift _ hS0.ext r_s2) rfl) rfl ?_
  refine WL.val (Value.bool (((s1).length : Int) != ((s2).length : Int))) _ (op_neq rfl rfl) rfl ?_
  refine WL.nil ?_
  show W _ _ _ _ _ _
  refine W.cond (((s1).length : Int) != ((s2).length : Int)) rfl (fun hc3 => ?_) (fun hc3 => ?_)
  · replace h := ip h hc3
    refine W.seq ?_
    refine W.region ?_
    refine WL.val (Value.bool false) _ (op_assign rfl) rfl ?_
    refine WL.nil ?_
    show W _ _ _ _ _ _
    refine W.ret ?_
    obtain rfl := Option.some.inj h
    show FinP _ _ _ _ _ _ _
    exact FinP.ret _ (res1 rfl rfl) ⟨rfl, hS0.ext⟩
  · replace h := inegb h hc3
    refine W.skip ?_
    show W _ _ _ _ _ _
    refine W.seq ?_
    refine W.seq ?_
    refine W.region ?_
    refine WL.val v_s1 _ (op_move rfl) rfl ?_
    have hr5 := inR_len (Ty.lift _ hS0.ext r_s1)
    refine WL.val (Value.int .i64 ((s1).length : Int)) _ (op_lenL sl_25 (Ty.lift _ hS0.ext r_s1) rfl) rfl ?_
    refine WL.val (Value.int .i64 (0 : Int)) _ (op_move rfl) rfl ?_
    refine WL.nil ?_
    show W _ _ _ _ _ _
    obtain ⟨res6, hres7, h⟩ := bs h
    refine W.blockLoop (fun fq wq => ∃ s, res6 = Res.fin s ∧ St w wq []) ?_ ?_
    · refine W.forN (fun k (s : Unit) fq wq => fq 0 = v_s1 ∧ fq 1 = v_s2 ∧ fq 12 = (Value.int .i64 ((s1).length : Int)) ∧ fq 13 = Value.int .i64 (k : Int) ∧ InR .i64 (k : Int) ∧ St w wq []) hres7 ⟨rfl, rfl, rfl, rfl, (inR_i64.2 (show (-9223372036854775808 : Int) ≤ 0 ∧ (0 : Int) ≤ 9223372036854775807 from by decide)), hS0⟩ ?_ ?_
      · intro k8 s115 ct9 f10 wd11 hk12 hb13 hI14 hbrk15 hret16
        obtain ⟨⟩ := s115
        replace hI14 : f10 0 = v_s1 ∧ f10 1 = v_s2 ∧ f10 12 = (Value.int .i64 ((s1).length : Int)) ∧ f10 13 = Value.int .i64 (k8 : Int) ∧ InR .i64 (k8 : Int) ∧ St w wd11 [] := hI14
        replace hb13 : p_slices_Equal_Lint64_int64_L1 s1 s2 k8  = some ct9 := hb13
        unfold p_slices_Equal_Lint64_int64_L1 at hb13
        obtain ⟨hf17, hf18, hf19, hf20, hr21, hS22⟩ := hI14
        refine W.seq ?_
        refine W.region ?_
        refine WL.val (Value.bool (decide ((k8 : Int) < ((s1).length : Int)))) _ (op_lss hf20 hf19) rfl ?_
        have hl23 : (k8 : Int) < ((s1).length : Int) := by omega
        refine WL.nil ?_
        show W _ _ _ _ _ _
        refine W.seq ?_
        refine W.condT (decide ((k8 : Int) < ((s1).length : Int))) rfl (decide_eq_true hl23) ?_
        refine W.skip ?_
        show W _ _ _ _ _ _
        refine W.seq ?_
        refine W.block ?_
        refine W.seq ?_
        refine W.region ?_
        refine WL.val (Value.int .i64 (k8 : Int)) _ (op_move hf20) rfl ?_
        refine WL.val (Value.int .i64 (k8 : Int)) _ (op_assign rfl) rfl ?_
        refine WL.nil ?_
        show W _ _ _ _ _ _
        refine W.seq ?_
        obtain ⟨x48, hx51, hb13⟩ := bs hb13
        obtain ⟨ha49, hb50, hx51⟩ := idx_some hx51
        obtain ⟨u59, hc60, hr61⟩ := repSl.el r_s1 hx51
        obtain ⟨rfl, hr61⟩ := hr61
        obtain ⟨x85, hx88, hb13⟩ := bs hb13
        obtain ⟨ha86, hb87, hx88⟩ := idx_some hx88
        obtain ⟨u96, hc97, hr98⟩ := repSl.el r_s2 hx88
        obtain ⟨rfl, hr98⟩ := hr98
        refine W.draw mixo 8 [fun v _ => v = v_s1, fun v _ => v = (Value.int .i64 (k8 : Int)) ∧ InR .i64 (k8 : Int), fun v _ => v = (Value.pointer (some (elA v_s1 ((k8 : Int)).toNat))), fun v _ => v = (Value.int .i64 x48) ∧ InR .i64 x48, fun v _ => v = v_s2, fun v _ => v = (Value.int .i64 (k8 : Int)) ∧ InR .i64 (k8 : Int), fun v _ => v = (Value.pointer (some (elA v_s2 ((k8 : Int)).toNat))), fun v _ => v = (Value.int .i64 x85) ∧ InR .i64 x85] (by kernel_rfl) (by kernel_rfl) (stabL ⟨(fun _ _ _ _ h => h), (fun _ _ _ _ h => h), (fun _ _ _ _ h => h), (fun _ _ _ _ h => h), (fun _ _ _ _ h => h), (fun _ _ _ _ h => h), (fun _ _ _ _ h => h), (fun _ _ _ _ h => h), trivial⟩) ⟨?_, ?_, ?_, ?_, ?_, ?_, ?_, ?_, trivial⟩ ?_
        · intro f25 wd26 he27 hout28 hphi29
          have hS30 : St w wd26 [] := St.extend hS22 he27
          have e31 : f25 0 = v_s1 := (hout28 0 rfl).trans hf17
          exact OpY.val v_s1 wd26 rfl (op_move e31) (Ext.refl _) rfl
        · intro f32 wd33 he34 hout35 hphi36
          have hS37 : St w wd33 [] := St.extend hS22 he34
          have e38 : f32 5 = (Value.int .i64 (k8 : Int)) := (hout35 5 rfl).trans rfl
          exact OpY.val (Value.int .i64 (k8 : Int)) wd33 rfl (op_move e38) (Ext.refl _) ⟨rfl, hr21⟩
        · intro f39 wd40 he41 hout42 hphi43
          have hS44 : St w wd40 [] := St.extend hS22 he41
          have e45 : f39 16 = v_s1 := hphi43 0 16 _ rfl rfl rfl
          obtain ⟨e46, hr47⟩ : f39 17 = (Value.int .i64 (k8 : Int)) ∧ InR .i64 (k8 : Int) := hphi43 1 17 _ rfl rfl rfl
          exact OpY.val (Value.pointer (some (elA v_s1 ((k8 : Int)).toNat))) wd40 rfl (op_idx sl_25 (Ty.lift _ hS44.ext r_s1) e45 e46 ha49 hb50) (Ext.refl _) rfl
        · intro f52 wd53 he54 hout55 hphi56
          have hS57 : St w wd53 [] := St.extend hS22 he54
          have e58 : f52 18 = (Value.pointer (some (elA v_s1 ((k8 : Int)).toNat))) := hphi56 2 18 _ rfl rfl rfl
          exact OpY.val (Value.int .i64 x48) wd53 rfl (op_load one_2 e58 (Ext.cell hS57.ext hc60)) (Ext.refl _) ⟨rfl, hr61⟩
        · intro f62 wd63 he64 hout65 hphi66
          have hS67 : St w wd63 [] := St.extend hS22 he64
          have e68 : f62 1 = v_s2 := (hout65 1 rfl).trans hf18
          exact OpY.val v_s2 wd63 rfl (op_move e68) (Ext.refl _) rfl
        · intro f69 wd70 he71 hout72 hphi73
          have hS74 : St w wd70 [] := St.extend hS22 he71
          have e75 : f69 5 = (Value.int .i64 (k8 : Int)) := (hout72 5 rfl).trans rfl
          exact OpY.val (Value.int .i64 (k8 : Int)) wd70 rfl (op_move e75) (Ext.refl _) ⟨rfl, hr21⟩
        · intro f76 wd77 he78 hout79 hphi80
          have hS81 : St w wd77 [] := St.extend hS22 he78
          have e82 : f76 20 = v_s2 := hphi80 4 20 _ rfl rfl rfl
          obtain ⟨e83, hr84⟩ : f76 21 = (Value.int .i64 (k8 : Int)) ∧ InR .i64 (k8 : Int) := hphi80 5 21 _ rfl rfl rfl
          exact OpY.val (Value.pointer (some (elA v_s2 ((k8 : Int)).toNat))) wd77 rfl (op_idx sl_25 (Ty.lift _ hS81.ext r_s2) e82 e83 ha86 hb87) (Ext.refl _) rfl
        · intro f89 wd90 he91 hout92 hphi93
          have hS94 : St w wd90 [] := St.extend hS22 he91
          have e95 : f89 22 = (Value.pointer (some (elA v_s2 ((k8 : Int)).toNat))) := hphi93 6 22 _ rfl rfl rfl
          exact OpY.val (Value.int .i64 x85) wd90 rfl (op_load one_2 e95 (Ext.cell hS94.ext hc97)) (Ext.refl _) ⟨rfl, hr98⟩
        · intro f99 wd100 he101 hout102 hphi103
          show WL _ _ _ _ _ _ _
          have hS104 : St w wd100 [] := St.extend hS22 he101
          obtain ⟨e105, hr106⟩ : f99 19 = (Value.int .i64 x48) ∧ InR .i64 x48 := hphi103 3 19 _ (by decide) rfl rfl
          obtain ⟨e107, hr108⟩ : f99 23 = (Value.int .i64 x85) ∧ InR .i64 x85 := hphi103 7 23 _ (by decide) rfl rfl
          have e109 : f99 0 = v_s1 := (hout102 0 rfl).trans hf17
          have e110 : f99 1 = v_s2 := (hout102 1 rfl).trans hf18
          have e111 : f99 12 = (Value.int .i64 ((s1).length : Int)) := (hout102 12 rfl).trans hf19
          have e112 : f99 13 = (Value.int .i64 (k8 : Int)) := (hout102 13 rfl).trans hf20
          refine WL.val (Value.bool (x48 != x85)) _ (op_neq e105 e107) rfl ?_
          refine WL.nil ?_
          show W _ _ _ _ _ _
          refine W.cond (x48 != x85) rfl (fun hc113 => ?_) (fun hc113 => ?_)
          · replace hb13 := ip hb13 hc113
            refine W.seq ?_
            refine W.region ?_
            refine WL.val (Value.bool false) _ (op_assign rfl) rfl ?_
            refine WL.nil ?_
            show W _ _ _ _ _ _
            refine W.ret ?_
            obtain rfl := Option.some.inj hb13
            obtain rfl := hret16 _ rfl
            replace h := onRes_ret h
            obtain rfl := Option.some.inj h
            show FinP _ _ _ _ _ _ _
            exact FinP.ret _ (res1 rfl rfl) ⟨rfl, hS104.ext⟩
          · replace hb13 := inegb hb13 hc113
            refine W.skip ?_
            show W _ _ _ _ _ _
            refine W.region ?_
            refine WL.val (Value.int .i64 (w64 ((k8 : Int) + (1 : Int)))) _ (op_add e112 rfl) rfl ?_
            refine WL.val (Value.int .i64 (w64 ((k8 : Int) + (1 : Int)))) _ (op_move rfl) rfl ?_
            refine WL.nil ?_
            obtain rfl := Option.some.inj hb13
            show ∃ s, _ = Ctl.next s ∧ _
            exact ⟨_, rfl, e109, e110, e111, (ctr_next hl23 hr5), (ctr_rng hl23 hr5), hS104⟩
      · intro s120 f116 wd117 hs118 hI119
        obtain ⟨⟩ := s120
        replace hI119 : f116 0 = v_s1 ∧ f116 1 = v_s2 ∧ f116 12 = (Value.int .i64 ((s1).length : Int)) ∧ f116 13 = Value.int .i64 (((s1).length : Nat) : Int) ∧ InR .i64 (((s1).length : Nat) : Int) ∧ St w wd117 [] := hI119
        obtain ⟨hf121, hf122, hf123, hf124, hr125, hS126⟩ := hI119
        refine W.seq ?_
        refine W.region ?_
        refine WL.val (Value.bool (decide ((((s1).length : Nat) : Int) < ((s1).length : Int)))) _ (op_lss hf124 hf123) rfl ?_
        have hl127 : ¬ (((s1).length : Nat) : Int) < ((s1).length : Int) := by omega
        refine WL.nil ?_
        show W _ _ _ _ _ _
        refine W.seq ?_
        refine W.condF (decide ((((s1).length : Nat) : Int) < ((s1).length : Int))) rfl (decide_eq_false hl127) ?_
        refine W.exit ?_
        show _ = _ ∧ _
        exact ⟨rfl, _, hs118, hS126⟩
    · rintro f128 wd129 ⟨s131, rfl, hq130⟩
      replace h := onRes_fin h
      obtain ⟨⟩ := s131
      replace hq130 : St w wd129 [] := hq130
      have hS132 := hq130
      show W _ _ _ _ _ _
      refine W.seq ?_
      refine W.region ?_
      refine WL.val (Value.bool true) _ (op_assign rfl) rfl ?_
      refine WL.nil ?_
      show W _ _ _ _ _ _
      refine W.ret ?_
      obtain rfl := Option.some.inj h
      show FinP _ _ _ _ _ _ _
      exact FinP.ret _ (res1 rfl rfl) ⟨rfl, hS132.ext⟩

theorem c_spec_l03Commutative {w : World} {r_Table : (List (List (List Int)))} {v_r_Table : Value} (r_r_Table : (Ty.sl (Ty.sl (Ty.sl (Ty.i .i64)))).rep w v_r_Table r_Table) {res : Bool} (h : p_spec_l03Commutative r_Table  = some res) :
    Ret Try.prog 46 #[(Value.agg #[v_r_Table])] w (fun v w' => v = Value.bool res ∧ Ext w w') := by
  unfold p_spec_l03Commutative at h
  have hS0 : St w w [] := St.start w
  refine Ret.start (fn := Try.f46) Try.func46 rfl 35 rfl rfl ?_
  refine W.seq ?_
  refine W.region ?_
  refine WL.box hS0 rfl (cs := [v_r_Table]) rfl rfl ?_
  intro b1 wd2 hS3 he4 hx5
  replace hS3 : St w wd2 [bx b1 [v_r_Table]] := hS3
  have hx6 := St.boxAt hS3 0 rfl
  have hE7 : Ext w wd2 := hS3.ext
  have hS8 : St wd2 wd2 [] := St.start wd2
  refine WL.val (Value.bool false) _ (op_assign rfl) rfl ?_
  refine WL.nil ?_
  show W _ _ _ _ _ _
  refine W.seq ?_
  refine W.seq ?_
  refine W.region ?_
  refine WL.val (Value.int .i64 (0 : Int)) _ (op_assign rfl) rfl ?_
  refine WL.nil ?_
  show W _ _ _ _ _ _
  obtain ⟨res9, hres10, h⟩ := bs h
  refine W.blockLoop (fun fq wq => ∃ s, res9 = Res.fin s ∧ St wd2 wq []) ?_ ?_
  · refine W.forN (fun k (s : Unit) fq wq => fq 1 = (Value.pointer (some ⟨b1, 0, none⟩)) ∧ fq 3 = Value.int .i64 (k : Int) ∧ InR .i64 (k : Int) ∧ St wd2 wq []) hres10 ⟨rfl, rfl, (inR_i64.2 (show (-9223372036854775808 : Int) ≤ 0 ∧ (0 : Int) ≤ 9223372036854775807 from by decide)), hS8⟩ ?_ ?_
    · intro k11 s232 ct12 f13 wd14 hk15 hb16 hI17 hbrk18 hret19
      obtain ⟨⟩ := s232
      replace hI17 : f13 1 = (Value.pointer (some ⟨b1, 0, none⟩)) ∧ f13 3 = Value.int .i64 (k11 : Int) ∧ InR .i64 (k11 : Int) ∧ St wd2 wd14 [] := hI17
      replace hb16 : p_spec_l03Commutative_L1 r_Table k11  = some ct12 := hb16
      unfold p_spec_l03Commutative_L1 at hb16
      obtain ⟨hf20, hf21, hr22, hS23⟩ := hI17
      refine W.seq ?_
      refine W.seq ?_
      refine W.region ?_
      refine WL.val (Value.int .i64 (k11 : Int)) _ (op_move hf21) rfl ?_
      refine WL.val (Value.pointer (some ⟨b1, 0, none⟩)) _ (op_fieldAddr fd_29_0 hf20) rfl ?_
      refine WL.val v_r_Table _ (op_load one_22 rfl (BoxAt.cell (BoxAt.lift hS23.ext hx6) rfl)) rfl ?_
      have hr24 := inR_len (Ty.lift _ (Ext.trans hE7 hS23.ext) r_r_Table)
      refine WL.val (Value.int .i64 ((r_Table).length : Int)) _ (op_lenL sl_22 (Ty.lift _ (Ext.trans hE7 hS23.ext) r_r_Table) rfl) rfl ?_
      refine WL.val (Value.bool (decide ((k11 : Int) < ((r_Table).length : Int)))) _ (op_lss rfl rfl) rfl ?_
      have hl25 : (k11 : Int) < ((r_Table).length : Int) := by omega
      refine WL.nil ?_
      show W _ _ _ _ _ _
      refine W.condT (decide ((k11 : Int) < ((r_Table).length : Int))) rfl (decide_eq_true hl25) ?_
      refine W.skip ?_
      show W _ _ _ _ _ _
      refine W.seq ?_
      refine W.block ?_
      refine W.seq ?_
      refine W.region ?_
      refine WL.val (Value.int .i64 (0 : Int)) _ (op_assign rfl) rfl ?_
      refine WL.nil ?_
      show W _ _ _ _ _ _
      obtain ⟨res27, hres28, hb16⟩ := bs hb16
      refine W.blockLoop (fun fq wq => ∃ s, res27 = Res.fin s ∧ fq 1 = (Value.pointer (some ⟨b1, 0, none⟩)) ∧ fq 3 = (Value.int .i64 (k11 : Int)) ∧ St wd2 wq []) ?_ ?_
      · refine W.forN (fun k (s : Unit) fq wq => fq 1 = (Value.pointer (some ⟨b1, 0, none⟩)) ∧ fq 3 = (Value.int .i64 (k11 : Int)) ∧ fq 4 = Value.int .i64 (k : Int) ∧ InR .i64 (k : Int) ∧ St wd2 wq []) hres28 ⟨hf20, hf21, rfl, (inR_i64.2 (show (-9223372036854775808 : Int) ≤ 0 ∧ (0 : Int) ≤ 9223372036854775807 from by decide)), hS23⟩ ?_ ?_
        · intro k29 s212 ct30 f31 wd32 hk33 hb34 hI35 hbrk36 hret37
          obtain ⟨⟩ := s212
          replace hI35 : f31 1 = (Value.pointer (some ⟨b1, 0, none⟩)) ∧ f31 3 = (Value.int .i64 (k11 : Int)) ∧ f31 4 = Value.int .i64 (k29 : Int) ∧ InR .i64 (k29 : Int) ∧ St wd2 wd32 [] := hI35
          replace hb34 : p_spec_l03Commutative_L2 r_Table k11 k29  = some ct30 := hb34
          unfold p_spec_l03Commutative_L2 at hb34
          obtain ⟨hf38, hf39, hf40, hr41, hS42⟩ := hI35
          refine W.seq ?_
          refine W.seq ?_
          refine W.region ?_
          refine WL.val (Value.int .i64 (k29 : Int)) _ (op_move hf40) rfl ?_
          refine WL.val (Value.int .i64 (k11 : Int)) _ (op_move hf39) rfl ?_
          refine WL.val (Value.bool (decide ((k29 : Int) < (k11 : Int)))) _ (op_lss rfl rfl) rfl ?_
          have hl43 : (k29 : Int) < (k11 : Int) := by omega
          refine WL.nil ?_
          show W _ _ _ _ _ _
          refine W.condT (decide ((k29 : Int) < (k11 : Int))) rfl (decide_eq_true hl43) ?_
          refine W.skip ?_
          show W _ _ _ _ _ _
          refine W.seq ?_
          refine W.block ?_
          refine W.seq ?_
          obtain ⟨x75, hx78, hb34⟩ := bs hb34
          obtain ⟨ha76, hb77, hx78⟩ := idx_some hx78
          obtain ⟨u86, hc87, hr88⟩ := repSl.el r_r_Table hx78
          obtain ⟨x105, hx108, hb34⟩ := bs hb34
          obtain ⟨ha106, hb107, hx108⟩ := idx_some hx108
          obtain ⟨u116, hc117, hr118⟩ := repSl.el hr88 hx108
          obtain ⟨x149, hx152, hb34⟩ := bs hb34
          obtain ⟨ha150, hb151, hx152⟩ := idx_some hx152
          obtain ⟨u160, hc161, hr162⟩ := repSl.el r_r_Table hx152
          obtain ⟨x179, hx182, hb34⟩ := bs hb34
          obtain ⟨ha180, hb181, hx182⟩ := idx_some hx182
          obtain ⟨u190, hc191, hr192⟩ := repSl.el hr162 hx182
          refine W.draw mixo 16 [fun v _ => v = (Value.pointer (some ⟨b1, 0, none⟩)), fun v _ => v = v_r_Table, fun v _ => v = (Value.int .i64 (k11 : Int)) ∧ InR .i64 (k11 : Int), fun v _ => v = (Value.pointer (some (elA v_r_Table ((k11 : Int)).toNat))), fun v _ => v = u86, fun v _ => v = (Value.int .i64 (k29 : Int)) ∧ InR .i64 (k29 : Int), fun v _ => v = (Value.pointer (some (elA u86 ((k29 : Int)).toNat))), fun v _ => v = u116, fun v _ => v = (Value.pointer (some ⟨b1, 0, none⟩)), fun v _ => v = v_r_Table, fun v _ => v = (Value.int .i64 (k29 : Int)) ∧ InR .i64 (k29 : Int), fun v _ => v = (Value.pointer (some (elA v_r_Table ((k29 : Int)).toNat))), fun v _ => v = u160, fun v _ => v = (Value.int .i64 (k11 : Int)) ∧ InR .i64 (k11 : Int), fun v _ => v = (Value.pointer (some (elA u160 ((k11 : Int)).toNat))), fun v _ => v = u190] (by kernel_rfl) (by kernel_rfl) (stabL ⟨(fun _ _ _ _ h => h), (fun _ _ _ _ h => h), (fun _ _ _ _ h => h), (fun _ _ _ _ h => h), (fun _ _ _ _ h => h), (fun _ _ _ _ h => h), (fun _ _ _ _ h => h), (fun _ _ _ _ h => h), (fun _ _ _ _ h => h), (fun _ _ _ _ h => h), (fun _ _ _ _ h => h), (fun _ _ _ _ h => h), (fun _ _ _ _ h => h), (fun _ _ _ _ h => h), (fun _ _ _ _ h => h), (fun _ _ _ _ h => h), trivial⟩) ⟨?_, ?_, ?_, ?_, ?_, ?_, ?_, ?_, ?_, ?_, ?_, ?_, ?_, ?_, ?_, ?_, trivial⟩ ?_
          · intro f45 wd46 he47 hout48 hphi49
            have hS50 : St wd2 wd46 [] := St.extend hS42 he47
            have e51 : f45 1 = (Value.pointer (some ⟨b1, 0, none⟩)) := (hout48 1 rfl).trans hf38
            exact OpY.val (Value.pointer (some ⟨b1, 0, none⟩)) wd46 rfl (op_fieldAddr fd_29_0 e51) (Ext.refl _) rfl
          · intro f52 wd53 he54 hout55 hphi56
            have hS57 : St wd2 wd53 [] := St.extend hS42 he54
            have e58 : f52 17 = (Value.pointer (some ⟨b1, 0, none⟩)) := hphi56 0 17 _ rfl rfl rfl
            exact OpY.val v_r_Table wd53 rfl (op_load one_22 e58 (BoxAt.cell (BoxAt.lift hS57.ext hx6) rfl)) (Ext.refl _) rfl
          · intro f59 wd60 he61 hout62 hphi63
            have hS64 : St wd2 wd60 [] := St.extend hS42 he61
            have e65 : f59 3 = (Value.int .i64 (k11 : Int)) := (hout62 3 rfl).trans hf39
            exact OpY.val (Value.int .i64 (k11 : Int)) wd60 rfl (op_move e65) (Ext.refl _) ⟨rfl, hr22⟩
          · intro f66 wd67 he68 hout69 hphi70
            have hS71 : St wd2 wd67 [] := St.extend hS42 he68
            have e72 : f66 18 = v_r_Table := hphi70 1 18 _ rfl rfl rfl
            obtain ⟨e73, hr74⟩ : f66 19 = (Value.int .i64 (k11 : Int)) ∧ InR .i64 (k11 : Int) := hphi70 2 19 _ rfl rfl rfl
            exact OpY.val (Value.pointer (some (elA v_r_Table ((k11 : Int)).toNat))) wd67 rfl (op_idx sl_22 (Ty.lift _ (Ext.trans hE7 hS71.ext) r_r_Table) e72 e73 ha76 hb77) (Ext.refl _) rfl
          · intro f79 wd80 he81 hout82 hphi83
            have hS84 : St wd2 wd80 [] := St.extend hS42 he81
            have e85 : f79 20 = (Value.pointer (some (elA v_r_Table ((k11 : Int)).toNat))) := hphi83 3 20 _ rfl rfl rfl
            exact OpY.val u86 wd80 rfl (op_load one_61 e85 (Ext.cell (Ext.trans hE7 hS84.ext) hc87)) (Ext.refl _) rfl
          · intro f89 wd90 he91 hout92 hphi93
            have hS94 : St wd2 wd90 [] := St.extend hS42 he91
            have e95 : f89 4 = (Value.int .i64 (k29 : Int)) := (hout92 4 rfl).trans hf40
            exact OpY.val (Value.int .i64 (k29 : Int)) wd90 rfl (op_move e95) (Ext.refl _) ⟨rfl, hr41⟩
          · intro f96 wd97 he98 hout99 hphi100
            have hS101 : St wd2 wd97 [] := St.extend hS42 he98
            have e102 : f96 21 = u86 := hphi100 4 21 _ rfl rfl rfl
            obtain ⟨e103, hr104⟩ : f96 22 = (Value.int .i64 (k29 : Int)) ∧ InR .i64 (k29 : Int) := hphi100 5 22 _ rfl rfl rfl
            exact OpY.val (Value.pointer (some (elA u86 ((k29 : Int)).toNat))) wd97 rfl (op_idx sl_61 (Ty.lift _ (Ext.trans hE7 hS101.ext) hr88) e102 e103 ha106 hb107) (Ext.refl _) rfl
          · intro f109 wd110 he111 hout112 hphi113
            have hS114 : St wd2 wd110 [] := St.extend hS42 he111
            have e115 : f109 23 = (Value.pointer (some (elA u86 ((k29 : Int)).toNat))) := hphi113 6 23 _ rfl rfl rfl
            exact OpY.val u116 wd110 rfl (op_load one_25 e115 (Ext.cell (Ext.trans hE7 hS114.ext) hc117)) (Ext.refl _) rfl
          · intro f119 wd120 he121 hout122 hphi123
            have hS124 : St wd2 wd120 [] := St.extend hS42 he121
            have e125 : f119 1 = (Value.pointer (some ⟨b1, 0, none⟩)) := (hout122 1 rfl).trans hf38
            exact OpY.val (Value.pointer (some ⟨b1, 0, none⟩)) wd120 rfl (op_fieldAddr fd_29_0 e125) (Ext.refl _) rfl
          · intro f126 wd127 he128 hout129 hphi130
            have hS131 : St wd2 wd127 [] := St.extend hS42 he128
            have e132 : f126 25 = (Value.pointer (some ⟨b1, 0, none⟩)) := hphi130 8 25 _ rfl rfl rfl
            exact OpY.val v_r_Table wd127 rfl (op_load one_22 e132 (BoxAt.cell (BoxAt.lift hS131.ext hx6) rfl)) (Ext.refl _) rfl
          · intro f133 wd134 he135 hout136 hphi137
            have hS138 : St wd2 wd134 [] := St.extend hS42 he135
            have e139 : f133 4 = (Value.int .i64 (k29 : Int)) := (hout136 4 rfl).trans hf40
            exact OpY.val (Value.int .i64 (k29 : Int)) wd134 rfl (op_move e139) (Ext.refl _) ⟨rfl, hr41⟩
          · intro f140 wd141 he142 hout143 hphi144
            have hS145 : St wd2 wd141 [] := St.extend hS42 he142
            have e146 : f140 26 = v_r_Table := hphi144 9 26 _ rfl rfl rfl
            obtain ⟨e147, hr148⟩ : f140 27 = (Value.int .i64 (k29 : Int)) ∧ InR .i64 (k29 : Int) := hphi144 10 27 _ rfl rfl rfl
            exact OpY.val (Value.pointer (some (elA v_r_Table ((k29 : Int)).toNat))) wd141 rfl (op_idx sl_22 (Ty.lift _ (Ext.trans hE7 hS145.ext) r_r_Table) e146 e147 ha150 hb151) (Ext.refl _) rfl
          · intro f153 wd154 he155 hout156 hphi157
            have hS158 : St wd2 wd154 [] := St.extend hS42 he155
            have e159 : f153 28 = (Value.pointer (some (elA v_r_Table ((k29 : Int)).toNat))) := hphi157 11 28 _ rfl rfl rfl
            exact OpY.val u160 wd154 rfl (op_load one_61 e159 (Ext.cell (Ext.trans hE7 hS158.ext) hc161)) (Ext.refl _) rfl
          · intro f163 wd164 he165 hout166 hphi167
            have hS168 : St wd2 wd164 [] := St.extend hS42 he165
            have e169 : f163 3 = (Value.int .i64 (k11 : Int)) := (hout166 3 rfl).trans hf39
            exact OpY.val (Value.int .i64 (k11 : Int)) wd164 rfl (op_move e169) (Ext.refl _) ⟨rfl, hr22⟩
          · intro f170 wd171 he172 hout173 hphi174
            have hS175 : St wd2 wd171 [] := St.extend hS42 he172
            have e176 : f170 29 = u160 := hphi174 12 29 _ rfl rfl rfl
            obtain ⟨e177, hr178⟩ : f170 30 = (Value.int .i64 (k11 : Int)) ∧ InR .i64 (k11 : Int) := hphi174 13 30 _ rfl rfl rfl
            exact OpY.val (Value.pointer (some (elA u160 ((k11 : Int)).toNat))) wd171 rfl (op_idx sl_61 (Ty.lift _ (Ext.trans hE7 hS175.ext) hr162) e176 e177 ha180 hb181) (Ext.refl _) rfl
          · intro f183 wd184 he185 hout186 hphi187
            have hS188 : St wd2 wd184 [] := St.extend hS42 he185
            have e189 : f183 31 = (Value.pointer (some (elA u160 ((k11 : Int)).toNat))) := hphi187 14 31 _ rfl rfl rfl
            exact OpY.val u190 wd184 rfl (op_load one_25 e189 (Ext.cell (Ext.trans hE7 hS188.ext) hc191)) (Ext.refl _) rfl
          · intro f193 wd194 he195 hout196 hphi197
            show WL _ _ _ _ _ _ _
            have hS198 : St wd2 wd194 [] := St.extend hS42 he195
            have e199 : f193 24 = u116 := hphi197 7 24 _ (by decide) rfl rfl
            have e200 : f193 32 = u190 := hphi197 15 32 _ (by decide) rfl rfl
            have e201 : f193 1 = (Value.pointer (some ⟨b1, 0, none⟩)) := (hout196 1 rfl).trans hf38
            have e202 : f193 3 = (Value.int .i64 (k11 : Int)) := (hout196 3 rfl).trans hf39
            have e203 : f193 4 = (Value.int .i64 (k29 : Int)) := (hout196 4 rfl).trans hf40
            obtain ⟨x204, hx205, hb34⟩ := bs hb34
            refine WL.call _ (op_call fn_71 (args2 e199 e200)) (c_spec_l01Same (Ty.lift _ (Ext.trans hE7 hS198.ext) hr118) (Ty.lift _ (Ext.trans hE7 hS198.ext) hr192) hx205) rfl ?_
            rintro _ wd206 ⟨rfl, he207⟩
            have hS209 := St.extend hS198 he207
            replace hS209 : St wd2 wd206 [] := hS209
            refine WL.val (Value.bool (!x204)) _ (op_not rfl) rfl ?_
            refine WL.nil ?_
            show W _ _ _ _ _ _
            refine W.cond (!x204) rfl (fun hc210 => ?_) (fun hc210 => ?_)
            · replace hb34 := ip hb34 hc210
              refine W.seq ?_
              refine W.region ?_
              refine WL.val (Value.bool false) _ (op_assign rfl) rfl ?_
              refine WL.nil ?_
              show W _ _ _ _ _ _
              refine W.ret ?_
              obtain rfl := Option.some.inj hb34
              obtain rfl := hret37 _ rfl
              replace hb16 := onRes_ret hb16
              obtain rfl := Option.some.inj hb16
              obtain rfl := hret19 _ rfl
              replace h := onRes_ret h
              obtain rfl := Option.some.inj h
              show FinP _ _ _ _ _ _ _
              exact FinP.ret _ (res1 rfl rfl) ⟨rfl, (Ext.trans hE7 hS209.ext)⟩
            · replace hb34 := inegb hb34 hc210
              refine W.skip ?_
              show W _ _ _ _ _ _
              refine W.region ?_
              refine WL.val (Value.int .i64 (k29 : Int)) _ (op_move e203) rfl ?_
              refine WL.val (Value.int .i64 (w64 ((k29 : Int) + (1 : Int)))) _ (op_add rfl rfl) rfl ?_
              refine WL.val (Value.int .i64 (w64 ((k29 : Int) + (1 : Int)))) _ (op_assign rfl) rfl ?_
              refine WL.nil ?_
              obtain rfl := Option.some.inj hb34
              show ∃ s, _ = Ctl.next s ∧ _
              exact ⟨_, rfl, e201, e202, (ctr_next hl43 hr22), (ctr_rng hl43 hr22), hS209⟩
        · intro s217 f213 wd214 hs215 hI216
          obtain ⟨⟩ := s217
          replace hI216 : f213 1 = (Value.pointer (some ⟨b1, 0, none⟩)) ∧ f213 3 = (Value.int .i64 (k11 : Int)) ∧ f213 4 = Value.int .i64 ((((k11 : Int)).toNat : Nat) : Int) ∧ InR .i64 ((((k11 : Int)).toNat : Nat) : Int) ∧ St wd2 wd214 [] := hI216
          obtain ⟨hf218, hf219, hf220, hr221, hS222⟩ := hI216
          refine W.seq ?_
          refine W.seq ?_
          refine W.region ?_
          refine WL.val (Value.int .i64 ((((k11 : Int)).toNat : Nat) : Int)) _ (op_move hf220) rfl ?_
          refine WL.val (Value.int .i64 (k11 : Int)) _ (op_move hf219) rfl ?_
          refine WL.val (Value.bool (decide (((((k11 : Int)).toNat : Nat) : Int) < (k11 : Int)))) _ (op_lss rfl rfl) rfl ?_
          have hl223 : ¬ ((((k11 : Int)).toNat : Nat) : Int) < (k11 : Int) := by omega
          refine WL.nil ?_
          show W _ _ _ _ _ _
          refine W.condF (decide (((((k11 : Int)).toNat : Nat) : Int) < (k11 : Int))) rfl (decide_eq_false hl223) ?_
          refine W.exit ?_
          show _ = _ ∧ _
          exact ⟨rfl, _, hs215, hf218, hf219, hS222⟩
      · rintro f224 wd225 ⟨s227, rfl, hq226⟩
        replace hb16 := onRes_fin hb16
        obtain ⟨⟩ := s227
        replace hq226 : f224 1 = (Value.pointer (some ⟨b1, 0, none⟩)) ∧ f224 3 = (Value.int .i64 (k11 : Int)) ∧ St wd2 wd225 [] := hq226
        obtain ⟨hf228, hf229, hS230⟩ := hq226
        show W _ _ _ _ _ _
        refine W.region ?_
        refine WL.val (Value.int .i64 (k11 : Int)) _ (op_move hf229) rfl ?_
        refine WL.val (Value.int .i64 (w64 ((k11 : Int) + (1 : Int)))) _ (op_add rfl rfl) rfl ?_
        refine WL.val (Value.int .i64 (w64 ((k11 : Int) + (1 : Int)))) _ (op_assign rfl) rfl ?_
        refine WL.nil ?_
        obtain rfl := Option.some.inj hb16
        show ∃ s, _ = Ctl.next s ∧ _
        exact ⟨_, rfl, hf228, (ctr_next hl25 hr24), (ctr_rng hl25 hr24), hS230⟩
    · intro s237 f233 wd234 hs235 hI236
      obtain ⟨⟩ := s237
      replace hI236 : f233 1 = (Value.pointer (some ⟨b1, 0, none⟩)) ∧ f233 3 = Value.int .i64 (((r_Table).length : Nat) : Int) ∧ InR .i64 (((r_Table).length : Nat) : Int) ∧ St wd2 wd234 [] := hI236
      obtain ⟨hf238, hf239, hr240, hS241⟩ := hI236
      refine W.seq ?_
      refine W.seq ?_
      refine W.region ?_
      refine WL.val (Value.int .i64 (((r_Table).length : Nat) : Int)) _ (op_move hf239) rfl ?_
      refine WL.val (Value.pointer (some ⟨b1, 0, none⟩)) _ (op_fieldAddr fd_29_0 hf238) rfl ?_
      refine WL.val v_r_Table _ (op_load one_22 rfl (BoxAt.cell (BoxAt.lift hS241.ext hx6) rfl)) rfl ?_
      have hr242 := inR_len (Ty.lift _ (Ext.trans hE7 hS241.ext) r_r_Table)
      refine WL.val (Value.int .i64 ((r_Table).length : Int)) _ (op_lenL sl_22 (Ty.lift _ (Ext.trans hE7 hS241.ext) r_r_Table) rfl) rfl ?_
      refine WL.val (Value.bool (decide ((((r_Table).length : Nat) : Int) < ((r_Table).length : Int)))) _ (op_lss rfl rfl) rfl ?_
      have hl243 : ¬ (((r_Table).length : Nat) : Int) < ((r_Table).length : Int) := by omega
      refine WL.nil ?_
      show W _ _ _ _ _ _
      refine W.condF (decide ((((r_Table).length : Nat) : Int) < ((r_Table).length : Int))) rfl (decide_eq_false hl243) ?_
      refine W.exit ?_
      show _ = _ ∧ _
      exact ⟨rfl, _, hs235, hS241⟩
  · rintro f244 wd245 ⟨s247, rfl, hq246⟩
    replace h := onRes_fin h
    obtain ⟨⟩ := s247
    replace hq246 : St wd2 wd245 [] := hq246
    have hS248 := hq246
    show W _ _ _ _ _ _
    refine W.seq ?_
    refine W.region ?_
    refine WL.val (Value.bool true) _ (op_assign rfl) rfl ?_
    refine WL.nil ?_
    show W _ _ _ _ _ _
    refine W.ret ?_
    obtain rfl := Option.some.inj h
    show FinP _ _ _ _ _ _ _
    exact FinP.ret _ (res1 rfl rfl) ⟨rfl, (Ext.trans hE7 hS248.ext)⟩

theorem c_spec_IsCommutativeRing {w : World} {r_Table : (List (List (List Int)))} {v_r_Table : Value} (r_r_Table : (Ty.sl (Ty.sl (Ty.sl (Ty.i .i64)))).rep w v_r_Table r_Table) {res : Bool × Int} (h : p_spec_IsCommutativeRing r_Table  = some res) :
    Ret Try.prog 22 #[(Value.agg #[v_r_Table])] w (fun v w' => v = (Value.tuple #[Value.bool res.1, Value.int .i64 res.2]) ∧ InR .i64 res.2 ∧ Ext w w') := by
  unfold p_spec_IsCommutativeRing at h
  have hS0 : St w w [] := St.start w
  refine Ret.start (fn := Try.f22) Try.func22 rfl 9 rfl rfl ?_
  refine W.seq ?_
  refine W.region ?_
  refine WL.box hS0 rfl (cs := [v_r_Table]) rfl rfl ?_
  intro b1 wd2 hS3 he4 hx5
  replace hS3 : St w wd2 [bx b1 [v_r_Table]] := hS3
  have hx6 := St.boxAt hS3 0 rfl
  have hE7 : Ext w wd2 := hS3.ext
  have hS8 : St wd2 wd2 [] := St.start wd2
  refine WL.val (Value.bool false) _ (op_assign rfl) rfl ?_
  refine WL.val (Value.int .i64 (0 : Int)) _ (op_assign rfl) rfl ?_
  refine WL.nil ?_
  show W _ _ _ _ _ _
  refine W.seq ?_
  refine W.seq ?_
  refine W.region ?_
  refine WL.val (Value.agg #[v_r_Table]) _ (op_loadBox st_29 rfl (BoxAt.lift hS8.ext hx6) rfl rfl) rfl ?_
  obtain ⟨x9, hx10, h⟩ := bs h
  refine WL.call _ (op_call fn_37 (args1 rfl)) (c_spec_l03Is (Ty.lift _ (Ext.trans hE7 hS8.ext) r_r_Table) hx10) rfl ?_
  rintro _ wd11 ⟨rfl, he12⟩
  have hS14 := St.extend hS8 he12
  replace hS14 : St wd2 wd11 [] := hS14
  refine WL.val (Value.bool (!x9)) _ (op_not rfl) rfl ?_
  refine WL.nil ?_
  show W _ _ _ _ _ _
  refine W.cond (!x9) rfl (fun hc15 => ?_) (fun hc15 => ?_)
  · replace h := ip h hc15
    refine W.seq ?_
    refine W.region ?_
    refine WL.val (Value.bool false) _ (op_assign rfl) rfl ?_
    refine WL.val (Value.int .i64 (1 : Int)) _ (op_assign rfl) rfl ?_
    refine WL.nil ?_
    show W _ _ _ _ _ _
    refine W.ret ?_
    obtain rfl := Option.some.inj h
    show FinP _ _ _ _ _ _ _
    exact FinP.ret _ (res2 rfl rfl rfl) ⟨rfl, (inR_i64.2 (show (-9223372036854775808 : Int) ≤ 1 ∧ (1 : Int) ≤ 9223372036854775807 from by decide)), (Ext.trans hE7 hS14.ext)⟩
  · replace h := inegb h hc15
    refine W.skip ?_
    show W _ _ _ _ _ _
    refine W.seq ?_
    refine W.region ?_
    refine WL.val (Value.agg #[v_r_Table]) _ (op_loadBox st_29 rfl (BoxAt.lift hS14.ext hx6) rfl rfl) rfl ?_
    obtain ⟨x17, hx18, h⟩ := bs h
    refine WL.call _ (op_call fn_46 (args1 rfl)) (c_spec_l03Commutative (Ty.lift _ (Ext.trans hE7 hS14.ext) r_r_Table) hx18) rfl ?_
    rintro _ wd19 ⟨rfl, he20⟩
    have hS22 := St.extend hS14 he20
    replace hS22 : St wd2 wd19 [] := hS22
    refine WL.val (Value.bool x17) _ (op_assign rfl) rfl ?_
    refine WL.val (Value.int .i64 (0 : Int)) _ (op_assign rfl) rfl ?_
    refine WL.nil ?_
    show W _ _ _ _ _ _
    refine W.ret ?_
    obtain rfl := Option.some.inj h
    show FinP _ _ _ _ _ _ _
    exact FinP.ret _ (res2 rfl rfl rfl) ⟨rfl, (inR_i64.2 (show (-9223372036854775808 : Int) ≤ 0 ∧ (0 : Int) ≤ 9223372036854775807 from by decide)), (Ext.trans hE7 hS22.ext)⟩

theorem c_slices_Clone_Lint64_int64 {w : World} {s1 : (List Int)} {v_s1 : Value} (r_s1 : (Ty.sl (Ty.i .i64)).rep w v_s1 s1) {res : (List Int)} (h : p_slices_Clone_Lint64_int64 s1  = some res) :
    Ret Try.prog 78 #[v_s1] w (fun v w' => ∃ (u0 : Value), v = u0 ∧ Ext w w' ∧ Sep w.heap.size w' [(Ty.sl (Ty.i .i64)).at u0 res]) := by
  unfold p_slices_Clone_Lint64_int64 at h
  have hS0 : St w w [] := St.start w
  obtain ⟨p0, c0, hv0, hl10, hl20, hp0, hel0⟩ := id r_s1
  refine Ret.start (fn := Try.f78) Try.func78 rfl 8 rfl rfl ?_
  refine W.seq ?_
  refine W.region ?_
  refine WL.val (Value.slice none 0 0) _ (op_assign rfl) rfl ?_
  refine WL.nil ?_
  show W _ _ _ _ _ _
  refine W.seq ?_
  refine W.seq ?_
  refine W.region ?_
  refine WL.val v_s1 _ (op_move rfl) rfl ?_
  refine WL.val (Value.bool p0.isNone) _ (op_eqlNil (Eq.trans rfl hv0) rfl sl_25.1) rfl ?_
  refine WL.nil ?_
  show W _ _ _ _ _ _
  refine W.cond p0.isNone rfl (fun hc1 => ?_) (fun hc1 => ?_)
  · obtain rfl : p0 = none := by cases p0 <;> simp_all
    obtain rfl : s1 = [] := Classical.byContradiction fun hn => hp0 hn rfl
    simp [appL] at h
    subst h
    refine W.seq ?_
    refine W.region ?_
    refine WL.val (Value.slice none 0 0) _ (op_assign rfl) rfl ?_
    refine WL.nil ?_
    show W _ _ _ _ _ _
    refine W.ret ?_
    show FinP _ _ _ _ _ _ _
    exact FinP.ret _ (res1 rfl rfl) ⟨(Value.slice none 0 0), rfl, hS0.ext, (St.out (St.pick (St.addNil (Ty.i .i64) hS0) [0] rfl) (Ext.refl _))⟩
  · refine W.skip ?_
    show W _ _ _ _ _ _
    refine W.seq ?_
    refine W.region ?_
    refine WL.lit0 (t := (Ty.i .i64)) hS0 sl_25 rfl rfl ?_
    intro u2 wd3 hS4 he5
    replace hS4 : St w wd3 [(Ty.sl (Ty.i .i64)).at u2 ([] : (List Int))] := hS4
    refine WL.val v_s1 _ (op_move rfl) rfl ?_
    obtain ⟨x6, hx7, h⟩ := bs h
    refine WL.append (flat_i .i64) hS4 (k := 0) rfl sl_25 rfl rfl rfl rfl (Ty.lift _ hS4.ext r_s1) hx7 rfl ?_
    intro u8 wd9 hS10 hz11
    replace hS10 : St w wd9 [(Ty.sl (Ty.i .i64)).at u8 x6] := hS10
    refine WL.val u8 _ (op_assign rfl) rfl ?_
    refine WL.nil ?_
    show W _ _ _ _ _ _
    refine W.ret ?_
    obtain rfl := Option.some.inj h
    show FinP _ _ _ _ _ _ _
    exact FinP.ret _ (res1 rfl rfl) ⟨u8, rfl, hS10.ext, (St.out (St.pick hS10 [0] rfl) (Ext.refl _))⟩

theorem c_impl_Ring_opposite {w : World} {r_Table : (List (List (List Int)))} {v_r_Table : Value} (r_r_Table : (Ty.sl (Ty.sl (Ty.sl (Ty.i .i64)))).rep w v_r_Table r_Table) {res : (List (List (List Int)))} (h : p_impl_Ring_opposite r_Table  = some res) :
    Ret Try.prog 53 #[(Value.agg #[v_r_Table])] w (fun v w' => ∃ (u0 : Value), v = (Value.agg #[u0]) ∧ Ext w w' ∧ Sep w.heap.size w' [(Ty.sl (Ty.sl (Ty.sl (Ty.i .i64)))).at u0 res]) := by
  unfold p_impl_Ring_opposite at h
  have hS0 : St w w [] := St.start w
  refine Ret.start (fn := Try.f53) Try.func53 rfl 42 rfl rfl ?_
  refine W.seq ?_
  refine W.region ?_
  refine WL.box hS0 rfl (cs := [v_r_Table]) rfl rfl ?_
  intro b1 wd2 hS3 he4 hx5
  replace hS3 : St w wd2 [bx b1 [v_r_Table]] := hS3
  have hx6 := St.boxAt hS3 0 rfl
  have hE7 : Ext w wd2 := hS3.ext
  have hS8 : St wd2 wd2 [] := St.start wd2
  refine WL.alloc hS8 ze_29 (cs := [(Value.slice none 0 0)]) rfl rfl ?_
  intro b9 wd10 hS11 he12
  replace hS11 : St wd2 wd10 [bx b9 [(Value.slice none 0 0)]] := hS11
  refine WL.nil ?_
  show W _ _ _ _ _ _
  refine W.seq ?_
  refine W.region ?_
  refine WL.val (Value.agg #[(Value.slice none 0 0)]) _ (op_build bd_29 (parts := []) (partsL trivial) trivial rfl) rfl ?_
  refine WL.alloc hS11 ze_29 (cs := [(Value.slice none 0 0)]) rfl rfl ?_
  intro b13 wd14 hS15 he16
  replace hS15 : St wd2 wd14 [bx b9 [(Value.slice none 0 0)], bx b13 [(Value.slice none 0 0)]] := hS15
  have hS19 := St.addNil (Ty.sl (Ty.sl (Ty.i .i64))) hS15
  replace hS19 : St wd2 wd14 [bx b9 [(Value.slice none 0 0)], bx b13 [(Value.slice none 0 0)], (Ty.sl (Ty.sl (Ty.sl (Ty.i .i64)))).at (Value.slice none 0 0) ([] : (List (List (List Int))))] := hS19
  refine WL.storeBox [(Value.slice none 0 0)] hS19 (k := 1) rfl rfl rfl (us := [(Value.slice none 0 0)]) rfl sz_29 rfl rfl (all_rep (St.rep (t := (Ty.sl (Ty.sl (Ty.sl (Ty.i .i64))))) hS19 2 rfl) all_nil) rfl ?_
  intro wd17 hS18
  replace hS18 : St wd2 wd17 [bx b9 [(Value.slice none 0 0)], bx b13 [(Value.slice none 0 0)], (Ty.sl (Ty.sl (Ty.sl (Ty.i .i64)))).at (Value.slice none 0 0) ([] : (List (List (List Int))))] := hS18
  refine WL.nil ?_
  show W _ _ _ _ _ _
  refine W.seq ?_
  refine W.seq ?_
  refine W.region ?_
  refine WL.val (Value.pointer (some ⟨b1, 0, none⟩)) _ (op_fieldAddr fd_29_0 rfl) rfl ?_
  refine WL.val v_r_Table _ (op_load one_22 rfl (BoxAt.cell (BoxAt.lift hS18.ext hx6) rfl)) rfl ?_
  have hr20 := inR_len (Ty.lift _ (Ext.trans hE7 hS18.ext) r_r_Table)
  refine WL.val (Value.int .i64 ((r_Table).length : Int)) _ (op_lenL sl_22 (Ty.lift _ (Ext.trans hE7 hS18.ext) r_r_Table) rfl) rfl ?_
  refine WL.val (Value.int .i64 (0 : Int)) _ (op_move rfl) rfl ?_
  refine WL.nil ?_
  show W _ _ _ _ _ _
  obtain ⟨res21, hres22, h⟩ := bs h
  refine W.blockLoop (fun fq wq => ∃ s, res21 = Res.fin s ∧ ∃ (uu0 : Value), fq 2 = (Value.pointer (some ⟨b9, 0, none⟩)) ∧ fq 3 = (Value.pointer (some ⟨b13, 0, none⟩)) ∧ St wd2 wq [bx b9 [(Value.slice none 0 0)], bx b13 [uu0], (Ty.sl (Ty.sl (Ty.sl (Ty.i .i64)))).at uu0 s]) ?_ ?_
  · refine W.forN (fun k (s : (List (List (List Int)))) fq wq => ∃ (uu0 : Value), fq 1 = (Value.pointer (some ⟨b1, 0, none⟩)) ∧ fq 2 = (Value.pointer (some ⟨b9, 0, none⟩)) ∧ fq 3 = (Value.pointer (some ⟨b13, 0, none⟩)) ∧ fq 10 = (Value.int .i64 ((r_Table).length : Int)) ∧ fq 11 = Value.int .i64 (k : Int) ∧ InR .i64 (k : Int) ∧ St wd2 wq [bx b9 [(Value.slice none 0 0)], bx b13 [uu0], (Ty.sl (Ty.sl (Ty.sl (Ty.i .i64)))).at uu0 s]) hres22 ⟨(Value.slice none 0 0), rfl, rfl, rfl, rfl, rfl, (inR_i64.2 (show (-9223372036854775808 : Int) ≤ 0 ∧ (0 : Int) ≤ 9223372036854775807 from by decide)), hS18⟩ ?_ ?_
    · intro k23 x24 ct25 f26 wd27 hk28 hb29 hI30 hbrk31 hret32
      replace hI30 : ∃ (uu0 : Value), f26 1 = (Value.pointer (some ⟨b1, 0, none⟩)) ∧ f26 2 = (Value.pointer (some ⟨b9, 0, none⟩)) ∧ f26 3 = (Value.pointer (some ⟨b13, 0, none⟩)) ∧ f26 10 = (Value.int .i64 ((r_Table).length : Int)) ∧ f26 11 = Value.int .i64 (k23 : Int) ∧ InR .i64 (k23 : Int) ∧ St wd2 wd27 [bx b9 [(Value.slice none 0 0)], bx b13 [uu0], (Ty.sl (Ty.sl (Ty.sl (Ty.i .i64)))).at uu0 x24] := hI30
      replace hb29 : p_impl_Ring_opposite_L1 r_Table k23 x24 = some ct25 := hb29
      unfold p_impl_Ring_opposite_L1 at hb29
      obtain ⟨u33, hf34, hf35, hf36, hf37, hf38, hr39, hS40⟩ := hI30
      refine W.seq ?_
      refine W.region ?_
      refine WL.val (Value.bool (decide ((k23 : Int) < ((r_Table).length : Int)))) _ (op_lss hf38 hf37) rfl ?_
      have hl41 : (k23 : Int) < ((r_Table).length : Int) := by omega
      refine WL.nil ?_
      show W _ _ _ _ _ _
      refine W.seq ?_
      refine W.condT (decide ((k23 : Int) < ((r_Table).length : Int))) rfl (decide_eq_true hl41) ?_
      refine W.skip ?_
      show W _ _ _ _ _ _
      refine W.seq ?_
      refine W.block ?_
      refine W.seq ?_
      refine W.region ?_
      refine WL.val (Value.int .i64 (k23 : Int)) _ (op_move hf38) rfl ?_
      refine WL.val (Value.int .i64 (k23 : Int)) _ (op_assign rfl) rfl ?_
      refine WL.nil ?_
      show W _ _ _ _ _ _
      refine W.seq ?_
      refine W.region ?_
      refine WL.lit0 (t := (Ty.sl (Ty.i .i64))) hS40 sl_61 rfl rfl ?_
      intro u43 wd44 hS45 he46
      replace hS45 : St wd2 wd44 [bx b9 [(Value.slice none 0 0)], bx b13 [u33], (Ty.sl (Ty.sl (Ty.sl (Ty.i .i64)))).at u33 x24, (Ty.sl (Ty.sl (Ty.i .i64))).at u43 ([] : (List (List Int)))] := hS45
      refine WL.val u43 _ (op_assign rfl) rfl ?_
      refine WL.nil ?_
      show W _ _ _ _ _ _
      refine W.seq ?_
      refine W.seq ?_
      refine W.region ?_
      refine WL.val (Value.pointer (some ⟨b1, 0, none⟩)) _ (op_fieldAddr fd_29_0 hf34) rfl ?_
      refine WL.val v_r_Table _ (op_load one_22 rfl (BoxAt.cell (BoxAt.lift hS45.ext hx6) rfl)) rfl ?_
      have hr47 := inR_len (Ty.lift _ (Ext.trans hE7 hS45.ext) r_r_Table)
      refine WL.val (Value.int .i64 ((r_Table).length : Int)) _ (op_lenL sl_22 (Ty.lift _ (Ext.trans hE7 hS45.ext) r_r_Table) rfl) rfl ?_
      refine WL.val (Value.int .i64 (0 : Int)) _ (op_move rfl) rfl ?_
      refine WL.nil ?_
      show W _ _ _ _ _ _
      obtain ⟨res48, hres49, hb29⟩ := bs hb29
      refine W.blockLoop (fun fq wq => ∃ s, res48 = Res.fin s ∧ ∃ (uu0 : Value), fq 1 = (Value.pointer (some ⟨b1, 0, none⟩)) ∧ fq 2 = (Value.pointer (some ⟨b9, 0, none⟩)) ∧ fq 3 = (Value.pointer (some ⟨b13, 0, none⟩)) ∧ fq 5 = uu0 ∧ fq 10 = (Value.int .i64 ((r_Table).length : Int)) ∧ fq 11 = (Value.int .i64 (k23 : Int)) ∧ St wd2 wq [bx b9 [(Value.slice none 0 0)], bx b13 [u33], (Ty.sl (Ty.sl (Ty.sl (Ty.i .i64)))).at u33 x24, (Ty.sl (Ty.sl (Ty.i .i64))).at uu0 s]) ?_ ?_
      · refine W.forN (fun k (s : (List (List Int))) fq wq => ∃ (uu0 : Value), fq 1 = (Value.pointer (some ⟨b1, 0, none⟩)) ∧ fq 2 = (Value.pointer (some ⟨b9, 0, none⟩)) ∧ fq 3 = (Value.pointer (some ⟨b13, 0, none⟩)) ∧ fq 4 = (Value.int .i64 (k23 : Int)) ∧ fq 5 = uu0 ∧ fq 10 = (Value.int .i64 ((r_Table).length : Int)) ∧ fq 11 = (Value.int .i64 (k23 : Int)) ∧ fq 17 = (Value.int .i64 ((r_Table).length : Int)) ∧ fq 18 = Value.int .i64 (k : Int) ∧ InR .i64 (k : Int) ∧ St wd2 wq [bx b9 [(Value.slice none 0 0)], bx b13 [u33], (Ty.sl (Ty.sl (Ty.sl (Ty.i .i64)))).at u33 x24, (Ty.sl (Ty.sl (Ty.i .i64))).at uu0 s]) hres49 ⟨u43, hf34, hf35, hf36, rfl, rfl, hf37, hf38, rfl, rfl, (inR_i64.2 (show (-9223372036854775808 : Int) ≤ 0 ∧ (0 : Int) ≤ 9223372036854775807 from by decide)), hS45⟩ ?_ ?_
        · intro k50 x51 ct52 f53 wd54 hk55 hb56 hI57 hbrk58 hret59
          replace hI57 : ∃ (uu0 : Value), f53 1 = (Value.pointer (some ⟨b1, 0, none⟩)) ∧ f53 2 = (Value.pointer (some ⟨b9, 0, none⟩)) ∧ f53 3 = (Value.pointer (some ⟨b13, 0, none⟩)) ∧ f53 4 = (Value.int .i64 (k23 : Int)) ∧ f53 5 = uu0 ∧ f53 10 = (Value.int .i64 ((r_Table).length : Int)) ∧ f53 11 = (Value.int .i64 (k23 : Int)) ∧ f53 17 = (Value.int .i64 ((r_Table).length : Int)) ∧ f53 18 = Value.int .i64 (k50 : Int) ∧ InR .i64 (k50 : Int) ∧ St wd2 wd54 [bx b9 [(Value.slice none 0 0)], bx b13 [u33], (Ty.sl (Ty.sl (Ty.sl (Ty.i .i64)))).at u33 x24, (Ty.sl (Ty.sl (Ty.i .i64))).at uu0 x51] := hI57
          replace hb56 : p_impl_Ring_opposite_L2 r_Table k23 k50 x51 = some ct52 := hb56
          unfold p_impl_Ring_opposite_L2 at hb56
          obtain ⟨u60, hf61, hf62, hf63, hf64, hf65, hf66, hf67, hf68, hf69, hr70, hS71⟩ := hI57
          refine W.seq ?_
          refine W.region ?_
          refine WL.val (Value.bool (decide ((k50 : Int) < ((r_Table).length : Int)))) _ (op_lss hf69 hf68) rfl ?_
          have hl72 : (k50 : Int) < ((r_Table).length : Int) := by omega
          refine WL.nil ?_
          show W _ _ _ _ _ _
          refine W.seq ?_
          refine W.condT (decide ((k50 : Int) < ((r_Table).length : Int))) rfl (decide_eq_true hl72) ?_
          refine W.skip ?_
          show W _ _ _ _ _ _
          refine W.seq ?_
          refine W.block ?_
          refine W.seq ?_
          refine W.region ?_
          refine WL.val (Value.int .i64 (k50 : Int)) _ (op_move hf69) rfl ?_
          refine WL.val (Value.int .i64 (k50 : Int)) _ (op_assign rfl) rfl ?_
          refine WL.nil ?_
          show W _ _ _ _ _ _
          refine W.region ?_
          refine WL.val u60 _ (op_move hf65) rfl ?_
          refine WL.val (Value.pointer (some ⟨b1, 0, none⟩)) _ (op_fieldAddr fd_29_0 hf61) rfl ?_
          refine WL.val v_r_Table _ (op_load one_22 rfl (BoxAt.cell (BoxAt.lift hS71.ext hx6) rfl)) rfl ?_
          refine WL.val (Value.int .i64 (k50 : Int)) _ (op_move rfl) rfl ?_
          obtain ⟨x74, hx77, hb56⟩ := bs hb56
          obtain ⟨ha75, hb76, hx77⟩ := idx_some hx77
          refine WL.val (Value.pointer (some (elA v_r_Table ((k50 : Int)).toNat))) _ (op_idx sl_22 (Ty.lift _ (Ext.trans hE7 hS71.ext) r_r_Table) rfl rfl ha75 hb76) rfl ?_
          obtain ⟨u78, hc79, hr80⟩ := repSl.el r_r_Table hx77
          refine WL.val u78 _ (op_load one_61 rfl (Ext.cell (Ext.trans hE7 hS71.ext) hc79)) rfl ?_
          refine WL.val (Value.int .i64 (k23 : Int)) _ (op_move hf64) rfl ?_
          obtain ⟨x81, hx84, hb56⟩ := bs hb56
          obtain ⟨ha82, hb83, hx84⟩ := idx_some hx84
          refine WL.val (Value.pointer (some (elA u78 ((k23 : Int)).toNat))) _ (op_idx sl_61 (Ty.lift _ (Ext.trans hE7 hS71.ext) hr80) rfl rfl ha82 hb83) rfl ?_
          obtain ⟨u85, hc86, hr87⟩ := repSl.el hr80 hx84
          refine WL.val u85 _ (op_load one_25 rfl (Ext.cell (Ext.trans hE7 hS71.ext) hc86)) rfl ?_
          obtain ⟨x88, hx89, hb56⟩ := bs hb56
          refine WL.call _ (op_call fn_78 (args1 rfl)) (c_slices_Clone_Lint64_int64 (Ty.lift _ (Ext.trans hE7 hS71.ext) hr87) hx89) rfl ?_
          rintro u90 wd91 ⟨_, rfl, he92, hs93⟩
          have hS94 := St.join hS71 he92 hs93
          replace hS94 : St wd2 wd91 [bx b9 [(Value.slice none 0 0)], bx b13 [u33], (Ty.sl (Ty.sl (Ty.sl (Ty.i .i64)))).at u33 x24, (Ty.sl (Ty.sl (Ty.i .i64))).at u60 x51, (Ty.sl (Ty.i .i64)).at u90 x88] := hS94
          refine WL.lit [u90] hS94 sl_61 rfl rfl (fillL rfl ⟨rfl, rfl, (cells_rep (St.rep (t := (Ty.sl (Ty.i .i64))) hS94 4 rfl)), trivial⟩) rfl rfl ?_
          intro b99 wd96 hS97 he98 hx100
          replace hS97 : St wd2 wd96 [bx b9 [(Value.slice none 0 0)], bx b13 [u33], (Ty.sl (Ty.sl (Ty.sl (Ty.i .i64)))).at u33 x24, (Ty.sl (Ty.sl (Ty.i .i64))).at u60 x51, (Ty.sl (Ty.i .i64)).at u90 x88, bx b99 [u90]] := hS97
          obtain ⟨x101, hx102, hb56⟩ := bs hb56
          refine WL.appendRow hS97 (k := 3) (k2 := 4) (k3 := 5) rfl rfl rfl rfl sl_61 rfl rfl rfl rfl hx102 rfl ?_
          intro u103 wd104 hS105 hz106
          replace hS105 : St wd2 wd104 [bx b9 [(Value.slice none 0 0)], bx b13 [u33], (Ty.sl (Ty.sl (Ty.sl (Ty.i .i64)))).at u33 x24, (Ty.sl (Ty.sl (Ty.i .i64))).at u103 x101, emp, bx b99 [u90]] := hS105
          refine WL.val u103 _ (op_assign rfl) rfl ?_
          refine WL.nil ?_
          show W _ _ _ _ _ _
          refine W.region ?_
          refine WL.val (Value.int .i64 (w64 ((k50 : Int) + (1 : Int)))) _ (op_add hf69 rfl) rfl ?_
          refine WL.val (Value.int .i64 (w64 ((k50 : Int) + (1 : Int)))) _ (op_move rfl) rfl ?_
          refine WL.nil ?_
          obtain rfl := Option.some.inj hb56
          show ∃ s, _ = Ctl.next s ∧ _
          exact ⟨_, rfl, u103, hf61, hf62, hf63, hf64, rfl, hf66, hf67, hf68, (ctr_next hl72 hr47), (ctr_rng hl72 hr47), (St.pick hS105 [0, 1, 2, 3] rfl)⟩
        · intro x113 f108 wd109 hs110 hI111
          replace hI111 : ∃ (uu0 : Value), f108 1 = (Value.pointer (some ⟨b1, 0, none⟩)) ∧ f108 2 = (Value.pointer (some ⟨b9, 0, none⟩)) ∧ f108 3 = (Value.pointer (some ⟨b13, 0, none⟩)) ∧ f108 4 = (Value.int .i64 (k23 : Int)) ∧ f108 5 = uu0 ∧ f108 10 = (Value.int .i64 ((r_Table).length : Int)) ∧ f108 11 = (Value.int .i64 (k23 : Int)) ∧ f108 17 = (Value.int .i64 ((r_Table).length : Int)) ∧ f108 18 = Value.int .i64 (((r_Table).length : Nat) : Int) ∧ InR .i64 (((r_Table).length : Nat) : Int) ∧ St wd2 wd109 [bx b9 [(Value.slice none 0 0)], bx b13 [u33], (Ty.sl (Ty.sl (Ty.sl (Ty.i .i64)))).at u33 x24, (Ty.sl (Ty.sl (Ty.i .i64))).at uu0 x113] := hI111
          obtain ⟨u114, hf115, hf116, hf117, hf118, hf119, hf120, hf121, hf122, hf123, hr124, hS125⟩ := hI111
          refine W.seq ?_
          refine W.region ?_
          refine WL.val (Value.bool (decide ((((r_Table).length : Nat) : Int) < ((r_Table).length : Int)))) _ (op_lss hf123 hf122) rfl ?_
          have hl126 : ¬ (((r_Table).length : Nat) : Int) < ((r_Table).length : Int) := by omega
          refine WL.nil ?_
          show W _ _ _ _ _ _
          refine W.seq ?_
          refine W.condF (decide ((((r_Table).length : Nat) : Int) < ((r_Table).length : Int))) rfl (decide_eq_false hl126) ?_
          refine W.exit ?_
          show _ = _ ∧ _
          exact ⟨rfl, _, hs110, u114, hf115, hf116, hf117, hf119, hf120, hf121, hS125⟩
      · rintro f127 wd128 ⟨x131, rfl, hq129⟩
        replace hb29 := onRes_fin hb29
        replace hq129 : ∃ (uu0 : Value), f127 1 = (Value.pointer (some ⟨b1, 0, none⟩)) ∧ f127 2 = (Value.pointer (some ⟨b9, 0, none⟩)) ∧ f127 3 = (Value.pointer (some ⟨b13, 0, none⟩)) ∧ f127 5 = uu0 ∧ f127 10 = (Value.int .i64 ((r_Table).length : Int)) ∧ f127 11 = (Value.int .i64 (k23 : Int)) ∧ St wd2 wd128 [bx b9 [(Value.slice none 0 0)], bx b13 [u33], (Ty.sl (Ty.sl (Ty.sl (Ty.i .i64)))).at u33 x24, (Ty.sl (Ty.sl (Ty.i .i64))).at uu0 x131] := hq129
        obtain ⟨u132, hf133, hf134, hf135, hf136, hf137, hf138, hS139⟩ := hq129
        show W _ _ _ _ _ _
        refine W.region ?_
        refine WL.val (Value.pointer (some ⟨b13, 0, none⟩)) _ (op_fieldAddr fd_29_0 hf135) rfl ?_
        refine WL.val u33 _ (op_load one_22 rfl (BoxAt.cell (St.boxAt hS139 1 rfl) rfl)) rfl ?_
        refine WL.val u132 _ (op_move hf136) rfl ?_
        refine WL.lit [u132] hS139 sl_22 rfl rfl (fillL rfl ⟨rfl, rfl, (cells_rep (St.rep (t := (Ty.sl (Ty.sl (Ty.i .i64)))) hS139 3 rfl)), trivial⟩) rfl rfl ?_
        intro b144 wd141 hS142 he143 hx145
        replace hS142 : St wd2 wd141 [bx b9 [(Value.slice none 0 0)], bx b13 [u33], (Ty.sl (Ty.sl (Ty.sl (Ty.i .i64)))).at u33 x24, (Ty.sl (Ty.sl (Ty.i .i64))).at u132 x131, bx b144 [u132]] := hS142
        obtain ⟨x146, hx147, hb29⟩ := bs hb29
        refine WL.appendRow hS142 (k := 2) (k2 := 3) (k3 := 4) rfl rfl rfl rfl sl_22 rfl rfl rfl rfl hx147 rfl ?_
        intro u148 wd149 hS150 hz151
        replace hS150 : St wd2 wd149 [bx b9 [(Value.slice none 0 0)], bx b13 [u33], (Ty.sl (Ty.sl (Ty.sl (Ty.i .i64)))).at u148 x146, emp, bx b144 [u132]] := hS150
        refine WL.val (Value.pointer (some ⟨b13, 0, none⟩)) _ (op_fieldAddr fd_29_0 hf135) rfl ?_
        refine WL.storeBox [u148] hS150 (k := 1) rfl rfl rfl (us := [u148]) (cells_rep (St.rep (t := (Ty.sl (Ty.sl (Ty.sl (Ty.i .i64))))) hS150 2 rfl)) sz_22 rfl rfl (all_rep (St.rep (t := (Ty.sl (Ty.sl (Ty.sl (Ty.i .i64))))) hS150 2 rfl) all_nil) rfl ?_
        intro wd152 hS153
        replace hS153 : St wd2 wd152 [bx b9 [(Value.slice none 0 0)], bx b13 [u148], (Ty.sl (Ty.sl (Ty.sl (Ty.i .i64)))).at u148 x146, emp, bx b144 [u132]] := hS153
        refine WL.nil ?_
        show W _ _ _ _ _ _
        refine W.region ?_
        refine WL.val (Value.int .i64 (w64 ((k23 : Int) + (1 : Int)))) _ (op_add hf138 rfl) rfl ?_
        refine WL.val (Value.int .i64 (w64 ((k23 : Int) + (1 : Int)))) _ (op_move rfl) rfl ?_
        refine WL.nil ?_
        obtain rfl := Option.some.inj hb29
        show ∃ s, _ = Ctl.next s ∧ _
        exact ⟨_, rfl, u148, hf133, hf134, hf135, hf137, (ctr_next hl41 hr20), (ctr_rng hl41 hr20), (St.pick hS153 [0, 1, 2] rfl)⟩
    · intro x161 f156 wd157 hs158 hI159
      replace hI159 : ∃ (uu0 : Value), f156 1 = (Value.pointer (some ⟨b1, 0, none⟩)) ∧ f156 2 = (Value.pointer (some ⟨b9, 0, none⟩)) ∧ f156 3 = (Value.pointer (some ⟨b13, 0, none⟩)) ∧ f156 10 = (Value.int .i64 ((r_Table).length : Int)) ∧ f156 11 = Value.int .i64 (((r_Table).length : Nat) : Int) ∧ InR .i64 (((r_Table).length : Nat) : Int) ∧ St wd2 wd157 [bx b9 [(Value.slice none 0 0)], bx b13 [uu0], (Ty.sl (Ty.sl (Ty.sl (Ty.i .i64)))).at uu0 x161] := hI159
      obtain ⟨u162, hf163, hf164, hf165, hf166, hf167, hr168, hS169⟩ := hI159
      refine W.seq ?_
      refine W.region ?_
      refine WL.val (Value.bool (decide ((((r_Table).length : Nat) : Int) < ((r_Table).length : Int)))) _ (op_lss hf167 hf166) rfl ?_
      have hl170 : ¬ (((r_Table).length : Nat) : Int) < ((r_Table).length : Int) := by omega
      refine WL.nil ?_
      show W _ _ _ _ _ _
      refine W.seq ?_
      refine W.condF (decide ((((r_Table).length : Nat) : Int) < ((r_Table).length : Int))) rfl (decide_eq_false hl170) ?_
      refine W.exit ?_
      show _ = _ ∧ _
      exact ⟨rfl, _, hs158, u162, hf164, hf165, hS169⟩
  · rintro f171 wd172 ⟨x175, rfl, hq173⟩
    replace h := onRes_fin h
    replace hq173 : ∃ (uu0 : Value), f171 2 = (Value.pointer (some ⟨b9, 0, none⟩)) ∧ f171 3 = (Value.pointer (some ⟨b13, 0, none⟩)) ∧ St wd2 wd172 [bx b9 [(Value.slice none 0 0)], bx b13 [uu0], (Ty.sl (Ty.sl (Ty.sl (Ty.i .i64)))).at uu0 x175] := hq173
    obtain ⟨u176, hf177, hf178, hS179⟩ := hq173
    show W _ _ _ _ _ _
    refine W.seq ?_
    refine W.region ?_
    refine WL.val (Value.agg #[u176]) _ (op_loadBox st_29 hf178 (St.boxAt hS179 1 rfl) rfl rfl) rfl ?_
    refine WL.storeBox [u176] hS179 (k := 0) rfl hf177 rfl (us := [u176]) rfl sz_29 rfl rfl (all_rep (St.rep (t := (Ty.sl (Ty.sl (Ty.sl (Ty.i .i64))))) hS179 2 rfl) all_nil) rfl ?_
    intro wd180 hS181
    replace hS181 : St wd2 wd180 [bx b9 [u176], bx b13 [u176], (Ty.sl (Ty.sl (Ty.sl (Ty.i .i64)))).at u176 x175] := hS181
    refine WL.nil ?_
    show W _ _ _ _ _ _
    refine W.ret ?_
    obtain rfl := Option.some.inj h
    show FinP _ _ _ _ _ _ _
    exact FinP.ret _ (resC rfl hf177 st_29 (St.boxAt hS181 0 rfl) rfl) ⟨u176, rfl, (Ext.trans hE7 hS181.ext), (St.out (St.pick hS181 [2] rfl) (hE7))⟩

theorem c_slices_EqualFunc_LLLint64_LLLint64_LLint64_LLint64 {w : World} {s1 : (List (List (List Int)))} {v_s1 : Value} {s2 : (List (List (List Int)))} {v_s2 : Value} {eq : (List (List Int)) → (List (List Int)) → Option Bool} {v_eq : Value} (r_s1 : (Ty.sl (Ty.sl (Ty.sl (Ty.i .i64)))).rep w v_s1 s1) (r_s2 : (Ty.sl (Ty.sl (Ty.sl (Ty.i .i64)))).rep w v_s2 s2) (r_eq : FnT_lli_lli_to_b Try.prog v_eq w eq) {res : Bool} (h : p_slices_EqualFunc_LLLint64_LLLint64_LLint64_LLint64 s1 s2 eq  = some res) :
    Ret Try.prog 89 #[v_s1, v_s2, v_eq] w (fun v w' => v = Value.bool res ∧ Ext w w') := by
  unfold p_slices_EqualFunc_LLLint64_LLLint64_LLint64_LLint64 at h
  have hS0 : St w w [] := St.start w
  have q_eq := r_eq
  obtain ⟨g_eq, fst_eq, cap_eq, eq_eq, ok_eq, call_eq⟩ := q_eq
  subst eq_eq
  refine Ret.start (fn := Try.f89) Try.func89 rfl 32 rfl rfl ?_
  refine W.seq ?_
  refine W.region ?_
  refine WL.val (Value.bool false) _ (op_assign rfl) rfl ?_
  refine WL.nil ?_
  show W _ _ _ _ _ _
  refine W.seq ?_
  refine W.seq ?_
  refine W.region ?_
  refine WL.val v_s1 _ (op_move rfl) rfl ?_
  have hr1 := inR_len (Ty.lift _ hS0.ext r_s1)
  refine WL.val (Value.int .i64 ((s1).length : Int)) _ (op_lenL sl_22 (Ty.lift _ hS0.ext r_s1) rfl) rfl ?_
  refine WL.val v_s2 _ (op_move rfl) rfl ?_
  have hr2 := inR_len (Ty.lift _ hS0.ext r_s2)
  refine WL.val (Value.int .i64 ((s2).length : Int)) _ (op_lenL sl_22 (Ty.lift _ hS0.ext r_s2) rfl) rfl ?_
  refine WL.val (Value.bool (((s1).length : Int) != ((s2).length : Int))) _ (op_neq rfl rfl) rfl ?_
  refine WL.nil ?_
  show W _ _ _ _ _ _
  refine W.cond (((s1).length : Int) != ((s2).length : Int)) rfl (fun hc3 => ?_) (fun hc3 => ?_)
  · replace h := ip h hc3
    refine W.seq ?_
    refine W.region ?_
    refine WL.val (Value.bool false) _ (op_assign rfl) rfl ?_
    refine WL.nil ?_
    show W _ _ _ _ _ _
    refine W.ret ?_
    obtain rfl := Option.some.inj h
    show FinP _ _ _ _ _ _ _
    exact FinP.ret _ (res1 rfl rfl) ⟨rfl, hS0.ext⟩
  · replace h := inegb h hc3
    refine W.skip ?_
    show W _ _ _ _ _ _
    refine W.seq ?_
    refine W.seq ?_
    refine W.region ?_
    refine WL.val v_s1 _ (op_move rfl) rfl ?_
    have hr5 := inR_len (Ty.lift _ hS0.ext r_s1)
    refine WL.val (Value.int .i64 ((s1).length : Int)) _ (op_lenL sl_22 (Ty.lift _ hS0.ext r_s1) rfl) rfl ?_
    refine WL.val (Value.int .i64 (0 : Int)) _ (op_move rfl) rfl ?_
    refine WL.nil ?_
    show W _ _ _ _ _ _
    obtain ⟨res6, hres7, h⟩ := bs h
    refine W.blockLoop (fun fq wq => ∃ s, res6 = Res.fin s ∧ St w wq []) ?_ ?_
    · refine W.forN (fun k (s : Unit) fq wq => fq 1 = v_s2 ∧ fq 2 = (Value.func (.func g_eq) fst_eq cap_eq) ∧ fq 15 = v_s1 ∧ fq 16 = (Value.int .i64 ((s1).length : Int)) ∧ fq 17 = Value.int .i64 (k : Int) ∧ InR .i64 (k : Int) ∧ St w wq []) hres7 ⟨rfl, rfl, rfl, rfl, rfl, (inR_i64.2 (show (-9223372036854775808 : Int) ≤ 0 ∧ (0 : Int) ≤ 9223372036854775807 from by decide)), hS0⟩ ?_ ?_
      · intro k8 s48 ct9 f10 wd11 hk12 hb13 hI14 hbrk15 hret16
        obtain ⟨⟩ := s48
        replace hI14 : f10 1 = v_s2 ∧ f10 2 = (Value.func (.func g_eq) fst_eq cap_eq) ∧ f10 15 = v_s1 ∧ f10 16 = (Value.int .i64 ((s1).length : Int)) ∧ f10 17 = Value.int .i64 (k8 : Int) ∧ InR .i64 (k8 : Int) ∧ St w wd11 [] := hI14
        replace hb13 : p_slices_EqualFunc_LLLint64_LLLint64_LLint64_LLint64_L1 s1 s2 eq k8  = some ct9 := hb13
        unfold p_slices_EqualFunc_LLLint64_LLLint64_LLint64_LLint64_L1 at hb13
        obtain ⟨hf17, hf18, hf19, hf20, hf21, hr22, hS23⟩ := hI14
        refine W.seq ?_
        refine W.region ?_
        refine WL.val (Value.bool (decide ((k8 : Int) < ((s1).length : Int)))) _ (op_lss hf21 hf20) rfl ?_
        have hl24 : (k8 : Int) < ((s1).length : Int) := by omega
        refine WL.nil ?_
        show W _ _ _ _ _ _
        refine W.seq ?_
        refine W.condT (decide ((k8 : Int) < ((s1).length : Int))) rfl (decide_eq_true hl24) ?_
        refine W.skip ?_
        show W _ _ _ _ _ _
        refine W.seq ?_
        refine W.block ?_
        refine W.seq ?_
        refine W.region ?_
        refine WL.val (Value.int .i64 (k8 : Int)) _ (op_move hf21) rfl ?_
        obtain ⟨x26, hx29, hb13⟩ := bs hb13
        obtain ⟨ha27, hb28, hx29⟩ := idx_some hx29
        refine WL.val (Value.pointer (some (elA v_s1 ((k8 : Int)).toNat))) _ (op_idx sl_22 (Ty.lift _ hS23.ext r_s1) hf19 hf21 ha27 hb28) rfl ?_
        obtain ⟨u30, hc31, hr32⟩ := repSl.el r_s1 hx29
        refine WL.val u30 _ (op_load one_61 rfl (Ext.cell hS23.ext hc31)) rfl ?_
        refine WL.val (Value.int .i64 (k8 : Int)) _ (op_assign rfl) rfl ?_
        refine WL.val u30 _ (op_assign rfl) rfl ?_
        refine WL.nil ?_
        show W _ _ _ _ _ _
        refine W.seq ?_
        refine W.region ?_
        refine WL.val v_s2 _ (op_move hf17) rfl ?_
        refine WL.val (Value.int .i64 (k8 : Int)) _ (op_move rfl) rfl ?_
        obtain ⟨x33, hx36, hb13⟩ := bs hb13
        obtain ⟨ha34, hb35, hx36⟩ := idx_some hx36
        refine WL.val (Value.pointer (some (elA v_s2 ((k8 : Int)).toNat))) _ (op_idx sl_22 (Ty.lift _ hS23.ext r_s2) rfl rfl ha34 hb35) rfl ?_
        obtain ⟨u37, hc38, hr39⟩ := repSl.el r_s2 hx36
        refine WL.val u37 _ (op_load one_61 rfl (Ext.cell hS23.ext hc38)) rfl ?_
        refine WL.val u37 _ (op_assign rfl) rfl ?_
        refine WL.nil ?_
        show W _ _ _ _ _ _
        refine W.seq ?_
        refine W.region ?_
        refine WL.val (Value.func (.func g_eq) fst_eq cap_eq) _ (op_move hf18) rfl ?_
        refine WL.val u30 _ (op_move rfl) rfl ?_
        refine WL.val u37 _ (op_move rfl) rfl ?_
        obtain ⟨x40, hx41, hb13⟩ := bs hb13
        refine WL.call _ (op_callV rfl ok_eq (args2 rfl rfl)) (call_eq wd11 u30 x26 u37 x33 x40 hS23.ext (Ty.lift _ hS23.ext hr32) (Ty.lift _ hS23.ext hr39) hx41) rfl ?_
        rintro _ wd42 ⟨rfl, he43⟩
        have hS45 := St.extend hS23 he43
        refine WL.val (Value.bool (!x40)) _ (op_not rfl) rfl ?_
        refine WL.nil ?_
        show W _ _ _ _ _ _
        refine W.cond (!x40) rfl (fun hc46 => ?_) (fun hc46 => ?_)
        · replace hb13 := ip hb13 hc46
          refine W.seq ?_
          refine W.region ?_
          refine WL.val (Value.bool false) _ (op_assign rfl) rfl ?_
          refine WL.nil ?_
          show W _ _ _ _ _ _
          refine W.ret ?_
          obtain rfl := Option.some.inj hb13
          obtain rfl := hret16 _ rfl
          replace h := onRes_ret h
          obtain rfl := Option.some.inj h
          show FinP _ _ _ _ _ _ _
          exact FinP.ret _ (res1 rfl rfl) ⟨rfl, hS45.ext⟩
        · replace hb13 := inegb hb13 hc46
          refine W.skip ?_
          show W _ _ _ _ _ _
          refine W.region ?_
          refine WL.val (Value.int .i64 (w64 ((k8 : Int) + (1 : Int)))) _ (op_add hf21 rfl) rfl ?_
          refine WL.val (Value.int .i64 (w64 ((k8 : Int) + (1 : Int)))) _ (op_move rfl) rfl ?_
          refine WL.nil ?_
          obtain rfl := Option.some.inj hb13
          show ∃ s, _ = Ctl.next s ∧ _
          exact ⟨_, rfl, hf17, hf18, hf19, hf20, (ctr_next hl24 hr5), (ctr_rng hl24 hr5), hS45⟩
      · intro s53 f49 wd50 hs51 hI52
        obtain ⟨⟩ := s53
        replace hI52 : f49 1 = v_s2 ∧ f49 2 = (Value.func (.func g_eq) fst_eq cap_eq) ∧ f49 15 = v_s1 ∧ f49 16 = (Value.int .i64 ((s1).length : Int)) ∧ f49 17 = Value.int .i64 (((s1).length : Nat) : Int) ∧ InR .i64 (((s1).length : Nat) : Int) ∧ St w wd50 [] := hI52
        obtain ⟨hf54, hf55, hf56, hf57, hf58, hr59, hS60⟩ := hI52
        refine W.seq ?_
        refine W.region ?_
        refine WL.val (Value.bool (decide ((((s1).length : Nat) : Int) < ((s1).length : Int)))) _ (op_lss hf58 hf57) rfl ?_
        have hl61 : ¬ (((s1).length : Nat) : Int) < ((s1).length : Int) := by omega
        refine WL.nil ?_
        show W _ _ _ _ _ _
        refine W.seq ?_
        refine W.condF (decide ((((s1).length : Nat) : Int) < ((s1).length : Int))) rfl (decide_eq_false hl61) ?_
        refine W.exit ?_
        show _ = _ ∧ _
        exact ⟨rfl, _, hs51, hS60⟩
    · rintro f62 wd63 ⟨s65, rfl, hq64⟩
      replace h := onRes_fin h
      obtain ⟨⟩ := s65
      replace hq64 : St w wd63 [] := hq64
      have hS66 := hq64
      show W _ _ _ _ _ _
      refine W.seq ?_
      refine W.region ?_
      refine WL.val (Value.bool true) _ (op_assign rfl) rfl ?_
      refine WL.nil ?_
      show W _ _ _ _ _ _
      refine W.ret ?_
      obtain rfl := Option.some.inj h
      show FinP _ _ _ _ _ _ _
      exact FinP.ret _ (res1 rfl rfl) ⟨rfl, hS66.ext⟩

theorem c_slices_EqualFunc_LLint64_LLint64_Lint64_Lint64 {w : World} {s1 : (List (List Int))} {v_s1 : Value} {s2 : (List (List Int))} {v_s2 : Value} {eq : (List Int) → (List Int) → Option Bool} {v_eq : Value} (r_s1 : (Ty.sl (Ty.sl (Ty.i .i64))).rep w v_s1 s1) (r_s2 : (Ty.sl (Ty.sl (Ty.i .i64))).rep w v_s2 s2) (r_eq : FnT_li_li_to_b Try.prog v_eq w eq) {res : Bool} (h : p_slices_EqualFunc_LLint64_LLint64_Lint64_Lint64 s1 s2 eq  = some res) :
    Ret Try.prog 91 #[v_s1, v_s2, v_eq] w (fun v w' => v = Value.bool res ∧ Ext w w') := by
  unfold p_slices_EqualFunc_LLint64_LLint64_Lint64_Lint64 at h
  have hS0 : St w w [] := St.start w
  have q_eq := r_eq
  obtain ⟨g_eq, fst_eq, cap_eq, eq_eq, ok_eq, call_eq⟩ := q_eq
  subst eq_eq
  refine Ret.start (fn := Try.f91) Try.func91 rfl 32 rfl rfl ?_
  refine W.seq ?_
  refine W.region ?_
  refine WL.val (Value.bool false) _ (op_assign rfl) rfl ?_
  refine WL.nil ?_
  show W _ _ _ _ _ _
  refine W.seq ?_
  refine W.seq ?_
  refine W.region ?_
  refine WL.val v_s1 _ (op_move rfl) rfl ?_
  have hr1 := inR_len (Ty.lift _ hS0.ext r_s1)
  refine WL.val (Value.int .i64 ((s1).length : Int)) _ (op_lenL sl_61 (Ty.lift _ hS0.ext r_s1) rfl) rfl ?_
  refine WL.val v_s2 _ (op_move rfl) rfl ?_
  have hr2 := inR_len (Ty.lift _ hS0.ext r_s2)
  refine WL.val (Value.int .i64 ((s2).length : Int)) _ (op_lenL sl_61 (Ty.lift _ hS0.ext r_s2) rfl) rfl ?_
  refine WL.val (Value.bool (((s1).length : Int) != ((s2).length : Int))) _ (op_neq rfl rfl) rfl ?_
  refine WL.nil ?_
  show W _ _ _ _ _ _
  refine W.cond (((s1).length : Int) != ((s2).length : Int)) rfl (fun hc3 => ?_) (fun hc3 => ?_)
  · replace h := ip h hc3
    refine W.seq ?_
    refine W.region ?_
    refine WL.val (Value.bool false) _ (op_assign rfl) rfl ?_
    refine WL.nil ?_
    show W _ _ _ _ _ _
    refine W.ret ?_
    obtain rfl := Option.some.inj h
    show FinP _ _ _ _ _ _ _
    exact FinP.ret _ (res1 rfl rfl) ⟨rfl, hS0.ext⟩
  · replace h := inegb h hc3
    refine W.skip ?_
    show W _ _ _ _ _ _
    refine W.seq ?_
    refine W.seq ?_
    refine W.region ?_
    refine WL.val v_s1 _ (op_move rfl) rfl ?_
    have hr5 := inR_len (Ty.lift _ hS0.ext r_s1)
    refine WL.val (Value.int .i64 ((s1).length : Int)) _ (op_lenL sl_61 (Ty.lift _ hS0.ext r_s1) rfl) rfl ?_
    refine WL.val (Value.int .i64 (0 : Int)) _ (op_move rfl) rfl ?_
    refine WL.nil ?_
    show W _ _ _ _ _ _
    obtain ⟨res6, hres7, h⟩ := bs h
    refine W.blockLoop (fun fq wq => ∃ s, res6 = Res.fin s ∧ St w wq []) ?_ ?_
    · refine W.forN (fun k (s : Unit) fq wq => fq 1 = v_s2 ∧ fq 2 = (Value.func (.func g_eq) fst_eq cap_eq) ∧ fq 15 = v_s1 ∧ fq 16 = (Value.int .i64 ((s1).length : Int)) ∧ fq 17 = Value.int .i64 (k : Int) ∧ InR .i64 (k : Int) ∧ St w wq []) hres7 ⟨rfl, rfl, rfl, rfl, rfl, (inR_i64.2 (show (-9223372036854775808 : Int) ≤ 0 ∧ (0 : Int) ≤ 9223372036854775807 from by decide)), hS0⟩ ?_ ?_
      · intro k8 s48 ct9 f10 wd11 hk12 hb13 hI14 hbrk15 hret16
        obtain ⟨⟩ := s48
        replace hI14 : f10 1 = v_s2 ∧ f10 2 = (Value.func (.func g_eq) fst_eq cap_eq) ∧ f10 15 = v_s1 ∧ f10 16 = (Value.int .i64 ((s1).length : Int)) ∧ f10 17 = Value.int .i64 (k8 : Int) ∧ InR .i64 (k8 : Int) ∧ St w wd11 [] := hI14
        replace hb13 : p_slices_EqualFunc_LLint64_LLint64_Lint64_Lint64_L1 s1 s2 eq k8  = some ct9 := hb13
        unfold p_slices_EqualFunc_LLint64_LLint64_Lint64_Lint64_L1 at hb13
        obtain ⟨hf17, hf18, hf19, hf20, hf21, hr22, hS23⟩ := hI14
        refine W.seq ?_
        refine W.region ?_
        refine WL.val (Value.bool (decide ((k8 : Int) < ((s1).length : Int)))) _ (op_lss hf21 hf20) rfl ?_
        have hl24 : (k8 : Int) < ((s1).length : Int) := by omega
        refine WL.nil ?_
        show W _ _ _ _ _ _
        refine W.seq ?_
        refine W.condT (decide ((k8 : Int) < ((s1).length : Int))) rfl (decide_eq_true hl24) ?_
        refine W.skip ?_
        show W _ _ _ _ _ _
        refine W.seq ?_
        refine W.block ?_
        refine W.seq ?_
        refine W.region ?_
        refine WL.val (Value.int .i64 (k8 : Int)) _ (op_move hf21) rfl ?_
        obtain ⟨x26, hx29, hb13⟩ := bs hb13
        obtain ⟨ha27, hb28, hx29⟩ := idx_some hx29
        refine WL.val (Value.pointer (some (elA v_s1 ((k8 : Int)).toNat))) _ (op_idx sl_61 (Ty.lift _ hS23.ext r_s1) hf19 hf21 ha27 hb28) rfl ?_
        obtain ⟨u30, hc31, hr32⟩ := repSl.el r_s1 hx29
        refine WL.val u30 _ (op_load one_25 rfl (Ext.cell hS23.ext hc31)) rfl ?_
        refine WL.val (Value.int .i64 (k8 : Int)) _ (op_assign rfl) rfl ?_
        refine WL.val u30 _ (op_assign rfl) rfl ?_
        refine WL.nil ?_
        show W _ _ _ _ _ _
        refine W.seq ?_
        refine W.region ?_
        refine WL.val v_s2 _ (op_move hf17) rfl ?_
        refine WL.val (Value.int .i64 (k8 : Int)) _ (op_move rfl) rfl ?_
        obtain ⟨x33, hx36, hb13⟩ := bs hb13
        obtain ⟨ha34, hb35, hx36⟩ := idx_some hx36
        refine WL.val (Value.pointer (some (elA v_s2 ((k8 : Int)).toNat))) _ (op_idx sl_61 (Ty.lift _ hS23.ext r_s2) rfl rfl ha34 hb35) rfl ?_
        obtain ⟨u37, hc38, hr39⟩ := repSl.el r_s2 hx36
        refine WL.val u37 _ (op_load one_25 rfl (Ext.cell hS23.ext hc38)) rfl ?_
        refine WL.val u37 _ (op_assign rfl) rfl ?_
        refine WL.nil ?_
        show W _ _ _ _ _ _
        refine W.seq ?_
        refine W.region ?_
        refine WL.val (Value.func (.func g_eq) fst_eq cap_eq) _ (op_move hf18) rfl ?_
        refine WL.val u30 _ (op_move rfl) rfl ?_
        refine WL.val u37 _ (op_move rfl) rfl ?_
        obtain ⟨x40, hx41, hb13⟩ := bs hb13
        refine WL.call _ (op_callV rfl ok_eq (args2 rfl rfl)) (call_eq wd11 u30 x26 u37 x33 x40 hS23.ext (Ty.lift _ hS23.ext hr32) (Ty.lift _ hS23.ext hr39) hx41) rfl ?_
        rintro _ wd42 ⟨rfl, he43⟩
        have hS45 := St.extend hS23 he43
        refine WL.val (Value.bool (!x40)) _ (op_not rfl) rfl ?_
        refine WL.nil ?_
        show W _ _ _ _ _ _
        refine W.cond (!x40) rfl (fun hc46 => ?_) (fun hc46 => ?_)
        · replace hb13 := ip hb13 hc46
          refine W.seq ?_
          refine W.region ?_
          refine WL.val (Value.bool false) _ (op_assign rfl) rfl ?_
          refine WL.nil ?_
          show W _ _ _ _ _ _
          refine W.ret ?_
          obtain rfl := Option.some.inj hb13
          obtain rfl := hret16 _ rfl
          replace h := onRes_ret h
          obtain rfl := Option.some.inj h
          show FinP _ _ _ _ _ _ _
          exact FinP.ret _ (res1 rfl rfl) ⟨rfl, hS45.ext⟩
        · replace hb13 := inegb hb13 hc46
          refine W.skip ?_
          show W _ _ _ _ _ _
          refine W.region ?_
          refine WL.val (Value.int .i64 (w64 ((k8 : Int) + (1 : Int)))) _ (op_add hf21 rfl) rfl ?_
          refine WL.val (Value.int .i64 (w64 ((k8 : Int) + (1 : Int)))) _ (op_move rfl) rfl ?_
          refine WL.nil ?_
          obtain rfl := Option.some.inj hb13
          show ∃ s, _ = Ctl.next s ∧ _
          exact ⟨_, rfl, hf17, hf18, hf19, hf20, (ctr_next hl24 hr5), (ctr_rng hl24 hr5), hS45⟩
      · intro s53 f49 wd50 hs51 hI52
        obtain ⟨⟩ := s53
        replace hI52 : f49 1 = v_s2 ∧ f49 2 = (Value.func (.func g_eq) fst_eq cap_eq) ∧ f49 15 = v_s1 ∧ f49 16 = (Value.int .i64 ((s1).length : Int)) ∧ f49 17 = Value.int .i64 (((s1).length : Nat) : Int) ∧ InR .i64 (((s1).length : Nat) : Int) ∧ St w wd50 [] := hI52
        obtain ⟨hf54, hf55, hf56, hf57, hf58, hr59, hS60⟩ := hI52
        refine W.seq ?_
        refine W.region ?_
        refine WL.val (Value.bool (decide ((((s1).length : Nat) : Int) < ((s1).length : Int)))) _ (op_lss hf58 hf57) rfl ?_
        have hl61 : ¬ (((s1).length : Nat) : Int) < ((s1).length : Int) := by omega
        refine WL.nil ?_
        show W _ _ _ _ _ _
        refine W.seq ?_
        refine W.condF (decide ((((s1).length : Nat) : Int) < ((s1).length : Int))) rfl (decide_eq_false hl61) ?_
        refine W.exit ?_
        show _ = _ ∧ _
        exact ⟨rfl, _, hs51, hS60⟩
    · rintro f62 wd63 ⟨s65, rfl, hq64⟩
      replace h := onRes_fin h
      obtain ⟨⟩ := s65
      replace hq64 : St w wd63 [] := hq64
      have hS66 := hq64
      show W _ _ _ _ _ _
      refine W.seq ?_
      refine W.region ?_
      refine WL.val (Value.bool true) _ (op_assign rfl) rfl ?_
      refine WL.nil ?_
      show W _ _ _ _ _ _
      refine W.ret ?_
      obtain rfl := Option.some.inj h
      show FinP _ _ _ _ _ _ _
      exact FinP.ret _ (res1 rfl rfl) ⟨rfl, hS66.ext⟩

theorem c_impl_equalTables_c1 {w : World} {x : (List (List Int))} {v_x : Value} {y : (List (List Int))} {v_y : Value} (r_x : (Ty.sl (Ty.sl (Ty.i .i64))).rep w v_x x) (r_y : (Ty.sl (Ty.sl (Ty.i .i64))).rep w v_y y) {res : Bool} (h : p_impl_equalTables_c1 x y  = some res) :
    Ret Try.prog 90 #[v_x, v_y] w (fun v w' => v = Value.bool res ∧ Ext w w') := by
  unfold p_impl_equalTables_c1 at h
  have hS0 : St w w [] := St.start w
  refine Ret.start (fn := Try.f90) Try.func90 rfl 8 rfl rfl ?_
  refine W.seq ?_
  refine W.region ?_
  refine WL.val (Value.bool false) _ (op_assign rfl) rfl ?_
  refine WL.nil ?_
  show W _ _ _ _ _ _
  refine W.seq ?_
  refine W.region ?_
  refine WL.val v_x _ (op_move rfl) rfl ?_
  refine WL.val v_y _ (op_move rfl) rfl ?_
  obtain ⟨x5, hx6, h⟩ := bs h
  refine WL.call _ (op_call fn_91 (args3 rfl rfl rfl)) (c_slices_EqualFunc_LLint64_LLint64_Lint64_Lint64 (Ty.lift _ hS0.ext r_x) (Ty.lift _ hS0.ext r_y) (⟨75, #[], #[], rfl, fn_75, fun wd1 u0_2 a0_2 u1_2 a1_2 r3 he2 ra0_2 ra1_2 hq4 => c_slices_Equal_Lint64_int64 ra0_2 ra1_2 hq4⟩) hx6) rfl ?_
  rintro _ wd7 ⟨rfl, he8⟩
  have hS10 := St.extend hS0 he8
  replace hS10 : St w wd7 [] := hS10
  refine WL.val (Value.bool x5) _ (op_assign rfl) rfl ?_
  refine WL.nil ?_
  show W _ _ _ _ _ _
  refine W.ret ?_
  obtain rfl := Option.some.inj h
  show FinP _ _ _ _ _ _ _
  exact FinP.ret _ (res1 rfl rfl) ⟨rfl, hS10.ext⟩

theorem c_impl_equalTables {w : World} {a : (List (List (List Int)))} {v_a : Value} {b : (List (List (List Int)))} {v_b : Value} (r_a : (Ty.sl (Ty.sl (Ty.sl (Ty.i .i64)))).rep w v_a a) (r_b : (Ty.sl (Ty.sl (Ty.sl (Ty.i .i64)))).rep w v_b b) {res : Bool} (h : p_impl_equalTables a b  = some res) :
    Ret Try.prog 73 #[v_a, v_b] w (fun v w' => v = Value.bool res ∧ Ext w w') := by
  unfold p_impl_equalTables at h
  have hS0 : St w w [] := St.start w
  refine Ret.start (fn := Try.f73) Try.func73 rfl 8 rfl rfl ?_
  refine W.seq ?_
  refine W.region ?_
  refine WL.val (Value.bool false) _ (op_assign rfl) rfl ?_
  refine WL.nil ?_
  show W _ _ _ _ _ _
  refine W.seq ?_
  refine W.region ?_
  refine WL.val v_a _ (op_move rfl) rfl ?_
  refine WL.val v_b _ (op_move rfl) rfl ?_
  obtain ⟨x5, hx6, h⟩ := bs h
  refine WL.call _ (op_call fn_89 (args3 rfl rfl rfl)) (c_slices_EqualFunc_LLLint64_LLLint64_LLint64_LLint64 (Ty.lift _ hS0.ext r_a) (Ty.lift _ hS0.ext r_b) (⟨90, #[], #[], rfl, fn_90, fun wd1 u0_2 a0_2 u1_2 a1_2 r3 he2 ra0_2 ra1_2 hq4 => c_impl_equalTables_c1 ra0_2 ra1_2 hq4⟩) hx6) rfl ?_
  rintro _ wd7 ⟨rfl, he8⟩
  have hS10 := St.extend hS0 he8
  replace hS10 : St w wd7 [] := hS10
  refine WL.val (Value.bool x5) _ (op_assign rfl) rfl ?_
  refine WL.nil ?_
  show W _ _ _ _ _ _
  refine W.ret ?_
  obtain rfl := Option.some.inj h
  show FinP _ _ _ _ _ _ _
  exact FinP.ret _ (res1 rfl rfl) ⟨rfl, hS10.ext⟩

theorem c_impl_Ring_isCommutative {w : World} {r_Table : (List (List (List Int)))} {v_r_Table : Value} (r_r_Table : (Ty.sl (Ty.sl (Ty.sl (Ty.i .i64)))).rep w v_r_Table r_Table) {res : Bool} (h : p_impl_Ring_isCommutative r_Table  = some res) :
    Ret Try.prog 47 #[(Value.agg #[v_r_Table])] w (fun v w' => v = Value.bool res ∧ Ext w w') := by
  unfold p_impl_Ring_isCommutative at h
  have hS0 : St w w [] := St.start w
  refine Ret.start (fn := Try.f47) Try.func47 rfl 9 rfl rfl ?_
  refine W.seq ?_
  refine W.region ?_
  refine WL.box hS0 rfl (cs := [v_r_Table]) rfl rfl ?_
  intro b1 wd2 hS3 he4 hx5
  replace hS3 : St w wd2 [bx b1 [v_r_Table]] := hS3
  have hx6 := St.boxAt hS3 0 rfl
  have hE7 : Ext w wd2 := hS3.ext
  have hS8 : St wd2 wd2 [] := St.start wd2
  refine WL.val (Value.bool false) _ (op_assign rfl) rfl ?_
  refine WL.nil ?_
  show W _ _ _ _ _ _
  refine W.seq ?_
  obtain ⟨x39, hx40, h⟩ := bs h
  refine W.draw mixo 5 [fun v _ => v = (Value.pointer (some ⟨b1, 0, none⟩)), fun v _ => v = v_r_Table, fun v w' => ∃ (uu0 : Value), v = (Value.agg #[uu0]) ∧ (Ty.sl (Ty.sl (Ty.sl (Ty.i .i64)))).rep w' uu0 r_Table, fun v w' => ∃ (uu0 : Value), v = (Value.agg #[uu0]) ∧ (Ty.sl (Ty.sl (Ty.sl (Ty.i .i64)))).rep w' uu0 x39, fun v w' => (Ty.sl (Ty.sl (Ty.sl (Ty.i .i64)))).rep w' v x39] (by kernel_rfl) (by kernel_rfl) (stabL ⟨(fun _ _ _ _ h => h), (fun _ _ _ _ h => h), (fun _ _ _ he ⟨uu0, h0, r0⟩ => ⟨uu0, h0, Ty.lift _ he r0⟩), (fun _ _ _ he ⟨uu0, h0, r0⟩ => ⟨uu0, h0, Ty.lift _ he r0⟩), (fun _ _ _ he h => Ty.lift _ he h), trivial⟩) ⟨?_, ?_, ?_, ?_, ?_, trivial⟩ ?_
  · intro f9 wd10 he11 hout12 hphi13
    have hS14 : St wd2 wd10 [] := St.extend hS8 he11
    have e15 : f9 1 = (Value.pointer (some ⟨b1, 0, none⟩)) := (hout12 1 rfl).trans rfl
    exact OpY.val (Value.pointer (some ⟨b1, 0, none⟩)) wd10 rfl (op_fieldAddr fd_29_0 e15) (Ext.refl _) rfl
  · intro f16 wd17 he18 hout19 hphi20
    have hS21 : St wd2 wd17 [] := St.extend hS8 he18
    have e22 : f16 3 = (Value.pointer (some ⟨b1, 0, none⟩)) := hphi20 0 3 _ rfl rfl rfl
    exact OpY.val v_r_Table wd17 rfl (op_load one_22 e22 (BoxAt.cell (BoxAt.lift hS21.ext hx6) rfl)) (Ext.refl _) rfl
  · intro f23 wd24 he25 hout26 hphi27
    have hS28 : St wd2 wd24 [] := St.extend hS8 he25
    have e29 : f23 1 = (Value.pointer (some ⟨b1, 0, none⟩)) := (hout26 1 rfl).trans rfl
    exact OpY.val (Value.agg #[v_r_Table]) wd24 rfl (op_loadBox st_29 e29 (BoxAt.lift hS28.ext hx6) rfl rfl) (Ext.refl _) ⟨v_r_Table, rfl, (Ty.lift _ (Ext.trans hE7 hS28.ext) r_r_Table)⟩
  · intro f30 wd31 he32 hout33 hphi34
    have hS35 : St wd2 wd31 [] := St.extend hS8 he32
    obtain ⟨u37, e36, hr38⟩ := hphi34 2 5 _ rfl rfl rfl
    refine OpY.call rfl (op_call fn_53 (args1 e36)) (Ret.mono (c_impl_Ring_opposite hr38 hx40) ?_)
    rintro _ wd42 ⟨u41, rfl, he43, hs44⟩
    exact ⟨he43, ⟨u41, rfl, (Sep.rep (t := (Ty.sl (Ty.sl (Ty.sl (Ty.i .i64))))) hs44 0 rfl)⟩⟩
  · intro f45 wd46 he47 hout48 hphi49
    have hS50 : St wd2 wd46 [] := St.extend hS8 he47
    obtain ⟨u52, e51, hr53⟩ := hphi49 3 6 _ rfl rfl rfl
    exact OpY.val u52 wd46 rfl (op_field fl_29_0 e51 rfl) (Ext.refl _) hr53
  · intro f54 wd55 he56 hout57 hphi58
    show WL _ _ _ _ _ _ _
    have hS59 : St wd2 wd55 [] := St.extend hS8 he56
    have e60 : f54 4 = v_r_Table := hphi58 1 4 _ (by decide) rfl rfl
    have e61 : (Ty.sl (Ty.sl (Ty.sl (Ty.i .i64)))).rep wd55 (f54 7) x39 := hphi58 4 7 _ (by decide) rfl rfl
    obtain ⟨x62, hx63, h⟩ := bs h
    refine WL.call _ (op_call fn_73 (args2 e60 rfl)) (c_impl_equalTables (Ty.lift _ (Ext.trans hE7 hS59.ext) r_r_Table) e61 hx63) rfl ?_
    rintro _ wd64 ⟨rfl, he65⟩
    have hS67 := St.extend hS59 he65
    replace hS67 : St wd2 wd64 [] := hS67
    refine WL.val (Value.bool x62) _ (op_assign rfl) rfl ?_
    refine WL.nil ?_
    show W _ _ _ _ _ _
    refine W.ret ?_
    obtain rfl := Option.some.inj h
    show FinP _ _ _ _ _ _ _
    exact FinP.ret _ (res1 rfl rfl) ⟨rfl, (Ext.trans hE7 hS67.ext)⟩

theorem c_impl_IsCommutativeRing {w : World} {r_Table : (List (List (List Int)))} {v_r_Table : Value} (r_r_Table : (Ty.sl (Ty.sl (Ty.sl (Ty.i .i64)))).rep w v_r_Table r_Table) {res : Bool × Int} (h : p_impl_IsCommutativeRing r_Table  = some res) :
    Ret Try.prog 23 #[(Value.agg #[v_r_Table])] w (fun v w' => v = (Value.tuple #[Value.bool res.1, Value.int .i64 res.2]) ∧ InR .i64 res.2 ∧ Ext w w') := by
  unfold p_impl_IsCommutativeRing at h
  have hS0 : St w w [] := St.start w
  refine Ret.start (fn := Try.f23) Try.func23 rfl 9 rfl rfl ?_
  refine W.seq ?_
  refine W.region ?_
  refine WL.box hS0 rfl (cs := [v_r_Table]) rfl rfl ?_
  intro b1 wd2 hS3 he4 hx5
  replace hS3 : St w wd2 [bx b1 [v_r_Table]] := hS3
  have hx6 := St.boxAt hS3 0 rfl
  have hE7 : Ext w wd2 := hS3.ext
  have hS8 : St wd2 wd2 [] := St.start wd2
  refine WL.val (Value.bool false) _ (op_assign rfl) rfl ?_
  refine WL.val (Value.int .i64 (0 : Int)) _ (op_assign rfl) rfl ?_
  refine WL.nil ?_
  show W _ _ _ _ _ _
  refine W.seq ?_
  refine W.seq ?_
  refine W.region ?_
  refine WL.val (Value.agg #[v_r_Table]) _ (op_loadBox st_29 rfl (BoxAt.lift hS8.ext hx6) rfl rfl) rfl ?_
  obtain ⟨x9, hx10, h⟩ := bs h
  refine WL.call _ (op_call fn_41 (args1 rfl)) (c_impl_IsRing (Ty.lift _ (Ext.trans hE7 hS8.ext) r_r_Table) hx10) rfl ?_
  rintro _ wd11 ⟨rfl, he12⟩
  have hS14 := St.extend hS8 he12
  replace hS14 : St wd2 wd11 [] := hS14
  refine WL.val (Value.bool (!x9)) _ (op_not rfl) rfl ?_
  refine WL.nil ?_
  show W _ _ _ _ _ _
  refine W.cond (!x9) rfl (fun hc15 => ?_) (fun hc15 => ?_)
  · replace h := ip h hc15
    refine W.seq ?_
    refine W.region ?_
    refine WL.val (Value.bool false) _ (op_assign rfl) rfl ?_
    refine WL.val (Value.int .i64 (1 : Int)) _ (op_assign rfl) rfl ?_
    refine WL.nil ?_
    show W _ _ _ _ _ _
    refine W.ret ?_
    obtain rfl := Option.some.inj h
    show FinP _ _ _ _ _ _ _
    exact FinP.ret _ (res2 rfl rfl rfl) ⟨rfl, (inR_i64.2 (show (-9223372036854775808 : Int) ≤ 1 ∧ (1 : Int) ≤ 9223372036854775807 from by decide)), (Ext.trans hE7 hS14.ext)⟩
  · replace h := inegb h hc15
    refine W.skip ?_
    show W _ _ _ _ _ _
    refine W.seq ?_
    refine W.region ?_
    refine WL.val (Value.agg #[v_r_Table]) _ (op_loadBox st_29 rfl (BoxAt.lift hS14.ext hx6) rfl rfl) rfl ?_
    obtain ⟨x17, hx18, h⟩ := bs h
    refine WL.call _ (op_call fn_47 (args1 rfl)) (c_impl_Ring_isCommutative (Ty.lift _ (Ext.trans hE7 hS14.ext) r_r_Table) hx18) rfl ?_
    rintro _ wd19 ⟨rfl, he20⟩
    have hS22 := St.extend hS14 he20
    replace hS22 : St wd2 wd19 [] := hS22
    refine WL.val (Value.bool x17) _ (op_assign rfl) rfl ?_
    refine WL.val (Value.int .i64 (0 : Int)) _ (op_assign rfl) rfl ?_
    refine WL.nil ?_
    show W _ _ _ _ _ _
    refine W.ret ?_
    obtain rfl := Option.some.inj h
    show FinP _ _ _ _ _ _ _
    exact FinP.ret _ (res2 rfl rfl rfl) ⟨rfl, (inR_i64.2 (show (-9223372036854775808 : Int) ≤ 0 ∧ (0 : Int) ≤ 9223372036854775807 from by decide)), (Ext.trans hE7 hS22.ext)⟩

theorem c_laws_FnExactIsCommutativeRing {w : World} {aR_Table : (List (List (List Int)))} {v_aR_Table : Value} (r_aR_Table : (Ty.sl (Ty.sl (Ty.sl (Ty.i .i64)))).rep w v_aR_Table aR_Table) {res : Bool} (h : p_laws_FnExactIsCommutativeRing aR_Table  = some res) :
    Ret Try.prog 6 #[(Value.agg #[v_aR_Table])] w (fun v w' => v = Value.bool res ∧ Ext w w') := by
  unfold p_laws_FnExactIsCommutativeRing at h
  have hS0 : St w w [] := St.start w
  refine Ret.start (fn := Try.f6) Try.func6 rfl 40 rfl rfl ?_
  refine W.seq ?_
  refine W.region ?_
  refine WL.box hS0 rfl (cs := [v_aR_Table]) rfl rfl ?_
  intro b1 wd2 hS3 he4 hx5
  replace hS3 : St w wd2 [bx b1 [v_aR_Table]] := hS3
  have hx6 := St.boxAt hS3 0 rfl
  have hE7 : Ext w wd2 := hS3.ext
  have hS8 : St wd2 wd2 [] := St.start wd2
  refine WL.val (Value.bool false) _ (op_assign rfl) rfl ?_
  refine WL.nil ?_
  show W _ _ _ _ _ _
  refine W.seq ?_
  refine W.region ?_
  refine WL.val (Value.int .i64 (1048576 : Int)) _ (op_assign rfl) rfl ?_
  refine WL.nil ?_
  show W _ _ _ _ _ _
  refine W.seq ?_
  refine W.region ?_
  refine WL.val (Value.agg #[v_aR_Table]) _ (op_loadBox st_24 rfl (BoxAt.lift hS8.ext hx6) rfl rfl) rfl ?_
  refine WL.val (Value.int .i64 (1048576 : Int)) _ (op_move rfl) rfl ?_
  obtain ⟨x9, hx10, h⟩ := bs h
  refine WL.call _ (op_call fn_11 (args2 rfl rfl)) (c_laws_szRing (Ty.lift _ (Ext.trans hE7 hS8.ext) r_aR_Table) (inR_i64.2 (show (-9223372036854775808 : Int) ≤ 1048576 ∧ (1048576 : Int) ≤ 9223372036854775807 from by decide)) hx10) rfl ?_
  rintro _ wd12 ⟨rfl, hr11, he13⟩
  have hS15 := St.extend hS8 he13
  replace hS15 : St wd2 wd12 [] := hS15
  refine WL.val (Value.int .i64 x9) _ (op_assign rfl) rfl ?_
  refine WL.nil ?_
  show W _ _ _ _ _ _
  refine W.seq ?_
  refine W.seq ?_
  refine W.region ?_
  refine WL.val (Value.int .i64 x9) _ (op_move rfl) rfl ?_
  refine WL.val (Value.bool (decide (x9 < (0 : Int)))) _ (op_lss rfl rfl) rfl ?_
  refine WL.nil ?_
  show W _ _ _ _ _ _
  refine W.cond (decide (x9 < (0 : Int))) rfl (fun hc16 => ?_) (fun hc16 => ?_)
  · replace h := ip h hc16
    refine W.seq ?_
    refine W.region ?_
    refine WL.val (Value.bool true) _ (op_assign rfl) rfl ?_
    refine WL.nil ?_
    show W _ _ _ _ _ _
    refine W.ret ?_
    obtain rfl := Option.some.inj h
    show FinP _ _ _ _ _ _ _
    exact FinP.ret _ (res1 rfl rfl) ⟨rfl, (Ext.trans hE7 hS15.ext)⟩
  · replace h := inegb h hc16
    refine W.skip ?_
    show W _ _ _ _ _ _
    refine W.seq ?_
    refine W.region ?_
    refine WL.val (Value.agg #[v_aR_Table]) _ (op_loadBox st_24 rfl (BoxAt.lift hS15.ext hx6) rfl rfl) rfl ?_
    obtain ⟨x18, hx19, h⟩ := bs h
    refine WL.call _ (op_call fn_13 (args1 rfl)) (c_laws_toRing (Ty.lift _ (Ext.trans hE7 hS15.ext) r_aR_Table) hx19) rfl ?_
    rintro _ wd21 ⟨u20, rfl, he22, hs23⟩
    have hS24 := St.join hS15 he22 hs23
    replace hS24 : St wd2 wd21 [(Ty.sl (Ty.sl (Ty.sl (Ty.i .i64)))).at u20 x18] := hS24
    have hb25 := St.rep (t := (Ty.sl (Ty.sl (Ty.sl (Ty.i .i64))))) hS24 0 rfl
    have hE26 : Ext w wd21 := (Ext.trans hE7 hS24.ext)
    have hE27 : Ext wd2 wd21 := hS24.ext
    have hS28 : St wd21 wd21 [] := St.start wd21
    obtain ⟨x29, hx30, h⟩ := bs h
    refine WL.call _ (op_call fn_22 (args1 rfl)) (c_spec_IsCommutativeRing (Ty.lift _ hS28.ext hb25) hx30) rfl ?_
    rintro _ wd32 ⟨rfl, hr31, he33⟩
    have hS35 := St.extend hS28 he33
    replace hS35 : St wd21 wd32 [] := hS35
    refine WL.val (Value.tuple #[(Value.bool x29.1), (Value.int .i64 x29.2)]) _ (op_move rfl) rfl ?_
    refine WL.val (Value.bool x29.1) _ (op_extract rfl rfl) rfl ?_
    refine WL.val (Value.int .i64 x29.2) _ (op_extract rfl rfl) rfl ?_
    refine WL.val (Value.bool x29.1) _ (op_assign rfl) rfl ?_
    refine WL.val (Value.int .i64 x29.2) _ (op_assign rfl) rfl ?_
    refine WL.nil ?_
    show W _ _ _ _ _ _
    refine W.seq ?_
    refine W.region ?_
    refine WL.val (Value.agg #[v_aR_Table]) _ (op_loadBox st_24 rfl (BoxAt.lift (Ext.trans hE27 hS35.ext) hx6) rfl rfl) rfl ?_
    obtain ⟨x36, hx37, h⟩ := bs h
    refine WL.call _ (op_call fn_13 (args1 rfl)) (c_laws_toRing (Ty.lift _ (Ext.trans hE26 hS35.ext) r_aR_Table) hx37) rfl ?_
    rintro _ wd39 ⟨u38, rfl, he40, hs41⟩
    have hS42 := St.join hS35 he40 hs41
    replace hS42 : St wd21 wd39 [(Ty.sl (Ty.sl (Ty.sl (Ty.i .i64)))).at u38 x36] := hS42
    refine WL.alloc hS42 ze_29 (cs := [(Value.slice none 0 0)]) rfl rfl ?_
    intro b43 wd44 hS45 he46
    replace hS45 : St wd21 wd44 [(Ty.sl (Ty.sl (Ty.sl (Ty.i .i64)))).at u38 x36, bx b43 [(Value.slice none 0 0)]] := hS45
    refine WL.storeBox [u38] hS45 (k := 1) rfl rfl rfl (us := [u38]) rfl sz_29 rfl rfl (all_rep (St.rep (t := (Ty.sl (Ty.sl (Ty.sl (Ty.i .i64))))) hS45 0 rfl) all_nil) rfl ?_
    intro wd47 hS48
    replace hS48 : St wd21 wd47 [(Ty.sl (Ty.sl (Ty.sl (Ty.i .i64)))).at u38 x36, bx b43 [u38]] := hS48
    refine WL.nil ?_
    show W _ _ _ _ _ _
    refine W.seq ?_
    refine W.region ?_
    refine WL.val (Value.agg #[u38]) _ (op_loadBox st_29 rfl (St.boxAt hS48 1 rfl) rfl rfl) rfl ?_
    obtain ⟨x49, hx50, h⟩ := bs h
    refine WL.call _ (op_call fn_23 (args1 rfl)) (c_impl_IsCommutativeRing (St.rep (t := (Ty.sl (Ty.sl (Ty.sl (Ty.i .i64))))) hS48 0 rfl) hx50) rfl ?_
    rintro _ wd52 ⟨rfl, hr51, he53⟩
    have hS55 := St.extend hS48 he53
    replace hS55 : St wd21 wd52 [(Ty.sl (Ty.sl (Ty.sl (Ty.i .i64)))).at u38 x36, bx b43 [u38]] := hS55
    refine WL.val (Value.tuple #[(Value.bool x49.1), (Value.int .i64 x49.2)]) _ (op_move rfl) rfl ?_
    refine WL.val (Value.bool x49.1) _ (op_extract rfl rfl) rfl ?_
    refine WL.val (Value.int .i64 x49.2) _ (op_extract rfl rfl) rfl ?_
    refine WL.val (Value.bool x49.1) _ (op_assign rfl) rfl ?_
    refine WL.val (Value.int .i64 x49.2) _ (op_assign rfl) rfl ?_
    refine WL.nil ?_
    show W _ _ _ _ _ _
    refine W.seq ?_
    refine W.seq ?_
    refine W.region ?_
    refine WL.val (Value.bool x49.1) _ (op_move rfl) rfl ?_
    refine WL.val (Value.bool x29.1) _ (op_move rfl) rfl ?_
    refine WL.val (Value.bool (x49.1 != x29.1)) _ (op_bneq rfl rfl bt_4) rfl ?_
    refine WL.val (Value.bool (x49.1 != x29.1)) _ (op_move rfl) rfl ?_
    refine WL.cut 4 (fun fq wq => fq 1 = (Value.pointer (some ⟨b1, 0, none⟩)) ∧ fq 6 = (Value.pointer (some ⟨b43, 0, none⟩)) ∧ fq 34 = (Value.bool ((x49.1 != x29.1) || (x49.2 != x29.2))) ∧ St wd21 wq [(Ty.sl (Ty.sl (Ty.sl (Ty.i .i64)))).at u38 x36, bx b43 [u38]]) ?_ ?_
    · rcases Bool.eq_false_or_eq_true (x49.1 != x29.1) with hc56 | hc56
      · refine WL.gskip rfl (bool_of rfl hc56) rfl ?_
        refine WL.gskip rfl (bool_of rfl hc56) rfl ?_
        refine WL.gskip rfl (bool_of rfl hc56) rfl ?_
        refine WL.val (Value.bool true) _ (op_pick_t (evb_of rfl hc56) rfl) rfl ?_
        refine WL.nil ?_
        exact ⟨rfl, rfl, rfl, (orT hc56), hS55⟩
      · refine WL.grun rfl (bool_of rfl hc56) ?_
        refine WL.val (Value.int .i64 x49.2) _ (op_move rfl) rfl ?_
        refine WL.grun rfl (bool_of rfl hc56) ?_
        refine WL.val (Value.int .i64 x29.2) _ (op_move rfl) rfl ?_
        refine WL.grun rfl (bool_of rfl hc56) ?_
        refine WL.val (Value.bool (x49.2 != x29.2)) _ (op_neq rfl rfl) rfl ?_
        refine WL.val (Value.bool (x49.2 != x29.2)) _ (op_pick_f (evb_of rfl hc56) rfl) rfl ?_
        refine WL.nil ?_
        exact ⟨rfl, rfl, rfl, (orF hc56), hS55⟩
    · intro f57 wd58 hq59
      obtain ⟨hf60, hf61, hf62, hS63⟩ := hq59
      refine WL.nil ?_
      show W _ _ _ _ _ _
      refine W.cond ((x49.1 != x29.1) || (x49.2 != x29.2)) hf62 (fun hc64 => ?_) (fun hc64 => ?_)
      · replace h := ip h hc64
        refine W.seq ?_
        refine W.region ?_
        refine WL.val (Value.bool false) _ (op_assign rfl) rfl ?_
        refine WL.nil ?_
        show W _ _ _ _ _ _
        refine W.ret ?_
        obtain rfl := Option.some.inj h
        show FinP _ _ _ _ _ _ _
        exact FinP.ret _ (res1 rfl rfl) ⟨rfl, (Ext.trans hE26 hS63.ext)⟩
      · replace h := inegb h hc64
        refine W.skip ?_
        show W _ _ _ _ _ _
        refine W.seq ?_
        refine W.seq ?_
        obtain ⟨x89, hx90, h⟩ := bs h
        refine W.draw mixo 3 [fun v w' => ∃ (uu0 : Value), v = (Value.agg #[uu0]) ∧ (Ty.sl (Ty.sl (Ty.sl (Ty.i .i64)))).rep w' uu0 x36, fun v w' => ∃ (uu0 : Value), v = (Value.agg #[uu0]) ∧ (Ty.sl (Ty.sl (Ty.sl (Ty.i .i64)))).rep w' uu0 aR_Table, fun v w' => ∃ (uu0 : Value), v = (Value.agg #[uu0]) ∧ (Ty.sl (Ty.sl (Ty.sl (Ty.i .i64)))).rep w' uu0 x89] (by kernel_rfl) (by kernel_rfl) (stabL ⟨(fun _ _ _ he ⟨uu0, h0, r0⟩ => ⟨uu0, h0, Ty.lift _ he r0⟩), (fun _ _ _ he ⟨uu0, h0, r0⟩ => ⟨uu0, h0, Ty.lift _ he r0⟩), (fun _ _ _ he ⟨uu0, h0, r0⟩ => ⟨uu0, h0, Ty.lift _ he r0⟩), trivial⟩) ⟨?_, ?_, ?_, trivial⟩ ?_
        · intro f66 wd67 he68 hout69 hphi70
          have hS71 : St wd21 wd67 [(Ty.sl (Ty.sl (Ty.sl (Ty.i .i64)))).at u38 x36, bx b43 [u38]] := St.extend hS63 he68
          have e72 : f66 6 = (Value.pointer (some ⟨b43, 0, none⟩)) := (hout69 6 rfl).trans hf61
          exact OpY.val (Value.agg #[u38]) wd67 rfl (op_loadBox st_29 e72 (St.boxAt hS71 1 rfl) rfl rfl) (Ext.refl _) ⟨u38, rfl, (St.rep (t := (Ty.sl (Ty.sl (Ty.sl (Ty.i .i64))))) hS71 0 rfl)⟩
        · intro f73 wd74 he75 hout76 hphi77
          have hS78 : St wd21 wd74 [(Ty.sl (Ty.sl (Ty.sl (Ty.i .i64)))).at u38 x36, bx b43 [u38]] := St.extend hS63 he75
          have e79 : f73 1 = (Value.pointer (some ⟨b1, 0, none⟩)) := (hout76 1 rfl).trans hf60
          exact OpY.val (Value.agg #[v_aR_Table]) wd74 rfl (op_loadBox st_24 e79 (BoxAt.lift (Ext.trans hE27 hS78.ext) hx6) rfl rfl) (Ext.refl _) ⟨v_aR_Table, rfl, (Ty.lift _ (Ext.trans hE26 hS78.ext) r_aR_Table)⟩
        · intro f80 wd81 he82 hout83 hphi84
          have hS85 : St wd21 wd81 [(Ty.sl (Ty.sl (Ty.sl (Ty.i .i64)))).at u38 x36, bx b43 [u38]] := St.extend hS63 he82
          obtain ⟨u87, e86, hr88⟩ := hphi84 1 36 _ rfl rfl rfl
          refine OpY.call rfl (op_call fn_13 (args1 e86)) (Ret.mono (c_laws_toRing hr88 hx90) ?_)
          rintro _ wd92 ⟨u91, rfl, he93, hs94⟩
          exact ⟨he93, ⟨u91, rfl, (Sep.rep (t := (Ty.sl (Ty.sl (Ty.sl (Ty.i .i64))))) hs94 0 rfl)⟩⟩
        · intro f95 wd96 he97 hout98 hphi99
          show WL _ _ _ _ _ _ _
          have hS100 : St wd21 wd96 [(Ty.sl (Ty.sl (Ty.sl (Ty.i .i64)))).at u38 x36, bx b43 [u38]] := St.extend hS63 he97
          obtain ⟨u102, e101, hr103⟩ := hphi99 0 35 _ (by decide) rfl rfl
          obtain ⟨u105, e104, hr106⟩ := hphi99 2 37 _ (by decide) rfl rfl
          obtain ⟨x107, hx108, h⟩ := bs h
          refine WL.call _ (op_call fn_16 (args2 e101 e104)) (c_laws_eqRing hr103 hr106 hx108) rfl ?_
          rintro _ wd109 ⟨rfl, he110⟩
          have hS112 := St.extend hS100 he110
          replace hS112 : St wd21 wd109 [(Ty.sl (Ty.sl (Ty.sl (Ty.i .i64)))).at u38 x36, bx b43 [u38]] := hS112
          refine WL.val (Value.bool (!x107)) _ (op_not rfl) rfl ?_
          refine WL.nil ?_
          show W _ _ _ _ _ _
          refine W.cond (!x107) rfl (fun hc113 => ?_) (fun hc113 => ?_)
          · replace h := ip h hc113
            refine W.seq ?_
            refine W.region ?_
            refine WL.val (Value.bool false) _ (op_assign rfl) rfl ?_
            refine WL.nil ?_
            show W _ _ _ _ _ _
            refine W.ret ?_
            obtain rfl := Option.some.inj h
            show FinP _ _ _ _ _ _ _
            exact FinP.ret _ (res1 rfl rfl) ⟨rfl, (Ext.trans hE26 hS112.ext)⟩
          · replace h := inegb h hc113
            refine W.skip ?_
            show W _ _ _ _ _ _
            refine W.seq ?_
            refine W.region ?_
            refine WL.val (Value.bool true) _ (op_assign rfl) rfl ?_
            refine WL.nil ?_
            show W _ _ _ _ _ _
            refine W.ret ?_
            obtain rfl := Option.some.inj h
            show FinP _ _ _ _ _ _ _
            exact FinP.ret _ (res1 rfl rfl) ⟨rfl, (Ext.trans hE26 hS112.ext)⟩

end Go.VG
