/- The walks, part 3: each Go function returns what its plain twin returns. No condition beyond what each names. -/
import Derived.Test.YtppnedfpdobgiaaGWalk2
set_option linter.all false
namespace Go.VG
open Go.Proofs
attribute [local irreducible] W WL Sep FinP

theorem c_slices_Equal_Lint64_int64 {w : World} {s1 : (List Int)} {v_s1 : Value} {s2 : (List Int)} {v_s2 : Value} (r_s1 : (Ty.sl (Ty.i .i64)).rep w v_s1 s1) (r_s2 : (Ty.sl (Ty.i .i64)).rep w v_s2 s2) {res : Bool} (h : p_slices_Equal_Lint64_int64 s1 s2  = some res) :
    Ret Try.prog 75 #[v_s1, v_s2] w (fun v w' => v = Value.bool res ∧ Ext w w') := by
  unfold p_slices_Equal_Lint64_int64 at h
  have hS0 : St w w [] := St.start w
  refine Ret.start (fn := Try.f75) Try.func75 rfl 26 rfl rfl ?_
  refine W.seq ?_
  refine W.region ?_
  refine WL.val (Value.bool false) _ (op_assign rfl) rfl ?_
  refine WL.nil ?_
  show W _ _ _ _ _ _
  refine W.seq ?_
  refine W.seq ?_
  refine W.region ?_
  refine WL.val v_s1 _ (op_move rfl) rfl ?_
  have hr1 := inR_len (Ty.lift _ hS0.ext r_s1)
  refine WL.val (Value.int .i64 ((s1).length : Int)) _ (op_lenL sl_25 (Ty.lift _ hS0.ext r_s1) rfl) rfl ?_
  refine WL.val v_s2 _ (op_move rfl) rfl ?_
  have hr2 := inR_len (Ty.lift _ hS0.ext r_s2)
  refine WL.val (Value.int .i64 ((s2).length : Int)) _ (op_lenL sl_25 (Ty.lift _ hS0.ext r_s2) rfl) rfl ?_
  refine WL.val (Value.bool (((s1).length : Int) != ((s2).length : Int))) _ (op_neq rfl rfl) rfl ?_
  refine WL.nil ?_
  show W _ _ _ _ _ _
  refine W.cond (((s1).length : Int) != ((s2).length : Int)) rfl (fun hc3 => ?_) (fun hc3 => ?_)
  · replace h := ip h hc3
    refine W.seq ?_
    refine W.region ?_
    refine WL.val (Value.bool false) _ (op_assign rfl) rfl ?_
    refine WL.nil ?_
    show W _ _ _ _ _ _
    refine W.ret ?_
    obtain rfl := Option.some.inj h
    show FinP _ _ _ _ _ _ _
    exact FinP.ret _ (res1 rfl rfl) ⟨rfl, hS0.ext⟩
  · replace h := inegb h hc3
    refine W.skip ?_
    show W _ _ _ _ _ _
    refine W.seq ?_
    refine W.seq ?_
    refine W.region ?_
    refine WL.val v_s1 _ (op_move rfl) rfl ?_
    have hr5 := inR_len (Ty.lift _ hS0.ext r_s1)
    refine WL.val (Value.int .i64 ((s1).length : Int)) _ (op_lenL sl_25 (Ty.lift _ hS0.ext r_s1) rfl) rfl ?_
    refine WL.val (Value.int .i64 (0 : Int)) _ (op_move rfl) rfl ?_
    refine WL.nil ?_
    show W _ _ _ _ _ _
    obtain ⟨res6, hres7, h⟩ := bs h
    refine W.blockLoop (fun fq wq => ∃ s, res6 = Res.fin s ∧ St w wq []) ?_ ?_
    · refine W.forN (fun k s fq wq => fq 0 = v_s1 ∧ fq 1 = v_s2 ∧ fq 12 = (Value.int .i64 ((s1).length : Int)) ∧ fq 13 = Value.int .i64 (k : Int) ∧ InR .i64 (k : Int) ∧ St w wq []) hres7 ⟨rfl, rfl, rfl, rfl, (inR_i64.2 (show (-9223372036854775808 : Int) ≤ 0 ∧ (0 : Int) ≤ 9223372036854775807 from by decide)), hS0⟩ ?_ ?_
      · intro k8 s115 ct9 f10 wd11 hk12 hb13 hI14 hbrk15 hret16
        obtain ⟨⟩ := s115
        replace hI14 : f10 0 = v_s1 ∧ f10 1 = v_s2 ∧ f10 12 = (Value.int .i64 ((s1).length : Int)) ∧ f10 13 = Value.int .i64 (k8 : Int) ∧ InR .i64 (k8 : Int) ∧ St w wd11 [] := hI14
        replace hb13 : p_slices_Equal_Lint64_int64_L1 s1 s2 k8  = some ct9 := hb13
        unfold p_slices_Equal_Lint64_int64_L1 at hb13
        obtain ⟨hf17, hf18, hf19, hf20, hr21, hS22⟩ := hI14
        refine W.seq ?_
        refine W.region ?_
        refine WL.val (Value.bool (decide ((k8 : Int) < ((s1).length : Int)))) _ (op_lss hf20 hf19) rfl ?_
        have hl23 : (k8 : Int) < ((s1).length : Int) := by omega
        refine WL.nil ?_
        show W _ _ _ _ _ _
        refine W.seq ?_
        refine W.condT (decide ((k8 : Int) < ((s1).length : Int))) rfl (decide_eq_true hl23) ?_
        refine W.skip ?_
        show W _ _ _ _ _ _
        refine W.seq ?_
        refine W.block ?_
        refine W.seq ?_
        refine W.region ?_
        refine WL.val (Value.int .i64 (k8 : Int)) _ (op_move hf20) rfl ?_
        refine WL.val (Value.int .i64 (k8 : Int)) _ (op_assign rfl) rfl ?_
        refine WL.nil ?_
        show W _ _ _ _ _ _
        refine W.seq ?_
        obtain ⟨x48, hx51, hb13⟩ := bs hb13
        obtain ⟨ha49, hb50, hx51⟩ := idx_some hx51
        obtain ⟨u59, hc60, hr61⟩ := repSl.el r_s1 hx51
        obtain ⟨rfl, hr61⟩ := hr61
        obtain ⟨x85, hx88, hb13⟩ := bs hb13
        obtain ⟨ha86, hb87, hx88⟩ := idx_some hx88
        obtain ⟨u96, hc97, hr98⟩ := repSl.el r_s2 hx88
        obtain ⟨rfl, hr98⟩ := hr98
        refine W.draw mixo 8 [fun v _ => v = v_s1, fun v _ => v = (Value.int .i64 (k8 : Int)) ∧ InR .i64 (k8 : Int), fun v _ => v = (Value.pointer (some (elA v_s1 ((k8 : Int)).toNat))), fun v _ => v = (Value.int .i64 x48) ∧ InR .i64 x48, fun v _ => v = v_s2, fun v _ => v = (Value.int .i64 (k8 : Int)) ∧ InR .i64 (k8 : Int), fun v _ => v = (Value.pointer (some (elA v_s2 ((k8 : Int)).toNat))), fun v _ => v = (Value.int .i64 x85) ∧ InR .i64 x85] (by kernel_rfl) (by kernel_rfl) (stabL ⟨(fun _ _ _ _ h => h), (fun _ _ _ _ h => h), (fun _ _ _ _ h => h), (fun _ _ _ _ h => h), (fun _ _ _ _ h => h), (fun _ _ _ _ h => h), (fun _ _ _ _ h => h), (fun _ _ _ _ h => h), trivial⟩) ⟨?_, ?_, ?_, ?_, ?_, ?_, ?_, ?_, trivial⟩ ?_
        · intro f25 wd26 he27 hout28 hphi29
          have hS30 : St w wd26 [] := St.extend hS22 he27
          have e31 : f25 0 = v_s1 := (hout28 0 rfl).trans hf17
          exact OpY.val v_s1 wd26 rfl (op_move e31) (Ext.refl _) rfl
        · intro f32 wd33 he34 hout35 hphi36
          have hS37 : St w wd33 [] := St.extend hS22 he34
          have e38 : f32 5 = (Value.int .i64 (k8 : Int)) := (hout35 5 rfl).trans rfl
          exact OpY.val (Value.int .i64 (k8 : Int)) wd33 rfl (op_move e38) (Ext.refl _) ⟨rfl, hr21⟩
        · intro f39 wd40 he41 hout42 hphi43
          have hS44 : St w wd40 [] := St.extend hS22 he41
          have e45 : f39 16 = v_s1 := hphi43 0 16 _ rfl rfl rfl
          obtain ⟨e46, hr47⟩ : f39 17 = (Value.int .i64 (k8 : Int)) ∧ InR .i64 (k8 : Int) := hphi43 1 17 _ rfl rfl rfl
          exact OpY.val (Value.pointer (some (elA v_s1 ((k8 : Int)).toNat))) wd40 rfl (op_idx sl_25 (Ty.lift _ hS44.ext r_s1) e45 e46 ha49 hb50) (Ext.refl _) rfl
        · intro f52 wd53 he54 hout55 hphi56
          have hS57 : St w wd53 [] := St.extend hS22 he54
          have e58 : f52 18 = (Value.pointer (some (elA v_s1 ((k8 : Int)).toNat))) := hphi56 2 18 _ rfl rfl rfl
          exact OpY.val (Value.int .i64 x48) wd53 rfl (op_load one_2 e58 (Ext.cell hS57.ext hc60)) (Ext.refl _) ⟨rfl, hr61⟩
        · intro f62 wd63 he64 hout65 hphi66
          have hS67 : St w wd63 [] := St.extend hS22 he64
          have e68 : f62 1 = v_s2 := (hout65 1 rfl).trans hf18
          exact OpY.val v_s2 wd63 rfl (op_move e68) (Ext.refl _) rfl
        · intro f69 wd70 he71 hout72 hphi73
          have hS74 : St w wd70 [] := St.extend hS22 he71
          have e75 : f69 5 = (Value.int .i64 (k8 : Int)) := (hout72 5 rfl).trans rfl
          exact OpY.val (Value.int .i64 (k8 : Int)) wd70 rfl (op_move e75) (Ext.refl _) ⟨rfl, hr21⟩
        · intro f76 wd77 he78 hout79 hphi80
          have hS81 : St w wd77 [] := St.extend hS22 he78
          have e82 : f76 20 = v_s2 := hphi80 4 20 _ rfl rfl rfl
          obtain ⟨e83, hr84⟩ : f76 21 = (Value.int .i64 (k8 : Int)) ∧ InR .i64 (k8 : Int) := hphi80 5 21 _ rfl rfl rfl
          exact OpY.val (Value.pointer (some (elA v_s2 ((k8 : Int)).toNat))) wd77 rfl (op_idx sl_25 (Ty.lift _ hS81.ext r_s2) e82 e83 ha86 hb87) (Ext.refl _) rfl
        · intro f89 wd90 he91 hout92 hphi93
          have hS94 : St w wd90 [] := St.extend hS22 he91
          have e95 : f89 22 = (Value.pointer (some (elA v_s2 ((k8 : Int)).toNat))) := hphi93 6 22 _ rfl rfl rfl
          exact OpY.val (Value.int .i64 x85) wd90 rfl (op_load one_2 e95 (Ext.cell hS94.ext hc97)) (Ext.refl _) ⟨rfl, hr98⟩
        · intro f99 wd100 he101 hout102 hphi103
          show WL _ _ _ _ _ _ _
          have hS104 : St w wd100 [] := St.extend hS22 he101
          obtain ⟨e105, hr106⟩ : f99 19 = (Value.int .i64 x48) ∧ InR .i64 x48 := hphi103 3 19 _ (by decide) rfl rfl
          obtain ⟨e107, hr108⟩ : f99 23 = (Value.int .i64 x85) ∧ InR .i64 x85 := hphi103 7 23 _ (by decide) rfl rfl
          have e109 : f99 0 = v_s1 := (hout102 0 rfl).trans hf17
          have e110 : f99 1 = v_s2 := (hout102 1 rfl).trans hf18
          have e111 : f99 12 = (Value.int .i64 ((s1).length : Int)) := (hout102 12 rfl).trans hf19
          have e112 : f99 13 = (Value.int .i64 (k8 : Int)) := (hout102 13 rfl).trans hf20
          refine WL.val (Value.bool (x48 != x85)) _ (op_neq e105 e107) rfl ?_
          refine WL.nil ?_
          show W _ _ _ _ _ _
          refine W.cond (x48 != x85) rfl (fun hc113 => ?_) (fun hc113 => ?_)
          · replace hb13 := ip hb13 hc113
            refine W.seq ?_
            refine W.region ?_
            refine WL.val (Value.bool false) _ (op_assign rfl) rfl ?_
            refine WL.nil ?_
            show W _ _ _ _ _ _
            refine W.ret ?_
            obtain rfl := Option.some.inj hb13
            obtain rfl := hret16 _ rfl
            replace h := onRes_ret h
            obtain rfl := Option.some.inj h
            show FinP _ _ _ _ _ _ _
            exact FinP.ret _ (res1 rfl rfl) ⟨rfl, hS104.ext⟩
          · replace hb13 := inegb hb13 hc113
            refine W.skip ?_
            show W _ _ _ _ _ _
            refine W.region ?_
            refine WL.val (Value.int .i64 (w64 ((k8 : Int) + (1 : Int)))) _ (op_add e112 rfl) rfl ?_
            refine WL.val (Value.int .i64 (w64 ((k8 : Int) + (1 : Int)))) _ (op_move rfl) rfl ?_
            refine WL.nil ?_
            obtain rfl := Option.some.inj hb13
            show ∃ s, _ = Ctl.next s ∧ _
            exact ⟨_, rfl, e109, e110, e111, (ctr_next hl23 hr5), (ctr_rng hl23 hr5), hS104⟩
      · intro s120 f116 wd117 hs118 hI119
        obtain ⟨⟩ := s120
        replace hI119 : f116 0 = v_s1 ∧ f116 1 = v_s2 ∧ f116 12 = (Value.int .i64 ((s1).length : Int)) ∧ f116 13 = Value.int .i64 (((s1).length : Nat) : Int) ∧ InR .i64 (((s1).length : Nat) : Int) ∧ St w wd117 [] := hI119
        obtain ⟨hf121, hf122, hf123, hf124, hr125, hS126⟩ := hI119
        refine W.seq ?_
        refine W.region ?_
        refine WL.val (Value.bool (decide ((((s1).length : Nat) : Int) < ((s1).length : Int)))) _ (op_lss hf124 hf123) rfl ?_
        have hl127 : ¬ (((s1).length : Nat) : Int) < ((s1).length : Int) := by omega
        refine WL.nil ?_
        show W _ _ _ _ _ _
        refine W.seq ?_
        refine W.condF (decide ((((s1).length : Nat) : Int) < ((s1).length : Int))) rfl (decide_eq_false hl127) ?_
        refine W.exit ?_
        show _ = _ ∧ _
        exact ⟨rfl, _, hs118, hS126⟩
    · rintro f128 wd129 ⟨s131, rfl, hq130⟩
      replace h := onRes_fin h
      obtain ⟨⟩ := s131
      replace hq130 : St w wd129 [] := hq130
      have hS132 := hq130
      show W _ _ _ _ _ _
      refine W.seq ?_
      refine W.region ?_
      refine WL.val (Value.bool true) _ (op_assign rfl) rfl ?_
      refine WL.nil ?_
      show W _ _ _ _ _ _
      refine W.ret ?_
      obtain rfl := Option.some.inj h
      show FinP _ _ _ _ _ _ _
      exact FinP.ret _ (res1 rfl rfl) ⟨rfl, hS132.ext⟩

theorem c_impl_Ring_isInvertible {w : World} {r_Table : (List (List (List Int)))} {v_r_Table : Value} {i : Int} (r_r_Table : (Ty.sl (Ty.sl (Ty.sl (Ty.i .i64)))).rep w v_r_Table r_Table) (r_i : InR .i64 i) {res : Bool} (h : p_impl_Ring_isInvertible r_Table i  = some res) :
    Ret Try.prog 51 #[(Value.agg #[v_r_Table]), (Value.int .i64 i)] w (fun v w' => v = Value.bool res ∧ Ext w w') := by
  unfold p_impl_Ring_isInvertible at h
  have hS0 : St w w [] := St.start w
  refine Ret.start (fn := Try.f51) Try.func51 rfl 18 rfl rfl ?_
  refine W.seq ?_
  refine W.region ?_
  refine WL.box hS0 rfl (cs := [v_r_Table]) rfl rfl ?_
  intro b1 wd2 hS3 he4 hx5
  replace hS3 : St w wd2 [bx b1 [v_r_Table]] := hS3
  have hx6 := St.boxAt hS3 0 rfl
  have hE7 : Ext w wd2 := hS3.ext
  have hS8 : St wd2 wd2 [] := St.start wd2
  refine WL.val (Value.bool false) _ (op_assign rfl) rfl ?_
  refine WL.nil ?_
  show W _ _ _ _ _ _
  refine W.seq ?_
  obtain ⟨x39, hx42, h⟩ := bs h
  obtain ⟨ha40, hb41, hx42⟩ := idx_some hx42
  obtain ⟨u50, hc51, hr52⟩ := repSl.el r_r_Table hx42
  obtain ⟨x78, hx79, h⟩ := bs h
  obtain ⟨x93, hx96, h⟩ := bs h
  obtain ⟨ha94, hb95, hx96⟩ := idx_some hx96
  obtain ⟨u104, hc105, hr106⟩ := repSl.el hr52 hx96
  obtain ⟨x123, hx124, h⟩ := bs h
  refine W.draw mixo 12 [fun v _ => v = (Value.pointer (some ⟨b1, 0, none⟩)), fun v _ => v = v_r_Table, fun v _ => v = (Value.int .i64 i) ∧ InR .i64 i, fun v _ => v = (Value.pointer (some (elA v_r_Table (i).toNat))), fun v _ => v = u50, fun v w' => ∃ (uu0 : Value), v = (Value.agg #[uu0]) ∧ (Ty.sl (Ty.sl (Ty.sl (Ty.i .i64)))).rep w' uu0 r_Table, fun v _ => v = (Value.int .i64 i) ∧ InR .i64 i, fun v _ => v = (Value.int .i64 x78) ∧ InR .i64 x78, fun v _ => v = (Value.pointer (some (elA u50 (x78).toNat))), fun v _ => v = u104, fun v w' => ∃ (uu0 : Value), v = (Value.agg #[uu0]) ∧ (Ty.sl (Ty.sl (Ty.sl (Ty.i .i64)))).rep w' uu0 r_Table, fun v w' => (Ty.sl (Ty.i .i64)).rep w' v x123] (by kernel_rfl) (by kernel_rfl) (stabL ⟨(fun _ _ _ _ h => h), (fun _ _ _ _ h => h), (fun _ _ _ _ h => h), (fun _ _ _ _ h => h), (fun _ _ _ _ h => h), (fun _ _ _ he ⟨uu0, h0, r0⟩ => ⟨uu0, h0, Ty.lift _ he r0⟩), (fun _ _ _ _ h => h), (fun _ _ _ _ h => h), (fun _ _ _ _ h => h), (fun _ _ _ _ h => h), (fun _ _ _ he ⟨uu0, h0, r0⟩ => ⟨uu0, h0, Ty.lift _ he r0⟩), (fun _ _ _ he h => Ty.lift _ he h), trivial⟩) ⟨?_, ?_, ?_, ?_, ?_, ?_, ?_, ?_, ?_, ?_, ?_, ?_, trivial⟩ ?_
  · intro f9 wd10 he11 hout12 hphi13
    have hS14 : St wd2 wd10 [] := St.extend hS8 he11
    have e15 : f9 2 = (Value.pointer (some ⟨b1, 0, none⟩)) := (hout12 2 rfl).trans rfl
    exact OpY.val (Value.pointer (some ⟨b1, 0, none⟩)) wd10 rfl (op_fieldAddr fd_29_0 e15) (Ext.refl _) rfl
  · intro f16 wd17 he18 hout19 hphi20
    have hS21 : St wd2 wd17 [] := St.extend hS8 he18
    have e22 : f16 5 = (Value.pointer (some ⟨b1, 0, none⟩)) := hphi20 0 5 _ rfl rfl rfl
    exact OpY.val v_r_Table wd17 rfl (op_load one_22 e22 (BoxAt.cell (BoxAt.lift hS21.ext hx6) rfl)) (Ext.refl _) rfl
  · intro f23 wd24 he25 hout26 hphi27
    have hS28 : St wd2 wd24 [] := St.extend hS8 he25
    have e29 : f23 1 = (Value.int .i64 i) := (hout26 1 rfl).trans rfl
    exact OpY.val (Value.int .i64 i) wd24 rfl (op_move e29) (Ext.refl _) ⟨rfl, r_i⟩
  · intro f30 wd31 he32 hout33 hphi34
    have hS35 : St wd2 wd31 [] := St.extend hS8 he32
    have e36 : f30 6 = v_r_Table := hphi34 1 6 _ rfl rfl rfl
    obtain ⟨e37, hr38⟩ : f30 7 = (Value.int .i64 i) ∧ InR .i64 i := hphi34 2 7 _ rfl rfl rfl
    exact OpY.val (Value.pointer (some (elA v_r_Table (i).toNat))) wd31 rfl (op_idx sl_22 (Ty.lift _ (Ext.trans hE7 hS35.ext) r_r_Table) e36 e37 ha40 hb41) (Ext.refl _) rfl
  · intro f43 wd44 he45 hout46 hphi47
    have hS48 : St wd2 wd44 [] := St.extend hS8 he45
    have e49 : f43 8 = (Value.pointer (some (elA v_r_Table (i).toNat))) := hphi47 3 8 _ rfl rfl rfl
    exact OpY.val u50 wd44 rfl (op_load one_61 e49 (Ext.cell (Ext.trans hE7 hS48.ext) hc51)) (Ext.refl _) rfl
  · intro f53 wd54 he55 hout56 hphi57
    have hS58 : St wd2 wd54 [] := St.extend hS8 he55
    have e59 : f53 2 = (Value.pointer (some ⟨b1, 0, none⟩)) := (hout56 2 rfl).trans rfl
    exact OpY.val (Value.agg #[v_r_Table]) wd54 rfl (op_loadBox st_29 e59 (BoxAt.lift hS58.ext hx6) rfl rfl) (Ext.refl _) ⟨v_r_Table, rfl, (Ty.lift _ (Ext.trans hE7 hS58.ext) r_r_Table)⟩
  · intro f60 wd61 he62 hout63 hphi64
    have hS65 : St wd2 wd61 [] := St.extend hS8 he62
    have e66 : f60 1 = (Value.int .i64 i) := (hout63 1 rfl).trans rfl
    exact OpY.val (Value.int .i64 i) wd61 rfl (op_move e66) (Ext.refl _) ⟨rfl, r_i⟩
  · intro f67 wd68 he69 hout70 hphi71
    have hS72 : St wd2 wd68 [] := St.extend hS8 he69
    obtain ⟨u74, e73, hr75⟩ := hphi71 5 10 _ rfl rfl rfl
    obtain ⟨e76, hr77⟩ : f67 11 = (Value.int .i64 i) ∧ InR .i64 i := hphi71 6 11 _ rfl rfl rfl
    refine OpY.call rfl (op_call fn_76 (args2 e73 e76)) (Ret.mono (c_impl_Ring_onlyOf hr75 hr77 hx79) ?_)
    rintro _ wd81 ⟨rfl, hr80, he82⟩
    exact ⟨he82, ⟨rfl, hr80⟩⟩
  · intro f84 wd85 he86 hout87 hphi88
    have hS89 : St wd2 wd85 [] := St.extend hS8 he86
    have e90 : f84 9 = u50 := hphi88 4 9 _ rfl rfl rfl
    obtain ⟨e91, hr92⟩ : f84 12 = (Value.int .i64 x78) ∧ InR .i64 x78 := hphi88 7 12 _ rfl rfl rfl
    exact OpY.val (Value.pointer (some (elA u50 (x78).toNat))) wd85 rfl (op_idx sl_61 (Ty.lift _ (Ext.trans hE7 hS89.ext) hr52) e90 e91 ha94 hb95) (Ext.refl _) rfl
  · intro f97 wd98 he99 hout100 hphi101
    have hS102 : St wd2 wd98 [] := St.extend hS8 he99
    have e103 : f97 13 = (Value.pointer (some (elA u50 (x78).toNat))) := hphi101 8 13 _ rfl rfl rfl
    exact OpY.val u104 wd98 rfl (op_load one_25 e103 (Ext.cell (Ext.trans hE7 hS102.ext) hc105)) (Ext.refl _) rfl
  · intro f107 wd108 he109 hout110 hphi111
    have hS112 : St wd2 wd108 [] := St.extend hS8 he109
    have e113 : f107 2 = (Value.pointer (some ⟨b1, 0, none⟩)) := (hout110 2 rfl).trans rfl
    exact OpY.val (Value.agg #[v_r_Table]) wd108 rfl (op_loadBox st_29 e113 (BoxAt.lift hS112.ext hx6) rfl rfl) (Ext.refl _) ⟨v_r_Table, rfl, (Ty.lift _ (Ext.trans hE7 hS112.ext) r_r_Table)⟩
  · intro f114 wd115 he116 hout117 hphi118
    have hS119 : St wd2 wd115 [] := St.extend hS8 he116
    obtain ⟨u121, e120, hr122⟩ := hphi118 10 15 _ rfl rfl rfl
    refine OpY.call rfl (op_call fn_60 (args2 e120 rfl)) (Ret.mono (c_impl_Ring_vectorOf hr122 (inR_i64.2 (show (-9223372036854775808 : Int) ≤ 0 ∧ (0 : Int) ≤ 9223372036854775807 from by decide)) hx124) ?_)
    rintro u125 wd126 ⟨_, rfl, he127, hs128⟩
    exact ⟨he127, (Sep.rep (t := (Ty.sl (Ty.i .i64))) hs128 0 rfl)⟩
  · intro f129 wd130 he131 hout132 hphi133
    show WL _ _ _ _ _ _ _
    have hS134 : St wd2 wd130 [] := St.extend hS8 he131
    have e135 : f129 14 = u104 := hphi133 9 14 _ (by decide) rfl rfl
    have e136 : (Ty.sl (Ty.i .i64)).rep wd130 (f129 16) x123 := hphi133 11 16 _ (by decide) rfl rfl
    obtain ⟨x137, hx138, h⟩ := bs h
    refine WL.call _ (op_call fn_75 (args2 e135 rfl)) (c_slices_Equal_Lint64_int64 (Ty.lift _ (Ext.trans hE7 hS134.ext) hr106) e136 hx138) rfl ?_
    rintro _ wd139 ⟨rfl, he140⟩
    have hS142 := St.extend hS134 he140
    replace hS142 : St wd2 wd139 [] := hS142
    refine WL.val (Value.bool x137) _ (op_assign rfl) rfl ?_
    refine WL.nil ?_
    show W _ _ _ _ _ _
    refine W.ret ?_
    obtain rfl := Option.some.inj h
    show FinP _ _ _ _ _ _ _
    exact FinP.ret _ (res1 rfl rfl) ⟨rfl, (Ext.trans hE7 hS142.ext)⟩

theorem c_impl_InvertibleLabels {w : World} {r_Table : (List (List (List Int)))} {v_r_Table : Value} (r_r_Table : (Ty.sl (Ty.sl (Ty.sl (Ty.i .i64)))).rep w v_r_Table r_Table) {res : (List Int) × Int} (h : p_impl_InvertibleLabels r_Table  = some res) :
    Ret Try.prog 30 #[(Value.agg #[v_r_Table])] w (fun v w' => ∃ (u0 : Value), v = (Value.tuple #[u0, Value.int .i64 res.2]) ∧ InR .i64 res.2 ∧ Ext w w' ∧ Sep w.heap.size w' [(Ty.sl (Ty.i .i64)).at u0 res.1]) := by
  unfold p_impl_InvertibleLabels at h
  have hS0 : St w w [] := St.start w
  refine Ret.start (fn := Try.f30) Try.func30 rfl 25 rfl rfl ?_
  refine W.seq ?_
  refine W.region ?_
  refine WL.box hS0 rfl (cs := [v_r_Table]) rfl rfl ?_
  intro b1 wd2 hS3 he4 hx5
  replace hS3 : St w wd2 [bx b1 [v_r_Table]] := hS3
  have hx6 := St.boxAt hS3 0 rfl
  have hE7 : Ext w wd2 := hS3.ext
  have hS8 : St wd2 wd2 [] := St.start wd2
  refine WL.val (Value.slice none 0 0) _ (op_assign rfl) rfl ?_
  refine WL.val (Value.int .i64 (0 : Int)) _ (op_assign rfl) rfl ?_
  refine WL.nil ?_
  show W _ _ _ _ _ _
  refine W.seq ?_
  refine W.seq ?_
  refine W.region ?_
  refine WL.val (Value.agg #[v_r_Table]) _ (op_loadBox st_29 rfl (BoxAt.lift hS8.ext hx6) rfl rfl) rfl ?_
  obtain ⟨x9, hx10, h⟩ := bs h
  refine WL.call _ (op_call fn_41 (args1 rfl)) (c_impl_IsRing (Ty.lift _ (Ext.trans hE7 hS8.ext) r_r_Table) hx10) rfl ?_
  rintro _ wd11 ⟨rfl, he12⟩
  have hS14 := St.extend hS8 he12
  replace hS14 : St wd2 wd11 [] := hS14
  refine WL.val (Value.bool (!x9)) _ (op_not rfl) rfl ?_
  refine WL.nil ?_
  show W _ _ _ _ _ _
  refine W.cond (!x9) rfl (fun hc15 => ?_) (fun hc15 => ?_)
  · replace h := ip h hc15
    refine W.seq ?_
    refine W.region ?_
    refine WL.val (Value.slice none 0 0) _ (op_assign rfl) rfl ?_
    refine WL.val (Value.int .i64 (1 : Int)) _ (op_assign rfl) rfl ?_
    refine WL.nil ?_
    show W _ _ _ _ _ _
    refine W.ret ?_
    obtain rfl := Option.some.inj h
    show FinP _ _ _ _ _ _ _
    exact FinP.ret _ (res2 rfl rfl rfl) ⟨(Value.slice none 0 0), rfl, (inR_i64.2 (show (-9223372036854775808 : Int) ≤ 1 ∧ (1 : Int) ≤ 9223372036854775807 from by decide)), (Ext.trans hE7 hS14.ext), (St.out (St.pick (St.addNil (Ty.i .i64) hS14) [0] rfl) (hE7))⟩
  · replace h := inegb h hc15
    refine W.skip ?_
    show W _ _ _ _ _ _
    refine W.seq ?_
    refine W.region ?_
    refine WL.lit0 (t := (Ty.i .i64)) hS14 sl_25 rfl rfl ?_
    intro u17 wd18 hS19 he20
    replace hS19 : St wd2 wd18 [(Ty.sl (Ty.i .i64)).at u17 ([] : (List Int))] := hS19
    refine WL.val u17 _ (op_assign rfl) rfl ?_
    refine WL.nil ?_
    show W _ _ _ _ _ _
    refine W.seq ?_
    refine W.seq ?_
    refine W.region ?_
    refine WL.val (Value.pointer (some ⟨b1, 0, none⟩)) _ (op_fieldAddr fd_29_0 rfl) rfl ?_
    refine WL.val v_r_Table _ (op_load one_22 rfl (BoxAt.cell (BoxAt.lift hS19.ext hx6) rfl)) rfl ?_
    have hr21 := inR_len (Ty.lift _ (Ext.trans hE7 hS19.ext) r_r_Table)
    refine WL.val (Value.int .i64 ((r_Table).length : Int)) _ (op_lenL sl_22 (Ty.lift _ (Ext.trans hE7 hS19.ext) r_r_Table) rfl) rfl ?_
    refine WL.val (Value.int .i64 (0 : Int)) _ (op_move rfl) rfl ?_
    refine WL.nil ?_
    show W _ _ _ _ _ _
    obtain ⟨res22, hres23, h⟩ := bs h
    refine W.blockLoop (fun fq wq => ∃ s, res22 = Res.fin s ∧ ∃ (uu0 : Value), fq 4 = uu0 ∧ St wd2 wq [(Ty.sl (Ty.i .i64)).at uu0 s]) ?_ ?_
    · refine W.forN (fun k s fq wq => ∃ (uu0 : Value), fq 1 = (Value.pointer (some ⟨b1, 0, none⟩)) ∧ fq 4 = uu0 ∧ fq 12 = (Value.int .i64 ((r_Table).length : Int)) ∧ fq 13 = Value.int .i64 (k : Int) ∧ InR .i64 (k : Int) ∧ St wd2 wq [(Ty.sl (Ty.i .i64)).at uu0 s]) hres23 ⟨u17, rfl, rfl, rfl, rfl, (inR_i64.2 (show (-9223372036854775808 : Int) ≤ 0 ∧ (0 : Int) ≤ 9223372036854775807 from by decide)), hS19⟩ ?_ ?_
      · intro k24 x25 ct26 f27 wd28 hk29 hb30 hI31 hbrk32 hret33
        replace hI31 : ∃ (uu0 : Value), f27 1 = (Value.pointer (some ⟨b1, 0, none⟩)) ∧ f27 4 = uu0 ∧ f27 12 = (Value.int .i64 ((r_Table).length : Int)) ∧ f27 13 = Value.int .i64 (k24 : Int) ∧ InR .i64 (k24 : Int) ∧ St wd2 wd28 [(Ty.sl (Ty.i .i64)).at uu0 x25] := hI31
        replace hb30 : p_impl_InvertibleLabels_L1 r_Table k24 x25 = some ct26 := hb30
        unfold p_impl_InvertibleLabels_L1 at hb30
        obtain ⟨u34, hf35, hf36, hf37, hf38, hr39, hS40⟩ := hI31
        refine W.seq ?_
        refine W.region ?_
        refine WL.val (Value.bool (decide ((k24 : Int) < ((r_Table).length : Int)))) _ (op_lss hf38 hf37) rfl ?_
        have hl41 : (k24 : Int) < ((r_Table).length : Int) := by omega
        refine WL.nil ?_
        show W _ _ _ _ _ _
        refine W.seq ?_
        refine W.condT (decide ((k24 : Int) < ((r_Table).length : Int))) rfl (decide_eq_true hl41) ?_
        refine W.skip ?_
        show W _ _ _ _ _ _
        refine W.seq ?_
        refine W.block ?_
        refine W.seq ?_
        refine W.region ?_
        refine WL.val (Value.int .i64 (k24 : Int)) _ (op_move hf38) rfl ?_
        refine WL.val (Value.int .i64 (k24 : Int)) _ (op_assign rfl) rfl ?_
        refine WL.nil ?_
        show W _ _ _ _ _ _
        refine W.seq ?_
        refine W.region ?_
        refine WL.val (Value.agg #[v_r_Table]) _ (op_loadBox st_29 hf35 (BoxAt.lift hS40.ext hx6) rfl rfl) rfl ?_
        refine WL.val (Value.int .i64 (k24 : Int)) _ (op_move rfl) rfl ?_
        obtain ⟨x43, hx44, hb30⟩ := bs hb30
        refine WL.call _ (op_call fn_51 (args2 rfl rfl)) (c_impl_Ring_isInvertible (Ty.lift _ (Ext.trans hE7 hS40.ext) r_r_Table) hr39 hx44) rfl ?_
        rintro _ wd45 ⟨rfl, he46⟩
        have hS48 := St.extend hS40 he46
        replace hS48 : St wd2 wd45 [(Ty.sl (Ty.i .i64)).at u34 x25] := hS48
        refine WL.nil ?_
        show W _ _ _ _ _ _
        obtain ⟨x49, hj50, hb30⟩ := bs hb30
        refine W.cutCode (fun fq wq => ∃ (uu0 : Value), fq 1 = (Value.pointer (some ⟨b1, 0, none⟩)) ∧ fq 4 = uu0 ∧ fq 12 = (Value.int .i64 ((r_Table).length : Int)) ∧ fq 13 = (Value.int .i64 (k24 : Int)) ∧ St wd2 wq [(Ty.sl (Ty.i .i64)).at uu0 x49]) ?_ ?_
        · refine W.cond x43 rfl (fun hc51 => ?_) (fun hc51 => ?_)
          · replace hj50 := ip hj50 hc51
            refine W.region ?_
            refine WL.val u34 _ (op_move hf36) rfl ?_
            refine WL.val (Value.int .i64 (k24 : Int)) _ (op_move rfl) rfl ?_
            refine WL.litFlat (t := (Ty.i .i64)) (flat_i .i64) [(Value.int .i64 (k24 : Int))] [(k24 : Int)] hS48 sl_25 rfl rfl (fillL rfl ⟨rfl, rfl, rfl, trivial⟩) rfl rfl (litL ⟨⟨rfl, hr39⟩, trivial⟩) rfl ?_
            intro u52 wd53 hS54 he55
            replace hS54 : St wd2 wd53 [(Ty.sl (Ty.i .i64)).at u34 x25, (Ty.sl (Ty.i .i64)).at u52 ([(k24 : Int)] : (List Int))] := hS54
            obtain ⟨x56, hx57, hj50⟩ := bs hj50
            refine WL.append (flat_i .i64) hS54 (k := 0) rfl sl_25 rfl rfl rfl rfl (St.rep (t := (Ty.sl (Ty.i .i64))) hS54 1 rfl) hx57 rfl ?_
            intro u58 wd59 hS60 hz61
            replace hS60 : St wd2 wd59 [(Ty.sl (Ty.i .i64)).at u58 x56, (Ty.sl (Ty.i .i64)).at u52 ([(k24 : Int)] : (List Int))] := hS60
            refine WL.val u58 _ (op_assign rfl) rfl ?_
            refine WL.nil ?_
            obtain rfl := Option.some.inj hj50
            exact ⟨u58, hf35, rfl, hf37, hf38, (St.pick hS60 [0] rfl)⟩
          · replace hj50 := inegb hj50 hc51
            refine W.skip ?_
            obtain rfl := Option.some.inj hj50
            exact ⟨u34, hf35, hf36, hf37, hf38, hS48⟩
        · intro f62 wd63 hq64
          obtain ⟨u65, hf66, hf67, hf68, hf69, hS70⟩ := hq64
          show W _ _ _ _ _ _
          refine W.region ?_
          refine WL.val (Value.int .i64 (w64 ((k24 : Int) + (1 : Int)))) _ (op_add hf69 rfl) rfl ?_
          refine WL.val (Value.int .i64 (w64 ((k24 : Int) + (1 : Int)))) _ (op_move rfl) rfl ?_
          refine WL.nil ?_
          obtain rfl := Option.some.inj hb30
          show ∃ s, _ = Ctl.next s ∧ _
          exact ⟨_, rfl, u65, hf66, hf67, hf68, (ctr_next hl41 hr21), (ctr_rng hl41 hr21), hS70⟩
      · intro x77 f72 wd73 hs74 hI75
        replace hI75 : ∃ (uu0 : Value), f72 1 = (Value.pointer (some ⟨b1, 0, none⟩)) ∧ f72 4 = uu0 ∧ f72 12 = (Value.int .i64 ((r_Table).length : Int)) ∧ f72 13 = Value.int .i64 (((r_Table).length : Nat) : Int) ∧ InR .i64 (((r_Table).length : Nat) : Int) ∧ St wd2 wd73 [(Ty.sl (Ty.i .i64)).at uu0 x77] := hI75
        obtain ⟨u78, hf79, hf80, hf81, hf82, hr83, hS84⟩ := hI75
        refine W.seq ?_
        refine W.region ?_
        refine WL.val (Value.bool (decide ((((r_Table).length : Nat) : Int) < ((r_Table).length : Int)))) _ (op_lss hf82 hf81) rfl ?_
        have hl85 : ¬ (((r_Table).length : Nat) : Int) < ((r_Table).length : Int) := by omega
        refine WL.nil ?_
        show W _ _ _ _ _ _
        refine W.seq ?_
        refine W.condF (decide ((((r_Table).length : Nat) : Int) < ((r_Table).length : Int))) rfl (decide_eq_false hl85) ?_
        refine W.exit ?_
        show _ = _ ∧ _
        exact ⟨rfl, _, hs74, u78, hf80, hS84⟩
    · rintro f86 wd87 ⟨x90, rfl, hq88⟩
      replace h := onRes_fin h
      replace hq88 : ∃ (uu0 : Value), f86 4 = uu0 ∧ St wd2 wd87 [(Ty.sl (Ty.i .i64)).at uu0 x90] := hq88
      obtain ⟨u91, hf92, hS93⟩ := hq88
      show W _ _ _ _ _ _
      refine W.seq ?_
      refine W.region ?_
      refine WL.val u91 _ (op_move hf92) rfl ?_
      refine WL.val u91 _ (op_assign rfl) rfl ?_
      refine WL.val (Value.int .i64 (0 : Int)) _ (op_assign rfl) rfl ?_
      refine WL.nil ?_
      show W _ _ _ _ _ _
      refine W.ret ?_
      obtain rfl := Option.some.inj h
      show FinP _ _ _ _ _ _ _
      exact FinP.ret _ (res2 rfl rfl rfl) ⟨u91, rfl, (inR_i64.2 (show (-9223372036854775808 : Int) ≤ 0 ∧ (0 : Int) ≤ 9223372036854775807 from by decide)), (Ext.trans hE7 hS93.ext), (St.out (St.pick hS93 [0] rfl) (hE7))⟩

theorem c_spec_InvertibleLabels {w : World} {r_Table : (List (List (List Int)))} {v_r_Table : Value} (r_r_Table : (Ty.sl (Ty.sl (Ty.sl (Ty.i .i64)))).rep w v_r_Table r_Table) {res : (List Int) × Int} (h : p_spec_InvertibleLabels r_Table  = some res) :
    Ret Try.prog 29 #[(Value.agg #[v_r_Table])] w (fun v w' => ∃ (u0 : Value), v = (Value.tuple #[u0, Value.int .i64 res.2]) ∧ InR .i64 res.2 ∧ Ext w w' ∧ Sep w.heap.size w' [(Ty.sl (Ty.i .i64)).at u0 res.1]) := by
  unfold p_spec_InvertibleLabels at h
  have hS0 : St w w [] := St.start w
  refine Ret.start (fn := Try.f29) Try.func29 rfl 25 rfl rfl ?_
  refine W.seq ?_
  refine W.region ?_
  refine WL.box hS0 rfl (cs := [v_r_Table]) rfl rfl ?_
  intro b1 wd2 hS3 he4 hx5
  replace hS3 : St w wd2 [bx b1 [v_r_Table]] := hS3
  have hx6 := St.boxAt hS3 0 rfl
  have hE7 : Ext w wd2 := hS3.ext
  have hS8 : St wd2 wd2 [] := St.start wd2
  refine WL.val (Value.slice none 0 0) _ (op_assign rfl) rfl ?_
  refine WL.val (Value.int .i64 (0 : Int)) _ (op_assign rfl) rfl ?_
  refine WL.nil ?_
  show W _ _ _ _ _ _
  refine W.seq ?_
  refine W.seq ?_
  refine W.region ?_
  refine WL.val (Value.agg #[v_r_Table]) _ (op_loadBox st_29 rfl (BoxAt.lift hS8.ext hx6) rfl rfl) rfl ?_
  obtain ⟨x9, hx10, h⟩ := bs h
  refine WL.call _ (op_call fn_37 (args1 rfl)) (c_spec_l03Is (Ty.lift _ (Ext.trans hE7 hS8.ext) r_r_Table) hx10) rfl ?_
  rintro _ wd11 ⟨rfl, he12⟩
  have hS14 := St.extend hS8 he12
  replace hS14 : St wd2 wd11 [] := hS14
  refine WL.val (Value.bool (!x9)) _ (op_not rfl) rfl ?_
  refine WL.nil ?_
  show W _ _ _ _ _ _
  refine W.cond (!x9) rfl (fun hc15 => ?_) (fun hc15 => ?_)
  · replace h := ip h hc15
    refine W.seq ?_
    refine W.region ?_
    refine WL.val (Value.slice none 0 0) _ (op_assign rfl) rfl ?_
    refine WL.val (Value.int .i64 (1 : Int)) _ (op_assign rfl) rfl ?_
    refine WL.nil ?_
    show W _ _ _ _ _ _
    refine W.ret ?_
    obtain rfl := Option.some.inj h
    show FinP _ _ _ _ _ _ _
    exact FinP.ret _ (res2 rfl rfl rfl) ⟨(Value.slice none 0 0), rfl, (inR_i64.2 (show (-9223372036854775808 : Int) ≤ 1 ∧ (1 : Int) ≤ 9223372036854775807 from by decide)), (Ext.trans hE7 hS14.ext), (St.out (St.pick (St.addNil (Ty.i .i64) hS14) [0] rfl) (hE7))⟩
  · replace h := inegb h hc15
    refine W.skip ?_
    show W _ _ _ _ _ _
    refine W.seq ?_
    refine W.region ?_
    refine WL.lit0 (t := (Ty.i .i64)) hS14 sl_25 rfl rfl ?_
    intro u17 wd18 hS19 he20
    replace hS19 : St wd2 wd18 [(Ty.sl (Ty.i .i64)).at u17 ([] : (List Int))] := hS19
    refine WL.val u17 _ (op_assign rfl) rfl ?_
    refine WL.nil ?_
    show W _ _ _ _ _ _
    refine W.seq ?_
    refine W.seq ?_
    refine W.region ?_
    refine WL.val (Value.int .i64 (0 : Int)) _ (op_assign rfl) rfl ?_
    refine WL.nil ?_
    show W _ _ _ _ _ _
    obtain ⟨res21, hres22, h⟩ := bs h
    refine W.blockLoop (fun fq wq => ∃ s, res21 = Res.fin s ∧ ∃ (uu0 : Value), fq 4 = uu0 ∧ St wd2 wq [(Ty.sl (Ty.i .i64)).at uu0 s]) ?_ ?_
    · refine W.forN (fun k s fq wq => ∃ (uu0 : Value), fq 1 = (Value.pointer (some ⟨b1, 0, none⟩)) ∧ fq 4 = uu0 ∧ fq 5 = Value.int .i64 (k : Int) ∧ InR .i64 (k : Int) ∧ St wd2 wq [(Ty.sl (Ty.i .i64)).at uu0 s]) hres22 ⟨u17, rfl, rfl, rfl, (inR_i64.2 (show (-9223372036854775808 : Int) ≤ 0 ∧ (0 : Int) ≤ 9223372036854775807 from by decide)), hS19⟩ ?_ ?_
      · intro k23 x24 ct25 f26 wd27 hk28 hb29 hI30 hbrk31 hret32
        replace hI30 : ∃ (uu0 : Value), f26 1 = (Value.pointer (some ⟨b1, 0, none⟩)) ∧ f26 4 = uu0 ∧ f26 5 = Value.int .i64 (k23 : Int) ∧ InR .i64 (k23 : Int) ∧ St wd2 wd27 [(Ty.sl (Ty.i .i64)).at uu0 x24] := hI30
        replace hb29 : p_spec_InvertibleLabels_L1 r_Table k23 x24 = some ct25 := hb29
        unfold p_spec_InvertibleLabels_L1 at hb29
        obtain ⟨u33, hf34, hf35, hf36, hr37, hS38⟩ := hI30
        refine W.seq ?_
        refine W.seq ?_
        refine W.region ?_
        refine WL.val (Value.int .i64 (k23 : Int)) _ (op_move hf36) rfl ?_
        refine WL.val (Value.pointer (some ⟨b1, 0, none⟩)) _ (op_fieldAddr fd_29_0 hf34) rfl ?_
        refine WL.val v_r_Table _ (op_load one_22 rfl (BoxAt.cell (BoxAt.lift hS38.ext hx6) rfl)) rfl ?_
        have hr39 := inR_len (Ty.lift _ (Ext.trans hE7 hS38.ext) r_r_Table)
        refine WL.val (Value.int .i64 ((r_Table).length : Int)) _ (op_lenL sl_22 (Ty.lift _ (Ext.trans hE7 hS38.ext) r_r_Table) rfl) rfl ?_
        refine WL.val (Value.bool (decide ((k23 : Int) < ((r_Table).length : Int)))) _ (op_lss rfl rfl) rfl ?_
        have hl40 : (k23 : Int) < ((r_Table).length : Int) := by omega
        refine WL.nil ?_
        show W _ _ _ _ _ _
        refine W.condT (decide ((k23 : Int) < ((r_Table).length : Int))) rfl (decide_eq_true hl40) ?_
        refine W.skip ?_
        show W _ _ _ _ _ _
        refine W.seq ?_
        refine W.block ?_
        refine W.seq ?_
        refine W.region ?_
        refine WL.val (Value.agg #[v_r_Table]) _ (op_loadBox st_29 hf34 (BoxAt.lift hS38.ext hx6) rfl rfl) rfl ?_
        refine WL.val (Value.int .i64 (k23 : Int)) _ (op_move hf36) rfl ?_
        obtain ⟨x42, hx43, hb29⟩ := bs hb29
        refine WL.call _ (op_call fn_45 (args2 rfl rfl)) (c_spec_l04Invertible (Ty.lift _ (Ext.trans hE7 hS38.ext) r_r_Table) hr37 hx43) rfl ?_
        rintro _ wd44 ⟨rfl, he45⟩
        have hS47 := St.extend hS38 he45
        replace hS47 : St wd2 wd44 [(Ty.sl (Ty.i .i64)).at u33 x24] := hS47
        refine WL.nil ?_
        show W _ _ _ _ _ _
        obtain ⟨x48, hj49, hb29⟩ := bs hb29
        refine W.cutCode (fun fq wq => ∃ (uu0 : Value), fq 1 = (Value.pointer (some ⟨b1, 0, none⟩)) ∧ fq 4 = uu0 ∧ fq 5 = (Value.int .i64 (k23 : Int)) ∧ St wd2 wq [(Ty.sl (Ty.i .i64)).at uu0 x48]) ?_ ?_
        · refine W.cond x42 rfl (fun hc50 => ?_) (fun hc50 => ?_)
          · replace hj49 := ip hj49 hc50
            refine W.region ?_
            refine WL.val u33 _ (op_move hf35) rfl ?_
            refine WL.val (Value.int .i64 (k23 : Int)) _ (op_move hf36) rfl ?_
            refine WL.litFlat (t := (Ty.i .i64)) (flat_i .i64) [(Value.int .i64 (k23 : Int))] [(k23 : Int)] hS47 sl_25 rfl rfl (fillL rfl ⟨rfl, rfl, rfl, trivial⟩) rfl rfl (litL ⟨⟨rfl, hr37⟩, trivial⟩) rfl ?_
            intro u51 wd52 hS53 he54
            replace hS53 : St wd2 wd52 [(Ty.sl (Ty.i .i64)).at u33 x24, (Ty.sl (Ty.i .i64)).at u51 ([(k23 : Int)] : (List Int))] := hS53
            obtain ⟨x55, hx56, hj49⟩ := bs hj49
            refine WL.append (flat_i .i64) hS53 (k := 0) rfl sl_25 rfl rfl rfl rfl (St.rep (t := (Ty.sl (Ty.i .i64))) hS53 1 rfl) hx56 rfl ?_
            intro u57 wd58 hS59 hz60
            replace hS59 : St wd2 wd58 [(Ty.sl (Ty.i .i64)).at u57 x55, (Ty.sl (Ty.i .i64)).at u51 ([(k23 : Int)] : (List Int))] := hS59
            refine WL.val u57 _ (op_assign rfl) rfl ?_
            refine WL.nil ?_
            obtain rfl := Option.some.inj hj49
            exact ⟨u57, hf34, rfl, hf36, (St.pick hS59 [0] rfl)⟩
          · replace hj49 := inegb hj49 hc50
            refine W.skip ?_
            obtain rfl := Option.some.inj hj49
            exact ⟨u33, hf34, hf35, hf36, hS47⟩
        · intro f61 wd62 hq63
          obtain ⟨u64, hf65, hf66, hf67, hS68⟩ := hq63
          show W _ _ _ _ _ _
          refine W.region ?_
          refine WL.val (Value.int .i64 (k23 : Int)) _ (op_move hf67) rfl ?_
          refine WL.val (Value.int .i64 (w64 ((k23 : Int) + (1 : Int)))) _ (op_add rfl rfl) rfl ?_
          refine WL.val (Value.int .i64 (w64 ((k23 : Int) + (1 : Int)))) _ (op_assign rfl) rfl ?_
          refine WL.nil ?_
          obtain rfl := Option.some.inj hb29
          show ∃ s, _ = Ctl.next s ∧ _
          exact ⟨_, rfl, u64, hf65, hf66, (ctr_next hl40 hr39), (ctr_rng hl40 hr39), hS68⟩
      · intro x75 f70 wd71 hs72 hI73
        replace hI73 : ∃ (uu0 : Value), f70 1 = (Value.pointer (some ⟨b1, 0, none⟩)) ∧ f70 4 = uu0 ∧ f70 5 = Value.int .i64 (((r_Table).length : Nat) : Int) ∧ InR .i64 (((r_Table).length : Nat) : Int) ∧ St wd2 wd71 [(Ty.sl (Ty.i .i64)).at uu0 x75] := hI73
        obtain ⟨u76, hf77, hf78, hf79, hr80, hS81⟩ := hI73
        refine W.seq ?_
        refine W.seq ?_
        refine W.region ?_
        refine WL.val (Value.int .i64 (((r_Table).length : Nat) : Int)) _ (op_move hf79) rfl ?_
        refine WL.val (Value.pointer (some ⟨b1, 0, none⟩)) _ (op_fieldAddr fd_29_0 hf77) rfl ?_
        refine WL.val v_r_Table _ (op_load one_22 rfl (BoxAt.cell (BoxAt.lift hS81.ext hx6) rfl)) rfl ?_
        have hr82 := inR_len (Ty.lift _ (Ext.trans hE7 hS81.ext) r_r_Table)
        refine WL.val (Value.int .i64 ((r_Table).length : Int)) _ (op_lenL sl_22 (Ty.lift _ (Ext.trans hE7 hS81.ext) r_r_Table) rfl) rfl ?_
        refine WL.val (Value.bool (decide ((((r_Table).length : Nat) : Int) < ((r_Table).length : Int)))) _ (op_lss rfl rfl) rfl ?_
        have hl83 : ¬ (((r_Table).length : Nat) : Int) < ((r_Table).length : Int) := by omega
        refine WL.nil ?_
        show W _ _ _ _ _ _
        refine W.condF (decide ((((r_Table).length : Nat) : Int) < ((r_Table).length : Int))) rfl (decide_eq_false hl83) ?_
        refine W.exit ?_
        show _ = _ ∧ _
        exact ⟨rfl, _, hs72, u76, hf78, hS81⟩
    · rintro f84 wd85 ⟨x88, rfl, hq86⟩
      replace h := onRes_fin h
      replace hq86 : ∃ (uu0 : Value), f84 4 = uu0 ∧ St wd2 wd85 [(Ty.sl (Ty.i .i64)).at uu0 x88] := hq86
      obtain ⟨u89, hf90, hS91⟩ := hq86
      show W _ _ _ _ _ _
      refine W.seq ?_
      refine W.region ?_
      refine WL.val u89 _ (op_move hf90) rfl ?_
      refine WL.val u89 _ (op_assign rfl) rfl ?_
      refine WL.val (Value.int .i64 (0 : Int)) _ (op_assign rfl) rfl ?_
      refine WL.nil ?_
      show W _ _ _ _ _ _
      refine W.ret ?_
      obtain rfl := Option.some.inj h
      show FinP _ _ _ _ _ _ _
      exact FinP.ret _ (res2 rfl rfl rfl) ⟨u89, rfl, (inR_i64.2 (show (-9223372036854775808 : Int) ≤ 0 ∧ (0 : Int) ≤ 9223372036854775807 from by decide)), (Ext.trans hE7 hS91.ext), (St.out (St.pick hS91 [0] rfl) (hE7))⟩

theorem c_laws_markInt64S {w : World} {a : (List Int)} {v_a : Value} {k1 : Int} {w0 : World} {R : Ent} (hS0 : St w0 w [(Ty.sl (Ty.i .i64)).at v_a a, R]) (r_k1 : InR .i64 k1) {res : Int × (List Int)} (h : p_laws_markInt64S a k1  = some res) :
    Ret Try.prog 27 #[v_a, (Value.int .i64 k1)] w (fun v w' => v = Value.int .i64 res.1 ∧ InR .i64 res.1 ∧ St w0 w' [(Ty.sl (Ty.i .i64)).at v_a res.2, R]) := by
  unfold p_laws_markInt64S at h
  refine Ret.start (fn := Try.f27) Try.func27 rfl 19 rfl rfl ?_
  refine W.seq ?_
  refine W.region ?_
  refine WL.val (Value.int .i64 (0 : Int)) _ (op_assign rfl) rfl ?_
  refine WL.nil ?_
  show W _ _ _ _ _ _
  refine W.seq ?_
  refine W.seq ?_
  refine W.region ?_
  refine WL.val (Value.int .i64 (0 : Int)) _ (op_assign rfl) rfl ?_
  refine WL.nil ?_
  show W _ _ _ _ _ _
  obtain ⟨res1, hres2, h⟩ := bs h
  refine W.blockLoop (fun fq wq => ∃ s, res1 = Res.fin s ∧ fq 1 = Value.int .i64 s.2 ∧ InR .i64 s.2 ∧ (s.1).length = (a).length ∧ St w0 wq [(Ty.sl (Ty.i .i64)).at v_a s.1, R]) ?_ ?_
  · refine W.forN (fun k s fq wq => fq 0 = v_a ∧ fq 1 = Value.int .i64 s.2 ∧ InR .i64 s.2 ∧ fq 5 = Value.int .i64 (k : Int) ∧ InR .i64 (k : Int) ∧ (s.1).length = (a).length ∧ St w0 wq [(Ty.sl (Ty.i .i64)).at v_a s.1, R]) hres2 ⟨rfl, rfl, r_k1, rfl, (inR_i64.2 (show (-9223372036854775808 : Int) ≤ 0 ∧ (0 : Int) ≤ 9223372036854775807 from by decide)), rfl, hS0⟩ ?_ ?_
    · intro k3 s30 ct6 f7 wd8 hk9 hb10 hI11 hbrk12 hret13
      obtain ⟨x4, x5⟩ := s30
      replace hI11 : f7 0 = v_a ∧ f7 1 = Value.int .i64 x5 ∧ InR .i64 x5 ∧ f7 5 = Value.int .i64 (k3 : Int) ∧ InR .i64 (k3 : Int) ∧ (x4).length = (a).length ∧ St w0 wd8 [(Ty.sl (Ty.i .i64)).at v_a x4, R] := hI11
      replace hb10 : p_laws_markInt64S_L1  k3 x4 x5 = some ct6 := hb10
      unfold p_laws_markInt64S_L1 at hb10
      obtain ⟨hf14, hf15, hr16, hf17, hr18, hL19, hS20⟩ := hI11
      refine W.seq ?_
      refine W.seq ?_
      refine W.region ?_
      refine WL.val (Value.int .i64 (k3 : Int)) _ (op_move hf17) rfl ?_
      refine WL.val v_a _ (op_move hf14) rfl ?_
      have hr21 := inR_len (St.rep (t := (Ty.sl (Ty.i .i64))) hS20 0 rfl)
      refine WL.val (Value.int .i64 ((x4).length : Int)) _ (op_lenL sl_25 (St.rep (t := (Ty.sl (Ty.i .i64))) hS20 0 rfl) rfl) rfl ?_
      refine WL.val (Value.bool (decide ((k3 : Int) < ((x4).length : Int)))) _ (op_lss rfl rfl) rfl ?_
      have hl22 : (k3 : Int) < ((x4).length : Int) := by omega
      refine WL.nil ?_
      show W _ _ _ _ _ _
      refine W.condT (decide ((k3 : Int) < ((x4).length : Int))) rfl (decide_eq_true hl22) ?_
      refine W.skip ?_
      show W _ _ _ _ _ _
      refine W.seq ?_
      refine W.block ?_
      refine W.seq ?_
      refine W.region ?_
      refine WL.val v_a _ (op_move hf14) rfl ?_
      refine WL.val (Value.int .i64 (k3 : Int)) _ (op_move hf17) rfl ?_
      refine WL.val (Value.int .i64 x5) _ (op_move hf15) rfl ?_
      obtain ⟨x24, hx27, hb10⟩ := bs hb10
      obtain ⟨ha25, hb26, hx27⟩ := idx_some hx27
      refine WL.val (Value.pointer (some (elA v_a ((k3 : Int)).toNat))) _ (op_idx sl_25 (St.rep (t := (Ty.sl (Ty.i .i64))) hS20 0 rfl) rfl rfl ha25 hb26) rfl ?_
      refine WL.storeEl (flat_i .i64) hS20 (k := 0) rfl sz_2 rfl rfl (lt_of_idx ha25 hb26) ⟨rfl, hr16⟩ ?_
      intro wd28 hS29
      replace hS29 : St w0 wd28 [(Ty.sl (Ty.i .i64)).at v_a ((x4).set ((k3 : Int)).toNat x5), R] := hS29
      refine WL.nil ?_
      show W _ _ _ _ _ _
      refine W.region ?_
      refine WL.val (Value.int .i64 x5) _ (op_move hf15) rfl ?_
      refine WL.val (Value.int .i64 (w64 (x5 + (1 : Int)))) _ (op_add rfl rfl) rfl ?_
      refine WL.val (Value.int .i64 (w64 (x5 + (1 : Int)))) _ (op_assign rfl) rfl ?_
      refine WL.nil ?_
      show W _ _ _ _ _ _
      refine W.region ?_
      refine WL.val (Value.int .i64 (k3 : Int)) _ (op_move hf17) rfl ?_
      refine WL.val (Value.int .i64 (w64 ((k3 : Int) + (1 : Int)))) _ (op_add rfl rfl) rfl ?_
      refine WL.val (Value.int .i64 (w64 ((k3 : Int) + (1 : Int)))) _ (op_assign rfl) rfl ?_
      refine WL.nil ?_
      obtain rfl := Option.some.inj hb10
      show ∃ s, _ = Ctl.next s ∧ _
      exact ⟨_, rfl, hf14, rfl, (inR_wrap _ _), (ctr_next hl22 hr21), (ctr_rng hl22 hr21), (by first | exact hL19 | (simp only [List.length_set]; exact hL19)), hS29⟩
    · intro s35 f31 wd32 hs33 hI34
      obtain ⟨x36, x37⟩ := s35
      replace hI34 : f31 0 = v_a ∧ f31 1 = Value.int .i64 x37 ∧ InR .i64 x37 ∧ f31 5 = Value.int .i64 (((a).length : Nat) : Int) ∧ InR .i64 (((a).length : Nat) : Int) ∧ (x36).length = (a).length ∧ St w0 wd32 [(Ty.sl (Ty.i .i64)).at v_a x36, R] := hI34
      obtain ⟨hf38, hf39, hr40, hf41, hr42, hL43, hS44⟩ := hI34
      refine W.seq ?_
      refine W.seq ?_
      refine W.region ?_
      refine WL.val (Value.int .i64 (((a).length : Nat) : Int)) _ (op_move hf41) rfl ?_
      refine WL.val v_a _ (op_move hf38) rfl ?_
      have hr45 := inR_len (St.rep (t := (Ty.sl (Ty.i .i64))) hS44 0 rfl)
      refine WL.val (Value.int .i64 ((x36).length : Int)) _ (op_lenL sl_25 (St.rep (t := (Ty.sl (Ty.i .i64))) hS44 0 rfl) rfl) rfl ?_
      refine WL.val (Value.bool (decide ((((a).length : Nat) : Int) < ((x36).length : Int)))) _ (op_lss rfl rfl) rfl ?_
      have hl46 : ¬ (((a).length : Nat) : Int) < ((x36).length : Int) := by omega
      refine WL.nil ?_
      show W _ _ _ _ _ _
      refine W.condF (decide ((((a).length : Nat) : Int) < ((x36).length : Int))) rfl (decide_eq_false hl46) ?_
      refine W.exit ?_
      show _ = _ ∧ _
      exact ⟨rfl, _, hs33, hf39, hr40, (by first | exact hL43 | (simp only [List.length_set]; exact hL43)), hS44⟩
  · rintro f47 wd48 ⟨s50, rfl, hq49⟩
    replace h := onRes_fin h
    obtain ⟨x51, x52⟩ := s50
    replace hq49 : f47 1 = Value.int .i64 x52 ∧ InR .i64 x52 ∧ (x51).length = (a).length ∧ St w0 wd48 [(Ty.sl (Ty.i .i64)).at v_a x51, R] := hq49
    replace h : (_ : Option _) = _ := h
    dsimp only at h
    obtain ⟨hf53, hr54, hL55, hS56⟩ := hq49
    show W _ _ _ _ _ _
    refine W.seq ?_
    refine W.region ?_
    refine WL.val (Value.int .i64 x52) _ (op_move hf53) rfl ?_
    refine WL.val (Value.int .i64 x52) _ (op_assign rfl) rfl ?_
    refine WL.nil ?_
    show W _ _ _ _ _ _
    refine W.ret ?_
    obtain rfl := Option.some.inj h
    show FinP _ _ _ _ _ _ _
    exact FinP.ret _ (res1 rfl rfl) ⟨rfl, hr54, (St.pick hS56 [0, 1] rfl)⟩

theorem c_laws_markInt64SS {w : World} {a : (List (List Int))} {v_a : Value} {k1 : Int} {w0 : World} {R : Ent} (hS0 : St w0 w [(Ty.sl (Ty.sl (Ty.i .i64))).at v_a a, R]) (r_k1 : InR .i64 k1) {res : Int × (List (List Int))} (h : p_laws_markInt64SS a k1  = some res) :
    Ret Try.prog 74 #[v_a, (Value.int .i64 k1)] w (fun v w' => v = Value.int .i64 res.1 ∧ InR .i64 res.1 ∧ St w0 w' [(Ty.sl (Ty.sl (Ty.i .i64))).at v_a res.2, R]) := by
  unfold p_laws_markInt64SS at h
  refine Ret.start (fn := Try.f74) Try.func74 rfl 19 rfl rfl ?_
  refine W.seq ?_
  refine W.region ?_
  refine WL.val (Value.int .i64 (0 : Int)) _ (op_assign rfl) rfl ?_
  refine WL.nil ?_
  show W _ _ _ _ _ _
  refine W.seq ?_
  refine W.seq ?_
  refine W.region ?_
  refine WL.val (Value.int .i64 (0 : Int)) _ (op_assign rfl) rfl ?_
  refine WL.nil ?_
  show W _ _ _ _ _ _
  obtain ⟨res1, hres2, h⟩ := bs h
  refine W.blockLoop (fun fq wq => ∃ s, res1 = Res.fin s ∧ fq 1 = Value.int .i64 s.2 ∧ InR .i64 s.2 ∧ (s.1).length = (a).length ∧ St w0 wq [(Ty.sl (Ty.sl (Ty.i .i64))).at v_a s.1, R]) ?_ ?_
  · refine W.forN (fun k s fq wq => fq 0 = v_a ∧ fq 1 = Value.int .i64 s.2 ∧ InR .i64 s.2 ∧ fq 5 = Value.int .i64 (k : Int) ∧ InR .i64 (k : Int) ∧ (s.1).length = (a).length ∧ St w0 wq [(Ty.sl (Ty.sl (Ty.i .i64))).at v_a s.1, R]) hres2 ⟨rfl, rfl, r_k1, rfl, (inR_i64.2 (show (-9223372036854775808 : Int) ≤ 0 ∧ (0 : Int) ≤ 9223372036854775807 from by decide)), rfl, hS0⟩ ?_ ?_
    · intro k3 s40 ct6 f7 wd8 hk9 hb10 hI11 hbrk12 hret13
      obtain ⟨x4, x5⟩ := s40
      replace hI11 : f7 0 = v_a ∧ f7 1 = Value.int .i64 x5 ∧ InR .i64 x5 ∧ f7 5 = Value.int .i64 (k3 : Int) ∧ InR .i64 (k3 : Int) ∧ (x4).length = (a).length ∧ St w0 wd8 [(Ty.sl (Ty.sl (Ty.i .i64))).at v_a x4, R] := hI11
      replace hb10 : p_laws_markInt64SS_L1  k3 x4 x5 = some ct6 := hb10
      unfold p_laws_markInt64SS_L1 at hb10
      obtain ⟨hf14, hf15, hr16, hf17, hr18, hL19, hS20⟩ := hI11
      refine W.seq ?_
      refine W.seq ?_
      refine W.region ?_
      refine WL.val (Value.int .i64 (k3 : Int)) _ (op_move hf17) rfl ?_
      refine WL.val v_a _ (op_move hf14) rfl ?_
      have hr21 := inR_len (St.rep (t := (Ty.sl (Ty.sl (Ty.i .i64)))) hS20 0 rfl)
      refine WL.val (Value.int .i64 ((x4).length : Int)) _ (op_lenL sl_61 (St.rep (t := (Ty.sl (Ty.sl (Ty.i .i64)))) hS20 0 rfl) rfl) rfl ?_
      refine WL.val (Value.bool (decide ((k3 : Int) < ((x4).length : Int)))) _ (op_lss rfl rfl) rfl ?_
      have hl22 : (k3 : Int) < ((x4).length : Int) := by omega
      refine WL.nil ?_
      show W _ _ _ _ _ _
      refine W.condT (decide ((k3 : Int) < ((x4).length : Int))) rfl (decide_eq_true hl22) ?_
      refine W.skip ?_
      show W _ _ _ _ _ _
      refine W.seq ?_
      refine W.block ?_
      refine W.region ?_
      refine WL.val v_a _ (op_move hf14) rfl ?_
      refine WL.val (Value.int .i64 (k3 : Int)) _ (op_move hf17) rfl ?_
      obtain ⟨x24, hx27, hb10⟩ := bs hb10
      obtain ⟨ha25, hb26, hx27⟩ := idx_some hx27
      refine WL.val (Value.pointer (some (elA v_a ((k3 : Int)).toNat))) _ (op_idx sl_61 (St.rep (t := (Ty.sl (Ty.sl (Ty.i .i64)))) hS20 0 rfl) rfl rfl ha25 hb26) rfl ?_
      obtain ⟨u28, hc29, hr30⟩ := repSl.el (St.rep (t := (Ty.sl (Ty.sl (Ty.i .i64)))) hS20 0 rfl) hx27
      refine WL.val u28 _ (op_load one_25 rfl hc29) rfl ?_
      refine WL.val (Value.int .i64 x5) _ (op_move hf15) rfl ?_
      have hS31 := St.unrow (k := 0) hS20 rfl hx27 hc29
      replace hS31 : St w0 wd8 [holeAt (Ty.sl (Ty.i .i64)) v_a x4 ((k3 : Int)).toNat u28, R, (Ty.sl (Ty.i .i64)).at u28 x24] := hS31
      obtain ⟨x32, hx33, hb10⟩ := bs hb10
      have hS34 := St.fold [(Ty.sl (Ty.i .i64)).at u28 x24] [holeAt (Ty.sl (Ty.i .i64)) v_a x4 ((k3 : Int)).toNat u28, R] (St.pick hS31 [2, 0, 1] rfl)
      refine WL.call _ (op_call fn_27 (args2 rfl rfl)) (c_laws_markInt64S hS34 hr16 hx33) rfl ?_
      rintro _ wd37 ⟨rfl, hr38, hS35⟩
      have hS36 := St.pick (St.unfold [(Ty.sl (Ty.i .i64)).at u28 x32.2] [holeAt (Ty.sl (Ty.i .i64)) v_a x4 ((k3 : Int)).toNat u28, R] hS35) [1, 2, 0] rfl
      replace hS36 : St w0 wd37 [holeAt (Ty.sl (Ty.i .i64)) v_a x4 ((k3 : Int)).toNat u28, R, (Ty.sl (Ty.i .i64)).at u28 x32.2] := hS36
      have hS39 := St.rerow (k := 0) (k2 := 2) hS36 rfl rfl rfl
      replace hS39 : St w0 wd37 [(Ty.sl (Ty.sl (Ty.i .i64))).at v_a ((x4).set ((k3 : Int)).toNat x32.2), R, emp] := hS39
      refine WL.val (Value.int .i64 x32.1) _ (op_assign rfl) rfl ?_
      refine WL.nil ?_
      show W _ _ _ _ _ _
      refine W.region ?_
      refine WL.val (Value.int .i64 (k3 : Int)) _ (op_move hf17) rfl ?_
      refine WL.val (Value.int .i64 (w64 ((k3 : Int) + (1 : Int)))) _ (op_add rfl rfl) rfl ?_
      refine WL.val (Value.int .i64 (w64 ((k3 : Int) + (1 : Int)))) _ (op_assign rfl) rfl ?_
      refine WL.nil ?_
      obtain rfl := Option.some.inj hb10
      show ∃ s, _ = Ctl.next s ∧ _
      exact ⟨_, rfl, hf14, rfl, hr38, (ctr_next hl22 hr21), (ctr_rng hl22 hr21), (by first | exact hL19 | (simp only [List.length_set]; exact hL19)), (St.pick hS39 [0, 1] rfl)⟩
    · intro s45 f41 wd42 hs43 hI44
      obtain ⟨x46, x47⟩ := s45
      replace hI44 : f41 0 = v_a ∧ f41 1 = Value.int .i64 x47 ∧ InR .i64 x47 ∧ f41 5 = Value.int .i64 (((a).length : Nat) : Int) ∧ InR .i64 (((a).length : Nat) : Int) ∧ (x46).length = (a).length ∧ St w0 wd42 [(Ty.sl (Ty.sl (Ty.i .i64))).at v_a x46, R] := hI44
      obtain ⟨hf48, hf49, hr50, hf51, hr52, hL53, hS54⟩ := hI44
      refine W.seq ?_
      refine W.seq ?_
      refine W.region ?_
      refine WL.val (Value.int .i64 (((a).length : Nat) : Int)) _ (op_move hf51) rfl ?_
      refine WL.val v_a _ (op_move hf48) rfl ?_
      have hr55 := inR_len (St.rep (t := (Ty.sl (Ty.sl (Ty.i .i64)))) hS54 0 rfl)
      refine WL.val (Value.int .i64 ((x46).length : Int)) _ (op_lenL sl_61 (St.rep (t := (Ty.sl (Ty.sl (Ty.i .i64)))) hS54 0 rfl) rfl) rfl ?_
      refine WL.val (Value.bool (decide ((((a).length : Nat) : Int) < ((x46).length : Int)))) _ (op_lss rfl rfl) rfl ?_
      have hl56 : ¬ (((a).length : Nat) : Int) < ((x46).length : Int) := by omega
      refine WL.nil ?_
      show W _ _ _ _ _ _
      refine W.condF (decide ((((a).length : Nat) : Int) < ((x46).length : Int))) rfl (decide_eq_false hl56) ?_
      refine W.exit ?_
      show _ = _ ∧ _
      exact ⟨rfl, _, hs43, hf49, hr50, (by first | exact hL53 | (simp only [List.length_set]; exact hL53)), hS54⟩
  · rintro f57 wd58 ⟨s60, rfl, hq59⟩
    replace h := onRes_fin h
    obtain ⟨x61, x62⟩ := s60
    replace hq59 : f57 1 = Value.int .i64 x62 ∧ InR .i64 x62 ∧ (x61).length = (a).length ∧ St w0 wd58 [(Ty.sl (Ty.sl (Ty.i .i64))).at v_a x61, R] := hq59
    replace h : (_ : Option _) = _ := h
    dsimp only at h
    obtain ⟨hf63, hr64, hL65, hS66⟩ := hq59
    show W _ _ _ _ _ _
    refine W.seq ?_
    refine W.region ?_
    refine WL.val (Value.int .i64 x62) _ (op_move hf63) rfl ?_
    refine WL.val (Value.int .i64 x62) _ (op_assign rfl) rfl ?_
    refine WL.nil ?_
    show W _ _ _ _ _ _
    refine W.ret ?_
    obtain rfl := Option.some.inj h
    show FinP _ _ _ _ _ _ _
    exact FinP.ret _ (res1 rfl rfl) ⟨rfl, hr64, (St.pick hS66 [0, 1] rfl)⟩

theorem c_laws_markInt64SSS {w : World} {a : (List (List (List Int)))} {v_a : Value} {k1 : Int} {w0 : World} {R : Ent} (hS0 : St w0 w [(Ty.sl (Ty.sl (Ty.sl (Ty.i .i64)))).at v_a a, R]) (r_k1 : InR .i64 k1) {res : Int × (List (List (List Int)))} (h : p_laws_markInt64SSS a k1  = some res) :
    Ret Try.prog 50 #[v_a, (Value.int .i64 k1)] w (fun v w' => v = Value.int .i64 res.1 ∧ InR .i64 res.1 ∧ St w0 w' [(Ty.sl (Ty.sl (Ty.sl (Ty.i .i64)))).at v_a res.2, R]) := by
  unfold p_laws_markInt64SSS at h
  refine Ret.start (fn := Try.f50) Try.func50 rfl 19 rfl rfl ?_
  refine W.seq ?_
  refine W.region ?_
  refine WL.val (Value.int .i64 (0 : Int)) _ (op_assign rfl) rfl ?_
  refine WL.nil ?_
  show W _ _ _ _ _ _
  refine W.seq ?_
  refine W.seq ?_
  refine W.region ?_
  refine WL.val (Value.int .i64 (0 : Int)) _ (op_assign rfl) rfl ?_
  refine WL.nil ?_
  show W _ _ _ _ _ _
  obtain ⟨res1, hres2, h⟩ := bs h
  refine W.blockLoop (fun fq wq => ∃ s, res1 = Res.fin s ∧ fq 1 = Value.int .i64 s.2 ∧ InR .i64 s.2 ∧ (s.1).length = (a).length ∧ St w0 wq [(Ty.sl (Ty.sl (Ty.sl (Ty.i .i64)))).at v_a s.1, R]) ?_ ?_
  · refine W.forN (fun k s fq wq => fq 0 = v_a ∧ fq 1 = Value.int .i64 s.2 ∧ InR .i64 s.2 ∧ fq 5 = Value.int .i64 (k : Int) ∧ InR .i64 (k : Int) ∧ (s.1).length = (a).length ∧ St w0 wq [(Ty.sl (Ty.sl (Ty.sl (Ty.i .i64)))).at v_a s.1, R]) hres2 ⟨rfl, rfl, r_k1, rfl, (inR_i64.2 (show (-9223372036854775808 : Int) ≤ 0 ∧ (0 : Int) ≤ 9223372036854775807 from by decide)), rfl, hS0⟩ ?_ ?_
    · intro k3 s40 ct6 f7 wd8 hk9 hb10 hI11 hbrk12 hret13
      obtain ⟨x4, x5⟩ := s40
      replace hI11 : f7 0 = v_a ∧ f7 1 = Value.int .i64 x5 ∧ InR .i64 x5 ∧ f7 5 = Value.int .i64 (k3 : Int) ∧ InR .i64 (k3 : Int) ∧ (x4).length = (a).length ∧ St w0 wd8 [(Ty.sl (Ty.sl (Ty.sl (Ty.i .i64)))).at v_a x4, R] := hI11
      replace hb10 : p_laws_markInt64SSS_L1  k3 x4 x5 = some ct6 := hb10
      unfold p_laws_markInt64SSS_L1 at hb10
      obtain ⟨hf14, hf15, hr16, hf17, hr18, hL19, hS20⟩ := hI11
      refine W.seq ?_
      refine W.seq ?_
      refine W.region ?_
      refine WL.val (Value.int .i64 (k3 : Int)) _ (op_move hf17) rfl ?_
      refine WL.val v_a _ (op_move hf14) rfl ?_
      have hr21 := inR_len (St.rep (t := (Ty.sl (Ty.sl (Ty.sl (Ty.i .i64))))) hS20 0 rfl)
      refine WL.val (Value.int .i64 ((x4).length : Int)) _ (op_lenL sl_22 (St.rep (t := (Ty.sl (Ty.sl (Ty.sl (Ty.i .i64))))) hS20 0 rfl) rfl) rfl ?_
      refine WL.val (Value.bool (decide ((k3 : Int) < ((x4).length : Int)))) _ (op_lss rfl rfl) rfl ?_
      have hl22 : (k3 : Int) < ((x4).length : Int) := by omega
      refine WL.nil ?_
      show W _ _ _ _ _ _
      refine W.condT (decide ((k3 : Int) < ((x4).length : Int))) rfl (decide_eq_true hl22) ?_
      refine W.skip ?_
      show W _ _ _ _ _ _
      refine W.seq ?_
      refine W.block ?_
      refine W.region ?_
      refine WL.val v_a _ (op_move hf14) rfl ?_
      refine WL.val (Value.int .i64 (k3 : Int)) _ (op_move hf17) rfl ?_
      obtain ⟨x24, hx27, hb10⟩ := bs hb10
      obtain ⟨ha25, hb26, hx27⟩ := idx_some hx27
      refine WL.val (Value.pointer (some (elA v_a ((k3 : Int)).toNat))) _ (op_idx sl_22 (St.rep (t := (Ty.sl (Ty.sl (Ty.sl (Ty.i .i64))))) hS20 0 rfl) rfl rfl ha25 hb26) rfl ?_
      obtain ⟨u28, hc29, hr30⟩ := repSl.el (St.rep (t := (Ty.sl (Ty.sl (Ty.sl (Ty.i .i64))))) hS20 0 rfl) hx27
      refine WL.val u28 _ (op_load one_61 rfl hc29) rfl ?_
      refine WL.val (Value.int .i64 x5) _ (op_move hf15) rfl ?_
      have hS31 := St.unrow (k := 0) hS20 rfl hx27 hc29
      replace hS31 : St w0 wd8 [holeAt (Ty.sl (Ty.sl (Ty.i .i64))) v_a x4 ((k3 : Int)).toNat u28, R, (Ty.sl (Ty.sl (Ty.i .i64))).at u28 x24] := hS31
      obtain ⟨x32, hx33, hb10⟩ := bs hb10
      have hS34 := St.fold [(Ty.sl (Ty.sl (Ty.i .i64))).at u28 x24] [holeAt (Ty.sl (Ty.sl (Ty.i .i64))) v_a x4 ((k3 : Int)).toNat u28, R] (St.pick hS31 [2, 0, 1] rfl)
      refine WL.call _ (op_call fn_74 (args2 rfl rfl)) (c_laws_markInt64SS hS34 hr16 hx33) rfl ?_
      rintro _ wd37 ⟨rfl, hr38, hS35⟩
      have hS36 := St.pick (St.unfold [(Ty.sl (Ty.sl (Ty.i .i64))).at u28 x32.2] [holeAt (Ty.sl (Ty.sl (Ty.i .i64))) v_a x4 ((k3 : Int)).toNat u28, R] hS35) [1, 2, 0] rfl
      replace hS36 : St w0 wd37 [holeAt (Ty.sl (Ty.sl (Ty.i .i64))) v_a x4 ((k3 : Int)).toNat u28, R, (Ty.sl (Ty.sl (Ty.i .i64))).at u28 x32.2] := hS36
      have hS39 := St.rerow (k := 0) (k2 := 2) hS36 rfl rfl rfl
      replace hS39 : St w0 wd37 [(Ty.sl (Ty.sl (Ty.sl (Ty.i .i64)))).at v_a ((x4).set ((k3 : Int)).toNat x32.2), R, emp] := hS39
      refine WL.val (Value.int .i64 x32.1) _ (op_assign rfl) rfl ?_
      refine WL.nil ?_
      show W _ _ _ _ _ _
      refine W.region ?_
      refine WL.val (Value.int .i64 (k3 : Int)) _ (op_move hf17) rfl ?_
      refine WL.val (Value.int .i64 (w64 ((k3 : Int) + (1 : Int)))) _ (op_add rfl rfl) rfl ?_
      refine WL.val (Value.int .i64 (w64 ((k3 : Int) + (1 : Int)))) _ (op_assign rfl) rfl ?_
      refine WL.nil ?_
      obtain rfl := Option.some.inj hb10
      show ∃ s, _ = Ctl.next s ∧ _
      exact ⟨_, rfl, hf14, rfl, hr38, (ctr_next hl22 hr21), (ctr_rng hl22 hr21), (by first | exact hL19 | (simp only [List.length_set]; exact hL19)), (St.pick hS39 [0, 1] rfl)⟩
    · intro s45 f41 wd42 hs43 hI44
      obtain ⟨x46, x47⟩ := s45
      replace hI44 : f41 0 = v_a ∧ f41 1 = Value.int .i64 x47 ∧ InR .i64 x47 ∧ f41 5 = Value.int .i64 (((a).length : Nat) : Int) ∧ InR .i64 (((a).length : Nat) : Int) ∧ (x46).length = (a).length ∧ St w0 wd42 [(Ty.sl (Ty.sl (Ty.sl (Ty.i .i64)))).at v_a x46, R] := hI44
      obtain ⟨hf48, hf49, hr50, hf51, hr52, hL53, hS54⟩ := hI44
      refine W.seq ?_
      refine W.seq ?_
      refine W.region ?_
      refine WL.val (Value.int .i64 (((a).length : Nat) : Int)) _ (op_move hf51) rfl ?_
      refine WL.val v_a _ (op_move hf48) rfl ?_
      have hr55 := inR_len (St.rep (t := (Ty.sl (Ty.sl (Ty.sl (Ty.i .i64))))) hS54 0 rfl)
      refine WL.val (Value.int .i64 ((x46).length : Int)) _ (op_lenL sl_22 (St.rep (t := (Ty.sl (Ty.sl (Ty.sl (Ty.i .i64))))) hS54 0 rfl) rfl) rfl ?_
      refine WL.val (Value.bool (decide ((((a).length : Nat) : Int) < ((x46).length : Int)))) _ (op_lss rfl rfl) rfl ?_
      have hl56 : ¬ (((a).length : Nat) : Int) < ((x46).length : Int) := by omega
      refine WL.nil ?_
      show W _ _ _ _ _ _
      refine W.condF (decide ((((a).length : Nat) : Int) < ((x46).length : Int))) rfl (decide_eq_false hl56) ?_
      refine W.exit ?_
      show _ = _ ∧ _
      exact ⟨rfl, _, hs43, hf49, hr50, (by first | exact hL53 | (simp only [List.length_set]; exact hL53)), hS54⟩
  · rintro f57 wd58 ⟨s60, rfl, hq59⟩
    replace h := onRes_fin h
    obtain ⟨x61, x62⟩ := s60
    replace hq59 : f57 1 = Value.int .i64 x62 ∧ InR .i64 x62 ∧ (x61).length = (a).length ∧ St w0 wd58 [(Ty.sl (Ty.sl (Ty.sl (Ty.i .i64)))).at v_a x61, R] := hq59
    replace h : (_ : Option _) = _ := h
    dsimp only at h
    obtain ⟨hf63, hr64, hL65, hS66⟩ := hq59
    show W _ _ _ _ _ _
    refine W.seq ?_
    refine W.region ?_
    refine WL.val (Value.int .i64 x62) _ (op_move hf63) rfl ?_
    refine WL.val (Value.int .i64 x62) _ (op_assign rfl) rfl ?_
    refine WL.nil ?_
    show W _ _ _ _ _ _
    refine W.ret ?_
    obtain rfl := Option.some.inj h
    show FinP _ _ _ _ _ _ _
    exact FinP.ret _ (res1 rfl rfl) ⟨rfl, hr64, (St.pick hS66 [0, 1] rfl)⟩

theorem c_laws_markRing {w : World} {a_Table : (List (List (List Int)))} {v_a_Table : Value} {k1 : Int} {w0 : World} {R : Ent} (hS0 : St w0 w [(Ty.sl (Ty.sl (Ty.sl (Ty.i .i64)))).at v_a_Table a_Table, R]) (r_k1 : InR .i64 k1) {res : Int × (List (List (List Int)))} (h : p_laws_markRing a_Table k1  = some res) :
    Ret Try.prog 26 #[(Value.agg #[v_a_Table]), (Value.int .i64 k1)] w (fun v w' => v = Value.int .i64 res.1 ∧ InR .i64 res.1 ∧ St w0 w' [(Ty.sl (Ty.sl (Ty.sl (Ty.i .i64)))).at v_a_Table res.2, R]) := by
  unfold p_laws_markRing at h
  refine Ret.start (fn := Try.f26) Try.func26 rfl 10 rfl rfl ?_
  refine W.seq ?_
  refine W.region ?_
  refine WL.box hS0 rfl (cs := [v_a_Table]) rfl rfl ?_
  intro b1 wd2 hS3 he4 hx5
  replace hS3 : St w0 wd2 [(Ty.sl (Ty.sl (Ty.sl (Ty.i .i64)))).at v_a_Table a_Table, R, bx b1 [v_a_Table]] := hS3
  refine WL.val (Value.int .i64 (0 : Int)) _ (op_assign rfl) rfl ?_
  refine WL.nil ?_
  show W _ _ _ _ _ _
  refine W.seq ?_
  refine W.region ?_
  refine WL.val (Value.pointer (some ⟨b1, 0, none⟩)) _ (op_fieldAddr fd_29_0 rfl) rfl ?_
  refine WL.val v_a_Table _ (op_load one_22 rfl (BoxAt.cell (St.boxAt hS3 2 rfl) rfl)) rfl ?_
  refine WL.val (Value.int .i64 k1) _ (op_move rfl) rfl ?_
  obtain ⟨x6, hx7, h⟩ := bs h
  have hS8 := St.fold [(Ty.sl (Ty.sl (Ty.sl (Ty.i .i64)))).at v_a_Table a_Table] [R, bx b1 [v_a_Table]] (St.pick hS3 [0, 1, 2] rfl)
  refine WL.call _ (op_call fn_50 (args2 rfl rfl)) (c_laws_markInt64SSS hS8 r_k1 hx7) rfl ?_
  rintro _ wd11 ⟨rfl, hr12, hS9⟩
  have hS10 := St.pick (St.unfold [(Ty.sl (Ty.sl (Ty.sl (Ty.i .i64)))).at v_a_Table x6.2] [R, bx b1 [v_a_Table]] hS9) [0, 1, 2] rfl
  replace hS10 : St w0 wd11 [(Ty.sl (Ty.sl (Ty.sl (Ty.i .i64)))).at v_a_Table x6.2, R, bx b1 [v_a_Table]] := hS10
  refine WL.val (Value.int .i64 x6.1) _ (op_assign rfl) rfl ?_
  refine WL.nil ?_
  show W _ _ _ _ _ _
  refine W.seq ?_
  refine W.region ?_
  refine WL.val (Value.int .i64 x6.1) _ (op_move rfl) rfl ?_
  refine WL.val (Value.int .i64 x6.1) _ (op_assign rfl) rfl ?_
  refine WL.nil ?_
  show W _ _ _ _ _ _
  refine W.ret ?_
  obtain rfl := Option.some.inj h
  show FinP _ _ _ _ _ _ _
  exact FinP.ret _ (res1 rfl rfl) ⟨rfl, hr12, (St.pick hS10 [0, 1] rfl)⟩

theorem c_laws_heldInt64S {w : World} {a : (List Int)} {v_a : Value} {k1 : Int} (r_a : (Ty.sl (Ty.i .i64)).rep w v_a a) (r_k1 : InR .i64 k1) {res : Int} (h : p_laws_heldInt64S a k1  = some res) :
    Ret Try.prog 28 #[v_a, (Value.int .i64 k1)] w (fun v w' => v = Value.int .i64 res ∧ InR .i64 res ∧ Ext w w') := by
  unfold p_laws_heldInt64S at h
  have hS0 : St w w [] := St.start w
  refine Ret.start (fn := Try.f28) Try.func28 rfl 21 rfl rfl ?_
  refine W.seq ?_
  refine W.region ?_
  refine WL.val (Value.int .i64 (0 : Int)) _ (op_assign rfl) rfl ?_
  refine WL.nil ?_
  show W _ _ _ _ _ _
  refine W.seq ?_
  refine W.seq ?_
  refine W.region ?_
  refine WL.val (Value.int .i64 (0 : Int)) _ (op_assign rfl) rfl ?_
  refine WL.nil ?_
  show W _ _ _ _ _ _
  obtain ⟨res1, hres2, h⟩ := bs h
  refine W.blockLoop (fun fq wq => ∃ s, res1 = Res.fin s ∧ fq 1 = Value.int .i64 s ∧ InR .i64 s ∧ St w wq []) ?_ ?_
  · refine W.forN (fun k s fq wq => fq 0 = v_a ∧ fq 1 = Value.int .i64 s ∧ InR .i64 s ∧ fq 5 = Value.int .i64 (k : Int) ∧ InR .i64 (k : Int) ∧ St w wq []) hres2 ⟨rfl, rfl, r_k1, rfl, (inR_i64.2 (show (-9223372036854775808 : Int) ≤ 0 ∧ (0 : Int) ≤ 9223372036854775807 from by decide)), hS0⟩ ?_ ?_
    · intro k3 x4 ct5 f6 wd7 hk8 hb9 hI10 hbrk11 hret12
      replace hI10 : f6 0 = v_a ∧ f6 1 = Value.int .i64 x4 ∧ InR .i64 x4 ∧ f6 5 = Value.int .i64 (k3 : Int) ∧ InR .i64 (k3 : Int) ∧ St w wd7 [] := hI10
      replace hb9 : p_laws_heldInt64S_L1 a k3 x4 = some ct5 := hb9
      unfold p_laws_heldInt64S_L1 at hb9
      obtain ⟨hf13, hf14, hr15, hf16, hr17, hS18⟩ := hI10
      refine W.seq ?_
      refine W.seq ?_
      refine W.region ?_
      refine WL.val (Value.int .i64 (k3 : Int)) _ (op_move hf16) rfl ?_
      refine WL.val v_a _ (op_move hf13) rfl ?_
      have hr19 := inR_len (Ty.lift _ hS18.ext r_a)
      refine WL.val (Value.int .i64 ((a).length : Int)) _ (op_lenL sl_25 (Ty.lift _ hS18.ext r_a) rfl) rfl ?_
      refine WL.val (Value.bool (decide ((k3 : Int) < ((a).length : Int)))) _ (op_lss rfl rfl) rfl ?_
      have hl20 : (k3 : Int) < ((a).length : Int) := by omega
      refine WL.nil ?_
      show W _ _ _ _ _ _
      refine W.condT (decide ((k3 : Int) < ((a).length : Int))) rfl (decide_eq_true hl20) ?_
      refine W.skip ?_
      show W _ _ _ _ _ _
      refine W.seq ?_
      refine W.block ?_
      refine W.seq ?_
      refine W.seq ?_
      refine W.region ?_
      refine WL.val v_a _ (op_move hf13) rfl ?_
      refine WL.val (Value.int .i64 (k3 : Int)) _ (op_move hf16) rfl ?_
      obtain ⟨x22, hx25, hb9⟩ := bs hb9
      obtain ⟨ha23, hb24, hx25⟩ := idx_some hx25
      refine WL.val (Value.pointer (some (elA v_a ((k3 : Int)).toNat))) _ (op_idx sl_25 (Ty.lift _ hS18.ext r_a) rfl rfl ha23 hb24) rfl ?_
      obtain ⟨u26, hc27, hr28⟩ := repSl.el r_a hx25
      obtain ⟨rfl, hr28⟩ := hr28
      refine WL.val (Value.int .i64 x22) _ (op_load one_2 rfl (Ext.cell hS18.ext hc27)) rfl ?_
      refine WL.val (Value.int .i64 x4) _ (op_move hf14) rfl ?_
      refine WL.val (Value.bool (x22 != x4)) _ (op_neq rfl rfl) rfl ?_
      refine WL.nil ?_
      show W _ _ _ _ _ _
      refine W.cond (x22 != x4) rfl (fun hc29 => ?_) (fun hc29 => ?_)
      · replace hb9 := ip hb9 hc29
        refine W.seq ?_
        refine W.region ?_
        refine WL.val (Value.int .i64 (-1 : Int)) _ (op_assign rfl) rfl ?_
        refine WL.nil ?_
        show W _ _ _ _ _ _
        refine W.ret ?_
        obtain rfl := Option.some.inj hb9
        obtain rfl := hret12 _ rfl
        replace h := onRes_ret h
        obtain rfl := Option.some.inj h
        show FinP _ _ _ _ _ _ _
        exact FinP.ret _ (res1 rfl rfl) ⟨rfl, (inR_i64.2 (show (-9223372036854775808 : Int) ≤ -1 ∧ (-1 : Int) ≤ 9223372036854775807 from by decide)), hS18.ext⟩
      · replace hb9 := inegb hb9 hc29
        refine W.skip ?_
        show W _ _ _ _ _ _
        refine W.region ?_
        refine WL.val (Value.int .i64 x4) _ (op_move hf14) rfl ?_
        refine WL.val (Value.int .i64 (w64 (x4 + (1 : Int)))) _ (op_add rfl rfl) rfl ?_
        refine WL.val (Value.int .i64 (w64 (x4 + (1 : Int)))) _ (op_assign rfl) rfl ?_
        refine WL.nil ?_
        show W _ _ _ _ _ _
        refine W.region ?_
        refine WL.val (Value.int .i64 (k3 : Int)) _ (op_move hf16) rfl ?_
        refine WL.val (Value.int .i64 (w64 ((k3 : Int) + (1 : Int)))) _ (op_add rfl rfl) rfl ?_
        refine WL.val (Value.int .i64 (w64 ((k3 : Int) + (1 : Int)))) _ (op_assign rfl) rfl ?_
        refine WL.nil ?_
        obtain rfl := Option.some.inj hb9
        show ∃ s, _ = Ctl.next s ∧ _
        exact ⟨_, rfl, hf13, rfl, (inR_wrap _ _), (ctr_next hl20 hr19), (ctr_rng hl20 hr19), hS18⟩
    · intro x37 f32 wd33 hs34 hI35
      replace hI35 : f32 0 = v_a ∧ f32 1 = Value.int .i64 x37 ∧ InR .i64 x37 ∧ f32 5 = Value.int .i64 (((a).length : Nat) : Int) ∧ InR .i64 (((a).length : Nat) : Int) ∧ St w wd33 [] := hI35
      obtain ⟨hf38, hf39, hr40, hf41, hr42, hS43⟩ := hI35
      refine W.seq ?_
      refine W.seq ?_
      refine W.region ?_
      refine WL.val (Value.int .i64 (((a).length : Nat) : Int)) _ (op_move hf41) rfl ?_
      refine WL.val v_a _ (op_move hf38) rfl ?_
      have hr44 := inR_len (Ty.lift _ hS43.ext r_a)
      refine WL.val (Value.int .i64 ((a).length : Int)) _ (op_lenL sl_25 (Ty.lift _ hS43.ext r_a) rfl) rfl ?_
      refine WL.val (Value.bool (decide ((((a).length : Nat) : Int) < ((a).length : Int)))) _ (op_lss rfl rfl) rfl ?_
      have hl45 : ¬ (((a).length : Nat) : Int) < ((a).length : Int) := by omega
      refine WL.nil ?_
      show W _ _ _ _ _ _
      refine W.condF (decide ((((a).length : Nat) : Int) < ((a).length : Int))) rfl (decide_eq_false hl45) ?_
      refine W.exit ?_
      show _ = _ ∧ _
      exact ⟨rfl, _, hs34, hf39, hr40, hS43⟩
  · rintro f46 wd47 ⟨x50, rfl, hq48⟩
    replace h := onRes_fin h
    replace hq48 : f46 1 = Value.int .i64 x50 ∧ InR .i64 x50 ∧ St w wd47 [] := hq48
    obtain ⟨hf51, hr52, hS53⟩ := hq48
    show W _ _ _ _ _ _
    refine W.seq ?_
    refine W.region ?_
    refine WL.val (Value.int .i64 x50) _ (op_move hf51) rfl ?_
    refine WL.val (Value.int .i64 x50) _ (op_assign rfl) rfl ?_
    refine WL.nil ?_
    show W _ _ _ _ _ _
    refine W.ret ?_
    obtain rfl := Option.some.inj h
    show FinP _ _ _ _ _ _ _
    exact FinP.ret _ (res1 rfl rfl) ⟨rfl, hr52, hS53.ext⟩

theorem c_laws_FnExactInvertibleLabels {w : World} {aR_Table : (List (List (List Int)))} {v_aR_Table : Value} (r_aR_Table : (Ty.sl (Ty.sl (Ty.sl (Ty.i .i64)))).rep w v_aR_Table aR_Table) {res : Bool} (h : p_laws_FnExactInvertibleLabels aR_Table  = some res) :
    Ret Try.prog 8 #[(Value.agg #[v_aR_Table])] w (fun v w' => v = Value.bool res ∧ Ext w w') := by
  unfold p_laws_FnExactInvertibleLabels at h
  have hS0 : St w w [] := St.start w
  refine Ret.start (fn := Try.f8) Try.func8 rfl 96 rfl rfl ?_
  refine W.seq ?_
  refine W.region ?_
  refine WL.box hS0 rfl (cs := [v_aR_Table]) rfl rfl ?_
  intro b1 wd2 hS3 he4 hx5
  replace hS3 : St w wd2 [bx b1 [v_aR_Table]] := hS3
  have hx6 := St.boxAt hS3 0 rfl
  have hE7 : Ext w wd2 := hS3.ext
  have hS8 : St wd2 wd2 [] := St.start wd2
  refine WL.val (Value.bool false) _ (op_assign rfl) rfl ?_
  refine WL.nil ?_
  show W _ _ _ _ _ _
  refine W.seq ?_
  refine W.region ?_
  refine WL.val (Value.int .i64 (1048576 : Int)) _ (op_assign rfl) rfl ?_
  refine WL.nil ?_
  show W _ _ _ _ _ _
  refine W.seq ?_
  refine W.region ?_
  refine WL.val (Value.agg #[v_aR_Table]) _ (op_loadBox st_24 rfl (BoxAt.lift hS8.ext hx6) rfl rfl) rfl ?_
  refine WL.val (Value.int .i64 (1048576 : Int)) _ (op_move rfl) rfl ?_
  obtain ⟨x9, hx10, h⟩ := bs h
  refine WL.call _ (op_call fn_11 (args2 rfl rfl)) (c_laws_szRing (Ty.lift _ (Ext.trans hE7 hS8.ext) r_aR_Table) (inR_i64.2 (show (-9223372036854775808 : Int) ≤ 1048576 ∧ (1048576 : Int) ≤ 9223372036854775807 from by decide)) hx10) rfl ?_
  rintro _ wd12 ⟨rfl, hr11, he13⟩
  have hS15 := St.extend hS8 he13
  replace hS15 : St wd2 wd12 [] := hS15
  refine WL.val (Value.int .i64 x9) _ (op_assign rfl) rfl ?_
  refine WL.nil ?_
  show W _ _ _ _ _ _
  refine W.seq ?_
  refine W.seq ?_
  refine W.region ?_
  refine WL.val (Value.int .i64 x9) _ (op_move rfl) rfl ?_
  refine WL.val (Value.bool (decide (x9 < (0 : Int)))) _ (op_lss rfl rfl) rfl ?_
  refine WL.nil ?_
  show W _ _ _ _ _ _
  refine W.cond (decide (x9 < (0 : Int))) rfl (fun hc16 => ?_) (fun hc16 => ?_)
  · replace h := ip h hc16
    refine W.seq ?_
    refine W.region ?_
    refine WL.val (Value.bool true) _ (op_assign rfl) rfl ?_
    refine WL.nil ?_
    show W _ _ _ _ _ _
    refine W.ret ?_
    obtain rfl := Option.some.inj h
    show FinP _ _ _ _ _ _ _
    exact FinP.ret _ (res1 rfl rfl) ⟨rfl, (Ext.trans hE7 hS15.ext)⟩
  · replace h := inegb h hc16
    refine W.skip ?_
    show W _ _ _ _ _ _
    refine W.seq ?_
    refine W.region ?_
    refine WL.val (Value.agg #[v_aR_Table]) _ (op_loadBox st_24 rfl (BoxAt.lift hS15.ext hx6) rfl rfl) rfl ?_
    obtain ⟨x18, hx19, h⟩ := bs h
    refine WL.call _ (op_call fn_13 (args1 rfl)) (c_laws_toRing (Ty.lift _ (Ext.trans hE7 hS15.ext) r_aR_Table) hx19) rfl ?_
    rintro _ wd21 ⟨u20, rfl, he22, hs23⟩
    have hS24 := St.join hS15 he22 hs23
    replace hS24 : St wd2 wd21 [(Ty.sl (Ty.sl (Ty.sl (Ty.i .i64)))).at u20 x18] := hS24
    have hb25 := St.rep (t := (Ty.sl (Ty.sl (Ty.sl (Ty.i .i64))))) hS24 0 rfl
    have hE26 : Ext w wd21 := (Ext.trans hE7 hS24.ext)
    have hE27 : Ext wd2 wd21 := hS24.ext
    have hS28 : St wd21 wd21 [] := St.start wd21
    obtain ⟨x29, hx30, h⟩ := bs h
    refine WL.call _ (op_call fn_29 (args1 rfl)) (c_spec_InvertibleLabels (Ty.lift _ hS28.ext hb25) hx30) rfl ?_
    rintro _ wd33 ⟨u31, rfl, hr32, he34, hs35⟩
    have hS36 := St.join hS28 he34 hs35
    replace hS36 : St wd21 wd33 [(Ty.sl (Ty.i .i64)).at u31 x29.1] := hS36
    have hb37 := St.rep (t := (Ty.sl (Ty.i .i64))) hS36 0 rfl
    have hE38 : Ext w wd33 := (Ext.trans hE26 hS36.ext)
    have hE39 : Ext wd2 wd33 := (Ext.trans hE27 hS36.ext)
    have hE40 : Ext wd21 wd33 := hS36.ext
    have hS41 : St wd33 wd33 [] := St.start wd33
    refine WL.val (Value.tuple #[u31, (Value.int .i64 x29.2)]) _ (op_move rfl) rfl ?_
    refine WL.val u31 _ (op_extract rfl rfl) rfl ?_
    refine WL.val (Value.int .i64 x29.2) _ (op_extract rfl rfl) rfl ?_
    refine WL.val u31 _ (op_assign rfl) rfl ?_
    refine WL.val (Value.int .i64 x29.2) _ (op_assign rfl) rfl ?_
    refine WL.nil ?_
    show W _ _ _ _ _ _
    refine W.seq ?_
    refine W.region ?_
    refine WL.val (Value.agg #[v_aR_Table]) _ (op_loadBox st_24 rfl (BoxAt.lift (Ext.trans hE39 hS41.ext) hx6) rfl rfl) rfl ?_
    obtain ⟨x42, hx43, h⟩ := bs h
    refine WL.call _ (op_call fn_13 (args1 rfl)) (c_laws_toRing (Ty.lift _ (Ext.trans hE38 hS41.ext) r_aR_Table) hx43) rfl ?_
    rintro _ wd45 ⟨u44, rfl, he46, hs47⟩
    have hS48 := St.join hS41 he46 hs47
    replace hS48 : St wd33 wd45 [(Ty.sl (Ty.sl (Ty.sl (Ty.i .i64)))).at u44 x42] := hS48
    refine WL.alloc hS48 ze_29 (cs := [(Value.slice none 0 0)]) rfl rfl ?_
    intro b49 wd50 hS51 he52
    replace hS51 : St wd33 wd50 [(Ty.sl (Ty.sl (Ty.sl (Ty.i .i64)))).at u44 x42, bx b49 [(Value.slice none 0 0)]] := hS51
    refine WL.storeBox [u44] hS51 (k := 1) rfl rfl rfl (us := [u44]) rfl sz_29 rfl rfl (all_rep (St.rep (t := (Ty.sl (Ty.sl (Ty.sl (Ty.i .i64))))) hS51 0 rfl) all_nil) rfl ?_
    intro wd53 hS54
    replace hS54 : St wd33 wd53 [(Ty.sl (Ty.sl (Ty.sl (Ty.i .i64)))).at u44 x42, bx b49 [u44]] := hS54
    refine WL.nil ?_
    show W _ _ _ _ _ _
    refine W.seq ?_
    refine W.region ?_
    refine WL.val (Value.agg #[u44]) _ (op_loadBox st_29 rfl (St.boxAt hS54 1 rfl) rfl rfl) rfl ?_
    obtain ⟨x55, hx56, h⟩ := bs h
    refine WL.call _ (op_call fn_30 (args1 rfl)) (c_impl_InvertibleLabels (St.rep (t := (Ty.sl (Ty.sl (Ty.sl (Ty.i .i64))))) hS54 0 rfl) hx56) rfl ?_
    rintro _ wd59 ⟨u57, rfl, hr58, he60, hs61⟩
    have hS62 := St.join hS54 he60 hs61
    replace hS62 : St wd33 wd59 [(Ty.sl (Ty.sl (Ty.sl (Ty.i .i64)))).at u44 x42, bx b49 [u44], (Ty.sl (Ty.i .i64)).at u57 x55.1] := hS62
    refine WL.val (Value.tuple #[u57, (Value.int .i64 x55.2)]) _ (op_move rfl) rfl ?_
    refine WL.val u57 _ (op_extract rfl rfl) rfl ?_
    refine WL.val (Value.int .i64 x55.2) _ (op_extract rfl rfl) rfl ?_
    refine WL.val u57 _ (op_assign rfl) rfl ?_
    refine WL.val (Value.int .i64 x55.2) _ (op_assign rfl) rfl ?_
    refine WL.nil ?_
    show W _ _ _ _ _ _
    refine W.seq ?_
    refine W.seq ?_
    refine W.region ?_
    refine WL.val u57 _ (op_move rfl) rfl ?_
    refine WL.val u31 _ (op_move rfl) rfl ?_
    obtain ⟨x63, hx64, h⟩ := bs h
    refine WL.call _ (op_call fn_17 (args2 rfl rfl)) (c_laws_eqInt64S (St.rep (t := (Ty.sl (Ty.i .i64))) hS62 2 rfl) (Ty.lift _ hS62.ext hb37) hx64) rfl ?_
    rintro _ wd65 ⟨rfl, he66⟩
    have hS68 := St.extend hS62 he66
    replace hS68 : St wd33 wd65 [(Ty.sl (Ty.sl (Ty.sl (Ty.i .i64)))).at u44 x42, bx b49 [u44], (Ty.sl (Ty.i .i64)).at u57 x55.1] := hS68
    refine WL.val (Value.bool (!x63)) _ (op_not rfl) rfl ?_
    refine WL.val (Value.bool (!x63)) _ (op_move rfl) rfl ?_
    refine WL.cut 4 (fun fq wq => fq 1 = (Value.pointer (some ⟨b1, 0, none⟩)) ∧ fq 4 = u31 ∧ fq 5 = (Value.int .i64 x29.2) ∧ fq 6 = (Value.pointer (some ⟨b49, 0, none⟩)) ∧ fq 7 = u57 ∧ fq 8 = (Value.int .i64 x55.2) ∧ fq 40 = (Value.bool ((!x63) || (x55.2 != x29.2))) ∧ St wd33 wq [(Ty.sl (Ty.sl (Ty.sl (Ty.i .i64)))).at u44 x42, bx b49 [u44], (Ty.sl (Ty.i .i64)).at u57 x55.1]) ?_ ?_
    · rcases Bool.eq_false_or_eq_true (!x63) with hc69 | hc69
      · refine WL.gskip rfl (bool_of rfl hc69) rfl ?_
        refine WL.gskip rfl (bool_of rfl hc69) rfl ?_
        refine WL.gskip rfl (bool_of rfl hc69) rfl ?_
        refine WL.val (Value.bool true) _ (op_pick_t (evb_of rfl hc69) rfl) rfl ?_
        refine WL.nil ?_
        exact ⟨rfl, rfl, rfl, rfl, rfl, rfl, rfl, (orT hc69), hS68⟩
      · refine WL.grun rfl (bool_of rfl hc69) ?_
        refine WL.val (Value.int .i64 x55.2) _ (op_move rfl) rfl ?_
        refine WL.grun rfl (bool_of rfl hc69) ?_
        refine WL.val (Value.int .i64 x29.2) _ (op_move rfl) rfl ?_
        refine WL.grun rfl (bool_of rfl hc69) ?_
        refine WL.val (Value.bool (x55.2 != x29.2)) _ (op_neq rfl rfl) rfl ?_
        refine WL.val (Value.bool (x55.2 != x29.2)) _ (op_pick_f (evb_of rfl hc69) rfl) rfl ?_
        refine WL.nil ?_
        exact ⟨rfl, rfl, rfl, rfl, rfl, rfl, rfl, (orF hc69), hS68⟩
    · intro f70 wd71 hq72
      obtain ⟨hf73, hf74, hf75, hf76, hf77, hf78, hf79, hS80⟩ := hq72
      refine WL.nil ?_
      show W _ _ _ _ _ _
      refine W.cond ((!x63) || (x55.2 != x29.2)) hf79 (fun hc81 => ?_) (fun hc81 => ?_)
      · replace h := ip h hc81
        refine W.seq ?_
        refine W.region ?_
        refine WL.val (Value.bool false) _ (op_assign rfl) rfl ?_
        refine WL.nil ?_
        show W _ _ _ _ _ _
        refine W.ret ?_
        obtain rfl := Option.some.inj h
        show FinP _ _ _ _ _ _ _
        exact FinP.ret _ (res1 rfl rfl) ⟨rfl, (Ext.trans hE38 hS80.ext)⟩
      · replace h := inegb h hc81
        refine W.skip ?_
        show W _ _ _ _ _ _
        refine W.seq ?_
        refine W.seq ?_
        obtain ⟨x106, hx107, h⟩ := bs h
        refine W.draw mixo 3 [fun v w' => ∃ (uu0 : Value), v = (Value.agg #[uu0]) ∧ (Ty.sl (Ty.sl (Ty.sl (Ty.i .i64)))).rep w' uu0 x42, fun v w' => ∃ (uu0 : Value), v = (Value.agg #[uu0]) ∧ (Ty.sl (Ty.sl (Ty.sl (Ty.i .i64)))).rep w' uu0 aR_Table, fun v w' => ∃ (uu0 : Value), v = (Value.agg #[uu0]) ∧ (Ty.sl (Ty.sl (Ty.sl (Ty.i .i64)))).rep w' uu0 x106] (by kernel_rfl) (by kernel_rfl) (stabL ⟨(fun _ _ _ he ⟨uu0, h0, r0⟩ => ⟨uu0, h0, Ty.lift _ he r0⟩), (fun _ _ _ he ⟨uu0, h0, r0⟩ => ⟨uu0, h0, Ty.lift _ he r0⟩), (fun _ _ _ he ⟨uu0, h0, r0⟩ => ⟨uu0, h0, Ty.lift _ he r0⟩), trivial⟩) ⟨?_, ?_, ?_, trivial⟩ ?_
        · intro f83 wd84 he85 hout86 hphi87
          have hS88 : St wd33 wd84 [(Ty.sl (Ty.sl (Ty.sl (Ty.i .i64)))).at u44 x42, bx b49 [u44], (Ty.sl (Ty.i .i64)).at u57 x55.1] := St.extend hS80 he85
          have e89 : f83 6 = (Value.pointer (some ⟨b49, 0, none⟩)) := (hout86 6 rfl).trans hf76
          exact OpY.val (Value.agg #[u44]) wd84 rfl (op_loadBox st_29 e89 (St.boxAt hS88 1 rfl) rfl rfl) (Ext.refl _) ⟨u44, rfl, (St.rep (t := (Ty.sl (Ty.sl (Ty.sl (Ty.i .i64))))) hS88 0 rfl)⟩
        · intro f90 wd91 he92 hout93 hphi94
          have hS95 : St wd33 wd91 [(Ty.sl (Ty.sl (Ty.sl (Ty.i .i64)))).at u44 x42, bx b49 [u44], (Ty.sl (Ty.i .i64)).at u57 x55.1] := St.extend hS80 he92
          have e96 : f90 1 = (Value.pointer (some ⟨b1, 0, none⟩)) := (hout93 1 rfl).trans hf73
          exact OpY.val (Value.agg #[v_aR_Table]) wd91 rfl (op_loadBox st_24 e96 (BoxAt.lift (Ext.trans hE39 hS95.ext) hx6) rfl rfl) (Ext.refl _) ⟨v_aR_Table, rfl, (Ty.lift _ (Ext.trans hE38 hS95.ext) r_aR_Table)⟩
        · intro f97 wd98 he99 hout100 hphi101
          have hS102 : St wd33 wd98 [(Ty.sl (Ty.sl (Ty.sl (Ty.i .i64)))).at u44 x42, bx b49 [u44], (Ty.sl (Ty.i .i64)).at u57 x55.1] := St.extend hS80 he99
          obtain ⟨u104, e103, hr105⟩ := hphi101 1 42 _ rfl rfl rfl
          refine OpY.call rfl (op_call fn_13 (args1 e103)) (Ret.mono (c_laws_toRing hr105 hx107) ?_)
          rintro _ wd109 ⟨u108, rfl, he110, hs111⟩
          exact ⟨he110, ⟨u108, rfl, (Sep.rep (t := (Ty.sl (Ty.sl (Ty.sl (Ty.i .i64))))) hs111 0 rfl)⟩⟩
        · intro f112 wd113 he114 hout115 hphi116
          show WL _ _ _ _ _ _ _
          have hS117 : St wd33 wd113 [(Ty.sl (Ty.sl (Ty.sl (Ty.i .i64)))).at u44 x42, bx b49 [u44], (Ty.sl (Ty.i .i64)).at u57 x55.1] := St.extend hS80 he114
          obtain ⟨u119, e118, hr120⟩ := hphi116 0 41 _ (by decide) rfl rfl
          obtain ⟨u122, e121, hr123⟩ := hphi116 2 43 _ (by decide) rfl rfl
          have e124 : f112 1 = (Value.pointer (some ⟨b1, 0, none⟩)) := (hout115 1 rfl).trans hf73
          have e125 : f112 4 = u31 := (hout115 4 rfl).trans hf74
          have e126 : f112 5 = (Value.int .i64 x29.2) := (hout115 5 rfl).trans hf75
          have e127 : f112 6 = (Value.pointer (some ⟨b49, 0, none⟩)) := (hout115 6 rfl).trans hf76
          have e128 : f112 7 = u57 := (hout115 7 rfl).trans hf77
          have e129 : f112 8 = (Value.int .i64 x55.2) := (hout115 8 rfl).trans hf78
          obtain ⟨x130, hx131, h⟩ := bs h
          refine WL.call _ (op_call fn_16 (args2 e118 e121)) (c_laws_eqRing hr120 hr123 hx131) rfl ?_
          rintro _ wd132 ⟨rfl, he133⟩
          have hS135 := St.extend hS117 he133
          replace hS135 : St wd33 wd132 [(Ty.sl (Ty.sl (Ty.sl (Ty.i .i64)))).at u44 x42, bx b49 [u44], (Ty.sl (Ty.i .i64)).at u57 x55.1] := hS135
          refine WL.val (Value.bool (!x130)) _ (op_not rfl) rfl ?_
          refine WL.nil ?_
          show W _ _ _ _ _ _
          refine W.cond (!x130) rfl (fun hc136 => ?_) (fun hc136 => ?_)
          · replace h := ip h hc136
            refine W.seq ?_
            refine W.region ?_
            refine WL.val (Value.bool false) _ (op_assign rfl) rfl ?_
            refine WL.nil ?_
            show W _ _ _ _ _ _
            refine W.ret ?_
            obtain rfl := Option.some.inj h
            show FinP _ _ _ _ _ _ _
            exact FinP.ret _ (res1 rfl rfl) ⟨rfl, (Ext.trans hE38 hS135.ext)⟩
          · replace h := inegb h hc136
            refine W.skip ?_
            show W _ _ _ _ _ _
            refine W.seq ?_
            refine W.region ?_
            refine WL.val (Value.int .i64 (1 : Int)) _ (op_assign rfl) rfl ?_
            refine WL.nil ?_
            show W _ _ _ _ _ _
            refine W.seq ?_
            refine W.region ?_
            refine WL.val (Value.agg #[u44]) _ (op_loadBox st_29 e127 (St.boxAt hS135 1 rfl) rfl rfl) rfl ?_
            refine WL.val (Value.int .i64 (1 : Int)) _ (op_move rfl) rfl ?_
            obtain ⟨x138, hx139, h⟩ := bs h
            have hS140 := St.fold [(Ty.sl (Ty.sl (Ty.sl (Ty.i .i64)))).at u44 x42] [bx b49 [u44], (Ty.sl (Ty.i .i64)).at u57 x55.1] (St.pick hS135 [0, 1, 2] rfl)
            refine WL.call _ (op_call fn_26 (args2 rfl rfl)) (c_laws_markRing hS140 (inR_i64.2 (show (-9223372036854775808 : Int) ≤ 1 ∧ (1 : Int) ≤ 9223372036854775807 from by decide)) hx139) rfl ?_
            rintro _ wd143 ⟨rfl, hr144, hS141⟩
            have hS142 := St.pick (St.unfold [(Ty.sl (Ty.sl (Ty.sl (Ty.i .i64)))).at u44 x138.2] [bx b49 [u44], (Ty.sl (Ty.i .i64)).at u57 x55.1] hS141) [0, 1, 2] rfl
            replace hS142 : St wd33 wd143 [(Ty.sl (Ty.sl (Ty.sl (Ty.i .i64)))).at u44 x138.2, bx b49 [u44], (Ty.sl (Ty.i .i64)).at u57 x55.1] := hS142
            refine WL.val (Value.int .i64 x138.1) _ (op_assign rfl) rfl ?_
            refine WL.nil ?_
            show W _ _ _ _ _ _
            refine W.seq ?_
            refine W.seq ?_
            refine W.region ?_
            refine WL.val (Value.int .i64 x138.1) _ (op_move rfl) rfl ?_
            refine WL.val (Value.bool (decide (x138.1 < (0 : Int)))) _ (op_lss rfl rfl) rfl ?_
            refine WL.val (Value.bool (decide (x138.1 < (0 : Int)))) _ (op_move rfl) rfl ?_
            obtain ⟨x146, hj147, h⟩ := bs h
            refine WL.cut 5 (fun fq wq => fq 1 = (Value.pointer (some ⟨b1, 0, none⟩)) ∧ fq 4 = u31 ∧ fq 5 = (Value.int .i64 x29.2) ∧ fq 7 = u57 ∧ fq 8 = (Value.int .i64 x55.2) ∧ fq 56 = Value.bool x146 ∧ St wd33 wq [(Ty.sl (Ty.i .i64)).at u57 x55.1]) ?_ ?_
            · rcases Bool.eq_false_or_eq_true (decide (x138.1 < (0 : Int))) with hc145 | hc145
              · replace hj147 := ip hj147 hc145
                refine WL.gskip rfl (bool_of rfl hc145) rfl ?_
                refine WL.gskip rfl (bool_of rfl hc145) rfl ?_
                refine WL.gskip rfl (bool_of rfl hc145) rfl ?_
                refine WL.gskip rfl (bool_of rfl hc145) rfl ?_
                refine WL.val (Value.bool true) _ (op_pick_t (evb_of rfl hc145) rfl) rfl ?_
                refine WL.nil ?_
                obtain rfl := Option.some.inj hj147
                exact ⟨rfl, e124, e125, e126, e128, e129, rfl, (St.pick hS142 [2] rfl)⟩
              · replace hj147 := inegb hj147 hc145
                refine WL.grun rfl (bool_of rfl hc145) ?_
                refine WL.val u57 _ (op_move e128) rfl ?_
                refine WL.grun rfl (bool_of rfl hc145) ?_
                refine WL.val u31 _ (op_move e125) rfl ?_
                refine WL.grun rfl (bool_of rfl hc145) ?_
                obtain ⟨x151, hx152, hj147⟩ := bs hj147
                refine WL.call _ (op_call fn_17 (args2 rfl rfl)) (c_laws_eqInt64S (St.rep (t := (Ty.sl (Ty.i .i64))) hS142 2 rfl) (Ty.lift _ hS142.ext hb37) hx152) rfl ?_
                rintro _ wd153 ⟨rfl, he154⟩
                have hS156 := St.extend hS142 he154
                replace hS156 : St wd33 wd153 [(Ty.sl (Ty.sl (Ty.sl (Ty.i .i64)))).at u44 x138.2, bx b49 [u44], (Ty.sl (Ty.i .i64)).at u57 x55.1] := hS156
                refine WL.grun rfl (bool_of rfl hc145) ?_
                refine WL.val (Value.bool (!x151)) _ (op_not rfl) rfl ?_
                refine WL.val (Value.bool (!x151)) _ (op_pick_f (evb_of rfl hc145) rfl) rfl ?_
                refine WL.nil ?_
                obtain rfl := Option.some.inj hj147
                exact ⟨rfl, e124, e125, e126, e128, e129, rfl, (St.pick hS156 [2] rfl)⟩
            · intro f148 wd149 hq150
              obtain ⟨hf157, hf158, hf159, hf160, hf161, hf162, hS163⟩ := hq150
              refine WL.val (Value.bool x146) _ (op_move hf162) rfl ?_
              refine WL.cut 4 (fun fq wq => fq 1 = (Value.pointer (some ⟨b1, 0, none⟩)) ∧ fq 4 = u31 ∧ fq 5 = (Value.int .i64 x29.2) ∧ fq 7 = u57 ∧ fq 61 = (Value.bool (x146 || (x55.2 != x29.2))) ∧ St wd33 wq [(Ty.sl (Ty.i .i64)).at u57 x55.1]) ?_ ?_
              · rcases Bool.eq_false_or_eq_true x146 with hc164 | hc164
                · refine WL.gskip rfl (bool_of rfl hc164) rfl ?_
                  refine WL.gskip rfl (bool_of rfl hc164) rfl ?_
                  refine WL.gskip rfl (bool_of rfl hc164) rfl ?_
                  refine WL.val (Value.bool true) _ (op_pick_t (evb_of rfl hc164) rfl) rfl ?_
                  refine WL.nil ?_
                  exact ⟨rfl, hf157, hf158, hf159, hf160, (orT hc164), hS163⟩
                · refine WL.grun rfl (bool_of rfl hc164) ?_
                  refine WL.val (Value.int .i64 x55.2) _ (op_move hf161) rfl ?_
                  refine WL.grun rfl (bool_of rfl hc164) ?_
                  refine WL.val (Value.int .i64 x29.2) _ (op_move hf159) rfl ?_
                  refine WL.grun rfl (bool_of rfl hc164) ?_
                  refine WL.val (Value.bool (x55.2 != x29.2)) _ (op_neq rfl rfl) rfl ?_
                  refine WL.val (Value.bool (x55.2 != x29.2)) _ (op_pick_f (evb_of rfl hc164) rfl) rfl ?_
                  refine WL.nil ?_
                  exact ⟨rfl, hf157, hf158, hf159, hf160, (orF hc164), hS163⟩
              · intro f165 wd166 hq167
                obtain ⟨hf168, hf169, hf170, hf171, hf172, hS173⟩ := hq167
                refine WL.nil ?_
                show W _ _ _ _ _ _
                refine W.cond (x146 || (x55.2 != x29.2)) hf172 (fun hc174 => ?_) (fun hc174 => ?_)
                · replace h := ip h hc174
                  refine W.seq ?_
                  refine W.region ?_
                  refine WL.val (Value.bool false) _ (op_assign rfl) rfl ?_
                  refine WL.nil ?_
                  show W _ _ _ _ _ _
                  refine W.ret ?_
                  obtain rfl := Option.some.inj h
                  show FinP _ _ _ _ _ _ _
                  exact FinP.ret _ (res1 rfl rfl) ⟨rfl, (Ext.trans hE38 hS173.ext)⟩
                · replace h := inegb h hc174
                  refine W.skip ?_
                  show W _ _ _ _ _ _
                  refine W.seq ?_
                  refine W.region ?_
                  refine WL.val (Value.int .i64 (1 : Int)) _ (op_assign rfl) rfl ?_
                  refine WL.nil ?_
                  show W _ _ _ _ _ _
                  refine W.seq ?_
                  refine W.region ?_
                  refine WL.val u57 _ (op_move hf171) rfl ?_
                  refine WL.val (Value.int .i64 (1 : Int)) _ (op_move rfl) rfl ?_
                  obtain ⟨x176, hx177, h⟩ := bs h
                  have hS178 := St.fold [(Ty.sl (Ty.i .i64)).at u57 x55.1] [] (St.pick hS173 [0] rfl)
                  refine WL.call _ (op_call fn_27 (args2 rfl rfl)) (c_laws_markInt64S hS178 (inR_i64.2 (show (-9223372036854775808 : Int) ≤ 1 ∧ (1 : Int) ≤ 9223372036854775807 from by decide)) hx177) rfl ?_
                  rintro _ wd181 ⟨rfl, hr182, hS179⟩
                  have hS180 := St.pick (St.unfold [(Ty.sl (Ty.i .i64)).at u57 x176.2] [] hS179) [0] rfl
                  replace hS180 : St wd33 wd181 [(Ty.sl (Ty.i .i64)).at u57 x176.2] := hS180
                  refine WL.val (Value.int .i64 x176.1) _ (op_assign rfl) rfl ?_
                  refine WL.nil ?_
                  show W _ _ _ _ _ _
                  refine W.seq ?_
                  refine W.region ?_
                  refine WL.val (Value.int .i64 (1 : Int)) _ (op_assign rfl) rfl ?_
                  refine WL.nil ?_
                  show W _ _ _ _ _ _
                  refine W.seq ?_
                  refine W.region ?_
                  refine WL.val u57 _ (op_move hf171) rfl ?_
                  refine WL.val (Value.int .i64 (1 : Int)) _ (op_move rfl) rfl ?_
                  obtain ⟨x183, hx184, h⟩ := bs h
                  refine WL.call _ (op_call fn_28 (args2 rfl rfl)) (c_laws_heldInt64S (St.rep (t := (Ty.sl (Ty.i .i64))) hS180 0 rfl) (inR_i64.2 (show (-9223372036854775808 : Int) ≤ 1 ∧ (1 : Int) ≤ 9223372036854775807 from by decide)) hx184) rfl ?_
                  rintro _ wd186 ⟨rfl, hr185, he187⟩
                  have hS189 := St.extend hS180 he187
                  replace hS189 : St wd33 wd186 [(Ty.sl (Ty.i .i64)).at u57 x176.2] := hS189
                  refine WL.val (Value.int .i64 x183) _ (op_assign rfl) rfl ?_
                  refine WL.nil ?_
                  show W _ _ _ _ _ _
                  refine W.seq ?_
                  refine W.seq ?_
                  refine W.region ?_
                  refine WL.val (Value.int .i64 x183) _ (op_move rfl) rfl ?_
                  refine WL.val (Value.bool (decide (x183 < (0 : Int)))) _ (op_lss rfl rfl) rfl ?_
                  refine WL.nil ?_
                  show W _ _ _ _ _ _
                  refine W.cond (decide (x183 < (0 : Int))) rfl (fun hc190 => ?_) (fun hc190 => ?_)
                  · replace h := ip h hc190
                    refine W.seq ?_
                    refine W.region ?_
                    refine WL.val (Value.bool false) _ (op_assign rfl) rfl ?_
                    refine WL.nil ?_
                    show W _ _ _ _ _ _
                    refine W.ret ?_
                    obtain rfl := Option.some.inj h
                    show FinP _ _ _ _ _ _ _
                    exact FinP.ret _ (res1 rfl rfl) ⟨rfl, (Ext.trans hE38 hS189.ext)⟩
                  · replace h := inegb h hc190
                    refine W.skip ?_
                    show W _ _ _ _ _ _
                    refine W.seq ?_
                    refine W.seq ?_
                    refine W.region ?_
                    refine WL.val (Value.int .i64 x183) _ (op_move rfl) rfl ?_
                    refine WL.val (Value.int .i64 x176.1) _ (op_move rfl) rfl ?_
                    refine WL.val (Value.bool (x183 != x176.1)) _ (op_neq rfl rfl) rfl ?_
                    refine WL.nil ?_
                    show W _ _ _ _ _ _
                    refine W.cond (x183 != x176.1) rfl (fun hc192 => ?_) (fun hc192 => ?_)
                    · replace h := ip h hc192
                      refine W.seq ?_
                      refine W.region ?_
                      refine WL.val (Value.bool false) _ (op_assign rfl) rfl ?_
                      refine WL.nil ?_
                      show W _ _ _ _ _ _
                      refine W.ret ?_
                      obtain rfl := Option.some.inj h
                      show FinP _ _ _ _ _ _ _
                      exact FinP.ret _ (res1 rfl rfl) ⟨rfl, (Ext.trans hE38 hS189.ext)⟩
                    · replace h := inegb h hc192
                      refine W.skip ?_
                      show W _ _ _ _ _ _
                      refine W.seq ?_
                      refine W.region ?_
                      refine WL.val (Value.agg #[v_aR_Table]) _ (op_loadBox st_24 hf168 (BoxAt.lift (Ext.trans hE39 hS189.ext) hx6) rfl rfl) rfl ?_
                      obtain ⟨x194, hx195, h⟩ := bs h
                      refine WL.call _ (op_call fn_13 (args1 rfl)) (c_laws_toRing (Ty.lift _ (Ext.trans hE38 hS189.ext) r_aR_Table) hx195) rfl ?_
                      rintro _ wd197 ⟨u196, rfl, he198, hs199⟩
                      have hS200 := St.join hS189 he198 hs199
                      replace hS200 : St wd33 wd197 [(Ty.sl (Ty.i .i64)).at u57 x176.2, (Ty.sl (Ty.sl (Ty.sl (Ty.i .i64)))).at u196 x194] := hS200
                      obtain ⟨x201, hx202, h⟩ := bs h
                      refine WL.call _ (op_call fn_30 (args1 rfl)) (c_impl_InvertibleLabels (St.rep (t := (Ty.sl (Ty.sl (Ty.sl (Ty.i .i64))))) hS200 1 rfl) hx202) rfl ?_
                      rintro _ wd205 ⟨u203, rfl, hr204, he206, hs207⟩
                      have hS208 := St.join hS200 he206 hs207
                      replace hS208 : St wd33 wd205 [(Ty.sl (Ty.i .i64)).at u57 x176.2, (Ty.sl (Ty.sl (Ty.sl (Ty.i .i64)))).at u196 x194, (Ty.sl (Ty.i .i64)).at u203 x201.1] := hS208
                      refine WL.val (Value.tuple #[u203, (Value.int .i64 x201.2)]) _ (op_move rfl) rfl ?_
                      refine WL.val u203 _ (op_extract rfl rfl) rfl ?_
                      refine WL.val (Value.int .i64 x201.2) _ (op_extract rfl rfl) rfl ?_
                      refine WL.val u203 _ (op_assign rfl) rfl ?_
                      refine WL.val (Value.int .i64 x201.2) _ (op_assign rfl) rfl ?_
                      refine WL.nil ?_
                      show W _ _ _ _ _ _
                      refine W.seq ?_
                      refine W.seq ?_
                      refine W.region ?_
                      refine WL.val u203 _ (op_move rfl) rfl ?_
                      refine WL.val u31 _ (op_move hf169) rfl ?_
                      obtain ⟨x209, hx210, h⟩ := bs h
                      refine WL.call _ (op_call fn_17 (args2 rfl rfl)) (c_laws_eqInt64S (St.rep (t := (Ty.sl (Ty.i .i64))) hS208 2 rfl) (Ty.lift _ hS208.ext hb37) hx210) rfl ?_
                      rintro _ wd211 ⟨rfl, he212⟩
                      have hS214 := St.extend hS208 he212
                      replace hS214 : St wd33 wd211 [(Ty.sl (Ty.i .i64)).at u57 x176.2, (Ty.sl (Ty.sl (Ty.sl (Ty.i .i64)))).at u196 x194, (Ty.sl (Ty.i .i64)).at u203 x201.1] := hS214
                      refine WL.val (Value.bool (!x209)) _ (op_not rfl) rfl ?_
                      refine WL.val (Value.bool (!x209)) _ (op_move rfl) rfl ?_
                      refine WL.cut 4 (fun fq wq => fq 7 = u57 ∧ fq 10 = (Value.int .i64 x176.1) ∧ fq 87 = (Value.bool ((!x209) || (x201.2 != x29.2))) ∧ St wd33 wq [(Ty.sl (Ty.i .i64)).at u57 x176.2]) ?_ ?_
                      · rcases Bool.eq_false_or_eq_true (!x209) with hc215 | hc215
                        · refine WL.gskip rfl (bool_of rfl hc215) rfl ?_
                          refine WL.gskip rfl (bool_of rfl hc215) rfl ?_
                          refine WL.gskip rfl (bool_of rfl hc215) rfl ?_
                          refine WL.val (Value.bool true) _ (op_pick_t (evb_of rfl hc215) rfl) rfl ?_
                          refine WL.nil ?_
                          exact ⟨rfl, hf171, rfl, (orT hc215), (St.pick hS214 [0] rfl)⟩
                        · refine WL.grun rfl (bool_of rfl hc215) ?_
                          refine WL.val (Value.int .i64 x201.2) _ (op_move rfl) rfl ?_
                          refine WL.grun rfl (bool_of rfl hc215) ?_
                          refine WL.val (Value.int .i64 x29.2) _ (op_move hf170) rfl ?_
                          refine WL.grun rfl (bool_of rfl hc215) ?_
                          refine WL.val (Value.bool (x201.2 != x29.2)) _ (op_neq rfl rfl) rfl ?_
                          refine WL.val (Value.bool (x201.2 != x29.2)) _ (op_pick_f (evb_of rfl hc215) rfl) rfl ?_
                          refine WL.nil ?_
                          exact ⟨rfl, hf171, rfl, (orF hc215), (St.pick hS214 [0] rfl)⟩
                      · intro f216 wd217 hq218
                        obtain ⟨hf219, hf220, hf221, hS222⟩ := hq218
                        refine WL.nil ?_
                        show W _ _ _ _ _ _
                        refine W.cond ((!x209) || (x201.2 != x29.2)) hf221 (fun hc223 => ?_) (fun hc223 => ?_)
                        · replace h := ip h hc223
                          refine W.seq ?_
                          refine W.region ?_
                          refine WL.val (Value.bool false) _ (op_assign rfl) rfl ?_
                          refine WL.nil ?_
                          show W _ _ _ _ _ _
                          refine W.ret ?_
                          obtain rfl := Option.some.inj h
                          show FinP _ _ _ _ _ _ _
                          exact FinP.ret _ (res1 rfl rfl) ⟨rfl, (Ext.trans hE38 hS222.ext)⟩
                        · replace h := inegb h hc223
                          refine W.skip ?_
                          show W _ _ _ _ _ _
                          refine W.seq ?_
                          refine W.region ?_
                          refine WL.val (Value.int .i64 (1 : Int)) _ (op_assign rfl) rfl ?_
                          refine WL.nil ?_
                          show W _ _ _ _ _ _
                          refine W.seq ?_
                          refine W.region ?_
                          refine WL.val u57 _ (op_move hf219) rfl ?_
                          refine WL.val (Value.int .i64 (1 : Int)) _ (op_move rfl) rfl ?_
                          obtain ⟨x225, hx226, h⟩ := bs h
                          refine WL.call _ (op_call fn_28 (args2 rfl rfl)) (c_laws_heldInt64S (St.rep (t := (Ty.sl (Ty.i .i64))) hS222 0 rfl) (inR_i64.2 (show (-9223372036854775808 : Int) ≤ 1 ∧ (1 : Int) ≤ 9223372036854775807 from by decide)) hx226) rfl ?_
                          rintro _ wd228 ⟨rfl, hr227, he229⟩
                          have hS231 := St.extend hS222 he229
                          replace hS231 : St wd33 wd228 [(Ty.sl (Ty.i .i64)).at u57 x176.2] := hS231
                          refine WL.val (Value.int .i64 x225) _ (op_assign rfl) rfl ?_
                          refine WL.nil ?_
                          show W _ _ _ _ _ _
                          refine W.seq ?_
                          refine W.seq ?_
                          refine W.region ?_
                          refine WL.val (Value.int .i64 x225) _ (op_move rfl) rfl ?_
                          refine WL.val (Value.bool (decide (x225 < (0 : Int)))) _ (op_lss rfl rfl) rfl ?_
                          refine WL.nil ?_
                          show W _ _ _ _ _ _
                          refine W.cond (decide (x225 < (0 : Int))) rfl (fun hc232 => ?_) (fun hc232 => ?_)
                          · replace h := ip h hc232
                            refine W.seq ?_
                            refine W.region ?_
                            refine WL.val (Value.bool false) _ (op_assign rfl) rfl ?_
                            refine WL.nil ?_
                            show W _ _ _ _ _ _
                            refine W.ret ?_
                            obtain rfl := Option.some.inj h
                            show FinP _ _ _ _ _ _ _
                            exact FinP.ret _ (res1 rfl rfl) ⟨rfl, (Ext.trans hE38 hS231.ext)⟩
                          · replace h := inegb h hc232
                            refine W.skip ?_
                            show W _ _ _ _ _ _
                            refine W.seq ?_
                            refine W.seq ?_
                            refine W.region ?_
                            refine WL.val (Value.int .i64 x225) _ (op_move rfl) rfl ?_
                            refine WL.val (Value.int .i64 x176.1) _ (op_move hf220) rfl ?_
                            refine WL.val (Value.bool (x225 != x176.1)) _ (op_neq rfl rfl) rfl ?_
                            refine WL.nil ?_
                            show W _ _ _ _ _ _
                            refine W.cond (x225 != x176.1) rfl (fun hc234 => ?_) (fun hc234 => ?_)
                            · replace h := ip h hc234
                              refine W.seq ?_
                              refine W.region ?_
                              refine WL.val (Value.bool false) _ (op_assign rfl) rfl ?_
                              refine WL.nil ?_
                              show W _ _ _ _ _ _
                              refine W.ret ?_
                              obtain rfl := Option.some.inj h
                              show FinP _ _ _ _ _ _ _
                              exact FinP.ret _ (res1 rfl rfl) ⟨rfl, (Ext.trans hE38 hS231.ext)⟩
                            · replace h := inegb h hc234
                              refine W.skip ?_
                              show W _ _ _ _ _ _
                              refine W.seq ?_
                              refine W.region ?_
                              refine WL.val (Value.bool true) _ (op_assign rfl) rfl ?_
                              refine WL.nil ?_
                              show W _ _ _ _ _ _
                              refine W.ret ?_
                              obtain rfl := Option.some.inj h
                              show FinP _ _ _ _ _ _ _
                              exact FinP.ret _ (res1 rfl rfl) ⟨rfl, (Ext.trans hE38 hS231.ext)⟩

end Go.VG
