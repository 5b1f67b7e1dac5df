/- The walks, part 3: each Go function returns what its plain twin returns. No condition beyond what each names. -/
import Derived.Test.YtppnedfpdobgiaaGWalk2
set_option linter.all false
namespace Go.VG
open Go.Proofs
attribute [local irreducible] W WL Sep FinP

theorem c_slices_Equal_Lint64_int64 {w : World} {s1 : (List Int)} {v_s1 : Value} {s2 : (List Int)} {v_s2 : Value} (r_s1 : (Ty.sl (Ty.i .i64)).rep w v_s1 s1) (r_s2 : (Ty.sl (Ty.i .i64)).rep w v_s2 s2) {res : Bool} (h : p_slices_Equal_Lint64_int64 s1 s2  = some res) :
    Ret Try.prog 75 #[v_s1, v_s2] w (fun v w' => v = Value.bool res ∧ Ext w w') := by
  unfold p_slices_Equal_Lint64_int64 at h
  have hS0 : St w w [] := St.start w
  refine Ret.start (fn := Try.f75) Try.func75 rfl 26 rfl rfl ?_
  refine W.seq ?_
  refine W.region ?_
  refine WL.val (Value.bool false) _ (op_assign rfl) rfl ?_
  refine WL.nil ?_
  show W _ _ _ _ _ _
  refine W.seq ?_
  refine W.seq ?_
  refine W.region ?_
  refine WL.val v_s1 _ (op_move rfl) rfl ?_
  have hr1 := inR_len (Ty.lift _ hS0.ext r_s1)
  refine WL.val (Value.int .i64 ((s1).length : Int)) _ (op_lenL sl_25 (Ty.lift _ hS0.ext r_s1) rfl) rfl ?_
  refine WL.val v_s2 _ (op_move rfl) rfl ?_
  have hr2 := inR_len (Ty.lift _ hS0.ext r_s2)
  refine WL.val (Value.int .i64 ((s2).length : Int)) _ (op_lenL sl_25 (Ty.lift _ hS0.ext r_s2) rfl) rfl ?_
  refine WL.val (Value.bool (((s1).length : Int) != ((s2).length : Int))) _ (op_neq rfl rfl) rfl ?_
  refine WL.nil ?_
  show W _ _ _ _ _ _
  refine W.cond (((s1).length : Int) != ((s2).length : Int)) rfl (fun hc3 => ?_) (fun hc3 => ?_)
  · replace h := ip h hc3
    refine W.seq ?_
    refine W.region ?_
    refine WL.val (Value.bool false) _ (op_assign rfl) rfl ?_
    refine WL.nil ?_
    show W _ _ _ _ _ _
    refine W.ret ?_
    obtain rfl := Option.some.inj h
    show FinP _ _ _ _ _ _ _
    exact FinP.ret _ (res1 rfl rfl) ⟨rfl, hS0.ext⟩
  · replace h := inegb h hc3
    refine W.skip ?_
    show W _ _ _ _ _ _
    refine W.seq ?_
    refine W.seq ?_
    refine W.region ?_
    refine WL.val v_s1 _ (op_move rfl) rfl ?_
    have hr5 := inR_len (Ty.lift _ hS0.ext r_s1)
    refine WL.val (Value.int .i64 ((s1).length : Int)) _ (op_lenL sl_25 (Ty.lift _ hS0.ext r_s1) rfl) rfl ?_
    refine WL.val (Value.int .i64 (0 : Int)) _ (op_move rfl) rfl ?_
    refine WL.nil ?_
    show W _ _ _ _ _ _
    obtain ⟨res6, hres7, h⟩ := bs h
    refine W.blockLoop (fun fq wq => ∃ s, res6 = Res.fin s ∧ St w wq []) ?_ ?_
    · refine W.forN (fun k s fq wq => fq 0 = v_s1 ∧ fq 1 = v_s2 ∧ fq 12 = (Value.int .i64 ((s1).length : Int)) ∧ fq 13 = Value.int .i64 (k : Int) ∧ InR .i64 (k : Int) ∧ St w wq []) hres7 ⟨rfl, rfl, rfl, rfl, (inR_i64.2 (show (-9223372036854775808 : Int) ≤ 0 ∧ (0 : Int) ≤ 9223372036854775807 from by decide)), hS0⟩ ?_ ?_
      · intro k8 s115 ct9 f10 wd11 hk12 hb13 hI14 hbrk15 hret16
        obtain ⟨⟩ := s115
        replace hI14 : f10 0 = v_s1 ∧ f10 1 = v_s2 ∧ f10 12 = (Value.int .i64 ((s1).length : Int)) ∧ f10 13 = Value.int .i64 (k8 : Int) ∧ InR .i64 (k8 : Int) ∧ St w wd11 [] := hI14
        replace hb13 : p_slices_Equal_Lint64_int64_L1 s1 s2 k8  = some ct9 := hb13
        unfold p_slices_Equal_Lint64_int64_L1 at hb13
        obtain ⟨hf17, hf18, hf19, hf20, hr21, hS22⟩ := hI14
        refine W.seq ?_
        refine W.region ?_
        refine WL.val (Value.bool (decide ((k8 : Int) < ((s1).length : Int)))) _ (op_lss hf20 hf19) rfl ?_
        have hl23 : (k8 : Int) < ((s1).length : Int) := by omega
        refine WL.nil ?_
        show W _ _ _ _ _ _
        refine W.seq ?_
        refine W.condT (decide ((k8 : Int) < ((s1).length : Int))) rfl (decide_eq_true hl23) ?_
        refine W.skip ?_
        show W _ _ _ _ _ _
        refine W.seq ?_
        refine W.block ?_
        refine W.seq ?_
        refine W.region ?_
        refine WL.val (Value.int .i64 (k8 : Int)) _ (op_move hf20) rfl ?_
        refine WL.val (Value.int .i64 (k8 : Int)) _ (op_assign rfl) rfl ?_
        refine WL.nil ?_
        show W _ _ _ _ _ _
        refine W.seq ?_
        obtain ⟨x48, hx51, hb13⟩ := bs hb13
        obtain ⟨ha49, hb50, hx51⟩ := idx_some hx51
        obtain ⟨u59, hc60, hr61⟩ := repSl.el r_s1 hx51
        obtain ⟨rfl, hr61⟩ := hr61
        obtain ⟨x85, hx88, hb13⟩ := bs hb13
        obtain ⟨ha86, hb87, hx88⟩ := idx_some hx88
        obtain ⟨u96, hc97, hr98⟩ := repSl.el r_s2 hx88
        obtain ⟨rfl, hr98⟩ := hr98
        refine W.draw mixo 8 [fun v _ => v = v_s1, fun v _ => v = (Value.int .i64 (k8 : Int)) ∧ InR .i64 (k8 : Int), fun v _ => v = (Value.pointer (some (elA v_s1 ((k8 : Int)).toNat))), fun v _ => v = (Value.int .i64 x48) ∧ InR .i64 x48, fun v _ => v = v_s2, fun v _ => v = (Value.int .i64 (k8 : Int)) ∧ InR .i64 (k8 : Int), fun v _ => v = (Value.pointer (some (elA v_s2 ((k8 : Int)).toNat))), fun v _ => v = (Value.int .i64 x85) ∧ InR .i64 x85] (by kernel_rfl) (by kernel_rfl) (stabL ⟨(fun _ _ _ _ h => h), (fun _ _ _ _ h => h), (fun _ _ _ _ h => h), (fun _ _ _ _ h => h), (fun _ _ _ _ h => h), (fun _ _ _ _ h => h), (fun _ _ _ _ h => h), (fun _ _ _ _ h => h), trivial⟩) ⟨?_, ?_, ?_, ?_, ?_, ?_, ?_, ?_, trivial⟩ ?_
        · intro f25 wd26 he27 hout28 hphi29
          have hS30 : St w wd26 [] := St.extend hS22 he27
          have e31 : f25 0 = v_s1 := (hout28 0 rfl).trans hf17
          exact OpY.val v_s1 wd26 rfl (op_move e31) (Ext.refl _) rfl
        · intro f32 wd33 he34 hout35 hphi36
          have hS37 : St w wd33 [] := St.extend hS22 he34
          have e38 : f32 5 = (Value.int .i64 (k8 : Int)) := (hout35 5 rfl).trans rfl
          exact OpY.val (Value.int .i64 (k8 : Int)) wd33 rfl (op_move e38) (Ext.refl _) ⟨rfl, hr21⟩
        · intro f39 wd40 he41 hout42 hphi43
          have hS44 : St w wd40 [] := St.extend hS22 he41
          have e45 : f39 16 = v_s1 := hphi43 0 16 _ rfl rfl rfl
          obtain ⟨e46, hr47⟩ : f39 17 = (Value.int .i64 (k8 : Int)) ∧ InR .i64 (k8 : Int) := hphi43 1 17 _ rfl rfl rfl
          exact OpY.val (Value.pointer (some (elA v_s1 ((k8 : Int)).toNat))) wd40 rfl (op_idx sl_25 (Ty.lift _ hS44.ext r_s1) e45 e46 ha49 hb50) (Ext.refl _) rfl
        · intro f52 wd53 he54 hout55 hphi56
          have hS57 : St w wd53 [] := St.extend hS22 he54
          have e58 : f52 18 = (Value.pointer (some (elA v_s1 ((k8 : Int)).toNat))) := hphi56 2 18 _ rfl rfl rfl
          exact OpY.val (Value.int .i64 x48) wd53 rfl (op_load one_2 e58 (Ext.cell hS57.ext hc60)) (Ext.refl _) ⟨rfl, hr61⟩
        · intro f62 wd63 he64 hout65 hphi66
          have hS67 : St w wd63 [] := St.extend hS22 he64
          have e68 : f62 1 = v_s2 := (hout65 1 rfl).trans hf18
          exact OpY.val v_s2 wd63 rfl (op_move e68) (Ext.refl _) rfl
        · intro f69 wd70 he71 hout72 hphi73
          have hS74 : St w wd70 [] := St.extend hS22 he71
          have e75 : f69 5 = (Value.int .i64 (k8 : Int)) := (hout72 5 rfl).trans rfl
          exact OpY.val (Value.int .i64 (k8 : Int)) wd70 rfl (op_move e75) (Ext.refl _) ⟨rfl, hr21⟩
        · intro f76 wd77 he78 hout79 hphi80
          have hS81 : St w wd77 [] := St.extend hS22 he78
          have e82 : f76 20 = v_s2 := hphi80 4 20 _ rfl rfl rfl
          obtain ⟨e83, hr84⟩ : f76 21 = (Value.int .i64 (k8 : Int)) ∧ InR .i64 (k8 : Int) := hphi80 5 21 _ rfl rfl rfl
          exact OpY.val (Value.pointer (some (elA v_s2 ((k8 : Int)).toNat))) wd77 rfl (op_idx sl_25 (Ty.lift _ hS81.ext r_s2) e82 e83 ha86 hb87) (Ext.refl _) rfl
        · intro f89 wd90 he91 hout92 hphi93
          have hS94 : St w wd90 [] := St.extend hS22 he91
          have e95 : f89 22 = (Value.pointer (some (elA v_s2 ((k8 : Int)).toNat))) := hphi93 6 22 _ rfl rfl rfl
          exact OpY.val (Value.int .i64 x85) wd90 rfl (op_load one_2 e95 (Ext.cell hS94.ext hc97)) (Ext.refl _) ⟨rfl, hr98⟩
        · intro f99 wd100 he101 hout102 hphi103
          show WL _ _ _ _ _ _ _
          have hS104 : St w wd100 [] := St.extend hS22 he101
          obtain ⟨e105, hr106⟩ : f99 19 = (Value.int .i64 x48) ∧ InR .i64 x48 := hphi103 3 19 _ (by decide) rfl rfl
          obtain ⟨e107, hr108⟩ : f99 23 = (Value.int .i64 x85) ∧ InR .i64 x85 := hphi103 7 23 _ (by decide) rfl rfl
          have e109 : f99 0 = v_s1 := (hout102 0 rfl).trans hf17
          have e110 : f99 1 = v_s2 := (hout102 1 rfl).trans hf18
          have e111 : f99 12 = (Value.int .i64 ((s1).length : Int)) := (hout102 12 rfl).trans hf19
          have e112 : f99 13 = (Value.int .i64 (k8 : Int)) := (hout102 13 rfl).trans hf20
          refine WL.val (Value.bool (x48 != x85)) _ (op_neq e105 e107) rfl ?_
          refine WL.nil ?_
          show W _ _ _ _ _ _
          refine W.cond (x48 != x85) rfl (fun hc113 => ?_) (fun hc113 => ?_)
          · replace hb13 := ip hb13 hc113
            refine W.seq ?_
            refine W.region ?_
            refine WL.val (Value.bool false) _ (op_assign rfl) rfl ?_
            refine WL.nil ?_
            show W _ _ _ _ _ _
            refine W.ret ?_
            obtain rfl := Option.some.inj hb13
            obtain rfl := hret16 _ rfl
            replace h := onRes_ret h
            obtain rfl := Option.some.inj h
            show FinP _ _ _ _ _ _ _
            exact FinP.ret _ (res1 rfl rfl) ⟨rfl, hS104.ext⟩
          · replace hb13 := inegb hb13 hc113
            refine W.skip ?_
            show W _ _ _ _ _ _
            refine W.region ?_
            refine WL.val (Value.int .i64 (w64 ((k8 : Int) + (1 : Int)))) _ (op_add e112 rfl) rfl ?_
            refine WL.val (Value.int .i64 (w64 ((k8 : Int) + (1 : Int)))) _ (op_move rfl) rfl ?_
            refine WL.nil ?_
            obtain rfl := Option.some.inj hb13
            show ∃ s, _ = Ctl.next s ∧ _
            exact ⟨_, rfl, e109, e110, e111, (ctr_next hl23 hr5), (ctr_rng hl23 hr5), hS104⟩
      · intro s120 f116 wd117 hs118 hI119
        obtain ⟨⟩ := s120
        replace hI119 : f116 0 = v_s1 ∧ f116 1 = v_s2 ∧ f116 12 = (Value.int .i64 ((s1).length : Int)) ∧ f116 13 = Value.int .i64 (((s1).length : Nat) : Int) ∧ InR .i64 (((s1).length : Nat) : Int) ∧ St w wd117 [] := hI119
        obtain ⟨hf121, hf122, hf123, hf124, hr125, hS126⟩ := hI119
        refine W.seq ?_
        refine W.region ?_
        refine WL.val (Value.bool (decide ((((s1).length : Nat) : Int) < ((s1).length : Int)))) _ (op_lss hf124 hf123) rfl ?_
        have hl127 : ¬ (((s1).length : Nat) : Int) < ((s1).length : Int) := by omega
        refine WL.nil ?_
        show W _ _ _ _ _ _
        refine W.seq ?_
        refine W.condF (decide ((((s1).length : Nat) : Int) < ((s1).length : Int))) rfl (decide_eq_false hl127) ?_
        refine W.exit ?_
        show _ = _ ∧ _
        exact ⟨rfl, _, hs118, hS126⟩
    · rintro f128 wd129 ⟨s131, rfl, hq130⟩
      replace h := onRes_fin h
      obtain ⟨⟩ := s131
      replace hq130 : St w wd129 [] := hq130
      have hS132 := hq130
      show W _ _ _ _ _ _
      refine W.seq ?_
      refine W.region ?_
      refine WL.val (Value.bool true) _ (op_assign rfl) rfl ?_
      refine WL.nil ?_
      show W _ _ _ _ _ _
      refine W.ret ?_
      obtain rfl := Option.some.inj h
      show FinP _ _ _ _ _ _ _
      exact FinP.ret _ (res1 rfl rfl) ⟨rfl, hS132.ext⟩

theorem c_impl_Ring_isInvertible {w : World} {r_Table : (List (List (List Int)))} {v_r_Table : Value} {i : Int} (r_r_Table : (Ty.sl (Ty.sl (Ty.sl (Ty.i .i64)))).rep w v_r_Table r_Table) (r_i : InR .i64 i) {res : Bool} (h : p_impl_Ring_isInvertible r_Table i  = some res) :
    Ret Try.prog 51 #[(Value.agg #[v_r_Table]), (Value.int .i64 i)] w (fun v w' => v = Value.bool res ∧ Ext w w') := by
  unfold p_impl_Ring_isInvertible at h
  have hS0 : St w w [] := St.start w
  refine Ret.start (fn := Try.f51) Try.func51 rfl 18 rfl rfl ?_
  refine W.seq ?_
  refine W.region ?_
  refine WL.box hS0 rfl (cs := [v_r_Table]) rfl rfl ?_
  intro b1 wd2 hS3 he4 hx5
  replace hS3 : St w wd2 [bx b1 [v_r_Table]] := hS3
  have hx6 := St.boxAt hS3 0 rfl
  have hE7 : Ext w wd2 := hS3.ext
  have hS8 : St wd2 wd2 [] := St.start wd2
  refine WL.val (Value.bool false) _ (op_assign rfl) rfl ?_
  refine WL.nil ?_
  show W _ _ _ _ _ _
  refine W.seq ?_
  obtain ⟨x39, hx42, h⟩ := bs h
  obtain ⟨ha40, hb41, hx42⟩ := idx_some hx42
  obtain ⟨u50, hc51, hr52⟩ := repSl.el r_r_Table hx42
  obtain ⟨x78, hx79, h⟩ := bs h
  obtain ⟨x93, hx96, h⟩ := bs h
  obtain ⟨ha94, hb95, hx96⟩ := idx_some hx96
  obtain ⟨u104, hc105, hr106⟩ := repSl.el hr52 hx96
  obtain ⟨x123, hx124, h⟩ := bs h
  refine W.draw mixo 12 [fun v _ => v = (Value.pointer (some ⟨b1, 0, none⟩)), fun v _ => v = v_r_Table, fun v _ => v = (Value.int .i64 i) ∧ InR .i64 i, fun v _ => v = (Value.pointer (some (elA v_r_Table (i).toNat))), fun v _ => v = u50, fun v w' => ∃ (uu0 : Value), v = (Value.agg #[uu0]) ∧ (Ty.sl (Ty.sl (Ty.sl (Ty.i .i64)))).rep w' uu0 r_Table, fun v _ => v = (Value.int .i64 i) ∧ InR .i64 i, fun v _ => v = (Value.int .i64 x78) ∧ InR .i64 x78, fun v _ => v = (Value.pointer (some (elA u50 (x78).toNat))), fun v _ => v = u104, fun v w' => ∃ (uu0 : Value), v = (Value.agg #[uu0]) ∧ (Ty.sl (Ty.sl (Ty.sl (Ty.i .i64)))).rep w' uu0 r_Table, fun v w' => (Ty.sl (Ty.i .i64)).rep w' v x123] (by kernel_rfl) (by kernel_rfl) (stabL ⟨(fun _ _ _ _ h => h), (fun _ _ _ _ h => h), (fun _ _ _ _ h => h), (fun _ _ _ _ h => h), (fun _ _ _ _ h => h), (fun _ _ _ he ⟨uu0, h0, r0⟩ => ⟨uu0, h0, Ty.lift _ he r0⟩), (fun _ _ _ _ h => h), (fun _ _ _ _ h => h), (fun _ _ _ _ h => h), (fun _ _ _ _ h => h), (fun _ _ _ he ⟨uu0, h0, r0⟩ => ⟨uu0, h0, Ty.lift _ he r0⟩), (fun _ _ _ he h => Ty.lift _ he h), trivial⟩) ⟨?_, ?_, ?_, ?_, ?_, ?_, ?_, ?_, ?_, ?_, ?_, ?_, trivial⟩ ?_
  · intro f9 wd10 he11 hout12 hphi13
    have hS14 : St wd2 wd10 [] := St.extend hS8 he11
    have e15 : f9 2 = (Value.pointer (some ⟨b1, 0, none⟩)) := (hout12 2 rfl).trans rfl
    exact OpY.val (Value.pointer (some ⟨b1, 0, none⟩)) wd10 rfl (op_fieldAddr fd_29_0 e15) (Ext.refl _) rfl
  · intro f16 wd17 he18 hout19 hphi20
    have hS21 : St wd2 wd17 [] := St.extend hS8 he18
    have e22 : f16 5 = (Value.pointer (some ⟨b1, 0, none⟩)) := hphi20 0 5 _ rfl rfl rfl
    exact OpY.val v_r_Table wd17 rfl (op_load one_22 e22 (BoxAt.cell (BoxAt.lift hS21.ext hx6) rfl)) (Ext.refl _) rfl
  · intro f23 wd24 he25 hout26 hphi27
    have hS28 : St wd2 wd24 [] := St.extend hS8 he25
    have e29 : f23 1 = (Value.int .i64 i) := (hout26 1 rfl).trans rfl
    exact OpY.val (Value.int .i64 i) wd24 rfl (op_move e29) (Ext.refl _) ⟨rfl, r_i⟩
  · intro f30 wd31 he32 hout33 hphi34
    have hS35 : St wd2 wd31 [] := St.extend hS8 he32
    have e36 : f30 6 = v_r_Table := hphi34 1 6 _ rfl rfl rfl
    obtain ⟨e37, hr38⟩ : f30 7 = (Value.int .i64 i) ∧ InR .i64 i := hphi34 2 7 _ rfl rfl rfl
    exact OpY.val (Value.pointer (some (elA v_r_Table (i).toNat))) wd31 rfl (op_idx sl_22 (Ty.lift _ (Ext.trans hE7 hS35.ext) r_r_Table) e36 e37 ha40 hb41) (Ext.refl _) rfl
  · intro f43 wd44 he45 hout46 hphi47
    have hS48 : St wd2 wd44 [] := St.extend hS8 he45
    have e49 : f43 8 = (Value.pointer (some (elA v_r_Table (i).toNat))) := hphi47 3 8 _ rfl rfl rfl
    exact OpY.val u50 wd44 rfl (op_load one_61 e49 (Ext.cell (Ext.trans hE7 hS48.ext) hc51)) (Ext.refl _) rfl
  · intro f53 wd54 he55 hout56 hphi57
    have hS58 : St wd2 wd54 [] := St.extend hS8 he55
    have e59 : f53 2 = (Value.pointer (some ⟨b1, 0, none⟩)) := (hout56 2 rfl).trans rfl
    exact OpY.val (Value.agg #[v_r_Table]) wd54 rfl (op_loadBox st_29 e59 (BoxAt.lift hS58.ext hx6) rfl rfl) (Ext.refl _) ⟨v_r_Table, rfl, (Ty.lift _ (Ext.trans hE7 hS58.ext) r_r_Table)⟩
  · intro f60 wd61 he62 hout63 hphi64
    have hS65 : St wd2 wd61 [] := St.extend hS8 he62
    have e66 : f60 1 = (Value.int .i64 i) := (hout63 1 rfl).trans rfl
    exact OpY.val (Value.int .i64 i) wd61 rfl (op_move e66) (Ext.refl _) ⟨rfl, r_i⟩
  · intro f67 wd68 he69 hout70 hphi71
    have hS72 : St wd2 wd68 [] := St.extend hS8 he69
    obtain ⟨u74, e73, hr75⟩ := hphi71 5 10 _ rfl rfl rfl
    obtain ⟨e76, hr77⟩ : f67 11 = (Value.int .i64 i) ∧ InR .i64 i := hphi71 6 11 _ rfl rfl rfl
    refine OpY.call rfl (op_call fn_76 (args2 e73 e76)) (Ret.mono (c_impl_Ring_onlyOf hr75 hr77 hx79) ?_)
    rintro _ wd81 ⟨rfl, hr80, he82⟩
    exact ⟨he82, ⟨rfl, hr80⟩⟩
  · intro f84 wd85 he86 hout87 hphi88
    have hS89 : St wd2 wd85 [] := St.extend hS8 he86
    have e90 : f84 9 = u50 := hphi88 4 9 _ rfl rfl rfl
    obtain ⟨e91, hr92⟩ : f84 12 = (Value.int .i64 x78) ∧ InR .i64 x78 := hphi88 7 12 _ rfl rfl rfl
    exact OpY.val (Value.pointer (some (elA u50 (x78).toNat))) wd85 rfl (op_idx sl_61 (Ty.lift _ (Ext.trans hE7 hS89.ext) hr52) e90 e91 ha94 hb95) (Ext.refl _) rfl
  · intro f97 wd98 he99 hout100 hphi101
    have hS102 : St wd2 wd98 [] := St.extend hS8 he99
    have e103 : f97 13 = (Value.pointer (some (elA u50 (x78).toNat))) := hphi101 8 13 _ rfl rfl rfl
    exact OpY.val u104 wd98 rfl (op_load one_25 e103 (Ext.cell (Ext.trans hE7 hS102.ext) hc105)) (Ext.refl _) rfl
  · intro f107 wd108 he109 hout110 hphi111
    have hS112 : St wd2 wd108 [] := St.extend hS8 he109
    have e113 : f107 2 = (Value.pointer (some ⟨b1, 0, none⟩)) := (hout110 2 rfl).trans rfl
    exact OpY.val (Value.agg #[v_r_Table]) wd108 rfl (op_loadBox st_29 e113 (BoxAt.lift hS112.ext hx6) rfl rfl) (Ext.refl _) ⟨v_r_Table, rfl, (Ty.lift _ (Ext.trans hE7 hS112.ext) r_r_Table)⟩
  · intro f114 wd115 he116 hout117 hphi118
    have hS119 : St wd2 wd115 [] := St.extend hS8 he116
    obtain ⟨u121, e120, hr122⟩ := hphi118 10 15 _ rfl rfl rfl
    refine OpY.call rfl (op_call fn_60 (args2 e120 rfl)) (Ret.mono (c_impl_Ring_vectorOf hr122 (inR_i64.2 (show (-9223372036854775808 : Int) ≤ 0 ∧ (0 : Int) ≤ 9223372036854775807 from by decide)) hx124) ?_)
    rintro u125 wd126 ⟨_, rfl, he127, hs128⟩
    exact ⟨he127, (Sep.rep (t := (Ty.sl (Ty.i .i64))) hs128 0 rfl)⟩
  · intro f129 wd130 he131 hout132 hphi133
    show WL _ _ _ _ _ _ _
    have hS134 : St wd2 wd130 [] := St.extend hS8 he131
    have e135 : f129 14 = u104 := hphi133 9 14 _ (by decide) rfl rfl
    have e136 : (Ty.sl (Ty.i .i64)).rep wd130 (f129 16) x123 := hphi133 11 16 _ (by decide) rfl rfl
    obtain ⟨x137, hx138, h⟩ := bs h
    refine WL.call _ (op_call fn_75 (args2 e135 rfl)) (c_slices_Equal_Lint64_int64 (Ty.lift _ (Ext.trans hE7 hS134.ext) hr106) e136 hx138) rfl ?_
    rintro _ wd139 ⟨rfl, he140⟩
    have hS142 := St.extend hS134 he140
    replace hS142 : St wd2 wd139 [] := hS142
    refine WL.val (Value.bool x137) _ (op_assign rfl) rfl ?_
    refine WL.nil ?_
    show W _ _ _ _ _ _
    refine W.ret ?_
    obtain rfl := Option.some.inj h
    show FinP _ _ _ _ _ _ _
    exact FinP.ret _ (res1 rfl rfl) ⟨rfl, (Ext.trans hE7 hS142.ext)⟩

theorem c_impl_InvertibleLabels {w : World} {r_Table : (List (List (List Int)))} {v_r_Table : Value} (r_r_Table : (Ty.sl (Ty.sl (Ty.sl (Ty.i .i64)))).rep w v_r_Table r_Table) {res : (List Int) × Int} (h : p_impl_InvertibleLabels r_Table  = some res) :
    Ret Try.prog 30 #[(Value.agg #[v_r_Table])] w (fun v w' => ∃ (u0 : Value), v = (Value.tuple #[u0, Value.int .i64 res.2]) ∧ InR .i64 res.2 ∧ Ext w w' ∧ Sep w.heap.size w' [(Ty.sl (Ty.i .i64)).at u0 res.1]) := by
  unfold p_impl_InvertibleLabels at h
  have hS0 : St w w [] := St.start w
  refine Ret.start (fn := Try.f30) Try.func30 rfl 25 rfl rfl ?_
  refine W.seq ?_
  refine W.region ?_
  refine WL.box hS0 rfl (cs := [v_r_Table]) rfl rfl ?_
  intro b1 wd2 hS3 he4 hx5
  replace hS3 : St w wd2 [bx b1 [v_r_Table]] := hS3
  have hx6 := St.boxAt hS3 0 rfl
  have hE7 : Ext w wd2 := hS3.ext
  have hS8 : St wd2 wd2 [] := St.start wd2
  refine WL.val (Value.slice none 0 0) _ (op_assign rfl) rfl ?_
  refine WL.val (Value.int .i64 (0 : Int)) _ (op_assign rfl) rfl ?_
  refine WL.nil ?_
  show W _ _ _ _ _ _
  refine W.seq ?_
  refine W.seq ?_
  refine W.region ?_
  refine WL.val (Value.agg #[v_r_Table]) _ (op_loadBox st_29 rfl (BoxAt.lift hS8.ext hx6) rfl rfl) rfl ?_
  obtain ⟨x9, hx10, h⟩ := bs h
  refine WL.call _ (op_call fn_41 (args1 rfl)) (c_impl_IsRing (Ty.lift _ (Ext.trans hE7 hS8.ext) r_r_Table) hx10) rfl ?_
  rintro _ wd11 ⟨rfl, he12⟩
  have hS14 := St.extend hS8 he12
  replace hS14 : St wd2 wd11 [] := hS14
  refine WL.val (Value.bool (!x9)) _ (op_not rfl) rfl ?_
  refine WL.nil ?_
  show W _ _ _ _ _ _
  refine W.cond (!x9) rfl (fun hc15 => ?_) (fun hc15 => ?_)
  · replace h := ip h hc15
    refine W.seq ?_
    refine W.region ?_
    refine WL.val (Value.slice none 0 0) _ (op_assign rfl) rfl ?_
    refine WL.val (Value.int .i64 (1 : Int)) _ (op_assign rfl) rfl ?_
    refine WL.nil ?_
    show W _ _ _ _ _ _
    refine W.ret ?_
    obtain rfl := Option.some.inj h
    show FinP _ _ _ _ _ _ _
    exact FinP.ret _ (res2 rfl rfl rfl) ⟨(Value.slice none 0 0), rfl, (inR_i64.2 (show (-9223372036854775808 : Int) ≤ 1 ∧ (1 : Int) ≤ 9223372036854775807 from by decide)), (Ext.trans hE7 hS14.ext), (St.out (St.pick (St.addNil (Ty.i .i64) hS14) [0] rfl) (hE7))⟩
  · replace h := inegb h hc15
    refine W.skip ?_
    show W _ _ _ _ _ _
    refine W.seq ?_
    refine W.region ?_
    refine WL.lit0 (t := (Ty.i .i64)) hS14 sl_25 rfl rfl ?_
    intro u17 wd18 hS19 he20
    replace hS19 : St wd2 wd18 [(Ty.sl (Ty.i .i64)).at u17 ([] : (List Int))] := hS19
    refine WL.val u17 _ (op_assign rfl) rfl ?_
    refine WL.nil ?_
    show W _ _ _ _ _ _
    refine W.seq ?_
    refine W.seq ?_
    refine W.region ?_
    refine WL.val (Value.pointer (some ⟨b1, 0, none⟩)) _ (op_fieldAddr fd_29_0 rfl) rfl ?_
    refine WL.val v_r_Table _ (op_load one_22 rfl (BoxAt.cell (BoxAt.lift hS19.ext hx6) rfl)) rfl ?_
    have hr21 := inR_len (Ty.lift _ (Ext.trans hE7 hS19.ext) r_r_Table)
    refine WL.val (Value.int .i64 ((r_Table).length : Int)) _ (op_lenL sl_22 (Ty.lift _ (Ext.trans hE7 hS19.ext) r_r_Table) rfl) rfl ?_
    refine WL.val (Value.int .i64 (0 : Int)) _ (op_move rfl) rfl ?_
    refine WL.nil ?_
    show W _ _ _ _ _ _
    obtain ⟨res22, hres23, h⟩ := bs h
    refine W.blockLoop (fun fq wq => ∃ s, res22 = Res.fin s ∧ ∃ (uu0 : Value), fq 4 = uu0 ∧ St wd2 wq [(Ty.sl (Ty.i .i64)).at uu0 s]) ?_ ?_
    · refine W.forN (fun k s fq wq => ∃ (uu0 : Value), fq 1 = (Value.pointer (some ⟨b1, 0, none⟩)) ∧ fq 4 = uu0 ∧ fq 12 = (Value.int .i64 ((r_Table).length : Int)) ∧ fq 13 = Value.int .i64 (k : Int) ∧ InR .i64 (k : Int) ∧ St wd2 wq [(Ty.sl (Ty.i .i64)).at uu0 s]) hres23 ⟨u17, rfl, rfl, rfl, rfl, (inR_i64.2 (show (-9223372036854775808 : Int) ≤ 0 ∧ (0 : Int) ≤ 9223372036854775807 from by decide)), hS19⟩ ?_ ?_
      · intro k24 x25 ct26 f27 wd28 hk29 hb30 hI31 hbrk32 hret33
        replace hI31 : ∃ (uu0 : Value), f27 1 = (Value.pointer (some ⟨b1, 0, none⟩)) ∧ f27 4 = uu0 ∧ f27 12 = (Value.int .i64 ((r_Table).length : Int)) ∧ f27 13 = Value.int .i64 (k24 : Int) ∧ InR .i64 (k24 : Int) ∧ St wd2 wd28 [(Ty.sl (Ty.i .i64)).at uu0 x25] := hI31
        replace hb30 : p_impl_InvertibleLabels_L1 r_Table k24 x25 = some ct26 := hb30
        unfold p_impl_InvertibleLabels_L1 at hb30
        obtain ⟨u34, hf35, hf36, hf37, hf38, hr39, hS40⟩ := hI31
        refine W.seq ?_
        refine W.region ?_
        refine WL.val (Value.bool (decide ((k24 : Int) < ((r_Table).length : Int)))) _ (op_lss hf38 hf37) rfl ?_
        have hl41 : (k24 : Int) < ((r_Table).length : Int) := by omega
        refine WL.nil ?_
        show W _ _ _ _ _ _
        refine W.seq ?_
        refine W.condT (decide ((k24 : Int) < ((r_Table).length : Int))) rfl (decide_eq_true hl41) ?_
        refine W.skip ?_
        show W _ _ _ _ _ _
        refine W.seq ?_
        refine W.block ?_
        refine W.seq ?_
        refine W.region ?_
        refine WL.val (Value.int .i64 (k24 : Int)) _ (op_move hf38) rfl ?_
        refine WL.val (Value.int .i64 (k24 : Int)) _ (op_assign rfl) rfl ?_
        refine WL.nil ?_
        show W _ _ _ _ _ _
        refine W.seq ?_
        refine W.region ?_
        refine WL.val (Value.agg #[v_r_Table]) _ (op_loadBox st_29 hf35 (BoxAt.lift hS40.ext hx6) rfl rfl) rfl ?_
        refine WL.val (Value.int .i64 (k24 : Int)) _ (op_move rfl) rfl ?_
        obtain ⟨x43, hx44, hb30⟩ := bs hb30
        refine WL.call _ (op_call fn_51 (args2 rfl rfl)) (c_impl_Ring_isInvertible (Ty.lift _ (Ext.trans hE7 hS40.ext) r_r_Table) hr39 hx44) rfl ?_
        rintro _ wd45 ⟨rfl, he46⟩
        have hS48 := St.extend hS40 he46
        replace hS48 : St wd2 wd45 [(Ty.sl (Ty.i .i64)).at u34 x25] := hS48
        refine WL.nil ?_
        show W _ _ _ _ _ _
        obtain ⟨x49, hj50, hb30⟩ := bs hb30
        refine W.cutCode (fun fq wq => ∃ (uu0 : Value), fq 1 = (Value.pointer (some ⟨b1, 0, none⟩)) ∧ fq 4 = uu0 ∧ fq 12 = (Value.int .i64 ((r_Table).length : Int)) ∧ fq 13 = (Value.int .i64 (k24 : Int)) ∧ St wd2 wq [(Ty.sl (Ty.i .i64)).at uu0 x49]) ?_ ?_
        · refine W.cond x43 rfl (fun hc51 => ?_) (fun hc51 => ?_)
          · replace hj50 := ip hj50 hc51
            refine W.region ?_
            refine WL.val u34 _ (op_move hf36) rfl ?_
            refine WL.val (Value.int .i64 (k24 : Int)) _ (op_move rfl) rfl ?_
            refine WL.litFlat (t := (Ty.i .i64)) (flat_i .i64) [(Value.int .i64 (k24 : Int))] [(k24 : Int)] hS48 sl_25 rfl rfl (fillL rfl ⟨rfl, rfl, rfl, trivial⟩) rfl rfl (litL ⟨⟨rfl, hr39⟩, trivial⟩) rfl ?_
            intro u52 wd53 hS54 he55
            replace hS54 : St wd2 wd53 [(Ty.sl (Ty.i .i64)).at u34 x25, (Ty.sl (Ty.i .i64)).at u52 ([(k24 : Int)] : (List Int))] := hS54
            obtain ⟨x56, hx57, hj50⟩ := bs hj50
            refine WL.append (flat_i .i64) hS54 (k := 0) rfl sl_25 rfl rfl rfl rfl (St.rep (t := (Ty.sl (Ty.i .i64))) hS54 1 rfl) hx57 rfl ?_
            intro u58 wd59 hS60 hz61
            replace hS60 : St wd2 wd59 [(Ty.sl (Ty.i .i64)).at u58 x56, (Ty.sl (Ty.i .i64)).at u52 ([(k24 : Int)] : (List Int))] := hS60
            refine WL.val u58 _ (op_assign rfl) rfl ?_
            refine WL.nil ?_
            obtain rfl := Option.some.inj hj50
            exact ⟨u58, hf35, rfl, hf37, hf38, (St.pick hS60 [0] rfl)⟩
          · replace hj50 := inegb hj50 hc51
            refine W.skip ?_
            obtain rfl := Option.some.inj hj50
            exact ⟨u34, hf35, hf36, hf37, hf38, hS48⟩
        · intro f62 wd63 hq64
          obtain ⟨u65, hf66, hf67, hf68, hf69, hS70⟩ := hq64
          show W _ _ _ _ _ _
          refine W.region ?_
          refine WL.val (Value.int .i64 (w64 ((k24 : Int) + (1 : Int)))) _ (op_add hf69 rfl) rfl ?_
          refine WL.val (Value.int .i64 (w64 ((k24 : Int) + (1 : Int)))) _ (op_move rfl) rfl ?_
          refine WL.nil ?_
          obtain rfl := Option.some.inj hb30
          show ∃ s, _ = Ctl.next s ∧ _
          exact ⟨_, rfl, u65, hf66, hf67, hf68, (ctr_next hl41 hr21), (ctr_rng hl41 hr21), hS70⟩
      · intro x77 f72 wd73 hs74 hI75
        replace hI75 : ∃ (uu0 : Value), f72 1 = (Value.pointer (some ⟨b1, 0, none⟩)) ∧ f72 4 = uu0 ∧ f72 12 = (Value.int .i64 ((r_Table).length : Int)) ∧ f72 13 = Value.int .i64 (((r_Table).length : Nat) : Int) ∧ InR .i64 (((r_Table).length : Nat) : Int) ∧ St wd2 wd73 [(Ty.sl (Ty.i .i64)).at uu0 x77] := hI75
        obtain ⟨u78, hf79, hf80, hf81, hf82, hr83, hS84⟩ := hI75
        refine W.seq ?_
        refine W.region ?_
        refine WL.val (Value.bool (decide ((((r_Table).length : Nat) : Int) < ((r_Table).length : Int)))) _ (op_lss hf82 hf81) rfl ?_
        have hl85 : ¬ (((r_Table).length : Nat) : Int) < ((r_Table).length : Int) := by omega
        refine WL.nil ?_
        show W _ _ _ _ _ _
        refine W.seq ?_
        refine W.condF (decide ((((r_Table).length : Nat) : Int) < ((r_Table).length : Int))) rfl (decide_eq_false hl85) ?_
        refine W.exit ?_
        show _ = _ ∧ _
        exact ⟨rfl, _, hs74, u78, hf80, hS84⟩
    · rintro f86 wd87 ⟨x90, rfl, hq88⟩
      replace h := onRes_fin h
      replace hq88 : ∃ (uu0 : Value), f86 4 = uu0 ∧ St wd2 wd87 [(Ty.sl (Ty.i .i64)).at uu0 x90] := hq88
      obtain ⟨u91, hf92, hS93⟩ := hq88
      show W _ _ _ _ _ _
      refine W.seq ?_
      refine W.region ?_
      refine WL.val u91 _ (op_move hf92) rfl ?_
      refine WL.val u91 _ (op_assign rfl) rfl ?_
      refine WL.val (Value.int .i64 (0 : Int)) _ (op_assign rfl) rfl ?_
      refine WL.nil ?_
      show W _ _ _ _ _ _
      refine W.ret ?_
      obtain rfl := Option.some.inj h
      show FinP _ _ _ _ _ _ _
      exact FinP.ret _ (res2 rfl rfl rfl) ⟨u91, rfl, (inR_i64.2 (show (-9223372036854775808 : Int) ≤ 0 ∧ (0 : Int) ≤ 9223372036854775807 from by decide)), (Ext.trans hE7 hS93.ext), (St.out (St.pick hS93 [0] rfl) (hE7))⟩

theorem c_spec_InvertibleLabels {w : World} {r_Table : (List (List (List Int)))} {v_r_Table : Value} (r_r_Table : (Ty.sl (Ty.sl (Ty.sl (Ty.i .i64)))).rep w v_r_Table r_Table) {res : (List Int) × Int} (h : p_spec_InvertibleLabels r_Table  = some res) :
    Ret Try.prog 29 #[(Value.agg #[v_r_Table])] w (fun v w' => ∃ (u0 : Value), v = (Value.tuple #[u0, Value.int .i64 res.2]) ∧ InR .i64 res.2 ∧ Ext w w' ∧ Sep w.heap.size w' [(Ty.sl (Ty.i .i64)).at u0 res.1]) := by
  unfold p_spec_InvertibleLabels at h
  have hS0 : St w w [] := St.start w
  refine Ret.start (fn := Try.f29) Try.func29 rfl 25 rfl rfl ?_
  refine W.seq ?_
  refine W.region ?_
  refine WL.box hS0 rfl (cs := [v_r_Table]) rfl rfl ?_
  intro b1 wd2 hS3 he4 hx5
  replace hS3 : St w wd2 [bx b1 [v_r_Table]] := hS3
  have hx6 := St.boxAt hS3 0 rfl
  have hE7 : Ext w wd2 := hS3.ext
  have hS8 : St wd2 wd2 [] := St.start wd2
  refine WL.val (Value.slice none 0 0) _ (op_assign rfl) rfl ?_
  refine WL.val (Value.int .i64 (0 : Int)) _ (op_assign rfl) rfl ?_
  refine WL.nil ?_
  show W _ _ _ _ _ _
  refine W.seq ?_
  refine W.seq ?_
  refine W.region ?_
  refine WL.val (Value.agg #[v_r_Table]) _ (op_loadBox st_29 rfl (BoxAt.lift hS8.ext hx6) rfl rfl) rfl ?_
  obtain ⟨x9, hx10, h⟩ := bs h
  refine WL.call _ (op_call fn_37 (args1 rfl)) (c_spec_l03Is (Ty.lift _ (Ext.trans hE7 hS8.ext) r_r_Table) hx10) rfl ?_
  rintro _ wd11 ⟨rfl, he12⟩
  have hS14 := St.extend hS8 he12
  replace hS14 : St wd2 wd11 [] := hS14
  refine WL.val (Value.bool (!x9)) _ (op_not rfl) rfl ?_
  refine WL.nil ?_
  show W _ _ _ _ _ _
  refine W.cond (!x9) rfl (fun hc15 => ?_) (fun hc15 => ?_)
  · replace h := ip h hc15
    refine W.seq ?_
    refine W.region ?_
    refine WL.val (Value.slice none 0 0) _ (op_assign rfl) rfl ?_
    refine WL.val (Value.int .i64 (1 : Int)) _ (op_assign rfl) rfl ?_
    refine WL.nil ?_
    show W _ _ _ _ _ _
    refine W.ret ?_
    obtain rfl := Option.some.inj h
    show FinP _ _ _ _ _ _ _
    exact FinP.ret _ (res2 rfl rfl rfl) ⟨(Value.slice none 0 0), rfl, (inR_i64.2 (show (-9223372036854775808 : Int) ≤ 1 ∧ (1 : Int) ≤ 9223372036854775807 from by decide)), (Ext.trans hE7 hS14.ext), (St.out (St.pick (St.addNil (Ty.i .i64) hS14) [0] rfl) (hE7))⟩
  · replace h := inegb h hc15
    refine W.skip ?_
    show W _ _ _ _ _ _
    refine W.seq ?_
    refine W.region ?_
    refine WL.lit0 (t := (Ty.i .i64)) hS14 sl_25 rfl rfl ?_
    intro u17 wd18 hS19 he20
    replace hS19 : St wd2 wd18 [(Ty.sl (Ty.i .i64)).at u17 ([] : (List Int))] := hS19
    refine WL.val u17 _ (op_assign rfl) rfl ?_
    refine WL.nil ?_
    show W _ _ _ _ _ _
    refine W.seq ?_
    refine W.seq ?_
    refine W.region ?_
    refine WL.val (Value.int .i64 (0 : Int)) _ (op_assign rfl) rfl ?_
    refine WL.nil ?_
    show W _ _ _ _ _ _
    obtain ⟨res21, hres22, h⟩ := bs h
    refine W.blockLoop (fun fq wq => ∃ s, res21 = Res.fin s ∧ ∃ (uu0 : Value), fq 4 = uu0 ∧ St wd2 wq [(Ty.sl (Ty.i .i64)).at uu0 s]) ?_ ?_
    · refine W.forN (fun k s fq wq => ∃ (uu0 : Value), fq 1 = (Value.pointer (some ⟨b1, 0, none⟩)) ∧ fq 4 = uu0 ∧ fq 5 = Value.int .i64 (k : Int) ∧ InR .i64 (k : Int) ∧ St wd2 wq [(Ty.sl (Ty.i .i64)).at uu0 s]) hres22 ⟨u17, rfl, rfl, rfl, (inR_i64.2 (show (-9223372036854775808 : Int) ≤ 0 ∧ (0 : Int) ≤ 9223372036854775807 from by decide)), hS19⟩ ?_ ?_
      · intro k23 x24 ct25 f26 wd27 hk28 hb29 hI30 hbrk31 hret32
        replace hI30 : ∃ (uu0 : Value), f26 1 = (Value.pointer (some ⟨b1, 0, none⟩)) ∧ f26 4 = uu0 ∧ f26 5 = Value.int .i64 (k23 : Int) ∧ InR .i64 (k23 : Int) ∧ St wd2 wd27 [(Ty.sl (Ty.i .i64)).at uu0 x24] := hI30
        replace hb29 : p_spec_InvertibleLabels_L1 r_Table k23 x24 = some ct25 := hb29
        unfold p_spec_InvertibleLabels_L1 at hb29
        obtain ⟨u33, hf34, hf35, hf36, hr37, hS38⟩ := hI30
        refine W.seq ?_
        refine W.seq ?_
        refine W.region ?_
        refine WL.val (Value.int .i64 (k23 : Int)) _ (op_move hf36) rfl ?_
        refine WL.val (Value.pointer (some ⟨b1, 0, none⟩)) _ (op_fieldAddr fd_29_0 hf34) rfl ?_
        refine WL.val v_r_Table _ (op_load one_22 rfl (BoxAt.cell (BoxAt.lift hS38.ext hx6) rfl)) rfl ?_
        have hr39 := inR_len (Ty.lift _ (Ext.trans hE7 hS38.ext) r_r_Table)
        refine WL.val (Value.int .i64 ((r_Table).length : Int)) _ (op_lenL sl_22 (Ty.lift _ (Ext.trans hE7 hS38.ext) r_r_Table) rfl) rfl ?_
        refine WL.val (Value.bool (decide ((k23 : Int) < ((r_Table).length : Int)))) _ (op_lss rfl rfl) rfl ?_
        have hl40 : (k23 : Int) < ((r_Table).length : Int) := by omega
        refine WL.nil ?_
        show W _ _ _ _ _ _
        refine W.condT (decide ((k23 : Int) < ((r_Table).length : Int))) rfl (decide_eq_true hl40) ?_
        refine W.skip ?_
        show W _ _ _ _ _ _
        refine W.seq ?_
        refine W.block ?_
        refine W.seq ?_
        refine W.region ?_
        refine WL.val (Value.agg #[v_r_Table]) _ (op_loadBox st_29 hf34 (BoxAt.lift hS38.ext hx6) rfl rfl) rfl ?_
        refine WL.val (Value.int .i64 (k23 : Int)) _ (op_move hf36) rfl ?_
        obtain ⟨x42, hx43, hb29⟩ := bs hb29
        refine WL.call _ (op_call fn_45 (args2 rfl rfl)) (c_spec_l04Invertible (Ty.lift _ (Ext.trans hE7 hS38.ext) r_r_Table) hr37 hx43) rfl ?_
        rintro _ wd44 ⟨rfl, he45⟩
        have hS47 := St.extend hS38 he45
        replace hS47 : St wd2 wd44 [(Ty.sl (Ty.i .i64)).at u33 x24] := hS47
        refine WL.nil ?_
        show W _ _ _ _ _ _
        obtain ⟨x48, hj49, hb29⟩ := bs hb29
        refine W.cutCode (fun fq wq => ∃ (uu0 : Value), fq 1 = (Value.pointer (some ⟨b1, 0, none⟩)) ∧ fq 4 = uu0 ∧ fq 5 = (Value.int .i64 (k23 : Int)) ∧ St wd2 wq [(Ty.sl (Ty.i .i64)).at uu0 x48]) ?_ ?_
        · refine W.cond x42 rfl (fun hc50 => ?_) (fun hc50 => ?_)
          · replace hj49 := ip hj49 hc50
            refine W.region ?_
            refine WL.val u33 _ (op_move hf35) rfl ?_
            refine WL.val (Value.int .i64 (k23 : Int)) _ (op_move hf36) rfl ?_
            refine WL.litFlat (t := (Ty.i .i64)) (flat_i .i64) [(Value.int .i64 (k23 : Int))] [(k23 : Int)] hS47 sl_25 rfl rfl (fillL rfl ⟨rfl, rfl, rfl, trivial⟩) rfl rfl (litL ⟨⟨rfl, hr37⟩, trivial⟩) rfl ?_
            intro u51 wd52 hS53 he54
            replace hS53 : St wd2 wd52 [(Ty.sl (Ty.i .i64)).at u33 x24, (Ty.sl (Ty.i .i64)).at u51 ([(k23 : Int)] : (List Int))] := hS53
            obtain ⟨x55, hx56, hj49⟩ := bs hj49
            refine WL.append (flat_i .i64) hS53 (k := 0) rfl sl_25 rfl rfl rfl rfl (St.rep (t := (Ty.sl (Ty.i .i64))) hS53 1 rfl) hx56 rfl ?_
            intro u57 wd58 hS59 hz60
            replace hS59 : St wd2 wd58 [(Ty.sl (Ty.i .i64)).at u57 x55, (Ty.sl (Ty.i .i64)).at u51 ([(k23 : Int)] : (List Int))] := hS59
            refine WL.val u57 _ (op_assign rfl) rfl ?_
            refine WL.nil ?_
            obtain rfl := Option.some.inj hj49
            exact ⟨u57, hf34, rfl, hf36, (St.pick hS59 [0] rfl)⟩
          · replace hj49 := inegb hj49 hc50
            refine W.skip ?_
            obtain rfl := Option.some.inj hj49
            exact ⟨u33, hf34, hf35, hf36, hS47⟩
        · intro f61 wd62 hq63
          obtain ⟨u64, hf65, hf66, hf67, hS68⟩ := hq63
          show W _ _ _ _ _ _
          refine W.region ?_
          refine WL.val (Value.int .i64 (k23 : Int)) _ (op_move hf67) rfl ?_
          refine WL.val (Value.int .i64 (w64 ((k23 : Int) + (1 : Int)))) _ (op_add rfl rfl) rfl ?_
          refine WL.val (Value.int .i64 (w64 ((k23 : Int) + (1 : Int)))) _ (op_assign rfl) rfl ?_
          refine WL.nil ?_
          obtain rfl := Option.some.inj hb29
          show ∃ s, _ = Ctl.next s ∧ _
          exact ⟨_, rfl, u64, hf65, hf66, (ctr_next hl40 hr39), (ctr_rng hl40 hr39), hS68⟩
      · intro x75 f70 wd71 hs72 hI73
        replace hI73 : ∃ (uu0 : Value), f70 1 = (Value.pointer (some ⟨b1, 0, none⟩)) ∧ f70 4 = uu0 ∧ f70 5 = Value.int .i64 (((r_Table).length : Nat) : Int) ∧ InR .i64 (((r_Table).length : Nat) : Int) ∧ St wd2 wd71 [(Ty.sl (Ty.i .i64)).at uu0 x75] := hI73
        obtain ⟨u76, hf77, hf78, hf79, hr80, hS81⟩ := hI73
        refine W.seq ?_
        refine W.seq ?_
        refine W.region ?_
        refine WL.val (Value.int .i64 (((r_Table).length : Nat) : Int)) _ (op_move hf79) rfl ?_
        refine WL.val (Value.pointer (some ⟨b1, 0, none⟩)) _ (op_fieldAddr fd_29_0 hf77) rfl ?_
        refine WL.val v_r_Table _ (op_load one_22 rfl (BoxAt.cell (BoxAt.lift hS81.ext hx6) rfl)) rfl ?_
        have hr82 := inR_len (Ty.lift _ (Ext.trans hE7 hS81.ext) r_r_Table)
        refine WL.val (Value.int .i64 ((r_Table).length : Int)) _ (op_lenL sl_22 (Ty.lift _ (Ext.trans hE7 hS81.ext) r_r_Table) rfl) rfl ?_
        refine WL.val (Value.bool (decide ((((r_Table).length : Nat) : Int) < ((r_Table).length : Int)))) _ (op_lss rfl rfl) rfl ?_
        have hl83 : ¬ (((r_Table).length : Nat) : Int) < ((r_Table).length : Int) := by omega
        refine WL.nil ?_
        show W _ _ _ _ _ _
        refine W.condF (decide ((((r_Table).length : Nat) : Int) < ((r_Table).length : Int))) rfl (decide_eq_false hl83) ?_
        refine W.exit ?_
        show _ = _ ∧ _
        exact ⟨rfl, _, hs72, u76, hf78, hS81⟩
    · rintro f84 wd85 ⟨x88, rfl, hq86⟩
      replace h := onRes_fin h
      replace hq86 : ∃ (uu0 : Value), f84 4 = uu0 ∧ St wd2 wd85 [(Ty.sl (Ty.i .i64)).at uu0 x88] := hq86
      obtain ⟨u89, hf90, hS91⟩ := hq86
      show W _ _ _ _ _ _
      refine W.seq ?_
      refine W.region ?_
      refine WL.val u89 _ (op_move hf90) rfl ?_
      refine WL.val u89 _ (op_assign rfl) rfl ?_
      refine WL.val (Value.int .i64 (0 : Int)) _ (op_assign rfl) rfl ?_
      refine WL.nil ?_
      show W _ _ _ _ _ _
      refine W.ret ?_
      obtain rfl := Option.some.inj h
      show FinP _ _ _ _ _ _ _
      exact FinP.ret _ (res2 rfl rfl rfl) ⟨u89, rfl, (inR_i64.2 (show (-9223372036854775808 : Int) ≤ 0 ∧ (0 : Int) ≤ 9223372036854775807 from by decide)), (Ext.trans hE7 hS91.ext), (St.out (St.pick hS91 [0] rfl) (hE7))⟩

theorem c_spec_IsPointedRing {w : World} {r_Table : (List (List (List Int)))} {v_r_Table : Value} (r_r_Table : (Ty.sl (Ty.sl (Ty.sl (Ty.i .i64)))).rep w v_r_Table r_Table) {res : Bool × Int} (h : p_spec_IsPointedRing r_Table  = some res) :
    Ret Try.prog 20 #[(Value.agg #[v_r_Table])] w (fun v w' => v = (Value.tuple #[Value.bool res.1, Value.int .i64 res.2]) ∧ InR .i64 res.2 ∧ Ext w w') := by
  unfold p_spec_IsPointedRing at h
  have hS0 : St w w [] := St.start w
  refine Ret.start (fn := Try.f20) Try.func20 rfl 20 rfl rfl ?_
  refine W.seq ?_
  refine W.region ?_
  refine WL.box hS0 rfl (cs := [v_r_Table]) rfl rfl ?_
  intro b1 wd2 hS3 he4 hx5
  replace hS3 : St w wd2 [bx b1 [v_r_Table]] := hS3
  have hx6 := St.boxAt hS3 0 rfl
  have hE7 : Ext w wd2 := hS3.ext
  have hS8 : St wd2 wd2 [] := St.start wd2
  refine WL.val (Value.bool false) _ (op_assign rfl) rfl ?_
  refine WL.val (Value.int .i64 (0 : Int)) _ (op_assign rfl) rfl ?_
  refine WL.nil ?_
  show W _ _ _ _ _ _
  refine W.seq ?_
  refine W.region ?_
  refine WL.val (Value.agg #[v_r_Table]) _ (op_loadBox st_29 rfl (BoxAt.lift hS8.ext hx6) rfl rfl) rfl ?_
  obtain ⟨x9, hx10, h⟩ := bs h
  refine WL.call _ (op_call fn_29 (args1 rfl)) (c_spec_InvertibleLabels (Ty.lift _ (Ext.trans hE7 hS8.ext) r_r_Table) hx10) rfl ?_
  rintro _ wd13 ⟨u11, rfl, hr12, he14, hs15⟩
  have hS16 := St.join hS8 he14 hs15
  replace hS16 : St wd2 wd13 [(Ty.sl (Ty.i .i64)).at u11 x9.1] := hS16
  refine WL.val (Value.tuple #[u11, (Value.int .i64 x9.2)]) _ (op_move rfl) rfl ?_
  refine WL.val u11 _ (op_extract rfl rfl) rfl ?_
  refine WL.val (Value.int .i64 x9.2) _ (op_extract rfl rfl) rfl ?_
  refine WL.val u11 _ (op_assign rfl) rfl ?_
  refine WL.val (Value.int .i64 x9.2) _ (op_assign rfl) rfl ?_
  refine WL.nil ?_
  show W _ _ _ _ _ _
  refine W.seq ?_
  refine W.seq ?_
  refine W.region ?_
  refine WL.val (Value.int .i64 x9.2) _ (op_move rfl) rfl ?_
  refine WL.val (Value.bool (x9.2 != (0 : Int))) _ (op_neq rfl rfl) rfl ?_
  refine WL.nil ?_
  show W _ _ _ _ _ _
  refine W.cond (x9.2 != (0 : Int)) rfl (fun hc17 => ?_) (fun hc17 => ?_)
  · replace h := ip h hc17
    refine W.seq ?_
    refine W.region ?_
    refine WL.val (Value.int .i64 x9.2) _ (op_move rfl) rfl ?_
    refine WL.val (Value.bool false) _ (op_assign rfl) rfl ?_
    refine WL.val (Value.int .i64 x9.2) _ (op_assign rfl) rfl ?_
    refine WL.nil ?_
    show W _ _ _ _ _ _
    refine W.ret ?_
    obtain rfl := Option.some.inj h
    show FinP _ _ _ _ _ _ _
    exact FinP.ret _ (res2 rfl rfl rfl) ⟨rfl, hr12, (Ext.trans hE7 hS16.ext)⟩
  · replace h := inegb h hc17
    refine W.skip ?_
    show W _ _ _ _ _ _
    refine W.seq ?_
    refine W.region ?_
    refine WL.val u11 _ (op_move rfl) rfl ?_
    have hr19 := inR_len (St.rep (t := (Ty.sl (Ty.i .i64))) hS16 0 rfl)
    refine WL.val (Value.int .i64 ((x9.1).length : Int)) _ (op_lenL sl_25 (St.rep (t := (Ty.sl (Ty.i .i64))) hS16 0 rfl) rfl) rfl ?_
    refine WL.val (Value.pointer (some ⟨b1, 0, none⟩)) _ (op_fieldAddr fd_29_0 rfl) rfl ?_
    refine WL.val v_r_Table _ (op_load one_22 rfl (BoxAt.cell (BoxAt.lift hS16.ext hx6) rfl)) rfl ?_
    have hr20 := inR_len (Ty.lift _ (Ext.trans hE7 hS16.ext) r_r_Table)
    refine WL.val (Value.int .i64 ((r_Table).length : Int)) _ (op_lenL sl_22 (Ty.lift _ (Ext.trans hE7 hS16.ext) r_r_Table) rfl) rfl ?_
    refine WL.val (Value.bool (((x9.1).length : Int) == ((r_Table).length : Int))) _ (op_eql rfl rfl) rfl ?_
    refine WL.val (Value.bool (((x9.1).length : Int) == ((r_Table).length : Int))) _ (op_assign rfl) rfl ?_
    refine WL.val (Value.int .i64 (0 : Int)) _ (op_assign rfl) rfl ?_
    refine WL.nil ?_
    show W _ _ _ _ _ _
    refine W.ret ?_
    obtain rfl := Option.some.inj h
    show FinP _ _ _ _ _ _ _
    exact FinP.ret _ (res2 rfl rfl rfl) ⟨rfl, (inR_i64.2 (show (-9223372036854775808 : Int) ≤ 0 ∧ (0 : Int) ≤ 9223372036854775807 from by decide)), (Ext.trans hE7 hS16.ext)⟩

theorem c_impl_IsPointedRing {w : World} {r_Table : (List (List (List Int)))} {v_r_Table : Value} (r_r_Table : (Ty.sl (Ty.sl (Ty.sl (Ty.i .i64)))).rep w v_r_Table r_Table) {res : Bool × Int} (h : p_impl_IsPointedRing r_Table  = some res) :
    Ret Try.prog 21 #[(Value.agg #[v_r_Table])] w (fun v w' => v = (Value.tuple #[Value.bool res.1, Value.int .i64 res.2]) ∧ InR .i64 res.2 ∧ Ext w w') := by
  unfold p_impl_IsPointedRing at h
  have hS0 : St w w [] := St.start w
  refine Ret.start (fn := Try.f21) Try.func21 rfl 22 rfl rfl ?_
  refine W.seq ?_
  refine W.region ?_
  refine WL.box hS0 rfl (cs := [v_r_Table]) rfl rfl ?_
  intro b1 wd2 hS3 he4 hx5
  replace hS3 : St w wd2 [bx b1 [v_r_Table]] := hS3
  have hx6 := St.boxAt hS3 0 rfl
  have hE7 : Ext w wd2 := hS3.ext
  have hS8 : St wd2 wd2 [] := St.start wd2
  refine WL.val (Value.bool false) _ (op_assign rfl) rfl ?_
  refine WL.val (Value.int .i64 (0 : Int)) _ (op_assign rfl) rfl ?_
  refine WL.nil ?_
  show W _ _ _ _ _ _
  refine W.seq ?_
  refine W.region ?_
  refine WL.val (Value.agg #[v_r_Table]) _ (op_loadBox st_29 rfl (BoxAt.lift hS8.ext hx6) rfl rfl) rfl ?_
  obtain ⟨x9, hx10, h⟩ := bs h
  refine WL.call _ (op_call fn_30 (args1 rfl)) (c_impl_InvertibleLabels (Ty.lift _ (Ext.trans hE7 hS8.ext) r_r_Table) hx10) rfl ?_
  rintro _ wd13 ⟨u11, rfl, hr12, he14, hs15⟩
  have hS16 := St.join hS8 he14 hs15
  replace hS16 : St wd2 wd13 [(Ty.sl (Ty.i .i64)).at u11 x9.1] := hS16
  refine WL.val (Value.tuple #[u11, (Value.int .i64 x9.2)]) _ (op_move rfl) rfl ?_
  refine WL.val u11 _ (op_extract rfl rfl) rfl ?_
  refine WL.val (Value.int .i64 x9.2) _ (op_extract rfl rfl) rfl ?_
  refine WL.val u11 _ (op_assign rfl) rfl ?_
  refine WL.val (Value.int .i64 x9.2) _ (op_assign rfl) rfl ?_
  refine WL.nil ?_
  show W _ _ _ _ _ _
  refine W.seq ?_
  refine W.region ?_
  refine WL.val (Value.int .i64 x9.2) _ (op_move rfl) rfl ?_
  refine WL.val (Value.bool (x9.2 == (0 : Int))) _ (op_eql rfl rfl) rfl ?_
  refine WL.val (Value.bool (x9.2 == (0 : Int))) _ (op_move rfl) rfl ?_
  refine WL.cut 7 (fun fq wq => fq 5 = (Value.int .i64 x9.2) ∧ fq 20 = (Value.bool ((x9.2 == (0 : Int)) && (((x9.1).length : Int) == ((r_Table).length : Int)))) ∧ St wd2 wq []) ?_ ?_
  · rcases Bool.eq_false_or_eq_true (x9.2 == (0 : Int)) with hc17 | hc17
    · refine WL.grun rfl (bool_of rfl hc17) ?_
      refine WL.val u11 _ (op_move rfl) rfl ?_
      refine WL.grun rfl (bool_of rfl hc17) ?_
      have hr21 := inR_len (St.rep (t := (Ty.sl (Ty.i .i64))) hS16 0 rfl)
      refine WL.val (Value.int .i64 ((x9.1).length : Int)) _ (op_lenL sl_25 (St.rep (t := (Ty.sl (Ty.i .i64))) hS16 0 rfl) rfl) rfl ?_
      refine WL.grun rfl (bool_of rfl hc17) ?_
      refine WL.val (Value.pointer (some ⟨b1, 0, none⟩)) _ (op_fieldAddr fd_29_0 rfl) rfl ?_
      refine WL.grun rfl (bool_of rfl hc17) ?_
      refine WL.val v_r_Table _ (op_load one_22 rfl (BoxAt.cell (BoxAt.lift hS16.ext hx6) rfl)) rfl ?_
      refine WL.grun rfl (bool_of rfl hc17) ?_
      have hr22 := inR_len (Ty.lift _ (Ext.trans hE7 hS16.ext) r_r_Table)
      refine WL.val (Value.int .i64 ((r_Table).length : Int)) _ (op_lenL sl_22 (Ty.lift _ (Ext.trans hE7 hS16.ext) r_r_Table) rfl) rfl ?_
      refine WL.grun rfl (bool_of rfl hc17) ?_
      refine WL.val (Value.bool (((x9.1).length : Int) == ((r_Table).length : Int))) _ (op_eql rfl rfl) rfl ?_
      refine WL.val (Value.bool (((x9.1).length : Int) == ((r_Table).length : Int))) _ (op_pick_t (evb_of rfl hc17) rfl) rfl ?_
      refine WL.nil ?_
      exact ⟨rfl, rfl, (andT hc17), (St.pick hS16 [] rfl)⟩
    · refine WL.gskip rfl (bool_of rfl hc17) rfl ?_
      refine WL.gskip rfl (bool_of rfl hc17) rfl ?_
      refine WL.gskip rfl (bool_of rfl hc17) rfl ?_
      refine WL.gskip rfl (bool_of rfl hc17) rfl ?_
      refine WL.gskip rfl (bool_of rfl hc17) rfl ?_
      refine WL.gskip rfl (bool_of rfl hc17) rfl ?_
      refine WL.val (Value.bool false) _ (op_pick_f (evb_of rfl hc17) rfl) rfl ?_
      refine WL.nil ?_
      exact ⟨rfl, rfl, (andF hc17), (St.pick hS16 [] rfl)⟩
  · intro f18 wd19 hq20
    obtain ⟨hf23, hf24, hS25⟩ := hq20
    refine WL.val (Value.int .i64 x9.2) _ (op_move hf23) rfl ?_
    refine WL.val (Value.bool ((x9.2 == (0 : Int)) && (((x9.1).length : Int) == ((r_Table).length : Int)))) _ (op_assign hf24) rfl ?_
    refine WL.val (Value.int .i64 x9.2) _ (op_assign rfl) rfl ?_
    refine WL.nil ?_
    show W _ _ _ _ _ _
    refine W.ret ?_
    obtain rfl := Option.some.inj h
    show FinP _ _ _ _ _ _ _
    exact FinP.ret _ (res2 rfl rfl rfl) ⟨rfl, hr12, (Ext.trans hE7 hS25.ext)⟩

theorem c_laws_FnExactIsPointedRing {w : World} {aR_Table : (List (List (List Int)))} {v_aR_Table : Value} (r_aR_Table : (Ty.sl (Ty.sl (Ty.sl (Ty.i .i64)))).rep w v_aR_Table aR_Table) {res : Bool} (h : p_laws_FnExactIsPointedRing aR_Table  = some res) :
    Ret Try.prog 5 #[(Value.agg #[v_aR_Table])] w (fun v w' => v = Value.bool res ∧ Ext w w') := by
  unfold p_laws_FnExactIsPointedRing at h
  have hS0 : St w w [] := St.start w
  refine Ret.start (fn := Try.f5) Try.func5 rfl 40 rfl rfl ?_
  refine W.seq ?_
  refine W.region ?_
  refine WL.box hS0 rfl (cs := [v_aR_Table]) rfl rfl ?_
  intro b1 wd2 hS3 he4 hx5
  replace hS3 : St w wd2 [bx b1 [v_aR_Table]] := hS3
  have hx6 := St.boxAt hS3 0 rfl
  have hE7 : Ext w wd2 := hS3.ext
  have hS8 : St wd2 wd2 [] := St.start wd2
  refine WL.val (Value.bool false) _ (op_assign rfl) rfl ?_
  refine WL.nil ?_
  show W _ _ _ _ _ _
  refine W.seq ?_
  refine W.region ?_
  refine WL.val (Value.int .i64 (1048576 : Int)) _ (op_assign rfl) rfl ?_
  refine WL.nil ?_
  show W _ _ _ _ _ _
  refine W.seq ?_
  refine W.region ?_
  refine WL.val (Value.agg #[v_aR_Table]) _ (op_loadBox st_24 rfl (BoxAt.lift hS8.ext hx6) rfl rfl) rfl ?_
  refine WL.val (Value.int .i64 (1048576 : Int)) _ (op_move rfl) rfl ?_
  obtain ⟨x9, hx10, h⟩ := bs h
  refine WL.call _ (op_call fn_11 (args2 rfl rfl)) (c_laws_szRing (Ty.lift _ (Ext.trans hE7 hS8.ext) r_aR_Table) (inR_i64.2 (show (-9223372036854775808 : Int) ≤ 1048576 ∧ (1048576 : Int) ≤ 9223372036854775807 from by decide)) hx10) rfl ?_
  rintro _ wd12 ⟨rfl, hr11, he13⟩
  have hS15 := St.extend hS8 he13
  replace hS15 : St wd2 wd12 [] := hS15
  refine WL.val (Value.int .i64 x9) _ (op_assign rfl) rfl ?_
  refine WL.nil ?_
  show W _ _ _ _ _ _
  refine W.seq ?_
  refine W.seq ?_
  refine W.region ?_
  refine WL.val (Value.int .i64 x9) _ (op_move rfl) rfl ?_
  refine WL.val (Value.bool (decide (x9 < (0 : Int)))) _ (op_lss rfl rfl) rfl ?_
  refine WL.nil ?_
  show W _ _ _ _ _ _
  refine W.cond (decide (x9 < (0 : Int))) rfl (fun hc16 => ?_) (fun hc16 => ?_)
  · replace h := ip h hc16
    refine W.seq ?_
    refine W.region ?_
    refine WL.val (Value.bool true) _ (op_assign rfl) rfl ?_
    refine WL.nil ?_
    show W _ _ _ _ _ _
    refine W.ret ?_
    obtain rfl := Option.some.inj h
    show FinP _ _ _ _ _ _ _
    exact FinP.ret _ (res1 rfl rfl) ⟨rfl, (Ext.trans hE7 hS15.ext)⟩
  · replace h := inegb h hc16
    refine W.skip ?_
    show W _ _ _ _ _ _
    refine W.seq ?_
    refine W.region ?_
    refine WL.val (Value.agg #[v_aR_Table]) _ (op_loadBox st_24 rfl (BoxAt.lift hS15.ext hx6) rfl rfl) rfl ?_
    obtain ⟨x18, hx19, h⟩ := bs h
    refine WL.call _ (op_call fn_13 (args1 rfl)) (c_laws_toRing (Ty.lift _ (Ext.trans hE7 hS15.ext) r_aR_Table) hx19) rfl ?_
    rintro _ wd21 ⟨u20, rfl, he22, hs23⟩
    have hS24 := St.join hS15 he22 hs23
    replace hS24 : St wd2 wd21 [(Ty.sl (Ty.sl (Ty.sl (Ty.i .i64)))).at u20 x18] := hS24
    have hb25 := St.rep (t := (Ty.sl (Ty.sl (Ty.sl (Ty.i .i64))))) hS24 0 rfl
    have hE26 : Ext w wd21 := (Ext.trans hE7 hS24.ext)
    have hE27 : Ext wd2 wd21 := hS24.ext
    have hS28 : St wd21 wd21 [] := St.start wd21
    obtain ⟨x29, hx30, h⟩ := bs h
    refine WL.call _ (op_call fn_20 (args1 rfl)) (c_spec_IsPointedRing (Ty.lift _ hS28.ext hb25) hx30) rfl ?_
    rintro _ wd32 ⟨rfl, hr31, he33⟩
    have hS35 := St.extend hS28 he33
    replace hS35 : St wd21 wd32 [] := hS35
    refine WL.val (Value.tuple #[(Value.bool x29.1), (Value.int .i64 x29.2)]) _ (op_move rfl) rfl ?_
    refine WL.val (Value.bool x29.1) _ (op_extract rfl rfl) rfl ?_
    refine WL.val (Value.int .i64 x29.2) _ (op_extract rfl rfl) rfl ?_
    refine WL.val (Value.bool x29.1) _ (op_assign rfl) rfl ?_
    refine WL.val (Value.int .i64 x29.2) _ (op_assign rfl) rfl ?_
    refine WL.nil ?_
    show W _ _ _ _ _ _
    refine W.seq ?_
    refine W.region ?_
    refine WL.val (Value.agg #[v_aR_Table]) _ (op_loadBox st_24 rfl (BoxAt.lift (Ext.trans hE27 hS35.ext) hx6) rfl rfl) rfl ?_
    obtain ⟨x36, hx37, h⟩ := bs h
    refine WL.call _ (op_call fn_13 (args1 rfl)) (c_laws_toRing (Ty.lift _ (Ext.trans hE26 hS35.ext) r_aR_Table) hx37) rfl ?_
    rintro _ wd39 ⟨u38, rfl, he40, hs41⟩
    have hS42 := St.join hS35 he40 hs41
    replace hS42 : St wd21 wd39 [(Ty.sl (Ty.sl (Ty.sl (Ty.i .i64)))).at u38 x36] := hS42
    refine WL.alloc hS42 ze_29 (cs := [(Value.slice none 0 0)]) rfl rfl ?_
    intro b43 wd44 hS45 he46
    replace hS45 : St wd21 wd44 [(Ty.sl (Ty.sl (Ty.sl (Ty.i .i64)))).at u38 x36, bx b43 [(Value.slice none 0 0)]] := hS45
    refine WL.storeBox [u38] hS45 (k := 1) rfl rfl rfl (us := [u38]) rfl sz_29 rfl rfl (all_rep (St.rep (t := (Ty.sl (Ty.sl (Ty.sl (Ty.i .i64))))) hS45 0 rfl) all_nil) rfl ?_
    intro wd47 hS48
    replace hS48 : St wd21 wd47 [(Ty.sl (Ty.sl (Ty.sl (Ty.i .i64)))).at u38 x36, bx b43 [u38]] := hS48
    refine WL.nil ?_
    show W _ _ _ _ _ _
    refine W.seq ?_
    refine W.region ?_
    refine WL.val (Value.agg #[u38]) _ (op_loadBox st_29 rfl (St.boxAt hS48 1 rfl) rfl rfl) rfl ?_
    obtain ⟨x49, hx50, h⟩ := bs h
    refine WL.call _ (op_call fn_21 (args1 rfl)) (c_impl_IsPointedRing (St.rep (t := (Ty.sl (Ty.sl (Ty.sl (Ty.i .i64))))) hS48 0 rfl) hx50) rfl ?_
    rintro _ wd52 ⟨rfl, hr51, he53⟩
    have hS55 := St.extend hS48 he53
    replace hS55 : St wd21 wd52 [(Ty.sl (Ty.sl (Ty.sl (Ty.i .i64)))).at u38 x36, bx b43 [u38]] := hS55
    refine WL.val (Value.tuple #[(Value.bool x49.1), (Value.int .i64 x49.2)]) _ (op_move rfl) rfl ?_
    refine WL.val (Value.bool x49.1) _ (op_extract rfl rfl) rfl ?_
    refine WL.val (Value.int .i64 x49.2) _ (op_extract rfl rfl) rfl ?_
    refine WL.val (Value.bool x49.1) _ (op_assign rfl) rfl ?_
    refine WL.val (Value.int .i64 x49.2) _ (op_assign rfl) rfl ?_
    refine WL.nil ?_
    show W _ _ _ _ _ _
    refine W.seq ?_
    refine W.seq ?_
    refine W.region ?_
    refine WL.val (Value.bool x49.1) _ (op_move rfl) rfl ?_
    refine WL.val (Value.bool x29.1) _ (op_move rfl) rfl ?_
    refine WL.val (Value.bool (x49.1 != x29.1)) _ (op_bneq rfl rfl bt_4) rfl ?_
    refine WL.val (Value.bool (x49.1 != x29.1)) _ (op_move rfl) rfl ?_
    refine WL.cut 4 (fun fq wq => fq 1 = (Value.pointer (some ⟨b1, 0, none⟩)) ∧ fq 6 = (Value.pointer (some ⟨b43, 0, none⟩)) ∧ fq 34 = (Value.bool ((x49.1 != x29.1) || (x49.2 != x29.2))) ∧ St wd21 wq [(Ty.sl (Ty.sl (Ty.sl (Ty.i .i64)))).at u38 x36, bx b43 [u38]]) ?_ ?_
    · rcases Bool.eq_false_or_eq_true (x49.1 != x29.1) with hc56 | hc56
      · refine WL.gskip rfl (bool_of rfl hc56) rfl ?_
        refine WL.gskip rfl (bool_of rfl hc56) rfl ?_
        refine WL.gskip rfl (bool_of rfl hc56) rfl ?_
        refine WL.val (Value.bool true) _ (op_pick_t (evb_of rfl hc56) rfl) rfl ?_
        refine WL.nil ?_
        exact ⟨rfl, rfl, rfl, (orT hc56), hS55⟩
      · refine WL.grun rfl (bool_of rfl hc56) ?_
        refine WL.val (Value.int .i64 x49.2) _ (op_move rfl) rfl ?_
        refine WL.grun rfl (bool_of rfl hc56) ?_
        refine WL.val (Value.int .i64 x29.2) _ (op_move rfl) rfl ?_
        refine WL.grun rfl (bool_of rfl hc56) ?_
        refine WL.val (Value.bool (x49.2 != x29.2)) _ (op_neq rfl rfl) rfl ?_
        refine WL.val (Value.bool (x49.2 != x29.2)) _ (op_pick_f (evb_of rfl hc56) rfl) rfl ?_
        refine WL.nil ?_
        exact ⟨rfl, rfl, rfl, (orF hc56), hS55⟩
    · intro f57 wd58 hq59
      obtain ⟨hf60, hf61, hf62, hS63⟩ := hq59
      refine WL.nil ?_
      show W _ _ _ _ _ _
      refine W.cond ((x49.1 != x29.1) || (x49.2 != x29.2)) hf62 (fun hc64 => ?_) (fun hc64 => ?_)
      · replace h := ip h hc64
        refine W.seq ?_
        refine W.region ?_
        refine WL.val (Value.bool false) _ (op_assign rfl) rfl ?_
        refine WL.nil ?_
        show W _ _ _ _ _ _
        refine W.ret ?_
        obtain rfl := Option.some.inj h
        show FinP _ _ _ _ _ _ _
        exact FinP.ret _ (res1 rfl rfl) ⟨rfl, (Ext.trans hE26 hS63.ext)⟩
      · replace h := inegb h hc64
        refine W.skip ?_
        show W _ _ _ _ _ _
        refine W.seq ?_
        refine W.seq ?_
        obtain ⟨x89, hx90, h⟩ := bs h
        refine W.draw mixo 3 [fun v w' => ∃ (uu0 : Value), v = (Value.agg #[uu0]) ∧ (Ty.sl (Ty.sl (Ty.sl (Ty.i .i64)))).rep w' uu0 x36, fun v w' => ∃ (uu0 : Value), v = (Value.agg #[uu0]) ∧ (Ty.sl (Ty.sl (Ty.sl (Ty.i .i64)))).rep w' uu0 aR_Table, fun v w' => ∃ (uu0 : Value), v = (Value.agg #[uu0]) ∧ (Ty.sl (Ty.sl (Ty.sl (Ty.i .i64)))).rep w' uu0 x89] (by kernel_rfl) (by kernel_rfl) (stabL ⟨(fun _ _ _ he ⟨uu0, h0, r0⟩ => ⟨uu0, h0, Ty.lift _ he r0⟩), (fun _ _ _ he ⟨uu0, h0, r0⟩ => ⟨uu0, h0, Ty.lift _ he r0⟩), (fun _ _ _ he ⟨uu0, h0, r0⟩ => ⟨uu0, h0, Ty.lift _ he r0⟩), trivial⟩) ⟨?_, ?_, ?_, trivial⟩ ?_
        · intro f66 wd67 he68 hout69 hphi70
          have hS71 : St wd21 wd67 [(Ty.sl (Ty.sl (Ty.sl (Ty.i .i64)))).at u38 x36, bx b43 [u38]] := St.extend hS63 he68
          have e72 : f66 6 = (Value.pointer (some ⟨b43, 0, none⟩)) := (hout69 6 rfl).trans hf61
          exact OpY.val (Value.agg #[u38]) wd67 rfl (op_loadBox st_29 e72 (St.boxAt hS71 1 rfl) rfl rfl) (Ext.refl _) ⟨u38, rfl, (St.rep (t := (Ty.sl (Ty.sl (Ty.sl (Ty.i .i64))))) hS71 0 rfl)⟩
        · intro f73 wd74 he75 hout76 hphi77
          have hS78 : St wd21 wd74 [(Ty.sl (Ty.sl (Ty.sl (Ty.i .i64)))).at u38 x36, bx b43 [u38]] := St.extend hS63 he75
          have e79 : f73 1 = (Value.pointer (some ⟨b1, 0, none⟩)) := (hout76 1 rfl).trans hf60
          exact OpY.val (Value.agg #[v_aR_Table]) wd74 rfl (op_loadBox st_24 e79 (BoxAt.lift (Ext.trans hE27 hS78.ext) hx6) rfl rfl) (Ext.refl _) ⟨v_aR_Table, rfl, (Ty.lift _ (Ext.trans hE26 hS78.ext) r_aR_Table)⟩
        · intro f80 wd81 he82 hout83 hphi84
          have hS85 : St wd21 wd81 [(Ty.sl (Ty.sl (Ty.sl (Ty.i .i64)))).at u38 x36, bx b43 [u38]] := St.extend hS63 he82
          obtain ⟨u87, e86, hr88⟩ := hphi84 1 36 _ rfl rfl rfl
          refine OpY.call rfl (op_call fn_13 (args1 e86)) (Ret.mono (c_laws_toRing hr88 hx90) ?_)
          rintro _ wd92 ⟨u91, rfl, he93, hs94⟩
          exact ⟨he93, ⟨u91, rfl, (Sep.rep (t := (Ty.sl (Ty.sl (Ty.sl (Ty.i .i64))))) hs94 0 rfl)⟩⟩
        · intro f95 wd96 he97 hout98 hphi99
          show WL _ _ _ _ _ _ _
          have hS100 : St wd21 wd96 [(Ty.sl (Ty.sl (Ty.sl (Ty.i .i64)))).at u38 x36, bx b43 [u38]] := St.extend hS63 he97
          obtain ⟨u102, e101, hr103⟩ := hphi99 0 35 _ (by decide) rfl rfl
          obtain ⟨u105, e104, hr106⟩ := hphi99 2 37 _ (by decide) rfl rfl
          obtain ⟨x107, hx108, h⟩ := bs h
          refine WL.call _ (op_call fn_16 (args2 e101 e104)) (c_laws_eqRing hr103 hr106 hx108) rfl ?_
          rintro _ wd109 ⟨rfl, he110⟩
          have hS112 := St.extend hS100 he110
          replace hS112 : St wd21 wd109 [(Ty.sl (Ty.sl (Ty.sl (Ty.i .i64)))).at u38 x36, bx b43 [u38]] := hS112
          refine WL.val (Value.bool (!x107)) _ (op_not rfl) rfl ?_
          refine WL.nil ?_
          show W _ _ _ _ _ _
          refine W.cond (!x107) rfl (fun hc113 => ?_) (fun hc113 => ?_)
          · replace h := ip h hc113
            refine W.seq ?_
            refine W.region ?_
            refine WL.val (Value.bool false) _ (op_assign rfl) rfl ?_
            refine WL.nil ?_
            show W _ _ _ _ _ _
            refine W.ret ?_
            obtain rfl := Option.some.inj h
            show FinP _ _ _ _ _ _ _
            exact FinP.ret _ (res1 rfl rfl) ⟨rfl, (Ext.trans hE26 hS112.ext)⟩
          · replace h := inegb h hc113
            refine W.skip ?_
            show W _ _ _ _ _ _
            refine W.seq ?_
            refine W.region ?_
            refine WL.val (Value.bool true) _ (op_assign rfl) rfl ?_
            refine WL.nil ?_
            show W _ _ _ _ _ _
            refine W.ret ?_
            obtain rfl := Option.some.inj h
            show FinP _ _ _ _ _ _ _
            exact FinP.ret _ (res1 rfl rfl) ⟨rfl, (Ext.trans hE26 hS112.ext)⟩

end Go.VG
