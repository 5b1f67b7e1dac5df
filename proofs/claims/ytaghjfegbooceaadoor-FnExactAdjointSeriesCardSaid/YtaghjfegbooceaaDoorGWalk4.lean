/- The walks, part 4: each Go function returns what its plain twin returns. No condition beyond what each names. -/
import Derived.Test.YtaghjfegbooceaaDoorGWalk3
set_option linter.all false
namespace Go.VG
open Go.Proofs
attribute [local irreducible] W WL Sep FinP

theorem c_spec_l05Series {w : World} {r_Table : (List (List (List Int)))} {v_r_Table : Value} (r_r_Table : (Ty.sl (Ty.sl (Ty.sl (Ty.i .i64)))).rep w v_r_Table r_Table) {res : (List Int)} (h : p_spec_l05Series r_Table  = some res) :
    Ret Tryd.prog 41 #[(Value.agg #[v_r_Table])] w (fun v w' => ∃ (u0 : Value), v = u0 ∧ Ext w w' ∧ Sep w.heap.size w' [(Ty.sl (Ty.i .i64)).at u0 res]) := by
  unfold p_spec_l05Series at h
  have hS0 : St w w [] := St.start w
  refine Ret.start (fn := Tryd.f41) Tryd.func41 rfl 50 rfl rfl ?_
  refine W.seq (W.region ?_)
  refine WL.box hS0 rfl (cs := [v_r_Table]) rfl rfl ?_
  intro b1 wd2 hS3 he4 hx5
  replace hS3 : St w wd2 [bx b1 [v_r_Table]] := hS3
  have hx6 := St.boxAt hS3 0 rfl
  have hE7 : Ext w wd2 := hS3.ext
  have hS8 : St wd2 wd2 [] := St.start wd2
  refine WL.val (Value.slice none 0 0) _ (op_assign rfl) rfl ?_
  refine WL.nil ?_
  refine W.seq (W.region ?_)
  refine WL.val (Value.agg #[v_r_Table]) _ (op_loadBox st_26 rfl (BoxAt.lift hS8.ext hx6) rfl rfl) rfl ?_
  obtain ⟨x9, hx10, h⟩ := bs h
  refine WL.call _ (op_call fn_54 (args1 rfl)) (c_spec_l05All (Ty.lift _ (Ext.trans hE7 hS8.ext) r_r_Table) hx10) rfl ?_
  rintro _ wd12 ⟨rfl, hr11, he13⟩
  have hS15 := St.extend hS8 he13
  replace hS15 : St wd2 wd12 [] := hS15
  refine WL.litFlat (t := (Ty.i .i64)) (flat_i .i64) [(Value.int .i64 x9)] [x9] hS15 sl_33 rfl rfl (fillL rfl ⟨rfl, rfl, rfl, trivial⟩) rfl rfl (litL ⟨⟨rfl, hr11⟩, trivial⟩) rfl ?_
  intro u16 wd17 hS18 he19
  replace hS18 : St wd2 wd17 [(Ty.sl (Ty.i .i64)).at u16 ([x9] : (List Int))] := hS18
  refine WL.val u16 _ (op_assign rfl) rfl ?_
  refine WL.nil ?_
  show W _ _ _ _ _ _
  obtain ⟨res20, hres21, h⟩ := bs h
  refine W.blockLoop (fun fq wq => ∃ s, res20 = Res.fin s ∧ St wd2 wq []) ?_ ?_
  · refine W.whileC (fun (s : (List Int)) fq wq => ∃ (uu0 : Value), fq 1 = (Value.pointer (some ⟨b1, 0, none⟩)) ∧ fq 3 = uu0 ∧ St wd2 wq [(Ty.sl (Ty.i .i64)).at uu0 s]) hres21 ⟨u16, rfl, rfl, hS18⟩ ?_
    intro x23 ct24 f25 wd26 hb28 hI29 hbrk30 hret31
    replace hI29 : ∃ (uu0 : Value), f25 1 = (Value.pointer (some ⟨b1, 0, none⟩)) ∧ f25 3 = uu0 ∧ St wd2 wd26 [(Ty.sl (Ty.i .i64)).at uu0 x23] := hI29
    replace hb28 : p_spec_l05Series_L1 r_Table  x23 = some ct24 := hb28
    unfold p_spec_l05Series_L1 at hb28
    obtain ⟨u32, hf33, hf34, hS35⟩ := hI29
    refine W.block ?_
    refine W.seq (W.region ?_)
    refine WL.val u32 _ (op_move hf34) rfl ?_
    refine WL.val u32 _ (op_move hf34) rfl ?_
    have hr36 := inR_len (St.rep (t := (Ty.sl (Ty.i .i64))) hS35 0 rfl)
    refine WL.val (Value.int .i64 ((x23).length : Int)) _ (op_lenL sl_33 (St.rep (t := (Ty.sl (Ty.i .i64))) hS35 0 rfl) rfl) rfl ?_
    refine WL.val (Value.int .i64 (w64 (((x23).length : Int) - (1 : Int)))) _ (op_sub rfl rfl) rfl ?_
    obtain ⟨x37, hx40, hb28⟩ := bs hb28
    obtain ⟨ha38, hb39, hx40⟩ := idx_some hx40
    refine WL.val (Value.pointer (some (elA u32 ((w64 (((x23).length : Int) - (1 : Int)))).toNat))) _ (op_idx sl_33 (St.rep (t := (Ty.sl (Ty.i .i64))) hS35 0 rfl) rfl rfl ha38 hb39) rfl ?_
    obtain ⟨u41, hc42, hr43⟩ := repSl.el (St.rep (t := (Ty.sl (Ty.i .i64))) hS35 0 rfl) hx40
    obtain ⟨rfl, hr43⟩ := hr43
    refine WL.val (Value.int .i64 x37) _ (op_load one_2 rfl hc42) rfl ?_
    refine WL.val (Value.int .i64 x37) _ (op_assign rfl) rfl ?_
    refine WL.nil ?_
    refine W.seq (W.region ?_)
    refine WL.val (Value.agg #[v_r_Table]) _ (op_loadBox st_26 hf33 (BoxAt.lift hS35.ext hx6) rfl rfl) rfl ?_
    refine WL.val (Value.int .i64 x37) _ (op_move rfl) rfl ?_
    obtain ⟨x44, hx45, hb28⟩ := bs hb28
    refine WL.call _ (op_call fn_56 (args2 rfl rfl)) (c_spec_l05Labels (Ty.lift _ (Ext.trans hE7 hS35.ext) r_r_Table) hr43 hx45) rfl ?_
    rintro u46 wd47 ⟨_, rfl, he48, hs49⟩
    have hS50 := St.join hS35 he48 hs49
    replace hS50 : St wd2 wd47 [(Ty.sl (Ty.i .i64)).at u32 x23, (Ty.sl (Ty.i .i64)).at u46 x44] := hS50
    refine WL.val u46 _ (op_assign rfl) rfl ?_
    refine WL.nil ?_
    refine W.seq (W.region ?_)
    refine WL.val (Value.agg #[v_r_Table]) _ (op_loadBox st_26 hf33 (BoxAt.lift hS50.ext hx6) rfl rfl) rfl ?_
    refine WL.val (Value.int .i64 x37) _ (op_move rfl) rfl ?_
    obtain ⟨x51, hx52, hb28⟩ := bs hb28
    refine WL.call _ (op_call fn_32 (args2 rfl rfl)) (c_spec_l05Ring (Ty.lift _ (Ext.trans hE7 hS50.ext) r_r_Table) hr43 hx52) rfl ?_
    rintro _ wd54 ⟨u53, rfl, he55, hs56⟩
    have hS57 := St.join hS50 he55 hs56
    replace hS57 : St wd2 wd54 [(Ty.sl (Ty.i .i64)).at u32 x23, (Ty.sl (Ty.i .i64)).at u46 x44, (Ty.sl (Ty.sl (Ty.sl (Ty.i .i64)))).at u53 x51] := hS57
    obtain ⟨x58, hx59, hb28⟩ := bs hb28
    refine WL.call _ (op_call fn_45 (args1 rfl)) (c_spec_l05Adjoint (St.rep (t := (Ty.sl (Ty.sl (Ty.sl (Ty.i .i64))))) hS57 2 rfl) hx59) rfl ?_
    rintro _ wd61 ⟨rfl, hr60, he62⟩
    have hS64 := St.extend hS57 he62
    replace hS64 : St wd2 wd61 [(Ty.sl (Ty.i .i64)).at u32 x23, (Ty.sl (Ty.i .i64)).at u46 x44, (Ty.sl (Ty.sl (Ty.sl (Ty.i .i64)))).at u53 x51] := hS64
    refine WL.val (Value.int .i64 x58) _ (op_assign rfl) rfl ?_
    refine WL.val (Value.int .i64 (0 : Int)) _ (op_assign rfl) rfl ?_
    refine WL.nil ?_
    refine W.seq (W.seq (W.region ?_))
    refine WL.val (Value.int .i64 (0 : Int)) _ (op_assign rfl) rfl ?_
    refine WL.nil ?_
    show W _ _ _ _ _ _
    obtain ⟨res65, hres66, hb28⟩ := bs hb28
    refine W.blockLoop (fun fq wq => ∃ s, res65 = Res.fin s ∧ fq 1 = (Value.pointer (some ⟨b1, 0, none⟩)) ∧ fq 3 = u32 ∧ fq 4 = (Value.int .i64 x37) ∧ fq 7 = Value.int .i64 s ∧ InR .i64 s ∧ St wd2 wq [(Ty.sl (Ty.i .i64)).at u32 x23]) ?_ ?_
    · refine W.forN (fun k (s : Int) fq wq => fq 1 = (Value.pointer (some ⟨b1, 0, none⟩)) ∧ fq 3 = u32 ∧ fq 4 = (Value.int .i64 x37) ∧ fq 5 = u46 ∧ fq 6 = (Value.int .i64 x58) ∧ fq 7 = Value.int .i64 s ∧ InR .i64 s ∧ fq 8 = Value.int .i64 (k : Int) ∧ InR .i64 (k : Int) ∧ St wd2 wq [(Ty.sl (Ty.i .i64)).at u32 x23, (Ty.sl (Ty.i .i64)).at u46 x44]) hres66 ⟨hf33, hf34, rfl, rfl, rfl, rfl, (inL rfl), rfl, (inL rfl), (St.pick hS64 [0, 1] rfl)⟩ ?_ ?_
      · intro k67 x68 ct69 f70 wd71 hk72 hb73 hI74 hbrk75 hret76
        replace hI74 : f70 1 = (Value.pointer (some ⟨b1, 0, none⟩)) ∧ f70 3 = u32 ∧ f70 4 = (Value.int .i64 x37) ∧ f70 5 = u46 ∧ f70 6 = (Value.int .i64 x58) ∧ f70 7 = Value.int .i64 x68 ∧ InR .i64 x68 ∧ f70 8 = Value.int .i64 (k67 : Int) ∧ InR .i64 (k67 : Int) ∧ St wd2 wd71 [(Ty.sl (Ty.i .i64)).at u32 x23, (Ty.sl (Ty.i .i64)).at u46 x44] := hI74
        replace hb73 : p_spec_l05Series_L2 x58 x44 k67 x68 = some ct69 := hb73
        unfold p_spec_l05Series_L2 at hb73
        obtain ⟨hf77, hf78, hf79, hf80, hf81, hf82, hr83, hf84, hr85, hS86⟩ := hI74
        refine W.seq (W.seq (W.region ?_))
        refine WL.val (Value.int .i64 (k67 : Int)) _ (op_move hf84) rfl ?_
        refine WL.val u46 _ (op_move hf80) rfl ?_
        have hr87 := inR_len (St.rep (t := (Ty.sl (Ty.i .i64))) hS86 1 rfl)
        refine WL.val (Value.int .i64 ((x44).length : Int)) _ (op_lenL sl_33 (St.rep (t := (Ty.sl (Ty.i .i64))) hS86 1 rfl) rfl) rfl ?_
        refine WL.val (Value.bool (decide ((k67 : Int) < ((x44).length : Int)))) _ (op_lss rfl rfl) rfl ?_
        have hl88 : (k67 : Int) < ((x44).length : Int) := by omega
        refine WL.nil ?_
        refine W.condT (decide ((k67 : Int) < ((x44).length : Int))) rfl (decide_eq_true hl88) ?_
        refine W.skip ?_
        refine W.seq ?_
        refine W.block ?_
        refine W.seq (W.region ?_)
        refine WL.val (Value.int .i64 x58) _ (op_move hf81) rfl ?_
        refine WL.val (Value.int .i64 (k67 : Int)) _ (op_move hf84) rfl ?_
        obtain ⟨x90, hx91, hb73⟩ := bs hb73
        refine WL.call _ (op_call fn_64 (args2 rfl rfl)) (c_spec_l05Bit hr60 hr85 hx91) rfl ?_
        rintro _ wd92 ⟨rfl, he93⟩
        have hS95 := St.extend hS86 he93
        replace hS95 : St wd2 wd92 [(Ty.sl (Ty.i .i64)).at u32 x23, (Ty.sl (Ty.i .i64)).at u46 x44] := hS95
        refine WL.nil ?_
        show W _ _ _ _ _ _
        obtain ⟨x96, hj97, hb73⟩ := bs hb73
        refine W.cutCode (fun fq wq => fq 1 = (Value.pointer (some ⟨b1, 0, none⟩)) ∧ fq 3 = u32 ∧ fq 4 = (Value.int .i64 x37) ∧ fq 5 = u46 ∧ fq 6 = (Value.int .i64 x58) ∧ fq 7 = Value.int .i64 x96 ∧ InR .i64 x96 ∧ fq 8 = (Value.int .i64 (k67 : Int)) ∧ St wd2 wq [(Ty.sl (Ty.i .i64)).at u32 x23, (Ty.sl (Ty.i .i64)).at u46 x44]) ?_ ?_
        · refine W.cond x90 rfl (fun hc98 => ?_) (fun hc98 => ?_)
          · replace hj97 := ip hj97 hc98
            refine W.region ?_
            refine WL.val (Value.int .i64 x68) _ (op_move hf82) rfl ?_
            refine WL.val u46 _ (op_move hf80) rfl ?_
            refine WL.val (Value.int .i64 (k67 : Int)) _ (op_move hf84) rfl ?_
            obtain ⟨x99, hx102, hj97⟩ := bs hj97
            obtain ⟨ha100, hb101, hx102⟩ := idx_some hx102
            refine WL.val (Value.pointer (some (elA u46 ((k67 : Int)).toNat))) _ (op_idx sl_33 (St.rep (t := (Ty.sl (Ty.i .i64))) hS95 1 rfl) rfl rfl ha100 hb101) rfl ?_
            obtain ⟨u103, hc104, hr105⟩ := repSl.el (St.rep (t := (Ty.sl (Ty.i .i64))) hS95 1 rfl) hx102
            obtain ⟨rfl, hr105⟩ := hr105
            refine WL.val (Value.int .i64 x99) _ (op_load one_2 rfl hc104) rfl ?_
            refine WL.val (Value.int .u64 (IntKind.u64.wrap x99)) _ (op_convert rfl it_2 it_69) rfl ?_
            obtain ⟨x106, hz107, hj97⟩ := bs hj97
            obtain ⟨h0108, hz107⟩ := shlI_some hz107
            have hr109 : InR .i64 x106 := by rw [hz107]; exact inR_wrap _ _
            refine WL.val (Value.int .i64 x106) _ (by rw [hz107]; exact op_shl rfl rfl h0108) rfl ?_
            refine WL.val (Value.int .i64 (orI .i64 x68 x106)) _ (op_or rfl rfl) rfl ?_
            refine WL.val (Value.int .i64 (orI .i64 x68 x106)) _ (op_assign rfl) rfl ?_
            refine WL.nil ?_
            obtain rfl := Option.some.inj hj97
            exact ⟨hf77, hf78, hf79, hf80, hf81, rfl, (inR_wrap _ _), hf84, hS95⟩
          · replace hj97 := inegb hj97 hc98
            refine W.skip ?_
            obtain rfl := Option.some.inj hj97
            exact ⟨hf77, hf78, hf79, hf80, hf81, hf82, hr83, hf84, hS95⟩
        · intro f110 wd111 hq112
          obtain ⟨hf113, hf114, hf115, hf116, hf117, hf118, hr119, hf120, hS121⟩ := hq112
          show W _ _ _ _ _ _
          refine W.region ?_
          refine WL.val (Value.int .i64 (k67 : Int)) _ (op_move hf120) rfl ?_
          refine WL.val (Value.int .i64 (w64 ((k67 : Int) + (1 : Int)))) _ (op_add rfl rfl) rfl ?_
          refine WL.val (Value.int .i64 (w64 ((k67 : Int) + (1 : Int)))) _ (op_assign rfl) rfl ?_
          refine WL.nil ?_
          obtain rfl := Option.some.inj hb73
          show ∃ s, _ = Ctl.next s ∧ _
          exact ⟨_, rfl, hf113, hf114, hf115, hf116, hf117, hf118, hr119, (ctr_next hl88 hr87), (ctr_rng hl88 hr87), hS121⟩
      · intro x128 f123 wd124 hs125 hI126
        replace hI126 : f123 1 = (Value.pointer (some ⟨b1, 0, none⟩)) ∧ f123 3 = u32 ∧ f123 4 = (Value.int .i64 x37) ∧ f123 5 = u46 ∧ f123 6 = (Value.int .i64 x58) ∧ f123 7 = Value.int .i64 x128 ∧ InR .i64 x128 ∧ f123 8 = Value.int .i64 (((x44).length : Nat) : Int) ∧ InR .i64 (((x44).length : Nat) : Int) ∧ St wd2 wd124 [(Ty.sl (Ty.i .i64)).at u32 x23, (Ty.sl (Ty.i .i64)).at u46 x44] := hI126
        obtain ⟨hf129, hf130, hf131, hf132, hf133, hf134, hr135, hf136, hr137, hS138⟩ := hI126
        refine W.seq (W.seq (W.region ?_))
        refine WL.val (Value.int .i64 (((x44).length : Nat) : Int)) _ (op_move hf136) rfl ?_
        refine WL.val u46 _ (op_move hf132) rfl ?_
        have hr139 := inR_len (St.rep (t := (Ty.sl (Ty.i .i64))) hS138 1 rfl)
        refine WL.val (Value.int .i64 ((x44).length : Int)) _ (op_lenL sl_33 (St.rep (t := (Ty.sl (Ty.i .i64))) hS138 1 rfl) rfl) rfl ?_
        refine WL.val (Value.bool (decide ((((x44).length : Nat) : Int) < ((x44).length : Int)))) _ (op_lss rfl rfl) rfl ?_
        have hl140 : ¬ (((x44).length : Nat) : Int) < ((x44).length : Int) := by omega
        refine WL.nil ?_
        refine W.condF (decide ((((x44).length : Nat) : Int) < ((x44).length : Int))) rfl (decide_eq_false hl140) ?_
        refine W.exit ?_
        show _ = _ ∧ _
        exact ⟨rfl, _, hs125, hf129, hf130, hf131, hf134, hr135, (St.pick hS138 [0] rfl)⟩
    · rintro f141 wd142 ⟨x145, rfl, hq143⟩
      replace hb28 := onRes_fin hb28
      replace hq143 : f141 1 = (Value.pointer (some ⟨b1, 0, none⟩)) ∧ f141 3 = u32 ∧ f141 4 = (Value.int .i64 x37) ∧ f141 7 = Value.int .i64 x145 ∧ InR .i64 x145 ∧ St wd2 wd142 [(Ty.sl (Ty.i .i64)).at u32 x23] := hq143
      obtain ⟨hf146, hf147, hf148, hf149, hr150, hS151⟩ := hq143
      refine W.seq (W.seq (W.region ?_))
      refine WL.val (Value.int .i64 x145) _ (op_move hf149) rfl ?_
      refine WL.val (Value.int .i64 x37) _ (op_move hf148) rfl ?_
      refine WL.val (Value.bool (x145 == x37)) _ (op_eql rfl rfl) rfl ?_
      refine WL.nil ?_
      refine W.cond (x145 == x37) rfl (fun hc152 => ?_) (fun hc152 => ?_)
      · replace hb28 := ip hb28 hc152
        refine W.seq (W.region ?_)
        refine WL.val u32 _ (op_move hf147) rfl ?_
        refine WL.val u32 _ (op_assign rfl) rfl ?_
        refine WL.nil ?_
        refine W.ret ?_
        obtain rfl := Option.some.inj hb28
        obtain rfl := hret31 _ rfl
        replace h := onRes_ret h
        obtain rfl := Option.some.inj h
        show FinP _ _ _ _ _ _ _
        exact FinP.ret _ (res1 rfl rfl) ⟨u32, rfl, (Ext.trans hE7 hS151.ext), (St.out (St.pick hS151 [0] rfl) (hE7))⟩
      · replace hb28 := inegb hb28 hc152
        refine W.skip ?_
        show W _ _ _ _ _ _
        refine W.region ?_
        refine WL.val u32 _ (op_move hf147) rfl ?_
        refine WL.val (Value.int .i64 x145) _ (op_move hf149) rfl ?_
        refine WL.litFlat (t := (Ty.i .i64)) (flat_i .i64) [(Value.int .i64 x145)] [x145] hS151 sl_33 rfl rfl (fillL rfl ⟨rfl, rfl, rfl, trivial⟩) rfl rfl (litL ⟨⟨rfl, hr150⟩, trivial⟩) rfl ?_
        intro u154 wd155 hS156 he157
        replace hS156 : St wd2 wd155 [(Ty.sl (Ty.i .i64)).at u32 x23, (Ty.sl (Ty.i .i64)).at u154 ([x145] : (List Int))] := hS156
        obtain ⟨x158, hx159, hb28⟩ := bs hb28
        refine WL.append (flat_i .i64) hS156 (k := 0) rfl sl_33 rfl rfl rfl rfl (St.rep (t := (Ty.sl (Ty.i .i64))) hS156 1 rfl) hx159 rfl ?_
        intro u160 wd161 hS162 hz163
        replace hS162 : St wd2 wd161 [(Ty.sl (Ty.i .i64)).at u160 x158, (Ty.sl (Ty.i .i64)).at u154 ([x145] : (List Int))] := hS162
        refine WL.val u160 _ (op_assign rfl) rfl ?_
        refine WL.nil ?_
        obtain rfl := Option.some.inj hb28
        show ∃ s, _ = Ctl.next s ∧ _
        exact ⟨_, rfl, u160, hf146, rfl, (St.pick hS162 [0] rfl)⟩
  · rintro f166 wd167 ⟨x170, rfl, hq168⟩
    replace h := onRes_fin h
    replace hq168 : St wd2 wd167 [] := hq168
    exact nomatch (show (none : Option _) = some _ from h)

theorem c_spec_AdjointSeries {w : World} {r_Table : (List (List (List Int)))} {v_r_Table : Value} (r_r_Table : (Ty.sl (Ty.sl (Ty.sl (Ty.i .i64)))).rep w v_r_Table r_Table) {res : (List Int) × Int} (h : p_spec_AdjointSeries r_Table  = some res) :
    Ret Tryd.prog 15 #[(Value.agg #[v_r_Table])] w (fun v w' => ∃ (u0 : Value), v = (Value.tuple #[u0, Value.int .i64 res.2]) ∧ InR .i64 res.2 ∧ Ext w w' ∧ Sep w.heap.size w' [(Ty.sl (Ty.i .i64)).at u0 res.1]) := by
  unfold p_spec_AdjointSeries at h
  have hS0 : St w w [] := St.start w
  refine Ret.start (fn := Tryd.f15) Tryd.func15 rfl 9 rfl rfl ?_
  refine W.seq (W.region ?_)
  refine WL.box hS0 rfl (cs := [v_r_Table]) rfl rfl ?_
  intro b1 wd2 hS3 he4 hx5
  replace hS3 : St w wd2 [bx b1 [v_r_Table]] := hS3
  have hx6 := St.boxAt hS3 0 rfl
  have hE7 : Ext w wd2 := hS3.ext
  have hS8 : St wd2 wd2 [] := St.start wd2
  refine WL.val (Value.slice none 0 0) _ (op_assign rfl) rfl ?_
  refine WL.val (Value.int .i64 (0 : Int)) _ (op_assign rfl) rfl ?_
  refine WL.nil ?_
  refine W.seq (W.seq (W.region ?_))
  refine WL.val (Value.agg #[v_r_Table]) _ (op_loadBox st_26 rfl (BoxAt.lift hS8.ext hx6) rfl rfl) rfl ?_
  obtain ⟨x9, hx10, h⟩ := bs h
  refine WL.call _ (op_call fn_40 (args1 rfl)) (c_spec_l03Is (Ty.lift _ (Ext.trans hE7 hS8.ext) r_r_Table) hx10) rfl ?_
  rintro _ wd11 ⟨rfl, he12⟩
  have hS14 := St.extend hS8 he12
  replace hS14 : St wd2 wd11 [] := hS14
  refine WL.val (Value.bool (!x9)) _ (op_not rfl) rfl ?_
  refine WL.nil ?_
  refine W.cond (!x9) rfl (fun hc15 => ?_) (fun hc15 => ?_)
  · replace h := ip h hc15
    refine W.seq (W.region ?_)
    refine WL.val (Value.slice none 0 0) _ (op_assign rfl) rfl ?_
    refine WL.val (Value.int .i64 (1 : Int)) _ (op_assign rfl) rfl ?_
    refine WL.nil ?_
    refine W.ret ?_
    obtain rfl := Option.some.inj h
    show FinP _ _ _ _ _ _ _
    exact FinP.ret _ (res2 rfl rfl rfl) ⟨(Value.slice none 0 0), rfl, (inL rfl), (Ext.trans hE7 hS14.ext), (St.out (St.pick (St.addNil (Ty.i .i64) hS14) [0] rfl) (hE7))⟩
  · replace h := inegb h hc15
    refine W.skip ?_
    refine W.seq (W.region ?_)
    refine WL.val (Value.agg #[v_r_Table]) _ (op_loadBox st_26 rfl (BoxAt.lift hS14.ext hx6) rfl rfl) rfl ?_
    obtain ⟨x17, hx18, h⟩ := bs h
    refine WL.call _ (op_call fn_41 (args1 rfl)) (c_spec_l05Series (Ty.lift _ (Ext.trans hE7 hS14.ext) r_r_Table) hx18) rfl ?_
    rintro u19 wd20 ⟨_, rfl, he21, hs22⟩
    have hS23 := St.join hS14 he21 hs22
    replace hS23 : St wd2 wd20 [(Ty.sl (Ty.i .i64)).at u19 x17] := hS23
    refine WL.val u19 _ (op_assign rfl) rfl ?_
    refine WL.val (Value.int .i64 (0 : Int)) _ (op_assign rfl) rfl ?_
    refine WL.nil ?_
    refine W.ret ?_
    obtain rfl := Option.some.inj h
    show FinP _ _ _ _ _ _ _
    exact FinP.ret _ (res2 rfl rfl rfl) ⟨u19, rfl, (inL rfl), (Ext.trans hE7 hS23.ext), (St.out (St.pick hS23 [0] rfl) (hE7))⟩

theorem c_impl_Ring_adjoint {w : World} {r_Table : (List (List (List Int)))} {v_r_Table : Value} (tb : TabAt w) (r_r_Table : (Ty.sl (Ty.sl (Ty.sl (Ty.i .i64)))).rep w v_r_Table r_Table) {res : Int} (h : p_impl_Ring_adjoint r_Table  = some res) :
    Ret Tryd.prog 67 #[(Value.agg #[v_r_Table])] w (fun v w' => v = Value.int .i64 res ∧ InR .i64 res ∧ Ext w w') := by
  unfold p_impl_Ring_adjoint at h
  have hS0 : St w w [] := St.start w
  refine Ret.start (fn := Tryd.f67) Tryd.func67 rfl 30 rfl rfl ?_
  refine W.seq (W.region ?_)
  refine WL.box hS0 rfl (cs := [v_r_Table]) rfl rfl ?_
  intro b1 wd2 hS3 he4 hx5
  replace hS3 : St w wd2 [bx b1 [v_r_Table]] := hS3
  have hx6 := St.boxAt hS3 0 rfl
  have hE7 : Ext w wd2 := hS3.ext
  have hS8 : St wd2 wd2 [] := St.start wd2
  refine WL.val (Value.int .i64 (0 : Int)) _ (op_assign rfl) rfl ?_
  refine WL.nil ?_
  refine W.seq (W.region ?_)
  refine WL.val (Value.agg #[v_r_Table]) _ (op_loadBox st_26 rfl (BoxAt.lift hS8.ext hx6) rfl rfl) rfl ?_
  obtain ⟨x9, hx10, h⟩ := bs h
  refine WL.call _ (op_call fn_47 (args1 rfl)) (c_impl_Ring_supports (Ty.lift _ (Ext.trans hE7 hS8.ext) r_r_Table) hx10) rfl ?_
  rintro u11 wd12 ⟨_, rfl, he13, hs14⟩
  have hS15 := St.join hS8 he13 hs14
  replace hS15 : St wd2 wd12 [(Ty.sl (Ty.sl (Ty.i .i64))).at u11 x9] := hS15
  have hb16 := St.rep (t := (Ty.sl (Ty.sl (Ty.i .i64)))) hS15 0 rfl
  have hE17 : Ext w wd12 := (Ext.trans hE7 hS15.ext)
  have hE18 : Ext wd2 wd12 := hS15.ext
  have hS19 : St wd12 wd12 [] := St.start wd12
  refine WL.val u11 _ (op_assign rfl) rfl ?_
  refine WL.val (Value.int .i64 (0 : Int)) _ (op_assign rfl) rfl ?_
  refine WL.nil ?_
  refine W.seq (W.seq (W.region ?_))
  refine WL.val (Value.agg #[v_r_Table]) _ (op_loadBox st_26 rfl (BoxAt.lift (Ext.trans hE18 hS19.ext) hx6) rfl rfl) rfl ?_
  obtain ⟨x20, hx21, h⟩ := bs h
  refine WL.call _ (op_call fn_59 (args1 rfl)) (c_impl_Ring_duals (Ty.lift _ (Ext.trans hE17 hS19.ext) r_r_Table) hx21) rfl ?_
  rintro u22 wd23 ⟨_, rfl, he24, hs25⟩
  have hS26 := St.join hS19 he24 hs25
  replace hS26 : St wd12 wd23 [(Ty.sl (Ty.i .i64)).at u22 x20] := hS26
  have hb27 := St.rep (t := (Ty.sl (Ty.i .i64))) hS26 0 rfl
  have hE28 : Ext w wd23 := (Ext.trans hE17 hS26.ext)
  have hE29 : Ext wd2 wd23 := (Ext.trans hE18 hS26.ext)
  have hE30 : Ext wd12 wd23 := hS26.ext
  have hS31 : St wd23 wd23 [] := St.start wd23
  have hr32 := inR_len (Ty.lift _ hS31.ext hb27)
  refine WL.val (Value.int .i64 ((x20).length : Int)) _ (op_lenL sl_61 (Ty.lift _ hS31.ext hb27) rfl) rfl ?_
  refine WL.val (Value.int .i64 (0 : Int)) _ (op_move rfl) rfl ?_
  refine WL.nil ?_
  show W _ _ _ _ _ _
  obtain ⟨res33, hres34, h⟩ := bs h
  refine W.blockLoop (fun fq wq => ∃ s, res33 = Res.fin s ∧ fq 1 = (Value.pointer (some ⟨b1, 0, none⟩)) ∧ fq 4 = Value.int .i64 s ∧ InR .i64 s ∧ St wd23 wq []) ?_ ?_
  · refine W.forN (fun k (s : Int) fq wq => fq 1 = (Value.pointer (some ⟨b1, 0, none⟩)) ∧ fq 3 = u11 ∧ fq 4 = Value.int .i64 s ∧ InR .i64 s ∧ fq 10 = u22 ∧ fq 11 = (Value.int .i64 ((x20).length : Int)) ∧ fq 12 = Value.int .i64 (k : Int) ∧ InR .i64 (k : Int) ∧ St wd23 wq []) hres34 ⟨rfl, rfl, rfl, (inL rfl), rfl, rfl, rfl, (inL rfl), hS31⟩ ?_ ?_
    · intro k35 x36 ct37 f38 wd39 hk40 hb41 hI42 hbrk43 hret44
      replace hI42 : f38 1 = (Value.pointer (some ⟨b1, 0, none⟩)) ∧ f38 3 = u11 ∧ f38 4 = Value.int .i64 x36 ∧ InR .i64 x36 ∧ f38 10 = u22 ∧ f38 11 = (Value.int .i64 ((x20).length : Int)) ∧ f38 12 = Value.int .i64 (k35 : Int) ∧ InR .i64 (k35 : Int) ∧ St wd23 wd39 [] := hI42
      replace hb41 : p_impl_Ring_adjoint_L1 x20 x9 k35 x36 = some ct37 := hb41
      unfold p_impl_Ring_adjoint_L1 at hb41
      obtain ⟨hf45, hf46, hf47, hr48, hf49, hf50, hf51, hr52, hS53⟩ := hI42
      refine W.seq (W.region ?_)
      refine WL.val (Value.bool (decide ((k35 : Int) < ((x20).length : Int)))) _ (op_lss hf51 hf50) rfl ?_
      have hl54 : (k35 : Int) < ((x20).length : Int) := by omega
      refine WL.nil ?_
      refine W.seq ?_
      refine W.condT (decide ((k35 : Int) < ((x20).length : Int))) rfl (decide_eq_true hl54) ?_
      refine W.skip ?_
      refine W.seq ?_
      refine W.block ?_
      refine W.seq (W.region ?_)
      refine WL.val (Value.int .i64 (k35 : Int)) _ (op_move hf51) rfl ?_
      obtain ⟨x56, hx59, hb41⟩ := bs hb41
      obtain ⟨ha57, hb58, hx59⟩ := idx_some hx59
      refine WL.val (Value.pointer (some (elA u22 ((k35 : Int)).toNat))) _ (op_idx sl_61 (Ty.lift _ hS53.ext hb27) hf49 hf51 ha57 hb58) rfl ?_
      obtain ⟨u60, hc61, hr62⟩ := repSl.el hb27 hx59
      obtain ⟨rfl, hr62⟩ := hr62
      refine WL.val (Value.int .i64 x56) _ (op_load one_3 rfl (Ext.cell hS53.ext hc61)) rfl ?_
      refine WL.val (Value.int .i64 (k35 : Int)) _ (op_assign rfl) rfl ?_
      refine WL.val (Value.int .i64 x56) _ (op_assign rfl) rfl ?_
      refine WL.nil ?_
      show W _ _ _ _ _ _
      refine W.region ?_
      refine WL.val (Value.int .i64 x36) _ (op_move hf47) rfl ?_
      refine WL.val u11 _ (op_move hf46) rfl ?_
      refine WL.val (Value.int .i64 (k35 : Int)) _ (op_move rfl) rfl ?_
      obtain ⟨x63, hx66, hb41⟩ := bs hb41
      obtain ⟨ha64, hb65, hx66⟩ := idx_some hx66
      refine WL.val (Value.pointer (some (elA u11 ((k35 : Int)).toNat))) _ (op_idx sl_41 (Ty.lift _ (Ext.trans hE30 hS53.ext) hb16) rfl rfl ha64 hb65) rfl ?_
      obtain ⟨u67, hc68, hr69⟩ := repSl.el hb16 hx66
      refine WL.val u67 _ (op_load one_33 rfl (Ext.cell (Ext.trans hE30 hS53.ext) hc68)) rfl ?_
      refine WL.val (Value.int .i64 x56) _ (op_move rfl) rfl ?_
      obtain ⟨x70, hx73, hb41⟩ := bs hb41
      obtain ⟨ha71, hb72, hx73⟩ := idx_some hx73
      refine WL.val (Value.pointer (some (elA u67 (x56).toNat))) _ (op_idx sl_33 (Ty.lift _ (Ext.trans hE30 hS53.ext) hr69) rfl rfl ha71 hb72) rfl ?_
      obtain ⟨u74, hc75, hr76⟩ := repSl.el hr69 hx73
      obtain ⟨rfl, hr76⟩ := hr76
      refine WL.val (Value.int .i64 x70) _ (op_load one_2 rfl (Ext.cell (Ext.trans hE30 hS53.ext) hc75)) rfl ?_
      refine WL.val (Value.int .i64 (orI .i64 x36 x70)) _ (op_or rfl rfl) rfl ?_
      refine WL.val (Value.int .i64 (orI .i64 x36 x70)) _ (op_assign rfl) rfl ?_
      refine WL.nil ?_
      show W _ _ _ _ _ _
      refine W.region ?_
      refine WL.val (Value.int .i64 (w64 ((k35 : Int) + (1 : Int)))) _ (op_add hf51 rfl) rfl ?_
      refine WL.val (Value.int .i64 (w64 ((k35 : Int) + (1 : Int)))) _ (op_move rfl) rfl ?_
      refine WL.nil ?_
      obtain rfl := Option.some.inj hb41
      show ∃ s, _ = Ctl.next s ∧ _
      exact ⟨_, rfl, hf45, hf46, rfl, (inR_wrap _ _), hf49, hf50, (ctr_next hl54 hr32), (ctr_rng hl54 hr32), hS53⟩
    · intro x83 f78 wd79 hs80 hI81
      replace hI81 : f78 1 = (Value.pointer (some ⟨b1, 0, none⟩)) ∧ f78 3 = u11 ∧ f78 4 = Value.int .i64 x83 ∧ InR .i64 x83 ∧ f78 10 = u22 ∧ f78 11 = (Value.int .i64 ((x20).length : Int)) ∧ f78 12 = Value.int .i64 (((x20).length : Nat) : Int) ∧ InR .i64 (((x20).length : Nat) : Int) ∧ St wd23 wd79 [] := hI81
      obtain ⟨hf84, hf85, hf86, hr87, hf88, hf89, hf90, hr91, hS92⟩ := hI81
      refine W.seq (W.region ?_)
      refine WL.val (Value.bool (decide ((((x20).length : Nat) : Int) < ((x20).length : Int)))) _ (op_lss hf90 hf89) rfl ?_
      have hl93 : ¬ (((x20).length : Nat) : Int) < ((x20).length : Int) := by omega
      refine WL.nil ?_
      refine W.seq ?_
      refine W.condF (decide ((((x20).length : Nat) : Int) < ((x20).length : Int))) rfl (decide_eq_false hl93) ?_
      refine W.exit ?_
      show _ = _ ∧ _
      exact ⟨rfl, _, hs80, hf84, hf86, hr87, hS92⟩
  · rintro f94 wd95 ⟨x98, rfl, hq96⟩
    replace h := onRes_fin h
    replace hq96 : f94 1 = (Value.pointer (some ⟨b1, 0, none⟩)) ∧ f94 4 = Value.int .i64 x98 ∧ InR .i64 x98 ∧ St wd23 wd95 [] := hq96
    obtain ⟨hf99, hf100, hr101, hS102⟩ := hq96
    refine W.seq (W.region ?_)
    refine WL.val (Value.agg #[v_r_Table]) _ (op_loadBox st_26 hf99 (BoxAt.lift (Ext.trans hE29 hS102.ext) hx6) rfl rfl) rfl ?_
    refine WL.val (Value.int .i64 x98) _ (op_move hf100) rfl ?_
    obtain ⟨x103, hx104, h⟩ := bs h
    refine WL.call _ (op_call fn_35 (args2 rfl rfl)) (c_impl_Ring_closed (tb.ext (Ext.trans hE28 hS102.ext)) (Ty.lift _ (Ext.trans hE28 hS102.ext) r_r_Table) hr101 hx104) rfl ?_
    rintro _ wd106 ⟨rfl, hr105, he107⟩
    have hS109 := St.extend hS102 he107
    replace hS109 : St wd23 wd106 [] := hS109
    refine WL.val (Value.int .i64 x103) _ (op_assign rfl) rfl ?_
    refine WL.nil ?_
    refine W.ret ?_
    obtain rfl := Option.some.inj h
    show FinP _ _ _ _ _ _ _
    exact FinP.ret _ (res1 rfl rfl) ⟨rfl, hr105, (Ext.trans hE28 hS109.ext)⟩

theorem c_impl_Ring_series {w : World} {r_Table : (List (List (List Int)))} {v_r_Table : Value} (tb : TabAt w) (r_r_Table : (Ty.sl (Ty.sl (Ty.sl (Ty.i .i64)))).rep w v_r_Table r_Table) {res : (List Int)} (h : p_impl_Ring_series r_Table  = some res) :
    Ret Tryd.prog 43 #[(Value.agg #[v_r_Table])] w (fun v w' => ∃ (u0 : Value), v = u0 ∧ Ext w w' ∧ Sep w.heap.size w' [(Ty.sl (Ty.i .i64)).at u0 res]) := by
  unfold p_impl_Ring_series at h
  have hS0 : St w w [] := St.start w
  refine Ret.start (fn := Tryd.f43) Tryd.func43 rfl 45 rfl rfl ?_
  refine W.seq (W.region ?_)
  refine WL.box hS0 rfl (cs := [v_r_Table]) rfl rfl ?_
  intro b1 wd2 hS3 he4 hx5
  replace hS3 : St w wd2 [bx b1 [v_r_Table]] := hS3
  have hx6 := St.boxAt hS3 0 rfl
  have hE7 : Ext w wd2 := hS3.ext
  have hS8 : St wd2 wd2 [] := St.start wd2
  refine WL.val (Value.slice none 0 0) _ (op_assign rfl) rfl ?_
  refine WL.nil ?_
  refine W.seq (W.region ?_)
  refine WL.val (Value.pointer (some ⟨b1, 0, none⟩)) _ (op_fieldAddr fd_26_0 rfl) rfl ?_
  refine WL.val v_r_Table _ (op_load one_22 rfl (BoxAt.cell (BoxAt.lift hS8.ext hx6) rfl)) rfl ?_
  have hr9 := inR_len (Ty.lift _ (Ext.trans hE7 hS8.ext) r_r_Table)
  refine WL.val (Value.int .i64 ((r_Table).length : Int)) _ (op_lenL sl_22 (Ty.lift _ (Ext.trans hE7 hS8.ext) r_r_Table) rfl) rfl ?_
  obtain ⟨x10, hz11, h⟩ := bs h
  obtain ⟨h012, hz11⟩ := shlI_some hz11
  have hr13 : InR .i64 x10 := by rw [hz11]; exact inR_wrap _ _
  refine WL.val (Value.int .i64 x10) _ (by rw [hz11]; exact op_shl rfl rfl h012) rfl ?_
  refine WL.val (Value.int .i64 (w64 (x10 - (1 : Int)))) _ (op_sub rfl rfl) rfl ?_
  refine WL.val (Value.int .i64 (w64 (x10 - (1 : Int)))) _ (op_assign rfl) rfl ?_
  refine WL.nil ?_
  refine W.seq (W.region ?_)
  refine WL.val (Value.int .i64 (w64 (x10 - (1 : Int)))) _ (op_move rfl) rfl ?_
  refine WL.litFlat (t := (Ty.i .i64)) (flat_i .i64) [(Value.int .i64 (w64 (x10 - (1 : Int))))] [(w64 (x10 - (1 : Int)))] hS8 sl_33 rfl rfl (fillL rfl ⟨rfl, rfl, rfl, trivial⟩) rfl rfl (litL ⟨⟨rfl, (inR_wrap _ _)⟩, trivial⟩) rfl ?_
  intro u14 wd15 hS16 he17
  replace hS16 : St wd2 wd15 [(Ty.sl (Ty.i .i64)).at u14 ([(w64 (x10 - (1 : Int)))] : (List Int))] := hS16
  refine WL.val u14 _ (op_assign rfl) rfl ?_
  refine WL.nil ?_
  show W _ _ _ _ _ _
  obtain ⟨res18, hres19, h⟩ := bs h
  refine W.blockLoop (fun fq wq => ∃ s, res18 = Res.fin s ∧ St wd2 wq []) ?_ ?_
  · refine W.whileC (fun (s : (List Int) × Int) fq wq => ∃ (uu0 : Value), fq 1 = (Value.pointer (some ⟨b1, 0, none⟩)) ∧ fq 3 = Value.int .i64 s.2 ∧ InR .i64 s.2 ∧ fq 4 = uu0 ∧ St wd2 wq [(Ty.sl (Ty.i .i64)).at uu0 s.1]) hres19 ⟨u14, rfl, rfl, (inR_wrap _ _), rfl, hS16⟩ ?_
    intro s152 ct23 f24 wd25 hb27 hI28 hbrk29 hret30
    obtain ⟨x21, x22⟩ := s152
    replace hI28 : ∃ (uu0 : Value), f24 1 = (Value.pointer (some ⟨b1, 0, none⟩)) ∧ f24 3 = Value.int .i64 x22 ∧ InR .i64 x22 ∧ f24 4 = uu0 ∧ St wd2 wd25 [(Ty.sl (Ty.i .i64)).at uu0 x21] := hI28
    replace hb27 : p_impl_Ring_series_L1 r_Table  x21 x22 = some ct23 := hb27
    unfold p_impl_Ring_series_L1 at hb27
    obtain ⟨u31, hf32, hf33, hr34, hf35, hS36⟩ := hI28
    refine W.block ?_
    refine W.seq (W.region ?_)
    refine WL.val (Value.int .i64 x22) _ (op_move hf33) rfl ?_
    obtain ⟨x37, hx38, hb27⟩ := bs hb27
    refine WL.call _ (op_call fn_49 (args1 rfl)) (c_impl_labelsIn (tb.ext (Ext.trans hE7 hS36.ext)) hr34 hx38) rfl ?_
    rintro u39 wd40 ⟨_, rfl, he41, hs42⟩
    have hS43 := St.join hS36 he41 hs42
    replace hS43 : St wd2 wd40 [(Ty.sl (Ty.i .i64)).at u31 x21, (Ty.sl (Ty.i .i64)).at u39 x37] := hS43
    refine WL.val u39 _ (op_assign rfl) rfl ?_
    refine WL.val (Value.int .i64 (0 : Int)) _ (op_assign rfl) rfl ?_
    refine WL.nil ?_
    refine W.seq (W.seq (W.region ?_))
    refine WL.val (Value.agg #[v_r_Table]) _ (op_loadBox st_26 hf32 (BoxAt.lift hS43.ext hx6) rfl rfl) rfl ?_
    refine WL.val (Value.int .i64 x22) _ (op_move hf33) rfl ?_
    obtain ⟨x44, hx45, hb27⟩ := bs hb27
    refine WL.call _ (op_call fn_36 (args2 rfl rfl)) (c_impl_Ring_ringOf (tb.ext (Ext.trans hE7 hS43.ext)) (Ty.lift _ (Ext.trans hE7 hS43.ext) r_r_Table) hr34 hx45) rfl ?_
    rintro _ wd47 ⟨u46, rfl, he48, hs49⟩
    have hS50 := St.join hS43 he48 hs49
    replace hS50 : St wd2 wd47 [(Ty.sl (Ty.i .i64)).at u31 x21, (Ty.sl (Ty.i .i64)).at u39 x37, (Ty.sl (Ty.sl (Ty.sl (Ty.i .i64)))).at u46 x44] := hS50
    obtain ⟨x51, hx52, hb27⟩ := bs hb27
    refine WL.call _ (op_call fn_67 (args1 rfl)) (c_impl_Ring_adjoint (tb.ext (Ext.trans hE7 hS50.ext)) (St.rep (t := (Ty.sl (Ty.sl (Ty.sl (Ty.i .i64))))) hS50 2 rfl) hx52) rfl ?_
    rintro _ wd54 ⟨rfl, hr53, he55⟩
    have hS57 := St.extend hS50 he55
    replace hS57 : St wd2 wd54 [(Ty.sl (Ty.i .i64)).at u31 x21, (Ty.sl (Ty.i .i64)).at u39 x37, (Ty.sl (Ty.sl (Ty.sl (Ty.i .i64)))).at u46 x44] := hS57
    obtain ⟨x58, hx59, hb27⟩ := bs hb27
    refine WL.call _ (op_call fn_49 (args1 rfl)) (c_impl_labelsIn (tb.ext (Ext.trans hE7 hS57.ext)) hr53 hx59) rfl ?_
    rintro u60 wd61 ⟨_, rfl, he62, hs63⟩
    have hS64 := St.join hS57 he62 hs63
    replace hS64 : St wd2 wd61 [(Ty.sl (Ty.i .i64)).at u31 x21, (Ty.sl (Ty.i .i64)).at u39 x37, (Ty.sl (Ty.sl (Ty.sl (Ty.i .i64)))).at u46 x44, (Ty.sl (Ty.i .i64)).at u60 x58] := hS64
    have hr65 := inR_len (St.rep (t := (Ty.sl (Ty.i .i64))) hS64 3 rfl)
    refine WL.val (Value.int .i64 ((x58).length : Int)) _ (op_lenL sl_61 (St.rep (t := (Ty.sl (Ty.i .i64))) hS64 3 rfl) rfl) rfl ?_
    refine WL.val (Value.int .i64 (0 : Int)) _ (op_move rfl) rfl ?_
    refine WL.nil ?_
    show W _ _ _ _ _ _
    obtain ⟨res66, hres67, hb27⟩ := bs hb27
    refine W.blockLoop (fun fq wq => ∃ s, res66 = Res.fin s ∧ fq 1 = (Value.pointer (some ⟨b1, 0, none⟩)) ∧ fq 3 = (Value.int .i64 x22) ∧ fq 4 = u31 ∧ fq 6 = Value.int .i64 s ∧ InR .i64 s ∧ St wd2 wq [(Ty.sl (Ty.i .i64)).at u31 x21]) ?_ ?_
    · refine W.forN (fun k (s : Int) fq wq => fq 1 = (Value.pointer (some ⟨b1, 0, none⟩)) ∧ fq 3 = (Value.int .i64 x22) ∧ fq 4 = u31 ∧ fq 5 = u39 ∧ fq 6 = Value.int .i64 s ∧ InR .i64 s ∧ fq 22 = u60 ∧ fq 23 = (Value.int .i64 ((x58).length : Int)) ∧ fq 24 = Value.int .i64 (k : Int) ∧ InR .i64 (k : Int) ∧ St wd2 wq [(Ty.sl (Ty.i .i64)).at u31 x21, (Ty.sl (Ty.i .i64)).at u39 x37, (Ty.sl (Ty.i .i64)).at u60 x58]) hres67 ⟨hf32, hf33, hf35, rfl, rfl, (inL rfl), rfl, rfl, rfl, (inL rfl), (St.pick hS64 [0, 1, 3] rfl)⟩ ?_ ?_
      · intro k68 x69 ct70 f71 wd72 hk73 hb74 hI75 hbrk76 hret77
        replace hI75 : f71 1 = (Value.pointer (some ⟨b1, 0, none⟩)) ∧ f71 3 = (Value.int .i64 x22) ∧ f71 4 = u31 ∧ f71 5 = u39 ∧ f71 6 = Value.int .i64 x69 ∧ InR .i64 x69 ∧ f71 22 = u60 ∧ f71 23 = (Value.int .i64 ((x58).length : Int)) ∧ f71 24 = Value.int .i64 (k68 : Int) ∧ InR .i64 (k68 : Int) ∧ St wd2 wd72 [(Ty.sl (Ty.i .i64)).at u31 x21, (Ty.sl (Ty.i .i64)).at u39 x37, (Ty.sl (Ty.i .i64)).at u60 x58] := hI75
        replace hb74 : p_impl_Ring_series_L2 x58 x37 k68 x69 = some ct70 := hb74
        unfold p_impl_Ring_series_L2 at hb74
        obtain ⟨hf78, hf79, hf80, hf81, hf82, hr83, hf84, hf85, hf86, hr87, hS88⟩ := hI75
        refine W.seq (W.region ?_)
        refine WL.val (Value.bool (decide ((k68 : Int) < ((x58).length : Int)))) _ (op_lss hf86 hf85) rfl ?_
        have hl89 : (k68 : Int) < ((x58).length : Int) := by omega
        refine WL.nil ?_
        refine W.seq ?_
        refine W.condT (decide ((k68 : Int) < ((x58).length : Int))) rfl (decide_eq_true hl89) ?_
        refine W.skip ?_
        refine W.seq ?_
        refine W.block ?_
        refine W.seq (W.region ?_)
        obtain ⟨x91, hx94, hb74⟩ := bs hb74
        obtain ⟨ha92, hb93, hx94⟩ := idx_some hx94
        refine WL.val (Value.pointer (some (elA u60 ((k68 : Int)).toNat))) _ (op_idx sl_61 (St.rep (t := (Ty.sl (Ty.i .i64))) hS88 2 rfl) hf84 hf86 ha92 hb93) rfl ?_
        obtain ⟨u95, hc96, hr97⟩ := repSl.el (St.rep (t := (Ty.sl (Ty.i .i64))) hS88 2 rfl) hx94
        obtain ⟨rfl, hr97⟩ := hr97
        refine WL.val (Value.int .i64 x91) _ (op_load one_3 rfl hc96) rfl ?_
        refine WL.val (Value.int .i64 x91) _ (op_assign rfl) rfl ?_
        refine WL.nil ?_
        show W _ _ _ _ _ _
        refine W.region ?_
        refine WL.val (Value.int .i64 x69) _ (op_move hf82) rfl ?_
        refine WL.val u39 _ (op_move hf81) rfl ?_
        refine WL.val (Value.int .i64 x91) _ (op_move rfl) rfl ?_
        obtain ⟨x98, hx101, hb74⟩ := bs hb74
        obtain ⟨ha99, hb100, hx101⟩ := idx_some hx101
        refine WL.val (Value.pointer (some (elA u39 (x91).toNat))) _ (op_idx sl_61 (St.rep (t := (Ty.sl (Ty.i .i64))) hS88 1 rfl) rfl rfl ha99 hb100) rfl ?_
        obtain ⟨u102, hc103, hr104⟩ := repSl.el (St.rep (t := (Ty.sl (Ty.i .i64))) hS88 1 rfl) hx101
        obtain ⟨rfl, hr104⟩ := hr104
        refine WL.val (Value.int .i64 x98) _ (op_load one_3 rfl hc103) rfl ?_
        obtain ⟨x105, hz106, hb74⟩ := bs hb74
        obtain ⟨h0107, hz106⟩ := shlI_some hz106
        have hr108 : InR .i64 x105 := by rw [hz106]; exact inR_wrap _ _
        refine WL.val (Value.int .i64 x105) _ (by rw [hz106]; exact op_shl rfl rfl h0107) rfl ?_
        refine WL.val (Value.int .i64 (orI .i64 x69 x105)) _ (op_or rfl rfl) rfl ?_
        refine WL.val (Value.int .i64 (orI .i64 x69 x105)) _ (op_assign rfl) rfl ?_
        refine WL.nil ?_
        show W _ _ _ _ _ _
        refine W.region ?_
        refine WL.val (Value.int .i64 (w64 ((k68 : Int) + (1 : Int)))) _ (op_add hf86 rfl) rfl ?_
        refine WL.val (Value.int .i64 (w64 ((k68 : Int) + (1 : Int)))) _ (op_move rfl) rfl ?_
        refine WL.nil ?_
        obtain rfl := Option.some.inj hb74
        show ∃ s, _ = Ctl.next s ∧ _
        exact ⟨_, rfl, hf78, hf79, hf80, hf81, rfl, (inR_wrap _ _), hf84, hf85, (ctr_next hl89 hr65), (ctr_rng hl89 hr65), hS88⟩
      · intro x115 f110 wd111 hs112 hI113
        replace hI113 : f110 1 = (Value.pointer (some ⟨b1, 0, none⟩)) ∧ f110 3 = (Value.int .i64 x22) ∧ f110 4 = u31 ∧ f110 5 = u39 ∧ f110 6 = Value.int .i64 x115 ∧ InR .i64 x115 ∧ f110 22 = u60 ∧ f110 23 = (Value.int .i64 ((x58).length : Int)) ∧ f110 24 = Value.int .i64 (((x58).length : Nat) : Int) ∧ InR .i64 (((x58).length : Nat) : Int) ∧ St wd2 wd111 [(Ty.sl (Ty.i .i64)).at u31 x21, (Ty.sl (Ty.i .i64)).at u39 x37, (Ty.sl (Ty.i .i64)).at u60 x58] := hI113
        obtain ⟨hf116, hf117, hf118, hf119, hf120, hr121, hf122, hf123, hf124, hr125, hS126⟩ := hI113
        refine W.seq (W.region ?_)
        refine WL.val (Value.bool (decide ((((x58).length : Nat) : Int) < ((x58).length : Int)))) _ (op_lss hf124 hf123) rfl ?_
        have hl127 : ¬ (((x58).length : Nat) : Int) < ((x58).length : Int) := by omega
        refine WL.nil ?_
        refine W.seq ?_
        refine W.condF (decide ((((x58).length : Nat) : Int) < ((x58).length : Int))) rfl (decide_eq_false hl127) ?_
        refine W.exit ?_
        show _ = _ ∧ _
        exact ⟨rfl, _, hs112, hf116, hf117, hf118, hf120, hr121, (St.pick hS126 [0] rfl)⟩
    · rintro f128 wd129 ⟨x132, rfl, hq130⟩
      replace hb27 := onRes_fin hb27
      replace hq130 : f128 1 = (Value.pointer (some ⟨b1, 0, none⟩)) ∧ f128 3 = (Value.int .i64 x22) ∧ f128 4 = u31 ∧ f128 6 = Value.int .i64 x132 ∧ InR .i64 x132 ∧ St wd2 wd129 [(Ty.sl (Ty.i .i64)).at u31 x21] := hq130
      obtain ⟨hf133, hf134, hf135, hf136, hr137, hS138⟩ := hq130
      refine W.seq (W.seq (W.region ?_))
      refine WL.val (Value.int .i64 x132) _ (op_move hf136) rfl ?_
      refine WL.val (Value.int .i64 x22) _ (op_move hf134) rfl ?_
      refine WL.val (Value.bool (x132 == x22)) _ (op_eql rfl rfl) rfl ?_
      refine WL.nil ?_
      refine W.cond (x132 == x22) rfl (fun hc139 => ?_) (fun hc139 => ?_)
      · replace hb27 := ip hb27 hc139
        refine W.seq (W.region ?_)
        refine WL.val u31 _ (op_move hf135) rfl ?_
        refine WL.val u31 _ (op_assign rfl) rfl ?_
        refine WL.nil ?_
        refine W.ret ?_
        obtain rfl := Option.some.inj hb27
        obtain rfl := hret30 _ rfl
        replace h := onRes_ret h
        obtain rfl := Option.some.inj h
        show FinP _ _ _ _ _ _ _
        exact FinP.ret _ (res1 rfl rfl) ⟨u31, rfl, (Ext.trans hE7 hS138.ext), (St.out (St.pick hS138 [0] rfl) (hE7))⟩
      · replace hb27 := inegb hb27 hc139
        refine W.skip ?_
        show W _ _ _ _ _ _
        refine W.region ?_
        refine WL.val u31 _ (op_move hf135) rfl ?_
        refine WL.val (Value.int .i64 x132) _ (op_move hf136) rfl ?_
        refine WL.litFlat (t := (Ty.i .i64)) (flat_i .i64) [(Value.int .i64 x132)] [x132] hS138 sl_33 rfl rfl (fillL rfl ⟨rfl, rfl, rfl, trivial⟩) rfl rfl (litL ⟨⟨rfl, hr137⟩, trivial⟩) rfl ?_
        intro u141 wd142 hS143 he144
        replace hS143 : St wd2 wd142 [(Ty.sl (Ty.i .i64)).at u31 x21, (Ty.sl (Ty.i .i64)).at u141 ([x132] : (List Int))] := hS143
        obtain ⟨x145, hx146, hb27⟩ := bs hb27
        refine WL.append (flat_i .i64) hS143 (k := 0) rfl sl_33 rfl rfl rfl rfl (St.rep (t := (Ty.sl (Ty.i .i64))) hS143 1 rfl) hx146 rfl ?_
        intro u147 wd148 hS149 hz150
        replace hS149 : St wd2 wd148 [(Ty.sl (Ty.i .i64)).at u147 x145, (Ty.sl (Ty.i .i64)).at u141 ([x132] : (List Int))] := hS149
        refine WL.val (Value.int .i64 x132) _ (op_move hf136) rfl ?_
        refine WL.val u147 _ (op_assign rfl) rfl ?_
        refine WL.val (Value.int .i64 x132) _ (op_assign rfl) rfl ?_
        refine WL.nil ?_
        obtain rfl := Option.some.inj hb27
        show ∃ s, _ = Ctl.next s ∧ _
        exact ⟨_, rfl, u147, hf133, rfl, hr137, rfl, (St.pick hS149 [0] rfl)⟩
  · rintro f153 wd154 ⟨s156, rfl, hq155⟩
    replace h := onRes_fin h
    obtain ⟨x157, x158⟩ := s156
    replace hq155 : St wd2 wd154 [] := hq155
    exact nomatch (show (none : Option _) = some _ from h)

theorem c_impl_AdjointSeries {w : World} {r_Table : (List (List (List Int)))} {v_r_Table : Value} (tb : TabAt w) (r_r_Table : (Ty.sl (Ty.sl (Ty.sl (Ty.i .i64)))).rep w v_r_Table r_Table) {res : (List Int) × Int} (h : p_impl_AdjointSeries r_Table  = some res) :
    Ret Tryd.prog 16 #[(Value.agg #[v_r_Table])] w (fun v w' => ∃ (u0 : Value), v = (Value.tuple #[u0, Value.int .i64 res.2]) ∧ InR .i64 res.2 ∧ Ext w w' ∧ Sep w.heap.size w' [(Ty.sl (Ty.i .i64)).at u0 res.1]) := by
  unfold p_impl_AdjointSeries at h
  have hS0 : St w w [] := St.start w
  refine Ret.start (fn := Tryd.f16) Tryd.func16 rfl 9 rfl rfl ?_
  refine W.seq (W.region ?_)
  refine WL.box hS0 rfl (cs := [v_r_Table]) rfl rfl ?_
  intro b1 wd2 hS3 he4 hx5
  replace hS3 : St w wd2 [bx b1 [v_r_Table]] := hS3
  have hx6 := St.boxAt hS3 0 rfl
  have hE7 : Ext w wd2 := hS3.ext
  have hS8 : St wd2 wd2 [] := St.start wd2
  refine WL.val (Value.slice none 0 0) _ (op_assign rfl) rfl ?_
  refine WL.val (Value.int .i64 (0 : Int)) _ (op_assign rfl) rfl ?_
  refine WL.nil ?_
  refine W.seq (W.seq (W.region ?_))
  refine WL.val (Value.agg #[v_r_Table]) _ (op_loadBox st_26 rfl (BoxAt.lift hS8.ext hx6) rfl rfl) rfl ?_
  obtain ⟨x9, hx10, h⟩ := bs h
  refine WL.call _ (op_call fn_42 (args1 rfl)) (c_impl_IsRing (Ty.lift _ (Ext.trans hE7 hS8.ext) r_r_Table) hx10) rfl ?_
  rintro _ wd11 ⟨rfl, he12⟩
  have hS14 := St.extend hS8 he12
  replace hS14 : St wd2 wd11 [] := hS14
  refine WL.val (Value.bool (!x9)) _ (op_not rfl) rfl ?_
  refine WL.nil ?_
  refine W.cond (!x9) rfl (fun hc15 => ?_) (fun hc15 => ?_)
  · replace h := ip h hc15
    refine W.seq (W.region ?_)
    refine WL.val (Value.slice none 0 0) _ (op_assign rfl) rfl ?_
    refine WL.val (Value.int .i64 (1 : Int)) _ (op_assign rfl) rfl ?_
    refine WL.nil ?_
    refine W.ret ?_
    obtain rfl := Option.some.inj h
    show FinP _ _ _ _ _ _ _
    exact FinP.ret _ (res2 rfl rfl rfl) ⟨(Value.slice none 0 0), rfl, (inL rfl), (Ext.trans hE7 hS14.ext), (St.out (St.pick (St.addNil (Ty.i .i64) hS14) [0] rfl) (hE7))⟩
  · replace h := inegb h hc15
    refine W.skip ?_
    refine W.seq (W.region ?_)
    refine WL.val (Value.agg #[v_r_Table]) _ (op_loadBox st_26 rfl (BoxAt.lift hS14.ext hx6) rfl rfl) rfl ?_
    obtain ⟨x17, hx18, h⟩ := bs h
    refine WL.call _ (op_call fn_43 (args1 rfl)) (c_impl_Ring_series (tb.ext (Ext.trans hE7 hS14.ext)) (Ty.lift _ (Ext.trans hE7 hS14.ext) r_r_Table) hx18) rfl ?_
    rintro u19 wd20 ⟨_, rfl, he21, hs22⟩
    have hS23 := St.join hS14 he21 hs22
    replace hS23 : St wd2 wd20 [(Ty.sl (Ty.i .i64)).at u19 x17] := hS23
    refine WL.val u19 _ (op_assign rfl) rfl ?_
    refine WL.val (Value.int .i64 (0 : Int)) _ (op_assign rfl) rfl ?_
    refine WL.nil ?_
    refine W.ret ?_
    obtain rfl := Option.some.inj h
    show FinP _ _ _ _ _ _ _
    exact FinP.ret _ (res2 rfl rfl rfl) ⟨u19, rfl, (inL rfl), (Ext.trans hE7 hS23.ext), (St.out (St.pick hS23 [0] rfl) (hE7))⟩

theorem c_laws_FnExactAdjointSeries {w : World} {aR_Table : (List (List (List Int)))} {v_aR_Table : Value} (tb : TabAt w) (r_aR_Table : (Ty.sl (Ty.sl (Ty.sl (Ty.i .i64)))).rep w v_aR_Table aR_Table) {res : Bool} (h : p_laws_FnExactAdjointSeries aR_Table  = some res) :
    Ret Tryd.prog 4 #[(Value.agg #[v_aR_Table])] w (fun v w' => v = Value.bool res ∧ Ext w w') := by
  unfold p_laws_FnExactAdjointSeries at h
  have hS0 : St w w [] := St.start w
  refine Ret.start (fn := Tryd.f4) Tryd.func4 rfl 96 rfl rfl ?_
  refine W.seq (W.region ?_)
  refine WL.box hS0 rfl (cs := [v_aR_Table]) rfl rfl ?_
  intro b1 wd2 hS3 he4 hx5
  replace hS3 : St w wd2 [bx b1 [v_aR_Table]] := hS3
  have hx6 := St.boxAt hS3 0 rfl
  have hE7 : Ext w wd2 := hS3.ext
  have hS8 : St wd2 wd2 [] := St.start wd2
  refine WL.val (Value.bool false) _ (op_assign rfl) rfl ?_
  refine WL.nil ?_
  refine W.seq (W.region ?_)
  refine WL.val (Value.int .i64 (1048576 : Int)) _ (op_assign rfl) rfl ?_
  refine WL.nil ?_
  refine W.seq (W.region ?_)
  refine WL.val (Value.agg #[v_aR_Table]) _ (op_loadBox st_24 rfl (BoxAt.lift hS8.ext hx6) rfl rfl) rfl ?_
  refine WL.val (Value.int .i64 (1048576 : Int)) _ (op_move rfl) rfl ?_
  obtain ⟨x9, hx10, h⟩ := bs h
  refine WL.call _ (op_call fn_8 (args2 rfl rfl)) (c_laws_szRing (Ty.lift _ (Ext.trans hE7 hS8.ext) r_aR_Table) (inL rfl) hx10) rfl ?_
  rintro _ wd12 ⟨rfl, hr11, he13⟩
  have hS15 := St.extend hS8 he13
  replace hS15 : St wd2 wd12 [] := hS15
  refine WL.val (Value.int .i64 x9) _ (op_assign rfl) rfl ?_
  refine WL.nil ?_
  refine W.seq (W.seq (W.region ?_))
  refine WL.val (Value.int .i64 x9) _ (op_move rfl) rfl ?_
  refine WL.val (Value.bool (decide (x9 < (0 : Int)))) _ (op_lss rfl rfl) rfl ?_
  refine WL.nil ?_
  refine W.cond (decide (x9 < (0 : Int))) rfl (fun hc16 => ?_) (fun hc16 => ?_)
  · replace h := ip h hc16
    refine W.seq (W.region ?_)
    refine WL.val (Value.bool true) _ (op_assign rfl) rfl ?_
    refine WL.nil ?_
    refine W.ret ?_
    obtain rfl := Option.some.inj h
    show FinP _ _ _ _ _ _ _
    exact FinP.ret _ (res1 rfl rfl) ⟨rfl, (Ext.trans hE7 hS15.ext)⟩
  · replace h := inegb h hc16
    refine W.skip ?_
    refine W.seq (W.region ?_)
    refine WL.val (Value.agg #[v_aR_Table]) _ (op_loadBox st_24 rfl (BoxAt.lift hS15.ext hx6) rfl rfl) rfl ?_
    obtain ⟨x18, hx19, h⟩ := bs h
    refine WL.call _ (op_call fn_10 (args1 rfl)) (c_laws_toRing (Ty.lift _ (Ext.trans hE7 hS15.ext) r_aR_Table) hx19) rfl ?_
    rintro _ wd21 ⟨u20, rfl, he22, hs23⟩
    have hS24 := St.join hS15 he22 hs23
    replace hS24 : St wd2 wd21 [(Ty.sl (Ty.sl (Ty.sl (Ty.i .i64)))).at u20 x18] := hS24
    have hb25 := St.rep (t := (Ty.sl (Ty.sl (Ty.sl (Ty.i .i64))))) hS24 0 rfl
    have hE26 : Ext w wd21 := (Ext.trans hE7 hS24.ext)
    have hE27 : Ext wd2 wd21 := hS24.ext
    have hS28 : St wd21 wd21 [] := St.start wd21
    obtain ⟨x29, hx30, h⟩ := bs h
    refine WL.call _ (op_call fn_15 (args1 rfl)) (c_spec_AdjointSeries (Ty.lift _ hS28.ext hb25) hx30) rfl ?_
    rintro _ wd33 ⟨u31, rfl, hr32, he34, hs35⟩
    have hS36 := St.join hS28 he34 hs35
    replace hS36 : St wd21 wd33 [(Ty.sl (Ty.i .i64)).at u31 x29.1] := hS36
    have hb37 := St.rep (t := (Ty.sl (Ty.i .i64))) hS36 0 rfl
    have hE38 : Ext w wd33 := (Ext.trans hE26 hS36.ext)
    have hE39 : Ext wd2 wd33 := (Ext.trans hE27 hS36.ext)
    have hE40 : Ext wd21 wd33 := hS36.ext
    have hS41 : St wd33 wd33 [] := St.start wd33
    refine WL.val (Value.tuple #[u31, (Value.int .i64 x29.2)]) _ (op_move rfl) rfl ?_
    refine WL.val u31 _ (op_extract rfl rfl) rfl ?_
    refine WL.val (Value.int .i64 x29.2) _ (op_extract rfl rfl) rfl ?_
    refine WL.val u31 _ (op_assign rfl) rfl ?_
    refine WL.val (Value.int .i64 x29.2) _ (op_assign rfl) rfl ?_
    refine WL.nil ?_
    refine W.seq (W.region ?_)
    refine WL.val (Value.agg #[v_aR_Table]) _ (op_loadBox st_24 rfl (BoxAt.lift (Ext.trans hE39 hS41.ext) hx6) rfl rfl) rfl ?_
    obtain ⟨x42, hx43, h⟩ := bs h
    refine WL.call _ (op_call fn_10 (args1 rfl)) (c_laws_toRing (Ty.lift _ (Ext.trans hE38 hS41.ext) r_aR_Table) hx43) rfl ?_
    rintro _ wd45 ⟨u44, rfl, he46, hs47⟩
    have hS48 := St.join hS41 he46 hs47
    replace hS48 : St wd33 wd45 [(Ty.sl (Ty.sl (Ty.sl (Ty.i .i64)))).at u44 x42] := hS48
    refine WL.alloc hS48 ze_26 (cs := [(Value.slice none 0 0)]) rfl rfl ?_
    intro b49 wd50 hS51 he52
    replace hS51 : St wd33 wd50 [(Ty.sl (Ty.sl (Ty.sl (Ty.i .i64)))).at u44 x42, bx b49 [(Value.slice none 0 0)]] := hS51
    refine WL.storeBox [u44] hS51 (k := 1) rfl rfl rfl (us := [u44]) rfl sz_26 rfl rfl (all_rep (St.rep (t := (Ty.sl (Ty.sl (Ty.sl (Ty.i .i64))))) hS51 0 rfl) all_nil) rfl ?_
    intro wd53 hS54
    replace hS54 : St wd33 wd53 [(Ty.sl (Ty.sl (Ty.sl (Ty.i .i64)))).at u44 x42, bx b49 [u44]] := hS54
    refine WL.nil ?_
    refine W.seq (W.region ?_)
    refine WL.val (Value.agg #[u44]) _ (op_loadBox st_26 rfl (St.boxAt hS54 1 rfl) rfl rfl) rfl ?_
    obtain ⟨x55, hx56, h⟩ := bs h
    refine WL.call _ (op_call fn_16 (args1 rfl)) (c_impl_AdjointSeries (tb.ext (Ext.trans hE38 hS54.ext)) (St.rep (t := (Ty.sl (Ty.sl (Ty.sl (Ty.i .i64))))) hS54 0 rfl) hx56) rfl ?_
    rintro _ wd59 ⟨u57, rfl, hr58, he60, hs61⟩
    have hS62 := St.join hS54 he60 hs61
    replace hS62 : St wd33 wd59 [(Ty.sl (Ty.sl (Ty.sl (Ty.i .i64)))).at u44 x42, bx b49 [u44], (Ty.sl (Ty.i .i64)).at u57 x55.1] := hS62
    refine WL.val (Value.tuple #[u57, (Value.int .i64 x55.2)]) _ (op_move rfl) rfl ?_
    refine WL.val u57 _ (op_extract rfl rfl) rfl ?_
    refine WL.val (Value.int .i64 x55.2) _ (op_extract rfl rfl) rfl ?_
    refine WL.val u57 _ (op_assign rfl) rfl ?_
    refine WL.val (Value.int .i64 x55.2) _ (op_assign rfl) rfl ?_
    refine WL.nil ?_
    refine W.seq (W.seq (W.region ?_))
    refine WL.val u57 _ (op_move rfl) rfl ?_
    refine WL.val u31 _ (op_move rfl) rfl ?_
    obtain ⟨x63, hx64, h⟩ := bs h
    refine WL.call _ (op_call fn_17 (args2 rfl rfl)) (c_laws_eqInt64S (St.rep (t := (Ty.sl (Ty.i .i64))) hS62 2 rfl) (Ty.lift _ hS62.ext hb37) hx64) rfl ?_
    rintro _ wd65 ⟨rfl, he66⟩
    have hS68 := St.extend hS62 he66
    replace hS68 : St wd33 wd65 [(Ty.sl (Ty.sl (Ty.sl (Ty.i .i64)))).at u44 x42, bx b49 [u44], (Ty.sl (Ty.i .i64)).at u57 x55.1] := hS68
    refine WL.val (Value.bool (!x63)) _ (op_not rfl) rfl ?_
    refine WL.val (Value.bool (!x63)) _ (op_move rfl) rfl ?_
    refine WL.cut 4 (fun fq wq => fq 1 = (Value.pointer (some ⟨b1, 0, none⟩)) ∧ fq 4 = u31 ∧ fq 5 = (Value.int .i64 x29.2) ∧ fq 6 = (Value.pointer (some ⟨b49, 0, none⟩)) ∧ fq 7 = u57 ∧ fq 8 = (Value.int .i64 x55.2) ∧ fq 40 = (Value.bool ((!x63) || (x55.2 != x29.2))) ∧ St wd33 wq [(Ty.sl (Ty.sl (Ty.sl (Ty.i .i64)))).at u44 x42, bx b49 [u44], (Ty.sl (Ty.i .i64)).at u57 x55.1]) ?_ ?_
    · rcases Bool.eq_false_or_eq_true (!x63) with hc69 | hc69
      · refine WL.gskip rfl (bool_of rfl hc69) rfl ?_
        refine WL.gskip rfl (bool_of rfl hc69) rfl ?_
        refine WL.gskip rfl (bool_of rfl hc69) rfl ?_
        refine WL.val (Value.bool true) _ (op_pick_t (evb_of rfl hc69) rfl) rfl ?_
        refine WL.nil ?_
        exact ⟨rfl, rfl, rfl, rfl, rfl, rfl, rfl, (orT hc69), hS68⟩
      · refine WL.grun rfl (bool_of rfl hc69) ?_
        refine WL.val (Value.int .i64 x55.2) _ (op_move rfl) rfl ?_
        refine WL.grun rfl (bool_of rfl hc69) ?_
        refine WL.val (Value.int .i64 x29.2) _ (op_move rfl) rfl ?_
        refine WL.grun rfl (bool_of rfl hc69) ?_
        refine WL.val (Value.bool (x55.2 != x29.2)) _ (op_neq rfl rfl) rfl ?_
        refine WL.val (Value.bool (x55.2 != x29.2)) _ (op_pick_f (evb_of rfl hc69) rfl) rfl ?_
        refine WL.nil ?_
        exact ⟨rfl, rfl, rfl, rfl, rfl, rfl, rfl, (orF hc69), hS68⟩
    · intro f70 wd71 hq72
      obtain ⟨hf73, hf74, hf75, hf76, hf77, hf78, hf79, hS80⟩ := hq72
      refine WL.nil ?_
      refine W.cond ((!x63) || (x55.2 != x29.2)) hf79 (fun hc81 => ?_) (fun hc81 => ?_)
      · replace h := ip h hc81
        refine W.seq (W.region ?_)
        refine WL.val (Value.bool false) _ (op_assign rfl) rfl ?_
        refine WL.nil ?_
        refine W.ret ?_
        obtain rfl := Option.some.inj h
        show FinP _ _ _ _ _ _ _
        exact FinP.ret _ (res1 rfl rfl) ⟨rfl, (Ext.trans hE38 hS80.ext)⟩
      · replace h := inegb h hc81
        refine W.skip ?_
        refine W.seq (W.seq ?_)
        obtain ⟨x107, hx108, h⟩ := bs h
        refine W.drawR mixo 3 [] [fun _ v S w' => v = (Value.agg #[u44]), fun _ v S w' => v = (Value.agg #[v_aR_Table]), fun _ v S w' => ∃ (uu0 : Value), v = (Value.agg #[uu0]) ∧ SepS S w' [(Ty.sl (Ty.sl (Ty.sl (Ty.i .i64)))).at uu0 x107]] (by kernel_rfl) (by kernel_rfl) ⟨pk, pk, ⟨fun _ _ _ _ _ he ⟨uu0, h0, r0⟩ => ⟨uu0, h0, SepS.extend he r0⟩, fun _ _ _ _ _ _ h => h⟩, trivial⟩ ⟨?_, ?_, ?_, trivial⟩ ?_
        · refine ObX.op rfl fun f83 wd84 he85 hout86 hphi87 => ?_
          have hS88 := St.extend hS80 he85
          have e89 : f83 6 = (Value.pointer (some ⟨b49, 0, none⟩)) := (hout86 6 rfl).trans hf76
          exact OpX.val (Value.agg #[u44]) wd84 rfl (op_loadBox st_26 e89 (St.boxAt hS88 1 rfl) rfl rfl) (Ext.refl _) rfl
        · refine ObX.op rfl fun f90 wd91 he92 hout93 hphi94 => ?_
          have hS95 := St.extend hS80 he92
          have e96 : f90 1 = (Value.pointer (some ⟨b1, 0, none⟩)) := (hout93 1 rfl).trans hf73
          exact OpX.val (Value.agg #[v_aR_Table]) wd91 rfl (op_loadBox st_24 e96 (BoxAt.lift (Ext.trans hE39 hS95.ext) hx6) rfl rfl) (Ext.refl _) rfl
        · refine ObX.op rfl fun f97 wd98 he99 hout100 hphi101 => ?_
          have hS102 := St.extend hS80 he99
          obtain ⟨S103, hS104, hf105⟩ := hphi101 1 42 _ rfl rfl rfl
          have e106 : f97 42 = (Value.agg #[v_aR_Table]) := hf105
          refine OpX.call rfl (op_call fn_10 (args1 e106)) (Ret.mono (c_laws_toRing (Ty.lift _ (Ext.trans hE38 hS102.ext) r_aR_Table) hx108) ?_)
          rintro _ wd110 ⟨u109, rfl, he111, hs112⟩
          exact ⟨he111, _, newS _ _, ⟨u109, rfl, (Sep.new hs112)⟩⟩
        · intro f113 wd114 Ss115 he116 hout117 hSn118 hSd119 hphi120
          show WL _ _ _ _ _ _ _
          have e122 : f113 41 = (Value.agg #[u44]) := hphi120 0 41 _ (by decide) rfl rfl
          obtain ⟨u124, e123, e123s⟩ := hphi120 2 43 _ (by decide) rfl rfl
          have e125 : f113 1 = (Value.pointer (some ⟨b1, 0, none⟩)) := (hout117 1 rfl).trans hf73
          have e126 : f113 4 = u31 := (hout117 4 rfl).trans hf74
          have e127 : f113 5 = (Value.int .i64 x29.2) := (hout117 5 rfl).trans hf75
          have e128 : f113 6 = (Value.pointer (some ⟨b49, 0, none⟩)) := (hout117 6 rfl).trans hf76
          have e129 : f113 7 = u57 := (hout117 7 rfl).trans hf77
          have e130 : f113 8 = (Value.int .i64 x55.2) := (hout117 8 rfl).trans hf78
          have hS131 := St.joinS hS80 he116 hSn118 (SepS.consS hSd119 rfl e123s SepS.nilS)
          replace hS131 : St wd33 wd114 [(Ty.sl (Ty.sl (Ty.sl (Ty.i .i64)))).at u44 x42, bx b49 [u44], (Ty.sl (Ty.i .i64)).at u57 x55.1, (Ty.sl (Ty.sl (Ty.sl (Ty.i .i64)))).at u124 x107] := hS131
          obtain ⟨x132, hx133, h⟩ := bs h
          refine WL.call _ (op_call fn_12 (args2 e122 e123)) (c_laws_eqRing (St.rep (t := (Ty.sl (Ty.sl (Ty.sl (Ty.i .i64))))) hS131 0 rfl) (St.rep (t := (Ty.sl (Ty.sl (Ty.sl (Ty.i .i64))))) hS131 3 rfl) hx133) rfl ?_
          rintro _ wd134 ⟨rfl, he135⟩
          have hS137 := St.extend hS131 he135
          replace hS137 : St wd33 wd134 [(Ty.sl (Ty.sl (Ty.sl (Ty.i .i64)))).at u44 x42, bx b49 [u44], (Ty.sl (Ty.i .i64)).at u57 x55.1, (Ty.sl (Ty.sl (Ty.sl (Ty.i .i64)))).at u124 x107] := hS137
          refine WL.val (Value.bool (!x132)) _ (op_not rfl) rfl ?_
          refine WL.nil ?_
          refine W.cond (!x132) rfl (fun hc138 => ?_) (fun hc138 => ?_)
          · replace h := ip h hc138
            refine W.seq (W.region ?_)
            refine WL.val (Value.bool false) _ (op_assign rfl) rfl ?_
            refine WL.nil ?_
            refine W.ret ?_
            obtain rfl := Option.some.inj h
            show FinP _ _ _ _ _ _ _
            exact FinP.ret _ (res1 rfl rfl) ⟨rfl, (Ext.trans hE38 hS137.ext)⟩
          · replace h := inegb h hc138
            refine W.skip ?_
            refine W.seq (W.region ?_)
            refine WL.val (Value.int .i64 (1 : Int)) _ (op_assign rfl) rfl ?_
            refine WL.nil ?_
            refine W.seq (W.region ?_)
            refine WL.val (Value.agg #[u44]) _ (op_loadBox st_26 e128 (St.boxAt hS137 1 rfl) rfl rfl) rfl ?_
            refine WL.val (Value.int .i64 (1 : Int)) _ (op_move rfl) rfl ?_
            obtain ⟨x140, hx141, h⟩ := bs h
            have hS142 := St.fold [(Ty.sl (Ty.sl (Ty.sl (Ty.i .i64)))).at u44 x42] [bx b49 [u44], (Ty.sl (Ty.i .i64)).at u57 x55.1, (Ty.sl (Ty.sl (Ty.sl (Ty.i .i64)))).at u124 x107] (St.pick hS137 [0, 1, 2, 3] rfl)
            refine WL.call _ (op_call fn_13 (args2 rfl rfl)) (c_laws_markRing hS142 (inL rfl) hx141) rfl ?_
            rintro _ wd145 ⟨rfl, hr146, hS143⟩
            have hS144 := St.pick (St.unfold [(Ty.sl (Ty.sl (Ty.sl (Ty.i .i64)))).at u44 x140.2] [bx b49 [u44], (Ty.sl (Ty.i .i64)).at u57 x55.1, (Ty.sl (Ty.sl (Ty.sl (Ty.i .i64)))).at u124 x107] hS143) [0, 1, 2, 3] rfl
            replace hS144 : St wd33 wd145 [(Ty.sl (Ty.sl (Ty.sl (Ty.i .i64)))).at u44 x140.2, bx b49 [u44], (Ty.sl (Ty.i .i64)).at u57 x55.1, (Ty.sl (Ty.sl (Ty.sl (Ty.i .i64)))).at u124 x107] := hS144
            refine WL.val (Value.int .i64 x140.1) _ (op_assign rfl) rfl ?_
            refine WL.nil ?_
            refine W.seq (W.seq (W.region ?_))
            refine WL.val (Value.int .i64 x140.1) _ (op_move rfl) rfl ?_
            refine WL.val (Value.bool (decide (x140.1 < (0 : Int)))) _ (op_lss rfl rfl) rfl ?_
            refine WL.val (Value.bool (decide (x140.1 < (0 : Int)))) _ (op_move rfl) rfl ?_
            obtain ⟨x148, hj149, h⟩ := bs h
            refine WL.cut 5 (fun fq wq => fq 1 = (Value.pointer (some ⟨b1, 0, none⟩)) ∧ fq 4 = u31 ∧ fq 5 = (Value.int .i64 x29.2) ∧ fq 7 = u57 ∧ fq 8 = (Value.int .i64 x55.2) ∧ fq 56 = Value.bool x148 ∧ St wd33 wq [(Ty.sl (Ty.i .i64)).at u57 x55.1]) ?_ ?_
            · rcases Bool.eq_false_or_eq_true (decide (x140.1 < (0 : Int))) with hc147 | hc147
              · replace hj149 := ip hj149 hc147
                refine WL.gskip rfl (bool_of rfl hc147) rfl ?_
                refine WL.gskip rfl (bool_of rfl hc147) rfl ?_
                refine WL.gskip rfl (bool_of rfl hc147) rfl ?_
                refine WL.gskip rfl (bool_of rfl hc147) rfl ?_
                refine WL.val (Value.bool true) _ (op_pick_t (evb_of rfl hc147) rfl) rfl ?_
                refine WL.nil ?_
                obtain rfl := Option.some.inj hj149
                exact ⟨rfl, e125, e126, e127, e129, e130, rfl, (St.pick hS144 [2] rfl)⟩
              · replace hj149 := inegb hj149 hc147
                refine WL.grun rfl (bool_of rfl hc147) ?_
                refine WL.val u57 _ (op_move e129) rfl ?_
                refine WL.grun rfl (bool_of rfl hc147) ?_
                refine WL.val u31 _ (op_move e126) rfl ?_
                refine WL.grun rfl (bool_of rfl hc147) ?_
                obtain ⟨x153, hx154, hj149⟩ := bs hj149
                refine WL.call _ (op_call fn_17 (args2 rfl rfl)) (c_laws_eqInt64S (St.rep (t := (Ty.sl (Ty.i .i64))) hS144 2 rfl) (Ty.lift _ hS144.ext hb37) hx154) rfl ?_
                rintro _ wd155 ⟨rfl, he156⟩
                have hS158 := St.extend hS144 he156
                replace hS158 : St wd33 wd155 [(Ty.sl (Ty.sl (Ty.sl (Ty.i .i64)))).at u44 x140.2, bx b49 [u44], (Ty.sl (Ty.i .i64)).at u57 x55.1, (Ty.sl (Ty.sl (Ty.sl (Ty.i .i64)))).at u124 x107] := hS158
                refine WL.grun rfl (bool_of rfl hc147) ?_
                refine WL.val (Value.bool (!x153)) _ (op_not rfl) rfl ?_
                refine WL.val (Value.bool (!x153)) _ (op_pick_f (evb_of rfl hc147) rfl) rfl ?_
                refine WL.nil ?_
                obtain rfl := Option.some.inj hj149
                exact ⟨rfl, e125, e126, e127, e129, e130, rfl, (St.pick hS158 [2] rfl)⟩
            · intro f150 wd151 hq152
              obtain ⟨hf159, hf160, hf161, hf162, hf163, hf164, hS165⟩ := hq152
              refine WL.val (Value.bool x148) _ (op_move hf164) rfl ?_
              refine WL.cut 4 (fun fq wq => fq 1 = (Value.pointer (some ⟨b1, 0, none⟩)) ∧ fq 4 = u31 ∧ fq 5 = (Value.int .i64 x29.2) ∧ fq 7 = u57 ∧ fq 61 = (Value.bool (x148 || (x55.2 != x29.2))) ∧ St wd33 wq [(Ty.sl (Ty.i .i64)).at u57 x55.1]) ?_ ?_
              · rcases Bool.eq_false_or_eq_true x148 with hc166 | hc166
                · refine WL.gskip rfl (bool_of rfl hc166) rfl ?_
                  refine WL.gskip rfl (bool_of rfl hc166) rfl ?_
                  refine WL.gskip rfl (bool_of rfl hc166) rfl ?_
                  refine WL.val (Value.bool true) _ (op_pick_t (evb_of rfl hc166) rfl) rfl ?_
                  refine WL.nil ?_
                  exact ⟨rfl, hf159, hf160, hf161, hf162, (orT hc166), hS165⟩
                · refine WL.grun rfl (bool_of rfl hc166) ?_
                  refine WL.val (Value.int .i64 x55.2) _ (op_move hf163) rfl ?_
                  refine WL.grun rfl (bool_of rfl hc166) ?_
                  refine WL.val (Value.int .i64 x29.2) _ (op_move hf161) rfl ?_
                  refine WL.grun rfl (bool_of rfl hc166) ?_
                  refine WL.val (Value.bool (x55.2 != x29.2)) _ (op_neq rfl rfl) rfl ?_
                  refine WL.val (Value.bool (x55.2 != x29.2)) _ (op_pick_f (evb_of rfl hc166) rfl) rfl ?_
                  refine WL.nil ?_
                  exact ⟨rfl, hf159, hf160, hf161, hf162, (orF hc166), hS165⟩
              · intro f167 wd168 hq169
                obtain ⟨hf170, hf171, hf172, hf173, hf174, hS175⟩ := hq169
                refine WL.nil ?_
                refine W.cond (x148 || (x55.2 != x29.2)) hf174 (fun hc176 => ?_) (fun hc176 => ?_)
                · replace h := ip h hc176
                  refine W.seq (W.region ?_)
                  refine WL.val (Value.bool false) _ (op_assign rfl) rfl ?_
                  refine WL.nil ?_
                  refine W.ret ?_
                  obtain rfl := Option.some.inj h
                  show FinP _ _ _ _ _ _ _
                  exact FinP.ret _ (res1 rfl rfl) ⟨rfl, (Ext.trans hE38 hS175.ext)⟩
                · replace h := inegb h hc176
                  refine W.skip ?_
                  refine W.seq (W.region ?_)
                  refine WL.val (Value.int .i64 (1 : Int)) _ (op_assign rfl) rfl ?_
                  refine WL.nil ?_
                  refine W.seq (W.region ?_)
                  refine WL.val u57 _ (op_move hf173) rfl ?_
                  refine WL.val (Value.int .i64 (1 : Int)) _ (op_move rfl) rfl ?_
                  obtain ⟨x178, hx179, h⟩ := bs h
                  have hS180 := St.fold [(Ty.sl (Ty.i .i64)).at u57 x55.1] [] (St.pick hS175 [0] rfl)
                  refine WL.call _ (op_call fn_18 (args2 rfl rfl)) (c_laws_markInt64S hS180 (inL rfl) hx179) rfl ?_
                  rintro _ wd183 ⟨rfl, hr184, hS181⟩
                  have hS182 := St.pick (St.unfold [(Ty.sl (Ty.i .i64)).at u57 x178.2] [] hS181) [0] rfl
                  replace hS182 : St wd33 wd183 [(Ty.sl (Ty.i .i64)).at u57 x178.2] := hS182
                  refine WL.val (Value.int .i64 x178.1) _ (op_assign rfl) rfl ?_
                  refine WL.nil ?_
                  refine W.seq (W.region ?_)
                  refine WL.val (Value.int .i64 (1 : Int)) _ (op_assign rfl) rfl ?_
                  refine WL.nil ?_
                  refine W.seq (W.region ?_)
                  refine WL.val u57 _ (op_move hf173) rfl ?_
                  refine WL.val (Value.int .i64 (1 : Int)) _ (op_move rfl) rfl ?_
                  obtain ⟨x185, hx186, h⟩ := bs h
                  refine WL.call _ (op_call fn_19 (args2 rfl rfl)) (c_laws_heldInt64S (St.rep (t := (Ty.sl (Ty.i .i64))) hS182 0 rfl) (inL rfl) hx186) rfl ?_
                  rintro _ wd188 ⟨rfl, hr187, he189⟩
                  have hS191 := St.extend hS182 he189
                  replace hS191 : St wd33 wd188 [(Ty.sl (Ty.i .i64)).at u57 x178.2] := hS191
                  refine WL.val (Value.int .i64 x185) _ (op_assign rfl) rfl ?_
                  refine WL.nil ?_
                  refine W.seq (W.seq (W.region ?_))
                  refine WL.val (Value.int .i64 x185) _ (op_move rfl) rfl ?_
                  refine WL.val (Value.bool (decide (x185 < (0 : Int)))) _ (op_lss rfl rfl) rfl ?_
                  refine WL.nil ?_
                  refine W.cond (decide (x185 < (0 : Int))) rfl (fun hc192 => ?_) (fun hc192 => ?_)
                  · replace h := ip h hc192
                    refine W.seq (W.region ?_)
                    refine WL.val (Value.bool false) _ (op_assign rfl) rfl ?_
                    refine WL.nil ?_
                    refine W.ret ?_
                    obtain rfl := Option.some.inj h
                    show FinP _ _ _ _ _ _ _
                    exact FinP.ret _ (res1 rfl rfl) ⟨rfl, (Ext.trans hE38 hS191.ext)⟩
                  · replace h := inegb h hc192
                    refine W.skip ?_
                    refine W.seq (W.seq (W.region ?_))
                    refine WL.val (Value.int .i64 x185) _ (op_move rfl) rfl ?_
                    refine WL.val (Value.int .i64 x178.1) _ (op_move rfl) rfl ?_
                    refine WL.val (Value.bool (x185 != x178.1)) _ (op_neq rfl rfl) rfl ?_
                    refine WL.nil ?_
                    refine W.cond (x185 != x178.1) rfl (fun hc194 => ?_) (fun hc194 => ?_)
                    · replace h := ip h hc194
                      refine W.seq (W.region ?_)
                      refine WL.val (Value.bool false) _ (op_assign rfl) rfl ?_
                      refine WL.nil ?_
                      refine W.ret ?_
                      obtain rfl := Option.some.inj h
                      show FinP _ _ _ _ _ _ _
                      exact FinP.ret _ (res1 rfl rfl) ⟨rfl, (Ext.trans hE38 hS191.ext)⟩
                    · replace h := inegb h hc194
                      refine W.skip ?_
                      refine W.seq (W.region ?_)
                      refine WL.val (Value.agg #[v_aR_Table]) _ (op_loadBox st_24 hf170 (BoxAt.lift (Ext.trans hE39 hS191.ext) hx6) rfl rfl) rfl ?_
                      obtain ⟨x196, hx197, h⟩ := bs h
                      refine WL.call _ (op_call fn_10 (args1 rfl)) (c_laws_toRing (Ty.lift _ (Ext.trans hE38 hS191.ext) r_aR_Table) hx197) rfl ?_
                      rintro _ wd199 ⟨u198, rfl, he200, hs201⟩
                      have hS202 := St.join hS191 he200 hs201
                      replace hS202 : St wd33 wd199 [(Ty.sl (Ty.i .i64)).at u57 x178.2, (Ty.sl (Ty.sl (Ty.sl (Ty.i .i64)))).at u198 x196] := hS202
                      obtain ⟨x203, hx204, h⟩ := bs h
                      refine WL.call _ (op_call fn_16 (args1 rfl)) (c_impl_AdjointSeries (tb.ext (Ext.trans hE38 hS202.ext)) (St.rep (t := (Ty.sl (Ty.sl (Ty.sl (Ty.i .i64))))) hS202 1 rfl) hx204) rfl ?_
                      rintro _ wd207 ⟨u205, rfl, hr206, he208, hs209⟩
                      have hS210 := St.join hS202 he208 hs209
                      replace hS210 : St wd33 wd207 [(Ty.sl (Ty.i .i64)).at u57 x178.2, (Ty.sl (Ty.sl (Ty.sl (Ty.i .i64)))).at u198 x196, (Ty.sl (Ty.i .i64)).at u205 x203.1] := hS210
                      refine WL.val (Value.tuple #[u205, (Value.int .i64 x203.2)]) _ (op_move rfl) rfl ?_
                      refine WL.val u205 _ (op_extract rfl rfl) rfl ?_
                      refine WL.val (Value.int .i64 x203.2) _ (op_extract rfl rfl) rfl ?_
                      refine WL.val u205 _ (op_assign rfl) rfl ?_
                      refine WL.val (Value.int .i64 x203.2) _ (op_assign rfl) rfl ?_
                      refine WL.nil ?_
                      refine W.seq (W.seq (W.region ?_))
                      refine WL.val u205 _ (op_move rfl) rfl ?_
                      refine WL.val u31 _ (op_move hf171) rfl ?_
                      obtain ⟨x211, hx212, h⟩ := bs h
                      refine WL.call _ (op_call fn_17 (args2 rfl rfl)) (c_laws_eqInt64S (St.rep (t := (Ty.sl (Ty.i .i64))) hS210 2 rfl) (Ty.lift _ hS210.ext hb37) hx212) rfl ?_
                      rintro _ wd213 ⟨rfl, he214⟩
                      have hS216 := St.extend hS210 he214
                      replace hS216 : St wd33 wd213 [(Ty.sl (Ty.i .i64)).at u57 x178.2, (Ty.sl (Ty.sl (Ty.sl (Ty.i .i64)))).at u198 x196, (Ty.sl (Ty.i .i64)).at u205 x203.1] := hS216
                      refine WL.val (Value.bool (!x211)) _ (op_not rfl) rfl ?_
                      refine WL.val (Value.bool (!x211)) _ (op_move rfl) rfl ?_
                      refine WL.cut 4 (fun fq wq => fq 7 = u57 ∧ fq 10 = (Value.int .i64 x178.1) ∧ fq 87 = (Value.bool ((!x211) || (x203.2 != x29.2))) ∧ St wd33 wq [(Ty.sl (Ty.i .i64)).at u57 x178.2]) ?_ ?_
                      · rcases Bool.eq_false_or_eq_true (!x211) with hc217 | hc217
                        · refine WL.gskip rfl (bool_of rfl hc217) rfl ?_
                          refine WL.gskip rfl (bool_of rfl hc217) rfl ?_
                          refine WL.gskip rfl (bool_of rfl hc217) rfl ?_
                          refine WL.val (Value.bool true) _ (op_pick_t (evb_of rfl hc217) rfl) rfl ?_
                          refine WL.nil ?_
                          exact ⟨rfl, hf173, rfl, (orT hc217), (St.pick hS216 [0] rfl)⟩
                        · refine WL.grun rfl (bool_of rfl hc217) ?_
                          refine WL.val (Value.int .i64 x203.2) _ (op_move rfl) rfl ?_
                          refine WL.grun rfl (bool_of rfl hc217) ?_
                          refine WL.val (Value.int .i64 x29.2) _ (op_move hf172) rfl ?_
                          refine WL.grun rfl (bool_of rfl hc217) ?_
                          refine WL.val (Value.bool (x203.2 != x29.2)) _ (op_neq rfl rfl) rfl ?_
                          refine WL.val (Value.bool (x203.2 != x29.2)) _ (op_pick_f (evb_of rfl hc217) rfl) rfl ?_
                          refine WL.nil ?_
                          exact ⟨rfl, hf173, rfl, (orF hc217), (St.pick hS216 [0] rfl)⟩
                      · intro f218 wd219 hq220
                        obtain ⟨hf221, hf222, hf223, hS224⟩ := hq220
                        refine WL.nil ?_
                        refine W.cond ((!x211) || (x203.2 != x29.2)) hf223 (fun hc225 => ?_) (fun hc225 => ?_)
                        · replace h := ip h hc225
                          refine W.seq (W.region ?_)
                          refine WL.val (Value.bool false) _ (op_assign rfl) rfl ?_
                          refine WL.nil ?_
                          refine W.ret ?_
                          obtain rfl := Option.some.inj h
                          show FinP _ _ _ _ _ _ _
                          exact FinP.ret _ (res1 rfl rfl) ⟨rfl, (Ext.trans hE38 hS224.ext)⟩
                        · replace h := inegb h hc225
                          refine W.skip ?_
                          refine W.seq (W.region ?_)
                          refine WL.val (Value.int .i64 (1 : Int)) _ (op_assign rfl) rfl ?_
                          refine WL.nil ?_
                          refine W.seq (W.region ?_)
                          refine WL.val u57 _ (op_move hf221) rfl ?_
                          refine WL.val (Value.int .i64 (1 : Int)) _ (op_move rfl) rfl ?_
                          obtain ⟨x227, hx228, h⟩ := bs h
                          refine WL.call _ (op_call fn_19 (args2 rfl rfl)) (c_laws_heldInt64S (St.rep (t := (Ty.sl (Ty.i .i64))) hS224 0 rfl) (inL rfl) hx228) rfl ?_
                          rintro _ wd230 ⟨rfl, hr229, he231⟩
                          have hS233 := St.extend hS224 he231
                          replace hS233 : St wd33 wd230 [(Ty.sl (Ty.i .i64)).at u57 x178.2] := hS233
                          refine WL.val (Value.int .i64 x227) _ (op_assign rfl) rfl ?_
                          refine WL.nil ?_
                          refine W.seq (W.seq (W.region ?_))
                          refine WL.val (Value.int .i64 x227) _ (op_move rfl) rfl ?_
                          refine WL.val (Value.bool (decide (x227 < (0 : Int)))) _ (op_lss rfl rfl) rfl ?_
                          refine WL.nil ?_
                          refine W.cond (decide (x227 < (0 : Int))) rfl (fun hc234 => ?_) (fun hc234 => ?_)
                          · replace h := ip h hc234
                            refine W.seq (W.region ?_)
                            refine WL.val (Value.bool false) _ (op_assign rfl) rfl ?_
                            refine WL.nil ?_
                            refine W.ret ?_
                            obtain rfl := Option.some.inj h
                            show FinP _ _ _ _ _ _ _
                            exact FinP.ret _ (res1 rfl rfl) ⟨rfl, (Ext.trans hE38 hS233.ext)⟩
                          · replace h := inegb h hc234
                            refine W.skip ?_
                            refine W.seq (W.seq (W.region ?_))
                            refine WL.val (Value.int .i64 x227) _ (op_move rfl) rfl ?_
                            refine WL.val (Value.int .i64 x178.1) _ (op_move hf222) rfl ?_
                            refine WL.val (Value.bool (x227 != x178.1)) _ (op_neq rfl rfl) rfl ?_
                            refine WL.nil ?_
                            refine W.cond (x227 != x178.1) rfl (fun hc236 => ?_) (fun hc236 => ?_)
                            · replace h := ip h hc236
                              refine W.seq (W.region ?_)
                              refine WL.val (Value.bool false) _ (op_assign rfl) rfl ?_
                              refine WL.nil ?_
                              refine W.ret ?_
                              obtain rfl := Option.some.inj h
                              show FinP _ _ _ _ _ _ _
                              exact FinP.ret _ (res1 rfl rfl) ⟨rfl, (Ext.trans hE38 hS233.ext)⟩
                            · replace h := inegb h hc236
                              refine W.skip ?_
                              refine W.seq (W.region ?_)
                              refine WL.val (Value.bool true) _ (op_assign rfl) rfl ?_
                              refine WL.nil ?_
                              refine W.ret ?_
                              obtain rfl := Option.some.inj h
                              show FinP _ _ _ _ _ _ _
                              exact FinP.ret _ (res1 rfl rfl) ⟨rfl, (Ext.trans hE38 hS233.ext)⟩

end Go.VG
