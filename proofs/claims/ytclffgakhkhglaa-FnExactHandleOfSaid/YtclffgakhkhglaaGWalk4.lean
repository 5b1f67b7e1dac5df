/- The walks, part 4: each Go function returns what its plain twin returns. No condition beyond what each names. -/
import Derived.Test.YtclffgakhkhglaaGWalk3
set_option linter.all false
namespace Go.VG
open Go.Proofs
attribute [local irreducible] W WL Sep FinP

theorem c_laws_FnExactHandleOf {w : World} {aR_Table : (List (List (List Int)))} {v_aR_Table : Value} (r_aR_Table : (Ty.sl (Ty.sl (Ty.sl (Ty.i .i64)))).rep w v_aR_Table aR_Table) {res : Bool} (h : p_laws_FnExactHandleOf aR_Table  = some res) :
    Ret Try.prog 8 #[(Value.agg #[v_aR_Table])] w (fun v w' => v = Value.bool res ∧ Ext w w') := by
  unfold p_laws_FnExactHandleOf at h
  have hS0 : St w w [] := St.start w
  refine Ret.start (fn := Try.f8) Try.func8 rfl 96 rfl rfl ?_
  refine W.seq (W.region ?_)
  refine WL.box hS0 rfl (cs := [v_aR_Table]) rfl rfl ?_
  intro b1 wd2 hS3 he4 hx5
  replace hS3 : St w wd2 [bx b1 [v_aR_Table]] := hS3
  have hx6 := St.boxAt hS3 0 rfl
  have hE7 : Ext w wd2 := hS3.ext
  have hS8 : St wd2 wd2 [] := St.start wd2
  refine WL.val (Value.bool false) _ (op_assign rfl) rfl ?_
  refine WL.nil ?_
  show W _ _ _ _ _ _
  refine W.seq (W.region ?_)
  refine WL.val (Value.int .i64 (1048576 : Int)) _ (op_assign rfl) rfl ?_
  refine WL.nil ?_
  show W _ _ _ _ _ _
  refine W.seq (W.region ?_)
  refine WL.val (Value.agg #[v_aR_Table]) _ (op_loadBox st_24 rfl (BoxAt.lift hS8.ext hx6) rfl rfl) rfl ?_
  refine WL.val (Value.int .i64 (1048576 : Int)) _ (op_move rfl) rfl ?_
  obtain ⟨x9, hx10, h⟩ := bs h
  refine WL.call _ (op_call fn_9 (args2 rfl rfl)) (c_laws_szRing (Ty.lift _ (Ext.trans hE7 hS8.ext) r_aR_Table) (inR_i64.2 (show (-9223372036854775808 : Int) ≤ 1048576 ∧ (1048576 : Int) ≤ 9223372036854775807 from by decide)) hx10) rfl ?_
  rintro _ wd12 ⟨rfl, hr11, he13⟩
  have hS15 := St.extend hS8 he13
  replace hS15 : St wd2 wd12 [] := hS15
  refine WL.val (Value.int .i64 x9) _ (op_assign rfl) rfl ?_
  refine WL.nil ?_
  show W _ _ _ _ _ _
  refine W.seq (W.seq (W.region ?_))
  refine WL.val (Value.int .i64 x9) _ (op_move rfl) rfl ?_
  refine WL.val (Value.bool (decide (x9 < (0 : Int)))) _ (op_lss rfl rfl) rfl ?_
  refine WL.nil ?_
  show W _ _ _ _ _ _
  refine W.cond (decide (x9 < (0 : Int))) rfl (fun hc16 => ?_) (fun hc16 => ?_)
  · replace h := ip h hc16
    refine W.seq (W.region ?_)
    refine WL.val (Value.bool true) _ (op_assign rfl) rfl ?_
    refine WL.nil ?_
    show W _ _ _ _ _ _
    refine W.ret ?_
    obtain rfl := Option.some.inj h
    show FinP _ _ _ _ _ _ _
    exact FinP.ret _ (res1 rfl rfl) ⟨rfl, (Ext.trans hE7 hS15.ext)⟩
  · replace h := inegb h hc16
    refine W.skip ?_
    show W _ _ _ _ _ _
    refine W.seq (W.region ?_)
    refine WL.val (Value.agg #[v_aR_Table]) _ (op_loadBox st_24 rfl (BoxAt.lift hS15.ext hx6) rfl rfl) rfl ?_
    obtain ⟨x18, hx19, h⟩ := bs h
    refine WL.call _ (op_call fn_11 (args1 rfl)) (c_laws_toRing (Ty.lift _ (Ext.trans hE7 hS15.ext) r_aR_Table) hx19) rfl ?_
    rintro _ wd21 ⟨u20, rfl, he22, hs23⟩
    have hS24 := St.join hS15 he22 hs23
    replace hS24 : St wd2 wd21 [(Ty.sl (Ty.sl (Ty.sl (Ty.i .i64)))).at u20 x18] := hS24
    have hb25 := St.rep (t := (Ty.sl (Ty.sl (Ty.sl (Ty.i .i64))))) hS24 0 rfl
    have hE26 : Ext w wd21 := (Ext.trans hE7 hS24.ext)
    have hE27 : Ext wd2 wd21 := hS24.ext
    have hS28 : St wd21 wd21 [] := St.start wd21
    obtain ⟨x29, hx30, h⟩ := bs h
    refine WL.call _ (op_call fn_30 (args1 rfl)) (c_spec_HandleOf (Ty.lift _ hS28.ext hb25) hx30) rfl ?_
    rintro _ wd33 ⟨u31, rfl, hr32, he34, hs35⟩
    have hS36 := St.join hS28 he34 hs35
    replace hS36 : St wd21 wd33 [(Ty.sl (Ty.i .i64)).at u31 x29.1] := hS36
    have hb37 := St.rep (t := (Ty.sl (Ty.i .i64))) hS36 0 rfl
    have hE38 : Ext w wd33 := (Ext.trans hE26 hS36.ext)
    have hE39 : Ext wd2 wd33 := (Ext.trans hE27 hS36.ext)
    have hE40 : Ext wd21 wd33 := hS36.ext
    have hS41 : St wd33 wd33 [] := St.start wd33
    refine WL.val (Value.tuple #[u31, (Value.int .i64 x29.2)]) _ (op_move rfl) rfl ?_
    refine WL.val u31 _ (op_extract rfl rfl) rfl ?_
    refine WL.val (Value.int .i64 x29.2) _ (op_extract rfl rfl) rfl ?_
    refine WL.val u31 _ (op_assign rfl) rfl ?_
    refine WL.val (Value.int .i64 x29.2) _ (op_assign rfl) rfl ?_
    refine WL.nil ?_
    show W _ _ _ _ _ _
    refine W.seq (W.region ?_)
    refine WL.val (Value.agg #[v_aR_Table]) _ (op_loadBox st_24 rfl (BoxAt.lift (Ext.trans hE39 hS41.ext) hx6) rfl rfl) rfl ?_
    obtain ⟨x42, hx43, h⟩ := bs h
    refine WL.call _ (op_call fn_11 (args1 rfl)) (c_laws_toRing (Ty.lift _ (Ext.trans hE38 hS41.ext) r_aR_Table) hx43) rfl ?_
    rintro _ wd45 ⟨u44, rfl, he46, hs47⟩
    have hS48 := St.join hS41 he46 hs47
    replace hS48 : St wd33 wd45 [(Ty.sl (Ty.sl (Ty.sl (Ty.i .i64)))).at u44 x42] := hS48
    refine WL.alloc hS48 ze_29 (cs := [(Value.slice none 0 0)]) rfl rfl ?_
    intro b49 wd50 hS51 he52
    replace hS51 : St wd33 wd50 [(Ty.sl (Ty.sl (Ty.sl (Ty.i .i64)))).at u44 x42, bx b49 [(Value.slice none 0 0)]] := hS51
    refine WL.storeBox [u44] hS51 (k := 1) rfl rfl rfl (us := [u44]) rfl sz_29 rfl rfl (all_rep (St.rep (t := (Ty.sl (Ty.sl (Ty.sl (Ty.i .i64))))) hS51 0 rfl) all_nil) rfl ?_
    intro wd53 hS54
    replace hS54 : St wd33 wd53 [(Ty.sl (Ty.sl (Ty.sl (Ty.i .i64)))).at u44 x42, bx b49 [u44]] := hS54
    refine WL.nil ?_
    show W _ _ _ _ _ _
    refine W.seq (W.region ?_)
    refine WL.val (Value.agg #[u44]) _ (op_loadBox st_29 rfl (St.boxAt hS54 1 rfl) rfl rfl) rfl ?_
    obtain ⟨x55, hx56, h⟩ := bs h
    refine WL.call _ (op_call fn_31 (args1 rfl)) (c_impl_HandleOf (St.rep (t := (Ty.sl (Ty.sl (Ty.sl (Ty.i .i64))))) hS54 0 rfl) hx56) rfl ?_
    rintro _ wd59 ⟨u57, rfl, hr58, he60, hs61⟩
    have hS62 := St.join hS54 he60 hs61
    replace hS62 : St wd33 wd59 [(Ty.sl (Ty.sl (Ty.sl (Ty.i .i64)))).at u44 x42, bx b49 [u44], (Ty.sl (Ty.i .i64)).at u57 x55.1] := hS62
    refine WL.val (Value.tuple #[u57, (Value.int .i64 x55.2)]) _ (op_move rfl) rfl ?_
    refine WL.val u57 _ (op_extract rfl rfl) rfl ?_
    refine WL.val (Value.int .i64 x55.2) _ (op_extract rfl rfl) rfl ?_
    refine WL.val u57 _ (op_assign rfl) rfl ?_
    refine WL.val (Value.int .i64 x55.2) _ (op_assign rfl) rfl ?_
    refine WL.nil ?_
    show W _ _ _ _ _ _
    refine W.seq (W.seq (W.region ?_))
    refine WL.val u57 _ (op_move rfl) rfl ?_
    refine WL.val u31 _ (op_move rfl) rfl ?_
    obtain ⟨x63, hx64, h⟩ := bs h
    refine WL.call _ (op_call fn_15 (args2 rfl rfl)) (c_laws_eqInt64S (St.rep (t := (Ty.sl (Ty.i .i64))) hS62 2 rfl) (Ty.lift _ hS62.ext hb37) hx64) rfl ?_
    rintro _ wd65 ⟨rfl, he66⟩
    have hS68 := St.extend hS62 he66
    replace hS68 : St wd33 wd65 [(Ty.sl (Ty.sl (Ty.sl (Ty.i .i64)))).at u44 x42, bx b49 [u44], (Ty.sl (Ty.i .i64)).at u57 x55.1] := hS68
    refine WL.val (Value.bool (!x63)) _ (op_not rfl) rfl ?_
    refine WL.val (Value.bool (!x63)) _ (op_move rfl) rfl ?_
    refine WL.cut 4 (fun fq wq => fq 1 = (Value.pointer (some ⟨b1, 0, none⟩)) ∧ fq 4 = u31 ∧ fq 5 = (Value.int .i64 x29.2) ∧ fq 6 = (Value.pointer (some ⟨b49, 0, none⟩)) ∧ fq 7 = u57 ∧ fq 8 = (Value.int .i64 x55.2) ∧ fq 40 = (Value.bool ((!x63) || (x55.2 != x29.2))) ∧ St wd33 wq [(Ty.sl (Ty.sl (Ty.sl (Ty.i .i64)))).at u44 x42, bx b49 [u44], (Ty.sl (Ty.i .i64)).at u57 x55.1]) ?_ ?_
    · rcases Bool.eq_false_or_eq_true (!x63) with hc69 | hc69
      · refine WL.gskip rfl (bool_of rfl hc69) rfl ?_
        refine WL.gskip rfl (bool_of rfl hc69) rfl ?_
        refine WL.gskip rfl (bool_of rfl hc69) rfl ?_
        refine WL.val (Value.bool true) _ (op_pick_t (evb_of rfl hc69) rfl) rfl ?_
        refine WL.nil ?_
        exact ⟨rfl, rfl, rfl, rfl, rfl, rfl, rfl, (orT hc69), hS68⟩
      · refine WL.grun rfl (bool_of rfl hc69) ?_
        refine WL.val (Value.int .i64 x55.2) _ (op_move rfl) rfl ?_
        refine WL.grun rfl (bool_of rfl hc69) ?_
        refine WL.val (Value.int .i64 x29.2) _ (op_move rfl) rfl ?_
        refine WL.grun rfl (bool_of rfl hc69) ?_
        refine WL.val (Value.bool (x55.2 != x29.2)) _ (op_neq rfl rfl) rfl ?_
        refine WL.val (Value.bool (x55.2 != x29.2)) _ (op_pick_f (evb_of rfl hc69) rfl) rfl ?_
        refine WL.nil ?_
        exact ⟨rfl, rfl, rfl, rfl, rfl, rfl, rfl, (orF hc69), hS68⟩
    · intro f70 wd71 hq72
      obtain ⟨hf73, hf74, hf75, hf76, hf77, hf78, hf79, hS80⟩ := hq72
      refine WL.nil ?_
      show W _ _ _ _ _ _
      refine W.cond ((!x63) || (x55.2 != x29.2)) hf79 (fun hc81 => ?_) (fun hc81 => ?_)
      · replace h := ip h hc81
        refine W.seq (W.region ?_)
        refine WL.val (Value.bool false) _ (op_assign rfl) rfl ?_
        refine WL.nil ?_
        show W _ _ _ _ _ _
        refine W.ret ?_
        obtain rfl := Option.some.inj h
        show FinP _ _ _ _ _ _ _
        exact FinP.ret _ (res1 rfl rfl) ⟨rfl, (Ext.trans hE38 hS80.ext)⟩
      · replace h := inegb h hc81
        refine W.skip ?_
        show W _ _ _ _ _ _
        refine W.seq (W.seq ?_)
        obtain ⟨x109, hx110, h⟩ := bs h
        refine W.drawR mixo 3 [] [fun _ v S w' => ∃ (uu0 : Value), v = (Value.agg #[uu0]) ∧ (Ty.sl (Ty.sl (Ty.sl (Ty.i .i64)))).rep w' uu0 x42, fun _ v S w' => ∃ (uu0 : Value), v = (Value.agg #[uu0]) ∧ (Ty.sl (Ty.sl (Ty.sl (Ty.i .i64)))).rep w' uu0 aR_Table, fun _ v S w' => ∃ (uu0 : Value), v = (Value.agg #[uu0]) ∧ SepS S w' [(Ty.sl (Ty.sl (Ty.sl (Ty.i .i64)))).at uu0 x109]] (by kernel_rfl) (by kernel_rfl) ⟨⟨fun _ _ _ _ _ he ⟨uu0, h0, r0⟩ => ⟨uu0, h0, Ty.lift _ he r0⟩, fun _ _ _ _ _ _ h => h⟩, ⟨fun _ _ _ _ _ he ⟨uu0, h0, r0⟩ => ⟨uu0, h0, Ty.lift _ he r0⟩, fun _ _ _ _ _ _ h => h⟩, ⟨fun _ _ _ _ _ he ⟨uu0, h0, r0⟩ => ⟨uu0, h0, SepS.extend he r0⟩, fun _ _ _ _ _ _ h => h⟩, trivial⟩ ⟨?_, ?_, ?_, trivial⟩ ?_
        · refine ObX.op rfl ?_
          intro f83 wd84 he85 hout86 hphi87
          have hS88 : St wd33 wd84 [(Ty.sl (Ty.sl (Ty.sl (Ty.i .i64)))).at u44 x42, bx b49 [u44], (Ty.sl (Ty.i .i64)).at u57 x55.1] := St.extend hS80 he85
          have e89 : f83 6 = (Value.pointer (some ⟨b49, 0, none⟩)) := (hout86 6 rfl).trans hf76
          exact OpX.val (Value.agg #[u44]) wd84 rfl (op_loadBox st_29 e89 (St.boxAt hS88 1 rfl) rfl rfl) (Ext.refl _) ⟨u44, rfl, (St.rep (t := (Ty.sl (Ty.sl (Ty.sl (Ty.i .i64))))) hS88 0 rfl)⟩
        · refine ObX.op rfl ?_
          intro f90 wd91 he92 hout93 hphi94
          have hS95 : St wd33 wd91 [(Ty.sl (Ty.sl (Ty.sl (Ty.i .i64)))).at u44 x42, bx b49 [u44], (Ty.sl (Ty.i .i64)).at u57 x55.1] := St.extend hS80 he92
          have e96 : f90 1 = (Value.pointer (some ⟨b1, 0, none⟩)) := (hout93 1 rfl).trans hf73
          exact OpX.val (Value.agg #[v_aR_Table]) wd91 rfl (op_loadBox st_24 e96 (BoxAt.lift (Ext.trans hE39 hS95.ext) hx6) rfl rfl) (Ext.refl _) ⟨v_aR_Table, rfl, (Ty.lift _ (Ext.trans hE38 hS95.ext) r_aR_Table)⟩
        · refine ObX.op rfl ?_
          intro f97 wd98 he99 hout100 hphi101
          have hS102 : St wd33 wd98 [(Ty.sl (Ty.sl (Ty.sl (Ty.i .i64)))).at u44 x42, bx b49 [u44], (Ty.sl (Ty.i .i64)).at u57 x55.1] := St.extend hS80 he99
          obtain ⟨S103, hS104, hf105⟩ := hphi101 1 42 _ rfl rfl rfl
          obtain ⟨u107, e106, hr108⟩ := hf105
          refine OpX.call rfl (op_call fn_11 (args1 e106)) (Ret.mono (c_laws_toRing hr108 hx110) ?_)
          rintro _ wd112 ⟨u111, rfl, he113, hs114⟩
          exact ⟨he113, _, newS _ _, ⟨u111, rfl, (Sep.new hs114)⟩⟩
        · intro f115 wd116 Ss117 he118 hout119 hSn120 hSd121 hphi122
          show WL _ _ _ _ _ _ _
          have hS123 : St wd33 wd116 [(Ty.sl (Ty.sl (Ty.sl (Ty.i .i64)))).at u44 x42, bx b49 [u44], (Ty.sl (Ty.i .i64)).at u57 x55.1] := St.extend hS80 he118
          obtain ⟨u125, e124, hr126⟩ := hphi122 0 41 _ (by decide) rfl rfl
          obtain ⟨u128, e127, e127s⟩ := hphi122 2 43 _ (by decide) rfl rfl
          have e129 : f115 1 = (Value.pointer (some ⟨b1, 0, none⟩)) := (hout119 1 rfl).trans hf73
          have e130 : f115 4 = u31 := (hout119 4 rfl).trans hf74
          have e131 : f115 5 = (Value.int .i64 x29.2) := (hout119 5 rfl).trans hf75
          have e132 : f115 6 = (Value.pointer (some ⟨b49, 0, none⟩)) := (hout119 6 rfl).trans hf76
          have e133 : f115 7 = u57 := (hout119 7 rfl).trans hf77
          have e134 : f115 8 = (Value.int .i64 x55.2) := (hout119 8 rfl).trans hf78
          have hS135 := St.joinS hS80 he118 hSn120 (SepS.consS hSd121 rfl e127s SepS.nilS)
          replace hS135 : St wd33 wd116 [(Ty.sl (Ty.sl (Ty.sl (Ty.i .i64)))).at u44 x42, bx b49 [u44], (Ty.sl (Ty.i .i64)).at u57 x55.1, (Ty.sl (Ty.sl (Ty.sl (Ty.i .i64)))).at u128 x109] := hS135
          obtain ⟨x136, hx137, h⟩ := bs h
          refine WL.call _ (op_call fn_14 (args2 e124 e127)) (c_laws_eqRing hr126 (St.rep (t := (Ty.sl (Ty.sl (Ty.sl (Ty.i .i64))))) hS135 3 rfl) hx137) rfl ?_
          rintro _ wd138 ⟨rfl, he139⟩
          have hS141 := St.extend hS135 he139
          replace hS141 : St wd33 wd138 [(Ty.sl (Ty.sl (Ty.sl (Ty.i .i64)))).at u44 x42, bx b49 [u44], (Ty.sl (Ty.i .i64)).at u57 x55.1, (Ty.sl (Ty.sl (Ty.sl (Ty.i .i64)))).at u128 x109] := hS141
          refine WL.val (Value.bool (!x136)) _ (op_not rfl) rfl ?_
          refine WL.nil ?_
          show W _ _ _ _ _ _
          refine W.cond (!x136) rfl (fun hc142 => ?_) (fun hc142 => ?_)
          · replace h := ip h hc142
            refine W.seq (W.region ?_)
            refine WL.val (Value.bool false) _ (op_assign rfl) rfl ?_
            refine WL.nil ?_
            show W _ _ _ _ _ _
            refine W.ret ?_
            obtain rfl := Option.some.inj h
            show FinP _ _ _ _ _ _ _
            exact FinP.ret _ (res1 rfl rfl) ⟨rfl, (Ext.trans hE38 hS141.ext)⟩
          · replace h := inegb h hc142
            refine W.skip ?_
            show W _ _ _ _ _ _
            refine W.seq (W.region ?_)
            refine WL.val (Value.int .i64 (1 : Int)) _ (op_assign rfl) rfl ?_
            refine WL.nil ?_
            show W _ _ _ _ _ _
            refine W.seq (W.region ?_)
            refine WL.val (Value.agg #[u44]) _ (op_loadBox st_29 e132 (St.boxAt hS141 1 rfl) rfl rfl) rfl ?_
            refine WL.val (Value.int .i64 (1 : Int)) _ (op_move rfl) rfl ?_
            obtain ⟨x144, hx145, h⟩ := bs h
            have hS146 := St.fold [(Ty.sl (Ty.sl (Ty.sl (Ty.i .i64)))).at u44 x42] [bx b49 [u44], (Ty.sl (Ty.i .i64)).at u57 x55.1, (Ty.sl (Ty.sl (Ty.sl (Ty.i .i64)))).at u128 x109] (St.pick hS141 [0, 1, 2, 3] rfl)
            refine WL.call _ (op_call fn_27 (args2 rfl rfl)) (c_laws_markRing hS146 (inR_i64.2 (show (-9223372036854775808 : Int) ≤ 1 ∧ (1 : Int) ≤ 9223372036854775807 from by decide)) hx145) rfl ?_
            rintro _ wd149 ⟨rfl, hr150, hS147⟩
            have hS148 := St.pick (St.unfold [(Ty.sl (Ty.sl (Ty.sl (Ty.i .i64)))).at u44 x144.2] [bx b49 [u44], (Ty.sl (Ty.i .i64)).at u57 x55.1, (Ty.sl (Ty.sl (Ty.sl (Ty.i .i64)))).at u128 x109] hS147) [0, 1, 2, 3] rfl
            replace hS148 : St wd33 wd149 [(Ty.sl (Ty.sl (Ty.sl (Ty.i .i64)))).at u44 x144.2, bx b49 [u44], (Ty.sl (Ty.i .i64)).at u57 x55.1, (Ty.sl (Ty.sl (Ty.sl (Ty.i .i64)))).at u128 x109] := hS148
            refine WL.val (Value.int .i64 x144.1) _ (op_assign rfl) rfl ?_
            refine WL.nil ?_
            show W _ _ _ _ _ _
            refine W.seq (W.seq (W.region ?_))
            refine WL.val (Value.int .i64 x144.1) _ (op_move rfl) rfl ?_
            refine WL.val (Value.bool (decide (x144.1 < (0 : Int)))) _ (op_lss rfl rfl) rfl ?_
            refine WL.val (Value.bool (decide (x144.1 < (0 : Int)))) _ (op_move rfl) rfl ?_
            obtain ⟨x152, hj153, h⟩ := bs h
            refine WL.cut 5 (fun fq wq => fq 1 = (Value.pointer (some ⟨b1, 0, none⟩)) ∧ fq 4 = u31 ∧ fq 5 = (Value.int .i64 x29.2) ∧ fq 7 = u57 ∧ fq 8 = (Value.int .i64 x55.2) ∧ fq 56 = Value.bool x152 ∧ St wd33 wq [(Ty.sl (Ty.i .i64)).at u57 x55.1]) ?_ ?_
            · rcases Bool.eq_false_or_eq_true (decide (x144.1 < (0 : Int))) with hc151 | hc151
              · replace hj153 := ip hj153 hc151
                refine WL.gskip rfl (bool_of rfl hc151) rfl ?_
                refine WL.gskip rfl (bool_of rfl hc151) rfl ?_
                refine WL.gskip rfl (bool_of rfl hc151) rfl ?_
                refine WL.gskip rfl (bool_of rfl hc151) rfl ?_
                refine WL.val (Value.bool true) _ (op_pick_t (evb_of rfl hc151) rfl) rfl ?_
                refine WL.nil ?_
                obtain rfl := Option.some.inj hj153
                exact ⟨rfl, e129, e130, e131, e133, e134, rfl, (St.pick hS148 [2] rfl)⟩
              · replace hj153 := inegb hj153 hc151
                refine WL.grun rfl (bool_of rfl hc151) ?_
                refine WL.val u57 _ (op_move e133) rfl ?_
                refine WL.grun rfl (bool_of rfl hc151) ?_
                refine WL.val u31 _ (op_move e130) rfl ?_
                refine WL.grun rfl (bool_of rfl hc151) ?_
                obtain ⟨x157, hx158, hj153⟩ := bs hj153
                refine WL.call _ (op_call fn_15 (args2 rfl rfl)) (c_laws_eqInt64S (St.rep (t := (Ty.sl (Ty.i .i64))) hS148 2 rfl) (Ty.lift _ hS148.ext hb37) hx158) rfl ?_
                rintro _ wd159 ⟨rfl, he160⟩
                have hS162 := St.extend hS148 he160
                replace hS162 : St wd33 wd159 [(Ty.sl (Ty.sl (Ty.sl (Ty.i .i64)))).at u44 x144.2, bx b49 [u44], (Ty.sl (Ty.i .i64)).at u57 x55.1, (Ty.sl (Ty.sl (Ty.sl (Ty.i .i64)))).at u128 x109] := hS162
                refine WL.grun rfl (bool_of rfl hc151) ?_
                refine WL.val (Value.bool (!x157)) _ (op_not rfl) rfl ?_
                refine WL.val (Value.bool (!x157)) _ (op_pick_f (evb_of rfl hc151) rfl) rfl ?_
                refine WL.nil ?_
                obtain rfl := Option.some.inj hj153
                exact ⟨rfl, e129, e130, e131, e133, e134, rfl, (St.pick hS162 [2] rfl)⟩
            · intro f154 wd155 hq156
              obtain ⟨hf163, hf164, hf165, hf166, hf167, hf168, hS169⟩ := hq156
              refine WL.val (Value.bool x152) _ (op_move hf168) rfl ?_
              refine WL.cut 4 (fun fq wq => fq 1 = (Value.pointer (some ⟨b1, 0, none⟩)) ∧ fq 4 = u31 ∧ fq 5 = (Value.int .i64 x29.2) ∧ fq 7 = u57 ∧ fq 61 = (Value.bool (x152 || (x55.2 != x29.2))) ∧ St wd33 wq [(Ty.sl (Ty.i .i64)).at u57 x55.1]) ?_ ?_
              · rcases Bool.eq_false_or_eq_true x152 with hc170 | hc170
                · refine WL.gskip rfl (bool_of rfl hc170) rfl ?_
                  refine WL.gskip rfl (bool_of rfl hc170) rfl ?_
                  refine WL.gskip rfl (bool_of rfl hc170) rfl ?_
                  refine WL.val (Value.bool true) _ (op_pick_t (evb_of rfl hc170) rfl) rfl ?_
                  refine WL.nil ?_
                  exact ⟨rfl, hf163, hf164, hf165, hf166, (orT hc170), hS169⟩
                · refine WL.grun rfl (bool_of rfl hc170) ?_
                  refine WL.val (Value.int .i64 x55.2) _ (op_move hf167) rfl ?_
                  refine WL.grun rfl (bool_of rfl hc170) ?_
                  refine WL.val (Value.int .i64 x29.2) _ (op_move hf165) rfl ?_
                  refine WL.grun rfl (bool_of rfl hc170) ?_
                  refine WL.val (Value.bool (x55.2 != x29.2)) _ (op_neq rfl rfl) rfl ?_
                  refine WL.val (Value.bool (x55.2 != x29.2)) _ (op_pick_f (evb_of rfl hc170) rfl) rfl ?_
                  refine WL.nil ?_
                  exact ⟨rfl, hf163, hf164, hf165, hf166, (orF hc170), hS169⟩
              · intro f171 wd172 hq173
                obtain ⟨hf174, hf175, hf176, hf177, hf178, hS179⟩ := hq173
                refine WL.nil ?_
                show W _ _ _ _ _ _
                refine W.cond (x152 || (x55.2 != x29.2)) hf178 (fun hc180 => ?_) (fun hc180 => ?_)
                · replace h := ip h hc180
                  refine W.seq (W.region ?_)
                  refine WL.val (Value.bool false) _ (op_assign rfl) rfl ?_
                  refine WL.nil ?_
                  show W _ _ _ _ _ _
                  refine W.ret ?_
                  obtain rfl := Option.some.inj h
                  show FinP _ _ _ _ _ _ _
                  exact FinP.ret _ (res1 rfl rfl) ⟨rfl, (Ext.trans hE38 hS179.ext)⟩
                · replace h := inegb h hc180
                  refine W.skip ?_
                  show W _ _ _ _ _ _
                  refine W.seq (W.region ?_)
                  refine WL.val (Value.int .i64 (1 : Int)) _ (op_assign rfl) rfl ?_
                  refine WL.nil ?_
                  show W _ _ _ _ _ _
                  refine W.seq (W.region ?_)
                  refine WL.val u57 _ (op_move hf177) rfl ?_
                  refine WL.val (Value.int .i64 (1 : Int)) _ (op_move rfl) rfl ?_
                  obtain ⟨x182, hx183, h⟩ := bs h
                  have hS184 := St.fold [(Ty.sl (Ty.i .i64)).at u57 x55.1] [] (St.pick hS179 [0] rfl)
                  refine WL.call _ (op_call fn_32 (args2 rfl rfl)) (c_laws_markInt64S hS184 (inR_i64.2 (show (-9223372036854775808 : Int) ≤ 1 ∧ (1 : Int) ≤ 9223372036854775807 from by decide)) hx183) rfl ?_
                  rintro _ wd187 ⟨rfl, hr188, hS185⟩
                  have hS186 := St.pick (St.unfold [(Ty.sl (Ty.i .i64)).at u57 x182.2] [] hS185) [0] rfl
                  replace hS186 : St wd33 wd187 [(Ty.sl (Ty.i .i64)).at u57 x182.2] := hS186
                  refine WL.val (Value.int .i64 x182.1) _ (op_assign rfl) rfl ?_
                  refine WL.nil ?_
                  show W _ _ _ _ _ _
                  refine W.seq (W.region ?_)
                  refine WL.val (Value.int .i64 (1 : Int)) _ (op_assign rfl) rfl ?_
                  refine WL.nil ?_
                  show W _ _ _ _ _ _
                  refine W.seq (W.region ?_)
                  refine WL.val u57 _ (op_move hf177) rfl ?_
                  refine WL.val (Value.int .i64 (1 : Int)) _ (op_move rfl) rfl ?_
                  obtain ⟨x189, hx190, h⟩ := bs h
                  refine WL.call _ (op_call fn_33 (args2 rfl rfl)) (c_laws_heldInt64S (St.rep (t := (Ty.sl (Ty.i .i64))) hS186 0 rfl) (inR_i64.2 (show (-9223372036854775808 : Int) ≤ 1 ∧ (1 : Int) ≤ 9223372036854775807 from by decide)) hx190) rfl ?_
                  rintro _ wd192 ⟨rfl, hr191, he193⟩
                  have hS195 := St.extend hS186 he193
                  replace hS195 : St wd33 wd192 [(Ty.sl (Ty.i .i64)).at u57 x182.2] := hS195
                  refine WL.val (Value.int .i64 x189) _ (op_assign rfl) rfl ?_
                  refine WL.nil ?_
                  show W _ _ _ _ _ _
                  refine W.seq (W.seq (W.region ?_))
                  refine WL.val (Value.int .i64 x189) _ (op_move rfl) rfl ?_
                  refine WL.val (Value.bool (decide (x189 < (0 : Int)))) _ (op_lss rfl rfl) rfl ?_
                  refine WL.nil ?_
                  show W _ _ _ _ _ _
                  refine W.cond (decide (x189 < (0 : Int))) rfl (fun hc196 => ?_) (fun hc196 => ?_)
                  · replace h := ip h hc196
                    refine W.seq (W.region ?_)
                    refine WL.val (Value.bool false) _ (op_assign rfl) rfl ?_
                    refine WL.nil ?_
                    show W _ _ _ _ _ _
                    refine W.ret ?_
                    obtain rfl := Option.some.inj h
                    show FinP _ _ _ _ _ _ _
                    exact FinP.ret _ (res1 rfl rfl) ⟨rfl, (Ext.trans hE38 hS195.ext)⟩
                  · replace h := inegb h hc196
                    refine W.skip ?_
                    show W _ _ _ _ _ _
                    refine W.seq (W.seq (W.region ?_))
                    refine WL.val (Value.int .i64 x189) _ (op_move rfl) rfl ?_
                    refine WL.val (Value.int .i64 x182.1) _ (op_move rfl) rfl ?_
                    refine WL.val (Value.bool (x189 != x182.1)) _ (op_neq rfl rfl) rfl ?_
                    refine WL.nil ?_
                    show W _ _ _ _ _ _
                    refine W.cond (x189 != x182.1) rfl (fun hc198 => ?_) (fun hc198 => ?_)
                    · replace h := ip h hc198
                      refine W.seq (W.region ?_)
                      refine WL.val (Value.bool false) _ (op_assign rfl) rfl ?_
                      refine WL.nil ?_
                      show W _ _ _ _ _ _
                      refine W.ret ?_
                      obtain rfl := Option.some.inj h
                      show FinP _ _ _ _ _ _ _
                      exact FinP.ret _ (res1 rfl rfl) ⟨rfl, (Ext.trans hE38 hS195.ext)⟩
                    · replace h := inegb h hc198
                      refine W.skip ?_
                      show W _ _ _ _ _ _
                      refine W.seq (W.region ?_)
                      refine WL.val (Value.agg #[v_aR_Table]) _ (op_loadBox st_24 hf174 (BoxAt.lift (Ext.trans hE39 hS195.ext) hx6) rfl rfl) rfl ?_
                      obtain ⟨x200, hx201, h⟩ := bs h
                      refine WL.call _ (op_call fn_11 (args1 rfl)) (c_laws_toRing (Ty.lift _ (Ext.trans hE38 hS195.ext) r_aR_Table) hx201) rfl ?_
                      rintro _ wd203 ⟨u202, rfl, he204, hs205⟩
                      have hS206 := St.join hS195 he204 hs205
                      replace hS206 : St wd33 wd203 [(Ty.sl (Ty.i .i64)).at u57 x182.2, (Ty.sl (Ty.sl (Ty.sl (Ty.i .i64)))).at u202 x200] := hS206
                      obtain ⟨x207, hx208, h⟩ := bs h
                      refine WL.call _ (op_call fn_31 (args1 rfl)) (c_impl_HandleOf (St.rep (t := (Ty.sl (Ty.sl (Ty.sl (Ty.i .i64))))) hS206 1 rfl) hx208) rfl ?_
                      rintro _ wd211 ⟨u209, rfl, hr210, he212, hs213⟩
                      have hS214 := St.join hS206 he212 hs213
                      replace hS214 : St wd33 wd211 [(Ty.sl (Ty.i .i64)).at u57 x182.2, (Ty.sl (Ty.sl (Ty.sl (Ty.i .i64)))).at u202 x200, (Ty.sl (Ty.i .i64)).at u209 x207.1] := hS214
                      refine WL.val (Value.tuple #[u209, (Value.int .i64 x207.2)]) _ (op_move rfl) rfl ?_
                      refine WL.val u209 _ (op_extract rfl rfl) rfl ?_
                      refine WL.val (Value.int .i64 x207.2) _ (op_extract rfl rfl) rfl ?_
                      refine WL.val u209 _ (op_assign rfl) rfl ?_
                      refine WL.val (Value.int .i64 x207.2) _ (op_assign rfl) rfl ?_
                      refine WL.nil ?_
                      show W _ _ _ _ _ _
                      refine W.seq (W.seq (W.region ?_))
                      refine WL.val u209 _ (op_move rfl) rfl ?_
                      refine WL.val u31 _ (op_move hf175) rfl ?_
                      obtain ⟨x215, hx216, h⟩ := bs h
                      refine WL.call _ (op_call fn_15 (args2 rfl rfl)) (c_laws_eqInt64S (St.rep (t := (Ty.sl (Ty.i .i64))) hS214 2 rfl) (Ty.lift _ hS214.ext hb37) hx216) rfl ?_
                      rintro _ wd217 ⟨rfl, he218⟩
                      have hS220 := St.extend hS214 he218
                      replace hS220 : St wd33 wd217 [(Ty.sl (Ty.i .i64)).at u57 x182.2, (Ty.sl (Ty.sl (Ty.sl (Ty.i .i64)))).at u202 x200, (Ty.sl (Ty.i .i64)).at u209 x207.1] := hS220
                      refine WL.val (Value.bool (!x215)) _ (op_not rfl) rfl ?_
                      refine WL.val (Value.bool (!x215)) _ (op_move rfl) rfl ?_
                      refine WL.cut 4 (fun fq wq => fq 7 = u57 ∧ fq 10 = (Value.int .i64 x182.1) ∧ fq 87 = (Value.bool ((!x215) || (x207.2 != x29.2))) ∧ St wd33 wq [(Ty.sl (Ty.i .i64)).at u57 x182.2]) ?_ ?_
                      · rcases Bool.eq_false_or_eq_true (!x215) with hc221 | hc221
                        · refine WL.gskip rfl (bool_of rfl hc221) rfl ?_
                          refine WL.gskip rfl (bool_of rfl hc221) rfl ?_
                          refine WL.gskip rfl (bool_of rfl hc221) rfl ?_
                          refine WL.val (Value.bool true) _ (op_pick_t (evb_of rfl hc221) rfl) rfl ?_
                          refine WL.nil ?_
                          exact ⟨rfl, hf177, rfl, (orT hc221), (St.pick hS220 [0] rfl)⟩
                        · refine WL.grun rfl (bool_of rfl hc221) ?_
                          refine WL.val (Value.int .i64 x207.2) _ (op_move rfl) rfl ?_
                          refine WL.grun rfl (bool_of rfl hc221) ?_
                          refine WL.val (Value.int .i64 x29.2) _ (op_move hf176) rfl ?_
                          refine WL.grun rfl (bool_of rfl hc221) ?_
                          refine WL.val (Value.bool (x207.2 != x29.2)) _ (op_neq rfl rfl) rfl ?_
                          refine WL.val (Value.bool (x207.2 != x29.2)) _ (op_pick_f (evb_of rfl hc221) rfl) rfl ?_
                          refine WL.nil ?_
                          exact ⟨rfl, hf177, rfl, (orF hc221), (St.pick hS220 [0] rfl)⟩
                      · intro f222 wd223 hq224
                        obtain ⟨hf225, hf226, hf227, hS228⟩ := hq224
                        refine WL.nil ?_
                        show W _ _ _ _ _ _
                        refine W.cond ((!x215) || (x207.2 != x29.2)) hf227 (fun hc229 => ?_) (fun hc229 => ?_)
                        · replace h := ip h hc229
                          refine W.seq (W.region ?_)
                          refine WL.val (Value.bool false) _ (op_assign rfl) rfl ?_
                          refine WL.nil ?_
                          show W _ _ _ _ _ _
                          refine W.ret ?_
                          obtain rfl := Option.some.inj h
                          show FinP _ _ _ _ _ _ _
                          exact FinP.ret _ (res1 rfl rfl) ⟨rfl, (Ext.trans hE38 hS228.ext)⟩
                        · replace h := inegb h hc229
                          refine W.skip ?_
                          show W _ _ _ _ _ _
                          refine W.seq (W.region ?_)
                          refine WL.val (Value.int .i64 (1 : Int)) _ (op_assign rfl) rfl ?_
                          refine WL.nil ?_
                          show W _ _ _ _ _ _
                          refine W.seq (W.region ?_)
                          refine WL.val u57 _ (op_move hf225) rfl ?_
                          refine WL.val (Value.int .i64 (1 : Int)) _ (op_move rfl) rfl ?_
                          obtain ⟨x231, hx232, h⟩ := bs h
                          refine WL.call _ (op_call fn_33 (args2 rfl rfl)) (c_laws_heldInt64S (St.rep (t := (Ty.sl (Ty.i .i64))) hS228 0 rfl) (inR_i64.2 (show (-9223372036854775808 : Int) ≤ 1 ∧ (1 : Int) ≤ 9223372036854775807 from by decide)) hx232) rfl ?_
                          rintro _ wd234 ⟨rfl, hr233, he235⟩
                          have hS237 := St.extend hS228 he235
                          replace hS237 : St wd33 wd234 [(Ty.sl (Ty.i .i64)).at u57 x182.2] := hS237
                          refine WL.val (Value.int .i64 x231) _ (op_assign rfl) rfl ?_
                          refine WL.nil ?_
                          show W _ _ _ _ _ _
                          refine W.seq (W.seq (W.region ?_))
                          refine WL.val (Value.int .i64 x231) _ (op_move rfl) rfl ?_
                          refine WL.val (Value.bool (decide (x231 < (0 : Int)))) _ (op_lss rfl rfl) rfl ?_
                          refine WL.nil ?_
                          show W _ _ _ _ _ _
                          refine W.cond (decide (x231 < (0 : Int))) rfl (fun hc238 => ?_) (fun hc238 => ?_)
                          · replace h := ip h hc238
                            refine W.seq (W.region ?_)
                            refine WL.val (Value.bool false) _ (op_assign rfl) rfl ?_
                            refine WL.nil ?_
                            show W _ _ _ _ _ _
                            refine W.ret ?_
                            obtain rfl := Option.some.inj h
                            show FinP _ _ _ _ _ _ _
                            exact FinP.ret _ (res1 rfl rfl) ⟨rfl, (Ext.trans hE38 hS237.ext)⟩
                          · replace h := inegb h hc238
                            refine W.skip ?_
                            show W _ _ _ _ _ _
                            refine W.seq (W.seq (W.region ?_))
                            refine WL.val (Value.int .i64 x231) _ (op_move rfl) rfl ?_
                            refine WL.val (Value.int .i64 x182.1) _ (op_move hf226) rfl ?_
                            refine WL.val (Value.bool (x231 != x182.1)) _ (op_neq rfl rfl) rfl ?_
                            refine WL.nil ?_
                            show W _ _ _ _ _ _
                            refine W.cond (x231 != x182.1) rfl (fun hc240 => ?_) (fun hc240 => ?_)
                            · replace h := ip h hc240
                              refine W.seq (W.region ?_)
                              refine WL.val (Value.bool false) _ (op_assign rfl) rfl ?_
                              refine WL.nil ?_
                              show W _ _ _ _ _ _
                              refine W.ret ?_
                              obtain rfl := Option.some.inj h
                              show FinP _ _ _ _ _ _ _
                              exact FinP.ret _ (res1 rfl rfl) ⟨rfl, (Ext.trans hE38 hS237.ext)⟩
                            · replace h := inegb h hc240
                              refine W.skip ?_
                              show W _ _ _ _ _ _
                              refine W.seq (W.region ?_)
                              refine WL.val (Value.bool true) _ (op_assign rfl) rfl ?_
                              refine WL.nil ?_
                              show W _ _ _ _ _ _
                              refine W.ret ?_
                              obtain rfl := Option.some.inj h
                              show FinP _ _ _ _ _ _ _
                              exact FinP.ret _ (res1 rfl rfl) ⟨rfl, (Ext.trans hE38 hS237.ext)⟩

end Go.VG
