/- The walks, part 4: each Go function returns what its plain twin returns. No condition beyond what each names. -/
import Derived.Test.YtfbjoncpgjgppaaGWalk3
set_option linter.all false
namespace Go.VG
open Go.Proofs
attribute [local irreducible] W WL Sep FinP

theorem c_laws_FnExactIntegerDimensions {w : World} {aR_Table : (List (List (List Int)))} {v_aR_Table : Value} (r_aR_Table : (Ty.sl (Ty.sl (Ty.sl (Ty.i .i64)))).rep w v_aR_Table aR_Table) {res : Bool} (h : p_laws_FnExactIntegerDimensions aR_Table  = some res) :
    Ret Try.prog 6 #[(Value.agg #[v_aR_Table])] w (fun v w' => v = Value.bool res ∧ Ext w w') := by
  unfold p_laws_FnExactIntegerDimensions at h
  have hS0 : St w w [] := St.start w
  refine Ret.start (fn := Try.f6) Try.func6 rfl 96 rfl rfl ?_
  refine W.seq (W.region ?_)
  refine WL.box hS0 rfl (cs := [v_aR_Table]) rfl rfl ?_
  intro b1 wd2 hS3 he4 hx5
  replace hS3 : St w wd2 [bx b1 [v_aR_Table]] := hS3
  have hx6 := St.boxAt hS3 0 rfl
  have hE7 : Ext w wd2 := hS3.ext
  have hS8 : St wd2 wd2 [] := St.start wd2
  refine WL.val (Value.bool false) _ (op_assign rfl) rfl ?_
  refine WL.nil ?_
  refine W.seq (W.region ?_)
  refine WL.val (Value.int .i64 (1048576 : Int)) _ (op_assign rfl) rfl ?_
  refine WL.nil ?_
  refine W.seq (W.region ?_)
  refine WL.val (Value.agg #[v_aR_Table]) _ (op_loadBox st_24 rfl (BoxAt.lift hS8.ext hx6) rfl rfl) rfl ?_
  refine WL.val (Value.int .i64 (1048576 : Int)) _ (op_move rfl) rfl ?_
  obtain ⟨x9, hx10, h⟩ := bs h
  refine WL.call _ (op_call fn_7 (args2 rfl rfl)) (c_laws_szRing (Ty.lift _ (Ext.trans hE7 hS8.ext) r_aR_Table) (inL rfl) hx10) rfl ?_
  rintro _ wd12 ⟨rfl, hr11, he13⟩
  have hS15 := St.extend hS8 he13
  replace hS15 : St wd2 wd12 [] := hS15
  refine WL.val (Value.int .i64 x9) _ (op_assign rfl) rfl ?_
  refine WL.nil ?_
  refine W.seq (W.seq (W.region ?_))
  refine WL.val (Value.int .i64 x9) _ (op_move rfl) rfl ?_
  refine WL.val (Value.bool (decide (x9 < (0 : Int)))) _ (op_lss rfl rfl) rfl ?_
  refine WL.nil ?_
  refine W.cond (decide (x9 < (0 : Int))) rfl (fun hc16 => ?_) (fun hc16 => ?_)
  · replace h := ip h hc16
    refine W.seq (W.region ?_)
    refine WL.val (Value.bool true) _ (op_assign rfl) rfl ?_
    refine WL.nil ?_
    refine W.ret ?_
    obtain rfl := Option.some.inj h
    show FinP _ _ _ _ _ _ _
    exact FinP.ret _ (res1 rfl rfl) ⟨rfl, (Ext.trans hE7 hS15.ext)⟩
  · replace h := inegb h hc16
    refine W.skip ?_
    refine W.seq (W.region ?_)
    refine WL.val (Value.agg #[v_aR_Table]) _ (op_loadBox st_24 rfl (BoxAt.lift hS15.ext hx6) rfl rfl) rfl ?_
    obtain ⟨x18, hx19, h⟩ := bs h
    refine WL.call _ (op_call fn_9 (args1 rfl)) (c_laws_toRing (Ty.lift _ (Ext.trans hE7 hS15.ext) r_aR_Table) hx19) rfl ?_
    rintro _ wd21 ⟨u20, rfl, he22, hs23⟩
    have hS24 := St.join hS15 he22 hs23
    replace hS24 : St wd2 wd21 [(Ty.sl (Ty.sl (Ty.sl (Ty.i .i64)))).at u20 x18] := hS24
    have hb25 := St.rep (t := (Ty.sl (Ty.sl (Ty.sl (Ty.i .i64))))) hS24 0 rfl
    have hE26 : Ext w wd21 := (Ext.trans hE7 hS24.ext)
    have hE27 : Ext wd2 wd21 := hS24.ext
    have hS28 : St wd21 wd21 [] := St.start wd21
    obtain ⟨x29, hx30, h⟩ := bs h
    refine WL.call _ (op_call fn_18 (args1 rfl)) (c_spec_IntegerDimensions (Ty.lift _ hS28.ext hb25) hx30) rfl ?_
    rintro _ wd33 ⟨u31, rfl, hr32, he34, hs35⟩
    have hS36 := St.join hS28 he34 hs35
    replace hS36 : St wd21 wd33 [(Ty.sl (Ty.i .i64)).at u31 x29.1] := hS36
    have hb37 := St.rep (t := (Ty.sl (Ty.i .i64))) hS36 0 rfl
    have hE38 : Ext w wd33 := (Ext.trans hE26 hS36.ext)
    have hE39 : Ext wd2 wd33 := (Ext.trans hE27 hS36.ext)
    have hE40 : Ext wd21 wd33 := hS36.ext
    have hS41 : St wd33 wd33 [] := St.start wd33
    refine WL.val (Value.tuple #[u31, (Value.int .i64 x29.2)]) _ (op_move rfl) rfl ?_
    refine WL.val u31 _ (op_extract rfl rfl) rfl ?_
    refine WL.val (Value.int .i64 x29.2) _ (op_extract rfl rfl) rfl ?_
    refine WL.val u31 _ (op_assign rfl) rfl ?_
    refine WL.val (Value.int .i64 x29.2) _ (op_assign rfl) rfl ?_
    refine WL.nil ?_
    refine W.seq (W.region ?_)
    refine WL.val (Value.agg #[v_aR_Table]) _ (op_loadBox st_24 rfl (BoxAt.lift (Ext.trans hE39 hS41.ext) hx6) rfl rfl) rfl ?_
    obtain ⟨x42, hx43, h⟩ := bs h
    refine WL.call _ (op_call fn_9 (args1 rfl)) (c_laws_toRing (Ty.lift _ (Ext.trans hE38 hS41.ext) r_aR_Table) hx43) rfl ?_
    rintro _ wd45 ⟨u44, rfl, he46, hs47⟩
    have hS48 := St.join hS41 he46 hs47
    replace hS48 : St wd33 wd45 [(Ty.sl (Ty.sl (Ty.sl (Ty.i .i64)))).at u44 x42] := hS48
    refine WL.alloc hS48 ze_28 (cs := [(Value.slice none 0 0)]) rfl rfl ?_
    intro b49 wd50 hS51 he52
    replace hS51 : St wd33 wd50 [(Ty.sl (Ty.sl (Ty.sl (Ty.i .i64)))).at u44 x42, bx b49 [(Value.slice none 0 0)]] := hS51
    refine WL.storeBox [u44] hS51 (k := 1) rfl rfl rfl (us := [u44]) rfl sz_28 rfl rfl (all_rep (St.rep (t := (Ty.sl (Ty.sl (Ty.sl (Ty.i .i64))))) hS51 0 rfl) all_nil) rfl ?_
    intro wd53 hS54
    replace hS54 : St wd33 wd53 [(Ty.sl (Ty.sl (Ty.sl (Ty.i .i64)))).at u44 x42, bx b49 [u44]] := hS54
    refine WL.nil ?_
    refine W.seq (W.region ?_)
    refine WL.val (Value.agg #[u44]) _ (op_loadBox st_28 rfl (St.boxAt hS54 1 rfl) rfl rfl) rfl ?_
    obtain ⟨x55, hx56, h⟩ := bs h
    refine WL.call _ (op_call fn_19 (args1 rfl)) (c_impl_IntegerDimensions (St.rep (t := (Ty.sl (Ty.sl (Ty.sl (Ty.i .i64))))) hS54 0 rfl) hx56) rfl ?_
    rintro _ wd59 ⟨u57, rfl, hr58, he60, hs61⟩
    have hS62 := St.join hS54 he60 hs61
    replace hS62 : St wd33 wd59 [(Ty.sl (Ty.sl (Ty.sl (Ty.i .i64)))).at u44 x42, bx b49 [u44], (Ty.sl (Ty.i .i64)).at u57 x55.1] := hS62
    refine WL.val (Value.tuple #[u57, (Value.int .i64 x55.2)]) _ (op_move rfl) rfl ?_
    refine WL.val u57 _ (op_extract rfl rfl) rfl ?_
    refine WL.val (Value.int .i64 x55.2) _ (op_extract rfl rfl) rfl ?_
    refine WL.val u57 _ (op_assign rfl) rfl ?_
    refine WL.val (Value.int .i64 x55.2) _ (op_assign rfl) rfl ?_
    refine WL.nil ?_
    refine W.seq (W.seq (W.region ?_))
    refine WL.val u57 _ (op_move rfl) rfl ?_
    refine WL.val u31 _ (op_move rfl) rfl ?_
    obtain ⟨x63, hx64, h⟩ := bs h
    refine WL.call _ (op_call fn_17 (args2 rfl rfl)) (c_laws_eqInt64S (St.rep (t := (Ty.sl (Ty.i .i64))) hS62 2 rfl) (Ty.lift _ hS62.ext hb37) hx64) rfl ?_
    rintro _ wd65 ⟨rfl, he66⟩
    have hS68 := St.extend hS62 he66
    replace hS68 : St wd33 wd65 [(Ty.sl (Ty.sl (Ty.sl (Ty.i .i64)))).at u44 x42, bx b49 [u44], (Ty.sl (Ty.i .i64)).at u57 x55.1] := hS68
    refine WL.val (Value.bool (!x63)) _ (op_not rfl) rfl ?_
    refine WL.val (Value.bool (!x63)) _ (op_move rfl) rfl ?_
    refine WL.cut 4 (fun fq wq => fq 1 = (Value.pointer (some ⟨b1, 0, none⟩)) ∧ fq 4 = u31 ∧ fq 5 = (Value.int .i64 x29.2) ∧ fq 6 = (Value.pointer (some ⟨b49, 0, none⟩)) ∧ fq 7 = u57 ∧ fq 8 = (Value.int .i64 x55.2) ∧ fq 40 = (Value.bool ((!x63) || (x55.2 != x29.2))) ∧ St wd33 wq [(Ty.sl (Ty.sl (Ty.sl (Ty.i .i64)))).at u44 x42, bx b49 [u44], (Ty.sl (Ty.i .i64)).at u57 x55.1]) ?_ ?_
    · rcases Bool.eq_false_or_eq_true (!x63) with hc69 | hc69
      · refine WL.gskip rfl (bool_of rfl hc69) rfl ?_
        refine WL.gskip rfl (bool_of rfl hc69) rfl ?_
        refine WL.gskip rfl (bool_of rfl hc69) rfl ?_
        refine WL.val (Value.bool true) _ (op_pick_t (evb_of rfl hc69) rfl) rfl ?_
        refine WL.nil ?_
        exact ⟨rfl, rfl, rfl, rfl, rfl, rfl, rfl, (orT hc69), hS68⟩
      · refine WL.grun rfl (bool_of rfl hc69) ?_
        refine WL.val (Value.int .i64 x55.2) _ (op_move rfl) rfl ?_
        refine WL.grun rfl (bool_of rfl hc69) ?_
        refine WL.val (Value.int .i64 x29.2) _ (op_move rfl) rfl ?_
        refine WL.grun rfl (bool_of rfl hc69) ?_
        refine WL.val (Value.bool (x55.2 != x29.2)) _ (op_neq rfl rfl) rfl ?_
        refine WL.val (Value.bool (x55.2 != x29.2)) _ (op_pick_f (evb_of rfl hc69) rfl) rfl ?_
        refine WL.nil ?_
        exact ⟨rfl, rfl, rfl, rfl, rfl, rfl, rfl, (orF hc69), hS68⟩
    · intro f70 wd71 hq72
      obtain ⟨hf73, hf74, hf75, hf76, hf77, hf78, hf79, hS80⟩ := hq72
      refine WL.nil ?_
      refine W.cond ((!x63) || (x55.2 != x29.2)) hf79 (fun hc81 => ?_) (fun hc81 => ?_)
      · replace h := ip h hc81
        refine W.seq (W.region ?_)
        refine WL.val (Value.bool false) _ (op_assign rfl) rfl ?_
        refine WL.nil ?_
        refine W.ret ?_
        obtain rfl := Option.some.inj h
        show FinP _ _ _ _ _ _ _
        exact FinP.ret _ (res1 rfl rfl) ⟨rfl, (Ext.trans hE38 hS80.ext)⟩
      · replace h := inegb h hc81
        refine W.skip ?_
        refine W.seq (W.seq ?_)
        obtain ⟨x107, hx108, h⟩ := bs h
        refine W.drawR mixo 3 [] [fun _ v S w' => v = (Value.agg #[u44]), fun _ v S w' => v = (Value.agg #[v_aR_Table]), fun _ v S w' => ∃ (uu0 : Value), v = (Value.agg #[uu0]) ∧ SepS S w' [(Ty.sl (Ty.sl (Ty.sl (Ty.i .i64)))).at uu0 x107]] (by kernel_rfl) (by kernel_rfl) ⟨pk, pk, ⟨fun _ _ _ _ _ he ⟨uu0, h0, r0⟩ => ⟨uu0, h0, SepS.extend he r0⟩, fun _ _ _ _ _ _ h => h⟩, trivial⟩ ⟨?_, ?_, ?_, trivial⟩ ?_
        · refine ObX.op rfl fun f83 wd84 he85 hout86 hphi87 => ?_
          have hS88 := St.extend hS80 he85
          have e89 : f83 6 = (Value.pointer (some ⟨b49, 0, none⟩)) := (hout86 6 rfl).trans hf76
          exact OpX.val (Value.agg #[u44]) wd84 rfl (op_loadBox st_28 e89 (St.boxAt hS88 1 rfl) rfl rfl) (Ext.refl _) rfl
        · refine ObX.op rfl fun f90 wd91 he92 hout93 hphi94 => ?_
          have hS95 := St.extend hS80 he92
          have e96 : f90 1 = (Value.pointer (some ⟨b1, 0, none⟩)) := (hout93 1 rfl).trans hf73
          exact OpX.val (Value.agg #[v_aR_Table]) wd91 rfl (op_loadBox st_24 e96 (BoxAt.lift (Ext.trans hE39 hS95.ext) hx6) rfl rfl) (Ext.refl _) rfl
        · refine ObX.op rfl fun f97 wd98 he99 hout100 hphi101 => ?_
          have hS102 := St.extend hS80 he99
          obtain ⟨S103, hS104, hf105⟩ := hphi101 1 42 _ rfl rfl rfl
          have e106 : f97 42 = (Value.agg #[v_aR_Table]) := hf105
          refine OpX.call rfl (op_call fn_9 (args1 e106)) (Ret.mono (c_laws_toRing (Ty.lift _ (Ext.trans hE38 hS102.ext) r_aR_Table) hx108) ?_)
          rintro _ wd110 ⟨u109, rfl, he111, hs112⟩
          exact ⟨he111, _, newS _ _, ⟨u109, rfl, (Sep.new hs112)⟩⟩
        · intro f113 wd114 Ss115 he116 hout117 hSn118 hSd119 hphi120
          show WL _ _ _ _ _ _ _
          have e122 : f113 41 = (Value.agg #[u44]) := hphi120 0 41 _ (by decide) rfl rfl
          obtain ⟨u124, e123, e123s⟩ := hphi120 2 43 _ (by decide) rfl rfl
          have e125 : f113 1 = (Value.pointer (some ⟨b1, 0, none⟩)) := (hout117 1 rfl).trans hf73
          have e126 : f113 4 = u31 := (hout117 4 rfl).trans hf74
          have e127 : f113 5 = (Value.int .i64 x29.2) := (hout117 5 rfl).trans hf75
          have e128 : f113 6 = (Value.pointer (some ⟨b49, 0, none⟩)) := (hout117 6 rfl).trans hf76
          have e129 : f113 7 = u57 := (hout117 7 rfl).trans hf77
          have e130 : f113 8 = (Value.int .i64 x55.2) := (hout117 8 rfl).trans hf78
          have hS131 := St.joinS hS80 he116 hSn118 (SepS.consS hSd119 rfl e123s SepS.nilS)
          replace hS131 : St wd33 wd114 [(Ty.sl (Ty.sl (Ty.sl (Ty.i .i64)))).at u44 x42, bx b49 [u44], (Ty.sl (Ty.i .i64)).at u57 x55.1, (Ty.sl (Ty.sl (Ty.sl (Ty.i .i64)))).at u124 x107] := hS131
          obtain ⟨x132, hx133, h⟩ := bs h
          refine WL.call _ (op_call fn_11 (args2 e122 e123)) (c_laws_eqRing (St.rep (t := (Ty.sl (Ty.sl (Ty.sl (Ty.i .i64))))) hS131 0 rfl) (St.rep (t := (Ty.sl (Ty.sl (Ty.sl (Ty.i .i64))))) hS131 3 rfl) hx133) rfl ?_
          rintro _ wd134 ⟨rfl, he135⟩
          have hS137 := St.extend hS131 he135
          replace hS137 : St wd33 wd134 [(Ty.sl (Ty.sl (Ty.sl (Ty.i .i64)))).at u44 x42, bx b49 [u44], (Ty.sl (Ty.i .i64)).at u57 x55.1, (Ty.sl (Ty.sl (Ty.sl (Ty.i .i64)))).at u124 x107] := hS137
          refine WL.val (Value.bool (!x132)) _ (op_not rfl) rfl ?_
          refine WL.nil ?_
          refine W.cond (!x132) rfl (fun hc138 => ?_) (fun hc138 => ?_)
          · replace h := ip h hc138
            refine W.seq (W.region ?_)
            refine WL.val (Value.bool false) _ (op_assign rfl) rfl ?_
            refine WL.nil ?_
            refine W.ret ?_
            obtain rfl := Option.some.inj h
            show FinP _ _ _ _ _ _ _
            exact FinP.ret _ (res1 rfl rfl) ⟨rfl, (Ext.trans hE38 hS137.ext)⟩
          · replace h := inegb h hc138
            refine W.skip ?_
            refine W.seq (W.region ?_)
            refine WL.val (Value.int .i64 (1 : Int)) _ (op_assign rfl) rfl ?_
            refine WL.nil ?_
            refine W.seq (W.region ?_)
            refine WL.val (Value.agg #[u44]) _ (op_loadBox st_28 e128 (St.boxAt hS137 1 rfl) rfl rfl) rfl ?_
            refine WL.val (Value.int .i64 (1 : Int)) _ (op_move rfl) rfl ?_
            obtain ⟨x140, hx141, h⟩ := bs h
            have hS142 := St.fold [(Ty.sl (Ty.sl (Ty.sl (Ty.i .i64)))).at u44 x42] [bx b49 [u44], (Ty.sl (Ty.i .i64)).at u57 x55.1, (Ty.sl (Ty.sl (Ty.sl (Ty.i .i64)))).at u124 x107] (St.pick hS137 [0, 1, 2, 3] rfl)
            refine WL.call _ (op_call fn_20 (args2 rfl rfl)) (c_laws_markRing hS142 (inL rfl) hx141) rfl ?_
            rintro _ wd145 ⟨rfl, hr146, hS143⟩
            have hS144 := St.pick (St.unfold [(Ty.sl (Ty.sl (Ty.sl (Ty.i .i64)))).at u44 x140.2] [bx b49 [u44], (Ty.sl (Ty.i .i64)).at u57 x55.1, (Ty.sl (Ty.sl (Ty.sl (Ty.i .i64)))).at u124 x107] hS143) [0, 1, 2, 3] rfl
            replace hS144 : St wd33 wd145 [(Ty.sl (Ty.sl (Ty.sl (Ty.i .i64)))).at u44 x140.2, bx b49 [u44], (Ty.sl (Ty.i .i64)).at u57 x55.1, (Ty.sl (Ty.sl (Ty.sl (Ty.i .i64)))).at u124 x107] := hS144
            refine WL.val (Value.int .i64 x140.1) _ (op_assign rfl) rfl ?_
            refine WL.nil ?_
            refine W.seq (W.seq (W.region ?_))
            refine WL.val (Value.int .i64 x140.1) _ (op_move rfl) rfl ?_
            refine WL.val (Value.bool (decide (x140.1 < (0 : Int)))) _ (op_lss rfl rfl) rfl ?_
            refine WL.val (Value.bool (decide (x140.1 < (0 : Int)))) _ (op_move rfl) rfl ?_
            obtain ⟨x148, hj149, h⟩ := bs h
            refine WL.cut 5 (fun fq wq => fq 1 = (Value.pointer (some ⟨b1, 0, none⟩)) ∧ fq 4 = u31 ∧ fq 5 = (Value.int .i64 x29.2) ∧ fq 7 = u57 ∧ fq 8 = (Value.int .i64 x55.2) ∧ fq 56 = Value.bool x148 ∧ St wd33 wq [(Ty.sl (Ty.i .i64)).at u57 x55.1]) ?_ ?_
            · rcases Bool.eq_false_or_eq_true (decide (x140.1 < (0 : Int))) with hc147 | hc147
              · replace hj149 := ip hj149 hc147
                refine WL.gskip rfl (bool_of rfl hc147) rfl ?_
                refine WL.gskip rfl (bool_of rfl hc147) rfl ?_
                refine WL.gskip rfl (bool_of rfl hc147) rfl ?_
                refine WL.gskip rfl (bool_of rfl hc147) rfl ?_
                refine WL.val (Value.bool true) _ (op_pick_t (evb_of rfl hc147) rfl) rfl ?_
                refine WL.nil ?_
                obtain rfl := Option.some.inj hj149
                exact ⟨rfl, e125, e126, e127, e129, e130, rfl, (St.pick hS144 [2] rfl)⟩
              · replace hj149 := inegb hj149 hc147
                refine WL.grun rfl (bool_of rfl hc147) ?_
                refine WL.val u57 _ (op_move e129) rfl ?_
                refine WL.grun rfl (bool_of rfl hc147) ?_
                refine WL.val u31 _ (op_move e126) rfl ?_
                refine WL.grun rfl (bool_of rfl hc147) ?_
                obtain ⟨x153, hx154, hj149⟩ := bs hj149
                refine WL.call _ (op_call fn_17 (args2 rfl rfl)) (c_laws_eqInt64S (St.rep (t := (Ty.sl (Ty.i .i64))) hS144 2 rfl) (Ty.lift _ hS144.ext hb37) hx154) rfl ?_
                rintro _ wd155 ⟨rfl, he156⟩
                have hS158 := St.extend hS144 he156
                replace hS158 : St wd33 wd155 [(Ty.sl (Ty.sl (Ty.sl (Ty.i .i64)))).at u44 x140.2, bx b49 [u44], (Ty.sl (Ty.i .i64)).at u57 x55.1, (Ty.sl (Ty.sl (Ty.sl (Ty.i .i64)))).at u124 x107] := hS158
                refine WL.grun rfl (bool_of rfl hc147) ?_
                refine WL.val (Value.bool (!x153)) _ (op_not rfl) rfl ?_
                refine WL.val (Value.bool (!x153)) _ (op_pick_f (evb_of rfl hc147) rfl) rfl ?_
                refine WL.nil ?_
                obtain rfl := Option.some.inj hj149
                exact ⟨rfl, e125, e126, e127, e129, e130, rfl, (St.pick hS158 [2] rfl)⟩
            · intro f150 wd151 hq152
              obtain ⟨hf159, hf160, hf161, hf162, hf163, hf164, hS165⟩ := hq152
              refine WL.val (Value.bool x148) _ (op_move hf164) rfl ?_
              refine WL.cut 4 (fun fq wq => fq 1 = (Value.pointer (some ⟨b1, 0, none⟩)) ∧ fq 4 = u31 ∧ fq 5 = (Value.int .i64 x29.2) ∧ fq 7 = u57 ∧ fq 61 = (Value.bool (x148 || (x55.2 != x29.2))) ∧ St wd33 wq [(Ty.sl (Ty.i .i64)).at u57 x55.1]) ?_ ?_
              · rcases Bool.eq_false_or_eq_true x148 with hc166 | hc166
                · refine WL.gskip rfl (bool_of rfl hc166) rfl ?_
                  refine WL.gskip rfl (bool_of rfl hc166) rfl ?_
                  refine WL.gskip rfl (bool_of rfl hc166) rfl ?_
                  refine WL.val (Value.bool true) _ (op_pick_t (evb_of rfl hc166) rfl) rfl ?_
                  refine WL.nil ?_
                  exact ⟨rfl, hf159, hf160, hf161, hf162, (orT hc166), hS165⟩
                · refine WL.grun rfl (bool_of rfl hc166) ?_
                  refine WL.val (Value.int .i64 x55.2) _ (op_move hf163) rfl ?_
                  refine WL.grun rfl (bool_of rfl hc166) ?_
                  refine WL.val (Value.int .i64 x29.2) _ (op_move hf161) rfl ?_
                  refine WL.grun rfl (bool_of rfl hc166) ?_
                  refine WL.val (Value.bool (x55.2 != x29.2)) _ (op_neq rfl rfl) rfl ?_
                  refine WL.val (Value.bool (x55.2 != x29.2)) _ (op_pick_f (evb_of rfl hc166) rfl) rfl ?_
                  refine WL.nil ?_
                  exact ⟨rfl, hf159, hf160, hf161, hf162, (orF hc166), hS165⟩
              · intro f167 wd168 hq169
                obtain ⟨hf170, hf171, hf172, hf173, hf174, hS175⟩ := hq169
                refine WL.nil ?_
                refine W.cond (x148 || (x55.2 != x29.2)) hf174 (fun hc176 => ?_) (fun hc176 => ?_)
                · replace h := ip h hc176
                  refine W.seq (W.region ?_)
                  refine WL.val (Value.bool false) _ (op_assign rfl) rfl ?_
                  refine WL.nil ?_
                  refine W.ret ?_
                  obtain rfl := Option.some.inj h
                  show FinP _ _ _ _ _ _ _
                  exact FinP.ret _ (res1 rfl rfl) ⟨rfl, (Ext.trans hE38 hS175.ext)⟩
                · replace h := inegb h hc176
                  refine W.skip ?_
                  refine W.seq (W.region ?_)
                  refine WL.val (Value.int .i64 (1 : Int)) _ (op_assign rfl) rfl ?_
                  refine WL.nil ?_
                  refine W.seq (W.region ?_)
                  refine WL.val u57 _ (op_move hf173) rfl ?_
                  refine WL.val (Value.int .i64 (1 : Int)) _ (op_move rfl) rfl ?_
                  obtain ⟨x178, hx179, h⟩ := bs h
                  have hS180 := St.fold [(Ty.sl (Ty.i .i64)).at u57 x55.1] [] (St.pick hS175 [0] rfl)
                  refine WL.call _ (op_call fn_21 (args2 rfl rfl)) (c_laws_markInt64S hS180 (inL rfl) hx179) rfl ?_
                  rintro _ wd183 ⟨rfl, hr184, hS181⟩
                  have hS182 := St.pick (St.unfold [(Ty.sl (Ty.i .i64)).at u57 x178.2] [] hS181) [0] rfl
                  replace hS182 : St wd33 wd183 [(Ty.sl (Ty.i .i64)).at u57 x178.2] := hS182
                  refine WL.val (Value.int .i64 x178.1) _ (op_assign rfl) rfl ?_
                  refine WL.nil ?_
                  refine W.seq (W.region ?_)
                  refine WL.val (Value.int .i64 (1 : Int)) _ (op_assign rfl) rfl ?_
                  refine WL.nil ?_
                  refine W.seq (W.region ?_)
                  refine WL.val u57 _ (op_move hf173) rfl ?_
                  refine WL.val (Value.int .i64 (1 : Int)) _ (op_move rfl) rfl ?_
                  obtain ⟨x185, hx186, h⟩ := bs h
                  refine WL.call _ (op_call fn_22 (args2 rfl rfl)) (c_laws_heldInt64S (St.rep (t := (Ty.sl (Ty.i .i64))) hS182 0 rfl) (inL rfl) hx186) rfl ?_
                  rintro _ wd188 ⟨rfl, hr187, he189⟩
                  have hS191 := St.extend hS182 he189
                  replace hS191 : St wd33 wd188 [(Ty.sl (Ty.i .i64)).at u57 x178.2] := hS191
                  refine WL.val (Value.int .i64 x185) _ (op_assign rfl) rfl ?_
                  refine WL.nil ?_
                  refine W.seq (W.seq (W.region ?_))
                  refine WL.val (Value.int .i64 x185) _ (op_move rfl) rfl ?_
                  refine WL.val (Value.bool (decide (x185 < (0 : Int)))) _ (op_lss rfl rfl) rfl ?_
                  refine WL.nil ?_
                  refine W.cond (decide (x185 < (0 : Int))) rfl (fun hc192 => ?_) (fun hc192 => ?_)
                  · replace h := ip h hc192
                    refine W.seq (W.region ?_)
                    refine WL.val (Value.bool false) _ (op_assign rfl) rfl ?_
                    refine WL.nil ?_
                    refine W.ret ?_
                    obtain rfl := Option.some.inj h
                    show FinP _ _ _ _ _ _ _
                    exact FinP.ret _ (res1 rfl rfl) ⟨rfl, (Ext.trans hE38 hS191.ext)⟩
                  · replace h := inegb h hc192
                    refine W.skip ?_
                    refine W.seq (W.seq (W.region ?_))
                    refine WL.val (Value.int .i64 x185) _ (op_move rfl) rfl ?_
                    refine WL.val (Value.int .i64 x178.1) _ (op_move rfl) rfl ?_
                    refine WL.val (Value.bool (x185 != x178.1)) _ (op_neq rfl rfl) rfl ?_
                    refine WL.nil ?_
                    refine W.cond (x185 != x178.1) rfl (fun hc194 => ?_) (fun hc194 => ?_)
                    · replace h := ip h hc194
                      refine W.seq (W.region ?_)
                      refine WL.val (Value.bool false) _ (op_assign rfl) rfl ?_
                      refine WL.nil ?_
                      refine W.ret ?_
                      obtain rfl := Option.some.inj h
                      show FinP _ _ _ _ _ _ _
                      exact FinP.ret _ (res1 rfl rfl) ⟨rfl, (Ext.trans hE38 hS191.ext)⟩
                    · replace h := inegb h hc194
                      refine W.skip ?_
                      refine W.seq (W.region ?_)
                      refine WL.val (Value.agg #[v_aR_Table]) _ (op_loadBox st_24 hf170 (BoxAt.lift (Ext.trans hE39 hS191.ext) hx6) rfl rfl) rfl ?_
                      obtain ⟨x196, hx197, h⟩ := bs h
                      refine WL.call _ (op_call fn_9 (args1 rfl)) (c_laws_toRing (Ty.lift _ (Ext.trans hE38 hS191.ext) r_aR_Table) hx197) rfl ?_
                      rintro _ wd199 ⟨u198, rfl, he200, hs201⟩
                      have hS202 := St.join hS191 he200 hs201
                      replace hS202 : St wd33 wd199 [(Ty.sl (Ty.i .i64)).at u57 x178.2, (Ty.sl (Ty.sl (Ty.sl (Ty.i .i64)))).at u198 x196] := hS202
                      obtain ⟨x203, hx204, h⟩ := bs h
                      refine WL.call _ (op_call fn_19 (args1 rfl)) (c_impl_IntegerDimensions (St.rep (t := (Ty.sl (Ty.sl (Ty.sl (Ty.i .i64))))) hS202 1 rfl) hx204) rfl ?_
                      rintro _ wd207 ⟨u205, rfl, hr206, he208, hs209⟩
                      have hS210 := St.join hS202 he208 hs209
                      replace hS210 : St wd33 wd207 [(Ty.sl (Ty.i .i64)).at u57 x178.2, (Ty.sl (Ty.sl (Ty.sl (Ty.i .i64)))).at u198 x196, (Ty.sl (Ty.i .i64)).at u205 x203.1] := hS210
                      refine WL.val (Value.tuple #[u205, (Value.int .i64 x203.2)]) _ (op_move rfl) rfl ?_
                      refine WL.val u205 _ (op_extract rfl rfl) rfl ?_
                      refine WL.val (Value.int .i64 x203.2) _ (op_extract rfl rfl) rfl ?_
                      refine WL.val u205 _ (op_assign rfl) rfl ?_
                      refine WL.val (Value.int .i64 x203.2) _ (op_assign rfl) rfl ?_
                      refine WL.nil ?_
                      refine W.seq (W.seq (W.region ?_))
                      refine WL.val u205 _ (op_move rfl) rfl ?_
                      refine WL.val u31 _ (op_move hf171) rfl ?_
                      obtain ⟨x211, hx212, h⟩ := bs h
                      refine WL.call _ (op_call fn_17 (args2 rfl rfl)) (c_laws_eqInt64S (St.rep (t := (Ty.sl (Ty.i .i64))) hS210 2 rfl) (Ty.lift _ hS210.ext hb37) hx212) rfl ?_
                      rintro _ wd213 ⟨rfl, he214⟩
                      have hS216 := St.extend hS210 he214
                      replace hS216 : St wd33 wd213 [(Ty.sl (Ty.i .i64)).at u57 x178.2, (Ty.sl (Ty.sl (Ty.sl (Ty.i .i64)))).at u198 x196, (Ty.sl (Ty.i .i64)).at u205 x203.1] := hS216
                      refine WL.val (Value.bool (!x211)) _ (op_not rfl) rfl ?_
                      refine WL.val (Value.bool (!x211)) _ (op_move rfl) rfl ?_
                      refine WL.cut 4 (fun fq wq => fq 7 = u57 ∧ fq 10 = (Value.int .i64 x178.1) ∧ fq 87 = (Value.bool ((!x211) || (x203.2 != x29.2))) ∧ St wd33 wq [(Ty.sl (Ty.i .i64)).at u57 x178.2]) ?_ ?_
                      · rcases Bool.eq_false_or_eq_true (!x211) with hc217 | hc217
                        · refine WL.gskip rfl (bool_of rfl hc217) rfl ?_
                          refine WL.gskip rfl (bool_of rfl hc217) rfl ?_
                          refine WL.gskip rfl (bool_of rfl hc217) rfl ?_
                          refine WL.val (Value.bool true) _ (op_pick_t (evb_of rfl hc217) rfl) rfl ?_
                          refine WL.nil ?_
                          exact ⟨rfl, hf173, rfl, (orT hc217), (St.pick hS216 [0] rfl)⟩
                        · refine WL.grun rfl (bool_of rfl hc217) ?_
                          refine WL.val (Value.int .i64 x203.2) _ (op_move rfl) rfl ?_
                          refine WL.grun rfl (bool_of rfl hc217) ?_
                          refine WL.val (Value.int .i64 x29.2) _ (op_move hf172) rfl ?_
                          refine WL.grun rfl (bool_of rfl hc217) ?_
                          refine WL.val (Value.bool (x203.2 != x29.2)) _ (op_neq rfl rfl) rfl ?_
                          refine WL.val (Value.bool (x203.2 != x29.2)) _ (op_pick_f (evb_of rfl hc217) rfl) rfl ?_
                          refine WL.nil ?_
                          exact ⟨rfl, hf173, rfl, (orF hc217), (St.pick hS216 [0] rfl)⟩
                      · intro f218 wd219 hq220
                        obtain ⟨hf221, hf222, hf223, hS224⟩ := hq220
                        refine WL.nil ?_
                        refine W.cond ((!x211) || (x203.2 != x29.2)) hf223 (fun hc225 => ?_) (fun hc225 => ?_)
                        · replace h := ip h hc225
                          refine W.seq (W.region ?_)
                          refine WL.val (Value.bool false) _ (op_assign rfl) rfl ?_
                          refine WL.nil ?_
                          refine W.ret ?_
                          obtain rfl := Option.some.inj h
                          show FinP _ _ _ _ _ _ _
                          exact FinP.ret _ (res1 rfl rfl) ⟨rfl, (Ext.trans hE38 hS224.ext)⟩
                        · replace h := inegb h hc225
                          refine W.skip ?_
                          refine W.seq (W.region ?_)
                          refine WL.val (Value.int .i64 (1 : Int)) _ (op_assign rfl) rfl ?_
                          refine WL.nil ?_
                          refine W.seq (W.region ?_)
                          refine WL.val u57 _ (op_move hf221) rfl ?_
                          refine WL.val (Value.int .i64 (1 : Int)) _ (op_move rfl) rfl ?_
                          obtain ⟨x227, hx228, h⟩ := bs h
                          refine WL.call _ (op_call fn_22 (args2 rfl rfl)) (c_laws_heldInt64S (St.rep (t := (Ty.sl (Ty.i .i64))) hS224 0 rfl) (inL rfl) hx228) rfl ?_
                          rintro _ wd230 ⟨rfl, hr229, he231⟩
                          have hS233 := St.extend hS224 he231
                          replace hS233 : St wd33 wd230 [(Ty.sl (Ty.i .i64)).at u57 x178.2] := hS233
                          refine WL.val (Value.int .i64 x227) _ (op_assign rfl) rfl ?_
                          refine WL.nil ?_
                          refine W.seq (W.seq (W.region ?_))
                          refine WL.val (Value.int .i64 x227) _ (op_move rfl) rfl ?_
                          refine WL.val (Value.bool (decide (x227 < (0 : Int)))) _ (op_lss rfl rfl) rfl ?_
                          refine WL.nil ?_
                          refine W.cond (decide (x227 < (0 : Int))) rfl (fun hc234 => ?_) (fun hc234 => ?_)
                          · replace h := ip h hc234
                            refine W.seq (W.region ?_)
                            refine WL.val (Value.bool false) _ (op_assign rfl) rfl ?_
                            refine WL.nil ?_
                            refine W.ret ?_
                            obtain rfl := Option.some.inj h
                            show FinP _ _ _ _ _ _ _
                            exact FinP.ret _ (res1 rfl rfl) ⟨rfl, (Ext.trans hE38 hS233.ext)⟩
                          · replace h := inegb h hc234
                            refine W.skip ?_
                            refine W.seq (W.seq (W.region ?_))
                            refine WL.val (Value.int .i64 x227) _ (op_move rfl) rfl ?_
                            refine WL.val (Value.int .i64 x178.1) _ (op_move hf222) rfl ?_
                            refine WL.val (Value.bool (x227 != x178.1)) _ (op_neq rfl rfl) rfl ?_
                            refine WL.nil ?_
                            refine W.cond (x227 != x178.1) rfl (fun hc236 => ?_) (fun hc236 => ?_)
                            · replace h := ip h hc236
                              refine W.seq (W.region ?_)
                              refine WL.val (Value.bool false) _ (op_assign rfl) rfl ?_
                              refine WL.nil ?_
                              refine W.ret ?_
                              obtain rfl := Option.some.inj h
                              show FinP _ _ _ _ _ _ _
                              exact FinP.ret _ (res1 rfl rfl) ⟨rfl, (Ext.trans hE38 hS233.ext)⟩
                            · replace h := inegb h hc236
                              refine W.skip ?_
                              refine W.seq (W.region ?_)
                              refine WL.val (Value.bool true) _ (op_assign rfl) rfl ?_
                              refine WL.nil ?_
                              refine W.ret ?_
                              obtain rfl := Option.some.inj h
                              show FinP _ _ _ _ _ _ _
                              exact FinP.ret _ (res1 rfl rfl) ⟨rfl, (Ext.trans hE38 hS233.ext)⟩

end Go.VG
