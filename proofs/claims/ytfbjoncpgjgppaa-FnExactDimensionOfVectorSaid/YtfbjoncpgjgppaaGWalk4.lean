/- The walks, part 4: each Go function returns what its plain twin returns. No condition beyond what each names. -/
import Derived.Test.YtfbjoncpgjgppaaGWalk3
set_option linter.all false
namespace Go.VG
open Go.Proofs
attribute [local irreducible] W WL Sep FinP

theorem c_laws_FnExactDimensionOfVector {w : World} {aR_Table : (List (List (List Int)))} {v_aR_Table : Value} {aX : (List Int)} {v_aX : Value} (r_aR_Table : (Ty.sl (Ty.sl (Ty.sl (Ty.i .i64)))).rep w v_aR_Table aR_Table) (r_aX : (Ty.sl (Ty.i .i64)).rep w v_aX aX) {res : Bool} (h : p_laws_FnExactDimensionOfVector aR_Table aX  = some res) :
    Ret Try.prog 5 #[(Value.agg #[v_aR_Table]), v_aX] w (fun v w' => v = Value.bool res ∧ Ext w w') := by
  unfold p_laws_FnExactDimensionOfVector at h
  have hS0 : St w w [] := St.start w
  refine Ret.start (fn := Try.f5) Try.func5 rfl 56 rfl rfl ?_
  refine W.seq (W.region ?_)
  refine WL.box hS0 rfl (cs := [v_aR_Table]) rfl rfl ?_
  intro b1 wd2 hS3 he4 hx5
  replace hS3 : St w wd2 [bx b1 [v_aR_Table]] := hS3
  have hx6 := St.boxAt hS3 0 rfl
  have hE7 : Ext w wd2 := hS3.ext
  have hS8 : St wd2 wd2 [] := St.start wd2
  refine WL.val (Value.bool false) _ (op_assign rfl) rfl ?_
  refine WL.nil ?_
  refine W.seq (W.seq (W.region ?_))
  refine WL.val v_aX _ (op_move rfl) rfl ?_
  have hr9 := inR_len (Ty.lift _ (Ext.trans hE7 hS8.ext) r_aX)
  refine WL.val (Value.int .i64 ((aX).length : Int)) _ (op_lenL sl_34 (Ty.lift _ (Ext.trans hE7 hS8.ext) r_aX) rfl) rfl ?_
  refine WL.val (Value.bool (decide (((aX).length : Int) > (1048576 : Int)))) _ (op_gtr rfl rfl) rfl ?_
  refine WL.nil ?_
  refine W.cond (decide (((aX).length : Int) > (1048576 : Int))) rfl (fun hc10 => ?_) (fun hc10 => ?_)
  · replace h := ip h hc10
    refine W.seq (W.region ?_)
    refine WL.val (Value.bool true) _ (op_assign rfl) rfl ?_
    refine WL.nil ?_
    refine W.ret ?_
    obtain rfl := Option.some.inj h
    show FinP _ _ _ _ _ _ _
    exact FinP.ret _ (res1 rfl rfl) ⟨rfl, (Ext.trans hE7 hS8.ext)⟩
  · replace h := inegb h hc10
    refine W.skip ?_
    refine W.seq (W.region ?_)
    refine WL.val (Value.int .i64 (1048576 : Int)) _ (op_assign rfl) rfl ?_
    refine WL.nil ?_
    refine W.seq (W.region ?_)
    refine WL.val (Value.agg #[v_aR_Table]) _ (op_loadBox st_24 rfl (BoxAt.lift hS8.ext hx6) rfl rfl) rfl ?_
    refine WL.val (Value.int .i64 (1048576 : Int)) _ (op_move rfl) rfl ?_
    obtain ⟨x12, hx13, h⟩ := bs h
    refine WL.call _ (op_call fn_7 (args2 rfl rfl)) (c_laws_szRing (Ty.lift _ (Ext.trans hE7 hS8.ext) r_aR_Table) (inL rfl) hx13) rfl ?_
    rintro _ wd15 ⟨rfl, hr14, he16⟩
    have hS18 := St.extend hS8 he16
    replace hS18 : St wd2 wd15 [] := hS18
    refine WL.val (Value.int .i64 x12) _ (op_assign rfl) rfl ?_
    refine WL.nil ?_
    refine W.seq (W.seq (W.region ?_))
    refine WL.val (Value.int .i64 x12) _ (op_move rfl) rfl ?_
    refine WL.val (Value.bool (decide (x12 < (0 : Int)))) _ (op_lss rfl rfl) rfl ?_
    refine WL.nil ?_
    refine W.cond (decide (x12 < (0 : Int))) rfl (fun hc19 => ?_) (fun hc19 => ?_)
    · replace h := ip h hc19
      refine W.seq (W.region ?_)
      refine WL.val (Value.bool true) _ (op_assign rfl) rfl ?_
      refine WL.nil ?_
      refine W.ret ?_
      obtain rfl := Option.some.inj h
      show FinP _ _ _ _ _ _ _
      exact FinP.ret _ (res1 rfl rfl) ⟨rfl, (Ext.trans hE7 hS18.ext)⟩
    · replace h := inegb h hc19
      refine W.skip ?_
      refine W.seq (W.region ?_)
      refine WL.val (Value.agg #[v_aR_Table]) _ (op_loadBox st_24 rfl (BoxAt.lift hS18.ext hx6) rfl rfl) rfl ?_
      obtain ⟨x21, hx22, h⟩ := bs h
      refine WL.call _ (op_call fn_9 (args1 rfl)) (c_laws_toRing (Ty.lift _ (Ext.trans hE7 hS18.ext) r_aR_Table) hx22) rfl ?_
      rintro _ wd24 ⟨u23, rfl, he25, hs26⟩
      have hS27 := St.join hS18 he25 hs26
      replace hS27 : St wd2 wd24 [(Ty.sl (Ty.sl (Ty.sl (Ty.i .i64)))).at u23 x21] := hS27
      have hb28 := St.rep (t := (Ty.sl (Ty.sl (Ty.sl (Ty.i .i64))))) hS27 0 rfl
      have hE29 : Ext w wd24 := (Ext.trans hE7 hS27.ext)
      have hE30 : Ext wd2 wd24 := hS27.ext
      have hS31 : St wd24 wd24 [] := St.start wd24
      refine WL.val v_aX _ (op_move rfl) rfl ?_
      obtain ⟨x32, hx33, h⟩ := bs h
      refine WL.call _ (op_call fn_15 (args1 rfl)) (c_laws_toInt64S (Ty.lift _ (Ext.trans hE29 hS31.ext) r_aX) hx33) rfl ?_
      rintro u34 wd35 ⟨_, rfl, he36, hs37⟩
      have hS38 := St.join hS31 he36 hs37
      replace hS38 : St wd24 wd35 [(Ty.sl (Ty.i .i64)).at u34 x32] := hS38
      have hb39 := St.rep (t := (Ty.sl (Ty.i .i64))) hS38 0 rfl
      have hE40 : Ext w wd35 := (Ext.trans hE29 hS38.ext)
      have hE41 : Ext wd2 wd35 := (Ext.trans hE30 hS38.ext)
      have hE42 : Ext wd24 wd35 := hS38.ext
      have hS43 : St wd35 wd35 [] := St.start wd35
      obtain ⟨x44, hx45, h⟩ := bs h
      refine WL.call _ (op_call fn_14 (args2 rfl rfl)) (c_spec_DimensionOfVector (Ty.lift _ (Ext.trans hE42 hS43.ext) hb28) (Ty.lift _ hS43.ext hb39) hx45) rfl ?_
      rintro _ wd48 ⟨rfl, hr46, hr47, he49⟩
      have hS51 := St.extend hS43 he49
      replace hS51 : St wd35 wd48 [] := hS51
      refine WL.val (Value.tuple #[(Value.int .i64 x44.1), (Value.int .i64 x44.2)]) _ (op_move rfl) rfl ?_
      refine WL.val (Value.int .i64 x44.1) _ (op_extract rfl rfl) rfl ?_
      refine WL.val (Value.int .i64 x44.2) _ (op_extract rfl rfl) rfl ?_
      refine WL.val (Value.int .i64 x44.1) _ (op_assign rfl) rfl ?_
      refine WL.val (Value.int .i64 x44.2) _ (op_assign rfl) rfl ?_
      refine WL.nil ?_
      refine W.seq (W.region ?_)
      refine WL.val (Value.agg #[v_aR_Table]) _ (op_loadBox st_24 rfl (BoxAt.lift (Ext.trans hE41 hS51.ext) hx6) rfl rfl) rfl ?_
      obtain ⟨x52, hx53, h⟩ := bs h
      refine WL.call _ (op_call fn_9 (args1 rfl)) (c_laws_toRing (Ty.lift _ (Ext.trans hE40 hS51.ext) r_aR_Table) hx53) rfl ?_
      rintro _ wd55 ⟨u54, rfl, he56, hs57⟩
      have hS58 := St.join hS51 he56 hs57
      replace hS58 : St wd35 wd55 [(Ty.sl (Ty.sl (Ty.sl (Ty.i .i64)))).at u54 x52] := hS58
      refine WL.alloc hS58 ze_28 (cs := [(Value.slice none 0 0)]) rfl rfl ?_
      intro b59 wd60 hS61 he62
      replace hS61 : St wd35 wd60 [(Ty.sl (Ty.sl (Ty.sl (Ty.i .i64)))).at u54 x52, bx b59 [(Value.slice none 0 0)]] := hS61
      refine WL.storeBox [u54] hS61 (k := 1) rfl rfl rfl (us := [u54]) rfl sz_28 rfl rfl (all_rep (St.rep (t := (Ty.sl (Ty.sl (Ty.sl (Ty.i .i64))))) hS61 0 rfl) all_nil) rfl ?_
      intro wd63 hS64
      replace hS64 : St wd35 wd63 [(Ty.sl (Ty.sl (Ty.sl (Ty.i .i64)))).at u54 x52, bx b59 [u54]] := hS64
      refine WL.nil ?_
      refine W.seq (W.region ?_)
      refine WL.val v_aX _ (op_move rfl) rfl ?_
      obtain ⟨x65, hx66, h⟩ := bs h
      refine WL.call _ (op_call fn_15 (args1 rfl)) (c_laws_toInt64S (Ty.lift _ (Ext.trans hE40 hS64.ext) r_aX) hx66) rfl ?_
      rintro u67 wd68 ⟨_, rfl, he69, hs70⟩
      have hS71 := St.join hS64 he69 hs70
      replace hS71 : St wd35 wd68 [(Ty.sl (Ty.sl (Ty.sl (Ty.i .i64)))).at u54 x52, bx b59 [u54], (Ty.sl (Ty.i .i64)).at u67 x65] := hS71
      refine WL.val u67 _ (op_assign rfl) rfl ?_
      refine WL.nil ?_
      refine W.seq (W.region ?_)
      refine WL.val (Value.agg #[u54]) _ (op_loadBox st_28 rfl (St.boxAt hS71 1 rfl) rfl rfl) rfl ?_
      refine WL.val u67 _ (op_move rfl) rfl ?_
      obtain ⟨x72, hx73, h⟩ := bs h
      refine WL.call _ (op_call fn_16 (args2 rfl rfl)) (c_impl_DimensionOfVector (St.rep (t := (Ty.sl (Ty.sl (Ty.sl (Ty.i .i64))))) hS71 0 rfl) (St.rep (t := (Ty.sl (Ty.i .i64))) hS71 2 rfl) hx73) rfl ?_
      rintro _ wd76 ⟨rfl, hr74, hr75, he77⟩
      have hS79 := St.extend hS71 he77
      replace hS79 : St wd35 wd76 [(Ty.sl (Ty.sl (Ty.sl (Ty.i .i64)))).at u54 x52, bx b59 [u54], (Ty.sl (Ty.i .i64)).at u67 x65] := hS79
      refine WL.val (Value.tuple #[(Value.int .i64 x72.1), (Value.int .i64 x72.2)]) _ (op_move rfl) rfl ?_
      refine WL.val (Value.int .i64 x72.1) _ (op_extract rfl rfl) rfl ?_
      refine WL.val (Value.int .i64 x72.2) _ (op_extract rfl rfl) rfl ?_
      refine WL.val (Value.int .i64 x72.1) _ (op_assign rfl) rfl ?_
      refine WL.val (Value.int .i64 x72.2) _ (op_assign rfl) rfl ?_
      refine WL.nil ?_
      refine W.seq (W.seq (W.region ?_))
      refine WL.val (Value.int .i64 x72.1) _ (op_move rfl) rfl ?_
      refine WL.val (Value.int .i64 x44.1) _ (op_move rfl) rfl ?_
      refine WL.val (Value.bool (x72.1 != x44.1)) _ (op_neq rfl rfl) rfl ?_
      refine WL.val (Value.bool (x72.1 != x44.1)) _ (op_move rfl) rfl ?_
      refine WL.cut 4 (fun fq wq => fq 1 = v_aX ∧ fq 2 = (Value.pointer (some ⟨b1, 0, none⟩)) ∧ fq 8 = (Value.pointer (some ⟨b59, 0, none⟩)) ∧ fq 9 = u67 ∧ fq 45 = (Value.bool ((x72.1 != x44.1) || (x72.2 != x44.2))) ∧ St wd35 wq [(Ty.sl (Ty.sl (Ty.sl (Ty.i .i64)))).at u54 x52, bx b59 [u54], (Ty.sl (Ty.i .i64)).at u67 x65]) ?_ ?_
      · rcases Bool.eq_false_or_eq_true (x72.1 != x44.1) with hc80 | hc80
        · refine WL.gskip rfl (bool_of rfl hc80) rfl ?_
          refine WL.gskip rfl (bool_of rfl hc80) rfl ?_
          refine WL.gskip rfl (bool_of rfl hc80) rfl ?_
          refine WL.val (Value.bool true) _ (op_pick_t (evb_of rfl hc80) rfl) rfl ?_
          refine WL.nil ?_
          exact ⟨rfl, rfl, rfl, rfl, rfl, (orT hc80), hS79⟩
        · refine WL.grun rfl (bool_of rfl hc80) ?_
          refine WL.val (Value.int .i64 x72.2) _ (op_move rfl) rfl ?_
          refine WL.grun rfl (bool_of rfl hc80) ?_
          refine WL.val (Value.int .i64 x44.2) _ (op_move rfl) rfl ?_
          refine WL.grun rfl (bool_of rfl hc80) ?_
          refine WL.val (Value.bool (x72.2 != x44.2)) _ (op_neq rfl rfl) rfl ?_
          refine WL.val (Value.bool (x72.2 != x44.2)) _ (op_pick_f (evb_of rfl hc80) rfl) rfl ?_
          refine WL.nil ?_
          exact ⟨rfl, rfl, rfl, rfl, rfl, (orF hc80), hS79⟩
      · intro f81 wd82 hq83
        obtain ⟨hf84, hf85, hf86, hf87, hf88, hS89⟩ := hq83
        refine WL.nil ?_
        refine W.cond ((x72.1 != x44.1) || (x72.2 != x44.2)) hf88 (fun hc90 => ?_) (fun hc90 => ?_)
        · replace h := ip h hc90
          refine W.seq (W.region ?_)
          refine WL.val (Value.bool false) _ (op_assign rfl) rfl ?_
          refine WL.nil ?_
          refine W.ret ?_
          obtain rfl := Option.some.inj h
          show FinP _ _ _ _ _ _ _
          exact FinP.ret _ (res1 rfl rfl) ⟨rfl, (Ext.trans hE40 hS89.ext)⟩
        · replace h := inegb h hc90
          refine W.skip ?_
          refine W.seq (W.seq ?_)
          obtain ⟨x116, hx117, h⟩ := bs h
          refine W.drawR mixo 3 [] [fun _ v S w' => v = (Value.agg #[u54]), fun _ v S w' => v = (Value.agg #[v_aR_Table]), fun _ v S w' => ∃ (uu0 : Value), v = (Value.agg #[uu0]) ∧ SepS S w' [(Ty.sl (Ty.sl (Ty.sl (Ty.i .i64)))).at uu0 x116]] (by kernel_rfl) (by kernel_rfl) ⟨pk, pk, ⟨fun _ _ _ _ _ he ⟨uu0, h0, r0⟩ => ⟨uu0, h0, SepS.extend he r0⟩, fun _ _ _ _ _ _ h => h⟩, trivial⟩ ⟨?_, ?_, ?_, trivial⟩ ?_
          · refine ObX.op rfl fun f92 wd93 he94 hout95 hphi96 => ?_
            have hS97 := St.extend hS89 he94
            have e98 : f92 8 = (Value.pointer (some ⟨b59, 0, none⟩)) := (hout95 8 rfl).trans hf86
            exact OpX.val (Value.agg #[u54]) wd93 rfl (op_loadBox st_28 e98 (St.boxAt hS97 1 rfl) rfl rfl) (Ext.refl _) rfl
          · refine ObX.op rfl fun f99 wd100 he101 hout102 hphi103 => ?_
            have hS104 := St.extend hS89 he101
            have e105 : f99 2 = (Value.pointer (some ⟨b1, 0, none⟩)) := (hout102 2 rfl).trans hf85
            exact OpX.val (Value.agg #[v_aR_Table]) wd100 rfl (op_loadBox st_24 e105 (BoxAt.lift (Ext.trans hE41 hS104.ext) hx6) rfl rfl) (Ext.refl _) rfl
          · refine ObX.op rfl fun f106 wd107 he108 hout109 hphi110 => ?_
            have hS111 := St.extend hS89 he108
            obtain ⟨S112, hS113, hf114⟩ := hphi110 1 47 _ rfl rfl rfl
            have e115 : f106 47 = (Value.agg #[v_aR_Table]) := hf114
            refine OpX.call rfl (op_call fn_9 (args1 e115)) (Ret.mono (c_laws_toRing (Ty.lift _ (Ext.trans hE40 hS111.ext) r_aR_Table) hx117) ?_)
            rintro _ wd119 ⟨u118, rfl, he120, hs121⟩
            exact ⟨he120, _, newS _ _, ⟨u118, rfl, (Sep.new hs121)⟩⟩
          · intro f122 wd123 Ss124 he125 hout126 hSn127 hSd128 hphi129
            show WL _ _ _ _ _ _ _
            have e131 : f122 46 = (Value.agg #[u54]) := hphi129 0 46 _ (by decide) rfl rfl
            obtain ⟨u133, e132, e132s⟩ := hphi129 2 48 _ (by decide) rfl rfl
            have e134 : f122 1 = v_aX := (hout126 1 rfl).trans hf84
            have e135 : f122 9 = u67 := (hout126 9 rfl).trans hf87
            have hS136 := St.joinS hS89 he125 hSn127 (SepS.consS hSd128 rfl e132s SepS.nilS)
            replace hS136 : St wd35 wd123 [(Ty.sl (Ty.sl (Ty.sl (Ty.i .i64)))).at u54 x52, bx b59 [u54], (Ty.sl (Ty.i .i64)).at u67 x65, (Ty.sl (Ty.sl (Ty.sl (Ty.i .i64)))).at u133 x116] := hS136
            obtain ⟨x137, hx138, h⟩ := bs h
            refine WL.call _ (op_call fn_11 (args2 e131 e132)) (c_laws_eqRing (St.rep (t := (Ty.sl (Ty.sl (Ty.sl (Ty.i .i64))))) hS136 0 rfl) (St.rep (t := (Ty.sl (Ty.sl (Ty.sl (Ty.i .i64))))) hS136 3 rfl) hx138) rfl ?_
            rintro _ wd139 ⟨rfl, he140⟩
            have hS142 := St.extend hS136 he140
            replace hS142 : St wd35 wd139 [(Ty.sl (Ty.sl (Ty.sl (Ty.i .i64)))).at u54 x52, bx b59 [u54], (Ty.sl (Ty.i .i64)).at u67 x65, (Ty.sl (Ty.sl (Ty.sl (Ty.i .i64)))).at u133 x116] := hS142
            refine WL.val (Value.bool (!x137)) _ (op_not rfl) rfl ?_
            refine WL.nil ?_
            refine W.cond (!x137) rfl (fun hc143 => ?_) (fun hc143 => ?_)
            · replace h := ip h hc143
              refine W.seq (W.region ?_)
              refine WL.val (Value.bool false) _ (op_assign rfl) rfl ?_
              refine WL.nil ?_
              refine W.ret ?_
              obtain rfl := Option.some.inj h
              show FinP _ _ _ _ _ _ _
              exact FinP.ret _ (res1 rfl rfl) ⟨rfl, (Ext.trans hE40 hS142.ext)⟩
            · replace h := inegb h hc143
              refine W.skip ?_
              refine W.seq (W.seq (W.region ?_))
              refine WL.val u67 _ (op_move e135) rfl ?_
              refine WL.val v_aX _ (op_move e134) rfl ?_
              obtain ⟨x145, hx146, h⟩ := bs h
              refine WL.call _ (op_call fn_15 (args1 rfl)) (c_laws_toInt64S (Ty.lift _ (Ext.trans hE40 hS142.ext) r_aX) hx146) rfl ?_
              rintro u147 wd148 ⟨_, rfl, he149, hs150⟩
              have hS151 := St.join hS142 he149 hs150
              replace hS151 : St wd35 wd148 [(Ty.sl (Ty.sl (Ty.sl (Ty.i .i64)))).at u54 x52, bx b59 [u54], (Ty.sl (Ty.i .i64)).at u67 x65, (Ty.sl (Ty.sl (Ty.sl (Ty.i .i64)))).at u133 x116, (Ty.sl (Ty.i .i64)).at u147 x145] := hS151
              obtain ⟨x152, hx153, h⟩ := bs h
              refine WL.call _ (op_call fn_17 (args2 rfl rfl)) (c_laws_eqInt64S (St.rep (t := (Ty.sl (Ty.i .i64))) hS151 2 rfl) (St.rep (t := (Ty.sl (Ty.i .i64))) hS151 4 rfl) hx153) rfl ?_
              rintro _ wd154 ⟨rfl, he155⟩
              have hS157 := St.extend hS151 he155
              replace hS157 : St wd35 wd154 [(Ty.sl (Ty.sl (Ty.sl (Ty.i .i64)))).at u54 x52, bx b59 [u54], (Ty.sl (Ty.i .i64)).at u67 x65, (Ty.sl (Ty.sl (Ty.sl (Ty.i .i64)))).at u133 x116, (Ty.sl (Ty.i .i64)).at u147 x145] := hS157
              refine WL.val (Value.bool (!x152)) _ (op_not rfl) rfl ?_
              refine WL.nil ?_
              refine W.cond (!x152) rfl (fun hc158 => ?_) (fun hc158 => ?_)
              · replace h := ip h hc158
                refine W.seq (W.region ?_)
                refine WL.val (Value.bool false) _ (op_assign rfl) rfl ?_
                refine WL.nil ?_
                refine W.ret ?_
                obtain rfl := Option.some.inj h
                show FinP _ _ _ _ _ _ _
                exact FinP.ret _ (res1 rfl rfl) ⟨rfl, (Ext.trans hE40 hS157.ext)⟩
              · replace h := inegb h hc158
                refine W.skip ?_
                refine W.seq (W.region ?_)
                refine WL.val (Value.bool true) _ (op_assign rfl) rfl ?_
                refine WL.nil ?_
                refine W.ret ?_
                obtain rfl := Option.some.inj h
                show FinP _ _ _ _ _ _ _
                exact FinP.ret _ (res1 rfl rfl) ⟨rfl, (Ext.trans hE40 hS157.ext)⟩

end Go.VG
