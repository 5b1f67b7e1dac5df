/- The walks, part 4: each Go function returns what its plain twin returns. No condition beyond what each names. -/
import Derived.Test.YtclffgakhkhglaaGWalk3
set_option linter.all false
namespace Go.VG
open Go.Proofs
attribute [local irreducible] W WL Sep FinP

theorem c_laws_FnExactIsCharacter {w : World} {aR_Table : (List (List (List Int)))} {v_aR_Table : Value} {aX : (List Int)} {v_aX : Value} (r_aR_Table : (Ty.sl (Ty.sl (Ty.sl (Ty.i .i64)))).rep w v_aR_Table aR_Table) (r_aX : (Ty.sl (Ty.i .i64)).rep w v_aX aX) {res : Bool} (h : p_laws_FnExactIsCharacter aR_Table aX  = some res) :
    Ret Try.prog 3 #[(Value.agg #[v_aR_Table]), v_aX] w (fun v w' => v = Value.bool res ∧ Ext w w') := by
  unfold p_laws_FnExactIsCharacter at h
  have hS0 : St w w [] := St.start w
  refine Ret.start (fn := Try.f3) Try.func3 rfl 56 rfl rfl ?_
  refine W.seq ?_
  refine W.region ?_
  refine WL.box hS0 rfl (cs := [v_aR_Table]) rfl rfl ?_
  intro b1 wd2 hS3 he4 hx5
  replace hS3 : St w wd2 [bx b1 [v_aR_Table]] := hS3
  have hx6 := St.boxAt hS3 0 rfl
  have hE7 : Ext w wd2 := hS3.ext
  have hS8 : St wd2 wd2 [] := St.start wd2
  refine WL.val (Value.bool false) _ (op_assign rfl) rfl ?_
  refine WL.nil ?_
  show W _ _ _ _ _ _
  refine W.seq ?_
  refine W.seq ?_
  refine W.region ?_
  refine WL.val v_aX _ (op_move rfl) rfl ?_
  have hr9 := inR_len (Ty.lift _ (Ext.trans hE7 hS8.ext) r_aX)
  refine WL.val (Value.int .i64 ((aX).length : Int)) _ (op_lenL sl_25 (Ty.lift _ (Ext.trans hE7 hS8.ext) r_aX) rfl) rfl ?_
  refine WL.val (Value.bool (decide (((aX).length : Int) > (1048576 : Int)))) _ (op_gtr rfl rfl) rfl ?_
  refine WL.nil ?_
  show W _ _ _ _ _ _
  refine W.cond (decide (((aX).length : Int) > (1048576 : Int))) rfl (fun hc10 => ?_) (fun hc10 => ?_)
  · replace h := ip h hc10
    refine W.seq ?_
    refine W.region ?_
    refine WL.val (Value.bool true) _ (op_assign rfl) rfl ?_
    refine WL.nil ?_
    show W _ _ _ _ _ _
    refine W.ret ?_
    obtain rfl := Option.some.inj h
    show FinP _ _ _ _ _ _ _
    exact FinP.ret _ (res1 rfl rfl) ⟨rfl, (Ext.trans hE7 hS8.ext)⟩
  · replace h := inegb h hc10
    refine W.skip ?_
    show W _ _ _ _ _ _
    refine W.seq ?_
    refine W.region ?_
    refine WL.val (Value.int .i64 (1048576 : Int)) _ (op_assign rfl) rfl ?_
    refine WL.nil ?_
    show W _ _ _ _ _ _
    refine W.seq ?_
    refine W.region ?_
    refine WL.val (Value.agg #[v_aR_Table]) _ (op_loadBox st_24 rfl (BoxAt.lift hS8.ext hx6) rfl rfl) rfl ?_
    refine WL.val (Value.int .i64 (1048576 : Int)) _ (op_move rfl) rfl ?_
    obtain ⟨x12, hx13, h⟩ := bs h
    refine WL.call _ (op_call fn_9 (args2 rfl rfl)) (c_laws_szRing (Ty.lift _ (Ext.trans hE7 hS8.ext) r_aR_Table) (inR_i64.2 (show (-9223372036854775808 : Int) ≤ 1048576 ∧ (1048576 : Int) ≤ 9223372036854775807 from by decide)) hx13) rfl ?_
    rintro _ wd15 ⟨rfl, hr14, he16⟩
    have hS18 := St.extend hS8 he16
    replace hS18 : St wd2 wd15 [] := hS18
    refine WL.val (Value.int .i64 x12) _ (op_assign rfl) rfl ?_
    refine WL.nil ?_
    show W _ _ _ _ _ _
    refine W.seq ?_
    refine W.seq ?_
    refine W.region ?_
    refine WL.val (Value.int .i64 x12) _ (op_move rfl) rfl ?_
    refine WL.val (Value.bool (decide (x12 < (0 : Int)))) _ (op_lss rfl rfl) rfl ?_
    refine WL.nil ?_
    show W _ _ _ _ _ _
    refine W.cond (decide (x12 < (0 : Int))) rfl (fun hc19 => ?_) (fun hc19 => ?_)
    · replace h := ip h hc19
      refine W.seq ?_
      refine W.region ?_
      refine WL.val (Value.bool true) _ (op_assign rfl) rfl ?_
      refine WL.nil ?_
      show W _ _ _ _ _ _
      refine W.ret ?_
      obtain rfl := Option.some.inj h
      show FinP _ _ _ _ _ _ _
      exact FinP.ret _ (res1 rfl rfl) ⟨rfl, (Ext.trans hE7 hS18.ext)⟩
    · replace h := inegb h hc19
      refine W.skip ?_
      show W _ _ _ _ _ _
      refine W.seq ?_
      refine W.region ?_
      refine WL.val (Value.agg #[v_aR_Table]) _ (op_loadBox st_24 rfl (BoxAt.lift hS18.ext hx6) rfl rfl) rfl ?_
      obtain ⟨x21, hx22, h⟩ := bs h
      refine WL.call _ (op_call fn_11 (args1 rfl)) (c_laws_toRing (Ty.lift _ (Ext.trans hE7 hS18.ext) r_aR_Table) hx22) rfl ?_
      rintro _ wd24 ⟨u23, rfl, he25, hs26⟩
      have hS27 := St.join hS18 he25 hs26
      replace hS27 : St wd2 wd24 [(Ty.sl (Ty.sl (Ty.sl (Ty.i .i64)))).at u23 x21] := hS27
      have hb28 := St.rep (t := (Ty.sl (Ty.sl (Ty.sl (Ty.i .i64))))) hS27 0 rfl
      have hE29 : Ext w wd24 := (Ext.trans hE7 hS27.ext)
      have hE30 : Ext wd2 wd24 := hS27.ext
      have hS31 : St wd24 wd24 [] := St.start wd24
      refine WL.val v_aX _ (op_move rfl) rfl ?_
      obtain ⟨x32, hx33, h⟩ := bs h
      refine WL.call _ (op_call fn_12 (args1 rfl)) (c_laws_toInt64S (Ty.lift _ (Ext.trans hE29 hS31.ext) r_aX) hx33) rfl ?_
      rintro u34 wd35 ⟨_, rfl, he36, hs37⟩
      have hS38 := St.join hS31 he36 hs37
      replace hS38 : St wd24 wd35 [(Ty.sl (Ty.i .i64)).at u34 x32] := hS38
      have hb39 := St.rep (t := (Ty.sl (Ty.i .i64))) hS38 0 rfl
      have hE40 : Ext w wd35 := (Ext.trans hE29 hS38.ext)
      have hE41 : Ext wd2 wd35 := (Ext.trans hE30 hS38.ext)
      have hE42 : Ext wd24 wd35 := hS38.ext
      have hS43 : St wd35 wd35 [] := St.start wd35
      obtain ⟨x44, hx45, h⟩ := bs h
      refine WL.call _ (op_call fn_10 (args2 rfl rfl)) (c_spec_IsCharacter (Ty.lift _ (Ext.trans hE42 hS43.ext) hb28) (Ty.lift _ hS43.ext hb39) hx45) rfl ?_
      rintro _ wd47 ⟨rfl, hr46, he48⟩
      have hS50 := St.extend hS43 he48
      replace hS50 : St wd35 wd47 [] := hS50
      refine WL.val (Value.tuple #[(Value.bool x44.1), (Value.int .i64 x44.2)]) _ (op_move rfl) rfl ?_
      refine WL.val (Value.bool x44.1) _ (op_extract rfl rfl) rfl ?_
      refine WL.val (Value.int .i64 x44.2) _ (op_extract rfl rfl) rfl ?_
      refine WL.val (Value.bool x44.1) _ (op_assign rfl) rfl ?_
      refine WL.val (Value.int .i64 x44.2) _ (op_assign rfl) rfl ?_
      refine WL.nil ?_
      show W _ _ _ _ _ _
      refine W.seq ?_
      refine W.region ?_
      refine WL.val (Value.agg #[v_aR_Table]) _ (op_loadBox st_24 rfl (BoxAt.lift (Ext.trans hE41 hS50.ext) hx6) rfl rfl) rfl ?_
      obtain ⟨x51, hx52, h⟩ := bs h
      refine WL.call _ (op_call fn_11 (args1 rfl)) (c_laws_toRing (Ty.lift _ (Ext.trans hE40 hS50.ext) r_aR_Table) hx52) rfl ?_
      rintro _ wd54 ⟨u53, rfl, he55, hs56⟩
      have hS57 := St.join hS50 he55 hs56
      replace hS57 : St wd35 wd54 [(Ty.sl (Ty.sl (Ty.sl (Ty.i .i64)))).at u53 x51] := hS57
      refine WL.alloc hS57 ze_29 (cs := [(Value.slice none 0 0)]) rfl rfl ?_
      intro b58 wd59 hS60 he61
      replace hS60 : St wd35 wd59 [(Ty.sl (Ty.sl (Ty.sl (Ty.i .i64)))).at u53 x51, bx b58 [(Value.slice none 0 0)]] := hS60
      refine WL.storeBox [u53] hS60 (k := 1) rfl rfl rfl (us := [u53]) rfl sz_29 rfl rfl (all_rep (St.rep (t := (Ty.sl (Ty.sl (Ty.sl (Ty.i .i64))))) hS60 0 rfl) all_nil) rfl ?_
      intro wd62 hS63
      replace hS63 : St wd35 wd62 [(Ty.sl (Ty.sl (Ty.sl (Ty.i .i64)))).at u53 x51, bx b58 [u53]] := hS63
      refine WL.nil ?_
      show W _ _ _ _ _ _
      refine W.seq ?_
      refine W.region ?_
      refine WL.val v_aX _ (op_move rfl) rfl ?_
      obtain ⟨x64, hx65, h⟩ := bs h
      refine WL.call _ (op_call fn_12 (args1 rfl)) (c_laws_toInt64S (Ty.lift _ (Ext.trans hE40 hS63.ext) r_aX) hx65) rfl ?_
      rintro u66 wd67 ⟨_, rfl, he68, hs69⟩
      have hS70 := St.join hS63 he68 hs69
      replace hS70 : St wd35 wd67 [(Ty.sl (Ty.sl (Ty.sl (Ty.i .i64)))).at u53 x51, bx b58 [u53], (Ty.sl (Ty.i .i64)).at u66 x64] := hS70
      refine WL.val u66 _ (op_assign rfl) rfl ?_
      refine WL.nil ?_
      show W _ _ _ _ _ _
      refine W.seq ?_
      refine W.region ?_
      refine WL.val (Value.agg #[u53]) _ (op_loadBox st_29 rfl (St.boxAt hS70 1 rfl) rfl rfl) rfl ?_
      refine WL.val u66 _ (op_move rfl) rfl ?_
      obtain ⟨x71, hx72, h⟩ := bs h
      refine WL.call _ (op_call fn_13 (args2 rfl rfl)) (c_impl_IsCharacter (St.rep (t := (Ty.sl (Ty.sl (Ty.sl (Ty.i .i64))))) hS70 0 rfl) (St.rep (t := (Ty.sl (Ty.i .i64))) hS70 2 rfl) hx72) rfl ?_
      rintro _ wd74 ⟨rfl, hr73, he75⟩
      have hS77 := St.extend hS70 he75
      replace hS77 : St wd35 wd74 [(Ty.sl (Ty.sl (Ty.sl (Ty.i .i64)))).at u53 x51, bx b58 [u53], (Ty.sl (Ty.i .i64)).at u66 x64] := hS77
      refine WL.val (Value.tuple #[(Value.bool x71.1), (Value.int .i64 x71.2)]) _ (op_move rfl) rfl ?_
      refine WL.val (Value.bool x71.1) _ (op_extract rfl rfl) rfl ?_
      refine WL.val (Value.int .i64 x71.2) _ (op_extract rfl rfl) rfl ?_
      refine WL.val (Value.bool x71.1) _ (op_assign rfl) rfl ?_
      refine WL.val (Value.int .i64 x71.2) _ (op_assign rfl) rfl ?_
      refine WL.nil ?_
      show W _ _ _ _ _ _
      refine W.seq ?_
      refine W.seq ?_
      refine W.region ?_
      refine WL.val (Value.bool x71.1) _ (op_move rfl) rfl ?_
      refine WL.val (Value.bool x44.1) _ (op_move rfl) rfl ?_
      refine WL.val (Value.bool (x71.1 != x44.1)) _ (op_bneq rfl rfl bt_4) rfl ?_
      refine WL.val (Value.bool (x71.1 != x44.1)) _ (op_move rfl) rfl ?_
      refine WL.cut 4 (fun fq wq => fq 1 = v_aX ∧ fq 2 = (Value.pointer (some ⟨b1, 0, none⟩)) ∧ fq 8 = (Value.pointer (some ⟨b58, 0, none⟩)) ∧ fq 9 = u66 ∧ fq 45 = (Value.bool ((x71.1 != x44.1) || (x71.2 != x44.2))) ∧ St wd35 wq [(Ty.sl (Ty.sl (Ty.sl (Ty.i .i64)))).at u53 x51, bx b58 [u53], (Ty.sl (Ty.i .i64)).at u66 x64]) ?_ ?_
      · rcases Bool.eq_false_or_eq_true (x71.1 != x44.1) with hc78 | hc78
        · refine WL.gskip rfl (bool_of rfl hc78) rfl ?_
          refine WL.gskip rfl (bool_of rfl hc78) rfl ?_
          refine WL.gskip rfl (bool_of rfl hc78) rfl ?_
          refine WL.val (Value.bool true) _ (op_pick_t (evb_of rfl hc78) rfl) rfl ?_
          refine WL.nil ?_
          exact ⟨rfl, rfl, rfl, rfl, rfl, (orT hc78), hS77⟩
        · refine WL.grun rfl (bool_of rfl hc78) ?_
          refine WL.val (Value.int .i64 x71.2) _ (op_move rfl) rfl ?_
          refine WL.grun rfl (bool_of rfl hc78) ?_
          refine WL.val (Value.int .i64 x44.2) _ (op_move rfl) rfl ?_
          refine WL.grun rfl (bool_of rfl hc78) ?_
          refine WL.val (Value.bool (x71.2 != x44.2)) _ (op_neq rfl rfl) rfl ?_
          refine WL.val (Value.bool (x71.2 != x44.2)) _ (op_pick_f (evb_of rfl hc78) rfl) rfl ?_
          refine WL.nil ?_
          exact ⟨rfl, rfl, rfl, rfl, rfl, (orF hc78), hS77⟩
      · intro f79 wd80 hq81
        obtain ⟨hf82, hf83, hf84, hf85, hf86, hS87⟩ := hq81
        refine WL.nil ?_
        show W _ _ _ _ _ _
        refine W.cond ((x71.1 != x44.1) || (x71.2 != x44.2)) hf86 (fun hc88 => ?_) (fun hc88 => ?_)
        · replace h := ip h hc88
          refine W.seq ?_
          refine W.region ?_
          refine WL.val (Value.bool false) _ (op_assign rfl) rfl ?_
          refine WL.nil ?_
          show W _ _ _ _ _ _
          refine W.ret ?_
          obtain rfl := Option.some.inj h
          show FinP _ _ _ _ _ _ _
          exact FinP.ret _ (res1 rfl rfl) ⟨rfl, (Ext.trans hE40 hS87.ext)⟩
        · replace h := inegb h hc88
          refine W.skip ?_
          show W _ _ _ _ _ _
          refine W.seq ?_
          refine W.seq ?_
          obtain ⟨x113, hx114, h⟩ := bs h
          refine W.draw mixo 3 [fun v w' => ∃ (uu0 : Value), v = (Value.agg #[uu0]) ∧ (Ty.sl (Ty.sl (Ty.sl (Ty.i .i64)))).rep w' uu0 x51, fun v w' => ∃ (uu0 : Value), v = (Value.agg #[uu0]) ∧ (Ty.sl (Ty.sl (Ty.sl (Ty.i .i64)))).rep w' uu0 aR_Table, fun v w' => ∃ (uu0 : Value), v = (Value.agg #[uu0]) ∧ (Ty.sl (Ty.sl (Ty.sl (Ty.i .i64)))).rep w' uu0 x113] (by kernel_rfl) (by kernel_rfl) (stabL ⟨(fun _ _ _ he ⟨uu0, h0, r0⟩ => ⟨uu0, h0, Ty.lift _ he r0⟩), (fun _ _ _ he ⟨uu0, h0, r0⟩ => ⟨uu0, h0, Ty.lift _ he r0⟩), (fun _ _ _ he ⟨uu0, h0, r0⟩ => ⟨uu0, h0, Ty.lift _ he r0⟩), trivial⟩) ⟨?_, ?_, ?_, trivial⟩ ?_
          · intro f90 wd91 he92 hout93 hphi94
            have hS95 : St wd35 wd91 [(Ty.sl (Ty.sl (Ty.sl (Ty.i .i64)))).at u53 x51, bx b58 [u53], (Ty.sl (Ty.i .i64)).at u66 x64] := St.extend hS87 he92
            have e96 : f90 8 = (Value.pointer (some ⟨b58, 0, none⟩)) := (hout93 8 rfl).trans hf84
            exact OpY.val (Value.agg #[u53]) wd91 rfl (op_loadBox st_29 e96 (St.boxAt hS95 1 rfl) rfl rfl) (Ext.refl _) ⟨u53, rfl, (St.rep (t := (Ty.sl (Ty.sl (Ty.sl (Ty.i .i64))))) hS95 0 rfl)⟩
          · intro f97 wd98 he99 hout100 hphi101
            have hS102 : St wd35 wd98 [(Ty.sl (Ty.sl (Ty.sl (Ty.i .i64)))).at u53 x51, bx b58 [u53], (Ty.sl (Ty.i .i64)).at u66 x64] := St.extend hS87 he99
            have e103 : f97 2 = (Value.pointer (some ⟨b1, 0, none⟩)) := (hout100 2 rfl).trans hf83
            exact OpY.val (Value.agg #[v_aR_Table]) wd98 rfl (op_loadBox st_24 e103 (BoxAt.lift (Ext.trans hE41 hS102.ext) hx6) rfl rfl) (Ext.refl _) ⟨v_aR_Table, rfl, (Ty.lift _ (Ext.trans hE40 hS102.ext) r_aR_Table)⟩
          · intro f104 wd105 he106 hout107 hphi108
            have hS109 : St wd35 wd105 [(Ty.sl (Ty.sl (Ty.sl (Ty.i .i64)))).at u53 x51, bx b58 [u53], (Ty.sl (Ty.i .i64)).at u66 x64] := St.extend hS87 he106
            obtain ⟨u111, e110, hr112⟩ := hphi108 1 47 _ rfl rfl rfl
            refine OpY.call rfl (op_call fn_11 (args1 e110)) (Ret.mono (c_laws_toRing hr112 hx114) ?_)
            rintro _ wd116 ⟨u115, rfl, he117, hs118⟩
            exact ⟨he117, ⟨u115, rfl, (Sep.rep (t := (Ty.sl (Ty.sl (Ty.sl (Ty.i .i64))))) hs118 0 rfl)⟩⟩
          · intro f119 wd120 he121 hout122 hphi123
            show WL _ _ _ _ _ _ _
            have hS124 : St wd35 wd120 [(Ty.sl (Ty.sl (Ty.sl (Ty.i .i64)))).at u53 x51, bx b58 [u53], (Ty.sl (Ty.i .i64)).at u66 x64] := St.extend hS87 he121
            obtain ⟨u126, e125, hr127⟩ := hphi123 0 46 _ (by decide) rfl rfl
            obtain ⟨u129, e128, hr130⟩ := hphi123 2 48 _ (by decide) rfl rfl
            have e131 : f119 1 = v_aX := (hout122 1 rfl).trans hf82
            have e132 : f119 9 = u66 := (hout122 9 rfl).trans hf85
            obtain ⟨x133, hx134, h⟩ := bs h
            refine WL.call _ (op_call fn_14 (args2 e125 e128)) (c_laws_eqRing hr127 hr130 hx134) rfl ?_
            rintro _ wd135 ⟨rfl, he136⟩
            have hS138 := St.extend hS124 he136
            replace hS138 : St wd35 wd135 [(Ty.sl (Ty.sl (Ty.sl (Ty.i .i64)))).at u53 x51, bx b58 [u53], (Ty.sl (Ty.i .i64)).at u66 x64] := hS138
            refine WL.val (Value.bool (!x133)) _ (op_not rfl) rfl ?_
            refine WL.nil ?_
            show W _ _ _ _ _ _
            refine W.cond (!x133) rfl (fun hc139 => ?_) (fun hc139 => ?_)
            · replace h := ip h hc139
              refine W.seq ?_
              refine W.region ?_
              refine WL.val (Value.bool false) _ (op_assign rfl) rfl ?_
              refine WL.nil ?_
              show W _ _ _ _ _ _
              refine W.ret ?_
              obtain rfl := Option.some.inj h
              show FinP _ _ _ _ _ _ _
              exact FinP.ret _ (res1 rfl rfl) ⟨rfl, (Ext.trans hE40 hS138.ext)⟩
            · replace h := inegb h hc139
              refine W.skip ?_
              show W _ _ _ _ _ _
              refine W.seq ?_
              refine W.seq ?_
              refine W.region ?_
              refine WL.val u66 _ (op_move e132) rfl ?_
              refine WL.val v_aX _ (op_move e131) rfl ?_
              obtain ⟨x141, hx142, h⟩ := bs h
              refine WL.call _ (op_call fn_12 (args1 rfl)) (c_laws_toInt64S (Ty.lift _ (Ext.trans hE40 hS138.ext) r_aX) hx142) rfl ?_
              rintro u143 wd144 ⟨_, rfl, he145, hs146⟩
              have hS147 := St.join hS138 he145 hs146
              replace hS147 : St wd35 wd144 [(Ty.sl (Ty.sl (Ty.sl (Ty.i .i64)))).at u53 x51, bx b58 [u53], (Ty.sl (Ty.i .i64)).at u66 x64, (Ty.sl (Ty.i .i64)).at u143 x141] := hS147
              obtain ⟨x148, hx149, h⟩ := bs h
              refine WL.call _ (op_call fn_15 (args2 rfl rfl)) (c_laws_eqInt64S (St.rep (t := (Ty.sl (Ty.i .i64))) hS147 2 rfl) (St.rep (t := (Ty.sl (Ty.i .i64))) hS147 3 rfl) hx149) rfl ?_
              rintro _ wd150 ⟨rfl, he151⟩
              have hS153 := St.extend hS147 he151
              replace hS153 : St wd35 wd150 [(Ty.sl (Ty.sl (Ty.sl (Ty.i .i64)))).at u53 x51, bx b58 [u53], (Ty.sl (Ty.i .i64)).at u66 x64, (Ty.sl (Ty.i .i64)).at u143 x141] := hS153
              refine WL.val (Value.bool (!x148)) _ (op_not rfl) rfl ?_
              refine WL.nil ?_
              show W _ _ _ _ _ _
              refine W.cond (!x148) rfl (fun hc154 => ?_) (fun hc154 => ?_)
              · replace h := ip h hc154
                refine W.seq ?_
                refine W.region ?_
                refine WL.val (Value.bool false) _ (op_assign rfl) rfl ?_
                refine WL.nil ?_
                show W _ _ _ _ _ _
                refine W.ret ?_
                obtain rfl := Option.some.inj h
                show FinP _ _ _ _ _ _ _
                exact FinP.ret _ (res1 rfl rfl) ⟨rfl, (Ext.trans hE40 hS153.ext)⟩
              · replace h := inegb h hc154
                refine W.skip ?_
                show W _ _ _ _ _ _
                refine W.seq ?_
                refine W.region ?_
                refine WL.val (Value.bool true) _ (op_assign rfl) rfl ?_
                refine WL.nil ?_
                show W _ _ _ _ _ _
                refine W.ret ?_
                obtain rfl := Option.some.inj h
                show FinP _ _ _ _ _ _ _
                exact FinP.ret _ (res1 rfl rfl) ⟨rfl, (Ext.trans hE40 hS153.ext)⟩

end Go.VG
