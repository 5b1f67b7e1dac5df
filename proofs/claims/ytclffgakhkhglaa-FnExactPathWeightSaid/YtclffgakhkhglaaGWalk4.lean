/- The walks, part 4: each Go function returns what its plain twin returns. No condition beyond what each names. -/
import Derived.Test.YtclffgakhkhglaaGWalk3
set_option linter.all false
namespace Go.VG
open Go.Proofs
attribute [local irreducible] W WL Sep FinP

theorem c_impl_PathWeight {w : World} {r_Table : (List (List (List Int)))} {v_r_Table : Value} {labels : (List Int)} {v_labels : Value} {path : (List Int)} {v_path : Value} (r_r_Table : (Ty.sl (Ty.sl (Ty.sl (Ty.i .i64)))).rep w v_r_Table r_Table) (r_labels : (Ty.sl (Ty.i .i64)).rep w v_labels labels) (r_path : (Ty.sl (Ty.i .i64)).rep w v_path path) {res : Int × Int} (h : p_impl_PathWeight r_Table labels path  = some res) :
    Ret Try.prog 17 #[(Value.agg #[v_r_Table]), v_labels, v_path] w (fun v w' => v = (Value.tuple #[Value.int .i64 res.1, Value.int .i64 res.2]) ∧ InR .i64 res.1 ∧ InR .i64 res.2 ∧ Ext w w') := by
  unfold p_impl_PathWeight at h
  have hS0 : St w w [] := St.start w
  refine Ret.start (fn := Try.f17) Try.func17 rfl 88 rfl rfl ?_
  refine W.seq ?_
  refine W.region ?_
  refine WL.box hS0 rfl (cs := [v_r_Table]) rfl rfl ?_
  intro b1 wd2 hS3 he4 hx5
  replace hS3 : St w wd2 [bx b1 [v_r_Table]] := hS3
  have hx6 := St.boxAt hS3 0 rfl
  have hE7 : Ext w wd2 := hS3.ext
  have hS8 : St wd2 wd2 [] := St.start wd2
  refine WL.val (Value.int .i64 (0 : Int)) _ (op_assign rfl) rfl ?_
  refine WL.val (Value.int .i64 (0 : Int)) _ (op_assign rfl) rfl ?_
  refine WL.nil ?_
  show W _ _ _ _ _ _
  refine W.seq ?_
  refine W.seq ?_
  refine W.region ?_
  refine WL.val (Value.agg #[v_r_Table]) _ (op_loadBox st_29 rfl (BoxAt.lift hS8.ext hx6) rfl rfl) rfl ?_
  refine WL.val v_labels _ (op_move rfl) rfl ?_
  obtain ⟨x9, hx10, h⟩ := bs h
  refine WL.call _ (op_call fn_44 (args2 rfl rfl)) (c_impl_pathCode (Ty.lift _ (Ext.trans hE7 hS8.ext) r_r_Table) (Ty.lift _ (Ext.trans hE7 hS8.ext) r_labels) hx10) rfl ?_
  rintro _ wd12 ⟨rfl, hr11, he13⟩
  have hS15 := St.extend hS8 he13
  replace hS15 : St wd2 wd12 [] := hS15
  refine WL.val (Value.int .i64 x9) _ (op_assign rfl) rfl ?_
  refine WL.nil ?_
  show W _ _ _ _ _ _
  refine W.seq ?_
  refine W.region ?_
  refine WL.val (Value.int .i64 x9) _ (op_move rfl) rfl ?_
  refine WL.val (Value.bool (x9 != (0 : Int))) _ (op_neq rfl rfl) rfl ?_
  refine WL.nil ?_
  show W _ _ _ _ _ _
  refine W.cond (x9 != (0 : Int)) rfl (fun hc16 => ?_) (fun hc16 => ?_)
  · replace h := ip h hc16
    refine W.seq ?_
    refine W.region ?_
    refine WL.val (Value.int .i64 x9) _ (op_move rfl) rfl ?_
    refine WL.val (Value.int .i64 (0 : Int)) _ (op_assign rfl) rfl ?_
    refine WL.val (Value.int .i64 x9) _ (op_assign rfl) rfl ?_
    refine WL.nil ?_
    show W _ _ _ _ _ _
    refine W.ret ?_
    obtain rfl := Option.some.inj h
    show FinP _ _ _ _ _ _ _
    exact FinP.ret _ (res2 rfl rfl rfl) ⟨rfl, (inR_i64.2 (show (-9223372036854775808 : Int) ≤ 0 ∧ (0 : Int) ≤ 9223372036854775807 from by decide)), hr11, (Ext.trans hE7 hS15.ext)⟩
  · replace h := inegb h hc16
    refine W.skip ?_
    show W _ _ _ _ _ _
    refine W.seq ?_
    refine W.seq ?_
    refine W.region ?_
    refine WL.val v_path _ (op_move rfl) rfl ?_
    have hr18 := inR_len (Ty.lift _ (Ext.trans hE7 hS15.ext) r_path)
    refine WL.val (Value.int .i64 ((path).length : Int)) _ (op_lenL sl_25 (Ty.lift _ (Ext.trans hE7 hS15.ext) r_path) rfl) rfl ?_
    refine WL.val v_labels _ (op_move rfl) rfl ?_
    have hr19 := inR_len (Ty.lift _ (Ext.trans hE7 hS15.ext) r_labels)
    refine WL.val (Value.int .i64 ((labels).length : Int)) _ (op_lenL sl_25 (Ty.lift _ (Ext.trans hE7 hS15.ext) r_labels) rfl) rfl ?_
    refine WL.val (Value.bool (((path).length : Int) != ((labels).length : Int))) _ (op_neq rfl rfl) rfl ?_
    refine WL.val (Value.bool (((path).length : Int) != ((labels).length : Int))) _ (op_move rfl) rfl ?_
    obtain ⟨x21, hj22, h⟩ := bs h
    refine WL.cut 5 (fun fq wq => fq 1 = v_labels ∧ fq 2 = v_path ∧ fq 3 = (Value.pointer (some ⟨b1, 0, none⟩)) ∧ fq 29 = Value.bool x21 ∧ St wd2 wq []) ?_ ?_
    · rcases Bool.eq_false_or_eq_true (((path).length : Int) != ((labels).length : Int)) with hc20 | hc20
      · replace hj22 := ip hj22 hc20
        refine WL.gskip rfl (bool_of rfl hc20) rfl ?_
        refine WL.gskip rfl (bool_of rfl hc20) rfl ?_
        refine WL.gskip rfl (bool_of rfl hc20) rfl ?_
        refine WL.gskip rfl (bool_of rfl hc20) rfl ?_
        refine WL.val (Value.bool true) _ (op_pick_t (evb_of rfl hc20) rfl) rfl ?_
        refine WL.nil ?_
        obtain rfl := Option.some.inj hj22
        exact ⟨rfl, rfl, rfl, rfl, rfl, hS15⟩
      · replace hj22 := inegb hj22 hc20
        refine WL.grun rfl (bool_of rfl hc20) ?_
        refine WL.val (Value.agg #[v_r_Table]) _ (op_loadBox st_29 rfl (BoxAt.lift hS15.ext hx6) rfl rfl) rfl ?_
        refine WL.grun rfl (bool_of rfl hc20) ?_
        refine WL.val v_path _ (op_move rfl) rfl ?_
        refine WL.grun rfl (bool_of rfl hc20) ?_
        obtain ⟨x26, hx27, hj22⟩ := bs hj22
        refine WL.call _ (op_call fn_45 (args2 rfl rfl)) (c_impl_Ring_areLabels (Ty.lift _ (Ext.trans hE7 hS15.ext) r_r_Table) (Ty.lift _ (Ext.trans hE7 hS15.ext) r_path) hx27) rfl ?_
        rintro _ wd28 ⟨rfl, he29⟩
        have hS31 := St.extend hS15 he29
        replace hS31 : St wd2 wd28 [] := hS31
        refine WL.grun rfl (bool_of rfl hc20) ?_
        refine WL.val (Value.bool (!x26)) _ (op_not rfl) rfl ?_
        refine WL.val (Value.bool (!x26)) _ (op_pick_f (evb_of rfl hc20) rfl) rfl ?_
        refine WL.nil ?_
        obtain rfl := Option.some.inj hj22
        exact ⟨rfl, rfl, rfl, rfl, rfl, hS31⟩
    · intro f23 wd24 hq25
      obtain ⟨hf32, hf33, hf34, hf35, hS36⟩ := hq25
      refine WL.nil ?_
      show W _ _ _ _ _ _
      refine W.cond x21 hf35 (fun hc37 => ?_) (fun hc37 => ?_)
      · replace h := ip h hc37
        refine W.seq ?_
        refine W.region ?_
        refine WL.val (Value.int .i64 (0 : Int)) _ (op_assign rfl) rfl ?_
        refine WL.val (Value.int .i64 (2 : Int)) _ (op_assign rfl) rfl ?_
        refine WL.nil ?_
        show W _ _ _ _ _ _
        refine W.ret ?_
        obtain rfl := Option.some.inj h
        show FinP _ _ _ _ _ _ _
        exact FinP.ret _ (res2 rfl rfl rfl) ⟨rfl, (inR_i64.2 (show (-9223372036854775808 : Int) ≤ 0 ∧ (0 : Int) ≤ 9223372036854775807 from by decide)), (inR_i64.2 (show (-9223372036854775808 : Int) ≤ 2 ∧ (2 : Int) ≤ 9223372036854775807 from by decide)), (Ext.trans hE7 hS36.ext)⟩
      · replace h := inegb h hc37
        refine W.skip ?_
        show W _ _ _ _ _ _
        refine W.seq ?_
        refine W.seq ?_
        obtain ⟨x56, hx59, h⟩ := bs h
        obtain ⟨ha57, hb58, hx59⟩ := idx_some hx59
        obtain ⟨u70, hc71, hr72⟩ := repSl.el r_path hx59
        obtain ⟨rfl, hr72⟩ := hr72
        obtain ⟨x90, hx93, h⟩ := bs h
        obtain ⟨ha91, hb92, hx93⟩ := idx_some hx93
        obtain ⟨u104, hc105, hr106⟩ := repSl.el r_labels hx93
        obtain ⟨rfl, hr106⟩ := hr106
        obtain ⟨x133, hj134, h⟩ := bs h
        refine W.cutCode (fun fq wq => fq 1 = v_labels ∧ fq 2 = v_path ∧ fq 3 = (Value.pointer (some ⟨b1, 0, none⟩)) ∧ fq 45 = Value.bool x133 ∧ St wd2 wq []) ?_ ?_
        · rcases Bool.eq_false_or_eq_true (x56 != x90) with hc135 | hc135
          · replace hj134 := ip hj134 hc135
            refine W.drawR mixo 12 [] [fun _ v _ _ => v = v_path, fun _ v _ _ => v = (Value.pointer (some (elA v_path ((0 : Int)).toNat))), fun _ v _ _ => v = (Value.int .i64 x56) ∧ InR .i64 x56, fun _ v _ _ => v = v_labels, fun _ v _ _ => v = (Value.pointer (some (elA v_labels ((0 : Int)).toNat))), fun _ v _ _ => v = (Value.int .i64 x90) ∧ InR .i64 x90, fun _ v _ _ => v = (Value.bool (x56 != x90)), fun _ v _ _ => v = (Value.bool (x56 != x90)), fun _ v _ _ => v = undef, fun _ v _ _ => v = undef, fun _ v _ _ => v = undef, fun _ v _ _ => v = undef] (by kernel_rfl) (by kernel_rfl) ⟨⟨fun _ _ _ _ _ _ h => h, fun _ _ _ _ _ _ h => h⟩, ⟨fun _ _ _ _ _ _ h => h, fun _ _ _ _ _ _ h => h⟩, ⟨fun _ _ _ _ _ _ h => h, fun _ _ _ _ _ _ h => h⟩, ⟨fun _ _ _ _ _ _ h => h, fun _ _ _ _ _ _ h => h⟩, ⟨fun _ _ _ _ _ _ h => h, fun _ _ _ _ _ _ h => h⟩, ⟨fun _ _ _ _ _ _ h => h, fun _ _ _ _ _ _ h => h⟩, ⟨fun _ _ _ _ _ _ h => h, fun _ _ _ _ _ _ h => h⟩, ⟨fun _ _ _ _ _ _ h => h, fun _ _ _ _ _ _ h => h⟩, ⟨fun _ _ _ _ _ _ h => h, fun _ _ _ _ _ _ h => h⟩, ⟨fun _ _ _ _ _ _ h => h, fun _ _ _ _ _ _ h => h⟩, ⟨fun _ _ _ _ _ _ h => h, fun _ _ _ _ _ _ h => h⟩, ⟨fun _ _ _ _ _ _ h => h, fun _ _ _ _ _ _ h => h⟩, trivial⟩ ⟨?_, ?_, ?_, ?_, ?_, ?_, ?_, ?_, ?_, ?_, ?_, ?_, trivial⟩ ?_
            · refine ObX.op rfl ?_
              intro f39 wd40 he41 hout42 hphi43
              have hS44 : St wd2 wd40 [] := St.extend hS36 he41
              have e45 : f39 2 = v_path := (hout42 2 rfl).trans hf33
              exact OpX.val v_path wd40 rfl (op_move e45) (Ext.refl _) rfl
            · refine ObX.op rfl ?_
              intro f46 wd47 he48 hout49 hphi50
              have hS51 : St wd2 wd47 [] := St.extend hS36 he48
              obtain ⟨S52, hS53, hf54⟩ := hphi50 0 30 _ rfl rfl rfl
              have e55 : f46 30 = v_path := hf54
              exact OpX.val (Value.pointer (some (elA v_path ((0 : Int)).toNat))) wd47 rfl (op_idx sl_25 (Ty.lift _ (Ext.trans hE7 hS51.ext) r_path) e55 rfl ha57 hb58) (Ext.refl _) rfl
            · refine ObX.op rfl ?_
              intro f60 wd61 he62 hout63 hphi64
              have hS65 : St wd2 wd61 [] := St.extend hS36 he62
              obtain ⟨S66, hS67, hf68⟩ := hphi64 1 31 _ rfl rfl rfl
              have e69 : f60 31 = (Value.pointer (some (elA v_path ((0 : Int)).toNat))) := hf68
              exact OpX.val (Value.int .i64 x56) wd61 rfl (op_load one_2 e69 (Ext.cell (Ext.trans hE7 hS65.ext) hc71)) (Ext.refl _) ⟨rfl, hr72⟩
            · refine ObX.op rfl ?_
              intro f73 wd74 he75 hout76 hphi77
              have hS78 : St wd2 wd74 [] := St.extend hS36 he75
              have e79 : f73 1 = v_labels := (hout76 1 rfl).trans hf32
              exact OpX.val v_labels wd74 rfl (op_move e79) (Ext.refl _) rfl
            · refine ObX.op rfl ?_
              intro f80 wd81 he82 hout83 hphi84
              have hS85 : St wd2 wd81 [] := St.extend hS36 he82
              obtain ⟨S86, hS87, hf88⟩ := hphi84 3 33 _ rfl rfl rfl
              have e89 : f80 33 = v_labels := hf88
              exact OpX.val (Value.pointer (some (elA v_labels ((0 : Int)).toNat))) wd81 rfl (op_idx sl_25 (Ty.lift _ (Ext.trans hE7 hS85.ext) r_labels) e89 rfl ha91 hb92) (Ext.refl _) rfl
            · refine ObX.op rfl ?_
              intro f94 wd95 he96 hout97 hphi98
              have hS99 : St wd2 wd95 [] := St.extend hS36 he96
              obtain ⟨S100, hS101, hf102⟩ := hphi98 4 34 _ rfl rfl rfl
              have e103 : f94 34 = (Value.pointer (some (elA v_labels ((0 : Int)).toNat))) := hf102
              exact OpX.val (Value.int .i64 x90) wd95 rfl (op_load one_2 e103 (Ext.cell (Ext.trans hE7 hS99.ext) hc105)) (Ext.refl _) ⟨rfl, hr106⟩
            · refine ObX.op rfl ?_
              intro f107 wd108 he109 hout110 hphi111
              have hS112 : St wd2 wd108 [] := St.extend hS36 he109
              obtain ⟨S113, hS114, hf115⟩ := hphi111 2 32 _ rfl rfl rfl
              obtain ⟨e116, hr117⟩ : f107 32 = (Value.int .i64 x56) ∧ InR .i64 x56 := hf115
              obtain ⟨S118, hS119, hf120⟩ := hphi111 5 35 _ rfl rfl rfl
              obtain ⟨e121, hr122⟩ : f107 35 = (Value.int .i64 x90) ∧ InR .i64 x90 := hf120
              exact OpX.val (Value.bool (x56 != x90)) wd108 rfl (op_neq e116 e121) (Ext.refl _) rfl
            · refine ObX.op rfl ?_
              intro f123 wd124 he125 hout126 hphi127
              have hS128 : St wd2 wd124 [] := St.extend hS36 he125
              obtain ⟨S129, hS130, hf131⟩ := hphi127 6 36 _ rfl rfl rfl
              have e132 : f123 36 = (Value.bool (x56 != x90)) := hf131
              exact OpX.val (Value.bool (x56 != x90)) wd124 rfl (op_move e132) (Ext.refl _) rfl
            · refine ObX.op rfl ?_
              intro f136 wd137 he138 hout139 hphi140
              obtain ⟨S141, hS142, hf143⟩ := hphi140 7 37 _ rfl rfl rfl
              have e144 : f136 37 = (Value.bool (x56 != x90)) := hf143
              exact OpX.skip (wanted_skip rfl rfl e144 hc135) rfl
            · refine ObX.op rfl ?_
              intro f145 wd146 he147 hout148 hphi149
              obtain ⟨S150, hS151, hf152⟩ := hphi149 7 37 _ rfl rfl rfl
              have e153 : f145 37 = (Value.bool (x56 != x90)) := hf152
              exact OpX.skip (wanted_skip rfl rfl e153 hc135) rfl
            · refine ObX.op rfl ?_
              intro f154 wd155 he156 hout157 hphi158
              obtain ⟨S159, hS160, hf161⟩ := hphi158 7 37 _ rfl rfl rfl
              have e162 : f154 37 = (Value.bool (x56 != x90)) := hf161
              exact OpX.skip (wanted_skip rfl rfl e162 hc135) rfl
            · refine ObX.op rfl ?_
              intro f163 wd164 he165 hout166 hphi167
              obtain ⟨S168, hS169, hf170⟩ := hphi167 7 37 _ rfl rfl rfl
              have e171 : f163 37 = (Value.bool (x56 != x90)) := hf170
              exact OpX.skip (wanted_skip rfl rfl e171 hc135) rfl
            · intro f172 wd173 Ss174 he175 hout176 hSn177 hSd178 hphi179
              show WL _ _ _ _ _ _ _
              have hS180 : St wd2 wd173 [] := St.extend hS36 he175
              have e181 : f172 37 = (Value.bool (x56 != x90)) := hphi179 7 37 _ (by decide) rfl rfl
              have e182 : f172 38 = undef := hphi179 8 38 _ (by decide) rfl rfl
              have e183 : f172 41 = undef := hphi179 11 41 _ (by decide) rfl rfl
              have e184 : f172 1 = v_labels := (hout176 1 rfl).trans hf32
              have e185 : f172 2 = v_path := (hout176 2 rfl).trans hf33
              have e186 : f172 3 = (Value.pointer (some ⟨b1, 0, none⟩)) := (hout176 3 rfl).trans hf34
              refine WL.gskip rfl (bool_of e181 hc135) rfl ?_
              refine WL.gskip rfl (bool_of e181 hc135) rfl ?_
              refine WL.gskip rfl (bool_of e181 hc135) rfl ?_
              refine WL.val (Value.bool true) _ (op_pick_t (evb_of e181 hc135) rfl) rfl ?_
              refine WL.nil ?_
              obtain rfl := Option.some.inj hj134
              exact ⟨e184, e185, e186, rfl, hS180⟩
          · replace hj134 := inegb hj134 hc135
            refine W.drawR mixo 12 [] [fun _ v _ _ => v = v_path, fun _ v _ _ => v = (Value.pointer (some (elA v_path ((0 : Int)).toNat))), fun _ v _ _ => v = (Value.int .i64 x56) ∧ InR .i64 x56, fun _ v _ _ => v = v_labels, fun _ v _ _ => v = (Value.pointer (some (elA v_labels ((0 : Int)).toNat))), fun _ v _ _ => v = (Value.int .i64 x90) ∧ InR .i64 x90, fun _ v _ _ => v = (Value.bool (x56 != x90)), fun _ v _ _ => v = (Value.bool (x56 != x90)), fun _ v _ _ => v = v_path, fun _ v _ _ => v = v_path, fun _ v _ _ => v = (Value.int .i64 ((path).length : Int)) ∧ InR .i64 ((path).length : Int), fun _ v _ _ => v = (Value.int .i64 (w64 (((path).length : Int) - (1 : Int)))) ∧ InR .i64 (w64 (((path).length : Int) - (1 : Int)))] (by kernel_rfl) (by kernel_rfl) ⟨⟨fun _ _ _ _ _ _ h => h, fun _ _ _ _ _ _ h => h⟩, ⟨fun _ _ _ _ _ _ h => h, fun _ _ _ _ _ _ h => h⟩, ⟨fun _ _ _ _ _ _ h => h, fun _ _ _ _ _ _ h => h⟩, ⟨fun _ _ _ _ _ _ h => h, fun _ _ _ _ _ _ h => h⟩, ⟨fun _ _ _ _ _ _ h => h, fun _ _ _ _ _ _ h => h⟩, ⟨fun _ _ _ _ _ _ h => h, fun _ _ _ _ _ _ h => h⟩, ⟨fun _ _ _ _ _ _ h => h, fun _ _ _ _ _ _ h => h⟩, ⟨fun _ _ _ _ _ _ h => h, fun _ _ _ _ _ _ h => h⟩, ⟨fun _ _ _ _ _ _ h => h, fun _ _ _ _ _ _ h => h⟩, ⟨fun _ _ _ _ _ _ h => h, fun _ _ _ _ _ _ h => h⟩, ⟨fun _ _ _ _ _ _ h => h, fun _ _ _ _ _ _ h => h⟩, ⟨fun _ _ _ _ _ _ h => h, fun _ _ _ _ _ _ h => h⟩, trivial⟩ ⟨?_, ?_, ?_, ?_, ?_, ?_, ?_, ?_, ?_, ?_, ?_, ?_, trivial⟩ ?_
            · refine ObX.op rfl ?_
              intro f39 wd40 he41 hout42 hphi43
              have hS44 : St wd2 wd40 [] := St.extend hS36 he41
              have e45 : f39 2 = v_path := (hout42 2 rfl).trans hf33
              exact OpX.val v_path wd40 rfl (op_move e45) (Ext.refl _) rfl
            · refine ObX.op rfl ?_
              intro f46 wd47 he48 hout49 hphi50
              have hS51 : St wd2 wd47 [] := St.extend hS36 he48
              obtain ⟨S52, hS53, hf54⟩ := hphi50 0 30 _ rfl rfl rfl
              have e55 : f46 30 = v_path := hf54
              exact OpX.val (Value.pointer (some (elA v_path ((0 : Int)).toNat))) wd47 rfl (op_idx sl_25 (Ty.lift _ (Ext.trans hE7 hS51.ext) r_path) e55 rfl ha57 hb58) (Ext.refl _) rfl
            · refine ObX.op rfl ?_
              intro f60 wd61 he62 hout63 hphi64
              have hS65 : St wd2 wd61 [] := St.extend hS36 he62
              obtain ⟨S66, hS67, hf68⟩ := hphi64 1 31 _ rfl rfl rfl
              have e69 : f60 31 = (Value.pointer (some (elA v_path ((0 : Int)).toNat))) := hf68
              exact OpX.val (Value.int .i64 x56) wd61 rfl (op_load one_2 e69 (Ext.cell (Ext.trans hE7 hS65.ext) hc71)) (Ext.refl _) ⟨rfl, hr72⟩
            · refine ObX.op rfl ?_
              intro f73 wd74 he75 hout76 hphi77
              have hS78 : St wd2 wd74 [] := St.extend hS36 he75
              have e79 : f73 1 = v_labels := (hout76 1 rfl).trans hf32
              exact OpX.val v_labels wd74 rfl (op_move e79) (Ext.refl _) rfl
            · refine ObX.op rfl ?_
              intro f80 wd81 he82 hout83 hphi84
              have hS85 : St wd2 wd81 [] := St.extend hS36 he82
              obtain ⟨S86, hS87, hf88⟩ := hphi84 3 33 _ rfl rfl rfl
              have e89 : f80 33 = v_labels := hf88
              exact OpX.val (Value.pointer (some (elA v_labels ((0 : Int)).toNat))) wd81 rfl (op_idx sl_25 (Ty.lift _ (Ext.trans hE7 hS85.ext) r_labels) e89 rfl ha91 hb92) (Ext.refl _) rfl
            · refine ObX.op rfl ?_
              intro f94 wd95 he96 hout97 hphi98
              have hS99 : St wd2 wd95 [] := St.extend hS36 he96
              obtain ⟨S100, hS101, hf102⟩ := hphi98 4 34 _ rfl rfl rfl
              have e103 : f94 34 = (Value.pointer (some (elA v_labels ((0 : Int)).toNat))) := hf102
              exact OpX.val (Value.int .i64 x90) wd95 rfl (op_load one_2 e103 (Ext.cell (Ext.trans hE7 hS99.ext) hc105)) (Ext.refl _) ⟨rfl, hr106⟩
            · refine ObX.op rfl ?_
              intro f107 wd108 he109 hout110 hphi111
              have hS112 : St wd2 wd108 [] := St.extend hS36 he109
              obtain ⟨S113, hS114, hf115⟩ := hphi111 2 32 _ rfl rfl rfl
              obtain ⟨e116, hr117⟩ : f107 32 = (Value.int .i64 x56) ∧ InR .i64 x56 := hf115
              obtain ⟨S118, hS119, hf120⟩ := hphi111 5 35 _ rfl rfl rfl
              obtain ⟨e121, hr122⟩ : f107 35 = (Value.int .i64 x90) ∧ InR .i64 x90 := hf120
              exact OpX.val (Value.bool (x56 != x90)) wd108 rfl (op_neq e116 e121) (Ext.refl _) rfl
            · refine ObX.op rfl ?_
              intro f123 wd124 he125 hout126 hphi127
              have hS128 : St wd2 wd124 [] := St.extend hS36 he125
              obtain ⟨S129, hS130, hf131⟩ := hphi127 6 36 _ rfl rfl rfl
              have e132 : f123 36 = (Value.bool (x56 != x90)) := hf131
              exact OpX.val (Value.bool (x56 != x90)) wd124 rfl (op_move e132) (Ext.refl _) rfl
            · refine ObX.op rfl ?_
              intro f187 wd188 he189 hout190 hphi191
              have hS192 : St wd2 wd188 [] := St.extend hS36 he189
              have e193 : f187 2 = v_path := (hout190 2 rfl).trans hf33
              obtain ⟨S194, hS195, hf196⟩ := hphi191 7 37 _ rfl rfl rfl
              have e197 : f187 37 = (Value.bool (x56 != x90)) := hf196
              exact OpX.val v_path wd188 (wanted_run rfl rfl e197 hc135) (op_move e193) (Ext.refl _) rfl
            · refine ObX.op rfl ?_
              intro f198 wd199 he200 hout201 hphi202
              have hS203 : St wd2 wd199 [] := St.extend hS36 he200
              have e204 : f198 2 = v_path := (hout201 2 rfl).trans hf33
              obtain ⟨S205, hS206, hf207⟩ := hphi202 7 37 _ rfl rfl rfl
              have e208 : f198 37 = (Value.bool (x56 != x90)) := hf207
              exact OpX.val v_path wd199 (wanted_run rfl rfl e208 hc135) (op_move e204) (Ext.refl _) rfl
            · refine ObX.op rfl ?_
              intro f209 wd210 he211 hout212 hphi213
              have hS214 : St wd2 wd210 [] := St.extend hS36 he211
              obtain ⟨S215, hS216, hf217⟩ := hphi213 7 37 _ rfl rfl rfl
              have e218 : f209 37 = (Value.bool (x56 != x90)) := hf217
              obtain ⟨S219, hS220, hf221⟩ := hphi213 9 39 _ rfl rfl rfl
              have e222 : f209 39 = v_path := hf221
              have hr223 := inR_len (Ty.lift _ (Ext.trans hE7 hS214.ext) r_path)
              exact OpX.val (Value.int .i64 ((path).length : Int)) wd210 (wanted_run rfl rfl e218 hc135) (op_lenL sl_25 (Ty.lift _ (Ext.trans hE7 hS214.ext) r_path) e222) (Ext.refl _) ⟨rfl, hr223⟩
            · refine ObX.op rfl ?_
              intro f224 wd225 he226 hout227 hphi228
              have hS229 : St wd2 wd225 [] := St.extend hS36 he226
              obtain ⟨S230, hS231, hf232⟩ := hphi228 7 37 _ rfl rfl rfl
              have e233 : f224 37 = (Value.bool (x56 != x90)) := hf232
              obtain ⟨S234, hS235, hf236⟩ := hphi228 10 40 _ rfl rfl rfl
              obtain ⟨e237, hr238⟩ : f224 40 = (Value.int .i64 ((path).length : Int)) ∧ InR .i64 ((path).length : Int) := hf236
              exact OpX.val (Value.int .i64 (w64 (((path).length : Int) - (1 : Int)))) wd225 (wanted_run rfl rfl e233 hc135) (op_sub e237 rfl) (Ext.refl _) ⟨rfl, (inR_wrap _ _)⟩
            · intro f239 wd240 Ss241 he242 hout243 hSn244 hSd245 hphi246
              show WL _ _ _ _ _ _ _
              have hS247 : St wd2 wd240 [] := St.extend hS36 he242
              have e248 : f239 37 = (Value.bool (x56 != x90)) := hphi246 7 37 _ (by decide) rfl rfl
              have e249 : f239 38 = v_path := hphi246 8 38 _ (by decide) rfl rfl
              obtain ⟨e250, hr251⟩ : f239 41 = (Value.int .i64 (w64 (((path).length : Int) - (1 : Int)))) ∧ InR .i64 (w64 (((path).length : Int) - (1 : Int))) := hphi246 11 41 _ (by decide) rfl rfl
              have e252 : f239 1 = v_labels := (hout243 1 rfl).trans hf32
              have e253 : f239 2 = v_path := (hout243 2 rfl).trans hf33
              have e254 : f239 3 = (Value.pointer (some ⟨b1, 0, none⟩)) := (hout243 3 rfl).trans hf34
              refine WL.grun rfl (bool_of e248 hc135) ?_
              obtain ⟨x255, hx258, hj134⟩ := bs hj134
              obtain ⟨ha256, hb257, hx258⟩ := idx_some hx258
              refine WL.val (Value.pointer (some (elA v_path ((w64 (((path).length : Int) - (1 : Int)))).toNat))) _ (op_idx sl_25 (Ty.lift _ (Ext.trans hE7 hS247.ext) r_path) e249 e250 ha256 hb257) rfl ?_
              refine WL.grun rfl (bool_of e248 hc135) ?_
              obtain ⟨u259, hc260, hr261⟩ := repSl.el r_path hx258
              obtain ⟨rfl, hr261⟩ := hr261
              refine WL.val (Value.int .i64 x255) _ (op_load one_2 rfl (Ext.cell (Ext.trans hE7 hS247.ext) hc260)) rfl ?_
              refine WL.grun rfl (bool_of e248 hc135) ?_
              refine WL.val (Value.bool (x255 != (0 : Int))) _ (op_neq rfl rfl) rfl ?_
              refine WL.val (Value.bool (x255 != (0 : Int))) _ (op_pick_f (evb_of e248 hc135) rfl) rfl ?_
              refine WL.nil ?_
              obtain rfl := Option.some.inj hj134
              exact ⟨e252, e253, e254, rfl, hS247⟩
        · intro f262 wd263 hq264
          obtain ⟨hf265, hf266, hf267, hf268, hS269⟩ := hq264
          show W _ _ _ _ _ _
          refine W.cond x133 hf268 (fun hc270 => ?_) (fun hc270 => ?_)
          · replace h := ip h hc270
            refine W.seq ?_
            refine W.region ?_
            refine WL.val (Value.int .i64 (0 : Int)) _ (op_assign rfl) rfl ?_
            refine WL.val (Value.int .i64 (0 : Int)) _ (op_assign rfl) rfl ?_
            refine WL.nil ?_
            show W _ _ _ _ _ _
            refine W.ret ?_
            obtain rfl := Option.some.inj h
            show FinP _ _ _ _ _ _ _
            exact FinP.ret _ (res2 rfl rfl rfl) ⟨rfl, (inR_i64.2 (show (-9223372036854775808 : Int) ≤ 0 ∧ (0 : Int) ≤ 9223372036854775807 from by decide)), (inR_i64.2 (show (-9223372036854775808 : Int) ≤ 0 ∧ (0 : Int) ≤ 9223372036854775807 from by decide)), (Ext.trans hE7 hS269.ext)⟩
          · replace h := inegb h hc270
            refine W.skip ?_
            show W _ _ _ _ _ _
            refine W.seq ?_
            refine W.region ?_
            refine WL.val (Value.int .i64 (1 : Int)) _ (op_assign rfl) rfl ?_
            refine WL.val (Value.bool false) _ (op_assign rfl) rfl ?_
            refine WL.nil ?_
            show W _ _ _ _ _ _
            refine W.seq ?_
            refine W.seq ?_
            refine W.region ?_
            refine WL.val (Value.int .i64 (1 : Int)) _ (op_assign rfl) rfl ?_
            refine WL.nil ?_
            show W _ _ _ _ _ _
            obtain ⟨res272, hres273, h⟩ := bs h
            refine W.blockLoop (fun fq wq => ∃ s, res272 = Res.fin s ∧ fq 9 = Value.int .i64 s.1 ∧ InR .i64 s.1 ∧ fq 10 = Value.bool s.2 ∧ St wd2 wq []) ?_ ?_
            · refine W.forN (fun k (s : Int × Bool) fq wq => fq 1 = v_labels ∧ fq 2 = v_path ∧ fq 3 = (Value.pointer (some ⟨b1, 0, none⟩)) ∧ fq 9 = Value.int .i64 s.1 ∧ InR .i64 s.1 ∧ fq 10 = Value.bool s.2 ∧ fq 11 = Value.int .i64 ((1 : Int) + (k : Int)) ∧ InR .i64 ((1 : Int) + (k : Int)) ∧ St wd2 wq []) hres273 ⟨hf265, hf266, hf267, rfl, (inR_i64.2 (show (-9223372036854775808 : Int) ≤ 1 ∧ (1 : Int) ≤ 9223372036854775807 from by decide)), rfl, rfl, (inR_i64.2 (show (-9223372036854775808 : Int) ≤ 1 ∧ (1 : Int) ≤ 9223372036854775807 from by decide)), hS269⟩ ?_ ?_
              · intro k274 s572 ct277 f278 wd279 hk280 hb281 hI282 hbrk283 hret284
                obtain ⟨x275, x276⟩ := s572
                replace hI282 : f278 1 = v_labels ∧ f278 2 = v_path ∧ f278 3 = (Value.pointer (some ⟨b1, 0, none⟩)) ∧ f278 9 = Value.int .i64 x275 ∧ InR .i64 x275 ∧ f278 10 = Value.bool x276 ∧ f278 11 = Value.int .i64 ((1 : Int) + (k274 : Int)) ∧ InR .i64 ((1 : Int) + (k274 : Int)) ∧ St wd2 wd279 [] := hI282
                replace hb281 : p_impl_PathWeight_L1 path r_Table labels k274 x275 x276 = some ct277 := hb281
                unfold p_impl_PathWeight_L1 at hb281
                obtain ⟨hf285, hf286, hf287, hf288, hr289, hf290, hf291, hr292, hS293⟩ := hI282
                refine W.seq ?_
                refine W.seq ?_
                refine W.region ?_
                refine WL.val (Value.int .i64 ((1 : Int) + (k274 : Int))) _ (op_move hf291) rfl ?_
                refine WL.val v_path _ (op_move hf286) rfl ?_
                have hr294 := inR_len (Ty.lift _ (Ext.trans hE7 hS293.ext) r_path)
                refine WL.val (Value.int .i64 ((path).length : Int)) _ (op_lenL sl_25 (Ty.lift _ (Ext.trans hE7 hS293.ext) r_path) rfl) rfl ?_
                refine WL.val (Value.bool (decide (((1 : Int) + (k274 : Int)) < ((path).length : Int)))) _ (op_lss rfl rfl) rfl ?_
                have hl295 : ((1 : Int) + (k274 : Int)) < ((path).length : Int) := by omega
                refine WL.nil ?_
                show W _ _ _ _ _ _
                refine W.condT (decide (((1 : Int) + (k274 : Int)) < ((path).length : Int))) rfl (decide_eq_true hl295) ?_
                refine W.skip ?_
                show W _ _ _ _ _ _
                refine W.seq ?_
                refine W.block ?_
                refine W.seq ?_
                obtain ⟨x354, hx357, hb281⟩ := bs hb281
                obtain ⟨ha355, hb356, hx357⟩ := idx_some hx357
                obtain ⟨u368, hc369, hr370⟩ := repSl.el r_path hx357
                obtain ⟨rfl, hr370⟩ := hr370
                obtain ⟨x386, hx389, hb281⟩ := bs hb281
                obtain ⟨ha387, hb388, hx389⟩ := idx_some hx389
                obtain ⟨u400, hc401, hr402⟩ := repSl.el r_r_Table hx389
                obtain ⟨x432, hx435, hb281⟩ := bs hb281
                obtain ⟨ha433, hb434, hx435⟩ := idx_some hx435
                obtain ⟨u446, hc447, hr448⟩ := repSl.el r_labels hx435
                obtain ⟨rfl, hr448⟩ := hr448
                obtain ⟨x464, hx467, hb281⟩ := bs hb281
                obtain ⟨ha465, hb466, hx467⟩ := idx_some hx467
                obtain ⟨u478, hc479, hr480⟩ := repSl.el hr402 hx467
                obtain ⟨x510, hx513, hb281⟩ := bs hb281
                obtain ⟨ha511, hb512, hx513⟩ := idx_some hx513
                obtain ⟨u524, hc525, hr526⟩ := repSl.el r_path hx513
                obtain ⟨rfl, hr526⟩ := hr526
                refine W.drawR mixo 19 [] [fun _ v _ _ => v = (Value.pointer (some ⟨b1, 0, none⟩)), fun _ v _ _ => v = v_r_Table, fun _ v _ _ => v = v_path, fun _ v _ _ => v = (Value.int .i64 ((1 : Int) + (k274 : Int))) ∧ InR .i64 ((1 : Int) + (k274 : Int)), fun _ v _ _ => v = (Value.int .i64 (w64 (((1 : Int) + (k274 : Int)) - (1 : Int)))) ∧ InR .i64 (w64 (((1 : Int) + (k274 : Int)) - (1 : Int))), fun _ v _ _ => v = (Value.pointer (some (elA v_path ((w64 (((1 : Int) + (k274 : Int)) - (1 : Int)))).toNat))), fun _ v _ _ => v = (Value.int .i64 x354) ∧ InR .i64 x354, fun _ v _ _ => v = (Value.pointer (some (elA v_r_Table (x354).toNat))), fun _ v _ _ => v = u400, fun _ v _ _ => v = v_labels, fun _ v _ _ => v = (Value.int .i64 ((1 : Int) + (k274 : Int))) ∧ InR .i64 ((1 : Int) + (k274 : Int)), fun _ v _ _ => v = (Value.pointer (some (elA v_labels (((1 : Int) + (k274 : Int))).toNat))), fun _ v _ _ => v = (Value.int .i64 x432) ∧ InR .i64 x432, fun _ v _ _ => v = (Value.pointer (some (elA u400 (x432).toNat))), fun _ v _ _ => v = u478, fun _ v _ _ => v = v_path, fun _ v _ _ => v = (Value.int .i64 ((1 : Int) + (k274 : Int))) ∧ InR .i64 ((1 : Int) + (k274 : Int)), fun _ v _ _ => v = (Value.pointer (some (elA v_path (((1 : Int) + (k274 : Int))).toNat))), fun _ v _ _ => v = (Value.int .i64 x510) ∧ InR .i64 x510] (by kernel_rfl) (by kernel_rfl) ⟨⟨fun _ _ _ _ _ _ h => h, fun _ _ _ _ _ _ h => h⟩, ⟨fun _ _ _ _ _ _ h => h, fun _ _ _ _ _ _ h => h⟩, ⟨fun _ _ _ _ _ _ h => h, fun _ _ _ _ _ _ h => h⟩, ⟨fun _ _ _ _ _ _ h => h, fun _ _ _ _ _ _ h => h⟩, ⟨fun _ _ _ _ _ _ h => h, fun _ _ _ _ _ _ h => h⟩, ⟨fun _ _ _ _ _ _ h => h, fun _ _ _ _ _ _ h => h⟩, ⟨fun _ _ _ _ _ _ h => h, fun _ _ _ _ _ _ h => h⟩, ⟨fun _ _ _ _ _ _ h => h, fun _ _ _ _ _ _ h => h⟩, ⟨fun _ _ _ _ _ _ h => h, fun _ _ _ _ _ _ h => h⟩, ⟨fun _ _ _ _ _ _ h => h, fun _ _ _ _ _ _ h => h⟩, ⟨fun _ _ _ _ _ _ h => h, fun _ _ _ _ _ _ h => h⟩, ⟨fun _ _ _ _ _ _ h => h, fun _ _ _ _ _ _ h => h⟩, ⟨fun _ _ _ _ _ _ h => h, fun _ _ _ _ _ _ h => h⟩, ⟨fun _ _ _ _ _ _ h => h, fun _ _ _ _ _ _ h => h⟩, ⟨fun _ _ _ _ _ _ h => h, fun _ _ _ _ _ _ h => h⟩, ⟨fun _ _ _ _ _ _ h => h, fun _ _ _ _ _ _ h => h⟩, ⟨fun _ _ _ _ _ _ h => h, fun _ _ _ _ _ _ h => h⟩, ⟨fun _ _ _ _ _ _ h => h, fun _ _ _ _ _ _ h => h⟩, ⟨fun _ _ _ _ _ _ h => h, fun _ _ _ _ _ _ h => h⟩, trivial⟩ ⟨?_, ?_, ?_, ?_, ?_, ?_, ?_, ?_, ?_, ?_, ?_, ?_, ?_, ?_, ?_, ?_, ?_, ?_, ?_, trivial⟩ ?_
                · refine ObX.op rfl ?_
                  intro f297 wd298 he299 hout300 hphi301
                  have hS302 : St wd2 wd298 [] := St.extend hS293 he299
                  have e303 : f297 3 = (Value.pointer (some ⟨b1, 0, none⟩)) := (hout300 3 rfl).trans hf287
                  exact OpX.val (Value.pointer (some ⟨b1, 0, none⟩)) wd298 rfl (op_fieldAddr fd_29_0 e303) (Ext.refl _) rfl
                · refine ObX.op rfl ?_
                  intro f304 wd305 he306 hout307 hphi308
                  have hS309 : St wd2 wd305 [] := St.extend hS293 he306
                  obtain ⟨S310, hS311, hf312⟩ := hphi308 0 52 _ rfl rfl rfl
                  have e313 : f304 52 = (Value.pointer (some ⟨b1, 0, none⟩)) := hf312
                  exact OpX.val v_r_Table wd305 rfl (op_load one_22 e313 (BoxAt.cell (BoxAt.lift hS309.ext hx6) rfl)) (Ext.refl _) rfl
                · refine ObX.op rfl ?_
                  intro f314 wd315 he316 hout317 hphi318
                  have hS319 : St wd2 wd315 [] := St.extend hS293 he316
                  have e320 : f314 2 = v_path := (hout317 2 rfl).trans hf286
                  exact OpX.val v_path wd315 rfl (op_move e320) (Ext.refl _) rfl
                · refine ObX.op rfl ?_
                  intro f321 wd322 he323 hout324 hphi325
                  have hS326 : St wd2 wd322 [] := St.extend hS293 he323
                  have e327 : f321 11 = (Value.int .i64 ((1 : Int) + (k274 : Int))) := (hout324 11 rfl).trans hf291
                  exact OpX.val (Value.int .i64 ((1 : Int) + (k274 : Int))) wd322 rfl (op_move e327) (Ext.refl _) ⟨rfl, hr292⟩
                · refine ObX.op rfl ?_
                  intro f328 wd329 he330 hout331 hphi332
                  have hS333 : St wd2 wd329 [] := St.extend hS293 he330
                  obtain ⟨S334, hS335, hf336⟩ := hphi332 3 55 _ rfl rfl rfl
                  obtain ⟨e337, hr338⟩ : f328 55 = (Value.int .i64 ((1 : Int) + (k274 : Int))) ∧ InR .i64 ((1 : Int) + (k274 : Int)) := hf336
                  exact OpX.val (Value.int .i64 (w64 (((1 : Int) + (k274 : Int)) - (1 : Int)))) wd329 rfl (op_sub e337 rfl) (Ext.refl _) ⟨rfl, (inR_wrap _ _)⟩
                · refine ObX.op rfl ?_
                  intro f339 wd340 he341 hout342 hphi343
                  have hS344 : St wd2 wd340 [] := St.extend hS293 he341
                  obtain ⟨S345, hS346, hf347⟩ := hphi343 2 54 _ rfl rfl rfl
                  have e348 : f339 54 = v_path := hf347
                  obtain ⟨S349, hS350, hf351⟩ := hphi343 4 56 _ rfl rfl rfl
                  obtain ⟨e352, hr353⟩ : f339 56 = (Value.int .i64 (w64 (((1 : Int) + (k274 : Int)) - (1 : Int)))) ∧ InR .i64 (w64 (((1 : Int) + (k274 : Int)) - (1 : Int))) := hf351
                  exact OpX.val (Value.pointer (some (elA v_path ((w64 (((1 : Int) + (k274 : Int)) - (1 : Int)))).toNat))) wd340 rfl (op_idx sl_25 (Ty.lift _ (Ext.trans hE7 hS344.ext) r_path) e348 e352 ha355 hb356) (Ext.refl _) rfl
                · refine ObX.op rfl ?_
                  intro f358 wd359 he360 hout361 hphi362
                  have hS363 : St wd2 wd359 [] := St.extend hS293 he360
                  obtain ⟨S364, hS365, hf366⟩ := hphi362 5 57 _ rfl rfl rfl
                  have e367 : f358 57 = (Value.pointer (some (elA v_path ((w64 (((1 : Int) + (k274 : Int)) - (1 : Int)))).toNat))) := hf366
                  exact OpX.val (Value.int .i64 x354) wd359 rfl (op_load one_2 e367 (Ext.cell (Ext.trans hE7 hS363.ext) hc369)) (Ext.refl _) ⟨rfl, hr370⟩
                · refine ObX.op rfl ?_
                  intro f371 wd372 he373 hout374 hphi375
                  have hS376 : St wd2 wd372 [] := St.extend hS293 he373
                  obtain ⟨S377, hS378, hf379⟩ := hphi375 1 53 _ rfl rfl rfl
                  have e380 : f371 53 = v_r_Table := hf379
                  obtain ⟨S381, hS382, hf383⟩ := hphi375 6 58 _ rfl rfl rfl
                  obtain ⟨e384, hr385⟩ : f371 58 = (Value.int .i64 x354) ∧ InR .i64 x354 := hf383
                  exact OpX.val (Value.pointer (some (elA v_r_Table (x354).toNat))) wd372 rfl (op_idx sl_22 (Ty.lift _ (Ext.trans hE7 hS376.ext) r_r_Table) e380 e384 ha387 hb388) (Ext.refl _) rfl
                · refine ObX.op rfl ?_
                  intro f390 wd391 he392 hout393 hphi394
                  have hS395 : St wd2 wd391 [] := St.extend hS293 he392
                  obtain ⟨S396, hS397, hf398⟩ := hphi394 7 59 _ rfl rfl rfl
                  have e399 : f390 59 = (Value.pointer (some (elA v_r_Table (x354).toNat))) := hf398
                  exact OpX.val u400 wd391 rfl (op_load one_65 e399 (Ext.cell (Ext.trans hE7 hS395.ext) hc401)) (Ext.refl _) rfl
                · refine ObX.op rfl ?_
                  intro f403 wd404 he405 hout406 hphi407
                  have hS408 : St wd2 wd404 [] := St.extend hS293 he405
                  have e409 : f403 1 = v_labels := (hout406 1 rfl).trans hf285
                  exact OpX.val v_labels wd404 rfl (op_move e409) (Ext.refl _) rfl
                · refine ObX.op rfl ?_
                  intro f410 wd411 he412 hout413 hphi414
                  have hS415 : St wd2 wd411 [] := St.extend hS293 he412
                  have e416 : f410 11 = (Value.int .i64 ((1 : Int) + (k274 : Int))) := (hout413 11 rfl).trans hf291
                  exact OpX.val (Value.int .i64 ((1 : Int) + (k274 : Int))) wd411 rfl (op_move e416) (Ext.refl _) ⟨rfl, hr292⟩
                · refine ObX.op rfl ?_
                  intro f417 wd418 he419 hout420 hphi421
                  have hS422 : St wd2 wd418 [] := St.extend hS293 he419
                  obtain ⟨S423, hS424, hf425⟩ := hphi421 9 61 _ rfl rfl rfl
                  have e426 : f417 61 = v_labels := hf425
                  obtain ⟨S427, hS428, hf429⟩ := hphi421 10 62 _ rfl rfl rfl
                  obtain ⟨e430, hr431⟩ : f417 62 = (Value.int .i64 ((1 : Int) + (k274 : Int))) ∧ InR .i64 ((1 : Int) + (k274 : Int)) := hf429
                  exact OpX.val (Value.pointer (some (elA v_labels (((1 : Int) + (k274 : Int))).toNat))) wd418 rfl (op_idx sl_25 (Ty.lift _ (Ext.trans hE7 hS422.ext) r_labels) e426 e430 ha433 hb434) (Ext.refl _) rfl
                · refine ObX.op rfl ?_
                  intro f436 wd437 he438 hout439 hphi440
                  have hS441 : St wd2 wd437 [] := St.extend hS293 he438
                  obtain ⟨S442, hS443, hf444⟩ := hphi440 11 63 _ rfl rfl rfl
                  have e445 : f436 63 = (Value.pointer (some (elA v_labels (((1 : Int) + (k274 : Int))).toNat))) := hf444
                  exact OpX.val (Value.int .i64 x432) wd437 rfl (op_load one_2 e445 (Ext.cell (Ext.trans hE7 hS441.ext) hc447)) (Ext.refl _) ⟨rfl, hr448⟩
                · refine ObX.op rfl ?_
                  intro f449 wd450 he451 hout452 hphi453
                  have hS454 : St wd2 wd450 [] := St.extend hS293 he451
                  obtain ⟨S455, hS456, hf457⟩ := hphi453 8 60 _ rfl rfl rfl
                  have e458 : f449 60 = u400 := hf457
                  obtain ⟨S459, hS460, hf461⟩ := hphi453 12 64 _ rfl rfl rfl
                  obtain ⟨e462, hr463⟩ : f449 64 = (Value.int .i64 x432) ∧ InR .i64 x432 := hf461
                  exact OpX.val (Value.pointer (some (elA u400 (x432).toNat))) wd450 rfl (op_idx sl_65 (Ty.lift _ (Ext.trans hE7 hS454.ext) hr402) e458 e462 ha465 hb466) (Ext.refl _) rfl
                · refine ObX.op rfl ?_
                  intro f468 wd469 he470 hout471 hphi472
                  have hS473 : St wd2 wd469 [] := St.extend hS293 he470
                  obtain ⟨S474, hS475, hf476⟩ := hphi472 13 65 _ rfl rfl rfl
                  have e477 : f468 65 = (Value.pointer (some (elA u400 (x432).toNat))) := hf476
                  exact OpX.val u478 wd469 rfl (op_load one_25 e477 (Ext.cell (Ext.trans hE7 hS473.ext) hc479)) (Ext.refl _) rfl
                · refine ObX.op rfl ?_
                  intro f481 wd482 he483 hout484 hphi485
                  have hS486 : St wd2 wd482 [] := St.extend hS293 he483
                  have e487 : f481 2 = v_path := (hout484 2 rfl).trans hf286
                  exact OpX.val v_path wd482 rfl (op_move e487) (Ext.refl _) rfl
                · refine ObX.op rfl ?_
                  intro f488 wd489 he490 hout491 hphi492
                  have hS493 : St wd2 wd489 [] := St.extend hS293 he490
                  have e494 : f488 11 = (Value.int .i64 ((1 : Int) + (k274 : Int))) := (hout491 11 rfl).trans hf291
                  exact OpX.val (Value.int .i64 ((1 : Int) + (k274 : Int))) wd489 rfl (op_move e494) (Ext.refl _) ⟨rfl, hr292⟩
                · refine ObX.op rfl ?_
                  intro f495 wd496 he497 hout498 hphi499
                  have hS500 : St wd2 wd496 [] := St.extend hS293 he497
                  obtain ⟨S501, hS502, hf503⟩ := hphi499 15 67 _ rfl rfl rfl
                  have e504 : f495 67 = v_path := hf503
                  obtain ⟨S505, hS506, hf507⟩ := hphi499 16 68 _ rfl rfl rfl
                  obtain ⟨e508, hr509⟩ : f495 68 = (Value.int .i64 ((1 : Int) + (k274 : Int))) ∧ InR .i64 ((1 : Int) + (k274 : Int)) := hf507
                  exact OpX.val (Value.pointer (some (elA v_path (((1 : Int) + (k274 : Int))).toNat))) wd496 rfl (op_idx sl_25 (Ty.lift _ (Ext.trans hE7 hS500.ext) r_path) e504 e508 ha511 hb512) (Ext.refl _) rfl
                · refine ObX.op rfl ?_
                  intro f514 wd515 he516 hout517 hphi518
                  have hS519 : St wd2 wd515 [] := St.extend hS293 he516
                  obtain ⟨S520, hS521, hf522⟩ := hphi518 17 69 _ rfl rfl rfl
                  have e523 : f514 69 = (Value.pointer (some (elA v_path (((1 : Int) + (k274 : Int))).toNat))) := hf522
                  exact OpX.val (Value.int .i64 x510) wd515 rfl (op_load one_2 e523 (Ext.cell (Ext.trans hE7 hS519.ext) hc525)) (Ext.refl _) ⟨rfl, hr526⟩
                · intro f527 wd528 Ss529 he530 hout531 hSn532 hSd533 hphi534
                  show WL _ _ _ _ _ _ _
                  have hS535 : St wd2 wd528 [] := St.extend hS293 he530
                  have e536 : f527 66 = u478 := hphi534 14 66 _ (by decide) rfl rfl
                  obtain ⟨e537, hr538⟩ : f527 70 = (Value.int .i64 x510) ∧ InR .i64 x510 := hphi534 18 70 _ (by decide) rfl rfl
                  have e539 : f527 1 = v_labels := (hout531 1 rfl).trans hf285
                  have e540 : f527 2 = v_path := (hout531 2 rfl).trans hf286
                  have e541 : f527 3 = (Value.pointer (some ⟨b1, 0, none⟩)) := (hout531 3 rfl).trans hf287
                  have e542 : f527 9 = (Value.int .i64 x275) := (hout531 9 rfl).trans hf288
                  have e543 : f527 10 = (Value.bool x276) := (hout531 10 rfl).trans hf290
                  have e544 : f527 11 = (Value.int .i64 ((1 : Int) + (k274 : Int))) := (hout531 11 rfl).trans hf291
                  obtain ⟨x545, hx548, hb281⟩ := bs hb281
                  obtain ⟨ha546, hb547, hx548⟩ := idx_some hx548
                  refine WL.val (Value.pointer (some (elA u478 (x510).toNat))) _ (op_idx sl_25 (Ty.lift _ (Ext.trans hE7 hS535.ext) hr480) e536 e537 ha546 hb547) rfl ?_
                  obtain ⟨u549, hc550, hr551⟩ := repSl.el hr480 hx548
                  obtain ⟨rfl, hr551⟩ := hr551
                  refine WL.val (Value.int .i64 x545) _ (op_load one_2 rfl (Ext.cell (Ext.trans hE7 hS535.ext) hc550)) rfl ?_
                  refine WL.val (Value.int .i64 x545) _ (op_assign rfl) rfl ?_
                  refine WL.nil ?_
                  show W _ _ _ _ _ _
                  refine W.seq ?_
                  refine W.seq ?_
                  refine W.region ?_
                  refine WL.val (Value.int .i64 x545) _ (op_move rfl) rfl ?_
                  refine WL.val (Value.bool (x545 == (0 : Int))) _ (op_eql rfl rfl) rfl ?_
                  refine WL.nil ?_
                  show W _ _ _ _ _ _
                  refine W.cond (x545 == (0 : Int)) rfl (fun hc552 => ?_) (fun hc552 => ?_)
                  · replace hb281 := ip hb281 hc552
                    refine W.seq ?_
                    refine W.region ?_
                    refine WL.val (Value.int .i64 (0 : Int)) _ (op_assign rfl) rfl ?_
                    refine WL.val (Value.int .i64 (0 : Int)) _ (op_assign rfl) rfl ?_
                    refine WL.nil ?_
                    show W _ _ _ _ _ _
                    refine W.ret ?_
                    obtain rfl := Option.some.inj hb281
                    obtain rfl := hret284 _ rfl
                    replace h := onRes_ret h
                    obtain rfl := Option.some.inj h
                    show FinP _ _ _ _ _ _ _
                    exact FinP.ret _ (res2 rfl rfl rfl) ⟨rfl, (inR_i64.2 (show (-9223372036854775808 : Int) ≤ 0 ∧ (0 : Int) ≤ 9223372036854775807 from by decide)), (inR_i64.2 (show (-9223372036854775808 : Int) ≤ 0 ∧ (0 : Int) ≤ 9223372036854775807 from by decide)), (Ext.trans hE7 hS535.ext)⟩
                  · replace hb281 := inegb hb281 hc552
                    refine W.skip ?_
                    show W _ _ _ _ _ _
                    refine W.seq ?_
                    refine W.region ?_
                    refine WL.val (Value.bool x276) _ (op_move e543) rfl ?_
                    refine WL.val (Value.bool x276) _ (op_move rfl) rfl ?_
                    obtain ⟨x555, hj556, hb281⟩ := bs hb281
                    refine WL.cut 5 (fun fq wq => fq 1 = v_labels ∧ fq 2 = v_path ∧ fq 3 = (Value.pointer (some ⟨b1, 0, none⟩)) ∧ fq 9 = (Value.int .i64 x275) ∧ fq 11 = (Value.int .i64 ((1 : Int) + (k274 : Int))) ∧ fq 12 = (Value.int .i64 x545) ∧ fq 81 = Value.bool x555 ∧ St wd2 wq []) ?_ ?_
                    · rcases Bool.eq_false_or_eq_true x276 with hc554 | hc554
                      · replace hj556 := ip hj556 hc554
                        refine WL.gskip rfl (bool_of rfl hc554) rfl ?_
                        refine WL.gskip rfl (bool_of rfl hc554) rfl ?_
                        refine WL.gskip rfl (bool_of rfl hc554) rfl ?_
                        refine WL.gskip rfl (bool_of rfl hc554) rfl ?_
                        refine WL.val (Value.bool true) _ (op_pick_t (evb_of rfl hc554) rfl) rfl ?_
                        refine WL.nil ?_
                        obtain rfl := Option.some.inj hj556
                        exact ⟨rfl, e539, e540, e541, e542, e544, rfl, rfl, hS535⟩
                      · replace hj556 := inegb hj556 hc554
                        refine WL.grun rfl (bool_of rfl hc554) ?_
                        refine WL.val (Value.int .i64 x275) _ (op_move e542) rfl ?_
                        refine WL.grun rfl (bool_of rfl hc554) ?_
                        refine WL.val (Value.int .i64 x545) _ (op_move rfl) rfl ?_
                        refine WL.grun rfl (bool_of rfl hc554) ?_
                        obtain ⟨x560, hz561, hj556⟩ := bs hj556
                        obtain ⟨h0562, hz561⟩ := quoI_some hz561
                        have hr563 : InR .i64 x560 := by rw [hz561]; exact inR_wrap _ _
                        refine WL.val (Value.int .i64 x560) _ (by rw [hz561]; exact op_quo rfl rfl h0562) rfl ?_
                        refine WL.grun rfl (bool_of rfl hc554) ?_
                        refine WL.val (Value.bool (decide (x275 > x560))) _ (op_gtr rfl rfl) rfl ?_
                        refine WL.val (Value.bool (decide (x275 > x560))) _ (op_pick_f (evb_of rfl hc554) rfl) rfl ?_
                        refine WL.nil ?_
                        obtain rfl := Option.some.inj hj556
                        exact ⟨rfl, e539, e540, e541, e542, e544, rfl, rfl, hS535⟩
                    · intro f557 wd558 hq559
                      obtain ⟨hf564, hf565, hf566, hf567, hf568, hf569, hf570, hS571⟩ := hq559
                      refine WL.val (Value.bool x555) _ (op_assign hf570) rfl ?_
                      refine WL.nil ?_
                      show W _ _ _ _ _ _
                      refine W.region ?_
                      refine WL.val (Value.int .i64 x275) _ (op_move hf567) rfl ?_
                      refine WL.val (Value.int .i64 x545) _ (op_move hf569) rfl ?_
                      refine WL.val (Value.int .i64 (w64 (x275 * x545))) _ (op_mul rfl rfl) rfl ?_
                      refine WL.val (Value.int .i64 (if (w64 (x275 * x545)) < (1000000000000000 : Int) then (w64 (x275 * x545)) else (1000000000000000 : Int))) _ (op_min2 rfl rfl) rfl ?_
                      refine WL.val (Value.int .i64 (if (w64 (x275 * x545)) < (1000000000000000 : Int) then (w64 (x275 * x545)) else (1000000000000000 : Int))) _ (op_assign rfl) rfl ?_
                      refine WL.nil ?_
                      show W _ _ _ _ _ _
                      refine W.region ?_
                      refine WL.val (Value.int .i64 ((1 : Int) + (k274 : Int))) _ (op_move hf568) rfl ?_
                      refine WL.val (Value.int .i64 (w64 (((1 : Int) + (k274 : Int)) + (1 : Int)))) _ (op_add rfl rfl) rfl ?_
                      refine WL.val (Value.int .i64 (w64 (((1 : Int) + (k274 : Int)) + (1 : Int)))) _ (op_assign rfl) rfl ?_
                      refine WL.nil ?_
                      obtain rfl := Option.some.inj hb281
                      show ∃ s, _ = Ctl.next s ∧ _
                      exact ⟨_, rfl, hf564, hf565, hf566, rfl, (inR_ite (inR_wrap _ _) (inR_i64.2 (show (-9223372036854775808 : Int) ≤ 1000000000000000 ∧ (1000000000000000 : Int) ≤ 9223372036854775807 from by decide))), rfl, (ctrS_next hl295 hr294 (inR_i64.2 (show (-9223372036854775808 : Int) ≤ 1 ∧ (1 : Int) ≤ 9223372036854775807 from by decide))), (ctrS_rng hl295 hr294 (inR_i64.2 (show (-9223372036854775808 : Int) ≤ 1 ∧ (1 : Int) ≤ 9223372036854775807 from by decide))), hS571⟩
              · intro s577 f573 wd574 hs575 hI576
                obtain ⟨x578, x579⟩ := s577
                replace hI576 : f573 1 = v_labels ∧ f573 2 = v_path ∧ f573 3 = (Value.pointer (some ⟨b1, 0, none⟩)) ∧ f573 9 = Value.int .i64 x578 ∧ InR .i64 x578 ∧ f573 10 = Value.bool x579 ∧ f573 11 = Value.int .i64 ((1 : Int) + (((((path).length : Int) - (1 : Int)).toNat : Nat) : Int)) ∧ InR .i64 ((1 : Int) + (((((path).length : Int) - (1 : Int)).toNat : Nat) : Int)) ∧ St wd2 wd574 [] := hI576
                obtain ⟨hf580, hf581, hf582, hf583, hr584, hf585, hf586, hr587, hS588⟩ := hI576
                refine W.seq ?_
                refine W.seq ?_
                refine W.region ?_
                refine WL.val (Value.int .i64 ((1 : Int) + (((((path).length : Int) - (1 : Int)).toNat : Nat) : Int))) _ (op_move hf586) rfl ?_
                refine WL.val v_path _ (op_move hf581) rfl ?_
                have hr589 := inR_len (Ty.lift _ (Ext.trans hE7 hS588.ext) r_path)
                refine WL.val (Value.int .i64 ((path).length : Int)) _ (op_lenL sl_25 (Ty.lift _ (Ext.trans hE7 hS588.ext) r_path) rfl) rfl ?_
                refine WL.val (Value.bool (decide (((1 : Int) + (((((path).length : Int) - (1 : Int)).toNat : Nat) : Int)) < ((path).length : Int)))) _ (op_lss rfl rfl) rfl ?_
                have hl590 : ¬ ((1 : Int) + (((((path).length : Int) - (1 : Int)).toNat : Nat) : Int)) < ((path).length : Int) := by omega
                refine WL.nil ?_
                show W _ _ _ _ _ _
                refine W.condF (decide (((1 : Int) + (((((path).length : Int) - (1 : Int)).toNat : Nat) : Int)) < ((path).length : Int))) rfl (decide_eq_false hl590) ?_
                refine W.exit ?_
                show _ = _ ∧ _
                exact ⟨rfl, _, hs575, hf583, hr584, hf585, hS588⟩
            · rintro f591 wd592 ⟨s594, rfl, hq593⟩
              replace h := onRes_fin h
              obtain ⟨x595, x596⟩ := s594
              replace hq593 : f591 9 = Value.int .i64 x595 ∧ InR .i64 x595 ∧ f591 10 = Value.bool x596 ∧ St wd2 wd592 [] := hq593
              replace h : (_ : Option _) = _ := h
              dsimp only at h
              obtain ⟨hf597, hr598, hf599, hS600⟩ := hq593
              show W _ _ _ _ _ _
              refine W.seq ?_
              refine W.seq ?_
              refine W.region ?_
              refine WL.val (Value.bool x596) _ (op_move hf599) rfl ?_
              refine WL.nil ?_
              show W _ _ _ _ _ _
              refine W.cond x596 rfl (fun hc601 => ?_) (fun hc601 => ?_)
              · replace h := ip h hc601
                refine W.seq ?_
                refine W.region ?_
                refine WL.val (Value.int .i64 (0 : Int)) _ (op_assign rfl) rfl ?_
                refine WL.val (Value.int .i64 (3 : Int)) _ (op_assign rfl) rfl ?_
                refine WL.nil ?_
                show W _ _ _ _ _ _
                refine W.ret ?_
                obtain rfl := Option.some.inj h
                show FinP _ _ _ _ _ _ _
                exact FinP.ret _ (res2 rfl rfl rfl) ⟨rfl, (inR_i64.2 (show (-9223372036854775808 : Int) ≤ 0 ∧ (0 : Int) ≤ 9223372036854775807 from by decide)), (inR_i64.2 (show (-9223372036854775808 : Int) ≤ 3 ∧ (3 : Int) ≤ 9223372036854775807 from by decide)), (Ext.trans hE7 hS600.ext)⟩
              · replace h := inegb h hc601
                refine W.skip ?_
                show W _ _ _ _ _ _
                refine W.seq ?_
                refine W.region ?_
                refine WL.val (Value.int .i64 x595) _ (op_move hf597) rfl ?_
                refine WL.val (Value.int .i64 x595) _ (op_assign rfl) rfl ?_
                refine WL.val (Value.int .i64 (0 : Int)) _ (op_assign rfl) rfl ?_
                refine WL.nil ?_
                show W _ _ _ _ _ _
                refine W.ret ?_
                obtain rfl := Option.some.inj h
                show FinP _ _ _ _ _ _ _
                exact FinP.ret _ (res2 rfl rfl rfl) ⟨rfl, hr598, (inR_i64.2 (show (-9223372036854775808 : Int) ≤ 0 ∧ (0 : Int) ≤ 9223372036854775807 from by decide)), (Ext.trans hE7 hS600.ext)⟩

theorem c_laws_FnExactPathWeight {w : World} {aR_Table : (List (List (List Int)))} {v_aR_Table : Value} {aLabels : (List Int)} {v_aLabels : Value} {aPath : (List Int)} {v_aPath : Value} (r_aR_Table : (Ty.sl (Ty.sl (Ty.sl (Ty.i .i64)))).rep w v_aR_Table aR_Table) (r_aLabels : (Ty.sl (Ty.i .i64)).rep w v_aLabels aLabels) (r_aPath : (Ty.sl (Ty.i .i64)).rep w v_aPath aPath) {res : Bool} (h : p_laws_FnExactPathWeight aR_Table aLabels aPath  = some res) :
    Ret Try.prog 4 #[(Value.agg #[v_aR_Table]), v_aLabels, v_aPath] w (fun v w' => v = Value.bool res ∧ Ext w w') := by
  unfold p_laws_FnExactPathWeight at h
  have hS0 : St w w [] := St.start w
  refine Ret.start (fn := Try.f4) Try.func4 rfl 72 rfl rfl ?_
  refine W.seq ?_
  refine W.region ?_
  refine WL.box hS0 rfl (cs := [v_aR_Table]) rfl rfl ?_
  intro b1 wd2 hS3 he4 hx5
  replace hS3 : St w wd2 [bx b1 [v_aR_Table]] := hS3
  have hx6 := St.boxAt hS3 0 rfl
  have hE7 : Ext w wd2 := hS3.ext
  have hS8 : St wd2 wd2 [] := St.start wd2
  refine WL.val (Value.bool false) _ (op_assign rfl) rfl ?_
  refine WL.nil ?_
  show W _ _ _ _ _ _
  refine W.seq ?_
  refine W.seq ?_
  refine W.region ?_
  refine WL.val v_aLabels _ (op_move rfl) rfl ?_
  have hr9 := inR_len (Ty.lift _ (Ext.trans hE7 hS8.ext) r_aLabels)
  refine WL.val (Value.int .i64 ((aLabels).length : Int)) _ (op_lenL sl_25 (Ty.lift _ (Ext.trans hE7 hS8.ext) r_aLabels) rfl) rfl ?_
  refine WL.val (Value.bool (decide (((aLabels).length : Int) > (1048576 : Int)))) _ (op_gtr rfl rfl) rfl ?_
  refine WL.nil ?_
  show W _ _ _ _ _ _
  refine W.cond (decide (((aLabels).length : Int) > (1048576 : Int))) rfl (fun hc10 => ?_) (fun hc10 => ?_)
  · replace h := ip h hc10
    refine W.seq ?_
    refine W.region ?_
    refine WL.val (Value.bool true) _ (op_assign rfl) rfl ?_
    refine WL.nil ?_
    show W _ _ _ _ _ _
    refine W.ret ?_
    obtain rfl := Option.some.inj h
    show FinP _ _ _ _ _ _ _
    exact FinP.ret _ (res1 rfl rfl) ⟨rfl, (Ext.trans hE7 hS8.ext)⟩
  · replace h := inegb h hc10
    refine W.skip ?_
    show W _ _ _ _ _ _
    refine W.seq ?_
    refine W.seq ?_
    refine W.region ?_
    refine WL.val v_aPath _ (op_move rfl) rfl ?_
    have hr12 := inR_len (Ty.lift _ (Ext.trans hE7 hS8.ext) r_aPath)
    refine WL.val (Value.int .i64 ((aPath).length : Int)) _ (op_lenL sl_25 (Ty.lift _ (Ext.trans hE7 hS8.ext) r_aPath) rfl) rfl ?_
    refine WL.val (Value.bool (decide (((aPath).length : Int) > (1048576 : Int)))) _ (op_gtr rfl rfl) rfl ?_
    refine WL.nil ?_
    show W _ _ _ _ _ _
    refine W.cond (decide (((aPath).length : Int) > (1048576 : Int))) rfl (fun hc13 => ?_) (fun hc13 => ?_)
    · replace h := ip h hc13
      refine W.seq ?_
      refine W.region ?_
      refine WL.val (Value.bool true) _ (op_assign rfl) rfl ?_
      refine WL.nil ?_
      show W _ _ _ _ _ _
      refine W.ret ?_
      obtain rfl := Option.some.inj h
      show FinP _ _ _ _ _ _ _
      exact FinP.ret _ (res1 rfl rfl) ⟨rfl, (Ext.trans hE7 hS8.ext)⟩
    · replace h := inegb h hc13
      refine W.skip ?_
      show W _ _ _ _ _ _
      refine W.seq ?_
      refine W.region ?_
      refine WL.val (Value.int .i64 (1048576 : Int)) _ (op_assign rfl) rfl ?_
      refine WL.nil ?_
      show W _ _ _ _ _ _
      refine W.seq ?_
      refine W.region ?_
      refine WL.val (Value.agg #[v_aR_Table]) _ (op_loadBox st_24 rfl (BoxAt.lift hS8.ext hx6) rfl rfl) rfl ?_
      refine WL.val (Value.int .i64 (1048576 : Int)) _ (op_move rfl) rfl ?_
      obtain ⟨x15, hx16, h⟩ := bs h
      refine WL.call _ (op_call fn_9 (args2 rfl rfl)) (c_laws_szRing (Ty.lift _ (Ext.trans hE7 hS8.ext) r_aR_Table) (inR_i64.2 (show (-9223372036854775808 : Int) ≤ 1048576 ∧ (1048576 : Int) ≤ 9223372036854775807 from by decide)) hx16) rfl ?_
      rintro _ wd18 ⟨rfl, hr17, he19⟩
      have hS21 := St.extend hS8 he19
      replace hS21 : St wd2 wd18 [] := hS21
      refine WL.val (Value.int .i64 x15) _ (op_assign rfl) rfl ?_
      refine WL.nil ?_
      show W _ _ _ _ _ _
      refine W.seq ?_
      refine W.seq ?_
      refine W.region ?_
      refine WL.val (Value.int .i64 x15) _ (op_move rfl) rfl ?_
      refine WL.val (Value.bool (decide (x15 < (0 : Int)))) _ (op_lss rfl rfl) rfl ?_
      refine WL.nil ?_
      show W _ _ _ _ _ _
      refine W.cond (decide (x15 < (0 : Int))) rfl (fun hc22 => ?_) (fun hc22 => ?_)
      · replace h := ip h hc22
        refine W.seq ?_
        refine W.region ?_
        refine WL.val (Value.bool true) _ (op_assign rfl) rfl ?_
        refine WL.nil ?_
        show W _ _ _ _ _ _
        refine W.ret ?_
        obtain rfl := Option.some.inj h
        show FinP _ _ _ _ _ _ _
        exact FinP.ret _ (res1 rfl rfl) ⟨rfl, (Ext.trans hE7 hS21.ext)⟩
      · replace h := inegb h hc22
        refine W.skip ?_
        show W _ _ _ _ _ _
        refine W.seq ?_
        refine W.region ?_
        refine WL.val (Value.agg #[v_aR_Table]) _ (op_loadBox st_24 rfl (BoxAt.lift hS21.ext hx6) rfl rfl) rfl ?_
        obtain ⟨x24, hx25, h⟩ := bs h
        refine WL.call _ (op_call fn_11 (args1 rfl)) (c_laws_toRing (Ty.lift _ (Ext.trans hE7 hS21.ext) r_aR_Table) hx25) rfl ?_
        rintro _ wd27 ⟨u26, rfl, he28, hs29⟩
        have hS30 := St.join hS21 he28 hs29
        replace hS30 : St wd2 wd27 [(Ty.sl (Ty.sl (Ty.sl (Ty.i .i64)))).at u26 x24] := hS30
        have hb31 := St.rep (t := (Ty.sl (Ty.sl (Ty.sl (Ty.i .i64))))) hS30 0 rfl
        have hE32 : Ext w wd27 := (Ext.trans hE7 hS30.ext)
        have hE33 : Ext wd2 wd27 := hS30.ext
        have hS34 : St wd27 wd27 [] := St.start wd27
        refine WL.val v_aLabels _ (op_move rfl) rfl ?_
        obtain ⟨x35, hx36, h⟩ := bs h
        refine WL.call _ (op_call fn_12 (args1 rfl)) (c_laws_toInt64S (Ty.lift _ (Ext.trans hE32 hS34.ext) r_aLabels) hx36) rfl ?_
        rintro u37 wd38 ⟨_, rfl, he39, hs40⟩
        have hS41 := St.join hS34 he39 hs40
        replace hS41 : St wd27 wd38 [(Ty.sl (Ty.i .i64)).at u37 x35] := hS41
        have hb42 := St.rep (t := (Ty.sl (Ty.i .i64))) hS41 0 rfl
        have hE43 : Ext w wd38 := (Ext.trans hE32 hS41.ext)
        have hE44 : Ext wd2 wd38 := (Ext.trans hE33 hS41.ext)
        have hE45 : Ext wd27 wd38 := hS41.ext
        have hS46 : St wd38 wd38 [] := St.start wd38
        refine WL.val v_aPath _ (op_move rfl) rfl ?_
        obtain ⟨x47, hx48, h⟩ := bs h
        refine WL.call _ (op_call fn_12 (args1 rfl)) (c_laws_toInt64S (Ty.lift _ (Ext.trans hE43 hS46.ext) r_aPath) hx48) rfl ?_
        rintro u49 wd50 ⟨_, rfl, he51, hs52⟩
        have hS53 := St.join hS46 he51 hs52
        replace hS53 : St wd38 wd50 [(Ty.sl (Ty.i .i64)).at u49 x47] := hS53
        have hb54 := St.rep (t := (Ty.sl (Ty.i .i64))) hS53 0 rfl
        have hE55 : Ext w wd50 := (Ext.trans hE43 hS53.ext)
        have hE56 : Ext wd2 wd50 := (Ext.trans hE44 hS53.ext)
        have hE57 : Ext wd27 wd50 := (Ext.trans hE45 hS53.ext)
        have hE58 : Ext wd38 wd50 := hS53.ext
        have hS59 : St wd50 wd50 [] := St.start wd50
        obtain ⟨x60, hx61, h⟩ := bs h
        refine WL.call _ (op_call fn_16 (args3 rfl rfl rfl)) (c_spec_PathWeight (Ty.lift _ (Ext.trans hE57 hS59.ext) hb31) (Ty.lift _ (Ext.trans hE58 hS59.ext) hb42) (Ty.lift _ hS59.ext hb54) hx61) rfl ?_
        rintro _ wd64 ⟨rfl, hr62, hr63, he65⟩
        have hS67 := St.extend hS59 he65
        replace hS67 : St wd50 wd64 [] := hS67
        refine WL.val (Value.tuple #[(Value.int .i64 x60.1), (Value.int .i64 x60.2)]) _ (op_move rfl) rfl ?_
        refine WL.val (Value.int .i64 x60.1) _ (op_extract rfl rfl) rfl ?_
        refine WL.val (Value.int .i64 x60.2) _ (op_extract rfl rfl) rfl ?_
        refine WL.val (Value.int .i64 x60.1) _ (op_assign rfl) rfl ?_
        refine WL.val (Value.int .i64 x60.2) _ (op_assign rfl) rfl ?_
        refine WL.nil ?_
        show W _ _ _ _ _ _
        refine W.seq ?_
        refine W.region ?_
        refine WL.val (Value.agg #[v_aR_Table]) _ (op_loadBox st_24 rfl (BoxAt.lift (Ext.trans hE56 hS67.ext) hx6) rfl rfl) rfl ?_
        obtain ⟨x68, hx69, h⟩ := bs h
        refine WL.call _ (op_call fn_11 (args1 rfl)) (c_laws_toRing (Ty.lift _ (Ext.trans hE55 hS67.ext) r_aR_Table) hx69) rfl ?_
        rintro _ wd71 ⟨u70, rfl, he72, hs73⟩
        have hS74 := St.join hS67 he72 hs73
        replace hS74 : St wd50 wd71 [(Ty.sl (Ty.sl (Ty.sl (Ty.i .i64)))).at u70 x68] := hS74
        refine WL.alloc hS74 ze_29 (cs := [(Value.slice none 0 0)]) rfl rfl ?_
        intro b75 wd76 hS77 he78
        replace hS77 : St wd50 wd76 [(Ty.sl (Ty.sl (Ty.sl (Ty.i .i64)))).at u70 x68, bx b75 [(Value.slice none 0 0)]] := hS77
        refine WL.storeBox [u70] hS77 (k := 1) rfl rfl rfl (us := [u70]) rfl sz_29 rfl rfl (all_rep (St.rep (t := (Ty.sl (Ty.sl (Ty.sl (Ty.i .i64))))) hS77 0 rfl) all_nil) rfl ?_
        intro wd79 hS80
        replace hS80 : St wd50 wd79 [(Ty.sl (Ty.sl (Ty.sl (Ty.i .i64)))).at u70 x68, bx b75 [u70]] := hS80
        refine WL.nil ?_
        show W _ _ _ _ _ _
        refine W.seq ?_
        refine W.region ?_
        refine WL.val v_aLabels _ (op_move rfl) rfl ?_
        obtain ⟨x81, hx82, h⟩ := bs h
        refine WL.call _ (op_call fn_12 (args1 rfl)) (c_laws_toInt64S (Ty.lift _ (Ext.trans hE55 hS80.ext) r_aLabels) hx82) rfl ?_
        rintro u83 wd84 ⟨_, rfl, he85, hs86⟩
        have hS87 := St.join hS80 he85 hs86
        replace hS87 : St wd50 wd84 [(Ty.sl (Ty.sl (Ty.sl (Ty.i .i64)))).at u70 x68, bx b75 [u70], (Ty.sl (Ty.i .i64)).at u83 x81] := hS87
        refine WL.val u83 _ (op_assign rfl) rfl ?_
        refine WL.nil ?_
        show W _ _ _ _ _ _
        refine W.seq ?_
        refine W.region ?_
        refine WL.val v_aPath _ (op_move rfl) rfl ?_
        obtain ⟨x88, hx89, h⟩ := bs h
        refine WL.call _ (op_call fn_12 (args1 rfl)) (c_laws_toInt64S (Ty.lift _ (Ext.trans hE55 hS87.ext) r_aPath) hx89) rfl ?_
        rintro u90 wd91 ⟨_, rfl, he92, hs93⟩
        have hS94 := St.join hS87 he92 hs93
        replace hS94 : St wd50 wd91 [(Ty.sl (Ty.sl (Ty.sl (Ty.i .i64)))).at u70 x68, bx b75 [u70], (Ty.sl (Ty.i .i64)).at u83 x81, (Ty.sl (Ty.i .i64)).at u90 x88] := hS94
        refine WL.val u90 _ (op_assign rfl) rfl ?_
        refine WL.nil ?_
        show W _ _ _ _ _ _
        refine W.seq ?_
        refine W.region ?_
        refine WL.val (Value.agg #[u70]) _ (op_loadBox st_29 rfl (St.boxAt hS94 1 rfl) rfl rfl) rfl ?_
        refine WL.val u83 _ (op_move rfl) rfl ?_
        refine WL.val u90 _ (op_move rfl) rfl ?_
        obtain ⟨x95, hx96, h⟩ := bs h
        refine WL.call _ (op_call fn_17 (args3 rfl rfl rfl)) (c_impl_PathWeight (St.rep (t := (Ty.sl (Ty.sl (Ty.sl (Ty.i .i64))))) hS94 0 rfl) (St.rep (t := (Ty.sl (Ty.i .i64))) hS94 2 rfl) (St.rep (t := (Ty.sl (Ty.i .i64))) hS94 3 rfl) hx96) rfl ?_
        rintro _ wd99 ⟨rfl, hr97, hr98, he100⟩
        have hS102 := St.extend hS94 he100
        replace hS102 : St wd50 wd99 [(Ty.sl (Ty.sl (Ty.sl (Ty.i .i64)))).at u70 x68, bx b75 [u70], (Ty.sl (Ty.i .i64)).at u83 x81, (Ty.sl (Ty.i .i64)).at u90 x88] := hS102
        refine WL.val (Value.tuple #[(Value.int .i64 x95.1), (Value.int .i64 x95.2)]) _ (op_move rfl) rfl ?_
        refine WL.val (Value.int .i64 x95.1) _ (op_extract rfl rfl) rfl ?_
        refine WL.val (Value.int .i64 x95.2) _ (op_extract rfl rfl) rfl ?_
        refine WL.val (Value.int .i64 x95.1) _ (op_assign rfl) rfl ?_
        refine WL.val (Value.int .i64 x95.2) _ (op_assign rfl) rfl ?_
        refine WL.nil ?_
        show W _ _ _ _ _ _
        refine W.seq ?_
        refine W.seq ?_
        refine W.region ?_
        refine WL.val (Value.int .i64 x95.1) _ (op_move rfl) rfl ?_
        refine WL.val (Value.int .i64 x60.1) _ (op_move rfl) rfl ?_
        refine WL.val (Value.bool (x95.1 != x60.1)) _ (op_neq rfl rfl) rfl ?_
        refine WL.val (Value.bool (x95.1 != x60.1)) _ (op_move rfl) rfl ?_
        refine WL.cut 4 (fun fq wq => fq 1 = v_aLabels ∧ fq 2 = v_aPath ∧ fq 3 = (Value.pointer (some ⟨b1, 0, none⟩)) ∧ fq 10 = (Value.pointer (some ⟨b75, 0, none⟩)) ∧ fq 11 = u83 ∧ fq 12 = u90 ∧ fq 56 = (Value.bool ((x95.1 != x60.1) || (x95.2 != x60.2))) ∧ St wd50 wq [(Ty.sl (Ty.sl (Ty.sl (Ty.i .i64)))).at u70 x68, bx b75 [u70], (Ty.sl (Ty.i .i64)).at u83 x81, (Ty.sl (Ty.i .i64)).at u90 x88]) ?_ ?_
        · rcases Bool.eq_false_or_eq_true (x95.1 != x60.1) with hc103 | hc103
          · refine WL.gskip rfl (bool_of rfl hc103) rfl ?_
            refine WL.gskip rfl (bool_of rfl hc103) rfl ?_
            refine WL.gskip rfl (bool_of rfl hc103) rfl ?_
            refine WL.val (Value.bool true) _ (op_pick_t (evb_of rfl hc103) rfl) rfl ?_
            refine WL.nil ?_
            exact ⟨rfl, rfl, rfl, rfl, rfl, rfl, rfl, (orT hc103), hS102⟩
          · refine WL.grun rfl (bool_of rfl hc103) ?_
            refine WL.val (Value.int .i64 x95.2) _ (op_move rfl) rfl ?_
            refine WL.grun rfl (bool_of rfl hc103) ?_
            refine WL.val (Value.int .i64 x60.2) _ (op_move rfl) rfl ?_
            refine WL.grun rfl (bool_of rfl hc103) ?_
            refine WL.val (Value.bool (x95.2 != x60.2)) _ (op_neq rfl rfl) rfl ?_
            refine WL.val (Value.bool (x95.2 != x60.2)) _ (op_pick_f (evb_of rfl hc103) rfl) rfl ?_
            refine WL.nil ?_
            exact ⟨rfl, rfl, rfl, rfl, rfl, rfl, rfl, (orF hc103), hS102⟩
        · intro f104 wd105 hq106
          obtain ⟨hf107, hf108, hf109, hf110, hf111, hf112, hf113, hS114⟩ := hq106
          refine WL.nil ?_
          show W _ _ _ _ _ _
          refine W.cond ((x95.1 != x60.1) || (x95.2 != x60.2)) hf113 (fun hc115 => ?_) (fun hc115 => ?_)
          · replace h := ip h hc115
            refine W.seq ?_
            refine W.region ?_
            refine WL.val (Value.bool false) _ (op_assign rfl) rfl ?_
            refine WL.nil ?_
            show W _ _ _ _ _ _
            refine W.ret ?_
            obtain rfl := Option.some.inj h
            show FinP _ _ _ _ _ _ _
            exact FinP.ret _ (res1 rfl rfl) ⟨rfl, (Ext.trans hE55 hS114.ext)⟩
          · replace h := inegb h hc115
            refine W.skip ?_
            show W _ _ _ _ _ _
            refine W.seq ?_
            refine W.seq ?_
            obtain ⟨x143, hx144, h⟩ := bs h
            refine W.drawR mixo 3 [] [fun _ v S w' => ∃ (uu0 : Value), v = (Value.agg #[uu0]) ∧ (Ty.sl (Ty.sl (Ty.sl (Ty.i .i64)))).rep w' uu0 x68, fun _ v S w' => ∃ (uu0 : Value), v = (Value.agg #[uu0]) ∧ (Ty.sl (Ty.sl (Ty.sl (Ty.i .i64)))).rep w' uu0 aR_Table, fun _ v S w' => ∃ (uu0 : Value), v = (Value.agg #[uu0]) ∧ SepS S w' [(Ty.sl (Ty.sl (Ty.sl (Ty.i .i64)))).at uu0 x143]] (by kernel_rfl) (by kernel_rfl) ⟨⟨fun _ _ _ _ _ he ⟨uu0, h0, r0⟩ => ⟨uu0, h0, Ty.lift _ he r0⟩, fun _ _ _ _ _ _ h => h⟩, ⟨fun _ _ _ _ _ he ⟨uu0, h0, r0⟩ => ⟨uu0, h0, Ty.lift _ he r0⟩, fun _ _ _ _ _ _ h => h⟩, ⟨fun _ _ _ _ _ he ⟨uu0, h0, r0⟩ => ⟨uu0, h0, SepS.extend he r0⟩, fun _ _ _ _ _ _ h => h⟩, trivial⟩ ⟨?_, ?_, ?_, trivial⟩ ?_
            · refine ObX.op rfl ?_
              intro f117 wd118 he119 hout120 hphi121
              have hS122 : St wd50 wd118 [(Ty.sl (Ty.sl (Ty.sl (Ty.i .i64)))).at u70 x68, bx b75 [u70], (Ty.sl (Ty.i .i64)).at u83 x81, (Ty.sl (Ty.i .i64)).at u90 x88] := St.extend hS114 he119
              have e123 : f117 10 = (Value.pointer (some ⟨b75, 0, none⟩)) := (hout120 10 rfl).trans hf110
              exact OpX.val (Value.agg #[u70]) wd118 rfl (op_loadBox st_29 e123 (St.boxAt hS122 1 rfl) rfl rfl) (Ext.refl _) ⟨u70, rfl, (St.rep (t := (Ty.sl (Ty.sl (Ty.sl (Ty.i .i64))))) hS122 0 rfl)⟩
            · refine ObX.op rfl ?_
              intro f124 wd125 he126 hout127 hphi128
              have hS129 : St wd50 wd125 [(Ty.sl (Ty.sl (Ty.sl (Ty.i .i64)))).at u70 x68, bx b75 [u70], (Ty.sl (Ty.i .i64)).at u83 x81, (Ty.sl (Ty.i .i64)).at u90 x88] := St.extend hS114 he126
              have e130 : f124 3 = (Value.pointer (some ⟨b1, 0, none⟩)) := (hout127 3 rfl).trans hf109
              exact OpX.val (Value.agg #[v_aR_Table]) wd125 rfl (op_loadBox st_24 e130 (BoxAt.lift (Ext.trans hE56 hS129.ext) hx6) rfl rfl) (Ext.refl _) ⟨v_aR_Table, rfl, (Ty.lift _ (Ext.trans hE55 hS129.ext) r_aR_Table)⟩
            · refine ObX.op rfl ?_
              intro f131 wd132 he133 hout134 hphi135
              have hS136 : St wd50 wd132 [(Ty.sl (Ty.sl (Ty.sl (Ty.i .i64)))).at u70 x68, bx b75 [u70], (Ty.sl (Ty.i .i64)).at u83 x81, (Ty.sl (Ty.i .i64)).at u90 x88] := St.extend hS114 he133
              obtain ⟨S137, hS138, hf139⟩ := hphi135 1 58 _ rfl rfl rfl
              obtain ⟨u141, e140, hr142⟩ := hf139
              refine OpX.call rfl (op_call fn_11 (args1 e140)) (Ret.mono (c_laws_toRing hr142 hx144) ?_)
              rintro _ wd146 ⟨u145, rfl, he147, hs148⟩
              exact ⟨he147, _, newS _ _, ⟨u145, rfl, (Sep.new hs148)⟩⟩
            · intro f149 wd150 Ss151 he152 hout153 hSn154 hSd155 hphi156
              show WL _ _ _ _ _ _ _
              have hS157 : St wd50 wd150 [(Ty.sl (Ty.sl (Ty.sl (Ty.i .i64)))).at u70 x68, bx b75 [u70], (Ty.sl (Ty.i .i64)).at u83 x81, (Ty.sl (Ty.i .i64)).at u90 x88] := St.extend hS114 he152
              obtain ⟨u159, e158, hr160⟩ := hphi156 0 57 _ (by decide) rfl rfl
              obtain ⟨u162, e161, e161s⟩ := hphi156 2 59 _ (by decide) rfl rfl
              have e163 : f149 1 = v_aLabels := (hout153 1 rfl).trans hf107
              have e164 : f149 2 = v_aPath := (hout153 2 rfl).trans hf108
              have e165 : f149 11 = u83 := (hout153 11 rfl).trans hf111
              have e166 : f149 12 = u90 := (hout153 12 rfl).trans hf112
              have hS167 := St.joinS hS114 he152 hSn154 (SepS.consS hSd155 rfl e161s SepS.nilS)
              replace hS167 : St wd50 wd150 [(Ty.sl (Ty.sl (Ty.sl (Ty.i .i64)))).at u70 x68, bx b75 [u70], (Ty.sl (Ty.i .i64)).at u83 x81, (Ty.sl (Ty.i .i64)).at u90 x88, (Ty.sl (Ty.sl (Ty.sl (Ty.i .i64)))).at u162 x143] := hS167
              obtain ⟨x168, hx169, h⟩ := bs h
              refine WL.call _ (op_call fn_14 (args2 e158 e161)) (c_laws_eqRing hr160 (St.rep (t := (Ty.sl (Ty.sl (Ty.sl (Ty.i .i64))))) hS167 4 rfl) hx169) rfl ?_
              rintro _ wd170 ⟨rfl, he171⟩
              have hS173 := St.extend hS167 he171
              replace hS173 : St wd50 wd170 [(Ty.sl (Ty.sl (Ty.sl (Ty.i .i64)))).at u70 x68, bx b75 [u70], (Ty.sl (Ty.i .i64)).at u83 x81, (Ty.sl (Ty.i .i64)).at u90 x88, (Ty.sl (Ty.sl (Ty.sl (Ty.i .i64)))).at u162 x143] := hS173
              refine WL.val (Value.bool (!x168)) _ (op_not rfl) rfl ?_
              refine WL.nil ?_
              show W _ _ _ _ _ _
              refine W.cond (!x168) rfl (fun hc174 => ?_) (fun hc174 => ?_)
              · replace h := ip h hc174
                refine W.seq ?_
                refine W.region ?_
                refine WL.val (Value.bool false) _ (op_assign rfl) rfl ?_
                refine WL.nil ?_
                show W _ _ _ _ _ _
                refine W.ret ?_
                obtain rfl := Option.some.inj h
                show FinP _ _ _ _ _ _ _
                exact FinP.ret _ (res1 rfl rfl) ⟨rfl, (Ext.trans hE55 hS173.ext)⟩
              · replace h := inegb h hc174
                refine W.skip ?_
                show W _ _ _ _ _ _
                refine W.seq ?_
                refine W.seq ?_
                refine W.region ?_
                refine WL.val u83 _ (op_move e165) rfl ?_
                refine WL.val v_aLabels _ (op_move e163) rfl ?_
                obtain ⟨x176, hx177, h⟩ := bs h
                refine WL.call _ (op_call fn_12 (args1 rfl)) (c_laws_toInt64S (Ty.lift _ (Ext.trans hE55 hS173.ext) r_aLabels) hx177) rfl ?_
                rintro u178 wd179 ⟨_, rfl, he180, hs181⟩
                have hS182 := St.join hS173 he180 hs181
                replace hS182 : St wd50 wd179 [(Ty.sl (Ty.sl (Ty.sl (Ty.i .i64)))).at u70 x68, bx b75 [u70], (Ty.sl (Ty.i .i64)).at u83 x81, (Ty.sl (Ty.i .i64)).at u90 x88, (Ty.sl (Ty.sl (Ty.sl (Ty.i .i64)))).at u162 x143, (Ty.sl (Ty.i .i64)).at u178 x176] := hS182
                obtain ⟨x183, hx184, h⟩ := bs h
                refine WL.call _ (op_call fn_15 (args2 rfl rfl)) (c_laws_eqInt64S (St.rep (t := (Ty.sl (Ty.i .i64))) hS182 2 rfl) (St.rep (t := (Ty.sl (Ty.i .i64))) hS182 5 rfl) hx184) rfl ?_
                rintro _ wd185 ⟨rfl, he186⟩
                have hS188 := St.extend hS182 he186
                replace hS188 : St wd50 wd185 [(Ty.sl (Ty.sl (Ty.sl (Ty.i .i64)))).at u70 x68, bx b75 [u70], (Ty.sl (Ty.i .i64)).at u83 x81, (Ty.sl (Ty.i .i64)).at u90 x88, (Ty.sl (Ty.sl (Ty.sl (Ty.i .i64)))).at u162 x143, (Ty.sl (Ty.i .i64)).at u178 x176] := hS188
                refine WL.val (Value.bool (!x183)) _ (op_not rfl) rfl ?_
                refine WL.nil ?_
                show W _ _ _ _ _ _
                refine W.cond (!x183) rfl (fun hc189 => ?_) (fun hc189 => ?_)
                · replace h := ip h hc189
                  refine W.seq ?_
                  refine W.region ?_
                  refine WL.val (Value.bool false) _ (op_assign rfl) rfl ?_
                  refine WL.nil ?_
                  show W _ _ _ _ _ _
                  refine W.ret ?_
                  obtain rfl := Option.some.inj h
                  show FinP _ _ _ _ _ _ _
                  exact FinP.ret _ (res1 rfl rfl) ⟨rfl, (Ext.trans hE55 hS188.ext)⟩
                · replace h := inegb h hc189
                  refine W.skip ?_
                  show W _ _ _ _ _ _
                  refine W.seq ?_
                  refine W.seq ?_
                  refine W.region ?_
                  refine WL.val u90 _ (op_move e166) rfl ?_
                  refine WL.val v_aPath _ (op_move e164) rfl ?_
                  obtain ⟨x191, hx192, h⟩ := bs h
                  refine WL.call _ (op_call fn_12 (args1 rfl)) (c_laws_toInt64S (Ty.lift _ (Ext.trans hE55 hS188.ext) r_aPath) hx192) rfl ?_
                  rintro u193 wd194 ⟨_, rfl, he195, hs196⟩
                  have hS197 := St.join hS188 he195 hs196
                  replace hS197 : St wd50 wd194 [(Ty.sl (Ty.sl (Ty.sl (Ty.i .i64)))).at u70 x68, bx b75 [u70], (Ty.sl (Ty.i .i64)).at u83 x81, (Ty.sl (Ty.i .i64)).at u90 x88, (Ty.sl (Ty.sl (Ty.sl (Ty.i .i64)))).at u162 x143, (Ty.sl (Ty.i .i64)).at u178 x176, (Ty.sl (Ty.i .i64)).at u193 x191] := hS197
                  obtain ⟨x198, hx199, h⟩ := bs h
                  refine WL.call _ (op_call fn_15 (args2 rfl rfl)) (c_laws_eqInt64S (St.rep (t := (Ty.sl (Ty.i .i64))) hS197 3 rfl) (St.rep (t := (Ty.sl (Ty.i .i64))) hS197 6 rfl) hx199) rfl ?_
                  rintro _ wd200 ⟨rfl, he201⟩
                  have hS203 := St.extend hS197 he201
                  replace hS203 : St wd50 wd200 [(Ty.sl (Ty.sl (Ty.sl (Ty.i .i64)))).at u70 x68, bx b75 [u70], (Ty.sl (Ty.i .i64)).at u83 x81, (Ty.sl (Ty.i .i64)).at u90 x88, (Ty.sl (Ty.sl (Ty.sl (Ty.i .i64)))).at u162 x143, (Ty.sl (Ty.i .i64)).at u178 x176, (Ty.sl (Ty.i .i64)).at u193 x191] := hS203
                  refine WL.val (Value.bool (!x198)) _ (op_not rfl) rfl ?_
                  refine WL.nil ?_
                  show W _ _ _ _ _ _
                  refine W.cond (!x198) rfl (fun hc204 => ?_) (fun hc204 => ?_)
                  · replace h := ip h hc204
                    refine W.seq ?_
                    refine W.region ?_
                    refine WL.val (Value.bool false) _ (op_assign rfl) rfl ?_
                    refine WL.nil ?_
                    show W _ _ _ _ _ _
                    refine W.ret ?_
                    obtain rfl := Option.some.inj h
                    show FinP _ _ _ _ _ _ _
                    exact FinP.ret _ (res1 rfl rfl) ⟨rfl, (Ext.trans hE55 hS203.ext)⟩
                  · replace h := inegb h hc204
                    refine W.skip ?_
                    show W _ _ _ _ _ _
                    refine W.seq ?_
                    refine W.region ?_
                    refine WL.val (Value.bool true) _ (op_assign rfl) rfl ?_
                    refine WL.nil ?_
                    show W _ _ _ _ _ _
                    refine W.ret ?_
                    obtain rfl := Option.some.inj h
                    show FinP _ _ _ _ _ _ _
                    exact FinP.ret _ (res1 rfl rfl) ⟨rfl, (Ext.trans hE55 hS203.ext)⟩

end Go.VG
