/- The walks, part 4: each Go function returns what its plain twin returns. No condition beyond what each names. -/
import Derived.Test.YtajalkfoblcaaaaGWalk3
set_option linter.all false
namespace Go.VG
open Go.Proofs
attribute [local irreducible] W WL Sep FinP

theorem c_laws_FnExactAddCocycles {w : World} {aC_Orders : (List Int)} {v_aC_Orders : Value} {aC_Modulus : Int} {aC_Values : (List (List (List Int)))} {v_aC_Values : Value} {aD_Orders : (List Int)} {v_aD_Orders : Value} {aD_Modulus : Int} {aD_Values : (List (List (List Int)))} {v_aD_Values : Value} (r_aC_Orders : (Ty.sl (Ty.i .i64)).rep w v_aC_Orders aC_Orders) (r_aC_Modulus : InR .i64 aC_Modulus) (r_aC_Values : (Ty.sl (Ty.sl (Ty.sl (Ty.i .i64)))).rep w v_aC_Values aC_Values) (r_aD_Orders : (Ty.sl (Ty.i .i64)).rep w v_aD_Orders aD_Orders) (r_aD_Modulus : InR .i64 aD_Modulus) (r_aD_Values : (Ty.sl (Ty.sl (Ty.sl (Ty.i .i64)))).rep w v_aD_Values aD_Values) {res : Bool} (h : p_laws_FnExactAddCocycles aC_Orders aC_Modulus aC_Values aD_Orders aD_Modulus aD_Values  = some res) :
    Ret Try.prog 7 #[(Value.agg #[v_aC_Orders, (Value.int .i64 aC_Modulus), v_aC_Values]), (Value.agg #[v_aD_Orders, (Value.int .i64 aD_Modulus), v_aD_Values])] w (fun v w' => v = Value.bool res ∧ Ext w w') := by
  unfold p_laws_FnExactAddCocycles at h
  have hS0 : St w w [] := St.start w
  refine Ret.start (fn := Try.f7) Try.func7 rfl 119 rfl rfl ?_
  refine W.seq (W.region ?_)
  refine WL.box hS0 rfl (cs := [v_aC_Orders, (Value.int .i64 aC_Modulus), v_aC_Values]) rfl rfl ?_
  intro b1 wd2 hS3 he4 hx5
  replace hS3 : St w wd2 [bx b1 [v_aC_Orders, (Value.int .i64 aC_Modulus), v_aC_Values]] := hS3
  have hx6 := St.boxAt hS3 0 rfl
  have hE7 : Ext w wd2 := hS3.ext
  have hS8 : St wd2 wd2 [] := St.start wd2
  refine WL.box hS8 rfl (cs := [v_aD_Orders, (Value.int .i64 aD_Modulus), v_aD_Values]) rfl rfl ?_
  intro b9 wd10 hS11 he12 hx13
  replace hS11 : St wd2 wd10 [bx b9 [v_aD_Orders, (Value.int .i64 aD_Modulus), v_aD_Values]] := hS11
  have hx14 := St.boxAt hS11 0 rfl
  have hE15 : Ext w wd10 := (Ext.trans hE7 hS11.ext)
  have hE16 : Ext wd2 wd10 := hS11.ext
  have hS17 : St wd10 wd10 [] := St.start wd10
  refine WL.val (Value.bool false) _ (op_assign rfl) rfl ?_
  refine WL.nil ?_
  show W _ _ _ _ _ _
  refine W.seq (W.region ?_)
  refine WL.val (Value.int .i64 (1048576 : Int)) _ (op_assign rfl) rfl ?_
  refine WL.nil ?_
  show W _ _ _ _ _ _
  refine W.seq (W.region ?_)
  refine WL.val (Value.agg #[v_aC_Orders, (Value.int .i64 aC_Modulus), v_aC_Values]) _ (op_loadBox st_25 rfl (BoxAt.lift (Ext.trans hE16 hS17.ext) hx6) rfl rfl) rfl ?_
  refine WL.val (Value.int .i64 (1048576 : Int)) _ (op_move rfl) rfl ?_
  obtain ⟨x18, hx19, h⟩ := bs h
  refine WL.call _ (op_call fn_8 (args2 rfl rfl)) (c_laws_szCocycle (Ty.lift _ (Ext.trans hE15 hS17.ext) r_aC_Orders) r_aC_Modulus (Ty.lift _ (Ext.trans hE15 hS17.ext) r_aC_Values) (inR_i64.2 (show (-9223372036854775808 : Int) ≤ 1048576 ∧ (1048576 : Int) ≤ 9223372036854775807 from by decide)) hx19) rfl ?_
  rintro _ wd21 ⟨rfl, hr20, he22⟩
  have hS24 := St.extend hS17 he22
  replace hS24 : St wd10 wd21 [] := hS24
  refine WL.val (Value.int .i64 x18) _ (op_assign rfl) rfl ?_
  refine WL.nil ?_
  show W _ _ _ _ _ _
  refine W.seq (W.seq (W.region ?_))
  refine WL.val (Value.int .i64 x18) _ (op_move rfl) rfl ?_
  refine WL.val (Value.bool (decide (x18 < (0 : Int)))) _ (op_lss rfl rfl) rfl ?_
  refine WL.nil ?_
  show W _ _ _ _ _ _
  refine W.cond (decide (x18 < (0 : Int))) rfl (fun hc25 => ?_) (fun hc25 => ?_)
  · replace h := ip h hc25
    refine W.seq (W.region ?_)
    refine WL.val (Value.bool true) _ (op_assign rfl) rfl ?_
    refine WL.nil ?_
    show W _ _ _ _ _ _
    refine W.ret ?_
    obtain rfl := Option.some.inj h
    show FinP _ _ _ _ _ _ _
    exact FinP.ret _ (res1 rfl rfl) ⟨rfl, (Ext.trans hE15 hS24.ext)⟩
  · replace h := inegb h hc25
    refine W.skip ?_
    show W _ _ _ _ _ _
    refine W.seq (W.region ?_)
    refine WL.val (Value.agg #[v_aD_Orders, (Value.int .i64 aD_Modulus), v_aD_Values]) _ (op_loadBox st_25 rfl (BoxAt.lift hS24.ext hx14) rfl rfl) rfl ?_
    refine WL.val (Value.int .i64 x18) _ (op_move rfl) rfl ?_
    obtain ⟨x27, hx28, h⟩ := bs h
    refine WL.call _ (op_call fn_8 (args2 rfl rfl)) (c_laws_szCocycle (Ty.lift _ (Ext.trans hE15 hS24.ext) r_aD_Orders) r_aD_Modulus (Ty.lift _ (Ext.trans hE15 hS24.ext) r_aD_Values) hr20 hx28) rfl ?_
    rintro _ wd30 ⟨rfl, hr29, he31⟩
    have hS33 := St.extend hS24 he31
    replace hS33 : St wd10 wd30 [] := hS33
    refine WL.val (Value.int .i64 x27) _ (op_assign rfl) rfl ?_
    refine WL.nil ?_
    show W _ _ _ _ _ _
    refine W.seq (W.seq (W.region ?_))
    refine WL.val (Value.int .i64 x27) _ (op_move rfl) rfl ?_
    refine WL.val (Value.bool (decide (x27 < (0 : Int)))) _ (op_lss rfl rfl) rfl ?_
    refine WL.nil ?_
    show W _ _ _ _ _ _
    refine W.cond (decide (x27 < (0 : Int))) rfl (fun hc34 => ?_) (fun hc34 => ?_)
    · replace h := ip h hc34
      refine W.seq (W.region ?_)
      refine WL.val (Value.bool true) _ (op_assign rfl) rfl ?_
      refine WL.nil ?_
      show W _ _ _ _ _ _
      refine W.ret ?_
      obtain rfl := Option.some.inj h
      show FinP _ _ _ _ _ _ _
      exact FinP.ret _ (res1 rfl rfl) ⟨rfl, (Ext.trans hE15 hS33.ext)⟩
    · replace h := inegb h hc34
      refine W.skip ?_
      show W _ _ _ _ _ _
      refine W.seq ?_
      obtain ⟨x54, hx55, h⟩ := bs h
      obtain ⟨x80, hx81, h⟩ := bs h
      obtain ⟨x108, hx109, h⟩ := bs h
      refine W.drawR mixo 9 [7] [fun _ v S w' => v = (Value.agg #[v_aC_Orders, (Value.int .i64 aC_Modulus), v_aC_Values]) ∧ InR .i64 aC_Modulus, fun _ v S w' => ∃ (uu0 : Value) (uu1 : Value), v = (Value.agg #[uu0, (Value.int .i64 x54.2.1), uu1]) ∧ InR .i64 x54.2.1 ∧ SepS S w' [(Ty.sl (Ty.i .i64)).at uu0 x54.1, (Ty.sl (Ty.sl (Ty.sl (Ty.i .i64)))).at uu1 x54.2.2], fun _ v S w' => v = (Value.agg #[v_aD_Orders, (Value.int .i64 aD_Modulus), v_aD_Values]) ∧ InR .i64 aD_Modulus, fun _ v S w' => ∃ (uu0 : Value) (uu1 : Value), v = (Value.agg #[uu0, (Value.int .i64 x80.2.1), uu1]) ∧ InR .i64 x80.2.1 ∧ SepS S w' [(Ty.sl (Ty.i .i64)).at uu0 x80.1, (Ty.sl (Ty.sl (Ty.sl (Ty.i .i64)))).at uu1 x80.2.2], fun _ v S w' => ∃ (uu0 : Value) (uu1 : Value), v = (Value.tuple #[(Value.agg #[uu0, (Value.int .i64 x108.2.1), uu1]), (Value.int .i64 x108.2.2.2)]) ∧ InR .i64 x108.2.1 ∧ InR .i64 x108.2.2.2 ∧ SepS S w' [(Ty.sl (Ty.i .i64)).at uu0 x108.1, (Ty.sl (Ty.sl (Ty.sl (Ty.i .i64)))).at uu1 x108.2.2.1], fun f v _ _ => v = f 32, fun f v _ _ => tupGet (f 27) 0 = some v, fun _ v _ _ => v = (Value.int .i64 x108.2.2.2) ∧ InR .i64 x108.2.2.2, fun _ v S w' => ∃ b : Nat, v = Value.pointer (some ⟨b, 0, none⟩) ∧ SepS S w' [bx b [(Value.slice none 0 0), (Value.int .i64 (0 : Int)), (Value.slice none 0 0)]]] (by kernel_rfl) (by kernel_rfl) ⟨⟨fun _ _ _ _ _ he ⟨h0, h1⟩ => ⟨h0, h1⟩, fun _ _ _ _ _ _ h => h⟩, ⟨fun _ _ _ _ _ he ⟨uu0, uu1, h0, h1, r0⟩ => ⟨uu0, uu1, h0, h1, SepS.extend he r0⟩, fun _ _ _ _ _ _ h => h⟩, ⟨fun _ _ _ _ _ he ⟨h0, h1⟩ => ⟨h0, h1⟩, fun _ _ _ _ _ _ h => h⟩, ⟨fun _ _ _ _ _ he ⟨uu0, uu1, h0, h1, r0⟩ => ⟨uu0, uu1, h0, h1, SepS.extend he r0⟩, fun _ _ _ _ _ _ h => h⟩, ⟨fun _ _ _ _ _ he ⟨uu0, uu1, h0, h1, h2, r0⟩ => ⟨uu0, uu1, h0, h1, h2, SepS.extend he r0⟩, fun _ _ _ _ _ _ h => h⟩, ⟨fun _ _ _ _ _ _ h => h, fun _ _ _ _ _ hf h => h.trans (hf 4 32 rfl rfl)⟩, ⟨fun _ _ _ _ _ _ h => h, fun _ _ _ _ _ hf h => (congrArg (fun x => tupGet x 0) (hf 5 27 rfl rfl)).symm.trans h⟩, ⟨fun _ _ _ _ _ _ h => h, fun _ _ _ _ _ _ h => h⟩, ⟨fun _ _ _ _ _ he ⟨b, h1, h2⟩ => ⟨b, h1, SepS.extend he h2⟩, fun _ _ _ _ _ _ h => h⟩, trivial⟩ ⟨?_, ?_, ?_, ?_, ?_, ?_, ?_, ?_, ?_, trivial⟩ ?_
      · refine ObX.op rfl ?_
        intro f36 wd37 he38 hout39 hphi40
        have hS41 : St wd10 wd37 [] := St.extend hS33 he38
        have e42 : f36 2 = (Value.pointer (some ⟨b1, 0, none⟩)) := (hout39 2 rfl).trans rfl
        exact OpX.val (Value.agg #[v_aC_Orders, (Value.int .i64 aC_Modulus), v_aC_Values]) wd37 rfl (op_loadBox st_25 e42 (BoxAt.lift (Ext.trans hE16 hS41.ext) hx6) rfl rfl) (Ext.refl _) ⟨rfl, r_aC_Modulus⟩
      · refine ObX.op rfl ?_
        intro f43 wd44 he45 hout46 hphi47
        have hS48 : St wd10 wd44 [] := St.extend hS33 he45
        obtain ⟨S49, hS50, hf51⟩ := hphi47 0 28 _ rfl rfl rfl
        obtain ⟨e52, hr53⟩ := hf51
        refine OpX.call rfl (op_call fn_10 (args1 e52)) (Ret.mono (c_laws_toCocycle (Ty.lift _ (Ext.trans hE15 hS48.ext) r_aC_Orders) hr53 (Ty.lift _ (Ext.trans hE15 hS48.ext) r_aC_Values) hx55) ?_)
        rintro _ wd59 ⟨u56, u58, rfl, hr57, he60, hs61⟩
        exact ⟨he60, _, newS _ _, ⟨u56, u58, rfl, hr57, (Sep.new hs61)⟩⟩
      · refine ObX.op rfl ?_
        intro f62 wd63 he64 hout65 hphi66
        have hS67 : St wd10 wd63 [] := St.extend hS33 he64
        have e68 : f62 3 = (Value.pointer (some ⟨b9, 0, none⟩)) := (hout65 3 rfl).trans rfl
        exact OpX.val (Value.agg #[v_aD_Orders, (Value.int .i64 aD_Modulus), v_aD_Values]) wd63 rfl (op_loadBox st_25 e68 (BoxAt.lift hS67.ext hx14) rfl rfl) (Ext.refl _) ⟨rfl, r_aD_Modulus⟩
      · refine ObX.op rfl ?_
        intro f69 wd70 he71 hout72 hphi73
        have hS74 : St wd10 wd70 [] := St.extend hS33 he71
        obtain ⟨S75, hS76, hf77⟩ := hphi73 2 30 _ rfl rfl rfl
        obtain ⟨e78, hr79⟩ := hf77
        refine OpX.call rfl (op_call fn_10 (args1 e78)) (Ret.mono (c_laws_toCocycle (Ty.lift _ (Ext.trans hE15 hS74.ext) r_aD_Orders) hr79 (Ty.lift _ (Ext.trans hE15 hS74.ext) r_aD_Values) hx81) ?_)
        rintro _ wd85 ⟨u82, u84, rfl, hr83, he86, hs87⟩
        exact ⟨he86, _, newS _ _, ⟨u82, u84, rfl, hr83, (Sep.new hs87)⟩⟩
      · refine ObX.op rfl ?_
        intro f88 wd89 he90 hout91 hphi92
        have hS93 : St wd10 wd89 [] := St.extend hS33 he90
        obtain ⟨S94, hS95, hf96⟩ := hphi92 1 29 _ rfl rfl rfl
        obtain ⟨u98, u100, e97, hr99, e97s⟩ := hf96
        obtain ⟨S101, hS102, hf103⟩ := hphi92 3 31 _ rfl rfl rfl
        obtain ⟨u105, u107, e104, hr106, e104s⟩ := hf103
        refine OpX.call rfl (op_call fn_33 (args2 e97 e104)) (Ret.mono (c_spec_AddCocycles (SepS.rep (t := (Ty.sl (Ty.i .i64))) e97s 0 rfl) hr99 (SepS.rep (t := (Ty.sl (Ty.sl (Ty.sl (Ty.i .i64))))) e97s 1 rfl) (SepS.rep (t := (Ty.sl (Ty.i .i64))) e104s 0 rfl) hr106 (SepS.rep (t := (Ty.sl (Ty.sl (Ty.sl (Ty.i .i64))))) e104s 1 rfl) hx109) ?_)
        rintro _ wd114 ⟨u110, u112, rfl, hr111, hr113, he115, hs116⟩
        exact ⟨he115, _, newS _ _, ⟨u110, u112, rfl, hr111, hr113, (Sep.new hs116)⟩⟩
      · refine ObX.op rfl ?_
        intro f117 wd118 he119 hout120 hphi121
        have hS122 : St wd10 wd118 [] := St.extend hS33 he119
        obtain ⟨S123, hS124, hf125⟩ := hphi121 4 32 _ rfl rfl rfl
        obtain ⟨u127, u129, e126, hr128, hr130, e126s⟩ := hf125
        exact OpX.val (f117 32) wd118 rfl (op_move rfl) (Ext.refl _) rfl
      · refine ObX.op rfl ?_
        intro f131 wd132 he133 hout134 hphi135
        have hS136 : St wd10 wd132 [] := St.extend hS33 he133
        obtain ⟨S140, hS141, hf142⟩ := hphi135 4 32 _ rfl rfl rfl
        obtain ⟨u144, u146, e143, hr145, hr147, e143s⟩ := hf142
        obtain ⟨S137, hS138, hf139⟩ := hphi135 5 27 _ rfl rfl rfl
        have e148 : f131 27 = (Value.tuple #[(Value.agg #[u144, (Value.int .i64 x108.2.1), u146]), (Value.int .i64 x108.2.2.2)]) := Eq.trans hf139 e143
        exact OpX.val (Value.agg #[u144, (Value.int .i64 x108.2.1), u146]) wd132 rfl (op_extract e148 rfl) (Ext.refl _) (congrArg (fun x => tupGet x 0) e148)
      · refine ObX.fl rfl ?_
        intro f149 wd150 he151 hout152 hphi153
        have hS154 : St wd10 wd150 [] := St.extend hS33 he151
        obtain ⟨S158, hS159, hf160⟩ := hphi153 4 32 _ rfl rfl rfl
        obtain ⟨u162, u164, e161, hr163, hr165, e161s⟩ := hf160
        obtain ⟨S155, hS156, hf157⟩ := hphi153 5 27 _ rfl rfl rfl
        have e166 : f149 27 = (Value.tuple #[(Value.agg #[u162, (Value.int .i64 x108.2.1), u164]), (Value.int .i64 x108.2.2.2)]) := Eq.trans hf157 e161
        exact ⟨rfl, (Value.int .i64 x108.2.2.2), fun _ => (op_extract e166 rfl), ⟨rfl, hr165⟩⟩
      · refine ObX.op rfl ?_
        intro f167 wd168 he169 hout170 hphi171
        have hS172 : St wd10 wd168 [] := St.extend hS33 he169
        exact OpX.valO _ _ rfl (op_alloc (cs := [(Value.slice none 0 0), (Value.int .i64 (0 : Int)), (Value.slice none 0 0)].toArray) ze_30 rfl) (Ext.alloc _ _) ⟨_, rfl, Sep.new (sep_box _ [(Value.slice none 0 0), (Value.int .i64 (0 : Int)), (Value.slice none 0 0)] _)⟩
      · intro f173 wd174 Ss175 he176 hout177 hSn178 hSd179 hphi180
        show WL _ _ _ _ _ _ _
        have hS181 : St wd10 wd174 [] := St.extend hS33 he176
        obtain ⟨u183, u185, e182, hr184, hr186, e182s⟩ := hphi180 4 32 _ (by decide) rfl rfl
        have e187 : f173 27 = (Value.tuple #[(Value.agg #[u183, (Value.int .i64 x108.2.1), u185]), (Value.int .i64 x108.2.2.2)]) := Eq.trans (hphi180 5 27 _ (by decide) rfl rfl) e182
        have e188 : f173 33 = (Value.agg #[u183, (Value.int .i64 x108.2.1), u185]) := Option.some.inj (Eq.trans (Eq.symm (hphi180 6 33 _ (by decide) rfl rfl)) (congrArg (fun x => tupGet x 0) e187))
        obtain ⟨e189, hr190⟩ : f173 34 = (Value.int .i64 x108.2.2.2) ∧ InR .i64 x108.2.2.2 := hphi180 7 34 _ (by decide) rfl rfl
        obtain ⟨b192, e191, e191s⟩ : ∃ b : Nat, f173 6 = Value.pointer (some ⟨b, 0, none⟩) ∧ SepS (Ss175 8) wd174 [bx b [(Value.slice none 0 0), (Value.int .i64 (0 : Int)), (Value.slice none 0 0)]] := hphi180 8 6 _ (by decide) rfl rfl
        have e193 : f173 2 = (Value.pointer (some ⟨b1, 0, none⟩)) := (hout177 2 rfl).trans rfl
        have e194 : f173 3 = (Value.pointer (some ⟨b9, 0, none⟩)) := (hout177 3 rfl).trans rfl
        have hS195 := St.joinS hS33 he176 hSn178 (SepS.consS hSd179 rfl e191s (SepS.consS hSd179 rfl e182s SepS.nilS))
        replace hS195 : St wd10 wd174 [bx b192 [(Value.slice none 0 0), (Value.int .i64 (0 : Int)), (Value.slice none 0 0)], (Ty.sl (Ty.i .i64)).at u183 x108.1, (Ty.sl (Ty.sl (Ty.sl (Ty.i .i64)))).at u185 x108.2.2.1] := hS195
        refine WL.storeBox [u183, (Value.int .i64 x108.2.1), u185] hS195 (k := 0) rfl e191 e188 (us := [u183, (Value.int .i64 x108.2.1), u185]) rfl sz_30 rfl rfl (all_rep (St.rep (t := (Ty.sl (Ty.i .i64))) hS195 1 rfl) (all_cons rfl (all_rep (St.rep (t := (Ty.sl (Ty.sl (Ty.sl (Ty.i .i64))))) hS195 2 rfl) all_nil))) rfl ?_
        intro wd196 hS197
        replace hS197 : St wd10 wd196 [bx b192 [u183, (Value.int .i64 x108.2.1), u185], (Ty.sl (Ty.i .i64)).at u183 x108.1, (Ty.sl (Ty.sl (Ty.sl (Ty.i .i64)))).at u185 x108.2.2.1] := hS197
        refine WL.val (Value.int .i64 x108.2.2.2) _ (op_assign e189) rfl ?_
        refine WL.nil ?_
        show W _ _ _ _ _ _
        refine W.seq (W.region ?_)
        refine WL.val (Value.agg #[v_aC_Orders, (Value.int .i64 aC_Modulus), v_aC_Values]) _ (op_loadBox st_25 e193 (BoxAt.lift (Ext.trans hE16 hS197.ext) hx6) rfl rfl) rfl ?_
        obtain ⟨x198, hx199, h⟩ := bs h
        refine WL.call _ (op_call fn_10 (args1 rfl)) (c_laws_toCocycle (Ty.lift _ (Ext.trans hE15 hS197.ext) r_aC_Orders) r_aC_Modulus (Ty.lift _ (Ext.trans hE15 hS197.ext) r_aC_Values) hx199) rfl ?_
        rintro _ wd203 ⟨u200, u202, rfl, hr201, he204, hs205⟩
        have hS206 := St.join hS197 he204 hs205
        replace hS206 : St wd10 wd203 [bx b192 [u183, (Value.int .i64 x108.2.1), u185], (Ty.sl (Ty.i .i64)).at u183 x108.1, (Ty.sl (Ty.sl (Ty.sl (Ty.i .i64)))).at u185 x108.2.2.1, (Ty.sl (Ty.i .i64)).at u200 x198.1, (Ty.sl (Ty.sl (Ty.sl (Ty.i .i64)))).at u202 x198.2.2] := hS206
        refine WL.alloc hS206 ze_30 (cs := [(Value.slice none 0 0), (Value.int .i64 (0 : Int)), (Value.slice none 0 0)]) rfl rfl ?_
        intro b207 wd208 hS209 he210
        replace hS209 : St wd10 wd208 [bx b192 [u183, (Value.int .i64 x108.2.1), u185], (Ty.sl (Ty.i .i64)).at u183 x108.1, (Ty.sl (Ty.sl (Ty.sl (Ty.i .i64)))).at u185 x108.2.2.1, (Ty.sl (Ty.i .i64)).at u200 x198.1, (Ty.sl (Ty.sl (Ty.sl (Ty.i .i64)))).at u202 x198.2.2, bx b207 [(Value.slice none 0 0), (Value.int .i64 (0 : Int)), (Value.slice none 0 0)]] := hS209
        refine WL.storeBox [u200, (Value.int .i64 x198.2.1), u202] hS209 (k := 5) rfl rfl rfl (us := [u200, (Value.int .i64 x198.2.1), u202]) rfl sz_30 rfl rfl (all_rep (St.rep (t := (Ty.sl (Ty.i .i64))) hS209 3 rfl) (all_cons rfl (all_rep (St.rep (t := (Ty.sl (Ty.sl (Ty.sl (Ty.i .i64))))) hS209 4 rfl) all_nil))) rfl ?_
        intro wd211 hS212
        replace hS212 : St wd10 wd211 [bx b192 [u183, (Value.int .i64 x108.2.1), u185], (Ty.sl (Ty.i .i64)).at u183 x108.1, (Ty.sl (Ty.sl (Ty.sl (Ty.i .i64)))).at u185 x108.2.2.1, (Ty.sl (Ty.i .i64)).at u200 x198.1, (Ty.sl (Ty.sl (Ty.sl (Ty.i .i64)))).at u202 x198.2.2, bx b207 [u200, (Value.int .i64 x198.2.1), u202]] := hS212
        refine WL.nil ?_
        show W _ _ _ _ _ _
        refine W.seq (W.region ?_)
        refine WL.val (Value.agg #[v_aD_Orders, (Value.int .i64 aD_Modulus), v_aD_Values]) _ (op_loadBox st_25 e194 (BoxAt.lift hS212.ext hx14) rfl rfl) rfl ?_
        obtain ⟨x213, hx214, h⟩ := bs h
        refine WL.call _ (op_call fn_10 (args1 rfl)) (c_laws_toCocycle (Ty.lift _ (Ext.trans hE15 hS212.ext) r_aD_Orders) r_aD_Modulus (Ty.lift _ (Ext.trans hE15 hS212.ext) r_aD_Values) hx214) rfl ?_
        rintro _ wd218 ⟨u215, u217, rfl, hr216, he219, hs220⟩
        have hS221 := St.join hS212 he219 hs220
        replace hS221 : St wd10 wd218 [bx b192 [u183, (Value.int .i64 x108.2.1), u185], (Ty.sl (Ty.i .i64)).at u183 x108.1, (Ty.sl (Ty.sl (Ty.sl (Ty.i .i64)))).at u185 x108.2.2.1, (Ty.sl (Ty.i .i64)).at u200 x198.1, (Ty.sl (Ty.sl (Ty.sl (Ty.i .i64)))).at u202 x198.2.2, bx b207 [u200, (Value.int .i64 x198.2.1), u202], (Ty.sl (Ty.i .i64)).at u215 x213.1, (Ty.sl (Ty.sl (Ty.sl (Ty.i .i64)))).at u217 x213.2.2] := hS221
        refine WL.alloc hS221 ze_30 (cs := [(Value.slice none 0 0), (Value.int .i64 (0 : Int)), (Value.slice none 0 0)]) rfl rfl ?_
        intro b222 wd223 hS224 he225
        replace hS224 : St wd10 wd223 [bx b192 [u183, (Value.int .i64 x108.2.1), u185], (Ty.sl (Ty.i .i64)).at u183 x108.1, (Ty.sl (Ty.sl (Ty.sl (Ty.i .i64)))).at u185 x108.2.2.1, (Ty.sl (Ty.i .i64)).at u200 x198.1, (Ty.sl (Ty.sl (Ty.sl (Ty.i .i64)))).at u202 x198.2.2, bx b207 [u200, (Value.int .i64 x198.2.1), u202], (Ty.sl (Ty.i .i64)).at u215 x213.1, (Ty.sl (Ty.sl (Ty.sl (Ty.i .i64)))).at u217 x213.2.2, bx b222 [(Value.slice none 0 0), (Value.int .i64 (0 : Int)), (Value.slice none 0 0)]] := hS224
        refine WL.storeBox [u215, (Value.int .i64 x213.2.1), u217] hS224 (k := 8) rfl rfl rfl (us := [u215, (Value.int .i64 x213.2.1), u217]) rfl sz_30 rfl rfl (all_rep (St.rep (t := (Ty.sl (Ty.i .i64))) hS224 6 rfl) (all_cons rfl (all_rep (St.rep (t := (Ty.sl (Ty.sl (Ty.sl (Ty.i .i64))))) hS224 7 rfl) all_nil))) rfl ?_
        intro wd226 hS227
        replace hS227 : St wd10 wd226 [bx b192 [u183, (Value.int .i64 x108.2.1), u185], (Ty.sl (Ty.i .i64)).at u183 x108.1, (Ty.sl (Ty.sl (Ty.sl (Ty.i .i64)))).at u185 x108.2.2.1, (Ty.sl (Ty.i .i64)).at u200 x198.1, (Ty.sl (Ty.sl (Ty.sl (Ty.i .i64)))).at u202 x198.2.2, bx b207 [u200, (Value.int .i64 x198.2.1), u202], (Ty.sl (Ty.i .i64)).at u215 x213.1, (Ty.sl (Ty.sl (Ty.sl (Ty.i .i64)))).at u217 x213.2.2, bx b222 [u215, (Value.int .i64 x213.2.1), u217]] := hS227
        refine WL.nil ?_
        show W _ _ _ _ _ _
        refine W.seq (W.region ?_)
        refine WL.val (Value.agg #[u200, (Value.int .i64 x198.2.1), u202]) _ (op_loadBox st_30 rfl (St.boxAt hS227 5 rfl) rfl rfl) rfl ?_
        refine WL.val (Value.agg #[u215, (Value.int .i64 x213.2.1), u217]) _ (op_loadBox st_30 rfl (St.boxAt hS227 8 rfl) rfl rfl) rfl ?_
        obtain ⟨x228, hx229, h⟩ := bs h
        refine WL.call _ (op_call fn_34 (args2 rfl rfl)) (c_impl_AddCocycles (St.rep (t := (Ty.sl (Ty.i .i64))) hS227 3 rfl) hr201 (St.rep (t := (Ty.sl (Ty.sl (Ty.sl (Ty.i .i64))))) hS227 4 rfl) (St.rep (t := (Ty.sl (Ty.i .i64))) hS227 6 rfl) hr216 (St.rep (t := (Ty.sl (Ty.sl (Ty.sl (Ty.i .i64))))) hS227 7 rfl) hx229) rfl ?_
        rintro _ wd234 ⟨u230, u232, rfl, hr231, hr233, he235, hs236⟩
        have hS237 := St.join hS227 he235 hs236
        replace hS237 : St wd10 wd234 [bx b192 [u183, (Value.int .i64 x108.2.1), u185], (Ty.sl (Ty.i .i64)).at u183 x108.1, (Ty.sl (Ty.sl (Ty.sl (Ty.i .i64)))).at u185 x108.2.2.1, (Ty.sl (Ty.i .i64)).at u200 x198.1, (Ty.sl (Ty.sl (Ty.sl (Ty.i .i64)))).at u202 x198.2.2, bx b207 [u200, (Value.int .i64 x198.2.1), u202], (Ty.sl (Ty.i .i64)).at u215 x213.1, (Ty.sl (Ty.sl (Ty.sl (Ty.i .i64)))).at u217 x213.2.2, bx b222 [u215, (Value.int .i64 x213.2.1), u217], (Ty.sl (Ty.i .i64)).at u230 x228.1, (Ty.sl (Ty.sl (Ty.sl (Ty.i .i64)))).at u232 x228.2.2.1] := hS237
        refine WL.val (Value.tuple #[(Value.agg #[u230, (Value.int .i64 x228.2.1), u232]), (Value.int .i64 x228.2.2.2)]) _ (op_move rfl) rfl ?_
        refine WL.val (Value.agg #[u230, (Value.int .i64 x228.2.1), u232]) _ (op_extract rfl rfl) rfl ?_
        refine WL.val (Value.int .i64 x228.2.2.2) _ (op_extract rfl rfl) rfl ?_
        refine WL.alloc hS237 ze_30 (cs := [(Value.slice none 0 0), (Value.int .i64 (0 : Int)), (Value.slice none 0 0)]) rfl rfl ?_
        intro b238 wd239 hS240 he241
        replace hS240 : St wd10 wd239 [bx b192 [u183, (Value.int .i64 x108.2.1), u185], (Ty.sl (Ty.i .i64)).at u183 x108.1, (Ty.sl (Ty.sl (Ty.sl (Ty.i .i64)))).at u185 x108.2.2.1, (Ty.sl (Ty.i .i64)).at u200 x198.1, (Ty.sl (Ty.sl (Ty.sl (Ty.i .i64)))).at u202 x198.2.2, bx b207 [u200, (Value.int .i64 x198.2.1), u202], (Ty.sl (Ty.i .i64)).at u215 x213.1, (Ty.sl (Ty.sl (Ty.sl (Ty.i .i64)))).at u217 x213.2.2, bx b222 [u215, (Value.int .i64 x213.2.1), u217], (Ty.sl (Ty.i .i64)).at u230 x228.1, (Ty.sl (Ty.sl (Ty.sl (Ty.i .i64)))).at u232 x228.2.2.1, bx b238 [(Value.slice none 0 0), (Value.int .i64 (0 : Int)), (Value.slice none 0 0)]] := hS240
        refine WL.storeBox [u230, (Value.int .i64 x228.2.1), u232] hS240 (k := 11) rfl rfl rfl (us := [u230, (Value.int .i64 x228.2.1), u232]) rfl sz_30 rfl rfl (all_rep (St.rep (t := (Ty.sl (Ty.i .i64))) hS240 9 rfl) (all_cons rfl (all_rep (St.rep (t := (Ty.sl (Ty.sl (Ty.sl (Ty.i .i64))))) hS240 10 rfl) all_nil))) rfl ?_
        intro wd242 hS243
        replace hS243 : St wd10 wd242 [bx b192 [u183, (Value.int .i64 x108.2.1), u185], (Ty.sl (Ty.i .i64)).at u183 x108.1, (Ty.sl (Ty.sl (Ty.sl (Ty.i .i64)))).at u185 x108.2.2.1, (Ty.sl (Ty.i .i64)).at u200 x198.1, (Ty.sl (Ty.sl (Ty.sl (Ty.i .i64)))).at u202 x198.2.2, bx b207 [u200, (Value.int .i64 x198.2.1), u202], (Ty.sl (Ty.i .i64)).at u215 x213.1, (Ty.sl (Ty.sl (Ty.sl (Ty.i .i64)))).at u217 x213.2.2, bx b222 [u215, (Value.int .i64 x213.2.1), u217], (Ty.sl (Ty.i .i64)).at u230 x228.1, (Ty.sl (Ty.sl (Ty.sl (Ty.i .i64)))).at u232 x228.2.2.1, bx b238 [u230, (Value.int .i64 x228.2.1), u232]] := hS243
        refine WL.val (Value.int .i64 x228.2.2.2) _ (op_assign rfl) rfl ?_
        refine WL.nil ?_
        show W _ _ _ _ _ _
        refine W.seq (W.seq (W.region ?_))
        refine WL.val (Value.agg #[u230, (Value.int .i64 x228.2.1), u232]) _ (op_loadBox st_30 rfl (St.boxAt hS243 11 rfl) rfl rfl) rfl ?_
        refine WL.val (Value.agg #[u183, (Value.int .i64 x108.2.1), u185]) _ (op_loadBox st_30 e191 (St.boxAt hS243 0 rfl) rfl rfl) rfl ?_
        obtain ⟨x244, hx245, h⟩ := bs h
        refine WL.call _ (op_call fn_13 (args2 rfl rfl)) (c_laws_eqCocycle (St.rep (t := (Ty.sl (Ty.i .i64))) hS243 9 rfl) hr231 (St.rep (t := (Ty.sl (Ty.sl (Ty.sl (Ty.i .i64))))) hS243 10 rfl) (St.rep (t := (Ty.sl (Ty.i .i64))) hS243 1 rfl) hr184 (St.rep (t := (Ty.sl (Ty.sl (Ty.sl (Ty.i .i64))))) hS243 2 rfl) hx245) rfl ?_
        rintro _ wd246 ⟨rfl, he247⟩
        have hS249 := St.extend hS243 he247
        replace hS249 : St wd10 wd246 [bx b192 [u183, (Value.int .i64 x108.2.1), u185], (Ty.sl (Ty.i .i64)).at u183 x108.1, (Ty.sl (Ty.sl (Ty.sl (Ty.i .i64)))).at u185 x108.2.2.1, (Ty.sl (Ty.i .i64)).at u200 x198.1, (Ty.sl (Ty.sl (Ty.sl (Ty.i .i64)))).at u202 x198.2.2, bx b207 [u200, (Value.int .i64 x198.2.1), u202], (Ty.sl (Ty.i .i64)).at u215 x213.1, (Ty.sl (Ty.sl (Ty.sl (Ty.i .i64)))).at u217 x213.2.2, bx b222 [u215, (Value.int .i64 x213.2.1), u217], (Ty.sl (Ty.i .i64)).at u230 x228.1, (Ty.sl (Ty.sl (Ty.sl (Ty.i .i64)))).at u232 x228.2.2.1, bx b238 [u230, (Value.int .i64 x228.2.1), u232]] := hS249
        refine WL.val (Value.bool (!x244)) _ (op_not rfl) rfl ?_
        refine WL.val (Value.bool (!x244)) _ (op_move rfl) rfl ?_
        refine WL.cut 4 (fun fq wq => fq 2 = (Value.pointer (some ⟨b1, 0, none⟩)) ∧ fq 3 = (Value.pointer (some ⟨b9, 0, none⟩)) ∧ fq 6 = (Value.pointer (some ⟨b192, 0, none⟩)) ∧ fq 7 = (Value.int .i64 x108.2.2.2) ∧ fq 8 = (Value.pointer (some ⟨b207, 0, none⟩)) ∧ fq 9 = (Value.pointer (some ⟨b222, 0, none⟩)) ∧ fq 10 = (Value.pointer (some ⟨b238, 0, none⟩)) ∧ fq 11 = (Value.int .i64 x228.2.2.2) ∧ fq 53 = (Value.bool ((!x244) || (x228.2.2.2 != x108.2.2.2))) ∧ St wd10 wq [bx b192 [u183, (Value.int .i64 x108.2.1), u185], (Ty.sl (Ty.i .i64)).at u183 x108.1, (Ty.sl (Ty.sl (Ty.sl (Ty.i .i64)))).at u185 x108.2.2.1, (Ty.sl (Ty.i .i64)).at u200 x198.1, (Ty.sl (Ty.sl (Ty.sl (Ty.i .i64)))).at u202 x198.2.2, bx b207 [u200, (Value.int .i64 x198.2.1), u202], (Ty.sl (Ty.i .i64)).at u215 x213.1, (Ty.sl (Ty.sl (Ty.sl (Ty.i .i64)))).at u217 x213.2.2, bx b222 [u215, (Value.int .i64 x213.2.1), u217], (Ty.sl (Ty.i .i64)).at u230 x228.1, (Ty.sl (Ty.sl (Ty.sl (Ty.i .i64)))).at u232 x228.2.2.1, bx b238 [u230, (Value.int .i64 x228.2.1), u232]]) ?_ ?_
        · rcases Bool.eq_false_or_eq_true (!x244) with hc250 | hc250
          · refine WL.gskip rfl (bool_of rfl hc250) rfl ?_
            refine WL.gskip rfl (bool_of rfl hc250) rfl ?_
            refine WL.gskip rfl (bool_of rfl hc250) rfl ?_
            refine WL.val (Value.bool true) _ (op_pick_t (evb_of rfl hc250) rfl) rfl ?_
            refine WL.nil ?_
            exact ⟨rfl, e193, e194, e191, rfl, rfl, rfl, rfl, rfl, (orT hc250), hS249⟩
          · refine WL.grun rfl (bool_of rfl hc250) ?_
            refine WL.val (Value.int .i64 x228.2.2.2) _ (op_move rfl) rfl ?_
            refine WL.grun rfl (bool_of rfl hc250) ?_
            refine WL.val (Value.int .i64 x108.2.2.2) _ (op_move rfl) rfl ?_
            refine WL.grun rfl (bool_of rfl hc250) ?_
            refine WL.val (Value.bool (x228.2.2.2 != x108.2.2.2)) _ (op_neq rfl rfl) rfl ?_
            refine WL.val (Value.bool (x228.2.2.2 != x108.2.2.2)) _ (op_pick_f (evb_of rfl hc250) rfl) rfl ?_
            refine WL.nil ?_
            exact ⟨rfl, e193, e194, e191, rfl, rfl, rfl, rfl, rfl, (orF hc250), hS249⟩
        · intro f251 wd252 hq253
          obtain ⟨hf254, hf255, hf256, hf257, hf258, hf259, hf260, hf261, hf262, hS263⟩ := hq253
          refine WL.nil ?_
          show W _ _ _ _ _ _
          refine W.cond ((!x244) || (x228.2.2.2 != x108.2.2.2)) hf262 (fun hc264 => ?_) (fun hc264 => ?_)
          · replace h := ip h hc264
            refine W.seq (W.region ?_)
            refine WL.val (Value.bool false) _ (op_assign rfl) rfl ?_
            refine WL.nil ?_
            show W _ _ _ _ _ _
            refine W.ret ?_
            obtain rfl := Option.some.inj h
            show FinP _ _ _ _ _ _ _
            exact FinP.ret _ (res1 rfl rfl) ⟨rfl, (Ext.trans hE15 hS263.ext)⟩
          · replace h := inegb h hc264
            refine W.skip ?_
            show W _ _ _ _ _ _
            refine W.seq (W.seq ?_)
            obtain ⟨x291, hx292, h⟩ := bs h
            refine W.drawR mixo 3 [] [fun _ v S w' => v = (Value.agg #[u200, (Value.int .i64 x198.2.1), u202]) ∧ InR .i64 x198.2.1, fun _ v S w' => v = (Value.agg #[v_aC_Orders, (Value.int .i64 aC_Modulus), v_aC_Values]) ∧ InR .i64 aC_Modulus, fun _ v S w' => ∃ (uu0 : Value) (uu1 : Value), v = (Value.agg #[uu0, (Value.int .i64 x291.2.1), uu1]) ∧ InR .i64 x291.2.1 ∧ SepS S w' [(Ty.sl (Ty.i .i64)).at uu0 x291.1, (Ty.sl (Ty.sl (Ty.sl (Ty.i .i64)))).at uu1 x291.2.2]] (by kernel_rfl) (by kernel_rfl) ⟨⟨fun _ _ _ _ _ he ⟨h0, h1⟩ => ⟨h0, h1⟩, fun _ _ _ _ _ _ h => h⟩, ⟨fun _ _ _ _ _ he ⟨h0, h1⟩ => ⟨h0, h1⟩, fun _ _ _ _ _ _ h => h⟩, ⟨fun _ _ _ _ _ he ⟨uu0, uu1, h0, h1, r0⟩ => ⟨uu0, uu1, h0, h1, SepS.extend he r0⟩, fun _ _ _ _ _ _ h => h⟩, trivial⟩ ⟨?_, ?_, ?_, trivial⟩ ?_
            · refine ObX.op rfl ?_
              intro f266 wd267 he268 hout269 hphi270
              have hS271 : St wd10 wd267 [bx b192 [u183, (Value.int .i64 x108.2.1), u185], (Ty.sl (Ty.i .i64)).at u183 x108.1, (Ty.sl (Ty.sl (Ty.sl (Ty.i .i64)))).at u185 x108.2.2.1, (Ty.sl (Ty.i .i64)).at u200 x198.1, (Ty.sl (Ty.sl (Ty.sl (Ty.i .i64)))).at u202 x198.2.2, bx b207 [u200, (Value.int .i64 x198.2.1), u202], (Ty.sl (Ty.i .i64)).at u215 x213.1, (Ty.sl (Ty.sl (Ty.sl (Ty.i .i64)))).at u217 x213.2.2, bx b222 [u215, (Value.int .i64 x213.2.1), u217], (Ty.sl (Ty.i .i64)).at u230 x228.1, (Ty.sl (Ty.sl (Ty.sl (Ty.i .i64)))).at u232 x228.2.2.1, bx b238 [u230, (Value.int .i64 x228.2.1), u232]] := St.extend hS263 he268
              have e272 : f266 8 = (Value.pointer (some ⟨b207, 0, none⟩)) := (hout269 8 rfl).trans hf258
              exact OpX.val (Value.agg #[u200, (Value.int .i64 x198.2.1), u202]) wd267 rfl (op_loadBox st_30 e272 (St.boxAt hS271 5 rfl) rfl rfl) (Ext.refl _) ⟨rfl, hr201⟩
            · refine ObX.op rfl ?_
              intro f273 wd274 he275 hout276 hphi277
              have hS278 : St wd10 wd274 [bx b192 [u183, (Value.int .i64 x108.2.1), u185], (Ty.sl (Ty.i .i64)).at u183 x108.1, (Ty.sl (Ty.sl (Ty.sl (Ty.i .i64)))).at u185 x108.2.2.1, (Ty.sl (Ty.i .i64)).at u200 x198.1, (Ty.sl (Ty.sl (Ty.sl (Ty.i .i64)))).at u202 x198.2.2, bx b207 [u200, (Value.int .i64 x198.2.1), u202], (Ty.sl (Ty.i .i64)).at u215 x213.1, (Ty.sl (Ty.sl (Ty.sl (Ty.i .i64)))).at u217 x213.2.2, bx b222 [u215, (Value.int .i64 x213.2.1), u217], (Ty.sl (Ty.i .i64)).at u230 x228.1, (Ty.sl (Ty.sl (Ty.sl (Ty.i .i64)))).at u232 x228.2.2.1, bx b238 [u230, (Value.int .i64 x228.2.1), u232]] := St.extend hS263 he275
              have e279 : f273 2 = (Value.pointer (some ⟨b1, 0, none⟩)) := (hout276 2 rfl).trans hf254
              exact OpX.val (Value.agg #[v_aC_Orders, (Value.int .i64 aC_Modulus), v_aC_Values]) wd274 rfl (op_loadBox st_25 e279 (BoxAt.lift (Ext.trans hE16 hS278.ext) hx6) rfl rfl) (Ext.refl _) ⟨rfl, r_aC_Modulus⟩
            · refine ObX.op rfl ?_
              intro f280 wd281 he282 hout283 hphi284
              have hS285 : St wd10 wd281 [bx b192 [u183, (Value.int .i64 x108.2.1), u185], (Ty.sl (Ty.i .i64)).at u183 x108.1, (Ty.sl (Ty.sl (Ty.sl (Ty.i .i64)))).at u185 x108.2.2.1, (Ty.sl (Ty.i .i64)).at u200 x198.1, (Ty.sl (Ty.sl (Ty.sl (Ty.i .i64)))).at u202 x198.2.2, bx b207 [u200, (Value.int .i64 x198.2.1), u202], (Ty.sl (Ty.i .i64)).at u215 x213.1, (Ty.sl (Ty.sl (Ty.sl (Ty.i .i64)))).at u217 x213.2.2, bx b222 [u215, (Value.int .i64 x213.2.1), u217], (Ty.sl (Ty.i .i64)).at u230 x228.1, (Ty.sl (Ty.sl (Ty.sl (Ty.i .i64)))).at u232 x228.2.2.1, bx b238 [u230, (Value.int .i64 x228.2.1), u232]] := St.extend hS263 he282
              obtain ⟨S286, hS287, hf288⟩ := hphi284 1 55 _ rfl rfl rfl
              obtain ⟨e289, hr290⟩ := hf288
              refine OpX.call rfl (op_call fn_10 (args1 e289)) (Ret.mono (c_laws_toCocycle (Ty.lift _ (Ext.trans hE15 hS285.ext) r_aC_Orders) hr290 (Ty.lift _ (Ext.trans hE15 hS285.ext) r_aC_Values) hx292) ?_)
              rintro _ wd296 ⟨u293, u295, rfl, hr294, he297, hs298⟩
              exact ⟨he297, _, newS _ _, ⟨u293, u295, rfl, hr294, (Sep.new hs298)⟩⟩
            · intro f299 wd300 Ss301 he302 hout303 hSn304 hSd305 hphi306
              show WL _ _ _ _ _ _ _
              have hS307 : St wd10 wd300 [bx b192 [u183, (Value.int .i64 x108.2.1), u185], (Ty.sl (Ty.i .i64)).at u183 x108.1, (Ty.sl (Ty.sl (Ty.sl (Ty.i .i64)))).at u185 x108.2.2.1, (Ty.sl (Ty.i .i64)).at u200 x198.1, (Ty.sl (Ty.sl (Ty.sl (Ty.i .i64)))).at u202 x198.2.2, bx b207 [u200, (Value.int .i64 x198.2.1), u202], (Ty.sl (Ty.i .i64)).at u215 x213.1, (Ty.sl (Ty.sl (Ty.sl (Ty.i .i64)))).at u217 x213.2.2, bx b222 [u215, (Value.int .i64 x213.2.1), u217], (Ty.sl (Ty.i .i64)).at u230 x228.1, (Ty.sl (Ty.sl (Ty.sl (Ty.i .i64)))).at u232 x228.2.2.1, bx b238 [u230, (Value.int .i64 x228.2.1), u232]] := St.extend hS263 he302
              obtain ⟨e308, hr309⟩ := hphi306 0 54 _ (by decide) rfl rfl
              obtain ⟨u311, u313, e310, hr312, e310s⟩ := hphi306 2 56 _ (by decide) rfl rfl
              have e314 : f299 2 = (Value.pointer (some ⟨b1, 0, none⟩)) := (hout303 2 rfl).trans hf254
              have e315 : f299 3 = (Value.pointer (some ⟨b9, 0, none⟩)) := (hout303 3 rfl).trans hf255
              have e316 : f299 6 = (Value.pointer (some ⟨b192, 0, none⟩)) := (hout303 6 rfl).trans hf256
              have e317 : f299 7 = (Value.int .i64 x108.2.2.2) := (hout303 7 rfl).trans hf257
              have e318 : f299 8 = (Value.pointer (some ⟨b207, 0, none⟩)) := (hout303 8 rfl).trans hf258
              have e319 : f299 9 = (Value.pointer (some ⟨b222, 0, none⟩)) := (hout303 9 rfl).trans hf259
              have e320 : f299 10 = (Value.pointer (some ⟨b238, 0, none⟩)) := (hout303 10 rfl).trans hf260
              have e321 : f299 11 = (Value.int .i64 x228.2.2.2) := (hout303 11 rfl).trans hf261
              have hS322 := St.joinS hS263 he302 hSn304 (SepS.consS hSd305 rfl e310s SepS.nilS)
              replace hS322 : St wd10 wd300 [bx b192 [u183, (Value.int .i64 x108.2.1), u185], (Ty.sl (Ty.i .i64)).at u183 x108.1, (Ty.sl (Ty.sl (Ty.sl (Ty.i .i64)))).at u185 x108.2.2.1, (Ty.sl (Ty.i .i64)).at u200 x198.1, (Ty.sl (Ty.sl (Ty.sl (Ty.i .i64)))).at u202 x198.2.2, bx b207 [u200, (Value.int .i64 x198.2.1), u202], (Ty.sl (Ty.i .i64)).at u215 x213.1, (Ty.sl (Ty.sl (Ty.sl (Ty.i .i64)))).at u217 x213.2.2, bx b222 [u215, (Value.int .i64 x213.2.1), u217], (Ty.sl (Ty.i .i64)).at u230 x228.1, (Ty.sl (Ty.sl (Ty.sl (Ty.i .i64)))).at u232 x228.2.2.1, bx b238 [u230, (Value.int .i64 x228.2.1), u232], (Ty.sl (Ty.i .i64)).at u311 x291.1, (Ty.sl (Ty.sl (Ty.sl (Ty.i .i64)))).at u313 x291.2.2] := hS322
              obtain ⟨x323, hx324, h⟩ := bs h
              refine WL.call _ (op_call fn_13 (args2 e308 e310)) (c_laws_eqCocycle (St.rep (t := (Ty.sl (Ty.i .i64))) hS322 3 rfl) hr309 (St.rep (t := (Ty.sl (Ty.sl (Ty.sl (Ty.i .i64))))) hS322 4 rfl) (St.rep (t := (Ty.sl (Ty.i .i64))) hS322 12 rfl) hr312 (St.rep (t := (Ty.sl (Ty.sl (Ty.sl (Ty.i .i64))))) hS322 13 rfl) hx324) rfl ?_
              rintro _ wd325 ⟨rfl, he326⟩
              have hS328 := St.extend hS322 he326
              replace hS328 : St wd10 wd325 [bx b192 [u183, (Value.int .i64 x108.2.1), u185], (Ty.sl (Ty.i .i64)).at u183 x108.1, (Ty.sl (Ty.sl (Ty.sl (Ty.i .i64)))).at u185 x108.2.2.1, (Ty.sl (Ty.i .i64)).at u200 x198.1, (Ty.sl (Ty.sl (Ty.sl (Ty.i .i64)))).at u202 x198.2.2, bx b207 [u200, (Value.int .i64 x198.2.1), u202], (Ty.sl (Ty.i .i64)).at u215 x213.1, (Ty.sl (Ty.sl (Ty.sl (Ty.i .i64)))).at u217 x213.2.2, bx b222 [u215, (Value.int .i64 x213.2.1), u217], (Ty.sl (Ty.i .i64)).at u230 x228.1, (Ty.sl (Ty.sl (Ty.sl (Ty.i .i64)))).at u232 x228.2.2.1, bx b238 [u230, (Value.int .i64 x228.2.1), u232], (Ty.sl (Ty.i .i64)).at u311 x291.1, (Ty.sl (Ty.sl (Ty.sl (Ty.i .i64)))).at u313 x291.2.2] := hS328
              refine WL.val (Value.bool (!x323)) _ (op_not rfl) rfl ?_
              refine WL.nil ?_
              show W _ _ _ _ _ _
              refine W.cond (!x323) rfl (fun hc329 => ?_) (fun hc329 => ?_)
              · replace h := ip h hc329
                refine W.seq (W.region ?_)
                refine WL.val (Value.bool false) _ (op_assign rfl) rfl ?_
                refine WL.nil ?_
                show W _ _ _ _ _ _
                refine W.ret ?_
                obtain rfl := Option.some.inj h
                show FinP _ _ _ _ _ _ _
                exact FinP.ret _ (res1 rfl rfl) ⟨rfl, (Ext.trans hE15 hS328.ext)⟩
              · replace h := inegb h hc329
                refine W.skip ?_
                show W _ _ _ _ _ _
                refine W.seq (W.seq ?_)
                obtain ⟨x356, hx357, h⟩ := bs h
                refine W.drawR mixo 3 [] [fun _ v S w' => v = (Value.agg #[u215, (Value.int .i64 x213.2.1), u217]) ∧ InR .i64 x213.2.1, fun _ v S w' => v = (Value.agg #[v_aD_Orders, (Value.int .i64 aD_Modulus), v_aD_Values]) ∧ InR .i64 aD_Modulus, fun _ v S w' => ∃ (uu0 : Value) (uu1 : Value), v = (Value.agg #[uu0, (Value.int .i64 x356.2.1), uu1]) ∧ InR .i64 x356.2.1 ∧ SepS S w' [(Ty.sl (Ty.i .i64)).at uu0 x356.1, (Ty.sl (Ty.sl (Ty.sl (Ty.i .i64)))).at uu1 x356.2.2]] (by kernel_rfl) (by kernel_rfl) ⟨⟨fun _ _ _ _ _ he ⟨h0, h1⟩ => ⟨h0, h1⟩, fun _ _ _ _ _ _ h => h⟩, ⟨fun _ _ _ _ _ he ⟨h0, h1⟩ => ⟨h0, h1⟩, fun _ _ _ _ _ _ h => h⟩, ⟨fun _ _ _ _ _ he ⟨uu0, uu1, h0, h1, r0⟩ => ⟨uu0, uu1, h0, h1, SepS.extend he r0⟩, fun _ _ _ _ _ _ h => h⟩, trivial⟩ ⟨?_, ?_, ?_, trivial⟩ ?_
                · refine ObX.op rfl ?_
                  intro f331 wd332 he333 hout334 hphi335
                  have hS336 : St wd10 wd332 [bx b192 [u183, (Value.int .i64 x108.2.1), u185], (Ty.sl (Ty.i .i64)).at u183 x108.1, (Ty.sl (Ty.sl (Ty.sl (Ty.i .i64)))).at u185 x108.2.2.1, (Ty.sl (Ty.i .i64)).at u200 x198.1, (Ty.sl (Ty.sl (Ty.sl (Ty.i .i64)))).at u202 x198.2.2, bx b207 [u200, (Value.int .i64 x198.2.1), u202], (Ty.sl (Ty.i .i64)).at u215 x213.1, (Ty.sl (Ty.sl (Ty.sl (Ty.i .i64)))).at u217 x213.2.2, bx b222 [u215, (Value.int .i64 x213.2.1), u217], (Ty.sl (Ty.i .i64)).at u230 x228.1, (Ty.sl (Ty.sl (Ty.sl (Ty.i .i64)))).at u232 x228.2.2.1, bx b238 [u230, (Value.int .i64 x228.2.1), u232], (Ty.sl (Ty.i .i64)).at u311 x291.1, (Ty.sl (Ty.sl (Ty.sl (Ty.i .i64)))).at u313 x291.2.2] := St.extend hS328 he333
                  have e337 : f331 9 = (Value.pointer (some ⟨b222, 0, none⟩)) := (hout334 9 rfl).trans e319
                  exact OpX.val (Value.agg #[u215, (Value.int .i64 x213.2.1), u217]) wd332 rfl (op_loadBox st_30 e337 (St.boxAt hS336 8 rfl) rfl rfl) (Ext.refl _) ⟨rfl, hr216⟩
                · refine ObX.op rfl ?_
                  intro f338 wd339 he340 hout341 hphi342
                  have hS343 : St wd10 wd339 [bx b192 [u183, (Value.int .i64 x108.2.1), u185], (Ty.sl (Ty.i .i64)).at u183 x108.1, (Ty.sl (Ty.sl (Ty.sl (Ty.i .i64)))).at u185 x108.2.2.1, (Ty.sl (Ty.i .i64)).at u200 x198.1, (Ty.sl (Ty.sl (Ty.sl (Ty.i .i64)))).at u202 x198.2.2, bx b207 [u200, (Value.int .i64 x198.2.1), u202], (Ty.sl (Ty.i .i64)).at u215 x213.1, (Ty.sl (Ty.sl (Ty.sl (Ty.i .i64)))).at u217 x213.2.2, bx b222 [u215, (Value.int .i64 x213.2.1), u217], (Ty.sl (Ty.i .i64)).at u230 x228.1, (Ty.sl (Ty.sl (Ty.sl (Ty.i .i64)))).at u232 x228.2.2.1, bx b238 [u230, (Value.int .i64 x228.2.1), u232], (Ty.sl (Ty.i .i64)).at u311 x291.1, (Ty.sl (Ty.sl (Ty.sl (Ty.i .i64)))).at u313 x291.2.2] := St.extend hS328 he340
                  have e344 : f338 3 = (Value.pointer (some ⟨b9, 0, none⟩)) := (hout341 3 rfl).trans e315
                  exact OpX.val (Value.agg #[v_aD_Orders, (Value.int .i64 aD_Modulus), v_aD_Values]) wd339 rfl (op_loadBox st_25 e344 (BoxAt.lift hS343.ext hx14) rfl rfl) (Ext.refl _) ⟨rfl, r_aD_Modulus⟩
                · refine ObX.op rfl ?_
                  intro f345 wd346 he347 hout348 hphi349
                  have hS350 : St wd10 wd346 [bx b192 [u183, (Value.int .i64 x108.2.1), u185], (Ty.sl (Ty.i .i64)).at u183 x108.1, (Ty.sl (Ty.sl (Ty.sl (Ty.i .i64)))).at u185 x108.2.2.1, (Ty.sl (Ty.i .i64)).at u200 x198.1, (Ty.sl (Ty.sl (Ty.sl (Ty.i .i64)))).at u202 x198.2.2, bx b207 [u200, (Value.int .i64 x198.2.1), u202], (Ty.sl (Ty.i .i64)).at u215 x213.1, (Ty.sl (Ty.sl (Ty.sl (Ty.i .i64)))).at u217 x213.2.2, bx b222 [u215, (Value.int .i64 x213.2.1), u217], (Ty.sl (Ty.i .i64)).at u230 x228.1, (Ty.sl (Ty.sl (Ty.sl (Ty.i .i64)))).at u232 x228.2.2.1, bx b238 [u230, (Value.int .i64 x228.2.1), u232], (Ty.sl (Ty.i .i64)).at u311 x291.1, (Ty.sl (Ty.sl (Ty.sl (Ty.i .i64)))).at u313 x291.2.2] := St.extend hS328 he347
                  obtain ⟨S351, hS352, hf353⟩ := hphi349 1 60 _ rfl rfl rfl
                  obtain ⟨e354, hr355⟩ := hf353
                  refine OpX.call rfl (op_call fn_10 (args1 e354)) (Ret.mono (c_laws_toCocycle (Ty.lift _ (Ext.trans hE15 hS350.ext) r_aD_Orders) hr355 (Ty.lift _ (Ext.trans hE15 hS350.ext) r_aD_Values) hx357) ?_)
                  rintro _ wd361 ⟨u358, u360, rfl, hr359, he362, hs363⟩
                  exact ⟨he362, _, newS _ _, ⟨u358, u360, rfl, hr359, (Sep.new hs363)⟩⟩
                · intro f364 wd365 Ss366 he367 hout368 hSn369 hSd370 hphi371
                  show WL _ _ _ _ _ _ _
                  have hS372 : St wd10 wd365 [bx b192 [u183, (Value.int .i64 x108.2.1), u185], (Ty.sl (Ty.i .i64)).at u183 x108.1, (Ty.sl (Ty.sl (Ty.sl (Ty.i .i64)))).at u185 x108.2.2.1, (Ty.sl (Ty.i .i64)).at u200 x198.1, (Ty.sl (Ty.sl (Ty.sl (Ty.i .i64)))).at u202 x198.2.2, bx b207 [u200, (Value.int .i64 x198.2.1), u202], (Ty.sl (Ty.i .i64)).at u215 x213.1, (Ty.sl (Ty.sl (Ty.sl (Ty.i .i64)))).at u217 x213.2.2, bx b222 [u215, (Value.int .i64 x213.2.1), u217], (Ty.sl (Ty.i .i64)).at u230 x228.1, (Ty.sl (Ty.sl (Ty.sl (Ty.i .i64)))).at u232 x228.2.2.1, bx b238 [u230, (Value.int .i64 x228.2.1), u232], (Ty.sl (Ty.i .i64)).at u311 x291.1, (Ty.sl (Ty.sl (Ty.sl (Ty.i .i64)))).at u313 x291.2.2] := St.extend hS328 he367
                  obtain ⟨e373, hr374⟩ := hphi371 0 59 _ (by decide) rfl rfl
                  obtain ⟨u376, u378, e375, hr377, e375s⟩ := hphi371 2 61 _ (by decide) rfl rfl
                  have e379 : f364 2 = (Value.pointer (some ⟨b1, 0, none⟩)) := (hout368 2 rfl).trans e314
                  have e380 : f364 3 = (Value.pointer (some ⟨b9, 0, none⟩)) := (hout368 3 rfl).trans e315
                  have e381 : f364 6 = (Value.pointer (some ⟨b192, 0, none⟩)) := (hout368 6 rfl).trans e316
                  have e382 : f364 7 = (Value.int .i64 x108.2.2.2) := (hout368 7 rfl).trans e317
                  have e383 : f364 8 = (Value.pointer (some ⟨b207, 0, none⟩)) := (hout368 8 rfl).trans e318
                  have e384 : f364 9 = (Value.pointer (some ⟨b222, 0, none⟩)) := (hout368 9 rfl).trans e319
                  have e385 : f364 10 = (Value.pointer (some ⟨b238, 0, none⟩)) := (hout368 10 rfl).trans e320
                  have e386 : f364 11 = (Value.int .i64 x228.2.2.2) := (hout368 11 rfl).trans e321
                  have hS387 := St.joinS hS328 he367 hSn369 (SepS.consS hSd370 rfl e375s SepS.nilS)
                  replace hS387 : St wd10 wd365 [bx b192 [u183, (Value.int .i64 x108.2.1), u185], (Ty.sl (Ty.i .i64)).at u183 x108.1, (Ty.sl (Ty.sl (Ty.sl (Ty.i .i64)))).at u185 x108.2.2.1, (Ty.sl (Ty.i .i64)).at u200 x198.1, (Ty.sl (Ty.sl (Ty.sl (Ty.i .i64)))).at u202 x198.2.2, bx b207 [u200, (Value.int .i64 x198.2.1), u202], (Ty.sl (Ty.i .i64)).at u215 x213.1, (Ty.sl (Ty.sl (Ty.sl (Ty.i .i64)))).at u217 x213.2.2, bx b222 [u215, (Value.int .i64 x213.2.1), u217], (Ty.sl (Ty.i .i64)).at u230 x228.1, (Ty.sl (Ty.sl (Ty.sl (Ty.i .i64)))).at u232 x228.2.2.1, bx b238 [u230, (Value.int .i64 x228.2.1), u232], (Ty.sl (Ty.i .i64)).at u311 x291.1, (Ty.sl (Ty.sl (Ty.sl (Ty.i .i64)))).at u313 x291.2.2, (Ty.sl (Ty.i .i64)).at u376 x356.1, (Ty.sl (Ty.sl (Ty.sl (Ty.i .i64)))).at u378 x356.2.2] := hS387
                  obtain ⟨x388, hx389, h⟩ := bs h
                  refine WL.call _ (op_call fn_13 (args2 e373 e375)) (c_laws_eqCocycle (St.rep (t := (Ty.sl (Ty.i .i64))) hS387 6 rfl) hr374 (St.rep (t := (Ty.sl (Ty.sl (Ty.sl (Ty.i .i64))))) hS387 7 rfl) (St.rep (t := (Ty.sl (Ty.i .i64))) hS387 14 rfl) hr377 (St.rep (t := (Ty.sl (Ty.sl (Ty.sl (Ty.i .i64))))) hS387 15 rfl) hx389) rfl ?_
                  rintro _ wd390 ⟨rfl, he391⟩
                  have hS393 := St.extend hS387 he391
                  replace hS393 : St wd10 wd390 [bx b192 [u183, (Value.int .i64 x108.2.1), u185], (Ty.sl (Ty.i .i64)).at u183 x108.1, (Ty.sl (Ty.sl (Ty.sl (Ty.i .i64)))).at u185 x108.2.2.1, (Ty.sl (Ty.i .i64)).at u200 x198.1, (Ty.sl (Ty.sl (Ty.sl (Ty.i .i64)))).at u202 x198.2.2, bx b207 [u200, (Value.int .i64 x198.2.1), u202], (Ty.sl (Ty.i .i64)).at u215 x213.1, (Ty.sl (Ty.sl (Ty.sl (Ty.i .i64)))).at u217 x213.2.2, bx b222 [u215, (Value.int .i64 x213.2.1), u217], (Ty.sl (Ty.i .i64)).at u230 x228.1, (Ty.sl (Ty.sl (Ty.sl (Ty.i .i64)))).at u232 x228.2.2.1, bx b238 [u230, (Value.int .i64 x228.2.1), u232], (Ty.sl (Ty.i .i64)).at u311 x291.1, (Ty.sl (Ty.sl (Ty.sl (Ty.i .i64)))).at u313 x291.2.2, (Ty.sl (Ty.i .i64)).at u376 x356.1, (Ty.sl (Ty.sl (Ty.sl (Ty.i .i64)))).at u378 x356.2.2] := hS393
                  refine WL.val (Value.bool (!x388)) _ (op_not rfl) rfl ?_
                  refine WL.nil ?_
                  show W _ _ _ _ _ _
                  refine W.cond (!x388) rfl (fun hc394 => ?_) (fun hc394 => ?_)
                  · replace h := ip h hc394
                    refine W.seq (W.region ?_)
                    refine WL.val (Value.bool false) _ (op_assign rfl) rfl ?_
                    refine WL.nil ?_
                    show W _ _ _ _ _ _
                    refine W.ret ?_
                    obtain rfl := Option.some.inj h
                    show FinP _ _ _ _ _ _ _
                    exact FinP.ret _ (res1 rfl rfl) ⟨rfl, (Ext.trans hE15 hS393.ext)⟩
                  · replace h := inegb h hc394
                    refine W.skip ?_
                    show W _ _ _ _ _ _
                    refine W.seq (W.region ?_)
                    refine WL.val (Value.int .i64 (1 : Int)) _ (op_assign rfl) rfl ?_
                    refine WL.nil ?_
                    show W _ _ _ _ _ _
                    refine W.seq (W.region ?_)
                    refine WL.val (Value.agg #[u200, (Value.int .i64 x198.2.1), u202]) _ (op_loadBox st_30 e383 (St.boxAt hS393 5 rfl) rfl rfl) rfl ?_
                    refine WL.val (Value.int .i64 (1 : Int)) _ (op_move rfl) rfl ?_
                    obtain ⟨x396, hx397, h⟩ := bs h
                    have hS398 := St.fold [(Ty.sl (Ty.i .i64)).at u200 x198.1, (Ty.sl (Ty.sl (Ty.sl (Ty.i .i64)))).at u202 x198.2.2] [bx b192 [u183, (Value.int .i64 x108.2.1), u185], (Ty.sl (Ty.i .i64)).at u183 x108.1, (Ty.sl (Ty.sl (Ty.sl (Ty.i .i64)))).at u185 x108.2.2.1, bx b207 [u200, (Value.int .i64 x198.2.1), u202], (Ty.sl (Ty.i .i64)).at u215 x213.1, (Ty.sl (Ty.sl (Ty.sl (Ty.i .i64)))).at u217 x213.2.2, bx b222 [u215, (Value.int .i64 x213.2.1), u217], (Ty.sl (Ty.i .i64)).at u230 x228.1, (Ty.sl (Ty.sl (Ty.sl (Ty.i .i64)))).at u232 x228.2.2.1, bx b238 [u230, (Value.int .i64 x228.2.1), u232], (Ty.sl (Ty.i .i64)).at u311 x291.1, (Ty.sl (Ty.sl (Ty.sl (Ty.i .i64)))).at u313 x291.2.2, (Ty.sl (Ty.i .i64)).at u376 x356.1, (Ty.sl (Ty.sl (Ty.sl (Ty.i .i64)))).at u378 x356.2.2] (St.pick hS393 [3, 4, 0, 1, 2, 5, 6, 7, 8, 9, 10, 11, 12, 13, 14, 15] rfl)
                    refine WL.call _ (op_call fn_14 (args2 rfl rfl)) (c_laws_markCocycle hS398 hr201 (inR_i64.2 (show (-9223372036854775808 : Int) ≤ 1 ∧ (1 : Int) ≤ 9223372036854775807 from by decide)) hx397) rfl ?_
                    rintro _ wd401 ⟨rfl, hr402, hS399⟩
                    have hS400 := St.pick (St.unfold [(Ty.sl (Ty.i .i64)).at u200 x396.2.1, (Ty.sl (Ty.sl (Ty.sl (Ty.i .i64)))).at u202 x396.2.2] [bx b192 [u183, (Value.int .i64 x108.2.1), u185], (Ty.sl (Ty.i .i64)).at u183 x108.1, (Ty.sl (Ty.sl (Ty.sl (Ty.i .i64)))).at u185 x108.2.2.1, bx b207 [u200, (Value.int .i64 x198.2.1), u202], (Ty.sl (Ty.i .i64)).at u215 x213.1, (Ty.sl (Ty.sl (Ty.sl (Ty.i .i64)))).at u217 x213.2.2, bx b222 [u215, (Value.int .i64 x213.2.1), u217], (Ty.sl (Ty.i .i64)).at u230 x228.1, (Ty.sl (Ty.sl (Ty.sl (Ty.i .i64)))).at u232 x228.2.2.1, bx b238 [u230, (Value.int .i64 x228.2.1), u232], (Ty.sl (Ty.i .i64)).at u311 x291.1, (Ty.sl (Ty.sl (Ty.sl (Ty.i .i64)))).at u313 x291.2.2, (Ty.sl (Ty.i .i64)).at u376 x356.1, (Ty.sl (Ty.sl (Ty.sl (Ty.i .i64)))).at u378 x356.2.2] hS399) [2, 3, 4, 0, 1, 5, 6, 7, 8, 9, 10, 11, 12, 13, 14, 15] rfl
                    replace hS400 : St wd10 wd401 [bx b192 [u183, (Value.int .i64 x108.2.1), u185], (Ty.sl (Ty.i .i64)).at u183 x108.1, (Ty.sl (Ty.sl (Ty.sl (Ty.i .i64)))).at u185 x108.2.2.1, (Ty.sl (Ty.i .i64)).at u200 x396.2.1, (Ty.sl (Ty.sl (Ty.sl (Ty.i .i64)))).at u202 x396.2.2, bx b207 [u200, (Value.int .i64 x198.2.1), u202], (Ty.sl (Ty.i .i64)).at u215 x213.1, (Ty.sl (Ty.sl (Ty.sl (Ty.i .i64)))).at u217 x213.2.2, bx b222 [u215, (Value.int .i64 x213.2.1), u217], (Ty.sl (Ty.i .i64)).at u230 x228.1, (Ty.sl (Ty.sl (Ty.sl (Ty.i .i64)))).at u232 x228.2.2.1, bx b238 [u230, (Value.int .i64 x228.2.1), u232], (Ty.sl (Ty.i .i64)).at u311 x291.1, (Ty.sl (Ty.sl (Ty.sl (Ty.i .i64)))).at u313 x291.2.2, (Ty.sl (Ty.i .i64)).at u376 x356.1, (Ty.sl (Ty.sl (Ty.sl (Ty.i .i64)))).at u378 x356.2.2] := hS400
                    refine WL.val (Value.int .i64 x396.1) _ (op_assign rfl) rfl ?_
                    refine WL.nil ?_
                    show W _ _ _ _ _ _
                    refine W.seq (W.region ?_)
                    refine WL.val (Value.agg #[u215, (Value.int .i64 x213.2.1), u217]) _ (op_loadBox st_30 e384 (St.boxAt hS400 8 rfl) rfl rfl) rfl ?_
                    refine WL.val (Value.int .i64 x396.1) _ (op_move rfl) rfl ?_
                    obtain ⟨x403, hx404, h⟩ := bs h
                    have hS405 := St.fold [(Ty.sl (Ty.i .i64)).at u215 x213.1, (Ty.sl (Ty.sl (Ty.sl (Ty.i .i64)))).at u217 x213.2.2] [bx b192 [u183, (Value.int .i64 x108.2.1), u185], (Ty.sl (Ty.i .i64)).at u183 x108.1, (Ty.sl (Ty.sl (Ty.sl (Ty.i .i64)))).at u185 x108.2.2.1, (Ty.sl (Ty.i .i64)).at u200 x396.2.1, (Ty.sl (Ty.sl (Ty.sl (Ty.i .i64)))).at u202 x396.2.2, bx b207 [u200, (Value.int .i64 x198.2.1), u202], bx b222 [u215, (Value.int .i64 x213.2.1), u217], (Ty.sl (Ty.i .i64)).at u230 x228.1, (Ty.sl (Ty.sl (Ty.sl (Ty.i .i64)))).at u232 x228.2.2.1, bx b238 [u230, (Value.int .i64 x228.2.1), u232], (Ty.sl (Ty.i .i64)).at u311 x291.1, (Ty.sl (Ty.sl (Ty.sl (Ty.i .i64)))).at u313 x291.2.2, (Ty.sl (Ty.i .i64)).at u376 x356.1, (Ty.sl (Ty.sl (Ty.sl (Ty.i .i64)))).at u378 x356.2.2] (St.pick hS400 [6, 7, 0, 1, 2, 3, 4, 5, 8, 9, 10, 11, 12, 13, 14, 15] rfl)
                    refine WL.call _ (op_call fn_14 (args2 rfl rfl)) (c_laws_markCocycle hS405 hr216 hr402 hx404) rfl ?_
                    rintro _ wd408 ⟨rfl, hr409, hS406⟩
                    have hS407 := St.pick (St.unfold [(Ty.sl (Ty.i .i64)).at u215 x403.2.1, (Ty.sl (Ty.sl (Ty.sl (Ty.i .i64)))).at u217 x403.2.2] [bx b192 [u183, (Value.int .i64 x108.2.1), u185], (Ty.sl (Ty.i .i64)).at u183 x108.1, (Ty.sl (Ty.sl (Ty.sl (Ty.i .i64)))).at u185 x108.2.2.1, (Ty.sl (Ty.i .i64)).at u200 x396.2.1, (Ty.sl (Ty.sl (Ty.sl (Ty.i .i64)))).at u202 x396.2.2, bx b207 [u200, (Value.int .i64 x198.2.1), u202], bx b222 [u215, (Value.int .i64 x213.2.1), u217], (Ty.sl (Ty.i .i64)).at u230 x228.1, (Ty.sl (Ty.sl (Ty.sl (Ty.i .i64)))).at u232 x228.2.2.1, bx b238 [u230, (Value.int .i64 x228.2.1), u232], (Ty.sl (Ty.i .i64)).at u311 x291.1, (Ty.sl (Ty.sl (Ty.sl (Ty.i .i64)))).at u313 x291.2.2, (Ty.sl (Ty.i .i64)).at u376 x356.1, (Ty.sl (Ty.sl (Ty.sl (Ty.i .i64)))).at u378 x356.2.2] hS406) [2, 3, 4, 5, 6, 7, 0, 1, 8, 9, 10, 11, 12, 13, 14, 15] rfl
                    replace hS407 : St wd10 wd408 [bx b192 [u183, (Value.int .i64 x108.2.1), u185], (Ty.sl (Ty.i .i64)).at u183 x108.1, (Ty.sl (Ty.sl (Ty.sl (Ty.i .i64)))).at u185 x108.2.2.1, (Ty.sl (Ty.i .i64)).at u200 x396.2.1, (Ty.sl (Ty.sl (Ty.sl (Ty.i .i64)))).at u202 x396.2.2, bx b207 [u200, (Value.int .i64 x198.2.1), u202], (Ty.sl (Ty.i .i64)).at u215 x403.2.1, (Ty.sl (Ty.sl (Ty.sl (Ty.i .i64)))).at u217 x403.2.2, bx b222 [u215, (Value.int .i64 x213.2.1), u217], (Ty.sl (Ty.i .i64)).at u230 x228.1, (Ty.sl (Ty.sl (Ty.sl (Ty.i .i64)))).at u232 x228.2.2.1, bx b238 [u230, (Value.int .i64 x228.2.1), u232], (Ty.sl (Ty.i .i64)).at u311 x291.1, (Ty.sl (Ty.sl (Ty.sl (Ty.i .i64)))).at u313 x291.2.2, (Ty.sl (Ty.i .i64)).at u376 x356.1, (Ty.sl (Ty.sl (Ty.sl (Ty.i .i64)))).at u378 x356.2.2] := hS407
                    refine WL.val (Value.int .i64 x403.1) _ (op_assign rfl) rfl ?_
                    refine WL.nil ?_
                    show W _ _ _ _ _ _
                    refine W.seq (W.seq (W.region ?_))
                    refine WL.val (Value.int .i64 x403.1) _ (op_move rfl) rfl ?_
                    refine WL.val (Value.bool (decide (x403.1 < (0 : Int)))) _ (op_lss rfl rfl) rfl ?_
                    refine WL.val (Value.bool (decide (x403.1 < (0 : Int)))) _ (op_move rfl) rfl ?_
                    obtain ⟨x411, hj412, h⟩ := bs h
                    refine WL.cut 5 (fun fq wq => fq 2 = (Value.pointer (some ⟨b1, 0, none⟩)) ∧ fq 3 = (Value.pointer (some ⟨b9, 0, none⟩)) ∧ fq 6 = (Value.pointer (some ⟨b192, 0, none⟩)) ∧ fq 7 = (Value.int .i64 x108.2.2.2) ∧ fq 10 = (Value.pointer (some ⟨b238, 0, none⟩)) ∧ fq 11 = (Value.int .i64 x228.2.2.2) ∧ fq 77 = Value.bool x411 ∧ St wd10 wq [bx b192 [u183, (Value.int .i64 x108.2.1), u185], (Ty.sl (Ty.i .i64)).at u183 x108.1, (Ty.sl (Ty.sl (Ty.sl (Ty.i .i64)))).at u185 x108.2.2.1, (Ty.sl (Ty.i .i64)).at u230 x228.1, (Ty.sl (Ty.sl (Ty.sl (Ty.i .i64)))).at u232 x228.2.2.1, bx b238 [u230, (Value.int .i64 x228.2.1), u232]]) ?_ ?_
                    · rcases Bool.eq_false_or_eq_true (decide (x403.1 < (0 : Int))) with hc410 | hc410
                      · replace hj412 := ip hj412 hc410
                        refine WL.gskip rfl (bool_of rfl hc410) rfl ?_
                        refine WL.gskip rfl (bool_of rfl hc410) rfl ?_
                        refine WL.gskip rfl (bool_of rfl hc410) rfl ?_
                        refine WL.gskip rfl (bool_of rfl hc410) rfl ?_
                        refine WL.val (Value.bool true) _ (op_pick_t (evb_of rfl hc410) rfl) rfl ?_
                        refine WL.nil ?_
                        obtain rfl := Option.some.inj hj412
                        exact ⟨rfl, e379, e380, e381, e382, e385, e386, rfl, (St.pick hS407 [0, 1, 2, 9, 10, 11] rfl)⟩
                      · replace hj412 := inegb hj412 hc410
                        refine WL.grun rfl (bool_of rfl hc410) ?_
                        refine WL.val (Value.agg #[u230, (Value.int .i64 x228.2.1), u232]) _ (op_loadBox st_30 e385 (St.boxAt hS407 11 rfl) rfl rfl) rfl ?_
                        refine WL.grun rfl (bool_of rfl hc410) ?_
                        refine WL.val (Value.agg #[u183, (Value.int .i64 x108.2.1), u185]) _ (op_loadBox st_30 e381 (St.boxAt hS407 0 rfl) rfl rfl) rfl ?_
                        refine WL.grun rfl (bool_of rfl hc410) ?_
                        obtain ⟨x416, hx417, hj412⟩ := bs hj412
                        refine WL.call _ (op_call fn_13 (args2 rfl rfl)) (c_laws_eqCocycle (St.rep (t := (Ty.sl (Ty.i .i64))) hS407 9 rfl) hr231 (St.rep (t := (Ty.sl (Ty.sl (Ty.sl (Ty.i .i64))))) hS407 10 rfl) (St.rep (t := (Ty.sl (Ty.i .i64))) hS407 1 rfl) hr184 (St.rep (t := (Ty.sl (Ty.sl (Ty.sl (Ty.i .i64))))) hS407 2 rfl) hx417) rfl ?_
                        rintro _ wd418 ⟨rfl, he419⟩
                        have hS421 := St.extend hS407 he419
                        replace hS421 : St wd10 wd418 [bx b192 [u183, (Value.int .i64 x108.2.1), u185], (Ty.sl (Ty.i .i64)).at u183 x108.1, (Ty.sl (Ty.sl (Ty.sl (Ty.i .i64)))).at u185 x108.2.2.1, (Ty.sl (Ty.i .i64)).at u200 x396.2.1, (Ty.sl (Ty.sl (Ty.sl (Ty.i .i64)))).at u202 x396.2.2, bx b207 [u200, (Value.int .i64 x198.2.1), u202], (Ty.sl (Ty.i .i64)).at u215 x403.2.1, (Ty.sl (Ty.sl (Ty.sl (Ty.i .i64)))).at u217 x403.2.2, bx b222 [u215, (Value.int .i64 x213.2.1), u217], (Ty.sl (Ty.i .i64)).at u230 x228.1, (Ty.sl (Ty.sl (Ty.sl (Ty.i .i64)))).at u232 x228.2.2.1, bx b238 [u230, (Value.int .i64 x228.2.1), u232], (Ty.sl (Ty.i .i64)).at u311 x291.1, (Ty.sl (Ty.sl (Ty.sl (Ty.i .i64)))).at u313 x291.2.2, (Ty.sl (Ty.i .i64)).at u376 x356.1, (Ty.sl (Ty.sl (Ty.sl (Ty.i .i64)))).at u378 x356.2.2] := hS421
                        refine WL.grun rfl (bool_of rfl hc410) ?_
                        refine WL.val (Value.bool (!x416)) _ (op_not rfl) rfl ?_
                        refine WL.val (Value.bool (!x416)) _ (op_pick_f (evb_of rfl hc410) rfl) rfl ?_
                        refine WL.nil ?_
                        obtain rfl := Option.some.inj hj412
                        exact ⟨rfl, e379, e380, e381, e382, e385, e386, rfl, (St.pick hS421 [0, 1, 2, 9, 10, 11] rfl)⟩
                    · intro f413 wd414 hq415
                      obtain ⟨hf422, hf423, hf424, hf425, hf426, hf427, hf428, hS429⟩ := hq415
                      refine WL.val (Value.bool x411) _ (op_move hf428) rfl ?_
                      refine WL.cut 4 (fun fq wq => fq 2 = (Value.pointer (some ⟨b1, 0, none⟩)) ∧ fq 3 = (Value.pointer (some ⟨b9, 0, none⟩)) ∧ fq 6 = (Value.pointer (some ⟨b192, 0, none⟩)) ∧ fq 7 = (Value.int .i64 x108.2.2.2) ∧ fq 10 = (Value.pointer (some ⟨b238, 0, none⟩)) ∧ fq 82 = (Value.bool (x411 || (x228.2.2.2 != x108.2.2.2))) ∧ St wd10 wq [bx b192 [u183, (Value.int .i64 x108.2.1), u185], (Ty.sl (Ty.i .i64)).at u183 x108.1, (Ty.sl (Ty.sl (Ty.sl (Ty.i .i64)))).at u185 x108.2.2.1, (Ty.sl (Ty.i .i64)).at u230 x228.1, (Ty.sl (Ty.sl (Ty.sl (Ty.i .i64)))).at u232 x228.2.2.1, bx b238 [u230, (Value.int .i64 x228.2.1), u232]]) ?_ ?_
                      · rcases Bool.eq_false_or_eq_true x411 with hc430 | hc430
                        · refine WL.gskip rfl (bool_of rfl hc430) rfl ?_
                          refine WL.gskip rfl (bool_of rfl hc430) rfl ?_
                          refine WL.gskip rfl (bool_of rfl hc430) rfl ?_
                          refine WL.val (Value.bool true) _ (op_pick_t (evb_of rfl hc430) rfl) rfl ?_
                          refine WL.nil ?_
                          exact ⟨rfl, hf422, hf423, hf424, hf425, hf426, (orT hc430), hS429⟩
                        · refine WL.grun rfl (bool_of rfl hc430) ?_
                          refine WL.val (Value.int .i64 x228.2.2.2) _ (op_move hf427) rfl ?_
                          refine WL.grun rfl (bool_of rfl hc430) ?_
                          refine WL.val (Value.int .i64 x108.2.2.2) _ (op_move hf425) rfl ?_
                          refine WL.grun rfl (bool_of rfl hc430) ?_
                          refine WL.val (Value.bool (x228.2.2.2 != x108.2.2.2)) _ (op_neq rfl rfl) rfl ?_
                          refine WL.val (Value.bool (x228.2.2.2 != x108.2.2.2)) _ (op_pick_f (evb_of rfl hc430) rfl) rfl ?_
                          refine WL.nil ?_
                          exact ⟨rfl, hf422, hf423, hf424, hf425, hf426, (orF hc430), hS429⟩
                      · intro f431 wd432 hq433
                        obtain ⟨hf434, hf435, hf436, hf437, hf438, hf439, hS440⟩ := hq433
                        refine WL.nil ?_
                        show W _ _ _ _ _ _
                        refine W.cond (x411 || (x228.2.2.2 != x108.2.2.2)) hf439 (fun hc441 => ?_) (fun hc441 => ?_)
                        · replace h := ip h hc441
                          refine W.seq (W.region ?_)
                          refine WL.val (Value.bool false) _ (op_assign rfl) rfl ?_
                          refine WL.nil ?_
                          show W _ _ _ _ _ _
                          refine W.ret ?_
                          obtain rfl := Option.some.inj h
                          show FinP _ _ _ _ _ _ _
                          exact FinP.ret _ (res1 rfl rfl) ⟨rfl, (Ext.trans hE15 hS440.ext)⟩
                        · replace h := inegb h hc441
                          refine W.skip ?_
                          show W _ _ _ _ _ _
                          refine W.seq (W.region ?_)
                          refine WL.val (Value.int .i64 (1 : Int)) _ (op_assign rfl) rfl ?_
                          refine WL.nil ?_
                          show W _ _ _ _ _ _
                          refine W.seq (W.region ?_)
                          refine WL.val (Value.agg #[u230, (Value.int .i64 x228.2.1), u232]) _ (op_loadBox st_30 hf438 (St.boxAt hS440 5 rfl) rfl rfl) rfl ?_
                          refine WL.val (Value.int .i64 (1 : Int)) _ (op_move rfl) rfl ?_
                          obtain ⟨x443, hx444, h⟩ := bs h
                          have hS445 := St.fold [(Ty.sl (Ty.i .i64)).at u230 x228.1, (Ty.sl (Ty.sl (Ty.sl (Ty.i .i64)))).at u232 x228.2.2.1] [bx b192 [u183, (Value.int .i64 x108.2.1), u185], (Ty.sl (Ty.i .i64)).at u183 x108.1, (Ty.sl (Ty.sl (Ty.sl (Ty.i .i64)))).at u185 x108.2.2.1, bx b238 [u230, (Value.int .i64 x228.2.1), u232]] (St.pick hS440 [3, 4, 0, 1, 2, 5] rfl)
                          refine WL.call _ (op_call fn_14 (args2 rfl rfl)) (c_laws_markCocycle hS445 hr231 (inR_i64.2 (show (-9223372036854775808 : Int) ≤ 1 ∧ (1 : Int) ≤ 9223372036854775807 from by decide)) hx444) rfl ?_
                          rintro _ wd448 ⟨rfl, hr449, hS446⟩
                          have hS447 := St.pick (St.unfold [(Ty.sl (Ty.i .i64)).at u230 x443.2.1, (Ty.sl (Ty.sl (Ty.sl (Ty.i .i64)))).at u232 x443.2.2] [bx b192 [u183, (Value.int .i64 x108.2.1), u185], (Ty.sl (Ty.i .i64)).at u183 x108.1, (Ty.sl (Ty.sl (Ty.sl (Ty.i .i64)))).at u185 x108.2.2.1, bx b238 [u230, (Value.int .i64 x228.2.1), u232]] hS446) [2, 3, 4, 0, 1, 5] rfl
                          replace hS447 : St wd10 wd448 [bx b192 [u183, (Value.int .i64 x108.2.1), u185], (Ty.sl (Ty.i .i64)).at u183 x108.1, (Ty.sl (Ty.sl (Ty.sl (Ty.i .i64)))).at u185 x108.2.2.1, (Ty.sl (Ty.i .i64)).at u230 x443.2.1, (Ty.sl (Ty.sl (Ty.sl (Ty.i .i64)))).at u232 x443.2.2, bx b238 [u230, (Value.int .i64 x228.2.1), u232]] := hS447
                          refine WL.val (Value.int .i64 x443.1) _ (op_assign rfl) rfl ?_
                          refine WL.nil ?_
                          show W _ _ _ _ _ _
                          refine W.seq (W.region ?_)
                          refine WL.val (Value.int .i64 (1 : Int)) _ (op_assign rfl) rfl ?_
                          refine WL.nil ?_
                          show W _ _ _ _ _ _
                          refine W.seq (W.region ?_)
                          refine WL.val (Value.agg #[u230, (Value.int .i64 x228.2.1), u232]) _ (op_loadBox st_30 hf438 (St.boxAt hS447 5 rfl) rfl rfl) rfl ?_
                          refine WL.val (Value.int .i64 (1 : Int)) _ (op_move rfl) rfl ?_
                          obtain ⟨x450, hx451, h⟩ := bs h
                          refine WL.call _ (op_call fn_35 (args2 rfl rfl)) (c_laws_heldCocycle (St.rep (t := (Ty.sl (Ty.i .i64))) hS447 3 rfl) hr231 (St.rep (t := (Ty.sl (Ty.sl (Ty.sl (Ty.i .i64))))) hS447 4 rfl) (inR_i64.2 (show (-9223372036854775808 : Int) ≤ 1 ∧ (1 : Int) ≤ 9223372036854775807 from by decide)) hx451) rfl ?_
                          rintro _ wd453 ⟨rfl, hr452, he454⟩
                          have hS456 := St.extend hS447 he454
                          replace hS456 : St wd10 wd453 [bx b192 [u183, (Value.int .i64 x108.2.1), u185], (Ty.sl (Ty.i .i64)).at u183 x108.1, (Ty.sl (Ty.sl (Ty.sl (Ty.i .i64)))).at u185 x108.2.2.1, (Ty.sl (Ty.i .i64)).at u230 x443.2.1, (Ty.sl (Ty.sl (Ty.sl (Ty.i .i64)))).at u232 x443.2.2, bx b238 [u230, (Value.int .i64 x228.2.1), u232]] := hS456
                          refine WL.val (Value.int .i64 x450) _ (op_assign rfl) rfl ?_
                          refine WL.nil ?_
                          show W _ _ _ _ _ _
                          refine W.seq (W.seq (W.region ?_))
                          refine WL.val (Value.int .i64 x450) _ (op_move rfl) rfl ?_
                          refine WL.val (Value.bool (decide (x450 < (0 : Int)))) _ (op_lss rfl rfl) rfl ?_
                          refine WL.nil ?_
                          show W _ _ _ _ _ _
                          refine W.cond (decide (x450 < (0 : Int))) rfl (fun hc457 => ?_) (fun hc457 => ?_)
                          · replace h := ip h hc457
                            refine W.seq (W.region ?_)
                            refine WL.val (Value.bool false) _ (op_assign rfl) rfl ?_
                            refine WL.nil ?_
                            show W _ _ _ _ _ _
                            refine W.ret ?_
                            obtain rfl := Option.some.inj h
                            show FinP _ _ _ _ _ _ _
                            exact FinP.ret _ (res1 rfl rfl) ⟨rfl, (Ext.trans hE15 hS456.ext)⟩
                          · replace h := inegb h hc457
                            refine W.skip ?_
                            show W _ _ _ _ _ _
                            refine W.seq (W.seq (W.region ?_))
                            refine WL.val (Value.int .i64 x450) _ (op_move rfl) rfl ?_
                            refine WL.val (Value.int .i64 x443.1) _ (op_move rfl) rfl ?_
                            refine WL.val (Value.bool (x450 != x443.1)) _ (op_neq rfl rfl) rfl ?_
                            refine WL.nil ?_
                            show W _ _ _ _ _ _
                            refine W.cond (x450 != x443.1) rfl (fun hc459 => ?_) (fun hc459 => ?_)
                            · replace h := ip h hc459
                              refine W.seq (W.region ?_)
                              refine WL.val (Value.bool false) _ (op_assign rfl) rfl ?_
                              refine WL.nil ?_
                              show W _ _ _ _ _ _
                              refine W.ret ?_
                              obtain rfl := Option.some.inj h
                              show FinP _ _ _ _ _ _ _
                              exact FinP.ret _ (res1 rfl rfl) ⟨rfl, (Ext.trans hE15 hS456.ext)⟩
                            · replace h := inegb h hc459
                              refine W.skip ?_
                              show W _ _ _ _ _ _
                              refine W.seq ?_
                              obtain ⟨x479, hx480, h⟩ := bs h
                              obtain ⟨x505, hx506, h⟩ := bs h
                              obtain ⟨x533, hx534, h⟩ := bs h
                              refine W.drawR mixo 9 [7] [fun _ v S w' => v = (Value.agg #[v_aC_Orders, (Value.int .i64 aC_Modulus), v_aC_Values]) ∧ InR .i64 aC_Modulus, fun _ v S w' => ∃ (uu0 : Value) (uu1 : Value), v = (Value.agg #[uu0, (Value.int .i64 x479.2.1), uu1]) ∧ InR .i64 x479.2.1 ∧ SepS S w' [(Ty.sl (Ty.i .i64)).at uu0 x479.1, (Ty.sl (Ty.sl (Ty.sl (Ty.i .i64)))).at uu1 x479.2.2], fun _ v S w' => v = (Value.agg #[v_aD_Orders, (Value.int .i64 aD_Modulus), v_aD_Values]) ∧ InR .i64 aD_Modulus, fun _ v S w' => ∃ (uu0 : Value) (uu1 : Value), v = (Value.agg #[uu0, (Value.int .i64 x505.2.1), uu1]) ∧ InR .i64 x505.2.1 ∧ SepS S w' [(Ty.sl (Ty.i .i64)).at uu0 x505.1, (Ty.sl (Ty.sl (Ty.sl (Ty.i .i64)))).at uu1 x505.2.2], fun _ v S w' => ∃ (uu0 : Value) (uu1 : Value), v = (Value.tuple #[(Value.agg #[uu0, (Value.int .i64 x533.2.1), uu1]), (Value.int .i64 x533.2.2.2)]) ∧ InR .i64 x533.2.1 ∧ InR .i64 x533.2.2.2 ∧ SepS S w' [(Ty.sl (Ty.i .i64)).at uu0 x533.1, (Ty.sl (Ty.sl (Ty.sl (Ty.i .i64)))).at uu1 x533.2.2.1], fun f v _ _ => v = f 99, fun f v _ _ => tupGet (f 94) 0 = some v, fun _ v _ _ => v = (Value.int .i64 x533.2.2.2) ∧ InR .i64 x533.2.2.2, fun _ v S w' => ∃ b : Nat, v = Value.pointer (some ⟨b, 0, none⟩) ∧ SepS S w' [bx b [(Value.slice none 0 0), (Value.int .i64 (0 : Int)), (Value.slice none 0 0)]]] (by kernel_rfl) (by kernel_rfl) ⟨⟨fun _ _ _ _ _ he ⟨h0, h1⟩ => ⟨h0, h1⟩, fun _ _ _ _ _ _ h => h⟩, ⟨fun _ _ _ _ _ he ⟨uu0, uu1, h0, h1, r0⟩ => ⟨uu0, uu1, h0, h1, SepS.extend he r0⟩, fun _ _ _ _ _ _ h => h⟩, ⟨fun _ _ _ _ _ he ⟨h0, h1⟩ => ⟨h0, h1⟩, fun _ _ _ _ _ _ h => h⟩, ⟨fun _ _ _ _ _ he ⟨uu0, uu1, h0, h1, r0⟩ => ⟨uu0, uu1, h0, h1, SepS.extend he r0⟩, fun _ _ _ _ _ _ h => h⟩, ⟨fun _ _ _ _ _ he ⟨uu0, uu1, h0, h1, h2, r0⟩ => ⟨uu0, uu1, h0, h1, h2, SepS.extend he r0⟩, fun _ _ _ _ _ _ h => h⟩, ⟨fun _ _ _ _ _ _ h => h, fun _ _ _ _ _ hf h => h.trans (hf 4 99 rfl rfl)⟩, ⟨fun _ _ _ _ _ _ h => h, fun _ _ _ _ _ hf h => (congrArg (fun x => tupGet x 0) (hf 5 94 rfl rfl)).symm.trans h⟩, ⟨fun _ _ _ _ _ _ h => h, fun _ _ _ _ _ _ h => h⟩, ⟨fun _ _ _ _ _ he ⟨b, h1, h2⟩ => ⟨b, h1, SepS.extend he h2⟩, fun _ _ _ _ _ _ h => h⟩, trivial⟩ ⟨?_, ?_, ?_, ?_, ?_, ?_, ?_, ?_, ?_, trivial⟩ ?_
                              · refine ObX.op rfl ?_
                                intro f461 wd462 he463 hout464 hphi465
                                have hS466 : St wd10 wd462 [bx b192 [u183, (Value.int .i64 x108.2.1), u185], (Ty.sl (Ty.i .i64)).at u183 x108.1, (Ty.sl (Ty.sl (Ty.sl (Ty.i .i64)))).at u185 x108.2.2.1, (Ty.sl (Ty.i .i64)).at u230 x443.2.1, (Ty.sl (Ty.sl (Ty.sl (Ty.i .i64)))).at u232 x443.2.2, bx b238 [u230, (Value.int .i64 x228.2.1), u232]] := St.extend hS456 he463
                                have e467 : f461 2 = (Value.pointer (some ⟨b1, 0, none⟩)) := (hout464 2 rfl).trans hf434
                                exact OpX.val (Value.agg #[v_aC_Orders, (Value.int .i64 aC_Modulus), v_aC_Values]) wd462 rfl (op_loadBox st_25 e467 (BoxAt.lift (Ext.trans hE16 hS466.ext) hx6) rfl rfl) (Ext.refl _) ⟨rfl, r_aC_Modulus⟩
                              · refine ObX.op rfl ?_
                                intro f468 wd469 he470 hout471 hphi472
                                have hS473 : St wd10 wd469 [bx b192 [u183, (Value.int .i64 x108.2.1), u185], (Ty.sl (Ty.i .i64)).at u183 x108.1, (Ty.sl (Ty.sl (Ty.sl (Ty.i .i64)))).at u185 x108.2.2.1, (Ty.sl (Ty.i .i64)).at u230 x443.2.1, (Ty.sl (Ty.sl (Ty.sl (Ty.i .i64)))).at u232 x443.2.2, bx b238 [u230, (Value.int .i64 x228.2.1), u232]] := St.extend hS456 he470
                                obtain ⟨S474, hS475, hf476⟩ := hphi472 0 95 _ rfl rfl rfl
                                obtain ⟨e477, hr478⟩ := hf476
                                refine OpX.call rfl (op_call fn_10 (args1 e477)) (Ret.mono (c_laws_toCocycle (Ty.lift _ (Ext.trans hE15 hS473.ext) r_aC_Orders) hr478 (Ty.lift _ (Ext.trans hE15 hS473.ext) r_aC_Values) hx480) ?_)
                                rintro _ wd484 ⟨u481, u483, rfl, hr482, he485, hs486⟩
                                exact ⟨he485, _, newS _ _, ⟨u481, u483, rfl, hr482, (Sep.new hs486)⟩⟩
                              · refine ObX.op rfl ?_
                                intro f487 wd488 he489 hout490 hphi491
                                have hS492 : St wd10 wd488 [bx b192 [u183, (Value.int .i64 x108.2.1), u185], (Ty.sl (Ty.i .i64)).at u183 x108.1, (Ty.sl (Ty.sl (Ty.sl (Ty.i .i64)))).at u185 x108.2.2.1, (Ty.sl (Ty.i .i64)).at u230 x443.2.1, (Ty.sl (Ty.sl (Ty.sl (Ty.i .i64)))).at u232 x443.2.2, bx b238 [u230, (Value.int .i64 x228.2.1), u232]] := St.extend hS456 he489
                                have e493 : f487 3 = (Value.pointer (some ⟨b9, 0, none⟩)) := (hout490 3 rfl).trans hf435
                                exact OpX.val (Value.agg #[v_aD_Orders, (Value.int .i64 aD_Modulus), v_aD_Values]) wd488 rfl (op_loadBox st_25 e493 (BoxAt.lift hS492.ext hx14) rfl rfl) (Ext.refl _) ⟨rfl, r_aD_Modulus⟩
                              · refine ObX.op rfl ?_
                                intro f494 wd495 he496 hout497 hphi498
                                have hS499 : St wd10 wd495 [bx b192 [u183, (Value.int .i64 x108.2.1), u185], (Ty.sl (Ty.i .i64)).at u183 x108.1, (Ty.sl (Ty.sl (Ty.sl (Ty.i .i64)))).at u185 x108.2.2.1, (Ty.sl (Ty.i .i64)).at u230 x443.2.1, (Ty.sl (Ty.sl (Ty.sl (Ty.i .i64)))).at u232 x443.2.2, bx b238 [u230, (Value.int .i64 x228.2.1), u232]] := St.extend hS456 he496
                                obtain ⟨S500, hS501, hf502⟩ := hphi498 2 97 _ rfl rfl rfl
                                obtain ⟨e503, hr504⟩ := hf502
                                refine OpX.call rfl (op_call fn_10 (args1 e503)) (Ret.mono (c_laws_toCocycle (Ty.lift _ (Ext.trans hE15 hS499.ext) r_aD_Orders) hr504 (Ty.lift _ (Ext.trans hE15 hS499.ext) r_aD_Values) hx506) ?_)
                                rintro _ wd510 ⟨u507, u509, rfl, hr508, he511, hs512⟩
                                exact ⟨he511, _, newS _ _, ⟨u507, u509, rfl, hr508, (Sep.new hs512)⟩⟩
                              · refine ObX.op rfl ?_
                                intro f513 wd514 he515 hout516 hphi517
                                have hS518 : St wd10 wd514 [bx b192 [u183, (Value.int .i64 x108.2.1), u185], (Ty.sl (Ty.i .i64)).at u183 x108.1, (Ty.sl (Ty.sl (Ty.sl (Ty.i .i64)))).at u185 x108.2.2.1, (Ty.sl (Ty.i .i64)).at u230 x443.2.1, (Ty.sl (Ty.sl (Ty.sl (Ty.i .i64)))).at u232 x443.2.2, bx b238 [u230, (Value.int .i64 x228.2.1), u232]] := St.extend hS456 he515
                                obtain ⟨S519, hS520, hf521⟩ := hphi517 1 96 _ rfl rfl rfl
                                obtain ⟨u523, u525, e522, hr524, e522s⟩ := hf521
                                obtain ⟨S526, hS527, hf528⟩ := hphi517 3 98 _ rfl rfl rfl
                                obtain ⟨u530, u532, e529, hr531, e529s⟩ := hf528
                                refine OpX.call rfl (op_call fn_34 (args2 e522 e529)) (Ret.mono (c_impl_AddCocycles (SepS.rep (t := (Ty.sl (Ty.i .i64))) e522s 0 rfl) hr524 (SepS.rep (t := (Ty.sl (Ty.sl (Ty.sl (Ty.i .i64))))) e522s 1 rfl) (SepS.rep (t := (Ty.sl (Ty.i .i64))) e529s 0 rfl) hr531 (SepS.rep (t := (Ty.sl (Ty.sl (Ty.sl (Ty.i .i64))))) e529s 1 rfl) hx534) ?_)
                                rintro _ wd539 ⟨u535, u537, rfl, hr536, hr538, he540, hs541⟩
                                exact ⟨he540, _, newS _ _, ⟨u535, u537, rfl, hr536, hr538, (Sep.new hs541)⟩⟩
                              · refine ObX.op rfl ?_
                                intro f542 wd543 he544 hout545 hphi546
                                have hS547 : St wd10 wd543 [bx b192 [u183, (Value.int .i64 x108.2.1), u185], (Ty.sl (Ty.i .i64)).at u183 x108.1, (Ty.sl (Ty.sl (Ty.sl (Ty.i .i64)))).at u185 x108.2.2.1, (Ty.sl (Ty.i .i64)).at u230 x443.2.1, (Ty.sl (Ty.sl (Ty.sl (Ty.i .i64)))).at u232 x443.2.2, bx b238 [u230, (Value.int .i64 x228.2.1), u232]] := St.extend hS456 he544
                                obtain ⟨S548, hS549, hf550⟩ := hphi546 4 99 _ rfl rfl rfl
                                obtain ⟨u552, u554, e551, hr553, hr555, e551s⟩ := hf550
                                exact OpX.val (f542 99) wd543 rfl (op_move rfl) (Ext.refl _) rfl
                              · refine ObX.op rfl ?_
                                intro f556 wd557 he558 hout559 hphi560
                                have hS561 : St wd10 wd557 [bx b192 [u183, (Value.int .i64 x108.2.1), u185], (Ty.sl (Ty.i .i64)).at u183 x108.1, (Ty.sl (Ty.sl (Ty.sl (Ty.i .i64)))).at u185 x108.2.2.1, (Ty.sl (Ty.i .i64)).at u230 x443.2.1, (Ty.sl (Ty.sl (Ty.sl (Ty.i .i64)))).at u232 x443.2.2, bx b238 [u230, (Value.int .i64 x228.2.1), u232]] := St.extend hS456 he558
                                obtain ⟨S565, hS566, hf567⟩ := hphi560 4 99 _ rfl rfl rfl
                                obtain ⟨u569, u571, e568, hr570, hr572, e568s⟩ := hf567
                                obtain ⟨S562, hS563, hf564⟩ := hphi560 5 94 _ rfl rfl rfl
                                have e573 : f556 94 = (Value.tuple #[(Value.agg #[u569, (Value.int .i64 x533.2.1), u571]), (Value.int .i64 x533.2.2.2)]) := Eq.trans hf564 e568
                                exact OpX.val (Value.agg #[u569, (Value.int .i64 x533.2.1), u571]) wd557 rfl (op_extract e573 rfl) (Ext.refl _) (congrArg (fun x => tupGet x 0) e573)
                              · refine ObX.fl rfl ?_
                                intro f574 wd575 he576 hout577 hphi578
                                have hS579 : St wd10 wd575 [bx b192 [u183, (Value.int .i64 x108.2.1), u185], (Ty.sl (Ty.i .i64)).at u183 x108.1, (Ty.sl (Ty.sl (Ty.sl (Ty.i .i64)))).at u185 x108.2.2.1, (Ty.sl (Ty.i .i64)).at u230 x443.2.1, (Ty.sl (Ty.sl (Ty.sl (Ty.i .i64)))).at u232 x443.2.2, bx b238 [u230, (Value.int .i64 x228.2.1), u232]] := St.extend hS456 he576
                                obtain ⟨S583, hS584, hf585⟩ := hphi578 4 99 _ rfl rfl rfl
                                obtain ⟨u587, u589, e586, hr588, hr590, e586s⟩ := hf585
                                obtain ⟨S580, hS581, hf582⟩ := hphi578 5 94 _ rfl rfl rfl
                                have e591 : f574 94 = (Value.tuple #[(Value.agg #[u587, (Value.int .i64 x533.2.1), u589]), (Value.int .i64 x533.2.2.2)]) := Eq.trans hf582 e586
                                exact ⟨rfl, (Value.int .i64 x533.2.2.2), fun _ => (op_extract e591 rfl), ⟨rfl, hr590⟩⟩
                              · refine ObX.op rfl ?_
                                intro f592 wd593 he594 hout595 hphi596
                                have hS597 : St wd10 wd593 [bx b192 [u183, (Value.int .i64 x108.2.1), u185], (Ty.sl (Ty.i .i64)).at u183 x108.1, (Ty.sl (Ty.sl (Ty.sl (Ty.i .i64)))).at u185 x108.2.2.1, (Ty.sl (Ty.i .i64)).at u230 x443.2.1, (Ty.sl (Ty.sl (Ty.sl (Ty.i .i64)))).at u232 x443.2.2, bx b238 [u230, (Value.int .i64 x228.2.1), u232]] := St.extend hS456 he594
                                exact OpX.valO _ _ rfl (op_alloc (cs := [(Value.slice none 0 0), (Value.int .i64 (0 : Int)), (Value.slice none 0 0)].toArray) ze_30 rfl) (Ext.alloc _ _) ⟨_, rfl, Sep.new (sep_box _ [(Value.slice none 0 0), (Value.int .i64 (0 : Int)), (Value.slice none 0 0)] _)⟩
                              · intro f598 wd599 Ss600 he601 hout602 hSn603 hSd604 hphi605
                                show WL _ _ _ _ _ _ _
                                have hS606 : St wd10 wd599 [bx b192 [u183, (Value.int .i64 x108.2.1), u185], (Ty.sl (Ty.i .i64)).at u183 x108.1, (Ty.sl (Ty.sl (Ty.sl (Ty.i .i64)))).at u185 x108.2.2.1, (Ty.sl (Ty.i .i64)).at u230 x443.2.1, (Ty.sl (Ty.sl (Ty.sl (Ty.i .i64)))).at u232 x443.2.2, bx b238 [u230, (Value.int .i64 x228.2.1), u232]] := St.extend hS456 he601
                                obtain ⟨u608, u610, e607, hr609, hr611, e607s⟩ := hphi605 4 99 _ (by decide) rfl rfl
                                have e612 : f598 94 = (Value.tuple #[(Value.agg #[u608, (Value.int .i64 x533.2.1), u610]), (Value.int .i64 x533.2.2.2)]) := Eq.trans (hphi605 5 94 _ (by decide) rfl rfl) e607
                                have e613 : f598 100 = (Value.agg #[u608, (Value.int .i64 x533.2.1), u610]) := Option.some.inj (Eq.trans (Eq.symm (hphi605 6 100 _ (by decide) rfl rfl)) (congrArg (fun x => tupGet x 0) e612))
                                obtain ⟨e614, hr615⟩ : f598 101 = (Value.int .i64 x533.2.2.2) ∧ InR .i64 x533.2.2.2 := hphi605 7 101 _ (by decide) rfl rfl
                                obtain ⟨b617, e616, e616s⟩ : ∃ b : Nat, f598 15 = Value.pointer (some ⟨b, 0, none⟩) ∧ SepS (Ss600 8) wd599 [bx b [(Value.slice none 0 0), (Value.int .i64 (0 : Int)), (Value.slice none 0 0)]] := hphi605 8 15 _ (by decide) rfl rfl
                                have e618 : f598 6 = (Value.pointer (some ⟨b192, 0, none⟩)) := (hout602 6 rfl).trans hf436
                                have e619 : f598 7 = (Value.int .i64 x108.2.2.2) := (hout602 7 rfl).trans hf437
                                have e620 : f598 10 = (Value.pointer (some ⟨b238, 0, none⟩)) := (hout602 10 rfl).trans hf438
                                have e621 : f598 13 = (Value.int .i64 x443.1) := (hout602 13 rfl).trans rfl
                                have hS622 := St.joinS hS456 he601 hSn603 (SepS.consS hSd604 rfl e616s (SepS.consS hSd604 rfl e607s SepS.nilS))
                                replace hS622 : St wd10 wd599 [bx b192 [u183, (Value.int .i64 x108.2.1), u185], (Ty.sl (Ty.i .i64)).at u183 x108.1, (Ty.sl (Ty.sl (Ty.sl (Ty.i .i64)))).at u185 x108.2.2.1, (Ty.sl (Ty.i .i64)).at u230 x443.2.1, (Ty.sl (Ty.sl (Ty.sl (Ty.i .i64)))).at u232 x443.2.2, bx b238 [u230, (Value.int .i64 x228.2.1), u232], bx b617 [(Value.slice none 0 0), (Value.int .i64 (0 : Int)), (Value.slice none 0 0)], (Ty.sl (Ty.i .i64)).at u608 x533.1, (Ty.sl (Ty.sl (Ty.sl (Ty.i .i64)))).at u610 x533.2.2.1] := hS622
                                refine WL.storeBox [u608, (Value.int .i64 x533.2.1), u610] hS622 (k := 6) rfl e616 e613 (us := [u608, (Value.int .i64 x533.2.1), u610]) rfl sz_30 rfl rfl (all_rep (St.rep (t := (Ty.sl (Ty.i .i64))) hS622 7 rfl) (all_cons rfl (all_rep (St.rep (t := (Ty.sl (Ty.sl (Ty.sl (Ty.i .i64))))) hS622 8 rfl) all_nil))) rfl ?_
                                intro wd623 hS624
                                replace hS624 : St wd10 wd623 [bx b192 [u183, (Value.int .i64 x108.2.1), u185], (Ty.sl (Ty.i .i64)).at u183 x108.1, (Ty.sl (Ty.sl (Ty.sl (Ty.i .i64)))).at u185 x108.2.2.1, (Ty.sl (Ty.i .i64)).at u230 x443.2.1, (Ty.sl (Ty.sl (Ty.sl (Ty.i .i64)))).at u232 x443.2.2, bx b238 [u230, (Value.int .i64 x228.2.1), u232], bx b617 [u608, (Value.int .i64 x533.2.1), u610], (Ty.sl (Ty.i .i64)).at u608 x533.1, (Ty.sl (Ty.sl (Ty.sl (Ty.i .i64)))).at u610 x533.2.2.1] := hS624
                                refine WL.val (Value.int .i64 x533.2.2.2) _ (op_assign e614) rfl ?_
                                refine WL.nil ?_
                                show W _ _ _ _ _ _
                                refine W.seq (W.seq (W.region ?_))
                                refine WL.val (Value.agg #[u608, (Value.int .i64 x533.2.1), u610]) _ (op_loadBox st_30 e616 (St.boxAt hS624 6 rfl) rfl rfl) rfl ?_
                                refine WL.val (Value.agg #[u183, (Value.int .i64 x108.2.1), u185]) _ (op_loadBox st_30 e618 (St.boxAt hS624 0 rfl) rfl rfl) rfl ?_
                                obtain ⟨x625, hx626, h⟩ := bs h
                                refine WL.call _ (op_call fn_13 (args2 rfl rfl)) (c_laws_eqCocycle (St.rep (t := (Ty.sl (Ty.i .i64))) hS624 7 rfl) hr609 (St.rep (t := (Ty.sl (Ty.sl (Ty.sl (Ty.i .i64))))) hS624 8 rfl) (St.rep (t := (Ty.sl (Ty.i .i64))) hS624 1 rfl) hr184 (St.rep (t := (Ty.sl (Ty.sl (Ty.sl (Ty.i .i64))))) hS624 2 rfl) hx626) rfl ?_
                                rintro _ wd627 ⟨rfl, he628⟩
                                have hS630 := St.extend hS624 he628
                                replace hS630 : St wd10 wd627 [bx b192 [u183, (Value.int .i64 x108.2.1), u185], (Ty.sl (Ty.i .i64)).at u183 x108.1, (Ty.sl (Ty.sl (Ty.sl (Ty.i .i64)))).at u185 x108.2.2.1, (Ty.sl (Ty.i .i64)).at u230 x443.2.1, (Ty.sl (Ty.sl (Ty.sl (Ty.i .i64)))).at u232 x443.2.2, bx b238 [u230, (Value.int .i64 x228.2.1), u232], bx b617 [u608, (Value.int .i64 x533.2.1), u610], (Ty.sl (Ty.i .i64)).at u608 x533.1, (Ty.sl (Ty.sl (Ty.sl (Ty.i .i64)))).at u610 x533.2.2.1] := hS630
                                refine WL.val (Value.bool (!x625)) _ (op_not rfl) rfl ?_
                                refine WL.val (Value.bool (!x625)) _ (op_move rfl) rfl ?_
                                refine WL.cut 4 (fun fq wq => fq 10 = (Value.pointer (some ⟨b238, 0, none⟩)) ∧ fq 13 = (Value.int .i64 x443.1) ∧ fq 110 = (Value.bool ((!x625) || (x533.2.2.2 != x108.2.2.2))) ∧ St wd10 wq [(Ty.sl (Ty.i .i64)).at u230 x443.2.1, (Ty.sl (Ty.sl (Ty.sl (Ty.i .i64)))).at u232 x443.2.2, bx b238 [u230, (Value.int .i64 x228.2.1), u232]]) ?_ ?_
                                · rcases Bool.eq_false_or_eq_true (!x625) with hc631 | hc631
                                  · refine WL.gskip rfl (bool_of rfl hc631) rfl ?_
                                    refine WL.gskip rfl (bool_of rfl hc631) rfl ?_
                                    refine WL.gskip rfl (bool_of rfl hc631) rfl ?_
                                    refine WL.val (Value.bool true) _ (op_pick_t (evb_of rfl hc631) rfl) rfl ?_
                                    refine WL.nil ?_
                                    exact ⟨rfl, e620, e621, (orT hc631), (St.pick hS630 [3, 4, 5] rfl)⟩
                                  · refine WL.grun rfl (bool_of rfl hc631) ?_
                                    refine WL.val (Value.int .i64 x533.2.2.2) _ (op_move rfl) rfl ?_
                                    refine WL.grun rfl (bool_of rfl hc631) ?_
                                    refine WL.val (Value.int .i64 x108.2.2.2) _ (op_move e619) rfl ?_
                                    refine WL.grun rfl (bool_of rfl hc631) ?_
                                    refine WL.val (Value.bool (x533.2.2.2 != x108.2.2.2)) _ (op_neq rfl rfl) rfl ?_
                                    refine WL.val (Value.bool (x533.2.2.2 != x108.2.2.2)) _ (op_pick_f (evb_of rfl hc631) rfl) rfl ?_
                                    refine WL.nil ?_
                                    exact ⟨rfl, e620, e621, (orF hc631), (St.pick hS630 [3, 4, 5] rfl)⟩
                                · intro f632 wd633 hq634
                                  obtain ⟨hf635, hf636, hf637, hS638⟩ := hq634
                                  refine WL.nil ?_
                                  show W _ _ _ _ _ _
                                  refine W.cond ((!x625) || (x533.2.2.2 != x108.2.2.2)) hf637 (fun hc639 => ?_) (fun hc639 => ?_)
                                  · replace h := ip h hc639
                                    refine W.seq (W.region ?_)
                                    refine WL.val (Value.bool false) _ (op_assign rfl) rfl ?_
                                    refine WL.nil ?_
                                    show W _ _ _ _ _ _
                                    refine W.ret ?_
                                    obtain rfl := Option.some.inj h
                                    show FinP _ _ _ _ _ _ _
                                    exact FinP.ret _ (res1 rfl rfl) ⟨rfl, (Ext.trans hE15 hS638.ext)⟩
                                  · replace h := inegb h hc639
                                    refine W.skip ?_
                                    show W _ _ _ _ _ _
                                    refine W.seq (W.region ?_)
                                    refine WL.val (Value.int .i64 (1 : Int)) _ (op_assign rfl) rfl ?_
                                    refine WL.nil ?_
                                    show W _ _ _ _ _ _
                                    refine W.seq (W.region ?_)
                                    refine WL.val (Value.agg #[u230, (Value.int .i64 x228.2.1), u232]) _ (op_loadBox st_30 hf635 (St.boxAt hS638 2 rfl) rfl rfl) rfl ?_
                                    refine WL.val (Value.int .i64 (1 : Int)) _ (op_move rfl) rfl ?_
                                    obtain ⟨x641, hx642, h⟩ := bs h
                                    refine WL.call _ (op_call fn_35 (args2 rfl rfl)) (c_laws_heldCocycle (St.rep (t := (Ty.sl (Ty.i .i64))) hS638 0 rfl) hr231 (St.rep (t := (Ty.sl (Ty.sl (Ty.sl (Ty.i .i64))))) hS638 1 rfl) (inR_i64.2 (show (-9223372036854775808 : Int) ≤ 1 ∧ (1 : Int) ≤ 9223372036854775807 from by decide)) hx642) rfl ?_
                                    rintro _ wd644 ⟨rfl, hr643, he645⟩
                                    have hS647 := St.extend hS638 he645
                                    replace hS647 : St wd10 wd644 [(Ty.sl (Ty.i .i64)).at u230 x443.2.1, (Ty.sl (Ty.sl (Ty.sl (Ty.i .i64)))).at u232 x443.2.2, bx b238 [u230, (Value.int .i64 x228.2.1), u232]] := hS647
                                    refine WL.val (Value.int .i64 x641) _ (op_assign rfl) rfl ?_
                                    refine WL.nil ?_
                                    show W _ _ _ _ _ _
                                    refine W.seq (W.seq (W.region ?_))
                                    refine WL.val (Value.int .i64 x641) _ (op_move rfl) rfl ?_
                                    refine WL.val (Value.bool (decide (x641 < (0 : Int)))) _ (op_lss rfl rfl) rfl ?_
                                    refine WL.nil ?_
                                    show W _ _ _ _ _ _
                                    refine W.cond (decide (x641 < (0 : Int))) rfl (fun hc648 => ?_) (fun hc648 => ?_)
                                    · replace h := ip h hc648
                                      refine W.seq (W.region ?_)
                                      refine WL.val (Value.bool false) _ (op_assign rfl) rfl ?_
                                      refine WL.nil ?_
                                      show W _ _ _ _ _ _
                                      refine W.ret ?_
                                      obtain rfl := Option.some.inj h
                                      show FinP _ _ _ _ _ _ _
                                      exact FinP.ret _ (res1 rfl rfl) ⟨rfl, (Ext.trans hE15 hS647.ext)⟩
                                    · replace h := inegb h hc648
                                      refine W.skip ?_
                                      show W _ _ _ _ _ _
                                      refine W.seq (W.seq (W.region ?_))
                                      refine WL.val (Value.int .i64 x641) _ (op_move rfl) rfl ?_
                                      refine WL.val (Value.int .i64 x443.1) _ (op_move hf636) rfl ?_
                                      refine WL.val (Value.bool (x641 != x443.1)) _ (op_neq rfl rfl) rfl ?_
                                      refine WL.nil ?_
                                      show W _ _ _ _ _ _
                                      refine W.cond (x641 != x443.1) rfl (fun hc650 => ?_) (fun hc650 => ?_)
                                      · replace h := ip h hc650
                                        refine W.seq (W.region ?_)
                                        refine WL.val (Value.bool false) _ (op_assign rfl) rfl ?_
                                        refine WL.nil ?_
                                        show W _ _ _ _ _ _
                                        refine W.ret ?_
                                        obtain rfl := Option.some.inj h
                                        show FinP _ _ _ _ _ _ _
                                        exact FinP.ret _ (res1 rfl rfl) ⟨rfl, (Ext.trans hE15 hS647.ext)⟩
                                      · replace h := inegb h hc650
                                        refine W.skip ?_
                                        show W _ _ _ _ _ _
                                        refine W.seq (W.region ?_)
                                        refine WL.val (Value.bool true) _ (op_assign rfl) rfl ?_
                                        refine WL.nil ?_
                                        show W _ _ _ _ _ _
                                        refine W.ret ?_
                                        obtain rfl := Option.some.inj h
                                        show FinP _ _ _ _ _ _ _
                                        exact FinP.ret _ (res1 rfl rfl) ⟨rfl, (Ext.trans hE15 hS647.ext)⟩

end Go.VG
