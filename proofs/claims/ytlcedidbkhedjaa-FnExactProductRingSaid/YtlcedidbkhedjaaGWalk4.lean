/- The walks, part 4: each Go function returns what its plain twin returns. No condition beyond what each names. -/
import Derived.Test.YtlcedidbkhedjaaGWalk3
set_option linter.all false
namespace Go.VG
open Go.Proofs
attribute [local irreducible] W WL Sep FinP

theorem c_laws_FnExactProductRing {w : World} {aR_Table : (List (List (List Int)))} {v_aR_Table : Value} {aS_Table : (List (List (List Int)))} {v_aS_Table : Value} (r_aR_Table : (Ty.sl (Ty.sl (Ty.sl (Ty.i .i64)))).rep w v_aR_Table aR_Table) (r_aS_Table : (Ty.sl (Ty.sl (Ty.sl (Ty.i .i64)))).rep w v_aS_Table aS_Table) {res : Bool} (h : p_laws_FnExactProductRing aR_Table aS_Table  = some res) :
    Ret Try.prog 4 #[(Value.agg #[v_aR_Table]), (Value.agg #[v_aS_Table])] w (fun v w' => v = Value.bool res ∧ Ext w w') := by
  unfold p_laws_FnExactProductRing at h
  have hS0 : St w w [] := St.start w
  refine Ret.start (fn := Try.f4) Try.func4 rfl 119 rfl rfl ?_
  refine W.seq (W.region ?_)
  refine WL.box hS0 rfl (cs := [v_aR_Table]) rfl rfl ?_
  intro b1 wd2 hS3 he4 hx5
  replace hS3 : St w wd2 [bx b1 [v_aR_Table]] := hS3
  have hx6 := St.boxAt hS3 0 rfl
  have hE7 : Ext w wd2 := hS3.ext
  have hS8 : St wd2 wd2 [] := St.start wd2
  refine WL.box hS8 rfl (cs := [v_aS_Table]) rfl rfl ?_
  intro b9 wd10 hS11 he12 hx13
  replace hS11 : St wd2 wd10 [bx b9 [v_aS_Table]] := hS11
  have hx14 := St.boxAt hS11 0 rfl
  have hE15 : Ext w wd10 := (Ext.trans hE7 hS11.ext)
  have hE16 : Ext wd2 wd10 := hS11.ext
  have hS17 : St wd10 wd10 [] := St.start wd10
  refine WL.val (Value.bool false) _ (op_assign rfl) rfl ?_
  refine WL.nil ?_
  show W _ _ _ _ _ _
  refine W.seq (W.region ?_)
  refine WL.val (Value.int .i64 (1048576 : Int)) _ (op_assign rfl) rfl ?_
  refine WL.nil ?_
  show W _ _ _ _ _ _
  refine W.seq (W.region ?_)
  refine WL.val (Value.agg #[v_aR_Table]) _ (op_loadBox st_24 rfl (BoxAt.lift (Ext.trans hE16 hS17.ext) hx6) rfl rfl) rfl ?_
  refine WL.val (Value.int .i64 (1048576 : Int)) _ (op_move rfl) rfl ?_
  obtain ⟨x18, hx19, h⟩ := bs h
  refine WL.call _ (op_call fn_10 (args2 rfl rfl)) (c_laws_szRing (Ty.lift _ (Ext.trans hE15 hS17.ext) r_aR_Table) (inR_i64.2 (show (-9223372036854775808 : Int) ≤ 1048576 ∧ (1048576 : Int) ≤ 9223372036854775807 from by decide)) hx19) rfl ?_
  rintro _ wd21 ⟨rfl, hr20, he22⟩
  have hS24 := St.extend hS17 he22
  replace hS24 : St wd10 wd21 [] := hS24
  refine WL.val (Value.int .i64 x18) _ (op_assign rfl) rfl ?_
  refine WL.nil ?_
  show W _ _ _ _ _ _
  refine W.seq (W.seq (W.region ?_))
  refine WL.val (Value.int .i64 x18) _ (op_move rfl) rfl ?_
  refine WL.val (Value.bool (decide (x18 < (0 : Int)))) _ (op_lss rfl rfl) rfl ?_
  refine WL.nil ?_
  show W _ _ _ _ _ _
  refine W.cond (decide (x18 < (0 : Int))) rfl (fun hc25 => ?_) (fun hc25 => ?_)
  · replace h := ip h hc25
    refine W.seq (W.region ?_)
    refine WL.val (Value.bool true) _ (op_assign rfl) rfl ?_
    refine WL.nil ?_
    show W _ _ _ _ _ _
    refine W.ret ?_
    obtain rfl := Option.some.inj h
    show FinP _ _ _ _ _ _ _
    exact FinP.ret _ (res1 rfl rfl) ⟨rfl, (Ext.trans hE15 hS24.ext)⟩
  · replace h := inegb h hc25
    refine W.skip ?_
    show W _ _ _ _ _ _
    refine W.seq (W.region ?_)
    refine WL.val (Value.agg #[v_aS_Table]) _ (op_loadBox st_24 rfl (BoxAt.lift hS24.ext hx14) rfl rfl) rfl ?_
    refine WL.val (Value.int .i64 x18) _ (op_move rfl) rfl ?_
    obtain ⟨x27, hx28, h⟩ := bs h
    refine WL.call _ (op_call fn_10 (args2 rfl rfl)) (c_laws_szRing (Ty.lift _ (Ext.trans hE15 hS24.ext) r_aS_Table) hr20 hx28) rfl ?_
    rintro _ wd30 ⟨rfl, hr29, he31⟩
    have hS33 := St.extend hS24 he31
    replace hS33 : St wd10 wd30 [] := hS33
    refine WL.val (Value.int .i64 x27) _ (op_assign rfl) rfl ?_
    refine WL.nil ?_
    show W _ _ _ _ _ _
    refine W.seq (W.seq (W.region ?_))
    refine WL.val (Value.int .i64 x27) _ (op_move rfl) rfl ?_
    refine WL.val (Value.bool (decide (x27 < (0 : Int)))) _ (op_lss rfl rfl) rfl ?_
    refine WL.nil ?_
    show W _ _ _ _ _ _
    refine W.cond (decide (x27 < (0 : Int))) rfl (fun hc34 => ?_) (fun hc34 => ?_)
    · replace h := ip h hc34
      refine W.seq (W.region ?_)
      refine WL.val (Value.bool true) _ (op_assign rfl) rfl ?_
      refine WL.nil ?_
      show W _ _ _ _ _ _
      refine W.ret ?_
      obtain rfl := Option.some.inj h
      show FinP _ _ _ _ _ _ _
      exact FinP.ret _ (res1 rfl rfl) ⟨rfl, (Ext.trans hE15 hS33.ext)⟩
    · replace h := inegb h hc34
      refine W.skip ?_
      show W _ _ _ _ _ _
      refine W.seq ?_
      obtain ⟨x55, hx56, h⟩ := bs h
      obtain ⟨x80, hx81, h⟩ := bs h
      obtain ⟨x102, hx103, h⟩ := bs h
      refine W.drawR mixo 9 [7] [fun _ v S w' => ∃ (uu0 : Value), v = (Value.agg #[uu0]) ∧ (Ty.sl (Ty.sl (Ty.sl (Ty.i .i64)))).rep w' uu0 aR_Table, fun _ v S w' => ∃ (uu0 : Value), v = (Value.agg #[uu0]) ∧ SepS S w' [(Ty.sl (Ty.sl (Ty.sl (Ty.i .i64)))).at uu0 x55], fun _ v S w' => ∃ (uu0 : Value), v = (Value.agg #[uu0]) ∧ (Ty.sl (Ty.sl (Ty.sl (Ty.i .i64)))).rep w' uu0 aS_Table, fun _ v S w' => ∃ (uu0 : Value), v = (Value.agg #[uu0]) ∧ SepS S w' [(Ty.sl (Ty.sl (Ty.sl (Ty.i .i64)))).at uu0 x80], fun _ v S w' => ∃ (uu0 : Value), v = (Value.tuple #[(Value.agg #[uu0]), (Value.int .i64 x102.2)]) ∧ InR .i64 x102.2 ∧ SepS S w' [(Ty.sl (Ty.sl (Ty.sl (Ty.i .i64)))).at uu0 x102.1], fun f v _ _ => v = f 32, fun f v _ _ => tupGet (f 27) 0 = some v, fun _ v _ _ => v = (Value.int .i64 x102.2) ∧ InR .i64 x102.2, fun _ v S w' => ∃ b : Nat, v = Value.pointer (some ⟨b, 0, none⟩) ∧ SepS S w' [bx b [(Value.slice none 0 0)]]] (by kernel_rfl) (by kernel_rfl) ⟨⟨fun _ _ _ _ _ he ⟨uu0, h0, r0⟩ => ⟨uu0, h0, Ty.lift _ he r0⟩, fun _ _ _ _ _ _ h => h⟩, ⟨fun _ _ _ _ _ he ⟨uu0, h0, r0⟩ => ⟨uu0, h0, SepS.extend he r0⟩, fun _ _ _ _ _ _ h => h⟩, ⟨fun _ _ _ _ _ he ⟨uu0, h0, r0⟩ => ⟨uu0, h0, Ty.lift _ he r0⟩, fun _ _ _ _ _ _ h => h⟩, ⟨fun _ _ _ _ _ he ⟨uu0, h0, r0⟩ => ⟨uu0, h0, SepS.extend he r0⟩, fun _ _ _ _ _ _ h => h⟩, ⟨fun _ _ _ _ _ he ⟨uu0, h0, h1, r0⟩ => ⟨uu0, h0, h1, SepS.extend he r0⟩, fun _ _ _ _ _ _ h => h⟩, ⟨fun _ _ _ _ _ _ h => h, fun _ _ _ _ _ hf h => h.trans (hf 4 32 rfl rfl)⟩, ⟨fun _ _ _ _ _ _ h => h, fun _ _ _ _ _ hf h => (congrArg (fun x => tupGet x 0) (hf 5 27 rfl rfl)).symm.trans h⟩, ⟨fun _ _ _ _ _ _ h => h, fun _ _ _ _ _ _ h => h⟩, ⟨fun _ _ _ _ _ he ⟨b, h1, h2⟩ => ⟨b, h1, SepS.extend he h2⟩, fun _ _ _ _ _ _ h => h⟩, trivial⟩ ⟨?_, ?_, ?_, ?_, ?_, ?_, ?_, ?_, ?_, trivial⟩ ?_
      · refine ObX.op rfl ?_
        intro f36 wd37 he38 hout39 hphi40
        have hS41 : St wd10 wd37 [] := St.extend hS33 he38
        have e42 : f36 2 = (Value.pointer (some ⟨b1, 0, none⟩)) := (hout39 2 rfl).trans rfl
        exact OpX.val (Value.agg #[v_aR_Table]) wd37 rfl (op_loadBox st_24 e42 (BoxAt.lift (Ext.trans hE16 hS41.ext) hx6) rfl rfl) (Ext.refl _) ⟨v_aR_Table, rfl, (Ty.lift _ (Ext.trans hE15 hS41.ext) r_aR_Table)⟩
      · refine ObX.op rfl ?_
        intro f43 wd44 he45 hout46 hphi47
        have hS48 : St wd10 wd44 [] := St.extend hS33 he45
        obtain ⟨S49, hS50, hf51⟩ := hphi47 0 28 _ rfl rfl rfl
        obtain ⟨u53, e52, hr54⟩ := hf51
        refine OpX.call rfl (op_call fn_12 (args1 e52)) (Ret.mono (c_laws_toRing hr54 hx56) ?_)
        rintro _ wd58 ⟨u57, rfl, he59, hs60⟩
        exact ⟨he59, _, newS _ _, ⟨u57, rfl, (Sep.new hs60)⟩⟩
      · refine ObX.op rfl ?_
        intro f61 wd62 he63 hout64 hphi65
        have hS66 : St wd10 wd62 [] := St.extend hS33 he63
        have e67 : f61 3 = (Value.pointer (some ⟨b9, 0, none⟩)) := (hout64 3 rfl).trans rfl
        exact OpX.val (Value.agg #[v_aS_Table]) wd62 rfl (op_loadBox st_24 e67 (BoxAt.lift hS66.ext hx14) rfl rfl) (Ext.refl _) ⟨v_aS_Table, rfl, (Ty.lift _ (Ext.trans hE15 hS66.ext) r_aS_Table)⟩
      · refine ObX.op rfl ?_
        intro f68 wd69 he70 hout71 hphi72
        have hS73 : St wd10 wd69 [] := St.extend hS33 he70
        obtain ⟨S74, hS75, hf76⟩ := hphi72 2 30 _ rfl rfl rfl
        obtain ⟨u78, e77, hr79⟩ := hf76
        refine OpX.call rfl (op_call fn_12 (args1 e77)) (Ret.mono (c_laws_toRing hr79 hx81) ?_)
        rintro _ wd83 ⟨u82, rfl, he84, hs85⟩
        exact ⟨he84, _, newS _ _, ⟨u82, rfl, (Sep.new hs85)⟩⟩
      · refine ObX.op rfl ?_
        intro f86 wd87 he88 hout89 hphi90
        have hS91 : St wd10 wd87 [] := St.extend hS33 he88
        obtain ⟨S92, hS93, hf94⟩ := hphi90 1 29 _ rfl rfl rfl
        obtain ⟨u96, e95, e95s⟩ := hf94
        obtain ⟨S97, hS98, hf99⟩ := hphi90 3 31 _ rfl rfl rfl
        obtain ⟨u101, e100, e100s⟩ := hf99
        refine OpX.call rfl (op_call fn_17 (args2 e95 e100)) (Ret.mono (c_spec_ProductRing (SepS.rep (t := (Ty.sl (Ty.sl (Ty.sl (Ty.i .i64))))) e95s 0 rfl) (SepS.rep (t := (Ty.sl (Ty.sl (Ty.sl (Ty.i .i64))))) e100s 0 rfl) hx103) ?_)
        rintro _ wd106 ⟨u104, rfl, hr105, he107, hs108⟩
        exact ⟨he107, _, newS _ _, ⟨u104, rfl, hr105, (Sep.new hs108)⟩⟩
      · refine ObX.op rfl ?_
        intro f109 wd110 he111 hout112 hphi113
        have hS114 : St wd10 wd110 [] := St.extend hS33 he111
        obtain ⟨S115, hS116, hf117⟩ := hphi113 4 32 _ rfl rfl rfl
        obtain ⟨u119, e118, hr120, e118s⟩ := hf117
        exact OpX.val (f109 32) wd110 rfl (op_move rfl) (Ext.refl _) rfl
      · refine ObX.op rfl ?_
        intro f121 wd122 he123 hout124 hphi125
        have hS126 : St wd10 wd122 [] := St.extend hS33 he123
        obtain ⟨S130, hS131, hf132⟩ := hphi125 4 32 _ rfl rfl rfl
        obtain ⟨u134, e133, hr135, e133s⟩ := hf132
        obtain ⟨S127, hS128, hf129⟩ := hphi125 5 27 _ rfl rfl rfl
        have e136 : f121 27 = (Value.tuple #[(Value.agg #[u134]), (Value.int .i64 x102.2)]) := Eq.trans hf129 e133
        exact OpX.val (Value.agg #[u134]) wd122 rfl (op_extract e136 rfl) (Ext.refl _) (congrArg (fun x => tupGet x 0) e136)
      · refine ObX.fl rfl ?_
        intro f137 wd138 he139 hout140 hphi141
        have hS142 : St wd10 wd138 [] := St.extend hS33 he139
        obtain ⟨S146, hS147, hf148⟩ := hphi141 4 32 _ rfl rfl rfl
        obtain ⟨u150, e149, hr151, e149s⟩ := hf148
        obtain ⟨S143, hS144, hf145⟩ := hphi141 5 27 _ rfl rfl rfl
        have e152 : f137 27 = (Value.tuple #[(Value.agg #[u150]), (Value.int .i64 x102.2)]) := Eq.trans hf145 e149
        exact ⟨rfl, (Value.int .i64 x102.2), fun _ => (op_extract e152 rfl), ⟨rfl, hr151⟩⟩
      · refine ObX.op rfl ?_
        intro f153 wd154 he155 hout156 hphi157
        have hS158 : St wd10 wd154 [] := St.extend hS33 he155
        exact OpX.valO _ _ rfl (op_alloc (cs := [(Value.slice none 0 0)].toArray) ze_26 rfl) (Ext.alloc _ _) ⟨_, rfl, Sep.new (sep_box _ [(Value.slice none 0 0)] _)⟩
      · intro f159 wd160 Ss161 he162 hout163 hSn164 hSd165 hphi166
        show WL _ _ _ _ _ _ _
        have hS167 : St wd10 wd160 [] := St.extend hS33 he162
        obtain ⟨u169, e168, hr170, e168s⟩ := hphi166 4 32 _ (by decide) rfl rfl
        have e171 : f159 27 = (Value.tuple #[(Value.agg #[u169]), (Value.int .i64 x102.2)]) := Eq.trans (hphi166 5 27 _ (by decide) rfl rfl) e168
        have e172 : f159 33 = (Value.agg #[u169]) := Option.some.inj (Eq.trans (Eq.symm (hphi166 6 33 _ (by decide) rfl rfl)) (congrArg (fun x => tupGet x 0) e171))
        obtain ⟨e173, hr174⟩ : f159 34 = (Value.int .i64 x102.2) ∧ InR .i64 x102.2 := hphi166 7 34 _ (by decide) rfl rfl
        obtain ⟨b176, e175, e175s⟩ : ∃ b : Nat, f159 6 = Value.pointer (some ⟨b, 0, none⟩) ∧ SepS (Ss161 8) wd160 [bx b [(Value.slice none 0 0)]] := hphi166 8 6 _ (by decide) rfl rfl
        have e177 : f159 2 = (Value.pointer (some ⟨b1, 0, none⟩)) := (hout163 2 rfl).trans rfl
        have e178 : f159 3 = (Value.pointer (some ⟨b9, 0, none⟩)) := (hout163 3 rfl).trans rfl
        have hS179 := St.joinS hS33 he162 hSn164 (SepS.consS hSd165 rfl e175s (SepS.consS hSd165 rfl e168s SepS.nilS))
        replace hS179 : St wd10 wd160 [bx b176 [(Value.slice none 0 0)], (Ty.sl (Ty.sl (Ty.sl (Ty.i .i64)))).at u169 x102.1] := hS179
        refine WL.storeBox [u169] hS179 (k := 0) rfl e175 e172 (us := [u169]) rfl sz_26 rfl rfl (all_rep (St.rep (t := (Ty.sl (Ty.sl (Ty.sl (Ty.i .i64))))) hS179 1 rfl) all_nil) rfl ?_
        intro wd180 hS181
        replace hS181 : St wd10 wd180 [bx b176 [u169], (Ty.sl (Ty.sl (Ty.sl (Ty.i .i64)))).at u169 x102.1] := hS181
        refine WL.val (Value.int .i64 x102.2) _ (op_assign e173) rfl ?_
        refine WL.nil ?_
        show W _ _ _ _ _ _
        refine W.seq (W.region ?_)
        refine WL.val (Value.agg #[v_aR_Table]) _ (op_loadBox st_24 e177 (BoxAt.lift (Ext.trans hE16 hS181.ext) hx6) rfl rfl) rfl ?_
        obtain ⟨x182, hx183, h⟩ := bs h
        refine WL.call _ (op_call fn_12 (args1 rfl)) (c_laws_toRing (Ty.lift _ (Ext.trans hE15 hS181.ext) r_aR_Table) hx183) rfl ?_
        rintro _ wd185 ⟨u184, rfl, he186, hs187⟩
        have hS188 := St.join hS181 he186 hs187
        replace hS188 : St wd10 wd185 [bx b176 [u169], (Ty.sl (Ty.sl (Ty.sl (Ty.i .i64)))).at u169 x102.1, (Ty.sl (Ty.sl (Ty.sl (Ty.i .i64)))).at u184 x182] := hS188
        refine WL.alloc hS188 ze_26 (cs := [(Value.slice none 0 0)]) rfl rfl ?_
        intro b189 wd190 hS191 he192
        replace hS191 : St wd10 wd190 [bx b176 [u169], (Ty.sl (Ty.sl (Ty.sl (Ty.i .i64)))).at u169 x102.1, (Ty.sl (Ty.sl (Ty.sl (Ty.i .i64)))).at u184 x182, bx b189 [(Value.slice none 0 0)]] := hS191
        refine WL.storeBox [u184] hS191 (k := 3) rfl rfl rfl (us := [u184]) rfl sz_26 rfl rfl (all_rep (St.rep (t := (Ty.sl (Ty.sl (Ty.sl (Ty.i .i64))))) hS191 2 rfl) all_nil) rfl ?_
        intro wd193 hS194
        replace hS194 : St wd10 wd193 [bx b176 [u169], (Ty.sl (Ty.sl (Ty.sl (Ty.i .i64)))).at u169 x102.1, (Ty.sl (Ty.sl (Ty.sl (Ty.i .i64)))).at u184 x182, bx b189 [u184]] := hS194
        refine WL.nil ?_
        show W _ _ _ _ _ _
        refine W.seq (W.region ?_)
        refine WL.val (Value.agg #[v_aS_Table]) _ (op_loadBox st_24 e178 (BoxAt.lift hS194.ext hx14) rfl rfl) rfl ?_
        obtain ⟨x195, hx196, h⟩ := bs h
        refine WL.call _ (op_call fn_12 (args1 rfl)) (c_laws_toRing (Ty.lift _ (Ext.trans hE15 hS194.ext) r_aS_Table) hx196) rfl ?_
        rintro _ wd198 ⟨u197, rfl, he199, hs200⟩
        have hS201 := St.join hS194 he199 hs200
        replace hS201 : St wd10 wd198 [bx b176 [u169], (Ty.sl (Ty.sl (Ty.sl (Ty.i .i64)))).at u169 x102.1, (Ty.sl (Ty.sl (Ty.sl (Ty.i .i64)))).at u184 x182, bx b189 [u184], (Ty.sl (Ty.sl (Ty.sl (Ty.i .i64)))).at u197 x195] := hS201
        refine WL.alloc hS201 ze_26 (cs := [(Value.slice none 0 0)]) rfl rfl ?_
        intro b202 wd203 hS204 he205
        replace hS204 : St wd10 wd203 [bx b176 [u169], (Ty.sl (Ty.sl (Ty.sl (Ty.i .i64)))).at u169 x102.1, (Ty.sl (Ty.sl (Ty.sl (Ty.i .i64)))).at u184 x182, bx b189 [u184], (Ty.sl (Ty.sl (Ty.sl (Ty.i .i64)))).at u197 x195, bx b202 [(Value.slice none 0 0)]] := hS204
        refine WL.storeBox [u197] hS204 (k := 5) rfl rfl rfl (us := [u197]) rfl sz_26 rfl rfl (all_rep (St.rep (t := (Ty.sl (Ty.sl (Ty.sl (Ty.i .i64))))) hS204 4 rfl) all_nil) rfl ?_
        intro wd206 hS207
        replace hS207 : St wd10 wd206 [bx b176 [u169], (Ty.sl (Ty.sl (Ty.sl (Ty.i .i64)))).at u169 x102.1, (Ty.sl (Ty.sl (Ty.sl (Ty.i .i64)))).at u184 x182, bx b189 [u184], (Ty.sl (Ty.sl (Ty.sl (Ty.i .i64)))).at u197 x195, bx b202 [u197]] := hS207
        refine WL.nil ?_
        show W _ _ _ _ _ _
        refine W.seq (W.region ?_)
        refine WL.val (Value.agg #[u184]) _ (op_loadBox st_26 rfl (St.boxAt hS207 3 rfl) rfl rfl) rfl ?_
        refine WL.val (Value.agg #[u197]) _ (op_loadBox st_26 rfl (St.boxAt hS207 5 rfl) rfl rfl) rfl ?_
        obtain ⟨x208, hx209, h⟩ := bs h
        refine WL.call _ (op_call fn_18 (args2 rfl rfl)) (c_impl_ProductRing (St.rep (t := (Ty.sl (Ty.sl (Ty.sl (Ty.i .i64))))) hS207 2 rfl) (St.rep (t := (Ty.sl (Ty.sl (Ty.sl (Ty.i .i64))))) hS207 4 rfl) hx209) rfl ?_
        rintro _ wd212 ⟨u210, rfl, hr211, he213, hs214⟩
        have hS215 := St.join hS207 he213 hs214
        replace hS215 : St wd10 wd212 [bx b176 [u169], (Ty.sl (Ty.sl (Ty.sl (Ty.i .i64)))).at u169 x102.1, (Ty.sl (Ty.sl (Ty.sl (Ty.i .i64)))).at u184 x182, bx b189 [u184], (Ty.sl (Ty.sl (Ty.sl (Ty.i .i64)))).at u197 x195, bx b202 [u197], (Ty.sl (Ty.sl (Ty.sl (Ty.i .i64)))).at u210 x208.1] := hS215
        refine WL.val (Value.tuple #[(Value.agg #[u210]), (Value.int .i64 x208.2)]) _ (op_move rfl) rfl ?_
        refine WL.val (Value.agg #[u210]) _ (op_extract rfl rfl) rfl ?_
        refine WL.val (Value.int .i64 x208.2) _ (op_extract rfl rfl) rfl ?_
        refine WL.alloc hS215 ze_26 (cs := [(Value.slice none 0 0)]) rfl rfl ?_
        intro b216 wd217 hS218 he219
        replace hS218 : St wd10 wd217 [bx b176 [u169], (Ty.sl (Ty.sl (Ty.sl (Ty.i .i64)))).at u169 x102.1, (Ty.sl (Ty.sl (Ty.sl (Ty.i .i64)))).at u184 x182, bx b189 [u184], (Ty.sl (Ty.sl (Ty.sl (Ty.i .i64)))).at u197 x195, bx b202 [u197], (Ty.sl (Ty.sl (Ty.sl (Ty.i .i64)))).at u210 x208.1, bx b216 [(Value.slice none 0 0)]] := hS218
        refine WL.storeBox [u210] hS218 (k := 7) rfl rfl rfl (us := [u210]) rfl sz_26 rfl rfl (all_rep (St.rep (t := (Ty.sl (Ty.sl (Ty.sl (Ty.i .i64))))) hS218 6 rfl) all_nil) rfl ?_
        intro wd220 hS221
        replace hS221 : St wd10 wd220 [bx b176 [u169], (Ty.sl (Ty.sl (Ty.sl (Ty.i .i64)))).at u169 x102.1, (Ty.sl (Ty.sl (Ty.sl (Ty.i .i64)))).at u184 x182, bx b189 [u184], (Ty.sl (Ty.sl (Ty.sl (Ty.i .i64)))).at u197 x195, bx b202 [u197], (Ty.sl (Ty.sl (Ty.sl (Ty.i .i64)))).at u210 x208.1, bx b216 [u210]] := hS221
        refine WL.val (Value.int .i64 x208.2) _ (op_assign rfl) rfl ?_
        refine WL.nil ?_
        show W _ _ _ _ _ _
        refine W.seq (W.seq (W.region ?_))
        refine WL.val (Value.agg #[u210]) _ (op_loadBox st_26 rfl (St.boxAt hS221 7 rfl) rfl rfl) rfl ?_
        refine WL.val (Value.agg #[u169]) _ (op_loadBox st_26 e175 (St.boxAt hS221 0 rfl) rfl rfl) rfl ?_
        obtain ⟨x222, hx223, h⟩ := bs h
        refine WL.call _ (op_call fn_14 (args2 rfl rfl)) (c_laws_eqRing (St.rep (t := (Ty.sl (Ty.sl (Ty.sl (Ty.i .i64))))) hS221 6 rfl) (St.rep (t := (Ty.sl (Ty.sl (Ty.sl (Ty.i .i64))))) hS221 1 rfl) hx223) rfl ?_
        rintro _ wd224 ⟨rfl, he225⟩
        have hS227 := St.extend hS221 he225
        replace hS227 : St wd10 wd224 [bx b176 [u169], (Ty.sl (Ty.sl (Ty.sl (Ty.i .i64)))).at u169 x102.1, (Ty.sl (Ty.sl (Ty.sl (Ty.i .i64)))).at u184 x182, bx b189 [u184], (Ty.sl (Ty.sl (Ty.sl (Ty.i .i64)))).at u197 x195, bx b202 [u197], (Ty.sl (Ty.sl (Ty.sl (Ty.i .i64)))).at u210 x208.1, bx b216 [u210]] := hS227
        refine WL.val (Value.bool (!x222)) _ (op_not rfl) rfl ?_
        refine WL.val (Value.bool (!x222)) _ (op_move rfl) rfl ?_
        refine WL.cut 4 (fun fq wq => fq 2 = (Value.pointer (some ⟨b1, 0, none⟩)) ∧ fq 3 = (Value.pointer (some ⟨b9, 0, none⟩)) ∧ fq 6 = (Value.pointer (some ⟨b176, 0, none⟩)) ∧ fq 7 = (Value.int .i64 x102.2) ∧ fq 8 = (Value.pointer (some ⟨b189, 0, none⟩)) ∧ fq 9 = (Value.pointer (some ⟨b202, 0, none⟩)) ∧ fq 10 = (Value.pointer (some ⟨b216, 0, none⟩)) ∧ fq 11 = (Value.int .i64 x208.2) ∧ fq 53 = (Value.bool ((!x222) || (x208.2 != x102.2))) ∧ St wd10 wq [bx b176 [u169], (Ty.sl (Ty.sl (Ty.sl (Ty.i .i64)))).at u169 x102.1, (Ty.sl (Ty.sl (Ty.sl (Ty.i .i64)))).at u184 x182, bx b189 [u184], (Ty.sl (Ty.sl (Ty.sl (Ty.i .i64)))).at u197 x195, bx b202 [u197], (Ty.sl (Ty.sl (Ty.sl (Ty.i .i64)))).at u210 x208.1, bx b216 [u210]]) ?_ ?_
        · rcases Bool.eq_false_or_eq_true (!x222) with hc228 | hc228
          · refine WL.gskip rfl (bool_of rfl hc228) rfl ?_
            refine WL.gskip rfl (bool_of rfl hc228) rfl ?_
            refine WL.gskip rfl (bool_of rfl hc228) rfl ?_
            refine WL.val (Value.bool true) _ (op_pick_t (evb_of rfl hc228) rfl) rfl ?_
            refine WL.nil ?_
            exact ⟨rfl, e177, e178, e175, rfl, rfl, rfl, rfl, rfl, (orT hc228), hS227⟩
          · refine WL.grun rfl (bool_of rfl hc228) ?_
            refine WL.val (Value.int .i64 x208.2) _ (op_move rfl) rfl ?_
            refine WL.grun rfl (bool_of rfl hc228) ?_
            refine WL.val (Value.int .i64 x102.2) _ (op_move rfl) rfl ?_
            refine WL.grun rfl (bool_of rfl hc228) ?_
            refine WL.val (Value.bool (x208.2 != x102.2)) _ (op_neq rfl rfl) rfl ?_
            refine WL.val (Value.bool (x208.2 != x102.2)) _ (op_pick_f (evb_of rfl hc228) rfl) rfl ?_
            refine WL.nil ?_
            exact ⟨rfl, e177, e178, e175, rfl, rfl, rfl, rfl, rfl, (orF hc228), hS227⟩
        · intro f229 wd230 hq231
          obtain ⟨hf232, hf233, hf234, hf235, hf236, hf237, hf238, hf239, hf240, hS241⟩ := hq231
          refine WL.nil ?_
          show W _ _ _ _ _ _
          refine W.cond ((!x222) || (x208.2 != x102.2)) hf240 (fun hc242 => ?_) (fun hc242 => ?_)
          · replace h := ip h hc242
            refine W.seq (W.region ?_)
            refine WL.val (Value.bool false) _ (op_assign rfl) rfl ?_
            refine WL.nil ?_
            show W _ _ _ _ _ _
            refine W.ret ?_
            obtain rfl := Option.some.inj h
            show FinP _ _ _ _ _ _ _
            exact FinP.ret _ (res1 rfl rfl) ⟨rfl, (Ext.trans hE15 hS241.ext)⟩
          · replace h := inegb h hc242
            refine W.skip ?_
            show W _ _ _ _ _ _
            refine W.seq (W.seq ?_)
            obtain ⟨x270, hx271, h⟩ := bs h
            refine W.drawR mixo 3 [] [fun _ v S w' => ∃ (uu0 : Value), v = (Value.agg #[uu0]) ∧ (Ty.sl (Ty.sl (Ty.sl (Ty.i .i64)))).rep w' uu0 x182, fun _ v S w' => ∃ (uu0 : Value), v = (Value.agg #[uu0]) ∧ (Ty.sl (Ty.sl (Ty.sl (Ty.i .i64)))).rep w' uu0 aR_Table, fun _ v S w' => ∃ (uu0 : Value), v = (Value.agg #[uu0]) ∧ SepS S w' [(Ty.sl (Ty.sl (Ty.sl (Ty.i .i64)))).at uu0 x270]] (by kernel_rfl) (by kernel_rfl) ⟨⟨fun _ _ _ _ _ he ⟨uu0, h0, r0⟩ => ⟨uu0, h0, Ty.lift _ he r0⟩, fun _ _ _ _ _ _ h => h⟩, ⟨fun _ _ _ _ _ he ⟨uu0, h0, r0⟩ => ⟨uu0, h0, Ty.lift _ he r0⟩, fun _ _ _ _ _ _ h => h⟩, ⟨fun _ _ _ _ _ he ⟨uu0, h0, r0⟩ => ⟨uu0, h0, SepS.extend he r0⟩, fun _ _ _ _ _ _ h => h⟩, trivial⟩ ⟨?_, ?_, ?_, trivial⟩ ?_
            · refine ObX.op rfl ?_
              intro f244 wd245 he246 hout247 hphi248
              have hS249 : St wd10 wd245 [bx b176 [u169], (Ty.sl (Ty.sl (Ty.sl (Ty.i .i64)))).at u169 x102.1, (Ty.sl (Ty.sl (Ty.sl (Ty.i .i64)))).at u184 x182, bx b189 [u184], (Ty.sl (Ty.sl (Ty.sl (Ty.i .i64)))).at u197 x195, bx b202 [u197], (Ty.sl (Ty.sl (Ty.sl (Ty.i .i64)))).at u210 x208.1, bx b216 [u210]] := St.extend hS241 he246
              have e250 : f244 8 = (Value.pointer (some ⟨b189, 0, none⟩)) := (hout247 8 rfl).trans hf236
              exact OpX.val (Value.agg #[u184]) wd245 rfl (op_loadBox st_26 e250 (St.boxAt hS249 3 rfl) rfl rfl) (Ext.refl _) ⟨u184, rfl, (St.rep (t := (Ty.sl (Ty.sl (Ty.sl (Ty.i .i64))))) hS249 2 rfl)⟩
            · refine ObX.op rfl ?_
              intro f251 wd252 he253 hout254 hphi255
              have hS256 : St wd10 wd252 [bx b176 [u169], (Ty.sl (Ty.sl (Ty.sl (Ty.i .i64)))).at u169 x102.1, (Ty.sl (Ty.sl (Ty.sl (Ty.i .i64)))).at u184 x182, bx b189 [u184], (Ty.sl (Ty.sl (Ty.sl (Ty.i .i64)))).at u197 x195, bx b202 [u197], (Ty.sl (Ty.sl (Ty.sl (Ty.i .i64)))).at u210 x208.1, bx b216 [u210]] := St.extend hS241 he253
              have e257 : f251 2 = (Value.pointer (some ⟨b1, 0, none⟩)) := (hout254 2 rfl).trans hf232
              exact OpX.val (Value.agg #[v_aR_Table]) wd252 rfl (op_loadBox st_24 e257 (BoxAt.lift (Ext.trans hE16 hS256.ext) hx6) rfl rfl) (Ext.refl _) ⟨v_aR_Table, rfl, (Ty.lift _ (Ext.trans hE15 hS256.ext) r_aR_Table)⟩
            · refine ObX.op rfl ?_
              intro f258 wd259 he260 hout261 hphi262
              have hS263 : St wd10 wd259 [bx b176 [u169], (Ty.sl (Ty.sl (Ty.sl (Ty.i .i64)))).at u169 x102.1, (Ty.sl (Ty.sl (Ty.sl (Ty.i .i64)))).at u184 x182, bx b189 [u184], (Ty.sl (Ty.sl (Ty.sl (Ty.i .i64)))).at u197 x195, bx b202 [u197], (Ty.sl (Ty.sl (Ty.sl (Ty.i .i64)))).at u210 x208.1, bx b216 [u210]] := St.extend hS241 he260
              obtain ⟨S264, hS265, hf266⟩ := hphi262 1 55 _ rfl rfl rfl
              obtain ⟨u268, e267, hr269⟩ := hf266
              refine OpX.call rfl (op_call fn_12 (args1 e267)) (Ret.mono (c_laws_toRing hr269 hx271) ?_)
              rintro _ wd273 ⟨u272, rfl, he274, hs275⟩
              exact ⟨he274, _, newS _ _, ⟨u272, rfl, (Sep.new hs275)⟩⟩
            · intro f276 wd277 Ss278 he279 hout280 hSn281 hSd282 hphi283
              show WL _ _ _ _ _ _ _
              have hS284 : St wd10 wd277 [bx b176 [u169], (Ty.sl (Ty.sl (Ty.sl (Ty.i .i64)))).at u169 x102.1, (Ty.sl (Ty.sl (Ty.sl (Ty.i .i64)))).at u184 x182, bx b189 [u184], (Ty.sl (Ty.sl (Ty.sl (Ty.i .i64)))).at u197 x195, bx b202 [u197], (Ty.sl (Ty.sl (Ty.sl (Ty.i .i64)))).at u210 x208.1, bx b216 [u210]] := St.extend hS241 he279
              obtain ⟨u286, e285, hr287⟩ := hphi283 0 54 _ (by decide) rfl rfl
              obtain ⟨u289, e288, e288s⟩ := hphi283 2 56 _ (by decide) rfl rfl
              have e290 : f276 2 = (Value.pointer (some ⟨b1, 0, none⟩)) := (hout280 2 rfl).trans hf232
              have e291 : f276 3 = (Value.pointer (some ⟨b9, 0, none⟩)) := (hout280 3 rfl).trans hf233
              have e292 : f276 6 = (Value.pointer (some ⟨b176, 0, none⟩)) := (hout280 6 rfl).trans hf234
              have e293 : f276 7 = (Value.int .i64 x102.2) := (hout280 7 rfl).trans hf235
              have e294 : f276 8 = (Value.pointer (some ⟨b189, 0, none⟩)) := (hout280 8 rfl).trans hf236
              have e295 : f276 9 = (Value.pointer (some ⟨b202, 0, none⟩)) := (hout280 9 rfl).trans hf237
              have e296 : f276 10 = (Value.pointer (some ⟨b216, 0, none⟩)) := (hout280 10 rfl).trans hf238
              have e297 : f276 11 = (Value.int .i64 x208.2) := (hout280 11 rfl).trans hf239
              have hS298 := St.joinS hS241 he279 hSn281 (SepS.consS hSd282 rfl e288s SepS.nilS)
              replace hS298 : St wd10 wd277 [bx b176 [u169], (Ty.sl (Ty.sl (Ty.sl (Ty.i .i64)))).at u169 x102.1, (Ty.sl (Ty.sl (Ty.sl (Ty.i .i64)))).at u184 x182, bx b189 [u184], (Ty.sl (Ty.sl (Ty.sl (Ty.i .i64)))).at u197 x195, bx b202 [u197], (Ty.sl (Ty.sl (Ty.sl (Ty.i .i64)))).at u210 x208.1, bx b216 [u210], (Ty.sl (Ty.sl (Ty.sl (Ty.i .i64)))).at u289 x270] := hS298
              obtain ⟨x299, hx300, h⟩ := bs h
              refine WL.call _ (op_call fn_14 (args2 e285 e288)) (c_laws_eqRing hr287 (St.rep (t := (Ty.sl (Ty.sl (Ty.sl (Ty.i .i64))))) hS298 8 rfl) hx300) rfl ?_
              rintro _ wd301 ⟨rfl, he302⟩
              have hS304 := St.extend hS298 he302
              replace hS304 : St wd10 wd301 [bx b176 [u169], (Ty.sl (Ty.sl (Ty.sl (Ty.i .i64)))).at u169 x102.1, (Ty.sl (Ty.sl (Ty.sl (Ty.i .i64)))).at u184 x182, bx b189 [u184], (Ty.sl (Ty.sl (Ty.sl (Ty.i .i64)))).at u197 x195, bx b202 [u197], (Ty.sl (Ty.sl (Ty.sl (Ty.i .i64)))).at u210 x208.1, bx b216 [u210], (Ty.sl (Ty.sl (Ty.sl (Ty.i .i64)))).at u289 x270] := hS304
              refine WL.val (Value.bool (!x299)) _ (op_not rfl) rfl ?_
              refine WL.nil ?_
              show W _ _ _ _ _ _
              refine W.cond (!x299) rfl (fun hc305 => ?_) (fun hc305 => ?_)
              · replace h := ip h hc305
                refine W.seq (W.region ?_)
                refine WL.val (Value.bool false) _ (op_assign rfl) rfl ?_
                refine WL.nil ?_
                show W _ _ _ _ _ _
                refine W.ret ?_
                obtain rfl := Option.some.inj h
                show FinP _ _ _ _ _ _ _
                exact FinP.ret _ (res1 rfl rfl) ⟨rfl, (Ext.trans hE15 hS304.ext)⟩
              · replace h := inegb h hc305
                refine W.skip ?_
                show W _ _ _ _ _ _
                refine W.seq (W.seq ?_)
                obtain ⟨x333, hx334, h⟩ := bs h
                refine W.drawR mixo 3 [] [fun _ v S w' => ∃ (uu0 : Value), v = (Value.agg #[uu0]) ∧ (Ty.sl (Ty.sl (Ty.sl (Ty.i .i64)))).rep w' uu0 x195, fun _ v S w' => ∃ (uu0 : Value), v = (Value.agg #[uu0]) ∧ (Ty.sl (Ty.sl (Ty.sl (Ty.i .i64)))).rep w' uu0 aS_Table, fun _ v S w' => ∃ (uu0 : Value), v = (Value.agg #[uu0]) ∧ SepS S w' [(Ty.sl (Ty.sl (Ty.sl (Ty.i .i64)))).at uu0 x333]] (by kernel_rfl) (by kernel_rfl) ⟨⟨fun _ _ _ _ _ he ⟨uu0, h0, r0⟩ => ⟨uu0, h0, Ty.lift _ he r0⟩, fun _ _ _ _ _ _ h => h⟩, ⟨fun _ _ _ _ _ he ⟨uu0, h0, r0⟩ => ⟨uu0, h0, Ty.lift _ he r0⟩, fun _ _ _ _ _ _ h => h⟩, ⟨fun _ _ _ _ _ he ⟨uu0, h0, r0⟩ => ⟨uu0, h0, SepS.extend he r0⟩, fun _ _ _ _ _ _ h => h⟩, trivial⟩ ⟨?_, ?_, ?_, trivial⟩ ?_
                · refine ObX.op rfl ?_
                  intro f307 wd308 he309 hout310 hphi311
                  have hS312 : St wd10 wd308 [bx b176 [u169], (Ty.sl (Ty.sl (Ty.sl (Ty.i .i64)))).at u169 x102.1, (Ty.sl (Ty.sl (Ty.sl (Ty.i .i64)))).at u184 x182, bx b189 [u184], (Ty.sl (Ty.sl (Ty.sl (Ty.i .i64)))).at u197 x195, bx b202 [u197], (Ty.sl (Ty.sl (Ty.sl (Ty.i .i64)))).at u210 x208.1, bx b216 [u210], (Ty.sl (Ty.sl (Ty.sl (Ty.i .i64)))).at u289 x270] := St.extend hS304 he309
                  have e313 : f307 9 = (Value.pointer (some ⟨b202, 0, none⟩)) := (hout310 9 rfl).trans e295
                  exact OpX.val (Value.agg #[u197]) wd308 rfl (op_loadBox st_26 e313 (St.boxAt hS312 5 rfl) rfl rfl) (Ext.refl _) ⟨u197, rfl, (St.rep (t := (Ty.sl (Ty.sl (Ty.sl (Ty.i .i64))))) hS312 4 rfl)⟩
                · refine ObX.op rfl ?_
                  intro f314 wd315 he316 hout317 hphi318
                  have hS319 : St wd10 wd315 [bx b176 [u169], (Ty.sl (Ty.sl (Ty.sl (Ty.i .i64)))).at u169 x102.1, (Ty.sl (Ty.sl (Ty.sl (Ty.i .i64)))).at u184 x182, bx b189 [u184], (Ty.sl (Ty.sl (Ty.sl (Ty.i .i64)))).at u197 x195, bx b202 [u197], (Ty.sl (Ty.sl (Ty.sl (Ty.i .i64)))).at u210 x208.1, bx b216 [u210], (Ty.sl (Ty.sl (Ty.sl (Ty.i .i64)))).at u289 x270] := St.extend hS304 he316
                  have e320 : f314 3 = (Value.pointer (some ⟨b9, 0, none⟩)) := (hout317 3 rfl).trans e291
                  exact OpX.val (Value.agg #[v_aS_Table]) wd315 rfl (op_loadBox st_24 e320 (BoxAt.lift hS319.ext hx14) rfl rfl) (Ext.refl _) ⟨v_aS_Table, rfl, (Ty.lift _ (Ext.trans hE15 hS319.ext) r_aS_Table)⟩
                · refine ObX.op rfl ?_
                  intro f321 wd322 he323 hout324 hphi325
                  have hS326 : St wd10 wd322 [bx b176 [u169], (Ty.sl (Ty.sl (Ty.sl (Ty.i .i64)))).at u169 x102.1, (Ty.sl (Ty.sl (Ty.sl (Ty.i .i64)))).at u184 x182, bx b189 [u184], (Ty.sl (Ty.sl (Ty.sl (Ty.i .i64)))).at u197 x195, bx b202 [u197], (Ty.sl (Ty.sl (Ty.sl (Ty.i .i64)))).at u210 x208.1, bx b216 [u210], (Ty.sl (Ty.sl (Ty.sl (Ty.i .i64)))).at u289 x270] := St.extend hS304 he323
                  obtain ⟨S327, hS328, hf329⟩ := hphi325 1 60 _ rfl rfl rfl
                  obtain ⟨u331, e330, hr332⟩ := hf329
                  refine OpX.call rfl (op_call fn_12 (args1 e330)) (Ret.mono (c_laws_toRing hr332 hx334) ?_)
                  rintro _ wd336 ⟨u335, rfl, he337, hs338⟩
                  exact ⟨he337, _, newS _ _, ⟨u335, rfl, (Sep.new hs338)⟩⟩
                · intro f339 wd340 Ss341 he342 hout343 hSn344 hSd345 hphi346
                  show WL _ _ _ _ _ _ _
                  have hS347 : St wd10 wd340 [bx b176 [u169], (Ty.sl (Ty.sl (Ty.sl (Ty.i .i64)))).at u169 x102.1, (Ty.sl (Ty.sl (Ty.sl (Ty.i .i64)))).at u184 x182, bx b189 [u184], (Ty.sl (Ty.sl (Ty.sl (Ty.i .i64)))).at u197 x195, bx b202 [u197], (Ty.sl (Ty.sl (Ty.sl (Ty.i .i64)))).at u210 x208.1, bx b216 [u210], (Ty.sl (Ty.sl (Ty.sl (Ty.i .i64)))).at u289 x270] := St.extend hS304 he342
                  obtain ⟨u349, e348, hr350⟩ := hphi346 0 59 _ (by decide) rfl rfl
                  obtain ⟨u352, e351, e351s⟩ := hphi346 2 61 _ (by decide) rfl rfl
                  have e353 : f339 2 = (Value.pointer (some ⟨b1, 0, none⟩)) := (hout343 2 rfl).trans e290
                  have e354 : f339 3 = (Value.pointer (some ⟨b9, 0, none⟩)) := (hout343 3 rfl).trans e291
                  have e355 : f339 6 = (Value.pointer (some ⟨b176, 0, none⟩)) := (hout343 6 rfl).trans e292
                  have e356 : f339 7 = (Value.int .i64 x102.2) := (hout343 7 rfl).trans e293
                  have e357 : f339 8 = (Value.pointer (some ⟨b189, 0, none⟩)) := (hout343 8 rfl).trans e294
                  have e358 : f339 9 = (Value.pointer (some ⟨b202, 0, none⟩)) := (hout343 9 rfl).trans e295
                  have e359 : f339 10 = (Value.pointer (some ⟨b216, 0, none⟩)) := (hout343 10 rfl).trans e296
                  have e360 : f339 11 = (Value.int .i64 x208.2) := (hout343 11 rfl).trans e297
                  have hS361 := St.joinS hS304 he342 hSn344 (SepS.consS hSd345 rfl e351s SepS.nilS)
                  replace hS361 : St wd10 wd340 [bx b176 [u169], (Ty.sl (Ty.sl (Ty.sl (Ty.i .i64)))).at u169 x102.1, (Ty.sl (Ty.sl (Ty.sl (Ty.i .i64)))).at u184 x182, bx b189 [u184], (Ty.sl (Ty.sl (Ty.sl (Ty.i .i64)))).at u197 x195, bx b202 [u197], (Ty.sl (Ty.sl (Ty.sl (Ty.i .i64)))).at u210 x208.1, bx b216 [u210], (Ty.sl (Ty.sl (Ty.sl (Ty.i .i64)))).at u289 x270, (Ty.sl (Ty.sl (Ty.sl (Ty.i .i64)))).at u352 x333] := hS361
                  obtain ⟨x362, hx363, h⟩ := bs h
                  refine WL.call _ (op_call fn_14 (args2 e348 e351)) (c_laws_eqRing hr350 (St.rep (t := (Ty.sl (Ty.sl (Ty.sl (Ty.i .i64))))) hS361 9 rfl) hx363) rfl ?_
                  rintro _ wd364 ⟨rfl, he365⟩
                  have hS367 := St.extend hS361 he365
                  replace hS367 : St wd10 wd364 [bx b176 [u169], (Ty.sl (Ty.sl (Ty.sl (Ty.i .i64)))).at u169 x102.1, (Ty.sl (Ty.sl (Ty.sl (Ty.i .i64)))).at u184 x182, bx b189 [u184], (Ty.sl (Ty.sl (Ty.sl (Ty.i .i64)))).at u197 x195, bx b202 [u197], (Ty.sl (Ty.sl (Ty.sl (Ty.i .i64)))).at u210 x208.1, bx b216 [u210], (Ty.sl (Ty.sl (Ty.sl (Ty.i .i64)))).at u289 x270, (Ty.sl (Ty.sl (Ty.sl (Ty.i .i64)))).at u352 x333] := hS367
                  refine WL.val (Value.bool (!x362)) _ (op_not rfl) rfl ?_
                  refine WL.nil ?_
                  show W _ _ _ _ _ _
                  refine W.cond (!x362) rfl (fun hc368 => ?_) (fun hc368 => ?_)
                  · replace h := ip h hc368
                    refine W.seq (W.region ?_)
                    refine WL.val (Value.bool false) _ (op_assign rfl) rfl ?_
                    refine WL.nil ?_
                    show W _ _ _ _ _ _
                    refine W.ret ?_
                    obtain rfl := Option.some.inj h
                    show FinP _ _ _ _ _ _ _
                    exact FinP.ret _ (res1 rfl rfl) ⟨rfl, (Ext.trans hE15 hS367.ext)⟩
                  · replace h := inegb h hc368
                    refine W.skip ?_
                    show W _ _ _ _ _ _
                    refine W.seq (W.region ?_)
                    refine WL.val (Value.int .i64 (1 : Int)) _ (op_assign rfl) rfl ?_
                    refine WL.nil ?_
                    show W _ _ _ _ _ _
                    refine W.seq (W.region ?_)
                    refine WL.val (Value.agg #[u184]) _ (op_loadBox st_26 e357 (St.boxAt hS367 3 rfl) rfl rfl) rfl ?_
                    refine WL.val (Value.int .i64 (1 : Int)) _ (op_move rfl) rfl ?_
                    obtain ⟨x370, hx371, h⟩ := bs h
                    have hS372 := St.fold [(Ty.sl (Ty.sl (Ty.sl (Ty.i .i64)))).at u184 x182] [bx b176 [u169], (Ty.sl (Ty.sl (Ty.sl (Ty.i .i64)))).at u169 x102.1, bx b189 [u184], (Ty.sl (Ty.sl (Ty.sl (Ty.i .i64)))).at u197 x195, bx b202 [u197], (Ty.sl (Ty.sl (Ty.sl (Ty.i .i64)))).at u210 x208.1, bx b216 [u210], (Ty.sl (Ty.sl (Ty.sl (Ty.i .i64)))).at u289 x270, (Ty.sl (Ty.sl (Ty.sl (Ty.i .i64)))).at u352 x333] (St.pick hS367 [2, 0, 1, 3, 4, 5, 6, 7, 8, 9] rfl)
                    refine WL.call _ (op_call fn_15 (args2 rfl rfl)) (c_laws_markRing hS372 (inR_i64.2 (show (-9223372036854775808 : Int) ≤ 1 ∧ (1 : Int) ≤ 9223372036854775807 from by decide)) hx371) rfl ?_
                    rintro _ wd375 ⟨rfl, hr376, hS373⟩
                    have hS374 := St.pick (St.unfold [(Ty.sl (Ty.sl (Ty.sl (Ty.i .i64)))).at u184 x370.2] [bx b176 [u169], (Ty.sl (Ty.sl (Ty.sl (Ty.i .i64)))).at u169 x102.1, bx b189 [u184], (Ty.sl (Ty.sl (Ty.sl (Ty.i .i64)))).at u197 x195, bx b202 [u197], (Ty.sl (Ty.sl (Ty.sl (Ty.i .i64)))).at u210 x208.1, bx b216 [u210], (Ty.sl (Ty.sl (Ty.sl (Ty.i .i64)))).at u289 x270, (Ty.sl (Ty.sl (Ty.sl (Ty.i .i64)))).at u352 x333] hS373) [1, 2, 0, 3, 4, 5, 6, 7, 8, 9] rfl
                    replace hS374 : St wd10 wd375 [bx b176 [u169], (Ty.sl (Ty.sl (Ty.sl (Ty.i .i64)))).at u169 x102.1, (Ty.sl (Ty.sl (Ty.sl (Ty.i .i64)))).at u184 x370.2, bx b189 [u184], (Ty.sl (Ty.sl (Ty.sl (Ty.i .i64)))).at u197 x195, bx b202 [u197], (Ty.sl (Ty.sl (Ty.sl (Ty.i .i64)))).at u210 x208.1, bx b216 [u210], (Ty.sl (Ty.sl (Ty.sl (Ty.i .i64)))).at u289 x270, (Ty.sl (Ty.sl (Ty.sl (Ty.i .i64)))).at u352 x333] := hS374
                    refine WL.val (Value.int .i64 x370.1) _ (op_assign rfl) rfl ?_
                    refine WL.nil ?_
                    show W _ _ _ _ _ _
                    refine W.seq (W.region ?_)
                    refine WL.val (Value.agg #[u197]) _ (op_loadBox st_26 e358 (St.boxAt hS374 5 rfl) rfl rfl) rfl ?_
                    refine WL.val (Value.int .i64 x370.1) _ (op_move rfl) rfl ?_
                    obtain ⟨x377, hx378, h⟩ := bs h
                    have hS379 := St.fold [(Ty.sl (Ty.sl (Ty.sl (Ty.i .i64)))).at u197 x195] [bx b176 [u169], (Ty.sl (Ty.sl (Ty.sl (Ty.i .i64)))).at u169 x102.1, (Ty.sl (Ty.sl (Ty.sl (Ty.i .i64)))).at u184 x370.2, bx b189 [u184], bx b202 [u197], (Ty.sl (Ty.sl (Ty.sl (Ty.i .i64)))).at u210 x208.1, bx b216 [u210], (Ty.sl (Ty.sl (Ty.sl (Ty.i .i64)))).at u289 x270, (Ty.sl (Ty.sl (Ty.sl (Ty.i .i64)))).at u352 x333] (St.pick hS374 [4, 0, 1, 2, 3, 5, 6, 7, 8, 9] rfl)
                    refine WL.call _ (op_call fn_15 (args2 rfl rfl)) (c_laws_markRing hS379 hr376 hx378) rfl ?_
                    rintro _ wd382 ⟨rfl, hr383, hS380⟩
                    have hS381 := St.pick (St.unfold [(Ty.sl (Ty.sl (Ty.sl (Ty.i .i64)))).at u197 x377.2] [bx b176 [u169], (Ty.sl (Ty.sl (Ty.sl (Ty.i .i64)))).at u169 x102.1, (Ty.sl (Ty.sl (Ty.sl (Ty.i .i64)))).at u184 x370.2, bx b189 [u184], bx b202 [u197], (Ty.sl (Ty.sl (Ty.sl (Ty.i .i64)))).at u210 x208.1, bx b216 [u210], (Ty.sl (Ty.sl (Ty.sl (Ty.i .i64)))).at u289 x270, (Ty.sl (Ty.sl (Ty.sl (Ty.i .i64)))).at u352 x333] hS380) [1, 2, 3, 4, 0, 5, 6, 7, 8, 9] rfl
                    replace hS381 : St wd10 wd382 [bx b176 [u169], (Ty.sl (Ty.sl (Ty.sl (Ty.i .i64)))).at u169 x102.1, (Ty.sl (Ty.sl (Ty.sl (Ty.i .i64)))).at u184 x370.2, bx b189 [u184], (Ty.sl (Ty.sl (Ty.sl (Ty.i .i64)))).at u197 x377.2, bx b202 [u197], (Ty.sl (Ty.sl (Ty.sl (Ty.i .i64)))).at u210 x208.1, bx b216 [u210], (Ty.sl (Ty.sl (Ty.sl (Ty.i .i64)))).at u289 x270, (Ty.sl (Ty.sl (Ty.sl (Ty.i .i64)))).at u352 x333] := hS381
                    refine WL.val (Value.int .i64 x377.1) _ (op_assign rfl) rfl ?_
                    refine WL.nil ?_
                    show W _ _ _ _ _ _
                    refine W.seq (W.seq (W.region ?_))
                    refine WL.val (Value.int .i64 x377.1) _ (op_move rfl) rfl ?_
                    refine WL.val (Value.bool (decide (x377.1 < (0 : Int)))) _ (op_lss rfl rfl) rfl ?_
                    refine WL.val (Value.bool (decide (x377.1 < (0 : Int)))) _ (op_move rfl) rfl ?_
                    obtain ⟨x385, hj386, h⟩ := bs h
                    refine WL.cut 5 (fun fq wq => fq 2 = (Value.pointer (some ⟨b1, 0, none⟩)) ∧ fq 3 = (Value.pointer (some ⟨b9, 0, none⟩)) ∧ fq 6 = (Value.pointer (some ⟨b176, 0, none⟩)) ∧ fq 7 = (Value.int .i64 x102.2) ∧ fq 10 = (Value.pointer (some ⟨b216, 0, none⟩)) ∧ fq 11 = (Value.int .i64 x208.2) ∧ fq 77 = Value.bool x385 ∧ St wd10 wq [bx b176 [u169], (Ty.sl (Ty.sl (Ty.sl (Ty.i .i64)))).at u169 x102.1, (Ty.sl (Ty.sl (Ty.sl (Ty.i .i64)))).at u210 x208.1, bx b216 [u210]]) ?_ ?_
                    · rcases Bool.eq_false_or_eq_true (decide (x377.1 < (0 : Int))) with hc384 | hc384
                      · replace hj386 := ip hj386 hc384
                        refine WL.gskip rfl (bool_of rfl hc384) rfl ?_
                        refine WL.gskip rfl (bool_of rfl hc384) rfl ?_
                        refine WL.gskip rfl (bool_of rfl hc384) rfl ?_
                        refine WL.gskip rfl (bool_of rfl hc384) rfl ?_
                        refine WL.val (Value.bool true) _ (op_pick_t (evb_of rfl hc384) rfl) rfl ?_
                        refine WL.nil ?_
                        obtain rfl := Option.some.inj hj386
                        exact ⟨rfl, e353, e354, e355, e356, e359, e360, rfl, (St.pick hS381 [0, 1, 6, 7] rfl)⟩
                      · replace hj386 := inegb hj386 hc384
                        refine WL.grun rfl (bool_of rfl hc384) ?_
                        refine WL.val (Value.agg #[u210]) _ (op_loadBox st_26 e359 (St.boxAt hS381 7 rfl) rfl rfl) rfl ?_
                        refine WL.grun rfl (bool_of rfl hc384) ?_
                        refine WL.val (Value.agg #[u169]) _ (op_loadBox st_26 e355 (St.boxAt hS381 0 rfl) rfl rfl) rfl ?_
                        refine WL.grun rfl (bool_of rfl hc384) ?_
                        obtain ⟨x390, hx391, hj386⟩ := bs hj386
                        refine WL.call _ (op_call fn_14 (args2 rfl rfl)) (c_laws_eqRing (St.rep (t := (Ty.sl (Ty.sl (Ty.sl (Ty.i .i64))))) hS381 6 rfl) (St.rep (t := (Ty.sl (Ty.sl (Ty.sl (Ty.i .i64))))) hS381 1 rfl) hx391) rfl ?_
                        rintro _ wd392 ⟨rfl, he393⟩
                        have hS395 := St.extend hS381 he393
                        replace hS395 : St wd10 wd392 [bx b176 [u169], (Ty.sl (Ty.sl (Ty.sl (Ty.i .i64)))).at u169 x102.1, (Ty.sl (Ty.sl (Ty.sl (Ty.i .i64)))).at u184 x370.2, bx b189 [u184], (Ty.sl (Ty.sl (Ty.sl (Ty.i .i64)))).at u197 x377.2, bx b202 [u197], (Ty.sl (Ty.sl (Ty.sl (Ty.i .i64)))).at u210 x208.1, bx b216 [u210], (Ty.sl (Ty.sl (Ty.sl (Ty.i .i64)))).at u289 x270, (Ty.sl (Ty.sl (Ty.sl (Ty.i .i64)))).at u352 x333] := hS395
                        refine WL.grun rfl (bool_of rfl hc384) ?_
                        refine WL.val (Value.bool (!x390)) _ (op_not rfl) rfl ?_
                        refine WL.val (Value.bool (!x390)) _ (op_pick_f (evb_of rfl hc384) rfl) rfl ?_
                        refine WL.nil ?_
                        obtain rfl := Option.some.inj hj386
                        exact ⟨rfl, e353, e354, e355, e356, e359, e360, rfl, (St.pick hS395 [0, 1, 6, 7] rfl)⟩
                    · intro f387 wd388 hq389
                      obtain ⟨hf396, hf397, hf398, hf399, hf400, hf401, hf402, hS403⟩ := hq389
                      refine WL.val (Value.bool x385) _ (op_move hf402) rfl ?_
                      refine WL.cut 4 (fun fq wq => fq 2 = (Value.pointer (some ⟨b1, 0, none⟩)) ∧ fq 3 = (Value.pointer (some ⟨b9, 0, none⟩)) ∧ fq 6 = (Value.pointer (some ⟨b176, 0, none⟩)) ∧ fq 7 = (Value.int .i64 x102.2) ∧ fq 10 = (Value.pointer (some ⟨b216, 0, none⟩)) ∧ fq 82 = (Value.bool (x385 || (x208.2 != x102.2))) ∧ St wd10 wq [bx b176 [u169], (Ty.sl (Ty.sl (Ty.sl (Ty.i .i64)))).at u169 x102.1, (Ty.sl (Ty.sl (Ty.sl (Ty.i .i64)))).at u210 x208.1, bx b216 [u210]]) ?_ ?_
                      · rcases Bool.eq_false_or_eq_true x385 with hc404 | hc404
                        · refine WL.gskip rfl (bool_of rfl hc404) rfl ?_
                          refine WL.gskip rfl (bool_of rfl hc404) rfl ?_
                          refine WL.gskip rfl (bool_of rfl hc404) rfl ?_
                          refine WL.val (Value.bool true) _ (op_pick_t (evb_of rfl hc404) rfl) rfl ?_
                          refine WL.nil ?_
                          exact ⟨rfl, hf396, hf397, hf398, hf399, hf400, (orT hc404), hS403⟩
                        · refine WL.grun rfl (bool_of rfl hc404) ?_
                          refine WL.val (Value.int .i64 x208.2) _ (op_move hf401) rfl ?_
                          refine WL.grun rfl (bool_of rfl hc404) ?_
                          refine WL.val (Value.int .i64 x102.2) _ (op_move hf399) rfl ?_
                          refine WL.grun rfl (bool_of rfl hc404) ?_
                          refine WL.val (Value.bool (x208.2 != x102.2)) _ (op_neq rfl rfl) rfl ?_
                          refine WL.val (Value.bool (x208.2 != x102.2)) _ (op_pick_f (evb_of rfl hc404) rfl) rfl ?_
                          refine WL.nil ?_
                          exact ⟨rfl, hf396, hf397, hf398, hf399, hf400, (orF hc404), hS403⟩
                      · intro f405 wd406 hq407
                        obtain ⟨hf408, hf409, hf410, hf411, hf412, hf413, hS414⟩ := hq407
                        refine WL.nil ?_
                        show W _ _ _ _ _ _
                        refine W.cond (x385 || (x208.2 != x102.2)) hf413 (fun hc415 => ?_) (fun hc415 => ?_)
                        · replace h := ip h hc415
                          refine W.seq (W.region ?_)
                          refine WL.val (Value.bool false) _ (op_assign rfl) rfl ?_
                          refine WL.nil ?_
                          show W _ _ _ _ _ _
                          refine W.ret ?_
                          obtain rfl := Option.some.inj h
                          show FinP _ _ _ _ _ _ _
                          exact FinP.ret _ (res1 rfl rfl) ⟨rfl, (Ext.trans hE15 hS414.ext)⟩
                        · replace h := inegb h hc415
                          refine W.skip ?_
                          show W _ _ _ _ _ _
                          refine W.seq (W.region ?_)
                          refine WL.val (Value.int .i64 (1 : Int)) _ (op_assign rfl) rfl ?_
                          refine WL.nil ?_
                          show W _ _ _ _ _ _
                          refine W.seq (W.region ?_)
                          refine WL.val (Value.agg #[u210]) _ (op_loadBox st_26 hf412 (St.boxAt hS414 3 rfl) rfl rfl) rfl ?_
                          refine WL.val (Value.int .i64 (1 : Int)) _ (op_move rfl) rfl ?_
                          obtain ⟨x417, hx418, h⟩ := bs h
                          have hS419 := St.fold [(Ty.sl (Ty.sl (Ty.sl (Ty.i .i64)))).at u210 x208.1] [bx b176 [u169], (Ty.sl (Ty.sl (Ty.sl (Ty.i .i64)))).at u169 x102.1, bx b216 [u210]] (St.pick hS414 [2, 0, 1, 3] rfl)
                          refine WL.call _ (op_call fn_15 (args2 rfl rfl)) (c_laws_markRing hS419 (inR_i64.2 (show (-9223372036854775808 : Int) ≤ 1 ∧ (1 : Int) ≤ 9223372036854775807 from by decide)) hx418) rfl ?_
                          rintro _ wd422 ⟨rfl, hr423, hS420⟩
                          have hS421 := St.pick (St.unfold [(Ty.sl (Ty.sl (Ty.sl (Ty.i .i64)))).at u210 x417.2] [bx b176 [u169], (Ty.sl (Ty.sl (Ty.sl (Ty.i .i64)))).at u169 x102.1, bx b216 [u210]] hS420) [1, 2, 0, 3] rfl
                          replace hS421 : St wd10 wd422 [bx b176 [u169], (Ty.sl (Ty.sl (Ty.sl (Ty.i .i64)))).at u169 x102.1, (Ty.sl (Ty.sl (Ty.sl (Ty.i .i64)))).at u210 x417.2, bx b216 [u210]] := hS421
                          refine WL.val (Value.int .i64 x417.1) _ (op_assign rfl) rfl ?_
                          refine WL.nil ?_
                          show W _ _ _ _ _ _
                          refine W.seq (W.region ?_)
                          refine WL.val (Value.int .i64 (1 : Int)) _ (op_assign rfl) rfl ?_
                          refine WL.nil ?_
                          show W _ _ _ _ _ _
                          refine W.seq (W.region ?_)
                          refine WL.val (Value.agg #[u210]) _ (op_loadBox st_26 hf412 (St.boxAt hS421 3 rfl) rfl rfl) rfl ?_
                          refine WL.val (Value.int .i64 (1 : Int)) _ (op_move rfl) rfl ?_
                          obtain ⟨x424, hx425, h⟩ := bs h
                          refine WL.call _ (op_call fn_16 (args2 rfl rfl)) (c_laws_heldRing (St.rep (t := (Ty.sl (Ty.sl (Ty.sl (Ty.i .i64))))) hS421 2 rfl) (inR_i64.2 (show (-9223372036854775808 : Int) ≤ 1 ∧ (1 : Int) ≤ 9223372036854775807 from by decide)) hx425) rfl ?_
                          rintro _ wd427 ⟨rfl, hr426, he428⟩
                          have hS430 := St.extend hS421 he428
                          replace hS430 : St wd10 wd427 [bx b176 [u169], (Ty.sl (Ty.sl (Ty.sl (Ty.i .i64)))).at u169 x102.1, (Ty.sl (Ty.sl (Ty.sl (Ty.i .i64)))).at u210 x417.2, bx b216 [u210]] := hS430
                          refine WL.val (Value.int .i64 x424) _ (op_assign rfl) rfl ?_
                          refine WL.nil ?_
                          show W _ _ _ _ _ _
                          refine W.seq (W.seq (W.region ?_))
                          refine WL.val (Value.int .i64 x424) _ (op_move rfl) rfl ?_
                          refine WL.val (Value.bool (decide (x424 < (0 : Int)))) _ (op_lss rfl rfl) rfl ?_
                          refine WL.nil ?_
                          show W _ _ _ _ _ _
                          refine W.cond (decide (x424 < (0 : Int))) rfl (fun hc431 => ?_) (fun hc431 => ?_)
                          · replace h := ip h hc431
                            refine W.seq (W.region ?_)
                            refine WL.val (Value.bool false) _ (op_assign rfl) rfl ?_
                            refine WL.nil ?_
                            show W _ _ _ _ _ _
                            refine W.ret ?_
                            obtain rfl := Option.some.inj h
                            show FinP _ _ _ _ _ _ _
                            exact FinP.ret _ (res1 rfl rfl) ⟨rfl, (Ext.trans hE15 hS430.ext)⟩
                          · replace h := inegb h hc431
                            refine W.skip ?_
                            show W _ _ _ _ _ _
                            refine W.seq (W.seq (W.region ?_))
                            refine WL.val (Value.int .i64 x424) _ (op_move rfl) rfl ?_
                            refine WL.val (Value.int .i64 x417.1) _ (op_move rfl) rfl ?_
                            refine WL.val (Value.bool (x424 != x417.1)) _ (op_neq rfl rfl) rfl ?_
                            refine WL.nil ?_
                            show W _ _ _ _ _ _
                            refine W.cond (x424 != x417.1) rfl (fun hc433 => ?_) (fun hc433 => ?_)
                            · replace h := ip h hc433
                              refine W.seq (W.region ?_)
                              refine WL.val (Value.bool false) _ (op_assign rfl) rfl ?_
                              refine WL.nil ?_
                              show W _ _ _ _ _ _
                              refine W.ret ?_
                              obtain rfl := Option.some.inj h
                              show FinP _ _ _ _ _ _ _
                              exact FinP.ret _ (res1 rfl rfl) ⟨rfl, (Ext.trans hE15 hS430.ext)⟩
                            · replace h := inegb h hc433
                              refine W.skip ?_
                              show W _ _ _ _ _ _
                              refine W.seq ?_
                              obtain ⟨x454, hx455, h⟩ := bs h
                              obtain ⟨x479, hx480, h⟩ := bs h
                              obtain ⟨x501, hx502, h⟩ := bs h
                              refine W.drawR mixo 9 [7] [fun _ v S w' => ∃ (uu0 : Value), v = (Value.agg #[uu0]) ∧ (Ty.sl (Ty.sl (Ty.sl (Ty.i .i64)))).rep w' uu0 aR_Table, fun _ v S w' => ∃ (uu0 : Value), v = (Value.agg #[uu0]) ∧ SepS S w' [(Ty.sl (Ty.sl (Ty.sl (Ty.i .i64)))).at uu0 x454], fun _ v S w' => ∃ (uu0 : Value), v = (Value.agg #[uu0]) ∧ (Ty.sl (Ty.sl (Ty.sl (Ty.i .i64)))).rep w' uu0 aS_Table, fun _ v S w' => ∃ (uu0 : Value), v = (Value.agg #[uu0]) ∧ SepS S w' [(Ty.sl (Ty.sl (Ty.sl (Ty.i .i64)))).at uu0 x479], fun _ v S w' => ∃ (uu0 : Value), v = (Value.tuple #[(Value.agg #[uu0]), (Value.int .i64 x501.2)]) ∧ InR .i64 x501.2 ∧ SepS S w' [(Ty.sl (Ty.sl (Ty.sl (Ty.i .i64)))).at uu0 x501.1], fun f v _ _ => v = f 99, fun f v _ _ => tupGet (f 94) 0 = some v, fun _ v _ _ => v = (Value.int .i64 x501.2) ∧ InR .i64 x501.2, fun _ v S w' => ∃ b : Nat, v = Value.pointer (some ⟨b, 0, none⟩) ∧ SepS S w' [bx b [(Value.slice none 0 0)]]] (by kernel_rfl) (by kernel_rfl) ⟨⟨fun _ _ _ _ _ he ⟨uu0, h0, r0⟩ => ⟨uu0, h0, Ty.lift _ he r0⟩, fun _ _ _ _ _ _ h => h⟩, ⟨fun _ _ _ _ _ he ⟨uu0, h0, r0⟩ => ⟨uu0, h0, SepS.extend he r0⟩, fun _ _ _ _ _ _ h => h⟩, ⟨fun _ _ _ _ _ he ⟨uu0, h0, r0⟩ => ⟨uu0, h0, Ty.lift _ he r0⟩, fun _ _ _ _ _ _ h => h⟩, ⟨fun _ _ _ _ _ he ⟨uu0, h0, r0⟩ => ⟨uu0, h0, SepS.extend he r0⟩, fun _ _ _ _ _ _ h => h⟩, ⟨fun _ _ _ _ _ he ⟨uu0, h0, h1, r0⟩ => ⟨uu0, h0, h1, SepS.extend he r0⟩, fun _ _ _ _ _ _ h => h⟩, ⟨fun _ _ _ _ _ _ h => h, fun _ _ _ _ _ hf h => h.trans (hf 4 99 rfl rfl)⟩, ⟨fun _ _ _ _ _ _ h => h, fun _ _ _ _ _ hf h => (congrArg (fun x => tupGet x 0) (hf 5 94 rfl rfl)).symm.trans h⟩, ⟨fun _ _ _ _ _ _ h => h, fun _ _ _ _ _ _ h => h⟩, ⟨fun _ _ _ _ _ he ⟨b, h1, h2⟩ => ⟨b, h1, SepS.extend he h2⟩, fun _ _ _ _ _ _ h => h⟩, trivial⟩ ⟨?_, ?_, ?_, ?_, ?_, ?_, ?_, ?_, ?_, trivial⟩ ?_
                              · refine ObX.op rfl ?_
                                intro f435 wd436 he437 hout438 hphi439
                                have hS440 : St wd10 wd436 [bx b176 [u169], (Ty.sl (Ty.sl (Ty.sl (Ty.i .i64)))).at u169 x102.1, (Ty.sl (Ty.sl (Ty.sl (Ty.i .i64)))).at u210 x417.2, bx b216 [u210]] := St.extend hS430 he437
                                have e441 : f435 2 = (Value.pointer (some ⟨b1, 0, none⟩)) := (hout438 2 rfl).trans hf408
                                exact OpX.val (Value.agg #[v_aR_Table]) wd436 rfl (op_loadBox st_24 e441 (BoxAt.lift (Ext.trans hE16 hS440.ext) hx6) rfl rfl) (Ext.refl _) ⟨v_aR_Table, rfl, (Ty.lift _ (Ext.trans hE15 hS440.ext) r_aR_Table)⟩
                              · refine ObX.op rfl ?_
                                intro f442 wd443 he444 hout445 hphi446
                                have hS447 : St wd10 wd443 [bx b176 [u169], (Ty.sl (Ty.sl (Ty.sl (Ty.i .i64)))).at u169 x102.1, (Ty.sl (Ty.sl (Ty.sl (Ty.i .i64)))).at u210 x417.2, bx b216 [u210]] := St.extend hS430 he444
                                obtain ⟨S448, hS449, hf450⟩ := hphi446 0 95 _ rfl rfl rfl
                                obtain ⟨u452, e451, hr453⟩ := hf450
                                refine OpX.call rfl (op_call fn_12 (args1 e451)) (Ret.mono (c_laws_toRing hr453 hx455) ?_)
                                rintro _ wd457 ⟨u456, rfl, he458, hs459⟩
                                exact ⟨he458, _, newS _ _, ⟨u456, rfl, (Sep.new hs459)⟩⟩
                              · refine ObX.op rfl ?_
                                intro f460 wd461 he462 hout463 hphi464
                                have hS465 : St wd10 wd461 [bx b176 [u169], (Ty.sl (Ty.sl (Ty.sl (Ty.i .i64)))).at u169 x102.1, (Ty.sl (Ty.sl (Ty.sl (Ty.i .i64)))).at u210 x417.2, bx b216 [u210]] := St.extend hS430 he462
                                have e466 : f460 3 = (Value.pointer (some ⟨b9, 0, none⟩)) := (hout463 3 rfl).trans hf409
                                exact OpX.val (Value.agg #[v_aS_Table]) wd461 rfl (op_loadBox st_24 e466 (BoxAt.lift hS465.ext hx14) rfl rfl) (Ext.refl _) ⟨v_aS_Table, rfl, (Ty.lift _ (Ext.trans hE15 hS465.ext) r_aS_Table)⟩
                              · refine ObX.op rfl ?_
                                intro f467 wd468 he469 hout470 hphi471
                                have hS472 : St wd10 wd468 [bx b176 [u169], (Ty.sl (Ty.sl (Ty.sl (Ty.i .i64)))).at u169 x102.1, (Ty.sl (Ty.sl (Ty.sl (Ty.i .i64)))).at u210 x417.2, bx b216 [u210]] := St.extend hS430 he469
                                obtain ⟨S473, hS474, hf475⟩ := hphi471 2 97 _ rfl rfl rfl
                                obtain ⟨u477, e476, hr478⟩ := hf475
                                refine OpX.call rfl (op_call fn_12 (args1 e476)) (Ret.mono (c_laws_toRing hr478 hx480) ?_)
                                rintro _ wd482 ⟨u481, rfl, he483, hs484⟩
                                exact ⟨he483, _, newS _ _, ⟨u481, rfl, (Sep.new hs484)⟩⟩
                              · refine ObX.op rfl ?_
                                intro f485 wd486 he487 hout488 hphi489
                                have hS490 : St wd10 wd486 [bx b176 [u169], (Ty.sl (Ty.sl (Ty.sl (Ty.i .i64)))).at u169 x102.1, (Ty.sl (Ty.sl (Ty.sl (Ty.i .i64)))).at u210 x417.2, bx b216 [u210]] := St.extend hS430 he487
                                obtain ⟨S491, hS492, hf493⟩ := hphi489 1 96 _ rfl rfl rfl
                                obtain ⟨u495, e494, e494s⟩ := hf493
                                obtain ⟨S496, hS497, hf498⟩ := hphi489 3 98 _ rfl rfl rfl
                                obtain ⟨u500, e499, e499s⟩ := hf498
                                refine OpX.call rfl (op_call fn_18 (args2 e494 e499)) (Ret.mono (c_impl_ProductRing (SepS.rep (t := (Ty.sl (Ty.sl (Ty.sl (Ty.i .i64))))) e494s 0 rfl) (SepS.rep (t := (Ty.sl (Ty.sl (Ty.sl (Ty.i .i64))))) e499s 0 rfl) hx502) ?_)
                                rintro _ wd505 ⟨u503, rfl, hr504, he506, hs507⟩
                                exact ⟨he506, _, newS _ _, ⟨u503, rfl, hr504, (Sep.new hs507)⟩⟩
                              · refine ObX.op rfl ?_
                                intro f508 wd509 he510 hout511 hphi512
                                have hS513 : St wd10 wd509 [bx b176 [u169], (Ty.sl (Ty.sl (Ty.sl (Ty.i .i64)))).at u169 x102.1, (Ty.sl (Ty.sl (Ty.sl (Ty.i .i64)))).at u210 x417.2, bx b216 [u210]] := St.extend hS430 he510
                                obtain ⟨S514, hS515, hf516⟩ := hphi512 4 99 _ rfl rfl rfl
                                obtain ⟨u518, e517, hr519, e517s⟩ := hf516
                                exact OpX.val (f508 99) wd509 rfl (op_move rfl) (Ext.refl _) rfl
                              · refine ObX.op rfl ?_
                                intro f520 wd521 he522 hout523 hphi524
                                have hS525 : St wd10 wd521 [bx b176 [u169], (Ty.sl (Ty.sl (Ty.sl (Ty.i .i64)))).at u169 x102.1, (Ty.sl (Ty.sl (Ty.sl (Ty.i .i64)))).at u210 x417.2, bx b216 [u210]] := St.extend hS430 he522
                                obtain ⟨S529, hS530, hf531⟩ := hphi524 4 99 _ rfl rfl rfl
                                obtain ⟨u533, e532, hr534, e532s⟩ := hf531
                                obtain ⟨S526, hS527, hf528⟩ := hphi524 5 94 _ rfl rfl rfl
                                have e535 : f520 94 = (Value.tuple #[(Value.agg #[u533]), (Value.int .i64 x501.2)]) := Eq.trans hf528 e532
                                exact OpX.val (Value.agg #[u533]) wd521 rfl (op_extract e535 rfl) (Ext.refl _) (congrArg (fun x => tupGet x 0) e535)
                              · refine ObX.fl rfl ?_
                                intro f536 wd537 he538 hout539 hphi540
                                have hS541 : St wd10 wd537 [bx b176 [u169], (Ty.sl (Ty.sl (Ty.sl (Ty.i .i64)))).at u169 x102.1, (Ty.sl (Ty.sl (Ty.sl (Ty.i .i64)))).at u210 x417.2, bx b216 [u210]] := St.extend hS430 he538
                                obtain ⟨S545, hS546, hf547⟩ := hphi540 4 99 _ rfl rfl rfl
                                obtain ⟨u549, e548, hr550, e548s⟩ := hf547
                                obtain ⟨S542, hS543, hf544⟩ := hphi540 5 94 _ rfl rfl rfl
                                have e551 : f536 94 = (Value.tuple #[(Value.agg #[u549]), (Value.int .i64 x501.2)]) := Eq.trans hf544 e548
                                exact ⟨rfl, (Value.int .i64 x501.2), fun _ => (op_extract e551 rfl), ⟨rfl, hr550⟩⟩
                              · refine ObX.op rfl ?_
                                intro f552 wd553 he554 hout555 hphi556
                                have hS557 : St wd10 wd553 [bx b176 [u169], (Ty.sl (Ty.sl (Ty.sl (Ty.i .i64)))).at u169 x102.1, (Ty.sl (Ty.sl (Ty.sl (Ty.i .i64)))).at u210 x417.2, bx b216 [u210]] := St.extend hS430 he554
                                exact OpX.valO _ _ rfl (op_alloc (cs := [(Value.slice none 0 0)].toArray) ze_26 rfl) (Ext.alloc _ _) ⟨_, rfl, Sep.new (sep_box _ [(Value.slice none 0 0)] _)⟩
                              · intro f558 wd559 Ss560 he561 hout562 hSn563 hSd564 hphi565
                                show WL _ _ _ _ _ _ _
                                have hS566 : St wd10 wd559 [bx b176 [u169], (Ty.sl (Ty.sl (Ty.sl (Ty.i .i64)))).at u169 x102.1, (Ty.sl (Ty.sl (Ty.sl (Ty.i .i64)))).at u210 x417.2, bx b216 [u210]] := St.extend hS430 he561
                                obtain ⟨u568, e567, hr569, e567s⟩ := hphi565 4 99 _ (by decide) rfl rfl
                                have e570 : f558 94 = (Value.tuple #[(Value.agg #[u568]), (Value.int .i64 x501.2)]) := Eq.trans (hphi565 5 94 _ (by decide) rfl rfl) e567
                                have e571 : f558 100 = (Value.agg #[u568]) := Option.some.inj (Eq.trans (Eq.symm (hphi565 6 100 _ (by decide) rfl rfl)) (congrArg (fun x => tupGet x 0) e570))
                                obtain ⟨e572, hr573⟩ : f558 101 = (Value.int .i64 x501.2) ∧ InR .i64 x501.2 := hphi565 7 101 _ (by decide) rfl rfl
                                obtain ⟨b575, e574, e574s⟩ : ∃ b : Nat, f558 15 = Value.pointer (some ⟨b, 0, none⟩) ∧ SepS (Ss560 8) wd559 [bx b [(Value.slice none 0 0)]] := hphi565 8 15 _ (by decide) rfl rfl
                                have e576 : f558 6 = (Value.pointer (some ⟨b176, 0, none⟩)) := (hout562 6 rfl).trans hf410
                                have e577 : f558 7 = (Value.int .i64 x102.2) := (hout562 7 rfl).trans hf411
                                have e578 : f558 10 = (Value.pointer (some ⟨b216, 0, none⟩)) := (hout562 10 rfl).trans hf412
                                have e579 : f558 13 = (Value.int .i64 x417.1) := (hout562 13 rfl).trans rfl
                                have hS580 := St.joinS hS430 he561 hSn563 (SepS.consS hSd564 rfl e574s (SepS.consS hSd564 rfl e567s SepS.nilS))
                                replace hS580 : St wd10 wd559 [bx b176 [u169], (Ty.sl (Ty.sl (Ty.sl (Ty.i .i64)))).at u169 x102.1, (Ty.sl (Ty.sl (Ty.sl (Ty.i .i64)))).at u210 x417.2, bx b216 [u210], bx b575 [(Value.slice none 0 0)], (Ty.sl (Ty.sl (Ty.sl (Ty.i .i64)))).at u568 x501.1] := hS580
                                refine WL.storeBox [u568] hS580 (k := 4) rfl e574 e571 (us := [u568]) rfl sz_26 rfl rfl (all_rep (St.rep (t := (Ty.sl (Ty.sl (Ty.sl (Ty.i .i64))))) hS580 5 rfl) all_nil) rfl ?_
                                intro wd581 hS582
                                replace hS582 : St wd10 wd581 [bx b176 [u169], (Ty.sl (Ty.sl (Ty.sl (Ty.i .i64)))).at u169 x102.1, (Ty.sl (Ty.sl (Ty.sl (Ty.i .i64)))).at u210 x417.2, bx b216 [u210], bx b575 [u568], (Ty.sl (Ty.sl (Ty.sl (Ty.i .i64)))).at u568 x501.1] := hS582
                                refine WL.val (Value.int .i64 x501.2) _ (op_assign e572) rfl ?_
                                refine WL.nil ?_
                                show W _ _ _ _ _ _
                                refine W.seq (W.seq (W.region ?_))
                                refine WL.val (Value.agg #[u568]) _ (op_loadBox st_26 e574 (St.boxAt hS582 4 rfl) rfl rfl) rfl ?_
                                refine WL.val (Value.agg #[u169]) _ (op_loadBox st_26 e576 (St.boxAt hS582 0 rfl) rfl rfl) rfl ?_
                                obtain ⟨x583, hx584, h⟩ := bs h
                                refine WL.call _ (op_call fn_14 (args2 rfl rfl)) (c_laws_eqRing (St.rep (t := (Ty.sl (Ty.sl (Ty.sl (Ty.i .i64))))) hS582 5 rfl) (St.rep (t := (Ty.sl (Ty.sl (Ty.sl (Ty.i .i64))))) hS582 1 rfl) hx584) rfl ?_
                                rintro _ wd585 ⟨rfl, he586⟩
                                have hS588 := St.extend hS582 he586
                                replace hS588 : St wd10 wd585 [bx b176 [u169], (Ty.sl (Ty.sl (Ty.sl (Ty.i .i64)))).at u169 x102.1, (Ty.sl (Ty.sl (Ty.sl (Ty.i .i64)))).at u210 x417.2, bx b216 [u210], bx b575 [u568], (Ty.sl (Ty.sl (Ty.sl (Ty.i .i64)))).at u568 x501.1] := hS588
                                refine WL.val (Value.bool (!x583)) _ (op_not rfl) rfl ?_
                                refine WL.val (Value.bool (!x583)) _ (op_move rfl) rfl ?_
                                refine WL.cut 4 (fun fq wq => fq 10 = (Value.pointer (some ⟨b216, 0, none⟩)) ∧ fq 13 = (Value.int .i64 x417.1) ∧ fq 110 = (Value.bool ((!x583) || (x501.2 != x102.2))) ∧ St wd10 wq [(Ty.sl (Ty.sl (Ty.sl (Ty.i .i64)))).at u210 x417.2, bx b216 [u210]]) ?_ ?_
                                · rcases Bool.eq_false_or_eq_true (!x583) with hc589 | hc589
                                  · refine WL.gskip rfl (bool_of rfl hc589) rfl ?_
                                    refine WL.gskip rfl (bool_of rfl hc589) rfl ?_
                                    refine WL.gskip rfl (bool_of rfl hc589) rfl ?_
                                    refine WL.val (Value.bool true) _ (op_pick_t (evb_of rfl hc589) rfl) rfl ?_
                                    refine WL.nil ?_
                                    exact ⟨rfl, e578, e579, (orT hc589), (St.pick hS588 [2, 3] rfl)⟩
                                  · refine WL.grun rfl (bool_of rfl hc589) ?_
                                    refine WL.val (Value.int .i64 x501.2) _ (op_move rfl) rfl ?_
                                    refine WL.grun rfl (bool_of rfl hc589) ?_
                                    refine WL.val (Value.int .i64 x102.2) _ (op_move e577) rfl ?_
                                    refine WL.grun rfl (bool_of rfl hc589) ?_
                                    refine WL.val (Value.bool (x501.2 != x102.2)) _ (op_neq rfl rfl) rfl ?_
                                    refine WL.val (Value.bool (x501.2 != x102.2)) _ (op_pick_f (evb_of rfl hc589) rfl) rfl ?_
                                    refine WL.nil ?_
                                    exact ⟨rfl, e578, e579, (orF hc589), (St.pick hS588 [2, 3] rfl)⟩
                                · intro f590 wd591 hq592
                                  obtain ⟨hf593, hf594, hf595, hS596⟩ := hq592
                                  refine WL.nil ?_
                                  show W _ _ _ _ _ _
                                  refine W.cond ((!x583) || (x501.2 != x102.2)) hf595 (fun hc597 => ?_) (fun hc597 => ?_)
                                  · replace h := ip h hc597
                                    refine W.seq (W.region ?_)
                                    refine WL.val (Value.bool false) _ (op_assign rfl) rfl ?_
                                    refine WL.nil ?_
                                    show W _ _ _ _ _ _
                                    refine W.ret ?_
                                    obtain rfl := Option.some.inj h
                                    show FinP _ _ _ _ _ _ _
                                    exact FinP.ret _ (res1 rfl rfl) ⟨rfl, (Ext.trans hE15 hS596.ext)⟩
                                  · replace h := inegb h hc597
                                    refine W.skip ?_
                                    show W _ _ _ _ _ _
                                    refine W.seq (W.region ?_)
                                    refine WL.val (Value.int .i64 (1 : Int)) _ (op_assign rfl) rfl ?_
                                    refine WL.nil ?_
                                    show W _ _ _ _ _ _
                                    refine W.seq (W.region ?_)
                                    refine WL.val (Value.agg #[u210]) _ (op_loadBox st_26 hf593 (St.boxAt hS596 1 rfl) rfl rfl) rfl ?_
                                    refine WL.val (Value.int .i64 (1 : Int)) _ (op_move rfl) rfl ?_
                                    obtain ⟨x599, hx600, h⟩ := bs h
                                    refine WL.call _ (op_call fn_16 (args2 rfl rfl)) (c_laws_heldRing (St.rep (t := (Ty.sl (Ty.sl (Ty.sl (Ty.i .i64))))) hS596 0 rfl) (inR_i64.2 (show (-9223372036854775808 : Int) ≤ 1 ∧ (1 : Int) ≤ 9223372036854775807 from by decide)) hx600) rfl ?_
                                    rintro _ wd602 ⟨rfl, hr601, he603⟩
                                    have hS605 := St.extend hS596 he603
                                    replace hS605 : St wd10 wd602 [(Ty.sl (Ty.sl (Ty.sl (Ty.i .i64)))).at u210 x417.2, bx b216 [u210]] := hS605
                                    refine WL.val (Value.int .i64 x599) _ (op_assign rfl) rfl ?_
                                    refine WL.nil ?_
                                    show W _ _ _ _ _ _
                                    refine W.seq (W.seq (W.region ?_))
                                    refine WL.val (Value.int .i64 x599) _ (op_move rfl) rfl ?_
                                    refine WL.val (Value.bool (decide (x599 < (0 : Int)))) _ (op_lss rfl rfl) rfl ?_
                                    refine WL.nil ?_
                                    show W _ _ _ _ _ _
                                    refine W.cond (decide (x599 < (0 : Int))) rfl (fun hc606 => ?_) (fun hc606 => ?_)
                                    · replace h := ip h hc606
                                      refine W.seq (W.region ?_)
                                      refine WL.val (Value.bool false) _ (op_assign rfl) rfl ?_
                                      refine WL.nil ?_
                                      show W _ _ _ _ _ _
                                      refine W.ret ?_
                                      obtain rfl := Option.some.inj h
                                      show FinP _ _ _ _ _ _ _
                                      exact FinP.ret _ (res1 rfl rfl) ⟨rfl, (Ext.trans hE15 hS605.ext)⟩
                                    · replace h := inegb h hc606
                                      refine W.skip ?_
                                      show W _ _ _ _ _ _
                                      refine W.seq (W.seq (W.region ?_))
                                      refine WL.val (Value.int .i64 x599) _ (op_move rfl) rfl ?_
                                      refine WL.val (Value.int .i64 x417.1) _ (op_move hf594) rfl ?_
                                      refine WL.val (Value.bool (x599 != x417.1)) _ (op_neq rfl rfl) rfl ?_
                                      refine WL.nil ?_
                                      show W _ _ _ _ _ _
                                      refine W.cond (x599 != x417.1) rfl (fun hc608 => ?_) (fun hc608 => ?_)
                                      · replace h := ip h hc608
                                        refine W.seq (W.region ?_)
                                        refine WL.val (Value.bool false) _ (op_assign rfl) rfl ?_
                                        refine WL.nil ?_
                                        show W _ _ _ _ _ _
                                        refine W.ret ?_
                                        obtain rfl := Option.some.inj h
                                        show FinP _ _ _ _ _ _ _
                                        exact FinP.ret _ (res1 rfl rfl) ⟨rfl, (Ext.trans hE15 hS605.ext)⟩
                                      · replace h := inegb h hc608
                                        refine W.skip ?_
                                        show W _ _ _ _ _ _
                                        refine W.seq (W.region ?_)
                                        refine WL.val (Value.bool true) _ (op_assign rfl) rfl ?_
                                        refine WL.nil ?_
                                        show W _ _ _ _ _ _
                                        refine W.ret ?_
                                        obtain rfl := Option.some.inj h
                                        show FinP _ _ _ _ _ _ _
                                        exact FinP.ret _ (res1 rfl rfl) ⟨rfl, (Ext.trans hE15 hS605.ext)⟩

end Go.VG
