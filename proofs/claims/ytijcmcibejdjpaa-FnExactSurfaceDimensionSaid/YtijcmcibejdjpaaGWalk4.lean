/- The walks, part 4: each Go function returns what its plain twin returns. No condition beyond what each names. -/
import Derived.Test.YtijcmcibejdjpaaGWalk3
set_option linter.all false
namespace Go.VG
open Go.Proofs
attribute [local irreducible] W WL Sep FinP

theorem c_impl_Ring_surface {w : World} {r_Table : (List (List (List Int)))} {v_r_Table : Value} {genus : Int} {labels : (List Int)} {v_labels : Value} (r_r_Table : (Ty.sl (Ty.sl (Ty.sl (Ty.i .i64)))).rep w v_r_Table r_Table) (r_genus : InR .i64 genus) (r_labels : (Ty.sl (Ty.i .i64)).rep w v_labels labels) {res : Int} (h : p_impl_Ring_surface r_Table genus labels  = some res) :
    Ret Try.prog 40 #[(Value.agg #[v_r_Table]), (Value.int .i64 genus), v_labels] w (fun v w' => v = Value.int .i64 res ∧ InR .i64 res ∧ Ext w w') := by
  unfold p_impl_Ring_surface at h
  have hS0 : St w w [] := St.start w
  refine Ret.start (fn := Try.f40) Try.func40 rfl 41 rfl rfl ?_
  refine W.seq (W.region ?_)
  refine WL.box hS0 rfl (cs := [v_r_Table]) rfl rfl ?_
  intro b1 wd2 hS3 he4 hx5
  replace hS3 : St w wd2 [bx b1 [v_r_Table]] := hS3
  have hx6 := St.boxAt hS3 0 rfl
  have hE7 : Ext w wd2 := hS3.ext
  have hS8 : St wd2 wd2 [] := St.start wd2
  refine WL.val (Value.int .i64 (0 : Int)) _ (op_assign rfl) rfl ?_
  refine WL.nil ?_
  show W _ _ _ _ _ _
  refine W.seq (W.region ?_)
  refine WL.val (Value.agg #[v_r_Table]) _ (op_loadBox st_29 rfl (BoxAt.lift hS8.ext hx6) rfl rfl) rfl ?_
  obtain ⟨x9, hx10, h⟩ := bs h
  refine WL.call _ (op_call fn_67 (args2 rfl rfl)) (c_impl_Ring_vectorOf (Ty.lift _ (Ext.trans hE7 hS8.ext) r_r_Table) (inR_i64.2 (show (-9223372036854775808 : Int) ≤ 0 ∧ (0 : Int) ≤ 9223372036854775807 from by decide)) hx10) rfl ?_
  rintro u11 wd13 ⟨_, rfl, hn12, he14, hs15⟩
  have hS16 := St.join hS8 he14 hs15
  replace hS16 : St wd2 wd13 [(Ty.sl (Ty.i .i64)).at u11 x9] := hS16
  refine WL.val u11 _ (op_assign rfl) rfl ?_
  refine WL.nil ?_
  show W _ _ _ _ _ _
  refine W.seq (W.seq (W.region ?_))
  refine WL.val v_labels _ (op_move rfl) rfl ?_
  have hr17 := inR_len (Ty.lift _ (Ext.trans hE7 hS16.ext) r_labels)
  refine WL.val (Value.int .i64 ((labels).length : Int)) _ (op_lenL sl_25 (Ty.lift _ (Ext.trans hE7 hS16.ext) r_labels) rfl) rfl ?_
  refine WL.val (Value.int .i64 (0 : Int)) _ (op_move rfl) rfl ?_
  refine WL.nil ?_
  show W _ _ _ _ _ _
  obtain ⟨res18, hres19, h⟩ := bs h
  refine W.blockLoop (fun fq wq => ∃ s, res18 = Res.fin s ∧ ∃ (uu0 : Value), fq 1 = (Value.int .i64 genus) ∧ fq 3 = (Value.pointer (some ⟨b1, 0, none⟩)) ∧ fq 7 = uu0 ∧ St wd2 wq [(Ty.sl (Ty.i .i64)).at uu0 s]) ?_ ?_
  · refine W.forN (fun k (s : (List Int)) fq wq => ∃ (uu0 : Value), fq 1 = (Value.int .i64 genus) ∧ fq 3 = (Value.pointer (some ⟨b1, 0, none⟩)) ∧ fq 7 = uu0 ∧ fq 12 = v_labels ∧ fq 13 = (Value.int .i64 ((labels).length : Int)) ∧ fq 14 = Value.int .i64 (k : Int) ∧ InR .i64 (k : Int) ∧ St wd2 wq [(Ty.sl (Ty.i .i64)).at uu0 s]) hres19 ⟨u11, rfl, rfl, rfl, rfl, rfl, rfl, (inR_i64.2 (show (-9223372036854775808 : Int) ≤ 0 ∧ (0 : Int) ≤ 9223372036854775807 from by decide)), hS16⟩ ?_ ?_
    · intro k20 x21 ct22 f23 wd24 hk25 hb26 hI27 hbrk28 hret29
      replace hI27 : ∃ (uu0 : Value), f23 1 = (Value.int .i64 genus) ∧ f23 3 = (Value.pointer (some ⟨b1, 0, none⟩)) ∧ f23 7 = uu0 ∧ f23 12 = v_labels ∧ f23 13 = (Value.int .i64 ((labels).length : Int)) ∧ f23 14 = Value.int .i64 (k20 : Int) ∧ InR .i64 (k20 : Int) ∧ St wd2 wd24 [(Ty.sl (Ty.i .i64)).at uu0 x21] := hI27
      replace hb26 : p_impl_Ring_surface_L1 labels r_Table k20 x21 = some ct22 := hb26
      unfold p_impl_Ring_surface_L1 at hb26
      obtain ⟨u30, hf31, hf32, hf33, hf34, hf35, hf36, hr37, hS38⟩ := hI27
      refine W.seq (W.region ?_)
      refine WL.val (Value.bool (decide ((k20 : Int) < ((labels).length : Int)))) _ (op_lss hf36 hf35) rfl ?_
      have hl39 : (k20 : Int) < ((labels).length : Int) := by omega
      refine WL.nil ?_
      show W _ _ _ _ _ _
      refine W.seq ?_
      refine W.condT (decide ((k20 : Int) < ((labels).length : Int))) rfl (decide_eq_true hl39) ?_
      refine W.skip ?_
      show W _ _ _ _ _ _
      refine W.seq ?_
      refine W.block ?_
      refine W.seq (W.region ?_)
      obtain ⟨x41, hx44, hb26⟩ := bs hb26
      obtain ⟨ha42, hb43, hx44⟩ := idx_some hx44
      refine WL.val (Value.pointer (some (elA v_labels ((k20 : Int)).toNat))) _ (op_idx sl_25 (Ty.lift _ (Ext.trans hE7 hS38.ext) r_labels) hf34 hf36 ha42 hb43) rfl ?_
      obtain ⟨u45, hc46, hr47⟩ := repSl.el r_labels hx44
      obtain ⟨rfl, hr47⟩ := hr47
      refine WL.val (Value.int .i64 x41) _ (op_load one_2 rfl (Ext.cell (Ext.trans hE7 hS38.ext) hc46)) rfl ?_
      refine WL.val (Value.int .i64 x41) _ (op_assign rfl) rfl ?_
      refine WL.nil ?_
      show W _ _ _ _ _ _
      refine W.seq ?_
      obtain ⟨x91, hx92, hb26⟩ := bs hb26
      refine W.drawR mixo 5 [] [fun _ v S w' => v = (Value.agg #[v_r_Table]), fun _ v _ _ => v = u30, fun _ v S w' => v = (Value.agg #[v_r_Table]), fun _ v _ _ => v = (Value.int .i64 x41) ∧ InR .i64 x41, fun _ v S w' => SepS S w' [(Ty.sl (Ty.i .i64)).at v x91]] (by kernel_rfl) (by kernel_rfl) ⟨⟨fun _ _ _ _ _ _ h => h, fun _ _ _ _ _ _ h => h⟩, ⟨fun _ _ _ _ _ _ h => h, fun _ _ _ _ _ _ h => h⟩, ⟨fun _ _ _ _ _ _ h => h, fun _ _ _ _ _ _ h => h⟩, ⟨fun _ _ _ _ _ _ h => h, fun _ _ _ _ _ _ h => h⟩, ⟨fun _ _ _ _ _ he h => SepS.extend he h, fun _ _ _ _ _ _ h => h⟩, trivial⟩ ⟨?_, ?_, ?_, ?_, ?_, trivial⟩ ?_
      · refine ObX.op rfl ?_
        intro f48 wd49 he50 hout51 hphi52
        have hS53 : St wd2 wd49 [(Ty.sl (Ty.i .i64)).at u30 x21] := St.extend hS38 he50
        have e54 : f48 3 = (Value.pointer (some ⟨b1, 0, none⟩)) := (hout51 3 rfl).trans hf32
        exact OpX.val (Value.agg #[v_r_Table]) wd49 rfl (op_loadBox st_29 e54 (BoxAt.lift hS53.ext hx6) rfl rfl) (Ext.refl _) rfl
      · refine ObX.op rfl ?_
        intro f55 wd56 he57 hout58 hphi59
        have hS60 : St wd2 wd56 [(Ty.sl (Ty.i .i64)).at u30 x21] := St.extend hS38 he57
        have e61 : f55 7 = u30 := (hout58 7 rfl).trans hf33
        exact OpX.val u30 wd56 rfl (op_move e61) (Ext.refl _) rfl
      · refine ObX.op rfl ?_
        intro f62 wd63 he64 hout65 hphi66
        have hS67 : St wd2 wd63 [(Ty.sl (Ty.i .i64)).at u30 x21] := St.extend hS38 he64
        have e68 : f62 3 = (Value.pointer (some ⟨b1, 0, none⟩)) := (hout65 3 rfl).trans hf32
        exact OpX.val (Value.agg #[v_r_Table]) wd63 rfl (op_loadBox st_29 e68 (BoxAt.lift hS67.ext hx6) rfl rfl) (Ext.refl _) rfl
      · refine ObX.op rfl ?_
        intro f69 wd70 he71 hout72 hphi73
        have hS74 : St wd2 wd70 [(Ty.sl (Ty.i .i64)).at u30 x21] := St.extend hS38 he71
        have e75 : f69 9 = (Value.int .i64 x41) := (hout72 9 rfl).trans rfl
        exact OpX.val (Value.int .i64 x41) wd70 rfl (op_move e75) (Ext.refl _) ⟨rfl, hr47⟩
      · refine ObX.op rfl ?_
        intro f76 wd77 he78 hout79 hphi80
        have hS81 : St wd2 wd77 [(Ty.sl (Ty.i .i64)).at u30 x21] := St.extend hS38 he78
        obtain ⟨S82, hS83, hf84⟩ := hphi80 2 20 _ rfl rfl rfl
        have e85 : f76 20 = (Value.agg #[v_r_Table]) := hf84
        obtain ⟨S86, hS87, hf88⟩ := hphi80 3 21 _ rfl rfl rfl
        obtain ⟨e89, hr90⟩ : f76 21 = (Value.int .i64 x41) ∧ InR .i64 x41 := hf88
        refine OpX.call rfl (op_call fn_67 (args2 e85 e89)) (Ret.mono (c_impl_Ring_vectorOf (Ty.lift _ (Ext.trans hE7 hS81.ext) r_r_Table) hr90 hx92) ?_)
        rintro u93 wd95 ⟨_, rfl, hn94, he96, hs97⟩
        exact ⟨he96, _, newS _ _, (Sep.new hs97)⟩
      · intro f98 wd99 Ss100 he101 hout102 hSn103 hSd104 hphi105
        show WL _ _ _ _ _ _ _
        have hS106 : St wd2 wd99 [(Ty.sl (Ty.i .i64)).at u30 x21] := St.extend hS38 he101
        have e107 : f98 18 = (Value.agg #[v_r_Table]) := hphi105 0 18 _ (by decide) rfl rfl
        have e108 : f98 19 = u30 := hphi105 1 19 _ (by decide) rfl rfl
        have e109 : SepS (Ss100 4) wd99 [(Ty.sl (Ty.i .i64)).at (f98 22) x91] := hphi105 4 22 _ (by decide) rfl rfl
        have e110 : f98 1 = (Value.int .i64 genus) := (hout102 1 rfl).trans hf31
        have e111 : f98 3 = (Value.pointer (some ⟨b1, 0, none⟩)) := (hout102 3 rfl).trans hf32
        have e112 : f98 12 = v_labels := (hout102 12 rfl).trans hf34
        have e113 : f98 13 = (Value.int .i64 ((labels).length : Int)) := (hout102 13 rfl).trans hf35
        have e114 : f98 14 = (Value.int .i64 (k20 : Int)) := (hout102 14 rfl).trans hf36
        have hS115 := St.joinS hS38 he101 hSn103 (SepS.consS hSd104 rfl e109 SepS.nilS)
        replace hS115 : St wd2 wd99 [(Ty.sl (Ty.i .i64)).at u30 x21, (Ty.sl (Ty.i .i64)).at (f98 22) x91] := hS115
        obtain ⟨x116, hx117, hb26⟩ := bs hb26
        refine WL.call _ (op_call fn_68 (args3 e107 e108 rfl)) (c_impl_Ring_limitedProduct (Ty.lift _ (Ext.trans hE7 hS115.ext) r_r_Table) (St.rep (t := (Ty.sl (Ty.i .i64))) hS115 0 rfl) (St.rep (t := (Ty.sl (Ty.i .i64))) hS115 1 rfl) hx117) rfl ?_
        rintro u118 wd120 ⟨_, rfl, hn119, he121, hs122⟩
        have hS123 := St.join hS115 he121 hs122
        replace hS123 : St wd2 wd120 [(Ty.sl (Ty.i .i64)).at u30 x21, (Ty.sl (Ty.i .i64)).at (f98 22) x91, (Ty.sl (Ty.i .i64)).at u118 x116] := hS123
        refine WL.val u118 _ (op_assign rfl) rfl ?_
        refine WL.nil ?_
        show W _ _ _ _ _ _
        refine W.seq (W.region ?_)
        refine WL.val u118 _ (op_move rfl) rfl ?_
        refine WL.val (Value.bool (x116).isEmpty) _ (op_eqlNilL sl_25 (St.rep (t := (Ty.sl (Ty.i .i64))) hS123 2 rfl) hn119 rfl rfl) rfl ?_
        refine WL.nil ?_
        show W _ _ _ _ _ _
        refine W.cond (x116).isEmpty rfl (fun hc124 => ?_) (fun hc124 => ?_)
        · replace hb26 := ip hb26 hc124
          refine W.seq (W.region ?_)
          refine WL.val (Value.int .i64 (-1 : Int)) _ (op_assign rfl) rfl ?_
          refine WL.nil ?_
          show W _ _ _ _ _ _
          refine W.ret ?_
          obtain rfl := Option.some.inj hb26
          obtain rfl := hret29 _ rfl
          replace h := onRes_ret h
          obtain rfl := Option.some.inj h
          show FinP _ _ _ _ _ _ _
          exact FinP.ret _ (res1 rfl rfl) ⟨rfl, (inR_i64.2 (show (-9223372036854775808 : Int) ≤ -1 ∧ (-1 : Int) ≤ 9223372036854775807 from by decide)), (Ext.trans hE7 hS123.ext)⟩
        · replace hb26 := inegb hb26 hc124
          refine W.skip ?_
          show W _ _ _ _ _ _
          refine W.region ?_
          refine WL.val (Value.int .i64 (w64 ((k20 : Int) + (1 : Int)))) _ (op_add e114 rfl) rfl ?_
          refine WL.val (Value.int .i64 (w64 ((k20 : Int) + (1 : Int)))) _ (op_move rfl) rfl ?_
          refine WL.nil ?_
          obtain rfl := Option.some.inj hb26
          show ∃ s, _ = Ctl.next s ∧ _
          exact ⟨_, rfl, u118, e110, e111, rfl, e112, e113, (ctr_next hl39 hr17), (ctr_rng hl39 hr17), (St.pick hS123 [2] rfl)⟩
    · intro x132 f127 wd128 hs129 hI130
      replace hI130 : ∃ (uu0 : Value), f127 1 = (Value.int .i64 genus) ∧ f127 3 = (Value.pointer (some ⟨b1, 0, none⟩)) ∧ f127 7 = uu0 ∧ f127 12 = v_labels ∧ f127 13 = (Value.int .i64 ((labels).length : Int)) ∧ f127 14 = Value.int .i64 (((labels).length : Nat) : Int) ∧ InR .i64 (((labels).length : Nat) : Int) ∧ St wd2 wd128 [(Ty.sl (Ty.i .i64)).at uu0 x132] := hI130
      obtain ⟨u133, hf134, hf135, hf136, hf137, hf138, hf139, hr140, hS141⟩ := hI130
      refine W.seq (W.region ?_)
      refine WL.val (Value.bool (decide ((((labels).length : Nat) : Int) < ((labels).length : Int)))) _ (op_lss hf139 hf138) rfl ?_
      have hl142 : ¬ (((labels).length : Nat) : Int) < ((labels).length : Int) := by omega
      refine WL.nil ?_
      show W _ _ _ _ _ _
      refine W.seq ?_
      refine W.condF (decide ((((labels).length : Nat) : Int) < ((labels).length : Int))) rfl (decide_eq_false hl142) ?_
      refine W.exit ?_
      show _ = _ ∧ _
      exact ⟨rfl, _, hs129, u133, hf134, hf135, hf136, hS141⟩
  · rintro f143 wd144 ⟨x147, rfl, hq145⟩
    replace h := onRes_fin h
    replace hq145 : ∃ (uu0 : Value), f143 1 = (Value.int .i64 genus) ∧ f143 3 = (Value.pointer (some ⟨b1, 0, none⟩)) ∧ f143 7 = uu0 ∧ St wd2 wd144 [(Ty.sl (Ty.i .i64)).at uu0 x147] := hq145
    obtain ⟨u148, hf149, hf150, hf151, hS152⟩ := hq145
    show W _ _ _ _ _ _
    refine W.seq (W.seq (W.region ?_))
    refine WL.val (Value.int .i64 genus) _ (op_move hf149) rfl ?_
    refine WL.val (Value.int .i64 (0 : Int)) _ (op_move rfl) rfl ?_
    refine WL.nil ?_
    show W _ _ _ _ _ _
    obtain ⟨res153, hres154, h⟩ := bs h
    refine W.blockLoop (fun fq wq => ∃ s, res153 = Res.fin s ∧ ∃ (uu0 : Value), fq 7 = uu0 ∧ St wd2 wq [(Ty.sl (Ty.i .i64)).at uu0 s]) ?_ ?_
    · refine W.forN (fun k (s : (List Int)) fq wq => ∃ (uu0 : Value), fq 3 = (Value.pointer (some ⟨b1, 0, none⟩)) ∧ fq 7 = uu0 ∧ fq 27 = (Value.int .i64 genus) ∧ fq 28 = Value.int .i64 (k : Int) ∧ InR .i64 (k : Int) ∧ St wd2 wq [(Ty.sl (Ty.i .i64)).at uu0 s]) hres154 ⟨u148, hf150, hf151, rfl, rfl, (inR_i64.2 (show (-9223372036854775808 : Int) ≤ 0 ∧ (0 : Int) ≤ 9223372036854775807 from by decide)), hS152⟩ ?_ ?_
      · intro k155 x156 ct157 f158 wd159 hk160 hb161 hI162 hbrk163 hret164
        replace hI162 : ∃ (uu0 : Value), f158 3 = (Value.pointer (some ⟨b1, 0, none⟩)) ∧ f158 7 = uu0 ∧ f158 27 = (Value.int .i64 genus) ∧ f158 28 = Value.int .i64 (k155 : Int) ∧ InR .i64 (k155 : Int) ∧ St wd2 wd159 [(Ty.sl (Ty.i .i64)).at uu0 x156] := hI162
        replace hb161 : p_impl_Ring_surface_L2 r_Table k155 x156 = some ct157 := hb161
        unfold p_impl_Ring_surface_L2 at hb161
        obtain ⟨u165, hf166, hf167, hf168, hf169, hr170, hS171⟩ := hI162
        refine W.seq (W.region ?_)
        refine WL.val (Value.bool (decide ((k155 : Int) < genus))) _ (op_lss hf169 hf168) rfl ?_
        have hl172 : (k155 : Int) < genus := by omega
        refine WL.nil ?_
        show W _ _ _ _ _ _
        refine W.seq ?_
        refine W.condT (decide ((k155 : Int) < genus)) rfl (decide_eq_true hl172) ?_
        refine W.skip ?_
        show W _ _ _ _ _ _
        refine W.seq ?_
        refine W.block ?_
        refine W.seq ?_
        obtain ⟨x205, hx206, hb161⟩ := bs hb161
        refine W.drawR mixo 4 [] [fun _ v S w' => v = (Value.agg #[v_r_Table]), fun _ v _ _ => v = u165, fun _ v S w' => v = (Value.agg #[v_r_Table]), fun _ v S w' => SepS S w' [(Ty.sl (Ty.i .i64)).at v x205]] (by kernel_rfl) (by kernel_rfl) ⟨⟨fun _ _ _ _ _ _ h => h, fun _ _ _ _ _ _ h => h⟩, ⟨fun _ _ _ _ _ _ h => h, fun _ _ _ _ _ _ h => h⟩, ⟨fun _ _ _ _ _ _ h => h, fun _ _ _ _ _ _ h => h⟩, ⟨fun _ _ _ _ _ he h => SepS.extend he h, fun _ _ _ _ _ _ h => h⟩, trivial⟩ ⟨?_, ?_, ?_, ?_, trivial⟩ ?_
        · refine ObX.op rfl ?_
          intro f174 wd175 he176 hout177 hphi178
          have hS179 : St wd2 wd175 [(Ty.sl (Ty.i .i64)).at u165 x156] := St.extend hS171 he176
          have e180 : f174 3 = (Value.pointer (some ⟨b1, 0, none⟩)) := (hout177 3 rfl).trans hf166
          exact OpX.val (Value.agg #[v_r_Table]) wd175 rfl (op_loadBox st_29 e180 (BoxAt.lift hS179.ext hx6) rfl rfl) (Ext.refl _) rfl
        · refine ObX.op rfl ?_
          intro f181 wd182 he183 hout184 hphi185
          have hS186 : St wd2 wd182 [(Ty.sl (Ty.i .i64)).at u165 x156] := St.extend hS171 he183
          have e187 : f181 7 = u165 := (hout184 7 rfl).trans hf167
          exact OpX.val u165 wd182 rfl (op_move e187) (Ext.refl _) rfl
        · refine ObX.op rfl ?_
          intro f188 wd189 he190 hout191 hphi192
          have hS193 : St wd2 wd189 [(Ty.sl (Ty.i .i64)).at u165 x156] := St.extend hS171 he190
          have e194 : f188 3 = (Value.pointer (some ⟨b1, 0, none⟩)) := (hout191 3 rfl).trans hf166
          exact OpX.val (Value.agg #[v_r_Table]) wd189 rfl (op_loadBox st_29 e194 (BoxAt.lift hS193.ext hx6) rfl rfl) (Ext.refl _) rfl
        · refine ObX.op rfl ?_
          intro f195 wd196 he197 hout198 hphi199
          have hS200 : St wd2 wd196 [(Ty.sl (Ty.i .i64)).at u165 x156] := St.extend hS171 he197
          obtain ⟨S201, hS202, hf203⟩ := hphi199 2 32 _ rfl rfl rfl
          have e204 : f195 32 = (Value.agg #[v_r_Table]) := hf203
          refine OpX.call rfl (op_call fn_69 (args1 e204)) (Ret.mono (c_impl_Ring_handle (Ty.lift _ (Ext.trans hE7 hS200.ext) r_r_Table) hx206) ?_)
          rintro u207 wd208 ⟨_, rfl, he209, hs210⟩
          exact ⟨he209, _, newS _ _, (Sep.new hs210)⟩
        · intro f211 wd212 Ss213 he214 hout215 hSn216 hSd217 hphi218
          show WL _ _ _ _ _ _ _
          have hS219 : St wd2 wd212 [(Ty.sl (Ty.i .i64)).at u165 x156] := St.extend hS171 he214
          have e220 : f211 30 = (Value.agg #[v_r_Table]) := hphi218 0 30 _ (by decide) rfl rfl
          have e221 : f211 31 = u165 := hphi218 1 31 _ (by decide) rfl rfl
          have e222 : SepS (Ss213 3) wd212 [(Ty.sl (Ty.i .i64)).at (f211 33) x205] := hphi218 3 33 _ (by decide) rfl rfl
          have e223 : f211 3 = (Value.pointer (some ⟨b1, 0, none⟩)) := (hout215 3 rfl).trans hf166
          have e224 : f211 27 = (Value.int .i64 genus) := (hout215 27 rfl).trans hf168
          have e225 : f211 28 = (Value.int .i64 (k155 : Int)) := (hout215 28 rfl).trans hf169
          have hS226 := St.joinS hS171 he214 hSn216 (SepS.consS hSd217 rfl e222 SepS.nilS)
          replace hS226 : St wd2 wd212 [(Ty.sl (Ty.i .i64)).at u165 x156, (Ty.sl (Ty.i .i64)).at (f211 33) x205] := hS226
          obtain ⟨x227, hx228, hb161⟩ := bs hb161
          refine WL.call _ (op_call fn_68 (args3 e220 e221 rfl)) (c_impl_Ring_limitedProduct (Ty.lift _ (Ext.trans hE7 hS226.ext) r_r_Table) (St.rep (t := (Ty.sl (Ty.i .i64))) hS226 0 rfl) (St.rep (t := (Ty.sl (Ty.i .i64))) hS226 1 rfl) hx228) rfl ?_
          rintro u229 wd231 ⟨_, rfl, hn230, he232, hs233⟩
          have hS234 := St.join hS226 he232 hs233
          replace hS234 : St wd2 wd231 [(Ty.sl (Ty.i .i64)).at u165 x156, (Ty.sl (Ty.i .i64)).at (f211 33) x205, (Ty.sl (Ty.i .i64)).at u229 x227] := hS234
          refine WL.val u229 _ (op_assign rfl) rfl ?_
          refine WL.nil ?_
          show W _ _ _ _ _ _
          refine W.seq (W.region ?_)
          refine WL.val u229 _ (op_move rfl) rfl ?_
          refine WL.val (Value.bool (x227).isEmpty) _ (op_eqlNilL sl_25 (St.rep (t := (Ty.sl (Ty.i .i64))) hS234 2 rfl) hn230 rfl rfl) rfl ?_
          refine WL.nil ?_
          show W _ _ _ _ _ _
          refine W.cond (x227).isEmpty rfl (fun hc235 => ?_) (fun hc235 => ?_)
          · replace hb161 := ip hb161 hc235
            refine W.seq (W.region ?_)
            refine WL.val (Value.int .i64 (-1 : Int)) _ (op_assign rfl) rfl ?_
            refine WL.nil ?_
            show W _ _ _ _ _ _
            refine W.ret ?_
            obtain rfl := Option.some.inj hb161
            obtain rfl := hret164 _ rfl
            replace h := onRes_ret h
            obtain rfl := Option.some.inj h
            show FinP _ _ _ _ _ _ _
            exact FinP.ret _ (res1 rfl rfl) ⟨rfl, (inR_i64.2 (show (-9223372036854775808 : Int) ≤ -1 ∧ (-1 : Int) ≤ 9223372036854775807 from by decide)), (Ext.trans hE7 hS234.ext)⟩
          · replace hb161 := inegb hb161 hc235
            refine W.skip ?_
            show W _ _ _ _ _ _
            refine W.region ?_
            refine WL.val (Value.int .i64 (w64 ((k155 : Int) + (1 : Int)))) _ (op_add e225 rfl) rfl ?_
            refine WL.val (Value.int .i64 (w64 ((k155 : Int) + (1 : Int)))) _ (op_move rfl) rfl ?_
            refine WL.nil ?_
            obtain rfl := Option.some.inj hb161
            show ∃ s, _ = Ctl.next s ∧ _
            exact ⟨_, rfl, u229, e223, rfl, e224, (ctr_next hl172 r_genus), (ctr_rng hl172 r_genus), (St.pick hS234 [2] rfl)⟩
      · intro x243 f238 wd239 hs240 hI241
        replace hI241 : ∃ (uu0 : Value), f238 3 = (Value.pointer (some ⟨b1, 0, none⟩)) ∧ f238 7 = uu0 ∧ f238 27 = (Value.int .i64 genus) ∧ f238 28 = Value.int .i64 (((genus).toNat : Nat) : Int) ∧ InR .i64 (((genus).toNat : Nat) : Int) ∧ St wd2 wd239 [(Ty.sl (Ty.i .i64)).at uu0 x243] := hI241
        obtain ⟨u244, hf245, hf246, hf247, hf248, hr249, hS250⟩ := hI241
        refine W.seq (W.region ?_)
        refine WL.val (Value.bool (decide ((((genus).toNat : Nat) : Int) < genus))) _ (op_lss hf248 hf247) rfl ?_
        have hl251 : ¬ (((genus).toNat : Nat) : Int) < genus := by omega
        refine WL.nil ?_
        show W _ _ _ _ _ _
        refine W.seq ?_
        refine W.condF (decide ((((genus).toNat : Nat) : Int) < genus)) rfl (decide_eq_false hl251) ?_
        refine W.exit ?_
        show _ = _ ∧ _
        exact ⟨rfl, _, hs240, u244, hf246, hS250⟩
    · rintro f252 wd253 ⟨x256, rfl, hq254⟩
      replace h := onRes_fin h
      replace hq254 : ∃ (uu0 : Value), f252 7 = uu0 ∧ St wd2 wd253 [(Ty.sl (Ty.i .i64)).at uu0 x256] := hq254
      obtain ⟨u257, hf258, hS259⟩ := hq254
      show W _ _ _ _ _ _
      refine W.seq (W.region ?_)
      refine WL.val u257 _ (op_move hf258) rfl ?_
      obtain ⟨x260, hx263, h⟩ := bs h
      obtain ⟨ha261, hb262, hx263⟩ := idx_some hx263
      refine WL.val (Value.pointer (some (elA u257 ((0 : Int)).toNat))) _ (op_idx sl_25 (St.rep (t := (Ty.sl (Ty.i .i64))) hS259 0 rfl) rfl rfl ha261 hb262) rfl ?_
      obtain ⟨u264, hc265, hr266⟩ := repSl.el (St.rep (t := (Ty.sl (Ty.i .i64))) hS259 0 rfl) hx263
      obtain ⟨rfl, hr266⟩ := hr266
      refine WL.val (Value.int .i64 x260) _ (op_load one_2 rfl hc265) rfl ?_
      refine WL.val (Value.int .i64 x260) _ (op_assign rfl) rfl ?_
      refine WL.nil ?_
      show W _ _ _ _ _ _
      refine W.ret ?_
      obtain rfl := Option.some.inj h
      show FinP _ _ _ _ _ _ _
      exact FinP.ret _ (res1 rfl rfl) ⟨rfl, hr266, (Ext.trans hE7 hS259.ext)⟩

theorem c_impl_SurfaceDimension {w : World} {r_Table : (List (List (List Int)))} {v_r_Table : Value} {genus : Int} {labels : (List Int)} {v_labels : Value} (r_r_Table : (Ty.sl (Ty.sl (Ty.sl (Ty.i .i64)))).rep w v_r_Table r_Table) (r_genus : InR .i64 genus) (r_labels : (Ty.sl (Ty.i .i64)).rep w v_labels labels) {res : Int × Int} (h : p_impl_SurfaceDimension r_Table genus labels  = some res) :
    Ret Try.prog 12 #[(Value.agg #[v_r_Table]), (Value.int .i64 genus), v_labels] w (fun v w' => v = (Value.tuple #[Value.int .i64 res.1, Value.int .i64 res.2]) ∧ InR .i64 res.1 ∧ InR .i64 res.2 ∧ Ext w w') := by
  unfold p_impl_SurfaceDimension at h
  have hS0 : St w w [] := St.start w
  refine Ret.start (fn := Try.f12) Try.func12 rfl 36 rfl rfl ?_
  refine W.seq (W.region ?_)
  refine WL.box hS0 rfl (cs := [v_r_Table]) rfl rfl ?_
  intro b1 wd2 hS3 he4 hx5
  replace hS3 : St w wd2 [bx b1 [v_r_Table]] := hS3
  have hx6 := St.boxAt hS3 0 rfl
  have hE7 : Ext w wd2 := hS3.ext
  have hS8 : St wd2 wd2 [] := St.start wd2
  refine WL.val (Value.int .i64 (0 : Int)) _ (op_assign rfl) rfl ?_
  refine WL.val (Value.int .i64 (0 : Int)) _ (op_assign rfl) rfl ?_
  refine WL.nil ?_
  show W _ _ _ _ _ _
  refine W.seq (W.seq (W.region ?_))
  refine WL.val (Value.agg #[v_r_Table]) _ (op_loadBox st_29 rfl (BoxAt.lift hS8.ext hx6) rfl rfl) rfl ?_
  obtain ⟨x9, hx10, h⟩ := bs h
  refine WL.call _ (op_call fn_37 (args1 rfl)) (c_impl_commuteCode (Ty.lift _ (Ext.trans hE7 hS8.ext) r_r_Table) hx10) rfl ?_
  rintro _ wd12 ⟨rfl, hr11, he13⟩
  have hS15 := St.extend hS8 he13
  replace hS15 : St wd2 wd12 [] := hS15
  refine WL.val (Value.int .i64 x9) _ (op_assign rfl) rfl ?_
  refine WL.nil ?_
  show W _ _ _ _ _ _
  refine W.seq (W.region ?_)
  refine WL.val (Value.int .i64 x9) _ (op_move rfl) rfl ?_
  refine WL.val (Value.bool (x9 != (0 : Int))) _ (op_neq rfl rfl) rfl ?_
  refine WL.nil ?_
  show W _ _ _ _ _ _
  refine W.cond (x9 != (0 : Int)) rfl (fun hc16 => ?_) (fun hc16 => ?_)
  · replace h := ip h hc16
    refine W.seq (W.region ?_)
    refine WL.val (Value.int .i64 x9) _ (op_move rfl) rfl ?_
    refine WL.val (Value.int .i64 (0 : Int)) _ (op_assign rfl) rfl ?_
    refine WL.val (Value.int .i64 x9) _ (op_assign rfl) rfl ?_
    refine WL.nil ?_
    show W _ _ _ _ _ _
    refine W.ret ?_
    obtain rfl := Option.some.inj h
    show FinP _ _ _ _ _ _ _
    exact FinP.ret _ (res2 rfl rfl rfl) ⟨rfl, (inR_i64.2 (show (-9223372036854775808 : Int) ≤ 0 ∧ (0 : Int) ≤ 9223372036854775807 from by decide)), hr11, (Ext.trans hE7 hS15.ext)⟩
  · replace h := inegb h hc16
    refine W.skip ?_
    show W _ _ _ _ _ _
    refine W.seq (W.seq (W.region ?_))
    refine WL.val (Value.int .i64 genus) _ (op_move rfl) rfl ?_
    obtain ⟨x18, hx19, h⟩ := bs h
    refine WL.call _ (op_call fn_38 (args3 rfl rfl rfl)) (c_impl_within r_genus (inR_i64.2 (show (-9223372036854775808 : Int) ≤ 0 ∧ (0 : Int) ≤ 9223372036854775807 from by decide)) (inR_i64.2 (show (-9223372036854775808 : Int) ≤ 20 ∧ (20 : Int) ≤ 9223372036854775807 from by decide)) hx19) rfl ?_
    rintro _ wd20 ⟨rfl, he21⟩
    have hS23 := St.extend hS15 he21
    replace hS23 : St wd2 wd20 [] := hS23
    refine WL.val (Value.bool (!x18)) _ (op_not rfl) rfl ?_
    refine WL.val (Value.bool (!x18)) _ (op_move rfl) rfl ?_
    refine WL.cut 4 (fun fq wq => fq 1 = (Value.int .i64 genus) ∧ fq 2 = v_labels ∧ fq 3 = (Value.pointer (some ⟨b1, 0, none⟩)) ∧ fq 22 = (Value.bool ((!x18) || (decide (((labels).length : Int) > (8 : Int))))) ∧ St wd2 wq []) ?_ ?_
    · rcases Bool.eq_false_or_eq_true (!x18) with hc24 | hc24
      · refine WL.gskip rfl (bool_of rfl hc24) rfl ?_
        refine WL.gskip rfl (bool_of rfl hc24) rfl ?_
        refine WL.gskip rfl (bool_of rfl hc24) rfl ?_
        refine WL.val (Value.bool true) _ (op_pick_t (evb_of rfl hc24) rfl) rfl ?_
        refine WL.nil ?_
        exact ⟨rfl, rfl, rfl, rfl, (orT hc24), hS23⟩
      · refine WL.grun rfl (bool_of rfl hc24) ?_
        refine WL.val v_labels _ (op_move rfl) rfl ?_
        refine WL.grun rfl (bool_of rfl hc24) ?_
        have hr28 := inR_len (Ty.lift _ (Ext.trans hE7 hS23.ext) r_labels)
        refine WL.val (Value.int .i64 ((labels).length : Int)) _ (op_lenL sl_25 (Ty.lift _ (Ext.trans hE7 hS23.ext) r_labels) rfl) rfl ?_
        refine WL.grun rfl (bool_of rfl hc24) ?_
        refine WL.val (Value.bool (decide (((labels).length : Int) > (8 : Int)))) _ (op_gtr rfl rfl) rfl ?_
        refine WL.val (Value.bool (decide (((labels).length : Int) > (8 : Int)))) _ (op_pick_f (evb_of rfl hc24) rfl) rfl ?_
        refine WL.nil ?_
        exact ⟨rfl, rfl, rfl, rfl, (orF hc24), hS23⟩
    · intro f25 wd26 hq27
      obtain ⟨hf29, hf30, hf31, hf32, hS33⟩ := hq27
      refine WL.val (Value.bool ((!x18) || (decide (((labels).length : Int) > (8 : Int))))) _ (op_move hf32) rfl ?_
      obtain ⟨x35, hj36, h⟩ := bs h
      refine WL.cut 5 (fun fq wq => fq 1 = (Value.int .i64 genus) ∧ fq 2 = v_labels ∧ fq 3 = (Value.pointer (some ⟨b1, 0, none⟩)) ∧ fq 28 = Value.bool x35 ∧ St wd2 wq []) ?_ ?_
      · rcases Bool.eq_false_or_eq_true ((!x18) || (decide (((labels).length : Int) > (8 : Int)))) with hc34 | hc34
        · replace hj36 := ip hj36 hc34
          refine WL.gskip rfl (bool_of rfl hc34) rfl ?_
          refine WL.gskip rfl (bool_of rfl hc34) rfl ?_
          refine WL.gskip rfl (bool_of rfl hc34) rfl ?_
          refine WL.gskip rfl (bool_of rfl hc34) rfl ?_
          refine WL.val (Value.bool true) _ (op_pick_t (evb_of rfl hc34) rfl) rfl ?_
          refine WL.nil ?_
          obtain rfl := Option.some.inj hj36
          exact ⟨rfl, hf29, hf30, hf31, rfl, hS33⟩
        · replace hj36 := inegb hj36 hc34
          refine WL.grun rfl (bool_of rfl hc34) ?_
          refine WL.val (Value.agg #[v_r_Table]) _ (op_loadBox st_29 hf31 (BoxAt.lift hS33.ext hx6) rfl rfl) rfl ?_
          refine WL.grun rfl (bool_of rfl hc34) ?_
          refine WL.val v_labels _ (op_move hf30) rfl ?_
          refine WL.grun rfl (bool_of rfl hc34) ?_
          obtain ⟨x40, hx41, hj36⟩ := bs hj36
          refine WL.call _ (op_call fn_39 (args2 rfl rfl)) (c_impl_Ring_areLabels (Ty.lift _ (Ext.trans hE7 hS33.ext) r_r_Table) (Ty.lift _ (Ext.trans hE7 hS33.ext) r_labels) hx41) rfl ?_
          rintro _ wd42 ⟨rfl, he43⟩
          have hS45 := St.extend hS33 he43
          replace hS45 : St wd2 wd42 [] := hS45
          refine WL.grun rfl (bool_of rfl hc34) ?_
          refine WL.val (Value.bool (!x40)) _ (op_not rfl) rfl ?_
          refine WL.val (Value.bool (!x40)) _ (op_pick_f (evb_of rfl hc34) rfl) rfl ?_
          refine WL.nil ?_
          obtain rfl := Option.some.inj hj36
          exact ⟨rfl, hf29, hf30, hf31, rfl, hS45⟩
      · intro f37 wd38 hq39
        obtain ⟨hf46, hf47, hf48, hf49, hS50⟩ := hq39
        refine WL.nil ?_
        show W _ _ _ _ _ _
        refine W.cond x35 hf49 (fun hc51 => ?_) (fun hc51 => ?_)
        · replace h := ip h hc51
          refine W.seq (W.region ?_)
          refine WL.val (Value.int .i64 (0 : Int)) _ (op_assign rfl) rfl ?_
          refine WL.val (Value.int .i64 (2 : Int)) _ (op_assign rfl) rfl ?_
          refine WL.nil ?_
          show W _ _ _ _ _ _
          refine W.ret ?_
          obtain rfl := Option.some.inj h
          show FinP _ _ _ _ _ _ _
          exact FinP.ret _ (res2 rfl rfl rfl) ⟨rfl, (inR_i64.2 (show (-9223372036854775808 : Int) ≤ 0 ∧ (0 : Int) ≤ 9223372036854775807 from by decide)), (inR_i64.2 (show (-9223372036854775808 : Int) ≤ 2 ∧ (2 : Int) ≤ 9223372036854775807 from by decide)), (Ext.trans hE7 hS50.ext)⟩
        · replace h := inegb h hc51
          refine W.skip ?_
          show W _ _ _ _ _ _
          refine W.seq (W.region ?_)
          refine WL.val (Value.agg #[v_r_Table]) _ (op_loadBox st_29 hf48 (BoxAt.lift hS50.ext hx6) rfl rfl) rfl ?_
          refine WL.val (Value.int .i64 genus) _ (op_move hf46) rfl ?_
          refine WL.val v_labels _ (op_move hf47) rfl ?_
          obtain ⟨x53, hx54, h⟩ := bs h
          refine WL.call _ (op_call fn_40 (args3 rfl rfl rfl)) (c_impl_Ring_surface (Ty.lift _ (Ext.trans hE7 hS50.ext) r_r_Table) r_genus (Ty.lift _ (Ext.trans hE7 hS50.ext) r_labels) hx54) rfl ?_
          rintro _ wd56 ⟨rfl, hr55, he57⟩
          have hS59 := St.extend hS50 he57
          replace hS59 : St wd2 wd56 [] := hS59
          refine WL.val (Value.int .i64 x53) _ (op_assign rfl) rfl ?_
          refine WL.nil ?_
          show W _ _ _ _ _ _
          refine W.seq (W.seq (W.region ?_))
          refine WL.val (Value.int .i64 x53) _ (op_move rfl) rfl ?_
          refine WL.val (Value.bool (decide (x53 < (0 : Int)))) _ (op_lss rfl rfl) rfl ?_
          refine WL.nil ?_
          show W _ _ _ _ _ _
          refine W.cond (decide (x53 < (0 : Int))) rfl (fun hc60 => ?_) (fun hc60 => ?_)
          · replace h := ip h hc60
            refine W.seq (W.region ?_)
            refine WL.val (Value.int .i64 (0 : Int)) _ (op_assign rfl) rfl ?_
            refine WL.val (Value.int .i64 (3 : Int)) _ (op_assign rfl) rfl ?_
            refine WL.nil ?_
            show W _ _ _ _ _ _
            refine W.ret ?_
            obtain rfl := Option.some.inj h
            show FinP _ _ _ _ _ _ _
            exact FinP.ret _ (res2 rfl rfl rfl) ⟨rfl, (inR_i64.2 (show (-9223372036854775808 : Int) ≤ 0 ∧ (0 : Int) ≤ 9223372036854775807 from by decide)), (inR_i64.2 (show (-9223372036854775808 : Int) ≤ 3 ∧ (3 : Int) ≤ 9223372036854775807 from by decide)), (Ext.trans hE7 hS59.ext)⟩
          · replace h := inegb h hc60
            refine W.skip ?_
            show W _ _ _ _ _ _
            refine W.seq (W.region ?_)
            refine WL.val (Value.int .i64 x53) _ (op_move rfl) rfl ?_
            refine WL.val (Value.int .i64 x53) _ (op_assign rfl) rfl ?_
            refine WL.val (Value.int .i64 (0 : Int)) _ (op_assign rfl) rfl ?_
            refine WL.nil ?_
            show W _ _ _ _ _ _
            refine W.ret ?_
            obtain rfl := Option.some.inj h
            show FinP _ _ _ _ _ _ _
            exact FinP.ret _ (res2 rfl rfl rfl) ⟨rfl, hr55, (inR_i64.2 (show (-9223372036854775808 : Int) ≤ 0 ∧ (0 : Int) ≤ 9223372036854775807 from by decide)), (Ext.trans hE7 hS59.ext)⟩

theorem c_laws_eqInt64S {w : World} {a : (List Int)} {v_a : Value} {b : (List Int)} {v_b : Value} (r_a : (Ty.sl (Ty.i .i64)).rep w v_a a) (r_b : (Ty.sl (Ty.i .i64)).rep w v_b b) {res : Bool} (h : p_laws_eqInt64S a b  = some res) :
    Ret Try.prog 14 #[v_a, v_b] w (fun v w' => v = Value.bool res ∧ Ext w w') := by
  unfold p_laws_eqInt64S at h
  have hS0 : St w w [] := St.start w
  refine Ret.start (fn := Try.f14) Try.func14 rfl 26 rfl rfl ?_
  refine W.seq (W.region ?_)
  refine WL.val (Value.bool false) _ (op_assign rfl) rfl ?_
  refine WL.nil ?_
  show W _ _ _ _ _ _
  refine W.seq (W.seq (W.region ?_))
  refine WL.val v_a _ (op_move rfl) rfl ?_
  have hr1 := inR_len (Ty.lift _ hS0.ext r_a)
  refine WL.val (Value.int .i64 ((a).length : Int)) _ (op_lenL sl_25 (Ty.lift _ hS0.ext r_a) rfl) rfl ?_
  refine WL.val v_b _ (op_move rfl) rfl ?_
  have hr2 := inR_len (Ty.lift _ hS0.ext r_b)
  refine WL.val (Value.int .i64 ((b).length : Int)) _ (op_lenL sl_25 (Ty.lift _ hS0.ext r_b) rfl) rfl ?_
  refine WL.val (Value.bool (((a).length : Int) != ((b).length : Int))) _ (op_neq rfl rfl) rfl ?_
  refine WL.nil ?_
  show W _ _ _ _ _ _
  refine W.cond (((a).length : Int) != ((b).length : Int)) rfl (fun hc3 => ?_) (fun hc3 => ?_)
  · replace h := ip h hc3
    refine W.seq (W.region ?_)
    refine WL.val (Value.bool false) _ (op_assign rfl) rfl ?_
    refine WL.nil ?_
    show W _ _ _ _ _ _
    refine W.ret ?_
    obtain rfl := Option.some.inj h
    show FinP _ _ _ _ _ _ _
    exact FinP.ret _ (res1 rfl rfl) ⟨rfl, hS0.ext⟩
  · replace h := inegb h hc3
    refine W.skip ?_
    show W _ _ _ _ _ _
    refine W.seq (W.seq (W.region ?_))
    refine WL.val (Value.int .i64 (0 : Int)) _ (op_assign rfl) rfl ?_
    refine WL.nil ?_
    show W _ _ _ _ _ _
    obtain ⟨res5, hres6, h⟩ := bs h
    refine W.blockLoop (fun fq wq => ∃ s, res5 = Res.fin s ∧ St w wq []) ?_ ?_
    · refine W.forN (fun k (s : Unit) fq wq => fq 0 = v_a ∧ fq 1 = v_b ∧ fq 5 = Value.int .i64 (k : Int) ∧ InR .i64 (k : Int) ∧ St w wq []) hres6 ⟨rfl, rfl, rfl, (inR_i64.2 (show (-9223372036854775808 : Int) ≤ 0 ∧ (0 : Int) ≤ 9223372036854775807 from by decide)), hS0⟩ ?_ ?_
      · intro k7 s134 ct8 f9 wd10 hk11 hb12 hI13 hbrk14 hret15
        obtain ⟨⟩ := s134
        replace hI13 : f9 0 = v_a ∧ f9 1 = v_b ∧ f9 5 = Value.int .i64 (k7 : Int) ∧ InR .i64 (k7 : Int) ∧ St w wd10 [] := hI13
        replace hb12 : p_laws_eqInt64S_L1 a b k7  = some ct8 := hb12
        unfold p_laws_eqInt64S_L1 at hb12
        obtain ⟨hf16, hf17, hf18, hr19, hS20⟩ := hI13
        refine W.seq (W.seq (W.region ?_))
        refine WL.val (Value.int .i64 (k7 : Int)) _ (op_move hf18) rfl ?_
        refine WL.val v_a _ (op_move hf16) rfl ?_
        have hr21 := inR_len (Ty.lift _ hS20.ext r_a)
        refine WL.val (Value.int .i64 ((a).length : Int)) _ (op_lenL sl_25 (Ty.lift _ hS20.ext r_a) rfl) rfl ?_
        refine WL.val (Value.bool (decide ((k7 : Int) < ((a).length : Int)))) _ (op_lss rfl rfl) rfl ?_
        have hl22 : (k7 : Int) < ((a).length : Int) := by omega
        refine WL.nil ?_
        show W _ _ _ _ _ _
        refine W.condT (decide ((k7 : Int) < ((a).length : Int))) rfl (decide_eq_true hl22) ?_
        refine W.skip ?_
        show W _ _ _ _ _ _
        refine W.seq ?_
        refine W.block ?_
        refine W.seq ?_
        obtain ⟨x53, hx56, hb12⟩ := bs hb12
        obtain ⟨ha54, hb55, hx56⟩ := idx_some hx56
        obtain ⟨u67, hc68, hr69⟩ := repSl.el r_a hx56
        obtain ⟨rfl, hr69⟩ := hr69
        obtain ⟨x99, hx102, hb12⟩ := bs hb12
        obtain ⟨ha100, hb101, hx102⟩ := idx_some hx102
        obtain ⟨u113, hc114, hr115⟩ := repSl.el r_b hx102
        obtain ⟨rfl, hr115⟩ := hr115
        refine W.drawR mixo 8 [] [fun _ v _ _ => v = v_a, fun _ v _ _ => v = (Value.int .i64 (k7 : Int)) ∧ InR .i64 (k7 : Int), fun _ v _ _ => v = (Value.pointer (some (elA v_a ((k7 : Int)).toNat))), fun _ v _ _ => v = (Value.int .i64 x53) ∧ InR .i64 x53, fun _ v _ _ => v = v_b, fun _ v _ _ => v = (Value.int .i64 (k7 : Int)) ∧ InR .i64 (k7 : Int), fun _ v _ _ => v = (Value.pointer (some (elA v_b ((k7 : Int)).toNat))), fun _ v _ _ => v = (Value.int .i64 x99) ∧ InR .i64 x99] (by kernel_rfl) (by kernel_rfl) ⟨⟨fun _ _ _ _ _ _ h => h, fun _ _ _ _ _ _ h => h⟩, ⟨fun _ _ _ _ _ _ h => h, fun _ _ _ _ _ _ h => h⟩, ⟨fun _ _ _ _ _ _ h => h, fun _ _ _ _ _ _ h => h⟩, ⟨fun _ _ _ _ _ _ h => h, fun _ _ _ _ _ _ h => h⟩, ⟨fun _ _ _ _ _ _ h => h, fun _ _ _ _ _ _ h => h⟩, ⟨fun _ _ _ _ _ _ h => h, fun _ _ _ _ _ _ h => h⟩, ⟨fun _ _ _ _ _ _ h => h, fun _ _ _ _ _ _ h => h⟩, ⟨fun _ _ _ _ _ _ h => h, fun _ _ _ _ _ _ h => h⟩, trivial⟩ ⟨?_, ?_, ?_, ?_, ?_, ?_, ?_, ?_, trivial⟩ ?_
        · refine ObX.op rfl ?_
          intro f24 wd25 he26 hout27 hphi28
          have hS29 : St w wd25 [] := St.extend hS20 he26
          have e30 : f24 0 = v_a := (hout27 0 rfl).trans hf16
          exact OpX.val v_a wd25 rfl (op_move e30) (Ext.refl _) rfl
        · refine ObX.op rfl ?_
          intro f31 wd32 he33 hout34 hphi35
          have hS36 : St w wd32 [] := St.extend hS20 he33
          have e37 : f31 5 = (Value.int .i64 (k7 : Int)) := (hout34 5 rfl).trans hf18
          exact OpX.val (Value.int .i64 (k7 : Int)) wd32 rfl (op_move e37) (Ext.refl _) ⟨rfl, hr19⟩
        · refine ObX.op rfl ?_
          intro f38 wd39 he40 hout41 hphi42
          have hS43 : St w wd39 [] := St.extend hS20 he40
          obtain ⟨S44, hS45, hf46⟩ := hphi42 0 17 _ rfl rfl rfl
          have e47 : f38 17 = v_a := hf46
          obtain ⟨S48, hS49, hf50⟩ := hphi42 1 18 _ rfl rfl rfl
          obtain ⟨e51, hr52⟩ : f38 18 = (Value.int .i64 (k7 : Int)) ∧ InR .i64 (k7 : Int) := hf50
          exact OpX.val (Value.pointer (some (elA v_a ((k7 : Int)).toNat))) wd39 rfl (op_idx sl_25 (Ty.lift _ hS43.ext r_a) e47 e51 ha54 hb55) (Ext.refl _) rfl
        · refine ObX.op rfl ?_
          intro f57 wd58 he59 hout60 hphi61
          have hS62 : St w wd58 [] := St.extend hS20 he59
          obtain ⟨S63, hS64, hf65⟩ := hphi61 2 19 _ rfl rfl rfl
          have e66 : f57 19 = (Value.pointer (some (elA v_a ((k7 : Int)).toNat))) := hf65
          exact OpX.val (Value.int .i64 x53) wd58 rfl (op_load one_2 e66 (Ext.cell hS62.ext hc68)) (Ext.refl _) ⟨rfl, hr69⟩
        · refine ObX.op rfl ?_
          intro f70 wd71 he72 hout73 hphi74
          have hS75 : St w wd71 [] := St.extend hS20 he72
          have e76 : f70 1 = v_b := (hout73 1 rfl).trans hf17
          exact OpX.val v_b wd71 rfl (op_move e76) (Ext.refl _) rfl
        · refine ObX.op rfl ?_
          intro f77 wd78 he79 hout80 hphi81
          have hS82 : St w wd78 [] := St.extend hS20 he79
          have e83 : f77 5 = (Value.int .i64 (k7 : Int)) := (hout80 5 rfl).trans hf18
          exact OpX.val (Value.int .i64 (k7 : Int)) wd78 rfl (op_move e83) (Ext.refl _) ⟨rfl, hr19⟩
        · refine ObX.op rfl ?_
          intro f84 wd85 he86 hout87 hphi88
          have hS89 : St w wd85 [] := St.extend hS20 he86
          obtain ⟨S90, hS91, hf92⟩ := hphi88 4 21 _ rfl rfl rfl
          have e93 : f84 21 = v_b := hf92
          obtain ⟨S94, hS95, hf96⟩ := hphi88 5 22 _ rfl rfl rfl
          obtain ⟨e97, hr98⟩ : f84 22 = (Value.int .i64 (k7 : Int)) ∧ InR .i64 (k7 : Int) := hf96
          exact OpX.val (Value.pointer (some (elA v_b ((k7 : Int)).toNat))) wd85 rfl (op_idx sl_25 (Ty.lift _ hS89.ext r_b) e93 e97 ha100 hb101) (Ext.refl _) rfl
        · refine ObX.op rfl ?_
          intro f103 wd104 he105 hout106 hphi107
          have hS108 : St w wd104 [] := St.extend hS20 he105
          obtain ⟨S109, hS110, hf111⟩ := hphi107 6 23 _ rfl rfl rfl
          have e112 : f103 23 = (Value.pointer (some (elA v_b ((k7 : Int)).toNat))) := hf111
          exact OpX.val (Value.int .i64 x99) wd104 rfl (op_load one_2 e112 (Ext.cell hS108.ext hc114)) (Ext.refl _) ⟨rfl, hr115⟩
        · intro f116 wd117 Ss118 he119 hout120 hSn121 hSd122 hphi123
          show WL _ _ _ _ _ _ _
          have hS124 : St w wd117 [] := St.extend hS20 he119
          obtain ⟨e125, hr126⟩ : f116 20 = (Value.int .i64 x53) ∧ InR .i64 x53 := hphi123 3 20 _ (by decide) rfl rfl
          obtain ⟨e127, hr128⟩ : f116 24 = (Value.int .i64 x99) ∧ InR .i64 x99 := hphi123 7 24 _ (by decide) rfl rfl
          have e129 : f116 0 = v_a := (hout120 0 rfl).trans hf16
          have e130 : f116 1 = v_b := (hout120 1 rfl).trans hf17
          have e131 : f116 5 = (Value.int .i64 (k7 : Int)) := (hout120 5 rfl).trans hf18
          refine WL.val (Value.bool (x53 != x99)) _ (op_neq e125 e127) rfl ?_
          refine WL.nil ?_
          show W _ _ _ _ _ _
          refine W.cond (x53 != x99) rfl (fun hc132 => ?_) (fun hc132 => ?_)
          · replace hb12 := ip hb12 hc132
            refine W.seq (W.region ?_)
            refine WL.val (Value.bool false) _ (op_assign rfl) rfl ?_
            refine WL.nil ?_
            show W _ _ _ _ _ _
            refine W.ret ?_
            obtain rfl := Option.some.inj hb12
            obtain rfl := hret15 _ rfl
            replace h := onRes_ret h
            obtain rfl := Option.some.inj h
            show FinP _ _ _ _ _ _ _
            exact FinP.ret _ (res1 rfl rfl) ⟨rfl, hS124.ext⟩
          · replace hb12 := inegb hb12 hc132
            refine W.skip ?_
            show W _ _ _ _ _ _
            refine W.region ?_
            refine WL.val (Value.int .i64 (k7 : Int)) _ (op_move e131) rfl ?_
            refine WL.val (Value.int .i64 (w64 ((k7 : Int) + (1 : Int)))) _ (op_add rfl rfl) rfl ?_
            refine WL.val (Value.int .i64 (w64 ((k7 : Int) + (1 : Int)))) _ (op_assign rfl) rfl ?_
            refine WL.nil ?_
            obtain rfl := Option.some.inj hb12
            show ∃ s, _ = Ctl.next s ∧ _
            exact ⟨_, rfl, e129, e130, (ctr_next hl22 hr21), (ctr_rng hl22 hr21), hS124⟩
      · intro s139 f135 wd136 hs137 hI138
        obtain ⟨⟩ := s139
        replace hI138 : f135 0 = v_a ∧ f135 1 = v_b ∧ f135 5 = Value.int .i64 (((a).length : Nat) : Int) ∧ InR .i64 (((a).length : Nat) : Int) ∧ St w wd136 [] := hI138
        obtain ⟨hf140, hf141, hf142, hr143, hS144⟩ := hI138
        refine W.seq (W.seq (W.region ?_))
        refine WL.val (Value.int .i64 (((a).length : Nat) : Int)) _ (op_move hf142) rfl ?_
        refine WL.val v_a _ (op_move hf140) rfl ?_
        have hr145 := inR_len (Ty.lift _ hS144.ext r_a)
        refine WL.val (Value.int .i64 ((a).length : Int)) _ (op_lenL sl_25 (Ty.lift _ hS144.ext r_a) rfl) rfl ?_
        refine WL.val (Value.bool (decide ((((a).length : Nat) : Int) < ((a).length : Int)))) _ (op_lss rfl rfl) rfl ?_
        have hl146 : ¬ (((a).length : Nat) : Int) < ((a).length : Int) := by omega
        refine WL.nil ?_
        show W _ _ _ _ _ _
        refine W.condF (decide ((((a).length : Nat) : Int) < ((a).length : Int))) rfl (decide_eq_false hl146) ?_
        refine W.exit ?_
        show _ = _ ∧ _
        exact ⟨rfl, _, hs137, hS144⟩
    · rintro f147 wd148 ⟨s150, rfl, hq149⟩
      replace h := onRes_fin h
      obtain ⟨⟩ := s150
      replace hq149 : St w wd148 [] := hq149
      have hS151 := hq149
      show W _ _ _ _ _ _
      refine W.seq (W.region ?_)
      refine WL.val (Value.bool true) _ (op_assign rfl) rfl ?_
      refine WL.nil ?_
      show W _ _ _ _ _ _
      refine W.ret ?_
      obtain rfl := Option.some.inj h
      show FinP _ _ _ _ _ _ _
      exact FinP.ret _ (res1 rfl rfl) ⟨rfl, hS151.ext⟩

theorem c_laws_eqInt64SS {w : World} {a : (List (List Int))} {v_a : Value} {b : (List (List Int))} {v_b : Value} (r_a : (Ty.sl (Ty.sl (Ty.i .i64))).rep w v_a a) (r_b : (Ty.sl (Ty.sl (Ty.i .i64))).rep w v_b b) {res : Bool} (h : p_laws_eqInt64SS a b  = some res) :
    Ret Try.prog 24 #[v_a, v_b] w (fun v w' => v = Value.bool res ∧ Ext w w') := by
  unfold p_laws_eqInt64SS at h
  have hS0 : St w w [] := St.start w
  refine Ret.start (fn := Try.f24) Try.func24 rfl 27 rfl rfl ?_
  refine W.seq (W.region ?_)
  refine WL.val (Value.bool false) _ (op_assign rfl) rfl ?_
  refine WL.nil ?_
  show W _ _ _ _ _ _
  refine W.seq (W.seq (W.region ?_))
  refine WL.val v_a _ (op_move rfl) rfl ?_
  have hr1 := inR_len (Ty.lift _ hS0.ext r_a)
  refine WL.val (Value.int .i64 ((a).length : Int)) _ (op_lenL sl_40 (Ty.lift _ hS0.ext r_a) rfl) rfl ?_
  refine WL.val v_b _ (op_move rfl) rfl ?_
  have hr2 := inR_len (Ty.lift _ hS0.ext r_b)
  refine WL.val (Value.int .i64 ((b).length : Int)) _ (op_lenL sl_40 (Ty.lift _ hS0.ext r_b) rfl) rfl ?_
  refine WL.val (Value.bool (((a).length : Int) != ((b).length : Int))) _ (op_neq rfl rfl) rfl ?_
  refine WL.nil ?_
  show W _ _ _ _ _ _
  refine W.cond (((a).length : Int) != ((b).length : Int)) rfl (fun hc3 => ?_) (fun hc3 => ?_)
  · replace h := ip h hc3
    refine W.seq (W.region ?_)
    refine WL.val (Value.bool false) _ (op_assign rfl) rfl ?_
    refine WL.nil ?_
    show W _ _ _ _ _ _
    refine W.ret ?_
    obtain rfl := Option.some.inj h
    show FinP _ _ _ _ _ _ _
    exact FinP.ret _ (res1 rfl rfl) ⟨rfl, hS0.ext⟩
  · replace h := inegb h hc3
    refine W.skip ?_
    show W _ _ _ _ _ _
    refine W.seq (W.seq (W.region ?_))
    refine WL.val (Value.int .i64 (0 : Int)) _ (op_assign rfl) rfl ?_
    refine WL.nil ?_
    show W _ _ _ _ _ _
    obtain ⟨res5, hres6, h⟩ := bs h
    refine W.blockLoop (fun fq wq => ∃ s, res5 = Res.fin s ∧ St w wq []) ?_ ?_
    · refine W.forN (fun k (s : Unit) fq wq => fq 0 = v_a ∧ fq 1 = v_b ∧ fq 5 = Value.int .i64 (k : Int) ∧ InR .i64 (k : Int) ∧ St w wq []) hres6 ⟨rfl, rfl, rfl, (inR_i64.2 (show (-9223372036854775808 : Int) ≤ 0 ∧ (0 : Int) ≤ 9223372036854775807 from by decide)), hS0⟩ ?_ ?_
      · intro k7 s138 ct8 f9 wd10 hk11 hb12 hI13 hbrk14 hret15
        obtain ⟨⟩ := s138
        replace hI13 : f9 0 = v_a ∧ f9 1 = v_b ∧ f9 5 = Value.int .i64 (k7 : Int) ∧ InR .i64 (k7 : Int) ∧ St w wd10 [] := hI13
        replace hb12 : p_laws_eqInt64SS_L1 a b k7  = some ct8 := hb12
        unfold p_laws_eqInt64SS_L1 at hb12
        obtain ⟨hf16, hf17, hf18, hr19, hS20⟩ := hI13
        refine W.seq (W.seq (W.region ?_))
        refine WL.val (Value.int .i64 (k7 : Int)) _ (op_move hf18) rfl ?_
        refine WL.val v_a _ (op_move hf16) rfl ?_
        have hr21 := inR_len (Ty.lift _ hS20.ext r_a)
        refine WL.val (Value.int .i64 ((a).length : Int)) _ (op_lenL sl_40 (Ty.lift _ hS20.ext r_a) rfl) rfl ?_
        refine WL.val (Value.bool (decide ((k7 : Int) < ((a).length : Int)))) _ (op_lss rfl rfl) rfl ?_
        have hl22 : (k7 : Int) < ((a).length : Int) := by omega
        refine WL.nil ?_
        show W _ _ _ _ _ _
        refine W.condT (decide ((k7 : Int) < ((a).length : Int))) rfl (decide_eq_true hl22) ?_
        refine W.skip ?_
        show W _ _ _ _ _ _
        refine W.seq ?_
        refine W.block ?_
        refine W.seq ?_
        obtain ⟨x53, hx56, hb12⟩ := bs hb12
        obtain ⟨ha54, hb55, hx56⟩ := idx_some hx56
        obtain ⟨u67, hc68, hr69⟩ := repSl.el r_a hx56
        obtain ⟨x99, hx102, hb12⟩ := bs hb12
        obtain ⟨ha100, hb101, hx102⟩ := idx_some hx102
        obtain ⟨u113, hc114, hr115⟩ := repSl.el r_b hx102
        refine W.drawR mixo 8 [] [fun _ v _ _ => v = v_a, fun _ v _ _ => v = (Value.int .i64 (k7 : Int)) ∧ InR .i64 (k7 : Int), fun _ v _ _ => v = (Value.pointer (some (elA v_a ((k7 : Int)).toNat))), fun _ v _ _ => v = u67, fun _ v _ _ => v = v_b, fun _ v _ _ => v = (Value.int .i64 (k7 : Int)) ∧ InR .i64 (k7 : Int), fun _ v _ _ => v = (Value.pointer (some (elA v_b ((k7 : Int)).toNat))), fun _ v _ _ => v = u113] (by kernel_rfl) (by kernel_rfl) ⟨⟨fun _ _ _ _ _ _ h => h, fun _ _ _ _ _ _ h => h⟩, ⟨fun _ _ _ _ _ _ h => h, fun _ _ _ _ _ _ h => h⟩, ⟨fun _ _ _ _ _ _ h => h, fun _ _ _ _ _ _ h => h⟩, ⟨fun _ _ _ _ _ _ h => h, fun _ _ _ _ _ _ h => h⟩, ⟨fun _ _ _ _ _ _ h => h, fun _ _ _ _ _ _ h => h⟩, ⟨fun _ _ _ _ _ _ h => h, fun _ _ _ _ _ _ h => h⟩, ⟨fun _ _ _ _ _ _ h => h, fun _ _ _ _ _ _ h => h⟩, ⟨fun _ _ _ _ _ _ h => h, fun _ _ _ _ _ _ h => h⟩, trivial⟩ ⟨?_, ?_, ?_, ?_, ?_, ?_, ?_, ?_, trivial⟩ ?_
        · refine ObX.op rfl ?_
          intro f24 wd25 he26 hout27 hphi28
          have hS29 : St w wd25 [] := St.extend hS20 he26
          have e30 : f24 0 = v_a := (hout27 0 rfl).trans hf16
          exact OpX.val v_a wd25 rfl (op_move e30) (Ext.refl _) rfl
        · refine ObX.op rfl ?_
          intro f31 wd32 he33 hout34 hphi35
          have hS36 : St w wd32 [] := St.extend hS20 he33
          have e37 : f31 5 = (Value.int .i64 (k7 : Int)) := (hout34 5 rfl).trans hf18
          exact OpX.val (Value.int .i64 (k7 : Int)) wd32 rfl (op_move e37) (Ext.refl _) ⟨rfl, hr19⟩
        · refine ObX.op rfl ?_
          intro f38 wd39 he40 hout41 hphi42
          have hS43 : St w wd39 [] := St.extend hS20 he40
          obtain ⟨S44, hS45, hf46⟩ := hphi42 0 17 _ rfl rfl rfl
          have e47 : f38 17 = v_a := hf46
          obtain ⟨S48, hS49, hf50⟩ := hphi42 1 18 _ rfl rfl rfl
          obtain ⟨e51, hr52⟩ : f38 18 = (Value.int .i64 (k7 : Int)) ∧ InR .i64 (k7 : Int) := hf50
          exact OpX.val (Value.pointer (some (elA v_a ((k7 : Int)).toNat))) wd39 rfl (op_idx sl_40 (Ty.lift _ hS43.ext r_a) e47 e51 ha54 hb55) (Ext.refl _) rfl
        · refine ObX.op rfl ?_
          intro f57 wd58 he59 hout60 hphi61
          have hS62 : St w wd58 [] := St.extend hS20 he59
          obtain ⟨S63, hS64, hf65⟩ := hphi61 2 19 _ rfl rfl rfl
          have e66 : f57 19 = (Value.pointer (some (elA v_a ((k7 : Int)).toNat))) := hf65
          exact OpX.val u67 wd58 rfl (op_load one_25 e66 (Ext.cell hS62.ext hc68)) (Ext.refl _) rfl
        · refine ObX.op rfl ?_
          intro f70 wd71 he72 hout73 hphi74
          have hS75 : St w wd71 [] := St.extend hS20 he72
          have e76 : f70 1 = v_b := (hout73 1 rfl).trans hf17
          exact OpX.val v_b wd71 rfl (op_move e76) (Ext.refl _) rfl
        · refine ObX.op rfl ?_
          intro f77 wd78 he79 hout80 hphi81
          have hS82 : St w wd78 [] := St.extend hS20 he79
          have e83 : f77 5 = (Value.int .i64 (k7 : Int)) := (hout80 5 rfl).trans hf18
          exact OpX.val (Value.int .i64 (k7 : Int)) wd78 rfl (op_move e83) (Ext.refl _) ⟨rfl, hr19⟩
        · refine ObX.op rfl ?_
          intro f84 wd85 he86 hout87 hphi88
          have hS89 : St w wd85 [] := St.extend hS20 he86
          obtain ⟨S90, hS91, hf92⟩ := hphi88 4 21 _ rfl rfl rfl
          have e93 : f84 21 = v_b := hf92
          obtain ⟨S94, hS95, hf96⟩ := hphi88 5 22 _ rfl rfl rfl
          obtain ⟨e97, hr98⟩ : f84 22 = (Value.int .i64 (k7 : Int)) ∧ InR .i64 (k7 : Int) := hf96
          exact OpX.val (Value.pointer (some (elA v_b ((k7 : Int)).toNat))) wd85 rfl (op_idx sl_40 (Ty.lift _ hS89.ext r_b) e93 e97 ha100 hb101) (Ext.refl _) rfl
        · refine ObX.op rfl ?_
          intro f103 wd104 he105 hout106 hphi107
          have hS108 : St w wd104 [] := St.extend hS20 he105
          obtain ⟨S109, hS110, hf111⟩ := hphi107 6 23 _ rfl rfl rfl
          have e112 : f103 23 = (Value.pointer (some (elA v_b ((k7 : Int)).toNat))) := hf111
          exact OpX.val u113 wd104 rfl (op_load one_25 e112 (Ext.cell hS108.ext hc114)) (Ext.refl _) rfl
        · intro f116 wd117 Ss118 he119 hout120 hSn121 hSd122 hphi123
          show WL _ _ _ _ _ _ _
          have hS124 : St w wd117 [] := St.extend hS20 he119
          have e125 : f116 20 = u67 := hphi123 3 20 _ (by decide) rfl rfl
          have e126 : f116 24 = u113 := hphi123 7 24 _ (by decide) rfl rfl
          have e127 : f116 0 = v_a := (hout120 0 rfl).trans hf16
          have e128 : f116 1 = v_b := (hout120 1 rfl).trans hf17
          have e129 : f116 5 = (Value.int .i64 (k7 : Int)) := (hout120 5 rfl).trans hf18
          obtain ⟨x130, hx131, hb12⟩ := bs hb12
          refine WL.call _ (op_call fn_14 (args2 e125 e126)) (c_laws_eqInt64S (Ty.lift _ hS124.ext hr69) (Ty.lift _ hS124.ext hr115) hx131) rfl ?_
          rintro _ wd132 ⟨rfl, he133⟩
          have hS135 := St.extend hS124 he133
          replace hS135 : St w wd132 [] := hS135
          refine WL.val (Value.bool (!x130)) _ (op_not rfl) rfl ?_
          refine WL.nil ?_
          show W _ _ _ _ _ _
          refine W.cond (!x130) rfl (fun hc136 => ?_) (fun hc136 => ?_)
          · replace hb12 := ip hb12 hc136
            refine W.seq (W.region ?_)
            refine WL.val (Value.bool false) _ (op_assign rfl) rfl ?_
            refine WL.nil ?_
            show W _ _ _ _ _ _
            refine W.ret ?_
            obtain rfl := Option.some.inj hb12
            obtain rfl := hret15 _ rfl
            replace h := onRes_ret h
            obtain rfl := Option.some.inj h
            show FinP _ _ _ _ _ _ _
            exact FinP.ret _ (res1 rfl rfl) ⟨rfl, hS135.ext⟩
          · replace hb12 := inegb hb12 hc136
            refine W.skip ?_
            show W _ _ _ _ _ _
            refine W.region ?_
            refine WL.val (Value.int .i64 (k7 : Int)) _ (op_move e129) rfl ?_
            refine WL.val (Value.int .i64 (w64 ((k7 : Int) + (1 : Int)))) _ (op_add rfl rfl) rfl ?_
            refine WL.val (Value.int .i64 (w64 ((k7 : Int) + (1 : Int)))) _ (op_assign rfl) rfl ?_
            refine WL.nil ?_
            obtain rfl := Option.some.inj hb12
            show ∃ s, _ = Ctl.next s ∧ _
            exact ⟨_, rfl, e127, e128, (ctr_next hl22 hr21), (ctr_rng hl22 hr21), hS135⟩
      · intro s143 f139 wd140 hs141 hI142
        obtain ⟨⟩ := s143
        replace hI142 : f139 0 = v_a ∧ f139 1 = v_b ∧ f139 5 = Value.int .i64 (((a).length : Nat) : Int) ∧ InR .i64 (((a).length : Nat) : Int) ∧ St w wd140 [] := hI142
        obtain ⟨hf144, hf145, hf146, hr147, hS148⟩ := hI142
        refine W.seq (W.seq (W.region ?_))
        refine WL.val (Value.int .i64 (((a).length : Nat) : Int)) _ (op_move hf146) rfl ?_
        refine WL.val v_a _ (op_move hf144) rfl ?_
        have hr149 := inR_len (Ty.lift _ hS148.ext r_a)
        refine WL.val (Value.int .i64 ((a).length : Int)) _ (op_lenL sl_40 (Ty.lift _ hS148.ext r_a) rfl) rfl ?_
        refine WL.val (Value.bool (decide ((((a).length : Nat) : Int) < ((a).length : Int)))) _ (op_lss rfl rfl) rfl ?_
        have hl150 : ¬ (((a).length : Nat) : Int) < ((a).length : Int) := by omega
        refine WL.nil ?_
        show W _ _ _ _ _ _
        refine W.condF (decide ((((a).length : Nat) : Int) < ((a).length : Int))) rfl (decide_eq_false hl150) ?_
        refine W.exit ?_
        show _ = _ ∧ _
        exact ⟨rfl, _, hs141, hS148⟩
    · rintro f151 wd152 ⟨s154, rfl, hq153⟩
      replace h := onRes_fin h
      obtain ⟨⟩ := s154
      replace hq153 : St w wd152 [] := hq153
      have hS155 := hq153
      show W _ _ _ _ _ _
      refine W.seq (W.region ?_)
      refine WL.val (Value.bool true) _ (op_assign rfl) rfl ?_
      refine WL.nil ?_
      show W _ _ _ _ _ _
      refine W.ret ?_
      obtain rfl := Option.some.inj h
      show FinP _ _ _ _ _ _ _
      exact FinP.ret _ (res1 rfl rfl) ⟨rfl, hS155.ext⟩

theorem c_laws_eqInt64SSS {w : World} {a : (List (List (List Int)))} {v_a : Value} {b : (List (List (List Int)))} {v_b : Value} (r_a : (Ty.sl (Ty.sl (Ty.sl (Ty.i .i64)))).rep w v_a a) (r_b : (Ty.sl (Ty.sl (Ty.sl (Ty.i .i64)))).rep w v_b b) {res : Bool} (h : p_laws_eqInt64SSS a b  = some res) :
    Ret Try.prog 41 #[v_a, v_b] w (fun v w' => v = Value.bool res ∧ Ext w w') := by
  unfold p_laws_eqInt64SSS at h
  have hS0 : St w w [] := St.start w
  refine Ret.start (fn := Try.f41) Try.func41 rfl 27 rfl rfl ?_
  refine W.seq (W.region ?_)
  refine WL.val (Value.bool false) _ (op_assign rfl) rfl ?_
  refine WL.nil ?_
  show W _ _ _ _ _ _
  refine W.seq (W.seq (W.region ?_))
  refine WL.val v_a _ (op_move rfl) rfl ?_
  have hr1 := inR_len (Ty.lift _ hS0.ext r_a)
  refine WL.val (Value.int .i64 ((a).length : Int)) _ (op_lenL sl_22 (Ty.lift _ hS0.ext r_a) rfl) rfl ?_
  refine WL.val v_b _ (op_move rfl) rfl ?_
  have hr2 := inR_len (Ty.lift _ hS0.ext r_b)
  refine WL.val (Value.int .i64 ((b).length : Int)) _ (op_lenL sl_22 (Ty.lift _ hS0.ext r_b) rfl) rfl ?_
  refine WL.val (Value.bool (((a).length : Int) != ((b).length : Int))) _ (op_neq rfl rfl) rfl ?_
  refine WL.nil ?_
  show W _ _ _ _ _ _
  refine W.cond (((a).length : Int) != ((b).length : Int)) rfl (fun hc3 => ?_) (fun hc3 => ?_)
  · replace h := ip h hc3
    refine W.seq (W.region ?_)
    refine WL.val (Value.bool false) _ (op_assign rfl) rfl ?_
    refine WL.nil ?_
    show W _ _ _ _ _ _
    refine W.ret ?_
    obtain rfl := Option.some.inj h
    show FinP _ _ _ _ _ _ _
    exact FinP.ret _ (res1 rfl rfl) ⟨rfl, hS0.ext⟩
  · replace h := inegb h hc3
    refine W.skip ?_
    show W _ _ _ _ _ _
    refine W.seq (W.seq (W.region ?_))
    refine WL.val (Value.int .i64 (0 : Int)) _ (op_assign rfl) rfl ?_
    refine WL.nil ?_
    show W _ _ _ _ _ _
    obtain ⟨res5, hres6, h⟩ := bs h
    refine W.blockLoop (fun fq wq => ∃ s, res5 = Res.fin s ∧ St w wq []) ?_ ?_
    · refine W.forN (fun k (s : Unit) fq wq => fq 0 = v_a ∧ fq 1 = v_b ∧ fq 5 = Value.int .i64 (k : Int) ∧ InR .i64 (k : Int) ∧ St w wq []) hres6 ⟨rfl, rfl, rfl, (inR_i64.2 (show (-9223372036854775808 : Int) ≤ 0 ∧ (0 : Int) ≤ 9223372036854775807 from by decide)), hS0⟩ ?_ ?_
      · intro k7 s138 ct8 f9 wd10 hk11 hb12 hI13 hbrk14 hret15
        obtain ⟨⟩ := s138
        replace hI13 : f9 0 = v_a ∧ f9 1 = v_b ∧ f9 5 = Value.int .i64 (k7 : Int) ∧ InR .i64 (k7 : Int) ∧ St w wd10 [] := hI13
        replace hb12 : p_laws_eqInt64SSS_L1 a b k7  = some ct8 := hb12
        unfold p_laws_eqInt64SSS_L1 at hb12
        obtain ⟨hf16, hf17, hf18, hr19, hS20⟩ := hI13
        refine W.seq (W.seq (W.region ?_))
        refine WL.val (Value.int .i64 (k7 : Int)) _ (op_move hf18) rfl ?_
        refine WL.val v_a _ (op_move hf16) rfl ?_
        have hr21 := inR_len (Ty.lift _ hS20.ext r_a)
        refine WL.val (Value.int .i64 ((a).length : Int)) _ (op_lenL sl_22 (Ty.lift _ hS20.ext r_a) rfl) rfl ?_
        refine WL.val (Value.bool (decide ((k7 : Int) < ((a).length : Int)))) _ (op_lss rfl rfl) rfl ?_
        have hl22 : (k7 : Int) < ((a).length : Int) := by omega
        refine WL.nil ?_
        show W _ _ _ _ _ _
        refine W.condT (decide ((k7 : Int) < ((a).length : Int))) rfl (decide_eq_true hl22) ?_
        refine W.skip ?_
        show W _ _ _ _ _ _
        refine W.seq ?_
        refine W.block ?_
        refine W.seq ?_
        obtain ⟨x53, hx56, hb12⟩ := bs hb12
        obtain ⟨ha54, hb55, hx56⟩ := idx_some hx56
        obtain ⟨u67, hc68, hr69⟩ := repSl.el r_a hx56
        obtain ⟨x99, hx102, hb12⟩ := bs hb12
        obtain ⟨ha100, hb101, hx102⟩ := idx_some hx102
        obtain ⟨u113, hc114, hr115⟩ := repSl.el r_b hx102
        refine W.drawR mixo 8 [] [fun _ v _ _ => v = v_a, fun _ v _ _ => v = (Value.int .i64 (k7 : Int)) ∧ InR .i64 (k7 : Int), fun _ v _ _ => v = (Value.pointer (some (elA v_a ((k7 : Int)).toNat))), fun _ v _ _ => v = u67, fun _ v _ _ => v = v_b, fun _ v _ _ => v = (Value.int .i64 (k7 : Int)) ∧ InR .i64 (k7 : Int), fun _ v _ _ => v = (Value.pointer (some (elA v_b ((k7 : Int)).toNat))), fun _ v _ _ => v = u113] (by kernel_rfl) (by kernel_rfl) ⟨⟨fun _ _ _ _ _ _ h => h, fun _ _ _ _ _ _ h => h⟩, ⟨fun _ _ _ _ _ _ h => h, fun _ _ _ _ _ _ h => h⟩, ⟨fun _ _ _ _ _ _ h => h, fun _ _ _ _ _ _ h => h⟩, ⟨fun _ _ _ _ _ _ h => h, fun _ _ _ _ _ _ h => h⟩, ⟨fun _ _ _ _ _ _ h => h, fun _ _ _ _ _ _ h => h⟩, ⟨fun _ _ _ _ _ _ h => h, fun _ _ _ _ _ _ h => h⟩, ⟨fun _ _ _ _ _ _ h => h, fun _ _ _ _ _ _ h => h⟩, ⟨fun _ _ _ _ _ _ h => h, fun _ _ _ _ _ _ h => h⟩, trivial⟩ ⟨?_, ?_, ?_, ?_, ?_, ?_, ?_, ?_, trivial⟩ ?_
        · refine ObX.op rfl ?_
          intro f24 wd25 he26 hout27 hphi28
          have hS29 : St w wd25 [] := St.extend hS20 he26
          have e30 : f24 0 = v_a := (hout27 0 rfl).trans hf16
          exact OpX.val v_a wd25 rfl (op_move e30) (Ext.refl _) rfl
        · refine ObX.op rfl ?_
          intro f31 wd32 he33 hout34 hphi35
          have hS36 : St w wd32 [] := St.extend hS20 he33
          have e37 : f31 5 = (Value.int .i64 (k7 : Int)) := (hout34 5 rfl).trans hf18
          exact OpX.val (Value.int .i64 (k7 : Int)) wd32 rfl (op_move e37) (Ext.refl _) ⟨rfl, hr19⟩
        · refine ObX.op rfl ?_
          intro f38 wd39 he40 hout41 hphi42
          have hS43 : St w wd39 [] := St.extend hS20 he40
          obtain ⟨S44, hS45, hf46⟩ := hphi42 0 17 _ rfl rfl rfl
          have e47 : f38 17 = v_a := hf46
          obtain ⟨S48, hS49, hf50⟩ := hphi42 1 18 _ rfl rfl rfl
          obtain ⟨e51, hr52⟩ : f38 18 = (Value.int .i64 (k7 : Int)) ∧ InR .i64 (k7 : Int) := hf50
          exact OpX.val (Value.pointer (some (elA v_a ((k7 : Int)).toNat))) wd39 rfl (op_idx sl_22 (Ty.lift _ hS43.ext r_a) e47 e51 ha54 hb55) (Ext.refl _) rfl
        · refine ObX.op rfl ?_
          intro f57 wd58 he59 hout60 hphi61
          have hS62 : St w wd58 [] := St.extend hS20 he59
          obtain ⟨S63, hS64, hf65⟩ := hphi61 2 19 _ rfl rfl rfl
          have e66 : f57 19 = (Value.pointer (some (elA v_a ((k7 : Int)).toNat))) := hf65
          exact OpX.val u67 wd58 rfl (op_load one_40 e66 (Ext.cell hS62.ext hc68)) (Ext.refl _) rfl
        · refine ObX.op rfl ?_
          intro f70 wd71 he72 hout73 hphi74
          have hS75 : St w wd71 [] := St.extend hS20 he72
          have e76 : f70 1 = v_b := (hout73 1 rfl).trans hf17
          exact OpX.val v_b wd71 rfl (op_move e76) (Ext.refl _) rfl
        · refine ObX.op rfl ?_
          intro f77 wd78 he79 hout80 hphi81
          have hS82 : St w wd78 [] := St.extend hS20 he79
          have e83 : f77 5 = (Value.int .i64 (k7 : Int)) := (hout80 5 rfl).trans hf18
          exact OpX.val (Value.int .i64 (k7 : Int)) wd78 rfl (op_move e83) (Ext.refl _) ⟨rfl, hr19⟩
        · refine ObX.op rfl ?_
          intro f84 wd85 he86 hout87 hphi88
          have hS89 : St w wd85 [] := St.extend hS20 he86
          obtain ⟨S90, hS91, hf92⟩ := hphi88 4 21 _ rfl rfl rfl
          have e93 : f84 21 = v_b := hf92
          obtain ⟨S94, hS95, hf96⟩ := hphi88 5 22 _ rfl rfl rfl
          obtain ⟨e97, hr98⟩ : f84 22 = (Value.int .i64 (k7 : Int)) ∧ InR .i64 (k7 : Int) := hf96
          exact OpX.val (Value.pointer (some (elA v_b ((k7 : Int)).toNat))) wd85 rfl (op_idx sl_22 (Ty.lift _ hS89.ext r_b) e93 e97 ha100 hb101) (Ext.refl _) rfl
        · refine ObX.op rfl ?_
          intro f103 wd104 he105 hout106 hphi107
          have hS108 : St w wd104 [] := St.extend hS20 he105
          obtain ⟨S109, hS110, hf111⟩ := hphi107 6 23 _ rfl rfl rfl
          have e112 : f103 23 = (Value.pointer (some (elA v_b ((k7 : Int)).toNat))) := hf111
          exact OpX.val u113 wd104 rfl (op_load one_40 e112 (Ext.cell hS108.ext hc114)) (Ext.refl _) rfl
        · intro f116 wd117 Ss118 he119 hout120 hSn121 hSd122 hphi123
          show WL _ _ _ _ _ _ _
          have hS124 : St w wd117 [] := St.extend hS20 he119
          have e125 : f116 20 = u67 := hphi123 3 20 _ (by decide) rfl rfl
          have e126 : f116 24 = u113 := hphi123 7 24 _ (by decide) rfl rfl
          have e127 : f116 0 = v_a := (hout120 0 rfl).trans hf16
          have e128 : f116 1 = v_b := (hout120 1 rfl).trans hf17
          have e129 : f116 5 = (Value.int .i64 (k7 : Int)) := (hout120 5 rfl).trans hf18
          obtain ⟨x130, hx131, hb12⟩ := bs hb12
          refine WL.call _ (op_call fn_24 (args2 e125 e126)) (c_laws_eqInt64SS (Ty.lift _ hS124.ext hr69) (Ty.lift _ hS124.ext hr115) hx131) rfl ?_
          rintro _ wd132 ⟨rfl, he133⟩
          have hS135 := St.extend hS124 he133
          replace hS135 : St w wd132 [] := hS135
          refine WL.val (Value.bool (!x130)) _ (op_not rfl) rfl ?_
          refine WL.nil ?_
          show W _ _ _ _ _ _
          refine W.cond (!x130) rfl (fun hc136 => ?_) (fun hc136 => ?_)
          · replace hb12 := ip hb12 hc136
            refine W.seq (W.region ?_)
            refine WL.val (Value.bool false) _ (op_assign rfl) rfl ?_
            refine WL.nil ?_
            show W _ _ _ _ _ _
            refine W.ret ?_
            obtain rfl := Option.some.inj hb12
            obtain rfl := hret15 _ rfl
            replace h := onRes_ret h
            obtain rfl := Option.some.inj h
            show FinP _ _ _ _ _ _ _
            exact FinP.ret _ (res1 rfl rfl) ⟨rfl, hS135.ext⟩
          · replace hb12 := inegb hb12 hc136
            refine W.skip ?_
            show W _ _ _ _ _ _
            refine W.region ?_
            refine WL.val (Value.int .i64 (k7 : Int)) _ (op_move e129) rfl ?_
            refine WL.val (Value.int .i64 (w64 ((k7 : Int) + (1 : Int)))) _ (op_add rfl rfl) rfl ?_
            refine WL.val (Value.int .i64 (w64 ((k7 : Int) + (1 : Int)))) _ (op_assign rfl) rfl ?_
            refine WL.nil ?_
            obtain rfl := Option.some.inj hb12
            show ∃ s, _ = Ctl.next s ∧ _
            exact ⟨_, rfl, e127, e128, (ctr_next hl22 hr21), (ctr_rng hl22 hr21), hS135⟩
      · intro s143 f139 wd140 hs141 hI142
        obtain ⟨⟩ := s143
        replace hI142 : f139 0 = v_a ∧ f139 1 = v_b ∧ f139 5 = Value.int .i64 (((a).length : Nat) : Int) ∧ InR .i64 (((a).length : Nat) : Int) ∧ St w wd140 [] := hI142
        obtain ⟨hf144, hf145, hf146, hr147, hS148⟩ := hI142
        refine W.seq (W.seq (W.region ?_))
        refine WL.val (Value.int .i64 (((a).length : Nat) : Int)) _ (op_move hf146) rfl ?_
        refine WL.val v_a _ (op_move hf144) rfl ?_
        have hr149 := inR_len (Ty.lift _ hS148.ext r_a)
        refine WL.val (Value.int .i64 ((a).length : Int)) _ (op_lenL sl_22 (Ty.lift _ hS148.ext r_a) rfl) rfl ?_
        refine WL.val (Value.bool (decide ((((a).length : Nat) : Int) < ((a).length : Int)))) _ (op_lss rfl rfl) rfl ?_
        have hl150 : ¬ (((a).length : Nat) : Int) < ((a).length : Int) := by omega
        refine WL.nil ?_
        show W _ _ _ _ _ _
        refine W.condF (decide ((((a).length : Nat) : Int) < ((a).length : Int))) rfl (decide_eq_false hl150) ?_
        refine W.exit ?_
        show _ = _ ∧ _
        exact ⟨rfl, _, hs141, hS148⟩
    · rintro f151 wd152 ⟨s154, rfl, hq153⟩
      replace h := onRes_fin h
      obtain ⟨⟩ := s154
      replace hq153 : St w wd152 [] := hq153
      have hS155 := hq153
      show W _ _ _ _ _ _
      refine W.seq (W.region ?_)
      refine WL.val (Value.bool true) _ (op_assign rfl) rfl ?_
      refine WL.nil ?_
      show W _ _ _ _ _ _
      refine W.ret ?_
      obtain rfl := Option.some.inj h
      show FinP _ _ _ _ _ _ _
      exact FinP.ret _ (res1 rfl rfl) ⟨rfl, hS155.ext⟩

theorem c_laws_eqRing {w : World} {a_Table : (List (List (List Int)))} {v_a_Table : Value} {b_Table : (List (List (List Int)))} {v_b_Table : Value} (r_a_Table : (Ty.sl (Ty.sl (Ty.sl (Ty.i .i64)))).rep w v_a_Table a_Table) (r_b_Table : (Ty.sl (Ty.sl (Ty.sl (Ty.i .i64)))).rep w v_b_Table b_Table) {res : Bool} (h : p_laws_eqRing a_Table b_Table  = some res) :
    Ret Try.prog 13 #[(Value.agg #[v_a_Table]), (Value.agg #[v_b_Table])] w (fun v w' => v = Value.bool res ∧ Ext w w') := by
  unfold p_laws_eqRing at h
  have hS0 : St w w [] := St.start w
  refine Ret.start (fn := Try.f13) Try.func13 rfl 11 rfl rfl ?_
  refine W.seq (W.region ?_)
  refine WL.box hS0 rfl (cs := [v_a_Table]) rfl rfl ?_
  intro b1 wd2 hS3 he4 hx5
  replace hS3 : St w wd2 [bx b1 [v_a_Table]] := hS3
  have hx6 := St.boxAt hS3 0 rfl
  have hE7 : Ext w wd2 := hS3.ext
  have hS8 : St wd2 wd2 [] := St.start wd2
  refine WL.box hS8 rfl (cs := [v_b_Table]) rfl rfl ?_
  intro b9 wd10 hS11 he12 hx13
  replace hS11 : St wd2 wd10 [bx b9 [v_b_Table]] := hS11
  have hx14 := St.boxAt hS11 0 rfl
  have hE15 : Ext w wd10 := (Ext.trans hE7 hS11.ext)
  have hE16 : Ext wd2 wd10 := hS11.ext
  have hS17 : St wd10 wd10 [] := St.start wd10
  refine WL.val (Value.bool false) _ (op_assign rfl) rfl ?_
  refine WL.nil ?_
  show W _ _ _ _ _ _
  refine W.seq (W.seq (W.region ?_))
  refine WL.val (Value.pointer (some ⟨b1, 0, none⟩)) _ (op_fieldAddr fd_29_0 rfl) rfl ?_
  refine WL.val v_a_Table _ (op_load one_22 rfl (BoxAt.cell (BoxAt.lift (Ext.trans hE16 hS17.ext) hx6) rfl)) rfl ?_
  refine WL.val (Value.pointer (some ⟨b9, 0, none⟩)) _ (op_fieldAddr fd_29_0 rfl) rfl ?_
  refine WL.val v_b_Table _ (op_load one_22 rfl (BoxAt.cell (BoxAt.lift hS17.ext hx14) rfl)) rfl ?_
  obtain ⟨x18, hx19, h⟩ := bs h
  refine WL.call _ (op_call fn_41 (args2 rfl rfl)) (c_laws_eqInt64SSS (Ty.lift _ (Ext.trans hE15 hS17.ext) r_a_Table) (Ty.lift _ (Ext.trans hE15 hS17.ext) r_b_Table) hx19) rfl ?_
  rintro _ wd20 ⟨rfl, he21⟩
  have hS23 := St.extend hS17 he21
  replace hS23 : St wd10 wd20 [] := hS23
  refine WL.val (Value.bool (!x18)) _ (op_not rfl) rfl ?_
  refine WL.nil ?_
  show W _ _ _ _ _ _
  refine W.cond (!x18) rfl (fun hc24 => ?_) (fun hc24 => ?_)
  · replace h := ip h hc24
    refine W.seq (W.region ?_)
    refine WL.val (Value.bool false) _ (op_assign rfl) rfl ?_
    refine WL.nil ?_
    show W _ _ _ _ _ _
    refine W.ret ?_
    obtain rfl := Option.some.inj h
    show FinP _ _ _ _ _ _ _
    exact FinP.ret _ (res1 rfl rfl) ⟨rfl, (Ext.trans hE15 hS23.ext)⟩
  · replace h := inegb h hc24
    refine W.skip ?_
    show W _ _ _ _ _ _
    refine W.seq (W.region ?_)
    refine WL.val (Value.bool true) _ (op_assign rfl) rfl ?_
    refine WL.nil ?_
    show W _ _ _ _ _ _
    refine W.ret ?_
    obtain rfl := Option.some.inj h
    show FinP _ _ _ _ _ _ _
    exact FinP.ret _ (res1 rfl rfl) ⟨rfl, (Ext.trans hE15 hS23.ext)⟩

theorem c_laws_FnExactSurfaceDimension {w : World} {aR_Table : (List (List (List Int)))} {v_aR_Table : Value} {aGenus : Int} {aLabels : (List Int)} {v_aLabels : Value} (r_aR_Table : (Ty.sl (Ty.sl (Ty.sl (Ty.i .i64)))).rep w v_aR_Table aR_Table) (r_aGenus : InR .i64 aGenus) (r_aLabels : (Ty.sl (Ty.i .i64)).rep w v_aLabels aLabels) {res : Bool} (h : p_laws_FnExactSurfaceDimension aR_Table aGenus aLabels  = some res) :
    Ret Try.prog 3 #[(Value.agg #[v_aR_Table]), (Value.int .i64 aGenus), v_aLabels] w (fun v w' => v = Value.bool res ∧ Ext w w') := by
  unfold p_laws_FnExactSurfaceDimension at h
  have hS0 : St w w [] := St.start w
  refine Ret.start (fn := Try.f3) Try.func3 rfl 60 rfl rfl ?_
  refine W.seq (W.region ?_)
  refine WL.box hS0 rfl (cs := [v_aR_Table]) rfl rfl ?_
  intro b1 wd2 hS3 he4 hx5
  replace hS3 : St w wd2 [bx b1 [v_aR_Table]] := hS3
  have hx6 := St.boxAt hS3 0 rfl
  have hE7 : Ext w wd2 := hS3.ext
  have hS8 : St wd2 wd2 [] := St.start wd2
  refine WL.val (Value.bool false) _ (op_assign rfl) rfl ?_
  refine WL.nil ?_
  show W _ _ _ _ _ _
  refine W.seq (W.seq (W.region ?_))
  refine WL.val v_aLabels _ (op_move rfl) rfl ?_
  have hr9 := inR_len (Ty.lift _ (Ext.trans hE7 hS8.ext) r_aLabels)
  refine WL.val (Value.int .i64 ((aLabels).length : Int)) _ (op_lenL sl_25 (Ty.lift _ (Ext.trans hE7 hS8.ext) r_aLabels) rfl) rfl ?_
  refine WL.val (Value.bool (decide (((aLabels).length : Int) > (1048576 : Int)))) _ (op_gtr rfl rfl) rfl ?_
  refine WL.nil ?_
  show W _ _ _ _ _ _
  refine W.cond (decide (((aLabels).length : Int) > (1048576 : Int))) rfl (fun hc10 => ?_) (fun hc10 => ?_)
  · replace h := ip h hc10
    refine W.seq (W.region ?_)
    refine WL.val (Value.bool true) _ (op_assign rfl) rfl ?_
    refine WL.nil ?_
    show W _ _ _ _ _ _
    refine W.ret ?_
    obtain rfl := Option.some.inj h
    show FinP _ _ _ _ _ _ _
    exact FinP.ret _ (res1 rfl rfl) ⟨rfl, (Ext.trans hE7 hS8.ext)⟩
  · replace h := inegb h hc10
    refine W.skip ?_
    show W _ _ _ _ _ _
    refine W.seq (W.region ?_)
    refine WL.val (Value.int .i64 (1048576 : Int)) _ (op_assign rfl) rfl ?_
    refine WL.nil ?_
    show W _ _ _ _ _ _
    refine W.seq (W.region ?_)
    refine WL.val (Value.agg #[v_aR_Table]) _ (op_loadBox st_24 rfl (BoxAt.lift hS8.ext hx6) rfl rfl) rfl ?_
    refine WL.val (Value.int .i64 (1048576 : Int)) _ (op_move rfl) rfl ?_
    obtain ⟨x12, hx13, h⟩ := bs h
    refine WL.call _ (op_call fn_8 (args2 rfl rfl)) (c_laws_szRing (Ty.lift _ (Ext.trans hE7 hS8.ext) r_aR_Table) (inR_i64.2 (show (-9223372036854775808 : Int) ≤ 1048576 ∧ (1048576 : Int) ≤ 9223372036854775807 from by decide)) hx13) rfl ?_
    rintro _ wd15 ⟨rfl, hr14, he16⟩
    have hS18 := St.extend hS8 he16
    replace hS18 : St wd2 wd15 [] := hS18
    refine WL.val (Value.int .i64 x12) _ (op_assign rfl) rfl ?_
    refine WL.nil ?_
    show W _ _ _ _ _ _
    refine W.seq (W.seq (W.region ?_))
    refine WL.val (Value.int .i64 x12) _ (op_move rfl) rfl ?_
    refine WL.val (Value.bool (decide (x12 < (0 : Int)))) _ (op_lss rfl rfl) rfl ?_
    refine WL.nil ?_
    show W _ _ _ _ _ _
    refine W.cond (decide (x12 < (0 : Int))) rfl (fun hc19 => ?_) (fun hc19 => ?_)
    · replace h := ip h hc19
      refine W.seq (W.region ?_)
      refine WL.val (Value.bool true) _ (op_assign rfl) rfl ?_
      refine WL.nil ?_
      show W _ _ _ _ _ _
      refine W.ret ?_
      obtain rfl := Option.some.inj h
      show FinP _ _ _ _ _ _ _
      exact FinP.ret _ (res1 rfl rfl) ⟨rfl, (Ext.trans hE7 hS18.ext)⟩
    · replace h := inegb h hc19
      refine W.skip ?_
      show W _ _ _ _ _ _
      refine W.seq (W.region ?_)
      refine WL.val (Value.agg #[v_aR_Table]) _ (op_loadBox st_24 rfl (BoxAt.lift hS18.ext hx6) rfl rfl) rfl ?_
      obtain ⟨x21, hx22, h⟩ := bs h
      refine WL.call _ (op_call fn_10 (args1 rfl)) (c_laws_toRing (Ty.lift _ (Ext.trans hE7 hS18.ext) r_aR_Table) hx22) rfl ?_
      rintro _ wd24 ⟨u23, rfl, he25, hs26⟩
      have hS27 := St.join hS18 he25 hs26
      replace hS27 : St wd2 wd24 [(Ty.sl (Ty.sl (Ty.sl (Ty.i .i64)))).at u23 x21] := hS27
      have hb28 := St.rep (t := (Ty.sl (Ty.sl (Ty.sl (Ty.i .i64))))) hS27 0 rfl
      have hE29 : Ext w wd24 := (Ext.trans hE7 hS27.ext)
      have hE30 : Ext wd2 wd24 := hS27.ext
      have hS31 : St wd24 wd24 [] := St.start wd24
      refine WL.val (Value.int .i64 aGenus) _ (op_move rfl) rfl ?_
      refine WL.val v_aLabels _ (op_move rfl) rfl ?_
      obtain ⟨x32, hx33, h⟩ := bs h
      refine WL.call _ (op_call fn_11 (args1 rfl)) (c_laws_toInt64S (Ty.lift _ (Ext.trans hE29 hS31.ext) r_aLabels) hx33) rfl ?_
      rintro u34 wd35 ⟨_, rfl, he36, hs37⟩
      have hS38 := St.join hS31 he36 hs37
      replace hS38 : St wd24 wd35 [(Ty.sl (Ty.i .i64)).at u34 x32] := hS38
      have hb39 := St.rep (t := (Ty.sl (Ty.i .i64))) hS38 0 rfl
      have hE40 : Ext w wd35 := (Ext.trans hE29 hS38.ext)
      have hE41 : Ext wd2 wd35 := (Ext.trans hE30 hS38.ext)
      have hE42 : Ext wd24 wd35 := hS38.ext
      have hS43 : St wd35 wd35 [] := St.start wd35
      obtain ⟨x44, hx45, h⟩ := bs h
      refine WL.call _ (op_call fn_9 (args3 rfl rfl rfl)) (c_spec_SurfaceDimension (Ty.lift _ (Ext.trans hE42 hS43.ext) hb28) r_aGenus (Ty.lift _ hS43.ext hb39) hx45) rfl ?_
      rintro _ wd48 ⟨rfl, hr46, hr47, he49⟩
      have hS51 := St.extend hS43 he49
      replace hS51 : St wd35 wd48 [] := hS51
      refine WL.val (Value.tuple #[(Value.int .i64 x44.1), (Value.int .i64 x44.2)]) _ (op_move rfl) rfl ?_
      refine WL.val (Value.int .i64 x44.1) _ (op_extract rfl rfl) rfl ?_
      refine WL.val (Value.int .i64 x44.2) _ (op_extract rfl rfl) rfl ?_
      refine WL.val (Value.int .i64 x44.1) _ (op_assign rfl) rfl ?_
      refine WL.val (Value.int .i64 x44.2) _ (op_assign rfl) rfl ?_
      refine WL.nil ?_
      show W _ _ _ _ _ _
      refine W.seq (W.region ?_)
      refine WL.val (Value.agg #[v_aR_Table]) _ (op_loadBox st_24 rfl (BoxAt.lift (Ext.trans hE41 hS51.ext) hx6) rfl rfl) rfl ?_
      obtain ⟨x52, hx53, h⟩ := bs h
      refine WL.call _ (op_call fn_10 (args1 rfl)) (c_laws_toRing (Ty.lift _ (Ext.trans hE40 hS51.ext) r_aR_Table) hx53) rfl ?_
      rintro _ wd55 ⟨u54, rfl, he56, hs57⟩
      have hS58 := St.join hS51 he56 hs57
      replace hS58 : St wd35 wd55 [(Ty.sl (Ty.sl (Ty.sl (Ty.i .i64)))).at u54 x52] := hS58
      refine WL.alloc hS58 ze_29 (cs := [(Value.slice none 0 0)]) rfl rfl ?_
      intro b59 wd60 hS61 he62
      replace hS61 : St wd35 wd60 [(Ty.sl (Ty.sl (Ty.sl (Ty.i .i64)))).at u54 x52, bx b59 [(Value.slice none 0 0)]] := hS61
      refine WL.storeBox [u54] hS61 (k := 1) rfl rfl rfl (us := [u54]) rfl sz_29 rfl rfl (all_rep (St.rep (t := (Ty.sl (Ty.sl (Ty.sl (Ty.i .i64))))) hS61 0 rfl) all_nil) rfl ?_
      intro wd63 hS64
      replace hS64 : St wd35 wd63 [(Ty.sl (Ty.sl (Ty.sl (Ty.i .i64)))).at u54 x52, bx b59 [u54]] := hS64
      refine WL.nil ?_
      show W _ _ _ _ _ _
      refine W.seq (W.region ?_)
      refine WL.val v_aLabels _ (op_move rfl) rfl ?_
      obtain ⟨x65, hx66, h⟩ := bs h
      refine WL.call _ (op_call fn_11 (args1 rfl)) (c_laws_toInt64S (Ty.lift _ (Ext.trans hE40 hS64.ext) r_aLabels) hx66) rfl ?_
      rintro u67 wd68 ⟨_, rfl, he69, hs70⟩
      have hS71 := St.join hS64 he69 hs70
      replace hS71 : St wd35 wd68 [(Ty.sl (Ty.sl (Ty.sl (Ty.i .i64)))).at u54 x52, bx b59 [u54], (Ty.sl (Ty.i .i64)).at u67 x65] := hS71
      refine WL.val u67 _ (op_assign rfl) rfl ?_
      refine WL.nil ?_
      show W _ _ _ _ _ _
      refine W.seq (W.region ?_)
      refine WL.val (Value.agg #[u54]) _ (op_loadBox st_29 rfl (St.boxAt hS71 1 rfl) rfl rfl) rfl ?_
      refine WL.val (Value.int .i64 aGenus) _ (op_move rfl) rfl ?_
      refine WL.val u67 _ (op_move rfl) rfl ?_
      obtain ⟨x72, hx73, h⟩ := bs h
      refine WL.call _ (op_call fn_12 (args3 rfl rfl rfl)) (c_impl_SurfaceDimension (St.rep (t := (Ty.sl (Ty.sl (Ty.sl (Ty.i .i64))))) hS71 0 rfl) r_aGenus (St.rep (t := (Ty.sl (Ty.i .i64))) hS71 2 rfl) hx73) rfl ?_
      rintro _ wd76 ⟨rfl, hr74, hr75, he77⟩
      have hS79 := St.extend hS71 he77
      replace hS79 : St wd35 wd76 [(Ty.sl (Ty.sl (Ty.sl (Ty.i .i64)))).at u54 x52, bx b59 [u54], (Ty.sl (Ty.i .i64)).at u67 x65] := hS79
      refine WL.val (Value.tuple #[(Value.int .i64 x72.1), (Value.int .i64 x72.2)]) _ (op_move rfl) rfl ?_
      refine WL.val (Value.int .i64 x72.1) _ (op_extract rfl rfl) rfl ?_
      refine WL.val (Value.int .i64 x72.2) _ (op_extract rfl rfl) rfl ?_
      refine WL.val (Value.int .i64 x72.1) _ (op_assign rfl) rfl ?_
      refine WL.val (Value.int .i64 x72.2) _ (op_assign rfl) rfl ?_
      refine WL.nil ?_
      show W _ _ _ _ _ _
      refine W.seq (W.seq (W.region ?_))
      refine WL.val (Value.int .i64 x72.1) _ (op_move rfl) rfl ?_
      refine WL.val (Value.int .i64 x44.1) _ (op_move rfl) rfl ?_
      refine WL.val (Value.bool (x72.1 != x44.1)) _ (op_neq rfl rfl) rfl ?_
      refine WL.val (Value.bool (x72.1 != x44.1)) _ (op_move rfl) rfl ?_
      refine WL.cut 4 (fun fq wq => fq 2 = v_aLabels ∧ fq 3 = (Value.pointer (some ⟨b1, 0, none⟩)) ∧ fq 10 = (Value.pointer (some ⟨b59, 0, none⟩)) ∧ fq 11 = u67 ∧ fq 49 = (Value.bool ((x72.1 != x44.1) || (x72.2 != x44.2))) ∧ St wd35 wq [(Ty.sl (Ty.sl (Ty.sl (Ty.i .i64)))).at u54 x52, bx b59 [u54], (Ty.sl (Ty.i .i64)).at u67 x65]) ?_ ?_
      · rcases Bool.eq_false_or_eq_true (x72.1 != x44.1) with hc80 | hc80
        · refine WL.gskip rfl (bool_of rfl hc80) rfl ?_
          refine WL.gskip rfl (bool_of rfl hc80) rfl ?_
          refine WL.gskip rfl (bool_of rfl hc80) rfl ?_
          refine WL.val (Value.bool true) _ (op_pick_t (evb_of rfl hc80) rfl) rfl ?_
          refine WL.nil ?_
          exact ⟨rfl, rfl, rfl, rfl, rfl, (orT hc80), hS79⟩
        · refine WL.grun rfl (bool_of rfl hc80) ?_
          refine WL.val (Value.int .i64 x72.2) _ (op_move rfl) rfl ?_
          refine WL.grun rfl (bool_of rfl hc80) ?_
          refine WL.val (Value.int .i64 x44.2) _ (op_move rfl) rfl ?_
          refine WL.grun rfl (bool_of rfl hc80) ?_
          refine WL.val (Value.bool (x72.2 != x44.2)) _ (op_neq rfl rfl) rfl ?_
          refine WL.val (Value.bool (x72.2 != x44.2)) _ (op_pick_f (evb_of rfl hc80) rfl) rfl ?_
          refine WL.nil ?_
          exact ⟨rfl, rfl, rfl, rfl, rfl, (orF hc80), hS79⟩
      · intro f81 wd82 hq83
        obtain ⟨hf84, hf85, hf86, hf87, hf88, hS89⟩ := hq83
        refine WL.nil ?_
        show W _ _ _ _ _ _
        refine W.cond ((x72.1 != x44.1) || (x72.2 != x44.2)) hf88 (fun hc90 => ?_) (fun hc90 => ?_)
        · replace h := ip h hc90
          refine W.seq (W.region ?_)
          refine WL.val (Value.bool false) _ (op_assign rfl) rfl ?_
          refine WL.nil ?_
          show W _ _ _ _ _ _
          refine W.ret ?_
          obtain rfl := Option.some.inj h
          show FinP _ _ _ _ _ _ _
          exact FinP.ret _ (res1 rfl rfl) ⟨rfl, (Ext.trans hE40 hS89.ext)⟩
        · replace h := inegb h hc90
          refine W.skip ?_
          show W _ _ _ _ _ _
          refine W.seq (W.seq ?_)
          obtain ⟨x116, hx117, h⟩ := bs h
          refine W.drawR mixo 3 [] [fun _ v S w' => v = (Value.agg #[u54]), fun _ v S w' => v = (Value.agg #[v_aR_Table]), fun _ v S w' => ∃ (uu0 : Value), v = (Value.agg #[uu0]) ∧ SepS S w' [(Ty.sl (Ty.sl (Ty.sl (Ty.i .i64)))).at uu0 x116]] (by kernel_rfl) (by kernel_rfl) ⟨⟨fun _ _ _ _ _ _ h => h, fun _ _ _ _ _ _ h => h⟩, ⟨fun _ _ _ _ _ _ h => h, fun _ _ _ _ _ _ h => h⟩, ⟨fun _ _ _ _ _ he ⟨uu0, h0, r0⟩ => ⟨uu0, h0, SepS.extend he r0⟩, fun _ _ _ _ _ _ h => h⟩, trivial⟩ ⟨?_, ?_, ?_, trivial⟩ ?_
          · refine ObX.op rfl ?_
            intro f92 wd93 he94 hout95 hphi96
            have hS97 : St wd35 wd93 [(Ty.sl (Ty.sl (Ty.sl (Ty.i .i64)))).at u54 x52, bx b59 [u54], (Ty.sl (Ty.i .i64)).at u67 x65] := St.extend hS89 he94
            have e98 : f92 10 = (Value.pointer (some ⟨b59, 0, none⟩)) := (hout95 10 rfl).trans hf86
            exact OpX.val (Value.agg #[u54]) wd93 rfl (op_loadBox st_29 e98 (St.boxAt hS97 1 rfl) rfl rfl) (Ext.refl _) rfl
          · refine ObX.op rfl ?_
            intro f99 wd100 he101 hout102 hphi103
            have hS104 : St wd35 wd100 [(Ty.sl (Ty.sl (Ty.sl (Ty.i .i64)))).at u54 x52, bx b59 [u54], (Ty.sl (Ty.i .i64)).at u67 x65] := St.extend hS89 he101
            have e105 : f99 3 = (Value.pointer (some ⟨b1, 0, none⟩)) := (hout102 3 rfl).trans hf85
            exact OpX.val (Value.agg #[v_aR_Table]) wd100 rfl (op_loadBox st_24 e105 (BoxAt.lift (Ext.trans hE41 hS104.ext) hx6) rfl rfl) (Ext.refl _) rfl
          · refine ObX.op rfl ?_
            intro f106 wd107 he108 hout109 hphi110
            have hS111 : St wd35 wd107 [(Ty.sl (Ty.sl (Ty.sl (Ty.i .i64)))).at u54 x52, bx b59 [u54], (Ty.sl (Ty.i .i64)).at u67 x65] := St.extend hS89 he108
            obtain ⟨S112, hS113, hf114⟩ := hphi110 1 51 _ rfl rfl rfl
            have e115 : f106 51 = (Value.agg #[v_aR_Table]) := hf114
            refine OpX.call rfl (op_call fn_10 (args1 e115)) (Ret.mono (c_laws_toRing (Ty.lift _ (Ext.trans hE40 hS111.ext) r_aR_Table) hx117) ?_)
            rintro _ wd119 ⟨u118, rfl, he120, hs121⟩
            exact ⟨he120, _, newS _ _, ⟨u118, rfl, (Sep.new hs121)⟩⟩
          · intro f122 wd123 Ss124 he125 hout126 hSn127 hSd128 hphi129
            show WL _ _ _ _ _ _ _
            have hS130 : St wd35 wd123 [(Ty.sl (Ty.sl (Ty.sl (Ty.i .i64)))).at u54 x52, bx b59 [u54], (Ty.sl (Ty.i .i64)).at u67 x65] := St.extend hS89 he125
            have e131 : f122 50 = (Value.agg #[u54]) := hphi129 0 50 _ (by decide) rfl rfl
            obtain ⟨u133, e132, e132s⟩ := hphi129 2 52 _ (by decide) rfl rfl
            have e134 : f122 2 = v_aLabels := (hout126 2 rfl).trans hf84
            have e135 : f122 11 = u67 := (hout126 11 rfl).trans hf87
            have hS136 := St.joinS hS89 he125 hSn127 (SepS.consS hSd128 rfl e132s SepS.nilS)
            replace hS136 : St wd35 wd123 [(Ty.sl (Ty.sl (Ty.sl (Ty.i .i64)))).at u54 x52, bx b59 [u54], (Ty.sl (Ty.i .i64)).at u67 x65, (Ty.sl (Ty.sl (Ty.sl (Ty.i .i64)))).at u133 x116] := hS136
            obtain ⟨x137, hx138, h⟩ := bs h
            refine WL.call _ (op_call fn_13 (args2 e131 e132)) (c_laws_eqRing (St.rep (t := (Ty.sl (Ty.sl (Ty.sl (Ty.i .i64))))) hS136 0 rfl) (St.rep (t := (Ty.sl (Ty.sl (Ty.sl (Ty.i .i64))))) hS136 3 rfl) hx138) rfl ?_
            rintro _ wd139 ⟨rfl, he140⟩
            have hS142 := St.extend hS136 he140
            replace hS142 : St wd35 wd139 [(Ty.sl (Ty.sl (Ty.sl (Ty.i .i64)))).at u54 x52, bx b59 [u54], (Ty.sl (Ty.i .i64)).at u67 x65, (Ty.sl (Ty.sl (Ty.sl (Ty.i .i64)))).at u133 x116] := hS142
            refine WL.val (Value.bool (!x137)) _ (op_not rfl) rfl ?_
            refine WL.nil ?_
            show W _ _ _ _ _ _
            refine W.cond (!x137) rfl (fun hc143 => ?_) (fun hc143 => ?_)
            · replace h := ip h hc143
              refine W.seq (W.region ?_)
              refine WL.val (Value.bool false) _ (op_assign rfl) rfl ?_
              refine WL.nil ?_
              show W _ _ _ _ _ _
              refine W.ret ?_
              obtain rfl := Option.some.inj h
              show FinP _ _ _ _ _ _ _
              exact FinP.ret _ (res1 rfl rfl) ⟨rfl, (Ext.trans hE40 hS142.ext)⟩
            · replace h := inegb h hc143
              refine W.skip ?_
              show W _ _ _ _ _ _
              refine W.seq (W.seq (W.region ?_))
              refine WL.val u67 _ (op_move e135) rfl ?_
              refine WL.val v_aLabels _ (op_move e134) rfl ?_
              obtain ⟨x145, hx146, h⟩ := bs h
              refine WL.call _ (op_call fn_11 (args1 rfl)) (c_laws_toInt64S (Ty.lift _ (Ext.trans hE40 hS142.ext) r_aLabels) hx146) rfl ?_
              rintro u147 wd148 ⟨_, rfl, he149, hs150⟩
              have hS151 := St.join hS142 he149 hs150
              replace hS151 : St wd35 wd148 [(Ty.sl (Ty.sl (Ty.sl (Ty.i .i64)))).at u54 x52, bx b59 [u54], (Ty.sl (Ty.i .i64)).at u67 x65, (Ty.sl (Ty.sl (Ty.sl (Ty.i .i64)))).at u133 x116, (Ty.sl (Ty.i .i64)).at u147 x145] := hS151
              obtain ⟨x152, hx153, h⟩ := bs h
              refine WL.call _ (op_call fn_14 (args2 rfl rfl)) (c_laws_eqInt64S (St.rep (t := (Ty.sl (Ty.i .i64))) hS151 2 rfl) (St.rep (t := (Ty.sl (Ty.i .i64))) hS151 4 rfl) hx153) rfl ?_
              rintro _ wd154 ⟨rfl, he155⟩
              have hS157 := St.extend hS151 he155
              replace hS157 : St wd35 wd154 [(Ty.sl (Ty.sl (Ty.sl (Ty.i .i64)))).at u54 x52, bx b59 [u54], (Ty.sl (Ty.i .i64)).at u67 x65, (Ty.sl (Ty.sl (Ty.sl (Ty.i .i64)))).at u133 x116, (Ty.sl (Ty.i .i64)).at u147 x145] := hS157
              refine WL.val (Value.bool (!x152)) _ (op_not rfl) rfl ?_
              refine WL.nil ?_
              show W _ _ _ _ _ _
              refine W.cond (!x152) rfl (fun hc158 => ?_) (fun hc158 => ?_)
              · replace h := ip h hc158
                refine W.seq (W.region ?_)
                refine WL.val (Value.bool false) _ (op_assign rfl) rfl ?_
                refine WL.nil ?_
                show W _ _ _ _ _ _
                refine W.ret ?_
                obtain rfl := Option.some.inj h
                show FinP _ _ _ _ _ _ _
                exact FinP.ret _ (res1 rfl rfl) ⟨rfl, (Ext.trans hE40 hS157.ext)⟩
              · replace h := inegb h hc158
                refine W.skip ?_
                show W _ _ _ _ _ _
                refine W.seq (W.region ?_)
                refine WL.val (Value.bool true) _ (op_assign rfl) rfl ?_
                refine WL.nil ?_
                show W _ _ _ _ _ _
                refine W.ret ?_
                obtain rfl := Option.some.inj h
                show FinP _ _ _ _ _ _ _
                exact FinP.ret _ (res1 rfl rfl) ⟨rfl, (Ext.trans hE40 hS157.ext)⟩

end Go.VG
