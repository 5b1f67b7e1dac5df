/- The walks, part 4: each Go function returns what its plain twin returns. No condition beyond what each names. -/
import Derived.Test.YtgmimpbkhedfnaaGWalk3
set_option linter.all false
namespace Go.VG
open Go.Proofs
attribute [local irreducible] W WL Sep FinP

theorem c_spec_l18Own {w : World} {w_Orders : (List Int)} {v_w_Orders : Value} {w_Modulus : Int} {w_Values : (List (List (List Int)))} {v_w_Values : Value} (r_w_Orders : (Ty.sl (Ty.i .i64)).rep w v_w_Orders w_Orders) (r_w_Modulus : InR .i64 w_Modulus) (r_w_Values : (Ty.sl (Ty.sl (Ty.sl (Ty.i .i64)))).rep w v_w_Values w_Values) {res : (List Int) × Int × (List (List (List Int)))} (h : p_spec_l18Own w_Orders w_Modulus w_Values  = some res) :
    Ret Try.prog 59 #[(Value.agg #[v_w_Orders, (Value.int .i64 w_Modulus), v_w_Values])] w (fun v w' => ∃ (u0 : Value) (u2 : Value), v = (Value.agg #[u0, Value.int .i64 res.2.1, u2]) ∧ InR .i64 res.2.1 ∧ Ext w w' ∧ Sep w.heap.size w' [(Ty.sl (Ty.i .i64)).at u0 res.1, (Ty.sl (Ty.sl (Ty.sl (Ty.i .i64)))).at u2 res.2.2]) := by
  unfold p_spec_l18Own at h
  have hS0 : St w w [] := St.start w
  refine Ret.start (fn := Try.f59) Try.func59 rfl 30 rfl rfl ?_
  refine W.seq (W.region ?_)
  refine WL.box hS0 rfl (cs := [v_w_Orders, (Value.int .i64 w_Modulus), v_w_Values]) rfl rfl ?_
  intro b1 wd2 hS3 he4 hx5
  replace hS3 : St w wd2 [bx b1 [v_w_Orders, (Value.int .i64 w_Modulus), v_w_Values]] := hS3
  have hx6 := St.boxAt hS3 0 rfl
  have hE7 : Ext w wd2 := hS3.ext
  have hS8 : St wd2 wd2 [] := St.start wd2
  refine WL.alloc hS8 ze_34 (cs := [(Value.slice none 0 0), (Value.int .i64 (0 : Int)), (Value.slice none 0 0)]) rfl rfl ?_
  intro b9 wd10 hS11 he12
  replace hS11 : St wd2 wd10 [bx b9 [(Value.slice none 0 0), (Value.int .i64 (0 : Int)), (Value.slice none 0 0)]] := hS11
  refine WL.nil ?_
  refine W.seq ?_
  obtain ⟨x40, hx41, h⟩ := bs h
  refine W.drawR mixo 7 [] [fun _ v _ _ => v = (Value.pointer (some ⟨b1, 0, none⟩)), fun _ v _ _ => v = v_w_Orders, fun _ v S w' => SepS S w' [(Ty.sl (Ty.i .i64)).at v x40], fun _ v _ _ => v = (Value.pointer (some ⟨b1, 1, none⟩)), fun _ v _ _ => v = (Value.int .i64 w_Modulus) ∧ InR .i64 w_Modulus, fun f v _ _ => v = Value.agg #[f 7, f 9, (Value.slice none 0 0)], fun _ v S w' => ∃ b : Nat, v = Value.pointer (some ⟨b, 0, none⟩) ∧ SepS S w' [bx b [(Value.slice none 0 0), (Value.int .i64 (0 : Int)), (Value.slice none 0 0)]]] (by kernel_rfl) (by kernel_rfl) ⟨pk, pk, ⟨fun _ _ _ _ _ he h => SepS.extend he h, fun _ _ _ _ _ _ h => h⟩, pk, pk, ⟨fun _ _ _ _ _ _ h => h, fun f1 f2 _ _ _ hf h => by show _ = Value.agg #[f2 7, f2 9, (Value.slice none 0 0)]; rw [← hf 2 7 rfl rfl, ← hf 4 9 rfl rfl]; exact h⟩, ⟨fun _ _ _ _ _ he ⟨b, h1, h2⟩ => ⟨b, h1, SepS.extend he h2⟩, fun _ _ _ _ _ _ h => h⟩, trivial⟩ ⟨?_, ?_, ?_, ?_, ?_, ?_, ?_, trivial⟩ ?_
  · refine ObX.op rfl fun f13 wd14 he15 hout16 hphi17 => ?_
    have e19 : f13 1 = (Value.pointer (some ⟨b1, 0, none⟩)) := (hout16 1 rfl).trans rfl
    exact OpX.val (Value.pointer (some ⟨b1, 0, none⟩)) wd14 rfl (op_fieldAddr fd_34_0 e19) (Ext.refl _) rfl
  · refine ObX.op rfl fun f20 wd21 he22 hout23 hphi24 => ?_
    have hS25 := St.extend hS11 he22
    obtain ⟨S26, hS27, hf28⟩ := hphi24 0 5 _ rfl rfl rfl
    have e29 : f20 5 = (Value.pointer (some ⟨b1, 0, none⟩)) := hf28
    exact OpX.val v_w_Orders wd21 rfl (op_load one_22 e29 (BoxAt.cell (BoxAt.lift hS25.ext hx6) rfl)) (Ext.refl _) rfl
  · refine ObX.op rfl fun f30 wd31 he32 hout33 hphi34 => ?_
    have hS35 := St.extend hS11 he32
    obtain ⟨S36, hS37, hf38⟩ := hphi34 1 6 _ rfl rfl rfl
    have e39 : f30 6 = v_w_Orders := hf38
    refine OpX.call rfl (op_call fn_45 (args1 e39)) (Ret.mono (c_spec_l01Own (Ty.lift _ (Ext.trans hE7 hS35.ext) r_w_Orders) hx41) ?_)
    rintro u42 wd43 ⟨_, rfl, he44, hs45⟩
    exact ⟨he44, _, newS _ _, (Sep.new hs45)⟩
  · refine ObX.op rfl fun f46 wd47 he48 hout49 hphi50 => ?_
    have e52 : f46 1 = (Value.pointer (some ⟨b1, 0, none⟩)) := (hout49 1 rfl).trans rfl
    exact OpX.val (Value.pointer (some ⟨b1, 1, none⟩)) wd47 rfl (op_fieldAddr fd_34_1 e52) (Ext.refl _) rfl
  · refine ObX.op rfl fun f53 wd54 he55 hout56 hphi57 => ?_
    have hS58 := St.extend hS11 he55
    obtain ⟨S59, hS60, hf61⟩ := hphi57 3 8 _ rfl rfl rfl
    have e62 : f53 8 = (Value.pointer (some ⟨b1, 1, none⟩)) := hf61
    exact OpX.val (Value.int .i64 w_Modulus) wd54 rfl (op_load one_2 e62 (BoxAt.cell (BoxAt.lift hS58.ext hx6) rfl)) (Ext.refl _) ⟨rfl, r_w_Modulus⟩
  · refine ObX.op rfl fun f63 wd64 he65 hout66 hphi67 => ?_
    obtain ⟨S69, hS70, hf71⟩ := hphi67 2 7 _ rfl rfl rfl
    have e72 : SepS S69 wd64 [(Ty.sl (Ty.i .i64)).at (f63 7) x40] := hf71
    obtain ⟨S73, hS74, hf75⟩ := hphi67 4 9 _ rfl rfl rfl
    obtain ⟨e76, hr77⟩ := hf75
    exact OpX.val (Value.agg #[(f63 7), (Value.int .i64 w_Modulus), (Value.slice none 0 0)]) wd64 rfl (op_build bd_34 (parts := [(0, (f63 7), [(f63 7)]), (1, (Value.int .i64 w_Modulus), [(Value.int .i64 w_Modulus)])]) (partsL ⟨rfl, rfl, rfl, e76, trivial⟩) ⟨(cells_rep (SepS.rep (t := (Ty.sl (Ty.i .i64))) e72 0 rfl)), rfl, trivial⟩ rfl) (Ext.refl _) (by rw [e76])
  · refine ObX.op rfl fun f78 wd79 he80 hout81 hphi82 => ?_
    exact OpX.valO _ _ rfl (op_alloc (cs := [(Value.slice none 0 0), (Value.int .i64 (0 : Int)), (Value.slice none 0 0)].toArray) ze_34 rfl) (Ext.alloc _ _) ⟨_, rfl, Sep.new (sep_box _ [(Value.slice none 0 0), (Value.int .i64 (0 : Int)), (Value.slice none 0 0)] _)⟩
  · intro f84 wd85 Ss86 he87 hout88 hSn89 hSd90 hphi91
    show WL _ _ _ _ _ _ _
    have e93 : SepS (Ss86 2) wd85 [(Ty.sl (Ty.i .i64)).at (f84 7) x40] := hphi91 2 7 _ (by decide) rfl rfl
    obtain ⟨e94, hr95⟩ := hphi91 4 9 _ (by decide) rfl rfl
    have e96 : f84 10 = (Value.agg #[(f84 7), (Value.int .i64 w_Modulus), (Value.slice none 0 0)]) := Eq.trans (hphi91 5 10 _ (by decide) rfl rfl) (by rw [e94])
    obtain ⟨b98, e97, e97s⟩ : ∃ b : Nat, f84 3 = Value.pointer (some ⟨b, 0, none⟩) ∧ SepS (Ss86 6) wd85 [bx b [(Value.slice none 0 0), (Value.int .i64 (0 : Int)), (Value.slice none 0 0)]] := hphi91 6 3 _ (by decide) rfl rfl
    have e99 : f84 1 = (Value.pointer (some ⟨b1, 0, none⟩)) := (hout88 1 rfl).trans rfl
    have e100 : f84 2 = (Value.pointer (some ⟨b9, 0, none⟩)) := (hout88 2 rfl).trans rfl
    have hS101 := St.joinS hS11 he87 hSn89 (SepS.consS hSd90 rfl e97s (SepS.consS hSd90 rfl e93 SepS.nilS))
    replace hS101 : St wd2 wd85 [bx b9 [(Value.slice none 0 0), (Value.int .i64 (0 : Int)), (Value.slice none 0 0)], bx b98 [(Value.slice none 0 0), (Value.int .i64 (0 : Int)), (Value.slice none 0 0)], (Ty.sl (Ty.i .i64)).at (f84 7) x40] := hS101
    have hS104 := St.addNil (Ty.sl (Ty.sl (Ty.i .i64))) hS101
    replace hS104 : St wd2 wd85 [bx b9 [(Value.slice none 0 0), (Value.int .i64 (0 : Int)), (Value.slice none 0 0)], bx b98 [(Value.slice none 0 0), (Value.int .i64 (0 : Int)), (Value.slice none 0 0)], (Ty.sl (Ty.i .i64)).at (f84 7) x40, (Ty.sl (Ty.sl (Ty.sl (Ty.i .i64)))).at (Value.slice none 0 0) ([] : (List (List (List Int))))] := hS104
    refine WL.storeBox [(f84 7), (Value.int .i64 w_Modulus), (Value.slice none 0 0)] hS104 (k := 1) rfl e97 e96 (us := [(f84 7), (Value.int .i64 w_Modulus), (Value.slice none 0 0)]) rfl sz_34 rfl rfl (all_rep (St.rep (t := (Ty.sl (Ty.i .i64))) hS104 2 rfl) (all_cons rfl (all_rep (St.rep (t := (Ty.sl (Ty.sl (Ty.sl (Ty.i .i64))))) hS104 3 rfl) all_nil))) rfl ?_
    intro wd102 hS103
    replace hS103 : St wd2 wd102 [bx b9 [(Value.slice none 0 0), (Value.int .i64 (0 : Int)), (Value.slice none 0 0)], bx b98 [(f84 7), (Value.int .i64 w_Modulus), (Value.slice none 0 0)], (Ty.sl (Ty.i .i64)).at (f84 7) x40, (Ty.sl (Ty.sl (Ty.sl (Ty.i .i64)))).at (Value.slice none 0 0) ([] : (List (List (List Int))))] := hS103
    refine WL.nil ?_
    refine W.seq (W.seq (W.region ?_))
    refine WL.val (Value.int .i64 (0 : Int)) _ (op_assign rfl) rfl ?_
    refine WL.nil ?_
    show W _ _ _ _ _ _
    obtain ⟨res105, hres106, h⟩ := bs h
    refine W.blockLoop (fun fq wq => ∃ s, res105 = Res.fin s ∧ ∃ (uu0 : Value), fq 2 = (Value.pointer (some ⟨b9, 0, none⟩)) ∧ fq 3 = (Value.pointer (some ⟨b98, 0, none⟩)) ∧ St wd2 wq [bx b9 [(Value.slice none 0 0), (Value.int .i64 (0 : Int)), (Value.slice none 0 0)], bx b98 [(f84 7), (Value.int .i64 w_Modulus), uu0], (Ty.sl (Ty.i .i64)).at (f84 7) x40, (Ty.sl (Ty.sl (Ty.sl (Ty.i .i64)))).at uu0 s]) ?_ ?_
    · refine W.forN (fun k (s : (List (List (List Int)))) fq wq => ∃ (uu0 : Value), fq 1 = (Value.pointer (some ⟨b1, 0, none⟩)) ∧ fq 2 = (Value.pointer (some ⟨b9, 0, none⟩)) ∧ fq 3 = (Value.pointer (some ⟨b98, 0, none⟩)) ∧ fq 4 = Value.int .i64 (k : Int) ∧ InR .i64 (k : Int) ∧ St wd2 wq [bx b9 [(Value.slice none 0 0), (Value.int .i64 (0 : Int)), (Value.slice none 0 0)], bx b98 [(f84 7), (Value.int .i64 w_Modulus), uu0], (Ty.sl (Ty.i .i64)).at (f84 7) x40, (Ty.sl (Ty.sl (Ty.sl (Ty.i .i64)))).at uu0 s]) hres106 ⟨(Value.slice none 0 0), e99, e100, e97, rfl, (inL rfl), hS103⟩ ?_ ?_
      · intro k107 x108 ct109 f110 wd111 hk112 hb113 hI114 hbrk115 hret116
        replace hI114 : ∃ (uu0 : Value), f110 1 = (Value.pointer (some ⟨b1, 0, none⟩)) ∧ f110 2 = (Value.pointer (some ⟨b9, 0, none⟩)) ∧ f110 3 = (Value.pointer (some ⟨b98, 0, none⟩)) ∧ f110 4 = Value.int .i64 (k107 : Int) ∧ InR .i64 (k107 : Int) ∧ St wd2 wd111 [bx b9 [(Value.slice none 0 0), (Value.int .i64 (0 : Int)), (Value.slice none 0 0)], bx b98 [(f84 7), (Value.int .i64 w_Modulus), uu0], (Ty.sl (Ty.i .i64)).at (f84 7) x40, (Ty.sl (Ty.sl (Ty.sl (Ty.i .i64)))).at uu0 x108] := hI114
        replace hb113 : p_spec_l18Own_L1 w_Values k107 x108 = some ct109 := hb113
        unfold p_spec_l18Own_L1 at hb113
        obtain ⟨u117, hf118, hf119, hf120, hf121, hr122, hS123⟩ := hI114
        refine W.seq (W.seq (W.region ?_))
        refine WL.val (Value.int .i64 (k107 : Int)) _ (op_move hf121) rfl ?_
        refine WL.val (Value.pointer (some ⟨b1, 2, none⟩)) _ (op_fieldAddr fd_34_2 hf118) rfl ?_
        refine WL.val v_w_Values _ (op_load one_23 rfl (BoxAt.cell (BoxAt.lift hS123.ext hx6) rfl)) rfl ?_
        have hr124 := inR_len (Ty.lift _ (Ext.trans hE7 hS123.ext) r_w_Values)
        refine WL.val (Value.int .i64 ((w_Values).length : Int)) _ (op_lenL sl_23 (Ty.lift _ (Ext.trans hE7 hS123.ext) r_w_Values) rfl) rfl ?_
        refine WL.val (Value.bool (decide ((k107 : Int) < ((w_Values).length : Int)))) _ (op_lss rfl rfl) rfl ?_
        have hl125 : (k107 : Int) < ((w_Values).length : Int) := by omega
        refine WL.nil ?_
        refine W.condT (decide ((k107 : Int) < ((w_Values).length : Int))) rfl (decide_eq_true hl125) ?_
        refine W.skip ?_
        refine W.seq ?_
        refine W.block ?_
        obtain ⟨x183, hx186, hb113⟩ := bs hb113
        obtain ⟨ha184, hb185, hx186⟩ := idx_some hx186
        obtain ⟨u197, hc198, hr199⟩ := repSl.el r_w_Values hx186
        obtain ⟨x210, hx211, hb113⟩ := bs hb113
        refine W.drawR mixo 9 [] [fun _ v _ _ => v = (Value.pointer (some ⟨b98, 2, none⟩)), fun _ v _ _ => v = u117, fun _ v _ _ => v = (Value.pointer (some ⟨b1, 2, none⟩)), fun _ v _ _ => v = v_w_Values, fun _ v _ _ => v = (Value.int .i64 (k107 : Int)) ∧ InR .i64 (k107 : Int), fun _ v _ _ => v = (Value.pointer (some (elA v_w_Values ((k107 : Int)).toNat))), fun _ v _ _ => v = u197, fun _ v S w' => SepS S w' [(Ty.sl (Ty.sl (Ty.i .i64))).at v x210], fun f v S w' => ∃ b : Nat, v = Value.slice (some ⟨b, 0, none⟩) 1 1 ∧ SepS S w' [bx b [f 25]]] (by kernel_rfl) (by kernel_rfl) ⟨pk, pk, pk, pk, pk, pk, pk, ⟨fun _ _ _ _ _ he h => SepS.extend he h, fun _ _ _ _ _ _ h => h⟩, ⟨fun _ _ _ _ _ he ⟨b, h1, h2⟩ => ⟨b, h1, SepS.extend he h2⟩, fun f f2 _ _ _ hf ⟨b, h1, h2⟩ => ⟨b, h1, by rw [← hf 7 25 rfl rfl]; exact h2⟩⟩, trivial⟩ ⟨?_, ?_, ?_, ?_, ?_, ?_, ?_, ?_, ?_, trivial⟩ ?_
        · refine ObX.op rfl fun f127 wd128 he129 hout130 hphi131 => ?_
          have e133 : f127 3 = (Value.pointer (some ⟨b98, 0, none⟩)) := (hout130 3 rfl).trans hf120
          exact OpX.val (Value.pointer (some ⟨b98, 2, none⟩)) wd128 rfl (op_fieldAddr fd_34_2 e133) (Ext.refl _) rfl
        · refine ObX.op rfl fun f134 wd135 he136 hout137 hphi138 => ?_
          have hS139 := St.extend hS123 he136
          obtain ⟨S140, hS141, hf142⟩ := hphi138 0 18 _ rfl rfl rfl
          have e143 : f134 18 = (Value.pointer (some ⟨b98, 2, none⟩)) := hf142
          exact OpX.val u117 wd135 rfl (op_load one_23 e143 (BoxAt.cell (St.boxAt hS139 1 rfl) rfl)) (Ext.refl _) rfl
        · refine ObX.op rfl fun f144 wd145 he146 hout147 hphi148 => ?_
          have e150 : f144 1 = (Value.pointer (some ⟨b1, 0, none⟩)) := (hout147 1 rfl).trans hf118
          exact OpX.val (Value.pointer (some ⟨b1, 2, none⟩)) wd145 rfl (op_fieldAddr fd_34_2 e150) (Ext.refl _) rfl
        · refine ObX.op rfl fun f151 wd152 he153 hout154 hphi155 => ?_
          have hS156 := St.extend hS123 he153
          obtain ⟨S157, hS158, hf159⟩ := hphi155 2 20 _ rfl rfl rfl
          have e160 : f151 20 = (Value.pointer (some ⟨b1, 2, none⟩)) := hf159
          exact OpX.val v_w_Values wd152 rfl (op_load one_23 e160 (BoxAt.cell (BoxAt.lift hS156.ext hx6) rfl)) (Ext.refl _) rfl
        · refine ObX.op rfl fun f161 wd162 he163 hout164 hphi165 => ?_
          have e167 : f161 4 = (Value.int .i64 (k107 : Int)) := (hout164 4 rfl).trans hf121
          exact OpX.val (Value.int .i64 (k107 : Int)) wd162 rfl (op_move e167) (Ext.refl _) ⟨rfl, hr122⟩
        · refine ObX.op rfl fun f168 wd169 he170 hout171 hphi172 => ?_
          have hS173 := St.extend hS123 he170
          obtain ⟨S174, hS175, hf176⟩ := hphi172 3 21 _ rfl rfl rfl
          have e177 : f168 21 = v_w_Values := hf176
          obtain ⟨S178, hS179, hf180⟩ := hphi172 4 22 _ rfl rfl rfl
          obtain ⟨e181, hr182⟩ := hf180
          exact OpX.val (Value.pointer (some (elA v_w_Values ((k107 : Int)).toNat))) wd169 rfl (op_idx sl_23 (Ty.lift _ (Ext.trans hE7 hS173.ext) r_w_Values) e177 e181 ha184 hb185) (Ext.refl _) rfl
        · refine ObX.op rfl fun f187 wd188 he189 hout190 hphi191 => ?_
          have hS192 := St.extend hS123 he189
          obtain ⟨S193, hS194, hf195⟩ := hphi191 5 23 _ rfl rfl rfl
          have e196 : f187 23 = (Value.pointer (some (elA v_w_Values ((k107 : Int)).toNat))) := hf195
          exact OpX.val u197 wd188 rfl (op_load one_26 e196 (Ext.cell (Ext.trans hE7 hS192.ext) hc198)) (Ext.refl _) rfl
        · refine ObX.op rfl fun f200 wd201 he202 hout203 hphi204 => ?_
          have hS205 := St.extend hS123 he202
          obtain ⟨S206, hS207, hf208⟩ := hphi204 6 24 _ rfl rfl rfl
          have e209 : f200 24 = u197 := hf208
          refine OpX.call rfl (op_call fn_110 (args1 e209)) (Ret.mono (c_spec_l01Own2 (Ty.lift _ (Ext.trans hE7 hS205.ext) hr199) hx211) ?_)
          rintro u212 wd213 ⟨_, rfl, he214, hs215⟩
          exact ⟨he214, _, newS _ _, (Sep.new hs215)⟩
        · refine ObX.op rfl fun f216 wd217 he218 hout219 hphi220 => ?_
          obtain ⟨S222, hS223, hf224⟩ := hphi220 7 25 _ rfl rfl rfl
          have e225 : SepS S222 wd217 [(Ty.sl (Ty.sl (Ty.i .i64))).at (f216 25) x210] := hf224
          exact OpX.valO _ _ rfl (mk_lit (us := [(f216 25)]) sl_23 rfl (by decide) (fillL rfl ⟨rfl, rfl, (cells_rep (SepS.rep (t := (Ty.sl (Ty.sl (Ty.i .i64)))) e225 0 rfl)), trivial⟩) rfl) (Ext.alloc _ _) ⟨_, rfl, Sep.new (sep_box _ [(f216 25)] _)⟩
        · intro f226 wd227 Ss228 he229 hout230 hSn231 hSd232 hphi233
          show WL _ _ _ _ _ _ _
          have e235 : f226 19 = u117 := hphi233 1 19 _ (by decide) rfl rfl
          have e236 : SepS (Ss228 7) wd227 [(Ty.sl (Ty.sl (Ty.i .i64))).at (f226 25) x210] := hphi233 7 25 _ (by decide) rfl rfl
          obtain ⟨b238, e237, e237s⟩ : ∃ b : Nat, f226 26 = Value.slice (some ⟨b, 0, none⟩) 1 1 ∧ SepS (Ss228 8) wd227 [bx b [f226 25]] := hphi233 8 26 _ (by decide) rfl rfl
          have e239 : f226 1 = (Value.pointer (some ⟨b1, 0, none⟩)) := (hout230 1 rfl).trans hf118
          have e240 : f226 2 = (Value.pointer (some ⟨b9, 0, none⟩)) := (hout230 2 rfl).trans hf119
          have e241 : f226 3 = (Value.pointer (some ⟨b98, 0, none⟩)) := (hout230 3 rfl).trans hf120
          have e242 : f226 4 = (Value.int .i64 (k107 : Int)) := (hout230 4 rfl).trans hf121
          have hS243 := St.joinS hS123 he229 hSn231 (SepS.consS hSd232 rfl e236 (SepS.consS hSd232 rfl e237s SepS.nilS))
          replace hS243 : St wd2 wd227 [bx b9 [(Value.slice none 0 0), (Value.int .i64 (0 : Int)), (Value.slice none 0 0)], bx b98 [(f84 7), (Value.int .i64 w_Modulus), u117], (Ty.sl (Ty.i .i64)).at (f84 7) x40, (Ty.sl (Ty.sl (Ty.sl (Ty.i .i64)))).at u117 x108, (Ty.sl (Ty.sl (Ty.i .i64))).at (f226 25) x210, bx b238 [(f226 25)]] := hS243
          obtain ⟨x244, hx245, hb113⟩ := bs hb113
          refine WL.appendRow hS243 (k := 3) (k2 := 4) (k3 := 5) rfl rfl rfl rfl sl_23 rfl rfl e235 e237 hx245 rfl ?_
          intro u246 wd247 hS248 hz249
          replace hS248 : St wd2 wd247 [bx b9 [(Value.slice none 0 0), (Value.int .i64 (0 : Int)), (Value.slice none 0 0)], bx b98 [(f84 7), (Value.int .i64 w_Modulus), u117], (Ty.sl (Ty.i .i64)).at (f84 7) x40, (Ty.sl (Ty.sl (Ty.sl (Ty.i .i64)))).at u246 x244, emp, bx b238 [(f226 25)]] := hS248
          refine WL.val (Value.pointer (some ⟨b98, 2, none⟩)) _ (op_fieldAddr fd_34_2 e241) rfl ?_
          refine WL.storeBox [(f84 7), (Value.int .i64 w_Modulus), u246] hS248 (k := 1) rfl rfl rfl (us := [u246]) (cells_rep (St.rep (t := (Ty.sl (Ty.sl (Ty.sl (Ty.i .i64))))) hS248 3 rfl)) sz_23 rfl rfl (all_rep (St.rep (t := (Ty.sl (Ty.sl (Ty.sl (Ty.i .i64))))) hS248 3 rfl) all_nil) rfl ?_
          intro wd250 hS251
          replace hS251 : St wd2 wd250 [bx b9 [(Value.slice none 0 0), (Value.int .i64 (0 : Int)), (Value.slice none 0 0)], bx b98 [(f84 7), (Value.int .i64 w_Modulus), u246], (Ty.sl (Ty.i .i64)).at (f84 7) x40, (Ty.sl (Ty.sl (Ty.sl (Ty.i .i64)))).at u246 x244, emp, bx b238 [(f226 25)]] := hS251
          refine WL.nil ?_
          show W _ _ _ _ _ _
          refine W.region ?_
          refine WL.val (Value.int .i64 (k107 : Int)) _ (op_move e242) rfl ?_
          refine WL.val (Value.int .i64 (w64 ((k107 : Int) + (1 : Int)))) _ (op_add rfl rfl) rfl ?_
          refine WL.val (Value.int .i64 (w64 ((k107 : Int) + (1 : Int)))) _ (op_assign rfl) rfl ?_
          refine WL.nil ?_
          obtain rfl := Option.some.inj hb113
          show ∃ s, _ = Ctl.next s ∧ _
          exact ⟨_, rfl, u246, e239, e240, e241, (ctr_next hl125 hr124), (ctr_rng hl125 hr124), (St.pick hS251 [0, 1, 2, 3] rfl)⟩
      · intro x258 f253 wd254 hs255 hI256
        replace hI256 : ∃ (uu0 : Value), f253 1 = (Value.pointer (some ⟨b1, 0, none⟩)) ∧ f253 2 = (Value.pointer (some ⟨b9, 0, none⟩)) ∧ f253 3 = (Value.pointer (some ⟨b98, 0, none⟩)) ∧ f253 4 = Value.int .i64 (((w_Values).length : Nat) : Int) ∧ InR .i64 (((w_Values).length : Nat) : Int) ∧ St wd2 wd254 [bx b9 [(Value.slice none 0 0), (Value.int .i64 (0 : Int)), (Value.slice none 0 0)], bx b98 [(f84 7), (Value.int .i64 w_Modulus), uu0], (Ty.sl (Ty.i .i64)).at (f84 7) x40, (Ty.sl (Ty.sl (Ty.sl (Ty.i .i64)))).at uu0 x258] := hI256
        obtain ⟨u259, hf260, hf261, hf262, hf263, hr264, hS265⟩ := hI256
        refine W.seq (W.seq (W.region ?_))
        refine WL.val (Value.int .i64 (((w_Values).length : Nat) : Int)) _ (op_move hf263) rfl ?_
        refine WL.val (Value.pointer (some ⟨b1, 2, none⟩)) _ (op_fieldAddr fd_34_2 hf260) rfl ?_
        refine WL.val v_w_Values _ (op_load one_23 rfl (BoxAt.cell (BoxAt.lift hS265.ext hx6) rfl)) rfl ?_
        have hr266 := inR_len (Ty.lift _ (Ext.trans hE7 hS265.ext) r_w_Values)
        refine WL.val (Value.int .i64 ((w_Values).length : Int)) _ (op_lenL sl_23 (Ty.lift _ (Ext.trans hE7 hS265.ext) r_w_Values) rfl) rfl ?_
        refine WL.val (Value.bool (decide ((((w_Values).length : Nat) : Int) < ((w_Values).length : Int)))) _ (op_lss rfl rfl) rfl ?_
        have hl267 : ¬ (((w_Values).length : Nat) : Int) < ((w_Values).length : Int) := by omega
        refine WL.nil ?_
        refine W.condF (decide ((((w_Values).length : Nat) : Int) < ((w_Values).length : Int))) rfl (decide_eq_false hl267) ?_
        refine W.exit ?_
        show _ = _ ∧ _
        exact ⟨rfl, _, hs255, u259, hf261, hf262, hS265⟩
    · rintro f268 wd269 ⟨x272, rfl, hq270⟩
      replace h := onRes_fin h
      replace hq270 : ∃ (uu0 : Value), f268 2 = (Value.pointer (some ⟨b9, 0, none⟩)) ∧ f268 3 = (Value.pointer (some ⟨b98, 0, none⟩)) ∧ St wd2 wd269 [bx b9 [(Value.slice none 0 0), (Value.int .i64 (0 : Int)), (Value.slice none 0 0)], bx b98 [(f84 7), (Value.int .i64 w_Modulus), uu0], (Ty.sl (Ty.i .i64)).at (f84 7) x40, (Ty.sl (Ty.sl (Ty.sl (Ty.i .i64)))).at uu0 x272] := hq270
      obtain ⟨u273, hf274, hf275, hS276⟩ := hq270
      refine W.seq (W.region ?_)
      refine WL.val (Value.agg #[(f84 7), (Value.int .i64 w_Modulus), u273]) _ (op_loadBox st_34 hf275 (St.boxAt hS276 1 rfl) rfl rfl) rfl ?_
      refine WL.storeBox [(f84 7), (Value.int .i64 w_Modulus), u273] hS276 (k := 0) rfl hf274 rfl (us := [(f84 7), (Value.int .i64 w_Modulus), u273]) rfl sz_34 rfl rfl (all_rep (St.rep (t := (Ty.sl (Ty.i .i64))) hS276 2 rfl) (all_cons rfl (all_rep (St.rep (t := (Ty.sl (Ty.sl (Ty.sl (Ty.i .i64))))) hS276 3 rfl) all_nil))) rfl ?_
      intro wd277 hS278
      replace hS278 : St wd2 wd277 [bx b9 [(f84 7), (Value.int .i64 w_Modulus), u273], bx b98 [(f84 7), (Value.int .i64 w_Modulus), u273], (Ty.sl (Ty.i .i64)).at (f84 7) x40, (Ty.sl (Ty.sl (Ty.sl (Ty.i .i64)))).at u273 x272] := hS278
      refine WL.nil ?_
      refine W.ret ?_
      obtain rfl := Option.some.inj h
      show FinP _ _ _ _ _ _ _
      exact FinP.ret _ (resC rfl hf274 st_34 (St.boxAt hS278 0 rfl) rfl) ⟨(f84 7), u273, rfl, hr95, (Ext.trans hE7 hS278.ext), (St.out (St.pick hS278 [2, 3] rfl) (hE7))⟩

theorem c_spec_l18Mod {w : World} {n : Int} {m : Int} (r_n : InR .i64 n) (r_m : InR .i64 m) {res : Int} (h : p_spec_l18Mod n m  = some res) :
    Ret Try.prog 60 #[(Value.int .i64 n), (Value.int .i64 m)] w (fun v w' => v = Value.int .i64 res ∧ InR .i64 res ∧ Ext w w') := by
  unfold p_spec_l18Mod at h
  have hS0 : St w w [] := St.start w
  refine Ret.start (fn := Try.f60) Try.func60 rfl 12 rfl rfl ?_
  refine W.seq (W.region ?_)
  refine WL.val (Value.int .i64 (0 : Int)) _ (op_assign rfl) rfl ?_
  refine WL.nil ?_
  refine W.seq (W.region ?_)
  refine WL.val (Value.int .i64 n) _ (op_move rfl) rfl ?_
  refine WL.val (Value.int .i64 m) _ (op_move rfl) rfl ?_
  obtain ⟨x1, hz2, h⟩ := bs h
  obtain ⟨h03, hz2⟩ := remI_some hz2
  have hr4 : InR .i64 x1 := by rw [hz2]; exact inR_tmod r_n
  refine WL.val (Value.int .i64 x1) _ (by rw [hz2]; exact op_rem rfl rfl h03) rfl ?_
  refine WL.val (Value.int .i64 m) _ (op_move rfl) rfl ?_
  refine WL.val (Value.int .i64 (w64 (x1 + m))) _ (op_add rfl rfl) rfl ?_
  refine WL.val (Value.int .i64 m) _ (op_move rfl) rfl ?_
  obtain ⟨x5, hz6, h⟩ := bs h
  obtain ⟨h07, hz6⟩ := remI_some hz6
  have hr8 : InR .i64 x5 := by rw [hz6]; exact inR_tmod (inR_wrap _ _)
  refine WL.val (Value.int .i64 x5) _ (by rw [hz6]; exact op_rem rfl rfl h07) rfl ?_
  refine WL.val (Value.int .i64 x5) _ (op_assign rfl) rfl ?_
  refine WL.nil ?_
  refine W.ret ?_
  obtain rfl := Option.some.inj h
  show FinP _ _ _ _ _ _ _
  exact FinP.ret _ (res1 rfl rfl) ⟨rfl, hr8, hS0.ext⟩

theorem c_spec_ReverseBraiding {w : World} {b_Cocycle_Orders : (List Int)} {v_b_Cocycle_Orders : Value} {b_Cocycle_Modulus : Int} {b_Cocycle_Values : (List (List (List Int)))} {v_b_Cocycle_Values : Value} {b_Values : (List (List Int))} {v_b_Values : Value} (r_b_Cocycle_Orders : (Ty.sl (Ty.i .i64)).rep w v_b_Cocycle_Orders b_Cocycle_Orders) (r_b_Cocycle_Modulus : InR .i64 b_Cocycle_Modulus) (r_b_Cocycle_Values : (Ty.sl (Ty.sl (Ty.sl (Ty.i .i64)))).rep w v_b_Cocycle_Values b_Cocycle_Values) (r_b_Values : (Ty.sl (Ty.sl (Ty.i .i64))).rep w v_b_Values b_Values) {res : (List Int) × Int × (List (List (List Int))) × (List (List Int)) × Int} (h : p_spec_ReverseBraiding b_Cocycle_Orders b_Cocycle_Modulus b_Cocycle_Values b_Values  = some res) :
    Ret Try.prog 15 #[(Value.agg #[v_b_Cocycle_Orders, (Value.int .i64 b_Cocycle_Modulus), v_b_Cocycle_Values, v_b_Values])] w (fun v w' => ∃ (u0 : Value) (u2 : Value) (u3 : Value), v = (Value.tuple #[(Value.agg #[u0, Value.int .i64 res.2.1, u2, u3]), Value.int .i64 res.2.2.2.2]) ∧ InR .i64 res.2.1 ∧ InR .i64 res.2.2.2.2 ∧ Ext w w' ∧ Sep w.heap.size w' [(Ty.sl (Ty.i .i64)).at u0 res.1, (Ty.sl (Ty.sl (Ty.sl (Ty.i .i64)))).at u2 res.2.2.1, (Ty.sl (Ty.sl (Ty.i .i64))).at u3 res.2.2.2.1]) := by
  unfold p_spec_ReverseBraiding at h
  have hS0 : St w w [] := St.start w
  refine Ret.start (fn := Try.f15) Try.func15 rfl 54 rfl rfl ?_
  refine W.seq (W.region ?_)
  refine WL.box hS0 rfl (cs := [v_b_Cocycle_Orders, (Value.int .i64 b_Cocycle_Modulus), v_b_Cocycle_Values, v_b_Values]) rfl rfl ?_
  intro b1 wd2 hS3 he4 hx5
  replace hS3 : St w wd2 [bx b1 [v_b_Cocycle_Orders, (Value.int .i64 b_Cocycle_Modulus), v_b_Cocycle_Values, v_b_Values]] := hS3
  have hx6 := St.boxAt hS3 0 rfl
  have hE7 : Ext w wd2 := hS3.ext
  have hS8 : St wd2 wd2 [] := St.start wd2
  refine WL.alloc hS8 ze_36 (cs := [(Value.slice none 0 0), (Value.int .i64 (0 : Int)), (Value.slice none 0 0), (Value.slice none 0 0)]) rfl rfl ?_
  intro b9 wd10 hS11 he12
  replace hS11 : St wd2 wd10 [bx b9 [(Value.slice none 0 0), (Value.int .i64 (0 : Int)), (Value.slice none 0 0), (Value.slice none 0 0)]] := hS11
  refine WL.val (Value.int .i64 (0 : Int)) _ (op_assign rfl) rfl ?_
  refine WL.nil ?_
  refine W.seq (W.seq (W.region ?_))
  refine WL.val (Value.agg #[v_b_Cocycle_Orders, (Value.int .i64 b_Cocycle_Modulus), v_b_Cocycle_Values, v_b_Values]) _ (op_loadBox st_36 rfl (BoxAt.lift hS11.ext hx6) rfl rfl) rfl ?_
  obtain ⟨x13, hx14, h⟩ := bs h
  refine WL.call _ (op_call fn_42 (args1 rfl)) (c_spec_l18Is (Ty.lift _ (Ext.trans hE7 hS11.ext) r_b_Cocycle_Orders) r_b_Cocycle_Modulus (Ty.lift _ (Ext.trans hE7 hS11.ext) r_b_Cocycle_Values) (Ty.lift _ (Ext.trans hE7 hS11.ext) r_b_Values) hx14) rfl ?_
  rintro _ wd15 ⟨rfl, he16⟩
  have hS18 := St.extend hS11 he16
  replace hS18 : St wd2 wd15 [bx b9 [(Value.slice none 0 0), (Value.int .i64 (0 : Int)), (Value.slice none 0 0), (Value.slice none 0 0)]] := hS18
  refine WL.val (Value.bool (!x13)) _ (op_not rfl) rfl ?_
  refine WL.nil ?_
  refine W.cond (!x13) rfl (fun hc19 => ?_) (fun hc19 => ?_)
  · replace h := ip h hc19
    refine W.seq (W.region ?_)
    refine WL.val (Value.agg #[(Value.slice none 0 0), (Value.int .i64 (0 : Int)), (Value.slice none 0 0), (Value.slice none 0 0)]) _ (op_build bd_36 (parts := []) (partsL trivial) trivial rfl) rfl ?_
    have hS23 := St.addNil (Ty.i .i64) hS18
    replace hS23 : St wd2 wd15 [bx b9 [(Value.slice none 0 0), (Value.int .i64 (0 : Int)), (Value.slice none 0 0), (Value.slice none 0 0)], (Ty.sl (Ty.i .i64)).at (Value.slice none 0 0) ([] : (List Int))] := hS23
    have hS24 := St.addNil (Ty.sl (Ty.sl (Ty.i .i64))) hS23
    replace hS24 : St wd2 wd15 [bx b9 [(Value.slice none 0 0), (Value.int .i64 (0 : Int)), (Value.slice none 0 0), (Value.slice none 0 0)], (Ty.sl (Ty.i .i64)).at (Value.slice none 0 0) ([] : (List Int)), (Ty.sl (Ty.sl (Ty.sl (Ty.i .i64)))).at (Value.slice none 0 0) ([] : (List (List (List Int))))] := hS24
    have hS25 := St.addNil (Ty.sl (Ty.i .i64)) hS24
    replace hS25 : St wd2 wd15 [bx b9 [(Value.slice none 0 0), (Value.int .i64 (0 : Int)), (Value.slice none 0 0), (Value.slice none 0 0)], (Ty.sl (Ty.i .i64)).at (Value.slice none 0 0) ([] : (List Int)), (Ty.sl (Ty.sl (Ty.sl (Ty.i .i64)))).at (Value.slice none 0 0) ([] : (List (List (List Int)))), (Ty.sl (Ty.sl (Ty.i .i64))).at (Value.slice none 0 0) ([] : (List (List Int)))] := hS25
    refine WL.storeBox [(Value.slice none 0 0), (Value.int .i64 (0 : Int)), (Value.slice none 0 0), (Value.slice none 0 0)] hS25 (k := 0) rfl rfl rfl (us := [(Value.slice none 0 0), (Value.int .i64 (0 : Int)), (Value.slice none 0 0), (Value.slice none 0 0)]) rfl sz_36 rfl rfl (all_rep (St.rep (t := (Ty.sl (Ty.i .i64))) hS25 1 rfl) (all_cons rfl (all_rep (St.rep (t := (Ty.sl (Ty.sl (Ty.sl (Ty.i .i64))))) hS25 2 rfl) (all_rep (St.rep (t := (Ty.sl (Ty.sl (Ty.i .i64)))) hS25 3 rfl) all_nil)))) rfl ?_
    intro wd21 hS22
    replace hS22 : St wd2 wd21 [bx b9 [(Value.slice none 0 0), (Value.int .i64 (0 : Int)), (Value.slice none 0 0), (Value.slice none 0 0)], (Ty.sl (Ty.i .i64)).at (Value.slice none 0 0) ([] : (List Int)), (Ty.sl (Ty.sl (Ty.sl (Ty.i .i64)))).at (Value.slice none 0 0) ([] : (List (List (List Int)))), (Ty.sl (Ty.sl (Ty.i .i64))).at (Value.slice none 0 0) ([] : (List (List Int)))] := hS22
    refine WL.val (Value.int .i64 (1 : Int)) _ (op_assign rfl) rfl ?_
    refine WL.nil ?_
    refine W.ret ?_
    obtain rfl := Option.some.inj h
    show FinP _ _ _ _ _ _ _
    exact FinP.ret _ (resCT rfl rfl st_36 (St.boxAt hS22 0 rfl) rfl rfl) ⟨(Value.slice none 0 0), (Value.slice none 0 0), (Value.slice none 0 0), rfl, (inL rfl), (inL rfl), (Ext.trans hE7 hS22.ext), (St.out (St.pick hS22 [1, 2, 3] rfl) (hE7))⟩
  · replace h := inegb h hc19
    refine W.skip ?_
    refine W.seq (W.region ?_)
    refine WL.val (Value.pointer (some ⟨b1, 0, none⟩)) _ (op_fieldAddr fd_36_0 rfl) rfl ?_
    refine WL.val (Value.agg #[v_b_Cocycle_Orders, (Value.int .i64 b_Cocycle_Modulus), v_b_Cocycle_Values]) _ (op_loadBox st_34 rfl (BoxAt.lift hS18.ext hx6) rfl rfl) rfl ?_
    obtain ⟨x26, hx27, h⟩ := bs h
    refine WL.call _ (op_call fn_59 (args1 rfl)) (c_spec_l18Own (Ty.lift _ (Ext.trans hE7 hS18.ext) r_b_Cocycle_Orders) r_b_Cocycle_Modulus (Ty.lift _ (Ext.trans hE7 hS18.ext) r_b_Cocycle_Values) hx27) rfl ?_
    rintro _ wd31 ⟨u28, u30, rfl, hr29, he32, hs33⟩
    have hS34 := St.join hS18 he32 hs33
    replace hS34 : St wd2 wd31 [bx b9 [(Value.slice none 0 0), (Value.int .i64 (0 : Int)), (Value.slice none 0 0), (Value.slice none 0 0)], (Ty.sl (Ty.i .i64)).at u28 x26.1, (Ty.sl (Ty.sl (Ty.sl (Ty.i .i64)))).at u30 x26.2.2] := hS34
    refine WL.val (Value.agg #[u28, (Value.int .i64 x26.2.1), u30, (Value.slice none 0 0)]) _ (op_build bd_36 (parts := [(0, (Value.agg #[u28, (Value.int .i64 x26.2.1), u30]), [u28, (Value.int .i64 x26.2.1), u30])]) (partsL ⟨rfl, rfl, trivial⟩) ⟨rfl, trivial⟩ rfl) rfl ?_
    refine WL.alloc hS34 ze_36 (cs := [(Value.slice none 0 0), (Value.int .i64 (0 : Int)), (Value.slice none 0 0), (Value.slice none 0 0)]) rfl rfl ?_
    intro b35 wd36 hS37 he38
    replace hS37 : St wd2 wd36 [bx b9 [(Value.slice none 0 0), (Value.int .i64 (0 : Int)), (Value.slice none 0 0), (Value.slice none 0 0)], (Ty.sl (Ty.i .i64)).at u28 x26.1, (Ty.sl (Ty.sl (Ty.sl (Ty.i .i64)))).at u30 x26.2.2, bx b35 [(Value.slice none 0 0), (Value.int .i64 (0 : Int)), (Value.slice none 0 0), (Value.slice none 0 0)]] := hS37
    have hS41 := St.addNil (Ty.sl (Ty.i .i64)) hS37
    replace hS41 : St wd2 wd36 [bx b9 [(Value.slice none 0 0), (Value.int .i64 (0 : Int)), (Value.slice none 0 0), (Value.slice none 0 0)], (Ty.sl (Ty.i .i64)).at u28 x26.1, (Ty.sl (Ty.sl (Ty.sl (Ty.i .i64)))).at u30 x26.2.2, bx b35 [(Value.slice none 0 0), (Value.int .i64 (0 : Int)), (Value.slice none 0 0), (Value.slice none 0 0)], (Ty.sl (Ty.sl (Ty.i .i64))).at (Value.slice none 0 0) ([] : (List (List Int)))] := hS41
    refine WL.storeBox [u28, (Value.int .i64 x26.2.1), u30, (Value.slice none 0 0)] hS41 (k := 3) rfl rfl rfl (us := [u28, (Value.int .i64 x26.2.1), u30, (Value.slice none 0 0)]) rfl sz_36 rfl rfl (all_rep (St.rep (t := (Ty.sl (Ty.i .i64))) hS41 1 rfl) (all_cons rfl (all_rep (St.rep (t := (Ty.sl (Ty.sl (Ty.sl (Ty.i .i64))))) hS41 2 rfl) (all_rep (St.rep (t := (Ty.sl (Ty.sl (Ty.i .i64)))) hS41 4 rfl) all_nil)))) rfl ?_
    intro wd39 hS40
    replace hS40 : St wd2 wd39 [bx b9 [(Value.slice none 0 0), (Value.int .i64 (0 : Int)), (Value.slice none 0 0), (Value.slice none 0 0)], (Ty.sl (Ty.i .i64)).at u28 x26.1, (Ty.sl (Ty.sl (Ty.sl (Ty.i .i64)))).at u30 x26.2.2, bx b35 [u28, (Value.int .i64 x26.2.1), u30, (Value.slice none 0 0)], (Ty.sl (Ty.sl (Ty.i .i64))).at (Value.slice none 0 0) ([] : (List (List Int)))] := hS40
    refine WL.nil ?_
    refine W.seq (W.seq (W.region ?_))
    refine WL.val (Value.int .i64 (0 : Int)) _ (op_assign rfl) rfl ?_
    refine WL.nil ?_
    show W _ _ _ _ _ _
    obtain ⟨res42, hres43, h⟩ := bs h
    refine W.blockLoop (fun fq wq => ∃ s, res42 = Res.fin s ∧ ∃ (uu0 : Value), fq 2 = (Value.pointer (some ⟨b9, 0, none⟩)) ∧ fq 4 = (Value.pointer (some ⟨b35, 0, none⟩)) ∧ St wd2 wq [bx b9 [(Value.slice none 0 0), (Value.int .i64 (0 : Int)), (Value.slice none 0 0), (Value.slice none 0 0)], (Ty.sl (Ty.i .i64)).at u28 x26.1, (Ty.sl (Ty.sl (Ty.sl (Ty.i .i64)))).at u30 x26.2.2, bx b35 [u28, (Value.int .i64 x26.2.1), u30, uu0], (Ty.sl (Ty.sl (Ty.i .i64))).at uu0 s]) ?_ ?_
    · refine W.forN (fun k (s : (List (List Int))) fq wq => ∃ (uu0 : Value), fq 1 = (Value.pointer (some ⟨b1, 0, none⟩)) ∧ fq 2 = (Value.pointer (some ⟨b9, 0, none⟩)) ∧ fq 4 = (Value.pointer (some ⟨b35, 0, none⟩)) ∧ fq 5 = Value.int .i64 (k : Int) ∧ InR .i64 (k : Int) ∧ St wd2 wq [bx b9 [(Value.slice none 0 0), (Value.int .i64 (0 : Int)), (Value.slice none 0 0), (Value.slice none 0 0)], (Ty.sl (Ty.i .i64)).at u28 x26.1, (Ty.sl (Ty.sl (Ty.sl (Ty.i .i64)))).at u30 x26.2.2, bx b35 [u28, (Value.int .i64 x26.2.1), u30, uu0], (Ty.sl (Ty.sl (Ty.i .i64))).at uu0 s]) hres43 ⟨(Value.slice none 0 0), rfl, rfl, rfl, rfl, (inL rfl), hS40⟩ ?_ ?_
      · intro k44 x45 ct46 f47 wd48 hk49 hb50 hI51 hbrk52 hret53
        replace hI51 : ∃ (uu0 : Value), f47 1 = (Value.pointer (some ⟨b1, 0, none⟩)) ∧ f47 2 = (Value.pointer (some ⟨b9, 0, none⟩)) ∧ f47 4 = (Value.pointer (some ⟨b35, 0, none⟩)) ∧ f47 5 = Value.int .i64 (k44 : Int) ∧ InR .i64 (k44 : Int) ∧ St wd2 wd48 [bx b9 [(Value.slice none 0 0), (Value.int .i64 (0 : Int)), (Value.slice none 0 0), (Value.slice none 0 0)], (Ty.sl (Ty.i .i64)).at u28 x26.1, (Ty.sl (Ty.sl (Ty.sl (Ty.i .i64)))).at u30 x26.2.2, bx b35 [u28, (Value.int .i64 x26.2.1), u30, uu0], (Ty.sl (Ty.sl (Ty.i .i64))).at uu0 x45] := hI51
        replace hb50 : p_spec_ReverseBraiding_L1 b_Values b_Cocycle_Modulus k44 x45 = some ct46 := hb50
        unfold p_spec_ReverseBraiding_L1 at hb50
        obtain ⟨u54, hf55, hf56, hf57, hf58, hr59, hS60⟩ := hI51
        refine W.seq (W.seq (W.region ?_))
        refine WL.val (Value.int .i64 (k44 : Int)) _ (op_move hf58) rfl ?_
        refine WL.val (Value.pointer (some ⟨b1, 3, none⟩)) _ (op_fieldAddr fd_36_1 hf55) rfl ?_
        refine WL.val v_b_Values _ (op_load one_26 rfl (BoxAt.cell (BoxAt.lift hS60.ext hx6) rfl)) rfl ?_
        have hr61 := inR_len (Ty.lift _ (Ext.trans hE7 hS60.ext) r_b_Values)
        refine WL.val (Value.int .i64 ((b_Values).length : Int)) _ (op_lenL sl_26 (Ty.lift _ (Ext.trans hE7 hS60.ext) r_b_Values) rfl) rfl ?_
        refine WL.val (Value.bool (decide ((k44 : Int) < ((b_Values).length : Int)))) _ (op_lss rfl rfl) rfl ?_
        have hl62 : (k44 : Int) < ((b_Values).length : Int) := by omega
        refine WL.nil ?_
        refine W.condT (decide ((k44 : Int) < ((b_Values).length : Int))) rfl (decide_eq_true hl62) ?_
        refine W.skip ?_
        refine W.seq ?_
        refine W.block ?_
        refine W.seq (W.region ?_)
        refine WL.lit0 (t := (Ty.i .i64)) hS60 sl_22 rfl rfl ?_
        intro u64 wd65 hS66 he67
        replace hS66 : St wd2 wd65 [bx b9 [(Value.slice none 0 0), (Value.int .i64 (0 : Int)), (Value.slice none 0 0), (Value.slice none 0 0)], (Ty.sl (Ty.i .i64)).at u28 x26.1, (Ty.sl (Ty.sl (Ty.sl (Ty.i .i64)))).at u30 x26.2.2, bx b35 [u28, (Value.int .i64 x26.2.1), u30, u54], (Ty.sl (Ty.sl (Ty.i .i64))).at u54 x45, (Ty.sl (Ty.i .i64)).at u64 ([] : (List Int))] := hS66
        refine WL.val u64 _ (op_assign rfl) rfl ?_
        refine WL.nil ?_
        refine W.seq (W.seq (W.region ?_))
        refine WL.val (Value.int .i64 (0 : Int)) _ (op_assign rfl) rfl ?_
        refine WL.nil ?_
        show W _ _ _ _ _ _
        obtain ⟨res68, hres69, hb50⟩ := bs hb50
        refine W.blockLoop (fun fq wq => ∃ s, res68 = Res.fin s ∧ ∃ (uu0 : Value), fq 1 = (Value.pointer (some ⟨b1, 0, none⟩)) ∧ fq 2 = (Value.pointer (some ⟨b9, 0, none⟩)) ∧ fq 4 = (Value.pointer (some ⟨b35, 0, none⟩)) ∧ fq 5 = (Value.int .i64 (k44 : Int)) ∧ fq 6 = uu0 ∧ St wd2 wq [bx b9 [(Value.slice none 0 0), (Value.int .i64 (0 : Int)), (Value.slice none 0 0), (Value.slice none 0 0)], (Ty.sl (Ty.i .i64)).at u28 x26.1, (Ty.sl (Ty.sl (Ty.sl (Ty.i .i64)))).at u30 x26.2.2, bx b35 [u28, (Value.int .i64 x26.2.1), u30, u54], (Ty.sl (Ty.sl (Ty.i .i64))).at u54 x45, (Ty.sl (Ty.i .i64)).at uu0 s]) ?_ ?_
        · refine W.forN (fun k (s : (List Int)) fq wq => ∃ (uu0 : Value), fq 1 = (Value.pointer (some ⟨b1, 0, none⟩)) ∧ fq 2 = (Value.pointer (some ⟨b9, 0, none⟩)) ∧ fq 4 = (Value.pointer (some ⟨b35, 0, none⟩)) ∧ fq 5 = (Value.int .i64 (k44 : Int)) ∧ fq 6 = uu0 ∧ fq 7 = Value.int .i64 (k : Int) ∧ InR .i64 (k : Int) ∧ St wd2 wq [bx b9 [(Value.slice none 0 0), (Value.int .i64 (0 : Int)), (Value.slice none 0 0), (Value.slice none 0 0)], (Ty.sl (Ty.i .i64)).at u28 x26.1, (Ty.sl (Ty.sl (Ty.sl (Ty.i .i64)))).at u30 x26.2.2, bx b35 [u28, (Value.int .i64 x26.2.1), u30, u54], (Ty.sl (Ty.sl (Ty.i .i64))).at u54 x45, (Ty.sl (Ty.i .i64)).at uu0 s]) hres69 ⟨u64, hf55, hf56, hf57, hf58, rfl, rfl, (inL rfl), hS66⟩ ?_ ?_
          · intro k70 x71 ct72 f73 wd74 hk75 hb76 hI77 hbrk78 hret79
            replace hI77 : ∃ (uu0 : Value), f73 1 = (Value.pointer (some ⟨b1, 0, none⟩)) ∧ f73 2 = (Value.pointer (some ⟨b9, 0, none⟩)) ∧ f73 4 = (Value.pointer (some ⟨b35, 0, none⟩)) ∧ f73 5 = (Value.int .i64 (k44 : Int)) ∧ f73 6 = uu0 ∧ f73 7 = Value.int .i64 (k70 : Int) ∧ InR .i64 (k70 : Int) ∧ St wd2 wd74 [bx b9 [(Value.slice none 0 0), (Value.int .i64 (0 : Int)), (Value.slice none 0 0), (Value.slice none 0 0)], (Ty.sl (Ty.i .i64)).at u28 x26.1, (Ty.sl (Ty.sl (Ty.sl (Ty.i .i64)))).at u30 x26.2.2, bx b35 [u28, (Value.int .i64 x26.2.1), u30, u54], (Ty.sl (Ty.sl (Ty.i .i64))).at u54 x45, (Ty.sl (Ty.i .i64)).at uu0 x71] := hI77
            replace hb76 : p_spec_ReverseBraiding_L2 b_Values k44 b_Cocycle_Modulus k70 x71 = some ct72 := hb76
            unfold p_spec_ReverseBraiding_L2 at hb76
            obtain ⟨u80, hf81, hf82, hf83, hf84, hf85, hf86, hr87, hS88⟩ := hI77
            refine W.seq (W.seq (W.region ?_))
            refine WL.val (Value.int .i64 (k70 : Int)) _ (op_move hf86) rfl ?_
            refine WL.val (Value.pointer (some ⟨b1, 3, none⟩)) _ (op_fieldAddr fd_36_1 hf81) rfl ?_
            refine WL.val v_b_Values _ (op_load one_26 rfl (BoxAt.cell (BoxAt.lift hS88.ext hx6) rfl)) rfl ?_
            have hr89 := inR_len (Ty.lift _ (Ext.trans hE7 hS88.ext) r_b_Values)
            refine WL.val (Value.int .i64 ((b_Values).length : Int)) _ (op_lenL sl_26 (Ty.lift _ (Ext.trans hE7 hS88.ext) r_b_Values) rfl) rfl ?_
            refine WL.val (Value.bool (decide ((k70 : Int) < ((b_Values).length : Int)))) _ (op_lss rfl rfl) rfl ?_
            have hl90 : (k70 : Int) < ((b_Values).length : Int) := by omega
            refine WL.nil ?_
            refine W.condT (decide ((k70 : Int) < ((b_Values).length : Int))) rfl (decide_eq_true hl90) ?_
            refine W.skip ?_
            refine W.seq ?_
            refine W.block ?_
            obtain ⟨x138, hx141, hb76⟩ := bs hb76
            obtain ⟨ha139, hb140, hx141⟩ := idx_some hx141
            obtain ⟨u152, hc153, hr154⟩ := repSl.el r_b_Values hx141
            obtain ⟨x177, hx180, hb76⟩ := bs hb76
            obtain ⟨ha178, hb179, hx180⟩ := idx_some hx180
            obtain ⟨u191, hc192, hr193⟩ := repSl.el hr154 hx180
            obtain ⟨rfl, hr193⟩ := hr193
            obtain ⟨x248, hx249, hb76⟩ := bs hb76
            refine W.drawR mixo 15 [] [fun _ v _ _ => v = u80, fun _ v _ _ => v = (Value.pointer (some ⟨b1, 3, none⟩)), fun _ v _ _ => v = v_b_Values, fun _ v _ _ => v = (Value.int .i64 (k70 : Int)) ∧ InR .i64 (k70 : Int), fun _ v _ _ => v = (Value.pointer (some (elA v_b_Values ((k70 : Int)).toNat))), fun _ v _ _ => v = u152, fun _ v _ _ => v = (Value.int .i64 (k44 : Int)) ∧ InR .i64 (k44 : Int), fun _ v _ _ => v = (Value.pointer (some (elA u152 ((k44 : Int)).toNat))), fun _ v _ _ => v = (Value.int .i64 x177) ∧ InR .i64 x177, fun _ v _ _ => v = (Value.int .i64 (w64 (0 - x177))) ∧ InR .i64 (w64 (0 - x177)), fun _ v _ _ => v = (Value.pointer (some ⟨b1, 0, none⟩)), fun _ v _ _ => v = (Value.pointer (some ⟨b1, 1, none⟩)), fun _ v _ _ => v = (Value.int .i64 b_Cocycle_Modulus) ∧ InR .i64 b_Cocycle_Modulus, fun _ v _ _ => v = (Value.int .i64 x248) ∧ InR .i64 x248, fun _ v S w' => SepS S w' [(Ty.sl (Ty.i .i64)).at v ([x248] : (List Int))]] (by kernel_rfl) (by kernel_rfl) ⟨pk, pk, pk, pk, pk, pk, pk, pk, pk, pk, pk, pk, pk, pk, ⟨fun _ _ _ _ _ he h => SepS.extend he h, fun _ _ _ _ _ _ h => h⟩, trivial⟩ ⟨?_, ?_, ?_, ?_, ?_, ?_, ?_, ?_, ?_, ?_, ?_, ?_, ?_, ?_, ?_, trivial⟩ ?_
            · refine ObX.op rfl fun f92 wd93 he94 hout95 hphi96 => ?_
              have e98 : f92 6 = u80 := (hout95 6 rfl).trans hf85
              exact OpX.val u80 wd93 rfl (op_move e98) (Ext.refl _) rfl
            · refine ObX.op rfl fun f99 wd100 he101 hout102 hphi103 => ?_
              have e105 : f99 1 = (Value.pointer (some ⟨b1, 0, none⟩)) := (hout102 1 rfl).trans hf81
              exact OpX.val (Value.pointer (some ⟨b1, 3, none⟩)) wd100 rfl (op_fieldAddr fd_36_1 e105) (Ext.refl _) rfl
            · refine ObX.op rfl fun f106 wd107 he108 hout109 hphi110 => ?_
              have hS111 := St.extend hS88 he108
              obtain ⟨S112, hS113, hf114⟩ := hphi110 1 32 _ rfl rfl rfl
              have e115 : f106 32 = (Value.pointer (some ⟨b1, 3, none⟩)) := hf114
              exact OpX.val v_b_Values wd107 rfl (op_load one_26 e115 (BoxAt.cell (BoxAt.lift hS111.ext hx6) rfl)) (Ext.refl _) rfl
            · refine ObX.op rfl fun f116 wd117 he118 hout119 hphi120 => ?_
              have e122 : f116 7 = (Value.int .i64 (k70 : Int)) := (hout119 7 rfl).trans hf86
              exact OpX.val (Value.int .i64 (k70 : Int)) wd117 rfl (op_move e122) (Ext.refl _) ⟨rfl, hr87⟩
            · refine ObX.op rfl fun f123 wd124 he125 hout126 hphi127 => ?_
              have hS128 := St.extend hS88 he125
              obtain ⟨S129, hS130, hf131⟩ := hphi127 2 33 _ rfl rfl rfl
              have e132 : f123 33 = v_b_Values := hf131
              obtain ⟨S133, hS134, hf135⟩ := hphi127 3 34 _ rfl rfl rfl
              obtain ⟨e136, hr137⟩ := hf135
              exact OpX.val (Value.pointer (some (elA v_b_Values ((k70 : Int)).toNat))) wd124 rfl (op_idx sl_26 (Ty.lift _ (Ext.trans hE7 hS128.ext) r_b_Values) e132 e136 ha139 hb140) (Ext.refl _) rfl
            · refine ObX.op rfl fun f142 wd143 he144 hout145 hphi146 => ?_
              have hS147 := St.extend hS88 he144
              obtain ⟨S148, hS149, hf150⟩ := hphi146 4 35 _ rfl rfl rfl
              have e151 : f142 35 = (Value.pointer (some (elA v_b_Values ((k70 : Int)).toNat))) := hf150
              exact OpX.val u152 wd143 rfl (op_load one_22 e151 (Ext.cell (Ext.trans hE7 hS147.ext) hc153)) (Ext.refl _) rfl
            · refine ObX.op rfl fun f155 wd156 he157 hout158 hphi159 => ?_
              have e161 : f155 5 = (Value.int .i64 (k44 : Int)) := (hout158 5 rfl).trans hf84
              exact OpX.val (Value.int .i64 (k44 : Int)) wd156 rfl (op_move e161) (Ext.refl _) ⟨rfl, hr59⟩
            · refine ObX.op rfl fun f162 wd163 he164 hout165 hphi166 => ?_
              have hS167 := St.extend hS88 he164
              obtain ⟨S168, hS169, hf170⟩ := hphi166 5 36 _ rfl rfl rfl
              have e171 : f162 36 = u152 := hf170
              obtain ⟨S172, hS173, hf174⟩ := hphi166 6 37 _ rfl rfl rfl
              obtain ⟨e175, hr176⟩ := hf174
              exact OpX.val (Value.pointer (some (elA u152 ((k44 : Int)).toNat))) wd163 rfl (op_idx sl_22 (Ty.lift _ (Ext.trans hE7 hS167.ext) hr154) e171 e175 ha178 hb179) (Ext.refl _) rfl
            · refine ObX.op rfl fun f181 wd182 he183 hout184 hphi185 => ?_
              have hS186 := St.extend hS88 he183
              obtain ⟨S187, hS188, hf189⟩ := hphi185 7 38 _ rfl rfl rfl
              have e190 : f181 38 = (Value.pointer (some (elA u152 ((k44 : Int)).toNat))) := hf189
              exact OpX.val (Value.int .i64 x177) wd182 rfl (op_load one_2 e190 (Ext.cell (Ext.trans hE7 hS186.ext) hc192)) (Ext.refl _) ⟨rfl, hr193⟩
            · refine ObX.op rfl fun f194 wd195 he196 hout197 hphi198 => ?_
              obtain ⟨S200, hS201, hf202⟩ := hphi198 8 39 _ rfl rfl rfl
              obtain ⟨e203, hr204⟩ := hf202
              exact OpX.val (Value.int .i64 (w64 (0 - x177))) wd195 rfl (op_neg e203) (Ext.refl _) ⟨rfl, (inR_wrap _ _)⟩
            · refine ObX.op rfl fun f205 wd206 he207 hout208 hphi209 => ?_
              have e211 : f205 1 = (Value.pointer (some ⟨b1, 0, none⟩)) := (hout208 1 rfl).trans hf81
              exact OpX.val (Value.pointer (some ⟨b1, 0, none⟩)) wd206 rfl (op_fieldAddr fd_36_0 e211) (Ext.refl _) rfl
            · refine ObX.op rfl fun f212 wd213 he214 hout215 hphi216 => ?_
              obtain ⟨S218, hS219, hf220⟩ := hphi216 10 41 _ rfl rfl rfl
              have e221 : f212 41 = (Value.pointer (some ⟨b1, 0, none⟩)) := hf220
              exact OpX.val (Value.pointer (some ⟨b1, 1, none⟩)) wd213 rfl (op_fieldAddr fd_34_1 e221) (Ext.refl _) rfl
            · refine ObX.op rfl fun f222 wd223 he224 hout225 hphi226 => ?_
              have hS227 := St.extend hS88 he224
              obtain ⟨S228, hS229, hf230⟩ := hphi226 11 42 _ rfl rfl rfl
              have e231 : f222 42 = (Value.pointer (some ⟨b1, 1, none⟩)) := hf230
              exact OpX.val (Value.int .i64 b_Cocycle_Modulus) wd223 rfl (op_load one_2 e231 (BoxAt.cell (BoxAt.lift hS227.ext hx6) rfl)) (Ext.refl _) ⟨rfl, r_b_Cocycle_Modulus⟩
            · refine ObX.op rfl fun f232 wd233 he234 hout235 hphi236 => ?_
              obtain ⟨S238, hS239, hf240⟩ := hphi236 9 40 _ rfl rfl rfl
              obtain ⟨e241, hr242⟩ := hf240
              obtain ⟨S243, hS244, hf245⟩ := hphi236 12 43 _ rfl rfl rfl
              obtain ⟨e246, hr247⟩ := hf245
              refine OpX.call rfl (op_call fn_60 (args2 e241 e246)) (Ret.mono (c_spec_l18Mod hr242 hr247 hx249) ?_)
              rintro _ wd251 ⟨rfl, hr250, he252⟩
              exact ⟨he252, _, noS _ _, ⟨rfl, hr250⟩⟩
            · refine ObX.op rfl fun f254 wd255 he256 hout257 hphi258 => ?_
              obtain ⟨S260, hS261, hf262⟩ := hphi258 13 44 _ rfl rfl rfl
              obtain ⟨e263, hr264⟩ := hf262
              obtain ⟨v265, wd266, ho267, he268, hs269⟩ := mk_litFlat (P := Try.prog) (f := f254) (w := wd255) (T := 22) (m := 1) (ps := #[(0, Operand.tmp 44)]) (us := [(Value.int .i64 x248)]) (t := (Ty.i .i64)) (flat_i .i64) ([x248] : (List Int)) sl_22 rfl (Nat.le_of_ble_eq_true rfl) (fillL rfl ⟨rfl, e263, rfl, trivial⟩) rfl rfl (litL ⟨⟨rfl, hr264⟩, trivial⟩)
              exact OpX.valO v265 wd266 rfl ho267 he268 (Sep.new hs269)
            · intro f270 wd271 Ss272 he273 hout274 hSn275 hSd276 hphi277
              show WL _ _ _ _ _ _ _
              have e279 : f270 31 = u80 := hphi277 0 31 _ (by decide) rfl rfl
              have e280 : SepS (Ss272 14) wd271 [(Ty.sl (Ty.i .i64)).at (f270 45) ([x248] : (List Int))] := hphi277 14 45 _ (by decide) rfl rfl
              have e281 : f270 1 = (Value.pointer (some ⟨b1, 0, none⟩)) := (hout274 1 rfl).trans hf81
              have e282 : f270 2 = (Value.pointer (some ⟨b9, 0, none⟩)) := (hout274 2 rfl).trans hf82
              have e283 : f270 4 = (Value.pointer (some ⟨b35, 0, none⟩)) := (hout274 4 rfl).trans hf83
              have e284 : f270 5 = (Value.int .i64 (k44 : Int)) := (hout274 5 rfl).trans hf84
              have e285 : f270 7 = (Value.int .i64 (k70 : Int)) := (hout274 7 rfl).trans hf86
              have hS286 := St.joinS hS88 he273 hSn275 (SepS.consS hSd276 rfl e280 SepS.nilS)
              replace hS286 : St wd2 wd271 [bx b9 [(Value.slice none 0 0), (Value.int .i64 (0 : Int)), (Value.slice none 0 0), (Value.slice none 0 0)], (Ty.sl (Ty.i .i64)).at u28 x26.1, (Ty.sl (Ty.sl (Ty.sl (Ty.i .i64)))).at u30 x26.2.2, bx b35 [u28, (Value.int .i64 x26.2.1), u30, u54], (Ty.sl (Ty.sl (Ty.i .i64))).at u54 x45, (Ty.sl (Ty.i .i64)).at u80 x71, (Ty.sl (Ty.i .i64)).at (f270 45) ([x248] : (List Int))] := hS286
              obtain ⟨x287, hx288, hb76⟩ := bs hb76
              refine WL.append (flat_i .i64) hS286 (k := 5) rfl sl_22 rfl rfl e279 rfl (St.rep (t := (Ty.sl (Ty.i .i64))) hS286 6 rfl) hx288 rfl ?_
              intro u289 wd290 hS291 hz292
              replace hS291 : St wd2 wd290 [bx b9 [(Value.slice none 0 0), (Value.int .i64 (0 : Int)), (Value.slice none 0 0), (Value.slice none 0 0)], (Ty.sl (Ty.i .i64)).at u28 x26.1, (Ty.sl (Ty.sl (Ty.sl (Ty.i .i64)))).at u30 x26.2.2, bx b35 [u28, (Value.int .i64 x26.2.1), u30, u54], (Ty.sl (Ty.sl (Ty.i .i64))).at u54 x45, (Ty.sl (Ty.i .i64)).at u289 x287, (Ty.sl (Ty.i .i64)).at (f270 45) ([x248] : (List Int))] := hS291
              refine WL.val u289 _ (op_assign rfl) rfl ?_
              refine WL.nil ?_
              show W _ _ _ _ _ _
              refine W.region ?_
              refine WL.val (Value.int .i64 (k70 : Int)) _ (op_move e285) rfl ?_
              refine WL.val (Value.int .i64 (w64 ((k70 : Int) + (1 : Int)))) _ (op_add rfl rfl) rfl ?_
              refine WL.val (Value.int .i64 (w64 ((k70 : Int) + (1 : Int)))) _ (op_assign rfl) rfl ?_
              refine WL.nil ?_
              obtain rfl := Option.some.inj hb76
              show ∃ s, _ = Ctl.next s ∧ _
              exact ⟨_, rfl, u289, e281, e282, e283, e284, rfl, (ctr_next hl90 hr89), (ctr_rng hl90 hr89), (St.pick hS291 [0, 1, 2, 3, 4, 5] rfl)⟩
          · intro x299 f294 wd295 hs296 hI297
            replace hI297 : ∃ (uu0 : Value), f294 1 = (Value.pointer (some ⟨b1, 0, none⟩)) ∧ f294 2 = (Value.pointer (some ⟨b9, 0, none⟩)) ∧ f294 4 = (Value.pointer (some ⟨b35, 0, none⟩)) ∧ f294 5 = (Value.int .i64 (k44 : Int)) ∧ f294 6 = uu0 ∧ f294 7 = Value.int .i64 (((b_Values).length : Nat) : Int) ∧ InR .i64 (((b_Values).length : Nat) : Int) ∧ St wd2 wd295 [bx b9 [(Value.slice none 0 0), (Value.int .i64 (0 : Int)), (Value.slice none 0 0), (Value.slice none 0 0)], (Ty.sl (Ty.i .i64)).at u28 x26.1, (Ty.sl (Ty.sl (Ty.sl (Ty.i .i64)))).at u30 x26.2.2, bx b35 [u28, (Value.int .i64 x26.2.1), u30, u54], (Ty.sl (Ty.sl (Ty.i .i64))).at u54 x45, (Ty.sl (Ty.i .i64)).at uu0 x299] := hI297
            obtain ⟨u300, hf301, hf302, hf303, hf304, hf305, hf306, hr307, hS308⟩ := hI297
            refine W.seq (W.seq (W.region ?_))
            refine WL.val (Value.int .i64 (((b_Values).length : Nat) : Int)) _ (op_move hf306) rfl ?_
            refine WL.val (Value.pointer (some ⟨b1, 3, none⟩)) _ (op_fieldAddr fd_36_1 hf301) rfl ?_
            refine WL.val v_b_Values _ (op_load one_26 rfl (BoxAt.cell (BoxAt.lift hS308.ext hx6) rfl)) rfl ?_
            have hr309 := inR_len (Ty.lift _ (Ext.trans hE7 hS308.ext) r_b_Values)
            refine WL.val (Value.int .i64 ((b_Values).length : Int)) _ (op_lenL sl_26 (Ty.lift _ (Ext.trans hE7 hS308.ext) r_b_Values) rfl) rfl ?_
            refine WL.val (Value.bool (decide ((((b_Values).length : Nat) : Int) < ((b_Values).length : Int)))) _ (op_lss rfl rfl) rfl ?_
            have hl310 : ¬ (((b_Values).length : Nat) : Int) < ((b_Values).length : Int) := by omega
            refine WL.nil ?_
            refine W.condF (decide ((((b_Values).length : Nat) : Int) < ((b_Values).length : Int))) rfl (decide_eq_false hl310) ?_
            refine W.exit ?_
            show _ = _ ∧ _
            exact ⟨rfl, _, hs296, u300, hf301, hf302, hf303, hf304, hf305, hS308⟩
        · rintro f311 wd312 ⟨x315, rfl, hq313⟩
          replace hb50 := onRes_fin hb50
          replace hq313 : ∃ (uu0 : Value), f311 1 = (Value.pointer (some ⟨b1, 0, none⟩)) ∧ f311 2 = (Value.pointer (some ⟨b9, 0, none⟩)) ∧ f311 4 = (Value.pointer (some ⟨b35, 0, none⟩)) ∧ f311 5 = (Value.int .i64 (k44 : Int)) ∧ f311 6 = uu0 ∧ St wd2 wd312 [bx b9 [(Value.slice none 0 0), (Value.int .i64 (0 : Int)), (Value.slice none 0 0), (Value.slice none 0 0)], (Ty.sl (Ty.i .i64)).at u28 x26.1, (Ty.sl (Ty.sl (Ty.sl (Ty.i .i64)))).at u30 x26.2.2, bx b35 [u28, (Value.int .i64 x26.2.1), u30, u54], (Ty.sl (Ty.sl (Ty.i .i64))).at u54 x45, (Ty.sl (Ty.i .i64)).at uu0 x315] := hq313
          obtain ⟨u316, hf317, hf318, hf319, hf320, hf321, hS322⟩ := hq313
          show W _ _ _ _ _ _
          refine W.region ?_
          refine WL.val (Value.pointer (some ⟨b35, 3, none⟩)) _ (op_fieldAddr fd_36_1 hf319) rfl ?_
          refine WL.val u54 _ (op_load one_26 rfl (BoxAt.cell (St.boxAt hS322 3 rfl) rfl)) rfl ?_
          refine WL.val u316 _ (op_move hf321) rfl ?_
          refine WL.lit [u316] hS322 sl_26 rfl rfl (fillL rfl ⟨rfl, rfl, (cells_rep (St.rep (t := (Ty.sl (Ty.i .i64))) hS322 5 rfl)), trivial⟩) rfl rfl ?_
          intro b327 wd324 hS325 he326 hx328
          replace hS325 : St wd2 wd324 [bx b9 [(Value.slice none 0 0), (Value.int .i64 (0 : Int)), (Value.slice none 0 0), (Value.slice none 0 0)], (Ty.sl (Ty.i .i64)).at u28 x26.1, (Ty.sl (Ty.sl (Ty.sl (Ty.i .i64)))).at u30 x26.2.2, bx b35 [u28, (Value.int .i64 x26.2.1), u30, u54], (Ty.sl (Ty.sl (Ty.i .i64))).at u54 x45, (Ty.sl (Ty.i .i64)).at u316 x315, bx b327 [u316]] := hS325
          obtain ⟨x329, hx330, hb50⟩ := bs hb50
          refine WL.appendRow hS325 (k := 4) (k2 := 5) (k3 := 6) rfl rfl rfl rfl sl_26 rfl rfl rfl rfl hx330 rfl ?_
          intro u331 wd332 hS333 hz334
          replace hS333 : St wd2 wd332 [bx b9 [(Value.slice none 0 0), (Value.int .i64 (0 : Int)), (Value.slice none 0 0), (Value.slice none 0 0)], (Ty.sl (Ty.i .i64)).at u28 x26.1, (Ty.sl (Ty.sl (Ty.sl (Ty.i .i64)))).at u30 x26.2.2, bx b35 [u28, (Value.int .i64 x26.2.1), u30, u54], (Ty.sl (Ty.sl (Ty.i .i64))).at u331 x329, emp, bx b327 [u316]] := hS333
          refine WL.val (Value.pointer (some ⟨b35, 3, none⟩)) _ (op_fieldAddr fd_36_1 hf319) rfl ?_
          refine WL.storeBox [u28, (Value.int .i64 x26.2.1), u30, u331] hS333 (k := 3) rfl rfl rfl (us := [u331]) (cells_rep (St.rep (t := (Ty.sl (Ty.sl (Ty.i .i64)))) hS333 4 rfl)) sz_26 rfl rfl (all_rep (St.rep (t := (Ty.sl (Ty.sl (Ty.i .i64)))) hS333 4 rfl) all_nil) rfl ?_
          intro wd335 hS336
          replace hS336 : St wd2 wd335 [bx b9 [(Value.slice none 0 0), (Value.int .i64 (0 : Int)), (Value.slice none 0 0), (Value.slice none 0 0)], (Ty.sl (Ty.i .i64)).at u28 x26.1, (Ty.sl (Ty.sl (Ty.sl (Ty.i .i64)))).at u30 x26.2.2, bx b35 [u28, (Value.int .i64 x26.2.1), u30, u331], (Ty.sl (Ty.sl (Ty.i .i64))).at u331 x329, emp, bx b327 [u316]] := hS336
          refine WL.nil ?_
          show W _ _ _ _ _ _
          refine W.region ?_
          refine WL.val (Value.int .i64 (k44 : Int)) _ (op_move hf320) rfl ?_
          refine WL.val (Value.int .i64 (w64 ((k44 : Int) + (1 : Int)))) _ (op_add rfl rfl) rfl ?_
          refine WL.val (Value.int .i64 (w64 ((k44 : Int) + (1 : Int)))) _ (op_assign rfl) rfl ?_
          refine WL.nil ?_
          obtain rfl := Option.some.inj hb50
          show ∃ s, _ = Ctl.next s ∧ _
          exact ⟨_, rfl, u331, hf317, hf318, hf319, (ctr_next hl62 hr61), (ctr_rng hl62 hr61), (St.pick hS336 [0, 1, 2, 3, 4] rfl)⟩
      · intro x344 f339 wd340 hs341 hI342
        replace hI342 : ∃ (uu0 : Value), f339 1 = (Value.pointer (some ⟨b1, 0, none⟩)) ∧ f339 2 = (Value.pointer (some ⟨b9, 0, none⟩)) ∧ f339 4 = (Value.pointer (some ⟨b35, 0, none⟩)) ∧ f339 5 = Value.int .i64 (((b_Values).length : Nat) : Int) ∧ InR .i64 (((b_Values).length : Nat) : Int) ∧ St wd2 wd340 [bx b9 [(Value.slice none 0 0), (Value.int .i64 (0 : Int)), (Value.slice none 0 0), (Value.slice none 0 0)], (Ty.sl (Ty.i .i64)).at u28 x26.1, (Ty.sl (Ty.sl (Ty.sl (Ty.i .i64)))).at u30 x26.2.2, bx b35 [u28, (Value.int .i64 x26.2.1), u30, uu0], (Ty.sl (Ty.sl (Ty.i .i64))).at uu0 x344] := hI342
        obtain ⟨u345, hf346, hf347, hf348, hf349, hr350, hS351⟩ := hI342
        refine W.seq (W.seq (W.region ?_))
        refine WL.val (Value.int .i64 (((b_Values).length : Nat) : Int)) _ (op_move hf349) rfl ?_
        refine WL.val (Value.pointer (some ⟨b1, 3, none⟩)) _ (op_fieldAddr fd_36_1 hf346) rfl ?_
        refine WL.val v_b_Values _ (op_load one_26 rfl (BoxAt.cell (BoxAt.lift hS351.ext hx6) rfl)) rfl ?_
        have hr352 := inR_len (Ty.lift _ (Ext.trans hE7 hS351.ext) r_b_Values)
        refine WL.val (Value.int .i64 ((b_Values).length : Int)) _ (op_lenL sl_26 (Ty.lift _ (Ext.trans hE7 hS351.ext) r_b_Values) rfl) rfl ?_
        refine WL.val (Value.bool (decide ((((b_Values).length : Nat) : Int) < ((b_Values).length : Int)))) _ (op_lss rfl rfl) rfl ?_
        have hl353 : ¬ (((b_Values).length : Nat) : Int) < ((b_Values).length : Int) := by omega
        refine WL.nil ?_
        refine W.condF (decide ((((b_Values).length : Nat) : Int) < ((b_Values).length : Int))) rfl (decide_eq_false hl353) ?_
        refine W.exit ?_
        show _ = _ ∧ _
        exact ⟨rfl, _, hs341, u345, hf347, hf348, hS351⟩
    · rintro f354 wd355 ⟨x358, rfl, hq356⟩
      replace h := onRes_fin h
      replace hq356 : ∃ (uu0 : Value), f354 2 = (Value.pointer (some ⟨b9, 0, none⟩)) ∧ f354 4 = (Value.pointer (some ⟨b35, 0, none⟩)) ∧ St wd2 wd355 [bx b9 [(Value.slice none 0 0), (Value.int .i64 (0 : Int)), (Value.slice none 0 0), (Value.slice none 0 0)], (Ty.sl (Ty.i .i64)).at u28 x26.1, (Ty.sl (Ty.sl (Ty.sl (Ty.i .i64)))).at u30 x26.2.2, bx b35 [u28, (Value.int .i64 x26.2.1), u30, uu0], (Ty.sl (Ty.sl (Ty.i .i64))).at uu0 x358] := hq356
      obtain ⟨u359, hf360, hf361, hS362⟩ := hq356
      refine W.seq (W.region ?_)
      refine WL.val (Value.agg #[u28, (Value.int .i64 x26.2.1), u30, u359]) _ (op_loadBox st_36 hf361 (St.boxAt hS362 3 rfl) rfl rfl) rfl ?_
      refine WL.storeBox [u28, (Value.int .i64 x26.2.1), u30, u359] hS362 (k := 0) rfl hf360 rfl (us := [u28, (Value.int .i64 x26.2.1), u30, u359]) rfl sz_36 rfl rfl (all_rep (St.rep (t := (Ty.sl (Ty.i .i64))) hS362 1 rfl) (all_cons rfl (all_rep (St.rep (t := (Ty.sl (Ty.sl (Ty.sl (Ty.i .i64))))) hS362 2 rfl) (all_rep (St.rep (t := (Ty.sl (Ty.sl (Ty.i .i64)))) hS362 4 rfl) all_nil)))) rfl ?_
      intro wd363 hS364
      replace hS364 : St wd2 wd363 [bx b9 [u28, (Value.int .i64 x26.2.1), u30, u359], (Ty.sl (Ty.i .i64)).at u28 x26.1, (Ty.sl (Ty.sl (Ty.sl (Ty.i .i64)))).at u30 x26.2.2, bx b35 [u28, (Value.int .i64 x26.2.1), u30, u359], (Ty.sl (Ty.sl (Ty.i .i64))).at u359 x358] := hS364
      refine WL.val (Value.int .i64 (0 : Int)) _ (op_assign rfl) rfl ?_
      refine WL.nil ?_
      refine W.ret ?_
      obtain rfl := Option.some.inj h
      show FinP _ _ _ _ _ _ _
      exact FinP.ret _ (resCT rfl hf360 st_36 (St.boxAt hS364 0 rfl) rfl rfl) ⟨u28, u30, u359, rfl, hr29, (inL rfl), (Ext.trans hE7 hS364.ext), (St.out (St.pick hS364 [1, 2, 4] rfl) (hE7))⟩

theorem c_impl_copyCocycle_c1 {w : World} {x : Int} {y : Int} {z : Int} {b_c0 : Nat} {c0_Orders : (List Int)} {v_c0_Orders : Value} {c0_Modulus : Int} {c0_Values : (List (List (List Int)))} {v_c0_Values : Value} (r_x : InR .i64 x) (r_y : InR .i64 y) (r_z : InR .i64 z) (k_c0 : BoxAt w b_c0 [v_c0_Orders, (Value.int .i64 c0_Modulus), v_c0_Values]) (r_c0_Orders : (Ty.sl (Ty.i .i64)).rep w v_c0_Orders c0_Orders) (r_c0_Modulus : InR .i64 c0_Modulus) (r_c0_Values : (Ty.sl (Ty.sl (Ty.sl (Ty.i .i64)))).rep w v_c0_Values c0_Values) {res : Int} (h : p_impl_copyCocycle_c1 x y z c0_Orders c0_Modulus c0_Values = some res) :
    Ret Try.prog 112 #[(Value.int .i64 x), (Value.int .i64 y), (Value.int .i64 z), (Value.pointer (some ⟨b_c0, 0, none⟩))] w (fun v w' => v = Value.int .i64 res ∧ InR .i64 res ∧ Ext w w') := by
  unfold p_impl_copyCocycle_c1 at h
  have hS0 : St w w [] := St.start w
  refine Ret.start (fn := Try.f112) Try.func112 rfl 19 rfl rfl ?_
  refine W.seq (W.region ?_)
  refine WL.val (Value.int .i64 (0 : Int)) _ (op_assign rfl) rfl ?_
  refine WL.nil ?_
  refine W.seq (W.region ?_)
  refine WL.val (Value.pointer (some ⟨b_c0, 2, none⟩)) _ (op_fieldAddr fd_34_2 rfl) rfl ?_
  refine WL.val v_c0_Values _ (op_load one_23 rfl (BoxAt.cell (BoxAt.lift hS0.ext k_c0) rfl)) rfl ?_
  refine WL.val (Value.int .i64 x) _ (op_move rfl) rfl ?_
  obtain ⟨x1, hx4, h⟩ := bs h
  obtain ⟨ha2, hb3, hx4⟩ := idx_some hx4
  refine WL.val (Value.pointer (some (elA v_c0_Values (x).toNat))) _ (op_idx sl_23 (Ty.lift _ hS0.ext r_c0_Values) rfl rfl ha2 hb3) rfl ?_
  obtain ⟨u5, hc6, hr7⟩ := repSl.el r_c0_Values hx4
  refine WL.val u5 _ (op_load one_26 rfl (Ext.cell hS0.ext hc6)) rfl ?_
  refine WL.val (Value.int .i64 y) _ (op_move rfl) rfl ?_
  obtain ⟨x8, hx11, h⟩ := bs h
  obtain ⟨ha9, hb10, hx11⟩ := idx_some hx11
  refine WL.val (Value.pointer (some (elA u5 (y).toNat))) _ (op_idx sl_26 (Ty.lift _ hS0.ext hr7) rfl rfl ha9 hb10) rfl ?_
  obtain ⟨u12, hc13, hr14⟩ := repSl.el hr7 hx11
  refine WL.val u12 _ (op_load one_22 rfl (Ext.cell hS0.ext hc13)) rfl ?_
  refine WL.val (Value.int .i64 z) _ (op_move rfl) rfl ?_
  obtain ⟨x15, hx18, h⟩ := bs h
  obtain ⟨ha16, hb17, hx18⟩ := idx_some hx18
  refine WL.val (Value.pointer (some (elA u12 (z).toNat))) _ (op_idx sl_22 (Ty.lift _ hS0.ext hr14) rfl rfl ha16 hb17) rfl ?_
  obtain ⟨u19, hc20, hr21⟩ := repSl.el hr14 hx18
  obtain ⟨rfl, hr21⟩ := hr21
  refine WL.val (Value.int .i64 x15) _ (op_load one_2 rfl (Ext.cell hS0.ext hc20)) rfl ?_
  refine WL.val (Value.int .i64 x15) _ (op_assign rfl) rfl ?_
  refine WL.nil ?_
  refine W.ret ?_
  obtain rfl := Option.some.inj h
  show FinP _ _ _ _ _ _ _
  exact FinP.ret _ (res1 rfl rfl) ⟨rfl, hr21, hS0.ext⟩

theorem c_impl_zeros {w : World} {rows : Int} {columns : Int} (r_rows : InR .i64 rows) (r_columns : InR .i64 columns) {res : (List (List Int))} (h : p_impl_zeros rows columns  = some res) :
    Ret Try.prog 111 #[(Value.int .i64 rows), (Value.int .i64 columns)] w (fun v w' => ∃ (u0 : Value), v = u0 ∧ Ext w w' ∧ Sep w.heap.size w' [(Ty.sl (Ty.sl (Ty.i .i64))).at u0 res]) := by
  unfold p_impl_zeros at h
  have hS0 : St w w [] := St.start w
  refine Ret.start (fn := Try.f111) Try.func111 rfl 17 rfl rfl ?_
  refine W.seq (W.region ?_)
  refine WL.val (Value.slice none 0 0) _ (op_assign rfl) rfl ?_
  refine WL.nil ?_
  refine W.seq (W.region ?_)
  refine WL.lit0 (t := (Ty.sl (Ty.i .i64))) hS0 sl_26 rfl rfl ?_
  intro u1 wd2 hS3 he4
  replace hS3 : St w wd2 [(Ty.sl (Ty.sl (Ty.i .i64))).at u1 ([] : (List (List Int)))] := hS3
  refine WL.val u1 _ (op_assign rfl) rfl ?_
  refine WL.nil ?_
  refine W.seq (W.seq (W.region ?_))
  refine WL.val (Value.int .i64 rows) _ (op_move rfl) rfl ?_
  refine WL.val (Value.int .i64 (0 : Int)) _ (op_move rfl) rfl ?_
  refine WL.nil ?_
  show W _ _ _ _ _ _
  obtain ⟨res5, hres6, h⟩ := bs h
  refine W.blockLoop (fun fq wq => ∃ s, res5 = Res.fin s ∧ ∃ (uu0 : Value), fq 5 = uu0 ∧ St w wq [(Ty.sl (Ty.sl (Ty.i .i64))).at uu0 s]) ?_ ?_
  · refine W.forN (fun k (s : (List (List Int))) fq wq => ∃ (uu0 : Value), fq 1 = (Value.int .i64 columns) ∧ fq 5 = uu0 ∧ fq 7 = (Value.int .i64 rows) ∧ fq 8 = Value.int .i64 (k : Int) ∧ InR .i64 (k : Int) ∧ St w wq [(Ty.sl (Ty.sl (Ty.i .i64))).at uu0 s]) hres6 ⟨u1, rfl, rfl, rfl, rfl, (inL rfl), hS3⟩ ?_ ?_
    · intro k7 x8 ct9 f10 wd11 hk12 hb13 hI14 hbrk15 hret16
      replace hI14 : ∃ (uu0 : Value), f10 1 = (Value.int .i64 columns) ∧ f10 5 = uu0 ∧ f10 7 = (Value.int .i64 rows) ∧ f10 8 = Value.int .i64 (k7 : Int) ∧ InR .i64 (k7 : Int) ∧ St w wd11 [(Ty.sl (Ty.sl (Ty.i .i64))).at uu0 x8] := hI14
      replace hb13 : p_impl_zeros_L1 columns k7 x8 = some ct9 := hb13
      unfold p_impl_zeros_L1 at hb13
      obtain ⟨u17, hf18, hf19, hf20, hf21, hr22, hS23⟩ := hI14
      refine W.seq (W.region ?_)
      refine WL.val (Value.bool (decide ((k7 : Int) < rows))) _ (op_lss hf21 hf20) rfl ?_
      have hl24 : (k7 : Int) < rows := by omega
      refine WL.nil ?_
      refine W.seq ?_
      refine W.condT (decide ((k7 : Int) < rows)) rfl (decide_eq_true hl24) ?_
      refine W.skip ?_
      refine W.seq ?_
      refine W.block ?_
      refine W.region ?_
      refine WL.val u17 _ (op_move hf19) rfl ?_
      refine WL.val (Value.int .i64 columns) _ (op_move hf18) rfl ?_
      obtain ⟨x26, hx27, hb13⟩ := bs hb13
      refine WL.make (t := (Ty.i .i64)) hS23 sl_22 (fun _ _ => ⟨rfl, (inL rfl)⟩) rfl rfl hx27 rfl rfl ?_
      intro u28 wd29 hS30 he31
      replace hS30 : St w wd29 [(Ty.sl (Ty.sl (Ty.i .i64))).at u17 x8, (Ty.sl (Ty.i .i64)).at u28 x26] := hS30
      refine WL.lit [u28] hS30 sl_26 rfl rfl (fillL rfl ⟨rfl, rfl, (cells_rep (St.rep (t := (Ty.sl (Ty.i .i64))) hS30 1 rfl)), trivial⟩) rfl rfl ?_
      intro b36 wd33 hS34 he35 hx37
      replace hS34 : St w wd33 [(Ty.sl (Ty.sl (Ty.i .i64))).at u17 x8, (Ty.sl (Ty.i .i64)).at u28 x26, bx b36 [u28]] := hS34
      obtain ⟨x38, hx39, hb13⟩ := bs hb13
      refine WL.appendRow hS34 (k := 0) (k2 := 1) (k3 := 2) rfl rfl rfl rfl sl_26 rfl rfl rfl rfl hx39 rfl ?_
      intro u40 wd41 hS42 hz43
      replace hS42 : St w wd41 [(Ty.sl (Ty.sl (Ty.i .i64))).at u40 x38, emp, bx b36 [u28]] := hS42
      refine WL.val u40 _ (op_assign rfl) rfl ?_
      refine WL.nil ?_
      show W _ _ _ _ _ _
      refine W.region ?_
      refine WL.val (Value.int .i64 (w64 ((k7 : Int) + (1 : Int)))) _ (op_add hf21 rfl) rfl ?_
      refine WL.val (Value.int .i64 (w64 ((k7 : Int) + (1 : Int)))) _ (op_move rfl) rfl ?_
      refine WL.nil ?_
      obtain rfl := Option.some.inj hb13
      show ∃ s, _ = Ctl.next s ∧ _
      exact ⟨_, rfl, u40, hf18, rfl, hf20, (ctr_next hl24 r_rows), (ctr_rng hl24 r_rows), (St.pick hS42 [0] rfl)⟩
    · intro x50 f45 wd46 hs47 hI48
      replace hI48 : ∃ (uu0 : Value), f45 1 = (Value.int .i64 columns) ∧ f45 5 = uu0 ∧ f45 7 = (Value.int .i64 rows) ∧ f45 8 = Value.int .i64 (((rows).toNat : Nat) : Int) ∧ InR .i64 (((rows).toNat : Nat) : Int) ∧ St w wd46 [(Ty.sl (Ty.sl (Ty.i .i64))).at uu0 x50] := hI48
      obtain ⟨u51, hf52, hf53, hf54, hf55, hr56, hS57⟩ := hI48
      refine W.seq (W.region ?_)
      refine WL.val (Value.bool (decide ((((rows).toNat : Nat) : Int) < rows))) _ (op_lss hf55 hf54) rfl ?_
      have hl58 : ¬ (((rows).toNat : Nat) : Int) < rows := by omega
      refine WL.nil ?_
      refine W.seq ?_
      refine W.condF (decide ((((rows).toNat : Nat) : Int) < rows)) rfl (decide_eq_false hl58) ?_
      refine W.exit ?_
      show _ = _ ∧ _
      exact ⟨rfl, _, hs47, u51, hf53, hS57⟩
  · rintro f59 wd60 ⟨x63, rfl, hq61⟩
    replace h := onRes_fin h
    replace hq61 : ∃ (uu0 : Value), f59 5 = uu0 ∧ St w wd60 [(Ty.sl (Ty.sl (Ty.i .i64))).at uu0 x63] := hq61
    obtain ⟨u64, hf65, hS66⟩ := hq61
    refine W.seq (W.region ?_)
    refine WL.val u64 _ (op_move hf65) rfl ?_
    refine WL.val u64 _ (op_assign rfl) rfl ?_
    refine WL.nil ?_
    refine W.ret ?_
    obtain rfl := Option.some.inj h
    show FinP _ _ _ _ _ _ _
    exact FinP.ret _ (res1 rfl rfl) ⟨u64, rfl, hS66.ext, (St.out (St.pick hS66 [0] rfl) (Ext.refl _))⟩

theorem c_impl_cocycleBy {w : World} {orders : (List Int)} {v_orders : Value} {m : Int} {number : Int → Int → Int → Option Int} {v_number : Value} (r_orders : (Ty.sl (Ty.i .i64)).rep w v_orders orders) (r_m : InR .i64 m) (r_number : FnT_i_i_i_to_i Try.prog v_number w number) {res : (List Int) × Int × (List (List (List Int)))} (h : p_impl_cocycleBy orders m number  = some res) :
    Ret Try.prog 87 #[v_orders, (Value.int .i64 m), v_number] w (fun v w' => ∃ (u0 : Value) (u2 : Value), v = (Value.agg #[u0, Value.int .i64 res.2.1, u2]) ∧ InR .i64 res.2.1 ∧ Ext w w' ∧ Sep w.heap.size w' [(Ty.sl (Ty.i .i64)).at u0 res.1, (Ty.sl (Ty.sl (Ty.sl (Ty.i .i64)))).at u2 res.2.2]) := by
  unfold p_impl_cocycleBy at h
  have hS0 : St w w [] := St.start w
  have q_number := r_number
  obtain ⟨g_number, fst_number, cap_number, eq_number, ok_number, call_number⟩ := q_number
  subst eq_number
  refine Ret.start (fn := Try.f87) Try.func87 rfl 57 rfl rfl ?_
  refine W.seq (W.region ?_)
  refine WL.alloc hS0 ze_34 (cs := [(Value.slice none 0 0), (Value.int .i64 (0 : Int)), (Value.slice none 0 0)]) rfl rfl ?_
  intro b1 wd2 hS3 he4
  replace hS3 : St w wd2 [bx b1 [(Value.slice none 0 0), (Value.int .i64 (0 : Int)), (Value.slice none 0 0)]] := hS3
  refine WL.nil ?_
  refine W.seq (W.region ?_)
  refine WL.val v_orders _ (op_move rfl) rfl ?_
  obtain ⟨x5, hx6, h⟩ := bs h
  refine WL.call _ (op_call fn_51 (args1 rfl)) (c_slices_Clone_Lint64_int64 (Ty.lift _ hS3.ext r_orders) hx6) rfl ?_
  rintro u7 wd8 ⟨_, rfl, he9, hs10⟩
  have hS11 := St.join hS3 he9 hs10
  replace hS11 : St w wd8 [bx b1 [(Value.slice none 0 0), (Value.int .i64 (0 : Int)), (Value.slice none 0 0)], (Ty.sl (Ty.i .i64)).at u7 x5] := hS11
  refine WL.val (Value.int .i64 m) _ (op_move rfl) rfl ?_
  refine WL.val (Value.agg #[u7, (Value.int .i64 m), (Value.slice none 0 0)]) _ (op_build bd_34 (parts := [(0, u7, [u7]), (1, (Value.int .i64 m), [(Value.int .i64 m)])]) (partsL ⟨rfl, rfl, rfl, rfl, trivial⟩) ⟨(cells_rep (St.rep (t := (Ty.sl (Ty.i .i64))) hS11 1 rfl)), rfl, trivial⟩ rfl) rfl ?_
  refine WL.val v_orders _ (op_move rfl) rfl ?_
  obtain ⟨x12, hx13, h⟩ := bs h
  refine WL.call _ (op_call fn_107 (args1 rfl)) (c_impl_groupSize (Ty.lift _ hS11.ext r_orders) hx13) rfl ?_
  rintro _ wd15 ⟨rfl, hr14, he16⟩
  have hS18 := St.extend hS11 he16
  replace hS18 : St w wd15 [bx b1 [(Value.slice none 0 0), (Value.int .i64 (0 : Int)), (Value.slice none 0 0)], (Ty.sl (Ty.i .i64)).at u7 x5] := hS18
  refine WL.alloc hS18 ze_34 (cs := [(Value.slice none 0 0), (Value.int .i64 (0 : Int)), (Value.slice none 0 0)]) rfl rfl ?_
  intro b19 wd20 hS21 he22
  replace hS21 : St w wd20 [bx b1 [(Value.slice none 0 0), (Value.int .i64 (0 : Int)), (Value.slice none 0 0)], (Ty.sl (Ty.i .i64)).at u7 x5, bx b19 [(Value.slice none 0 0), (Value.int .i64 (0 : Int)), (Value.slice none 0 0)]] := hS21
  have hS25 := St.addNil (Ty.sl (Ty.sl (Ty.i .i64))) hS21
  replace hS25 : St w wd20 [bx b1 [(Value.slice none 0 0), (Value.int .i64 (0 : Int)), (Value.slice none 0 0)], (Ty.sl (Ty.i .i64)).at u7 x5, bx b19 [(Value.slice none 0 0), (Value.int .i64 (0 : Int)), (Value.slice none 0 0)], (Ty.sl (Ty.sl (Ty.sl (Ty.i .i64)))).at (Value.slice none 0 0) ([] : (List (List (List Int))))] := hS25
  refine WL.storeBox [u7, (Value.int .i64 m), (Value.slice none 0 0)] hS25 (k := 2) rfl rfl rfl (us := [u7, (Value.int .i64 m), (Value.slice none 0 0)]) rfl sz_34 rfl rfl (all_rep (St.rep (t := (Ty.sl (Ty.i .i64))) hS25 1 rfl) (all_cons rfl (all_rep (St.rep (t := (Ty.sl (Ty.sl (Ty.sl (Ty.i .i64))))) hS25 3 rfl) all_nil))) rfl ?_
  intro wd23 hS24
  replace hS24 : St w wd23 [bx b1 [(Value.slice none 0 0), (Value.int .i64 (0 : Int)), (Value.slice none 0 0)], (Ty.sl (Ty.i .i64)).at u7 x5, bx b19 [u7, (Value.int .i64 m), (Value.slice none 0 0)], (Ty.sl (Ty.sl (Ty.sl (Ty.i .i64)))).at (Value.slice none 0 0) ([] : (List (List (List Int))))] := hS24
  refine WL.val (Value.int .i64 x12) _ (op_assign rfl) rfl ?_
  refine WL.nil ?_
  refine W.seq (W.seq (W.region ?_))
  refine WL.val (Value.int .i64 x12) _ (op_move rfl) rfl ?_
  refine WL.val (Value.int .i64 (0 : Int)) _ (op_move rfl) rfl ?_
  refine WL.nil ?_
  show W _ _ _ _ _ _
  obtain ⟨res26, hres27, h⟩ := bs h
  refine W.blockLoop (fun fq wq => ∃ s, res26 = Res.fin s ∧ ∃ (uu0 : Value), fq 6 = (Value.pointer (some ⟨b1, 0, none⟩)) ∧ fq 7 = (Value.pointer (some ⟨b19, 0, none⟩)) ∧ St w wq [bx b1 [(Value.slice none 0 0), (Value.int .i64 (0 : Int)), (Value.slice none 0 0)], (Ty.sl (Ty.i .i64)).at u7 x5, bx b19 [u7, (Value.int .i64 m), uu0], (Ty.sl (Ty.sl (Ty.sl (Ty.i .i64)))).at uu0 s]) ?_ ?_
  · refine W.forN (fun k (s : (List (List (List Int)))) fq wq => ∃ (uu0 : Value), fq 2 = (Value.func (.func g_number) fst_number cap_number) ∧ fq 6 = (Value.pointer (some ⟨b1, 0, none⟩)) ∧ fq 7 = (Value.pointer (some ⟨b19, 0, none⟩)) ∧ fq 8 = (Value.int .i64 x12) ∧ fq 19 = (Value.int .i64 x12) ∧ fq 20 = Value.int .i64 (k : Int) ∧ InR .i64 (k : Int) ∧ St w wq [bx b1 [(Value.slice none 0 0), (Value.int .i64 (0 : Int)), (Value.slice none 0 0)], (Ty.sl (Ty.i .i64)).at u7 x5, bx b19 [u7, (Value.int .i64 m), uu0], (Ty.sl (Ty.sl (Ty.sl (Ty.i .i64)))).at uu0 s]) hres27 ⟨(Value.slice none 0 0), rfl, rfl, rfl, rfl, rfl, rfl, (inL rfl), hS24⟩ ?_ ?_
    · intro k28 x29 ct30 f31 wd32 hk33 hb34 hI35 hbrk36 hret37
      replace hI35 : ∃ (uu0 : Value), f31 2 = (Value.func (.func g_number) fst_number cap_number) ∧ f31 6 = (Value.pointer (some ⟨b1, 0, none⟩)) ∧ f31 7 = (Value.pointer (some ⟨b19, 0, none⟩)) ∧ f31 8 = (Value.int .i64 x12) ∧ f31 19 = (Value.int .i64 x12) ∧ f31 20 = Value.int .i64 (k28 : Int) ∧ InR .i64 (k28 : Int) ∧ St w wd32 [bx b1 [(Value.slice none 0 0), (Value.int .i64 (0 : Int)), (Value.slice none 0 0)], (Ty.sl (Ty.i .i64)).at u7 x5, bx b19 [u7, (Value.int .i64 m), uu0], (Ty.sl (Ty.sl (Ty.sl (Ty.i .i64)))).at uu0 x29] := hI35
      replace hb34 : p_impl_cocycleBy_L1 x12 number x5 m k28 x29 = some ct30 := hb34
      unfold p_impl_cocycleBy_L1 at hb34
      obtain ⟨u38, hf39, hf40, hf41, hf42, hf43, hf44, hr45, hS46⟩ := hI35
      refine W.seq (W.region ?_)
      refine WL.val (Value.bool (decide ((k28 : Int) < x12))) _ (op_lss hf44 hf43) rfl ?_
      have hl47 : (k28 : Int) < x12 := by omega
      refine WL.nil ?_
      refine W.seq ?_
      refine W.condT (decide ((k28 : Int) < x12)) rfl (decide_eq_true hl47) ?_
      refine W.skip ?_
      refine W.seq ?_
      refine W.block ?_
      refine W.seq (W.region ?_)
      refine WL.val (Value.int .i64 (k28 : Int)) _ (op_move hf44) rfl ?_
      refine WL.val (Value.int .i64 (k28 : Int)) _ (op_assign rfl) rfl ?_
      refine WL.nil ?_
      refine W.seq (W.region ?_)
      refine WL.val (Value.int .i64 x12) _ (op_move hf42) rfl ?_
      refine WL.val (Value.int .i64 x12) _ (op_move hf42) rfl ?_
      obtain ⟨x49, hx50, hb34⟩ := bs hb34
      refine WL.call _ (op_call fn_111 (args2 rfl rfl)) (c_impl_zeros hr14 hr14 hx50) rfl ?_
      rintro u51 wd52 ⟨_, rfl, he53, hs54⟩
      have hS55 := St.join hS46 he53 hs54
      replace hS55 : St w wd52 [bx b1 [(Value.slice none 0 0), (Value.int .i64 (0 : Int)), (Value.slice none 0 0)], (Ty.sl (Ty.i .i64)).at u7 x5, bx b19 [u7, (Value.int .i64 m), u38], (Ty.sl (Ty.sl (Ty.sl (Ty.i .i64)))).at u38 x29, (Ty.sl (Ty.sl (Ty.i .i64))).at u51 x49] := hS55
      refine WL.val u51 _ (op_assign rfl) rfl ?_
      refine WL.nil ?_
      refine W.seq (W.seq (W.region ?_))
      refine WL.val (Value.int .i64 x12) _ (op_move hf42) rfl ?_
      refine WL.val (Value.int .i64 (0 : Int)) _ (op_move rfl) rfl ?_
      refine WL.nil ?_
      show W _ _ _ _ _ _
      obtain ⟨res56, hres57, hb34⟩ := bs hb34
      refine W.blockLoop (fun fq wq => ∃ s, res56 = Res.fin s ∧ fq 2 = (Value.func (.func g_number) fst_number cap_number) ∧ fq 6 = (Value.pointer (some ⟨b1, 0, none⟩)) ∧ fq 7 = (Value.pointer (some ⟨b19, 0, none⟩)) ∧ fq 8 = (Value.int .i64 x12) ∧ fq 10 = u51 ∧ fq 19 = (Value.int .i64 x12) ∧ fq 20 = (Value.int .i64 (k28 : Int)) ∧ St w wq [bx b1 [(Value.slice none 0 0), (Value.int .i64 (0 : Int)), (Value.slice none 0 0)], (Ty.sl (Ty.i .i64)).at u7 x5, bx b19 [u7, (Value.int .i64 m), u38], (Ty.sl (Ty.sl (Ty.sl (Ty.i .i64)))).at u38 x29, (Ty.sl (Ty.sl (Ty.i .i64))).at u51 s]) ?_ ?_
      · refine W.forN (fun k (s : (List (List Int))) fq wq => fq 2 = (Value.func (.func g_number) fst_number cap_number) ∧ fq 6 = (Value.pointer (some ⟨b1, 0, none⟩)) ∧ fq 7 = (Value.pointer (some ⟨b19, 0, none⟩)) ∧ fq 8 = (Value.int .i64 x12) ∧ fq 9 = (Value.int .i64 (k28 : Int)) ∧ fq 10 = u51 ∧ fq 19 = (Value.int .i64 x12) ∧ fq 20 = (Value.int .i64 (k28 : Int)) ∧ fq 26 = (Value.int .i64 x12) ∧ fq 27 = Value.int .i64 (k : Int) ∧ InR .i64 (k : Int) ∧ St w wq [bx b1 [(Value.slice none 0 0), (Value.int .i64 (0 : Int)), (Value.slice none 0 0)], (Ty.sl (Ty.i .i64)).at u7 x5, bx b19 [u7, (Value.int .i64 m), u38], (Ty.sl (Ty.sl (Ty.sl (Ty.i .i64)))).at u38 x29, (Ty.sl (Ty.sl (Ty.i .i64))).at u51 s]) hres57 ⟨hf39, hf40, hf41, hf42, rfl, rfl, hf43, hf44, rfl, rfl, (inL rfl), hS55⟩ ?_ ?_
        · intro k58 x59 ct60 f61 wd62 hk63 hb64 hI65 hbrk66 hret67
          replace hI65 : f61 2 = (Value.func (.func g_number) fst_number cap_number) ∧ f61 6 = (Value.pointer (some ⟨b1, 0, none⟩)) ∧ f61 7 = (Value.pointer (some ⟨b19, 0, none⟩)) ∧ f61 8 = (Value.int .i64 x12) ∧ f61 9 = (Value.int .i64 (k28 : Int)) ∧ f61 10 = u51 ∧ f61 19 = (Value.int .i64 x12) ∧ f61 20 = (Value.int .i64 (k28 : Int)) ∧ f61 26 = (Value.int .i64 x12) ∧ f61 27 = Value.int .i64 (k58 : Int) ∧ InR .i64 (k58 : Int) ∧ St w wd62 [bx b1 [(Value.slice none 0 0), (Value.int .i64 (0 : Int)), (Value.slice none 0 0)], (Ty.sl (Ty.i .i64)).at u7 x5, bx b19 [u7, (Value.int .i64 m), u38], (Ty.sl (Ty.sl (Ty.sl (Ty.i .i64)))).at u38 x29, (Ty.sl (Ty.sl (Ty.i .i64))).at u51 x59] := hI65
          replace hb64 : p_impl_cocycleBy_L2 number k28 x5 m x29 x12 k58 x59 = some ct60 := hb64
          unfold p_impl_cocycleBy_L2 at hb64
          obtain ⟨hf68, hf69, hf70, hf71, hf72, hf73, hf74, hf75, hf76, hf77, hr78, hS79⟩ := hI65
          refine W.seq (W.region ?_)
          refine WL.val (Value.bool (decide ((k58 : Int) < x12))) _ (op_lss hf77 hf76) rfl ?_
          have hl80 : (k58 : Int) < x12 := by omega
          refine WL.nil ?_
          refine W.seq ?_
          refine W.condT (decide ((k58 : Int) < x12)) rfl (decide_eq_true hl80) ?_
          refine W.skip ?_
          refine W.seq ?_
          refine W.block ?_
          refine W.seq (W.region ?_)
          refine WL.val (Value.int .i64 (k58 : Int)) _ (op_move hf77) rfl ?_
          refine WL.val (Value.int .i64 (k58 : Int)) _ (op_assign rfl) rfl ?_
          refine WL.nil ?_
          refine W.seq (W.region ?_)
          refine WL.val (Value.int .i64 x12) _ (op_move hf71) rfl ?_
          refine WL.val (Value.int .i64 (0 : Int)) _ (op_move rfl) rfl ?_
          refine WL.nil ?_
          show W _ _ _ _ _ _
          obtain ⟨res82, hres83, hb64⟩ := bs hb64
          refine W.blockLoop (fun fq wq => ∃ s, res82 = Res.fin s ∧ fq 2 = (Value.func (.func g_number) fst_number cap_number) ∧ fq 6 = (Value.pointer (some ⟨b1, 0, none⟩)) ∧ fq 7 = (Value.pointer (some ⟨b19, 0, none⟩)) ∧ fq 8 = (Value.int .i64 x12) ∧ fq 9 = (Value.int .i64 (k28 : Int)) ∧ fq 10 = u51 ∧ fq 19 = (Value.int .i64 x12) ∧ fq 20 = (Value.int .i64 (k28 : Int)) ∧ fq 26 = (Value.int .i64 x12) ∧ fq 27 = (Value.int .i64 (k58 : Int)) ∧ St w wq [bx b1 [(Value.slice none 0 0), (Value.int .i64 (0 : Int)), (Value.slice none 0 0)], (Ty.sl (Ty.i .i64)).at u7 x5, bx b19 [u7, (Value.int .i64 m), u38], (Ty.sl (Ty.sl (Ty.sl (Ty.i .i64)))).at u38 x29, (Ty.sl (Ty.sl (Ty.i .i64))).at u51 s]) ?_ ?_
          · refine W.forN (fun k (s : (List (List Int))) fq wq => fq 2 = (Value.func (.func g_number) fst_number cap_number) ∧ fq 6 = (Value.pointer (some ⟨b1, 0, none⟩)) ∧ fq 7 = (Value.pointer (some ⟨b19, 0, none⟩)) ∧ fq 8 = (Value.int .i64 x12) ∧ fq 9 = (Value.int .i64 (k28 : Int)) ∧ fq 10 = u51 ∧ fq 11 = (Value.int .i64 (k58 : Int)) ∧ fq 19 = (Value.int .i64 x12) ∧ fq 20 = (Value.int .i64 (k28 : Int)) ∧ fq 26 = (Value.int .i64 x12) ∧ fq 27 = (Value.int .i64 (k58 : Int)) ∧ fq 30 = (Value.int .i64 x12) ∧ fq 31 = Value.int .i64 (k : Int) ∧ InR .i64 (k : Int) ∧ St w wq [bx b1 [(Value.slice none 0 0), (Value.int .i64 (0 : Int)), (Value.slice none 0 0)], (Ty.sl (Ty.i .i64)).at u7 x5, bx b19 [u7, (Value.int .i64 m), u38], (Ty.sl (Ty.sl (Ty.sl (Ty.i .i64)))).at u38 x29, (Ty.sl (Ty.sl (Ty.i .i64))).at u51 s]) hres83 ⟨hf68, hf69, hf70, hf71, hf72, hf73, rfl, hf74, hf75, hf76, hf77, rfl, rfl, (inL rfl), hS79⟩ ?_ ?_
            · intro k84 x85 ct86 f87 wd88 hk89 hb90 hI91 hbrk92 hret93
              replace hI91 : f87 2 = (Value.func (.func g_number) fst_number cap_number) ∧ f87 6 = (Value.pointer (some ⟨b1, 0, none⟩)) ∧ f87 7 = (Value.pointer (some ⟨b19, 0, none⟩)) ∧ f87 8 = (Value.int .i64 x12) ∧ f87 9 = (Value.int .i64 (k28 : Int)) ∧ f87 10 = u51 ∧ f87 11 = (Value.int .i64 (k58 : Int)) ∧ f87 19 = (Value.int .i64 x12) ∧ f87 20 = (Value.int .i64 (k28 : Int)) ∧ f87 26 = (Value.int .i64 x12) ∧ f87 27 = (Value.int .i64 (k58 : Int)) ∧ f87 30 = (Value.int .i64 x12) ∧ f87 31 = Value.int .i64 (k84 : Int) ∧ InR .i64 (k84 : Int) ∧ St w wd88 [bx b1 [(Value.slice none 0 0), (Value.int .i64 (0 : Int)), (Value.slice none 0 0)], (Ty.sl (Ty.i .i64)).at u7 x5, bx b19 [u7, (Value.int .i64 m), u38], (Ty.sl (Ty.sl (Ty.sl (Ty.i .i64)))).at u38 x29, (Ty.sl (Ty.sl (Ty.i .i64))).at u51 x85] := hI91
              replace hb90 : p_impl_cocycleBy_L3 k58 number k28 x5 m x29 k84 x85 = some ct86 := hb90
              unfold p_impl_cocycleBy_L3 at hb90
              obtain ⟨hf94, hf95, hf96, hf97, hf98, hf99, hf100, hf101, hf102, hf103, hf104, hf105, hf106, hr107, hS108⟩ := hI91
              refine W.seq (W.region ?_)
              refine WL.val (Value.bool (decide ((k84 : Int) < x12))) _ (op_lss hf106 hf105) rfl ?_
              have hl109 : (k84 : Int) < x12 := by omega
              refine WL.nil ?_
              refine W.seq ?_
              refine W.condT (decide ((k84 : Int) < x12)) rfl (decide_eq_true hl109) ?_
              refine W.skip ?_
              refine W.seq ?_
              refine W.block ?_
              refine W.seq (W.region ?_)
              refine WL.val (Value.int .i64 (k84 : Int)) _ (op_move hf106) rfl ?_
              refine WL.val (Value.int .i64 (k84 : Int)) _ (op_assign rfl) rfl ?_
              refine WL.nil ?_
              show W _ _ _ _ _ _
              obtain ⟨x140, hx143, hb90⟩ := bs hb90
              obtain ⟨ha141, hb142, hx143⟩ := idx_some hx143
              obtain ⟨u154, hc155, hr156⟩ := repSl.el (St.rep (t := (Ty.sl (Ty.sl (Ty.i .i64)))) hS108 4 rfl) hx143
              obtain ⟨x224, hx225, hb90⟩ := bs hb90
              obtain ⟨x245, hx246, hb90⟩ := bs hb90
              refine W.drawR mixo 12 [] [fun _ v _ _ => v = u51, fun _ v _ _ => v = (Value.int .i64 (k58 : Int)) ∧ InR .i64 (k58 : Int), fun _ v _ _ => v = (Value.pointer (some (elA u51 ((k58 : Int)).toNat))), fun _ v _ _ => v = u154, fun _ v _ _ => v = (Value.int .i64 (k84 : Int)) ∧ InR .i64 (k84 : Int), fun _ v S w' => v = (Value.agg #[u7, (Value.int .i64 m), u38]) ∧ InR .i64 m, fun _ v _ _ => v = (Value.func (.func g_number) fst_number cap_number), fun _ v _ _ => v = (Value.int .i64 (k28 : Int)) ∧ InR .i64 (k28 : Int), fun _ v _ _ => v = (Value.int .i64 (k58 : Int)) ∧ InR .i64 (k58 : Int), fun _ v _ _ => v = (Value.int .i64 (k84 : Int)) ∧ InR .i64 (k84 : Int), fun _ v _ _ => v = (Value.int .i64 x224) ∧ InR .i64 x224, fun _ v _ _ => v = (Value.int .i64 x245) ∧ InR .i64 x245] (by kernel_rfl) (by kernel_rfl) ⟨pk, pk, pk, pk, pk, ⟨fun _ _ _ _ _ he ⟨h0, h1⟩ => ⟨h0, h1⟩, fun _ _ _ _ _ _ h => h⟩, pk, pk, pk, pk, pk, pk, trivial⟩ ⟨?_, ?_, ?_, ?_, ?_, ?_, ?_, ?_, ?_, ?_, ?_, ?_, trivial⟩ ?_
              · refine ObX.op rfl fun f111 wd112 he113 hout114 hphi115 => ?_
                have e117 : f111 10 = u51 := (hout114 10 rfl).trans hf99
                exact OpX.val u51 wd112 rfl (op_move e117) (Ext.refl _) rfl
              · refine ObX.op rfl fun f118 wd119 he120 hout121 hphi122 => ?_
                have e124 : f118 11 = (Value.int .i64 (k58 : Int)) := (hout121 11 rfl).trans hf100
                exact OpX.val (Value.int .i64 (k58 : Int)) wd119 rfl (op_move e124) (Ext.refl _) ⟨rfl, hr78⟩
              · refine ObX.op rfl fun f125 wd126 he127 hout128 hphi129 => ?_
                have hS130 := St.extend hS108 he127
                obtain ⟨S131, hS132, hf133⟩ := hphi129 0 34 _ rfl rfl rfl
                have e134 : f125 34 = u51 := hf133
                obtain ⟨S135, hS136, hf137⟩ := hphi129 1 35 _ rfl rfl rfl
                obtain ⟨e138, hr139⟩ := hf137
                exact OpX.val (Value.pointer (some (elA u51 ((k58 : Int)).toNat))) wd126 rfl (op_idx sl_26 (St.rep (t := (Ty.sl (Ty.sl (Ty.i .i64)))) hS130 4 rfl) e134 e138 ha141 hb142) (Ext.refl _) rfl
              · refine ObX.op rfl fun f144 wd145 he146 hout147 hphi148 => ?_
                obtain ⟨S150, hS151, hf152⟩ := hphi148 2 36 _ rfl rfl rfl
                have e153 : f144 36 = (Value.pointer (some (elA u51 ((k58 : Int)).toNat))) := hf152
                exact OpX.val u154 wd145 rfl (op_load one_22 e153 (Ext.cell he146 hc155)) (Ext.refl _) rfl
              · refine ObX.op rfl fun f157 wd158 he159 hout160 hphi161 => ?_
                have e163 : f157 12 = (Value.int .i64 (k84 : Int)) := (hout160 12 rfl).trans rfl
                exact OpX.val (Value.int .i64 (k84 : Int)) wd158 rfl (op_move e163) (Ext.refl _) ⟨rfl, hr107⟩
              · refine ObX.op rfl fun f164 wd165 he166 hout167 hphi168 => ?_
                have hS169 := St.extend hS108 he166
                have e170 : f164 7 = (Value.pointer (some ⟨b19, 0, none⟩)) := (hout167 7 rfl).trans hf96
                exact OpX.val (Value.agg #[u7, (Value.int .i64 m), u38]) wd165 rfl (op_loadBox st_34 e170 (St.boxAt hS169 2 rfl) rfl rfl) (Ext.refl _) ⟨rfl, r_m⟩
              · refine ObX.op rfl fun f171 wd172 he173 hout174 hphi175 => ?_
                have e177 : f171 2 = (Value.func (.func g_number) fst_number cap_number) := (hout174 2 rfl).trans hf94
                exact OpX.val (Value.func (.func g_number) fst_number cap_number) wd172 rfl (op_move e177) (Ext.refl _) rfl
              · refine ObX.op rfl fun f178 wd179 he180 hout181 hphi182 => ?_
                have e184 : f178 9 = (Value.int .i64 (k28 : Int)) := (hout181 9 rfl).trans hf98
                exact OpX.val (Value.int .i64 (k28 : Int)) wd179 rfl (op_move e184) (Ext.refl _) ⟨rfl, hr45⟩
              · refine ObX.op rfl fun f185 wd186 he187 hout188 hphi189 => ?_
                have e191 : f185 11 = (Value.int .i64 (k58 : Int)) := (hout188 11 rfl).trans hf100
                exact OpX.val (Value.int .i64 (k58 : Int)) wd186 rfl (op_move e191) (Ext.refl _) ⟨rfl, hr78⟩
              · refine ObX.op rfl fun f192 wd193 he194 hout195 hphi196 => ?_
                have e198 : f192 12 = (Value.int .i64 (k84 : Int)) := (hout195 12 rfl).trans rfl
                exact OpX.val (Value.int .i64 (k84 : Int)) wd193 rfl (op_move e198) (Ext.refl _) ⟨rfl, hr107⟩
              · refine ObX.op rfl fun f199 wd200 he201 hout202 hphi203 => ?_
                have hS204 := St.extend hS108 he201
                obtain ⟨S205, hS206, hf207⟩ := hphi203 6 40 _ rfl rfl rfl
                have e208 : f199 40 = (Value.func (.func g_number) fst_number cap_number) := hf207
                obtain ⟨S209, hS210, hf211⟩ := hphi203 7 41 _ rfl rfl rfl
                obtain ⟨e212, hr213⟩ := hf211
                obtain ⟨S214, hS215, hf216⟩ := hphi203 8 42 _ rfl rfl rfl
                obtain ⟨e217, hr218⟩ := hf216
                obtain ⟨S219, hS220, hf221⟩ := hphi203 9 43 _ rfl rfl rfl
                obtain ⟨e222, hr223⟩ := hf221
                refine OpX.call rfl (op_callV e208 ok_number (args3 e212 e217 e222)) (Ret.mono (call_number wd200 (k28 : Int) (k58 : Int) (k84 : Int) x224 hS204.ext hr213 hr218 hr223 hx225) ?_)
                rintro _ wd226 ⟨rfl, hr228, he227⟩
                exact ⟨he227, _, noS _ _, ⟨rfl, hr228⟩⟩
              · refine ObX.op rfl fun f229 wd230 he231 hout232 hphi233 => ?_
                have hS234 := St.extend hS108 he231
                obtain ⟨S235, hS236, hf237⟩ := hphi233 5 39 _ rfl rfl rfl
                obtain ⟨e238, hr239⟩ := hf237
                obtain ⟨S240, hS241, hf242⟩ := hphi233 10 44 _ rfl rfl rfl
                obtain ⟨e243, hr244⟩ := hf242
                refine OpX.call rfl (op_call fn_85 (args2 e238 e243)) (Ret.mono (c_impl_Cocycle_rest (St.rep (t := (Ty.sl (Ty.i .i64))) hS234 1 rfl) hr239 (St.rep (t := (Ty.sl (Ty.sl (Ty.sl (Ty.i .i64))))) hS234 3 rfl) hr244 hx246) ?_)
                rintro _ wd248 ⟨rfl, hr247, he249⟩
                exact ⟨he249, _, noS _ _, ⟨rfl, hr247⟩⟩
              · intro f251 wd252 Ss253 he254 hout255 hSn256 hSd257 hphi258
                show WL _ _ _ _ _ _ _
                have hS259 := St.extend hS108 he254
                have e260 : f251 37 = u154 := hphi258 3 37 _ (by decide) rfl rfl
                obtain ⟨e261, hr262⟩ := hphi258 4 38 _ (by decide) rfl rfl
                obtain ⟨e263, hr264⟩ := hphi258 11 45 _ (by decide) rfl rfl
                have e265 : f251 2 = (Value.func (.func g_number) fst_number cap_number) := (hout255 2 rfl).trans hf94
                have e266 : f251 6 = (Value.pointer (some ⟨b1, 0, none⟩)) := (hout255 6 rfl).trans hf95
                have e267 : f251 7 = (Value.pointer (some ⟨b19, 0, none⟩)) := (hout255 7 rfl).trans hf96
                have e268 : f251 8 = (Value.int .i64 x12) := (hout255 8 rfl).trans hf97
                have e269 : f251 9 = (Value.int .i64 (k28 : Int)) := (hout255 9 rfl).trans hf98
                have e270 : f251 10 = u51 := (hout255 10 rfl).trans hf99
                have e271 : f251 11 = (Value.int .i64 (k58 : Int)) := (hout255 11 rfl).trans hf100
                have e272 : f251 19 = (Value.int .i64 x12) := (hout255 19 rfl).trans hf101
                have e273 : f251 20 = (Value.int .i64 (k28 : Int)) := (hout255 20 rfl).trans hf102
                have e274 : f251 26 = (Value.int .i64 x12) := (hout255 26 rfl).trans hf103
                have e275 : f251 27 = (Value.int .i64 (k58 : Int)) := (hout255 27 rfl).trans hf104
                have e276 : f251 30 = (Value.int .i64 x12) := (hout255 30 rfl).trans hf105
                have e277 : f251 31 = (Value.int .i64 (k84 : Int)) := (hout255 31 rfl).trans hf106
                obtain ⟨x278, hx281, hb90⟩ := bs hb90
                obtain ⟨ha279, hb280, hx281⟩ := idx_some hx281
                refine WL.val (Value.pointer (some (elA u154 ((k84 : Int)).toNat))) _ (op_idx sl_22 (Ty.lift _ he254 hr156) e260 e261 ha279 hb280) rfl ?_
                refine WL.storeEl2 (flat_i .i64) hS259 (k := 4) rfl sz_2 hx143 (Ext.cell he254 hc155) rfl e263 (lt_of_idx ha279 hb280) ⟨rfl, hr264⟩ ?_
                intro wd282 hS283
                replace hS283 : St w wd282 [bx b1 [(Value.slice none 0 0), (Value.int .i64 (0 : Int)), (Value.slice none 0 0)], (Ty.sl (Ty.i .i64)).at u7 x5, bx b19 [u7, (Value.int .i64 m), u38], (Ty.sl (Ty.sl (Ty.sl (Ty.i .i64)))).at u38 x29, (Ty.sl (Ty.sl (Ty.i .i64))).at u51 ((x85).set ((k58 : Int)).toNat ((x140).set ((k84 : Int)).toNat x245))] := hS283
                refine WL.nil ?_
                show W _ _ _ _ _ _
                refine W.region ?_
                refine WL.val (Value.int .i64 (w64 ((k84 : Int) + (1 : Int)))) _ (op_add e277 rfl) rfl ?_
                refine WL.val (Value.int .i64 (w64 ((k84 : Int) + (1 : Int)))) _ (op_move rfl) rfl ?_
                refine WL.nil ?_
                obtain rfl := Option.some.inj hb90
                show ∃ s, _ = Ctl.next s ∧ _
                exact ⟨_, rfl, e265, e266, e267, e268, e269, e270, e271, e272, e273, e274, e275, e276, (ctr_next hl109 hr14), (ctr_rng hl109 hr14), hS283⟩
            · intro x290 f285 wd286 hs287 hI288
              replace hI288 : f285 2 = (Value.func (.func g_number) fst_number cap_number) ∧ f285 6 = (Value.pointer (some ⟨b1, 0, none⟩)) ∧ f285 7 = (Value.pointer (some ⟨b19, 0, none⟩)) ∧ f285 8 = (Value.int .i64 x12) ∧ f285 9 = (Value.int .i64 (k28 : Int)) ∧ f285 10 = u51 ∧ f285 11 = (Value.int .i64 (k58 : Int)) ∧ f285 19 = (Value.int .i64 x12) ∧ f285 20 = (Value.int .i64 (k28 : Int)) ∧ f285 26 = (Value.int .i64 x12) ∧ f285 27 = (Value.int .i64 (k58 : Int)) ∧ f285 30 = (Value.int .i64 x12) ∧ f285 31 = Value.int .i64 (((x12).toNat : Nat) : Int) ∧ InR .i64 (((x12).toNat : Nat) : Int) ∧ St w wd286 [bx b1 [(Value.slice none 0 0), (Value.int .i64 (0 : Int)), (Value.slice none 0 0)], (Ty.sl (Ty.i .i64)).at u7 x5, bx b19 [u7, (Value.int .i64 m), u38], (Ty.sl (Ty.sl (Ty.sl (Ty.i .i64)))).at u38 x29, (Ty.sl (Ty.sl (Ty.i .i64))).at u51 x290] := hI288
              obtain ⟨hf291, hf292, hf293, hf294, hf295, hf296, hf297, hf298, hf299, hf300, hf301, hf302, hf303, hr304, hS305⟩ := hI288
              refine W.seq (W.region ?_)
              refine WL.val (Value.bool (decide ((((x12).toNat : Nat) : Int) < x12))) _ (op_lss hf303 hf302) rfl ?_
              have hl306 : ¬ (((x12).toNat : Nat) : Int) < x12 := by omega
              refine WL.nil ?_
              refine W.seq ?_
              refine W.condF (decide ((((x12).toNat : Nat) : Int) < x12)) rfl (decide_eq_false hl306) ?_
              refine W.exit ?_
              show _ = _ ∧ _
              exact ⟨rfl, _, hs287, hf291, hf292, hf293, hf294, hf295, hf296, hf298, hf299, hf300, hf301, hS305⟩
          · rintro f307 wd308 ⟨x311, rfl, hq309⟩
            replace hb64 := onRes_fin hb64
            replace hq309 : f307 2 = (Value.func (.func g_number) fst_number cap_number) ∧ f307 6 = (Value.pointer (some ⟨b1, 0, none⟩)) ∧ f307 7 = (Value.pointer (some ⟨b19, 0, none⟩)) ∧ f307 8 = (Value.int .i64 x12) ∧ f307 9 = (Value.int .i64 (k28 : Int)) ∧ f307 10 = u51 ∧ f307 19 = (Value.int .i64 x12) ∧ f307 20 = (Value.int .i64 (k28 : Int)) ∧ f307 26 = (Value.int .i64 x12) ∧ f307 27 = (Value.int .i64 (k58 : Int)) ∧ St w wd308 [bx b1 [(Value.slice none 0 0), (Value.int .i64 (0 : Int)), (Value.slice none 0 0)], (Ty.sl (Ty.i .i64)).at u7 x5, bx b19 [u7, (Value.int .i64 m), u38], (Ty.sl (Ty.sl (Ty.sl (Ty.i .i64)))).at u38 x29, (Ty.sl (Ty.sl (Ty.i .i64))).at u51 x311] := hq309
            obtain ⟨hf312, hf313, hf314, hf315, hf316, hf317, hf318, hf319, hf320, hf321, hS322⟩ := hq309
            show W _ _ _ _ _ _
            refine W.region ?_
            refine WL.val (Value.int .i64 (w64 ((k58 : Int) + (1 : Int)))) _ (op_add hf321 rfl) rfl ?_
            refine WL.val (Value.int .i64 (w64 ((k58 : Int) + (1 : Int)))) _ (op_move rfl) rfl ?_
            refine WL.nil ?_
            obtain rfl := Option.some.inj hb64
            show ∃ s, _ = Ctl.next s ∧ _
            exact ⟨_, rfl, hf312, hf313, hf314, hf315, hf316, hf317, hf318, hf319, hf320, (ctr_next hl80 hr14), (ctr_rng hl80 hr14), hS322⟩
        · intro x330 f325 wd326 hs327 hI328
          replace hI328 : f325 2 = (Value.func (.func g_number) fst_number cap_number) ∧ f325 6 = (Value.pointer (some ⟨b1, 0, none⟩)) ∧ f325 7 = (Value.pointer (some ⟨b19, 0, none⟩)) ∧ f325 8 = (Value.int .i64 x12) ∧ f325 9 = (Value.int .i64 (k28 : Int)) ∧ f325 10 = u51 ∧ f325 19 = (Value.int .i64 x12) ∧ f325 20 = (Value.int .i64 (k28 : Int)) ∧ f325 26 = (Value.int .i64 x12) ∧ f325 27 = Value.int .i64 (((x12).toNat : Nat) : Int) ∧ InR .i64 (((x12).toNat : Nat) : Int) ∧ St w wd326 [bx b1 [(Value.slice none 0 0), (Value.int .i64 (0 : Int)), (Value.slice none 0 0)], (Ty.sl (Ty.i .i64)).at u7 x5, bx b19 [u7, (Value.int .i64 m), u38], (Ty.sl (Ty.sl (Ty.sl (Ty.i .i64)))).at u38 x29, (Ty.sl (Ty.sl (Ty.i .i64))).at u51 x330] := hI328
          obtain ⟨hf331, hf332, hf333, hf334, hf335, hf336, hf337, hf338, hf339, hf340, hr341, hS342⟩ := hI328
          refine W.seq (W.region ?_)
          refine WL.val (Value.bool (decide ((((x12).toNat : Nat) : Int) < x12))) _ (op_lss hf340 hf339) rfl ?_
          have hl343 : ¬ (((x12).toNat : Nat) : Int) < x12 := by omega
          refine WL.nil ?_
          refine W.seq ?_
          refine W.condF (decide ((((x12).toNat : Nat) : Int) < x12)) rfl (decide_eq_false hl343) ?_
          refine W.exit ?_
          show _ = _ ∧ _
          exact ⟨rfl, _, hs327, hf331, hf332, hf333, hf334, hf336, hf337, hf338, hS342⟩
      · rintro f344 wd345 ⟨x348, rfl, hq346⟩
        replace hb34 := onRes_fin hb34
        replace hq346 : f344 2 = (Value.func (.func g_number) fst_number cap_number) ∧ f344 6 = (Value.pointer (some ⟨b1, 0, none⟩)) ∧ f344 7 = (Value.pointer (some ⟨b19, 0, none⟩)) ∧ f344 8 = (Value.int .i64 x12) ∧ f344 10 = u51 ∧ f344 19 = (Value.int .i64 x12) ∧ f344 20 = (Value.int .i64 (k28 : Int)) ∧ St w wd345 [bx b1 [(Value.slice none 0 0), (Value.int .i64 (0 : Int)), (Value.slice none 0 0)], (Ty.sl (Ty.i .i64)).at u7 x5, bx b19 [u7, (Value.int .i64 m), u38], (Ty.sl (Ty.sl (Ty.sl (Ty.i .i64)))).at u38 x29, (Ty.sl (Ty.sl (Ty.i .i64))).at u51 x348] := hq346
        obtain ⟨hf349, hf350, hf351, hf352, hf353, hf354, hf355, hS356⟩ := hq346
        show W _ _ _ _ _ _
        refine W.region ?_
        refine WL.val (Value.pointer (some ⟨b19, 2, none⟩)) _ (op_fieldAddr fd_34_2 hf351) rfl ?_
        refine WL.val u38 _ (op_load one_23 rfl (BoxAt.cell (St.boxAt hS356 2 rfl) rfl)) rfl ?_
        refine WL.val u51 _ (op_move hf353) rfl ?_
        refine WL.lit [u51] hS356 sl_23 rfl rfl (fillL rfl ⟨rfl, rfl, (cells_rep (St.rep (t := (Ty.sl (Ty.sl (Ty.i .i64)))) hS356 4 rfl)), trivial⟩) rfl rfl ?_
        intro b361 wd358 hS359 he360 hx362
        replace hS359 : St w wd358 [bx b1 [(Value.slice none 0 0), (Value.int .i64 (0 : Int)), (Value.slice none 0 0)], (Ty.sl (Ty.i .i64)).at u7 x5, bx b19 [u7, (Value.int .i64 m), u38], (Ty.sl (Ty.sl (Ty.sl (Ty.i .i64)))).at u38 x29, (Ty.sl (Ty.sl (Ty.i .i64))).at u51 x348, bx b361 [u51]] := hS359
        obtain ⟨x363, hx364, hb34⟩ := bs hb34
        refine WL.appendRow hS359 (k := 3) (k2 := 4) (k3 := 5) rfl rfl rfl rfl sl_23 rfl rfl rfl rfl hx364 rfl ?_
        intro u365 wd366 hS367 hz368
        replace hS367 : St w wd366 [bx b1 [(Value.slice none 0 0), (Value.int .i64 (0 : Int)), (Value.slice none 0 0)], (Ty.sl (Ty.i .i64)).at u7 x5, bx b19 [u7, (Value.int .i64 m), u38], (Ty.sl (Ty.sl (Ty.sl (Ty.i .i64)))).at u365 x363, emp, bx b361 [u51]] := hS367
        refine WL.val (Value.pointer (some ⟨b19, 2, none⟩)) _ (op_fieldAddr fd_34_2 hf351) rfl ?_
        refine WL.storeBox [u7, (Value.int .i64 m), u365] hS367 (k := 2) rfl rfl rfl (us := [u365]) (cells_rep (St.rep (t := (Ty.sl (Ty.sl (Ty.sl (Ty.i .i64))))) hS367 3 rfl)) sz_23 rfl rfl (all_rep (St.rep (t := (Ty.sl (Ty.sl (Ty.sl (Ty.i .i64))))) hS367 3 rfl) all_nil) rfl ?_
        intro wd369 hS370
        replace hS370 : St w wd369 [bx b1 [(Value.slice none 0 0), (Value.int .i64 (0 : Int)), (Value.slice none 0 0)], (Ty.sl (Ty.i .i64)).at u7 x5, bx b19 [u7, (Value.int .i64 m), u365], (Ty.sl (Ty.sl (Ty.sl (Ty.i .i64)))).at u365 x363, emp, bx b361 [u51]] := hS370
        refine WL.nil ?_
        show W _ _ _ _ _ _
        refine W.region ?_
        refine WL.val (Value.int .i64 (w64 ((k28 : Int) + (1 : Int)))) _ (op_add hf355 rfl) rfl ?_
        refine WL.val (Value.int .i64 (w64 ((k28 : Int) + (1 : Int)))) _ (op_move rfl) rfl ?_
        refine WL.nil ?_
        obtain rfl := Option.some.inj hb34
        show ∃ s, _ = Ctl.next s ∧ _
        exact ⟨_, rfl, u365, hf349, hf350, hf351, hf352, hf354, (ctr_next hl47 hr14), (ctr_rng hl47 hr14), (St.pick hS370 [0, 1, 2, 3] rfl)⟩
    · intro x378 f373 wd374 hs375 hI376
      replace hI376 : ∃ (uu0 : Value), f373 2 = (Value.func (.func g_number) fst_number cap_number) ∧ f373 6 = (Value.pointer (some ⟨b1, 0, none⟩)) ∧ f373 7 = (Value.pointer (some ⟨b19, 0, none⟩)) ∧ f373 8 = (Value.int .i64 x12) ∧ f373 19 = (Value.int .i64 x12) ∧ f373 20 = Value.int .i64 (((x12).toNat : Nat) : Int) ∧ InR .i64 (((x12).toNat : Nat) : Int) ∧ St w wd374 [bx b1 [(Value.slice none 0 0), (Value.int .i64 (0 : Int)), (Value.slice none 0 0)], (Ty.sl (Ty.i .i64)).at u7 x5, bx b19 [u7, (Value.int .i64 m), uu0], (Ty.sl (Ty.sl (Ty.sl (Ty.i .i64)))).at uu0 x378] := hI376
      obtain ⟨u379, hf380, hf381, hf382, hf383, hf384, hf385, hr386, hS387⟩ := hI376
      refine W.seq (W.region ?_)
      refine WL.val (Value.bool (decide ((((x12).toNat : Nat) : Int) < x12))) _ (op_lss hf385 hf384) rfl ?_
      have hl388 : ¬ (((x12).toNat : Nat) : Int) < x12 := by omega
      refine WL.nil ?_
      refine W.seq ?_
      refine W.condF (decide ((((x12).toNat : Nat) : Int) < x12)) rfl (decide_eq_false hl388) ?_
      refine W.exit ?_
      show _ = _ ∧ _
      exact ⟨rfl, _, hs375, u379, hf381, hf382, hS387⟩
  · rintro f389 wd390 ⟨x393, rfl, hq391⟩
    replace h := onRes_fin h
    replace hq391 : ∃ (uu0 : Value), f389 6 = (Value.pointer (some ⟨b1, 0, none⟩)) ∧ f389 7 = (Value.pointer (some ⟨b19, 0, none⟩)) ∧ St w wd390 [bx b1 [(Value.slice none 0 0), (Value.int .i64 (0 : Int)), (Value.slice none 0 0)], (Ty.sl (Ty.i .i64)).at u7 x5, bx b19 [u7, (Value.int .i64 m), uu0], (Ty.sl (Ty.sl (Ty.sl (Ty.i .i64)))).at uu0 x393] := hq391
    obtain ⟨u394, hf395, hf396, hS397⟩ := hq391
    refine W.seq (W.region ?_)
    refine WL.val (Value.agg #[u7, (Value.int .i64 m), u394]) _ (op_loadBox st_34 hf396 (St.boxAt hS397 2 rfl) rfl rfl) rfl ?_
    refine WL.storeBox [u7, (Value.int .i64 m), u394] hS397 (k := 0) rfl hf395 rfl (us := [u7, (Value.int .i64 m), u394]) rfl sz_34 rfl rfl (all_rep (St.rep (t := (Ty.sl (Ty.i .i64))) hS397 1 rfl) (all_cons rfl (all_rep (St.rep (t := (Ty.sl (Ty.sl (Ty.sl (Ty.i .i64))))) hS397 3 rfl) all_nil))) rfl ?_
    intro wd398 hS399
    replace hS399 : St w wd398 [bx b1 [u7, (Value.int .i64 m), u394], (Ty.sl (Ty.i .i64)).at u7 x5, bx b19 [u7, (Value.int .i64 m), u394], (Ty.sl (Ty.sl (Ty.sl (Ty.i .i64)))).at u394 x393] := hS399
    refine WL.nil ?_
    refine W.ret ?_
    obtain rfl := Option.some.inj h
    show FinP _ _ _ _ _ _ _
    exact FinP.ret _ (resC rfl hf395 st_34 (St.boxAt hS399 0 rfl) rfl) ⟨u7, u394, rfl, r_m, hS399.ext, (St.out (St.pick hS399 [1, 3] rfl) (Ext.refl _))⟩

theorem c_impl_copyCocycle {w : World} {c_Orders : (List Int)} {v_c_Orders : Value} {c_Modulus : Int} {c_Values : (List (List (List Int)))} {v_c_Values : Value} (r_c_Orders : (Ty.sl (Ty.i .i64)).rep w v_c_Orders c_Orders) (r_c_Modulus : InR .i64 c_Modulus) (r_c_Values : (Ty.sl (Ty.sl (Ty.sl (Ty.i .i64)))).rep w v_c_Values c_Values) {res : (List Int) × Int × (List (List (List Int)))} (h : p_impl_copyCocycle c_Orders c_Modulus c_Values  = some res) :
    Ret Try.prog 62 #[(Value.agg #[v_c_Orders, (Value.int .i64 c_Modulus), v_c_Values])] w (fun v w' => ∃ (u0 : Value) (u2 : Value), v = (Value.agg #[u0, Value.int .i64 res.2.1, u2]) ∧ InR .i64 res.2.1 ∧ Ext w w' ∧ Sep w.heap.size w' [(Ty.sl (Ty.i .i64)).at u0 res.1, (Ty.sl (Ty.sl (Ty.sl (Ty.i .i64)))).at u2 res.2.2]) := by
  unfold p_impl_copyCocycle at h
  have hS0 : St w w [] := St.start w
  refine Ret.start (fn := Try.f62) Try.func62 rfl 9 rfl rfl ?_
  refine W.seq (W.region ?_)
  refine WL.box hS0 rfl (cs := [v_c_Orders, (Value.int .i64 c_Modulus), v_c_Values]) rfl rfl ?_
  intro b1 wd2 hS3 he4 hx5
  replace hS3 : St w wd2 [bx b1 [v_c_Orders, (Value.int .i64 c_Modulus), v_c_Values]] := hS3
  have hx6 := St.boxAt hS3 0 rfl
  have hE7 : Ext w wd2 := hS3.ext
  have hS8 : St wd2 wd2 [] := St.start wd2
  refine WL.alloc hS8 ze_34 (cs := [(Value.slice none 0 0), (Value.int .i64 (0 : Int)), (Value.slice none 0 0)]) rfl rfl ?_
  intro b9 wd10 hS11 he12
  replace hS11 : St wd2 wd10 [bx b9 [(Value.slice none 0 0), (Value.int .i64 (0 : Int)), (Value.slice none 0 0)]] := hS11
  refine WL.nil ?_
  refine W.seq (W.region ?_)
  refine WL.val (Value.pointer (some ⟨b1, 0, none⟩)) _ (op_fieldAddr fd_34_0 rfl) rfl ?_
  refine WL.val v_c_Orders _ (op_load one_22 rfl (BoxAt.cell (BoxAt.lift hS11.ext hx6) rfl)) rfl ?_
  refine WL.val (Value.pointer (some ⟨b1, 1, none⟩)) _ (op_fieldAddr fd_34_1 rfl) rfl ?_
  refine WL.val (Value.int .i64 c_Modulus) _ (op_load one_2 rfl (BoxAt.cell (BoxAt.lift hS11.ext hx6) rfl)) rfl ?_
  refine WL.val (Value.func (.func 112) #[] #[(Value.pointer (some ⟨b1, 0, none⟩))]) _ (op_makeFunc (va := #[]) (vb := #[(Value.pointer (some ⟨b1, 0, none⟩))]) args0 (args1 rfl)) rfl ?_
  obtain ⟨x17, hx18, h⟩ := bs h
  refine WL.call _ (op_call fn_87 (args3 rfl rfl rfl)) (c_impl_cocycleBy (Ty.lift _ (Ext.trans hE7 hS11.ext) r_c_Orders) r_c_Modulus (⟨112, #[], #[(Value.pointer (some ⟨b1, 0, none⟩))], rfl, fn_112, fun wd13 a0_14 a1_14 a2_14 r15 he14 ra0_14 ra1_14 ra2_14 hq16 => c_impl_copyCocycle_c1 ra0_14 ra1_14 ra2_14 (BoxAt.lift (Ext.trans hS11.ext he14) hx6) (Ty.lift _ (Ext.trans (Ext.trans hE7 hS11.ext) he14) r_c_Orders) r_c_Modulus (Ty.lift _ (Ext.trans (Ext.trans hE7 hS11.ext) he14) r_c_Values) hq16⟩) hx18) rfl ?_
  rintro _ wd22 ⟨u19, u21, rfl, hr20, he23, hs24⟩
  have hS25 := St.join hS11 he23 hs24
  replace hS25 : St wd2 wd22 [bx b9 [(Value.slice none 0 0), (Value.int .i64 (0 : Int)), (Value.slice none 0 0)], (Ty.sl (Ty.i .i64)).at u19 x17.1, (Ty.sl (Ty.sl (Ty.sl (Ty.i .i64)))).at u21 x17.2.2] := hS25
  refine WL.storeBox [u19, (Value.int .i64 x17.2.1), u21] hS25 (k := 0) rfl rfl rfl (us := [u19, (Value.int .i64 x17.2.1), u21]) rfl sz_34 rfl rfl (all_rep (St.rep (t := (Ty.sl (Ty.i .i64))) hS25 1 rfl) (all_cons rfl (all_rep (St.rep (t := (Ty.sl (Ty.sl (Ty.sl (Ty.i .i64))))) hS25 2 rfl) all_nil))) rfl ?_
  intro wd26 hS27
  replace hS27 : St wd2 wd26 [bx b9 [u19, (Value.int .i64 x17.2.1), u21], (Ty.sl (Ty.i .i64)).at u19 x17.1, (Ty.sl (Ty.sl (Ty.sl (Ty.i .i64)))).at u21 x17.2.2] := hS27
  refine WL.nil ?_
  refine W.ret ?_
  obtain rfl := Option.some.inj h
  show FinP _ _ _ _ _ _ _
  exact FinP.ret _ (resC rfl rfl st_34 (St.boxAt hS27 0 rfl) rfl) ⟨u19, u21, rfl, hr20, (Ext.trans hE7 hS27.ext), (St.out (St.pick hS27 [1, 2] rfl) (hE7))⟩

theorem c_impl_ReverseBraiding_c1 {w : World} {x : Int} {y : Int} {b_c0 : Nat} {c0_Cocycle_Orders : (List Int)} {v_c0_Cocycle_Orders : Value} {c0_Cocycle_Modulus : Int} {c0_Cocycle_Values : (List (List (List Int)))} {v_c0_Cocycle_Values : Value} {c0_Values : (List (List Int))} {v_c0_Values : Value} (r_x : InR .i64 x) (r_y : InR .i64 y) (k_c0 : BoxAt w b_c0 [v_c0_Cocycle_Orders, (Value.int .i64 c0_Cocycle_Modulus), v_c0_Cocycle_Values, v_c0_Values]) (r_c0_Cocycle_Orders : (Ty.sl (Ty.i .i64)).rep w v_c0_Cocycle_Orders c0_Cocycle_Orders) (r_c0_Cocycle_Modulus : InR .i64 c0_Cocycle_Modulus) (r_c0_Cocycle_Values : (Ty.sl (Ty.sl (Ty.sl (Ty.i .i64)))).rep w v_c0_Cocycle_Values c0_Cocycle_Values) (r_c0_Values : (Ty.sl (Ty.sl (Ty.i .i64))).rep w v_c0_Values c0_Values) {res : Int} (h : p_impl_ReverseBraiding_c1 x y c0_Cocycle_Orders c0_Cocycle_Modulus c0_Cocycle_Values c0_Values = some res) :
    Ret Try.prog 63 #[(Value.int .i64 x), (Value.int .i64 y), (Value.pointer (some ⟨b_c0, 0, none⟩))] w (fun v w' => v = Value.int .i64 res ∧ InR .i64 res ∧ Ext w w') := by
  unfold p_impl_ReverseBraiding_c1 at h
  have hS0 : St w w [] := St.start w
  refine Ret.start (fn := Try.f63) Try.func63 rfl 15 rfl rfl ?_
  refine W.seq (W.region ?_)
  refine WL.val (Value.int .i64 (0 : Int)) _ (op_assign rfl) rfl ?_
  refine WL.nil ?_
  refine W.seq (W.region ?_)
  refine WL.val (Value.pointer (some ⟨b_c0, 3, none⟩)) _ (op_fieldAddr fd_36_1 rfl) rfl ?_
  refine WL.val v_c0_Values _ (op_load one_26 rfl (BoxAt.cell (BoxAt.lift hS0.ext k_c0) rfl)) rfl ?_
  refine WL.val (Value.int .i64 y) _ (op_move rfl) rfl ?_
  obtain ⟨x1, hx4, h⟩ := bs h
  obtain ⟨ha2, hb3, hx4⟩ := idx_some hx4
  refine WL.val (Value.pointer (some (elA v_c0_Values (y).toNat))) _ (op_idx sl_26 (Ty.lift _ hS0.ext r_c0_Values) rfl rfl ha2 hb3) rfl ?_
  obtain ⟨u5, hc6, hr7⟩ := repSl.el r_c0_Values hx4
  refine WL.val u5 _ (op_load one_22 rfl (Ext.cell hS0.ext hc6)) rfl ?_
  refine WL.val (Value.int .i64 x) _ (op_move rfl) rfl ?_
  obtain ⟨x8, hx11, h⟩ := bs h
  obtain ⟨ha9, hb10, hx11⟩ := idx_some hx11
  refine WL.val (Value.pointer (some (elA u5 (x).toNat))) _ (op_idx sl_22 (Ty.lift _ hS0.ext hr7) rfl rfl ha9 hb10) rfl ?_
  obtain ⟨u12, hc13, hr14⟩ := repSl.el hr7 hx11
  obtain ⟨rfl, hr14⟩ := hr14
  refine WL.val (Value.int .i64 x8) _ (op_load one_2 rfl (Ext.cell hS0.ext hc13)) rfl ?_
  refine WL.val (Value.int .i64 (w64 (0 - x8))) _ (op_neg rfl) rfl ?_
  refine WL.val (Value.int .i64 (w64 (0 - x8))) _ (op_assign rfl) rfl ?_
  refine WL.nil ?_
  refine W.ret ?_
  obtain rfl := Option.some.inj h
  show FinP _ _ _ _ _ _ _
  exact FinP.ret _ (res1 rfl rfl) ⟨rfl, (inR_wrap _ _), hS0.ext⟩

theorem c_impl_braidingBy {w : World} {c_Orders : (List Int)} {v_c_Orders : Value} {c_Modulus : Int} {c_Values : (List (List (List Int)))} {v_c_Values : Value} {number : Int → Int → Option Int} {v_number : Value} (r_c_Orders : (Ty.sl (Ty.i .i64)).rep w v_c_Orders c_Orders) (r_c_Modulus : InR .i64 c_Modulus) (r_c_Values : (Ty.sl (Ty.sl (Ty.sl (Ty.i .i64)))).rep w v_c_Values c_Values) (r_number : FnT_i_i_to_i Try.prog v_number w number) {res : (List Int) × Int × (List (List (List Int))) × (List (List Int))} (h : p_impl_braidingBy c_Orders c_Modulus c_Values number  = some res) :
    Ret Try.prog 61 #[(Value.agg #[v_c_Orders, (Value.int .i64 c_Modulus), v_c_Values]), v_number] w (fun v w' => ∃ (u3 : Value), v = (Value.agg #[v_c_Orders, Value.int .i64 res.2.1, v_c_Values, u3]) ∧ InR .i64 res.2.1 ∧ Ext w w' ∧ Sep w.heap.size w' [(Ty.sl (Ty.sl (Ty.i .i64))).at u3 res.2.2.2]) := by
  unfold p_impl_braidingBy at h
  have hS0 : St w w [] := St.start w
  have q_number := r_number
  obtain ⟨g_number, fst_number, cap_number, eq_number, ok_number, call_number⟩ := q_number
  subst eq_number
  refine Ret.start (fn := Try.f61) Try.func61 rfl 45 rfl rfl ?_
  refine W.seq (W.region ?_)
  refine WL.box hS0 rfl (cs := [v_c_Orders, (Value.int .i64 c_Modulus), v_c_Values]) rfl rfl ?_
  intro b1 wd2 hS3 he4 hx5
  replace hS3 : St w wd2 [bx b1 [v_c_Orders, (Value.int .i64 c_Modulus), v_c_Values]] := hS3
  have hx6 := St.boxAt hS3 0 rfl
  have hE7 : Ext w wd2 := hS3.ext
  have hS8 : St wd2 wd2 [] := St.start wd2
  refine WL.alloc hS8 ze_36 (cs := [(Value.slice none 0 0), (Value.int .i64 (0 : Int)), (Value.slice none 0 0), (Value.slice none 0 0)]) rfl rfl ?_
  intro b9 wd10 hS11 he12
  replace hS11 : St wd2 wd10 [bx b9 [(Value.slice none 0 0), (Value.int .i64 (0 : Int)), (Value.slice none 0 0), (Value.slice none 0 0)]] := hS11
  refine WL.nil ?_
  refine W.seq ?_
  obtain ⟨x92, hx93, h⟩ := bs h
  refine W.drawR mixo 10 [] [fun _ v S w' => v = (Value.agg #[v_c_Orders, (Value.int .i64 c_Modulus), v_c_Values]) ∧ InR .i64 c_Modulus, fun _ v _ _ => v = (Value.pointer (some ⟨b1, 2, none⟩)), fun _ v _ _ => v = v_c_Values, fun _ v _ _ => v = (Value.int .i64 ((c_Values).length : Int)) ∧ InR .i64 ((c_Values).length : Int), fun _ v _ _ => v = (Value.pointer (some ⟨b1, 2, none⟩)), fun _ v _ _ => v = v_c_Values, fun _ v _ _ => v = (Value.int .i64 ((c_Values).length : Int)) ∧ InR .i64 ((c_Values).length : Int), fun _ v S w' => SepS S w' [(Ty.sl (Ty.sl (Ty.i .i64))).at v x92], fun f v _ _ => v = Value.agg #[v_c_Orders, (Value.int .i64 c_Modulus), v_c_Values, f 15], fun _ v S w' => ∃ b : Nat, v = Value.pointer (some ⟨b, 0, none⟩) ∧ SepS S w' [bx b [(Value.slice none 0 0), (Value.int .i64 (0 : Int)), (Value.slice none 0 0), (Value.slice none 0 0)]]] (by kernel_rfl) (by kernel_rfl) ⟨⟨fun _ _ _ _ _ he ⟨h0, h1⟩ => ⟨h0, h1⟩, fun _ _ _ _ _ _ h => h⟩, pk, pk, pk, pk, pk, pk, ⟨fun _ _ _ _ _ he h => SepS.extend he h, fun _ _ _ _ _ _ h => h⟩, ⟨fun _ _ _ _ _ _ h => h, fun f1 f2 _ _ _ hf h => by show _ = Value.agg #[v_c_Orders, (Value.int .i64 c_Modulus), v_c_Values, f2 15]; rw [← hf 7 15 rfl rfl]; exact h⟩, ⟨fun _ _ _ _ _ he ⟨b, h1, h2⟩ => ⟨b, h1, SepS.extend he h2⟩, fun _ _ _ _ _ _ h => h⟩, trivial⟩ ⟨?_, ?_, ?_, ?_, ?_, ?_, ?_, ?_, ?_, ?_, trivial⟩ ?_
  · refine ObX.op rfl fun f13 wd14 he15 hout16 hphi17 => ?_
    have hS18 := St.extend hS11 he15
    have e19 : f13 2 = (Value.pointer (some ⟨b1, 0, none⟩)) := (hout16 2 rfl).trans rfl
    exact OpX.val (Value.agg #[v_c_Orders, (Value.int .i64 c_Modulus), v_c_Values]) wd14 rfl (op_loadBox st_34 e19 (BoxAt.lift hS18.ext hx6) rfl rfl) (Ext.refl _) ⟨rfl, r_c_Modulus⟩
  · refine ObX.op rfl fun f20 wd21 he22 hout23 hphi24 => ?_
    have e26 : f20 2 = (Value.pointer (some ⟨b1, 0, none⟩)) := (hout23 2 rfl).trans rfl
    exact OpX.val (Value.pointer (some ⟨b1, 2, none⟩)) wd21 rfl (op_fieldAddr fd_34_2 e26) (Ext.refl _) rfl
  · refine ObX.op rfl fun f27 wd28 he29 hout30 hphi31 => ?_
    have hS32 := St.extend hS11 he29
    obtain ⟨S33, hS34, hf35⟩ := hphi31 1 9 _ rfl rfl rfl
    have e36 : f27 9 = (Value.pointer (some ⟨b1, 2, none⟩)) := hf35
    exact OpX.val v_c_Values wd28 rfl (op_load one_23 e36 (BoxAt.cell (BoxAt.lift hS32.ext hx6) rfl)) (Ext.refl _) rfl
  · refine ObX.op rfl fun f37 wd38 he39 hout40 hphi41 => ?_
    have hS42 := St.extend hS11 he39
    obtain ⟨S43, hS44, hf45⟩ := hphi41 2 10 _ rfl rfl rfl
    have e46 : f37 10 = v_c_Values := hf45
    have hr47 := inR_len (Ty.lift _ (Ext.trans hE7 hS42.ext) r_c_Values)
    exact OpX.val (Value.int .i64 ((c_Values).length : Int)) wd38 rfl (op_lenL sl_23 (Ty.lift _ (Ext.trans hE7 hS42.ext) r_c_Values) e46) (Ext.refl _) ⟨rfl, hr47⟩
  · refine ObX.op rfl fun f48 wd49 he50 hout51 hphi52 => ?_
    have e54 : f48 2 = (Value.pointer (some ⟨b1, 0, none⟩)) := (hout51 2 rfl).trans rfl
    exact OpX.val (Value.pointer (some ⟨b1, 2, none⟩)) wd49 rfl (op_fieldAddr fd_34_2 e54) (Ext.refl _) rfl
  · refine ObX.op rfl fun f55 wd56 he57 hout58 hphi59 => ?_
    have hS60 := St.extend hS11 he57
    obtain ⟨S61, hS62, hf63⟩ := hphi59 4 12 _ rfl rfl rfl
    have e64 : f55 12 = (Value.pointer (some ⟨b1, 2, none⟩)) := hf63
    exact OpX.val v_c_Values wd56 rfl (op_load one_23 e64 (BoxAt.cell (BoxAt.lift hS60.ext hx6) rfl)) (Ext.refl _) rfl
  · refine ObX.op rfl fun f65 wd66 he67 hout68 hphi69 => ?_
    have hS70 := St.extend hS11 he67
    obtain ⟨S71, hS72, hf73⟩ := hphi69 5 13 _ rfl rfl rfl
    have e74 : f65 13 = v_c_Values := hf73
    have hr75 := inR_len (Ty.lift _ (Ext.trans hE7 hS70.ext) r_c_Values)
    exact OpX.val (Value.int .i64 ((c_Values).length : Int)) wd66 rfl (op_lenL sl_23 (Ty.lift _ (Ext.trans hE7 hS70.ext) r_c_Values) e74) (Ext.refl _) ⟨rfl, hr75⟩
  · refine ObX.op rfl fun f76 wd77 he78 hout79 hphi80 => ?_
    obtain ⟨S82, hS83, hf84⟩ := hphi80 3 11 _ rfl rfl rfl
    obtain ⟨e85, hr86⟩ := hf84
    obtain ⟨S87, hS88, hf89⟩ := hphi80 6 14 _ rfl rfl rfl
    obtain ⟨e90, hr91⟩ := hf89
    refine OpX.call rfl (op_call fn_111 (args2 e85 e90)) (Ret.mono (c_impl_zeros hr86 hr91 hx93) ?_)
    rintro u94 wd95 ⟨_, rfl, he96, hs97⟩
    exact ⟨he96, _, newS _ _, (Sep.new hs97)⟩
  · refine ObX.op rfl fun f98 wd99 he100 hout101 hphi102 => ?_
    obtain ⟨S104, hS105, hf106⟩ := hphi102 0 8 _ rfl rfl rfl
    obtain ⟨e107, hr108⟩ := hf106
    obtain ⟨S109, hS110, hf111⟩ := hphi102 7 15 _ rfl rfl rfl
    have e112 : SepS S109 wd99 [(Ty.sl (Ty.sl (Ty.i .i64))).at (f98 15) x92] := hf111
    exact OpX.val (Value.agg #[v_c_Orders, (Value.int .i64 c_Modulus), v_c_Values, (f98 15)]) wd99 rfl (op_build bd_36 (parts := [(0, (Value.agg #[v_c_Orders, (Value.int .i64 c_Modulus), v_c_Values]), [v_c_Orders, (Value.int .i64 c_Modulus), v_c_Values]), (1, (f98 15), [(f98 15)])]) (partsL ⟨rfl, e107, rfl, rfl, trivial⟩) ⟨rfl, (cells_rep (SepS.rep (t := (Ty.sl (Ty.sl (Ty.i .i64)))) e112 0 rfl)), trivial⟩ rfl) (Ext.refl _) rfl
  · refine ObX.op rfl fun f113 wd114 he115 hout116 hphi117 => ?_
    exact OpX.valO _ _ rfl (op_alloc (cs := [(Value.slice none 0 0), (Value.int .i64 (0 : Int)), (Value.slice none 0 0), (Value.slice none 0 0)].toArray) ze_36 rfl) (Ext.alloc _ _) ⟨_, rfl, Sep.new (sep_box _ [(Value.slice none 0 0), (Value.int .i64 (0 : Int)), (Value.slice none 0 0), (Value.slice none 0 0)] _)⟩
  · intro f119 wd120 Ss121 he122 hout123 hSn124 hSd125 hphi126
    show WL _ _ _ _ _ _ _
    have e128 : SepS (Ss121 7) wd120 [(Ty.sl (Ty.sl (Ty.i .i64))).at (f119 15) x92] := hphi126 7 15 _ (by decide) rfl rfl
    have e129 : f119 16 = (Value.agg #[v_c_Orders, (Value.int .i64 c_Modulus), v_c_Values, (f119 15)]) := (hphi126 8 16 _ (by decide) rfl rfl)
    obtain ⟨b131, e130, e130s⟩ : ∃ b : Nat, f119 5 = Value.pointer (some ⟨b, 0, none⟩) ∧ SepS (Ss121 9) wd120 [bx b [(Value.slice none 0 0), (Value.int .i64 (0 : Int)), (Value.slice none 0 0), (Value.slice none 0 0)]] := hphi126 9 5 _ (by decide) rfl rfl
    have e132 : f119 1 = (Value.func (.func g_number) fst_number cap_number) := (hout123 1 rfl).trans rfl
    have e133 : f119 2 = (Value.pointer (some ⟨b1, 0, none⟩)) := (hout123 2 rfl).trans rfl
    have e134 : f119 4 = (Value.pointer (some ⟨b9, 0, none⟩)) := (hout123 4 rfl).trans rfl
    have hS135 := St.joinS hS11 he122 hSn124 (SepS.consS hSd125 rfl e130s (SepS.consS hSd125 rfl e128 SepS.nilS))
    replace hS135 : St wd2 wd120 [bx b9 [(Value.slice none 0 0), (Value.int .i64 (0 : Int)), (Value.slice none 0 0), (Value.slice none 0 0)], bx b131 [(Value.slice none 0 0), (Value.int .i64 (0 : Int)), (Value.slice none 0 0), (Value.slice none 0 0)], (Ty.sl (Ty.sl (Ty.i .i64))).at (f119 15) x92] := hS135
    refine WL.storeBox [v_c_Orders, (Value.int .i64 c_Modulus), v_c_Values, (f119 15)] hS135 (k := 1) rfl e130 e129 (us := [v_c_Orders, (Value.int .i64 c_Modulus), v_c_Values, (f119 15)]) rfl sz_36 rfl rfl (all_rep (Ty.lift _ (Ext.trans hE7 hS135.ext) r_c_Orders) (all_cons rfl (all_rep (Ty.lift _ (Ext.trans hE7 hS135.ext) r_c_Values) (all_rep (St.rep (t := (Ty.sl (Ty.sl (Ty.i .i64)))) hS135 2 rfl) all_nil)))) rfl ?_
    intro wd136 hS137
    replace hS137 : St wd2 wd136 [bx b9 [(Value.slice none 0 0), (Value.int .i64 (0 : Int)), (Value.slice none 0 0), (Value.slice none 0 0)], bx b131 [v_c_Orders, (Value.int .i64 c_Modulus), v_c_Values, (f119 15)], (Ty.sl (Ty.sl (Ty.i .i64))).at (f119 15) x92] := hS137
    refine WL.nil ?_
    refine W.seq (W.seq (W.region ?_))
    refine WL.val (Value.pointer (some ⟨b131, 3, none⟩)) _ (op_fieldAddr fd_36_1 e130) rfl ?_
    refine WL.val (f119 15) _ (op_load one_26 rfl (BoxAt.cell (St.boxAt hS137 1 rfl) rfl)) rfl ?_
    have hr138 := inR_len (St.rep (t := (Ty.sl (Ty.sl (Ty.i .i64)))) hS137 2 rfl)
    refine WL.val (Value.int .i64 ((x92).length : Int)) _ (op_lenL sl_26 (St.rep (t := (Ty.sl (Ty.sl (Ty.i .i64)))) hS137 2 rfl) rfl) rfl ?_
    refine WL.val (Value.int .i64 (0 : Int)) _ (op_move rfl) rfl ?_
    refine WL.nil ?_
    show W _ _ _ _ _ _
    obtain ⟨res139, hres140, h⟩ := bs h
    refine W.blockLoop (fun fq wq => ∃ s, res139 = Res.fin s ∧ fq 4 = (Value.pointer (some ⟨b9, 0, none⟩)) ∧ fq 5 = (Value.pointer (some ⟨b131, 0, none⟩)) ∧ St wd2 wq [bx b9 [(Value.slice none 0 0), (Value.int .i64 (0 : Int)), (Value.slice none 0 0), (Value.slice none 0 0)], bx b131 [v_c_Orders, (Value.int .i64 c_Modulus), v_c_Values, (f119 15)], (Ty.sl (Ty.sl (Ty.i .i64))).at (f119 15) s]) ?_ ?_
    · refine W.forN (fun k (s : (List (List Int))) fq wq => fq 1 = (Value.func (.func g_number) fst_number cap_number) ∧ fq 2 = (Value.pointer (some ⟨b1, 0, none⟩)) ∧ fq 4 = (Value.pointer (some ⟨b9, 0, none⟩)) ∧ fq 5 = (Value.pointer (some ⟨b131, 0, none⟩)) ∧ fq 19 = (Value.int .i64 ((x92).length : Int)) ∧ fq 20 = Value.int .i64 (k : Int) ∧ InR .i64 (k : Int) ∧ St wd2 wq [bx b9 [(Value.slice none 0 0), (Value.int .i64 (0 : Int)), (Value.slice none 0 0), (Value.slice none 0 0)], bx b131 [v_c_Orders, (Value.int .i64 c_Modulus), v_c_Values, (f119 15)], (Ty.sl (Ty.sl (Ty.i .i64))).at (f119 15) s]) hres140 ⟨e132, e133, e134, e130, rfl, rfl, (inL rfl), hS137⟩ ?_ ?_
      · intro k141 x142 ct143 f144 wd145 hk146 hb147 hI148 hbrk149 hret150
        replace hI148 : f144 1 = (Value.func (.func g_number) fst_number cap_number) ∧ f144 2 = (Value.pointer (some ⟨b1, 0, none⟩)) ∧ f144 4 = (Value.pointer (some ⟨b9, 0, none⟩)) ∧ f144 5 = (Value.pointer (some ⟨b131, 0, none⟩)) ∧ f144 19 = (Value.int .i64 ((x92).length : Int)) ∧ f144 20 = Value.int .i64 (k141 : Int) ∧ InR .i64 (k141 : Int) ∧ St wd2 wd145 [bx b9 [(Value.slice none 0 0), (Value.int .i64 (0 : Int)), (Value.slice none 0 0), (Value.slice none 0 0)], bx b131 [v_c_Orders, (Value.int .i64 c_Modulus), v_c_Values, (f119 15)], (Ty.sl (Ty.sl (Ty.i .i64))).at (f119 15) x142] := hI148
        replace hb147 : p_impl_braidingBy_L1 number c_Orders c_Modulus c_Values k141 x142 = some ct143 := hb147
        unfold p_impl_braidingBy_L1 at hb147
        obtain ⟨hf151, hf152, hf153, hf154, hf155, hf156, hr157, hS158⟩ := hI148
        refine W.seq (W.region ?_)
        refine WL.val (Value.bool (decide ((k141 : Int) < ((x92).length : Int)))) _ (op_lss hf156 hf155) rfl ?_
        have hl159 : (k141 : Int) < ((x92).length : Int) := by omega
        refine WL.nil ?_
        refine W.seq ?_
        refine W.condT (decide ((k141 : Int) < ((x92).length : Int))) rfl (decide_eq_true hl159) ?_
        refine W.skip ?_
        refine W.seq ?_
        refine W.block ?_
        refine W.seq (W.region ?_)
        refine WL.val (Value.int .i64 (k141 : Int)) _ (op_move hf156) rfl ?_
        refine WL.val (Value.int .i64 (k141 : Int)) _ (op_assign rfl) rfl ?_
        refine WL.nil ?_
        refine W.seq (W.region ?_)
        refine WL.val (Value.pointer (some ⟨b131, 3, none⟩)) _ (op_fieldAddr fd_36_1 hf154) rfl ?_
        refine WL.val (f119 15) _ (op_load one_26 rfl (BoxAt.cell (St.boxAt hS158 1 rfl) rfl)) rfl ?_
        have hr161 := inR_len (St.rep (t := (Ty.sl (Ty.sl (Ty.i .i64)))) hS158 2 rfl)
        refine WL.val (Value.int .i64 ((x142).length : Int)) _ (op_lenL sl_26 (St.rep (t := (Ty.sl (Ty.sl (Ty.i .i64)))) hS158 2 rfl) rfl) rfl ?_
        refine WL.val (Value.int .i64 (0 : Int)) _ (op_move rfl) rfl ?_
        refine WL.nil ?_
        show W _ _ _ _ _ _
        obtain ⟨res162, hres163, hb147⟩ := bs hb147
        refine W.blockLoop (fun fq wq => ∃ s, res162 = Res.fin s ∧ fq 1 = (Value.func (.func g_number) fst_number cap_number) ∧ fq 2 = (Value.pointer (some ⟨b1, 0, none⟩)) ∧ fq 4 = (Value.pointer (some ⟨b9, 0, none⟩)) ∧ fq 5 = (Value.pointer (some ⟨b131, 0, none⟩)) ∧ fq 19 = (Value.int .i64 ((x92).length : Int)) ∧ fq 20 = (Value.int .i64 (k141 : Int)) ∧ St wd2 wq [bx b9 [(Value.slice none 0 0), (Value.int .i64 (0 : Int)), (Value.slice none 0 0), (Value.slice none 0 0)], bx b131 [v_c_Orders, (Value.int .i64 c_Modulus), v_c_Values, (f119 15)], (Ty.sl (Ty.sl (Ty.i .i64))).at (f119 15) s]) ?_ ?_
        · refine W.forN (fun k (s : (List (List Int))) fq wq => fq 1 = (Value.func (.func g_number) fst_number cap_number) ∧ fq 2 = (Value.pointer (some ⟨b1, 0, none⟩)) ∧ fq 4 = (Value.pointer (some ⟨b9, 0, none⟩)) ∧ fq 5 = (Value.pointer (some ⟨b131, 0, none⟩)) ∧ fq 6 = (Value.int .i64 (k141 : Int)) ∧ fq 19 = (Value.int .i64 ((x92).length : Int)) ∧ fq 20 = (Value.int .i64 (k141 : Int)) ∧ fq 25 = (Value.int .i64 ((x142).length : Int)) ∧ fq 26 = Value.int .i64 (k : Int) ∧ InR .i64 (k : Int) ∧ St wd2 wq [bx b9 [(Value.slice none 0 0), (Value.int .i64 (0 : Int)), (Value.slice none 0 0), (Value.slice none 0 0)], bx b131 [v_c_Orders, (Value.int .i64 c_Modulus), v_c_Values, (f119 15)], (Ty.sl (Ty.sl (Ty.i .i64))).at (f119 15) s]) hres163 ⟨hf151, hf152, hf153, hf154, rfl, hf155, hf156, rfl, rfl, (inL rfl), hS158⟩ ?_ ?_
          · intro k164 x165 ct166 f167 wd168 hk169 hb170 hI171 hbrk172 hret173
            replace hI171 : f167 1 = (Value.func (.func g_number) fst_number cap_number) ∧ f167 2 = (Value.pointer (some ⟨b1, 0, none⟩)) ∧ f167 4 = (Value.pointer (some ⟨b9, 0, none⟩)) ∧ f167 5 = (Value.pointer (some ⟨b131, 0, none⟩)) ∧ f167 6 = (Value.int .i64 (k141 : Int)) ∧ f167 19 = (Value.int .i64 ((x92).length : Int)) ∧ f167 20 = (Value.int .i64 (k141 : Int)) ∧ f167 25 = (Value.int .i64 ((x142).length : Int)) ∧ f167 26 = Value.int .i64 (k164 : Int) ∧ InR .i64 (k164 : Int) ∧ St wd2 wd168 [bx b9 [(Value.slice none 0 0), (Value.int .i64 (0 : Int)), (Value.slice none 0 0), (Value.slice none 0 0)], bx b131 [v_c_Orders, (Value.int .i64 c_Modulus), v_c_Values, (f119 15)], (Ty.sl (Ty.sl (Ty.i .i64))).at (f119 15) x165] := hI171
            replace hb170 : p_impl_braidingBy_L2 k141 number c_Orders c_Modulus c_Values k164 x165 = some ct166 := hb170
            unfold p_impl_braidingBy_L2 at hb170
            obtain ⟨hf174, hf175, hf176, hf177, hf178, hf179, hf180, hf181, hf182, hr183, hS184⟩ := hI171
            refine W.seq (W.region ?_)
            refine WL.val (Value.bool (decide ((k164 : Int) < ((x142).length : Int)))) _ (op_lss hf182 hf181) rfl ?_
            have hl185 : (k164 : Int) < ((x142).length : Int) := by omega
            refine WL.nil ?_
            refine W.seq ?_
            refine W.condT (decide ((k164 : Int) < ((x142).length : Int))) rfl (decide_eq_true hl185) ?_
            refine W.skip ?_
            refine W.seq ?_
            refine W.block ?_
            refine W.seq (W.region ?_)
            refine WL.val (Value.int .i64 (k164 : Int)) _ (op_move hf182) rfl ?_
            refine WL.val (Value.int .i64 (k164 : Int)) _ (op_assign rfl) rfl ?_
            refine WL.nil ?_
            show W _ _ _ _ _ _
            obtain ⟨x226, hx229, hb170⟩ := bs hb170
            obtain ⟨ha227, hb228, hx229⟩ := idx_some hx229
            obtain ⟨u240, hc241, hr242⟩ := repSl.el (St.rep (t := (Ty.sl (Ty.sl (Ty.i .i64)))) hS184 2 rfl) hx229
            obtain ⟨x298, hx299, hb170⟩ := bs hb170
            obtain ⟨x319, hx320, hb170⟩ := bs hb170
            refine W.drawR mixo 12 [] [fun _ v _ _ => v = (Value.pointer (some ⟨b131, 3, none⟩)), fun _ v _ _ => v = (f119 15), fun _ v _ _ => v = (Value.int .i64 (k141 : Int)) ∧ InR .i64 (k141 : Int), fun _ v _ _ => v = (Value.pointer (some (elA (f119 15) ((k141 : Int)).toNat))), fun _ v _ _ => v = u240, fun _ v _ _ => v = (Value.int .i64 (k164 : Int)) ∧ InR .i64 (k164 : Int), fun _ v S w' => v = (Value.agg #[v_c_Orders, (Value.int .i64 c_Modulus), v_c_Values]) ∧ InR .i64 c_Modulus, fun _ v _ _ => v = (Value.func (.func g_number) fst_number cap_number), fun _ v _ _ => v = (Value.int .i64 (k141 : Int)) ∧ InR .i64 (k141 : Int), fun _ v _ _ => v = (Value.int .i64 (k164 : Int)) ∧ InR .i64 (k164 : Int), fun _ v _ _ => v = (Value.int .i64 x298) ∧ InR .i64 x298, fun _ v _ _ => v = (Value.int .i64 x319) ∧ InR .i64 x319] (by kernel_rfl) (by kernel_rfl) ⟨pk, pk, pk, pk, pk, pk, ⟨fun _ _ _ _ _ he ⟨h0, h1⟩ => ⟨h0, h1⟩, fun _ _ _ _ _ _ h => h⟩, pk, pk, pk, pk, pk, trivial⟩ ⟨?_, ?_, ?_, ?_, ?_, ?_, ?_, ?_, ?_, ?_, ?_, ?_, trivial⟩ ?_
            · refine ObX.op rfl fun f187 wd188 he189 hout190 hphi191 => ?_
              have e193 : f187 5 = (Value.pointer (some ⟨b131, 0, none⟩)) := (hout190 5 rfl).trans hf177
              exact OpX.val (Value.pointer (some ⟨b131, 3, none⟩)) wd188 rfl (op_fieldAddr fd_36_1 e193) (Ext.refl _) rfl
            · refine ObX.op rfl fun f194 wd195 he196 hout197 hphi198 => ?_
              have hS199 := St.extend hS184 he196
              obtain ⟨S200, hS201, hf202⟩ := hphi198 0 29 _ rfl rfl rfl
              have e203 : f194 29 = (Value.pointer (some ⟨b131, 3, none⟩)) := hf202
              exact OpX.val (f119 15) wd195 rfl (op_load one_26 e203 (BoxAt.cell (St.boxAt hS199 1 rfl) rfl)) (Ext.refl _) rfl
            · refine ObX.op rfl fun f204 wd205 he206 hout207 hphi208 => ?_
              have e210 : f204 6 = (Value.int .i64 (k141 : Int)) := (hout207 6 rfl).trans hf178
              exact OpX.val (Value.int .i64 (k141 : Int)) wd205 rfl (op_move e210) (Ext.refl _) ⟨rfl, hr157⟩
            · refine ObX.op rfl fun f211 wd212 he213 hout214 hphi215 => ?_
              have hS216 := St.extend hS184 he213
              obtain ⟨S217, hS218, hf219⟩ := hphi215 1 30 _ rfl rfl rfl
              have e220 : f211 30 = (f119 15) := hf219
              obtain ⟨S221, hS222, hf223⟩ := hphi215 2 31 _ rfl rfl rfl
              obtain ⟨e224, hr225⟩ := hf223
              exact OpX.val (Value.pointer (some (elA (f119 15) ((k141 : Int)).toNat))) wd212 rfl (op_idx sl_26 (St.rep (t := (Ty.sl (Ty.sl (Ty.i .i64)))) hS216 2 rfl) e220 e224 ha227 hb228) (Ext.refl _) rfl
            · refine ObX.op rfl fun f230 wd231 he232 hout233 hphi234 => ?_
              obtain ⟨S236, hS237, hf238⟩ := hphi234 3 32 _ rfl rfl rfl
              have e239 : f230 32 = (Value.pointer (some (elA (f119 15) ((k141 : Int)).toNat))) := hf238
              exact OpX.val u240 wd231 rfl (op_load one_22 e239 (Ext.cell he232 hc241)) (Ext.refl _) rfl
            · refine ObX.op rfl fun f243 wd244 he245 hout246 hphi247 => ?_
              have e249 : f243 7 = (Value.int .i64 (k164 : Int)) := (hout246 7 rfl).trans rfl
              exact OpX.val (Value.int .i64 (k164 : Int)) wd244 rfl (op_move e249) (Ext.refl _) ⟨rfl, hr183⟩
            · refine ObX.op rfl fun f250 wd251 he252 hout253 hphi254 => ?_
              have hS255 := St.extend hS184 he252
              have e256 : f250 2 = (Value.pointer (some ⟨b1, 0, none⟩)) := (hout253 2 rfl).trans hf175
              exact OpX.val (Value.agg #[v_c_Orders, (Value.int .i64 c_Modulus), v_c_Values]) wd251 rfl (op_loadBox st_34 e256 (BoxAt.lift hS255.ext hx6) rfl rfl) (Ext.refl _) ⟨rfl, r_c_Modulus⟩
            · refine ObX.op rfl fun f257 wd258 he259 hout260 hphi261 => ?_
              have e263 : f257 1 = (Value.func (.func g_number) fst_number cap_number) := (hout260 1 rfl).trans hf174
              exact OpX.val (Value.func (.func g_number) fst_number cap_number) wd258 rfl (op_move e263) (Ext.refl _) rfl
            · refine ObX.op rfl fun f264 wd265 he266 hout267 hphi268 => ?_
              have e270 : f264 6 = (Value.int .i64 (k141 : Int)) := (hout267 6 rfl).trans hf178
              exact OpX.val (Value.int .i64 (k141 : Int)) wd265 rfl (op_move e270) (Ext.refl _) ⟨rfl, hr157⟩
            · refine ObX.op rfl fun f271 wd272 he273 hout274 hphi275 => ?_
              have e277 : f271 7 = (Value.int .i64 (k164 : Int)) := (hout274 7 rfl).trans rfl
              exact OpX.val (Value.int .i64 (k164 : Int)) wd272 rfl (op_move e277) (Ext.refl _) ⟨rfl, hr183⟩
            · refine ObX.op rfl fun f278 wd279 he280 hout281 hphi282 => ?_
              have hS283 := St.extend hS184 he280
              obtain ⟨S284, hS285, hf286⟩ := hphi282 7 36 _ rfl rfl rfl
              have e287 : f278 36 = (Value.func (.func g_number) fst_number cap_number) := hf286
              obtain ⟨S288, hS289, hf290⟩ := hphi282 8 37 _ rfl rfl rfl
              obtain ⟨e291, hr292⟩ := hf290
              obtain ⟨S293, hS294, hf295⟩ := hphi282 9 38 _ rfl rfl rfl
              obtain ⟨e296, hr297⟩ := hf295
              refine OpX.call rfl (op_callV e287 ok_number (args2 e291 e296)) (Ret.mono (call_number wd279 (k141 : Int) (k164 : Int) x298 (Ext.trans hE7 hS283.ext) hr292 hr297 hx299) ?_)
              rintro _ wd300 ⟨rfl, hr302, he301⟩
              exact ⟨he301, _, noS _ _, ⟨rfl, hr302⟩⟩
            · refine ObX.op rfl fun f303 wd304 he305 hout306 hphi307 => ?_
              have hS308 := St.extend hS184 he305
              obtain ⟨S309, hS310, hf311⟩ := hphi307 6 35 _ rfl rfl rfl
              obtain ⟨e312, hr313⟩ := hf311
              obtain ⟨S314, hS315, hf316⟩ := hphi307 10 39 _ rfl rfl rfl
              obtain ⟨e317, hr318⟩ := hf316
              refine OpX.call rfl (op_call fn_85 (args2 e312 e317)) (Ret.mono (c_impl_Cocycle_rest (Ty.lift _ (Ext.trans hE7 hS308.ext) r_c_Orders) hr313 (Ty.lift _ (Ext.trans hE7 hS308.ext) r_c_Values) hr318 hx320) ?_)
              rintro _ wd322 ⟨rfl, hr321, he323⟩
              exact ⟨he323, _, noS _ _, ⟨rfl, hr321⟩⟩
            · intro f325 wd326 Ss327 he328 hout329 hSn330 hSd331 hphi332
              show WL _ _ _ _ _ _ _
              have hS333 := St.extend hS184 he328
              have e334 : f325 33 = u240 := hphi332 4 33 _ (by decide) rfl rfl
              obtain ⟨e335, hr336⟩ := hphi332 5 34 _ (by decide) rfl rfl
              obtain ⟨e337, hr338⟩ := hphi332 11 40 _ (by decide) rfl rfl
              have e339 : f325 1 = (Value.func (.func g_number) fst_number cap_number) := (hout329 1 rfl).trans hf174
              have e340 : f325 2 = (Value.pointer (some ⟨b1, 0, none⟩)) := (hout329 2 rfl).trans hf175
              have e341 : f325 4 = (Value.pointer (some ⟨b9, 0, none⟩)) := (hout329 4 rfl).trans hf176
              have e342 : f325 5 = (Value.pointer (some ⟨b131, 0, none⟩)) := (hout329 5 rfl).trans hf177
              have e343 : f325 6 = (Value.int .i64 (k141 : Int)) := (hout329 6 rfl).trans hf178
              have e344 : f325 19 = (Value.int .i64 ((x92).length : Int)) := (hout329 19 rfl).trans hf179
              have e345 : f325 20 = (Value.int .i64 (k141 : Int)) := (hout329 20 rfl).trans hf180
              have e346 : f325 25 = (Value.int .i64 ((x142).length : Int)) := (hout329 25 rfl).trans hf181
              have e347 : f325 26 = (Value.int .i64 (k164 : Int)) := (hout329 26 rfl).trans hf182
              obtain ⟨x348, hx351, hb170⟩ := bs hb170
              obtain ⟨ha349, hb350, hx351⟩ := idx_some hx351
              refine WL.val (Value.pointer (some (elA u240 ((k164 : Int)).toNat))) _ (op_idx sl_22 (Ty.lift _ he328 hr242) e334 e335 ha349 hb350) rfl ?_
              refine WL.storeEl2 (flat_i .i64) hS333 (k := 2) rfl sz_2 hx229 (Ext.cell he328 hc241) rfl e337 (lt_of_idx ha349 hb350) ⟨rfl, hr338⟩ ?_
              intro wd352 hS353
              replace hS353 : St wd2 wd352 [bx b9 [(Value.slice none 0 0), (Value.int .i64 (0 : Int)), (Value.slice none 0 0), (Value.slice none 0 0)], bx b131 [v_c_Orders, (Value.int .i64 c_Modulus), v_c_Values, (f119 15)], (Ty.sl (Ty.sl (Ty.i .i64))).at (f119 15) ((x165).set ((k141 : Int)).toNat ((x226).set ((k164 : Int)).toNat x319))] := hS353
              refine WL.nil ?_
              show W _ _ _ _ _ _
              refine W.region ?_
              refine WL.val (Value.int .i64 (w64 ((k164 : Int) + (1 : Int)))) _ (op_add e347 rfl) rfl ?_
              refine WL.val (Value.int .i64 (w64 ((k164 : Int) + (1 : Int)))) _ (op_move rfl) rfl ?_
              refine WL.nil ?_
              obtain rfl := Option.some.inj hb170
              show ∃ s, _ = Ctl.next s ∧ _
              exact ⟨_, rfl, e339, e340, e341, e342, e343, e344, e345, e346, (ctr_next hl185 hr161), (ctr_rng hl185 hr161), hS353⟩
          · intro x360 f355 wd356 hs357 hI358
            replace hI358 : f355 1 = (Value.func (.func g_number) fst_number cap_number) ∧ f355 2 = (Value.pointer (some ⟨b1, 0, none⟩)) ∧ f355 4 = (Value.pointer (some ⟨b9, 0, none⟩)) ∧ f355 5 = (Value.pointer (some ⟨b131, 0, none⟩)) ∧ f355 6 = (Value.int .i64 (k141 : Int)) ∧ f355 19 = (Value.int .i64 ((x92).length : Int)) ∧ f355 20 = (Value.int .i64 (k141 : Int)) ∧ f355 25 = (Value.int .i64 ((x142).length : Int)) ∧ f355 26 = Value.int .i64 (((x142).length : Nat) : Int) ∧ InR .i64 (((x142).length : Nat) : Int) ∧ St wd2 wd356 [bx b9 [(Value.slice none 0 0), (Value.int .i64 (0 : Int)), (Value.slice none 0 0), (Value.slice none 0 0)], bx b131 [v_c_Orders, (Value.int .i64 c_Modulus), v_c_Values, (f119 15)], (Ty.sl (Ty.sl (Ty.i .i64))).at (f119 15) x360] := hI358
            obtain ⟨hf361, hf362, hf363, hf364, hf365, hf366, hf367, hf368, hf369, hr370, hS371⟩ := hI358
            refine W.seq (W.region ?_)
            refine WL.val (Value.bool (decide ((((x142).length : Nat) : Int) < ((x142).length : Int)))) _ (op_lss hf369 hf368) rfl ?_
            have hl372 : ¬ (((x142).length : Nat) : Int) < ((x142).length : Int) := by omega
            refine WL.nil ?_
            refine W.seq ?_
            refine W.condF (decide ((((x142).length : Nat) : Int) < ((x142).length : Int))) rfl (decide_eq_false hl372) ?_
            refine W.exit ?_
            show _ = _ ∧ _
            exact ⟨rfl, _, hs357, hf361, hf362, hf363, hf364, hf366, hf367, hS371⟩
        · rintro f373 wd374 ⟨x377, rfl, hq375⟩
          replace hb147 := onRes_fin hb147
          replace hq375 : f373 1 = (Value.func (.func g_number) fst_number cap_number) ∧ f373 2 = (Value.pointer (some ⟨b1, 0, none⟩)) ∧ f373 4 = (Value.pointer (some ⟨b9, 0, none⟩)) ∧ f373 5 = (Value.pointer (some ⟨b131, 0, none⟩)) ∧ f373 19 = (Value.int .i64 ((x92).length : Int)) ∧ f373 20 = (Value.int .i64 (k141 : Int)) ∧ St wd2 wd374 [bx b9 [(Value.slice none 0 0), (Value.int .i64 (0 : Int)), (Value.slice none 0 0), (Value.slice none 0 0)], bx b131 [v_c_Orders, (Value.int .i64 c_Modulus), v_c_Values, (f119 15)], (Ty.sl (Ty.sl (Ty.i .i64))).at (f119 15) x377] := hq375
          obtain ⟨hf378, hf379, hf380, hf381, hf382, hf383, hS384⟩ := hq375
          show W _ _ _ _ _ _
          refine W.region ?_
          refine WL.val (Value.int .i64 (w64 ((k141 : Int) + (1 : Int)))) _ (op_add hf383 rfl) rfl ?_
          refine WL.val (Value.int .i64 (w64 ((k141 : Int) + (1 : Int)))) _ (op_move rfl) rfl ?_
          refine WL.nil ?_
          obtain rfl := Option.some.inj hb147
          show ∃ s, _ = Ctl.next s ∧ _
          exact ⟨_, rfl, hf378, hf379, hf380, hf381, hf382, (ctr_next hl159 hr138), (ctr_rng hl159 hr138), hS384⟩
      · intro x392 f387 wd388 hs389 hI390
        replace hI390 : f387 1 = (Value.func (.func g_number) fst_number cap_number) ∧ f387 2 = (Value.pointer (some ⟨b1, 0, none⟩)) ∧ f387 4 = (Value.pointer (some ⟨b9, 0, none⟩)) ∧ f387 5 = (Value.pointer (some ⟨b131, 0, none⟩)) ∧ f387 19 = (Value.int .i64 ((x92).length : Int)) ∧ f387 20 = Value.int .i64 (((x92).length : Nat) : Int) ∧ InR .i64 (((x92).length : Nat) : Int) ∧ St wd2 wd388 [bx b9 [(Value.slice none 0 0), (Value.int .i64 (0 : Int)), (Value.slice none 0 0), (Value.slice none 0 0)], bx b131 [v_c_Orders, (Value.int .i64 c_Modulus), v_c_Values, (f119 15)], (Ty.sl (Ty.sl (Ty.i .i64))).at (f119 15) x392] := hI390
        obtain ⟨hf393, hf394, hf395, hf396, hf397, hf398, hr399, hS400⟩ := hI390
        refine W.seq (W.region ?_)
        refine WL.val (Value.bool (decide ((((x92).length : Nat) : Int) < ((x92).length : Int)))) _ (op_lss hf398 hf397) rfl ?_
        have hl401 : ¬ (((x92).length : Nat) : Int) < ((x92).length : Int) := by omega
        refine WL.nil ?_
        refine W.seq ?_
        refine W.condF (decide ((((x92).length : Nat) : Int) < ((x92).length : Int))) rfl (decide_eq_false hl401) ?_
        refine W.exit ?_
        show _ = _ ∧ _
        exact ⟨rfl, _, hs389, hf395, hf396, hS400⟩
    · rintro f402 wd403 ⟨x406, rfl, hq404⟩
      replace h := onRes_fin h
      replace hq404 : f402 4 = (Value.pointer (some ⟨b9, 0, none⟩)) ∧ f402 5 = (Value.pointer (some ⟨b131, 0, none⟩)) ∧ St wd2 wd403 [bx b9 [(Value.slice none 0 0), (Value.int .i64 (0 : Int)), (Value.slice none 0 0), (Value.slice none 0 0)], bx b131 [v_c_Orders, (Value.int .i64 c_Modulus), v_c_Values, (f119 15)], (Ty.sl (Ty.sl (Ty.i .i64))).at (f119 15) x406] := hq404
      obtain ⟨hf407, hf408, hS409⟩ := hq404
      refine W.seq (W.region ?_)
      refine WL.val (Value.agg #[v_c_Orders, (Value.int .i64 c_Modulus), v_c_Values, (f119 15)]) _ (op_loadBox st_36 hf408 (St.boxAt hS409 1 rfl) rfl rfl) rfl ?_
      refine WL.storeBox [v_c_Orders, (Value.int .i64 c_Modulus), v_c_Values, (f119 15)] hS409 (k := 0) rfl hf407 rfl (us := [v_c_Orders, (Value.int .i64 c_Modulus), v_c_Values, (f119 15)]) rfl sz_36 rfl rfl (all_rep (Ty.lift _ (Ext.trans hE7 hS409.ext) r_c_Orders) (all_cons rfl (all_rep (Ty.lift _ (Ext.trans hE7 hS409.ext) r_c_Values) (all_rep (St.rep (t := (Ty.sl (Ty.sl (Ty.i .i64)))) hS409 2 rfl) all_nil)))) rfl ?_
      intro wd410 hS411
      replace hS411 : St wd2 wd410 [bx b9 [v_c_Orders, (Value.int .i64 c_Modulus), v_c_Values, (f119 15)], bx b131 [v_c_Orders, (Value.int .i64 c_Modulus), v_c_Values, (f119 15)], (Ty.sl (Ty.sl (Ty.i .i64))).at (f119 15) x406] := hS411
      refine WL.nil ?_
      refine W.ret ?_
      obtain rfl := Option.some.inj h
      show FinP _ _ _ _ _ _ _
      exact FinP.ret _ (resC rfl hf407 st_36 (St.boxAt hS411 0 rfl) rfl) ⟨(f119 15), rfl, r_c_Modulus, (Ext.trans hE7 hS411.ext), (St.out (St.pick hS411 [2] rfl) (hE7))⟩

theorem c_impl_ReverseBraiding {w : World} {b_Cocycle_Orders : (List Int)} {v_b_Cocycle_Orders : Value} {b_Cocycle_Modulus : Int} {b_Cocycle_Values : (List (List (List Int)))} {v_b_Cocycle_Values : Value} {b_Values : (List (List Int))} {v_b_Values : Value} (r_b_Cocycle_Orders : (Ty.sl (Ty.i .i64)).rep w v_b_Cocycle_Orders b_Cocycle_Orders) (r_b_Cocycle_Modulus : InR .i64 b_Cocycle_Modulus) (r_b_Cocycle_Values : (Ty.sl (Ty.sl (Ty.sl (Ty.i .i64)))).rep w v_b_Cocycle_Values b_Cocycle_Values) (r_b_Values : (Ty.sl (Ty.sl (Ty.i .i64))).rep w v_b_Values b_Values) {res : (List Int) × Int × (List (List (List Int))) × (List (List Int)) × Int} (h : p_impl_ReverseBraiding b_Cocycle_Orders b_Cocycle_Modulus b_Cocycle_Values b_Values  = some res) :
    Ret Try.prog 16 #[(Value.agg #[v_b_Cocycle_Orders, (Value.int .i64 b_Cocycle_Modulus), v_b_Cocycle_Values, v_b_Values])] w (fun v w' => ∃ (u0 : Value) (u2 : Value) (u3 : Value), v = (Value.tuple #[(Value.agg #[u0, Value.int .i64 res.2.1, u2, u3]), Value.int .i64 res.2.2.2.2]) ∧ InR .i64 res.2.1 ∧ InR .i64 res.2.2.2.2 ∧ Ext w w' ∧ Sep w.heap.size w' [(Ty.sl (Ty.i .i64)).at u0 res.1, (Ty.sl (Ty.sl (Ty.sl (Ty.i .i64)))).at u2 res.2.2.1, (Ty.sl (Ty.sl (Ty.i .i64))).at u3 res.2.2.2.1]) := by
  unfold p_impl_ReverseBraiding at h
  have hS0 : St w w [] := St.start w
  refine Ret.start (fn := Try.f16) Try.func16 rfl 13 rfl rfl ?_
  refine W.seq (W.region ?_)
  refine WL.box hS0 rfl (cs := [v_b_Cocycle_Orders, (Value.int .i64 b_Cocycle_Modulus), v_b_Cocycle_Values, v_b_Values]) rfl rfl ?_
  intro b1 wd2 hS3 he4 hx5
  replace hS3 : St w wd2 [bx b1 [v_b_Cocycle_Orders, (Value.int .i64 b_Cocycle_Modulus), v_b_Cocycle_Values, v_b_Values]] := hS3
  have hx6 := St.boxAt hS3 0 rfl
  have hE7 : Ext w wd2 := hS3.ext
  have hS8 : St wd2 wd2 [] := St.start wd2
  refine WL.alloc hS8 ze_36 (cs := [(Value.slice none 0 0), (Value.int .i64 (0 : Int)), (Value.slice none 0 0), (Value.slice none 0 0)]) rfl rfl ?_
  intro b9 wd10 hS11 he12
  replace hS11 : St wd2 wd10 [bx b9 [(Value.slice none 0 0), (Value.int .i64 (0 : Int)), (Value.slice none 0 0), (Value.slice none 0 0)]] := hS11
  refine WL.val (Value.int .i64 (0 : Int)) _ (op_assign rfl) rfl ?_
  refine WL.nil ?_
  refine W.seq (W.seq (W.region ?_))
  refine WL.val (Value.agg #[v_b_Cocycle_Orders, (Value.int .i64 b_Cocycle_Modulus), v_b_Cocycle_Values, v_b_Values]) _ (op_loadBox st_36 rfl (BoxAt.lift hS11.ext hx6) rfl rfl) rfl ?_
  obtain ⟨x13, hx14, h⟩ := bs h
  refine WL.call _ (op_call fn_48 (args1 rfl)) (c_impl_IsBraiding (Ty.lift _ (Ext.trans hE7 hS11.ext) r_b_Cocycle_Orders) r_b_Cocycle_Modulus (Ty.lift _ (Ext.trans hE7 hS11.ext) r_b_Cocycle_Values) (Ty.lift _ (Ext.trans hE7 hS11.ext) r_b_Values) hx14) rfl ?_
  rintro _ wd15 ⟨rfl, he16⟩
  have hS18 := St.extend hS11 he16
  replace hS18 : St wd2 wd15 [bx b9 [(Value.slice none 0 0), (Value.int .i64 (0 : Int)), (Value.slice none 0 0), (Value.slice none 0 0)]] := hS18
  refine WL.val (Value.bool (!x13)) _ (op_not rfl) rfl ?_
  refine WL.nil ?_
  refine W.cond (!x13) rfl (fun hc19 => ?_) (fun hc19 => ?_)
  · replace h := ip h hc19
    refine W.seq (W.region ?_)
    refine WL.val (Value.agg #[(Value.slice none 0 0), (Value.int .i64 (0 : Int)), (Value.slice none 0 0), (Value.slice none 0 0)]) _ (op_build bd_36 (parts := []) (partsL trivial) trivial rfl) rfl ?_
    have hS23 := St.addNil (Ty.i .i64) hS18
    replace hS23 : St wd2 wd15 [bx b9 [(Value.slice none 0 0), (Value.int .i64 (0 : Int)), (Value.slice none 0 0), (Value.slice none 0 0)], (Ty.sl (Ty.i .i64)).at (Value.slice none 0 0) ([] : (List Int))] := hS23
    have hS24 := St.addNil (Ty.sl (Ty.sl (Ty.i .i64))) hS23
    replace hS24 : St wd2 wd15 [bx b9 [(Value.slice none 0 0), (Value.int .i64 (0 : Int)), (Value.slice none 0 0), (Value.slice none 0 0)], (Ty.sl (Ty.i .i64)).at (Value.slice none 0 0) ([] : (List Int)), (Ty.sl (Ty.sl (Ty.sl (Ty.i .i64)))).at (Value.slice none 0 0) ([] : (List (List (List Int))))] := hS24
    have hS25 := St.addNil (Ty.sl (Ty.i .i64)) hS24
    replace hS25 : St wd2 wd15 [bx b9 [(Value.slice none 0 0), (Value.int .i64 (0 : Int)), (Value.slice none 0 0), (Value.slice none 0 0)], (Ty.sl (Ty.i .i64)).at (Value.slice none 0 0) ([] : (List Int)), (Ty.sl (Ty.sl (Ty.sl (Ty.i .i64)))).at (Value.slice none 0 0) ([] : (List (List (List Int)))), (Ty.sl (Ty.sl (Ty.i .i64))).at (Value.slice none 0 0) ([] : (List (List Int)))] := hS25
    refine WL.storeBox [(Value.slice none 0 0), (Value.int .i64 (0 : Int)), (Value.slice none 0 0), (Value.slice none 0 0)] hS25 (k := 0) rfl rfl rfl (us := [(Value.slice none 0 0), (Value.int .i64 (0 : Int)), (Value.slice none 0 0), (Value.slice none 0 0)]) rfl sz_36 rfl rfl (all_rep (St.rep (t := (Ty.sl (Ty.i .i64))) hS25 1 rfl) (all_cons rfl (all_rep (St.rep (t := (Ty.sl (Ty.sl (Ty.sl (Ty.i .i64))))) hS25 2 rfl) (all_rep (St.rep (t := (Ty.sl (Ty.sl (Ty.i .i64)))) hS25 3 rfl) all_nil)))) rfl ?_
    intro wd21 hS22
    replace hS22 : St wd2 wd21 [bx b9 [(Value.slice none 0 0), (Value.int .i64 (0 : Int)), (Value.slice none 0 0), (Value.slice none 0 0)], (Ty.sl (Ty.i .i64)).at (Value.slice none 0 0) ([] : (List Int)), (Ty.sl (Ty.sl (Ty.sl (Ty.i .i64)))).at (Value.slice none 0 0) ([] : (List (List (List Int)))), (Ty.sl (Ty.sl (Ty.i .i64))).at (Value.slice none 0 0) ([] : (List (List Int)))] := hS22
    refine WL.val (Value.int .i64 (1 : Int)) _ (op_assign rfl) rfl ?_
    refine WL.nil ?_
    refine W.ret ?_
    obtain rfl := Option.some.inj h
    show FinP _ _ _ _ _ _ _
    exact FinP.ret _ (resCT rfl rfl st_36 (St.boxAt hS22 0 rfl) rfl rfl) ⟨(Value.slice none 0 0), (Value.slice none 0 0), (Value.slice none 0 0), rfl, (inL rfl), (inL rfl), (Ext.trans hE7 hS22.ext), (St.out (St.pick hS22 [1, 2, 3] rfl) (hE7))⟩
  · replace h := inegb h hc19
    refine W.skip ?_
    refine W.seq (W.region ?_)
    refine WL.val (Value.pointer (some ⟨b1, 0, none⟩)) _ (op_fieldAddr fd_36_0 rfl) rfl ?_
    refine WL.val (Value.agg #[v_b_Cocycle_Orders, (Value.int .i64 b_Cocycle_Modulus), v_b_Cocycle_Values]) _ (op_loadBox st_34 rfl (BoxAt.lift hS18.ext hx6) rfl rfl) rfl ?_
    obtain ⟨x26, hx27, h⟩ := bs h
    refine WL.call _ (op_call fn_62 (args1 rfl)) (c_impl_copyCocycle (Ty.lift _ (Ext.trans hE7 hS18.ext) r_b_Cocycle_Orders) r_b_Cocycle_Modulus (Ty.lift _ (Ext.trans hE7 hS18.ext) r_b_Cocycle_Values) hx27) rfl ?_
    rintro _ wd31 ⟨u28, u30, rfl, hr29, he32, hs33⟩
    have hS34 := St.join hS18 he32 hs33
    replace hS34 : St wd2 wd31 [bx b9 [(Value.slice none 0 0), (Value.int .i64 (0 : Int)), (Value.slice none 0 0), (Value.slice none 0 0)], (Ty.sl (Ty.i .i64)).at u28 x26.1, (Ty.sl (Ty.sl (Ty.sl (Ty.i .i64)))).at u30 x26.2.2] := hS34
    refine WL.val (Value.func (.func 63) #[] #[(Value.pointer (some ⟨b1, 0, none⟩))]) _ (op_makeFunc (va := #[]) (vb := #[(Value.pointer (some ⟨b1, 0, none⟩))]) args0 (args1 rfl)) rfl ?_
    obtain ⟨x39, hx40, h⟩ := bs h
    refine WL.call _ (op_call fn_61 (args2 rfl rfl)) (c_impl_braidingBy (St.rep (t := (Ty.sl (Ty.i .i64))) hS34 1 rfl) hr29 (St.rep (t := (Ty.sl (Ty.sl (Ty.sl (Ty.i .i64))))) hS34 2 rfl) (⟨63, #[], #[(Value.pointer (some ⟨b1, 0, none⟩))], rfl, fn_63, fun wd35 a0_36 a1_36 r37 he36 ra0_36 ra1_36 hq38 => c_impl_ReverseBraiding_c1 ra0_36 ra1_36 (BoxAt.lift (Ext.trans hS34.ext he36) hx6) (Ty.lift _ (Ext.trans (Ext.trans hE7 hS34.ext) he36) r_b_Cocycle_Orders) r_b_Cocycle_Modulus (Ty.lift _ (Ext.trans (Ext.trans hE7 hS34.ext) he36) r_b_Cocycle_Values) (Ty.lift _ (Ext.trans (Ext.trans hE7 hS34.ext) he36) r_b_Values) hq38⟩) hx40) rfl ?_
    rintro _ wd43 ⟨u42, rfl, hr41, he44, hs45⟩
    have hS46 := St.join hS34 he44 hs45
    replace hS46 : St wd2 wd43 [bx b9 [(Value.slice none 0 0), (Value.int .i64 (0 : Int)), (Value.slice none 0 0), (Value.slice none 0 0)], (Ty.sl (Ty.i .i64)).at u28 x26.1, (Ty.sl (Ty.sl (Ty.sl (Ty.i .i64)))).at u30 x26.2.2, (Ty.sl (Ty.sl (Ty.i .i64))).at u42 x39.2.2.2] := hS46
    refine WL.storeBox [u28, (Value.int .i64 x39.2.1), u30, u42] hS46 (k := 0) rfl rfl rfl (us := [u28, (Value.int .i64 x39.2.1), u30, u42]) rfl sz_36 rfl rfl (all_rep (St.rep (t := (Ty.sl (Ty.i .i64))) hS46 1 rfl) (all_cons rfl (all_rep (St.rep (t := (Ty.sl (Ty.sl (Ty.sl (Ty.i .i64))))) hS46 2 rfl) (all_rep (St.rep (t := (Ty.sl (Ty.sl (Ty.i .i64)))) hS46 3 rfl) all_nil)))) rfl ?_
    intro wd47 hS48
    replace hS48 : St wd2 wd47 [bx b9 [u28, (Value.int .i64 x39.2.1), u30, u42], (Ty.sl (Ty.i .i64)).at u28 x26.1, (Ty.sl (Ty.sl (Ty.sl (Ty.i .i64)))).at u30 x26.2.2, (Ty.sl (Ty.sl (Ty.i .i64))).at u42 x39.2.2.2] := hS48
    refine WL.val (Value.int .i64 (0 : Int)) _ (op_assign rfl) rfl ?_
    refine WL.nil ?_
    refine W.ret ?_
    obtain rfl := Option.some.inj h
    show FinP _ _ _ _ _ _ _
    exact FinP.ret _ (resCT rfl rfl st_36 (St.boxAt hS48 0 rfl) rfl rfl) ⟨u28, u30, u42, rfl, hr41, (inL rfl), (Ext.trans hE7 hS48.ext), (St.out (St.pick hS48 [1, 2, 3] rfl) (hE7))⟩

theorem c_laws_heldInt64SS {w : World} {a : (List (List Int))} {v_a : Value} {k1 : Int} (r_a : (Ty.sl (Ty.sl (Ty.i .i64))).rep w v_a a) (r_k1 : InR .i64 k1) {res : Int} (h : p_laws_heldInt64SS a k1  = some res) :
    Ret Try.prog 65 #[v_a, (Value.int .i64 k1)] w (fun v w' => v = Value.int .i64 res ∧ InR .i64 res ∧ Ext w w') := by
  unfold p_laws_heldInt64SS at h
  have hS0 : St w w [] := St.start w
  refine Ret.start (fn := Try.f65) Try.func65 rfl 21 rfl rfl ?_
  refine W.seq (W.region ?_)
  refine WL.val (Value.int .i64 (0 : Int)) _ (op_assign rfl) rfl ?_
  refine WL.nil ?_
  refine W.seq (W.seq (W.region ?_))
  refine WL.val (Value.int .i64 (0 : Int)) _ (op_assign rfl) rfl ?_
  refine WL.nil ?_
  show W _ _ _ _ _ _
  obtain ⟨res1, hres2, h⟩ := bs h
  refine W.blockLoop (fun fq wq => ∃ s, res1 = Res.fin s ∧ fq 1 = Value.int .i64 s ∧ InR .i64 s ∧ St w wq []) ?_ ?_
  · refine W.forN (fun k (s : Int) fq wq => fq 0 = v_a ∧ fq 1 = Value.int .i64 s ∧ InR .i64 s ∧ fq 5 = Value.int .i64 (k : Int) ∧ InR .i64 (k : Int) ∧ St w wq []) hres2 ⟨rfl, rfl, r_k1, rfl, (inL rfl), hS0⟩ ?_ ?_
    · intro k3 x4 ct5 f6 wd7 hk8 hb9 hI10 hbrk11 hret12
      replace hI10 : f6 0 = v_a ∧ f6 1 = Value.int .i64 x4 ∧ InR .i64 x4 ∧ f6 5 = Value.int .i64 (k3 : Int) ∧ InR .i64 (k3 : Int) ∧ St w wd7 [] := hI10
      replace hb9 : p_laws_heldInt64SS_L1 a k3 x4 = some ct5 := hb9
      unfold p_laws_heldInt64SS_L1 at hb9
      obtain ⟨hf13, hf14, hr15, hf16, hr17, hS18⟩ := hI10
      refine W.seq (W.seq (W.region ?_))
      refine WL.val (Value.int .i64 (k3 : Int)) _ (op_move hf16) rfl ?_
      refine WL.val v_a _ (op_move hf13) rfl ?_
      have hr19 := inR_len (Ty.lift _ hS18.ext r_a)
      refine WL.val (Value.int .i64 ((a).length : Int)) _ (op_lenL sl_26 (Ty.lift _ hS18.ext r_a) rfl) rfl ?_
      refine WL.val (Value.bool (decide ((k3 : Int) < ((a).length : Int)))) _ (op_lss rfl rfl) rfl ?_
      have hl20 : (k3 : Int) < ((a).length : Int) := by omega
      refine WL.nil ?_
      refine W.condT (decide ((k3 : Int) < ((a).length : Int))) rfl (decide_eq_true hl20) ?_
      refine W.skip ?_
      refine W.seq ?_
      refine W.block ?_
      refine W.seq (W.region ?_)
      refine WL.val v_a _ (op_move hf13) rfl ?_
      refine WL.val (Value.int .i64 (k3 : Int)) _ (op_move hf16) rfl ?_
      obtain ⟨x22, hx25, hb9⟩ := bs hb9
      obtain ⟨ha23, hb24, hx25⟩ := idx_some hx25
      refine WL.val (Value.pointer (some (elA v_a ((k3 : Int)).toNat))) _ (op_idx sl_26 (Ty.lift _ hS18.ext r_a) rfl rfl ha23 hb24) rfl ?_
      obtain ⟨u26, hc27, hr28⟩ := repSl.el r_a hx25
      refine WL.val u26 _ (op_load one_22 rfl (Ext.cell hS18.ext hc27)) rfl ?_
      refine WL.val (Value.int .i64 x4) _ (op_move hf14) rfl ?_
      obtain ⟨x29, hx30, hb9⟩ := bs hb9
      refine WL.call _ (op_call fn_58 (args2 rfl rfl)) (c_laws_heldInt64S (Ty.lift _ hS18.ext hr28) hr15 hx30) rfl ?_
      rintro _ wd32 ⟨rfl, hr31, he33⟩
      have hS35 := St.extend hS18 he33
      replace hS35 : St w wd32 [] := hS35
      refine WL.val (Value.int .i64 x29) _ (op_assign rfl) rfl ?_
      refine WL.nil ?_
      refine W.seq (W.region ?_)
      refine WL.val (Value.int .i64 x29) _ (op_move rfl) rfl ?_
      refine WL.val (Value.bool (decide (x29 < (0 : Int)))) _ (op_lss rfl rfl) rfl ?_
      refine WL.nil ?_
      refine W.cond (decide (x29 < (0 : Int))) rfl (fun hc36 => ?_) (fun hc36 => ?_)
      · replace hb9 := ip hb9 hc36
        refine W.seq (W.region ?_)
        refine WL.val (Value.int .i64 (-1 : Int)) _ (op_assign rfl) rfl ?_
        refine WL.nil ?_
        refine W.ret ?_
        obtain rfl := Option.some.inj hb9
        obtain rfl := hret12 _ rfl
        replace h := onRes_ret h
        obtain rfl := Option.some.inj h
        show FinP _ _ _ _ _ _ _
        exact FinP.ret _ (res1 rfl rfl) ⟨rfl, (inR_i64.2 (show (-9223372036854775808 : Int) ≤ -1 ∧ (-1 : Int) ≤ 9223372036854775807 from by decide)), hS35.ext⟩
      · replace hb9 := inegb hb9 hc36
        refine W.skip ?_
        show W _ _ _ _ _ _
        refine W.region ?_
        refine WL.val (Value.int .i64 (k3 : Int)) _ (op_move hf16) rfl ?_
        refine WL.val (Value.int .i64 (w64 ((k3 : Int) + (1 : Int)))) _ (op_add rfl rfl) rfl ?_
        refine WL.val (Value.int .i64 (w64 ((k3 : Int) + (1 : Int)))) _ (op_assign rfl) rfl ?_
        refine WL.nil ?_
        obtain rfl := Option.some.inj hb9
        show ∃ s, _ = Ctl.next s ∧ _
        exact ⟨_, rfl, hf13, rfl, hr31, (ctr_next hl20 hr19), (ctr_rng hl20 hr19), hS35⟩
    · intro x44 f39 wd40 hs41 hI42
      replace hI42 : f39 0 = v_a ∧ f39 1 = Value.int .i64 x44 ∧ InR .i64 x44 ∧ f39 5 = Value.int .i64 (((a).length : Nat) : Int) ∧ InR .i64 (((a).length : Nat) : Int) ∧ St w wd40 [] := hI42
      obtain ⟨hf45, hf46, hr47, hf48, hr49, hS50⟩ := hI42
      refine W.seq (W.seq (W.region ?_))
      refine WL.val (Value.int .i64 (((a).length : Nat) : Int)) _ (op_move hf48) rfl ?_
      refine WL.val v_a _ (op_move hf45) rfl ?_
      have hr51 := inR_len (Ty.lift _ hS50.ext r_a)
      refine WL.val (Value.int .i64 ((a).length : Int)) _ (op_lenL sl_26 (Ty.lift _ hS50.ext r_a) rfl) rfl ?_
      refine WL.val (Value.bool (decide ((((a).length : Nat) : Int) < ((a).length : Int)))) _ (op_lss rfl rfl) rfl ?_
      have hl52 : ¬ (((a).length : Nat) : Int) < ((a).length : Int) := by omega
      refine WL.nil ?_
      refine W.condF (decide ((((a).length : Nat) : Int) < ((a).length : Int))) rfl (decide_eq_false hl52) ?_
      refine W.exit ?_
      show _ = _ ∧ _
      exact ⟨rfl, _, hs41, hf46, hr47, hS50⟩
  · rintro f53 wd54 ⟨x57, rfl, hq55⟩
    replace h := onRes_fin h
    replace hq55 : f53 1 = Value.int .i64 x57 ∧ InR .i64 x57 ∧ St w wd54 [] := hq55
    obtain ⟨hf58, hr59, hS60⟩ := hq55
    refine W.seq (W.region ?_)
    refine WL.val (Value.int .i64 x57) _ (op_move hf58) rfl ?_
    refine WL.val (Value.int .i64 x57) _ (op_assign rfl) rfl ?_
    refine WL.nil ?_
    refine W.ret ?_
    obtain rfl := Option.some.inj h
    show FinP _ _ _ _ _ _ _
    exact FinP.ret _ (res1 rfl rfl) ⟨rfl, hr59, hS60.ext⟩

theorem c_laws_heldInt64SSS {w : World} {a : (List (List (List Int)))} {v_a : Value} {k1 : Int} (r_a : (Ty.sl (Ty.sl (Ty.sl (Ty.i .i64)))).rep w v_a a) (r_k1 : InR .i64 k1) {res : Int} (h : p_laws_heldInt64SSS a k1  = some res) :
    Ret Try.prog 113 #[v_a, (Value.int .i64 k1)] w (fun v w' => v = Value.int .i64 res ∧ InR .i64 res ∧ Ext w w') := by
  unfold p_laws_heldInt64SSS at h
  have hS0 : St w w [] := St.start w
  refine Ret.start (fn := Try.f113) Try.func113 rfl 21 rfl rfl ?_
  refine W.seq (W.region ?_)
  refine WL.val (Value.int .i64 (0 : Int)) _ (op_assign rfl) rfl ?_
  refine WL.nil ?_
  refine W.seq (W.seq (W.region ?_))
  refine WL.val (Value.int .i64 (0 : Int)) _ (op_assign rfl) rfl ?_
  refine WL.nil ?_
  show W _ _ _ _ _ _
  obtain ⟨res1, hres2, h⟩ := bs h
  refine W.blockLoop (fun fq wq => ∃ s, res1 = Res.fin s ∧ fq 1 = Value.int .i64 s ∧ InR .i64 s ∧ St w wq []) ?_ ?_
  · refine W.forN (fun k (s : Int) fq wq => fq 0 = v_a ∧ fq 1 = Value.int .i64 s ∧ InR .i64 s ∧ fq 5 = Value.int .i64 (k : Int) ∧ InR .i64 (k : Int) ∧ St w wq []) hres2 ⟨rfl, rfl, r_k1, rfl, (inL rfl), hS0⟩ ?_ ?_
    · intro k3 x4 ct5 f6 wd7 hk8 hb9 hI10 hbrk11 hret12
      replace hI10 : f6 0 = v_a ∧ f6 1 = Value.int .i64 x4 ∧ InR .i64 x4 ∧ f6 5 = Value.int .i64 (k3 : Int) ∧ InR .i64 (k3 : Int) ∧ St w wd7 [] := hI10
      replace hb9 : p_laws_heldInt64SSS_L1 a k3 x4 = some ct5 := hb9
      unfold p_laws_heldInt64SSS_L1 at hb9
      obtain ⟨hf13, hf14, hr15, hf16, hr17, hS18⟩ := hI10
      refine W.seq (W.seq (W.region ?_))
      refine WL.val (Value.int .i64 (k3 : Int)) _ (op_move hf16) rfl ?_
      refine WL.val v_a _ (op_move hf13) rfl ?_
      have hr19 := inR_len (Ty.lift _ hS18.ext r_a)
      refine WL.val (Value.int .i64 ((a).length : Int)) _ (op_lenL sl_23 (Ty.lift _ hS18.ext r_a) rfl) rfl ?_
      refine WL.val (Value.bool (decide ((k3 : Int) < ((a).length : Int)))) _ (op_lss rfl rfl) rfl ?_
      have hl20 : (k3 : Int) < ((a).length : Int) := by omega
      refine WL.nil ?_
      refine W.condT (decide ((k3 : Int) < ((a).length : Int))) rfl (decide_eq_true hl20) ?_
      refine W.skip ?_
      refine W.seq ?_
      refine W.block ?_
      refine W.seq (W.region ?_)
      refine WL.val v_a _ (op_move hf13) rfl ?_
      refine WL.val (Value.int .i64 (k3 : Int)) _ (op_move hf16) rfl ?_
      obtain ⟨x22, hx25, hb9⟩ := bs hb9
      obtain ⟨ha23, hb24, hx25⟩ := idx_some hx25
      refine WL.val (Value.pointer (some (elA v_a ((k3 : Int)).toNat))) _ (op_idx sl_23 (Ty.lift _ hS18.ext r_a) rfl rfl ha23 hb24) rfl ?_
      obtain ⟨u26, hc27, hr28⟩ := repSl.el r_a hx25
      refine WL.val u26 _ (op_load one_26 rfl (Ext.cell hS18.ext hc27)) rfl ?_
      refine WL.val (Value.int .i64 x4) _ (op_move hf14) rfl ?_
      obtain ⟨x29, hx30, hb9⟩ := bs hb9
      refine WL.call _ (op_call fn_65 (args2 rfl rfl)) (c_laws_heldInt64SS (Ty.lift _ hS18.ext hr28) hr15 hx30) rfl ?_
      rintro _ wd32 ⟨rfl, hr31, he33⟩
      have hS35 := St.extend hS18 he33
      replace hS35 : St w wd32 [] := hS35
      refine WL.val (Value.int .i64 x29) _ (op_assign rfl) rfl ?_
      refine WL.nil ?_
      refine W.seq (W.region ?_)
      refine WL.val (Value.int .i64 x29) _ (op_move rfl) rfl ?_
      refine WL.val (Value.bool (decide (x29 < (0 : Int)))) _ (op_lss rfl rfl) rfl ?_
      refine WL.nil ?_
      refine W.cond (decide (x29 < (0 : Int))) rfl (fun hc36 => ?_) (fun hc36 => ?_)
      · replace hb9 := ip hb9 hc36
        refine W.seq (W.region ?_)
        refine WL.val (Value.int .i64 (-1 : Int)) _ (op_assign rfl) rfl ?_
        refine WL.nil ?_
        refine W.ret ?_
        obtain rfl := Option.some.inj hb9
        obtain rfl := hret12 _ rfl
        replace h := onRes_ret h
        obtain rfl := Option.some.inj h
        show FinP _ _ _ _ _ _ _
        exact FinP.ret _ (res1 rfl rfl) ⟨rfl, (inR_i64.2 (show (-9223372036854775808 : Int) ≤ -1 ∧ (-1 : Int) ≤ 9223372036854775807 from by decide)), hS35.ext⟩
      · replace hb9 := inegb hb9 hc36
        refine W.skip ?_
        show W _ _ _ _ _ _
        refine W.region ?_
        refine WL.val (Value.int .i64 (k3 : Int)) _ (op_move hf16) rfl ?_
        refine WL.val (Value.int .i64 (w64 ((k3 : Int) + (1 : Int)))) _ (op_add rfl rfl) rfl ?_
        refine WL.val (Value.int .i64 (w64 ((k3 : Int) + (1 : Int)))) _ (op_assign rfl) rfl ?_
        refine WL.nil ?_
        obtain rfl := Option.some.inj hb9
        show ∃ s, _ = Ctl.next s ∧ _
        exact ⟨_, rfl, hf13, rfl, hr31, (ctr_next hl20 hr19), (ctr_rng hl20 hr19), hS35⟩
    · intro x44 f39 wd40 hs41 hI42
      replace hI42 : f39 0 = v_a ∧ f39 1 = Value.int .i64 x44 ∧ InR .i64 x44 ∧ f39 5 = Value.int .i64 (((a).length : Nat) : Int) ∧ InR .i64 (((a).length : Nat) : Int) ∧ St w wd40 [] := hI42
      obtain ⟨hf45, hf46, hr47, hf48, hr49, hS50⟩ := hI42
      refine W.seq (W.seq (W.region ?_))
      refine WL.val (Value.int .i64 (((a).length : Nat) : Int)) _ (op_move hf48) rfl ?_
      refine WL.val v_a _ (op_move hf45) rfl ?_
      have hr51 := inR_len (Ty.lift _ hS50.ext r_a)
      refine WL.val (Value.int .i64 ((a).length : Int)) _ (op_lenL sl_23 (Ty.lift _ hS50.ext r_a) rfl) rfl ?_
      refine WL.val (Value.bool (decide ((((a).length : Nat) : Int) < ((a).length : Int)))) _ (op_lss rfl rfl) rfl ?_
      have hl52 : ¬ (((a).length : Nat) : Int) < ((a).length : Int) := by omega
      refine WL.nil ?_
      refine W.condF (decide ((((a).length : Nat) : Int) < ((a).length : Int))) rfl (decide_eq_false hl52) ?_
      refine W.exit ?_
      show _ = _ ∧ _
      exact ⟨rfl, _, hs41, hf46, hr47, hS50⟩
  · rintro f53 wd54 ⟨x57, rfl, hq55⟩
    replace h := onRes_fin h
    replace hq55 : f53 1 = Value.int .i64 x57 ∧ InR .i64 x57 ∧ St w wd54 [] := hq55
    obtain ⟨hf58, hr59, hS60⟩ := hq55
    refine W.seq (W.region ?_)
    refine WL.val (Value.int .i64 x57) _ (op_move hf58) rfl ?_
    refine WL.val (Value.int .i64 x57) _ (op_assign rfl) rfl ?_
    refine WL.nil ?_
    refine W.ret ?_
    obtain rfl := Option.some.inj h
    show FinP _ _ _ _ _ _ _
    exact FinP.ret _ (res1 rfl rfl) ⟨rfl, hr59, hS60.ext⟩

theorem c_laws_heldCocycle {w : World} {a_Orders : (List Int)} {v_a_Orders : Value} {a_Modulus : Int} {a_Values : (List (List (List Int)))} {v_a_Values : Value} {k1 : Int} (r_a_Orders : (Ty.sl (Ty.i .i64)).rep w v_a_Orders a_Orders) (r_a_Modulus : InR .i64 a_Modulus) (r_a_Values : (Ty.sl (Ty.sl (Ty.sl (Ty.i .i64)))).rep w v_a_Values a_Values) (r_k1 : InR .i64 k1) {res : Int} (h : p_laws_heldCocycle a_Orders a_Modulus a_Values k1  = some res) :
    Ret Try.prog 64 #[(Value.agg #[v_a_Orders, (Value.int .i64 a_Modulus), v_a_Values]), (Value.int .i64 k1)] w (fun v w' => v = Value.int .i64 res ∧ InR .i64 res ∧ Ext w w') := by
  unfold p_laws_heldCocycle at h
  have hS0 : St w w [] := St.start w
  refine Ret.start (fn := Try.f64) Try.func64 rfl 18 rfl rfl ?_
  refine W.seq (W.region ?_)
  refine WL.box hS0 rfl (cs := [v_a_Orders, (Value.int .i64 a_Modulus), v_a_Values]) rfl rfl ?_
  intro b1 wd2 hS3 he4 hx5
  replace hS3 : St w wd2 [bx b1 [v_a_Orders, (Value.int .i64 a_Modulus), v_a_Values]] := hS3
  have hx6 := St.boxAt hS3 0 rfl
  have hE7 : Ext w wd2 := hS3.ext
  have hS8 : St wd2 wd2 [] := St.start wd2
  refine WL.val (Value.int .i64 (0 : Int)) _ (op_assign rfl) rfl ?_
  refine WL.nil ?_
  refine W.seq (W.region ?_)
  refine WL.val (Value.pointer (some ⟨b1, 0, none⟩)) _ (op_fieldAddr fd_34_0 rfl) rfl ?_
  refine WL.val v_a_Orders _ (op_load one_22 rfl (BoxAt.cell (BoxAt.lift hS8.ext hx6) rfl)) rfl ?_
  refine WL.val (Value.int .i64 k1) _ (op_move rfl) rfl ?_
  obtain ⟨x9, hx10, h⟩ := bs h
  refine WL.call _ (op_call fn_58 (args2 rfl rfl)) (c_laws_heldInt64S (Ty.lift _ (Ext.trans hE7 hS8.ext) r_a_Orders) r_k1 hx10) rfl ?_
  rintro _ wd12 ⟨rfl, hr11, he13⟩
  have hS15 := St.extend hS8 he13
  replace hS15 : St wd2 wd12 [] := hS15
  refine WL.val (Value.int .i64 x9) _ (op_assign rfl) rfl ?_
  refine WL.nil ?_
  refine W.seq (W.seq (W.region ?_))
  refine WL.val (Value.int .i64 x9) _ (op_move rfl) rfl ?_
  refine WL.val (Value.bool (decide (x9 < (0 : Int)))) _ (op_lss rfl rfl) rfl ?_
  refine WL.nil ?_
  refine W.cond (decide (x9 < (0 : Int))) rfl (fun hc16 => ?_) (fun hc16 => ?_)
  · replace h := ip h hc16
    refine W.seq (W.region ?_)
    refine WL.val (Value.int .i64 (-1 : Int)) _ (op_assign rfl) rfl ?_
    refine WL.nil ?_
    refine W.ret ?_
    obtain rfl := Option.some.inj h
    show FinP _ _ _ _ _ _ _
    exact FinP.ret _ (res1 rfl rfl) ⟨rfl, (inR_i64.2 (show (-9223372036854775808 : Int) ≤ -1 ∧ (-1 : Int) ≤ 9223372036854775807 from by decide)), (Ext.trans hE7 hS15.ext)⟩
  · replace h := inegb h hc16
    refine W.skip ?_
    refine W.seq (W.region ?_)
    refine WL.val (Value.pointer (some ⟨b1, 2, none⟩)) _ (op_fieldAddr fd_34_2 rfl) rfl ?_
    refine WL.val v_a_Values _ (op_load one_23 rfl (BoxAt.cell (BoxAt.lift hS15.ext hx6) rfl)) rfl ?_
    refine WL.val (Value.int .i64 x9) _ (op_move rfl) rfl ?_
    obtain ⟨x18, hx19, h⟩ := bs h
    refine WL.call _ (op_call fn_113 (args2 rfl rfl)) (c_laws_heldInt64SSS (Ty.lift _ (Ext.trans hE7 hS15.ext) r_a_Values) hr11 hx19) rfl ?_
    rintro _ wd21 ⟨rfl, hr20, he22⟩
    have hS24 := St.extend hS15 he22
    replace hS24 : St wd2 wd21 [] := hS24
    refine WL.val (Value.int .i64 x18) _ (op_assign rfl) rfl ?_
    refine WL.nil ?_
    refine W.seq (W.seq (W.region ?_))
    refine WL.val (Value.int .i64 x18) _ (op_move rfl) rfl ?_
    refine WL.val (Value.bool (decide (x18 < (0 : Int)))) _ (op_lss rfl rfl) rfl ?_
    refine WL.nil ?_
    refine W.cond (decide (x18 < (0 : Int))) rfl (fun hc25 => ?_) (fun hc25 => ?_)
    · replace h := ip h hc25
      refine W.seq (W.region ?_)
      refine WL.val (Value.int .i64 (-1 : Int)) _ (op_assign rfl) rfl ?_
      refine WL.nil ?_
      refine W.ret ?_
      obtain rfl := Option.some.inj h
      show FinP _ _ _ _ _ _ _
      exact FinP.ret _ (res1 rfl rfl) ⟨rfl, (inR_i64.2 (show (-9223372036854775808 : Int) ≤ -1 ∧ (-1 : Int) ≤ 9223372036854775807 from by decide)), (Ext.trans hE7 hS24.ext)⟩
    · replace h := inegb h hc25
      refine W.skip ?_
      refine W.seq (W.region ?_)
      refine WL.val (Value.int .i64 x18) _ (op_move rfl) rfl ?_
      refine WL.val (Value.int .i64 x18) _ (op_assign rfl) rfl ?_
      refine WL.nil ?_
      refine W.ret ?_
      obtain rfl := Option.some.inj h
      show FinP _ _ _ _ _ _ _
      exact FinP.ret _ (res1 rfl rfl) ⟨rfl, hr20, (Ext.trans hE7 hS24.ext)⟩

theorem c_laws_heldBraiding {w : World} {a_Cocycle_Orders : (List Int)} {v_a_Cocycle_Orders : Value} {a_Cocycle_Modulus : Int} {a_Cocycle_Values : (List (List (List Int)))} {v_a_Cocycle_Values : Value} {a_Values : (List (List Int))} {v_a_Values : Value} {k1 : Int} (r_a_Cocycle_Orders : (Ty.sl (Ty.i .i64)).rep w v_a_Cocycle_Orders a_Cocycle_Orders) (r_a_Cocycle_Modulus : InR .i64 a_Cocycle_Modulus) (r_a_Cocycle_Values : (Ty.sl (Ty.sl (Ty.sl (Ty.i .i64)))).rep w v_a_Cocycle_Values a_Cocycle_Values) (r_a_Values : (Ty.sl (Ty.sl (Ty.i .i64))).rep w v_a_Values a_Values) (r_k1 : InR .i64 k1) {res : Int} (h : p_laws_heldBraiding a_Cocycle_Orders a_Cocycle_Modulus a_Cocycle_Values a_Values k1  = some res) :
    Ret Try.prog 17 #[(Value.agg #[v_a_Cocycle_Orders, (Value.int .i64 a_Cocycle_Modulus), v_a_Cocycle_Values, v_a_Values]), (Value.int .i64 k1)] w (fun v w' => v = Value.int .i64 res ∧ InR .i64 res ∧ Ext w w') := by
  unfold p_laws_heldBraiding at h
  have hS0 : St w w [] := St.start w
  refine Ret.start (fn := Try.f17) Try.func17 rfl 18 rfl rfl ?_
  refine W.seq (W.region ?_)
  refine WL.box hS0 rfl (cs := [v_a_Cocycle_Orders, (Value.int .i64 a_Cocycle_Modulus), v_a_Cocycle_Values, v_a_Values]) rfl rfl ?_
  intro b1 wd2 hS3 he4 hx5
  replace hS3 : St w wd2 [bx b1 [v_a_Cocycle_Orders, (Value.int .i64 a_Cocycle_Modulus), v_a_Cocycle_Values, v_a_Values]] := hS3
  have hx6 := St.boxAt hS3 0 rfl
  have hE7 : Ext w wd2 := hS3.ext
  have hS8 : St wd2 wd2 [] := St.start wd2
  refine WL.val (Value.int .i64 (0 : Int)) _ (op_assign rfl) rfl ?_
  refine WL.nil ?_
  refine W.seq (W.region ?_)
  refine WL.val (Value.pointer (some ⟨b1, 0, none⟩)) _ (op_fieldAddr fd_36_0 rfl) rfl ?_
  refine WL.val (Value.agg #[v_a_Cocycle_Orders, (Value.int .i64 a_Cocycle_Modulus), v_a_Cocycle_Values]) _ (op_loadBox st_34 rfl (BoxAt.lift hS8.ext hx6) rfl rfl) rfl ?_
  refine WL.val (Value.int .i64 k1) _ (op_move rfl) rfl ?_
  obtain ⟨x9, hx10, h⟩ := bs h
  refine WL.call _ (op_call fn_64 (args2 rfl rfl)) (c_laws_heldCocycle (Ty.lift _ (Ext.trans hE7 hS8.ext) r_a_Cocycle_Orders) r_a_Cocycle_Modulus (Ty.lift _ (Ext.trans hE7 hS8.ext) r_a_Cocycle_Values) r_k1 hx10) rfl ?_
  rintro _ wd12 ⟨rfl, hr11, he13⟩
  have hS15 := St.extend hS8 he13
  replace hS15 : St wd2 wd12 [] := hS15
  refine WL.val (Value.int .i64 x9) _ (op_assign rfl) rfl ?_
  refine WL.nil ?_
  refine W.seq (W.seq (W.region ?_))
  refine WL.val (Value.int .i64 x9) _ (op_move rfl) rfl ?_
  refine WL.val (Value.bool (decide (x9 < (0 : Int)))) _ (op_lss rfl rfl) rfl ?_
  refine WL.nil ?_
  refine W.cond (decide (x9 < (0 : Int))) rfl (fun hc16 => ?_) (fun hc16 => ?_)
  · replace h := ip h hc16
    refine W.seq (W.region ?_)
    refine WL.val (Value.int .i64 (-1 : Int)) _ (op_assign rfl) rfl ?_
    refine WL.nil ?_
    refine W.ret ?_
    obtain rfl := Option.some.inj h
    show FinP _ _ _ _ _ _ _
    exact FinP.ret _ (res1 rfl rfl) ⟨rfl, (inR_i64.2 (show (-9223372036854775808 : Int) ≤ -1 ∧ (-1 : Int) ≤ 9223372036854775807 from by decide)), (Ext.trans hE7 hS15.ext)⟩
  · replace h := inegb h hc16
    refine W.skip ?_
    refine W.seq (W.region ?_)
    refine WL.val (Value.pointer (some ⟨b1, 3, none⟩)) _ (op_fieldAddr fd_36_1 rfl) rfl ?_
    refine WL.val v_a_Values _ (op_load one_26 rfl (BoxAt.cell (BoxAt.lift hS15.ext hx6) rfl)) rfl ?_
    refine WL.val (Value.int .i64 x9) _ (op_move rfl) rfl ?_
    obtain ⟨x18, hx19, h⟩ := bs h
    refine WL.call _ (op_call fn_65 (args2 rfl rfl)) (c_laws_heldInt64SS (Ty.lift _ (Ext.trans hE7 hS15.ext) r_a_Values) hr11 hx19) rfl ?_
    rintro _ wd21 ⟨rfl, hr20, he22⟩
    have hS24 := St.extend hS15 he22
    replace hS24 : St wd2 wd21 [] := hS24
    refine WL.val (Value.int .i64 x18) _ (op_assign rfl) rfl ?_
    refine WL.nil ?_
    refine W.seq (W.seq (W.region ?_))
    refine WL.val (Value.int .i64 x18) _ (op_move rfl) rfl ?_
    refine WL.val (Value.bool (decide (x18 < (0 : Int)))) _ (op_lss rfl rfl) rfl ?_
    refine WL.nil ?_
    refine W.cond (decide (x18 < (0 : Int))) rfl (fun hc25 => ?_) (fun hc25 => ?_)
    · replace h := ip h hc25
      refine W.seq (W.region ?_)
      refine WL.val (Value.int .i64 (-1 : Int)) _ (op_assign rfl) rfl ?_
      refine WL.nil ?_
      refine W.ret ?_
      obtain rfl := Option.some.inj h
      show FinP _ _ _ _ _ _ _
      exact FinP.ret _ (res1 rfl rfl) ⟨rfl, (inR_i64.2 (show (-9223372036854775808 : Int) ≤ -1 ∧ (-1 : Int) ≤ 9223372036854775807 from by decide)), (Ext.trans hE7 hS24.ext)⟩
    · replace h := inegb h hc25
      refine W.skip ?_
      refine W.seq (W.region ?_)
      refine WL.val (Value.int .i64 x18) _ (op_move rfl) rfl ?_
      refine WL.val (Value.int .i64 x18) _ (op_assign rfl) rfl ?_
      refine WL.nil ?_
      refine W.ret ?_
      obtain rfl := Option.some.inj h
      show FinP _ _ _ _ _ _ _
      exact FinP.ret _ (res1 rfl rfl) ⟨rfl, hr20, (Ext.trans hE7 hS24.ext)⟩

theorem c_laws_FnExactReverseBraiding {w : World} {aB_Cocycle_Orders : (List Int)} {v_aB_Cocycle_Orders : Value} {aB_Cocycle_Modulus : Int} {aB_Cocycle_Values : (List (List (List Int)))} {v_aB_Cocycle_Values : Value} {aB_Values : (List (List Int))} {v_aB_Values : Value} (r_aB_Cocycle_Orders : (Ty.sl (Ty.i .i64)).rep w v_aB_Cocycle_Orders aB_Cocycle_Orders) (r_aB_Cocycle_Modulus : InR .i64 aB_Cocycle_Modulus) (r_aB_Cocycle_Values : (Ty.sl (Ty.sl (Ty.sl (Ty.i .i64)))).rep w v_aB_Cocycle_Values aB_Cocycle_Values) (r_aB_Values : (Ty.sl (Ty.sl (Ty.i .i64))).rep w v_aB_Values aB_Values) {res : Bool} (h : p_laws_FnExactReverseBraiding aB_Cocycle_Orders aB_Cocycle_Modulus aB_Cocycle_Values aB_Values  = some res) :
    Ret Try.prog 4 #[(Value.agg #[v_aB_Cocycle_Orders, (Value.int .i64 aB_Cocycle_Modulus), v_aB_Cocycle_Values, v_aB_Values])] w (fun v w' => v = Value.bool res ∧ Ext w w') := by
  unfold p_laws_FnExactReverseBraiding at h
  have hS0 : St w w [] := St.start w
  refine Ret.start (fn := Try.f4) Try.func4 rfl 96 rfl rfl ?_
  refine W.seq (W.region ?_)
  refine WL.box hS0 rfl (cs := [v_aB_Cocycle_Orders, (Value.int .i64 aB_Cocycle_Modulus), v_aB_Cocycle_Values, v_aB_Values]) rfl rfl ?_
  intro b1 wd2 hS3 he4 hx5
  replace hS3 : St w wd2 [bx b1 [v_aB_Cocycle_Orders, (Value.int .i64 aB_Cocycle_Modulus), v_aB_Cocycle_Values, v_aB_Values]] := hS3
  have hx6 := St.boxAt hS3 0 rfl
  have hE7 : Ext w wd2 := hS3.ext
  have hS8 : St wd2 wd2 [] := St.start wd2
  refine WL.val (Value.bool false) _ (op_assign rfl) rfl ?_
  refine WL.nil ?_
  refine W.seq (W.region ?_)
  refine WL.val (Value.int .i64 (1048576 : Int)) _ (op_assign rfl) rfl ?_
  refine WL.nil ?_
  refine W.seq (W.region ?_)
  refine WL.val (Value.agg #[v_aB_Cocycle_Orders, (Value.int .i64 aB_Cocycle_Modulus), v_aB_Cocycle_Values, v_aB_Values]) _ (op_loadBox st_28 rfl (BoxAt.lift hS8.ext hx6) rfl rfl) rfl ?_
  refine WL.val (Value.int .i64 (1048576 : Int)) _ (op_move rfl) rfl ?_
  obtain ⟨x9, hx10, h⟩ := bs h
  refine WL.call _ (op_call fn_6 (args2 rfl rfl)) (c_laws_szBraiding (Ty.lift _ (Ext.trans hE7 hS8.ext) r_aB_Cocycle_Orders) r_aB_Cocycle_Modulus (Ty.lift _ (Ext.trans hE7 hS8.ext) r_aB_Cocycle_Values) (Ty.lift _ (Ext.trans hE7 hS8.ext) r_aB_Values) (inL rfl) hx10) rfl ?_
  rintro _ wd12 ⟨rfl, hr11, he13⟩
  have hS15 := St.extend hS8 he13
  replace hS15 : St wd2 wd12 [] := hS15
  refine WL.val (Value.int .i64 x9) _ (op_assign rfl) rfl ?_
  refine WL.nil ?_
  refine W.seq (W.seq (W.region ?_))
  refine WL.val (Value.int .i64 x9) _ (op_move rfl) rfl ?_
  refine WL.val (Value.bool (decide (x9 < (0 : Int)))) _ (op_lss rfl rfl) rfl ?_
  refine WL.nil ?_
  refine W.cond (decide (x9 < (0 : Int))) rfl (fun hc16 => ?_) (fun hc16 => ?_)
  · replace h := ip h hc16
    refine W.seq (W.region ?_)
    refine WL.val (Value.bool true) _ (op_assign rfl) rfl ?_
    refine WL.nil ?_
    refine W.ret ?_
    obtain rfl := Option.some.inj h
    show FinP _ _ _ _ _ _ _
    exact FinP.ret _ (res1 rfl rfl) ⟨rfl, (Ext.trans hE7 hS15.ext)⟩
  · replace h := inegb h hc16
    refine W.skip ?_
    refine W.seq (W.region ?_)
    refine WL.val (Value.agg #[v_aB_Cocycle_Orders, (Value.int .i64 aB_Cocycle_Modulus), v_aB_Cocycle_Values, v_aB_Values]) _ (op_loadBox st_28 rfl (BoxAt.lift hS15.ext hx6) rfl rfl) rfl ?_
    obtain ⟨x18, hx19, h⟩ := bs h
    refine WL.call _ (op_call fn_8 (args1 rfl)) (c_laws_toBraiding (Ty.lift _ (Ext.trans hE7 hS15.ext) r_aB_Cocycle_Orders) r_aB_Cocycle_Modulus (Ty.lift _ (Ext.trans hE7 hS15.ext) r_aB_Cocycle_Values) (Ty.lift _ (Ext.trans hE7 hS15.ext) r_aB_Values) hx19) rfl ?_
    rintro _ wd24 ⟨u20, u22, u23, rfl, hr21, he25, hs26⟩
    have hS27 := St.join hS15 he25 hs26
    replace hS27 : St wd2 wd24 [(Ty.sl (Ty.i .i64)).at u20 x18.1, (Ty.sl (Ty.sl (Ty.sl (Ty.i .i64)))).at u22 x18.2.2.1, (Ty.sl (Ty.sl (Ty.i .i64))).at u23 x18.2.2.2] := hS27
    have hb28 := St.rep (t := (Ty.sl (Ty.i .i64))) hS27 0 rfl
    have hb29 := St.rep (t := (Ty.sl (Ty.sl (Ty.sl (Ty.i .i64))))) hS27 1 rfl
    have hb30 := St.rep (t := (Ty.sl (Ty.sl (Ty.i .i64)))) hS27 2 rfl
    have hE31 : Ext w wd24 := (Ext.trans hE7 hS27.ext)
    have hE32 : Ext wd2 wd24 := hS27.ext
    have hS33 : St wd24 wd24 [] := St.start wd24
    obtain ⟨x34, hx35, h⟩ := bs h
    refine WL.call _ (op_call fn_15 (args1 rfl)) (c_spec_ReverseBraiding (Ty.lift _ hS33.ext hb28) hr21 (Ty.lift _ hS33.ext hb29) (Ty.lift _ hS33.ext hb30) hx35) rfl ?_
    rintro _ wd41 ⟨u36, u38, u39, rfl, hr37, hr40, he42, hs43⟩
    have hS44 := St.join hS33 he42 hs43
    replace hS44 : St wd24 wd41 [(Ty.sl (Ty.i .i64)).at u36 x34.1, (Ty.sl (Ty.sl (Ty.sl (Ty.i .i64)))).at u38 x34.2.2.1, (Ty.sl (Ty.sl (Ty.i .i64))).at u39 x34.2.2.2.1] := hS44
    refine WL.val (Value.tuple #[(Value.agg #[u36, (Value.int .i64 x34.2.1), u38, u39]), (Value.int .i64 x34.2.2.2.2)]) _ (op_move rfl) rfl ?_
    refine WL.val (Value.agg #[u36, (Value.int .i64 x34.2.1), u38, u39]) _ (op_extract rfl rfl) rfl ?_
    refine WL.val (Value.int .i64 x34.2.2.2.2) _ (op_extract rfl rfl) rfl ?_
    refine WL.alloc hS44 ze_36 (cs := [(Value.slice none 0 0), (Value.int .i64 (0 : Int)), (Value.slice none 0 0), (Value.slice none 0 0)]) rfl rfl ?_
    intro b45 wd46 hS47 he48
    replace hS47 : St wd24 wd46 [(Ty.sl (Ty.i .i64)).at u36 x34.1, (Ty.sl (Ty.sl (Ty.sl (Ty.i .i64)))).at u38 x34.2.2.1, (Ty.sl (Ty.sl (Ty.i .i64))).at u39 x34.2.2.2.1, bx b45 [(Value.slice none 0 0), (Value.int .i64 (0 : Int)), (Value.slice none 0 0), (Value.slice none 0 0)]] := hS47
    refine WL.storeBox [u36, (Value.int .i64 x34.2.1), u38, u39] hS47 (k := 3) rfl rfl rfl (us := [u36, (Value.int .i64 x34.2.1), u38, u39]) rfl sz_36 rfl rfl (all_rep (St.rep (t := (Ty.sl (Ty.i .i64))) hS47 0 rfl) (all_cons rfl (all_rep (St.rep (t := (Ty.sl (Ty.sl (Ty.sl (Ty.i .i64))))) hS47 1 rfl) (all_rep (St.rep (t := (Ty.sl (Ty.sl (Ty.i .i64)))) hS47 2 rfl) all_nil)))) rfl ?_
    intro wd49 hS50
    replace hS50 : St wd24 wd49 [(Ty.sl (Ty.i .i64)).at u36 x34.1, (Ty.sl (Ty.sl (Ty.sl (Ty.i .i64)))).at u38 x34.2.2.1, (Ty.sl (Ty.sl (Ty.i .i64))).at u39 x34.2.2.2.1, bx b45 [u36, (Value.int .i64 x34.2.1), u38, u39]] := hS50
    refine WL.val (Value.int .i64 x34.2.2.2.2) _ (op_assign rfl) rfl ?_
    refine WL.nil ?_
    refine W.seq (W.region ?_)
    refine WL.val (Value.agg #[v_aB_Cocycle_Orders, (Value.int .i64 aB_Cocycle_Modulus), v_aB_Cocycle_Values, v_aB_Values]) _ (op_loadBox st_28 rfl (BoxAt.lift (Ext.trans hE32 hS50.ext) hx6) rfl rfl) rfl ?_
    obtain ⟨x51, hx52, h⟩ := bs h
    refine WL.call _ (op_call fn_8 (args1 rfl)) (c_laws_toBraiding (Ty.lift _ (Ext.trans hE31 hS50.ext) r_aB_Cocycle_Orders) r_aB_Cocycle_Modulus (Ty.lift _ (Ext.trans hE31 hS50.ext) r_aB_Cocycle_Values) (Ty.lift _ (Ext.trans hE31 hS50.ext) r_aB_Values) hx52) rfl ?_
    rintro _ wd57 ⟨u53, u55, u56, rfl, hr54, he58, hs59⟩
    have hS60 := St.join hS50 he58 hs59
    replace hS60 : St wd24 wd57 [(Ty.sl (Ty.i .i64)).at u36 x34.1, (Ty.sl (Ty.sl (Ty.sl (Ty.i .i64)))).at u38 x34.2.2.1, (Ty.sl (Ty.sl (Ty.i .i64))).at u39 x34.2.2.2.1, bx b45 [u36, (Value.int .i64 x34.2.1), u38, u39], (Ty.sl (Ty.i .i64)).at u53 x51.1, (Ty.sl (Ty.sl (Ty.sl (Ty.i .i64)))).at u55 x51.2.2.1, (Ty.sl (Ty.sl (Ty.i .i64))).at u56 x51.2.2.2] := hS60
    refine WL.alloc hS60 ze_36 (cs := [(Value.slice none 0 0), (Value.int .i64 (0 : Int)), (Value.slice none 0 0), (Value.slice none 0 0)]) rfl rfl ?_
    intro b61 wd62 hS63 he64
    replace hS63 : St wd24 wd62 [(Ty.sl (Ty.i .i64)).at u36 x34.1, (Ty.sl (Ty.sl (Ty.sl (Ty.i .i64)))).at u38 x34.2.2.1, (Ty.sl (Ty.sl (Ty.i .i64))).at u39 x34.2.2.2.1, bx b45 [u36, (Value.int .i64 x34.2.1), u38, u39], (Ty.sl (Ty.i .i64)).at u53 x51.1, (Ty.sl (Ty.sl (Ty.sl (Ty.i .i64)))).at u55 x51.2.2.1, (Ty.sl (Ty.sl (Ty.i .i64))).at u56 x51.2.2.2, bx b61 [(Value.slice none 0 0), (Value.int .i64 (0 : Int)), (Value.slice none 0 0), (Value.slice none 0 0)]] := hS63
    refine WL.storeBox [u53, (Value.int .i64 x51.2.1), u55, u56] hS63 (k := 7) rfl rfl rfl (us := [u53, (Value.int .i64 x51.2.1), u55, u56]) rfl sz_36 rfl rfl (all_rep (St.rep (t := (Ty.sl (Ty.i .i64))) hS63 4 rfl) (all_cons rfl (all_rep (St.rep (t := (Ty.sl (Ty.sl (Ty.sl (Ty.i .i64))))) hS63 5 rfl) (all_rep (St.rep (t := (Ty.sl (Ty.sl (Ty.i .i64)))) hS63 6 rfl) all_nil)))) rfl ?_
    intro wd65 hS66
    replace hS66 : St wd24 wd65 [(Ty.sl (Ty.i .i64)).at u36 x34.1, (Ty.sl (Ty.sl (Ty.sl (Ty.i .i64)))).at u38 x34.2.2.1, (Ty.sl (Ty.sl (Ty.i .i64))).at u39 x34.2.2.2.1, bx b45 [u36, (Value.int .i64 x34.2.1), u38, u39], (Ty.sl (Ty.i .i64)).at u53 x51.1, (Ty.sl (Ty.sl (Ty.sl (Ty.i .i64)))).at u55 x51.2.2.1, (Ty.sl (Ty.sl (Ty.i .i64))).at u56 x51.2.2.2, bx b61 [u53, (Value.int .i64 x51.2.1), u55, u56]] := hS66
    refine WL.nil ?_
    refine W.seq (W.region ?_)
    refine WL.val (Value.agg #[u53, (Value.int .i64 x51.2.1), u55, u56]) _ (op_loadBox st_36 rfl (St.boxAt hS66 7 rfl) rfl rfl) rfl ?_
    obtain ⟨x67, hx68, h⟩ := bs h
    refine WL.call _ (op_call fn_16 (args1 rfl)) (c_impl_ReverseBraiding (St.rep (t := (Ty.sl (Ty.i .i64))) hS66 4 rfl) hr54 (St.rep (t := (Ty.sl (Ty.sl (Ty.sl (Ty.i .i64))))) hS66 5 rfl) (St.rep (t := (Ty.sl (Ty.sl (Ty.i .i64)))) hS66 6 rfl) hx68) rfl ?_
    rintro _ wd74 ⟨u69, u71, u72, rfl, hr70, hr73, he75, hs76⟩
    have hS77 := St.join hS66 he75 hs76
    replace hS77 : St wd24 wd74 [(Ty.sl (Ty.i .i64)).at u36 x34.1, (Ty.sl (Ty.sl (Ty.sl (Ty.i .i64)))).at u38 x34.2.2.1, (Ty.sl (Ty.sl (Ty.i .i64))).at u39 x34.2.2.2.1, bx b45 [u36, (Value.int .i64 x34.2.1), u38, u39], (Ty.sl (Ty.i .i64)).at u53 x51.1, (Ty.sl (Ty.sl (Ty.sl (Ty.i .i64)))).at u55 x51.2.2.1, (Ty.sl (Ty.sl (Ty.i .i64))).at u56 x51.2.2.2, bx b61 [u53, (Value.int .i64 x51.2.1), u55, u56], (Ty.sl (Ty.i .i64)).at u69 x67.1, (Ty.sl (Ty.sl (Ty.sl (Ty.i .i64)))).at u71 x67.2.2.1, (Ty.sl (Ty.sl (Ty.i .i64))).at u72 x67.2.2.2.1] := hS77
    refine WL.val (Value.tuple #[(Value.agg #[u69, (Value.int .i64 x67.2.1), u71, u72]), (Value.int .i64 x67.2.2.2.2)]) _ (op_move rfl) rfl ?_
    refine WL.val (Value.agg #[u69, (Value.int .i64 x67.2.1), u71, u72]) _ (op_extract rfl rfl) rfl ?_
    refine WL.val (Value.int .i64 x67.2.2.2.2) _ (op_extract rfl rfl) rfl ?_
    refine WL.alloc hS77 ze_36 (cs := [(Value.slice none 0 0), (Value.int .i64 (0 : Int)), (Value.slice none 0 0), (Value.slice none 0 0)]) rfl rfl ?_
    intro b78 wd79 hS80 he81
    replace hS80 : St wd24 wd79 [(Ty.sl (Ty.i .i64)).at u36 x34.1, (Ty.sl (Ty.sl (Ty.sl (Ty.i .i64)))).at u38 x34.2.2.1, (Ty.sl (Ty.sl (Ty.i .i64))).at u39 x34.2.2.2.1, bx b45 [u36, (Value.int .i64 x34.2.1), u38, u39], (Ty.sl (Ty.i .i64)).at u53 x51.1, (Ty.sl (Ty.sl (Ty.sl (Ty.i .i64)))).at u55 x51.2.2.1, (Ty.sl (Ty.sl (Ty.i .i64))).at u56 x51.2.2.2, bx b61 [u53, (Value.int .i64 x51.2.1), u55, u56], (Ty.sl (Ty.i .i64)).at u69 x67.1, (Ty.sl (Ty.sl (Ty.sl (Ty.i .i64)))).at u71 x67.2.2.1, (Ty.sl (Ty.sl (Ty.i .i64))).at u72 x67.2.2.2.1, bx b78 [(Value.slice none 0 0), (Value.int .i64 (0 : Int)), (Value.slice none 0 0), (Value.slice none 0 0)]] := hS80
    refine WL.storeBox [u69, (Value.int .i64 x67.2.1), u71, u72] hS80 (k := 11) rfl rfl rfl (us := [u69, (Value.int .i64 x67.2.1), u71, u72]) rfl sz_36 rfl rfl (all_rep (St.rep (t := (Ty.sl (Ty.i .i64))) hS80 8 rfl) (all_cons rfl (all_rep (St.rep (t := (Ty.sl (Ty.sl (Ty.sl (Ty.i .i64))))) hS80 9 rfl) (all_rep (St.rep (t := (Ty.sl (Ty.sl (Ty.i .i64)))) hS80 10 rfl) all_nil)))) rfl ?_
    intro wd82 hS83
    replace hS83 : St wd24 wd82 [(Ty.sl (Ty.i .i64)).at u36 x34.1, (Ty.sl (Ty.sl (Ty.sl (Ty.i .i64)))).at u38 x34.2.2.1, (Ty.sl (Ty.sl (Ty.i .i64))).at u39 x34.2.2.2.1, bx b45 [u36, (Value.int .i64 x34.2.1), u38, u39], (Ty.sl (Ty.i .i64)).at u53 x51.1, (Ty.sl (Ty.sl (Ty.sl (Ty.i .i64)))).at u55 x51.2.2.1, (Ty.sl (Ty.sl (Ty.i .i64))).at u56 x51.2.2.2, bx b61 [u53, (Value.int .i64 x51.2.1), u55, u56], (Ty.sl (Ty.i .i64)).at u69 x67.1, (Ty.sl (Ty.sl (Ty.sl (Ty.i .i64)))).at u71 x67.2.2.1, (Ty.sl (Ty.sl (Ty.i .i64))).at u72 x67.2.2.2.1, bx b78 [u69, (Value.int .i64 x67.2.1), u71, u72]] := hS83
    refine WL.val (Value.int .i64 x67.2.2.2.2) _ (op_assign rfl) rfl ?_
    refine WL.nil ?_
    refine W.seq (W.seq (W.region ?_))
    refine WL.val (Value.agg #[u69, (Value.int .i64 x67.2.1), u71, u72]) _ (op_loadBox st_36 rfl (St.boxAt hS83 11 rfl) rfl rfl) rfl ?_
    refine WL.val (Value.agg #[u36, (Value.int .i64 x34.2.1), u38, u39]) _ (op_loadBox st_36 rfl (St.boxAt hS83 3 rfl) rfl rfl) rfl ?_
    obtain ⟨x84, hx85, h⟩ := bs h
    refine WL.call _ (op_call fn_11 (args2 rfl rfl)) (c_laws_eqBraiding (St.rep (t := (Ty.sl (Ty.i .i64))) hS83 8 rfl) hr70 (St.rep (t := (Ty.sl (Ty.sl (Ty.sl (Ty.i .i64))))) hS83 9 rfl) (St.rep (t := (Ty.sl (Ty.sl (Ty.i .i64)))) hS83 10 rfl) (St.rep (t := (Ty.sl (Ty.i .i64))) hS83 0 rfl) hr37 (St.rep (t := (Ty.sl (Ty.sl (Ty.sl (Ty.i .i64))))) hS83 1 rfl) (St.rep (t := (Ty.sl (Ty.sl (Ty.i .i64)))) hS83 2 rfl) hx85) rfl ?_
    rintro _ wd86 ⟨rfl, he87⟩
    have hS89 := St.extend hS83 he87
    replace hS89 : St wd24 wd86 [(Ty.sl (Ty.i .i64)).at u36 x34.1, (Ty.sl (Ty.sl (Ty.sl (Ty.i .i64)))).at u38 x34.2.2.1, (Ty.sl (Ty.sl (Ty.i .i64))).at u39 x34.2.2.2.1, bx b45 [u36, (Value.int .i64 x34.2.1), u38, u39], (Ty.sl (Ty.i .i64)).at u53 x51.1, (Ty.sl (Ty.sl (Ty.sl (Ty.i .i64)))).at u55 x51.2.2.1, (Ty.sl (Ty.sl (Ty.i .i64))).at u56 x51.2.2.2, bx b61 [u53, (Value.int .i64 x51.2.1), u55, u56], (Ty.sl (Ty.i .i64)).at u69 x67.1, (Ty.sl (Ty.sl (Ty.sl (Ty.i .i64)))).at u71 x67.2.2.1, (Ty.sl (Ty.sl (Ty.i .i64))).at u72 x67.2.2.2.1, bx b78 [u69, (Value.int .i64 x67.2.1), u71, u72]] := hS89
    refine WL.val (Value.bool (!x84)) _ (op_not rfl) rfl ?_
    refine WL.val (Value.bool (!x84)) _ (op_move rfl) rfl ?_
    refine WL.cut 4 (fun fq wq => fq 1 = (Value.pointer (some ⟨b1, 0, none⟩)) ∧ fq 4 = (Value.pointer (some ⟨b45, 0, none⟩)) ∧ fq 5 = (Value.int .i64 x34.2.2.2.2) ∧ fq 6 = (Value.pointer (some ⟨b61, 0, none⟩)) ∧ fq 7 = (Value.pointer (some ⟨b78, 0, none⟩)) ∧ fq 8 = (Value.int .i64 x67.2.2.2.2) ∧ fq 40 = (Value.bool ((!x84) || (x67.2.2.2.2 != x34.2.2.2.2))) ∧ St wd24 wq [(Ty.sl (Ty.i .i64)).at u36 x34.1, (Ty.sl (Ty.sl (Ty.sl (Ty.i .i64)))).at u38 x34.2.2.1, (Ty.sl (Ty.sl (Ty.i .i64))).at u39 x34.2.2.2.1, bx b45 [u36, (Value.int .i64 x34.2.1), u38, u39], (Ty.sl (Ty.i .i64)).at u53 x51.1, (Ty.sl (Ty.sl (Ty.sl (Ty.i .i64)))).at u55 x51.2.2.1, (Ty.sl (Ty.sl (Ty.i .i64))).at u56 x51.2.2.2, bx b61 [u53, (Value.int .i64 x51.2.1), u55, u56], (Ty.sl (Ty.i .i64)).at u69 x67.1, (Ty.sl (Ty.sl (Ty.sl (Ty.i .i64)))).at u71 x67.2.2.1, (Ty.sl (Ty.sl (Ty.i .i64))).at u72 x67.2.2.2.1, bx b78 [u69, (Value.int .i64 x67.2.1), u71, u72]]) ?_ ?_
    · rcases Bool.eq_false_or_eq_true (!x84) with hc90 | hc90
      · refine WL.gskip rfl (bool_of rfl hc90) rfl ?_
        refine WL.gskip rfl (bool_of rfl hc90) rfl ?_
        refine WL.gskip rfl (bool_of rfl hc90) rfl ?_
        refine WL.val (Value.bool true) _ (op_pick_t (evb_of rfl hc90) rfl) rfl ?_
        refine WL.nil ?_
        exact ⟨rfl, rfl, rfl, rfl, rfl, rfl, rfl, (orT hc90), hS89⟩
      · refine WL.grun rfl (bool_of rfl hc90) ?_
        refine WL.val (Value.int .i64 x67.2.2.2.2) _ (op_move rfl) rfl ?_
        refine WL.grun rfl (bool_of rfl hc90) ?_
        refine WL.val (Value.int .i64 x34.2.2.2.2) _ (op_move rfl) rfl ?_
        refine WL.grun rfl (bool_of rfl hc90) ?_
        refine WL.val (Value.bool (x67.2.2.2.2 != x34.2.2.2.2)) _ (op_neq rfl rfl) rfl ?_
        refine WL.val (Value.bool (x67.2.2.2.2 != x34.2.2.2.2)) _ (op_pick_f (evb_of rfl hc90) rfl) rfl ?_
        refine WL.nil ?_
        exact ⟨rfl, rfl, rfl, rfl, rfl, rfl, rfl, (orF hc90), hS89⟩
    · intro f91 wd92 hq93
      obtain ⟨hf94, hf95, hf96, hf97, hf98, hf99, hf100, hS101⟩ := hq93
      refine WL.nil ?_
      refine W.cond ((!x84) || (x67.2.2.2.2 != x34.2.2.2.2)) hf100 (fun hc102 => ?_) (fun hc102 => ?_)
      · replace h := ip h hc102
        refine W.seq (W.region ?_)
        refine WL.val (Value.bool false) _ (op_assign rfl) rfl ?_
        refine WL.nil ?_
        refine W.ret ?_
        obtain rfl := Option.some.inj h
        show FinP _ _ _ _ _ _ _
        exact FinP.ret _ (res1 rfl rfl) ⟨rfl, (Ext.trans hE31 hS101.ext)⟩
      · replace h := inegb h hc102
        refine W.skip ?_
        refine W.seq (W.seq ?_)
        obtain ⟨x129, hx130, h⟩ := bs h
        refine W.drawR mixo 3 [] [fun _ v S w' => v = (Value.agg #[u53, (Value.int .i64 x51.2.1), u55, u56]) ∧ InR .i64 x51.2.1, fun _ v S w' => v = (Value.agg #[v_aB_Cocycle_Orders, (Value.int .i64 aB_Cocycle_Modulus), v_aB_Cocycle_Values, v_aB_Values]) ∧ InR .i64 aB_Cocycle_Modulus, fun _ v S w' => ∃ (uu0 : Value) (uu1 : Value) (uu2 : Value), v = (Value.agg #[uu0, (Value.int .i64 x129.2.1), uu1, uu2]) ∧ InR .i64 x129.2.1 ∧ SepS S w' [(Ty.sl (Ty.i .i64)).at uu0 x129.1, (Ty.sl (Ty.sl (Ty.sl (Ty.i .i64)))).at uu1 x129.2.2.1, (Ty.sl (Ty.sl (Ty.i .i64))).at uu2 x129.2.2.2]] (by kernel_rfl) (by kernel_rfl) ⟨⟨fun _ _ _ _ _ he ⟨h0, h1⟩ => ⟨h0, h1⟩, fun _ _ _ _ _ _ h => h⟩, ⟨fun _ _ _ _ _ he ⟨h0, h1⟩ => ⟨h0, h1⟩, fun _ _ _ _ _ _ h => h⟩, ⟨fun _ _ _ _ _ he ⟨uu0, uu1, uu2, h0, h1, r0⟩ => ⟨uu0, uu1, uu2, h0, h1, SepS.extend he r0⟩, fun _ _ _ _ _ _ h => h⟩, trivial⟩ ⟨?_, ?_, ?_, trivial⟩ ?_
        · refine ObX.op rfl fun f104 wd105 he106 hout107 hphi108 => ?_
          have hS109 := St.extend hS101 he106
          have e110 : f104 6 = (Value.pointer (some ⟨b61, 0, none⟩)) := (hout107 6 rfl).trans hf97
          exact OpX.val (Value.agg #[u53, (Value.int .i64 x51.2.1), u55, u56]) wd105 rfl (op_loadBox st_36 e110 (St.boxAt hS109 7 rfl) rfl rfl) (Ext.refl _) ⟨rfl, hr54⟩
        · refine ObX.op rfl fun f111 wd112 he113 hout114 hphi115 => ?_
          have hS116 := St.extend hS101 he113
          have e117 : f111 1 = (Value.pointer (some ⟨b1, 0, none⟩)) := (hout114 1 rfl).trans hf94
          exact OpX.val (Value.agg #[v_aB_Cocycle_Orders, (Value.int .i64 aB_Cocycle_Modulus), v_aB_Cocycle_Values, v_aB_Values]) wd112 rfl (op_loadBox st_28 e117 (BoxAt.lift (Ext.trans hE32 hS116.ext) hx6) rfl rfl) (Ext.refl _) ⟨rfl, r_aB_Cocycle_Modulus⟩
        · refine ObX.op rfl fun f118 wd119 he120 hout121 hphi122 => ?_
          have hS123 := St.extend hS101 he120
          obtain ⟨S124, hS125, hf126⟩ := hphi122 1 42 _ rfl rfl rfl
          obtain ⟨e127, hr128⟩ := hf126
          refine OpX.call rfl (op_call fn_8 (args1 e127)) (Ret.mono (c_laws_toBraiding (Ty.lift _ (Ext.trans hE31 hS123.ext) r_aB_Cocycle_Orders) hr128 (Ty.lift _ (Ext.trans hE31 hS123.ext) r_aB_Cocycle_Values) (Ty.lift _ (Ext.trans hE31 hS123.ext) r_aB_Values) hx130) ?_)
          rintro _ wd135 ⟨u131, u133, u134, rfl, hr132, he136, hs137⟩
          exact ⟨he136, _, newS _ _, ⟨u131, u133, u134, rfl, hr132, (Sep.new hs137)⟩⟩
        · intro f138 wd139 Ss140 he141 hout142 hSn143 hSd144 hphi145
          show WL _ _ _ _ _ _ _
          obtain ⟨e147, hr148⟩ := hphi145 0 41 _ (by decide) rfl rfl
          obtain ⟨u150, u152, u153, e149, hr151, e149s⟩ := hphi145 2 43 _ (by decide) rfl rfl
          have e154 : f138 1 = (Value.pointer (some ⟨b1, 0, none⟩)) := (hout142 1 rfl).trans hf94
          have e155 : f138 4 = (Value.pointer (some ⟨b45, 0, none⟩)) := (hout142 4 rfl).trans hf95
          have e156 : f138 5 = (Value.int .i64 x34.2.2.2.2) := (hout142 5 rfl).trans hf96
          have e157 : f138 6 = (Value.pointer (some ⟨b61, 0, none⟩)) := (hout142 6 rfl).trans hf97
          have e158 : f138 7 = (Value.pointer (some ⟨b78, 0, none⟩)) := (hout142 7 rfl).trans hf98
          have e159 : f138 8 = (Value.int .i64 x67.2.2.2.2) := (hout142 8 rfl).trans hf99
          have hS160 := St.joinS hS101 he141 hSn143 (SepS.consS hSd144 rfl e149s SepS.nilS)
          replace hS160 : St wd24 wd139 [(Ty.sl (Ty.i .i64)).at u36 x34.1, (Ty.sl (Ty.sl (Ty.sl (Ty.i .i64)))).at u38 x34.2.2.1, (Ty.sl (Ty.sl (Ty.i .i64))).at u39 x34.2.2.2.1, bx b45 [u36, (Value.int .i64 x34.2.1), u38, u39], (Ty.sl (Ty.i .i64)).at u53 x51.1, (Ty.sl (Ty.sl (Ty.sl (Ty.i .i64)))).at u55 x51.2.2.1, (Ty.sl (Ty.sl (Ty.i .i64))).at u56 x51.2.2.2, bx b61 [u53, (Value.int .i64 x51.2.1), u55, u56], (Ty.sl (Ty.i .i64)).at u69 x67.1, (Ty.sl (Ty.sl (Ty.sl (Ty.i .i64)))).at u71 x67.2.2.1, (Ty.sl (Ty.sl (Ty.i .i64))).at u72 x67.2.2.2.1, bx b78 [u69, (Value.int .i64 x67.2.1), u71, u72], (Ty.sl (Ty.i .i64)).at u150 x129.1, (Ty.sl (Ty.sl (Ty.sl (Ty.i .i64)))).at u152 x129.2.2.1, (Ty.sl (Ty.sl (Ty.i .i64))).at u153 x129.2.2.2] := hS160
          obtain ⟨x161, hx162, h⟩ := bs h
          refine WL.call _ (op_call fn_11 (args2 e147 e149)) (c_laws_eqBraiding (St.rep (t := (Ty.sl (Ty.i .i64))) hS160 4 rfl) hr148 (St.rep (t := (Ty.sl (Ty.sl (Ty.sl (Ty.i .i64))))) hS160 5 rfl) (St.rep (t := (Ty.sl (Ty.sl (Ty.i .i64)))) hS160 6 rfl) (St.rep (t := (Ty.sl (Ty.i .i64))) hS160 12 rfl) hr151 (St.rep (t := (Ty.sl (Ty.sl (Ty.sl (Ty.i .i64))))) hS160 13 rfl) (St.rep (t := (Ty.sl (Ty.sl (Ty.i .i64)))) hS160 14 rfl) hx162) rfl ?_
          rintro _ wd163 ⟨rfl, he164⟩
          have hS166 := St.extend hS160 he164
          replace hS166 : St wd24 wd163 [(Ty.sl (Ty.i .i64)).at u36 x34.1, (Ty.sl (Ty.sl (Ty.sl (Ty.i .i64)))).at u38 x34.2.2.1, (Ty.sl (Ty.sl (Ty.i .i64))).at u39 x34.2.2.2.1, bx b45 [u36, (Value.int .i64 x34.2.1), u38, u39], (Ty.sl (Ty.i .i64)).at u53 x51.1, (Ty.sl (Ty.sl (Ty.sl (Ty.i .i64)))).at u55 x51.2.2.1, (Ty.sl (Ty.sl (Ty.i .i64))).at u56 x51.2.2.2, bx b61 [u53, (Value.int .i64 x51.2.1), u55, u56], (Ty.sl (Ty.i .i64)).at u69 x67.1, (Ty.sl (Ty.sl (Ty.sl (Ty.i .i64)))).at u71 x67.2.2.1, (Ty.sl (Ty.sl (Ty.i .i64))).at u72 x67.2.2.2.1, bx b78 [u69, (Value.int .i64 x67.2.1), u71, u72], (Ty.sl (Ty.i .i64)).at u150 x129.1, (Ty.sl (Ty.sl (Ty.sl (Ty.i .i64)))).at u152 x129.2.2.1, (Ty.sl (Ty.sl (Ty.i .i64))).at u153 x129.2.2.2] := hS166
          refine WL.val (Value.bool (!x161)) _ (op_not rfl) rfl ?_
          refine WL.nil ?_
          refine W.cond (!x161) rfl (fun hc167 => ?_) (fun hc167 => ?_)
          · replace h := ip h hc167
            refine W.seq (W.region ?_)
            refine WL.val (Value.bool false) _ (op_assign rfl) rfl ?_
            refine WL.nil ?_
            refine W.ret ?_
            obtain rfl := Option.some.inj h
            show FinP _ _ _ _ _ _ _
            exact FinP.ret _ (res1 rfl rfl) ⟨rfl, (Ext.trans hE31 hS166.ext)⟩
          · replace h := inegb h hc167
            refine W.skip ?_
            refine W.seq (W.region ?_)
            refine WL.val (Value.int .i64 (1 : Int)) _ (op_assign rfl) rfl ?_
            refine WL.nil ?_
            refine W.seq (W.region ?_)
            refine WL.val (Value.agg #[u53, (Value.int .i64 x51.2.1), u55, u56]) _ (op_loadBox st_36 e157 (St.boxAt hS166 7 rfl) rfl rfl) rfl ?_
            refine WL.val (Value.int .i64 (1 : Int)) _ (op_move rfl) rfl ?_
            obtain ⟨x169, hx170, h⟩ := bs h
            have hS171 := St.fold [(Ty.sl (Ty.i .i64)).at u53 x51.1, (Ty.sl (Ty.sl (Ty.sl (Ty.i .i64)))).at u55 x51.2.2.1, (Ty.sl (Ty.sl (Ty.i .i64))).at u56 x51.2.2.2] [(Ty.sl (Ty.i .i64)).at u36 x34.1, (Ty.sl (Ty.sl (Ty.sl (Ty.i .i64)))).at u38 x34.2.2.1, (Ty.sl (Ty.sl (Ty.i .i64))).at u39 x34.2.2.2.1, bx b45 [u36, (Value.int .i64 x34.2.1), u38, u39], bx b61 [u53, (Value.int .i64 x51.2.1), u55, u56], (Ty.sl (Ty.i .i64)).at u69 x67.1, (Ty.sl (Ty.sl (Ty.sl (Ty.i .i64)))).at u71 x67.2.2.1, (Ty.sl (Ty.sl (Ty.i .i64))).at u72 x67.2.2.2.1, bx b78 [u69, (Value.int .i64 x67.2.1), u71, u72], (Ty.sl (Ty.i .i64)).at u150 x129.1, (Ty.sl (Ty.sl (Ty.sl (Ty.i .i64)))).at u152 x129.2.2.1, (Ty.sl (Ty.sl (Ty.i .i64))).at u153 x129.2.2.2] (St.pick hS166 [4, 5, 6, 0, 1, 2, 3, 7, 8, 9, 10, 11, 12, 13, 14] rfl)
            refine WL.call _ (op_call fn_12 (args2 rfl rfl)) (c_laws_markBraiding hS171 hr54 (inL rfl) hx170) rfl ?_
            rintro _ wd174 ⟨rfl, hr175, hS172⟩
            have hS173 := St.pick (St.unfold [(Ty.sl (Ty.i .i64)).at u53 x169.2.1, (Ty.sl (Ty.sl (Ty.sl (Ty.i .i64)))).at u55 x169.2.2.1, (Ty.sl (Ty.sl (Ty.i .i64))).at u56 x169.2.2.2] [(Ty.sl (Ty.i .i64)).at u36 x34.1, (Ty.sl (Ty.sl (Ty.sl (Ty.i .i64)))).at u38 x34.2.2.1, (Ty.sl (Ty.sl (Ty.i .i64))).at u39 x34.2.2.2.1, bx b45 [u36, (Value.int .i64 x34.2.1), u38, u39], bx b61 [u53, (Value.int .i64 x51.2.1), u55, u56], (Ty.sl (Ty.i .i64)).at u69 x67.1, (Ty.sl (Ty.sl (Ty.sl (Ty.i .i64)))).at u71 x67.2.2.1, (Ty.sl (Ty.sl (Ty.i .i64))).at u72 x67.2.2.2.1, bx b78 [u69, (Value.int .i64 x67.2.1), u71, u72], (Ty.sl (Ty.i .i64)).at u150 x129.1, (Ty.sl (Ty.sl (Ty.sl (Ty.i .i64)))).at u152 x129.2.2.1, (Ty.sl (Ty.sl (Ty.i .i64))).at u153 x129.2.2.2] hS172) [3, 4, 5, 6, 0, 1, 2, 7, 8, 9, 10, 11, 12, 13, 14] rfl
            replace hS173 : St wd24 wd174 [(Ty.sl (Ty.i .i64)).at u36 x34.1, (Ty.sl (Ty.sl (Ty.sl (Ty.i .i64)))).at u38 x34.2.2.1, (Ty.sl (Ty.sl (Ty.i .i64))).at u39 x34.2.2.2.1, bx b45 [u36, (Value.int .i64 x34.2.1), u38, u39], (Ty.sl (Ty.i .i64)).at u53 x169.2.1, (Ty.sl (Ty.sl (Ty.sl (Ty.i .i64)))).at u55 x169.2.2.1, (Ty.sl (Ty.sl (Ty.i .i64))).at u56 x169.2.2.2, bx b61 [u53, (Value.int .i64 x51.2.1), u55, u56], (Ty.sl (Ty.i .i64)).at u69 x67.1, (Ty.sl (Ty.sl (Ty.sl (Ty.i .i64)))).at u71 x67.2.2.1, (Ty.sl (Ty.sl (Ty.i .i64))).at u72 x67.2.2.2.1, bx b78 [u69, (Value.int .i64 x67.2.1), u71, u72], (Ty.sl (Ty.i .i64)).at u150 x129.1, (Ty.sl (Ty.sl (Ty.sl (Ty.i .i64)))).at u152 x129.2.2.1, (Ty.sl (Ty.sl (Ty.i .i64))).at u153 x129.2.2.2] := hS173
            refine WL.val (Value.int .i64 x169.1) _ (op_assign rfl) rfl ?_
            refine WL.nil ?_
            refine W.seq (W.seq (W.region ?_))
            refine WL.val (Value.int .i64 x169.1) _ (op_move rfl) rfl ?_
            refine WL.val (Value.bool (decide (x169.1 < (0 : Int)))) _ (op_lss rfl rfl) rfl ?_
            refine WL.val (Value.bool (decide (x169.1 < (0 : Int)))) _ (op_move rfl) rfl ?_
            obtain ⟨x177, hj178, h⟩ := bs h
            refine WL.cut 5 (fun fq wq => fq 1 = (Value.pointer (some ⟨b1, 0, none⟩)) ∧ fq 4 = (Value.pointer (some ⟨b45, 0, none⟩)) ∧ fq 5 = (Value.int .i64 x34.2.2.2.2) ∧ fq 7 = (Value.pointer (some ⟨b78, 0, none⟩)) ∧ fq 8 = (Value.int .i64 x67.2.2.2.2) ∧ fq 56 = Value.bool x177 ∧ St wd24 wq [(Ty.sl (Ty.i .i64)).at u36 x34.1, (Ty.sl (Ty.sl (Ty.sl (Ty.i .i64)))).at u38 x34.2.2.1, (Ty.sl (Ty.sl (Ty.i .i64))).at u39 x34.2.2.2.1, bx b45 [u36, (Value.int .i64 x34.2.1), u38, u39], (Ty.sl (Ty.i .i64)).at u69 x67.1, (Ty.sl (Ty.sl (Ty.sl (Ty.i .i64)))).at u71 x67.2.2.1, (Ty.sl (Ty.sl (Ty.i .i64))).at u72 x67.2.2.2.1, bx b78 [u69, (Value.int .i64 x67.2.1), u71, u72]]) ?_ ?_
            · rcases Bool.eq_false_or_eq_true (decide (x169.1 < (0 : Int))) with hc176 | hc176
              · replace hj178 := ip hj178 hc176
                refine WL.gskip rfl (bool_of rfl hc176) rfl ?_
                refine WL.gskip rfl (bool_of rfl hc176) rfl ?_
                refine WL.gskip rfl (bool_of rfl hc176) rfl ?_
                refine WL.gskip rfl (bool_of rfl hc176) rfl ?_
                refine WL.val (Value.bool true) _ (op_pick_t (evb_of rfl hc176) rfl) rfl ?_
                refine WL.nil ?_
                obtain rfl := Option.some.inj hj178
                exact ⟨rfl, e154, e155, e156, e158, e159, rfl, (St.pick hS173 [0, 1, 2, 3, 8, 9, 10, 11] rfl)⟩
              · replace hj178 := inegb hj178 hc176
                refine WL.grun rfl (bool_of rfl hc176) ?_
                refine WL.val (Value.agg #[u69, (Value.int .i64 x67.2.1), u71, u72]) _ (op_loadBox st_36 e158 (St.boxAt hS173 11 rfl) rfl rfl) rfl ?_
                refine WL.grun rfl (bool_of rfl hc176) ?_
                refine WL.val (Value.agg #[u36, (Value.int .i64 x34.2.1), u38, u39]) _ (op_loadBox st_36 e155 (St.boxAt hS173 3 rfl) rfl rfl) rfl ?_
                refine WL.grun rfl (bool_of rfl hc176) ?_
                obtain ⟨x182, hx183, hj178⟩ := bs hj178
                refine WL.call _ (op_call fn_11 (args2 rfl rfl)) (c_laws_eqBraiding (St.rep (t := (Ty.sl (Ty.i .i64))) hS173 8 rfl) hr70 (St.rep (t := (Ty.sl (Ty.sl (Ty.sl (Ty.i .i64))))) hS173 9 rfl) (St.rep (t := (Ty.sl (Ty.sl (Ty.i .i64)))) hS173 10 rfl) (St.rep (t := (Ty.sl (Ty.i .i64))) hS173 0 rfl) hr37 (St.rep (t := (Ty.sl (Ty.sl (Ty.sl (Ty.i .i64))))) hS173 1 rfl) (St.rep (t := (Ty.sl (Ty.sl (Ty.i .i64)))) hS173 2 rfl) hx183) rfl ?_
                rintro _ wd184 ⟨rfl, he185⟩
                have hS187 := St.extend hS173 he185
                replace hS187 : St wd24 wd184 [(Ty.sl (Ty.i .i64)).at u36 x34.1, (Ty.sl (Ty.sl (Ty.sl (Ty.i .i64)))).at u38 x34.2.2.1, (Ty.sl (Ty.sl (Ty.i .i64))).at u39 x34.2.2.2.1, bx b45 [u36, (Value.int .i64 x34.2.1), u38, u39], (Ty.sl (Ty.i .i64)).at u53 x169.2.1, (Ty.sl (Ty.sl (Ty.sl (Ty.i .i64)))).at u55 x169.2.2.1, (Ty.sl (Ty.sl (Ty.i .i64))).at u56 x169.2.2.2, bx b61 [u53, (Value.int .i64 x51.2.1), u55, u56], (Ty.sl (Ty.i .i64)).at u69 x67.1, (Ty.sl (Ty.sl (Ty.sl (Ty.i .i64)))).at u71 x67.2.2.1, (Ty.sl (Ty.sl (Ty.i .i64))).at u72 x67.2.2.2.1, bx b78 [u69, (Value.int .i64 x67.2.1), u71, u72], (Ty.sl (Ty.i .i64)).at u150 x129.1, (Ty.sl (Ty.sl (Ty.sl (Ty.i .i64)))).at u152 x129.2.2.1, (Ty.sl (Ty.sl (Ty.i .i64))).at u153 x129.2.2.2] := hS187
                refine WL.grun rfl (bool_of rfl hc176) ?_
                refine WL.val (Value.bool (!x182)) _ (op_not rfl) rfl ?_
                refine WL.val (Value.bool (!x182)) _ (op_pick_f (evb_of rfl hc176) rfl) rfl ?_
                refine WL.nil ?_
                obtain rfl := Option.some.inj hj178
                exact ⟨rfl, e154, e155, e156, e158, e159, rfl, (St.pick hS187 [0, 1, 2, 3, 8, 9, 10, 11] rfl)⟩
            · intro f179 wd180 hq181
              obtain ⟨hf188, hf189, hf190, hf191, hf192, hf193, hS194⟩ := hq181
              refine WL.val (Value.bool x177) _ (op_move hf193) rfl ?_
              refine WL.cut 4 (fun fq wq => fq 1 = (Value.pointer (some ⟨b1, 0, none⟩)) ∧ fq 4 = (Value.pointer (some ⟨b45, 0, none⟩)) ∧ fq 5 = (Value.int .i64 x34.2.2.2.2) ∧ fq 7 = (Value.pointer (some ⟨b78, 0, none⟩)) ∧ fq 61 = (Value.bool (x177 || (x67.2.2.2.2 != x34.2.2.2.2))) ∧ St wd24 wq [(Ty.sl (Ty.i .i64)).at u36 x34.1, (Ty.sl (Ty.sl (Ty.sl (Ty.i .i64)))).at u38 x34.2.2.1, (Ty.sl (Ty.sl (Ty.i .i64))).at u39 x34.2.2.2.1, bx b45 [u36, (Value.int .i64 x34.2.1), u38, u39], (Ty.sl (Ty.i .i64)).at u69 x67.1, (Ty.sl (Ty.sl (Ty.sl (Ty.i .i64)))).at u71 x67.2.2.1, (Ty.sl (Ty.sl (Ty.i .i64))).at u72 x67.2.2.2.1, bx b78 [u69, (Value.int .i64 x67.2.1), u71, u72]]) ?_ ?_
              · rcases Bool.eq_false_or_eq_true x177 with hc195 | hc195
                · refine WL.gskip rfl (bool_of rfl hc195) rfl ?_
                  refine WL.gskip rfl (bool_of rfl hc195) rfl ?_
                  refine WL.gskip rfl (bool_of rfl hc195) rfl ?_
                  refine WL.val (Value.bool true) _ (op_pick_t (evb_of rfl hc195) rfl) rfl ?_
                  refine WL.nil ?_
                  exact ⟨rfl, hf188, hf189, hf190, hf191, (orT hc195), hS194⟩
                · refine WL.grun rfl (bool_of rfl hc195) ?_
                  refine WL.val (Value.int .i64 x67.2.2.2.2) _ (op_move hf192) rfl ?_
                  refine WL.grun rfl (bool_of rfl hc195) ?_
                  refine WL.val (Value.int .i64 x34.2.2.2.2) _ (op_move hf190) rfl ?_
                  refine WL.grun rfl (bool_of rfl hc195) ?_
                  refine WL.val (Value.bool (x67.2.2.2.2 != x34.2.2.2.2)) _ (op_neq rfl rfl) rfl ?_
                  refine WL.val (Value.bool (x67.2.2.2.2 != x34.2.2.2.2)) _ (op_pick_f (evb_of rfl hc195) rfl) rfl ?_
                  refine WL.nil ?_
                  exact ⟨rfl, hf188, hf189, hf190, hf191, (orF hc195), hS194⟩
              · intro f196 wd197 hq198
                obtain ⟨hf199, hf200, hf201, hf202, hf203, hS204⟩ := hq198
                refine WL.nil ?_
                refine W.cond (x177 || (x67.2.2.2.2 != x34.2.2.2.2)) hf203 (fun hc205 => ?_) (fun hc205 => ?_)
                · replace h := ip h hc205
                  refine W.seq (W.region ?_)
                  refine WL.val (Value.bool false) _ (op_assign rfl) rfl ?_
                  refine WL.nil ?_
                  refine W.ret ?_
                  obtain rfl := Option.some.inj h
                  show FinP _ _ _ _ _ _ _
                  exact FinP.ret _ (res1 rfl rfl) ⟨rfl, (Ext.trans hE31 hS204.ext)⟩
                · replace h := inegb h hc205
                  refine W.skip ?_
                  refine W.seq (W.region ?_)
                  refine WL.val (Value.int .i64 (1 : Int)) _ (op_assign rfl) rfl ?_
                  refine WL.nil ?_
                  refine W.seq (W.region ?_)
                  refine WL.val (Value.agg #[u69, (Value.int .i64 x67.2.1), u71, u72]) _ (op_loadBox st_36 hf202 (St.boxAt hS204 7 rfl) rfl rfl) rfl ?_
                  refine WL.val (Value.int .i64 (1 : Int)) _ (op_move rfl) rfl ?_
                  obtain ⟨x207, hx208, h⟩ := bs h
                  have hS209 := St.fold [(Ty.sl (Ty.i .i64)).at u69 x67.1, (Ty.sl (Ty.sl (Ty.sl (Ty.i .i64)))).at u71 x67.2.2.1, (Ty.sl (Ty.sl (Ty.i .i64))).at u72 x67.2.2.2.1] [(Ty.sl (Ty.i .i64)).at u36 x34.1, (Ty.sl (Ty.sl (Ty.sl (Ty.i .i64)))).at u38 x34.2.2.1, (Ty.sl (Ty.sl (Ty.i .i64))).at u39 x34.2.2.2.1, bx b45 [u36, (Value.int .i64 x34.2.1), u38, u39], bx b78 [u69, (Value.int .i64 x67.2.1), u71, u72]] (St.pick hS204 [4, 5, 6, 0, 1, 2, 3, 7] rfl)
                  refine WL.call _ (op_call fn_12 (args2 rfl rfl)) (c_laws_markBraiding hS209 hr70 (inL rfl) hx208) rfl ?_
                  rintro _ wd212 ⟨rfl, hr213, hS210⟩
                  have hS211 := St.pick (St.unfold [(Ty.sl (Ty.i .i64)).at u69 x207.2.1, (Ty.sl (Ty.sl (Ty.sl (Ty.i .i64)))).at u71 x207.2.2.1, (Ty.sl (Ty.sl (Ty.i .i64))).at u72 x207.2.2.2] [(Ty.sl (Ty.i .i64)).at u36 x34.1, (Ty.sl (Ty.sl (Ty.sl (Ty.i .i64)))).at u38 x34.2.2.1, (Ty.sl (Ty.sl (Ty.i .i64))).at u39 x34.2.2.2.1, bx b45 [u36, (Value.int .i64 x34.2.1), u38, u39], bx b78 [u69, (Value.int .i64 x67.2.1), u71, u72]] hS210) [3, 4, 5, 6, 0, 1, 2, 7] rfl
                  replace hS211 : St wd24 wd212 [(Ty.sl (Ty.i .i64)).at u36 x34.1, (Ty.sl (Ty.sl (Ty.sl (Ty.i .i64)))).at u38 x34.2.2.1, (Ty.sl (Ty.sl (Ty.i .i64))).at u39 x34.2.2.2.1, bx b45 [u36, (Value.int .i64 x34.2.1), u38, u39], (Ty.sl (Ty.i .i64)).at u69 x207.2.1, (Ty.sl (Ty.sl (Ty.sl (Ty.i .i64)))).at u71 x207.2.2.1, (Ty.sl (Ty.sl (Ty.i .i64))).at u72 x207.2.2.2, bx b78 [u69, (Value.int .i64 x67.2.1), u71, u72]] := hS211
                  refine WL.val (Value.int .i64 x207.1) _ (op_assign rfl) rfl ?_
                  refine WL.nil ?_
                  refine W.seq (W.region ?_)
                  refine WL.val (Value.int .i64 (1 : Int)) _ (op_assign rfl) rfl ?_
                  refine WL.nil ?_
                  refine W.seq (W.region ?_)
                  refine WL.val (Value.agg #[u69, (Value.int .i64 x67.2.1), u71, u72]) _ (op_loadBox st_36 hf202 (St.boxAt hS211 7 rfl) rfl rfl) rfl ?_
                  refine WL.val (Value.int .i64 (1 : Int)) _ (op_move rfl) rfl ?_
                  obtain ⟨x214, hx215, h⟩ := bs h
                  refine WL.call _ (op_call fn_17 (args2 rfl rfl)) (c_laws_heldBraiding (St.rep (t := (Ty.sl (Ty.i .i64))) hS211 4 rfl) hr70 (St.rep (t := (Ty.sl (Ty.sl (Ty.sl (Ty.i .i64))))) hS211 5 rfl) (St.rep (t := (Ty.sl (Ty.sl (Ty.i .i64)))) hS211 6 rfl) (inL rfl) hx215) rfl ?_
                  rintro _ wd217 ⟨rfl, hr216, he218⟩
                  have hS220 := St.extend hS211 he218
                  replace hS220 : St wd24 wd217 [(Ty.sl (Ty.i .i64)).at u36 x34.1, (Ty.sl (Ty.sl (Ty.sl (Ty.i .i64)))).at u38 x34.2.2.1, (Ty.sl (Ty.sl (Ty.i .i64))).at u39 x34.2.2.2.1, bx b45 [u36, (Value.int .i64 x34.2.1), u38, u39], (Ty.sl (Ty.i .i64)).at u69 x207.2.1, (Ty.sl (Ty.sl (Ty.sl (Ty.i .i64)))).at u71 x207.2.2.1, (Ty.sl (Ty.sl (Ty.i .i64))).at u72 x207.2.2.2, bx b78 [u69, (Value.int .i64 x67.2.1), u71, u72]] := hS220
                  refine WL.val (Value.int .i64 x214) _ (op_assign rfl) rfl ?_
                  refine WL.nil ?_
                  refine W.seq (W.seq (W.region ?_))
                  refine WL.val (Value.int .i64 x214) _ (op_move rfl) rfl ?_
                  refine WL.val (Value.bool (decide (x214 < (0 : Int)))) _ (op_lss rfl rfl) rfl ?_
                  refine WL.nil ?_
                  refine W.cond (decide (x214 < (0 : Int))) rfl (fun hc221 => ?_) (fun hc221 => ?_)
                  · replace h := ip h hc221
                    refine W.seq (W.region ?_)
                    refine WL.val (Value.bool false) _ (op_assign rfl) rfl ?_
                    refine WL.nil ?_
                    refine W.ret ?_
                    obtain rfl := Option.some.inj h
                    show FinP _ _ _ _ _ _ _
                    exact FinP.ret _ (res1 rfl rfl) ⟨rfl, (Ext.trans hE31 hS220.ext)⟩
                  · replace h := inegb h hc221
                    refine W.skip ?_
                    refine W.seq (W.seq (W.region ?_))
                    refine WL.val (Value.int .i64 x214) _ (op_move rfl) rfl ?_
                    refine WL.val (Value.int .i64 x207.1) _ (op_move rfl) rfl ?_
                    refine WL.val (Value.bool (x214 != x207.1)) _ (op_neq rfl rfl) rfl ?_
                    refine WL.nil ?_
                    refine W.cond (x214 != x207.1) rfl (fun hc223 => ?_) (fun hc223 => ?_)
                    · replace h := ip h hc223
                      refine W.seq (W.region ?_)
                      refine WL.val (Value.bool false) _ (op_assign rfl) rfl ?_
                      refine WL.nil ?_
                      refine W.ret ?_
                      obtain rfl := Option.some.inj h
                      show FinP _ _ _ _ _ _ _
                      exact FinP.ret _ (res1 rfl rfl) ⟨rfl, (Ext.trans hE31 hS220.ext)⟩
                    · replace h := inegb h hc223
                      refine W.skip ?_
                      refine W.seq (W.region ?_)
                      refine WL.val (Value.agg #[v_aB_Cocycle_Orders, (Value.int .i64 aB_Cocycle_Modulus), v_aB_Cocycle_Values, v_aB_Values]) _ (op_loadBox st_28 hf199 (BoxAt.lift (Ext.trans hE32 hS220.ext) hx6) rfl rfl) rfl ?_
                      obtain ⟨x225, hx226, h⟩ := bs h
                      refine WL.call _ (op_call fn_8 (args1 rfl)) (c_laws_toBraiding (Ty.lift _ (Ext.trans hE31 hS220.ext) r_aB_Cocycle_Orders) r_aB_Cocycle_Modulus (Ty.lift _ (Ext.trans hE31 hS220.ext) r_aB_Cocycle_Values) (Ty.lift _ (Ext.trans hE31 hS220.ext) r_aB_Values) hx226) rfl ?_
                      rintro _ wd231 ⟨u227, u229, u230, rfl, hr228, he232, hs233⟩
                      have hS234 := St.join hS220 he232 hs233
                      replace hS234 : St wd24 wd231 [(Ty.sl (Ty.i .i64)).at u36 x34.1, (Ty.sl (Ty.sl (Ty.sl (Ty.i .i64)))).at u38 x34.2.2.1, (Ty.sl (Ty.sl (Ty.i .i64))).at u39 x34.2.2.2.1, bx b45 [u36, (Value.int .i64 x34.2.1), u38, u39], (Ty.sl (Ty.i .i64)).at u69 x207.2.1, (Ty.sl (Ty.sl (Ty.sl (Ty.i .i64)))).at u71 x207.2.2.1, (Ty.sl (Ty.sl (Ty.i .i64))).at u72 x207.2.2.2, bx b78 [u69, (Value.int .i64 x67.2.1), u71, u72], (Ty.sl (Ty.i .i64)).at u227 x225.1, (Ty.sl (Ty.sl (Ty.sl (Ty.i .i64)))).at u229 x225.2.2.1, (Ty.sl (Ty.sl (Ty.i .i64))).at u230 x225.2.2.2] := hS234
                      obtain ⟨x235, hx236, h⟩ := bs h
                      refine WL.call _ (op_call fn_16 (args1 rfl)) (c_impl_ReverseBraiding (St.rep (t := (Ty.sl (Ty.i .i64))) hS234 8 rfl) hr228 (St.rep (t := (Ty.sl (Ty.sl (Ty.sl (Ty.i .i64))))) hS234 9 rfl) (St.rep (t := (Ty.sl (Ty.sl (Ty.i .i64)))) hS234 10 rfl) hx236) rfl ?_
                      rintro _ wd242 ⟨u237, u239, u240, rfl, hr238, hr241, he243, hs244⟩
                      have hS245 := St.join hS234 he243 hs244
                      replace hS245 : St wd24 wd242 [(Ty.sl (Ty.i .i64)).at u36 x34.1, (Ty.sl (Ty.sl (Ty.sl (Ty.i .i64)))).at u38 x34.2.2.1, (Ty.sl (Ty.sl (Ty.i .i64))).at u39 x34.2.2.2.1, bx b45 [u36, (Value.int .i64 x34.2.1), u38, u39], (Ty.sl (Ty.i .i64)).at u69 x207.2.1, (Ty.sl (Ty.sl (Ty.sl (Ty.i .i64)))).at u71 x207.2.2.1, (Ty.sl (Ty.sl (Ty.i .i64))).at u72 x207.2.2.2, bx b78 [u69, (Value.int .i64 x67.2.1), u71, u72], (Ty.sl (Ty.i .i64)).at u227 x225.1, (Ty.sl (Ty.sl (Ty.sl (Ty.i .i64)))).at u229 x225.2.2.1, (Ty.sl (Ty.sl (Ty.i .i64))).at u230 x225.2.2.2, (Ty.sl (Ty.i .i64)).at u237 x235.1, (Ty.sl (Ty.sl (Ty.sl (Ty.i .i64)))).at u239 x235.2.2.1, (Ty.sl (Ty.sl (Ty.i .i64))).at u240 x235.2.2.2.1] := hS245
                      refine WL.val (Value.tuple #[(Value.agg #[u237, (Value.int .i64 x235.2.1), u239, u240]), (Value.int .i64 x235.2.2.2.2)]) _ (op_move rfl) rfl ?_
                      refine WL.val (Value.agg #[u237, (Value.int .i64 x235.2.1), u239, u240]) _ (op_extract rfl rfl) rfl ?_
                      refine WL.val (Value.int .i64 x235.2.2.2.2) _ (op_extract rfl rfl) rfl ?_
                      refine WL.alloc hS245 ze_36 (cs := [(Value.slice none 0 0), (Value.int .i64 (0 : Int)), (Value.slice none 0 0), (Value.slice none 0 0)]) rfl rfl ?_
                      intro b246 wd247 hS248 he249
                      replace hS248 : St wd24 wd247 [(Ty.sl (Ty.i .i64)).at u36 x34.1, (Ty.sl (Ty.sl (Ty.sl (Ty.i .i64)))).at u38 x34.2.2.1, (Ty.sl (Ty.sl (Ty.i .i64))).at u39 x34.2.2.2.1, bx b45 [u36, (Value.int .i64 x34.2.1), u38, u39], (Ty.sl (Ty.i .i64)).at u69 x207.2.1, (Ty.sl (Ty.sl (Ty.sl (Ty.i .i64)))).at u71 x207.2.2.1, (Ty.sl (Ty.sl (Ty.i .i64))).at u72 x207.2.2.2, bx b78 [u69, (Value.int .i64 x67.2.1), u71, u72], (Ty.sl (Ty.i .i64)).at u227 x225.1, (Ty.sl (Ty.sl (Ty.sl (Ty.i .i64)))).at u229 x225.2.2.1, (Ty.sl (Ty.sl (Ty.i .i64))).at u230 x225.2.2.2, (Ty.sl (Ty.i .i64)).at u237 x235.1, (Ty.sl (Ty.sl (Ty.sl (Ty.i .i64)))).at u239 x235.2.2.1, (Ty.sl (Ty.sl (Ty.i .i64))).at u240 x235.2.2.2.1, bx b246 [(Value.slice none 0 0), (Value.int .i64 (0 : Int)), (Value.slice none 0 0), (Value.slice none 0 0)]] := hS248
                      refine WL.storeBox [u237, (Value.int .i64 x235.2.1), u239, u240] hS248 (k := 14) rfl rfl rfl (us := [u237, (Value.int .i64 x235.2.1), u239, u240]) rfl sz_36 rfl rfl (all_rep (St.rep (t := (Ty.sl (Ty.i .i64))) hS248 11 rfl) (all_cons rfl (all_rep (St.rep (t := (Ty.sl (Ty.sl (Ty.sl (Ty.i .i64))))) hS248 12 rfl) (all_rep (St.rep (t := (Ty.sl (Ty.sl (Ty.i .i64)))) hS248 13 rfl) all_nil)))) rfl ?_
                      intro wd250 hS251
                      replace hS251 : St wd24 wd250 [(Ty.sl (Ty.i .i64)).at u36 x34.1, (Ty.sl (Ty.sl (Ty.sl (Ty.i .i64)))).at u38 x34.2.2.1, (Ty.sl (Ty.sl (Ty.i .i64))).at u39 x34.2.2.2.1, bx b45 [u36, (Value.int .i64 x34.2.1), u38, u39], (Ty.sl (Ty.i .i64)).at u69 x207.2.1, (Ty.sl (Ty.sl (Ty.sl (Ty.i .i64)))).at u71 x207.2.2.1, (Ty.sl (Ty.sl (Ty.i .i64))).at u72 x207.2.2.2, bx b78 [u69, (Value.int .i64 x67.2.1), u71, u72], (Ty.sl (Ty.i .i64)).at u227 x225.1, (Ty.sl (Ty.sl (Ty.sl (Ty.i .i64)))).at u229 x225.2.2.1, (Ty.sl (Ty.sl (Ty.i .i64))).at u230 x225.2.2.2, (Ty.sl (Ty.i .i64)).at u237 x235.1, (Ty.sl (Ty.sl (Ty.sl (Ty.i .i64)))).at u239 x235.2.2.1, (Ty.sl (Ty.sl (Ty.i .i64))).at u240 x235.2.2.2.1, bx b246 [u237, (Value.int .i64 x235.2.1), u239, u240]] := hS251
                      refine WL.val (Value.int .i64 x235.2.2.2.2) _ (op_assign rfl) rfl ?_
                      refine WL.nil ?_
                      refine W.seq (W.seq (W.region ?_))
                      refine WL.val (Value.agg #[u237, (Value.int .i64 x235.2.1), u239, u240]) _ (op_loadBox st_36 rfl (St.boxAt hS251 14 rfl) rfl rfl) rfl ?_
                      refine WL.val (Value.agg #[u36, (Value.int .i64 x34.2.1), u38, u39]) _ (op_loadBox st_36 hf200 (St.boxAt hS251 3 rfl) rfl rfl) rfl ?_
                      obtain ⟨x252, hx253, h⟩ := bs h
                      refine WL.call _ (op_call fn_11 (args2 rfl rfl)) (c_laws_eqBraiding (St.rep (t := (Ty.sl (Ty.i .i64))) hS251 11 rfl) hr238 (St.rep (t := (Ty.sl (Ty.sl (Ty.sl (Ty.i .i64))))) hS251 12 rfl) (St.rep (t := (Ty.sl (Ty.sl (Ty.i .i64)))) hS251 13 rfl) (St.rep (t := (Ty.sl (Ty.i .i64))) hS251 0 rfl) hr37 (St.rep (t := (Ty.sl (Ty.sl (Ty.sl (Ty.i .i64))))) hS251 1 rfl) (St.rep (t := (Ty.sl (Ty.sl (Ty.i .i64)))) hS251 2 rfl) hx253) rfl ?_
                      rintro _ wd254 ⟨rfl, he255⟩
                      have hS257 := St.extend hS251 he255
                      replace hS257 : St wd24 wd254 [(Ty.sl (Ty.i .i64)).at u36 x34.1, (Ty.sl (Ty.sl (Ty.sl (Ty.i .i64)))).at u38 x34.2.2.1, (Ty.sl (Ty.sl (Ty.i .i64))).at u39 x34.2.2.2.1, bx b45 [u36, (Value.int .i64 x34.2.1), u38, u39], (Ty.sl (Ty.i .i64)).at u69 x207.2.1, (Ty.sl (Ty.sl (Ty.sl (Ty.i .i64)))).at u71 x207.2.2.1, (Ty.sl (Ty.sl (Ty.i .i64))).at u72 x207.2.2.2, bx b78 [u69, (Value.int .i64 x67.2.1), u71, u72], (Ty.sl (Ty.i .i64)).at u227 x225.1, (Ty.sl (Ty.sl (Ty.sl (Ty.i .i64)))).at u229 x225.2.2.1, (Ty.sl (Ty.sl (Ty.i .i64))).at u230 x225.2.2.2, (Ty.sl (Ty.i .i64)).at u237 x235.1, (Ty.sl (Ty.sl (Ty.sl (Ty.i .i64)))).at u239 x235.2.2.1, (Ty.sl (Ty.sl (Ty.i .i64))).at u240 x235.2.2.2.1, bx b246 [u237, (Value.int .i64 x235.2.1), u239, u240]] := hS257
                      refine WL.val (Value.bool (!x252)) _ (op_not rfl) rfl ?_
                      refine WL.val (Value.bool (!x252)) _ (op_move rfl) rfl ?_
                      refine WL.cut 4 (fun fq wq => fq 7 = (Value.pointer (some ⟨b78, 0, none⟩)) ∧ fq 10 = (Value.int .i64 x207.1) ∧ fq 87 = (Value.bool ((!x252) || (x235.2.2.2.2 != x34.2.2.2.2))) ∧ St wd24 wq [(Ty.sl (Ty.i .i64)).at u69 x207.2.1, (Ty.sl (Ty.sl (Ty.sl (Ty.i .i64)))).at u71 x207.2.2.1, (Ty.sl (Ty.sl (Ty.i .i64))).at u72 x207.2.2.2, bx b78 [u69, (Value.int .i64 x67.2.1), u71, u72]]) ?_ ?_
                      · rcases Bool.eq_false_or_eq_true (!x252) with hc258 | hc258
                        · refine WL.gskip rfl (bool_of rfl hc258) rfl ?_
                          refine WL.gskip rfl (bool_of rfl hc258) rfl ?_
                          refine WL.gskip rfl (bool_of rfl hc258) rfl ?_
                          refine WL.val (Value.bool true) _ (op_pick_t (evb_of rfl hc258) rfl) rfl ?_
                          refine WL.nil ?_
                          exact ⟨rfl, hf202, rfl, (orT hc258), (St.pick hS257 [4, 5, 6, 7] rfl)⟩
                        · refine WL.grun rfl (bool_of rfl hc258) ?_
                          refine WL.val (Value.int .i64 x235.2.2.2.2) _ (op_move rfl) rfl ?_
                          refine WL.grun rfl (bool_of rfl hc258) ?_
                          refine WL.val (Value.int .i64 x34.2.2.2.2) _ (op_move hf201) rfl ?_
                          refine WL.grun rfl (bool_of rfl hc258) ?_
                          refine WL.val (Value.bool (x235.2.2.2.2 != x34.2.2.2.2)) _ (op_neq rfl rfl) rfl ?_
                          refine WL.val (Value.bool (x235.2.2.2.2 != x34.2.2.2.2)) _ (op_pick_f (evb_of rfl hc258) rfl) rfl ?_
                          refine WL.nil ?_
                          exact ⟨rfl, hf202, rfl, (orF hc258), (St.pick hS257 [4, 5, 6, 7] rfl)⟩
                      · intro f259 wd260 hq261
                        obtain ⟨hf262, hf263, hf264, hS265⟩ := hq261
                        refine WL.nil ?_
                        refine W.cond ((!x252) || (x235.2.2.2.2 != x34.2.2.2.2)) hf264 (fun hc266 => ?_) (fun hc266 => ?_)
                        · replace h := ip h hc266
                          refine W.seq (W.region ?_)
                          refine WL.val (Value.bool false) _ (op_assign rfl) rfl ?_
                          refine WL.nil ?_
                          refine W.ret ?_
                          obtain rfl := Option.some.inj h
                          show FinP _ _ _ _ _ _ _
                          exact FinP.ret _ (res1 rfl rfl) ⟨rfl, (Ext.trans hE31 hS265.ext)⟩
                        · replace h := inegb h hc266
                          refine W.skip ?_
                          refine W.seq (W.region ?_)
                          refine WL.val (Value.int .i64 (1 : Int)) _ (op_assign rfl) rfl ?_
                          refine WL.nil ?_
                          refine W.seq (W.region ?_)
                          refine WL.val (Value.agg #[u69, (Value.int .i64 x67.2.1), u71, u72]) _ (op_loadBox st_36 hf262 (St.boxAt hS265 3 rfl) rfl rfl) rfl ?_
                          refine WL.val (Value.int .i64 (1 : Int)) _ (op_move rfl) rfl ?_
                          obtain ⟨x268, hx269, h⟩ := bs h
                          refine WL.call _ (op_call fn_17 (args2 rfl rfl)) (c_laws_heldBraiding (St.rep (t := (Ty.sl (Ty.i .i64))) hS265 0 rfl) hr70 (St.rep (t := (Ty.sl (Ty.sl (Ty.sl (Ty.i .i64))))) hS265 1 rfl) (St.rep (t := (Ty.sl (Ty.sl (Ty.i .i64)))) hS265 2 rfl) (inL rfl) hx269) rfl ?_
                          rintro _ wd271 ⟨rfl, hr270, he272⟩
                          have hS274 := St.extend hS265 he272
                          replace hS274 : St wd24 wd271 [(Ty.sl (Ty.i .i64)).at u69 x207.2.1, (Ty.sl (Ty.sl (Ty.sl (Ty.i .i64)))).at u71 x207.2.2.1, (Ty.sl (Ty.sl (Ty.i .i64))).at u72 x207.2.2.2, bx b78 [u69, (Value.int .i64 x67.2.1), u71, u72]] := hS274
                          refine WL.val (Value.int .i64 x268) _ (op_assign rfl) rfl ?_
                          refine WL.nil ?_
                          refine W.seq (W.seq (W.region ?_))
                          refine WL.val (Value.int .i64 x268) _ (op_move rfl) rfl ?_
                          refine WL.val (Value.bool (decide (x268 < (0 : Int)))) _ (op_lss rfl rfl) rfl ?_
                          refine WL.nil ?_
                          refine W.cond (decide (x268 < (0 : Int))) rfl (fun hc275 => ?_) (fun hc275 => ?_)
                          · replace h := ip h hc275
                            refine W.seq (W.region ?_)
                            refine WL.val (Value.bool false) _ (op_assign rfl) rfl ?_
                            refine WL.nil ?_
                            refine W.ret ?_
                            obtain rfl := Option.some.inj h
                            show FinP _ _ _ _ _ _ _
                            exact FinP.ret _ (res1 rfl rfl) ⟨rfl, (Ext.trans hE31 hS274.ext)⟩
                          · replace h := inegb h hc275
                            refine W.skip ?_
                            refine W.seq (W.seq (W.region ?_))
                            refine WL.val (Value.int .i64 x268) _ (op_move rfl) rfl ?_
                            refine WL.val (Value.int .i64 x207.1) _ (op_move hf263) rfl ?_
                            refine WL.val (Value.bool (x268 != x207.1)) _ (op_neq rfl rfl) rfl ?_
                            refine WL.nil ?_
                            refine W.cond (x268 != x207.1) rfl (fun hc277 => ?_) (fun hc277 => ?_)
                            · replace h := ip h hc277
                              refine W.seq (W.region ?_)
                              refine WL.val (Value.bool false) _ (op_assign rfl) rfl ?_
                              refine WL.nil ?_
                              refine W.ret ?_
                              obtain rfl := Option.some.inj h
                              show FinP _ _ _ _ _ _ _
                              exact FinP.ret _ (res1 rfl rfl) ⟨rfl, (Ext.trans hE31 hS274.ext)⟩
                            · replace h := inegb h hc277
                              refine W.skip ?_
                              refine W.seq (W.region ?_)
                              refine WL.val (Value.bool true) _ (op_assign rfl) rfl ?_
                              refine WL.nil ?_
                              refine W.ret ?_
                              obtain rfl := Option.some.inj h
                              show FinP _ _ _ _ _ _ _
                              exact FinP.ret _ (res1 rfl rfl) ⟨rfl, (Ext.trans hE31 hS274.ext)⟩

end Go.VG
