/- The walks, part 4: each Go function returns what its plain twin returns. No condition beyond what each names. -/
import Derived.Test.YtbgebkgpodgjdaaGWalk3
set_option linter.all false
namespace Go.VG
open Go.Proofs
attribute [local irreducible] W WL Sep FinP

theorem c_impl_GraphDimension {w : World} {r_Table : (List (List (List Int)))} {v_r_Table : Value} {graph : (List (List Int))} {v_graph : Value} (r_r_Table : (Ty.sl (Ty.sl (Ty.sl (Ty.i .i64)))).rep w v_r_Table r_Table) (r_graph : (Ty.sl (Ty.sl (Ty.i .i64))).rep w v_graph graph) {res : Int × Int} (h : p_impl_GraphDimension r_Table graph  = some res) :
    Ret Try.prog 10 #[(Value.agg #[v_r_Table]), v_graph] w (fun v w' => v = (Value.tuple #[Value.int .i64 res.1, Value.int .i64 res.2]) ∧ InR .i64 res.1 ∧ InR .i64 res.2 ∧ Ext w w') := by
  unfold p_impl_GraphDimension at h
  have hS0 : St w w [] := St.start w
  refine Ret.start (fn := Try.f10) Try.func10 rfl 133 rfl rfl ?_
  refine W.seq (W.region ?_)
  refine WL.box hS0 rfl (cs := [v_r_Table]) rfl rfl ?_
  intro b1 wd2 hS3 he4 hx5
  replace hS3 : St w wd2 [bx b1 [v_r_Table]] := hS3
  have hx6 := St.boxAt hS3 0 rfl
  have hE7 : Ext w wd2 := hS3.ext
  have hS8 : St wd2 wd2 [] := St.start wd2
  refine WL.val (Value.int .i64 (0 : Int)) _ (op_assign rfl) rfl ?_
  refine WL.val (Value.int .i64 (0 : Int)) _ (op_assign rfl) rfl ?_
  refine WL.nil ?_
  refine W.seq (W.seq (W.region ?_))
  refine WL.val (Value.agg #[v_r_Table]) _ (op_loadBox st_30 rfl (BoxAt.lift hS8.ext hx6) rfl rfl) rfl ?_
  obtain ⟨x9, hx10, h⟩ := bs h
  refine WL.call _ (op_call fn_29 (args1 rfl)) (c_impl_IsRing (Ty.lift _ (Ext.trans hE7 hS8.ext) r_r_Table) hx10) rfl ?_
  rintro _ wd11 ⟨rfl, he12⟩
  have hS14 := St.extend hS8 he12
  replace hS14 : St wd2 wd11 [] := hS14
  refine WL.val (Value.bool (!x9)) _ (op_not rfl) rfl ?_
  refine WL.val (Value.bool (!x9)) _ (op_move rfl) rfl ?_
  obtain ⟨x16, hj17, h⟩ := bs h
  refine WL.cut 4 (fun fq wq => fq 1 = v_graph ∧ fq 2 = (Value.pointer (some ⟨b1, 0, none⟩)) ∧ fq 28 = Value.bool x16 ∧ St wd2 wq []) ?_ ?_
  · rcases Bool.eq_false_or_eq_true (!x9) with hc15 | hc15
    · replace hj17 := ip hj17 hc15
      refine WL.gskip rfl (bool_of rfl hc15) rfl ?_
      refine WL.gskip rfl (bool_of rfl hc15) rfl ?_
      refine WL.gskip rfl (bool_of rfl hc15) rfl ?_
      refine WL.val (Value.bool true) _ (op_pick_t (evb_of rfl hc15) rfl) rfl ?_
      refine WL.nil ?_
      obtain rfl := Option.some.inj hj17
      exact ⟨rfl, rfl, rfl, rfl, hS14⟩
    · replace hj17 := inegb hj17 hc15
      refine WL.grun rfl (bool_of rfl hc15) ?_
      refine WL.val v_graph _ (op_move rfl) rfl ?_
      refine WL.grun rfl (bool_of rfl hc15) ?_
      obtain ⟨x21, hx22, hj17⟩ := bs hj17
      refine WL.call _ (op_call fn_30 (args1 rfl)) (c_impl_IsTrivalent (Ty.lift _ (Ext.trans hE7 hS14.ext) r_graph) hx22) rfl ?_
      rintro _ wd23 ⟨rfl, he24⟩
      have hS26 := St.extend hS14 he24
      replace hS26 : St wd2 wd23 [] := hS26
      refine WL.grun rfl (bool_of rfl hc15) ?_
      refine WL.val (Value.bool (!x21)) _ (op_not rfl) rfl ?_
      refine WL.val (Value.bool (!x21)) _ (op_pick_f (evb_of rfl hc15) rfl) rfl ?_
      refine WL.nil ?_
      obtain rfl := Option.some.inj hj17
      exact ⟨rfl, rfl, rfl, rfl, hS26⟩
  · intro f18 wd19 hq20
    obtain ⟨hf27, hf28, hf29, hS30⟩ := hq20
    refine WL.nil ?_
    refine W.cond x16 hf29 (fun hc31 => ?_) (fun hc31 => ?_)
    · replace h := ip h hc31
      refine W.seq (W.region ?_)
      refine WL.val (Value.int .i64 (0 : Int)) _ (op_assign rfl) rfl ?_
      refine WL.val (Value.int .i64 (1 : Int)) _ (op_assign rfl) rfl ?_
      refine WL.nil ?_
      refine W.ret ?_
      obtain rfl := Option.some.inj h
      show FinP _ _ _ _ _ _ _
      exact FinP.ret _ (res2 rfl rfl rfl) ⟨rfl, (inL rfl), (inL rfl), (Ext.trans hE7 hS30.ext)⟩
    · replace h := inegb h hc31
      refine W.skip ?_
      refine W.seq (W.seq (W.region ?_))
      refine WL.val (Value.agg #[v_r_Table]) _ (op_loadBox st_30 hf28 (BoxAt.lift hS30.ext hx6) rfl rfl) rfl ?_
      obtain ⟨x33, hx34, h⟩ := bs h
      refine WL.call _ (op_call fn_31 (args1 rfl)) (c_impl_Ring_isCommutative (Ty.lift _ (Ext.trans hE7 hS30.ext) r_r_Table) hx34) rfl ?_
      rintro _ wd35 ⟨rfl, he36⟩
      have hS38 := St.extend hS30 he36
      replace hS38 : St wd2 wd35 [] := hS38
      refine WL.val (Value.bool (!x33)) _ (op_not rfl) rfl ?_
      refine WL.nil ?_
      refine W.cond (!x33) rfl (fun hc39 => ?_) (fun hc39 => ?_)
      · replace h := ip h hc39
        refine W.seq (W.region ?_)
        refine WL.val (Value.int .i64 (0 : Int)) _ (op_assign rfl) rfl ?_
        refine WL.val (Value.int .i64 (5 : Int)) _ (op_assign rfl) rfl ?_
        refine WL.nil ?_
        refine W.ret ?_
        obtain rfl := Option.some.inj h
        show FinP _ _ _ _ _ _ _
        exact FinP.ret _ (res2 rfl rfl rfl) ⟨rfl, (inL rfl), (inL rfl), (Ext.trans hE7 hS38.ext)⟩
      · replace h := inegb h hc39
        refine W.skip ?_
        refine W.seq ?_
        refine W.drawR mixo 8 [] [fun _ v _ _ => v = v_graph, fun _ v _ _ => v = (Value.int .i64 ((graph).length : Int)) ∧ InR .i64 ((graph).length : Int), fun _ v _ _ => v = (Value.int .i64 (w64 (((graph).length : Int) * (3 : Int)))) ∧ InR .i64 (w64 (((graph).length : Int) * (3 : Int))), fun _ v _ _ => v = (Value.int .i64 (w64 (((w64 (((graph).length : Int) * (3 : Int)))).tdiv (2 : Int)))) ∧ InR .i64 (w64 (((w64 (((graph).length : Int) * (3 : Int)))).tdiv (2 : Int))), fun _ v _ _ => v = (Value.pointer (some ⟨b1, 0, none⟩)), fun _ v _ _ => v = v_r_Table, fun _ v _ _ => v = (Value.int .i64 ((r_Table).length : Int)) ∧ InR .i64 ((r_Table).length : Int), fun _ v _ _ => v = (Value.int .i64 (w64 (((w64 (((graph).length : Int) * (3 : Int)))).tdiv (2 : Int)))) ∧ InR .i64 (w64 (((w64 (((graph).length : Int) * (3 : Int)))).tdiv (2 : Int)))] (by kernel_rfl) (by kernel_rfl) ⟨pk, pk, pk, pk, pk, pk, pk, pk, trivial⟩ ⟨?_, ?_, ?_, ?_, ?_, ?_, ?_, ?_, trivial⟩ ?_
        · refine ObX.op rfl fun f41 wd42 he43 hout44 hphi45 => ?_
          have e47 : f41 1 = v_graph := (hout44 1 rfl).trans hf27
          exact OpX.val v_graph wd42 rfl (op_move e47) (Ext.refl _) rfl
        · refine ObX.op rfl fun f48 wd49 he50 hout51 hphi52 => ?_
          have hS53 := St.extend hS38 he50
          obtain ⟨S54, hS55, hf56⟩ := hphi52 0 32 _ rfl rfl rfl
          have e57 : f48 32 = v_graph := hf56
          have hr58 := inR_len (Ty.lift _ (Ext.trans hE7 hS53.ext) r_graph)
          exact OpX.val (Value.int .i64 ((graph).length : Int)) wd49 rfl (op_lenL sl_25 (Ty.lift _ (Ext.trans hE7 hS53.ext) r_graph) e57) (Ext.refl _) ⟨rfl, hr58⟩
        · refine ObX.op rfl fun f59 wd60 he61 hout62 hphi63 => ?_
          obtain ⟨S65, hS66, hf67⟩ := hphi63 1 33 _ rfl rfl rfl
          obtain ⟨e68, hr69⟩ := hf67
          exact OpX.val (Value.int .i64 (w64 (((graph).length : Int) * (3 : Int)))) wd60 rfl (op_mul e68 rfl) (Ext.refl _) ⟨rfl, (inR_wrap _ _)⟩
        · refine ObX.op rfl fun f70 wd71 he72 hout73 hphi74 => ?_
          obtain ⟨S76, hS77, hf78⟩ := hphi74 2 34 _ rfl rfl rfl
          obtain ⟨e79, hr80⟩ := hf78
          exact OpX.val (Value.int .i64 (w64 (((w64 (((graph).length : Int) * (3 : Int)))).tdiv (2 : Int)))) wd71 rfl (op_quo (b := 2) e79 rfl (by decide)) (Ext.refl _) ⟨rfl, (inR_wrap _ _)⟩
        · refine ObX.op rfl fun f81 wd82 he83 hout84 hphi85 => ?_
          have e87 : f81 2 = (Value.pointer (some ⟨b1, 0, none⟩)) := (hout84 2 rfl).trans hf28
          exact OpX.val (Value.pointer (some ⟨b1, 0, none⟩)) wd82 rfl (op_fieldAddr fd_30_0 e87) (Ext.refl _) rfl
        · refine ObX.op rfl fun f88 wd89 he90 hout91 hphi92 => ?_
          have hS93 := St.extend hS38 he90
          obtain ⟨S94, hS95, hf96⟩ := hphi92 4 36 _ rfl rfl rfl
          have e97 : f88 36 = (Value.pointer (some ⟨b1, 0, none⟩)) := hf96
          exact OpX.val v_r_Table wd89 rfl (op_load one_22 e97 (BoxAt.cell (BoxAt.lift hS93.ext hx6) rfl)) (Ext.refl _) rfl
        · refine ObX.op rfl fun f98 wd99 he100 hout101 hphi102 => ?_
          have hS103 := St.extend hS38 he100
          obtain ⟨S104, hS105, hf106⟩ := hphi102 5 37 _ rfl rfl rfl
          have e107 : f98 37 = v_r_Table := hf106
          have hr108 := inR_len (Ty.lift _ (Ext.trans hE7 hS103.ext) r_r_Table)
          exact OpX.val (Value.int .i64 ((r_Table).length : Int)) wd99 rfl (op_lenL sl_22 (Ty.lift _ (Ext.trans hE7 hS103.ext) r_r_Table) e107) (Ext.refl _) ⟨rfl, hr108⟩
        · refine ObX.op rfl fun f109 wd110 he111 hout112 hphi113 => ?_
          obtain ⟨S115, hS116, hf117⟩ := hphi113 3 35 _ rfl rfl rfl
          obtain ⟨e118, hr119⟩ := hf117
          exact OpX.val (Value.int .i64 (w64 (((w64 (((graph).length : Int) * (3 : Int)))).tdiv (2 : Int)))) wd110 rfl (op_assign e118) (Ext.refl _) ⟨rfl, hr119⟩
        · intro f120 wd121 Ss122 he123 hout124 hSn125 hSd126 hphi127
          show WL _ _ _ _ _ _ _
          have hS128 := St.extend hS38 he123
          obtain ⟨e129, hr130⟩ := hphi127 6 38 _ (by decide) rfl rfl
          obtain ⟨e131, hr132⟩ := hphi127 7 6 _ (by decide) rfl rfl
          have e133 : f120 1 = v_graph := (hout124 1 rfl).trans hf27
          have e134 : f120 2 = (Value.pointer (some ⟨b1, 0, none⟩)) := (hout124 2 rfl).trans hf28
          refine WL.val (Value.int .i64 ((r_Table).length : Int)) _ (op_assign e129) rfl ?_
          refine WL.nil ?_
          refine W.seq ?_
          obtain ⟨x187, hx188, h⟩ := bs h
          refine W.drawR mixo 6 [] [fun _ v S w' => v = (Value.agg #[v_r_Table]), fun _ v _ _ => v = (Value.int .i64 (w64 (((w64 (((graph).length : Int) * (3 : Int)))).tdiv (2 : Int)))) ∧ InR .i64 (w64 (((w64 (((graph).length : Int) * (3 : Int)))).tdiv (2 : Int))), fun _ v _ _ => v = v_graph, fun _ v _ _ => v = (Value.int .i64 ((graph).length : Int)) ∧ InR .i64 ((graph).length : Int), fun _ v _ _ => v = (Value.int .i64 x187) ∧ InR .i64 x187, fun _ v S w' => v = (Value.agg #[v_r_Table])] (by kernel_rfl) (by kernel_rfl) ⟨pk, pk, pk, pk, pk, pk, trivial⟩ ⟨?_, ?_, ?_, ?_, ?_, ?_, trivial⟩ ?_
          · refine ObX.op rfl fun f135 wd136 he137 hout138 hphi139 => ?_
            have hS140 := St.extend hS128 he137
            have e141 : f135 2 = (Value.pointer (some ⟨b1, 0, none⟩)) := (hout138 2 rfl).trans e134
            exact OpX.val (Value.agg #[v_r_Table]) wd136 rfl (op_loadBox st_30 e141 (BoxAt.lift hS140.ext hx6) rfl rfl) (Ext.refl _) rfl
          · refine ObX.op rfl fun f142 wd143 he144 hout145 hphi146 => ?_
            have e148 : f142 6 = (Value.int .i64 (w64 (((w64 (((graph).length : Int) * (3 : Int)))).tdiv (2 : Int)))) := (hout145 6 rfl).trans e131
            exact OpX.val (Value.int .i64 (w64 (((w64 (((graph).length : Int) * (3 : Int)))).tdiv (2 : Int)))) wd143 rfl (op_move e148) (Ext.refl _) ⟨rfl, hr132⟩
          · refine ObX.op rfl fun f149 wd150 he151 hout152 hphi153 => ?_
            have e155 : f149 1 = v_graph := (hout152 1 rfl).trans e133
            exact OpX.val v_graph wd150 rfl (op_move e155) (Ext.refl _) rfl
          · refine ObX.op rfl fun f156 wd157 he158 hout159 hphi160 => ?_
            have hS161 := St.extend hS128 he158
            obtain ⟨S162, hS163, hf164⟩ := hphi160 2 41 _ rfl rfl rfl
            have e165 : f156 41 = v_graph := hf164
            have hr166 := inR_len (Ty.lift _ (Ext.trans hE7 hS161.ext) r_graph)
            exact OpX.val (Value.int .i64 ((graph).length : Int)) wd157 rfl (op_lenL sl_25 (Ty.lift _ (Ext.trans hE7 hS161.ext) r_graph) e165) (Ext.refl _) ⟨rfl, hr166⟩
          · refine ObX.op rfl fun f167 wd168 he169 hout170 hphi171 => ?_
            have hS172 := St.extend hS128 he169
            obtain ⟨S173, hS174, hf175⟩ := hphi171 0 39 _ rfl rfl rfl
            have e176 : f167 39 = (Value.agg #[v_r_Table]) := hf175
            obtain ⟨S177, hS178, hf179⟩ := hphi171 1 40 _ rfl rfl rfl
            obtain ⟨e180, hr181⟩ := hf179
            obtain ⟨S182, hS183, hf184⟩ := hphi171 3 42 _ rfl rfl rfl
            obtain ⟨e185, hr186⟩ := hf184
            refine OpX.call rfl (op_call fn_32 (args3 e176 e180 e185)) (Ret.mono (c_impl_Ring_labellings (Ty.lift _ (Ext.trans hE7 hS172.ext) r_r_Table) hr181 hr186 hx188) ?_)
            rintro _ wd190 ⟨rfl, hr189, he191⟩
            exact ⟨he191, _, noS _ _, ⟨rfl, hr189⟩⟩
          · refine ObX.op rfl fun f193 wd194 he195 hout196 hphi197 => ?_
            have hS198 := St.extend hS128 he195
            have e199 : f193 2 = (Value.pointer (some ⟨b1, 0, none⟩)) := (hout196 2 rfl).trans e134
            exact OpX.val (Value.agg #[v_r_Table]) wd194 rfl (op_loadBox st_30 e199 (BoxAt.lift hS198.ext hx6) rfl rfl) (Ext.refl _) rfl
          · intro f200 wd201 Ss202 he203 hout204 hSn205 hSd206 hphi207
            show WL _ _ _ _ _ _ _
            have hS208 := St.extend hS128 he203
            obtain ⟨e209, hr210⟩ := hphi207 4 43 _ (by decide) rfl rfl
            have e211 : f200 44 = (Value.agg #[v_r_Table]) := hphi207 5 44 _ (by decide) rfl rfl
            have e212 : f200 1 = v_graph := (hout204 1 rfl).trans e133
            have e213 : f200 2 = (Value.pointer (some ⟨b1, 0, none⟩)) := (hout204 2 rfl).trans e134
            have e214 : f200 6 = (Value.int .i64 (w64 (((w64 (((graph).length : Int) * (3 : Int)))).tdiv (2 : Int)))) := (hout204 6 rfl).trans e131
            have e215 : f200 7 = (Value.int .i64 ((r_Table).length : Int)) := (hout204 7 rfl).trans rfl
            obtain ⟨x216, hx217, h⟩ := bs h
            refine WL.call _ (op_call fn_33 (args1 e211)) (c_impl_Ring_duals (Ty.lift _ (Ext.trans hE7 hS208.ext) r_r_Table) hx217) rfl ?_
            rintro u218 wd219 ⟨_, rfl, he220, hs221⟩
            have hS222 := St.join hS208 he220 hs221
            replace hS222 : St wd2 wd219 [(Ty.sl (Ty.i .i64)).at u218 x216] := hS222
            have hb223 := St.rep (t := (Ty.sl (Ty.i .i64))) hS222 0 rfl
            have hE224 : Ext w wd219 := (Ext.trans hE7 hS222.ext)
            have hE225 : Ext wd2 wd219 := hS222.ext
            have hS226 : St wd219 wd219 [] := St.start wd219
            refine WL.val (Value.int .i64 x187) _ (op_assign e209) rfl ?_
            refine WL.val u218 _ (op_assign rfl) rfl ?_
            refine WL.nil ?_
            refine W.seq (W.seq (W.region ?_))
            refine WL.val (Value.int .i64 x187) _ (op_move rfl) rfl ?_
            refine WL.val (Value.bool (decide (x187 < (0 : Int)))) _ (op_lss rfl rfl) rfl ?_
            refine WL.nil ?_
            refine W.cond (decide (x187 < (0 : Int))) rfl (fun hc227 => ?_) (fun hc227 => ?_)
            · replace h := ip h hc227
              refine W.seq (W.region ?_)
              refine WL.val (Value.int .i64 (0 : Int)) _ (op_assign rfl) rfl ?_
              refine WL.val (Value.int .i64 (3 : Int)) _ (op_assign rfl) rfl ?_
              refine WL.nil ?_
              refine W.ret ?_
              obtain rfl := Option.some.inj h
              show FinP _ _ _ _ _ _ _
              exact FinP.ret _ (res2 rfl rfl rfl) ⟨rfl, (inL rfl), (inL rfl), (Ext.trans hE224 hS226.ext)⟩
            · replace h := inegb h hc227
              refine W.skip ?_
              refine W.seq (W.region ?_)
              refine WL.val (Value.int .i64 (0 : Int)) _ (op_assign rfl) rfl ?_
              refine WL.nil ?_
              refine W.seq (W.seq (W.region ?_))
              refine WL.val (Value.int .i64 x187) _ (op_move rfl) rfl ?_
              refine WL.val (Value.int .i64 (0 : Int)) _ (op_move rfl) rfl ?_
              refine WL.nil ?_
              show W _ _ _ _ _ _
              obtain ⟨res229, hres230, h⟩ := bs h
              refine W.blockLoop (fun fq wq => ∃ s, res229 = Res.fin s ∧ fq 10 = Value.int .i64 s ∧ InR .i64 s ∧ St wd219 wq []) ?_ ?_
              · refine W.forN (fun k (s : Int) fq wq => fq 1 = v_graph ∧ fq 2 = (Value.pointer (some ⟨b1, 0, none⟩)) ∧ fq 6 = (Value.int .i64 (w64 (((w64 (((graph).length : Int) * (3 : Int)))).tdiv (2 : Int)))) ∧ fq 7 = (Value.int .i64 ((r_Table).length : Int)) ∧ fq 9 = u218 ∧ fq 10 = Value.int .i64 s ∧ InR .i64 s ∧ fq 48 = (Value.int .i64 x187) ∧ fq 49 = Value.int .i64 (k : Int) ∧ InR .i64 (k : Int) ∧ St wd219 wq []) hres230 ⟨e212, e213, e214, e215, rfl, rfl, (inL rfl), rfl, rfl, (inL rfl), hS226⟩ ?_ ?_
                · intro k231 x232 ct233 f234 wd235 hk236 hb237 hI238 hbrk239 hret240
                  replace hI238 : f234 1 = v_graph ∧ f234 2 = (Value.pointer (some ⟨b1, 0, none⟩)) ∧ f234 6 = (Value.int .i64 (w64 (((w64 (((graph).length : Int) * (3 : Int)))).tdiv (2 : Int)))) ∧ f234 7 = (Value.int .i64 ((r_Table).length : Int)) ∧ f234 9 = u218 ∧ f234 10 = Value.int .i64 x232 ∧ InR .i64 x232 ∧ f234 48 = (Value.int .i64 x187) ∧ f234 49 = Value.int .i64 (k231 : Int) ∧ InR .i64 (k231 : Int) ∧ St wd219 wd235 [] := hI238
                  replace hb237 : p_impl_GraphDimension_L1 graph r_Table x216 k231 x232 = some ct233 := hb237
                  unfold p_impl_GraphDimension_L1 at hb237
                  obtain ⟨hf241, hf242, hf243, hf244, hf245, hf246, hr247, hf248, hf249, hr250, hS251⟩ := hI238
                  refine W.seq (W.region ?_)
                  refine WL.val (Value.bool (decide ((k231 : Int) < x187))) _ (op_lss hf249 hf248) rfl ?_
                  have hl252 : (k231 : Int) < x187 := by omega
                  refine WL.nil ?_
                  refine W.seq ?_
                  refine W.condT (decide ((k231 : Int) < x187)) rfl (decide_eq_true hl252) ?_
                  refine W.skip ?_
                  refine W.seq ?_
                  refine W.block ?_
                  refine W.seq (W.region ?_)
                  refine WL.val (Value.int .i64 (k231 : Int)) _ (op_move hf249) rfl ?_
                  refine WL.val (Value.int .i64 (k231 : Int)) _ (op_assign rfl) rfl ?_
                  refine WL.nil ?_
                  refine W.seq ?_
                  obtain ⟨x272, hx273, hb237⟩ := bs hb237
                  obtain ⟨ha274, hb275, hx276⟩ := mkL_some hx273
                  obtain ⟨x300, hx301, hb237⟩ := bs hb237
                  obtain ⟨ha302, hb303, hx304⟩ := mkL_some hx301
                  refine W.drawR mixo 5 [] [fun _ v _ _ => v = (Value.int .i64 (w64 (((w64 (((graph).length : Int) * (3 : Int)))).tdiv (2 : Int)))) ∧ InR .i64 (w64 (((w64 (((graph).length : Int) * (3 : Int)))).tdiv (2 : Int))), fun _ v S w' => SepS S w' [(Ty.sl (Ty.i .i64)).at v x272], fun _ v _ _ => v = (Value.int .i64 (w64 (((w64 (((graph).length : Int) * (3 : Int)))).tdiv (2 : Int)))) ∧ InR .i64 (w64 (((w64 (((graph).length : Int) * (3 : Int)))).tdiv (2 : Int))), fun _ v S w' => SepS S w' [(Ty.sl Ty.b).at v x300], fun f v _ _ => v = f 53] (by kernel_rfl) (by kernel_rfl) ⟨pk, ⟨fun _ _ _ _ _ he h => SepS.extend he h, fun _ _ _ _ _ _ h => h⟩, pk, ⟨fun _ _ _ _ _ he h => SepS.extend he h, fun _ _ _ _ _ _ h => h⟩, ⟨fun _ _ _ _ _ _ h => h, fun _ _ _ _ _ hf h => h.trans (hf 1 53 rfl rfl)⟩, trivial⟩ ⟨?_, ?_, ?_, ?_, ?_, trivial⟩ ?_
                  · refine ObX.op rfl fun f254 wd255 he256 hout257 hphi258 => ?_
                    have e260 : f254 6 = (Value.int .i64 (w64 (((w64 (((graph).length : Int) * (3 : Int)))).tdiv (2 : Int)))) := (hout257 6 rfl).trans hf243
                    exact OpX.val (Value.int .i64 (w64 (((w64 (((graph).length : Int) * (3 : Int)))).tdiv (2 : Int)))) wd255 rfl (op_move e260) (Ext.refl _) ⟨rfl, hr132⟩
                  · refine ObX.op rfl fun f261 wd262 he263 hout264 hphi265 => ?_
                    obtain ⟨S267, hS268, hf269⟩ := hphi265 0 52 _ rfl rfl rfl
                    obtain ⟨e270, hr271⟩ := hf269
                    obtain ⟨v277, wd278, ho279, he280, hs281⟩ := mk_make (P := Try.prog) (w := wd262) (T := 52) (t := (Ty.i .i64)) sl_52 (fun _ _ => ⟨rfl, (inL rfl)⟩) rfl (show ev f261 (Operand.tmp 52) = _ from e270) ha274 hb275 (by decide)
                    rw [← hx276] at hs281
                    exact OpX.valO v277 wd278 rfl ho279 he280 (Sep.new hs281)
                  · refine ObX.op rfl fun f282 wd283 he284 hout285 hphi286 => ?_
                    have e288 : f282 6 = (Value.int .i64 (w64 (((w64 (((graph).length : Int) * (3 : Int)))).tdiv (2 : Int)))) := (hout285 6 rfl).trans hf243
                    exact OpX.val (Value.int .i64 (w64 (((w64 (((graph).length : Int) * (3 : Int)))).tdiv (2 : Int)))) wd283 rfl (op_move e288) (Ext.refl _) ⟨rfl, hr132⟩
                  · refine ObX.op rfl fun f289 wd290 he291 hout292 hphi293 => ?_
                    obtain ⟨S295, hS296, hf297⟩ := hphi293 2 54 _ rfl rfl rfl
                    obtain ⟨e298, hr299⟩ := hf297
                    obtain ⟨v305, wd306, ho307, he308, hs309⟩ := mk_make (P := Try.prog) (w := wd290) (T := 54) (t := Ty.b) sl_54 (fun _ _ => rfl) rfl (show ev f289 (Operand.tmp 54) = _ from e298) ha302 hb303 (by decide)
                    rw [← hx304] at hs309
                    exact OpX.valO v305 wd306 rfl ho307 he308 (Sep.new hs309)
                  · refine ObX.op rfl fun f310 wd311 he312 hout313 hphi314 => ?_
                    obtain ⟨S316, hS317, hf318⟩ := hphi314 1 53 _ rfl rfl rfl
                    exact OpX.val (f310 53) wd311 rfl (op_assign rfl) (Ext.refl _) rfl
                  · intro f320 wd321 Ss322 he323 hout324 hSn325 hSd326 hphi327
                    show WL _ _ _ _ _ _ _
                    have e329 : SepS (Ss322 1) wd321 [(Ty.sl (Ty.i .i64)).at (f320 53) x272] := hphi327 1 53 _ (by decide) rfl rfl
                    have e330 : SepS (Ss322 3) wd321 [(Ty.sl Ty.b).at (f320 55) x300] := hphi327 3 55 _ (by decide) rfl rfl
                    have e331 : f320 12 = (f320 53) := (hphi327 4 12 _ (by decide) rfl rfl)
                    have e332 : f320 1 = v_graph := (hout324 1 rfl).trans hf241
                    have e333 : f320 2 = (Value.pointer (some ⟨b1, 0, none⟩)) := (hout324 2 rfl).trans hf242
                    have e334 : f320 6 = (Value.int .i64 (w64 (((w64 (((graph).length : Int) * (3 : Int)))).tdiv (2 : Int)))) := (hout324 6 rfl).trans hf243
                    have e335 : f320 7 = (Value.int .i64 ((r_Table).length : Int)) := (hout324 7 rfl).trans hf244
                    have e336 : f320 9 = u218 := (hout324 9 rfl).trans hf245
                    have e337 : f320 10 = (Value.int .i64 x232) := (hout324 10 rfl).trans hf246
                    have e338 : f320 11 = (Value.int .i64 (k231 : Int)) := (hout324 11 rfl).trans rfl
                    have e339 : f320 48 = (Value.int .i64 x187) := (hout324 48 rfl).trans hf248
                    have e340 : f320 49 = (Value.int .i64 (k231 : Int)) := (hout324 49 rfl).trans hf249
                    have hS341 := St.joinS hS251 he323 hSn325 (SepS.consS hSd326 rfl e329 (SepS.consS hSd326 rfl e330 SepS.nilS))
                    replace hS341 : St wd219 wd321 [(Ty.sl (Ty.i .i64)).at (f320 53) x272, (Ty.sl Ty.b).at (f320 55) x300] := hS341
                    refine WL.val (f320 55) _ (op_assign rfl) rfl ?_
                    refine WL.val (Value.int .i64 (1 : Int)) _ (op_assign rfl) rfl ?_
                    refine WL.nil ?_
                    refine W.seq (W.seq (W.region ?_))
                    refine WL.val (f320 53) _ (op_move e331) rfl ?_
                    have hr342 := inR_len (St.rep (t := (Ty.sl (Ty.i .i64))) hS341 0 rfl)
                    refine WL.val (Value.int .i64 ((x272).length : Int)) _ (op_lenL sl_52 (St.rep (t := (Ty.sl (Ty.i .i64))) hS341 0 rfl) rfl) rfl ?_
                    refine WL.val (Value.int .i64 (0 : Int)) _ (op_move rfl) rfl ?_
                    refine WL.nil ?_
                    show W _ _ _ _ _ _
                    obtain ⟨res343, hres344, hb237⟩ := bs hb237
                    refine W.blockLoop (fun fq wq => ∃ s, res343 = Res.fin s ∧ fq 1 = v_graph ∧ fq 2 = (Value.pointer (some ⟨b1, 0, none⟩)) ∧ fq 6 = (Value.int .i64 (w64 (((w64 (((graph).length : Int) * (3 : Int)))).tdiv (2 : Int)))) ∧ fq 7 = (Value.int .i64 ((r_Table).length : Int)) ∧ fq 9 = u218 ∧ fq 10 = (Value.int .i64 x232) ∧ fq 12 = (f320 53) ∧ fq 13 = (f320 55) ∧ fq 14 = (Value.int .i64 (1 : Int)) ∧ fq 48 = (Value.int .i64 x187) ∧ fq 49 = (Value.int .i64 (k231 : Int)) ∧ St wd219 wq [(Ty.sl (Ty.i .i64)).at (f320 53) s.1, (Ty.sl Ty.b).at (f320 55) x300]) ?_ ?_
                    · refine W.forN (fun k (s : (List Int) × Int) fq wq => fq 1 = v_graph ∧ fq 2 = (Value.pointer (some ⟨b1, 0, none⟩)) ∧ fq 6 = (Value.int .i64 (w64 (((w64 (((graph).length : Int) * (3 : Int)))).tdiv (2 : Int)))) ∧ fq 7 = (Value.int .i64 ((r_Table).length : Int)) ∧ fq 9 = u218 ∧ fq 10 = (Value.int .i64 x232) ∧ fq 11 = Value.int .i64 s.2 ∧ InR .i64 s.2 ∧ fq 12 = (f320 53) ∧ fq 13 = (f320 55) ∧ fq 14 = (Value.int .i64 (1 : Int)) ∧ fq 48 = (Value.int .i64 x187) ∧ fq 49 = (Value.int .i64 (k231 : Int)) ∧ fq 57 = (Value.int .i64 ((x272).length : Int)) ∧ fq 58 = Value.int .i64 (k : Int) ∧ InR .i64 (k : Int) ∧ St wd219 wq [(Ty.sl (Ty.i .i64)).at (f320 53) s.1, (Ty.sl Ty.b).at (f320 55) x300]) hres344 ⟨e332, e333, e334, e335, e336, e337, e338, hr250, e331, rfl, rfl, e339, e340, rfl, rfl, (inL rfl), hS341⟩ ?_ ?_
                      · intro k345 s389 ct348 f349 wd350 hk351 hb352 hI353 hbrk354 hret355
                        obtain ⟨x346, x347⟩ := s389
                        replace hI353 : f349 1 = v_graph ∧ f349 2 = (Value.pointer (some ⟨b1, 0, none⟩)) ∧ f349 6 = (Value.int .i64 (w64 (((w64 (((graph).length : Int) * (3 : Int)))).tdiv (2 : Int)))) ∧ f349 7 = (Value.int .i64 ((r_Table).length : Int)) ∧ f349 9 = u218 ∧ f349 10 = (Value.int .i64 x232) ∧ f349 11 = Value.int .i64 x347 ∧ InR .i64 x347 ∧ f349 12 = (f320 53) ∧ f349 13 = (f320 55) ∧ f349 14 = (Value.int .i64 (1 : Int)) ∧ f349 48 = (Value.int .i64 x187) ∧ f349 49 = (Value.int .i64 (k231 : Int)) ∧ f349 57 = (Value.int .i64 ((x272).length : Int)) ∧ f349 58 = Value.int .i64 (k345 : Int) ∧ InR .i64 (k345 : Int) ∧ St wd219 wd350 [(Ty.sl (Ty.i .i64)).at (f320 53) x346, (Ty.sl Ty.b).at (f320 55) x300] := hI353
                        replace hb352 : p_impl_GraphDimension_L2 r_Table k345 x346 x347 = some ct348 := hb352
                        unfold p_impl_GraphDimension_L2 at hb352
                        obtain ⟨hf356, hf357, hf358, hf359, hf360, hf361, hf362, hr363, hf364, hf365, hf366, hf367, hf368, hf369, hf370, hr371, hS372⟩ := hI353
                        refine W.seq (W.region ?_)
                        refine WL.val (Value.bool (decide ((k345 : Int) < ((x272).length : Int)))) _ (op_lss hf370 hf369) rfl ?_
                        have hl373 : (k345 : Int) < ((x272).length : Int) := by omega
                        refine WL.nil ?_
                        refine W.seq ?_
                        refine W.condT (decide ((k345 : Int) < ((x272).length : Int))) rfl (decide_eq_true hl373) ?_
                        refine W.skip ?_
                        refine W.seq ?_
                        refine W.block ?_
                        refine W.seq (W.region ?_)
                        refine WL.val (Value.int .i64 (k345 : Int)) _ (op_move hf370) rfl ?_
                        refine WL.val (Value.int .i64 (k345 : Int)) _ (op_assign rfl) rfl ?_
                        refine WL.nil ?_
                        refine W.seq (W.region ?_)
                        refine WL.val (f320 53) _ (op_move hf364) rfl ?_
                        refine WL.val (Value.int .i64 (k345 : Int)) _ (op_move rfl) rfl ?_
                        refine WL.val (Value.int .i64 x347) _ (op_move hf362) rfl ?_
                        refine WL.val (Value.int .i64 ((r_Table).length : Int)) _ (op_move hf359) rfl ?_
                        obtain ⟨x375, hz376, hb352⟩ := bs hb352
                        obtain ⟨h0377, hz376⟩ := remI_some hz376
                        have hr378 : InR .i64 x375 := by rw [hz376]; exact inR_tmod hr363
                        refine WL.val (Value.int .i64 x375) _ (by rw [hz376]; exact op_rem rfl rfl h0377) rfl ?_
                        obtain ⟨x379, hx382, hb352⟩ := bs hb352
                        obtain ⟨ha380, hb381, hx382⟩ := idx_some hx382
                        refine WL.val (Value.pointer (some (elA (f320 53) ((k345 : Int)).toNat))) _ (op_idx sl_52 (St.rep (t := (Ty.sl (Ty.i .i64))) hS372 0 rfl) rfl rfl ha380 hb381) rfl ?_
                        refine WL.storeEl (flat_i .i64) hS372 (k := 0) rfl sz_3 rfl rfl (lt_of_idx ha380 hb381) ⟨rfl, hr378⟩ ?_
                        intro wd383 hS384
                        replace hS384 : St wd219 wd383 [(Ty.sl (Ty.i .i64)).at (f320 53) ((x346).set ((k345 : Int)).toNat x375), (Ty.sl Ty.b).at (f320 55) x300] := hS384
                        refine WL.nil ?_
                        show W _ _ _ _ _ _
                        refine W.region ?_
                        refine WL.val (Value.int .i64 x347) _ (op_move hf362) rfl ?_
                        refine WL.val (Value.int .i64 ((r_Table).length : Int)) _ (op_move hf359) rfl ?_
                        obtain ⟨x385, hz386, hb352⟩ := bs hb352
                        obtain ⟨h0387, hz386⟩ := quoI_some hz386
                        have hr388 : InR .i64 x385 := by rw [hz386]; exact inR_wrap _ _
                        refine WL.val (Value.int .i64 x385) _ (by rw [hz386]; exact op_quo rfl rfl h0387) rfl ?_
                        refine WL.val (Value.int .i64 x385) _ (op_assign rfl) rfl ?_
                        refine WL.nil ?_
                        show W _ _ _ _ _ _
                        refine W.region ?_
                        refine WL.val (Value.int .i64 (w64 ((k345 : Int) + (1 : Int)))) _ (op_add hf370 rfl) rfl ?_
                        refine WL.val (Value.int .i64 (w64 ((k345 : Int) + (1 : Int)))) _ (op_move rfl) rfl ?_
                        refine WL.nil ?_
                        obtain rfl := Option.some.inj hb352
                        show ∃ s, _ = Ctl.next s ∧ _
                        exact ⟨_, rfl, hf356, hf357, hf358, hf359, hf360, hf361, rfl, hr388, hf364, hf365, hf366, hf367, hf368, hf369, (ctr_next hl373 hr342), (ctr_rng hl373 hr342), hS384⟩
                      · intro s394 f390 wd391 hs392 hI393
                        obtain ⟨x395, x396⟩ := s394
                        replace hI393 : f390 1 = v_graph ∧ f390 2 = (Value.pointer (some ⟨b1, 0, none⟩)) ∧ f390 6 = (Value.int .i64 (w64 (((w64 (((graph).length : Int) * (3 : Int)))).tdiv (2 : Int)))) ∧ f390 7 = (Value.int .i64 ((r_Table).length : Int)) ∧ f390 9 = u218 ∧ f390 10 = (Value.int .i64 x232) ∧ f390 11 = Value.int .i64 x396 ∧ InR .i64 x396 ∧ f390 12 = (f320 53) ∧ f390 13 = (f320 55) ∧ f390 14 = (Value.int .i64 (1 : Int)) ∧ f390 48 = (Value.int .i64 x187) ∧ f390 49 = (Value.int .i64 (k231 : Int)) ∧ f390 57 = (Value.int .i64 ((x272).length : Int)) ∧ f390 58 = Value.int .i64 (((x272).length : Nat) : Int) ∧ InR .i64 (((x272).length : Nat) : Int) ∧ St wd219 wd391 [(Ty.sl (Ty.i .i64)).at (f320 53) x395, (Ty.sl Ty.b).at (f320 55) x300] := hI393
                        obtain ⟨hf397, hf398, hf399, hf400, hf401, hf402, hf403, hr404, hf405, hf406, hf407, hf408, hf409, hf410, hf411, hr412, hS413⟩ := hI393
                        refine W.seq (W.region ?_)
                        refine WL.val (Value.bool (decide ((((x272).length : Nat) : Int) < ((x272).length : Int)))) _ (op_lss hf411 hf410) rfl ?_
                        have hl414 : ¬ (((x272).length : Nat) : Int) < ((x272).length : Int) := by omega
                        refine WL.nil ?_
                        refine W.seq ?_
                        refine W.condF (decide ((((x272).length : Nat) : Int) < ((x272).length : Int))) rfl (decide_eq_false hl414) ?_
                        refine W.exit ?_
                        show _ = _ ∧ _
                        exact ⟨rfl, _, hs392, hf397, hf398, hf399, hf400, hf401, hf402, hf405, hf406, hf407, hf408, hf409, hS413⟩
                    · rintro f415 wd416 ⟨s418, rfl, hq417⟩
                      replace hb237 := onRes_fin hb237
                      obtain ⟨x419, x420⟩ := s418
                      replace hq417 : f415 1 = v_graph ∧ f415 2 = (Value.pointer (some ⟨b1, 0, none⟩)) ∧ f415 6 = (Value.int .i64 (w64 (((w64 (((graph).length : Int) * (3 : Int)))).tdiv (2 : Int)))) ∧ f415 7 = (Value.int .i64 ((r_Table).length : Int)) ∧ f415 9 = u218 ∧ f415 10 = (Value.int .i64 x232) ∧ f415 12 = (f320 53) ∧ f415 13 = (f320 55) ∧ f415 14 = (Value.int .i64 (1 : Int)) ∧ f415 48 = (Value.int .i64 x187) ∧ f415 49 = (Value.int .i64 (k231 : Int)) ∧ St wd219 wd416 [(Ty.sl (Ty.i .i64)).at (f320 53) x419, (Ty.sl Ty.b).at (f320 55) x300] := hq417
                      replace hb237 : (_ : Option _) = _ := hb237
                      dsimp only at hb237
                      obtain ⟨hf421, hf422, hf423, hf424, hf425, hf426, hf427, hf428, hf429, hf430, hf431, hS432⟩ := hq417
                      refine W.seq (W.seq (W.region ?_))
                      refine WL.val v_graph _ (op_move hf421) rfl ?_
                      have hr433 := inR_len (Ty.lift _ (Ext.trans hE224 hS432.ext) r_graph)
                      refine WL.val (Value.int .i64 ((graph).length : Int)) _ (op_lenL sl_25 (Ty.lift _ (Ext.trans hE224 hS432.ext) r_graph) rfl) rfl ?_
                      refine WL.val (Value.int .i64 (0 : Int)) _ (op_move rfl) rfl ?_
                      refine WL.nil ?_
                      show W _ _ _ _ _ _
                      obtain ⟨res434, hres435, hb237⟩ := bs hb237
                      refine W.blockLoop (fun fq wq => ∃ s, res434 = Res.fin s ∧ fq 1 = v_graph ∧ fq 2 = (Value.pointer (some ⟨b1, 0, none⟩)) ∧ fq 6 = (Value.int .i64 (w64 (((w64 (((graph).length : Int) * (3 : Int)))).tdiv (2 : Int)))) ∧ fq 7 = (Value.int .i64 ((r_Table).length : Int)) ∧ fq 9 = u218 ∧ fq 10 = (Value.int .i64 x232) ∧ fq 14 = Value.int .i64 s.2 ∧ InR .i64 s.2 ∧ fq 48 = (Value.int .i64 x187) ∧ fq 49 = (Value.int .i64 (k231 : Int)) ∧ St wd219 wq []) ?_ ?_
                      · refine W.forN (fun k (s : (List Bool) × Int) fq wq => fq 1 = v_graph ∧ fq 2 = (Value.pointer (some ⟨b1, 0, none⟩)) ∧ fq 6 = (Value.int .i64 (w64 (((w64 (((graph).length : Int) * (3 : Int)))).tdiv (2 : Int)))) ∧ fq 7 = (Value.int .i64 ((r_Table).length : Int)) ∧ fq 9 = u218 ∧ fq 10 = (Value.int .i64 x232) ∧ fq 12 = (f320 53) ∧ fq 13 = (f320 55) ∧ fq 14 = Value.int .i64 s.2 ∧ InR .i64 s.2 ∧ fq 48 = (Value.int .i64 x187) ∧ fq 49 = (Value.int .i64 (k231 : Int)) ∧ fq 71 = v_graph ∧ fq 72 = (Value.int .i64 ((graph).length : Int)) ∧ fq 73 = Value.int .i64 (k : Int) ∧ InR .i64 (k : Int) ∧ St wd219 wq [(Ty.sl (Ty.i .i64)).at (f320 53) x419, (Ty.sl Ty.b).at (f320 55) s.1]) hres435 ⟨hf421, hf422, hf423, hf424, hf425, hf426, hf427, hf428, hf429, (inL rfl), hf430, hf431, rfl, rfl, rfl, (inL rfl), hS432⟩ ?_ ?_
                        · intro k436 s897 ct439 f440 wd441 hk442 hb443 hI444 hbrk445 hret446
                          obtain ⟨x437, x438⟩ := s897
                          replace hI444 : f440 1 = v_graph ∧ f440 2 = (Value.pointer (some ⟨b1, 0, none⟩)) ∧ f440 6 = (Value.int .i64 (w64 (((w64 (((graph).length : Int) * (3 : Int)))).tdiv (2 : Int)))) ∧ f440 7 = (Value.int .i64 ((r_Table).length : Int)) ∧ f440 9 = u218 ∧ f440 10 = (Value.int .i64 x232) ∧ f440 12 = (f320 53) ∧ f440 13 = (f320 55) ∧ f440 14 = Value.int .i64 x438 ∧ InR .i64 x438 ∧ f440 48 = (Value.int .i64 x187) ∧ f440 49 = (Value.int .i64 (k231 : Int)) ∧ f440 71 = v_graph ∧ f440 72 = (Value.int .i64 ((graph).length : Int)) ∧ f440 73 = Value.int .i64 (k436 : Int) ∧ InR .i64 (k436 : Int) ∧ St wd219 wd441 [(Ty.sl (Ty.i .i64)).at (f320 53) x419, (Ty.sl Ty.b).at (f320 55) x437] := hI444
                          replace hb443 : p_impl_GraphDimension_L3 graph x419 x216 r_Table k436 x437 x438 = some ct439 := hb443
                          unfold p_impl_GraphDimension_L3 at hb443
                          obtain ⟨hf447, hf448, hf449, hf450, hf451, hf452, hf453, hf454, hf455, hr456, hf457, hf458, hf459, hf460, hf461, hr462, hS463⟩ := hI444
                          refine W.seq (W.region ?_)
                          refine WL.val (Value.bool (decide ((k436 : Int) < ((graph).length : Int)))) _ (op_lss hf461 hf460) rfl ?_
                          have hl464 : (k436 : Int) < ((graph).length : Int) := by omega
                          refine WL.nil ?_
                          refine W.seq ?_
                          refine W.condT (decide ((k436 : Int) < ((graph).length : Int))) rfl (decide_eq_true hl464) ?_
                          refine W.skip ?_
                          refine W.seq ?_
                          refine W.block ?_
                          refine W.seq (W.region ?_)
                          obtain ⟨x466, hx469, hb443⟩ := bs hb443
                          obtain ⟨ha467, hb468, hx469⟩ := idx_some hx469
                          refine WL.val (Value.pointer (some (elA v_graph ((k436 : Int)).toNat))) _ (op_idx sl_25 (Ty.lift _ (Ext.trans hE224 hS463.ext) r_graph) hf459 hf461 ha467 hb468) rfl ?_
                          obtain ⟨u470, hc471, hr472⟩ := repSl.el r_graph hx469
                          refine WL.val u470 _ (op_load one_36 rfl (Ext.cell (Ext.trans hE224 hS463.ext) hc471)) rfl ?_
                          refine WL.val u470 _ (op_assign rfl) rfl ?_
                          refine WL.nil ?_
                          refine W.seq (W.region ?_)
                          refine WL.val (Value.agg #[(Value.int .i64 (0 : Int)), (Value.int .i64 (0 : Int)), (Value.int .i64 (0 : Int))]) _ (op_buildZ art_55.1 art_55.2 bz_55) rfl ?_
                          refine WL.alloc hS463 ze_55 (cs := [(Value.int .i64 (0 : Int)), (Value.int .i64 (0 : Int)), (Value.int .i64 (0 : Int))]) rfl rfl ?_
                          intro b473 wd474 hS475 he476
                          replace hS475 : St wd219 wd474 [(Ty.sl (Ty.i .i64)).at (f320 53) x419, (Ty.sl Ty.b).at (f320 55) x437, bx b473 [(Value.int .i64 (0 : Int)), (Value.int .i64 (0 : Int)), (Value.int .i64 (0 : Int))]] := hS475
                          refine WL.storeBox [(Value.int .i64 (0 : Int)), (Value.int .i64 (0 : Int)), (Value.int .i64 (0 : Int))] hS475 (k := 2) rfl rfl rfl (us := [(Value.int .i64 (0 : Int)), (Value.int .i64 (0 : Int)), (Value.int .i64 (0 : Int))]) rfl sz_55 rfl rfl (all_cons rfl (all_cons rfl (all_cons rfl all_nil))) rfl ?_
                          intro wd477 hS478
                          replace hS478 : St wd219 wd477 [(Ty.sl (Ty.i .i64)).at (f320 53) x419, (Ty.sl Ty.b).at (f320 55) x437, bx b473 [(Value.int .i64 (0 : Int)), (Value.int .i64 (0 : Int)), (Value.int .i64 (0 : Int))]] := hS478
                          have hS479 := St.boxAr (k := 2) (l := ([(0 : Int), (0 : Int), (0 : Int)] : List Int)) hS478 rfl (by intro x hx; simp only [List.mem_cons, List.mem_nil_iff, or_false] at hx; rcases hx with rfl | rfl | rfl <;> exact inR_i64.2 (by omega)) rfl
                          replace hS479 : St wd219 wd477 [(Ty.sl (Ty.i .i64)).at (f320 53) x419, (Ty.sl Ty.b).at (f320 55) x437, (Ty.ar 3).at (Value.pointer (some ⟨b473, 0, none⟩)) ([(0 : Int), (0 : Int), (0 : Int)] : List Int)] := hS479
                          refine WL.nil ?_
                          refine W.seq (W.seq (W.region ?_))
                          refine WL.val u470 _ (op_move rfl) rfl ?_
                          have hr480 := inR_len (Ty.lift _ (Ext.trans hE224 hS479.ext) hr472)
                          refine WL.val (Value.int .i64 ((x466).length : Int)) _ (op_lenL sl_36 (Ty.lift _ (Ext.trans hE224 hS479.ext) hr472) rfl) rfl ?_
                          refine WL.val (Value.int .i64 (0 : Int)) _ (op_move rfl) rfl ?_
                          refine WL.nil ?_
                          show W _ _ _ _ _ _
                          obtain ⟨res481, hres482, hb443⟩ := bs hb443
                          refine W.blockLoop (fun fq wq => ∃ s, res481 = Res.fin s ∧ fq 1 = v_graph ∧ fq 2 = (Value.pointer (some ⟨b1, 0, none⟩)) ∧ fq 6 = (Value.int .i64 (w64 (((w64 (((graph).length : Int) * (3 : Int)))).tdiv (2 : Int)))) ∧ fq 7 = (Value.int .i64 ((r_Table).length : Int)) ∧ fq 9 = u218 ∧ fq 10 = (Value.int .i64 x232) ∧ fq 12 = (f320 53) ∧ fq 13 = (f320 55) ∧ fq 14 = (Value.int .i64 x438) ∧ fq 18 = (Value.pointer (some ⟨b473, 0, none⟩)) ∧ fq 48 = (Value.int .i64 x187) ∧ fq 49 = (Value.int .i64 (k231 : Int)) ∧ fq 71 = v_graph ∧ fq 72 = (Value.int .i64 ((graph).length : Int)) ∧ fq 73 = (Value.int .i64 (k436 : Int)) ∧ St wd219 wq [(Ty.sl (Ty.i .i64)).at (f320 53) x419, (Ty.sl Ty.b).at (f320 55) s.1, (Ty.ar 3).at (Value.pointer (some ⟨b473, 0, none⟩)) s.2]) ?_ ?_
                          · refine W.forN (fun k (s : (List Bool) × (List Int)) fq wq => fq 1 = v_graph ∧ fq 2 = (Value.pointer (some ⟨b1, 0, none⟩)) ∧ fq 6 = (Value.int .i64 (w64 (((w64 (((graph).length : Int) * (3 : Int)))).tdiv (2 : Int)))) ∧ fq 7 = (Value.int .i64 ((r_Table).length : Int)) ∧ fq 9 = u218 ∧ fq 10 = (Value.int .i64 x232) ∧ fq 12 = (f320 53) ∧ fq 13 = (f320 55) ∧ fq 14 = (Value.int .i64 x438) ∧ fq 18 = (Value.pointer (some ⟨b473, 0, none⟩)) ∧ fq 48 = (Value.int .i64 x187) ∧ fq 49 = (Value.int .i64 (k231 : Int)) ∧ fq 71 = v_graph ∧ fq 72 = (Value.int .i64 ((graph).length : Int)) ∧ fq 73 = (Value.int .i64 (k436 : Int)) ∧ fq 78 = u470 ∧ fq 79 = (Value.int .i64 ((x466).length : Int)) ∧ fq 80 = Value.int .i64 (k : Int) ∧ InR .i64 (k : Int) ∧ St wd219 wq [(Ty.sl (Ty.i .i64)).at (f320 53) x419, (Ty.sl Ty.b).at (f320 55) s.1, (Ty.ar 3).at (Value.pointer (some ⟨b473, 0, none⟩)) s.2]) hres482 ⟨hf447, hf448, hf449, hf450, hf451, hf452, hf453, hf454, hf455, rfl, hf457, hf458, hf459, hf460, hf461, rfl, rfl, rfl, (inL rfl), hS479⟩ ?_ ?_
                            · intro k483 s591 ct486 f487 wd488 hk489 hb490 hI491 hbrk492 hret493
                              obtain ⟨x484, x485⟩ := s591
                              replace hI491 : f487 1 = v_graph ∧ f487 2 = (Value.pointer (some ⟨b1, 0, none⟩)) ∧ f487 6 = (Value.int .i64 (w64 (((w64 (((graph).length : Int) * (3 : Int)))).tdiv (2 : Int)))) ∧ f487 7 = (Value.int .i64 ((r_Table).length : Int)) ∧ f487 9 = u218 ∧ f487 10 = (Value.int .i64 x232) ∧ f487 12 = (f320 53) ∧ f487 13 = (f320 55) ∧ f487 14 = (Value.int .i64 x438) ∧ f487 18 = (Value.pointer (some ⟨b473, 0, none⟩)) ∧ f487 48 = (Value.int .i64 x187) ∧ f487 49 = (Value.int .i64 (k231 : Int)) ∧ f487 71 = v_graph ∧ f487 72 = (Value.int .i64 ((graph).length : Int)) ∧ f487 73 = (Value.int .i64 (k436 : Int)) ∧ f487 78 = u470 ∧ f487 79 = (Value.int .i64 ((x466).length : Int)) ∧ f487 80 = Value.int .i64 (k483 : Int) ∧ InR .i64 (k483 : Int) ∧ St wd219 wd488 [(Ty.sl (Ty.i .i64)).at (f320 53) x419, (Ty.sl Ty.b).at (f320 55) x484, (Ty.ar 3).at (Value.pointer (some ⟨b473, 0, none⟩)) x485] := hI491
                              replace hb490 : p_impl_GraphDimension_L4 x466 x419 x216 k483 x484 x485 = some ct486 := hb490
                              unfold p_impl_GraphDimension_L4 at hb490
                              obtain ⟨hf494, hf495, hf496, hf497, hf498, hf499, hf500, hf501, hf502, hf503, hf504, hf505, hf506, hf507, hf508, hf509, hf510, hf511, hr512, hS513⟩ := hI491
                              refine W.seq (W.region ?_)
                              refine WL.val (Value.bool (decide ((k483 : Int) < ((x466).length : Int)))) _ (op_lss hf511 hf510) rfl ?_
                              have hl514 : (k483 : Int) < ((x466).length : Int) := by omega
                              refine WL.nil ?_
                              refine W.seq ?_
                              refine W.condT (decide ((k483 : Int) < ((x466).length : Int))) rfl (decide_eq_true hl514) ?_
                              refine W.skip ?_
                              refine W.seq ?_
                              refine W.block ?_
                              refine W.seq (W.region ?_)
                              refine WL.val (Value.int .i64 (k483 : Int)) _ (op_move hf511) rfl ?_
                              obtain ⟨x516, hx519, hb490⟩ := bs hb490
                              obtain ⟨ha517, hb518, hx519⟩ := idx_some hx519
                              refine WL.val (Value.pointer (some (elA u470 ((k483 : Int)).toNat))) _ (op_idx sl_36 (Ty.lift _ (Ext.trans hE224 hS513.ext) hr472) hf509 hf511 ha517 hb518) rfl ?_
                              obtain ⟨u520, hc521, hr522⟩ := repSl.el hr472 hx519
                              obtain ⟨rfl, hr522⟩ := hr522
                              refine WL.val (Value.int .i64 x516) _ (op_load one_2 rfl (Ext.cell (Ext.trans hE224 hS513.ext) hc521)) rfl ?_
                              refine WL.val (Value.int .i64 (k483 : Int)) _ (op_assign rfl) rfl ?_
                              refine WL.val (Value.int .i64 x516) _ (op_assign rfl) rfl ?_
                              refine WL.nil ?_
                              refine W.seq (W.region ?_)
                              refine WL.val (Value.int .i64 (k483 : Int)) _ (op_move rfl) rfl ?_
                              refine WL.val (f320 53) _ (op_move hf500) rfl ?_
                              refine WL.val (Value.int .i64 x516) _ (op_move rfl) rfl ?_
                              obtain ⟨x523, hx526, hb490⟩ := bs hb490
                              obtain ⟨ha524, hb525, hx526⟩ := idx_some hx526
                              refine WL.val (Value.pointer (some (elA (f320 53) (x516).toNat))) _ (op_idx sl_52 (St.rep (t := (Ty.sl (Ty.i .i64))) hS513 0 rfl) rfl rfl ha524 hb525) rfl ?_
                              obtain ⟨u527, hc528, hr529⟩ := repSl.el (St.rep (t := (Ty.sl (Ty.i .i64))) hS513 0 rfl) hx526
                              obtain ⟨rfl, hr529⟩ := hr529
                              refine WL.val (Value.int .i64 x523) _ (op_load one_3 rfl hc528) rfl ?_
                              obtain ⟨x530, hx534, hb490⟩ := bs hb490
                              obtain ⟨ha532, hb533, hx534⟩ := idx_some hx534
                              refine WL.val (Value.pointer (some ⟨b473, ((k483 : Int)).toNat, none⟩)) _ (op_idxAr art_55 (ar_len (St.rep (t := (Ty.ar 3)) hS513 2 rfl)) hf503 rfl ha532 hb533) rfl ?_
                              refine WL.storeAr hS513 (k := 2) rfl sz_3 rfl rfl (lt_of_idx ha532 hb533) hr529 ?_
                              intro wd536 hS537
                              replace hS537 : St wd219 wd536 [(Ty.sl (Ty.i .i64)).at (f320 53) x419, (Ty.sl Ty.b).at (f320 55) x484, (Ty.ar 3).at (Value.pointer (some ⟨b473, 0, none⟩)) ((x485).set ((k483 : Int)).toNat x523)] := hS537
                              refine WL.nil ?_
                              refine W.seq (W.seq (W.region ?_))
                              refine WL.val (f320 55) _ (op_move hf501) rfl ?_
                              refine WL.val (Value.int .i64 x516) _ (op_move rfl) rfl ?_
                              obtain ⟨x538, hx541, hb490⟩ := bs hb490
                              obtain ⟨ha539, hb540, hx541⟩ := idx_some hx541
                              refine WL.val (Value.pointer (some (elA (f320 55) (x516).toNat))) _ (op_idx sl_54 (St.rep (t := (Ty.sl Ty.b)) hS537 1 rfl) rfl rfl ha539 hb540) rfl ?_
                              obtain ⟨u542, hc543, hr544⟩ := repSl.el (St.rep (t := (Ty.sl Ty.b)) hS537 1 rfl) hx541
                              obtain rfl := hr544
                              refine WL.val (Value.bool x538) _ (op_load one_4 rfl hc543) rfl ?_
                              refine WL.nil ?_
                              show W _ _ _ _ _ _
                              obtain ⟨x545, hj546, hb490⟩ := bs hb490
                              refine W.cutCode (fun fq wq => fq 1 = v_graph ∧ fq 2 = (Value.pointer (some ⟨b1, 0, none⟩)) ∧ fq 6 = (Value.int .i64 (w64 (((w64 (((graph).length : Int) * (3 : Int)))).tdiv (2 : Int)))) ∧ fq 7 = (Value.int .i64 ((r_Table).length : Int)) ∧ fq 9 = u218 ∧ fq 10 = (Value.int .i64 x232) ∧ fq 12 = (f320 53) ∧ fq 13 = (f320 55) ∧ fq 14 = (Value.int .i64 x438) ∧ fq 18 = (Value.pointer (some ⟨b473, 0, none⟩)) ∧ fq 20 = (Value.int .i64 x516) ∧ fq 48 = (Value.int .i64 x187) ∧ fq 49 = (Value.int .i64 (k231 : Int)) ∧ fq 71 = v_graph ∧ fq 72 = (Value.int .i64 ((graph).length : Int)) ∧ fq 73 = (Value.int .i64 (k436 : Int)) ∧ fq 78 = u470 ∧ fq 79 = (Value.int .i64 ((x466).length : Int)) ∧ fq 80 = (Value.int .i64 (k483 : Int)) ∧ St wd219 wq [(Ty.sl (Ty.i .i64)).at (f320 53) x419, (Ty.sl Ty.b).at (f320 55) x484, (Ty.ar 3).at (Value.pointer (some ⟨b473, 0, none⟩)) x545]) ?_ ?_
                              · refine W.cond x538 rfl (fun hc547 => ?_) (fun hc547 => ?_)
                                · replace hj546 := ip hj546 hc547
                                  refine W.region ?_
                                  refine WL.val (Value.int .i64 (k483 : Int)) _ (op_move rfl) rfl ?_
                                  refine WL.val u218 _ (op_move hf498) rfl ?_
                                  refine WL.val (f320 53) _ (op_move hf500) rfl ?_
                                  refine WL.val (Value.int .i64 x516) _ (op_move rfl) rfl ?_
                                  refine WL.val (Value.pointer (some (elA (f320 53) (x516).toNat))) _ (op_idx sl_52 (St.rep (t := (Ty.sl (Ty.i .i64))) hS537 0 rfl) rfl rfl ha524 hb525) rfl ?_
                                  obtain ⟨u548, hc549, hr550⟩ := repSl.el (St.rep (t := (Ty.sl (Ty.i .i64))) hS537 0 rfl) hx526
                                  obtain ⟨rfl, hr550⟩ := hr550
                                  refine WL.val (Value.int .i64 x523) _ (op_load one_3 rfl hc549) rfl ?_
                                  obtain ⟨x551, hx554, hj546⟩ := bs hj546
                                  obtain ⟨ha552, hb553, hx554⟩ := idx_some hx554
                                  refine WL.val (Value.pointer (some (elA u218 (x523).toNat))) _ (op_idx sl_52 (Ty.lift _ hS537.ext hb223) rfl rfl ha552 hb553) rfl ?_
                                  obtain ⟨u555, hc556, hr557⟩ := repSl.el hb223 hx554
                                  obtain ⟨rfl, hr557⟩ := hr557
                                  refine WL.val (Value.int .i64 x551) _ (op_load one_3 rfl (Ext.cell hS537.ext hc556)) rfl ?_
                                  obtain ⟨x558, hx562, hj546⟩ := bs hj546
                                  obtain ⟨ha560, hb561, hx562⟩ := idx_some hx562
                                  refine WL.val (Value.pointer (some ⟨b473, ((k483 : Int)).toNat, none⟩)) _ (op_idxAr art_55 (ar_len (St.rep (t := (Ty.ar 3)) hS537 2 rfl)) hf503 rfl ha560 hb561) rfl ?_
                                  refine WL.storeAr hS537 (k := 2) rfl sz_3 rfl rfl (lt_of_idx ha560 hb561) hr557 ?_
                                  intro wd564 hS565
                                  replace hS565 : St wd219 wd564 [(Ty.sl (Ty.i .i64)).at (f320 53) x419, (Ty.sl Ty.b).at (f320 55) x484, (Ty.ar 3).at (Value.pointer (some ⟨b473, 0, none⟩)) ((((x485).set ((k483 : Int)).toNat x523)).set ((k483 : Int)).toNat x551)] := hS565
                                  refine WL.nil ?_
                                  obtain rfl := Option.some.inj hj546
                                  exact ⟨hf494, hf495, hf496, hf497, hf498, hf499, hf500, hf501, hf502, hf503, rfl, hf504, hf505, hf506, hf507, hf508, hf509, hf510, hf511, hS565⟩
                                · replace hj546 := inegb hj546 hc547
                                  refine W.skip ?_
                                  obtain rfl := Option.some.inj hj546
                                  exact ⟨hf494, hf495, hf496, hf497, hf498, hf499, hf500, hf501, hf502, hf503, rfl, hf504, hf505, hf506, hf507, hf508, hf509, hf510, hf511, hS537⟩
                              · intro f566 wd567 hq568
                                obtain ⟨hf569, hf570, hf571, hf572, hf573, hf574, hf575, hf576, hf577, hf578, hf579, hf580, hf581, hf582, hf583, hf584, hf585, hf586, hf587, hS588⟩ := hq568
                                show W _ _ _ _ _ _
                                refine W.region ?_
                                refine WL.val (f320 55) _ (op_move hf576) rfl ?_
                                refine WL.val (Value.int .i64 x516) _ (op_move hf579) rfl ?_
                                refine WL.val (Value.pointer (some (elA (f320 55) (x516).toNat))) _ (op_idx sl_54 (St.rep (t := (Ty.sl Ty.b)) hS588 1 rfl) rfl rfl ha539 hb540) rfl ?_
                                refine WL.storeEl flat_b hS588 (k := 1) rfl sz_4 rfl rfl (lt_of_idx ha539 hb540) rfl ?_
                                intro wd589 hS590
                                replace hS590 : St wd219 wd589 [(Ty.sl (Ty.i .i64)).at (f320 53) x419, (Ty.sl Ty.b).at (f320 55) ((x484).set (x516).toNat true), (Ty.ar 3).at (Value.pointer (some ⟨b473, 0, none⟩)) x545] := hS590
                                refine WL.nil ?_
                                show W _ _ _ _ _ _
                                refine W.region ?_
                                refine WL.val (Value.int .i64 (w64 ((k483 : Int) + (1 : Int)))) _ (op_add hf587 rfl) rfl ?_
                                refine WL.val (Value.int .i64 (w64 ((k483 : Int) + (1 : Int)))) _ (op_move rfl) rfl ?_
                                refine WL.nil ?_
                                obtain rfl := Option.some.inj hb490
                                show ∃ s, _ = Ctl.next s ∧ _
                                exact ⟨_, rfl, hf569, hf570, hf571, hf572, hf573, hf574, hf575, hf576, hf577, hf578, hf580, hf581, hf582, hf583, hf584, hf585, hf586, (ctr_next hl514 hr480), (ctr_rng hl514 hr480), hS590⟩
                            · intro s596 f592 wd593 hs594 hI595
                              obtain ⟨x597, x598⟩ := s596
                              replace hI595 : f592 1 = v_graph ∧ f592 2 = (Value.pointer (some ⟨b1, 0, none⟩)) ∧ f592 6 = (Value.int .i64 (w64 (((w64 (((graph).length : Int) * (3 : Int)))).tdiv (2 : Int)))) ∧ f592 7 = (Value.int .i64 ((r_Table).length : Int)) ∧ f592 9 = u218 ∧ f592 10 = (Value.int .i64 x232) ∧ f592 12 = (f320 53) ∧ f592 13 = (f320 55) ∧ f592 14 = (Value.int .i64 x438) ∧ f592 18 = (Value.pointer (some ⟨b473, 0, none⟩)) ∧ f592 48 = (Value.int .i64 x187) ∧ f592 49 = (Value.int .i64 (k231 : Int)) ∧ f592 71 = v_graph ∧ f592 72 = (Value.int .i64 ((graph).length : Int)) ∧ f592 73 = (Value.int .i64 (k436 : Int)) ∧ f592 78 = u470 ∧ f592 79 = (Value.int .i64 ((x466).length : Int)) ∧ f592 80 = Value.int .i64 (((x466).length : Nat) : Int) ∧ InR .i64 (((x466).length : Nat) : Int) ∧ St wd219 wd593 [(Ty.sl (Ty.i .i64)).at (f320 53) x419, (Ty.sl Ty.b).at (f320 55) x597, (Ty.ar 3).at (Value.pointer (some ⟨b473, 0, none⟩)) x598] := hI595
                              obtain ⟨hf599, hf600, hf601, hf602, hf603, hf604, hf605, hf606, hf607, hf608, hf609, hf610, hf611, hf612, hf613, hf614, hf615, hf616, hr617, hS618⟩ := hI595
                              refine W.seq (W.region ?_)
                              refine WL.val (Value.bool (decide ((((x466).length : Nat) : Int) < ((x466).length : Int)))) _ (op_lss hf616 hf615) rfl ?_
                              have hl619 : ¬ (((x466).length : Nat) : Int) < ((x466).length : Int) := by omega
                              refine WL.nil ?_
                              refine W.seq ?_
                              refine W.condF (decide ((((x466).length : Nat) : Int) < ((x466).length : Int))) rfl (decide_eq_false hl619) ?_
                              refine W.exit ?_
                              show _ = _ ∧ _
                              exact ⟨rfl, _, hs594, hf599, hf600, hf601, hf602, hf603, hf604, hf605, hf606, hf607, hf608, hf609, hf610, hf611, hf612, hf613, hS618⟩
                          · rintro f620 wd621 ⟨s623, rfl, hq622⟩
                            replace hb443 := onRes_fin hb443
                            obtain ⟨x624, x625⟩ := s623
                            replace hq622 : f620 1 = v_graph ∧ f620 2 = (Value.pointer (some ⟨b1, 0, none⟩)) ∧ f620 6 = (Value.int .i64 (w64 (((w64 (((graph).length : Int) * (3 : Int)))).tdiv (2 : Int)))) ∧ f620 7 = (Value.int .i64 ((r_Table).length : Int)) ∧ f620 9 = u218 ∧ f620 10 = (Value.int .i64 x232) ∧ f620 12 = (f320 53) ∧ f620 13 = (f320 55) ∧ f620 14 = (Value.int .i64 x438) ∧ f620 18 = (Value.pointer (some ⟨b473, 0, none⟩)) ∧ f620 48 = (Value.int .i64 x187) ∧ f620 49 = (Value.int .i64 (k231 : Int)) ∧ f620 71 = v_graph ∧ f620 72 = (Value.int .i64 ((graph).length : Int)) ∧ f620 73 = (Value.int .i64 (k436 : Int)) ∧ St wd219 wd621 [(Ty.sl (Ty.i .i64)).at (f320 53) x419, (Ty.sl Ty.b).at (f320 55) x624, (Ty.ar 3).at (Value.pointer (some ⟨b473, 0, none⟩)) x625] := hq622
                            replace hb443 : (_ : Option _) = _ := hb443
                            dsimp only at hb443
                            obtain ⟨hf626, hf627, hf628, hf629, hf630, hf631, hf632, hf633, hf634, hf635, hf636, hf637, hf638, hf639, hf640, hS641⟩ := hq622
                            show W _ _ _ _ _ _
                            obtain ⟨x673, hx677, hb443⟩ := bs hb443
                            obtain ⟨ha675, hb676, hx677⟩ := idx_some hx677
                            obtain ⟨x704, hx707, hb443⟩ := bs hb443
                            obtain ⟨ha705, hb706, hx707⟩ := idx_some hx707
                            obtain ⟨u718, hc719, hr720⟩ := repSl.el r_r_Table hx707
                            obtain ⟨x728, hx732, hb443⟩ := bs hb443
                            obtain ⟨ha730, hb731, hx732⟩ := idx_some hx732
                            obtain ⟨x759, hx762, hb443⟩ := bs hb443
                            obtain ⟨ha760, hb761, hx762⟩ := idx_some hx762
                            obtain ⟨u773, hc774, hr775⟩ := repSl.el hr720 hx762
                            obtain ⟨x790, hx794, hb443⟩ := bs hb443
                            obtain ⟨ha792, hb793, hx794⟩ := idx_some hx794
                            obtain ⟨x821, hx824, hb443⟩ := bs hb443
                            obtain ⟨ha822, hb823, hx824⟩ := idx_some hx824
                            obtain ⟨u835, hc836, hr837⟩ := repSl.el hb223 hx824
                            obtain ⟨rfl, hr837⟩ := hr837
                            obtain ⟨x853, hx856, hb443⟩ := bs hb443
                            obtain ⟨ha854, hb855, hx856⟩ := idx_some hx856
                            obtain ⟨u867, hc868, hr869⟩ := repSl.el hr775 hx856
                            obtain ⟨rfl, hr869⟩ := hr869
                            refine W.drawR mixo 18 [] [fun _ v _ _ => v = (Value.int .i64 x438) ∧ InR .i64 x438, fun _ v _ _ => v = (Value.pointer (some ⟨b1, 0, none⟩)), fun _ v _ _ => v = v_r_Table, fun _ v _ _ => v = (Value.pointer (some ⟨b473, ((0 : Int)).toNat, none⟩)), fun _ v _ _ => v = (Value.int .i64 x673) ∧ InR .i64 x673, fun _ v _ _ => v = (Value.pointer (some (elA v_r_Table (x673).toNat))), fun _ v _ _ => v = u718, fun _ v _ _ => v = (Value.pointer (some ⟨b473, ((1 : Int)).toNat, none⟩)), fun _ v _ _ => v = (Value.int .i64 x728) ∧ InR .i64 x728, fun _ v _ _ => v = (Value.pointer (some (elA u718 (x728).toNat))), fun _ v _ _ => v = u773, fun _ v _ _ => v = u218, fun _ v _ _ => v = (Value.pointer (some ⟨b473, ((2 : Int)).toNat, none⟩)), fun _ v _ _ => v = (Value.int .i64 x790) ∧ InR .i64 x790, fun _ v _ _ => v = (Value.pointer (some (elA u218 (x790).toNat))), fun _ v _ _ => v = (Value.int .i64 x821) ∧ InR .i64 x821, fun _ v _ _ => v = (Value.pointer (some (elA u773 (x821).toNat))), fun _ v _ _ => v = (Value.int .i64 x853) ∧ InR .i64 x853] (by kernel_rfl) (by kernel_rfl) ⟨pk, pk, pk, pk, pk, pk, pk, pk, pk, pk, pk, pk, pk, pk, pk, pk, pk, pk, trivial⟩ ⟨?_, ?_, ?_, ?_, ?_, ?_, ?_, ?_, ?_, ?_, ?_, ?_, ?_, ?_, ?_, ?_, ?_, ?_, trivial⟩ ?_
                            · refine ObX.op rfl fun f642 wd643 he644 hout645 hphi646 => ?_
                              have e648 : f642 14 = (Value.int .i64 x438) := (hout645 14 rfl).trans hf634
                              exact OpX.val (Value.int .i64 x438) wd643 rfl (op_move e648) (Ext.refl _) ⟨rfl, hr456⟩
                            · refine ObX.op rfl fun f649 wd650 he651 hout652 hphi653 => ?_
                              have e655 : f649 2 = (Value.pointer (some ⟨b1, 0, none⟩)) := (hout652 2 rfl).trans hf627
                              exact OpX.val (Value.pointer (some ⟨b1, 0, none⟩)) wd650 rfl (op_fieldAddr fd_30_0 e655) (Ext.refl _) rfl
                            · refine ObX.op rfl fun f656 wd657 he658 hout659 hphi660 => ?_
                              have hS661 := St.extend hS641 he658
                              obtain ⟨S662, hS663, hf664⟩ := hphi660 1 109 _ rfl rfl rfl
                              have e665 : f656 109 = (Value.pointer (some ⟨b1, 0, none⟩)) := hf664
                              exact OpX.val v_r_Table wd657 rfl (op_load one_22 e665 (BoxAt.cell (BoxAt.lift (Ext.trans hE225 hS661.ext) hx6) rfl)) (Ext.refl _) rfl
                            · refine ObX.op rfl fun f666 wd667 he668 hout669 hphi670 => ?_
                              have hS671 := St.extend hS641 he668
                              have e672 : f666 18 = (Value.pointer (some ⟨b473, 0, none⟩)) := (hout669 18 rfl).trans hf635
                              exact OpX.val (Value.pointer (some ⟨b473, ((0 : Int)).toNat, none⟩)) wd667 rfl (op_idxAr art_55 (ar_len (St.rep (t := (Ty.ar 3)) hS671 2 rfl)) e672 rfl ha675 hb676) (Ext.refl _) rfl
                            · refine ObX.op rfl fun f679 wd680 he681 hout682 hphi683 => ?_
                              have hS684 := St.extend hS641 he681
                              obtain ⟨S685, hS686, hf687⟩ := hphi683 3 111 _ rfl rfl rfl
                              have e688 : f679 111 = (Value.pointer (some ⟨b473, ((0 : Int)).toNat, none⟩)) := hf687
                              exact OpX.val (Value.int .i64 x673) wd680 rfl (op_load one_3 e688 (ar_cell (St.rep (t := (Ty.ar 3)) hS684 2 rfl) hx677).1) (Ext.refl _) ⟨rfl, (ar_cell (St.rep (t := (Ty.ar 3)) hS684 2 rfl) hx677).2⟩
                            · refine ObX.op rfl fun f689 wd690 he691 hout692 hphi693 => ?_
                              have hS694 := St.extend hS641 he691
                              obtain ⟨S695, hS696, hf697⟩ := hphi693 2 110 _ rfl rfl rfl
                              have e698 : f689 110 = v_r_Table := hf697
                              obtain ⟨S699, hS700, hf701⟩ := hphi693 4 112 _ rfl rfl rfl
                              obtain ⟨e702, hr703⟩ := hf701
                              exact OpX.val (Value.pointer (some (elA v_r_Table (x673).toNat))) wd690 rfl (op_idx sl_22 (Ty.lift _ (Ext.trans hE224 hS694.ext) r_r_Table) e698 e702 ha705 hb706) (Ext.refl _) rfl
                            · refine ObX.op rfl fun f708 wd709 he710 hout711 hphi712 => ?_
                              have hS713 := St.extend hS641 he710
                              obtain ⟨S714, hS715, hf716⟩ := hphi712 5 113 _ rfl rfl rfl
                              have e717 : f708 113 = (Value.pointer (some (elA v_r_Table (x673).toNat))) := hf716
                              exact OpX.val u718 wd709 rfl (op_load one_25 e717 (Ext.cell (Ext.trans hE224 hS713.ext) hc719)) (Ext.refl _) rfl
                            · refine ObX.op rfl fun f721 wd722 he723 hout724 hphi725 => ?_
                              have hS726 := St.extend hS641 he723
                              have e727 : f721 18 = (Value.pointer (some ⟨b473, 0, none⟩)) := (hout724 18 rfl).trans hf635
                              exact OpX.val (Value.pointer (some ⟨b473, ((1 : Int)).toNat, none⟩)) wd722 rfl (op_idxAr art_55 (ar_len (St.rep (t := (Ty.ar 3)) hS726 2 rfl)) e727 rfl ha730 hb731) (Ext.refl _) rfl
                            · refine ObX.op rfl fun f734 wd735 he736 hout737 hphi738 => ?_
                              have hS739 := St.extend hS641 he736
                              obtain ⟨S740, hS741, hf742⟩ := hphi738 7 115 _ rfl rfl rfl
                              have e743 : f734 115 = (Value.pointer (some ⟨b473, ((1 : Int)).toNat, none⟩)) := hf742
                              exact OpX.val (Value.int .i64 x728) wd735 rfl (op_load one_3 e743 (ar_cell (St.rep (t := (Ty.ar 3)) hS739 2 rfl) hx732).1) (Ext.refl _) ⟨rfl, (ar_cell (St.rep (t := (Ty.ar 3)) hS739 2 rfl) hx732).2⟩
                            · refine ObX.op rfl fun f744 wd745 he746 hout747 hphi748 => ?_
                              have hS749 := St.extend hS641 he746
                              obtain ⟨S750, hS751, hf752⟩ := hphi748 6 114 _ rfl rfl rfl
                              have e753 : f744 114 = u718 := hf752
                              obtain ⟨S754, hS755, hf756⟩ := hphi748 8 116 _ rfl rfl rfl
                              obtain ⟨e757, hr758⟩ := hf756
                              exact OpX.val (Value.pointer (some (elA u718 (x728).toNat))) wd745 rfl (op_idx sl_25 (Ty.lift _ (Ext.trans hE224 hS749.ext) hr720) e753 e757 ha760 hb761) (Ext.refl _) rfl
                            · refine ObX.op rfl fun f763 wd764 he765 hout766 hphi767 => ?_
                              have hS768 := St.extend hS641 he765
                              obtain ⟨S769, hS770, hf771⟩ := hphi767 9 117 _ rfl rfl rfl
                              have e772 : f763 117 = (Value.pointer (some (elA u718 (x728).toNat))) := hf771
                              exact OpX.val u773 wd764 rfl (op_load one_36 e772 (Ext.cell (Ext.trans hE224 hS768.ext) hc774)) (Ext.refl _) rfl
                            · refine ObX.op rfl fun f776 wd777 he778 hout779 hphi780 => ?_
                              have e782 : f776 9 = u218 := (hout779 9 rfl).trans hf630
                              exact OpX.val u218 wd777 rfl (op_move e782) (Ext.refl _) rfl
                            · refine ObX.op rfl fun f783 wd784 he785 hout786 hphi787 => ?_
                              have hS788 := St.extend hS641 he785
                              have e789 : f783 18 = (Value.pointer (some ⟨b473, 0, none⟩)) := (hout786 18 rfl).trans hf635
                              exact OpX.val (Value.pointer (some ⟨b473, ((2 : Int)).toNat, none⟩)) wd784 rfl (op_idxAr art_55 (ar_len (St.rep (t := (Ty.ar 3)) hS788 2 rfl)) e789 rfl ha792 hb793) (Ext.refl _) rfl
                            · refine ObX.op rfl fun f796 wd797 he798 hout799 hphi800 => ?_
                              have hS801 := St.extend hS641 he798
                              obtain ⟨S802, hS803, hf804⟩ := hphi800 12 120 _ rfl rfl rfl
                              have e805 : f796 120 = (Value.pointer (some ⟨b473, ((2 : Int)).toNat, none⟩)) := hf804
                              exact OpX.val (Value.int .i64 x790) wd797 rfl (op_load one_3 e805 (ar_cell (St.rep (t := (Ty.ar 3)) hS801 2 rfl) hx794).1) (Ext.refl _) ⟨rfl, (ar_cell (St.rep (t := (Ty.ar 3)) hS801 2 rfl) hx794).2⟩
                            · refine ObX.op rfl fun f806 wd807 he808 hout809 hphi810 => ?_
                              have hS811 := St.extend hS641 he808
                              obtain ⟨S812, hS813, hf814⟩ := hphi810 11 119 _ rfl rfl rfl
                              have e815 : f806 119 = u218 := hf814
                              obtain ⟨S816, hS817, hf818⟩ := hphi810 13 121 _ rfl rfl rfl
                              obtain ⟨e819, hr820⟩ := hf818
                              exact OpX.val (Value.pointer (some (elA u218 (x790).toNat))) wd807 rfl (op_idx sl_52 (Ty.lift _ hS811.ext hb223) e815 e819 ha822 hb823) (Ext.refl _) rfl
                            · refine ObX.op rfl fun f825 wd826 he827 hout828 hphi829 => ?_
                              have hS830 := St.extend hS641 he827
                              obtain ⟨S831, hS832, hf833⟩ := hphi829 14 122 _ rfl rfl rfl
                              have e834 : f825 122 = (Value.pointer (some (elA u218 (x790).toNat))) := hf833
                              exact OpX.val (Value.int .i64 x821) wd826 rfl (op_load one_3 e834 (Ext.cell hS830.ext hc836)) (Ext.refl _) ⟨rfl, hr837⟩
                            · refine ObX.op rfl fun f838 wd839 he840 hout841 hphi842 => ?_
                              have hS843 := St.extend hS641 he840
                              obtain ⟨S844, hS845, hf846⟩ := hphi842 10 118 _ rfl rfl rfl
                              have e847 : f838 118 = u773 := hf846
                              obtain ⟨S848, hS849, hf850⟩ := hphi842 15 123 _ rfl rfl rfl
                              obtain ⟨e851, hr852⟩ := hf850
                              exact OpX.val (Value.pointer (some (elA u773 (x821).toNat))) wd839 rfl (op_idx sl_36 (Ty.lift _ (Ext.trans hE224 hS843.ext) hr775) e847 e851 ha854 hb855) (Ext.refl _) rfl
                            · refine ObX.op rfl fun f857 wd858 he859 hout860 hphi861 => ?_
                              have hS862 := St.extend hS641 he859
                              obtain ⟨S863, hS864, hf865⟩ := hphi861 16 124 _ rfl rfl rfl
                              have e866 : f857 124 = (Value.pointer (some (elA u773 (x821).toNat))) := hf865
                              exact OpX.val (Value.int .i64 x853) wd858 rfl (op_load one_2 e866 (Ext.cell (Ext.trans hE224 hS862.ext) hc868)) (Ext.refl _) ⟨rfl, hr869⟩
                            · intro f870 wd871 Ss872 he873 hout874 hSn875 hSd876 hphi877
                              show WL _ _ _ _ _ _ _
                              have hS878 := St.extend hS641 he873
                              obtain ⟨e879, hr880⟩ := hphi877 0 108 _ (by decide) rfl rfl
                              obtain ⟨e881, hr882⟩ := hphi877 17 125 _ (by decide) rfl rfl
                              have e883 : f870 1 = v_graph := (hout874 1 rfl).trans hf626
                              have e884 : f870 2 = (Value.pointer (some ⟨b1, 0, none⟩)) := (hout874 2 rfl).trans hf627
                              have e885 : f870 6 = (Value.int .i64 (w64 (((w64 (((graph).length : Int) * (3 : Int)))).tdiv (2 : Int)))) := (hout874 6 rfl).trans hf628
                              have e886 : f870 7 = (Value.int .i64 ((r_Table).length : Int)) := (hout874 7 rfl).trans hf629
                              have e887 : f870 9 = u218 := (hout874 9 rfl).trans hf630
                              have e888 : f870 10 = (Value.int .i64 x232) := (hout874 10 rfl).trans hf631
                              have e889 : f870 12 = (f320 53) := (hout874 12 rfl).trans hf632
                              have e890 : f870 13 = (f320 55) := (hout874 13 rfl).trans hf633
                              have e891 : f870 48 = (Value.int .i64 x187) := (hout874 48 rfl).trans hf636
                              have e892 : f870 49 = (Value.int .i64 (k231 : Int)) := (hout874 49 rfl).trans hf637
                              have e893 : f870 71 = v_graph := (hout874 71 rfl).trans hf638
                              have e894 : f870 72 = (Value.int .i64 ((graph).length : Int)) := (hout874 72 rfl).trans hf639
                              have e895 : f870 73 = (Value.int .i64 (k436 : Int)) := (hout874 73 rfl).trans hf640
                              refine WL.val (Value.int .i64 (w64 (x438 * x853))) _ (op_mul e879 e881) rfl ?_
                              refine WL.val (Value.int .i64 (w64 (x438 * x853))) _ (op_assign rfl) rfl ?_
                              refine WL.nil ?_
                              show W _ _ _ _ _ _
                              refine W.region ?_
                              refine WL.val (Value.int .i64 (w64 ((k436 : Int) + (1 : Int)))) _ (op_add e895 rfl) rfl ?_
                              refine WL.val (Value.int .i64 (w64 ((k436 : Int) + (1 : Int)))) _ (op_move rfl) rfl ?_
                              refine WL.nil ?_
                              obtain rfl := Option.some.inj hb443
                              show ∃ s, _ = Ctl.next s ∧ _
                              exact ⟨_, rfl, e883, e884, e885, e886, e887, e888, e889, e890, rfl, (inR_wrap _ _), e891, e892, e893, e894, (ctr_next hl464 hr433), (ctr_rng hl464 hr433), (St.pick hS878 [0, 1] rfl)⟩
                        · intro s902 f898 wd899 hs900 hI901
                          obtain ⟨x903, x904⟩ := s902
                          replace hI901 : f898 1 = v_graph ∧ f898 2 = (Value.pointer (some ⟨b1, 0, none⟩)) ∧ f898 6 = (Value.int .i64 (w64 (((w64 (((graph).length : Int) * (3 : Int)))).tdiv (2 : Int)))) ∧ f898 7 = (Value.int .i64 ((r_Table).length : Int)) ∧ f898 9 = u218 ∧ f898 10 = (Value.int .i64 x232) ∧ f898 12 = (f320 53) ∧ f898 13 = (f320 55) ∧ f898 14 = Value.int .i64 x904 ∧ InR .i64 x904 ∧ f898 48 = (Value.int .i64 x187) ∧ f898 49 = (Value.int .i64 (k231 : Int)) ∧ f898 71 = v_graph ∧ f898 72 = (Value.int .i64 ((graph).length : Int)) ∧ f898 73 = Value.int .i64 (((graph).length : Nat) : Int) ∧ InR .i64 (((graph).length : Nat) : Int) ∧ St wd219 wd899 [(Ty.sl (Ty.i .i64)).at (f320 53) x419, (Ty.sl Ty.b).at (f320 55) x903] := hI901
                          obtain ⟨hf905, hf906, hf907, hf908, hf909, hf910, hf911, hf912, hf913, hr914, hf915, hf916, hf917, hf918, hf919, hr920, hS921⟩ := hI901
                          refine W.seq (W.region ?_)
                          refine WL.val (Value.bool (decide ((((graph).length : Nat) : Int) < ((graph).length : Int)))) _ (op_lss hf919 hf918) rfl ?_
                          have hl922 : ¬ (((graph).length : Nat) : Int) < ((graph).length : Int) := by omega
                          refine WL.nil ?_
                          refine W.seq ?_
                          refine W.condF (decide ((((graph).length : Nat) : Int) < ((graph).length : Int))) rfl (decide_eq_false hl922) ?_
                          refine W.exit ?_
                          show _ = _ ∧ _
                          exact ⟨rfl, _, hs900, hf905, hf906, hf907, hf908, hf909, hf910, hf913, hr914, hf915, hf916, (St.pick hS921 [] rfl)⟩
                      · rintro f923 wd924 ⟨s926, rfl, hq925⟩
                        replace hb237 := onRes_fin hb237
                        obtain ⟨x927, x928⟩ := s926
                        replace hq925 : f923 1 = v_graph ∧ f923 2 = (Value.pointer (some ⟨b1, 0, none⟩)) ∧ f923 6 = (Value.int .i64 (w64 (((w64 (((graph).length : Int) * (3 : Int)))).tdiv (2 : Int)))) ∧ f923 7 = (Value.int .i64 ((r_Table).length : Int)) ∧ f923 9 = u218 ∧ f923 10 = (Value.int .i64 x232) ∧ f923 14 = Value.int .i64 x928 ∧ InR .i64 x928 ∧ f923 48 = (Value.int .i64 x187) ∧ f923 49 = (Value.int .i64 (k231 : Int)) ∧ St wd219 wd924 [] := hq925
                        replace hb237 : (_ : Option _) = _ := hb237
                        dsimp only at hb237
                        obtain ⟨hf929, hf930, hf931, hf932, hf933, hf934, hf935, hr936, hf937, hf938, hS939⟩ := hq925
                        show W _ _ _ _ _ _
                        refine W.region ?_
                        refine WL.val (Value.int .i64 x232) _ (op_move hf934) rfl ?_
                        refine WL.val (Value.int .i64 x928) _ (op_move hf935) rfl ?_
                        refine WL.val (Value.int .i64 (w64 (x232 + x928))) _ (op_add rfl rfl) rfl ?_
                        refine WL.val (Value.int .i64 (w64 (x232 + x928))) _ (op_assign rfl) rfl ?_
                        refine WL.nil ?_
                        show W _ _ _ _ _ _
                        refine W.region ?_
                        refine WL.val (Value.int .i64 (w64 ((k231 : Int) + (1 : Int)))) _ (op_add hf938 rfl) rfl ?_
                        refine WL.val (Value.int .i64 (w64 ((k231 : Int) + (1 : Int)))) _ (op_move rfl) rfl ?_
                        refine WL.nil ?_
                        obtain rfl := Option.some.inj hb237
                        show ∃ s, _ = Ctl.next s ∧ _
                        exact ⟨_, rfl, hf929, hf930, hf931, hf932, hf933, rfl, (inR_wrap _ _), hf937, (ctr_next hl252 hr210), (ctr_rng hl252 hr210), hS939⟩
                · intro x948 f943 wd944 hs945 hI946
                  replace hI946 : f943 1 = v_graph ∧ f943 2 = (Value.pointer (some ⟨b1, 0, none⟩)) ∧ f943 6 = (Value.int .i64 (w64 (((w64 (((graph).length : Int) * (3 : Int)))).tdiv (2 : Int)))) ∧ f943 7 = (Value.int .i64 ((r_Table).length : Int)) ∧ f943 9 = u218 ∧ f943 10 = Value.int .i64 x948 ∧ InR .i64 x948 ∧ f943 48 = (Value.int .i64 x187) ∧ f943 49 = Value.int .i64 (((x187).toNat : Nat) : Int) ∧ InR .i64 (((x187).toNat : Nat) : Int) ∧ St wd219 wd944 [] := hI946
                  obtain ⟨hf949, hf950, hf951, hf952, hf953, hf954, hr955, hf956, hf957, hr958, hS959⟩ := hI946
                  refine W.seq (W.region ?_)
                  refine WL.val (Value.bool (decide ((((x187).toNat : Nat) : Int) < x187))) _ (op_lss hf957 hf956) rfl ?_
                  have hl960 : ¬ (((x187).toNat : Nat) : Int) < x187 := by omega
                  refine WL.nil ?_
                  refine W.seq ?_
                  refine W.condF (decide ((((x187).toNat : Nat) : Int) < x187)) rfl (decide_eq_false hl960) ?_
                  refine W.exit ?_
                  show _ = _ ∧ _
                  exact ⟨rfl, _, hs945, hf954, hr955, hS959⟩
              · rintro f961 wd962 ⟨x965, rfl, hq963⟩
                replace h := onRes_fin h
                replace hq963 : f961 10 = Value.int .i64 x965 ∧ InR .i64 x965 ∧ St wd219 wd962 [] := hq963
                obtain ⟨hf966, hr967, hS968⟩ := hq963
                refine W.seq (W.region ?_)
                refine WL.val (Value.int .i64 x965) _ (op_move hf966) rfl ?_
                refine WL.val (Value.int .i64 x965) _ (op_assign rfl) rfl ?_
                refine WL.val (Value.int .i64 (0 : Int)) _ (op_assign rfl) rfl ?_
                refine WL.nil ?_
                refine W.ret ?_
                obtain rfl := Option.some.inj h
                show FinP _ _ _ _ _ _ _
                exact FinP.ret _ (res2 rfl rfl rfl) ⟨rfl, hr967, (inL rfl), (Ext.trans hE224 hS968.ext)⟩

theorem c_laws_eqInt64S {w : World} {a : (List Int)} {v_a : Value} {b : (List Int)} {v_b : Value} (r_a : (Ty.sl (Ty.i .i64)).rep w v_a a) (r_b : (Ty.sl (Ty.i .i64)).rep w v_b b) {res : Bool} (h : p_laws_eqInt64S a b  = some res) :
    Ret Try.prog 16 #[v_a, v_b] w (fun v w' => v = Value.bool res ∧ Ext w w') := by
  unfold p_laws_eqInt64S at h
  have hS0 : St w w [] := St.start w
  refine Ret.start (fn := Try.f16) Try.func16 rfl 26 rfl rfl ?_
  refine W.seq (W.region ?_)
  refine WL.val (Value.bool false) _ (op_assign rfl) rfl ?_
  refine WL.nil ?_
  refine W.seq (W.seq (W.region ?_))
  refine WL.val v_a _ (op_move rfl) rfl ?_
  have hr1 := inR_len (Ty.lift _ hS0.ext r_a)
  refine WL.val (Value.int .i64 ((a).length : Int)) _ (op_lenL sl_36 (Ty.lift _ hS0.ext r_a) rfl) rfl ?_
  refine WL.val v_b _ (op_move rfl) rfl ?_
  have hr2 := inR_len (Ty.lift _ hS0.ext r_b)
  refine WL.val (Value.int .i64 ((b).length : Int)) _ (op_lenL sl_36 (Ty.lift _ hS0.ext r_b) rfl) rfl ?_
  refine WL.val (Value.bool (((a).length : Int) != ((b).length : Int))) _ (op_neq rfl rfl) rfl ?_
  refine WL.nil ?_
  refine W.cond (((a).length : Int) != ((b).length : Int)) rfl (fun hc3 => ?_) (fun hc3 => ?_)
  · replace h := ip h hc3
    refine W.seq (W.region ?_)
    refine WL.val (Value.bool false) _ (op_assign rfl) rfl ?_
    refine WL.nil ?_
    refine W.ret ?_
    obtain rfl := Option.some.inj h
    show FinP _ _ _ _ _ _ _
    exact FinP.ret _ (res1 rfl rfl) ⟨rfl, hS0.ext⟩
  · replace h := inegb h hc3
    refine W.skip ?_
    refine W.seq (W.seq (W.region ?_))
    refine WL.val (Value.int .i64 (0 : Int)) _ (op_assign rfl) rfl ?_
    refine WL.nil ?_
    show W _ _ _ _ _ _
    obtain ⟨res5, hres6, h⟩ := bs h
    refine W.blockLoop (fun fq wq => ∃ s, res5 = Res.fin s ∧ St w wq []) ?_ ?_
    · refine W.forN (fun k (s : Unit) fq wq => fq 0 = v_a ∧ fq 1 = v_b ∧ fq 5 = Value.int .i64 (k : Int) ∧ InR .i64 (k : Int) ∧ St w wq []) hres6 ⟨rfl, rfl, rfl, (inL rfl), hS0⟩ ?_ ?_
      · intro k7 s134 ct8 f9 wd10 hk11 hb12 hI13 hbrk14 hret15
        obtain ⟨⟩ := s134
        replace hI13 : f9 0 = v_a ∧ f9 1 = v_b ∧ f9 5 = Value.int .i64 (k7 : Int) ∧ InR .i64 (k7 : Int) ∧ St w wd10 [] := hI13
        replace hb12 : p_laws_eqInt64S_L1 a b k7  = some ct8 := hb12
        unfold p_laws_eqInt64S_L1 at hb12
        obtain ⟨hf16, hf17, hf18, hr19, hS20⟩ := hI13
        refine W.seq (W.seq (W.region ?_))
        refine WL.val (Value.int .i64 (k7 : Int)) _ (op_move hf18) rfl ?_
        refine WL.val v_a _ (op_move hf16) rfl ?_
        have hr21 := inR_len (Ty.lift _ hS20.ext r_a)
        refine WL.val (Value.int .i64 ((a).length : Int)) _ (op_lenL sl_36 (Ty.lift _ hS20.ext r_a) rfl) rfl ?_
        refine WL.val (Value.bool (decide ((k7 : Int) < ((a).length : Int)))) _ (op_lss rfl rfl) rfl ?_
        have hl22 : (k7 : Int) < ((a).length : Int) := by omega
        refine WL.nil ?_
        refine W.condT (decide ((k7 : Int) < ((a).length : Int))) rfl (decide_eq_true hl22) ?_
        refine W.skip ?_
        refine W.seq ?_
        refine W.block ?_
        refine W.seq ?_
        obtain ⟨x53, hx56, hb12⟩ := bs hb12
        obtain ⟨ha54, hb55, hx56⟩ := idx_some hx56
        obtain ⟨u67, hc68, hr69⟩ := repSl.el r_a hx56
        obtain ⟨rfl, hr69⟩ := hr69
        obtain ⟨x99, hx102, hb12⟩ := bs hb12
        obtain ⟨ha100, hb101, hx102⟩ := idx_some hx102
        obtain ⟨u113, hc114, hr115⟩ := repSl.el r_b hx102
        obtain ⟨rfl, hr115⟩ := hr115
        refine W.drawR mixo 8 [] [fun _ v _ _ => v = v_a, fun _ v _ _ => v = (Value.int .i64 (k7 : Int)) ∧ InR .i64 (k7 : Int), fun _ v _ _ => v = (Value.pointer (some (elA v_a ((k7 : Int)).toNat))), fun _ v _ _ => v = (Value.int .i64 x53) ∧ InR .i64 x53, fun _ v _ _ => v = v_b, fun _ v _ _ => v = (Value.int .i64 (k7 : Int)) ∧ InR .i64 (k7 : Int), fun _ v _ _ => v = (Value.pointer (some (elA v_b ((k7 : Int)).toNat))), fun _ v _ _ => v = (Value.int .i64 x99) ∧ InR .i64 x99] (by kernel_rfl) (by kernel_rfl) ⟨pk, pk, pk, pk, pk, pk, pk, pk, trivial⟩ ⟨?_, ?_, ?_, ?_, ?_, ?_, ?_, ?_, trivial⟩ ?_
        · refine ObX.op rfl fun f24 wd25 he26 hout27 hphi28 => ?_
          have e30 : f24 0 = v_a := (hout27 0 rfl).trans hf16
          exact OpX.val v_a wd25 rfl (op_move e30) (Ext.refl _) rfl
        · refine ObX.op rfl fun f31 wd32 he33 hout34 hphi35 => ?_
          have e37 : f31 5 = (Value.int .i64 (k7 : Int)) := (hout34 5 rfl).trans hf18
          exact OpX.val (Value.int .i64 (k7 : Int)) wd32 rfl (op_move e37) (Ext.refl _) ⟨rfl, hr19⟩
        · refine ObX.op rfl fun f38 wd39 he40 hout41 hphi42 => ?_
          have hS43 := St.extend hS20 he40
          obtain ⟨S44, hS45, hf46⟩ := hphi42 0 17 _ rfl rfl rfl
          have e47 : f38 17 = v_a := hf46
          obtain ⟨S48, hS49, hf50⟩ := hphi42 1 18 _ rfl rfl rfl
          obtain ⟨e51, hr52⟩ := hf50
          exact OpX.val (Value.pointer (some (elA v_a ((k7 : Int)).toNat))) wd39 rfl (op_idx sl_36 (Ty.lift _ hS43.ext r_a) e47 e51 ha54 hb55) (Ext.refl _) rfl
        · refine ObX.op rfl fun f57 wd58 he59 hout60 hphi61 => ?_
          have hS62 := St.extend hS20 he59
          obtain ⟨S63, hS64, hf65⟩ := hphi61 2 19 _ rfl rfl rfl
          have e66 : f57 19 = (Value.pointer (some (elA v_a ((k7 : Int)).toNat))) := hf65
          exact OpX.val (Value.int .i64 x53) wd58 rfl (op_load one_2 e66 (Ext.cell hS62.ext hc68)) (Ext.refl _) ⟨rfl, hr69⟩
        · refine ObX.op rfl fun f70 wd71 he72 hout73 hphi74 => ?_
          have e76 : f70 1 = v_b := (hout73 1 rfl).trans hf17
          exact OpX.val v_b wd71 rfl (op_move e76) (Ext.refl _) rfl
        · refine ObX.op rfl fun f77 wd78 he79 hout80 hphi81 => ?_
          have e83 : f77 5 = (Value.int .i64 (k7 : Int)) := (hout80 5 rfl).trans hf18
          exact OpX.val (Value.int .i64 (k7 : Int)) wd78 rfl (op_move e83) (Ext.refl _) ⟨rfl, hr19⟩
        · refine ObX.op rfl fun f84 wd85 he86 hout87 hphi88 => ?_
          have hS89 := St.extend hS20 he86
          obtain ⟨S90, hS91, hf92⟩ := hphi88 4 21 _ rfl rfl rfl
          have e93 : f84 21 = v_b := hf92
          obtain ⟨S94, hS95, hf96⟩ := hphi88 5 22 _ rfl rfl rfl
          obtain ⟨e97, hr98⟩ := hf96
          exact OpX.val (Value.pointer (some (elA v_b ((k7 : Int)).toNat))) wd85 rfl (op_idx sl_36 (Ty.lift _ hS89.ext r_b) e93 e97 ha100 hb101) (Ext.refl _) rfl
        · refine ObX.op rfl fun f103 wd104 he105 hout106 hphi107 => ?_
          have hS108 := St.extend hS20 he105
          obtain ⟨S109, hS110, hf111⟩ := hphi107 6 23 _ rfl rfl rfl
          have e112 : f103 23 = (Value.pointer (some (elA v_b ((k7 : Int)).toNat))) := hf111
          exact OpX.val (Value.int .i64 x99) wd104 rfl (op_load one_2 e112 (Ext.cell hS108.ext hc114)) (Ext.refl _) ⟨rfl, hr115⟩
        · intro f116 wd117 Ss118 he119 hout120 hSn121 hSd122 hphi123
          show WL _ _ _ _ _ _ _
          have hS124 := St.extend hS20 he119
          obtain ⟨e125, hr126⟩ := hphi123 3 20 _ (by decide) rfl rfl
          obtain ⟨e127, hr128⟩ := hphi123 7 24 _ (by decide) rfl rfl
          have e129 : f116 0 = v_a := (hout120 0 rfl).trans hf16
          have e130 : f116 1 = v_b := (hout120 1 rfl).trans hf17
          have e131 : f116 5 = (Value.int .i64 (k7 : Int)) := (hout120 5 rfl).trans hf18
          refine WL.val (Value.bool (x53 != x99)) _ (op_neq e125 e127) rfl ?_
          refine WL.nil ?_
          refine W.cond (x53 != x99) rfl (fun hc132 => ?_) (fun hc132 => ?_)
          · replace hb12 := ip hb12 hc132
            refine W.seq (W.region ?_)
            refine WL.val (Value.bool false) _ (op_assign rfl) rfl ?_
            refine WL.nil ?_
            refine W.ret ?_
            obtain rfl := Option.some.inj hb12
            obtain rfl := hret15 _ rfl
            replace h := onRes_ret h
            obtain rfl := Option.some.inj h
            show FinP _ _ _ _ _ _ _
            exact FinP.ret _ (res1 rfl rfl) ⟨rfl, hS124.ext⟩
          · replace hb12 := inegb hb12 hc132
            refine W.skip ?_
            show W _ _ _ _ _ _
            refine W.region ?_
            refine WL.val (Value.int .i64 (k7 : Int)) _ (op_move e131) rfl ?_
            refine WL.val (Value.int .i64 (w64 ((k7 : Int) + (1 : Int)))) _ (op_add rfl rfl) rfl ?_
            refine WL.val (Value.int .i64 (w64 ((k7 : Int) + (1 : Int)))) _ (op_assign rfl) rfl ?_
            refine WL.nil ?_
            obtain rfl := Option.some.inj hb12
            show ∃ s, _ = Ctl.next s ∧ _
            exact ⟨_, rfl, e129, e130, (ctr_next hl22 hr21), (ctr_rng hl22 hr21), hS124⟩
      · intro s139 f135 wd136 hs137 hI138
        obtain ⟨⟩ := s139
        replace hI138 : f135 0 = v_a ∧ f135 1 = v_b ∧ f135 5 = Value.int .i64 (((a).length : Nat) : Int) ∧ InR .i64 (((a).length : Nat) : Int) ∧ St w wd136 [] := hI138
        obtain ⟨hf140, hf141, hf142, hr143, hS144⟩ := hI138
        refine W.seq (W.seq (W.region ?_))
        refine WL.val (Value.int .i64 (((a).length : Nat) : Int)) _ (op_move hf142) rfl ?_
        refine WL.val v_a _ (op_move hf140) rfl ?_
        have hr145 := inR_len (Ty.lift _ hS144.ext r_a)
        refine WL.val (Value.int .i64 ((a).length : Int)) _ (op_lenL sl_36 (Ty.lift _ hS144.ext r_a) rfl) rfl ?_
        refine WL.val (Value.bool (decide ((((a).length : Nat) : Int) < ((a).length : Int)))) _ (op_lss rfl rfl) rfl ?_
        have hl146 : ¬ (((a).length : Nat) : Int) < ((a).length : Int) := by omega
        refine WL.nil ?_
        refine W.condF (decide ((((a).length : Nat) : Int) < ((a).length : Int))) rfl (decide_eq_false hl146) ?_
        refine W.exit ?_
        show _ = _ ∧ _
        exact ⟨rfl, _, hs137, hS144⟩
    · rintro f147 wd148 ⟨s150, rfl, hq149⟩
      replace h := onRes_fin h
      obtain ⟨⟩ := s150
      replace hq149 : St w wd148 [] := hq149
      have hS151 := hq149
      refine W.seq (W.region ?_)
      refine WL.val (Value.bool true) _ (op_assign rfl) rfl ?_
      refine WL.nil ?_
      refine W.ret ?_
      obtain rfl := Option.some.inj h
      show FinP _ _ _ _ _ _ _
      exact FinP.ret _ (res1 rfl rfl) ⟨rfl, hS151.ext⟩

theorem c_laws_eqInt64SS {w : World} {a : (List (List Int))} {v_a : Value} {b : (List (List Int))} {v_b : Value} (r_a : (Ty.sl (Ty.sl (Ty.i .i64))).rep w v_a a) (r_b : (Ty.sl (Ty.sl (Ty.i .i64))).rep w v_b b) {res : Bool} (h : p_laws_eqInt64SS a b  = some res) :
    Ret Try.prog 12 #[v_a, v_b] w (fun v w' => v = Value.bool res ∧ Ext w w') := by
  unfold p_laws_eqInt64SS at h
  have hS0 : St w w [] := St.start w
  refine Ret.start (fn := Try.f12) Try.func12 rfl 27 rfl rfl ?_
  refine W.seq (W.region ?_)
  refine WL.val (Value.bool false) _ (op_assign rfl) rfl ?_
  refine WL.nil ?_
  refine W.seq (W.seq (W.region ?_))
  refine WL.val v_a _ (op_move rfl) rfl ?_
  have hr1 := inR_len (Ty.lift _ hS0.ext r_a)
  refine WL.val (Value.int .i64 ((a).length : Int)) _ (op_lenL sl_25 (Ty.lift _ hS0.ext r_a) rfl) rfl ?_
  refine WL.val v_b _ (op_move rfl) rfl ?_
  have hr2 := inR_len (Ty.lift _ hS0.ext r_b)
  refine WL.val (Value.int .i64 ((b).length : Int)) _ (op_lenL sl_25 (Ty.lift _ hS0.ext r_b) rfl) rfl ?_
  refine WL.val (Value.bool (((a).length : Int) != ((b).length : Int))) _ (op_neq rfl rfl) rfl ?_
  refine WL.nil ?_
  refine W.cond (((a).length : Int) != ((b).length : Int)) rfl (fun hc3 => ?_) (fun hc3 => ?_)
  · replace h := ip h hc3
    refine W.seq (W.region ?_)
    refine WL.val (Value.bool false) _ (op_assign rfl) rfl ?_
    refine WL.nil ?_
    refine W.ret ?_
    obtain rfl := Option.some.inj h
    show FinP _ _ _ _ _ _ _
    exact FinP.ret _ (res1 rfl rfl) ⟨rfl, hS0.ext⟩
  · replace h := inegb h hc3
    refine W.skip ?_
    refine W.seq (W.seq (W.region ?_))
    refine WL.val (Value.int .i64 (0 : Int)) _ (op_assign rfl) rfl ?_
    refine WL.nil ?_
    show W _ _ _ _ _ _
    obtain ⟨res5, hres6, h⟩ := bs h
    refine W.blockLoop (fun fq wq => ∃ s, res5 = Res.fin s ∧ St w wq []) ?_ ?_
    · refine W.forN (fun k (s : Unit) fq wq => fq 0 = v_a ∧ fq 1 = v_b ∧ fq 5 = Value.int .i64 (k : Int) ∧ InR .i64 (k : Int) ∧ St w wq []) hres6 ⟨rfl, rfl, rfl, (inL rfl), hS0⟩ ?_ ?_
      · intro k7 s138 ct8 f9 wd10 hk11 hb12 hI13 hbrk14 hret15
        obtain ⟨⟩ := s138
        replace hI13 : f9 0 = v_a ∧ f9 1 = v_b ∧ f9 5 = Value.int .i64 (k7 : Int) ∧ InR .i64 (k7 : Int) ∧ St w wd10 [] := hI13
        replace hb12 : p_laws_eqInt64SS_L1 a b k7  = some ct8 := hb12
        unfold p_laws_eqInt64SS_L1 at hb12
        obtain ⟨hf16, hf17, hf18, hr19, hS20⟩ := hI13
        refine W.seq (W.seq (W.region ?_))
        refine WL.val (Value.int .i64 (k7 : Int)) _ (op_move hf18) rfl ?_
        refine WL.val v_a _ (op_move hf16) rfl ?_
        have hr21 := inR_len (Ty.lift _ hS20.ext r_a)
        refine WL.val (Value.int .i64 ((a).length : Int)) _ (op_lenL sl_25 (Ty.lift _ hS20.ext r_a) rfl) rfl ?_
        refine WL.val (Value.bool (decide ((k7 : Int) < ((a).length : Int)))) _ (op_lss rfl rfl) rfl ?_
        have hl22 : (k7 : Int) < ((a).length : Int) := by omega
        refine WL.nil ?_
        refine W.condT (decide ((k7 : Int) < ((a).length : Int))) rfl (decide_eq_true hl22) ?_
        refine W.skip ?_
        refine W.seq ?_
        refine W.block ?_
        refine W.seq ?_
        obtain ⟨x53, hx56, hb12⟩ := bs hb12
        obtain ⟨ha54, hb55, hx56⟩ := idx_some hx56
        obtain ⟨u67, hc68, hr69⟩ := repSl.el r_a hx56
        obtain ⟨x99, hx102, hb12⟩ := bs hb12
        obtain ⟨ha100, hb101, hx102⟩ := idx_some hx102
        obtain ⟨u113, hc114, hr115⟩ := repSl.el r_b hx102
        refine W.drawR mixo 8 [] [fun _ v _ _ => v = v_a, fun _ v _ _ => v = (Value.int .i64 (k7 : Int)) ∧ InR .i64 (k7 : Int), fun _ v _ _ => v = (Value.pointer (some (elA v_a ((k7 : Int)).toNat))), fun _ v _ _ => v = u67, fun _ v _ _ => v = v_b, fun _ v _ _ => v = (Value.int .i64 (k7 : Int)) ∧ InR .i64 (k7 : Int), fun _ v _ _ => v = (Value.pointer (some (elA v_b ((k7 : Int)).toNat))), fun _ v _ _ => v = u113] (by kernel_rfl) (by kernel_rfl) ⟨pk, pk, pk, pk, pk, pk, pk, pk, trivial⟩ ⟨?_, ?_, ?_, ?_, ?_, ?_, ?_, ?_, trivial⟩ ?_
        · refine ObX.op rfl fun f24 wd25 he26 hout27 hphi28 => ?_
          have e30 : f24 0 = v_a := (hout27 0 rfl).trans hf16
          exact OpX.val v_a wd25 rfl (op_move e30) (Ext.refl _) rfl
        · refine ObX.op rfl fun f31 wd32 he33 hout34 hphi35 => ?_
          have e37 : f31 5 = (Value.int .i64 (k7 : Int)) := (hout34 5 rfl).trans hf18
          exact OpX.val (Value.int .i64 (k7 : Int)) wd32 rfl (op_move e37) (Ext.refl _) ⟨rfl, hr19⟩
        · refine ObX.op rfl fun f38 wd39 he40 hout41 hphi42 => ?_
          have hS43 := St.extend hS20 he40
          obtain ⟨S44, hS45, hf46⟩ := hphi42 0 17 _ rfl rfl rfl
          have e47 : f38 17 = v_a := hf46
          obtain ⟨S48, hS49, hf50⟩ := hphi42 1 18 _ rfl rfl rfl
          obtain ⟨e51, hr52⟩ := hf50
          exact OpX.val (Value.pointer (some (elA v_a ((k7 : Int)).toNat))) wd39 rfl (op_idx sl_25 (Ty.lift _ hS43.ext r_a) e47 e51 ha54 hb55) (Ext.refl _) rfl
        · refine ObX.op rfl fun f57 wd58 he59 hout60 hphi61 => ?_
          have hS62 := St.extend hS20 he59
          obtain ⟨S63, hS64, hf65⟩ := hphi61 2 19 _ rfl rfl rfl
          have e66 : f57 19 = (Value.pointer (some (elA v_a ((k7 : Int)).toNat))) := hf65
          exact OpX.val u67 wd58 rfl (op_load one_36 e66 (Ext.cell hS62.ext hc68)) (Ext.refl _) rfl
        · refine ObX.op rfl fun f70 wd71 he72 hout73 hphi74 => ?_
          have e76 : f70 1 = v_b := (hout73 1 rfl).trans hf17
          exact OpX.val v_b wd71 rfl (op_move e76) (Ext.refl _) rfl
        · refine ObX.op rfl fun f77 wd78 he79 hout80 hphi81 => ?_
          have e83 : f77 5 = (Value.int .i64 (k7 : Int)) := (hout80 5 rfl).trans hf18
          exact OpX.val (Value.int .i64 (k7 : Int)) wd78 rfl (op_move e83) (Ext.refl _) ⟨rfl, hr19⟩
        · refine ObX.op rfl fun f84 wd85 he86 hout87 hphi88 => ?_
          have hS89 := St.extend hS20 he86
          obtain ⟨S90, hS91, hf92⟩ := hphi88 4 21 _ rfl rfl rfl
          have e93 : f84 21 = v_b := hf92
          obtain ⟨S94, hS95, hf96⟩ := hphi88 5 22 _ rfl rfl rfl
          obtain ⟨e97, hr98⟩ := hf96
          exact OpX.val (Value.pointer (some (elA v_b ((k7 : Int)).toNat))) wd85 rfl (op_idx sl_25 (Ty.lift _ hS89.ext r_b) e93 e97 ha100 hb101) (Ext.refl _) rfl
        · refine ObX.op rfl fun f103 wd104 he105 hout106 hphi107 => ?_
          have hS108 := St.extend hS20 he105
          obtain ⟨S109, hS110, hf111⟩ := hphi107 6 23 _ rfl rfl rfl
          have e112 : f103 23 = (Value.pointer (some (elA v_b ((k7 : Int)).toNat))) := hf111
          exact OpX.val u113 wd104 rfl (op_load one_36 e112 (Ext.cell hS108.ext hc114)) (Ext.refl _) rfl
        · intro f116 wd117 Ss118 he119 hout120 hSn121 hSd122 hphi123
          show WL _ _ _ _ _ _ _
          have hS124 := St.extend hS20 he119
          have e125 : f116 20 = u67 := hphi123 3 20 _ (by decide) rfl rfl
          have e126 : f116 24 = u113 := hphi123 7 24 _ (by decide) rfl rfl
          have e127 : f116 0 = v_a := (hout120 0 rfl).trans hf16
          have e128 : f116 1 = v_b := (hout120 1 rfl).trans hf17
          have e129 : f116 5 = (Value.int .i64 (k7 : Int)) := (hout120 5 rfl).trans hf18
          obtain ⟨x130, hx131, hb12⟩ := bs hb12
          refine WL.call _ (op_call fn_16 (args2 e125 e126)) (c_laws_eqInt64S (Ty.lift _ hS124.ext hr69) (Ty.lift _ hS124.ext hr115) hx131) rfl ?_
          rintro _ wd132 ⟨rfl, he133⟩
          have hS135 := St.extend hS124 he133
          replace hS135 : St w wd132 [] := hS135
          refine WL.val (Value.bool (!x130)) _ (op_not rfl) rfl ?_
          refine WL.nil ?_
          refine W.cond (!x130) rfl (fun hc136 => ?_) (fun hc136 => ?_)
          · replace hb12 := ip hb12 hc136
            refine W.seq (W.region ?_)
            refine WL.val (Value.bool false) _ (op_assign rfl) rfl ?_
            refine WL.nil ?_
            refine W.ret ?_
            obtain rfl := Option.some.inj hb12
            obtain rfl := hret15 _ rfl
            replace h := onRes_ret h
            obtain rfl := Option.some.inj h
            show FinP _ _ _ _ _ _ _
            exact FinP.ret _ (res1 rfl rfl) ⟨rfl, hS135.ext⟩
          · replace hb12 := inegb hb12 hc136
            refine W.skip ?_
            show W _ _ _ _ _ _
            refine W.region ?_
            refine WL.val (Value.int .i64 (k7 : Int)) _ (op_move e129) rfl ?_
            refine WL.val (Value.int .i64 (w64 ((k7 : Int) + (1 : Int)))) _ (op_add rfl rfl) rfl ?_
            refine WL.val (Value.int .i64 (w64 ((k7 : Int) + (1 : Int)))) _ (op_assign rfl) rfl ?_
            refine WL.nil ?_
            obtain rfl := Option.some.inj hb12
            show ∃ s, _ = Ctl.next s ∧ _
            exact ⟨_, rfl, e127, e128, (ctr_next hl22 hr21), (ctr_rng hl22 hr21), hS135⟩
      · intro s143 f139 wd140 hs141 hI142
        obtain ⟨⟩ := s143
        replace hI142 : f139 0 = v_a ∧ f139 1 = v_b ∧ f139 5 = Value.int .i64 (((a).length : Nat) : Int) ∧ InR .i64 (((a).length : Nat) : Int) ∧ St w wd140 [] := hI142
        obtain ⟨hf144, hf145, hf146, hr147, hS148⟩ := hI142
        refine W.seq (W.seq (W.region ?_))
        refine WL.val (Value.int .i64 (((a).length : Nat) : Int)) _ (op_move hf146) rfl ?_
        refine WL.val v_a _ (op_move hf144) rfl ?_
        have hr149 := inR_len (Ty.lift _ hS148.ext r_a)
        refine WL.val (Value.int .i64 ((a).length : Int)) _ (op_lenL sl_25 (Ty.lift _ hS148.ext r_a) rfl) rfl ?_
        refine WL.val (Value.bool (decide ((((a).length : Nat) : Int) < ((a).length : Int)))) _ (op_lss rfl rfl) rfl ?_
        have hl150 : ¬ (((a).length : Nat) : Int) < ((a).length : Int) := by omega
        refine WL.nil ?_
        refine W.condF (decide ((((a).length : Nat) : Int) < ((a).length : Int))) rfl (decide_eq_false hl150) ?_
        refine W.exit ?_
        show _ = _ ∧ _
        exact ⟨rfl, _, hs141, hS148⟩
    · rintro f151 wd152 ⟨s154, rfl, hq153⟩
      replace h := onRes_fin h
      obtain ⟨⟩ := s154
      replace hq153 : St w wd152 [] := hq153
      have hS155 := hq153
      refine W.seq (W.region ?_)
      refine WL.val (Value.bool true) _ (op_assign rfl) rfl ?_
      refine WL.nil ?_
      refine W.ret ?_
      obtain rfl := Option.some.inj h
      show FinP _ _ _ _ _ _ _
      exact FinP.ret _ (res1 rfl rfl) ⟨rfl, hS155.ext⟩

theorem c_laws_eqInt64SSS {w : World} {a : (List (List (List Int)))} {v_a : Value} {b : (List (List (List Int)))} {v_b : Value} (r_a : (Ty.sl (Ty.sl (Ty.sl (Ty.i .i64)))).rep w v_a a) (r_b : (Ty.sl (Ty.sl (Ty.sl (Ty.i .i64)))).rep w v_b b) {res : Bool} (h : p_laws_eqInt64SSS a b  = some res) :
    Ret Try.prog 34 #[v_a, v_b] w (fun v w' => v = Value.bool res ∧ Ext w w') := by
  unfold p_laws_eqInt64SSS at h
  have hS0 : St w w [] := St.start w
  refine Ret.start (fn := Try.f34) Try.func34 rfl 27 rfl rfl ?_
  refine W.seq (W.region ?_)
  refine WL.val (Value.bool false) _ (op_assign rfl) rfl ?_
  refine WL.nil ?_
  refine W.seq (W.seq (W.region ?_))
  refine WL.val v_a _ (op_move rfl) rfl ?_
  have hr1 := inR_len (Ty.lift _ hS0.ext r_a)
  refine WL.val (Value.int .i64 ((a).length : Int)) _ (op_lenL sl_22 (Ty.lift _ hS0.ext r_a) rfl) rfl ?_
  refine WL.val v_b _ (op_move rfl) rfl ?_
  have hr2 := inR_len (Ty.lift _ hS0.ext r_b)
  refine WL.val (Value.int .i64 ((b).length : Int)) _ (op_lenL sl_22 (Ty.lift _ hS0.ext r_b) rfl) rfl ?_
  refine WL.val (Value.bool (((a).length : Int) != ((b).length : Int))) _ (op_neq rfl rfl) rfl ?_
  refine WL.nil ?_
  refine W.cond (((a).length : Int) != ((b).length : Int)) rfl (fun hc3 => ?_) (fun hc3 => ?_)
  · replace h := ip h hc3
    refine W.seq (W.region ?_)
    refine WL.val (Value.bool false) _ (op_assign rfl) rfl ?_
    refine WL.nil ?_
    refine W.ret ?_
    obtain rfl := Option.some.inj h
    show FinP _ _ _ _ _ _ _
    exact FinP.ret _ (res1 rfl rfl) ⟨rfl, hS0.ext⟩
  · replace h := inegb h hc3
    refine W.skip ?_
    refine W.seq (W.seq (W.region ?_))
    refine WL.val (Value.int .i64 (0 : Int)) _ (op_assign rfl) rfl ?_
    refine WL.nil ?_
    show W _ _ _ _ _ _
    obtain ⟨res5, hres6, h⟩ := bs h
    refine W.blockLoop (fun fq wq => ∃ s, res5 = Res.fin s ∧ St w wq []) ?_ ?_
    · refine W.forN (fun k (s : Unit) fq wq => fq 0 = v_a ∧ fq 1 = v_b ∧ fq 5 = Value.int .i64 (k : Int) ∧ InR .i64 (k : Int) ∧ St w wq []) hres6 ⟨rfl, rfl, rfl, (inL rfl), hS0⟩ ?_ ?_
      · intro k7 s138 ct8 f9 wd10 hk11 hb12 hI13 hbrk14 hret15
        obtain ⟨⟩ := s138
        replace hI13 : f9 0 = v_a ∧ f9 1 = v_b ∧ f9 5 = Value.int .i64 (k7 : Int) ∧ InR .i64 (k7 : Int) ∧ St w wd10 [] := hI13
        replace hb12 : p_laws_eqInt64SSS_L1 a b k7  = some ct8 := hb12
        unfold p_laws_eqInt64SSS_L1 at hb12
        obtain ⟨hf16, hf17, hf18, hr19, hS20⟩ := hI13
        refine W.seq (W.seq (W.region ?_))
        refine WL.val (Value.int .i64 (k7 : Int)) _ (op_move hf18) rfl ?_
        refine WL.val v_a _ (op_move hf16) rfl ?_
        have hr21 := inR_len (Ty.lift _ hS20.ext r_a)
        refine WL.val (Value.int .i64 ((a).length : Int)) _ (op_lenL sl_22 (Ty.lift _ hS20.ext r_a) rfl) rfl ?_
        refine WL.val (Value.bool (decide ((k7 : Int) < ((a).length : Int)))) _ (op_lss rfl rfl) rfl ?_
        have hl22 : (k7 : Int) < ((a).length : Int) := by omega
        refine WL.nil ?_
        refine W.condT (decide ((k7 : Int) < ((a).length : Int))) rfl (decide_eq_true hl22) ?_
        refine W.skip ?_
        refine W.seq ?_
        refine W.block ?_
        refine W.seq ?_
        obtain ⟨x53, hx56, hb12⟩ := bs hb12
        obtain ⟨ha54, hb55, hx56⟩ := idx_some hx56
        obtain ⟨u67, hc68, hr69⟩ := repSl.el r_a hx56
        obtain ⟨x99, hx102, hb12⟩ := bs hb12
        obtain ⟨ha100, hb101, hx102⟩ := idx_some hx102
        obtain ⟨u113, hc114, hr115⟩ := repSl.el r_b hx102
        refine W.drawR mixo 8 [] [fun _ v _ _ => v = v_a, fun _ v _ _ => v = (Value.int .i64 (k7 : Int)) ∧ InR .i64 (k7 : Int), fun _ v _ _ => v = (Value.pointer (some (elA v_a ((k7 : Int)).toNat))), fun _ v _ _ => v = u67, fun _ v _ _ => v = v_b, fun _ v _ _ => v = (Value.int .i64 (k7 : Int)) ∧ InR .i64 (k7 : Int), fun _ v _ _ => v = (Value.pointer (some (elA v_b ((k7 : Int)).toNat))), fun _ v _ _ => v = u113] (by kernel_rfl) (by kernel_rfl) ⟨pk, pk, pk, pk, pk, pk, pk, pk, trivial⟩ ⟨?_, ?_, ?_, ?_, ?_, ?_, ?_, ?_, trivial⟩ ?_
        · refine ObX.op rfl fun f24 wd25 he26 hout27 hphi28 => ?_
          have e30 : f24 0 = v_a := (hout27 0 rfl).trans hf16
          exact OpX.val v_a wd25 rfl (op_move e30) (Ext.refl _) rfl
        · refine ObX.op rfl fun f31 wd32 he33 hout34 hphi35 => ?_
          have e37 : f31 5 = (Value.int .i64 (k7 : Int)) := (hout34 5 rfl).trans hf18
          exact OpX.val (Value.int .i64 (k7 : Int)) wd32 rfl (op_move e37) (Ext.refl _) ⟨rfl, hr19⟩
        · refine ObX.op rfl fun f38 wd39 he40 hout41 hphi42 => ?_
          have hS43 := St.extend hS20 he40
          obtain ⟨S44, hS45, hf46⟩ := hphi42 0 17 _ rfl rfl rfl
          have e47 : f38 17 = v_a := hf46
          obtain ⟨S48, hS49, hf50⟩ := hphi42 1 18 _ rfl rfl rfl
          obtain ⟨e51, hr52⟩ := hf50
          exact OpX.val (Value.pointer (some (elA v_a ((k7 : Int)).toNat))) wd39 rfl (op_idx sl_22 (Ty.lift _ hS43.ext r_a) e47 e51 ha54 hb55) (Ext.refl _) rfl
        · refine ObX.op rfl fun f57 wd58 he59 hout60 hphi61 => ?_
          have hS62 := St.extend hS20 he59
          obtain ⟨S63, hS64, hf65⟩ := hphi61 2 19 _ rfl rfl rfl
          have e66 : f57 19 = (Value.pointer (some (elA v_a ((k7 : Int)).toNat))) := hf65
          exact OpX.val u67 wd58 rfl (op_load one_25 e66 (Ext.cell hS62.ext hc68)) (Ext.refl _) rfl
        · refine ObX.op rfl fun f70 wd71 he72 hout73 hphi74 => ?_
          have e76 : f70 1 = v_b := (hout73 1 rfl).trans hf17
          exact OpX.val v_b wd71 rfl (op_move e76) (Ext.refl _) rfl
        · refine ObX.op rfl fun f77 wd78 he79 hout80 hphi81 => ?_
          have e83 : f77 5 = (Value.int .i64 (k7 : Int)) := (hout80 5 rfl).trans hf18
          exact OpX.val (Value.int .i64 (k7 : Int)) wd78 rfl (op_move e83) (Ext.refl _) ⟨rfl, hr19⟩
        · refine ObX.op rfl fun f84 wd85 he86 hout87 hphi88 => ?_
          have hS89 := St.extend hS20 he86
          obtain ⟨S90, hS91, hf92⟩ := hphi88 4 21 _ rfl rfl rfl
          have e93 : f84 21 = v_b := hf92
          obtain ⟨S94, hS95, hf96⟩ := hphi88 5 22 _ rfl rfl rfl
          obtain ⟨e97, hr98⟩ := hf96
          exact OpX.val (Value.pointer (some (elA v_b ((k7 : Int)).toNat))) wd85 rfl (op_idx sl_22 (Ty.lift _ hS89.ext r_b) e93 e97 ha100 hb101) (Ext.refl _) rfl
        · refine ObX.op rfl fun f103 wd104 he105 hout106 hphi107 => ?_
          have hS108 := St.extend hS20 he105
          obtain ⟨S109, hS110, hf111⟩ := hphi107 6 23 _ rfl rfl rfl
          have e112 : f103 23 = (Value.pointer (some (elA v_b ((k7 : Int)).toNat))) := hf111
          exact OpX.val u113 wd104 rfl (op_load one_25 e112 (Ext.cell hS108.ext hc114)) (Ext.refl _) rfl
        · intro f116 wd117 Ss118 he119 hout120 hSn121 hSd122 hphi123
          show WL _ _ _ _ _ _ _
          have hS124 := St.extend hS20 he119
          have e125 : f116 20 = u67 := hphi123 3 20 _ (by decide) rfl rfl
          have e126 : f116 24 = u113 := hphi123 7 24 _ (by decide) rfl rfl
          have e127 : f116 0 = v_a := (hout120 0 rfl).trans hf16
          have e128 : f116 1 = v_b := (hout120 1 rfl).trans hf17
          have e129 : f116 5 = (Value.int .i64 (k7 : Int)) := (hout120 5 rfl).trans hf18
          obtain ⟨x130, hx131, hb12⟩ := bs hb12
          refine WL.call _ (op_call fn_12 (args2 e125 e126)) (c_laws_eqInt64SS (Ty.lift _ hS124.ext hr69) (Ty.lift _ hS124.ext hr115) hx131) rfl ?_
          rintro _ wd132 ⟨rfl, he133⟩
          have hS135 := St.extend hS124 he133
          replace hS135 : St w wd132 [] := hS135
          refine WL.val (Value.bool (!x130)) _ (op_not rfl) rfl ?_
          refine WL.nil ?_
          refine W.cond (!x130) rfl (fun hc136 => ?_) (fun hc136 => ?_)
          · replace hb12 := ip hb12 hc136
            refine W.seq (W.region ?_)
            refine WL.val (Value.bool false) _ (op_assign rfl) rfl ?_
            refine WL.nil ?_
            refine W.ret ?_
            obtain rfl := Option.some.inj hb12
            obtain rfl := hret15 _ rfl
            replace h := onRes_ret h
            obtain rfl := Option.some.inj h
            show FinP _ _ _ _ _ _ _
            exact FinP.ret _ (res1 rfl rfl) ⟨rfl, hS135.ext⟩
          · replace hb12 := inegb hb12 hc136
            refine W.skip ?_
            show W _ _ _ _ _ _
            refine W.region ?_
            refine WL.val (Value.int .i64 (k7 : Int)) _ (op_move e129) rfl ?_
            refine WL.val (Value.int .i64 (w64 ((k7 : Int) + (1 : Int)))) _ (op_add rfl rfl) rfl ?_
            refine WL.val (Value.int .i64 (w64 ((k7 : Int) + (1 : Int)))) _ (op_assign rfl) rfl ?_
            refine WL.nil ?_
            obtain rfl := Option.some.inj hb12
            show ∃ s, _ = Ctl.next s ∧ _
            exact ⟨_, rfl, e127, e128, (ctr_next hl22 hr21), (ctr_rng hl22 hr21), hS135⟩
      · intro s143 f139 wd140 hs141 hI142
        obtain ⟨⟩ := s143
        replace hI142 : f139 0 = v_a ∧ f139 1 = v_b ∧ f139 5 = Value.int .i64 (((a).length : Nat) : Int) ∧ InR .i64 (((a).length : Nat) : Int) ∧ St w wd140 [] := hI142
        obtain ⟨hf144, hf145, hf146, hr147, hS148⟩ := hI142
        refine W.seq (W.seq (W.region ?_))
        refine WL.val (Value.int .i64 (((a).length : Nat) : Int)) _ (op_move hf146) rfl ?_
        refine WL.val v_a _ (op_move hf144) rfl ?_
        have hr149 := inR_len (Ty.lift _ hS148.ext r_a)
        refine WL.val (Value.int .i64 ((a).length : Int)) _ (op_lenL sl_22 (Ty.lift _ hS148.ext r_a) rfl) rfl ?_
        refine WL.val (Value.bool (decide ((((a).length : Nat) : Int) < ((a).length : Int)))) _ (op_lss rfl rfl) rfl ?_
        have hl150 : ¬ (((a).length : Nat) : Int) < ((a).length : Int) := by omega
        refine WL.nil ?_
        refine W.condF (decide ((((a).length : Nat) : Int) < ((a).length : Int))) rfl (decide_eq_false hl150) ?_
        refine W.exit ?_
        show _ = _ ∧ _
        exact ⟨rfl, _, hs141, hS148⟩
    · rintro f151 wd152 ⟨s154, rfl, hq153⟩
      replace h := onRes_fin h
      obtain ⟨⟩ := s154
      replace hq153 : St w wd152 [] := hq153
      have hS155 := hq153
      refine W.seq (W.region ?_)
      refine WL.val (Value.bool true) _ (op_assign rfl) rfl ?_
      refine WL.nil ?_
      refine W.ret ?_
      obtain rfl := Option.some.inj h
      show FinP _ _ _ _ _ _ _
      exact FinP.ret _ (res1 rfl rfl) ⟨rfl, hS155.ext⟩

theorem c_laws_eqRing {w : World} {a_Table : (List (List (List Int)))} {v_a_Table : Value} {b_Table : (List (List (List Int)))} {v_b_Table : Value} (r_a_Table : (Ty.sl (Ty.sl (Ty.sl (Ty.i .i64)))).rep w v_a_Table a_Table) (r_b_Table : (Ty.sl (Ty.sl (Ty.sl (Ty.i .i64)))).rep w v_b_Table b_Table) {res : Bool} (h : p_laws_eqRing a_Table b_Table  = some res) :
    Ret Try.prog 11 #[(Value.agg #[v_a_Table]), (Value.agg #[v_b_Table])] w (fun v w' => v = Value.bool res ∧ Ext w w') := by
  unfold p_laws_eqRing at h
  have hS0 : St w w [] := St.start w
  refine Ret.start (fn := Try.f11) Try.func11 rfl 11 rfl rfl ?_
  refine W.seq (W.region ?_)
  refine WL.box hS0 rfl (cs := [v_a_Table]) rfl rfl ?_
  intro b1 wd2 hS3 he4 hx5
  replace hS3 : St w wd2 [bx b1 [v_a_Table]] := hS3
  have hx6 := St.boxAt hS3 0 rfl
  have hE7 : Ext w wd2 := hS3.ext
  have hS8 : St wd2 wd2 [] := St.start wd2
  refine WL.box hS8 rfl (cs := [v_b_Table]) rfl rfl ?_
  intro b9 wd10 hS11 he12 hx13
  replace hS11 : St wd2 wd10 [bx b9 [v_b_Table]] := hS11
  have hx14 := St.boxAt hS11 0 rfl
  have hE15 : Ext w wd10 := (Ext.trans hE7 hS11.ext)
  have hE16 : Ext wd2 wd10 := hS11.ext
  have hS17 : St wd10 wd10 [] := St.start wd10
  refine WL.val (Value.bool false) _ (op_assign rfl) rfl ?_
  refine WL.nil ?_
  refine W.seq (W.seq (W.region ?_))
  refine WL.val (Value.pointer (some ⟨b1, 0, none⟩)) _ (op_fieldAddr fd_30_0 rfl) rfl ?_
  refine WL.val v_a_Table _ (op_load one_22 rfl (BoxAt.cell (BoxAt.lift (Ext.trans hE16 hS17.ext) hx6) rfl)) rfl ?_
  refine WL.val (Value.pointer (some ⟨b9, 0, none⟩)) _ (op_fieldAddr fd_30_0 rfl) rfl ?_
  refine WL.val v_b_Table _ (op_load one_22 rfl (BoxAt.cell (BoxAt.lift hS17.ext hx14) rfl)) rfl ?_
  obtain ⟨x18, hx19, h⟩ := bs h
  refine WL.call _ (op_call fn_34 (args2 rfl rfl)) (c_laws_eqInt64SSS (Ty.lift _ (Ext.trans hE15 hS17.ext) r_a_Table) (Ty.lift _ (Ext.trans hE15 hS17.ext) r_b_Table) hx19) rfl ?_
  rintro _ wd20 ⟨rfl, he21⟩
  have hS23 := St.extend hS17 he21
  replace hS23 : St wd10 wd20 [] := hS23
  refine WL.val (Value.bool (!x18)) _ (op_not rfl) rfl ?_
  refine WL.nil ?_
  refine W.cond (!x18) rfl (fun hc24 => ?_) (fun hc24 => ?_)
  · replace h := ip h hc24
    refine W.seq (W.region ?_)
    refine WL.val (Value.bool false) _ (op_assign rfl) rfl ?_
    refine WL.nil ?_
    refine W.ret ?_
    obtain rfl := Option.some.inj h
    show FinP _ _ _ _ _ _ _
    exact FinP.ret _ (res1 rfl rfl) ⟨rfl, (Ext.trans hE15 hS23.ext)⟩
  · replace h := inegb h hc24
    refine W.skip ?_
    refine W.seq (W.region ?_)
    refine WL.val (Value.bool true) _ (op_assign rfl) rfl ?_
    refine WL.nil ?_
    refine W.ret ?_
    obtain rfl := Option.some.inj h
    show FinP _ _ _ _ _ _ _
    exact FinP.ret _ (res1 rfl rfl) ⟨rfl, (Ext.trans hE15 hS23.ext)⟩

theorem c_laws_FnExactGraphDimension {w : World} {aR_Table : (List (List (List Int)))} {v_aR_Table : Value} {aGraph : (List (List Int))} {v_aGraph : Value} (r_aR_Table : (Ty.sl (Ty.sl (Ty.sl (Ty.i .i64)))).rep w v_aR_Table aR_Table) (r_aGraph : (Ty.sl (Ty.sl (Ty.i .i64))).rep w v_aGraph aGraph) {res : Bool} (h : p_laws_FnExactGraphDimension aR_Table aGraph  = some res) :
    Ret Try.prog 3 #[(Value.agg #[v_aR_Table]), v_aGraph] w (fun v w' => v = Value.bool res ∧ Ext w w') := by
  unfold p_laws_FnExactGraphDimension at h
  have hS0 : St w w [] := St.start w
  refine Ret.start (fn := Try.f3) Try.func3 rfl 58 rfl rfl ?_
  refine W.seq (W.region ?_)
  refine WL.box hS0 rfl (cs := [v_aR_Table]) rfl rfl ?_
  intro b1 wd2 hS3 he4 hx5
  replace hS3 : St w wd2 [bx b1 [v_aR_Table]] := hS3
  have hx6 := St.boxAt hS3 0 rfl
  have hE7 : Ext w wd2 := hS3.ext
  have hS8 : St wd2 wd2 [] := St.start wd2
  refine WL.val (Value.bool false) _ (op_assign rfl) rfl ?_
  refine WL.nil ?_
  refine W.seq (W.region ?_)
  refine WL.val (Value.int .i64 (1048576 : Int)) _ (op_assign rfl) rfl ?_
  refine WL.nil ?_
  refine W.seq (W.region ?_)
  refine WL.val (Value.agg #[v_aR_Table]) _ (op_loadBox st_24 rfl (BoxAt.lift hS8.ext hx6) rfl rfl) rfl ?_
  refine WL.val (Value.int .i64 (1048576 : Int)) _ (op_move rfl) rfl ?_
  obtain ⟨x9, hx10, h⟩ := bs h
  refine WL.call _ (op_call fn_5 (args2 rfl rfl)) (c_laws_szRing (Ty.lift _ (Ext.trans hE7 hS8.ext) r_aR_Table) (inL rfl) hx10) rfl ?_
  rintro _ wd12 ⟨rfl, hr11, he13⟩
  have hS15 := St.extend hS8 he13
  replace hS15 : St wd2 wd12 [] := hS15
  refine WL.val (Value.int .i64 x9) _ (op_assign rfl) rfl ?_
  refine WL.nil ?_
  refine W.seq (W.seq (W.region ?_))
  refine WL.val (Value.int .i64 x9) _ (op_move rfl) rfl ?_
  refine WL.val (Value.bool (decide (x9 < (0 : Int)))) _ (op_lss rfl rfl) rfl ?_
  refine WL.nil ?_
  refine W.cond (decide (x9 < (0 : Int))) rfl (fun hc16 => ?_) (fun hc16 => ?_)
  · replace h := ip h hc16
    refine W.seq (W.region ?_)
    refine WL.val (Value.bool true) _ (op_assign rfl) rfl ?_
    refine WL.nil ?_
    refine W.ret ?_
    obtain rfl := Option.some.inj h
    show FinP _ _ _ _ _ _ _
    exact FinP.ret _ (res1 rfl rfl) ⟨rfl, (Ext.trans hE7 hS15.ext)⟩
  · replace h := inegb h hc16
    refine W.skip ?_
    refine W.seq (W.region ?_)
    refine WL.val v_aGraph _ (op_move rfl) rfl ?_
    refine WL.val (Value.int .i64 x9) _ (op_move rfl) rfl ?_
    obtain ⟨x18, hx19, h⟩ := bs h
    refine WL.call _ (op_call fn_6 (args2 rfl rfl)) (c_laws_szInt64SS (Ty.lift _ (Ext.trans hE7 hS15.ext) r_aGraph) hr11 hx19) rfl ?_
    rintro _ wd21 ⟨rfl, hr20, he22⟩
    have hS24 := St.extend hS15 he22
    replace hS24 : St wd2 wd21 [] := hS24
    refine WL.val (Value.int .i64 x18) _ (op_assign rfl) rfl ?_
    refine WL.nil ?_
    refine W.seq (W.seq (W.region ?_))
    refine WL.val (Value.int .i64 x18) _ (op_move rfl) rfl ?_
    refine WL.val (Value.bool (decide (x18 < (0 : Int)))) _ (op_lss rfl rfl) rfl ?_
    refine WL.nil ?_
    refine W.cond (decide (x18 < (0 : Int))) rfl (fun hc25 => ?_) (fun hc25 => ?_)
    · replace h := ip h hc25
      refine W.seq (W.region ?_)
      refine WL.val (Value.bool true) _ (op_assign rfl) rfl ?_
      refine WL.nil ?_
      refine W.ret ?_
      obtain rfl := Option.some.inj h
      show FinP _ _ _ _ _ _ _
      exact FinP.ret _ (res1 rfl rfl) ⟨rfl, (Ext.trans hE7 hS24.ext)⟩
    · replace h := inegb h hc25
      refine W.skip ?_
      refine W.seq (W.region ?_)
      refine WL.val (Value.agg #[v_aR_Table]) _ (op_loadBox st_24 rfl (BoxAt.lift hS24.ext hx6) rfl rfl) rfl ?_
      obtain ⟨x27, hx28, h⟩ := bs h
      refine WL.call _ (op_call fn_8 (args1 rfl)) (c_laws_toRing (Ty.lift _ (Ext.trans hE7 hS24.ext) r_aR_Table) hx28) rfl ?_
      rintro _ wd30 ⟨u29, rfl, he31, hs32⟩
      have hS33 := St.join hS24 he31 hs32
      replace hS33 : St wd2 wd30 [(Ty.sl (Ty.sl (Ty.sl (Ty.i .i64)))).at u29 x27] := hS33
      have hb34 := St.rep (t := (Ty.sl (Ty.sl (Ty.sl (Ty.i .i64))))) hS33 0 rfl
      have hE35 : Ext w wd30 := (Ext.trans hE7 hS33.ext)
      have hE36 : Ext wd2 wd30 := hS33.ext
      have hS37 : St wd30 wd30 [] := St.start wd30
      refine WL.val v_aGraph _ (op_move rfl) rfl ?_
      obtain ⟨x38, hx39, h⟩ := bs h
      refine WL.call _ (op_call fn_9 (args1 rfl)) (c_laws_toInt64SS (Ty.lift _ (Ext.trans hE35 hS37.ext) r_aGraph) hx39) rfl ?_
      rintro u40 wd41 ⟨_, rfl, he42, hs43⟩
      have hS44 := St.join hS37 he42 hs43
      replace hS44 : St wd30 wd41 [(Ty.sl (Ty.sl (Ty.i .i64))).at u40 x38] := hS44
      have hb45 := St.rep (t := (Ty.sl (Ty.sl (Ty.i .i64)))) hS44 0 rfl
      have hE46 : Ext w wd41 := (Ext.trans hE35 hS44.ext)
      have hE47 : Ext wd2 wd41 := (Ext.trans hE36 hS44.ext)
      have hE48 : Ext wd30 wd41 := hS44.ext
      have hS49 : St wd41 wd41 [] := St.start wd41
      obtain ⟨x50, hx51, h⟩ := bs h
      refine WL.call _ (op_call fn_7 (args2 rfl rfl)) (c_spec_GraphDimension (Ty.lift _ (Ext.trans hE48 hS49.ext) hb34) (Ty.lift _ hS49.ext hb45) hx51) rfl ?_
      rintro _ wd54 ⟨rfl, hr52, hr53, he55⟩
      have hS57 := St.extend hS49 he55
      replace hS57 : St wd41 wd54 [] := hS57
      refine WL.val (Value.tuple #[(Value.int .i64 x50.1), (Value.int .i64 x50.2)]) _ (op_move rfl) rfl ?_
      refine WL.val (Value.int .i64 x50.1) _ (op_extract rfl rfl) rfl ?_
      refine WL.val (Value.int .i64 x50.2) _ (op_extract rfl rfl) rfl ?_
      refine WL.val (Value.int .i64 x50.1) _ (op_assign rfl) rfl ?_
      refine WL.val (Value.int .i64 x50.2) _ (op_assign rfl) rfl ?_
      refine WL.nil ?_
      refine W.seq (W.region ?_)
      refine WL.val (Value.agg #[v_aR_Table]) _ (op_loadBox st_24 rfl (BoxAt.lift (Ext.trans hE47 hS57.ext) hx6) rfl rfl) rfl ?_
      obtain ⟨x58, hx59, h⟩ := bs h
      refine WL.call _ (op_call fn_8 (args1 rfl)) (c_laws_toRing (Ty.lift _ (Ext.trans hE46 hS57.ext) r_aR_Table) hx59) rfl ?_
      rintro _ wd61 ⟨u60, rfl, he62, hs63⟩
      have hS64 := St.join hS57 he62 hs63
      replace hS64 : St wd41 wd61 [(Ty.sl (Ty.sl (Ty.sl (Ty.i .i64)))).at u60 x58] := hS64
      refine WL.alloc hS64 ze_30 (cs := [(Value.slice none 0 0)]) rfl rfl ?_
      intro b65 wd66 hS67 he68
      replace hS67 : St wd41 wd66 [(Ty.sl (Ty.sl (Ty.sl (Ty.i .i64)))).at u60 x58, bx b65 [(Value.slice none 0 0)]] := hS67
      refine WL.storeBox [u60] hS67 (k := 1) rfl rfl rfl (us := [u60]) rfl sz_30 rfl rfl (all_rep (St.rep (t := (Ty.sl (Ty.sl (Ty.sl (Ty.i .i64))))) hS67 0 rfl) all_nil) rfl ?_
      intro wd69 hS70
      replace hS70 : St wd41 wd69 [(Ty.sl (Ty.sl (Ty.sl (Ty.i .i64)))).at u60 x58, bx b65 [u60]] := hS70
      refine WL.nil ?_
      refine W.seq (W.region ?_)
      refine WL.val v_aGraph _ (op_move rfl) rfl ?_
      obtain ⟨x71, hx72, h⟩ := bs h
      refine WL.call _ (op_call fn_9 (args1 rfl)) (c_laws_toInt64SS (Ty.lift _ (Ext.trans hE46 hS70.ext) r_aGraph) hx72) rfl ?_
      rintro u73 wd74 ⟨_, rfl, he75, hs76⟩
      have hS77 := St.join hS70 he75 hs76
      replace hS77 : St wd41 wd74 [(Ty.sl (Ty.sl (Ty.sl (Ty.i .i64)))).at u60 x58, bx b65 [u60], (Ty.sl (Ty.sl (Ty.i .i64))).at u73 x71] := hS77
      refine WL.val u73 _ (op_assign rfl) rfl ?_
      refine WL.nil ?_
      refine W.seq (W.region ?_)
      refine WL.val (Value.agg #[u60]) _ (op_loadBox st_30 rfl (St.boxAt hS77 1 rfl) rfl rfl) rfl ?_
      refine WL.val u73 _ (op_move rfl) rfl ?_
      obtain ⟨x78, hx79, h⟩ := bs h
      refine WL.call _ (op_call fn_10 (args2 rfl rfl)) (c_impl_GraphDimension (St.rep (t := (Ty.sl (Ty.sl (Ty.sl (Ty.i .i64))))) hS77 0 rfl) (St.rep (t := (Ty.sl (Ty.sl (Ty.i .i64)))) hS77 2 rfl) hx79) rfl ?_
      rintro _ wd82 ⟨rfl, hr80, hr81, he83⟩
      have hS85 := St.extend hS77 he83
      replace hS85 : St wd41 wd82 [(Ty.sl (Ty.sl (Ty.sl (Ty.i .i64)))).at u60 x58, bx b65 [u60], (Ty.sl (Ty.sl (Ty.i .i64))).at u73 x71] := hS85
      refine WL.val (Value.tuple #[(Value.int .i64 x78.1), (Value.int .i64 x78.2)]) _ (op_move rfl) rfl ?_
      refine WL.val (Value.int .i64 x78.1) _ (op_extract rfl rfl) rfl ?_
      refine WL.val (Value.int .i64 x78.2) _ (op_extract rfl rfl) rfl ?_
      refine WL.val (Value.int .i64 x78.1) _ (op_assign rfl) rfl ?_
      refine WL.val (Value.int .i64 x78.2) _ (op_assign rfl) rfl ?_
      refine WL.nil ?_
      refine W.seq (W.seq (W.region ?_))
      refine WL.val (Value.int .i64 x78.1) _ (op_move rfl) rfl ?_
      refine WL.val (Value.int .i64 x50.1) _ (op_move rfl) rfl ?_
      refine WL.val (Value.bool (x78.1 != x50.1)) _ (op_neq rfl rfl) rfl ?_
      refine WL.val (Value.bool (x78.1 != x50.1)) _ (op_move rfl) rfl ?_
      refine WL.cut 4 (fun fq wq => fq 1 = v_aGraph ∧ fq 2 = (Value.pointer (some ⟨b1, 0, none⟩)) ∧ fq 8 = (Value.pointer (some ⟨b65, 0, none⟩)) ∧ fq 9 = u73 ∧ fq 47 = (Value.bool ((x78.1 != x50.1) || (x78.2 != x50.2))) ∧ St wd41 wq [(Ty.sl (Ty.sl (Ty.sl (Ty.i .i64)))).at u60 x58, bx b65 [u60], (Ty.sl (Ty.sl (Ty.i .i64))).at u73 x71]) ?_ ?_
      · rcases Bool.eq_false_or_eq_true (x78.1 != x50.1) with hc86 | hc86
        · refine WL.gskip rfl (bool_of rfl hc86) rfl ?_
          refine WL.gskip rfl (bool_of rfl hc86) rfl ?_
          refine WL.gskip rfl (bool_of rfl hc86) rfl ?_
          refine WL.val (Value.bool true) _ (op_pick_t (evb_of rfl hc86) rfl) rfl ?_
          refine WL.nil ?_
          exact ⟨rfl, rfl, rfl, rfl, rfl, (orT hc86), hS85⟩
        · refine WL.grun rfl (bool_of rfl hc86) ?_
          refine WL.val (Value.int .i64 x78.2) _ (op_move rfl) rfl ?_
          refine WL.grun rfl (bool_of rfl hc86) ?_
          refine WL.val (Value.int .i64 x50.2) _ (op_move rfl) rfl ?_
          refine WL.grun rfl (bool_of rfl hc86) ?_
          refine WL.val (Value.bool (x78.2 != x50.2)) _ (op_neq rfl rfl) rfl ?_
          refine WL.val (Value.bool (x78.2 != x50.2)) _ (op_pick_f (evb_of rfl hc86) rfl) rfl ?_
          refine WL.nil ?_
          exact ⟨rfl, rfl, rfl, rfl, rfl, (orF hc86), hS85⟩
      · intro f87 wd88 hq89
        obtain ⟨hf90, hf91, hf92, hf93, hf94, hS95⟩ := hq89
        refine WL.nil ?_
        refine W.cond ((x78.1 != x50.1) || (x78.2 != x50.2)) hf94 (fun hc96 => ?_) (fun hc96 => ?_)
        · replace h := ip h hc96
          refine W.seq (W.region ?_)
          refine WL.val (Value.bool false) _ (op_assign rfl) rfl ?_
          refine WL.nil ?_
          refine W.ret ?_
          obtain rfl := Option.some.inj h
          show FinP _ _ _ _ _ _ _
          exact FinP.ret _ (res1 rfl rfl) ⟨rfl, (Ext.trans hE46 hS95.ext)⟩
        · replace h := inegb h hc96
          refine W.skip ?_
          refine W.seq (W.seq ?_)
          obtain ⟨x122, hx123, h⟩ := bs h
          refine W.drawR mixo 3 [] [fun _ v S w' => v = (Value.agg #[u60]), fun _ v S w' => v = (Value.agg #[v_aR_Table]), fun _ v S w' => ∃ (uu0 : Value), v = (Value.agg #[uu0]) ∧ SepS S w' [(Ty.sl (Ty.sl (Ty.sl (Ty.i .i64)))).at uu0 x122]] (by kernel_rfl) (by kernel_rfl) ⟨pk, pk, ⟨fun _ _ _ _ _ he ⟨uu0, h0, r0⟩ => ⟨uu0, h0, SepS.extend he r0⟩, fun _ _ _ _ _ _ h => h⟩, trivial⟩ ⟨?_, ?_, ?_, trivial⟩ ?_
          · refine ObX.op rfl fun f98 wd99 he100 hout101 hphi102 => ?_
            have hS103 := St.extend hS95 he100
            have e104 : f98 8 = (Value.pointer (some ⟨b65, 0, none⟩)) := (hout101 8 rfl).trans hf92
            exact OpX.val (Value.agg #[u60]) wd99 rfl (op_loadBox st_30 e104 (St.boxAt hS103 1 rfl) rfl rfl) (Ext.refl _) rfl
          · refine ObX.op rfl fun f105 wd106 he107 hout108 hphi109 => ?_
            have hS110 := St.extend hS95 he107
            have e111 : f105 2 = (Value.pointer (some ⟨b1, 0, none⟩)) := (hout108 2 rfl).trans hf91
            exact OpX.val (Value.agg #[v_aR_Table]) wd106 rfl (op_loadBox st_24 e111 (BoxAt.lift (Ext.trans hE47 hS110.ext) hx6) rfl rfl) (Ext.refl _) rfl
          · refine ObX.op rfl fun f112 wd113 he114 hout115 hphi116 => ?_
            have hS117 := St.extend hS95 he114
            obtain ⟨S118, hS119, hf120⟩ := hphi116 1 49 _ rfl rfl rfl
            have e121 : f112 49 = (Value.agg #[v_aR_Table]) := hf120
            refine OpX.call rfl (op_call fn_8 (args1 e121)) (Ret.mono (c_laws_toRing (Ty.lift _ (Ext.trans hE46 hS117.ext) r_aR_Table) hx123) ?_)
            rintro _ wd125 ⟨u124, rfl, he126, hs127⟩
            exact ⟨he126, _, newS _ _, ⟨u124, rfl, (Sep.new hs127)⟩⟩
          · intro f128 wd129 Ss130 he131 hout132 hSn133 hSd134 hphi135
            show WL _ _ _ _ _ _ _
            have e137 : f128 48 = (Value.agg #[u60]) := hphi135 0 48 _ (by decide) rfl rfl
            obtain ⟨u139, e138, e138s⟩ := hphi135 2 50 _ (by decide) rfl rfl
            have e140 : f128 1 = v_aGraph := (hout132 1 rfl).trans hf90
            have e141 : f128 9 = u73 := (hout132 9 rfl).trans hf93
            have hS142 := St.joinS hS95 he131 hSn133 (SepS.consS hSd134 rfl e138s SepS.nilS)
            replace hS142 : St wd41 wd129 [(Ty.sl (Ty.sl (Ty.sl (Ty.i .i64)))).at u60 x58, bx b65 [u60], (Ty.sl (Ty.sl (Ty.i .i64))).at u73 x71, (Ty.sl (Ty.sl (Ty.sl (Ty.i .i64)))).at u139 x122] := hS142
            obtain ⟨x143, hx144, h⟩ := bs h
            refine WL.call _ (op_call fn_11 (args2 e137 e138)) (c_laws_eqRing (St.rep (t := (Ty.sl (Ty.sl (Ty.sl (Ty.i .i64))))) hS142 0 rfl) (St.rep (t := (Ty.sl (Ty.sl (Ty.sl (Ty.i .i64))))) hS142 3 rfl) hx144) rfl ?_
            rintro _ wd145 ⟨rfl, he146⟩
            have hS148 := St.extend hS142 he146
            replace hS148 : St wd41 wd145 [(Ty.sl (Ty.sl (Ty.sl (Ty.i .i64)))).at u60 x58, bx b65 [u60], (Ty.sl (Ty.sl (Ty.i .i64))).at u73 x71, (Ty.sl (Ty.sl (Ty.sl (Ty.i .i64)))).at u139 x122] := hS148
            refine WL.val (Value.bool (!x143)) _ (op_not rfl) rfl ?_
            refine WL.nil ?_
            refine W.cond (!x143) rfl (fun hc149 => ?_) (fun hc149 => ?_)
            · replace h := ip h hc149
              refine W.seq (W.region ?_)
              refine WL.val (Value.bool false) _ (op_assign rfl) rfl ?_
              refine WL.nil ?_
              refine W.ret ?_
              obtain rfl := Option.some.inj h
              show FinP _ _ _ _ _ _ _
              exact FinP.ret _ (res1 rfl rfl) ⟨rfl, (Ext.trans hE46 hS148.ext)⟩
            · replace h := inegb h hc149
              refine W.skip ?_
              refine W.seq (W.seq (W.region ?_))
              refine WL.val u73 _ (op_move e141) rfl ?_
              refine WL.val v_aGraph _ (op_move e140) rfl ?_
              obtain ⟨x151, hx152, h⟩ := bs h
              refine WL.call _ (op_call fn_9 (args1 rfl)) (c_laws_toInt64SS (Ty.lift _ (Ext.trans hE46 hS148.ext) r_aGraph) hx152) rfl ?_
              rintro u153 wd154 ⟨_, rfl, he155, hs156⟩
              have hS157 := St.join hS148 he155 hs156
              replace hS157 : St wd41 wd154 [(Ty.sl (Ty.sl (Ty.sl (Ty.i .i64)))).at u60 x58, bx b65 [u60], (Ty.sl (Ty.sl (Ty.i .i64))).at u73 x71, (Ty.sl (Ty.sl (Ty.sl (Ty.i .i64)))).at u139 x122, (Ty.sl (Ty.sl (Ty.i .i64))).at u153 x151] := hS157
              obtain ⟨x158, hx159, h⟩ := bs h
              refine WL.call _ (op_call fn_12 (args2 rfl rfl)) (c_laws_eqInt64SS (St.rep (t := (Ty.sl (Ty.sl (Ty.i .i64)))) hS157 2 rfl) (St.rep (t := (Ty.sl (Ty.sl (Ty.i .i64)))) hS157 4 rfl) hx159) rfl ?_
              rintro _ wd160 ⟨rfl, he161⟩
              have hS163 := St.extend hS157 he161
              replace hS163 : St wd41 wd160 [(Ty.sl (Ty.sl (Ty.sl (Ty.i .i64)))).at u60 x58, bx b65 [u60], (Ty.sl (Ty.sl (Ty.i .i64))).at u73 x71, (Ty.sl (Ty.sl (Ty.sl (Ty.i .i64)))).at u139 x122, (Ty.sl (Ty.sl (Ty.i .i64))).at u153 x151] := hS163
              refine WL.val (Value.bool (!x158)) _ (op_not rfl) rfl ?_
              refine WL.nil ?_
              refine W.cond (!x158) rfl (fun hc164 => ?_) (fun hc164 => ?_)
              · replace h := ip h hc164
                refine W.seq (W.region ?_)
                refine WL.val (Value.bool false) _ (op_assign rfl) rfl ?_
                refine WL.nil ?_
                refine W.ret ?_
                obtain rfl := Option.some.inj h
                show FinP _ _ _ _ _ _ _
                exact FinP.ret _ (res1 rfl rfl) ⟨rfl, (Ext.trans hE46 hS163.ext)⟩
              · replace h := inegb h hc164
                refine W.skip ?_
                refine W.seq (W.region ?_)
                refine WL.val (Value.bool true) _ (op_assign rfl) rfl ?_
                refine WL.nil ?_
                refine W.ret ?_
                obtain rfl := Option.some.inj h
                show FinP _ _ _ _ _ _ _
                exact FinP.ret _ (res1 rfl rfl) ⟨rfl, (Ext.trans hE46 hS163.ext)⟩

end Go.VG
