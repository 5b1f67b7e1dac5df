/- The walks, part 4: each Go function returns what its plain twin returns. No condition beyond what each names. -/
import Derived.Test.YtogakilgdpinlaaGWalk3
set_option linter.all false
namespace Go.VG
open Go.Proofs
attribute [local irreducible] W WL Sep FinP

theorem c_impl_toldRing {w : World} {table : (List (List Int))} {v_table : Value} {dual : (List Int)} {v_dual : Value} (r_table : (Ty.sl (Ty.sl (Ty.i .i64))).rep w v_table table) (r_dual : (Ty.sl (Ty.i .i64)).rep w v_dual dual) {res : (List (List (List Int))) × Bool} (h : p_impl_toldRing table dual  = some res) :
    Ret Try.prog 64 #[v_table, v_dual] w (fun v w' => ∃ (u0 : Value), v = (Value.tuple #[(Value.agg #[u0]), Value.bool res.2]) ∧ Ext w w' ∧ Sep w.heap.size w' [(Ty.sl (Ty.sl (Ty.sl (Ty.i .i64)))).at u0 res.1]) := by
  unfold p_impl_toldRing at h
  have hS0 : St w w [] := St.start w
  refine Ret.start (fn := Try.f64) Try.func64 rfl 108 rfl rfl ?_
  refine W.seq (W.region ?_)
  refine WL.alloc hS0 ze_29 (cs := [(Value.slice none 0 0)]) rfl rfl ?_
  intro b1 wd2 hS3 he4
  replace hS3 : St w wd2 [bx b1 [(Value.slice none 0 0)]] := hS3
  refine WL.val (Value.bool false) _ (op_assign rfl) rfl ?_
  refine WL.nil ?_
  refine W.seq (W.region ?_)
  refine WL.val v_table _ (op_move rfl) rfl ?_
  have hr5 := inR_len (Ty.lift _ hS3.ext r_table)
  refine WL.val (Value.int .i64 ((table).length : Int)) _ (op_lenL sl_43 (Ty.lift _ hS3.ext r_table) rfl) rfl ?_
  refine WL.lit0 (t := (Ty.i .i64)) hS3 sl_25 rfl rfl ?_
  intro u6 wd7 hS8 he9
  replace hS8 : St w wd7 [bx b1 [(Value.slice none 0 0)], (Ty.sl (Ty.i .i64)).at u6 ([] : (List Int))] := hS8
  refine WL.val (Value.int .i64 ((table).length : Int)) _ (op_assign rfl) rfl ?_
  refine WL.val u6 _ (op_assign rfl) rfl ?_
  refine WL.nil ?_
  refine W.seq (W.seq (W.region ?_))
  refine WL.val v_table _ (op_move rfl) rfl ?_
  have hr10 := inR_len (Ty.lift _ hS8.ext r_table)
  refine WL.val (Value.int .i64 ((table).length : Int)) _ (op_lenL sl_43 (Ty.lift _ hS8.ext r_table) rfl) rfl ?_
  refine WL.val (Value.int .i64 (0 : Int)) _ (op_move rfl) rfl ?_
  refine WL.nil ?_
  show W _ _ _ _ _ _
  obtain ⟨res11, hres12, h⟩ := bs h
  refine W.blockLoop (fun fq wq => ∃ s, res11 = Res.fin s ∧ ∃ (uu0 : Value), fq 0 = v_table ∧ fq 1 = v_dual ∧ fq 4 = (Value.pointer (some ⟨b1, 0, none⟩)) ∧ fq 6 = (Value.int .i64 ((table).length : Int)) ∧ fq 7 = uu0 ∧ St w wq [bx b1 [(Value.slice none 0 0)], (Ty.sl (Ty.i .i64)).at uu0 s]) ?_ ?_
  · refine W.forN (fun k (s : (List Int)) fq wq => ∃ (uu0 : Value), fq 0 = v_table ∧ fq 1 = v_dual ∧ fq 4 = (Value.pointer (some ⟨b1, 0, none⟩)) ∧ fq 6 = (Value.int .i64 ((table).length : Int)) ∧ fq 7 = uu0 ∧ fq 21 = v_table ∧ fq 22 = (Value.int .i64 ((table).length : Int)) ∧ fq 23 = Value.int .i64 (k : Int) ∧ InR .i64 (k : Int) ∧ St w wq [bx b1 [(Value.slice none 0 0)], (Ty.sl (Ty.i .i64)).at uu0 s]) hres12 ⟨u6, rfl, rfl, rfl, rfl, rfl, rfl, rfl, rfl, (inL rfl), hS8⟩ ?_ ?_
    · intro k13 x14 ct15 f16 wd17 hk18 hb19 hI20 hbrk21 hret22
      replace hI20 : ∃ (uu0 : Value), f16 0 = v_table ∧ f16 1 = v_dual ∧ f16 4 = (Value.pointer (some ⟨b1, 0, none⟩)) ∧ f16 6 = (Value.int .i64 ((table).length : Int)) ∧ f16 7 = uu0 ∧ f16 21 = v_table ∧ f16 22 = (Value.int .i64 ((table).length : Int)) ∧ f16 23 = Value.int .i64 (k13 : Int) ∧ InR .i64 (k13 : Int) ∧ St w wd17 [bx b1 [(Value.slice none 0 0)], (Ty.sl (Ty.i .i64)).at uu0 x14] := hI20
      replace hb19 : p_impl_toldRing_L1 table dual k13 x14 = some ct15 := hb19
      unfold p_impl_toldRing_L1 at hb19
      obtain ⟨u23, hf24, hf25, hf26, hf27, hf28, hf29, hf30, hf31, hr32, hS33⟩ := hI20
      refine W.seq (W.region ?_)
      refine WL.val (Value.bool (decide ((k13 : Int) < ((table).length : Int)))) _ (op_lss hf31 hf30) rfl ?_
      have hl34 : (k13 : Int) < ((table).length : Int) := by omega
      refine WL.nil ?_
      refine W.seq ?_
      refine W.condT (decide ((k13 : Int) < ((table).length : Int))) rfl (decide_eq_true hl34) ?_
      refine W.skip ?_
      refine W.seq ?_
      refine W.block ?_
      refine W.seq (W.region ?_)
      obtain ⟨x36, hx39, hb19⟩ := bs hb19
      obtain ⟨ha37, hb38, hx39⟩ := idx_some hx39
      refine WL.val (Value.pointer (some (elA v_table ((k13 : Int)).toNat))) _ (op_idx sl_43 (Ty.lift _ hS33.ext r_table) hf29 hf31 ha37 hb38) rfl ?_
      obtain ⟨u40, hc41, hr42⟩ := repSl.el r_table hx39
      refine WL.val u40 _ (op_load one_25 rfl (Ext.cell hS33.ext hc41)) rfl ?_
      refine WL.val u40 _ (op_assign rfl) rfl ?_
      refine WL.nil ?_
      refine W.seq (W.region ?_)
      refine WL.val u40 _ (op_move rfl) rfl ?_
      refine WL.val v_dual _ (op_move hf25) rfl ?_
      refine WL.val u40 _ (op_move rfl) rfl ?_
      obtain ⟨x43, hx44, hb19⟩ := bs hb19
      refine WL.call _ (op_call fn_53 (args2 rfl rfl)) (c_impl_turnList (Ty.lift _ hS33.ext r_dual) (Ty.lift _ hS33.ext hr42) hx44) rfl ?_
      rintro u45 wd46 ⟨_, rfl, he47, hs48⟩
      have hS49 := St.join hS33 he47 hs48
      replace hS49 : St w wd46 [bx b1 [(Value.slice none 0 0)], (Ty.sl (Ty.i .i64)).at u23 x14, (Ty.sl (Ty.i .i64)).at u45 x43] := hS49
      obtain ⟨x50, hx51, hb19⟩ := bs hb19
      refine WL.call _ (op_call fn_48 (args2 rfl rfl)) (c_impl_dot (Ty.lift _ hS49.ext hr42) (St.rep (t := (Ty.sl (Ty.i .i64))) hS49 2 rfl) hx51) rfl ?_
      rintro _ wd53 ⟨rfl, hr52, he54⟩
      have hS56 := St.extend hS49 he54
      replace hS56 : St w wd53 [bx b1 [(Value.slice none 0 0)], (Ty.sl (Ty.i .i64)).at u23 x14, (Ty.sl (Ty.i .i64)).at u45 x43] := hS56
      refine WL.val (Value.int .i64 x50) _ (op_assign rfl) rfl ?_
      refine WL.nil ?_
      refine W.seq (W.seq (W.region ?_))
      refine WL.val (Value.int .i64 x50) _ (op_move rfl) rfl ?_
      refine WL.val (Value.bool (x50 == (0 : Int))) _ (op_eql rfl rfl) rfl ?_
      refine WL.nil ?_
      refine W.cond (x50 == (0 : Int)) rfl (fun hc57 => ?_) (fun hc57 => ?_)
      · replace hb19 := ip hb19 hc57
        refine W.seq (W.region ?_)
        refine WL.val (Value.agg #[(Value.slice none 0 0)]) _ (op_build bd_29 (parts := []) (partsL trivial) trivial rfl) rfl ?_
        have hS61 := St.addNil (Ty.sl (Ty.sl (Ty.i .i64))) hS56
        replace hS61 : St w wd53 [bx b1 [(Value.slice none 0 0)], (Ty.sl (Ty.i .i64)).at u23 x14, (Ty.sl (Ty.i .i64)).at u45 x43, (Ty.sl (Ty.sl (Ty.sl (Ty.i .i64)))).at (Value.slice none 0 0) ([] : (List (List (List Int))))] := hS61
        refine WL.storeBox [(Value.slice none 0 0)] hS61 (k := 0) rfl hf26 rfl (us := [(Value.slice none 0 0)]) rfl sz_29 rfl rfl (all_rep (St.rep (t := (Ty.sl (Ty.sl (Ty.sl (Ty.i .i64))))) hS61 3 rfl) all_nil) rfl ?_
        intro wd59 hS60
        replace hS60 : St w wd59 [bx b1 [(Value.slice none 0 0)], (Ty.sl (Ty.i .i64)).at u23 x14, (Ty.sl (Ty.i .i64)).at u45 x43, (Ty.sl (Ty.sl (Ty.sl (Ty.i .i64)))).at (Value.slice none 0 0) ([] : (List (List (List Int))))] := hS60
        refine WL.val (Value.bool false) _ (op_assign rfl) rfl ?_
        refine WL.nil ?_
        refine W.ret ?_
        obtain rfl := Option.some.inj hb19
        obtain rfl := hret22 _ rfl
        replace h := onRes_ret h
        obtain rfl := Option.some.inj h
        show FinP _ _ _ _ _ _ _
        exact FinP.ret _ (resCT rfl hf26 st_29 (St.boxAt hS60 0 rfl) rfl rfl) ⟨(Value.slice none 0 0), rfl, hS60.ext, (St.out (St.pick hS60 [3] rfl) (Ext.refl _))⟩
      · replace hb19 := inegb hb19 hc57
        refine W.skip ?_
        show W _ _ _ _ _ _
        refine W.region ?_
        refine WL.val u23 _ (op_move hf28) rfl ?_
        refine WL.val (Value.int .i64 x50) _ (op_move rfl) rfl ?_
        obtain ⟨x62, hx63, hb19⟩ := bs hb19
        refine WL.call _ (op_call fn_84 (args2 rfl rfl)) (c_impl_divide (inL rfl) hr52 hx63) rfl ?_
        rintro _ wd65 ⟨rfl, hr64, he66⟩
        have hS68 := St.extend hS56 he66
        replace hS68 : St w wd65 [bx b1 [(Value.slice none 0 0)], (Ty.sl (Ty.i .i64)).at u23 x14, (Ty.sl (Ty.i .i64)).at u45 x43] := hS68
        refine WL.litFlat (t := (Ty.i .i64)) (flat_i .i64) [(Value.int .i64 x62)] [x62] hS68 sl_25 rfl rfl (fillL rfl ⟨rfl, rfl, rfl, trivial⟩) rfl rfl (litL ⟨⟨rfl, hr64⟩, trivial⟩) rfl ?_
        intro u69 wd70 hS71 he72
        replace hS71 : St w wd70 [bx b1 [(Value.slice none 0 0)], (Ty.sl (Ty.i .i64)).at u23 x14, (Ty.sl (Ty.i .i64)).at u45 x43, (Ty.sl (Ty.i .i64)).at u69 ([x62] : (List Int))] := hS71
        obtain ⟨x73, hx74, hb19⟩ := bs hb19
        refine WL.append (flat_i .i64) hS71 (k := 1) rfl sl_25 rfl rfl rfl rfl (St.rep (t := (Ty.sl (Ty.i .i64))) hS71 3 rfl) hx74 rfl ?_
        intro u75 wd76 hS77 hz78
        replace hS77 : St w wd76 [bx b1 [(Value.slice none 0 0)], (Ty.sl (Ty.i .i64)).at u75 x73, (Ty.sl (Ty.i .i64)).at u45 x43, (Ty.sl (Ty.i .i64)).at u69 ([x62] : (List Int))] := hS77
        refine WL.val u75 _ (op_assign rfl) rfl ?_
        refine WL.nil ?_
        show W _ _ _ _ _ _
        refine W.region ?_
        refine WL.val (Value.int .i64 (w64 ((k13 : Int) + (1 : Int)))) _ (op_add hf31 rfl) rfl ?_
        refine WL.val (Value.int .i64 (w64 ((k13 : Int) + (1 : Int)))) _ (op_move rfl) rfl ?_
        refine WL.nil ?_
        obtain rfl := Option.some.inj hb19
        show ∃ s, _ = Ctl.next s ∧ _
        exact ⟨_, rfl, u75, hf24, hf25, hf26, hf27, rfl, hf29, hf30, (ctr_next hl34 hr10), (ctr_rng hl34 hr10), (St.pick hS77 [0, 1] rfl)⟩
    · intro x85 f80 wd81 hs82 hI83
      replace hI83 : ∃ (uu0 : Value), f80 0 = v_table ∧ f80 1 = v_dual ∧ f80 4 = (Value.pointer (some ⟨b1, 0, none⟩)) ∧ f80 6 = (Value.int .i64 ((table).length : Int)) ∧ f80 7 = uu0 ∧ f80 21 = v_table ∧ f80 22 = (Value.int .i64 ((table).length : Int)) ∧ f80 23 = Value.int .i64 (((table).length : Nat) : Int) ∧ InR .i64 (((table).length : Nat) : Int) ∧ St w wd81 [bx b1 [(Value.slice none 0 0)], (Ty.sl (Ty.i .i64)).at uu0 x85] := hI83
      obtain ⟨u86, hf87, hf88, hf89, hf90, hf91, hf92, hf93, hf94, hr95, hS96⟩ := hI83
      refine W.seq (W.region ?_)
      refine WL.val (Value.bool (decide ((((table).length : Nat) : Int) < ((table).length : Int)))) _ (op_lss hf94 hf93) rfl ?_
      have hl97 : ¬ (((table).length : Nat) : Int) < ((table).length : Int) := by omega
      refine WL.nil ?_
      refine W.seq ?_
      refine W.condF (decide ((((table).length : Nat) : Int) < ((table).length : Int))) rfl (decide_eq_false hl97) ?_
      refine W.exit ?_
      show _ = _ ∧ _
      exact ⟨rfl, _, hs82, u86, hf87, hf88, hf89, hf90, hf91, hS96⟩
  · rintro f98 wd99 ⟨x102, rfl, hq100⟩
    replace h := onRes_fin h
    replace hq100 : ∃ (uu0 : Value), f98 0 = v_table ∧ f98 1 = v_dual ∧ f98 4 = (Value.pointer (some ⟨b1, 0, none⟩)) ∧ f98 6 = (Value.int .i64 ((table).length : Int)) ∧ f98 7 = uu0 ∧ St w wd99 [bx b1 [(Value.slice none 0 0)], (Ty.sl (Ty.i .i64)).at uu0 x102] := hq100
    obtain ⟨u103, hf104, hf105, hf106, hf107, hf108, hS109⟩ := hq100
    refine W.seq (W.region ?_)
    refine WL.val (Value.int .i64 ((table).length : Int)) _ (op_move hf107) rfl ?_
    obtain ⟨x110, hx111, h⟩ := bs h
    refine WL.call _ (op_call fn_85 (args1 rfl)) (c_impl_emptyCube hr5 hx111) rfl ?_
    rintro _ wd113 ⟨u112, rfl, he114, hs115⟩
    have hS116 := St.join hS109 he114 hs115
    replace hS116 : St w wd113 [bx b1 [(Value.slice none 0 0)], (Ty.sl (Ty.i .i64)).at u103 x102, (Ty.sl (Ty.sl (Ty.sl (Ty.i .i64)))).at u112 x110] := hS116
    refine WL.alloc hS116 ze_29 (cs := [(Value.slice none 0 0)]) rfl rfl ?_
    intro b117 wd118 hS119 he120
    replace hS119 : St w wd118 [bx b1 [(Value.slice none 0 0)], (Ty.sl (Ty.i .i64)).at u103 x102, (Ty.sl (Ty.sl (Ty.sl (Ty.i .i64)))).at u112 x110, bx b117 [(Value.slice none 0 0)]] := hS119
    refine WL.storeBox [u112] hS119 (k := 3) rfl rfl rfl (us := [u112]) rfl sz_29 rfl rfl (all_rep (St.rep (t := (Ty.sl (Ty.sl (Ty.sl (Ty.i .i64))))) hS119 2 rfl) all_nil) rfl ?_
    intro wd121 hS122
    replace hS122 : St w wd121 [bx b1 [(Value.slice none 0 0)], (Ty.sl (Ty.i .i64)).at u103 x102, (Ty.sl (Ty.sl (Ty.sl (Ty.i .i64)))).at u112 x110, bx b117 [u112]] := hS122
    refine WL.nil ?_
    refine W.seq (W.seq (W.region ?_))
    refine WL.val (Value.int .i64 ((table).length : Int)) _ (op_move hf107) rfl ?_
    refine WL.val (Value.int .i64 (0 : Int)) _ (op_move rfl) rfl ?_
    refine WL.nil ?_
    show W _ _ _ _ _ _
    obtain ⟨res123, hres124, h⟩ := bs h
    refine W.blockLoop (fun fq wq => ∃ s, res123 = Res.fin s ∧ fq 4 = (Value.pointer (some ⟨b1, 0, none⟩)) ∧ fq 11 = (Value.pointer (some ⟨b117, 0, none⟩)) ∧ St w wq [bx b1 [(Value.slice none 0 0)], (Ty.sl (Ty.sl (Ty.sl (Ty.i .i64)))).at u112 s, bx b117 [u112]]) ?_ ?_
    · refine W.forN (fun k (s : (List (List (List Int)))) fq wq => fq 0 = v_table ∧ fq 1 = v_dual ∧ fq 4 = (Value.pointer (some ⟨b1, 0, none⟩)) ∧ fq 6 = (Value.int .i64 ((table).length : Int)) ∧ fq 7 = u103 ∧ fq 11 = (Value.pointer (some ⟨b117, 0, none⟩)) ∧ fq 43 = (Value.int .i64 ((table).length : Int)) ∧ fq 44 = Value.int .i64 (k : Int) ∧ InR .i64 (k : Int) ∧ St w wq [bx b1 [(Value.slice none 0 0)], (Ty.sl (Ty.i .i64)).at u103 x102, (Ty.sl (Ty.sl (Ty.sl (Ty.i .i64)))).at u112 s, bx b117 [u112]]) hres124 ⟨hf104, hf105, hf106, hf107, hf108, rfl, rfl, rfl, (inL rfl), hS122⟩ ?_ ?_
      · intro k125 x126 ct127 f128 wd129 hk130 hb131 hI132 hbrk133 hret134
        replace hI132 : f128 0 = v_table ∧ f128 1 = v_dual ∧ f128 4 = (Value.pointer (some ⟨b1, 0, none⟩)) ∧ f128 6 = (Value.int .i64 ((table).length : Int)) ∧ f128 7 = u103 ∧ f128 11 = (Value.pointer (some ⟨b117, 0, none⟩)) ∧ f128 43 = (Value.int .i64 ((table).length : Int)) ∧ f128 44 = Value.int .i64 (k125 : Int) ∧ InR .i64 (k125 : Int) ∧ St w wd129 [bx b1 [(Value.slice none 0 0)], (Ty.sl (Ty.i .i64)).at u103 x102, (Ty.sl (Ty.sl (Ty.sl (Ty.i .i64)))).at u112 x126, bx b117 [u112]] := hI132
        replace hb131 : p_impl_toldRing_L2 table dual x102 k125 x126 = some ct127 := hb131
        unfold p_impl_toldRing_L2 at hb131
        obtain ⟨hf135, hf136, hf137, hf138, hf139, hf140, hf141, hf142, hr143, hS144⟩ := hI132
        refine W.seq (W.region ?_)
        refine WL.val (Value.bool (decide ((k125 : Int) < ((table).length : Int)))) _ (op_lss hf142 hf141) rfl ?_
        have hl145 : (k125 : Int) < ((table).length : Int) := by omega
        refine WL.nil ?_
        refine W.seq ?_
        refine W.condT (decide ((k125 : Int) < ((table).length : Int))) rfl (decide_eq_true hl145) ?_
        refine W.skip ?_
        refine W.seq ?_
        refine W.block ?_
        refine W.seq (W.region ?_)
        refine WL.val (Value.int .i64 (k125 : Int)) _ (op_move hf142) rfl ?_
        refine WL.val (Value.int .i64 (k125 : Int)) _ (op_assign rfl) rfl ?_
        refine WL.nil ?_
        refine W.seq (W.region ?_)
        refine WL.val (Value.int .i64 ((table).length : Int)) _ (op_move hf138) rfl ?_
        refine WL.val (Value.int .i64 (0 : Int)) _ (op_move rfl) rfl ?_
        refine WL.nil ?_
        show W _ _ _ _ _ _
        obtain ⟨res147, hres148, hb131⟩ := bs hb131
        refine W.blockLoop (fun fq wq => ∃ s, res147 = Res.fin s ∧ fq 0 = v_table ∧ fq 1 = v_dual ∧ fq 4 = (Value.pointer (some ⟨b1, 0, none⟩)) ∧ fq 6 = (Value.int .i64 ((table).length : Int)) ∧ fq 7 = u103 ∧ fq 11 = (Value.pointer (some ⟨b117, 0, none⟩)) ∧ fq 43 = (Value.int .i64 ((table).length : Int)) ∧ fq 44 = (Value.int .i64 (k125 : Int)) ∧ St w wq [bx b1 [(Value.slice none 0 0)], (Ty.sl (Ty.i .i64)).at u103 x102, (Ty.sl (Ty.sl (Ty.sl (Ty.i .i64)))).at u112 s, bx b117 [u112]]) ?_ ?_
        · refine W.forN (fun k (s : (List (List (List Int)))) fq wq => fq 0 = v_table ∧ fq 1 = v_dual ∧ fq 4 = (Value.pointer (some ⟨b1, 0, none⟩)) ∧ fq 6 = (Value.int .i64 ((table).length : Int)) ∧ fq 7 = u103 ∧ fq 11 = (Value.pointer (some ⟨b117, 0, none⟩)) ∧ fq 12 = (Value.int .i64 (k125 : Int)) ∧ fq 43 = (Value.int .i64 ((table).length : Int)) ∧ fq 44 = (Value.int .i64 (k125 : Int)) ∧ fq 47 = (Value.int .i64 ((table).length : Int)) ∧ fq 48 = Value.int .i64 (k : Int) ∧ InR .i64 (k : Int) ∧ St w wq [bx b1 [(Value.slice none 0 0)], (Ty.sl (Ty.i .i64)).at u103 x102, (Ty.sl (Ty.sl (Ty.sl (Ty.i .i64)))).at u112 s, bx b117 [u112]]) hres148 ⟨hf135, hf136, hf137, hf138, hf139, hf140, rfl, hf141, hf142, rfl, rfl, (inL rfl), hS144⟩ ?_ ?_
          · intro k149 x150 ct151 f152 wd153 hk154 hb155 hI156 hbrk157 hret158
            replace hI156 : f152 0 = v_table ∧ f152 1 = v_dual ∧ f152 4 = (Value.pointer (some ⟨b1, 0, none⟩)) ∧ f152 6 = (Value.int .i64 ((table).length : Int)) ∧ f152 7 = u103 ∧ f152 11 = (Value.pointer (some ⟨b117, 0, none⟩)) ∧ f152 12 = (Value.int .i64 (k125 : Int)) ∧ f152 43 = (Value.int .i64 ((table).length : Int)) ∧ f152 44 = (Value.int .i64 (k125 : Int)) ∧ f152 47 = (Value.int .i64 ((table).length : Int)) ∧ f152 48 = Value.int .i64 (k149 : Int) ∧ InR .i64 (k149 : Int) ∧ St w wd153 [bx b1 [(Value.slice none 0 0)], (Ty.sl (Ty.i .i64)).at u103 x102, (Ty.sl (Ty.sl (Ty.sl (Ty.i .i64)))).at u112 x150, bx b117 [u112]] := hI156
            replace hb155 : p_impl_toldRing_L3 table k125 dual x102 k149 x150 = some ct151 := hb155
            unfold p_impl_toldRing_L3 at hb155
            obtain ⟨hf159, hf160, hf161, hf162, hf163, hf164, hf165, hf166, hf167, hf168, hf169, hr170, hS171⟩ := hI156
            refine W.seq (W.region ?_)
            refine WL.val (Value.bool (decide ((k149 : Int) < ((table).length : Int)))) _ (op_lss hf169 hf168) rfl ?_
            have hl172 : (k149 : Int) < ((table).length : Int) := by omega
            refine WL.nil ?_
            refine W.seq ?_
            refine W.condT (decide ((k149 : Int) < ((table).length : Int))) rfl (decide_eq_true hl172) ?_
            refine W.skip ?_
            refine W.seq ?_
            refine W.block ?_
            refine W.seq (W.region ?_)
            refine WL.val (Value.int .i64 (k149 : Int)) _ (op_move hf169) rfl ?_
            refine WL.val (Value.int .i64 (k149 : Int)) _ (op_assign rfl) rfl ?_
            refine WL.nil ?_
            refine W.seq (W.region ?_)
            refine WL.val (Value.int .i64 ((table).length : Int)) _ (op_move hf162) rfl ?_
            refine WL.val (Value.int .i64 (0 : Int)) _ (op_move rfl) rfl ?_
            refine WL.nil ?_
            show W _ _ _ _ _ _
            obtain ⟨res174, hres175, hb155⟩ := bs hb155
            refine W.blockLoop (fun fq wq => ∃ s, res174 = Res.fin s ∧ fq 0 = v_table ∧ fq 1 = v_dual ∧ fq 4 = (Value.pointer (some ⟨b1, 0, none⟩)) ∧ fq 6 = (Value.int .i64 ((table).length : Int)) ∧ fq 7 = u103 ∧ fq 11 = (Value.pointer (some ⟨b117, 0, none⟩)) ∧ fq 12 = (Value.int .i64 (k125 : Int)) ∧ fq 43 = (Value.int .i64 ((table).length : Int)) ∧ fq 44 = (Value.int .i64 (k125 : Int)) ∧ fq 47 = (Value.int .i64 ((table).length : Int)) ∧ fq 48 = (Value.int .i64 (k149 : Int)) ∧ St w wq [bx b1 [(Value.slice none 0 0)], (Ty.sl (Ty.i .i64)).at u103 x102, (Ty.sl (Ty.sl (Ty.sl (Ty.i .i64)))).at u112 s, bx b117 [u112]]) ?_ ?_
            · refine W.forN (fun k (s : (List (List (List Int)))) fq wq => fq 0 = v_table ∧ fq 1 = v_dual ∧ fq 4 = (Value.pointer (some ⟨b1, 0, none⟩)) ∧ fq 6 = (Value.int .i64 ((table).length : Int)) ∧ fq 7 = u103 ∧ fq 11 = (Value.pointer (some ⟨b117, 0, none⟩)) ∧ fq 12 = (Value.int .i64 (k125 : Int)) ∧ fq 13 = (Value.int .i64 (k149 : Int)) ∧ fq 43 = (Value.int .i64 ((table).length : Int)) ∧ fq 44 = (Value.int .i64 (k125 : Int)) ∧ fq 47 = (Value.int .i64 ((table).length : Int)) ∧ fq 48 = (Value.int .i64 (k149 : Int)) ∧ fq 51 = (Value.int .i64 ((table).length : Int)) ∧ fq 52 = Value.int .i64 (k : Int) ∧ InR .i64 (k : Int) ∧ St w wq [bx b1 [(Value.slice none 0 0)], (Ty.sl (Ty.i .i64)).at u103 x102, (Ty.sl (Ty.sl (Ty.sl (Ty.i .i64)))).at u112 s, bx b117 [u112]]) hres175 ⟨hf159, hf160, hf161, hf162, hf163, hf164, hf165, rfl, hf166, hf167, hf168, hf169, rfl, rfl, (inL rfl), hS171⟩ ?_ ?_
              · intro k176 x177 ct178 f179 wd180 hk181 hb182 hI183 hbrk184 hret185
                replace hI183 : f179 0 = v_table ∧ f179 1 = v_dual ∧ f179 4 = (Value.pointer (some ⟨b1, 0, none⟩)) ∧ f179 6 = (Value.int .i64 ((table).length : Int)) ∧ f179 7 = u103 ∧ f179 11 = (Value.pointer (some ⟨b117, 0, none⟩)) ∧ f179 12 = (Value.int .i64 (k125 : Int)) ∧ f179 13 = (Value.int .i64 (k149 : Int)) ∧ f179 43 = (Value.int .i64 ((table).length : Int)) ∧ f179 44 = (Value.int .i64 (k125 : Int)) ∧ f179 47 = (Value.int .i64 ((table).length : Int)) ∧ f179 48 = (Value.int .i64 (k149 : Int)) ∧ f179 51 = (Value.int .i64 ((table).length : Int)) ∧ f179 52 = Value.int .i64 (k176 : Int) ∧ InR .i64 (k176 : Int) ∧ St w wd180 [bx b1 [(Value.slice none 0 0)], (Ty.sl (Ty.i .i64)).at u103 x102, (Ty.sl (Ty.sl (Ty.sl (Ty.i .i64)))).at u112 x177, bx b117 [u112]] := hI183
                replace hb182 : p_impl_toldRing_L4 table k125 k149 dual x102 k176 x177 = some ct178 := hb182
                unfold p_impl_toldRing_L4 at hb182
                obtain ⟨hf186, hf187, hf188, hf189, hf190, hf191, hf192, hf193, hf194, hf195, hf196, hf197, hf198, hf199, hr200, hS201⟩ := hI183
                refine W.seq (W.region ?_)
                refine WL.val (Value.bool (decide ((k176 : Int) < ((table).length : Int)))) _ (op_lss hf199 hf198) rfl ?_
                have hl202 : (k176 : Int) < ((table).length : Int) := by omega
                refine WL.nil ?_
                refine W.seq ?_
                refine W.condT (decide ((k176 : Int) < ((table).length : Int))) rfl (decide_eq_true hl202) ?_
                refine W.skip ?_
                refine W.seq ?_
                refine W.block ?_
                refine W.seq (W.region ?_)
                refine WL.val (Value.int .i64 (k176 : Int)) _ (op_move hf199) rfl ?_
                refine WL.val (Value.int .i64 (k176 : Int)) _ (op_assign rfl) rfl ?_
                refine WL.nil ?_
                refine W.seq (W.region ?_)
                refine WL.val (Value.int .i64 (0 : Int)) _ (op_assign rfl) rfl ?_
                refine WL.nil ?_
                refine W.seq (W.seq (W.region ?_))
                refine WL.val v_table _ (op_move hf186) rfl ?_
                have hr204 := inR_len (Ty.lift _ hS201.ext r_table)
                refine WL.val (Value.int .i64 ((table).length : Int)) _ (op_lenL sl_43 (Ty.lift _ hS201.ext r_table) rfl) rfl ?_
                refine WL.val (Value.int .i64 (0 : Int)) _ (op_move rfl) rfl ?_
                refine WL.nil ?_
                show W _ _ _ _ _ _
                obtain ⟨res205, hres206, hb182⟩ := bs hb182
                refine W.blockLoop (fun fq wq => ∃ s, res205 = Res.fin s ∧ fq 0 = v_table ∧ fq 1 = v_dual ∧ fq 4 = (Value.pointer (some ⟨b1, 0, none⟩)) ∧ fq 6 = (Value.int .i64 ((table).length : Int)) ∧ fq 7 = u103 ∧ fq 11 = (Value.pointer (some ⟨b117, 0, none⟩)) ∧ fq 12 = (Value.int .i64 (k125 : Int)) ∧ fq 13 = (Value.int .i64 (k149 : Int)) ∧ fq 14 = (Value.int .i64 (k176 : Int)) ∧ fq 15 = Value.int .i64 s ∧ InR .i64 s ∧ fq 43 = (Value.int .i64 ((table).length : Int)) ∧ fq 44 = (Value.int .i64 (k125 : Int)) ∧ fq 47 = (Value.int .i64 ((table).length : Int)) ∧ fq 48 = (Value.int .i64 (k149 : Int)) ∧ fq 51 = (Value.int .i64 ((table).length : Int)) ∧ fq 52 = (Value.int .i64 (k176 : Int)) ∧ St w wq [bx b1 [(Value.slice none 0 0)], (Ty.sl (Ty.i .i64)).at u103 x102, (Ty.sl (Ty.sl (Ty.sl (Ty.i .i64)))).at u112 x177, bx b117 [u112]]) ?_ ?_
                · refine W.forN (fun k (s : Int) fq wq => fq 0 = v_table ∧ fq 1 = v_dual ∧ fq 4 = (Value.pointer (some ⟨b1, 0, none⟩)) ∧ fq 6 = (Value.int .i64 ((table).length : Int)) ∧ fq 7 = u103 ∧ fq 11 = (Value.pointer (some ⟨b117, 0, none⟩)) ∧ fq 12 = (Value.int .i64 (k125 : Int)) ∧ fq 13 = (Value.int .i64 (k149 : Int)) ∧ fq 14 = (Value.int .i64 (k176 : Int)) ∧ fq 15 = Value.int .i64 s ∧ InR .i64 s ∧ fq 43 = (Value.int .i64 ((table).length : Int)) ∧ fq 44 = (Value.int .i64 (k125 : Int)) ∧ fq 47 = (Value.int .i64 ((table).length : Int)) ∧ fq 48 = (Value.int .i64 (k149 : Int)) ∧ fq 51 = (Value.int .i64 ((table).length : Int)) ∧ fq 52 = (Value.int .i64 (k176 : Int)) ∧ fq 55 = v_table ∧ fq 56 = (Value.int .i64 ((table).length : Int)) ∧ fq 57 = Value.int .i64 (k : Int) ∧ InR .i64 (k : Int) ∧ St w wq [bx b1 [(Value.slice none 0 0)], (Ty.sl (Ty.i .i64)).at u103 x102, (Ty.sl (Ty.sl (Ty.sl (Ty.i .i64)))).at u112 x177, bx b117 [u112]]) hres206 ⟨hf186, hf187, hf188, hf189, hf190, hf191, hf192, hf193, rfl, rfl, (inL rfl), hf194, hf195, hf196, hf197, hf198, hf199, rfl, rfl, rfl, (inL rfl), hS201⟩ ?_ ?_
                  · intro k207 x208 ct209 f210 wd211 hk212 hb213 hI214 hbrk215 hret216
                    replace hI214 : f210 0 = v_table ∧ f210 1 = v_dual ∧ f210 4 = (Value.pointer (some ⟨b1, 0, none⟩)) ∧ f210 6 = (Value.int .i64 ((table).length : Int)) ∧ f210 7 = u103 ∧ f210 11 = (Value.pointer (some ⟨b117, 0, none⟩)) ∧ f210 12 = (Value.int .i64 (k125 : Int)) ∧ f210 13 = (Value.int .i64 (k149 : Int)) ∧ f210 14 = (Value.int .i64 (k176 : Int)) ∧ f210 15 = Value.int .i64 x208 ∧ InR .i64 x208 ∧ f210 43 = (Value.int .i64 ((table).length : Int)) ∧ f210 44 = (Value.int .i64 (k125 : Int)) ∧ f210 47 = (Value.int .i64 ((table).length : Int)) ∧ f210 48 = (Value.int .i64 (k149 : Int)) ∧ f210 51 = (Value.int .i64 ((table).length : Int)) ∧ f210 52 = (Value.int .i64 (k176 : Int)) ∧ f210 55 = v_table ∧ f210 56 = (Value.int .i64 ((table).length : Int)) ∧ f210 57 = Value.int .i64 (k207 : Int) ∧ InR .i64 (k207 : Int) ∧ St w wd211 [bx b1 [(Value.slice none 0 0)], (Ty.sl (Ty.i .i64)).at u103 x102, (Ty.sl (Ty.sl (Ty.sl (Ty.i .i64)))).at u112 x177, bx b117 [u112]] := hI214
                    replace hb213 : p_impl_toldRing_L5 table k125 k149 dual k176 x102 k207 x208 = some ct209 := hb213
                    unfold p_impl_toldRing_L5 at hb213
                    obtain ⟨hf217, hf218, hf219, hf220, hf221, hf222, hf223, hf224, hf225, hf226, hr227, hf228, hf229, hf230, hf231, hf232, hf233, hf234, hf235, hf236, hr237, hS238⟩ := hI214
                    refine W.seq (W.region ?_)
                    refine WL.val (Value.bool (decide ((k207 : Int) < ((table).length : Int)))) _ (op_lss hf236 hf235) rfl ?_
                    have hl239 : (k207 : Int) < ((table).length : Int) := by omega
                    refine WL.nil ?_
                    refine W.seq ?_
                    refine W.condT (decide ((k207 : Int) < ((table).length : Int))) rfl (decide_eq_true hl239) ?_
                    refine W.skip ?_
                    refine W.seq ?_
                    refine W.block ?_
                    refine W.seq (W.region ?_)
                    refine WL.val (Value.int .i64 (k207 : Int)) _ (op_move hf236) rfl ?_
                    obtain ⟨x241, hx244, hb213⟩ := bs hb213
                    obtain ⟨ha242, hb243, hx244⟩ := idx_some hx244
                    refine WL.val (Value.pointer (some (elA v_table ((k207 : Int)).toNat))) _ (op_idx sl_43 (Ty.lift _ hS238.ext r_table) hf234 hf236 ha242 hb243) rfl ?_
                    obtain ⟨u245, hc246, hr247⟩ := repSl.el r_table hx244
                    refine WL.val u245 _ (op_load one_25 rfl (Ext.cell hS238.ext hc246)) rfl ?_
                    refine WL.val (Value.int .i64 (k207 : Int)) _ (op_assign rfl) rfl ?_
                    refine WL.val u245 _ (op_assign rfl) rfl ?_
                    refine WL.nil ?_
                    show W _ _ _ _ _ _
                    obtain ⟨x284, hx287, hb213⟩ := bs hb213
                    obtain ⟨ha285, hb286, hx287⟩ := idx_some hx287
                    obtain ⟨u298, hc299, hr300⟩ := repSl.el hr247 hx287
                    obtain ⟨rfl, hr300⟩ := hr300
                    obtain ⟨x330, hx333, hb213⟩ := bs hb213
                    obtain ⟨ha331, hb332, hx333⟩ := idx_some hx333
                    obtain ⟨u344, hc345, hr346⟩ := repSl.el hr247 hx333
                    obtain ⟨rfl, hr346⟩ := hr346
                    obtain ⟨x410, hx413, hb213⟩ := bs hb213
                    obtain ⟨ha411, hb412, hx413⟩ := idx_some hx413
                    obtain ⟨u424, hc425, hr426⟩ := repSl.el r_dual hx413
                    obtain ⟨rfl, hr426⟩ := hr426
                    obtain ⟨x442, hx445, hb213⟩ := bs hb213
                    obtain ⟨ha443, hb444, hx445⟩ := idx_some hx445
                    obtain ⟨u456, hc457, hr458⟩ := repSl.el hr247 hx445
                    obtain ⟨rfl, hr458⟩ := hr458
                    obtain ⟨x515, hx518, hb213⟩ := bs hb213
                    obtain ⟨ha516, hb517, hx518⟩ := idx_some hx518
                    obtain ⟨u529, hc530, hr531⟩ := repSl.el (St.rep (t := (Ty.sl (Ty.i .i64))) hS238 1 rfl) hx518
                    obtain ⟨rfl, hr531⟩ := hr531
                    refine W.drawR mixo 26 [] [fun _ v _ _ => v = (Value.int .i64 x208) ∧ InR .i64 x208, fun _ v _ _ => v = u245, fun _ v _ _ => v = (Value.int .i64 (k125 : Int)) ∧ InR .i64 (k125 : Int), fun _ v _ _ => v = (Value.pointer (some (elA u245 ((k125 : Int)).toNat))), fun _ v _ _ => v = (Value.int .i64 x284) ∧ InR .i64 x284, fun _ v _ _ => v = u245, fun _ v _ _ => v = (Value.int .i64 (k149 : Int)) ∧ InR .i64 (k149 : Int), fun _ v _ _ => v = (Value.pointer (some (elA u245 ((k149 : Int)).toNat))), fun _ v _ _ => v = (Value.int .i64 x330) ∧ InR .i64 x330, fun _ v _ _ => v = (Value.int .i64 (w64 (x284 * x330))) ∧ InR .i64 (w64 (x284 * x330)), fun _ v _ _ => v = (Value.int .i64 (((w64 (x284 * x330))).tmod (55441 : Int))) ∧ InR .i64 (((w64 (x284 * x330))).tmod (55441 : Int)), fun _ v _ _ => v = u245, fun _ v _ _ => v = v_dual, fun _ v _ _ => v = (Value.int .i64 (k176 : Int)) ∧ InR .i64 (k176 : Int), fun _ v _ _ => v = (Value.pointer (some (elA v_dual ((k176 : Int)).toNat))), fun _ v _ _ => v = (Value.int .i64 x410) ∧ InR .i64 x410, fun _ v _ _ => v = (Value.pointer (some (elA u245 (x410).toNat))), fun _ v _ _ => v = (Value.int .i64 x442) ∧ InR .i64 x442, fun _ v _ _ => v = (Value.int .i64 (w64 ((((w64 (x284 * x330))).tmod (55441 : Int)) * x442))) ∧ InR .i64 (w64 ((((w64 (x284 * x330))).tmod (55441 : Int)) * x442)), fun _ v _ _ => v = (Value.int .i64 (((w64 ((((w64 (x284 * x330))).tmod (55441 : Int)) * x442))).tmod (55441 : Int))) ∧ InR .i64 (((w64 ((((w64 (x284 * x330))).tmod (55441 : Int)) * x442))).tmod (55441 : Int)), fun _ v _ _ => v = u103, fun _ v _ _ => v = (Value.int .i64 (k207 : Int)) ∧ InR .i64 (k207 : Int), fun _ v _ _ => v = (Value.pointer (some (elA u103 ((k207 : Int)).toNat))), fun _ v _ _ => v = (Value.int .i64 x515) ∧ InR .i64 x515, fun _ v _ _ => v = (Value.int .i64 (w64 ((((w64 ((((w64 (x284 * x330))).tmod (55441 : Int)) * x442))).tmod (55441 : Int)) * x515))) ∧ InR .i64 (w64 ((((w64 ((((w64 (x284 * x330))).tmod (55441 : Int)) * x442))).tmod (55441 : Int)) * x515)), fun _ v _ _ => v = (Value.int .i64 (((w64 ((((w64 ((((w64 (x284 * x330))).tmod (55441 : Int)) * x442))).tmod (55441 : Int)) * x515))).tmod (55441 : Int))) ∧ InR .i64 (((w64 ((((w64 ((((w64 (x284 * x330))).tmod (55441 : Int)) * x442))).tmod (55441 : Int)) * x515))).tmod (55441 : Int))] (by kernel_rfl) (by kernel_rfl) ⟨pk, pk, pk, pk, pk, pk, pk, pk, pk, pk, pk, pk, pk, pk, pk, pk, pk, pk, pk, pk, pk, pk, pk, pk, pk, pk, trivial⟩ ⟨?_, ?_, ?_, ?_, ?_, ?_, ?_, ?_, ?_, ?_, ?_, ?_, ?_, ?_, ?_, ?_, ?_, ?_, ?_, ?_, ?_, ?_, ?_, ?_, ?_, ?_, trivial⟩ ?_
                    · refine ObX.op rfl fun f248 wd249 he250 hout251 hphi252 => ?_
                      have e254 : f248 15 = (Value.int .i64 x208) := (hout251 15 rfl).trans hf226
                      exact OpX.val (Value.int .i64 x208) wd249 rfl (op_move e254) (Ext.refl _) ⟨rfl, hr227⟩
                    · refine ObX.op rfl fun f255 wd256 he257 hout258 hphi259 => ?_
                      have e261 : f255 17 = u245 := (hout258 17 rfl).trans rfl
                      exact OpX.val u245 wd256 rfl (op_move e261) (Ext.refl _) rfl
                    · refine ObX.op rfl fun f262 wd263 he264 hout265 hphi266 => ?_
                      have e268 : f262 12 = (Value.int .i64 (k125 : Int)) := (hout265 12 rfl).trans hf223
                      exact OpX.val (Value.int .i64 (k125 : Int)) wd263 rfl (op_move e268) (Ext.refl _) ⟨rfl, hr143⟩
                    · refine ObX.op rfl fun f269 wd270 he271 hout272 hphi273 => ?_
                      have hS274 := St.extend hS238 he271
                      obtain ⟨S275, hS276, hf277⟩ := hphi273 1 63 _ rfl rfl rfl
                      have e278 : f269 63 = u245 := hf277
                      obtain ⟨S279, hS280, hf281⟩ := hphi273 2 64 _ rfl rfl rfl
                      obtain ⟨e282, hr283⟩ := hf281
                      exact OpX.val (Value.pointer (some (elA u245 ((k125 : Int)).toNat))) wd270 rfl (op_idx sl_25 (Ty.lift _ hS274.ext hr247) e278 e282 ha285 hb286) (Ext.refl _) rfl
                    · refine ObX.op rfl fun f288 wd289 he290 hout291 hphi292 => ?_
                      have hS293 := St.extend hS238 he290
                      obtain ⟨S294, hS295, hf296⟩ := hphi292 3 65 _ rfl rfl rfl
                      have e297 : f288 65 = (Value.pointer (some (elA u245 ((k125 : Int)).toNat))) := hf296
                      exact OpX.val (Value.int .i64 x284) wd289 rfl (op_load one_2 e297 (Ext.cell hS293.ext hc299)) (Ext.refl _) ⟨rfl, hr300⟩
                    · refine ObX.op rfl fun f301 wd302 he303 hout304 hphi305 => ?_
                      have e307 : f301 17 = u245 := (hout304 17 rfl).trans rfl
                      exact OpX.val u245 wd302 rfl (op_move e307) (Ext.refl _) rfl
                    · refine ObX.op rfl fun f308 wd309 he310 hout311 hphi312 => ?_
                      have e314 : f308 13 = (Value.int .i64 (k149 : Int)) := (hout311 13 rfl).trans hf224
                      exact OpX.val (Value.int .i64 (k149 : Int)) wd309 rfl (op_move e314) (Ext.refl _) ⟨rfl, hr170⟩
                    · refine ObX.op rfl fun f315 wd316 he317 hout318 hphi319 => ?_
                      have hS320 := St.extend hS238 he317
                      obtain ⟨S321, hS322, hf323⟩ := hphi319 5 67 _ rfl rfl rfl
                      have e324 : f315 67 = u245 := hf323
                      obtain ⟨S325, hS326, hf327⟩ := hphi319 6 68 _ rfl rfl rfl
                      obtain ⟨e328, hr329⟩ := hf327
                      exact OpX.val (Value.pointer (some (elA u245 ((k149 : Int)).toNat))) wd316 rfl (op_idx sl_25 (Ty.lift _ hS320.ext hr247) e324 e328 ha331 hb332) (Ext.refl _) rfl
                    · refine ObX.op rfl fun f334 wd335 he336 hout337 hphi338 => ?_
                      have hS339 := St.extend hS238 he336
                      obtain ⟨S340, hS341, hf342⟩ := hphi338 7 69 _ rfl rfl rfl
                      have e343 : f334 69 = (Value.pointer (some (elA u245 ((k149 : Int)).toNat))) := hf342
                      exact OpX.val (Value.int .i64 x330) wd335 rfl (op_load one_2 e343 (Ext.cell hS339.ext hc345)) (Ext.refl _) ⟨rfl, hr346⟩
                    · refine ObX.op rfl fun f347 wd348 he349 hout350 hphi351 => ?_
                      obtain ⟨S353, hS354, hf355⟩ := hphi351 4 66 _ rfl rfl rfl
                      obtain ⟨e356, hr357⟩ := hf355
                      obtain ⟨S358, hS359, hf360⟩ := hphi351 8 70 _ rfl rfl rfl
                      obtain ⟨e361, hr362⟩ := hf360
                      exact OpX.val (Value.int .i64 (w64 (x284 * x330))) wd348 rfl (op_mul e356 e361) (Ext.refl _) ⟨rfl, (inR_wrap _ _)⟩
                    · refine ObX.op rfl fun f363 wd364 he365 hout366 hphi367 => ?_
                      obtain ⟨S369, hS370, hf371⟩ := hphi367 9 71 _ rfl rfl rfl
                      obtain ⟨e372, hr373⟩ := hf371
                      exact OpX.val (Value.int .i64 (((w64 (x284 * x330))).tmod (55441 : Int))) wd364 rfl (op_rem (b := 55441) e372 rfl (by decide)) (Ext.refl _) ⟨rfl, (inR_tmod hr373)⟩
                    · refine ObX.op rfl fun f374 wd375 he376 hout377 hphi378 => ?_
                      have e380 : f374 17 = u245 := (hout377 17 rfl).trans rfl
                      exact OpX.val u245 wd375 rfl (op_move e380) (Ext.refl _) rfl
                    · refine ObX.op rfl fun f381 wd382 he383 hout384 hphi385 => ?_
                      have e387 : f381 1 = v_dual := (hout384 1 rfl).trans hf218
                      exact OpX.val v_dual wd382 rfl (op_move e387) (Ext.refl _) rfl
                    · refine ObX.op rfl fun f388 wd389 he390 hout391 hphi392 => ?_
                      have e394 : f388 14 = (Value.int .i64 (k176 : Int)) := (hout391 14 rfl).trans hf225
                      exact OpX.val (Value.int .i64 (k176 : Int)) wd389 rfl (op_move e394) (Ext.refl _) ⟨rfl, hr200⟩
                    · refine ObX.op rfl fun f395 wd396 he397 hout398 hphi399 => ?_
                      have hS400 := St.extend hS238 he397
                      obtain ⟨S401, hS402, hf403⟩ := hphi399 12 74 _ rfl rfl rfl
                      have e404 : f395 74 = v_dual := hf403
                      obtain ⟨S405, hS406, hf407⟩ := hphi399 13 75 _ rfl rfl rfl
                      obtain ⟨e408, hr409⟩ := hf407
                      exact OpX.val (Value.pointer (some (elA v_dual ((k176 : Int)).toNat))) wd396 rfl (op_idx sl_64 (Ty.lift _ hS400.ext r_dual) e404 e408 ha411 hb412) (Ext.refl _) rfl
                    · refine ObX.op rfl fun f414 wd415 he416 hout417 hphi418 => ?_
                      have hS419 := St.extend hS238 he416
                      obtain ⟨S420, hS421, hf422⟩ := hphi418 14 76 _ rfl rfl rfl
                      have e423 : f414 76 = (Value.pointer (some (elA v_dual ((k176 : Int)).toNat))) := hf422
                      exact OpX.val (Value.int .i64 x410) wd415 rfl (op_load one_3 e423 (Ext.cell hS419.ext hc425)) (Ext.refl _) ⟨rfl, hr426⟩
                    · refine ObX.op rfl fun f427 wd428 he429 hout430 hphi431 => ?_
                      have hS432 := St.extend hS238 he429
                      obtain ⟨S433, hS434, hf435⟩ := hphi431 11 73 _ rfl rfl rfl
                      have e436 : f427 73 = u245 := hf435
                      obtain ⟨S437, hS438, hf439⟩ := hphi431 15 77 _ rfl rfl rfl
                      obtain ⟨e440, hr441⟩ := hf439
                      exact OpX.val (Value.pointer (some (elA u245 (x410).toNat))) wd428 rfl (op_idx sl_25 (Ty.lift _ hS432.ext hr247) e436 e440 ha443 hb444) (Ext.refl _) rfl
                    · refine ObX.op rfl fun f446 wd447 he448 hout449 hphi450 => ?_
                      have hS451 := St.extend hS238 he448
                      obtain ⟨S452, hS453, hf454⟩ := hphi450 16 78 _ rfl rfl rfl
                      have e455 : f446 78 = (Value.pointer (some (elA u245 (x410).toNat))) := hf454
                      exact OpX.val (Value.int .i64 x442) wd447 rfl (op_load one_2 e455 (Ext.cell hS451.ext hc457)) (Ext.refl _) ⟨rfl, hr458⟩
                    · refine ObX.op rfl fun f459 wd460 he461 hout462 hphi463 => ?_
                      obtain ⟨S465, hS466, hf467⟩ := hphi463 10 72 _ rfl rfl rfl
                      obtain ⟨e468, hr469⟩ := hf467
                      obtain ⟨S470, hS471, hf472⟩ := hphi463 17 79 _ rfl rfl rfl
                      obtain ⟨e473, hr474⟩ := hf472
                      exact OpX.val (Value.int .i64 (w64 ((((w64 (x284 * x330))).tmod (55441 : Int)) * x442))) wd460 rfl (op_mul e468 e473) (Ext.refl _) ⟨rfl, (inR_wrap _ _)⟩
                    · refine ObX.op rfl fun f475 wd476 he477 hout478 hphi479 => ?_
                      obtain ⟨S481, hS482, hf483⟩ := hphi479 18 80 _ rfl rfl rfl
                      obtain ⟨e484, hr485⟩ := hf483
                      exact OpX.val (Value.int .i64 (((w64 ((((w64 (x284 * x330))).tmod (55441 : Int)) * x442))).tmod (55441 : Int))) wd476 rfl (op_rem (b := 55441) e484 rfl (by decide)) (Ext.refl _) ⟨rfl, (inR_tmod hr485)⟩
                    · refine ObX.op rfl fun f486 wd487 he488 hout489 hphi490 => ?_
                      have e492 : f486 7 = u103 := (hout489 7 rfl).trans hf221
                      exact OpX.val u103 wd487 rfl (op_move e492) (Ext.refl _) rfl
                    · refine ObX.op rfl fun f493 wd494 he495 hout496 hphi497 => ?_
                      have e499 : f493 16 = (Value.int .i64 (k207 : Int)) := (hout496 16 rfl).trans rfl
                      exact OpX.val (Value.int .i64 (k207 : Int)) wd494 rfl (op_move e499) (Ext.refl _) ⟨rfl, hr237⟩
                    · refine ObX.op rfl fun f500 wd501 he502 hout503 hphi504 => ?_
                      have hS505 := St.extend hS238 he502
                      obtain ⟨S506, hS507, hf508⟩ := hphi504 20 82 _ rfl rfl rfl
                      have e509 : f500 82 = u103 := hf508
                      obtain ⟨S510, hS511, hf512⟩ := hphi504 21 83 _ rfl rfl rfl
                      obtain ⟨e513, hr514⟩ := hf512
                      exact OpX.val (Value.pointer (some (elA u103 ((k207 : Int)).toNat))) wd501 rfl (op_idx sl_25 (St.rep (t := (Ty.sl (Ty.i .i64))) hS505 1 rfl) e509 e513 ha516 hb517) (Ext.refl _) rfl
                    · refine ObX.op rfl fun f519 wd520 he521 hout522 hphi523 => ?_
                      obtain ⟨S525, hS526, hf527⟩ := hphi523 22 84 _ rfl rfl rfl
                      have e528 : f519 84 = (Value.pointer (some (elA u103 ((k207 : Int)).toNat))) := hf527
                      exact OpX.val (Value.int .i64 x515) wd520 rfl (op_load one_2 e528 (Ext.cell he521 hc530)) (Ext.refl _) ⟨rfl, hr531⟩
                    · refine ObX.op rfl fun f532 wd533 he534 hout535 hphi536 => ?_
                      obtain ⟨S538, hS539, hf540⟩ := hphi536 19 81 _ rfl rfl rfl
                      obtain ⟨e541, hr542⟩ := hf540
                      obtain ⟨S543, hS544, hf545⟩ := hphi536 23 85 _ rfl rfl rfl
                      obtain ⟨e546, hr547⟩ := hf545
                      exact OpX.val (Value.int .i64 (w64 ((((w64 ((((w64 (x284 * x330))).tmod (55441 : Int)) * x442))).tmod (55441 : Int)) * x515))) wd533 rfl (op_mul e541 e546) (Ext.refl _) ⟨rfl, (inR_wrap _ _)⟩
                    · refine ObX.op rfl fun f548 wd549 he550 hout551 hphi552 => ?_
                      obtain ⟨S554, hS555, hf556⟩ := hphi552 24 86 _ rfl rfl rfl
                      obtain ⟨e557, hr558⟩ := hf556
                      exact OpX.val (Value.int .i64 (((w64 ((((w64 ((((w64 (x284 * x330))).tmod (55441 : Int)) * x442))).tmod (55441 : Int)) * x515))).tmod (55441 : Int))) wd549 rfl (op_rem (b := 55441) e557 rfl (by decide)) (Ext.refl _) ⟨rfl, (inR_tmod hr558)⟩
                    · intro f559 wd560 Ss561 he562 hout563 hSn564 hSd565 hphi566
                      show WL _ _ _ _ _ _ _
                      have hS567 := St.extend hS238 he562
                      obtain ⟨e568, hr569⟩ := hphi566 0 62 _ (by decide) rfl rfl
                      obtain ⟨e570, hr571⟩ := hphi566 25 87 _ (by decide) rfl rfl
                      have e572 : f559 0 = v_table := (hout563 0 rfl).trans hf217
                      have e573 : f559 1 = v_dual := (hout563 1 rfl).trans hf218
                      have e574 : f559 4 = (Value.pointer (some ⟨b1, 0, none⟩)) := (hout563 4 rfl).trans hf219
                      have e575 : f559 6 = (Value.int .i64 ((table).length : Int)) := (hout563 6 rfl).trans hf220
                      have e576 : f559 7 = u103 := (hout563 7 rfl).trans hf221
                      have e577 : f559 11 = (Value.pointer (some ⟨b117, 0, none⟩)) := (hout563 11 rfl).trans hf222
                      have e578 : f559 12 = (Value.int .i64 (k125 : Int)) := (hout563 12 rfl).trans hf223
                      have e579 : f559 13 = (Value.int .i64 (k149 : Int)) := (hout563 13 rfl).trans hf224
                      have e580 : f559 14 = (Value.int .i64 (k176 : Int)) := (hout563 14 rfl).trans hf225
                      have e581 : f559 43 = (Value.int .i64 ((table).length : Int)) := (hout563 43 rfl).trans hf228
                      have e582 : f559 44 = (Value.int .i64 (k125 : Int)) := (hout563 44 rfl).trans hf229
                      have e583 : f559 47 = (Value.int .i64 ((table).length : Int)) := (hout563 47 rfl).trans hf230
                      have e584 : f559 48 = (Value.int .i64 (k149 : Int)) := (hout563 48 rfl).trans hf231
                      have e585 : f559 51 = (Value.int .i64 ((table).length : Int)) := (hout563 51 rfl).trans hf232
                      have e586 : f559 52 = (Value.int .i64 (k176 : Int)) := (hout563 52 rfl).trans hf233
                      have e587 : f559 55 = v_table := (hout563 55 rfl).trans hf234
                      have e588 : f559 56 = (Value.int .i64 ((table).length : Int)) := (hout563 56 rfl).trans hf235
                      have e589 : f559 57 = (Value.int .i64 (k207 : Int)) := (hout563 57 rfl).trans hf236
                      refine WL.val (Value.int .i64 (w64 (x208 + (((w64 ((((w64 ((((w64 (x284 * x330))).tmod (55441 : Int)) * x442))).tmod (55441 : Int)) * x515))).tmod (55441 : Int))))) _ (op_add e568 e570) rfl ?_
                      refine WL.val (Value.int .i64 (w64 (x208 + (((w64 ((((w64 ((((w64 (x284 * x330))).tmod (55441 : Int)) * x442))).tmod (55441 : Int)) * x515))).tmod (55441 : Int))))) _ (op_assign rfl) rfl ?_
                      refine WL.nil ?_
                      show W _ _ _ _ _ _
                      refine W.region ?_
                      refine WL.val (Value.int .i64 (w64 ((k207 : Int) + (1 : Int)))) _ (op_add e589 rfl) rfl ?_
                      refine WL.val (Value.int .i64 (w64 ((k207 : Int) + (1 : Int)))) _ (op_move rfl) rfl ?_
                      refine WL.nil ?_
                      obtain rfl := Option.some.inj hb213
                      show ∃ s, _ = Ctl.next s ∧ _
                      exact ⟨_, rfl, e572, e573, e574, e575, e576, e577, e578, e579, e580, rfl, (inR_wrap _ _), e581, e582, e583, e584, e585, e586, e587, e588, (ctr_next hl239 hr204), (ctr_rng hl239 hr204), hS567⟩
                  · intro x596 f591 wd592 hs593 hI594
                    replace hI594 : f591 0 = v_table ∧ f591 1 = v_dual ∧ f591 4 = (Value.pointer (some ⟨b1, 0, none⟩)) ∧ f591 6 = (Value.int .i64 ((table).length : Int)) ∧ f591 7 = u103 ∧ f591 11 = (Value.pointer (some ⟨b117, 0, none⟩)) ∧ f591 12 = (Value.int .i64 (k125 : Int)) ∧ f591 13 = (Value.int .i64 (k149 : Int)) ∧ f591 14 = (Value.int .i64 (k176 : Int)) ∧ f591 15 = Value.int .i64 x596 ∧ InR .i64 x596 ∧ f591 43 = (Value.int .i64 ((table).length : Int)) ∧ f591 44 = (Value.int .i64 (k125 : Int)) ∧ f591 47 = (Value.int .i64 ((table).length : Int)) ∧ f591 48 = (Value.int .i64 (k149 : Int)) ∧ f591 51 = (Value.int .i64 ((table).length : Int)) ∧ f591 52 = (Value.int .i64 (k176 : Int)) ∧ f591 55 = v_table ∧ f591 56 = (Value.int .i64 ((table).length : Int)) ∧ f591 57 = Value.int .i64 (((table).length : Nat) : Int) ∧ InR .i64 (((table).length : Nat) : Int) ∧ St w wd592 [bx b1 [(Value.slice none 0 0)], (Ty.sl (Ty.i .i64)).at u103 x102, (Ty.sl (Ty.sl (Ty.sl (Ty.i .i64)))).at u112 x177, bx b117 [u112]] := hI594
                    obtain ⟨hf597, hf598, hf599, hf600, hf601, hf602, hf603, hf604, hf605, hf606, hr607, hf608, hf609, hf610, hf611, hf612, hf613, hf614, hf615, hf616, hr617, hS618⟩ := hI594
                    refine W.seq (W.region ?_)
                    refine WL.val (Value.bool (decide ((((table).length : Nat) : Int) < ((table).length : Int)))) _ (op_lss hf616 hf615) rfl ?_
                    have hl619 : ¬ (((table).length : Nat) : Int) < ((table).length : Int) := by omega
                    refine WL.nil ?_
                    refine W.seq ?_
                    refine W.condF (decide ((((table).length : Nat) : Int) < ((table).length : Int))) rfl (decide_eq_false hl619) ?_
                    refine W.exit ?_
                    show _ = _ ∧ _
                    exact ⟨rfl, _, hs593, hf597, hf598, hf599, hf600, hf601, hf602, hf603, hf604, hf605, hf606, hr607, hf608, hf609, hf610, hf611, hf612, hf613, hS618⟩
                · rintro f620 wd621 ⟨x624, rfl, hq622⟩
                  replace hb182 := onRes_fin hb182
                  replace hq622 : f620 0 = v_table ∧ f620 1 = v_dual ∧ f620 4 = (Value.pointer (some ⟨b1, 0, none⟩)) ∧ f620 6 = (Value.int .i64 ((table).length : Int)) ∧ f620 7 = u103 ∧ f620 11 = (Value.pointer (some ⟨b117, 0, none⟩)) ∧ f620 12 = (Value.int .i64 (k125 : Int)) ∧ f620 13 = (Value.int .i64 (k149 : Int)) ∧ f620 14 = (Value.int .i64 (k176 : Int)) ∧ f620 15 = Value.int .i64 x624 ∧ InR .i64 x624 ∧ f620 43 = (Value.int .i64 ((table).length : Int)) ∧ f620 44 = (Value.int .i64 (k125 : Int)) ∧ f620 47 = (Value.int .i64 ((table).length : Int)) ∧ f620 48 = (Value.int .i64 (k149 : Int)) ∧ f620 51 = (Value.int .i64 ((table).length : Int)) ∧ f620 52 = (Value.int .i64 (k176 : Int)) ∧ St w wd621 [bx b1 [(Value.slice none 0 0)], (Ty.sl (Ty.i .i64)).at u103 x102, (Ty.sl (Ty.sl (Ty.sl (Ty.i .i64)))).at u112 x177, bx b117 [u112]] := hq622
                  obtain ⟨hf625, hf626, hf627, hf628, hf629, hf630, hf631, hf632, hf633, hf634, hr635, hf636, hf637, hf638, hf639, hf640, hf641, hS642⟩ := hq622
                  show W _ _ _ _ _ _
                  refine W.region ?_
                  refine WL.val (Value.pointer (some ⟨b117, 0, none⟩)) _ (op_fieldAddr fd_29_0 hf630) rfl ?_
                  refine WL.val u112 _ (op_load one_22 rfl (BoxAt.cell (St.boxAt hS642 3 rfl) rfl)) rfl ?_
                  refine WL.val (Value.int .i64 (k125 : Int)) _ (op_move hf631) rfl ?_
                  obtain ⟨x643, hx646, hb182⟩ := bs hb182
                  obtain ⟨ha644, hb645, hx646⟩ := idx_some hx646
                  refine WL.val (Value.pointer (some (elA u112 ((k125 : Int)).toNat))) _ (op_idx sl_22 (St.rep (t := (Ty.sl (Ty.sl (Ty.sl (Ty.i .i64))))) hS642 2 rfl) rfl rfl ha644 hb645) rfl ?_
                  obtain ⟨u647, hc648, hr649⟩ := repSl.el (St.rep (t := (Ty.sl (Ty.sl (Ty.sl (Ty.i .i64))))) hS642 2 rfl) hx646
                  refine WL.val u647 _ (op_load one_43 rfl hc648) rfl ?_
                  refine WL.val (Value.int .i64 (k149 : Int)) _ (op_move hf632) rfl ?_
                  obtain ⟨x650, hx653, hb182⟩ := bs hb182
                  obtain ⟨ha651, hb652, hx653⟩ := idx_some hx653
                  refine WL.val (Value.pointer (some (elA u647 ((k149 : Int)).toNat))) _ (op_idx sl_43 hr649 rfl rfl ha651 hb652) rfl ?_
                  obtain ⟨u654, hc655, hr656⟩ := repSl.el hr649 hx653
                  refine WL.val u654 _ (op_load one_25 rfl hc655) rfl ?_
                  refine WL.val (Value.int .i64 (k176 : Int)) _ (op_move hf633) rfl ?_
                  refine WL.val (Value.int .i64 x624) _ (op_move hf634) rfl ?_
                  refine WL.val (Value.int .i64 ((x624).tmod (55441 : Int))) _ (op_rem (b := 55441) rfl rfl (by decide)) rfl ?_
                  obtain ⟨x657, hx660, hb182⟩ := bs hb182
                  obtain ⟨ha658, hb659, hx660⟩ := idx_some hx660
                  refine WL.val (Value.pointer (some (elA u654 ((k176 : Int)).toNat))) _ (op_idx sl_25 hr656 rfl rfl ha658 hb659) rfl ?_
                  refine WL.storeEl3 (flat_i .i64) hS642 (k := 2) rfl sz_2 hx646 hx653 hc648 hc655 rfl rfl (lt_of_idx ha658 hb659) ⟨rfl, (inR_tmod hr635)⟩ ?_
                  intro wd661 hS662
                  replace hS662 : St w wd661 [bx b1 [(Value.slice none 0 0)], (Ty.sl (Ty.i .i64)).at u103 x102, (Ty.sl (Ty.sl (Ty.sl (Ty.i .i64)))).at u112 ((x177).set ((k125 : Int)).toNat ((x643).set ((k149 : Int)).toNat ((x650).set ((k176 : Int)).toNat ((x624).tmod (55441 : Int))))), bx b117 [u112]] := hS662
                  refine WL.nil ?_
                  show W _ _ _ _ _ _
                  refine W.region ?_
                  refine WL.val (Value.int .i64 (w64 ((k176 : Int) + (1 : Int)))) _ (op_add hf641 rfl) rfl ?_
                  refine WL.val (Value.int .i64 (w64 ((k176 : Int) + (1 : Int)))) _ (op_move rfl) rfl ?_
                  refine WL.nil ?_
                  obtain rfl := Option.some.inj hb182
                  show ∃ s, _ = Ctl.next s ∧ _
                  exact ⟨_, rfl, hf625, hf626, hf627, hf628, hf629, hf630, hf631, hf632, hf636, hf637, hf638, hf639, hf640, (ctr_next hl202 hr5), (ctr_rng hl202 hr5), hS662⟩
              · intro x670 f665 wd666 hs667 hI668
                replace hI668 : f665 0 = v_table ∧ f665 1 = v_dual ∧ f665 4 = (Value.pointer (some ⟨b1, 0, none⟩)) ∧ f665 6 = (Value.int .i64 ((table).length : Int)) ∧ f665 7 = u103 ∧ f665 11 = (Value.pointer (some ⟨b117, 0, none⟩)) ∧ f665 12 = (Value.int .i64 (k125 : Int)) ∧ f665 13 = (Value.int .i64 (k149 : Int)) ∧ f665 43 = (Value.int .i64 ((table).length : Int)) ∧ f665 44 = (Value.int .i64 (k125 : Int)) ∧ f665 47 = (Value.int .i64 ((table).length : Int)) ∧ f665 48 = (Value.int .i64 (k149 : Int)) ∧ f665 51 = (Value.int .i64 ((table).length : Int)) ∧ f665 52 = Value.int .i64 (((table).length : Nat) : Int) ∧ InR .i64 (((table).length : Nat) : Int) ∧ St w wd666 [bx b1 [(Value.slice none 0 0)], (Ty.sl (Ty.i .i64)).at u103 x102, (Ty.sl (Ty.sl (Ty.sl (Ty.i .i64)))).at u112 x670, bx b117 [u112]] := hI668
                obtain ⟨hf671, hf672, hf673, hf674, hf675, hf676, hf677, hf678, hf679, hf680, hf681, hf682, hf683, hf684, hr685, hS686⟩ := hI668
                refine W.seq (W.region ?_)
                refine WL.val (Value.bool (decide ((((table).length : Nat) : Int) < ((table).length : Int)))) _ (op_lss hf684 hf683) rfl ?_
                have hl687 : ¬ (((table).length : Nat) : Int) < ((table).length : Int) := by omega
                refine WL.nil ?_
                refine W.seq ?_
                refine W.condF (decide ((((table).length : Nat) : Int) < ((table).length : Int))) rfl (decide_eq_false hl687) ?_
                refine W.exit ?_
                show _ = _ ∧ _
                exact ⟨rfl, _, hs667, hf671, hf672, hf673, hf674, hf675, hf676, hf677, hf679, hf680, hf681, hf682, hS686⟩
            · rintro f688 wd689 ⟨x692, rfl, hq690⟩
              replace hb155 := onRes_fin hb155
              replace hq690 : f688 0 = v_table ∧ f688 1 = v_dual ∧ f688 4 = (Value.pointer (some ⟨b1, 0, none⟩)) ∧ f688 6 = (Value.int .i64 ((table).length : Int)) ∧ f688 7 = u103 ∧ f688 11 = (Value.pointer (some ⟨b117, 0, none⟩)) ∧ f688 12 = (Value.int .i64 (k125 : Int)) ∧ f688 43 = (Value.int .i64 ((table).length : Int)) ∧ f688 44 = (Value.int .i64 (k125 : Int)) ∧ f688 47 = (Value.int .i64 ((table).length : Int)) ∧ f688 48 = (Value.int .i64 (k149 : Int)) ∧ St w wd689 [bx b1 [(Value.slice none 0 0)], (Ty.sl (Ty.i .i64)).at u103 x102, (Ty.sl (Ty.sl (Ty.sl (Ty.i .i64)))).at u112 x692, bx b117 [u112]] := hq690
              obtain ⟨hf693, hf694, hf695, hf696, hf697, hf698, hf699, hf700, hf701, hf702, hf703, hS704⟩ := hq690
              show W _ _ _ _ _ _
              refine W.region ?_
              refine WL.val (Value.int .i64 (w64 ((k149 : Int) + (1 : Int)))) _ (op_add hf703 rfl) rfl ?_
              refine WL.val (Value.int .i64 (w64 ((k149 : Int) + (1 : Int)))) _ (op_move rfl) rfl ?_
              refine WL.nil ?_
              obtain rfl := Option.some.inj hb155
              show ∃ s, _ = Ctl.next s ∧ _
              exact ⟨_, rfl, hf693, hf694, hf695, hf696, hf697, hf698, hf699, hf700, hf701, hf702, (ctr_next hl172 hr5), (ctr_rng hl172 hr5), hS704⟩
          · intro x712 f707 wd708 hs709 hI710
            replace hI710 : f707 0 = v_table ∧ f707 1 = v_dual ∧ f707 4 = (Value.pointer (some ⟨b1, 0, none⟩)) ∧ f707 6 = (Value.int .i64 ((table).length : Int)) ∧ f707 7 = u103 ∧ f707 11 = (Value.pointer (some ⟨b117, 0, none⟩)) ∧ f707 12 = (Value.int .i64 (k125 : Int)) ∧ f707 43 = (Value.int .i64 ((table).length : Int)) ∧ f707 44 = (Value.int .i64 (k125 : Int)) ∧ f707 47 = (Value.int .i64 ((table).length : Int)) ∧ f707 48 = Value.int .i64 (((table).length : Nat) : Int) ∧ InR .i64 (((table).length : Nat) : Int) ∧ St w wd708 [bx b1 [(Value.slice none 0 0)], (Ty.sl (Ty.i .i64)).at u103 x102, (Ty.sl (Ty.sl (Ty.sl (Ty.i .i64)))).at u112 x712, bx b117 [u112]] := hI710
            obtain ⟨hf713, hf714, hf715, hf716, hf717, hf718, hf719, hf720, hf721, hf722, hf723, hr724, hS725⟩ := hI710
            refine W.seq (W.region ?_)
            refine WL.val (Value.bool (decide ((((table).length : Nat) : Int) < ((table).length : Int)))) _ (op_lss hf723 hf722) rfl ?_
            have hl726 : ¬ (((table).length : Nat) : Int) < ((table).length : Int) := by omega
            refine WL.nil ?_
            refine W.seq ?_
            refine W.condF (decide ((((table).length : Nat) : Int) < ((table).length : Int))) rfl (decide_eq_false hl726) ?_
            refine W.exit ?_
            show _ = _ ∧ _
            exact ⟨rfl, _, hs709, hf713, hf714, hf715, hf716, hf717, hf718, hf720, hf721, hS725⟩
        · rintro f727 wd728 ⟨x731, rfl, hq729⟩
          replace hb131 := onRes_fin hb131
          replace hq729 : f727 0 = v_table ∧ f727 1 = v_dual ∧ f727 4 = (Value.pointer (some ⟨b1, 0, none⟩)) ∧ f727 6 = (Value.int .i64 ((table).length : Int)) ∧ f727 7 = u103 ∧ f727 11 = (Value.pointer (some ⟨b117, 0, none⟩)) ∧ f727 43 = (Value.int .i64 ((table).length : Int)) ∧ f727 44 = (Value.int .i64 (k125 : Int)) ∧ St w wd728 [bx b1 [(Value.slice none 0 0)], (Ty.sl (Ty.i .i64)).at u103 x102, (Ty.sl (Ty.sl (Ty.sl (Ty.i .i64)))).at u112 x731, bx b117 [u112]] := hq729
          obtain ⟨hf732, hf733, hf734, hf735, hf736, hf737, hf738, hf739, hS740⟩ := hq729
          show W _ _ _ _ _ _
          refine W.region ?_
          refine WL.val (Value.int .i64 (w64 ((k125 : Int) + (1 : Int)))) _ (op_add hf739 rfl) rfl ?_
          refine WL.val (Value.int .i64 (w64 ((k125 : Int) + (1 : Int)))) _ (op_move rfl) rfl ?_
          refine WL.nil ?_
          obtain rfl := Option.some.inj hb131
          show ∃ s, _ = Ctl.next s ∧ _
          exact ⟨_, rfl, hf732, hf733, hf734, hf735, hf736, hf737, hf738, (ctr_next hl145 hr5), (ctr_rng hl145 hr5), hS740⟩
      · intro x748 f743 wd744 hs745 hI746
        replace hI746 : f743 0 = v_table ∧ f743 1 = v_dual ∧ f743 4 = (Value.pointer (some ⟨b1, 0, none⟩)) ∧ f743 6 = (Value.int .i64 ((table).length : Int)) ∧ f743 7 = u103 ∧ f743 11 = (Value.pointer (some ⟨b117, 0, none⟩)) ∧ f743 43 = (Value.int .i64 ((table).length : Int)) ∧ f743 44 = Value.int .i64 (((table).length : Nat) : Int) ∧ InR .i64 (((table).length : Nat) : Int) ∧ St w wd744 [bx b1 [(Value.slice none 0 0)], (Ty.sl (Ty.i .i64)).at u103 x102, (Ty.sl (Ty.sl (Ty.sl (Ty.i .i64)))).at u112 x748, bx b117 [u112]] := hI746
        obtain ⟨hf749, hf750, hf751, hf752, hf753, hf754, hf755, hf756, hr757, hS758⟩ := hI746
        refine W.seq (W.region ?_)
        refine WL.val (Value.bool (decide ((((table).length : Nat) : Int) < ((table).length : Int)))) _ (op_lss hf756 hf755) rfl ?_
        have hl759 : ¬ (((table).length : Nat) : Int) < ((table).length : Int) := by omega
        refine WL.nil ?_
        refine W.seq ?_
        refine W.condF (decide ((((table).length : Nat) : Int) < ((table).length : Int))) rfl (decide_eq_false hl759) ?_
        refine W.exit ?_
        show _ = _ ∧ _
        exact ⟨rfl, _, hs745, hf751, hf754, (St.pick hS758 [0, 2, 3] rfl)⟩
    · rintro f760 wd761 ⟨x764, rfl, hq762⟩
      replace h := onRes_fin h
      replace hq762 : f760 4 = (Value.pointer (some ⟨b1, 0, none⟩)) ∧ f760 11 = (Value.pointer (some ⟨b117, 0, none⟩)) ∧ St w wd761 [bx b1 [(Value.slice none 0 0)], (Ty.sl (Ty.sl (Ty.sl (Ty.i .i64)))).at u112 x764, bx b117 [u112]] := hq762
      obtain ⟨hf765, hf766, hS767⟩ := hq762
      refine W.seq ?_
      obtain ⟨x792, hx793, h⟩ := bs h
      refine W.drawR mixo 3 [] [fun _ v S w' => v = (Value.agg #[u112]), fun _ v S w' => v = (Value.agg #[u112]), fun _ v _ _ => v = (Value.bool x792)] (by kernel_rfl) (by kernel_rfl) ⟨pk, pk, pk, trivial⟩ ⟨?_, ?_, ?_, trivial⟩ ?_
      · refine ObX.op rfl fun f768 wd769 he770 hout771 hphi772 => ?_
        have hS773 := St.extend hS767 he770
        have e774 : f768 11 = (Value.pointer (some ⟨b117, 0, none⟩)) := (hout771 11 rfl).trans hf766
        exact OpX.val (Value.agg #[u112]) wd769 rfl (op_loadBox st_29 e774 (St.boxAt hS773 2 rfl) rfl rfl) (Ext.refl _) rfl
      · refine ObX.op rfl fun f775 wd776 he777 hout778 hphi779 => ?_
        have hS780 := St.extend hS767 he777
        have e781 : f775 11 = (Value.pointer (some ⟨b117, 0, none⟩)) := (hout778 11 rfl).trans hf766
        exact OpX.val (Value.agg #[u112]) wd776 rfl (op_loadBox st_29 e781 (St.boxAt hS780 2 rfl) rfl rfl) (Ext.refl _) rfl
      · refine ObX.op rfl fun f782 wd783 he784 hout785 hphi786 => ?_
        have hS787 := St.extend hS767 he784
        obtain ⟨S788, hS789, hf790⟩ := hphi786 1 106 _ rfl rfl rfl
        have e791 : f782 106 = (Value.agg #[u112]) := hf790
        refine OpX.call rfl (op_call fn_70 (args1 e791)) (Ret.mono (c_impl_isCube (St.rep (t := (Ty.sl (Ty.sl (Ty.sl (Ty.i .i64))))) hS787 1 rfl) hx793) ?_)
        rintro _ wd794 ⟨rfl, he795⟩
        exact ⟨he795, _, noS _ _, rfl⟩
      · intro f797 wd798 Ss799 he800 hout801 hSn802 hSd803 hphi804
        show WL _ _ _ _ _ _ _
        have hS805 := St.extend hS767 he800
        have e806 : f797 105 = (Value.agg #[u112]) := hphi804 0 105 _ (by decide) rfl rfl
        have e807 : f797 107 = (Value.bool x792) := hphi804 2 107 _ (by decide) rfl rfl
        have e808 : f797 4 = (Value.pointer (some ⟨b1, 0, none⟩)) := (hout801 4 rfl).trans hf765
        refine WL.storeBox [u112] hS805 (k := 0) rfl e808 e806 (us := [u112]) rfl sz_29 rfl rfl (all_rep (St.rep (t := (Ty.sl (Ty.sl (Ty.sl (Ty.i .i64))))) hS805 1 rfl) all_nil) rfl ?_
        intro wd809 hS810
        replace hS810 : St w wd809 [bx b1 [u112], (Ty.sl (Ty.sl (Ty.sl (Ty.i .i64)))).at u112 x764, bx b117 [u112]] := hS810
        refine WL.val (Value.bool x792) _ (op_assign e807) rfl ?_
        refine WL.nil ?_
        refine W.ret ?_
        obtain rfl := Option.some.inj h
        show FinP _ _ _ _ _ _ _
        exact FinP.ret _ (resCT rfl e808 st_29 (St.boxAt hS810 0 rfl) rfl rfl) ⟨u112, rfl, hS810.ext, (St.out (St.pick hS810 [1] rfl) (Ext.refl _))⟩

theorem c_slices_Equal_Lint_int {w : World} {s1 : (List Int)} {v_s1 : Value} {s2 : (List Int)} {v_s2 : Value} (r_s1 : (Ty.sl (Ty.i .i64)).rep w v_s1 s1) (r_s2 : (Ty.sl (Ty.i .i64)).rep w v_s2 s2) {res : Bool} (h : p_slices_Equal_Lint_int s1 s2  = some res) :
    Ret Try.prog 65 #[v_s1, v_s2] w (fun v w' => v = Value.bool res ∧ Ext w w') := by
  unfold p_slices_Equal_Lint_int at h
  have hS0 : St w w [] := St.start w
  refine Ret.start (fn := Try.f65) Try.func65 rfl 26 rfl rfl ?_
  refine W.seq (W.region ?_)
  refine WL.val (Value.bool false) _ (op_assign rfl) rfl ?_
  refine WL.nil ?_
  refine W.seq (W.seq (W.region ?_))
  refine WL.val v_s1 _ (op_move rfl) rfl ?_
  have hr1 := inR_len (Ty.lift _ hS0.ext r_s1)
  refine WL.val (Value.int .i64 ((s1).length : Int)) _ (op_lenL sl_64 (Ty.lift _ hS0.ext r_s1) rfl) rfl ?_
  refine WL.val v_s2 _ (op_move rfl) rfl ?_
  have hr2 := inR_len (Ty.lift _ hS0.ext r_s2)
  refine WL.val (Value.int .i64 ((s2).length : Int)) _ (op_lenL sl_64 (Ty.lift _ hS0.ext r_s2) rfl) rfl ?_
  refine WL.val (Value.bool (((s1).length : Int) != ((s2).length : Int))) _ (op_neq rfl rfl) rfl ?_
  refine WL.nil ?_
  refine W.cond (((s1).length : Int) != ((s2).length : Int)) rfl (fun hc3 => ?_) (fun hc3 => ?_)
  · replace h := ip h hc3
    refine W.seq (W.region ?_)
    refine WL.val (Value.bool false) _ (op_assign rfl) rfl ?_
    refine WL.nil ?_
    refine W.ret ?_
    obtain rfl := Option.some.inj h
    show FinP _ _ _ _ _ _ _
    exact FinP.ret _ (res1 rfl rfl) ⟨rfl, hS0.ext⟩
  · replace h := inegb h hc3
    refine W.skip ?_
    refine W.seq (W.seq (W.region ?_))
    refine WL.val v_s1 _ (op_move rfl) rfl ?_
    have hr5 := inR_len (Ty.lift _ hS0.ext r_s1)
    refine WL.val (Value.int .i64 ((s1).length : Int)) _ (op_lenL sl_64 (Ty.lift _ hS0.ext r_s1) rfl) rfl ?_
    refine WL.val (Value.int .i64 (0 : Int)) _ (op_move rfl) rfl ?_
    refine WL.nil ?_
    show W _ _ _ _ _ _
    obtain ⟨res6, hres7, h⟩ := bs h
    refine W.blockLoop (fun fq wq => ∃ s, res6 = Res.fin s ∧ St w wq []) ?_ ?_
    · refine W.forN (fun k (s : Unit) fq wq => fq 0 = v_s1 ∧ fq 1 = v_s2 ∧ fq 12 = (Value.int .i64 ((s1).length : Int)) ∧ fq 13 = Value.int .i64 (k : Int) ∧ InR .i64 (k : Int) ∧ St w wq []) hres7 ⟨rfl, rfl, rfl, rfl, (inL rfl), hS0⟩ ?_ ?_
      · intro k8 s136 ct9 f10 wd11 hk12 hb13 hI14 hbrk15 hret16
        obtain ⟨⟩ := s136
        replace hI14 : f10 0 = v_s1 ∧ f10 1 = v_s2 ∧ f10 12 = (Value.int .i64 ((s1).length : Int)) ∧ f10 13 = Value.int .i64 (k8 : Int) ∧ InR .i64 (k8 : Int) ∧ St w wd11 [] := hI14
        replace hb13 : p_slices_Equal_Lint_int_L1 s1 s2 k8  = some ct9 := hb13
        unfold p_slices_Equal_Lint_int_L1 at hb13
        obtain ⟨hf17, hf18, hf19, hf20, hr21, hS22⟩ := hI14
        refine W.seq (W.region ?_)
        refine WL.val (Value.bool (decide ((k8 : Int) < ((s1).length : Int)))) _ (op_lss hf20 hf19) rfl ?_
        have hl23 : (k8 : Int) < ((s1).length : Int) := by omega
        refine WL.nil ?_
        refine W.seq ?_
        refine W.condT (decide ((k8 : Int) < ((s1).length : Int))) rfl (decide_eq_true hl23) ?_
        refine W.skip ?_
        refine W.seq ?_
        refine W.block ?_
        refine W.seq (W.region ?_)
        refine WL.val (Value.int .i64 (k8 : Int)) _ (op_move hf20) rfl ?_
        refine WL.val (Value.int .i64 (k8 : Int)) _ (op_assign rfl) rfl ?_
        refine WL.nil ?_
        refine W.seq ?_
        obtain ⟨x54, hx57, hb13⟩ := bs hb13
        obtain ⟨ha55, hb56, hx57⟩ := idx_some hx57
        obtain ⟨u68, hc69, hr70⟩ := repSl.el r_s1 hx57
        obtain ⟨rfl, hr70⟩ := hr70
        obtain ⟨x100, hx103, hb13⟩ := bs hb13
        obtain ⟨ha101, hb102, hx103⟩ := idx_some hx103
        obtain ⟨u114, hc115, hr116⟩ := repSl.el r_s2 hx103
        obtain ⟨rfl, hr116⟩ := hr116
        refine W.drawR mixo 8 [] [fun _ v _ _ => v = v_s1, fun _ v _ _ => v = (Value.int .i64 (k8 : Int)) ∧ InR .i64 (k8 : Int), fun _ v _ _ => v = (Value.pointer (some (elA v_s1 ((k8 : Int)).toNat))), fun _ v _ _ => v = (Value.int .i64 x54) ∧ InR .i64 x54, fun _ v _ _ => v = v_s2, fun _ v _ _ => v = (Value.int .i64 (k8 : Int)) ∧ InR .i64 (k8 : Int), fun _ v _ _ => v = (Value.pointer (some (elA v_s2 ((k8 : Int)).toNat))), fun _ v _ _ => v = (Value.int .i64 x100) ∧ InR .i64 x100] (by kernel_rfl) (by kernel_rfl) ⟨pk, pk, pk, pk, pk, pk, pk, pk, trivial⟩ ⟨?_, ?_, ?_, ?_, ?_, ?_, ?_, ?_, trivial⟩ ?_
        · refine ObX.op rfl fun f25 wd26 he27 hout28 hphi29 => ?_
          have e31 : f25 0 = v_s1 := (hout28 0 rfl).trans hf17
          exact OpX.val v_s1 wd26 rfl (op_move e31) (Ext.refl _) rfl
        · refine ObX.op rfl fun f32 wd33 he34 hout35 hphi36 => ?_
          have e38 : f32 5 = (Value.int .i64 (k8 : Int)) := (hout35 5 rfl).trans rfl
          exact OpX.val (Value.int .i64 (k8 : Int)) wd33 rfl (op_move e38) (Ext.refl _) ⟨rfl, hr21⟩
        · refine ObX.op rfl fun f39 wd40 he41 hout42 hphi43 => ?_
          have hS44 := St.extend hS22 he41
          obtain ⟨S45, hS46, hf47⟩ := hphi43 0 16 _ rfl rfl rfl
          have e48 : f39 16 = v_s1 := hf47
          obtain ⟨S49, hS50, hf51⟩ := hphi43 1 17 _ rfl rfl rfl
          obtain ⟨e52, hr53⟩ := hf51
          exact OpX.val (Value.pointer (some (elA v_s1 ((k8 : Int)).toNat))) wd40 rfl (op_idx sl_64 (Ty.lift _ hS44.ext r_s1) e48 e52 ha55 hb56) (Ext.refl _) rfl
        · refine ObX.op rfl fun f58 wd59 he60 hout61 hphi62 => ?_
          have hS63 := St.extend hS22 he60
          obtain ⟨S64, hS65, hf66⟩ := hphi62 2 18 _ rfl rfl rfl
          have e67 : f58 18 = (Value.pointer (some (elA v_s1 ((k8 : Int)).toNat))) := hf66
          exact OpX.val (Value.int .i64 x54) wd59 rfl (op_load one_3 e67 (Ext.cell hS63.ext hc69)) (Ext.refl _) ⟨rfl, hr70⟩
        · refine ObX.op rfl fun f71 wd72 he73 hout74 hphi75 => ?_
          have e77 : f71 1 = v_s2 := (hout74 1 rfl).trans hf18
          exact OpX.val v_s2 wd72 rfl (op_move e77) (Ext.refl _) rfl
        · refine ObX.op rfl fun f78 wd79 he80 hout81 hphi82 => ?_
          have e84 : f78 5 = (Value.int .i64 (k8 : Int)) := (hout81 5 rfl).trans rfl
          exact OpX.val (Value.int .i64 (k8 : Int)) wd79 rfl (op_move e84) (Ext.refl _) ⟨rfl, hr21⟩
        · refine ObX.op rfl fun f85 wd86 he87 hout88 hphi89 => ?_
          have hS90 := St.extend hS22 he87
          obtain ⟨S91, hS92, hf93⟩ := hphi89 4 20 _ rfl rfl rfl
          have e94 : f85 20 = v_s2 := hf93
          obtain ⟨S95, hS96, hf97⟩ := hphi89 5 21 _ rfl rfl rfl
          obtain ⟨e98, hr99⟩ := hf97
          exact OpX.val (Value.pointer (some (elA v_s2 ((k8 : Int)).toNat))) wd86 rfl (op_idx sl_64 (Ty.lift _ hS90.ext r_s2) e94 e98 ha101 hb102) (Ext.refl _) rfl
        · refine ObX.op rfl fun f104 wd105 he106 hout107 hphi108 => ?_
          have hS109 := St.extend hS22 he106
          obtain ⟨S110, hS111, hf112⟩ := hphi108 6 22 _ rfl rfl rfl
          have e113 : f104 22 = (Value.pointer (some (elA v_s2 ((k8 : Int)).toNat))) := hf112
          exact OpX.val (Value.int .i64 x100) wd105 rfl (op_load one_3 e113 (Ext.cell hS109.ext hc115)) (Ext.refl _) ⟨rfl, hr116⟩
        · intro f117 wd118 Ss119 he120 hout121 hSn122 hSd123 hphi124
          show WL _ _ _ _ _ _ _
          have hS125 := St.extend hS22 he120
          obtain ⟨e126, hr127⟩ := hphi124 3 19 _ (by decide) rfl rfl
          obtain ⟨e128, hr129⟩ := hphi124 7 23 _ (by decide) rfl rfl
          have e130 : f117 0 = v_s1 := (hout121 0 rfl).trans hf17
          have e131 : f117 1 = v_s2 := (hout121 1 rfl).trans hf18
          have e132 : f117 12 = (Value.int .i64 ((s1).length : Int)) := (hout121 12 rfl).trans hf19
          have e133 : f117 13 = (Value.int .i64 (k8 : Int)) := (hout121 13 rfl).trans hf20
          refine WL.val (Value.bool (x54 != x100)) _ (op_neq e126 e128) rfl ?_
          refine WL.nil ?_
          refine W.cond (x54 != x100) rfl (fun hc134 => ?_) (fun hc134 => ?_)
          · replace hb13 := ip hb13 hc134
            refine W.seq (W.region ?_)
            refine WL.val (Value.bool false) _ (op_assign rfl) rfl ?_
            refine WL.nil ?_
            refine W.ret ?_
            obtain rfl := Option.some.inj hb13
            obtain rfl := hret16 _ rfl
            replace h := onRes_ret h
            obtain rfl := Option.some.inj h
            show FinP _ _ _ _ _ _ _
            exact FinP.ret _ (res1 rfl rfl) ⟨rfl, hS125.ext⟩
          · replace hb13 := inegb hb13 hc134
            refine W.skip ?_
            show W _ _ _ _ _ _
            refine W.region ?_
            refine WL.val (Value.int .i64 (w64 ((k8 : Int) + (1 : Int)))) _ (op_add e133 rfl) rfl ?_
            refine WL.val (Value.int .i64 (w64 ((k8 : Int) + (1 : Int)))) _ (op_move rfl) rfl ?_
            refine WL.nil ?_
            obtain rfl := Option.some.inj hb13
            show ∃ s, _ = Ctl.next s ∧ _
            exact ⟨_, rfl, e130, e131, e132, (ctr_next hl23 hr5), (ctr_rng hl23 hr5), hS125⟩
      · intro s141 f137 wd138 hs139 hI140
        obtain ⟨⟩ := s141
        replace hI140 : f137 0 = v_s1 ∧ f137 1 = v_s2 ∧ f137 12 = (Value.int .i64 ((s1).length : Int)) ∧ f137 13 = Value.int .i64 (((s1).length : Nat) : Int) ∧ InR .i64 (((s1).length : Nat) : Int) ∧ St w wd138 [] := hI140
        obtain ⟨hf142, hf143, hf144, hf145, hr146, hS147⟩ := hI140
        refine W.seq (W.region ?_)
        refine WL.val (Value.bool (decide ((((s1).length : Nat) : Int) < ((s1).length : Int)))) _ (op_lss hf145 hf144) rfl ?_
        have hl148 : ¬ (((s1).length : Nat) : Int) < ((s1).length : Int) := by omega
        refine WL.nil ?_
        refine W.seq ?_
        refine W.condF (decide ((((s1).length : Nat) : Int) < ((s1).length : Int))) rfl (decide_eq_false hl148) ?_
        refine W.exit ?_
        show _ = _ ∧ _
        exact ⟨rfl, _, hs139, hS147⟩
    · rintro f149 wd150 ⟨s152, rfl, hq151⟩
      replace h := onRes_fin h
      obtain ⟨⟩ := s152
      replace hq151 : St w wd150 [] := hq151
      have hS153 := hq151
      refine W.seq (W.region ?_)
      refine WL.val (Value.bool true) _ (op_assign rfl) rfl ?_
      refine WL.nil ?_
      refine W.ret ?_
      obtain rfl := Option.some.inj h
      show FinP _ _ _ _ _ _ _
      exact FinP.ret _ (res1 rfl rfl) ⟨rfl, hS153.ext⟩

theorem c_impl_RingOfCharacters {w : World} {table : (List (List Int))} {v_table : Value} {duals : (List Int)} {v_duals : Value} (r_table : (Ty.sl (Ty.sl (Ty.i .i64))).rep w v_table table) (r_duals : (Ty.sl (Ty.i .i64)).rep w v_duals duals) {res : (List (List (List Int))) × Int} (h : p_impl_RingOfCharacters table duals  = some res) :
    Ret Try.prog 30 #[v_table, v_duals] w (fun v w' => ∃ (u0 : Value), v = (Value.tuple #[(Value.agg #[u0]), Value.int .i64 res.2]) ∧ InR .i64 res.2 ∧ Ext w w' ∧ Sep w.heap.size w' [(Ty.sl (Ty.sl (Ty.sl (Ty.i .i64)))).at u0 res.1]) := by
  unfold p_impl_RingOfCharacters at h
  have hS0 : St w w [] := St.start w
  refine Ret.start (fn := Try.f30) Try.func30 rfl 81 rfl rfl ?_
  refine W.seq (W.region ?_)
  refine WL.alloc hS0 ze_29 (cs := [(Value.slice none 0 0)]) rfl rfl ?_
  intro b1 wd2 hS3 he4
  replace hS3 : St w wd2 [bx b1 [(Value.slice none 0 0)]] := hS3
  refine WL.val (Value.int .i64 (0 : Int)) _ (op_assign rfl) rfl ?_
  refine WL.nil ?_
  refine W.seq (W.region ?_)
  refine WL.val v_table _ (op_move rfl) rfl ?_
  have hr5 := inR_len (Ty.lift _ hS3.ext r_table)
  refine WL.val (Value.int .i64 ((table).length : Int)) _ (op_lenL sl_43 (Ty.lift _ hS3.ext r_table) rfl) rfl ?_
  refine WL.alloc hS3 ze_3 (cs := [(Value.int .i64 (0 : Int))]) rfl rfl ?_
  intro b6 wd7 hS8 he9
  replace hS8 : St w wd7 [bx b1 [(Value.slice none 0 0)], bx b6 [(Value.int .i64 (0 : Int))]] := hS8
  refine WL.storeBox [(Value.int .i64 ((table).length : Int))] hS8 (k := 1) rfl rfl rfl (us := [(Value.int .i64 ((table).length : Int))]) rfl sz_3 rfl rfl (all_cons rfl all_nil) rfl ?_
  intro wd10 hS11
  replace hS11 : St w wd10 [bx b1 [(Value.slice none 0 0)], bx b6 [(Value.int .i64 ((table).length : Int))]] := hS11
  refine WL.nil ?_
  refine W.seq (W.region ?_)
  refine WL.val (Value.func (.func 59) #[] #[(Value.pointer (some ⟨b6, 0, none⟩))]) _ (op_makeFunc (va := #[]) (vb := #[(Value.pointer (some ⟨b6, 0, none⟩))]) args0 (args1 rfl)) rfl ?_
  refine WL.val (Value.func (.func 59) #[] #[(Value.pointer (some ⟨b6, 0, none⟩))]) _ (op_assign rfl) rfl ?_
  refine WL.nil ?_
  refine W.seq (W.seq (W.region ?_))
  refine WL.val (Value.int .i64 ((table).length : Int)) _ (op_load one_3 rfl (BoxAt.cell (St.boxAt hS11 1 rfl) rfl)) rfl ?_
  refine WL.val (Value.bool (decide (((table).length : Int) < (1 : Int)))) _ (op_lss rfl rfl) rfl ?_
  refine WL.val (Value.bool (decide (((table).length : Int) < (1 : Int)))) _ (op_move rfl) rfl ?_
  refine WL.cut 3 (fun fq wq => fq 0 = v_table ∧ fq 1 = v_duals ∧ fq 4 = (Value.pointer (some ⟨b1, 0, none⟩)) ∧ fq 6 = (Value.pointer (some ⟨b6, 0, none⟩)) ∧ fq 7 = (Value.func (.func 59) #[] #[(Value.pointer (some ⟨b6, 0, none⟩))]) ∧ fq 21 = (Value.bool ((decide (((table).length : Int) < (1 : Int))) || (decide (((table).length : Int) > (16 : Int))))) ∧ St w wq [bx b1 [(Value.slice none 0 0)], bx b6 [(Value.int .i64 ((table).length : Int))]]) ?_ ?_
  · rcases Bool.eq_false_or_eq_true (decide (((table).length : Int) < (1 : Int))) with hc12 | hc12
    · refine WL.gskip rfl (bool_of rfl hc12) rfl ?_
      refine WL.gskip rfl (bool_of rfl hc12) rfl ?_
      refine WL.val (Value.bool true) _ (op_pick_t (evb_of rfl hc12) rfl) rfl ?_
      refine WL.nil ?_
      exact ⟨rfl, rfl, rfl, rfl, rfl, rfl, (orT hc12), hS11⟩
    · refine WL.grun rfl (bool_of rfl hc12) ?_
      refine WL.val (Value.int .i64 ((table).length : Int)) _ (op_load one_3 rfl (BoxAt.cell (St.boxAt hS11 1 rfl) rfl)) rfl ?_
      refine WL.grun rfl (bool_of rfl hc12) ?_
      refine WL.val (Value.bool (decide (((table).length : Int) > (16 : Int)))) _ (op_gtr rfl rfl) rfl ?_
      refine WL.val (Value.bool (decide (((table).length : Int) > (16 : Int)))) _ (op_pick_f (evb_of rfl hc12) rfl) rfl ?_
      refine WL.nil ?_
      exact ⟨rfl, rfl, rfl, rfl, rfl, rfl, (orF hc12), hS11⟩
  · intro f13 wd14 hq15
    obtain ⟨hf16, hf17, hf18, hf19, hf20, hf21, hS22⟩ := hq15
    refine WL.val (Value.bool ((decide (((table).length : Int) < (1 : Int))) || (decide (((table).length : Int) > (16 : Int))))) _ (op_move hf21) rfl ?_
    obtain ⟨x24, hj25, h⟩ := bs h
    refine WL.cut 4 (fun fq wq => fq 0 = v_table ∧ fq 1 = v_duals ∧ fq 4 = (Value.pointer (some ⟨b1, 0, none⟩)) ∧ fq 6 = (Value.pointer (some ⟨b6, 0, none⟩)) ∧ fq 26 = Value.bool x24 ∧ St w wq [bx b1 [(Value.slice none 0 0)], bx b6 [(Value.int .i64 ((table).length : Int))]]) ?_ ?_
    · rcases Bool.eq_false_or_eq_true ((decide (((table).length : Int) < (1 : Int))) || (decide (((table).length : Int) > (16 : Int)))) with hc23 | hc23
      · replace hj25 := ip hj25 hc23
        refine WL.gskip rfl (bool_of rfl hc23) rfl ?_
        refine WL.gskip rfl (bool_of rfl hc23) rfl ?_
        refine WL.gskip rfl (bool_of rfl hc23) rfl ?_
        refine WL.val (Value.bool true) _ (op_pick_t (evb_of rfl hc23) rfl) rfl ?_
        refine WL.nil ?_
        obtain rfl := Option.some.inj hj25
        exact ⟨rfl, hf16, hf17, hf18, hf19, rfl, hS22⟩
      · replace hj25 := inegb hj25 hc23
        refine WL.grun rfl (bool_of rfl hc23) ?_
        refine WL.val v_table _ (op_move hf16) rfl ?_
        refine WL.grun rfl (bool_of rfl hc23) ?_
        refine WL.val (Value.func (.func 59) #[] #[(Value.pointer (some ⟨b6, 0, none⟩))]) _ (op_move hf20) rfl ?_
        refine WL.grun rfl (bool_of rfl hc23) ?_
        obtain ⟨x33, hx34, hj25⟩ := bs hj25
        refine WL.call _ (op_call fn_61 (args2 rfl rfl)) (c_slices_ContainsFunc_LLint64_Lint64 (Ty.lift _ hS22.ext r_table) (⟨59, #[], #[(Value.pointer (some ⟨b6, 0, none⟩))], rfl, fn_59, fun wd29 u0_30 a0_30 r31 he30 ra0_30 hq32 => c_impl_RingOfCharacters_c1 ra0_30 (BoxAt.lift he30 (St.boxAt hS22 1 rfl)) hr5 hq32⟩) hx34) rfl ?_
        rintro _ wd35 ⟨rfl, he36⟩
        have hS38 := St.extend hS22 he36
        replace hS38 : St w wd35 [bx b1 [(Value.slice none 0 0)], bx b6 [(Value.int .i64 ((table).length : Int))]] := hS38
        refine WL.val (Value.bool x33) _ (op_pick_f (evb_of rfl hc23) rfl) rfl ?_
        refine WL.nil ?_
        obtain rfl := Option.some.inj hj25
        exact ⟨rfl, hf16, hf17, hf18, hf19, rfl, hS38⟩
    · intro f26 wd27 hq28
      obtain ⟨hf39, hf40, hf41, hf42, hf43, hS44⟩ := hq28
      refine WL.val (Value.bool x24) _ (op_move hf43) rfl ?_
      obtain ⟨x46, hj47, h⟩ := bs h
      refine WL.cut 7 (fun fq wq => fq 0 = v_table ∧ fq 1 = v_duals ∧ fq 4 = (Value.pointer (some ⟨b1, 0, none⟩)) ∧ fq 6 = (Value.pointer (some ⟨b6, 0, none⟩)) ∧ fq 34 = Value.bool x46 ∧ St w wq [bx b1 [(Value.slice none 0 0)], bx b6 [(Value.int .i64 ((table).length : Int))]]) ?_ ?_
      · rcases Bool.eq_false_or_eq_true x24 with hc45 | hc45
        · replace hj47 := ip hj47 hc45
          refine WL.gskip rfl (bool_of rfl hc45) rfl ?_
          refine WL.gskip rfl (bool_of rfl hc45) rfl ?_
          refine WL.gskip rfl (bool_of rfl hc45) rfl ?_
          refine WL.gskip rfl (bool_of rfl hc45) rfl ?_
          refine WL.gskip rfl (bool_of rfl hc45) rfl ?_
          refine WL.gskip rfl (bool_of rfl hc45) rfl ?_
          refine WL.val (Value.bool true) _ (op_pick_t (evb_of rfl hc45) rfl) rfl ?_
          refine WL.nil ?_
          obtain rfl := Option.some.inj hj47
          exact ⟨rfl, hf39, hf40, hf41, hf42, rfl, hS44⟩
        · replace hj47 := inegb hj47 hc45
          refine WL.grun rfl (bool_of rfl hc45) ?_
          refine WL.val v_duals _ (op_move hf40) rfl ?_
          refine WL.grun rfl (bool_of rfl hc45) ?_
          have hr51 := inR_len (Ty.lift _ hS44.ext r_duals)
          refine WL.val (Value.int .i64 ((duals).length : Int)) _ (op_lenL sl_25 (Ty.lift _ hS44.ext r_duals) rfl) rfl ?_
          refine WL.grun rfl (bool_of rfl hc45) ?_
          refine WL.val (Value.int .i64 ((table).length : Int)) _ (op_load one_3 hf42 (BoxAt.cell (St.boxAt hS44 1 rfl) rfl)) rfl ?_
          refine WL.grun rfl (bool_of rfl hc45) ?_
          refine WL.val (Value.int .i64 ((table).length : Int)) _ (op_load one_3 hf42 (BoxAt.cell (St.boxAt hS44 1 rfl) rfl)) rfl ?_
          refine WL.grun rfl (bool_of rfl hc45) ?_
          obtain ⟨x52, hx53, hj47⟩ := bs hj47
          refine WL.call _ (op_call fn_62 (args3 rfl rfl rfl)) (c_impl_within hr51 hr5 hr5 hx53) rfl ?_
          rintro _ wd54 ⟨rfl, he55⟩
          have hS57 := St.extend hS44 he55
          replace hS57 : St w wd54 [bx b1 [(Value.slice none 0 0)], bx b6 [(Value.int .i64 ((table).length : Int))]] := hS57
          refine WL.grun rfl (bool_of rfl hc45) ?_
          refine WL.val (Value.bool (!x52)) _ (op_not rfl) rfl ?_
          refine WL.val (Value.bool (!x52)) _ (op_pick_f (evb_of rfl hc45) rfl) rfl ?_
          refine WL.nil ?_
          obtain rfl := Option.some.inj hj47
          exact ⟨rfl, hf39, hf40, hf41, hf42, rfl, hS57⟩
      · intro f48 wd49 hq50
        obtain ⟨hf58, hf59, hf60, hf61, hf62, hS63⟩ := hq50
        refine WL.val (Value.bool x46) _ (op_move hf62) rfl ?_
        obtain ⟨x65, hj66, h⟩ := bs h
        refine WL.cut 5 (fun fq wq => fq 0 = v_table ∧ fq 1 = v_duals ∧ fq 4 = (Value.pointer (some ⟨b1, 0, none⟩)) ∧ fq 40 = Value.bool x65 ∧ St w wq [bx b1 [(Value.slice none 0 0)]]) ?_ ?_
        · rcases Bool.eq_false_or_eq_true x46 with hc64 | hc64
          · replace hj66 := ip hj66 hc64
            refine WL.gskip rfl (bool_of rfl hc64) rfl ?_
            refine WL.gskip rfl (bool_of rfl hc64) rfl ?_
            refine WL.gskip rfl (bool_of rfl hc64) rfl ?_
            refine WL.gskip rfl (bool_of rfl hc64) rfl ?_
            refine WL.val (Value.bool true) _ (op_pick_t (evb_of rfl hc64) rfl) rfl ?_
            refine WL.nil ?_
            obtain rfl := Option.some.inj hj66
            exact ⟨rfl, hf58, hf59, hf60, rfl, (St.pick hS63 [0] rfl)⟩
          · replace hj66 := inegb hj66 hc64
            refine WL.grun rfl (bool_of rfl hc64) ?_
            refine WL.val v_duals _ (op_move hf59) rfl ?_
            refine WL.grun rfl (bool_of rfl hc64) ?_
            refine WL.val (Value.int .i64 ((table).length : Int)) _ (op_load one_3 hf61 (BoxAt.cell (St.boxAt hS63 1 rfl) rfl)) rfl ?_
            refine WL.grun rfl (bool_of rfl hc64) ?_
            obtain ⟨x70, hx71, hj66⟩ := bs hj66
            refine WL.call _ (op_call fn_63 (args2 rfl rfl)) (c_impl_areDuals (Ty.lift _ hS63.ext r_duals) hr5 hx71) rfl ?_
            rintro _ wd72 ⟨rfl, he73⟩
            have hS75 := St.extend hS63 he73
            replace hS75 : St w wd72 [bx b1 [(Value.slice none 0 0)], bx b6 [(Value.int .i64 ((table).length : Int))]] := hS75
            refine WL.grun rfl (bool_of rfl hc64) ?_
            refine WL.val (Value.bool (!x70)) _ (op_not rfl) rfl ?_
            refine WL.val (Value.bool (!x70)) _ (op_pick_f (evb_of rfl hc64) rfl) rfl ?_
            refine WL.nil ?_
            obtain rfl := Option.some.inj hj66
            exact ⟨rfl, hf58, hf59, hf60, rfl, (St.pick hS75 [0] rfl)⟩
        · intro f67 wd68 hq69
          obtain ⟨hf76, hf77, hf78, hf79, hS80⟩ := hq69
          refine WL.nil ?_
          refine W.cond x65 hf79 (fun hc81 => ?_) (fun hc81 => ?_)
          · replace h := ip h hc81
            refine W.seq (W.region ?_)
            refine WL.val (Value.agg #[(Value.slice none 0 0)]) _ (op_build bd_29 (parts := []) (partsL trivial) trivial rfl) rfl ?_
            have hS85 := St.addNil (Ty.sl (Ty.sl (Ty.i .i64))) hS80
            replace hS85 : St w wd68 [bx b1 [(Value.slice none 0 0)], (Ty.sl (Ty.sl (Ty.sl (Ty.i .i64)))).at (Value.slice none 0 0) ([] : (List (List (List Int))))] := hS85
            refine WL.storeBox [(Value.slice none 0 0)] hS85 (k := 0) rfl hf78 rfl (us := [(Value.slice none 0 0)]) rfl sz_29 rfl rfl (all_rep (St.rep (t := (Ty.sl (Ty.sl (Ty.sl (Ty.i .i64))))) hS85 1 rfl) all_nil) rfl ?_
            intro wd83 hS84
            replace hS84 : St w wd83 [bx b1 [(Value.slice none 0 0)], (Ty.sl (Ty.sl (Ty.sl (Ty.i .i64)))).at (Value.slice none 0 0) ([] : (List (List (List Int))))] := hS84
            refine WL.val (Value.int .i64 (2 : Int)) _ (op_assign rfl) rfl ?_
            refine WL.nil ?_
            refine W.ret ?_
            obtain rfl := Option.some.inj h
            show FinP _ _ _ _ _ _ _
            exact FinP.ret _ (resCT rfl hf78 st_29 (St.boxAt hS84 0 rfl) rfl rfl) ⟨(Value.slice none 0 0), rfl, (inL rfl), hS84.ext, (St.out (St.pick hS84 [1] rfl) (Ext.refl _))⟩
          · replace h := inegb h hc81
            refine W.skip ?_
            refine W.seq (W.region ?_)
            refine WL.lit0 (t := (Ty.i .i64)) hS80 sl_64 rfl rfl ?_
            intro u86 wd87 hS88 he89
            replace hS88 : St w wd87 [bx b1 [(Value.slice none 0 0)], (Ty.sl (Ty.i .i64)).at u86 ([] : (List Int))] := hS88
            refine WL.val u86 _ (op_assign rfl) rfl ?_
            refine WL.nil ?_
            refine W.seq (W.seq (W.region ?_))
            refine WL.val v_duals _ (op_move hf77) rfl ?_
            have hr90 := inR_len (Ty.lift _ hS88.ext r_duals)
            refine WL.val (Value.int .i64 ((duals).length : Int)) _ (op_lenL sl_25 (Ty.lift _ hS88.ext r_duals) rfl) rfl ?_
            refine WL.val (Value.int .i64 (0 : Int)) _ (op_move rfl) rfl ?_
            refine WL.nil ?_
            show W _ _ _ _ _ _
            obtain ⟨res91, hres92, h⟩ := bs h
            refine W.blockLoop (fun fq wq => ∃ s, res91 = Res.fin s ∧ ∃ (uu0 : Value), fq 0 = v_table ∧ fq 4 = (Value.pointer (some ⟨b1, 0, none⟩)) ∧ fq 8 = uu0 ∧ St w wq [bx b1 [(Value.slice none 0 0)], (Ty.sl (Ty.i .i64)).at uu0 s]) ?_ ?_
            · refine W.forN (fun k (s : (List Int)) fq wq => ∃ (uu0 : Value), fq 0 = v_table ∧ fq 4 = (Value.pointer (some ⟨b1, 0, none⟩)) ∧ fq 8 = uu0 ∧ fq 43 = v_duals ∧ fq 44 = (Value.int .i64 ((duals).length : Int)) ∧ fq 45 = Value.int .i64 (k : Int) ∧ InR .i64 (k : Int) ∧ St w wq [bx b1 [(Value.slice none 0 0)], (Ty.sl (Ty.i .i64)).at uu0 s]) hres92 ⟨u86, hf76, hf78, rfl, rfl, rfl, rfl, (inL rfl), hS88⟩ ?_ ?_
              · intro k93 x94 ct95 f96 wd97 hk98 hb99 hI100 hbrk101 hret102
                replace hI100 : ∃ (uu0 : Value), f96 0 = v_table ∧ f96 4 = (Value.pointer (some ⟨b1, 0, none⟩)) ∧ f96 8 = uu0 ∧ f96 43 = v_duals ∧ f96 44 = (Value.int .i64 ((duals).length : Int)) ∧ f96 45 = Value.int .i64 (k93 : Int) ∧ InR .i64 (k93 : Int) ∧ St w wd97 [bx b1 [(Value.slice none 0 0)], (Ty.sl (Ty.i .i64)).at uu0 x94] := hI100
                replace hb99 : p_impl_RingOfCharacters_L1 duals k93 x94 = some ct95 := hb99
                unfold p_impl_RingOfCharacters_L1 at hb99
                obtain ⟨u103, hf104, hf105, hf106, hf107, hf108, hf109, hr110, hS111⟩ := hI100
                refine W.seq (W.region ?_)
                refine WL.val (Value.bool (decide ((k93 : Int) < ((duals).length : Int)))) _ (op_lss hf109 hf108) rfl ?_
                have hl112 : (k93 : Int) < ((duals).length : Int) := by omega
                refine WL.nil ?_
                refine W.seq ?_
                refine W.condT (decide ((k93 : Int) < ((duals).length : Int))) rfl (decide_eq_true hl112) ?_
                refine W.skip ?_
                refine W.seq ?_
                refine W.block ?_
                refine W.seq (W.region ?_)
                obtain ⟨x114, hx117, hb99⟩ := bs hb99
                obtain ⟨ha115, hb116, hx117⟩ := idx_some hx117
                refine WL.val (Value.pointer (some (elA v_duals ((k93 : Int)).toNat))) _ (op_idx sl_25 (Ty.lift _ hS111.ext r_duals) hf107 hf109 ha115 hb116) rfl ?_
                obtain ⟨u118, hc119, hr120⟩ := repSl.el r_duals hx117
                obtain ⟨rfl, hr120⟩ := hr120
                refine WL.val (Value.int .i64 x114) _ (op_load one_2 rfl (Ext.cell hS111.ext hc119)) rfl ?_
                refine WL.val (Value.int .i64 x114) _ (op_assign rfl) rfl ?_
                refine WL.nil ?_
                show W _ _ _ _ _ _
                refine W.region ?_
                refine WL.val u103 _ (op_move hf106) rfl ?_
                refine WL.val (Value.int .i64 x114) _ (op_move rfl) rfl ?_
                refine WL.litFlat (t := (Ty.i .i64)) (flat_i .i64) [(Value.int .i64 x114)] [x114] hS111 sl_64 rfl rfl (fillL rfl ⟨rfl, rfl, rfl, trivial⟩) rfl rfl (litL ⟨⟨rfl, hr120⟩, trivial⟩) rfl ?_
                intro u121 wd122 hS123 he124
                replace hS123 : St w wd122 [bx b1 [(Value.slice none 0 0)], (Ty.sl (Ty.i .i64)).at u103 x94, (Ty.sl (Ty.i .i64)).at u121 ([x114] : (List Int))] := hS123
                obtain ⟨x125, hx126, hb99⟩ := bs hb99
                refine WL.append (flat_i .i64) hS123 (k := 1) rfl sl_64 rfl rfl rfl rfl (St.rep (t := (Ty.sl (Ty.i .i64))) hS123 2 rfl) hx126 rfl ?_
                intro u127 wd128 hS129 hz130
                replace hS129 : St w wd128 [bx b1 [(Value.slice none 0 0)], (Ty.sl (Ty.i .i64)).at u127 x125, (Ty.sl (Ty.i .i64)).at u121 ([x114] : (List Int))] := hS129
                refine WL.val u127 _ (op_assign rfl) rfl ?_
                refine WL.nil ?_
                show W _ _ _ _ _ _
                refine W.region ?_
                refine WL.val (Value.int .i64 (w64 ((k93 : Int) + (1 : Int)))) _ (op_add hf109 rfl) rfl ?_
                refine WL.val (Value.int .i64 (w64 ((k93 : Int) + (1 : Int)))) _ (op_move rfl) rfl ?_
                refine WL.nil ?_
                obtain rfl := Option.some.inj hb99
                show ∃ s, _ = Ctl.next s ∧ _
                exact ⟨_, rfl, u127, hf104, hf105, rfl, hf107, hf108, (ctr_next hl112 hr90), (ctr_rng hl112 hr90), (St.pick hS129 [0, 1] rfl)⟩
              · intro x137 f132 wd133 hs134 hI135
                replace hI135 : ∃ (uu0 : Value), f132 0 = v_table ∧ f132 4 = (Value.pointer (some ⟨b1, 0, none⟩)) ∧ f132 8 = uu0 ∧ f132 43 = v_duals ∧ f132 44 = (Value.int .i64 ((duals).length : Int)) ∧ f132 45 = Value.int .i64 (((duals).length : Nat) : Int) ∧ InR .i64 (((duals).length : Nat) : Int) ∧ St w wd133 [bx b1 [(Value.slice none 0 0)], (Ty.sl (Ty.i .i64)).at uu0 x137] := hI135
                obtain ⟨u138, hf139, hf140, hf141, hf142, hf143, hf144, hr145, hS146⟩ := hI135
                refine W.seq (W.region ?_)
                refine WL.val (Value.bool (decide ((((duals).length : Nat) : Int) < ((duals).length : Int)))) _ (op_lss hf144 hf143) rfl ?_
                have hl147 : ¬ (((duals).length : Nat) : Int) < ((duals).length : Int) := by omega
                refine WL.nil ?_
                refine W.seq ?_
                refine W.condF (decide ((((duals).length : Nat) : Int) < ((duals).length : Int))) rfl (decide_eq_false hl147) ?_
                refine W.exit ?_
                show _ = _ ∧ _
                exact ⟨rfl, _, hs134, u138, hf139, hf140, hf141, hS146⟩
            · rintro f148 wd149 ⟨x152, rfl, hq150⟩
              replace h := onRes_fin h
              replace hq150 : ∃ (uu0 : Value), f148 0 = v_table ∧ f148 4 = (Value.pointer (some ⟨b1, 0, none⟩)) ∧ f148 8 = uu0 ∧ St w wd149 [bx b1 [(Value.slice none 0 0)], (Ty.sl (Ty.i .i64)).at uu0 x152] := hq150
              obtain ⟨u153, hf154, hf155, hf156, hS157⟩ := hq150
              refine W.seq (W.region ?_)
              refine WL.val v_table _ (op_move hf154) rfl ?_
              refine WL.val u153 _ (op_move hf156) rfl ?_
              obtain ⟨x158, hx159, h⟩ := bs h
              refine WL.call _ (op_call fn_64 (args2 rfl rfl)) (c_impl_toldRing (Ty.lift _ hS157.ext r_table) (St.rep (t := (Ty.sl (Ty.i .i64))) hS157 1 rfl) hx159) rfl ?_
              rintro _ wd161 ⟨u160, rfl, he162, hs163⟩
              have hS164 := St.join hS157 he162 hs163
              replace hS164 : St w wd161 [bx b1 [(Value.slice none 0 0)], (Ty.sl (Ty.i .i64)).at u153 x152, (Ty.sl (Ty.sl (Ty.sl (Ty.i .i64)))).at u160 x158.1] := hS164
              refine WL.val (Value.tuple #[(Value.agg #[u160]), (Value.bool x158.2)]) _ (op_move rfl) rfl ?_
              refine WL.val (Value.agg #[u160]) _ (op_extract rfl rfl) rfl ?_
              refine WL.val (Value.bool x158.2) _ (op_extract rfl rfl) rfl ?_
              refine WL.alloc hS164 ze_29 (cs := [(Value.slice none 0 0)]) rfl rfl ?_
              intro b165 wd166 hS167 he168
              replace hS167 : St w wd166 [bx b1 [(Value.slice none 0 0)], (Ty.sl (Ty.i .i64)).at u153 x152, (Ty.sl (Ty.sl (Ty.sl (Ty.i .i64)))).at u160 x158.1, bx b165 [(Value.slice none 0 0)]] := hS167
              refine WL.storeBox [u160] hS167 (k := 3) rfl rfl rfl (us := [u160]) rfl sz_29 rfl rfl (all_rep (St.rep (t := (Ty.sl (Ty.sl (Ty.sl (Ty.i .i64))))) hS167 2 rfl) all_nil) rfl ?_
              intro wd169 hS170
              replace hS170 : St w wd169 [bx b1 [(Value.slice none 0 0)], (Ty.sl (Ty.i .i64)).at u153 x152, (Ty.sl (Ty.sl (Ty.sl (Ty.i .i64)))).at u160 x158.1, bx b165 [u160]] := hS170
              refine WL.val (Value.bool x158.2) _ (op_assign rfl) rfl ?_
              refine WL.nil ?_
              refine W.seq (W.seq (W.region ?_))
              refine WL.val (Value.bool x158.2) _ (op_move rfl) rfl ?_
              refine WL.val (Value.bool (!x158.2)) _ (op_not rfl) rfl ?_
              refine WL.val (Value.bool (!x158.2)) _ (op_move rfl) rfl ?_
              obtain ⟨x172, hj173, h⟩ := bs h
              refine WL.cut 4 (fun fq wq => fq 4 = (Value.pointer (some ⟨b1, 0, none⟩)) ∧ fq 8 = u153 ∧ fq 11 = (Value.pointer (some ⟨b165, 0, none⟩)) ∧ fq 66 = Value.bool x172 ∧ St w wq [bx b1 [(Value.slice none 0 0)], (Ty.sl (Ty.i .i64)).at u153 x152, (Ty.sl (Ty.sl (Ty.sl (Ty.i .i64)))).at u160 x158.1, bx b165 [u160]]) ?_ ?_
              · rcases Bool.eq_false_or_eq_true (!x158.2) with hc171 | hc171
                · replace hj173 := ip hj173 hc171
                  refine WL.gskip rfl (bool_of rfl hc171) rfl ?_
                  refine WL.gskip rfl (bool_of rfl hc171) rfl ?_
                  refine WL.gskip rfl (bool_of rfl hc171) rfl ?_
                  refine WL.val (Value.bool true) _ (op_pick_t (evb_of rfl hc171) rfl) rfl ?_
                  refine WL.nil ?_
                  obtain rfl := Option.some.inj hj173
                  exact ⟨rfl, hf155, hf156, rfl, rfl, hS170⟩
                · replace hj173 := inegb hj173 hc171
                  refine WL.grun rfl (bool_of rfl hc171) ?_
                  refine WL.val (Value.agg #[u160]) _ (op_loadBox st_29 rfl (St.boxAt hS170 3 rfl) rfl rfl) rfl ?_
                  refine WL.grun rfl (bool_of rfl hc171) ?_
                  obtain ⟨x177, hx178, hj173⟩ := bs hj173
                  refine WL.call _ (op_call fn_39 (args1 rfl)) (c_impl_IsRing (St.rep (t := (Ty.sl (Ty.sl (Ty.sl (Ty.i .i64))))) hS170 2 rfl) hx178) rfl ?_
                  rintro _ wd179 ⟨rfl, he180⟩
                  have hS182 := St.extend hS170 he180
                  replace hS182 : St w wd179 [bx b1 [(Value.slice none 0 0)], (Ty.sl (Ty.i .i64)).at u153 x152, (Ty.sl (Ty.sl (Ty.sl (Ty.i .i64)))).at u160 x158.1, bx b165 [u160]] := hS182
                  refine WL.grun rfl (bool_of rfl hc171) ?_
                  refine WL.val (Value.bool (!x177)) _ (op_not rfl) rfl ?_
                  refine WL.val (Value.bool (!x177)) _ (op_pick_f (evb_of rfl hc171) rfl) rfl ?_
                  refine WL.nil ?_
                  obtain rfl := Option.some.inj hj173
                  exact ⟨rfl, hf155, hf156, rfl, rfl, hS182⟩
              · intro f174 wd175 hq176
                obtain ⟨hf183, hf184, hf185, hf186, hS187⟩ := hq176
                refine WL.val (Value.bool x172) _ (op_move hf186) rfl ?_
                obtain ⟨x189, hj190, h⟩ := bs h
                refine WL.cut 4 (fun fq wq => fq 4 = (Value.pointer (some ⟨b1, 0, none⟩)) ∧ fq 8 = u153 ∧ fq 11 = (Value.pointer (some ⟨b165, 0, none⟩)) ∧ fq 71 = Value.bool x189 ∧ St w wq [bx b1 [(Value.slice none 0 0)], (Ty.sl (Ty.i .i64)).at u153 x152, (Ty.sl (Ty.sl (Ty.sl (Ty.i .i64)))).at u160 x158.1, bx b165 [u160]]) ?_ ?_
                · rcases Bool.eq_false_or_eq_true x172 with hc188 | hc188
                  · replace hj190 := ip hj190 hc188
                    refine WL.gskip rfl (bool_of rfl hc188) rfl ?_
                    refine WL.gskip rfl (bool_of rfl hc188) rfl ?_
                    refine WL.gskip rfl (bool_of rfl hc188) rfl ?_
                    refine WL.val (Value.bool true) _ (op_pick_t (evb_of rfl hc188) rfl) rfl ?_
                    refine WL.nil ?_
                    obtain rfl := Option.some.inj hj190
                    exact ⟨rfl, hf183, hf184, hf185, rfl, hS187⟩
                  · replace hj190 := inegb hj190 hc188
                    refine WL.grun rfl (bool_of rfl hc188) ?_
                    refine WL.val (Value.agg #[u160]) _ (op_loadBox st_29 hf185 (St.boxAt hS187 3 rfl) rfl rfl) rfl ?_
                    refine WL.grun rfl (bool_of rfl hc188) ?_
                    obtain ⟨x194, hx195, hj190⟩ := bs hj190
                    refine WL.call _ (op_call fn_40 (args1 rfl)) (c_impl_Ring_isCommutative (St.rep (t := (Ty.sl (Ty.sl (Ty.sl (Ty.i .i64))))) hS187 2 rfl) hx195) rfl ?_
                    rintro _ wd196 ⟨rfl, he197⟩
                    have hS199 := St.extend hS187 he197
                    replace hS199 : St w wd196 [bx b1 [(Value.slice none 0 0)], (Ty.sl (Ty.i .i64)).at u153 x152, (Ty.sl (Ty.sl (Ty.sl (Ty.i .i64)))).at u160 x158.1, bx b165 [u160]] := hS199
                    refine WL.grun rfl (bool_of rfl hc188) ?_
                    refine WL.val (Value.bool (!x194)) _ (op_not rfl) rfl ?_
                    refine WL.val (Value.bool (!x194)) _ (op_pick_f (evb_of rfl hc188) rfl) rfl ?_
                    refine WL.nil ?_
                    obtain rfl := Option.some.inj hj190
                    exact ⟨rfl, hf183, hf184, hf185, rfl, hS199⟩
                · intro f191 wd192 hq193
                  obtain ⟨hf200, hf201, hf202, hf203, hS204⟩ := hq193
                  refine WL.val (Value.bool x189) _ (op_move hf203) rfl ?_
                  obtain ⟨x206, hj207, h⟩ := bs h
                  refine WL.cut 6 (fun fq wq => fq 4 = (Value.pointer (some ⟨b1, 0, none⟩)) ∧ fq 11 = (Value.pointer (some ⟨b165, 0, none⟩)) ∧ fq 78 = Value.bool x206 ∧ St w wq [bx b1 [(Value.slice none 0 0)], (Ty.sl (Ty.sl (Ty.sl (Ty.i .i64)))).at u160 x158.1, bx b165 [u160]]) ?_ ?_
                  · rcases Bool.eq_false_or_eq_true x189 with hc205 | hc205
                    · replace hj207 := ip hj207 hc205
                      refine WL.gskip rfl (bool_of rfl hc205) rfl ?_
                      refine WL.gskip rfl (bool_of rfl hc205) rfl ?_
                      refine WL.gskip rfl (bool_of rfl hc205) rfl ?_
                      refine WL.gskip rfl (bool_of rfl hc205) rfl ?_
                      refine WL.gskip rfl (bool_of rfl hc205) rfl ?_
                      refine WL.val (Value.bool true) _ (op_pick_t (evb_of rfl hc205) rfl) rfl ?_
                      refine WL.nil ?_
                      obtain rfl := Option.some.inj hj207
                      exact ⟨rfl, hf200, hf202, rfl, (St.pick hS204 [0, 2, 3] rfl)⟩
                    · replace hj207 := inegb hj207 hc205
                      refine WL.grun rfl (bool_of rfl hc205) ?_
                      refine WL.val (Value.agg #[u160]) _ (op_loadBox st_29 hf202 (St.boxAt hS204 3 rfl) rfl rfl) rfl ?_
                      refine WL.grun rfl (bool_of rfl hc205) ?_
                      obtain ⟨x211, hx212, hj207⟩ := bs hj207
                      refine WL.call _ (op_call fn_54 (args1 rfl)) (c_impl_Ring_duals (St.rep (t := (Ty.sl (Ty.sl (Ty.sl (Ty.i .i64))))) hS204 2 rfl) hx212) rfl ?_
                      rintro u213 wd214 ⟨_, rfl, he215, hs216⟩
                      have hS217 := St.join hS204 he215 hs216
                      replace hS217 : St w wd214 [bx b1 [(Value.slice none 0 0)], (Ty.sl (Ty.i .i64)).at u153 x152, (Ty.sl (Ty.sl (Ty.sl (Ty.i .i64)))).at u160 x158.1, bx b165 [u160], (Ty.sl (Ty.i .i64)).at u213 x211] := hS217
                      refine WL.grun rfl (bool_of rfl hc205) ?_
                      refine WL.val u153 _ (op_move hf201) rfl ?_
                      refine WL.grun rfl (bool_of rfl hc205) ?_
                      obtain ⟨x218, hx219, hj207⟩ := bs hj207
                      refine WL.call _ (op_call fn_65 (args2 rfl rfl)) (c_slices_Equal_Lint_int (St.rep (t := (Ty.sl (Ty.i .i64))) hS217 4 rfl) (St.rep (t := (Ty.sl (Ty.i .i64))) hS217 1 rfl) hx219) rfl ?_
                      rintro _ wd220 ⟨rfl, he221⟩
                      have hS223 := St.extend hS217 he221
                      replace hS223 : St w wd220 [bx b1 [(Value.slice none 0 0)], (Ty.sl (Ty.i .i64)).at u153 x152, (Ty.sl (Ty.sl (Ty.sl (Ty.i .i64)))).at u160 x158.1, bx b165 [u160], (Ty.sl (Ty.i .i64)).at u213 x211] := hS223
                      refine WL.grun rfl (bool_of rfl hc205) ?_
                      refine WL.val (Value.bool (!x218)) _ (op_not rfl) rfl ?_
                      refine WL.val (Value.bool (!x218)) _ (op_pick_f (evb_of rfl hc205) rfl) rfl ?_
                      refine WL.nil ?_
                      obtain rfl := Option.some.inj hj207
                      exact ⟨rfl, hf200, hf202, rfl, (St.pick hS223 [0, 2, 3] rfl)⟩
                  · intro f208 wd209 hq210
                    obtain ⟨hf224, hf225, hf226, hS227⟩ := hq210
                    refine WL.nil ?_
                    refine W.cond x206 hf226 (fun hc228 => ?_) (fun hc228 => ?_)
                    · replace h := ip h hc228
                      refine W.seq (W.region ?_)
                      refine WL.val (Value.agg #[(Value.slice none 0 0)]) _ (op_build bd_29 (parts := []) (partsL trivial) trivial rfl) rfl ?_
                      have hS232 := St.addNil (Ty.sl (Ty.sl (Ty.i .i64))) hS227
                      replace hS232 : St w wd209 [bx b1 [(Value.slice none 0 0)], (Ty.sl (Ty.sl (Ty.sl (Ty.i .i64)))).at u160 x158.1, bx b165 [u160], (Ty.sl (Ty.sl (Ty.sl (Ty.i .i64)))).at (Value.slice none 0 0) ([] : (List (List (List Int))))] := hS232
                      refine WL.storeBox [(Value.slice none 0 0)] hS232 (k := 0) rfl hf224 rfl (us := [(Value.slice none 0 0)]) rfl sz_29 rfl rfl (all_rep (St.rep (t := (Ty.sl (Ty.sl (Ty.sl (Ty.i .i64))))) hS232 3 rfl) all_nil) rfl ?_
                      intro wd230 hS231
                      replace hS231 : St w wd230 [bx b1 [(Value.slice none 0 0)], (Ty.sl (Ty.sl (Ty.sl (Ty.i .i64)))).at u160 x158.1, bx b165 [u160], (Ty.sl (Ty.sl (Ty.sl (Ty.i .i64)))).at (Value.slice none 0 0) ([] : (List (List (List Int))))] := hS231
                      refine WL.val (Value.int .i64 (5 : Int)) _ (op_assign rfl) rfl ?_
                      refine WL.nil ?_
                      refine W.ret ?_
                      obtain rfl := Option.some.inj h
                      show FinP _ _ _ _ _ _ _
                      exact FinP.ret _ (resCT rfl hf224 st_29 (St.boxAt hS231 0 rfl) rfl rfl) ⟨(Value.slice none 0 0), rfl, (inL rfl), hS231.ext, (St.out (St.pick hS231 [3] rfl) (Ext.refl _))⟩
                    · replace h := inegb h hc228
                      refine W.skip ?_
                      refine W.seq (W.region ?_)
                      refine WL.val (Value.agg #[u160]) _ (op_loadBox st_29 hf225 (St.boxAt hS227 2 rfl) rfl rfl) rfl ?_
                      refine WL.storeBox [u160] hS227 (k := 0) rfl hf224 rfl (us := [u160]) rfl sz_29 rfl rfl (all_rep (St.rep (t := (Ty.sl (Ty.sl (Ty.sl (Ty.i .i64))))) hS227 1 rfl) all_nil) rfl ?_
                      intro wd233 hS234
                      replace hS234 : St w wd233 [bx b1 [u160], (Ty.sl (Ty.sl (Ty.sl (Ty.i .i64)))).at u160 x158.1, bx b165 [u160]] := hS234
                      refine WL.val (Value.int .i64 (0 : Int)) _ (op_assign rfl) rfl ?_
                      refine WL.nil ?_
                      refine W.ret ?_
                      obtain rfl := Option.some.inj h
                      show FinP _ _ _ _ _ _ _
                      exact FinP.ret _ (resCT rfl hf224 st_29 (St.boxAt hS234 0 rfl) rfl rfl) ⟨u160, rfl, (inL rfl), hS234.ext, (St.out (St.pick hS234 [1] rfl) (Ext.refl _))⟩

theorem c_laws_heldInt64SS {w : World} {a : (List (List Int))} {v_a : Value} {k1 : Int} (r_a : (Ty.sl (Ty.sl (Ty.i .i64))).rep w v_a a) (r_k1 : InR .i64 k1) {res : Int} (h : p_laws_heldInt64SS a k1  = some res) :
    Ret Try.prog 86 #[v_a, (Value.int .i64 k1)] w (fun v w' => v = Value.int .i64 res ∧ InR .i64 res ∧ Ext w w') := by
  unfold p_laws_heldInt64SS at h
  have hS0 : St w w [] := St.start w
  refine Ret.start (fn := Try.f86) Try.func86 rfl 21 rfl rfl ?_
  refine W.seq (W.region ?_)
  refine WL.val (Value.int .i64 (0 : Int)) _ (op_assign rfl) rfl ?_
  refine WL.nil ?_
  refine W.seq (W.seq (W.region ?_))
  refine WL.val (Value.int .i64 (0 : Int)) _ (op_assign rfl) rfl ?_
  refine WL.nil ?_
  show W _ _ _ _ _ _
  obtain ⟨res1, hres2, h⟩ := bs h
  refine W.blockLoop (fun fq wq => ∃ s, res1 = Res.fin s ∧ fq 1 = Value.int .i64 s ∧ InR .i64 s ∧ St w wq []) ?_ ?_
  · refine W.forN (fun k (s : Int) fq wq => fq 0 = v_a ∧ fq 1 = Value.int .i64 s ∧ InR .i64 s ∧ fq 5 = Value.int .i64 (k : Int) ∧ InR .i64 (k : Int) ∧ St w wq []) hres2 ⟨rfl, rfl, r_k1, rfl, (inL rfl), hS0⟩ ?_ ?_
    · intro k3 x4 ct5 f6 wd7 hk8 hb9 hI10 hbrk11 hret12
      replace hI10 : f6 0 = v_a ∧ f6 1 = Value.int .i64 x4 ∧ InR .i64 x4 ∧ f6 5 = Value.int .i64 (k3 : Int) ∧ InR .i64 (k3 : Int) ∧ St w wd7 [] := hI10
      replace hb9 : p_laws_heldInt64SS_L1 a k3 x4 = some ct5 := hb9
      unfold p_laws_heldInt64SS_L1 at hb9
      obtain ⟨hf13, hf14, hr15, hf16, hr17, hS18⟩ := hI10
      refine W.seq (W.seq (W.region ?_))
      refine WL.val (Value.int .i64 (k3 : Int)) _ (op_move hf16) rfl ?_
      refine WL.val v_a _ (op_move hf13) rfl ?_
      have hr19 := inR_len (Ty.lift _ hS18.ext r_a)
      refine WL.val (Value.int .i64 ((a).length : Int)) _ (op_lenL sl_43 (Ty.lift _ hS18.ext r_a) rfl) rfl ?_
      refine WL.val (Value.bool (decide ((k3 : Int) < ((a).length : Int)))) _ (op_lss rfl rfl) rfl ?_
      have hl20 : (k3 : Int) < ((a).length : Int) := by omega
      refine WL.nil ?_
      refine W.condT (decide ((k3 : Int) < ((a).length : Int))) rfl (decide_eq_true hl20) ?_
      refine W.skip ?_
      refine W.seq ?_
      refine W.block ?_
      refine W.seq (W.region ?_)
      refine WL.val v_a _ (op_move hf13) rfl ?_
      refine WL.val (Value.int .i64 (k3 : Int)) _ (op_move hf16) rfl ?_
      obtain ⟨x22, hx25, hb9⟩ := bs hb9
      obtain ⟨ha23, hb24, hx25⟩ := idx_some hx25
      refine WL.val (Value.pointer (some (elA v_a ((k3 : Int)).toNat))) _ (op_idx sl_43 (Ty.lift _ hS18.ext r_a) rfl rfl ha23 hb24) rfl ?_
      obtain ⟨u26, hc27, hr28⟩ := repSl.el r_a hx25
      refine WL.val u26 _ (op_load one_25 rfl (Ext.cell hS18.ext hc27)) rfl ?_
      refine WL.val (Value.int .i64 x4) _ (op_move hf14) rfl ?_
      obtain ⟨x29, hx30, hb9⟩ := bs hb9
      refine WL.call _ (op_call fn_18 (args2 rfl rfl)) (c_laws_heldInt64S (Ty.lift _ hS18.ext hr28) hr15 hx30) rfl ?_
      rintro _ wd32 ⟨rfl, hr31, he33⟩
      have hS35 := St.extend hS18 he33
      replace hS35 : St w wd32 [] := hS35
      refine WL.val (Value.int .i64 x29) _ (op_assign rfl) rfl ?_
      refine WL.nil ?_
      refine W.seq (W.region ?_)
      refine WL.val (Value.int .i64 x29) _ (op_move rfl) rfl ?_
      refine WL.val (Value.bool (decide (x29 < (0 : Int)))) _ (op_lss rfl rfl) rfl ?_
      refine WL.nil ?_
      refine W.cond (decide (x29 < (0 : Int))) rfl (fun hc36 => ?_) (fun hc36 => ?_)
      · replace hb9 := ip hb9 hc36
        refine W.seq (W.region ?_)
        refine WL.val (Value.int .i64 (-1 : Int)) _ (op_assign rfl) rfl ?_
        refine WL.nil ?_
        refine W.ret ?_
        obtain rfl := Option.some.inj hb9
        obtain rfl := hret12 _ rfl
        replace h := onRes_ret h
        obtain rfl := Option.some.inj h
        show FinP _ _ _ _ _ _ _
        exact FinP.ret _ (res1 rfl rfl) ⟨rfl, (inR_i64.2 (show (-9223372036854775808 : Int) ≤ -1 ∧ (-1 : Int) ≤ 9223372036854775807 from by decide)), hS35.ext⟩
      · replace hb9 := inegb hb9 hc36
        refine W.skip ?_
        show W _ _ _ _ _ _
        refine W.region ?_
        refine WL.val (Value.int .i64 (k3 : Int)) _ (op_move hf16) rfl ?_
        refine WL.val (Value.int .i64 (w64 ((k3 : Int) + (1 : Int)))) _ (op_add rfl rfl) rfl ?_
        refine WL.val (Value.int .i64 (w64 ((k3 : Int) + (1 : Int)))) _ (op_assign rfl) rfl ?_
        refine WL.nil ?_
        obtain rfl := Option.some.inj hb9
        show ∃ s, _ = Ctl.next s ∧ _
        exact ⟨_, rfl, hf13, rfl, hr31, (ctr_next hl20 hr19), (ctr_rng hl20 hr19), hS35⟩
    · intro x44 f39 wd40 hs41 hI42
      replace hI42 : f39 0 = v_a ∧ f39 1 = Value.int .i64 x44 ∧ InR .i64 x44 ∧ f39 5 = Value.int .i64 (((a).length : Nat) : Int) ∧ InR .i64 (((a).length : Nat) : Int) ∧ St w wd40 [] := hI42
      obtain ⟨hf45, hf46, hr47, hf48, hr49, hS50⟩ := hI42
      refine W.seq (W.seq (W.region ?_))
      refine WL.val (Value.int .i64 (((a).length : Nat) : Int)) _ (op_move hf48) rfl ?_
      refine WL.val v_a _ (op_move hf45) rfl ?_
      have hr51 := inR_len (Ty.lift _ hS50.ext r_a)
      refine WL.val (Value.int .i64 ((a).length : Int)) _ (op_lenL sl_43 (Ty.lift _ hS50.ext r_a) rfl) rfl ?_
      refine WL.val (Value.bool (decide ((((a).length : Nat) : Int) < ((a).length : Int)))) _ (op_lss rfl rfl) rfl ?_
      have hl52 : ¬ (((a).length : Nat) : Int) < ((a).length : Int) := by omega
      refine WL.nil ?_
      refine W.condF (decide ((((a).length : Nat) : Int) < ((a).length : Int))) rfl (decide_eq_false hl52) ?_
      refine W.exit ?_
      show _ = _ ∧ _
      exact ⟨rfl, _, hs41, hf46, hr47, hS50⟩
  · rintro f53 wd54 ⟨x57, rfl, hq55⟩
    replace h := onRes_fin h
    replace hq55 : f53 1 = Value.int .i64 x57 ∧ InR .i64 x57 ∧ St w wd54 [] := hq55
    obtain ⟨hf58, hr59, hS60⟩ := hq55
    refine W.seq (W.region ?_)
    refine WL.val (Value.int .i64 x57) _ (op_move hf58) rfl ?_
    refine WL.val (Value.int .i64 x57) _ (op_assign rfl) rfl ?_
    refine WL.nil ?_
    refine W.ret ?_
    obtain rfl := Option.some.inj h
    show FinP _ _ _ _ _ _ _
    exact FinP.ret _ (res1 rfl rfl) ⟨rfl, hr59, hS60.ext⟩

theorem c_laws_heldInt64SSS {w : World} {a : (List (List (List Int)))} {v_a : Value} {k1 : Int} (r_a : (Ty.sl (Ty.sl (Ty.sl (Ty.i .i64)))).rep w v_a a) (r_k1 : InR .i64 k1) {res : Int} (h : p_laws_heldInt64SSS a k1  = some res) :
    Ret Try.prog 66 #[v_a, (Value.int .i64 k1)] w (fun v w' => v = Value.int .i64 res ∧ InR .i64 res ∧ Ext w w') := by
  unfold p_laws_heldInt64SSS at h
  have hS0 : St w w [] := St.start w
  refine Ret.start (fn := Try.f66) Try.func66 rfl 21 rfl rfl ?_
  refine W.seq (W.region ?_)
  refine WL.val (Value.int .i64 (0 : Int)) _ (op_assign rfl) rfl ?_
  refine WL.nil ?_
  refine W.seq (W.seq (W.region ?_))
  refine WL.val (Value.int .i64 (0 : Int)) _ (op_assign rfl) rfl ?_
  refine WL.nil ?_
  show W _ _ _ _ _ _
  obtain ⟨res1, hres2, h⟩ := bs h
  refine W.blockLoop (fun fq wq => ∃ s, res1 = Res.fin s ∧ fq 1 = Value.int .i64 s ∧ InR .i64 s ∧ St w wq []) ?_ ?_
  · refine W.forN (fun k (s : Int) fq wq => fq 0 = v_a ∧ fq 1 = Value.int .i64 s ∧ InR .i64 s ∧ fq 5 = Value.int .i64 (k : Int) ∧ InR .i64 (k : Int) ∧ St w wq []) hres2 ⟨rfl, rfl, r_k1, rfl, (inL rfl), hS0⟩ ?_ ?_
    · intro k3 x4 ct5 f6 wd7 hk8 hb9 hI10 hbrk11 hret12
      replace hI10 : f6 0 = v_a ∧ f6 1 = Value.int .i64 x4 ∧ InR .i64 x4 ∧ f6 5 = Value.int .i64 (k3 : Int) ∧ InR .i64 (k3 : Int) ∧ St w wd7 [] := hI10
      replace hb9 : p_laws_heldInt64SSS_L1 a k3 x4 = some ct5 := hb9
      unfold p_laws_heldInt64SSS_L1 at hb9
      obtain ⟨hf13, hf14, hr15, hf16, hr17, hS18⟩ := hI10
      refine W.seq (W.seq (W.region ?_))
      refine WL.val (Value.int .i64 (k3 : Int)) _ (op_move hf16) rfl ?_
      refine WL.val v_a _ (op_move hf13) rfl ?_
      have hr19 := inR_len (Ty.lift _ hS18.ext r_a)
      refine WL.val (Value.int .i64 ((a).length : Int)) _ (op_lenL sl_22 (Ty.lift _ hS18.ext r_a) rfl) rfl ?_
      refine WL.val (Value.bool (decide ((k3 : Int) < ((a).length : Int)))) _ (op_lss rfl rfl) rfl ?_
      have hl20 : (k3 : Int) < ((a).length : Int) := by omega
      refine WL.nil ?_
      refine W.condT (decide ((k3 : Int) < ((a).length : Int))) rfl (decide_eq_true hl20) ?_
      refine W.skip ?_
      refine W.seq ?_
      refine W.block ?_
      refine W.seq (W.region ?_)
      refine WL.val v_a _ (op_move hf13) rfl ?_
      refine WL.val (Value.int .i64 (k3 : Int)) _ (op_move hf16) rfl ?_
      obtain ⟨x22, hx25, hb9⟩ := bs hb9
      obtain ⟨ha23, hb24, hx25⟩ := idx_some hx25
      refine WL.val (Value.pointer (some (elA v_a ((k3 : Int)).toNat))) _ (op_idx sl_22 (Ty.lift _ hS18.ext r_a) rfl rfl ha23 hb24) rfl ?_
      obtain ⟨u26, hc27, hr28⟩ := repSl.el r_a hx25
      refine WL.val u26 _ (op_load one_43 rfl (Ext.cell hS18.ext hc27)) rfl ?_
      refine WL.val (Value.int .i64 x4) _ (op_move hf14) rfl ?_
      obtain ⟨x29, hx30, hb9⟩ := bs hb9
      refine WL.call _ (op_call fn_86 (args2 rfl rfl)) (c_laws_heldInt64SS (Ty.lift _ hS18.ext hr28) hr15 hx30) rfl ?_
      rintro _ wd32 ⟨rfl, hr31, he33⟩
      have hS35 := St.extend hS18 he33
      replace hS35 : St w wd32 [] := hS35
      refine WL.val (Value.int .i64 x29) _ (op_assign rfl) rfl ?_
      refine WL.nil ?_
      refine W.seq (W.region ?_)
      refine WL.val (Value.int .i64 x29) _ (op_move rfl) rfl ?_
      refine WL.val (Value.bool (decide (x29 < (0 : Int)))) _ (op_lss rfl rfl) rfl ?_
      refine WL.nil ?_
      refine W.cond (decide (x29 < (0 : Int))) rfl (fun hc36 => ?_) (fun hc36 => ?_)
      · replace hb9 := ip hb9 hc36
        refine W.seq (W.region ?_)
        refine WL.val (Value.int .i64 (-1 : Int)) _ (op_assign rfl) rfl ?_
        refine WL.nil ?_
        refine W.ret ?_
        obtain rfl := Option.some.inj hb9
        obtain rfl := hret12 _ rfl
        replace h := onRes_ret h
        obtain rfl := Option.some.inj h
        show FinP _ _ _ _ _ _ _
        exact FinP.ret _ (res1 rfl rfl) ⟨rfl, (inR_i64.2 (show (-9223372036854775808 : Int) ≤ -1 ∧ (-1 : Int) ≤ 9223372036854775807 from by decide)), hS35.ext⟩
      · replace hb9 := inegb hb9 hc36
        refine W.skip ?_
        show W _ _ _ _ _ _
        refine W.region ?_
        refine WL.val (Value.int .i64 (k3 : Int)) _ (op_move hf16) rfl ?_
        refine WL.val (Value.int .i64 (w64 ((k3 : Int) + (1 : Int)))) _ (op_add rfl rfl) rfl ?_
        refine WL.val (Value.int .i64 (w64 ((k3 : Int) + (1 : Int)))) _ (op_assign rfl) rfl ?_
        refine WL.nil ?_
        obtain rfl := Option.some.inj hb9
        show ∃ s, _ = Ctl.next s ∧ _
        exact ⟨_, rfl, hf13, rfl, hr31, (ctr_next hl20 hr19), (ctr_rng hl20 hr19), hS35⟩
    · intro x44 f39 wd40 hs41 hI42
      replace hI42 : f39 0 = v_a ∧ f39 1 = Value.int .i64 x44 ∧ InR .i64 x44 ∧ f39 5 = Value.int .i64 (((a).length : Nat) : Int) ∧ InR .i64 (((a).length : Nat) : Int) ∧ St w wd40 [] := hI42
      obtain ⟨hf45, hf46, hr47, hf48, hr49, hS50⟩ := hI42
      refine W.seq (W.seq (W.region ?_))
      refine WL.val (Value.int .i64 (((a).length : Nat) : Int)) _ (op_move hf48) rfl ?_
      refine WL.val v_a _ (op_move hf45) rfl ?_
      have hr51 := inR_len (Ty.lift _ hS50.ext r_a)
      refine WL.val (Value.int .i64 ((a).length : Int)) _ (op_lenL sl_22 (Ty.lift _ hS50.ext r_a) rfl) rfl ?_
      refine WL.val (Value.bool (decide ((((a).length : Nat) : Int) < ((a).length : Int)))) _ (op_lss rfl rfl) rfl ?_
      have hl52 : ¬ (((a).length : Nat) : Int) < ((a).length : Int) := by omega
      refine WL.nil ?_
      refine W.condF (decide ((((a).length : Nat) : Int) < ((a).length : Int))) rfl (decide_eq_false hl52) ?_
      refine W.exit ?_
      show _ = _ ∧ _
      exact ⟨rfl, _, hs41, hf46, hr47, hS50⟩
  · rintro f53 wd54 ⟨x57, rfl, hq55⟩
    replace h := onRes_fin h
    replace hq55 : f53 1 = Value.int .i64 x57 ∧ InR .i64 x57 ∧ St w wd54 [] := hq55
    obtain ⟨hf58, hr59, hS60⟩ := hq55
    refine W.seq (W.region ?_)
    refine WL.val (Value.int .i64 x57) _ (op_move hf58) rfl ?_
    refine WL.val (Value.int .i64 x57) _ (op_assign rfl) rfl ?_
    refine WL.nil ?_
    refine W.ret ?_
    obtain rfl := Option.some.inj h
    show FinP _ _ _ _ _ _ _
    exact FinP.ret _ (res1 rfl rfl) ⟨rfl, hr59, hS60.ext⟩

theorem c_laws_heldRing {w : World} {a_Table : (List (List (List Int)))} {v_a_Table : Value} {k1 : Int} (r_a_Table : (Ty.sl (Ty.sl (Ty.sl (Ty.i .i64)))).rep w v_a_Table a_Table) (r_k1 : InR .i64 k1) {res : Int} (h : p_laws_heldRing a_Table k1  = some res) :
    Ret Try.prog 33 #[(Value.agg #[v_a_Table]), (Value.int .i64 k1)] w (fun v w' => v = Value.int .i64 res ∧ InR .i64 res ∧ Ext w w') := by
  unfold p_laws_heldRing at h
  have hS0 : St w w [] := St.start w
  refine Ret.start (fn := Try.f33) Try.func33 rfl 12 rfl rfl ?_
  refine W.seq (W.region ?_)
  refine WL.box hS0 rfl (cs := [v_a_Table]) rfl rfl ?_
  intro b1 wd2 hS3 he4 hx5
  replace hS3 : St w wd2 [bx b1 [v_a_Table]] := hS3
  have hx6 := St.boxAt hS3 0 rfl
  have hE7 : Ext w wd2 := hS3.ext
  have hS8 : St wd2 wd2 [] := St.start wd2
  refine WL.val (Value.int .i64 (0 : Int)) _ (op_assign rfl) rfl ?_
  refine WL.nil ?_
  refine W.seq (W.region ?_)
  refine WL.val (Value.pointer (some ⟨b1, 0, none⟩)) _ (op_fieldAddr fd_29_0 rfl) rfl ?_
  refine WL.val v_a_Table _ (op_load one_22 rfl (BoxAt.cell (BoxAt.lift hS8.ext hx6) rfl)) rfl ?_
  refine WL.val (Value.int .i64 k1) _ (op_move rfl) rfl ?_
  obtain ⟨x9, hx10, h⟩ := bs h
  refine WL.call _ (op_call fn_66 (args2 rfl rfl)) (c_laws_heldInt64SSS (Ty.lift _ (Ext.trans hE7 hS8.ext) r_a_Table) r_k1 hx10) rfl ?_
  rintro _ wd12 ⟨rfl, hr11, he13⟩
  have hS15 := St.extend hS8 he13
  replace hS15 : St wd2 wd12 [] := hS15
  refine WL.val (Value.int .i64 x9) _ (op_assign rfl) rfl ?_
  refine WL.nil ?_
  refine W.seq (W.seq (W.region ?_))
  refine WL.val (Value.int .i64 x9) _ (op_move rfl) rfl ?_
  refine WL.val (Value.bool (decide (x9 < (0 : Int)))) _ (op_lss rfl rfl) rfl ?_
  refine WL.nil ?_
  refine W.cond (decide (x9 < (0 : Int))) rfl (fun hc16 => ?_) (fun hc16 => ?_)
  · replace h := ip h hc16
    refine W.seq (W.region ?_)
    refine WL.val (Value.int .i64 (-1 : Int)) _ (op_assign rfl) rfl ?_
    refine WL.nil ?_
    refine W.ret ?_
    obtain rfl := Option.some.inj h
    show FinP _ _ _ _ _ _ _
    exact FinP.ret _ (res1 rfl rfl) ⟨rfl, (inR_i64.2 (show (-9223372036854775808 : Int) ≤ -1 ∧ (-1 : Int) ≤ 9223372036854775807 from by decide)), (Ext.trans hE7 hS15.ext)⟩
  · replace h := inegb h hc16
    refine W.skip ?_
    refine W.seq (W.region ?_)
    refine WL.val (Value.int .i64 x9) _ (op_move rfl) rfl ?_
    refine WL.val (Value.int .i64 x9) _ (op_assign rfl) rfl ?_
    refine WL.nil ?_
    refine W.ret ?_
    obtain rfl := Option.some.inj h
    show FinP _ _ _ _ _ _ _
    exact FinP.ret _ (res1 rfl rfl) ⟨rfl, hr11, (Ext.trans hE7 hS15.ext)⟩

theorem c_laws_FnExactRingOfCharacters {w : World} {aTable : (List (List Int))} {v_aTable : Value} {aDuals : (List Int)} {v_aDuals : Value} (r_aTable : (Ty.sl (Ty.sl (Ty.i .i64))).rep w v_aTable aTable) (r_aDuals : (Ty.sl (Ty.i .i64)).rep w v_aDuals aDuals) {res : Bool} (h : p_laws_FnExactRingOfCharacters aTable aDuals  = some res) :
    Ret Try.prog 8 #[v_aTable, v_aDuals] w (fun v w' => v = Value.bool res ∧ Ext w w') := by
  unfold p_laws_FnExactRingOfCharacters at h
  have hS0 : St w w [] := St.start w
  refine Ret.start (fn := Try.f8) Try.func8 rfl 117 rfl rfl ?_
  refine W.seq (W.region ?_)
  refine WL.val (Value.bool false) _ (op_assign rfl) rfl ?_
  refine WL.nil ?_
  refine W.seq (W.seq (W.region ?_))
  refine WL.val v_aDuals _ (op_move rfl) rfl ?_
  have hr1 := inR_len (Ty.lift _ hS0.ext r_aDuals)
  refine WL.val (Value.int .i64 ((aDuals).length : Int)) _ (op_lenL sl_25 (Ty.lift _ hS0.ext r_aDuals) rfl) rfl ?_
  refine WL.val (Value.bool (decide (((aDuals).length : Int) > (1048576 : Int)))) _ (op_gtr rfl rfl) rfl ?_
  refine WL.nil ?_
  refine W.cond (decide (((aDuals).length : Int) > (1048576 : Int))) rfl (fun hc2 => ?_) (fun hc2 => ?_)
  · replace h := ip h hc2
    refine W.seq (W.region ?_)
    refine WL.val (Value.bool true) _ (op_assign rfl) rfl ?_
    refine WL.nil ?_
    refine W.ret ?_
    obtain rfl := Option.some.inj h
    show FinP _ _ _ _ _ _ _
    exact FinP.ret _ (res1 rfl rfl) ⟨rfl, hS0.ext⟩
  · replace h := inegb h hc2
    refine W.skip ?_
    refine W.seq (W.region ?_)
    refine WL.val (Value.int .i64 (1048576 : Int)) _ (op_assign rfl) rfl ?_
    refine WL.nil ?_
    refine W.seq (W.region ?_)
    refine WL.val v_aTable _ (op_move rfl) rfl ?_
    refine WL.val (Value.int .i64 (1048576 : Int)) _ (op_move rfl) rfl ?_
    obtain ⟨x4, hx5, h⟩ := bs h
    refine WL.call _ (op_call fn_27 (args2 rfl rfl)) (c_laws_szInt64SS (Ty.lift _ hS0.ext r_aTable) (inL rfl) hx5) rfl ?_
    rintro _ wd7 ⟨rfl, hr6, he8⟩
    have hS10 := St.extend hS0 he8
    replace hS10 : St w wd7 [] := hS10
    refine WL.val (Value.int .i64 x4) _ (op_assign rfl) rfl ?_
    refine WL.nil ?_
    refine W.seq (W.seq (W.region ?_))
    refine WL.val (Value.int .i64 x4) _ (op_move rfl) rfl ?_
    refine WL.val (Value.bool (decide (x4 < (0 : Int)))) _ (op_lss rfl rfl) rfl ?_
    refine WL.nil ?_
    refine W.cond (decide (x4 < (0 : Int))) rfl (fun hc11 => ?_) (fun hc11 => ?_)
    · replace h := ip h hc11
      refine W.seq (W.region ?_)
      refine WL.val (Value.bool true) _ (op_assign rfl) rfl ?_
      refine WL.nil ?_
      refine W.ret ?_
      obtain rfl := Option.some.inj h
      show FinP _ _ _ _ _ _ _
      exact FinP.ret _ (res1 rfl rfl) ⟨rfl, hS10.ext⟩
    · replace h := inegb h hc11
      refine W.skip ?_
      refine W.seq (W.region ?_)
      refine WL.val v_aTable _ (op_move rfl) rfl ?_
      obtain ⟨x13, hx14, h⟩ := bs h
      refine WL.call _ (op_call fn_29 (args1 rfl)) (c_laws_toInt64SS (Ty.lift _ hS10.ext r_aTable) hx14) rfl ?_
      rintro u15 wd16 ⟨_, rfl, he17, hs18⟩
      have hS19 := St.join hS10 he17 hs18
      replace hS19 : St w wd16 [(Ty.sl (Ty.sl (Ty.i .i64))).at u15 x13] := hS19
      have hb20 := St.rep (t := (Ty.sl (Ty.sl (Ty.i .i64)))) hS19 0 rfl
      have hE21 : Ext w wd16 := hS19.ext
      have hS22 : St wd16 wd16 [] := St.start wd16
      refine WL.val v_aDuals _ (op_move rfl) rfl ?_
      obtain ⟨x23, hx24, h⟩ := bs h
      refine WL.call _ (op_call fn_12 (args1 rfl)) (c_laws_toInt64S (Ty.lift _ (Ext.trans hE21 hS22.ext) r_aDuals) hx24) rfl ?_
      rintro u25 wd26 ⟨_, rfl, he27, hs28⟩
      have hS29 := St.join hS22 he27 hs28
      replace hS29 : St wd16 wd26 [(Ty.sl (Ty.i .i64)).at u25 x23] := hS29
      have hb30 := St.rep (t := (Ty.sl (Ty.i .i64))) hS29 0 rfl
      have hE31 : Ext w wd26 := (Ext.trans hE21 hS29.ext)
      have hE32 : Ext wd16 wd26 := hS29.ext
      have hS33 : St wd26 wd26 [] := St.start wd26
      obtain ⟨x34, hx35, h⟩ := bs h
      refine WL.call _ (op_call fn_28 (args2 rfl rfl)) (c_spec_RingOfCharacters (Ty.lift _ (Ext.trans hE32 hS33.ext) hb20) (Ty.lift _ hS33.ext hb30) hx35) rfl ?_
      rintro _ wd38 ⟨u36, rfl, hr37, he39, hs40⟩
      have hS41 := St.join hS33 he39 hs40
      replace hS41 : St wd26 wd38 [(Ty.sl (Ty.sl (Ty.sl (Ty.i .i64)))).at u36 x34.1] := hS41
      refine WL.val (Value.tuple #[(Value.agg #[u36]), (Value.int .i64 x34.2)]) _ (op_move rfl) rfl ?_
      refine WL.val (Value.agg #[u36]) _ (op_extract rfl rfl) rfl ?_
      refine WL.val (Value.int .i64 x34.2) _ (op_extract rfl rfl) rfl ?_
      refine WL.alloc hS41 ze_29 (cs := [(Value.slice none 0 0)]) rfl rfl ?_
      intro b42 wd43 hS44 he45
      replace hS44 : St wd26 wd43 [(Ty.sl (Ty.sl (Ty.sl (Ty.i .i64)))).at u36 x34.1, bx b42 [(Value.slice none 0 0)]] := hS44
      refine WL.storeBox [u36] hS44 (k := 1) rfl rfl rfl (us := [u36]) rfl sz_29 rfl rfl (all_rep (St.rep (t := (Ty.sl (Ty.sl (Ty.sl (Ty.i .i64))))) hS44 0 rfl) all_nil) rfl ?_
      intro wd46 hS47
      replace hS47 : St wd26 wd46 [(Ty.sl (Ty.sl (Ty.sl (Ty.i .i64)))).at u36 x34.1, bx b42 [u36]] := hS47
      refine WL.val (Value.int .i64 x34.2) _ (op_assign rfl) rfl ?_
      refine WL.nil ?_
      refine W.seq (W.region ?_)
      refine WL.val v_aTable _ (op_move rfl) rfl ?_
      obtain ⟨x48, hx49, h⟩ := bs h
      refine WL.call _ (op_call fn_29 (args1 rfl)) (c_laws_toInt64SS (Ty.lift _ (Ext.trans hE31 hS47.ext) r_aTable) hx49) rfl ?_
      rintro u50 wd51 ⟨_, rfl, he52, hs53⟩
      have hS54 := St.join hS47 he52 hs53
      replace hS54 : St wd26 wd51 [(Ty.sl (Ty.sl (Ty.sl (Ty.i .i64)))).at u36 x34.1, bx b42 [u36], (Ty.sl (Ty.sl (Ty.i .i64))).at u50 x48] := hS54
      refine WL.val u50 _ (op_assign rfl) rfl ?_
      refine WL.nil ?_
      refine W.seq (W.region ?_)
      refine WL.val v_aDuals _ (op_move rfl) rfl ?_
      obtain ⟨x55, hx56, h⟩ := bs h
      refine WL.call _ (op_call fn_12 (args1 rfl)) (c_laws_toInt64S (Ty.lift _ (Ext.trans hE31 hS54.ext) r_aDuals) hx56) rfl ?_
      rintro u57 wd58 ⟨_, rfl, he59, hs60⟩
      have hS61 := St.join hS54 he59 hs60
      replace hS61 : St wd26 wd58 [(Ty.sl (Ty.sl (Ty.sl (Ty.i .i64)))).at u36 x34.1, bx b42 [u36], (Ty.sl (Ty.sl (Ty.i .i64))).at u50 x48, (Ty.sl (Ty.i .i64)).at u57 x55] := hS61
      refine WL.val u57 _ (op_assign rfl) rfl ?_
      refine WL.nil ?_
      refine W.seq (W.region ?_)
      refine WL.val u50 _ (op_move rfl) rfl ?_
      refine WL.val u57 _ (op_move rfl) rfl ?_
      obtain ⟨x62, hx63, h⟩ := bs h
      refine WL.call _ (op_call fn_30 (args2 rfl rfl)) (c_impl_RingOfCharacters (St.rep (t := (Ty.sl (Ty.sl (Ty.i .i64)))) hS61 2 rfl) (St.rep (t := (Ty.sl (Ty.i .i64))) hS61 3 rfl) hx63) rfl ?_
      rintro _ wd66 ⟨u64, rfl, hr65, he67, hs68⟩
      have hS69 := St.join hS61 he67 hs68
      replace hS69 : St wd26 wd66 [(Ty.sl (Ty.sl (Ty.sl (Ty.i .i64)))).at u36 x34.1, bx b42 [u36], (Ty.sl (Ty.sl (Ty.i .i64))).at u50 x48, (Ty.sl (Ty.i .i64)).at u57 x55, (Ty.sl (Ty.sl (Ty.sl (Ty.i .i64)))).at u64 x62.1] := hS69
      refine WL.val (Value.tuple #[(Value.agg #[u64]), (Value.int .i64 x62.2)]) _ (op_move rfl) rfl ?_
      refine WL.val (Value.agg #[u64]) _ (op_extract rfl rfl) rfl ?_
      refine WL.val (Value.int .i64 x62.2) _ (op_extract rfl rfl) rfl ?_
      refine WL.alloc hS69 ze_29 (cs := [(Value.slice none 0 0)]) rfl rfl ?_
      intro b70 wd71 hS72 he73
      replace hS72 : St wd26 wd71 [(Ty.sl (Ty.sl (Ty.sl (Ty.i .i64)))).at u36 x34.1, bx b42 [u36], (Ty.sl (Ty.sl (Ty.i .i64))).at u50 x48, (Ty.sl (Ty.i .i64)).at u57 x55, (Ty.sl (Ty.sl (Ty.sl (Ty.i .i64)))).at u64 x62.1, bx b70 [(Value.slice none 0 0)]] := hS72
      refine WL.storeBox [u64] hS72 (k := 5) rfl rfl rfl (us := [u64]) rfl sz_29 rfl rfl (all_rep (St.rep (t := (Ty.sl (Ty.sl (Ty.sl (Ty.i .i64))))) hS72 4 rfl) all_nil) rfl ?_
      intro wd74 hS75
      replace hS75 : St wd26 wd74 [(Ty.sl (Ty.sl (Ty.sl (Ty.i .i64)))).at u36 x34.1, bx b42 [u36], (Ty.sl (Ty.sl (Ty.i .i64))).at u50 x48, (Ty.sl (Ty.i .i64)).at u57 x55, (Ty.sl (Ty.sl (Ty.sl (Ty.i .i64)))).at u64 x62.1, bx b70 [u64]] := hS75
      refine WL.val (Value.int .i64 x62.2) _ (op_assign rfl) rfl ?_
      refine WL.nil ?_
      refine W.seq (W.seq (W.region ?_))
      refine WL.val (Value.agg #[u64]) _ (op_loadBox st_29 rfl (St.boxAt hS75 5 rfl) rfl rfl) rfl ?_
      refine WL.val (Value.agg #[u36]) _ (op_loadBox st_29 rfl (St.boxAt hS75 1 rfl) rfl rfl) rfl ?_
      obtain ⟨x76, hx77, h⟩ := bs h
      refine WL.call _ (op_call fn_15 (args2 rfl rfl)) (c_laws_eqRing (St.rep (t := (Ty.sl (Ty.sl (Ty.sl (Ty.i .i64))))) hS75 4 rfl) (St.rep (t := (Ty.sl (Ty.sl (Ty.sl (Ty.i .i64))))) hS75 0 rfl) hx77) rfl ?_
      rintro _ wd78 ⟨rfl, he79⟩
      have hS81 := St.extend hS75 he79
      replace hS81 : St wd26 wd78 [(Ty.sl (Ty.sl (Ty.sl (Ty.i .i64)))).at u36 x34.1, bx b42 [u36], (Ty.sl (Ty.sl (Ty.i .i64))).at u50 x48, (Ty.sl (Ty.i .i64)).at u57 x55, (Ty.sl (Ty.sl (Ty.sl (Ty.i .i64)))).at u64 x62.1, bx b70 [u64]] := hS81
      refine WL.val (Value.bool (!x76)) _ (op_not rfl) rfl ?_
      refine WL.val (Value.bool (!x76)) _ (op_move rfl) rfl ?_
      refine WL.cut 4 (fun fq wq => fq 0 = v_aTable ∧ fq 1 = v_aDuals ∧ fq 6 = (Value.pointer (some ⟨b42, 0, none⟩)) ∧ fq 7 = (Value.int .i64 x34.2) ∧ fq 8 = u50 ∧ fq 9 = u57 ∧ fq 10 = (Value.pointer (some ⟨b70, 0, none⟩)) ∧ fq 11 = (Value.int .i64 x62.2) ∧ fq 51 = (Value.bool ((!x76) || (x62.2 != x34.2))) ∧ St wd26 wq [(Ty.sl (Ty.sl (Ty.sl (Ty.i .i64)))).at u36 x34.1, bx b42 [u36], (Ty.sl (Ty.sl (Ty.i .i64))).at u50 x48, (Ty.sl (Ty.i .i64)).at u57 x55, (Ty.sl (Ty.sl (Ty.sl (Ty.i .i64)))).at u64 x62.1, bx b70 [u64]]) ?_ ?_
      · rcases Bool.eq_false_or_eq_true (!x76) with hc82 | hc82
        · refine WL.gskip rfl (bool_of rfl hc82) rfl ?_
          refine WL.gskip rfl (bool_of rfl hc82) rfl ?_
          refine WL.gskip rfl (bool_of rfl hc82) rfl ?_
          refine WL.val (Value.bool true) _ (op_pick_t (evb_of rfl hc82) rfl) rfl ?_
          refine WL.nil ?_
          exact ⟨rfl, rfl, rfl, rfl, rfl, rfl, rfl, rfl, rfl, (orT hc82), hS81⟩
        · refine WL.grun rfl (bool_of rfl hc82) ?_
          refine WL.val (Value.int .i64 x62.2) _ (op_move rfl) rfl ?_
          refine WL.grun rfl (bool_of rfl hc82) ?_
          refine WL.val (Value.int .i64 x34.2) _ (op_move rfl) rfl ?_
          refine WL.grun rfl (bool_of rfl hc82) ?_
          refine WL.val (Value.bool (x62.2 != x34.2)) _ (op_neq rfl rfl) rfl ?_
          refine WL.val (Value.bool (x62.2 != x34.2)) _ (op_pick_f (evb_of rfl hc82) rfl) rfl ?_
          refine WL.nil ?_
          exact ⟨rfl, rfl, rfl, rfl, rfl, rfl, rfl, rfl, rfl, (orF hc82), hS81⟩
      · intro f83 wd84 hq85
        obtain ⟨hf86, hf87, hf88, hf89, hf90, hf91, hf92, hf93, hf94, hS95⟩ := hq85
        refine WL.nil ?_
        refine W.cond ((!x76) || (x62.2 != x34.2)) hf94 (fun hc96 => ?_) (fun hc96 => ?_)
        · replace h := ip h hc96
          refine W.seq (W.region ?_)
          refine WL.val (Value.bool false) _ (op_assign rfl) rfl ?_
          refine WL.nil ?_
          refine W.ret ?_
          obtain rfl := Option.some.inj h
          show FinP _ _ _ _ _ _ _
          exact FinP.ret _ (res1 rfl rfl) ⟨rfl, (Ext.trans hE31 hS95.ext)⟩
        · replace h := inegb h hc96
          refine W.skip ?_
          refine W.seq (W.seq (W.region ?_))
          refine WL.val u50 _ (op_move hf90) rfl ?_
          refine WL.val v_aTable _ (op_move hf86) rfl ?_
          obtain ⟨x98, hx99, h⟩ := bs h
          refine WL.call _ (op_call fn_29 (args1 rfl)) (c_laws_toInt64SS (Ty.lift _ (Ext.trans hE31 hS95.ext) r_aTable) hx99) rfl ?_
          rintro u100 wd101 ⟨_, rfl, he102, hs103⟩
          have hS104 := St.join hS95 he102 hs103
          replace hS104 : St wd26 wd101 [(Ty.sl (Ty.sl (Ty.sl (Ty.i .i64)))).at u36 x34.1, bx b42 [u36], (Ty.sl (Ty.sl (Ty.i .i64))).at u50 x48, (Ty.sl (Ty.i .i64)).at u57 x55, (Ty.sl (Ty.sl (Ty.sl (Ty.i .i64)))).at u64 x62.1, bx b70 [u64], (Ty.sl (Ty.sl (Ty.i .i64))).at u100 x98] := hS104
          obtain ⟨x105, hx106, h⟩ := bs h
          refine WL.call _ (op_call fn_31 (args2 rfl rfl)) (c_laws_eqInt64SS (St.rep (t := (Ty.sl (Ty.sl (Ty.i .i64)))) hS104 2 rfl) (St.rep (t := (Ty.sl (Ty.sl (Ty.i .i64)))) hS104 6 rfl) hx106) rfl ?_
          rintro _ wd107 ⟨rfl, he108⟩
          have hS110 := St.extend hS104 he108
          replace hS110 : St wd26 wd107 [(Ty.sl (Ty.sl (Ty.sl (Ty.i .i64)))).at u36 x34.1, bx b42 [u36], (Ty.sl (Ty.sl (Ty.i .i64))).at u50 x48, (Ty.sl (Ty.i .i64)).at u57 x55, (Ty.sl (Ty.sl (Ty.sl (Ty.i .i64)))).at u64 x62.1, bx b70 [u64], (Ty.sl (Ty.sl (Ty.i .i64))).at u100 x98] := hS110
          refine WL.val (Value.bool (!x105)) _ (op_not rfl) rfl ?_
          refine WL.nil ?_
          refine W.cond (!x105) rfl (fun hc111 => ?_) (fun hc111 => ?_)
          · replace h := ip h hc111
            refine W.seq (W.region ?_)
            refine WL.val (Value.bool false) _ (op_assign rfl) rfl ?_
            refine WL.nil ?_
            refine W.ret ?_
            obtain rfl := Option.some.inj h
            show FinP _ _ _ _ _ _ _
            exact FinP.ret _ (res1 rfl rfl) ⟨rfl, (Ext.trans hE31 hS110.ext)⟩
          · replace h := inegb h hc111
            refine W.skip ?_
            refine W.seq (W.seq (W.region ?_))
            refine WL.val u57 _ (op_move hf91) rfl ?_
            refine WL.val v_aDuals _ (op_move hf87) rfl ?_
            obtain ⟨x113, hx114, h⟩ := bs h
            refine WL.call _ (op_call fn_12 (args1 rfl)) (c_laws_toInt64S (Ty.lift _ (Ext.trans hE31 hS110.ext) r_aDuals) hx114) rfl ?_
            rintro u115 wd116 ⟨_, rfl, he117, hs118⟩
            have hS119 := St.join hS110 he117 hs118
            replace hS119 : St wd26 wd116 [(Ty.sl (Ty.sl (Ty.sl (Ty.i .i64)))).at u36 x34.1, bx b42 [u36], (Ty.sl (Ty.sl (Ty.i .i64))).at u50 x48, (Ty.sl (Ty.i .i64)).at u57 x55, (Ty.sl (Ty.sl (Ty.sl (Ty.i .i64)))).at u64 x62.1, bx b70 [u64], (Ty.sl (Ty.sl (Ty.i .i64))).at u100 x98, (Ty.sl (Ty.i .i64)).at u115 x113] := hS119
            obtain ⟨x120, hx121, h⟩ := bs h
            refine WL.call _ (op_call fn_14 (args2 rfl rfl)) (c_laws_eqInt64S (St.rep (t := (Ty.sl (Ty.i .i64))) hS119 3 rfl) (St.rep (t := (Ty.sl (Ty.i .i64))) hS119 7 rfl) hx121) rfl ?_
            rintro _ wd122 ⟨rfl, he123⟩
            have hS125 := St.extend hS119 he123
            replace hS125 : St wd26 wd122 [(Ty.sl (Ty.sl (Ty.sl (Ty.i .i64)))).at u36 x34.1, bx b42 [u36], (Ty.sl (Ty.sl (Ty.i .i64))).at u50 x48, (Ty.sl (Ty.i .i64)).at u57 x55, (Ty.sl (Ty.sl (Ty.sl (Ty.i .i64)))).at u64 x62.1, bx b70 [u64], (Ty.sl (Ty.sl (Ty.i .i64))).at u100 x98, (Ty.sl (Ty.i .i64)).at u115 x113] := hS125
            refine WL.val (Value.bool (!x120)) _ (op_not rfl) rfl ?_
            refine WL.nil ?_
            refine W.cond (!x120) rfl (fun hc126 => ?_) (fun hc126 => ?_)
            · replace h := ip h hc126
              refine W.seq (W.region ?_)
              refine WL.val (Value.bool false) _ (op_assign rfl) rfl ?_
              refine WL.nil ?_
              refine W.ret ?_
              obtain rfl := Option.some.inj h
              show FinP _ _ _ _ _ _ _
              exact FinP.ret _ (res1 rfl rfl) ⟨rfl, (Ext.trans hE31 hS125.ext)⟩
            · replace h := inegb h hc126
              refine W.skip ?_
              refine W.seq (W.region ?_)
              refine WL.val (Value.int .i64 (1 : Int)) _ (op_assign rfl) rfl ?_
              refine WL.nil ?_
              refine W.seq (W.region ?_)
              refine WL.val u50 _ (op_move hf90) rfl ?_
              refine WL.val (Value.int .i64 (1 : Int)) _ (op_move rfl) rfl ?_
              obtain ⟨x128, hx129, h⟩ := bs h
              have hS130 := St.fold [(Ty.sl (Ty.sl (Ty.i .i64))).at u50 x48] [(Ty.sl (Ty.sl (Ty.sl (Ty.i .i64)))).at u36 x34.1, bx b42 [u36], (Ty.sl (Ty.i .i64)).at u57 x55, (Ty.sl (Ty.sl (Ty.sl (Ty.i .i64)))).at u64 x62.1, bx b70 [u64], (Ty.sl (Ty.sl (Ty.i .i64))).at u100 x98, (Ty.sl (Ty.i .i64)).at u115 x113] (St.pick hS125 [2, 0, 1, 3, 4, 5, 6, 7] rfl)
              refine WL.call _ (op_call fn_32 (args2 rfl rfl)) (c_laws_markInt64SS hS130 (inL rfl) hx129) rfl ?_
              rintro _ wd133 ⟨rfl, hr134, hS131⟩
              have hS132 := St.pick (St.unfold [(Ty.sl (Ty.sl (Ty.i .i64))).at u50 x128.2] [(Ty.sl (Ty.sl (Ty.sl (Ty.i .i64)))).at u36 x34.1, bx b42 [u36], (Ty.sl (Ty.i .i64)).at u57 x55, (Ty.sl (Ty.sl (Ty.sl (Ty.i .i64)))).at u64 x62.1, bx b70 [u64], (Ty.sl (Ty.sl (Ty.i .i64))).at u100 x98, (Ty.sl (Ty.i .i64)).at u115 x113] hS131) [1, 2, 0, 3, 4, 5, 6, 7] rfl
              replace hS132 : St wd26 wd133 [(Ty.sl (Ty.sl (Ty.sl (Ty.i .i64)))).at u36 x34.1, bx b42 [u36], (Ty.sl (Ty.sl (Ty.i .i64))).at u50 x128.2, (Ty.sl (Ty.i .i64)).at u57 x55, (Ty.sl (Ty.sl (Ty.sl (Ty.i .i64)))).at u64 x62.1, bx b70 [u64], (Ty.sl (Ty.sl (Ty.i .i64))).at u100 x98, (Ty.sl (Ty.i .i64)).at u115 x113] := hS132
              refine WL.val (Value.int .i64 x128.1) _ (op_assign rfl) rfl ?_
              refine WL.nil ?_
              refine W.seq (W.region ?_)
              refine WL.val u57 _ (op_move hf91) rfl ?_
              refine WL.val (Value.int .i64 x128.1) _ (op_move rfl) rfl ?_
              obtain ⟨x135, hx136, h⟩ := bs h
              have hS137 := St.fold [(Ty.sl (Ty.i .i64)).at u57 x55] [(Ty.sl (Ty.sl (Ty.sl (Ty.i .i64)))).at u36 x34.1, bx b42 [u36], (Ty.sl (Ty.sl (Ty.i .i64))).at u50 x128.2, (Ty.sl (Ty.sl (Ty.sl (Ty.i .i64)))).at u64 x62.1, bx b70 [u64], (Ty.sl (Ty.sl (Ty.i .i64))).at u100 x98, (Ty.sl (Ty.i .i64)).at u115 x113] (St.pick hS132 [3, 0, 1, 2, 4, 5, 6, 7] rfl)
              refine WL.call _ (op_call fn_17 (args2 rfl rfl)) (c_laws_markInt64S hS137 hr134 hx136) rfl ?_
              rintro _ wd140 ⟨rfl, hr141, hS138⟩
              have hS139 := St.pick (St.unfold [(Ty.sl (Ty.i .i64)).at u57 x135.2] [(Ty.sl (Ty.sl (Ty.sl (Ty.i .i64)))).at u36 x34.1, bx b42 [u36], (Ty.sl (Ty.sl (Ty.i .i64))).at u50 x128.2, (Ty.sl (Ty.sl (Ty.sl (Ty.i .i64)))).at u64 x62.1, bx b70 [u64], (Ty.sl (Ty.sl (Ty.i .i64))).at u100 x98, (Ty.sl (Ty.i .i64)).at u115 x113] hS138) [1, 2, 3, 0, 4, 5, 6, 7] rfl
              replace hS139 : St wd26 wd140 [(Ty.sl (Ty.sl (Ty.sl (Ty.i .i64)))).at u36 x34.1, bx b42 [u36], (Ty.sl (Ty.sl (Ty.i .i64))).at u50 x128.2, (Ty.sl (Ty.i .i64)).at u57 x135.2, (Ty.sl (Ty.sl (Ty.sl (Ty.i .i64)))).at u64 x62.1, bx b70 [u64], (Ty.sl (Ty.sl (Ty.i .i64))).at u100 x98, (Ty.sl (Ty.i .i64)).at u115 x113] := hS139
              refine WL.val (Value.int .i64 x135.1) _ (op_assign rfl) rfl ?_
              refine WL.nil ?_
              refine W.seq (W.seq (W.region ?_))
              refine WL.val (Value.int .i64 x135.1) _ (op_move rfl) rfl ?_
              refine WL.val (Value.bool (decide (x135.1 < (0 : Int)))) _ (op_lss rfl rfl) rfl ?_
              refine WL.val (Value.bool (decide (x135.1 < (0 : Int)))) _ (op_move rfl) rfl ?_
              obtain ⟨x143, hj144, h⟩ := bs h
              refine WL.cut 5 (fun fq wq => fq 0 = v_aTable ∧ fq 1 = v_aDuals ∧ fq 6 = (Value.pointer (some ⟨b42, 0, none⟩)) ∧ fq 7 = (Value.int .i64 x34.2) ∧ fq 10 = (Value.pointer (some ⟨b70, 0, none⟩)) ∧ fq 11 = (Value.int .i64 x62.2) ∧ fq 75 = Value.bool x143 ∧ St wd26 wq [(Ty.sl (Ty.sl (Ty.sl (Ty.i .i64)))).at u36 x34.1, bx b42 [u36], (Ty.sl (Ty.sl (Ty.sl (Ty.i .i64)))).at u64 x62.1, bx b70 [u64]]) ?_ ?_
              · rcases Bool.eq_false_or_eq_true (decide (x135.1 < (0 : Int))) with hc142 | hc142
                · replace hj144 := ip hj144 hc142
                  refine WL.gskip rfl (bool_of rfl hc142) rfl ?_
                  refine WL.gskip rfl (bool_of rfl hc142) rfl ?_
                  refine WL.gskip rfl (bool_of rfl hc142) rfl ?_
                  refine WL.gskip rfl (bool_of rfl hc142) rfl ?_
                  refine WL.val (Value.bool true) _ (op_pick_t (evb_of rfl hc142) rfl) rfl ?_
                  refine WL.nil ?_
                  obtain rfl := Option.some.inj hj144
                  exact ⟨rfl, hf86, hf87, hf88, hf89, hf92, hf93, rfl, (St.pick hS139 [0, 1, 4, 5] rfl)⟩
                · replace hj144 := inegb hj144 hc142
                  refine WL.grun rfl (bool_of rfl hc142) ?_
                  refine WL.val (Value.agg #[u64]) _ (op_loadBox st_29 hf92 (St.boxAt hS139 5 rfl) rfl rfl) rfl ?_
                  refine WL.grun rfl (bool_of rfl hc142) ?_
                  refine WL.val (Value.agg #[u36]) _ (op_loadBox st_29 hf88 (St.boxAt hS139 1 rfl) rfl rfl) rfl ?_
                  refine WL.grun rfl (bool_of rfl hc142) ?_
                  obtain ⟨x148, hx149, hj144⟩ := bs hj144
                  refine WL.call _ (op_call fn_15 (args2 rfl rfl)) (c_laws_eqRing (St.rep (t := (Ty.sl (Ty.sl (Ty.sl (Ty.i .i64))))) hS139 4 rfl) (St.rep (t := (Ty.sl (Ty.sl (Ty.sl (Ty.i .i64))))) hS139 0 rfl) hx149) rfl ?_
                  rintro _ wd150 ⟨rfl, he151⟩
                  have hS153 := St.extend hS139 he151
                  replace hS153 : St wd26 wd150 [(Ty.sl (Ty.sl (Ty.sl (Ty.i .i64)))).at u36 x34.1, bx b42 [u36], (Ty.sl (Ty.sl (Ty.i .i64))).at u50 x128.2, (Ty.sl (Ty.i .i64)).at u57 x135.2, (Ty.sl (Ty.sl (Ty.sl (Ty.i .i64)))).at u64 x62.1, bx b70 [u64], (Ty.sl (Ty.sl (Ty.i .i64))).at u100 x98, (Ty.sl (Ty.i .i64)).at u115 x113] := hS153
                  refine WL.grun rfl (bool_of rfl hc142) ?_
                  refine WL.val (Value.bool (!x148)) _ (op_not rfl) rfl ?_
                  refine WL.val (Value.bool (!x148)) _ (op_pick_f (evb_of rfl hc142) rfl) rfl ?_
                  refine WL.nil ?_
                  obtain rfl := Option.some.inj hj144
                  exact ⟨rfl, hf86, hf87, hf88, hf89, hf92, hf93, rfl, (St.pick hS153 [0, 1, 4, 5] rfl)⟩
              · intro f145 wd146 hq147
                obtain ⟨hf154, hf155, hf156, hf157, hf158, hf159, hf160, hS161⟩ := hq147
                refine WL.val (Value.bool x143) _ (op_move hf160) rfl ?_
                refine WL.cut 4 (fun fq wq => fq 0 = v_aTable ∧ fq 1 = v_aDuals ∧ fq 6 = (Value.pointer (some ⟨b42, 0, none⟩)) ∧ fq 7 = (Value.int .i64 x34.2) ∧ fq 10 = (Value.pointer (some ⟨b70, 0, none⟩)) ∧ fq 80 = (Value.bool (x143 || (x62.2 != x34.2))) ∧ St wd26 wq [(Ty.sl (Ty.sl (Ty.sl (Ty.i .i64)))).at u36 x34.1, bx b42 [u36], (Ty.sl (Ty.sl (Ty.sl (Ty.i .i64)))).at u64 x62.1, bx b70 [u64]]) ?_ ?_
                · rcases Bool.eq_false_or_eq_true x143 with hc162 | hc162
                  · refine WL.gskip rfl (bool_of rfl hc162) rfl ?_
                    refine WL.gskip rfl (bool_of rfl hc162) rfl ?_
                    refine WL.gskip rfl (bool_of rfl hc162) rfl ?_
                    refine WL.val (Value.bool true) _ (op_pick_t (evb_of rfl hc162) rfl) rfl ?_
                    refine WL.nil ?_
                    exact ⟨rfl, hf154, hf155, hf156, hf157, hf158, (orT hc162), hS161⟩
                  · refine WL.grun rfl (bool_of rfl hc162) ?_
                    refine WL.val (Value.int .i64 x62.2) _ (op_move hf159) rfl ?_
                    refine WL.grun rfl (bool_of rfl hc162) ?_
                    refine WL.val (Value.int .i64 x34.2) _ (op_move hf157) rfl ?_
                    refine WL.grun rfl (bool_of rfl hc162) ?_
                    refine WL.val (Value.bool (x62.2 != x34.2)) _ (op_neq rfl rfl) rfl ?_
                    refine WL.val (Value.bool (x62.2 != x34.2)) _ (op_pick_f (evb_of rfl hc162) rfl) rfl ?_
                    refine WL.nil ?_
                    exact ⟨rfl, hf154, hf155, hf156, hf157, hf158, (orF hc162), hS161⟩
                · intro f163 wd164 hq165
                  obtain ⟨hf166, hf167, hf168, hf169, hf170, hf171, hS172⟩ := hq165
                  refine WL.nil ?_
                  refine W.cond (x143 || (x62.2 != x34.2)) hf171 (fun hc173 => ?_) (fun hc173 => ?_)
                  · replace h := ip h hc173
                    refine W.seq (W.region ?_)
                    refine WL.val (Value.bool false) _ (op_assign rfl) rfl ?_
                    refine WL.nil ?_
                    refine W.ret ?_
                    obtain rfl := Option.some.inj h
                    show FinP _ _ _ _ _ _ _
                    exact FinP.ret _ (res1 rfl rfl) ⟨rfl, (Ext.trans hE31 hS172.ext)⟩
                  · replace h := inegb h hc173
                    refine W.skip ?_
                    refine W.seq (W.region ?_)
                    refine WL.val (Value.int .i64 (1 : Int)) _ (op_assign rfl) rfl ?_
                    refine WL.nil ?_
                    refine W.seq (W.region ?_)
                    refine WL.val (Value.agg #[u64]) _ (op_loadBox st_29 hf170 (St.boxAt hS172 3 rfl) rfl rfl) rfl ?_
                    refine WL.val (Value.int .i64 (1 : Int)) _ (op_move rfl) rfl ?_
                    obtain ⟨x175, hx176, h⟩ := bs h
                    have hS177 := St.fold [(Ty.sl (Ty.sl (Ty.sl (Ty.i .i64)))).at u64 x62.1] [(Ty.sl (Ty.sl (Ty.sl (Ty.i .i64)))).at u36 x34.1, bx b42 [u36], bx b70 [u64]] (St.pick hS172 [2, 0, 1, 3] rfl)
                    refine WL.call _ (op_call fn_16 (args2 rfl rfl)) (c_laws_markRing hS177 (inL rfl) hx176) rfl ?_
                    rintro _ wd180 ⟨rfl, hr181, hS178⟩
                    have hS179 := St.pick (St.unfold [(Ty.sl (Ty.sl (Ty.sl (Ty.i .i64)))).at u64 x175.2] [(Ty.sl (Ty.sl (Ty.sl (Ty.i .i64)))).at u36 x34.1, bx b42 [u36], bx b70 [u64]] hS178) [1, 2, 0, 3] rfl
                    replace hS179 : St wd26 wd180 [(Ty.sl (Ty.sl (Ty.sl (Ty.i .i64)))).at u36 x34.1, bx b42 [u36], (Ty.sl (Ty.sl (Ty.sl (Ty.i .i64)))).at u64 x175.2, bx b70 [u64]] := hS179
                    refine WL.val (Value.int .i64 x175.1) _ (op_assign rfl) rfl ?_
                    refine WL.nil ?_
                    refine W.seq (W.region ?_)
                    refine WL.val (Value.int .i64 (1 : Int)) _ (op_assign rfl) rfl ?_
                    refine WL.nil ?_
                    refine W.seq (W.region ?_)
                    refine WL.val (Value.agg #[u64]) _ (op_loadBox st_29 hf170 (St.boxAt hS179 3 rfl) rfl rfl) rfl ?_
                    refine WL.val (Value.int .i64 (1 : Int)) _ (op_move rfl) rfl ?_
                    obtain ⟨x182, hx183, h⟩ := bs h
                    refine WL.call _ (op_call fn_33 (args2 rfl rfl)) (c_laws_heldRing (St.rep (t := (Ty.sl (Ty.sl (Ty.sl (Ty.i .i64))))) hS179 2 rfl) (inL rfl) hx183) rfl ?_
                    rintro _ wd185 ⟨rfl, hr184, he186⟩
                    have hS188 := St.extend hS179 he186
                    replace hS188 : St wd26 wd185 [(Ty.sl (Ty.sl (Ty.sl (Ty.i .i64)))).at u36 x34.1, bx b42 [u36], (Ty.sl (Ty.sl (Ty.sl (Ty.i .i64)))).at u64 x175.2, bx b70 [u64]] := hS188
                    refine WL.val (Value.int .i64 x182) _ (op_assign rfl) rfl ?_
                    refine WL.nil ?_
                    refine W.seq (W.seq (W.region ?_))
                    refine WL.val (Value.int .i64 x182) _ (op_move rfl) rfl ?_
                    refine WL.val (Value.bool (decide (x182 < (0 : Int)))) _ (op_lss rfl rfl) rfl ?_
                    refine WL.nil ?_
                    refine W.cond (decide (x182 < (0 : Int))) rfl (fun hc189 => ?_) (fun hc189 => ?_)
                    · replace h := ip h hc189
                      refine W.seq (W.region ?_)
                      refine WL.val (Value.bool false) _ (op_assign rfl) rfl ?_
                      refine WL.nil ?_
                      refine W.ret ?_
                      obtain rfl := Option.some.inj h
                      show FinP _ _ _ _ _ _ _
                      exact FinP.ret _ (res1 rfl rfl) ⟨rfl, (Ext.trans hE31 hS188.ext)⟩
                    · replace h := inegb h hc189
                      refine W.skip ?_
                      refine W.seq (W.seq (W.region ?_))
                      refine WL.val (Value.int .i64 x182) _ (op_move rfl) rfl ?_
                      refine WL.val (Value.int .i64 x175.1) _ (op_move rfl) rfl ?_
                      refine WL.val (Value.bool (x182 != x175.1)) _ (op_neq rfl rfl) rfl ?_
                      refine WL.nil ?_
                      refine W.cond (x182 != x175.1) rfl (fun hc191 => ?_) (fun hc191 => ?_)
                      · replace h := ip h hc191
                        refine W.seq (W.region ?_)
                        refine WL.val (Value.bool false) _ (op_assign rfl) rfl ?_
                        refine WL.nil ?_
                        refine W.ret ?_
                        obtain rfl := Option.some.inj h
                        show FinP _ _ _ _ _ _ _
                        exact FinP.ret _ (res1 rfl rfl) ⟨rfl, (Ext.trans hE31 hS188.ext)⟩
                      · replace h := inegb h hc191
                        refine W.skip ?_
                        refine W.seq (W.region ?_)
                        refine WL.val v_aTable _ (op_move hf166) rfl ?_
                        obtain ⟨x193, hx194, h⟩ := bs h
                        refine WL.call _ (op_call fn_29 (args1 rfl)) (c_laws_toInt64SS (Ty.lift _ (Ext.trans hE31 hS188.ext) r_aTable) hx194) rfl ?_
                        rintro u195 wd196 ⟨_, rfl, he197, hs198⟩
                        have hS199 := St.join hS188 he197 hs198
                        replace hS199 : St wd26 wd196 [(Ty.sl (Ty.sl (Ty.sl (Ty.i .i64)))).at u36 x34.1, bx b42 [u36], (Ty.sl (Ty.sl (Ty.sl (Ty.i .i64)))).at u64 x175.2, bx b70 [u64], (Ty.sl (Ty.sl (Ty.i .i64))).at u195 x193] := hS199
                        refine WL.val v_aDuals _ (op_move hf167) rfl ?_
                        obtain ⟨x200, hx201, h⟩ := bs h
                        refine WL.call _ (op_call fn_12 (args1 rfl)) (c_laws_toInt64S (Ty.lift _ (Ext.trans hE31 hS199.ext) r_aDuals) hx201) rfl ?_
                        rintro u202 wd203 ⟨_, rfl, he204, hs205⟩
                        have hS206 := St.join hS199 he204 hs205
                        replace hS206 : St wd26 wd203 [(Ty.sl (Ty.sl (Ty.sl (Ty.i .i64)))).at u36 x34.1, bx b42 [u36], (Ty.sl (Ty.sl (Ty.sl (Ty.i .i64)))).at u64 x175.2, bx b70 [u64], (Ty.sl (Ty.sl (Ty.i .i64))).at u195 x193, (Ty.sl (Ty.i .i64)).at u202 x200] := hS206
                        obtain ⟨x207, hx208, h⟩ := bs h
                        refine WL.call _ (op_call fn_30 (args2 rfl rfl)) (c_impl_RingOfCharacters (St.rep (t := (Ty.sl (Ty.sl (Ty.i .i64)))) hS206 4 rfl) (St.rep (t := (Ty.sl (Ty.i .i64))) hS206 5 rfl) hx208) rfl ?_
                        rintro _ wd211 ⟨u209, rfl, hr210, he212, hs213⟩
                        have hS214 := St.join hS206 he212 hs213
                        replace hS214 : St wd26 wd211 [(Ty.sl (Ty.sl (Ty.sl (Ty.i .i64)))).at u36 x34.1, bx b42 [u36], (Ty.sl (Ty.sl (Ty.sl (Ty.i .i64)))).at u64 x175.2, bx b70 [u64], (Ty.sl (Ty.sl (Ty.i .i64))).at u195 x193, (Ty.sl (Ty.i .i64)).at u202 x200, (Ty.sl (Ty.sl (Ty.sl (Ty.i .i64)))).at u209 x207.1] := hS214
                        refine WL.val (Value.tuple #[(Value.agg #[u209]), (Value.int .i64 x207.2)]) _ (op_move rfl) rfl ?_
                        refine WL.val (Value.agg #[u209]) _ (op_extract rfl rfl) rfl ?_
                        refine WL.val (Value.int .i64 x207.2) _ (op_extract rfl rfl) rfl ?_
                        refine WL.alloc hS214 ze_29 (cs := [(Value.slice none 0 0)]) rfl rfl ?_
                        intro b215 wd216 hS217 he218
                        replace hS217 : St wd26 wd216 [(Ty.sl (Ty.sl (Ty.sl (Ty.i .i64)))).at u36 x34.1, bx b42 [u36], (Ty.sl (Ty.sl (Ty.sl (Ty.i .i64)))).at u64 x175.2, bx b70 [u64], (Ty.sl (Ty.sl (Ty.i .i64))).at u195 x193, (Ty.sl (Ty.i .i64)).at u202 x200, (Ty.sl (Ty.sl (Ty.sl (Ty.i .i64)))).at u209 x207.1, bx b215 [(Value.slice none 0 0)]] := hS217
                        refine WL.storeBox [u209] hS217 (k := 7) rfl rfl rfl (us := [u209]) rfl sz_29 rfl rfl (all_rep (St.rep (t := (Ty.sl (Ty.sl (Ty.sl (Ty.i .i64))))) hS217 6 rfl) all_nil) rfl ?_
                        intro wd219 hS220
                        replace hS220 : St wd26 wd219 [(Ty.sl (Ty.sl (Ty.sl (Ty.i .i64)))).at u36 x34.1, bx b42 [u36], (Ty.sl (Ty.sl (Ty.sl (Ty.i .i64)))).at u64 x175.2, bx b70 [u64], (Ty.sl (Ty.sl (Ty.i .i64))).at u195 x193, (Ty.sl (Ty.i .i64)).at u202 x200, (Ty.sl (Ty.sl (Ty.sl (Ty.i .i64)))).at u209 x207.1, bx b215 [u209]] := hS220
                        refine WL.val (Value.int .i64 x207.2) _ (op_assign rfl) rfl ?_
                        refine WL.nil ?_
                        refine W.seq (W.seq (W.region ?_))
                        refine WL.val (Value.agg #[u209]) _ (op_loadBox st_29 rfl (St.boxAt hS220 7 rfl) rfl rfl) rfl ?_
                        refine WL.val (Value.agg #[u36]) _ (op_loadBox st_29 hf168 (St.boxAt hS220 1 rfl) rfl rfl) rfl ?_
                        obtain ⟨x221, hx222, h⟩ := bs h
                        refine WL.call _ (op_call fn_15 (args2 rfl rfl)) (c_laws_eqRing (St.rep (t := (Ty.sl (Ty.sl (Ty.sl (Ty.i .i64))))) hS220 6 rfl) (St.rep (t := (Ty.sl (Ty.sl (Ty.sl (Ty.i .i64))))) hS220 0 rfl) hx222) rfl ?_
                        rintro _ wd223 ⟨rfl, he224⟩
                        have hS226 := St.extend hS220 he224
                        replace hS226 : St wd26 wd223 [(Ty.sl (Ty.sl (Ty.sl (Ty.i .i64)))).at u36 x34.1, bx b42 [u36], (Ty.sl (Ty.sl (Ty.sl (Ty.i .i64)))).at u64 x175.2, bx b70 [u64], (Ty.sl (Ty.sl (Ty.i .i64))).at u195 x193, (Ty.sl (Ty.i .i64)).at u202 x200, (Ty.sl (Ty.sl (Ty.sl (Ty.i .i64)))).at u209 x207.1, bx b215 [u209]] := hS226
                        refine WL.val (Value.bool (!x221)) _ (op_not rfl) rfl ?_
                        refine WL.val (Value.bool (!x221)) _ (op_move rfl) rfl ?_
                        refine WL.cut 4 (fun fq wq => fq 10 = (Value.pointer (some ⟨b70, 0, none⟩)) ∧ fq 13 = (Value.int .i64 x175.1) ∧ fq 108 = (Value.bool ((!x221) || (x207.2 != x34.2))) ∧ St wd26 wq [(Ty.sl (Ty.sl (Ty.sl (Ty.i .i64)))).at u64 x175.2, bx b70 [u64]]) ?_ ?_
                        · rcases Bool.eq_false_or_eq_true (!x221) with hc227 | hc227
                          · refine WL.gskip rfl (bool_of rfl hc227) rfl ?_
                            refine WL.gskip rfl (bool_of rfl hc227) rfl ?_
                            refine WL.gskip rfl (bool_of rfl hc227) rfl ?_
                            refine WL.val (Value.bool true) _ (op_pick_t (evb_of rfl hc227) rfl) rfl ?_
                            refine WL.nil ?_
                            exact ⟨rfl, hf170, rfl, (orT hc227), (St.pick hS226 [2, 3] rfl)⟩
                          · refine WL.grun rfl (bool_of rfl hc227) ?_
                            refine WL.val (Value.int .i64 x207.2) _ (op_move rfl) rfl ?_
                            refine WL.grun rfl (bool_of rfl hc227) ?_
                            refine WL.val (Value.int .i64 x34.2) _ (op_move hf169) rfl ?_
                            refine WL.grun rfl (bool_of rfl hc227) ?_
                            refine WL.val (Value.bool (x207.2 != x34.2)) _ (op_neq rfl rfl) rfl ?_
                            refine WL.val (Value.bool (x207.2 != x34.2)) _ (op_pick_f (evb_of rfl hc227) rfl) rfl ?_
                            refine WL.nil ?_
                            exact ⟨rfl, hf170, rfl, (orF hc227), (St.pick hS226 [2, 3] rfl)⟩
                        · intro f228 wd229 hq230
                          obtain ⟨hf231, hf232, hf233, hS234⟩ := hq230
                          refine WL.nil ?_
                          refine W.cond ((!x221) || (x207.2 != x34.2)) hf233 (fun hc235 => ?_) (fun hc235 => ?_)
                          · replace h := ip h hc235
                            refine W.seq (W.region ?_)
                            refine WL.val (Value.bool false) _ (op_assign rfl) rfl ?_
                            refine WL.nil ?_
                            refine W.ret ?_
                            obtain rfl := Option.some.inj h
                            show FinP _ _ _ _ _ _ _
                            exact FinP.ret _ (res1 rfl rfl) ⟨rfl, (Ext.trans hE31 hS234.ext)⟩
                          · replace h := inegb h hc235
                            refine W.skip ?_
                            refine W.seq (W.region ?_)
                            refine WL.val (Value.int .i64 (1 : Int)) _ (op_assign rfl) rfl ?_
                            refine WL.nil ?_
                            refine W.seq (W.region ?_)
                            refine WL.val (Value.agg #[u64]) _ (op_loadBox st_29 hf231 (St.boxAt hS234 1 rfl) rfl rfl) rfl ?_
                            refine WL.val (Value.int .i64 (1 : Int)) _ (op_move rfl) rfl ?_
                            obtain ⟨x237, hx238, h⟩ := bs h
                            refine WL.call _ (op_call fn_33 (args2 rfl rfl)) (c_laws_heldRing (St.rep (t := (Ty.sl (Ty.sl (Ty.sl (Ty.i .i64))))) hS234 0 rfl) (inL rfl) hx238) rfl ?_
                            rintro _ wd240 ⟨rfl, hr239, he241⟩
                            have hS243 := St.extend hS234 he241
                            replace hS243 : St wd26 wd240 [(Ty.sl (Ty.sl (Ty.sl (Ty.i .i64)))).at u64 x175.2, bx b70 [u64]] := hS243
                            refine WL.val (Value.int .i64 x237) _ (op_assign rfl) rfl ?_
                            refine WL.nil ?_
                            refine W.seq (W.seq (W.region ?_))
                            refine WL.val (Value.int .i64 x237) _ (op_move rfl) rfl ?_
                            refine WL.val (Value.bool (decide (x237 < (0 : Int)))) _ (op_lss rfl rfl) rfl ?_
                            refine WL.nil ?_
                            refine W.cond (decide (x237 < (0 : Int))) rfl (fun hc244 => ?_) (fun hc244 => ?_)
                            · replace h := ip h hc244
                              refine W.seq (W.region ?_)
                              refine WL.val (Value.bool false) _ (op_assign rfl) rfl ?_
                              refine WL.nil ?_
                              refine W.ret ?_
                              obtain rfl := Option.some.inj h
                              show FinP _ _ _ _ _ _ _
                              exact FinP.ret _ (res1 rfl rfl) ⟨rfl, (Ext.trans hE31 hS243.ext)⟩
                            · replace h := inegb h hc244
                              refine W.skip ?_
                              refine W.seq (W.seq (W.region ?_))
                              refine WL.val (Value.int .i64 x237) _ (op_move rfl) rfl ?_
                              refine WL.val (Value.int .i64 x175.1) _ (op_move hf232) rfl ?_
                              refine WL.val (Value.bool (x237 != x175.1)) _ (op_neq rfl rfl) rfl ?_
                              refine WL.nil ?_
                              refine W.cond (x237 != x175.1) rfl (fun hc246 => ?_) (fun hc246 => ?_)
                              · replace h := ip h hc246
                                refine W.seq (W.region ?_)
                                refine WL.val (Value.bool false) _ (op_assign rfl) rfl ?_
                                refine WL.nil ?_
                                refine W.ret ?_
                                obtain rfl := Option.some.inj h
                                show FinP _ _ _ _ _ _ _
                                exact FinP.ret _ (res1 rfl rfl) ⟨rfl, (Ext.trans hE31 hS243.ext)⟩
                              · replace h := inegb h hc246
                                refine W.skip ?_
                                refine W.seq (W.region ?_)
                                refine WL.val (Value.bool true) _ (op_assign rfl) rfl ?_
                                refine WL.nil ?_
                                refine W.ret ?_
                                obtain rfl := Option.some.inj h
                                show FinP _ _ _ _ _ _ _
                                exact FinP.ret _ (res1 rfl rfl) ⟨rfl, (Ext.trans hE31 hS243.ext)⟩

end Go.VG
