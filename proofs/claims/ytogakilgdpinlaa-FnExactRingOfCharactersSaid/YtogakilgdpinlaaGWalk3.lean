/- The walks, part 3: each Go function returns what its plain twin returns. No condition beyond what each names. -/
import Derived.Test.YtogakilgdpinlaaGWalk2
set_option linter.all false
namespace Go.VG
open Go.Proofs
attribute [local irreducible] W WL Sep FinP

theorem c_impl_dot {w : World} {a : (List Int)} {v_a : Value} {b : (List Int)} {v_b : Value} (r_a : (Ty.sl (Ty.i .i64)).rep w v_a a) (r_b : (Ty.sl (Ty.i .i64)).rep w v_b b) {res : Int} (h : p_impl_dot a b  = some res) :
    Ret Try.prog 48 #[v_a, v_b] w (fun v w' => v = Value.int .i64 res ∧ InR .i64 res ∧ Ext w w') := by
  unfold p_impl_dot at h
  have hS0 : St w w [] := St.start w
  refine Ret.start (fn := Try.f48) Try.func48 rfl 27 rfl rfl ?_
  refine W.seq (W.region ?_)
  refine WL.val (Value.int .i64 (0 : Int)) _ (op_assign rfl) rfl ?_
  refine WL.nil ?_
  refine W.seq (W.region ?_)
  refine WL.val (Value.int .i64 (0 : Int)) _ (op_assign rfl) rfl ?_
  refine WL.nil ?_
  refine W.seq (W.seq (W.region ?_))
  refine WL.val v_a _ (op_move rfl) rfl ?_
  have hr1 := inR_len (Ty.lift _ hS0.ext r_a)
  refine WL.val (Value.int .i64 ((a).length : Int)) _ (op_lenL sl_25 (Ty.lift _ hS0.ext r_a) rfl) rfl ?_
  refine WL.val (Value.int .i64 (0 : Int)) _ (op_move rfl) rfl ?_
  refine WL.nil ?_
  show W _ _ _ _ _ _
  obtain ⟨res2, hres3, h⟩ := bs h
  refine W.blockLoop (fun fq wq => ∃ s, res2 = Res.fin s ∧ fq 5 = Value.int .i64 s ∧ InR .i64 s ∧ St w wq []) ?_ ?_
  · refine W.forN (fun k (s : Int) fq wq => fq 0 = v_a ∧ fq 1 = v_b ∧ fq 5 = Value.int .i64 s ∧ InR .i64 s ∧ fq 8 = (Value.int .i64 ((a).length : Int)) ∧ fq 9 = Value.int .i64 (k : Int) ∧ InR .i64 (k : Int) ∧ St w wq []) hres3 ⟨rfl, rfl, rfl, (inL rfl), rfl, rfl, (inL rfl), hS0⟩ ?_ ?_
    · intro k4 x5 ct6 f7 wd8 hk9 hb10 hI11 hbrk12 hret13
      replace hI11 : f7 0 = v_a ∧ f7 1 = v_b ∧ f7 5 = Value.int .i64 x5 ∧ InR .i64 x5 ∧ f7 8 = (Value.int .i64 ((a).length : Int)) ∧ f7 9 = Value.int .i64 (k4 : Int) ∧ InR .i64 (k4 : Int) ∧ St w wd8 [] := hI11
      replace hb10 : p_impl_dot_L1 a b k4 x5 = some ct6 := hb10
      unfold p_impl_dot_L1 at hb10
      obtain ⟨hf14, hf15, hf16, hr17, hf18, hf19, hr20, hS21⟩ := hI11
      refine W.seq (W.region ?_)
      refine WL.val (Value.bool (decide ((k4 : Int) < ((a).length : Int)))) _ (op_lss hf19 hf18) rfl ?_
      have hl22 : (k4 : Int) < ((a).length : Int) := by omega
      refine WL.nil ?_
      refine W.seq ?_
      refine W.condT (decide ((k4 : Int) < ((a).length : Int))) rfl (decide_eq_true hl22) ?_
      refine W.skip ?_
      refine W.seq ?_
      refine W.block ?_
      refine W.seq (W.region ?_)
      refine WL.val (Value.int .i64 (k4 : Int)) _ (op_move hf19) rfl ?_
      refine WL.val (Value.int .i64 (k4 : Int)) _ (op_assign rfl) rfl ?_
      refine WL.nil ?_
      show W _ _ _ _ _ _
      obtain ⟨x60, hx63, hb10⟩ := bs hb10
      obtain ⟨ha61, hb62, hx63⟩ := idx_some hx63
      obtain ⟨u74, hc75, hr76⟩ := repSl.el r_a hx63
      obtain ⟨rfl, hr76⟩ := hr76
      obtain ⟨x106, hx109, hb10⟩ := bs hb10
      obtain ⟨ha107, hb108, hx109⟩ := idx_some hx109
      obtain ⟨u120, hc121, hr122⟩ := repSl.el r_b hx109
      obtain ⟨rfl, hr122⟩ := hr122
      refine W.drawR mixo 11 [] [fun _ v _ _ => v = (Value.int .i64 x5) ∧ InR .i64 x5, fun _ v _ _ => v = v_a, fun _ v _ _ => v = (Value.int .i64 (k4 : Int)) ∧ InR .i64 (k4 : Int), fun _ v _ _ => v = (Value.pointer (some (elA v_a ((k4 : Int)).toNat))), fun _ v _ _ => v = (Value.int .i64 x60) ∧ InR .i64 x60, fun _ v _ _ => v = v_b, fun _ v _ _ => v = (Value.int .i64 (k4 : Int)) ∧ InR .i64 (k4 : Int), fun _ v _ _ => v = (Value.pointer (some (elA v_b ((k4 : Int)).toNat))), fun _ v _ _ => v = (Value.int .i64 x106) ∧ InR .i64 x106, fun _ v _ _ => v = (Value.int .i64 (w64 (x60 * x106))) ∧ InR .i64 (w64 (x60 * x106)), fun _ v _ _ => v = (Value.int .i64 (((w64 (x60 * x106))).tmod (55441 : Int))) ∧ InR .i64 (((w64 (x60 * x106))).tmod (55441 : Int))] (by kernel_rfl) (by kernel_rfl) ⟨pk, pk, pk, pk, pk, pk, pk, pk, pk, pk, pk, trivial⟩ ⟨?_, ?_, ?_, ?_, ?_, ?_, ?_, ?_, ?_, ?_, ?_, trivial⟩ ?_
      · refine ObX.op rfl fun f24 wd25 he26 hout27 hphi28 => ?_
        have e30 : f24 5 = (Value.int .i64 x5) := (hout27 5 rfl).trans hf16
        exact OpX.val (Value.int .i64 x5) wd25 rfl (op_move e30) (Ext.refl _) ⟨rfl, hr17⟩
      · refine ObX.op rfl fun f31 wd32 he33 hout34 hphi35 => ?_
        have e37 : f31 0 = v_a := (hout34 0 rfl).trans hf14
        exact OpX.val v_a wd32 rfl (op_move e37) (Ext.refl _) rfl
      · refine ObX.op rfl fun f38 wd39 he40 hout41 hphi42 => ?_
        have e44 : f38 6 = (Value.int .i64 (k4 : Int)) := (hout41 6 rfl).trans rfl
        exact OpX.val (Value.int .i64 (k4 : Int)) wd39 rfl (op_move e44) (Ext.refl _) ⟨rfl, hr20⟩
      · refine ObX.op rfl fun f45 wd46 he47 hout48 hphi49 => ?_
        have hS50 := St.extend hS21 he47
        obtain ⟨S51, hS52, hf53⟩ := hphi49 1 13 _ rfl rfl rfl
        have e54 : f45 13 = v_a := hf53
        obtain ⟨S55, hS56, hf57⟩ := hphi49 2 14 _ rfl rfl rfl
        obtain ⟨e58, hr59⟩ := hf57
        exact OpX.val (Value.pointer (some (elA v_a ((k4 : Int)).toNat))) wd46 rfl (op_idx sl_25 (Ty.lift _ hS50.ext r_a) e54 e58 ha61 hb62) (Ext.refl _) rfl
      · refine ObX.op rfl fun f64 wd65 he66 hout67 hphi68 => ?_
        have hS69 := St.extend hS21 he66
        obtain ⟨S70, hS71, hf72⟩ := hphi68 3 15 _ rfl rfl rfl
        have e73 : f64 15 = (Value.pointer (some (elA v_a ((k4 : Int)).toNat))) := hf72
        exact OpX.val (Value.int .i64 x60) wd65 rfl (op_load one_2 e73 (Ext.cell hS69.ext hc75)) (Ext.refl _) ⟨rfl, hr76⟩
      · refine ObX.op rfl fun f77 wd78 he79 hout80 hphi81 => ?_
        have e83 : f77 1 = v_b := (hout80 1 rfl).trans hf15
        exact OpX.val v_b wd78 rfl (op_move e83) (Ext.refl _) rfl
      · refine ObX.op rfl fun f84 wd85 he86 hout87 hphi88 => ?_
        have e90 : f84 6 = (Value.int .i64 (k4 : Int)) := (hout87 6 rfl).trans rfl
        exact OpX.val (Value.int .i64 (k4 : Int)) wd85 rfl (op_move e90) (Ext.refl _) ⟨rfl, hr20⟩
      · refine ObX.op rfl fun f91 wd92 he93 hout94 hphi95 => ?_
        have hS96 := St.extend hS21 he93
        obtain ⟨S97, hS98, hf99⟩ := hphi95 5 17 _ rfl rfl rfl
        have e100 : f91 17 = v_b := hf99
        obtain ⟨S101, hS102, hf103⟩ := hphi95 6 18 _ rfl rfl rfl
        obtain ⟨e104, hr105⟩ := hf103
        exact OpX.val (Value.pointer (some (elA v_b ((k4 : Int)).toNat))) wd92 rfl (op_idx sl_25 (Ty.lift _ hS96.ext r_b) e100 e104 ha107 hb108) (Ext.refl _) rfl
      · refine ObX.op rfl fun f110 wd111 he112 hout113 hphi114 => ?_
        have hS115 := St.extend hS21 he112
        obtain ⟨S116, hS117, hf118⟩ := hphi114 7 19 _ rfl rfl rfl
        have e119 : f110 19 = (Value.pointer (some (elA v_b ((k4 : Int)).toNat))) := hf118
        exact OpX.val (Value.int .i64 x106) wd111 rfl (op_load one_2 e119 (Ext.cell hS115.ext hc121)) (Ext.refl _) ⟨rfl, hr122⟩
      · refine ObX.op rfl fun f123 wd124 he125 hout126 hphi127 => ?_
        obtain ⟨S129, hS130, hf131⟩ := hphi127 4 16 _ rfl rfl rfl
        obtain ⟨e132, hr133⟩ := hf131
        obtain ⟨S134, hS135, hf136⟩ := hphi127 8 20 _ rfl rfl rfl
        obtain ⟨e137, hr138⟩ := hf136
        exact OpX.val (Value.int .i64 (w64 (x60 * x106))) wd124 rfl (op_mul e132 e137) (Ext.refl _) ⟨rfl, (inR_wrap _ _)⟩
      · refine ObX.op rfl fun f139 wd140 he141 hout142 hphi143 => ?_
        obtain ⟨S145, hS146, hf147⟩ := hphi143 9 21 _ rfl rfl rfl
        obtain ⟨e148, hr149⟩ := hf147
        exact OpX.val (Value.int .i64 (((w64 (x60 * x106))).tmod (55441 : Int))) wd140 rfl (op_rem (b := 55441) e148 rfl (by decide)) (Ext.refl _) ⟨rfl, (inR_tmod hr149)⟩
      · intro f150 wd151 Ss152 he153 hout154 hSn155 hSd156 hphi157
        show WL _ _ _ _ _ _ _
        have hS158 := St.extend hS21 he153
        obtain ⟨e159, hr160⟩ := hphi157 0 12 _ (by decide) rfl rfl
        obtain ⟨e161, hr162⟩ := hphi157 10 22 _ (by decide) rfl rfl
        have e163 : f150 0 = v_a := (hout154 0 rfl).trans hf14
        have e164 : f150 1 = v_b := (hout154 1 rfl).trans hf15
        have e165 : f150 8 = (Value.int .i64 ((a).length : Int)) := (hout154 8 rfl).trans hf18
        have e166 : f150 9 = (Value.int .i64 (k4 : Int)) := (hout154 9 rfl).trans hf19
        refine WL.val (Value.int .i64 (w64 (x5 + (((w64 (x60 * x106))).tmod (55441 : Int))))) _ (op_add e159 e161) rfl ?_
        refine WL.val (Value.int .i64 (w64 (x5 + (((w64 (x60 * x106))).tmod (55441 : Int))))) _ (op_assign rfl) rfl ?_
        refine WL.nil ?_
        show W _ _ _ _ _ _
        refine W.region ?_
        refine WL.val (Value.int .i64 (w64 ((k4 : Int) + (1 : Int)))) _ (op_add e166 rfl) rfl ?_
        refine WL.val (Value.int .i64 (w64 ((k4 : Int) + (1 : Int)))) _ (op_move rfl) rfl ?_
        refine WL.nil ?_
        obtain rfl := Option.some.inj hb10
        show ∃ s, _ = Ctl.next s ∧ _
        exact ⟨_, rfl, e163, e164, rfl, (inR_wrap _ _), e165, (ctr_next hl22 hr1), (ctr_rng hl22 hr1), hS158⟩
    · intro x173 f168 wd169 hs170 hI171
      replace hI171 : f168 0 = v_a ∧ f168 1 = v_b ∧ f168 5 = Value.int .i64 x173 ∧ InR .i64 x173 ∧ f168 8 = (Value.int .i64 ((a).length : Int)) ∧ f168 9 = Value.int .i64 (((a).length : Nat) : Int) ∧ InR .i64 (((a).length : Nat) : Int) ∧ St w wd169 [] := hI171
      obtain ⟨hf174, hf175, hf176, hr177, hf178, hf179, hr180, hS181⟩ := hI171
      refine W.seq (W.region ?_)
      refine WL.val (Value.bool (decide ((((a).length : Nat) : Int) < ((a).length : Int)))) _ (op_lss hf179 hf178) rfl ?_
      have hl182 : ¬ (((a).length : Nat) : Int) < ((a).length : Int) := by omega
      refine WL.nil ?_
      refine W.seq ?_
      refine W.condF (decide ((((a).length : Nat) : Int) < ((a).length : Int))) rfl (decide_eq_false hl182) ?_
      refine W.exit ?_
      show _ = _ ∧ _
      exact ⟨rfl, _, hs170, hf176, hr177, hS181⟩
  · rintro f183 wd184 ⟨x187, rfl, hq185⟩
    replace h := onRes_fin h
    replace hq185 : f183 5 = Value.int .i64 x187 ∧ InR .i64 x187 ∧ St w wd184 [] := hq185
    obtain ⟨hf188, hr189, hS190⟩ := hq185
    refine W.seq (W.region ?_)
    refine WL.val (Value.int .i64 x187) _ (op_move hf188) rfl ?_
    refine WL.val (Value.int .i64 ((x187).tmod (55441 : Int))) _ (op_rem (b := 55441) rfl rfl (by decide)) rfl ?_
    refine WL.val (Value.int .i64 ((x187).tmod (55441 : Int))) _ (op_assign rfl) rfl ?_
    refine WL.nil ?_
    refine W.ret ?_
    obtain rfl := Option.some.inj h
    show FinP _ _ _ _ _ _ _
    exact FinP.ret _ (res1 rfl rfl) ⟨rfl, (inR_tmod hr189), hS190.ext⟩

theorem c_laws_eqInt64S {w : World} {a : (List Int)} {v_a : Value} {b : (List Int)} {v_b : Value} (r_a : (Ty.sl (Ty.i .i64)).rep w v_a a) (r_b : (Ty.sl (Ty.i .i64)).rep w v_b b) {res : Bool} (h : p_laws_eqInt64S a b  = some res) :
    Ret Try.prog 14 #[v_a, v_b] w (fun v w' => v = Value.bool res ∧ Ext w w') := by
  unfold p_laws_eqInt64S at h
  have hS0 : St w w [] := St.start w
  refine Ret.start (fn := Try.f14) Try.func14 rfl 26 rfl rfl ?_
  refine W.seq (W.region ?_)
  refine WL.val (Value.bool false) _ (op_assign rfl) rfl ?_
  refine WL.nil ?_
  refine W.seq (W.seq (W.region ?_))
  refine WL.val v_a _ (op_move rfl) rfl ?_
  have hr1 := inR_len (Ty.lift _ hS0.ext r_a)
  refine WL.val (Value.int .i64 ((a).length : Int)) _ (op_lenL sl_25 (Ty.lift _ hS0.ext r_a) rfl) rfl ?_
  refine WL.val v_b _ (op_move rfl) rfl ?_
  have hr2 := inR_len (Ty.lift _ hS0.ext r_b)
  refine WL.val (Value.int .i64 ((b).length : Int)) _ (op_lenL sl_25 (Ty.lift _ hS0.ext r_b) rfl) rfl ?_
  refine WL.val (Value.bool (((a).length : Int) != ((b).length : Int))) _ (op_neq rfl rfl) rfl ?_
  refine WL.nil ?_
  refine W.cond (((a).length : Int) != ((b).length : Int)) rfl (fun hc3 => ?_) (fun hc3 => ?_)
  · replace h := ip h hc3
    refine W.seq (W.region ?_)
    refine WL.val (Value.bool false) _ (op_assign rfl) rfl ?_
    refine WL.nil ?_
    refine W.ret ?_
    obtain rfl := Option.some.inj h
    show FinP _ _ _ _ _ _ _
    exact FinP.ret _ (res1 rfl rfl) ⟨rfl, hS0.ext⟩
  · replace h := inegb h hc3
    refine W.skip ?_
    refine W.seq (W.seq (W.region ?_))
    refine WL.val (Value.int .i64 (0 : Int)) _ (op_assign rfl) rfl ?_
    refine WL.nil ?_
    show W _ _ _ _ _ _
    obtain ⟨res5, hres6, h⟩ := bs h
    refine W.blockLoop (fun fq wq => ∃ s, res5 = Res.fin s ∧ St w wq []) ?_ ?_
    · refine W.forN (fun k (s : Unit) fq wq => fq 0 = v_a ∧ fq 1 = v_b ∧ fq 5 = Value.int .i64 (k : Int) ∧ InR .i64 (k : Int) ∧ St w wq []) hres6 ⟨rfl, rfl, rfl, (inL rfl), hS0⟩ ?_ ?_
      · intro k7 s134 ct8 f9 wd10 hk11 hb12 hI13 hbrk14 hret15
        obtain ⟨⟩ := s134
        replace hI13 : f9 0 = v_a ∧ f9 1 = v_b ∧ f9 5 = Value.int .i64 (k7 : Int) ∧ InR .i64 (k7 : Int) ∧ St w wd10 [] := hI13
        replace hb12 : p_laws_eqInt64S_L1 a b k7  = some ct8 := hb12
        unfold p_laws_eqInt64S_L1 at hb12
        obtain ⟨hf16, hf17, hf18, hr19, hS20⟩ := hI13
        refine W.seq (W.seq (W.region ?_))
        refine WL.val (Value.int .i64 (k7 : Int)) _ (op_move hf18) rfl ?_
        refine WL.val v_a _ (op_move hf16) rfl ?_
        have hr21 := inR_len (Ty.lift _ hS20.ext r_a)
        refine WL.val (Value.int .i64 ((a).length : Int)) _ (op_lenL sl_25 (Ty.lift _ hS20.ext r_a) rfl) rfl ?_
        refine WL.val (Value.bool (decide ((k7 : Int) < ((a).length : Int)))) _ (op_lss rfl rfl) rfl ?_
        have hl22 : (k7 : Int) < ((a).length : Int) := by omega
        refine WL.nil ?_
        refine W.condT (decide ((k7 : Int) < ((a).length : Int))) rfl (decide_eq_true hl22) ?_
        refine W.skip ?_
        refine W.seq ?_
        refine W.block ?_
        refine W.seq ?_
        obtain ⟨x53, hx56, hb12⟩ := bs hb12
        obtain ⟨ha54, hb55, hx56⟩ := idx_some hx56
        obtain ⟨u67, hc68, hr69⟩ := repSl.el r_a hx56
        obtain ⟨rfl, hr69⟩ := hr69
        obtain ⟨x99, hx102, hb12⟩ := bs hb12
        obtain ⟨ha100, hb101, hx102⟩ := idx_some hx102
        obtain ⟨u113, hc114, hr115⟩ := repSl.el r_b hx102
        obtain ⟨rfl, hr115⟩ := hr115
        refine W.drawR mixo 8 [] [fun _ v _ _ => v = v_a, fun _ v _ _ => v = (Value.int .i64 (k7 : Int)) ∧ InR .i64 (k7 : Int), fun _ v _ _ => v = (Value.pointer (some (elA v_a ((k7 : Int)).toNat))), fun _ v _ _ => v = (Value.int .i64 x53) ∧ InR .i64 x53, fun _ v _ _ => v = v_b, fun _ v _ _ => v = (Value.int .i64 (k7 : Int)) ∧ InR .i64 (k7 : Int), fun _ v _ _ => v = (Value.pointer (some (elA v_b ((k7 : Int)).toNat))), fun _ v _ _ => v = (Value.int .i64 x99) ∧ InR .i64 x99] (by kernel_rfl) (by kernel_rfl) ⟨pk, pk, pk, pk, pk, pk, pk, pk, trivial⟩ ⟨?_, ?_, ?_, ?_, ?_, ?_, ?_, ?_, trivial⟩ ?_
        · refine ObX.op rfl fun f24 wd25 he26 hout27 hphi28 => ?_
          have e30 : f24 0 = v_a := (hout27 0 rfl).trans hf16
          exact OpX.val v_a wd25 rfl (op_move e30) (Ext.refl _) rfl
        · refine ObX.op rfl fun f31 wd32 he33 hout34 hphi35 => ?_
          have e37 : f31 5 = (Value.int .i64 (k7 : Int)) := (hout34 5 rfl).trans hf18
          exact OpX.val (Value.int .i64 (k7 : Int)) wd32 rfl (op_move e37) (Ext.refl _) ⟨rfl, hr19⟩
        · refine ObX.op rfl fun f38 wd39 he40 hout41 hphi42 => ?_
          have hS43 := St.extend hS20 he40
          obtain ⟨S44, hS45, hf46⟩ := hphi42 0 17 _ rfl rfl rfl
          have e47 : f38 17 = v_a := hf46
          obtain ⟨S48, hS49, hf50⟩ := hphi42 1 18 _ rfl rfl rfl
          obtain ⟨e51, hr52⟩ := hf50
          exact OpX.val (Value.pointer (some (elA v_a ((k7 : Int)).toNat))) wd39 rfl (op_idx sl_25 (Ty.lift _ hS43.ext r_a) e47 e51 ha54 hb55) (Ext.refl _) rfl
        · refine ObX.op rfl fun f57 wd58 he59 hout60 hphi61 => ?_
          have hS62 := St.extend hS20 he59
          obtain ⟨S63, hS64, hf65⟩ := hphi61 2 19 _ rfl rfl rfl
          have e66 : f57 19 = (Value.pointer (some (elA v_a ((k7 : Int)).toNat))) := hf65
          exact OpX.val (Value.int .i64 x53) wd58 rfl (op_load one_2 e66 (Ext.cell hS62.ext hc68)) (Ext.refl _) ⟨rfl, hr69⟩
        · refine ObX.op rfl fun f70 wd71 he72 hout73 hphi74 => ?_
          have e76 : f70 1 = v_b := (hout73 1 rfl).trans hf17
          exact OpX.val v_b wd71 rfl (op_move e76) (Ext.refl _) rfl
        · refine ObX.op rfl fun f77 wd78 he79 hout80 hphi81 => ?_
          have e83 : f77 5 = (Value.int .i64 (k7 : Int)) := (hout80 5 rfl).trans hf18
          exact OpX.val (Value.int .i64 (k7 : Int)) wd78 rfl (op_move e83) (Ext.refl _) ⟨rfl, hr19⟩
        · refine ObX.op rfl fun f84 wd85 he86 hout87 hphi88 => ?_
          have hS89 := St.extend hS20 he86
          obtain ⟨S90, hS91, hf92⟩ := hphi88 4 21 _ rfl rfl rfl
          have e93 : f84 21 = v_b := hf92
          obtain ⟨S94, hS95, hf96⟩ := hphi88 5 22 _ rfl rfl rfl
          obtain ⟨e97, hr98⟩ := hf96
          exact OpX.val (Value.pointer (some (elA v_b ((k7 : Int)).toNat))) wd85 rfl (op_idx sl_25 (Ty.lift _ hS89.ext r_b) e93 e97 ha100 hb101) (Ext.refl _) rfl
        · refine ObX.op rfl fun f103 wd104 he105 hout106 hphi107 => ?_
          have hS108 := St.extend hS20 he105
          obtain ⟨S109, hS110, hf111⟩ := hphi107 6 23 _ rfl rfl rfl
          have e112 : f103 23 = (Value.pointer (some (elA v_b ((k7 : Int)).toNat))) := hf111
          exact OpX.val (Value.int .i64 x99) wd104 rfl (op_load one_2 e112 (Ext.cell hS108.ext hc114)) (Ext.refl _) ⟨rfl, hr115⟩
        · intro f116 wd117 Ss118 he119 hout120 hSn121 hSd122 hphi123
          show WL _ _ _ _ _ _ _
          have hS124 := St.extend hS20 he119
          obtain ⟨e125, hr126⟩ := hphi123 3 20 _ (by decide) rfl rfl
          obtain ⟨e127, hr128⟩ := hphi123 7 24 _ (by decide) rfl rfl
          have e129 : f116 0 = v_a := (hout120 0 rfl).trans hf16
          have e130 : f116 1 = v_b := (hout120 1 rfl).trans hf17
          have e131 : f116 5 = (Value.int .i64 (k7 : Int)) := (hout120 5 rfl).trans hf18
          refine WL.val (Value.bool (x53 != x99)) _ (op_neq e125 e127) rfl ?_
          refine WL.nil ?_
          refine W.cond (x53 != x99) rfl (fun hc132 => ?_) (fun hc132 => ?_)
          · replace hb12 := ip hb12 hc132
            refine W.seq (W.region ?_)
            refine WL.val (Value.bool false) _ (op_assign rfl) rfl ?_
            refine WL.nil ?_
            refine W.ret ?_
            obtain rfl := Option.some.inj hb12
            obtain rfl := hret15 _ rfl
            replace h := onRes_ret h
            obtain rfl := Option.some.inj h
            show FinP _ _ _ _ _ _ _
            exact FinP.ret _ (res1 rfl rfl) ⟨rfl, hS124.ext⟩
          · replace hb12 := inegb hb12 hc132
            refine W.skip ?_
            show W _ _ _ _ _ _
            refine W.region ?_
            refine WL.val (Value.int .i64 (k7 : Int)) _ (op_move e131) rfl ?_
            refine WL.val (Value.int .i64 (w64 ((k7 : Int) + (1 : Int)))) _ (op_add rfl rfl) rfl ?_
            refine WL.val (Value.int .i64 (w64 ((k7 : Int) + (1 : Int)))) _ (op_assign rfl) rfl ?_
            refine WL.nil ?_
            obtain rfl := Option.some.inj hb12
            show ∃ s, _ = Ctl.next s ∧ _
            exact ⟨_, rfl, e129, e130, (ctr_next hl22 hr21), (ctr_rng hl22 hr21), hS124⟩
      · intro s139 f135 wd136 hs137 hI138
        obtain ⟨⟩ := s139
        replace hI138 : f135 0 = v_a ∧ f135 1 = v_b ∧ f135 5 = Value.int .i64 (((a).length : Nat) : Int) ∧ InR .i64 (((a).length : Nat) : Int) ∧ St w wd136 [] := hI138
        obtain ⟨hf140, hf141, hf142, hr143, hS144⟩ := hI138
        refine W.seq (W.seq (W.region ?_))
        refine WL.val (Value.int .i64 (((a).length : Nat) : Int)) _ (op_move hf142) rfl ?_
        refine WL.val v_a _ (op_move hf140) rfl ?_
        have hr145 := inR_len (Ty.lift _ hS144.ext r_a)
        refine WL.val (Value.int .i64 ((a).length : Int)) _ (op_lenL sl_25 (Ty.lift _ hS144.ext r_a) rfl) rfl ?_
        refine WL.val (Value.bool (decide ((((a).length : Nat) : Int) < ((a).length : Int)))) _ (op_lss rfl rfl) rfl ?_
        have hl146 : ¬ (((a).length : Nat) : Int) < ((a).length : Int) := by omega
        refine WL.nil ?_
        refine W.condF (decide ((((a).length : Nat) : Int) < ((a).length : Int))) rfl (decide_eq_false hl146) ?_
        refine W.exit ?_
        show _ = _ ∧ _
        exact ⟨rfl, _, hs137, hS144⟩
    · rintro f147 wd148 ⟨s150, rfl, hq149⟩
      replace h := onRes_fin h
      obtain ⟨⟩ := s150
      replace hq149 : St w wd148 [] := hq149
      have hS151 := hq149
      refine W.seq (W.region ?_)
      refine WL.val (Value.bool true) _ (op_assign rfl) rfl ?_
      refine WL.nil ?_
      refine W.ret ?_
      obtain rfl := Option.some.inj h
      show FinP _ _ _ _ _ _ _
      exact FinP.ret _ (res1 rfl rfl) ⟨rfl, hS151.ext⟩

theorem c_laws_eqInt64SS {w : World} {a : (List (List Int))} {v_a : Value} {b : (List (List Int))} {v_b : Value} (r_a : (Ty.sl (Ty.sl (Ty.i .i64))).rep w v_a a) (r_b : (Ty.sl (Ty.sl (Ty.i .i64))).rep w v_b b) {res : Bool} (h : p_laws_eqInt64SS a b  = some res) :
    Ret Try.prog 31 #[v_a, v_b] w (fun v w' => v = Value.bool res ∧ Ext w w') := by
  unfold p_laws_eqInt64SS at h
  have hS0 : St w w [] := St.start w
  refine Ret.start (fn := Try.f31) Try.func31 rfl 27 rfl rfl ?_
  refine W.seq (W.region ?_)
  refine WL.val (Value.bool false) _ (op_assign rfl) rfl ?_
  refine WL.nil ?_
  refine W.seq (W.seq (W.region ?_))
  refine WL.val v_a _ (op_move rfl) rfl ?_
  have hr1 := inR_len (Ty.lift _ hS0.ext r_a)
  refine WL.val (Value.int .i64 ((a).length : Int)) _ (op_lenL sl_43 (Ty.lift _ hS0.ext r_a) rfl) rfl ?_
  refine WL.val v_b _ (op_move rfl) rfl ?_
  have hr2 := inR_len (Ty.lift _ hS0.ext r_b)
  refine WL.val (Value.int .i64 ((b).length : Int)) _ (op_lenL sl_43 (Ty.lift _ hS0.ext r_b) rfl) rfl ?_
  refine WL.val (Value.bool (((a).length : Int) != ((b).length : Int))) _ (op_neq rfl rfl) rfl ?_
  refine WL.nil ?_
  refine W.cond (((a).length : Int) != ((b).length : Int)) rfl (fun hc3 => ?_) (fun hc3 => ?_)
  · replace h := ip h hc3
    refine W.seq (W.region ?_)
    refine WL.val (Value.bool false) _ (op_assign rfl) rfl ?_
    refine WL.nil ?_
    refine W.ret ?_
    obtain rfl := Option.some.inj h
    show FinP _ _ _ _ _ _ _
    exact FinP.ret _ (res1 rfl rfl) ⟨rfl, hS0.ext⟩
  · replace h := inegb h hc3
    refine W.skip ?_
    refine W.seq (W.seq (W.region ?_))
    refine WL.val (Value.int .i64 (0 : Int)) _ (op_assign rfl) rfl ?_
    refine WL.nil ?_
    show W _ _ _ _ _ _
    obtain ⟨res5, hres6, h⟩ := bs h
    refine W.blockLoop (fun fq wq => ∃ s, res5 = Res.fin s ∧ St w wq []) ?_ ?_
    · refine W.forN (fun k (s : Unit) fq wq => fq 0 = v_a ∧ fq 1 = v_b ∧ fq 5 = Value.int .i64 (k : Int) ∧ InR .i64 (k : Int) ∧ St w wq []) hres6 ⟨rfl, rfl, rfl, (inL rfl), hS0⟩ ?_ ?_
      · intro k7 s138 ct8 f9 wd10 hk11 hb12 hI13 hbrk14 hret15
        obtain ⟨⟩ := s138
        replace hI13 : f9 0 = v_a ∧ f9 1 = v_b ∧ f9 5 = Value.int .i64 (k7 : Int) ∧ InR .i64 (k7 : Int) ∧ St w wd10 [] := hI13
        replace hb12 : p_laws_eqInt64SS_L1 a b k7  = some ct8 := hb12
        unfold p_laws_eqInt64SS_L1 at hb12
        obtain ⟨hf16, hf17, hf18, hr19, hS20⟩ := hI13
        refine W.seq (W.seq (W.region ?_))
        refine WL.val (Value.int .i64 (k7 : Int)) _ (op_move hf18) rfl ?_
        refine WL.val v_a _ (op_move hf16) rfl ?_
        have hr21 := inR_len (Ty.lift _ hS20.ext r_a)
        refine WL.val (Value.int .i64 ((a).length : Int)) _ (op_lenL sl_43 (Ty.lift _ hS20.ext r_a) rfl) rfl ?_
        refine WL.val (Value.bool (decide ((k7 : Int) < ((a).length : Int)))) _ (op_lss rfl rfl) rfl ?_
        have hl22 : (k7 : Int) < ((a).length : Int) := by omega
        refine WL.nil ?_
        refine W.condT (decide ((k7 : Int) < ((a).length : Int))) rfl (decide_eq_true hl22) ?_
        refine W.skip ?_
        refine W.seq ?_
        refine W.block ?_
        refine W.seq ?_
        obtain ⟨x53, hx56, hb12⟩ := bs hb12
        obtain ⟨ha54, hb55, hx56⟩ := idx_some hx56
        obtain ⟨u67, hc68, hr69⟩ := repSl.el r_a hx56
        obtain ⟨x99, hx102, hb12⟩ := bs hb12
        obtain ⟨ha100, hb101, hx102⟩ := idx_some hx102
        obtain ⟨u113, hc114, hr115⟩ := repSl.el r_b hx102
        refine W.drawR mixo 8 [] [fun _ v _ _ => v = v_a, fun _ v _ _ => v = (Value.int .i64 (k7 : Int)) ∧ InR .i64 (k7 : Int), fun _ v _ _ => v = (Value.pointer (some (elA v_a ((k7 : Int)).toNat))), fun _ v _ _ => v = u67, fun _ v _ _ => v = v_b, fun _ v _ _ => v = (Value.int .i64 (k7 : Int)) ∧ InR .i64 (k7 : Int), fun _ v _ _ => v = (Value.pointer (some (elA v_b ((k7 : Int)).toNat))), fun _ v _ _ => v = u113] (by kernel_rfl) (by kernel_rfl) ⟨pk, pk, pk, pk, pk, pk, pk, pk, trivial⟩ ⟨?_, ?_, ?_, ?_, ?_, ?_, ?_, ?_, trivial⟩ ?_
        · refine ObX.op rfl fun f24 wd25 he26 hout27 hphi28 => ?_
          have e30 : f24 0 = v_a := (hout27 0 rfl).trans hf16
          exact OpX.val v_a wd25 rfl (op_move e30) (Ext.refl _) rfl
        · refine ObX.op rfl fun f31 wd32 he33 hout34 hphi35 => ?_
          have e37 : f31 5 = (Value.int .i64 (k7 : Int)) := (hout34 5 rfl).trans hf18
          exact OpX.val (Value.int .i64 (k7 : Int)) wd32 rfl (op_move e37) (Ext.refl _) ⟨rfl, hr19⟩
        · refine ObX.op rfl fun f38 wd39 he40 hout41 hphi42 => ?_
          have hS43 := St.extend hS20 he40
          obtain ⟨S44, hS45, hf46⟩ := hphi42 0 17 _ rfl rfl rfl
          have e47 : f38 17 = v_a := hf46
          obtain ⟨S48, hS49, hf50⟩ := hphi42 1 18 _ rfl rfl rfl
          obtain ⟨e51, hr52⟩ := hf50
          exact OpX.val (Value.pointer (some (elA v_a ((k7 : Int)).toNat))) wd39 rfl (op_idx sl_43 (Ty.lift _ hS43.ext r_a) e47 e51 ha54 hb55) (Ext.refl _) rfl
        · refine ObX.op rfl fun f57 wd58 he59 hout60 hphi61 => ?_
          have hS62 := St.extend hS20 he59
          obtain ⟨S63, hS64, hf65⟩ := hphi61 2 19 _ rfl rfl rfl
          have e66 : f57 19 = (Value.pointer (some (elA v_a ((k7 : Int)).toNat))) := hf65
          exact OpX.val u67 wd58 rfl (op_load one_25 e66 (Ext.cell hS62.ext hc68)) (Ext.refl _) rfl
        · refine ObX.op rfl fun f70 wd71 he72 hout73 hphi74 => ?_
          have e76 : f70 1 = v_b := (hout73 1 rfl).trans hf17
          exact OpX.val v_b wd71 rfl (op_move e76) (Ext.refl _) rfl
        · refine ObX.op rfl fun f77 wd78 he79 hout80 hphi81 => ?_
          have e83 : f77 5 = (Value.int .i64 (k7 : Int)) := (hout80 5 rfl).trans hf18
          exact OpX.val (Value.int .i64 (k7 : Int)) wd78 rfl (op_move e83) (Ext.refl _) ⟨rfl, hr19⟩
        · refine ObX.op rfl fun f84 wd85 he86 hout87 hphi88 => ?_
          have hS89 := St.extend hS20 he86
          obtain ⟨S90, hS91, hf92⟩ := hphi88 4 21 _ rfl rfl rfl
          have e93 : f84 21 = v_b := hf92
          obtain ⟨S94, hS95, hf96⟩ := hphi88 5 22 _ rfl rfl rfl
          obtain ⟨e97, hr98⟩ := hf96
          exact OpX.val (Value.pointer (some (elA v_b ((k7 : Int)).toNat))) wd85 rfl (op_idx sl_43 (Ty.lift _ hS89.ext r_b) e93 e97 ha100 hb101) (Ext.refl _) rfl
        · refine ObX.op rfl fun f103 wd104 he105 hout106 hphi107 => ?_
          have hS108 := St.extend hS20 he105
          obtain ⟨S109, hS110, hf111⟩ := hphi107 6 23 _ rfl rfl rfl
          have e112 : f103 23 = (Value.pointer (some (elA v_b ((k7 : Int)).toNat))) := hf111
          exact OpX.val u113 wd104 rfl (op_load one_25 e112 (Ext.cell hS108.ext hc114)) (Ext.refl _) rfl
        · intro f116 wd117 Ss118 he119 hout120 hSn121 hSd122 hphi123
          show WL _ _ _ _ _ _ _
          have hS124 := St.extend hS20 he119
          have e125 : f116 20 = u67 := hphi123 3 20 _ (by decide) rfl rfl
          have e126 : f116 24 = u113 := hphi123 7 24 _ (by decide) rfl rfl
          have e127 : f116 0 = v_a := (hout120 0 rfl).trans hf16
          have e128 : f116 1 = v_b := (hout120 1 rfl).trans hf17
          have e129 : f116 5 = (Value.int .i64 (k7 : Int)) := (hout120 5 rfl).trans hf18
          obtain ⟨x130, hx131, hb12⟩ := bs hb12
          refine WL.call _ (op_call fn_14 (args2 e125 e126)) (c_laws_eqInt64S (Ty.lift _ hS124.ext hr69) (Ty.lift _ hS124.ext hr115) hx131) rfl ?_
          rintro _ wd132 ⟨rfl, he133⟩
          have hS135 := St.extend hS124 he133
          replace hS135 : St w wd132 [] := hS135
          refine WL.val (Value.bool (!x130)) _ (op_not rfl) rfl ?_
          refine WL.nil ?_
          refine W.cond (!x130) rfl (fun hc136 => ?_) (fun hc136 => ?_)
          · replace hb12 := ip hb12 hc136
            refine W.seq (W.region ?_)
            refine WL.val (Value.bool false) _ (op_assign rfl) rfl ?_
            refine WL.nil ?_
            refine W.ret ?_
            obtain rfl := Option.some.inj hb12
            obtain rfl := hret15 _ rfl
            replace h := onRes_ret h
            obtain rfl := Option.some.inj h
            show FinP _ _ _ _ _ _ _
            exact FinP.ret _ (res1 rfl rfl) ⟨rfl, hS135.ext⟩
          · replace hb12 := inegb hb12 hc136
            refine W.skip ?_
            show W _ _ _ _ _ _
            refine W.region ?_
            refine WL.val (Value.int .i64 (k7 : Int)) _ (op_move e129) rfl ?_
            refine WL.val (Value.int .i64 (w64 ((k7 : Int) + (1 : Int)))) _ (op_add rfl rfl) rfl ?_
            refine WL.val (Value.int .i64 (w64 ((k7 : Int) + (1 : Int)))) _ (op_assign rfl) rfl ?_
            refine WL.nil ?_
            obtain rfl := Option.some.inj hb12
            show ∃ s, _ = Ctl.next s ∧ _
            exact ⟨_, rfl, e127, e128, (ctr_next hl22 hr21), (ctr_rng hl22 hr21), hS135⟩
      · intro s143 f139 wd140 hs141 hI142
        obtain ⟨⟩ := s143
        replace hI142 : f139 0 = v_a ∧ f139 1 = v_b ∧ f139 5 = Value.int .i64 (((a).length : Nat) : Int) ∧ InR .i64 (((a).length : Nat) : Int) ∧ St w wd140 [] := hI142
        obtain ⟨hf144, hf145, hf146, hr147, hS148⟩ := hI142
        refine W.seq (W.seq (W.region ?_))
        refine WL.val (Value.int .i64 (((a).length : Nat) : Int)) _ (op_move hf146) rfl ?_
        refine WL.val v_a _ (op_move hf144) rfl ?_
        have hr149 := inR_len (Ty.lift _ hS148.ext r_a)
        refine WL.val (Value.int .i64 ((a).length : Int)) _ (op_lenL sl_43 (Ty.lift _ hS148.ext r_a) rfl) rfl ?_
        refine WL.val (Value.bool (decide ((((a).length : Nat) : Int) < ((a).length : Int)))) _ (op_lss rfl rfl) rfl ?_
        have hl150 : ¬ (((a).length : Nat) : Int) < ((a).length : Int) := by omega
        refine WL.nil ?_
        refine W.condF (decide ((((a).length : Nat) : Int) < ((a).length : Int))) rfl (decide_eq_false hl150) ?_
        refine W.exit ?_
        show _ = _ ∧ _
        exact ⟨rfl, _, hs141, hS148⟩
    · rintro f151 wd152 ⟨s154, rfl, hq153⟩
      replace h := onRes_fin h
      obtain ⟨⟩ := s154
      replace hq153 : St w wd152 [] := hq153
      have hS155 := hq153
      refine W.seq (W.region ?_)
      refine WL.val (Value.bool true) _ (op_assign rfl) rfl ?_
      refine WL.nil ?_
      refine W.ret ?_
      obtain rfl := Option.some.inj h
      show FinP _ _ _ _ _ _ _
      exact FinP.ret _ (res1 rfl rfl) ⟨rfl, hS155.ext⟩

theorem c_laws_eqInt64SSS {w : World} {a : (List (List (List Int)))} {v_a : Value} {b : (List (List (List Int)))} {v_b : Value} (r_a : (Ty.sl (Ty.sl (Ty.sl (Ty.i .i64)))).rep w v_a a) (r_b : (Ty.sl (Ty.sl (Ty.sl (Ty.i .i64)))).rep w v_b b) {res : Bool} (h : p_laws_eqInt64SSS a b  = some res) :
    Ret Try.prog 43 #[v_a, v_b] w (fun v w' => v = Value.bool res ∧ Ext w w') := by
  unfold p_laws_eqInt64SSS at h
  have hS0 : St w w [] := St.start w
  refine Ret.start (fn := Try.f43) Try.func43 rfl 27 rfl rfl ?_
  refine W.seq (W.region ?_)
  refine WL.val (Value.bool false) _ (op_assign rfl) rfl ?_
  refine WL.nil ?_
  refine W.seq (W.seq (W.region ?_))
  refine WL.val v_a _ (op_move rfl) rfl ?_
  have hr1 := inR_len (Ty.lift _ hS0.ext r_a)
  refine WL.val (Value.int .i64 ((a).length : Int)) _ (op_lenL sl_22 (Ty.lift _ hS0.ext r_a) rfl) rfl ?_
  refine WL.val v_b _ (op_move rfl) rfl ?_
  have hr2 := inR_len (Ty.lift _ hS0.ext r_b)
  refine WL.val (Value.int .i64 ((b).length : Int)) _ (op_lenL sl_22 (Ty.lift _ hS0.ext r_b) rfl) rfl ?_
  refine WL.val (Value.bool (((a).length : Int) != ((b).length : Int))) _ (op_neq rfl rfl) rfl ?_
  refine WL.nil ?_
  refine W.cond (((a).length : Int) != ((b).length : Int)) rfl (fun hc3 => ?_) (fun hc3 => ?_)
  · replace h := ip h hc3
    refine W.seq (W.region ?_)
    refine WL.val (Value.bool false) _ (op_assign rfl) rfl ?_
    refine WL.nil ?_
    refine W.ret ?_
    obtain rfl := Option.some.inj h
    show FinP _ _ _ _ _ _ _
    exact FinP.ret _ (res1 rfl rfl) ⟨rfl, hS0.ext⟩
  · replace h := inegb h hc3
    refine W.skip ?_
    refine W.seq (W.seq (W.region ?_))
    refine WL.val (Value.int .i64 (0 : Int)) _ (op_assign rfl) rfl ?_
    refine WL.nil ?_
    show W _ _ _ _ _ _
    obtain ⟨res5, hres6, h⟩ := bs h
    refine W.blockLoop (fun fq wq => ∃ s, res5 = Res.fin s ∧ St w wq []) ?_ ?_
    · refine W.forN (fun k (s : Unit) fq wq => fq 0 = v_a ∧ fq 1 = v_b ∧ fq 5 = Value.int .i64 (k : Int) ∧ InR .i64 (k : Int) ∧ St w wq []) hres6 ⟨rfl, rfl, rfl, (inL rfl), hS0⟩ ?_ ?_
      · intro k7 s138 ct8 f9 wd10 hk11 hb12 hI13 hbrk14 hret15
        obtain ⟨⟩ := s138
        replace hI13 : f9 0 = v_a ∧ f9 1 = v_b ∧ f9 5 = Value.int .i64 (k7 : Int) ∧ InR .i64 (k7 : Int) ∧ St w wd10 [] := hI13
        replace hb12 : p_laws_eqInt64SSS_L1 a b k7  = some ct8 := hb12
        unfold p_laws_eqInt64SSS_L1 at hb12
        obtain ⟨hf16, hf17, hf18, hr19, hS20⟩ := hI13
        refine W.seq (W.seq (W.region ?_))
        refine WL.val (Value.int .i64 (k7 : Int)) _ (op_move hf18) rfl ?_
        refine WL.val v_a _ (op_move hf16) rfl ?_
        have hr21 := inR_len (Ty.lift _ hS20.ext r_a)
        refine WL.val (Value.int .i64 ((a).length : Int)) _ (op_lenL sl_22 (Ty.lift _ hS20.ext r_a) rfl) rfl ?_
        refine WL.val (Value.bool (decide ((k7 : Int) < ((a).length : Int)))) _ (op_lss rfl rfl) rfl ?_
        have hl22 : (k7 : Int) < ((a).length : Int) := by omega
        refine WL.nil ?_
        refine W.condT (decide ((k7 : Int) < ((a).length : Int))) rfl (decide_eq_true hl22) ?_
        refine W.skip ?_
        refine W.seq ?_
        refine W.block ?_
        refine W.seq ?_
        obtain ⟨x53, hx56, hb12⟩ := bs hb12
        obtain ⟨ha54, hb55, hx56⟩ := idx_some hx56
        obtain ⟨u67, hc68, hr69⟩ := repSl.el r_a hx56
        obtain ⟨x99, hx102, hb12⟩ := bs hb12
        obtain ⟨ha100, hb101, hx102⟩ := idx_some hx102
        obtain ⟨u113, hc114, hr115⟩ := repSl.el r_b hx102
        refine W.drawR mixo 8 [] [fun _ v _ _ => v = v_a, fun _ v _ _ => v = (Value.int .i64 (k7 : Int)) ∧ InR .i64 (k7 : Int), fun _ v _ _ => v = (Value.pointer (some (elA v_a ((k7 : Int)).toNat))), fun _ v _ _ => v = u67, fun _ v _ _ => v = v_b, fun _ v _ _ => v = (Value.int .i64 (k7 : Int)) ∧ InR .i64 (k7 : Int), fun _ v _ _ => v = (Value.pointer (some (elA v_b ((k7 : Int)).toNat))), fun _ v _ _ => v = u113] (by kernel_rfl) (by kernel_rfl) ⟨pk, pk, pk, pk, pk, pk, pk, pk, trivial⟩ ⟨?_, ?_, ?_, ?_, ?_, ?_, ?_, ?_, trivial⟩ ?_
        · refine ObX.op rfl fun f24 wd25 he26 hout27 hphi28 => ?_
          have e30 : f24 0 = v_a := (hout27 0 rfl).trans hf16
          exact OpX.val v_a wd25 rfl (op_move e30) (Ext.refl _) rfl
        · refine ObX.op rfl fun f31 wd32 he33 hout34 hphi35 => ?_
          have e37 : f31 5 = (Value.int .i64 (k7 : Int)) := (hout34 5 rfl).trans hf18
          exact OpX.val (Value.int .i64 (k7 : Int)) wd32 rfl (op_move e37) (Ext.refl _) ⟨rfl, hr19⟩
        · refine ObX.op rfl fun f38 wd39 he40 hout41 hphi42 => ?_
          have hS43 := St.extend hS20 he40
          obtain ⟨S44, hS45, hf46⟩ := hphi42 0 17 _ rfl rfl rfl
          have e47 : f38 17 = v_a := hf46
          obtain ⟨S48, hS49, hf50⟩ := hphi42 1 18 _ rfl rfl rfl
          obtain ⟨e51, hr52⟩ := hf50
          exact OpX.val (Value.pointer (some (elA v_a ((k7 : Int)).toNat))) wd39 rfl (op_idx sl_22 (Ty.lift _ hS43.ext r_a) e47 e51 ha54 hb55) (Ext.refl _) rfl
        · refine ObX.op rfl fun f57 wd58 he59 hout60 hphi61 => ?_
          have hS62 := St.extend hS20 he59
          obtain ⟨S63, hS64, hf65⟩ := hphi61 2 19 _ rfl rfl rfl
          have e66 : f57 19 = (Value.pointer (some (elA v_a ((k7 : Int)).toNat))) := hf65
          exact OpX.val u67 wd58 rfl (op_load one_43 e66 (Ext.cell hS62.ext hc68)) (Ext.refl _) rfl
        · refine ObX.op rfl fun f70 wd71 he72 hout73 hphi74 => ?_
          have e76 : f70 1 = v_b := (hout73 1 rfl).trans hf17
          exact OpX.val v_b wd71 rfl (op_move e76) (Ext.refl _) rfl
        · refine ObX.op rfl fun f77 wd78 he79 hout80 hphi81 => ?_
          have e83 : f77 5 = (Value.int .i64 (k7 : Int)) := (hout80 5 rfl).trans hf18
          exact OpX.val (Value.int .i64 (k7 : Int)) wd78 rfl (op_move e83) (Ext.refl _) ⟨rfl, hr19⟩
        · refine ObX.op rfl fun f84 wd85 he86 hout87 hphi88 => ?_
          have hS89 := St.extend hS20 he86
          obtain ⟨S90, hS91, hf92⟩ := hphi88 4 21 _ rfl rfl rfl
          have e93 : f84 21 = v_b := hf92
          obtain ⟨S94, hS95, hf96⟩ := hphi88 5 22 _ rfl rfl rfl
          obtain ⟨e97, hr98⟩ := hf96
          exact OpX.val (Value.pointer (some (elA v_b ((k7 : Int)).toNat))) wd85 rfl (op_idx sl_22 (Ty.lift _ hS89.ext r_b) e93 e97 ha100 hb101) (Ext.refl _) rfl
        · refine ObX.op rfl fun f103 wd104 he105 hout106 hphi107 => ?_
          have hS108 := St.extend hS20 he105
          obtain ⟨S109, hS110, hf111⟩ := hphi107 6 23 _ rfl rfl rfl
          have e112 : f103 23 = (Value.pointer (some (elA v_b ((k7 : Int)).toNat))) := hf111
          exact OpX.val u113 wd104 rfl (op_load one_43 e112 (Ext.cell hS108.ext hc114)) (Ext.refl _) rfl
        · intro f116 wd117 Ss118 he119 hout120 hSn121 hSd122 hphi123
          show WL _ _ _ _ _ _ _
          have hS124 := St.extend hS20 he119
          have e125 : f116 20 = u67 := hphi123 3 20 _ (by decide) rfl rfl
          have e126 : f116 24 = u113 := hphi123 7 24 _ (by decide) rfl rfl
          have e127 : f116 0 = v_a := (hout120 0 rfl).trans hf16
          have e128 : f116 1 = v_b := (hout120 1 rfl).trans hf17
          have e129 : f116 5 = (Value.int .i64 (k7 : Int)) := (hout120 5 rfl).trans hf18
          obtain ⟨x130, hx131, hb12⟩ := bs hb12
          refine WL.call _ (op_call fn_31 (args2 e125 e126)) (c_laws_eqInt64SS (Ty.lift _ hS124.ext hr69) (Ty.lift _ hS124.ext hr115) hx131) rfl ?_
          rintro _ wd132 ⟨rfl, he133⟩
          have hS135 := St.extend hS124 he133
          replace hS135 : St w wd132 [] := hS135
          refine WL.val (Value.bool (!x130)) _ (op_not rfl) rfl ?_
          refine WL.nil ?_
          refine W.cond (!x130) rfl (fun hc136 => ?_) (fun hc136 => ?_)
          · replace hb12 := ip hb12 hc136
            refine W.seq (W.region ?_)
            refine WL.val (Value.bool false) _ (op_assign rfl) rfl ?_
            refine WL.nil ?_
            refine W.ret ?_
            obtain rfl := Option.some.inj hb12
            obtain rfl := hret15 _ rfl
            replace h := onRes_ret h
            obtain rfl := Option.some.inj h
            show FinP _ _ _ _ _ _ _
            exact FinP.ret _ (res1 rfl rfl) ⟨rfl, hS135.ext⟩
          · replace hb12 := inegb hb12 hc136
            refine W.skip ?_
            show W _ _ _ _ _ _
            refine W.region ?_
            refine WL.val (Value.int .i64 (k7 : Int)) _ (op_move e129) rfl ?_
            refine WL.val (Value.int .i64 (w64 ((k7 : Int) + (1 : Int)))) _ (op_add rfl rfl) rfl ?_
            refine WL.val (Value.int .i64 (w64 ((k7 : Int) + (1 : Int)))) _ (op_assign rfl) rfl ?_
            refine WL.nil ?_
            obtain rfl := Option.some.inj hb12
            show ∃ s, _ = Ctl.next s ∧ _
            exact ⟨_, rfl, e127, e128, (ctr_next hl22 hr21), (ctr_rng hl22 hr21), hS135⟩
      · intro s143 f139 wd140 hs141 hI142
        obtain ⟨⟩ := s143
        replace hI142 : f139 0 = v_a ∧ f139 1 = v_b ∧ f139 5 = Value.int .i64 (((a).length : Nat) : Int) ∧ InR .i64 (((a).length : Nat) : Int) ∧ St w wd140 [] := hI142
        obtain ⟨hf144, hf145, hf146, hr147, hS148⟩ := hI142
        refine W.seq (W.seq (W.region ?_))
        refine WL.val (Value.int .i64 (((a).length : Nat) : Int)) _ (op_move hf146) rfl ?_
        refine WL.val v_a _ (op_move hf144) rfl ?_
        have hr149 := inR_len (Ty.lift _ hS148.ext r_a)
        refine WL.val (Value.int .i64 ((a).length : Int)) _ (op_lenL sl_22 (Ty.lift _ hS148.ext r_a) rfl) rfl ?_
        refine WL.val (Value.bool (decide ((((a).length : Nat) : Int) < ((a).length : Int)))) _ (op_lss rfl rfl) rfl ?_
        have hl150 : ¬ (((a).length : Nat) : Int) < ((a).length : Int) := by omega
        refine WL.nil ?_
        refine W.condF (decide ((((a).length : Nat) : Int) < ((a).length : Int))) rfl (decide_eq_false hl150) ?_
        refine W.exit ?_
        show _ = _ ∧ _
        exact ⟨rfl, _, hs141, hS148⟩
    · rintro f151 wd152 ⟨s154, rfl, hq153⟩
      replace h := onRes_fin h
      obtain ⟨⟩ := s154
      replace hq153 : St w wd152 [] := hq153
      have hS155 := hq153
      refine W.seq (W.region ?_)
      refine WL.val (Value.bool true) _ (op_assign rfl) rfl ?_
      refine WL.nil ?_
      refine W.ret ?_
      obtain rfl := Option.some.inj h
      show FinP _ _ _ _ _ _ _
      exact FinP.ret _ (res1 rfl rfl) ⟨rfl, hS155.ext⟩

theorem c_laws_eqRing {w : World} {a_Table : (List (List (List Int)))} {v_a_Table : Value} {b_Table : (List (List (List Int)))} {v_b_Table : Value} (r_a_Table : (Ty.sl (Ty.sl (Ty.sl (Ty.i .i64)))).rep w v_a_Table a_Table) (r_b_Table : (Ty.sl (Ty.sl (Ty.sl (Ty.i .i64)))).rep w v_b_Table b_Table) {res : Bool} (h : p_laws_eqRing a_Table b_Table  = some res) :
    Ret Try.prog 15 #[(Value.agg #[v_a_Table]), (Value.agg #[v_b_Table])] w (fun v w' => v = Value.bool res ∧ Ext w w') := by
  unfold p_laws_eqRing at h
  have hS0 : St w w [] := St.start w
  refine Ret.start (fn := Try.f15) Try.func15 rfl 11 rfl rfl ?_
  refine W.seq (W.region ?_)
  refine WL.box hS0 rfl (cs := [v_a_Table]) rfl rfl ?_
  intro b1 wd2 hS3 he4 hx5
  replace hS3 : St w wd2 [bx b1 [v_a_Table]] := hS3
  have hx6 := St.boxAt hS3 0 rfl
  have hE7 : Ext w wd2 := hS3.ext
  have hS8 : St wd2 wd2 [] := St.start wd2
  refine WL.box hS8 rfl (cs := [v_b_Table]) rfl rfl ?_
  intro b9 wd10 hS11 he12 hx13
  replace hS11 : St wd2 wd10 [bx b9 [v_b_Table]] := hS11
  have hx14 := St.boxAt hS11 0 rfl
  have hE15 : Ext w wd10 := (Ext.trans hE7 hS11.ext)
  have hE16 : Ext wd2 wd10 := hS11.ext
  have hS17 : St wd10 wd10 [] := St.start wd10
  refine WL.val (Value.bool false) _ (op_assign rfl) rfl ?_
  refine WL.nil ?_
  refine W.seq (W.seq (W.region ?_))
  refine WL.val (Value.pointer (some ⟨b1, 0, none⟩)) _ (op_fieldAddr fd_29_0 rfl) rfl ?_
  refine WL.val v_a_Table _ (op_load one_22 rfl (BoxAt.cell (BoxAt.lift (Ext.trans hE16 hS17.ext) hx6) rfl)) rfl ?_
  refine WL.val (Value.pointer (some ⟨b9, 0, none⟩)) _ (op_fieldAddr fd_29_0 rfl) rfl ?_
  refine WL.val v_b_Table _ (op_load one_22 rfl (BoxAt.cell (BoxAt.lift hS17.ext hx14) rfl)) rfl ?_
  obtain ⟨x18, hx19, h⟩ := bs h
  refine WL.call _ (op_call fn_43 (args2 rfl rfl)) (c_laws_eqInt64SSS (Ty.lift _ (Ext.trans hE15 hS17.ext) r_a_Table) (Ty.lift _ (Ext.trans hE15 hS17.ext) r_b_Table) hx19) rfl ?_
  rintro _ wd20 ⟨rfl, he21⟩
  have hS23 := St.extend hS17 he21
  replace hS23 : St wd10 wd20 [] := hS23
  refine WL.val (Value.bool (!x18)) _ (op_not rfl) rfl ?_
  refine WL.nil ?_
  refine W.cond (!x18) rfl (fun hc24 => ?_) (fun hc24 => ?_)
  · replace h := ip h hc24
    refine W.seq (W.region ?_)
    refine WL.val (Value.bool false) _ (op_assign rfl) rfl ?_
    refine WL.nil ?_
    refine W.ret ?_
    obtain rfl := Option.some.inj h
    show FinP _ _ _ _ _ _ _
    exact FinP.ret _ (res1 rfl rfl) ⟨rfl, (Ext.trans hE15 hS23.ext)⟩
  · replace h := inegb h hc24
    refine W.skip ?_
    refine W.seq (W.region ?_)
    refine WL.val (Value.bool true) _ (op_assign rfl) rfl ?_
    refine WL.nil ?_
    refine W.ret ?_
    obtain rfl := Option.some.inj h
    show FinP _ _ _ _ _ _ _
    exact FinP.ret _ (res1 rfl rfl) ⟨rfl, (Ext.trans hE15 hS23.ext)⟩

theorem c_laws_markInt64S {w : World} {a : (List Int)} {v_a : Value} {k1 : Int} {w0 : World} {R : Ent} (hS0 : St w0 w [(Ty.sl (Ty.i .i64)).at v_a a, R]) (r_k1 : InR .i64 k1) {res : Int × (List Int)} (h : p_laws_markInt64S a k1  = some res) :
    Ret Try.prog 17 #[v_a, (Value.int .i64 k1)] w (fun v w' => v = Value.int .i64 res.1 ∧ InR .i64 res.1 ∧ St w0 w' [(Ty.sl (Ty.i .i64)).at v_a res.2, R]) := by
  unfold p_laws_markInt64S at h
  refine Ret.start (fn := Try.f17) Try.func17 rfl 19 rfl rfl ?_
  refine W.seq (W.region ?_)
  refine WL.val (Value.int .i64 (0 : Int)) _ (op_assign rfl) rfl ?_
  refine WL.nil ?_
  refine W.seq (W.seq (W.region ?_))
  refine WL.val (Value.int .i64 (0 : Int)) _ (op_assign rfl) rfl ?_
  refine WL.nil ?_
  show W _ _ _ _ _ _
  obtain ⟨res1, hres2, h⟩ := bs h
  refine W.blockLoop (fun fq wq => ∃ s, res1 = Res.fin s ∧ fq 1 = Value.int .i64 s.2 ∧ InR .i64 s.2 ∧ (s.1).length = (a).length ∧ St w0 wq [(Ty.sl (Ty.i .i64)).at v_a s.1, R]) ?_ ?_
  · refine W.forN (fun k (s : (List Int) × Int) fq wq => fq 0 = v_a ∧ fq 1 = Value.int .i64 s.2 ∧ InR .i64 s.2 ∧ fq 5 = Value.int .i64 (k : Int) ∧ InR .i64 (k : Int) ∧ (s.1).length = (a).length ∧ St w0 wq [(Ty.sl (Ty.i .i64)).at v_a s.1, R]) hres2 ⟨rfl, rfl, r_k1, rfl, (inL rfl), rfl, hS0⟩ ?_ ?_
    · intro k3 s30 ct6 f7 wd8 hk9 hb10 hI11 hbrk12 hret13
      obtain ⟨x4, x5⟩ := s30
      replace hI11 : f7 0 = v_a ∧ f7 1 = Value.int .i64 x5 ∧ InR .i64 x5 ∧ f7 5 = Value.int .i64 (k3 : Int) ∧ InR .i64 (k3 : Int) ∧ (x4).length = (a).length ∧ St w0 wd8 [(Ty.sl (Ty.i .i64)).at v_a x4, R] := hI11
      replace hb10 : p_laws_markInt64S_L1  k3 x4 x5 = some ct6 := hb10
      unfold p_laws_markInt64S_L1 at hb10
      obtain ⟨hf14, hf15, hr16, hf17, hr18, hL19, hS20⟩ := hI11
      refine W.seq (W.seq (W.region ?_))
      refine WL.val (Value.int .i64 (k3 : Int)) _ (op_move hf17) rfl ?_
      refine WL.val v_a _ (op_move hf14) rfl ?_
      have hr21 := inR_len (St.rep (t := (Ty.sl (Ty.i .i64))) hS20 0 rfl)
      refine WL.val (Value.int .i64 ((x4).length : Int)) _ (op_lenL sl_25 (St.rep (t := (Ty.sl (Ty.i .i64))) hS20 0 rfl) rfl) rfl ?_
      refine WL.val (Value.bool (decide ((k3 : Int) < ((x4).length : Int)))) _ (op_lss rfl rfl) rfl ?_
      have hl22 : (k3 : Int) < ((x4).length : Int) := by omega
      refine WL.nil ?_
      refine W.condT (decide ((k3 : Int) < ((x4).length : Int))) rfl (decide_eq_true hl22) ?_
      refine W.skip ?_
      refine W.seq ?_
      refine W.block ?_
      refine W.seq (W.region ?_)
      refine WL.val v_a _ (op_move hf14) rfl ?_
      refine WL.val (Value.int .i64 (k3 : Int)) _ (op_move hf17) rfl ?_
      refine WL.val (Value.int .i64 x5) _ (op_move hf15) rfl ?_
      obtain ⟨x24, hx27, hb10⟩ := bs hb10
      obtain ⟨ha25, hb26, hx27⟩ := idx_some hx27
      refine WL.val (Value.pointer (some (elA v_a ((k3 : Int)).toNat))) _ (op_idx sl_25 (St.rep (t := (Ty.sl (Ty.i .i64))) hS20 0 rfl) rfl rfl ha25 hb26) rfl ?_
      refine WL.storeEl (flat_i .i64) hS20 (k := 0) rfl sz_2 rfl rfl (lt_of_idx ha25 hb26) ⟨rfl, hr16⟩ ?_
      intro wd28 hS29
      replace hS29 : St w0 wd28 [(Ty.sl (Ty.i .i64)).at v_a ((x4).set ((k3 : Int)).toNat x5), R] := hS29
      refine WL.nil ?_
      show W _ _ _ _ _ _
      refine W.region ?_
      refine WL.val (Value.int .i64 x5) _ (op_move hf15) rfl ?_
      refine WL.val (Value.int .i64 (w64 (x5 + (1 : Int)))) _ (op_add rfl rfl) rfl ?_
      refine WL.val (Value.int .i64 (w64 (x5 + (1 : Int)))) _ (op_assign rfl) rfl ?_
      refine WL.nil ?_
      show W _ _ _ _ _ _
      refine W.region ?_
      refine WL.val (Value.int .i64 (k3 : Int)) _ (op_move hf17) rfl ?_
      refine WL.val (Value.int .i64 (w64 ((k3 : Int) + (1 : Int)))) _ (op_add rfl rfl) rfl ?_
      refine WL.val (Value.int .i64 (w64 ((k3 : Int) + (1 : Int)))) _ (op_assign rfl) rfl ?_
      refine WL.nil ?_
      obtain rfl := Option.some.inj hb10
      show ∃ s, _ = Ctl.next s ∧ _
      exact ⟨_, rfl, hf14, rfl, (inR_wrap _ _), (ctr_next hl22 hr21), (ctr_rng hl22 hr21), (by first | exact hL19 | (simp only [List.length_set]; exact hL19)), hS29⟩
    · intro s35 f31 wd32 hs33 hI34
      obtain ⟨x36, x37⟩ := s35
      replace hI34 : f31 0 = v_a ∧ f31 1 = Value.int .i64 x37 ∧ InR .i64 x37 ∧ f31 5 = Value.int .i64 (((a).length : Nat) : Int) ∧ InR .i64 (((a).length : Nat) : Int) ∧ (x36).length = (a).length ∧ St w0 wd32 [(Ty.sl (Ty.i .i64)).at v_a x36, R] := hI34
      obtain ⟨hf38, hf39, hr40, hf41, hr42, hL43, hS44⟩ := hI34
      refine W.seq (W.seq (W.region ?_))
      refine WL.val (Value.int .i64 (((a).length : Nat) : Int)) _ (op_move hf41) rfl ?_
      refine WL.val v_a _ (op_move hf38) rfl ?_
      have hr45 := inR_len (St.rep (t := (Ty.sl (Ty.i .i64))) hS44 0 rfl)
      refine WL.val (Value.int .i64 ((x36).length : Int)) _ (op_lenL sl_25 (St.rep (t := (Ty.sl (Ty.i .i64))) hS44 0 rfl) rfl) rfl ?_
      refine WL.val (Value.bool (decide ((((a).length : Nat) : Int) < ((x36).length : Int)))) _ (op_lss rfl rfl) rfl ?_
      have hl46 : ¬ (((a).length : Nat) : Int) < ((x36).length : Int) := by omega
      refine WL.nil ?_
      refine W.condF (decide ((((a).length : Nat) : Int) < ((x36).length : Int))) rfl (decide_eq_false hl46) ?_
      refine W.exit ?_
      show _ = _ ∧ _
      exact ⟨rfl, _, hs33, hf39, hr40, (by first | exact hL43 | (simp only [List.length_set]; exact hL43)), hS44⟩
  · rintro f47 wd48 ⟨s50, rfl, hq49⟩
    replace h := onRes_fin h
    obtain ⟨x51, x52⟩ := s50
    replace hq49 : f47 1 = Value.int .i64 x52 ∧ InR .i64 x52 ∧ (x51).length = (a).length ∧ St w0 wd48 [(Ty.sl (Ty.i .i64)).at v_a x51, R] := hq49
    replace h : (_ : Option _) = _ := h
    dsimp only at h
    obtain ⟨hf53, hr54, hL55, hS56⟩ := hq49
    refine W.seq (W.region ?_)
    refine WL.val (Value.int .i64 x52) _ (op_move hf53) rfl ?_
    refine WL.val (Value.int .i64 x52) _ (op_assign rfl) rfl ?_
    refine WL.nil ?_
    refine W.ret ?_
    obtain rfl := Option.some.inj h
    show FinP _ _ _ _ _ _ _
    exact FinP.ret _ (res1 rfl rfl) ⟨rfl, hr54, (St.pick hS56 [0, 1] rfl)⟩

theorem c_laws_markInt64SS {w : World} {a : (List (List Int))} {v_a : Value} {k1 : Int} {w0 : World} {R : Ent} (hS0 : St w0 w [(Ty.sl (Ty.sl (Ty.i .i64))).at v_a a, R]) (r_k1 : InR .i64 k1) {res : Int × (List (List Int))} (h : p_laws_markInt64SS a k1  = some res) :
    Ret Try.prog 32 #[v_a, (Value.int .i64 k1)] w (fun v w' => v = Value.int .i64 res.1 ∧ InR .i64 res.1 ∧ St w0 w' [(Ty.sl (Ty.sl (Ty.i .i64))).at v_a res.2, R]) := by
  unfold p_laws_markInt64SS at h
  refine Ret.start (fn := Try.f32) Try.func32 rfl 19 rfl rfl ?_
  refine W.seq (W.region ?_)
  refine WL.val (Value.int .i64 (0 : Int)) _ (op_assign rfl) rfl ?_
  refine WL.nil ?_
  refine W.seq (W.seq (W.region ?_))
  refine WL.val (Value.int .i64 (0 : Int)) _ (op_assign rfl) rfl ?_
  refine WL.nil ?_
  show W _ _ _ _ _ _
  obtain ⟨res1, hres2, h⟩ := bs h
  refine W.blockLoop (fun fq wq => ∃ s, res1 = Res.fin s ∧ fq 1 = Value.int .i64 s.2 ∧ InR .i64 s.2 ∧ (s.1).length = (a).length ∧ St w0 wq [(Ty.sl (Ty.sl (Ty.i .i64))).at v_a s.1, R]) ?_ ?_
  · refine W.forN (fun k (s : (List (List Int)) × Int) fq wq => fq 0 = v_a ∧ fq 1 = Value.int .i64 s.2 ∧ InR .i64 s.2 ∧ fq 5 = Value.int .i64 (k : Int) ∧ InR .i64 (k : Int) ∧ (s.1).length = (a).length ∧ St w0 wq [(Ty.sl (Ty.sl (Ty.i .i64))).at v_a s.1, R]) hres2 ⟨rfl, rfl, r_k1, rfl, (inL rfl), rfl, hS0⟩ ?_ ?_
    · intro k3 s40 ct6 f7 wd8 hk9 hb10 hI11 hbrk12 hret13
      obtain ⟨x4, x5⟩ := s40
      replace hI11 : f7 0 = v_a ∧ f7 1 = Value.int .i64 x5 ∧ InR .i64 x5 ∧ f7 5 = Value.int .i64 (k3 : Int) ∧ InR .i64 (k3 : Int) ∧ (x4).length = (a).length ∧ St w0 wd8 [(Ty.sl (Ty.sl (Ty.i .i64))).at v_a x4, R] := hI11
      replace hb10 : p_laws_markInt64SS_L1  k3 x4 x5 = some ct6 := hb10
      unfold p_laws_markInt64SS_L1 at hb10
      obtain ⟨hf14, hf15, hr16, hf17, hr18, hL19, hS20⟩ := hI11
      refine W.seq (W.seq (W.region ?_))
      refine WL.val (Value.int .i64 (k3 : Int)) _ (op_move hf17) rfl ?_
      refine WL.val v_a _ (op_move hf14) rfl ?_
      have hr21 := inR_len (St.rep (t := (Ty.sl (Ty.sl (Ty.i .i64)))) hS20 0 rfl)
      refine WL.val (Value.int .i64 ((x4).length : Int)) _ (op_lenL sl_43 (St.rep (t := (Ty.sl (Ty.sl (Ty.i .i64)))) hS20 0 rfl) rfl) rfl ?_
      refine WL.val (Value.bool (decide ((k3 : Int) < ((x4).length : Int)))) _ (op_lss rfl rfl) rfl ?_
      have hl22 : (k3 : Int) < ((x4).length : Int) := by omega
      refine WL.nil ?_
      refine W.condT (decide ((k3 : Int) < ((x4).length : Int))) rfl (decide_eq_true hl22) ?_
      refine W.skip ?_
      refine W.seq ?_
      refine W.block ?_
      refine W.region ?_
      refine WL.val v_a _ (op_move hf14) rfl ?_
      refine WL.val (Value.int .i64 (k3 : Int)) _ (op_move hf17) rfl ?_
      obtain ⟨x24, hx27, hb10⟩ := bs hb10
      obtain ⟨ha25, hb26, hx27⟩ := idx_some hx27
      refine WL.val (Value.pointer (some (elA v_a ((k3 : Int)).toNat))) _ (op_idx sl_43 (St.rep (t := (Ty.sl (Ty.sl (Ty.i .i64)))) hS20 0 rfl) rfl rfl ha25 hb26) rfl ?_
      obtain ⟨u28, hc29, hr30⟩ := repSl.el (St.rep (t := (Ty.sl (Ty.sl (Ty.i .i64)))) hS20 0 rfl) hx27
      refine WL.val u28 _ (op_load one_25 rfl hc29) rfl ?_
      refine WL.val (Value.int .i64 x5) _ (op_move hf15) rfl ?_
      have hS31 := St.unrow (k := 0) hS20 rfl hx27 hc29
      replace hS31 : St w0 wd8 [holeAt (Ty.sl (Ty.i .i64)) v_a x4 ((k3 : Int)).toNat u28, R, (Ty.sl (Ty.i .i64)).at u28 x24] := hS31
      obtain ⟨x32, hx33, hb10⟩ := bs hb10
      have hS34 := St.fold [(Ty.sl (Ty.i .i64)).at u28 x24] [holeAt (Ty.sl (Ty.i .i64)) v_a x4 ((k3 : Int)).toNat u28, R] (St.pick hS31 [2, 0, 1] rfl)
      refine WL.call _ (op_call fn_17 (args2 rfl rfl)) (c_laws_markInt64S hS34 hr16 hx33) rfl ?_
      rintro _ wd37 ⟨rfl, hr38, hS35⟩
      have hS36 := St.pick (St.unfold [(Ty.sl (Ty.i .i64)).at u28 x32.2] [holeAt (Ty.sl (Ty.i .i64)) v_a x4 ((k3 : Int)).toNat u28, R] hS35) [1, 2, 0] rfl
      replace hS36 : St w0 wd37 [holeAt (Ty.sl (Ty.i .i64)) v_a x4 ((k3 : Int)).toNat u28, R, (Ty.sl (Ty.i .i64)).at u28 x32.2] := hS36
      have hS39 := St.rerow (k := 0) (k2 := 2) hS36 rfl rfl rfl
      replace hS39 : St w0 wd37 [(Ty.sl (Ty.sl (Ty.i .i64))).at v_a ((x4).set ((k3 : Int)).toNat x32.2), R, emp] := hS39
      refine WL.val (Value.int .i64 x32.1) _ (op_assign rfl) rfl ?_
      refine WL.nil ?_
      show W _ _ _ _ _ _
      refine W.region ?_
      refine WL.val (Value.int .i64 (k3 : Int)) _ (op_move hf17) rfl ?_
      refine WL.val (Value.int .i64 (w64 ((k3 : Int) + (1 : Int)))) _ (op_add rfl rfl) rfl ?_
      refine WL.val (Value.int .i64 (w64 ((k3 : Int) + (1 : Int)))) _ (op_assign rfl) rfl ?_
      refine WL.nil ?_
      obtain rfl := Option.some.inj hb10
      show ∃ s, _ = Ctl.next s ∧ _
      exact ⟨_, rfl, hf14, rfl, hr38, (ctr_next hl22 hr21), (ctr_rng hl22 hr21), (by first | exact hL19 | (simp only [List.length_set]; exact hL19)), (St.pick hS39 [0, 1] rfl)⟩
    · intro s45 f41 wd42 hs43 hI44
      obtain ⟨x46, x47⟩ := s45
      replace hI44 : f41 0 = v_a ∧ f41 1 = Value.int .i64 x47 ∧ InR .i64 x47 ∧ f41 5 = Value.int .i64 (((a).length : Nat) : Int) ∧ InR .i64 (((a).length : Nat) : Int) ∧ (x46).length = (a).length ∧ St w0 wd42 [(Ty.sl (Ty.sl (Ty.i .i64))).at v_a x46, R] := hI44
      obtain ⟨hf48, hf49, hr50, hf51, hr52, hL53, hS54⟩ := hI44
      refine W.seq (W.seq (W.region ?_))
      refine WL.val (Value.int .i64 (((a).length : Nat) : Int)) _ (op_move hf51) rfl ?_
      refine WL.val v_a _ (op_move hf48) rfl ?_
      have hr55 := inR_len (St.rep (t := (Ty.sl (Ty.sl (Ty.i .i64)))) hS54 0 rfl)
      refine WL.val (Value.int .i64 ((x46).length : Int)) _ (op_lenL sl_43 (St.rep (t := (Ty.sl (Ty.sl (Ty.i .i64)))) hS54 0 rfl) rfl) rfl ?_
      refine WL.val (Value.bool (decide ((((a).length : Nat) : Int) < ((x46).length : Int)))) _ (op_lss rfl rfl) rfl ?_
      have hl56 : ¬ (((a).length : Nat) : Int) < ((x46).length : Int) := by omega
      refine WL.nil ?_
      refine W.condF (decide ((((a).length : Nat) : Int) < ((x46).length : Int))) rfl (decide_eq_false hl56) ?_
      refine W.exit ?_
      show _ = _ ∧ _
      exact ⟨rfl, _, hs43, hf49, hr50, (by first | exact hL53 | (simp only [List.length_set]; exact hL53)), hS54⟩
  · rintro f57 wd58 ⟨s60, rfl, hq59⟩
    replace h := onRes_fin h
    obtain ⟨x61, x62⟩ := s60
    replace hq59 : f57 1 = Value.int .i64 x62 ∧ InR .i64 x62 ∧ (x61).length = (a).length ∧ St w0 wd58 [(Ty.sl (Ty.sl (Ty.i .i64))).at v_a x61, R] := hq59
    replace h : (_ : Option _) = _ := h
    dsimp only at h
    obtain ⟨hf63, hr64, hL65, hS66⟩ := hq59
    refine W.seq (W.region ?_)
    refine WL.val (Value.int .i64 x62) _ (op_move hf63) rfl ?_
    refine WL.val (Value.int .i64 x62) _ (op_assign rfl) rfl ?_
    refine WL.nil ?_
    refine W.ret ?_
    obtain rfl := Option.some.inj h
    show FinP _ _ _ _ _ _ _
    exact FinP.ret _ (res1 rfl rfl) ⟨rfl, hr64, (St.pick hS66 [0, 1] rfl)⟩

theorem c_laws_markInt64SSS {w : World} {a : (List (List (List Int)))} {v_a : Value} {k1 : Int} {w0 : World} {R : Ent} (hS0 : St w0 w [(Ty.sl (Ty.sl (Ty.sl (Ty.i .i64)))).at v_a a, R]) (r_k1 : InR .i64 k1) {res : Int × (List (List (List Int)))} (h : p_laws_markInt64SSS a k1  = some res) :
    Ret Try.prog 44 #[v_a, (Value.int .i64 k1)] w (fun v w' => v = Value.int .i64 res.1 ∧ InR .i64 res.1 ∧ St w0 w' [(Ty.sl (Ty.sl (Ty.sl (Ty.i .i64)))).at v_a res.2, R]) := by
  unfold p_laws_markInt64SSS at h
  refine Ret.start (fn := Try.f44) Try.func44 rfl 19 rfl rfl ?_
  refine W.seq (W.region ?_)
  refine WL.val (Value.int .i64 (0 : Int)) _ (op_assign rfl) rfl ?_
  refine WL.nil ?_
  refine W.seq (W.seq (W.region ?_))
  refine WL.val (Value.int .i64 (0 : Int)) _ (op_assign rfl) rfl ?_
  refine WL.nil ?_
  show W _ _ _ _ _ _
  obtain ⟨res1, hres2, h⟩ := bs h
  refine W.blockLoop (fun fq wq => ∃ s, res1 = Res.fin s ∧ fq 1 = Value.int .i64 s.2 ∧ InR .i64 s.2 ∧ (s.1).length = (a).length ∧ St w0 wq [(Ty.sl (Ty.sl (Ty.sl (Ty.i .i64)))).at v_a s.1, R]) ?_ ?_
  · refine W.forN (fun k (s : (List (List (List Int))) × Int) fq wq => fq 0 = v_a ∧ fq 1 = Value.int .i64 s.2 ∧ InR .i64 s.2 ∧ fq 5 = Value.int .i64 (k : Int) ∧ InR .i64 (k : Int) ∧ (s.1).length = (a).length ∧ St w0 wq [(Ty.sl (Ty.sl (Ty.sl (Ty.i .i64)))).at v_a s.1, R]) hres2 ⟨rfl, rfl, r_k1, rfl, (inL rfl), rfl, hS0⟩ ?_ ?_
    · intro k3 s40 ct6 f7 wd8 hk9 hb10 hI11 hbrk12 hret13
      obtain ⟨x4, x5⟩ := s40
      replace hI11 : f7 0 = v_a ∧ f7 1 = Value.int .i64 x5 ∧ InR .i64 x5 ∧ f7 5 = Value.int .i64 (k3 : Int) ∧ InR .i64 (k3 : Int) ∧ (x4).length = (a).length ∧ St w0 wd8 [(Ty.sl (Ty.sl (Ty.sl (Ty.i .i64)))).at v_a x4, R] := hI11
      replace hb10 : p_laws_markInt64SSS_L1  k3 x4 x5 = some ct6 := hb10
      unfold p_laws_markInt64SSS_L1 at hb10
      obtain ⟨hf14, hf15, hr16, hf17, hr18, hL19, hS20⟩ := hI11
      refine W.seq (W.seq (W.region ?_))
      refine WL.val (Value.int .i64 (k3 : Int)) _ (op_move hf17) rfl ?_
      refine WL.val v_a _ (op_move hf14) rfl ?_
      have hr21 := inR_len (St.rep (t := (Ty.sl (Ty.sl (Ty.sl (Ty.i .i64))))) hS20 0 rfl)
      refine WL.val (Value.int .i64 ((x4).length : Int)) _ (op_lenL sl_22 (St.rep (t := (Ty.sl (Ty.sl (Ty.sl (Ty.i .i64))))) hS20 0 rfl) rfl) rfl ?_
      refine WL.val (Value.bool (decide ((k3 : Int) < ((x4).length : Int)))) _ (op_lss rfl rfl) rfl ?_
      have hl22 : (k3 : Int) < ((x4).length : Int) := by omega
      refine WL.nil ?_
      refine W.condT (decide ((k3 : Int) < ((x4).length : Int))) rfl (decide_eq_true hl22) ?_
      refine W.skip ?_
      refine W.seq ?_
      refine W.block ?_
      refine W.region ?_
      refine WL.val v_a _ (op_move hf14) rfl ?_
      refine WL.val (Value.int .i64 (k3 : Int)) _ (op_move hf17) rfl ?_
      obtain ⟨x24, hx27, hb10⟩ := bs hb10
      obtain ⟨ha25, hb26, hx27⟩ := idx_some hx27
      refine WL.val (Value.pointer (some (elA v_a ((k3 : Int)).toNat))) _ (op_idx sl_22 (St.rep (t := (Ty.sl (Ty.sl (Ty.sl (Ty.i .i64))))) hS20 0 rfl) rfl rfl ha25 hb26) rfl ?_
      obtain ⟨u28, hc29, hr30⟩ := repSl.el (St.rep (t := (Ty.sl (Ty.sl (Ty.sl (Ty.i .i64))))) hS20 0 rfl) hx27
      refine WL.val u28 _ (op_load one_43 rfl hc29) rfl ?_
      refine WL.val (Value.int .i64 x5) _ (op_move hf15) rfl ?_
      have hS31 := St.unrow (k := 0) hS20 rfl hx27 hc29
      replace hS31 : St w0 wd8 [holeAt (Ty.sl (Ty.sl (Ty.i .i64))) v_a x4 ((k3 : Int)).toNat u28, R, (Ty.sl (Ty.sl (Ty.i .i64))).at u28 x24] := hS31
      obtain ⟨x32, hx33, hb10⟩ := bs hb10
      have hS34 := St.fold [(Ty.sl (Ty.sl (Ty.i .i64))).at u28 x24] [holeAt (Ty.sl (Ty.sl (Ty.i .i64))) v_a x4 ((k3 : Int)).toNat u28, R] (St.pick hS31 [2, 0, 1] rfl)
      refine WL.call _ (op_call fn_32 (args2 rfl rfl)) (c_laws_markInt64SS hS34 hr16 hx33) rfl ?_
      rintro _ wd37 ⟨rfl, hr38, hS35⟩
      have hS36 := St.pick (St.unfold [(Ty.sl (Ty.sl (Ty.i .i64))).at u28 x32.2] [holeAt (Ty.sl (Ty.sl (Ty.i .i64))) v_a x4 ((k3 : Int)).toNat u28, R] hS35) [1, 2, 0] rfl
      replace hS36 : St w0 wd37 [holeAt (Ty.sl (Ty.sl (Ty.i .i64))) v_a x4 ((k3 : Int)).toNat u28, R, (Ty.sl (Ty.sl (Ty.i .i64))).at u28 x32.2] := hS36
      have hS39 := St.rerow (k := 0) (k2 := 2) hS36 rfl rfl rfl
      replace hS39 : St w0 wd37 [(Ty.sl (Ty.sl (Ty.sl (Ty.i .i64)))).at v_a ((x4).set ((k3 : Int)).toNat x32.2), R, emp] := hS39
      refine WL.val (Value.int .i64 x32.1) _ (op_assign rfl) rfl ?_
      refine WL.nil ?_
      show W _ _ _ _ _ _
      refine W.region ?_
      refine WL.val (Value.int .i64 (k3 : Int)) _ (op_move hf17) rfl ?_
      refine WL.val (Value.int .i64 (w64 ((k3 : Int) + (1 : Int)))) _ (op_add rfl rfl) rfl ?_
      refine WL.val (Value.int .i64 (w64 ((k3 : Int) + (1 : Int)))) _ (op_assign rfl) rfl ?_
      refine WL.nil ?_
      obtain rfl := Option.some.inj hb10
      show ∃ s, _ = Ctl.next s ∧ _
      exact ⟨_, rfl, hf14, rfl, hr38, (ctr_next hl22 hr21), (ctr_rng hl22 hr21), (by first | exact hL19 | (simp only [List.length_set]; exact hL19)), (St.pick hS39 [0, 1] rfl)⟩
    · intro s45 f41 wd42 hs43 hI44
      obtain ⟨x46, x47⟩ := s45
      replace hI44 : f41 0 = v_a ∧ f41 1 = Value.int .i64 x47 ∧ InR .i64 x47 ∧ f41 5 = Value.int .i64 (((a).length : Nat) : Int) ∧ InR .i64 (((a).length : Nat) : Int) ∧ (x46).length = (a).length ∧ St w0 wd42 [(Ty.sl (Ty.sl (Ty.sl (Ty.i .i64)))).at v_a x46, R] := hI44
      obtain ⟨hf48, hf49, hr50, hf51, hr52, hL53, hS54⟩ := hI44
      refine W.seq (W.seq (W.region ?_))
      refine WL.val (Value.int .i64 (((a).length : Nat) : Int)) _ (op_move hf51) rfl ?_
      refine WL.val v_a _ (op_move hf48) rfl ?_
      have hr55 := inR_len (St.rep (t := (Ty.sl (Ty.sl (Ty.sl (Ty.i .i64))))) hS54 0 rfl)
      refine WL.val (Value.int .i64 ((x46).length : Int)) _ (op_lenL sl_22 (St.rep (t := (Ty.sl (Ty.sl (Ty.sl (Ty.i .i64))))) hS54 0 rfl) rfl) rfl ?_
      refine WL.val (Value.bool (decide ((((a).length : Nat) : Int) < ((x46).length : Int)))) _ (op_lss rfl rfl) rfl ?_
      have hl56 : ¬ (((a).length : Nat) : Int) < ((x46).length : Int) := by omega
      refine WL.nil ?_
      refine W.condF (decide ((((a).length : Nat) : Int) < ((x46).length : Int))) rfl (decide_eq_false hl56) ?_
      refine W.exit ?_
      show _ = _ ∧ _
      exact ⟨rfl, _, hs43, hf49, hr50, (by first | exact hL53 | (simp only [List.length_set]; exact hL53)), hS54⟩
  · rintro f57 wd58 ⟨s60, rfl, hq59⟩
    replace h := onRes_fin h
    obtain ⟨x61, x62⟩ := s60
    replace hq59 : f57 1 = Value.int .i64 x62 ∧ InR .i64 x62 ∧ (x61).length = (a).length ∧ St w0 wd58 [(Ty.sl (Ty.sl (Ty.sl (Ty.i .i64)))).at v_a x61, R] := hq59
    replace h : (_ : Option _) = _ := h
    dsimp only at h
    obtain ⟨hf63, hr64, hL65, hS66⟩ := hq59
    refine W.seq (W.region ?_)
    refine WL.val (Value.int .i64 x62) _ (op_move hf63) rfl ?_
    refine WL.val (Value.int .i64 x62) _ (op_assign rfl) rfl ?_
    refine WL.nil ?_
    refine W.ret ?_
    obtain rfl := Option.some.inj h
    show FinP _ _ _ _ _ _ _
    exact FinP.ret _ (res1 rfl rfl) ⟨rfl, hr64, (St.pick hS66 [0, 1] rfl)⟩

theorem c_laws_markRing {w : World} {a_Table : (List (List (List Int)))} {v_a_Table : Value} {k1 : Int} {w0 : World} {R : Ent} (hS0 : St w0 w [(Ty.sl (Ty.sl (Ty.sl (Ty.i .i64)))).at v_a_Table a_Table, R]) (r_k1 : InR .i64 k1) {res : Int × (List (List (List Int)))} (h : p_laws_markRing a_Table k1  = some res) :
    Ret Try.prog 16 #[(Value.agg #[v_a_Table]), (Value.int .i64 k1)] w (fun v w' => v = Value.int .i64 res.1 ∧ InR .i64 res.1 ∧ St w0 w' [(Ty.sl (Ty.sl (Ty.sl (Ty.i .i64)))).at v_a_Table res.2, R]) := by
  unfold p_laws_markRing at h
  refine Ret.start (fn := Try.f16) Try.func16 rfl 10 rfl rfl ?_
  refine W.seq (W.region ?_)
  refine WL.box hS0 rfl (cs := [v_a_Table]) rfl rfl ?_
  intro b1 wd2 hS3 he4 hx5
  replace hS3 : St w0 wd2 [(Ty.sl (Ty.sl (Ty.sl (Ty.i .i64)))).at v_a_Table a_Table, R, bx b1 [v_a_Table]] := hS3
  refine WL.val (Value.int .i64 (0 : Int)) _ (op_assign rfl) rfl ?_
  refine WL.nil ?_
  refine W.seq (W.region ?_)
  refine WL.val (Value.pointer (some ⟨b1, 0, none⟩)) _ (op_fieldAddr fd_29_0 rfl) rfl ?_
  refine WL.val v_a_Table _ (op_load one_22 rfl (BoxAt.cell (St.boxAt hS3 2 rfl) rfl)) rfl ?_
  refine WL.val (Value.int .i64 k1) _ (op_move rfl) rfl ?_
  obtain ⟨x6, hx7, h⟩ := bs h
  have hS8 := St.fold [(Ty.sl (Ty.sl (Ty.sl (Ty.i .i64)))).at v_a_Table a_Table] [R, bx b1 [v_a_Table]] (St.pick hS3 [0, 1, 2] rfl)
  refine WL.call _ (op_call fn_44 (args2 rfl rfl)) (c_laws_markInt64SSS hS8 r_k1 hx7) rfl ?_
  rintro _ wd11 ⟨rfl, hr12, hS9⟩
  have hS10 := St.pick (St.unfold [(Ty.sl (Ty.sl (Ty.sl (Ty.i .i64)))).at v_a_Table x6.2] [R, bx b1 [v_a_Table]] hS9) [0, 1, 2] rfl
  replace hS10 : St w0 wd11 [(Ty.sl (Ty.sl (Ty.sl (Ty.i .i64)))).at v_a_Table x6.2, R, bx b1 [v_a_Table]] := hS10
  refine WL.val (Value.int .i64 x6.1) _ (op_assign rfl) rfl ?_
  refine WL.nil ?_
  refine W.seq (W.region ?_)
  refine WL.val (Value.int .i64 x6.1) _ (op_move rfl) rfl ?_
  refine WL.val (Value.int .i64 x6.1) _ (op_assign rfl) rfl ?_
  refine WL.nil ?_
  refine W.ret ?_
  obtain rfl := Option.some.inj h
  show FinP _ _ _ _ _ _ _
  exact FinP.ret _ (res1 rfl rfl) ⟨rfl, hr12, (St.pick hS10 [0, 1] rfl)⟩

theorem c_laws_heldInt64S {w : World} {a : (List Int)} {v_a : Value} {k1 : Int} (r_a : (Ty.sl (Ty.i .i64)).rep w v_a a) (r_k1 : InR .i64 k1) {res : Int} (h : p_laws_heldInt64S a k1  = some res) :
    Ret Try.prog 18 #[v_a, (Value.int .i64 k1)] w (fun v w' => v = Value.int .i64 res ∧ InR .i64 res ∧ Ext w w') := by
  unfold p_laws_heldInt64S at h
  have hS0 : St w w [] := St.start w
  refine Ret.start (fn := Try.f18) Try.func18 rfl 21 rfl rfl ?_
  refine W.seq (W.region ?_)
  refine WL.val (Value.int .i64 (0 : Int)) _ (op_assign rfl) rfl ?_
  refine WL.nil ?_
  refine W.seq (W.seq (W.region ?_))
  refine WL.val (Value.int .i64 (0 : Int)) _ (op_assign rfl) rfl ?_
  refine WL.nil ?_
  show W _ _ _ _ _ _
  obtain ⟨res1, hres2, h⟩ := bs h
  refine W.blockLoop (fun fq wq => ∃ s, res1 = Res.fin s ∧ fq 1 = Value.int .i64 s ∧ InR .i64 s ∧ St w wq []) ?_ ?_
  · refine W.forN (fun k (s : Int) fq wq => fq 0 = v_a ∧ fq 1 = Value.int .i64 s ∧ InR .i64 s ∧ fq 5 = Value.int .i64 (k : Int) ∧ InR .i64 (k : Int) ∧ St w wq []) hres2 ⟨rfl, rfl, r_k1, rfl, (inL rfl), hS0⟩ ?_ ?_
    · intro k3 x4 ct5 f6 wd7 hk8 hb9 hI10 hbrk11 hret12
      replace hI10 : f6 0 = v_a ∧ f6 1 = Value.int .i64 x4 ∧ InR .i64 x4 ∧ f6 5 = Value.int .i64 (k3 : Int) ∧ InR .i64 (k3 : Int) ∧ St w wd7 [] := hI10
      replace hb9 : p_laws_heldInt64S_L1 a k3 x4 = some ct5 := hb9
      unfold p_laws_heldInt64S_L1 at hb9
      obtain ⟨hf13, hf14, hr15, hf16, hr17, hS18⟩ := hI10
      refine W.seq (W.seq (W.region ?_))
      refine WL.val (Value.int .i64 (k3 : Int)) _ (op_move hf16) rfl ?_
      refine WL.val v_a _ (op_move hf13) rfl ?_
      have hr19 := inR_len (Ty.lift _ hS18.ext r_a)
      refine WL.val (Value.int .i64 ((a).length : Int)) _ (op_lenL sl_25 (Ty.lift _ hS18.ext r_a) rfl) rfl ?_
      refine WL.val (Value.bool (decide ((k3 : Int) < ((a).length : Int)))) _ (op_lss rfl rfl) rfl ?_
      have hl20 : (k3 : Int) < ((a).length : Int) := by omega
      refine WL.nil ?_
      refine W.condT (decide ((k3 : Int) < ((a).length : Int))) rfl (decide_eq_true hl20) ?_
      refine W.skip ?_
      refine W.seq ?_
      refine W.block ?_
      refine W.seq (W.seq (W.region ?_))
      refine WL.val v_a _ (op_move hf13) rfl ?_
      refine WL.val (Value.int .i64 (k3 : Int)) _ (op_move hf16) rfl ?_
      obtain ⟨x22, hx25, hb9⟩ := bs hb9
      obtain ⟨ha23, hb24, hx25⟩ := idx_some hx25
      refine WL.val (Value.pointer (some (elA v_a ((k3 : Int)).toNat))) _ (op_idx sl_25 (Ty.lift _ hS18.ext r_a) rfl rfl ha23 hb24) rfl ?_
      obtain ⟨u26, hc27, hr28⟩ := repSl.el r_a hx25
      obtain ⟨rfl, hr28⟩ := hr28
      refine WL.val (Value.int .i64 x22) _ (op_load one_2 rfl (Ext.cell hS18.ext hc27)) rfl ?_
      refine WL.val (Value.int .i64 x4) _ (op_move hf14) rfl ?_
      refine WL.val (Value.bool (x22 != x4)) _ (op_neq rfl rfl) rfl ?_
      refine WL.nil ?_
      refine W.cond (x22 != x4) rfl (fun hc29 => ?_) (fun hc29 => ?_)
      · replace hb9 := ip hb9 hc29
        refine W.seq (W.region ?_)
        refine WL.val (Value.int .i64 (-1 : Int)) _ (op_assign rfl) rfl ?_
        refine WL.nil ?_
        refine W.ret ?_
        obtain rfl := Option.some.inj hb9
        obtain rfl := hret12 _ rfl
        replace h := onRes_ret h
        obtain rfl := Option.some.inj h
        show FinP _ _ _ _ _ _ _
        exact FinP.ret _ (res1 rfl rfl) ⟨rfl, (inR_i64.2 (show (-9223372036854775808 : Int) ≤ -1 ∧ (-1 : Int) ≤ 9223372036854775807 from by decide)), hS18.ext⟩
      · replace hb9 := inegb hb9 hc29
        refine W.skip ?_
        show W _ _ _ _ _ _
        refine W.region ?_
        refine WL.val (Value.int .i64 x4) _ (op_move hf14) rfl ?_
        refine WL.val (Value.int .i64 (w64 (x4 + (1 : Int)))) _ (op_add rfl rfl) rfl ?_
        refine WL.val (Value.int .i64 (w64 (x4 + (1 : Int)))) _ (op_assign rfl) rfl ?_
        refine WL.nil ?_
        show W _ _ _ _ _ _
        refine W.region ?_
        refine WL.val (Value.int .i64 (k3 : Int)) _ (op_move hf16) rfl ?_
        refine WL.val (Value.int .i64 (w64 ((k3 : Int) + (1 : Int)))) _ (op_add rfl rfl) rfl ?_
        refine WL.val (Value.int .i64 (w64 ((k3 : Int) + (1 : Int)))) _ (op_assign rfl) rfl ?_
        refine WL.nil ?_
        obtain rfl := Option.some.inj hb9
        show ∃ s, _ = Ctl.next s ∧ _
        exact ⟨_, rfl, hf13, rfl, (inR_wrap _ _), (ctr_next hl20 hr19), (ctr_rng hl20 hr19), hS18⟩
    · intro x37 f32 wd33 hs34 hI35
      replace hI35 : f32 0 = v_a ∧ f32 1 = Value.int .i64 x37 ∧ InR .i64 x37 ∧ f32 5 = Value.int .i64 (((a).length : Nat) : Int) ∧ InR .i64 (((a).length : Nat) : Int) ∧ St w wd33 [] := hI35
      obtain ⟨hf38, hf39, hr40, hf41, hr42, hS43⟩ := hI35
      refine W.seq (W.seq (W.region ?_))
      refine WL.val (Value.int .i64 (((a).length : Nat) : Int)) _ (op_move hf41) rfl ?_
      refine WL.val v_a _ (op_move hf38) rfl ?_
      have hr44 := inR_len (Ty.lift _ hS43.ext r_a)
      refine WL.val (Value.int .i64 ((a).length : Int)) _ (op_lenL sl_25 (Ty.lift _ hS43.ext r_a) rfl) rfl ?_
      refine WL.val (Value.bool (decide ((((a).length : Nat) : Int) < ((a).length : Int)))) _ (op_lss rfl rfl) rfl ?_
      have hl45 : ¬ (((a).length : Nat) : Int) < ((a).length : Int) := by omega
      refine WL.nil ?_
      refine W.condF (decide ((((a).length : Nat) : Int) < ((a).length : Int))) rfl (decide_eq_false hl45) ?_
      refine W.exit ?_
      show _ = _ ∧ _
      exact ⟨rfl, _, hs34, hf39, hr40, hS43⟩
  · rintro f46 wd47 ⟨x50, rfl, hq48⟩
    replace h := onRes_fin h
    replace hq48 : f46 1 = Value.int .i64 x50 ∧ InR .i64 x50 ∧ St w wd47 [] := hq48
    obtain ⟨hf51, hr52, hS53⟩ := hq48
    refine W.seq (W.region ?_)
    refine WL.val (Value.int .i64 x50) _ (op_move hf51) rfl ?_
    refine WL.val (Value.int .i64 x50) _ (op_assign rfl) rfl ?_
    refine WL.nil ?_
    refine W.ret ?_
    obtain rfl := Option.some.inj h
    show FinP _ _ _ _ _ _ _
    exact FinP.ret _ (res1 rfl rfl) ⟨rfl, hr52, hS53.ext⟩

theorem c_spec_l03Duals {w : World} {r_Table : (List (List (List Int)))} {v_r_Table : Value} (r_r_Table : (Ty.sl (Ty.sl (Ty.sl (Ty.i .i64)))).rep w v_r_Table r_Table) {res : (List Int)} (h : p_spec_l03Duals r_Table  = some res) :
    Ret Try.prog 50 #[(Value.agg #[v_r_Table])] w (fun v w' => ∃ (u0 : Value), v = u0 ∧ Ext w w' ∧ Sep w.heap.size w' [(Ty.sl (Ty.i .i64)).at u0 res]) := by
  unfold p_spec_l03Duals at h
  have hS0 : St w w [] := St.start w
  refine Ret.start (fn := Try.f50) Try.func50 rfl 21 rfl rfl ?_
  refine W.seq (W.region ?_)
  refine WL.box hS0 rfl (cs := [v_r_Table]) rfl rfl ?_
  intro b1 wd2 hS3 he4 hx5
  replace hS3 : St w wd2 [bx b1 [v_r_Table]] := hS3
  have hx6 := St.boxAt hS3 0 rfl
  have hE7 : Ext w wd2 := hS3.ext
  have hS8 : St wd2 wd2 [] := St.start wd2
  refine WL.val (Value.slice none 0 0) _ (op_assign rfl) rfl ?_
  refine WL.nil ?_
  refine W.seq (W.region ?_)
  refine WL.lit0 (t := (Ty.i .i64)) hS8 sl_25 rfl rfl ?_
  intro u9 wd10 hS11 he12
  replace hS11 : St wd2 wd10 [(Ty.sl (Ty.i .i64)).at u9 ([] : (List Int))] := hS11
  refine WL.val u9 _ (op_assign rfl) rfl ?_
  refine WL.nil ?_
  refine W.seq (W.seq (W.region ?_))
  refine WL.val (Value.int .i64 (0 : Int)) _ (op_assign rfl) rfl ?_
  refine WL.nil ?_
  show W _ _ _ _ _ _
  obtain ⟨res13, hres14, h⟩ := bs h
  refine W.blockLoop (fun fq wq => ∃ s, res13 = Res.fin s ∧ ∃ (uu0 : Value), fq 3 = uu0 ∧ St wd2 wq [(Ty.sl (Ty.i .i64)).at uu0 s]) ?_ ?_
  · refine W.forN (fun k (s : (List Int)) fq wq => ∃ (uu0 : Value), fq 1 = (Value.pointer (some ⟨b1, 0, none⟩)) ∧ fq 3 = uu0 ∧ fq 4 = Value.int .i64 (k : Int) ∧ InR .i64 (k : Int) ∧ St wd2 wq [(Ty.sl (Ty.i .i64)).at uu0 s]) hres14 ⟨u9, rfl, rfl, rfl, (inL rfl), hS11⟩ ?_ ?_
    · intro k15 x16 ct17 f18 wd19 hk20 hb21 hI22 hbrk23 hret24
      replace hI22 : ∃ (uu0 : Value), f18 1 = (Value.pointer (some ⟨b1, 0, none⟩)) ∧ f18 3 = uu0 ∧ f18 4 = Value.int .i64 (k15 : Int) ∧ InR .i64 (k15 : Int) ∧ St wd2 wd19 [(Ty.sl (Ty.i .i64)).at uu0 x16] := hI22
      replace hb21 : p_spec_l03Duals_L1 r_Table k15 x16 = some ct17 := hb21
      unfold p_spec_l03Duals_L1 at hb21
      obtain ⟨u25, hf26, hf27, hf28, hr29, hS30⟩ := hI22
      refine W.seq (W.seq (W.region ?_))
      refine WL.val (Value.int .i64 (k15 : Int)) _ (op_move hf28) rfl ?_
      refine WL.val (Value.pointer (some ⟨b1, 0, none⟩)) _ (op_fieldAddr fd_29_0 hf26) rfl ?_
      refine WL.val v_r_Table _ (op_load one_22 rfl (BoxAt.cell (BoxAt.lift hS30.ext hx6) rfl)) rfl ?_
      have hr31 := inR_len (Ty.lift _ (Ext.trans hE7 hS30.ext) r_r_Table)
      refine WL.val (Value.int .i64 ((r_Table).length : Int)) _ (op_lenL sl_22 (Ty.lift _ (Ext.trans hE7 hS30.ext) r_r_Table) rfl) rfl ?_
      refine WL.val (Value.bool (decide ((k15 : Int) < ((r_Table).length : Int)))) _ (op_lss rfl rfl) rfl ?_
      have hl32 : (k15 : Int) < ((r_Table).length : Int) := by omega
      refine WL.nil ?_
      refine W.condT (decide ((k15 : Int) < ((r_Table).length : Int))) rfl (decide_eq_true hl32) ?_
      refine W.skip ?_
      refine W.seq ?_
      refine W.block ?_
      refine W.region ?_
      refine WL.val u25 _ (op_move hf27) rfl ?_
      refine WL.val (Value.pointer (some ⟨b1, 0, none⟩)) _ (op_fieldAddr fd_29_0 hf26) rfl ?_
      refine WL.val v_r_Table _ (op_load one_22 rfl (BoxAt.cell (BoxAt.lift hS30.ext hx6) rfl)) rfl ?_
      refine WL.val (Value.int .i64 (k15 : Int)) _ (op_move hf28) rfl ?_
      obtain ⟨x34, hx35, hb21⟩ := bs hb21
      refine WL.call _ (op_call fn_77 (args2 rfl rfl)) (c_spec_l03Dual (Ty.lift _ (Ext.trans hE7 hS30.ext) r_r_Table) hr29 hx35) rfl ?_
      rintro _ wd37 ⟨rfl, hr36, he38⟩
      have hS40 := St.extend hS30 he38
      replace hS40 : St wd2 wd37 [(Ty.sl (Ty.i .i64)).at u25 x16] := hS40
      refine WL.litFlat (t := (Ty.i .i64)) (flat_i .i64) [(Value.int .i64 x34)] [x34] hS40 sl_25 rfl rfl (fillL rfl ⟨rfl, rfl, rfl, trivial⟩) rfl rfl (litL ⟨⟨rfl, hr36⟩, trivial⟩) rfl ?_
      intro u41 wd42 hS43 he44
      replace hS43 : St wd2 wd42 [(Ty.sl (Ty.i .i64)).at u25 x16, (Ty.sl (Ty.i .i64)).at u41 ([x34] : (List Int))] := hS43
      obtain ⟨x45, hx46, hb21⟩ := bs hb21
      refine WL.append (flat_i .i64) hS43 (k := 0) rfl sl_25 rfl rfl rfl rfl (St.rep (t := (Ty.sl (Ty.i .i64))) hS43 1 rfl) hx46 rfl ?_
      intro u47 wd48 hS49 hz50
      replace hS49 : St wd2 wd48 [(Ty.sl (Ty.i .i64)).at u47 x45, (Ty.sl (Ty.i .i64)).at u41 ([x34] : (List Int))] := hS49
      refine WL.val u47 _ (op_assign rfl) rfl ?_
      refine WL.nil ?_
      show W _ _ _ _ _ _
      refine W.region ?_
      refine WL.val (Value.int .i64 (k15 : Int)) _ (op_move hf28) rfl ?_
      refine WL.val (Value.int .i64 (w64 ((k15 : Int) + (1 : Int)))) _ (op_add rfl rfl) rfl ?_
      refine WL.val (Value.int .i64 (w64 ((k15 : Int) + (1 : Int)))) _ (op_assign rfl) rfl ?_
      refine WL.nil ?_
      obtain rfl := Option.some.inj hb21
      show ∃ s, _ = Ctl.next s ∧ _
      exact ⟨_, rfl, u47, hf26, rfl, (ctr_next hl32 hr31), (ctr_rng hl32 hr31), (St.pick hS49 [0] rfl)⟩
    · intro x57 f52 wd53 hs54 hI55
      replace hI55 : ∃ (uu0 : Value), f52 1 = (Value.pointer (some ⟨b1, 0, none⟩)) ∧ f52 3 = uu0 ∧ f52 4 = Value.int .i64 (((r_Table).length : Nat) : Int) ∧ InR .i64 (((r_Table).length : Nat) : Int) ∧ St wd2 wd53 [(Ty.sl (Ty.i .i64)).at uu0 x57] := hI55
      obtain ⟨u58, hf59, hf60, hf61, hr62, hS63⟩ := hI55
      refine W.seq (W.seq (W.region ?_))
      refine WL.val (Value.int .i64 (((r_Table).length : Nat) : Int)) _ (op_move hf61) rfl ?_
      refine WL.val (Value.pointer (some ⟨b1, 0, none⟩)) _ (op_fieldAddr fd_29_0 hf59) rfl ?_
      refine WL.val v_r_Table _ (op_load one_22 rfl (BoxAt.cell (BoxAt.lift hS63.ext hx6) rfl)) rfl ?_
      have hr64 := inR_len (Ty.lift _ (Ext.trans hE7 hS63.ext) r_r_Table)
      refine WL.val (Value.int .i64 ((r_Table).length : Int)) _ (op_lenL sl_22 (Ty.lift _ (Ext.trans hE7 hS63.ext) r_r_Table) rfl) rfl ?_
      refine WL.val (Value.bool (decide ((((r_Table).length : Nat) : Int) < ((r_Table).length : Int)))) _ (op_lss rfl rfl) rfl ?_
      have hl65 : ¬ (((r_Table).length : Nat) : Int) < ((r_Table).length : Int) := by omega
      refine WL.nil ?_
      refine W.condF (decide ((((r_Table).length : Nat) : Int) < ((r_Table).length : Int))) rfl (decide_eq_false hl65) ?_
      refine W.exit ?_
      show _ = _ ∧ _
      exact ⟨rfl, _, hs54, u58, hf60, hS63⟩
  · rintro f66 wd67 ⟨x70, rfl, hq68⟩
    replace h := onRes_fin h
    replace hq68 : ∃ (uu0 : Value), f66 3 = uu0 ∧ St wd2 wd67 [(Ty.sl (Ty.i .i64)).at uu0 x70] := hq68
    obtain ⟨u71, hf72, hS73⟩ := hq68
    refine W.seq (W.region ?_)
    refine WL.val u71 _ (op_move hf72) rfl ?_
    refine WL.val u71 _ (op_assign rfl) rfl ?_
    refine WL.nil ?_
    refine W.ret ?_
    obtain rfl := Option.some.inj h
    show FinP _ _ _ _ _ _ _
    exact FinP.ret _ (res1 rfl rfl) ⟨u71, rfl, (Ext.trans hE7 hS73.ext), (St.out (St.pick hS73 [0] rfl) (hE7))⟩

theorem c_spec_l08Pair {w : World} {x : (List Int)} {v_x : Value} {y : (List Int)} {v_y : Value} {duals : (List Int)} {v_duals : Value} (r_x : (Ty.sl (Ty.i .i64)).rep w v_x x) (r_y : (Ty.sl (Ty.i .i64)).rep w v_y y) (r_duals : (Ty.sl (Ty.i .i64)).rep w v_duals duals) {res : Int} (h : p_spec_l08Pair x y duals  = some res) :
    Ret Try.prog 49 #[v_x, v_y, v_duals] w (fun v w' => v = Value.int .i64 res ∧ InR .i64 res ∧ Ext w w') := by
  unfold p_spec_l08Pair at h
  have hS0 : St w w [] := St.start w
  refine Ret.start (fn := Try.f49) Try.func49 rfl 31 rfl rfl ?_
  refine W.seq (W.region ?_)
  refine WL.val (Value.int .i64 (0 : Int)) _ (op_assign rfl) rfl ?_
  refine WL.nil ?_
  refine W.seq (W.region ?_)
  refine WL.val (Value.int .i64 (0 : Int)) _ (op_assign rfl) rfl ?_
  refine WL.nil ?_
  refine W.seq (W.seq (W.region ?_))
  refine WL.val (Value.int .i64 (0 : Int)) _ (op_assign rfl) rfl ?_
  refine WL.nil ?_
  show W _ _ _ _ _ _
  obtain ⟨res1, hres2, h⟩ := bs h
  refine W.blockLoop (fun fq wq => ∃ s, res1 = Res.fin s ∧ fq 7 = Value.int .i64 s ∧ InR .i64 s ∧ St w wq []) ?_ ?_
  · refine W.forN (fun k (s : Int) fq wq => fq 0 = v_x ∧ fq 1 = v_y ∧ fq 2 = v_duals ∧ fq 7 = Value.int .i64 s ∧ InR .i64 s ∧ fq 8 = Value.int .i64 (k : Int) ∧ InR .i64 (k : Int) ∧ St w wq []) hres2 ⟨rfl, rfl, rfl, rfl, (inL rfl), rfl, (inL rfl), hS0⟩ ?_ ?_
    · intro k3 x4 ct5 f6 wd7 hk8 hb9 hI10 hbrk11 hret12
      replace hI10 : f6 0 = v_x ∧ f6 1 = v_y ∧ f6 2 = v_duals ∧ f6 7 = Value.int .i64 x4 ∧ InR .i64 x4 ∧ f6 8 = Value.int .i64 (k3 : Int) ∧ InR .i64 (k3 : Int) ∧ St w wd7 [] := hI10
      replace hb9 : p_spec_l08Pair_L1 x duals y k3 x4 = some ct5 := hb9
      unfold p_spec_l08Pair_L1 at hb9
      obtain ⟨hf13, hf14, hf15, hf16, hr17, hf18, hr19, hS20⟩ := hI10
      refine W.seq (W.seq (W.region ?_))
      refine WL.val (Value.int .i64 (k3 : Int)) _ (op_move hf18) rfl ?_
      refine WL.val v_x _ (op_move hf13) rfl ?_
      have hr21 := inR_len (Ty.lift _ hS20.ext r_x)
      refine WL.val (Value.int .i64 ((x).length : Int)) _ (op_lenL sl_25 (Ty.lift _ hS20.ext r_x) rfl) rfl ?_
      refine WL.val (Value.bool (decide ((k3 : Int) < ((x).length : Int)))) _ (op_lss rfl rfl) rfl ?_
      have hl22 : (k3 : Int) < ((x).length : Int) := by omega
      refine WL.nil ?_
      refine W.condT (decide ((k3 : Int) < ((x).length : Int))) rfl (decide_eq_true hl22) ?_
      refine W.skip ?_
      refine W.seq ?_
      refine W.block ?_
      obtain ⟨x60, hx63, hb9⟩ := bs hb9
      obtain ⟨ha61, hb62, hx63⟩ := idx_some hx63
      obtain ⟨u74, hc75, hr76⟩ := repSl.el r_x hx63
      obtain ⟨rfl, hr76⟩ := hr76
      obtain ⟨x113, hx116, hb9⟩ := bs hb9
      obtain ⟨ha114, hb115, hx116⟩ := idx_some hx116
      obtain ⟨u127, hc128, hr129⟩ := repSl.el r_duals hx116
      obtain ⟨rfl, hr129⟩ := hr129
      obtain ⟨x145, hx148, hb9⟩ := bs hb9
      obtain ⟨ha146, hb147, hx148⟩ := idx_some hx148
      obtain ⟨u159, hc160, hr161⟩ := repSl.el r_y hx148
      obtain ⟨rfl, hr161⟩ := hr161
      refine W.drawR mixo 13 [] [fun _ v _ _ => v = (Value.int .i64 x4) ∧ InR .i64 x4, fun _ v _ _ => v = v_x, fun _ v _ _ => v = (Value.int .i64 (k3 : Int)) ∧ InR .i64 (k3 : Int), fun _ v _ _ => v = (Value.pointer (some (elA v_x ((k3 : Int)).toNat))), fun _ v _ _ => v = (Value.int .i64 x60) ∧ InR .i64 x60, fun _ v _ _ => v = v_y, fun _ v _ _ => v = v_duals, fun _ v _ _ => v = (Value.int .i64 (k3 : Int)) ∧ InR .i64 (k3 : Int), fun _ v _ _ => v = (Value.pointer (some (elA v_duals ((k3 : Int)).toNat))), fun _ v _ _ => v = (Value.int .i64 x113) ∧ InR .i64 x113, fun _ v _ _ => v = (Value.pointer (some (elA v_y (x113).toNat))), fun _ v _ _ => v = (Value.int .i64 x145) ∧ InR .i64 x145, fun _ v _ _ => v = (Value.int .i64 (w64 (x60 * x145))) ∧ InR .i64 (w64 (x60 * x145))] (by kernel_rfl) (by kernel_rfl) ⟨pk, pk, pk, pk, pk, pk, pk, pk, pk, pk, pk, pk, pk, trivial⟩ ⟨?_, ?_, ?_, ?_, ?_, ?_, ?_, ?_, ?_, ?_, ?_, ?_, ?_, trivial⟩ ?_
      · refine ObX.op rfl fun f24 wd25 he26 hout27 hphi28 => ?_
        have e30 : f24 7 = (Value.int .i64 x4) := (hout27 7 rfl).trans hf16
        exact OpX.val (Value.int .i64 x4) wd25 rfl (op_move e30) (Ext.refl _) ⟨rfl, hr17⟩
      · refine ObX.op rfl fun f31 wd32 he33 hout34 hphi35 => ?_
        have e37 : f31 0 = v_x := (hout34 0 rfl).trans hf13
        exact OpX.val v_x wd32 rfl (op_move e37) (Ext.refl _) rfl
      · refine ObX.op rfl fun f38 wd39 he40 hout41 hphi42 => ?_
        have e44 : f38 8 = (Value.int .i64 (k3 : Int)) := (hout41 8 rfl).trans hf18
        exact OpX.val (Value.int .i64 (k3 : Int)) wd39 rfl (op_move e44) (Ext.refl _) ⟨rfl, hr19⟩
      · refine ObX.op rfl fun f45 wd46 he47 hout48 hphi49 => ?_
        have hS50 := St.extend hS20 he47
        obtain ⟨S51, hS52, hf53⟩ := hphi49 1 16 _ rfl rfl rfl
        have e54 : f45 16 = v_x := hf53
        obtain ⟨S55, hS56, hf57⟩ := hphi49 2 17 _ rfl rfl rfl
        obtain ⟨e58, hr59⟩ := hf57
        exact OpX.val (Value.pointer (some (elA v_x ((k3 : Int)).toNat))) wd46 rfl (op_idx sl_25 (Ty.lift _ hS50.ext r_x) e54 e58 ha61 hb62) (Ext.refl _) rfl
      · refine ObX.op rfl fun f64 wd65 he66 hout67 hphi68 => ?_
        have hS69 := St.extend hS20 he66
        obtain ⟨S70, hS71, hf72⟩ := hphi68 3 18 _ rfl rfl rfl
        have e73 : f64 18 = (Value.pointer (some (elA v_x ((k3 : Int)).toNat))) := hf72
        exact OpX.val (Value.int .i64 x60) wd65 rfl (op_load one_2 e73 (Ext.cell hS69.ext hc75)) (Ext.refl _) ⟨rfl, hr76⟩
      · refine ObX.op rfl fun f77 wd78 he79 hout80 hphi81 => ?_
        have e83 : f77 1 = v_y := (hout80 1 rfl).trans hf14
        exact OpX.val v_y wd78 rfl (op_move e83) (Ext.refl _) rfl
      · refine ObX.op rfl fun f84 wd85 he86 hout87 hphi88 => ?_
        have e90 : f84 2 = v_duals := (hout87 2 rfl).trans hf15
        exact OpX.val v_duals wd85 rfl (op_move e90) (Ext.refl _) rfl
      · refine ObX.op rfl fun f91 wd92 he93 hout94 hphi95 => ?_
        have e97 : f91 8 = (Value.int .i64 (k3 : Int)) := (hout94 8 rfl).trans hf18
        exact OpX.val (Value.int .i64 (k3 : Int)) wd92 rfl (op_move e97) (Ext.refl _) ⟨rfl, hr19⟩
      · refine ObX.op rfl fun f98 wd99 he100 hout101 hphi102 => ?_
        have hS103 := St.extend hS20 he100
        obtain ⟨S104, hS105, hf106⟩ := hphi102 6 21 _ rfl rfl rfl
        have e107 : f98 21 = v_duals := hf106
        obtain ⟨S108, hS109, hf110⟩ := hphi102 7 22 _ rfl rfl rfl
        obtain ⟨e111, hr112⟩ := hf110
        exact OpX.val (Value.pointer (some (elA v_duals ((k3 : Int)).toNat))) wd99 rfl (op_idx sl_25 (Ty.lift _ hS103.ext r_duals) e107 e111 ha114 hb115) (Ext.refl _) rfl
      · refine ObX.op rfl fun f117 wd118 he119 hout120 hphi121 => ?_
        have hS122 := St.extend hS20 he119
        obtain ⟨S123, hS124, hf125⟩ := hphi121 8 23 _ rfl rfl rfl
        have e126 : f117 23 = (Value.pointer (some (elA v_duals ((k3 : Int)).toNat))) := hf125
        exact OpX.val (Value.int .i64 x113) wd118 rfl (op_load one_2 e126 (Ext.cell hS122.ext hc128)) (Ext.refl _) ⟨rfl, hr129⟩
      · refine ObX.op rfl fun f130 wd131 he132 hout133 hphi134 => ?_
        have hS135 := St.extend hS20 he132
        obtain ⟨S136, hS137, hf138⟩ := hphi134 5 20 _ rfl rfl rfl
        have e139 : f130 20 = v_y := hf138
        obtain ⟨S140, hS141, hf142⟩ := hphi134 9 24 _ rfl rfl rfl
        obtain ⟨e143, hr144⟩ := hf142
        exact OpX.val (Value.pointer (some (elA v_y (x113).toNat))) wd131 rfl (op_idx sl_25 (Ty.lift _ hS135.ext r_y) e139 e143 ha146 hb147) (Ext.refl _) rfl
      · refine ObX.op rfl fun f149 wd150 he151 hout152 hphi153 => ?_
        have hS154 := St.extend hS20 he151
        obtain ⟨S155, hS156, hf157⟩ := hphi153 10 25 _ rfl rfl rfl
        have e158 : f149 25 = (Value.pointer (some (elA v_y (x113).toNat))) := hf157
        exact OpX.val (Value.int .i64 x145) wd150 rfl (op_load one_2 e158 (Ext.cell hS154.ext hc160)) (Ext.refl _) ⟨rfl, hr161⟩
      · refine ObX.op rfl fun f162 wd163 he164 hout165 hphi166 => ?_
        obtain ⟨S168, hS169, hf170⟩ := hphi166 4 19 _ rfl rfl rfl
        obtain ⟨e171, hr172⟩ := hf170
        obtain ⟨S173, hS174, hf175⟩ := hphi166 11 26 _ rfl rfl rfl
        obtain ⟨e176, hr177⟩ := hf175
        exact OpX.val (Value.int .i64 (w64 (x60 * x145))) wd163 rfl (op_mul e171 e176) (Ext.refl _) ⟨rfl, (inR_wrap _ _)⟩
      · intro f178 wd179 Ss180 he181 hout182 hSn183 hSd184 hphi185
        show WL _ _ _ _ _ _ _
        have hS186 := St.extend hS20 he181
        obtain ⟨e187, hr188⟩ := hphi185 0 15 _ (by decide) rfl rfl
        obtain ⟨e189, hr190⟩ := hphi185 12 27 _ (by decide) rfl rfl
        have e191 : f178 0 = v_x := (hout182 0 rfl).trans hf13
        have e192 : f178 1 = v_y := (hout182 1 rfl).trans hf14
        have e193 : f178 2 = v_duals := (hout182 2 rfl).trans hf15
        have e194 : f178 8 = (Value.int .i64 (k3 : Int)) := (hout182 8 rfl).trans hf18
        refine WL.val (Value.int .i64 (w64 (x4 + (w64 (x60 * x145))))) _ (op_add e187 e189) rfl ?_
        refine WL.val (Value.int .i64 (((w64 (x4 + (w64 (x60 * x145))))).tmod (55441 : Int))) _ (op_rem (b := 55441) rfl rfl (by decide)) rfl ?_
        refine WL.val (Value.int .i64 (((w64 (x4 + (w64 (x60 * x145))))).tmod (55441 : Int))) _ (op_assign rfl) rfl ?_
        refine WL.nil ?_
        show W _ _ _ _ _ _
        refine W.region ?_
        refine WL.val (Value.int .i64 (k3 : Int)) _ (op_move e194) rfl ?_
        refine WL.val (Value.int .i64 (w64 ((k3 : Int) + (1 : Int)))) _ (op_add rfl rfl) rfl ?_
        refine WL.val (Value.int .i64 (w64 ((k3 : Int) + (1 : Int)))) _ (op_assign rfl) rfl ?_
        refine WL.nil ?_
        obtain rfl := Option.some.inj hb9
        show ∃ s, _ = Ctl.next s ∧ _
        exact ⟨_, rfl, e191, e192, e193, rfl, (inR_tmod (inR_wrap _ _)), (ctr_next hl22 hr21), (ctr_rng hl22 hr21), hS186⟩
    · intro x201 f196 wd197 hs198 hI199
      replace hI199 : f196 0 = v_x ∧ f196 1 = v_y ∧ f196 2 = v_duals ∧ f196 7 = Value.int .i64 x201 ∧ InR .i64 x201 ∧ f196 8 = Value.int .i64 (((x).length : Nat) : Int) ∧ InR .i64 (((x).length : Nat) : Int) ∧ St w wd197 [] := hI199
      obtain ⟨hf202, hf203, hf204, hf205, hr206, hf207, hr208, hS209⟩ := hI199
      refine W.seq (W.seq (W.region ?_))
      refine WL.val (Value.int .i64 (((x).length : Nat) : Int)) _ (op_move hf207) rfl ?_
      refine WL.val v_x _ (op_move hf202) rfl ?_
      have hr210 := inR_len (Ty.lift _ hS209.ext r_x)
      refine WL.val (Value.int .i64 ((x).length : Int)) _ (op_lenL sl_25 (Ty.lift _ hS209.ext r_x) rfl) rfl ?_
      refine WL.val (Value.bool (decide ((((x).length : Nat) : Int) < ((x).length : Int)))) _ (op_lss rfl rfl) rfl ?_
      have hl211 : ¬ (((x).length : Nat) : Int) < ((x).length : Int) := by omega
      refine WL.nil ?_
      refine W.condF (decide ((((x).length : Nat) : Int) < ((x).length : Int))) rfl (decide_eq_false hl211) ?_
      refine W.exit ?_
      show _ = _ ∧ _
      exact ⟨rfl, _, hs198, hf205, hr206, hS209⟩
  · rintro f212 wd213 ⟨x216, rfl, hq214⟩
    replace h := onRes_fin h
    replace hq214 : f212 7 = Value.int .i64 x216 ∧ InR .i64 x216 ∧ St w wd213 [] := hq214
    obtain ⟨hf217, hr218, hS219⟩ := hq214
    refine W.seq (W.region ?_)
    refine WL.val (Value.int .i64 x216) _ (op_move hf217) rfl ?_
    refine WL.val (Value.int .i64 x216) _ (op_assign rfl) rfl ?_
    refine WL.nil ?_
    refine W.ret ?_
    obtain rfl := Option.some.inj h
    show FinP _ _ _ _ _ _ _
    exact FinP.ret _ (res1 rfl rfl) ⟨rfl, hr218, hS219.ext⟩

theorem c_impl_turnList {w : World} {dual : (List Int)} {v_dual : Value} {x : (List Int)} {v_x : Value} (r_dual : (Ty.sl (Ty.i .i64)).rep w v_dual dual) (r_x : (Ty.sl (Ty.i .i64)).rep w v_x x) {res : (List Int)} (h : p_impl_turnList dual x  = some res) :
    Ret Try.prog 53 #[v_dual, v_x] w (fun v w' => ∃ (u0 : Value), v = u0 ∧ Ext w w' ∧ Sep w.heap.size w' [(Ty.sl (Ty.i .i64)).at u0 res]) := by
  unfold p_impl_turnList at h
  have hS0 : St w w [] := St.start w
  refine Ret.start (fn := Try.f53) Try.func53 rfl 24 rfl rfl ?_
  refine W.seq (W.region ?_)
  refine WL.val (Value.slice none 0 0) _ (op_assign rfl) rfl ?_
  refine WL.nil ?_
  refine W.seq (W.region ?_)
  refine WL.lit0 (t := (Ty.i .i64)) hS0 sl_25 rfl rfl ?_
  intro u1 wd2 hS3 he4
  replace hS3 : St w wd2 [(Ty.sl (Ty.i .i64)).at u1 ([] : (List Int))] := hS3
  refine WL.val u1 _ (op_assign rfl) rfl ?_
  refine WL.nil ?_
  refine W.seq (W.seq (W.region ?_))
  refine WL.val v_dual _ (op_move rfl) rfl ?_
  have hr5 := inR_len (Ty.lift _ hS3.ext r_dual)
  refine WL.val (Value.int .i64 ((dual).length : Int)) _ (op_lenL sl_64 (Ty.lift _ hS3.ext r_dual) rfl) rfl ?_
  refine WL.val (Value.int .i64 (0 : Int)) _ (op_move rfl) rfl ?_
  refine WL.nil ?_
  show W _ _ _ _ _ _
  obtain ⟨res6, hres7, h⟩ := bs h
  refine W.blockLoop (fun fq wq => ∃ s, res6 = Res.fin s ∧ ∃ (uu0 : Value), fq 5 = uu0 ∧ St w wq [(Ty.sl (Ty.i .i64)).at uu0 s]) ?_ ?_
  · refine W.forN (fun k (s : (List Int)) fq wq => ∃ (uu0 : Value), fq 1 = v_x ∧ fq 5 = uu0 ∧ fq 9 = v_dual ∧ fq 10 = (Value.int .i64 ((dual).length : Int)) ∧ fq 11 = Value.int .i64 (k : Int) ∧ InR .i64 (k : Int) ∧ St w wq [(Ty.sl (Ty.i .i64)).at uu0 s]) hres7 ⟨u1, rfl, rfl, rfl, rfl, rfl, (inL rfl), hS3⟩ ?_ ?_
    · intro k8 x9 ct10 f11 wd12 hk13 hb14 hI15 hbrk16 hret17
      replace hI15 : ∃ (uu0 : Value), f11 1 = v_x ∧ f11 5 = uu0 ∧ f11 9 = v_dual ∧ f11 10 = (Value.int .i64 ((dual).length : Int)) ∧ f11 11 = Value.int .i64 (k8 : Int) ∧ InR .i64 (k8 : Int) ∧ St w wd12 [(Ty.sl (Ty.i .i64)).at uu0 x9] := hI15
      replace hb14 : p_impl_turnList_L1 dual x k8 x9 = some ct10 := hb14
      unfold p_impl_turnList_L1 at hb14
      obtain ⟨u18, hf19, hf20, hf21, hf22, hf23, hr24, hS25⟩ := hI15
      refine W.seq (W.region ?_)
      refine WL.val (Value.bool (decide ((k8 : Int) < ((dual).length : Int)))) _ (op_lss hf23 hf22) rfl ?_
      have hl26 : (k8 : Int) < ((dual).length : Int) := by omega
      refine WL.nil ?_
      refine W.seq ?_
      refine W.condT (decide ((k8 : Int) < ((dual).length : Int))) rfl (decide_eq_true hl26) ?_
      refine W.skip ?_
      refine W.seq ?_
      refine W.block ?_
      refine W.seq (W.region ?_)
      obtain ⟨x28, hx31, hb14⟩ := bs hb14
      obtain ⟨ha29, hb30, hx31⟩ := idx_some hx31
      refine WL.val (Value.pointer (some (elA v_dual ((k8 : Int)).toNat))) _ (op_idx sl_64 (Ty.lift _ hS25.ext r_dual) hf21 hf23 ha29 hb30) rfl ?_
      obtain ⟨u32, hc33, hr34⟩ := repSl.el r_dual hx31
      obtain ⟨rfl, hr34⟩ := hr34
      refine WL.val (Value.int .i64 x28) _ (op_load one_3 rfl (Ext.cell hS25.ext hc33)) rfl ?_
      refine WL.val (Value.int .i64 x28) _ (op_assign rfl) rfl ?_
      refine WL.nil ?_
      show W _ _ _ _ _ _
      refine W.region ?_
      refine WL.val u18 _ (op_move hf20) rfl ?_
      refine WL.val v_x _ (op_move hf19) rfl ?_
      refine WL.val (Value.int .i64 x28) _ (op_move rfl) rfl ?_
      obtain ⟨x35, hx38, hb14⟩ := bs hb14
      obtain ⟨ha36, hb37, hx38⟩ := idx_some hx38
      refine WL.val (Value.pointer (some (elA v_x (x28).toNat))) _ (op_idx sl_25 (Ty.lift _ hS25.ext r_x) rfl rfl ha36 hb37) rfl ?_
      obtain ⟨u39, hc40, hr41⟩ := repSl.el r_x hx38
      obtain ⟨rfl, hr41⟩ := hr41
      refine WL.val (Value.int .i64 x35) _ (op_load one_2 rfl (Ext.cell hS25.ext hc40)) rfl ?_
      refine WL.litFlat (t := (Ty.i .i64)) (flat_i .i64) [(Value.int .i64 x35)] [x35] hS25 sl_25 rfl rfl (fillL rfl ⟨rfl, rfl, rfl, trivial⟩) rfl rfl (litL ⟨⟨rfl, hr41⟩, trivial⟩) rfl ?_
      intro u42 wd43 hS44 he45
      replace hS44 : St w wd43 [(Ty.sl (Ty.i .i64)).at u18 x9, (Ty.sl (Ty.i .i64)).at u42 ([x35] : (List Int))] := hS44
      obtain ⟨x46, hx47, hb14⟩ := bs hb14
      refine WL.append (flat_i .i64) hS44 (k := 0) rfl sl_25 rfl rfl rfl rfl (St.rep (t := (Ty.sl (Ty.i .i64))) hS44 1 rfl) hx47 rfl ?_
      intro u48 wd49 hS50 hz51
      replace hS50 : St w wd49 [(Ty.sl (Ty.i .i64)).at u48 x46, (Ty.sl (Ty.i .i64)).at u42 ([x35] : (List Int))] := hS50
      refine WL.val u48 _ (op_assign rfl) rfl ?_
      refine WL.nil ?_
      show W _ _ _ _ _ _
      refine W.region ?_
      refine WL.val (Value.int .i64 (w64 ((k8 : Int) + (1 : Int)))) _ (op_add hf23 rfl) rfl ?_
      refine WL.val (Value.int .i64 (w64 ((k8 : Int) + (1 : Int)))) _ (op_move rfl) rfl ?_
      refine WL.nil ?_
      obtain rfl := Option.some.inj hb14
      show ∃ s, _ = Ctl.next s ∧ _
      exact ⟨_, rfl, u48, hf19, rfl, hf21, hf22, (ctr_next hl26 hr5), (ctr_rng hl26 hr5), (St.pick hS50 [0] rfl)⟩
    · intro x58 f53 wd54 hs55 hI56
      replace hI56 : ∃ (uu0 : Value), f53 1 = v_x ∧ f53 5 = uu0 ∧ f53 9 = v_dual ∧ f53 10 = (Value.int .i64 ((dual).length : Int)) ∧ f53 11 = Value.int .i64 (((dual).length : Nat) : Int) ∧ InR .i64 (((dual).length : Nat) : Int) ∧ St w wd54 [(Ty.sl (Ty.i .i64)).at uu0 x58] := hI56
      obtain ⟨u59, hf60, hf61, hf62, hf63, hf64, hr65, hS66⟩ := hI56
      refine W.seq (W.region ?_)
      refine WL.val (Value.bool (decide ((((dual).length : Nat) : Int) < ((dual).length : Int)))) _ (op_lss hf64 hf63) rfl ?_
      have hl67 : ¬ (((dual).length : Nat) : Int) < ((dual).length : Int) := by omega
      refine WL.nil ?_
      refine W.seq ?_
      refine W.condF (decide ((((dual).length : Nat) : Int) < ((dual).length : Int))) rfl (decide_eq_false hl67) ?_
      refine W.exit ?_
      show _ = _ ∧ _
      exact ⟨rfl, _, hs55, u59, hf61, hS66⟩
  · rintro f68 wd69 ⟨x72, rfl, hq70⟩
    replace h := onRes_fin h
    replace hq70 : ∃ (uu0 : Value), f68 5 = uu0 ∧ St w wd69 [(Ty.sl (Ty.i .i64)).at uu0 x72] := hq70
    obtain ⟨u73, hf74, hS75⟩ := hq70
    refine W.seq (W.region ?_)
    refine WL.val u73 _ (op_move hf74) rfl ?_
    refine WL.val u73 _ (op_assign rfl) rfl ?_
    refine WL.nil ?_
    refine W.ret ?_
    obtain rfl := Option.some.inj h
    show FinP _ _ _ _ _ _ _
    exact FinP.ret _ (res1 rfl rfl) ⟨u73, rfl, hS75.ext, (St.out (St.pick hS75 [0] rfl) (Ext.refl _))⟩

theorem c_spec_l08Duals {w : World} {n : Int} {duals : (List Int)} {v_duals : Value} (r_n : InR .i64 n) (r_duals : (Ty.sl (Ty.i .i64)).rep w v_duals duals) {res : Bool} (h : p_spec_l08Duals n duals  = some res) :
    Ret Try.prog 56 #[(Value.int .i64 n), v_duals] w (fun v w' => v = Value.bool res ∧ Ext w w') := by
  unfold p_spec_l08Duals at h
  have hS0 : St w w [] := St.start w
  refine Ret.start (fn := Try.f56) Try.func56 rfl 38 rfl rfl ?_
  refine W.seq (W.region ?_)
  refine WL.val (Value.bool false) _ (op_assign rfl) rfl ?_
  refine WL.nil ?_
  refine W.seq (W.seq (W.region ?_))
  refine WL.val v_duals _ (op_move rfl) rfl ?_
  have hr1 := inR_len (Ty.lift _ hS0.ext r_duals)
  refine WL.val (Value.int .i64 ((duals).length : Int)) _ (op_lenL sl_25 (Ty.lift _ hS0.ext r_duals) rfl) rfl ?_
  refine WL.val (Value.int .i64 n) _ (op_move rfl) rfl ?_
  refine WL.val (Value.bool (((duals).length : Int) != n)) _ (op_neq rfl rfl) rfl ?_
  refine WL.nil ?_
  refine W.cond (((duals).length : Int) != n) rfl (fun hc2 => ?_) (fun hc2 => ?_)
  · replace h := ip h hc2
    refine W.seq (W.region ?_)
    refine WL.val (Value.bool false) _ (op_assign rfl) rfl ?_
    refine WL.nil ?_
    refine W.ret ?_
    obtain rfl := Option.some.inj h
    show FinP _ _ _ _ _ _ _
    exact FinP.ret _ (res1 rfl rfl) ⟨rfl, hS0.ext⟩
  · replace h := inegb h hc2
    refine W.skip ?_
    refine W.seq (W.seq (W.region ?_))
    refine WL.val (Value.int .i64 (0 : Int)) _ (op_assign rfl) rfl ?_
    refine WL.nil ?_
    show W _ _ _ _ _ _
    obtain ⟨res4, hres5, h⟩ := bs h
    refine W.blockLoop (fun fq wq => ∃ s, res4 = Res.fin s ∧ fq 0 = (Value.int .i64 n) ∧ fq 1 = v_duals ∧ St w wq []) ?_ ?_
    · refine W.forN (fun k (s : Unit) fq wq => fq 0 = (Value.int .i64 n) ∧ fq 1 = v_duals ∧ fq 5 = Value.int .i64 (k : Int) ∧ InR .i64 (k : Int) ∧ St w wq []) hres5 ⟨rfl, rfl, rfl, (inL rfl), hS0⟩ ?_ ?_
      · intro k6 s37 ct7 f8 wd9 hk10 hb11 hI12 hbrk13 hret14
        obtain ⟨⟩ := s37
        replace hI12 : f8 0 = (Value.int .i64 n) ∧ f8 1 = v_duals ∧ f8 5 = Value.int .i64 (k6 : Int) ∧ InR .i64 (k6 : Int) ∧ St w wd9 [] := hI12
        replace hb11 : p_spec_l08Duals_L1 duals n k6  = some ct7 := hb11
        unfold p_spec_l08Duals_L1 at hb11
        obtain ⟨hf15, hf16, hf17, hr18, hS19⟩ := hI12
        refine W.seq (W.seq (W.region ?_))
        refine WL.val (Value.int .i64 (k6 : Int)) _ (op_move hf17) rfl ?_
        refine WL.val (Value.int .i64 n) _ (op_move hf15) rfl ?_
        refine WL.val (Value.bool (decide ((k6 : Int) < n))) _ (op_lss rfl rfl) rfl ?_
        have hl20 : (k6 : Int) < n := by omega
        refine WL.nil ?_
        refine W.condT (decide ((k6 : Int) < n)) rfl (decide_eq_true hl20) ?_
        refine W.skip ?_
        refine W.seq ?_
        refine W.block ?_
        refine W.seq (W.region ?_)
        refine WL.val v_duals _ (op_move hf16) rfl ?_
        refine WL.val (Value.int .i64 (k6 : Int)) _ (op_move hf17) rfl ?_
        obtain ⟨x22, hx25, hb11⟩ := bs hb11
        obtain ⟨ha23, hb24, hx25⟩ := idx_some hx25
        refine WL.val (Value.pointer (some (elA v_duals ((k6 : Int)).toNat))) _ (op_idx sl_25 (Ty.lift _ hS19.ext r_duals) rfl rfl ha23 hb24) rfl ?_
        obtain ⟨u26, hc27, hr28⟩ := repSl.el r_duals hx25
        obtain ⟨rfl, hr28⟩ := hr28
        refine WL.val (Value.int .i64 x22) _ (op_load one_2 rfl (Ext.cell hS19.ext hc27)) rfl ?_
        refine WL.val (Value.int .i64 n) _ (op_move hf15) rfl ?_
        refine WL.val (Value.int .i64 (w64 (n - (1 : Int)))) _ (op_sub rfl rfl) rfl ?_
        obtain ⟨x29, hx30, hb11⟩ := bs hb11
        refine WL.call _ (op_call fn_79 (args3 rfl rfl rfl)) (c_spec_l01In hr28 (inL rfl) (inR_wrap _ _) hx30) rfl ?_
        rintro _ wd31 ⟨rfl, he32⟩
        have hS34 := St.extend hS19 he32
        replace hS34 : St w wd31 [] := hS34
        refine WL.val (Value.bool (!x29)) _ (op_not rfl) rfl ?_
        refine WL.nil ?_
        refine W.cond (!x29) rfl (fun hc35 => ?_) (fun hc35 => ?_)
        · replace hb11 := ip hb11 hc35
          refine W.seq (W.region ?_)
          refine WL.val (Value.bool false) _ (op_assign rfl) rfl ?_
          refine WL.nil ?_
          refine W.ret ?_
          obtain rfl := Option.some.inj hb11
          obtain rfl := hret14 _ rfl
          replace h := onRes_ret h
          obtain rfl := Option.some.inj h
          show FinP _ _ _ _ _ _ _
          exact FinP.ret _ (res1 rfl rfl) ⟨rfl, hS34.ext⟩
        · replace hb11 := inegb hb11 hc35
          refine W.skip ?_
          show W _ _ _ _ _ _
          refine W.region ?_
          refine WL.val (Value.int .i64 (k6 : Int)) _ (op_move hf17) rfl ?_
          refine WL.val (Value.int .i64 (w64 ((k6 : Int) + (1 : Int)))) _ (op_add rfl rfl) rfl ?_
          refine WL.val (Value.int .i64 (w64 ((k6 : Int) + (1 : Int)))) _ (op_assign rfl) rfl ?_
          refine WL.nil ?_
          obtain rfl := Option.some.inj hb11
          show ∃ s, _ = Ctl.next s ∧ _
          exact ⟨_, rfl, hf15, hf16, (ctr_next hl20 r_n), (ctr_rng hl20 r_n), hS34⟩
      · intro s42 f38 wd39 hs40 hI41
        obtain ⟨⟩ := s42
        replace hI41 : f38 0 = (Value.int .i64 n) ∧ f38 1 = v_duals ∧ f38 5 = Value.int .i64 (((n).toNat : Nat) : Int) ∧ InR .i64 (((n).toNat : Nat) : Int) ∧ St w wd39 [] := hI41
        obtain ⟨hf43, hf44, hf45, hr46, hS47⟩ := hI41
        refine W.seq (W.seq (W.region ?_))
        refine WL.val (Value.int .i64 (((n).toNat : Nat) : Int)) _ (op_move hf45) rfl ?_
        refine WL.val (Value.int .i64 n) _ (op_move hf43) rfl ?_
        refine WL.val (Value.bool (decide ((((n).toNat : Nat) : Int) < n))) _ (op_lss rfl rfl) rfl ?_
        have hl48 : ¬ (((n).toNat : Nat) : Int) < n := by omega
        refine WL.nil ?_
        refine W.condF (decide ((((n).toNat : Nat) : Int) < n)) rfl (decide_eq_false hl48) ?_
        refine W.exit ?_
        show _ = _ ∧ _
        exact ⟨rfl, _, hs40, hf43, hf44, hS47⟩
    · rintro f49 wd50 ⟨s52, rfl, hq51⟩
      replace h := onRes_fin h
      obtain ⟨⟩ := s52
      replace hq51 : f49 0 = (Value.int .i64 n) ∧ f49 1 = v_duals ∧ St w wd50 [] := hq51
      obtain ⟨hf53, hf54, hS55⟩ := hq51
      refine W.seq (W.seq (W.region ?_))
      refine WL.val (Value.int .i64 (0 : Int)) _ (op_assign rfl) rfl ?_
      refine WL.nil ?_
      show W _ _ _ _ _ _
      obtain ⟨res56, hres57, h⟩ := bs h
      refine W.blockLoop (fun fq wq => ∃ s, res56 = Res.fin s ∧ St w wq []) ?_ ?_
      · refine W.forN (fun k (s : Unit) fq wq => fq 0 = (Value.int .i64 n) ∧ fq 1 = v_duals ∧ fq 6 = Value.int .i64 (k : Int) ∧ InR .i64 (k : Int) ∧ St w wq []) hres57 ⟨hf53, hf54, rfl, (inL rfl), hS55⟩ ?_ ?_
        · intro k58 s90 ct59 f60 wd61 hk62 hb63 hI64 hbrk65 hret66
          obtain ⟨⟩ := s90
          replace hI64 : f60 0 = (Value.int .i64 n) ∧ f60 1 = v_duals ∧ f60 6 = Value.int .i64 (k58 : Int) ∧ InR .i64 (k58 : Int) ∧ St w wd61 [] := hI64
          replace hb63 : p_spec_l08Duals_L2 duals k58  = some ct59 := hb63
          unfold p_spec_l08Duals_L2 at hb63
          obtain ⟨hf67, hf68, hf69, hr70, hS71⟩ := hI64
          refine W.seq (W.seq (W.region ?_))
          refine WL.val (Value.int .i64 (k58 : Int)) _ (op_move hf69) rfl ?_
          refine WL.val (Value.int .i64 n) _ (op_move hf67) rfl ?_
          refine WL.val (Value.bool (decide ((k58 : Int) < n))) _ (op_lss rfl rfl) rfl ?_
          have hl72 : (k58 : Int) < n := by omega
          refine WL.nil ?_
          refine W.condT (decide ((k58 : Int) < n)) rfl (decide_eq_true hl72) ?_
          refine W.skip ?_
          refine W.seq ?_
          refine W.block ?_
          refine W.seq (W.region ?_)
          refine WL.val v_duals _ (op_move hf68) rfl ?_
          refine WL.val v_duals _ (op_move hf68) rfl ?_
          refine WL.val (Value.int .i64 (k58 : Int)) _ (op_move hf69) rfl ?_
          obtain ⟨x74, hx77, hb63⟩ := bs hb63
          obtain ⟨ha75, hb76, hx77⟩ := idx_some hx77
          refine WL.val (Value.pointer (some (elA v_duals ((k58 : Int)).toNat))) _ (op_idx sl_25 (Ty.lift _ hS71.ext r_duals) rfl rfl ha75 hb76) rfl ?_
          obtain ⟨u78, hc79, hr80⟩ := repSl.el r_duals hx77
          obtain ⟨rfl, hr80⟩ := hr80
          refine WL.val (Value.int .i64 x74) _ (op_load one_2 rfl (Ext.cell hS71.ext hc79)) rfl ?_
          obtain ⟨x81, hx84, hb63⟩ := bs hb63
          obtain ⟨ha82, hb83, hx84⟩ := idx_some hx84
          refine WL.val (Value.pointer (some (elA v_duals (x74).toNat))) _ (op_idx sl_25 (Ty.lift _ hS71.ext r_duals) rfl rfl ha82 hb83) rfl ?_
          obtain ⟨u85, hc86, hr87⟩ := repSl.el r_duals hx84
          obtain ⟨rfl, hr87⟩ := hr87
          refine WL.val (Value.int .i64 x81) _ (op_load one_2 rfl (Ext.cell hS71.ext hc86)) rfl ?_
          refine WL.val (Value.int .i64 (k58 : Int)) _ (op_move hf69) rfl ?_
          refine WL.val (Value.bool (x81 != (k58 : Int))) _ (op_neq rfl rfl) rfl ?_
          refine WL.nil ?_
          refine W.cond (x81 != (k58 : Int)) rfl (fun hc88 => ?_) (fun hc88 => ?_)
          · replace hb63 := ip hb63 hc88
            refine W.seq (W.region ?_)
            refine WL.val (Value.bool false) _ (op_assign rfl) rfl ?_
            refine WL.nil ?_
            refine W.ret ?_
            obtain rfl := Option.some.inj hb63
            obtain rfl := hret66 _ rfl
            replace h := onRes_ret h
            obtain rfl := Option.some.inj h
            show FinP _ _ _ _ _ _ _
            exact FinP.ret _ (res1 rfl rfl) ⟨rfl, hS71.ext⟩
          · replace hb63 := inegb hb63 hc88
            refine W.skip ?_
            show W _ _ _ _ _ _
            refine W.region ?_
            refine WL.val (Value.int .i64 (k58 : Int)) _ (op_move hf69) rfl ?_
            refine WL.val (Value.int .i64 (w64 ((k58 : Int) + (1 : Int)))) _ (op_add rfl rfl) rfl ?_
            refine WL.val (Value.int .i64 (w64 ((k58 : Int) + (1 : Int)))) _ (op_assign rfl) rfl ?_
            refine WL.nil ?_
            obtain rfl := Option.some.inj hb63
            show ∃ s, _ = Ctl.next s ∧ _
            exact ⟨_, rfl, hf67, hf68, (ctr_next hl72 r_n), (ctr_rng hl72 r_n), hS71⟩
        · intro s95 f91 wd92 hs93 hI94
          obtain ⟨⟩ := s95
          replace hI94 : f91 0 = (Value.int .i64 n) ∧ f91 1 = v_duals ∧ f91 6 = Value.int .i64 (((n).toNat : Nat) : Int) ∧ InR .i64 (((n).toNat : Nat) : Int) ∧ St w wd92 [] := hI94
          obtain ⟨hf96, hf97, hf98, hr99, hS100⟩ := hI94
          refine W.seq (W.seq (W.region ?_))
          refine WL.val (Value.int .i64 (((n).toNat : Nat) : Int)) _ (op_move hf98) rfl ?_
          refine WL.val (Value.int .i64 n) _ (op_move hf96) rfl ?_
          refine WL.val (Value.bool (decide ((((n).toNat : Nat) : Int) < n))) _ (op_lss rfl rfl) rfl ?_
          have hl101 : ¬ (((n).toNat : Nat) : Int) < n := by omega
          refine WL.nil ?_
          refine W.condF (decide ((((n).toNat : Nat) : Int) < n)) rfl (decide_eq_false hl101) ?_
          refine W.exit ?_
          show _ = _ ∧ _
          exact ⟨rfl, _, hs93, hS100⟩
      · rintro f102 wd103 ⟨s105, rfl, hq104⟩
        replace h := onRes_fin h
        obtain ⟨⟩ := s105
        replace hq104 : St w wd103 [] := hq104
        have hS106 := hq104
        refine W.seq (W.region ?_)
        refine WL.val (Value.bool true) _ (op_assign rfl) rfl ?_
        refine WL.nil ?_
        refine W.ret ?_
        obtain rfl := Option.some.inj h
        show FinP _ _ _ _ _ _ _
        exact FinP.ret _ (res1 rfl rfl) ⟨rfl, hS106.ext⟩

theorem c_spec_l01Pow {w : World} {a : Int} {k1 : Int} (r_a : InR .i64 a) (r_k1 : InR .i64 k1) {res : Int} (h : p_spec_l01Pow a k1  = some res) :
    Ret Try.prog 98 #[(Value.int .i64 a), (Value.int .i64 k1)] w (fun v w' => v = Value.int .i64 res ∧ InR .i64 res ∧ Ext w w') := by
  unfold p_spec_l01Pow at h
  have hS0 : St w w [] := St.start w
  refine Ret.start (fn := Try.f98) Try.func98 rfl 22 rfl rfl ?_
  refine W.seq (W.region ?_)
  refine WL.val (Value.int .i64 (0 : Int)) _ (op_assign rfl) rfl ?_
  refine WL.nil ?_
  refine W.seq (W.region ?_)
  refine WL.val (Value.int .i64 (1 : Int)) _ (op_assign rfl) rfl ?_
  refine WL.nil ?_
  refine W.seq ?_
  obtain ⟨res1, hres2, h⟩ := bs h
  refine W.blockLoop (fun fq wq => ∃ s, res1 = Res.fin s ∧ fq 5 = Value.int .i64 s.2.2 ∧ InR .i64 s.2.2 ∧ St w wq []) ?_ ?_
  · refine W.whileC (fun (s : Int × Int × Int) fq wq => fq 0 = Value.int .i64 s.1 ∧ InR .i64 s.1 ∧ fq 1 = Value.int .i64 s.2.1 ∧ InR .i64 s.2.1 ∧ fq 5 = Value.int .i64 s.2.2 ∧ InR .i64 s.2.2 ∧ St w wq []) hres2 ⟨rfl, r_a, rfl, r_k1, rfl, (inL rfl), hS0⟩ ?_
    intro s35 ct7 f8 wd9 hb11 hI12 hbrk13 hret14
    obtain ⟨x4, x5, x6⟩ := s35
    replace hI12 : f8 0 = Value.int .i64 x4 ∧ InR .i64 x4 ∧ f8 1 = Value.int .i64 x5 ∧ InR .i64 x5 ∧ f8 5 = Value.int .i64 x6 ∧ InR .i64 x6 ∧ St w wd9 [] := hI12
    replace hb11 : p_spec_l01Pow_L1   x4 x5 x6 = some ct7 := hb11
    unfold p_spec_l01Pow_L1 at hb11
    obtain ⟨hf15, hr16, hf17, hr18, hf19, hr20, hS21⟩ := hI12
    refine W.seq (W.seq (W.region ?_))
    refine WL.val (Value.int .i64 x5) _ (op_move hf17) rfl ?_
    refine WL.val (Value.bool (decide (x5 > (0 : Int)))) _ (op_gtr rfl rfl) rfl ?_
    refine WL.nil ?_
    refine W.cond (decide (x5 > (0 : Int))) rfl (fun hc22 => ?_) (fun hc22 => ?_)
    · replace hb11 := ip hb11 hc22
      refine W.skip ?_
      refine W.seq ?_
      refine W.block ?_
      refine W.seq (W.seq (W.region ?_))
      refine WL.val (Value.int .i64 x5) _ (op_move hf17) rfl ?_
      refine WL.val (Value.int .i64 ((x5).tmod (2 : Int))) _ (op_rem (b := 2) rfl rfl (by decide)) rfl ?_
      refine WL.val (Value.bool (((x5).tmod (2 : Int)) == (1 : Int))) _ (op_eql rfl rfl) rfl ?_
      refine WL.nil ?_
      show W _ _ _ _ _ _
      obtain ⟨x24, hj25, hb11⟩ := bs hb11
      refine W.cutCode (fun fq wq => fq 0 = (Value.int .i64 x4) ∧ fq 1 = (Value.int .i64 x5) ∧ fq 5 = Value.int .i64 x24 ∧ InR .i64 x24 ∧ St w wq []) ?_ ?_
      · refine W.cond (((x5).tmod (2 : Int)) == (1 : Int)) rfl (fun hc26 => ?_) (fun hc26 => ?_)
        · replace hj25 := ip hj25 hc26
          refine W.region ?_
          refine WL.val (Value.int .i64 x6) _ (op_move hf19) rfl ?_
          refine WL.val (Value.int .i64 x4) _ (op_move hf15) rfl ?_
          refine WL.val (Value.int .i64 (w64 (x6 * x4))) _ (op_mul rfl rfl) rfl ?_
          refine WL.val (Value.int .i64 (((w64 (x6 * x4))).tmod (55441 : Int))) _ (op_rem (b := 55441) rfl rfl (by decide)) rfl ?_
          refine WL.val (Value.int .i64 (((w64 (x6 * x4))).tmod (55441 : Int))) _ (op_assign rfl) rfl ?_
          refine WL.nil ?_
          obtain rfl := Option.some.inj hj25
          exact ⟨hf15, hf17, rfl, (inR_tmod (inR_wrap _ _)), hS21⟩
        · replace hj25 := inegb hj25 hc26
          refine W.skip ?_
          obtain rfl := Option.some.inj hj25
          exact ⟨hf15, hf17, hf19, hr20, hS21⟩
      · intro f27 wd28 hq29
        obtain ⟨hf30, hf31, hf32, hr33, hS34⟩ := hq29
        show W _ _ _ _ _ _
        refine W.region ?_
        refine WL.val (Value.int .i64 x4) _ (op_move hf30) rfl ?_
        refine WL.val (Value.int .i64 x4) _ (op_move hf30) rfl ?_
        refine WL.val (Value.int .i64 (w64 (x4 * x4))) _ (op_mul rfl rfl) rfl ?_
        refine WL.val (Value.int .i64 (((w64 (x4 * x4))).tmod (55441 : Int))) _ (op_rem (b := 55441) rfl rfl (by decide)) rfl ?_
        refine WL.val (Value.int .i64 (((w64 (x4 * x4))).tmod (55441 : Int))) _ (op_assign rfl) rfl ?_
        refine WL.nil ?_
        show W _ _ _ _ _ _
        refine W.region ?_
        refine WL.val (Value.int .i64 x5) _ (op_move hf31) rfl ?_
        refine WL.val (Value.int .i64 (w64 ((x5).tdiv (2 : Int)))) _ (op_quo (b := 2) rfl rfl (by decide)) rfl ?_
        refine WL.val (Value.int .i64 (w64 ((x5).tdiv (2 : Int)))) _ (op_assign rfl) rfl ?_
        refine WL.nil ?_
        obtain rfl := Option.some.inj hb11
        show ∃ s, _ = Ctl.next s ∧ _
        exact ⟨_, rfl, rfl, (inR_tmod (inR_wrap _ _)), rfl, (inR_wrap _ _), hf32, hr33, hS34⟩
    · replace hb11 := inegb hb11 hc22
      refine W.exit ?_
      obtain rfl := Option.some.inj hb11
      show _ = _ ∧ _
      exact ⟨rfl, _, hbrk13 _ rfl, hf19, hr20, hS21⟩
  · rintro f36 wd37 ⟨s39, rfl, hq38⟩
    replace h := onRes_fin h
    obtain ⟨x40, x41, x42⟩ := s39
    replace hq38 : f36 5 = Value.int .i64 x42 ∧ InR .i64 x42 ∧ St w wd37 [] := hq38
    replace h : (_ : Option _) = _ := h
    dsimp only at h
    obtain ⟨hf43, hr44, hS45⟩ := hq38
    refine W.seq (W.region ?_)
    refine WL.val (Value.int .i64 x42) _ (op_move hf43) rfl ?_
    refine WL.val (Value.int .i64 x42) _ (op_assign rfl) rfl ?_
    refine WL.nil ?_
    refine W.ret ?_
    obtain rfl := Option.some.inj h
    show FinP _ _ _ _ _ _ _
    exact FinP.ret _ (res1 rfl rfl) ⟨rfl, hr44, hS45.ext⟩

theorem c_spec_l01Inv {w : World} {a : Int} (r_a : InR .i64 a) {res : Int} (h : p_spec_l01Inv a  = some res) :
    Ret Try.prog 81 #[(Value.int .i64 a)] w (fun v w' => v = Value.int .i64 res ∧ InR .i64 res ∧ Ext w w') := by
  unfold p_spec_l01Inv at h
  have hS0 : St w w [] := St.start w
  refine Ret.start (fn := Try.f81) Try.func81 rfl 5 rfl rfl ?_
  refine W.seq (W.region ?_)
  refine WL.val (Value.int .i64 (0 : Int)) _ (op_assign rfl) rfl ?_
  refine WL.nil ?_
  refine W.seq (W.region ?_)
  refine WL.val (Value.int .i64 a) _ (op_move rfl) rfl ?_
  obtain ⟨x1, hx2, h⟩ := bs h
  refine WL.call _ (op_call fn_98 (args2 rfl rfl)) (c_spec_l01Pow r_a (inL rfl) hx2) rfl ?_
  rintro _ wd4 ⟨rfl, hr3, he5⟩
  have hS7 := St.extend hS0 he5
  replace hS7 : St w wd4 [] := hS7
  refine WL.val (Value.int .i64 x1) _ (op_assign rfl) rfl ?_
  refine WL.nil ?_
  refine W.ret ?_
  obtain rfl := Option.some.inj h
  show FinP _ _ _ _ _ _ _
  exact FinP.ret _ (res1 rfl rfl) ⟨rfl, hr3, hS7.ext⟩

theorem c_spec_l08Ring {w : World} {table : (List (List Int))} {v_table : Value} {duals : (List Int)} {v_duals : Value} (r_table : (Ty.sl (Ty.sl (Ty.i .i64))).rep w v_table table) (r_duals : (Ty.sl (Ty.i .i64)).rep w v_duals duals) {res : (List (List (List Int))) × Bool} (h : p_spec_l08Ring table duals  = some res) :
    Ret Try.prog 58 #[v_table, v_duals] w (fun v w' => ∃ (u0 : Value), v = (Value.tuple #[(Value.agg #[u0]), Value.bool res.2]) ∧ Ext w w' ∧ Sep w.heap.size w' [(Ty.sl (Ty.sl (Ty.sl (Ty.i .i64)))).at u0 res.1]) := by
  unfold p_spec_l08Ring at h
  have hS0 : St w w [] := St.start w
  refine Ret.start (fn := Try.f58) Try.func58 rfl 130 rfl rfl ?_
  refine W.seq (W.region ?_)
  refine WL.alloc hS0 ze_29 (cs := [(Value.slice none 0 0)]) rfl rfl ?_
  intro b1 wd2 hS3 he4
  replace hS3 : St w wd2 [bx b1 [(Value.slice none 0 0)]] := hS3
  refine WL.val (Value.bool false) _ (op_assign rfl) rfl ?_
  refine WL.nil ?_
  refine W.seq (W.region ?_)
  refine WL.val v_table _ (op_move rfl) rfl ?_
  have hr5 := inR_len (Ty.lift _ hS3.ext r_table)
  refine WL.val (Value.int .i64 ((table).length : Int)) _ (op_lenL sl_43 (Ty.lift _ hS3.ext r_table) rfl) rfl ?_
  refine WL.lit0 (t := (Ty.i .i64)) hS3 sl_25 rfl rfl ?_
  intro u6 wd7 hS8 he9
  replace hS8 : St w wd7 [bx b1 [(Value.slice none 0 0)], (Ty.sl (Ty.i .i64)).at u6 ([] : (List Int))] := hS8
  refine WL.val (Value.int .i64 ((table).length : Int)) _ (op_assign rfl) rfl ?_
  refine WL.val u6 _ (op_assign rfl) rfl ?_
  refine WL.nil ?_
  refine W.seq (W.seq (W.region ?_))
  refine WL.val (Value.int .i64 (0 : Int)) _ (op_assign rfl) rfl ?_
  refine WL.nil ?_
  show W _ _ _ _ _ _
  obtain ⟨res10, hres11, h⟩ := bs h
  refine W.blockLoop (fun fq wq => ∃ s, res10 = Res.fin s ∧ ∃ (uu0 : Value), fq 0 = v_table ∧ fq 1 = v_duals ∧ fq 4 = (Value.pointer (some ⟨b1, 0, none⟩)) ∧ fq 6 = (Value.int .i64 ((table).length : Int)) ∧ fq 7 = uu0 ∧ St w wq [bx b1 [(Value.slice none 0 0)], (Ty.sl (Ty.i .i64)).at uu0 s]) ?_ ?_
  · refine W.forN (fun k (s : (List Int)) fq wq => ∃ (uu0 : Value), fq 0 = v_table ∧ fq 1 = v_duals ∧ fq 4 = (Value.pointer (some ⟨b1, 0, none⟩)) ∧ fq 6 = (Value.int .i64 ((table).length : Int)) ∧ fq 7 = uu0 ∧ fq 8 = Value.int .i64 (k : Int) ∧ InR .i64 (k : Int) ∧ St w wq [bx b1 [(Value.slice none 0 0)], (Ty.sl (Ty.i .i64)).at uu0 s]) hres11 ⟨u6, rfl, rfl, rfl, rfl, rfl, rfl, (inL rfl), hS8⟩ ?_ ?_
    · intro k12 x13 ct14 f15 wd16 hk17 hb18 hI19 hbrk20 hret21
      replace hI19 : ∃ (uu0 : Value), f15 0 = v_table ∧ f15 1 = v_duals ∧ f15 4 = (Value.pointer (some ⟨b1, 0, none⟩)) ∧ f15 6 = (Value.int .i64 ((table).length : Int)) ∧ f15 7 = uu0 ∧ f15 8 = Value.int .i64 (k12 : Int) ∧ InR .i64 (k12 : Int) ∧ St w wd16 [bx b1 [(Value.slice none 0 0)], (Ty.sl (Ty.i .i64)).at uu0 x13] := hI19
      replace hb18 : p_spec_l08Ring_L1 table duals k12 x13 = some ct14 := hb18
      unfold p_spec_l08Ring_L1 at hb18
      obtain ⟨u22, hf23, hf24, hf25, hf26, hf27, hf28, hr29, hS30⟩ := hI19
      refine W.seq (W.seq (W.region ?_))
      refine WL.val (Value.int .i64 (k12 : Int)) _ (op_move hf28) rfl ?_
      refine WL.val (Value.int .i64 ((table).length : Int)) _ (op_move hf26) rfl ?_
      refine WL.val (Value.bool (decide ((k12 : Int) < ((table).length : Int)))) _ (op_lss rfl rfl) rfl ?_
      have hl31 : (k12 : Int) < ((table).length : Int) := by omega
      refine WL.nil ?_
      refine W.condT (decide ((k12 : Int) < ((table).length : Int))) rfl (decide_eq_true hl31) ?_
      refine W.skip ?_
      refine W.seq ?_
      refine W.block ?_
      refine W.seq ?_
      obtain ⟨x62, hx65, hb18⟩ := bs hb18
      obtain ⟨ha63, hb64, hx65⟩ := idx_some hx65
      obtain ⟨u76, hc77, hr78⟩ := repSl.el r_table hx65
      obtain ⟨u118, hc119, hr120⟩ := repSl.el r_table hx65
      refine W.drawR mixo 9 [] [fun _ v _ _ => v = v_table, fun _ v _ _ => v = (Value.int .i64 (k12 : Int)) ∧ InR .i64 (k12 : Int), fun _ v _ _ => v = (Value.pointer (some (elA v_table ((k12 : Int)).toNat))), fun _ v _ _ => v = u76, fun _ v _ _ => v = v_table, fun _ v _ _ => v = (Value.int .i64 (k12 : Int)) ∧ InR .i64 (k12 : Int), fun _ v _ _ => v = (Value.pointer (some (elA v_table ((k12 : Int)).toNat))), fun _ v _ _ => v = u118, fun _ v _ _ => v = v_duals] (by kernel_rfl) (by kernel_rfl) ⟨pk, pk, pk, pk, pk, pk, pk, pk, pk, trivial⟩ ⟨?_, ?_, ?_, ?_, ?_, ?_, ?_, ?_, ?_, trivial⟩ ?_
      · refine ObX.op rfl fun f33 wd34 he35 hout36 hphi37 => ?_
        have e39 : f33 0 = v_table := (hout36 0 rfl).trans hf23
        exact OpX.val v_table wd34 rfl (op_move e39) (Ext.refl _) rfl
      · refine ObX.op rfl fun f40 wd41 he42 hout43 hphi44 => ?_
        have e46 : f40 8 = (Value.int .i64 (k12 : Int)) := (hout43 8 rfl).trans hf28
        exact OpX.val (Value.int .i64 (k12 : Int)) wd41 rfl (op_move e46) (Ext.refl _) ⟨rfl, hr29⟩
      · refine ObX.op rfl fun f47 wd48 he49 hout50 hphi51 => ?_
        have hS52 := St.extend hS30 he49
        obtain ⟨S53, hS54, hf55⟩ := hphi51 0 27 _ rfl rfl rfl
        have e56 : f47 27 = v_table := hf55
        obtain ⟨S57, hS58, hf59⟩ := hphi51 1 28 _ rfl rfl rfl
        obtain ⟨e60, hr61⟩ := hf59
        exact OpX.val (Value.pointer (some (elA v_table ((k12 : Int)).toNat))) wd48 rfl (op_idx sl_43 (Ty.lift _ hS52.ext r_table) e56 e60 ha63 hb64) (Ext.refl _) rfl
      · refine ObX.op rfl fun f66 wd67 he68 hout69 hphi70 => ?_
        have hS71 := St.extend hS30 he68
        obtain ⟨S72, hS73, hf74⟩ := hphi70 2 29 _ rfl rfl rfl
        have e75 : f66 29 = (Value.pointer (some (elA v_table ((k12 : Int)).toNat))) := hf74
        exact OpX.val u76 wd67 rfl (op_load one_25 e75 (Ext.cell hS71.ext hc77)) (Ext.refl _) rfl
      · refine ObX.op rfl fun f79 wd80 he81 hout82 hphi83 => ?_
        have e85 : f79 0 = v_table := (hout82 0 rfl).trans hf23
        exact OpX.val v_table wd80 rfl (op_move e85) (Ext.refl _) rfl
      · refine ObX.op rfl fun f86 wd87 he88 hout89 hphi90 => ?_
        have e92 : f86 8 = (Value.int .i64 (k12 : Int)) := (hout89 8 rfl).trans hf28
        exact OpX.val (Value.int .i64 (k12 : Int)) wd87 rfl (op_move e92) (Ext.refl _) ⟨rfl, hr29⟩
      · refine ObX.op rfl fun f93 wd94 he95 hout96 hphi97 => ?_
        have hS98 := St.extend hS30 he95
        obtain ⟨S99, hS100, hf101⟩ := hphi97 4 31 _ rfl rfl rfl
        have e102 : f93 31 = v_table := hf101
        obtain ⟨S103, hS104, hf105⟩ := hphi97 5 32 _ rfl rfl rfl
        obtain ⟨e106, hr107⟩ := hf105
        exact OpX.val (Value.pointer (some (elA v_table ((k12 : Int)).toNat))) wd94 rfl (op_idx sl_43 (Ty.lift _ hS98.ext r_table) e102 e106 ha63 hb64) (Ext.refl _) rfl
      · refine ObX.op rfl fun f108 wd109 he110 hout111 hphi112 => ?_
        have hS113 := St.extend hS30 he110
        obtain ⟨S114, hS115, hf116⟩ := hphi112 6 33 _ rfl rfl rfl
        have e117 : f108 33 = (Value.pointer (some (elA v_table ((k12 : Int)).toNat))) := hf116
        exact OpX.val u118 wd109 rfl (op_load one_25 e117 (Ext.cell hS113.ext hc119)) (Ext.refl _) rfl
      · refine ObX.op rfl fun f121 wd122 he123 hout124 hphi125 => ?_
        have e127 : f121 1 = v_duals := (hout124 1 rfl).trans hf24
        exact OpX.val v_duals wd122 rfl (op_move e127) (Ext.refl _) rfl
      · intro f128 wd129 Ss130 he131 hout132 hSn133 hSd134 hphi135
        show WL _ _ _ _ _ _ _
        have hS136 := St.extend hS30 he131
        have e137 : f128 30 = u76 := hphi135 3 30 _ (by decide) rfl rfl
        have e138 : f128 34 = u118 := hphi135 7 34 _ (by decide) rfl rfl
        have e139 : f128 35 = v_duals := hphi135 8 35 _ (by decide) rfl rfl
        have e140 : f128 0 = v_table := (hout132 0 rfl).trans hf23
        have e141 : f128 1 = v_duals := (hout132 1 rfl).trans hf24
        have e142 : f128 4 = (Value.pointer (some ⟨b1, 0, none⟩)) := (hout132 4 rfl).trans hf25
        have e143 : f128 6 = (Value.int .i64 ((table).length : Int)) := (hout132 6 rfl).trans hf26
        have e144 : f128 7 = u22 := (hout132 7 rfl).trans hf27
        have e145 : f128 8 = (Value.int .i64 (k12 : Int)) := (hout132 8 rfl).trans hf28
        obtain ⟨x146, hx147, hb18⟩ := bs hb18
        refine WL.call _ (op_call fn_49 (args3 e137 e138 e139)) (c_spec_l08Pair (Ty.lift _ hS136.ext hr78) (Ty.lift _ hS136.ext hr120) (Ty.lift _ hS136.ext r_duals) hx147) rfl ?_
        rintro _ wd149 ⟨rfl, hr148, he150⟩
        have hS152 := St.extend hS136 he150
        replace hS152 : St w wd149 [bx b1 [(Value.slice none 0 0)], (Ty.sl (Ty.i .i64)).at u22 x13] := hS152
        refine WL.val (Value.int .i64 x146) _ (op_assign rfl) rfl ?_
        refine WL.nil ?_
        refine W.seq (W.seq (W.region ?_))
        refine WL.val (Value.int .i64 x146) _ (op_move rfl) rfl ?_
        refine WL.val (Value.bool (x146 == (0 : Int))) _ (op_eql rfl rfl) rfl ?_
        refine WL.nil ?_
        refine W.cond (x146 == (0 : Int)) rfl (fun hc153 => ?_) (fun hc153 => ?_)
        · replace hb18 := ip hb18 hc153
          refine W.seq (W.region ?_)
          refine WL.val (Value.agg #[(Value.slice none 0 0)]) _ (op_build bd_29 (parts := []) (partsL trivial) trivial rfl) rfl ?_
          have hS157 := St.addNil (Ty.sl (Ty.sl (Ty.i .i64))) hS152
          replace hS157 : St w wd149 [bx b1 [(Value.slice none 0 0)], (Ty.sl (Ty.i .i64)).at u22 x13, (Ty.sl (Ty.sl (Ty.sl (Ty.i .i64)))).at (Value.slice none 0 0) ([] : (List (List (List Int))))] := hS157
          refine WL.storeBox [(Value.slice none 0 0)] hS157 (k := 0) rfl e142 rfl (us := [(Value.slice none 0 0)]) rfl sz_29 rfl rfl (all_rep (St.rep (t := (Ty.sl (Ty.sl (Ty.sl (Ty.i .i64))))) hS157 2 rfl) all_nil) rfl ?_
          intro wd155 hS156
          replace hS156 : St w wd155 [bx b1 [(Value.slice none 0 0)], (Ty.sl (Ty.i .i64)).at u22 x13, (Ty.sl (Ty.sl (Ty.sl (Ty.i .i64)))).at (Value.slice none 0 0) ([] : (List (List (List Int))))] := hS156
          refine WL.val (Value.bool false) _ (op_assign rfl) rfl ?_
          refine WL.nil ?_
          refine W.ret ?_
          obtain rfl := Option.some.inj hb18
          obtain rfl := hret21 _ rfl
          replace h := onRes_ret h
          obtain rfl := Option.some.inj h
          show FinP _ _ _ _ _ _ _
          exact FinP.ret _ (resCT rfl e142 st_29 (St.boxAt hS156 0 rfl) rfl rfl) ⟨(Value.slice none 0 0), rfl, hS156.ext, (St.out (St.pick hS156 [2] rfl) (Ext.refl _))⟩
        · replace hb18 := inegb hb18 hc153
          refine W.skip ?_
          show W _ _ _ _ _ _
          refine W.region ?_
          refine WL.val u22 _ (op_move e144) rfl ?_
          refine WL.val (Value.int .i64 x146) _ (op_move rfl) rfl ?_
          obtain ⟨x158, hx159, hb18⟩ := bs hb18
          refine WL.call _ (op_call fn_81 (args1 rfl)) (c_spec_l01Inv hr148 hx159) rfl ?_
          rintro _ wd161 ⟨rfl, hr160, he162⟩
          have hS164 := St.extend hS152 he162
          replace hS164 : St w wd161 [bx b1 [(Value.slice none 0 0)], (Ty.sl (Ty.i .i64)).at u22 x13] := hS164
          refine WL.litFlat (t := (Ty.i .i64)) (flat_i .i64) [(Value.int .i64 x158)] [x158] hS164 sl_25 rfl rfl (fillL rfl ⟨rfl, rfl, rfl, trivial⟩) rfl rfl (litL ⟨⟨rfl, hr160⟩, trivial⟩) rfl ?_
          intro u165 wd166 hS167 he168
          replace hS167 : St w wd166 [bx b1 [(Value.slice none 0 0)], (Ty.sl (Ty.i .i64)).at u22 x13, (Ty.sl (Ty.i .i64)).at u165 ([x158] : (List Int))] := hS167
          obtain ⟨x169, hx170, hb18⟩ := bs hb18
          refine WL.append (flat_i .i64) hS167 (k := 1) rfl sl_25 rfl rfl rfl rfl (St.rep (t := (Ty.sl (Ty.i .i64))) hS167 2 rfl) hx170 rfl ?_
          intro u171 wd172 hS173 hz174
          replace hS173 : St w wd172 [bx b1 [(Value.slice none 0 0)], (Ty.sl (Ty.i .i64)).at u171 x169, (Ty.sl (Ty.i .i64)).at u165 ([x158] : (List Int))] := hS173
          refine WL.val u171 _ (op_assign rfl) rfl ?_
          refine WL.nil ?_
          show W _ _ _ _ _ _
          refine W.region ?_
          refine WL.val (Value.int .i64 (k12 : Int)) _ (op_move e145) rfl ?_
          refine WL.val (Value.int .i64 (w64 ((k12 : Int) + (1 : Int)))) _ (op_add rfl rfl) rfl ?_
          refine WL.val (Value.int .i64 (w64 ((k12 : Int) + (1 : Int)))) _ (op_assign rfl) rfl ?_
          refine WL.nil ?_
          obtain rfl := Option.some.inj hb18
          show ∃ s, _ = Ctl.next s ∧ _
          exact ⟨_, rfl, u171, e140, e141, e142, e143, rfl, (ctr_next hl31 hr5), (ctr_rng hl31 hr5), (St.pick hS173 [0, 1] rfl)⟩
    · intro x181 f176 wd177 hs178 hI179
      replace hI179 : ∃ (uu0 : Value), f176 0 = v_table ∧ f176 1 = v_duals ∧ f176 4 = (Value.pointer (some ⟨b1, 0, none⟩)) ∧ f176 6 = (Value.int .i64 ((table).length : Int)) ∧ f176 7 = uu0 ∧ f176 8 = Value.int .i64 (((table).length : Nat) : Int) ∧ InR .i64 (((table).length : Nat) : Int) ∧ St w wd177 [bx b1 [(Value.slice none 0 0)], (Ty.sl (Ty.i .i64)).at uu0 x181] := hI179
      obtain ⟨u182, hf183, hf184, hf185, hf186, hf187, hf188, hr189, hS190⟩ := hI179
      refine W.seq (W.seq (W.region ?_))
      refine WL.val (Value.int .i64 (((table).length : Nat) : Int)) _ (op_move hf188) rfl ?_
      refine WL.val (Value.int .i64 ((table).length : Int)) _ (op_move hf186) rfl ?_
      refine WL.val (Value.bool (decide ((((table).length : Nat) : Int) < ((table).length : Int)))) _ (op_lss rfl rfl) rfl ?_
      have hl191 : ¬ (((table).length : Nat) : Int) < ((table).length : Int) := by omega
      refine WL.nil ?_
      refine W.condF (decide ((((table).length : Nat) : Int) < ((table).length : Int))) rfl (decide_eq_false hl191) ?_
      refine W.exit ?_
      show _ = _ ∧ _
      exact ⟨rfl, _, hs178, u182, hf183, hf184, hf185, hf186, hf187, hS190⟩
  · rintro f192 wd193 ⟨x196, rfl, hq194⟩
    replace h := onRes_fin h
    replace hq194 : ∃ (uu0 : Value), f192 0 = v_table ∧ f192 1 = v_duals ∧ f192 4 = (Value.pointer (some ⟨b1, 0, none⟩)) ∧ f192 6 = (Value.int .i64 ((table).length : Int)) ∧ f192 7 = uu0 ∧ St w wd193 [bx b1 [(Value.slice none 0 0)], (Ty.sl (Ty.i .i64)).at uu0 x196] := hq194
    obtain ⟨u197, hf198, hf199, hf200, hf201, hf202, hS203⟩ := hq194
    refine W.seq (W.region ?_)
    refine WL.val (Value.agg #[(Value.slice none 0 0)]) _ (op_build bd_29 (parts := []) (partsL trivial) trivial rfl) rfl ?_
    refine WL.alloc hS203 ze_29 (cs := [(Value.slice none 0 0)]) rfl rfl ?_
    intro b204 wd205 hS206 he207
    replace hS206 : St w wd205 [bx b1 [(Value.slice none 0 0)], (Ty.sl (Ty.i .i64)).at u197 x196, bx b204 [(Value.slice none 0 0)]] := hS206
    have hS210 := St.addNil (Ty.sl (Ty.sl (Ty.i .i64))) hS206
    replace hS210 : St w wd205 [bx b1 [(Value.slice none 0 0)], (Ty.sl (Ty.i .i64)).at u197 x196, bx b204 [(Value.slice none 0 0)], (Ty.sl (Ty.sl (Ty.sl (Ty.i .i64)))).at (Value.slice none 0 0) ([] : (List (List (List Int))))] := hS210
    refine WL.storeBox [(Value.slice none 0 0)] hS210 (k := 2) rfl rfl rfl (us := [(Value.slice none 0 0)]) rfl sz_29 rfl rfl (all_rep (St.rep (t := (Ty.sl (Ty.sl (Ty.sl (Ty.i .i64))))) hS210 3 rfl) all_nil) rfl ?_
    intro wd208 hS209
    replace hS209 : St w wd208 [bx b1 [(Value.slice none 0 0)], (Ty.sl (Ty.i .i64)).at u197 x196, bx b204 [(Value.slice none 0 0)], (Ty.sl (Ty.sl (Ty.sl (Ty.i .i64)))).at (Value.slice none 0 0) ([] : (List (List (List Int))))] := hS209
    refine WL.nil ?_
    refine W.seq (W.seq (W.region ?_))
    refine WL.val (Value.int .i64 (0 : Int)) _ (op_assign rfl) rfl ?_
    refine WL.nil ?_
    show W _ _ _ _ _ _
    obtain ⟨res211, hres212, h⟩ := bs h
    refine W.blockLoop (fun fq wq => ∃ s, res211 = Res.fin s ∧ ∃ (uu0 : Value), fq 1 = v_duals ∧ fq 4 = (Value.pointer (some ⟨b1, 0, none⟩)) ∧ fq 10 = (Value.pointer (some ⟨b204, 0, none⟩)) ∧ St w wq [bx b1 [(Value.slice none 0 0)], bx b204 [uu0], (Ty.sl (Ty.sl (Ty.sl (Ty.i .i64)))).at uu0 s]) ?_ ?_
    · refine W.forN (fun k (s : (List (List (List Int)))) fq wq => ∃ (uu0 : Value), fq 0 = v_table ∧ fq 1 = v_duals ∧ fq 4 = (Value.pointer (some ⟨b1, 0, none⟩)) ∧ fq 6 = (Value.int .i64 ((table).length : Int)) ∧ fq 7 = u197 ∧ fq 10 = (Value.pointer (some ⟨b204, 0, none⟩)) ∧ fq 11 = Value.int .i64 (k : Int) ∧ InR .i64 (k : Int) ∧ St w wq [bx b1 [(Value.slice none 0 0)], (Ty.sl (Ty.i .i64)).at u197 x196, bx b204 [uu0], (Ty.sl (Ty.sl (Ty.sl (Ty.i .i64)))).at uu0 s]) hres212 ⟨(Value.slice none 0 0), hf198, hf199, hf200, hf201, hf202, rfl, rfl, (inL rfl), hS209⟩ ?_ ?_
      · intro k213 x214 ct215 f216 wd217 hk218 hb219 hI220 hbrk221 hret222
        replace hI220 : ∃ (uu0 : Value), f216 0 = v_table ∧ f216 1 = v_duals ∧ f216 4 = (Value.pointer (some ⟨b1, 0, none⟩)) ∧ f216 6 = (Value.int .i64 ((table).length : Int)) ∧ f216 7 = u197 ∧ f216 10 = (Value.pointer (some ⟨b204, 0, none⟩)) ∧ f216 11 = Value.int .i64 (k213 : Int) ∧ InR .i64 (k213 : Int) ∧ St w wd217 [bx b1 [(Value.slice none 0 0)], (Ty.sl (Ty.i .i64)).at u197 x196, bx b204 [uu0], (Ty.sl (Ty.sl (Ty.sl (Ty.i .i64)))).at uu0 x214] := hI220
        replace hb219 : p_spec_l08Ring_L2 table duals x196 k213 x214 = some ct215 := hb219
        unfold p_spec_l08Ring_L2 at hb219
        obtain ⟨u223, hf224, hf225, hf226, hf227, hf228, hf229, hf230, hr231, hS232⟩ := hI220
        refine W.seq (W.seq (W.region ?_))
        refine WL.val (Value.int .i64 (k213 : Int)) _ (op_move hf230) rfl ?_
        refine WL.val (Value.int .i64 ((table).length : Int)) _ (op_move hf227) rfl ?_
        refine WL.val (Value.bool (decide ((k213 : Int) < ((table).length : Int)))) _ (op_lss rfl rfl) rfl ?_
        have hl233 : (k213 : Int) < ((table).length : Int) := by omega
        refine WL.nil ?_
        refine W.condT (decide ((k213 : Int) < ((table).length : Int))) rfl (decide_eq_true hl233) ?_
        refine W.skip ?_
        refine W.seq ?_
        refine W.block ?_
        refine W.seq (W.region ?_)
        refine WL.lit0 (t := (Ty.sl (Ty.i .i64))) hS232 sl_43 rfl rfl ?_
        intro u235 wd236 hS237 he238
        replace hS237 : St w wd236 [bx b1 [(Value.slice none 0 0)], (Ty.sl (Ty.i .i64)).at u197 x196, bx b204 [u223], (Ty.sl (Ty.sl (Ty.sl (Ty.i .i64)))).at u223 x214, (Ty.sl (Ty.sl (Ty.i .i64))).at u235 ([] : (List (List Int)))] := hS237
        refine WL.val u235 _ (op_assign rfl) rfl ?_
        refine WL.nil ?_
        refine W.seq (W.seq (W.region ?_))
        refine WL.val (Value.int .i64 (0 : Int)) _ (op_assign rfl) rfl ?_
        refine WL.nil ?_
        show W _ _ _ _ _ _
        obtain ⟨res239, hres240, hb219⟩ := bs hb219
        refine W.blockLoop (fun fq wq => ∃ s, res239 = Res.fin s ∧ ∃ (uu0 : Value), fq 0 = v_table ∧ fq 1 = v_duals ∧ fq 4 = (Value.pointer (some ⟨b1, 0, none⟩)) ∧ fq 6 = (Value.int .i64 ((table).length : Int)) ∧ fq 7 = u197 ∧ fq 10 = (Value.pointer (some ⟨b204, 0, none⟩)) ∧ fq 11 = (Value.int .i64 (k213 : Int)) ∧ fq 12 = uu0 ∧ St w wq [bx b1 [(Value.slice none 0 0)], (Ty.sl (Ty.i .i64)).at u197 x196, bx b204 [u223], (Ty.sl (Ty.sl (Ty.sl (Ty.i .i64)))).at u223 x214, (Ty.sl (Ty.sl (Ty.i .i64))).at uu0 s]) ?_ ?_
        · refine W.forN (fun k (s : (List (List Int))) fq wq => ∃ (uu0 : Value), fq 0 = v_table ∧ fq 1 = v_duals ∧ fq 4 = (Value.pointer (some ⟨b1, 0, none⟩)) ∧ fq 6 = (Value.int .i64 ((table).length : Int)) ∧ fq 7 = u197 ∧ fq 10 = (Value.pointer (some ⟨b204, 0, none⟩)) ∧ fq 11 = (Value.int .i64 (k213 : Int)) ∧ fq 12 = uu0 ∧ fq 13 = Value.int .i64 (k : Int) ∧ InR .i64 (k : Int) ∧ St w wq [bx b1 [(Value.slice none 0 0)], (Ty.sl (Ty.i .i64)).at u197 x196, bx b204 [u223], (Ty.sl (Ty.sl (Ty.sl (Ty.i .i64)))).at u223 x214, (Ty.sl (Ty.sl (Ty.i .i64))).at uu0 s]) hres240 ⟨u235, hf224, hf225, hf226, hf227, hf228, hf229, hf230, rfl, rfl, (inL rfl), hS237⟩ ?_ ?_
          · intro k241 x242 ct243 f244 wd245 hk246 hb247 hI248 hbrk249 hret250
            replace hI248 : ∃ (uu0 : Value), f244 0 = v_table ∧ f244 1 = v_duals ∧ f244 4 = (Value.pointer (some ⟨b1, 0, none⟩)) ∧ f244 6 = (Value.int .i64 ((table).length : Int)) ∧ f244 7 = u197 ∧ f244 10 = (Value.pointer (some ⟨b204, 0, none⟩)) ∧ f244 11 = (Value.int .i64 (k213 : Int)) ∧ f244 12 = uu0 ∧ f244 13 = Value.int .i64 (k241 : Int) ∧ InR .i64 (k241 : Int) ∧ St w wd245 [bx b1 [(Value.slice none 0 0)], (Ty.sl (Ty.i .i64)).at u197 x196, bx b204 [u223], (Ty.sl (Ty.sl (Ty.sl (Ty.i .i64)))).at u223 x214, (Ty.sl (Ty.sl (Ty.i .i64))).at uu0 x242] := hI248
            replace hb247 : p_spec_l08Ring_L3 table k213 duals x196 k241 x242 = some ct243 := hb247
            unfold p_spec_l08Ring_L3 at hb247
            obtain ⟨u251, hf252, hf253, hf254, hf255, hf256, hf257, hf258, hf259, hf260, hr261, hS262⟩ := hI248
            refine W.seq (W.seq (W.region ?_))
            refine WL.val (Value.int .i64 (k241 : Int)) _ (op_move hf260) rfl ?_
            refine WL.val (Value.int .i64 ((table).length : Int)) _ (op_move hf255) rfl ?_
            refine WL.val (Value.bool (decide ((k241 : Int) < ((table).length : Int)))) _ (op_lss rfl rfl) rfl ?_
            have hl263 : (k241 : Int) < ((table).length : Int) := by omega
            refine WL.nil ?_
            refine W.condT (decide ((k241 : Int) < ((table).length : Int))) rfl (decide_eq_true hl263) ?_
            refine W.skip ?_
            refine W.seq ?_
            refine W.block ?_
            refine W.seq (W.region ?_)
            refine WL.lit0 (t := (Ty.i .i64)) hS262 sl_25 rfl rfl ?_
            intro u265 wd266 hS267 he268
            replace hS267 : St w wd266 [bx b1 [(Value.slice none 0 0)], (Ty.sl (Ty.i .i64)).at u197 x196, bx b204 [u223], (Ty.sl (Ty.sl (Ty.sl (Ty.i .i64)))).at u223 x214, (Ty.sl (Ty.sl (Ty.i .i64))).at u251 x242, (Ty.sl (Ty.i .i64)).at u265 ([] : (List Int))] := hS267
            refine WL.val u265 _ (op_assign rfl) rfl ?_
            refine WL.nil ?_
            refine W.seq (W.seq (W.region ?_))
            refine WL.val (Value.int .i64 (0 : Int)) _ (op_assign rfl) rfl ?_
            refine WL.nil ?_
            show W _ _ _ _ _ _
            obtain ⟨res269, hres270, hb247⟩ := bs hb247
            refine W.blockLoop (fun fq wq => ∃ s, res269 = Res.fin s ∧ ∃ (uu0 : Value), fq 0 = v_table ∧ fq 1 = v_duals ∧ fq 4 = (Value.pointer (some ⟨b1, 0, none⟩)) ∧ fq 6 = (Value.int .i64 ((table).length : Int)) ∧ fq 7 = u197 ∧ fq 10 = (Value.pointer (some ⟨b204, 0, none⟩)) ∧ fq 11 = (Value.int .i64 (k213 : Int)) ∧ fq 12 = u251 ∧ fq 13 = (Value.int .i64 (k241 : Int)) ∧ fq 14 = uu0 ∧ St w wq [bx b1 [(Value.slice none 0 0)], (Ty.sl (Ty.i .i64)).at u197 x196, bx b204 [u223], (Ty.sl (Ty.sl (Ty.sl (Ty.i .i64)))).at u223 x214, (Ty.sl (Ty.sl (Ty.i .i64))).at u251 x242, (Ty.sl (Ty.i .i64)).at uu0 s]) ?_ ?_
            · refine W.forN (fun k (s : (List Int)) fq wq => ∃ (uu0 : Value), fq 0 = v_table ∧ fq 1 = v_duals ∧ fq 4 = (Value.pointer (some ⟨b1, 0, none⟩)) ∧ fq 6 = (Value.int .i64 ((table).length : Int)) ∧ fq 7 = u197 ∧ fq 10 = (Value.pointer (some ⟨b204, 0, none⟩)) ∧ fq 11 = (Value.int .i64 (k213 : Int)) ∧ fq 12 = u251 ∧ fq 13 = (Value.int .i64 (k241 : Int)) ∧ fq 14 = uu0 ∧ fq 15 = Value.int .i64 (k : Int) ∧ InR .i64 (k : Int) ∧ St w wq [bx b1 [(Value.slice none 0 0)], (Ty.sl (Ty.i .i64)).at u197 x196, bx b204 [u223], (Ty.sl (Ty.sl (Ty.sl (Ty.i .i64)))).at u223 x214, (Ty.sl (Ty.sl (Ty.i .i64))).at u251 x242, (Ty.sl (Ty.i .i64)).at uu0 s]) hres270 ⟨u265, hf252, hf253, hf254, hf255, hf256, hf257, hf258, hf259, hf260, rfl, rfl, (inL rfl), hS267⟩ ?_ ?_
              · intro k271 x272 ct273 f274 wd275 hk276 hb277 hI278 hbrk279 hret280
                replace hI278 : ∃ (uu0 : Value), f274 0 = v_table ∧ f274 1 = v_duals ∧ f274 4 = (Value.pointer (some ⟨b1, 0, none⟩)) ∧ f274 6 = (Value.int .i64 ((table).length : Int)) ∧ f274 7 = u197 ∧ f274 10 = (Value.pointer (some ⟨b204, 0, none⟩)) ∧ f274 11 = (Value.int .i64 (k213 : Int)) ∧ f274 12 = u251 ∧ f274 13 = (Value.int .i64 (k241 : Int)) ∧ f274 14 = uu0 ∧ f274 15 = Value.int .i64 (k271 : Int) ∧ InR .i64 (k271 : Int) ∧ St w wd275 [bx b1 [(Value.slice none 0 0)], (Ty.sl (Ty.i .i64)).at u197 x196, bx b204 [u223], (Ty.sl (Ty.sl (Ty.sl (Ty.i .i64)))).at u223 x214, (Ty.sl (Ty.sl (Ty.i .i64))).at u251 x242, (Ty.sl (Ty.i .i64)).at uu0 x272] := hI278
                replace hb277 : p_spec_l08Ring_L4 table k213 k241 duals x196 k271 x272 = some ct273 := hb277
                unfold p_spec_l08Ring_L4 at hb277
                obtain ⟨u281, hf282, hf283, hf284, hf285, hf286, hf287, hf288, hf289, hf290, hf291, hf292, hr293, hS294⟩ := hI278
                refine W.seq (W.seq (W.region ?_))
                refine WL.val (Value.int .i64 (k271 : Int)) _ (op_move hf292) rfl ?_
                refine WL.val (Value.int .i64 ((table).length : Int)) _ (op_move hf285) rfl ?_
                refine WL.val (Value.bool (decide ((k271 : Int) < ((table).length : Int)))) _ (op_lss rfl rfl) rfl ?_
                have hl295 : (k271 : Int) < ((table).length : Int) := by omega
                refine WL.nil ?_
                refine W.condT (decide ((k271 : Int) < ((table).length : Int))) rfl (decide_eq_true hl295) ?_
                refine W.skip ?_
                refine W.seq ?_
                refine W.block ?_
                refine W.seq (W.region ?_)
                refine WL.val (Value.int .i64 (0 : Int)) _ (op_assign rfl) rfl ?_
                refine WL.nil ?_
                refine W.seq (W.seq (W.region ?_))
                refine WL.val (Value.int .i64 (0 : Int)) _ (op_assign rfl) rfl ?_
                refine WL.nil ?_
                show W _ _ _ _ _ _
                obtain ⟨res297, hres298, hb277⟩ := bs hb277
                refine W.blockLoop (fun fq wq => ∃ s, res297 = Res.fin s ∧ fq 0 = v_table ∧ fq 1 = v_duals ∧ fq 4 = (Value.pointer (some ⟨b1, 0, none⟩)) ∧ fq 6 = (Value.int .i64 ((table).length : Int)) ∧ fq 7 = u197 ∧ fq 10 = (Value.pointer (some ⟨b204, 0, none⟩)) ∧ fq 11 = (Value.int .i64 (k213 : Int)) ∧ fq 12 = u251 ∧ fq 13 = (Value.int .i64 (k241 : Int)) ∧ fq 14 = u281 ∧ fq 15 = (Value.int .i64 (k271 : Int)) ∧ fq 16 = Value.int .i64 s ∧ InR .i64 s ∧ St w wq [bx b1 [(Value.slice none 0 0)], (Ty.sl (Ty.i .i64)).at u197 x196, bx b204 [u223], (Ty.sl (Ty.sl (Ty.sl (Ty.i .i64)))).at u223 x214, (Ty.sl (Ty.sl (Ty.i .i64))).at u251 x242, (Ty.sl (Ty.i .i64)).at u281 x272]) ?_ ?_
                · refine W.forN (fun k (s : Int) fq wq => fq 0 = v_table ∧ fq 1 = v_duals ∧ fq 4 = (Value.pointer (some ⟨b1, 0, none⟩)) ∧ fq 6 = (Value.int .i64 ((table).length : Int)) ∧ fq 7 = u197 ∧ fq 10 = (Value.pointer (some ⟨b204, 0, none⟩)) ∧ fq 11 = (Value.int .i64 (k213 : Int)) ∧ fq 12 = u251 ∧ fq 13 = (Value.int .i64 (k241 : Int)) ∧ fq 14 = u281 ∧ fq 15 = (Value.int .i64 (k271 : Int)) ∧ fq 16 = Value.int .i64 s ∧ InR .i64 s ∧ fq 17 = Value.int .i64 (k : Int) ∧ InR .i64 (k : Int) ∧ St w wq [bx b1 [(Value.slice none 0 0)], (Ty.sl (Ty.i .i64)).at u197 x196, bx b204 [u223], (Ty.sl (Ty.sl (Ty.sl (Ty.i .i64)))).at u223 x214, (Ty.sl (Ty.sl (Ty.i .i64))).at u251 x242, (Ty.sl (Ty.i .i64)).at u281 x272]) hres298 ⟨hf282, hf283, hf284, hf285, hf286, hf287, hf288, hf289, hf290, hf291, hf292, rfl, (inL rfl), rfl, (inL rfl), hS294⟩ ?_ ?_
                  · intro k299 x300 ct301 f302 wd303 hk304 hb305 hI306 hbrk307 hret308
                    replace hI306 : f302 0 = v_table ∧ f302 1 = v_duals ∧ f302 4 = (Value.pointer (some ⟨b1, 0, none⟩)) ∧ f302 6 = (Value.int .i64 ((table).length : Int)) ∧ f302 7 = u197 ∧ f302 10 = (Value.pointer (some ⟨b204, 0, none⟩)) ∧ f302 11 = (Value.int .i64 (k213 : Int)) ∧ f302 12 = u251 ∧ f302 13 = (Value.int .i64 (k241 : Int)) ∧ f302 14 = u281 ∧ f302 15 = (Value.int .i64 (k271 : Int)) ∧ f302 16 = Value.int .i64 x300 ∧ InR .i64 x300 ∧ f302 17 = Value.int .i64 (k299 : Int) ∧ InR .i64 (k299 : Int) ∧ St w wd303 [bx b1 [(Value.slice none 0 0)], (Ty.sl (Ty.i .i64)).at u197 x196, bx b204 [u223], (Ty.sl (Ty.sl (Ty.sl (Ty.i .i64)))).at u223 x214, (Ty.sl (Ty.sl (Ty.i .i64))).at u251 x242, (Ty.sl (Ty.i .i64)).at u281 x272] := hI306
                    replace hb305 : p_spec_l08Ring_L5 table k213 k241 duals k271 x196 k299 x300 = some ct301 := hb305
                    unfold p_spec_l08Ring_L5 at hb305
                    obtain ⟨hf309, hf310, hf311, hf312, hf313, hf314, hf315, hf316, hf317, hf318, hf319, hf320, hr321, hf322, hr323, hS324⟩ := hI306
                    refine W.seq (W.seq (W.region ?_))
                    refine WL.val (Value.int .i64 (k299 : Int)) _ (op_move hf322) rfl ?_
                    refine WL.val (Value.int .i64 ((table).length : Int)) _ (op_move hf312) rfl ?_
                    refine WL.val (Value.bool (decide ((k299 : Int) < ((table).length : Int)))) _ (op_lss rfl rfl) rfl ?_
                    have hl325 : (k299 : Int) < ((table).length : Int) := by omega
                    refine WL.nil ?_
                    refine W.condT (decide ((k299 : Int) < ((table).length : Int))) rfl (decide_eq_true hl325) ?_
                    refine W.skip ?_
                    refine W.seq ?_
                    refine W.block ?_
                    refine W.seq (W.region ?_)
                    refine WL.val v_table _ (op_move hf309) rfl ?_
                    refine WL.val (Value.int .i64 (k299 : Int)) _ (op_move hf322) rfl ?_
                    obtain ⟨x327, hx330, hb305⟩ := bs hb305
                    obtain ⟨ha328, hb329, hx330⟩ := idx_some hx330
                    refine WL.val (Value.pointer (some (elA v_table ((k299 : Int)).toNat))) _ (op_idx sl_43 (Ty.lift _ hS324.ext r_table) rfl rfl ha328 hb329) rfl ?_
                    obtain ⟨u331, hc332, hr333⟩ := repSl.el r_table hx330
                    refine WL.val u331 _ (op_load one_25 rfl (Ext.cell hS324.ext hc332)) rfl ?_
                    refine WL.val u331 _ (op_assign rfl) rfl ?_
                    refine WL.nil ?_
                    show W _ _ _ _ _ _
                    obtain ⟨x370, hx373, hb305⟩ := bs hb305
                    obtain ⟨ha371, hb372, hx373⟩ := idx_some hx373
                    obtain ⟨u384, hc385, hr386⟩ := repSl.el hr333 hx373
                    obtain ⟨rfl, hr386⟩ := hr386
                    obtain ⟨x416, hx419, hb305⟩ := bs hb305
                    obtain ⟨ha417, hb418, hx419⟩ := idx_some hx419
                    obtain ⟨u430, hc431, hr432⟩ := repSl.el hr333 hx419
                    obtain ⟨rfl, hr432⟩ := hr432
                    obtain ⟨x496, hx499, hb305⟩ := bs hb305
                    obtain ⟨ha497, hb498, hx499⟩ := idx_some hx499
                    obtain ⟨u510, hc511, hr512⟩ := repSl.el r_duals hx499
                    obtain ⟨rfl, hr512⟩ := hr512
                    obtain ⟨x528, hx531, hb305⟩ := bs hb305
                    obtain ⟨ha529, hb530, hx531⟩ := idx_some hx531
                    obtain ⟨u542, hc543, hr544⟩ := repSl.el hr333 hx531
                    obtain ⟨rfl, hr544⟩ := hr544
                    obtain ⟨x601, hx604, hb305⟩ := bs hb305
                    obtain ⟨ha602, hb603, hx604⟩ := idx_some hx604
                    obtain ⟨u615, hc616, hr617⟩ := repSl.el (St.rep (t := (Ty.sl (Ty.i .i64))) hS324 1 rfl) hx604
                    obtain ⟨rfl, hr617⟩ := hr617
                    refine W.drawR mixo 25 [] [fun _ v _ _ => v = (Value.int .i64 x300) ∧ InR .i64 x300, fun _ v _ _ => v = u331, fun _ v _ _ => v = (Value.int .i64 (k213 : Int)) ∧ InR .i64 (k213 : Int), fun _ v _ _ => v = (Value.pointer (some (elA u331 ((k213 : Int)).toNat))), fun _ v _ _ => v = (Value.int .i64 x370) ∧ InR .i64 x370, fun _ v _ _ => v = u331, fun _ v _ _ => v = (Value.int .i64 (k241 : Int)) ∧ InR .i64 (k241 : Int), fun _ v _ _ => v = (Value.pointer (some (elA u331 ((k241 : Int)).toNat))), fun _ v _ _ => v = (Value.int .i64 x416) ∧ InR .i64 x416, fun _ v _ _ => v = (Value.int .i64 (w64 (x370 * x416))) ∧ InR .i64 (w64 (x370 * x416)), fun _ v _ _ => v = (Value.int .i64 (((w64 (x370 * x416))).tmod (55441 : Int))) ∧ InR .i64 (((w64 (x370 * x416))).tmod (55441 : Int)), fun _ v _ _ => v = u331, fun _ v _ _ => v = v_duals, fun _ v _ _ => v = (Value.int .i64 (k271 : Int)) ∧ InR .i64 (k271 : Int), fun _ v _ _ => v = (Value.pointer (some (elA v_duals ((k271 : Int)).toNat))), fun _ v _ _ => v = (Value.int .i64 x496) ∧ InR .i64 x496, fun _ v _ _ => v = (Value.pointer (some (elA u331 (x496).toNat))), fun _ v _ _ => v = (Value.int .i64 x528) ∧ InR .i64 x528, fun _ v _ _ => v = (Value.int .i64 (w64 ((((w64 (x370 * x416))).tmod (55441 : Int)) * x528))) ∧ InR .i64 (w64 ((((w64 (x370 * x416))).tmod (55441 : Int)) * x528)), fun _ v _ _ => v = (Value.int .i64 (((w64 ((((w64 (x370 * x416))).tmod (55441 : Int)) * x528))).tmod (55441 : Int))) ∧ InR .i64 (((w64 ((((w64 (x370 * x416))).tmod (55441 : Int)) * x528))).tmod (55441 : Int)), fun _ v _ _ => v = u197, fun _ v _ _ => v = (Value.int .i64 (k299 : Int)) ∧ InR .i64 (k299 : Int), fun _ v _ _ => v = (Value.pointer (some (elA u197 ((k299 : Int)).toNat))), fun _ v _ _ => v = (Value.int .i64 x601) ∧ InR .i64 x601, fun _ v _ _ => v = (Value.int .i64 (w64 ((((w64 ((((w64 (x370 * x416))).tmod (55441 : Int)) * x528))).tmod (55441 : Int)) * x601))) ∧ InR .i64 (w64 ((((w64 ((((w64 (x370 * x416))).tmod (55441 : Int)) * x528))).tmod (55441 : Int)) * x601))] (by kernel_rfl) (by kernel_rfl) ⟨pk, pk, pk, pk, pk, pk, pk, pk, pk, pk, pk, pk, pk, pk, pk, pk, pk, pk, pk, pk, pk, pk, pk, pk, pk, trivial⟩ ⟨?_, ?_, ?_, ?_, ?_, ?_, ?_, ?_, ?_, ?_, ?_, ?_, ?_, ?_, ?_, ?_, ?_, ?_, ?_, ?_, ?_, ?_, ?_, ?_, ?_, trivial⟩ ?_
                    · refine ObX.op rfl fun f334 wd335 he336 hout337 hphi338 => ?_
                      have e340 : f334 16 = (Value.int .i64 x300) := (hout337 16 rfl).trans hf320
                      exact OpX.val (Value.int .i64 x300) wd335 rfl (op_move e340) (Ext.refl _) ⟨rfl, hr321⟩
                    · refine ObX.op rfl fun f341 wd342 he343 hout344 hphi345 => ?_
                      have e347 : f341 18 = u331 := (hout344 18 rfl).trans rfl
                      exact OpX.val u331 wd342 rfl (op_move e347) (Ext.refl _) rfl
                    · refine ObX.op rfl fun f348 wd349 he350 hout351 hphi352 => ?_
                      have e354 : f348 11 = (Value.int .i64 (k213 : Int)) := (hout351 11 rfl).trans hf315
                      exact OpX.val (Value.int .i64 (k213 : Int)) wd349 rfl (op_move e354) (Ext.refl _) ⟨rfl, hr231⟩
                    · refine ObX.op rfl fun f355 wd356 he357 hout358 hphi359 => ?_
                      have hS360 := St.extend hS324 he357
                      obtain ⟨S361, hS362, hf363⟩ := hphi359 1 73 _ rfl rfl rfl
                      have e364 : f355 73 = u331 := hf363
                      obtain ⟨S365, hS366, hf367⟩ := hphi359 2 74 _ rfl rfl rfl
                      obtain ⟨e368, hr369⟩ := hf367
                      exact OpX.val (Value.pointer (some (elA u331 ((k213 : Int)).toNat))) wd356 rfl (op_idx sl_25 (Ty.lift _ hS360.ext hr333) e364 e368 ha371 hb372) (Ext.refl _) rfl
                    · refine ObX.op rfl fun f374 wd375 he376 hout377 hphi378 => ?_
                      have hS379 := St.extend hS324 he376
                      obtain ⟨S380, hS381, hf382⟩ := hphi378 3 75 _ rfl rfl rfl
                      have e383 : f374 75 = (Value.pointer (some (elA u331 ((k213 : Int)).toNat))) := hf382
                      exact OpX.val (Value.int .i64 x370) wd375 rfl (op_load one_2 e383 (Ext.cell hS379.ext hc385)) (Ext.refl _) ⟨rfl, hr386⟩
                    · refine ObX.op rfl fun f387 wd388 he389 hout390 hphi391 => ?_
                      have e393 : f387 18 = u331 := (hout390 18 rfl).trans rfl
                      exact OpX.val u331 wd388 rfl (op_move e393) (Ext.refl _) rfl
                    · refine ObX.op rfl fun f394 wd395 he396 hout397 hphi398 => ?_
                      have e400 : f394 13 = (Value.int .i64 (k241 : Int)) := (hout397 13 rfl).trans hf317
                      exact OpX.val (Value.int .i64 (k241 : Int)) wd395 rfl (op_move e400) (Ext.refl _) ⟨rfl, hr261⟩
                    · refine ObX.op rfl fun f401 wd402 he403 hout404 hphi405 => ?_
                      have hS406 := St.extend hS324 he403
                      obtain ⟨S407, hS408, hf409⟩ := hphi405 5 77 _ rfl rfl rfl
                      have e410 : f401 77 = u331 := hf409
                      obtain ⟨S411, hS412, hf413⟩ := hphi405 6 78 _ rfl rfl rfl
                      obtain ⟨e414, hr415⟩ := hf413
                      exact OpX.val (Value.pointer (some (elA u331 ((k241 : Int)).toNat))) wd402 rfl (op_idx sl_25 (Ty.lift _ hS406.ext hr333) e410 e414 ha417 hb418) (Ext.refl _) rfl
                    · refine ObX.op rfl fun f420 wd421 he422 hout423 hphi424 => ?_
                      have hS425 := St.extend hS324 he422
                      obtain ⟨S426, hS427, hf428⟩ := hphi424 7 79 _ rfl rfl rfl
                      have e429 : f420 79 = (Value.pointer (some (elA u331 ((k241 : Int)).toNat))) := hf428
                      exact OpX.val (Value.int .i64 x416) wd421 rfl (op_load one_2 e429 (Ext.cell hS425.ext hc431)) (Ext.refl _) ⟨rfl, hr432⟩
                    · refine ObX.op rfl fun f433 wd434 he435 hout436 hphi437 => ?_
                      obtain ⟨S439, hS440, hf441⟩ := hphi437 4 76 _ rfl rfl rfl
                      obtain ⟨e442, hr443⟩ := hf441
                      obtain ⟨S444, hS445, hf446⟩ := hphi437 8 80 _ rfl rfl rfl
                      obtain ⟨e447, hr448⟩ := hf446
                      exact OpX.val (Value.int .i64 (w64 (x370 * x416))) wd434 rfl (op_mul e442 e447) (Ext.refl _) ⟨rfl, (inR_wrap _ _)⟩
                    · refine ObX.op rfl fun f449 wd450 he451 hout452 hphi453 => ?_
                      obtain ⟨S455, hS456, hf457⟩ := hphi453 9 81 _ rfl rfl rfl
                      obtain ⟨e458, hr459⟩ := hf457
                      exact OpX.val (Value.int .i64 (((w64 (x370 * x416))).tmod (55441 : Int))) wd450 rfl (op_rem (b := 55441) e458 rfl (by decide)) (Ext.refl _) ⟨rfl, (inR_tmod hr459)⟩
                    · refine ObX.op rfl fun f460 wd461 he462 hout463 hphi464 => ?_
                      have e466 : f460 18 = u331 := (hout463 18 rfl).trans rfl
                      exact OpX.val u331 wd461 rfl (op_move e466) (Ext.refl _) rfl
                    · refine ObX.op rfl fun f467 wd468 he469 hout470 hphi471 => ?_
                      have e473 : f467 1 = v_duals := (hout470 1 rfl).trans hf310
                      exact OpX.val v_duals wd468 rfl (op_move e473) (Ext.refl _) rfl
                    · refine ObX.op rfl fun f474 wd475 he476 hout477 hphi478 => ?_
                      have e480 : f474 15 = (Value.int .i64 (k271 : Int)) := (hout477 15 rfl).trans hf319
                      exact OpX.val (Value.int .i64 (k271 : Int)) wd475 rfl (op_move e480) (Ext.refl _) ⟨rfl, hr293⟩
                    · refine ObX.op rfl fun f481 wd482 he483 hout484 hphi485 => ?_
                      have hS486 := St.extend hS324 he483
                      obtain ⟨S487, hS488, hf489⟩ := hphi485 12 84 _ rfl rfl rfl
                      have e490 : f481 84 = v_duals := hf489
                      obtain ⟨S491, hS492, hf493⟩ := hphi485 13 85 _ rfl rfl rfl
                      obtain ⟨e494, hr495⟩ := hf493
                      exact OpX.val (Value.pointer (some (elA v_duals ((k271 : Int)).toNat))) wd482 rfl (op_idx sl_25 (Ty.lift _ hS486.ext r_duals) e490 e494 ha497 hb498) (Ext.refl _) rfl
                    · refine ObX.op rfl fun f500 wd501 he502 hout503 hphi504 => ?_
                      have hS505 := St.extend hS324 he502
                      obtain ⟨S506, hS507, hf508⟩ := hphi504 14 86 _ rfl rfl rfl
                      have e509 : f500 86 = (Value.pointer (some (elA v_duals ((k271 : Int)).toNat))) := hf508
                      exact OpX.val (Value.int .i64 x496) wd501 rfl (op_load one_2 e509 (Ext.cell hS505.ext hc511)) (Ext.refl _) ⟨rfl, hr512⟩
                    · refine ObX.op rfl fun f513 wd514 he515 hout516 hphi517 => ?_
                      have hS518 := St.extend hS324 he515
                      obtain ⟨S519, hS520, hf521⟩ := hphi517 11 83 _ rfl rfl rfl
                      have e522 : f513 83 = u331 := hf521
                      obtain ⟨S523, hS524, hf525⟩ := hphi517 15 87 _ rfl rfl rfl
                      obtain ⟨e526, hr527⟩ := hf525
                      exact OpX.val (Value.pointer (some (elA u331 (x496).toNat))) wd514 rfl (op_idx sl_25 (Ty.lift _ hS518.ext hr333) e522 e526 ha529 hb530) (Ext.refl _) rfl
                    · refine ObX.op rfl fun f532 wd533 he534 hout535 hphi536 => ?_
                      have hS537 := St.extend hS324 he534
                      obtain ⟨S538, hS539, hf540⟩ := hphi536 16 88 _ rfl rfl rfl
                      have e541 : f532 88 = (Value.pointer (some (elA u331 (x496).toNat))) := hf540
                      exact OpX.val (Value.int .i64 x528) wd533 rfl (op_load one_2 e541 (Ext.cell hS537.ext hc543)) (Ext.refl _) ⟨rfl, hr544⟩
                    · refine ObX.op rfl fun f545 wd546 he547 hout548 hphi549 => ?_
                      obtain ⟨S551, hS552, hf553⟩ := hphi549 10 82 _ rfl rfl rfl
                      obtain ⟨e554, hr555⟩ := hf553
                      obtain ⟨S556, hS557, hf558⟩ := hphi549 17 89 _ rfl rfl rfl
                      obtain ⟨e559, hr560⟩ := hf558
                      exact OpX.val (Value.int .i64 (w64 ((((w64 (x370 * x416))).tmod (55441 : Int)) * x528))) wd546 rfl (op_mul e554 e559) (Ext.refl _) ⟨rfl, (inR_wrap _ _)⟩
                    · refine ObX.op rfl fun f561 wd562 he563 hout564 hphi565 => ?_
                      obtain ⟨S567, hS568, hf569⟩ := hphi565 18 90 _ rfl rfl rfl
                      obtain ⟨e570, hr571⟩ := hf569
                      exact OpX.val (Value.int .i64 (((w64 ((((w64 (x370 * x416))).tmod (55441 : Int)) * x528))).tmod (55441 : Int))) wd562 rfl (op_rem (b := 55441) e570 rfl (by decide)) (Ext.refl _) ⟨rfl, (inR_tmod hr571)⟩
                    · refine ObX.op rfl fun f572 wd573 he574 hout575 hphi576 => ?_
                      have e578 : f572 7 = u197 := (hout575 7 rfl).trans hf313
                      exact OpX.val u197 wd573 rfl (op_move e578) (Ext.refl _) rfl
                    · refine ObX.op rfl fun f579 wd580 he581 hout582 hphi583 => ?_
                      have e585 : f579 17 = (Value.int .i64 (k299 : Int)) := (hout582 17 rfl).trans hf322
                      exact OpX.val (Value.int .i64 (k299 : Int)) wd580 rfl (op_move e585) (Ext.refl _) ⟨rfl, hr323⟩
                    · refine ObX.op rfl fun f586 wd587 he588 hout589 hphi590 => ?_
                      have hS591 := St.extend hS324 he588
                      obtain ⟨S592, hS593, hf594⟩ := hphi590 20 92 _ rfl rfl rfl
                      have e595 : f586 92 = u197 := hf594
                      obtain ⟨S596, hS597, hf598⟩ := hphi590 21 93 _ rfl rfl rfl
                      obtain ⟨e599, hr600⟩ := hf598
                      exact OpX.val (Value.pointer (some (elA u197 ((k299 : Int)).toNat))) wd587 rfl (op_idx sl_25 (St.rep (t := (Ty.sl (Ty.i .i64))) hS591 1 rfl) e595 e599 ha602 hb603) (Ext.refl _) rfl
                    · refine ObX.op rfl fun f605 wd606 he607 hout608 hphi609 => ?_
                      obtain ⟨S611, hS612, hf613⟩ := hphi609 22 94 _ rfl rfl rfl
                      have e614 : f605 94 = (Value.pointer (some (elA u197 ((k299 : Int)).toNat))) := hf613
                      exact OpX.val (Value.int .i64 x601) wd606 rfl (op_load one_2 e614 (Ext.cell he607 hc616)) (Ext.refl _) ⟨rfl, hr617⟩
                    · refine ObX.op rfl fun f618 wd619 he620 hout621 hphi622 => ?_
                      obtain ⟨S624, hS625, hf626⟩ := hphi622 19 91 _ rfl rfl rfl
                      obtain ⟨e627, hr628⟩ := hf626
                      obtain ⟨S629, hS630, hf631⟩ := hphi622 23 95 _ rfl rfl rfl
                      obtain ⟨e632, hr633⟩ := hf631
                      exact OpX.val (Value.int .i64 (w64 ((((w64 ((((w64 (x370 * x416))).tmod (55441 : Int)) * x528))).tmod (55441 : Int)) * x601))) wd619 rfl (op_mul e627 e632) (Ext.refl _) ⟨rfl, (inR_wrap _ _)⟩
                    · intro f634 wd635 Ss636 he637 hout638 hSn639 hSd640 hphi641
                      show WL _ _ _ _ _ _ _
                      have hS642 := St.extend hS324 he637
                      obtain ⟨e643, hr644⟩ := hphi641 0 72 _ (by decide) rfl rfl
                      obtain ⟨e645, hr646⟩ := hphi641 24 96 _ (by decide) rfl rfl
                      have e647 : f634 0 = v_table := (hout638 0 rfl).trans hf309
                      have e648 : f634 1 = v_duals := (hout638 1 rfl).trans hf310
                      have e649 : f634 4 = (Value.pointer (some ⟨b1, 0, none⟩)) := (hout638 4 rfl).trans hf311
                      have e650 : f634 6 = (Value.int .i64 ((table).length : Int)) := (hout638 6 rfl).trans hf312
                      have e651 : f634 7 = u197 := (hout638 7 rfl).trans hf313
                      have e652 : f634 10 = (Value.pointer (some ⟨b204, 0, none⟩)) := (hout638 10 rfl).trans hf314
                      have e653 : f634 11 = (Value.int .i64 (k213 : Int)) := (hout638 11 rfl).trans hf315
                      have e654 : f634 12 = u251 := (hout638 12 rfl).trans hf316
                      have e655 : f634 13 = (Value.int .i64 (k241 : Int)) := (hout638 13 rfl).trans hf317
                      have e656 : f634 14 = u281 := (hout638 14 rfl).trans hf318
                      have e657 : f634 15 = (Value.int .i64 (k271 : Int)) := (hout638 15 rfl).trans hf319
                      have e658 : f634 17 = (Value.int .i64 (k299 : Int)) := (hout638 17 rfl).trans hf322
                      refine WL.val (Value.int .i64 (w64 (x300 + (w64 ((((w64 ((((w64 (x370 * x416))).tmod (55441 : Int)) * x528))).tmod (55441 : Int)) * x601))))) _ (op_add e643 e645) rfl ?_
                      refine WL.val (Value.int .i64 (((w64 (x300 + (w64 ((((w64 ((((w64 (x370 * x416))).tmod (55441 : Int)) * x528))).tmod (55441 : Int)) * x601))))).tmod (55441 : Int))) _ (op_rem (b := 55441) rfl rfl (by decide)) rfl ?_
                      refine WL.val (Value.int .i64 (((w64 (x300 + (w64 ((((w64 ((((w64 (x370 * x416))).tmod (55441 : Int)) * x528))).tmod (55441 : Int)) * x601))))).tmod (55441 : Int))) _ (op_assign rfl) rfl ?_
                      refine WL.nil ?_
                      show W _ _ _ _ _ _
                      refine W.region ?_
                      refine WL.val (Value.int .i64 (k299 : Int)) _ (op_move e658) rfl ?_
                      refine WL.val (Value.int .i64 (w64 ((k299 : Int) + (1 : Int)))) _ (op_add rfl rfl) rfl ?_
                      refine WL.val (Value.int .i64 (w64 ((k299 : Int) + (1 : Int)))) _ (op_assign rfl) rfl ?_
                      refine WL.nil ?_
                      obtain rfl := Option.some.inj hb305
                      show ∃ s, _ = Ctl.next s ∧ _
                      exact ⟨_, rfl, e647, e648, e649, e650, e651, e652, e653, e654, e655, e656, e657, rfl, (inR_tmod (inR_wrap _ _)), (ctr_next hl325 hr5), (ctr_rng hl325 hr5), hS642⟩
                  · intro x665 f660 wd661 hs662 hI663
                    replace hI663 : f660 0 = v_table ∧ f660 1 = v_duals ∧ f660 4 = (Value.pointer (some ⟨b1, 0, none⟩)) ∧ f660 6 = (Value.int .i64 ((table).length : Int)) ∧ f660 7 = u197 ∧ f660 10 = (Value.pointer (some ⟨b204, 0, none⟩)) ∧ f660 11 = (Value.int .i64 (k213 : Int)) ∧ f660 12 = u251 ∧ f660 13 = (Value.int .i64 (k241 : Int)) ∧ f660 14 = u281 ∧ f660 15 = (Value.int .i64 (k271 : Int)) ∧ f660 16 = Value.int .i64 x665 ∧ InR .i64 x665 ∧ f660 17 = Value.int .i64 (((table).length : Nat) : Int) ∧ InR .i64 (((table).length : Nat) : Int) ∧ St w wd661 [bx b1 [(Value.slice none 0 0)], (Ty.sl (Ty.i .i64)).at u197 x196, bx b204 [u223], (Ty.sl (Ty.sl (Ty.sl (Ty.i .i64)))).at u223 x214, (Ty.sl (Ty.sl (Ty.i .i64))).at u251 x242, (Ty.sl (Ty.i .i64)).at u281 x272] := hI663
                    obtain ⟨hf666, hf667, hf668, hf669, hf670, hf671, hf672, hf673, hf674, hf675, hf676, hf677, hr678, hf679, hr680, hS681⟩ := hI663
                    refine W.seq (W.seq (W.region ?_))
                    refine WL.val (Value.int .i64 (((table).length : Nat) : Int)) _ (op_move hf679) rfl ?_
                    refine WL.val (Value.int .i64 ((table).length : Int)) _ (op_move hf669) rfl ?_
                    refine WL.val (Value.bool (decide ((((table).length : Nat) : Int) < ((table).length : Int)))) _ (op_lss rfl rfl) rfl ?_
                    have hl682 : ¬ (((table).length : Nat) : Int) < ((table).length : Int) := by omega
                    refine WL.nil ?_
                    refine W.condF (decide ((((table).length : Nat) : Int) < ((table).length : Int))) rfl (decide_eq_false hl682) ?_
                    refine W.exit ?_
                    show _ = _ ∧ _
                    exact ⟨rfl, _, hs662, hf666, hf667, hf668, hf669, hf670, hf671, hf672, hf673, hf674, hf675, hf676, hf677, hr678, hS681⟩
                · rintro f683 wd684 ⟨x687, rfl, hq685⟩
                  replace hb277 := onRes_fin hb277
                  replace hq685 : f683 0 = v_table ∧ f683 1 = v_duals ∧ f683 4 = (Value.pointer (some ⟨b1, 0, none⟩)) ∧ f683 6 = (Value.int .i64 ((table).length : Int)) ∧ f683 7 = u197 ∧ f683 10 = (Value.pointer (some ⟨b204, 0, none⟩)) ∧ f683 11 = (Value.int .i64 (k213 : Int)) ∧ f683 12 = u251 ∧ f683 13 = (Value.int .i64 (k241 : Int)) ∧ f683 14 = u281 ∧ f683 15 = (Value.int .i64 (k271 : Int)) ∧ f683 16 = Value.int .i64 x687 ∧ InR .i64 x687 ∧ St w wd684 [bx b1 [(Value.slice none 0 0)], (Ty.sl (Ty.i .i64)).at u197 x196, bx b204 [u223], (Ty.sl (Ty.sl (Ty.sl (Ty.i .i64)))).at u223 x214, (Ty.sl (Ty.sl (Ty.i .i64))).at u251 x242, (Ty.sl (Ty.i .i64)).at u281 x272] := hq685
                  obtain ⟨hf688, hf689, hf690, hf691, hf692, hf693, hf694, hf695, hf696, hf697, hf698, hf699, hr700, hS701⟩ := hq685
                  show W _ _ _ _ _ _
                  refine W.region ?_
                  refine WL.val u281 _ (op_move hf697) rfl ?_
                  refine WL.val (Value.int .i64 x687) _ (op_move hf699) rfl ?_
                  refine WL.litFlat (t := (Ty.i .i64)) (flat_i .i64) [(Value.int .i64 x687)] [x687] hS701 sl_25 rfl rfl (fillL rfl ⟨rfl, rfl, rfl, trivial⟩) rfl rfl (litL ⟨⟨rfl, hr700⟩, trivial⟩) rfl ?_
                  intro u702 wd703 hS704 he705
                  replace hS704 : St w wd703 [bx b1 [(Value.slice none 0 0)], (Ty.sl (Ty.i .i64)).at u197 x196, bx b204 [u223], (Ty.sl (Ty.sl (Ty.sl (Ty.i .i64)))).at u223 x214, (Ty.sl (Ty.sl (Ty.i .i64))).at u251 x242, (Ty.sl (Ty.i .i64)).at u281 x272, (Ty.sl (Ty.i .i64)).at u702 ([x687] : (List Int))] := hS704
                  obtain ⟨x706, hx707, hb277⟩ := bs hb277
                  refine WL.append (flat_i .i64) hS704 (k := 5) rfl sl_25 rfl rfl rfl rfl (St.rep (t := (Ty.sl (Ty.i .i64))) hS704 6 rfl) hx707 rfl ?_
                  intro u708 wd709 hS710 hz711
                  replace hS710 : St w wd709 [bx b1 [(Value.slice none 0 0)], (Ty.sl (Ty.i .i64)).at u197 x196, bx b204 [u223], (Ty.sl (Ty.sl (Ty.sl (Ty.i .i64)))).at u223 x214, (Ty.sl (Ty.sl (Ty.i .i64))).at u251 x242, (Ty.sl (Ty.i .i64)).at u708 x706, (Ty.sl (Ty.i .i64)).at u702 ([x687] : (List Int))] := hS710
                  refine WL.val u708 _ (op_assign rfl) rfl ?_
                  refine WL.nil ?_
                  show W _ _ _ _ _ _
                  refine W.region ?_
                  refine WL.val (Value.int .i64 (k271 : Int)) _ (op_move hf698) rfl ?_
                  refine WL.val (Value.int .i64 (w64 ((k271 : Int) + (1 : Int)))) _ (op_add rfl rfl) rfl ?_
                  refine WL.val (Value.int .i64 (w64 ((k271 : Int) + (1 : Int)))) _ (op_assign rfl) rfl ?_
                  refine WL.nil ?_
                  obtain rfl := Option.some.inj hb277
                  show ∃ s, _ = Ctl.next s ∧ _
                  exact ⟨_, rfl, u708, hf688, hf689, hf690, hf691, hf692, hf693, hf694, hf695, hf696, rfl, (ctr_next hl295 hr5), (ctr_rng hl295 hr5), (St.pick hS710 [0, 1, 2, 3, 4, 5] rfl)⟩
              · intro x719 f714 wd715 hs716 hI717
                replace hI717 : ∃ (uu0 : Value), f714 0 = v_table ∧ f714 1 = v_duals ∧ f714 4 = (Value.pointer (some ⟨b1, 0, none⟩)) ∧ f714 6 = (Value.int .i64 ((table).length : Int)) ∧ f714 7 = u197 ∧ f714 10 = (Value.pointer (some ⟨b204, 0, none⟩)) ∧ f714 11 = (Value.int .i64 (k213 : Int)) ∧ f714 12 = u251 ∧ f714 13 = (Value.int .i64 (k241 : Int)) ∧ f714 14 = uu0 ∧ f714 15 = Value.int .i64 (((table).length : Nat) : Int) ∧ InR .i64 (((table).length : Nat) : Int) ∧ St w wd715 [bx b1 [(Value.slice none 0 0)], (Ty.sl (Ty.i .i64)).at u197 x196, bx b204 [u223], (Ty.sl (Ty.sl (Ty.sl (Ty.i .i64)))).at u223 x214, (Ty.sl (Ty.sl (Ty.i .i64))).at u251 x242, (Ty.sl (Ty.i .i64)).at uu0 x719] := hI717
                obtain ⟨u720, hf721, hf722, hf723, hf724, hf725, hf726, hf727, hf728, hf729, hf730, hf731, hr732, hS733⟩ := hI717
                refine W.seq (W.seq (W.region ?_))
                refine WL.val (Value.int .i64 (((table).length : Nat) : Int)) _ (op_move hf731) rfl ?_
                refine WL.val (Value.int .i64 ((table).length : Int)) _ (op_move hf724) rfl ?_
                refine WL.val (Value.bool (decide ((((table).length : Nat) : Int) < ((table).length : Int)))) _ (op_lss rfl rfl) rfl ?_
                have hl734 : ¬ (((table).length : Nat) : Int) < ((table).length : Int) := by omega
                refine WL.nil ?_
                refine W.condF (decide ((((table).length : Nat) : Int) < ((table).length : Int))) rfl (decide_eq_false hl734) ?_
                refine W.exit ?_
                show _ = _ ∧ _
                exact ⟨rfl, _, hs716, u720, hf721, hf722, hf723, hf724, hf725, hf726, hf727, hf728, hf729, hf730, hS733⟩
            · rintro f735 wd736 ⟨x739, rfl, hq737⟩
              replace hb247 := onRes_fin hb247
              replace hq737 : ∃ (uu0 : Value), f735 0 = v_table ∧ f735 1 = v_duals ∧ f735 4 = (Value.pointer (some ⟨b1, 0, none⟩)) ∧ f735 6 = (Value.int .i64 ((table).length : Int)) ∧ f735 7 = u197 ∧ f735 10 = (Value.pointer (some ⟨b204, 0, none⟩)) ∧ f735 11 = (Value.int .i64 (k213 : Int)) ∧ f735 12 = u251 ∧ f735 13 = (Value.int .i64 (k241 : Int)) ∧ f735 14 = uu0 ∧ St w wd736 [bx b1 [(Value.slice none 0 0)], (Ty.sl (Ty.i .i64)).at u197 x196, bx b204 [u223], (Ty.sl (Ty.sl (Ty.sl (Ty.i .i64)))).at u223 x214, (Ty.sl (Ty.sl (Ty.i .i64))).at u251 x242, (Ty.sl (Ty.i .i64)).at uu0 x739] := hq737
              obtain ⟨u740, hf741, hf742, hf743, hf744, hf745, hf746, hf747, hf748, hf749, hf750, hS751⟩ := hq737
              show W _ _ _ _ _ _
              refine W.region ?_
              refine WL.val u251 _ (op_move hf748) rfl ?_
              refine WL.val u740 _ (op_move hf750) rfl ?_
              refine WL.lit [u740] hS751 sl_43 rfl rfl (fillL rfl ⟨rfl, rfl, (cells_rep (St.rep (t := (Ty.sl (Ty.i .i64))) hS751 5 rfl)), trivial⟩) rfl rfl ?_
              intro b756 wd753 hS754 he755 hx757
              replace hS754 : St w wd753 [bx b1 [(Value.slice none 0 0)], (Ty.sl (Ty.i .i64)).at u197 x196, bx b204 [u223], (Ty.sl (Ty.sl (Ty.sl (Ty.i .i64)))).at u223 x214, (Ty.sl (Ty.sl (Ty.i .i64))).at u251 x242, (Ty.sl (Ty.i .i64)).at u740 x739, bx b756 [u740]] := hS754
              obtain ⟨x758, hx759, hb247⟩ := bs hb247
              refine WL.appendRow hS754 (k := 4) (k2 := 5) (k3 := 6) rfl rfl rfl rfl sl_43 rfl rfl rfl rfl hx759 rfl ?_
              intro u760 wd761 hS762 hz763
              replace hS762 : St w wd761 [bx b1 [(Value.slice none 0 0)], (Ty.sl (Ty.i .i64)).at u197 x196, bx b204 [u223], (Ty.sl (Ty.sl (Ty.sl (Ty.i .i64)))).at u223 x214, (Ty.sl (Ty.sl (Ty.i .i64))).at u760 x758, emp, bx b756 [u740]] := hS762
              refine WL.val u760 _ (op_assign rfl) rfl ?_
              refine WL.nil ?_
              show W _ _ _ _ _ _
              refine W.region ?_
              refine WL.val (Value.int .i64 (k241 : Int)) _ (op_move hf749) rfl ?_
              refine WL.val (Value.int .i64 (w64 ((k241 : Int) + (1 : Int)))) _ (op_add rfl rfl) rfl ?_
              refine WL.val (Value.int .i64 (w64 ((k241 : Int) + (1 : Int)))) _ (op_assign rfl) rfl ?_
              refine WL.nil ?_
              obtain rfl := Option.some.inj hb247
              show ∃ s, _ = Ctl.next s ∧ _
              exact ⟨_, rfl, u760, hf741, hf742, hf743, hf744, hf745, hf746, hf747, rfl, (ctr_next hl263 hr5), (ctr_rng hl263 hr5), (St.pick hS762 [0, 1, 2, 3, 4] rfl)⟩
          · intro x771 f766 wd767 hs768 hI769
            replace hI769 : ∃ (uu0 : Value), f766 0 = v_table ∧ f766 1 = v_duals ∧ f766 4 = (Value.pointer (some ⟨b1, 0, none⟩)) ∧ f766 6 = (Value.int .i64 ((table).length : Int)) ∧ f766 7 = u197 ∧ f766 10 = (Value.pointer (some ⟨b204, 0, none⟩)) ∧ f766 11 = (Value.int .i64 (k213 : Int)) ∧ f766 12 = uu0 ∧ f766 13 = Value.int .i64 (((table).length : Nat) : Int) ∧ InR .i64 (((table).length : Nat) : Int) ∧ St w wd767 [bx b1 [(Value.slice none 0 0)], (Ty.sl (Ty.i .i64)).at u197 x196, bx b204 [u223], (Ty.sl (Ty.sl (Ty.sl (Ty.i .i64)))).at u223 x214, (Ty.sl (Ty.sl (Ty.i .i64))).at uu0 x771] := hI769
            obtain ⟨u772, hf773, hf774, hf775, hf776, hf777, hf778, hf779, hf780, hf781, hr782, hS783⟩ := hI769
            refine W.seq (W.seq (W.region ?_))
            refine WL.val (Value.int .i64 (((table).length : Nat) : Int)) _ (op_move hf781) rfl ?_
            refine WL.val (Value.int .i64 ((table).length : Int)) _ (op_move hf776) rfl ?_
            refine WL.val (Value.bool (decide ((((table).length : Nat) : Int) < ((table).length : Int)))) _ (op_lss rfl rfl) rfl ?_
            have hl784 : ¬ (((table).length : Nat) : Int) < ((table).length : Int) := by omega
            refine WL.nil ?_
            refine W.condF (decide ((((table).length : Nat) : Int) < ((table).length : Int))) rfl (decide_eq_false hl784) ?_
            refine W.exit ?_
            show _ = _ ∧ _
            exact ⟨rfl, _, hs768, u772, hf773, hf774, hf775, hf776, hf777, hf778, hf779, hf780, hS783⟩
        · rintro f785 wd786 ⟨x789, rfl, hq787⟩
          replace hb219 := onRes_fin hb219
          replace hq787 : ∃ (uu0 : Value), f785 0 = v_table ∧ f785 1 = v_duals ∧ f785 4 = (Value.pointer (some ⟨b1, 0, none⟩)) ∧ f785 6 = (Value.int .i64 ((table).length : Int)) ∧ f785 7 = u197 ∧ f785 10 = (Value.pointer (some ⟨b204, 0, none⟩)) ∧ f785 11 = (Value.int .i64 (k213 : Int)) ∧ f785 12 = uu0 ∧ St w wd786 [bx b1 [(Value.slice none 0 0)], (Ty.sl (Ty.i .i64)).at u197 x196, bx b204 [u223], (Ty.sl (Ty.sl (Ty.sl (Ty.i .i64)))).at u223 x214, (Ty.sl (Ty.sl (Ty.i .i64))).at uu0 x789] := hq787
          obtain ⟨u790, hf791, hf792, hf793, hf794, hf795, hf796, hf797, hf798, hS799⟩ := hq787
          show W _ _ _ _ _ _
          refine W.region ?_
          refine WL.val (Value.pointer (some ⟨b204, 0, none⟩)) _ (op_fieldAddr fd_29_0 hf796) rfl ?_
          refine WL.val u223 _ (op_load one_22 rfl (BoxAt.cell (St.boxAt hS799 2 rfl) rfl)) rfl ?_
          refine WL.val u790 _ (op_move hf798) rfl ?_
          refine WL.lit [u790] hS799 sl_22 rfl rfl (fillL rfl ⟨rfl, rfl, (cells_rep (St.rep (t := (Ty.sl (Ty.sl (Ty.i .i64)))) hS799 4 rfl)), trivial⟩) rfl rfl ?_
          intro b804 wd801 hS802 he803 hx805
          replace hS802 : St w wd801 [bx b1 [(Value.slice none 0 0)], (Ty.sl (Ty.i .i64)).at u197 x196, bx b204 [u223], (Ty.sl (Ty.sl (Ty.sl (Ty.i .i64)))).at u223 x214, (Ty.sl (Ty.sl (Ty.i .i64))).at u790 x789, bx b804 [u790]] := hS802
          obtain ⟨x806, hx807, hb219⟩ := bs hb219
          refine WL.appendRow hS802 (k := 3) (k2 := 4) (k3 := 5) rfl rfl rfl rfl sl_22 rfl rfl rfl rfl hx807 rfl ?_
          intro u808 wd809 hS810 hz811
          replace hS810 : St w wd809 [bx b1 [(Value.slice none 0 0)], (Ty.sl (Ty.i .i64)).at u197 x196, bx b204 [u223], (Ty.sl (Ty.sl (Ty.sl (Ty.i .i64)))).at u808 x806, emp, bx b804 [u790]] := hS810
          refine WL.val (Value.pointer (some ⟨b204, 0, none⟩)) _ (op_fieldAddr fd_29_0 hf796) rfl ?_
          refine WL.storeBox [u808] hS810 (k := 2) rfl rfl rfl (us := [u808]) (cells_rep (St.rep (t := (Ty.sl (Ty.sl (Ty.sl (Ty.i .i64))))) hS810 3 rfl)) sz_22 rfl rfl (all_rep (St.rep (t := (Ty.sl (Ty.sl (Ty.sl (Ty.i .i64))))) hS810 3 rfl) all_nil) rfl ?_
          intro wd812 hS813
          replace hS813 : St w wd812 [bx b1 [(Value.slice none 0 0)], (Ty.sl (Ty.i .i64)).at u197 x196, bx b204 [u808], (Ty.sl (Ty.sl (Ty.sl (Ty.i .i64)))).at u808 x806, emp, bx b804 [u790]] := hS813
          refine WL.nil ?_
          show W _ _ _ _ _ _
          refine W.region ?_
          refine WL.val (Value.int .i64 (k213 : Int)) _ (op_move hf797) rfl ?_
          refine WL.val (Value.int .i64 (w64 ((k213 : Int) + (1 : Int)))) _ (op_add rfl rfl) rfl ?_
          refine WL.val (Value.int .i64 (w64 ((k213 : Int) + (1 : Int)))) _ (op_assign rfl) rfl ?_
          refine WL.nil ?_
          obtain rfl := Option.some.inj hb219
          show ∃ s, _ = Ctl.next s ∧ _
          exact ⟨_, rfl, u808, hf791, hf792, hf793, hf794, hf795, hf796, (ctr_next hl233 hr5), (ctr_rng hl233 hr5), (St.pick hS813 [0, 1, 2, 3] rfl)⟩
      · intro x821 f816 wd817 hs818 hI819
        replace hI819 : ∃ (uu0 : Value), f816 0 = v_table ∧ f816 1 = v_duals ∧ f816 4 = (Value.pointer (some ⟨b1, 0, none⟩)) ∧ f816 6 = (Value.int .i64 ((table).length : Int)) ∧ f816 7 = u197 ∧ f816 10 = (Value.pointer (some ⟨b204, 0, none⟩)) ∧ f816 11 = Value.int .i64 (((table).length : Nat) : Int) ∧ InR .i64 (((table).length : Nat) : Int) ∧ St w wd817 [bx b1 [(Value.slice none 0 0)], (Ty.sl (Ty.i .i64)).at u197 x196, bx b204 [uu0], (Ty.sl (Ty.sl (Ty.sl (Ty.i .i64)))).at uu0 x821] := hI819
        obtain ⟨u822, hf823, hf824, hf825, hf826, hf827, hf828, hf829, hr830, hS831⟩ := hI819
        refine W.seq (W.seq (W.region ?_))
        refine WL.val (Value.int .i64 (((table).length : Nat) : Int)) _ (op_move hf829) rfl ?_
        refine WL.val (Value.int .i64 ((table).length : Int)) _ (op_move hf826) rfl ?_
        refine WL.val (Value.bool (decide ((((table).length : Nat) : Int) < ((table).length : Int)))) _ (op_lss rfl rfl) rfl ?_
        have hl832 : ¬ (((table).length : Nat) : Int) < ((table).length : Int) := by omega
        refine WL.nil ?_
        refine W.condF (decide ((((table).length : Nat) : Int) < ((table).length : Int))) rfl (decide_eq_false hl832) ?_
        refine W.exit ?_
        show _ = _ ∧ _
        exact ⟨rfl, _, hs818, u822, hf824, hf825, hf828, (St.pick hS831 [0, 2, 3] rfl)⟩
    · rintro f833 wd834 ⟨x837, rfl, hq835⟩
      replace h := onRes_fin h
      replace hq835 : ∃ (uu0 : Value), f833 1 = v_duals ∧ f833 4 = (Value.pointer (some ⟨b1, 0, none⟩)) ∧ f833 10 = (Value.pointer (some ⟨b204, 0, none⟩)) ∧ St w wd834 [bx b1 [(Value.slice none 0 0)], bx b204 [uu0], (Ty.sl (Ty.sl (Ty.sl (Ty.i .i64)))).at uu0 x837] := hq835
      obtain ⟨u838, hf839, hf840, hf841, hS842⟩ := hq835
      refine W.seq (W.seq (W.region ?_))
      refine WL.val (Value.agg #[u838]) _ (op_loadBox st_29 hf841 (St.boxAt hS842 1 rfl) rfl rfl) rfl ?_
      obtain ⟨x843, hx844, h⟩ := bs h
      refine WL.call _ (op_call fn_35 (args1 rfl)) (c_spec_l03Is (St.rep (t := (Ty.sl (Ty.sl (Ty.sl (Ty.i .i64))))) hS842 2 rfl) hx844) rfl ?_
      rintro _ wd845 ⟨rfl, he846⟩
      have hS848 := St.extend hS842 he846
      replace hS848 : St w wd845 [bx b1 [(Value.slice none 0 0)], bx b204 [u838], (Ty.sl (Ty.sl (Ty.sl (Ty.i .i64)))).at u838 x837] := hS848
      refine WL.val (Value.bool (!x843)) _ (op_not rfl) rfl ?_
      refine WL.val (Value.bool (!x843)) _ (op_move rfl) rfl ?_
      obtain ⟨x850, hj851, h⟩ := bs h
      refine WL.cut 4 (fun fq wq => fq 1 = v_duals ∧ fq 4 = (Value.pointer (some ⟨b1, 0, none⟩)) ∧ fq 10 = (Value.pointer (some ⟨b204, 0, none⟩)) ∧ fq 120 = Value.bool x850 ∧ St w wq [bx b1 [(Value.slice none 0 0)], bx b204 [u838], (Ty.sl (Ty.sl (Ty.sl (Ty.i .i64)))).at u838 x837]) ?_ ?_
      · rcases Bool.eq_false_or_eq_true (!x843) with hc849 | hc849
        · replace hj851 := ip hj851 hc849
          refine WL.gskip rfl (bool_of rfl hc849) rfl ?_
          refine WL.gskip rfl (bool_of rfl hc849) rfl ?_
          refine WL.gskip rfl (bool_of rfl hc849) rfl ?_
          refine WL.val (Value.bool true) _ (op_pick_t (evb_of rfl hc849) rfl) rfl ?_
          refine WL.nil ?_
          obtain rfl := Option.some.inj hj851
          exact ⟨rfl, hf839, hf840, hf841, rfl, hS848⟩
        · replace hj851 := inegb hj851 hc849
          refine WL.grun rfl (bool_of rfl hc849) ?_
          refine WL.val (Value.agg #[u838]) _ (op_loadBox st_29 hf841 (St.boxAt hS848 1 rfl) rfl rfl) rfl ?_
          refine WL.grun rfl (bool_of rfl hc849) ?_
          obtain ⟨x855, hx856, hj851⟩ := bs hj851
          refine WL.call _ (op_call fn_36 (args1 rfl)) (c_spec_l03Commutative (St.rep (t := (Ty.sl (Ty.sl (Ty.sl (Ty.i .i64))))) hS848 2 rfl) hx856) rfl ?_
          rintro _ wd857 ⟨rfl, he858⟩
          have hS860 := St.extend hS848 he858
          replace hS860 : St w wd857 [bx b1 [(Value.slice none 0 0)], bx b204 [u838], (Ty.sl (Ty.sl (Ty.sl (Ty.i .i64)))).at u838 x837] := hS860
          refine WL.grun rfl (bool_of rfl hc849) ?_
          refine WL.val (Value.bool (!x855)) _ (op_not rfl) rfl ?_
          refine WL.val (Value.bool (!x855)) _ (op_pick_f (evb_of rfl hc849) rfl) rfl ?_
          refine WL.nil ?_
          obtain rfl := Option.some.inj hj851
          exact ⟨rfl, hf839, hf840, hf841, rfl, hS860⟩
      · intro f852 wd853 hq854
        obtain ⟨hf861, hf862, hf863, hf864, hS865⟩ := hq854
        refine WL.val (Value.bool x850) _ (op_move hf864) rfl ?_
        obtain ⟨x867, hj868, h⟩ := bs h
        refine WL.cut 6 (fun fq wq => fq 4 = (Value.pointer (some ⟨b1, 0, none⟩)) ∧ fq 10 = (Value.pointer (some ⟨b204, 0, none⟩)) ∧ fq 127 = Value.bool x867 ∧ St w wq [bx b1 [(Value.slice none 0 0)], bx b204 [u838], (Ty.sl (Ty.sl (Ty.sl (Ty.i .i64)))).at u838 x837]) ?_ ?_
        · rcases Bool.eq_false_or_eq_true x850 with hc866 | hc866
          · replace hj868 := ip hj868 hc866
            refine WL.gskip rfl (bool_of rfl hc866) rfl ?_
            refine WL.gskip rfl (bool_of rfl hc866) rfl ?_
            refine WL.gskip rfl (bool_of rfl hc866) rfl ?_
            refine WL.gskip rfl (bool_of rfl hc866) rfl ?_
            refine WL.gskip rfl (bool_of rfl hc866) rfl ?_
            refine WL.val (Value.bool true) _ (op_pick_t (evb_of rfl hc866) rfl) rfl ?_
            refine WL.nil ?_
            obtain rfl := Option.some.inj hj868
            exact ⟨rfl, hf862, hf863, rfl, hS865⟩
          · replace hj868 := inegb hj868 hc866
            refine WL.grun rfl (bool_of rfl hc866) ?_
            refine WL.val (Value.agg #[u838]) _ (op_loadBox st_29 hf863 (St.boxAt hS865 1 rfl) rfl rfl) rfl ?_
            refine WL.grun rfl (bool_of rfl hc866) ?_
            obtain ⟨x872, hx873, hj868⟩ := bs hj868
            refine WL.call _ (op_call fn_50 (args1 rfl)) (c_spec_l03Duals (St.rep (t := (Ty.sl (Ty.sl (Ty.sl (Ty.i .i64))))) hS865 2 rfl) hx873) rfl ?_
            rintro u874 wd875 ⟨_, rfl, he876, hs877⟩
            have hS878 := St.join hS865 he876 hs877
            replace hS878 : St w wd875 [bx b1 [(Value.slice none 0 0)], bx b204 [u838], (Ty.sl (Ty.sl (Ty.sl (Ty.i .i64)))).at u838 x837, (Ty.sl (Ty.i .i64)).at u874 x872] := hS878
            refine WL.grun rfl (bool_of rfl hc866) ?_
            refine WL.val v_duals _ (op_move hf861) rfl ?_
            refine WL.grun rfl (bool_of rfl hc866) ?_
            obtain ⟨x879, hx880, hj868⟩ := bs hj868
            refine WL.call _ (op_call fn_69 (args2 rfl rfl)) (c_spec_l01Same (St.rep (t := (Ty.sl (Ty.i .i64))) hS878 3 rfl) (Ty.lift _ hS878.ext r_duals) hx880) rfl ?_
            rintro _ wd881 ⟨rfl, he882⟩
            have hS884 := St.extend hS878 he882
            replace hS884 : St w wd881 [bx b1 [(Value.slice none 0 0)], bx b204 [u838], (Ty.sl (Ty.sl (Ty.sl (Ty.i .i64)))).at u838 x837, (Ty.sl (Ty.i .i64)).at u874 x872] := hS884
            refine WL.grun rfl (bool_of rfl hc866) ?_
            refine WL.val (Value.bool (!x879)) _ (op_not rfl) rfl ?_
            refine WL.val (Value.bool (!x879)) _ (op_pick_f (evb_of rfl hc866) rfl) rfl ?_
            refine WL.nil ?_
            obtain rfl := Option.some.inj hj868
            exact ⟨rfl, hf862, hf863, rfl, (St.pick hS884 [0, 1, 2] rfl)⟩
        · intro f869 wd870 hq871
          obtain ⟨hf885, hf886, hf887, hS888⟩ := hq871
          refine WL.nil ?_
          refine W.cond x867 hf887 (fun hc889 => ?_) (fun hc889 => ?_)
          · replace h := ip h hc889
            refine W.seq (W.region ?_)
            refine WL.val (Value.agg #[(Value.slice none 0 0)]) _ (op_build bd_29 (parts := []) (partsL trivial) trivial rfl) rfl ?_
            have hS893 := St.addNil (Ty.sl (Ty.sl (Ty.i .i64))) hS888
            replace hS893 : St w wd870 [bx b1 [(Value.slice none 0 0)], bx b204 [u838], (Ty.sl (Ty.sl (Ty.sl (Ty.i .i64)))).at u838 x837, (Ty.sl (Ty.sl (Ty.sl (Ty.i .i64)))).at (Value.slice none 0 0) ([] : (List (List (List Int))))] := hS893
            refine WL.storeBox [(Value.slice none 0 0)] hS893 (k := 0) rfl hf885 rfl (us := [(Value.slice none 0 0)]) rfl sz_29 rfl rfl (all_rep (St.rep (t := (Ty.sl (Ty.sl (Ty.sl (Ty.i .i64))))) hS893 3 rfl) all_nil) rfl ?_
            intro wd891 hS892
            replace hS892 : St w wd891 [bx b1 [(Value.slice none 0 0)], bx b204 [u838], (Ty.sl (Ty.sl (Ty.sl (Ty.i .i64)))).at u838 x837, (Ty.sl (Ty.sl (Ty.sl (Ty.i .i64)))).at (Value.slice none 0 0) ([] : (List (List (List Int))))] := hS892
            refine WL.val (Value.bool false) _ (op_assign rfl) rfl ?_
            refine WL.nil ?_
            refine W.ret ?_
            obtain rfl := Option.some.inj h
            show FinP _ _ _ _ _ _ _
            exact FinP.ret _ (resCT rfl hf885 st_29 (St.boxAt hS892 0 rfl) rfl rfl) ⟨(Value.slice none 0 0), rfl, hS892.ext, (St.out (St.pick hS892 [3] rfl) (Ext.refl _))⟩
          · replace h := inegb h hc889
            refine W.skip ?_
            refine W.seq (W.region ?_)
            refine WL.val (Value.agg #[u838]) _ (op_loadBox st_29 hf886 (St.boxAt hS888 1 rfl) rfl rfl) rfl ?_
            refine WL.storeBox [u838] hS888 (k := 0) rfl hf885 rfl (us := [u838]) rfl sz_29 rfl rfl (all_rep (St.rep (t := (Ty.sl (Ty.sl (Ty.sl (Ty.i .i64))))) hS888 2 rfl) all_nil) rfl ?_
            intro wd894 hS895
            replace hS895 : St w wd894 [bx b1 [u838], bx b204 [u838], (Ty.sl (Ty.sl (Ty.sl (Ty.i .i64)))).at u838 x837] := hS895
            refine WL.val (Value.bool true) _ (op_assign rfl) rfl ?_
            refine WL.nil ?_
            refine W.ret ?_
            obtain rfl := Option.some.inj h
            show FinP _ _ _ _ _ _ _
            exact FinP.ret _ (resCT rfl hf885 st_29 (St.boxAt hS895 0 rfl) rfl rfl) ⟨u838, rfl, hS895.ext, (St.out (St.pick hS895 [2] rfl) (Ext.refl _))⟩

theorem c_spec_RingOfCharacters {w : World} {table : (List (List Int))} {v_table : Value} {duals : (List Int)} {v_duals : Value} (r_table : (Ty.sl (Ty.sl (Ty.i .i64))).rep w v_table table) (r_duals : (Ty.sl (Ty.i .i64)).rep w v_duals duals) {res : (List (List (List Int))) × Int} (h : p_spec_RingOfCharacters table duals  = some res) :
    Ret Try.prog 28 #[v_table, v_duals] w (fun v w' => ∃ (u0 : Value), v = (Value.tuple #[(Value.agg #[u0]), Value.int .i64 res.2]) ∧ InR .i64 res.2 ∧ Ext w w' ∧ Sep w.heap.size w' [(Ty.sl (Ty.sl (Ty.sl (Ty.i .i64)))).at u0 res.1]) := by
  unfold p_spec_RingOfCharacters at h
  have hS0 : St w w [] := St.start w
  refine Ret.start (fn := Try.f28) Try.func28 rfl 56 rfl rfl ?_
  refine W.seq (W.region ?_)
  refine WL.alloc hS0 ze_29 (cs := [(Value.slice none 0 0)]) rfl rfl ?_
  intro b1 wd2 hS3 he4
  replace hS3 : St w wd2 [bx b1 [(Value.slice none 0 0)]] := hS3
  refine WL.val (Value.int .i64 (0 : Int)) _ (op_assign rfl) rfl ?_
  refine WL.nil ?_
  refine W.seq (W.region ?_)
  refine WL.val v_table _ (op_move rfl) rfl ?_
  have hr5 := inR_len (Ty.lift _ hS3.ext r_table)
  refine WL.val (Value.int .i64 ((table).length : Int)) _ (op_lenL sl_43 (Ty.lift _ hS3.ext r_table) rfl) rfl ?_
  refine WL.val (Value.int .i64 ((table).length : Int)) _ (op_assign rfl) rfl ?_
  refine WL.nil ?_
  refine W.seq (W.seq (W.region ?_))
  refine WL.val (Value.int .i64 ((table).length : Int)) _ (op_move rfl) rfl ?_
  refine WL.val (Value.bool (decide (((table).length : Int) < (1 : Int)))) _ (op_lss rfl rfl) rfl ?_
  refine WL.val (Value.bool (decide (((table).length : Int) < (1 : Int)))) _ (op_move rfl) rfl ?_
  refine WL.cut 3 (fun fq wq => fq 0 = v_table ∧ fq 1 = v_duals ∧ fq 4 = (Value.pointer (some ⟨b1, 0, none⟩)) ∧ fq 6 = (Value.int .i64 ((table).length : Int)) ∧ fq 17 = (Value.bool ((decide (((table).length : Int) < (1 : Int))) || (decide (((table).length : Int) > (16 : Int))))) ∧ St w wq [bx b1 [(Value.slice none 0 0)]]) ?_ ?_
  · rcases Bool.eq_false_or_eq_true (decide (((table).length : Int) < (1 : Int))) with hc6 | hc6
    · refine WL.gskip rfl (bool_of rfl hc6) rfl ?_
      refine WL.gskip rfl (bool_of rfl hc6) rfl ?_
      refine WL.val (Value.bool true) _ (op_pick_t (evb_of rfl hc6) rfl) rfl ?_
      refine WL.nil ?_
      exact ⟨rfl, rfl, rfl, rfl, rfl, (orT hc6), hS3⟩
    · refine WL.grun rfl (bool_of rfl hc6) ?_
      refine WL.val (Value.int .i64 ((table).length : Int)) _ (op_move rfl) rfl ?_
      refine WL.grun rfl (bool_of rfl hc6) ?_
      refine WL.val (Value.bool (decide (((table).length : Int) > (16 : Int)))) _ (op_gtr rfl rfl) rfl ?_
      refine WL.val (Value.bool (decide (((table).length : Int) > (16 : Int)))) _ (op_pick_f (evb_of rfl hc6) rfl) rfl ?_
      refine WL.nil ?_
      exact ⟨rfl, rfl, rfl, rfl, rfl, (orF hc6), hS3⟩
  · intro f7 wd8 hq9
    obtain ⟨hf10, hf11, hf12, hf13, hf14, hS15⟩ := hq9
    refine WL.val (Value.bool ((decide (((table).length : Int) < (1 : Int))) || (decide (((table).length : Int) > (16 : Int))))) _ (op_move hf14) rfl ?_
    obtain ⟨x17, hj18, h⟩ := bs h
    refine WL.cut 5 (fun fq wq => fq 0 = v_table ∧ fq 1 = v_duals ∧ fq 4 = (Value.pointer (some ⟨b1, 0, none⟩)) ∧ fq 6 = (Value.int .i64 ((table).length : Int)) ∧ fq 23 = Value.bool x17 ∧ St w wq [bx b1 [(Value.slice none 0 0)]]) ?_ ?_
    · rcases Bool.eq_false_or_eq_true ((decide (((table).length : Int) < (1 : Int))) || (decide (((table).length : Int) > (16 : Int)))) with hc16 | hc16
      · replace hj18 := ip hj18 hc16
        refine WL.gskip rfl (bool_of rfl hc16) rfl ?_
        refine WL.gskip rfl (bool_of rfl hc16) rfl ?_
        refine WL.gskip rfl (bool_of rfl hc16) rfl ?_
        refine WL.gskip rfl (bool_of rfl hc16) rfl ?_
        refine WL.val (Value.bool true) _ (op_pick_t (evb_of rfl hc16) rfl) rfl ?_
        refine WL.nil ?_
        obtain rfl := Option.some.inj hj18
        exact ⟨rfl, hf10, hf11, hf12, hf13, rfl, hS15⟩
      · replace hj18 := inegb hj18 hc16
        refine WL.grun rfl (bool_of rfl hc16) ?_
        refine WL.val (Value.int .i64 ((table).length : Int)) _ (op_move hf13) rfl ?_
        refine WL.grun rfl (bool_of rfl hc16) ?_
        refine WL.val v_duals _ (op_move hf11) rfl ?_
        refine WL.grun rfl (bool_of rfl hc16) ?_
        obtain ⟨x22, hx23, hj18⟩ := bs hj18
        refine WL.call _ (op_call fn_56 (args2 rfl rfl)) (c_spec_l08Duals hr5 (Ty.lift _ hS15.ext r_duals) hx23) rfl ?_
        rintro _ wd24 ⟨rfl, he25⟩
        have hS27 := St.extend hS15 he25
        replace hS27 : St w wd24 [bx b1 [(Value.slice none 0 0)]] := hS27
        refine WL.grun rfl (bool_of rfl hc16) ?_
        refine WL.val (Value.bool (!x22)) _ (op_not rfl) rfl ?_
        refine WL.val (Value.bool (!x22)) _ (op_pick_f (evb_of rfl hc16) rfl) rfl ?_
        refine WL.nil ?_
        obtain rfl := Option.some.inj hj18
        exact ⟨rfl, hf10, hf11, hf12, hf13, rfl, hS27⟩
    · intro f19 wd20 hq21
      obtain ⟨hf28, hf29, hf30, hf31, hf32, hS33⟩ := hq21
      refine WL.nil ?_
      refine W.cond x17 hf32 (fun hc34 => ?_) (fun hc34 => ?_)
      · replace h := ip h hc34
        refine W.seq (W.region ?_)
        refine WL.val (Value.agg #[(Value.slice none 0 0)]) _ (op_build bd_29 (parts := []) (partsL trivial) trivial rfl) rfl ?_
        have hS38 := St.addNil (Ty.sl (Ty.sl (Ty.i .i64))) hS33
        replace hS38 : St w wd20 [bx b1 [(Value.slice none 0 0)], (Ty.sl (Ty.sl (Ty.sl (Ty.i .i64)))).at (Value.slice none 0 0) ([] : (List (List (List Int))))] := hS38
        refine WL.storeBox [(Value.slice none 0 0)] hS38 (k := 0) rfl hf30 rfl (us := [(Value.slice none 0 0)]) rfl sz_29 rfl rfl (all_rep (St.rep (t := (Ty.sl (Ty.sl (Ty.sl (Ty.i .i64))))) hS38 1 rfl) all_nil) rfl ?_
        intro wd36 hS37
        replace hS37 : St w wd36 [bx b1 [(Value.slice none 0 0)], (Ty.sl (Ty.sl (Ty.sl (Ty.i .i64)))).at (Value.slice none 0 0) ([] : (List (List (List Int))))] := hS37
        refine WL.val (Value.int .i64 (2 : Int)) _ (op_assign rfl) rfl ?_
        refine WL.nil ?_
        refine W.ret ?_
        obtain rfl := Option.some.inj h
        show FinP _ _ _ _ _ _ _
        exact FinP.ret _ (resCT rfl hf30 st_29 (St.boxAt hS37 0 rfl) rfl rfl) ⟨(Value.slice none 0 0), rfl, (inL rfl), hS37.ext, (St.out (St.pick hS37 [1] rfl) (Ext.refl _))⟩
      · replace h := inegb h hc34
        refine W.skip ?_
        refine W.seq (W.seq (W.region ?_))
        refine WL.val (Value.int .i64 (0 : Int)) _ (op_assign rfl) rfl ?_
        refine WL.nil ?_
        show W _ _ _ _ _ _
        obtain ⟨res39, hres40, h⟩ := bs h
        refine W.blockLoop (fun fq wq => ∃ s, res39 = Res.fin s ∧ fq 0 = v_table ∧ fq 1 = v_duals ∧ fq 4 = (Value.pointer (some ⟨b1, 0, none⟩)) ∧ St w wq [bx b1 [(Value.slice none 0 0)]]) ?_ ?_
        · refine W.forN (fun k (s : Unit) fq wq => fq 0 = v_table ∧ fq 1 = v_duals ∧ fq 4 = (Value.pointer (some ⟨b1, 0, none⟩)) ∧ fq 6 = (Value.int .i64 ((table).length : Int)) ∧ fq 7 = Value.int .i64 (k : Int) ∧ InR .i64 (k : Int) ∧ St w wq [bx b1 [(Value.slice none 0 0)]]) hres40 ⟨hf28, hf29, hf30, hf31, rfl, (inL rfl), hS33⟩ ?_ ?_
          · intro k41 s94 ct42 f43 wd44 hk45 hb46 hI47 hbrk48 hret49
            obtain ⟨⟩ := s94
            replace hI47 : f43 0 = v_table ∧ f43 1 = v_duals ∧ f43 4 = (Value.pointer (some ⟨b1, 0, none⟩)) ∧ f43 6 = (Value.int .i64 ((table).length : Int)) ∧ f43 7 = Value.int .i64 (k41 : Int) ∧ InR .i64 (k41 : Int) ∧ St w wd44 [bx b1 [(Value.slice none 0 0)]] := hI47
            replace hb46 : p_spec_RingOfCharacters_L1 table k41  = some ct42 := hb46
            unfold p_spec_RingOfCharacters_L1 at hb46
            obtain ⟨hf50, hf51, hf52, hf53, hf54, hr55, hS56⟩ := hI47
            refine W.seq (W.seq (W.region ?_))
            refine WL.val (Value.int .i64 (k41 : Int)) _ (op_move hf54) rfl ?_
            refine WL.val (Value.int .i64 ((table).length : Int)) _ (op_move hf53) rfl ?_
            refine WL.val (Value.bool (decide ((k41 : Int) < ((table).length : Int)))) _ (op_lss rfl rfl) rfl ?_
            have hl57 : (k41 : Int) < ((table).length : Int) := by omega
            refine WL.nil ?_
            refine W.condT (decide ((k41 : Int) < ((table).length : Int))) rfl (decide_eq_true hl57) ?_
            refine W.skip ?_
            refine W.seq ?_
            refine W.block ?_
            refine W.seq (W.region ?_)
            refine WL.val v_table _ (op_move hf50) rfl ?_
            refine WL.val (Value.int .i64 (k41 : Int)) _ (op_move hf54) rfl ?_
            obtain ⟨x59, hx62, hb46⟩ := bs hb46
            obtain ⟨ha60, hb61, hx62⟩ := idx_some hx62
            refine WL.val (Value.pointer (some (elA v_table ((k41 : Int)).toNat))) _ (op_idx sl_43 (Ty.lift _ hS56.ext r_table) rfl rfl ha60 hb61) rfl ?_
            obtain ⟨u63, hc64, hr65⟩ := repSl.el r_table hx62
            refine WL.val u63 _ (op_load one_25 rfl (Ext.cell hS56.ext hc64)) rfl ?_
            have hr66 := inR_len (Ty.lift _ hS56.ext hr65)
            refine WL.val (Value.int .i64 ((x59).length : Int)) _ (op_lenL sl_25 (Ty.lift _ hS56.ext hr65) rfl) rfl ?_
            refine WL.val (Value.int .i64 ((table).length : Int)) _ (op_move hf53) rfl ?_
            refine WL.val (Value.bool (((x59).length : Int) != ((table).length : Int))) _ (op_neq rfl rfl) rfl ?_
            refine WL.val (Value.bool (((x59).length : Int) != ((table).length : Int))) _ (op_move rfl) rfl ?_
            obtain ⟨x68, hj69, hb46⟩ := bs hb46
            refine WL.cut 7 (fun fq wq => fq 0 = v_table ∧ fq 1 = v_duals ∧ fq 4 = (Value.pointer (some ⟨b1, 0, none⟩)) ∧ fq 6 = (Value.int .i64 ((table).length : Int)) ∧ fq 7 = (Value.int .i64 (k41 : Int)) ∧ fq 44 = Value.bool x68 ∧ St w wq [bx b1 [(Value.slice none 0 0)]]) ?_ ?_
            · rcases Bool.eq_false_or_eq_true (((x59).length : Int) != ((table).length : Int)) with hc67 | hc67
              · replace hj69 := ip hj69 hc67
                refine WL.gskip rfl (bool_of rfl hc67) rfl ?_
                refine WL.gskip rfl (bool_of rfl hc67) rfl ?_
                refine WL.gskip rfl (bool_of rfl hc67) rfl ?_
                refine WL.gskip rfl (bool_of rfl hc67) rfl ?_
                refine WL.gskip rfl (bool_of rfl hc67) rfl ?_
                refine WL.gskip rfl (bool_of rfl hc67) rfl ?_
                refine WL.val (Value.bool true) _ (op_pick_t (evb_of rfl hc67) rfl) rfl ?_
                refine WL.nil ?_
                obtain rfl := Option.some.inj hj69
                exact ⟨rfl, hf50, hf51, hf52, hf53, hf54, rfl, hS56⟩
              · replace hj69 := inegb hj69 hc67
                refine WL.grun rfl (bool_of rfl hc67) ?_
                refine WL.val v_table _ (op_move hf50) rfl ?_
                refine WL.grun rfl (bool_of rfl hc67) ?_
                refine WL.val (Value.int .i64 (k41 : Int)) _ (op_move hf54) rfl ?_
                refine WL.grun rfl (bool_of rfl hc67) ?_
                refine WL.val (Value.pointer (some (elA v_table ((k41 : Int)).toNat))) _ (op_idx sl_43 (Ty.lift _ hS56.ext r_table) rfl rfl ha60 hb61) rfl ?_
                refine WL.grun rfl (bool_of rfl hc67) ?_
                obtain ⟨u73, hc74, hr75⟩ := repSl.el r_table hx62
                refine WL.val u73 _ (op_load one_25 rfl (Ext.cell hS56.ext hc74)) rfl ?_
                refine WL.grun rfl (bool_of rfl hc67) ?_
                obtain ⟨x76, hx77, hj69⟩ := bs hj69
                refine WL.call _ (op_call fn_57 (args1 rfl)) (c_spec_l01Numbers (Ty.lift _ hS56.ext hr75) hx77) rfl ?_
                rintro _ wd78 ⟨rfl, he79⟩
                have hS81 := St.extend hS56 he79
                replace hS81 : St w wd78 [bx b1 [(Value.slice none 0 0)]] := hS81
                refine WL.grun rfl (bool_of rfl hc67) ?_
                refine WL.val (Value.bool (!x76)) _ (op_not rfl) rfl ?_
                refine WL.val (Value.bool (!x76)) _ (op_pick_f (evb_of rfl hc67) rfl) rfl ?_
                refine WL.nil ?_
                obtain rfl := Option.some.inj hj69
                exact ⟨rfl, hf50, hf51, hf52, hf53, hf54, rfl, hS81⟩
            · intro f70 wd71 hq72
              obtain ⟨hf82, hf83, hf84, hf85, hf86, hf87, hS88⟩ := hq72
              refine WL.nil ?_
              refine W.cond x68 hf87 (fun hc89 => ?_) (fun hc89 => ?_)
              · replace hb46 := ip hb46 hc89
                refine W.seq (W.region ?_)
                refine WL.val (Value.agg #[(Value.slice none 0 0)]) _ (op_build bd_29 (parts := []) (partsL trivial) trivial rfl) rfl ?_
                have hS93 := St.addNil (Ty.sl (Ty.sl (Ty.i .i64))) hS88
                replace hS93 : St w wd71 [bx b1 [(Value.slice none 0 0)], (Ty.sl (Ty.sl (Ty.sl (Ty.i .i64)))).at (Value.slice none 0 0) ([] : (List (List (List Int))))] := hS93
                refine WL.storeBox [(Value.slice none 0 0)] hS93 (k := 0) rfl hf84 rfl (us := [(Value.slice none 0 0)]) rfl sz_29 rfl rfl (all_rep (St.rep (t := (Ty.sl (Ty.sl (Ty.sl (Ty.i .i64))))) hS93 1 rfl) all_nil) rfl ?_
                intro wd91 hS92
                replace hS92 : St w wd91 [bx b1 [(Value.slice none 0 0)], (Ty.sl (Ty.sl (Ty.sl (Ty.i .i64)))).at (Value.slice none 0 0) ([] : (List (List (List Int))))] := hS92
                refine WL.val (Value.int .i64 (2 : Int)) _ (op_assign rfl) rfl ?_
                refine WL.nil ?_
                refine W.ret ?_
                obtain rfl := Option.some.inj hb46
                obtain rfl := hret49 _ rfl
                replace h := onRes_ret h
                obtain rfl := Option.some.inj h
                show FinP _ _ _ _ _ _ _
                exact FinP.ret _ (resCT rfl hf84 st_29 (St.boxAt hS92 0 rfl) rfl rfl) ⟨(Value.slice none 0 0), rfl, (inL rfl), hS92.ext, (St.out (St.pick hS92 [1] rfl) (Ext.refl _))⟩
              · replace hb46 := inegb hb46 hc89
                refine W.skip ?_
                show W _ _ _ _ _ _
                refine W.region ?_
                refine WL.val (Value.int .i64 (k41 : Int)) _ (op_move hf86) rfl ?_
                refine WL.val (Value.int .i64 (w64 ((k41 : Int) + (1 : Int)))) _ (op_add rfl rfl) rfl ?_
                refine WL.val (Value.int .i64 (w64 ((k41 : Int) + (1 : Int)))) _ (op_assign rfl) rfl ?_
                refine WL.nil ?_
                obtain rfl := Option.some.inj hb46
                show ∃ s, _ = Ctl.next s ∧ _
                exact ⟨_, rfl, hf82, hf83, hf84, hf85, (ctr_next hl57 hr5), (ctr_rng hl57 hr5), hS88⟩
          · intro s99 f95 wd96 hs97 hI98
            obtain ⟨⟩ := s99
            replace hI98 : f95 0 = v_table ∧ f95 1 = v_duals ∧ f95 4 = (Value.pointer (some ⟨b1, 0, none⟩)) ∧ f95 6 = (Value.int .i64 ((table).length : Int)) ∧ f95 7 = Value.int .i64 (((table).length : Nat) : Int) ∧ InR .i64 (((table).length : Nat) : Int) ∧ St w wd96 [bx b1 [(Value.slice none 0 0)]] := hI98
            obtain ⟨hf100, hf101, hf102, hf103, hf104, hr105, hS106⟩ := hI98
            refine W.seq (W.seq (W.region ?_))
            refine WL.val (Value.int .i64 (((table).length : Nat) : Int)) _ (op_move hf104) rfl ?_
            refine WL.val (Value.int .i64 ((table).length : Int)) _ (op_move hf103) rfl ?_
            refine WL.val (Value.bool (decide ((((table).length : Nat) : Int) < ((table).length : Int)))) _ (op_lss rfl rfl) rfl ?_
            have hl107 : ¬ (((table).length : Nat) : Int) < ((table).length : Int) := by omega
            refine WL.nil ?_
            refine W.condF (decide ((((table).length : Nat) : Int) < ((table).length : Int))) rfl (decide_eq_false hl107) ?_
            refine W.exit ?_
            show _ = _ ∧ _
            exact ⟨rfl, _, hs97, hf100, hf101, hf102, hS106⟩
        · rintro f108 wd109 ⟨s111, rfl, hq110⟩
          replace h := onRes_fin h
          obtain ⟨⟩ := s111
          replace hq110 : f108 0 = v_table ∧ f108 1 = v_duals ∧ f108 4 = (Value.pointer (some ⟨b1, 0, none⟩)) ∧ St w wd109 [bx b1 [(Value.slice none 0 0)]] := hq110
          obtain ⟨hf112, hf113, hf114, hS115⟩ := hq110
          refine W.seq (W.region ?_)
          refine WL.val v_table _ (op_move hf112) rfl ?_
          refine WL.val v_duals _ (op_move hf113) rfl ?_
          obtain ⟨x116, hx117, h⟩ := bs h
          refine WL.call _ (op_call fn_58 (args2 rfl rfl)) (c_spec_l08Ring (Ty.lift _ hS115.ext r_table) (Ty.lift _ hS115.ext r_duals) hx117) rfl ?_
          rintro _ wd119 ⟨u118, rfl, he120, hs121⟩
          have hS122 := St.join hS115 he120 hs121
          replace hS122 : St w wd119 [bx b1 [(Value.slice none 0 0)], (Ty.sl (Ty.sl (Ty.sl (Ty.i .i64)))).at u118 x116.1] := hS122
          refine WL.val (Value.tuple #[(Value.agg #[u118]), (Value.bool x116.2)]) _ (op_move rfl) rfl ?_
          refine WL.val (Value.agg #[u118]) _ (op_extract rfl rfl) rfl ?_
          refine WL.val (Value.bool x116.2) _ (op_extract rfl rfl) rfl ?_
          refine WL.alloc hS122 ze_29 (cs := [(Value.slice none 0 0)]) rfl rfl ?_
          intro b123 wd124 hS125 he126
          replace hS125 : St w wd124 [bx b1 [(Value.slice none 0 0)], (Ty.sl (Ty.sl (Ty.sl (Ty.i .i64)))).at u118 x116.1, bx b123 [(Value.slice none 0 0)]] := hS125
          refine WL.storeBox [u118] hS125 (k := 2) rfl rfl rfl (us := [u118]) rfl sz_29 rfl rfl (all_rep (St.rep (t := (Ty.sl (Ty.sl (Ty.sl (Ty.i .i64))))) hS125 1 rfl) all_nil) rfl ?_
          intro wd127 hS128
          replace hS128 : St w wd127 [bx b1 [(Value.slice none 0 0)], (Ty.sl (Ty.sl (Ty.sl (Ty.i .i64)))).at u118 x116.1, bx b123 [u118]] := hS128
          refine WL.val (Value.bool x116.2) _ (op_assign rfl) rfl ?_
          refine WL.nil ?_
          refine W.seq (W.seq (W.region ?_))
          refine WL.val (Value.bool x116.2) _ (op_move rfl) rfl ?_
          refine WL.val (Value.bool (!x116.2)) _ (op_not rfl) rfl ?_
          refine WL.nil ?_
          refine W.cond (!x116.2) rfl (fun hc129 => ?_) (fun hc129 => ?_)
          · replace h := ip h hc129
            refine W.seq (W.region ?_)
            refine WL.val (Value.agg #[(Value.slice none 0 0)]) _ (op_build bd_29 (parts := []) (partsL trivial) trivial rfl) rfl ?_
            have hS133 := St.addNil (Ty.sl (Ty.sl (Ty.i .i64))) hS128
            replace hS133 : St w wd127 [bx b1 [(Value.slice none 0 0)], (Ty.sl (Ty.sl (Ty.sl (Ty.i .i64)))).at u118 x116.1, bx b123 [u118], (Ty.sl (Ty.sl (Ty.sl (Ty.i .i64)))).at (Value.slice none 0 0) ([] : (List (List (List Int))))] := hS133
            refine WL.storeBox [(Value.slice none 0 0)] hS133 (k := 0) rfl hf114 rfl (us := [(Value.slice none 0 0)]) rfl sz_29 rfl rfl (all_rep (St.rep (t := (Ty.sl (Ty.sl (Ty.sl (Ty.i .i64))))) hS133 3 rfl) all_nil) rfl ?_
            intro wd131 hS132
            replace hS132 : St w wd131 [bx b1 [(Value.slice none 0 0)], (Ty.sl (Ty.sl (Ty.sl (Ty.i .i64)))).at u118 x116.1, bx b123 [u118], (Ty.sl (Ty.sl (Ty.sl (Ty.i .i64)))).at (Value.slice none 0 0) ([] : (List (List (List Int))))] := hS132
            refine WL.val (Value.int .i64 (5 : Int)) _ (op_assign rfl) rfl ?_
            refine WL.nil ?_
            refine W.ret ?_
            obtain rfl := Option.some.inj h
            show FinP _ _ _ _ _ _ _
            exact FinP.ret _ (resCT rfl hf114 st_29 (St.boxAt hS132 0 rfl) rfl rfl) ⟨(Value.slice none 0 0), rfl, (inL rfl), hS132.ext, (St.out (St.pick hS132 [3] rfl) (Ext.refl _))⟩
          · replace h := inegb h hc129
            refine W.skip ?_
            refine W.seq (W.region ?_)
            refine WL.val (Value.agg #[u118]) _ (op_loadBox st_29 rfl (St.boxAt hS128 2 rfl) rfl rfl) rfl ?_
            refine WL.storeBox [u118] hS128 (k := 0) rfl hf114 rfl (us := [u118]) rfl sz_29 rfl rfl (all_rep (St.rep (t := (Ty.sl (Ty.sl (Ty.sl (Ty.i .i64))))) hS128 1 rfl) all_nil) rfl ?_
            intro wd134 hS135
            replace hS135 : St w wd134 [bx b1 [u118], (Ty.sl (Ty.sl (Ty.sl (Ty.i .i64)))).at u118 x116.1, bx b123 [u118]] := hS135
            refine WL.val (Value.int .i64 (0 : Int)) _ (op_assign rfl) rfl ?_
            refine WL.nil ?_
            refine W.ret ?_
            obtain rfl := Option.some.inj h
            show FinP _ _ _ _ _ _ _
            exact FinP.ret _ (resCT rfl hf114 st_29 (St.boxAt hS135 0 rfl) rfl rfl) ⟨u118, rfl, (inL rfl), hS135.ext, (St.out (St.pick hS135 [1] rfl) (Ext.refl _))⟩

theorem c_impl_RingOfCharacters_c1 {w : World} {x : (List Int)} {v_x : Value} {b_c0 : Nat} {c0 : Int} (r_x : (Ty.sl (Ty.i .i64)).rep w v_x x) (k_c0 : BoxAt w b_c0 [(Value.int .i64 c0)]) (r_c0 : InR .i64 c0) {res : Bool} (h : p_impl_RingOfCharacters_c1 x c0 = some res) :
    Ret Try.prog 59 #[v_x, (Value.pointer (some ⟨b_c0, 0, none⟩))] w (fun v w' => v = Value.bool res ∧ Ext w w') := by
  unfold p_impl_RingOfCharacters_c1 at h
  have hS0 : St w w [] := St.start w
  refine Ret.start (fn := Try.f59) Try.func59 rfl 13 rfl rfl ?_
  refine W.seq (W.region ?_)
  refine WL.val (Value.bool false) _ (op_assign rfl) rfl ?_
  refine WL.nil ?_
  refine W.seq (W.region ?_)
  refine WL.val v_x _ (op_move rfl) rfl ?_
  have hr1 := inR_len (Ty.lift _ hS0.ext r_x)
  refine WL.val (Value.int .i64 ((x).length : Int)) _ (op_lenL sl_25 (Ty.lift _ hS0.ext r_x) rfl) rfl ?_
  refine WL.val (Value.int .i64 c0) _ (op_load one_3 rfl (BoxAt.cell (BoxAt.lift hS0.ext k_c0) rfl)) rfl ?_
  refine WL.val (Value.bool (((x).length : Int) != c0)) _ (op_neq rfl rfl) rfl ?_
  refine WL.val (Value.bool (((x).length : Int) != c0)) _ (op_move rfl) rfl ?_
  obtain ⟨x3, hj4, h⟩ := bs h
  refine WL.cut 4 (fun fq wq => fq 12 = Value.bool x3 ∧ St w wq []) ?_ ?_
  · rcases Bool.eq_false_or_eq_true (((x).length : Int) != c0) with hc2 | hc2
    · replace hj4 := ip hj4 hc2
      refine WL.gskip rfl (bool_of rfl hc2) rfl ?_
      refine WL.gskip rfl (bool_of rfl hc2) rfl ?_
      refine WL.gskip rfl (bool_of rfl hc2) rfl ?_
      refine WL.val (Value.bool true) _ (op_pick_t (evb_of rfl hc2) rfl) rfl ?_
      refine WL.nil ?_
      obtain rfl := Option.some.inj hj4
      exact ⟨rfl, rfl, hS0⟩
    · replace hj4 := inegb hj4 hc2
      refine WL.grun rfl (bool_of rfl hc2) ?_
      refine WL.val v_x _ (op_move rfl) rfl ?_
      refine WL.grun rfl (bool_of rfl hc2) ?_
      obtain ⟨x8, hx9, hj4⟩ := bs hj4
      refine WL.call _ (op_call fn_60 (args1 rfl)) (c_impl_areNumbers (Ty.lift _ hS0.ext r_x) hx9) rfl ?_
      rintro _ wd10 ⟨rfl, he11⟩
      have hS13 := St.extend hS0 he11
      replace hS13 : St w wd10 [] := hS13
      refine WL.grun rfl (bool_of rfl hc2) ?_
      refine WL.val (Value.bool (!x8)) _ (op_not rfl) rfl ?_
      refine WL.val (Value.bool (!x8)) _ (op_pick_f (evb_of rfl hc2) rfl) rfl ?_
      refine WL.nil ?_
      obtain rfl := Option.some.inj hj4
      exact ⟨rfl, rfl, hS13⟩
  · intro f5 wd6 hq7
    obtain ⟨hf14, hS15⟩ := hq7
    refine WL.val (Value.bool x3) _ (op_assign hf14) rfl ?_
    refine WL.nil ?_
    refine W.ret ?_
    obtain rfl := Option.some.inj h
    show FinP _ _ _ _ _ _ _
    exact FinP.ret _ (res1 rfl rfl) ⟨rfl, hS15.ext⟩

theorem c_impl_areDuals {w : World} {duals : (List Int)} {v_duals : Value} {n : Int} (r_duals : (Ty.sl (Ty.i .i64)).rep w v_duals duals) (r_n : InR .i64 n) {res : Bool} (h : p_impl_areDuals duals n  = some res) :
    Ret Try.prog 63 #[v_duals, (Value.int .i64 n)] w (fun v w' => v = Value.bool res ∧ Ext w w') := by
  unfold p_impl_areDuals at h
  have hS0 : St w w [] := St.start w
  refine Ret.start (fn := Try.f63) Try.func63 rfl 32 rfl rfl ?_
  refine W.seq (W.region ?_)
  refine WL.val (Value.bool false) _ (op_assign rfl) rfl ?_
  refine WL.nil ?_
  refine W.seq (W.seq (W.region ?_))
  refine WL.val v_duals _ (op_move rfl) rfl ?_
  have hr1 := inR_len (Ty.lift _ hS0.ext r_duals)
  refine WL.val (Value.int .i64 ((duals).length : Int)) _ (op_lenL sl_25 (Ty.lift _ hS0.ext r_duals) rfl) rfl ?_
  refine WL.val (Value.int .i64 (0 : Int)) _ (op_move rfl) rfl ?_
  refine WL.nil ?_
  show W _ _ _ _ _ _
  obtain ⟨res2, hres3, h⟩ := bs h
  refine W.blockLoop (fun fq wq => ∃ s, res2 = Res.fin s ∧ fq 0 = v_duals ∧ fq 1 = (Value.int .i64 n) ∧ St w wq []) ?_ ?_
  · refine W.forN (fun k (s : Unit) fq wq => fq 0 = v_duals ∧ fq 1 = (Value.int .i64 n) ∧ fq 7 = v_duals ∧ fq 8 = (Value.int .i64 ((duals).length : Int)) ∧ fq 9 = Value.int .i64 (k : Int) ∧ InR .i64 (k : Int) ∧ St w wq []) hres3 ⟨rfl, rfl, rfl, rfl, rfl, (inL rfl), hS0⟩ ?_ ?_
    · intro k4 s57 ct5 f6 wd7 hk8 hb9 hI10 hbrk11 hret12
      obtain ⟨⟩ := s57
      replace hI10 : f6 0 = v_duals ∧ f6 1 = (Value.int .i64 n) ∧ f6 7 = v_duals ∧ f6 8 = (Value.int .i64 ((duals).length : Int)) ∧ f6 9 = Value.int .i64 (k4 : Int) ∧ InR .i64 (k4 : Int) ∧ St w wd7 [] := hI10
      replace hb9 : p_impl_areDuals_L1 duals n k4  = some ct5 := hb9
      unfold p_impl_areDuals_L1 at hb9
      obtain ⟨hf13, hf14, hf15, hf16, hf17, hr18, hS19⟩ := hI10
      refine W.seq (W.region ?_)
      refine WL.val (Value.bool (decide ((k4 : Int) < ((duals).length : Int)))) _ (op_lss hf17 hf16) rfl ?_
      have hl20 : (k4 : Int) < ((duals).length : Int) := by omega
      refine WL.nil ?_
      refine W.seq ?_
      refine W.condT (decide ((k4 : Int) < ((duals).length : Int))) rfl (decide_eq_true hl20) ?_
      refine W.skip ?_
      refine W.seq ?_
      refine W.block ?_
      refine W.seq (W.region ?_)
      refine WL.val (Value.int .i64 (k4 : Int)) _ (op_move hf17) rfl ?_
      obtain ⟨x22, hx25, hb9⟩ := bs hb9
      obtain ⟨ha23, hb24, hx25⟩ := idx_some hx25
      refine WL.val (Value.pointer (some (elA v_duals ((k4 : Int)).toNat))) _ (op_idx sl_25 (Ty.lift _ hS19.ext r_duals) hf15 hf17 ha23 hb24) rfl ?_
      obtain ⟨u26, hc27, hr28⟩ := repSl.el r_duals hx25
      obtain ⟨rfl, hr28⟩ := hr28
      refine WL.val (Value.int .i64 x22) _ (op_load one_2 rfl (Ext.cell hS19.ext hc27)) rfl ?_
      refine WL.val (Value.int .i64 (k4 : Int)) _ (op_assign rfl) rfl ?_
      refine WL.val (Value.int .i64 x22) _ (op_assign rfl) rfl ?_
      refine WL.nil ?_
      refine W.seq (W.region ?_)
      refine WL.val (Value.int .i64 x22) _ (op_move rfl) rfl ?_
      refine WL.val (Value.int .i64 n) _ (op_move hf14) rfl ?_
      refine WL.val (Value.int .i64 (w64 (n - (1 : Int)))) _ (op_sub rfl rfl) rfl ?_
      obtain ⟨x29, hx30, hb9⟩ := bs hb9
      refine WL.call _ (op_call fn_62 (args3 rfl rfl rfl)) (c_impl_within hr28 (inL rfl) (inR_wrap _ _) hx30) rfl ?_
      rintro _ wd31 ⟨rfl, he32⟩
      have hS34 := St.extend hS19 he32
      replace hS34 : St w wd31 [] := hS34
      refine WL.val (Value.bool (!x29)) _ (op_not rfl) rfl ?_
      refine WL.val (Value.bool (!x29)) _ (op_move rfl) rfl ?_
      obtain ⟨x36, hj37, hb9⟩ := bs hb9
      refine WL.cut 7 (fun fq wq => fq 0 = v_duals ∧ fq 1 = (Value.int .i64 n) ∧ fq 7 = v_duals ∧ fq 8 = (Value.int .i64 ((duals).length : Int)) ∧ fq 9 = (Value.int .i64 (k4 : Int)) ∧ fq 26 = Value.bool x36 ∧ St w wq []) ?_ ?_
      · rcases Bool.eq_false_or_eq_true (!x29) with hc35 | hc35
        · replace hj37 := ip hj37 hc35
          refine WL.gskip rfl (bool_of rfl hc35) rfl ?_
          refine WL.gskip rfl (bool_of rfl hc35) rfl ?_
          refine WL.gskip rfl (bool_of rfl hc35) rfl ?_
          refine WL.gskip rfl (bool_of rfl hc35) rfl ?_
          refine WL.gskip rfl (bool_of rfl hc35) rfl ?_
          refine WL.gskip rfl (bool_of rfl hc35) rfl ?_
          refine WL.val (Value.bool true) _ (op_pick_t (evb_of rfl hc35) rfl) rfl ?_
          refine WL.nil ?_
          obtain rfl := Option.some.inj hj37
          exact ⟨rfl, hf13, hf14, hf15, hf16, hf17, rfl, hS34⟩
        · replace hj37 := inegb hj37 hc35
          refine WL.grun rfl (bool_of rfl hc35) ?_
          refine WL.val v_duals _ (op_move hf13) rfl ?_
          refine WL.grun rfl (bool_of rfl hc35) ?_
          refine WL.val (Value.int .i64 x22) _ (op_move rfl) rfl ?_
          refine WL.grun rfl (bool_of rfl hc35) ?_
          obtain ⟨x41, hx44, hj37⟩ := bs hj37
          obtain ⟨ha42, hb43, hx44⟩ := idx_some hx44
          refine WL.val (Value.pointer (some (elA v_duals (x22).toNat))) _ (op_idx sl_25 (Ty.lift _ hS34.ext r_duals) rfl rfl ha42 hb43) rfl ?_
          refine WL.grun rfl (bool_of rfl hc35) ?_
          obtain ⟨u45, hc46, hr47⟩ := repSl.el r_duals hx44
          obtain ⟨rfl, hr47⟩ := hr47
          refine WL.val (Value.int .i64 x41) _ (op_load one_2 rfl (Ext.cell hS34.ext hc46)) rfl ?_
          refine WL.grun rfl (bool_of rfl hc35) ?_
          refine WL.val (Value.int .i64 (k4 : Int)) _ (op_move rfl) rfl ?_
          refine WL.grun rfl (bool_of rfl hc35) ?_
          refine WL.val (Value.bool (x41 != (k4 : Int))) _ (op_neq rfl rfl) rfl ?_
          refine WL.val (Value.bool (x41 != (k4 : Int))) _ (op_pick_f (evb_of rfl hc35) rfl) rfl ?_
          refine WL.nil ?_
          obtain rfl := Option.some.inj hj37
          exact ⟨rfl, hf13, hf14, hf15, hf16, hf17, rfl, hS34⟩
      · intro f38 wd39 hq40
        obtain ⟨hf48, hf49, hf50, hf51, hf52, hf53, hS54⟩ := hq40
        refine WL.nil ?_
        refine W.cond x36 hf53 (fun hc55 => ?_) (fun hc55 => ?_)
        · replace hb9 := ip hb9 hc55
          refine W.seq (W.region ?_)
          refine WL.val (Value.bool false) _ (op_assign rfl) rfl ?_
          refine WL.nil ?_
          refine W.ret ?_
          obtain rfl := Option.some.inj hb9
          obtain rfl := hret12 _ rfl
          replace h := onRes_ret h
          obtain rfl := Option.some.inj h
          show FinP _ _ _ _ _ _ _
          exact FinP.ret _ (res1 rfl rfl) ⟨rfl, hS54.ext⟩
        · replace hb9 := inegb hb9 hc55
          refine W.skip ?_
          show W _ _ _ _ _ _
          refine W.region ?_
          refine WL.val (Value.int .i64 (w64 ((k4 : Int) + (1 : Int)))) _ (op_add hf52 rfl) rfl ?_
          refine WL.val (Value.int .i64 (w64 ((k4 : Int) + (1 : Int)))) _ (op_move rfl) rfl ?_
          refine WL.nil ?_
          obtain rfl := Option.some.inj hb9
          show ∃ s, _ = Ctl.next s ∧ _
          exact ⟨_, rfl, hf48, hf49, hf50, hf51, (ctr_next hl20 hr1), (ctr_rng hl20 hr1), hS54⟩
    · intro s62 f58 wd59 hs60 hI61
      obtain ⟨⟩ := s62
      replace hI61 : f58 0 = v_duals ∧ f58 1 = (Value.int .i64 n) ∧ f58 7 = v_duals ∧ f58 8 = (Value.int .i64 ((duals).length : Int)) ∧ f58 9 = Value.int .i64 (((duals).length : Nat) : Int) ∧ InR .i64 (((duals).length : Nat) : Int) ∧ St w wd59 [] := hI61
      obtain ⟨hf63, hf64, hf65, hf66, hf67, hr68, hS69⟩ := hI61
      refine W.seq (W.region ?_)
      refine WL.val (Value.bool (decide ((((duals).length : Nat) : Int) < ((duals).length : Int)))) _ (op_lss hf67 hf66) rfl ?_
      have hl70 : ¬ (((duals).length : Nat) : Int) < ((duals).length : Int) := by omega
      refine WL.nil ?_
      refine W.seq ?_
      refine W.condF (decide ((((duals).length : Nat) : Int) < ((duals).length : Int))) rfl (decide_eq_false hl70) ?_
      refine W.exit ?_
      show _ = _ ∧ _
      exact ⟨rfl, _, hs60, hf63, hf64, hS69⟩
  · rintro f71 wd72 ⟨s74, rfl, hq73⟩
    replace h := onRes_fin h
    obtain ⟨⟩ := s74
    replace hq73 : f71 0 = v_duals ∧ f71 1 = (Value.int .i64 n) ∧ St w wd72 [] := hq73
    obtain ⟨hf75, hf76, hS77⟩ := hq73
    refine W.seq (W.region ?_)
    refine WL.val v_duals _ (op_move hf75) rfl ?_
    have hr78 := inR_len (Ty.lift _ hS77.ext r_duals)
    refine WL.val (Value.int .i64 ((duals).length : Int)) _ (op_lenL sl_25 (Ty.lift _ hS77.ext r_duals) rfl) rfl ?_
    refine WL.val (Value.int .i64 n) _ (op_move hf76) rfl ?_
    refine WL.val (Value.bool (((duals).length : Int) == n)) _ (op_eql rfl rfl) rfl ?_
    refine WL.val (Value.bool (((duals).length : Int) == n)) _ (op_assign rfl) rfl ?_
    refine WL.nil ?_
    refine W.ret ?_
    obtain rfl := Option.some.inj h
    show FinP _ _ _ _ _ _ _
    exact FinP.ret _ (res1 rfl rfl) ⟨rfl, hS77.ext⟩

theorem c_impl_power {w : World} {a : Int} {k1 : Int} (r_a : InR .i64 a) (r_k1 : InR .i64 k1) {res : Int} (h : p_impl_power a k1  = some res) :
    Ret Try.prog 101 #[(Value.int .i64 a), (Value.int .i64 k1)] w (fun v w' => v = Value.int .i64 res ∧ InR .i64 res ∧ Ext w w') := by
  unfold p_impl_power at h
  have hS0 : St w w [] := St.start w
  refine Ret.start (fn := Try.f101) Try.func101 rfl 22 rfl rfl ?_
  refine W.seq (W.region ?_)
  refine WL.val (Value.int .i64 (0 : Int)) _ (op_assign rfl) rfl ?_
  refine WL.nil ?_
  refine W.seq (W.region ?_)
  refine WL.val (Value.int .i64 (1 : Int)) _ (op_assign rfl) rfl ?_
  refine WL.nil ?_
  refine W.seq ?_
  obtain ⟨res1, hres2, h⟩ := bs h
  refine W.blockLoop (fun fq wq => ∃ s, res1 = Res.fin s ∧ fq 5 = Value.int .i64 s.2.2 ∧ InR .i64 s.2.2 ∧ St w wq []) ?_ ?_
  · refine W.whileC (fun (s : Int × Int × Int) fq wq => fq 0 = Value.int .i64 s.1 ∧ InR .i64 s.1 ∧ fq 1 = Value.int .i64 s.2.1 ∧ InR .i64 s.2.1 ∧ fq 5 = Value.int .i64 s.2.2 ∧ InR .i64 s.2.2 ∧ St w wq []) hres2 ⟨rfl, r_a, rfl, r_k1, rfl, (inL rfl), hS0⟩ ?_
    intro s35 ct7 f8 wd9 hb11 hI12 hbrk13 hret14
    obtain ⟨x4, x5, x6⟩ := s35
    replace hI12 : f8 0 = Value.int .i64 x4 ∧ InR .i64 x4 ∧ f8 1 = Value.int .i64 x5 ∧ InR .i64 x5 ∧ f8 5 = Value.int .i64 x6 ∧ InR .i64 x6 ∧ St w wd9 [] := hI12
    replace hb11 : p_impl_power_L1   x4 x5 x6 = some ct7 := hb11
    unfold p_impl_power_L1 at hb11
    obtain ⟨hf15, hr16, hf17, hr18, hf19, hr20, hS21⟩ := hI12
    refine W.seq (W.seq (W.region ?_))
    refine WL.val (Value.int .i64 x5) _ (op_move hf17) rfl ?_
    refine WL.val (Value.bool (decide (x5 > (0 : Int)))) _ (op_gtr rfl rfl) rfl ?_
    refine WL.nil ?_
    refine W.cond (decide (x5 > (0 : Int))) rfl (fun hc22 => ?_) (fun hc22 => ?_)
    · replace hb11 := ip hb11 hc22
      refine W.skip ?_
      refine W.seq ?_
      refine W.block ?_
      refine W.seq (W.seq (W.region ?_))
      refine WL.val (Value.int .i64 x5) _ (op_move hf17) rfl ?_
      refine WL.val (Value.int .i64 ((x5).tmod (2 : Int))) _ (op_rem (b := 2) rfl rfl (by decide)) rfl ?_
      refine WL.val (Value.bool (((x5).tmod (2 : Int)) == (1 : Int))) _ (op_eql rfl rfl) rfl ?_
      refine WL.nil ?_
      show W _ _ _ _ _ _
      obtain ⟨x24, hj25, hb11⟩ := bs hb11
      refine W.cutCode (fun fq wq => fq 0 = (Value.int .i64 x4) ∧ fq 1 = (Value.int .i64 x5) ∧ fq 5 = Value.int .i64 x24 ∧ InR .i64 x24 ∧ St w wq []) ?_ ?_
      · refine W.cond (((x5).tmod (2 : Int)) == (1 : Int)) rfl (fun hc26 => ?_) (fun hc26 => ?_)
        · replace hj25 := ip hj25 hc26
          refine W.region ?_
          refine WL.val (Value.int .i64 x6) _ (op_move hf19) rfl ?_
          refine WL.val (Value.int .i64 x4) _ (op_move hf15) rfl ?_
          refine WL.val (Value.int .i64 (w64 (x6 * x4))) _ (op_mul rfl rfl) rfl ?_
          refine WL.val (Value.int .i64 (((w64 (x6 * x4))).tmod (55441 : Int))) _ (op_rem (b := 55441) rfl rfl (by decide)) rfl ?_
          refine WL.val (Value.int .i64 (((w64 (x6 * x4))).tmod (55441 : Int))) _ (op_assign rfl) rfl ?_
          refine WL.nil ?_
          obtain rfl := Option.some.inj hj25
          exact ⟨hf15, hf17, rfl, (inR_tmod (inR_wrap _ _)), hS21⟩
        · replace hj25 := inegb hj25 hc26
          refine W.skip ?_
          obtain rfl := Option.some.inj hj25
          exact ⟨hf15, hf17, hf19, hr20, hS21⟩
      · intro f27 wd28 hq29
        obtain ⟨hf30, hf31, hf32, hr33, hS34⟩ := hq29
        show W _ _ _ _ _ _
        refine W.region ?_
        refine WL.val (Value.int .i64 x4) _ (op_move hf30) rfl ?_
        refine WL.val (Value.int .i64 x4) _ (op_move hf30) rfl ?_
        refine WL.val (Value.int .i64 (w64 (x4 * x4))) _ (op_mul rfl rfl) rfl ?_
        refine WL.val (Value.int .i64 (((w64 (x4 * x4))).tmod (55441 : Int))) _ (op_rem (b := 55441) rfl rfl (by decide)) rfl ?_
        refine WL.val (Value.int .i64 (((w64 (x4 * x4))).tmod (55441 : Int))) _ (op_assign rfl) rfl ?_
        refine WL.nil ?_
        show W _ _ _ _ _ _
        refine W.region ?_
        refine WL.val (Value.int .i64 x5) _ (op_move hf31) rfl ?_
        refine WL.val (Value.int .i64 (w64 ((x5).tdiv (2 : Int)))) _ (op_quo (b := 2) rfl rfl (by decide)) rfl ?_
        refine WL.val (Value.int .i64 (w64 ((x5).tdiv (2 : Int)))) _ (op_assign rfl) rfl ?_
        refine WL.nil ?_
        obtain rfl := Option.some.inj hb11
        show ∃ s, _ = Ctl.next s ∧ _
        exact ⟨_, rfl, rfl, (inR_tmod (inR_wrap _ _)), rfl, (inR_wrap _ _), hf32, hr33, hS34⟩
    · replace hb11 := inegb hb11 hc22
      refine W.exit ?_
      obtain rfl := Option.some.inj hb11
      show _ = _ ∧ _
      exact ⟨rfl, _, hbrk13 _ rfl, hf19, hr20, hS21⟩
  · rintro f36 wd37 ⟨s39, rfl, hq38⟩
    replace h := onRes_fin h
    obtain ⟨x40, x41, x42⟩ := s39
    replace hq38 : f36 5 = Value.int .i64 x42 ∧ InR .i64 x42 ∧ St w wd37 [] := hq38
    replace h : (_ : Option _) = _ := h
    dsimp only at h
    obtain ⟨hf43, hr44, hS45⟩ := hq38
    refine W.seq (W.region ?_)
    refine WL.val (Value.int .i64 x42) _ (op_move hf43) rfl ?_
    refine WL.val (Value.int .i64 x42) _ (op_assign rfl) rfl ?_
    refine WL.nil ?_
    refine W.ret ?_
    obtain rfl := Option.some.inj h
    show FinP _ _ _ _ _ _ _
    exact FinP.ret _ (res1 rfl rfl) ⟨rfl, hr44, hS45.ext⟩

theorem c_impl_divide {w : World} {a : Int} {b : Int} (r_a : InR .i64 a) (r_b : InR .i64 b) {res : Int} (h : p_impl_divide a b  = some res) :
    Ret Try.prog 84 #[(Value.int .i64 a), (Value.int .i64 b)] w (fun v w' => v = Value.int .i64 res ∧ InR .i64 res ∧ Ext w w') := by
  unfold p_impl_divide at h
  have hS0 : St w w [] := St.start w
  refine Ret.start (fn := Try.f84) Try.func84 rfl 10 rfl rfl ?_
  refine W.seq (W.region ?_)
  refine WL.val (Value.int .i64 (0 : Int)) _ (op_assign rfl) rfl ?_
  refine WL.nil ?_
  refine W.seq (W.region ?_)
  refine WL.val (Value.int .i64 a) _ (op_move rfl) rfl ?_
  refine WL.val (Value.int .i64 b) _ (op_move rfl) rfl ?_
  obtain ⟨x1, hx2, h⟩ := bs h
  refine WL.call _ (op_call fn_101 (args2 rfl rfl)) (c_impl_power r_b (inL rfl) hx2) rfl ?_
  rintro _ wd4 ⟨rfl, hr3, he5⟩
  have hS7 := St.extend hS0 he5
  replace hS7 : St w wd4 [] := hS7
  refine WL.val (Value.int .i64 (w64 (a * x1))) _ (op_mul rfl rfl) rfl ?_
  refine WL.val (Value.int .i64 (((w64 (a * x1))).tmod (55441 : Int))) _ (op_rem (b := 55441) rfl rfl (by decide)) rfl ?_
  refine WL.val (Value.int .i64 (((w64 (a * x1))).tmod (55441 : Int))) _ (op_assign rfl) rfl ?_
  refine WL.nil ?_
  refine W.ret ?_
  obtain rfl := Option.some.inj h
  show FinP _ _ _ _ _ _ _
  exact FinP.ret _ (res1 rfl rfl) ⟨rfl, (inR_tmod (inR_wrap _ _)), hS7.ext⟩

theorem c_impl_zeros {w : World} {rows : Int} {columns : Int} (r_rows : InR .i64 rows) (r_columns : InR .i64 columns) {res : (List (List Int))} (h : p_impl_zeros rows columns  = some res) :
    Ret Try.prog 102 #[(Value.int .i64 rows), (Value.int .i64 columns)] w (fun v w' => ∃ (u0 : Value), v = u0 ∧ Ext w w' ∧ Sep w.heap.size w' [(Ty.sl (Ty.sl (Ty.i .i64))).at u0 res]) := by
  unfold p_impl_zeros at h
  have hS0 : St w w [] := St.start w
  refine Ret.start (fn := Try.f102) Try.func102 rfl 17 rfl rfl ?_
  refine W.seq (W.region ?_)
  refine WL.val (Value.slice none 0 0) _ (op_assign rfl) rfl ?_
  refine WL.nil ?_
  refine W.seq (W.region ?_)
  refine WL.lit0 (t := (Ty.sl (Ty.i .i64))) hS0 sl_43 rfl rfl ?_
  intro u1 wd2 hS3 he4
  replace hS3 : St w wd2 [(Ty.sl (Ty.sl (Ty.i .i64))).at u1 ([] : (List (List Int)))] := hS3
  refine WL.val u1 _ (op_assign rfl) rfl ?_
  refine WL.nil ?_
  refine W.seq (W.seq (W.region ?_))
  refine WL.val (Value.int .i64 rows) _ (op_move rfl) rfl ?_
  refine WL.val (Value.int .i64 (0 : Int)) _ (op_move rfl) rfl ?_
  refine WL.nil ?_
  show W _ _ _ _ _ _
  obtain ⟨res5, hres6, h⟩ := bs h
  refine W.blockLoop (fun fq wq => ∃ s, res5 = Res.fin s ∧ ∃ (uu0 : Value), fq 5 = uu0 ∧ St w wq [(Ty.sl (Ty.sl (Ty.i .i64))).at uu0 s]) ?_ ?_
  · refine W.forN (fun k (s : (List (List Int))) fq wq => ∃ (uu0 : Value), fq 1 = (Value.int .i64 columns) ∧ fq 5 = uu0 ∧ fq 7 = (Value.int .i64 rows) ∧ fq 8 = Value.int .i64 (k : Int) ∧ InR .i64 (k : Int) ∧ St w wq [(Ty.sl (Ty.sl (Ty.i .i64))).at uu0 s]) hres6 ⟨u1, rfl, rfl, rfl, rfl, (inL rfl), hS3⟩ ?_ ?_
    · intro k7 x8 ct9 f10 wd11 hk12 hb13 hI14 hbrk15 hret16
      replace hI14 : ∃ (uu0 : Value), f10 1 = (Value.int .i64 columns) ∧ f10 5 = uu0 ∧ f10 7 = (Value.int .i64 rows) ∧ f10 8 = Value.int .i64 (k7 : Int) ∧ InR .i64 (k7 : Int) ∧ St w wd11 [(Ty.sl (Ty.sl (Ty.i .i64))).at uu0 x8] := hI14
      replace hb13 : p_impl_zeros_L1 columns k7 x8 = some ct9 := hb13
      unfold p_impl_zeros_L1 at hb13
      obtain ⟨u17, hf18, hf19, hf20, hf21, hr22, hS23⟩ := hI14
      refine W.seq (W.region ?_)
      refine WL.val (Value.bool (decide ((k7 : Int) < rows))) _ (op_lss hf21 hf20) rfl ?_
      have hl24 : (k7 : Int) < rows := by omega
      refine WL.nil ?_
      refine W.seq ?_
      refine W.condT (decide ((k7 : Int) < rows)) rfl (decide_eq_true hl24) ?_
      refine W.skip ?_
      refine W.seq ?_
      refine W.block ?_
      refine W.region ?_
      refine WL.val u17 _ (op_move hf19) rfl ?_
      refine WL.val (Value.int .i64 columns) _ (op_move hf18) rfl ?_
      obtain ⟨x26, hx27, hb13⟩ := bs hb13
      refine WL.make (t := (Ty.i .i64)) hS23 sl_25 (fun _ _ => ⟨rfl, (inL rfl)⟩) rfl rfl hx27 rfl rfl ?_
      intro u28 wd29 hS30 he31
      replace hS30 : St w wd29 [(Ty.sl (Ty.sl (Ty.i .i64))).at u17 x8, (Ty.sl (Ty.i .i64)).at u28 x26] := hS30
      refine WL.lit [u28] hS30 sl_43 rfl rfl (fillL rfl ⟨rfl, rfl, (cells_rep (St.rep (t := (Ty.sl (Ty.i .i64))) hS30 1 rfl)), trivial⟩) rfl rfl ?_
      intro b36 wd33 hS34 he35 hx37
      replace hS34 : St w wd33 [(Ty.sl (Ty.sl (Ty.i .i64))).at u17 x8, (Ty.sl (Ty.i .i64)).at u28 x26, bx b36 [u28]] := hS34
      obtain ⟨x38, hx39, hb13⟩ := bs hb13
      refine WL.appendRow hS34 (k := 0) (k2 := 1) (k3 := 2) rfl rfl rfl rfl sl_43 rfl rfl rfl rfl hx39 rfl ?_
      intro u40 wd41 hS42 hz43
      replace hS42 : St w wd41 [(Ty.sl (Ty.sl (Ty.i .i64))).at u40 x38, emp, bx b36 [u28]] := hS42
      refine WL.val u40 _ (op_assign rfl) rfl ?_
      refine WL.nil ?_
      show W _ _ _ _ _ _
      refine W.region ?_
      refine WL.val (Value.int .i64 (w64 ((k7 : Int) + (1 : Int)))) _ (op_add hf21 rfl) rfl ?_
      refine WL.val (Value.int .i64 (w64 ((k7 : Int) + (1 : Int)))) _ (op_move rfl) rfl ?_
      refine WL.nil ?_
      obtain rfl := Option.some.inj hb13
      show ∃ s, _ = Ctl.next s ∧ _
      exact ⟨_, rfl, u40, hf18, rfl, hf20, (ctr_next hl24 r_rows), (ctr_rng hl24 r_rows), (St.pick hS42 [0] rfl)⟩
    · intro x50 f45 wd46 hs47 hI48
      replace hI48 : ∃ (uu0 : Value), f45 1 = (Value.int .i64 columns) ∧ f45 5 = uu0 ∧ f45 7 = (Value.int .i64 rows) ∧ f45 8 = Value.int .i64 (((rows).toNat : Nat) : Int) ∧ InR .i64 (((rows).toNat : Nat) : Int) ∧ St w wd46 [(Ty.sl (Ty.sl (Ty.i .i64))).at uu0 x50] := hI48
      obtain ⟨u51, hf52, hf53, hf54, hf55, hr56, hS57⟩ := hI48
      refine W.seq (W.region ?_)
      refine WL.val (Value.bool (decide ((((rows).toNat : Nat) : Int) < rows))) _ (op_lss hf55 hf54) rfl ?_
      have hl58 : ¬ (((rows).toNat : Nat) : Int) < rows := by omega
      refine WL.nil ?_
      refine W.seq ?_
      refine W.condF (decide ((((rows).toNat : Nat) : Int) < rows)) rfl (decide_eq_false hl58) ?_
      refine W.exit ?_
      show _ = _ ∧ _
      exact ⟨rfl, _, hs47, u51, hf53, hS57⟩
  · rintro f59 wd60 ⟨x63, rfl, hq61⟩
    replace h := onRes_fin h
    replace hq61 : ∃ (uu0 : Value), f59 5 = uu0 ∧ St w wd60 [(Ty.sl (Ty.sl (Ty.i .i64))).at uu0 x63] := hq61
    obtain ⟨u64, hf65, hS66⟩ := hq61
    refine W.seq (W.region ?_)
    refine WL.val u64 _ (op_move hf65) rfl ?_
    refine WL.val u64 _ (op_assign rfl) rfl ?_
    refine WL.nil ?_
    refine W.ret ?_
    obtain rfl := Option.some.inj h
    show FinP _ _ _ _ _ _ _
    exact FinP.ret _ (res1 rfl rfl) ⟨u64, rfl, hS66.ext, (St.out (St.pick hS66 [0] rfl) (Ext.refl _))⟩

theorem c_impl_emptyCube {w : World} {n : Int} (r_n : InR .i64 n) {res : (List (List (List Int)))} (h : p_impl_emptyCube n  = some res) :
    Ret Try.prog 85 #[(Value.int .i64 n)] w (fun v w' => ∃ (u0 : Value), v = (Value.agg #[u0]) ∧ Ext w w' ∧ Sep w.heap.size w' [(Ty.sl (Ty.sl (Ty.sl (Ty.i .i64)))).at u0 res]) := by
  unfold p_impl_emptyCube at h
  have hS0 : St w w [] := St.start w
  refine Ret.start (fn := Try.f85) Try.func85 rfl 18 rfl rfl ?_
  refine W.seq (W.region ?_)
  refine WL.alloc hS0 ze_29 (cs := [(Value.slice none 0 0)]) rfl rfl ?_
  intro b1 wd2 hS3 he4
  replace hS3 : St w wd2 [bx b1 [(Value.slice none 0 0)]] := hS3
  refine WL.nil ?_
  refine W.seq (W.region ?_)
  refine WL.val (Value.agg #[(Value.slice none 0 0)]) _ (op_build bd_29 (parts := []) (partsL trivial) trivial rfl) rfl ?_
  refine WL.alloc hS3 ze_29 (cs := [(Value.slice none 0 0)]) rfl rfl ?_
  intro b5 wd6 hS7 he8
  replace hS7 : St w wd6 [bx b1 [(Value.slice none 0 0)], bx b5 [(Value.slice none 0 0)]] := hS7
  have hS11 := St.addNil (Ty.sl (Ty.sl (Ty.i .i64))) hS7
  replace hS11 : St w wd6 [bx b1 [(Value.slice none 0 0)], bx b5 [(Value.slice none 0 0)], (Ty.sl (Ty.sl (Ty.sl (Ty.i .i64)))).at (Value.slice none 0 0) ([] : (List (List (List Int))))] := hS11
  refine WL.storeBox [(Value.slice none 0 0)] hS11 (k := 1) rfl rfl rfl (us := [(Value.slice none 0 0)]) rfl sz_29 rfl rfl (all_rep (St.rep (t := (Ty.sl (Ty.sl (Ty.sl (Ty.i .i64))))) hS11 2 rfl) all_nil) rfl ?_
  intro wd9 hS10
  replace hS10 : St w wd9 [bx b1 [(Value.slice none 0 0)], bx b5 [(Value.slice none 0 0)], (Ty.sl (Ty.sl (Ty.sl (Ty.i .i64)))).at (Value.slice none 0 0) ([] : (List (List (List Int))))] := hS10
  refine WL.nil ?_
  refine W.seq (W.seq (W.region ?_))
  refine WL.val (Value.int .i64 n) _ (op_move rfl) rfl ?_
  refine WL.val (Value.int .i64 (0 : Int)) _ (op_move rfl) rfl ?_
  refine WL.nil ?_
  show W _ _ _ _ _ _
  obtain ⟨res12, hres13, h⟩ := bs h
  refine W.blockLoop (fun fq wq => ∃ s, res12 = Res.fin s ∧ ∃ (uu0 : Value), fq 2 = (Value.pointer (some ⟨b1, 0, none⟩)) ∧ fq 3 = (Value.pointer (some ⟨b5, 0, none⟩)) ∧ St w wq [bx b1 [(Value.slice none 0 0)], bx b5 [uu0], (Ty.sl (Ty.sl (Ty.sl (Ty.i .i64)))).at uu0 s]) ?_ ?_
  · refine W.forN (fun k (s : (List (List (List Int)))) fq wq => ∃ (uu0 : Value), fq 0 = (Value.int .i64 n) ∧ fq 2 = (Value.pointer (some ⟨b1, 0, none⟩)) ∧ fq 3 = (Value.pointer (some ⟨b5, 0, none⟩)) ∧ fq 5 = (Value.int .i64 n) ∧ fq 6 = Value.int .i64 (k : Int) ∧ InR .i64 (k : Int) ∧ St w wq [bx b1 [(Value.slice none 0 0)], bx b5 [uu0], (Ty.sl (Ty.sl (Ty.sl (Ty.i .i64)))).at uu0 s]) hres13 ⟨(Value.slice none 0 0), rfl, rfl, rfl, rfl, rfl, (inL rfl), hS10⟩ ?_ ?_
    · intro k14 x15 ct16 f17 wd18 hk19 hb20 hI21 hbrk22 hret23
      replace hI21 : ∃ (uu0 : Value), f17 0 = (Value.int .i64 n) ∧ f17 2 = (Value.pointer (some ⟨b1, 0, none⟩)) ∧ f17 3 = (Value.pointer (some ⟨b5, 0, none⟩)) ∧ f17 5 = (Value.int .i64 n) ∧ f17 6 = Value.int .i64 (k14 : Int) ∧ InR .i64 (k14 : Int) ∧ St w wd18 [bx b1 [(Value.slice none 0 0)], bx b5 [uu0], (Ty.sl (Ty.sl (Ty.sl (Ty.i .i64)))).at uu0 x15] := hI21
      replace hb20 : p_impl_emptyCube_L1 n k14 x15 = some ct16 := hb20
      unfold p_impl_emptyCube_L1 at hb20
      obtain ⟨u24, hf25, hf26, hf27, hf28, hf29, hr30, hS31⟩ := hI21
      refine W.seq (W.region ?_)
      refine WL.val (Value.bool (decide ((k14 : Int) < n))) _ (op_lss hf29 hf28) rfl ?_
      have hl32 : (k14 : Int) < n := by omega
      refine WL.nil ?_
      refine W.seq ?_
      refine W.condT (decide ((k14 : Int) < n)) rfl (decide_eq_true hl32) ?_
      refine W.skip ?_
      refine W.seq ?_
      refine W.block ?_
      obtain ⟨x81, hx82, hb20⟩ := bs hb20
      refine W.drawR mixo 6 [] [fun _ v _ _ => v = (Value.pointer (some ⟨b5, 0, none⟩)), fun _ v _ _ => v = u24, fun _ v _ _ => v = (Value.int .i64 n) ∧ InR .i64 n, fun _ v _ _ => v = (Value.int .i64 n) ∧ InR .i64 n, fun _ v S w' => SepS S w' [(Ty.sl (Ty.sl (Ty.i .i64))).at v x81], fun f v S w' => ∃ b : Nat, v = Value.slice (some ⟨b, 0, none⟩) 1 1 ∧ SepS S w' [bx b [f 12]]] (by kernel_rfl) (by kernel_rfl) ⟨pk, pk, pk, pk, ⟨fun _ _ _ _ _ he h => SepS.extend he h, fun _ _ _ _ _ _ h => h⟩, ⟨fun _ _ _ _ _ he ⟨b, h1, h2⟩ => ⟨b, h1, SepS.extend he h2⟩, fun f f2 _ _ _ hf ⟨b, h1, h2⟩ => ⟨b, h1, by rw [← hf 4 12 rfl rfl]; exact h2⟩⟩, trivial⟩ ⟨?_, ?_, ?_, ?_, ?_, ?_, trivial⟩ ?_
      · refine ObX.op rfl fun f34 wd35 he36 hout37 hphi38 => ?_
        have e40 : f34 3 = (Value.pointer (some ⟨b5, 0, none⟩)) := (hout37 3 rfl).trans hf27
        exact OpX.val (Value.pointer (some ⟨b5, 0, none⟩)) wd35 rfl (op_fieldAddr fd_29_0 e40) (Ext.refl _) rfl
      · refine ObX.op rfl fun f41 wd42 he43 hout44 hphi45 => ?_
        have hS46 := St.extend hS31 he43
        obtain ⟨S47, hS48, hf49⟩ := hphi45 0 8 _ rfl rfl rfl
        have e50 : f41 8 = (Value.pointer (some ⟨b5, 0, none⟩)) := hf49
        exact OpX.val u24 wd42 rfl (op_load one_22 e50 (BoxAt.cell (St.boxAt hS46 1 rfl) rfl)) (Ext.refl _) rfl
      · refine ObX.op rfl fun f51 wd52 he53 hout54 hphi55 => ?_
        have e57 : f51 0 = (Value.int .i64 n) := (hout54 0 rfl).trans hf25
        exact OpX.val (Value.int .i64 n) wd52 rfl (op_move e57) (Ext.refl _) ⟨rfl, r_n⟩
      · refine ObX.op rfl fun f58 wd59 he60 hout61 hphi62 => ?_
        have e64 : f58 0 = (Value.int .i64 n) := (hout61 0 rfl).trans hf25
        exact OpX.val (Value.int .i64 n) wd59 rfl (op_move e64) (Ext.refl _) ⟨rfl, r_n⟩
      · refine ObX.op rfl fun f65 wd66 he67 hout68 hphi69 => ?_
        obtain ⟨S71, hS72, hf73⟩ := hphi69 2 10 _ rfl rfl rfl
        obtain ⟨e74, hr75⟩ := hf73
        obtain ⟨S76, hS77, hf78⟩ := hphi69 3 11 _ rfl rfl rfl
        obtain ⟨e79, hr80⟩ := hf78
        refine OpX.call rfl (op_call fn_102 (args2 e74 e79)) (Ret.mono (c_impl_zeros hr75 hr80 hx82) ?_)
        rintro u83 wd84 ⟨_, rfl, he85, hs86⟩
        exact ⟨he85, _, newS _ _, (Sep.new hs86)⟩
      · refine ObX.op rfl fun f87 wd88 he89 hout90 hphi91 => ?_
        obtain ⟨S93, hS94, hf95⟩ := hphi91 4 12 _ rfl rfl rfl
        have e96 : SepS S93 wd88 [(Ty.sl (Ty.sl (Ty.i .i64))).at (f87 12) x81] := hf95
        exact OpX.valO _ _ rfl (mk_lit (us := [(f87 12)]) sl_22 rfl (by decide) (fillL rfl ⟨rfl, rfl, (cells_rep (SepS.rep (t := (Ty.sl (Ty.sl (Ty.i .i64)))) e96 0 rfl)), trivial⟩) rfl) (Ext.alloc _ _) ⟨_, rfl, Sep.new (sep_box _ [(f87 12)] _)⟩
      · intro f97 wd98 Ss99 he100 hout101 hSn102 hSd103 hphi104
        show WL _ _ _ _ _ _ _
        have e106 : f97 9 = u24 := hphi104 1 9 _ (by decide) rfl rfl
        have e107 : SepS (Ss99 4) wd98 [(Ty.sl (Ty.sl (Ty.i .i64))).at (f97 12) x81] := hphi104 4 12 _ (by decide) rfl rfl
        obtain ⟨b109, e108, e108s⟩ : ∃ b : Nat, f97 13 = Value.slice (some ⟨b, 0, none⟩) 1 1 ∧ SepS (Ss99 5) wd98 [bx b [f97 12]] := hphi104 5 13 _ (by decide) rfl rfl
        have e110 : f97 0 = (Value.int .i64 n) := (hout101 0 rfl).trans hf25
        have e111 : f97 2 = (Value.pointer (some ⟨b1, 0, none⟩)) := (hout101 2 rfl).trans hf26
        have e112 : f97 3 = (Value.pointer (some ⟨b5, 0, none⟩)) := (hout101 3 rfl).trans hf27
        have e113 : f97 5 = (Value.int .i64 n) := (hout101 5 rfl).trans hf28
        have e114 : f97 6 = (Value.int .i64 (k14 : Int)) := (hout101 6 rfl).trans hf29
        have hS115 := St.joinS hS31 he100 hSn102 (SepS.consS hSd103 rfl e107 (SepS.consS hSd103 rfl e108s SepS.nilS))
        replace hS115 : St w wd98 [bx b1 [(Value.slice none 0 0)], bx b5 [u24], (Ty.sl (Ty.sl (Ty.sl (Ty.i .i64)))).at u24 x15, (Ty.sl (Ty.sl (Ty.i .i64))).at (f97 12) x81, bx b109 [(f97 12)]] := hS115
        obtain ⟨x116, hx117, hb20⟩ := bs hb20
        refine WL.appendRow hS115 (k := 2) (k2 := 3) (k3 := 4) rfl rfl rfl rfl sl_22 rfl rfl e106 e108 hx117 rfl ?_
        intro u118 wd119 hS120 hz121
        replace hS120 : St w wd119 [bx b1 [(Value.slice none 0 0)], bx b5 [u24], (Ty.sl (Ty.sl (Ty.sl (Ty.i .i64)))).at u118 x116, emp, bx b109 [(f97 12)]] := hS120
        refine WL.val (Value.pointer (some ⟨b5, 0, none⟩)) _ (op_fieldAddr fd_29_0 e112) rfl ?_
        refine WL.storeBox [u118] hS120 (k := 1) rfl rfl rfl (us := [u118]) (cells_rep (St.rep (t := (Ty.sl (Ty.sl (Ty.sl (Ty.i .i64))))) hS120 2 rfl)) sz_22 rfl rfl (all_rep (St.rep (t := (Ty.sl (Ty.sl (Ty.sl (Ty.i .i64))))) hS120 2 rfl) all_nil) rfl ?_
        intro wd122 hS123
        replace hS123 : St w wd122 [bx b1 [(Value.slice none 0 0)], bx b5 [u118], (Ty.sl (Ty.sl (Ty.sl (Ty.i .i64)))).at u118 x116, emp, bx b109 [(f97 12)]] := hS123
        refine WL.nil ?_
        show W _ _ _ _ _ _
        refine W.region ?_
        refine WL.val (Value.int .i64 (w64 ((k14 : Int) + (1 : Int)))) _ (op_add e114 rfl) rfl ?_
        refine WL.val (Value.int .i64 (w64 ((k14 : Int) + (1 : Int)))) _ (op_move rfl) rfl ?_
        refine WL.nil ?_
        obtain rfl := Option.some.inj hb20
        show ∃ s, _ = Ctl.next s ∧ _
        exact ⟨_, rfl, u118, e110, e111, e112, e113, (ctr_next hl32 r_n), (ctr_rng hl32 r_n), (St.pick hS123 [0, 1, 2] rfl)⟩
    · intro x130 f125 wd126 hs127 hI128
      replace hI128 : ∃ (uu0 : Value), f125 0 = (Value.int .i64 n) ∧ f125 2 = (Value.pointer (some ⟨b1, 0, none⟩)) ∧ f125 3 = (Value.pointer (some ⟨b5, 0, none⟩)) ∧ f125 5 = (Value.int .i64 n) ∧ f125 6 = Value.int .i64 (((n).toNat : Nat) : Int) ∧ InR .i64 (((n).toNat : Nat) : Int) ∧ St w wd126 [bx b1 [(Value.slice none 0 0)], bx b5 [uu0], (Ty.sl (Ty.sl (Ty.sl (Ty.i .i64)))).at uu0 x130] := hI128
      obtain ⟨u131, hf132, hf133, hf134, hf135, hf136, hr137, hS138⟩ := hI128
      refine W.seq (W.region ?_)
      refine WL.val (Value.bool (decide ((((n).toNat : Nat) : Int) < n))) _ (op_lss hf136 hf135) rfl ?_
      have hl139 : ¬ (((n).toNat : Nat) : Int) < n := by omega
      refine WL.nil ?_
      refine W.seq ?_
      refine W.condF (decide ((((n).toNat : Nat) : Int) < n)) rfl (decide_eq_false hl139) ?_
      refine W.exit ?_
      show _ = _ ∧ _
      exact ⟨rfl, _, hs127, u131, hf133, hf134, hS138⟩
  · rintro f140 wd141 ⟨x144, rfl, hq142⟩
    replace h := onRes_fin h
    replace hq142 : ∃ (uu0 : Value), f140 2 = (Value.pointer (some ⟨b1, 0, none⟩)) ∧ f140 3 = (Value.pointer (some ⟨b5, 0, none⟩)) ∧ St w wd141 [bx b1 [(Value.slice none 0 0)], bx b5 [uu0], (Ty.sl (Ty.sl (Ty.sl (Ty.i .i64)))).at uu0 x144] := hq142
    obtain ⟨u145, hf146, hf147, hS148⟩ := hq142
    refine W.seq (W.region ?_)
    refine WL.val (Value.agg #[u145]) _ (op_loadBox st_29 hf147 (St.boxAt hS148 1 rfl) rfl rfl) rfl ?_
    refine WL.storeBox [u145] hS148 (k := 0) rfl hf146 rfl (us := [u145]) rfl sz_29 rfl rfl (all_rep (St.rep (t := (Ty.sl (Ty.sl (Ty.sl (Ty.i .i64))))) hS148 2 rfl) all_nil) rfl ?_
    intro wd149 hS150
    replace hS150 : St w wd149 [bx b1 [u145], bx b5 [u145], (Ty.sl (Ty.sl (Ty.sl (Ty.i .i64)))).at u145 x144] := hS150
    refine WL.nil ?_
    refine W.ret ?_
    obtain rfl := Option.some.inj h
    show FinP _ _ _ _ _ _ _
    exact FinP.ret _ (resC rfl hf146 st_29 (St.boxAt hS150 0 rfl) rfl) ⟨u145, rfl, hS150.ext, (St.out (St.pick hS150 [2] rfl) (Ext.refl _))⟩

end Go.VG
