/- The walks, part 3: each Go function returns what its plain twin returns. No condition beyond what each names. -/
import Derived.Test.YtnilmlcdgllipaaDoorGWalk2
set_option linter.all false
namespace Go.VG
open Go.Proofs
attribute [local irreducible] W WL Sep FinP

theorem c_impl_labelsIn {w : World} {set : Int} (tb : TabAt w) (r_set : InR .i64 set) {res : (List Int)} (h : p_impl_labelsIn set  = some res) :
    Ret Tryd.prog 51 #[(Value.int .i64 set)] w (fun v w' => ∃ (u0 : Value), v = u0 ∧ Ext w w' ∧ Sep w.heap.size w' [(Ty.sl (Ty.i .i64)).at u0 res]) := by
  unfold p_impl_labelsIn at h
  have hS0 : St w w [] := St.start w
  refine Ret.start (fn := Tryd.f51) Tryd.func51 rfl 18 rfl rfl ?_
  refine W.seq (W.region ?_)
  refine WL.val (Value.slice none 0 0) _ (op_assign rfl) rfl ?_
  refine WL.nil ?_
  refine W.seq (W.region ?_)
  refine WL.lit0 (t := (Ty.i .i64)) hS0 sl_63 rfl rfl ?_
  intro u1 wd2 hS3 he4
  replace hS3 : St w wd2 [(Ty.sl (Ty.i .i64)).at u1 ([] : (List Int))] := hS3
  refine WL.val u1 _ (op_assign rfl) rfl ?_
  refine WL.nil ?_
  refine W.seq ?_
  obtain ⟨res5, hres6, h⟩ := bs h
  refine W.blockLoop (fun fq wq => ∃ s, res5 = Res.fin s ∧ ∃ (uu0 : Value), fq 3 = uu0 ∧ St w wq [(Ty.sl (Ty.i .i64)).at uu0 s.1]) ?_ ?_
  · refine W.whileC (fun (s : (List Int) × Int) fq wq => ∃ (uu0 : Value), fq 0 = Value.int .i64 s.2 ∧ InR .i64 s.2 ∧ fq 3 = uu0 ∧ St w wq [(Ty.sl (Ty.i .i64)).at uu0 s.1]) hres6 ⟨u1, rfl, r_set, rfl, hS3⟩ ?_
    intro s42 ct10 f11 wd12 hb14 hI15 hbrk16 hret17
    obtain ⟨x8, x9⟩ := s42
    replace hI15 : ∃ (uu0 : Value), f11 0 = Value.int .i64 x9 ∧ InR .i64 x9 ∧ f11 3 = uu0 ∧ St w wd12 [(Ty.sl (Ty.i .i64)).at uu0 x8] := hI15
    replace hb14 : p_impl_labelsIn_L1   x8 x9 = some ct10 := hb14
    unfold p_impl_labelsIn_L1 at hb14
    obtain ⟨u18, hf19, hr20, hf21, hS22⟩ := hI15
    refine W.seq (W.seq (W.region ?_))
    refine WL.val (Value.int .i64 x9) _ (op_move hf19) rfl ?_
    refine WL.val (Value.bool (x9 != (0 : Int))) _ (op_neq rfl rfl) rfl ?_
    refine WL.nil ?_
    refine W.cond (x9 != (0 : Int)) rfl (fun hc23 => ?_) (fun hc23 => ?_)
    · replace hb14 := ip hb14 hc23
      refine W.skip ?_
      refine W.seq ?_
      refine W.block ?_
      refine W.region ?_
      refine WL.val u18 _ (op_move hf21) rfl ?_
      refine WL.val (Value.int .i64 x9) _ (op_move hf19) rfl ?_
      refine WL.val (Value.int .u64 (IntKind.u64.wrap x9)) _ (op_convert rfl it_2 it_55) rfl ?_
      obtain ⟨x25, hx26, hb14⟩ := bs hb14
      refine WL.call _ (op_call fn_71 (args1 rfl)) (c_math_bits_TrailingZeros64 (tb.ext hS22.ext) (inR_wrap _ _) hx26) rfl ?_
      rintro _ wd28 ⟨rfl, hr27, he29⟩
      have hS31 := St.extend hS22 he29
      replace hS31 : St w wd28 [(Ty.sl (Ty.i .i64)).at u18 x8] := hS31
      refine WL.litFlat (t := (Ty.i .i64)) (flat_i .i64) [(Value.int .i64 x25)] [x25] hS31 sl_63 rfl rfl (fillL rfl ⟨rfl, rfl, rfl, trivial⟩) rfl rfl (litL ⟨⟨rfl, hr27⟩, trivial⟩) rfl ?_
      intro u32 wd33 hS34 he35
      replace hS34 : St w wd33 [(Ty.sl (Ty.i .i64)).at u18 x8, (Ty.sl (Ty.i .i64)).at u32 ([x25] : (List Int))] := hS34
      obtain ⟨x36, hx37, hb14⟩ := bs hb14
      refine WL.append (flat_i .i64) hS34 (k := 0) rfl sl_63 rfl rfl rfl rfl (St.rep (t := (Ty.sl (Ty.i .i64))) hS34 1 rfl) hx37 rfl ?_
      intro u38 wd39 hS40 hz41
      replace hS40 : St w wd39 [(Ty.sl (Ty.i .i64)).at u38 x36, (Ty.sl (Ty.i .i64)).at u32 ([x25] : (List Int))] := hS40
      refine WL.val u38 _ (op_assign rfl) rfl ?_
      refine WL.nil ?_
      show W _ _ _ _ _ _
      refine W.region ?_
      refine WL.val (Value.int .i64 x9) _ (op_move hf19) rfl ?_
      refine WL.val (Value.int .i64 x9) _ (op_move hf19) rfl ?_
      refine WL.val (Value.int .i64 (w64 (x9 - (1 : Int)))) _ (op_sub rfl rfl) rfl ?_
      refine WL.val (Value.int .i64 (andI .i64 x9 (w64 (x9 - (1 : Int))))) _ (op_and rfl rfl) rfl ?_
      refine WL.val (Value.int .i64 (andI .i64 x9 (w64 (x9 - (1 : Int))))) _ (op_assign rfl) rfl ?_
      refine WL.nil ?_
      obtain rfl := Option.some.inj hb14
      show ∃ s, _ = Ctl.next s ∧ _
      exact ⟨_, rfl, u38, rfl, (inR_wrap _ _), rfl, (St.pick hS40 [0] rfl)⟩
    · replace hb14 := inegb hb14 hc23
      refine W.exit ?_
      obtain rfl := Option.some.inj hb14
      show _ = _ ∧ _
      exact ⟨rfl, _, hbrk16 _ rfl, u18, hf21, hS22⟩
  · rintro f43 wd44 ⟨s46, rfl, hq45⟩
    replace h := onRes_fin h
    obtain ⟨x47, x48⟩ := s46
    replace hq45 : ∃ (uu0 : Value), f43 3 = uu0 ∧ St w wd44 [(Ty.sl (Ty.i .i64)).at uu0 x47] := hq45
    replace h : (_ : Option _) = _ := h
    dsimp only at h
    obtain ⟨u49, hf50, hS51⟩ := hq45
    refine W.seq (W.region ?_)
    refine WL.val u49 _ (op_move hf50) rfl ?_
    refine WL.val u49 _ (op_assign rfl) rfl ?_
    refine WL.nil ?_
    refine W.ret ?_
    obtain rfl := Option.some.inj h
    show FinP _ _ _ _ _ _ _
    exact FinP.ret _ (res1 rfl rfl) ⟨u49, rfl, hS51.ext, (St.out (St.pick hS51 [0] rfl) (Ext.refl _))⟩

theorem c_impl_isClosed {w : World} {supports : (List (List Int))} {v_supports : Value} {dual : (List Int)} {v_dual : Value} {set : Int} (tb : TabAt w) (r_supports : (Ty.sl (Ty.sl (Ty.i .i64))).rep w v_supports supports) (r_dual : (Ty.sl (Ty.i .i64)).rep w v_dual dual) (r_set : InR .i64 set) {res : Bool} (h : p_impl_isClosed supports dual set  = some res) :
    Ret Tryd.prog 61 #[v_supports, v_dual, (Value.int .i64 set)] w (fun v w' => v = Value.bool res ∧ Ext w w') := by
  unfold p_impl_isClosed at h
  have hS0 : St w w [] := St.start w
  refine Ret.start (fn := Tryd.f61) Tryd.func61 rfl 46 rfl rfl ?_
  refine W.seq (W.region ?_)
  refine WL.val (Value.bool false) _ (op_assign rfl) rfl ?_
  refine WL.nil ?_
  refine W.seq (W.region ?_)
  refine WL.val (Value.int .i64 set) _ (op_move rfl) rfl ?_
  obtain ⟨x1, hx2, h⟩ := bs h
  refine WL.call _ (op_call fn_51 (args1 rfl)) (c_impl_labelsIn (tb.ext hS0.ext) r_set hx2) rfl ?_
  rintro u3 wd4 ⟨_, rfl, he5, hs6⟩
  have hS7 := St.join hS0 he5 hs6
  replace hS7 : St w wd4 [(Ty.sl (Ty.i .i64)).at u3 x1] := hS7
  have hb8 := St.rep (t := (Ty.sl (Ty.i .i64))) hS7 0 rfl
  have hE9 : Ext w wd4 := hS7.ext
  have hS10 : St wd4 wd4 [] := St.start wd4
  refine WL.val u3 _ (op_assign rfl) rfl ?_
  refine WL.nil ?_
  refine W.seq (W.seq (W.region ?_))
  refine WL.val u3 _ (op_move rfl) rfl ?_
  have hr11 := inR_len (Ty.lift _ hS10.ext hb8)
  refine WL.val (Value.int .i64 ((x1).length : Int)) _ (op_lenL sl_63 (Ty.lift _ hS10.ext hb8) rfl) rfl ?_
  refine WL.val (Value.int .i64 (0 : Int)) _ (op_move rfl) rfl ?_
  refine WL.nil ?_
  show W _ _ _ _ _ _
  obtain ⟨res12, hres13, h⟩ := bs h
  refine W.blockLoop (fun fq wq => ∃ s, res12 = Res.fin s ∧ St wd4 wq []) ?_ ?_
  · refine W.forN (fun k (s : Unit) fq wq => fq 0 = v_supports ∧ fq 1 = v_dual ∧ fq 2 = (Value.int .i64 set) ∧ fq 7 = u3 ∧ fq 14 = u3 ∧ fq 15 = (Value.int .i64 ((x1).length : Int)) ∧ fq 16 = Value.int .i64 (k : Int) ∧ InR .i64 (k : Int) ∧ St wd4 wq []) hres13 ⟨rfl, rfl, rfl, rfl, rfl, rfl, rfl, (inL rfl), hS10⟩ ?_ ?_
    · intro k14 s137 ct15 f16 wd17 hk18 hb19 hI20 hbrk21 hret22
      obtain ⟨⟩ := s137
      replace hI20 : f16 0 = v_supports ∧ f16 1 = v_dual ∧ f16 2 = (Value.int .i64 set) ∧ f16 7 = u3 ∧ f16 14 = u3 ∧ f16 15 = (Value.int .i64 ((x1).length : Int)) ∧ f16 16 = Value.int .i64 (k14 : Int) ∧ InR .i64 (k14 : Int) ∧ St wd4 wd17 [] := hI20
      replace hb19 : p_impl_isClosed_L1 x1 dual set supports k14  = some ct15 := hb19
      unfold p_impl_isClosed_L1 at hb19
      obtain ⟨hf23, hf24, hf25, hf26, hf27, hf28, hf29, hr30, hS31⟩ := hI20
      refine W.seq (W.region ?_)
      refine WL.val (Value.bool (decide ((k14 : Int) < ((x1).length : Int)))) _ (op_lss hf29 hf28) rfl ?_
      have hl32 : (k14 : Int) < ((x1).length : Int) := by omega
      refine WL.nil ?_
      refine W.seq ?_
      refine W.condT (decide ((k14 : Int) < ((x1).length : Int))) rfl (decide_eq_true hl32) ?_
      refine W.skip ?_
      refine W.seq ?_
      refine W.block ?_
      refine W.seq (W.region ?_)
      obtain ⟨x34, hx37, hb19⟩ := bs hb19
      obtain ⟨ha35, hb36, hx37⟩ := idx_some hx37
      refine WL.val (Value.pointer (some (elA u3 ((k14 : Int)).toNat))) _ (op_idx sl_63 (Ty.lift _ hS31.ext hb8) hf27 hf29 ha35 hb36) rfl ?_
      obtain ⟨u38, hc39, hr40⟩ := repSl.el hb8 hx37
      obtain ⟨rfl, hr40⟩ := hr40
      refine WL.val (Value.int .i64 x34) _ (op_load one_3 rfl (Ext.cell hS31.ext hc39)) rfl ?_
      refine WL.val (Value.int .i64 x34) _ (op_assign rfl) rfl ?_
      refine WL.nil ?_
      refine W.seq (W.seq (W.region ?_))
      refine WL.val (Value.int .i64 set) _ (op_move hf25) rfl ?_
      refine WL.val v_dual _ (op_move hf24) rfl ?_
      refine WL.val (Value.int .i64 x34) _ (op_move rfl) rfl ?_
      obtain ⟨x41, hx44, hb19⟩ := bs hb19
      obtain ⟨ha42, hb43, hx44⟩ := idx_some hx44
      refine WL.val (Value.pointer (some (elA v_dual (x34).toNat))) _ (op_idx sl_63 (Ty.lift _ (Ext.trans hE9 hS31.ext) r_dual) rfl rfl ha42 hb43) rfl ?_
      obtain ⟨u45, hc46, hr47⟩ := repSl.el r_dual hx44
      obtain ⟨rfl, hr47⟩ := hr47
      refine WL.val (Value.int .i64 x41) _ (op_load one_3 rfl (Ext.cell (Ext.trans hE9 hS31.ext) hc46)) rfl ?_
      obtain ⟨x48, hz49, hb19⟩ := bs hb19
      obtain ⟨h050, hz49⟩ := shrI_some hz49
      have hr51 : InR .i64 x48 := by rw [hz49]; exact inR_fdiv _ r_set
      refine WL.val (Value.int .i64 x48) _ (by rw [hz49]; exact op_shr rfl rfl h050) rfl ?_
      refine WL.val (Value.int .i64 (andI .i64 x48 (1 : Int))) _ (op_and rfl rfl) rfl ?_
      refine WL.val (Value.bool ((andI .i64 x48 (1 : Int)) == (0 : Int))) _ (op_eql rfl rfl) rfl ?_
      refine WL.nil ?_
      refine W.cond ((andI .i64 x48 (1 : Int)) == (0 : Int)) rfl (fun hc52 => ?_) (fun hc52 => ?_)
      · replace hb19 := ip hb19 hc52
        refine W.seq (W.region ?_)
        refine WL.val (Value.bool false) _ (op_assign rfl) rfl ?_
        refine WL.nil ?_
        refine W.ret ?_
        obtain rfl := Option.some.inj hb19
        obtain rfl := hret22 _ rfl
        replace h := onRes_ret h
        obtain rfl := Option.some.inj h
        show FinP _ _ _ _ _ _ _
        exact FinP.ret _ (res1 rfl rfl) ⟨rfl, (Ext.trans hE9 hS31.ext)⟩
      · replace hb19 := inegb hb19 hc52
        refine W.skip ?_
        refine W.seq (W.region ?_)
        refine WL.val u3 _ (op_move hf26) rfl ?_
        have hr54 := inR_len (Ty.lift _ hS31.ext hb8)
        refine WL.val (Value.int .i64 ((x1).length : Int)) _ (op_lenL sl_63 (Ty.lift _ hS31.ext hb8) rfl) rfl ?_
        refine WL.val (Value.int .i64 (0 : Int)) _ (op_move rfl) rfl ?_
        refine WL.nil ?_
        show W _ _ _ _ _ _
        obtain ⟨res55, hres56, hb19⟩ := bs hb19
        refine W.blockLoop (fun fq wq => ∃ s, res55 = Res.fin s ∧ fq 0 = v_supports ∧ fq 1 = v_dual ∧ fq 2 = (Value.int .i64 set) ∧ fq 7 = u3 ∧ fq 14 = u3 ∧ fq 15 = (Value.int .i64 ((x1).length : Int)) ∧ fq 16 = (Value.int .i64 (k14 : Int)) ∧ St wd4 wq []) ?_ ?_
        · refine W.forN (fun k (s : Unit) fq wq => fq 0 = v_supports ∧ fq 1 = v_dual ∧ fq 2 = (Value.int .i64 set) ∧ fq 7 = u3 ∧ fq 9 = (Value.int .i64 x34) ∧ fq 14 = u3 ∧ fq 15 = (Value.int .i64 ((x1).length : Int)) ∧ fq 16 = (Value.int .i64 (k14 : Int)) ∧ fq 28 = u3 ∧ fq 29 = (Value.int .i64 ((x1).length : Int)) ∧ fq 30 = Value.int .i64 (k : Int) ∧ InR .i64 (k : Int) ∧ St wd4 wq []) hres56 ⟨hf23, hf24, hf25, hf26, rfl, hf27, hf28, hf29, rfl, rfl, rfl, (inL rfl), hS31⟩ ?_ ?_
          · intro k57 s104 ct58 f59 wd60 hk61 hb62 hI63 hbrk64 hret65
            obtain ⟨⟩ := s104
            replace hI63 : f59 0 = v_supports ∧ f59 1 = v_dual ∧ f59 2 = (Value.int .i64 set) ∧ f59 7 = u3 ∧ f59 9 = (Value.int .i64 x34) ∧ f59 14 = u3 ∧ f59 15 = (Value.int .i64 ((x1).length : Int)) ∧ f59 16 = (Value.int .i64 (k14 : Int)) ∧ f59 28 = u3 ∧ f59 29 = (Value.int .i64 ((x1).length : Int)) ∧ f59 30 = Value.int .i64 (k57 : Int) ∧ InR .i64 (k57 : Int) ∧ St wd4 wd60 [] := hI63
            replace hb62 : p_impl_isClosed_L2 x1 supports x34 set k57  = some ct58 := hb62
            unfold p_impl_isClosed_L2 at hb62
            obtain ⟨hf66, hf67, hf68, hf69, hf70, hf71, hf72, hf73, hf74, hf75, hf76, hr77, hS78⟩ := hI63
            refine W.seq (W.region ?_)
            refine WL.val (Value.bool (decide ((k57 : Int) < ((x1).length : Int)))) _ (op_lss hf76 hf75) rfl ?_
            have hl79 : (k57 : Int) < ((x1).length : Int) := by omega
            refine WL.nil ?_
            refine W.seq ?_
            refine W.condT (decide ((k57 : Int) < ((x1).length : Int))) rfl (decide_eq_true hl79) ?_
            refine W.skip ?_
            refine W.seq ?_
            refine W.block ?_
            refine W.seq (W.region ?_)
            obtain ⟨x81, hx84, hb62⟩ := bs hb62
            obtain ⟨ha82, hb83, hx84⟩ := idx_some hx84
            refine WL.val (Value.pointer (some (elA u3 ((k57 : Int)).toNat))) _ (op_idx sl_63 (Ty.lift _ hS78.ext hb8) hf74 hf76 ha82 hb83) rfl ?_
            obtain ⟨u85, hc86, hr87⟩ := repSl.el hb8 hx84
            obtain ⟨rfl, hr87⟩ := hr87
            refine WL.val (Value.int .i64 x81) _ (op_load one_3 rfl (Ext.cell hS78.ext hc86)) rfl ?_
            refine WL.val (Value.int .i64 x81) _ (op_assign rfl) rfl ?_
            refine WL.nil ?_
            refine W.seq (W.region ?_)
            refine WL.val v_supports _ (op_move hf66) rfl ?_
            refine WL.val (Value.int .i64 x34) _ (op_move hf70) rfl ?_
            obtain ⟨x88, hx91, hb62⟩ := bs hb62
            obtain ⟨ha89, hb90, hx91⟩ := idx_some hx91
            refine WL.val (Value.pointer (some (elA v_supports (x34).toNat))) _ (op_idx sl_60 (Ty.lift _ (Ext.trans hE9 hS78.ext) r_supports) rfl rfl ha89 hb90) rfl ?_
            obtain ⟨u92, hc93, hr94⟩ := repSl.el r_supports hx91
            refine WL.val u92 _ (op_load one_34 rfl (Ext.cell (Ext.trans hE9 hS78.ext) hc93)) rfl ?_
            refine WL.val (Value.int .i64 x81) _ (op_move rfl) rfl ?_
            obtain ⟨x95, hx98, hb62⟩ := bs hb62
            obtain ⟨ha96, hb97, hx98⟩ := idx_some hx98
            refine WL.val (Value.pointer (some (elA u92 (x81).toNat))) _ (op_idx sl_34 (Ty.lift _ (Ext.trans hE9 hS78.ext) hr94) rfl rfl ha96 hb97) rfl ?_
            obtain ⟨u99, hc100, hr101⟩ := repSl.el hr94 hx98
            obtain ⟨rfl, hr101⟩ := hr101
            refine WL.val (Value.int .i64 x95) _ (op_load one_2 rfl (Ext.cell (Ext.trans hE9 hS78.ext) hc100)) rfl ?_
            refine WL.val (Value.int .i64 set) _ (op_move hf68) rfl ?_
            refine WL.val (Value.int .i64 (andNotI .i64 x95 set)) _ (op_andNot rfl rfl) rfl ?_
            refine WL.val (Value.bool ((andNotI .i64 x95 set) != (0 : Int))) _ (op_neq rfl rfl) rfl ?_
            refine WL.nil ?_
            refine W.cond ((andNotI .i64 x95 set) != (0 : Int)) rfl (fun hc102 => ?_) (fun hc102 => ?_)
            · replace hb62 := ip hb62 hc102
              refine W.seq (W.region ?_)
              refine WL.val (Value.bool false) _ (op_assign rfl) rfl ?_
              refine WL.nil ?_
              refine W.ret ?_
              obtain rfl := Option.some.inj hb62
              obtain rfl := hret65 _ rfl
              replace hb19 := onRes_ret hb19
              obtain rfl := Option.some.inj hb19
              obtain rfl := hret22 _ rfl
              replace h := onRes_ret h
              obtain rfl := Option.some.inj h
              show FinP _ _ _ _ _ _ _
              exact FinP.ret _ (res1 rfl rfl) ⟨rfl, (Ext.trans hE9 hS78.ext)⟩
            · replace hb62 := inegb hb62 hc102
              refine W.skip ?_
              show W _ _ _ _ _ _
              refine W.region ?_
              refine WL.val (Value.int .i64 (w64 ((k57 : Int) + (1 : Int)))) _ (op_add hf76 rfl) rfl ?_
              refine WL.val (Value.int .i64 (w64 ((k57 : Int) + (1 : Int)))) _ (op_move rfl) rfl ?_
              refine WL.nil ?_
              obtain rfl := Option.some.inj hb62
              show ∃ s, _ = Ctl.next s ∧ _
              exact ⟨_, rfl, hf66, hf67, hf68, hf69, hf70, hf71, hf72, hf73, hf74, hf75, (ctr_next hl79 hr54), (ctr_rng hl79 hr54), hS78⟩
          · intro s109 f105 wd106 hs107 hI108
            obtain ⟨⟩ := s109
            replace hI108 : f105 0 = v_supports ∧ f105 1 = v_dual ∧ f105 2 = (Value.int .i64 set) ∧ f105 7 = u3 ∧ f105 9 = (Value.int .i64 x34) ∧ f105 14 = u3 ∧ f105 15 = (Value.int .i64 ((x1).length : Int)) ∧ f105 16 = (Value.int .i64 (k14 : Int)) ∧ f105 28 = u3 ∧ f105 29 = (Value.int .i64 ((x1).length : Int)) ∧ f105 30 = Value.int .i64 (((x1).length : Nat) : Int) ∧ InR .i64 (((x1).length : Nat) : Int) ∧ St wd4 wd106 [] := hI108
            obtain ⟨hf110, hf111, hf112, hf113, hf114, hf115, hf116, hf117, hf118, hf119, hf120, hr121, hS122⟩ := hI108
            refine W.seq (W.region ?_)
            refine WL.val (Value.bool (decide ((((x1).length : Nat) : Int) < ((x1).length : Int)))) _ (op_lss hf120 hf119) rfl ?_
            have hl123 : ¬ (((x1).length : Nat) : Int) < ((x1).length : Int) := by omega
            refine WL.nil ?_
            refine W.seq ?_
            refine W.condF (decide ((((x1).length : Nat) : Int) < ((x1).length : Int))) rfl (decide_eq_false hl123) ?_
            refine W.exit ?_
            show _ = _ ∧ _
            exact ⟨rfl, _, hs107, hf110, hf111, hf112, hf113, hf115, hf116, hf117, hS122⟩
        · rintro f124 wd125 ⟨s127, rfl, hq126⟩
          replace hb19 := onRes_fin hb19
          obtain ⟨⟩ := s127
          replace hq126 : f124 0 = v_supports ∧ f124 1 = v_dual ∧ f124 2 = (Value.int .i64 set) ∧ f124 7 = u3 ∧ f124 14 = u3 ∧ f124 15 = (Value.int .i64 ((x1).length : Int)) ∧ f124 16 = (Value.int .i64 (k14 : Int)) ∧ St wd4 wd125 [] := hq126
          obtain ⟨hf128, hf129, hf130, hf131, hf132, hf133, hf134, hS135⟩ := hq126
          show W _ _ _ _ _ _
          refine W.region ?_
          refine WL.val (Value.int .i64 (w64 ((k14 : Int) + (1 : Int)))) _ (op_add hf134 rfl) rfl ?_
          refine WL.val (Value.int .i64 (w64 ((k14 : Int) + (1 : Int)))) _ (op_move rfl) rfl ?_
          refine WL.nil ?_
          obtain rfl := Option.some.inj hb19
          show ∃ s, _ = Ctl.next s ∧ _
          exact ⟨_, rfl, hf128, hf129, hf130, hf131, hf132, hf133, (ctr_next hl32 hr11), (ctr_rng hl32 hr11), hS135⟩
    · intro s142 f138 wd139 hs140 hI141
      obtain ⟨⟩ := s142
      replace hI141 : f138 0 = v_supports ∧ f138 1 = v_dual ∧ f138 2 = (Value.int .i64 set) ∧ f138 7 = u3 ∧ f138 14 = u3 ∧ f138 15 = (Value.int .i64 ((x1).length : Int)) ∧ f138 16 = Value.int .i64 (((x1).length : Nat) : Int) ∧ InR .i64 (((x1).length : Nat) : Int) ∧ St wd4 wd139 [] := hI141
      obtain ⟨hf143, hf144, hf145, hf146, hf147, hf148, hf149, hr150, hS151⟩ := hI141
      refine W.seq (W.region ?_)
      refine WL.val (Value.bool (decide ((((x1).length : Nat) : Int) < ((x1).length : Int)))) _ (op_lss hf149 hf148) rfl ?_
      have hl152 : ¬ (((x1).length : Nat) : Int) < ((x1).length : Int) := by omega
      refine WL.nil ?_
      refine W.seq ?_
      refine W.condF (decide ((((x1).length : Nat) : Int) < ((x1).length : Int))) rfl (decide_eq_false hl152) ?_
      refine W.exit ?_
      show _ = _ ∧ _
      exact ⟨rfl, _, hs140, hS151⟩
  · rintro f153 wd154 ⟨s156, rfl, hq155⟩
    replace h := onRes_fin h
    obtain ⟨⟩ := s156
    replace hq155 : St wd4 wd154 [] := hq155
    have hS157 := hq155
    refine W.seq (W.region ?_)
    refine WL.val (Value.bool true) _ (op_assign rfl) rfl ?_
    refine WL.nil ?_
    refine W.ret ?_
    obtain rfl := Option.some.inj h
    show FinP _ _ _ _ _ _ _
    exact FinP.ret _ (res1 rfl rfl) ⟨rfl, (Ext.trans hE9 hS157.ext)⟩

theorem c_impl_Ring_subrings {w : World} {r_Table : (List (List (List Int)))} {v_r_Table : Value} (tb : TabAt w) (r_r_Table : (Ty.sl (Ty.sl (Ty.sl (Ty.i .i64)))).rep w v_r_Table r_Table) {res : (List Int)} (h : p_impl_Ring_subrings r_Table  = some res) :
    Ret Tryd.prog 34 #[(Value.agg #[v_r_Table])] w (fun v w' => ∃ (u0 : Value), v = u0 ∧ Ext w w' ∧ Sep w.heap.size w' [(Ty.sl (Ty.i .i64)).at u0 res]) := by
  unfold p_impl_Ring_subrings at h
  have hS0 : St w w [] := St.start w
  refine Ret.start (fn := Tryd.f34) Tryd.func34 rfl 26 rfl rfl ?_
  refine W.seq (W.region ?_)
  refine WL.box hS0 rfl (cs := [v_r_Table]) rfl rfl ?_
  intro b1 wd2 hS3 he4 hx5
  replace hS3 : St w wd2 [bx b1 [v_r_Table]] := hS3
  have hx6 := St.boxAt hS3 0 rfl
  have hE7 : Ext w wd2 := hS3.ext
  have hS8 : St wd2 wd2 [] := St.start wd2
  refine WL.val (Value.slice none 0 0) _ (op_assign rfl) rfl ?_
  refine WL.nil ?_
  refine W.seq ?_
  obtain ⟨x26, hx27, h⟩ := bs h
  obtain ⟨x49, hx50, h⟩ := bs h
  refine W.drawR mixo 7 [] [fun _ v S w' => v = (Value.agg #[v_r_Table]), fun _ v S w' => SepS S w' [(Ty.sl (Ty.sl (Ty.i .i64))).at v x26], fun _ v S w' => v = (Value.agg #[v_r_Table]), fun _ v S w' => SepS S w' [(Ty.sl (Ty.i .i64)).at v x49], fun _ v S w' => SepS S w' [(Ty.sl (Ty.i .i64)).at v ([] : (List Int))], fun f v _ _ => v = f 8, fun f v _ _ => v = f 10] (by kernel_rfl) (by kernel_rfl) ⟨pk, ⟨fun _ _ _ _ _ he h => SepS.extend he h, fun _ _ _ _ _ _ h => h⟩, pk, ⟨fun _ _ _ _ _ he h => SepS.extend he h, fun _ _ _ _ _ _ h => h⟩, ⟨fun _ _ _ _ _ he h => SepS.extend he h, fun _ _ _ _ _ _ h => h⟩, ⟨fun _ _ _ _ _ _ h => h, fun _ _ _ _ _ hf h => h.trans (hf 1 8 rfl rfl)⟩, ⟨fun _ _ _ _ _ _ h => h, fun _ _ _ _ _ hf h => h.trans (hf 3 10 rfl rfl)⟩, trivial⟩ ⟨?_, ?_, ?_, ?_, ?_, ?_, ?_, trivial⟩ ?_
  · refine ObX.op rfl fun f9 wd10 he11 hout12 hphi13 => ?_
    have hS14 := St.extend hS8 he11
    have e15 : f9 1 = (Value.pointer (some ⟨b1, 0, none⟩)) := (hout12 1 rfl).trans rfl
    exact OpX.val (Value.agg #[v_r_Table]) wd10 rfl (op_loadBox st_28 e15 (BoxAt.lift hS14.ext hx6) rfl rfl) (Ext.refl _) rfl
  · refine ObX.op rfl fun f16 wd17 he18 hout19 hphi20 => ?_
    have hS21 := St.extend hS8 he18
    obtain ⟨S22, hS23, hf24⟩ := hphi20 0 7 _ rfl rfl rfl
    have e25 : f16 7 = (Value.agg #[v_r_Table]) := hf24
    refine OpX.call rfl (op_call fn_48 (args1 e25)) (Ret.mono (c_impl_Ring_supports (Ty.lift _ (Ext.trans hE7 hS21.ext) r_r_Table) hx27) ?_)
    rintro u28 wd29 ⟨_, rfl, he30, hs31⟩
    exact ⟨he30, _, newS _ _, (Sep.new hs31)⟩
  · refine ObX.op rfl fun f32 wd33 he34 hout35 hphi36 => ?_
    have hS37 := St.extend hS8 he34
    have e38 : f32 1 = (Value.pointer (some ⟨b1, 0, none⟩)) := (hout35 1 rfl).trans rfl
    exact OpX.val (Value.agg #[v_r_Table]) wd33 rfl (op_loadBox st_28 e38 (BoxAt.lift hS37.ext hx6) rfl rfl) (Ext.refl _) rfl
  · refine ObX.op rfl fun f39 wd40 he41 hout42 hphi43 => ?_
    have hS44 := St.extend hS8 he41
    obtain ⟨S45, hS46, hf47⟩ := hphi43 2 9 _ rfl rfl rfl
    have e48 : f39 9 = (Value.agg #[v_r_Table]) := hf47
    refine OpX.call rfl (op_call fn_59 (args1 e48)) (Ret.mono (c_impl_Ring_duals (Ty.lift _ (Ext.trans hE7 hS44.ext) r_r_Table) hx50) ?_)
    rintro u51 wd52 ⟨_, rfl, he53, hs54⟩
    exact ⟨he53, _, newS _ _, (Sep.new hs54)⟩
  · refine ObX.op rfl fun f55 wd56 he57 hout58 hphi59 => ?_
    obtain ⟨v61, wd62, ho63, he64, hs65⟩ := mk_litFlat (P := Tryd.prog) (f := f55) (w := wd56) (T := 34) (m := 0) (ps := #[]) (us := []) (t := (Ty.i .i64)) (flat_i .i64) ([] : (List Int)) sl_34 rfl (Nat.le_of_ble_eq_true rfl) (fillL rfl trivial) rfl rfl (litL trivial)
    exact OpX.valO v61 wd62 rfl ho63 he64 (Sep.new hs65)
  · refine ObX.op rfl fun f66 wd67 he68 hout69 hphi70 => ?_
    obtain ⟨S72, hS73, hf74⟩ := hphi70 1 8 _ rfl rfl rfl
    exact OpX.val (f66 8) wd67 rfl (op_assign rfl) (Ext.refl _) rfl
  · refine ObX.op rfl fun f76 wd77 he78 hout79 hphi80 => ?_
    obtain ⟨S82, hS83, hf84⟩ := hphi80 3 10 _ rfl rfl rfl
    exact OpX.val (f76 10) wd77 rfl (op_assign rfl) (Ext.refl _) rfl
  · intro f86 wd87 Ss88 he89 hout90 hSn91 hSd92 hphi93
    show WL _ _ _ _ _ _ _
    have e95 : SepS (Ss88 1) wd87 [(Ty.sl (Ty.sl (Ty.i .i64))).at (f86 8) x26] := hphi93 1 8 _ (by decide) rfl rfl
    have e96 : SepS (Ss88 3) wd87 [(Ty.sl (Ty.i .i64)).at (f86 10) x49] := hphi93 3 10 _ (by decide) rfl rfl
    have e97 : SepS (Ss88 4) wd87 [(Ty.sl (Ty.i .i64)).at (f86 11) ([] : (List Int))] := hphi93 4 11 _ (by decide) rfl rfl
    have e98 : f86 3 = (f86 8) := (hphi93 5 3 _ (by decide) rfl rfl)
    have e99 : f86 4 = (f86 10) := (hphi93 6 4 _ (by decide) rfl rfl)
    have e100 : f86 1 = (Value.pointer (some ⟨b1, 0, none⟩)) := (hout90 1 rfl).trans rfl
    have hS101 := St.joinS hS8 he89 hSn91 (SepS.consS hSd92 rfl e95 (SepS.consS hSd92 rfl e96 (SepS.consS hSd92 rfl e97 SepS.nilS)))
    replace hS101 : St wd2 wd87 [(Ty.sl (Ty.sl (Ty.i .i64))).at (f86 8) x26, (Ty.sl (Ty.i .i64)).at (f86 10) x49, (Ty.sl (Ty.i .i64)).at (f86 11) ([] : (List Int))] := hS101
    refine WL.val (f86 11) _ (op_assign rfl) rfl ?_
    refine WL.nil ?_
    refine W.seq (W.seq (W.region ?_))
    refine WL.val (Value.int .i64 (1 : Int)) _ (op_assign rfl) rfl ?_
    refine WL.nil ?_
    show W _ _ _ _ _ _
    obtain ⟨res102, hres103, h⟩ := bs h
    refine W.blockLoop (fun fq wq => ∃ s, res102 = Res.fin s ∧ ∃ (uu0 : Value), fq 5 = uu0 ∧ St wd2 wq [(Ty.sl (Ty.i .i64)).at uu0 s.1]) ?_ ?_
    · refine W.whileC (fun (s : (List Int) × Int) fq wq => ∃ (uu0 : Value), fq 1 = (Value.pointer (some ⟨b1, 0, none⟩)) ∧ fq 3 = (f86 8) ∧ fq 4 = (f86 10) ∧ fq 5 = uu0 ∧ fq 6 = Value.int .i64 s.2 ∧ InR .i64 s.2 ∧ St wd2 wq [(Ty.sl (Ty.sl (Ty.i .i64))).at (f86 8) x26, (Ty.sl (Ty.i .i64)).at (f86 10) x49, (Ty.sl (Ty.i .i64)).at uu0 s.1]) hres103 ⟨(f86 11), e100, e98, e99, rfl, rfl, (inL rfl), hS101⟩ ?_
      intro s160 ct107 f108 wd109 hb111 hI112 hbrk113 hret114
      obtain ⟨x105, x106⟩ := s160
      replace hI112 : ∃ (uu0 : Value), f108 1 = (Value.pointer (some ⟨b1, 0, none⟩)) ∧ f108 3 = (f86 8) ∧ f108 4 = (f86 10) ∧ f108 5 = uu0 ∧ f108 6 = Value.int .i64 x106 ∧ InR .i64 x106 ∧ St wd2 wd109 [(Ty.sl (Ty.sl (Ty.i .i64))).at (f86 8) x26, (Ty.sl (Ty.i .i64)).at (f86 10) x49, (Ty.sl (Ty.i .i64)).at uu0 x105] := hI112
      replace hb111 : p_impl_Ring_subrings_L1 r_Table x26 x49  x105 x106 = some ct107 := hb111
      unfold p_impl_Ring_subrings_L1 at hb111
      obtain ⟨u115, hf116, hf117, hf118, hf119, hf120, hr121, hS122⟩ := hI112
      refine W.seq (W.seq (W.region ?_))
      refine WL.val (Value.agg #[v_r_Table]) _ (op_loadBox st_28 hf116 (BoxAt.lift hS122.ext hx6) rfl rfl) rfl ?_
      refine WL.val (Value.int .i64 x106) _ (op_move hf120) rfl ?_
      obtain ⟨x123, hx124, hb111⟩ := bs hb111
      refine WL.call _ (op_call fn_60 (args2 rfl rfl)) (c_impl_Ring_isSet (Ty.lift _ (Ext.trans hE7 hS122.ext) r_r_Table) hr121 hx124) rfl ?_
      rintro _ wd125 ⟨rfl, he126⟩
      have hS128 := St.extend hS122 he126
      replace hS128 : St wd2 wd125 [(Ty.sl (Ty.sl (Ty.i .i64))).at (f86 8) x26, (Ty.sl (Ty.i .i64)).at (f86 10) x49, (Ty.sl (Ty.i .i64)).at u115 x105] := hS128
      refine WL.nil ?_
      refine W.cond x123 rfl (fun hc129 => ?_) (fun hc129 => ?_)
      · replace hb111 := ip hb111 hc129
        refine W.skip ?_
        refine W.seq ?_
        refine W.block ?_
        refine W.seq (W.region ?_)
        refine WL.val (f86 8) _ (op_move hf117) rfl ?_
        refine WL.val (f86 10) _ (op_move hf118) rfl ?_
        refine WL.val (Value.int .i64 x106) _ (op_move hf120) rfl ?_
        obtain ⟨x131, hx132, hb111⟩ := bs hb111
        refine WL.call _ (op_call fn_61 (args3 rfl rfl rfl)) (c_impl_isClosed (tb.ext (Ext.trans hE7 hS128.ext)) (St.rep (t := (Ty.sl (Ty.sl (Ty.i .i64)))) hS128 0 rfl) (St.rep (t := (Ty.sl (Ty.i .i64))) hS128 1 rfl) hr121 hx132) rfl ?_
        rintro _ wd133 ⟨rfl, he134⟩
        have hS136 := St.extend hS128 he134
        replace hS136 : St wd2 wd133 [(Ty.sl (Ty.sl (Ty.i .i64))).at (f86 8) x26, (Ty.sl (Ty.i .i64)).at (f86 10) x49, (Ty.sl (Ty.i .i64)).at u115 x105] := hS136
        refine WL.nil ?_
        show W _ _ _ _ _ _
        obtain ⟨x137, hj138, hb111⟩ := bs hb111
        refine W.cutCode (fun fq wq => ∃ (uu0 : Value), fq 1 = (Value.pointer (some ⟨b1, 0, none⟩)) ∧ fq 3 = (f86 8) ∧ fq 4 = (f86 10) ∧ fq 5 = uu0 ∧ fq 6 = (Value.int .i64 x106) ∧ St wd2 wq [(Ty.sl (Ty.sl (Ty.i .i64))).at (f86 8) x26, (Ty.sl (Ty.i .i64)).at (f86 10) x49, (Ty.sl (Ty.i .i64)).at uu0 x137]) ?_ ?_
        · refine W.cond x131 rfl (fun hc139 => ?_) (fun hc139 => ?_)
          · replace hj138 := ip hj138 hc139
            refine W.region ?_
            refine WL.val u115 _ (op_move hf119) rfl ?_
            refine WL.val (Value.int .i64 x106) _ (op_move hf120) rfl ?_
            refine WL.litFlat (t := (Ty.i .i64)) (flat_i .i64) [(Value.int .i64 x106)] [x106] hS136 sl_34 rfl rfl (fillL rfl ⟨rfl, rfl, rfl, trivial⟩) rfl rfl (litL ⟨⟨rfl, hr121⟩, trivial⟩) rfl ?_
            intro u140 wd141 hS142 he143
            replace hS142 : St wd2 wd141 [(Ty.sl (Ty.sl (Ty.i .i64))).at (f86 8) x26, (Ty.sl (Ty.i .i64)).at (f86 10) x49, (Ty.sl (Ty.i .i64)).at u115 x105, (Ty.sl (Ty.i .i64)).at u140 ([x106] : (List Int))] := hS142
            obtain ⟨x144, hx145, hj138⟩ := bs hj138
            refine WL.append (flat_i .i64) hS142 (k := 2) rfl sl_34 rfl rfl rfl rfl (St.rep (t := (Ty.sl (Ty.i .i64))) hS142 3 rfl) hx145 rfl ?_
            intro u146 wd147 hS148 hz149
            replace hS148 : St wd2 wd147 [(Ty.sl (Ty.sl (Ty.i .i64))).at (f86 8) x26, (Ty.sl (Ty.i .i64)).at (f86 10) x49, (Ty.sl (Ty.i .i64)).at u146 x144, (Ty.sl (Ty.i .i64)).at u140 ([x106] : (List Int))] := hS148
            refine WL.val u146 _ (op_assign rfl) rfl ?_
            refine WL.nil ?_
            obtain rfl := Option.some.inj hj138
            exact ⟨u146, hf116, hf117, hf118, rfl, hf120, (St.pick hS148 [0, 1, 2] rfl)⟩
          · replace hj138 := inegb hj138 hc139
            refine W.skip ?_
            obtain rfl := Option.some.inj hj138
            exact ⟨u115, hf116, hf117, hf118, hf119, hf120, hS136⟩
        · intro f150 wd151 hq152
          obtain ⟨u153, hf154, hf155, hf156, hf157, hf158, hS159⟩ := hq152
          show W _ _ _ _ _ _
          refine W.region ?_
          refine WL.val (Value.int .i64 x106) _ (op_move hf158) rfl ?_
          refine WL.val (Value.int .i64 (w64 (x106 + (2 : Int)))) _ (op_add rfl rfl) rfl ?_
          refine WL.val (Value.int .i64 (w64 (x106 + (2 : Int)))) _ (op_assign rfl) rfl ?_
          refine WL.nil ?_
          obtain rfl := Option.some.inj hb111
          show ∃ s, _ = Ctl.next s ∧ _
          exact ⟨_, rfl, u153, hf154, hf155, hf156, hf157, rfl, (inR_wrap _ _), hS159⟩
      · replace hb111 := inegb hb111 hc129
        refine W.exit ?_
        obtain rfl := Option.some.inj hb111
        show _ = _ ∧ _
        exact ⟨rfl, _, hbrk113 _ rfl, u115, hf119, (St.pick hS128 [2] rfl)⟩
    · rintro f161 wd162 ⟨s164, rfl, hq163⟩
      replace h := onRes_fin h
      obtain ⟨x165, x166⟩ := s164
      replace hq163 : ∃ (uu0 : Value), f161 5 = uu0 ∧ St wd2 wd162 [(Ty.sl (Ty.i .i64)).at uu0 x165] := hq163
      replace h : (_ : Option _) = _ := h
      dsimp only at h
      obtain ⟨u167, hf168, hS169⟩ := hq163
      refine W.seq (W.region ?_)
      refine WL.val u167 _ (op_move hf168) rfl ?_
      refine WL.val u167 _ (op_assign rfl) rfl ?_
      refine WL.nil ?_
      refine W.ret ?_
      obtain rfl := Option.some.inj h
      show FinP _ _ _ _ _ _ _
      exact FinP.ret _ (res1 rfl rfl) ⟨u167, rfl, (Ext.trans hE7 hS169.ext), (St.out (St.pick hS169 [0] rfl) (hE7))⟩

theorem c_impl_IsSimpleRing {w : World} {r_Table : (List (List (List Int)))} {v_r_Table : Value} (tb : TabAt w) (r_r_Table : (Ty.sl (Ty.sl (Ty.sl (Ty.i .i64)))).rep w v_r_Table r_Table) {res : Bool × Int} (h : p_impl_IsSimpleRing r_Table  = some res) :
    Ret Tryd.prog 12 #[(Value.agg #[v_r_Table])] w (fun v w' => v = (Value.tuple #[Value.bool res.1, Value.int .i64 res.2]) ∧ InR .i64 res.2 ∧ Ext w w') := by
  unfold p_impl_IsSimpleRing at h
  have hS0 : St w w [] := St.start w
  refine Ret.start (fn := Tryd.f12) Tryd.func12 rfl 11 rfl rfl ?_
  refine W.seq (W.region ?_)
  refine WL.box hS0 rfl (cs := [v_r_Table]) rfl rfl ?_
  intro b1 wd2 hS3 he4 hx5
  replace hS3 : St w wd2 [bx b1 [v_r_Table]] := hS3
  have hx6 := St.boxAt hS3 0 rfl
  have hE7 : Ext w wd2 := hS3.ext
  have hS8 : St wd2 wd2 [] := St.start wd2
  refine WL.val (Value.bool false) _ (op_assign rfl) rfl ?_
  refine WL.val (Value.int .i64 (0 : Int)) _ (op_assign rfl) rfl ?_
  refine WL.nil ?_
  refine W.seq (W.seq (W.region ?_))
  refine WL.val (Value.agg #[v_r_Table]) _ (op_loadBox st_28 rfl (BoxAt.lift hS8.ext hx6) rfl rfl) rfl ?_
  obtain ⟨x9, hx10, h⟩ := bs h
  refine WL.call _ (op_call fn_33 (args1 rfl)) (c_impl_IsRing (Ty.lift _ (Ext.trans hE7 hS8.ext) r_r_Table) hx10) rfl ?_
  rintro _ wd11 ⟨rfl, he12⟩
  have hS14 := St.extend hS8 he12
  replace hS14 : St wd2 wd11 [] := hS14
  refine WL.val (Value.bool (!x9)) _ (op_not rfl) rfl ?_
  refine WL.nil ?_
  refine W.cond (!x9) rfl (fun hc15 => ?_) (fun hc15 => ?_)
  · replace h := ip h hc15
    refine W.seq (W.region ?_)
    refine WL.val (Value.bool false) _ (op_assign rfl) rfl ?_
    refine WL.val (Value.int .i64 (1 : Int)) _ (op_assign rfl) rfl ?_
    refine WL.nil ?_
    refine W.ret ?_
    obtain rfl := Option.some.inj h
    show FinP _ _ _ _ _ _ _
    exact FinP.ret _ (res2 rfl rfl rfl) ⟨rfl, (inL rfl), (Ext.trans hE7 hS14.ext)⟩
  · replace h := inegb h hc15
    refine W.skip ?_
    refine W.seq (W.region ?_)
    refine WL.val (Value.agg #[v_r_Table]) _ (op_loadBox st_28 rfl (BoxAt.lift hS14.ext hx6) rfl rfl) rfl ?_
    obtain ⟨x17, hx18, h⟩ := bs h
    refine WL.call _ (op_call fn_34 (args1 rfl)) (c_impl_Ring_subrings (tb.ext (Ext.trans hE7 hS14.ext)) (Ty.lift _ (Ext.trans hE7 hS14.ext) r_r_Table) hx18) rfl ?_
    rintro u19 wd20 ⟨_, rfl, he21, hs22⟩
    have hS23 := St.join hS14 he21 hs22
    replace hS23 : St wd2 wd20 [(Ty.sl (Ty.i .i64)).at u19 x17] := hS23
    have hb24 := St.rep (t := (Ty.sl (Ty.i .i64))) hS23 0 rfl
    have hE25 : Ext w wd20 := (Ext.trans hE7 hS23.ext)
    have hE26 : Ext wd2 wd20 := hS23.ext
    have hS27 : St wd20 wd20 [] := St.start wd20
    have hr28 := inR_len (Ty.lift _ hS27.ext hb24)
    refine WL.val (Value.int .i64 ((x17).length : Int)) _ (op_lenL sl_34 (Ty.lift _ hS27.ext hb24) rfl) rfl ?_
    refine WL.val (Value.bool (((x17).length : Int) == (2 : Int))) _ (op_eql rfl rfl) rfl ?_
    refine WL.val (Value.bool (((x17).length : Int) == (2 : Int))) _ (op_assign rfl) rfl ?_
    refine WL.val (Value.int .i64 (0 : Int)) _ (op_assign rfl) rfl ?_
    refine WL.nil ?_
    refine W.ret ?_
    obtain rfl := Option.some.inj h
    show FinP _ _ _ _ _ _ _
    exact FinP.ret _ (res2 rfl rfl rfl) ⟨rfl, (inL rfl), (Ext.trans hE25 hS27.ext)⟩

theorem c_laws_eqInt64S {w : World} {a : (List Int)} {v_a : Value} {b : (List Int)} {v_b : Value} (r_a : (Ty.sl (Ty.i .i64)).rep w v_a a) (r_b : (Ty.sl (Ty.i .i64)).rep w v_b b) {res : Bool} (h : p_laws_eqInt64S a b  = some res) :
    Ret Tryd.prog 19 #[v_a, v_b] w (fun v w' => v = Value.bool res ∧ Ext w w') := by
  unfold p_laws_eqInt64S at h
  have hS0 : St w w [] := St.start w
  refine Ret.start (fn := Tryd.f19) Tryd.func19 rfl 26 rfl rfl ?_
  refine W.seq (W.region ?_)
  refine WL.val (Value.bool false) _ (op_assign rfl) rfl ?_
  refine WL.nil ?_
  refine W.seq (W.seq (W.region ?_))
  refine WL.val v_a _ (op_move rfl) rfl ?_
  have hr1 := inR_len (Ty.lift _ hS0.ext r_a)
  refine WL.val (Value.int .i64 ((a).length : Int)) _ (op_lenL sl_34 (Ty.lift _ hS0.ext r_a) rfl) rfl ?_
  refine WL.val v_b _ (op_move rfl) rfl ?_
  have hr2 := inR_len (Ty.lift _ hS0.ext r_b)
  refine WL.val (Value.int .i64 ((b).length : Int)) _ (op_lenL sl_34 (Ty.lift _ hS0.ext r_b) rfl) rfl ?_
  refine WL.val (Value.bool (((a).length : Int) != ((b).length : Int))) _ (op_neq rfl rfl) rfl ?_
  refine WL.nil ?_
  refine W.cond (((a).length : Int) != ((b).length : Int)) rfl (fun hc3 => ?_) (fun hc3 => ?_)
  · replace h := ip h hc3
    refine W.seq (W.region ?_)
    refine WL.val (Value.bool false) _ (op_assign rfl) rfl ?_
    refine WL.nil ?_
    refine W.ret ?_
    obtain rfl := Option.some.inj h
    show FinP _ _ _ _ _ _ _
    exact FinP.ret _ (res1 rfl rfl) ⟨rfl, hS0.ext⟩
  · replace h := inegb h hc3
    refine W.skip ?_
    refine W.seq (W.seq (W.region ?_))
    refine WL.val (Value.int .i64 (0 : Int)) _ (op_assign rfl) rfl ?_
    refine WL.nil ?_
    show W _ _ _ _ _ _
    obtain ⟨res5, hres6, h⟩ := bs h
    refine W.blockLoop (fun fq wq => ∃ s, res5 = Res.fin s ∧ St w wq []) ?_ ?_
    · refine W.forN (fun k (s : Unit) fq wq => fq 0 = v_a ∧ fq 1 = v_b ∧ fq 5 = Value.int .i64 (k : Int) ∧ InR .i64 (k : Int) ∧ St w wq []) hres6 ⟨rfl, rfl, rfl, (inL rfl), hS0⟩ ?_ ?_
      · intro k7 s134 ct8 f9 wd10 hk11 hb12 hI13 hbrk14 hret15
        obtain ⟨⟩ := s134
        replace hI13 : f9 0 = v_a ∧ f9 1 = v_b ∧ f9 5 = Value.int .i64 (k7 : Int) ∧ InR .i64 (k7 : Int) ∧ St w wd10 [] := hI13
        replace hb12 : p_laws_eqInt64S_L1 a b k7  = some ct8 := hb12
        unfold p_laws_eqInt64S_L1 at hb12
        obtain ⟨hf16, hf17, hf18, hr19, hS20⟩ := hI13
        refine W.seq (W.seq (W.region ?_))
        refine WL.val (Value.int .i64 (k7 : Int)) _ (op_move hf18) rfl ?_
        refine WL.val v_a _ (op_move hf16) rfl ?_
        have hr21 := inR_len (Ty.lift _ hS20.ext r_a)
        refine WL.val (Value.int .i64 ((a).length : Int)) _ (op_lenL sl_34 (Ty.lift _ hS20.ext r_a) rfl) rfl ?_
        refine WL.val (Value.bool (decide ((k7 : Int) < ((a).length : Int)))) _ (op_lss rfl rfl) rfl ?_
        have hl22 : (k7 : Int) < ((a).length : Int) := by omega
        refine WL.nil ?_
        refine W.condT (decide ((k7 : Int) < ((a).length : Int))) rfl (decide_eq_true hl22) ?_
        refine W.skip ?_
        refine W.seq ?_
        refine W.block ?_
        refine W.seq ?_
        obtain ⟨x53, hx56, hb12⟩ := bs hb12
        obtain ⟨ha54, hb55, hx56⟩ := idx_some hx56
        obtain ⟨u67, hc68, hr69⟩ := repSl.el r_a hx56
        obtain ⟨rfl, hr69⟩ := hr69
        obtain ⟨x99, hx102, hb12⟩ := bs hb12
        obtain ⟨ha100, hb101, hx102⟩ := idx_some hx102
        obtain ⟨u113, hc114, hr115⟩ := repSl.el r_b hx102
        obtain ⟨rfl, hr115⟩ := hr115
        refine W.drawR mixo 8 [] [fun _ v _ _ => v = v_a, fun _ v _ _ => v = (Value.int .i64 (k7 : Int)) ∧ InR .i64 (k7 : Int), fun _ v _ _ => v = (Value.pointer (some (elA v_a ((k7 : Int)).toNat))), fun _ v _ _ => v = (Value.int .i64 x53) ∧ InR .i64 x53, fun _ v _ _ => v = v_b, fun _ v _ _ => v = (Value.int .i64 (k7 : Int)) ∧ InR .i64 (k7 : Int), fun _ v _ _ => v = (Value.pointer (some (elA v_b ((k7 : Int)).toNat))), fun _ v _ _ => v = (Value.int .i64 x99) ∧ InR .i64 x99] (by kernel_rfl) (by kernel_rfl) ⟨pk, pk, pk, pk, pk, pk, pk, pk, trivial⟩ ⟨?_, ?_, ?_, ?_, ?_, ?_, ?_, ?_, trivial⟩ ?_
        · refine ObX.op rfl fun f24 wd25 he26 hout27 hphi28 => ?_
          have e30 : f24 0 = v_a := (hout27 0 rfl).trans hf16
          exact OpX.val v_a wd25 rfl (op_move e30) (Ext.refl _) rfl
        · refine ObX.op rfl fun f31 wd32 he33 hout34 hphi35 => ?_
          have e37 : f31 5 = (Value.int .i64 (k7 : Int)) := (hout34 5 rfl).trans hf18
          exact OpX.val (Value.int .i64 (k7 : Int)) wd32 rfl (op_move e37) (Ext.refl _) ⟨rfl, hr19⟩
        · refine ObX.op rfl fun f38 wd39 he40 hout41 hphi42 => ?_
          have hS43 := St.extend hS20 he40
          obtain ⟨S44, hS45, hf46⟩ := hphi42 0 17 _ rfl rfl rfl
          have e47 : f38 17 = v_a := hf46
          obtain ⟨S48, hS49, hf50⟩ := hphi42 1 18 _ rfl rfl rfl
          obtain ⟨e51, hr52⟩ := hf50
          exact OpX.val (Value.pointer (some (elA v_a ((k7 : Int)).toNat))) wd39 rfl (op_idx sl_34 (Ty.lift _ hS43.ext r_a) e47 e51 ha54 hb55) (Ext.refl _) rfl
        · refine ObX.op rfl fun f57 wd58 he59 hout60 hphi61 => ?_
          have hS62 := St.extend hS20 he59
          obtain ⟨S63, hS64, hf65⟩ := hphi61 2 19 _ rfl rfl rfl
          have e66 : f57 19 = (Value.pointer (some (elA v_a ((k7 : Int)).toNat))) := hf65
          exact OpX.val (Value.int .i64 x53) wd58 rfl (op_load one_2 e66 (Ext.cell hS62.ext hc68)) (Ext.refl _) ⟨rfl, hr69⟩
        · refine ObX.op rfl fun f70 wd71 he72 hout73 hphi74 => ?_
          have e76 : f70 1 = v_b := (hout73 1 rfl).trans hf17
          exact OpX.val v_b wd71 rfl (op_move e76) (Ext.refl _) rfl
        · refine ObX.op rfl fun f77 wd78 he79 hout80 hphi81 => ?_
          have e83 : f77 5 = (Value.int .i64 (k7 : Int)) := (hout80 5 rfl).trans hf18
          exact OpX.val (Value.int .i64 (k7 : Int)) wd78 rfl (op_move e83) (Ext.refl _) ⟨rfl, hr19⟩
        · refine ObX.op rfl fun f84 wd85 he86 hout87 hphi88 => ?_
          have hS89 := St.extend hS20 he86
          obtain ⟨S90, hS91, hf92⟩ := hphi88 4 21 _ rfl rfl rfl
          have e93 : f84 21 = v_b := hf92
          obtain ⟨S94, hS95, hf96⟩ := hphi88 5 22 _ rfl rfl rfl
          obtain ⟨e97, hr98⟩ := hf96
          exact OpX.val (Value.pointer (some (elA v_b ((k7 : Int)).toNat))) wd85 rfl (op_idx sl_34 (Ty.lift _ hS89.ext r_b) e93 e97 ha100 hb101) (Ext.refl _) rfl
        · refine ObX.op rfl fun f103 wd104 he105 hout106 hphi107 => ?_
          have hS108 := St.extend hS20 he105
          obtain ⟨S109, hS110, hf111⟩ := hphi107 6 23 _ rfl rfl rfl
          have e112 : f103 23 = (Value.pointer (some (elA v_b ((k7 : Int)).toNat))) := hf111
          exact OpX.val (Value.int .i64 x99) wd104 rfl (op_load one_2 e112 (Ext.cell hS108.ext hc114)) (Ext.refl _) ⟨rfl, hr115⟩
        · intro f116 wd117 Ss118 he119 hout120 hSn121 hSd122 hphi123
          show WL _ _ _ _ _ _ _
          have hS124 := St.extend hS20 he119
          obtain ⟨e125, hr126⟩ := hphi123 3 20 _ (by decide) rfl rfl
          obtain ⟨e127, hr128⟩ := hphi123 7 24 _ (by decide) rfl rfl
          have e129 : f116 0 = v_a := (hout120 0 rfl).trans hf16
          have e130 : f116 1 = v_b := (hout120 1 rfl).trans hf17
          have e131 : f116 5 = (Value.int .i64 (k7 : Int)) := (hout120 5 rfl).trans hf18
          refine WL.val (Value.bool (x53 != x99)) _ (op_neq e125 e127) rfl ?_
          refine WL.nil ?_
          refine W.cond (x53 != x99) rfl (fun hc132 => ?_) (fun hc132 => ?_)
          · replace hb12 := ip hb12 hc132
            refine W.seq (W.region ?_)
            refine WL.val (Value.bool false) _ (op_assign rfl) rfl ?_
            refine WL.nil ?_
            refine W.ret ?_
            obtain rfl := Option.some.inj hb12
            obtain rfl := hret15 _ rfl
            replace h := onRes_ret h
            obtain rfl := Option.some.inj h
            show FinP _ _ _ _ _ _ _
            exact FinP.ret _ (res1 rfl rfl) ⟨rfl, hS124.ext⟩
          · replace hb12 := inegb hb12 hc132
            refine W.skip ?_
            show W _ _ _ _ _ _
            refine W.region ?_
            refine WL.val (Value.int .i64 (k7 : Int)) _ (op_move e131) rfl ?_
            refine WL.val (Value.int .i64 (w64 ((k7 : Int) + (1 : Int)))) _ (op_add rfl rfl) rfl ?_
            refine WL.val (Value.int .i64 (w64 ((k7 : Int) + (1 : Int)))) _ (op_assign rfl) rfl ?_
            refine WL.nil ?_
            obtain rfl := Option.some.inj hb12
            show ∃ s, _ = Ctl.next s ∧ _
            exact ⟨_, rfl, e129, e130, (ctr_next hl22 hr21), (ctr_rng hl22 hr21), hS124⟩
      · intro s139 f135 wd136 hs137 hI138
        obtain ⟨⟩ := s139
        replace hI138 : f135 0 = v_a ∧ f135 1 = v_b ∧ f135 5 = Value.int .i64 (((a).length : Nat) : Int) ∧ InR .i64 (((a).length : Nat) : Int) ∧ St w wd136 [] := hI138
        obtain ⟨hf140, hf141, hf142, hr143, hS144⟩ := hI138
        refine W.seq (W.seq (W.region ?_))
        refine WL.val (Value.int .i64 (((a).length : Nat) : Int)) _ (op_move hf142) rfl ?_
        refine WL.val v_a _ (op_move hf140) rfl ?_
        have hr145 := inR_len (Ty.lift _ hS144.ext r_a)
        refine WL.val (Value.int .i64 ((a).length : Int)) _ (op_lenL sl_34 (Ty.lift _ hS144.ext r_a) rfl) rfl ?_
        refine WL.val (Value.bool (decide ((((a).length : Nat) : Int) < ((a).length : Int)))) _ (op_lss rfl rfl) rfl ?_
        have hl146 : ¬ (((a).length : Nat) : Int) < ((a).length : Int) := by omega
        refine WL.nil ?_
        refine W.condF (decide ((((a).length : Nat) : Int) < ((a).length : Int))) rfl (decide_eq_false hl146) ?_
        refine W.exit ?_
        show _ = _ ∧ _
        exact ⟨rfl, _, hs137, hS144⟩
    · rintro f147 wd148 ⟨s150, rfl, hq149⟩
      replace h := onRes_fin h
      obtain ⟨⟩ := s150
      replace hq149 : St w wd148 [] := hq149
      have hS151 := hq149
      refine W.seq (W.region ?_)
      refine WL.val (Value.bool true) _ (op_assign rfl) rfl ?_
      refine WL.nil ?_
      refine W.ret ?_
      obtain rfl := Option.some.inj h
      show FinP _ _ _ _ _ _ _
      exact FinP.ret _ (res1 rfl rfl) ⟨rfl, hS151.ext⟩

theorem c_laws_eqInt64SS {w : World} {a : (List (List Int))} {v_a : Value} {b : (List (List Int))} {v_b : Value} (r_a : (Ty.sl (Ty.sl (Ty.i .i64))).rep w v_a a) (r_b : (Ty.sl (Ty.sl (Ty.i .i64))).rep w v_b b) {res : Bool} (h : p_laws_eqInt64SS a b  = some res) :
    Ret Tryd.prog 62 #[v_a, v_b] w (fun v w' => v = Value.bool res ∧ Ext w w') := by
  unfold p_laws_eqInt64SS at h
  have hS0 : St w w [] := St.start w
  refine Ret.start (fn := Tryd.f62) Tryd.func62 rfl 27 rfl rfl ?_
  refine W.seq (W.region ?_)
  refine WL.val (Value.bool false) _ (op_assign rfl) rfl ?_
  refine WL.nil ?_
  refine W.seq (W.seq (W.region ?_))
  refine WL.val v_a _ (op_move rfl) rfl ?_
  have hr1 := inR_len (Ty.lift _ hS0.ext r_a)
  refine WL.val (Value.int .i64 ((a).length : Int)) _ (op_lenL sl_60 (Ty.lift _ hS0.ext r_a) rfl) rfl ?_
  refine WL.val v_b _ (op_move rfl) rfl ?_
  have hr2 := inR_len (Ty.lift _ hS0.ext r_b)
  refine WL.val (Value.int .i64 ((b).length : Int)) _ (op_lenL sl_60 (Ty.lift _ hS0.ext r_b) rfl) rfl ?_
  refine WL.val (Value.bool (((a).length : Int) != ((b).length : Int))) _ (op_neq rfl rfl) rfl ?_
  refine WL.nil ?_
  refine W.cond (((a).length : Int) != ((b).length : Int)) rfl (fun hc3 => ?_) (fun hc3 => ?_)
  · replace h := ip h hc3
    refine W.seq (W.region ?_)
    refine WL.val (Value.bool false) _ (op_assign rfl) rfl ?_
    refine WL.nil ?_
    refine W.ret ?_
    obtain rfl := Option.some.inj h
    show FinP _ _ _ _ _ _ _
    exact FinP.ret _ (res1 rfl rfl) ⟨rfl, hS0.ext⟩
  · replace h := inegb h hc3
    refine W.skip ?_
    refine W.seq (W.seq (W.region ?_))
    refine WL.val (Value.int .i64 (0 : Int)) _ (op_assign rfl) rfl ?_
    refine WL.nil ?_
    show W _ _ _ _ _ _
    obtain ⟨res5, hres6, h⟩ := bs h
    refine W.blockLoop (fun fq wq => ∃ s, res5 = Res.fin s ∧ St w wq []) ?_ ?_
    · refine W.forN (fun k (s : Unit) fq wq => fq 0 = v_a ∧ fq 1 = v_b ∧ fq 5 = Value.int .i64 (k : Int) ∧ InR .i64 (k : Int) ∧ St w wq []) hres6 ⟨rfl, rfl, rfl, (inL rfl), hS0⟩ ?_ ?_
      · intro k7 s138 ct8 f9 wd10 hk11 hb12 hI13 hbrk14 hret15
        obtain ⟨⟩ := s138
        replace hI13 : f9 0 = v_a ∧ f9 1 = v_b ∧ f9 5 = Value.int .i64 (k7 : Int) ∧ InR .i64 (k7 : Int) ∧ St w wd10 [] := hI13
        replace hb12 : p_laws_eqInt64SS_L1 a b k7  = some ct8 := hb12
        unfold p_laws_eqInt64SS_L1 at hb12
        obtain ⟨hf16, hf17, hf18, hr19, hS20⟩ := hI13
        refine W.seq (W.seq (W.region ?_))
        refine WL.val (Value.int .i64 (k7 : Int)) _ (op_move hf18) rfl ?_
        refine WL.val v_a _ (op_move hf16) rfl ?_
        have hr21 := inR_len (Ty.lift _ hS20.ext r_a)
        refine WL.val (Value.int .i64 ((a).length : Int)) _ (op_lenL sl_60 (Ty.lift _ hS20.ext r_a) rfl) rfl ?_
        refine WL.val (Value.bool (decide ((k7 : Int) < ((a).length : Int)))) _ (op_lss rfl rfl) rfl ?_
        have hl22 : (k7 : Int) < ((a).length : Int) := by omega
        refine WL.nil ?_
        refine W.condT (decide ((k7 : Int) < ((a).length : Int))) rfl (decide_eq_true hl22) ?_
        refine W.skip ?_
        refine W.seq ?_
        refine W.block ?_
        refine W.seq ?_
        obtain ⟨x53, hx56, hb12⟩ := bs hb12
        obtain ⟨ha54, hb55, hx56⟩ := idx_some hx56
        obtain ⟨u67, hc68, hr69⟩ := repSl.el r_a hx56
        obtain ⟨x99, hx102, hb12⟩ := bs hb12
        obtain ⟨ha100, hb101, hx102⟩ := idx_some hx102
        obtain ⟨u113, hc114, hr115⟩ := repSl.el r_b hx102
        refine W.drawR mixo 8 [] [fun _ v _ _ => v = v_a, fun _ v _ _ => v = (Value.int .i64 (k7 : Int)) ∧ InR .i64 (k7 : Int), fun _ v _ _ => v = (Value.pointer (some (elA v_a ((k7 : Int)).toNat))), fun _ v _ _ => v = u67, fun _ v _ _ => v = v_b, fun _ v _ _ => v = (Value.int .i64 (k7 : Int)) ∧ InR .i64 (k7 : Int), fun _ v _ _ => v = (Value.pointer (some (elA v_b ((k7 : Int)).toNat))), fun _ v _ _ => v = u113] (by kernel_rfl) (by kernel_rfl) ⟨pk, pk, pk, pk, pk, pk, pk, pk, trivial⟩ ⟨?_, ?_, ?_, ?_, ?_, ?_, ?_, ?_, trivial⟩ ?_
        · refine ObX.op rfl fun f24 wd25 he26 hout27 hphi28 => ?_
          have e30 : f24 0 = v_a := (hout27 0 rfl).trans hf16
          exact OpX.val v_a wd25 rfl (op_move e30) (Ext.refl _) rfl
        · refine ObX.op rfl fun f31 wd32 he33 hout34 hphi35 => ?_
          have e37 : f31 5 = (Value.int .i64 (k7 : Int)) := (hout34 5 rfl).trans hf18
          exact OpX.val (Value.int .i64 (k7 : Int)) wd32 rfl (op_move e37) (Ext.refl _) ⟨rfl, hr19⟩
        · refine ObX.op rfl fun f38 wd39 he40 hout41 hphi42 => ?_
          have hS43 := St.extend hS20 he40
          obtain ⟨S44, hS45, hf46⟩ := hphi42 0 17 _ rfl rfl rfl
          have e47 : f38 17 = v_a := hf46
          obtain ⟨S48, hS49, hf50⟩ := hphi42 1 18 _ rfl rfl rfl
          obtain ⟨e51, hr52⟩ := hf50
          exact OpX.val (Value.pointer (some (elA v_a ((k7 : Int)).toNat))) wd39 rfl (op_idx sl_60 (Ty.lift _ hS43.ext r_a) e47 e51 ha54 hb55) (Ext.refl _) rfl
        · refine ObX.op rfl fun f57 wd58 he59 hout60 hphi61 => ?_
          have hS62 := St.extend hS20 he59
          obtain ⟨S63, hS64, hf65⟩ := hphi61 2 19 _ rfl rfl rfl
          have e66 : f57 19 = (Value.pointer (some (elA v_a ((k7 : Int)).toNat))) := hf65
          exact OpX.val u67 wd58 rfl (op_load one_34 e66 (Ext.cell hS62.ext hc68)) (Ext.refl _) rfl
        · refine ObX.op rfl fun f70 wd71 he72 hout73 hphi74 => ?_
          have e76 : f70 1 = v_b := (hout73 1 rfl).trans hf17
          exact OpX.val v_b wd71 rfl (op_move e76) (Ext.refl _) rfl
        · refine ObX.op rfl fun f77 wd78 he79 hout80 hphi81 => ?_
          have e83 : f77 5 = (Value.int .i64 (k7 : Int)) := (hout80 5 rfl).trans hf18
          exact OpX.val (Value.int .i64 (k7 : Int)) wd78 rfl (op_move e83) (Ext.refl _) ⟨rfl, hr19⟩
        · refine ObX.op rfl fun f84 wd85 he86 hout87 hphi88 => ?_
          have hS89 := St.extend hS20 he86
          obtain ⟨S90, hS91, hf92⟩ := hphi88 4 21 _ rfl rfl rfl
          have e93 : f84 21 = v_b := hf92
          obtain ⟨S94, hS95, hf96⟩ := hphi88 5 22 _ rfl rfl rfl
          obtain ⟨e97, hr98⟩ := hf96
          exact OpX.val (Value.pointer (some (elA v_b ((k7 : Int)).toNat))) wd85 rfl (op_idx sl_60 (Ty.lift _ hS89.ext r_b) e93 e97 ha100 hb101) (Ext.refl _) rfl
        · refine ObX.op rfl fun f103 wd104 he105 hout106 hphi107 => ?_
          have hS108 := St.extend hS20 he105
          obtain ⟨S109, hS110, hf111⟩ := hphi107 6 23 _ rfl rfl rfl
          have e112 : f103 23 = (Value.pointer (some (elA v_b ((k7 : Int)).toNat))) := hf111
          exact OpX.val u113 wd104 rfl (op_load one_34 e112 (Ext.cell hS108.ext hc114)) (Ext.refl _) rfl
        · intro f116 wd117 Ss118 he119 hout120 hSn121 hSd122 hphi123
          show WL _ _ _ _ _ _ _
          have hS124 := St.extend hS20 he119
          have e125 : f116 20 = u67 := hphi123 3 20 _ (by decide) rfl rfl
          have e126 : f116 24 = u113 := hphi123 7 24 _ (by decide) rfl rfl
          have e127 : f116 0 = v_a := (hout120 0 rfl).trans hf16
          have e128 : f116 1 = v_b := (hout120 1 rfl).trans hf17
          have e129 : f116 5 = (Value.int .i64 (k7 : Int)) := (hout120 5 rfl).trans hf18
          obtain ⟨x130, hx131, hb12⟩ := bs hb12
          refine WL.call _ (op_call fn_19 (args2 e125 e126)) (c_laws_eqInt64S (Ty.lift _ hS124.ext hr69) (Ty.lift _ hS124.ext hr115) hx131) rfl ?_
          rintro _ wd132 ⟨rfl, he133⟩
          have hS135 := St.extend hS124 he133
          replace hS135 : St w wd132 [] := hS135
          refine WL.val (Value.bool (!x130)) _ (op_not rfl) rfl ?_
          refine WL.nil ?_
          refine W.cond (!x130) rfl (fun hc136 => ?_) (fun hc136 => ?_)
          · replace hb12 := ip hb12 hc136
            refine W.seq (W.region ?_)
            refine WL.val (Value.bool false) _ (op_assign rfl) rfl ?_
            refine WL.nil ?_
            refine W.ret ?_
            obtain rfl := Option.some.inj hb12
            obtain rfl := hret15 _ rfl
            replace h := onRes_ret h
            obtain rfl := Option.some.inj h
            show FinP _ _ _ _ _ _ _
            exact FinP.ret _ (res1 rfl rfl) ⟨rfl, hS135.ext⟩
          · replace hb12 := inegb hb12 hc136
            refine W.skip ?_
            show W _ _ _ _ _ _
            refine W.region ?_
            refine WL.val (Value.int .i64 (k7 : Int)) _ (op_move e129) rfl ?_
            refine WL.val (Value.int .i64 (w64 ((k7 : Int) + (1 : Int)))) _ (op_add rfl rfl) rfl ?_
            refine WL.val (Value.int .i64 (w64 ((k7 : Int) + (1 : Int)))) _ (op_assign rfl) rfl ?_
            refine WL.nil ?_
            obtain rfl := Option.some.inj hb12
            show ∃ s, _ = Ctl.next s ∧ _
            exact ⟨_, rfl, e127, e128, (ctr_next hl22 hr21), (ctr_rng hl22 hr21), hS135⟩
      · intro s143 f139 wd140 hs141 hI142
        obtain ⟨⟩ := s143
        replace hI142 : f139 0 = v_a ∧ f139 1 = v_b ∧ f139 5 = Value.int .i64 (((a).length : Nat) : Int) ∧ InR .i64 (((a).length : Nat) : Int) ∧ St w wd140 [] := hI142
        obtain ⟨hf144, hf145, hf146, hr147, hS148⟩ := hI142
        refine W.seq (W.seq (W.region ?_))
        refine WL.val (Value.int .i64 (((a).length : Nat) : Int)) _ (op_move hf146) rfl ?_
        refine WL.val v_a _ (op_move hf144) rfl ?_
        have hr149 := inR_len (Ty.lift _ hS148.ext r_a)
        refine WL.val (Value.int .i64 ((a).length : Int)) _ (op_lenL sl_60 (Ty.lift _ hS148.ext r_a) rfl) rfl ?_
        refine WL.val (Value.bool (decide ((((a).length : Nat) : Int) < ((a).length : Int)))) _ (op_lss rfl rfl) rfl ?_
        have hl150 : ¬ (((a).length : Nat) : Int) < ((a).length : Int) := by omega
        refine WL.nil ?_
        refine W.condF (decide ((((a).length : Nat) : Int) < ((a).length : Int))) rfl (decide_eq_false hl150) ?_
        refine W.exit ?_
        show _ = _ ∧ _
        exact ⟨rfl, _, hs141, hS148⟩
    · rintro f151 wd152 ⟨s154, rfl, hq153⟩
      replace h := onRes_fin h
      obtain ⟨⟩ := s154
      replace hq153 : St w wd152 [] := hq153
      have hS155 := hq153
      refine W.seq (W.region ?_)
      refine WL.val (Value.bool true) _ (op_assign rfl) rfl ?_
      refine WL.nil ?_
      refine W.ret ?_
      obtain rfl := Option.some.inj h
      show FinP _ _ _ _ _ _ _
      exact FinP.ret _ (res1 rfl rfl) ⟨rfl, hS155.ext⟩

theorem c_laws_eqInt64SSS {w : World} {a : (List (List (List Int)))} {v_a : Value} {b : (List (List (List Int)))} {v_b : Value} (r_a : (Ty.sl (Ty.sl (Ty.sl (Ty.i .i64)))).rep w v_a a) (r_b : (Ty.sl (Ty.sl (Ty.sl (Ty.i .i64)))).rep w v_b b) {res : Bool} (h : p_laws_eqInt64SSS a b  = some res) :
    Ret Tryd.prog 35 #[v_a, v_b] w (fun v w' => v = Value.bool res ∧ Ext w w') := by
  unfold p_laws_eqInt64SSS at h
  have hS0 : St w w [] := St.start w
  refine Ret.start (fn := Tryd.f35) Tryd.func35 rfl 27 rfl rfl ?_
  refine W.seq (W.region ?_)
  refine WL.val (Value.bool false) _ (op_assign rfl) rfl ?_
  refine WL.nil ?_
  refine W.seq (W.seq (W.region ?_))
  refine WL.val v_a _ (op_move rfl) rfl ?_
  have hr1 := inR_len (Ty.lift _ hS0.ext r_a)
  refine WL.val (Value.int .i64 ((a).length : Int)) _ (op_lenL sl_22 (Ty.lift _ hS0.ext r_a) rfl) rfl ?_
  refine WL.val v_b _ (op_move rfl) rfl ?_
  have hr2 := inR_len (Ty.lift _ hS0.ext r_b)
  refine WL.val (Value.int .i64 ((b).length : Int)) _ (op_lenL sl_22 (Ty.lift _ hS0.ext r_b) rfl) rfl ?_
  refine WL.val (Value.bool (((a).length : Int) != ((b).length : Int))) _ (op_neq rfl rfl) rfl ?_
  refine WL.nil ?_
  refine W.cond (((a).length : Int) != ((b).length : Int)) rfl (fun hc3 => ?_) (fun hc3 => ?_)
  · replace h := ip h hc3
    refine W.seq (W.region ?_)
    refine WL.val (Value.bool false) _ (op_assign rfl) rfl ?_
    refine WL.nil ?_
    refine W.ret ?_
    obtain rfl := Option.some.inj h
    show FinP _ _ _ _ _ _ _
    exact FinP.ret _ (res1 rfl rfl) ⟨rfl, hS0.ext⟩
  · replace h := inegb h hc3
    refine W.skip ?_
    refine W.seq (W.seq (W.region ?_))
    refine WL.val (Value.int .i64 (0 : Int)) _ (op_assign rfl) rfl ?_
    refine WL.nil ?_
    show W _ _ _ _ _ _
    obtain ⟨res5, hres6, h⟩ := bs h
    refine W.blockLoop (fun fq wq => ∃ s, res5 = Res.fin s ∧ St w wq []) ?_ ?_
    · refine W.forN (fun k (s : Unit) fq wq => fq 0 = v_a ∧ fq 1 = v_b ∧ fq 5 = Value.int .i64 (k : Int) ∧ InR .i64 (k : Int) ∧ St w wq []) hres6 ⟨rfl, rfl, rfl, (inL rfl), hS0⟩ ?_ ?_
      · intro k7 s138 ct8 f9 wd10 hk11 hb12 hI13 hbrk14 hret15
        obtain ⟨⟩ := s138
        replace hI13 : f9 0 = v_a ∧ f9 1 = v_b ∧ f9 5 = Value.int .i64 (k7 : Int) ∧ InR .i64 (k7 : Int) ∧ St w wd10 [] := hI13
        replace hb12 : p_laws_eqInt64SSS_L1 a b k7  = some ct8 := hb12
        unfold p_laws_eqInt64SSS_L1 at hb12
        obtain ⟨hf16, hf17, hf18, hr19, hS20⟩ := hI13
        refine W.seq (W.seq (W.region ?_))
        refine WL.val (Value.int .i64 (k7 : Int)) _ (op_move hf18) rfl ?_
        refine WL.val v_a _ (op_move hf16) rfl ?_
        have hr21 := inR_len (Ty.lift _ hS20.ext r_a)
        refine WL.val (Value.int .i64 ((a).length : Int)) _ (op_lenL sl_22 (Ty.lift _ hS20.ext r_a) rfl) rfl ?_
        refine WL.val (Value.bool (decide ((k7 : Int) < ((a).length : Int)))) _ (op_lss rfl rfl) rfl ?_
        have hl22 : (k7 : Int) < ((a).length : Int) := by omega
        refine WL.nil ?_
        refine W.condT (decide ((k7 : Int) < ((a).length : Int))) rfl (decide_eq_true hl22) ?_
        refine W.skip ?_
        refine W.seq ?_
        refine W.block ?_
        refine W.seq ?_
        obtain ⟨x53, hx56, hb12⟩ := bs hb12
        obtain ⟨ha54, hb55, hx56⟩ := idx_some hx56
        obtain ⟨u67, hc68, hr69⟩ := repSl.el r_a hx56
        obtain ⟨x99, hx102, hb12⟩ := bs hb12
        obtain ⟨ha100, hb101, hx102⟩ := idx_some hx102
        obtain ⟨u113, hc114, hr115⟩ := repSl.el r_b hx102
        refine W.drawR mixo 8 [] [fun _ v _ _ => v = v_a, fun _ v _ _ => v = (Value.int .i64 (k7 : Int)) ∧ InR .i64 (k7 : Int), fun _ v _ _ => v = (Value.pointer (some (elA v_a ((k7 : Int)).toNat))), fun _ v _ _ => v = u67, fun _ v _ _ => v = v_b, fun _ v _ _ => v = (Value.int .i64 (k7 : Int)) ∧ InR .i64 (k7 : Int), fun _ v _ _ => v = (Value.pointer (some (elA v_b ((k7 : Int)).toNat))), fun _ v _ _ => v = u113] (by kernel_rfl) (by kernel_rfl) ⟨pk, pk, pk, pk, pk, pk, pk, pk, trivial⟩ ⟨?_, ?_, ?_, ?_, ?_, ?_, ?_, ?_, trivial⟩ ?_
        · refine ObX.op rfl fun f24 wd25 he26 hout27 hphi28 => ?_
          have e30 : f24 0 = v_a := (hout27 0 rfl).trans hf16
          exact OpX.val v_a wd25 rfl (op_move e30) (Ext.refl _) rfl
        · refine ObX.op rfl fun f31 wd32 he33 hout34 hphi35 => ?_
          have e37 : f31 5 = (Value.int .i64 (k7 : Int)) := (hout34 5 rfl).trans hf18
          exact OpX.val (Value.int .i64 (k7 : Int)) wd32 rfl (op_move e37) (Ext.refl _) ⟨rfl, hr19⟩
        · refine ObX.op rfl fun f38 wd39 he40 hout41 hphi42 => ?_
          have hS43 := St.extend hS20 he40
          obtain ⟨S44, hS45, hf46⟩ := hphi42 0 17 _ rfl rfl rfl
          have e47 : f38 17 = v_a := hf46
          obtain ⟨S48, hS49, hf50⟩ := hphi42 1 18 _ rfl rfl rfl
          obtain ⟨e51, hr52⟩ := hf50
          exact OpX.val (Value.pointer (some (elA v_a ((k7 : Int)).toNat))) wd39 rfl (op_idx sl_22 (Ty.lift _ hS43.ext r_a) e47 e51 ha54 hb55) (Ext.refl _) rfl
        · refine ObX.op rfl fun f57 wd58 he59 hout60 hphi61 => ?_
          have hS62 := St.extend hS20 he59
          obtain ⟨S63, hS64, hf65⟩ := hphi61 2 19 _ rfl rfl rfl
          have e66 : f57 19 = (Value.pointer (some (elA v_a ((k7 : Int)).toNat))) := hf65
          exact OpX.val u67 wd58 rfl (op_load one_60 e66 (Ext.cell hS62.ext hc68)) (Ext.refl _) rfl
        · refine ObX.op rfl fun f70 wd71 he72 hout73 hphi74 => ?_
          have e76 : f70 1 = v_b := (hout73 1 rfl).trans hf17
          exact OpX.val v_b wd71 rfl (op_move e76) (Ext.refl _) rfl
        · refine ObX.op rfl fun f77 wd78 he79 hout80 hphi81 => ?_
          have e83 : f77 5 = (Value.int .i64 (k7 : Int)) := (hout80 5 rfl).trans hf18
          exact OpX.val (Value.int .i64 (k7 : Int)) wd78 rfl (op_move e83) (Ext.refl _) ⟨rfl, hr19⟩
        · refine ObX.op rfl fun f84 wd85 he86 hout87 hphi88 => ?_
          have hS89 := St.extend hS20 he86
          obtain ⟨S90, hS91, hf92⟩ := hphi88 4 21 _ rfl rfl rfl
          have e93 : f84 21 = v_b := hf92
          obtain ⟨S94, hS95, hf96⟩ := hphi88 5 22 _ rfl rfl rfl
          obtain ⟨e97, hr98⟩ := hf96
          exact OpX.val (Value.pointer (some (elA v_b ((k7 : Int)).toNat))) wd85 rfl (op_idx sl_22 (Ty.lift _ hS89.ext r_b) e93 e97 ha100 hb101) (Ext.refl _) rfl
        · refine ObX.op rfl fun f103 wd104 he105 hout106 hphi107 => ?_
          have hS108 := St.extend hS20 he105
          obtain ⟨S109, hS110, hf111⟩ := hphi107 6 23 _ rfl rfl rfl
          have e112 : f103 23 = (Value.pointer (some (elA v_b ((k7 : Int)).toNat))) := hf111
          exact OpX.val u113 wd104 rfl (op_load one_60 e112 (Ext.cell hS108.ext hc114)) (Ext.refl _) rfl
        · intro f116 wd117 Ss118 he119 hout120 hSn121 hSd122 hphi123
          show WL _ _ _ _ _ _ _
          have hS124 := St.extend hS20 he119
          have e125 : f116 20 = u67 := hphi123 3 20 _ (by decide) rfl rfl
          have e126 : f116 24 = u113 := hphi123 7 24 _ (by decide) rfl rfl
          have e127 : f116 0 = v_a := (hout120 0 rfl).trans hf16
          have e128 : f116 1 = v_b := (hout120 1 rfl).trans hf17
          have e129 : f116 5 = (Value.int .i64 (k7 : Int)) := (hout120 5 rfl).trans hf18
          obtain ⟨x130, hx131, hb12⟩ := bs hb12
          refine WL.call _ (op_call fn_62 (args2 e125 e126)) (c_laws_eqInt64SS (Ty.lift _ hS124.ext hr69) (Ty.lift _ hS124.ext hr115) hx131) rfl ?_
          rintro _ wd132 ⟨rfl, he133⟩
          have hS135 := St.extend hS124 he133
          replace hS135 : St w wd132 [] := hS135
          refine WL.val (Value.bool (!x130)) _ (op_not rfl) rfl ?_
          refine WL.nil ?_
          refine W.cond (!x130) rfl (fun hc136 => ?_) (fun hc136 => ?_)
          · replace hb12 := ip hb12 hc136
            refine W.seq (W.region ?_)
            refine WL.val (Value.bool false) _ (op_assign rfl) rfl ?_
            refine WL.nil ?_
            refine W.ret ?_
            obtain rfl := Option.some.inj hb12
            obtain rfl := hret15 _ rfl
            replace h := onRes_ret h
            obtain rfl := Option.some.inj h
            show FinP _ _ _ _ _ _ _
            exact FinP.ret _ (res1 rfl rfl) ⟨rfl, hS135.ext⟩
          · replace hb12 := inegb hb12 hc136
            refine W.skip ?_
            show W _ _ _ _ _ _
            refine W.region ?_
            refine WL.val (Value.int .i64 (k7 : Int)) _ (op_move e129) rfl ?_
            refine WL.val (Value.int .i64 (w64 ((k7 : Int) + (1 : Int)))) _ (op_add rfl rfl) rfl ?_
            refine WL.val (Value.int .i64 (w64 ((k7 : Int) + (1 : Int)))) _ (op_assign rfl) rfl ?_
            refine WL.nil ?_
            obtain rfl := Option.some.inj hb12
            show ∃ s, _ = Ctl.next s ∧ _
            exact ⟨_, rfl, e127, e128, (ctr_next hl22 hr21), (ctr_rng hl22 hr21), hS135⟩
      · intro s143 f139 wd140 hs141 hI142
        obtain ⟨⟩ := s143
        replace hI142 : f139 0 = v_a ∧ f139 1 = v_b ∧ f139 5 = Value.int .i64 (((a).length : Nat) : Int) ∧ InR .i64 (((a).length : Nat) : Int) ∧ St w wd140 [] := hI142
        obtain ⟨hf144, hf145, hf146, hr147, hS148⟩ := hI142
        refine W.seq (W.seq (W.region ?_))
        refine WL.val (Value.int .i64 (((a).length : Nat) : Int)) _ (op_move hf146) rfl ?_
        refine WL.val v_a _ (op_move hf144) rfl ?_
        have hr149 := inR_len (Ty.lift _ hS148.ext r_a)
        refine WL.val (Value.int .i64 ((a).length : Int)) _ (op_lenL sl_22 (Ty.lift _ hS148.ext r_a) rfl) rfl ?_
        refine WL.val (Value.bool (decide ((((a).length : Nat) : Int) < ((a).length : Int)))) _ (op_lss rfl rfl) rfl ?_
        have hl150 : ¬ (((a).length : Nat) : Int) < ((a).length : Int) := by omega
        refine WL.nil ?_
        refine W.condF (decide ((((a).length : Nat) : Int) < ((a).length : Int))) rfl (decide_eq_false hl150) ?_
        refine W.exit ?_
        show _ = _ ∧ _
        exact ⟨rfl, _, hs141, hS148⟩
    · rintro f151 wd152 ⟨s154, rfl, hq153⟩
      replace h := onRes_fin h
      obtain ⟨⟩ := s154
      replace hq153 : St w wd152 [] := hq153
      have hS155 := hq153
      refine W.seq (W.region ?_)
      refine WL.val (Value.bool true) _ (op_assign rfl) rfl ?_
      refine WL.nil ?_
      refine W.ret ?_
      obtain rfl := Option.some.inj h
      show FinP _ _ _ _ _ _ _
      exact FinP.ret _ (res1 rfl rfl) ⟨rfl, hS155.ext⟩

theorem c_laws_eqRing {w : World} {a_Table : (List (List (List Int)))} {v_a_Table : Value} {b_Table : (List (List (List Int)))} {v_b_Table : Value} (r_a_Table : (Ty.sl (Ty.sl (Ty.sl (Ty.i .i64)))).rep w v_a_Table a_Table) (r_b_Table : (Ty.sl (Ty.sl (Ty.sl (Ty.i .i64)))).rep w v_b_Table b_Table) {res : Bool} (h : p_laws_eqRing a_Table b_Table  = some res) :
    Ret Tryd.prog 13 #[(Value.agg #[v_a_Table]), (Value.agg #[v_b_Table])] w (fun v w' => v = Value.bool res ∧ Ext w w') := by
  unfold p_laws_eqRing at h
  have hS0 : St w w [] := St.start w
  refine Ret.start (fn := Tryd.f13) Tryd.func13 rfl 11 rfl rfl ?_
  refine W.seq (W.region ?_)
  refine WL.box hS0 rfl (cs := [v_a_Table]) rfl rfl ?_
  intro b1 wd2 hS3 he4 hx5
  replace hS3 : St w wd2 [bx b1 [v_a_Table]] := hS3
  have hx6 := St.boxAt hS3 0 rfl
  have hE7 : Ext w wd2 := hS3.ext
  have hS8 : St wd2 wd2 [] := St.start wd2
  refine WL.box hS8 rfl (cs := [v_b_Table]) rfl rfl ?_
  intro b9 wd10 hS11 he12 hx13
  replace hS11 : St wd2 wd10 [bx b9 [v_b_Table]] := hS11
  have hx14 := St.boxAt hS11 0 rfl
  have hE15 : Ext w wd10 := (Ext.trans hE7 hS11.ext)
  have hE16 : Ext wd2 wd10 := hS11.ext
  have hS17 : St wd10 wd10 [] := St.start wd10
  refine WL.val (Value.bool false) _ (op_assign rfl) rfl ?_
  refine WL.nil ?_
  refine W.seq (W.seq (W.region ?_))
  refine WL.val (Value.pointer (some ⟨b1, 0, none⟩)) _ (op_fieldAddr fd_28_0 rfl) rfl ?_
  refine WL.val v_a_Table _ (op_load one_22 rfl (BoxAt.cell (BoxAt.lift (Ext.trans hE16 hS17.ext) hx6) rfl)) rfl ?_
  refine WL.val (Value.pointer (some ⟨b9, 0, none⟩)) _ (op_fieldAddr fd_28_0 rfl) rfl ?_
  refine WL.val v_b_Table _ (op_load one_22 rfl (BoxAt.cell (BoxAt.lift hS17.ext hx14) rfl)) rfl ?_
  obtain ⟨x18, hx19, h⟩ := bs h
  refine WL.call _ (op_call fn_35 (args2 rfl rfl)) (c_laws_eqInt64SSS (Ty.lift _ (Ext.trans hE15 hS17.ext) r_a_Table) (Ty.lift _ (Ext.trans hE15 hS17.ext) r_b_Table) hx19) rfl ?_
  rintro _ wd20 ⟨rfl, he21⟩
  have hS23 := St.extend hS17 he21
  replace hS23 : St wd10 wd20 [] := hS23
  refine WL.val (Value.bool (!x18)) _ (op_not rfl) rfl ?_
  refine WL.nil ?_
  refine W.cond (!x18) rfl (fun hc24 => ?_) (fun hc24 => ?_)
  · replace h := ip h hc24
    refine W.seq (W.region ?_)
    refine WL.val (Value.bool false) _ (op_assign rfl) rfl ?_
    refine WL.nil ?_
    refine W.ret ?_
    obtain rfl := Option.some.inj h
    show FinP _ _ _ _ _ _ _
    exact FinP.ret _ (res1 rfl rfl) ⟨rfl, (Ext.trans hE15 hS23.ext)⟩
  · replace h := inegb h hc24
    refine W.skip ?_
    refine W.seq (W.region ?_)
    refine WL.val (Value.bool true) _ (op_assign rfl) rfl ?_
    refine WL.nil ?_
    refine W.ret ?_
    obtain rfl := Option.some.inj h
    show FinP _ _ _ _ _ _ _
    exact FinP.ret _ (res1 rfl rfl) ⟨rfl, (Ext.trans hE15 hS23.ext)⟩

theorem c_laws_FnExactIsSimpleRing {w : World} {aR_Table : (List (List (List Int)))} {v_aR_Table : Value} (tb : TabAt w) (r_aR_Table : (Ty.sl (Ty.sl (Ty.sl (Ty.i .i64)))).rep w v_aR_Table aR_Table) {res : Bool} (h : p_laws_FnExactIsSimpleRing aR_Table  = some res) :
    Ret Tryd.prog 3 #[(Value.agg #[v_aR_Table])] w (fun v w' => v = Value.bool res ∧ Ext w w') := by
  unfold p_laws_FnExactIsSimpleRing at h
  have hS0 : St w w [] := St.start w
  refine Ret.start (fn := Tryd.f3) Tryd.func3 rfl 40 rfl rfl ?_
  refine W.seq (W.region ?_)
  refine WL.box hS0 rfl (cs := [v_aR_Table]) rfl rfl ?_
  intro b1 wd2 hS3 he4 hx5
  replace hS3 : St w wd2 [bx b1 [v_aR_Table]] := hS3
  have hx6 := St.boxAt hS3 0 rfl
  have hE7 : Ext w wd2 := hS3.ext
  have hS8 : St wd2 wd2 [] := St.start wd2
  refine WL.val (Value.bool false) _ (op_assign rfl) rfl ?_
  refine WL.nil ?_
  refine W.seq (W.region ?_)
  refine WL.val (Value.int .i64 (1048576 : Int)) _ (op_assign rfl) rfl ?_
  refine WL.nil ?_
  refine W.seq (W.region ?_)
  refine WL.val (Value.agg #[v_aR_Table]) _ (op_loadBox st_24 rfl (BoxAt.lift hS8.ext hx6) rfl rfl) rfl ?_
  refine WL.val (Value.int .i64 (1048576 : Int)) _ (op_move rfl) rfl ?_
  obtain ⟨x9, hx10, h⟩ := bs h
  refine WL.call _ (op_call fn_9 (args2 rfl rfl)) (c_laws_szRing (Ty.lift _ (Ext.trans hE7 hS8.ext) r_aR_Table) (inL rfl) hx10) rfl ?_
  rintro _ wd12 ⟨rfl, hr11, he13⟩
  have hS15 := St.extend hS8 he13
  replace hS15 : St wd2 wd12 [] := hS15
  refine WL.val (Value.int .i64 x9) _ (op_assign rfl) rfl ?_
  refine WL.nil ?_
  refine W.seq (W.seq (W.region ?_))
  refine WL.val (Value.int .i64 x9) _ (op_move rfl) rfl ?_
  refine WL.val (Value.bool (decide (x9 < (0 : Int)))) _ (op_lss rfl rfl) rfl ?_
  refine WL.nil ?_
  refine W.cond (decide (x9 < (0 : Int))) rfl (fun hc16 => ?_) (fun hc16 => ?_)
  · replace h := ip h hc16
    refine W.seq (W.region ?_)
    refine WL.val (Value.bool true) _ (op_assign rfl) rfl ?_
    refine WL.nil ?_
    refine W.ret ?_
    obtain rfl := Option.some.inj h
    show FinP _ _ _ _ _ _ _
    exact FinP.ret _ (res1 rfl rfl) ⟨rfl, (Ext.trans hE7 hS15.ext)⟩
  · replace h := inegb h hc16
    refine W.skip ?_
    refine W.seq (W.region ?_)
    refine WL.val (Value.agg #[v_aR_Table]) _ (op_loadBox st_24 rfl (BoxAt.lift hS15.ext hx6) rfl rfl) rfl ?_
    obtain ⟨x18, hx19, h⟩ := bs h
    refine WL.call _ (op_call fn_11 (args1 rfl)) (c_laws_toRing (Ty.lift _ (Ext.trans hE7 hS15.ext) r_aR_Table) hx19) rfl ?_
    rintro _ wd21 ⟨u20, rfl, he22, hs23⟩
    have hS24 := St.join hS15 he22 hs23
    replace hS24 : St wd2 wd21 [(Ty.sl (Ty.sl (Ty.sl (Ty.i .i64)))).at u20 x18] := hS24
    have hb25 := St.rep (t := (Ty.sl (Ty.sl (Ty.sl (Ty.i .i64))))) hS24 0 rfl
    have hE26 : Ext w wd21 := (Ext.trans hE7 hS24.ext)
    have hE27 : Ext wd2 wd21 := hS24.ext
    have hS28 : St wd21 wd21 [] := St.start wd21
    obtain ⟨x29, hx30, h⟩ := bs h
    refine WL.call _ (op_call fn_10 (args1 rfl)) (c_spec_IsSimpleRing (Ty.lift _ hS28.ext hb25) hx30) rfl ?_
    rintro _ wd32 ⟨rfl, hr31, he33⟩
    have hS35 := St.extend hS28 he33
    replace hS35 : St wd21 wd32 [] := hS35
    refine WL.val (Value.tuple #[(Value.bool x29.1), (Value.int .i64 x29.2)]) _ (op_move rfl) rfl ?_
    refine WL.val (Value.bool x29.1) _ (op_extract rfl rfl) rfl ?_
    refine WL.val (Value.int .i64 x29.2) _ (op_extract rfl rfl) rfl ?_
    refine WL.val (Value.bool x29.1) _ (op_assign rfl) rfl ?_
    refine WL.val (Value.int .i64 x29.2) _ (op_assign rfl) rfl ?_
    refine WL.nil ?_
    refine W.seq (W.region ?_)
    refine WL.val (Value.agg #[v_aR_Table]) _ (op_loadBox st_24 rfl (BoxAt.lift (Ext.trans hE27 hS35.ext) hx6) rfl rfl) rfl ?_
    obtain ⟨x36, hx37, h⟩ := bs h
    refine WL.call _ (op_call fn_11 (args1 rfl)) (c_laws_toRing (Ty.lift _ (Ext.trans hE26 hS35.ext) r_aR_Table) hx37) rfl ?_
    rintro _ wd39 ⟨u38, rfl, he40, hs41⟩
    have hS42 := St.join hS35 he40 hs41
    replace hS42 : St wd21 wd39 [(Ty.sl (Ty.sl (Ty.sl (Ty.i .i64)))).at u38 x36] := hS42
    refine WL.alloc hS42 ze_28 (cs := [(Value.slice none 0 0)]) rfl rfl ?_
    intro b43 wd44 hS45 he46
    replace hS45 : St wd21 wd44 [(Ty.sl (Ty.sl (Ty.sl (Ty.i .i64)))).at u38 x36, bx b43 [(Value.slice none 0 0)]] := hS45
    refine WL.storeBox [u38] hS45 (k := 1) rfl rfl rfl (us := [u38]) rfl sz_28 rfl rfl (all_rep (St.rep (t := (Ty.sl (Ty.sl (Ty.sl (Ty.i .i64))))) hS45 0 rfl) all_nil) rfl ?_
    intro wd47 hS48
    replace hS48 : St wd21 wd47 [(Ty.sl (Ty.sl (Ty.sl (Ty.i .i64)))).at u38 x36, bx b43 [u38]] := hS48
    refine WL.nil ?_
    refine W.seq (W.region ?_)
    refine WL.val (Value.agg #[u38]) _ (op_loadBox st_28 rfl (St.boxAt hS48 1 rfl) rfl rfl) rfl ?_
    obtain ⟨x49, hx50, h⟩ := bs h
    refine WL.call _ (op_call fn_12 (args1 rfl)) (c_impl_IsSimpleRing (tb.ext (Ext.trans hE26 hS48.ext)) (St.rep (t := (Ty.sl (Ty.sl (Ty.sl (Ty.i .i64))))) hS48 0 rfl) hx50) rfl ?_
    rintro _ wd52 ⟨rfl, hr51, he53⟩
    have hS55 := St.extend hS48 he53
    replace hS55 : St wd21 wd52 [(Ty.sl (Ty.sl (Ty.sl (Ty.i .i64)))).at u38 x36, bx b43 [u38]] := hS55
    refine WL.val (Value.tuple #[(Value.bool x49.1), (Value.int .i64 x49.2)]) _ (op_move rfl) rfl ?_
    refine WL.val (Value.bool x49.1) _ (op_extract rfl rfl) rfl ?_
    refine WL.val (Value.int .i64 x49.2) _ (op_extract rfl rfl) rfl ?_
    refine WL.val (Value.bool x49.1) _ (op_assign rfl) rfl ?_
    refine WL.val (Value.int .i64 x49.2) _ (op_assign rfl) rfl ?_
    refine WL.nil ?_
    refine W.seq (W.seq (W.region ?_))
    refine WL.val (Value.bool x49.1) _ (op_move rfl) rfl ?_
    refine WL.val (Value.bool x29.1) _ (op_move rfl) rfl ?_
    refine WL.val (Value.bool (x49.1 != x29.1)) _ (op_bneq rfl rfl bt_4) rfl ?_
    refine WL.val (Value.bool (x49.1 != x29.1)) _ (op_move rfl) rfl ?_
    refine WL.cut 4 (fun fq wq => fq 1 = (Value.pointer (some ⟨b1, 0, none⟩)) ∧ fq 6 = (Value.pointer (some ⟨b43, 0, none⟩)) ∧ fq 34 = (Value.bool ((x49.1 != x29.1) || (x49.2 != x29.2))) ∧ St wd21 wq [(Ty.sl (Ty.sl (Ty.sl (Ty.i .i64)))).at u38 x36, bx b43 [u38]]) ?_ ?_
    · rcases Bool.eq_false_or_eq_true (x49.1 != x29.1) with hc56 | hc56
      · refine WL.gskip rfl (bool_of rfl hc56) rfl ?_
        refine WL.gskip rfl (bool_of rfl hc56) rfl ?_
        refine WL.gskip rfl (bool_of rfl hc56) rfl ?_
        refine WL.val (Value.bool true) _ (op_pick_t (evb_of rfl hc56) rfl) rfl ?_
        refine WL.nil ?_
        exact ⟨rfl, rfl, rfl, (orT hc56), hS55⟩
      · refine WL.grun rfl (bool_of rfl hc56) ?_
        refine WL.val (Value.int .i64 x49.2) _ (op_move rfl) rfl ?_
        refine WL.grun rfl (bool_of rfl hc56) ?_
        refine WL.val (Value.int .i64 x29.2) _ (op_move rfl) rfl ?_
        refine WL.grun rfl (bool_of rfl hc56) ?_
        refine WL.val (Value.bool (x49.2 != x29.2)) _ (op_neq rfl rfl) rfl ?_
        refine WL.val (Value.bool (x49.2 != x29.2)) _ (op_pick_f (evb_of rfl hc56) rfl) rfl ?_
        refine WL.nil ?_
        exact ⟨rfl, rfl, rfl, (orF hc56), hS55⟩
    · intro f57 wd58 hq59
      obtain ⟨hf60, hf61, hf62, hS63⟩ := hq59
      refine WL.nil ?_
      refine W.cond ((x49.1 != x29.1) || (x49.2 != x29.2)) hf62 (fun hc64 => ?_) (fun hc64 => ?_)
      · replace h := ip h hc64
        refine W.seq (W.region ?_)
        refine WL.val (Value.bool false) _ (op_assign rfl) rfl ?_
        refine WL.nil ?_
        refine W.ret ?_
        obtain rfl := Option.some.inj h
        show FinP _ _ _ _ _ _ _
        exact FinP.ret _ (res1 rfl rfl) ⟨rfl, (Ext.trans hE26 hS63.ext)⟩
      · replace h := inegb h hc64
        refine W.skip ?_
        refine W.seq (W.seq ?_)
        obtain ⟨x90, hx91, h⟩ := bs h
        refine W.drawR mixo 3 [] [fun _ v S w' => v = (Value.agg #[u38]), fun _ v S w' => v = (Value.agg #[v_aR_Table]), fun _ v S w' => ∃ (uu0 : Value), v = (Value.agg #[uu0]) ∧ SepS S w' [(Ty.sl (Ty.sl (Ty.sl (Ty.i .i64)))).at uu0 x90]] (by kernel_rfl) (by kernel_rfl) ⟨pk, pk, ⟨fun _ _ _ _ _ he ⟨uu0, h0, r0⟩ => ⟨uu0, h0, SepS.extend he r0⟩, fun _ _ _ _ _ _ h => h⟩, trivial⟩ ⟨?_, ?_, ?_, trivial⟩ ?_
        · refine ObX.op rfl fun f66 wd67 he68 hout69 hphi70 => ?_
          have hS71 := St.extend hS63 he68
          have e72 : f66 6 = (Value.pointer (some ⟨b43, 0, none⟩)) := (hout69 6 rfl).trans hf61
          exact OpX.val (Value.agg #[u38]) wd67 rfl (op_loadBox st_28 e72 (St.boxAt hS71 1 rfl) rfl rfl) (Ext.refl _) rfl
        · refine ObX.op rfl fun f73 wd74 he75 hout76 hphi77 => ?_
          have hS78 := St.extend hS63 he75
          have e79 : f73 1 = (Value.pointer (some ⟨b1, 0, none⟩)) := (hout76 1 rfl).trans hf60
          exact OpX.val (Value.agg #[v_aR_Table]) wd74 rfl (op_loadBox st_24 e79 (BoxAt.lift (Ext.trans hE27 hS78.ext) hx6) rfl rfl) (Ext.refl _) rfl
        · refine ObX.op rfl fun f80 wd81 he82 hout83 hphi84 => ?_
          have hS85 := St.extend hS63 he82
          obtain ⟨S86, hS87, hf88⟩ := hphi84 1 36 _ rfl rfl rfl
          have e89 : f80 36 = (Value.agg #[v_aR_Table]) := hf88
          refine OpX.call rfl (op_call fn_11 (args1 e89)) (Ret.mono (c_laws_toRing (Ty.lift _ (Ext.trans hE26 hS85.ext) r_aR_Table) hx91) ?_)
          rintro _ wd93 ⟨u92, rfl, he94, hs95⟩
          exact ⟨he94, _, newS _ _, ⟨u92, rfl, (Sep.new hs95)⟩⟩
        · intro f96 wd97 Ss98 he99 hout100 hSn101 hSd102 hphi103
          show WL _ _ _ _ _ _ _
          have e105 : f96 35 = (Value.agg #[u38]) := hphi103 0 35 _ (by decide) rfl rfl
          obtain ⟨u107, e106, e106s⟩ := hphi103 2 37 _ (by decide) rfl rfl
          have hS108 := St.joinS hS63 he99 hSn101 (SepS.consS hSd102 rfl e106s SepS.nilS)
          replace hS108 : St wd21 wd97 [(Ty.sl (Ty.sl (Ty.sl (Ty.i .i64)))).at u38 x36, bx b43 [u38], (Ty.sl (Ty.sl (Ty.sl (Ty.i .i64)))).at u107 x90] := hS108
          obtain ⟨x109, hx110, h⟩ := bs h
          refine WL.call _ (op_call fn_13 (args2 e105 e106)) (c_laws_eqRing (St.rep (t := (Ty.sl (Ty.sl (Ty.sl (Ty.i .i64))))) hS108 0 rfl) (St.rep (t := (Ty.sl (Ty.sl (Ty.sl (Ty.i .i64))))) hS108 2 rfl) hx110) rfl ?_
          rintro _ wd111 ⟨rfl, he112⟩
          have hS114 := St.extend hS108 he112
          replace hS114 : St wd21 wd111 [(Ty.sl (Ty.sl (Ty.sl (Ty.i .i64)))).at u38 x36, bx b43 [u38], (Ty.sl (Ty.sl (Ty.sl (Ty.i .i64)))).at u107 x90] := hS114
          refine WL.val (Value.bool (!x109)) _ (op_not rfl) rfl ?_
          refine WL.nil ?_
          refine W.cond (!x109) rfl (fun hc115 => ?_) (fun hc115 => ?_)
          · replace h := ip h hc115
            refine W.seq (W.region ?_)
            refine WL.val (Value.bool false) _ (op_assign rfl) rfl ?_
            refine WL.nil ?_
            refine W.ret ?_
            obtain rfl := Option.some.inj h
            show FinP _ _ _ _ _ _ _
            exact FinP.ret _ (res1 rfl rfl) ⟨rfl, (Ext.trans hE26 hS114.ext)⟩
          · replace h := inegb h hc115
            refine W.skip ?_
            refine W.seq (W.region ?_)
            refine WL.val (Value.bool true) _ (op_assign rfl) rfl ?_
            refine WL.nil ?_
            refine W.ret ?_
            obtain rfl := Option.some.inj h
            show FinP _ _ _ _ _ _ _
            exact FinP.ret _ (res1 rfl rfl) ⟨rfl, (Ext.trans hE26 hS114.ext)⟩

end Go.VG
