/- The walks, part 2: each Go function returns what its plain twin returns. No condition beyond what each names. -/
import Derived.Test.YtoobahemnnhkbaaGWalk1
set_option linter.all false
namespace Go.VG
open Go.Proofs
attribute [local irreducible] W WL Sep FinP

theorem c_spec_l01Numbers {w : World} {list : (List Int)} {v_list : Value} (r_list : (Ty.sl (Ty.i .i64)).rep w v_list list) {res : Bool} (h : p_spec_l01Numbers list  = some res) :
    Ret Try.prog 39 #[v_list] w (fun v w' => v = Value.bool res ∧ Ext w w') := by
  unfold p_spec_l01Numbers at h
  have hS0 : St w w [] := St.start w
  refine Ret.start (fn := Try.f39) Try.func39 rfl 16 rfl rfl ?_
  refine W.seq (W.region ?_)
  refine WL.val (Value.bool false) _ (op_assign rfl) rfl ?_
  refine WL.nil ?_
  refine W.seq (W.seq (W.region ?_))
  refine WL.val (Value.int .i64 (0 : Int)) _ (op_assign rfl) rfl ?_
  refine WL.nil ?_
  show W _ _ _ _ _ _
  obtain ⟨res1, hres2, h⟩ := bs h
  refine W.blockLoop (fun fq wq => ∃ s, res1 = Res.fin s ∧ St w wq []) ?_ ?_
  · refine W.forN (fun k (s : Unit) fq wq => fq 0 = v_list ∧ fq 3 = Value.int .i64 (k : Int) ∧ InR .i64 (k : Int) ∧ St w wq []) hres2 ⟨rfl, rfl, (inL rfl), hS0⟩ ?_ ?_
    · intro k3 s34 ct4 f5 wd6 hk7 hb8 hI9 hbrk10 hret11
      obtain ⟨⟩ := s34
      replace hI9 : f5 0 = v_list ∧ f5 3 = Value.int .i64 (k3 : Int) ∧ InR .i64 (k3 : Int) ∧ St w wd6 [] := hI9
      replace hb8 : p_spec_l01Numbers_L1 list k3  = some ct4 := hb8
      unfold p_spec_l01Numbers_L1 at hb8
      obtain ⟨hf12, hf13, hr14, hS15⟩ := hI9
      refine W.seq (W.seq (W.region ?_))
      refine WL.val (Value.int .i64 (k3 : Int)) _ (op_move hf13) rfl ?_
      refine WL.val v_list _ (op_move hf12) rfl ?_
      have hr16 := inR_len (Ty.lift _ hS15.ext r_list)
      refine WL.val (Value.int .i64 ((list).length : Int)) _ (op_lenL sl_25 (Ty.lift _ hS15.ext r_list) rfl) rfl ?_
      refine WL.val (Value.bool (decide ((k3 : Int) < ((list).length : Int)))) _ (op_lss rfl rfl) rfl ?_
      have hl17 : (k3 : Int) < ((list).length : Int) := by omega
      refine WL.nil ?_
      refine W.condT (decide ((k3 : Int) < ((list).length : Int))) rfl (decide_eq_true hl17) ?_
      refine W.skip ?_
      refine W.seq ?_
      refine W.block ?_
      refine W.seq (W.region ?_)
      refine WL.val v_list _ (op_move hf12) rfl ?_
      refine WL.val (Value.int .i64 (k3 : Int)) _ (op_move hf13) rfl ?_
      obtain ⟨x19, hx22, hb8⟩ := bs hb8
      obtain ⟨ha20, hb21, hx22⟩ := idx_some hx22
      refine WL.val (Value.pointer (some (elA v_list ((k3 : Int)).toNat))) _ (op_idx sl_25 (Ty.lift _ hS15.ext r_list) rfl rfl ha20 hb21) rfl ?_
      obtain ⟨u23, hc24, hr25⟩ := repSl.el r_list hx22
      obtain ⟨rfl, hr25⟩ := hr25
      refine WL.val (Value.int .i64 x19) _ (op_load one_2 rfl (Ext.cell hS15.ext hc24)) rfl ?_
      obtain ⟨x26, hx27, hb8⟩ := bs hb8
      refine WL.call _ (op_call fn_53 (args1 rfl)) (c_spec_l01Number hr25 hx27) rfl ?_
      rintro _ wd28 ⟨rfl, he29⟩
      have hS31 := St.extend hS15 he29
      replace hS31 : St w wd28 [] := hS31
      refine WL.val (Value.bool (!x26)) _ (op_not rfl) rfl ?_
      refine WL.nil ?_
      refine W.cond (!x26) rfl (fun hc32 => ?_) (fun hc32 => ?_)
      · replace hb8 := ip hb8 hc32
        refine W.seq (W.region ?_)
        refine WL.val (Value.bool false) _ (op_assign rfl) rfl ?_
        refine WL.nil ?_
        refine W.ret ?_
        obtain rfl := Option.some.inj hb8
        obtain rfl := hret11 _ rfl
        replace h := onRes_ret h
        obtain rfl := Option.some.inj h
        show FinP _ _ _ _ _ _ _
        exact FinP.ret _ (res1 rfl rfl) ⟨rfl, hS31.ext⟩
      · replace hb8 := inegb hb8 hc32
        refine W.skip ?_
        show W _ _ _ _ _ _
        refine W.region ?_
        refine WL.val (Value.int .i64 (k3 : Int)) _ (op_move hf13) rfl ?_
        refine WL.val (Value.int .i64 (w64 ((k3 : Int) + (1 : Int)))) _ (op_add rfl rfl) rfl ?_
        refine WL.val (Value.int .i64 (w64 ((k3 : Int) + (1 : Int)))) _ (op_assign rfl) rfl ?_
        refine WL.nil ?_
        obtain rfl := Option.some.inj hb8
        show ∃ s, _ = Ctl.next s ∧ _
        exact ⟨_, rfl, hf12, (ctr_next hl17 hr16), (ctr_rng hl17 hr16), hS31⟩
    · intro s39 f35 wd36 hs37 hI38
      obtain ⟨⟩ := s39
      replace hI38 : f35 0 = v_list ∧ f35 3 = Value.int .i64 (((list).length : Nat) : Int) ∧ InR .i64 (((list).length : Nat) : Int) ∧ St w wd36 [] := hI38
      obtain ⟨hf40, hf41, hr42, hS43⟩ := hI38
      refine W.seq (W.seq (W.region ?_))
      refine WL.val (Value.int .i64 (((list).length : Nat) : Int)) _ (op_move hf41) rfl ?_
      refine WL.val v_list _ (op_move hf40) rfl ?_
      have hr44 := inR_len (Ty.lift _ hS43.ext r_list)
      refine WL.val (Value.int .i64 ((list).length : Int)) _ (op_lenL sl_25 (Ty.lift _ hS43.ext r_list) rfl) rfl ?_
      refine WL.val (Value.bool (decide ((((list).length : Nat) : Int) < ((list).length : Int)))) _ (op_lss rfl rfl) rfl ?_
      have hl45 : ¬ (((list).length : Nat) : Int) < ((list).length : Int) := by omega
      refine WL.nil ?_
      refine W.condF (decide ((((list).length : Nat) : Int) < ((list).length : Int))) rfl (decide_eq_false hl45) ?_
      refine W.exit ?_
      show _ = _ ∧ _
      exact ⟨rfl, _, hs37, hS43⟩
  · rintro f46 wd47 ⟨s49, rfl, hq48⟩
    replace h := onRes_fin h
    obtain ⟨⟩ := s49
    replace hq48 : St w wd47 [] := hq48
    have hS50 := hq48
    refine W.seq (W.region ?_)
    refine WL.val (Value.bool true) _ (op_assign rfl) rfl ?_
    refine WL.nil ?_
    refine W.ret ?_
    obtain rfl := Option.some.inj h
    show FinP _ _ _ _ _ _ _
    exact FinP.ret _ (res1 rfl rfl) ⟨rfl, hS50.ext⟩

theorem c_spec_l01Dot {w : World} {a : (List Int)} {v_a : Value} {b : (List Int)} {v_b : Value} (r_a : (Ty.sl (Ty.i .i64)).rep w v_a a) (r_b : (Ty.sl (Ty.i .i64)).rep w v_b b) {res : Int} (h : p_spec_l01Dot a b  = some res) :
    Ret Try.prog 25 #[v_a, v_b] w (fun v w' => v = Value.int .i64 res ∧ InR .i64 res ∧ Ext w w') := by
  unfold p_spec_l01Dot at h
  have hS0 : St w w [] := St.start w
  refine Ret.start (fn := Try.f25) Try.func25 rfl 26 rfl rfl ?_
  refine W.seq (W.region ?_)
  refine WL.val (Value.int .i64 (0 : Int)) _ (op_assign rfl) rfl ?_
  refine WL.nil ?_
  refine W.seq (W.region ?_)
  refine WL.val (Value.int .i64 (0 : Int)) _ (op_assign rfl) rfl ?_
  refine WL.nil ?_
  refine W.seq (W.seq (W.region ?_))
  refine WL.val (Value.int .i64 (0 : Int)) _ (op_assign rfl) rfl ?_
  refine WL.nil ?_
  show W _ _ _ _ _ _
  obtain ⟨res1, hres2, h⟩ := bs h
  refine W.blockLoop (fun fq wq => ∃ s, res1 = Res.fin s ∧ fq 5 = Value.int .i64 s ∧ InR .i64 s ∧ St w wq []) ?_ ?_
  · refine W.forN (fun k (s : Int) fq wq => fq 0 = v_a ∧ fq 1 = v_b ∧ fq 5 = Value.int .i64 s ∧ InR .i64 s ∧ fq 6 = Value.int .i64 (k : Int) ∧ InR .i64 (k : Int) ∧ St w wq []) hres2 ⟨rfl, rfl, rfl, (inL rfl), rfl, (inL rfl), hS0⟩ ?_ ?_
    · intro k3 x4 ct5 f6 wd7 hk8 hb9 hI10 hbrk11 hret12
      replace hI10 : f6 0 = v_a ∧ f6 1 = v_b ∧ f6 5 = Value.int .i64 x4 ∧ InR .i64 x4 ∧ f6 6 = Value.int .i64 (k3 : Int) ∧ InR .i64 (k3 : Int) ∧ St w wd7 [] := hI10
      replace hb9 : p_spec_l01Dot_L1 a b k3 x4 = some ct5 := hb9
      unfold p_spec_l01Dot_L1 at hb9
      obtain ⟨hf13, hf14, hf15, hr16, hf17, hr18, hS19⟩ := hI10
      refine W.seq (W.seq (W.region ?_))
      refine WL.val (Value.int .i64 (k3 : Int)) _ (op_move hf17) rfl ?_
      refine WL.val v_a _ (op_move hf13) rfl ?_
      have hr20 := inR_len (Ty.lift _ hS19.ext r_a)
      refine WL.val (Value.int .i64 ((a).length : Int)) _ (op_lenL sl_25 (Ty.lift _ hS19.ext r_a) rfl) rfl ?_
      refine WL.val (Value.bool (decide ((k3 : Int) < ((a).length : Int)))) _ (op_lss rfl rfl) rfl ?_
      have hl21 : (k3 : Int) < ((a).length : Int) := by omega
      refine WL.nil ?_
      refine W.condT (decide ((k3 : Int) < ((a).length : Int))) rfl (decide_eq_true hl21) ?_
      refine W.skip ?_
      refine W.seq ?_
      refine W.block ?_
      obtain ⟨x59, hx62, hb9⟩ := bs hb9
      obtain ⟨ha60, hb61, hx62⟩ := idx_some hx62
      obtain ⟨u73, hc74, hr75⟩ := repSl.el r_a hx62
      obtain ⟨rfl, hr75⟩ := hr75
      obtain ⟨x105, hx108, hb9⟩ := bs hb9
      obtain ⟨ha106, hb107, hx108⟩ := idx_some hx108
      obtain ⟨u119, hc120, hr121⟩ := repSl.el r_b hx108
      obtain ⟨rfl, hr121⟩ := hr121
      refine W.drawR mixo 10 [] [fun _ v _ _ => v = (Value.int .i64 x4) ∧ InR .i64 x4, fun _ v _ _ => v = v_a, fun _ v _ _ => v = (Value.int .i64 (k3 : Int)) ∧ InR .i64 (k3 : Int), fun _ v _ _ => v = (Value.pointer (some (elA v_a ((k3 : Int)).toNat))), fun _ v _ _ => v = (Value.int .i64 x59) ∧ InR .i64 x59, fun _ v _ _ => v = v_b, fun _ v _ _ => v = (Value.int .i64 (k3 : Int)) ∧ InR .i64 (k3 : Int), fun _ v _ _ => v = (Value.pointer (some (elA v_b ((k3 : Int)).toNat))), fun _ v _ _ => v = (Value.int .i64 x105) ∧ InR .i64 x105, fun _ v _ _ => v = (Value.int .i64 (w64 (x59 * x105))) ∧ InR .i64 (w64 (x59 * x105))] (by kernel_rfl) (by kernel_rfl) ⟨pk, pk, pk, pk, pk, pk, pk, pk, pk, pk, trivial⟩ ⟨?_, ?_, ?_, ?_, ?_, ?_, ?_, ?_, ?_, ?_, trivial⟩ ?_
      · refine ObX.op rfl fun f23 wd24 he25 hout26 hphi27 => ?_
        have e29 : f23 5 = (Value.int .i64 x4) := (hout26 5 rfl).trans hf15
        exact OpX.val (Value.int .i64 x4) wd24 rfl (op_move e29) (Ext.refl _) ⟨rfl, hr16⟩
      · refine ObX.op rfl fun f30 wd31 he32 hout33 hphi34 => ?_
        have e36 : f30 0 = v_a := (hout33 0 rfl).trans hf13
        exact OpX.val v_a wd31 rfl (op_move e36) (Ext.refl _) rfl
      · refine ObX.op rfl fun f37 wd38 he39 hout40 hphi41 => ?_
        have e43 : f37 6 = (Value.int .i64 (k3 : Int)) := (hout40 6 rfl).trans hf17
        exact OpX.val (Value.int .i64 (k3 : Int)) wd38 rfl (op_move e43) (Ext.refl _) ⟨rfl, hr18⟩
      · refine ObX.op rfl fun f44 wd45 he46 hout47 hphi48 => ?_
        have hS49 := St.extend hS19 he46
        obtain ⟨S50, hS51, hf52⟩ := hphi48 1 14 _ rfl rfl rfl
        have e53 : f44 14 = v_a := hf52
        obtain ⟨S54, hS55, hf56⟩ := hphi48 2 15 _ rfl rfl rfl
        obtain ⟨e57, hr58⟩ := hf56
        exact OpX.val (Value.pointer (some (elA v_a ((k3 : Int)).toNat))) wd45 rfl (op_idx sl_25 (Ty.lift _ hS49.ext r_a) e53 e57 ha60 hb61) (Ext.refl _) rfl
      · refine ObX.op rfl fun f63 wd64 he65 hout66 hphi67 => ?_
        have hS68 := St.extend hS19 he65
        obtain ⟨S69, hS70, hf71⟩ := hphi67 3 16 _ rfl rfl rfl
        have e72 : f63 16 = (Value.pointer (some (elA v_a ((k3 : Int)).toNat))) := hf71
        exact OpX.val (Value.int .i64 x59) wd64 rfl (op_load one_2 e72 (Ext.cell hS68.ext hc74)) (Ext.refl _) ⟨rfl, hr75⟩
      · refine ObX.op rfl fun f76 wd77 he78 hout79 hphi80 => ?_
        have e82 : f76 1 = v_b := (hout79 1 rfl).trans hf14
        exact OpX.val v_b wd77 rfl (op_move e82) (Ext.refl _) rfl
      · refine ObX.op rfl fun f83 wd84 he85 hout86 hphi87 => ?_
        have e89 : f83 6 = (Value.int .i64 (k3 : Int)) := (hout86 6 rfl).trans hf17
        exact OpX.val (Value.int .i64 (k3 : Int)) wd84 rfl (op_move e89) (Ext.refl _) ⟨rfl, hr18⟩
      · refine ObX.op rfl fun f90 wd91 he92 hout93 hphi94 => ?_
        have hS95 := St.extend hS19 he92
        obtain ⟨S96, hS97, hf98⟩ := hphi94 5 18 _ rfl rfl rfl
        have e99 : f90 18 = v_b := hf98
        obtain ⟨S100, hS101, hf102⟩ := hphi94 6 19 _ rfl rfl rfl
        obtain ⟨e103, hr104⟩ := hf102
        exact OpX.val (Value.pointer (some (elA v_b ((k3 : Int)).toNat))) wd91 rfl (op_idx sl_25 (Ty.lift _ hS95.ext r_b) e99 e103 ha106 hb107) (Ext.refl _) rfl
      · refine ObX.op rfl fun f109 wd110 he111 hout112 hphi113 => ?_
        have hS114 := St.extend hS19 he111
        obtain ⟨S115, hS116, hf117⟩ := hphi113 7 20 _ rfl rfl rfl
        have e118 : f109 20 = (Value.pointer (some (elA v_b ((k3 : Int)).toNat))) := hf117
        exact OpX.val (Value.int .i64 x105) wd110 rfl (op_load one_2 e118 (Ext.cell hS114.ext hc120)) (Ext.refl _) ⟨rfl, hr121⟩
      · refine ObX.op rfl fun f122 wd123 he124 hout125 hphi126 => ?_
        obtain ⟨S128, hS129, hf130⟩ := hphi126 4 17 _ rfl rfl rfl
        obtain ⟨e131, hr132⟩ := hf130
        obtain ⟨S133, hS134, hf135⟩ := hphi126 8 21 _ rfl rfl rfl
        obtain ⟨e136, hr137⟩ := hf135
        exact OpX.val (Value.int .i64 (w64 (x59 * x105))) wd123 rfl (op_mul e131 e136) (Ext.refl _) ⟨rfl, (inR_wrap _ _)⟩
      · intro f138 wd139 Ss140 he141 hout142 hSn143 hSd144 hphi145
        show WL _ _ _ _ _ _ _
        have hS146 := St.extend hS19 he141
        obtain ⟨e147, hr148⟩ := hphi145 0 13 _ (by decide) rfl rfl
        obtain ⟨e149, hr150⟩ := hphi145 9 22 _ (by decide) rfl rfl
        have e151 : f138 0 = v_a := (hout142 0 rfl).trans hf13
        have e152 : f138 1 = v_b := (hout142 1 rfl).trans hf14
        have e153 : f138 6 = (Value.int .i64 (k3 : Int)) := (hout142 6 rfl).trans hf17
        refine WL.val (Value.int .i64 (w64 (x4 + (w64 (x59 * x105))))) _ (op_add e147 e149) rfl ?_
        refine WL.val (Value.int .i64 (((w64 (x4 + (w64 (x59 * x105))))).tmod (55441 : Int))) _ (op_rem (b := 55441) rfl rfl (by decide)) rfl ?_
        refine WL.val (Value.int .i64 (((w64 (x4 + (w64 (x59 * x105))))).tmod (55441 : Int))) _ (op_assign rfl) rfl ?_
        refine WL.nil ?_
        show W _ _ _ _ _ _
        refine W.region ?_
        refine WL.val (Value.int .i64 (k3 : Int)) _ (op_move e153) rfl ?_
        refine WL.val (Value.int .i64 (w64 ((k3 : Int) + (1 : Int)))) _ (op_add rfl rfl) rfl ?_
        refine WL.val (Value.int .i64 (w64 ((k3 : Int) + (1 : Int)))) _ (op_assign rfl) rfl ?_
        refine WL.nil ?_
        obtain rfl := Option.some.inj hb9
        show ∃ s, _ = Ctl.next s ∧ _
        exact ⟨_, rfl, e151, e152, rfl, (inR_tmod (inR_wrap _ _)), (ctr_next hl21 hr20), (ctr_rng hl21 hr20), hS146⟩
    · intro x160 f155 wd156 hs157 hI158
      replace hI158 : f155 0 = v_a ∧ f155 1 = v_b ∧ f155 5 = Value.int .i64 x160 ∧ InR .i64 x160 ∧ f155 6 = Value.int .i64 (((a).length : Nat) : Int) ∧ InR .i64 (((a).length : Nat) : Int) ∧ St w wd156 [] := hI158
      obtain ⟨hf161, hf162, hf163, hr164, hf165, hr166, hS167⟩ := hI158
      refine W.seq (W.seq (W.region ?_))
      refine WL.val (Value.int .i64 (((a).length : Nat) : Int)) _ (op_move hf165) rfl ?_
      refine WL.val v_a _ (op_move hf161) rfl ?_
      have hr168 := inR_len (Ty.lift _ hS167.ext r_a)
      refine WL.val (Value.int .i64 ((a).length : Int)) _ (op_lenL sl_25 (Ty.lift _ hS167.ext r_a) rfl) rfl ?_
      refine WL.val (Value.bool (decide ((((a).length : Nat) : Int) < ((a).length : Int)))) _ (op_lss rfl rfl) rfl ?_
      have hl169 : ¬ (((a).length : Nat) : Int) < ((a).length : Int) := by omega
      refine WL.nil ?_
      refine W.condF (decide ((((a).length : Nat) : Int) < ((a).length : Int))) rfl (decide_eq_false hl169) ?_
      refine W.exit ?_
      show _ = _ ∧ _
      exact ⟨rfl, _, hs157, hf163, hr164, hS167⟩
  · rintro f170 wd171 ⟨x174, rfl, hq172⟩
    replace h := onRes_fin h
    replace hq172 : f170 5 = Value.int .i64 x174 ∧ InR .i64 x174 ∧ St w wd171 [] := hq172
    obtain ⟨hf175, hr176, hS177⟩ := hq172
    refine W.seq (W.region ?_)
    refine WL.val (Value.int .i64 x174) _ (op_move hf175) rfl ?_
    refine WL.val (Value.int .i64 x174) _ (op_assign rfl) rfl ?_
    refine WL.nil ?_
    refine W.ret ?_
    obtain rfl := Option.some.inj h
    show FinP _ _ _ _ _ _ _
    exact FinP.ret _ (res1 rfl rfl) ⟨rfl, hr176, hS177.ext⟩

theorem c_spec_l08Is {w : World} {r_Table : (List (List (List Int)))} {v_r_Table : Value} {x : (List Int)} {v_x : Value} (r_r_Table : (Ty.sl (Ty.sl (Ty.sl (Ty.i .i64)))).rep w v_r_Table r_Table) (r_x : (Ty.sl (Ty.i .i64)).rep w v_x x) {res : Bool} (h : p_spec_l08Is r_Table x  = some res) :
    Ret Try.prog 40 #[(Value.agg #[v_r_Table]), v_x] w (fun v w' => v = Value.bool res ∧ Ext w w') := by
  unfold p_spec_l08Is at h
  have hS0 : St w w [] := St.start w
  refine Ret.start (fn := Try.f40) Try.func40 rfl 57 rfl rfl ?_
  refine W.seq (W.region ?_)
  refine WL.box hS0 rfl (cs := [v_r_Table]) rfl rfl ?_
  intro b1 wd2 hS3 he4 hx5
  replace hS3 : St w wd2 [bx b1 [v_r_Table]] := hS3
  have hx6 := St.boxAt hS3 0 rfl
  have hE7 : Ext w wd2 := hS3.ext
  have hS8 : St wd2 wd2 [] := St.start wd2
  refine WL.val (Value.bool false) _ (op_assign rfl) rfl ?_
  refine WL.nil ?_
  refine W.seq (W.region ?_)
  refine WL.val (Value.pointer (some ⟨b1, 0, none⟩)) _ (op_fieldAddr fd_29_0 rfl) rfl ?_
  refine WL.val v_r_Table _ (op_load one_22 rfl (BoxAt.cell (BoxAt.lift hS8.ext hx6) rfl)) rfl ?_
  have hr9 := inR_len (Ty.lift _ (Ext.trans hE7 hS8.ext) r_r_Table)
  refine WL.val (Value.int .i64 ((r_Table).length : Int)) _ (op_lenL sl_22 (Ty.lift _ (Ext.trans hE7 hS8.ext) r_r_Table) rfl) rfl ?_
  refine WL.val (Value.int .i64 ((r_Table).length : Int)) _ (op_assign rfl) rfl ?_
  refine WL.nil ?_
  refine W.seq (W.seq (W.region ?_))
  refine WL.val v_x _ (op_move rfl) rfl ?_
  have hr10 := inR_len (Ty.lift _ (Ext.trans hE7 hS8.ext) r_x)
  refine WL.val (Value.int .i64 ((x).length : Int)) _ (op_lenL sl_25 (Ty.lift _ (Ext.trans hE7 hS8.ext) r_x) rfl) rfl ?_
  refine WL.val (Value.int .i64 ((r_Table).length : Int)) _ (op_move rfl) rfl ?_
  refine WL.val (Value.bool (((x).length : Int) != ((r_Table).length : Int))) _ (op_neq rfl rfl) rfl ?_
  refine WL.val (Value.bool (((x).length : Int) != ((r_Table).length : Int))) _ (op_move rfl) rfl ?_
  obtain ⟨x12, hj13, h⟩ := bs h
  refine WL.cut 4 (fun fq wq => fq 1 = v_x ∧ fq 2 = (Value.pointer (some ⟨b1, 0, none⟩)) ∧ fq 5 = (Value.int .i64 ((r_Table).length : Int)) ∧ fq 19 = Value.bool x12 ∧ St wd2 wq []) ?_ ?_
  · rcases Bool.eq_false_or_eq_true (((x).length : Int) != ((r_Table).length : Int)) with hc11 | hc11
    · replace hj13 := ip hj13 hc11
      refine WL.gskip rfl (bool_of rfl hc11) rfl ?_
      refine WL.gskip rfl (bool_of rfl hc11) rfl ?_
      refine WL.gskip rfl (bool_of rfl hc11) rfl ?_
      refine WL.val (Value.bool true) _ (op_pick_t (evb_of rfl hc11) rfl) rfl ?_
      refine WL.nil ?_
      obtain rfl := Option.some.inj hj13
      exact ⟨rfl, rfl, rfl, rfl, rfl, hS8⟩
    · replace hj13 := inegb hj13 hc11
      refine WL.grun rfl (bool_of rfl hc11) ?_
      refine WL.val v_x _ (op_move rfl) rfl ?_
      refine WL.grun rfl (bool_of rfl hc11) ?_
      obtain ⟨x17, hx18, hj13⟩ := bs hj13
      refine WL.call _ (op_call fn_39 (args1 rfl)) (c_spec_l01Numbers (Ty.lift _ (Ext.trans hE7 hS8.ext) r_x) hx18) rfl ?_
      rintro _ wd19 ⟨rfl, he20⟩
      have hS22 := St.extend hS8 he20
      replace hS22 : St wd2 wd19 [] := hS22
      refine WL.grun rfl (bool_of rfl hc11) ?_
      refine WL.val (Value.bool (!x17)) _ (op_not rfl) rfl ?_
      refine WL.val (Value.bool (!x17)) _ (op_pick_f (evb_of rfl hc11) rfl) rfl ?_
      refine WL.nil ?_
      obtain rfl := Option.some.inj hj13
      exact ⟨rfl, rfl, rfl, rfl, rfl, hS22⟩
  · intro f14 wd15 hq16
    obtain ⟨hf23, hf24, hf25, hf26, hS27⟩ := hq16
    refine WL.val (Value.bool x12) _ (op_move hf26) rfl ?_
    obtain ⟨x29, hj30, h⟩ := bs h
    refine WL.cut 5 (fun fq wq => fq 1 = v_x ∧ fq 2 = (Value.pointer (some ⟨b1, 0, none⟩)) ∧ fq 5 = (Value.int .i64 ((r_Table).length : Int)) ∧ fq 25 = Value.bool x29 ∧ St wd2 wq []) ?_ ?_
    · rcases Bool.eq_false_or_eq_true x12 with hc28 | hc28
      · replace hj30 := ip hj30 hc28
        refine WL.gskip rfl (bool_of rfl hc28) rfl ?_
        refine WL.gskip rfl (bool_of rfl hc28) rfl ?_
        refine WL.gskip rfl (bool_of rfl hc28) rfl ?_
        refine WL.gskip rfl (bool_of rfl hc28) rfl ?_
        refine WL.val (Value.bool true) _ (op_pick_t (evb_of rfl hc28) rfl) rfl ?_
        refine WL.nil ?_
        obtain rfl := Option.some.inj hj30
        exact ⟨rfl, hf23, hf24, hf25, rfl, hS27⟩
      · replace hj30 := inegb hj30 hc28
        refine WL.grun rfl (bool_of rfl hc28) ?_
        refine WL.val v_x _ (op_move hf23) rfl ?_
        refine WL.grun rfl (bool_of rfl hc28) ?_
        obtain ⟨x34, hx37, hj30⟩ := bs hj30
        obtain ⟨ha35, hb36, hx37⟩ := idx_some hx37
        refine WL.val (Value.pointer (some (elA v_x ((0 : Int)).toNat))) _ (op_idx sl_25 (Ty.lift _ (Ext.trans hE7 hS27.ext) r_x) rfl rfl ha35 hb36) rfl ?_
        refine WL.grun rfl (bool_of rfl hc28) ?_
        obtain ⟨u38, hc39, hr40⟩ := repSl.el r_x hx37
        obtain ⟨rfl, hr40⟩ := hr40
        refine WL.val (Value.int .i64 x34) _ (op_load one_2 rfl (Ext.cell (Ext.trans hE7 hS27.ext) hc39)) rfl ?_
        refine WL.grun rfl (bool_of rfl hc28) ?_
        refine WL.val (Value.bool (x34 != (1 : Int))) _ (op_neq rfl rfl) rfl ?_
        refine WL.val (Value.bool (x34 != (1 : Int))) _ (op_pick_f (evb_of rfl hc28) rfl) rfl ?_
        refine WL.nil ?_
        obtain rfl := Option.some.inj hj30
        exact ⟨rfl, hf23, hf24, hf25, rfl, hS27⟩
    · intro f31 wd32 hq33
      obtain ⟨hf41, hf42, hf43, hf44, hS45⟩ := hq33
      refine WL.nil ?_
      refine W.cond x29 hf44 (fun hc46 => ?_) (fun hc46 => ?_)
      · replace h := ip h hc46
        refine W.seq (W.region ?_)
        refine WL.val (Value.bool false) _ (op_assign rfl) rfl ?_
        refine WL.nil ?_
        refine W.ret ?_
        obtain rfl := Option.some.inj h
        show FinP _ _ _ _ _ _ _
        exact FinP.ret _ (res1 rfl rfl) ⟨rfl, (Ext.trans hE7 hS45.ext)⟩
      · replace h := inegb h hc46
        refine W.skip ?_
        refine W.seq (W.seq (W.region ?_))
        refine WL.val (Value.int .i64 (0 : Int)) _ (op_assign rfl) rfl ?_
        refine WL.nil ?_
        show W _ _ _ _ _ _
        obtain ⟨res48, hres49, h⟩ := bs h
        refine W.blockLoop (fun fq wq => ∃ s, res48 = Res.fin s ∧ St wd2 wq []) ?_ ?_
        · refine W.forN (fun k (s : Unit) fq wq => fq 1 = v_x ∧ fq 2 = (Value.pointer (some ⟨b1, 0, none⟩)) ∧ fq 5 = (Value.int .i64 ((r_Table).length : Int)) ∧ fq 6 = Value.int .i64 (k : Int) ∧ InR .i64 (k : Int) ∧ St wd2 wq []) hres49 ⟨hf41, hf42, hf43, rfl, (inL rfl), hS45⟩ ?_ ?_
          · intro k50 s372 ct51 f52 wd53 hk54 hb55 hI56 hbrk57 hret58
            obtain ⟨⟩ := s372
            replace hI56 : f52 1 = v_x ∧ f52 2 = (Value.pointer (some ⟨b1, 0, none⟩)) ∧ f52 5 = (Value.int .i64 ((r_Table).length : Int)) ∧ f52 6 = Value.int .i64 (k50 : Int) ∧ InR .i64 (k50 : Int) ∧ St wd2 wd53 [] := hI56
            replace hb55 : p_spec_l08Is_L1 x r_Table k50  = some ct51 := hb55
            unfold p_spec_l08Is_L1 at hb55
            obtain ⟨hf59, hf60, hf61, hf62, hr63, hS64⟩ := hI56
            refine W.seq (W.seq (W.region ?_))
            refine WL.val (Value.int .i64 (k50 : Int)) _ (op_move hf62) rfl ?_
            refine WL.val (Value.int .i64 ((r_Table).length : Int)) _ (op_move hf61) rfl ?_
            refine WL.val (Value.bool (decide ((k50 : Int) < ((r_Table).length : Int)))) _ (op_lss rfl rfl) rfl ?_
            have hl65 : (k50 : Int) < ((r_Table).length : Int) := by omega
            refine WL.nil ?_
            refine W.condT (decide ((k50 : Int) < ((r_Table).length : Int))) rfl (decide_eq_true hl65) ?_
            refine W.skip ?_
            refine W.seq ?_
            refine W.block ?_
            refine W.seq (W.region ?_)
            refine WL.val (Value.int .i64 (0 : Int)) _ (op_assign rfl) rfl ?_
            refine WL.nil ?_
            show W _ _ _ _ _ _
            obtain ⟨res67, hres68, hb55⟩ := bs hb55
            refine W.blockLoop (fun fq wq => ∃ s, res67 = Res.fin s ∧ fq 1 = v_x ∧ fq 2 = (Value.pointer (some ⟨b1, 0, none⟩)) ∧ fq 5 = (Value.int .i64 ((r_Table).length : Int)) ∧ fq 6 = (Value.int .i64 (k50 : Int)) ∧ St wd2 wq []) ?_ ?_
            · refine W.forN (fun k (s : Unit) fq wq => fq 1 = v_x ∧ fq 2 = (Value.pointer (some ⟨b1, 0, none⟩)) ∧ fq 5 = (Value.int .i64 ((r_Table).length : Int)) ∧ fq 6 = (Value.int .i64 (k50 : Int)) ∧ fq 7 = Value.int .i64 (k : Int) ∧ InR .i64 (k : Int) ∧ St wd2 wq []) hres68 ⟨hf59, hf60, hf61, hf62, rfl, (inL rfl), hS64⟩ ?_ ?_
              · intro k69 s348 ct70 f71 wd72 hk73 hb74 hI75 hbrk76 hret77
                obtain ⟨⟩ := s348
                replace hI75 : f71 1 = v_x ∧ f71 2 = (Value.pointer (some ⟨b1, 0, none⟩)) ∧ f71 5 = (Value.int .i64 ((r_Table).length : Int)) ∧ f71 6 = (Value.int .i64 (k50 : Int)) ∧ f71 7 = Value.int .i64 (k69 : Int) ∧ InR .i64 (k69 : Int) ∧ St wd2 wd72 [] := hI75
                replace hb74 : p_spec_l08Is_L2 x k50 r_Table k69  = some ct70 := hb74
                unfold p_spec_l08Is_L2 at hb74
                obtain ⟨hf78, hf79, hf80, hf81, hf82, hr83, hS84⟩ := hI75
                refine W.seq (W.seq (W.region ?_))
                refine WL.val (Value.int .i64 (k69 : Int)) _ (op_move hf82) rfl ?_
                refine WL.val (Value.int .i64 ((r_Table).length : Int)) _ (op_move hf80) rfl ?_
                refine WL.val (Value.bool (decide ((k69 : Int) < ((r_Table).length : Int)))) _ (op_lss rfl rfl) rfl ?_
                have hl85 : (k69 : Int) < ((r_Table).length : Int) := by omega
                refine WL.nil ?_
                refine W.condT (decide ((k69 : Int) < ((r_Table).length : Int))) rfl (decide_eq_true hl85) ?_
                refine W.skip ?_
                refine W.seq ?_
                refine W.block ?_
                refine W.seq ?_
                obtain ⟨x116, hx119, hb74⟩ := bs hb74
                obtain ⟨ha117, hb118, hx119⟩ := idx_some hx119
                obtain ⟨u130, hc131, hr132⟩ := repSl.el r_x hx119
                obtain ⟨rfl, hr132⟩ := hr132
                obtain ⟨x162, hx165, hb74⟩ := bs hb74
                obtain ⟨ha163, hb164, hx165⟩ := idx_some hx165
                obtain ⟨u176, hc177, hr178⟩ := repSl.el r_x hx165
                obtain ⟨rfl, hr178⟩ := hr178
                obtain ⟨x245, hx248, hb74⟩ := bs hb74
                obtain ⟨ha246, hb247, hx248⟩ := idx_some hx248
                obtain ⟨u259, hc260, hr261⟩ := repSl.el r_r_Table hx248
                obtain ⟨x284, hx287, hb74⟩ := bs hb74
                obtain ⟨ha285, hb286, hx287⟩ := idx_some hx287
                obtain ⟨u298, hc299, hr300⟩ := repSl.el hr261 hx287
                obtain ⟨x322, hx323, hb74⟩ := bs hb74
                refine W.drawR mixo 20 [] [fun _ v _ _ => v = v_x, fun _ v _ _ => v = (Value.int .i64 (k50 : Int)) ∧ InR .i64 (k50 : Int), fun _ v _ _ => v = (Value.pointer (some (elA v_x ((k50 : Int)).toNat))), fun _ v _ _ => v = (Value.int .i64 x116) ∧ InR .i64 x116, fun _ v _ _ => v = v_x, fun _ v _ _ => v = (Value.int .i64 (k69 : Int)) ∧ InR .i64 (k69 : Int), fun _ v _ _ => v = (Value.pointer (some (elA v_x ((k69 : Int)).toNat))), fun _ v _ _ => v = (Value.int .i64 x162) ∧ InR .i64 x162, fun _ v _ _ => v = (Value.int .i64 (w64 (x116 * x162))) ∧ InR .i64 (w64 (x116 * x162)), fun _ v _ _ => v = (Value.int .i64 (((w64 (x116 * x162))).tmod (55441 : Int))) ∧ InR .i64 (((w64 (x116 * x162))).tmod (55441 : Int)), fun _ v _ _ => v = (Value.pointer (some ⟨b1, 0, none⟩)), fun _ v _ _ => v = v_r_Table, fun _ v _ _ => v = (Value.int .i64 (k50 : Int)) ∧ InR .i64 (k50 : Int), fun _ v _ _ => v = (Value.pointer (some (elA v_r_Table ((k50 : Int)).toNat))), fun _ v _ _ => v = u259, fun _ v _ _ => v = (Value.int .i64 (k69 : Int)) ∧ InR .i64 (k69 : Int), fun _ v _ _ => v = (Value.pointer (some (elA u259 ((k69 : Int)).toNat))), fun _ v _ _ => v = u298, fun _ v _ _ => v = v_x, fun _ v _ _ => v = (Value.int .i64 x322) ∧ InR .i64 x322] (by kernel_rfl) (by kernel_rfl) ⟨pk, pk, pk, pk, pk, pk, pk, pk, pk, pk, pk, pk, pk, pk, pk, pk, pk, pk, pk, pk, trivial⟩ ⟨?_, ?_, ?_, ?_, ?_, ?_, ?_, ?_, ?_, ?_, ?_, ?_, ?_, ?_, ?_, ?_, ?_, ?_, ?_, ?_, trivial⟩ ?_
                · refine ObX.op rfl fun f87 wd88 he89 hout90 hphi91 => ?_
                  have e93 : f87 1 = v_x := (hout90 1 rfl).trans hf78
                  exact OpX.val v_x wd88 rfl (op_move e93) (Ext.refl _) rfl
                · refine ObX.op rfl fun f94 wd95 he96 hout97 hphi98 => ?_
                  have e100 : f94 6 = (Value.int .i64 (k50 : Int)) := (hout97 6 rfl).trans hf81
                  exact OpX.val (Value.int .i64 (k50 : Int)) wd95 rfl (op_move e100) (Ext.refl _) ⟨rfl, hr63⟩
                · refine ObX.op rfl fun f101 wd102 he103 hout104 hphi105 => ?_
                  have hS106 := St.extend hS84 he103
                  obtain ⟨S107, hS108, hf109⟩ := hphi105 0 36 _ rfl rfl rfl
                  have e110 : f101 36 = v_x := hf109
                  obtain ⟨S111, hS112, hf113⟩ := hphi105 1 37 _ rfl rfl rfl
                  obtain ⟨e114, hr115⟩ := hf113
                  exact OpX.val (Value.pointer (some (elA v_x ((k50 : Int)).toNat))) wd102 rfl (op_idx sl_25 (Ty.lift _ (Ext.trans hE7 hS106.ext) r_x) e110 e114 ha117 hb118) (Ext.refl _) rfl
                · refine ObX.op rfl fun f120 wd121 he122 hout123 hphi124 => ?_
                  have hS125 := St.extend hS84 he122
                  obtain ⟨S126, hS127, hf128⟩ := hphi124 2 38 _ rfl rfl rfl
                  have e129 : f120 38 = (Value.pointer (some (elA v_x ((k50 : Int)).toNat))) := hf128
                  exact OpX.val (Value.int .i64 x116) wd121 rfl (op_load one_2 e129 (Ext.cell (Ext.trans hE7 hS125.ext) hc131)) (Ext.refl _) ⟨rfl, hr132⟩
                · refine ObX.op rfl fun f133 wd134 he135 hout136 hphi137 => ?_
                  have e139 : f133 1 = v_x := (hout136 1 rfl).trans hf78
                  exact OpX.val v_x wd134 rfl (op_move e139) (Ext.refl _) rfl
                · refine ObX.op rfl fun f140 wd141 he142 hout143 hphi144 => ?_
                  have e146 : f140 7 = (Value.int .i64 (k69 : Int)) := (hout143 7 rfl).trans hf82
                  exact OpX.val (Value.int .i64 (k69 : Int)) wd141 rfl (op_move e146) (Ext.refl _) ⟨rfl, hr83⟩
                · refine ObX.op rfl fun f147 wd148 he149 hout150 hphi151 => ?_
                  have hS152 := St.extend hS84 he149
                  obtain ⟨S153, hS154, hf155⟩ := hphi151 4 40 _ rfl rfl rfl
                  have e156 : f147 40 = v_x := hf155
                  obtain ⟨S157, hS158, hf159⟩ := hphi151 5 41 _ rfl rfl rfl
                  obtain ⟨e160, hr161⟩ := hf159
                  exact OpX.val (Value.pointer (some (elA v_x ((k69 : Int)).toNat))) wd148 rfl (op_idx sl_25 (Ty.lift _ (Ext.trans hE7 hS152.ext) r_x) e156 e160 ha163 hb164) (Ext.refl _) rfl
                · refine ObX.op rfl fun f166 wd167 he168 hout169 hphi170 => ?_
                  have hS171 := St.extend hS84 he168
                  obtain ⟨S172, hS173, hf174⟩ := hphi170 6 42 _ rfl rfl rfl
                  have e175 : f166 42 = (Value.pointer (some (elA v_x ((k69 : Int)).toNat))) := hf174
                  exact OpX.val (Value.int .i64 x162) wd167 rfl (op_load one_2 e175 (Ext.cell (Ext.trans hE7 hS171.ext) hc177)) (Ext.refl _) ⟨rfl, hr178⟩
                · refine ObX.op rfl fun f179 wd180 he181 hout182 hphi183 => ?_
                  obtain ⟨S185, hS186, hf187⟩ := hphi183 3 39 _ rfl rfl rfl
                  obtain ⟨e188, hr189⟩ := hf187
                  obtain ⟨S190, hS191, hf192⟩ := hphi183 7 43 _ rfl rfl rfl
                  obtain ⟨e193, hr194⟩ := hf192
                  exact OpX.val (Value.int .i64 (w64 (x116 * x162))) wd180 rfl (op_mul e188 e193) (Ext.refl _) ⟨rfl, (inR_wrap _ _)⟩
                · refine ObX.op rfl fun f195 wd196 he197 hout198 hphi199 => ?_
                  obtain ⟨S201, hS202, hf203⟩ := hphi199 8 44 _ rfl rfl rfl
                  obtain ⟨e204, hr205⟩ := hf203
                  exact OpX.val (Value.int .i64 (((w64 (x116 * x162))).tmod (55441 : Int))) wd196 rfl (op_rem (b := 55441) e204 rfl (by decide)) (Ext.refl _) ⟨rfl, (inR_tmod hr205)⟩
                · refine ObX.op rfl fun f206 wd207 he208 hout209 hphi210 => ?_
                  have e212 : f206 2 = (Value.pointer (some ⟨b1, 0, none⟩)) := (hout209 2 rfl).trans hf79
                  exact OpX.val (Value.pointer (some ⟨b1, 0, none⟩)) wd207 rfl (op_fieldAddr fd_29_0 e212) (Ext.refl _) rfl
                · refine ObX.op rfl fun f213 wd214 he215 hout216 hphi217 => ?_
                  have hS218 := St.extend hS84 he215
                  obtain ⟨S219, hS220, hf221⟩ := hphi217 10 46 _ rfl rfl rfl
                  have e222 : f213 46 = (Value.pointer (some ⟨b1, 0, none⟩)) := hf221
                  exact OpX.val v_r_Table wd214 rfl (op_load one_22 e222 (BoxAt.cell (BoxAt.lift hS218.ext hx6) rfl)) (Ext.refl _) rfl
                · refine ObX.op rfl fun f223 wd224 he225 hout226 hphi227 => ?_
                  have e229 : f223 6 = (Value.int .i64 (k50 : Int)) := (hout226 6 rfl).trans hf81
                  exact OpX.val (Value.int .i64 (k50 : Int)) wd224 rfl (op_move e229) (Ext.refl _) ⟨rfl, hr63⟩
                · refine ObX.op rfl fun f230 wd231 he232 hout233 hphi234 => ?_
                  have hS235 := St.extend hS84 he232
                  obtain ⟨S236, hS237, hf238⟩ := hphi234 11 47 _ rfl rfl rfl
                  have e239 : f230 47 = v_r_Table := hf238
                  obtain ⟨S240, hS241, hf242⟩ := hphi234 12 48 _ rfl rfl rfl
                  obtain ⟨e243, hr244⟩ := hf242
                  exact OpX.val (Value.pointer (some (elA v_r_Table ((k50 : Int)).toNat))) wd231 rfl (op_idx sl_22 (Ty.lift _ (Ext.trans hE7 hS235.ext) r_r_Table) e239 e243 ha246 hb247) (Ext.refl _) rfl
                · refine ObX.op rfl fun f249 wd250 he251 hout252 hphi253 => ?_
                  have hS254 := St.extend hS84 he251
                  obtain ⟨S255, hS256, hf257⟩ := hphi253 13 49 _ rfl rfl rfl
                  have e258 : f249 49 = (Value.pointer (some (elA v_r_Table ((k50 : Int)).toNat))) := hf257
                  exact OpX.val u259 wd250 rfl (op_load one_46 e258 (Ext.cell (Ext.trans hE7 hS254.ext) hc260)) (Ext.refl _) rfl
                · refine ObX.op rfl fun f262 wd263 he264 hout265 hphi266 => ?_
                  have e268 : f262 7 = (Value.int .i64 (k69 : Int)) := (hout265 7 rfl).trans hf82
                  exact OpX.val (Value.int .i64 (k69 : Int)) wd263 rfl (op_move e268) (Ext.refl _) ⟨rfl, hr83⟩
                · refine ObX.op rfl fun f269 wd270 he271 hout272 hphi273 => ?_
                  have hS274 := St.extend hS84 he271
                  obtain ⟨S275, hS276, hf277⟩ := hphi273 14 50 _ rfl rfl rfl
                  have e278 : f269 50 = u259 := hf277
                  obtain ⟨S279, hS280, hf281⟩ := hphi273 15 51 _ rfl rfl rfl
                  obtain ⟨e282, hr283⟩ := hf281
                  exact OpX.val (Value.pointer (some (elA u259 ((k69 : Int)).toNat))) wd270 rfl (op_idx sl_46 (Ty.lift _ (Ext.trans hE7 hS274.ext) hr261) e278 e282 ha285 hb286) (Ext.refl _) rfl
                · refine ObX.op rfl fun f288 wd289 he290 hout291 hphi292 => ?_
                  have hS293 := St.extend hS84 he290
                  obtain ⟨S294, hS295, hf296⟩ := hphi292 16 52 _ rfl rfl rfl
                  have e297 : f288 52 = (Value.pointer (some (elA u259 ((k69 : Int)).toNat))) := hf296
                  exact OpX.val u298 wd289 rfl (op_load one_25 e297 (Ext.cell (Ext.trans hE7 hS293.ext) hc299)) (Ext.refl _) rfl
                · refine ObX.op rfl fun f301 wd302 he303 hout304 hphi305 => ?_
                  have e307 : f301 1 = v_x := (hout304 1 rfl).trans hf78
                  exact OpX.val v_x wd302 rfl (op_move e307) (Ext.refl _) rfl
                · refine ObX.op rfl fun f308 wd309 he310 hout311 hphi312 => ?_
                  have hS313 := St.extend hS84 he310
                  obtain ⟨S314, hS315, hf316⟩ := hphi312 17 53 _ rfl rfl rfl
                  have e317 : f308 53 = u298 := hf316
                  obtain ⟨S318, hS319, hf320⟩ := hphi312 18 54 _ rfl rfl rfl
                  have e321 : f308 54 = v_x := hf320
                  refine OpX.call rfl (op_call fn_25 (args2 e317 e321)) (Ret.mono (c_spec_l01Dot (Ty.lift _ (Ext.trans hE7 hS313.ext) hr300) (Ty.lift _ (Ext.trans hE7 hS313.ext) r_x) hx323) ?_)
                  rintro _ wd325 ⟨rfl, hr324, he326⟩
                  exact ⟨he326, _, noS _ _, ⟨rfl, hr324⟩⟩
                · intro f328 wd329 Ss330 he331 hout332 hSn333 hSd334 hphi335
                  show WL _ _ _ _ _ _ _
                  have hS336 := St.extend hS84 he331
                  obtain ⟨e337, hr338⟩ := hphi335 9 45 _ (by decide) rfl rfl
                  obtain ⟨e339, hr340⟩ := hphi335 19 55 _ (by decide) rfl rfl
                  have e341 : f328 1 = v_x := (hout332 1 rfl).trans hf78
                  have e342 : f328 2 = (Value.pointer (some ⟨b1, 0, none⟩)) := (hout332 2 rfl).trans hf79
                  have e343 : f328 5 = (Value.int .i64 ((r_Table).length : Int)) := (hout332 5 rfl).trans hf80
                  have e344 : f328 6 = (Value.int .i64 (k50 : Int)) := (hout332 6 rfl).trans hf81
                  have e345 : f328 7 = (Value.int .i64 (k69 : Int)) := (hout332 7 rfl).trans hf82
                  refine WL.val (Value.bool ((((w64 (x116 * x162))).tmod (55441 : Int)) != x322)) _ (op_neq e337 e339) rfl ?_
                  refine WL.nil ?_
                  refine W.cond ((((w64 (x116 * x162))).tmod (55441 : Int)) != x322) rfl (fun hc346 => ?_) (fun hc346 => ?_)
                  · replace hb74 := ip hb74 hc346
                    refine W.seq (W.region ?_)
                    refine WL.val (Value.bool false) _ (op_assign rfl) rfl ?_
                    refine WL.nil ?_
                    refine W.ret ?_
                    obtain rfl := Option.some.inj hb74
                    obtain rfl := hret77 _ rfl
                    replace hb55 := onRes_ret hb55
                    obtain rfl := Option.some.inj hb55
                    obtain rfl := hret58 _ rfl
                    replace h := onRes_ret h
                    obtain rfl := Option.some.inj h
                    show FinP _ _ _ _ _ _ _
                    exact FinP.ret _ (res1 rfl rfl) ⟨rfl, (Ext.trans hE7 hS336.ext)⟩
                  · replace hb74 := inegb hb74 hc346
                    refine W.skip ?_
                    show W _ _ _ _ _ _
                    refine W.region ?_
                    refine WL.val (Value.int .i64 (k69 : Int)) _ (op_move e345) rfl ?_
                    refine WL.val (Value.int .i64 (w64 ((k69 : Int) + (1 : Int)))) _ (op_add rfl rfl) rfl ?_
                    refine WL.val (Value.int .i64 (w64 ((k69 : Int) + (1 : Int)))) _ (op_assign rfl) rfl ?_
                    refine WL.nil ?_
                    obtain rfl := Option.some.inj hb74
                    show ∃ s, _ = Ctl.next s ∧ _
                    exact ⟨_, rfl, e341, e342, e343, e344, (ctr_next hl85 hr9), (ctr_rng hl85 hr9), hS336⟩
              · intro s353 f349 wd350 hs351 hI352
                obtain ⟨⟩ := s353
                replace hI352 : f349 1 = v_x ∧ f349 2 = (Value.pointer (some ⟨b1, 0, none⟩)) ∧ f349 5 = (Value.int .i64 ((r_Table).length : Int)) ∧ f349 6 = (Value.int .i64 (k50 : Int)) ∧ f349 7 = Value.int .i64 (((r_Table).length : Nat) : Int) ∧ InR .i64 (((r_Table).length : Nat) : Int) ∧ St wd2 wd350 [] := hI352
                obtain ⟨hf354, hf355, hf356, hf357, hf358, hr359, hS360⟩ := hI352
                refine W.seq (W.seq (W.region ?_))
                refine WL.val (Value.int .i64 (((r_Table).length : Nat) : Int)) _ (op_move hf358) rfl ?_
                refine WL.val (Value.int .i64 ((r_Table).length : Int)) _ (op_move hf356) rfl ?_
                refine WL.val (Value.bool (decide ((((r_Table).length : Nat) : Int) < ((r_Table).length : Int)))) _ (op_lss rfl rfl) rfl ?_
                have hl361 : ¬ (((r_Table).length : Nat) : Int) < ((r_Table).length : Int) := by omega
                refine WL.nil ?_
                refine W.condF (decide ((((r_Table).length : Nat) : Int) < ((r_Table).length : Int))) rfl (decide_eq_false hl361) ?_
                refine W.exit ?_
                show _ = _ ∧ _
                exact ⟨rfl, _, hs351, hf354, hf355, hf356, hf357, hS360⟩
            · rintro f362 wd363 ⟨s365, rfl, hq364⟩
              replace hb55 := onRes_fin hb55
              obtain ⟨⟩ := s365
              replace hq364 : f362 1 = v_x ∧ f362 2 = (Value.pointer (some ⟨b1, 0, none⟩)) ∧ f362 5 = (Value.int .i64 ((r_Table).length : Int)) ∧ f362 6 = (Value.int .i64 (k50 : Int)) ∧ St wd2 wd363 [] := hq364
              obtain ⟨hf366, hf367, hf368, hf369, hS370⟩ := hq364
              show W _ _ _ _ _ _
              refine W.region ?_
              refine WL.val (Value.int .i64 (k50 : Int)) _ (op_move hf369) rfl ?_
              refine WL.val (Value.int .i64 (w64 ((k50 : Int) + (1 : Int)))) _ (op_add rfl rfl) rfl ?_
              refine WL.val (Value.int .i64 (w64 ((k50 : Int) + (1 : Int)))) _ (op_assign rfl) rfl ?_
              refine WL.nil ?_
              obtain rfl := Option.some.inj hb55
              show ∃ s, _ = Ctl.next s ∧ _
              exact ⟨_, rfl, hf366, hf367, hf368, (ctr_next hl65 hr9), (ctr_rng hl65 hr9), hS370⟩
          · intro s377 f373 wd374 hs375 hI376
            obtain ⟨⟩ := s377
            replace hI376 : f373 1 = v_x ∧ f373 2 = (Value.pointer (some ⟨b1, 0, none⟩)) ∧ f373 5 = (Value.int .i64 ((r_Table).length : Int)) ∧ f373 6 = Value.int .i64 (((r_Table).length : Nat) : Int) ∧ InR .i64 (((r_Table).length : Nat) : Int) ∧ St wd2 wd374 [] := hI376
            obtain ⟨hf378, hf379, hf380, hf381, hr382, hS383⟩ := hI376
            refine W.seq (W.seq (W.region ?_))
            refine WL.val (Value.int .i64 (((r_Table).length : Nat) : Int)) _ (op_move hf381) rfl ?_
            refine WL.val (Value.int .i64 ((r_Table).length : Int)) _ (op_move hf380) rfl ?_
            refine WL.val (Value.bool (decide ((((r_Table).length : Nat) : Int) < ((r_Table).length : Int)))) _ (op_lss rfl rfl) rfl ?_
            have hl384 : ¬ (((r_Table).length : Nat) : Int) < ((r_Table).length : Int) := by omega
            refine WL.nil ?_
            refine W.condF (decide ((((r_Table).length : Nat) : Int) < ((r_Table).length : Int))) rfl (decide_eq_false hl384) ?_
            refine W.exit ?_
            show _ = _ ∧ _
            exact ⟨rfl, _, hs375, hS383⟩
        · rintro f385 wd386 ⟨s388, rfl, hq387⟩
          replace h := onRes_fin h
          obtain ⟨⟩ := s388
          replace hq387 : St wd2 wd386 [] := hq387
          have hS389 := hq387
          refine W.seq (W.region ?_)
          refine WL.val (Value.bool true) _ (op_assign rfl) rfl ?_
          refine WL.nil ?_
          refine W.ret ?_
          obtain rfl := Option.some.inj h
          show FinP _ _ _ _ _ _ _
          exact FinP.ret _ (res1 rfl rfl) ⟨rfl, (Ext.trans hE7 hS389.ext)⟩

theorem c_spec_l08List {w : World} {r_Table : (List (List (List Int)))} {v_r_Table : Value} {good : Bool} {list : (List (List Int))} {v_list : Value} (r_r_Table : (Ty.sl (Ty.sl (Ty.sl (Ty.i .i64)))).rep w v_r_Table r_Table) (r_list : (Ty.sl (Ty.sl (Ty.i .i64))).rep w v_list list) {res : Int} (h : p_spec_l08List r_Table good list  = some res) :
    Ret Try.prog 24 #[(Value.agg #[v_r_Table]), (Value.bool good), v_list] w (fun v w' => v = Value.int .i64 res ∧ InR .i64 res ∧ Ext w w') := by
  unfold p_spec_l08List at h
  have hS0 : St w w [] := St.start w
  refine Ret.start (fn := Try.f24) Try.func24 rfl 51 rfl rfl ?_
  refine W.seq (W.region ?_)
  refine WL.box hS0 rfl (cs := [v_r_Table]) rfl rfl ?_
  intro b1 wd2 hS3 he4 hx5
  replace hS3 : St w wd2 [bx b1 [v_r_Table]] := hS3
  have hx6 := St.boxAt hS3 0 rfl
  have hE7 : Ext w wd2 := hS3.ext
  have hS8 : St wd2 wd2 [] := St.start wd2
  refine WL.val (Value.int .i64 (0 : Int)) _ (op_assign rfl) rfl ?_
  refine WL.nil ?_
  refine W.seq (W.region ?_)
  refine WL.val (Value.agg #[v_r_Table]) _ (op_loadBox st_29 rfl (BoxAt.lift hS8.ext hx6) rfl rfl) rfl ?_
  obtain ⟨x9, hx10, h⟩ := bs h
  refine WL.call _ (op_call fn_38 (args1 rfl)) (c_spec_l08Code (Ty.lift _ (Ext.trans hE7 hS8.ext) r_r_Table) hx10) rfl ?_
  rintro _ wd12 ⟨rfl, hr11, he13⟩
  have hS15 := St.extend hS8 he13
  replace hS15 : St wd2 wd12 [] := hS15
  refine WL.val (Value.int .i64 x9) _ (op_assign rfl) rfl ?_
  refine WL.nil ?_
  refine W.seq (W.seq (W.region ?_))
  refine WL.val (Value.int .i64 (0 : Int)) _ (op_assign rfl) rfl ?_
  refine WL.nil ?_
  show W _ _ _ _ _ _
  obtain ⟨res16, hres17, h⟩ := bs h
  refine W.blockLoop (fun fq wq => ∃ s, res16 = Res.fin s ∧ fq 7 = Value.int .i64 s.1 ∧ InR .i64 s.1 ∧ St wd2 wq []) ?_ ?_
  · refine W.whileC (fun (s : Int × Int) fq wq => fq 1 = (Value.bool good) ∧ fq 2 = v_list ∧ fq 3 = (Value.pointer (some ⟨b1, 0, none⟩)) ∧ fq 7 = Value.int .i64 s.1 ∧ InR .i64 s.1 ∧ fq 8 = Value.int .i64 s.2 ∧ InR .i64 s.2 ∧ St wd2 wq []) hres17 ⟨rfl, rfl, rfl, rfl, hr11, rfl, (inL rfl), hS15⟩ ?_
    intro s974 ct21 f22 wd23 hb25 hI26 hbrk27 hret28
    obtain ⟨x19, x20⟩ := s974
    replace hI26 : f22 1 = (Value.bool good) ∧ f22 2 = v_list ∧ f22 3 = (Value.pointer (some ⟨b1, 0, none⟩)) ∧ f22 7 = Value.int .i64 x19 ∧ InR .i64 x19 ∧ f22 8 = Value.int .i64 x20 ∧ InR .i64 x20 ∧ St wd2 wd23 [] := hI26
    replace hb25 : p_spec_l08List_L1 list r_Table good  x19 x20 = some ct21 := hb25
    unfold p_spec_l08List_L1 at hb25
    obtain ⟨hf29, hf30, hf31, hf32, hr33, hf34, hr35, hS36⟩ := hI26
    refine W.seq (W.seq (W.region ?_))
    refine WL.val (Value.int .i64 x20) _ (op_move hf34) rfl ?_
    refine WL.val v_list _ (op_move hf30) rfl ?_
    have hr37 := inR_len (Ty.lift _ (Ext.trans hE7 hS36.ext) r_list)
    refine WL.val (Value.int .i64 ((list).length : Int)) _ (op_lenL sl_46 (Ty.lift _ (Ext.trans hE7 hS36.ext) r_list) rfl) rfl ?_
    refine WL.val (Value.bool (decide (x20 < ((list).length : Int)))) _ (op_lss rfl rfl) rfl ?_
    refine WL.val (Value.bool (decide (x20 < ((list).length : Int)))) _ (op_move rfl) rfl ?_
    refine WL.cut 3 (fun fq wq => fq 1 = (Value.bool good) ∧ fq 2 = v_list ∧ fq 3 = (Value.pointer (some ⟨b1, 0, none⟩)) ∧ fq 7 = (Value.int .i64 x19) ∧ fq 8 = (Value.int .i64 x20) ∧ fq 18 = (Value.bool ((decide (x20 < ((list).length : Int))) && (x19 == (0 : Int)))) ∧ St wd2 wq []) ?_ ?_
    · rcases Bool.eq_false_or_eq_true (decide (x20 < ((list).length : Int))) with hc38 | hc38
      · refine WL.grun rfl (bool_of rfl hc38) ?_
        refine WL.val (Value.int .i64 x19) _ (op_move hf32) rfl ?_
        refine WL.grun rfl (bool_of rfl hc38) ?_
        refine WL.val (Value.bool (x19 == (0 : Int))) _ (op_eql rfl rfl) rfl ?_
        refine WL.val (Value.bool (x19 == (0 : Int))) _ (op_pick_t (evb_of rfl hc38) rfl) rfl ?_
        refine WL.nil ?_
        exact ⟨rfl, hf29, hf30, hf31, hf32, hf34, (andT hc38), hS36⟩
      · refine WL.gskip rfl (bool_of rfl hc38) rfl ?_
        refine WL.gskip rfl (bool_of rfl hc38) rfl ?_
        refine WL.val (Value.bool false) _ (op_pick_f (evb_of rfl hc38) rfl) rfl ?_
        refine WL.nil ?_
        exact ⟨rfl, hf29, hf30, hf31, hf32, hf34, (andF hc38), hS36⟩
    · intro f39 wd40 hq41
      obtain ⟨hf42, hf43, hf44, hf45, hf46, hf47, hS48⟩ := hq41
      refine WL.nil ?_
      refine W.cond ((decide (x20 < ((list).length : Int))) && (x19 == (0 : Int))) hf47 (fun hc49 => ?_) (fun hc49 => ?_)
      · replace hb25 := ip hb25 hc49
        refine W.skip ?_
        refine W.seq ?_
        refine W.block ?_
        refine W.seq ?_
        obtain ⟨x51, hj52, hb25⟩ := bs hb25
        refine W.cutCode (fun fq wq => fq 1 = (Value.bool good) ∧ fq 2 = v_list ∧ fq 3 = (Value.pointer (some ⟨b1, 0, none⟩)) ∧ fq 7 = (Value.int .i64 x19) ∧ fq 8 = (Value.int .i64 x20) ∧ fq 49 = Value.bool x51 ∧ St wd2 wq []) ?_ ?_
        · obtain ⟨x82, hx85, hj52⟩ := bs hj52
          obtain ⟨ha83, hb84, hx85⟩ := idx_some hx85
          obtain ⟨u96, hc97, hr98⟩ := repSl.el r_list hx85
          rcases Bool.eq_false_or_eq_true (((x82).length : Int) != ((r_Table).length : Int)) with hc164 | hc164
          · replace hj52 := ip hj52 hc164
            rcases Bool.eq_false_or_eq_true true with hc243 | hc243
            · replace hj52 := ip hj52 hc243
              refine W.drawR mixo 25 [] [fun _ v _ _ => v = v_list, fun _ v _ _ => v = (Value.int .i64 x20) ∧ InR .i64 x20, fun _ v _ _ => v = (Value.pointer (some (elA v_list (x20).toNat))), fun _ v _ _ => v = u96, fun _ v _ _ => v = (Value.int .i64 ((x82).length : Int)) ∧ InR .i64 ((x82).length : Int), fun _ v _ _ => v = (Value.pointer (some ⟨b1, 0, none⟩)), fun _ v _ _ => v = v_r_Table, fun _ v _ _ => v = (Value.int .i64 ((r_Table).length : Int)) ∧ InR .i64 ((r_Table).length : Int), fun _ v _ _ => v = (Value.bool (((x82).length : Int) != ((r_Table).length : Int))), fun _ v _ _ => v = (Value.bool (((x82).length : Int) != ((r_Table).length : Int))), fun _ v _ _ => v = undef, fun _ v _ _ => v = undef, fun _ v _ _ => v = undef, fun _ v _ _ => v = undef, fun _ v _ _ => v = undef, fun _ v _ _ => v = undef, fun _ v _ _ => v = (Value.bool true), fun _ v _ _ => v = (Value.bool true), fun _ v _ _ => v = undef, fun _ v _ _ => v = undef, fun _ v _ _ => v = undef, fun _ v _ _ => v = undef, fun _ v _ _ => v = undef, fun _ v _ _ => v = undef, fun _ v _ _ => v = undef] (by kernel_rfl) (by kernel_rfl) ⟨pk, pk, pk, pk, pk, pk, pk, pk, pk, pk, pk, pk, pk, pk, pk, pk, pk, pk, pk, pk, pk, pk, pk, pk, pk, trivial⟩ ⟨?_, ?_, ?_, ?_, ?_, ?_, ?_, ?_, ?_, ?_, ?_, ?_, ?_, ?_, ?_, ?_, ?_, ?_, ?_, ?_, ?_, ?_, ?_, ?_, ?_, trivial⟩ ?_
              · refine ObX.op rfl fun f53 wd54 he55 hout56 hphi57 => ?_
                have hS58 := St.extend hS48 he55
                have e59 : f53 2 = v_list := (hout56 2 rfl).trans hf43
                exact OpX.val v_list wd54 rfl (op_move e59) (Ext.refl _) rfl
              · refine ObX.op rfl fun f60 wd61 he62 hout63 hphi64 => ?_
                have hS65 := St.extend hS48 he62
                have e66 : f60 8 = (Value.int .i64 x20) := (hout63 8 rfl).trans hf46
                exact OpX.val (Value.int .i64 x20) wd61 rfl (op_move e66) (Ext.refl _) ⟨rfl, hr35⟩
              · refine ObX.op rfl fun f67 wd68 he69 hout70 hphi71 => ?_
                have hS72 := St.extend hS48 he69
                obtain ⟨S73, hS74, hf75⟩ := hphi71 0 21 _ rfl rfl rfl
                have e76 : f67 21 = v_list := hf75
                obtain ⟨S77, hS78, hf79⟩ := hphi71 1 22 _ rfl rfl rfl
                obtain ⟨e80, hr81⟩ := hf79
                exact OpX.val (Value.pointer (some (elA v_list (x20).toNat))) wd68 rfl (op_idx sl_46 (Ty.lift _ (Ext.trans hE7 hS72.ext) r_list) e76 e80 ha83 hb84) (Ext.refl _) rfl
              · refine ObX.op rfl fun f86 wd87 he88 hout89 hphi90 => ?_
                have hS91 := St.extend hS48 he88
                obtain ⟨S92, hS93, hf94⟩ := hphi90 2 23 _ rfl rfl rfl
                have e95 : f86 23 = (Value.pointer (some (elA v_list (x20).toNat))) := hf94
                exact OpX.val u96 wd87 rfl (op_load one_25 e95 (Ext.cell (Ext.trans hE7 hS91.ext) hc97)) (Ext.refl _) rfl
              · refine ObX.op rfl fun f99 wd100 he101 hout102 hphi103 => ?_
                have hS104 := St.extend hS48 he101
                obtain ⟨S105, hS106, hf107⟩ := hphi103 3 24 _ rfl rfl rfl
                have e108 : f99 24 = u96 := hf107
                have hr109 := inR_len (Ty.lift _ (Ext.trans hE7 hS104.ext) hr98)
                exact OpX.val (Value.int .i64 ((x82).length : Int)) wd100 rfl (op_lenL sl_25 (Ty.lift _ (Ext.trans hE7 hS104.ext) hr98) e108) (Ext.refl _) ⟨rfl, hr109⟩
              · refine ObX.op rfl fun f110 wd111 he112 hout113 hphi114 => ?_
                have hS115 := St.extend hS48 he112
                have e116 : f110 3 = (Value.pointer (some ⟨b1, 0, none⟩)) := (hout113 3 rfl).trans hf44
                exact OpX.val (Value.pointer (some ⟨b1, 0, none⟩)) wd111 rfl (op_fieldAddr fd_29_0 e116) (Ext.refl _) rfl
              · refine ObX.op rfl fun f117 wd118 he119 hout120 hphi121 => ?_
                have hS122 := St.extend hS48 he119
                obtain ⟨S123, hS124, hf125⟩ := hphi121 5 26 _ rfl rfl rfl
                have e126 : f117 26 = (Value.pointer (some ⟨b1, 0, none⟩)) := hf125
                exact OpX.val v_r_Table wd118 rfl (op_load one_22 e126 (BoxAt.cell (BoxAt.lift hS122.ext hx6) rfl)) (Ext.refl _) rfl
              · refine ObX.op rfl fun f127 wd128 he129 hout130 hphi131 => ?_
                have hS132 := St.extend hS48 he129
                obtain ⟨S133, hS134, hf135⟩ := hphi131 6 27 _ rfl rfl rfl
                have e136 : f127 27 = v_r_Table := hf135
                have hr137 := inR_len (Ty.lift _ (Ext.trans hE7 hS132.ext) r_r_Table)
                exact OpX.val (Value.int .i64 ((r_Table).length : Int)) wd128 rfl (op_lenL sl_22 (Ty.lift _ (Ext.trans hE7 hS132.ext) r_r_Table) e136) (Ext.refl _) ⟨rfl, hr137⟩
              · refine ObX.op rfl fun f138 wd139 he140 hout141 hphi142 => ?_
                have hS143 := St.extend hS48 he140
                obtain ⟨S144, hS145, hf146⟩ := hphi142 4 25 _ rfl rfl rfl
                obtain ⟨e147, hr148⟩ := hf146
                obtain ⟨S149, hS150, hf151⟩ := hphi142 7 28 _ rfl rfl rfl
                obtain ⟨e152, hr153⟩ := hf151
                exact OpX.val (Value.bool (((x82).length : Int) != ((r_Table).length : Int))) wd139 rfl (op_neq e147 e152) (Ext.refl _) rfl
              · refine ObX.op rfl fun f154 wd155 he156 hout157 hphi158 => ?_
                have hS159 := St.extend hS48 he156
                obtain ⟨S160, hS161, hf162⟩ := hphi158 8 29 _ rfl rfl rfl
                have e163 : f154 29 = (Value.bool (((x82).length : Int) != ((r_Table).length : Int))) := hf162
                exact OpX.val (Value.bool (((x82).length : Int) != ((r_Table).length : Int))) wd155 rfl (op_move e163) (Ext.refl _) rfl
              · refine ObX.op rfl fun f165 wd166 he167 hout168 hphi169 => ?_
                obtain ⟨S170, hS171, hf172⟩ := hphi169 9 30 _ rfl rfl rfl
                have e173 : f165 30 = (Value.bool (((x82).length : Int) != ((r_Table).length : Int))) := hf172
                exact OpX.skip (wanted_skip rfl rfl e173 hc164) rfl
              · refine ObX.op rfl fun f174 wd175 he176 hout177 hphi178 => ?_
                obtain ⟨S179, hS180, hf181⟩ := hphi178 9 30 _ rfl rfl rfl
                have e182 : f174 30 = (Value.bool (((x82).length : Int) != ((r_Table).length : Int))) := hf181
                exact OpX.skip (wanted_skip rfl rfl e182 hc164) rfl
              · refine ObX.op rfl fun f183 wd184 he185 hout186 hphi187 => ?_
                obtain ⟨S188, hS189, hf190⟩ := hphi187 9 30 _ rfl rfl rfl
                have e191 : f183 30 = (Value.bool (((x82).length : Int) != ((r_Table).length : Int))) := hf190
                exact OpX.skip (wanted_skip rfl rfl e191 hc164) rfl
              · refine ObX.op rfl fun f192 wd193 he194 hout195 hphi196 => ?_
                obtain ⟨S197, hS198, hf199⟩ := hphi196 9 30 _ rfl rfl rfl
                have e200 : f192 30 = (Value.bool (((x82).length : Int) != ((r_Table).length : Int))) := hf199
                exact OpX.skip (wanted_skip rfl rfl e200 hc164) rfl
              · refine ObX.op rfl fun f201 wd202 he203 hout204 hphi205 => ?_
                obtain ⟨S206, hS207, hf208⟩ := hphi205 9 30 _ rfl rfl rfl
                have e209 : f201 30 = (Value.bool (((x82).length : Int) != ((r_Table).length : Int))) := hf208
                exact OpX.skip (wanted_skip rfl rfl e209 hc164) rfl
              · refine ObX.op rfl fun f210 wd211 he212 hout213 hphi214 => ?_
                obtain ⟨S215, hS216, hf217⟩ := hphi214 9 30 _ rfl rfl rfl
                have e218 : f210 30 = (Value.bool (((x82).length : Int) != ((r_Table).length : Int))) := hf217
                exact OpX.skip (wanted_skip rfl rfl e218 hc164) rfl
              · refine ObX.op rfl fun f219 wd220 he221 hout222 hphi223 => ?_
                have hS224 := St.extend hS48 he221
                obtain ⟨S225, hS226, hf227⟩ := hphi223 9 30 _ rfl rfl rfl
                have e228 : f219 30 = (Value.bool (((x82).length : Int) != ((r_Table).length : Int))) := hf227
                obtain ⟨S229, hS230, hf231⟩ := hphi223 15 36 _ rfl rfl rfl
                have e232 : f219 36 = undef := hf231
                exact OpX.val (Value.bool true) wd220 rfl (op_pick_t (evb_of e228 hc164) rfl) (Ext.refl _) rfl
              · refine ObX.op rfl fun f233 wd234 he235 hout236 hphi237 => ?_
                have hS238 := St.extend hS48 he235
                obtain ⟨S239, hS240, hf241⟩ := hphi237 16 37 _ rfl rfl rfl
                have e242 : f233 37 = (Value.bool true) := hf241
                exact OpX.val (Value.bool true) wd234 rfl (op_move e242) (Ext.refl _) rfl
              · refine ObX.op rfl fun f244 wd245 he246 hout247 hphi248 => ?_
                obtain ⟨S249, hS250, hf251⟩ := hphi248 17 38 _ rfl rfl rfl
                have e252 : f244 38 = (Value.bool true) := hf251
                exact OpX.skip (wanted_skip rfl rfl e252 hc243) rfl
              · refine ObX.op rfl fun f253 wd254 he255 hout256 hphi257 => ?_
                obtain ⟨S258, hS259, hf260⟩ := hphi257 17 38 _ rfl rfl rfl
                have e261 : f253 38 = (Value.bool true) := hf260
                exact OpX.skip (wanted_skip rfl rfl e261 hc243) rfl
              · refine ObX.op rfl fun f262 wd263 he264 hout265 hphi266 => ?_
                obtain ⟨S267, hS268, hf269⟩ := hphi266 19 40 _ rfl rfl rfl
                have e270 : f262 40 = undef := hf269
                exact OpX.skip (wanted_skipu rfl rfl e270) rfl
              · refine ObX.op rfl fun f271 wd272 he273 hout274 hphi275 => ?_
                obtain ⟨S276, hS277, hf278⟩ := hphi275 19 40 _ rfl rfl rfl
                have e279 : f271 40 = undef := hf278
                exact OpX.skip (wanted_skipu rfl rfl e279) rfl
              · refine ObX.op rfl fun f280 wd281 he282 hout283 hphi284 => ?_
                obtain ⟨S285, hS286, hf287⟩ := hphi284 19 40 _ rfl rfl rfl
                have e288 : f280 40 = undef := hf287
                exact OpX.skip (wanted_skipu rfl rfl e288) rfl
              · refine ObX.op rfl fun f289 wd290 he291 hout292 hphi293 => ?_
                obtain ⟨S294, hS295, hf296⟩ := hphi293 19 40 _ rfl rfl rfl
                have e297 : f289 40 = undef := hf296
                exact OpX.skip (wanted_skipu rfl rfl e297) rfl
              · refine ObX.op rfl fun f298 wd299 he300 hout301 hphi302 => ?_
                obtain ⟨S303, hS304, hf305⟩ := hphi302 19 40 _ rfl rfl rfl
                have e306 : f298 40 = undef := hf305
                exact OpX.skip (wanted_skipu rfl rfl e306) rfl
              · intro f307 wd308 Ss309 he310 hout311 hSn312 hSd313 hphi314
                show WL _ _ _ _ _ _ _
                have hS315 := St.extend hS48 he310
                have e322 : f307 38 = (Value.bool true) := hphi314 17 38 _ (by decide) rfl rfl
                have e324 : f307 40 = undef := hphi314 19 40 _ (by decide) rfl rfl
                have e330 : f307 1 = (Value.bool good) := (hout311 1 rfl).trans hf42
                have e331 : f307 2 = v_list := (hout311 2 rfl).trans hf43
                have e332 : f307 3 = (Value.pointer (some ⟨b1, 0, none⟩)) := (hout311 3 rfl).trans hf44
                have e333 : f307 7 = (Value.int .i64 x19) := (hout311 7 rfl).trans hf45
                have e334 : f307 8 = (Value.int .i64 x20) := (hout311 8 rfl).trans hf46
                refine WL.gskipu rfl e324 rfl ?_
                refine WL.gskipu rfl e324 rfl ?_
                refine WL.gskip rfl (bool_of e322 hc243) rfl ?_
                refine WL.val (Value.bool true) _ (op_pick_t (evb_of e322 hc243) rfl) rfl ?_
                refine WL.nil ?_
                obtain rfl := Option.some.inj hj52
                exact ⟨e330, e331, e332, e333, e334, rfl, hS315⟩
            · replace hj52 := inegb hj52 hc243
              rcases Bool.eq_false_or_eq_true good with hc360 | hc360
              · replace hj52 := ip hj52 hc360
                obtain ⟨u427, hc428, hr429⟩ := repSl.el r_list hx85
                refine W.drawR mixo 25 [] [fun _ v _ _ => v = v_list, fun _ v _ _ => v = (Value.int .i64 x20) ∧ InR .i64 x20, fun _ v _ _ => v = (Value.pointer (some (elA v_list (x20).toNat))), fun _ v _ _ => v = u96, fun _ v _ _ => v = (Value.int .i64 ((x82).length : Int)) ∧ InR .i64 ((x82).length : Int), fun _ v _ _ => v = (Value.pointer (some ⟨b1, 0, none⟩)), fun _ v _ _ => v = v_r_Table, fun _ v _ _ => v = (Value.int .i64 ((r_Table).length : Int)) ∧ InR .i64 ((r_Table).length : Int), fun _ v _ _ => v = (Value.bool (((x82).length : Int) != ((r_Table).length : Int))), fun _ v _ _ => v = (Value.bool (((x82).length : Int) != ((r_Table).length : Int))), fun _ v _ _ => v = undef, fun _ v _ _ => v = undef, fun _ v _ _ => v = undef, fun _ v _ _ => v = undef, fun _ v _ _ => v = undef, fun _ v _ _ => v = undef, fun _ v _ _ => v = (Value.bool true), fun _ v _ _ => v = (Value.bool true), fun _ v _ _ => v = (Value.bool good), fun _ v _ _ => v = (Value.bool good), fun _ v S w' => v = (Value.agg #[v_r_Table]), fun _ v _ _ => v = v_list, fun _ v _ _ => v = (Value.int .i64 x20) ∧ InR .i64 x20, fun _ v _ _ => v = (Value.pointer (some (elA v_list (x20).toNat))), fun _ v _ _ => v = u427] (by kernel_rfl) (by kernel_rfl) ⟨pk, pk, pk, pk, pk, pk, pk, pk, pk, pk, pk, pk, pk, pk, pk, pk, pk, pk, pk, pk, pk, pk, pk, pk, pk, trivial⟩ ⟨?_, ?_, ?_, ?_, ?_, ?_, ?_, ?_, ?_, ?_, ?_, ?_, ?_, ?_, ?_, ?_, ?_, ?_, ?_, ?_, ?_, ?_, ?_, ?_, ?_, trivial⟩ ?_
                · refine ObX.op rfl fun f53 wd54 he55 hout56 hphi57 => ?_
                  have hS58 := St.extend hS48 he55
                  have e59 : f53 2 = v_list := (hout56 2 rfl).trans hf43
                  exact OpX.val v_list wd54 rfl (op_move e59) (Ext.refl _) rfl
                · refine ObX.op rfl fun f60 wd61 he62 hout63 hphi64 => ?_
                  have hS65 := St.extend hS48 he62
                  have e66 : f60 8 = (Value.int .i64 x20) := (hout63 8 rfl).trans hf46
                  exact OpX.val (Value.int .i64 x20) wd61 rfl (op_move e66) (Ext.refl _) ⟨rfl, hr35⟩
                · refine ObX.op rfl fun f67 wd68 he69 hout70 hphi71 => ?_
                  have hS72 := St.extend hS48 he69
                  obtain ⟨S73, hS74, hf75⟩ := hphi71 0 21 _ rfl rfl rfl
                  have e76 : f67 21 = v_list := hf75
                  obtain ⟨S77, hS78, hf79⟩ := hphi71 1 22 _ rfl rfl rfl
                  obtain ⟨e80, hr81⟩ := hf79
                  exact OpX.val (Value.pointer (some (elA v_list (x20).toNat))) wd68 rfl (op_idx sl_46 (Ty.lift _ (Ext.trans hE7 hS72.ext) r_list) e76 e80 ha83 hb84) (Ext.refl _) rfl
                · refine ObX.op rfl fun f86 wd87 he88 hout89 hphi90 => ?_
                  have hS91 := St.extend hS48 he88
                  obtain ⟨S92, hS93, hf94⟩ := hphi90 2 23 _ rfl rfl rfl
                  have e95 : f86 23 = (Value.pointer (some (elA v_list (x20).toNat))) := hf94
                  exact OpX.val u96 wd87 rfl (op_load one_25 e95 (Ext.cell (Ext.trans hE7 hS91.ext) hc97)) (Ext.refl _) rfl
                · refine ObX.op rfl fun f99 wd100 he101 hout102 hphi103 => ?_
                  have hS104 := St.extend hS48 he101
                  obtain ⟨S105, hS106, hf107⟩ := hphi103 3 24 _ rfl rfl rfl
                  have e108 : f99 24 = u96 := hf107
                  have hr109 := inR_len (Ty.lift _ (Ext.trans hE7 hS104.ext) hr98)
                  exact OpX.val (Value.int .i64 ((x82).length : Int)) wd100 rfl (op_lenL sl_25 (Ty.lift _ (Ext.trans hE7 hS104.ext) hr98) e108) (Ext.refl _) ⟨rfl, hr109⟩
                · refine ObX.op rfl fun f110 wd111 he112 hout113 hphi114 => ?_
                  have hS115 := St.extend hS48 he112
                  have e116 : f110 3 = (Value.pointer (some ⟨b1, 0, none⟩)) := (hout113 3 rfl).trans hf44
                  exact OpX.val (Value.pointer (some ⟨b1, 0, none⟩)) wd111 rfl (op_fieldAddr fd_29_0 e116) (Ext.refl _) rfl
                · refine ObX.op rfl fun f117 wd118 he119 hout120 hphi121 => ?_
                  have hS122 := St.extend hS48 he119
                  obtain ⟨S123, hS124, hf125⟩ := hphi121 5 26 _ rfl rfl rfl
                  have e126 : f117 26 = (Value.pointer (some ⟨b1, 0, none⟩)) := hf125
                  exact OpX.val v_r_Table wd118 rfl (op_load one_22 e126 (BoxAt.cell (BoxAt.lift hS122.ext hx6) rfl)) (Ext.refl _) rfl
                · refine ObX.op rfl fun f127 wd128 he129 hout130 hphi131 => ?_
                  have hS132 := St.extend hS48 he129
                  obtain ⟨S133, hS134, hf135⟩ := hphi131 6 27 _ rfl rfl rfl
                  have e136 : f127 27 = v_r_Table := hf135
                  have hr137 := inR_len (Ty.lift _ (Ext.trans hE7 hS132.ext) r_r_Table)
                  exact OpX.val (Value.int .i64 ((r_Table).length : Int)) wd128 rfl (op_lenL sl_22 (Ty.lift _ (Ext.trans hE7 hS132.ext) r_r_Table) e136) (Ext.refl _) ⟨rfl, hr137⟩
                · refine ObX.op rfl fun f138 wd139 he140 hout141 hphi142 => ?_
                  have hS143 := St.extend hS48 he140
                  obtain ⟨S144, hS145, hf146⟩ := hphi142 4 25 _ rfl rfl rfl
                  obtain ⟨e147, hr148⟩ := hf146
                  obtain ⟨S149, hS150, hf151⟩ := hphi142 7 28 _ rfl rfl rfl
                  obtain ⟨e152, hr153⟩ := hf151
                  exact OpX.val (Value.bool (((x82).length : Int) != ((r_Table).length : Int))) wd139 rfl (op_neq e147 e152) (Ext.refl _) rfl
                · refine ObX.op rfl fun f154 wd155 he156 hout157 hphi158 => ?_
                  have hS159 := St.extend hS48 he156
                  obtain ⟨S160, hS161, hf162⟩ := hphi158 8 29 _ rfl rfl rfl
                  have e163 : f154 29 = (Value.bool (((x82).length : Int) != ((r_Table).length : Int))) := hf162
                  exact OpX.val (Value.bool (((x82).length : Int) != ((r_Table).length : Int))) wd155 rfl (op_move e163) (Ext.refl _) rfl
                · refine ObX.op rfl fun f165 wd166 he167 hout168 hphi169 => ?_
                  obtain ⟨S170, hS171, hf172⟩ := hphi169 9 30 _ rfl rfl rfl
                  have e173 : f165 30 = (Value.bool (((x82).length : Int) != ((r_Table).length : Int))) := hf172
                  exact OpX.skip (wanted_skip rfl rfl e173 hc164) rfl
                · refine ObX.op rfl fun f174 wd175 he176 hout177 hphi178 => ?_
                  obtain ⟨S179, hS180, hf181⟩ := hphi178 9 30 _ rfl rfl rfl
                  have e182 : f174 30 = (Value.bool (((x82).length : Int) != ((r_Table).length : Int))) := hf181
                  exact OpX.skip (wanted_skip rfl rfl e182 hc164) rfl
                · refine ObX.op rfl fun f183 wd184 he185 hout186 hphi187 => ?_
                  obtain ⟨S188, hS189, hf190⟩ := hphi187 9 30 _ rfl rfl rfl
                  have e191 : f183 30 = (Value.bool (((x82).length : Int) != ((r_Table).length : Int))) := hf190
                  exact OpX.skip (wanted_skip rfl rfl e191 hc164) rfl
                · refine ObX.op rfl fun f192 wd193 he194 hout195 hphi196 => ?_
                  obtain ⟨S197, hS198, hf199⟩ := hphi196 9 30 _ rfl rfl rfl
                  have e200 : f192 30 = (Value.bool (((x82).length : Int) != ((r_Table).length : Int))) := hf199
                  exact OpX.skip (wanted_skip rfl rfl e200 hc164) rfl
                · refine ObX.op rfl fun f201 wd202 he203 hout204 hphi205 => ?_
                  obtain ⟨S206, hS207, hf208⟩ := hphi205 9 30 _ rfl rfl rfl
                  have e209 : f201 30 = (Value.bool (((x82).length : Int) != ((r_Table).length : Int))) := hf208
                  exact OpX.skip (wanted_skip rfl rfl e209 hc164) rfl
                · refine ObX.op rfl fun f210 wd211 he212 hout213 hphi214 => ?_
                  obtain ⟨S215, hS216, hf217⟩ := hphi214 9 30 _ rfl rfl rfl
                  have e218 : f210 30 = (Value.bool (((x82).length : Int) != ((r_Table).length : Int))) := hf217
                  exact OpX.skip (wanted_skip rfl rfl e218 hc164) rfl
                · refine ObX.op rfl fun f219 wd220 he221 hout222 hphi223 => ?_
                  have hS224 := St.extend hS48 he221
                  obtain ⟨S225, hS226, hf227⟩ := hphi223 9 30 _ rfl rfl rfl
                  have e228 : f219 30 = (Value.bool (((x82).length : Int) != ((r_Table).length : Int))) := hf227
                  obtain ⟨S229, hS230, hf231⟩ := hphi223 15 36 _ rfl rfl rfl
                  have e232 : f219 36 = undef := hf231
                  exact OpX.val (Value.bool true) wd220 rfl (op_pick_t (evb_of e228 hc164) rfl) (Ext.refl _) rfl
                · refine ObX.op rfl fun f233 wd234 he235 hout236 hphi237 => ?_
                  have hS238 := St.extend hS48 he235
                  obtain ⟨S239, hS240, hf241⟩ := hphi237 16 37 _ rfl rfl rfl
                  have e242 : f233 37 = (Value.bool true) := hf241
                  exact OpX.val (Value.bool true) wd234 rfl (op_move e242) (Ext.refl _) rfl
                · refine ObX.op rfl fun f335 wd336 he337 hout338 hphi339 => ?_
                  have hS340 := St.extend hS48 he337
                  have e341 : f335 1 = (Value.bool good) := (hout338 1 rfl).trans hf42
                  obtain ⟨S342, hS343, hf344⟩ := hphi339 17 38 _ rfl rfl rfl
                  have e345 : f335 38 = (Value.bool true) := hf344
                  exact OpX.val (Value.bool good) wd336 (wanted_run rfl rfl e345 hc243) (op_move e341) (Ext.refl _) rfl
                · refine ObX.op rfl fun f346 wd347 he348 hout349 hphi350 => ?_
                  have hS351 := St.extend hS48 he348
                  obtain ⟨S352, hS353, hf354⟩ := hphi350 17 38 _ rfl rfl rfl
                  have e355 : f346 38 = (Value.bool true) := hf354
                  obtain ⟨S356, hS357, hf358⟩ := hphi350 18 39 _ rfl rfl rfl
                  have e359 : f346 39 = (Value.bool good) := hf358
                  exact OpX.val (Value.bool good) wd347 (wanted_run rfl rfl e355 hc243) (op_move e359) (Ext.refl _) rfl
                · refine ObX.op rfl fun f361 wd362 he363 hout364 hphi365 => ?_
                  have hS366 := St.extend hS48 he363
                  have e367 : f361 3 = (Value.pointer (some ⟨b1, 0, none⟩)) := (hout364 3 rfl).trans hf44
                  obtain ⟨S368, hS369, hf370⟩ := hphi365 19 40 _ rfl rfl rfl
                  have e371 : f361 40 = (Value.bool good) := hf370
                  exact OpX.val (Value.agg #[v_r_Table]) wd362 (wanted_run rfl rfl e371 hc360) (op_loadBox st_29 e367 (BoxAt.lift hS366.ext hx6) rfl rfl) (Ext.refl _) rfl
                · refine ObX.op rfl fun f372 wd373 he374 hout375 hphi376 => ?_
                  have e378 : f372 2 = v_list := (hout375 2 rfl).trans hf43
                  obtain ⟨S379, hS380, hf381⟩ := hphi376 19 40 _ rfl rfl rfl
                  have e382 : f372 40 = (Value.bool good) := hf381
                  exact OpX.val v_list wd373 (wanted_run rfl rfl e382 hc360) (op_move e378) (Ext.refl _) rfl
                · refine ObX.op rfl fun f383 wd384 he385 hout386 hphi387 => ?_
                  have e389 : f383 8 = (Value.int .i64 x20) := (hout386 8 rfl).trans hf46
                  obtain ⟨S390, hS391, hf392⟩ := hphi387 19 40 _ rfl rfl rfl
                  have e393 : f383 40 = (Value.bool good) := hf392
                  exact OpX.val (Value.int .i64 x20) wd384 (wanted_run rfl rfl e393 hc360) (op_move e389) (Ext.refl _) ⟨rfl, hr35⟩
                · refine ObX.op rfl fun f394 wd395 he396 hout397 hphi398 => ?_
                  have hS399 := St.extend hS48 he396
                  obtain ⟨S400, hS401, hf402⟩ := hphi398 19 40 _ rfl rfl rfl
                  have e403 : f394 40 = (Value.bool good) := hf402
                  obtain ⟨S404, hS405, hf406⟩ := hphi398 21 42 _ rfl rfl rfl
                  have e407 : f394 42 = v_list := hf406
                  obtain ⟨S408, hS409, hf410⟩ := hphi398 22 43 _ rfl rfl rfl
                  obtain ⟨e411, hr412⟩ := hf410
                  exact OpX.val (Value.pointer (some (elA v_list (x20).toNat))) wd395 (wanted_run rfl rfl e403 hc360) (op_idx sl_46 (Ty.lift _ (Ext.trans hE7 hS399.ext) r_list) e407 e411 ha83 hb84) (Ext.refl _) rfl
                · refine ObX.op rfl fun f413 wd414 he415 hout416 hphi417 => ?_
                  have hS418 := St.extend hS48 he415
                  obtain ⟨S419, hS420, hf421⟩ := hphi417 19 40 _ rfl rfl rfl
                  have e422 : f413 40 = (Value.bool good) := hf421
                  obtain ⟨S423, hS424, hf425⟩ := hphi417 23 44 _ rfl rfl rfl
                  have e426 : f413 44 = (Value.pointer (some (elA v_list (x20).toNat))) := hf425
                  exact OpX.val u427 wd414 (wanted_run rfl rfl e422 hc360) (op_load one_25 e426 (Ext.cell (Ext.trans hE7 hS418.ext) hc428)) (Ext.refl _) rfl
                · intro f430 wd431 Ss432 he433 hout434 hSn435 hSd436 hphi437
                  show WL _ _ _ _ _ _ _
                  have hS438 := St.extend hS48 he433
                  have e445 : f430 38 = (Value.bool true) := hphi437 17 38 _ (by decide) rfl rfl
                  have e447 : f430 40 = (Value.bool good) := hphi437 19 40 _ (by decide) rfl rfl
                  have e448 : f430 41 = (Value.agg #[v_r_Table]) := hphi437 20 41 _ (by decide) rfl rfl
                  obtain ⟨e450, hr451⟩ := hphi437 22 43 _ (by decide) rfl rfl
                  have e453 : f430 45 = u427 := hphi437 24 45 _ (by decide) rfl rfl
                  have e454 : f430 1 = (Value.bool good) := (hout434 1 rfl).trans hf42
                  have e455 : f430 2 = v_list := (hout434 2 rfl).trans hf43
                  have e456 : f430 3 = (Value.pointer (some ⟨b1, 0, none⟩)) := (hout434 3 rfl).trans hf44
                  have e457 : f430 7 = (Value.int .i64 x19) := (hout434 7 rfl).trans hf45
                  have e458 : f430 8 = (Value.int .i64 x20) := (hout434 8 rfl).trans hf46
                  refine WL.grun rfl (bool_of e447 hc360) ?_
                  obtain ⟨x459, hx460, hj52⟩ := bs hj52
                  refine WL.call _ (op_call fn_40 (args2 e448 e453)) (c_spec_l08Is (Ty.lift _ (Ext.trans hE7 hS438.ext) r_r_Table) (Ty.lift _ (Ext.trans hE7 hS438.ext) hr429) hx460) rfl ?_
                  rintro _ wd461 ⟨rfl, he462⟩
                  have hS464 := St.extend hS438 he462
                  replace hS464 : St wd2 wd461 [] := hS464
                  refine WL.grun rfl (bool_of e447 hc360) ?_
                  refine WL.val (Value.bool (!x459)) _ (op_not rfl) rfl ?_
                  refine WL.grun rfl (bool_of e445 hc243) ?_
                  refine WL.val (Value.bool (!x459)) _ (op_pick_t (evb_of e447 hc360) rfl) rfl ?_
                  refine WL.val (Value.bool (!x459)) _ (op_pick_f (evb_of e445 hc243) rfl) rfl ?_
                  refine WL.nil ?_
                  obtain rfl := Option.some.inj hj52
                  exact ⟨e454, e455, e456, e457, e458, rfl, hS464⟩
              · replace hj52 := inegb hj52 hc360
                refine W.drawR mixo 25 [] [fun _ v _ _ => v = v_list, fun _ v _ _ => v = (Value.int .i64 x20) ∧ InR .i64 x20, fun _ v _ _ => v = (Value.pointer (some (elA v_list (x20).toNat))), fun _ v _ _ => v = u96, fun _ v _ _ => v = (Value.int .i64 ((x82).length : Int)) ∧ InR .i64 ((x82).length : Int), fun _ v _ _ => v = (Value.pointer (some ⟨b1, 0, none⟩)), fun _ v _ _ => v = v_r_Table, fun _ v _ _ => v = (Value.int .i64 ((r_Table).length : Int)) ∧ InR .i64 ((r_Table).length : Int), fun _ v _ _ => v = (Value.bool (((x82).length : Int) != ((r_Table).length : Int))), fun _ v _ _ => v = (Value.bool (((x82).length : Int) != ((r_Table).length : Int))), fun _ v _ _ => v = undef, fun _ v _ _ => v = undef, fun _ v _ _ => v = undef, fun _ v _ _ => v = undef, fun _ v _ _ => v = undef, fun _ v _ _ => v = undef, fun _ v _ _ => v = (Value.bool true), fun _ v _ _ => v = (Value.bool true), fun _ v _ _ => v = (Value.bool good), fun _ v _ _ => v = (Value.bool good), fun _ v _ _ => v = undef, fun _ v _ _ => v = undef, fun _ v _ _ => v = undef, fun _ v _ _ => v = undef, fun _ v _ _ => v = undef] (by kernel_rfl) (by kernel_rfl) ⟨pk, pk, pk, pk, pk, pk, pk, pk, pk, pk, pk, pk, pk, pk, pk, pk, pk, pk, pk, pk, pk, pk, pk, pk, pk, trivial⟩ ⟨?_, ?_, ?_, ?_, ?_, ?_, ?_, ?_, ?_, ?_, ?_, ?_, ?_, ?_, ?_, ?_, ?_, ?_, ?_, ?_, ?_, ?_, ?_, ?_, ?_, trivial⟩ ?_
                · refine ObX.op rfl fun f53 wd54 he55 hout56 hphi57 => ?_
                  have hS58 := St.extend hS48 he55
                  have e59 : f53 2 = v_list := (hout56 2 rfl).trans hf43
                  exact OpX.val v_list wd54 rfl (op_move e59) (Ext.refl _) rfl
                · refine ObX.op rfl fun f60 wd61 he62 hout63 hphi64 => ?_
                  have hS65 := St.extend hS48 he62
                  have e66 : f60 8 = (Value.int .i64 x20) := (hout63 8 rfl).trans hf46
                  exact OpX.val (Value.int .i64 x20) wd61 rfl (op_move e66) (Ext.refl _) ⟨rfl, hr35⟩
                · refine ObX.op rfl fun f67 wd68 he69 hout70 hphi71 => ?_
                  have hS72 := St.extend hS48 he69
                  obtain ⟨S73, hS74, hf75⟩ := hphi71 0 21 _ rfl rfl rfl
                  have e76 : f67 21 = v_list := hf75
                  obtain ⟨S77, hS78, hf79⟩ := hphi71 1 22 _ rfl rfl rfl
                  obtain ⟨e80, hr81⟩ := hf79
                  exact OpX.val (Value.pointer (some (elA v_list (x20).toNat))) wd68 rfl (op_idx sl_46 (Ty.lift _ (Ext.trans hE7 hS72.ext) r_list) e76 e80 ha83 hb84) (Ext.refl _) rfl
                · refine ObX.op rfl fun f86 wd87 he88 hout89 hphi90 => ?_
                  have hS91 := St.extend hS48 he88
                  obtain ⟨S92, hS93, hf94⟩ := hphi90 2 23 _ rfl rfl rfl
                  have e95 : f86 23 = (Value.pointer (some (elA v_list (x20).toNat))) := hf94
                  exact OpX.val u96 wd87 rfl (op_load one_25 e95 (Ext.cell (Ext.trans hE7 hS91.ext) hc97)) (Ext.refl _) rfl
                · refine ObX.op rfl fun f99 wd100 he101 hout102 hphi103 => ?_
                  have hS104 := St.extend hS48 he101
                  obtain ⟨S105, hS106, hf107⟩ := hphi103 3 24 _ rfl rfl rfl
                  have e108 : f99 24 = u96 := hf107
                  have hr109 := inR_len (Ty.lift _ (Ext.trans hE7 hS104.ext) hr98)
                  exact OpX.val (Value.int .i64 ((x82).length : Int)) wd100 rfl (op_lenL sl_25 (Ty.lift _ (Ext.trans hE7 hS104.ext) hr98) e108) (Ext.refl _) ⟨rfl, hr109⟩
                · refine ObX.op rfl fun f110 wd111 he112 hout113 hphi114 => ?_
                  have hS115 := St.extend hS48 he112
                  have e116 : f110 3 = (Value.pointer (some ⟨b1, 0, none⟩)) := (hout113 3 rfl).trans hf44
                  exact OpX.val (Value.pointer (some ⟨b1, 0, none⟩)) wd111 rfl (op_fieldAddr fd_29_0 e116) (Ext.refl _) rfl
                · refine ObX.op rfl fun f117 wd118 he119 hout120 hphi121 => ?_
                  have hS122 := St.extend hS48 he119
                  obtain ⟨S123, hS124, hf125⟩ := hphi121 5 26 _ rfl rfl rfl
                  have e126 : f117 26 = (Value.pointer (some ⟨b1, 0, none⟩)) := hf125
                  exact OpX.val v_r_Table wd118 rfl (op_load one_22 e126 (BoxAt.cell (BoxAt.lift hS122.ext hx6) rfl)) (Ext.refl _) rfl
                · refine ObX.op rfl fun f127 wd128 he129 hout130 hphi131 => ?_
                  have hS132 := St.extend hS48 he129
                  obtain ⟨S133, hS134, hf135⟩ := hphi131 6 27 _ rfl rfl rfl
                  have e136 : f127 27 = v_r_Table := hf135
                  have hr137 := inR_len (Ty.lift _ (Ext.trans hE7 hS132.ext) r_r_Table)
                  exact OpX.val (Value.int .i64 ((r_Table).length : Int)) wd128 rfl (op_lenL sl_22 (Ty.lift _ (Ext.trans hE7 hS132.ext) r_r_Table) e136) (Ext.refl _) ⟨rfl, hr137⟩
                · refine ObX.op rfl fun f138 wd139 he140 hout141 hphi142 => ?_
                  have hS143 := St.extend hS48 he140
                  obtain ⟨S144, hS145, hf146⟩ := hphi142 4 25 _ rfl rfl rfl
                  obtain ⟨e147, hr148⟩ := hf146
                  obtain ⟨S149, hS150, hf151⟩ := hphi142 7 28 _ rfl rfl rfl
                  obtain ⟨e152, hr153⟩ := hf151
                  exact OpX.val (Value.bool (((x82).length : Int) != ((r_Table).length : Int))) wd139 rfl (op_neq e147 e152) (Ext.refl _) rfl
                · refine ObX.op rfl fun f154 wd155 he156 hout157 hphi158 => ?_
                  have hS159 := St.extend hS48 he156
                  obtain ⟨S160, hS161, hf162⟩ := hphi158 8 29 _ rfl rfl rfl
                  have e163 : f154 29 = (Value.bool (((x82).length : Int) != ((r_Table).length : Int))) := hf162
                  exact OpX.val (Value.bool (((x82).length : Int) != ((r_Table).length : Int))) wd155 rfl (op_move e163) (Ext.refl _) rfl
                · refine ObX.op rfl fun f165 wd166 he167 hout168 hphi169 => ?_
                  obtain ⟨S170, hS171, hf172⟩ := hphi169 9 30 _ rfl rfl rfl
                  have e173 : f165 30 = (Value.bool (((x82).length : Int) != ((r_Table).length : Int))) := hf172
                  exact OpX.skip (wanted_skip rfl rfl e173 hc164) rfl
                · refine ObX.op rfl fun f174 wd175 he176 hout177 hphi178 => ?_
                  obtain ⟨S179, hS180, hf181⟩ := hphi178 9 30 _ rfl rfl rfl
                  have e182 : f174 30 = (Value.bool (((x82).length : Int) != ((r_Table).length : Int))) := hf181
                  exact OpX.skip (wanted_skip rfl rfl e182 hc164) rfl
                · refine ObX.op rfl fun f183 wd184 he185 hout186 hphi187 => ?_
                  obtain ⟨S188, hS189, hf190⟩ := hphi187 9 30 _ rfl rfl rfl
                  have e191 : f183 30 = (Value.bool (((x82).length : Int) != ((r_Table).length : Int))) := hf190
                  exact OpX.skip (wanted_skip rfl rfl e191 hc164) rfl
                · refine ObX.op rfl fun f192 wd193 he194 hout195 hphi196 => ?_
                  obtain ⟨S197, hS198, hf199⟩ := hphi196 9 30 _ rfl rfl rfl
                  have e200 : f192 30 = (Value.bool (((x82).length : Int) != ((r_Table).length : Int))) := hf199
                  exact OpX.skip (wanted_skip rfl rfl e200 hc164) rfl
                · refine ObX.op rfl fun f201 wd202 he203 hout204 hphi205 => ?_
                  obtain ⟨S206, hS207, hf208⟩ := hphi205 9 30 _ rfl rfl rfl
                  have e209 : f201 30 = (Value.bool (((x82).length : Int) != ((r_Table).length : Int))) := hf208
                  exact OpX.skip (wanted_skip rfl rfl e209 hc164) rfl
                · refine ObX.op rfl fun f210 wd211 he212 hout213 hphi214 => ?_
                  obtain ⟨S215, hS216, hf217⟩ := hphi214 9 30 _ rfl rfl rfl
                  have e218 : f210 30 = (Value.bool (((x82).length : Int) != ((r_Table).length : Int))) := hf217
                  exact OpX.skip (wanted_skip rfl rfl e218 hc164) rfl
                · refine ObX.op rfl fun f219 wd220 he221 hout222 hphi223 => ?_
                  have hS224 := St.extend hS48 he221
                  obtain ⟨S225, hS226, hf227⟩ := hphi223 9 30 _ rfl rfl rfl
                  have e228 : f219 30 = (Value.bool (((x82).length : Int) != ((r_Table).length : Int))) := hf227
                  obtain ⟨S229, hS230, hf231⟩ := hphi223 15 36 _ rfl rfl rfl
                  have e232 : f219 36 = undef := hf231
                  exact OpX.val (Value.bool true) wd220 rfl (op_pick_t (evb_of e228 hc164) rfl) (Ext.refl _) rfl
                · refine ObX.op rfl fun f233 wd234 he235 hout236 hphi237 => ?_
                  have hS238 := St.extend hS48 he235
                  obtain ⟨S239, hS240, hf241⟩ := hphi237 16 37 _ rfl rfl rfl
                  have e242 : f233 37 = (Value.bool true) := hf241
                  exact OpX.val (Value.bool true) wd234 rfl (op_move e242) (Ext.refl _) rfl
                · refine ObX.op rfl fun f335 wd336 he337 hout338 hphi339 => ?_
                  have hS340 := St.extend hS48 he337
                  have e341 : f335 1 = (Value.bool good) := (hout338 1 rfl).trans hf42
                  obtain ⟨S342, hS343, hf344⟩ := hphi339 17 38 _ rfl rfl rfl
                  have e345 : f335 38 = (Value.bool true) := hf344
                  exact OpX.val (Value.bool good) wd336 (wanted_run rfl rfl e345 hc243) (op_move e341) (Ext.refl _) rfl
                · refine ObX.op rfl fun f346 wd347 he348 hout349 hphi350 => ?_
                  have hS351 := St.extend hS48 he348
                  obtain ⟨S352, hS353, hf354⟩ := hphi350 17 38 _ rfl rfl rfl
                  have e355 : f346 38 = (Value.bool true) := hf354
                  obtain ⟨S356, hS357, hf358⟩ := hphi350 18 39 _ rfl rfl rfl
                  have e359 : f346 39 = (Value.bool good) := hf358
                  exact OpX.val (Value.bool good) wd347 (wanted_run rfl rfl e355 hc243) (op_move e359) (Ext.refl _) rfl
                · refine ObX.op rfl fun f465 wd466 he467 hout468 hphi469 => ?_
                  obtain ⟨S470, hS471, hf472⟩ := hphi469 19 40 _ rfl rfl rfl
                  have e473 : f465 40 = (Value.bool good) := hf472
                  exact OpX.skip (wanted_skip rfl rfl e473 hc360) rfl
                · refine ObX.op rfl fun f474 wd475 he476 hout477 hphi478 => ?_
                  obtain ⟨S479, hS480, hf481⟩ := hphi478 19 40 _ rfl rfl rfl
                  have e482 : f474 40 = (Value.bool good) := hf481
                  exact OpX.skip (wanted_skip rfl rfl e482 hc360) rfl
                · refine ObX.op rfl fun f483 wd484 he485 hout486 hphi487 => ?_
                  obtain ⟨S488, hS489, hf490⟩ := hphi487 19 40 _ rfl rfl rfl
                  have e491 : f483 40 = (Value.bool good) := hf490
                  exact OpX.skip (wanted_skip rfl rfl e491 hc360) rfl
                · refine ObX.op rfl fun f492 wd493 he494 hout495 hphi496 => ?_
                  obtain ⟨S497, hS498, hf499⟩ := hphi496 19 40 _ rfl rfl rfl
                  have e500 : f492 40 = (Value.bool good) := hf499
                  exact OpX.skip (wanted_skip rfl rfl e500 hc360) rfl
                · refine ObX.op rfl fun f501 wd502 he503 hout504 hphi505 => ?_
                  obtain ⟨S506, hS507, hf508⟩ := hphi505 19 40 _ rfl rfl rfl
                  have e509 : f501 40 = (Value.bool good) := hf508
                  exact OpX.skip (wanted_skip rfl rfl e509 hc360) rfl
                · intro f510 wd511 Ss512 he513 hout514 hSn515 hSd516 hphi517
                  show WL _ _ _ _ _ _ _
                  have hS518 := St.extend hS48 he513
                  have e525 : f510 38 = (Value.bool true) := hphi517 17 38 _ (by decide) rfl rfl
                  have e527 : f510 40 = (Value.bool good) := hphi517 19 40 _ (by decide) rfl rfl
                  have e533 : f510 1 = (Value.bool good) := (hout514 1 rfl).trans hf42
                  have e534 : f510 2 = v_list := (hout514 2 rfl).trans hf43
                  have e535 : f510 3 = (Value.pointer (some ⟨b1, 0, none⟩)) := (hout514 3 rfl).trans hf44
                  have e536 : f510 7 = (Value.int .i64 x19) := (hout514 7 rfl).trans hf45
                  have e537 : f510 8 = (Value.int .i64 x20) := (hout514 8 rfl).trans hf46
                  refine WL.gskip rfl (bool_of e527 hc360) rfl ?_
                  refine WL.gskip rfl (bool_of e527 hc360) rfl ?_
                  refine WL.grun rfl (bool_of e525 hc243) ?_
                  refine WL.val (Value.bool false) _ (op_pick_f (evb_of e527 hc360) rfl) rfl ?_
                  refine WL.val (Value.bool false) _ (op_pick_f (evb_of e525 hc243) rfl) rfl ?_
                  refine WL.nil ?_
                  obtain rfl := Option.some.inj hj52
                  exact ⟨e533, e534, e535, e536, e537, rfl, hS518⟩
          · replace hj52 := inegb hj52 hc164
            obtain ⟨u593, hc594, hr595⟩ := repSl.el r_list hx85
            obtain ⟨x610, hx611, hj52⟩ := bs hj52
            rcases Bool.eq_false_or_eq_true (!x610) with hc653 | hc653
            · replace hj52 := ip hj52 hc653
              refine W.drawR mixo 25 [] [fun _ v _ _ => v = v_list, fun _ v _ _ => v = (Value.int .i64 x20) ∧ InR .i64 x20, fun _ v _ _ => v = (Value.pointer (some (elA v_list (x20).toNat))), fun _ v _ _ => v = u96, fun _ v _ _ => v = (Value.int .i64 ((x82).length : Int)) ∧ InR .i64 ((x82).length : Int), fun _ v _ _ => v = (Value.pointer (some ⟨b1, 0, none⟩)), fun _ v _ _ => v = v_r_Table, fun _ v _ _ => v = (Value.int .i64 ((r_Table).length : Int)) ∧ InR .i64 ((r_Table).length : Int), fun _ v _ _ => v = (Value.bool (((x82).length : Int) != ((r_Table).length : Int))), fun _ v _ _ => v = (Value.bool (((x82).length : Int) != ((r_Table).length : Int))), fun _ v _ _ => v = v_list, fun _ v _ _ => v = (Value.int .i64 x20) ∧ InR .i64 x20, fun _ v _ _ => v = (Value.pointer (some (elA v_list (x20).toNat))), fun _ v _ _ => v = u593, fun _ v _ _ => v = (Value.bool x610), fun _ v _ _ => v = (Value.bool (!x610)), fun _ v _ _ => v = (Value.bool (!x610)), fun _ v _ _ => v = (Value.bool (!x610)), fun _ v _ _ => v = undef, fun _ v _ _ => v = undef, fun _ v _ _ => v = undef, fun _ v _ _ => v = undef, fun _ v _ _ => v = undef, fun _ v _ _ => v = undef, fun _ v _ _ => v = undef] (by kernel_rfl) (by kernel_rfl) ⟨pk, pk, pk, pk, pk, pk, pk, pk, pk, pk, pk, pk, pk, pk, pk, pk, pk, pk, pk, pk, pk, pk, pk, pk, pk, trivial⟩ ⟨?_, ?_, ?_, ?_, ?_, ?_, ?_, ?_, ?_, ?_, ?_, ?_, ?_, ?_, ?_, ?_, ?_, ?_, ?_, ?_, ?_, ?_, ?_, ?_, ?_, trivial⟩ ?_
              · refine ObX.op rfl fun f53 wd54 he55 hout56 hphi57 => ?_
                have hS58 := St.extend hS48 he55
                have e59 : f53 2 = v_list := (hout56 2 rfl).trans hf43
                exact OpX.val v_list wd54 rfl (op_move e59) (Ext.refl _) rfl
              · refine ObX.op rfl fun f60 wd61 he62 hout63 hphi64 => ?_
                have hS65 := St.extend hS48 he62
                have e66 : f60 8 = (Value.int .i64 x20) := (hout63 8 rfl).trans hf46
                exact OpX.val (Value.int .i64 x20) wd61 rfl (op_move e66) (Ext.refl _) ⟨rfl, hr35⟩
              · refine ObX.op rfl fun f67 wd68 he69 hout70 hphi71 => ?_
                have hS72 := St.extend hS48 he69
                obtain ⟨S73, hS74, hf75⟩ := hphi71 0 21 _ rfl rfl rfl
                have e76 : f67 21 = v_list := hf75
                obtain ⟨S77, hS78, hf79⟩ := hphi71 1 22 _ rfl rfl rfl
                obtain ⟨e80, hr81⟩ := hf79
                exact OpX.val (Value.pointer (some (elA v_list (x20).toNat))) wd68 rfl (op_idx sl_46 (Ty.lift _ (Ext.trans hE7 hS72.ext) r_list) e76 e80 ha83 hb84) (Ext.refl _) rfl
              · refine ObX.op rfl fun f86 wd87 he88 hout89 hphi90 => ?_
                have hS91 := St.extend hS48 he88
                obtain ⟨S92, hS93, hf94⟩ := hphi90 2 23 _ rfl rfl rfl
                have e95 : f86 23 = (Value.pointer (some (elA v_list (x20).toNat))) := hf94
                exact OpX.val u96 wd87 rfl (op_load one_25 e95 (Ext.cell (Ext.trans hE7 hS91.ext) hc97)) (Ext.refl _) rfl
              · refine ObX.op rfl fun f99 wd100 he101 hout102 hphi103 => ?_
                have hS104 := St.extend hS48 he101
                obtain ⟨S105, hS106, hf107⟩ := hphi103 3 24 _ rfl rfl rfl
                have e108 : f99 24 = u96 := hf107
                have hr109 := inR_len (Ty.lift _ (Ext.trans hE7 hS104.ext) hr98)
                exact OpX.val (Value.int .i64 ((x82).length : Int)) wd100 rfl (op_lenL sl_25 (Ty.lift _ (Ext.trans hE7 hS104.ext) hr98) e108) (Ext.refl _) ⟨rfl, hr109⟩
              · refine ObX.op rfl fun f110 wd111 he112 hout113 hphi114 => ?_
                have hS115 := St.extend hS48 he112
                have e116 : f110 3 = (Value.pointer (some ⟨b1, 0, none⟩)) := (hout113 3 rfl).trans hf44
                exact OpX.val (Value.pointer (some ⟨b1, 0, none⟩)) wd111 rfl (op_fieldAddr fd_29_0 e116) (Ext.refl _) rfl
              · refine ObX.op rfl fun f117 wd118 he119 hout120 hphi121 => ?_
                have hS122 := St.extend hS48 he119
                obtain ⟨S123, hS124, hf125⟩ := hphi121 5 26 _ rfl rfl rfl
                have e126 : f117 26 = (Value.pointer (some ⟨b1, 0, none⟩)) := hf125
                exact OpX.val v_r_Table wd118 rfl (op_load one_22 e126 (BoxAt.cell (BoxAt.lift hS122.ext hx6) rfl)) (Ext.refl _) rfl
              · refine ObX.op rfl fun f127 wd128 he129 hout130 hphi131 => ?_
                have hS132 := St.extend hS48 he129
                obtain ⟨S133, hS134, hf135⟩ := hphi131 6 27 _ rfl rfl rfl
                have e136 : f127 27 = v_r_Table := hf135
                have hr137 := inR_len (Ty.lift _ (Ext.trans hE7 hS132.ext) r_r_Table)
                exact OpX.val (Value.int .i64 ((r_Table).length : Int)) wd128 rfl (op_lenL sl_22 (Ty.lift _ (Ext.trans hE7 hS132.ext) r_r_Table) e136) (Ext.refl _) ⟨rfl, hr137⟩
              · refine ObX.op rfl fun f138 wd139 he140 hout141 hphi142 => ?_
                have hS143 := St.extend hS48 he140
                obtain ⟨S144, hS145, hf146⟩ := hphi142 4 25 _ rfl rfl rfl
                obtain ⟨e147, hr148⟩ := hf146
                obtain ⟨S149, hS150, hf151⟩ := hphi142 7 28 _ rfl rfl rfl
                obtain ⟨e152, hr153⟩ := hf151
                exact OpX.val (Value.bool (((x82).length : Int) != ((r_Table).length : Int))) wd139 rfl (op_neq e147 e152) (Ext.refl _) rfl
              · refine ObX.op rfl fun f154 wd155 he156 hout157 hphi158 => ?_
                have hS159 := St.extend hS48 he156
                obtain ⟨S160, hS161, hf162⟩ := hphi158 8 29 _ rfl rfl rfl
                have e163 : f154 29 = (Value.bool (((x82).length : Int) != ((r_Table).length : Int))) := hf162
                exact OpX.val (Value.bool (((x82).length : Int) != ((r_Table).length : Int))) wd155 rfl (op_move e163) (Ext.refl _) rfl
              · refine ObX.op rfl fun f538 wd539 he540 hout541 hphi542 => ?_
                have hS543 := St.extend hS48 he540
                have e544 : f538 2 = v_list := (hout541 2 rfl).trans hf43
                obtain ⟨S545, hS546, hf547⟩ := hphi542 9 30 _ rfl rfl rfl
                have e548 : f538 30 = (Value.bool (((x82).length : Int) != ((r_Table).length : Int))) := hf547
                exact OpX.val v_list wd539 (wanted_run rfl rfl e548 hc164) (op_move e544) (Ext.refl _) rfl
              · refine ObX.op rfl fun f549 wd550 he551 hout552 hphi553 => ?_
                have hS554 := St.extend hS48 he551
                have e555 : f549 8 = (Value.int .i64 x20) := (hout552 8 rfl).trans hf46
                obtain ⟨S556, hS557, hf558⟩ := hphi553 9 30 _ rfl rfl rfl
                have e559 : f549 30 = (Value.bool (((x82).length : Int) != ((r_Table).length : Int))) := hf558
                exact OpX.val (Value.int .i64 x20) wd550 (wanted_run rfl rfl e559 hc164) (op_move e555) (Ext.refl _) ⟨rfl, hr35⟩
              · refine ObX.op rfl fun f560 wd561 he562 hout563 hphi564 => ?_
                have hS565 := St.extend hS48 he562
                obtain ⟨S566, hS567, hf568⟩ := hphi564 9 30 _ rfl rfl rfl
                have e569 : f560 30 = (Value.bool (((x82).length : Int) != ((r_Table).length : Int))) := hf568
                obtain ⟨S570, hS571, hf572⟩ := hphi564 10 31 _ rfl rfl rfl
                have e573 : f560 31 = v_list := hf572
                obtain ⟨S574, hS575, hf576⟩ := hphi564 11 32 _ rfl rfl rfl
                obtain ⟨e577, hr578⟩ := hf576
                exact OpX.val (Value.pointer (some (elA v_list (x20).toNat))) wd561 (wanted_run rfl rfl e569 hc164) (op_idx sl_46 (Ty.lift _ (Ext.trans hE7 hS565.ext) r_list) e573 e577 ha83 hb84) (Ext.refl _) rfl
              · refine ObX.op rfl fun f579 wd580 he581 hout582 hphi583 => ?_
                have hS584 := St.extend hS48 he581
                obtain ⟨S585, hS586, hf587⟩ := hphi583 9 30 _ rfl rfl rfl
                have e588 : f579 30 = (Value.bool (((x82).length : Int) != ((r_Table).length : Int))) := hf587
                obtain ⟨S589, hS590, hf591⟩ := hphi583 12 33 _ rfl rfl rfl
                have e592 : f579 33 = (Value.pointer (some (elA v_list (x20).toNat))) := hf591
                exact OpX.val u593 wd580 (wanted_run rfl rfl e588 hc164) (op_load one_25 e592 (Ext.cell (Ext.trans hE7 hS584.ext) hc594)) (Ext.refl _) rfl
              · refine ObX.op rfl fun f596 wd597 he598 hout599 hphi600 => ?_
                have hS601 := St.extend hS48 he598
                obtain ⟨S602, hS603, hf604⟩ := hphi600 9 30 _ rfl rfl rfl
                have e605 : f596 30 = (Value.bool (((x82).length : Int) != ((r_Table).length : Int))) := hf604
                obtain ⟨S606, hS607, hf608⟩ := hphi600 13 34 _ rfl rfl rfl
                have e609 : f596 34 = u593 := hf608
                refine OpX.call (wanted_run rfl rfl e605 hc164) (op_call fn_39 (args1 e609)) (Ret.mono (c_spec_l01Numbers (Ty.lift _ (Ext.trans hE7 hS601.ext) hr595) hx611) ?_)
                rintro _ wd612 ⟨rfl, he613⟩
                exact ⟨he613, _, noS _ _, rfl⟩
              · refine ObX.op rfl fun f615 wd616 he617 hout618 hphi619 => ?_
                have hS620 := St.extend hS48 he617
                obtain ⟨S621, hS622, hf623⟩ := hphi619 9 30 _ rfl rfl rfl
                have e624 : f615 30 = (Value.bool (((x82).length : Int) != ((r_Table).length : Int))) := hf623
                obtain ⟨S625, hS626, hf627⟩ := hphi619 14 35 _ rfl rfl rfl
                have e628 : f615 35 = (Value.bool x610) := hf627
                exact OpX.val (Value.bool (!x610)) wd616 (wanted_run rfl rfl e624 hc164) (op_not e628) (Ext.refl _) rfl
              · refine ObX.op rfl fun f629 wd630 he631 hout632 hphi633 => ?_
                have hS634 := St.extend hS48 he631
                obtain ⟨S635, hS636, hf637⟩ := hphi633 9 30 _ rfl rfl rfl
                have e638 : f629 30 = (Value.bool (((x82).length : Int) != ((r_Table).length : Int))) := hf637
                obtain ⟨S639, hS640, hf641⟩ := hphi633 15 36 _ rfl rfl rfl
                have e642 : f629 36 = (Value.bool (!x610)) := hf641
                exact OpX.val (Value.bool (!x610)) wd630 rfl (op_pick_f (evb_of e638 hc164) e642) (Ext.refl _) rfl
              · refine ObX.op rfl fun f643 wd644 he645 hout646 hphi647 => ?_
                have hS648 := St.extend hS48 he645
                obtain ⟨S649, hS650, hf651⟩ := hphi647 16 37 _ rfl rfl rfl
                have e652 : f643 37 = (Value.bool (!x610)) := hf651
                exact OpX.val (Value.bool (!x610)) wd644 rfl (op_move e652) (Ext.refl _) rfl
              · refine ObX.op rfl fun f654 wd655 he656 hout657 hphi658 => ?_
                obtain ⟨S659, hS660, hf661⟩ := hphi658 17 38 _ rfl rfl rfl
                have e662 : f654 38 = (Value.bool (!x610)) := hf661
                exact OpX.skip (wanted_skip rfl rfl e662 hc653) rfl
              · refine ObX.op rfl fun f663 wd664 he665 hout666 hphi667 => ?_
                obtain ⟨S668, hS669, hf670⟩ := hphi667 17 38 _ rfl rfl rfl
                have e671 : f663 38 = (Value.bool (!x610)) := hf670
                exact OpX.skip (wanted_skip rfl rfl e671 hc653) rfl
              · refine ObX.op rfl fun f672 wd673 he674 hout675 hphi676 => ?_
                obtain ⟨S677, hS678, hf679⟩ := hphi676 19 40 _ rfl rfl rfl
                have e680 : f672 40 = undef := hf679
                exact OpX.skip (wanted_skipu rfl rfl e680) rfl
              · refine ObX.op rfl fun f681 wd682 he683 hout684 hphi685 => ?_
                obtain ⟨S686, hS687, hf688⟩ := hphi685 19 40 _ rfl rfl rfl
                have e689 : f681 40 = undef := hf688
                exact OpX.skip (wanted_skipu rfl rfl e689) rfl
              · refine ObX.op rfl fun f690 wd691 he692 hout693 hphi694 => ?_
                obtain ⟨S695, hS696, hf697⟩ := hphi694 19 40 _ rfl rfl rfl
                have e698 : f690 40 = undef := hf697
                exact OpX.skip (wanted_skipu rfl rfl e698) rfl
              · refine ObX.op rfl fun f699 wd700 he701 hout702 hphi703 => ?_
                obtain ⟨S704, hS705, hf706⟩ := hphi703 19 40 _ rfl rfl rfl
                have e707 : f699 40 = undef := hf706
                exact OpX.skip (wanted_skipu rfl rfl e707) rfl
              · refine ObX.op rfl fun f708 wd709 he710 hout711 hphi712 => ?_
                obtain ⟨S713, hS714, hf715⟩ := hphi712 19 40 _ rfl rfl rfl
                have e716 : f708 40 = undef := hf715
                exact OpX.skip (wanted_skipu rfl rfl e716) rfl
              · intro f717 wd718 Ss719 he720 hout721 hSn722 hSd723 hphi724
                show WL _ _ _ _ _ _ _
                have hS725 := St.extend hS48 he720
                obtain ⟨e727, hr728⟩ := hphi724 11 32 _ (by decide) rfl rfl
                have e733 : f717 38 = (Value.bool (!x610)) := hphi724 17 38 _ (by decide) rfl rfl
                have e735 : f717 40 = undef := hphi724 19 40 _ (by decide) rfl rfl
                have e741 : f717 1 = (Value.bool good) := (hout721 1 rfl).trans hf42
                have e742 : f717 2 = v_list := (hout721 2 rfl).trans hf43
                have e743 : f717 3 = (Value.pointer (some ⟨b1, 0, none⟩)) := (hout721 3 rfl).trans hf44
                have e744 : f717 7 = (Value.int .i64 x19) := (hout721 7 rfl).trans hf45
                have e745 : f717 8 = (Value.int .i64 x20) := (hout721 8 rfl).trans hf46
                refine WL.gskipu rfl e735 rfl ?_
                refine WL.gskipu rfl e735 rfl ?_
                refine WL.gskip rfl (bool_of e733 hc653) rfl ?_
                refine WL.val (Value.bool true) _ (op_pick_t (evb_of e733 hc653) rfl) rfl ?_
                refine WL.nil ?_
                obtain rfl := Option.some.inj hj52
                exact ⟨e741, e742, e743, e744, e745, rfl, hS725⟩
            · replace hj52 := inegb hj52 hc653
              rcases Bool.eq_false_or_eq_true good with hc771 | hc771
              · replace hj52 := ip hj52 hc771
                obtain ⟨u838, hc839, hr840⟩ := repSl.el r_list hx85
                refine W.drawR mixo 25 [] [fun _ v _ _ => v = v_list, fun _ v _ _ => v = (Value.int .i64 x20) ∧ InR .i64 x20, fun _ v _ _ => v = (Value.pointer (some (elA v_list (x20).toNat))), fun _ v _ _ => v = u96, fun _ v _ _ => v = (Value.int .i64 ((x82).length : Int)) ∧ InR .i64 ((x82).length : Int), fun _ v _ _ => v = (Value.pointer (some ⟨b1, 0, none⟩)), fun _ v _ _ => v = v_r_Table, fun _ v _ _ => v = (Value.int .i64 ((r_Table).length : Int)) ∧ InR .i64 ((r_Table).length : Int), fun _ v _ _ => v = (Value.bool (((x82).length : Int) != ((r_Table).length : Int))), fun _ v _ _ => v = (Value.bool (((x82).length : Int) != ((r_Table).length : Int))), fun _ v _ _ => v = v_list, fun _ v _ _ => v = (Value.int .i64 x20) ∧ InR .i64 x20, fun _ v _ _ => v = (Value.pointer (some (elA v_list (x20).toNat))), fun _ v _ _ => v = u593, fun _ v _ _ => v = (Value.bool x610), fun _ v _ _ => v = (Value.bool (!x610)), fun _ v _ _ => v = (Value.bool (!x610)), fun _ v _ _ => v = (Value.bool (!x610)), fun _ v _ _ => v = (Value.bool good), fun _ v _ _ => v = (Value.bool good), fun _ v S w' => v = (Value.agg #[v_r_Table]), fun _ v _ _ => v = v_list, fun _ v _ _ => v = (Value.int .i64 x20) ∧ InR .i64 x20, fun _ v _ _ => v = (Value.pointer (some (elA v_list (x20).toNat))), fun _ v _ _ => v = u838] (by kernel_rfl) (by kernel_rfl) ⟨pk, pk, pk, pk, pk, pk, pk, pk, pk, pk, pk, pk, pk, pk, pk, pk, pk, pk, pk, pk, pk, pk, pk, pk, pk, trivial⟩ ⟨?_, ?_, ?_, ?_, ?_, ?_, ?_, ?_, ?_, ?_, ?_, ?_, ?_, ?_, ?_, ?_, ?_, ?_, ?_, ?_, ?_, ?_, ?_, ?_, ?_, trivial⟩ ?_
                · refine ObX.op rfl fun f53 wd54 he55 hout56 hphi57 => ?_
                  have hS58 := St.extend hS48 he55
                  have e59 : f53 2 = v_list := (hout56 2 rfl).trans hf43
                  exact OpX.val v_list wd54 rfl (op_move e59) (Ext.refl _) rfl
                · refine ObX.op rfl fun f60 wd61 he62 hout63 hphi64 => ?_
                  have hS65 := St.extend hS48 he62
                  have e66 : f60 8 = (Value.int .i64 x20) := (hout63 8 rfl).trans hf46
                  exact OpX.val (Value.int .i64 x20) wd61 rfl (op_move e66) (Ext.refl _) ⟨rfl, hr35⟩
                · refine ObX.op rfl fun f67 wd68 he69 hout70 hphi71 => ?_
                  have hS72 := St.extend hS48 he69
                  obtain ⟨S73, hS74, hf75⟩ := hphi71 0 21 _ rfl rfl rfl
                  have e76 : f67 21 = v_list := hf75
                  obtain ⟨S77, hS78, hf79⟩ := hphi71 1 22 _ rfl rfl rfl
                  obtain ⟨e80, hr81⟩ := hf79
                  exact OpX.val (Value.pointer (some (elA v_list (x20).toNat))) wd68 rfl (op_idx sl_46 (Ty.lift _ (Ext.trans hE7 hS72.ext) r_list) e76 e80 ha83 hb84) (Ext.refl _) rfl
                · refine ObX.op rfl fun f86 wd87 he88 hout89 hphi90 => ?_
                  have hS91 := St.extend hS48 he88
                  obtain ⟨S92, hS93, hf94⟩ := hphi90 2 23 _ rfl rfl rfl
                  have e95 : f86 23 = (Value.pointer (some (elA v_list (x20).toNat))) := hf94
                  exact OpX.val u96 wd87 rfl (op_load one_25 e95 (Ext.cell (Ext.trans hE7 hS91.ext) hc97)) (Ext.refl _) rfl
                · refine ObX.op rfl fun f99 wd100 he101 hout102 hphi103 => ?_
                  have hS104 := St.extend hS48 he101
                  obtain ⟨S105, hS106, hf107⟩ := hphi103 3 24 _ rfl rfl rfl
                  have e108 : f99 24 = u96 := hf107
                  have hr109 := inR_len (Ty.lift _ (Ext.trans hE7 hS104.ext) hr98)
                  exact OpX.val (Value.int .i64 ((x82).length : Int)) wd100 rfl (op_lenL sl_25 (Ty.lift _ (Ext.trans hE7 hS104.ext) hr98) e108) (Ext.refl _) ⟨rfl, hr109⟩
                · refine ObX.op rfl fun f110 wd111 he112 hout113 hphi114 => ?_
                  have hS115 := St.extend hS48 he112
                  have e116 : f110 3 = (Value.pointer (some ⟨b1, 0, none⟩)) := (hout113 3 rfl).trans hf44
                  exact OpX.val (Value.pointer (some ⟨b1, 0, none⟩)) wd111 rfl (op_fieldAddr fd_29_0 e116) (Ext.refl _) rfl
                · refine ObX.op rfl fun f117 wd118 he119 hout120 hphi121 => ?_
                  have hS122 := St.extend hS48 he119
                  obtain ⟨S123, hS124, hf125⟩ := hphi121 5 26 _ rfl rfl rfl
                  have e126 : f117 26 = (Value.pointer (some ⟨b1, 0, none⟩)) := hf125
                  exact OpX.val v_r_Table wd118 rfl (op_load one_22 e126 (BoxAt.cell (BoxAt.lift hS122.ext hx6) rfl)) (Ext.refl _) rfl
                · refine ObX.op rfl fun f127 wd128 he129 hout130 hphi131 => ?_
                  have hS132 := St.extend hS48 he129
                  obtain ⟨S133, hS134, hf135⟩ := hphi131 6 27 _ rfl rfl rfl
                  have e136 : f127 27 = v_r_Table := hf135
                  have hr137 := inR_len (Ty.lift _ (Ext.trans hE7 hS132.ext) r_r_Table)
                  exact OpX.val (Value.int .i64 ((r_Table).length : Int)) wd128 rfl (op_lenL sl_22 (Ty.lift _ (Ext.trans hE7 hS132.ext) r_r_Table) e136) (Ext.refl _) ⟨rfl, hr137⟩
                · refine ObX.op rfl fun f138 wd139 he140 hout141 hphi142 => ?_
                  have hS143 := St.extend hS48 he140
                  obtain ⟨S144, hS145, hf146⟩ := hphi142 4 25 _ rfl rfl rfl
                  obtain ⟨e147, hr148⟩ := hf146
                  obtain ⟨S149, hS150, hf151⟩ := hphi142 7 28 _ rfl rfl rfl
                  obtain ⟨e152, hr153⟩ := hf151
                  exact OpX.val (Value.bool (((x82).length : Int) != ((r_Table).length : Int))) wd139 rfl (op_neq e147 e152) (Ext.refl _) rfl
                · refine ObX.op rfl fun f154 wd155 he156 hout157 hphi158 => ?_
                  have hS159 := St.extend hS48 he156
                  obtain ⟨S160, hS161, hf162⟩ := hphi158 8 29 _ rfl rfl rfl
                  have e163 : f154 29 = (Value.bool (((x82).length : Int) != ((r_Table).length : Int))) := hf162
                  exact OpX.val (Value.bool (((x82).length : Int) != ((r_Table).length : Int))) wd155 rfl (op_move e163) (Ext.refl _) rfl
                · refine ObX.op rfl fun f538 wd539 he540 hout541 hphi542 => ?_
                  have hS543 := St.extend hS48 he540
                  have e544 : f538 2 = v_list := (hout541 2 rfl).trans hf43
                  obtain ⟨S545, hS546, hf547⟩ := hphi542 9 30 _ rfl rfl rfl
                  have e548 : f538 30 = (Value.bool (((x82).length : Int) != ((r_Table).length : Int))) := hf547
                  exact OpX.val v_list wd539 (wanted_run rfl rfl e548 hc164) (op_move e544) (Ext.refl _) rfl
                · refine ObX.op rfl fun f549 wd550 he551 hout552 hphi553 => ?_
                  have hS554 := St.extend hS48 he551
                  have e555 : f549 8 = (Value.int .i64 x20) := (hout552 8 rfl).trans hf46
                  obtain ⟨S556, hS557, hf558⟩ := hphi553 9 30 _ rfl rfl rfl
                  have e559 : f549 30 = (Value.bool (((x82).length : Int) != ((r_Table).length : Int))) := hf558
                  exact OpX.val (Value.int .i64 x20) wd550 (wanted_run rfl rfl e559 hc164) (op_move e555) (Ext.refl _) ⟨rfl, hr35⟩
                · refine ObX.op rfl fun f560 wd561 he562 hout563 hphi564 => ?_
                  have hS565 := St.extend hS48 he562
                  obtain ⟨S566, hS567, hf568⟩ := hphi564 9 30 _ rfl rfl rfl
                  have e569 : f560 30 = (Value.bool (((x82).length : Int) != ((r_Table).length : Int))) := hf568
                  obtain ⟨S570, hS571, hf572⟩ := hphi564 10 31 _ rfl rfl rfl
                  have e573 : f560 31 = v_list := hf572
                  obtain ⟨S574, hS575, hf576⟩ := hphi564 11 32 _ rfl rfl rfl
                  obtain ⟨e577, hr578⟩ := hf576
                  exact OpX.val (Value.pointer (some (elA v_list (x20).toNat))) wd561 (wanted_run rfl rfl e569 hc164) (op_idx sl_46 (Ty.lift _ (Ext.trans hE7 hS565.ext) r_list) e573 e577 ha83 hb84) (Ext.refl _) rfl
                · refine ObX.op rfl fun f579 wd580 he581 hout582 hphi583 => ?_
                  have hS584 := St.extend hS48 he581
                  obtain ⟨S585, hS586, hf587⟩ := hphi583 9 30 _ rfl rfl rfl
                  have e588 : f579 30 = (Value.bool (((x82).length : Int) != ((r_Table).length : Int))) := hf587
                  obtain ⟨S589, hS590, hf591⟩ := hphi583 12 33 _ rfl rfl rfl
                  have e592 : f579 33 = (Value.pointer (some (elA v_list (x20).toNat))) := hf591
                  exact OpX.val u593 wd580 (wanted_run rfl rfl e588 hc164) (op_load one_25 e592 (Ext.cell (Ext.trans hE7 hS584.ext) hc594)) (Ext.refl _) rfl
                · refine ObX.op rfl fun f596 wd597 he598 hout599 hphi600 => ?_
                  have hS601 := St.extend hS48 he598
                  obtain ⟨S602, hS603, hf604⟩ := hphi600 9 30 _ rfl rfl rfl
                  have e605 : f596 30 = (Value.bool (((x82).length : Int) != ((r_Table).length : Int))) := hf604
                  obtain ⟨S606, hS607, hf608⟩ := hphi600 13 34 _ rfl rfl rfl
                  have e609 : f596 34 = u593 := hf608
                  refine OpX.call (wanted_run rfl rfl e605 hc164) (op_call fn_39 (args1 e609)) (Ret.mono (c_spec_l01Numbers (Ty.lift _ (Ext.trans hE7 hS601.ext) hr595) hx611) ?_)
                  rintro _ wd612 ⟨rfl, he613⟩
                  exact ⟨he613, _, noS _ _, rfl⟩
                · refine ObX.op rfl fun f615 wd616 he617 hout618 hphi619 => ?_
                  have hS620 := St.extend hS48 he617
                  obtain ⟨S621, hS622, hf623⟩ := hphi619 9 30 _ rfl rfl rfl
                  have e624 : f615 30 = (Value.bool (((x82).length : Int) != ((r_Table).length : Int))) := hf623
                  obtain ⟨S625, hS626, hf627⟩ := hphi619 14 35 _ rfl rfl rfl
                  have e628 : f615 35 = (Value.bool x610) := hf627
                  exact OpX.val (Value.bool (!x610)) wd616 (wanted_run rfl rfl e624 hc164) (op_not e628) (Ext.refl _) rfl
                · refine ObX.op rfl fun f629 wd630 he631 hout632 hphi633 => ?_
                  have hS634 := St.extend hS48 he631
                  obtain ⟨S635, hS636, hf637⟩ := hphi633 9 30 _ rfl rfl rfl
                  have e638 : f629 30 = (Value.bool (((x82).length : Int) != ((r_Table).length : Int))) := hf637
                  obtain ⟨S639, hS640, hf641⟩ := hphi633 15 36 _ rfl rfl rfl
                  have e642 : f629 36 = (Value.bool (!x610)) := hf641
                  exact OpX.val (Value.bool (!x610)) wd630 rfl (op_pick_f (evb_of e638 hc164) e642) (Ext.refl _) rfl
                · refine ObX.op rfl fun f643 wd644 he645 hout646 hphi647 => ?_
                  have hS648 := St.extend hS48 he645
                  obtain ⟨S649, hS650, hf651⟩ := hphi647 16 37 _ rfl rfl rfl
                  have e652 : f643 37 = (Value.bool (!x610)) := hf651
                  exact OpX.val (Value.bool (!x610)) wd644 rfl (op_move e652) (Ext.refl _) rfl
                · refine ObX.op rfl fun f746 wd747 he748 hout749 hphi750 => ?_
                  have hS751 := St.extend hS48 he748
                  have e752 : f746 1 = (Value.bool good) := (hout749 1 rfl).trans hf42
                  obtain ⟨S753, hS754, hf755⟩ := hphi750 17 38 _ rfl rfl rfl
                  have e756 : f746 38 = (Value.bool (!x610)) := hf755
                  exact OpX.val (Value.bool good) wd747 (wanted_run rfl rfl e756 hc653) (op_move e752) (Ext.refl _) rfl
                · refine ObX.op rfl fun f757 wd758 he759 hout760 hphi761 => ?_
                  have hS762 := St.extend hS48 he759
                  obtain ⟨S763, hS764, hf765⟩ := hphi761 17 38 _ rfl rfl rfl
                  have e766 : f757 38 = (Value.bool (!x610)) := hf765
                  obtain ⟨S767, hS768, hf769⟩ := hphi761 18 39 _ rfl rfl rfl
                  have e770 : f757 39 = (Value.bool good) := hf769
                  exact OpX.val (Value.bool good) wd758 (wanted_run rfl rfl e766 hc653) (op_move e770) (Ext.refl _) rfl
                · refine ObX.op rfl fun f772 wd773 he774 hout775 hphi776 => ?_
                  have hS777 := St.extend hS48 he774
                  have e778 : f772 3 = (Value.pointer (some ⟨b1, 0, none⟩)) := (hout775 3 rfl).trans hf44
                  obtain ⟨S779, hS780, hf781⟩ := hphi776 19 40 _ rfl rfl rfl
                  have e782 : f772 40 = (Value.bool good) := hf781
                  exact OpX.val (Value.agg #[v_r_Table]) wd773 (wanted_run rfl rfl e782 hc771) (op_loadBox st_29 e778 (BoxAt.lift hS777.ext hx6) rfl rfl) (Ext.refl _) rfl
                · refine ObX.op rfl fun f783 wd784 he785 hout786 hphi787 => ?_
                  have e789 : f783 2 = v_list := (hout786 2 rfl).trans hf43
                  obtain ⟨S790, hS791, hf792⟩ := hphi787 19 40 _ rfl rfl rfl
                  have e793 : f783 40 = (Value.bool good) := hf792
                  exact OpX.val v_list wd784 (wanted_run rfl rfl e793 hc771) (op_move e789) (Ext.refl _) rfl
                · refine ObX.op rfl fun f794 wd795 he796 hout797 hphi798 => ?_
                  have e800 : f794 8 = (Value.int .i64 x20) := (hout797 8 rfl).trans hf46
                  obtain ⟨S801, hS802, hf803⟩ := hphi798 19 40 _ rfl rfl rfl
                  have e804 : f794 40 = (Value.bool good) := hf803
                  exact OpX.val (Value.int .i64 x20) wd795 (wanted_run rfl rfl e804 hc771) (op_move e800) (Ext.refl _) ⟨rfl, hr35⟩
                · refine ObX.op rfl fun f805 wd806 he807 hout808 hphi809 => ?_
                  have hS810 := St.extend hS48 he807
                  obtain ⟨S811, hS812, hf813⟩ := hphi809 19 40 _ rfl rfl rfl
                  have e814 : f805 40 = (Value.bool good) := hf813
                  obtain ⟨S815, hS816, hf817⟩ := hphi809 21 42 _ rfl rfl rfl
                  have e818 : f805 42 = v_list := hf817
                  obtain ⟨S819, hS820, hf821⟩ := hphi809 22 43 _ rfl rfl rfl
                  obtain ⟨e822, hr823⟩ := hf821
                  exact OpX.val (Value.pointer (some (elA v_list (x20).toNat))) wd806 (wanted_run rfl rfl e814 hc771) (op_idx sl_46 (Ty.lift _ (Ext.trans hE7 hS810.ext) r_list) e818 e822 ha83 hb84) (Ext.refl _) rfl
                · refine ObX.op rfl fun f824 wd825 he826 hout827 hphi828 => ?_
                  have hS829 := St.extend hS48 he826
                  obtain ⟨S830, hS831, hf832⟩ := hphi828 19 40 _ rfl rfl rfl
                  have e833 : f824 40 = (Value.bool good) := hf832
                  obtain ⟨S834, hS835, hf836⟩ := hphi828 23 44 _ rfl rfl rfl
                  have e837 : f824 44 = (Value.pointer (some (elA v_list (x20).toNat))) := hf836
                  exact OpX.val u838 wd825 (wanted_run rfl rfl e833 hc771) (op_load one_25 e837 (Ext.cell (Ext.trans hE7 hS829.ext) hc839)) (Ext.refl _) rfl
                · intro f841 wd842 Ss843 he844 hout845 hSn846 hSd847 hphi848
                  show WL _ _ _ _ _ _ _
                  have hS849 := St.extend hS48 he844
                  obtain ⟨e851, hr852⟩ := hphi848 11 32 _ (by decide) rfl rfl
                  have e857 : f841 38 = (Value.bool (!x610)) := hphi848 17 38 _ (by decide) rfl rfl
                  have e859 : f841 40 = (Value.bool good) := hphi848 19 40 _ (by decide) rfl rfl
                  have e860 : f841 41 = (Value.agg #[v_r_Table]) := hphi848 20 41 _ (by decide) rfl rfl
                  obtain ⟨e862, hr863⟩ := hphi848 22 43 _ (by decide) rfl rfl
                  have e865 : f841 45 = u838 := hphi848 24 45 _ (by decide) rfl rfl
                  have e866 : f841 1 = (Value.bool good) := (hout845 1 rfl).trans hf42
                  have e867 : f841 2 = v_list := (hout845 2 rfl).trans hf43
                  have e868 : f841 3 = (Value.pointer (some ⟨b1, 0, none⟩)) := (hout845 3 rfl).trans hf44
                  have e869 : f841 7 = (Value.int .i64 x19) := (hout845 7 rfl).trans hf45
                  have e870 : f841 8 = (Value.int .i64 x20) := (hout845 8 rfl).trans hf46
                  refine WL.grun rfl (bool_of e859 hc771) ?_
                  obtain ⟨x871, hx872, hj52⟩ := bs hj52
                  refine WL.call _ (op_call fn_40 (args2 e860 e865)) (c_spec_l08Is (Ty.lift _ (Ext.trans hE7 hS849.ext) r_r_Table) (Ty.lift _ (Ext.trans hE7 hS849.ext) hr840) hx872) rfl ?_
                  rintro _ wd873 ⟨rfl, he874⟩
                  have hS876 := St.extend hS849 he874
                  replace hS876 : St wd2 wd873 [] := hS876
                  refine WL.grun rfl (bool_of e859 hc771) ?_
                  refine WL.val (Value.bool (!x871)) _ (op_not rfl) rfl ?_
                  refine WL.grun rfl (bool_of e857 hc653) ?_
                  refine WL.val (Value.bool (!x871)) _ (op_pick_t (evb_of e859 hc771) rfl) rfl ?_
                  refine WL.val (Value.bool (!x871)) _ (op_pick_f (evb_of e857 hc653) rfl) rfl ?_
                  refine WL.nil ?_
                  obtain rfl := Option.some.inj hj52
                  exact ⟨e866, e867, e868, e869, e870, rfl, hS876⟩
              · replace hj52 := inegb hj52 hc771
                refine W.drawR mixo 25 [] [fun _ v _ _ => v = v_list, fun _ v _ _ => v = (Value.int .i64 x20) ∧ InR .i64 x20, fun _ v _ _ => v = (Value.pointer (some (elA v_list (x20).toNat))), fun _ v _ _ => v = u96, fun _ v _ _ => v = (Value.int .i64 ((x82).length : Int)) ∧ InR .i64 ((x82).length : Int), fun _ v _ _ => v = (Value.pointer (some ⟨b1, 0, none⟩)), fun _ v _ _ => v = v_r_Table, fun _ v _ _ => v = (Value.int .i64 ((r_Table).length : Int)) ∧ InR .i64 ((r_Table).length : Int), fun _ v _ _ => v = (Value.bool (((x82).length : Int) != ((r_Table).length : Int))), fun _ v _ _ => v = (Value.bool (((x82).length : Int) != ((r_Table).length : Int))), fun _ v _ _ => v = v_list, fun _ v _ _ => v = (Value.int .i64 x20) ∧ InR .i64 x20, fun _ v _ _ => v = (Value.pointer (some (elA v_list (x20).toNat))), fun _ v _ _ => v = u593, fun _ v _ _ => v = (Value.bool x610), fun _ v _ _ => v = (Value.bool (!x610)), fun _ v _ _ => v = (Value.bool (!x610)), fun _ v _ _ => v = (Value.bool (!x610)), fun _ v _ _ => v = (Value.bool good), fun _ v _ _ => v = (Value.bool good), fun _ v _ _ => v = undef, fun _ v _ _ => v = undef, fun _ v _ _ => v = undef, fun _ v _ _ => v = undef, fun _ v _ _ => v = undef] (by kernel_rfl) (by kernel_rfl) ⟨pk, pk, pk, pk, pk, pk, pk, pk, pk, pk, pk, pk, pk, pk, pk, pk, pk, pk, pk, pk, pk, pk, pk, pk, pk, trivial⟩ ⟨?_, ?_, ?_, ?_, ?_, ?_, ?_, ?_, ?_, ?_, ?_, ?_, ?_, ?_, ?_, ?_, ?_, ?_, ?_, ?_, ?_, ?_, ?_, ?_, ?_, trivial⟩ ?_
                · refine ObX.op rfl fun f53 wd54 he55 hout56 hphi57 => ?_
                  have hS58 := St.extend hS48 he55
                  have e59 : f53 2 = v_list := (hout56 2 rfl).trans hf43
                  exact OpX.val v_list wd54 rfl (op_move e59) (Ext.refl _) rfl
                · refine ObX.op rfl fun f60 wd61 he62 hout63 hphi64 => ?_
                  have hS65 := St.extend hS48 he62
                  have e66 : f60 8 = (Value.int .i64 x20) := (hout63 8 rfl).trans hf46
                  exact OpX.val (Value.int .i64 x20) wd61 rfl (op_move e66) (Ext.refl _) ⟨rfl, hr35⟩
                · refine ObX.op rfl fun f67 wd68 he69 hout70 hphi71 => ?_
                  have hS72 := St.extend hS48 he69
                  obtain ⟨S73, hS74, hf75⟩ := hphi71 0 21 _ rfl rfl rfl
                  have e76 : f67 21 = v_list := hf75
                  obtain ⟨S77, hS78, hf79⟩ := hphi71 1 22 _ rfl rfl rfl
                  obtain ⟨e80, hr81⟩ := hf79
                  exact OpX.val (Value.pointer (some (elA v_list (x20).toNat))) wd68 rfl (op_idx sl_46 (Ty.lift _ (Ext.trans hE7 hS72.ext) r_list) e76 e80 ha83 hb84) (Ext.refl _) rfl
                · refine ObX.op rfl fun f86 wd87 he88 hout89 hphi90 => ?_
                  have hS91 := St.extend hS48 he88
                  obtain ⟨S92, hS93, hf94⟩ := hphi90 2 23 _ rfl rfl rfl
                  have e95 : f86 23 = (Value.pointer (some (elA v_list (x20).toNat))) := hf94
                  exact OpX.val u96 wd87 rfl (op_load one_25 e95 (Ext.cell (Ext.trans hE7 hS91.ext) hc97)) (Ext.refl _) rfl
                · refine ObX.op rfl fun f99 wd100 he101 hout102 hphi103 => ?_
                  have hS104 := St.extend hS48 he101
                  obtain ⟨S105, hS106, hf107⟩ := hphi103 3 24 _ rfl rfl rfl
                  have e108 : f99 24 = u96 := hf107
                  have hr109 := inR_len (Ty.lift _ (Ext.trans hE7 hS104.ext) hr98)
                  exact OpX.val (Value.int .i64 ((x82).length : Int)) wd100 rfl (op_lenL sl_25 (Ty.lift _ (Ext.trans hE7 hS104.ext) hr98) e108) (Ext.refl _) ⟨rfl, hr109⟩
                · refine ObX.op rfl fun f110 wd111 he112 hout113 hphi114 => ?_
                  have hS115 := St.extend hS48 he112
                  have e116 : f110 3 = (Value.pointer (some ⟨b1, 0, none⟩)) := (hout113 3 rfl).trans hf44
                  exact OpX.val (Value.pointer (some ⟨b1, 0, none⟩)) wd111 rfl (op_fieldAddr fd_29_0 e116) (Ext.refl _) rfl
                · refine ObX.op rfl fun f117 wd118 he119 hout120 hphi121 => ?_
                  have hS122 := St.extend hS48 he119
                  obtain ⟨S123, hS124, hf125⟩ := hphi121 5 26 _ rfl rfl rfl
                  have e126 : f117 26 = (Value.pointer (some ⟨b1, 0, none⟩)) := hf125
                  exact OpX.val v_r_Table wd118 rfl (op_load one_22 e126 (BoxAt.cell (BoxAt.lift hS122.ext hx6) rfl)) (Ext.refl _) rfl
                · refine ObX.op rfl fun f127 wd128 he129 hout130 hphi131 => ?_
                  have hS132 := St.extend hS48 he129
                  obtain ⟨S133, hS134, hf135⟩ := hphi131 6 27 _ rfl rfl rfl
                  have e136 : f127 27 = v_r_Table := hf135
                  have hr137 := inR_len (Ty.lift _ (Ext.trans hE7 hS132.ext) r_r_Table)
                  exact OpX.val (Value.int .i64 ((r_Table).length : Int)) wd128 rfl (op_lenL sl_22 (Ty.lift _ (Ext.trans hE7 hS132.ext) r_r_Table) e136) (Ext.refl _) ⟨rfl, hr137⟩
                · refine ObX.op rfl fun f138 wd139 he140 hout141 hphi142 => ?_
                  have hS143 := St.extend hS48 he140
                  obtain ⟨S144, hS145, hf146⟩ := hphi142 4 25 _ rfl rfl rfl
                  obtain ⟨e147, hr148⟩ := hf146
                  obtain ⟨S149, hS150, hf151⟩ := hphi142 7 28 _ rfl rfl rfl
                  obtain ⟨e152, hr153⟩ := hf151
                  exact OpX.val (Value.bool (((x82).length : Int) != ((r_Table).length : Int))) wd139 rfl (op_neq e147 e152) (Ext.refl _) rfl
                · refine ObX.op rfl fun f154 wd155 he156 hout157 hphi158 => ?_
                  have hS159 := St.extend hS48 he156
                  obtain ⟨S160, hS161, hf162⟩ := hphi158 8 29 _ rfl rfl rfl
                  have e163 : f154 29 = (Value.bool (((x82).length : Int) != ((r_Table).length : Int))) := hf162
                  exact OpX.val (Value.bool (((x82).length : Int) != ((r_Table).length : Int))) wd155 rfl (op_move e163) (Ext.refl _) rfl
                · refine ObX.op rfl fun f538 wd539 he540 hout541 hphi542 => ?_
                  have hS543 := St.extend hS48 he540
                  have e544 : f538 2 = v_list := (hout541 2 rfl).trans hf43
                  obtain ⟨S545, hS546, hf547⟩ := hphi542 9 30 _ rfl rfl rfl
                  have e548 : f538 30 = (Value.bool (((x82).length : Int) != ((r_Table).length : Int))) := hf547
                  exact OpX.val v_list wd539 (wanted_run rfl rfl e548 hc164) (op_move e544) (Ext.refl _) rfl
                · refine ObX.op rfl fun f549 wd550 he551 hout552 hphi553 => ?_
                  have hS554 := St.extend hS48 he551
                  have e555 : f549 8 = (Value.int .i64 x20) := (hout552 8 rfl).trans hf46
                  obtain ⟨S556, hS557, hf558⟩ := hphi553 9 30 _ rfl rfl rfl
                  have e559 : f549 30 = (Value.bool (((x82).length : Int) != ((r_Table).length : Int))) := hf558
                  exact OpX.val (Value.int .i64 x20) wd550 (wanted_run rfl rfl e559 hc164) (op_move e555) (Ext.refl _) ⟨rfl, hr35⟩
                · refine ObX.op rfl fun f560 wd561 he562 hout563 hphi564 => ?_
                  have hS565 := St.extend hS48 he562
                  obtain ⟨S566, hS567, hf568⟩ := hphi564 9 30 _ rfl rfl rfl
                  have e569 : f560 30 = (Value.bool (((x82).length : Int) != ((r_Table).length : Int))) := hf568
                  obtain ⟨S570, hS571, hf572⟩ := hphi564 10 31 _ rfl rfl rfl
                  have e573 : f560 31 = v_list := hf572
                  obtain ⟨S574, hS575, hf576⟩ := hphi564 11 32 _ rfl rfl rfl
                  obtain ⟨e577, hr578⟩ := hf576
                  exact OpX.val (Value.pointer (some (elA v_list (x20).toNat))) wd561 (wanted_run rfl rfl e569 hc164) (op_idx sl_46 (Ty.lift _ (Ext.trans hE7 hS565.ext) r_list) e573 e577 ha83 hb84) (Ext.refl _) rfl
                · refine ObX.op rfl fun f579 wd580 he581 hout582 hphi583 => ?_
                  have hS584 := St.extend hS48 he581
                  obtain ⟨S585, hS586, hf587⟩ := hphi583 9 30 _ rfl rfl rfl
                  have e588 : f579 30 = (Value.bool (((x82).length : Int) != ((r_Table).length : Int))) := hf587
                  obtain ⟨S589, hS590, hf591⟩ := hphi583 12 33 _ rfl rfl rfl
                  have e592 : f579 33 = (Value.pointer (some (elA v_list (x20).toNat))) := hf591
                  exact OpX.val u593 wd580 (wanted_run rfl rfl e588 hc164) (op_load one_25 e592 (Ext.cell (Ext.trans hE7 hS584.ext) hc594)) (Ext.refl _) rfl
                · refine ObX.op rfl fun f596 wd597 he598 hout599 hphi600 => ?_
                  have hS601 := St.extend hS48 he598
                  obtain ⟨S602, hS603, hf604⟩ := hphi600 9 30 _ rfl rfl rfl
                  have e605 : f596 30 = (Value.bool (((x82).length : Int) != ((r_Table).length : Int))) := hf604
                  obtain ⟨S606, hS607, hf608⟩ := hphi600 13 34 _ rfl rfl rfl
                  have e609 : f596 34 = u593 := hf608
                  refine OpX.call (wanted_run rfl rfl e605 hc164) (op_call fn_39 (args1 e609)) (Ret.mono (c_spec_l01Numbers (Ty.lift _ (Ext.trans hE7 hS601.ext) hr595) hx611) ?_)
                  rintro _ wd612 ⟨rfl, he613⟩
                  exact ⟨he613, _, noS _ _, rfl⟩
                · refine ObX.op rfl fun f615 wd616 he617 hout618 hphi619 => ?_
                  have hS620 := St.extend hS48 he617
                  obtain ⟨S621, hS622, hf623⟩ := hphi619 9 30 _ rfl rfl rfl
                  have e624 : f615 30 = (Value.bool (((x82).length : Int) != ((r_Table).length : Int))) := hf623
                  obtain ⟨S625, hS626, hf627⟩ := hphi619 14 35 _ rfl rfl rfl
                  have e628 : f615 35 = (Value.bool x610) := hf627
                  exact OpX.val (Value.bool (!x610)) wd616 (wanted_run rfl rfl e624 hc164) (op_not e628) (Ext.refl _) rfl
                · refine ObX.op rfl fun f629 wd630 he631 hout632 hphi633 => ?_
                  have hS634 := St.extend hS48 he631
                  obtain ⟨S635, hS636, hf637⟩ := hphi633 9 30 _ rfl rfl rfl
                  have e638 : f629 30 = (Value.bool (((x82).length : Int) != ((r_Table).length : Int))) := hf637
                  obtain ⟨S639, hS640, hf641⟩ := hphi633 15 36 _ rfl rfl rfl
                  have e642 : f629 36 = (Value.bool (!x610)) := hf641
                  exact OpX.val (Value.bool (!x610)) wd630 rfl (op_pick_f (evb_of e638 hc164) e642) (Ext.refl _) rfl
                · refine ObX.op rfl fun f643 wd644 he645 hout646 hphi647 => ?_
                  have hS648 := St.extend hS48 he645
                  obtain ⟨S649, hS650, hf651⟩ := hphi647 16 37 _ rfl rfl rfl
                  have e652 : f643 37 = (Value.bool (!x610)) := hf651
                  exact OpX.val (Value.bool (!x610)) wd644 rfl (op_move e652) (Ext.refl _) rfl
                · refine ObX.op rfl fun f746 wd747 he748 hout749 hphi750 => ?_
                  have hS751 := St.extend hS48 he748
                  have e752 : f746 1 = (Value.bool good) := (hout749 1 rfl).trans hf42
                  obtain ⟨S753, hS754, hf755⟩ := hphi750 17 38 _ rfl rfl rfl
                  have e756 : f746 38 = (Value.bool (!x610)) := hf755
                  exact OpX.val (Value.bool good) wd747 (wanted_run rfl rfl e756 hc653) (op_move e752) (Ext.refl _) rfl
                · refine ObX.op rfl fun f757 wd758 he759 hout760 hphi761 => ?_
                  have hS762 := St.extend hS48 he759
                  obtain ⟨S763, hS764, hf765⟩ := hphi761 17 38 _ rfl rfl rfl
                  have e766 : f757 38 = (Value.bool (!x610)) := hf765
                  obtain ⟨S767, hS768, hf769⟩ := hphi761 18 39 _ rfl rfl rfl
                  have e770 : f757 39 = (Value.bool good) := hf769
                  exact OpX.val (Value.bool good) wd758 (wanted_run rfl rfl e766 hc653) (op_move e770) (Ext.refl _) rfl
                · refine ObX.op rfl fun f877 wd878 he879 hout880 hphi881 => ?_
                  obtain ⟨S882, hS883, hf884⟩ := hphi881 19 40 _ rfl rfl rfl
                  have e885 : f877 40 = (Value.bool good) := hf884
                  exact OpX.skip (wanted_skip rfl rfl e885 hc771) rfl
                · refine ObX.op rfl fun f886 wd887 he888 hout889 hphi890 => ?_
                  obtain ⟨S891, hS892, hf893⟩ := hphi890 19 40 _ rfl rfl rfl
                  have e894 : f886 40 = (Value.bool good) := hf893
                  exact OpX.skip (wanted_skip rfl rfl e894 hc771) rfl
                · refine ObX.op rfl fun f895 wd896 he897 hout898 hphi899 => ?_
                  obtain ⟨S900, hS901, hf902⟩ := hphi899 19 40 _ rfl rfl rfl
                  have e903 : f895 40 = (Value.bool good) := hf902
                  exact OpX.skip (wanted_skip rfl rfl e903 hc771) rfl
                · refine ObX.op rfl fun f904 wd905 he906 hout907 hphi908 => ?_
                  obtain ⟨S909, hS910, hf911⟩ := hphi908 19 40 _ rfl rfl rfl
                  have e912 : f904 40 = (Value.bool good) := hf911
                  exact OpX.skip (wanted_skip rfl rfl e912 hc771) rfl
                · refine ObX.op rfl fun f913 wd914 he915 hout916 hphi917 => ?_
                  obtain ⟨S918, hS919, hf920⟩ := hphi917 19 40 _ rfl rfl rfl
                  have e921 : f913 40 = (Value.bool good) := hf920
                  exact OpX.skip (wanted_skip rfl rfl e921 hc771) rfl
                · intro f922 wd923 Ss924 he925 hout926 hSn927 hSd928 hphi929
                  show WL _ _ _ _ _ _ _
                  have hS930 := St.extend hS48 he925
                  obtain ⟨e932, hr933⟩ := hphi929 11 32 _ (by decide) rfl rfl
                  have e938 : f922 38 = (Value.bool (!x610)) := hphi929 17 38 _ (by decide) rfl rfl
                  have e940 : f922 40 = (Value.bool good) := hphi929 19 40 _ (by decide) rfl rfl
                  have e946 : f922 1 = (Value.bool good) := (hout926 1 rfl).trans hf42
                  have e947 : f922 2 = v_list := (hout926 2 rfl).trans hf43
                  have e948 : f922 3 = (Value.pointer (some ⟨b1, 0, none⟩)) := (hout926 3 rfl).trans hf44
                  have e949 : f922 7 = (Value.int .i64 x19) := (hout926 7 rfl).trans hf45
                  have e950 : f922 8 = (Value.int .i64 x20) := (hout926 8 rfl).trans hf46
                  refine WL.gskip rfl (bool_of e940 hc771) rfl ?_
                  refine WL.gskip rfl (bool_of e940 hc771) rfl ?_
                  refine WL.grun rfl (bool_of e938 hc653) ?_
                  refine WL.val (Value.bool false) _ (op_pick_f (evb_of e940 hc771) rfl) rfl ?_
                  refine WL.val (Value.bool false) _ (op_pick_f (evb_of e938 hc653) rfl) rfl ?_
                  refine WL.nil ?_
                  obtain rfl := Option.some.inj hj52
                  exact ⟨e946, e947, e948, e949, e950, rfl, hS930⟩
        · intro f951 wd952 hq953
          obtain ⟨hf954, hf955, hf956, hf957, hf958, hf959, hS960⟩ := hq953
          show W _ _ _ _ _ _
          obtain ⟨x961, hj962, hb25⟩ := bs hb25
          refine W.cutCode (fun fq wq => fq 1 = (Value.bool good) ∧ fq 2 = v_list ∧ fq 3 = (Value.pointer (some ⟨b1, 0, none⟩)) ∧ fq 7 = Value.int .i64 x961 ∧ InR .i64 x961 ∧ fq 8 = (Value.int .i64 x20) ∧ St wd2 wq []) ?_ ?_
          · refine W.cond x51 hf959 (fun hc963 => ?_) (fun hc963 => ?_)
            · replace hj962 := ip hj962 hc963
              refine W.region ?_
              refine WL.val (Value.int .i64 (2 : Int)) _ (op_assign rfl) rfl ?_
              refine WL.nil ?_
              obtain rfl := Option.some.inj hj962
              exact ⟨hf954, hf955, hf956, rfl, (inL rfl), hf958, hS960⟩
            · replace hj962 := inegb hj962 hc963
              refine W.skip ?_
              obtain rfl := Option.some.inj hj962
              exact ⟨hf954, hf955, hf956, hf957, hr33, hf958, hS960⟩
          · intro f964 wd965 hq966
            obtain ⟨hf967, hf968, hf969, hf970, hr971, hf972, hS973⟩ := hq966
            show W _ _ _ _ _ _
            refine W.region ?_
            refine WL.val (Value.int .i64 x20) _ (op_move hf972) rfl ?_
            refine WL.val (Value.int .i64 (w64 (x20 + (1 : Int)))) _ (op_add rfl rfl) rfl ?_
            refine WL.val (Value.int .i64 (w64 (x20 + (1 : Int)))) _ (op_assign rfl) rfl ?_
            refine WL.nil ?_
            obtain rfl := Option.some.inj hb25
            show ∃ s, _ = Ctl.next s ∧ _
            exact ⟨_, rfl, hf967, hf968, hf969, hf970, hr971, rfl, (inR_wrap _ _), hS973⟩
      · replace hb25 := inegb hb25 hc49
        refine W.exit ?_
        obtain rfl := Option.some.inj hb25
        show _ = _ ∧ _
        exact ⟨rfl, _, hbrk27 _ rfl, hf45, hr33, hS48⟩
  · rintro f975 wd976 ⟨s978, rfl, hq977⟩
    replace h := onRes_fin h
    obtain ⟨x979, x980⟩ := s978
    replace hq977 : f975 7 = Value.int .i64 x979 ∧ InR .i64 x979 ∧ St wd2 wd976 [] := hq977
    replace h : (_ : Option _) = _ := h
    dsimp only at h
    obtain ⟨hf981, hr982, hS983⟩ := hq977
    refine W.seq (W.region ?_)
    refine WL.val (Value.int .i64 x979) _ (op_move hf981) rfl ?_
    refine WL.val (Value.int .i64 x979) _ (op_assign rfl) rfl ?_
    refine WL.nil ?_
    refine W.ret ?_
    obtain rfl := Option.some.inj h
    show FinP _ _ _ _ _ _ _
    exact FinP.ret _ (res1 rfl rfl) ⟨rfl, hr982, (Ext.trans hE7 hS983.ext)⟩

theorem c_impl_within {w : World} {n : Int} {low : Int} {high : Int} (r_n : InR .i64 n) (r_low : InR .i64 low) (r_high : InR .i64 high) {res : Bool} (h : p_impl_within n low high  = some res) :
    Ret Try.prog 80 #[(Value.int .i64 n), (Value.int .i64 low), (Value.int .i64 high)] w (fun v w' => v = Value.bool res ∧ Ext w w') := by
  unfold p_impl_within at h
  have hS0 : St w w [] := St.start w
  refine Ret.start (fn := Try.f80) Try.func80 rfl 15 rfl rfl ?_
  refine W.seq (W.region ?_)
  refine WL.val (Value.bool false) _ (op_assign rfl) rfl ?_
  refine WL.nil ?_
  refine W.seq (W.region ?_)
  refine WL.val (Value.int .i64 n) _ (op_move rfl) rfl ?_
  refine WL.val (Value.int .i64 low) _ (op_move rfl) rfl ?_
  refine WL.val (Value.bool (decide (n ≥ low))) _ (op_geq rfl rfl) rfl ?_
  refine WL.val (Value.bool (decide (n ≥ low))) _ (op_move rfl) rfl ?_
  refine WL.cut 4 (fun fq wq => fq 14 = (Value.bool ((decide (n ≥ low)) && (decide (n ≤ high)))) ∧ St w wq []) ?_ ?_
  · rcases Bool.eq_false_or_eq_true (decide (n ≥ low)) with hc1 | hc1
    · refine WL.grun rfl (bool_of rfl hc1) ?_
      refine WL.val (Value.int .i64 n) _ (op_move rfl) rfl ?_
      refine WL.grun rfl (bool_of rfl hc1) ?_
      refine WL.val (Value.int .i64 high) _ (op_move rfl) rfl ?_
      refine WL.grun rfl (bool_of rfl hc1) ?_
      refine WL.val (Value.bool (decide (n ≤ high))) _ (op_leq rfl rfl) rfl ?_
      refine WL.val (Value.bool (decide (n ≤ high))) _ (op_pick_t (evb_of rfl hc1) rfl) rfl ?_
      refine WL.nil ?_
      exact ⟨rfl, (andT hc1), hS0⟩
    · refine WL.gskip rfl (bool_of rfl hc1) rfl ?_
      refine WL.gskip rfl (bool_of rfl hc1) rfl ?_
      refine WL.gskip rfl (bool_of rfl hc1) rfl ?_
      refine WL.val (Value.bool false) _ (op_pick_f (evb_of rfl hc1) rfl) rfl ?_
      refine WL.nil ?_
      exact ⟨rfl, (andF hc1), hS0⟩
  · intro f2 wd3 hq4
    obtain ⟨hf5, hS6⟩ := hq4
    refine WL.val (Value.bool ((decide (n ≥ low)) && (decide (n ≤ high)))) _ (op_assign hf5) rfl ?_
    refine WL.nil ?_
    refine W.ret ?_
    obtain rfl := Option.some.inj h
    show FinP _ _ _ _ _ _ _
    exact FinP.ret _ (res1 rfl rfl) ⟨rfl, hS6.ext⟩

theorem c_impl_allWithin_c1 {w : World} {n : Int} {b_c0 : Nat} {c0 : Int} {b_c1 : Nat} {c1 : Int} (r_n : InR .i64 n) (k_c0 : BoxAt w b_c0 [(Value.int .i64 c0)]) (r_c0 : InR .i64 c0) (k_c1 : BoxAt w b_c1 [(Value.int .i64 c1)]) (r_c1 : InR .i64 c1) {res : Bool} (h : p_impl_allWithin_c1 n c0 c1 = some res) :
    Ret Try.prog 79 #[(Value.int .i64 n), (Value.pointer (some ⟨b_c0, 0, none⟩)), (Value.pointer (some ⟨b_c1, 0, none⟩))] w (fun v w' => v = Value.bool res ∧ Ext w w') := by
  unfold p_impl_allWithin_c1 at h
  have hS0 : St w w [] := St.start w
  refine Ret.start (fn := Try.f79) Try.func79 rfl 10 rfl rfl ?_
  refine W.seq (W.region ?_)
  refine WL.val (Value.bool false) _ (op_assign rfl) rfl ?_
  refine WL.nil ?_
  refine W.seq (W.region ?_)
  refine WL.val (Value.int .i64 n) _ (op_move rfl) rfl ?_
  refine WL.val (Value.int .i64 c0) _ (op_load one_2 rfl (BoxAt.cell (BoxAt.lift hS0.ext k_c0) rfl)) rfl ?_
  refine WL.val (Value.int .i64 c1) _ (op_load one_2 rfl (BoxAt.cell (BoxAt.lift hS0.ext k_c1) rfl)) rfl ?_
  obtain ⟨x1, hx2, h⟩ := bs h
  refine WL.call _ (op_call fn_80 (args3 rfl rfl rfl)) (c_impl_within r_n r_c0 r_c1 hx2) rfl ?_
  rintro _ wd3 ⟨rfl, he4⟩
  have hS6 := St.extend hS0 he4
  replace hS6 : St w wd3 [] := hS6
  refine WL.val (Value.bool (!x1)) _ (op_not rfl) rfl ?_
  refine WL.val (Value.bool (!x1)) _ (op_assign rfl) rfl ?_
  refine WL.nil ?_
  refine W.ret ?_
  obtain rfl := Option.some.inj h
  show FinP _ _ _ _ _ _ _
  exact FinP.ret _ (res1 rfl rfl) ⟨rfl, hS6.ext⟩

theorem c_slices_IndexFunc_Lint64_int64 {w : World} {s1 : (List Int)} {v_s1 : Value} {f1 : Int → Option Bool} {v_f1 : Value} (r_s1 : (Ty.sl (Ty.i .i64)).rep w v_s1 s1) (r_f1 : FnT_i_to_b Try.prog v_f1 w f1) {res : Int} (h : p_slices_IndexFunc_Lint64_int64 s1 f1  = some res) :
    Ret Try.prog 83 #[v_s1, v_f1] w (fun v w' => v = Value.int .i64 res ∧ InR .i64 res ∧ Ext w w') := by
  unfold p_slices_IndexFunc_Lint64_int64 at h
  have hS0 : St w w [] := St.start w
  have q_f1 := r_f1
  obtain ⟨g_f1, fst_f1, cap_f1, eq_f1, ok_f1, call_f1⟩ := q_f1
  subst eq_f1
  refine Ret.start (fn := Try.f83) Try.func83 rfl 19 rfl rfl ?_
  refine W.seq (W.region ?_)
  refine WL.val (Value.int .i64 (0 : Int)) _ (op_assign rfl) rfl ?_
  refine WL.nil ?_
  refine W.seq (W.seq (W.region ?_))
  refine WL.val v_s1 _ (op_move rfl) rfl ?_
  have hr1 := inR_len (Ty.lift _ hS0.ext r_s1)
  refine WL.val (Value.int .i64 ((s1).length : Int)) _ (op_lenL sl_25 (Ty.lift _ hS0.ext r_s1) rfl) rfl ?_
  refine WL.val (Value.int .i64 (0 : Int)) _ (op_move rfl) rfl ?_
  refine WL.nil ?_
  show W _ _ _ _ _ _
  obtain ⟨res2, hres3, h⟩ := bs h
  refine W.blockLoop (fun fq wq => ∃ s, res2 = Res.fin s ∧ St w wq []) ?_ ?_
  · refine W.forN (fun k (s : Unit) fq wq => fq 0 = v_s1 ∧ fq 1 = (Value.func (.func g_f1) fst_f1 cap_f1) ∧ fq 7 = (Value.int .i64 ((s1).length : Int)) ∧ fq 8 = Value.int .i64 (k : Int) ∧ InR .i64 (k : Int) ∧ St w wq []) hres3 ⟨rfl, rfl, rfl, rfl, (inL rfl), hS0⟩ ?_ ?_
    · intro k4 s36 ct5 f6 wd7 hk8 hb9 hI10 hbrk11 hret12
      obtain ⟨⟩ := s36
      replace hI10 : f6 0 = v_s1 ∧ f6 1 = (Value.func (.func g_f1) fst_f1 cap_f1) ∧ f6 7 = (Value.int .i64 ((s1).length : Int)) ∧ f6 8 = Value.int .i64 (k4 : Int) ∧ InR .i64 (k4 : Int) ∧ St w wd7 [] := hI10
      replace hb9 : p_slices_IndexFunc_Lint64_int64_L1 s1 f1 k4  = some ct5 := hb9
      unfold p_slices_IndexFunc_Lint64_int64_L1 at hb9
      obtain ⟨hf13, hf14, hf15, hf16, hr17, hS18⟩ := hI10
      refine W.seq (W.region ?_)
      refine WL.val (Value.bool (decide ((k4 : Int) < ((s1).length : Int)))) _ (op_lss hf16 hf15) rfl ?_
      have hl19 : (k4 : Int) < ((s1).length : Int) := by omega
      refine WL.nil ?_
      refine W.seq ?_
      refine W.condT (decide ((k4 : Int) < ((s1).length : Int))) rfl (decide_eq_true hl19) ?_
      refine W.skip ?_
      refine W.seq ?_
      refine W.block ?_
      refine W.seq (W.region ?_)
      refine WL.val (Value.int .i64 (k4 : Int)) _ (op_move hf16) rfl ?_
      refine WL.val (Value.int .i64 (k4 : Int)) _ (op_assign rfl) rfl ?_
      refine WL.nil ?_
      refine W.seq (W.region ?_)
      refine WL.val (Value.func (.func g_f1) fst_f1 cap_f1) _ (op_move hf14) rfl ?_
      refine WL.val v_s1 _ (op_move hf13) rfl ?_
      refine WL.val (Value.int .i64 (k4 : Int)) _ (op_move rfl) rfl ?_
      obtain ⟨x21, hx24, hb9⟩ := bs hb9
      obtain ⟨ha22, hb23, hx24⟩ := idx_some hx24
      refine WL.val (Value.pointer (some (elA v_s1 ((k4 : Int)).toNat))) _ (op_idx sl_25 (Ty.lift _ hS18.ext r_s1) rfl rfl ha22 hb23) rfl ?_
      obtain ⟨u25, hc26, hr27⟩ := repSl.el r_s1 hx24
      obtain ⟨rfl, hr27⟩ := hr27
      refine WL.val (Value.int .i64 x21) _ (op_load one_2 rfl (Ext.cell hS18.ext hc26)) rfl ?_
      obtain ⟨x28, hx29, hb9⟩ := bs hb9
      refine WL.call _ (op_callV rfl ok_f1 (args1 rfl)) (call_f1 wd7 x21 x28 hS18.ext hr27 hx29) rfl ?_
      rintro _ wd30 ⟨rfl, he31⟩
      have hS33 := St.extend hS18 he31
      refine WL.nil ?_
      refine W.cond x28 rfl (fun hc34 => ?_) (fun hc34 => ?_)
      · replace hb9 := ip hb9 hc34
        refine W.seq (W.region ?_)
        refine WL.val (Value.int .i64 (k4 : Int)) _ (op_move rfl) rfl ?_
        refine WL.val (Value.int .i64 (k4 : Int)) _ (op_assign rfl) rfl ?_
        refine WL.nil ?_
        refine W.ret ?_
        obtain rfl := Option.some.inj hb9
        obtain rfl := hret12 _ rfl
        replace h := onRes_ret h
        obtain rfl := Option.some.inj h
        show FinP _ _ _ _ _ _ _
        exact FinP.ret _ (res1 rfl rfl) ⟨rfl, hr17, hS33.ext⟩
      · replace hb9 := inegb hb9 hc34
        refine W.skip ?_
        show W _ _ _ _ _ _
        refine W.region ?_
        refine WL.val (Value.int .i64 (w64 ((k4 : Int) + (1 : Int)))) _ (op_add hf16 rfl) rfl ?_
        refine WL.val (Value.int .i64 (w64 ((k4 : Int) + (1 : Int)))) _ (op_move rfl) rfl ?_
        refine WL.nil ?_
        obtain rfl := Option.some.inj hb9
        show ∃ s, _ = Ctl.next s ∧ _
        exact ⟨_, rfl, hf13, hf14, hf15, (ctr_next hl19 hr1), (ctr_rng hl19 hr1), hS33⟩
    · intro s41 f37 wd38 hs39 hI40
      obtain ⟨⟩ := s41
      replace hI40 : f37 0 = v_s1 ∧ f37 1 = (Value.func (.func g_f1) fst_f1 cap_f1) ∧ f37 7 = (Value.int .i64 ((s1).length : Int)) ∧ f37 8 = Value.int .i64 (((s1).length : Nat) : Int) ∧ InR .i64 (((s1).length : Nat) : Int) ∧ St w wd38 [] := hI40
      obtain ⟨hf42, hf43, hf44, hf45, hr46, hS47⟩ := hI40
      refine W.seq (W.region ?_)
      refine WL.val (Value.bool (decide ((((s1).length : Nat) : Int) < ((s1).length : Int)))) _ (op_lss hf45 hf44) rfl ?_
      have hl48 : ¬ (((s1).length : Nat) : Int) < ((s1).length : Int) := by omega
      refine WL.nil ?_
      refine W.seq ?_
      refine W.condF (decide ((((s1).length : Nat) : Int) < ((s1).length : Int))) rfl (decide_eq_false hl48) ?_
      refine W.exit ?_
      show _ = _ ∧ _
      exact ⟨rfl, _, hs39, hS47⟩
  · rintro f49 wd50 ⟨s52, rfl, hq51⟩
    replace h := onRes_fin h
    obtain ⟨⟩ := s52
    replace hq51 : St w wd50 [] := hq51
    have hS53 := hq51
    refine W.seq (W.region ?_)
    refine WL.val (Value.int .i64 (-1 : Int)) _ (op_assign rfl) rfl ?_
    refine WL.nil ?_
    refine W.ret ?_
    obtain rfl := Option.some.inj h
    show FinP _ _ _ _ _ _ _
    exact FinP.ret _ (res1 rfl rfl) ⟨rfl, (inR_i64.2 (show (-9223372036854775808 : Int) ≤ -1 ∧ (-1 : Int) ≤ 9223372036854775807 from by decide)), hS53.ext⟩

theorem c_slices_ContainsFunc_Lint64_int64 {w : World} {s1 : (List Int)} {v_s1 : Value} {f1 : Int → Option Bool} {v_f1 : Value} (r_s1 : (Ty.sl (Ty.i .i64)).rep w v_s1 s1) (r_f1 : FnT_i_to_b Try.prog v_f1 w f1) {res : Bool} (h : p_slices_ContainsFunc_Lint64_int64 s1 f1  = some res) :
    Ret Try.prog 78 #[v_s1, v_f1] w (fun v w' => v = Value.bool res ∧ Ext w w') := by
  unfold p_slices_ContainsFunc_Lint64_int64 at h
  have hS0 : St w w [] := St.start w
  have q_f1 := r_f1
  obtain ⟨g_f1, fst_f1, cap_f1, eq_f1, ok_f1, call_f1⟩ := q_f1
  subst eq_f1
  refine Ret.start (fn := Try.f78) Try.func78 rfl 9 rfl rfl ?_
  refine W.seq (W.region ?_)
  refine WL.val (Value.bool false) _ (op_assign rfl) rfl ?_
  refine WL.nil ?_
  refine W.seq (W.region ?_)
  refine WL.val v_s1 _ (op_move rfl) rfl ?_
  refine WL.val (Value.func (.func g_f1) fst_f1 cap_f1) _ (op_move rfl) rfl ?_
  obtain ⟨x1, hx2, h⟩ := bs h
  refine WL.call _ (op_call fn_83 (args2 rfl rfl)) (c_slices_IndexFunc_Lint64_int64 (Ty.lift _ hS0.ext r_s1) (FnT_i_to_b.lift hS0.ext r_f1) hx2) rfl ?_
  rintro _ wd4 ⟨rfl, hr3, he5⟩
  have hS7 := St.extend hS0 he5
  replace hS7 : St w wd4 [] := hS7
  refine WL.val (Value.bool (decide (x1 ≥ (0 : Int)))) _ (op_geq rfl rfl) rfl ?_
  refine WL.val (Value.bool (decide (x1 ≥ (0 : Int)))) _ (op_assign rfl) rfl ?_
  refine WL.nil ?_
  refine W.ret ?_
  obtain rfl := Option.some.inj h
  show FinP _ _ _ _ _ _ _
  exact FinP.ret _ (res1 rfl rfl) ⟨rfl, hS7.ext⟩

theorem c_impl_allWithin {w : World} {list : (List Int)} {v_list : Value} {low : Int} {high : Int} (r_list : (Ty.sl (Ty.i .i64)).rep w v_list list) (r_low : InR .i64 low) (r_high : InR .i64 high) {res : Bool} (h : p_impl_allWithin list low high  = some res) :
    Ret Try.prog 66 #[v_list, (Value.int .i64 low), (Value.int .i64 high)] w (fun v w' => v = Value.bool res ∧ Ext w w') := by
  unfold p_impl_allWithin at h
  have hS0 : St w w [] := St.start w
  refine Ret.start (fn := Try.f66) Try.func66 rfl 11 rfl rfl ?_
  refine W.seq (W.region ?_)
  refine WL.box hS0 rfl (cs := [(Value.int .i64 low)]) rfl rfl ?_
  intro b1 wd2 hS3 he4 hx5
  replace hS3 : St w wd2 [bx b1 [(Value.int .i64 low)]] := hS3
  have hx6 := St.boxAt hS3 0 rfl
  have hE7 : Ext w wd2 := hS3.ext
  have hS8 : St wd2 wd2 [] := St.start wd2
  refine WL.box hS8 rfl (cs := [(Value.int .i64 high)]) rfl rfl ?_
  intro b9 wd10 hS11 he12 hx13
  replace hS11 : St wd2 wd10 [bx b9 [(Value.int .i64 high)]] := hS11
  have hx14 := St.boxAt hS11 0 rfl
  have hE15 : Ext w wd10 := (Ext.trans hE7 hS11.ext)
  have hE16 : Ext wd2 wd10 := hS11.ext
  have hS17 : St wd10 wd10 [] := St.start wd10
  refine WL.val (Value.bool false) _ (op_assign rfl) rfl ?_
  refine WL.nil ?_
  refine W.seq (W.region ?_)
  refine WL.val v_list _ (op_move rfl) rfl ?_
  refine WL.val (Value.func (.func 79) #[] #[(Value.pointer (some ⟨b1, 0, none⟩)), (Value.pointer (some ⟨b9, 0, none⟩))]) _ (op_makeFunc (va := #[]) (vb := #[(Value.pointer (some ⟨b1, 0, none⟩)), (Value.pointer (some ⟨b9, 0, none⟩))]) args0 (args2 rfl rfl)) rfl ?_
  obtain ⟨x22, hx23, h⟩ := bs h
  refine WL.call _ (op_call fn_78 (args2 rfl rfl)) (c_slices_ContainsFunc_Lint64_int64 (Ty.lift _ (Ext.trans hE15 hS17.ext) r_list) (⟨79, #[], #[(Value.pointer (some ⟨b1, 0, none⟩)), (Value.pointer (some ⟨b9, 0, none⟩))], rfl, fn_79, fun wd18 a0_19 r20 he19 ra0_19 hq21 => c_impl_allWithin_c1 ra0_19 (BoxAt.lift (Ext.trans (Ext.trans hE16 hS17.ext) he19) hx6) r_low (BoxAt.lift (Ext.trans hS17.ext he19) hx14) r_high hq21⟩) hx23) rfl ?_
  rintro _ wd24 ⟨rfl, he25⟩
  have hS27 := St.extend hS17 he25
  replace hS27 : St wd10 wd24 [] := hS27
  refine WL.val (Value.bool (!x22)) _ (op_not rfl) rfl ?_
  refine WL.val (Value.bool (!x22)) _ (op_assign rfl) rfl ?_
  refine WL.nil ?_
  refine W.ret ?_
  obtain rfl := Option.some.inj h
  show FinP _ _ _ _ _ _ _
  exact FinP.ret _ (res1 rfl rfl) ⟨rfl, (Ext.trans hE15 hS27.ext)⟩

theorem c_impl_isCube_c1 {w : World} {row : (List Int)} {v_row : Value} {b_c0 : Nat} {c0 : Int} (r_row : (Ty.sl (Ty.i .i64)).rep w v_row row) (k_c0 : BoxAt w b_c0 [(Value.int .i64 c0)]) (r_c0 : InR .i64 c0) {res : Bool} (h : p_impl_isCube_c1 row c0 = some res) :
    Ret Try.prog 68 #[v_row, (Value.pointer (some ⟨b_c0, 0, none⟩))] w (fun v w' => v = Value.bool res ∧ Ext w w') := by
  unfold p_impl_isCube_c1 at h
  have hS0 : St w w [] := St.start w
  refine Ret.start (fn := Try.f68) Try.func68 rfl 13 rfl rfl ?_
  refine W.seq (W.region ?_)
  refine WL.val (Value.bool false) _ (op_assign rfl) rfl ?_
  refine WL.nil ?_
  refine W.seq (W.region ?_)
  refine WL.val v_row _ (op_move rfl) rfl ?_
  have hr1 := inR_len (Ty.lift _ hS0.ext r_row)
  refine WL.val (Value.int .i64 ((row).length : Int)) _ (op_lenL sl_25 (Ty.lift _ hS0.ext r_row) rfl) rfl ?_
  refine WL.val (Value.int .i64 c0) _ (op_load one_3 rfl (BoxAt.cell (BoxAt.lift hS0.ext k_c0) rfl)) rfl ?_
  refine WL.val (Value.bool (((row).length : Int) != c0)) _ (op_neq rfl rfl) rfl ?_
  refine WL.val (Value.bool (((row).length : Int) != c0)) _ (op_move rfl) rfl ?_
  obtain ⟨x3, hj4, h⟩ := bs h
  refine WL.cut 4 (fun fq wq => fq 12 = Value.bool x3 ∧ St w wq []) ?_ ?_
  · rcases Bool.eq_false_or_eq_true (((row).length : Int) != c0) with hc2 | hc2
    · replace hj4 := ip hj4 hc2
      refine WL.gskip rfl (bool_of rfl hc2) rfl ?_
      refine WL.gskip rfl (bool_of rfl hc2) rfl ?_
      refine WL.gskip rfl (bool_of rfl hc2) rfl ?_
      refine WL.val (Value.bool true) _ (op_pick_t (evb_of rfl hc2) rfl) rfl ?_
      refine WL.nil ?_
      obtain rfl := Option.some.inj hj4
      exact ⟨rfl, rfl, hS0⟩
    · replace hj4 := inegb hj4 hc2
      refine WL.grun rfl (bool_of rfl hc2) ?_
      refine WL.val v_row _ (op_move rfl) rfl ?_
      refine WL.grun rfl (bool_of rfl hc2) ?_
      obtain ⟨x8, hx9, hj4⟩ := bs hj4
      refine WL.call _ (op_call fn_66 (args3 rfl rfl rfl)) (c_impl_allWithin (Ty.lift _ hS0.ext r_row) (inL rfl) (inL rfl) hx9) rfl ?_
      rintro _ wd10 ⟨rfl, he11⟩
      have hS13 := St.extend hS0 he11
      replace hS13 : St w wd10 [] := hS13
      refine WL.grun rfl (bool_of rfl hc2) ?_
      refine WL.val (Value.bool (!x8)) _ (op_not rfl) rfl ?_
      refine WL.val (Value.bool (!x8)) _ (op_pick_f (evb_of rfl hc2) rfl) rfl ?_
      refine WL.nil ?_
      obtain rfl := Option.some.inj hj4
      exact ⟨rfl, rfl, hS13⟩
  · intro f5 wd6 hq7
    obtain ⟨hf14, hS15⟩ := hq7
    refine WL.val (Value.bool x3) _ (op_assign hf14) rfl ?_
    refine WL.nil ?_
    refine W.ret ?_
    obtain rfl := Option.some.inj h
    show FinP _ _ _ _ _ _ _
    exact FinP.ret _ (res1 rfl rfl) ⟨rfl, hS15.ext⟩

theorem c_slices_IndexFunc_LLint64_Lint64 {w : World} {s1 : (List (List Int))} {v_s1 : Value} {f1 : (List Int) → Option Bool} {v_f1 : Value} (r_s1 : (Ty.sl (Ty.sl (Ty.i .i64))).rep w v_s1 s1) (r_f1 : FnT_li_to_b Try.prog v_f1 w f1) {res : Int} (h : p_slices_IndexFunc_LLint64_Lint64 s1 f1  = some res) :
    Ret Try.prog 81 #[v_s1, v_f1] w (fun v w' => v = Value.int .i64 res ∧ InR .i64 res ∧ Ext w w') := by
  unfold p_slices_IndexFunc_LLint64_Lint64 at h
  have hS0 : St w w [] := St.start w
  have q_f1 := r_f1
  obtain ⟨g_f1, fst_f1, cap_f1, eq_f1, ok_f1, call_f1⟩ := q_f1
  subst eq_f1
  refine Ret.start (fn := Try.f81) Try.func81 rfl 19 rfl rfl ?_
  refine W.seq (W.region ?_)
  refine WL.val (Value.int .i64 (0 : Int)) _ (op_assign rfl) rfl ?_
  refine WL.nil ?_
  refine W.seq (W.seq (W.region ?_))
  refine WL.val v_s1 _ (op_move rfl) rfl ?_
  have hr1 := inR_len (Ty.lift _ hS0.ext r_s1)
  refine WL.val (Value.int .i64 ((s1).length : Int)) _ (op_lenL sl_46 (Ty.lift _ hS0.ext r_s1) rfl) rfl ?_
  refine WL.val (Value.int .i64 (0 : Int)) _ (op_move rfl) rfl ?_
  refine WL.nil ?_
  show W _ _ _ _ _ _
  obtain ⟨res2, hres3, h⟩ := bs h
  refine W.blockLoop (fun fq wq => ∃ s, res2 = Res.fin s ∧ St w wq []) ?_ ?_
  · refine W.forN (fun k (s : Unit) fq wq => fq 0 = v_s1 ∧ fq 1 = (Value.func (.func g_f1) fst_f1 cap_f1) ∧ fq 7 = (Value.int .i64 ((s1).length : Int)) ∧ fq 8 = Value.int .i64 (k : Int) ∧ InR .i64 (k : Int) ∧ St w wq []) hres3 ⟨rfl, rfl, rfl, rfl, (inL rfl), hS0⟩ ?_ ?_
    · intro k4 s36 ct5 f6 wd7 hk8 hb9 hI10 hbrk11 hret12
      obtain ⟨⟩ := s36
      replace hI10 : f6 0 = v_s1 ∧ f6 1 = (Value.func (.func g_f1) fst_f1 cap_f1) ∧ f6 7 = (Value.int .i64 ((s1).length : Int)) ∧ f6 8 = Value.int .i64 (k4 : Int) ∧ InR .i64 (k4 : Int) ∧ St w wd7 [] := hI10
      replace hb9 : p_slices_IndexFunc_LLint64_Lint64_L1 s1 f1 k4  = some ct5 := hb9
      unfold p_slices_IndexFunc_LLint64_Lint64_L1 at hb9
      obtain ⟨hf13, hf14, hf15, hf16, hr17, hS18⟩ := hI10
      refine W.seq (W.region ?_)
      refine WL.val (Value.bool (decide ((k4 : Int) < ((s1).length : Int)))) _ (op_lss hf16 hf15) rfl ?_
      have hl19 : (k4 : Int) < ((s1).length : Int) := by omega
      refine WL.nil ?_
      refine W.seq ?_
      refine W.condT (decide ((k4 : Int) < ((s1).length : Int))) rfl (decide_eq_true hl19) ?_
      refine W.skip ?_
      refine W.seq ?_
      refine W.block ?_
      refine W.seq (W.region ?_)
      refine WL.val (Value.int .i64 (k4 : Int)) _ (op_move hf16) rfl ?_
      refine WL.val (Value.int .i64 (k4 : Int)) _ (op_assign rfl) rfl ?_
      refine WL.nil ?_
      refine W.seq (W.region ?_)
      refine WL.val (Value.func (.func g_f1) fst_f1 cap_f1) _ (op_move hf14) rfl ?_
      refine WL.val v_s1 _ (op_move hf13) rfl ?_
      refine WL.val (Value.int .i64 (k4 : Int)) _ (op_move rfl) rfl ?_
      obtain ⟨x21, hx24, hb9⟩ := bs hb9
      obtain ⟨ha22, hb23, hx24⟩ := idx_some hx24
      refine WL.val (Value.pointer (some (elA v_s1 ((k4 : Int)).toNat))) _ (op_idx sl_46 (Ty.lift _ hS18.ext r_s1) rfl rfl ha22 hb23) rfl ?_
      obtain ⟨u25, hc26, hr27⟩ := repSl.el r_s1 hx24
      refine WL.val u25 _ (op_load one_25 rfl (Ext.cell hS18.ext hc26)) rfl ?_
      obtain ⟨x28, hx29, hb9⟩ := bs hb9
      refine WL.call _ (op_callV rfl ok_f1 (args1 rfl)) (call_f1 wd7 u25 x21 x28 hS18.ext (Ty.lift _ hS18.ext hr27) hx29) rfl ?_
      rintro _ wd30 ⟨rfl, he31⟩
      have hS33 := St.extend hS18 he31
      refine WL.nil ?_
      refine W.cond x28 rfl (fun hc34 => ?_) (fun hc34 => ?_)
      · replace hb9 := ip hb9 hc34
        refine W.seq (W.region ?_)
        refine WL.val (Value.int .i64 (k4 : Int)) _ (op_move rfl) rfl ?_
        refine WL.val (Value.int .i64 (k4 : Int)) _ (op_assign rfl) rfl ?_
        refine WL.nil ?_
        refine W.ret ?_
        obtain rfl := Option.some.inj hb9
        obtain rfl := hret12 _ rfl
        replace h := onRes_ret h
        obtain rfl := Option.some.inj h
        show FinP _ _ _ _ _ _ _
        exact FinP.ret _ (res1 rfl rfl) ⟨rfl, hr17, hS33.ext⟩
      · replace hb9 := inegb hb9 hc34
        refine W.skip ?_
        show W _ _ _ _ _ _
        refine W.region ?_
        refine WL.val (Value.int .i64 (w64 ((k4 : Int) + (1 : Int)))) _ (op_add hf16 rfl) rfl ?_
        refine WL.val (Value.int .i64 (w64 ((k4 : Int) + (1 : Int)))) _ (op_move rfl) rfl ?_
        refine WL.nil ?_
        obtain rfl := Option.some.inj hb9
        show ∃ s, _ = Ctl.next s ∧ _
        exact ⟨_, rfl, hf13, hf14, hf15, (ctr_next hl19 hr1), (ctr_rng hl19 hr1), hS33⟩
    · intro s41 f37 wd38 hs39 hI40
      obtain ⟨⟩ := s41
      replace hI40 : f37 0 = v_s1 ∧ f37 1 = (Value.func (.func g_f1) fst_f1 cap_f1) ∧ f37 7 = (Value.int .i64 ((s1).length : Int)) ∧ f37 8 = Value.int .i64 (((s1).length : Nat) : Int) ∧ InR .i64 (((s1).length : Nat) : Int) ∧ St w wd38 [] := hI40
      obtain ⟨hf42, hf43, hf44, hf45, hr46, hS47⟩ := hI40
      refine W.seq (W.region ?_)
      refine WL.val (Value.bool (decide ((((s1).length : Nat) : Int) < ((s1).length : Int)))) _ (op_lss hf45 hf44) rfl ?_
      have hl48 : ¬ (((s1).length : Nat) : Int) < ((s1).length : Int) := by omega
      refine WL.nil ?_
      refine W.seq ?_
      refine W.condF (decide ((((s1).length : Nat) : Int) < ((s1).length : Int))) rfl (decide_eq_false hl48) ?_
      refine W.exit ?_
      show _ = _ ∧ _
      exact ⟨rfl, _, hs39, hS47⟩
  · rintro f49 wd50 ⟨s52, rfl, hq51⟩
    replace h := onRes_fin h
    obtain ⟨⟩ := s52
    replace hq51 : St w wd50 [] := hq51
    have hS53 := hq51
    refine W.seq (W.region ?_)
    refine WL.val (Value.int .i64 (-1 : Int)) _ (op_assign rfl) rfl ?_
    refine WL.nil ?_
    refine W.ret ?_
    obtain rfl := Option.some.inj h
    show FinP _ _ _ _ _ _ _
    exact FinP.ret _ (res1 rfl rfl) ⟨rfl, (inR_i64.2 (show (-9223372036854775808 : Int) ≤ -1 ∧ (-1 : Int) ≤ 9223372036854775807 from by decide)), hS53.ext⟩

theorem c_slices_ContainsFunc_LLint64_Lint64 {w : World} {s1 : (List (List Int))} {v_s1 : Value} {f1 : (List Int) → Option Bool} {v_f1 : Value} (r_s1 : (Ty.sl (Ty.sl (Ty.i .i64))).rep w v_s1 s1) (r_f1 : FnT_li_to_b Try.prog v_f1 w f1) {res : Bool} (h : p_slices_ContainsFunc_LLint64_Lint64 s1 f1  = some res) :
    Ret Try.prog 67 #[v_s1, v_f1] w (fun v w' => v = Value.bool res ∧ Ext w w') := by
  unfold p_slices_ContainsFunc_LLint64_Lint64 at h
  have hS0 : St w w [] := St.start w
  have q_f1 := r_f1
  obtain ⟨g_f1, fst_f1, cap_f1, eq_f1, ok_f1, call_f1⟩ := q_f1
  subst eq_f1
  refine Ret.start (fn := Try.f67) Try.func67 rfl 9 rfl rfl ?_
  refine W.seq (W.region ?_)
  refine WL.val (Value.bool false) _ (op_assign rfl) rfl ?_
  refine WL.nil ?_
  refine W.seq (W.region ?_)
  refine WL.val v_s1 _ (op_move rfl) rfl ?_
  refine WL.val (Value.func (.func g_f1) fst_f1 cap_f1) _ (op_move rfl) rfl ?_
  obtain ⟨x1, hx2, h⟩ := bs h
  refine WL.call _ (op_call fn_81 (args2 rfl rfl)) (c_slices_IndexFunc_LLint64_Lint64 (Ty.lift _ hS0.ext r_s1) (FnT_li_to_b.lift hS0.ext r_f1) hx2) rfl ?_
  rintro _ wd4 ⟨rfl, hr3, he5⟩
  have hS7 := St.extend hS0 he5
  replace hS7 : St w wd4 [] := hS7
  refine WL.val (Value.bool (decide (x1 ≥ (0 : Int)))) _ (op_geq rfl rfl) rfl ?_
  refine WL.val (Value.bool (decide (x1 ≥ (0 : Int)))) _ (op_assign rfl) rfl ?_
  refine WL.nil ?_
  refine W.ret ?_
  obtain rfl := Option.some.inj h
  show FinP _ _ _ _ _ _ _
  exact FinP.ret _ (res1 rfl rfl) ⟨rfl, hS7.ext⟩

theorem c_impl_isCube {w : World} {r_Table : (List (List (List Int)))} {v_r_Table : Value} (r_r_Table : (Ty.sl (Ty.sl (Ty.sl (Ty.i .i64)))).rep w v_r_Table r_Table) {res : Bool} (h : p_impl_isCube r_Table  = some res) :
    Ret Try.prog 62 #[(Value.agg #[v_r_Table])] w (fun v w' => v = Value.bool res ∧ Ext w w') := by
  unfold p_impl_isCube at h
  have hS0 : St w w [] := St.start w
  refine Ret.start (fn := Try.f62) Try.func62 rfl 32 rfl rfl ?_
  refine W.seq (W.region ?_)
  refine WL.box hS0 rfl (cs := [v_r_Table]) rfl rfl ?_
  intro b1 wd2 hS3 he4 hx5
  replace hS3 : St w wd2 [bx b1 [v_r_Table]] := hS3
  have hx6 := St.boxAt hS3 0 rfl
  have hE7 : Ext w wd2 := hS3.ext
  have hS8 : St wd2 wd2 [] := St.start wd2
  refine WL.val (Value.bool false) _ (op_assign rfl) rfl ?_
  refine WL.nil ?_
  refine W.seq (W.region ?_)
  refine WL.val (Value.pointer (some ⟨b1, 0, none⟩)) _ (op_fieldAddr fd_29_0 rfl) rfl ?_
  refine WL.val v_r_Table _ (op_load one_22 rfl (BoxAt.cell (BoxAt.lift hS8.ext hx6) rfl)) rfl ?_
  have hr9 := inR_len (Ty.lift _ (Ext.trans hE7 hS8.ext) r_r_Table)
  refine WL.val (Value.int .i64 ((r_Table).length : Int)) _ (op_lenL sl_22 (Ty.lift _ (Ext.trans hE7 hS8.ext) r_r_Table) rfl) rfl ?_
  refine WL.alloc hS8 ze_3 (cs := [(Value.int .i64 (0 : Int))]) rfl rfl ?_
  intro b10 wd11 hS12 he13
  replace hS12 : St wd2 wd11 [bx b10 [(Value.int .i64 (0 : Int))]] := hS12
  refine WL.storeBox [(Value.int .i64 ((r_Table).length : Int))] hS12 (k := 0) rfl rfl rfl (us := [(Value.int .i64 ((r_Table).length : Int))]) rfl sz_3 rfl rfl (all_cons rfl all_nil) rfl ?_
  intro wd14 hS15
  replace hS15 : St wd2 wd14 [bx b10 [(Value.int .i64 ((r_Table).length : Int))]] := hS15
  refine WL.nil ?_
  refine W.seq (W.seq (W.region ?_))
  refine WL.val (Value.pointer (some ⟨b1, 0, none⟩)) _ (op_fieldAddr fd_29_0 rfl) rfl ?_
  refine WL.val v_r_Table _ (op_load one_22 rfl (BoxAt.cell (BoxAt.lift hS15.ext hx6) rfl)) rfl ?_
  have hr16 := inR_len (Ty.lift _ (Ext.trans hE7 hS15.ext) r_r_Table)
  refine WL.val (Value.int .i64 ((r_Table).length : Int)) _ (op_lenL sl_22 (Ty.lift _ (Ext.trans hE7 hS15.ext) r_r_Table) rfl) rfl ?_
  refine WL.val (Value.int .i64 (0 : Int)) _ (op_move rfl) rfl ?_
  refine WL.nil ?_
  show W _ _ _ _ _ _
  obtain ⟨res17, hres18, h⟩ := bs h
  refine W.blockLoop (fun fq wq => ∃ s, res17 = Res.fin s ∧ fq 3 = (Value.pointer (some ⟨b10, 0, none⟩)) ∧ St wd2 wq [bx b10 [(Value.int .i64 ((r_Table).length : Int))]]) ?_ ?_
  · refine W.forN (fun k (s : Unit) fq wq => fq 3 = (Value.pointer (some ⟨b10, 0, none⟩)) ∧ fq 10 = v_r_Table ∧ fq 11 = (Value.int .i64 ((r_Table).length : Int)) ∧ fq 12 = Value.int .i64 (k : Int) ∧ InR .i64 (k : Int) ∧ St wd2 wq [bx b10 [(Value.int .i64 ((r_Table).length : Int))]]) hres18 ⟨rfl, rfl, rfl, rfl, (inL rfl), hS15⟩ ?_ ?_
    · intro k19 s68 ct20 f21 wd22 hk23 hb24 hI25 hbrk26 hret27
      obtain ⟨⟩ := s68
      replace hI25 : f21 3 = (Value.pointer (some ⟨b10, 0, none⟩)) ∧ f21 10 = v_r_Table ∧ f21 11 = (Value.int .i64 ((r_Table).length : Int)) ∧ f21 12 = Value.int .i64 (k19 : Int) ∧ InR .i64 (k19 : Int) ∧ St wd2 wd22 [bx b10 [(Value.int .i64 ((r_Table).length : Int))]] := hI25
      replace hb24 : p_impl_isCube_L1 r_Table k19  = some ct20 := hb24
      unfold p_impl_isCube_L1 at hb24
      obtain ⟨hf28, hf29, hf30, hf31, hr32, hS33⟩ := hI25
      refine W.seq (W.region ?_)
      refine WL.val (Value.bool (decide ((k19 : Int) < ((r_Table).length : Int)))) _ (op_lss hf31 hf30) rfl ?_
      have hl34 : (k19 : Int) < ((r_Table).length : Int) := by omega
      refine WL.nil ?_
      refine W.seq ?_
      refine W.condT (decide ((k19 : Int) < ((r_Table).length : Int))) rfl (decide_eq_true hl34) ?_
      refine W.skip ?_
      refine W.seq ?_
      refine W.block ?_
      refine W.seq (W.region ?_)
      obtain ⟨x36, hx39, hb24⟩ := bs hb24
      obtain ⟨ha37, hb38, hx39⟩ := idx_some hx39
      refine WL.val (Value.pointer (some (elA v_r_Table ((k19 : Int)).toNat))) _ (op_idx sl_22 (Ty.lift _ (Ext.trans hE7 hS33.ext) r_r_Table) hf29 hf31 ha37 hb38) rfl ?_
      obtain ⟨u40, hc41, hr42⟩ := repSl.el r_r_Table hx39
      refine WL.val u40 _ (op_load one_46 rfl (Ext.cell (Ext.trans hE7 hS33.ext) hc41)) rfl ?_
      refine WL.val u40 _ (op_assign rfl) rfl ?_
      refine WL.nil ?_
      refine W.seq (W.region ?_)
      refine WL.val u40 _ (op_move rfl) rfl ?_
      have hr43 := inR_len (Ty.lift _ (Ext.trans hE7 hS33.ext) hr42)
      refine WL.val (Value.int .i64 ((x36).length : Int)) _ (op_lenL sl_46 (Ty.lift _ (Ext.trans hE7 hS33.ext) hr42) rfl) rfl ?_
      refine WL.val (Value.int .i64 ((r_Table).length : Int)) _ (op_load one_3 hf28 (BoxAt.cell (St.boxAt hS33 0 rfl) rfl)) rfl ?_
      refine WL.val (Value.bool (((x36).length : Int) != ((r_Table).length : Int))) _ (op_neq rfl rfl) rfl ?_
      refine WL.val (Value.bool (((x36).length : Int) != ((r_Table).length : Int))) _ (op_move rfl) rfl ?_
      obtain ⟨x45, hj46, hb24⟩ := bs hb24
      refine WL.cut 4 (fun fq wq => fq 3 = (Value.pointer (some ⟨b10, 0, none⟩)) ∧ fq 10 = v_r_Table ∧ fq 11 = (Value.int .i64 ((r_Table).length : Int)) ∧ fq 12 = (Value.int .i64 (k19 : Int)) ∧ fq 24 = Value.bool x45 ∧ St wd2 wq [bx b10 [(Value.int .i64 ((r_Table).length : Int))]]) ?_ ?_
      · rcases Bool.eq_false_or_eq_true (((x36).length : Int) != ((r_Table).length : Int)) with hc44 | hc44
        · replace hj46 := ip hj46 hc44
          refine WL.gskip rfl (bool_of rfl hc44) rfl ?_
          refine WL.gskip rfl (bool_of rfl hc44) rfl ?_
          refine WL.gskip rfl (bool_of rfl hc44) rfl ?_
          refine WL.val (Value.bool true) _ (op_pick_t (evb_of rfl hc44) rfl) rfl ?_
          refine WL.nil ?_
          obtain rfl := Option.some.inj hj46
          exact ⟨rfl, hf28, hf29, hf30, hf31, rfl, hS33⟩
        · replace hj46 := inegb hj46 hc44
          refine WL.grun rfl (bool_of rfl hc44) ?_
          refine WL.val u40 _ (op_move rfl) rfl ?_
          refine WL.grun rfl (bool_of rfl hc44) ?_
          refine WL.val (Value.func (.func 68) #[] #[(Value.pointer (some ⟨b10, 0, none⟩))]) _ (op_makeFunc (va := #[]) (vb := #[(Value.pointer (some ⟨b10, 0, none⟩))]) args0 (args1 hf28)) rfl ?_
          refine WL.grun rfl (bool_of rfl hc44) ?_
          obtain ⟨x54, hx55, hj46⟩ := bs hj46
          refine WL.call _ (op_call fn_67 (args2 rfl rfl)) (c_slices_ContainsFunc_LLint64_Lint64 (Ty.lift _ (Ext.trans hE7 hS33.ext) hr42) (⟨68, #[], #[(Value.pointer (some ⟨b10, 0, none⟩))], rfl, fn_68, fun wd50 u0_51 a0_51 r52 he51 ra0_51 hq53 => c_impl_isCube_c1 ra0_51 (BoxAt.lift he51 (St.boxAt hS33 0 rfl)) hr9 hq53⟩) hx55) rfl ?_
          rintro _ wd56 ⟨rfl, he57⟩
          have hS59 := St.extend hS33 he57
          replace hS59 : St wd2 wd56 [bx b10 [(Value.int .i64 ((r_Table).length : Int))]] := hS59
          refine WL.val (Value.bool x54) _ (op_pick_f (evb_of rfl hc44) rfl) rfl ?_
          refine WL.nil ?_
          obtain rfl := Option.some.inj hj46
          exact ⟨rfl, hf28, hf29, hf30, hf31, rfl, hS59⟩
      · intro f47 wd48 hq49
        obtain ⟨hf60, hf61, hf62, hf63, hf64, hS65⟩ := hq49
        refine WL.nil ?_
        refine W.cond x45 hf64 (fun hc66 => ?_) (fun hc66 => ?_)
        · replace hb24 := ip hb24 hc66
          refine W.seq (W.region ?_)
          refine WL.val (Value.bool false) _ (op_assign rfl) rfl ?_
          refine WL.nil ?_
          refine W.ret ?_
          obtain rfl := Option.some.inj hb24
          obtain rfl := hret27 _ rfl
          replace h := onRes_ret h
          obtain rfl := Option.some.inj h
          show FinP _ _ _ _ _ _ _
          exact FinP.ret _ (res1 rfl rfl) ⟨rfl, (Ext.trans hE7 hS65.ext)⟩
        · replace hb24 := inegb hb24 hc66
          refine W.skip ?_
          show W _ _ _ _ _ _
          refine W.region ?_
          refine WL.val (Value.int .i64 (w64 ((k19 : Int) + (1 : Int)))) _ (op_add hf63 rfl) rfl ?_
          refine WL.val (Value.int .i64 (w64 ((k19 : Int) + (1 : Int)))) _ (op_move rfl) rfl ?_
          refine WL.nil ?_
          obtain rfl := Option.some.inj hb24
          show ∃ s, _ = Ctl.next s ∧ _
          exact ⟨_, rfl, hf60, hf61, hf62, (ctr_next hl34 hr16), (ctr_rng hl34 hr16), hS65⟩
    · intro s73 f69 wd70 hs71 hI72
      obtain ⟨⟩ := s73
      replace hI72 : f69 3 = (Value.pointer (some ⟨b10, 0, none⟩)) ∧ f69 10 = v_r_Table ∧ f69 11 = (Value.int .i64 ((r_Table).length : Int)) ∧ f69 12 = Value.int .i64 (((r_Table).length : Nat) : Int) ∧ InR .i64 (((r_Table).length : Nat) : Int) ∧ St wd2 wd70 [bx b10 [(Value.int .i64 ((r_Table).length : Int))]] := hI72
      obtain ⟨hf74, hf75, hf76, hf77, hr78, hS79⟩ := hI72
      refine W.seq (W.region ?_)
      refine WL.val (Value.bool (decide ((((r_Table).length : Nat) : Int) < ((r_Table).length : Int)))) _ (op_lss hf77 hf76) rfl ?_
      have hl80 : ¬ (((r_Table).length : Nat) : Int) < ((r_Table).length : Int) := by omega
      refine WL.nil ?_
      refine W.seq ?_
      refine W.condF (decide ((((r_Table).length : Nat) : Int) < ((r_Table).length : Int))) rfl (decide_eq_false hl80) ?_
      refine W.exit ?_
      show _ = _ ∧ _
      exact ⟨rfl, _, hs71, hf74, hS79⟩
  · rintro f81 wd82 ⟨s84, rfl, hq83⟩
    replace h := onRes_fin h
    obtain ⟨⟩ := s84
    replace hq83 : f81 3 = (Value.pointer (some ⟨b10, 0, none⟩)) ∧ St wd2 wd82 [bx b10 [(Value.int .i64 ((r_Table).length : Int))]] := hq83
    obtain ⟨hf85, hS86⟩ := hq83
    refine W.seq (W.region ?_)
    refine WL.val (Value.int .i64 ((r_Table).length : Int)) _ (op_load one_3 hf85 (BoxAt.cell (St.boxAt hS86 0 rfl) rfl)) rfl ?_
    refine WL.val (Value.bool (decide (((r_Table).length : Int) ≥ (1 : Int)))) _ (op_geq rfl rfl) rfl ?_
    refine WL.val (Value.bool (decide (((r_Table).length : Int) ≥ (1 : Int)))) _ (op_move rfl) rfl ?_
    refine WL.cut 3 (fun fq wq => fq 31 = (Value.bool ((decide (((r_Table).length : Int) ≥ (1 : Int))) && (decide (((r_Table).length : Int) ≤ (16 : Int))))) ∧ St wd2 wq []) ?_ ?_
    · rcases Bool.eq_false_or_eq_true (decide (((r_Table).length : Int) ≥ (1 : Int))) with hc87 | hc87
      · refine WL.grun rfl (bool_of rfl hc87) ?_
        refine WL.val (Value.int .i64 ((r_Table).length : Int)) _ (op_load one_3 hf85 (BoxAt.cell (St.boxAt hS86 0 rfl) rfl)) rfl ?_
        refine WL.grun rfl (bool_of rfl hc87) ?_
        refine WL.val (Value.bool (decide (((r_Table).length : Int) ≤ (16 : Int)))) _ (op_leq rfl rfl) rfl ?_
        refine WL.val (Value.bool (decide (((r_Table).length : Int) ≤ (16 : Int)))) _ (op_pick_t (evb_of rfl hc87) rfl) rfl ?_
        refine WL.nil ?_
        exact ⟨rfl, (andT hc87), (St.pick hS86 [] rfl)⟩
      · refine WL.gskip rfl (bool_of rfl hc87) rfl ?_
        refine WL.gskip rfl (bool_of rfl hc87) rfl ?_
        refine WL.val (Value.bool false) _ (op_pick_f (evb_of rfl hc87) rfl) rfl ?_
        refine WL.nil ?_
        exact ⟨rfl, (andF hc87), (St.pick hS86 [] rfl)⟩
    · intro f88 wd89 hq90
      obtain ⟨hf91, hS92⟩ := hq90
      refine WL.val (Value.bool ((decide (((r_Table).length : Int) ≥ (1 : Int))) && (decide (((r_Table).length : Int) ≤ (16 : Int))))) _ (op_assign hf91) rfl ?_
      refine WL.nil ?_
      refine W.ret ?_
      obtain rfl := Option.some.inj h
      show FinP _ _ _ _ _ _ _
      exact FinP.ret _ (res1 rfl rfl) ⟨rfl, (Ext.trans hE7 hS92.ext)⟩

theorem c_impl_delta {w : World} {i : Int} {k1 : Int} (r_i : InR .i64 i) (r_k1 : InR .i64 k1) {res : Int} (h : p_impl_delta i k1  = some res) :
    Ret Try.prog 82 #[(Value.int .i64 i), (Value.int .i64 k1)] w (fun v w' => v = Value.int .i64 res ∧ InR .i64 res ∧ Ext w w') := by
  unfold p_impl_delta at h
  have hS0 : St w w [] := St.start w
  refine Ret.start (fn := Try.f82) Try.func82 rfl 8 rfl rfl ?_
  refine W.seq (W.region ?_)
  refine WL.val (Value.int .i64 (0 : Int)) _ (op_assign rfl) rfl ?_
  refine WL.nil ?_
  refine W.seq (W.seq (W.region ?_))
  refine WL.val (Value.int .i64 i) _ (op_move rfl) rfl ?_
  refine WL.val (Value.int .i64 k1) _ (op_move rfl) rfl ?_
  refine WL.val (Value.bool (i == k1)) _ (op_eql rfl rfl) rfl ?_
  refine WL.nil ?_
  refine W.cond (i == k1) rfl (fun hc1 => ?_) (fun hc1 => ?_)
  · replace h := ip h hc1
    refine W.seq (W.region ?_)
    refine WL.val (Value.int .i64 (1 : Int)) _ (op_assign rfl) rfl ?_
    refine WL.nil ?_
    refine W.ret ?_
    obtain rfl := Option.some.inj h
    show FinP _ _ _ _ _ _ _
    exact FinP.ret _ (res1 rfl rfl) ⟨rfl, (inL rfl), hS0.ext⟩
  · replace h := inegb h hc1
    refine W.skip ?_
    refine W.seq (W.region ?_)
    refine WL.val (Value.int .i64 (0 : Int)) _ (op_assign rfl) rfl ?_
    refine WL.nil ?_
    refine W.ret ?_
    obtain rfl := Option.some.inj h
    show FinP _ _ _ _ _ _ _
    exact FinP.ret _ (res1 rfl rfl) ⟨rfl, (inL rfl), hS0.ext⟩

theorem c_impl_Ring_unitFault {w : World} {r_Table : (List (List (List Int)))} {v_r_Table : Value} (r_r_Table : (Ty.sl (Ty.sl (Ty.sl (Ty.i .i64)))).rep w v_r_Table r_Table) {res : (List Int)} (h : p_impl_Ring_unitFault r_Table  = some res) :
    Ret Try.prog 69 #[(Value.agg #[v_r_Table])] w (fun v w' => ∃ (u0 : Value), v = u0 ∧ NilIff u0 res ∧ Ext w w' ∧ Sep w.heap.size w' [(Ty.sl (Ty.i .i64)).at u0 res]) := by
  unfold p_impl_Ring_unitFault at h
  have hS0 : St w w [] := St.start w
  refine Ret.start (fn := Try.f69) Try.func69 rfl 52 rfl rfl ?_
  refine W.seq (W.region ?_)
  refine WL.box hS0 rfl (cs := [v_r_Table]) rfl rfl ?_
  intro b1 wd2 hS3 he4 hx5
  replace hS3 : St w wd2 [bx b1 [v_r_Table]] := hS3
  have hx6 := St.boxAt hS3 0 rfl
  have hE7 : Ext w wd2 := hS3.ext
  have hS8 : St wd2 wd2 [] := St.start wd2
  refine WL.val (Value.slice none 0 0) _ (op_assign rfl) rfl ?_
  refine WL.nil ?_
  refine W.seq (W.seq (W.region ?_))
  refine WL.val (Value.pointer (some ⟨b1, 0, none⟩)) _ (op_fieldAddr fd_29_0 rfl) rfl ?_
  refine WL.val v_r_Table _ (op_load one_22 rfl (BoxAt.cell (BoxAt.lift hS8.ext hx6) rfl)) rfl ?_
  have hr9 := inR_len (Ty.lift _ (Ext.trans hE7 hS8.ext) r_r_Table)
  refine WL.val (Value.int .i64 ((r_Table).length : Int)) _ (op_lenL sl_22 (Ty.lift _ (Ext.trans hE7 hS8.ext) r_r_Table) rfl) rfl ?_
  refine WL.val (Value.int .i64 (0 : Int)) _ (op_move rfl) rfl ?_
  refine WL.nil ?_
  show W _ _ _ _ _ _
  obtain ⟨res10, hres11, h⟩ := bs h
  refine W.blockLoop (fun fq wq => ∃ s, res10 = Res.fin s ∧ St wd2 wq []) ?_ ?_
  · refine W.forN (fun k (s : Unit) fq wq => fq 1 = (Value.pointer (some ⟨b1, 0, none⟩)) ∧ fq 7 = (Value.int .i64 ((r_Table).length : Int)) ∧ fq 8 = Value.int .i64 (k : Int) ∧ InR .i64 (k : Int) ∧ St wd2 wq []) hres11 ⟨rfl, rfl, rfl, (inL rfl), hS8⟩ ?_ ?_
    · intro k12 s672 ct13 f14 wd15 hk16 hb17 hI18 hbrk19 hret20
      obtain ⟨⟩ := s672
      replace hI18 : f14 1 = (Value.pointer (some ⟨b1, 0, none⟩)) ∧ f14 7 = (Value.int .i64 ((r_Table).length : Int)) ∧ f14 8 = Value.int .i64 (k12 : Int) ∧ InR .i64 (k12 : Int) ∧ St wd2 wd15 [] := hI18
      replace hb17 : p_impl_Ring_unitFault_L1 r_Table k12  = some ct13 := hb17
      unfold p_impl_Ring_unitFault_L1 at hb17
      obtain ⟨hf21, hf22, hf23, hr24, hS25⟩ := hI18
      refine W.seq (W.region ?_)
      refine WL.val (Value.bool (decide ((k12 : Int) < ((r_Table).length : Int)))) _ (op_lss hf23 hf22) rfl ?_
      have hl26 : (k12 : Int) < ((r_Table).length : Int) := by omega
      refine WL.nil ?_
      refine W.seq ?_
      refine W.condT (decide ((k12 : Int) < ((r_Table).length : Int))) rfl (decide_eq_true hl26) ?_
      refine W.skip ?_
      refine W.seq ?_
      refine W.block ?_
      refine W.seq (W.region ?_)
      refine WL.val (Value.int .i64 (k12 : Int)) _ (op_move hf23) rfl ?_
      refine WL.val (Value.int .i64 (k12 : Int)) _ (op_assign rfl) rfl ?_
      refine WL.nil ?_
      refine W.seq (W.region ?_)
      refine WL.val (Value.pointer (some ⟨b1, 0, none⟩)) _ (op_fieldAddr fd_29_0 hf21) rfl ?_
      refine WL.val v_r_Table _ (op_load one_22 rfl (BoxAt.cell (BoxAt.lift hS25.ext hx6) rfl)) rfl ?_
      have hr28 := inR_len (Ty.lift _ (Ext.trans hE7 hS25.ext) r_r_Table)
      refine WL.val (Value.int .i64 ((r_Table).length : Int)) _ (op_lenL sl_22 (Ty.lift _ (Ext.trans hE7 hS25.ext) r_r_Table) rfl) rfl ?_
      refine WL.val (Value.int .i64 (0 : Int)) _ (op_move rfl) rfl ?_
      refine WL.nil ?_
      show W _ _ _ _ _ _
      obtain ⟨res29, hres30, hb17⟩ := bs hb17
      refine W.blockLoop (fun fq wq => ∃ s, res29 = Res.fin s ∧ fq 1 = (Value.pointer (some ⟨b1, 0, none⟩)) ∧ fq 7 = (Value.int .i64 ((r_Table).length : Int)) ∧ fq 8 = (Value.int .i64 (k12 : Int)) ∧ St wd2 wq []) ?_ ?_
      · refine W.forN (fun k (s : Unit) fq wq => fq 1 = (Value.pointer (some ⟨b1, 0, none⟩)) ∧ fq 3 = (Value.int .i64 (k12 : Int)) ∧ fq 7 = (Value.int .i64 ((r_Table).length : Int)) ∧ fq 8 = (Value.int .i64 (k12 : Int)) ∧ fq 13 = (Value.int .i64 ((r_Table).length : Int)) ∧ fq 14 = Value.int .i64 (k : Int) ∧ InR .i64 (k : Int) ∧ St wd2 wq []) hres30 ⟨hf21, rfl, hf22, hf23, rfl, rfl, (inL rfl), hS25⟩ ?_ ?_
        · intro k31 s648 ct32 f33 wd34 hk35 hb36 hI37 hbrk38 hret39
          obtain ⟨⟩ := s648
          replace hI37 : f33 1 = (Value.pointer (some ⟨b1, 0, none⟩)) ∧ f33 3 = (Value.int .i64 (k12 : Int)) ∧ f33 7 = (Value.int .i64 ((r_Table).length : Int)) ∧ f33 8 = (Value.int .i64 (k12 : Int)) ∧ f33 13 = (Value.int .i64 ((r_Table).length : Int)) ∧ f33 14 = Value.int .i64 (k31 : Int) ∧ InR .i64 (k31 : Int) ∧ St wd2 wd34 [] := hI37
          replace hb36 : p_impl_Ring_unitFault_L2 r_Table k12 k31  = some ct32 := hb36
          unfold p_impl_Ring_unitFault_L2 at hb36
          obtain ⟨hf40, hf41, hf42, hf43, hf44, hf45, hr46, hS47⟩ := hI37
          refine W.seq (W.region ?_)
          refine WL.val (Value.bool (decide ((k31 : Int) < ((r_Table).length : Int)))) _ (op_lss hf45 hf44) rfl ?_
          have hl48 : (k31 : Int) < ((r_Table).length : Int) := by omega
          refine WL.nil ?_
          refine W.seq ?_
          refine W.condT (decide ((k31 : Int) < ((r_Table).length : Int))) rfl (decide_eq_true hl48) ?_
          refine W.skip ?_
          refine W.seq ?_
          refine W.block ?_
          refine W.seq (W.region ?_)
          refine WL.val (Value.int .i64 (k31 : Int)) _ (op_move hf45) rfl ?_
          refine WL.val (Value.int .i64 (k31 : Int)) _ (op_assign rfl) rfl ?_
          refine WL.nil ?_
          refine W.seq ?_
          obtain ⟨x77, hx80, hb36⟩ := bs hb36
          obtain ⟨ha78, hb79, hx80⟩ := idx_some hx80
          obtain ⟨u91, hc92, hr93⟩ := repSl.el r_r_Table hx80
          obtain ⟨x116, hx119, hb36⟩ := bs hb36
          obtain ⟨ha117, hb118, hx119⟩ := idx_some hx119
          obtain ⟨u130, hc131, hr132⟩ := repSl.el hr93 hx119
          obtain ⟨x155, hx158, hb36⟩ := bs hb36
          obtain ⟨ha156, hb157, hx158⟩ := idx_some hx158
          obtain ⟨u169, hc170, hr171⟩ := repSl.el hr132 hx158
          obtain ⟨rfl, hr171⟩ := hr171
          obtain ⟨x202, hx203, hb36⟩ := bs hb36
          obtain ⟨x234, hj235, hb36⟩ := bs hb36
          refine W.cutCode (fun fq wq => fq 1 = (Value.pointer (some ⟨b1, 0, none⟩)) ∧ fq 3 = (Value.int .i64 (k12 : Int)) ∧ fq 4 = (Value.int .i64 (k31 : Int)) ∧ fq 7 = (Value.int .i64 ((r_Table).length : Int)) ∧ fq 8 = (Value.int .i64 (k12 : Int)) ∧ fq 13 = (Value.int .i64 ((r_Table).length : Int)) ∧ fq 14 = (Value.int .i64 (k31 : Int)) ∧ fq 46 = Value.bool x234 ∧ St wd2 wq []) ?_ ?_
          · rcases Bool.eq_false_or_eq_true (x155 != x202) with hc236 | hc236
            · replace hj235 := ip hj235 hc236
              refine W.drawR mixo 28 [] [fun _ v _ _ => v = (Value.pointer (some ⟨b1, 0, none⟩)), fun _ v _ _ => v = v_r_Table, fun _ v _ _ => v = (Value.pointer (some (elA v_r_Table ((0 : Int)).toNat))), fun _ v _ _ => v = u91, fun _ v _ _ => v = (Value.int .i64 (k12 : Int)) ∧ InR .i64 (k12 : Int), fun _ v _ _ => v = (Value.pointer (some (elA u91 ((k12 : Int)).toNat))), fun _ v _ _ => v = u130, fun _ v _ _ => v = (Value.int .i64 (k31 : Int)) ∧ InR .i64 (k31 : Int), fun _ v _ _ => v = (Value.pointer (some (elA u130 ((k31 : Int)).toNat))), fun _ v _ _ => v = (Value.int .i64 x155) ∧ InR .i64 x155, fun _ v _ _ => v = (Value.int .i64 (k12 : Int)) ∧ InR .i64 (k12 : Int), fun _ v _ _ => v = (Value.int .i64 (k31 : Int)) ∧ InR .i64 (k31 : Int), fun _ v _ _ => v = (Value.int .i64 x202) ∧ InR .i64 x202, fun _ v _ _ => v = (Value.bool (x155 != x202)), fun _ v _ _ => v = (Value.bool (x155 != x202)), fun _ v _ _ => v = undef, fun _ v _ _ => v = undef, fun _ v _ _ => v = undef, fun _ v _ _ => v = undef, fun _ v _ _ => v = undef, fun _ v _ _ => v = undef, fun _ v _ _ => v = undef, fun _ v _ _ => v = undef, fun _ v _ _ => v = undef, fun _ v _ _ => v = undef, fun _ v _ _ => v = undef, fun _ v _ _ => v = undef, fun _ v _ _ => v = undef] (by kernel_rfl) (by kernel_rfl) ⟨pk, pk, pk, pk, pk, pk, pk, pk, pk, pk, pk, pk, pk, pk, pk, pk, pk, pk, pk, pk, pk, pk, pk, pk, pk, pk, pk, pk, trivial⟩ ⟨?_, ?_, ?_, ?_, ?_, ?_, ?_, ?_, ?_, ?_, ?_, ?_, ?_, ?_, ?_, ?_, ?_, ?_, ?_, ?_, ?_, ?_, ?_, ?_, ?_, ?_, ?_, ?_, trivial⟩ ?_
              · refine ObX.op rfl fun f50 wd51 he52 hout53 hphi54 => ?_
                have hS55 := St.extend hS47 he52
                have e56 : f50 1 = (Value.pointer (some ⟨b1, 0, none⟩)) := (hout53 1 rfl).trans hf40
                exact OpX.val (Value.pointer (some ⟨b1, 0, none⟩)) wd51 rfl (op_fieldAddr fd_29_0 e56) (Ext.refl _) rfl
              · refine ObX.op rfl fun f57 wd58 he59 hout60 hphi61 => ?_
                have hS62 := St.extend hS47 he59
                obtain ⟨S63, hS64, hf65⟩ := hphi61 0 17 _ rfl rfl rfl
                have e66 : f57 17 = (Value.pointer (some ⟨b1, 0, none⟩)) := hf65
                exact OpX.val v_r_Table wd58 rfl (op_load one_22 e66 (BoxAt.cell (BoxAt.lift hS62.ext hx6) rfl)) (Ext.refl _) rfl
              · refine ObX.op rfl fun f67 wd68 he69 hout70 hphi71 => ?_
                have hS72 := St.extend hS47 he69
                obtain ⟨S73, hS74, hf75⟩ := hphi71 1 18 _ rfl rfl rfl
                have e76 : f67 18 = v_r_Table := hf75
                exact OpX.val (Value.pointer (some (elA v_r_Table ((0 : Int)).toNat))) wd68 rfl (op_idx sl_22 (Ty.lift _ (Ext.trans hE7 hS72.ext) r_r_Table) e76 rfl ha78 hb79) (Ext.refl _) rfl
              · refine ObX.op rfl fun f81 wd82 he83 hout84 hphi85 => ?_
                have hS86 := St.extend hS47 he83
                obtain ⟨S87, hS88, hf89⟩ := hphi85 2 19 _ rfl rfl rfl
                have e90 : f81 19 = (Value.pointer (some (elA v_r_Table ((0 : Int)).toNat))) := hf89
                exact OpX.val u91 wd82 rfl (op_load one_46 e90 (Ext.cell (Ext.trans hE7 hS86.ext) hc92)) (Ext.refl _) rfl
              · refine ObX.op rfl fun f94 wd95 he96 hout97 hphi98 => ?_
                have hS99 := St.extend hS47 he96
                have e100 : f94 3 = (Value.int .i64 (k12 : Int)) := (hout97 3 rfl).trans hf41
                exact OpX.val (Value.int .i64 (k12 : Int)) wd95 rfl (op_move e100) (Ext.refl _) ⟨rfl, hr24⟩
              · refine ObX.op rfl fun f101 wd102 he103 hout104 hphi105 => ?_
                have hS106 := St.extend hS47 he103
                obtain ⟨S107, hS108, hf109⟩ := hphi105 3 20 _ rfl rfl rfl
                have e110 : f101 20 = u91 := hf109
                obtain ⟨S111, hS112, hf113⟩ := hphi105 4 21 _ rfl rfl rfl
                obtain ⟨e114, hr115⟩ := hf113
                exact OpX.val (Value.pointer (some (elA u91 ((k12 : Int)).toNat))) wd102 rfl (op_idx sl_46 (Ty.lift _ (Ext.trans hE7 hS106.ext) hr93) e110 e114 ha117 hb118) (Ext.refl _) rfl
              · refine ObX.op rfl fun f120 wd121 he122 hout123 hphi124 => ?_
                have hS125 := St.extend hS47 he122
                obtain ⟨S126, hS127, hf128⟩ := hphi124 5 22 _ rfl rfl rfl
                have e129 : f120 22 = (Value.pointer (some (elA u91 ((k12 : Int)).toNat))) := hf128
                exact OpX.val u130 wd121 rfl (op_load one_25 e129 (Ext.cell (Ext.trans hE7 hS125.ext) hc131)) (Ext.refl _) rfl
              · refine ObX.op rfl fun f133 wd134 he135 hout136 hphi137 => ?_
                have hS138 := St.extend hS47 he135
                have e139 : f133 4 = (Value.int .i64 (k31 : Int)) := (hout136 4 rfl).trans rfl
                exact OpX.val (Value.int .i64 (k31 : Int)) wd134 rfl (op_move e139) (Ext.refl _) ⟨rfl, hr46⟩
              · refine ObX.op rfl fun f140 wd141 he142 hout143 hphi144 => ?_
                have hS145 := St.extend hS47 he142
                obtain ⟨S146, hS147, hf148⟩ := hphi144 6 23 _ rfl rfl rfl
                have e149 : f140 23 = u130 := hf148
                obtain ⟨S150, hS151, hf152⟩ := hphi144 7 24 _ rfl rfl rfl
                obtain ⟨e153, hr154⟩ := hf152
                exact OpX.val (Value.pointer (some (elA u130 ((k31 : Int)).toNat))) wd141 rfl (op_idx sl_25 (Ty.lift _ (Ext.trans hE7 hS145.ext) hr132) e149 e153 ha156 hb157) (Ext.refl _) rfl
              · refine ObX.op rfl fun f159 wd160 he161 hout162 hphi163 => ?_
                have hS164 := St.extend hS47 he161
                obtain ⟨S165, hS166, hf167⟩ := hphi163 8 25 _ rfl rfl rfl
                have e168 : f159 25 = (Value.pointer (some (elA u130 ((k31 : Int)).toNat))) := hf167
                exact OpX.val (Value.int .i64 x155) wd160 rfl (op_load one_2 e168 (Ext.cell (Ext.trans hE7 hS164.ext) hc170)) (Ext.refl _) ⟨rfl, hr171⟩
              · refine ObX.op rfl fun f172 wd173 he174 hout175 hphi176 => ?_
                have hS177 := St.extend hS47 he174
                have e178 : f172 3 = (Value.int .i64 (k12 : Int)) := (hout175 3 rfl).trans hf41
                exact OpX.val (Value.int .i64 (k12 : Int)) wd173 rfl (op_move e178) (Ext.refl _) ⟨rfl, hr24⟩
              · refine ObX.op rfl fun f179 wd180 he181 hout182 hphi183 => ?_
                have hS184 := St.extend hS47 he181
                have e185 : f179 4 = (Value.int .i64 (k31 : Int)) := (hout182 4 rfl).trans rfl
                exact OpX.val (Value.int .i64 (k31 : Int)) wd180 rfl (op_move e185) (Ext.refl _) ⟨rfl, hr46⟩
              · refine ObX.op rfl fun f186 wd187 he188 hout189 hphi190 => ?_
                have hS191 := St.extend hS47 he188
                obtain ⟨S192, hS193, hf194⟩ := hphi190 10 27 _ rfl rfl rfl
                obtain ⟨e195, hr196⟩ := hf194
                obtain ⟨S197, hS198, hf199⟩ := hphi190 11 28 _ rfl rfl rfl
                obtain ⟨e200, hr201⟩ := hf199
                refine OpX.call rfl (op_call fn_82 (args2 e195 e200)) (Ret.mono (c_impl_delta hr196 hr201 hx203) ?_)
                rintro _ wd205 ⟨rfl, hr204, he206⟩
                exact ⟨he206, _, noS _ _, ⟨rfl, hr204⟩⟩
              · refine ObX.op rfl fun f208 wd209 he210 hout211 hphi212 => ?_
                have hS213 := St.extend hS47 he210
                obtain ⟨S214, hS215, hf216⟩ := hphi212 9 26 _ rfl rfl rfl
                obtain ⟨e217, hr218⟩ := hf216
                obtain ⟨S219, hS220, hf221⟩ := hphi212 12 29 _ rfl rfl rfl
                obtain ⟨e222, hr223⟩ := hf221
                exact OpX.val (Value.bool (x155 != x202)) wd209 rfl (op_neq e217 e222) (Ext.refl _) rfl
              · refine ObX.op rfl fun f224 wd225 he226 hout227 hphi228 => ?_
                have hS229 := St.extend hS47 he226
                obtain ⟨S230, hS231, hf232⟩ := hphi228 13 30 _ rfl rfl rfl
                have e233 : f224 30 = (Value.bool (x155 != x202)) := hf232
                exact OpX.val (Value.bool (x155 != x202)) wd225 rfl (op_move e233) (Ext.refl _) rfl
              · refine ObX.op rfl fun f237 wd238 he239 hout240 hphi241 => ?_
                obtain ⟨S242, hS243, hf244⟩ := hphi241 14 31 _ rfl rfl rfl
                have e245 : f237 31 = (Value.bool (x155 != x202)) := hf244
                exact OpX.skip (wanted_skip rfl rfl e245 hc236) rfl
              · refine ObX.op rfl fun f246 wd247 he248 hout249 hphi250 => ?_
                obtain ⟨S251, hS252, hf253⟩ := hphi250 14 31 _ rfl rfl rfl
                have e254 : f246 31 = (Value.bool (x155 != x202)) := hf253
                exact OpX.skip (wanted_skip rfl rfl e254 hc236) rfl
              · refine ObX.op rfl fun f255 wd256 he257 hout258 hphi259 => ?_
                obtain ⟨S260, hS261, hf262⟩ := hphi259 14 31 _ rfl rfl rfl
                have e263 : f255 31 = (Value.bool (x155 != x202)) := hf262
                exact OpX.skip (wanted_skip rfl rfl e263 hc236) rfl
              · refine ObX.op rfl fun f264 wd265 he266 hout267 hphi268 => ?_
                obtain ⟨S269, hS270, hf271⟩ := hphi268 14 31 _ rfl rfl rfl
                have e272 : f264 31 = (Value.bool (x155 != x202)) := hf271
                exact OpX.skip (wanted_skip rfl rfl e272 hc236) rfl
              · refine ObX.op rfl fun f273 wd274 he275 hout276 hphi277 => ?_
                obtain ⟨S278, hS279, hf280⟩ := hphi277 14 31 _ rfl rfl rfl
                have e281 : f273 31 = (Value.bool (x155 != x202)) := hf280
                exact OpX.skip (wanted_skip rfl rfl e281 hc236) rfl
              · refine ObX.op rfl fun f282 wd283 he284 hout285 hphi286 => ?_
                obtain ⟨S287, hS288, hf289⟩ := hphi286 14 31 _ rfl rfl rfl
                have e290 : f282 31 = (Value.bool (x155 != x202)) := hf289
                exact OpX.skip (wanted_skip rfl rfl e290 hc236) rfl
              · refine ObX.op rfl fun f291 wd292 he293 hout294 hphi295 => ?_
                obtain ⟨S296, hS297, hf298⟩ := hphi295 14 31 _ rfl rfl rfl
                have e299 : f291 31 = (Value.bool (x155 != x202)) := hf298
                exact OpX.skip (wanted_skip rfl rfl e299 hc236) rfl
              · refine ObX.op rfl fun f300 wd301 he302 hout303 hphi304 => ?_
                obtain ⟨S305, hS306, hf307⟩ := hphi304 14 31 _ rfl rfl rfl
                have e308 : f300 31 = (Value.bool (x155 != x202)) := hf307
                exact OpX.skip (wanted_skip rfl rfl e308 hc236) rfl
              · refine ObX.op rfl fun f309 wd310 he311 hout312 hphi313 => ?_
                obtain ⟨S314, hS315, hf316⟩ := hphi313 14 31 _ rfl rfl rfl
                have e317 : f309 31 = (Value.bool (x155 != x202)) := hf316
                exact OpX.skip (wanted_skip rfl rfl e317 hc236) rfl
              · refine ObX.op rfl fun f318 wd319 he320 hout321 hphi322 => ?_
                obtain ⟨S323, hS324, hf325⟩ := hphi322 14 31 _ rfl rfl rfl
                have e326 : f318 31 = (Value.bool (x155 != x202)) := hf325
                exact OpX.skip (wanted_skip rfl rfl e326 hc236) rfl
              · refine ObX.op rfl fun f327 wd328 he329 hout330 hphi331 => ?_
                obtain ⟨S332, hS333, hf334⟩ := hphi331 14 31 _ rfl rfl rfl
                have e335 : f327 31 = (Value.bool (x155 != x202)) := hf334
                exact OpX.skip (wanted_skip rfl rfl e335 hc236) rfl
              · refine ObX.op rfl fun f336 wd337 he338 hout339 hphi340 => ?_
                obtain ⟨S341, hS342, hf343⟩ := hphi340 14 31 _ rfl rfl rfl
                have e344 : f336 31 = (Value.bool (x155 != x202)) := hf343
                exact OpX.skip (wanted_skip rfl rfl e344 hc236) rfl
              · refine ObX.op rfl fun f345 wd346 he347 hout348 hphi349 => ?_
                obtain ⟨S350, hS351, hf352⟩ := hphi349 14 31 _ rfl rfl rfl
                have e353 : f345 31 = (Value.bool (x155 != x202)) := hf352
                exact OpX.skip (wanted_skip rfl rfl e353 hc236) rfl
              · intro f354 wd355 Ss356 he357 hout358 hSn359 hSd360 hphi361
                show WL _ _ _ _ _ _ _
                have hS362 := St.extend hS47 he357
                have e363 : f354 31 = (Value.bool (x155 != x202)) := hphi361 14 31 _ (by decide) rfl rfl
                have e377 : f354 1 = (Value.pointer (some ⟨b1, 0, none⟩)) := (hout358 1 rfl).trans hf40
                have e378 : f354 3 = (Value.int .i64 (k12 : Int)) := (hout358 3 rfl).trans hf41
                have e379 : f354 4 = (Value.int .i64 (k31 : Int)) := (hout358 4 rfl).trans rfl
                have e380 : f354 7 = (Value.int .i64 ((r_Table).length : Int)) := (hout358 7 rfl).trans hf42
                have e381 : f354 8 = (Value.int .i64 (k12 : Int)) := (hout358 8 rfl).trans hf43
                have e382 : f354 13 = (Value.int .i64 ((r_Table).length : Int)) := (hout358 13 rfl).trans hf44
                have e383 : f354 14 = (Value.int .i64 (k31 : Int)) := (hout358 14 rfl).trans hf45
                refine WL.gskip rfl (bool_of e363 hc236) rfl ?_
                refine WL.val (Value.bool true) _ (op_pick_t (evb_of e363 hc236) rfl) rfl ?_
                refine WL.nil ?_
                obtain rfl := Option.some.inj hj235
                exact ⟨e377, e378, e379, e380, e381, e382, e383, rfl, hS362⟩
            · replace hj235 := inegb hj235 hc236
              obtain ⟨x439, hx442, hj235⟩ := bs hj235
              obtain ⟨ha440, hb441, hx442⟩ := idx_some hx442
              obtain ⟨u457, hc458, hr459⟩ := repSl.el r_r_Table hx442
              obtain ⟨x474, hx477, hj235⟩ := bs hj235
              obtain ⟨ha475, hb476, hx477⟩ := idx_some hx477
              obtain ⟨u492, hc493, hr494⟩ := repSl.el hr459 hx477
              obtain ⟨x525, hx528, hj235⟩ := bs hj235
              obtain ⟨ha526, hb527, hx528⟩ := idx_some hx528
              obtain ⟨u543, hc544, hr545⟩ := repSl.el hr494 hx528
              obtain ⟨rfl, hr545⟩ := hr545
              obtain ⟨x588, hx589, hj235⟩ := bs hj235
              refine W.drawR mixo 28 [] [fun _ v _ _ => v = (Value.pointer (some ⟨b1, 0, none⟩)), fun _ v _ _ => v = v_r_Table, fun _ v _ _ => v = (Value.pointer (some (elA v_r_Table ((0 : Int)).toNat))), fun _ v _ _ => v = u91, fun _ v _ _ => v = (Value.int .i64 (k12 : Int)) ∧ InR .i64 (k12 : Int), fun _ v _ _ => v = (Value.pointer (some (elA u91 ((k12 : Int)).toNat))), fun _ v _ _ => v = u130, fun _ v _ _ => v = (Value.int .i64 (k31 : Int)) ∧ InR .i64 (k31 : Int), fun _ v _ _ => v = (Value.pointer (some (elA u130 ((k31 : Int)).toNat))), fun _ v _ _ => v = (Value.int .i64 x155) ∧ InR .i64 x155, fun _ v _ _ => v = (Value.int .i64 (k12 : Int)) ∧ InR .i64 (k12 : Int), fun _ v _ _ => v = (Value.int .i64 (k31 : Int)) ∧ InR .i64 (k31 : Int), fun _ v _ _ => v = (Value.int .i64 x202) ∧ InR .i64 x202, fun _ v _ _ => v = (Value.bool (x155 != x202)), fun _ v _ _ => v = (Value.bool (x155 != x202)), fun _ v _ _ => v = (Value.pointer (some ⟨b1, 0, none⟩)), fun _ v _ _ => v = v_r_Table, fun _ v _ _ => v = (Value.int .i64 (k12 : Int)) ∧ InR .i64 (k12 : Int), fun _ v _ _ => v = (Value.pointer (some (elA v_r_Table ((k12 : Int)).toNat))), fun _ v _ _ => v = u457, fun _ v _ _ => v = (Value.pointer (some (elA u457 ((0 : Int)).toNat))), fun _ v _ _ => v = u492, fun _ v _ _ => v = (Value.int .i64 (k31 : Int)) ∧ InR .i64 (k31 : Int), fun _ v _ _ => v = (Value.pointer (some (elA u492 ((k31 : Int)).toNat))), fun _ v _ _ => v = (Value.int .i64 x525) ∧ InR .i64 x525, fun _ v _ _ => v = (Value.int .i64 (k12 : Int)) ∧ InR .i64 (k12 : Int), fun _ v _ _ => v = (Value.int .i64 (k31 : Int)) ∧ InR .i64 (k31 : Int), fun _ v _ _ => v = (Value.int .i64 x588) ∧ InR .i64 x588] (by kernel_rfl) (by kernel_rfl) ⟨pk, pk, pk, pk, pk, pk, pk, pk, pk, pk, pk, pk, pk, pk, pk, pk, pk, pk, pk, pk, pk, pk, pk, pk, pk, pk, pk, pk, trivial⟩ ⟨?_, ?_, ?_, ?_, ?_, ?_, ?_, ?_, ?_, ?_, ?_, ?_, ?_, ?_, ?_, ?_, ?_, ?_, ?_, ?_, ?_, ?_, ?_, ?_, ?_, ?_, ?_, ?_, trivial⟩ ?_
              · refine ObX.op rfl fun f50 wd51 he52 hout53 hphi54 => ?_
                have hS55 := St.extend hS47 he52
                have e56 : f50 1 = (Value.pointer (some ⟨b1, 0, none⟩)) := (hout53 1 rfl).trans hf40
                exact OpX.val (Value.pointer (some ⟨b1, 0, none⟩)) wd51 rfl (op_fieldAddr fd_29_0 e56) (Ext.refl _) rfl
              · refine ObX.op rfl fun f57 wd58 he59 hout60 hphi61 => ?_
                have hS62 := St.extend hS47 he59
                obtain ⟨S63, hS64, hf65⟩ := hphi61 0 17 _ rfl rfl rfl
                have e66 : f57 17 = (Value.pointer (some ⟨b1, 0, none⟩)) := hf65
                exact OpX.val v_r_Table wd58 rfl (op_load one_22 e66 (BoxAt.cell (BoxAt.lift hS62.ext hx6) rfl)) (Ext.refl _) rfl
              · refine ObX.op rfl fun f67 wd68 he69 hout70 hphi71 => ?_
                have hS72 := St.extend hS47 he69
                obtain ⟨S73, hS74, hf75⟩ := hphi71 1 18 _ rfl rfl rfl
                have e76 : f67 18 = v_r_Table := hf75
                exact OpX.val (Value.pointer (some (elA v_r_Table ((0 : Int)).toNat))) wd68 rfl (op_idx sl_22 (Ty.lift _ (Ext.trans hE7 hS72.ext) r_r_Table) e76 rfl ha78 hb79) (Ext.refl _) rfl
              · refine ObX.op rfl fun f81 wd82 he83 hout84 hphi85 => ?_
                have hS86 := St.extend hS47 he83
                obtain ⟨S87, hS88, hf89⟩ := hphi85 2 19 _ rfl rfl rfl
                have e90 : f81 19 = (Value.pointer (some (elA v_r_Table ((0 : Int)).toNat))) := hf89
                exact OpX.val u91 wd82 rfl (op_load one_46 e90 (Ext.cell (Ext.trans hE7 hS86.ext) hc92)) (Ext.refl _) rfl
              · refine ObX.op rfl fun f94 wd95 he96 hout97 hphi98 => ?_
                have hS99 := St.extend hS47 he96
                have e100 : f94 3 = (Value.int .i64 (k12 : Int)) := (hout97 3 rfl).trans hf41
                exact OpX.val (Value.int .i64 (k12 : Int)) wd95 rfl (op_move e100) (Ext.refl _) ⟨rfl, hr24⟩
              · refine ObX.op rfl fun f101 wd102 he103 hout104 hphi105 => ?_
                have hS106 := St.extend hS47 he103
                obtain ⟨S107, hS108, hf109⟩ := hphi105 3 20 _ rfl rfl rfl
                have e110 : f101 20 = u91 := hf109
                obtain ⟨S111, hS112, hf113⟩ := hphi105 4 21 _ rfl rfl rfl
                obtain ⟨e114, hr115⟩ := hf113
                exact OpX.val (Value.pointer (some (elA u91 ((k12 : Int)).toNat))) wd102 rfl (op_idx sl_46 (Ty.lift _ (Ext.trans hE7 hS106.ext) hr93) e110 e114 ha117 hb118) (Ext.refl _) rfl
              · refine ObX.op rfl fun f120 wd121 he122 hout123 hphi124 => ?_
                have hS125 := St.extend hS47 he122
                obtain ⟨S126, hS127, hf128⟩ := hphi124 5 22 _ rfl rfl rfl
                have e129 : f120 22 = (Value.pointer (some (elA u91 ((k12 : Int)).toNat))) := hf128
                exact OpX.val u130 wd121 rfl (op_load one_25 e129 (Ext.cell (Ext.trans hE7 hS125.ext) hc131)) (Ext.refl _) rfl
              · refine ObX.op rfl fun f133 wd134 he135 hout136 hphi137 => ?_
                have hS138 := St.extend hS47 he135
                have e139 : f133 4 = (Value.int .i64 (k31 : Int)) := (hout136 4 rfl).trans rfl
                exact OpX.val (Value.int .i64 (k31 : Int)) wd134 rfl (op_move e139) (Ext.refl _) ⟨rfl, hr46⟩
              · refine ObX.op rfl fun f140 wd141 he142 hout143 hphi144 => ?_
                have hS145 := St.extend hS47 he142
                obtain ⟨S146, hS147, hf148⟩ := hphi144 6 23 _ rfl rfl rfl
                have e149 : f140 23 = u130 := hf148
                obtain ⟨S150, hS151, hf152⟩ := hphi144 7 24 _ rfl rfl rfl
                obtain ⟨e153, hr154⟩ := hf152
                exact OpX.val (Value.pointer (some (elA u130 ((k31 : Int)).toNat))) wd141 rfl (op_idx sl_25 (Ty.lift _ (Ext.trans hE7 hS145.ext) hr132) e149 e153 ha156 hb157) (Ext.refl _) rfl
              · refine ObX.op rfl fun f159 wd160 he161 hout162 hphi163 => ?_
                have hS164 := St.extend hS47 he161
                obtain ⟨S165, hS166, hf167⟩ := hphi163 8 25 _ rfl rfl rfl
                have e168 : f159 25 = (Value.pointer (some (elA u130 ((k31 : Int)).toNat))) := hf167
                exact OpX.val (Value.int .i64 x155) wd160 rfl (op_load one_2 e168 (Ext.cell (Ext.trans hE7 hS164.ext) hc170)) (Ext.refl _) ⟨rfl, hr171⟩
              · refine ObX.op rfl fun f172 wd173 he174 hout175 hphi176 => ?_
                have hS177 := St.extend hS47 he174
                have e178 : f172 3 = (Value.int .i64 (k12 : Int)) := (hout175 3 rfl).trans hf41
                exact OpX.val (Value.int .i64 (k12 : Int)) wd173 rfl (op_move e178) (Ext.refl _) ⟨rfl, hr24⟩
              · refine ObX.op rfl fun f179 wd180 he181 hout182 hphi183 => ?_
                have hS184 := St.extend hS47 he181
                have e185 : f179 4 = (Value.int .i64 (k31 : Int)) := (hout182 4 rfl).trans rfl
                exact OpX.val (Value.int .i64 (k31 : Int)) wd180 rfl (op_move e185) (Ext.refl _) ⟨rfl, hr46⟩
              · refine ObX.op rfl fun f186 wd187 he188 hout189 hphi190 => ?_
                have hS191 := St.extend hS47 he188
                obtain ⟨S192, hS193, hf194⟩ := hphi190 10 27 _ rfl rfl rfl
                obtain ⟨e195, hr196⟩ := hf194
                obtain ⟨S197, hS198, hf199⟩ := hphi190 11 28 _ rfl rfl rfl
                obtain ⟨e200, hr201⟩ := hf199
                refine OpX.call rfl (op_call fn_82 (args2 e195 e200)) (Ret.mono (c_impl_delta hr196 hr201 hx203) ?_)
                rintro _ wd205 ⟨rfl, hr204, he206⟩
                exact ⟨he206, _, noS _ _, ⟨rfl, hr204⟩⟩
              · refine ObX.op rfl fun f208 wd209 he210 hout211 hphi212 => ?_
                have hS213 := St.extend hS47 he210
                obtain ⟨S214, hS215, hf216⟩ := hphi212 9 26 _ rfl rfl rfl
                obtain ⟨e217, hr218⟩ := hf216
                obtain ⟨S219, hS220, hf221⟩ := hphi212 12 29 _ rfl rfl rfl
                obtain ⟨e222, hr223⟩ := hf221
                exact OpX.val (Value.bool (x155 != x202)) wd209 rfl (op_neq e217 e222) (Ext.refl _) rfl
              · refine ObX.op rfl fun f224 wd225 he226 hout227 hphi228 => ?_
                have hS229 := St.extend hS47 he226
                obtain ⟨S230, hS231, hf232⟩ := hphi228 13 30 _ rfl rfl rfl
                have e233 : f224 30 = (Value.bool (x155 != x202)) := hf232
                exact OpX.val (Value.bool (x155 != x202)) wd225 rfl (op_move e233) (Ext.refl _) rfl
              · refine ObX.op rfl fun f384 wd385 he386 hout387 hphi388 => ?_
                have e390 : f384 1 = (Value.pointer (some ⟨b1, 0, none⟩)) := (hout387 1 rfl).trans hf40
                obtain ⟨S391, hS392, hf393⟩ := hphi388 14 31 _ rfl rfl rfl
                have e394 : f384 31 = (Value.bool (x155 != x202)) := hf393
                exact OpX.val (Value.pointer (some ⟨b1, 0, none⟩)) wd385 (wanted_run rfl rfl e394 hc236) (op_fieldAddr fd_29_0 e390) (Ext.refl _) rfl
              · refine ObX.op rfl fun f395 wd396 he397 hout398 hphi399 => ?_
                have hS400 := St.extend hS47 he397
                obtain ⟨S401, hS402, hf403⟩ := hphi399 14 31 _ rfl rfl rfl
                have e404 : f395 31 = (Value.bool (x155 != x202)) := hf403
                obtain ⟨S405, hS406, hf407⟩ := hphi399 15 32 _ rfl rfl rfl
                have e408 : f395 32 = (Value.pointer (some ⟨b1, 0, none⟩)) := hf407
                exact OpX.val v_r_Table wd396 (wanted_run rfl rfl e404 hc236) (op_load one_22 e408 (BoxAt.cell (BoxAt.lift hS400.ext hx6) rfl)) (Ext.refl _) rfl
              · refine ObX.op rfl fun f409 wd410 he411 hout412 hphi413 => ?_
                have e415 : f409 3 = (Value.int .i64 (k12 : Int)) := (hout412 3 rfl).trans hf41
                obtain ⟨S416, hS417, hf418⟩ := hphi413 14 31 _ rfl rfl rfl
                have e419 : f409 31 = (Value.bool (x155 != x202)) := hf418
                exact OpX.val (Value.int .i64 (k12 : Int)) wd410 (wanted_run rfl rfl e419 hc236) (op_move e415) (Ext.refl _) ⟨rfl, hr24⟩
              · refine ObX.op rfl fun f420 wd421 he422 hout423 hphi424 => ?_
                have hS425 := St.extend hS47 he422
                obtain ⟨S426, hS427, hf428⟩ := hphi424 14 31 _ rfl rfl rfl
                have e429 : f420 31 = (Value.bool (x155 != x202)) := hf428
                obtain ⟨S430, hS431, hf432⟩ := hphi424 16 33 _ rfl rfl rfl
                have e433 : f420 33 = v_r_Table := hf432
                obtain ⟨S434, hS435, hf436⟩ := hphi424 17 34 _ rfl rfl rfl
                obtain ⟨e437, hr438⟩ := hf436
                exact OpX.val (Value.pointer (some (elA v_r_Table ((k12 : Int)).toNat))) wd421 (wanted_run rfl rfl e429 hc236) (op_idx sl_22 (Ty.lift _ (Ext.trans hE7 hS425.ext) r_r_Table) e433 e437 ha440 hb441) (Ext.refl _) rfl
              · refine ObX.op rfl fun f443 wd444 he445 hout446 hphi447 => ?_
                have hS448 := St.extend hS47 he445
                obtain ⟨S449, hS450, hf451⟩ := hphi447 14 31 _ rfl rfl rfl
                have e452 : f443 31 = (Value.bool (x155 != x202)) := hf451
                obtain ⟨S453, hS454, hf455⟩ := hphi447 18 35 _ rfl rfl rfl
                have e456 : f443 35 = (Value.pointer (some (elA v_r_Table ((k12 : Int)).toNat))) := hf455
                exact OpX.val u457 wd444 (wanted_run rfl rfl e452 hc236) (op_load one_46 e456 (Ext.cell (Ext.trans hE7 hS448.ext) hc458)) (Ext.refl _) rfl
              · refine ObX.op rfl fun f460 wd461 he462 hout463 hphi464 => ?_
                have hS465 := St.extend hS47 he462
                obtain ⟨S466, hS467, hf468⟩ := hphi464 14 31 _ rfl rfl rfl
                have e469 : f460 31 = (Value.bool (x155 != x202)) := hf468
                obtain ⟨S470, hS471, hf472⟩ := hphi464 19 36 _ rfl rfl rfl
                have e473 : f460 36 = u457 := hf472
                exact OpX.val (Value.pointer (some (elA u457 ((0 : Int)).toNat))) wd461 (wanted_run rfl rfl e469 hc236) (op_idx sl_46 (Ty.lift _ (Ext.trans hE7 hS465.ext) hr459) e473 rfl ha475 hb476) (Ext.refl _) rfl
              · refine ObX.op rfl fun f478 wd479 he480 hout481 hphi482 => ?_
                have hS483 := St.extend hS47 he480
                obtain ⟨S484, hS485, hf486⟩ := hphi482 14 31 _ rfl rfl rfl
                have e487 : f478 31 = (Value.bool (x155 != x202)) := hf486
                obtain ⟨S488, hS489, hf490⟩ := hphi482 20 37 _ rfl rfl rfl
                have e491 : f478 37 = (Value.pointer (some (elA u457 ((0 : Int)).toNat))) := hf490
                exact OpX.val u492 wd479 (wanted_run rfl rfl e487 hc236) (op_load one_25 e491 (Ext.cell (Ext.trans hE7 hS483.ext) hc493)) (Ext.refl _) rfl
              · refine ObX.op rfl fun f495 wd496 he497 hout498 hphi499 => ?_
                have e501 : f495 4 = (Value.int .i64 (k31 : Int)) := (hout498 4 rfl).trans rfl
                obtain ⟨S502, hS503, hf504⟩ := hphi499 14 31 _ rfl rfl rfl
                have e505 : f495 31 = (Value.bool (x155 != x202)) := hf504
                exact OpX.val (Value.int .i64 (k31 : Int)) wd496 (wanted_run rfl rfl e505 hc236) (op_move e501) (Ext.refl _) ⟨rfl, hr46⟩
              · refine ObX.op rfl fun f506 wd507 he508 hout509 hphi510 => ?_
                have hS511 := St.extend hS47 he508
                obtain ⟨S512, hS513, hf514⟩ := hphi510 14 31 _ rfl rfl rfl
                have e515 : f506 31 = (Value.bool (x155 != x202)) := hf514
                obtain ⟨S516, hS517, hf518⟩ := hphi510 21 38 _ rfl rfl rfl
                have e519 : f506 38 = u492 := hf518
                obtain ⟨S520, hS521, hf522⟩ := hphi510 22 39 _ rfl rfl rfl
                obtain ⟨e523, hr524⟩ := hf522
                exact OpX.val (Value.pointer (some (elA u492 ((k31 : Int)).toNat))) wd507 (wanted_run rfl rfl e515 hc236) (op_idx sl_25 (Ty.lift _ (Ext.trans hE7 hS511.ext) hr494) e519 e523 ha526 hb527) (Ext.refl _) rfl
              · refine ObX.op rfl fun f529 wd530 he531 hout532 hphi533 => ?_
                have hS534 := St.extend hS47 he531
                obtain ⟨S535, hS536, hf537⟩ := hphi533 14 31 _ rfl rfl rfl
                have e538 : f529 31 = (Value.bool (x155 != x202)) := hf537
                obtain ⟨S539, hS540, hf541⟩ := hphi533 23 40 _ rfl rfl rfl
                have e542 : f529 40 = (Value.pointer (some (elA u492 ((k31 : Int)).toNat))) := hf541
                exact OpX.val (Value.int .i64 x525) wd530 (wanted_run rfl rfl e538 hc236) (op_load one_2 e542 (Ext.cell (Ext.trans hE7 hS534.ext) hc544)) (Ext.refl _) ⟨rfl, hr545⟩
              · refine ObX.op rfl fun f546 wd547 he548 hout549 hphi550 => ?_
                have e552 : f546 3 = (Value.int .i64 (k12 : Int)) := (hout549 3 rfl).trans hf41
                obtain ⟨S553, hS554, hf555⟩ := hphi550 14 31 _ rfl rfl rfl
                have e556 : f546 31 = (Value.bool (x155 != x202)) := hf555
                exact OpX.val (Value.int .i64 (k12 : Int)) wd547 (wanted_run rfl rfl e556 hc236) (op_move e552) (Ext.refl _) ⟨rfl, hr24⟩
              · refine ObX.op rfl fun f557 wd558 he559 hout560 hphi561 => ?_
                have e563 : f557 4 = (Value.int .i64 (k31 : Int)) := (hout560 4 rfl).trans rfl
                obtain ⟨S564, hS565, hf566⟩ := hphi561 14 31 _ rfl rfl rfl
                have e567 : f557 31 = (Value.bool (x155 != x202)) := hf566
                exact OpX.val (Value.int .i64 (k31 : Int)) wd558 (wanted_run rfl rfl e567 hc236) (op_move e563) (Ext.refl _) ⟨rfl, hr46⟩
              · refine ObX.op rfl fun f568 wd569 he570 hout571 hphi572 => ?_
                obtain ⟨S574, hS575, hf576⟩ := hphi572 14 31 _ rfl rfl rfl
                have e577 : f568 31 = (Value.bool (x155 != x202)) := hf576
                obtain ⟨S578, hS579, hf580⟩ := hphi572 25 42 _ rfl rfl rfl
                obtain ⟨e581, hr582⟩ := hf580
                obtain ⟨S583, hS584, hf585⟩ := hphi572 26 43 _ rfl rfl rfl
                obtain ⟨e586, hr587⟩ := hf585
                refine OpX.call (wanted_run rfl rfl e577 hc236) (op_call fn_82 (args2 e581 e586)) (Ret.mono (c_impl_delta hr582 hr587 hx589) ?_)
                rintro _ wd591 ⟨rfl, hr590, he592⟩
                exact ⟨he592, _, noS _ _, ⟨rfl, hr590⟩⟩
              · intro f594 wd595 Ss596 he597 hout598 hSn599 hSd600 hphi601
                show WL _ _ _ _ _ _ _
                have hS602 := St.extend hS47 he597
                have e603 : f594 31 = (Value.bool (x155 != x202)) := hphi601 14 31 _ (by decide) rfl rfl
                obtain ⟨e606, hr607⟩ := hphi601 17 34 _ (by decide) rfl rfl
                obtain ⟨e612, hr613⟩ := hphi601 22 39 _ (by decide) rfl rfl
                obtain ⟨e615, hr616⟩ := hphi601 24 41 _ (by decide) rfl rfl
                obtain ⟨e617, hr618⟩ := hphi601 25 42 _ (by decide) rfl rfl
                obtain ⟨e619, hr620⟩ := hphi601 26 43 _ (by decide) rfl rfl
                obtain ⟨e621, hr622⟩ := hphi601 27 44 _ (by decide) rfl rfl
                have e623 : f594 1 = (Value.pointer (some ⟨b1, 0, none⟩)) := (hout598 1 rfl).trans hf40
                have e624 : f594 3 = (Value.int .i64 (k12 : Int)) := (hout598 3 rfl).trans hf41
                have e625 : f594 4 = (Value.int .i64 (k31 : Int)) := (hout598 4 rfl).trans rfl
                have e626 : f594 7 = (Value.int .i64 ((r_Table).length : Int)) := (hout598 7 rfl).trans hf42
                have e627 : f594 8 = (Value.int .i64 (k12 : Int)) := (hout598 8 rfl).trans hf43
                have e628 : f594 13 = (Value.int .i64 ((r_Table).length : Int)) := (hout598 13 rfl).trans hf44
                have e629 : f594 14 = (Value.int .i64 (k31 : Int)) := (hout598 14 rfl).trans hf45
                refine WL.grun rfl (bool_of e603 hc236) ?_
                refine WL.val (Value.bool (x525 != x588)) _ (op_neq e615 e621) rfl ?_
                refine WL.val (Value.bool (x525 != x588)) _ (op_pick_f (evb_of e603 hc236) rfl) rfl ?_
                refine WL.nil ?_
                obtain rfl := Option.some.inj hj235
                exact ⟨e623, e624, e625, e626, e627, e628, e629, rfl, hS602⟩
          · intro f630 wd631 hq632
            obtain ⟨hf633, hf634, hf635, hf636, hf637, hf638, hf639, hf640, hS641⟩ := hq632
            refine W.cond x234 hf640 (fun hc642 => ?_) (fun hc642 => ?_)
            · replace hb36 := ip hb36 hc642
              refine W.seq (W.region ?_)
              refine WL.val (Value.int .i64 (k12 : Int)) _ (op_move hf634) rfl ?_
              refine WL.val (Value.int .i64 (k31 : Int)) _ (op_move hf635) rfl ?_
              refine WL.litFlat (t := (Ty.i .i64)) (flat_i .i64) [(Value.int .i64 (0 : Int)), (Value.int .i64 (k12 : Int)), (Value.int .i64 (k31 : Int))] [(0 : Int), (k12 : Int), (k31 : Int)] hS641 sl_25 rfl rfl (fillL rfl ⟨rfl, rfl, rfl, rfl, rfl, rfl, rfl, rfl, rfl, trivial⟩) rfl rfl (litL ⟨⟨rfl, (inL rfl)⟩, ⟨rfl, hr24⟩, ⟨rfl, hr46⟩, trivial⟩) rfl ?_
              intro u644 wd645 hS646 he647
              replace hS646 : St wd2 wd645 [(Ty.sl (Ty.i .i64)).at u644 ([(0 : Int), (k12 : Int), (k31 : Int)] : (List Int))] := hS646
              refine WL.val u644 _ (op_assign rfl) rfl ?_
              refine WL.nil ?_
              refine W.ret ?_
              obtain rfl := Option.some.inj hb36
              obtain rfl := hret39 _ rfl
              replace hb17 := onRes_ret hb17
              obtain rfl := Option.some.inj hb17
              obtain rfl := hret20 _ rfl
              replace h := onRes_ret h
              obtain rfl := Option.some.inj h
              show FinP _ _ _ _ _ _ _
              exact FinP.ret _ (res1 rfl rfl) ⟨u644, rfl, (nil_cons), (Ext.trans hE7 hS646.ext), (St.out (St.pick hS646 [0] rfl) (hE7))⟩
            · replace hb36 := inegb hb36 hc642
              refine W.skip ?_
              show W _ _ _ _ _ _
              refine W.region ?_
              refine WL.val (Value.int .i64 (w64 ((k31 : Int) + (1 : Int)))) _ (op_add hf639 rfl) rfl ?_
              refine WL.val (Value.int .i64 (w64 ((k31 : Int) + (1 : Int)))) _ (op_move rfl) rfl ?_
              refine WL.nil ?_
              obtain rfl := Option.some.inj hb36
              show ∃ s, _ = Ctl.next s ∧ _
              exact ⟨_, rfl, hf633, hf634, hf636, hf637, hf638, (ctr_next hl48 hr28), (ctr_rng hl48 hr28), hS641⟩
        · intro s653 f649 wd650 hs651 hI652
          obtain ⟨⟩ := s653
          replace hI652 : f649 1 = (Value.pointer (some ⟨b1, 0, none⟩)) ∧ f649 3 = (Value.int .i64 (k12 : Int)) ∧ f649 7 = (Value.int .i64 ((r_Table).length : Int)) ∧ f649 8 = (Value.int .i64 (k12 : Int)) ∧ f649 13 = (Value.int .i64 ((r_Table).length : Int)) ∧ f649 14 = Value.int .i64 (((r_Table).length : Nat) : Int) ∧ InR .i64 (((r_Table).length : Nat) : Int) ∧ St wd2 wd650 [] := hI652
          obtain ⟨hf654, hf655, hf656, hf657, hf658, hf659, hr660, hS661⟩ := hI652
          refine W.seq (W.region ?_)
          refine WL.val (Value.bool (decide ((((r_Table).length : Nat) : Int) < ((r_Table).length : Int)))) _ (op_lss hf659 hf658) rfl ?_
          have hl662 : ¬ (((r_Table).length : Nat) : Int) < ((r_Table).length : Int) := by omega
          refine WL.nil ?_
          refine W.seq ?_
          refine W.condF (decide ((((r_Table).length : Nat) : Int) < ((r_Table).length : Int))) rfl (decide_eq_false hl662) ?_
          refine W.exit ?_
          show _ = _ ∧ _
          exact ⟨rfl, _, hs651, hf654, hf656, hf657, hS661⟩
      · rintro f663 wd664 ⟨s666, rfl, hq665⟩
        replace hb17 := onRes_fin hb17
        obtain ⟨⟩ := s666
        replace hq665 : f663 1 = (Value.pointer (some ⟨b1, 0, none⟩)) ∧ f663 7 = (Value.int .i64 ((r_Table).length : Int)) ∧ f663 8 = (Value.int .i64 (k12 : Int)) ∧ St wd2 wd664 [] := hq665
        obtain ⟨hf667, hf668, hf669, hS670⟩ := hq665
        show W _ _ _ _ _ _
        refine W.region ?_
        refine WL.val (Value.int .i64 (w64 ((k12 : Int) + (1 : Int)))) _ (op_add hf669 rfl) rfl ?_
        refine WL.val (Value.int .i64 (w64 ((k12 : Int) + (1 : Int)))) _ (op_move rfl) rfl ?_
        refine WL.nil ?_
        obtain rfl := Option.some.inj hb17
        show ∃ s, _ = Ctl.next s ∧ _
        exact ⟨_, rfl, hf667, hf668, (ctr_next hl26 hr9), (ctr_rng hl26 hr9), hS670⟩
    · intro s677 f673 wd674 hs675 hI676
      obtain ⟨⟩ := s677
      replace hI676 : f673 1 = (Value.pointer (some ⟨b1, 0, none⟩)) ∧ f673 7 = (Value.int .i64 ((r_Table).length : Int)) ∧ f673 8 = Value.int .i64 (((r_Table).length : Nat) : Int) ∧ InR .i64 (((r_Table).length : Nat) : Int) ∧ St wd2 wd674 [] := hI676
      obtain ⟨hf678, hf679, hf680, hr681, hS682⟩ := hI676
      refine W.seq (W.region ?_)
      refine WL.val (Value.bool (decide ((((r_Table).length : Nat) : Int) < ((r_Table).length : Int)))) _ (op_lss hf680 hf679) rfl ?_
      have hl683 : ¬ (((r_Table).length : Nat) : Int) < ((r_Table).length : Int) := by omega
      refine WL.nil ?_
      refine W.seq ?_
      refine W.condF (decide ((((r_Table).length : Nat) : Int) < ((r_Table).length : Int))) rfl (decide_eq_false hl683) ?_
      refine W.exit ?_
      show _ = _ ∧ _
      exact ⟨rfl, _, hs675, hS682⟩
  · rintro f684 wd685 ⟨s687, rfl, hq686⟩
    replace h := onRes_fin h
    obtain ⟨⟩ := s687
    replace hq686 : St wd2 wd685 [] := hq686
    have hS688 := hq686
    refine W.seq (W.region ?_)
    refine WL.val (Value.slice none 0 0) _ (op_assign rfl) rfl ?_
    refine WL.nil ?_
    refine W.ret ?_
    obtain rfl := Option.some.inj h
    show FinP _ _ _ _ _ _ _
    exact FinP.ret _ (res1 rfl rfl) ⟨(Value.slice none 0 0), rfl, (fun _ => ⟨0, 0, rfl⟩), (Ext.trans hE7 hS688.ext), (St.out (St.pick (St.addNil (Ty.i .i64) hS688) [0] rfl) (hE7))⟩

theorem c_impl_Ring_onlyOf {w : World} {r_Table : (List (List (List Int)))} {v_r_Table : Value} {i : Int} (r_r_Table : (Ty.sl (Ty.sl (Ty.sl (Ty.i .i64)))).rep w v_r_Table r_Table) (r_i : InR .i64 i) {res : Int} (h : p_impl_Ring_onlyOf r_Table i  = some res) :
    Ret Try.prog 48 #[(Value.agg #[v_r_Table]), (Value.int .i64 i)] w (fun v w' => v = Value.int .i64 res ∧ InR .i64 res ∧ Ext w w') := by
  unfold p_impl_Ring_onlyOf at h
  have hS0 : St w w [] := St.start w
  refine Ret.start (fn := Try.f48) Try.func48 rfl 34 rfl rfl ?_
  refine W.seq (W.region ?_)
  refine WL.box hS0 rfl (cs := [v_r_Table]) rfl rfl ?_
  intro b1 wd2 hS3 he4 hx5
  replace hS3 : St w wd2 [bx b1 [v_r_Table]] := hS3
  have hx6 := St.boxAt hS3 0 rfl
  have hE7 : Ext w wd2 := hS3.ext
  have hS8 : St wd2 wd2 [] := St.start wd2
  refine WL.val (Value.int .i64 (0 : Int)) _ (op_assign rfl) rfl ?_
  refine WL.nil ?_
  refine W.seq (W.region ?_)
  refine WL.val (Value.int .i64 (-1 : Int)) _ (op_assign rfl) rfl ?_
  refine WL.nil ?_
  refine W.seq (W.seq (W.region ?_))
  refine WL.val (Value.pointer (some ⟨b1, 0, none⟩)) _ (op_fieldAddr fd_29_0 rfl) rfl ?_
  refine WL.val v_r_Table _ (op_load one_22 rfl (BoxAt.cell (BoxAt.lift hS8.ext hx6) rfl)) rfl ?_
  refine WL.val (Value.int .i64 i) _ (op_move rfl) rfl ?_
  obtain ⟨x9, hx12, h⟩ := bs h
  obtain ⟨ha10, hb11, hx12⟩ := idx_some hx12
  refine WL.val (Value.pointer (some (elA v_r_Table (i).toNat))) _ (op_idx sl_22 (Ty.lift _ (Ext.trans hE7 hS8.ext) r_r_Table) rfl rfl ha10 hb11) rfl ?_
  obtain ⟨u13, hc14, hr15⟩ := repSl.el r_r_Table hx12
  refine WL.val u13 _ (op_load one_46 rfl (Ext.cell (Ext.trans hE7 hS8.ext) hc14)) rfl ?_
  have hr16 := inR_len (Ty.lift _ (Ext.trans hE7 hS8.ext) hr15)
  refine WL.val (Value.int .i64 ((x9).length : Int)) _ (op_lenL sl_46 (Ty.lift _ (Ext.trans hE7 hS8.ext) hr15) rfl) rfl ?_
  refine WL.val (Value.int .i64 (0 : Int)) _ (op_move rfl) rfl ?_
  refine WL.nil ?_
  show W _ _ _ _ _ _
  obtain ⟨res17, hres18, h⟩ := bs h
  refine W.blockLoop (fun fq wq => ∃ s, res17 = Res.fin s ∧ fq 5 = Value.int .i64 s ∧ InR .i64 s ∧ St wd2 wq []) ?_ ?_
  · refine W.forN (fun k (s : Int) fq wq => fq 5 = Value.int .i64 s ∧ InR .i64 s ∧ fq 12 = u13 ∧ fq 13 = (Value.int .i64 ((x9).length : Int)) ∧ fq 14 = Value.int .i64 (k : Int) ∧ InR .i64 (k : Int) ∧ St wd2 wq []) hres18 ⟨rfl, (inR_i64.2 (show (-9223372036854775808 : Int) ≤ -1 ∧ (-1 : Int) ≤ 9223372036854775807 from by decide)), rfl, rfl, rfl, (inL rfl), hS8⟩ ?_ ?_
    · intro k19 x20 ct21 f22 wd23 hk24 hb25 hI26 hbrk27 hret28
      replace hI26 : f22 5 = Value.int .i64 x20 ∧ InR .i64 x20 ∧ f22 12 = u13 ∧ f22 13 = (Value.int .i64 ((x9).length : Int)) ∧ f22 14 = Value.int .i64 (k19 : Int) ∧ InR .i64 (k19 : Int) ∧ St wd2 wd23 [] := hI26
      replace hb25 : p_impl_Ring_onlyOf_L1 x9 k19 x20 = some ct21 := hb25
      unfold p_impl_Ring_onlyOf_L1 at hb25
      obtain ⟨hf29, hr30, hf31, hf32, hf33, hr34, hS35⟩ := hI26
      refine W.seq (W.region ?_)
      refine WL.val (Value.bool (decide ((k19 : Int) < ((x9).length : Int)))) _ (op_lss hf33 hf32) rfl ?_
      have hl36 : (k19 : Int) < ((x9).length : Int) := by omega
      refine WL.nil ?_
      refine W.seq ?_
      refine W.condT (decide ((k19 : Int) < ((x9).length : Int))) rfl (decide_eq_true hl36) ?_
      refine W.skip ?_
      refine W.seq ?_
      refine W.block ?_
      refine W.seq (W.region ?_)
      refine WL.val (Value.int .i64 (k19 : Int)) _ (op_move hf33) rfl ?_
      obtain ⟨x38, hx41, hb25⟩ := bs hb25
      obtain ⟨ha39, hb40, hx41⟩ := idx_some hx41
      refine WL.val (Value.pointer (some (elA u13 ((k19 : Int)).toNat))) _ (op_idx sl_46 (Ty.lift _ (Ext.trans hE7 hS35.ext) hr15) hf31 hf33 ha39 hb40) rfl ?_
      obtain ⟨u42, hc43, hr44⟩ := repSl.el hr15 hx41
      refine WL.val u42 _ (op_load one_25 rfl (Ext.cell (Ext.trans hE7 hS35.ext) hc43)) rfl ?_
      refine WL.val (Value.int .i64 (k19 : Int)) _ (op_assign rfl) rfl ?_
      refine WL.val u42 _ (op_assign rfl) rfl ?_
      refine WL.nil ?_
      refine W.seq (W.seq (W.region ?_))
      refine WL.val u42 _ (op_move rfl) rfl ?_
      obtain ⟨x45, hx48, hb25⟩ := bs hb25
      obtain ⟨ha46, hb47, hx48⟩ := idx_some hx48
      refine WL.val (Value.pointer (some (elA u42 ((0 : Int)).toNat))) _ (op_idx sl_25 (Ty.lift _ (Ext.trans hE7 hS35.ext) hr44) rfl rfl ha46 hb47) rfl ?_
      obtain ⟨u49, hc50, hr51⟩ := repSl.el hr44 hx48
      obtain ⟨rfl, hr51⟩ := hr51
      refine WL.val (Value.int .i64 x45) _ (op_load one_2 rfl (Ext.cell (Ext.trans hE7 hS35.ext) hc50)) rfl ?_
      refine WL.val (Value.bool (x45 == (0 : Int))) _ (op_eql rfl rfl) rfl ?_
      refine WL.nil ?_
      refine W.cond (x45 == (0 : Int)) rfl (fun hc52 => ?_) (fun hc52 => ?_)
      · replace hb25 := ip hb25 hc52
        refine W.exit ?_
        show W _ _ _ _ _ _
        refine W.region ?_
        refine WL.val (Value.int .i64 (w64 ((k19 : Int) + (1 : Int)))) _ (op_add hf33 rfl) rfl ?_
        refine WL.val (Value.int .i64 (w64 ((k19 : Int) + (1 : Int)))) _ (op_move rfl) rfl ?_
        refine WL.nil ?_
        obtain rfl := Option.some.inj hb25
        show ∃ s, _ = Ctl.next s ∧ _
        exact ⟨_, rfl, hf29, hr30, hf31, hf32, (ctr_next hl36 hr16), (ctr_rng hl36 hr16), hS35⟩
      · replace hb25 := inegb hb25 hc52
        refine W.skip ?_
        refine W.seq (W.seq (W.region ?_))
        refine WL.val (Value.int .i64 x20) _ (op_move hf29) rfl ?_
        refine WL.val (Value.bool (decide (x20 ≥ (0 : Int)))) _ (op_geq rfl rfl) rfl ?_
        refine WL.val (Value.bool (decide (x20 ≥ (0 : Int)))) _ (op_move rfl) rfl ?_
        refine WL.cut 5 (fun fq wq => fq 6 = (Value.int .i64 (k19 : Int)) ∧ fq 12 = u13 ∧ fq 13 = (Value.int .i64 ((x9).length : Int)) ∧ fq 14 = (Value.int .i64 (k19 : Int)) ∧ fq 30 = (Value.bool ((decide (x20 ≥ (0 : Int))) || (x45 != (1 : Int)))) ∧ St wd2 wq []) ?_ ?_
        · rcases Bool.eq_false_or_eq_true (decide (x20 ≥ (0 : Int))) with hc54 | hc54
          · refine WL.gskip rfl (bool_of rfl hc54) rfl ?_
            refine WL.gskip rfl (bool_of rfl hc54) rfl ?_
            refine WL.gskip rfl (bool_of rfl hc54) rfl ?_
            refine WL.gskip rfl (bool_of rfl hc54) rfl ?_
            refine WL.val (Value.bool true) _ (op_pick_t (evb_of rfl hc54) rfl) rfl ?_
            refine WL.nil ?_
            exact ⟨rfl, rfl, hf31, hf32, hf33, (orT hc54), hS35⟩
          · refine WL.grun rfl (bool_of rfl hc54) ?_
            refine WL.val u42 _ (op_move rfl) rfl ?_
            refine WL.grun rfl (bool_of rfl hc54) ?_
            refine WL.val (Value.pointer (some (elA u42 ((0 : Int)).toNat))) _ (op_idx sl_25 (Ty.lift _ (Ext.trans hE7 hS35.ext) hr44) rfl rfl ha46 hb47) rfl ?_
            refine WL.grun rfl (bool_of rfl hc54) ?_
            obtain ⟨u58, hc59, hr60⟩ := repSl.el hr44 hx48
            obtain ⟨rfl, hr60⟩ := hr60
            refine WL.val (Value.int .i64 x45) _ (op_load one_2 rfl (Ext.cell (Ext.trans hE7 hS35.ext) hc59)) rfl ?_
            refine WL.grun rfl (bool_of rfl hc54) ?_
            refine WL.val (Value.bool (x45 != (1 : Int))) _ (op_neq rfl rfl) rfl ?_
            refine WL.val (Value.bool (x45 != (1 : Int))) _ (op_pick_f (evb_of rfl hc54) rfl) rfl ?_
            refine WL.nil ?_
            exact ⟨rfl, rfl, hf31, hf32, hf33, (orF hc54), hS35⟩
        · intro f55 wd56 hq57
          obtain ⟨hf61, hf62, hf63, hf64, hf65, hS66⟩ := hq57
          refine WL.nil ?_
          refine W.cond ((decide (x20 ≥ (0 : Int))) || (x45 != (1 : Int))) hf65 (fun hc67 => ?_) (fun hc67 => ?_)
          · replace hb25 := ip hb25 hc67
            refine W.seq (W.region ?_)
            refine WL.val (Value.int .i64 (-1 : Int)) _ (op_assign rfl) rfl ?_
            refine WL.nil ?_
            refine W.ret ?_
            obtain rfl := Option.some.inj hb25
            obtain rfl := hret28 _ rfl
            replace h := onRes_ret h
            obtain rfl := Option.some.inj h
            show FinP _ _ _ _ _ _ _
            exact FinP.ret _ (res1 rfl rfl) ⟨rfl, (inR_i64.2 (show (-9223372036854775808 : Int) ≤ -1 ∧ (-1 : Int) ≤ 9223372036854775807 from by decide)), (Ext.trans hE7 hS66.ext)⟩
          · replace hb25 := inegb hb25 hc67
            refine W.skip ?_
            show W _ _ _ _ _ _
            refine W.region ?_
            refine WL.val (Value.int .i64 (k19 : Int)) _ (op_move hf61) rfl ?_
            refine WL.val (Value.int .i64 (k19 : Int)) _ (op_assign rfl) rfl ?_
            refine WL.nil ?_
            show W _ _ _ _ _ _
            refine W.region ?_
            refine WL.val (Value.int .i64 (w64 ((k19 : Int) + (1 : Int)))) _ (op_add hf64 rfl) rfl ?_
            refine WL.val (Value.int .i64 (w64 ((k19 : Int) + (1 : Int)))) _ (op_move rfl) rfl ?_
            refine WL.nil ?_
            obtain rfl := Option.some.inj hb25
            show ∃ s, _ = Ctl.next s ∧ _
            exact ⟨_, rfl, rfl, hr34, hf62, hf63, (ctr_next hl36 hr16), (ctr_rng hl36 hr16), hS66⟩
    · intro x75 f70 wd71 hs72 hI73
      replace hI73 : f70 5 = Value.int .i64 x75 ∧ InR .i64 x75 ∧ f70 12 = u13 ∧ f70 13 = (Value.int .i64 ((x9).length : Int)) ∧ f70 14 = Value.int .i64 (((x9).length : Nat) : Int) ∧ InR .i64 (((x9).length : Nat) : Int) ∧ St wd2 wd71 [] := hI73
      obtain ⟨hf76, hr77, hf78, hf79, hf80, hr81, hS82⟩ := hI73
      refine W.seq (W.region ?_)
      refine WL.val (Value.bool (decide ((((x9).length : Nat) : Int) < ((x9).length : Int)))) _ (op_lss hf80 hf79) rfl ?_
      have hl83 : ¬ (((x9).length : Nat) : Int) < ((x9).length : Int) := by omega
      refine WL.nil ?_
      refine W.seq ?_
      refine W.condF (decide ((((x9).length : Nat) : Int) < ((x9).length : Int))) rfl (decide_eq_false hl83) ?_
      refine W.exit ?_
      show _ = _ ∧ _
      exact ⟨rfl, _, hs72, hf76, hr77, hS82⟩
  · rintro f84 wd85 ⟨x88, rfl, hq86⟩
    replace h := onRes_fin h
    replace hq86 : f84 5 = Value.int .i64 x88 ∧ InR .i64 x88 ∧ St wd2 wd85 [] := hq86
    obtain ⟨hf89, hr90, hS91⟩ := hq86
    refine W.seq (W.region ?_)
    refine WL.val (Value.int .i64 x88) _ (op_move hf89) rfl ?_
    refine WL.val (Value.int .i64 x88) _ (op_assign rfl) rfl ?_
    refine WL.nil ?_
    refine W.ret ?_
    obtain rfl := Option.some.inj h
    show FinP _ _ _ _ _ _ _
    exact FinP.ret _ (res1 rfl rfl) ⟨rfl, hr90, (Ext.trans hE7 hS91.ext)⟩

theorem c_impl_Ring_dualFault {w : World} {r_Table : (List (List (List Int)))} {v_r_Table : Value} (r_r_Table : (Ty.sl (Ty.sl (Ty.sl (Ty.i .i64)))).rep w v_r_Table r_Table) {res : Int} (h : p_impl_Ring_dualFault r_Table  = some res) :
    Ret Try.prog 70 #[(Value.agg #[v_r_Table])] w (fun v w' => v = Value.int .i64 res ∧ InR .i64 res ∧ Ext w w') := by
  unfold p_impl_Ring_dualFault at h
  have hS0 : St w w [] := St.start w
  refine Ret.start (fn := Try.f70) Try.func70 rfl 25 rfl rfl ?_
  refine W.seq (W.region ?_)
  refine WL.box hS0 rfl (cs := [v_r_Table]) rfl rfl ?_
  intro b1 wd2 hS3 he4 hx5
  replace hS3 : St w wd2 [bx b1 [v_r_Table]] := hS3
  have hx6 := St.boxAt hS3 0 rfl
  have hE7 : Ext w wd2 := hS3.ext
  have hS8 : St wd2 wd2 [] := St.start wd2
  refine WL.val (Value.int .i64 (0 : Int)) _ (op_assign rfl) rfl ?_
  refine WL.nil ?_
  refine W.seq (W.seq (W.region ?_))
  refine WL.val (Value.pointer (some ⟨b1, 0, none⟩)) _ (op_fieldAddr fd_29_0 rfl) rfl ?_
  refine WL.val v_r_Table _ (op_load one_22 rfl (BoxAt.cell (BoxAt.lift hS8.ext hx6) rfl)) rfl ?_
  have hr9 := inR_len (Ty.lift _ (Ext.trans hE7 hS8.ext) r_r_Table)
  refine WL.val (Value.int .i64 ((r_Table).length : Int)) _ (op_lenL sl_22 (Ty.lift _ (Ext.trans hE7 hS8.ext) r_r_Table) rfl) rfl ?_
  refine WL.val (Value.int .i64 (0 : Int)) _ (op_move rfl) rfl ?_
  refine WL.nil ?_
  show W _ _ _ _ _ _
  obtain ⟨res10, hres11, h⟩ := bs h
  refine W.blockLoop (fun fq wq => ∃ s, res10 = Res.fin s ∧ St wd2 wq []) ?_ ?_
  · refine W.forN (fun k (s : Unit) fq wq => fq 1 = (Value.pointer (some ⟨b1, 0, none⟩)) ∧ fq 7 = (Value.int .i64 ((r_Table).length : Int)) ∧ fq 8 = Value.int .i64 (k : Int) ∧ InR .i64 (k : Int) ∧ St wd2 wq []) hres11 ⟨rfl, rfl, rfl, (inL rfl), hS8⟩ ?_ ?_
    · intro k12 s56 ct13 f14 wd15 hk16 hb17 hI18 hbrk19 hret20
      obtain ⟨⟩ := s56
      replace hI18 : f14 1 = (Value.pointer (some ⟨b1, 0, none⟩)) ∧ f14 7 = (Value.int .i64 ((r_Table).length : Int)) ∧ f14 8 = Value.int .i64 (k12 : Int) ∧ InR .i64 (k12 : Int) ∧ St wd2 wd15 [] := hI18
      replace hb17 : p_impl_Ring_dualFault_L1 r_Table k12  = some ct13 := hb17
      unfold p_impl_Ring_dualFault_L1 at hb17
      obtain ⟨hf21, hf22, hf23, hr24, hS25⟩ := hI18
      refine W.seq (W.region ?_)
      refine WL.val (Value.bool (decide ((k12 : Int) < ((r_Table).length : Int)))) _ (op_lss hf23 hf22) rfl ?_
      have hl26 : (k12 : Int) < ((r_Table).length : Int) := by omega
      refine WL.nil ?_
      refine W.seq ?_
      refine W.condT (decide ((k12 : Int) < ((r_Table).length : Int))) rfl (decide_eq_true hl26) ?_
      refine W.skip ?_
      refine W.seq ?_
      refine W.block ?_
      refine W.seq (W.region ?_)
      refine WL.val (Value.int .i64 (k12 : Int)) _ (op_move hf23) rfl ?_
      refine WL.val (Value.int .i64 (k12 : Int)) _ (op_assign rfl) rfl ?_
      refine WL.nil ?_
      refine W.seq (W.region ?_)
      refine WL.val (Value.agg #[v_r_Table]) _ (op_loadBox st_29 hf21 (BoxAt.lift hS25.ext hx6) rfl rfl) rfl ?_
      refine WL.val (Value.int .i64 (k12 : Int)) _ (op_move rfl) rfl ?_
      obtain ⟨x28, hx29, hb17⟩ := bs hb17
      refine WL.call _ (op_call fn_48 (args2 rfl rfl)) (c_impl_Ring_onlyOf (Ty.lift _ (Ext.trans hE7 hS25.ext) r_r_Table) hr24 hx29) rfl ?_
      rintro _ wd31 ⟨rfl, hr30, he32⟩
      have hS34 := St.extend hS25 he32
      replace hS34 : St wd2 wd31 [] := hS34
      refine WL.val (Value.int .i64 x28) _ (op_assign rfl) rfl ?_
      refine WL.nil ?_
      refine W.seq (W.region ?_)
      refine WL.val (Value.int .i64 x28) _ (op_move rfl) rfl ?_
      refine WL.val (Value.bool (decide (x28 < (0 : Int)))) _ (op_lss rfl rfl) rfl ?_
      refine WL.val (Value.bool (decide (x28 < (0 : Int)))) _ (op_move rfl) rfl ?_
      obtain ⟨x36, hj37, hb17⟩ := bs hb17
      refine WL.cut 6 (fun fq wq => fq 1 = (Value.pointer (some ⟨b1, 0, none⟩)) ∧ fq 3 = (Value.int .i64 (k12 : Int)) ∧ fq 7 = (Value.int .i64 ((r_Table).length : Int)) ∧ fq 8 = (Value.int .i64 (k12 : Int)) ∧ fq 22 = Value.bool x36 ∧ St wd2 wq []) ?_ ?_
      · rcases Bool.eq_false_or_eq_true (decide (x28 < (0 : Int))) with hc35 | hc35
        · replace hj37 := ip hj37 hc35
          refine WL.gskip rfl (bool_of rfl hc35) rfl ?_
          refine WL.gskip rfl (bool_of rfl hc35) rfl ?_
          refine WL.gskip rfl (bool_of rfl hc35) rfl ?_
          refine WL.gskip rfl (bool_of rfl hc35) rfl ?_
          refine WL.gskip rfl (bool_of rfl hc35) rfl ?_
          refine WL.val (Value.bool true) _ (op_pick_t (evb_of rfl hc35) rfl) rfl ?_
          refine WL.nil ?_
          obtain rfl := Option.some.inj hj37
          exact ⟨rfl, hf21, rfl, hf22, hf23, rfl, hS34⟩
        · replace hj37 := inegb hj37 hc35
          refine WL.grun rfl (bool_of rfl hc35) ?_
          refine WL.val (Value.agg #[v_r_Table]) _ (op_loadBox st_29 hf21 (BoxAt.lift hS34.ext hx6) rfl rfl) rfl ?_
          refine WL.grun rfl (bool_of rfl hc35) ?_
          refine WL.val (Value.int .i64 x28) _ (op_move rfl) rfl ?_
          refine WL.grun rfl (bool_of rfl hc35) ?_
          obtain ⟨x41, hx42, hj37⟩ := bs hj37
          refine WL.call _ (op_call fn_48 (args2 rfl rfl)) (c_impl_Ring_onlyOf (Ty.lift _ (Ext.trans hE7 hS34.ext) r_r_Table) hr30 hx42) rfl ?_
          rintro _ wd44 ⟨rfl, hr43, he45⟩
          have hS47 := St.extend hS34 he45
          replace hS47 : St wd2 wd44 [] := hS47
          refine WL.grun rfl (bool_of rfl hc35) ?_
          refine WL.val (Value.int .i64 (k12 : Int)) _ (op_move rfl) rfl ?_
          refine WL.grun rfl (bool_of rfl hc35) ?_
          refine WL.val (Value.bool (x41 != (k12 : Int))) _ (op_neq rfl rfl) rfl ?_
          refine WL.val (Value.bool (x41 != (k12 : Int))) _ (op_pick_f (evb_of rfl hc35) rfl) rfl ?_
          refine WL.nil ?_
          obtain rfl := Option.some.inj hj37
          exact ⟨rfl, hf21, rfl, hf22, hf23, rfl, hS47⟩
      · intro f38 wd39 hq40
        obtain ⟨hf48, hf49, hf50, hf51, hf52, hS53⟩ := hq40
        refine WL.nil ?_
        refine W.cond x36 hf52 (fun hc54 => ?_) (fun hc54 => ?_)
        · replace hb17 := ip hb17 hc54
          refine W.seq (W.region ?_)
          refine WL.val (Value.int .i64 (k12 : Int)) _ (op_move hf49) rfl ?_
          refine WL.val (Value.int .i64 (k12 : Int)) _ (op_assign rfl) rfl ?_
          refine WL.nil ?_
          refine W.ret ?_
          obtain rfl := Option.some.inj hb17
          obtain rfl := hret20 _ rfl
          replace h := onRes_ret h
          obtain rfl := Option.some.inj h
          show FinP _ _ _ _ _ _ _
          exact FinP.ret _ (res1 rfl rfl) ⟨rfl, hr24, (Ext.trans hE7 hS53.ext)⟩
        · replace hb17 := inegb hb17 hc54
          refine W.skip ?_
          show W _ _ _ _ _ _
          refine W.region ?_
          refine WL.val (Value.int .i64 (w64 ((k12 : Int) + (1 : Int)))) _ (op_add hf51 rfl) rfl ?_
          refine WL.val (Value.int .i64 (w64 ((k12 : Int) + (1 : Int)))) _ (op_move rfl) rfl ?_
          refine WL.nil ?_
          obtain rfl := Option.some.inj hb17
          show ∃ s, _ = Ctl.next s ∧ _
          exact ⟨_, rfl, hf48, hf50, (ctr_next hl26 hr9), (ctr_rng hl26 hr9), hS53⟩
    · intro s61 f57 wd58 hs59 hI60
      obtain ⟨⟩ := s61
      replace hI60 : f57 1 = (Value.pointer (some ⟨b1, 0, none⟩)) ∧ f57 7 = (Value.int .i64 ((r_Table).length : Int)) ∧ f57 8 = Value.int .i64 (((r_Table).length : Nat) : Int) ∧ InR .i64 (((r_Table).length : Nat) : Int) ∧ St wd2 wd58 [] := hI60
      obtain ⟨hf62, hf63, hf64, hr65, hS66⟩ := hI60
      refine W.seq (W.region ?_)
      refine WL.val (Value.bool (decide ((((r_Table).length : Nat) : Int) < ((r_Table).length : Int)))) _ (op_lss hf64 hf63) rfl ?_
      have hl67 : ¬ (((r_Table).length : Nat) : Int) < ((r_Table).length : Int) := by omega
      refine WL.nil ?_
      refine W.seq ?_
      refine W.condF (decide ((((r_Table).length : Nat) : Int) < ((r_Table).length : Int))) rfl (decide_eq_false hl67) ?_
      refine W.exit ?_
      show _ = _ ∧ _
      exact ⟨rfl, _, hs59, hS66⟩
  · rintro f68 wd69 ⟨s71, rfl, hq70⟩
    replace h := onRes_fin h
    obtain ⟨⟩ := s71
    replace hq70 : St wd2 wd69 [] := hq70
    have hS72 := hq70
    refine W.seq (W.region ?_)
    refine WL.val (Value.int .i64 (-1 : Int)) _ (op_assign rfl) rfl ?_
    refine WL.nil ?_
    refine W.ret ?_
    obtain rfl := Option.some.inj h
    show FinP _ _ _ _ _ _ _
    exact FinP.ret _ (res1 rfl rfl) ⟨rfl, (inR_i64.2 (show (-9223372036854775808 : Int) ≤ -1 ∧ (-1 : Int) ≤ 9223372036854775807 from by decide)), (Ext.trans hE7 hS72.ext)⟩

theorem c_impl_Ring_duals {w : World} {r_Table : (List (List (List Int)))} {v_r_Table : Value} (r_r_Table : (Ty.sl (Ty.sl (Ty.sl (Ty.i .i64)))).rep w v_r_Table r_Table) {res : (List Int)} (h : p_impl_Ring_duals r_Table  = some res) :
    Ret Try.prog 35 #[(Value.agg #[v_r_Table])] w (fun v w' => ∃ (u0 : Value), v = u0 ∧ Ext w w' ∧ Sep w.heap.size w' [(Ty.sl (Ty.i .i64)).at u0 res]) := by
  unfold p_impl_Ring_duals at h
  have hS0 : St w w [] := St.start w
  refine Ret.start (fn := Try.f35) Try.func35 rfl 20 rfl rfl ?_
  refine W.seq (W.region ?_)
  refine WL.box hS0 rfl (cs := [v_r_Table]) rfl rfl ?_
  intro b1 wd2 hS3 he4 hx5
  replace hS3 : St w wd2 [bx b1 [v_r_Table]] := hS3
  have hx6 := St.boxAt hS3 0 rfl
  have hE7 : Ext w wd2 := hS3.ext
  have hS8 : St wd2 wd2 [] := St.start wd2
  refine WL.val (Value.slice none 0 0) _ (op_assign rfl) rfl ?_
  refine WL.nil ?_
  refine W.seq (W.region ?_)
  refine WL.lit0 (t := (Ty.i .i64)) hS8 sl_52 rfl rfl ?_
  intro u9 wd10 hS11 he12
  replace hS11 : St wd2 wd10 [(Ty.sl (Ty.i .i64)).at u9 ([] : (List Int))] := hS11
  refine WL.val u9 _ (op_assign rfl) rfl ?_
  refine WL.nil ?_
  refine W.seq (W.seq (W.region ?_))
  refine WL.val (Value.pointer (some ⟨b1, 0, none⟩)) _ (op_fieldAddr fd_29_0 rfl) rfl ?_
  refine WL.val v_r_Table _ (op_load one_22 rfl (BoxAt.cell (BoxAt.lift hS11.ext hx6) rfl)) rfl ?_
  have hr13 := inR_len (Ty.lift _ (Ext.trans hE7 hS11.ext) r_r_Table)
  refine WL.val (Value.int .i64 ((r_Table).length : Int)) _ (op_lenL sl_22 (Ty.lift _ (Ext.trans hE7 hS11.ext) r_r_Table) rfl) rfl ?_
  refine WL.val (Value.int .i64 (0 : Int)) _ (op_move rfl) rfl ?_
  refine WL.nil ?_
  show W _ _ _ _ _ _
  obtain ⟨res14, hres15, h⟩ := bs h
  refine W.blockLoop (fun fq wq => ∃ s, res14 = Res.fin s ∧ ∃ (uu0 : Value), fq 3 = uu0 ∧ St wd2 wq [(Ty.sl (Ty.i .i64)).at uu0 s]) ?_ ?_
  · refine W.forN (fun k (s : (List Int)) fq wq => ∃ (uu0 : Value), fq 1 = (Value.pointer (some ⟨b1, 0, none⟩)) ∧ fq 3 = uu0 ∧ fq 8 = (Value.int .i64 ((r_Table).length : Int)) ∧ fq 9 = Value.int .i64 (k : Int) ∧ InR .i64 (k : Int) ∧ St wd2 wq [(Ty.sl (Ty.i .i64)).at uu0 s]) hres15 ⟨u9, rfl, rfl, rfl, rfl, (inL rfl), hS11⟩ ?_ ?_
    · intro k16 x17 ct18 f19 wd20 hk21 hb22 hI23 hbrk24 hret25
      replace hI23 : ∃ (uu0 : Value), f19 1 = (Value.pointer (some ⟨b1, 0, none⟩)) ∧ f19 3 = uu0 ∧ f19 8 = (Value.int .i64 ((r_Table).length : Int)) ∧ f19 9 = Value.int .i64 (k16 : Int) ∧ InR .i64 (k16 : Int) ∧ St wd2 wd20 [(Ty.sl (Ty.i .i64)).at uu0 x17] := hI23
      replace hb22 : p_impl_Ring_duals_L1 r_Table k16 x17 = some ct18 := hb22
      unfold p_impl_Ring_duals_L1 at hb22
      obtain ⟨u26, hf27, hf28, hf29, hf30, hr31, hS32⟩ := hI23
      refine W.seq (W.region ?_)
      refine WL.val (Value.bool (decide ((k16 : Int) < ((r_Table).length : Int)))) _ (op_lss hf30 hf29) rfl ?_
      have hl33 : (k16 : Int) < ((r_Table).length : Int) := by omega
      refine WL.nil ?_
      refine W.seq ?_
      refine W.condT (decide ((k16 : Int) < ((r_Table).length : Int))) rfl (decide_eq_true hl33) ?_
      refine W.skip ?_
      refine W.seq ?_
      refine W.block ?_
      refine W.seq (W.region ?_)
      refine WL.val (Value.int .i64 (k16 : Int)) _ (op_move hf30) rfl ?_
      refine WL.val (Value.int .i64 (k16 : Int)) _ (op_assign rfl) rfl ?_
      refine WL.nil ?_
      show W _ _ _ _ _ _
      refine W.region ?_
      refine WL.val u26 _ (op_move hf28) rfl ?_
      refine WL.val (Value.agg #[v_r_Table]) _ (op_loadBox st_29 hf27 (BoxAt.lift hS32.ext hx6) rfl rfl) rfl ?_
      refine WL.val (Value.int .i64 (k16 : Int)) _ (op_move rfl) rfl ?_
      obtain ⟨x35, hx36, hb22⟩ := bs hb22
      refine WL.call _ (op_call fn_48 (args2 rfl rfl)) (c_impl_Ring_onlyOf (Ty.lift _ (Ext.trans hE7 hS32.ext) r_r_Table) hr31 hx36) rfl ?_
      rintro _ wd38 ⟨rfl, hr37, he39⟩
      have hS41 := St.extend hS32 he39
      replace hS41 : St wd2 wd38 [(Ty.sl (Ty.i .i64)).at u26 x17] := hS41
      refine WL.litFlat (t := (Ty.i .i64)) (flat_i .i64) [(Value.int .i64 x35)] [x35] hS41 sl_52 rfl rfl (fillL rfl ⟨rfl, rfl, rfl, trivial⟩) rfl rfl (litL ⟨⟨rfl, hr37⟩, trivial⟩) rfl ?_
      intro u42 wd43 hS44 he45
      replace hS44 : St wd2 wd43 [(Ty.sl (Ty.i .i64)).at u26 x17, (Ty.sl (Ty.i .i64)).at u42 ([x35] : (List Int))] := hS44
      obtain ⟨x46, hx47, hb22⟩ := bs hb22
      refine WL.append (flat_i .i64) hS44 (k := 0) rfl sl_52 rfl rfl rfl rfl (St.rep (t := (Ty.sl (Ty.i .i64))) hS44 1 rfl) hx47 rfl ?_
      intro u48 wd49 hS50 hz51
      replace hS50 : St wd2 wd49 [(Ty.sl (Ty.i .i64)).at u48 x46, (Ty.sl (Ty.i .i64)).at u42 ([x35] : (List Int))] := hS50
      refine WL.val u48 _ (op_assign rfl) rfl ?_
      refine WL.nil ?_
      show W _ _ _ _ _ _
      refine W.region ?_
      refine WL.val (Value.int .i64 (w64 ((k16 : Int) + (1 : Int)))) _ (op_add hf30 rfl) rfl ?_
      refine WL.val (Value.int .i64 (w64 ((k16 : Int) + (1 : Int)))) _ (op_move rfl) rfl ?_
      refine WL.nil ?_
      obtain rfl := Option.some.inj hb22
      show ∃ s, _ = Ctl.next s ∧ _
      exact ⟨_, rfl, u48, hf27, rfl, hf29, (ctr_next hl33 hr13), (ctr_rng hl33 hr13), (St.pick hS50 [0] rfl)⟩
    · intro x58 f53 wd54 hs55 hI56
      replace hI56 : ∃ (uu0 : Value), f53 1 = (Value.pointer (some ⟨b1, 0, none⟩)) ∧ f53 3 = uu0 ∧ f53 8 = (Value.int .i64 ((r_Table).length : Int)) ∧ f53 9 = Value.int .i64 (((r_Table).length : Nat) : Int) ∧ InR .i64 (((r_Table).length : Nat) : Int) ∧ St wd2 wd54 [(Ty.sl (Ty.i .i64)).at uu0 x58] := hI56
      obtain ⟨u59, hf60, hf61, hf62, hf63, hr64, hS65⟩ := hI56
      refine W.seq (W.region ?_)
      refine WL.val (Value.bool (decide ((((r_Table).length : Nat) : Int) < ((r_Table).length : Int)))) _ (op_lss hf63 hf62) rfl ?_
      have hl66 : ¬ (((r_Table).length : Nat) : Int) < ((r_Table).length : Int) := by omega
      refine WL.nil ?_
      refine W.seq ?_
      refine W.condF (decide ((((r_Table).length : Nat) : Int) < ((r_Table).length : Int))) rfl (decide_eq_false hl66) ?_
      refine W.exit ?_
      show _ = _ ∧ _
      exact ⟨rfl, _, hs55, u59, hf61, hS65⟩
  · rintro f67 wd68 ⟨x71, rfl, hq69⟩
    replace h := onRes_fin h
    replace hq69 : ∃ (uu0 : Value), f67 3 = uu0 ∧ St wd2 wd68 [(Ty.sl (Ty.i .i64)).at uu0 x71] := hq69
    obtain ⟨u72, hf73, hS74⟩ := hq69
    refine W.seq (W.region ?_)
    refine WL.val u72 _ (op_move hf73) rfl ?_
    refine WL.val u72 _ (op_assign rfl) rfl ?_
    refine WL.nil ?_
    refine W.ret ?_
    obtain rfl := Option.some.inj h
    show FinP _ _ _ _ _ _ _
    exact FinP.ret _ (res1 rfl rfl) ⟨u72, rfl, (Ext.trans hE7 hS74.ext), (St.out (St.pick hS74 [0] rfl) (hE7))⟩

end Go.VG
