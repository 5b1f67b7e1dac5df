/- The walks, part 3: each Go function returns what its plain twin returns. No condition beyond what each names. -/
import Derived.Test.YtajalkfoblcaaaaGWalk2
set_option linter.all false
namespace Go.VG
open Go.Proofs
attribute [local irreducible] W WL Sep FinP

theorem c_impl_SlantOf {w : World} {c_Orders : (List Int)} {v_c_Orders : Value} {c_Modulus : Int} {c_Values : (List (List (List Int)))} {v_c_Values : Value} {x : Int} (r_c_Orders : (Ty.sl (Ty.i .i64)).rep w v_c_Orders c_Orders) (r_c_Modulus : InR .i64 c_Modulus) (r_c_Values : (Ty.sl (Ty.sl (Ty.sl (Ty.i .i64)))).rep w v_c_Values c_Values) (r_x : InR .i64 x) {res : (List (List Int)) × Int} (h : p_impl_SlantOf c_Orders c_Modulus c_Values x  = some res) :
    Ret Try.prog 11 #[(Value.agg #[v_c_Orders, (Value.int .i64 c_Modulus), v_c_Values]), (Value.int .i64 x)] w (fun v w' => ∃ (u0 : Value), v = (Value.tuple #[u0, Value.int .i64 res.2]) ∧ InR .i64 res.2 ∧ Ext w w' ∧ Sep w.heap.size w' [(Ty.sl (Ty.sl (Ty.i .i64))).at u0 res.1]) := by
  unfold p_impl_SlantOf at h
  have hS0 : St w w [] := St.start w
  refine Ret.start (fn := Try.f11) Try.func11 rfl 79 rfl rfl ?_
  refine W.seq (W.region ?_)
  refine WL.box hS0 rfl (cs := [v_c_Orders, (Value.int .i64 c_Modulus), v_c_Values]) rfl rfl ?_
  intro b1 wd2 hS3 he4 hx5
  replace hS3 : St w wd2 [bx b1 [v_c_Orders, (Value.int .i64 c_Modulus), v_c_Values]] := hS3
  have hx6 := St.boxAt hS3 0 rfl
  have hE7 : Ext w wd2 := hS3.ext
  have hS8 : St wd2 wd2 [] := St.start wd2
  refine WL.val (Value.slice none 0 0) _ (op_assign rfl) rfl ?_
  refine WL.val (Value.int .i64 (0 : Int)) _ (op_assign rfl) rfl ?_
  refine WL.nil ?_
  show W _ _ _ _ _ _
  refine W.seq (W.seq (W.region ?_))
  refine WL.val (Value.agg #[v_c_Orders, (Value.int .i64 c_Modulus), v_c_Values]) _ (op_loadBox st_30 rfl (BoxAt.lift hS8.ext hx6) rfl rfl) rfl ?_
  obtain ⟨x9, hx10, h⟩ := bs h
  refine WL.call _ (op_call fn_40 (args1 rfl)) (c_impl_IsCocycle (Ty.lift _ (Ext.trans hE7 hS8.ext) r_c_Orders) r_c_Modulus (Ty.lift _ (Ext.trans hE7 hS8.ext) r_c_Values) hx10) rfl ?_
  rintro _ wd11 ⟨rfl, he12⟩
  have hS14 := St.extend hS8 he12
  replace hS14 : St wd2 wd11 [] := hS14
  refine WL.val (Value.bool (!x9)) _ (op_not rfl) rfl ?_
  refine WL.nil ?_
  show W _ _ _ _ _ _
  refine W.cond (!x9) rfl (fun hc15 => ?_) (fun hc15 => ?_)
  · replace h := ip h hc15
    refine W.seq (W.region ?_)
    refine WL.val (Value.slice none 0 0) _ (op_assign rfl) rfl ?_
    refine WL.val (Value.int .i64 (1 : Int)) _ (op_assign rfl) rfl ?_
    refine WL.nil ?_
    show W _ _ _ _ _ _
    refine W.ret ?_
    obtain rfl := Option.some.inj h
    show FinP _ _ _ _ _ _ _
    exact FinP.ret _ (res2 rfl rfl rfl) ⟨(Value.slice none 0 0), rfl, (inR_i64.2 (show (-9223372036854775808 : Int) ≤ 1 ∧ (1 : Int) ≤ 9223372036854775807 from by decide)), (Ext.trans hE7 hS14.ext), (St.out (St.pick (St.addNil (Ty.sl (Ty.i .i64)) hS14) [0] rfl) (hE7))⟩
  · replace h := inegb h hc15
    refine W.skip ?_
    show W _ _ _ _ _ _
    refine W.seq (W.seq (W.region ?_))
    refine WL.val (Value.agg #[v_c_Orders, (Value.int .i64 c_Modulus), v_c_Values]) _ (op_loadBox st_30 rfl (BoxAt.lift hS14.ext hx6) rfl rfl) rfl ?_
    refine WL.val (Value.int .i64 x) _ (op_move rfl) rfl ?_
    obtain ⟨x17, hx18, h⟩ := bs h
    refine WL.call _ (op_call fn_41 (args2 rfl rfl)) (c_impl_Cocycle_isElement (Ty.lift _ (Ext.trans hE7 hS14.ext) r_c_Orders) r_c_Modulus (Ty.lift _ (Ext.trans hE7 hS14.ext) r_c_Values) r_x hx18) rfl ?_
    rintro _ wd19 ⟨rfl, he20⟩
    have hS22 := St.extend hS14 he20
    replace hS22 : St wd2 wd19 [] := hS22
    refine WL.val (Value.bool (!x17)) _ (op_not rfl) rfl ?_
    refine WL.nil ?_
    show W _ _ _ _ _ _
    refine W.cond (!x17) rfl (fun hc23 => ?_) (fun hc23 => ?_)
    · replace h := ip h hc23
      refine W.seq (W.region ?_)
      refine WL.val (Value.slice none 0 0) _ (op_assign rfl) rfl ?_
      refine WL.val (Value.int .i64 (2 : Int)) _ (op_assign rfl) rfl ?_
      refine WL.nil ?_
      show W _ _ _ _ _ _
      refine W.ret ?_
      obtain rfl := Option.some.inj h
      show FinP _ _ _ _ _ _ _
      exact FinP.ret _ (res2 rfl rfl rfl) ⟨(Value.slice none 0 0), rfl, (inR_i64.2 (show (-9223372036854775808 : Int) ≤ 2 ∧ (2 : Int) ≤ 9223372036854775807 from by decide)), (Ext.trans hE7 hS22.ext), (St.out (St.pick (St.addNil (Ty.sl (Ty.i .i64)) hS22) [0] rfl) (hE7))⟩
    · replace h := inegb h hc23
      refine W.skip ?_
      show W _ _ _ _ _ _
      refine W.seq ?_
      obtain ⟨x97, hx98, h⟩ := bs h
      refine W.drawR mixo 10 [] [fun _ v _ _ => v = (Value.pointer (some ⟨b1, 2, none⟩)), fun _ v _ _ => v = v_c_Values, fun _ v _ _ => v = (Value.int .i64 ((c_Values).length : Int)) ∧ InR .i64 ((c_Values).length : Int), fun _ v _ _ => v = (Value.pointer (some ⟨b1, 2, none⟩)), fun _ v _ _ => v = v_c_Values, fun _ v _ _ => v = (Value.int .i64 ((c_Values).length : Int)) ∧ InR .i64 ((c_Values).length : Int), fun _ v S w' => SepS S w' [(Ty.sl (Ty.sl (Ty.i .i64))).at v x97], fun _ v _ _ => v = (Value.pointer (some ⟨b1, 2, none⟩)), fun _ v _ _ => v = v_c_Values, fun f v _ _ => v = f 23] (by kernel_rfl) (by kernel_rfl) ⟨⟨fun _ _ _ _ _ _ h => h, fun _ _ _ _ _ _ h => h⟩, ⟨fun _ _ _ _ _ _ h => h, fun _ _ _ _ _ _ h => h⟩, ⟨fun _ _ _ _ _ _ h => h, fun _ _ _ _ _ _ h => h⟩, ⟨fun _ _ _ _ _ _ h => h, fun _ _ _ _ _ _ h => h⟩, ⟨fun _ _ _ _ _ _ h => h, fun _ _ _ _ _ _ h => h⟩, ⟨fun _ _ _ _ _ _ h => h, fun _ _ _ _ _ _ h => h⟩, ⟨fun _ _ _ _ _ he h => SepS.extend he h, fun _ _ _ _ _ _ h => h⟩, ⟨fun _ _ _ _ _ _ h => h, fun _ _ _ _ _ _ h => h⟩, ⟨fun _ _ _ _ _ _ h => h, fun _ _ _ _ _ _ h => h⟩, ⟨fun _ _ _ _ _ _ h => h, fun _ _ _ _ _ hf h => h.trans (hf 6 23 rfl rfl)⟩, trivial⟩ ⟨?_, ?_, ?_, ?_, ?_, ?_, ?_, ?_, ?_, ?_, trivial⟩ ?_
      · refine ObX.op rfl ?_
        intro f25 wd26 he27 hout28 hphi29
        have hS30 : St wd2 wd26 [] := St.extend hS22 he27
        have e31 : f25 2 = (Value.pointer (some ⟨b1, 0, none⟩)) := (hout28 2 rfl).trans rfl
        exact OpX.val (Value.pointer (some ⟨b1, 2, none⟩)) wd26 rfl (op_fieldAddr fd_30_2 e31) (Ext.refl _) rfl
      · refine ObX.op rfl ?_
        intro f32 wd33 he34 hout35 hphi36
        have hS37 : St wd2 wd33 [] := St.extend hS22 he34
        obtain ⟨S38, hS39, hf40⟩ := hphi36 0 17 _ rfl rfl rfl
        have e41 : f32 17 = (Value.pointer (some ⟨b1, 2, none⟩)) := hf40
        exact OpX.val v_c_Values wd33 rfl (op_load one_23 e41 (BoxAt.cell (BoxAt.lift hS37.ext hx6) rfl)) (Ext.refl _) rfl
      · refine ObX.op rfl ?_
        intro f42 wd43 he44 hout45 hphi46
        have hS47 : St wd2 wd43 [] := St.extend hS22 he44
        obtain ⟨S48, hS49, hf50⟩ := hphi46 1 18 _ rfl rfl rfl
        have e51 : f42 18 = v_c_Values := hf50
        have hr52 := inR_len (Ty.lift _ (Ext.trans hE7 hS47.ext) r_c_Values)
        exact OpX.val (Value.int .i64 ((c_Values).length : Int)) wd43 rfl (op_lenL sl_23 (Ty.lift _ (Ext.trans hE7 hS47.ext) r_c_Values) e51) (Ext.refl _) ⟨rfl, hr52⟩
      · refine ObX.op rfl ?_
        intro f53 wd54 he55 hout56 hphi57
        have hS58 : St wd2 wd54 [] := St.extend hS22 he55
        have e59 : f53 2 = (Value.pointer (some ⟨b1, 0, none⟩)) := (hout56 2 rfl).trans rfl
        exact OpX.val (Value.pointer (some ⟨b1, 2, none⟩)) wd54 rfl (op_fieldAddr fd_30_2 e59) (Ext.refl _) rfl
      · refine ObX.op rfl ?_
        intro f60 wd61 he62 hout63 hphi64
        have hS65 : St wd2 wd61 [] := St.extend hS22 he62
        obtain ⟨S66, hS67, hf68⟩ := hphi64 3 20 _ rfl rfl rfl
        have e69 : f60 20 = (Value.pointer (some ⟨b1, 2, none⟩)) := hf68
        exact OpX.val v_c_Values wd61 rfl (op_load one_23 e69 (BoxAt.cell (BoxAt.lift hS65.ext hx6) rfl)) (Ext.refl _) rfl
      · refine ObX.op rfl ?_
        intro f70 wd71 he72 hout73 hphi74
        have hS75 : St wd2 wd71 [] := St.extend hS22 he72
        obtain ⟨S76, hS77, hf78⟩ := hphi74 4 21 _ rfl rfl rfl
        have e79 : f70 21 = v_c_Values := hf78
        have hr80 := inR_len (Ty.lift _ (Ext.trans hE7 hS75.ext) r_c_Values)
        exact OpX.val (Value.int .i64 ((c_Values).length : Int)) wd71 rfl (op_lenL sl_23 (Ty.lift _ (Ext.trans hE7 hS75.ext) r_c_Values) e79) (Ext.refl _) ⟨rfl, hr80⟩
      · refine ObX.op rfl ?_
        intro f81 wd82 he83 hout84 hphi85
        have hS86 : St wd2 wd82 [] := St.extend hS22 he83
        obtain ⟨S87, hS88, hf89⟩ := hphi85 2 19 _ rfl rfl rfl
        obtain ⟨e90, hr91⟩ : f81 19 = (Value.int .i64 ((c_Values).length : Int)) ∧ InR .i64 ((c_Values).length : Int) := hf89
        obtain ⟨S92, hS93, hf94⟩ := hphi85 5 22 _ rfl rfl rfl
        obtain ⟨e95, hr96⟩ : f81 22 = (Value.int .i64 ((c_Values).length : Int)) ∧ InR .i64 ((c_Values).length : Int) := hf94
        refine OpX.call rfl (op_call fn_42 (args2 e90 e95)) (Ret.mono (c_impl_zeros hr91 hr96 hx98) ?_)
        rintro u99 wd100 ⟨_, rfl, he101, hs102⟩
        exact ⟨he101, _, newS _ _, (Sep.new hs102)⟩
      · refine ObX.op rfl ?_
        intro f103 wd104 he105 hout106 hphi107
        have hS108 : St wd2 wd104 [] := St.extend hS22 he105
        have e109 : f103 2 = (Value.pointer (some ⟨b1, 0, none⟩)) := (hout106 2 rfl).trans rfl
        exact OpX.val (Value.pointer (some ⟨b1, 2, none⟩)) wd104 rfl (op_fieldAddr fd_30_2 e109) (Ext.refl _) rfl
      · refine ObX.op rfl ?_
        intro f110 wd111 he112 hout113 hphi114
        have hS115 : St wd2 wd111 [] := St.extend hS22 he112
        obtain ⟨S116, hS117, hf118⟩ := hphi114 7 24 _ rfl rfl rfl
        have e119 : f110 24 = (Value.pointer (some ⟨b1, 2, none⟩)) := hf118
        exact OpX.val v_c_Values wd111 rfl (op_load one_23 e119 (BoxAt.cell (BoxAt.lift hS115.ext hx6) rfl)) (Ext.refl _) rfl
      · refine ObX.op rfl ?_
        intro f120 wd121 he122 hout123 hphi124
        have hS125 : St wd2 wd121 [] := St.extend hS22 he122
        obtain ⟨S126, hS127, hf128⟩ := hphi124 6 23 _ rfl rfl rfl
        have e129 : SepS S126 wd121 [(Ty.sl (Ty.sl (Ty.i .i64))).at (f120 23) x97] := hf128
        exact OpX.val (f120 23) wd121 rfl (op_assign rfl) (Ext.refl _) rfl
      · intro f130 wd131 Ss132 he133 hout134 hSn135 hSd136 hphi137
        show WL _ _ _ _ _ _ _
        have hS138 : St wd2 wd131 [] := St.extend hS22 he133
        have e139 : SepS (Ss132 6) wd131 [(Ty.sl (Ty.sl (Ty.i .i64))).at (f130 23) x97] := hphi137 6 23 _ (by decide) rfl rfl
        have e140 : f130 25 = v_c_Values := hphi137 8 25 _ (by decide) rfl rfl
        have e141 : f130 6 = (f130 23) := (hphi137 9 6 _ (by decide) rfl rfl)
        have e142 : f130 1 = (Value.int .i64 x) := (hout134 1 rfl).trans rfl
        have e143 : f130 2 = (Value.pointer (some ⟨b1, 0, none⟩)) := (hout134 2 rfl).trans rfl
        have hS144 := St.joinS hS22 he133 hSn135 (SepS.consS hSd136 rfl e139 SepS.nilS)
        replace hS144 : St wd2 wd131 [(Ty.sl (Ty.sl (Ty.i .i64))).at (f130 23) x97] := hS144
        refine WL.val v_c_Values _ (op_assign e140) rfl ?_
        refine WL.nil ?_
        show W _ _ _ _ _ _
        refine W.seq (W.seq (W.region ?_))
        refine WL.val (f130 23) _ (op_move e141) rfl ?_
        have hr145 := inR_len (St.rep (t := (Ty.sl (Ty.sl (Ty.i .i64)))) hS144 0 rfl)
        refine WL.val (Value.int .i64 ((x97).length : Int)) _ (op_lenL sl_27 (St.rep (t := (Ty.sl (Ty.sl (Ty.i .i64)))) hS144 0 rfl) rfl) rfl ?_
        refine WL.val (Value.int .i64 (0 : Int)) _ (op_move rfl) rfl ?_
        refine WL.nil ?_
        show W _ _ _ _ _ _
        obtain ⟨res146, hres147, h⟩ := bs h
        refine W.blockLoop (fun fq wq => ∃ s, res146 = Res.fin s ∧ fq 6 = (f130 23) ∧ St wd2 wq [(Ty.sl (Ty.sl (Ty.i .i64))).at (f130 23) s]) ?_ ?_
        · refine W.forN (fun k (s : (List (List Int))) fq wq => fq 1 = (Value.int .i64 x) ∧ fq 2 = (Value.pointer (some ⟨b1, 0, none⟩)) ∧ fq 6 = (f130 23) ∧ fq 7 = v_c_Values ∧ fq 27 = (Value.int .i64 ((x97).length : Int)) ∧ fq 28 = Value.int .i64 (k : Int) ∧ InR .i64 (k : Int) ∧ St wd2 wq [(Ty.sl (Ty.sl (Ty.i .i64))).at (f130 23) s]) hres147 ⟨e142, e143, e141, rfl, rfl, rfl, (inR_i64.2 (show (-9223372036854775808 : Int) ≤ 0 ∧ (0 : Int) ≤ 9223372036854775807 from by decide)), hS144⟩ ?_ ?_
          · intro k148 x149 ct150 f151 wd152 hk153 hb154 hI155 hbrk156 hret157
            replace hI155 : f151 1 = (Value.int .i64 x) ∧ f151 2 = (Value.pointer (some ⟨b1, 0, none⟩)) ∧ f151 6 = (f130 23) ∧ f151 7 = v_c_Values ∧ f151 27 = (Value.int .i64 ((x97).length : Int)) ∧ f151 28 = Value.int .i64 (k148 : Int) ∧ InR .i64 (k148 : Int) ∧ St wd2 wd152 [(Ty.sl (Ty.sl (Ty.i .i64))).at (f130 23) x149] := hI155
            replace hb154 : p_impl_SlantOf_L1 c_Values x c_Orders c_Modulus k148 x149 = some ct150 := hb154
            unfold p_impl_SlantOf_L1 at hb154
            obtain ⟨hf158, hf159, hf160, hf161, hf162, hf163, hr164, hS165⟩ := hI155
            refine W.seq (W.region ?_)
            refine WL.val (Value.bool (decide ((k148 : Int) < ((x97).length : Int)))) _ (op_lss hf163 hf162) rfl ?_
            have hl166 : (k148 : Int) < ((x97).length : Int) := by omega
            refine WL.nil ?_
            show W _ _ _ _ _ _
            refine W.seq ?_
            refine W.condT (decide ((k148 : Int) < ((x97).length : Int))) rfl (decide_eq_true hl166) ?_
            refine W.skip ?_
            show W _ _ _ _ _ _
            refine W.seq ?_
            refine W.block ?_
            refine W.seq (W.region ?_)
            refine WL.val (Value.int .i64 (k148 : Int)) _ (op_move hf163) rfl ?_
            refine WL.val (Value.int .i64 (k148 : Int)) _ (op_assign rfl) rfl ?_
            refine WL.nil ?_
            show W _ _ _ _ _ _
            refine W.seq (W.region ?_)
            refine WL.val (f130 23) _ (op_move hf160) rfl ?_
            have hr168 := inR_len (St.rep (t := (Ty.sl (Ty.sl (Ty.i .i64)))) hS165 0 rfl)
            refine WL.val (Value.int .i64 ((x149).length : Int)) _ (op_lenL sl_27 (St.rep (t := (Ty.sl (Ty.sl (Ty.i .i64)))) hS165 0 rfl) rfl) rfl ?_
            refine WL.val (Value.int .i64 (0 : Int)) _ (op_move rfl) rfl ?_
            refine WL.nil ?_
            show W _ _ _ _ _ _
            obtain ⟨res169, hres170, hb154⟩ := bs hb154
            refine W.blockLoop (fun fq wq => ∃ s, res169 = Res.fin s ∧ fq 1 = (Value.int .i64 x) ∧ fq 2 = (Value.pointer (some ⟨b1, 0, none⟩)) ∧ fq 6 = (f130 23) ∧ fq 7 = v_c_Values ∧ fq 27 = (Value.int .i64 ((x97).length : Int)) ∧ fq 28 = (Value.int .i64 (k148 : Int)) ∧ St wd2 wq [(Ty.sl (Ty.sl (Ty.i .i64))).at (f130 23) s]) ?_ ?_
            · refine W.forN (fun k (s : (List (List Int))) fq wq => fq 1 = (Value.int .i64 x) ∧ fq 2 = (Value.pointer (some ⟨b1, 0, none⟩)) ∧ fq 6 = (f130 23) ∧ fq 7 = v_c_Values ∧ fq 8 = (Value.int .i64 (k148 : Int)) ∧ fq 27 = (Value.int .i64 ((x97).length : Int)) ∧ fq 28 = (Value.int .i64 (k148 : Int)) ∧ fq 32 = (Value.int .i64 ((x149).length : Int)) ∧ fq 33 = Value.int .i64 (k : Int) ∧ InR .i64 (k : Int) ∧ St wd2 wq [(Ty.sl (Ty.sl (Ty.i .i64))).at (f130 23) s]) hres170 ⟨hf158, hf159, hf160, hf161, rfl, hf162, hf163, rfl, rfl, (inR_i64.2 (show (-9223372036854775808 : Int) ≤ 0 ∧ (0 : Int) ≤ 9223372036854775807 from by decide)), hS165⟩ ?_ ?_
              · intro k171 x172 ct173 f174 wd175 hk176 hb177 hI178 hbrk179 hret180
                replace hI178 : f174 1 = (Value.int .i64 x) ∧ f174 2 = (Value.pointer (some ⟨b1, 0, none⟩)) ∧ f174 6 = (f130 23) ∧ f174 7 = v_c_Values ∧ f174 8 = (Value.int .i64 (k148 : Int)) ∧ f174 27 = (Value.int .i64 ((x97).length : Int)) ∧ f174 28 = (Value.int .i64 (k148 : Int)) ∧ f174 32 = (Value.int .i64 ((x149).length : Int)) ∧ f174 33 = Value.int .i64 (k171 : Int) ∧ InR .i64 (k171 : Int) ∧ St wd2 wd175 [(Ty.sl (Ty.sl (Ty.i .i64))).at (f130 23) x172] := hI178
                replace hb177 : p_impl_SlantOf_L2 k148 c_Values x c_Orders c_Modulus k171 x172 = some ct173 := hb177
                unfold p_impl_SlantOf_L2 at hb177
                obtain ⟨hf181, hf182, hf183, hf184, hf185, hf186, hf187, hf188, hf189, hr190, hS191⟩ := hI178
                refine W.seq (W.region ?_)
                refine WL.val (Value.bool (decide ((k171 : Int) < ((x149).length : Int)))) _ (op_lss hf189 hf188) rfl ?_
                have hl192 : (k171 : Int) < ((x149).length : Int) := by omega
                refine WL.nil ?_
                show W _ _ _ _ _ _
                refine W.seq ?_
                refine W.condT (decide ((k171 : Int) < ((x149).length : Int))) rfl (decide_eq_true hl192) ?_
                refine W.skip ?_
                show W _ _ _ _ _ _
                refine W.seq ?_
                refine W.block ?_
                refine W.seq (W.region ?_)
                refine WL.val (Value.int .i64 (k171 : Int)) _ (op_move hf189) rfl ?_
                refine WL.val (Value.int .i64 (k171 : Int)) _ (op_assign rfl) rfl ?_
                refine WL.nil ?_
                show W _ _ _ _ _ _
                obtain ⟨x223, hx226, hb177⟩ := bs hb177
                obtain ⟨ha224, hb225, hx226⟩ := idx_some hx226
                obtain ⟨u237, hc238, hr239⟩ := repSl.el (St.rep (t := (Ty.sl (Ty.sl (Ty.i .i64)))) hS191 0 rfl) hx226
                obtain ⟨x283, hx286, hb177⟩ := bs hb177
                obtain ⟨ha284, hb285, hx286⟩ := idx_some hx286
                obtain ⟨u297, hc298, hr299⟩ := repSl.el r_c_Values hx286
                obtain ⟨x322, hx325, hb177⟩ := bs hb177
                obtain ⟨ha323, hb324, hx325⟩ := idx_some hx325
                obtain ⟨u336, hc337, hr338⟩ := repSl.el hr299 hx325
                obtain ⟨x361, hx364, hb177⟩ := bs hb177
                obtain ⟨ha362, hb363, hx364⟩ := idx_some hx364
                obtain ⟨u375, hc376, hr377⟩ := repSl.el hr338 hx364
                obtain ⟨rfl, hr377⟩ := hr377
                obtain ⟨x407, hx410, hb177⟩ := bs hb177
                obtain ⟨ha408, hb409, hx410⟩ := idx_some hx410
                obtain ⟨u421, hc422, hr423⟩ := repSl.el r_c_Values hx410
                obtain ⟨x446, hx449, hb177⟩ := bs hb177
                obtain ⟨ha447, hb448, hx449⟩ := idx_some hx449
                obtain ⟨u460, hc461, hr462⟩ := repSl.el hr423 hx449
                obtain ⟨x485, hx488, hb177⟩ := bs hb177
                obtain ⟨ha486, hb487, hx488⟩ := idx_some hx488
                obtain ⟨u499, hc500, hr501⟩ := repSl.el hr462 hx488
                obtain ⟨rfl, hr501⟩ := hr501
                obtain ⟨u557, hc558, hr559⟩ := repSl.el r_c_Values hx410
                obtain ⟨x582, hx585, hb177⟩ := bs hb177
                obtain ⟨ha583, hb584, hx585⟩ := idx_some hx585
                obtain ⟨u596, hc597, hr598⟩ := repSl.el hr559 hx585
                obtain ⟨x621, hx624, hb177⟩ := bs hb177
                obtain ⟨ha622, hb623, hx624⟩ := idx_some hx624
                obtain ⟨u635, hc636, hr637⟩ := repSl.el hr598 hx624
                obtain ⟨rfl, hr637⟩ := hr637
                obtain ⟨x670, hx671, hb177⟩ := bs hb177
                refine W.drawR mixo 39 [] [fun _ v _ _ => v = (f130 23), fun _ v _ _ => v = (Value.int .i64 (k148 : Int)) ∧ InR .i64 (k148 : Int), fun _ v _ _ => v = (Value.pointer (some (elA (f130 23) ((k148 : Int)).toNat))), fun _ v _ _ => v = u237, fun _ v _ _ => v = (Value.int .i64 (k171 : Int)) ∧ InR .i64 (k171 : Int), fun _ v S w' => v = (Value.agg #[v_c_Orders, (Value.int .i64 c_Modulus), v_c_Values]) ∧ InR .i64 c_Modulus, fun _ v _ _ => v = v_c_Values, fun _ v _ _ => v = (Value.int .i64 x) ∧ InR .i64 x, fun _ v _ _ => v = (Value.pointer (some (elA v_c_Values (x).toNat))), fun _ v _ _ => v = u297, fun _ v _ _ => v = (Value.int .i64 (k148 : Int)) ∧ InR .i64 (k148 : Int), fun _ v _ _ => v = (Value.pointer (some (elA u297 ((k148 : Int)).toNat))), fun _ v _ _ => v = u336, fun _ v _ _ => v = (Value.int .i64 (k171 : Int)) ∧ InR .i64 (k171 : Int), fun _ v _ _ => v = (Value.pointer (some (elA u336 ((k171 : Int)).toNat))), fun _ v _ _ => v = (Value.int .i64 x361) ∧ InR .i64 x361, fun _ v _ _ => v = v_c_Values, fun _ v _ _ => v = (Value.int .i64 (k148 : Int)) ∧ InR .i64 (k148 : Int), fun _ v _ _ => v = (Value.pointer (some (elA v_c_Values ((k148 : Int)).toNat))), fun _ v _ _ => v = u421, fun _ v _ _ => v = (Value.int .i64 x) ∧ InR .i64 x, fun _ v _ _ => v = (Value.pointer (some (elA u421 (x).toNat))), fun _ v _ _ => v = u460, fun _ v _ _ => v = (Value.int .i64 (k171 : Int)) ∧ InR .i64 (k171 : Int), fun _ v _ _ => v = (Value.pointer (some (elA u460 ((k171 : Int)).toNat))), fun _ v _ _ => v = (Value.int .i64 x485) ∧ InR .i64 x485, fun _ v _ _ => v = (Value.int .i64 (w64 (x361 - x485))) ∧ InR .i64 (w64 (x361 - x485)), fun _ v _ _ => v = v_c_Values, fun _ v _ _ => v = (Value.int .i64 (k148 : Int)) ∧ InR .i64 (k148 : Int), fun _ v _ _ => v = (Value.pointer (some (elA v_c_Values ((k148 : Int)).toNat))), fun _ v _ _ => v = u557, fun _ v _ _ => v = (Value.int .i64 (k171 : Int)) ∧ InR .i64 (k171 : Int), fun _ v _ _ => v = (Value.pointer (some (elA u557 ((k171 : Int)).toNat))), fun _ v _ _ => v = u596, fun _ v _ _ => v = (Value.int .i64 x) ∧ InR .i64 x, fun _ v _ _ => v = (Value.pointer (some (elA u596 (x).toNat))), fun _ v _ _ => v = (Value.int .i64 x621) ∧ InR .i64 x621, fun _ v _ _ => v = (Value.int .i64 (w64 ((w64 (x361 - x485)) + x621))) ∧ InR .i64 (w64 ((w64 (x361 - x485)) + x621)), fun _ v _ _ => v = (Value.int .i64 x670) ∧ InR .i64 x670] (by kernel_rfl) (by kernel_rfl) ⟨⟨fun _ _ _ _ _ _ h => h, fun _ _ _ _ _ _ h => h⟩, ⟨fun _ _ _ _ _ _ h => h, fun _ _ _ _ _ _ h => h⟩, ⟨fun _ _ _ _ _ _ h => h, fun _ _ _ _ _ _ h => h⟩, ⟨fun _ _ _ _ _ _ h => h, fun _ _ _ _ _ _ h => h⟩, ⟨fun _ _ _ _ _ _ h => h, fun _ _ _ _ _ _ h => h⟩, ⟨fun _ _ _ _ _ he ⟨h0, h1⟩ => ⟨h0, h1⟩, fun _ _ _ _ _ _ h => h⟩, ⟨fun _ _ _ _ _ _ h => h, fun _ _ _ _ _ _ h => h⟩, ⟨fun _ _ _ _ _ _ h => h, fun _ _ _ _ _ _ h => h⟩, ⟨fun _ _ _ _ _ _ h => h, fun _ _ _ _ _ _ h => h⟩, ⟨fun _ _ _ _ _ _ h => h, fun _ _ _ _ _ _ h => h⟩, ⟨fun _ _ _ _ _ _ h => h, fun _ _ _ _ _ _ h => h⟩, ⟨fun _ _ _ _ _ _ h => h, fun _ _ _ _ _ _ h => h⟩, ⟨fun _ _ _ _ _ _ h => h, fun _ _ _ _ _ _ h => h⟩, ⟨fun _ _ _ _ _ _ h => h, fun _ _ _ _ _ _ h => h⟩, ⟨fun _ _ _ _ _ _ h => h, fun _ _ _ _ _ _ h => h⟩, ⟨fun _ _ _ _ _ _ h => h, fun _ _ _ _ _ _ h => h⟩, ⟨fun _ _ _ _ _ _ h => h, fun _ _ _ _ _ _ h => h⟩, ⟨fun _ _ _ _ _ _ h => h, fun _ _ _ _ _ _ h => h⟩, ⟨fun _ _ _ _ _ _ h => h, fun _ _ _ _ _ _ h => h⟩, ⟨fun _ _ _ _ _ _ h => h, fun _ _ _ _ _ _ h => h⟩, ⟨fun _ _ _ _ _ _ h => h, fun _ _ _ _ _ _ h => h⟩, ⟨fun _ _ _ _ _ _ h => h, fun _ _ _ _ _ _ h => h⟩, ⟨fun _ _ _ _ _ _ h => h, fun _ _ _ _ _ _ h => h⟩, ⟨fun _ _ _ _ _ _ h => h, fun _ _ _ _ _ _ h => h⟩, ⟨fun _ _ _ _ _ _ h => h, fun _ _ _ _ _ _ h => h⟩, ⟨fun _ _ _ _ _ _ h => h, fun _ _ _ _ _ _ h => h⟩, ⟨fun _ _ _ _ _ _ h => h, fun _ _ _ _ _ _ h => h⟩, ⟨fun _ _ _ _ _ _ h => h, fun _ _ _ _ _ _ h => h⟩, ⟨fun _ _ _ _ _ _ h => h, fun _ _ _ _ _ _ h => h⟩, ⟨fun _ _ _ _ _ _ h => h, fun _ _ _ _ _ _ h => h⟩, ⟨fun _ _ _ _ _ _ h => h, fun _ _ _ _ _ _ h => h⟩, ⟨fun _ _ _ _ _ _ h => h, fun _ _ _ _ _ _ h => h⟩, ⟨fun _ _ _ _ _ _ h => h, fun _ _ _ _ _ _ h => h⟩, ⟨fun _ _ _ _ _ _ h => h, fun _ _ _ _ _ _ h => h⟩, ⟨fun _ _ _ _ _ _ h => h, fun _ _ _ _ _ _ h => h⟩, ⟨fun _ _ _ _ _ _ h => h, fun _ _ _ _ _ _ h => h⟩, ⟨fun _ _ _ _ _ _ h => h, fun _ _ _ _ _ _ h => h⟩, ⟨fun _ _ _ _ _ _ h => h, fun _ _ _ _ _ _ h => h⟩, ⟨fun _ _ _ _ _ _ h => h, fun _ _ _ _ _ _ h => h⟩, trivial⟩ ⟨?_, ?_, ?_, ?_, ?_, ?_, ?_, ?_, ?_, ?_, ?_, ?_, ?_, ?_, ?_, ?_, ?_, ?_, ?_, ?_, ?_, ?_, ?_, ?_, ?_, ?_, ?_, ?_, ?_, ?_, ?_, ?_, ?_, ?_, ?_, ?_, ?_, ?_, ?_, trivial⟩ ?_
                · refine ObX.op rfl ?_
                  intro f194 wd195 he196 hout197 hphi198
                  have hS199 : St wd2 wd195 [(Ty.sl (Ty.sl (Ty.i .i64))).at (f130 23) x172] := St.extend hS191 he196
                  have e200 : f194 6 = (f130 23) := (hout197 6 rfl).trans hf183
                  exact OpX.val (f130 23) wd195 rfl (op_move e200) (Ext.refl _) rfl
                · refine ObX.op rfl ?_
                  intro f201 wd202 he203 hout204 hphi205
                  have hS206 : St wd2 wd202 [(Ty.sl (Ty.sl (Ty.i .i64))).at (f130 23) x172] := St.extend hS191 he203
                  have e207 : f201 8 = (Value.int .i64 (k148 : Int)) := (hout204 8 rfl).trans hf185
                  exact OpX.val (Value.int .i64 (k148 : Int)) wd202 rfl (op_move e207) (Ext.refl _) ⟨rfl, hr164⟩
                · refine ObX.op rfl ?_
                  intro f208 wd209 he210 hout211 hphi212
                  have hS213 : St wd2 wd209 [(Ty.sl (Ty.sl (Ty.i .i64))).at (f130 23) x172] := St.extend hS191 he210
                  obtain ⟨S214, hS215, hf216⟩ := hphi212 0 36 _ rfl rfl rfl
                  have e217 : f208 36 = (f130 23) := hf216
                  obtain ⟨S218, hS219, hf220⟩ := hphi212 1 37 _ rfl rfl rfl
                  obtain ⟨e221, hr222⟩ : f208 37 = (Value.int .i64 (k148 : Int)) ∧ InR .i64 (k148 : Int) := hf220
                  exact OpX.val (Value.pointer (some (elA (f130 23) ((k148 : Int)).toNat))) wd209 rfl (op_idx sl_27 (St.rep (t := (Ty.sl (Ty.sl (Ty.i .i64)))) hS213 0 rfl) e217 e221 ha224 hb225) (Ext.refl _) rfl
                · refine ObX.op rfl ?_
                  intro f227 wd228 he229 hout230 hphi231
                  have hS232 : St wd2 wd228 [(Ty.sl (Ty.sl (Ty.i .i64))).at (f130 23) x172] := St.extend hS191 he229
                  obtain ⟨S233, hS234, hf235⟩ := hphi231 2 38 _ rfl rfl rfl
                  have e236 : f227 38 = (Value.pointer (some (elA (f130 23) ((k148 : Int)).toNat))) := hf235
                  exact OpX.val u237 wd228 rfl (op_load one_22 e236 (Ext.cell he229 hc238)) (Ext.refl _) rfl
                · refine ObX.op rfl ?_
                  intro f240 wd241 he242 hout243 hphi244
                  have hS245 : St wd2 wd241 [(Ty.sl (Ty.sl (Ty.i .i64))).at (f130 23) x172] := St.extend hS191 he242
                  have e246 : f240 9 = (Value.int .i64 (k171 : Int)) := (hout243 9 rfl).trans rfl
                  exact OpX.val (Value.int .i64 (k171 : Int)) wd241 rfl (op_move e246) (Ext.refl _) ⟨rfl, hr190⟩
                · refine ObX.op rfl ?_
                  intro f247 wd248 he249 hout250 hphi251
                  have hS252 : St wd2 wd248 [(Ty.sl (Ty.sl (Ty.i .i64))).at (f130 23) x172] := St.extend hS191 he249
                  have e253 : f247 2 = (Value.pointer (some ⟨b1, 0, none⟩)) := (hout250 2 rfl).trans hf182
                  exact OpX.val (Value.agg #[v_c_Orders, (Value.int .i64 c_Modulus), v_c_Values]) wd248 rfl (op_loadBox st_30 e253 (BoxAt.lift hS252.ext hx6) rfl rfl) (Ext.refl _) ⟨rfl, r_c_Modulus⟩
                · refine ObX.op rfl ?_
                  intro f254 wd255 he256 hout257 hphi258
                  have hS259 : St wd2 wd255 [(Ty.sl (Ty.sl (Ty.i .i64))).at (f130 23) x172] := St.extend hS191 he256
                  have e260 : f254 7 = v_c_Values := (hout257 7 rfl).trans hf184
                  exact OpX.val v_c_Values wd255 rfl (op_move e260) (Ext.refl _) rfl
                · refine ObX.op rfl ?_
                  intro f261 wd262 he263 hout264 hphi265
                  have hS266 : St wd2 wd262 [(Ty.sl (Ty.sl (Ty.i .i64))).at (f130 23) x172] := St.extend hS191 he263
                  have e267 : f261 1 = (Value.int .i64 x) := (hout264 1 rfl).trans hf181
                  exact OpX.val (Value.int .i64 x) wd262 rfl (op_move e267) (Ext.refl _) ⟨rfl, r_x⟩
                · refine ObX.op rfl ?_
                  intro f268 wd269 he270 hout271 hphi272
                  have hS273 : St wd2 wd269 [(Ty.sl (Ty.sl (Ty.i .i64))).at (f130 23) x172] := St.extend hS191 he270
                  obtain ⟨S274, hS275, hf276⟩ := hphi272 6 42 _ rfl rfl rfl
                  have e277 : f268 42 = v_c_Values := hf276
                  obtain ⟨S278, hS279, hf280⟩ := hphi272 7 43 _ rfl rfl rfl
                  obtain ⟨e281, hr282⟩ : f268 43 = (Value.int .i64 x) ∧ InR .i64 x := hf280
                  exact OpX.val (Value.pointer (some (elA v_c_Values (x).toNat))) wd269 rfl (op_idx sl_23 (Ty.lift _ (Ext.trans hE7 hS273.ext) r_c_Values) e277 e281 ha284 hb285) (Ext.refl _) rfl
                · refine ObX.op rfl ?_
                  intro f287 wd288 he289 hout290 hphi291
                  have hS292 : St wd2 wd288 [(Ty.sl (Ty.sl (Ty.i .i64))).at (f130 23) x172] := St.extend hS191 he289
                  obtain ⟨S293, hS294, hf295⟩ := hphi291 8 44 _ rfl rfl rfl
                  have e296 : f287 44 = (Value.pointer (some (elA v_c_Values (x).toNat))) := hf295
                  exact OpX.val u297 wd288 rfl (op_load one_27 e296 (Ext.cell (Ext.trans hE7 hS292.ext) hc298)) (Ext.refl _) rfl
                · refine ObX.op rfl ?_
                  intro f300 wd301 he302 hout303 hphi304
                  have hS305 : St wd2 wd301 [(Ty.sl (Ty.sl (Ty.i .i64))).at (f130 23) x172] := St.extend hS191 he302
                  have e306 : f300 8 = (Value.int .i64 (k148 : Int)) := (hout303 8 rfl).trans hf185
                  exact OpX.val (Value.int .i64 (k148 : Int)) wd301 rfl (op_move e306) (Ext.refl _) ⟨rfl, hr164⟩
                · refine ObX.op rfl ?_
                  intro f307 wd308 he309 hout310 hphi311
                  have hS312 : St wd2 wd308 [(Ty.sl (Ty.sl (Ty.i .i64))).at (f130 23) x172] := St.extend hS191 he309
                  obtain ⟨S313, hS314, hf315⟩ := hphi311 9 45 _ rfl rfl rfl
                  have e316 : f307 45 = u297 := hf315
                  obtain ⟨S317, hS318, hf319⟩ := hphi311 10 46 _ rfl rfl rfl
                  obtain ⟨e320, hr321⟩ : f307 46 = (Value.int .i64 (k148 : Int)) ∧ InR .i64 (k148 : Int) := hf319
                  exact OpX.val (Value.pointer (some (elA u297 ((k148 : Int)).toNat))) wd308 rfl (op_idx sl_27 (Ty.lift _ (Ext.trans hE7 hS312.ext) hr299) e316 e320 ha323 hb324) (Ext.refl _) rfl
                · refine ObX.op rfl ?_
                  intro f326 wd327 he328 hout329 hphi330
                  have hS331 : St wd2 wd327 [(Ty.sl (Ty.sl (Ty.i .i64))).at (f130 23) x172] := St.extend hS191 he328
                  obtain ⟨S332, hS333, hf334⟩ := hphi330 11 47 _ rfl rfl rfl
                  have e335 : f326 47 = (Value.pointer (some (elA u297 ((k148 : Int)).toNat))) := hf334
                  exact OpX.val u336 wd327 rfl (op_load one_22 e335 (Ext.cell (Ext.trans hE7 hS331.ext) hc337)) (Ext.refl _) rfl
                · refine ObX.op rfl ?_
                  intro f339 wd340 he341 hout342 hphi343
                  have hS344 : St wd2 wd340 [(Ty.sl (Ty.sl (Ty.i .i64))).at (f130 23) x172] := St.extend hS191 he341
                  have e345 : f339 9 = (Value.int .i64 (k171 : Int)) := (hout342 9 rfl).trans rfl
                  exact OpX.val (Value.int .i64 (k171 : Int)) wd340 rfl (op_move e345) (Ext.refl _) ⟨rfl, hr190⟩
                · refine ObX.op rfl ?_
                  intro f346 wd347 he348 hout349 hphi350
                  have hS351 : St wd2 wd347 [(Ty.sl (Ty.sl (Ty.i .i64))).at (f130 23) x172] := St.extend hS191 he348
                  obtain ⟨S352, hS353, hf354⟩ := hphi350 12 48 _ rfl rfl rfl
                  have e355 : f346 48 = u336 := hf354
                  obtain ⟨S356, hS357, hf358⟩ := hphi350 13 49 _ rfl rfl rfl
                  obtain ⟨e359, hr360⟩ : f346 49 = (Value.int .i64 (k171 : Int)) ∧ InR .i64 (k171 : Int) := hf358
                  exact OpX.val (Value.pointer (some (elA u336 ((k171 : Int)).toNat))) wd347 rfl (op_idx sl_22 (Ty.lift _ (Ext.trans hE7 hS351.ext) hr338) e355 e359 ha362 hb363) (Ext.refl _) rfl
                · refine ObX.op rfl ?_
                  intro f365 wd366 he367 hout368 hphi369
                  have hS370 : St wd2 wd366 [(Ty.sl (Ty.sl (Ty.i .i64))).at (f130 23) x172] := St.extend hS191 he367
                  obtain ⟨S371, hS372, hf373⟩ := hphi369 14 50 _ rfl rfl rfl
                  have e374 : f365 50 = (Value.pointer (some (elA u336 ((k171 : Int)).toNat))) := hf373
                  exact OpX.val (Value.int .i64 x361) wd366 rfl (op_load one_2 e374 (Ext.cell (Ext.trans hE7 hS370.ext) hc376)) (Ext.refl _) ⟨rfl, hr377⟩
                · refine ObX.op rfl ?_
                  intro f378 wd379 he380 hout381 hphi382
                  have hS383 : St wd2 wd379 [(Ty.sl (Ty.sl (Ty.i .i64))).at (f130 23) x172] := St.extend hS191 he380
                  have e384 : f378 7 = v_c_Values := (hout381 7 rfl).trans hf184
                  exact OpX.val v_c_Values wd379 rfl (op_move e384) (Ext.refl _) rfl
                · refine ObX.op rfl ?_
                  intro f385 wd386 he387 hout388 hphi389
                  have hS390 : St wd2 wd386 [(Ty.sl (Ty.sl (Ty.i .i64))).at (f130 23) x172] := St.extend hS191 he387
                  have e391 : f385 8 = (Value.int .i64 (k148 : Int)) := (hout388 8 rfl).trans hf185
                  exact OpX.val (Value.int .i64 (k148 : Int)) wd386 rfl (op_move e391) (Ext.refl _) ⟨rfl, hr164⟩
                · refine ObX.op rfl ?_
                  intro f392 wd393 he394 hout395 hphi396
                  have hS397 : St wd2 wd393 [(Ty.sl (Ty.sl (Ty.i .i64))).at (f130 23) x172] := St.extend hS191 he394
                  obtain ⟨S398, hS399, hf400⟩ := hphi396 16 52 _ rfl rfl rfl
                  have e401 : f392 52 = v_c_Values := hf400
                  obtain ⟨S402, hS403, hf404⟩ := hphi396 17 53 _ rfl rfl rfl
                  obtain ⟨e405, hr406⟩ : f392 53 = (Value.int .i64 (k148 : Int)) ∧ InR .i64 (k148 : Int) := hf404
                  exact OpX.val (Value.pointer (some (elA v_c_Values ((k148 : Int)).toNat))) wd393 rfl (op_idx sl_23 (Ty.lift _ (Ext.trans hE7 hS397.ext) r_c_Values) e401 e405 ha408 hb409) (Ext.refl _) rfl
                · refine ObX.op rfl ?_
                  intro f411 wd412 he413 hout414 hphi415
                  have hS416 : St wd2 wd412 [(Ty.sl (Ty.sl (Ty.i .i64))).at (f130 23) x172] := St.extend hS191 he413
                  obtain ⟨S417, hS418, hf419⟩ := hphi415 18 54 _ rfl rfl rfl
                  have e420 : f411 54 = (Value.pointer (some (elA v_c_Values ((k148 : Int)).toNat))) := hf419
                  exact OpX.val u421 wd412 rfl (op_load one_27 e420 (Ext.cell (Ext.trans hE7 hS416.ext) hc422)) (Ext.refl _) rfl
                · refine ObX.op rfl ?_
                  intro f424 wd425 he426 hout427 hphi428
                  have hS429 : St wd2 wd425 [(Ty.sl (Ty.sl (Ty.i .i64))).at (f130 23) x172] := St.extend hS191 he426
                  have e430 : f424 1 = (Value.int .i64 x) := (hout427 1 rfl).trans hf181
                  exact OpX.val (Value.int .i64 x) wd425 rfl (op_move e430) (Ext.refl _) ⟨rfl, r_x⟩
                · refine ObX.op rfl ?_
                  intro f431 wd432 he433 hout434 hphi435
                  have hS436 : St wd2 wd432 [(Ty.sl (Ty.sl (Ty.i .i64))).at (f130 23) x172] := St.extend hS191 he433
                  obtain ⟨S437, hS438, hf439⟩ := hphi435 19 55 _ rfl rfl rfl
                  have e440 : f431 55 = u421 := hf439
                  obtain ⟨S441, hS442, hf443⟩ := hphi435 20 56 _ rfl rfl rfl
                  obtain ⟨e444, hr445⟩ : f431 56 = (Value.int .i64 x) ∧ InR .i64 x := hf443
                  exact OpX.val (Value.pointer (some (elA u421 (x).toNat))) wd432 rfl (op_idx sl_27 (Ty.lift _ (Ext.trans hE7 hS436.ext) hr423) e440 e444 ha447 hb448) (Ext.refl _) rfl
                · refine ObX.op rfl ?_
                  intro f450 wd451 he452 hout453 hphi454
                  have hS455 : St wd2 wd451 [(Ty.sl (Ty.sl (Ty.i .i64))).at (f130 23) x172] := St.extend hS191 he452
                  obtain ⟨S456, hS457, hf458⟩ := hphi454 21 57 _ rfl rfl rfl
                  have e459 : f450 57 = (Value.pointer (some (elA u421 (x).toNat))) := hf458
                  exact OpX.val u460 wd451 rfl (op_load one_22 e459 (Ext.cell (Ext.trans hE7 hS455.ext) hc461)) (Ext.refl _) rfl
                · refine ObX.op rfl ?_
                  intro f463 wd464 he465 hout466 hphi467
                  have hS468 : St wd2 wd464 [(Ty.sl (Ty.sl (Ty.i .i64))).at (f130 23) x172] := St.extend hS191 he465
                  have e469 : f463 9 = (Value.int .i64 (k171 : Int)) := (hout466 9 rfl).trans rfl
                  exact OpX.val (Value.int .i64 (k171 : Int)) wd464 rfl (op_move e469) (Ext.refl _) ⟨rfl, hr190⟩
                · refine ObX.op rfl ?_
                  intro f470 wd471 he472 hout473 hphi474
                  have hS475 : St wd2 wd471 [(Ty.sl (Ty.sl (Ty.i .i64))).at (f130 23) x172] := St.extend hS191 he472
                  obtain ⟨S476, hS477, hf478⟩ := hphi474 22 58 _ rfl rfl rfl
                  have e479 : f470 58 = u460 := hf478
                  obtain ⟨S480, hS481, hf482⟩ := hphi474 23 59 _ rfl rfl rfl
                  obtain ⟨e483, hr484⟩ : f470 59 = (Value.int .i64 (k171 : Int)) ∧ InR .i64 (k171 : Int) := hf482
                  exact OpX.val (Value.pointer (some (elA u460 ((k171 : Int)).toNat))) wd471 rfl (op_idx sl_22 (Ty.lift _ (Ext.trans hE7 hS475.ext) hr462) e479 e483 ha486 hb487) (Ext.refl _) rfl
                · refine ObX.op rfl ?_
                  intro f489 wd490 he491 hout492 hphi493
                  have hS494 : St wd2 wd490 [(Ty.sl (Ty.sl (Ty.i .i64))).at (f130 23) x172] := St.extend hS191 he491
                  obtain ⟨S495, hS496, hf497⟩ := hphi493 24 60 _ rfl rfl rfl
                  have e498 : f489 60 = (Value.pointer (some (elA u460 ((k171 : Int)).toNat))) := hf497
                  exact OpX.val (Value.int .i64 x485) wd490 rfl (op_load one_2 e498 (Ext.cell (Ext.trans hE7 hS494.ext) hc500)) (Ext.refl _) ⟨rfl, hr501⟩
                · refine ObX.op rfl ?_
                  intro f502 wd503 he504 hout505 hphi506
                  have hS507 : St wd2 wd503 [(Ty.sl (Ty.sl (Ty.i .i64))).at (f130 23) x172] := St.extend hS191 he504
                  obtain ⟨S508, hS509, hf510⟩ := hphi506 15 51 _ rfl rfl rfl
                  obtain ⟨e511, hr512⟩ : f502 51 = (Value.int .i64 x361) ∧ InR .i64 x361 := hf510
                  obtain ⟨S513, hS514, hf515⟩ := hphi506 25 61 _ rfl rfl rfl
                  obtain ⟨e516, hr517⟩ : f502 61 = (Value.int .i64 x485) ∧ InR .i64 x485 := hf515
                  exact OpX.val (Value.int .i64 (w64 (x361 - x485))) wd503 rfl (op_sub e511 e516) (Ext.refl _) ⟨rfl, (inR_wrap _ _)⟩
                · refine ObX.op rfl ?_
                  intro f518 wd519 he520 hout521 hphi522
                  have hS523 : St wd2 wd519 [(Ty.sl (Ty.sl (Ty.i .i64))).at (f130 23) x172] := St.extend hS191 he520
                  have e524 : f518 7 = v_c_Values := (hout521 7 rfl).trans hf184
                  exact OpX.val v_c_Values wd519 rfl (op_move e524) (Ext.refl _) rfl
                · refine ObX.op rfl ?_
                  intro f525 wd526 he527 hout528 hphi529
                  have hS530 : St wd2 wd526 [(Ty.sl (Ty.sl (Ty.i .i64))).at (f130 23) x172] := St.extend hS191 he527
                  have e531 : f525 8 = (Value.int .i64 (k148 : Int)) := (hout528 8 rfl).trans hf185
                  exact OpX.val (Value.int .i64 (k148 : Int)) wd526 rfl (op_move e531) (Ext.refl _) ⟨rfl, hr164⟩
                · refine ObX.op rfl ?_
                  intro f532 wd533 he534 hout535 hphi536
                  have hS537 : St wd2 wd533 [(Ty.sl (Ty.sl (Ty.i .i64))).at (f130 23) x172] := St.extend hS191 he534
                  obtain ⟨S538, hS539, hf540⟩ := hphi536 27 63 _ rfl rfl rfl
                  have e541 : f532 63 = v_c_Values := hf540
                  obtain ⟨S542, hS543, hf544⟩ := hphi536 28 64 _ rfl rfl rfl
                  obtain ⟨e545, hr546⟩ : f532 64 = (Value.int .i64 (k148 : Int)) ∧ InR .i64 (k148 : Int) := hf544
                  exact OpX.val (Value.pointer (some (elA v_c_Values ((k148 : Int)).toNat))) wd533 rfl (op_idx sl_23 (Ty.lift _ (Ext.trans hE7 hS537.ext) r_c_Values) e541 e545 ha408 hb409) (Ext.refl _) rfl
                · refine ObX.op rfl ?_
                  intro f547 wd548 he549 hout550 hphi551
                  have hS552 : St wd2 wd548 [(Ty.sl (Ty.sl (Ty.i .i64))).at (f130 23) x172] := St.extend hS191 he549
                  obtain ⟨S553, hS554, hf555⟩ := hphi551 29 65 _ rfl rfl rfl
                  have e556 : f547 65 = (Value.pointer (some (elA v_c_Values ((k148 : Int)).toNat))) := hf555
                  exact OpX.val u557 wd548 rfl (op_load one_27 e556 (Ext.cell (Ext.trans hE7 hS552.ext) hc558)) (Ext.refl _) rfl
                · refine ObX.op rfl ?_
                  intro f560 wd561 he562 hout563 hphi564
                  have hS565 : St wd2 wd561 [(Ty.sl (Ty.sl (Ty.i .i64))).at (f130 23) x172] := St.extend hS191 he562
                  have e566 : f560 9 = (Value.int .i64 (k171 : Int)) := (hout563 9 rfl).trans rfl
                  exact OpX.val (Value.int .i64 (k171 : Int)) wd561 rfl (op_move e566) (Ext.refl _) ⟨rfl, hr190⟩
                · refine ObX.op rfl ?_
                  intro f567 wd568 he569 hout570 hphi571
                  have hS572 : St wd2 wd568 [(Ty.sl (Ty.sl (Ty.i .i64))).at (f130 23) x172] := St.extend hS191 he569
                  obtain ⟨S573, hS574, hf575⟩ := hphi571 30 66 _ rfl rfl rfl
                  have e576 : f567 66 = u557 := hf575
                  obtain ⟨S577, hS578, hf579⟩ := hphi571 31 67 _ rfl rfl rfl
                  obtain ⟨e580, hr581⟩ : f567 67 = (Value.int .i64 (k171 : Int)) ∧ InR .i64 (k171 : Int) := hf579
                  exact OpX.val (Value.pointer (some (elA u557 ((k171 : Int)).toNat))) wd568 rfl (op_idx sl_27 (Ty.lift _ (Ext.trans hE7 hS572.ext) hr559) e576 e580 ha583 hb584) (Ext.refl _) rfl
                · refine ObX.op rfl ?_
                  intro f586 wd587 he588 hout589 hphi590
                  have hS591 : St wd2 wd587 [(Ty.sl (Ty.sl (Ty.i .i64))).at (f130 23) x172] := St.extend hS191 he588
                  obtain ⟨S592, hS593, hf594⟩ := hphi590 32 68 _ rfl rfl rfl
                  have e595 : f586 68 = (Value.pointer (some (elA u557 ((k171 : Int)).toNat))) := hf594
                  exact OpX.val u596 wd587 rfl (op_load one_22 e595 (Ext.cell (Ext.trans hE7 hS591.ext) hc597)) (Ext.refl _) rfl
                · refine ObX.op rfl ?_
                  intro f599 wd600 he601 hout602 hphi603
                  have hS604 : St wd2 wd600 [(Ty.sl (Ty.sl (Ty.i .i64))).at (f130 23) x172] := St.extend hS191 he601
                  have e605 : f599 1 = (Value.int .i64 x) := (hout602 1 rfl).trans hf181
                  exact OpX.val (Value.int .i64 x) wd600 rfl (op_move e605) (Ext.refl _) ⟨rfl, r_x⟩
                · refine ObX.op rfl ?_
                  intro f606 wd607 he608 hout609 hphi610
                  have hS611 : St wd2 wd607 [(Ty.sl (Ty.sl (Ty.i .i64))).at (f130 23) x172] := St.extend hS191 he608
                  obtain ⟨S612, hS613, hf614⟩ := hphi610 33 69 _ rfl rfl rfl
                  have e615 : f606 69 = u596 := hf614
                  obtain ⟨S616, hS617, hf618⟩ := hphi610 34 70 _ rfl rfl rfl
                  obtain ⟨e619, hr620⟩ : f606 70 = (Value.int .i64 x) ∧ InR .i64 x := hf618
                  exact OpX.val (Value.pointer (some (elA u596 (x).toNat))) wd607 rfl (op_idx sl_22 (Ty.lift _ (Ext.trans hE7 hS611.ext) hr598) e615 e619 ha622 hb623) (Ext.refl _) rfl
                · refine ObX.op rfl ?_
                  intro f625 wd626 he627 hout628 hphi629
                  have hS630 : St wd2 wd626 [(Ty.sl (Ty.sl (Ty.i .i64))).at (f130 23) x172] := St.extend hS191 he627
                  obtain ⟨S631, hS632, hf633⟩ := hphi629 35 71 _ rfl rfl rfl
                  have e634 : f625 71 = (Value.pointer (some (elA u596 (x).toNat))) := hf633
                  exact OpX.val (Value.int .i64 x621) wd626 rfl (op_load one_2 e634 (Ext.cell (Ext.trans hE7 hS630.ext) hc636)) (Ext.refl _) ⟨rfl, hr637⟩
                · refine ObX.op rfl ?_
                  intro f638 wd639 he640 hout641 hphi642
                  have hS643 : St wd2 wd639 [(Ty.sl (Ty.sl (Ty.i .i64))).at (f130 23) x172] := St.extend hS191 he640
                  obtain ⟨S644, hS645, hf646⟩ := hphi642 26 62 _ rfl rfl rfl
                  obtain ⟨e647, hr648⟩ : f638 62 = (Value.int .i64 (w64 (x361 - x485))) ∧ InR .i64 (w64 (x361 - x485)) := hf646
                  obtain ⟨S649, hS650, hf651⟩ := hphi642 36 72 _ rfl rfl rfl
                  obtain ⟨e652, hr653⟩ : f638 72 = (Value.int .i64 x621) ∧ InR .i64 x621 := hf651
                  exact OpX.val (Value.int .i64 (w64 ((w64 (x361 - x485)) + x621))) wd639 rfl (op_add e647 e652) (Ext.refl _) ⟨rfl, (inR_wrap _ _)⟩
                · refine ObX.op rfl ?_
                  intro f654 wd655 he656 hout657 hphi658
                  have hS659 : St wd2 wd655 [(Ty.sl (Ty.sl (Ty.i .i64))).at (f130 23) x172] := St.extend hS191 he656
                  obtain ⟨S660, hS661, hf662⟩ := hphi658 5 41 _ rfl rfl rfl
                  obtain ⟨e663, hr664⟩ := hf662
                  obtain ⟨S665, hS666, hf667⟩ := hphi658 37 73 _ rfl rfl rfl
                  obtain ⟨e668, hr669⟩ : f654 73 = (Value.int .i64 (w64 ((w64 (x361 - x485)) + x621))) ∧ InR .i64 (w64 ((w64 (x361 - x485)) + x621)) := hf667
                  refine OpX.call rfl (op_call fn_43 (args2 e663 e668)) (Ret.mono (c_impl_Cocycle_rest (Ty.lift _ (Ext.trans hE7 hS659.ext) r_c_Orders) hr664 (Ty.lift _ (Ext.trans hE7 hS659.ext) r_c_Values) hr669 hx671) ?_)
                  rintro _ wd673 ⟨rfl, hr672, he674⟩
                  exact ⟨he674, _, noS _ _, ⟨rfl, hr672⟩⟩
                · intro f676 wd677 Ss678 he679 hout680 hSn681 hSd682 hphi683
                  show WL _ _ _ _ _ _ _
                  have hS684 : St wd2 wd677 [(Ty.sl (Ty.sl (Ty.i .i64))).at (f130 23) x172] := St.extend hS191 he679
                  have e685 : f676 39 = u237 := hphi683 3 39 _ (by decide) rfl rfl
                  obtain ⟨e686, hr687⟩ : f676 40 = (Value.int .i64 (k171 : Int)) ∧ InR .i64 (k171 : Int) := hphi683 4 40 _ (by decide) rfl rfl
                  obtain ⟨e688, hr689⟩ : f676 74 = (Value.int .i64 x670) ∧ InR .i64 x670 := hphi683 38 74 _ (by decide) rfl rfl
                  have e690 : f676 1 = (Value.int .i64 x) := (hout680 1 rfl).trans hf181
                  have e691 : f676 2 = (Value.pointer (some ⟨b1, 0, none⟩)) := (hout680 2 rfl).trans hf182
                  have e692 : f676 6 = (f130 23) := (hout680 6 rfl).trans hf183
                  have e693 : f676 7 = v_c_Values := (hout680 7 rfl).trans hf184
                  have e694 : f676 8 = (Value.int .i64 (k148 : Int)) := (hout680 8 rfl).trans hf185
                  have e695 : f676 27 = (Value.int .i64 ((x97).length : Int)) := (hout680 27 rfl).trans hf186
                  have e696 : f676 28 = (Value.int .i64 (k148 : Int)) := (hout680 28 rfl).trans hf187
                  have e697 : f676 32 = (Value.int .i64 ((x149).length : Int)) := (hout680 32 rfl).trans hf188
                  have e698 : f676 33 = (Value.int .i64 (k171 : Int)) := (hout680 33 rfl).trans hf189
                  obtain ⟨x699, hx702, hb177⟩ := bs hb177
                  obtain ⟨ha700, hb701, hx702⟩ := idx_some hx702
                  refine WL.val (Value.pointer (some (elA u237 ((k171 : Int)).toNat))) _ (op_idx sl_22 (Ty.lift _ he679 hr239) e685 e686 ha700 hb701) rfl ?_
                  refine WL.storeEl2 (flat_i .i64) hS684 (k := 0) rfl sz_2 hx226 (Ext.cell he679 hc238) rfl e688 (lt_of_idx ha700 hb701) ⟨rfl, hr689⟩ ?_
                  intro wd703 hS704
                  replace hS704 : St wd2 wd703 [(Ty.sl (Ty.sl (Ty.i .i64))).at (f130 23) ((x172).set ((k148 : Int)).toNat ((x223).set ((k171 : Int)).toNat x670))] := hS704
                  refine WL.nil ?_
                  show W _ _ _ _ _ _
                  refine W.region ?_
                  refine WL.val (Value.int .i64 (w64 ((k171 : Int) + (1 : Int)))) _ (op_add e698 rfl) rfl ?_
                  refine WL.val (Value.int .i64 (w64 ((k171 : Int) + (1 : Int)))) _ (op_move rfl) rfl ?_
                  refine WL.nil ?_
                  obtain rfl := Option.some.inj hb177
                  show ∃ s, _ = Ctl.next s ∧ _
                  exact ⟨_, rfl, e690, e691, e692, e693, e694, e695, e696, e697, (ctr_next hl192 hr168), (ctr_rng hl192 hr168), hS704⟩
              · intro x711 f706 wd707 hs708 hI709
                replace hI709 : f706 1 = (Value.int .i64 x) ∧ f706 2 = (Value.pointer (some ⟨b1, 0, none⟩)) ∧ f706 6 = (f130 23) ∧ f706 7 = v_c_Values ∧ f706 8 = (Value.int .i64 (k148 : Int)) ∧ f706 27 = (Value.int .i64 ((x97).length : Int)) ∧ f706 28 = (Value.int .i64 (k148 : Int)) ∧ f706 32 = (Value.int .i64 ((x149).length : Int)) ∧ f706 33 = Value.int .i64 (((x149).length : Nat) : Int) ∧ InR .i64 (((x149).length : Nat) : Int) ∧ St wd2 wd707 [(Ty.sl (Ty.sl (Ty.i .i64))).at (f130 23) x711] := hI709
                obtain ⟨hf712, hf713, hf714, hf715, hf716, hf717, hf718, hf719, hf720, hr721, hS722⟩ := hI709
                refine W.seq (W.region ?_)
                refine WL.val (Value.bool (decide ((((x149).length : Nat) : Int) < ((x149).length : Int)))) _ (op_lss hf720 hf719) rfl ?_
                have hl723 : ¬ (((x149).length : Nat) : Int) < ((x149).length : Int) := by omega
                refine WL.nil ?_
                show W _ _ _ _ _ _
                refine W.seq ?_
                refine W.condF (decide ((((x149).length : Nat) : Int) < ((x149).length : Int))) rfl (decide_eq_false hl723) ?_
                refine W.exit ?_
                show _ = _ ∧ _
                exact ⟨rfl, _, hs708, hf712, hf713, hf714, hf715, hf717, hf718, hS722⟩
            · rintro f724 wd725 ⟨x728, rfl, hq726⟩
              replace hb154 := onRes_fin hb154
              replace hq726 : f724 1 = (Value.int .i64 x) ∧ f724 2 = (Value.pointer (some ⟨b1, 0, none⟩)) ∧ f724 6 = (f130 23) ∧ f724 7 = v_c_Values ∧ f724 27 = (Value.int .i64 ((x97).length : Int)) ∧ f724 28 = (Value.int .i64 (k148 : Int)) ∧ St wd2 wd725 [(Ty.sl (Ty.sl (Ty.i .i64))).at (f130 23) x728] := hq726
              obtain ⟨hf729, hf730, hf731, hf732, hf733, hf734, hS735⟩ := hq726
              show W _ _ _ _ _ _
              refine W.region ?_
              refine WL.val (Value.int .i64 (w64 ((k148 : Int) + (1 : Int)))) _ (op_add hf734 rfl) rfl ?_
              refine WL.val (Value.int .i64 (w64 ((k148 : Int) + (1 : Int)))) _ (op_move rfl) rfl ?_
              refine WL.nil ?_
              obtain rfl := Option.some.inj hb154
              show ∃ s, _ = Ctl.next s ∧ _
              exact ⟨_, rfl, hf729, hf730, hf731, hf732, hf733, (ctr_next hl166 hr145), (ctr_rng hl166 hr145), hS735⟩
          · intro x743 f738 wd739 hs740 hI741
            replace hI741 : f738 1 = (Value.int .i64 x) ∧ f738 2 = (Value.pointer (some ⟨b1, 0, none⟩)) ∧ f738 6 = (f130 23) ∧ f738 7 = v_c_Values ∧ f738 27 = (Value.int .i64 ((x97).length : Int)) ∧ f738 28 = Value.int .i64 (((x97).length : Nat) : Int) ∧ InR .i64 (((x97).length : Nat) : Int) ∧ St wd2 wd739 [(Ty.sl (Ty.sl (Ty.i .i64))).at (f130 23) x743] := hI741
            obtain ⟨hf744, hf745, hf746, hf747, hf748, hf749, hr750, hS751⟩ := hI741
            refine W.seq (W.region ?_)
            refine WL.val (Value.bool (decide ((((x97).length : Nat) : Int) < ((x97).length : Int)))) _ (op_lss hf749 hf748) rfl ?_
            have hl752 : ¬ (((x97).length : Nat) : Int) < ((x97).length : Int) := by omega
            refine WL.nil ?_
            show W _ _ _ _ _ _
            refine W.seq ?_
            refine W.condF (decide ((((x97).length : Nat) : Int) < ((x97).length : Int))) rfl (decide_eq_false hl752) ?_
            refine W.exit ?_
            show _ = _ ∧ _
            exact ⟨rfl, _, hs740, hf746, hS751⟩
        · rintro f753 wd754 ⟨x757, rfl, hq755⟩
          replace h := onRes_fin h
          replace hq755 : f753 6 = (f130 23) ∧ St wd2 wd754 [(Ty.sl (Ty.sl (Ty.i .i64))).at (f130 23) x757] := hq755
          obtain ⟨hf758, hS759⟩ := hq755
          show W _ _ _ _ _ _
          refine W.seq (W.region ?_)
          refine WL.val (f130 23) _ (op_move hf758) rfl ?_
          refine WL.val (f130 23) _ (op_assign rfl) rfl ?_
          refine WL.val (Value.int .i64 (0 : Int)) _ (op_assign rfl) rfl ?_
          refine WL.nil ?_
          show W _ _ _ _ _ _
          refine W.ret ?_
          obtain rfl := Option.some.inj h
          show FinP _ _ _ _ _ _ _
          exact FinP.ret _ (res2 rfl rfl rfl) ⟨(f130 23), rfl, (inR_i64.2 (show (-9223372036854775808 : Int) ≤ 0 ∧ (0 : Int) ≤ 9223372036854775807 from by decide)), (Ext.trans hE7 hS759.ext), (St.out (St.pick hS759 [0] rfl) (hE7))⟩

theorem c_laws_eqInt64S {w : World} {a : (List Int)} {v_a : Value} {b : (List Int)} {v_b : Value} (r_a : (Ty.sl (Ty.i .i64)).rep w v_a a) (r_b : (Ty.sl (Ty.i .i64)).rep w v_b b) {res : Bool} (h : p_laws_eqInt64S a b  = some res) :
    Ret Try.prog 27 #[v_a, v_b] w (fun v w' => v = Value.bool res ∧ Ext w w') := by
  unfold p_laws_eqInt64S at h
  have hS0 : St w w [] := St.start w
  refine Ret.start (fn := Try.f27) Try.func27 rfl 26 rfl rfl ?_
  refine W.seq (W.region ?_)
  refine WL.val (Value.bool false) _ (op_assign rfl) rfl ?_
  refine WL.nil ?_
  show W _ _ _ _ _ _
  refine W.seq (W.seq (W.region ?_))
  refine WL.val v_a _ (op_move rfl) rfl ?_
  have hr1 := inR_len (Ty.lift _ hS0.ext r_a)
  refine WL.val (Value.int .i64 ((a).length : Int)) _ (op_lenL sl_22 (Ty.lift _ hS0.ext r_a) rfl) rfl ?_
  refine WL.val v_b _ (op_move rfl) rfl ?_
  have hr2 := inR_len (Ty.lift _ hS0.ext r_b)
  refine WL.val (Value.int .i64 ((b).length : Int)) _ (op_lenL sl_22 (Ty.lift _ hS0.ext r_b) rfl) rfl ?_
  refine WL.val (Value.bool (((a).length : Int) != ((b).length : Int))) _ (op_neq rfl rfl) rfl ?_
  refine WL.nil ?_
  show W _ _ _ _ _ _
  refine W.cond (((a).length : Int) != ((b).length : Int)) rfl (fun hc3 => ?_) (fun hc3 => ?_)
  · replace h := ip h hc3
    refine W.seq (W.region ?_)
    refine WL.val (Value.bool false) _ (op_assign rfl) rfl ?_
    refine WL.nil ?_
    show W _ _ _ _ _ _
    refine W.ret ?_
    obtain rfl := Option.some.inj h
    show FinP _ _ _ _ _ _ _
    exact FinP.ret _ (res1 rfl rfl) ⟨rfl, hS0.ext⟩
  · replace h := inegb h hc3
    refine W.skip ?_
    show W _ _ _ _ _ _
    refine W.seq (W.seq (W.region ?_))
    refine WL.val (Value.int .i64 (0 : Int)) _ (op_assign rfl) rfl ?_
    refine WL.nil ?_
    show W _ _ _ _ _ _
    obtain ⟨res5, hres6, h⟩ := bs h
    refine W.blockLoop (fun fq wq => ∃ s, res5 = Res.fin s ∧ St w wq []) ?_ ?_
    · refine W.forN (fun k (s : Unit) fq wq => fq 0 = v_a ∧ fq 1 = v_b ∧ fq 5 = Value.int .i64 (k : Int) ∧ InR .i64 (k : Int) ∧ St w wq []) hres6 ⟨rfl, rfl, rfl, (inR_i64.2 (show (-9223372036854775808 : Int) ≤ 0 ∧ (0 : Int) ≤ 9223372036854775807 from by decide)), hS0⟩ ?_ ?_
      · intro k7 s134 ct8 f9 wd10 hk11 hb12 hI13 hbrk14 hret15
        obtain ⟨⟩ := s134
        replace hI13 : f9 0 = v_a ∧ f9 1 = v_b ∧ f9 5 = Value.int .i64 (k7 : Int) ∧ InR .i64 (k7 : Int) ∧ St w wd10 [] := hI13
        replace hb12 : p_laws_eqInt64S_L1 a b k7  = some ct8 := hb12
        unfold p_laws_eqInt64S_L1 at hb12
        obtain ⟨hf16, hf17, hf18, hr19, hS20⟩ := hI13
        refine W.seq (W.seq (W.region ?_))
        refine WL.val (Value.int .i64 (k7 : Int)) _ (op_move hf18) rfl ?_
        refine WL.val v_a _ (op_move hf16) rfl ?_
        have hr21 := inR_len (Ty.lift _ hS20.ext r_a)
        refine WL.val (Value.int .i64 ((a).length : Int)) _ (op_lenL sl_22 (Ty.lift _ hS20.ext r_a) rfl) rfl ?_
        refine WL.val (Value.bool (decide ((k7 : Int) < ((a).length : Int)))) _ (op_lss rfl rfl) rfl ?_
        have hl22 : (k7 : Int) < ((a).length : Int) := by omega
        refine WL.nil ?_
        show W _ _ _ _ _ _
        refine W.condT (decide ((k7 : Int) < ((a).length : Int))) rfl (decide_eq_true hl22) ?_
        refine W.skip ?_
        show W _ _ _ _ _ _
        refine W.seq ?_
        refine W.block ?_
        refine W.seq ?_
        obtain ⟨x53, hx56, hb12⟩ := bs hb12
        obtain ⟨ha54, hb55, hx56⟩ := idx_some hx56
        obtain ⟨u67, hc68, hr69⟩ := repSl.el r_a hx56
        obtain ⟨rfl, hr69⟩ := hr69
        obtain ⟨x99, hx102, hb12⟩ := bs hb12
        obtain ⟨ha100, hb101, hx102⟩ := idx_some hx102
        obtain ⟨u113, hc114, hr115⟩ := repSl.el r_b hx102
        obtain ⟨rfl, hr115⟩ := hr115
        refine W.drawR mixo 8 [] [fun _ v _ _ => v = v_a, fun _ v _ _ => v = (Value.int .i64 (k7 : Int)) ∧ InR .i64 (k7 : Int), fun _ v _ _ => v = (Value.pointer (some (elA v_a ((k7 : Int)).toNat))), fun _ v _ _ => v = (Value.int .i64 x53) ∧ InR .i64 x53, fun _ v _ _ => v = v_b, fun _ v _ _ => v = (Value.int .i64 (k7 : Int)) ∧ InR .i64 (k7 : Int), fun _ v _ _ => v = (Value.pointer (some (elA v_b ((k7 : Int)).toNat))), fun _ v _ _ => v = (Value.int .i64 x99) ∧ InR .i64 x99] (by kernel_rfl) (by kernel_rfl) ⟨⟨fun _ _ _ _ _ _ h => h, fun _ _ _ _ _ _ h => h⟩, ⟨fun _ _ _ _ _ _ h => h, fun _ _ _ _ _ _ h => h⟩, ⟨fun _ _ _ _ _ _ h => h, fun _ _ _ _ _ _ h => h⟩, ⟨fun _ _ _ _ _ _ h => h, fun _ _ _ _ _ _ h => h⟩, ⟨fun _ _ _ _ _ _ h => h, fun _ _ _ _ _ _ h => h⟩, ⟨fun _ _ _ _ _ _ h => h, fun _ _ _ _ _ _ h => h⟩, ⟨fun _ _ _ _ _ _ h => h, fun _ _ _ _ _ _ h => h⟩, ⟨fun _ _ _ _ _ _ h => h, fun _ _ _ _ _ _ h => h⟩, trivial⟩ ⟨?_, ?_, ?_, ?_, ?_, ?_, ?_, ?_, trivial⟩ ?_
        · refine ObX.op rfl ?_
          intro f24 wd25 he26 hout27 hphi28
          have hS29 : St w wd25 [] := St.extend hS20 he26
          have e30 : f24 0 = v_a := (hout27 0 rfl).trans hf16
          exact OpX.val v_a wd25 rfl (op_move e30) (Ext.refl _) rfl
        · refine ObX.op rfl ?_
          intro f31 wd32 he33 hout34 hphi35
          have hS36 : St w wd32 [] := St.extend hS20 he33
          have e37 : f31 5 = (Value.int .i64 (k7 : Int)) := (hout34 5 rfl).trans hf18
          exact OpX.val (Value.int .i64 (k7 : Int)) wd32 rfl (op_move e37) (Ext.refl _) ⟨rfl, hr19⟩
        · refine ObX.op rfl ?_
          intro f38 wd39 he40 hout41 hphi42
          have hS43 : St w wd39 [] := St.extend hS20 he40
          obtain ⟨S44, hS45, hf46⟩ := hphi42 0 17 _ rfl rfl rfl
          have e47 : f38 17 = v_a := hf46
          obtain ⟨S48, hS49, hf50⟩ := hphi42 1 18 _ rfl rfl rfl
          obtain ⟨e51, hr52⟩ : f38 18 = (Value.int .i64 (k7 : Int)) ∧ InR .i64 (k7 : Int) := hf50
          exact OpX.val (Value.pointer (some (elA v_a ((k7 : Int)).toNat))) wd39 rfl (op_idx sl_22 (Ty.lift _ hS43.ext r_a) e47 e51 ha54 hb55) (Ext.refl _) rfl
        · refine ObX.op rfl ?_
          intro f57 wd58 he59 hout60 hphi61
          have hS62 : St w wd58 [] := St.extend hS20 he59
          obtain ⟨S63, hS64, hf65⟩ := hphi61 2 19 _ rfl rfl rfl
          have e66 : f57 19 = (Value.pointer (some (elA v_a ((k7 : Int)).toNat))) := hf65
          exact OpX.val (Value.int .i64 x53) wd58 rfl (op_load one_2 e66 (Ext.cell hS62.ext hc68)) (Ext.refl _) ⟨rfl, hr69⟩
        · refine ObX.op rfl ?_
          intro f70 wd71 he72 hout73 hphi74
          have hS75 : St w wd71 [] := St.extend hS20 he72
          have e76 : f70 1 = v_b := (hout73 1 rfl).trans hf17
          exact OpX.val v_b wd71 rfl (op_move e76) (Ext.refl _) rfl
        · refine ObX.op rfl ?_
          intro f77 wd78 he79 hout80 hphi81
          have hS82 : St w wd78 [] := St.extend hS20 he79
          have e83 : f77 5 = (Value.int .i64 (k7 : Int)) := (hout80 5 rfl).trans hf18
          exact OpX.val (Value.int .i64 (k7 : Int)) wd78 rfl (op_move e83) (Ext.refl _) ⟨rfl, hr19⟩
        · refine ObX.op rfl ?_
          intro f84 wd85 he86 hout87 hphi88
          have hS89 : St w wd85 [] := St.extend hS20 he86
          obtain ⟨S90, hS91, hf92⟩ := hphi88 4 21 _ rfl rfl rfl
          have e93 : f84 21 = v_b := hf92
          obtain ⟨S94, hS95, hf96⟩ := hphi88 5 22 _ rfl rfl rfl
          obtain ⟨e97, hr98⟩ : f84 22 = (Value.int .i64 (k7 : Int)) ∧ InR .i64 (k7 : Int) := hf96
          exact OpX.val (Value.pointer (some (elA v_b ((k7 : Int)).toNat))) wd85 rfl (op_idx sl_22 (Ty.lift _ hS89.ext r_b) e93 e97 ha100 hb101) (Ext.refl _) rfl
        · refine ObX.op rfl ?_
          intro f103 wd104 he105 hout106 hphi107
          have hS108 : St w wd104 [] := St.extend hS20 he105
          obtain ⟨S109, hS110, hf111⟩ := hphi107 6 23 _ rfl rfl rfl
          have e112 : f103 23 = (Value.pointer (some (elA v_b ((k7 : Int)).toNat))) := hf111
          exact OpX.val (Value.int .i64 x99) wd104 rfl (op_load one_2 e112 (Ext.cell hS108.ext hc114)) (Ext.refl _) ⟨rfl, hr115⟩
        · intro f116 wd117 Ss118 he119 hout120 hSn121 hSd122 hphi123
          show WL _ _ _ _ _ _ _
          have hS124 : St w wd117 [] := St.extend hS20 he119
          obtain ⟨e125, hr126⟩ : f116 20 = (Value.int .i64 x53) ∧ InR .i64 x53 := hphi123 3 20 _ (by decide) rfl rfl
          obtain ⟨e127, hr128⟩ : f116 24 = (Value.int .i64 x99) ∧ InR .i64 x99 := hphi123 7 24 _ (by decide) rfl rfl
          have e129 : f116 0 = v_a := (hout120 0 rfl).trans hf16
          have e130 : f116 1 = v_b := (hout120 1 rfl).trans hf17
          have e131 : f116 5 = (Value.int .i64 (k7 : Int)) := (hout120 5 rfl).trans hf18
          refine WL.val (Value.bool (x53 != x99)) _ (op_neq e125 e127) rfl ?_
          refine WL.nil ?_
          show W _ _ _ _ _ _
          refine W.cond (x53 != x99) rfl (fun hc132 => ?_) (fun hc132 => ?_)
          · replace hb12 := ip hb12 hc132
            refine W.seq (W.region ?_)
            refine WL.val (Value.bool false) _ (op_assign rfl) rfl ?_
            refine WL.nil ?_
            show W _ _ _ _ _ _
            refine W.ret ?_
            obtain rfl := Option.some.inj hb12
            obtain rfl := hret15 _ rfl
            replace h := onRes_ret h
            obtain rfl := Option.some.inj h
            show FinP _ _ _ _ _ _ _
            exact FinP.ret _ (res1 rfl rfl) ⟨rfl, hS124.ext⟩
          · replace hb12 := inegb hb12 hc132
            refine W.skip ?_
            show W _ _ _ _ _ _
            refine W.region ?_
            refine WL.val (Value.int .i64 (k7 : Int)) _ (op_move e131) rfl ?_
            refine WL.val (Value.int .i64 (w64 ((k7 : Int) + (1 : Int)))) _ (op_add rfl rfl) rfl ?_
            refine WL.val (Value.int .i64 (w64 ((k7 : Int) + (1 : Int)))) _ (op_assign rfl) rfl ?_
            refine WL.nil ?_
            obtain rfl := Option.some.inj hb12
            show ∃ s, _ = Ctl.next s ∧ _
            exact ⟨_, rfl, e129, e130, (ctr_next hl22 hr21), (ctr_rng hl22 hr21), hS124⟩
      · intro s139 f135 wd136 hs137 hI138
        obtain ⟨⟩ := s139
        replace hI138 : f135 0 = v_a ∧ f135 1 = v_b ∧ f135 5 = Value.int .i64 (((a).length : Nat) : Int) ∧ InR .i64 (((a).length : Nat) : Int) ∧ St w wd136 [] := hI138
        obtain ⟨hf140, hf141, hf142, hr143, hS144⟩ := hI138
        refine W.seq (W.seq (W.region ?_))
        refine WL.val (Value.int .i64 (((a).length : Nat) : Int)) _ (op_move hf142) rfl ?_
        refine WL.val v_a _ (op_move hf140) rfl ?_
        have hr145 := inR_len (Ty.lift _ hS144.ext r_a)
        refine WL.val (Value.int .i64 ((a).length : Int)) _ (op_lenL sl_22 (Ty.lift _ hS144.ext r_a) rfl) rfl ?_
        refine WL.val (Value.bool (decide ((((a).length : Nat) : Int) < ((a).length : Int)))) _ (op_lss rfl rfl) rfl ?_
        have hl146 : ¬ (((a).length : Nat) : Int) < ((a).length : Int) := by omega
        refine WL.nil ?_
        show W _ _ _ _ _ _
        refine W.condF (decide ((((a).length : Nat) : Int) < ((a).length : Int))) rfl (decide_eq_false hl146) ?_
        refine W.exit ?_
        show _ = _ ∧ _
        exact ⟨rfl, _, hs137, hS144⟩
    · rintro f147 wd148 ⟨s150, rfl, hq149⟩
      replace h := onRes_fin h
      obtain ⟨⟩ := s150
      replace hq149 : St w wd148 [] := hq149
      have hS151 := hq149
      show W _ _ _ _ _ _
      refine W.seq (W.region ?_)
      refine WL.val (Value.bool true) _ (op_assign rfl) rfl ?_
      refine WL.nil ?_
      show W _ _ _ _ _ _
      refine W.ret ?_
      obtain rfl := Option.some.inj h
      show FinP _ _ _ _ _ _ _
      exact FinP.ret _ (res1 rfl rfl) ⟨rfl, hS151.ext⟩

theorem c_laws_eqInt64SS {w : World} {a : (List (List Int))} {v_a : Value} {b : (List (List Int))} {v_b : Value} (r_a : (Ty.sl (Ty.sl (Ty.i .i64))).rep w v_a a) (r_b : (Ty.sl (Ty.sl (Ty.i .i64))).rep w v_b b) {res : Bool} (h : p_laws_eqInt64SS a b  = some res) :
    Ret Try.prog 12 #[v_a, v_b] w (fun v w' => v = Value.bool res ∧ Ext w w') := by
  unfold p_laws_eqInt64SS at h
  have hS0 : St w w [] := St.start w
  refine Ret.start (fn := Try.f12) Try.func12 rfl 27 rfl rfl ?_
  refine W.seq (W.region ?_)
  refine WL.val (Value.bool false) _ (op_assign rfl) rfl ?_
  refine WL.nil ?_
  show W _ _ _ _ _ _
  refine W.seq (W.seq (W.region ?_))
  refine WL.val v_a _ (op_move rfl) rfl ?_
  have hr1 := inR_len (Ty.lift _ hS0.ext r_a)
  refine WL.val (Value.int .i64 ((a).length : Int)) _ (op_lenL sl_27 (Ty.lift _ hS0.ext r_a) rfl) rfl ?_
  refine WL.val v_b _ (op_move rfl) rfl ?_
  have hr2 := inR_len (Ty.lift _ hS0.ext r_b)
  refine WL.val (Value.int .i64 ((b).length : Int)) _ (op_lenL sl_27 (Ty.lift _ hS0.ext r_b) rfl) rfl ?_
  refine WL.val (Value.bool (((a).length : Int) != ((b).length : Int))) _ (op_neq rfl rfl) rfl ?_
  refine WL.nil ?_
  show W _ _ _ _ _ _
  refine W.cond (((a).length : Int) != ((b).length : Int)) rfl (fun hc3 => ?_) (fun hc3 => ?_)
  · replace h := ip h hc3
    refine W.seq (W.region ?_)
    refine WL.val (Value.bool false) _ (op_assign rfl) rfl ?_
    refine WL.nil ?_
    show W _ _ _ _ _ _
    refine W.ret ?_
    obtain rfl := Option.some.inj h
    show FinP _ _ _ _ _ _ _
    exact FinP.ret _ (res1 rfl rfl) ⟨rfl, hS0.ext⟩
  · replace h := inegb h hc3
    refine W.skip ?_
    show W _ _ _ _ _ _
    refine W.seq (W.seq (W.region ?_))
    refine WL.val (Value.int .i64 (0 : Int)) _ (op_assign rfl) rfl ?_
    refine WL.nil ?_
    show W _ _ _ _ _ _
    obtain ⟨res5, hres6, h⟩ := bs h
    refine W.blockLoop (fun fq wq => ∃ s, res5 = Res.fin s ∧ St w wq []) ?_ ?_
    · refine W.forN (fun k (s : Unit) fq wq => fq 0 = v_a ∧ fq 1 = v_b ∧ fq 5 = Value.int .i64 (k : Int) ∧ InR .i64 (k : Int) ∧ St w wq []) hres6 ⟨rfl, rfl, rfl, (inR_i64.2 (show (-9223372036854775808 : Int) ≤ 0 ∧ (0 : Int) ≤ 9223372036854775807 from by decide)), hS0⟩ ?_ ?_
      · intro k7 s138 ct8 f9 wd10 hk11 hb12 hI13 hbrk14 hret15
        obtain ⟨⟩ := s138
        replace hI13 : f9 0 = v_a ∧ f9 1 = v_b ∧ f9 5 = Value.int .i64 (k7 : Int) ∧ InR .i64 (k7 : Int) ∧ St w wd10 [] := hI13
        replace hb12 : p_laws_eqInt64SS_L1 a b k7  = some ct8 := hb12
        unfold p_laws_eqInt64SS_L1 at hb12
        obtain ⟨hf16, hf17, hf18, hr19, hS20⟩ := hI13
        refine W.seq (W.seq (W.region ?_))
        refine WL.val (Value.int .i64 (k7 : Int)) _ (op_move hf18) rfl ?_
        refine WL.val v_a _ (op_move hf16) rfl ?_
        have hr21 := inR_len (Ty.lift _ hS20.ext r_a)
        refine WL.val (Value.int .i64 ((a).length : Int)) _ (op_lenL sl_27 (Ty.lift _ hS20.ext r_a) rfl) rfl ?_
        refine WL.val (Value.bool (decide ((k7 : Int) < ((a).length : Int)))) _ (op_lss rfl rfl) rfl ?_
        have hl22 : (k7 : Int) < ((a).length : Int) := by omega
        refine WL.nil ?_
        show W _ _ _ _ _ _
        refine W.condT (decide ((k7 : Int) < ((a).length : Int))) rfl (decide_eq_true hl22) ?_
        refine W.skip ?_
        show W _ _ _ _ _ _
        refine W.seq ?_
        refine W.block ?_
        refine W.seq ?_
        obtain ⟨x53, hx56, hb12⟩ := bs hb12
        obtain ⟨ha54, hb55, hx56⟩ := idx_some hx56
        obtain ⟨u67, hc68, hr69⟩ := repSl.el r_a hx56
        obtain ⟨x99, hx102, hb12⟩ := bs hb12
        obtain ⟨ha100, hb101, hx102⟩ := idx_some hx102
        obtain ⟨u113, hc114, hr115⟩ := repSl.el r_b hx102
        refine W.drawR mixo 8 [] [fun _ v _ _ => v = v_a, fun _ v _ _ => v = (Value.int .i64 (k7 : Int)) ∧ InR .i64 (k7 : Int), fun _ v _ _ => v = (Value.pointer (some (elA v_a ((k7 : Int)).toNat))), fun _ v _ _ => v = u67, fun _ v _ _ => v = v_b, fun _ v _ _ => v = (Value.int .i64 (k7 : Int)) ∧ InR .i64 (k7 : Int), fun _ v _ _ => v = (Value.pointer (some (elA v_b ((k7 : Int)).toNat))), fun _ v _ _ => v = u113] (by kernel_rfl) (by kernel_rfl) ⟨⟨fun _ _ _ _ _ _ h => h, fun _ _ _ _ _ _ h => h⟩, ⟨fun _ _ _ _ _ _ h => h, fun _ _ _ _ _ _ h => h⟩, ⟨fun _ _ _ _ _ _ h => h, fun _ _ _ _ _ _ h => h⟩, ⟨fun _ _ _ _ _ _ h => h, fun _ _ _ _ _ _ h => h⟩, ⟨fun _ _ _ _ _ _ h => h, fun _ _ _ _ _ _ h => h⟩, ⟨fun _ _ _ _ _ _ h => h, fun _ _ _ _ _ _ h => h⟩, ⟨fun _ _ _ _ _ _ h => h, fun _ _ _ _ _ _ h => h⟩, ⟨fun _ _ _ _ _ _ h => h, fun _ _ _ _ _ _ h => h⟩, trivial⟩ ⟨?_, ?_, ?_, ?_, ?_, ?_, ?_, ?_, trivial⟩ ?_
        · refine ObX.op rfl ?_
          intro f24 wd25 he26 hout27 hphi28
          have hS29 : St w wd25 [] := St.extend hS20 he26
          have e30 : f24 0 = v_a := (hout27 0 rfl).trans hf16
          exact OpX.val v_a wd25 rfl (op_move e30) (Ext.refl _) rfl
        · refine ObX.op rfl ?_
          intro f31 wd32 he33 hout34 hphi35
          have hS36 : St w wd32 [] := St.extend hS20 he33
          have e37 : f31 5 = (Value.int .i64 (k7 : Int)) := (hout34 5 rfl).trans hf18
          exact OpX.val (Value.int .i64 (k7 : Int)) wd32 rfl (op_move e37) (Ext.refl _) ⟨rfl, hr19⟩
        · refine ObX.op rfl ?_
          intro f38 wd39 he40 hout41 hphi42
          have hS43 : St w wd39 [] := St.extend hS20 he40
          obtain ⟨S44, hS45, hf46⟩ := hphi42 0 17 _ rfl rfl rfl
          have e47 : f38 17 = v_a := hf46
          obtain ⟨S48, hS49, hf50⟩ := hphi42 1 18 _ rfl rfl rfl
          obtain ⟨e51, hr52⟩ : f38 18 = (Value.int .i64 (k7 : Int)) ∧ InR .i64 (k7 : Int) := hf50
          exact OpX.val (Value.pointer (some (elA v_a ((k7 : Int)).toNat))) wd39 rfl (op_idx sl_27 (Ty.lift _ hS43.ext r_a) e47 e51 ha54 hb55) (Ext.refl _) rfl
        · refine ObX.op rfl ?_
          intro f57 wd58 he59 hout60 hphi61
          have hS62 : St w wd58 [] := St.extend hS20 he59
          obtain ⟨S63, hS64, hf65⟩ := hphi61 2 19 _ rfl rfl rfl
          have e66 : f57 19 = (Value.pointer (some (elA v_a ((k7 : Int)).toNat))) := hf65
          exact OpX.val u67 wd58 rfl (op_load one_22 e66 (Ext.cell hS62.ext hc68)) (Ext.refl _) rfl
        · refine ObX.op rfl ?_
          intro f70 wd71 he72 hout73 hphi74
          have hS75 : St w wd71 [] := St.extend hS20 he72
          have e76 : f70 1 = v_b := (hout73 1 rfl).trans hf17
          exact OpX.val v_b wd71 rfl (op_move e76) (Ext.refl _) rfl
        · refine ObX.op rfl ?_
          intro f77 wd78 he79 hout80 hphi81
          have hS82 : St w wd78 [] := St.extend hS20 he79
          have e83 : f77 5 = (Value.int .i64 (k7 : Int)) := (hout80 5 rfl).trans hf18
          exact OpX.val (Value.int .i64 (k7 : Int)) wd78 rfl (op_move e83) (Ext.refl _) ⟨rfl, hr19⟩
        · refine ObX.op rfl ?_
          intro f84 wd85 he86 hout87 hphi88
          have hS89 : St w wd85 [] := St.extend hS20 he86
          obtain ⟨S90, hS91, hf92⟩ := hphi88 4 21 _ rfl rfl rfl
          have e93 : f84 21 = v_b := hf92
          obtain ⟨S94, hS95, hf96⟩ := hphi88 5 22 _ rfl rfl rfl
          obtain ⟨e97, hr98⟩ : f84 22 = (Value.int .i64 (k7 : Int)) ∧ InR .i64 (k7 : Int) := hf96
          exact OpX.val (Value.pointer (some (elA v_b ((k7 : Int)).toNat))) wd85 rfl (op_idx sl_27 (Ty.lift _ hS89.ext r_b) e93 e97 ha100 hb101) (Ext.refl _) rfl
        · refine ObX.op rfl ?_
          intro f103 wd104 he105 hout106 hphi107
          have hS108 : St w wd104 [] := St.extend hS20 he105
          obtain ⟨S109, hS110, hf111⟩ := hphi107 6 23 _ rfl rfl rfl
          have e112 : f103 23 = (Value.pointer (some (elA v_b ((k7 : Int)).toNat))) := hf111
          exact OpX.val u113 wd104 rfl (op_load one_22 e112 (Ext.cell hS108.ext hc114)) (Ext.refl _) rfl
        · intro f116 wd117 Ss118 he119 hout120 hSn121 hSd122 hphi123
          show WL _ _ _ _ _ _ _
          have hS124 : St w wd117 [] := St.extend hS20 he119
          have e125 : f116 20 = u67 := hphi123 3 20 _ (by decide) rfl rfl
          have e126 : f116 24 = u113 := hphi123 7 24 _ (by decide) rfl rfl
          have e127 : f116 0 = v_a := (hout120 0 rfl).trans hf16
          have e128 : f116 1 = v_b := (hout120 1 rfl).trans hf17
          have e129 : f116 5 = (Value.int .i64 (k7 : Int)) := (hout120 5 rfl).trans hf18
          obtain ⟨x130, hx131, hb12⟩ := bs hb12
          refine WL.call _ (op_call fn_27 (args2 e125 e126)) (c_laws_eqInt64S (Ty.lift _ hS124.ext hr69) (Ty.lift _ hS124.ext hr115) hx131) rfl ?_
          rintro _ wd132 ⟨rfl, he133⟩
          have hS135 := St.extend hS124 he133
          replace hS135 : St w wd132 [] := hS135
          refine WL.val (Value.bool (!x130)) _ (op_not rfl) rfl ?_
          refine WL.nil ?_
          show W _ _ _ _ _ _
          refine W.cond (!x130) rfl (fun hc136 => ?_) (fun hc136 => ?_)
          · replace hb12 := ip hb12 hc136
            refine W.seq (W.region ?_)
            refine WL.val (Value.bool false) _ (op_assign rfl) rfl ?_
            refine WL.nil ?_
            show W _ _ _ _ _ _
            refine W.ret ?_
            obtain rfl := Option.some.inj hb12
            obtain rfl := hret15 _ rfl
            replace h := onRes_ret h
            obtain rfl := Option.some.inj h
            show FinP _ _ _ _ _ _ _
            exact FinP.ret _ (res1 rfl rfl) ⟨rfl, hS135.ext⟩
          · replace hb12 := inegb hb12 hc136
            refine W.skip ?_
            show W _ _ _ _ _ _
            refine W.region ?_
            refine WL.val (Value.int .i64 (k7 : Int)) _ (op_move e129) rfl ?_
            refine WL.val (Value.int .i64 (w64 ((k7 : Int) + (1 : Int)))) _ (op_add rfl rfl) rfl ?_
            refine WL.val (Value.int .i64 (w64 ((k7 : Int) + (1 : Int)))) _ (op_assign rfl) rfl ?_
            refine WL.nil ?_
            obtain rfl := Option.some.inj hb12
            show ∃ s, _ = Ctl.next s ∧ _
            exact ⟨_, rfl, e127, e128, (ctr_next hl22 hr21), (ctr_rng hl22 hr21), hS135⟩
      · intro s143 f139 wd140 hs141 hI142
        obtain ⟨⟩ := s143
        replace hI142 : f139 0 = v_a ∧ f139 1 = v_b ∧ f139 5 = Value.int .i64 (((a).length : Nat) : Int) ∧ InR .i64 (((a).length : Nat) : Int) ∧ St w wd140 [] := hI142
        obtain ⟨hf144, hf145, hf146, hr147, hS148⟩ := hI142
        refine W.seq (W.seq (W.region ?_))
        refine WL.val (Value.int .i64 (((a).length : Nat) : Int)) _ (op_move hf146) rfl ?_
        refine WL.val v_a _ (op_move hf144) rfl ?_
        have hr149 := inR_len (Ty.lift _ hS148.ext r_a)
        refine WL.val (Value.int .i64 ((a).length : Int)) _ (op_lenL sl_27 (Ty.lift _ hS148.ext r_a) rfl) rfl ?_
        refine WL.val (Value.bool (decide ((((a).length : Nat) : Int) < ((a).length : Int)))) _ (op_lss rfl rfl) rfl ?_
        have hl150 : ¬ (((a).length : Nat) : Int) < ((a).length : Int) := by omega
        refine WL.nil ?_
        show W _ _ _ _ _ _
        refine W.condF (decide ((((a).length : Nat) : Int) < ((a).length : Int))) rfl (decide_eq_false hl150) ?_
        refine W.exit ?_
        show _ = _ ∧ _
        exact ⟨rfl, _, hs141, hS148⟩
    · rintro f151 wd152 ⟨s154, rfl, hq153⟩
      replace h := onRes_fin h
      obtain ⟨⟩ := s154
      replace hq153 : St w wd152 [] := hq153
      have hS155 := hq153
      show W _ _ _ _ _ _
      refine W.seq (W.region ?_)
      refine WL.val (Value.bool true) _ (op_assign rfl) rfl ?_
      refine WL.nil ?_
      show W _ _ _ _ _ _
      refine W.ret ?_
      obtain rfl := Option.some.inj h
      show FinP _ _ _ _ _ _ _
      exact FinP.ret _ (res1 rfl rfl) ⟨rfl, hS155.ext⟩

theorem c_laws_eqInt64SSS {w : World} {a : (List (List (List Int)))} {v_a : Value} {b : (List (List (List Int)))} {v_b : Value} (r_a : (Ty.sl (Ty.sl (Ty.sl (Ty.i .i64)))).rep w v_a a) (r_b : (Ty.sl (Ty.sl (Ty.sl (Ty.i .i64)))).rep w v_b b) {res : Bool} (h : p_laws_eqInt64SSS a b  = some res) :
    Ret Try.prog 44 #[v_a, v_b] w (fun v w' => v = Value.bool res ∧ Ext w w') := by
  unfold p_laws_eqInt64SSS at h
  have hS0 : St w w [] := St.start w
  refine Ret.start (fn := Try.f44) Try.func44 rfl 27 rfl rfl ?_
  refine W.seq (W.region ?_)
  refine WL.val (Value.bool false) _ (op_assign rfl) rfl ?_
  refine WL.nil ?_
  show W _ _ _ _ _ _
  refine W.seq (W.seq (W.region ?_))
  refine WL.val v_a _ (op_move rfl) rfl ?_
  have hr1 := inR_len (Ty.lift _ hS0.ext r_a)
  refine WL.val (Value.int .i64 ((a).length : Int)) _ (op_lenL sl_23 (Ty.lift _ hS0.ext r_a) rfl) rfl ?_
  refine WL.val v_b _ (op_move rfl) rfl ?_
  have hr2 := inR_len (Ty.lift _ hS0.ext r_b)
  refine WL.val (Value.int .i64 ((b).length : Int)) _ (op_lenL sl_23 (Ty.lift _ hS0.ext r_b) rfl) rfl ?_
  refine WL.val (Value.bool (((a).length : Int) != ((b).length : Int))) _ (op_neq rfl rfl) rfl ?_
  refine WL.nil ?_
  show W _ _ _ _ _ _
  refine W.cond (((a).length : Int) != ((b).length : Int)) rfl (fun hc3 => ?_) (fun hc3 => ?_)
  · replace h := ip h hc3
    refine W.seq (W.region ?_)
    refine WL.val (Value.bool false) _ (op_assign rfl) rfl ?_
    refine WL.nil ?_
    show W _ _ _ _ _ _
    refine W.ret ?_
    obtain rfl := Option.some.inj h
    show FinP _ _ _ _ _ _ _
    exact FinP.ret _ (res1 rfl rfl) ⟨rfl, hS0.ext⟩
  · replace h := inegb h hc3
    refine W.skip ?_
    show W _ _ _ _ _ _
    refine W.seq (W.seq (W.region ?_))
    refine WL.val (Value.int .i64 (0 : Int)) _ (op_assign rfl) rfl ?_
    refine WL.nil ?_
    show W _ _ _ _ _ _
    obtain ⟨res5, hres6, h⟩ := bs h
    refine W.blockLoop (fun fq wq => ∃ s, res5 = Res.fin s ∧ St w wq []) ?_ ?_
    · refine W.forN (fun k (s : Unit) fq wq => fq 0 = v_a ∧ fq 1 = v_b ∧ fq 5 = Value.int .i64 (k : Int) ∧ InR .i64 (k : Int) ∧ St w wq []) hres6 ⟨rfl, rfl, rfl, (inR_i64.2 (show (-9223372036854775808 : Int) ≤ 0 ∧ (0 : Int) ≤ 9223372036854775807 from by decide)), hS0⟩ ?_ ?_
      · intro k7 s138 ct8 f9 wd10 hk11 hb12 hI13 hbrk14 hret15
        obtain ⟨⟩ := s138
        replace hI13 : f9 0 = v_a ∧ f9 1 = v_b ∧ f9 5 = Value.int .i64 (k7 : Int) ∧ InR .i64 (k7 : Int) ∧ St w wd10 [] := hI13
        replace hb12 : p_laws_eqInt64SSS_L1 a b k7  = some ct8 := hb12
        unfold p_laws_eqInt64SSS_L1 at hb12
        obtain ⟨hf16, hf17, hf18, hr19, hS20⟩ := hI13
        refine W.seq (W.seq (W.region ?_))
        refine WL.val (Value.int .i64 (k7 : Int)) _ (op_move hf18) rfl ?_
        refine WL.val v_a _ (op_move hf16) rfl ?_
        have hr21 := inR_len (Ty.lift _ hS20.ext r_a)
        refine WL.val (Value.int .i64 ((a).length : Int)) _ (op_lenL sl_23 (Ty.lift _ hS20.ext r_a) rfl) rfl ?_
        refine WL.val (Value.bool (decide ((k7 : Int) < ((a).length : Int)))) _ (op_lss rfl rfl) rfl ?_
        have hl22 : (k7 : Int) < ((a).length : Int) := by omega
        refine WL.nil ?_
        show W _ _ _ _ _ _
        refine W.condT (decide ((k7 : Int) < ((a).length : Int))) rfl (decide_eq_true hl22) ?_
        refine W.skip ?_
        show W _ _ _ _ _ _
        refine W.seq ?_
        refine W.block ?_
        refine W.seq ?_
        obtain ⟨x53, hx56, hb12⟩ := bs hb12
        obtain ⟨ha54, hb55, hx56⟩ := idx_some hx56
        obtain ⟨u67, hc68, hr69⟩ := repSl.el r_a hx56
        obtain ⟨x99, hx102, hb12⟩ := bs hb12
        obtain ⟨ha100, hb101, hx102⟩ := idx_some hx102
        obtain ⟨u113, hc114, hr115⟩ := repSl.el r_b hx102
        refine W.drawR mixo 8 [] [fun _ v _ _ => v = v_a, fun _ v _ _ => v = (Value.int .i64 (k7 : Int)) ∧ InR .i64 (k7 : Int), fun _ v _ _ => v = (Value.pointer (some (elA v_a ((k7 : Int)).toNat))), fun _ v _ _ => v = u67, fun _ v _ _ => v = v_b, fun _ v _ _ => v = (Value.int .i64 (k7 : Int)) ∧ InR .i64 (k7 : Int), fun _ v _ _ => v = (Value.pointer (some (elA v_b ((k7 : Int)).toNat))), fun _ v _ _ => v = u113] (by kernel_rfl) (by kernel_rfl) ⟨⟨fun _ _ _ _ _ _ h => h, fun _ _ _ _ _ _ h => h⟩, ⟨fun _ _ _ _ _ _ h => h, fun _ _ _ _ _ _ h => h⟩, ⟨fun _ _ _ _ _ _ h => h, fun _ _ _ _ _ _ h => h⟩, ⟨fun _ _ _ _ _ _ h => h, fun _ _ _ _ _ _ h => h⟩, ⟨fun _ _ _ _ _ _ h => h, fun _ _ _ _ _ _ h => h⟩, ⟨fun _ _ _ _ _ _ h => h, fun _ _ _ _ _ _ h => h⟩, ⟨fun _ _ _ _ _ _ h => h, fun _ _ _ _ _ _ h => h⟩, ⟨fun _ _ _ _ _ _ h => h, fun _ _ _ _ _ _ h => h⟩, trivial⟩ ⟨?_, ?_, ?_, ?_, ?_, ?_, ?_, ?_, trivial⟩ ?_
        · refine ObX.op rfl ?_
          intro f24 wd25 he26 hout27 hphi28
          have hS29 : St w wd25 [] := St.extend hS20 he26
          have e30 : f24 0 = v_a := (hout27 0 rfl).trans hf16
          exact OpX.val v_a wd25 rfl (op_move e30) (Ext.refl _) rfl
        · refine ObX.op rfl ?_
          intro f31 wd32 he33 hout34 hphi35
          have hS36 : St w wd32 [] := St.extend hS20 he33
          have e37 : f31 5 = (Value.int .i64 (k7 : Int)) := (hout34 5 rfl).trans hf18
          exact OpX.val (Value.int .i64 (k7 : Int)) wd32 rfl (op_move e37) (Ext.refl _) ⟨rfl, hr19⟩
        · refine ObX.op rfl ?_
          intro f38 wd39 he40 hout41 hphi42
          have hS43 : St w wd39 [] := St.extend hS20 he40
          obtain ⟨S44, hS45, hf46⟩ := hphi42 0 17 _ rfl rfl rfl
          have e47 : f38 17 = v_a := hf46
          obtain ⟨S48, hS49, hf50⟩ := hphi42 1 18 _ rfl rfl rfl
          obtain ⟨e51, hr52⟩ : f38 18 = (Value.int .i64 (k7 : Int)) ∧ InR .i64 (k7 : Int) := hf50
          exact OpX.val (Value.pointer (some (elA v_a ((k7 : Int)).toNat))) wd39 rfl (op_idx sl_23 (Ty.lift _ hS43.ext r_a) e47 e51 ha54 hb55) (Ext.refl _) rfl
        · refine ObX.op rfl ?_
          intro f57 wd58 he59 hout60 hphi61
          have hS62 : St w wd58 [] := St.extend hS20 he59
          obtain ⟨S63, hS64, hf65⟩ := hphi61 2 19 _ rfl rfl rfl
          have e66 : f57 19 = (Value.pointer (some (elA v_a ((k7 : Int)).toNat))) := hf65
          exact OpX.val u67 wd58 rfl (op_load one_27 e66 (Ext.cell hS62.ext hc68)) (Ext.refl _) rfl
        · refine ObX.op rfl ?_
          intro f70 wd71 he72 hout73 hphi74
          have hS75 : St w wd71 [] := St.extend hS20 he72
          have e76 : f70 1 = v_b := (hout73 1 rfl).trans hf17
          exact OpX.val v_b wd71 rfl (op_move e76) (Ext.refl _) rfl
        · refine ObX.op rfl ?_
          intro f77 wd78 he79 hout80 hphi81
          have hS82 : St w wd78 [] := St.extend hS20 he79
          have e83 : f77 5 = (Value.int .i64 (k7 : Int)) := (hout80 5 rfl).trans hf18
          exact OpX.val (Value.int .i64 (k7 : Int)) wd78 rfl (op_move e83) (Ext.refl _) ⟨rfl, hr19⟩
        · refine ObX.op rfl ?_
          intro f84 wd85 he86 hout87 hphi88
          have hS89 : St w wd85 [] := St.extend hS20 he86
          obtain ⟨S90, hS91, hf92⟩ := hphi88 4 21 _ rfl rfl rfl
          have e93 : f84 21 = v_b := hf92
          obtain ⟨S94, hS95, hf96⟩ := hphi88 5 22 _ rfl rfl rfl
          obtain ⟨e97, hr98⟩ : f84 22 = (Value.int .i64 (k7 : Int)) ∧ InR .i64 (k7 : Int) := hf96
          exact OpX.val (Value.pointer (some (elA v_b ((k7 : Int)).toNat))) wd85 rfl (op_idx sl_23 (Ty.lift _ hS89.ext r_b) e93 e97 ha100 hb101) (Ext.refl _) rfl
        · refine ObX.op rfl ?_
          intro f103 wd104 he105 hout106 hphi107
          have hS108 : St w wd104 [] := St.extend hS20 he105
          obtain ⟨S109, hS110, hf111⟩ := hphi107 6 23 _ rfl rfl rfl
          have e112 : f103 23 = (Value.pointer (some (elA v_b ((k7 : Int)).toNat))) := hf111
          exact OpX.val u113 wd104 rfl (op_load one_27 e112 (Ext.cell hS108.ext hc114)) (Ext.refl _) rfl
        · intro f116 wd117 Ss118 he119 hout120 hSn121 hSd122 hphi123
          show WL _ _ _ _ _ _ _
          have hS124 : St w wd117 [] := St.extend hS20 he119
          have e125 : f116 20 = u67 := hphi123 3 20 _ (by decide) rfl rfl
          have e126 : f116 24 = u113 := hphi123 7 24 _ (by decide) rfl rfl
          have e127 : f116 0 = v_a := (hout120 0 rfl).trans hf16
          have e128 : f116 1 = v_b := (hout120 1 rfl).trans hf17
          have e129 : f116 5 = (Value.int .i64 (k7 : Int)) := (hout120 5 rfl).trans hf18
          obtain ⟨x130, hx131, hb12⟩ := bs hb12
          refine WL.call _ (op_call fn_12 (args2 e125 e126)) (c_laws_eqInt64SS (Ty.lift _ hS124.ext hr69) (Ty.lift _ hS124.ext hr115) hx131) rfl ?_
          rintro _ wd132 ⟨rfl, he133⟩
          have hS135 := St.extend hS124 he133
          replace hS135 : St w wd132 [] := hS135
          refine WL.val (Value.bool (!x130)) _ (op_not rfl) rfl ?_
          refine WL.nil ?_
          show W _ _ _ _ _ _
          refine W.cond (!x130) rfl (fun hc136 => ?_) (fun hc136 => ?_)
          · replace hb12 := ip hb12 hc136
            refine W.seq (W.region ?_)
            refine WL.val (Value.bool false) _ (op_assign rfl) rfl ?_
            refine WL.nil ?_
            show W _ _ _ _ _ _
            refine W.ret ?_
            obtain rfl := Option.some.inj hb12
            obtain rfl := hret15 _ rfl
            replace h := onRes_ret h
            obtain rfl := Option.some.inj h
            show FinP _ _ _ _ _ _ _
            exact FinP.ret _ (res1 rfl rfl) ⟨rfl, hS135.ext⟩
          · replace hb12 := inegb hb12 hc136
            refine W.skip ?_
            show W _ _ _ _ _ _
            refine W.region ?_
            refine WL.val (Value.int .i64 (k7 : Int)) _ (op_move e129) rfl ?_
            refine WL.val (Value.int .i64 (w64 ((k7 : Int) + (1 : Int)))) _ (op_add rfl rfl) rfl ?_
            refine WL.val (Value.int .i64 (w64 ((k7 : Int) + (1 : Int)))) _ (op_assign rfl) rfl ?_
            refine WL.nil ?_
            obtain rfl := Option.some.inj hb12
            show ∃ s, _ = Ctl.next s ∧ _
            exact ⟨_, rfl, e127, e128, (ctr_next hl22 hr21), (ctr_rng hl22 hr21), hS135⟩
      · intro s143 f139 wd140 hs141 hI142
        obtain ⟨⟩ := s143
        replace hI142 : f139 0 = v_a ∧ f139 1 = v_b ∧ f139 5 = Value.int .i64 (((a).length : Nat) : Int) ∧ InR .i64 (((a).length : Nat) : Int) ∧ St w wd140 [] := hI142
        obtain ⟨hf144, hf145, hf146, hr147, hS148⟩ := hI142
        refine W.seq (W.seq (W.region ?_))
        refine WL.val (Value.int .i64 (((a).length : Nat) : Int)) _ (op_move hf146) rfl ?_
        refine WL.val v_a _ (op_move hf144) rfl ?_
        have hr149 := inR_len (Ty.lift _ hS148.ext r_a)
        refine WL.val (Value.int .i64 ((a).length : Int)) _ (op_lenL sl_23 (Ty.lift _ hS148.ext r_a) rfl) rfl ?_
        refine WL.val (Value.bool (decide ((((a).length : Nat) : Int) < ((a).length : Int)))) _ (op_lss rfl rfl) rfl ?_
        have hl150 : ¬ (((a).length : Nat) : Int) < ((a).length : Int) := by omega
        refine WL.nil ?_
        show W _ _ _ _ _ _
        refine W.condF (decide ((((a).length : Nat) : Int) < ((a).length : Int))) rfl (decide_eq_false hl150) ?_
        refine W.exit ?_
        show _ = _ ∧ _
        exact ⟨rfl, _, hs141, hS148⟩
    · rintro f151 wd152 ⟨s154, rfl, hq153⟩
      replace h := onRes_fin h
      obtain ⟨⟩ := s154
      replace hq153 : St w wd152 [] := hq153
      have hS155 := hq153
      show W _ _ _ _ _ _
      refine W.seq (W.region ?_)
      refine WL.val (Value.bool true) _ (op_assign rfl) rfl ?_
      refine WL.nil ?_
      show W _ _ _ _ _ _
      refine W.ret ?_
      obtain rfl := Option.some.inj h
      show FinP _ _ _ _ _ _ _
      exact FinP.ret _ (res1 rfl rfl) ⟨rfl, hS155.ext⟩

theorem c_laws_eqCocycle {w : World} {a_Orders : (List Int)} {v_a_Orders : Value} {a_Modulus : Int} {a_Values : (List (List (List Int)))} {v_a_Values : Value} {b_Orders : (List Int)} {v_b_Orders : Value} {b_Modulus : Int} {b_Values : (List (List (List Int)))} {v_b_Values : Value} (r_a_Orders : (Ty.sl (Ty.i .i64)).rep w v_a_Orders a_Orders) (r_a_Modulus : InR .i64 a_Modulus) (r_a_Values : (Ty.sl (Ty.sl (Ty.sl (Ty.i .i64)))).rep w v_a_Values a_Values) (r_b_Orders : (Ty.sl (Ty.i .i64)).rep w v_b_Orders b_Orders) (r_b_Modulus : InR .i64 b_Modulus) (r_b_Values : (Ty.sl (Ty.sl (Ty.sl (Ty.i .i64)))).rep w v_b_Values b_Values) {res : Bool} (h : p_laws_eqCocycle a_Orders a_Modulus a_Values b_Orders b_Modulus b_Values  = some res) :
    Ret Try.prog 13 #[(Value.agg #[v_a_Orders, (Value.int .i64 a_Modulus), v_a_Values]), (Value.agg #[v_b_Orders, (Value.int .i64 b_Modulus), v_b_Values])] w (fun v w' => v = Value.bool res ∧ Ext w w') := by
  unfold p_laws_eqCocycle at h
  have hS0 : St w w [] := St.start w
  refine Ret.start (fn := Try.f13) Try.func13 rfl 22 rfl rfl ?_
  refine W.seq (W.region ?_)
  refine WL.box hS0 rfl (cs := [v_a_Orders, (Value.int .i64 a_Modulus), v_a_Values]) rfl rfl ?_
  intro b1 wd2 hS3 he4 hx5
  replace hS3 : St w wd2 [bx b1 [v_a_Orders, (Value.int .i64 a_Modulus), v_a_Values]] := hS3
  have hx6 := St.boxAt hS3 0 rfl
  have hE7 : Ext w wd2 := hS3.ext
  have hS8 : St wd2 wd2 [] := St.start wd2
  refine WL.box hS8 rfl (cs := [v_b_Orders, (Value.int .i64 b_Modulus), v_b_Values]) rfl rfl ?_
  intro b9 wd10 hS11 he12 hx13
  replace hS11 : St wd2 wd10 [bx b9 [v_b_Orders, (Value.int .i64 b_Modulus), v_b_Values]] := hS11
  have hx14 := St.boxAt hS11 0 rfl
  have hE15 : Ext w wd10 := (Ext.trans hE7 hS11.ext)
  have hE16 : Ext wd2 wd10 := hS11.ext
  have hS17 : St wd10 wd10 [] := St.start wd10
  refine WL.val (Value.bool false) _ (op_assign rfl) rfl ?_
  refine WL.nil ?_
  show W _ _ _ _ _ _
  refine W.seq (W.seq (W.region ?_))
  refine WL.val (Value.pointer (some ⟨b1, 0, none⟩)) _ (op_fieldAddr fd_30_0 rfl) rfl ?_
  refine WL.val v_a_Orders _ (op_load one_22 rfl (BoxAt.cell (BoxAt.lift (Ext.trans hE16 hS17.ext) hx6) rfl)) rfl ?_
  refine WL.val (Value.pointer (some ⟨b9, 0, none⟩)) _ (op_fieldAddr fd_30_0 rfl) rfl ?_
  refine WL.val v_b_Orders _ (op_load one_22 rfl (BoxAt.cell (BoxAt.lift hS17.ext hx14) rfl)) rfl ?_
  obtain ⟨x18, hx19, h⟩ := bs h
  refine WL.call _ (op_call fn_27 (args2 rfl rfl)) (c_laws_eqInt64S (Ty.lift _ (Ext.trans hE15 hS17.ext) r_a_Orders) (Ty.lift _ (Ext.trans hE15 hS17.ext) r_b_Orders) hx19) rfl ?_
  rintro _ wd20 ⟨rfl, he21⟩
  have hS23 := St.extend hS17 he21
  replace hS23 : St wd10 wd20 [] := hS23
  refine WL.val (Value.bool (!x18)) _ (op_not rfl) rfl ?_
  refine WL.nil ?_
  show W _ _ _ _ _ _
  refine W.cond (!x18) rfl (fun hc24 => ?_) (fun hc24 => ?_)
  · replace h := ip h hc24
    refine W.seq (W.region ?_)
    refine WL.val (Value.bool false) _ (op_assign rfl) rfl ?_
    refine WL.nil ?_
    show W _ _ _ _ _ _
    refine W.ret ?_
    obtain rfl := Option.some.inj h
    show FinP _ _ _ _ _ _ _
    exact FinP.ret _ (res1 rfl rfl) ⟨rfl, (Ext.trans hE15 hS23.ext)⟩
  · replace h := inegb h hc24
    refine W.skip ?_
    show W _ _ _ _ _ _
    refine W.seq (W.seq (W.region ?_))
    refine WL.val (Value.pointer (some ⟨b1, 1, none⟩)) _ (op_fieldAddr fd_30_1 rfl) rfl ?_
    refine WL.val (Value.int .i64 a_Modulus) _ (op_load one_2 rfl (BoxAt.cell (BoxAt.lift (Ext.trans hE16 hS23.ext) hx6) rfl)) rfl ?_
    refine WL.val (Value.pointer (some ⟨b9, 1, none⟩)) _ (op_fieldAddr fd_30_1 rfl) rfl ?_
    refine WL.val (Value.int .i64 b_Modulus) _ (op_load one_2 rfl (BoxAt.cell (BoxAt.lift hS23.ext hx14) rfl)) rfl ?_
    refine WL.val (Value.bool (a_Modulus != b_Modulus)) _ (op_neq rfl rfl) rfl ?_
    refine WL.nil ?_
    show W _ _ _ _ _ _
    refine W.cond (a_Modulus != b_Modulus) rfl (fun hc26 => ?_) (fun hc26 => ?_)
    · replace h := ip h hc26
      refine W.seq (W.region ?_)
      refine WL.val (Value.bool false) _ (op_assign rfl) rfl ?_
      refine WL.nil ?_
      show W _ _ _ _ _ _
      refine W.ret ?_
      obtain rfl := Option.some.inj h
      show FinP _ _ _ _ _ _ _
      exact FinP.ret _ (res1 rfl rfl) ⟨rfl, (Ext.trans hE15 hS23.ext)⟩
    · replace h := inegb h hc26
      refine W.skip ?_
      show W _ _ _ _ _ _
      refine W.seq (W.seq (W.region ?_))
      refine WL.val (Value.pointer (some ⟨b1, 2, none⟩)) _ (op_fieldAddr fd_30_2 rfl) rfl ?_
      refine WL.val v_a_Values _ (op_load one_23 rfl (BoxAt.cell (BoxAt.lift (Ext.trans hE16 hS23.ext) hx6) rfl)) rfl ?_
      refine WL.val (Value.pointer (some ⟨b9, 2, none⟩)) _ (op_fieldAddr fd_30_2 rfl) rfl ?_
      refine WL.val v_b_Values _ (op_load one_23 rfl (BoxAt.cell (BoxAt.lift hS23.ext hx14) rfl)) rfl ?_
      obtain ⟨x28, hx29, h⟩ := bs h
      refine WL.call _ (op_call fn_44 (args2 rfl rfl)) (c_laws_eqInt64SSS (Ty.lift _ (Ext.trans hE15 hS23.ext) r_a_Values) (Ty.lift _ (Ext.trans hE15 hS23.ext) r_b_Values) hx29) rfl ?_
      rintro _ wd30 ⟨rfl, he31⟩
      have hS33 := St.extend hS23 he31
      replace hS33 : St wd10 wd30 [] := hS33
      refine WL.val (Value.bool (!x28)) _ (op_not rfl) rfl ?_
      refine WL.nil ?_
      show W _ _ _ _ _ _
      refine W.cond (!x28) rfl (fun hc34 => ?_) (fun hc34 => ?_)
      · replace h := ip h hc34
        refine W.seq (W.region ?_)
        refine WL.val (Value.bool false) _ (op_assign rfl) rfl ?_
        refine WL.nil ?_
        show W _ _ _ _ _ _
        refine W.ret ?_
        obtain rfl := Option.some.inj h
        show FinP _ _ _ _ _ _ _
        exact FinP.ret _ (res1 rfl rfl) ⟨rfl, (Ext.trans hE15 hS33.ext)⟩
      · replace h := inegb h hc34
        refine W.skip ?_
        show W _ _ _ _ _ _
        refine W.seq (W.region ?_)
        refine WL.val (Value.bool true) _ (op_assign rfl) rfl ?_
        refine WL.nil ?_
        show W _ _ _ _ _ _
        refine W.ret ?_
        obtain rfl := Option.some.inj h
        show FinP _ _ _ _ _ _ _
        exact FinP.ret _ (res1 rfl rfl) ⟨rfl, (Ext.trans hE15 hS33.ext)⟩

theorem c_laws_markInt64S {w : World} {a : (List Int)} {v_a : Value} {k1 : Int} {w0 : World} {R : Ent} (hS0 : St w0 w [(Ty.sl (Ty.i .i64)).at v_a a, R]) (r_k1 : InR .i64 k1) {res : Int × (List Int)} (h : p_laws_markInt64S a k1  = some res) :
    Ret Try.prog 28 #[v_a, (Value.int .i64 k1)] w (fun v w' => v = Value.int .i64 res.1 ∧ InR .i64 res.1 ∧ St w0 w' [(Ty.sl (Ty.i .i64)).at v_a res.2, R]) := by
  unfold p_laws_markInt64S at h
  refine Ret.start (fn := Try.f28) Try.func28 rfl 19 rfl rfl ?_
  refine W.seq (W.region ?_)
  refine WL.val (Value.int .i64 (0 : Int)) _ (op_assign rfl) rfl ?_
  refine WL.nil ?_
  show W _ _ _ _ _ _
  refine W.seq (W.seq (W.region ?_))
  refine WL.val (Value.int .i64 (0 : Int)) _ (op_assign rfl) rfl ?_
  refine WL.nil ?_
  show W _ _ _ _ _ _
  obtain ⟨res1, hres2, h⟩ := bs h
  refine W.blockLoop (fun fq wq => ∃ s, res1 = Res.fin s ∧ fq 1 = Value.int .i64 s.2 ∧ InR .i64 s.2 ∧ (s.1).length = (a).length ∧ St w0 wq [(Ty.sl (Ty.i .i64)).at v_a s.1, R]) ?_ ?_
  · refine W.forN (fun k (s : (List Int) × Int) fq wq => fq 0 = v_a ∧ fq 1 = Value.int .i64 s.2 ∧ InR .i64 s.2 ∧ fq 5 = Value.int .i64 (k : Int) ∧ InR .i64 (k : Int) ∧ (s.1).length = (a).length ∧ St w0 wq [(Ty.sl (Ty.i .i64)).at v_a s.1, R]) hres2 ⟨rfl, rfl, r_k1, rfl, (inR_i64.2 (show (-9223372036854775808 : Int) ≤ 0 ∧ (0 : Int) ≤ 9223372036854775807 from by decide)), rfl, hS0⟩ ?_ ?_
    · intro k3 s30 ct6 f7 wd8 hk9 hb10 hI11 hbrk12 hret13
      obtain ⟨x4, x5⟩ := s30
      replace hI11 : f7 0 = v_a ∧ f7 1 = Value.int .i64 x5 ∧ InR .i64 x5 ∧ f7 5 = Value.int .i64 (k3 : Int) ∧ InR .i64 (k3 : Int) ∧ (x4).length = (a).length ∧ St w0 wd8 [(Ty.sl (Ty.i .i64)).at v_a x4, R] := hI11
      replace hb10 : p_laws_markInt64S_L1  k3 x4 x5 = some ct6 := hb10
      unfold p_laws_markInt64S_L1 at hb10
      obtain ⟨hf14, hf15, hr16, hf17, hr18, hL19, hS20⟩ := hI11
      refine W.seq (W.seq (W.region ?_))
      refine WL.val (Value.int .i64 (k3 : Int)) _ (op_move hf17) rfl ?_
      refine WL.val v_a _ (op_move hf14) rfl ?_
      have hr21 := inR_len (St.rep (t := (Ty.sl (Ty.i .i64))) hS20 0 rfl)
      refine WL.val (Value.int .i64 ((x4).length : Int)) _ (op_lenL sl_22 (St.rep (t := (Ty.sl (Ty.i .i64))) hS20 0 rfl) rfl) rfl ?_
      refine WL.val (Value.bool (decide ((k3 : Int) < ((x4).length : Int)))) _ (op_lss rfl rfl) rfl ?_
      have hl22 : (k3 : Int) < ((x4).length : Int) := by omega
      refine WL.nil ?_
      show W _ _ _ _ _ _
      refine W.condT (decide ((k3 : Int) < ((x4).length : Int))) rfl (decide_eq_true hl22) ?_
      refine W.skip ?_
      show W _ _ _ _ _ _
      refine W.seq ?_
      refine W.block ?_
      refine W.seq (W.region ?_)
      refine WL.val v_a _ (op_move hf14) rfl ?_
      refine WL.val (Value.int .i64 (k3 : Int)) _ (op_move hf17) rfl ?_
      refine WL.val (Value.int .i64 x5) _ (op_move hf15) rfl ?_
      obtain ⟨x24, hx27, hb10⟩ := bs hb10
      obtain ⟨ha25, hb26, hx27⟩ := idx_some hx27
      refine WL.val (Value.pointer (some (elA v_a ((k3 : Int)).toNat))) _ (op_idx sl_22 (St.rep (t := (Ty.sl (Ty.i .i64))) hS20 0 rfl) rfl rfl ha25 hb26) rfl ?_
      refine WL.storeEl (flat_i .i64) hS20 (k := 0) rfl sz_2 rfl rfl (lt_of_idx ha25 hb26) ⟨rfl, hr16⟩ ?_
      intro wd28 hS29
      replace hS29 : St w0 wd28 [(Ty.sl (Ty.i .i64)).at v_a ((x4).set ((k3 : Int)).toNat x5), R] := hS29
      refine WL.nil ?_
      show W _ _ _ _ _ _
      refine W.region ?_
      refine WL.val (Value.int .i64 x5) _ (op_move hf15) rfl ?_
      refine WL.val (Value.int .i64 (w64 (x5 + (1 : Int)))) _ (op_add rfl rfl) rfl ?_
      refine WL.val (Value.int .i64 (w64 (x5 + (1 : Int)))) _ (op_assign rfl) rfl ?_
      refine WL.nil ?_
      show W _ _ _ _ _ _
      refine W.region ?_
      refine WL.val (Value.int .i64 (k3 : Int)) _ (op_move hf17) rfl ?_
      refine WL.val (Value.int .i64 (w64 ((k3 : Int) + (1 : Int)))) _ (op_add rfl rfl) rfl ?_
      refine WL.val (Value.int .i64 (w64 ((k3 : Int) + (1 : Int)))) _ (op_assign rfl) rfl ?_
      refine WL.nil ?_
      obtain rfl := Option.some.inj hb10
      show ∃ s, _ = Ctl.next s ∧ _
      exact ⟨_, rfl, hf14, rfl, (inR_wrap _ _), (ctr_next hl22 hr21), (ctr_rng hl22 hr21), (by first | exact hL19 | (simp only [List.length_set]; exact hL19)), hS29⟩
    · intro s35 f31 wd32 hs33 hI34
      obtain ⟨x36, x37⟩ := s35
      replace hI34 : f31 0 = v_a ∧ f31 1 = Value.int .i64 x37 ∧ InR .i64 x37 ∧ f31 5 = Value.int .i64 (((a).length : Nat) : Int) ∧ InR .i64 (((a).length : Nat) : Int) ∧ (x36).length = (a).length ∧ St w0 wd32 [(Ty.sl (Ty.i .i64)).at v_a x36, R] := hI34
      obtain ⟨hf38, hf39, hr40, hf41, hr42, hL43, hS44⟩ := hI34
      refine W.seq (W.seq (W.region ?_))
      refine WL.val (Value.int .i64 (((a).length : Nat) : Int)) _ (op_move hf41) rfl ?_
      refine WL.val v_a _ (op_move hf38) rfl ?_
      have hr45 := inR_len (St.rep (t := (Ty.sl (Ty.i .i64))) hS44 0 rfl)
      refine WL.val (Value.int .i64 ((x36).length : Int)) _ (op_lenL sl_22 (St.rep (t := (Ty.sl (Ty.i .i64))) hS44 0 rfl) rfl) rfl ?_
      refine WL.val (Value.bool (decide ((((a).length : Nat) : Int) < ((x36).length : Int)))) _ (op_lss rfl rfl) rfl ?_
      have hl46 : ¬ (((a).length : Nat) : Int) < ((x36).length : Int) := by omega
      refine WL.nil ?_
      show W _ _ _ _ _ _
      refine W.condF (decide ((((a).length : Nat) : Int) < ((x36).length : Int))) rfl (decide_eq_false hl46) ?_
      refine W.exit ?_
      show _ = _ ∧ _
      exact ⟨rfl, _, hs33, hf39, hr40, (by first | exact hL43 | (simp only [List.length_set]; exact hL43)), hS44⟩
  · rintro f47 wd48 ⟨s50, rfl, hq49⟩
    replace h := onRes_fin h
    obtain ⟨x51, x52⟩ := s50
    replace hq49 : f47 1 = Value.int .i64 x52 ∧ InR .i64 x52 ∧ (x51).length = (a).length ∧ St w0 wd48 [(Ty.sl (Ty.i .i64)).at v_a x51, R] := hq49
    replace h : (_ : Option _) = _ := h
    dsimp only at h
    obtain ⟨hf53, hr54, hL55, hS56⟩ := hq49
    show W _ _ _ _ _ _
    refine W.seq (W.region ?_)
    refine WL.val (Value.int .i64 x52) _ (op_move hf53) rfl ?_
    refine WL.val (Value.int .i64 x52) _ (op_assign rfl) rfl ?_
    refine WL.nil ?_
    show W _ _ _ _ _ _
    refine W.ret ?_
    obtain rfl := Option.some.inj h
    show FinP _ _ _ _ _ _ _
    exact FinP.ret _ (res1 rfl rfl) ⟨rfl, hr54, (St.pick hS56 [0, 1] rfl)⟩

theorem c_laws_markInt64SS {w : World} {a : (List (List Int))} {v_a : Value} {k1 : Int} {w0 : World} {R : Ent} (hS0 : St w0 w [(Ty.sl (Ty.sl (Ty.i .i64))).at v_a a, R]) (r_k1 : InR .i64 k1) {res : Int × (List (List Int))} (h : p_laws_markInt64SS a k1  = some res) :
    Ret Try.prog 15 #[v_a, (Value.int .i64 k1)] w (fun v w' => v = Value.int .i64 res.1 ∧ InR .i64 res.1 ∧ St w0 w' [(Ty.sl (Ty.sl (Ty.i .i64))).at v_a res.2, R]) := by
  unfold p_laws_markInt64SS at h
  refine Ret.start (fn := Try.f15) Try.func15 rfl 19 rfl rfl ?_
  refine W.seq (W.region ?_)
  refine WL.val (Value.int .i64 (0 : Int)) _ (op_assign rfl) rfl ?_
  refine WL.nil ?_
  show W _ _ _ _ _ _
  refine W.seq (W.seq (W.region ?_))
  refine WL.val (Value.int .i64 (0 : Int)) _ (op_assign rfl) rfl ?_
  refine WL.nil ?_
  show W _ _ _ _ _ _
  obtain ⟨res1, hres2, h⟩ := bs h
  refine W.blockLoop (fun fq wq => ∃ s, res1 = Res.fin s ∧ fq 1 = Value.int .i64 s.2 ∧ InR .i64 s.2 ∧ (s.1).length = (a).length ∧ St w0 wq [(Ty.sl (Ty.sl (Ty.i .i64))).at v_a s.1, R]) ?_ ?_
  · refine W.forN (fun k (s : (List (List Int)) × Int) fq wq => fq 0 = v_a ∧ fq 1 = Value.int .i64 s.2 ∧ InR .i64 s.2 ∧ fq 5 = Value.int .i64 (k : Int) ∧ InR .i64 (k : Int) ∧ (s.1).length = (a).length ∧ St w0 wq [(Ty.sl (Ty.sl (Ty.i .i64))).at v_a s.1, R]) hres2 ⟨rfl, rfl, r_k1, rfl, (inR_i64.2 (show (-9223372036854775808 : Int) ≤ 0 ∧ (0 : Int) ≤ 9223372036854775807 from by decide)), rfl, hS0⟩ ?_ ?_
    · intro k3 s40 ct6 f7 wd8 hk9 hb10 hI11 hbrk12 hret13
      obtain ⟨x4, x5⟩ := s40
      replace hI11 : f7 0 = v_a ∧ f7 1 = Value.int .i64 x5 ∧ InR .i64 x5 ∧ f7 5 = Value.int .i64 (k3 : Int) ∧ InR .i64 (k3 : Int) ∧ (x4).length = (a).length ∧ St w0 wd8 [(Ty.sl (Ty.sl (Ty.i .i64))).at v_a x4, R] := hI11
      replace hb10 : p_laws_markInt64SS_L1  k3 x4 x5 = some ct6 := hb10
      unfold p_laws_markInt64SS_L1 at hb10
      obtain ⟨hf14, hf15, hr16, hf17, hr18, hL19, hS20⟩ := hI11
      refine W.seq (W.seq (W.region ?_))
      refine WL.val (Value.int .i64 (k3 : Int)) _ (op_move hf17) rfl ?_
      refine WL.val v_a _ (op_move hf14) rfl ?_
      have hr21 := inR_len (St.rep (t := (Ty.sl (Ty.sl (Ty.i .i64)))) hS20 0 rfl)
      refine WL.val (Value.int .i64 ((x4).length : Int)) _ (op_lenL sl_27 (St.rep (t := (Ty.sl (Ty.sl (Ty.i .i64)))) hS20 0 rfl) rfl) rfl ?_
      refine WL.val (Value.bool (decide ((k3 : Int) < ((x4).length : Int)))) _ (op_lss rfl rfl) rfl ?_
      have hl22 : (k3 : Int) < ((x4).length : Int) := by omega
      refine WL.nil ?_
      show W _ _ _ _ _ _
      refine W.condT (decide ((k3 : Int) < ((x4).length : Int))) rfl (decide_eq_true hl22) ?_
      refine W.skip ?_
      show W _ _ _ _ _ _
      refine W.seq ?_
      refine W.block ?_
      refine W.region ?_
      refine WL.val v_a _ (op_move hf14) rfl ?_
      refine WL.val (Value.int .i64 (k3 : Int)) _ (op_move hf17) rfl ?_
      obtain ⟨x24, hx27, hb10⟩ := bs hb10
      obtain ⟨ha25, hb26, hx27⟩ := idx_some hx27
      refine WL.val (Value.pointer (some (elA v_a ((k3 : Int)).toNat))) _ (op_idx sl_27 (St.rep (t := (Ty.sl (Ty.sl (Ty.i .i64)))) hS20 0 rfl) rfl rfl ha25 hb26) rfl ?_
      obtain ⟨u28, hc29, hr30⟩ := repSl.el (St.rep (t := (Ty.sl (Ty.sl (Ty.i .i64)))) hS20 0 rfl) hx27
      refine WL.val u28 _ (op_load one_22 rfl hc29) rfl ?_
      refine WL.val (Value.int .i64 x5) _ (op_move hf15) rfl ?_
      have hS31 := St.unrow (k := 0) hS20 rfl hx27 hc29
      replace hS31 : St w0 wd8 [holeAt (Ty.sl (Ty.i .i64)) v_a x4 ((k3 : Int)).toNat u28, R, (Ty.sl (Ty.i .i64)).at u28 x24] := hS31
      obtain ⟨x32, hx33, hb10⟩ := bs hb10
      have hS34 := St.fold [(Ty.sl (Ty.i .i64)).at u28 x24] [holeAt (Ty.sl (Ty.i .i64)) v_a x4 ((k3 : Int)).toNat u28, R] (St.pick hS31 [2, 0, 1] rfl)
      refine WL.call _ (op_call fn_28 (args2 rfl rfl)) (c_laws_markInt64S hS34 hr16 hx33) rfl ?_
      rintro _ wd37 ⟨rfl, hr38, hS35⟩
      have hS36 := St.pick (St.unfold [(Ty.sl (Ty.i .i64)).at u28 x32.2] [holeAt (Ty.sl (Ty.i .i64)) v_a x4 ((k3 : Int)).toNat u28, R] hS35) [1, 2, 0] rfl
      replace hS36 : St w0 wd37 [holeAt (Ty.sl (Ty.i .i64)) v_a x4 ((k3 : Int)).toNat u28, R, (Ty.sl (Ty.i .i64)).at u28 x32.2] := hS36
      have hS39 := St.rerow (k := 0) (k2 := 2) hS36 rfl rfl rfl
      replace hS39 : St w0 wd37 [(Ty.sl (Ty.sl (Ty.i .i64))).at v_a ((x4).set ((k3 : Int)).toNat x32.2), R, emp] := hS39
      refine WL.val (Value.int .i64 x32.1) _ (op_assign rfl) rfl ?_
      refine WL.nil ?_
      show W _ _ _ _ _ _
      refine W.region ?_
      refine WL.val (Value.int .i64 (k3 : Int)) _ (op_move hf17) rfl ?_
      refine WL.val (Value.int .i64 (w64 ((k3 : Int) + (1 : Int)))) _ (op_add rfl rfl) rfl ?_
      refine WL.val (Value.int .i64 (w64 ((k3 : Int) + (1 : Int)))) _ (op_assign rfl) rfl ?_
      refine WL.nil ?_
      obtain rfl := Option.some.inj hb10
      show ∃ s, _ = Ctl.next s ∧ _
      exact ⟨_, rfl, hf14, rfl, hr38, (ctr_next hl22 hr21), (ctr_rng hl22 hr21), (by first | exact hL19 | (simp only [List.length_set]; exact hL19)), (St.pick hS39 [0, 1] rfl)⟩
    · intro s45 f41 wd42 hs43 hI44
      obtain ⟨x46, x47⟩ := s45
      replace hI44 : f41 0 = v_a ∧ f41 1 = Value.int .i64 x47 ∧ InR .i64 x47 ∧ f41 5 = Value.int .i64 (((a).length : Nat) : Int) ∧ InR .i64 (((a).length : Nat) : Int) ∧ (x46).length = (a).length ∧ St w0 wd42 [(Ty.sl (Ty.sl (Ty.i .i64))).at v_a x46, R] := hI44
      obtain ⟨hf48, hf49, hr50, hf51, hr52, hL53, hS54⟩ := hI44
      refine W.seq (W.seq (W.region ?_))
      refine WL.val (Value.int .i64 (((a).length : Nat) : Int)) _ (op_move hf51) rfl ?_
      refine WL.val v_a _ (op_move hf48) rfl ?_
      have hr55 := inR_len (St.rep (t := (Ty.sl (Ty.sl (Ty.i .i64)))) hS54 0 rfl)
      refine WL.val (Value.int .i64 ((x46).length : Int)) _ (op_lenL sl_27 (St.rep (t := (Ty.sl (Ty.sl (Ty.i .i64)))) hS54 0 rfl) rfl) rfl ?_
      refine WL.val (Value.bool (decide ((((a).length : Nat) : Int) < ((x46).length : Int)))) _ (op_lss rfl rfl) rfl ?_
      have hl56 : ¬ (((a).length : Nat) : Int) < ((x46).length : Int) := by omega
      refine WL.nil ?_
      show W _ _ _ _ _ _
      refine W.condF (decide ((((a).length : Nat) : Int) < ((x46).length : Int))) rfl (decide_eq_false hl56) ?_
      refine W.exit ?_
      show _ = _ ∧ _
      exact ⟨rfl, _, hs43, hf49, hr50, (by first | exact hL53 | (simp only [List.length_set]; exact hL53)), hS54⟩
  · rintro f57 wd58 ⟨s60, rfl, hq59⟩
    replace h := onRes_fin h
    obtain ⟨x61, x62⟩ := s60
    replace hq59 : f57 1 = Value.int .i64 x62 ∧ InR .i64 x62 ∧ (x61).length = (a).length ∧ St w0 wd58 [(Ty.sl (Ty.sl (Ty.i .i64))).at v_a x61, R] := hq59
    replace h : (_ : Option _) = _ := h
    dsimp only at h
    obtain ⟨hf63, hr64, hL65, hS66⟩ := hq59
    show W _ _ _ _ _ _
    refine W.seq (W.region ?_)
    refine WL.val (Value.int .i64 x62) _ (op_move hf63) rfl ?_
    refine WL.val (Value.int .i64 x62) _ (op_assign rfl) rfl ?_
    refine WL.nil ?_
    show W _ _ _ _ _ _
    refine W.ret ?_
    obtain rfl := Option.some.inj h
    show FinP _ _ _ _ _ _ _
    exact FinP.ret _ (res1 rfl rfl) ⟨rfl, hr64, (St.pick hS66 [0, 1] rfl)⟩

theorem c_laws_markInt64SSS {w : World} {a : (List (List (List Int)))} {v_a : Value} {k1 : Int} {w0 : World} {R : Ent} (hS0 : St w0 w [(Ty.sl (Ty.sl (Ty.sl (Ty.i .i64)))).at v_a a, R]) (r_k1 : InR .i64 k1) {res : Int × (List (List (List Int)))} (h : p_laws_markInt64SSS a k1  = some res) :
    Ret Try.prog 45 #[v_a, (Value.int .i64 k1)] w (fun v w' => v = Value.int .i64 res.1 ∧ InR .i64 res.1 ∧ St w0 w' [(Ty.sl (Ty.sl (Ty.sl (Ty.i .i64)))).at v_a res.2, R]) := by
  unfold p_laws_markInt64SSS at h
  refine Ret.start (fn := Try.f45) Try.func45 rfl 19 rfl rfl ?_
  refine W.seq (W.region ?_)
  refine WL.val (Value.int .i64 (0 : Int)) _ (op_assign rfl) rfl ?_
  refine WL.nil ?_
  show W _ _ _ _ _ _
  refine W.seq (W.seq (W.region ?_))
  refine WL.val (Value.int .i64 (0 : Int)) _ (op_assign rfl) rfl ?_
  refine WL.nil ?_
  show W _ _ _ _ _ _
  obtain ⟨res1, hres2, h⟩ := bs h
  refine W.blockLoop (fun fq wq => ∃ s, res1 = Res.fin s ∧ fq 1 = Value.int .i64 s.2 ∧ InR .i64 s.2 ∧ (s.1).length = (a).length ∧ St w0 wq [(Ty.sl (Ty.sl (Ty.sl (Ty.i .i64)))).at v_a s.1, R]) ?_ ?_
  · refine W.forN (fun k (s : (List (List (List Int))) × Int) fq wq => fq 0 = v_a ∧ fq 1 = Value.int .i64 s.2 ∧ InR .i64 s.2 ∧ fq 5 = Value.int .i64 (k : Int) ∧ InR .i64 (k : Int) ∧ (s.1).length = (a).length ∧ St w0 wq [(Ty.sl (Ty.sl (Ty.sl (Ty.i .i64)))).at v_a s.1, R]) hres2 ⟨rfl, rfl, r_k1, rfl, (inR_i64.2 (show (-9223372036854775808 : Int) ≤ 0 ∧ (0 : Int) ≤ 9223372036854775807 from by decide)), rfl, hS0⟩ ?_ ?_
    · intro k3 s40 ct6 f7 wd8 hk9 hb10 hI11 hbrk12 hret13
      obtain ⟨x4, x5⟩ := s40
      replace hI11 : f7 0 = v_a ∧ f7 1 = Value.int .i64 x5 ∧ InR .i64 x5 ∧ f7 5 = Value.int .i64 (k3 : Int) ∧ InR .i64 (k3 : Int) ∧ (x4).length = (a).length ∧ St w0 wd8 [(Ty.sl (Ty.sl (Ty.sl (Ty.i .i64)))).at v_a x4, R] := hI11
      replace hb10 : p_laws_markInt64SSS_L1  k3 x4 x5 = some ct6 := hb10
      unfold p_laws_markInt64SSS_L1 at hb10
      obtain ⟨hf14, hf15, hr16, hf17, hr18, hL19, hS20⟩ := hI11
      refine W.seq (W.seq (W.region ?_))
      refine WL.val (Value.int .i64 (k3 : Int)) _ (op_move hf17) rfl ?_
      refine WL.val v_a _ (op_move hf14) rfl ?_
      have hr21 := inR_len (St.rep (t := (Ty.sl (Ty.sl (Ty.sl (Ty.i .i64))))) hS20 0 rfl)
      refine WL.val (Value.int .i64 ((x4).length : Int)) _ (op_lenL sl_23 (St.rep (t := (Ty.sl (Ty.sl (Ty.sl (Ty.i .i64))))) hS20 0 rfl) rfl) rfl ?_
      refine WL.val (Value.bool (decide ((k3 : Int) < ((x4).length : Int)))) _ (op_lss rfl rfl) rfl ?_
      have hl22 : (k3 : Int) < ((x4).length : Int) := by omega
      refine WL.nil ?_
      show W _ _ _ _ _ _
      refine W.condT (decide ((k3 : Int) < ((x4).length : Int))) rfl (decide_eq_true hl22) ?_
      refine W.skip ?_
      show W _ _ _ _ _ _
      refine W.seq ?_
      refine W.block ?_
      refine W.region ?_
      refine WL.val v_a _ (op_move hf14) rfl ?_
      refine WL.val (Value.int .i64 (k3 : Int)) _ (op_move hf17) rfl ?_
      obtain ⟨x24, hx27, hb10⟩ := bs hb10
      obtain ⟨ha25, hb26, hx27⟩ := idx_some hx27
      refine WL.val (Value.pointer (some (elA v_a ((k3 : Int)).toNat))) _ (op_idx sl_23 (St.rep (t := (Ty.sl (Ty.sl (Ty.sl (Ty.i .i64))))) hS20 0 rfl) rfl rfl ha25 hb26) rfl ?_
      obtain ⟨u28, hc29, hr30⟩ := repSl.el (St.rep (t := (Ty.sl (Ty.sl (Ty.sl (Ty.i .i64))))) hS20 0 rfl) hx27
      refine WL.val u28 _ (op_load one_27 rfl hc29) rfl ?_
      refine WL.val (Value.int .i64 x5) _ (op_move hf15) rfl ?_
      have hS31 := St.unrow (k := 0) hS20 rfl hx27 hc29
      replace hS31 : St w0 wd8 [holeAt (Ty.sl (Ty.sl (Ty.i .i64))) v_a x4 ((k3 : Int)).toNat u28, R, (Ty.sl (Ty.sl (Ty.i .i64))).at u28 x24] := hS31
      obtain ⟨x32, hx33, hb10⟩ := bs hb10
      have hS34 := St.fold [(Ty.sl (Ty.sl (Ty.i .i64))).at u28 x24] [holeAt (Ty.sl (Ty.sl (Ty.i .i64))) v_a x4 ((k3 : Int)).toNat u28, R] (St.pick hS31 [2, 0, 1] rfl)
      refine WL.call _ (op_call fn_15 (args2 rfl rfl)) (c_laws_markInt64SS hS34 hr16 hx33) rfl ?_
      rintro _ wd37 ⟨rfl, hr38, hS35⟩
      have hS36 := St.pick (St.unfold [(Ty.sl (Ty.sl (Ty.i .i64))).at u28 x32.2] [holeAt (Ty.sl (Ty.sl (Ty.i .i64))) v_a x4 ((k3 : Int)).toNat u28, R] hS35) [1, 2, 0] rfl
      replace hS36 : St w0 wd37 [holeAt (Ty.sl (Ty.sl (Ty.i .i64))) v_a x4 ((k3 : Int)).toNat u28, R, (Ty.sl (Ty.sl (Ty.i .i64))).at u28 x32.2] := hS36
      have hS39 := St.rerow (k := 0) (k2 := 2) hS36 rfl rfl rfl
      replace hS39 : St w0 wd37 [(Ty.sl (Ty.sl (Ty.sl (Ty.i .i64)))).at v_a ((x4).set ((k3 : Int)).toNat x32.2), R, emp] := hS39
      refine WL.val (Value.int .i64 x32.1) _ (op_assign rfl) rfl ?_
      refine WL.nil ?_
      show W _ _ _ _ _ _
      refine W.region ?_
      refine WL.val (Value.int .i64 (k3 : Int)) _ (op_move hf17) rfl ?_
      refine WL.val (Value.int .i64 (w64 ((k3 : Int) + (1 : Int)))) _ (op_add rfl rfl) rfl ?_
      refine WL.val (Value.int .i64 (w64 ((k3 : Int) + (1 : Int)))) _ (op_assign rfl) rfl ?_
      refine WL.nil ?_
      obtain rfl := Option.some.inj hb10
      show ∃ s, _ = Ctl.next s ∧ _
      exact ⟨_, rfl, hf14, rfl, hr38, (ctr_next hl22 hr21), (ctr_rng hl22 hr21), (by first | exact hL19 | (simp only [List.length_set]; exact hL19)), (St.pick hS39 [0, 1] rfl)⟩
    · intro s45 f41 wd42 hs43 hI44
      obtain ⟨x46, x47⟩ := s45
      replace hI44 : f41 0 = v_a ∧ f41 1 = Value.int .i64 x47 ∧ InR .i64 x47 ∧ f41 5 = Value.int .i64 (((a).length : Nat) : Int) ∧ InR .i64 (((a).length : Nat) : Int) ∧ (x46).length = (a).length ∧ St w0 wd42 [(Ty.sl (Ty.sl (Ty.sl (Ty.i .i64)))).at v_a x46, R] := hI44
      obtain ⟨hf48, hf49, hr50, hf51, hr52, hL53, hS54⟩ := hI44
      refine W.seq (W.seq (W.region ?_))
      refine WL.val (Value.int .i64 (((a).length : Nat) : Int)) _ (op_move hf51) rfl ?_
      refine WL.val v_a _ (op_move hf48) rfl ?_
      have hr55 := inR_len (St.rep (t := (Ty.sl (Ty.sl (Ty.sl (Ty.i .i64))))) hS54 0 rfl)
      refine WL.val (Value.int .i64 ((x46).length : Int)) _ (op_lenL sl_23 (St.rep (t := (Ty.sl (Ty.sl (Ty.sl (Ty.i .i64))))) hS54 0 rfl) rfl) rfl ?_
      refine WL.val (Value.bool (decide ((((a).length : Nat) : Int) < ((x46).length : Int)))) _ (op_lss rfl rfl) rfl ?_
      have hl56 : ¬ (((a).length : Nat) : Int) < ((x46).length : Int) := by omega
      refine WL.nil ?_
      show W _ _ _ _ _ _
      refine W.condF (decide ((((a).length : Nat) : Int) < ((x46).length : Int))) rfl (decide_eq_false hl56) ?_
      refine W.exit ?_
      show _ = _ ∧ _
      exact ⟨rfl, _, hs43, hf49, hr50, (by first | exact hL53 | (simp only [List.length_set]; exact hL53)), hS54⟩
  · rintro f57 wd58 ⟨s60, rfl, hq59⟩
    replace h := onRes_fin h
    obtain ⟨x61, x62⟩ := s60
    replace hq59 : f57 1 = Value.int .i64 x62 ∧ InR .i64 x62 ∧ (x61).length = (a).length ∧ St w0 wd58 [(Ty.sl (Ty.sl (Ty.sl (Ty.i .i64)))).at v_a x61, R] := hq59
    replace h : (_ : Option _) = _ := h
    dsimp only at h
    obtain ⟨hf63, hr64, hL65, hS66⟩ := hq59
    show W _ _ _ _ _ _
    refine W.seq (W.region ?_)
    refine WL.val (Value.int .i64 x62) _ (op_move hf63) rfl ?_
    refine WL.val (Value.int .i64 x62) _ (op_assign rfl) rfl ?_
    refine WL.nil ?_
    show W _ _ _ _ _ _
    refine W.ret ?_
    obtain rfl := Option.some.inj h
    show FinP _ _ _ _ _ _ _
    exact FinP.ret _ (res1 rfl rfl) ⟨rfl, hr64, (St.pick hS66 [0, 1] rfl)⟩

theorem c_laws_markCocycle {w : World} {a_Orders : (List Int)} {v_a_Orders : Value} {a_Modulus : Int} {a_Values : (List (List (List Int)))} {v_a_Values : Value} {k1 : Int} {w0 : World} {R : Ent} (hS0 : St w0 w [(Ty.sl (Ty.i .i64)).at v_a_Orders a_Orders, (Ty.sl (Ty.sl (Ty.sl (Ty.i .i64)))).at v_a_Values a_Values, R]) (r_a_Modulus : InR .i64 a_Modulus) (r_k1 : InR .i64 k1) {res : Int × (List Int) × (List (List (List Int)))} (h : p_laws_markCocycle a_Orders a_Modulus a_Values k1  = some res) :
    Ret Try.prog 14 #[(Value.agg #[v_a_Orders, (Value.int .i64 a_Modulus), v_a_Values]), (Value.int .i64 k1)] w (fun v w' => v = Value.int .i64 res.1 ∧ InR .i64 res.1 ∧ St w0 w' [(Ty.sl (Ty.i .i64)).at v_a_Orders res.2.1, (Ty.sl (Ty.sl (Ty.sl (Ty.i .i64)))).at v_a_Values res.2.2, R]) := by
  unfold p_laws_markCocycle at h
  refine Ret.start (fn := Try.f14) Try.func14 rfl 14 rfl rfl ?_
  refine W.seq (W.region ?_)
  refine WL.box hS0 rfl (cs := [v_a_Orders, (Value.int .i64 a_Modulus), v_a_Values]) rfl rfl ?_
  intro b1 wd2 hS3 he4 hx5
  replace hS3 : St w0 wd2 [(Ty.sl (Ty.i .i64)).at v_a_Orders a_Orders, (Ty.sl (Ty.sl (Ty.sl (Ty.i .i64)))).at v_a_Values a_Values, R, bx b1 [v_a_Orders, (Value.int .i64 a_Modulus), v_a_Values]] := hS3
  refine WL.val (Value.int .i64 (0 : Int)) _ (op_assign rfl) rfl ?_
  refine WL.nil ?_
  show W _ _ _ _ _ _
  refine W.seq (W.region ?_)
  refine WL.val (Value.pointer (some ⟨b1, 0, none⟩)) _ (op_fieldAddr fd_30_0 rfl) rfl ?_
  refine WL.val v_a_Orders _ (op_load one_22 rfl (BoxAt.cell (St.boxAt hS3 3 rfl) rfl)) rfl ?_
  refine WL.val (Value.int .i64 k1) _ (op_move rfl) rfl ?_
  obtain ⟨x6, hx7, h⟩ := bs h
  have hS8 := St.fold [(Ty.sl (Ty.i .i64)).at v_a_Orders a_Orders] [(Ty.sl (Ty.sl (Ty.sl (Ty.i .i64)))).at v_a_Values a_Values, R, bx b1 [v_a_Orders, (Value.int .i64 a_Modulus), v_a_Values]] (St.pick hS3 [0, 1, 2, 3] rfl)
  refine WL.call _ (op_call fn_28 (args2 rfl rfl)) (c_laws_markInt64S hS8 r_k1 hx7) rfl ?_
  rintro _ wd11 ⟨rfl, hr12, hS9⟩
  have hS10 := St.pick (St.unfold [(Ty.sl (Ty.i .i64)).at v_a_Orders x6.2] [(Ty.sl (Ty.sl (Ty.sl (Ty.i .i64)))).at v_a_Values a_Values, R, bx b1 [v_a_Orders, (Value.int .i64 a_Modulus), v_a_Values]] hS9) [0, 1, 2, 3] rfl
  replace hS10 : St w0 wd11 [(Ty.sl (Ty.i .i64)).at v_a_Orders x6.2, (Ty.sl (Ty.sl (Ty.sl (Ty.i .i64)))).at v_a_Values a_Values, R, bx b1 [v_a_Orders, (Value.int .i64 a_Modulus), v_a_Values]] := hS10
  refine WL.val (Value.int .i64 x6.1) _ (op_assign rfl) rfl ?_
  refine WL.nil ?_
  show W _ _ _ _ _ _
  refine W.seq (W.region ?_)
  refine WL.val (Value.pointer (some ⟨b1, 2, none⟩)) _ (op_fieldAddr fd_30_2 rfl) rfl ?_
  refine WL.val v_a_Values _ (op_load one_23 rfl (BoxAt.cell (St.boxAt hS10 3 rfl) rfl)) rfl ?_
  refine WL.val (Value.int .i64 x6.1) _ (op_move rfl) rfl ?_
  obtain ⟨x13, hx14, h⟩ := bs h
  have hS15 := St.fold [(Ty.sl (Ty.sl (Ty.sl (Ty.i .i64)))).at v_a_Values a_Values] [(Ty.sl (Ty.i .i64)).at v_a_Orders x6.2, R, bx b1 [v_a_Orders, (Value.int .i64 a_Modulus), v_a_Values]] (St.pick hS10 [1, 0, 2, 3] rfl)
  refine WL.call _ (op_call fn_45 (args2 rfl rfl)) (c_laws_markInt64SSS hS15 hr12 hx14) rfl ?_
  rintro _ wd18 ⟨rfl, hr19, hS16⟩
  have hS17 := St.pick (St.unfold [(Ty.sl (Ty.sl (Ty.sl (Ty.i .i64)))).at v_a_Values x13.2] [(Ty.sl (Ty.i .i64)).at v_a_Orders x6.2, R, bx b1 [v_a_Orders, (Value.int .i64 a_Modulus), v_a_Values]] hS16) [1, 0, 2, 3] rfl
  replace hS17 : St w0 wd18 [(Ty.sl (Ty.i .i64)).at v_a_Orders x6.2, (Ty.sl (Ty.sl (Ty.sl (Ty.i .i64)))).at v_a_Values x13.2, R, bx b1 [v_a_Orders, (Value.int .i64 a_Modulus), v_a_Values]] := hS17
  refine WL.val (Value.int .i64 x13.1) _ (op_assign rfl) rfl ?_
  refine WL.nil ?_
  show W _ _ _ _ _ _
  refine W.seq (W.region ?_)
  refine WL.val (Value.int .i64 x13.1) _ (op_move rfl) rfl ?_
  refine WL.val (Value.int .i64 x13.1) _ (op_assign rfl) rfl ?_
  refine WL.nil ?_
  show W _ _ _ _ _ _
  refine W.ret ?_
  obtain rfl := Option.some.inj h
  show FinP _ _ _ _ _ _ _
  exact FinP.ret _ (res1 rfl rfl) ⟨rfl, hr19, (St.pick hS17 [0, 1, 2] rfl)⟩

theorem c_laws_heldInt64S {w : World} {a : (List Int)} {v_a : Value} {k1 : Int} (r_a : (Ty.sl (Ty.i .i64)).rep w v_a a) (r_k1 : InR .i64 k1) {res : Int} (h : p_laws_heldInt64S a k1  = some res) :
    Ret Try.prog 46 #[v_a, (Value.int .i64 k1)] w (fun v w' => v = Value.int .i64 res ∧ InR .i64 res ∧ Ext w w') := by
  unfold p_laws_heldInt64S at h
  have hS0 : St w w [] := St.start w
  refine Ret.start (fn := Try.f46) Try.func46 rfl 21 rfl rfl ?_
  refine W.seq (W.region ?_)
  refine WL.val (Value.int .i64 (0 : Int)) _ (op_assign rfl) rfl ?_
  refine WL.nil ?_
  show W _ _ _ _ _ _
  refine W.seq (W.seq (W.region ?_))
  refine WL.val (Value.int .i64 (0 : Int)) _ (op_assign rfl) rfl ?_
  refine WL.nil ?_
  show W _ _ _ _ _ _
  obtain ⟨res1, hres2, h⟩ := bs h
  refine W.blockLoop (fun fq wq => ∃ s, res1 = Res.fin s ∧ fq 1 = Value.int .i64 s ∧ InR .i64 s ∧ St w wq []) ?_ ?_
  · refine W.forN (fun k (s : Int) fq wq => fq 0 = v_a ∧ fq 1 = Value.int .i64 s ∧ InR .i64 s ∧ fq 5 = Value.int .i64 (k : Int) ∧ InR .i64 (k : Int) ∧ St w wq []) hres2 ⟨rfl, rfl, r_k1, rfl, (inR_i64.2 (show (-9223372036854775808 : Int) ≤ 0 ∧ (0 : Int) ≤ 9223372036854775807 from by decide)), hS0⟩ ?_ ?_
    · intro k3 x4 ct5 f6 wd7 hk8 hb9 hI10 hbrk11 hret12
      replace hI10 : f6 0 = v_a ∧ f6 1 = Value.int .i64 x4 ∧ InR .i64 x4 ∧ f6 5 = Value.int .i64 (k3 : Int) ∧ InR .i64 (k3 : Int) ∧ St w wd7 [] := hI10
      replace hb9 : p_laws_heldInt64S_L1 a k3 x4 = some ct5 := hb9
      unfold p_laws_heldInt64S_L1 at hb9
      obtain ⟨hf13, hf14, hr15, hf16, hr17, hS18⟩ := hI10
      refine W.seq (W.seq (W.region ?_))
      refine WL.val (Value.int .i64 (k3 : Int)) _ (op_move hf16) rfl ?_
      refine WL.val v_a _ (op_move hf13) rfl ?_
      have hr19 := inR_len (Ty.lift _ hS18.ext r_a)
      refine WL.val (Value.int .i64 ((a).length : Int)) _ (op_lenL sl_22 (Ty.lift _ hS18.ext r_a) rfl) rfl ?_
      refine WL.val (Value.bool (decide ((k3 : Int) < ((a).length : Int)))) _ (op_lss rfl rfl) rfl ?_
      have hl20 : (k3 : Int) < ((a).length : Int) := by omega
      refine WL.nil ?_
      show W _ _ _ _ _ _
      refine W.condT (decide ((k3 : Int) < ((a).length : Int))) rfl (decide_eq_true hl20) ?_
      refine W.skip ?_
      show W _ _ _ _ _ _
      refine W.seq ?_
      refine W.block ?_
      refine W.seq (W.seq (W.region ?_))
      refine WL.val v_a _ (op_move hf13) rfl ?_
      refine WL.val (Value.int .i64 (k3 : Int)) _ (op_move hf16) rfl ?_
      obtain ⟨x22, hx25, hb9⟩ := bs hb9
      obtain ⟨ha23, hb24, hx25⟩ := idx_some hx25
      refine WL.val (Value.pointer (some (elA v_a ((k3 : Int)).toNat))) _ (op_idx sl_22 (Ty.lift _ hS18.ext r_a) rfl rfl ha23 hb24) rfl ?_
      obtain ⟨u26, hc27, hr28⟩ := repSl.el r_a hx25
      obtain ⟨rfl, hr28⟩ := hr28
      refine WL.val (Value.int .i64 x22) _ (op_load one_2 rfl (Ext.cell hS18.ext hc27)) rfl ?_
      refine WL.val (Value.int .i64 x4) _ (op_move hf14) rfl ?_
      refine WL.val (Value.bool (x22 != x4)) _ (op_neq rfl rfl) rfl ?_
      refine WL.nil ?_
      show W _ _ _ _ _ _
      refine W.cond (x22 != x4) rfl (fun hc29 => ?_) (fun hc29 => ?_)
      · replace hb9 := ip hb9 hc29
        refine W.seq (W.region ?_)
        refine WL.val (Value.int .i64 (-1 : Int)) _ (op_assign rfl) rfl ?_
        refine WL.nil ?_
        show W _ _ _ _ _ _
        refine W.ret ?_
        obtain rfl := Option.some.inj hb9
        obtain rfl := hret12 _ rfl
        replace h := onRes_ret h
        obtain rfl := Option.some.inj h
        show FinP _ _ _ _ _ _ _
        exact FinP.ret _ (res1 rfl rfl) ⟨rfl, (inR_i64.2 (show (-9223372036854775808 : Int) ≤ -1 ∧ (-1 : Int) ≤ 9223372036854775807 from by decide)), hS18.ext⟩
      · replace hb9 := inegb hb9 hc29
        refine W.skip ?_
        show W _ _ _ _ _ _
        refine W.region ?_
        refine WL.val (Value.int .i64 x4) _ (op_move hf14) rfl ?_
        refine WL.val (Value.int .i64 (w64 (x4 + (1 : Int)))) _ (op_add rfl rfl) rfl ?_
        refine WL.val (Value.int .i64 (w64 (x4 + (1 : Int)))) _ (op_assign rfl) rfl ?_
        refine WL.nil ?_
        show W _ _ _ _ _ _
        refine W.region ?_
        refine WL.val (Value.int .i64 (k3 : Int)) _ (op_move hf16) rfl ?_
        refine WL.val (Value.int .i64 (w64 ((k3 : Int) + (1 : Int)))) _ (op_add rfl rfl) rfl ?_
        refine WL.val (Value.int .i64 (w64 ((k3 : Int) + (1 : Int)))) _ (op_assign rfl) rfl ?_
        refine WL.nil ?_
        obtain rfl := Option.some.inj hb9
        show ∃ s, _ = Ctl.next s ∧ _
        exact ⟨_, rfl, hf13, rfl, (inR_wrap _ _), (ctr_next hl20 hr19), (ctr_rng hl20 hr19), hS18⟩
    · intro x37 f32 wd33 hs34 hI35
      replace hI35 : f32 0 = v_a ∧ f32 1 = Value.int .i64 x37 ∧ InR .i64 x37 ∧ f32 5 = Value.int .i64 (((a).length : Nat) : Int) ∧ InR .i64 (((a).length : Nat) : Int) ∧ St w wd33 [] := hI35
      obtain ⟨hf38, hf39, hr40, hf41, hr42, hS43⟩ := hI35
      refine W.seq (W.seq (W.region ?_))
      refine WL.val (Value.int .i64 (((a).length : Nat) : Int)) _ (op_move hf41) rfl ?_
      refine WL.val v_a _ (op_move hf38) rfl ?_
      have hr44 := inR_len (Ty.lift _ hS43.ext r_a)
      refine WL.val (Value.int .i64 ((a).length : Int)) _ (op_lenL sl_22 (Ty.lift _ hS43.ext r_a) rfl) rfl ?_
      refine WL.val (Value.bool (decide ((((a).length : Nat) : Int) < ((a).length : Int)))) _ (op_lss rfl rfl) rfl ?_
      have hl45 : ¬ (((a).length : Nat) : Int) < ((a).length : Int) := by omega
      refine WL.nil ?_
      show W _ _ _ _ _ _
      refine W.condF (decide ((((a).length : Nat) : Int) < ((a).length : Int))) rfl (decide_eq_false hl45) ?_
      refine W.exit ?_
      show _ = _ ∧ _
      exact ⟨rfl, _, hs34, hf39, hr40, hS43⟩
  · rintro f46 wd47 ⟨x50, rfl, hq48⟩
    replace h := onRes_fin h
    replace hq48 : f46 1 = Value.int .i64 x50 ∧ InR .i64 x50 ∧ St w wd47 [] := hq48
    obtain ⟨hf51, hr52, hS53⟩ := hq48
    show W _ _ _ _ _ _
    refine W.seq (W.region ?_)
    refine WL.val (Value.int .i64 x50) _ (op_move hf51) rfl ?_
    refine WL.val (Value.int .i64 x50) _ (op_assign rfl) rfl ?_
    refine WL.nil ?_
    show W _ _ _ _ _ _
    refine W.ret ?_
    obtain rfl := Option.some.inj h
    show FinP _ _ _ _ _ _ _
    exact FinP.ret _ (res1 rfl rfl) ⟨rfl, hr52, hS53.ext⟩

theorem c_laws_heldInt64SS {w : World} {a : (List (List Int))} {v_a : Value} {k1 : Int} (r_a : (Ty.sl (Ty.sl (Ty.i .i64))).rep w v_a a) (r_k1 : InR .i64 k1) {res : Int} (h : p_laws_heldInt64SS a k1  = some res) :
    Ret Try.prog 16 #[v_a, (Value.int .i64 k1)] w (fun v w' => v = Value.int .i64 res ∧ InR .i64 res ∧ Ext w w') := by
  unfold p_laws_heldInt64SS at h
  have hS0 : St w w [] := St.start w
  refine Ret.start (fn := Try.f16) Try.func16 rfl 21 rfl rfl ?_
  refine W.seq (W.region ?_)
  refine WL.val (Value.int .i64 (0 : Int)) _ (op_assign rfl) rfl ?_
  refine WL.nil ?_
  show W _ _ _ _ _ _
  refine W.seq (W.seq (W.region ?_))
  refine WL.val (Value.int .i64 (0 : Int)) _ (op_assign rfl) rfl ?_
  refine WL.nil ?_
  show W _ _ _ _ _ _
  obtain ⟨res1, hres2, h⟩ := bs h
  refine W.blockLoop (fun fq wq => ∃ s, res1 = Res.fin s ∧ fq 1 = Value.int .i64 s ∧ InR .i64 s ∧ St w wq []) ?_ ?_
  · refine W.forN (fun k (s : Int) fq wq => fq 0 = v_a ∧ fq 1 = Value.int .i64 s ∧ InR .i64 s ∧ fq 5 = Value.int .i64 (k : Int) ∧ InR .i64 (k : Int) ∧ St w wq []) hres2 ⟨rfl, rfl, r_k1, rfl, (inR_i64.2 (show (-9223372036854775808 : Int) ≤ 0 ∧ (0 : Int) ≤ 9223372036854775807 from by decide)), hS0⟩ ?_ ?_
    · intro k3 x4 ct5 f6 wd7 hk8 hb9 hI10 hbrk11 hret12
      replace hI10 : f6 0 = v_a ∧ f6 1 = Value.int .i64 x4 ∧ InR .i64 x4 ∧ f6 5 = Value.int .i64 (k3 : Int) ∧ InR .i64 (k3 : Int) ∧ St w wd7 [] := hI10
      replace hb9 : p_laws_heldInt64SS_L1 a k3 x4 = some ct5 := hb9
      unfold p_laws_heldInt64SS_L1 at hb9
      obtain ⟨hf13, hf14, hr15, hf16, hr17, hS18⟩ := hI10
      refine W.seq (W.seq (W.region ?_))
      refine WL.val (Value.int .i64 (k3 : Int)) _ (op_move hf16) rfl ?_
      refine WL.val v_a _ (op_move hf13) rfl ?_
      have hr19 := inR_len (Ty.lift _ hS18.ext r_a)
      refine WL.val (Value.int .i64 ((a).length : Int)) _ (op_lenL sl_27 (Ty.lift _ hS18.ext r_a) rfl) rfl ?_
      refine WL.val (Value.bool (decide ((k3 : Int) < ((a).length : Int)))) _ (op_lss rfl rfl) rfl ?_
      have hl20 : (k3 : Int) < ((a).length : Int) := by omega
      refine WL.nil ?_
      show W _ _ _ _ _ _
      refine W.condT (decide ((k3 : Int) < ((a).length : Int))) rfl (decide_eq_true hl20) ?_
      refine W.skip ?_
      show W _ _ _ _ _ _
      refine W.seq ?_
      refine W.block ?_
      refine W.seq (W.region ?_)
      refine WL.val v_a _ (op_move hf13) rfl ?_
      refine WL.val (Value.int .i64 (k3 : Int)) _ (op_move hf16) rfl ?_
      obtain ⟨x22, hx25, hb9⟩ := bs hb9
      obtain ⟨ha23, hb24, hx25⟩ := idx_some hx25
      refine WL.val (Value.pointer (some (elA v_a ((k3 : Int)).toNat))) _ (op_idx sl_27 (Ty.lift _ hS18.ext r_a) rfl rfl ha23 hb24) rfl ?_
      obtain ⟨u26, hc27, hr28⟩ := repSl.el r_a hx25
      refine WL.val u26 _ (op_load one_22 rfl (Ext.cell hS18.ext hc27)) rfl ?_
      refine WL.val (Value.int .i64 x4) _ (op_move hf14) rfl ?_
      obtain ⟨x29, hx30, hb9⟩ := bs hb9
      refine WL.call _ (op_call fn_46 (args2 rfl rfl)) (c_laws_heldInt64S (Ty.lift _ hS18.ext hr28) hr15 hx30) rfl ?_
      rintro _ wd32 ⟨rfl, hr31, he33⟩
      have hS35 := St.extend hS18 he33
      replace hS35 : St w wd32 [] := hS35
      refine WL.val (Value.int .i64 x29) _ (op_assign rfl) rfl ?_
      refine WL.nil ?_
      show W _ _ _ _ _ _
      refine W.seq (W.region ?_)
      refine WL.val (Value.int .i64 x29) _ (op_move rfl) rfl ?_
      refine WL.val (Value.bool (decide (x29 < (0 : Int)))) _ (op_lss rfl rfl) rfl ?_
      refine WL.nil ?_
      show W _ _ _ _ _ _
      refine W.cond (decide (x29 < (0 : Int))) rfl (fun hc36 => ?_) (fun hc36 => ?_)
      · replace hb9 := ip hb9 hc36
        refine W.seq (W.region ?_)
        refine WL.val (Value.int .i64 (-1 : Int)) _ (op_assign rfl) rfl ?_
        refine WL.nil ?_
        show W _ _ _ _ _ _
        refine W.ret ?_
        obtain rfl := Option.some.inj hb9
        obtain rfl := hret12 _ rfl
        replace h := onRes_ret h
        obtain rfl := Option.some.inj h
        show FinP _ _ _ _ _ _ _
        exact FinP.ret _ (res1 rfl rfl) ⟨rfl, (inR_i64.2 (show (-9223372036854775808 : Int) ≤ -1 ∧ (-1 : Int) ≤ 9223372036854775807 from by decide)), hS35.ext⟩
      · replace hb9 := inegb hb9 hc36
        refine W.skip ?_
        show W _ _ _ _ _ _
        refine W.region ?_
        refine WL.val (Value.int .i64 (k3 : Int)) _ (op_move hf16) rfl ?_
        refine WL.val (Value.int .i64 (w64 ((k3 : Int) + (1 : Int)))) _ (op_add rfl rfl) rfl ?_
        refine WL.val (Value.int .i64 (w64 ((k3 : Int) + (1 : Int)))) _ (op_assign rfl) rfl ?_
        refine WL.nil ?_
        obtain rfl := Option.some.inj hb9
        show ∃ s, _ = Ctl.next s ∧ _
        exact ⟨_, rfl, hf13, rfl, hr31, (ctr_next hl20 hr19), (ctr_rng hl20 hr19), hS35⟩
    · intro x44 f39 wd40 hs41 hI42
      replace hI42 : f39 0 = v_a ∧ f39 1 = Value.int .i64 x44 ∧ InR .i64 x44 ∧ f39 5 = Value.int .i64 (((a).length : Nat) : Int) ∧ InR .i64 (((a).length : Nat) : Int) ∧ St w wd40 [] := hI42
      obtain ⟨hf45, hf46, hr47, hf48, hr49, hS50⟩ := hI42
      refine W.seq (W.seq (W.region ?_))
      refine WL.val (Value.int .i64 (((a).length : Nat) : Int)) _ (op_move hf48) rfl ?_
      refine WL.val v_a _ (op_move hf45) rfl ?_
      have hr51 := inR_len (Ty.lift _ hS50.ext r_a)
      refine WL.val (Value.int .i64 ((a).length : Int)) _ (op_lenL sl_27 (Ty.lift _ hS50.ext r_a) rfl) rfl ?_
      refine WL.val (Value.bool (decide ((((a).length : Nat) : Int) < ((a).length : Int)))) _ (op_lss rfl rfl) rfl ?_
      have hl52 : ¬ (((a).length : Nat) : Int) < ((a).length : Int) := by omega
      refine WL.nil ?_
      show W _ _ _ _ _ _
      refine W.condF (decide ((((a).length : Nat) : Int) < ((a).length : Int))) rfl (decide_eq_false hl52) ?_
      refine W.exit ?_
      show _ = _ ∧ _
      exact ⟨rfl, _, hs41, hf46, hr47, hS50⟩
  · rintro f53 wd54 ⟨x57, rfl, hq55⟩
    replace h := onRes_fin h
    replace hq55 : f53 1 = Value.int .i64 x57 ∧ InR .i64 x57 ∧ St w wd54 [] := hq55
    obtain ⟨hf58, hr59, hS60⟩ := hq55
    show W _ _ _ _ _ _
    refine W.seq (W.region ?_)
    refine WL.val (Value.int .i64 x57) _ (op_move hf58) rfl ?_
    refine WL.val (Value.int .i64 x57) _ (op_assign rfl) rfl ?_
    refine WL.nil ?_
    show W _ _ _ _ _ _
    refine W.ret ?_
    obtain rfl := Option.some.inj h
    show FinP _ _ _ _ _ _ _
    exact FinP.ret _ (res1 rfl rfl) ⟨rfl, hr59, hS60.ext⟩

theorem c_laws_FnExactSlantOf {w : World} {aC_Orders : (List Int)} {v_aC_Orders : Value} {aC_Modulus : Int} {aC_Values : (List (List (List Int)))} {v_aC_Values : Value} {aX : Int} (r_aC_Orders : (Ty.sl (Ty.i .i64)).rep w v_aC_Orders aC_Orders) (r_aC_Modulus : InR .i64 aC_Modulus) (r_aC_Values : (Ty.sl (Ty.sl (Ty.sl (Ty.i .i64)))).rep w v_aC_Values aC_Values) (r_aX : InR .i64 aX) {res : Bool} (h : p_laws_FnExactSlantOf aC_Orders aC_Modulus aC_Values aX  = some res) :
    Ret Try.prog 3 #[(Value.agg #[v_aC_Orders, (Value.int .i64 aC_Modulus), v_aC_Values]), (Value.int .i64 aX)] w (fun v w' => v = Value.bool res ∧ Ext w w') := by
  unfold p_laws_FnExactSlantOf at h
  have hS0 : St w w [] := St.start w
  refine Ret.start (fn := Try.f3) Try.func3 rfl 101 rfl rfl ?_
  refine W.seq (W.region ?_)
  refine WL.box hS0 rfl (cs := [v_aC_Orders, (Value.int .i64 aC_Modulus), v_aC_Values]) rfl rfl ?_
  intro b1 wd2 hS3 he4 hx5
  replace hS3 : St w wd2 [bx b1 [v_aC_Orders, (Value.int .i64 aC_Modulus), v_aC_Values]] := hS3
  have hx6 := St.boxAt hS3 0 rfl
  have hE7 : Ext w wd2 := hS3.ext
  have hS8 : St wd2 wd2 [] := St.start wd2
  refine WL.val (Value.bool false) _ (op_assign rfl) rfl ?_
  refine WL.nil ?_
  show W _ _ _ _ _ _
  refine W.seq (W.region ?_)
  refine WL.val (Value.int .i64 (1048576 : Int)) _ (op_assign rfl) rfl ?_
  refine WL.nil ?_
  show W _ _ _ _ _ _
  refine W.seq (W.region ?_)
  refine WL.val (Value.agg #[v_aC_Orders, (Value.int .i64 aC_Modulus), v_aC_Values]) _ (op_loadBox st_25 rfl (BoxAt.lift hS8.ext hx6) rfl rfl) rfl ?_
  refine WL.val (Value.int .i64 (1048576 : Int)) _ (op_move rfl) rfl ?_
  obtain ⟨x9, hx10, h⟩ := bs h
  refine WL.call _ (op_call fn_8 (args2 rfl rfl)) (c_laws_szCocycle (Ty.lift _ (Ext.trans hE7 hS8.ext) r_aC_Orders) r_aC_Modulus (Ty.lift _ (Ext.trans hE7 hS8.ext) r_aC_Values) (inR_i64.2 (show (-9223372036854775808 : Int) ≤ 1048576 ∧ (1048576 : Int) ≤ 9223372036854775807 from by decide)) hx10) rfl ?_
  rintro _ wd12 ⟨rfl, hr11, he13⟩
  have hS15 := St.extend hS8 he13
  replace hS15 : St wd2 wd12 [] := hS15
  refine WL.val (Value.int .i64 x9) _ (op_assign rfl) rfl ?_
  refine WL.nil ?_
  show W _ _ _ _ _ _
  refine W.seq (W.seq (W.region ?_))
  refine WL.val (Value.int .i64 x9) _ (op_move rfl) rfl ?_
  refine WL.val (Value.bool (decide (x9 < (0 : Int)))) _ (op_lss rfl rfl) rfl ?_
  refine WL.nil ?_
  show W _ _ _ _ _ _
  refine W.cond (decide (x9 < (0 : Int))) rfl (fun hc16 => ?_) (fun hc16 => ?_)
  · replace h := ip h hc16
    refine W.seq (W.region ?_)
    refine WL.val (Value.bool true) _ (op_assign rfl) rfl ?_
    refine WL.nil ?_
    show W _ _ _ _ _ _
    refine W.ret ?_
    obtain rfl := Option.some.inj h
    show FinP _ _ _ _ _ _ _
    exact FinP.ret _ (res1 rfl rfl) ⟨rfl, (Ext.trans hE7 hS15.ext)⟩
  · replace h := inegb h hc16
    refine W.skip ?_
    show W _ _ _ _ _ _
    refine W.seq (W.region ?_)
    refine WL.val (Value.agg #[v_aC_Orders, (Value.int .i64 aC_Modulus), v_aC_Values]) _ (op_loadBox st_25 rfl (BoxAt.lift hS15.ext hx6) rfl rfl) rfl ?_
    obtain ⟨x18, hx19, h⟩ := bs h
    refine WL.call _ (op_call fn_10 (args1 rfl)) (c_laws_toCocycle (Ty.lift _ (Ext.trans hE7 hS15.ext) r_aC_Orders) r_aC_Modulus (Ty.lift _ (Ext.trans hE7 hS15.ext) r_aC_Values) hx19) rfl ?_
    rintro _ wd23 ⟨u20, u22, rfl, hr21, he24, hs25⟩
    have hS26 := St.join hS15 he24 hs25
    replace hS26 : St wd2 wd23 [(Ty.sl (Ty.i .i64)).at u20 x18.1, (Ty.sl (Ty.sl (Ty.sl (Ty.i .i64)))).at u22 x18.2.2] := hS26
    have hb27 := St.rep (t := (Ty.sl (Ty.i .i64))) hS26 0 rfl
    have hb28 := St.rep (t := (Ty.sl (Ty.sl (Ty.sl (Ty.i .i64))))) hS26 1 rfl
    have hE29 : Ext w wd23 := (Ext.trans hE7 hS26.ext)
    have hE30 : Ext wd2 wd23 := hS26.ext
    have hS31 : St wd23 wd23 [] := St.start wd23
    refine WL.val (Value.int .i64 aX) _ (op_move rfl) rfl ?_
    obtain ⟨x32, hx33, h⟩ := bs h
    refine WL.call _ (op_call fn_9 (args2 rfl rfl)) (c_spec_SlantOf (Ty.lift _ hS31.ext hb27) hr21 (Ty.lift _ hS31.ext hb28) r_aX hx33) rfl ?_
    rintro _ wd36 ⟨u34, rfl, hr35, he37, hs38⟩
    have hS39 := St.join hS31 he37 hs38
    replace hS39 : St wd23 wd36 [(Ty.sl (Ty.sl (Ty.i .i64))).at u34 x32.1] := hS39
    have hb40 := St.rep (t := (Ty.sl (Ty.sl (Ty.i .i64)))) hS39 0 rfl
    have hE41 : Ext w wd36 := (Ext.trans hE29 hS39.ext)
    have hE42 : Ext wd2 wd36 := (Ext.trans hE30 hS39.ext)
    have hE43 : Ext wd23 wd36 := hS39.ext
    have hS44 : St wd36 wd36 [] := St.start wd36
    refine WL.val (Value.tuple #[u34, (Value.int .i64 x32.2)]) _ (op_move rfl) rfl ?_
    refine WL.val u34 _ (op_extract rfl rfl) rfl ?_
    refine WL.val (Value.int .i64 x32.2) _ (op_extract rfl rfl) rfl ?_
    refine WL.val u34 _ (op_assign rfl) rfl ?_
    refine WL.val (Value.int .i64 x32.2) _ (op_assign rfl) rfl ?_
    refine WL.nil ?_
    show W _ _ _ _ _ _
    refine W.seq (W.region ?_)
    refine WL.val (Value.agg #[v_aC_Orders, (Value.int .i64 aC_Modulus), v_aC_Values]) _ (op_loadBox st_25 rfl (BoxAt.lift (Ext.trans hE42 hS44.ext) hx6) rfl rfl) rfl ?_
    obtain ⟨x45, hx46, h⟩ := bs h
    refine WL.call _ (op_call fn_10 (args1 rfl)) (c_laws_toCocycle (Ty.lift _ (Ext.trans hE41 hS44.ext) r_aC_Orders) r_aC_Modulus (Ty.lift _ (Ext.trans hE41 hS44.ext) r_aC_Values) hx46) rfl ?_
    rintro _ wd50 ⟨u47, u49, rfl, hr48, he51, hs52⟩
    have hS53 := St.join hS44 he51 hs52
    replace hS53 : St wd36 wd50 [(Ty.sl (Ty.i .i64)).at u47 x45.1, (Ty.sl (Ty.sl (Ty.sl (Ty.i .i64)))).at u49 x45.2.2] := hS53
    refine WL.alloc hS53 ze_30 (cs := [(Value.slice none 0 0), (Value.int .i64 (0 : Int)), (Value.slice none 0 0)]) rfl rfl ?_
    intro b54 wd55 hS56 he57
    replace hS56 : St wd36 wd55 [(Ty.sl (Ty.i .i64)).at u47 x45.1, (Ty.sl (Ty.sl (Ty.sl (Ty.i .i64)))).at u49 x45.2.2, bx b54 [(Value.slice none 0 0), (Value.int .i64 (0 : Int)), (Value.slice none 0 0)]] := hS56
    refine WL.storeBox [u47, (Value.int .i64 x45.2.1), u49] hS56 (k := 2) rfl rfl rfl (us := [u47, (Value.int .i64 x45.2.1), u49]) rfl sz_30 rfl rfl (all_rep (St.rep (t := (Ty.sl (Ty.i .i64))) hS56 0 rfl) (all_cons rfl (all_rep (St.rep (t := (Ty.sl (Ty.sl (Ty.sl (Ty.i .i64))))) hS56 1 rfl) all_nil))) rfl ?_
    intro wd58 hS59
    replace hS59 : St wd36 wd58 [(Ty.sl (Ty.i .i64)).at u47 x45.1, (Ty.sl (Ty.sl (Ty.sl (Ty.i .i64)))).at u49 x45.2.2, bx b54 [u47, (Value.int .i64 x45.2.1), u49]] := hS59
    refine WL.nil ?_
    show W _ _ _ _ _ _
    refine W.seq (W.region ?_)
    refine WL.val (Value.agg #[u47, (Value.int .i64 x45.2.1), u49]) _ (op_loadBox st_30 rfl (St.boxAt hS59 2 rfl) rfl rfl) rfl ?_
    refine WL.val (Value.int .i64 aX) _ (op_move rfl) rfl ?_
    obtain ⟨x60, hx61, h⟩ := bs h
    refine WL.call _ (op_call fn_11 (args2 rfl rfl)) (c_impl_SlantOf (St.rep (t := (Ty.sl (Ty.i .i64))) hS59 0 rfl) hr48 (St.rep (t := (Ty.sl (Ty.sl (Ty.sl (Ty.i .i64))))) hS59 1 rfl) r_aX hx61) rfl ?_
    rintro _ wd64 ⟨u62, rfl, hr63, he65, hs66⟩
    have hS67 := St.join hS59 he65 hs66
    replace hS67 : St wd36 wd64 [(Ty.sl (Ty.i .i64)).at u47 x45.1, (Ty.sl (Ty.sl (Ty.sl (Ty.i .i64)))).at u49 x45.2.2, bx b54 [u47, (Value.int .i64 x45.2.1), u49], (Ty.sl (Ty.sl (Ty.i .i64))).at u62 x60.1] := hS67
    refine WL.val (Value.tuple #[u62, (Value.int .i64 x60.2)]) _ (op_move rfl) rfl ?_
    refine WL.val u62 _ (op_extract rfl rfl) rfl ?_
    refine WL.val (Value.int .i64 x60.2) _ (op_extract rfl rfl) rfl ?_
    refine WL.val u62 _ (op_assign rfl) rfl ?_
    refine WL.val (Value.int .i64 x60.2) _ (op_assign rfl) rfl ?_
    refine WL.nil ?_
    show W _ _ _ _ _ _
    refine W.seq (W.seq (W.region ?_))
    refine WL.val u62 _ (op_move rfl) rfl ?_
    refine WL.val u34 _ (op_move rfl) rfl ?_
    obtain ⟨x68, hx69, h⟩ := bs h
    refine WL.call _ (op_call fn_12 (args2 rfl rfl)) (c_laws_eqInt64SS (St.rep (t := (Ty.sl (Ty.sl (Ty.i .i64)))) hS67 3 rfl) (Ty.lift _ hS67.ext hb40) hx69) rfl ?_
    rintro _ wd70 ⟨rfl, he71⟩
    have hS73 := St.extend hS67 he71
    replace hS73 : St wd36 wd70 [(Ty.sl (Ty.i .i64)).at u47 x45.1, (Ty.sl (Ty.sl (Ty.sl (Ty.i .i64)))).at u49 x45.2.2, bx b54 [u47, (Value.int .i64 x45.2.1), u49], (Ty.sl (Ty.sl (Ty.i .i64))).at u62 x60.1] := hS73
    refine WL.val (Value.bool (!x68)) _ (op_not rfl) rfl ?_
    refine WL.val (Value.bool (!x68)) _ (op_move rfl) rfl ?_
    refine WL.cut 4 (fun fq wq => fq 1 = (Value.int .i64 aX) ∧ fq 2 = (Value.pointer (some ⟨b1, 0, none⟩)) ∧ fq 6 = u34 ∧ fq 7 = (Value.int .i64 x32.2) ∧ fq 8 = (Value.pointer (some ⟨b54, 0, none⟩)) ∧ fq 9 = u62 ∧ fq 10 = (Value.int .i64 x60.2) ∧ fq 44 = (Value.bool ((!x68) || (x60.2 != x32.2))) ∧ St wd36 wq [(Ty.sl (Ty.i .i64)).at u47 x45.1, (Ty.sl (Ty.sl (Ty.sl (Ty.i .i64)))).at u49 x45.2.2, bx b54 [u47, (Value.int .i64 x45.2.1), u49], (Ty.sl (Ty.sl (Ty.i .i64))).at u62 x60.1]) ?_ ?_
    · rcases Bool.eq_false_or_eq_true (!x68) with hc74 | hc74
      · refine WL.gskip rfl (bool_of rfl hc74) rfl ?_
        refine WL.gskip rfl (bool_of rfl hc74) rfl ?_
        refine WL.gskip rfl (bool_of rfl hc74) rfl ?_
        refine WL.val (Value.bool true) _ (op_pick_t (evb_of rfl hc74) rfl) rfl ?_
        refine WL.nil ?_
        exact ⟨rfl, rfl, rfl, rfl, rfl, rfl, rfl, rfl, (orT hc74), hS73⟩
      · refine WL.grun rfl (bool_of rfl hc74) ?_
        refine WL.val (Value.int .i64 x60.2) _ (op_move rfl) rfl ?_
        refine WL.grun rfl (bool_of rfl hc74) ?_
        refine WL.val (Value.int .i64 x32.2) _ (op_move rfl) rfl ?_
        refine WL.grun rfl (bool_of rfl hc74) ?_
        refine WL.val (Value.bool (x60.2 != x32.2)) _ (op_neq rfl rfl) rfl ?_
        refine WL.val (Value.bool (x60.2 != x32.2)) _ (op_pick_f (evb_of rfl hc74) rfl) rfl ?_
        refine WL.nil ?_
        exact ⟨rfl, rfl, rfl, rfl, rfl, rfl, rfl, rfl, (orF hc74), hS73⟩
    · intro f75 wd76 hq77
      obtain ⟨hf78, hf79, hf80, hf81, hf82, hf83, hf84, hf85, hS86⟩ := hq77
      refine WL.nil ?_
      show W _ _ _ _ _ _
      refine W.cond ((!x68) || (x60.2 != x32.2)) hf85 (fun hc87 => ?_) (fun hc87 => ?_)
      · replace h := ip h hc87
        refine W.seq (W.region ?_)
        refine WL.val (Value.bool false) _ (op_assign rfl) rfl ?_
        refine WL.nil ?_
        show W _ _ _ _ _ _
        refine W.ret ?_
        obtain rfl := Option.some.inj h
        show FinP _ _ _ _ _ _ _
        exact FinP.ret _ (res1 rfl rfl) ⟨rfl, (Ext.trans hE41 hS86.ext)⟩
      · replace h := inegb h hc87
        refine W.skip ?_
        show W _ _ _ _ _ _
        refine W.seq (W.seq ?_)
        obtain ⟨x114, hx115, h⟩ := bs h
        refine W.drawR mixo 3 [] [fun _ v S w' => v = (Value.agg #[u47, (Value.int .i64 x45.2.1), u49]) ∧ InR .i64 x45.2.1, fun _ v S w' => v = (Value.agg #[v_aC_Orders, (Value.int .i64 aC_Modulus), v_aC_Values]) ∧ InR .i64 aC_Modulus, fun _ v S w' => ∃ (uu0 : Value) (uu1 : Value), v = (Value.agg #[uu0, (Value.int .i64 x114.2.1), uu1]) ∧ InR .i64 x114.2.1 ∧ SepS S w' [(Ty.sl (Ty.i .i64)).at uu0 x114.1, (Ty.sl (Ty.sl (Ty.sl (Ty.i .i64)))).at uu1 x114.2.2]] (by kernel_rfl) (by kernel_rfl) ⟨⟨fun _ _ _ _ _ he ⟨h0, h1⟩ => ⟨h0, h1⟩, fun _ _ _ _ _ _ h => h⟩, ⟨fun _ _ _ _ _ he ⟨h0, h1⟩ => ⟨h0, h1⟩, fun _ _ _ _ _ _ h => h⟩, ⟨fun _ _ _ _ _ he ⟨uu0, uu1, h0, h1, r0⟩ => ⟨uu0, uu1, h0, h1, SepS.extend he r0⟩, fun _ _ _ _ _ _ h => h⟩, trivial⟩ ⟨?_, ?_, ?_, trivial⟩ ?_
        · refine ObX.op rfl ?_
          intro f89 wd90 he91 hout92 hphi93
          have hS94 : St wd36 wd90 [(Ty.sl (Ty.i .i64)).at u47 x45.1, (Ty.sl (Ty.sl (Ty.sl (Ty.i .i64)))).at u49 x45.2.2, bx b54 [u47, (Value.int .i64 x45.2.1), u49], (Ty.sl (Ty.sl (Ty.i .i64))).at u62 x60.1] := St.extend hS86 he91
          have e95 : f89 8 = (Value.pointer (some ⟨b54, 0, none⟩)) := (hout92 8 rfl).trans hf82
          exact OpX.val (Value.agg #[u47, (Value.int .i64 x45.2.1), u49]) wd90 rfl (op_loadBox st_30 e95 (St.boxAt hS94 2 rfl) rfl rfl) (Ext.refl _) ⟨rfl, hr48⟩
        · refine ObX.op rfl ?_
          intro f96 wd97 he98 hout99 hphi100
          have hS101 : St wd36 wd97 [(Ty.sl (Ty.i .i64)).at u47 x45.1, (Ty.sl (Ty.sl (Ty.sl (Ty.i .i64)))).at u49 x45.2.2, bx b54 [u47, (Value.int .i64 x45.2.1), u49], (Ty.sl (Ty.sl (Ty.i .i64))).at u62 x60.1] := St.extend hS86 he98
          have e102 : f96 2 = (Value.pointer (some ⟨b1, 0, none⟩)) := (hout99 2 rfl).trans hf79
          exact OpX.val (Value.agg #[v_aC_Orders, (Value.int .i64 aC_Modulus), v_aC_Values]) wd97 rfl (op_loadBox st_25 e102 (BoxAt.lift (Ext.trans hE42 hS101.ext) hx6) rfl rfl) (Ext.refl _) ⟨rfl, r_aC_Modulus⟩
        · refine ObX.op rfl ?_
          intro f103 wd104 he105 hout106 hphi107
          have hS108 : St wd36 wd104 [(Ty.sl (Ty.i .i64)).at u47 x45.1, (Ty.sl (Ty.sl (Ty.sl (Ty.i .i64)))).at u49 x45.2.2, bx b54 [u47, (Value.int .i64 x45.2.1), u49], (Ty.sl (Ty.sl (Ty.i .i64))).at u62 x60.1] := St.extend hS86 he105
          obtain ⟨S109, hS110, hf111⟩ := hphi107 1 46 _ rfl rfl rfl
          obtain ⟨e112, hr113⟩ := hf111
          refine OpX.call rfl (op_call fn_10 (args1 e112)) (Ret.mono (c_laws_toCocycle (Ty.lift _ (Ext.trans hE41 hS108.ext) r_aC_Orders) hr113 (Ty.lift _ (Ext.trans hE41 hS108.ext) r_aC_Values) hx115) ?_)
          rintro _ wd119 ⟨u116, u118, rfl, hr117, he120, hs121⟩
          exact ⟨he120, _, newS _ _, ⟨u116, u118, rfl, hr117, (Sep.new hs121)⟩⟩
        · intro f122 wd123 Ss124 he125 hout126 hSn127 hSd128 hphi129
          show WL _ _ _ _ _ _ _
          have hS130 : St wd36 wd123 [(Ty.sl (Ty.i .i64)).at u47 x45.1, (Ty.sl (Ty.sl (Ty.sl (Ty.i .i64)))).at u49 x45.2.2, bx b54 [u47, (Value.int .i64 x45.2.1), u49], (Ty.sl (Ty.sl (Ty.i .i64))).at u62 x60.1] := St.extend hS86 he125
          obtain ⟨e131, hr132⟩ := hphi129 0 45 _ (by decide) rfl rfl
          obtain ⟨u134, u136, e133, hr135, e133s⟩ := hphi129 2 47 _ (by decide) rfl rfl
          have e137 : f122 1 = (Value.int .i64 aX) := (hout126 1 rfl).trans hf78
          have e138 : f122 2 = (Value.pointer (some ⟨b1, 0, none⟩)) := (hout126 2 rfl).trans hf79
          have e139 : f122 6 = u34 := (hout126 6 rfl).trans hf80
          have e140 : f122 7 = (Value.int .i64 x32.2) := (hout126 7 rfl).trans hf81
          have e141 : f122 8 = (Value.pointer (some ⟨b54, 0, none⟩)) := (hout126 8 rfl).trans hf82
          have e142 : f122 9 = u62 := (hout126 9 rfl).trans hf83
          have e143 : f122 10 = (Value.int .i64 x60.2) := (hout126 10 rfl).trans hf84
          have hS144 := St.joinS hS86 he125 hSn127 (SepS.consS hSd128 rfl e133s SepS.nilS)
          replace hS144 : St wd36 wd123 [(Ty.sl (Ty.i .i64)).at u47 x45.1, (Ty.sl (Ty.sl (Ty.sl (Ty.i .i64)))).at u49 x45.2.2, bx b54 [u47, (Value.int .i64 x45.2.1), u49], (Ty.sl (Ty.sl (Ty.i .i64))).at u62 x60.1, (Ty.sl (Ty.i .i64)).at u134 x114.1, (Ty.sl (Ty.sl (Ty.sl (Ty.i .i64)))).at u136 x114.2.2] := hS144
          obtain ⟨x145, hx146, h⟩ := bs h
          refine WL.call _ (op_call fn_13 (args2 e131 e133)) (c_laws_eqCocycle (St.rep (t := (Ty.sl (Ty.i .i64))) hS144 0 rfl) hr132 (St.rep (t := (Ty.sl (Ty.sl (Ty.sl (Ty.i .i64))))) hS144 1 rfl) (St.rep (t := (Ty.sl (Ty.i .i64))) hS144 4 rfl) hr135 (St.rep (t := (Ty.sl (Ty.sl (Ty.sl (Ty.i .i64))))) hS144 5 rfl) hx146) rfl ?_
          rintro _ wd147 ⟨rfl, he148⟩
          have hS150 := St.extend hS144 he148
          replace hS150 : St wd36 wd147 [(Ty.sl (Ty.i .i64)).at u47 x45.1, (Ty.sl (Ty.sl (Ty.sl (Ty.i .i64)))).at u49 x45.2.2, bx b54 [u47, (Value.int .i64 x45.2.1), u49], (Ty.sl (Ty.sl (Ty.i .i64))).at u62 x60.1, (Ty.sl (Ty.i .i64)).at u134 x114.1, (Ty.sl (Ty.sl (Ty.sl (Ty.i .i64)))).at u136 x114.2.2] := hS150
          refine WL.val (Value.bool (!x145)) _ (op_not rfl) rfl ?_
          refine WL.nil ?_
          show W _ _ _ _ _ _
          refine W.cond (!x145) rfl (fun hc151 => ?_) (fun hc151 => ?_)
          · replace h := ip h hc151
            refine W.seq (W.region ?_)
            refine WL.val (Value.bool false) _ (op_assign rfl) rfl ?_
            refine WL.nil ?_
            show W _ _ _ _ _ _
            refine W.ret ?_
            obtain rfl := Option.some.inj h
            show FinP _ _ _ _ _ _ _
            exact FinP.ret _ (res1 rfl rfl) ⟨rfl, (Ext.trans hE41 hS150.ext)⟩
          · replace h := inegb h hc151
            refine W.skip ?_
            show W _ _ _ _ _ _
            refine W.seq (W.region ?_)
            refine WL.val (Value.int .i64 (1 : Int)) _ (op_assign rfl) rfl ?_
            refine WL.nil ?_
            show W _ _ _ _ _ _
            refine W.seq (W.region ?_)
            refine WL.val (Value.agg #[u47, (Value.int .i64 x45.2.1), u49]) _ (op_loadBox st_30 e141 (St.boxAt hS150 2 rfl) rfl rfl) rfl ?_
            refine WL.val (Value.int .i64 (1 : Int)) _ (op_move rfl) rfl ?_
            obtain ⟨x153, hx154, h⟩ := bs h
            have hS155 := St.fold [(Ty.sl (Ty.i .i64)).at u47 x45.1, (Ty.sl (Ty.sl (Ty.sl (Ty.i .i64)))).at u49 x45.2.2] [bx b54 [u47, (Value.int .i64 x45.2.1), u49], (Ty.sl (Ty.sl (Ty.i .i64))).at u62 x60.1, (Ty.sl (Ty.i .i64)).at u134 x114.1, (Ty.sl (Ty.sl (Ty.sl (Ty.i .i64)))).at u136 x114.2.2] (St.pick hS150 [0, 1, 2, 3, 4, 5] rfl)
            refine WL.call _ (op_call fn_14 (args2 rfl rfl)) (c_laws_markCocycle hS155 hr48 (inR_i64.2 (show (-9223372036854775808 : Int) ≤ 1 ∧ (1 : Int) ≤ 9223372036854775807 from by decide)) hx154) rfl ?_
            rintro _ wd158 ⟨rfl, hr159, hS156⟩
            have hS157 := St.pick (St.unfold [(Ty.sl (Ty.i .i64)).at u47 x153.2.1, (Ty.sl (Ty.sl (Ty.sl (Ty.i .i64)))).at u49 x153.2.2] [bx b54 [u47, (Value.int .i64 x45.2.1), u49], (Ty.sl (Ty.sl (Ty.i .i64))).at u62 x60.1, (Ty.sl (Ty.i .i64)).at u134 x114.1, (Ty.sl (Ty.sl (Ty.sl (Ty.i .i64)))).at u136 x114.2.2] hS156) [0, 1, 2, 3, 4, 5] rfl
            replace hS157 : St wd36 wd158 [(Ty.sl (Ty.i .i64)).at u47 x153.2.1, (Ty.sl (Ty.sl (Ty.sl (Ty.i .i64)))).at u49 x153.2.2, bx b54 [u47, (Value.int .i64 x45.2.1), u49], (Ty.sl (Ty.sl (Ty.i .i64))).at u62 x60.1, (Ty.sl (Ty.i .i64)).at u134 x114.1, (Ty.sl (Ty.sl (Ty.sl (Ty.i .i64)))).at u136 x114.2.2] := hS157
            refine WL.val (Value.int .i64 x153.1) _ (op_assign rfl) rfl ?_
            refine WL.nil ?_
            show W _ _ _ _ _ _
            refine W.seq (W.seq (W.region ?_))
            refine WL.val (Value.int .i64 x153.1) _ (op_move rfl) rfl ?_
            refine WL.val (Value.bool (decide (x153.1 < (0 : Int)))) _ (op_lss rfl rfl) rfl ?_
            refine WL.val (Value.bool (decide (x153.1 < (0 : Int)))) _ (op_move rfl) rfl ?_
            obtain ⟨x161, hj162, h⟩ := bs h
            refine WL.cut 5 (fun fq wq => fq 1 = (Value.int .i64 aX) ∧ fq 2 = (Value.pointer (some ⟨b1, 0, none⟩)) ∧ fq 6 = u34 ∧ fq 7 = (Value.int .i64 x32.2) ∧ fq 9 = u62 ∧ fq 10 = (Value.int .i64 x60.2) ∧ fq 60 = Value.bool x161 ∧ St wd36 wq [(Ty.sl (Ty.sl (Ty.i .i64))).at u62 x60.1]) ?_ ?_
            · rcases Bool.eq_false_or_eq_true (decide (x153.1 < (0 : Int))) with hc160 | hc160
              · replace hj162 := ip hj162 hc160
                refine WL.gskip rfl (bool_of rfl hc160) rfl ?_
                refine WL.gskip rfl (bool_of rfl hc160) rfl ?_
                refine WL.gskip rfl (bool_of rfl hc160) rfl ?_
                refine WL.gskip rfl (bool_of rfl hc160) rfl ?_
                refine WL.val (Value.bool true) _ (op_pick_t (evb_of rfl hc160) rfl) rfl ?_
                refine WL.nil ?_
                obtain rfl := Option.some.inj hj162
                exact ⟨rfl, e137, e138, e139, e140, e142, e143, rfl, (St.pick hS157 [3] rfl)⟩
              · replace hj162 := inegb hj162 hc160
                refine WL.grun rfl (bool_of rfl hc160) ?_
                refine WL.val u62 _ (op_move e142) rfl ?_
                refine WL.grun rfl (bool_of rfl hc160) ?_
                refine WL.val u34 _ (op_move e139) rfl ?_
                refine WL.grun rfl (bool_of rfl hc160) ?_
                obtain ⟨x166, hx167, hj162⟩ := bs hj162
                refine WL.call _ (op_call fn_12 (args2 rfl rfl)) (c_laws_eqInt64SS (St.rep (t := (Ty.sl (Ty.sl (Ty.i .i64)))) hS157 3 rfl) (Ty.lift _ hS157.ext hb40) hx167) rfl ?_
                rintro _ wd168 ⟨rfl, he169⟩
                have hS171 := St.extend hS157 he169
                replace hS171 : St wd36 wd168 [(Ty.sl (Ty.i .i64)).at u47 x153.2.1, (Ty.sl (Ty.sl (Ty.sl (Ty.i .i64)))).at u49 x153.2.2, bx b54 [u47, (Value.int .i64 x45.2.1), u49], (Ty.sl (Ty.sl (Ty.i .i64))).at u62 x60.1, (Ty.sl (Ty.i .i64)).at u134 x114.1, (Ty.sl (Ty.sl (Ty.sl (Ty.i .i64)))).at u136 x114.2.2] := hS171
                refine WL.grun rfl (bool_of rfl hc160) ?_
                refine WL.val (Value.bool (!x166)) _ (op_not rfl) rfl ?_
                refine WL.val (Value.bool (!x166)) _ (op_pick_f (evb_of rfl hc160) rfl) rfl ?_
                refine WL.nil ?_
                obtain rfl := Option.some.inj hj162
                exact ⟨rfl, e137, e138, e139, e140, e142, e143, rfl, (St.pick hS171 [3] rfl)⟩
            · intro f163 wd164 hq165
              obtain ⟨hf172, hf173, hf174, hf175, hf176, hf177, hf178, hS179⟩ := hq165
              refine WL.val (Value.bool x161) _ (op_move hf178) rfl ?_
              refine WL.cut 4 (fun fq wq => fq 1 = (Value.int .i64 aX) ∧ fq 2 = (Value.pointer (some ⟨b1, 0, none⟩)) ∧ fq 6 = u34 ∧ fq 7 = (Value.int .i64 x32.2) ∧ fq 9 = u62 ∧ fq 65 = (Value.bool (x161 || (x60.2 != x32.2))) ∧ St wd36 wq [(Ty.sl (Ty.sl (Ty.i .i64))).at u62 x60.1]) ?_ ?_
              · rcases Bool.eq_false_or_eq_true x161 with hc180 | hc180
                · refine WL.gskip rfl (bool_of rfl hc180) rfl ?_
                  refine WL.gskip rfl (bool_of rfl hc180) rfl ?_
                  refine WL.gskip rfl (bool_of rfl hc180) rfl ?_
                  refine WL.val (Value.bool true) _ (op_pick_t (evb_of rfl hc180) rfl) rfl ?_
                  refine WL.nil ?_
                  exact ⟨rfl, hf172, hf173, hf174, hf175, hf176, (orT hc180), hS179⟩
                · refine WL.grun rfl (bool_of rfl hc180) ?_
                  refine WL.val (Value.int .i64 x60.2) _ (op_move hf177) rfl ?_
                  refine WL.grun rfl (bool_of rfl hc180) ?_
                  refine WL.val (Value.int .i64 x32.2) _ (op_move hf175) rfl ?_
                  refine WL.grun rfl (bool_of rfl hc180) ?_
                  refine WL.val (Value.bool (x60.2 != x32.2)) _ (op_neq rfl rfl) rfl ?_
                  refine WL.val (Value.bool (x60.2 != x32.2)) _ (op_pick_f (evb_of rfl hc180) rfl) rfl ?_
                  refine WL.nil ?_
                  exact ⟨rfl, hf172, hf173, hf174, hf175, hf176, (orF hc180), hS179⟩
              · intro f181 wd182 hq183
                obtain ⟨hf184, hf185, hf186, hf187, hf188, hf189, hS190⟩ := hq183
                refine WL.nil ?_
                show W _ _ _ _ _ _
                refine W.cond (x161 || (x60.2 != x32.2)) hf189 (fun hc191 => ?_) (fun hc191 => ?_)
                · replace h := ip h hc191
                  refine W.seq (W.region ?_)
                  refine WL.val (Value.bool false) _ (op_assign rfl) rfl ?_
                  refine WL.nil ?_
                  show W _ _ _ _ _ _
                  refine W.ret ?_
                  obtain rfl := Option.some.inj h
                  show FinP _ _ _ _ _ _ _
                  exact FinP.ret _ (res1 rfl rfl) ⟨rfl, (Ext.trans hE41 hS190.ext)⟩
                · replace h := inegb h hc191
                  refine W.skip ?_
                  show W _ _ _ _ _ _
                  refine W.seq (W.region ?_)
                  refine WL.val (Value.int .i64 (1 : Int)) _ (op_assign rfl) rfl ?_
                  refine WL.nil ?_
                  show W _ _ _ _ _ _
                  refine W.seq (W.region ?_)
                  refine WL.val u62 _ (op_move hf188) rfl ?_
                  refine WL.val (Value.int .i64 (1 : Int)) _ (op_move rfl) rfl ?_
                  obtain ⟨x193, hx194, h⟩ := bs h
                  have hS195 := St.fold [(Ty.sl (Ty.sl (Ty.i .i64))).at u62 x60.1] [] (St.pick hS190 [0] rfl)
                  refine WL.call _ (op_call fn_15 (args2 rfl rfl)) (c_laws_markInt64SS hS195 (inR_i64.2 (show (-9223372036854775808 : Int) ≤ 1 ∧ (1 : Int) ≤ 9223372036854775807 from by decide)) hx194) rfl ?_
                  rintro _ wd198 ⟨rfl, hr199, hS196⟩
                  have hS197 := St.pick (St.unfold [(Ty.sl (Ty.sl (Ty.i .i64))).at u62 x193.2] [] hS196) [0] rfl
                  replace hS197 : St wd36 wd198 [(Ty.sl (Ty.sl (Ty.i .i64))).at u62 x193.2] := hS197
                  refine WL.val (Value.int .i64 x193.1) _ (op_assign rfl) rfl ?_
                  refine WL.nil ?_
                  show W _ _ _ _ _ _
                  refine W.seq (W.region ?_)
                  refine WL.val (Value.int .i64 (1 : Int)) _ (op_assign rfl) rfl ?_
                  refine WL.nil ?_
                  show W _ _ _ _ _ _
                  refine W.seq (W.region ?_)
                  refine WL.val u62 _ (op_move hf188) rfl ?_
                  refine WL.val (Value.int .i64 (1 : Int)) _ (op_move rfl) rfl ?_
                  obtain ⟨x200, hx201, h⟩ := bs h
                  refine WL.call _ (op_call fn_16 (args2 rfl rfl)) (c_laws_heldInt64SS (St.rep (t := (Ty.sl (Ty.sl (Ty.i .i64)))) hS197 0 rfl) (inR_i64.2 (show (-9223372036854775808 : Int) ≤ 1 ∧ (1 : Int) ≤ 9223372036854775807 from by decide)) hx201) rfl ?_
                  rintro _ wd203 ⟨rfl, hr202, he204⟩
                  have hS206 := St.extend hS197 he204
                  replace hS206 : St wd36 wd203 [(Ty.sl (Ty.sl (Ty.i .i64))).at u62 x193.2] := hS206
                  refine WL.val (Value.int .i64 x200) _ (op_assign rfl) rfl ?_
                  refine WL.nil ?_
                  show W _ _ _ _ _ _
                  refine W.seq (W.seq (W.region ?_))
                  refine WL.val (Value.int .i64 x200) _ (op_move rfl) rfl ?_
                  refine WL.val (Value.bool (decide (x200 < (0 : Int)))) _ (op_lss rfl rfl) rfl ?_
                  refine WL.nil ?_
                  show W _ _ _ _ _ _
                  refine W.cond (decide (x200 < (0 : Int))) rfl (fun hc207 => ?_) (fun hc207 => ?_)
                  · replace h := ip h hc207
                    refine W.seq (W.region ?_)
                    refine WL.val (Value.bool false) _ (op_assign rfl) rfl ?_
                    refine WL.nil ?_
                    show W _ _ _ _ _ _
                    refine W.ret ?_
                    obtain rfl := Option.some.inj h
                    show FinP _ _ _ _ _ _ _
                    exact FinP.ret _ (res1 rfl rfl) ⟨rfl, (Ext.trans hE41 hS206.ext)⟩
                  · replace h := inegb h hc207
                    refine W.skip ?_
                    show W _ _ _ _ _ _
                    refine W.seq (W.seq (W.region ?_))
                    refine WL.val (Value.int .i64 x200) _ (op_move rfl) rfl ?_
                    refine WL.val (Value.int .i64 x193.1) _ (op_move rfl) rfl ?_
                    refine WL.val (Value.bool (x200 != x193.1)) _ (op_neq rfl rfl) rfl ?_
                    refine WL.nil ?_
                    show W _ _ _ _ _ _
                    refine W.cond (x200 != x193.1) rfl (fun hc209 => ?_) (fun hc209 => ?_)
                    · replace h := ip h hc209
                      refine W.seq (W.region ?_)
                      refine WL.val (Value.bool false) _ (op_assign rfl) rfl ?_
                      refine WL.nil ?_
                      show W _ _ _ _ _ _
                      refine W.ret ?_
                      obtain rfl := Option.some.inj h
                      show FinP _ _ _ _ _ _ _
                      exact FinP.ret _ (res1 rfl rfl) ⟨rfl, (Ext.trans hE41 hS206.ext)⟩
                    · replace h := inegb h hc209
                      refine W.skip ?_
                      show W _ _ _ _ _ _
                      refine W.seq (W.region ?_)
                      refine WL.val (Value.agg #[v_aC_Orders, (Value.int .i64 aC_Modulus), v_aC_Values]) _ (op_loadBox st_25 hf185 (BoxAt.lift (Ext.trans hE42 hS206.ext) hx6) rfl rfl) rfl ?_
                      obtain ⟨x211, hx212, h⟩ := bs h
                      refine WL.call _ (op_call fn_10 (args1 rfl)) (c_laws_toCocycle (Ty.lift _ (Ext.trans hE41 hS206.ext) r_aC_Orders) r_aC_Modulus (Ty.lift _ (Ext.trans hE41 hS206.ext) r_aC_Values) hx212) rfl ?_
                      rintro _ wd216 ⟨u213, u215, rfl, hr214, he217, hs218⟩
                      have hS219 := St.join hS206 he217 hs218
                      replace hS219 : St wd36 wd216 [(Ty.sl (Ty.sl (Ty.i .i64))).at u62 x193.2, (Ty.sl (Ty.i .i64)).at u213 x211.1, (Ty.sl (Ty.sl (Ty.sl (Ty.i .i64)))).at u215 x211.2.2] := hS219
                      refine WL.val (Value.int .i64 aX) _ (op_move hf184) rfl ?_
                      obtain ⟨x220, hx221, h⟩ := bs h
                      refine WL.call _ (op_call fn_11 (args2 rfl rfl)) (c_impl_SlantOf (St.rep (t := (Ty.sl (Ty.i .i64))) hS219 1 rfl) hr214 (St.rep (t := (Ty.sl (Ty.sl (Ty.sl (Ty.i .i64))))) hS219 2 rfl) r_aX hx221) rfl ?_
                      rintro _ wd224 ⟨u222, rfl, hr223, he225, hs226⟩
                      have hS227 := St.join hS219 he225 hs226
                      replace hS227 : St wd36 wd224 [(Ty.sl (Ty.sl (Ty.i .i64))).at u62 x193.2, (Ty.sl (Ty.i .i64)).at u213 x211.1, (Ty.sl (Ty.sl (Ty.sl (Ty.i .i64)))).at u215 x211.2.2, (Ty.sl (Ty.sl (Ty.i .i64))).at u222 x220.1] := hS227
                      refine WL.val (Value.tuple #[u222, (Value.int .i64 x220.2)]) _ (op_move rfl) rfl ?_
                      refine WL.val u222 _ (op_extract rfl rfl) rfl ?_
                      refine WL.val (Value.int .i64 x220.2) _ (op_extract rfl rfl) rfl ?_
                      refine WL.val u222 _ (op_assign rfl) rfl ?_
                      refine WL.val (Value.int .i64 x220.2) _ (op_assign rfl) rfl ?_
                      refine WL.nil ?_
                      show W _ _ _ _ _ _
                      refine W.seq (W.seq (W.region ?_))
                      refine WL.val u222 _ (op_move rfl) rfl ?_
                      refine WL.val u34 _ (op_move hf186) rfl ?_
                      obtain ⟨x228, hx229, h⟩ := bs h
                      refine WL.call _ (op_call fn_12 (args2 rfl rfl)) (c_laws_eqInt64SS (St.rep (t := (Ty.sl (Ty.sl (Ty.i .i64)))) hS227 3 rfl) (Ty.lift _ hS227.ext hb40) hx229) rfl ?_
                      rintro _ wd230 ⟨rfl, he231⟩
                      have hS233 := St.extend hS227 he231
                      replace hS233 : St wd36 wd230 [(Ty.sl (Ty.sl (Ty.i .i64))).at u62 x193.2, (Ty.sl (Ty.i .i64)).at u213 x211.1, (Ty.sl (Ty.sl (Ty.sl (Ty.i .i64)))).at u215 x211.2.2, (Ty.sl (Ty.sl (Ty.i .i64))).at u222 x220.1] := hS233
                      refine WL.val (Value.bool (!x228)) _ (op_not rfl) rfl ?_
                      refine WL.val (Value.bool (!x228)) _ (op_move rfl) rfl ?_
                      refine WL.cut 4 (fun fq wq => fq 9 = u62 ∧ fq 12 = (Value.int .i64 x193.1) ∧ fq 92 = (Value.bool ((!x228) || (x220.2 != x32.2))) ∧ St wd36 wq [(Ty.sl (Ty.sl (Ty.i .i64))).at u62 x193.2]) ?_ ?_
                      · rcases Bool.eq_false_or_eq_true (!x228) with hc234 | hc234
                        · refine WL.gskip rfl (bool_of rfl hc234) rfl ?_
                          refine WL.gskip rfl (bool_of rfl hc234) rfl ?_
                          refine WL.gskip rfl (bool_of rfl hc234) rfl ?_
                          refine WL.val (Value.bool true) _ (op_pick_t (evb_of rfl hc234) rfl) rfl ?_
                          refine WL.nil ?_
                          exact ⟨rfl, hf188, rfl, (orT hc234), (St.pick hS233 [0] rfl)⟩
                        · refine WL.grun rfl (bool_of rfl hc234) ?_
                          refine WL.val (Value.int .i64 x220.2) _ (op_move rfl) rfl ?_
                          refine WL.grun rfl (bool_of rfl hc234) ?_
                          refine WL.val (Value.int .i64 x32.2) _ (op_move hf187) rfl ?_
                          refine WL.grun rfl (bool_of rfl hc234) ?_
                          refine WL.val (Value.bool (x220.2 != x32.2)) _ (op_neq rfl rfl) rfl ?_
                          refine WL.val (Value.bool (x220.2 != x32.2)) _ (op_pick_f (evb_of rfl hc234) rfl) rfl ?_
                          refine WL.nil ?_
                          exact ⟨rfl, hf188, rfl, (orF hc234), (St.pick hS233 [0] rfl)⟩
                      · intro f235 wd236 hq237
                        obtain ⟨hf238, hf239, hf240, hS241⟩ := hq237
                        refine WL.nil ?_
                        show W _ _ _ _ _ _
                        refine W.cond ((!x228) || (x220.2 != x32.2)) hf240 (fun hc242 => ?_) (fun hc242 => ?_)
                        · replace h := ip h hc242
                          refine W.seq (W.region ?_)
                          refine WL.val (Value.bool false) _ (op_assign rfl) rfl ?_
                          refine WL.nil ?_
                          show W _ _ _ _ _ _
                          refine W.ret ?_
                          obtain rfl := Option.some.inj h
                          show FinP _ _ _ _ _ _ _
                          exact FinP.ret _ (res1 rfl rfl) ⟨rfl, (Ext.trans hE41 hS241.ext)⟩
                        · replace h := inegb h hc242
                          refine W.skip ?_
                          show W _ _ _ _ _ _
                          refine W.seq (W.region ?_)
                          refine WL.val (Value.int .i64 (1 : Int)) _ (op_assign rfl) rfl ?_
                          refine WL.nil ?_
                          show W _ _ _ _ _ _
                          refine W.seq (W.region ?_)
                          refine WL.val u62 _ (op_move hf238) rfl ?_
                          refine WL.val (Value.int .i64 (1 : Int)) _ (op_move rfl) rfl ?_
                          obtain ⟨x244, hx245, h⟩ := bs h
                          refine WL.call _ (op_call fn_16 (args2 rfl rfl)) (c_laws_heldInt64SS (St.rep (t := (Ty.sl (Ty.sl (Ty.i .i64)))) hS241 0 rfl) (inR_i64.2 (show (-9223372036854775808 : Int) ≤ 1 ∧ (1 : Int) ≤ 9223372036854775807 from by decide)) hx245) rfl ?_
                          rintro _ wd247 ⟨rfl, hr246, he248⟩
                          have hS250 := St.extend hS241 he248
                          replace hS250 : St wd36 wd247 [(Ty.sl (Ty.sl (Ty.i .i64))).at u62 x193.2] := hS250
                          refine WL.val (Value.int .i64 x244) _ (op_assign rfl) rfl ?_
                          refine WL.nil ?_
                          show W _ _ _ _ _ _
                          refine W.seq (W.seq (W.region ?_))
                          refine WL.val (Value.int .i64 x244) _ (op_move rfl) rfl ?_
                          refine WL.val (Value.bool (decide (x244 < (0 : Int)))) _ (op_lss rfl rfl) rfl ?_
                          refine WL.nil ?_
                          show W _ _ _ _ _ _
                          refine W.cond (decide (x244 < (0 : Int))) rfl (fun hc251 => ?_) (fun hc251 => ?_)
                          · replace h := ip h hc251
                            refine W.seq (W.region ?_)
                            refine WL.val (Value.bool false) _ (op_assign rfl) rfl ?_
                            refine WL.nil ?_
                            show W _ _ _ _ _ _
                            refine W.ret ?_
                            obtain rfl := Option.some.inj h
                            show FinP _ _ _ _ _ _ _
                            exact FinP.ret _ (res1 rfl rfl) ⟨rfl, (Ext.trans hE41 hS250.ext)⟩
                          · replace h := inegb h hc251
                            refine W.skip ?_
                            show W _ _ _ _ _ _
                            refine W.seq (W.seq (W.region ?_))
                            refine WL.val (Value.int .i64 x244) _ (op_move rfl) rfl ?_
                            refine WL.val (Value.int .i64 x193.1) _ (op_move hf239) rfl ?_
                            refine WL.val (Value.bool (x244 != x193.1)) _ (op_neq rfl rfl) rfl ?_
                            refine WL.nil ?_
                            show W _ _ _ _ _ _
                            refine W.cond (x244 != x193.1) rfl (fun hc253 => ?_) (fun hc253 => ?_)
                            · replace h := ip h hc253
                              refine W.seq (W.region ?_)
                              refine WL.val (Value.bool false) _ (op_assign rfl) rfl ?_
                              refine WL.nil ?_
                              show W _ _ _ _ _ _
                              refine W.ret ?_
                              obtain rfl := Option.some.inj h
                              show FinP _ _ _ _ _ _ _
                              exact FinP.ret _ (res1 rfl rfl) ⟨rfl, (Ext.trans hE41 hS250.ext)⟩
                            · replace h := inegb h hc253
                              refine W.skip ?_
                              show W _ _ _ _ _ _
                              refine W.seq (W.region ?_)
                              refine WL.val (Value.bool true) _ (op_assign rfl) rfl ?_
                              refine WL.nil ?_
                              show W _ _ _ _ _ _
                              refine W.ret ?_
                              obtain rfl := Option.some.inj h
                              show FinP _ _ _ _ _ _ _
                              exact FinP.ret _ (res1 rfl rfl) ⟨rfl, (Ext.trans hE41 hS250.ext)⟩

end Go.VG
