/- The walks, part 3: each Go function returns what its plain twin returns. No condition beyond what each names. -/
import Derived.Test.YtajalkfoblcaaaaGWalk2
set_option linter.all false
namespace Go.VG
open Go.Proofs
attribute [local irreducible] W WL Sep FinP

theorem c_impl_cocycleBy {w : World} {orders : (List Int)} {v_orders : Value} {m : Int} {number : Int → Int → Int → Option Int} {v_number : Value} (r_orders : (Ty.sl (Ty.i .i64)).rep w v_orders orders) (r_m : InR .i64 m) (r_number : FnT_i_i_i_to_i Try.prog v_number w number) {res : (List Int) × Int × (List (List (List Int)))} (h : p_impl_cocycleBy orders m number  = some res) :
    Ret Try.prog 81 #[v_orders, (Value.int .i64 m), v_number] w (fun v w' => ∃ (u0 : Value) (u2 : Value), v = (Value.agg #[u0, Value.int .i64 res.2.1, u2]) ∧ InR .i64 res.2.1 ∧ Ext w w' ∧ Sep w.heap.size w' [(Ty.sl (Ty.i .i64)).at u0 res.1, (Ty.sl (Ty.sl (Ty.sl (Ty.i .i64)))).at u2 res.2.2]) := by
  unfold p_impl_cocycleBy at h
  have hS0 : St w w [] := St.start w
  have q_number := r_number
  obtain ⟨g_number, fst_number, cap_number, eq_number, ok_number, call_number⟩ := q_number
  subst eq_number
  refine Ret.start (fn := Try.f81) Try.func81 rfl 57 rfl rfl ?_
  refine W.seq (W.region ?_)
  refine WL.alloc hS0 ze_30 (cs := [(Value.slice none 0 0), (Value.int .i64 (0 : Int)), (Value.slice none 0 0)]) rfl rfl ?_
  intro b1 wd2 hS3 he4
  replace hS3 : St w wd2 [bx b1 [(Value.slice none 0 0), (Value.int .i64 (0 : Int)), (Value.slice none 0 0)]] := hS3
  refine WL.nil ?_
  show W _ _ _ _ _ _
  refine W.seq (W.region ?_)
  refine WL.val v_orders _ (op_move rfl) rfl ?_
  obtain ⟨x5, hx6, h⟩ := bs h
  refine WL.call _ (op_call fn_100 (args1 rfl)) (c_slices_Clone_Lint64_int64 (Ty.lift _ hS3.ext r_orders) hx6) rfl ?_
  rintro u7 wd8 ⟨_, rfl, he9, hs10⟩
  have hS11 := St.join hS3 he9 hs10
  replace hS11 : St w wd8 [bx b1 [(Value.slice none 0 0), (Value.int .i64 (0 : Int)), (Value.slice none 0 0)], (Ty.sl (Ty.i .i64)).at u7 x5] := hS11
  refine WL.val (Value.int .i64 m) _ (op_move rfl) rfl ?_
  refine WL.val (Value.agg #[u7, (Value.int .i64 m), (Value.slice none 0 0)]) _ (op_build bd_30 (parts := [(0, u7, [u7]), (1, (Value.int .i64 m), [(Value.int .i64 m)])]) (partsL ⟨rfl, rfl, rfl, rfl, trivial⟩) ⟨(cells_rep (St.rep (t := (Ty.sl (Ty.i .i64))) hS11 1 rfl)), rfl, trivial⟩ rfl) rfl ?_
  refine WL.val v_orders _ (op_move rfl) rfl ?_
  obtain ⟨x12, hx13, h⟩ := bs h
  refine WL.call _ (op_call fn_80 (args1 rfl)) (c_impl_groupSize (Ty.lift _ hS11.ext r_orders) hx13) rfl ?_
  rintro _ wd15 ⟨rfl, hr14, he16⟩
  have hS18 := St.extend hS11 he16
  replace hS18 : St w wd15 [bx b1 [(Value.slice none 0 0), (Value.int .i64 (0 : Int)), (Value.slice none 0 0)], (Ty.sl (Ty.i .i64)).at u7 x5] := hS18
  refine WL.alloc hS18 ze_30 (cs := [(Value.slice none 0 0), (Value.int .i64 (0 : Int)), (Value.slice none 0 0)]) rfl rfl ?_
  intro b19 wd20 hS21 he22
  replace hS21 : St w wd20 [bx b1 [(Value.slice none 0 0), (Value.int .i64 (0 : Int)), (Value.slice none 0 0)], (Ty.sl (Ty.i .i64)).at u7 x5, bx b19 [(Value.slice none 0 0), (Value.int .i64 (0 : Int)), (Value.slice none 0 0)]] := hS21
  have hS25 := St.addNil (Ty.sl (Ty.sl (Ty.i .i64))) hS21
  replace hS25 : St w wd20 [bx b1 [(Value.slice none 0 0), (Value.int .i64 (0 : Int)), (Value.slice none 0 0)], (Ty.sl (Ty.i .i64)).at u7 x5, bx b19 [(Value.slice none 0 0), (Value.int .i64 (0 : Int)), (Value.slice none 0 0)], (Ty.sl (Ty.sl (Ty.sl (Ty.i .i64)))).at (Value.slice none 0 0) ([] : (List (List (List Int))))] := hS25
  refine WL.storeBox [u7, (Value.int .i64 m), (Value.slice none 0 0)] hS25 (k := 2) rfl rfl rfl (us := [u7, (Value.int .i64 m), (Value.slice none 0 0)]) rfl sz_30 rfl rfl (all_rep (St.rep (t := (Ty.sl (Ty.i .i64))) hS25 1 rfl) (all_cons rfl (all_rep (St.rep (t := (Ty.sl (Ty.sl (Ty.sl (Ty.i .i64))))) hS25 3 rfl) all_nil))) rfl ?_
  intro wd23 hS24
  replace hS24 : St w wd23 [bx b1 [(Value.slice none 0 0), (Value.int .i64 (0 : Int)), (Value.slice none 0 0)], (Ty.sl (Ty.i .i64)).at u7 x5, bx b19 [u7, (Value.int .i64 m), (Value.slice none 0 0)], (Ty.sl (Ty.sl (Ty.sl (Ty.i .i64)))).at (Value.slice none 0 0) ([] : (List (List (List Int))))] := hS24
  refine WL.val (Value.int .i64 x12) _ (op_assign rfl) rfl ?_
  refine WL.nil ?_
  show W _ _ _ _ _ _
  refine W.seq (W.seq (W.region ?_))
  refine WL.val (Value.int .i64 x12) _ (op_move rfl) rfl ?_
  refine WL.val (Value.int .i64 (0 : Int)) _ (op_move rfl) rfl ?_
  refine WL.nil ?_
  show W _ _ _ _ _ _
  obtain ⟨res26, hres27, h⟩ := bs h
  refine W.blockLoop (fun fq wq => ∃ s, res26 = Res.fin s ∧ ∃ (uu0 : Value), fq 6 = (Value.pointer (some ⟨b1, 0, none⟩)) ∧ fq 7 = (Value.pointer (some ⟨b19, 0, none⟩)) ∧ St w wq [bx b1 [(Value.slice none 0 0), (Value.int .i64 (0 : Int)), (Value.slice none 0 0)], (Ty.sl (Ty.i .i64)).at u7 x5, bx b19 [u7, (Value.int .i64 m), uu0], (Ty.sl (Ty.sl (Ty.sl (Ty.i .i64)))).at uu0 s]) ?_ ?_
  · refine W.forN (fun k (s : (List (List (List Int)))) fq wq => ∃ (uu0 : Value), fq 2 = (Value.func (.func g_number) fst_number cap_number) ∧ fq 6 = (Value.pointer (some ⟨b1, 0, none⟩)) ∧ fq 7 = (Value.pointer (some ⟨b19, 0, none⟩)) ∧ fq 8 = (Value.int .i64 x12) ∧ fq 19 = (Value.int .i64 x12) ∧ fq 20 = Value.int .i64 (k : Int) ∧ InR .i64 (k : Int) ∧ St w wq [bx b1 [(Value.slice none 0 0), (Value.int .i64 (0 : Int)), (Value.slice none 0 0)], (Ty.sl (Ty.i .i64)).at u7 x5, bx b19 [u7, (Value.int .i64 m), uu0], (Ty.sl (Ty.sl (Ty.sl (Ty.i .i64)))).at uu0 s]) hres27 ⟨(Value.slice none 0 0), rfl, rfl, rfl, rfl, rfl, rfl, (inR_i64.2 (show (-9223372036854775808 : Int) ≤ 0 ∧ (0 : Int) ≤ 9223372036854775807 from by decide)), hS24⟩ ?_ ?_
    · intro k28 x29 ct30 f31 wd32 hk33 hb34 hI35 hbrk36 hret37
      replace hI35 : ∃ (uu0 : Value), f31 2 = (Value.func (.func g_number) fst_number cap_number) ∧ f31 6 = (Value.pointer (some ⟨b1, 0, none⟩)) ∧ f31 7 = (Value.pointer (some ⟨b19, 0, none⟩)) ∧ f31 8 = (Value.int .i64 x12) ∧ f31 19 = (Value.int .i64 x12) ∧ f31 20 = Value.int .i64 (k28 : Int) ∧ InR .i64 (k28 : Int) ∧ St w wd32 [bx b1 [(Value.slice none 0 0), (Value.int .i64 (0 : Int)), (Value.slice none 0 0)], (Ty.sl (Ty.i .i64)).at u7 x5, bx b19 [u7, (Value.int .i64 m), uu0], (Ty.sl (Ty.sl (Ty.sl (Ty.i .i64)))).at uu0 x29] := hI35
      replace hb34 : p_impl_cocycleBy_L1 x12 number x5 m k28 x29 = some ct30 := hb34
      unfold p_impl_cocycleBy_L1 at hb34
      obtain ⟨u38, hf39, hf40, hf41, hf42, hf43, hf44, hr45, hS46⟩ := hI35
      refine W.seq (W.region ?_)
      refine WL.val (Value.bool (decide ((k28 : Int) < x12))) _ (op_lss hf44 hf43) rfl ?_
      have hl47 : (k28 : Int) < x12 := by omega
      refine WL.nil ?_
      show W _ _ _ _ _ _
      refine W.seq ?_
      refine W.condT (decide ((k28 : Int) < x12)) rfl (decide_eq_true hl47) ?_
      refine W.skip ?_
      show W _ _ _ _ _ _
      refine W.seq ?_
      refine W.block ?_
      refine W.seq (W.region ?_)
      refine WL.val (Value.int .i64 (k28 : Int)) _ (op_move hf44) rfl ?_
      refine WL.val (Value.int .i64 (k28 : Int)) _ (op_assign rfl) rfl ?_
      refine WL.nil ?_
      show W _ _ _ _ _ _
      refine W.seq (W.region ?_)
      refine WL.val (Value.int .i64 x12) _ (op_move hf42) rfl ?_
      refine WL.val (Value.int .i64 x12) _ (op_move hf42) rfl ?_
      obtain ⟨x49, hx50, hb34⟩ := bs hb34
      refine WL.call _ (op_call fn_42 (args2 rfl rfl)) (c_impl_zeros hr14 hr14 hx50) rfl ?_
      rintro u51 wd52 ⟨_, rfl, he53, hs54⟩
      have hS55 := St.join hS46 he53 hs54
      replace hS55 : St w wd52 [bx b1 [(Value.slice none 0 0), (Value.int .i64 (0 : Int)), (Value.slice none 0 0)], (Ty.sl (Ty.i .i64)).at u7 x5, bx b19 [u7, (Value.int .i64 m), u38], (Ty.sl (Ty.sl (Ty.sl (Ty.i .i64)))).at u38 x29, (Ty.sl (Ty.sl (Ty.i .i64))).at u51 x49] := hS55
      refine WL.val u51 _ (op_assign rfl) rfl ?_
      refine WL.nil ?_
      show W _ _ _ _ _ _
      refine W.seq (W.seq (W.region ?_))
      refine WL.val (Value.int .i64 x12) _ (op_move hf42) rfl ?_
      refine WL.val (Value.int .i64 (0 : Int)) _ (op_move rfl) rfl ?_
      refine WL.nil ?_
      show W _ _ _ _ _ _
      obtain ⟨res56, hres57, hb34⟩ := bs hb34
      refine W.blockLoop (fun fq wq => ∃ s, res56 = Res.fin s ∧ fq 2 = (Value.func (.func g_number) fst_number cap_number) ∧ fq 6 = (Value.pointer (some ⟨b1, 0, none⟩)) ∧ fq 7 = (Value.pointer (some ⟨b19, 0, none⟩)) ∧ fq 8 = (Value.int .i64 x12) ∧ fq 10 = u51 ∧ fq 19 = (Value.int .i64 x12) ∧ fq 20 = (Value.int .i64 (k28 : Int)) ∧ St w wq [bx b1 [(Value.slice none 0 0), (Value.int .i64 (0 : Int)), (Value.slice none 0 0)], (Ty.sl (Ty.i .i64)).at u7 x5, bx b19 [u7, (Value.int .i64 m), u38], (Ty.sl (Ty.sl (Ty.sl (Ty.i .i64)))).at u38 x29, (Ty.sl (Ty.sl (Ty.i .i64))).at u51 s]) ?_ ?_
      · refine W.forN (fun k (s : (List (List Int))) fq wq => fq 2 = (Value.func (.func g_number) fst_number cap_number) ∧ fq 6 = (Value.pointer (some ⟨b1, 0, none⟩)) ∧ fq 7 = (Value.pointer (some ⟨b19, 0, none⟩)) ∧ fq 8 = (Value.int .i64 x12) ∧ fq 9 = (Value.int .i64 (k28 : Int)) ∧ fq 10 = u51 ∧ fq 19 = (Value.int .i64 x12) ∧ fq 20 = (Value.int .i64 (k28 : Int)) ∧ fq 26 = (Value.int .i64 x12) ∧ fq 27 = Value.int .i64 (k : Int) ∧ InR .i64 (k : Int) ∧ St w wq [bx b1 [(Value.slice none 0 0), (Value.int .i64 (0 : Int)), (Value.slice none 0 0)], (Ty.sl (Ty.i .i64)).at u7 x5, bx b19 [u7, (Value.int .i64 m), u38], (Ty.sl (Ty.sl (Ty.sl (Ty.i .i64)))).at u38 x29, (Ty.sl (Ty.sl (Ty.i .i64))).at u51 s]) hres57 ⟨hf39, hf40, hf41, hf42, rfl, rfl, hf43, hf44, rfl, rfl, (inR_i64.2 (show (-9223372036854775808 : Int) ≤ 0 ∧ (0 : Int) ≤ 9223372036854775807 from by decide)), hS55⟩ ?_ ?_
        · intro k58 x59 ct60 f61 wd62 hk63 hb64 hI65 hbrk66 hret67
          replace hI65 : f61 2 = (Value.func (.func g_number) fst_number cap_number) ∧ f61 6 = (Value.pointer (some ⟨b1, 0, none⟩)) ∧ f61 7 = (Value.pointer (some ⟨b19, 0, none⟩)) ∧ f61 8 = (Value.int .i64 x12) ∧ f61 9 = (Value.int .i64 (k28 : Int)) ∧ f61 10 = u51 ∧ f61 19 = (Value.int .i64 x12) ∧ f61 20 = (Value.int .i64 (k28 : Int)) ∧ f61 26 = (Value.int .i64 x12) ∧ f61 27 = Value.int .i64 (k58 : Int) ∧ InR .i64 (k58 : Int) ∧ St w wd62 [bx b1 [(Value.slice none 0 0), (Value.int .i64 (0 : Int)), (Value.slice none 0 0)], (Ty.sl (Ty.i .i64)).at u7 x5, bx b19 [u7, (Value.int .i64 m), u38], (Ty.sl (Ty.sl (Ty.sl (Ty.i .i64)))).at u38 x29, (Ty.sl (Ty.sl (Ty.i .i64))).at u51 x59] := hI65
          replace hb64 : p_impl_cocycleBy_L2 number k28 x5 m x29 x12 k58 x59 = some ct60 := hb64
          unfold p_impl_cocycleBy_L2 at hb64
          obtain ⟨hf68, hf69, hf70, hf71, hf72, hf73, hf74, hf75, hf76, hf77, hr78, hS79⟩ := hI65
          refine W.seq (W.region ?_)
          refine WL.val (Value.bool (decide ((k58 : Int) < x12))) _ (op_lss hf77 hf76) rfl ?_
          have hl80 : (k58 : Int) < x12 := by omega
          refine WL.nil ?_
          show W _ _ _ _ _ _
          refine W.seq ?_
          refine W.condT (decide ((k58 : Int) < x12)) rfl (decide_eq_true hl80) ?_
          refine W.skip ?_
          show W _ _ _ _ _ _
          refine W.seq ?_
          refine W.block ?_
          refine W.seq (W.region ?_)
          refine WL.val (Value.int .i64 (k58 : Int)) _ (op_move hf77) rfl ?_
          refine WL.val (Value.int .i64 (k58 : Int)) _ (op_assign rfl) rfl ?_
          refine WL.nil ?_
          show W _ _ _ _ _ _
          refine W.seq (W.region ?_)
          refine WL.val (Value.int .i64 x12) _ (op_move hf71) rfl ?_
          refine WL.val (Value.int .i64 (0 : Int)) _ (op_move rfl) rfl ?_
          refine WL.nil ?_
          show W _ _ _ _ _ _
          obtain ⟨res82, hres83, hb64⟩ := bs hb64
          refine W.blockLoop (fun fq wq => ∃ s, res82 = Res.fin s ∧ fq 2 = (Value.func (.func g_number) fst_number cap_number) ∧ fq 6 = (Value.pointer (some ⟨b1, 0, none⟩)) ∧ fq 7 = (Value.pointer (some ⟨b19, 0, none⟩)) ∧ fq 8 = (Value.int .i64 x12) ∧ fq 9 = (Value.int .i64 (k28 : Int)) ∧ fq 10 = u51 ∧ fq 19 = (Value.int .i64 x12) ∧ fq 20 = (Value.int .i64 (k28 : Int)) ∧ fq 26 = (Value.int .i64 x12) ∧ fq 27 = (Value.int .i64 (k58 : Int)) ∧ St w wq [bx b1 [(Value.slice none 0 0), (Value.int .i64 (0 : Int)), (Value.slice none 0 0)], (Ty.sl (Ty.i .i64)).at u7 x5, bx b19 [u7, (Value.int .i64 m), u38], (Ty.sl (Ty.sl (Ty.sl (Ty.i .i64)))).at u38 x29, (Ty.sl (Ty.sl (Ty.i .i64))).at u51 s]) ?_ ?_
          · refine W.forN (fun k (s : (List (List Int))) fq wq => fq 2 = (Value.func (.func g_number) fst_number cap_number) ∧ fq 6 = (Value.pointer (some ⟨b1, 0, none⟩)) ∧ fq 7 = (Value.pointer (some ⟨b19, 0, none⟩)) ∧ fq 8 = (Value.int .i64 x12) ∧ fq 9 = (Value.int .i64 (k28 : Int)) ∧ fq 10 = u51 ∧ fq 11 = (Value.int .i64 (k58 : Int)) ∧ fq 19 = (Value.int .i64 x12) ∧ fq 20 = (Value.int .i64 (k28 : Int)) ∧ fq 26 = (Value.int .i64 x12) ∧ fq 27 = (Value.int .i64 (k58 : Int)) ∧ fq 30 = (Value.int .i64 x12) ∧ fq 31 = Value.int .i64 (k : Int) ∧ InR .i64 (k : Int) ∧ St w wq [bx b1 [(Value.slice none 0 0), (Value.int .i64 (0 : Int)), (Value.slice none 0 0)], (Ty.sl (Ty.i .i64)).at u7 x5, bx b19 [u7, (Value.int .i64 m), u38], (Ty.sl (Ty.sl (Ty.sl (Ty.i .i64)))).at u38 x29, (Ty.sl (Ty.sl (Ty.i .i64))).at u51 s]) hres83 ⟨hf68, hf69, hf70, hf71, hf72, hf73, rfl, hf74, hf75, hf76, hf77, rfl, rfl, (inR_i64.2 (show (-9223372036854775808 : Int) ≤ 0 ∧ (0 : Int) ≤ 9223372036854775807 from by decide)), hS79⟩ ?_ ?_
            · intro k84 x85 ct86 f87 wd88 hk89 hb90 hI91 hbrk92 hret93
              replace hI91 : f87 2 = (Value.func (.func g_number) fst_number cap_number) ∧ f87 6 = (Value.pointer (some ⟨b1, 0, none⟩)) ∧ f87 7 = (Value.pointer (some ⟨b19, 0, none⟩)) ∧ f87 8 = (Value.int .i64 x12) ∧ f87 9 = (Value.int .i64 (k28 : Int)) ∧ f87 10 = u51 ∧ f87 11 = (Value.int .i64 (k58 : Int)) ∧ f87 19 = (Value.int .i64 x12) ∧ f87 20 = (Value.int .i64 (k28 : Int)) ∧ f87 26 = (Value.int .i64 x12) ∧ f87 27 = (Value.int .i64 (k58 : Int)) ∧ f87 30 = (Value.int .i64 x12) ∧ f87 31 = Value.int .i64 (k84 : Int) ∧ InR .i64 (k84 : Int) ∧ St w wd88 [bx b1 [(Value.slice none 0 0), (Value.int .i64 (0 : Int)), (Value.slice none 0 0)], (Ty.sl (Ty.i .i64)).at u7 x5, bx b19 [u7, (Value.int .i64 m), u38], (Ty.sl (Ty.sl (Ty.sl (Ty.i .i64)))).at u38 x29, (Ty.sl (Ty.sl (Ty.i .i64))).at u51 x85] := hI91
              replace hb90 : p_impl_cocycleBy_L3 k58 number k28 x5 m x29 k84 x85 = some ct86 := hb90
              unfold p_impl_cocycleBy_L3 at hb90
              obtain ⟨hf94, hf95, hf96, hf97, hf98, hf99, hf100, hf101, hf102, hf103, hf104, hf105, hf106, hr107, hS108⟩ := hI91
              refine W.seq (W.region ?_)
              refine WL.val (Value.bool (decide ((k84 : Int) < x12))) _ (op_lss hf106 hf105) rfl ?_
              have hl109 : (k84 : Int) < x12 := by omega
              refine WL.nil ?_
              show W _ _ _ _ _ _
              refine W.seq ?_
              refine W.condT (decide ((k84 : Int) < x12)) rfl (decide_eq_true hl109) ?_
              refine W.skip ?_
              show W _ _ _ _ _ _
              refine W.seq ?_
              refine W.block ?_
              refine W.seq (W.region ?_)
              refine WL.val (Value.int .i64 (k84 : Int)) _ (op_move hf106) rfl ?_
              refine WL.val (Value.int .i64 (k84 : Int)) _ (op_assign rfl) rfl ?_
              refine WL.nil ?_
              show W _ _ _ _ _ _
              obtain ⟨x140, hx143, hb90⟩ := bs hb90
              obtain ⟨ha141, hb142, hx143⟩ := idx_some hx143
              obtain ⟨u154, hc155, hr156⟩ := repSl.el (St.rep (t := (Ty.sl (Ty.sl (Ty.i .i64)))) hS108 4 rfl) hx143
              obtain ⟨x224, hx225, hb90⟩ := bs hb90
              obtain ⟨x245, hx246, hb90⟩ := bs hb90
              refine W.drawR mixo 12 [] [fun _ v _ _ => v = u51, fun _ v _ _ => v = (Value.int .i64 (k58 : Int)) ∧ InR .i64 (k58 : Int), fun _ v _ _ => v = (Value.pointer (some (elA u51 ((k58 : Int)).toNat))), fun _ v _ _ => v = u154, fun _ v _ _ => v = (Value.int .i64 (k84 : Int)) ∧ InR .i64 (k84 : Int), fun _ v S w' => v = (Value.agg #[u7, (Value.int .i64 m), u38]) ∧ InR .i64 m, fun _ v _ _ => v = (Value.func (.func g_number) fst_number cap_number), fun _ v _ _ => v = (Value.int .i64 (k28 : Int)) ∧ InR .i64 (k28 : Int), fun _ v _ _ => v = (Value.int .i64 (k58 : Int)) ∧ InR .i64 (k58 : Int), fun _ v _ _ => v = (Value.int .i64 (k84 : Int)) ∧ InR .i64 (k84 : Int), fun _ v _ _ => v = (Value.int .i64 x224) ∧ InR .i64 x224, fun _ v _ _ => v = (Value.int .i64 x245) ∧ InR .i64 x245] (by kernel_rfl) (by kernel_rfl) ⟨⟨fun _ _ _ _ _ _ h => h, fun _ _ _ _ _ _ h => h⟩, ⟨fun _ _ _ _ _ _ h => h, fun _ _ _ _ _ _ h => h⟩, ⟨fun _ _ _ _ _ _ h => h, fun _ _ _ _ _ _ h => h⟩, ⟨fun _ _ _ _ _ _ h => h, fun _ _ _ _ _ _ h => h⟩, ⟨fun _ _ _ _ _ _ h => h, fun _ _ _ _ _ _ h => h⟩, ⟨fun _ _ _ _ _ he ⟨h0, h1⟩ => ⟨h0, h1⟩, fun _ _ _ _ _ _ h => h⟩, ⟨fun _ _ _ _ _ _ h => h, fun _ _ _ _ _ _ h => h⟩, ⟨fun _ _ _ _ _ _ h => h, fun _ _ _ _ _ _ h => h⟩, ⟨fun _ _ _ _ _ _ h => h, fun _ _ _ _ _ _ h => h⟩, ⟨fun _ _ _ _ _ _ h => h, fun _ _ _ _ _ _ h => h⟩, ⟨fun _ _ _ _ _ _ h => h, fun _ _ _ _ _ _ h => h⟩, ⟨fun _ _ _ _ _ _ h => h, fun _ _ _ _ _ _ h => h⟩, trivial⟩ ⟨?_, ?_, ?_, ?_, ?_, ?_, ?_, ?_, ?_, ?_, ?_, ?_, trivial⟩ ?_
              · refine ObX.op rfl ?_
                intro f111 wd112 he113 hout114 hphi115
                have hS116 : St w wd112 [bx b1 [(Value.slice none 0 0), (Value.int .i64 (0 : Int)), (Value.slice none 0 0)], (Ty.sl (Ty.i .i64)).at u7 x5, bx b19 [u7, (Value.int .i64 m), u38], (Ty.sl (Ty.sl (Ty.sl (Ty.i .i64)))).at u38 x29, (Ty.sl (Ty.sl (Ty.i .i64))).at u51 x85] := St.extend hS108 he113
                have e117 : f111 10 = u51 := (hout114 10 rfl).trans hf99
                exact OpX.val u51 wd112 rfl (op_move e117) (Ext.refl _) rfl
              · refine ObX.op rfl ?_
                intro f118 wd119 he120 hout121 hphi122
                have hS123 : St w wd119 [bx b1 [(Value.slice none 0 0), (Value.int .i64 (0 : Int)), (Value.slice none 0 0)], (Ty.sl (Ty.i .i64)).at u7 x5, bx b19 [u7, (Value.int .i64 m), u38], (Ty.sl (Ty.sl (Ty.sl (Ty.i .i64)))).at u38 x29, (Ty.sl (Ty.sl (Ty.i .i64))).at u51 x85] := St.extend hS108 he120
                have e124 : f118 11 = (Value.int .i64 (k58 : Int)) := (hout121 11 rfl).trans hf100
                exact OpX.val (Value.int .i64 (k58 : Int)) wd119 rfl (op_move e124) (Ext.refl _) ⟨rfl, hr78⟩
              · refine ObX.op rfl ?_
                intro f125 wd126 he127 hout128 hphi129
                have hS130 : St w wd126 [bx b1 [(Value.slice none 0 0), (Value.int .i64 (0 : Int)), (Value.slice none 0 0)], (Ty.sl (Ty.i .i64)).at u7 x5, bx b19 [u7, (Value.int .i64 m), u38], (Ty.sl (Ty.sl (Ty.sl (Ty.i .i64)))).at u38 x29, (Ty.sl (Ty.sl (Ty.i .i64))).at u51 x85] := St.extend hS108 he127
                obtain ⟨S131, hS132, hf133⟩ := hphi129 0 34 _ rfl rfl rfl
                have e134 : f125 34 = u51 := hf133
                obtain ⟨S135, hS136, hf137⟩ := hphi129 1 35 _ rfl rfl rfl
                obtain ⟨e138, hr139⟩ : f125 35 = (Value.int .i64 (k58 : Int)) ∧ InR .i64 (k58 : Int) := hf137
                exact OpX.val (Value.pointer (some (elA u51 ((k58 : Int)).toNat))) wd126 rfl (op_idx sl_27 (St.rep (t := (Ty.sl (Ty.sl (Ty.i .i64)))) hS130 4 rfl) e134 e138 ha141 hb142) (Ext.refl _) rfl
              · refine ObX.op rfl ?_
                intro f144 wd145 he146 hout147 hphi148
                have hS149 : St w wd145 [bx b1 [(Value.slice none 0 0), (Value.int .i64 (0 : Int)), (Value.slice none 0 0)], (Ty.sl (Ty.i .i64)).at u7 x5, bx b19 [u7, (Value.int .i64 m), u38], (Ty.sl (Ty.sl (Ty.sl (Ty.i .i64)))).at u38 x29, (Ty.sl (Ty.sl (Ty.i .i64))).at u51 x85] := St.extend hS108 he146
                obtain ⟨S150, hS151, hf152⟩ := hphi148 2 36 _ rfl rfl rfl
                have e153 : f144 36 = (Value.pointer (some (elA u51 ((k58 : Int)).toNat))) := hf152
                exact OpX.val u154 wd145 rfl (op_load one_22 e153 (Ext.cell he146 hc155)) (Ext.refl _) rfl
              · refine ObX.op rfl ?_
                intro f157 wd158 he159 hout160 hphi161
                have hS162 : St w wd158 [bx b1 [(Value.slice none 0 0), (Value.int .i64 (0 : Int)), (Value.slice none 0 0)], (Ty.sl (Ty.i .i64)).at u7 x5, bx b19 [u7, (Value.int .i64 m), u38], (Ty.sl (Ty.sl (Ty.sl (Ty.i .i64)))).at u38 x29, (Ty.sl (Ty.sl (Ty.i .i64))).at u51 x85] := St.extend hS108 he159
                have e163 : f157 12 = (Value.int .i64 (k84 : Int)) := (hout160 12 rfl).trans rfl
                exact OpX.val (Value.int .i64 (k84 : Int)) wd158 rfl (op_move e163) (Ext.refl _) ⟨rfl, hr107⟩
              · refine ObX.op rfl ?_
                intro f164 wd165 he166 hout167 hphi168
                have hS169 : St w wd165 [bx b1 [(Value.slice none 0 0), (Value.int .i64 (0 : Int)), (Value.slice none 0 0)], (Ty.sl (Ty.i .i64)).at u7 x5, bx b19 [u7, (Value.int .i64 m), u38], (Ty.sl (Ty.sl (Ty.sl (Ty.i .i64)))).at u38 x29, (Ty.sl (Ty.sl (Ty.i .i64))).at u51 x85] := St.extend hS108 he166
                have e170 : f164 7 = (Value.pointer (some ⟨b19, 0, none⟩)) := (hout167 7 rfl).trans hf96
                exact OpX.val (Value.agg #[u7, (Value.int .i64 m), u38]) wd165 rfl (op_loadBox st_30 e170 (St.boxAt hS169 2 rfl) rfl rfl) (Ext.refl _) ⟨rfl, r_m⟩
              · refine ObX.op rfl ?_
                intro f171 wd172 he173 hout174 hphi175
                have hS176 : St w wd172 [bx b1 [(Value.slice none 0 0), (Value.int .i64 (0 : Int)), (Value.slice none 0 0)], (Ty.sl (Ty.i .i64)).at u7 x5, bx b19 [u7, (Value.int .i64 m), u38], (Ty.sl (Ty.sl (Ty.sl (Ty.i .i64)))).at u38 x29, (Ty.sl (Ty.sl (Ty.i .i64))).at u51 x85] := St.extend hS108 he173
                have e177 : f171 2 = (Value.func (.func g_number) fst_number cap_number) := (hout174 2 rfl).trans hf94
                exact OpX.val (Value.func (.func g_number) fst_number cap_number) wd172 rfl (op_move e177) (Ext.refl _) rfl
              · refine ObX.op rfl ?_
                intro f178 wd179 he180 hout181 hphi182
                have hS183 : St w wd179 [bx b1 [(Value.slice none 0 0), (Value.int .i64 (0 : Int)), (Value.slice none 0 0)], (Ty.sl (Ty.i .i64)).at u7 x5, bx b19 [u7, (Value.int .i64 m), u38], (Ty.sl (Ty.sl (Ty.sl (Ty.i .i64)))).at u38 x29, (Ty.sl (Ty.sl (Ty.i .i64))).at u51 x85] := St.extend hS108 he180
                have e184 : f178 9 = (Value.int .i64 (k28 : Int)) := (hout181 9 rfl).trans hf98
                exact OpX.val (Value.int .i64 (k28 : Int)) wd179 rfl (op_move e184) (Ext.refl _) ⟨rfl, hr45⟩
              · refine ObX.op rfl ?_
                intro f185 wd186 he187 hout188 hphi189
                have hS190 : St w wd186 [bx b1 [(Value.slice none 0 0), (Value.int .i64 (0 : Int)), (Value.slice none 0 0)], (Ty.sl (Ty.i .i64)).at u7 x5, bx b19 [u7, (Value.int .i64 m), u38], (Ty.sl (Ty.sl (Ty.sl (Ty.i .i64)))).at u38 x29, (Ty.sl (Ty.sl (Ty.i .i64))).at u51 x85] := St.extend hS108 he187
                have e191 : f185 11 = (Value.int .i64 (k58 : Int)) := (hout188 11 rfl).trans hf100
                exact OpX.val (Value.int .i64 (k58 : Int)) wd186 rfl (op_move e191) (Ext.refl _) ⟨rfl, hr78⟩
              · refine ObX.op rfl ?_
                intro f192 wd193 he194 hout195 hphi196
                have hS197 : St w wd193 [bx b1 [(Value.slice none 0 0), (Value.int .i64 (0 : Int)), (Value.slice none 0 0)], (Ty.sl (Ty.i .i64)).at u7 x5, bx b19 [u7, (Value.int .i64 m), u38], (Ty.sl (Ty.sl (Ty.sl (Ty.i .i64)))).at u38 x29, (Ty.sl (Ty.sl (Ty.i .i64))).at u51 x85] := St.extend hS108 he194
                have e198 : f192 12 = (Value.int .i64 (k84 : Int)) := (hout195 12 rfl).trans rfl
                exact OpX.val (Value.int .i64 (k84 : Int)) wd193 rfl (op_move e198) (Ext.refl _) ⟨rfl, hr107⟩
              · refine ObX.op rfl ?_
                intro f199 wd200 he201 hout202 hphi203
                have hS204 : St w wd200 [bx b1 [(Value.slice none 0 0), (Value.int .i64 (0 : Int)), (Value.slice none 0 0)], (Ty.sl (Ty.i .i64)).at u7 x5, bx b19 [u7, (Value.int .i64 m), u38], (Ty.sl (Ty.sl (Ty.sl (Ty.i .i64)))).at u38 x29, (Ty.sl (Ty.sl (Ty.i .i64))).at u51 x85] := St.extend hS108 he201
                obtain ⟨S205, hS206, hf207⟩ := hphi203 6 40 _ rfl rfl rfl
                have e208 : f199 40 = (Value.func (.func g_number) fst_number cap_number) := hf207
                obtain ⟨S209, hS210, hf211⟩ := hphi203 7 41 _ rfl rfl rfl
                obtain ⟨e212, hr213⟩ : f199 41 = (Value.int .i64 (k28 : Int)) ∧ InR .i64 (k28 : Int) := hf211
                obtain ⟨S214, hS215, hf216⟩ := hphi203 8 42 _ rfl rfl rfl
                obtain ⟨e217, hr218⟩ : f199 42 = (Value.int .i64 (k58 : Int)) ∧ InR .i64 (k58 : Int) := hf216
                obtain ⟨S219, hS220, hf221⟩ := hphi203 9 43 _ rfl rfl rfl
                obtain ⟨e222, hr223⟩ : f199 43 = (Value.int .i64 (k84 : Int)) ∧ InR .i64 (k84 : Int) := hf221
                refine OpX.call rfl (op_callV e208 ok_number (args3 e212 e217 e222)) (Ret.mono (call_number wd200 (k28 : Int) (k58 : Int) (k84 : Int) x224 hS204.ext hr213 hr218 hr223 hx225) ?_)
                rintro _ wd226 ⟨rfl, hr228, he227⟩
                exact ⟨he227, _, noS _ _, ⟨rfl, hr228⟩⟩
              · refine ObX.op rfl ?_
                intro f229 wd230 he231 hout232 hphi233
                have hS234 : St w wd230 [bx b1 [(Value.slice none 0 0), (Value.int .i64 (0 : Int)), (Value.slice none 0 0)], (Ty.sl (Ty.i .i64)).at u7 x5, bx b19 [u7, (Value.int .i64 m), u38], (Ty.sl (Ty.sl (Ty.sl (Ty.i .i64)))).at u38 x29, (Ty.sl (Ty.sl (Ty.i .i64))).at u51 x85] := St.extend hS108 he231
                obtain ⟨S235, hS236, hf237⟩ := hphi233 5 39 _ rfl rfl rfl
                obtain ⟨e238, hr239⟩ := hf237
                obtain ⟨S240, hS241, hf242⟩ := hphi233 10 44 _ rfl rfl rfl
                obtain ⟨e243, hr244⟩ : f229 44 = (Value.int .i64 x224) ∧ InR .i64 x224 := hf242
                refine OpX.call rfl (op_call fn_43 (args2 e238 e243)) (Ret.mono (c_impl_Cocycle_rest (St.rep (t := (Ty.sl (Ty.i .i64))) hS234 1 rfl) hr239 (St.rep (t := (Ty.sl (Ty.sl (Ty.sl (Ty.i .i64))))) hS234 3 rfl) hr244 hx246) ?_)
                rintro _ wd248 ⟨rfl, hr247, he249⟩
                exact ⟨he249, _, noS _ _, ⟨rfl, hr247⟩⟩
              · intro f251 wd252 Ss253 he254 hout255 hSn256 hSd257 hphi258
                show WL _ _ _ _ _ _ _
                have hS259 : St w wd252 [bx b1 [(Value.slice none 0 0), (Value.int .i64 (0 : Int)), (Value.slice none 0 0)], (Ty.sl (Ty.i .i64)).at u7 x5, bx b19 [u7, (Value.int .i64 m), u38], (Ty.sl (Ty.sl (Ty.sl (Ty.i .i64)))).at u38 x29, (Ty.sl (Ty.sl (Ty.i .i64))).at u51 x85] := St.extend hS108 he254
                have e260 : f251 37 = u154 := hphi258 3 37 _ (by decide) rfl rfl
                obtain ⟨e261, hr262⟩ : f251 38 = (Value.int .i64 (k84 : Int)) ∧ InR .i64 (k84 : Int) := hphi258 4 38 _ (by decide) rfl rfl
                obtain ⟨e263, hr264⟩ : f251 45 = (Value.int .i64 x245) ∧ InR .i64 x245 := hphi258 11 45 _ (by decide) rfl rfl
                have e265 : f251 2 = (Value.func (.func g_number) fst_number cap_number) := (hout255 2 rfl).trans hf94
                have e266 : f251 6 = (Value.pointer (some ⟨b1, 0, none⟩)) := (hout255 6 rfl).trans hf95
                have e267 : f251 7 = (Value.pointer (some ⟨b19, 0, none⟩)) := (hout255 7 rfl).trans hf96
                have e268 : f251 8 = (Value.int .i64 x12) := (hout255 8 rfl).trans hf97
                have e269 : f251 9 = (Value.int .i64 (k28 : Int)) := (hout255 9 rfl).trans hf98
                have e270 : f251 10 = u51 := (hout255 10 rfl).trans hf99
                have e271 : f251 11 = (Value.int .i64 (k58 : Int)) := (hout255 11 rfl).trans hf100
                have e272 : f251 19 = (Value.int .i64 x12) := (hout255 19 rfl).trans hf101
                have e273 : f251 20 = (Value.int .i64 (k28 : Int)) := (hout255 20 rfl).trans hf102
                have e274 : f251 26 = (Value.int .i64 x12) := (hout255 26 rfl).trans hf103
                have e275 : f251 27 = (Value.int .i64 (k58 : Int)) := (hout255 27 rfl).trans hf104
                have e276 : f251 30 = (Value.int .i64 x12) := (hout255 30 rfl).trans hf105
                have e277 : f251 31 = (Value.int .i64 (k84 : Int)) := (hout255 31 rfl).trans hf106
                obtain ⟨x278, hx281, hb90⟩ := bs hb90
                obtain ⟨ha279, hb280, hx281⟩ := idx_some hx281
                refine WL.val (Value.pointer (some (elA u154 ((k84 : Int)).toNat))) _ (op_idx sl_22 (Ty.lift _ he254 hr156) e260 e261 ha279 hb280) rfl ?_
                refine WL.storeEl2 (flat_i .i64) hS259 (k := 4) rfl sz_2 hx143 (Ext.cell he254 hc155) rfl e263 (lt_of_idx ha279 hb280) ⟨rfl, hr264⟩ ?_
                intro wd282 hS283
                replace hS283 : St w wd282 [bx b1 [(Value.slice none 0 0), (Value.int .i64 (0 : Int)), (Value.slice none 0 0)], (Ty.sl (Ty.i .i64)).at u7 x5, bx b19 [u7, (Value.int .i64 m), u38], (Ty.sl (Ty.sl (Ty.sl (Ty.i .i64)))).at u38 x29, (Ty.sl (Ty.sl (Ty.i .i64))).at u51 ((x85).set ((k58 : Int)).toNat ((x140).set ((k84 : Int)).toNat x245))] := hS283
                refine WL.nil ?_
                show W _ _ _ _ _ _
                refine W.region ?_
                refine WL.val (Value.int .i64 (w64 ((k84 : Int) + (1 : Int)))) _ (op_add e277 rfl) rfl ?_
                refine WL.val (Value.int .i64 (w64 ((k84 : Int) + (1 : Int)))) _ (op_move rfl) rfl ?_
                refine WL.nil ?_
                obtain rfl := Option.some.inj hb90
                show ∃ s, _ = Ctl.next s ∧ _
                exact ⟨_, rfl, e265, e266, e267, e268, e269, e270, e271, e272, e273, e274, e275, e276, (ctr_next hl109 hr14), (ctr_rng hl109 hr14), hS283⟩
            · intro x290 f285 wd286 hs287 hI288
              replace hI288 : f285 2 = (Value.func (.func g_number) fst_number cap_number) ∧ f285 6 = (Value.pointer (some ⟨b1, 0, none⟩)) ∧ f285 7 = (Value.pointer (some ⟨b19, 0, none⟩)) ∧ f285 8 = (Value.int .i64 x12) ∧ f285 9 = (Value.int .i64 (k28 : Int)) ∧ f285 10 = u51 ∧ f285 11 = (Value.int .i64 (k58 : Int)) ∧ f285 19 = (Value.int .i64 x12) ∧ f285 20 = (Value.int .i64 (k28 : Int)) ∧ f285 26 = (Value.int .i64 x12) ∧ f285 27 = (Value.int .i64 (k58 : Int)) ∧ f285 30 = (Value.int .i64 x12) ∧ f285 31 = Value.int .i64 (((x12).toNat : Nat) : Int) ∧ InR .i64 (((x12).toNat : Nat) : Int) ∧ St w wd286 [bx b1 [(Value.slice none 0 0), (Value.int .i64 (0 : Int)), (Value.slice none 0 0)], (Ty.sl (Ty.i .i64)).at u7 x5, bx b19 [u7, (Value.int .i64 m), u38], (Ty.sl (Ty.sl (Ty.sl (Ty.i .i64)))).at u38 x29, (Ty.sl (Ty.sl (Ty.i .i64))).at u51 x290] := hI288
              obtain ⟨hf291, hf292, hf293, hf294, hf295, hf296, hf297, hf298, hf299, hf300, hf301, hf302, hf303, hr304, hS305⟩ := hI288
              refine W.seq (W.region ?_)
              refine WL.val (Value.bool (decide ((((x12).toNat : Nat) : Int) < x12))) _ (op_lss hf303 hf302) rfl ?_
              have hl306 : ¬ (((x12).toNat : Nat) : Int) < x12 := by omega
              refine WL.nil ?_
              show W _ _ _ _ _ _
              refine W.seq ?_
              refine W.condF (decide ((((x12).toNat : Nat) : Int) < x12)) rfl (decide_eq_false hl306) ?_
              refine W.exit ?_
              show _ = _ ∧ _
              exact ⟨rfl, _, hs287, hf291, hf292, hf293, hf294, hf295, hf296, hf298, hf299, hf300, hf301, hS305⟩
          · rintro f307 wd308 ⟨x311, rfl, hq309⟩
            replace hb64 := onRes_fin hb64
            replace hq309 : f307 2 = (Value.func (.func g_number) fst_number cap_number) ∧ f307 6 = (Value.pointer (some ⟨b1, 0, none⟩)) ∧ f307 7 = (Value.pointer (some ⟨b19, 0, none⟩)) ∧ f307 8 = (Value.int .i64 x12) ∧ f307 9 = (Value.int .i64 (k28 : Int)) ∧ f307 10 = u51 ∧ f307 19 = (Value.int .i64 x12) ∧ f307 20 = (Value.int .i64 (k28 : Int)) ∧ f307 26 = (Value.int .i64 x12) ∧ f307 27 = (Value.int .i64 (k58 : Int)) ∧ St w wd308 [bx b1 [(Value.slice none 0 0), (Value.int .i64 (0 : Int)), (Value.slice none 0 0)], (Ty.sl (Ty.i .i64)).at u7 x5, bx b19 [u7, (Value.int .i64 m), u38], (Ty.sl (Ty.sl (Ty.sl (Ty.i .i64)))).at u38 x29, (Ty.sl (Ty.sl (Ty.i .i64))).at u51 x311] := hq309
            obtain ⟨hf312, hf313, hf314, hf315, hf316, hf317, hf318, hf319, hf320, hf321, hS322⟩ := hq309
            show W _ _ _ _ _ _
            refine W.region ?_
            refine WL.val (Value.int .i64 (w64 ((k58 : Int) + (1 : Int)))) _ (op_add hf321 rfl) rfl ?_
            refine WL.val (Value.int .i64 (w64 ((k58 : Int) + (1 : Int)))) _ (op_move rfl) rfl ?_
            refine WL.nil ?_
            obtain rfl := Option.some.inj hb64
            show ∃ s, _ = Ctl.next s ∧ _
            exact ⟨_, rfl, hf312, hf313, hf314, hf315, hf316, hf317, hf318, hf319, hf320, (ctr_next hl80 hr14), (ctr_rng hl80 hr14), hS322⟩
        · intro x330 f325 wd326 hs327 hI328
          replace hI328 : f325 2 = (Value.func (.func g_number) fst_number cap_number) ∧ f325 6 = (Value.pointer (some ⟨b1, 0, none⟩)) ∧ f325 7 = (Value.pointer (some ⟨b19, 0, none⟩)) ∧ f325 8 = (Value.int .i64 x12) ∧ f325 9 = (Value.int .i64 (k28 : Int)) ∧ f325 10 = u51 ∧ f325 19 = (Value.int .i64 x12) ∧ f325 20 = (Value.int .i64 (k28 : Int)) ∧ f325 26 = (Value.int .i64 x12) ∧ f325 27 = Value.int .i64 (((x12).toNat : Nat) : Int) ∧ InR .i64 (((x12).toNat : Nat) : Int) ∧ St w wd326 [bx b1 [(Value.slice none 0 0), (Value.int .i64 (0 : Int)), (Value.slice none 0 0)], (Ty.sl (Ty.i .i64)).at u7 x5, bx b19 [u7, (Value.int .i64 m), u38], (Ty.sl (Ty.sl (Ty.sl (Ty.i .i64)))).at u38 x29, (Ty.sl (Ty.sl (Ty.i .i64))).at u51 x330] := hI328
          obtain ⟨hf331, hf332, hf333, hf334, hf335, hf336, hf337, hf338, hf339, hf340, hr341, hS342⟩ := hI328
          refine W.seq (W.region ?_)
          refine WL.val (Value.bool (decide ((((x12).toNat : Nat) : Int) < x12))) _ (op_lss hf340 hf339) rfl ?_
          have hl343 : ¬ (((x12).toNat : Nat) : Int) < x12 := by omega
          refine WL.nil ?_
          show W _ _ _ _ _ _
          refine W.seq ?_
          refine W.condF (decide ((((x12).toNat : Nat) : Int) < x12)) rfl (decide_eq_false hl343) ?_
          refine W.exit ?_
          show _ = _ ∧ _
          exact ⟨rfl, _, hs327, hf331, hf332, hf333, hf334, hf336, hf337, hf338, hS342⟩
      · rintro f344 wd345 ⟨x348, rfl, hq346⟩
        replace hb34 := onRes_fin hb34
        replace hq346 : f344 2 = (Value.func (.func g_number) fst_number cap_number) ∧ f344 6 = (Value.pointer (some ⟨b1, 0, none⟩)) ∧ f344 7 = (Value.pointer (some ⟨b19, 0, none⟩)) ∧ f344 8 = (Value.int .i64 x12) ∧ f344 10 = u51 ∧ f344 19 = (Value.int .i64 x12) ∧ f344 20 = (Value.int .i64 (k28 : Int)) ∧ St w wd345 [bx b1 [(Value.slice none 0 0), (Value.int .i64 (0 : Int)), (Value.slice none 0 0)], (Ty.sl (Ty.i .i64)).at u7 x5, bx b19 [u7, (Value.int .i64 m), u38], (Ty.sl (Ty.sl (Ty.sl (Ty.i .i64)))).at u38 x29, (Ty.sl (Ty.sl (Ty.i .i64))).at u51 x348] := hq346
        obtain ⟨hf349, hf350, hf351, hf352, hf353, hf354, hf355, hS356⟩ := hq346
        show W _ _ _ _ _ _
        refine W.region ?_
        refine WL.val (Value.pointer (some ⟨b19, 2, none⟩)) _ (op_fieldAddr fd_30_2 hf351) rfl ?_
        refine WL.val u38 _ (op_load one_23 rfl (BoxAt.cell (St.boxAt hS356 2 rfl) rfl)) rfl ?_
        refine WL.val u51 _ (op_move hf353) rfl ?_
        refine WL.lit [u51] hS356 sl_23 rfl rfl (fillL rfl ⟨rfl, rfl, (cells_rep (St.rep (t := (Ty.sl (Ty.sl (Ty.i .i64)))) hS356 4 rfl)), trivial⟩) rfl rfl ?_
        intro b361 wd358 hS359 he360 hx362
        replace hS359 : St w wd358 [bx b1 [(Value.slice none 0 0), (Value.int .i64 (0 : Int)), (Value.slice none 0 0)], (Ty.sl (Ty.i .i64)).at u7 x5, bx b19 [u7, (Value.int .i64 m), u38], (Ty.sl (Ty.sl (Ty.sl (Ty.i .i64)))).at u38 x29, (Ty.sl (Ty.sl (Ty.i .i64))).at u51 x348, bx b361 [u51]] := hS359
        obtain ⟨x363, hx364, hb34⟩ := bs hb34
        refine WL.appendRow hS359 (k := 3) (k2 := 4) (k3 := 5) rfl rfl rfl rfl sl_23 rfl rfl rfl rfl hx364 rfl ?_
        intro u365 wd366 hS367 hz368
        replace hS367 : St w wd366 [bx b1 [(Value.slice none 0 0), (Value.int .i64 (0 : Int)), (Value.slice none 0 0)], (Ty.sl (Ty.i .i64)).at u7 x5, bx b19 [u7, (Value.int .i64 m), u38], (Ty.sl (Ty.sl (Ty.sl (Ty.i .i64)))).at u365 x363, emp, bx b361 [u51]] := hS367
        refine WL.val (Value.pointer (some ⟨b19, 2, none⟩)) _ (op_fieldAddr fd_30_2 hf351) rfl ?_
        refine WL.storeBox [u7, (Value.int .i64 m), u365] hS367 (k := 2) rfl rfl rfl (us := [u365]) (cells_rep (St.rep (t := (Ty.sl (Ty.sl (Ty.sl (Ty.i .i64))))) hS367 3 rfl)) sz_23 rfl rfl (all_rep (St.rep (t := (Ty.sl (Ty.sl (Ty.sl (Ty.i .i64))))) hS367 3 rfl) all_nil) rfl ?_
        intro wd369 hS370
        replace hS370 : St w wd369 [bx b1 [(Value.slice none 0 0), (Value.int .i64 (0 : Int)), (Value.slice none 0 0)], (Ty.sl (Ty.i .i64)).at u7 x5, bx b19 [u7, (Value.int .i64 m), u365], (Ty.sl (Ty.sl (Ty.sl (Ty.i .i64)))).at u365 x363, emp, bx b361 [u51]] := hS370
        refine WL.nil ?_
        show W _ _ _ _ _ _
        refine W.region ?_
        refine WL.val (Value.int .i64 (w64 ((k28 : Int) + (1 : Int)))) _ (op_add hf355 rfl) rfl ?_
        refine WL.val (Value.int .i64 (w64 ((k28 : Int) + (1 : Int)))) _ (op_move rfl) rfl ?_
        refine WL.nil ?_
        obtain rfl := Option.some.inj hb34
        show ∃ s, _ = Ctl.next s ∧ _
        exact ⟨_, rfl, u365, hf349, hf350, hf351, hf352, hf354, (ctr_next hl47 hr14), (ctr_rng hl47 hr14), (St.pick hS370 [0, 1, 2, 3] rfl)⟩
    · intro x378 f373 wd374 hs375 hI376
      replace hI376 : ∃ (uu0 : Value), f373 2 = (Value.func (.func g_number) fst_number cap_number) ∧ f373 6 = (Value.pointer (some ⟨b1, 0, none⟩)) ∧ f373 7 = (Value.pointer (some ⟨b19, 0, none⟩)) ∧ f373 8 = (Value.int .i64 x12) ∧ f373 19 = (Value.int .i64 x12) ∧ f373 20 = Value.int .i64 (((x12).toNat : Nat) : Int) ∧ InR .i64 (((x12).toNat : Nat) : Int) ∧ St w wd374 [bx b1 [(Value.slice none 0 0), (Value.int .i64 (0 : Int)), (Value.slice none 0 0)], (Ty.sl (Ty.i .i64)).at u7 x5, bx b19 [u7, (Value.int .i64 m), uu0], (Ty.sl (Ty.sl (Ty.sl (Ty.i .i64)))).at uu0 x378] := hI376
      obtain ⟨u379, hf380, hf381, hf382, hf383, hf384, hf385, hr386, hS387⟩ := hI376
      refine W.seq (W.region ?_)
      refine WL.val (Value.bool (decide ((((x12).toNat : Nat) : Int) < x12))) _ (op_lss hf385 hf384) rfl ?_
      have hl388 : ¬ (((x12).toNat : Nat) : Int) < x12 := by omega
      refine WL.nil ?_
      show W _ _ _ _ _ _
      refine W.seq ?_
      refine W.condF (decide ((((x12).toNat : Nat) : Int) < x12)) rfl (decide_eq_false hl388) ?_
      refine W.exit ?_
      show _ = _ ∧ _
      exact ⟨rfl, _, hs375, u379, hf381, hf382, hS387⟩
  · rintro f389 wd390 ⟨x393, rfl, hq391⟩
    replace h := onRes_fin h
    replace hq391 : ∃ (uu0 : Value), f389 6 = (Value.pointer (some ⟨b1, 0, none⟩)) ∧ f389 7 = (Value.pointer (some ⟨b19, 0, none⟩)) ∧ St w wd390 [bx b1 [(Value.slice none 0 0), (Value.int .i64 (0 : Int)), (Value.slice none 0 0)], (Ty.sl (Ty.i .i64)).at u7 x5, bx b19 [u7, (Value.int .i64 m), uu0], (Ty.sl (Ty.sl (Ty.sl (Ty.i .i64)))).at uu0 x393] := hq391
    obtain ⟨u394, hf395, hf396, hS397⟩ := hq391
    show W _ _ _ _ _ _
    refine W.seq (W.region ?_)
    refine WL.val (Value.agg #[u7, (Value.int .i64 m), u394]) _ (op_loadBox st_30 hf396 (St.boxAt hS397 2 rfl) rfl rfl) rfl ?_
    refine WL.storeBox [u7, (Value.int .i64 m), u394] hS397 (k := 0) rfl hf395 rfl (us := [u7, (Value.int .i64 m), u394]) rfl sz_30 rfl rfl (all_rep (St.rep (t := (Ty.sl (Ty.i .i64))) hS397 1 rfl) (all_cons rfl (all_rep (St.rep (t := (Ty.sl (Ty.sl (Ty.sl (Ty.i .i64))))) hS397 3 rfl) all_nil))) rfl ?_
    intro wd398 hS399
    replace hS399 : St w wd398 [bx b1 [u7, (Value.int .i64 m), u394], (Ty.sl (Ty.i .i64)).at u7 x5, bx b19 [u7, (Value.int .i64 m), u394], (Ty.sl (Ty.sl (Ty.sl (Ty.i .i64)))).at u394 x393] := hS399
    refine WL.nil ?_
    show W _ _ _ _ _ _
    refine W.ret ?_
    obtain rfl := Option.some.inj h
    show FinP _ _ _ _ _ _ _
    exact FinP.ret _ (resC rfl hf395 st_30 (St.boxAt hS399 0 rfl) rfl) ⟨u7, u394, rfl, r_m, hS399.ext, (St.out (St.pick hS399 [1, 3] rfl) (Ext.refl _))⟩

theorem c_laws_heldInt64SSS {w : World} {a : (List (List (List Int)))} {v_a : Value} {k1 : Int} (r_a : (Ty.sl (Ty.sl (Ty.sl (Ty.i .i64)))).rep w v_a a) (r_k1 : InR .i64 k1) {res : Int} (h : p_laws_heldInt64SSS a k1  = some res) :
    Ret Try.prog 64 #[v_a, (Value.int .i64 k1)] w (fun v w' => v = Value.int .i64 res ∧ InR .i64 res ∧ Ext w w') := by
  unfold p_laws_heldInt64SSS at h
  have hS0 : St w w [] := St.start w
  refine Ret.start (fn := Try.f64) Try.func64 rfl 21 rfl rfl ?_
  refine W.seq (W.region ?_)
  refine WL.val (Value.int .i64 (0 : Int)) _ (op_assign rfl) rfl ?_
  refine WL.nil ?_
  show W _ _ _ _ _ _
  refine W.seq (W.seq (W.region ?_))
  refine WL.val (Value.int .i64 (0 : Int)) _ (op_assign rfl) rfl ?_
  refine WL.nil ?_
  show W _ _ _ _ _ _
  obtain ⟨res1, hres2, h⟩ := bs h
  refine W.blockLoop (fun fq wq => ∃ s, res1 = Res.fin s ∧ fq 1 = Value.int .i64 s ∧ InR .i64 s ∧ St w wq []) ?_ ?_
  · refine W.forN (fun k (s : Int) fq wq => fq 0 = v_a ∧ fq 1 = Value.int .i64 s ∧ InR .i64 s ∧ fq 5 = Value.int .i64 (k : Int) ∧ InR .i64 (k : Int) ∧ St w wq []) hres2 ⟨rfl, rfl, r_k1, rfl, (inR_i64.2 (show (-9223372036854775808 : Int) ≤ 0 ∧ (0 : Int) ≤ 9223372036854775807 from by decide)), hS0⟩ ?_ ?_
    · intro k3 x4 ct5 f6 wd7 hk8 hb9 hI10 hbrk11 hret12
      replace hI10 : f6 0 = v_a ∧ f6 1 = Value.int .i64 x4 ∧ InR .i64 x4 ∧ f6 5 = Value.int .i64 (k3 : Int) ∧ InR .i64 (k3 : Int) ∧ St w wd7 [] := hI10
      replace hb9 : p_laws_heldInt64SSS_L1 a k3 x4 = some ct5 := hb9
      unfold p_laws_heldInt64SSS_L1 at hb9
      obtain ⟨hf13, hf14, hr15, hf16, hr17, hS18⟩ := hI10
      refine W.seq (W.seq (W.region ?_))
      refine WL.val (Value.int .i64 (k3 : Int)) _ (op_move hf16) rfl ?_
      refine WL.val v_a _ (op_move hf13) rfl ?_
      have hr19 := inR_len (Ty.lift _ hS18.ext r_a)
      refine WL.val (Value.int .i64 ((a).length : Int)) _ (op_lenL sl_23 (Ty.lift _ hS18.ext r_a) rfl) rfl ?_
      refine WL.val (Value.bool (decide ((k3 : Int) < ((a).length : Int)))) _ (op_lss rfl rfl) rfl ?_
      have hl20 : (k3 : Int) < ((a).length : Int) := by omega
      refine WL.nil ?_
      show W _ _ _ _ _ _
      refine W.condT (decide ((k3 : Int) < ((a).length : Int))) rfl (decide_eq_true hl20) ?_
      refine W.skip ?_
      show W _ _ _ _ _ _
      refine W.seq ?_
      refine W.block ?_
      refine W.seq (W.region ?_)
      refine WL.val v_a _ (op_move hf13) rfl ?_
      refine WL.val (Value.int .i64 (k3 : Int)) _ (op_move hf16) rfl ?_
      obtain ⟨x22, hx25, hb9⟩ := bs hb9
      obtain ⟨ha23, hb24, hx25⟩ := idx_some hx25
      refine WL.val (Value.pointer (some (elA v_a ((k3 : Int)).toNat))) _ (op_idx sl_23 (Ty.lift _ hS18.ext r_a) rfl rfl ha23 hb24) rfl ?_
      obtain ⟨u26, hc27, hr28⟩ := repSl.el r_a hx25
      refine WL.val u26 _ (op_load one_27 rfl (Ext.cell hS18.ext hc27)) rfl ?_
      refine WL.val (Value.int .i64 x4) _ (op_move hf14) rfl ?_
      obtain ⟨x29, hx30, hb9⟩ := bs hb9
      refine WL.call _ (op_call fn_16 (args2 rfl rfl)) (c_laws_heldInt64SS (Ty.lift _ hS18.ext hr28) hr15 hx30) rfl ?_
      rintro _ wd32 ⟨rfl, hr31, he33⟩
      have hS35 := St.extend hS18 he33
      replace hS35 : St w wd32 [] := hS35
      refine WL.val (Value.int .i64 x29) _ (op_assign rfl) rfl ?_
      refine WL.nil ?_
      show W _ _ _ _ _ _
      refine W.seq (W.region ?_)
      refine WL.val (Value.int .i64 x29) _ (op_move rfl) rfl ?_
      refine WL.val (Value.bool (decide (x29 < (0 : Int)))) _ (op_lss rfl rfl) rfl ?_
      refine WL.nil ?_
      show W _ _ _ _ _ _
      refine W.cond (decide (x29 < (0 : Int))) rfl (fun hc36 => ?_) (fun hc36 => ?_)
      · replace hb9 := ip hb9 hc36
        refine W.seq (W.region ?_)
        refine WL.val (Value.int .i64 (-1 : Int)) _ (op_assign rfl) rfl ?_
        refine WL.nil ?_
        show W _ _ _ _ _ _
        refine W.ret ?_
        obtain rfl := Option.some.inj hb9
        obtain rfl := hret12 _ rfl
        replace h := onRes_ret h
        obtain rfl := Option.some.inj h
        show FinP _ _ _ _ _ _ _
        exact FinP.ret _ (res1 rfl rfl) ⟨rfl, (inR_i64.2 (show (-9223372036854775808 : Int) ≤ -1 ∧ (-1 : Int) ≤ 9223372036854775807 from by decide)), hS35.ext⟩
      · replace hb9 := inegb hb9 hc36
        refine W.skip ?_
        show W _ _ _ _ _ _
        refine W.region ?_
        refine WL.val (Value.int .i64 (k3 : Int)) _ (op_move hf16) rfl ?_
        refine WL.val (Value.int .i64 (w64 ((k3 : Int) + (1 : Int)))) _ (op_add rfl rfl) rfl ?_
        refine WL.val (Value.int .i64 (w64 ((k3 : Int) + (1 : Int)))) _ (op_assign rfl) rfl ?_
        refine WL.nil ?_
        obtain rfl := Option.some.inj hb9
        show ∃ s, _ = Ctl.next s ∧ _
        exact ⟨_, rfl, hf13, rfl, hr31, (ctr_next hl20 hr19), (ctr_rng hl20 hr19), hS35⟩
    · intro x44 f39 wd40 hs41 hI42
      replace hI42 : f39 0 = v_a ∧ f39 1 = Value.int .i64 x44 ∧ InR .i64 x44 ∧ f39 5 = Value.int .i64 (((a).length : Nat) : Int) ∧ InR .i64 (((a).length : Nat) : Int) ∧ St w wd40 [] := hI42
      obtain ⟨hf45, hf46, hr47, hf48, hr49, hS50⟩ := hI42
      refine W.seq (W.seq (W.region ?_))
      refine WL.val (Value.int .i64 (((a).length : Nat) : Int)) _ (op_move hf48) rfl ?_
      refine WL.val v_a _ (op_move hf45) rfl ?_
      have hr51 := inR_len (Ty.lift _ hS50.ext r_a)
      refine WL.val (Value.int .i64 ((a).length : Int)) _ (op_lenL sl_23 (Ty.lift _ hS50.ext r_a) rfl) rfl ?_
      refine WL.val (Value.bool (decide ((((a).length : Nat) : Int) < ((a).length : Int)))) _ (op_lss rfl rfl) rfl ?_
      have hl52 : ¬ (((a).length : Nat) : Int) < ((a).length : Int) := by omega
      refine WL.nil ?_
      show W _ _ _ _ _ _
      refine W.condF (decide ((((a).length : Nat) : Int) < ((a).length : Int))) rfl (decide_eq_false hl52) ?_
      refine W.exit ?_
      show _ = _ ∧ _
      exact ⟨rfl, _, hs41, hf46, hr47, hS50⟩
  · rintro f53 wd54 ⟨x57, rfl, hq55⟩
    replace h := onRes_fin h
    replace hq55 : f53 1 = Value.int .i64 x57 ∧ InR .i64 x57 ∧ St w wd54 [] := hq55
    obtain ⟨hf58, hr59, hS60⟩ := hq55
    show W _ _ _ _ _ _
    refine W.seq (W.region ?_)
    refine WL.val (Value.int .i64 x57) _ (op_move hf58) rfl ?_
    refine WL.val (Value.int .i64 x57) _ (op_assign rfl) rfl ?_
    refine WL.nil ?_
    show W _ _ _ _ _ _
    refine W.ret ?_
    obtain rfl := Option.some.inj h
    show FinP _ _ _ _ _ _ _
    exact FinP.ret _ (res1 rfl rfl) ⟨rfl, hr59, hS60.ext⟩

theorem c_laws_heldCocycle {w : World} {a_Orders : (List Int)} {v_a_Orders : Value} {a_Modulus : Int} {a_Values : (List (List (List Int)))} {v_a_Values : Value} {k1 : Int} (r_a_Orders : (Ty.sl (Ty.i .i64)).rep w v_a_Orders a_Orders) (r_a_Modulus : InR .i64 a_Modulus) (r_a_Values : (Ty.sl (Ty.sl (Ty.sl (Ty.i .i64)))).rep w v_a_Values a_Values) (r_k1 : InR .i64 k1) {res : Int} (h : p_laws_heldCocycle a_Orders a_Modulus a_Values k1  = some res) :
    Ret Try.prog 35 #[(Value.agg #[v_a_Orders, (Value.int .i64 a_Modulus), v_a_Values]), (Value.int .i64 k1)] w (fun v w' => v = Value.int .i64 res ∧ InR .i64 res ∧ Ext w w') := by
  unfold p_laws_heldCocycle at h
  have hS0 : St w w [] := St.start w
  refine Ret.start (fn := Try.f35) Try.func35 rfl 18 rfl rfl ?_
  refine W.seq (W.region ?_)
  refine WL.box hS0 rfl (cs := [v_a_Orders, (Value.int .i64 a_Modulus), v_a_Values]) rfl rfl ?_
  intro b1 wd2 hS3 he4 hx5
  replace hS3 : St w wd2 [bx b1 [v_a_Orders, (Value.int .i64 a_Modulus), v_a_Values]] := hS3
  have hx6 := St.boxAt hS3 0 rfl
  have hE7 : Ext w wd2 := hS3.ext
  have hS8 : St wd2 wd2 [] := St.start wd2
  refine WL.val (Value.int .i64 (0 : Int)) _ (op_assign rfl) rfl ?_
  refine WL.nil ?_
  show W _ _ _ _ _ _
  refine W.seq (W.region ?_)
  refine WL.val (Value.pointer (some ⟨b1, 0, none⟩)) _ (op_fieldAddr fd_30_0 rfl) rfl ?_
  refine WL.val v_a_Orders _ (op_load one_22 rfl (BoxAt.cell (BoxAt.lift hS8.ext hx6) rfl)) rfl ?_
  refine WL.val (Value.int .i64 k1) _ (op_move rfl) rfl ?_
  obtain ⟨x9, hx10, h⟩ := bs h
  refine WL.call _ (op_call fn_46 (args2 rfl rfl)) (c_laws_heldInt64S (Ty.lift _ (Ext.trans hE7 hS8.ext) r_a_Orders) r_k1 hx10) rfl ?_
  rintro _ wd12 ⟨rfl, hr11, he13⟩
  have hS15 := St.extend hS8 he13
  replace hS15 : St wd2 wd12 [] := hS15
  refine WL.val (Value.int .i64 x9) _ (op_assign rfl) rfl ?_
  refine WL.nil ?_
  show W _ _ _ _ _ _
  refine W.seq (W.seq (W.region ?_))
  refine WL.val (Value.int .i64 x9) _ (op_move rfl) rfl ?_
  refine WL.val (Value.bool (decide (x9 < (0 : Int)))) _ (op_lss rfl rfl) rfl ?_
  refine WL.nil ?_
  show W _ _ _ _ _ _
  refine W.cond (decide (x9 < (0 : Int))) rfl (fun hc16 => ?_) (fun hc16 => ?_)
  · replace h := ip h hc16
    refine W.seq (W.region ?_)
    refine WL.val (Value.int .i64 (-1 : Int)) _ (op_assign rfl) rfl ?_
    refine WL.nil ?_
    show W _ _ _ _ _ _
    refine W.ret ?_
    obtain rfl := Option.some.inj h
    show FinP _ _ _ _ _ _ _
    exact FinP.ret _ (res1 rfl rfl) ⟨rfl, (inR_i64.2 (show (-9223372036854775808 : Int) ≤ -1 ∧ (-1 : Int) ≤ 9223372036854775807 from by decide)), (Ext.trans hE7 hS15.ext)⟩
  · replace h := inegb h hc16
    refine W.skip ?_
    show W _ _ _ _ _ _
    refine W.seq (W.region ?_)
    refine WL.val (Value.pointer (some ⟨b1, 2, none⟩)) _ (op_fieldAddr fd_30_2 rfl) rfl ?_
    refine WL.val v_a_Values _ (op_load one_23 rfl (BoxAt.cell (BoxAt.lift hS15.ext hx6) rfl)) rfl ?_
    refine WL.val (Value.int .i64 x9) _ (op_move rfl) rfl ?_
    obtain ⟨x18, hx19, h⟩ := bs h
    refine WL.call _ (op_call fn_64 (args2 rfl rfl)) (c_laws_heldInt64SSS (Ty.lift _ (Ext.trans hE7 hS15.ext) r_a_Values) hr11 hx19) rfl ?_
    rintro _ wd21 ⟨rfl, hr20, he22⟩
    have hS24 := St.extend hS15 he22
    replace hS24 : St wd2 wd21 [] := hS24
    refine WL.val (Value.int .i64 x18) _ (op_assign rfl) rfl ?_
    refine WL.nil ?_
    show W _ _ _ _ _ _
    refine W.seq (W.seq (W.region ?_))
    refine WL.val (Value.int .i64 x18) _ (op_move rfl) rfl ?_
    refine WL.val (Value.bool (decide (x18 < (0 : Int)))) _ (op_lss rfl rfl) rfl ?_
    refine WL.nil ?_
    show W _ _ _ _ _ _
    refine W.cond (decide (x18 < (0 : Int))) rfl (fun hc25 => ?_) (fun hc25 => ?_)
    · replace h := ip h hc25
      refine W.seq (W.region ?_)
      refine WL.val (Value.int .i64 (-1 : Int)) _ (op_assign rfl) rfl ?_
      refine WL.nil ?_
      show W _ _ _ _ _ _
      refine W.ret ?_
      obtain rfl := Option.some.inj h
      show FinP _ _ _ _ _ _ _
      exact FinP.ret _ (res1 rfl rfl) ⟨rfl, (inR_i64.2 (show (-9223372036854775808 : Int) ≤ -1 ∧ (-1 : Int) ≤ 9223372036854775807 from by decide)), (Ext.trans hE7 hS24.ext)⟩
    · replace h := inegb h hc25
      refine W.skip ?_
      show W _ _ _ _ _ _
      refine W.seq (W.region ?_)
      refine WL.val (Value.int .i64 x18) _ (op_move rfl) rfl ?_
      refine WL.val (Value.int .i64 x18) _ (op_assign rfl) rfl ?_
      refine WL.nil ?_
      show W _ _ _ _ _ _
      refine W.ret ?_
      obtain rfl := Option.some.inj h
      show FinP _ _ _ _ _ _ _
      exact FinP.ret _ (res1 rfl rfl) ⟨rfl, hr20, (Ext.trans hE7 hS24.ext)⟩

theorem c_spec_l01Same {w : World} {a : (List Int)} {v_a : Value} {b : (List Int)} {v_b : Value} (r_a : (Ty.sl (Ty.i .i64)).rep w v_a a) (r_b : (Ty.sl (Ty.i .i64)).rep w v_b b) {res : Bool} (h : p_spec_l01Same a b  = some res) :
    Ret Try.prog 60 #[v_a, v_b] w (fun v w' => v = Value.bool res ∧ Ext w w') := by
  unfold p_spec_l01Same at h
  have hS0 : St w w [] := St.start w
  refine Ret.start (fn := Try.f60) Try.func60 rfl 26 rfl rfl ?_
  refine W.seq (W.region ?_)
  refine WL.val (Value.bool false) _ (op_assign rfl) rfl ?_
  refine WL.nil ?_
  show W _ _ _ _ _ _
  refine W.seq (W.seq (W.region ?_))
  refine WL.val v_a _ (op_move rfl) rfl ?_
  have hr1 := inR_len (Ty.lift _ hS0.ext r_a)
  refine WL.val (Value.int .i64 ((a).length : Int)) _ (op_lenL sl_22 (Ty.lift _ hS0.ext r_a) rfl) rfl ?_
  refine WL.val v_b _ (op_move rfl) rfl ?_
  have hr2 := inR_len (Ty.lift _ hS0.ext r_b)
  refine WL.val (Value.int .i64 ((b).length : Int)) _ (op_lenL sl_22 (Ty.lift _ hS0.ext r_b) rfl) rfl ?_
  refine WL.val (Value.bool (((a).length : Int) != ((b).length : Int))) _ (op_neq rfl rfl) rfl ?_
  refine WL.nil ?_
  show W _ _ _ _ _ _
  refine W.cond (((a).length : Int) != ((b).length : Int)) rfl (fun hc3 => ?_) (fun hc3 => ?_)
  · replace h := ip h hc3
    refine W.seq (W.region ?_)
    refine WL.val (Value.bool false) _ (op_assign rfl) rfl ?_
    refine WL.nil ?_
    show W _ _ _ _ _ _
    refine W.ret ?_
    obtain rfl := Option.some.inj h
    show FinP _ _ _ _ _ _ _
    exact FinP.ret _ (res1 rfl rfl) ⟨rfl, hS0.ext⟩
  · replace h := inegb h hc3
    refine W.skip ?_
    show W _ _ _ _ _ _
    refine W.seq (W.seq (W.region ?_))
    refine WL.val (Value.int .i64 (0 : Int)) _ (op_assign rfl) rfl ?_
    refine WL.nil ?_
    show W _ _ _ _ _ _
    obtain ⟨res5, hres6, h⟩ := bs h
    refine W.blockLoop (fun fq wq => ∃ s, res5 = Res.fin s ∧ St w wq []) ?_ ?_
    · refine W.forN (fun k (s : Unit) fq wq => fq 0 = v_a ∧ fq 1 = v_b ∧ fq 5 = Value.int .i64 (k : Int) ∧ InR .i64 (k : Int) ∧ St w wq []) hres6 ⟨rfl, rfl, rfl, (inR_i64.2 (show (-9223372036854775808 : Int) ≤ 0 ∧ (0 : Int) ≤ 9223372036854775807 from by decide)), hS0⟩ ?_ ?_
      · intro k7 s134 ct8 f9 wd10 hk11 hb12 hI13 hbrk14 hret15
        obtain ⟨⟩ := s134
        replace hI13 : f9 0 = v_a ∧ f9 1 = v_b ∧ f9 5 = Value.int .i64 (k7 : Int) ∧ InR .i64 (k7 : Int) ∧ St w wd10 [] := hI13
        replace hb12 : p_spec_l01Same_L1 a b k7  = some ct8 := hb12
        unfold p_spec_l01Same_L1 at hb12
        obtain ⟨hf16, hf17, hf18, hr19, hS20⟩ := hI13
        refine W.seq (W.seq (W.region ?_))
        refine WL.val (Value.int .i64 (k7 : Int)) _ (op_move hf18) rfl ?_
        refine WL.val v_a _ (op_move hf16) rfl ?_
        have hr21 := inR_len (Ty.lift _ hS20.ext r_a)
        refine WL.val (Value.int .i64 ((a).length : Int)) _ (op_lenL sl_22 (Ty.lift _ hS20.ext r_a) rfl) rfl ?_
        refine WL.val (Value.bool (decide ((k7 : Int) < ((a).length : Int)))) _ (op_lss rfl rfl) rfl ?_
        have hl22 : (k7 : Int) < ((a).length : Int) := by omega
        refine WL.nil ?_
        show W _ _ _ _ _ _
        refine W.condT (decide ((k7 : Int) < ((a).length : Int))) rfl (decide_eq_true hl22) ?_
        refine W.skip ?_
        show W _ _ _ _ _ _
        refine W.seq ?_
        refine W.block ?_
        refine W.seq ?_
        obtain ⟨x53, hx56, hb12⟩ := bs hb12
        obtain ⟨ha54, hb55, hx56⟩ := idx_some hx56
        obtain ⟨u67, hc68, hr69⟩ := repSl.el r_a hx56
        obtain ⟨rfl, hr69⟩ := hr69
        obtain ⟨x99, hx102, hb12⟩ := bs hb12
        obtain ⟨ha100, hb101, hx102⟩ := idx_some hx102
        obtain ⟨u113, hc114, hr115⟩ := repSl.el r_b hx102
        obtain ⟨rfl, hr115⟩ := hr115
        refine W.drawR mixo 8 [] [fun _ v _ _ => v = v_a, fun _ v _ _ => v = (Value.int .i64 (k7 : Int)) ∧ InR .i64 (k7 : Int), fun _ v _ _ => v = (Value.pointer (some (elA v_a ((k7 : Int)).toNat))), fun _ v _ _ => v = (Value.int .i64 x53) ∧ InR .i64 x53, fun _ v _ _ => v = v_b, fun _ v _ _ => v = (Value.int .i64 (k7 : Int)) ∧ InR .i64 (k7 : Int), fun _ v _ _ => v = (Value.pointer (some (elA v_b ((k7 : Int)).toNat))), fun _ v _ _ => v = (Value.int .i64 x99) ∧ InR .i64 x99] (by kernel_rfl) (by kernel_rfl) ⟨⟨fun _ _ _ _ _ _ h => h, fun _ _ _ _ _ _ h => h⟩, ⟨fun _ _ _ _ _ _ h => h, fun _ _ _ _ _ _ h => h⟩, ⟨fun _ _ _ _ _ _ h => h, fun _ _ _ _ _ _ h => h⟩, ⟨fun _ _ _ _ _ _ h => h, fun _ _ _ _ _ _ h => h⟩, ⟨fun _ _ _ _ _ _ h => h, fun _ _ _ _ _ _ h => h⟩, ⟨fun _ _ _ _ _ _ h => h, fun _ _ _ _ _ _ h => h⟩, ⟨fun _ _ _ _ _ _ h => h, fun _ _ _ _ _ _ h => h⟩, ⟨fun _ _ _ _ _ _ h => h, fun _ _ _ _ _ _ h => h⟩, trivial⟩ ⟨?_, ?_, ?_, ?_, ?_, ?_, ?_, ?_, trivial⟩ ?_
        · refine ObX.op rfl ?_
          intro f24 wd25 he26 hout27 hphi28
          have hS29 : St w wd25 [] := St.extend hS20 he26
          have e30 : f24 0 = v_a := (hout27 0 rfl).trans hf16
          exact OpX.val v_a wd25 rfl (op_move e30) (Ext.refl _) rfl
        · refine ObX.op rfl ?_
          intro f31 wd32 he33 hout34 hphi35
          have hS36 : St w wd32 [] := St.extend hS20 he33
          have e37 : f31 5 = (Value.int .i64 (k7 : Int)) := (hout34 5 rfl).trans hf18
          exact OpX.val (Value.int .i64 (k7 : Int)) wd32 rfl (op_move e37) (Ext.refl _) ⟨rfl, hr19⟩
        · refine ObX.op rfl ?_
          intro f38 wd39 he40 hout41 hphi42
          have hS43 : St w wd39 [] := St.extend hS20 he40
          obtain ⟨S44, hS45, hf46⟩ := hphi42 0 17 _ rfl rfl rfl
          have e47 : f38 17 = v_a := hf46
          obtain ⟨S48, hS49, hf50⟩ := hphi42 1 18 _ rfl rfl rfl
          obtain ⟨e51, hr52⟩ : f38 18 = (Value.int .i64 (k7 : Int)) ∧ InR .i64 (k7 : Int) := hf50
          exact OpX.val (Value.pointer (some (elA v_a ((k7 : Int)).toNat))) wd39 rfl (op_idx sl_22 (Ty.lift _ hS43.ext r_a) e47 e51 ha54 hb55) (Ext.refl _) rfl
        · refine ObX.op rfl ?_
          intro f57 wd58 he59 hout60 hphi61
          have hS62 : St w wd58 [] := St.extend hS20 he59
          obtain ⟨S63, hS64, hf65⟩ := hphi61 2 19 _ rfl rfl rfl
          have e66 : f57 19 = (Value.pointer (some (elA v_a ((k7 : Int)).toNat))) := hf65
          exact OpX.val (Value.int .i64 x53) wd58 rfl (op_load one_2 e66 (Ext.cell hS62.ext hc68)) (Ext.refl _) ⟨rfl, hr69⟩
        · refine ObX.op rfl ?_
          intro f70 wd71 he72 hout73 hphi74
          have hS75 : St w wd71 [] := St.extend hS20 he72
          have e76 : f70 1 = v_b := (hout73 1 rfl).trans hf17
          exact OpX.val v_b wd71 rfl (op_move e76) (Ext.refl _) rfl
        · refine ObX.op rfl ?_
          intro f77 wd78 he79 hout80 hphi81
          have hS82 : St w wd78 [] := St.extend hS20 he79
          have e83 : f77 5 = (Value.int .i64 (k7 : Int)) := (hout80 5 rfl).trans hf18
          exact OpX.val (Value.int .i64 (k7 : Int)) wd78 rfl (op_move e83) (Ext.refl _) ⟨rfl, hr19⟩
        · refine ObX.op rfl ?_
          intro f84 wd85 he86 hout87 hphi88
          have hS89 : St w wd85 [] := St.extend hS20 he86
          obtain ⟨S90, hS91, hf92⟩ := hphi88 4 21 _ rfl rfl rfl
          have e93 : f84 21 = v_b := hf92
          obtain ⟨S94, hS95, hf96⟩ := hphi88 5 22 _ rfl rfl rfl
          obtain ⟨e97, hr98⟩ : f84 22 = (Value.int .i64 (k7 : Int)) ∧ InR .i64 (k7 : Int) := hf96
          exact OpX.val (Value.pointer (some (elA v_b ((k7 : Int)).toNat))) wd85 rfl (op_idx sl_22 (Ty.lift _ hS89.ext r_b) e93 e97 ha100 hb101) (Ext.refl _) rfl
        · refine ObX.op rfl ?_
          intro f103 wd104 he105 hout106 hphi107
          have hS108 : St w wd104 [] := St.extend hS20 he105
          obtain ⟨S109, hS110, hf111⟩ := hphi107 6 23 _ rfl rfl rfl
          have e112 : f103 23 = (Value.pointer (some (elA v_b ((k7 : Int)).toNat))) := hf111
          exact OpX.val (Value.int .i64 x99) wd104 rfl (op_load one_2 e112 (Ext.cell hS108.ext hc114)) (Ext.refl _) ⟨rfl, hr115⟩
        · intro f116 wd117 Ss118 he119 hout120 hSn121 hSd122 hphi123
          show WL _ _ _ _ _ _ _
          have hS124 : St w wd117 [] := St.extend hS20 he119
          obtain ⟨e125, hr126⟩ : f116 20 = (Value.int .i64 x53) ∧ InR .i64 x53 := hphi123 3 20 _ (by decide) rfl rfl
          obtain ⟨e127, hr128⟩ : f116 24 = (Value.int .i64 x99) ∧ InR .i64 x99 := hphi123 7 24 _ (by decide) rfl rfl
          have e129 : f116 0 = v_a := (hout120 0 rfl).trans hf16
          have e130 : f116 1 = v_b := (hout120 1 rfl).trans hf17
          have e131 : f116 5 = (Value.int .i64 (k7 : Int)) := (hout120 5 rfl).trans hf18
          refine WL.val (Value.bool (x53 != x99)) _ (op_neq e125 e127) rfl ?_
          refine WL.nil ?_
          show W _ _ _ _ _ _
          refine W.cond (x53 != x99) rfl (fun hc132 => ?_) (fun hc132 => ?_)
          · replace hb12 := ip hb12 hc132
            refine W.seq (W.region ?_)
            refine WL.val (Value.bool false) _ (op_assign rfl) rfl ?_
            refine WL.nil ?_
            show W _ _ _ _ _ _
            refine W.ret ?_
            obtain rfl := Option.some.inj hb12
            obtain rfl := hret15 _ rfl
            replace h := onRes_ret h
            obtain rfl := Option.some.inj h
            show FinP _ _ _ _ _ _ _
            exact FinP.ret _ (res1 rfl rfl) ⟨rfl, hS124.ext⟩
          · replace hb12 := inegb hb12 hc132
            refine W.skip ?_
            show W _ _ _ _ _ _
            refine W.region ?_
            refine WL.val (Value.int .i64 (k7 : Int)) _ (op_move e131) rfl ?_
            refine WL.val (Value.int .i64 (w64 ((k7 : Int) + (1 : Int)))) _ (op_add rfl rfl) rfl ?_
            refine WL.val (Value.int .i64 (w64 ((k7 : Int) + (1 : Int)))) _ (op_assign rfl) rfl ?_
            refine WL.nil ?_
            obtain rfl := Option.some.inj hb12
            show ∃ s, _ = Ctl.next s ∧ _
            exact ⟨_, rfl, e129, e130, (ctr_next hl22 hr21), (ctr_rng hl22 hr21), hS124⟩
      · intro s139 f135 wd136 hs137 hI138
        obtain ⟨⟩ := s139
        replace hI138 : f135 0 = v_a ∧ f135 1 = v_b ∧ f135 5 = Value.int .i64 (((a).length : Nat) : Int) ∧ InR .i64 (((a).length : Nat) : Int) ∧ St w wd136 [] := hI138
        obtain ⟨hf140, hf141, hf142, hr143, hS144⟩ := hI138
        refine W.seq (W.seq (W.region ?_))
        refine WL.val (Value.int .i64 (((a).length : Nat) : Int)) _ (op_move hf142) rfl ?_
        refine WL.val v_a _ (op_move hf140) rfl ?_
        have hr145 := inR_len (Ty.lift _ hS144.ext r_a)
        refine WL.val (Value.int .i64 ((a).length : Int)) _ (op_lenL sl_22 (Ty.lift _ hS144.ext r_a) rfl) rfl ?_
        refine WL.val (Value.bool (decide ((((a).length : Nat) : Int) < ((a).length : Int)))) _ (op_lss rfl rfl) rfl ?_
        have hl146 : ¬ (((a).length : Nat) : Int) < ((a).length : Int) := by omega
        refine WL.nil ?_
        show W _ _ _ _ _ _
        refine W.condF (decide ((((a).length : Nat) : Int) < ((a).length : Int))) rfl (decide_eq_false hl146) ?_
        refine W.exit ?_
        show _ = _ ∧ _
        exact ⟨rfl, _, hs137, hS144⟩
    · rintro f147 wd148 ⟨s150, rfl, hq149⟩
      replace h := onRes_fin h
      obtain ⟨⟩ := s150
      replace hq149 : St w wd148 [] := hq149
      have hS151 := hq149
      show W _ _ _ _ _ _
      refine W.seq (W.region ?_)
      refine WL.val (Value.bool true) _ (op_assign rfl) rfl ?_
      refine WL.nil ?_
      show W _ _ _ _ _ _
      refine W.ret ?_
      obtain rfl := Option.some.inj h
      show FinP _ _ _ _ _ _ _
      exact FinP.ret _ (res1 rfl rfl) ⟨rfl, hS151.ext⟩

theorem c_spec_l01Own2 {w : World} {lists : (List (List Int))} {v_lists : Value} (r_lists : (Ty.sl (Ty.sl (Ty.i .i64))).rep w v_lists lists) {res : (List (List Int))} (h : p_spec_l01Own2 lists  = some res) :
    Ret Try.prog 102 #[v_lists] w (fun v w' => ∃ (u0 : Value), v = u0 ∧ Ext w w' ∧ Sep w.heap.size w' [(Ty.sl (Ty.sl (Ty.i .i64))).at u0 res]) := by
  unfold p_spec_l01Own2 at h
  have hS0 : St w w [] := St.start w
  refine Ret.start (fn := Try.f102) Try.func102 rfl 21 rfl rfl ?_
  refine W.seq (W.region ?_)
  refine WL.val (Value.slice none 0 0) _ (op_assign rfl) rfl ?_
  refine WL.nil ?_
  show W _ _ _ _ _ _
  refine W.seq (W.region ?_)
  refine WL.lit0 (t := (Ty.sl (Ty.i .i64))) hS0 sl_27 rfl rfl ?_
  intro u1 wd2 hS3 he4
  replace hS3 : St w wd2 [(Ty.sl (Ty.sl (Ty.i .i64))).at u1 ([] : (List (List Int)))] := hS3
  refine WL.val u1 _ (op_assign rfl) rfl ?_
  refine WL.nil ?_
  show W _ _ _ _ _ _
  refine W.seq (W.seq (W.region ?_))
  refine WL.val (Value.int .i64 (0 : Int)) _ (op_assign rfl) rfl ?_
  refine WL.nil ?_
  show W _ _ _ _ _ _
  obtain ⟨res5, hres6, h⟩ := bs h
  refine W.blockLoop (fun fq wq => ∃ s, res5 = Res.fin s ∧ ∃ (uu0 : Value), fq 3 = uu0 ∧ St w wq [(Ty.sl (Ty.sl (Ty.i .i64))).at uu0 s]) ?_ ?_
  · refine W.forN (fun k (s : (List (List Int))) fq wq => ∃ (uu0 : Value), fq 0 = v_lists ∧ fq 3 = uu0 ∧ fq 4 = Value.int .i64 (k : Int) ∧ InR .i64 (k : Int) ∧ St w wq [(Ty.sl (Ty.sl (Ty.i .i64))).at uu0 s]) hres6 ⟨u1, rfl, rfl, rfl, (inR_i64.2 (show (-9223372036854775808 : Int) ≤ 0 ∧ (0 : Int) ≤ 9223372036854775807 from by decide)), hS3⟩ ?_ ?_
    · intro k7 x8 ct9 f10 wd11 hk12 hb13 hI14 hbrk15 hret16
      replace hI14 : ∃ (uu0 : Value), f10 0 = v_lists ∧ f10 3 = uu0 ∧ f10 4 = Value.int .i64 (k7 : Int) ∧ InR .i64 (k7 : Int) ∧ St w wd11 [(Ty.sl (Ty.sl (Ty.i .i64))).at uu0 x8] := hI14
      replace hb13 : p_spec_l01Own2_L1 lists k7 x8 = some ct9 := hb13
      unfold p_spec_l01Own2_L1 at hb13
      obtain ⟨u17, hf18, hf19, hf20, hr21, hS22⟩ := hI14
      refine W.seq (W.seq (W.region ?_))
      refine WL.val (Value.int .i64 (k7 : Int)) _ (op_move hf20) rfl ?_
      refine WL.val v_lists _ (op_move hf18) rfl ?_
      have hr23 := inR_len (Ty.lift _ hS22.ext r_lists)
      refine WL.val (Value.int .i64 ((lists).length : Int)) _ (op_lenL sl_27 (Ty.lift _ hS22.ext r_lists) rfl) rfl ?_
      refine WL.val (Value.bool (decide ((k7 : Int) < ((lists).length : Int)))) _ (op_lss rfl rfl) rfl ?_
      have hl24 : (k7 : Int) < ((lists).length : Int) := by omega
      refine WL.nil ?_
      show W _ _ _ _ _ _
      refine W.condT (decide ((k7 : Int) < ((lists).length : Int))) rfl (decide_eq_true hl24) ?_
      refine W.skip ?_
      show W _ _ _ _ _ _
      refine W.seq ?_
      refine W.block ?_
      refine W.region ?_
      refine WL.val u17 _ (op_move hf19) rfl ?_
      refine WL.val v_lists _ (op_move hf18) rfl ?_
      refine WL.val (Value.int .i64 (k7 : Int)) _ (op_move hf20) rfl ?_
      obtain ⟨x26, hx29, hb13⟩ := bs hb13
      obtain ⟨ha27, hb28, hx29⟩ := idx_some hx29
      refine WL.val (Value.pointer (some (elA v_lists ((k7 : Int)).toNat))) _ (op_idx sl_27 (Ty.lift _ hS22.ext r_lists) rfl rfl ha27 hb28) rfl ?_
      obtain ⟨u30, hc31, hr32⟩ := repSl.el r_lists hx29
      refine WL.val u30 _ (op_load one_22 rfl (Ext.cell hS22.ext hc31)) rfl ?_
      obtain ⟨x33, hx34, hb13⟩ := bs hb13
      refine WL.call _ (op_call fn_87 (args1 rfl)) (c_spec_l01Own (Ty.lift _ hS22.ext hr32) hx34) rfl ?_
      rintro u35 wd36 ⟨_, rfl, he37, hs38⟩
      have hS39 := St.join hS22 he37 hs38
      replace hS39 : St w wd36 [(Ty.sl (Ty.sl (Ty.i .i64))).at u17 x8, (Ty.sl (Ty.i .i64)).at u35 x33] := hS39
      refine WL.lit [u35] hS39 sl_27 rfl rfl (fillL rfl ⟨rfl, rfl, (cells_rep (St.rep (t := (Ty.sl (Ty.i .i64))) hS39 1 rfl)), trivial⟩) rfl rfl ?_
      intro b44 wd41 hS42 he43 hx45
      replace hS42 : St w wd41 [(Ty.sl (Ty.sl (Ty.i .i64))).at u17 x8, (Ty.sl (Ty.i .i64)).at u35 x33, bx b44 [u35]] := hS42
      obtain ⟨x46, hx47, hb13⟩ := bs hb13
      refine WL.appendRow hS42 (k := 0) (k2 := 1) (k3 := 2) rfl rfl rfl rfl sl_27 rfl rfl rfl rfl hx47 rfl ?_
      intro u48 wd49 hS50 hz51
      replace hS50 : St w wd49 [(Ty.sl (Ty.sl (Ty.i .i64))).at u48 x46, emp, bx b44 [u35]] := hS50
      refine WL.val u48 _ (op_assign rfl) rfl ?_
      refine WL.nil ?_
      show W _ _ _ _ _ _
      refine W.region ?_
      refine WL.val (Value.int .i64 (k7 : Int)) _ (op_move hf20) rfl ?_
      refine WL.val (Value.int .i64 (w64 ((k7 : Int) + (1 : Int)))) _ (op_add rfl rfl) rfl ?_
      refine WL.val (Value.int .i64 (w64 ((k7 : Int) + (1 : Int)))) _ (op_assign rfl) rfl ?_
      refine WL.nil ?_
      obtain rfl := Option.some.inj hb13
      show ∃ s, _ = Ctl.next s ∧ _
      exact ⟨_, rfl, u48, hf18, rfl, (ctr_next hl24 hr23), (ctr_rng hl24 hr23), (St.pick hS50 [0] rfl)⟩
    · intro x58 f53 wd54 hs55 hI56
      replace hI56 : ∃ (uu0 : Value), f53 0 = v_lists ∧ f53 3 = uu0 ∧ f53 4 = Value.int .i64 (((lists).length : Nat) : Int) ∧ InR .i64 (((lists).length : Nat) : Int) ∧ St w wd54 [(Ty.sl (Ty.sl (Ty.i .i64))).at uu0 x58] := hI56
      obtain ⟨u59, hf60, hf61, hf62, hr63, hS64⟩ := hI56
      refine W.seq (W.seq (W.region ?_))
      refine WL.val (Value.int .i64 (((lists).length : Nat) : Int)) _ (op_move hf62) rfl ?_
      refine WL.val v_lists _ (op_move hf60) rfl ?_
      have hr65 := inR_len (Ty.lift _ hS64.ext r_lists)
      refine WL.val (Value.int .i64 ((lists).length : Int)) _ (op_lenL sl_27 (Ty.lift _ hS64.ext r_lists) rfl) rfl ?_
      refine WL.val (Value.bool (decide ((((lists).length : Nat) : Int) < ((lists).length : Int)))) _ (op_lss rfl rfl) rfl ?_
      have hl66 : ¬ (((lists).length : Nat) : Int) < ((lists).length : Int) := by omega
      refine WL.nil ?_
      show W _ _ _ _ _ _
      refine W.condF (decide ((((lists).length : Nat) : Int) < ((lists).length : Int))) rfl (decide_eq_false hl66) ?_
      refine W.exit ?_
      show _ = _ ∧ _
      exact ⟨rfl, _, hs55, u59, hf61, hS64⟩
  · rintro f67 wd68 ⟨x71, rfl, hq69⟩
    replace h := onRes_fin h
    replace hq69 : ∃ (uu0 : Value), f67 3 = uu0 ∧ St w wd68 [(Ty.sl (Ty.sl (Ty.i .i64))).at uu0 x71] := hq69
    obtain ⟨u72, hf73, hS74⟩ := hq69
    show W _ _ _ _ _ _
    refine W.seq (W.region ?_)
    refine WL.val u72 _ (op_move hf73) rfl ?_
    refine WL.val u72 _ (op_assign rfl) rfl ?_
    refine WL.nil ?_
    show W _ _ _ _ _ _
    refine W.ret ?_
    obtain rfl := Option.some.inj h
    show FinP _ _ _ _ _ _ _
    exact FinP.ret _ (res1 rfl rfl) ⟨u72, rfl, hS74.ext, (St.out (St.pick hS74 [0] rfl) (Ext.refl _))⟩

theorem c_spec_l03Own {w : World} {t : (List (List (List Int)))} {v_t : Value} (r_t : (Ty.sl (Ty.sl (Ty.sl (Ty.i .i64)))).rep w v_t t) {res : (List (List (List Int)))} (h : p_spec_l03Own t  = some res) :
    Ret Try.prog 88 #[v_t] w (fun v w' => ∃ (u0 : Value), v = u0 ∧ Ext w w' ∧ Sep w.heap.size w' [(Ty.sl (Ty.sl (Ty.sl (Ty.i .i64)))).at u0 res]) := by
  unfold p_spec_l03Own at h
  have hS0 : St w w [] := St.start w
  refine Ret.start (fn := Try.f88) Try.func88 rfl 21 rfl rfl ?_
  refine W.seq (W.region ?_)
  refine WL.val (Value.slice none 0 0) _ (op_assign rfl) rfl ?_
  refine WL.nil ?_
  show W _ _ _ _ _ _
  refine W.seq (W.region ?_)
  refine WL.lit0 (t := (Ty.sl (Ty.sl (Ty.i .i64)))) hS0 sl_23 rfl rfl ?_
  intro u1 wd2 hS3 he4
  replace hS3 : St w wd2 [(Ty.sl (Ty.sl (Ty.sl (Ty.i .i64)))).at u1 ([] : (List (List (List Int))))] := hS3
  refine WL.val u1 _ (op_assign rfl) rfl ?_
  refine WL.nil ?_
  show W _ _ _ _ _ _
  refine W.seq (W.seq (W.region ?_))
  refine WL.val (Value.int .i64 (0 : Int)) _ (op_assign rfl) rfl ?_
  refine WL.nil ?_
  show W _ _ _ _ _ _
  obtain ⟨res5, hres6, h⟩ := bs h
  refine W.blockLoop (fun fq wq => ∃ s, res5 = Res.fin s ∧ ∃ (uu0 : Value), fq 3 = uu0 ∧ St w wq [(Ty.sl (Ty.sl (Ty.sl (Ty.i .i64)))).at uu0 s]) ?_ ?_
  · refine W.forN (fun k (s : (List (List (List Int)))) fq wq => ∃ (uu0 : Value), fq 0 = v_t ∧ fq 3 = uu0 ∧ fq 4 = Value.int .i64 (k : Int) ∧ InR .i64 (k : Int) ∧ St w wq [(Ty.sl (Ty.sl (Ty.sl (Ty.i .i64)))).at uu0 s]) hres6 ⟨u1, rfl, rfl, rfl, (inR_i64.2 (show (-9223372036854775808 : Int) ≤ 0 ∧ (0 : Int) ≤ 9223372036854775807 from by decide)), hS3⟩ ?_ ?_
    · intro k7 x8 ct9 f10 wd11 hk12 hb13 hI14 hbrk15 hret16
      replace hI14 : ∃ (uu0 : Value), f10 0 = v_t ∧ f10 3 = uu0 ∧ f10 4 = Value.int .i64 (k7 : Int) ∧ InR .i64 (k7 : Int) ∧ St w wd11 [(Ty.sl (Ty.sl (Ty.sl (Ty.i .i64)))).at uu0 x8] := hI14
      replace hb13 : p_spec_l03Own_L1 t k7 x8 = some ct9 := hb13
      unfold p_spec_l03Own_L1 at hb13
      obtain ⟨u17, hf18, hf19, hf20, hr21, hS22⟩ := hI14
      refine W.seq (W.seq (W.region ?_))
      refine WL.val (Value.int .i64 (k7 : Int)) _ (op_move hf20) rfl ?_
      refine WL.val v_t _ (op_move hf18) rfl ?_
      have hr23 := inR_len (Ty.lift _ hS22.ext r_t)
      refine WL.val (Value.int .i64 ((t).length : Int)) _ (op_lenL sl_23 (Ty.lift _ hS22.ext r_t) rfl) rfl ?_
      refine WL.val (Value.bool (decide ((k7 : Int) < ((t).length : Int)))) _ (op_lss rfl rfl) rfl ?_
      have hl24 : (k7 : Int) < ((t).length : Int) := by omega
      refine WL.nil ?_
      show W _ _ _ _ _ _
      refine W.condT (decide ((k7 : Int) < ((t).length : Int))) rfl (decide_eq_true hl24) ?_
      refine W.skip ?_
      show W _ _ _ _ _ _
      refine W.seq ?_
      refine W.block ?_
      refine W.region ?_
      refine WL.val u17 _ (op_move hf19) rfl ?_
      refine WL.val v_t _ (op_move hf18) rfl ?_
      refine WL.val (Value.int .i64 (k7 : Int)) _ (op_move hf20) rfl ?_
      obtain ⟨x26, hx29, hb13⟩ := bs hb13
      obtain ⟨ha27, hb28, hx29⟩ := idx_some hx29
      refine WL.val (Value.pointer (some (elA v_t ((k7 : Int)).toNat))) _ (op_idx sl_23 (Ty.lift _ hS22.ext r_t) rfl rfl ha27 hb28) rfl ?_
      obtain ⟨u30, hc31, hr32⟩ := repSl.el r_t hx29
      refine WL.val u30 _ (op_load one_27 rfl (Ext.cell hS22.ext hc31)) rfl ?_
      obtain ⟨x33, hx34, hb13⟩ := bs hb13
      refine WL.call _ (op_call fn_102 (args1 rfl)) (c_spec_l01Own2 (Ty.lift _ hS22.ext hr32) hx34) rfl ?_
      rintro u35 wd36 ⟨_, rfl, he37, hs38⟩
      have hS39 := St.join hS22 he37 hs38
      replace hS39 : St w wd36 [(Ty.sl (Ty.sl (Ty.sl (Ty.i .i64)))).at u17 x8, (Ty.sl (Ty.sl (Ty.i .i64))).at u35 x33] := hS39
      refine WL.lit [u35] hS39 sl_23 rfl rfl (fillL rfl ⟨rfl, rfl, (cells_rep (St.rep (t := (Ty.sl (Ty.sl (Ty.i .i64)))) hS39 1 rfl)), trivial⟩) rfl rfl ?_
      intro b44 wd41 hS42 he43 hx45
      replace hS42 : St w wd41 [(Ty.sl (Ty.sl (Ty.sl (Ty.i .i64)))).at u17 x8, (Ty.sl (Ty.sl (Ty.i .i64))).at u35 x33, bx b44 [u35]] := hS42
      obtain ⟨x46, hx47, hb13⟩ := bs hb13
      refine WL.appendRow hS42 (k := 0) (k2 := 1) (k3 := 2) rfl rfl rfl rfl sl_23 rfl rfl rfl rfl hx47 rfl ?_
      intro u48 wd49 hS50 hz51
      replace hS50 : St w wd49 [(Ty.sl (Ty.sl (Ty.sl (Ty.i .i64)))).at u48 x46, emp, bx b44 [u35]] := hS50
      refine WL.val u48 _ (op_assign rfl) rfl ?_
      refine WL.nil ?_
      show W _ _ _ _ _ _
      refine W.region ?_
      refine WL.val (Value.int .i64 (k7 : Int)) _ (op_move hf20) rfl ?_
      refine WL.val (Value.int .i64 (w64 ((k7 : Int) + (1 : Int)))) _ (op_add rfl rfl) rfl ?_
      refine WL.val (Value.int .i64 (w64 ((k7 : Int) + (1 : Int)))) _ (op_assign rfl) rfl ?_
      refine WL.nil ?_
      obtain rfl := Option.some.inj hb13
      show ∃ s, _ = Ctl.next s ∧ _
      exact ⟨_, rfl, u48, hf18, rfl, (ctr_next hl24 hr23), (ctr_rng hl24 hr23), (St.pick hS50 [0] rfl)⟩
    · intro x58 f53 wd54 hs55 hI56
      replace hI56 : ∃ (uu0 : Value), f53 0 = v_t ∧ f53 3 = uu0 ∧ f53 4 = Value.int .i64 (((t).length : Nat) : Int) ∧ InR .i64 (((t).length : Nat) : Int) ∧ St w wd54 [(Ty.sl (Ty.sl (Ty.sl (Ty.i .i64)))).at uu0 x58] := hI56
      obtain ⟨u59, hf60, hf61, hf62, hr63, hS64⟩ := hI56
      refine W.seq (W.seq (W.region ?_))
      refine WL.val (Value.int .i64 (((t).length : Nat) : Int)) _ (op_move hf62) rfl ?_
      refine WL.val v_t _ (op_move hf60) rfl ?_
      have hr65 := inR_len (Ty.lift _ hS64.ext r_t)
      refine WL.val (Value.int .i64 ((t).length : Int)) _ (op_lenL sl_23 (Ty.lift _ hS64.ext r_t) rfl) rfl ?_
      refine WL.val (Value.bool (decide ((((t).length : Nat) : Int) < ((t).length : Int)))) _ (op_lss rfl rfl) rfl ?_
      have hl66 : ¬ (((t).length : Nat) : Int) < ((t).length : Int) := by omega
      refine WL.nil ?_
      show W _ _ _ _ _ _
      refine W.condF (decide ((((t).length : Nat) : Int) < ((t).length : Int))) rfl (decide_eq_false hl66) ?_
      refine W.exit ?_
      show _ = _ ∧ _
      exact ⟨rfl, _, hs55, u59, hf61, hS64⟩
  · rintro f67 wd68 ⟨x71, rfl, hq69⟩
    replace h := onRes_fin h
    replace hq69 : ∃ (uu0 : Value), f67 3 = uu0 ∧ St w wd68 [(Ty.sl (Ty.sl (Ty.sl (Ty.i .i64)))).at uu0 x71] := hq69
    obtain ⟨u72, hf73, hS74⟩ := hq69
    show W _ _ _ _ _ _
    refine W.seq (W.region ?_)
    refine WL.val u72 _ (op_move hf73) rfl ?_
    refine WL.val u72 _ (op_assign rfl) rfl ?_
    refine WL.nil ?_
    show W _ _ _ _ _ _
    refine W.ret ?_
    obtain rfl := Option.some.inj h
    show FinP _ _ _ _ _ _ _
    exact FinP.ret _ (res1 rfl rfl) ⟨u72, rfl, hS74.ext, (St.out (St.pick hS74 [0] rfl) (Ext.refl _))⟩

theorem c_spec_l17Sum {w : World} {c_Orders : (List Int)} {v_c_Orders : Value} {c_Modulus : Int} {c_Values : (List (List (List Int)))} {v_c_Values : Value} {d_Orders : (List Int)} {v_d_Orders : Value} {d_Modulus : Int} {d_Values : (List (List (List Int)))} {v_d_Values : Value} (r_c_Orders : (Ty.sl (Ty.i .i64)).rep w v_c_Orders c_Orders) (r_c_Modulus : InR .i64 c_Modulus) (r_c_Values : (Ty.sl (Ty.sl (Ty.sl (Ty.i .i64)))).rep w v_c_Values c_Values) (r_d_Orders : (Ty.sl (Ty.i .i64)).rep w v_d_Orders d_Orders) (r_d_Modulus : InR .i64 d_Modulus) (r_d_Values : (Ty.sl (Ty.sl (Ty.sl (Ty.i .i64)))).rep w v_d_Values d_Values) {res : (List Int) × Int × (List (List (List Int)))} (h : p_spec_l17Sum c_Orders c_Modulus c_Values d_Orders d_Modulus d_Values  = some res) :
    Ret Try.prog 61 #[(Value.agg #[v_c_Orders, (Value.int .i64 c_Modulus), v_c_Values]), (Value.agg #[v_d_Orders, (Value.int .i64 d_Modulus), v_d_Values])] w (fun v w' => ∃ (u0 : Value) (u2 : Value), v = (Value.agg #[u0, Value.int .i64 res.2.1, u2]) ∧ InR .i64 res.2.1 ∧ Ext w w' ∧ Sep w.heap.size w' [(Ty.sl (Ty.i .i64)).at u0 res.1, (Ty.sl (Ty.sl (Ty.sl (Ty.i .i64)))).at u2 res.2.2]) := by
  unfold p_spec_l17Sum at h
  have hS0 : St w w [] := St.start w
  refine Ret.start (fn := Try.f61) Try.func61 rfl 76 rfl rfl ?_
  refine W.seq (W.region ?_)
  refine WL.box hS0 rfl (cs := [v_c_Orders, (Value.int .i64 c_Modulus), v_c_Values]) rfl rfl ?_
  intro b1 wd2 hS3 he4 hx5
  replace hS3 : St w wd2 [bx b1 [v_c_Orders, (Value.int .i64 c_Modulus), v_c_Values]] := hS3
  have hx6 := St.boxAt hS3 0 rfl
  have hE7 : Ext w wd2 := hS3.ext
  have hS8 : St wd2 wd2 [] := St.start wd2
  refine WL.box hS8 rfl (cs := [v_d_Orders, (Value.int .i64 d_Modulus), v_d_Values]) rfl rfl ?_
  intro b9 wd10 hS11 he12 hx13
  replace hS11 : St wd2 wd10 [bx b9 [v_d_Orders, (Value.int .i64 d_Modulus), v_d_Values]] := hS11
  have hx14 := St.boxAt hS11 0 rfl
  have hE15 : Ext w wd10 := (Ext.trans hE7 hS11.ext)
  have hE16 : Ext wd2 wd10 := hS11.ext
  have hS17 : St wd10 wd10 [] := St.start wd10
  refine WL.alloc hS17 ze_30 (cs := [(Value.slice none 0 0), (Value.int .i64 (0 : Int)), (Value.slice none 0 0)]) rfl rfl ?_
  intro b18 wd19 hS20 he21
  replace hS20 : St wd10 wd19 [bx b18 [(Value.slice none 0 0), (Value.int .i64 (0 : Int)), (Value.slice none 0 0)]] := hS20
  refine WL.nil ?_
  show W _ _ _ _ _ _
  refine W.seq ?_
  obtain ⟨x49, hx50, h⟩ := bs h
  obtain ⟨x99, hx100, h⟩ := bs h
  refine W.drawR mixo 10 [] [fun _ v _ _ => v = (Value.pointer (some ⟨b1, 0, none⟩)), fun _ v _ _ => v = v_c_Orders, fun _ v S w' => SepS S w' [(Ty.sl (Ty.i .i64)).at v x49], fun _ v _ _ => v = (Value.pointer (some ⟨b1, 1, none⟩)), fun _ v _ _ => v = (Value.int .i64 c_Modulus) ∧ InR .i64 c_Modulus, fun _ v _ _ => v = (Value.pointer (some ⟨b1, 2, none⟩)), fun _ v _ _ => v = v_c_Values, fun _ v S w' => SepS S w' [(Ty.sl (Ty.sl (Ty.sl (Ty.i .i64)))).at v x99], fun f v _ _ => v = Value.agg #[f 11, f 13, f 16], fun _ v S w' => ∃ b : Nat, v = Value.pointer (some ⟨b, 0, none⟩) ∧ SepS S w' [bx b [(Value.slice none 0 0), (Value.int .i64 (0 : Int)), (Value.slice none 0 0)]]] (by kernel_rfl) (by kernel_rfl) ⟨⟨fun _ _ _ _ _ _ h => h, fun _ _ _ _ _ _ h => h⟩, ⟨fun _ _ _ _ _ _ h => h, fun _ _ _ _ _ _ h => h⟩, ⟨fun _ _ _ _ _ he h => SepS.extend he h, fun _ _ _ _ _ _ h => h⟩, ⟨fun _ _ _ _ _ _ h => h, fun _ _ _ _ _ _ h => h⟩, ⟨fun _ _ _ _ _ _ h => h, fun _ _ _ _ _ _ h => h⟩, ⟨fun _ _ _ _ _ _ h => h, fun _ _ _ _ _ _ h => h⟩, ⟨fun _ _ _ _ _ _ h => h, fun _ _ _ _ _ _ h => h⟩, ⟨fun _ _ _ _ _ he h => SepS.extend he h, fun _ _ _ _ _ _ h => h⟩, ⟨fun _ _ _ _ _ _ h => h, fun f1 f2 _ _ _ hf h => by show _ = Value.agg #[f2 11, f2 13, f2 16]; rw [← hf 2 11 rfl rfl, ← hf 4 13 rfl rfl, ← hf 7 16 rfl rfl]; exact h⟩, ⟨fun _ _ _ _ _ he ⟨b, h1, h2⟩ => ⟨b, h1, SepS.extend he h2⟩, fun _ _ _ _ _ _ h => h⟩, trivial⟩ ⟨?_, ?_, ?_, ?_, ?_, ?_, ?_, ?_, ?_, ?_, trivial⟩ ?_
  · refine ObX.op rfl ?_
    intro f22 wd23 he24 hout25 hphi26
    have hS27 : St wd10 wd23 [bx b18 [(Value.slice none 0 0), (Value.int .i64 (0 : Int)), (Value.slice none 0 0)]] := St.extend hS20 he24
    have e28 : f22 2 = (Value.pointer (some ⟨b1, 0, none⟩)) := (hout25 2 rfl).trans rfl
    exact OpX.val (Value.pointer (some ⟨b1, 0, none⟩)) wd23 rfl (op_fieldAddr fd_30_0 e28) (Ext.refl _) rfl
  · refine ObX.op rfl ?_
    intro f29 wd30 he31 hout32 hphi33
    have hS34 : St wd10 wd30 [bx b18 [(Value.slice none 0 0), (Value.int .i64 (0 : Int)), (Value.slice none 0 0)]] := St.extend hS20 he31
    obtain ⟨S35, hS36, hf37⟩ := hphi33 0 9 _ rfl rfl rfl
    have e38 : f29 9 = (Value.pointer (some ⟨b1, 0, none⟩)) := hf37
    exact OpX.val v_c_Orders wd30 rfl (op_load one_22 e38 (BoxAt.cell (BoxAt.lift (Ext.trans hE16 hS34.ext) hx6) rfl)) (Ext.refl _) rfl
  · refine ObX.op rfl ?_
    intro f39 wd40 he41 hout42 hphi43
    have hS44 : St wd10 wd40 [bx b18 [(Value.slice none 0 0), (Value.int .i64 (0 : Int)), (Value.slice none 0 0)]] := St.extend hS20 he41
    obtain ⟨S45, hS46, hf47⟩ := hphi43 1 10 _ rfl rfl rfl
    have e48 : f39 10 = v_c_Orders := hf47
    refine OpX.call rfl (op_call fn_87 (args1 e48)) (Ret.mono (c_spec_l01Own (Ty.lift _ (Ext.trans hE15 hS44.ext) r_c_Orders) hx50) ?_)
    rintro u51 wd52 ⟨_, rfl, he53, hs54⟩
    exact ⟨he53, _, newS _ _, (Sep.new hs54)⟩
  · refine ObX.op rfl ?_
    intro f55 wd56 he57 hout58 hphi59
    have hS60 : St wd10 wd56 [bx b18 [(Value.slice none 0 0), (Value.int .i64 (0 : Int)), (Value.slice none 0 0)]] := St.extend hS20 he57
    have e61 : f55 2 = (Value.pointer (some ⟨b1, 0, none⟩)) := (hout58 2 rfl).trans rfl
    exact OpX.val (Value.pointer (some ⟨b1, 1, none⟩)) wd56 rfl (op_fieldAddr fd_30_1 e61) (Ext.refl _) rfl
  · refine ObX.op rfl ?_
    intro f62 wd63 he64 hout65 hphi66
    have hS67 : St wd10 wd63 [bx b18 [(Value.slice none 0 0), (Value.int .i64 (0 : Int)), (Value.slice none 0 0)]] := St.extend hS20 he64
    obtain ⟨S68, hS69, hf70⟩ := hphi66 3 12 _ rfl rfl rfl
    have e71 : f62 12 = (Value.pointer (some ⟨b1, 1, none⟩)) := hf70
    exact OpX.val (Value.int .i64 c_Modulus) wd63 rfl (op_load one_2 e71 (BoxAt.cell (BoxAt.lift (Ext.trans hE16 hS67.ext) hx6) rfl)) (Ext.refl _) ⟨rfl, r_c_Modulus⟩
  · refine ObX.op rfl ?_
    intro f72 wd73 he74 hout75 hphi76
    have hS77 : St wd10 wd73 [bx b18 [(Value.slice none 0 0), (Value.int .i64 (0 : Int)), (Value.slice none 0 0)]] := St.extend hS20 he74
    have e78 : f72 2 = (Value.pointer (some ⟨b1, 0, none⟩)) := (hout75 2 rfl).trans rfl
    exact OpX.val (Value.pointer (some ⟨b1, 2, none⟩)) wd73 rfl (op_fieldAddr fd_30_2 e78) (Ext.refl _) rfl
  · refine ObX.op rfl ?_
    intro f79 wd80 he81 hout82 hphi83
    have hS84 : St wd10 wd80 [bx b18 [(Value.slice none 0 0), (Value.int .i64 (0 : Int)), (Value.slice none 0 0)]] := St.extend hS20 he81
    obtain ⟨S85, hS86, hf87⟩ := hphi83 5 14 _ rfl rfl rfl
    have e88 : f79 14 = (Value.pointer (some ⟨b1, 2, none⟩)) := hf87
    exact OpX.val v_c_Values wd80 rfl (op_load one_23 e88 (BoxAt.cell (BoxAt.lift (Ext.trans hE16 hS84.ext) hx6) rfl)) (Ext.refl _) rfl
  · refine ObX.op rfl ?_
    intro f89 wd90 he91 hout92 hphi93
    have hS94 : St wd10 wd90 [bx b18 [(Value.slice none 0 0), (Value.int .i64 (0 : Int)), (Value.slice none 0 0)]] := St.extend hS20 he91
    obtain ⟨S95, hS96, hf97⟩ := hphi93 6 15 _ rfl rfl rfl
    have e98 : f89 15 = v_c_Values := hf97
    refine OpX.call rfl (op_call fn_88 (args1 e98)) (Ret.mono (c_spec_l03Own (Ty.lift _ (Ext.trans hE15 hS94.ext) r_c_Values) hx100) ?_)
    rintro u101 wd102 ⟨_, rfl, he103, hs104⟩
    exact ⟨he103, _, newS _ _, (Sep.new hs104)⟩
  · refine ObX.op rfl ?_
    intro f105 wd106 he107 hout108 hphi109
    have hS110 : St wd10 wd106 [bx b18 [(Value.slice none 0 0), (Value.int .i64 (0 : Int)), (Value.slice none 0 0)]] := St.extend hS20 he107
    obtain ⟨S111, hS112, hf113⟩ := hphi109 2 11 _ rfl rfl rfl
    have e114 : SepS S111 wd106 [(Ty.sl (Ty.i .i64)).at (f105 11) x49] := hf113
    obtain ⟨S115, hS116, hf117⟩ := hphi109 4 13 _ rfl rfl rfl
    obtain ⟨e118, hr119⟩ : f105 13 = (Value.int .i64 c_Modulus) ∧ InR .i64 c_Modulus := hf117
    obtain ⟨S120, hS121, hf122⟩ := hphi109 7 16 _ rfl rfl rfl
    have e123 : SepS S120 wd106 [(Ty.sl (Ty.sl (Ty.sl (Ty.i .i64)))).at (f105 16) x99] := hf122
    exact OpX.val (Value.agg #[(f105 11), (Value.int .i64 c_Modulus), (f105 16)]) wd106 rfl (op_build bd_30 (parts := [(0, (f105 11), [(f105 11)]), (1, (Value.int .i64 c_Modulus), [(Value.int .i64 c_Modulus)]), (2, (f105 16), [(f105 16)])]) (partsL ⟨rfl, rfl, rfl, e118, rfl, rfl, trivial⟩) ⟨(cells_rep (SepS.rep (t := (Ty.sl (Ty.i .i64))) e114 0 rfl)), rfl, (cells_rep (SepS.rep (t := (Ty.sl (Ty.sl (Ty.sl (Ty.i .i64))))) e123 0 rfl)), trivial⟩ rfl) (Ext.refl _) (by rw [e118])
  · refine ObX.op rfl ?_
    intro f124 wd125 he126 hout127 hphi128
    have hS129 : St wd10 wd125 [bx b18 [(Value.slice none 0 0), (Value.int .i64 (0 : Int)), (Value.slice none 0 0)]] := St.extend hS20 he126
    exact OpX.valO _ _ rfl (op_alloc (cs := [(Value.slice none 0 0), (Value.int .i64 (0 : Int)), (Value.slice none 0 0)].toArray) ze_30 rfl) (Ext.alloc _ _) ⟨_, rfl, Sep.new (sep_box _ [(Value.slice none 0 0), (Value.int .i64 (0 : Int)), (Value.slice none 0 0)] _)⟩
  · intro f130 wd131 Ss132 he133 hout134 hSn135 hSd136 hphi137
    show WL _ _ _ _ _ _ _
    have hS138 : St wd10 wd131 [bx b18 [(Value.slice none 0 0), (Value.int .i64 (0 : Int)), (Value.slice none 0 0)]] := St.extend hS20 he133
    have e139 : SepS (Ss132 2) wd131 [(Ty.sl (Ty.i .i64)).at (f130 11) x49] := hphi137 2 11 _ (by decide) rfl rfl
    obtain ⟨e140, hr141⟩ : f130 13 = (Value.int .i64 c_Modulus) ∧ InR .i64 c_Modulus := hphi137 4 13 _ (by decide) rfl rfl
    have e142 : SepS (Ss132 7) wd131 [(Ty.sl (Ty.sl (Ty.sl (Ty.i .i64)))).at (f130 16) x99] := hphi137 7 16 _ (by decide) rfl rfl
    have e143 : f130 17 = (Value.agg #[(f130 11), (Value.int .i64 c_Modulus), (f130 16)]) := Eq.trans (hphi137 8 17 _ (by decide) rfl rfl) (by rw [e140])
    obtain ⟨b145, e144, e144s⟩ : ∃ b : Nat, f130 5 = Value.pointer (some ⟨b, 0, none⟩) ∧ SepS (Ss132 9) wd131 [bx b [(Value.slice none 0 0), (Value.int .i64 (0 : Int)), (Value.slice none 0 0)]] := hphi137 9 5 _ (by decide) rfl rfl
    have e146 : f130 2 = (Value.pointer (some ⟨b1, 0, none⟩)) := (hout134 2 rfl).trans rfl
    have e147 : f130 3 = (Value.pointer (some ⟨b9, 0, none⟩)) := (hout134 3 rfl).trans rfl
    have e148 : f130 4 = (Value.pointer (some ⟨b18, 0, none⟩)) := (hout134 4 rfl).trans rfl
    have hS149 := St.joinS hS20 he133 hSn135 (SepS.consS hSd136 rfl e144s (SepS.consS hSd136 rfl e139 (SepS.consS hSd136 rfl e142 SepS.nilS)))
    replace hS149 : St wd10 wd131 [bx b18 [(Value.slice none 0 0), (Value.int .i64 (0 : Int)), (Value.slice none 0 0)], bx b145 [(Value.slice none 0 0), (Value.int .i64 (0 : Int)), (Value.slice none 0 0)], (Ty.sl (Ty.i .i64)).at (f130 11) x49, (Ty.sl (Ty.sl (Ty.sl (Ty.i .i64)))).at (f130 16) x99] := hS149
    refine WL.storeBox [(f130 11), (Value.int .i64 c_Modulus), (f130 16)] hS149 (k := 1) rfl e144 e143 (us := [(f130 11), (Value.int .i64 c_Modulus), (f130 16)]) rfl sz_30 rfl rfl (all_rep (St.rep (t := (Ty.sl (Ty.i .i64))) hS149 2 rfl) (all_cons rfl (all_rep (St.rep (t := (Ty.sl (Ty.sl (Ty.sl (Ty.i .i64))))) hS149 3 rfl) all_nil))) rfl ?_
    intro wd150 hS151
    replace hS151 : St wd10 wd150 [bx b18 [(Value.slice none 0 0), (Value.int .i64 (0 : Int)), (Value.slice none 0 0)], bx b145 [(f130 11), (Value.int .i64 c_Modulus), (f130 16)], (Ty.sl (Ty.i .i64)).at (f130 11) x49, (Ty.sl (Ty.sl (Ty.sl (Ty.i .i64)))).at (f130 16) x99] := hS151
    refine WL.nil ?_
    show W _ _ _ _ _ _
    refine W.seq (W.seq (W.region ?_))
    refine WL.val (Value.int .i64 (0 : Int)) _ (op_assign rfl) rfl ?_
    refine WL.nil ?_
    show W _ _ _ _ _ _
    obtain ⟨res152, hres153, h⟩ := bs h
    refine W.blockLoop (fun fq wq => ∃ s, res152 = Res.fin s ∧ fq 4 = (Value.pointer (some ⟨b18, 0, none⟩)) ∧ fq 5 = (Value.pointer (some ⟨b145, 0, none⟩)) ∧ St wd10 wq [bx b18 [(Value.slice none 0 0), (Value.int .i64 (0 : Int)), (Value.slice none 0 0)], bx b145 [(f130 11), (Value.int .i64 c_Modulus), (f130 16)], (Ty.sl (Ty.i .i64)).at (f130 11) x49, (Ty.sl (Ty.sl (Ty.sl (Ty.i .i64)))).at (f130 16) s.1]) ?_ ?_
    · refine W.whileC (fun (s : (List (List (List Int))) × Int) fq wq => fq 2 = (Value.pointer (some ⟨b1, 0, none⟩)) ∧ fq 3 = (Value.pointer (some ⟨b9, 0, none⟩)) ∧ fq 4 = (Value.pointer (some ⟨b18, 0, none⟩)) ∧ fq 5 = (Value.pointer (some ⟨b145, 0, none⟩)) ∧ fq 6 = Value.int .i64 s.2 ∧ InR .i64 s.2 ∧ St wd10 wq [bx b18 [(Value.slice none 0 0), (Value.int .i64 (0 : Int)), (Value.slice none 0 0)], bx b145 [(f130 11), (Value.int .i64 c_Modulus), (f130 16)], (Ty.sl (Ty.i .i64)).at (f130 11) x49, (Ty.sl (Ty.sl (Ty.sl (Ty.i .i64)))).at (f130 16) s.1]) hres153 ⟨e146, e147, e148, e144, rfl, (inR_i64.2 (show (-9223372036854775808 : Int) ≤ 0 ∧ (0 : Int) ≤ 9223372036854775807 from by decide)), hS151⟩ ?_
      intro s721 ct157 f158 wd159 hb161 hI162 hbrk163 hret164
      obtain ⟨x155, x156⟩ := s721
      replace hI162 : f158 2 = (Value.pointer (some ⟨b1, 0, none⟩)) ∧ f158 3 = (Value.pointer (some ⟨b9, 0, none⟩)) ∧ f158 4 = (Value.pointer (some ⟨b18, 0, none⟩)) ∧ f158 5 = (Value.pointer (some ⟨b145, 0, none⟩)) ∧ f158 6 = Value.int .i64 x156 ∧ InR .i64 x156 ∧ St wd10 wd159 [bx b18 [(Value.slice none 0 0), (Value.int .i64 (0 : Int)), (Value.slice none 0 0)], bx b145 [(f130 11), (Value.int .i64 c_Modulus), (f130 16)], (Ty.sl (Ty.i .i64)).at (f130 11) x49, (Ty.sl (Ty.sl (Ty.sl (Ty.i .i64)))).at (f130 16) x155] := hI162
      replace hb161 : p_spec_l17Sum_L1 c_Values d_Values c_Modulus  x155 x156 = some ct157 := hb161
      unfold p_spec_l17Sum_L1 at hb161
      obtain ⟨hf165, hf166, hf167, hf168, hf169, hr170, hS171⟩ := hI162
      refine W.seq (W.seq (W.region ?_))
      refine WL.val (Value.int .i64 x156) _ (op_move hf169) rfl ?_
      refine WL.val (Value.pointer (some ⟨b145, 2, none⟩)) _ (op_fieldAddr fd_30_2 hf168) rfl ?_
      refine WL.val (f130 16) _ (op_load one_23 rfl (BoxAt.cell (St.boxAt hS171 1 rfl) rfl)) rfl ?_
      have hr172 := inR_len (St.rep (t := (Ty.sl (Ty.sl (Ty.sl (Ty.i .i64))))) hS171 3 rfl)
      refine WL.val (Value.int .i64 ((x155).length : Int)) _ (op_lenL sl_23 (St.rep (t := (Ty.sl (Ty.sl (Ty.sl (Ty.i .i64))))) hS171 3 rfl) rfl) rfl ?_
      refine WL.val (Value.bool (decide (x156 < ((x155).length : Int)))) _ (op_lss rfl rfl) rfl ?_
      refine WL.nil ?_
      show W _ _ _ _ _ _
      refine W.cond (decide (x156 < ((x155).length : Int))) rfl (fun hc173 => ?_) (fun hc173 => ?_)
      · replace hb161 := ip hb161 hc173
        refine W.skip ?_
        show W _ _ _ _ _ _
        refine W.seq ?_
        refine W.block ?_
        refine W.seq (W.region ?_)
        refine WL.val (Value.int .i64 (0 : Int)) _ (op_assign rfl) rfl ?_
        refine WL.nil ?_
        show W _ _ _ _ _ _
        obtain ⟨res175, hres176, hb161⟩ := bs hb161
        refine W.blockLoop (fun fq wq => ∃ s, res175 = Res.fin s ∧ fq 2 = (Value.pointer (some ⟨b1, 0, none⟩)) ∧ fq 3 = (Value.pointer (some ⟨b9, 0, none⟩)) ∧ fq 4 = (Value.pointer (some ⟨b18, 0, none⟩)) ∧ fq 5 = (Value.pointer (some ⟨b145, 0, none⟩)) ∧ fq 6 = (Value.int .i64 x156) ∧ St wd10 wq [bx b18 [(Value.slice none 0 0), (Value.int .i64 (0 : Int)), (Value.slice none 0 0)], bx b145 [(f130 11), (Value.int .i64 c_Modulus), (f130 16)], (Ty.sl (Ty.i .i64)).at (f130 11) x49, (Ty.sl (Ty.sl (Ty.sl (Ty.i .i64)))).at (f130 16) s.1]) ?_ ?_
        · refine W.whileC (fun (s : (List (List (List Int))) × Int) fq wq => fq 2 = (Value.pointer (some ⟨b1, 0, none⟩)) ∧ fq 3 = (Value.pointer (some ⟨b9, 0, none⟩)) ∧ fq 4 = (Value.pointer (some ⟨b18, 0, none⟩)) ∧ fq 5 = (Value.pointer (some ⟨b145, 0, none⟩)) ∧ fq 6 = (Value.int .i64 x156) ∧ fq 7 = Value.int .i64 s.2 ∧ InR .i64 s.2 ∧ St wd10 wq [bx b18 [(Value.slice none 0 0), (Value.int .i64 (0 : Int)), (Value.slice none 0 0)], bx b145 [(f130 11), (Value.int .i64 c_Modulus), (f130 16)], (Ty.sl (Ty.i .i64)).at (f130 11) x49, (Ty.sl (Ty.sl (Ty.sl (Ty.i .i64)))).at (f130 16) s.1]) hres176 ⟨hf165, hf166, hf167, hf168, hf169, rfl, (inR_i64.2 (show (-9223372036854775808 : Int) ≤ 0 ∧ (0 : Int) ≤ 9223372036854775807 from by decide)), hS171⟩ ?_
          intro s707 ct180 f181 wd182 hb184 hI185 hbrk186 hret187
          obtain ⟨x178, x179⟩ := s707
          replace hI185 : f181 2 = (Value.pointer (some ⟨b1, 0, none⟩)) ∧ f181 3 = (Value.pointer (some ⟨b9, 0, none⟩)) ∧ f181 4 = (Value.pointer (some ⟨b18, 0, none⟩)) ∧ f181 5 = (Value.pointer (some ⟨b145, 0, none⟩)) ∧ f181 6 = (Value.int .i64 x156) ∧ f181 7 = Value.int .i64 x179 ∧ InR .i64 x179 ∧ St wd10 wd182 [bx b18 [(Value.slice none 0 0), (Value.int .i64 (0 : Int)), (Value.slice none 0 0)], bx b145 [(f130 11), (Value.int .i64 c_Modulus), (f130 16)], (Ty.sl (Ty.i .i64)).at (f130 11) x49, (Ty.sl (Ty.sl (Ty.sl (Ty.i .i64)))).at (f130 16) x178] := hI185
          replace hb184 : p_spec_l17Sum_L2 x156 c_Values d_Values c_Modulus  x178 x179 = some ct180 := hb184
          unfold p_spec_l17Sum_L2 at hb184
          obtain ⟨hf188, hf189, hf190, hf191, hf192, hf193, hr194, hS195⟩ := hI185
          refine W.seq (W.seq (W.region ?_))
          refine WL.val (Value.int .i64 x179) _ (op_move hf193) rfl ?_
          refine WL.val (Value.pointer (some ⟨b145, 2, none⟩)) _ (op_fieldAddr fd_30_2 hf191) rfl ?_
          refine WL.val (f130 16) _ (op_load one_23 rfl (BoxAt.cell (St.boxAt hS195 1 rfl) rfl)) rfl ?_
          have hr196 := inR_len (St.rep (t := (Ty.sl (Ty.sl (Ty.sl (Ty.i .i64))))) hS195 3 rfl)
          refine WL.val (Value.int .i64 ((x178).length : Int)) _ (op_lenL sl_23 (St.rep (t := (Ty.sl (Ty.sl (Ty.sl (Ty.i .i64))))) hS195 3 rfl) rfl) rfl ?_
          refine WL.val (Value.bool (decide (x179 < ((x178).length : Int)))) _ (op_lss rfl rfl) rfl ?_
          refine WL.nil ?_
          show W _ _ _ _ _ _
          refine W.cond (decide (x179 < ((x178).length : Int))) rfl (fun hc197 => ?_) (fun hc197 => ?_)
          · replace hb184 := ip hb184 hc197
            refine W.skip ?_
            show W _ _ _ _ _ _
            refine W.seq ?_
            refine W.block ?_
            refine W.seq (W.region ?_)
            refine WL.val (Value.int .i64 (0 : Int)) _ (op_assign rfl) rfl ?_
            refine WL.nil ?_
            show W _ _ _ _ _ _
            obtain ⟨res199, hres200, hb184⟩ := bs hb184
            refine W.blockLoop (fun fq wq => ∃ s, res199 = Res.fin s ∧ fq 2 = (Value.pointer (some ⟨b1, 0, none⟩)) ∧ fq 3 = (Value.pointer (some ⟨b9, 0, none⟩)) ∧ fq 4 = (Value.pointer (some ⟨b18, 0, none⟩)) ∧ fq 5 = (Value.pointer (some ⟨b145, 0, none⟩)) ∧ fq 6 = (Value.int .i64 x156) ∧ fq 7 = (Value.int .i64 x179) ∧ (s).length = (x178).length ∧ St wd10 wq [bx b18 [(Value.slice none 0 0), (Value.int .i64 (0 : Int)), (Value.slice none 0 0)], bx b145 [(f130 11), (Value.int .i64 c_Modulus), (f130 16)], (Ty.sl (Ty.i .i64)).at (f130 11) x49, (Ty.sl (Ty.sl (Ty.sl (Ty.i .i64)))).at (f130 16) s]) ?_ ?_
            · refine W.forN (fun k (s : (List (List (List Int)))) fq wq => fq 2 = (Value.pointer (some ⟨b1, 0, none⟩)) ∧ fq 3 = (Value.pointer (some ⟨b9, 0, none⟩)) ∧ fq 4 = (Value.pointer (some ⟨b18, 0, none⟩)) ∧ fq 5 = (Value.pointer (some ⟨b145, 0, none⟩)) ∧ fq 6 = (Value.int .i64 x156) ∧ fq 7 = (Value.int .i64 x179) ∧ fq 8 = Value.int .i64 (k : Int) ∧ InR .i64 (k : Int) ∧ (s).length = (x178).length ∧ St wd10 wq [bx b18 [(Value.slice none 0 0), (Value.int .i64 (0 : Int)), (Value.slice none 0 0)], bx b145 [(f130 11), (Value.int .i64 c_Modulus), (f130 16)], (Ty.sl (Ty.i .i64)).at (f130 11) x49, (Ty.sl (Ty.sl (Ty.sl (Ty.i .i64)))).at (f130 16) s]) hres200 ⟨hf188, hf189, hf190, hf191, hf192, hf193, rfl, (inR_i64.2 (show (-9223372036854775808 : Int) ≤ 0 ∧ (0 : Int) ≤ 9223372036854775807 from by decide)), rfl, hS195⟩ ?_ ?_
              · intro k201 x202 ct203 f204 wd205 hk206 hb207 hI208 hbrk209 hret210
                replace hI208 : f204 2 = (Value.pointer (some ⟨b1, 0, none⟩)) ∧ f204 3 = (Value.pointer (some ⟨b9, 0, none⟩)) ∧ f204 4 = (Value.pointer (some ⟨b18, 0, none⟩)) ∧ f204 5 = (Value.pointer (some ⟨b145, 0, none⟩)) ∧ f204 6 = (Value.int .i64 x156) ∧ f204 7 = (Value.int .i64 x179) ∧ f204 8 = Value.int .i64 (k201 : Int) ∧ InR .i64 (k201 : Int) ∧ (x202).length = (x178).length ∧ St wd10 wd205 [bx b18 [(Value.slice none 0 0), (Value.int .i64 (0 : Int)), (Value.slice none 0 0)], bx b145 [(f130 11), (Value.int .i64 c_Modulus), (f130 16)], (Ty.sl (Ty.i .i64)).at (f130 11) x49, (Ty.sl (Ty.sl (Ty.sl (Ty.i .i64)))).at (f130 16) x202] := hI208
                replace hb207 : p_spec_l17Sum_L3 x156 x179 c_Values d_Values c_Modulus k201 x202 = some ct203 := hb207
                unfold p_spec_l17Sum_L3 at hb207
                obtain ⟨hf211, hf212, hf213, hf214, hf215, hf216, hf217, hr218, hL219, hS220⟩ := hI208
                refine W.seq (W.seq (W.region ?_))
                refine WL.val (Value.int .i64 (k201 : Int)) _ (op_move hf217) rfl ?_
                refine WL.val (Value.pointer (some ⟨b145, 2, none⟩)) _ (op_fieldAddr fd_30_2 hf214) rfl ?_
                refine WL.val (f130 16) _ (op_load one_23 rfl (BoxAt.cell (St.boxAt hS220 1 rfl) rfl)) rfl ?_
                have hr221 := inR_len (St.rep (t := (Ty.sl (Ty.sl (Ty.sl (Ty.i .i64))))) hS220 3 rfl)
                refine WL.val (Value.int .i64 ((x202).length : Int)) _ (op_lenL sl_23 (St.rep (t := (Ty.sl (Ty.sl (Ty.sl (Ty.i .i64))))) hS220 3 rfl) rfl) rfl ?_
                refine WL.val (Value.bool (decide ((k201 : Int) < ((x202).length : Int)))) _ (op_lss rfl rfl) rfl ?_
                have hl222 : (k201 : Int) < ((x202).length : Int) := by omega
                refine WL.nil ?_
                show W _ _ _ _ _ _
                refine W.condT (decide ((k201 : Int) < ((x202).length : Int))) rfl (decide_eq_true hl222) ?_
                refine W.skip ?_
                show W _ _ _ _ _ _
                refine W.seq ?_
                refine W.block ?_
                obtain ⟨x263, hx266, hb207⟩ := bs hb207
                obtain ⟨ha264, hb265, hx266⟩ := idx_some hx266
                obtain ⟨u277, hc278, hr279⟩ := repSl.el (St.rep (t := (Ty.sl (Ty.sl (Ty.sl (Ty.i .i64))))) hS220 3 rfl) hx266
                obtain ⟨x302, hx305, hb207⟩ := bs hb207
                obtain ⟨ha303, hb304, hx305⟩ := idx_some hx305
                obtain ⟨u316, hc317, hr318⟩ := repSl.el hr279 hx305
                obtain ⟨x365, hx368, hb207⟩ := bs hb207
                obtain ⟨ha366, hb367, hx368⟩ := idx_some hx368
                obtain ⟨u379, hc380, hr381⟩ := repSl.el r_c_Values hx368
                obtain ⟨x404, hx407, hb207⟩ := bs hb207
                obtain ⟨ha405, hb406, hx407⟩ := idx_some hx407
                obtain ⟨u418, hc419, hr420⟩ := repSl.el hr381 hx407
                obtain ⟨x443, hx446, hb207⟩ := bs hb207
                obtain ⟨ha444, hb445, hx446⟩ := idx_some hx446
                obtain ⟨u457, hc458, hr459⟩ := repSl.el hr420 hx446
                obtain ⟨rfl, hr459⟩ := hr459
                obtain ⟨x499, hx502, hb207⟩ := bs hb207
                obtain ⟨ha500, hb501, hx502⟩ := idx_some hx502
                obtain ⟨u513, hc514, hr515⟩ := repSl.el r_d_Values hx502
                obtain ⟨x538, hx541, hb207⟩ := bs hb207
                obtain ⟨ha539, hb540, hx541⟩ := idx_some hx541
                obtain ⟨u552, hc553, hr554⟩ := repSl.el hr515 hx541
                obtain ⟨x577, hx580, hb207⟩ := bs hb207
                obtain ⟨ha578, hb579, hx580⟩ := idx_some hx580
                obtain ⟨u591, hc592, hr593⟩ := repSl.el hr554 hx580
                obtain ⟨rfl, hr593⟩ := hr593
                obtain ⟨x643, hz644, hb207⟩ := bs hb207
                obtain ⟨h0645, hz644⟩ := remI_some hz644
                refine W.drawR mixo 35 [] [fun _ v _ _ => v = (Value.pointer (some ⟨b145, 2, none⟩)), fun _ v _ _ => v = (f130 16), fun _ v _ _ => v = (Value.int .i64 x156) ∧ InR .i64 x156, fun _ v _ _ => v = (Value.pointer (some (elA (f130 16) (x156).toNat))), fun _ v _ _ => v = u277, fun _ v _ _ => v = (Value.int .i64 x179) ∧ InR .i64 x179, fun _ v _ _ => v = (Value.pointer (some (elA u277 (x179).toNat))), fun _ v _ _ => v = u316, fun _ v _ _ => v = (Value.int .i64 (k201 : Int)) ∧ InR .i64 (k201 : Int), fun _ v _ _ => v = (Value.pointer (some ⟨b1, 2, none⟩)), fun _ v _ _ => v = v_c_Values, fun _ v _ _ => v = (Value.int .i64 x156) ∧ InR .i64 x156, fun _ v _ _ => v = (Value.pointer (some (elA v_c_Values (x156).toNat))), fun _ v _ _ => v = u379, fun _ v _ _ => v = (Value.int .i64 x179) ∧ InR .i64 x179, fun _ v _ _ => v = (Value.pointer (some (elA u379 (x179).toNat))), fun _ v _ _ => v = u418, fun _ v _ _ => v = (Value.int .i64 (k201 : Int)) ∧ InR .i64 (k201 : Int), fun _ v _ _ => v = (Value.pointer (some (elA u418 ((k201 : Int)).toNat))), fun _ v _ _ => v = (Value.int .i64 x443) ∧ InR .i64 x443, fun _ v _ _ => v = (Value.pointer (some ⟨b9, 2, none⟩)), fun _ v _ _ => v = v_d_Values, fun _ v _ _ => v = (Value.int .i64 x156) ∧ InR .i64 x156, fun _ v _ _ => v = (Value.pointer (some (elA v_d_Values (x156).toNat))), fun _ v _ _ => v = u513, fun _ v _ _ => v = (Value.int .i64 x179) ∧ InR .i64 x179, fun _ v _ _ => v = (Value.pointer (some (elA u513 (x179).toNat))), fun _ v _ _ => v = u552, fun _ v _ _ => v = (Value.int .i64 (k201 : Int)) ∧ InR .i64 (k201 : Int), fun _ v _ _ => v = (Value.pointer (some (elA u552 ((k201 : Int)).toNat))), fun _ v _ _ => v = (Value.int .i64 x577) ∧ InR .i64 x577, fun _ v _ _ => v = (Value.int .i64 (w64 (x443 + x577))) ∧ InR .i64 (w64 (x443 + x577)), fun _ v _ _ => v = (Value.pointer (some ⟨b1, 1, none⟩)), fun _ v _ _ => v = (Value.int .i64 c_Modulus) ∧ InR .i64 c_Modulus, fun _ v _ _ => v = (Value.int .i64 x643) ∧ InR .i64 x643] (by kernel_rfl) (by kernel_rfl) ⟨⟨fun _ _ _ _ _ _ h => h, fun _ _ _ _ _ _ h => h⟩, ⟨fun _ _ _ _ _ _ h => h, fun _ _ _ _ _ _ h => h⟩, ⟨fun _ _ _ _ _ _ h => h, fun _ _ _ _ _ _ h => h⟩, ⟨fun _ _ _ _ _ _ h => h, fun _ _ _ _ _ _ h => h⟩, ⟨fun _ _ _ _ _ _ h => h, fun _ _ _ _ _ _ h => h⟩, ⟨fun _ _ _ _ _ _ h => h, fun _ _ _ _ _ _ h => h⟩, ⟨fun _ _ _ _ _ _ h => h, fun _ _ _ _ _ _ h => h⟩, ⟨fun _ _ _ _ _ _ h => h, fun _ _ _ _ _ _ h => h⟩, ⟨fun _ _ _ _ _ _ h => h, fun _ _ _ _ _ _ h => h⟩, ⟨fun _ _ _ _ _ _ h => h, fun _ _ _ _ _ _ h => h⟩, ⟨fun _ _ _ _ _ _ h => h, fun _ _ _ _ _ _ h => h⟩, ⟨fun _ _ _ _ _ _ h => h, fun _ _ _ _ _ _ h => h⟩, ⟨fun _ _ _ _ _ _ h => h, fun _ _ _ _ _ _ h => h⟩, ⟨fun _ _ _ _ _ _ h => h, fun _ _ _ _ _ _ h => h⟩, ⟨fun _ _ _ _ _ _ h => h, fun _ _ _ _ _ _ h => h⟩, ⟨fun _ _ _ _ _ _ h => h, fun _ _ _ _ _ _ h => h⟩, ⟨fun _ _ _ _ _ _ h => h, fun _ _ _ _ _ _ h => h⟩, ⟨fun _ _ _ _ _ _ h => h, fun _ _ _ _ _ _ h => h⟩, ⟨fun _ _ _ _ _ _ h => h, fun _ _ _ _ _ _ h => h⟩, ⟨fun _ _ _ _ _ _ h => h, fun _ _ _ _ _ _ h => h⟩, ⟨fun _ _ _ _ _ _ h => h, fun _ _ _ _ _ _ h => h⟩, ⟨fun _ _ _ _ _ _ h => h, fun _ _ _ _ _ _ h => h⟩, ⟨fun _ _ _ _ _ _ h => h, fun _ _ _ _ _ _ h => h⟩, ⟨fun _ _ _ _ _ _ h => h, fun _ _ _ _ _ _ h => h⟩, ⟨fun _ _ _ _ _ _ h => h, fun _ _ _ _ _ _ h => h⟩, ⟨fun _ _ _ _ _ _ h => h, fun _ _ _ _ _ _ h => h⟩, ⟨fun _ _ _ _ _ _ h => h, fun _ _ _ _ _ _ h => h⟩, ⟨fun _ _ _ _ _ _ h => h, fun _ _ _ _ _ _ h => h⟩, ⟨fun _ _ _ _ _ _ h => h, fun _ _ _ _ _ _ h => h⟩, ⟨fun _ _ _ _ _ _ h => h, fun _ _ _ _ _ _ h => h⟩, ⟨fun _ _ _ _ _ _ h => h, fun _ _ _ _ _ _ h => h⟩, ⟨fun _ _ _ _ _ _ h => h, fun _ _ _ _ _ _ h => h⟩, ⟨fun _ _ _ _ _ _ h => h, fun _ _ _ _ _ _ h => h⟩, ⟨fun _ _ _ _ _ _ h => h, fun _ _ _ _ _ _ h => h⟩, ⟨fun _ _ _ _ _ _ h => h, fun _ _ _ _ _ _ h => h⟩, trivial⟩ ⟨?_, ?_, ?_, ?_, ?_, ?_, ?_, ?_, ?_, ?_, ?_, ?_, ?_, ?_, ?_, ?_, ?_, ?_, ?_, ?_, ?_, ?_, ?_, ?_, ?_, ?_, ?_, ?_, ?_, ?_, ?_, ?_, ?_, ?_, ?_, trivial⟩ ?_
                · refine ObX.op rfl ?_
                  intro f224 wd225 he226 hout227 hphi228
                  have hS229 : St wd10 wd225 [bx b18 [(Value.slice none 0 0), (Value.int .i64 (0 : Int)), (Value.slice none 0 0)], bx b145 [(f130 11), (Value.int .i64 c_Modulus), (f130 16)], (Ty.sl (Ty.i .i64)).at (f130 11) x49, (Ty.sl (Ty.sl (Ty.sl (Ty.i .i64)))).at (f130 16) x202] := St.extend hS220 he226
                  have e230 : f224 5 = (Value.pointer (some ⟨b145, 0, none⟩)) := (hout227 5 rfl).trans hf214
                  exact OpX.val (Value.pointer (some ⟨b145, 2, none⟩)) wd225 rfl (op_fieldAddr fd_30_2 e230) (Ext.refl _) rfl
                · refine ObX.op rfl ?_
                  intro f231 wd232 he233 hout234 hphi235
                  have hS236 : St wd10 wd232 [bx b18 [(Value.slice none 0 0), (Value.int .i64 (0 : Int)), (Value.slice none 0 0)], bx b145 [(f130 11), (Value.int .i64 c_Modulus), (f130 16)], (Ty.sl (Ty.i .i64)).at (f130 11) x49, (Ty.sl (Ty.sl (Ty.sl (Ty.i .i64)))).at (f130 16) x202] := St.extend hS220 he233
                  obtain ⟨S237, hS238, hf239⟩ := hphi235 0 39 _ rfl rfl rfl
                  have e240 : f231 39 = (Value.pointer (some ⟨b145, 2, none⟩)) := hf239
                  exact OpX.val (f130 16) wd232 rfl (op_load one_23 e240 (BoxAt.cell (St.boxAt hS236 1 rfl) rfl)) (Ext.refl _) rfl
                · refine ObX.op rfl ?_
                  intro f241 wd242 he243 hout244 hphi245
                  have hS246 : St wd10 wd242 [bx b18 [(Value.slice none 0 0), (Value.int .i64 (0 : Int)), (Value.slice none 0 0)], bx b145 [(f130 11), (Value.int .i64 c_Modulus), (f130 16)], (Ty.sl (Ty.i .i64)).at (f130 11) x49, (Ty.sl (Ty.sl (Ty.sl (Ty.i .i64)))).at (f130 16) x202] := St.extend hS220 he243
                  have e247 : f241 6 = (Value.int .i64 x156) := (hout244 6 rfl).trans hf215
                  exact OpX.val (Value.int .i64 x156) wd242 rfl (op_move e247) (Ext.refl _) ⟨rfl, hr170⟩
                · refine ObX.op rfl ?_
                  intro f248 wd249 he250 hout251 hphi252
                  have hS253 : St wd10 wd249 [bx b18 [(Value.slice none 0 0), (Value.int .i64 (0 : Int)), (Value.slice none 0 0)], bx b145 [(f130 11), (Value.int .i64 c_Modulus), (f130 16)], (Ty.sl (Ty.i .i64)).at (f130 11) x49, (Ty.sl (Ty.sl (Ty.sl (Ty.i .i64)))).at (f130 16) x202] := St.extend hS220 he250
                  obtain ⟨S254, hS255, hf256⟩ := hphi252 1 40 _ rfl rfl rfl
                  have e257 : f248 40 = (f130 16) := hf256
                  obtain ⟨S258, hS259, hf260⟩ := hphi252 2 41 _ rfl rfl rfl
                  obtain ⟨e261, hr262⟩ : f248 41 = (Value.int .i64 x156) ∧ InR .i64 x156 := hf260
                  exact OpX.val (Value.pointer (some (elA (f130 16) (x156).toNat))) wd249 rfl (op_idx sl_23 (St.rep (t := (Ty.sl (Ty.sl (Ty.sl (Ty.i .i64))))) hS253 3 rfl) e257 e261 ha264 hb265) (Ext.refl _) rfl
                · refine ObX.op rfl ?_
                  intro f267 wd268 he269 hout270 hphi271
                  have hS272 : St wd10 wd268 [bx b18 [(Value.slice none 0 0), (Value.int .i64 (0 : Int)), (Value.slice none 0 0)], bx b145 [(f130 11), (Value.int .i64 c_Modulus), (f130 16)], (Ty.sl (Ty.i .i64)).at (f130 11) x49, (Ty.sl (Ty.sl (Ty.sl (Ty.i .i64)))).at (f130 16) x202] := St.extend hS220 he269
                  obtain ⟨S273, hS274, hf275⟩ := hphi271 3 42 _ rfl rfl rfl
                  have e276 : f267 42 = (Value.pointer (some (elA (f130 16) (x156).toNat))) := hf275
                  exact OpX.val u277 wd268 rfl (op_load one_27 e276 (Ext.cell he269 hc278)) (Ext.refl _) rfl
                · refine ObX.op rfl ?_
                  intro f280 wd281 he282 hout283 hphi284
                  have hS285 : St wd10 wd281 [bx b18 [(Value.slice none 0 0), (Value.int .i64 (0 : Int)), (Value.slice none 0 0)], bx b145 [(f130 11), (Value.int .i64 c_Modulus), (f130 16)], (Ty.sl (Ty.i .i64)).at (f130 11) x49, (Ty.sl (Ty.sl (Ty.sl (Ty.i .i64)))).at (f130 16) x202] := St.extend hS220 he282
                  have e286 : f280 7 = (Value.int .i64 x179) := (hout283 7 rfl).trans hf216
                  exact OpX.val (Value.int .i64 x179) wd281 rfl (op_move e286) (Ext.refl _) ⟨rfl, hr194⟩
                · refine ObX.op rfl ?_
                  intro f287 wd288 he289 hout290 hphi291
                  have hS292 : St wd10 wd288 [bx b18 [(Value.slice none 0 0), (Value.int .i64 (0 : Int)), (Value.slice none 0 0)], bx b145 [(f130 11), (Value.int .i64 c_Modulus), (f130 16)], (Ty.sl (Ty.i .i64)).at (f130 11) x49, (Ty.sl (Ty.sl (Ty.sl (Ty.i .i64)))).at (f130 16) x202] := St.extend hS220 he289
                  obtain ⟨S293, hS294, hf295⟩ := hphi291 4 43 _ rfl rfl rfl
                  have e296 : f287 43 = u277 := hf295
                  obtain ⟨S297, hS298, hf299⟩ := hphi291 5 44 _ rfl rfl rfl
                  obtain ⟨e300, hr301⟩ : f287 44 = (Value.int .i64 x179) ∧ InR .i64 x179 := hf299
                  exact OpX.val (Value.pointer (some (elA u277 (x179).toNat))) wd288 rfl (op_idx sl_27 (Ty.lift _ he289 hr279) e296 e300 ha303 hb304) (Ext.refl _) rfl
                · refine ObX.op rfl ?_
                  intro f306 wd307 he308 hout309 hphi310
                  have hS311 : St wd10 wd307 [bx b18 [(Value.slice none 0 0), (Value.int .i64 (0 : Int)), (Value.slice none 0 0)], bx b145 [(f130 11), (Value.int .i64 c_Modulus), (f130 16)], (Ty.sl (Ty.i .i64)).at (f130 11) x49, (Ty.sl (Ty.sl (Ty.sl (Ty.i .i64)))).at (f130 16) x202] := St.extend hS220 he308
                  obtain ⟨S312, hS313, hf314⟩ := hphi310 6 45 _ rfl rfl rfl
                  have e315 : f306 45 = (Value.pointer (some (elA u277 (x179).toNat))) := hf314
                  exact OpX.val u316 wd307 rfl (op_load one_22 e315 (Ext.cell he308 hc317)) (Ext.refl _) rfl
                · refine ObX.op rfl ?_
                  intro f319 wd320 he321 hout322 hphi323
                  have hS324 : St wd10 wd320 [bx b18 [(Value.slice none 0 0), (Value.int .i64 (0 : Int)), (Value.slice none 0 0)], bx b145 [(f130 11), (Value.int .i64 c_Modulus), (f130 16)], (Ty.sl (Ty.i .i64)).at (f130 11) x49, (Ty.sl (Ty.sl (Ty.sl (Ty.i .i64)))).at (f130 16) x202] := St.extend hS220 he321
                  have e325 : f319 8 = (Value.int .i64 (k201 : Int)) := (hout322 8 rfl).trans hf217
                  exact OpX.val (Value.int .i64 (k201 : Int)) wd320 rfl (op_move e325) (Ext.refl _) ⟨rfl, hr218⟩
                · refine ObX.op rfl ?_
                  intro f326 wd327 he328 hout329 hphi330
                  have hS331 : St wd10 wd327 [bx b18 [(Value.slice none 0 0), (Value.int .i64 (0 : Int)), (Value.slice none 0 0)], bx b145 [(f130 11), (Value.int .i64 c_Modulus), (f130 16)], (Ty.sl (Ty.i .i64)).at (f130 11) x49, (Ty.sl (Ty.sl (Ty.sl (Ty.i .i64)))).at (f130 16) x202] := St.extend hS220 he328
                  have e332 : f326 2 = (Value.pointer (some ⟨b1, 0, none⟩)) := (hout329 2 rfl).trans hf211
                  exact OpX.val (Value.pointer (some ⟨b1, 2, none⟩)) wd327 rfl (op_fieldAddr fd_30_2 e332) (Ext.refl _) rfl
                · refine ObX.op rfl ?_
                  intro f333 wd334 he335 hout336 hphi337
                  have hS338 : St wd10 wd334 [bx b18 [(Value.slice none 0 0), (Value.int .i64 (0 : Int)), (Value.slice none 0 0)], bx b145 [(f130 11), (Value.int .i64 c_Modulus), (f130 16)], (Ty.sl (Ty.i .i64)).at (f130 11) x49, (Ty.sl (Ty.sl (Ty.sl (Ty.i .i64)))).at (f130 16) x202] := St.extend hS220 he335
                  obtain ⟨S339, hS340, hf341⟩ := hphi337 9 48 _ rfl rfl rfl
                  have e342 : f333 48 = (Value.pointer (some ⟨b1, 2, none⟩)) := hf341
                  exact OpX.val v_c_Values wd334 rfl (op_load one_23 e342 (BoxAt.cell (BoxAt.lift (Ext.trans hE16 hS338.ext) hx6) rfl)) (Ext.refl _) rfl
                · refine ObX.op rfl ?_
                  intro f343 wd344 he345 hout346 hphi347
                  have hS348 : St wd10 wd344 [bx b18 [(Value.slice none 0 0), (Value.int .i64 (0 : Int)), (Value.slice none 0 0)], bx b145 [(f130 11), (Value.int .i64 c_Modulus), (f130 16)], (Ty.sl (Ty.i .i64)).at (f130 11) x49, (Ty.sl (Ty.sl (Ty.sl (Ty.i .i64)))).at (f130 16) x202] := St.extend hS220 he345
                  have e349 : f343 6 = (Value.int .i64 x156) := (hout346 6 rfl).trans hf215
                  exact OpX.val (Value.int .i64 x156) wd344 rfl (op_move e349) (Ext.refl _) ⟨rfl, hr170⟩
                · refine ObX.op rfl ?_
                  intro f350 wd351 he352 hout353 hphi354
                  have hS355 : St wd10 wd351 [bx b18 [(Value.slice none 0 0), (Value.int .i64 (0 : Int)), (Value.slice none 0 0)], bx b145 [(f130 11), (Value.int .i64 c_Modulus), (f130 16)], (Ty.sl (Ty.i .i64)).at (f130 11) x49, (Ty.sl (Ty.sl (Ty.sl (Ty.i .i64)))).at (f130 16) x202] := St.extend hS220 he352
                  obtain ⟨S356, hS357, hf358⟩ := hphi354 10 49 _ rfl rfl rfl
                  have e359 : f350 49 = v_c_Values := hf358
                  obtain ⟨S360, hS361, hf362⟩ := hphi354 11 50 _ rfl rfl rfl
                  obtain ⟨e363, hr364⟩ : f350 50 = (Value.int .i64 x156) ∧ InR .i64 x156 := hf362
                  exact OpX.val (Value.pointer (some (elA v_c_Values (x156).toNat))) wd351 rfl (op_idx sl_23 (Ty.lift _ (Ext.trans hE15 hS355.ext) r_c_Values) e359 e363 ha366 hb367) (Ext.refl _) rfl
                · refine ObX.op rfl ?_
                  intro f369 wd370 he371 hout372 hphi373
                  have hS374 : St wd10 wd370 [bx b18 [(Value.slice none 0 0), (Value.int .i64 (0 : Int)), (Value.slice none 0 0)], bx b145 [(f130 11), (Value.int .i64 c_Modulus), (f130 16)], (Ty.sl (Ty.i .i64)).at (f130 11) x49, (Ty.sl (Ty.sl (Ty.sl (Ty.i .i64)))).at (f130 16) x202] := St.extend hS220 he371
                  obtain ⟨S375, hS376, hf377⟩ := hphi373 12 51 _ rfl rfl rfl
                  have e378 : f369 51 = (Value.pointer (some (elA v_c_Values (x156).toNat))) := hf377
                  exact OpX.val u379 wd370 rfl (op_load one_27 e378 (Ext.cell (Ext.trans hE15 hS374.ext) hc380)) (Ext.refl _) rfl
                · refine ObX.op rfl ?_
                  intro f382 wd383 he384 hout385 hphi386
                  have hS387 : St wd10 wd383 [bx b18 [(Value.slice none 0 0), (Value.int .i64 (0 : Int)), (Value.slice none 0 0)], bx b145 [(f130 11), (Value.int .i64 c_Modulus), (f130 16)], (Ty.sl (Ty.i .i64)).at (f130 11) x49, (Ty.sl (Ty.sl (Ty.sl (Ty.i .i64)))).at (f130 16) x202] := St.extend hS220 he384
                  have e388 : f382 7 = (Value.int .i64 x179) := (hout385 7 rfl).trans hf216
                  exact OpX.val (Value.int .i64 x179) wd383 rfl (op_move e388) (Ext.refl _) ⟨rfl, hr194⟩
                · refine ObX.op rfl ?_
                  intro f389 wd390 he391 hout392 hphi393
                  have hS394 : St wd10 wd390 [bx b18 [(Value.slice none 0 0), (Value.int .i64 (0 : Int)), (Value.slice none 0 0)], bx b145 [(f130 11), (Value.int .i64 c_Modulus), (f130 16)], (Ty.sl (Ty.i .i64)).at (f130 11) x49, (Ty.sl (Ty.sl (Ty.sl (Ty.i .i64)))).at (f130 16) x202] := St.extend hS220 he391
                  obtain ⟨S395, hS396, hf397⟩ := hphi393 13 52 _ rfl rfl rfl
                  have e398 : f389 52 = u379 := hf397
                  obtain ⟨S399, hS400, hf401⟩ := hphi393 14 53 _ rfl rfl rfl
                  obtain ⟨e402, hr403⟩ : f389 53 = (Value.int .i64 x179) ∧ InR .i64 x179 := hf401
                  exact OpX.val (Value.pointer (some (elA u379 (x179).toNat))) wd390 rfl (op_idx sl_27 (Ty.lift _ (Ext.trans hE15 hS394.ext) hr381) e398 e402 ha405 hb406) (Ext.refl _) rfl
                · refine ObX.op rfl ?_
                  intro f408 wd409 he410 hout411 hphi412
                  have hS413 : St wd10 wd409 [bx b18 [(Value.slice none 0 0), (Value.int .i64 (0 : Int)), (Value.slice none 0 0)], bx b145 [(f130 11), (Value.int .i64 c_Modulus), (f130 16)], (Ty.sl (Ty.i .i64)).at (f130 11) x49, (Ty.sl (Ty.sl (Ty.sl (Ty.i .i64)))).at (f130 16) x202] := St.extend hS220 he410
                  obtain ⟨S414, hS415, hf416⟩ := hphi412 15 54 _ rfl rfl rfl
                  have e417 : f408 54 = (Value.pointer (some (elA u379 (x179).toNat))) := hf416
                  exact OpX.val u418 wd409 rfl (op_load one_22 e417 (Ext.cell (Ext.trans hE15 hS413.ext) hc419)) (Ext.refl _) rfl
                · refine ObX.op rfl ?_
                  intro f421 wd422 he423 hout424 hphi425
                  have hS426 : St wd10 wd422 [bx b18 [(Value.slice none 0 0), (Value.int .i64 (0 : Int)), (Value.slice none 0 0)], bx b145 [(f130 11), (Value.int .i64 c_Modulus), (f130 16)], (Ty.sl (Ty.i .i64)).at (f130 11) x49, (Ty.sl (Ty.sl (Ty.sl (Ty.i .i64)))).at (f130 16) x202] := St.extend hS220 he423
                  have e427 : f421 8 = (Value.int .i64 (k201 : Int)) := (hout424 8 rfl).trans hf217
                  exact OpX.val (Value.int .i64 (k201 : Int)) wd422 rfl (op_move e427) (Ext.refl _) ⟨rfl, hr218⟩
                · refine ObX.op rfl ?_
                  intro f428 wd429 he430 hout431 hphi432
                  have hS433 : St wd10 wd429 [bx b18 [(Value.slice none 0 0), (Value.int .i64 (0 : Int)), (Value.slice none 0 0)], bx b145 [(f130 11), (Value.int .i64 c_Modulus), (f130 16)], (Ty.sl (Ty.i .i64)).at (f130 11) x49, (Ty.sl (Ty.sl (Ty.sl (Ty.i .i64)))).at (f130 16) x202] := St.extend hS220 he430
                  obtain ⟨S434, hS435, hf436⟩ := hphi432 16 55 _ rfl rfl rfl
                  have e437 : f428 55 = u418 := hf436
                  obtain ⟨S438, hS439, hf440⟩ := hphi432 17 56 _ rfl rfl rfl
                  obtain ⟨e441, hr442⟩ : f428 56 = (Value.int .i64 (k201 : Int)) ∧ InR .i64 (k201 : Int) := hf440
                  exact OpX.val (Value.pointer (some (elA u418 ((k201 : Int)).toNat))) wd429 rfl (op_idx sl_22 (Ty.lift _ (Ext.trans hE15 hS433.ext) hr420) e437 e441 ha444 hb445) (Ext.refl _) rfl
                · refine ObX.op rfl ?_
                  intro f447 wd448 he449 hout450 hphi451
                  have hS452 : St wd10 wd448 [bx b18 [(Value.slice none 0 0), (Value.int .i64 (0 : Int)), (Value.slice none 0 0)], bx b145 [(f130 11), (Value.int .i64 c_Modulus), (f130 16)], (Ty.sl (Ty.i .i64)).at (f130 11) x49, (Ty.sl (Ty.sl (Ty.sl (Ty.i .i64)))).at (f130 16) x202] := St.extend hS220 he449
                  obtain ⟨S453, hS454, hf455⟩ := hphi451 18 57 _ rfl rfl rfl
                  have e456 : f447 57 = (Value.pointer (some (elA u418 ((k201 : Int)).toNat))) := hf455
                  exact OpX.val (Value.int .i64 x443) wd448 rfl (op_load one_2 e456 (Ext.cell (Ext.trans hE15 hS452.ext) hc458)) (Ext.refl _) ⟨rfl, hr459⟩
                · refine ObX.op rfl ?_
                  intro f460 wd461 he462 hout463 hphi464
                  have hS465 : St wd10 wd461 [bx b18 [(Value.slice none 0 0), (Value.int .i64 (0 : Int)), (Value.slice none 0 0)], bx b145 [(f130 11), (Value.int .i64 c_Modulus), (f130 16)], (Ty.sl (Ty.i .i64)).at (f130 11) x49, (Ty.sl (Ty.sl (Ty.sl (Ty.i .i64)))).at (f130 16) x202] := St.extend hS220 he462
                  have e466 : f460 3 = (Value.pointer (some ⟨b9, 0, none⟩)) := (hout463 3 rfl).trans hf212
                  exact OpX.val (Value.pointer (some ⟨b9, 2, none⟩)) wd461 rfl (op_fieldAddr fd_30_2 e466) (Ext.refl _) rfl
                · refine ObX.op rfl ?_
                  intro f467 wd468 he469 hout470 hphi471
                  have hS472 : St wd10 wd468 [bx b18 [(Value.slice none 0 0), (Value.int .i64 (0 : Int)), (Value.slice none 0 0)], bx b145 [(f130 11), (Value.int .i64 c_Modulus), (f130 16)], (Ty.sl (Ty.i .i64)).at (f130 11) x49, (Ty.sl (Ty.sl (Ty.sl (Ty.i .i64)))).at (f130 16) x202] := St.extend hS220 he469
                  obtain ⟨S473, hS474, hf475⟩ := hphi471 20 59 _ rfl rfl rfl
                  have e476 : f467 59 = (Value.pointer (some ⟨b9, 2, none⟩)) := hf475
                  exact OpX.val v_d_Values wd468 rfl (op_load one_23 e476 (BoxAt.cell (BoxAt.lift hS472.ext hx14) rfl)) (Ext.refl _) rfl
                · refine ObX.op rfl ?_
                  intro f477 wd478 he479 hout480 hphi481
                  have hS482 : St wd10 wd478 [bx b18 [(Value.slice none 0 0), (Value.int .i64 (0 : Int)), (Value.slice none 0 0)], bx b145 [(f130 11), (Value.int .i64 c_Modulus), (f130 16)], (Ty.sl (Ty.i .i64)).at (f130 11) x49, (Ty.sl (Ty.sl (Ty.sl (Ty.i .i64)))).at (f130 16) x202] := St.extend hS220 he479
                  have e483 : f477 6 = (Value.int .i64 x156) := (hout480 6 rfl).trans hf215
                  exact OpX.val (Value.int .i64 x156) wd478 rfl (op_move e483) (Ext.refl _) ⟨rfl, hr170⟩
                · refine ObX.op rfl ?_
                  intro f484 wd485 he486 hout487 hphi488
                  have hS489 : St wd10 wd485 [bx b18 [(Value.slice none 0 0), (Value.int .i64 (0 : Int)), (Value.slice none 0 0)], bx b145 [(f130 11), (Value.int .i64 c_Modulus), (f130 16)], (Ty.sl (Ty.i .i64)).at (f130 11) x49, (Ty.sl (Ty.sl (Ty.sl (Ty.i .i64)))).at (f130 16) x202] := St.extend hS220 he486
                  obtain ⟨S490, hS491, hf492⟩ := hphi488 21 60 _ rfl rfl rfl
                  have e493 : f484 60 = v_d_Values := hf492
                  obtain ⟨S494, hS495, hf496⟩ := hphi488 22 61 _ rfl rfl rfl
                  obtain ⟨e497, hr498⟩ : f484 61 = (Value.int .i64 x156) ∧ InR .i64 x156 := hf496
                  exact OpX.val (Value.pointer (some (elA v_d_Values (x156).toNat))) wd485 rfl (op_idx sl_23 (Ty.lift _ (Ext.trans hE15 hS489.ext) r_d_Values) e493 e497 ha500 hb501) (Ext.refl _) rfl
                · refine ObX.op rfl ?_
                  intro f503 wd504 he505 hout506 hphi507
                  have hS508 : St wd10 wd504 [bx b18 [(Value.slice none 0 0), (Value.int .i64 (0 : Int)), (Value.slice none 0 0)], bx b145 [(f130 11), (Value.int .i64 c_Modulus), (f130 16)], (Ty.sl (Ty.i .i64)).at (f130 11) x49, (Ty.sl (Ty.sl (Ty.sl (Ty.i .i64)))).at (f130 16) x202] := St.extend hS220 he505
                  obtain ⟨S509, hS510, hf511⟩ := hphi507 23 62 _ rfl rfl rfl
                  have e512 : f503 62 = (Value.pointer (some (elA v_d_Values (x156).toNat))) := hf511
                  exact OpX.val u513 wd504 rfl (op_load one_27 e512 (Ext.cell (Ext.trans hE15 hS508.ext) hc514)) (Ext.refl _) rfl
                · refine ObX.op rfl ?_
                  intro f516 wd517 he518 hout519 hphi520
                  have hS521 : St wd10 wd517 [bx b18 [(Value.slice none 0 0), (Value.int .i64 (0 : Int)), (Value.slice none 0 0)], bx b145 [(f130 11), (Value.int .i64 c_Modulus), (f130 16)], (Ty.sl (Ty.i .i64)).at (f130 11) x49, (Ty.sl (Ty.sl (Ty.sl (Ty.i .i64)))).at (f130 16) x202] := St.extend hS220 he518
                  have e522 : f516 7 = (Value.int .i64 x179) := (hout519 7 rfl).trans hf216
                  exact OpX.val (Value.int .i64 x179) wd517 rfl (op_move e522) (Ext.refl _) ⟨rfl, hr194⟩
                · refine ObX.op rfl ?_
                  intro f523 wd524 he525 hout526 hphi527
                  have hS528 : St wd10 wd524 [bx b18 [(Value.slice none 0 0), (Value.int .i64 (0 : Int)), (Value.slice none 0 0)], bx b145 [(f130 11), (Value.int .i64 c_Modulus), (f130 16)], (Ty.sl (Ty.i .i64)).at (f130 11) x49, (Ty.sl (Ty.sl (Ty.sl (Ty.i .i64)))).at (f130 16) x202] := St.extend hS220 he525
                  obtain ⟨S529, hS530, hf531⟩ := hphi527 24 63 _ rfl rfl rfl
                  have e532 : f523 63 = u513 := hf531
                  obtain ⟨S533, hS534, hf535⟩ := hphi527 25 64 _ rfl rfl rfl
                  obtain ⟨e536, hr537⟩ : f523 64 = (Value.int .i64 x179) ∧ InR .i64 x179 := hf535
                  exact OpX.val (Value.pointer (some (elA u513 (x179).toNat))) wd524 rfl (op_idx sl_27 (Ty.lift _ (Ext.trans hE15 hS528.ext) hr515) e532 e536 ha539 hb540) (Ext.refl _) rfl
                · refine ObX.op rfl ?_
                  intro f542 wd543 he544 hout545 hphi546
                  have hS547 : St wd10 wd543 [bx b18 [(Value.slice none 0 0), (Value.int .i64 (0 : Int)), (Value.slice none 0 0)], bx b145 [(f130 11), (Value.int .i64 c_Modulus), (f130 16)], (Ty.sl (Ty.i .i64)).at (f130 11) x49, (Ty.sl (Ty.sl (Ty.sl (Ty.i .i64)))).at (f130 16) x202] := St.extend hS220 he544
                  obtain ⟨S548, hS549, hf550⟩ := hphi546 26 65 _ rfl rfl rfl
                  have e551 : f542 65 = (Value.pointer (some (elA u513 (x179).toNat))) := hf550
                  exact OpX.val u552 wd543 rfl (op_load one_22 e551 (Ext.cell (Ext.trans hE15 hS547.ext) hc553)) (Ext.refl _) rfl
                · refine ObX.op rfl ?_
                  intro f555 wd556 he557 hout558 hphi559
                  have hS560 : St wd10 wd556 [bx b18 [(Value.slice none 0 0), (Value.int .i64 (0 : Int)), (Value.slice none 0 0)], bx b145 [(f130 11), (Value.int .i64 c_Modulus), (f130 16)], (Ty.sl (Ty.i .i64)).at (f130 11) x49, (Ty.sl (Ty.sl (Ty.sl (Ty.i .i64)))).at (f130 16) x202] := St.extend hS220 he557
                  have e561 : f555 8 = (Value.int .i64 (k201 : Int)) := (hout558 8 rfl).trans hf217
                  exact OpX.val (Value.int .i64 (k201 : Int)) wd556 rfl (op_move e561) (Ext.refl _) ⟨rfl, hr218⟩
                · refine ObX.op rfl ?_
                  intro f562 wd563 he564 hout565 hphi566
                  have hS567 : St wd10 wd563 [bx b18 [(Value.slice none 0 0), (Value.int .i64 (0 : Int)), (Value.slice none 0 0)], bx b145 [(f130 11), (Value.int .i64 c_Modulus), (f130 16)], (Ty.sl (Ty.i .i64)).at (f130 11) x49, (Ty.sl (Ty.sl (Ty.sl (Ty.i .i64)))).at (f130 16) x202] := St.extend hS220 he564
                  obtain ⟨S568, hS569, hf570⟩ := hphi566 27 66 _ rfl rfl rfl
                  have e571 : f562 66 = u552 := hf570
                  obtain ⟨S572, hS573, hf574⟩ := hphi566 28 67 _ rfl rfl rfl
                  obtain ⟨e575, hr576⟩ : f562 67 = (Value.int .i64 (k201 : Int)) ∧ InR .i64 (k201 : Int) := hf574
                  exact OpX.val (Value.pointer (some (elA u552 ((k201 : Int)).toNat))) wd563 rfl (op_idx sl_22 (Ty.lift _ (Ext.trans hE15 hS567.ext) hr554) e571 e575 ha578 hb579) (Ext.refl _) rfl
                · refine ObX.op rfl ?_
                  intro f581 wd582 he583 hout584 hphi585
                  have hS586 : St wd10 wd582 [bx b18 [(Value.slice none 0 0), (Value.int .i64 (0 : Int)), (Value.slice none 0 0)], bx b145 [(f130 11), (Value.int .i64 c_Modulus), (f130 16)], (Ty.sl (Ty.i .i64)).at (f130 11) x49, (Ty.sl (Ty.sl (Ty.sl (Ty.i .i64)))).at (f130 16) x202] := St.extend hS220 he583
                  obtain ⟨S587, hS588, hf589⟩ := hphi585 29 68 _ rfl rfl rfl
                  have e590 : f581 68 = (Value.pointer (some (elA u552 ((k201 : Int)).toNat))) := hf589
                  exact OpX.val (Value.int .i64 x577) wd582 rfl (op_load one_2 e590 (Ext.cell (Ext.trans hE15 hS586.ext) hc592)) (Ext.refl _) ⟨rfl, hr593⟩
                · refine ObX.op rfl ?_
                  intro f594 wd595 he596 hout597 hphi598
                  have hS599 : St wd10 wd595 [bx b18 [(Value.slice none 0 0), (Value.int .i64 (0 : Int)), (Value.slice none 0 0)], bx b145 [(f130 11), (Value.int .i64 c_Modulus), (f130 16)], (Ty.sl (Ty.i .i64)).at (f130 11) x49, (Ty.sl (Ty.sl (Ty.sl (Ty.i .i64)))).at (f130 16) x202] := St.extend hS220 he596
                  obtain ⟨S600, hS601, hf602⟩ := hphi598 19 58 _ rfl rfl rfl
                  obtain ⟨e603, hr604⟩ : f594 58 = (Value.int .i64 x443) ∧ InR .i64 x443 := hf602
                  obtain ⟨S605, hS606, hf607⟩ := hphi598 30 69 _ rfl rfl rfl
                  obtain ⟨e608, hr609⟩ : f594 69 = (Value.int .i64 x577) ∧ InR .i64 x577 := hf607
                  exact OpX.val (Value.int .i64 (w64 (x443 + x577))) wd595 rfl (op_add e603 e608) (Ext.refl _) ⟨rfl, (inR_wrap _ _)⟩
                · refine ObX.op rfl ?_
                  intro f610 wd611 he612 hout613 hphi614
                  have hS615 : St wd10 wd611 [bx b18 [(Value.slice none 0 0), (Value.int .i64 (0 : Int)), (Value.slice none 0 0)], bx b145 [(f130 11), (Value.int .i64 c_Modulus), (f130 16)], (Ty.sl (Ty.i .i64)).at (f130 11) x49, (Ty.sl (Ty.sl (Ty.sl (Ty.i .i64)))).at (f130 16) x202] := St.extend hS220 he612
                  have e616 : f610 2 = (Value.pointer (some ⟨b1, 0, none⟩)) := (hout613 2 rfl).trans hf211
                  exact OpX.val (Value.pointer (some ⟨b1, 1, none⟩)) wd611 rfl (op_fieldAddr fd_30_1 e616) (Ext.refl _) rfl
                · refine ObX.op rfl ?_
                  intro f617 wd618 he619 hout620 hphi621
                  have hS622 : St wd10 wd618 [bx b18 [(Value.slice none 0 0), (Value.int .i64 (0 : Int)), (Value.slice none 0 0)], bx b145 [(f130 11), (Value.int .i64 c_Modulus), (f130 16)], (Ty.sl (Ty.i .i64)).at (f130 11) x49, (Ty.sl (Ty.sl (Ty.sl (Ty.i .i64)))).at (f130 16) x202] := St.extend hS220 he619
                  obtain ⟨S623, hS624, hf625⟩ := hphi621 32 71 _ rfl rfl rfl
                  have e626 : f617 71 = (Value.pointer (some ⟨b1, 1, none⟩)) := hf625
                  exact OpX.val (Value.int .i64 c_Modulus) wd618 rfl (op_load one_2 e626 (BoxAt.cell (BoxAt.lift (Ext.trans hE16 hS622.ext) hx6) rfl)) (Ext.refl _) ⟨rfl, r_c_Modulus⟩
                · refine ObX.op rfl ?_
                  intro f627 wd628 he629 hout630 hphi631
                  have hS632 : St wd10 wd628 [bx b18 [(Value.slice none 0 0), (Value.int .i64 (0 : Int)), (Value.slice none 0 0)], bx b145 [(f130 11), (Value.int .i64 c_Modulus), (f130 16)], (Ty.sl (Ty.i .i64)).at (f130 11) x49, (Ty.sl (Ty.sl (Ty.sl (Ty.i .i64)))).at (f130 16) x202] := St.extend hS220 he629
                  obtain ⟨S633, hS634, hf635⟩ := hphi631 31 70 _ rfl rfl rfl
                  obtain ⟨e636, hr637⟩ : f627 70 = (Value.int .i64 (w64 (x443 + x577))) ∧ InR .i64 (w64 (x443 + x577)) := hf635
                  obtain ⟨S638, hS639, hf640⟩ := hphi631 33 72 _ rfl rfl rfl
                  obtain ⟨e641, hr642⟩ : f627 72 = (Value.int .i64 c_Modulus) ∧ InR .i64 c_Modulus := hf640
                  have hr646 : InR .i64 x643 := by rw [hz644]; exact inR_tmod hr637
                  exact OpX.val (Value.int .i64 x643) wd628 rfl (by rw [hz644]; exact op_rem e636 e641 h0645) (Ext.refl _) ⟨rfl, hr646⟩
                · intro f647 wd648 Ss649 he650 hout651 hSn652 hSd653 hphi654
                  show WL _ _ _ _ _ _ _
                  have hS655 : St wd10 wd648 [bx b18 [(Value.slice none 0 0), (Value.int .i64 (0 : Int)), (Value.slice none 0 0)], bx b145 [(f130 11), (Value.int .i64 c_Modulus), (f130 16)], (Ty.sl (Ty.i .i64)).at (f130 11) x49, (Ty.sl (Ty.sl (Ty.sl (Ty.i .i64)))).at (f130 16) x202] := St.extend hS220 he650
                  have e656 : f647 46 = u316 := hphi654 7 46 _ (by decide) rfl rfl
                  obtain ⟨e657, hr658⟩ : f647 47 = (Value.int .i64 (k201 : Int)) ∧ InR .i64 (k201 : Int) := hphi654 8 47 _ (by decide) rfl rfl
                  obtain ⟨e659, hr660⟩ : f647 73 = (Value.int .i64 x643) ∧ InR .i64 x643 := hphi654 34 73 _ (by decide) rfl rfl
                  have e661 : f647 2 = (Value.pointer (some ⟨b1, 0, none⟩)) := (hout651 2 rfl).trans hf211
                  have e662 : f647 3 = (Value.pointer (some ⟨b9, 0, none⟩)) := (hout651 3 rfl).trans hf212
                  have e663 : f647 4 = (Value.pointer (some ⟨b18, 0, none⟩)) := (hout651 4 rfl).trans hf213
                  have e664 : f647 5 = (Value.pointer (some ⟨b145, 0, none⟩)) := (hout651 5 rfl).trans hf214
                  have e665 : f647 6 = (Value.int .i64 x156) := (hout651 6 rfl).trans hf215
                  have e666 : f647 7 = (Value.int .i64 x179) := (hout651 7 rfl).trans hf216
                  have e667 : f647 8 = (Value.int .i64 (k201 : Int)) := (hout651 8 rfl).trans hf217
                  obtain ⟨x668, hx671, hb207⟩ := bs hb207
                  obtain ⟨ha669, hb670, hx671⟩ := idx_some hx671
                  refine WL.val (Value.pointer (some (elA u316 ((k201 : Int)).toNat))) _ (op_idx sl_22 (Ty.lift _ he650 hr318) e656 e657 ha669 hb670) rfl ?_
                  refine WL.storeEl3 (flat_i .i64) hS655 (k := 3) rfl sz_2 hx266 hx305 (Ext.cell he650 hc278) (Ext.cell he650 hc317) rfl e659 (lt_of_idx ha669 hb670) ⟨rfl, hr660⟩ ?_
                  intro wd672 hS673
                  replace hS673 : St wd10 wd672 [bx b18 [(Value.slice none 0 0), (Value.int .i64 (0 : Int)), (Value.slice none 0 0)], bx b145 [(f130 11), (Value.int .i64 c_Modulus), (f130 16)], (Ty.sl (Ty.i .i64)).at (f130 11) x49, (Ty.sl (Ty.sl (Ty.sl (Ty.i .i64)))).at (f130 16) ((x202).set (x156).toNat ((x263).set (x179).toNat ((x302).set ((k201 : Int)).toNat x643)))] := hS673
                  refine WL.nil ?_
                  show W _ _ _ _ _ _
                  refine W.region ?_
                  refine WL.val (Value.int .i64 (k201 : Int)) _ (op_move e667) rfl ?_
                  refine WL.val (Value.int .i64 (w64 ((k201 : Int) + (1 : Int)))) _ (op_add rfl rfl) rfl ?_
                  refine WL.val (Value.int .i64 (w64 ((k201 : Int) + (1 : Int)))) _ (op_assign rfl) rfl ?_
                  refine WL.nil ?_
                  obtain rfl := Option.some.inj hb207
                  show ∃ s, _ = Ctl.next s ∧ _
                  exact ⟨_, rfl, e661, e662, e663, e664, e665, e666, (ctr_next hl222 hr221), (ctr_rng hl222 hr221), (by first | exact hL219 | (simp only [List.length_set]; exact hL219)), hS673⟩
              · intro x680 f675 wd676 hs677 hI678
                replace hI678 : f675 2 = (Value.pointer (some ⟨b1, 0, none⟩)) ∧ f675 3 = (Value.pointer (some ⟨b9, 0, none⟩)) ∧ f675 4 = (Value.pointer (some ⟨b18, 0, none⟩)) ∧ f675 5 = (Value.pointer (some ⟨b145, 0, none⟩)) ∧ f675 6 = (Value.int .i64 x156) ∧ f675 7 = (Value.int .i64 x179) ∧ f675 8 = Value.int .i64 (((x178).length : Nat) : Int) ∧ InR .i64 (((x178).length : Nat) : Int) ∧ (x680).length = (x178).length ∧ St wd10 wd676 [bx b18 [(Value.slice none 0 0), (Value.int .i64 (0 : Int)), (Value.slice none 0 0)], bx b145 [(f130 11), (Value.int .i64 c_Modulus), (f130 16)], (Ty.sl (Ty.i .i64)).at (f130 11) x49, (Ty.sl (Ty.sl (Ty.sl (Ty.i .i64)))).at (f130 16) x680] := hI678
                obtain ⟨hf681, hf682, hf683, hf684, hf685, hf686, hf687, hr688, hL689, hS690⟩ := hI678
                refine W.seq (W.seq (W.region ?_))
                refine WL.val (Value.int .i64 (((x178).length : Nat) : Int)) _ (op_move hf687) rfl ?_
                refine WL.val (Value.pointer (some ⟨b145, 2, none⟩)) _ (op_fieldAddr fd_30_2 hf684) rfl ?_
                refine WL.val (f130 16) _ (op_load one_23 rfl (BoxAt.cell (St.boxAt hS690 1 rfl) rfl)) rfl ?_
                have hr691 := inR_len (St.rep (t := (Ty.sl (Ty.sl (Ty.sl (Ty.i .i64))))) hS690 3 rfl)
                refine WL.val (Value.int .i64 ((x680).length : Int)) _ (op_lenL sl_23 (St.rep (t := (Ty.sl (Ty.sl (Ty.sl (Ty.i .i64))))) hS690 3 rfl) rfl) rfl ?_
                refine WL.val (Value.bool (decide ((((x178).length : Nat) : Int) < ((x680).length : Int)))) _ (op_lss rfl rfl) rfl ?_
                have hl692 : ¬ (((x178).length : Nat) : Int) < ((x680).length : Int) := by omega
                refine WL.nil ?_
                show W _ _ _ _ _ _
                refine W.condF (decide ((((x178).length : Nat) : Int) < ((x680).length : Int))) rfl (decide_eq_false hl692) ?_
                refine W.exit ?_
                show _ = _ ∧ _
                exact ⟨rfl, _, hs677, hf681, hf682, hf683, hf684, hf685, hf686, (by first | exact hL689 | (simp only [List.length_set]; exact hL689)), hS690⟩
            · rintro f693 wd694 ⟨x697, rfl, hq695⟩
              replace hb184 := onRes_fin hb184
              replace hq695 : f693 2 = (Value.pointer (some ⟨b1, 0, none⟩)) ∧ f693 3 = (Value.pointer (some ⟨b9, 0, none⟩)) ∧ f693 4 = (Value.pointer (some ⟨b18, 0, none⟩)) ∧ f693 5 = (Value.pointer (some ⟨b145, 0, none⟩)) ∧ f693 6 = (Value.int .i64 x156) ∧ f693 7 = (Value.int .i64 x179) ∧ (x697).length = (x178).length ∧ St wd10 wd694 [bx b18 [(Value.slice none 0 0), (Value.int .i64 (0 : Int)), (Value.slice none 0 0)], bx b145 [(f130 11), (Value.int .i64 c_Modulus), (f130 16)], (Ty.sl (Ty.i .i64)).at (f130 11) x49, (Ty.sl (Ty.sl (Ty.sl (Ty.i .i64)))).at (f130 16) x697] := hq695
              obtain ⟨hf698, hf699, hf700, hf701, hf702, hf703, hL704, hS705⟩ := hq695
              show W _ _ _ _ _ _
              refine W.region ?_
              refine WL.val (Value.int .i64 x179) _ (op_move hf703) rfl ?_
              refine WL.val (Value.int .i64 (w64 (x179 + (1 : Int)))) _ (op_add rfl rfl) rfl ?_
              refine WL.val (Value.int .i64 (w64 (x179 + (1 : Int)))) _ (op_assign rfl) rfl ?_
              refine WL.nil ?_
              obtain rfl := Option.some.inj hb184
              show ∃ s, _ = Ctl.next s ∧ _
              exact ⟨_, rfl, hf698, hf699, hf700, hf701, hf702, rfl, (inR_wrap _ _), hS705⟩
          · replace hb184 := inegb hb184 hc197
            refine W.exit ?_
            obtain rfl := Option.some.inj hb184
            show _ = _ ∧ _
            exact ⟨rfl, _, hbrk186 _ rfl, hf188, hf189, hf190, hf191, hf192, hS195⟩
        · rintro f708 wd709 ⟨s711, rfl, hq710⟩
          replace hb161 := onRes_fin hb161
          obtain ⟨x712, x713⟩ := s711
          replace hq710 : f708 2 = (Value.pointer (some ⟨b1, 0, none⟩)) ∧ f708 3 = (Value.pointer (some ⟨b9, 0, none⟩)) ∧ f708 4 = (Value.pointer (some ⟨b18, 0, none⟩)) ∧ f708 5 = (Value.pointer (some ⟨b145, 0, none⟩)) ∧ f708 6 = (Value.int .i64 x156) ∧ St wd10 wd709 [bx b18 [(Value.slice none 0 0), (Value.int .i64 (0 : Int)), (Value.slice none 0 0)], bx b145 [(f130 11), (Value.int .i64 c_Modulus), (f130 16)], (Ty.sl (Ty.i .i64)).at (f130 11) x49, (Ty.sl (Ty.sl (Ty.sl (Ty.i .i64)))).at (f130 16) x712] := hq710
          replace hb161 : (_ : Option _) = _ := hb161
          dsimp only at hb161
          obtain ⟨hf714, hf715, hf716, hf717, hf718, hS719⟩ := hq710
          show W _ _ _ _ _ _
          refine W.region ?_
          refine WL.val (Value.int .i64 x156) _ (op_move hf718) rfl ?_
          refine WL.val (Value.int .i64 (w64 (x156 + (1 : Int)))) _ (op_add rfl rfl) rfl ?_
          refine WL.val (Value.int .i64 (w64 (x156 + (1 : Int)))) _ (op_assign rfl) rfl ?_
          refine WL.nil ?_
          obtain rfl := Option.some.inj hb161
          show ∃ s, _ = Ctl.next s ∧ _
          exact ⟨_, rfl, hf714, hf715, hf716, hf717, rfl, (inR_wrap _ _), hS719⟩
      · replace hb161 := inegb hb161 hc173
        refine W.exit ?_
        obtain rfl := Option.some.inj hb161
        show _ = _ ∧ _
        exact ⟨rfl, _, hbrk163 _ rfl, hf167, hf168, hS171⟩
    · rintro f722 wd723 ⟨s725, rfl, hq724⟩
      replace h := onRes_fin h
      obtain ⟨x726, x727⟩ := s725
      replace hq724 : f722 4 = (Value.pointer (some ⟨b18, 0, none⟩)) ∧ f722 5 = (Value.pointer (some ⟨b145, 0, none⟩)) ∧ St wd10 wd723 [bx b18 [(Value.slice none 0 0), (Value.int .i64 (0 : Int)), (Value.slice none 0 0)], bx b145 [(f130 11), (Value.int .i64 c_Modulus), (f130 16)], (Ty.sl (Ty.i .i64)).at (f130 11) x49, (Ty.sl (Ty.sl (Ty.sl (Ty.i .i64)))).at (f130 16) x726] := hq724
      replace h : (_ : Option _) = _ := h
      dsimp only at h
      obtain ⟨hf728, hf729, hS730⟩ := hq724
      show W _ _ _ _ _ _
      refine W.seq (W.region ?_)
      refine WL.val (Value.agg #[(f130 11), (Value.int .i64 c_Modulus), (f130 16)]) _ (op_loadBox st_30 hf729 (St.boxAt hS730 1 rfl) rfl rfl) rfl ?_
      refine WL.storeBox [(f130 11), (Value.int .i64 c_Modulus), (f130 16)] hS730 (k := 0) rfl hf728 rfl (us := [(f130 11), (Value.int .i64 c_Modulus), (f130 16)]) rfl sz_30 rfl rfl (all_rep (St.rep (t := (Ty.sl (Ty.i .i64))) hS730 2 rfl) (all_cons rfl (all_rep (St.rep (t := (Ty.sl (Ty.sl (Ty.sl (Ty.i .i64))))) hS730 3 rfl) all_nil))) rfl ?_
      intro wd731 hS732
      replace hS732 : St wd10 wd731 [bx b18 [(f130 11), (Value.int .i64 c_Modulus), (f130 16)], bx b145 [(f130 11), (Value.int .i64 c_Modulus), (f130 16)], (Ty.sl (Ty.i .i64)).at (f130 11) x49, (Ty.sl (Ty.sl (Ty.sl (Ty.i .i64)))).at (f130 16) x726] := hS732
      refine WL.nil ?_
      show W _ _ _ _ _ _
      refine W.ret ?_
      obtain rfl := Option.some.inj h
      show FinP _ _ _ _ _ _ _
      exact FinP.ret _ (resC rfl hf728 st_30 (St.boxAt hS732 0 rfl) rfl) ⟨(f130 11), (f130 16), rfl, hr141, (Ext.trans hE15 hS732.ext), (St.out (St.pick hS732 [2, 3] rfl) (hE15))⟩

theorem c_spec_AddCocycles {w : World} {c_Orders : (List Int)} {v_c_Orders : Value} {c_Modulus : Int} {c_Values : (List (List (List Int)))} {v_c_Values : Value} {d_Orders : (List Int)} {v_d_Orders : Value} {d_Modulus : Int} {d_Values : (List (List (List Int)))} {v_d_Values : Value} (r_c_Orders : (Ty.sl (Ty.i .i64)).rep w v_c_Orders c_Orders) (r_c_Modulus : InR .i64 c_Modulus) (r_c_Values : (Ty.sl (Ty.sl (Ty.sl (Ty.i .i64)))).rep w v_c_Values c_Values) (r_d_Orders : (Ty.sl (Ty.i .i64)).rep w v_d_Orders d_Orders) (r_d_Modulus : InR .i64 d_Modulus) (r_d_Values : (Ty.sl (Ty.sl (Ty.sl (Ty.i .i64)))).rep w v_d_Values d_Values) {res : (List Int) × Int × (List (List (List Int))) × Int} (h : p_spec_AddCocycles c_Orders c_Modulus c_Values d_Orders d_Modulus d_Values  = some res) :
    Ret Try.prog 33 #[(Value.agg #[v_c_Orders, (Value.int .i64 c_Modulus), v_c_Values]), (Value.agg #[v_d_Orders, (Value.int .i64 d_Modulus), v_d_Values])] w (fun v w' => ∃ (u0 : Value) (u2 : Value), v = (Value.tuple #[(Value.agg #[u0, Value.int .i64 res.2.1, u2]), Value.int .i64 res.2.2.2]) ∧ InR .i64 res.2.1 ∧ InR .i64 res.2.2.2 ∧ Ext w w' ∧ Sep w.heap.size w' [(Ty.sl (Ty.i .i64)).at u0 res.1, (Ty.sl (Ty.sl (Ty.sl (Ty.i .i64)))).at u2 res.2.2.1]) := by
  unfold p_spec_AddCocycles at h
  have hS0 : St w w [] := St.start w
  refine Ret.start (fn := Try.f33) Try.func33 rfl 34 rfl rfl ?_
  refine W.seq (W.region ?_)
  refine WL.box hS0 rfl (cs := [v_c_Orders, (Value.int .i64 c_Modulus), v_c_Values]) rfl rfl ?_
  intro b1 wd2 hS3 he4 hx5
  replace hS3 : St w wd2 [bx b1 [v_c_Orders, (Value.int .i64 c_Modulus), v_c_Values]] := hS3
  have hx6 := St.boxAt hS3 0 rfl
  have hE7 : Ext w wd2 := hS3.ext
  have hS8 : St wd2 wd2 [] := St.start wd2
  refine WL.box hS8 rfl (cs := [v_d_Orders, (Value.int .i64 d_Modulus), v_d_Values]) rfl rfl ?_
  intro b9 wd10 hS11 he12 hx13
  replace hS11 : St wd2 wd10 [bx b9 [v_d_Orders, (Value.int .i64 d_Modulus), v_d_Values]] := hS11
  have hx14 := St.boxAt hS11 0 rfl
  have hE15 : Ext w wd10 := (Ext.trans hE7 hS11.ext)
  have hE16 : Ext wd2 wd10 := hS11.ext
  have hS17 : St wd10 wd10 [] := St.start wd10
  refine WL.alloc hS17 ze_30 (cs := [(Value.slice none 0 0), (Value.int .i64 (0 : Int)), (Value.slice none 0 0)]) rfl rfl ?_
  intro b18 wd19 hS20 he21
  replace hS20 : St wd10 wd19 [bx b18 [(Value.slice none 0 0), (Value.int .i64 (0 : Int)), (Value.slice none 0 0)]] := hS20
  refine WL.val (Value.int .i64 (0 : Int)) _ (op_assign rfl) rfl ?_
  refine WL.nil ?_
  show W _ _ _ _ _ _
  refine W.seq ?_
  refine W.block ?_
  refine W.seq (W.region ?_)
  refine WL.val (Value.agg #[v_c_Orders, (Value.int .i64 c_Modulus), v_c_Values]) _ (op_loadBox st_30 rfl (BoxAt.lift (Ext.trans hE16 hS20.ext) hx6) rfl rfl) rfl ?_
  obtain ⟨x22, hx23, h⟩ := bs h
  refine WL.call _ (op_call fn_59 (args1 rfl)) (c_spec_l17Is (Ty.lift _ (Ext.trans hE15 hS20.ext) r_c_Orders) r_c_Modulus (Ty.lift _ (Ext.trans hE15 hS20.ext) r_c_Values) hx23) rfl ?_
  rintro _ wd24 ⟨rfl, he25⟩
  have hS27 := St.extend hS20 he25
  replace hS27 : St wd10 wd24 [bx b18 [(Value.slice none 0 0), (Value.int .i64 (0 : Int)), (Value.slice none 0 0)]] := hS27
  refine WL.val (Value.bool (!x22)) _ (op_not rfl) rfl ?_
  refine WL.val (Value.bool (!x22)) _ (op_move rfl) rfl ?_
  obtain ⟨x29, hj30, h⟩ := bs h
  refine WL.cut 4 (fun fq wq => fq 2 = (Value.pointer (some ⟨b1, 0, none⟩)) ∧ fq 3 = (Value.pointer (some ⟨b9, 0, none⟩)) ∧ fq 4 = (Value.pointer (some ⟨b18, 0, none⟩)) ∧ fq 14 = Value.bool x29 ∧ St wd10 wq [bx b18 [(Value.slice none 0 0), (Value.int .i64 (0 : Int)), (Value.slice none 0 0)]]) ?_ ?_
  · rcases Bool.eq_false_or_eq_true (!x22) with hc28 | hc28
    · replace hj30 := ip hj30 hc28
      refine WL.gskip rfl (bool_of rfl hc28) rfl ?_
      refine WL.gskip rfl (bool_of rfl hc28) rfl ?_
      refine WL.gskip rfl (bool_of rfl hc28) rfl ?_
      refine WL.val (Value.bool true) _ (op_pick_t (evb_of rfl hc28) rfl) rfl ?_
      refine WL.nil ?_
      obtain rfl := Option.some.inj hj30
      exact ⟨rfl, rfl, rfl, rfl, rfl, hS27⟩
    · replace hj30 := inegb hj30 hc28
      refine WL.grun rfl (bool_of rfl hc28) ?_
      refine WL.val (Value.agg #[v_d_Orders, (Value.int .i64 d_Modulus), v_d_Values]) _ (op_loadBox st_30 rfl (BoxAt.lift hS27.ext hx14) rfl rfl) rfl ?_
      refine WL.grun rfl (bool_of rfl hc28) ?_
      obtain ⟨x34, hx35, hj30⟩ := bs hj30
      refine WL.call _ (op_call fn_59 (args1 rfl)) (c_spec_l17Is (Ty.lift _ (Ext.trans hE15 hS27.ext) r_d_Orders) r_d_Modulus (Ty.lift _ (Ext.trans hE15 hS27.ext) r_d_Values) hx35) rfl ?_
      rintro _ wd36 ⟨rfl, he37⟩
      have hS39 := St.extend hS27 he37
      replace hS39 : St wd10 wd36 [bx b18 [(Value.slice none 0 0), (Value.int .i64 (0 : Int)), (Value.slice none 0 0)]] := hS39
      refine WL.grun rfl (bool_of rfl hc28) ?_
      refine WL.val (Value.bool (!x34)) _ (op_not rfl) rfl ?_
      refine WL.val (Value.bool (!x34)) _ (op_pick_f (evb_of rfl hc28) rfl) rfl ?_
      refine WL.nil ?_
      obtain rfl := Option.some.inj hj30
      exact ⟨rfl, rfl, rfl, rfl, rfl, hS39⟩
  · intro f31 wd32 hq33
    obtain ⟨hf40, hf41, hf42, hf43, hS44⟩ := hq33
    refine WL.val (Value.bool x29) _ (op_assign hf43) rfl ?_
    refine WL.nil ?_
    show W _ _ _ _ _ _
    refine W.cond x29 rfl (fun hc45 => ?_) (fun hc45 => ?_)
    · replace h := ip h hc45
      refine W.seq (W.region ?_)
      refine WL.val (Value.agg #[(Value.slice none 0 0), (Value.int .i64 (0 : Int)), (Value.slice none 0 0)]) _ (op_build bd_30 (parts := []) (partsL trivial) trivial rfl) rfl ?_
      have hS49 := St.addNil (Ty.i .i64) hS44
      replace hS49 : St wd10 wd32 [bx b18 [(Value.slice none 0 0), (Value.int .i64 (0 : Int)), (Value.slice none 0 0)], (Ty.sl (Ty.i .i64)).at (Value.slice none 0 0) ([] : (List Int))] := hS49
      have hS50 := St.addNil (Ty.sl (Ty.sl (Ty.i .i64))) hS49
      replace hS50 : St wd10 wd32 [bx b18 [(Value.slice none 0 0), (Value.int .i64 (0 : Int)), (Value.slice none 0 0)], (Ty.sl (Ty.i .i64)).at (Value.slice none 0 0) ([] : (List Int)), (Ty.sl (Ty.sl (Ty.sl (Ty.i .i64)))).at (Value.slice none 0 0) ([] : (List (List (List Int))))] := hS50
      refine WL.storeBox [(Value.slice none 0 0), (Value.int .i64 (0 : Int)), (Value.slice none 0 0)] hS50 (k := 0) rfl hf42 rfl (us := [(Value.slice none 0 0), (Value.int .i64 (0 : Int)), (Value.slice none 0 0)]) rfl sz_30 rfl rfl (all_rep (St.rep (t := (Ty.sl (Ty.i .i64))) hS50 1 rfl) (all_cons rfl (all_rep (St.rep (t := (Ty.sl (Ty.sl (Ty.sl (Ty.i .i64))))) hS50 2 rfl) all_nil))) rfl ?_
      intro wd47 hS48
      replace hS48 : St wd10 wd47 [bx b18 [(Value.slice none 0 0), (Value.int .i64 (0 : Int)), (Value.slice none 0 0)], (Ty.sl (Ty.i .i64)).at (Value.slice none 0 0) ([] : (List Int)), (Ty.sl (Ty.sl (Ty.sl (Ty.i .i64)))).at (Value.slice none 0 0) ([] : (List (List (List Int))))] := hS48
      refine WL.val (Value.int .i64 (1 : Int)) _ (op_assign rfl) rfl ?_
      refine WL.nil ?_
      show W _ _ _ _ _ _
      refine W.ret ?_
      obtain rfl := Option.some.inj h
      show FinP _ _ _ _ _ _ _
      exact FinP.ret _ (resCT rfl hf42 st_30 (St.boxAt hS48 0 rfl) rfl rfl) ⟨(Value.slice none 0 0), (Value.slice none 0 0), rfl, (inR_i64.2 (show (-9223372036854775808 : Int) ≤ 0 ∧ (0 : Int) ≤ 9223372036854775807 from by decide)), (inR_i64.2 (show (-9223372036854775808 : Int) ≤ 1 ∧ (1 : Int) ≤ 9223372036854775807 from by decide)), (Ext.trans hE15 hS48.ext), (St.out (St.pick hS48 [1, 2] rfl) (hE15))⟩
    · replace h := inegb h hc45
      refine W.seq (W.region ?_)
      refine WL.val (Value.pointer (some ⟨b1, 0, none⟩)) _ (op_fieldAddr fd_30_0 hf40) rfl ?_
      refine WL.val v_c_Orders _ (op_load one_22 rfl (BoxAt.cell (BoxAt.lift (Ext.trans hE16 hS44.ext) hx6) rfl)) rfl ?_
      refine WL.val (Value.pointer (some ⟨b9, 0, none⟩)) _ (op_fieldAddr fd_30_0 hf41) rfl ?_
      refine WL.val v_d_Orders _ (op_load one_22 rfl (BoxAt.cell (BoxAt.lift hS44.ext hx14) rfl)) rfl ?_
      obtain ⟨x51, hx52, h⟩ := bs h
      refine WL.call _ (op_call fn_60 (args2 rfl rfl)) (c_spec_l01Same (Ty.lift _ (Ext.trans hE15 hS44.ext) r_c_Orders) (Ty.lift _ (Ext.trans hE15 hS44.ext) r_d_Orders) hx52) rfl ?_
      rintro _ wd53 ⟨rfl, he54⟩
      have hS56 := St.extend hS44 he54
      replace hS56 : St wd10 wd53 [bx b18 [(Value.slice none 0 0), (Value.int .i64 (0 : Int)), (Value.slice none 0 0)]] := hS56
      refine WL.val (Value.bool (!x51)) _ (op_not rfl) rfl ?_
      refine WL.val (Value.bool (!x51)) _ (op_move rfl) rfl ?_
      refine WL.cut 6 (fun fq wq => fq 2 = (Value.pointer (some ⟨b1, 0, none⟩)) ∧ fq 3 = (Value.pointer (some ⟨b9, 0, none⟩)) ∧ fq 4 = (Value.pointer (some ⟨b18, 0, none⟩)) ∧ fq 29 = (Value.bool ((!x51) || (c_Modulus != d_Modulus))) ∧ St wd10 wq [bx b18 [(Value.slice none 0 0), (Value.int .i64 (0 : Int)), (Value.slice none 0 0)]]) ?_ ?_
      · rcases Bool.eq_false_or_eq_true (!x51) with hc57 | hc57
        · refine WL.gskip rfl (bool_of rfl hc57) rfl ?_
          refine WL.gskip rfl (bool_of rfl hc57) rfl ?_
          refine WL.gskip rfl (bool_of rfl hc57) rfl ?_
          refine WL.gskip rfl (bool_of rfl hc57) rfl ?_
          refine WL.gskip rfl (bool_of rfl hc57) rfl ?_
          refine WL.val (Value.bool true) _ (op_pick_t (evb_of rfl hc57) rfl) rfl ?_
          refine WL.nil ?_
          exact ⟨rfl, hf40, hf41, hf42, (orT hc57), hS56⟩
        · refine WL.grun rfl (bool_of rfl hc57) ?_
          refine WL.val (Value.pointer (some ⟨b1, 1, none⟩)) _ (op_fieldAddr fd_30_1 hf40) rfl ?_
          refine WL.grun rfl (bool_of rfl hc57) ?_
          refine WL.val (Value.int .i64 c_Modulus) _ (op_load one_2 rfl (BoxAt.cell (BoxAt.lift (Ext.trans hE16 hS56.ext) hx6) rfl)) rfl ?_
          refine WL.grun rfl (bool_of rfl hc57) ?_
          refine WL.val (Value.pointer (some ⟨b9, 1, none⟩)) _ (op_fieldAddr fd_30_1 hf41) rfl ?_
          refine WL.grun rfl (bool_of rfl hc57) ?_
          refine WL.val (Value.int .i64 d_Modulus) _ (op_load one_2 rfl (BoxAt.cell (BoxAt.lift hS56.ext hx14) rfl)) rfl ?_
          refine WL.grun rfl (bool_of rfl hc57) ?_
          refine WL.val (Value.bool (c_Modulus != d_Modulus)) _ (op_neq rfl rfl) rfl ?_
          refine WL.val (Value.bool (c_Modulus != d_Modulus)) _ (op_pick_f (evb_of rfl hc57) rfl) rfl ?_
          refine WL.nil ?_
          exact ⟨rfl, hf40, hf41, hf42, (orF hc57), hS56⟩
      · intro f58 wd59 hq60
        obtain ⟨hf61, hf62, hf63, hf64, hS65⟩ := hq60
        refine WL.val (Value.bool ((!x51) || (c_Modulus != d_Modulus))) _ (op_assign hf64) rfl ?_
        refine WL.nil ?_
        show W _ _ _ _ _ _
        refine W.cond ((!x51) || (c_Modulus != d_Modulus)) rfl (fun hc66 => ?_) (fun hc66 => ?_)
        · replace h := ip h hc66
          refine W.seq (W.region ?_)
          refine WL.val (Value.agg #[(Value.slice none 0 0), (Value.int .i64 (0 : Int)), (Value.slice none 0 0)]) _ (op_build bd_30 (parts := []) (partsL trivial) trivial rfl) rfl ?_
          have hS70 := St.addNil (Ty.i .i64) hS65
          replace hS70 : St wd10 wd59 [bx b18 [(Value.slice none 0 0), (Value.int .i64 (0 : Int)), (Value.slice none 0 0)], (Ty.sl (Ty.i .i64)).at (Value.slice none 0 0) ([] : (List Int))] := hS70
          have hS71 := St.addNil (Ty.sl (Ty.sl (Ty.i .i64))) hS70
          replace hS71 : St wd10 wd59 [bx b18 [(Value.slice none 0 0), (Value.int .i64 (0 : Int)), (Value.slice none 0 0)], (Ty.sl (Ty.i .i64)).at (Value.slice none 0 0) ([] : (List Int)), (Ty.sl (Ty.sl (Ty.sl (Ty.i .i64)))).at (Value.slice none 0 0) ([] : (List (List (List Int))))] := hS71
          refine WL.storeBox [(Value.slice none 0 0), (Value.int .i64 (0 : Int)), (Value.slice none 0 0)] hS71 (k := 0) rfl hf63 rfl (us := [(Value.slice none 0 0), (Value.int .i64 (0 : Int)), (Value.slice none 0 0)]) rfl sz_30 rfl rfl (all_rep (St.rep (t := (Ty.sl (Ty.i .i64))) hS71 1 rfl) (all_cons rfl (all_rep (St.rep (t := (Ty.sl (Ty.sl (Ty.sl (Ty.i .i64))))) hS71 2 rfl) all_nil))) rfl ?_
          intro wd68 hS69
          replace hS69 : St wd10 wd68 [bx b18 [(Value.slice none 0 0), (Value.int .i64 (0 : Int)), (Value.slice none 0 0)], (Ty.sl (Ty.i .i64)).at (Value.slice none 0 0) ([] : (List Int)), (Ty.sl (Ty.sl (Ty.sl (Ty.i .i64)))).at (Value.slice none 0 0) ([] : (List (List (List Int))))] := hS69
          refine WL.val (Value.int .i64 (2 : Int)) _ (op_assign rfl) rfl ?_
          refine WL.nil ?_
          show W _ _ _ _ _ _
          refine W.ret ?_
          obtain rfl := Option.some.inj h
          show FinP _ _ _ _ _ _ _
          exact FinP.ret _ (resCT rfl hf63 st_30 (St.boxAt hS69 0 rfl) rfl rfl) ⟨(Value.slice none 0 0), (Value.slice none 0 0), rfl, (inR_i64.2 (show (-9223372036854775808 : Int) ≤ 0 ∧ (0 : Int) ≤ 9223372036854775807 from by decide)), (inR_i64.2 (show (-9223372036854775808 : Int) ≤ 2 ∧ (2 : Int) ≤ 9223372036854775807 from by decide)), (Ext.trans hE15 hS69.ext), (St.out (St.pick hS69 [1, 2] rfl) (hE15))⟩
        · replace h := inegb h hc66
          refine W.skip ?_
          show W _ _ _ _ _ _
          refine W.seq (W.region ?_)
          refine WL.val (Value.agg #[v_c_Orders, (Value.int .i64 c_Modulus), v_c_Values]) _ (op_loadBox st_30 hf61 (BoxAt.lift (Ext.trans hE16 hS65.ext) hx6) rfl rfl) rfl ?_
          refine WL.val (Value.agg #[v_d_Orders, (Value.int .i64 d_Modulus), v_d_Values]) _ (op_loadBox st_30 hf62 (BoxAt.lift hS65.ext hx14) rfl rfl) rfl ?_
          obtain ⟨x72, hx73, h⟩ := bs h
          refine WL.call _ (op_call fn_61 (args2 rfl rfl)) (c_spec_l17Sum (Ty.lift _ (Ext.trans hE15 hS65.ext) r_c_Orders) r_c_Modulus (Ty.lift _ (Ext.trans hE15 hS65.ext) r_c_Values) (Ty.lift _ (Ext.trans hE15 hS65.ext) r_d_Orders) r_d_Modulus (Ty.lift _ (Ext.trans hE15 hS65.ext) r_d_Values) hx73) rfl ?_
          rintro _ wd77 ⟨u74, u76, rfl, hr75, he78, hs79⟩
          have hS80 := St.join hS65 he78 hs79
          replace hS80 : St wd10 wd77 [bx b18 [(Value.slice none 0 0), (Value.int .i64 (0 : Int)), (Value.slice none 0 0)], (Ty.sl (Ty.i .i64)).at u74 x72.1, (Ty.sl (Ty.sl (Ty.sl (Ty.i .i64)))).at u76 x72.2.2] := hS80
          refine WL.storeBox [u74, (Value.int .i64 x72.2.1), u76] hS80 (k := 0) rfl hf63 rfl (us := [u74, (Value.int .i64 x72.2.1), u76]) rfl sz_30 rfl rfl (all_rep (St.rep (t := (Ty.sl (Ty.i .i64))) hS80 1 rfl) (all_cons rfl (all_rep (St.rep (t := (Ty.sl (Ty.sl (Ty.sl (Ty.i .i64))))) hS80 2 rfl) all_nil))) rfl ?_
          intro wd81 hS82
          replace hS82 : St wd10 wd81 [bx b18 [u74, (Value.int .i64 x72.2.1), u76], (Ty.sl (Ty.i .i64)).at u74 x72.1, (Ty.sl (Ty.sl (Ty.sl (Ty.i .i64)))).at u76 x72.2.2] := hS82
          refine WL.val (Value.int .i64 (0 : Int)) _ (op_assign rfl) rfl ?_
          refine WL.nil ?_
          show W _ _ _ _ _ _
          refine W.ret ?_
          obtain rfl := Option.some.inj h
          show FinP _ _ _ _ _ _ _
          exact FinP.ret _ (resCT rfl hf63 st_30 (St.boxAt hS82 0 rfl) rfl rfl) ⟨u74, u76, rfl, hr75, (inR_i64.2 (show (-9223372036854775808 : Int) ≤ 0 ∧ (0 : Int) ≤ 9223372036854775807 from by decide)), (Ext.trans hE15 hS82.ext), (St.out (St.pick hS82 [1, 2] rfl) (hE15))⟩

theorem c_slices_Equal_Lint64_int64 {w : World} {s1 : (List Int)} {v_s1 : Value} {s2 : (List Int)} {v_s2 : Value} (r_s1 : (Ty.sl (Ty.i .i64)).rep w v_s1 s1) (r_s2 : (Ty.sl (Ty.i .i64)).rep w v_s2 s2) {res : Bool} (h : p_slices_Equal_Lint64_int64 s1 s2  = some res) :
    Ret Try.prog 89 #[v_s1, v_s2] w (fun v w' => v = Value.bool res ∧ Ext w w') := by
  unfold p_slices_Equal_Lint64_int64 at h
  have hS0 : St w w [] := St.start w
  refine Ret.start (fn := Try.f89) Try.func89 rfl 26 rfl rfl ?_
  refine W.seq (W.region ?_)
  refine WL.val (Value.bool false) _ (op_assign rfl) rfl ?_
  refine WL.nil ?_
  show W _ _ _ _ _ _
  refine W.seq (W.seq (W.region ?_))
  refine WL.val v_s1 _ (op_move rfl) rfl ?_
  have hr1 := inR_len (Ty.lift _ hS0.ext r_s1)
  refine WL.val (Value.int .i64 ((s1).length : Int)) _ (op_lenL sl_22 (Ty.lift _ hS0.ext r_s1) rfl) rfl ?_
  refine WL.val v_s2 _ (op_move rfl) rfl ?_
  have hr2 := inR_len (Ty.lift _ hS0.ext r_s2)
  refine WL.val (Value.int .i64 ((s2).length : Int)) _ (op_lenL sl_22 (Ty.lift _ hS0.ext r_s2) rfl) rfl ?_
  refine WL.val (Value.bool (((s1).length : Int) != ((s2).length : Int))) _ (op_neq rfl rfl) rfl ?_
  refine WL.nil ?_
  show W _ _ _ _ _ _
  refine W.cond (((s1).length : Int) != ((s2).length : Int)) rfl (fun hc3 => ?_) (fun hc3 => ?_)
  · replace h := ip h hc3
    refine W.seq (W.region ?_)
    refine WL.val (Value.bool false) _ (op_assign rfl) rfl ?_
    refine WL.nil ?_
    show W _ _ _ _ _ _
    refine W.ret ?_
    obtain rfl := Option.some.inj h
    show FinP _ _ _ _ _ _ _
    exact FinP.ret _ (res1 rfl rfl) ⟨rfl, hS0.ext⟩
  · replace h := inegb h hc3
    refine W.skip ?_
    show W _ _ _ _ _ _
    refine W.seq (W.seq (W.region ?_))
    refine WL.val v_s1 _ (op_move rfl) rfl ?_
    have hr5 := inR_len (Ty.lift _ hS0.ext r_s1)
    refine WL.val (Value.int .i64 ((s1).length : Int)) _ (op_lenL sl_22 (Ty.lift _ hS0.ext r_s1) rfl) rfl ?_
    refine WL.val (Value.int .i64 (0 : Int)) _ (op_move rfl) rfl ?_
    refine WL.nil ?_
    show W _ _ _ _ _ _
    obtain ⟨res6, hres7, h⟩ := bs h
    refine W.blockLoop (fun fq wq => ∃ s, res6 = Res.fin s ∧ St w wq []) ?_ ?_
    · refine W.forN (fun k (s : Unit) fq wq => fq 0 = v_s1 ∧ fq 1 = v_s2 ∧ fq 12 = (Value.int .i64 ((s1).length : Int)) ∧ fq 13 = Value.int .i64 (k : Int) ∧ InR .i64 (k : Int) ∧ St w wq []) hres7 ⟨rfl, rfl, rfl, rfl, (inR_i64.2 (show (-9223372036854775808 : Int) ≤ 0 ∧ (0 : Int) ≤ 9223372036854775807 from by decide)), hS0⟩ ?_ ?_
      · intro k8 s136 ct9 f10 wd11 hk12 hb13 hI14 hbrk15 hret16
        obtain ⟨⟩ := s136
        replace hI14 : f10 0 = v_s1 ∧ f10 1 = v_s2 ∧ f10 12 = (Value.int .i64 ((s1).length : Int)) ∧ f10 13 = Value.int .i64 (k8 : Int) ∧ InR .i64 (k8 : Int) ∧ St w wd11 [] := hI14
        replace hb13 : p_slices_Equal_Lint64_int64_L1 s1 s2 k8  = some ct9 := hb13
        unfold p_slices_Equal_Lint64_int64_L1 at hb13
        obtain ⟨hf17, hf18, hf19, hf20, hr21, hS22⟩ := hI14
        refine W.seq (W.region ?_)
        refine WL.val (Value.bool (decide ((k8 : Int) < ((s1).length : Int)))) _ (op_lss hf20 hf19) rfl ?_
        have hl23 : (k8 : Int) < ((s1).length : Int) := by omega
        refine WL.nil ?_
        show W _ _ _ _ _ _
        refine W.seq ?_
        refine W.condT (decide ((k8 : Int) < ((s1).length : Int))) rfl (decide_eq_true hl23) ?_
        refine W.skip ?_
        show W _ _ _ _ _ _
        refine W.seq ?_
        refine W.block ?_
        refine W.seq (W.region ?_)
        refine WL.val (Value.int .i64 (k8 : Int)) _ (op_move hf20) rfl ?_
        refine WL.val (Value.int .i64 (k8 : Int)) _ (op_assign rfl) rfl ?_
        refine WL.nil ?_
        show W _ _ _ _ _ _
        refine W.seq ?_
        obtain ⟨x54, hx57, hb13⟩ := bs hb13
        obtain ⟨ha55, hb56, hx57⟩ := idx_some hx57
        obtain ⟨u68, hc69, hr70⟩ := repSl.el r_s1 hx57
        obtain ⟨rfl, hr70⟩ := hr70
        obtain ⟨x100, hx103, hb13⟩ := bs hb13
        obtain ⟨ha101, hb102, hx103⟩ := idx_some hx103
        obtain ⟨u114, hc115, hr116⟩ := repSl.el r_s2 hx103
        obtain ⟨rfl, hr116⟩ := hr116
        refine W.drawR mixo 8 [] [fun _ v _ _ => v = v_s1, fun _ v _ _ => v = (Value.int .i64 (k8 : Int)) ∧ InR .i64 (k8 : Int), fun _ v _ _ => v = (Value.pointer (some (elA v_s1 ((k8 : Int)).toNat))), fun _ v _ _ => v = (Value.int .i64 x54) ∧ InR .i64 x54, fun _ v _ _ => v = v_s2, fun _ v _ _ => v = (Value.int .i64 (k8 : Int)) ∧ InR .i64 (k8 : Int), fun _ v _ _ => v = (Value.pointer (some (elA v_s2 ((k8 : Int)).toNat))), fun _ v _ _ => v = (Value.int .i64 x100) ∧ InR .i64 x100] (by kernel_rfl) (by kernel_rfl) ⟨⟨fun _ _ _ _ _ _ h => h, fun _ _ _ _ _ _ h => h⟩, ⟨fun _ _ _ _ _ _ h => h, fun _ _ _ _ _ _ h => h⟩, ⟨fun _ _ _ _ _ _ h => h, fun _ _ _ _ _ _ h => h⟩, ⟨fun _ _ _ _ _ _ h => h, fun _ _ _ _ _ _ h => h⟩, ⟨fun _ _ _ _ _ _ h => h, fun _ _ _ _ _ _ h => h⟩, ⟨fun _ _ _ _ _ _ h => h, fun _ _ _ _ _ _ h => h⟩, ⟨fun _ _ _ _ _ _ h => h, fun _ _ _ _ _ _ h => h⟩, ⟨fun _ _ _ _ _ _ h => h, fun _ _ _ _ _ _ h => h⟩, trivial⟩ ⟨?_, ?_, ?_, ?_, ?_, ?_, ?_, ?_, trivial⟩ ?_
        · refine ObX.op rfl ?_
          intro f25 wd26 he27 hout28 hphi29
          have hS30 : St w wd26 [] := St.extend hS22 he27
          have e31 : f25 0 = v_s1 := (hout28 0 rfl).trans hf17
          exact OpX.val v_s1 wd26 rfl (op_move e31) (Ext.refl _) rfl
        · refine ObX.op rfl ?_
          intro f32 wd33 he34 hout35 hphi36
          have hS37 : St w wd33 [] := St.extend hS22 he34
          have e38 : f32 5 = (Value.int .i64 (k8 : Int)) := (hout35 5 rfl).trans rfl
          exact OpX.val (Value.int .i64 (k8 : Int)) wd33 rfl (op_move e38) (Ext.refl _) ⟨rfl, hr21⟩
        · refine ObX.op rfl ?_
          intro f39 wd40 he41 hout42 hphi43
          have hS44 : St w wd40 [] := St.extend hS22 he41
          obtain ⟨S45, hS46, hf47⟩ := hphi43 0 16 _ rfl rfl rfl
          have e48 : f39 16 = v_s1 := hf47
          obtain ⟨S49, hS50, hf51⟩ := hphi43 1 17 _ rfl rfl rfl
          obtain ⟨e52, hr53⟩ : f39 17 = (Value.int .i64 (k8 : Int)) ∧ InR .i64 (k8 : Int) := hf51
          exact OpX.val (Value.pointer (some (elA v_s1 ((k8 : Int)).toNat))) wd40 rfl (op_idx sl_22 (Ty.lift _ hS44.ext r_s1) e48 e52 ha55 hb56) (Ext.refl _) rfl
        · refine ObX.op rfl ?_
          intro f58 wd59 he60 hout61 hphi62
          have hS63 : St w wd59 [] := St.extend hS22 he60
          obtain ⟨S64, hS65, hf66⟩ := hphi62 2 18 _ rfl rfl rfl
          have e67 : f58 18 = (Value.pointer (some (elA v_s1 ((k8 : Int)).toNat))) := hf66
          exact OpX.val (Value.int .i64 x54) wd59 rfl (op_load one_2 e67 (Ext.cell hS63.ext hc69)) (Ext.refl _) ⟨rfl, hr70⟩
        · refine ObX.op rfl ?_
          intro f71 wd72 he73 hout74 hphi75
          have hS76 : St w wd72 [] := St.extend hS22 he73
          have e77 : f71 1 = v_s2 := (hout74 1 rfl).trans hf18
          exact OpX.val v_s2 wd72 rfl (op_move e77) (Ext.refl _) rfl
        · refine ObX.op rfl ?_
          intro f78 wd79 he80 hout81 hphi82
          have hS83 : St w wd79 [] := St.extend hS22 he80
          have e84 : f78 5 = (Value.int .i64 (k8 : Int)) := (hout81 5 rfl).trans rfl
          exact OpX.val (Value.int .i64 (k8 : Int)) wd79 rfl (op_move e84) (Ext.refl _) ⟨rfl, hr21⟩
        · refine ObX.op rfl ?_
          intro f85 wd86 he87 hout88 hphi89
          have hS90 : St w wd86 [] := St.extend hS22 he87
          obtain ⟨S91, hS92, hf93⟩ := hphi89 4 20 _ rfl rfl rfl
          have e94 : f85 20 = v_s2 := hf93
          obtain ⟨S95, hS96, hf97⟩ := hphi89 5 21 _ rfl rfl rfl
          obtain ⟨e98, hr99⟩ : f85 21 = (Value.int .i64 (k8 : Int)) ∧ InR .i64 (k8 : Int) := hf97
          exact OpX.val (Value.pointer (some (elA v_s2 ((k8 : Int)).toNat))) wd86 rfl (op_idx sl_22 (Ty.lift _ hS90.ext r_s2) e94 e98 ha101 hb102) (Ext.refl _) rfl
        · refine ObX.op rfl ?_
          intro f104 wd105 he106 hout107 hphi108
          have hS109 : St w wd105 [] := St.extend hS22 he106
          obtain ⟨S110, hS111, hf112⟩ := hphi108 6 22 _ rfl rfl rfl
          have e113 : f104 22 = (Value.pointer (some (elA v_s2 ((k8 : Int)).toNat))) := hf112
          exact OpX.val (Value.int .i64 x100) wd105 rfl (op_load one_2 e113 (Ext.cell hS109.ext hc115)) (Ext.refl _) ⟨rfl, hr116⟩
        · intro f117 wd118 Ss119 he120 hout121 hSn122 hSd123 hphi124
          show WL _ _ _ _ _ _ _
          have hS125 : St w wd118 [] := St.extend hS22 he120
          obtain ⟨e126, hr127⟩ : f117 19 = (Value.int .i64 x54) ∧ InR .i64 x54 := hphi124 3 19 _ (by decide) rfl rfl
          obtain ⟨e128, hr129⟩ : f117 23 = (Value.int .i64 x100) ∧ InR .i64 x100 := hphi124 7 23 _ (by decide) rfl rfl
          have e130 : f117 0 = v_s1 := (hout121 0 rfl).trans hf17
          have e131 : f117 1 = v_s2 := (hout121 1 rfl).trans hf18
          have e132 : f117 12 = (Value.int .i64 ((s1).length : Int)) := (hout121 12 rfl).trans hf19
          have e133 : f117 13 = (Value.int .i64 (k8 : Int)) := (hout121 13 rfl).trans hf20
          refine WL.val (Value.bool (x54 != x100)) _ (op_neq e126 e128) rfl ?_
          refine WL.nil ?_
          show W _ _ _ _ _ _
          refine W.cond (x54 != x100) rfl (fun hc134 => ?_) (fun hc134 => ?_)
          · replace hb13 := ip hb13 hc134
            refine W.seq (W.region ?_)
            refine WL.val (Value.bool false) _ (op_assign rfl) rfl ?_
            refine WL.nil ?_
            show W _ _ _ _ _ _
            refine W.ret ?_
            obtain rfl := Option.some.inj hb13
            obtain rfl := hret16 _ rfl
            replace h := onRes_ret h
            obtain rfl := Option.some.inj h
            show FinP _ _ _ _ _ _ _
            exact FinP.ret _ (res1 rfl rfl) ⟨rfl, hS125.ext⟩
          · replace hb13 := inegb hb13 hc134
            refine W.skip ?_
            show W _ _ _ _ _ _
            refine W.region ?_
            refine WL.val (Value.int .i64 (w64 ((k8 : Int) + (1 : Int)))) _ (op_add e133 rfl) rfl ?_
            refine WL.val (Value.int .i64 (w64 ((k8 : Int) + (1 : Int)))) _ (op_move rfl) rfl ?_
            refine WL.nil ?_
            obtain rfl := Option.some.inj hb13
            show ∃ s, _ = Ctl.next s ∧ _
            exact ⟨_, rfl, e130, e131, e132, (ctr_next hl23 hr5), (ctr_rng hl23 hr5), hS125⟩
      · intro s141 f137 wd138 hs139 hI140
        obtain ⟨⟩ := s141
        replace hI140 : f137 0 = v_s1 ∧ f137 1 = v_s2 ∧ f137 12 = (Value.int .i64 ((s1).length : Int)) ∧ f137 13 = Value.int .i64 (((s1).length : Nat) : Int) ∧ InR .i64 (((s1).length : Nat) : Int) ∧ St w wd138 [] := hI140
        obtain ⟨hf142, hf143, hf144, hf145, hr146, hS147⟩ := hI140
        refine W.seq (W.region ?_)
        refine WL.val (Value.bool (decide ((((s1).length : Nat) : Int) < ((s1).length : Int)))) _ (op_lss hf145 hf144) rfl ?_
        have hl148 : ¬ (((s1).length : Nat) : Int) < ((s1).length : Int) := by omega
        refine WL.nil ?_
        show W _ _ _ _ _ _
        refine W.seq ?_
        refine W.condF (decide ((((s1).length : Nat) : Int) < ((s1).length : Int))) rfl (decide_eq_false hl148) ?_
        refine W.exit ?_
        show _ = _ ∧ _
        exact ⟨rfl, _, hs139, hS147⟩
    · rintro f149 wd150 ⟨s152, rfl, hq151⟩
      replace h := onRes_fin h
      obtain ⟨⟩ := s152
      replace hq151 : St w wd150 [] := hq151
      have hS153 := hq151
      show W _ _ _ _ _ _
      refine W.seq (W.region ?_)
      refine WL.val (Value.bool true) _ (op_assign rfl) rfl ?_
      refine WL.nil ?_
      show W _ _ _ _ _ _
      refine W.ret ?_
      obtain rfl := Option.some.inj h
      show FinP _ _ _ _ _ _ _
      exact FinP.ret _ (res1 rfl rfl) ⟨rfl, hS153.ext⟩

theorem c_impl_sameKind {w : World} {c_Orders : (List Int)} {v_c_Orders : Value} {c_Modulus : Int} {c_Values : (List (List (List Int)))} {v_c_Values : Value} {d_Orders : (List Int)} {v_d_Orders : Value} {d_Modulus : Int} {d_Values : (List (List (List Int)))} {v_d_Values : Value} (r_c_Orders : (Ty.sl (Ty.i .i64)).rep w v_c_Orders c_Orders) (r_c_Modulus : InR .i64 c_Modulus) (r_c_Values : (Ty.sl (Ty.sl (Ty.sl (Ty.i .i64)))).rep w v_c_Values c_Values) (r_d_Orders : (Ty.sl (Ty.i .i64)).rep w v_d_Orders d_Orders) (r_d_Modulus : InR .i64 d_Modulus) (r_d_Values : (Ty.sl (Ty.sl (Ty.sl (Ty.i .i64)))).rep w v_d_Values d_Values) {res : Bool} (h : p_impl_sameKind c_Orders c_Modulus c_Values d_Orders d_Modulus d_Values  = some res) :
    Ret Try.prog 62 #[(Value.agg #[v_c_Orders, (Value.int .i64 c_Modulus), v_c_Values]), (Value.agg #[v_d_Orders, (Value.int .i64 d_Modulus), v_d_Values])] w (fun v w' => v = Value.bool res ∧ Ext w w') := by
  unfold p_impl_sameKind at h
  have hS0 : St w w [] := St.start w
  refine Ret.start (fn := Try.f62) Try.func62 rfl 17 rfl rfl ?_
  refine W.seq (W.region ?_)
  refine WL.box hS0 rfl (cs := [v_c_Orders, (Value.int .i64 c_Modulus), v_c_Values]) rfl rfl ?_
  intro b1 wd2 hS3 he4 hx5
  replace hS3 : St w wd2 [bx b1 [v_c_Orders, (Value.int .i64 c_Modulus), v_c_Values]] := hS3
  have hx6 := St.boxAt hS3 0 rfl
  have hE7 : Ext w wd2 := hS3.ext
  have hS8 : St wd2 wd2 [] := St.start wd2
  refine WL.box hS8 rfl (cs := [v_d_Orders, (Value.int .i64 d_Modulus), v_d_Values]) rfl rfl ?_
  intro b9 wd10 hS11 he12 hx13
  replace hS11 : St wd2 wd10 [bx b9 [v_d_Orders, (Value.int .i64 d_Modulus), v_d_Values]] := hS11
  have hx14 := St.boxAt hS11 0 rfl
  have hE15 : Ext w wd10 := (Ext.trans hE7 hS11.ext)
  have hE16 : Ext wd2 wd10 := hS11.ext
  have hS17 : St wd10 wd10 [] := St.start wd10
  refine WL.val (Value.bool false) _ (op_assign rfl) rfl ?_
  refine WL.nil ?_
  show W _ _ _ _ _ _
  refine W.seq (W.region ?_)
  refine WL.val (Value.pointer (some ⟨b1, 0, none⟩)) _ (op_fieldAddr fd_30_0 rfl) rfl ?_
  refine WL.val v_c_Orders _ (op_load one_22 rfl (BoxAt.cell (BoxAt.lift (Ext.trans hE16 hS17.ext) hx6) rfl)) rfl ?_
  refine WL.val (Value.pointer (some ⟨b9, 0, none⟩)) _ (op_fieldAddr fd_30_0 rfl) rfl ?_
  refine WL.val v_d_Orders _ (op_load one_22 rfl (BoxAt.cell (BoxAt.lift hS17.ext hx14) rfl)) rfl ?_
  obtain ⟨x18, hx19, h⟩ := bs h
  refine WL.call _ (op_call fn_89 (args2 rfl rfl)) (c_slices_Equal_Lint64_int64 (Ty.lift _ (Ext.trans hE15 hS17.ext) r_c_Orders) (Ty.lift _ (Ext.trans hE15 hS17.ext) r_d_Orders) hx19) rfl ?_
  rintro _ wd20 ⟨rfl, he21⟩
  have hS23 := St.extend hS17 he21
  replace hS23 : St wd10 wd20 [] := hS23
  refine WL.val (Value.bool x18) _ (op_move rfl) rfl ?_
  refine WL.cut 6 (fun fq wq => fq 16 = (Value.bool (x18 && (c_Modulus == d_Modulus))) ∧ St wd10 wq []) ?_ ?_
  · rcases Bool.eq_false_or_eq_true x18 with hc24 | hc24
    · refine WL.grun rfl (bool_of rfl hc24) ?_
      refine WL.val (Value.pointer (some ⟨b1, 1, none⟩)) _ (op_fieldAddr fd_30_1 rfl) rfl ?_
      refine WL.grun rfl (bool_of rfl hc24) ?_
      refine WL.val (Value.int .i64 c_Modulus) _ (op_load one_2 rfl (BoxAt.cell (BoxAt.lift (Ext.trans hE16 hS23.ext) hx6) rfl)) rfl ?_
      refine WL.grun rfl (bool_of rfl hc24) ?_
      refine WL.val (Value.pointer (some ⟨b9, 1, none⟩)) _ (op_fieldAddr fd_30_1 rfl) rfl ?_
      refine WL.grun rfl (bool_of rfl hc24) ?_
      refine WL.val (Value.int .i64 d_Modulus) _ (op_load one_2 rfl (BoxAt.cell (BoxAt.lift hS23.ext hx14) rfl)) rfl ?_
      refine WL.grun rfl (bool_of rfl hc24) ?_
      refine WL.val (Value.bool (c_Modulus == d_Modulus)) _ (op_eql rfl rfl) rfl ?_
      refine WL.val (Value.bool (c_Modulus == d_Modulus)) _ (op_pick_t (evb_of rfl hc24) rfl) rfl ?_
      refine WL.nil ?_
      exact ⟨rfl, (andT hc24), hS23⟩
    · refine WL.gskip rfl (bool_of rfl hc24) rfl ?_
      refine WL.gskip rfl (bool_of rfl hc24) rfl ?_
      refine WL.gskip rfl (bool_of rfl hc24) rfl ?_
      refine WL.gskip rfl (bool_of rfl hc24) rfl ?_
      refine WL.gskip rfl (bool_of rfl hc24) rfl ?_
      refine WL.val (Value.bool false) _ (op_pick_f (evb_of rfl hc24) rfl) rfl ?_
      refine WL.nil ?_
      exact ⟨rfl, (andF hc24), hS23⟩
  · intro f25 wd26 hq27
    obtain ⟨hf28, hS29⟩ := hq27
    refine WL.val (Value.bool (x18 && (c_Modulus == d_Modulus))) _ (op_assign hf28) rfl ?_
    refine WL.nil ?_
    show W _ _ _ _ _ _
    refine W.ret ?_
    obtain rfl := Option.some.inj h
    show FinP _ _ _ _ _ _ _
    exact FinP.ret _ (res1 rfl rfl) ⟨rfl, (Ext.trans hE15 hS29.ext)⟩

theorem c_impl_addCocycles_c1 {w : World} {x : Int} {y : Int} {z : Int} {b_c0 : Nat} {c0_Orders : (List Int)} {v_c0_Orders : Value} {c0_Modulus : Int} {c0_Values : (List (List (List Int)))} {v_c0_Values : Value} {b_c1 : Nat} {c1_Orders : (List Int)} {v_c1_Orders : Value} {c1_Modulus : Int} {c1_Values : (List (List (List Int)))} {v_c1_Values : Value} (r_x : InR .i64 x) (r_y : InR .i64 y) (r_z : InR .i64 z) (k_c0 : BoxAt w b_c0 [v_c0_Orders, (Value.int .i64 c0_Modulus), v_c0_Values]) (r_c0_Orders : (Ty.sl (Ty.i .i64)).rep w v_c0_Orders c0_Orders) (r_c0_Modulus : InR .i64 c0_Modulus) (r_c0_Values : (Ty.sl (Ty.sl (Ty.sl (Ty.i .i64)))).rep w v_c0_Values c0_Values) (k_c1 : BoxAt w b_c1 [v_c1_Orders, (Value.int .i64 c1_Modulus), v_c1_Values]) (r_c1_Orders : (Ty.sl (Ty.i .i64)).rep w v_c1_Orders c1_Orders) (r_c1_Modulus : InR .i64 c1_Modulus) (r_c1_Values : (Ty.sl (Ty.sl (Ty.sl (Ty.i .i64)))).rep w v_c1_Values c1_Values) {res : Int} (h : p_impl_addCocycles_c1 x y z c0_Orders c0_Modulus c0_Values c1_Orders c1_Modulus c1_Values = some res) :
    Ret Try.prog 90 #[(Value.int .i64 x), (Value.int .i64 y), (Value.int .i64 z), (Value.pointer (some ⟨b_c0, 0, none⟩)), (Value.pointer (some ⟨b_c1, 0, none⟩))] w (fun v w' => v = Value.int .i64 res ∧ InR .i64 res ∧ Ext w w') := by
  unfold p_impl_addCocycles_c1 at h
  have hS0 : St w w [] := St.start w
  refine Ret.start (fn := Try.f90) Try.func90 rfl 32 rfl rfl ?_
  refine W.seq (W.region ?_)
  refine WL.val (Value.int .i64 (0 : Int)) _ (op_assign rfl) rfl ?_
  refine WL.nil ?_
  show W _ _ _ _ _ _
  refine W.seq ?_
  obtain ⟨x40, hx43, h⟩ := bs h
  obtain ⟨ha41, hb42, hx43⟩ := idx_some hx43
  obtain ⟨u54, hc55, hr56⟩ := repSl.el r_c0_Values hx43
  obtain ⟨x79, hx82, h⟩ := bs h
  obtain ⟨ha80, hb81, hx82⟩ := idx_some hx82
  obtain ⟨u93, hc94, hr95⟩ := repSl.el hr56 hx82
  obtain ⟨x118, hx121, h⟩ := bs h
  obtain ⟨ha119, hb120, hx121⟩ := idx_some hx121
  obtain ⟨u132, hc133, hr134⟩ := repSl.el hr95 hx121
  obtain ⟨rfl, hr134⟩ := hr134
  obtain ⟨x174, hx177, h⟩ := bs h
  obtain ⟨ha175, hb176, hx177⟩ := idx_some hx177
  obtain ⟨u188, hc189, hr190⟩ := repSl.el r_c1_Values hx177
  obtain ⟨x213, hx216, h⟩ := bs h
  obtain ⟨ha214, hb215, hx216⟩ := idx_some hx216
  obtain ⟨u227, hc228, hr229⟩ := repSl.el hr190 hx216
  obtain ⟨x252, hx255, h⟩ := bs h
  obtain ⟨ha253, hb254, hx255⟩ := idx_some hx255
  obtain ⟨u266, hc267, hr268⟩ := repSl.el hr229 hx255
  obtain ⟨rfl, hr268⟩ := hr268
  refine W.drawR mixo 22 [] [fun _ v _ _ => v = (Value.pointer (some ⟨b_c0, 2, none⟩)), fun _ v _ _ => v = v_c0_Values, fun _ v _ _ => v = (Value.int .i64 x) ∧ InR .i64 x, fun _ v _ _ => v = (Value.pointer (some (elA v_c0_Values (x).toNat))), fun _ v _ _ => v = u54, fun _ v _ _ => v = (Value.int .i64 y) ∧ InR .i64 y, fun _ v _ _ => v = (Value.pointer (some (elA u54 (y).toNat))), fun _ v _ _ => v = u93, fun _ v _ _ => v = (Value.int .i64 z) ∧ InR .i64 z, fun _ v _ _ => v = (Value.pointer (some (elA u93 (z).toNat))), fun _ v _ _ => v = (Value.int .i64 x118) ∧ InR .i64 x118, fun _ v _ _ => v = (Value.pointer (some ⟨b_c1, 2, none⟩)), fun _ v _ _ => v = v_c1_Values, fun _ v _ _ => v = (Value.int .i64 x) ∧ InR .i64 x, fun _ v _ _ => v = (Value.pointer (some (elA v_c1_Values (x).toNat))), fun _ v _ _ => v = u188, fun _ v _ _ => v = (Value.int .i64 y) ∧ InR .i64 y, fun _ v _ _ => v = (Value.pointer (some (elA u188 (y).toNat))), fun _ v _ _ => v = u227, fun _ v _ _ => v = (Value.int .i64 z) ∧ InR .i64 z, fun _ v _ _ => v = (Value.pointer (some (elA u227 (z).toNat))), fun _ v _ _ => v = (Value.int .i64 x252) ∧ InR .i64 x252] (by kernel_rfl) (by kernel_rfl) ⟨⟨fun _ _ _ _ _ _ h => h, fun _ _ _ _ _ _ h => h⟩, ⟨fun _ _ _ _ _ _ h => h, fun _ _ _ _ _ _ h => h⟩, ⟨fun _ _ _ _ _ _ h => h, fun _ _ _ _ _ _ h => h⟩, ⟨fun _ _ _ _ _ _ h => h, fun _ _ _ _ _ _ h => h⟩, ⟨fun _ _ _ _ _ _ h => h, fun _ _ _ _ _ _ h => h⟩, ⟨fun _ _ _ _ _ _ h => h, fun _ _ _ _ _ _ h => h⟩, ⟨fun _ _ _ _ _ _ h => h, fun _ _ _ _ _ _ h => h⟩, ⟨fun _ _ _ _ _ _ h => h, fun _ _ _ _ _ _ h => h⟩, ⟨fun _ _ _ _ _ _ h => h, fun _ _ _ _ _ _ h => h⟩, ⟨fun _ _ _ _ _ _ h => h, fun _ _ _ _ _ _ h => h⟩, ⟨fun _ _ _ _ _ _ h => h, fun _ _ _ _ _ _ h => h⟩, ⟨fun _ _ _ _ _ _ h => h, fun _ _ _ _ _ _ h => h⟩, ⟨fun _ _ _ _ _ _ h => h, fun _ _ _ _ _ _ h => h⟩, ⟨fun _ _ _ _ _ _ h => h, fun _ _ _ _ _ _ h => h⟩, ⟨fun _ _ _ _ _ _ h => h, fun _ _ _ _ _ _ h => h⟩, ⟨fun _ _ _ _ _ _ h => h, fun _ _ _ _ _ _ h => h⟩, ⟨fun _ _ _ _ _ _ h => h, fun _ _ _ _ _ _ h => h⟩, ⟨fun _ _ _ _ _ _ h => h, fun _ _ _ _ _ _ h => h⟩, ⟨fun _ _ _ _ _ _ h => h, fun _ _ _ _ _ _ h => h⟩, ⟨fun _ _ _ _ _ _ h => h, fun _ _ _ _ _ _ h => h⟩, ⟨fun _ _ _ _ _ _ h => h, fun _ _ _ _ _ _ h => h⟩, ⟨fun _ _ _ _ _ _ h => h, fun _ _ _ _ _ _ h => h⟩, trivial⟩ ⟨?_, ?_, ?_, ?_, ?_, ?_, ?_, ?_, ?_, ?_, ?_, ?_, ?_, ?_, ?_, ?_, ?_, ?_, ?_, ?_, ?_, ?_, trivial⟩ ?_
  · refine ObX.op rfl ?_
    intro f1 wd2 he3 hout4 hphi5
    have hS6 : St w wd2 [] := St.extend hS0 he3
    have e7 : f1 3 = (Value.pointer (some ⟨b_c0, 0, none⟩)) := (hout4 3 rfl).trans rfl
    exact OpX.val (Value.pointer (some ⟨b_c0, 2, none⟩)) wd2 rfl (op_fieldAddr fd_30_2 e7) (Ext.refl _) rfl
  · refine ObX.op rfl ?_
    intro f8 wd9 he10 hout11 hphi12
    have hS13 : St w wd9 [] := St.extend hS0 he10
    obtain ⟨S14, hS15, hf16⟩ := hphi12 0 9 _ rfl rfl rfl
    have e17 : f8 9 = (Value.pointer (some ⟨b_c0, 2, none⟩)) := hf16
    exact OpX.val v_c0_Values wd9 rfl (op_load one_23 e17 (BoxAt.cell (BoxAt.lift hS13.ext k_c0) rfl)) (Ext.refl _) rfl
  · refine ObX.op rfl ?_
    intro f18 wd19 he20 hout21 hphi22
    have hS23 : St w wd19 [] := St.extend hS0 he20
    have e24 : f18 0 = (Value.int .i64 x) := (hout21 0 rfl).trans rfl
    exact OpX.val (Value.int .i64 x) wd19 rfl (op_move e24) (Ext.refl _) ⟨rfl, r_x⟩
  · refine ObX.op rfl ?_
    intro f25 wd26 he27 hout28 hphi29
    have hS30 : St w wd26 [] := St.extend hS0 he27
    obtain ⟨S31, hS32, hf33⟩ := hphi29 1 10 _ rfl rfl rfl
    have e34 : f25 10 = v_c0_Values := hf33
    obtain ⟨S35, hS36, hf37⟩ := hphi29 2 11 _ rfl rfl rfl
    obtain ⟨e38, hr39⟩ : f25 11 = (Value.int .i64 x) ∧ InR .i64 x := hf37
    exact OpX.val (Value.pointer (some (elA v_c0_Values (x).toNat))) wd26 rfl (op_idx sl_23 (Ty.lift _ hS30.ext r_c0_Values) e34 e38 ha41 hb42) (Ext.refl _) rfl
  · refine ObX.op rfl ?_
    intro f44 wd45 he46 hout47 hphi48
    have hS49 : St w wd45 [] := St.extend hS0 he46
    obtain ⟨S50, hS51, hf52⟩ := hphi48 3 12 _ rfl rfl rfl
    have e53 : f44 12 = (Value.pointer (some (elA v_c0_Values (x).toNat))) := hf52
    exact OpX.val u54 wd45 rfl (op_load one_27 e53 (Ext.cell hS49.ext hc55)) (Ext.refl _) rfl
  · refine ObX.op rfl ?_
    intro f57 wd58 he59 hout60 hphi61
    have hS62 : St w wd58 [] := St.extend hS0 he59
    have e63 : f57 1 = (Value.int .i64 y) := (hout60 1 rfl).trans rfl
    exact OpX.val (Value.int .i64 y) wd58 rfl (op_move e63) (Ext.refl _) ⟨rfl, r_y⟩
  · refine ObX.op rfl ?_
    intro f64 wd65 he66 hout67 hphi68
    have hS69 : St w wd65 [] := St.extend hS0 he66
    obtain ⟨S70, hS71, hf72⟩ := hphi68 4 13 _ rfl rfl rfl
    have e73 : f64 13 = u54 := hf72
    obtain ⟨S74, hS75, hf76⟩ := hphi68 5 14 _ rfl rfl rfl
    obtain ⟨e77, hr78⟩ : f64 14 = (Value.int .i64 y) ∧ InR .i64 y := hf76
    exact OpX.val (Value.pointer (some (elA u54 (y).toNat))) wd65 rfl (op_idx sl_27 (Ty.lift _ hS69.ext hr56) e73 e77 ha80 hb81) (Ext.refl _) rfl
  · refine ObX.op rfl ?_
    intro f83 wd84 he85 hout86 hphi87
    have hS88 : St w wd84 [] := St.extend hS0 he85
    obtain ⟨S89, hS90, hf91⟩ := hphi87 6 15 _ rfl rfl rfl
    have e92 : f83 15 = (Value.pointer (some (elA u54 (y).toNat))) := hf91
    exact OpX.val u93 wd84 rfl (op_load one_22 e92 (Ext.cell hS88.ext hc94)) (Ext.refl _) rfl
  · refine ObX.op rfl ?_
    intro f96 wd97 he98 hout99 hphi100
    have hS101 : St w wd97 [] := St.extend hS0 he98
    have e102 : f96 2 = (Value.int .i64 z) := (hout99 2 rfl).trans rfl
    exact OpX.val (Value.int .i64 z) wd97 rfl (op_move e102) (Ext.refl _) ⟨rfl, r_z⟩
  · refine ObX.op rfl ?_
    intro f103 wd104 he105 hout106 hphi107
    have hS108 : St w wd104 [] := St.extend hS0 he105
    obtain ⟨S109, hS110, hf111⟩ := hphi107 7 16 _ rfl rfl rfl
    have e112 : f103 16 = u93 := hf111
    obtain ⟨S113, hS114, hf115⟩ := hphi107 8 17 _ rfl rfl rfl
    obtain ⟨e116, hr117⟩ : f103 17 = (Value.int .i64 z) ∧ InR .i64 z := hf115
    exact OpX.val (Value.pointer (some (elA u93 (z).toNat))) wd104 rfl (op_idx sl_22 (Ty.lift _ hS108.ext hr95) e112 e116 ha119 hb120) (Ext.refl _) rfl
  · refine ObX.op rfl ?_
    intro f122 wd123 he124 hout125 hphi126
    have hS127 : St w wd123 [] := St.extend hS0 he124
    obtain ⟨S128, hS129, hf130⟩ := hphi126 9 18 _ rfl rfl rfl
    have e131 : f122 18 = (Value.pointer (some (elA u93 (z).toNat))) := hf130
    exact OpX.val (Value.int .i64 x118) wd123 rfl (op_load one_2 e131 (Ext.cell hS127.ext hc133)) (Ext.refl _) ⟨rfl, hr134⟩
  · refine ObX.op rfl ?_
    intro f135 wd136 he137 hout138 hphi139
    have hS140 : St w wd136 [] := St.extend hS0 he137
    have e141 : f135 4 = (Value.pointer (some ⟨b_c1, 0, none⟩)) := (hout138 4 rfl).trans rfl
    exact OpX.val (Value.pointer (some ⟨b_c1, 2, none⟩)) wd136 rfl (op_fieldAddr fd_30_2 e141) (Ext.refl _) rfl
  · refine ObX.op rfl ?_
    intro f142 wd143 he144 hout145 hphi146
    have hS147 : St w wd143 [] := St.extend hS0 he144
    obtain ⟨S148, hS149, hf150⟩ := hphi146 11 20 _ rfl rfl rfl
    have e151 : f142 20 = (Value.pointer (some ⟨b_c1, 2, none⟩)) := hf150
    exact OpX.val v_c1_Values wd143 rfl (op_load one_23 e151 (BoxAt.cell (BoxAt.lift hS147.ext k_c1) rfl)) (Ext.refl _) rfl
  · refine ObX.op rfl ?_
    intro f152 wd153 he154 hout155 hphi156
    have hS157 : St w wd153 [] := St.extend hS0 he154
    have e158 : f152 0 = (Value.int .i64 x) := (hout155 0 rfl).trans rfl
    exact OpX.val (Value.int .i64 x) wd153 rfl (op_move e158) (Ext.refl _) ⟨rfl, r_x⟩
  · refine ObX.op rfl ?_
    intro f159 wd160 he161 hout162 hphi163
    have hS164 : St w wd160 [] := St.extend hS0 he161
    obtain ⟨S165, hS166, hf167⟩ := hphi163 12 21 _ rfl rfl rfl
    have e168 : f159 21 = v_c1_Values := hf167
    obtain ⟨S169, hS170, hf171⟩ := hphi163 13 22 _ rfl rfl rfl
    obtain ⟨e172, hr173⟩ : f159 22 = (Value.int .i64 x) ∧ InR .i64 x := hf171
    exact OpX.val (Value.pointer (some (elA v_c1_Values (x).toNat))) wd160 rfl (op_idx sl_23 (Ty.lift _ hS164.ext r_c1_Values) e168 e172 ha175 hb176) (Ext.refl _) rfl
  · refine ObX.op rfl ?_
    intro f178 wd179 he180 hout181 hphi182
    have hS183 : St w wd179 [] := St.extend hS0 he180
    obtain ⟨S184, hS185, hf186⟩ := hphi182 14 23 _ rfl rfl rfl
    have e187 : f178 23 = (Value.pointer (some (elA v_c1_Values (x).toNat))) := hf186
    exact OpX.val u188 wd179 rfl (op_load one_27 e187 (Ext.cell hS183.ext hc189)) (Ext.refl _) rfl
  · refine ObX.op rfl ?_
    intro f191 wd192 he193 hout194 hphi195
    have hS196 : St w wd192 [] := St.extend hS0 he193
    have e197 : f191 1 = (Value.int .i64 y) := (hout194 1 rfl).trans rfl
    exact OpX.val (Value.int .i64 y) wd192 rfl (op_move e197) (Ext.refl _) ⟨rfl, r_y⟩
  · refine ObX.op rfl ?_
    intro f198 wd199 he200 hout201 hphi202
    have hS203 : St w wd199 [] := St.extend hS0 he200
    obtain ⟨S204, hS205, hf206⟩ := hphi202 15 24 _ rfl rfl rfl
    have e207 : f198 24 = u188 := hf206
    obtain ⟨S208, hS209, hf210⟩ := hphi202 16 25 _ rfl rfl rfl
    obtain ⟨e211, hr212⟩ : f198 25 = (Value.int .i64 y) ∧ InR .i64 y := hf210
    exact OpX.val (Value.pointer (some (elA u188 (y).toNat))) wd199 rfl (op_idx sl_27 (Ty.lift _ hS203.ext hr190) e207 e211 ha214 hb215) (Ext.refl _) rfl
  · refine ObX.op rfl ?_
    intro f217 wd218 he219 hout220 hphi221
    have hS222 : St w wd218 [] := St.extend hS0 he219
    obtain ⟨S223, hS224, hf225⟩ := hphi221 17 26 _ rfl rfl rfl
    have e226 : f217 26 = (Value.pointer (some (elA u188 (y).toNat))) := hf225
    exact OpX.val u227 wd218 rfl (op_load one_22 e226 (Ext.cell hS222.ext hc228)) (Ext.refl _) rfl
  · refine ObX.op rfl ?_
    intro f230 wd231 he232 hout233 hphi234
    have hS235 : St w wd231 [] := St.extend hS0 he232
    have e236 : f230 2 = (Value.int .i64 z) := (hout233 2 rfl).trans rfl
    exact OpX.val (Value.int .i64 z) wd231 rfl (op_move e236) (Ext.refl _) ⟨rfl, r_z⟩
  · refine ObX.op rfl ?_
    intro f237 wd238 he239 hout240 hphi241
    have hS242 : St w wd238 [] := St.extend hS0 he239
    obtain ⟨S243, hS244, hf245⟩ := hphi241 18 27 _ rfl rfl rfl
    have e246 : f237 27 = u227 := hf245
    obtain ⟨S247, hS248, hf249⟩ := hphi241 19 28 _ rfl rfl rfl
    obtain ⟨e250, hr251⟩ : f237 28 = (Value.int .i64 z) ∧ InR .i64 z := hf249
    exact OpX.val (Value.pointer (some (elA u227 (z).toNat))) wd238 rfl (op_idx sl_22 (Ty.lift _ hS242.ext hr229) e246 e250 ha253 hb254) (Ext.refl _) rfl
  · refine ObX.op rfl ?_
    intro f256 wd257 he258 hout259 hphi260
    have hS261 : St w wd257 [] := St.extend hS0 he258
    obtain ⟨S262, hS263, hf264⟩ := hphi260 20 29 _ rfl rfl rfl
    have e265 : f256 29 = (Value.pointer (some (elA u227 (z).toNat))) := hf264
    exact OpX.val (Value.int .i64 x252) wd257 rfl (op_load one_2 e265 (Ext.cell hS261.ext hc267)) (Ext.refl _) ⟨rfl, hr268⟩
  · intro f269 wd270 Ss271 he272 hout273 hSn274 hSd275 hphi276
    show WL _ _ _ _ _ _ _
    have hS277 : St w wd270 [] := St.extend hS0 he272
    obtain ⟨e278, hr279⟩ : f269 19 = (Value.int .i64 x118) ∧ InR .i64 x118 := hphi276 10 19 _ (by decide) rfl rfl
    obtain ⟨e280, hr281⟩ : f269 30 = (Value.int .i64 x252) ∧ InR .i64 x252 := hphi276 21 30 _ (by decide) rfl rfl
    refine WL.val (Value.int .i64 (w64 (x118 + x252))) _ (op_add e278 e280) rfl ?_
    refine WL.val (Value.int .i64 (w64 (x118 + x252))) _ (op_assign rfl) rfl ?_
    refine WL.nil ?_
    show W _ _ _ _ _ _
    refine W.ret ?_
    obtain rfl := Option.some.inj h
    show FinP _ _ _ _ _ _ _
    exact FinP.ret _ (res1 rfl rfl) ⟨rfl, (inR_wrap _ _), hS277.ext⟩

theorem c_impl_addCocycles {w : World} {c_Orders : (List Int)} {v_c_Orders : Value} {c_Modulus : Int} {c_Values : (List (List (List Int)))} {v_c_Values : Value} {d_Orders : (List Int)} {v_d_Orders : Value} {d_Modulus : Int} {d_Values : (List (List (List Int)))} {v_d_Values : Value} (r_c_Orders : (Ty.sl (Ty.i .i64)).rep w v_c_Orders c_Orders) (r_c_Modulus : InR .i64 c_Modulus) (r_c_Values : (Ty.sl (Ty.sl (Ty.sl (Ty.i .i64)))).rep w v_c_Values c_Values) (r_d_Orders : (Ty.sl (Ty.i .i64)).rep w v_d_Orders d_Orders) (r_d_Modulus : InR .i64 d_Modulus) (r_d_Values : (Ty.sl (Ty.sl (Ty.sl (Ty.i .i64)))).rep w v_d_Values d_Values) {res : (List Int) × Int × (List (List (List Int)))} (h : p_impl_addCocycles c_Orders c_Modulus c_Values d_Orders d_Modulus d_Values  = some res) :
    Ret Try.prog 63 #[(Value.agg #[v_c_Orders, (Value.int .i64 c_Modulus), v_c_Values]), (Value.agg #[v_d_Orders, (Value.int .i64 d_Modulus), v_d_Values])] w (fun v w' => ∃ (u0 : Value) (u2 : Value), v = (Value.agg #[u0, Value.int .i64 res.2.1, u2]) ∧ InR .i64 res.2.1 ∧ Ext w w' ∧ Sep w.heap.size w' [(Ty.sl (Ty.i .i64)).at u0 res.1, (Ty.sl (Ty.sl (Ty.sl (Ty.i .i64)))).at u2 res.2.2]) := by
  unfold p_impl_addCocycles at h
  have hS0 : St w w [] := St.start w
  refine Ret.start (fn := Try.f63) Try.func63 rfl 11 rfl rfl ?_
  refine W.seq (W.region ?_)
  refine WL.box hS0 rfl (cs := [v_c_Orders, (Value.int .i64 c_Modulus), v_c_Values]) rfl rfl ?_
  intro b1 wd2 hS3 he4 hx5
  replace hS3 : St w wd2 [bx b1 [v_c_Orders, (Value.int .i64 c_Modulus), v_c_Values]] := hS3
  have hx6 := St.boxAt hS3 0 rfl
  have hE7 : Ext w wd2 := hS3.ext
  have hS8 : St wd2 wd2 [] := St.start wd2
  refine WL.box hS8 rfl (cs := [v_d_Orders, (Value.int .i64 d_Modulus), v_d_Values]) rfl rfl ?_
  intro b9 wd10 hS11 he12 hx13
  replace hS11 : St wd2 wd10 [bx b9 [v_d_Orders, (Value.int .i64 d_Modulus), v_d_Values]] := hS11
  have hx14 := St.boxAt hS11 0 rfl
  have hE15 : Ext w wd10 := (Ext.trans hE7 hS11.ext)
  have hE16 : Ext wd2 wd10 := hS11.ext
  have hS17 : St wd10 wd10 [] := St.start wd10
  refine WL.alloc hS17 ze_30 (cs := [(Value.slice none 0 0), (Value.int .i64 (0 : Int)), (Value.slice none 0 0)]) rfl rfl ?_
  intro b18 wd19 hS20 he21
  replace hS20 : St wd10 wd19 [bx b18 [(Value.slice none 0 0), (Value.int .i64 (0 : Int)), (Value.slice none 0 0)]] := hS20
  refine WL.nil ?_
  show W _ _ _ _ _ _
  refine W.seq (W.region ?_)
  refine WL.val (Value.pointer (some ⟨b1, 0, none⟩)) _ (op_fieldAddr fd_30_0 rfl) rfl ?_
  refine WL.val v_c_Orders _ (op_load one_22 rfl (BoxAt.cell (BoxAt.lift (Ext.trans hE16 hS20.ext) hx6) rfl)) rfl ?_
  refine WL.val (Value.pointer (some ⟨b1, 1, none⟩)) _ (op_fieldAddr fd_30_1 rfl) rfl ?_
  refine WL.val (Value.int .i64 c_Modulus) _ (op_load one_2 rfl (BoxAt.cell (BoxAt.lift (Ext.trans hE16 hS20.ext) hx6) rfl)) rfl ?_
  refine WL.val (Value.func (.func 90) #[] #[(Value.pointer (some ⟨b1, 0, none⟩)), (Value.pointer (some ⟨b9, 0, none⟩))]) _ (op_makeFunc (va := #[]) (vb := #[(Value.pointer (some ⟨b1, 0, none⟩)), (Value.pointer (some ⟨b9, 0, none⟩))]) args0 (args2 rfl rfl)) rfl ?_
  obtain ⟨x26, hx27, h⟩ := bs h
  refine WL.call _ (op_call fn_81 (args3 rfl rfl rfl)) (c_impl_cocycleBy (Ty.lift _ (Ext.trans hE15 hS20.ext) r_c_Orders) r_c_Modulus (⟨90, #[], #[(Value.pointer (some ⟨b1, 0, none⟩)), (Value.pointer (some ⟨b9, 0, none⟩))], rfl, fn_90, fun wd22 a0_23 a1_23 a2_23 r24 he23 ra0_23 ra1_23 ra2_23 hq25 => c_impl_addCocycles_c1 ra0_23 ra1_23 ra2_23 (BoxAt.lift (Ext.trans (Ext.trans hE16 hS20.ext) he23) hx6) (Ty.lift _ (Ext.trans (Ext.trans hE15 hS20.ext) he23) r_c_Orders) r_c_Modulus (Ty.lift _ (Ext.trans (Ext.trans hE15 hS20.ext) he23) r_c_Values) (BoxAt.lift (Ext.trans hS20.ext he23) hx14) (Ty.lift _ (Ext.trans (Ext.trans hE15 hS20.ext) he23) r_d_Orders) r_d_Modulus (Ty.lift _ (Ext.trans (Ext.trans hE15 hS20.ext) he23) r_d_Values) hq25⟩) hx27) rfl ?_
  rintro _ wd31 ⟨u28, u30, rfl, hr29, he32, hs33⟩
  have hS34 := St.join hS20 he32 hs33
  replace hS34 : St wd10 wd31 [bx b18 [(Value.slice none 0 0), (Value.int .i64 (0 : Int)), (Value.slice none 0 0)], (Ty.sl (Ty.i .i64)).at u28 x26.1, (Ty.sl (Ty.sl (Ty.sl (Ty.i .i64)))).at u30 x26.2.2] := hS34
  refine WL.storeBox [u28, (Value.int .i64 x26.2.1), u30] hS34 (k := 0) rfl rfl rfl (us := [u28, (Value.int .i64 x26.2.1), u30]) rfl sz_30 rfl rfl (all_rep (St.rep (t := (Ty.sl (Ty.i .i64))) hS34 1 rfl) (all_cons rfl (all_rep (St.rep (t := (Ty.sl (Ty.sl (Ty.sl (Ty.i .i64))))) hS34 2 rfl) all_nil))) rfl ?_
  intro wd35 hS36
  replace hS36 : St wd10 wd35 [bx b18 [u28, (Value.int .i64 x26.2.1), u30], (Ty.sl (Ty.i .i64)).at u28 x26.1, (Ty.sl (Ty.sl (Ty.sl (Ty.i .i64)))).at u30 x26.2.2] := hS36
  refine WL.nil ?_
  show W _ _ _ _ _ _
  refine W.ret ?_
  obtain rfl := Option.some.inj h
  show FinP _ _ _ _ _ _ _
  exact FinP.ret _ (resC rfl rfl st_30 (St.boxAt hS36 0 rfl) rfl) ⟨u28, u30, rfl, hr29, (Ext.trans hE15 hS36.ext), (St.out (St.pick hS36 [1, 2] rfl) (hE15))⟩

theorem c_impl_AddCocycles {w : World} {c_Orders : (List Int)} {v_c_Orders : Value} {c_Modulus : Int} {c_Values : (List (List (List Int)))} {v_c_Values : Value} {d_Orders : (List Int)} {v_d_Orders : Value} {d_Modulus : Int} {d_Values : (List (List (List Int)))} {v_d_Values : Value} (r_c_Orders : (Ty.sl (Ty.i .i64)).rep w v_c_Orders c_Orders) (r_c_Modulus : InR .i64 c_Modulus) (r_c_Values : (Ty.sl (Ty.sl (Ty.sl (Ty.i .i64)))).rep w v_c_Values c_Values) (r_d_Orders : (Ty.sl (Ty.i .i64)).rep w v_d_Orders d_Orders) (r_d_Modulus : InR .i64 d_Modulus) (r_d_Values : (Ty.sl (Ty.sl (Ty.sl (Ty.i .i64)))).rep w v_d_Values d_Values) {res : (List Int) × Int × (List (List (List Int))) × Int} (h : p_impl_AddCocycles c_Orders c_Modulus c_Values d_Orders d_Modulus d_Values  = some res) :
    Ret Try.prog 34 #[(Value.agg #[v_c_Orders, (Value.int .i64 c_Modulus), v_c_Values]), (Value.agg #[v_d_Orders, (Value.int .i64 d_Modulus), v_d_Values])] w (fun v w' => ∃ (u0 : Value) (u2 : Value), v = (Value.tuple #[(Value.agg #[u0, Value.int .i64 res.2.1, u2]), Value.int .i64 res.2.2.2]) ∧ InR .i64 res.2.1 ∧ InR .i64 res.2.2.2 ∧ Ext w w' ∧ Sep w.heap.size w' [(Ty.sl (Ty.i .i64)).at u0 res.1, (Ty.sl (Ty.sl (Ty.sl (Ty.i .i64)))).at u2 res.2.2.1]) := by
  unfold p_impl_AddCocycles at h
  have hS0 : St w w [] := St.start w
  refine Ret.start (fn := Try.f34) Try.func34 rfl 23 rfl rfl ?_
  refine W.seq (W.region ?_)
  refine WL.box hS0 rfl (cs := [v_c_Orders, (Value.int .i64 c_Modulus), v_c_Values]) rfl rfl ?_
  intro b1 wd2 hS3 he4 hx5
  replace hS3 : St w wd2 [bx b1 [v_c_Orders, (Value.int .i64 c_Modulus), v_c_Values]] := hS3
  have hx6 := St.boxAt hS3 0 rfl
  have hE7 : Ext w wd2 := hS3.ext
  have hS8 : St wd2 wd2 [] := St.start wd2
  refine WL.box hS8 rfl (cs := [v_d_Orders, (Value.int .i64 d_Modulus), v_d_Values]) rfl rfl ?_
  intro b9 wd10 hS11 he12 hx13
  replace hS11 : St wd2 wd10 [bx b9 [v_d_Orders, (Value.int .i64 d_Modulus), v_d_Values]] := hS11
  have hx14 := St.boxAt hS11 0 rfl
  have hE15 : Ext w wd10 := (Ext.trans hE7 hS11.ext)
  have hE16 : Ext wd2 wd10 := hS11.ext
  have hS17 : St wd10 wd10 [] := St.start wd10
  refine WL.alloc hS17 ze_30 (cs := [(Value.slice none 0 0), (Value.int .i64 (0 : Int)), (Value.slice none 0 0)]) rfl rfl ?_
  intro b18 wd19 hS20 he21
  replace hS20 : St wd10 wd19 [bx b18 [(Value.slice none 0 0), (Value.int .i64 (0 : Int)), (Value.slice none 0 0)]] := hS20
  refine WL.val (Value.int .i64 (0 : Int)) _ (op_assign rfl) rfl ?_
  refine WL.nil ?_
  show W _ _ _ _ _ _
  refine W.seq (W.seq (W.region ?_))
  refine WL.val (Value.agg #[v_c_Orders, (Value.int .i64 c_Modulus), v_c_Values]) _ (op_loadBox st_30 rfl (BoxAt.lift (Ext.trans hE16 hS20.ext) hx6) rfl rfl) rfl ?_
  obtain ⟨x22, hx23, h⟩ := bs h
  refine WL.call _ (op_call fn_40 (args1 rfl)) (c_impl_IsCocycle (Ty.lift _ (Ext.trans hE15 hS20.ext) r_c_Orders) r_c_Modulus (Ty.lift _ (Ext.trans hE15 hS20.ext) r_c_Values) hx23) rfl ?_
  rintro _ wd24 ⟨rfl, he25⟩
  have hS27 := St.extend hS20 he25
  replace hS27 : St wd10 wd24 [bx b18 [(Value.slice none 0 0), (Value.int .i64 (0 : Int)), (Value.slice none 0 0)]] := hS27
  refine WL.val (Value.bool (!x22)) _ (op_not rfl) rfl ?_
  refine WL.val (Value.bool (!x22)) _ (op_move rfl) rfl ?_
  obtain ⟨x29, hj30, h⟩ := bs h
  refine WL.cut 4 (fun fq wq => fq 2 = (Value.pointer (some ⟨b1, 0, none⟩)) ∧ fq 3 = (Value.pointer (some ⟨b9, 0, none⟩)) ∧ fq 4 = (Value.pointer (some ⟨b18, 0, none⟩)) ∧ fq 13 = Value.bool x29 ∧ St wd10 wq [bx b18 [(Value.slice none 0 0), (Value.int .i64 (0 : Int)), (Value.slice none 0 0)]]) ?_ ?_
  · rcases Bool.eq_false_or_eq_true (!x22) with hc28 | hc28
    · replace hj30 := ip hj30 hc28
      refine WL.gskip rfl (bool_of rfl hc28) rfl ?_
      refine WL.gskip rfl (bool_of rfl hc28) rfl ?_
      refine WL.gskip rfl (bool_of rfl hc28) rfl ?_
      refine WL.val (Value.bool true) _ (op_pick_t (evb_of rfl hc28) rfl) rfl ?_
      refine WL.nil ?_
      obtain rfl := Option.some.inj hj30
      exact ⟨rfl, rfl, rfl, rfl, rfl, hS27⟩
    · replace hj30 := inegb hj30 hc28
      refine WL.grun rfl (bool_of rfl hc28) ?_
      refine WL.val (Value.agg #[v_d_Orders, (Value.int .i64 d_Modulus), v_d_Values]) _ (op_loadBox st_30 rfl (BoxAt.lift hS27.ext hx14) rfl rfl) rfl ?_
      refine WL.grun rfl (bool_of rfl hc28) ?_
      obtain ⟨x34, hx35, hj30⟩ := bs hj30
      refine WL.call _ (op_call fn_40 (args1 rfl)) (c_impl_IsCocycle (Ty.lift _ (Ext.trans hE15 hS27.ext) r_d_Orders) r_d_Modulus (Ty.lift _ (Ext.trans hE15 hS27.ext) r_d_Values) hx35) rfl ?_
      rintro _ wd36 ⟨rfl, he37⟩
      have hS39 := St.extend hS27 he37
      replace hS39 : St wd10 wd36 [bx b18 [(Value.slice none 0 0), (Value.int .i64 (0 : Int)), (Value.slice none 0 0)]] := hS39
      refine WL.grun rfl (bool_of rfl hc28) ?_
      refine WL.val (Value.bool (!x34)) _ (op_not rfl) rfl ?_
      refine WL.val (Value.bool (!x34)) _ (op_pick_f (evb_of rfl hc28) rfl) rfl ?_
      refine WL.nil ?_
      obtain rfl := Option.some.inj hj30
      exact ⟨rfl, rfl, rfl, rfl, rfl, hS39⟩
  · intro f31 wd32 hq33
    obtain ⟨hf40, hf41, hf42, hf43, hS44⟩ := hq33
    refine WL.nil ?_
    show W _ _ _ _ _ _
    refine W.cond x29 hf43 (fun hc45 => ?_) (fun hc45 => ?_)
    · replace h := ip h hc45
      refine W.seq (W.region ?_)
      refine WL.val (Value.agg #[(Value.slice none 0 0), (Value.int .i64 (0 : Int)), (Value.slice none 0 0)]) _ (op_build bd_30 (parts := []) (partsL trivial) trivial rfl) rfl ?_
      have hS49 := St.addNil (Ty.i .i64) hS44
      replace hS49 : St wd10 wd32 [bx b18 [(Value.slice none 0 0), (Value.int .i64 (0 : Int)), (Value.slice none 0 0)], (Ty.sl (Ty.i .i64)).at (Value.slice none 0 0) ([] : (List Int))] := hS49
      have hS50 := St.addNil (Ty.sl (Ty.sl (Ty.i .i64))) hS49
      replace hS50 : St wd10 wd32 [bx b18 [(Value.slice none 0 0), (Value.int .i64 (0 : Int)), (Value.slice none 0 0)], (Ty.sl (Ty.i .i64)).at (Value.slice none 0 0) ([] : (List Int)), (Ty.sl (Ty.sl (Ty.sl (Ty.i .i64)))).at (Value.slice none 0 0) ([] : (List (List (List Int))))] := hS50
      refine WL.storeBox [(Value.slice none 0 0), (Value.int .i64 (0 : Int)), (Value.slice none 0 0)] hS50 (k := 0) rfl hf42 rfl (us := [(Value.slice none 0 0), (Value.int .i64 (0 : Int)), (Value.slice none 0 0)]) rfl sz_30 rfl rfl (all_rep (St.rep (t := (Ty.sl (Ty.i .i64))) hS50 1 rfl) (all_cons rfl (all_rep (St.rep (t := (Ty.sl (Ty.sl (Ty.sl (Ty.i .i64))))) hS50 2 rfl) all_nil))) rfl ?_
      intro wd47 hS48
      replace hS48 : St wd10 wd47 [bx b18 [(Value.slice none 0 0), (Value.int .i64 (0 : Int)), (Value.slice none 0 0)], (Ty.sl (Ty.i .i64)).at (Value.slice none 0 0) ([] : (List Int)), (Ty.sl (Ty.sl (Ty.sl (Ty.i .i64)))).at (Value.slice none 0 0) ([] : (List (List (List Int))))] := hS48
      refine WL.val (Value.int .i64 (1 : Int)) _ (op_assign rfl) rfl ?_
      refine WL.nil ?_
      show W _ _ _ _ _ _
      refine W.ret ?_
      obtain rfl := Option.some.inj h
      show FinP _ _ _ _ _ _ _
      exact FinP.ret _ (resCT rfl hf42 st_30 (St.boxAt hS48 0 rfl) rfl rfl) ⟨(Value.slice none 0 0), (Value.slice none 0 0), rfl, (inR_i64.2 (show (-9223372036854775808 : Int) ≤ 0 ∧ (0 : Int) ≤ 9223372036854775807 from by decide)), (inR_i64.2 (show (-9223372036854775808 : Int) ≤ 1 ∧ (1 : Int) ≤ 9223372036854775807 from by decide)), (Ext.trans hE15 hS48.ext), (St.out (St.pick hS48 [1, 2] rfl) (hE15))⟩
    · replace h := inegb h hc45
      refine W.skip ?_
      show W _ _ _ _ _ _
      refine W.seq (W.seq (W.region ?_))
      refine WL.val (Value.agg #[v_c_Orders, (Value.int .i64 c_Modulus), v_c_Values]) _ (op_loadBox st_30 hf40 (BoxAt.lift (Ext.trans hE16 hS44.ext) hx6) rfl rfl) rfl ?_
      refine WL.val (Value.agg #[v_d_Orders, (Value.int .i64 d_Modulus), v_d_Values]) _ (op_loadBox st_30 hf41 (BoxAt.lift hS44.ext hx14) rfl rfl) rfl ?_
      obtain ⟨x51, hx52, h⟩ := bs h
      refine WL.call _ (op_call fn_62 (args2 rfl rfl)) (c_impl_sameKind (Ty.lift _ (Ext.trans hE15 hS44.ext) r_c_Orders) r_c_Modulus (Ty.lift _ (Ext.trans hE15 hS44.ext) r_c_Values) (Ty.lift _ (Ext.trans hE15 hS44.ext) r_d_Orders) r_d_Modulus (Ty.lift _ (Ext.trans hE15 hS44.ext) r_d_Values) hx52) rfl ?_
      rintro _ wd53 ⟨rfl, he54⟩
      have hS56 := St.extend hS44 he54
      replace hS56 : St wd10 wd53 [bx b18 [(Value.slice none 0 0), (Value.int .i64 (0 : Int)), (Value.slice none 0 0)]] := hS56
      refine WL.val (Value.bool (!x51)) _ (op_not rfl) rfl ?_
      refine WL.nil ?_
      show W _ _ _ _ _ _
      refine W.cond (!x51) rfl (fun hc57 => ?_) (fun hc57 => ?_)
      · replace h := ip h hc57
        refine W.seq (W.region ?_)
        refine WL.val (Value.agg #[(Value.slice none 0 0), (Value.int .i64 (0 : Int)), (Value.slice none 0 0)]) _ (op_build bd_30 (parts := []) (partsL trivial) trivial rfl) rfl ?_
        have hS61 := St.addNil (Ty.i .i64) hS56
        replace hS61 : St wd10 wd53 [bx b18 [(Value.slice none 0 0), (Value.int .i64 (0 : Int)), (Value.slice none 0 0)], (Ty.sl (Ty.i .i64)).at (Value.slice none 0 0) ([] : (List Int))] := hS61
        have hS62 := St.addNil (Ty.sl (Ty.sl (Ty.i .i64))) hS61
        replace hS62 : St wd10 wd53 [bx b18 [(Value.slice none 0 0), (Value.int .i64 (0 : Int)), (Value.slice none 0 0)], (Ty.sl (Ty.i .i64)).at (Value.slice none 0 0) ([] : (List Int)), (Ty.sl (Ty.sl (Ty.sl (Ty.i .i64)))).at (Value.slice none 0 0) ([] : (List (List (List Int))))] := hS62
        refine WL.storeBox [(Value.slice none 0 0), (Value.int .i64 (0 : Int)), (Value.slice none 0 0)] hS62 (k := 0) rfl hf42 rfl (us := [(Value.slice none 0 0), (Value.int .i64 (0 : Int)), (Value.slice none 0 0)]) rfl sz_30 rfl rfl (all_rep (St.rep (t := (Ty.sl (Ty.i .i64))) hS62 1 rfl) (all_cons rfl (all_rep (St.rep (t := (Ty.sl (Ty.sl (Ty.sl (Ty.i .i64))))) hS62 2 rfl) all_nil))) rfl ?_
        intro wd59 hS60
        replace hS60 : St wd10 wd59 [bx b18 [(Value.slice none 0 0), (Value.int .i64 (0 : Int)), (Value.slice none 0 0)], (Ty.sl (Ty.i .i64)).at (Value.slice none 0 0) ([] : (List Int)), (Ty.sl (Ty.sl (Ty.sl (Ty.i .i64)))).at (Value.slice none 0 0) ([] : (List (List (List Int))))] := hS60
        refine WL.val (Value.int .i64 (2 : Int)) _ (op_assign rfl) rfl ?_
        refine WL.nil ?_
        show W _ _ _ _ _ _
        refine W.ret ?_
        obtain rfl := Option.some.inj h
        show FinP _ _ _ _ _ _ _
        exact FinP.ret _ (resCT rfl hf42 st_30 (St.boxAt hS60 0 rfl) rfl rfl) ⟨(Value.slice none 0 0), (Value.slice none 0 0), rfl, (inR_i64.2 (show (-9223372036854775808 : Int) ≤ 0 ∧ (0 : Int) ≤ 9223372036854775807 from by decide)), (inR_i64.2 (show (-9223372036854775808 : Int) ≤ 2 ∧ (2 : Int) ≤ 9223372036854775807 from by decide)), (Ext.trans hE15 hS60.ext), (St.out (St.pick hS60 [1, 2] rfl) (hE15))⟩
      · replace h := inegb h hc57
        refine W.skip ?_
        show W _ _ _ _ _ _
        refine W.seq (W.region ?_)
        refine WL.val (Value.agg #[v_c_Orders, (Value.int .i64 c_Modulus), v_c_Values]) _ (op_loadBox st_30 hf40 (BoxAt.lift (Ext.trans hE16 hS56.ext) hx6) rfl rfl) rfl ?_
        refine WL.val (Value.agg #[v_d_Orders, (Value.int .i64 d_Modulus), v_d_Values]) _ (op_loadBox st_30 hf41 (BoxAt.lift hS56.ext hx14) rfl rfl) rfl ?_
        obtain ⟨x63, hx64, h⟩ := bs h
        refine WL.call _ (op_call fn_63 (args2 rfl rfl)) (c_impl_addCocycles (Ty.lift _ (Ext.trans hE15 hS56.ext) r_c_Orders) r_c_Modulus (Ty.lift _ (Ext.trans hE15 hS56.ext) r_c_Values) (Ty.lift _ (Ext.trans hE15 hS56.ext) r_d_Orders) r_d_Modulus (Ty.lift _ (Ext.trans hE15 hS56.ext) r_d_Values) hx64) rfl ?_
        rintro _ wd68 ⟨u65, u67, rfl, hr66, he69, hs70⟩
        have hS71 := St.join hS56 he69 hs70
        replace hS71 : St wd10 wd68 [bx b18 [(Value.slice none 0 0), (Value.int .i64 (0 : Int)), (Value.slice none 0 0)], (Ty.sl (Ty.i .i64)).at u65 x63.1, (Ty.sl (Ty.sl (Ty.sl (Ty.i .i64)))).at u67 x63.2.2] := hS71
        refine WL.storeBox [u65, (Value.int .i64 x63.2.1), u67] hS71 (k := 0) rfl hf42 rfl (us := [u65, (Value.int .i64 x63.2.1), u67]) rfl sz_30 rfl rfl (all_rep (St.rep (t := (Ty.sl (Ty.i .i64))) hS71 1 rfl) (all_cons rfl (all_rep (St.rep (t := (Ty.sl (Ty.sl (Ty.sl (Ty.i .i64))))) hS71 2 rfl) all_nil))) rfl ?_
        intro wd72 hS73
        replace hS73 : St wd10 wd72 [bx b18 [u65, (Value.int .i64 x63.2.1), u67], (Ty.sl (Ty.i .i64)).at u65 x63.1, (Ty.sl (Ty.sl (Ty.sl (Ty.i .i64)))).at u67 x63.2.2] := hS73
        refine WL.val (Value.int .i64 (0 : Int)) _ (op_assign rfl) rfl ?_
        refine WL.nil ?_
        show W _ _ _ _ _ _
        refine W.ret ?_
        obtain rfl := Option.some.inj h
        show FinP _ _ _ _ _ _ _
        exact FinP.ret _ (resCT rfl hf42 st_30 (St.boxAt hS73 0 rfl) rfl rfl) ⟨u65, u67, rfl, hr66, (inR_i64.2 (show (-9223372036854775808 : Int) ≤ 0 ∧ (0 : Int) ≤ 9223372036854775807 from by decide)), (Ext.trans hE15 hS73.ext), (St.out (St.pick hS73 [1, 2] rfl) (hE15))⟩

end Go.VG
