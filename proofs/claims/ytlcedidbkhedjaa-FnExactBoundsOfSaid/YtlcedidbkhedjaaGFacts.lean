/- Facts on the program's types. No condition. -/
import Derived.Test.YtlcedidbkhedjaaVgCopy
import Derived.Test.YtlcedidbkhedjaaProg
set_option linter.all false
namespace Go.VG
open Go.Proofs
theorem bd_26 : BdT Try.prog 26 [(Value.slice none 0 0)] [(0, 1)] := ⟨by kernel_rfl, by kernel_rfl⟩
theorem bd_42 : BdT Try.prog 42 [(Value.int .i64 0), (Value.int .i64 0), (Value.int .i64 0), (Value.int .i64 0)] [(0, 1), (1, 1), (2, 1), (3, 1)] := ⟨by kernel_rfl, by kernel_rfl⟩
theorem fd_24_0 : FdT Try.prog 24 0 0 1 := ⟨by kernel_rfl, by decide⟩
theorem fd_26_0 : FdT Try.prog 26 0 0 1 := ⟨by kernel_rfl, by decide⟩
theorem fd_42_0 : FdT Try.prog 42 0 0 1 := ⟨by kernel_rfl, by decide⟩
theorem fd_42_1 : FdT Try.prog 42 1 1 1 := ⟨by kernel_rfl, by decide⟩
theorem fd_42_2 : FdT Try.prog 42 2 2 1 := ⟨by kernel_rfl, by decide⟩
theorem fd_42_3 : FdT Try.prog 42 3 3 1 := ⟨by kernel_rfl, by decide⟩
theorem fn_10 : FnOk Try.prog 10 := by unfold FnOk; kernel_rfl
theorem fn_100 : FnOk Try.prog 100 := by unfold FnOk; kernel_rfl
theorem fn_101 : FnOk Try.prog 101 := by unfold FnOk; kernel_rfl
theorem fn_102 : FnOk Try.prog 102 := by unfold FnOk; kernel_rfl
theorem fn_103 : FnOk Try.prog 103 := by unfold FnOk; kernel_rfl
theorem fn_11 : FnOk Try.prog 11 := by unfold FnOk; kernel_rfl
theorem fn_12 : FnOk Try.prog 12 := by unfold FnOk; kernel_rfl
theorem fn_13 : FnOk Try.prog 13 := by unfold FnOk; kernel_rfl
theorem fn_14 : FnOk Try.prog 14 := by unfold FnOk; kernel_rfl
theorem fn_15 : FnOk Try.prog 15 := by unfold FnOk; kernel_rfl
theorem fn_16 : FnOk Try.prog 16 := by unfold FnOk; kernel_rfl
theorem fn_17 : FnOk Try.prog 17 := by unfold FnOk; kernel_rfl
theorem fn_18 : FnOk Try.prog 18 := by unfold FnOk; kernel_rfl
theorem fn_19 : FnOk Try.prog 19 := by unfold FnOk; kernel_rfl
theorem fn_20 : FnOk Try.prog 20 := by unfold FnOk; kernel_rfl
theorem fn_21 : FnOk Try.prog 21 := by unfold FnOk; kernel_rfl
theorem fn_22 : FnOk Try.prog 22 := by unfold FnOk; kernel_rfl
theorem fn_23 : FnOk Try.prog 23 := by unfold FnOk; kernel_rfl
theorem fn_24 : FnOk Try.prog 24 := by unfold FnOk; kernel_rfl
theorem fn_25 : FnOk Try.prog 25 := by unfold FnOk; kernel_rfl
theorem fn_26 : FnOk Try.prog 26 := by unfold FnOk; kernel_rfl
theorem fn_32 : FnOk Try.prog 32 := by unfold FnOk; kernel_rfl
theorem fn_34 : FnOk Try.prog 34 := by unfold FnOk; kernel_rfl
theorem fn_35 : FnOk Try.prog 35 := by unfold FnOk; kernel_rfl
theorem fn_36 : FnOk Try.prog 36 := by unfold FnOk; kernel_rfl
theorem fn_37 : FnOk Try.prog 37 := by unfold FnOk; kernel_rfl
theorem fn_38 : FnOk Try.prog 38 := by unfold FnOk; kernel_rfl
theorem fn_39 : FnOk Try.prog 39 := by unfold FnOk; kernel_rfl
theorem fn_40 : FnOk Try.prog 40 := by unfold FnOk; kernel_rfl
theorem fn_41 : FnOk Try.prog 41 := by unfold FnOk; kernel_rfl
theorem fn_42 : FnOk Try.prog 42 := by unfold FnOk; kernel_rfl
theorem fn_43 : FnOk Try.prog 43 := by unfold FnOk; kernel_rfl
theorem fn_44 : FnOk Try.prog 44 := by unfold FnOk; kernel_rfl
theorem fn_45 : FnOk Try.prog 45 := by unfold FnOk; kernel_rfl
theorem fn_46 : FnOk Try.prog 46 := by unfold FnOk; kernel_rfl
theorem fn_47 : FnOk Try.prog 47 := by unfold FnOk; kernel_rfl
theorem fn_48 : FnOk Try.prog 48 := by unfold FnOk; kernel_rfl
theorem fn_49 : FnOk Try.prog 49 := by unfold FnOk; kernel_rfl
theorem fn_50 : FnOk Try.prog 50 := by unfold FnOk; kernel_rfl
theorem fn_51 : FnOk Try.prog 51 := by unfold FnOk; kernel_rfl
theorem fn_52 : FnOk Try.prog 52 := by unfold FnOk; kernel_rfl
theorem fn_53 : FnOk Try.prog 53 := by unfold FnOk; kernel_rfl
theorem fn_54 : FnOk Try.prog 54 := by unfold FnOk; kernel_rfl
theorem fn_55 : FnOk Try.prog 55 := by unfold FnOk; kernel_rfl
theorem fn_57 : FnOk Try.prog 57 := by unfold FnOk; kernel_rfl
theorem fn_60 : FnOk Try.prog 60 := by unfold FnOk; kernel_rfl
theorem fn_62 : FnOk Try.prog 62 := by unfold FnOk; kernel_rfl
theorem fn_63 : FnOk Try.prog 63 := by unfold FnOk; kernel_rfl
theorem fn_64 : FnOk Try.prog 64 := by unfold FnOk; kernel_rfl
theorem fn_65 : FnOk Try.prog 65 := by unfold FnOk; kernel_rfl
theorem fn_66 : FnOk Try.prog 66 := by unfold FnOk; kernel_rfl
theorem fn_67 : FnOk Try.prog 67 := by unfold FnOk; kernel_rfl
theorem fn_68 : FnOk Try.prog 68 := by unfold FnOk; kernel_rfl
theorem fn_69 : FnOk Try.prog 69 := by unfold FnOk; kernel_rfl
theorem fn_70 : FnOk Try.prog 70 := by unfold FnOk; kernel_rfl
theorem fn_71 : FnOk Try.prog 71 := by unfold FnOk; kernel_rfl
theorem fn_72 : FnOk Try.prog 72 := by unfold FnOk; kernel_rfl
theorem fn_73 : FnOk Try.prog 73 := by unfold FnOk; kernel_rfl
theorem fn_74 : FnOk Try.prog 74 := by unfold FnOk; kernel_rfl
theorem fn_75 : FnOk Try.prog 75 := by unfold FnOk; kernel_rfl
theorem fn_76 : FnOk Try.prog 76 := by unfold FnOk; kernel_rfl
theorem fn_77 : FnOk Try.prog 77 := by unfold FnOk; kernel_rfl
theorem fn_78 : FnOk Try.prog 78 := by unfold FnOk; kernel_rfl
theorem fn_79 : FnOk Try.prog 79 := by unfold FnOk; kernel_rfl
theorem fn_80 : FnOk Try.prog 80 := by unfold FnOk; kernel_rfl
theorem fn_83 : FnOk Try.prog 83 := by unfold FnOk; kernel_rfl
theorem fn_84 : FnOk Try.prog 84 := by unfold FnOk; kernel_rfl
theorem fn_85 : FnOk Try.prog 85 := by unfold FnOk; kernel_rfl
theorem fn_86 : FnOk Try.prog 86 := by unfold FnOk; kernel_rfl
theorem fn_87 : FnOk Try.prog 87 := by unfold FnOk; kernel_rfl
theorem fn_88 : FnOk Try.prog 88 := by unfold FnOk; kernel_rfl
theorem fn_89 : FnOk Try.prog 89 := by unfold FnOk; kernel_rfl
theorem fn_90 : FnOk Try.prog 90 := by unfold FnOk; kernel_rfl
theorem fn_91 : FnOk Try.prog 91 := by unfold FnOk; kernel_rfl
theorem fn_92 : FnOk Try.prog 92 := by unfold FnOk; kernel_rfl
theorem fn_93 : FnOk Try.prog 93 := by unfold FnOk; kernel_rfl
theorem fn_94 : FnOk Try.prog 94 := by unfold FnOk; kernel_rfl
theorem fn_97 : FnOk Try.prog 97 := by unfold FnOk; kernel_rfl
theorem fn_98 : FnOk Try.prog 98 := by unfold FnOk; kernel_rfl
theorem fn_99 : FnOk Try.prog 99 := by unfold FnOk; kernel_rfl
theorem it_105 : IntT Try.prog 105 .u32 := by unfold IntT; kernel_rfl
theorem it_108 : IntT Try.prog 108 .u64 := by unfold IntT; kernel_rfl
theorem it_3 : IntT Try.prog 3 .i64 := by unfold IntT; kernel_rfl
theorem it_93 : IntT Try.prog 93 .u64 := by unfold IntT; kernel_rfl
theorem mixo : Try.prog.follows .mixedOrders = true := by kernel_rfl
theorem one_2 : One Try.prog 2 := ⟨by kernel_rfl, by kernel_rfl⟩
theorem one_22 : One Try.prog 22 := ⟨by kernel_rfl, by kernel_rfl⟩
theorem one_3 : One Try.prog 3 := ⟨by kernel_rfl, by kernel_rfl⟩
theorem one_35 : One Try.prog 35 := ⟨by kernel_rfl, by kernel_rfl⟩
theorem one_57 : One Try.prog 57 := ⟨by kernel_rfl, by kernel_rfl⟩
theorem sl_102 : SlE Try.prog 102 3 (Value.int .i64 0) 8 := ⟨by kernel_rfl, by kernel_rfl⟩
theorem sl_22 : SlE Try.prog 22 57 (Value.slice none 0 0) 24 := ⟨by kernel_rfl, by kernel_rfl⟩
theorem sl_35 : SlE Try.prog 35 2 (Value.int .i64 0) 8 := ⟨by kernel_rfl, by kernel_rfl⟩
theorem sl_57 : SlE Try.prog 57 35 (Value.slice none 0 0) 24 := ⟨by kernel_rfl, by kernel_rfl⟩
theorem st_24 : StT Try.prog 24 1 := ⟨by kernel_rfl, by kernel_rfl⟩
theorem st_26 : StT Try.prog 26 1 := ⟨by kernel_rfl, by kernel_rfl⟩
theorem st_42 : StT Try.prog 42 4 := ⟨by kernel_rfl, by kernel_rfl⟩
theorem sz_2 : (Try.prog.info? 2).map (·.size) = some 1 := by kernel_rfl
theorem sz_22 : (Try.prog.info? 22).map (·.size) = some 1 := by kernel_rfl
theorem sz_26 : (Try.prog.info? 26).map (·.size) = some 1 := by kernel_rfl
theorem sz_3 : (Try.prog.info? 3).map (·.size) = some 1 := by kernel_rfl
theorem sz_35 : (Try.prog.info? 35).map (·.size) = some 1 := by kernel_rfl
theorem sz_42 : (Try.prog.info? 42).map (·.size) = some 4 := by kernel_rfl
theorem sz_57 : (Try.prog.info? 57).map (·.size) = some 1 := by kernel_rfl
theorem ze_26 : ZeT Try.prog 26 (Value.agg #[(Value.slice none 0 0)]) := by unfold ZeT; kernel_rfl
theorem ze_3 : ZeT Try.prog 3 (Value.int .i64 (0 : Int)) := by unfold ZeT; kernel_rfl
theorem ze_42 : ZeT Try.prog 42 (Value.agg #[(Value.int .i64 (0 : Int)), (Value.int .i64 (0 : Int)), (Value.int .i64 (0 : Int)), (Value.int .i64 (0 : Int))]) := by unfold ZeT; kernel_rfl
def FnT_i_to_b (P : Program) (c : Value) (w : World) (g : Int → Option Bool) : Prop := ∃ gid first cap, c = .func (.func gid) first cap ∧ FnOk P gid ∧
  ∀ w1 (a0 : Int) (r : Bool), Ext w w1 → InR .i64 a0 → g a0 = some r → Ret P gid (first ++ #[.int .i64 a0] ++ cap) w1 fun v w2 => v = .bool r ∧ Ext w1 w2
def FnT_li_to_b (P : Program) (c : Value) (w : World) (g : (List Int) → Option Bool) : Prop := ∃ gid first cap, c = .func (.func gid) first cap ∧ FnOk P gid ∧
  ∀ w1 (u0 : Value) (a0 : (List Int)) (r : Bool), Ext w w1 → (Ty.sl (Ty.i .i64)).rep w1 u0 a0 → g a0 = some r → Ret P gid (first ++ #[u0] ++ cap) w1 fun v w2 => v = .bool r ∧ Ext w1 w2
theorem FnT_i_to_b.lift {P : Program} {c : Value} {w w' : World} {g : Int → Option Bool} (he : Ext w w') (h : FnT_i_to_b P c w g) : FnT_i_to_b P c w' g := by
  obtain ⟨gid, first, cap, h1, h2, h3⟩ := h
  exact ⟨gid, first, cap, h1, h2, fun w1 a0 r hx => h3 w1 a0 r (he.trans hx)⟩
theorem FnT_li_to_b.lift {P : Program} {c : Value} {w w' : World} {g : (List Int) → Option Bool} (he : Ext w w') (h : FnT_li_to_b P c w g) : FnT_li_to_b P c w' g := by
  obtain ⟨gid, first, cap, h1, h2, h3⟩ := h
  exact ⟨gid, first, cap, h1, h2, fun w1 u0 a0 r hx => h3 w1 u0 a0 r (he.trans hx)⟩
end Go.VG
