/- Facts on the program's types. No condition. -/
import Derived.Test.YtaghjfegbooceaaDoorVgCopy
import Derived.Test.YtaghjfegbooceaaDoorProg
import Derived.Test.YtaghjfegbooceaaDoorVgTab
set_option linter.all false
namespace Go.VG
open Go.Proofs
theorem ay_85 : AyT Tryd.prog 85 64 5 := ⟨by kernel_rfl, by kernel_rfl⟩
theorem bd_26 : BdT Tryd.prog 26 [(Value.slice none 0 0)] [(0, 1)] := ⟨by kernel_rfl, by kernel_rfl⟩
theorem fd_24_0 : FdT Tryd.prog 24 0 0 1 := ⟨by kernel_rfl, by decide⟩
theorem fd_26_0 : FdT Tryd.prog 26 0 0 1 := ⟨by kernel_rfl, by decide⟩
theorem fn_10 : FnOk Tryd.prog 10 := by unfold FnOk; kernel_rfl
theorem fn_11 : FnOk Tryd.prog 11 := by unfold FnOk; kernel_rfl
theorem fn_12 : FnOk Tryd.prog 12 := by unfold FnOk; kernel_rfl
theorem fn_13 : FnOk Tryd.prog 13 := by unfold FnOk; kernel_rfl
theorem fn_14 : FnOk Tryd.prog 14 := by unfold FnOk; kernel_rfl
theorem fn_15 : FnOk Tryd.prog 15 := by unfold FnOk; kernel_rfl
theorem fn_16 : FnOk Tryd.prog 16 := by unfold FnOk; kernel_rfl
theorem fn_17 : FnOk Tryd.prog 17 := by unfold FnOk; kernel_rfl
theorem fn_18 : FnOk Tryd.prog 18 := by unfold FnOk; kernel_rfl
theorem fn_19 : FnOk Tryd.prog 19 := by unfold FnOk; kernel_rfl
theorem fn_20 : FnOk Tryd.prog 20 := by unfold FnOk; kernel_rfl
theorem fn_21 : FnOk Tryd.prog 21 := by unfold FnOk; kernel_rfl
theorem fn_22 : FnOk Tryd.prog 22 := by unfold FnOk; kernel_rfl
theorem fn_23 : FnOk Tryd.prog 23 := by unfold FnOk; kernel_rfl
theorem fn_24 : FnOk Tryd.prog 24 := by unfold FnOk; kernel_rfl
theorem fn_25 : FnOk Tryd.prog 25 := by unfold FnOk; kernel_rfl
theorem fn_26 : FnOk Tryd.prog 26 := by unfold FnOk; kernel_rfl
theorem fn_27 : FnOk Tryd.prog 27 := by unfold FnOk; kernel_rfl
theorem fn_28 : FnOk Tryd.prog 28 := by unfold FnOk; kernel_rfl
theorem fn_29 : FnOk Tryd.prog 29 := by unfold FnOk; kernel_rfl
theorem fn_30 : FnOk Tryd.prog 30 := by unfold FnOk; kernel_rfl
theorem fn_31 : FnOk Tryd.prog 31 := by unfold FnOk; kernel_rfl
theorem fn_32 : FnOk Tryd.prog 32 := by unfold FnOk; kernel_rfl
theorem fn_33 : FnOk Tryd.prog 33 := by unfold FnOk; kernel_rfl
theorem fn_34 : FnOk Tryd.prog 34 := by unfold FnOk; kernel_rfl
theorem fn_35 : FnOk Tryd.prog 35 := by unfold FnOk; kernel_rfl
theorem fn_36 : FnOk Tryd.prog 36 := by unfold FnOk; kernel_rfl
theorem fn_37 : FnOk Tryd.prog 37 := by unfold FnOk; kernel_rfl
theorem fn_38 : FnOk Tryd.prog 38 := by unfold FnOk; kernel_rfl
theorem fn_39 : FnOk Tryd.prog 39 := by unfold FnOk; kernel_rfl
theorem fn_40 : FnOk Tryd.prog 40 := by unfold FnOk; kernel_rfl
theorem fn_41 : FnOk Tryd.prog 41 := by unfold FnOk; kernel_rfl
theorem fn_42 : FnOk Tryd.prog 42 := by unfold FnOk; kernel_rfl
theorem fn_43 : FnOk Tryd.prog 43 := by unfold FnOk; kernel_rfl
theorem fn_44 : FnOk Tryd.prog 44 := by unfold FnOk; kernel_rfl
theorem fn_45 : FnOk Tryd.prog 45 := by unfold FnOk; kernel_rfl
theorem fn_46 : FnOk Tryd.prog 46 := by unfold FnOk; kernel_rfl
theorem fn_47 : FnOk Tryd.prog 47 := by unfold FnOk; kernel_rfl
theorem fn_48 : FnOk Tryd.prog 48 := by unfold FnOk; kernel_rfl
theorem fn_49 : FnOk Tryd.prog 49 := by unfold FnOk; kernel_rfl
theorem fn_50 : FnOk Tryd.prog 50 := by unfold FnOk; kernel_rfl
theorem fn_51 : FnOk Tryd.prog 51 := by unfold FnOk; kernel_rfl
theorem fn_52 : FnOk Tryd.prog 52 := by unfold FnOk; kernel_rfl
theorem fn_53 : FnOk Tryd.prog 53 := by unfold FnOk; kernel_rfl
theorem fn_54 : FnOk Tryd.prog 54 := by unfold FnOk; kernel_rfl
theorem fn_55 : FnOk Tryd.prog 55 := by unfold FnOk; kernel_rfl
theorem fn_56 : FnOk Tryd.prog 56 := by unfold FnOk; kernel_rfl
theorem fn_57 : FnOk Tryd.prog 57 := by unfold FnOk; kernel_rfl
theorem fn_58 : FnOk Tryd.prog 58 := by unfold FnOk; kernel_rfl
theorem fn_59 : FnOk Tryd.prog 59 := by unfold FnOk; kernel_rfl
theorem fn_60 : FnOk Tryd.prog 60 := by unfold FnOk; kernel_rfl
theorem fn_61 : FnOk Tryd.prog 61 := by unfold FnOk; kernel_rfl
theorem fn_62 : FnOk Tryd.prog 62 := by unfold FnOk; kernel_rfl
theorem fn_63 : FnOk Tryd.prog 63 := by unfold FnOk; kernel_rfl
theorem fn_64 : FnOk Tryd.prog 64 := by unfold FnOk; kernel_rfl
theorem fn_65 : FnOk Tryd.prog 65 := by unfold FnOk; kernel_rfl
theorem fn_66 : FnOk Tryd.prog 66 := by unfold FnOk; kernel_rfl
theorem fn_67 : FnOk Tryd.prog 67 := by unfold FnOk; kernel_rfl
theorem fn_68 : FnOk Tryd.prog 68 := by unfold FnOk; kernel_rfl
theorem fn_69 : FnOk Tryd.prog 69 := by unfold FnOk; kernel_rfl
theorem fn_70 : FnOk Tryd.prog 70 := by unfold FnOk; kernel_rfl
theorem fn_71 : FnOk Tryd.prog 71 := by unfold FnOk; kernel_rfl
theorem fn_72 : FnOk Tryd.prog 72 := by unfold FnOk; kernel_rfl
theorem fn_73 : FnOk Tryd.prog 73 := by unfold FnOk; kernel_rfl
theorem fn_74 : FnOk Tryd.prog 74 := by unfold FnOk; kernel_rfl
theorem fn_75 : FnOk Tryd.prog 75 := by unfold FnOk; kernel_rfl
theorem fn_76 : FnOk Tryd.prog 76 := by unfold FnOk; kernel_rfl
theorem fn_77 : FnOk Tryd.prog 77 := by unfold FnOk; kernel_rfl
theorem fn_78 : FnOk Tryd.prog 78 := by unfold FnOk; kernel_rfl
theorem fn_79 : FnOk Tryd.prog 79 := by unfold FnOk; kernel_rfl
theorem fn_8 : FnOk Tryd.prog 8 := by unfold FnOk; kernel_rfl
theorem fn_80 : FnOk Tryd.prog 80 := by unfold FnOk; kernel_rfl
theorem fn_81 : FnOk Tryd.prog 81 := by unfold FnOk; kernel_rfl
theorem fn_82 : FnOk Tryd.prog 82 := by unfold FnOk; kernel_rfl
theorem fn_83 : FnOk Tryd.prog 83 := by unfold FnOk; kernel_rfl
theorem fn_84 : FnOk Tryd.prog 84 := by unfold FnOk; kernel_rfl
theorem fn_85 : FnOk Tryd.prog 85 := by unfold FnOk; kernel_rfl
theorem fn_86 : FnOk Tryd.prog 86 := by unfold FnOk; kernel_rfl
theorem fn_87 : FnOk Tryd.prog 87 := by unfold FnOk; kernel_rfl
theorem fn_88 : FnOk Tryd.prog 88 := by unfold FnOk; kernel_rfl
theorem fn_89 : FnOk Tryd.prog 89 := by unfold FnOk; kernel_rfl
theorem fn_9 : FnOk Tryd.prog 9 := by unfold FnOk; kernel_rfl
theorem it_2 : IntT Tryd.prog 2 .i64 := by unfold IntT; kernel_rfl
theorem it_3 : IntT Tryd.prog 3 .i64 := by unfold IntT; kernel_rfl
theorem it_5 : IntT Tryd.prog 5 .u8 := by unfold IntT; kernel_rfl
theorem it_69 : IntT Tryd.prog 69 .u64 := by unfold IntT; kernel_rfl
theorem mixo : Tryd.prog.follows .mixedOrders = true := by kernel_rfl
theorem one_2 : One Tryd.prog 2 := ⟨by kernel_rfl, by kernel_rfl⟩
theorem one_22 : One Tryd.prog 22 := ⟨by kernel_rfl, by kernel_rfl⟩
theorem one_3 : One Tryd.prog 3 := ⟨by kernel_rfl, by kernel_rfl⟩
theorem one_33 : One Tryd.prog 33 := ⟨by kernel_rfl, by kernel_rfl⟩
theorem one_41 : One Tryd.prog 41 := ⟨by kernel_rfl, by kernel_rfl⟩
theorem one_5 : One Tryd.prog 5 := ⟨by kernel_rfl, by kernel_rfl⟩
theorem one_61 : One Tryd.prog 61 := ⟨by kernel_rfl, by kernel_rfl⟩
theorem sl_22 : SlE Tryd.prog 22 41 (Value.slice none 0 0) 24 := ⟨by kernel_rfl, by kernel_rfl⟩
theorem sl_33 : SlE Tryd.prog 33 2 (Value.int .i64 0) 8 := ⟨by kernel_rfl, by kernel_rfl⟩
theorem sl_41 : SlE Tryd.prog 41 33 (Value.slice none 0 0) 24 := ⟨by kernel_rfl, by kernel_rfl⟩
theorem sl_61 : SlE Tryd.prog 61 3 (Value.int .i64 0) 8 := ⟨by kernel_rfl, by kernel_rfl⟩
theorem st_24 : StT Tryd.prog 24 1 := ⟨by kernel_rfl, by kernel_rfl⟩
theorem st_26 : StT Tryd.prog 26 1 := ⟨by kernel_rfl, by kernel_rfl⟩
theorem sz_2 : (Tryd.prog.info? 2).map (·.size) = some 1 := by kernel_rfl
theorem sz_22 : (Tryd.prog.info? 22).map (·.size) = some 1 := by kernel_rfl
theorem sz_26 : (Tryd.prog.info? 26).map (·.size) = some 1 := by kernel_rfl
theorem sz_3 : (Tryd.prog.info? 3).map (·.size) = some 1 := by kernel_rfl
theorem sz_33 : (Tryd.prog.info? 33).map (·.size) = some 1 := by kernel_rfl
theorem sz_41 : (Tryd.prog.info? 41).map (·.size) = some 1 := by kernel_rfl
theorem sz_61 : (Tryd.prog.info? 61).map (·.size) = some 1 := by kernel_rfl
theorem ze_2 : ZeT Tryd.prog 2 (Value.int .i64 (0 : Int)) := by unfold ZeT; kernel_rfl
theorem ze_26 : ZeT Tryd.prog 26 (Value.agg #[(Value.slice none 0 0)]) := by unfold ZeT; kernel_rfl
theorem ze_3 : ZeT Tryd.prog 3 (Value.int .i64 (0 : Int)) := by unfold ZeT; kernel_rfl
theorem ze_41 : ZeT Tryd.prog 41 (Value.slice none 0 0) := by unfold ZeT; kernel_rfl
theorem ze_61 : ZeT Tryd.prog 61 (Value.slice none 0 0) := by unfold ZeT; kernel_rfl
def FnT_i_to_b (P : Program) (c : Value) (w : World) (g : Int → Option Bool) : Prop := ∃ gid first cap, c = .func (.func gid) first cap ∧ FnOk P gid ∧
  ∀ w1 (a0 : Int) (r : Bool), Ext w w1 → InR .i64 a0 → g a0 = some r → Ret P gid (first ++ #[.int .i64 a0] ++ cap) w1 fun v w2 => v = .bool r ∧ Ext w1 w2
def FnT_li_to_b (P : Program) (c : Value) (w : World) (g : (List Int) → Option Bool) : Prop := ∃ gid first cap, c = .func (.func gid) first cap ∧ FnOk P gid ∧
  ∀ w1 (u0 : Value) (a0 : (List Int)) (r : Bool), Ext w w1 → (Ty.sl (Ty.i .i64)).rep w1 u0 a0 → g a0 = some r → Ret P gid (first ++ #[u0] ++ cap) w1 fun v w2 => v = .bool r ∧ Ext w1 w2
def FnT_i_i_to_b (P : Program) (c : Value) (w : World) (g : Int → Int → Option Bool) : Prop := ∃ gid first cap, c = .func (.func gid) first cap ∧ FnOk P gid ∧
  ∀ w1 (a0 : Int) (a1 : Int) (r : Bool), Ext w w1 → InR .i64 a0 → InR .i64 a1 → g a0 a1 = some r → Ret P gid (first ++ #[.int .i64 a0, .int .i64 a1] ++ cap) w1 fun v w2 => v = .bool r ∧ Ext w1 w2
theorem FnT_i_to_b.lift {P : Program} {c : Value} {w w' : World} {g : Int → Option Bool} (he : Ext w w') (h : FnT_i_to_b P c w g) : FnT_i_to_b P c w' g := by
  obtain ⟨gid, first, cap, h1, h2, h3⟩ := h
  exact ⟨gid, first, cap, h1, h2, fun w1 a0 r hx => h3 w1 a0 r (he.trans hx)⟩
theorem FnT_li_to_b.lift {P : Program} {c : Value} {w w' : World} {g : (List Int) → Option Bool} (he : Ext w w') (h : FnT_li_to_b P c w g) : FnT_li_to_b P c w' g := by
  obtain ⟨gid, first, cap, h1, h2, h3⟩ := h
  exact ⟨gid, first, cap, h1, h2, fun w1 u0 a0 r hx => h3 w1 u0 a0 r (he.trans hx)⟩
theorem FnT_i_i_to_b.lift {P : Program} {c : Value} {w w' : World} {g : Int → Int → Option Bool} (he : Ext w w') (h : FnT_i_i_to_b P c w g) : FnT_i_i_to_b P c w' g := by
  obtain ⟨gid, first, cap, h1, h2, h3⟩ := h
  exact ⟨gid, first, cap, h1, h2, fun w1 a0 a1 r hx => h3 w1 a0 a1 r (he.trans hx)⟩
end Go.VG
