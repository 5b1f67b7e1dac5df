/- Facts on the program's types. No condition. -/
import Derived.Test.YtjjjljlobfpbnaaVgRound
import Derived.Test.YtjjjljlobfpbnaaVgLate
import Derived.Test.YtjjjljlobfpbnaaVgFr
import Derived.Test.YtjjjljlobfpbnaaProg
set_option linter.all false
namespace Go.VG
open Go.Proofs
theorem bd_27 : BdT Try.prog 27 [(Value.slice none 0 0), (Value.int .i64 0), (Value.slice none 0 0)] [(0, 1), (1, 1), (2, 1)] := ⟨by kernel_rfl, by kernel_rfl⟩
theorem bd_63 : BdT Try.prog 63 [(Value.slice none 0 0), (Value.int .i64 0), (Value.int .u64 0)] [(0, 1), (1, 1), (2, 1)] := ⟨by kernel_rfl, by kernel_rfl⟩
theorem bd_76 : BdT Try.prog 76 [(Value.slice none 0 0), (Value.int .i64 0), (Value.int .u64 0)] [(0, 1), (1, 1), (2, 1)] := ⟨by kernel_rfl, by kernel_rfl⟩
theorem bt_4 : Try.prog.underlying 4 = some .bool := by kernel_rfl
theorem fd_27_0 : FdT Try.prog 27 0 0 1 := ⟨by kernel_rfl, by decide⟩
theorem fd_27_1 : FdT Try.prog 27 1 1 1 := ⟨by kernel_rfl, by decide⟩
theorem fd_27_2 : FdT Try.prog 27 2 2 1 := ⟨by kernel_rfl, by decide⟩
theorem fd_63_0 : FdT Try.prog 63 0 0 1 := ⟨by kernel_rfl, by decide⟩
theorem fd_63_1 : FdT Try.prog 63 1 1 1 := ⟨by kernel_rfl, by decide⟩
theorem fd_63_2 : FdT Try.prog 63 2 2 1 := ⟨by kernel_rfl, by decide⟩
theorem fd_76_0 : FdT Try.prog 76 0 0 1 := ⟨by kernel_rfl, by decide⟩
theorem fd_76_1 : FdT Try.prog 76 1 1 1 := ⟨by kernel_rfl, by decide⟩
theorem fd_76_2 : FdT Try.prog 76 2 2 1 := ⟨by kernel_rfl, by decide⟩
theorem fn_10 : FnOk Try.prog 10 := by unfold FnOk; kernel_rfl
theorem fn_11 : FnOk Try.prog 11 := by unfold FnOk; kernel_rfl
theorem fn_12 : FnOk Try.prog 12 := by unfold FnOk; kernel_rfl
theorem fn_13 : FnOk Try.prog 13 := by unfold FnOk; kernel_rfl
theorem fn_14 : FnOk Try.prog 14 := by unfold FnOk; kernel_rfl
theorem fn_15 : FnOk Try.prog 15 := by unfold FnOk; kernel_rfl
theorem fn_16 : FnOk Try.prog 16 := by unfold FnOk; kernel_rfl
theorem fn_17 : FnOk Try.prog 17 := by unfold FnOk; kernel_rfl
theorem fn_18 : FnOk Try.prog 18 := by unfold FnOk; kernel_rfl
theorem fn_19 : FnOk Try.prog 19 := by unfold FnOk; kernel_rfl
theorem fn_20 : FnOk Try.prog 20 := by unfold FnOk; kernel_rfl
theorem fn_21 : FnOk Try.prog 21 := by unfold FnOk; kernel_rfl
theorem fn_22 : FnOk Try.prog 22 := by unfold FnOk; kernel_rfl
theorem fn_23 : FnOk Try.prog 23 := by unfold FnOk; kernel_rfl
theorem fn_24 : FnOk Try.prog 24 := by unfold FnOk; kernel_rfl
theorem fn_25 : FnOk Try.prog 25 := by unfold FnOk; kernel_rfl
theorem fn_26 : FnOk Try.prog 26 := by unfold FnOk; kernel_rfl
theorem fn_27 : FnOk Try.prog 27 := by unfold FnOk; kernel_rfl
theorem fn_28 : FnOk Try.prog 28 := by unfold FnOk; kernel_rfl
theorem fn_29 : FnOk Try.prog 29 := by unfold FnOk; kernel_rfl
theorem fn_30 : FnOk Try.prog 30 := by unfold FnOk; kernel_rfl
theorem fn_31 : FnOk Try.prog 31 := by unfold FnOk; kernel_rfl
theorem fn_32 : FnOk Try.prog 32 := by unfold FnOk; kernel_rfl
theorem fn_33 : FnOk Try.prog 33 := by unfold FnOk; kernel_rfl
theorem fn_34 : FnOk Try.prog 34 := by unfold FnOk; kernel_rfl
theorem fn_35 : FnOk Try.prog 35 := by unfold FnOk; kernel_rfl
theorem fn_36 : FnOk Try.prog 36 := by unfold FnOk; kernel_rfl
theorem fn_37 : FnOk Try.prog 37 := by unfold FnOk; kernel_rfl
theorem fn_38 : FnOk Try.prog 38 := by unfold FnOk; kernel_rfl
theorem fn_39 : FnOk Try.prog 39 := by unfold FnOk; kernel_rfl
theorem fn_4 : FnOk Try.prog 4 := by unfold FnOk; kernel_rfl
theorem fn_40 : FnOk Try.prog 40 := by unfold FnOk; kernel_rfl
theorem fn_41 : FnOk Try.prog 41 := by unfold FnOk; kernel_rfl
theorem fn_42 : FnOk Try.prog 42 := by unfold FnOk; kernel_rfl
theorem fn_43 : FnOk Try.prog 43 := by unfold FnOk; kernel_rfl
theorem fn_44 : FnOk Try.prog 44 := by unfold FnOk; kernel_rfl
theorem fn_45 : FnOk Try.prog 45 := by unfold FnOk; kernel_rfl
theorem fn_46 : FnOk Try.prog 46 := by unfold FnOk; kernel_rfl
theorem fn_47 : FnOk Try.prog 47 := by unfold FnOk; kernel_rfl
theorem fn_48 : FnOk Try.prog 48 := by unfold FnOk; kernel_rfl
theorem fn_49 : FnOk Try.prog 49 := by unfold FnOk; kernel_rfl
theorem fn_5 : FnOk Try.prog 5 := by unfold FnOk; kernel_rfl
theorem fn_50 : FnOk Try.prog 50 := by unfold FnOk; kernel_rfl
theorem fn_51 : FnOk Try.prog 51 := by unfold FnOk; kernel_rfl
theorem fn_52 : FnOk Try.prog 52 := by unfold FnOk; kernel_rfl
theorem fn_53 : FnOk Try.prog 53 := by unfold FnOk; kernel_rfl
theorem fn_54 : FnOk Try.prog 54 := by unfold FnOk; kernel_rfl
theorem fn_55 : FnOk Try.prog 55 := by unfold FnOk; kernel_rfl
theorem fn_56 : FnOk Try.prog 56 := by unfold FnOk; kernel_rfl
theorem fn_57 : FnOk Try.prog 57 := by unfold FnOk; kernel_rfl
theorem fn_58 : FnOk Try.prog 58 := by unfold FnOk; kernel_rfl
theorem fn_59 : FnOk Try.prog 59 := by unfold FnOk; kernel_rfl
theorem fn_6 : FnOk Try.prog 6 := by unfold FnOk; kernel_rfl
theorem fn_60 : FnOk Try.prog 60 := by unfold FnOk; kernel_rfl
theorem fn_61 : FnOk Try.prog 61 := by unfold FnOk; kernel_rfl
theorem fn_62 : FnOk Try.prog 62 := by unfold FnOk; kernel_rfl
theorem fn_63 : FnOk Try.prog 63 := by unfold FnOk; kernel_rfl
theorem fn_64 : FnOk Try.prog 64 := by unfold FnOk; kernel_rfl
theorem fn_65 : FnOk Try.prog 65 := by unfold FnOk; kernel_rfl
theorem fn_66 : FnOk Try.prog 66 := by unfold FnOk; kernel_rfl
theorem fn_67 : FnOk Try.prog 67 := by unfold FnOk; kernel_rfl
theorem fn_68 : FnOk Try.prog 68 := by unfold FnOk; kernel_rfl
theorem fn_69 : FnOk Try.prog 69 := by unfold FnOk; kernel_rfl
theorem fn_7 : FnOk Try.prog 7 := by unfold FnOk; kernel_rfl
theorem fn_70 : FnOk Try.prog 70 := by unfold FnOk; kernel_rfl
theorem fn_71 : FnOk Try.prog 71 := by unfold FnOk; kernel_rfl
theorem fn_72 : FnOk Try.prog 72 := by unfold FnOk; kernel_rfl
theorem fn_73 : FnOk Try.prog 73 := by unfold FnOk; kernel_rfl
theorem fn_74 : FnOk Try.prog 74 := by unfold FnOk; kernel_rfl
theorem fn_75 : FnOk Try.prog 75 := by unfold FnOk; kernel_rfl
theorem fn_76 : FnOk Try.prog 76 := by unfold FnOk; kernel_rfl
theorem fn_77 : FnOk Try.prog 77 := by unfold FnOk; kernel_rfl
theorem fn_78 : FnOk Try.prog 78 := by unfold FnOk; kernel_rfl
theorem fn_79 : FnOk Try.prog 79 := by unfold FnOk; kernel_rfl
theorem fn_8 : FnOk Try.prog 8 := by unfold FnOk; kernel_rfl
theorem fn_80 : FnOk Try.prog 80 := by unfold FnOk; kernel_rfl
theorem fn_81 : FnOk Try.prog 81 := by unfold FnOk; kernel_rfl
theorem fn_82 : FnOk Try.prog 82 := by unfold FnOk; kernel_rfl
theorem fn_83 : FnOk Try.prog 83 := by unfold FnOk; kernel_rfl
theorem fn_84 : FnOk Try.prog 84 := by unfold FnOk; kernel_rfl
theorem fn_86 : FnOk Try.prog 86 := by unfold FnOk; kernel_rfl
theorem fn_9 : FnOk Try.prog 9 := by unfold FnOk; kernel_rfl
theorem it_2 : IntT Try.prog 2 .i64 := by unfold IntT; kernel_rfl
theorem it_3 : IntT Try.prog 3 .i64 := by unfold IntT; kernel_rfl
theorem it_40 : IntT Try.prog 40 .u64 := by unfold IntT; kernel_rfl
theorem it_5 : IntT Try.prog 5 .u8 := by unfold IntT; kernel_rfl
theorem mixo : Try.prog.follows .mixedOrders = true := by kernel_rfl
theorem one_2 : One Try.prog 2 := ⟨by kernel_rfl, by kernel_rfl⟩
theorem one_22 : One Try.prog 22 := ⟨by kernel_rfl, by kernel_rfl⟩
theorem one_24 : One Try.prog 24 := ⟨by kernel_rfl, by kernel_rfl⟩
theorem one_25 : One Try.prog 25 := ⟨by kernel_rfl, by kernel_rfl⟩
theorem one_3 : One Try.prog 3 := ⟨by kernel_rfl, by kernel_rfl⟩
theorem one_40 : One Try.prog 40 := ⟨by kernel_rfl, by kernel_rfl⟩
theorem one_5 : One Try.prog 5 := ⟨by kernel_rfl, by kernel_rfl⟩
theorem one_54 : One Try.prog 54 := ⟨by kernel_rfl, by kernel_rfl⟩
theorem sl_22 : SlE Try.prog 22 5 (Value.int .u8 0) 1 := ⟨by kernel_rfl, by kernel_rfl⟩
theorem sl_24 : SlE Try.prog 24 2 (Value.int .i64 0) 8 := ⟨by kernel_rfl, by kernel_rfl⟩
theorem sl_25 : SlE Try.prog 25 54 (Value.slice none 0 0) 24 := ⟨by kernel_rfl, by kernel_rfl⟩
theorem sl_54 : SlE Try.prog 54 24 (Value.slice none 0 0) 24 := ⟨by kernel_rfl, by kernel_rfl⟩
theorem st_27 : StT Try.prog 27 3 := ⟨by kernel_rfl, by kernel_rfl⟩
theorem sz_2 : (Try.prog.info? 2).map (·.size) = some 1 := by kernel_rfl
theorem sz_24 : (Try.prog.info? 24).map (·.size) = some 1 := by kernel_rfl
theorem sz_25 : (Try.prog.info? 25).map (·.size) = some 1 := by kernel_rfl
theorem sz_27 : (Try.prog.info? 27).map (·.size) = some 3 := by kernel_rfl
theorem sz_3 : (Try.prog.info? 3).map (·.size) = some 1 := by kernel_rfl
theorem sz_40 : (Try.prog.info? 40).map (·.size) = some 1 := by kernel_rfl
theorem ze_2 : ZeT Try.prog 2 (Value.int .i64 (0 : Int)) := by unfold ZeT; kernel_rfl
theorem ze_27 : ZeT Try.prog 27 (Value.agg #[(Value.slice none 0 0), (Value.int .i64 (0 : Int)), (Value.slice none 0 0)]) := by unfold ZeT; kernel_rfl
theorem ze_3 : ZeT Try.prog 3 (Value.int .i64 (0 : Int)) := by unfold ZeT; kernel_rfl
def FnT_i_to_b (P : Program) (c : Value) (w : World) (g : Int → Option Bool) : Prop := ∃ gid first cap, c = .func (.func gid) first cap ∧ FnOk P gid ∧
  ∀ w1 (a0 : Int) (r : Bool), Ext w w1 → InR .i64 a0 → g a0 = some r → Ret P gid (first ++ #[.int .i64 a0] ++ cap) w1 fun v w2 => v = .bool r ∧ Ext w1 w2
def FnT_li_to_b (P : Program) (c : Value) (w : World) (g : (List Int) → Option Bool) : Prop := ∃ gid first cap, c = .func (.func gid) first cap ∧ FnOk P gid ∧
  ∀ w1 (u0 : Value) (a0 : (List Int)) (r : Bool), Ext w w1 → (Ty.sl (Ty.i .i64)).rep w1 u0 a0 → g a0 = some r → Ret P gid (first ++ #[u0] ++ cap) w1 fun v w2 => v = .bool r ∧ Ext w1 w2
def FnT_lli_to_b (P : Program) (c : Value) (w : World) (g : (List (List Int)) → Option Bool) : Prop := ∃ gid first cap, c = .func (.func gid) first cap ∧ FnOk P gid ∧
  ∀ w1 (u0 : Value) (a0 : (List (List Int))) (r : Bool), Ext w w1 → (Ty.sl (Ty.sl (Ty.i .i64))).rep w1 u0 a0 → g a0 = some r → Ret P gid (first ++ #[u0] ++ cap) w1 fun v w2 => v = .bool r ∧ Ext w1 w2
def FnT_i_i_to_b (P : Program) (c : Value) (w : World) (g : Int → Int → Option Bool) : Prop := ∃ gid first cap, c = .func (.func gid) first cap ∧ FnOk P gid ∧
  ∀ w1 (a0 : Int) (a1 : Int) (r : Bool), Ext w w1 → InR .i64 a0 → InR .i64 a1 → g a0 a1 = some r → Ret P gid (first ++ #[.int .i64 a0, .int .i64 a1] ++ cap) w1 fun v w2 => v = .bool r ∧ Ext w1 w2
def FnT_i_i_i_to_i (P : Program) (c : Value) (w : World) (g : Int → Int → Int → Option Int) : Prop := ∃ gid first cap, c = .func (.func gid) first cap ∧ FnOk P gid ∧
  ∀ w1 (a0 : Int) (a1 : Int) (a2 : Int) (r : Int), Ext w w1 → InR .i64 a0 → InR .i64 a1 → InR .i64 a2 → g a0 a1 a2 = some r → Ret P gid (first ++ #[.int .i64 a0, .int .i64 a1, .int .i64 a2] ++ cap) w1 fun v w2 => v = .int .i64 r ∧ InR .i64 r ∧ Ext w1 w2
theorem FnT_i_to_b.lift {P : Program} {c : Value} {w w' : World} {g : Int → Option Bool} (he : Ext w w') (h : FnT_i_to_b P c w g) : FnT_i_to_b P c w' g := by
  obtain ⟨gid, first, cap, h1, h2, h3⟩ := h
  exact ⟨gid, first, cap, h1, h2, fun w1 a0 r hx => h3 w1 a0 r (he.trans hx)⟩
theorem FnT_li_to_b.lift {P : Program} {c : Value} {w w' : World} {g : (List Int) → Option Bool} (he : Ext w w') (h : FnT_li_to_b P c w g) : FnT_li_to_b P c w' g := by
  obtain ⟨gid, first, cap, h1, h2, h3⟩ := h
  exact ⟨gid, first, cap, h1, h2, fun w1 u0 a0 r hx => h3 w1 u0 a0 r (he.trans hx)⟩
theorem FnT_lli_to_b.lift {P : Program} {c : Value} {w w' : World} {g : (List (List Int)) → Option Bool} (he : Ext w w') (h : FnT_lli_to_b P c w g) : FnT_lli_to_b P c w' g := by
  obtain ⟨gid, first, cap, h1, h2, h3⟩ := h
  exact ⟨gid, first, cap, h1, h2, fun w1 u0 a0 r hx => h3 w1 u0 a0 r (he.trans hx)⟩
theorem FnT_i_i_to_b.lift {P : Program} {c : Value} {w w' : World} {g : Int → Int → Option Bool} (he : Ext w w') (h : FnT_i_i_to_b P c w g) : FnT_i_i_to_b P c w' g := by
  obtain ⟨gid, first, cap, h1, h2, h3⟩ := h
  exact ⟨gid, first, cap, h1, h2, fun w1 a0 a1 r hx => h3 w1 a0 a1 r (he.trans hx)⟩
theorem FnT_i_i_i_to_i.lift {P : Program} {c : Value} {w w' : World} {g : Int → Int → Int → Option Int} (he : Ext w w') (h : FnT_i_i_i_to_i P c w g) : FnT_i_i_i_to_i P c w' g := by
  obtain ⟨gid, first, cap, h1, h2, h3⟩ := h
  exact ⟨gid, first, cap, h1, h2, fun w1 a0 a1 a2 r hx => h3 w1 a0 a1 a2 r (he.trans hx)⟩
end Go.VG
