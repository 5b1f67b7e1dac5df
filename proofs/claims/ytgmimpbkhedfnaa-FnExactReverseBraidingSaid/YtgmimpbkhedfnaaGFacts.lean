/- Facts on the program's types. No condition. -/
import Derived.Test.YtgmimpbkhedfnaaVgRound
import Derived.Test.YtgmimpbkhedfnaaProg
set_option linter.all false
namespace Go.VG
open Go.Proofs
theorem bd_31 : BdT Try.prog 31 [(Value.slice none 0 0), (Value.int .i64 0), (Value.slice none 0 0)] [(0, 1), (1, 1), (2, 1)] := ⟨by kernel_rfl, by kernel_rfl⟩
theorem bd_34 : BdT Try.prog 34 [(Value.slice none 0 0), (Value.int .i64 0), (Value.slice none 0 0)] [(0, 1), (1, 1), (2, 1)] := ⟨by kernel_rfl, by kernel_rfl⟩
theorem bd_36 : BdT Try.prog 36 [(Value.slice none 0 0), (Value.int .i64 0), (Value.slice none 0 0), (Value.slice none 0 0)] [(0, 3), (3, 1)] := ⟨by kernel_rfl, by kernel_rfl⟩
theorem fd_25_0 : FdT Try.prog 25 0 0 1 := ⟨by kernel_rfl, by decide⟩
theorem fd_25_1 : FdT Try.prog 25 1 1 1 := ⟨by kernel_rfl, by decide⟩
theorem fd_25_2 : FdT Try.prog 25 2 2 1 := ⟨by kernel_rfl, by decide⟩
theorem fd_28_0 : FdT Try.prog 28 0 0 3 := ⟨by kernel_rfl, by decide⟩
theorem fd_28_1 : FdT Try.prog 28 1 3 1 := ⟨by kernel_rfl, by decide⟩
theorem fd_31_0 : FdT Try.prog 31 0 0 1 := ⟨by kernel_rfl, by decide⟩
theorem fd_31_1 : FdT Try.prog 31 1 1 1 := ⟨by kernel_rfl, by decide⟩
theorem fd_31_2 : FdT Try.prog 31 2 2 1 := ⟨by kernel_rfl, by decide⟩
theorem fd_34_0 : FdT Try.prog 34 0 0 1 := ⟨by kernel_rfl, by decide⟩
theorem fd_34_1 : FdT Try.prog 34 1 1 1 := ⟨by kernel_rfl, by decide⟩
theorem fd_34_2 : FdT Try.prog 34 2 2 1 := ⟨by kernel_rfl, by decide⟩
theorem fd_36_0 : FdT Try.prog 36 0 0 3 := ⟨by kernel_rfl, by decide⟩
theorem fd_36_1 : FdT Try.prog 36 1 3 1 := ⟨by kernel_rfl, by decide⟩
theorem fn_10 : FnOk Try.prog 10 := by unfold FnOk; kernel_rfl
theorem fn_100 : FnOk Try.prog 100 := by unfold FnOk; kernel_rfl
theorem fn_101 : FnOk Try.prog 101 := by unfold FnOk; kernel_rfl
theorem fn_102 : FnOk Try.prog 102 := by unfold FnOk; kernel_rfl
theorem fn_103 : FnOk Try.prog 103 := by unfold FnOk; kernel_rfl
theorem fn_104 : FnOk Try.prog 104 := by unfold FnOk; kernel_rfl
theorem fn_105 : FnOk Try.prog 105 := by unfold FnOk; kernel_rfl
theorem fn_106 : FnOk Try.prog 106 := by unfold FnOk; kernel_rfl
theorem fn_107 : FnOk Try.prog 107 := by unfold FnOk; kernel_rfl
theorem fn_108 : FnOk Try.prog 108 := by unfold FnOk; kernel_rfl
theorem fn_109 : FnOk Try.prog 109 := by unfold FnOk; kernel_rfl
theorem fn_11 : FnOk Try.prog 11 := by unfold FnOk; kernel_rfl
theorem fn_110 : FnOk Try.prog 110 := by unfold FnOk; kernel_rfl
theorem fn_111 : FnOk Try.prog 111 := by unfold FnOk; kernel_rfl
theorem fn_112 : FnOk Try.prog 112 := by unfold FnOk; kernel_rfl
theorem fn_113 : FnOk Try.prog 113 := by unfold FnOk; kernel_rfl
theorem fn_116 : FnOk Try.prog 116 := by unfold FnOk; kernel_rfl
theorem fn_117 : FnOk Try.prog 117 := by unfold FnOk; kernel_rfl
theorem fn_118 : FnOk Try.prog 118 := by unfold FnOk; kernel_rfl
theorem fn_119 : FnOk Try.prog 119 := by unfold FnOk; kernel_rfl
theorem fn_12 : FnOk Try.prog 12 := by unfold FnOk; kernel_rfl
theorem fn_120 : FnOk Try.prog 120 := by unfold FnOk; kernel_rfl
theorem fn_121 : FnOk Try.prog 121 := by unfold FnOk; kernel_rfl
theorem fn_122 : FnOk Try.prog 122 := by unfold FnOk; kernel_rfl
theorem fn_123 : FnOk Try.prog 123 := by unfold FnOk; kernel_rfl
theorem fn_124 : FnOk Try.prog 124 := by unfold FnOk; kernel_rfl
theorem fn_125 : FnOk Try.prog 125 := by unfold FnOk; kernel_rfl
theorem fn_126 : FnOk Try.prog 126 := by unfold FnOk; kernel_rfl
theorem fn_127 : FnOk Try.prog 127 := by unfold FnOk; kernel_rfl
theorem fn_128 : FnOk Try.prog 128 := by unfold FnOk; kernel_rfl
theorem fn_129 : FnOk Try.prog 129 := by unfold FnOk; kernel_rfl
theorem fn_13 : FnOk Try.prog 13 := by unfold FnOk; kernel_rfl
theorem fn_130 : FnOk Try.prog 130 := by unfold FnOk; kernel_rfl
theorem fn_131 : FnOk Try.prog 131 := by unfold FnOk; kernel_rfl
theorem fn_132 : FnOk Try.prog 132 := by unfold FnOk; kernel_rfl
theorem fn_133 : FnOk Try.prog 133 := by unfold FnOk; kernel_rfl
theorem fn_135 : FnOk Try.prog 135 := by unfold FnOk; kernel_rfl
theorem fn_136 : FnOk Try.prog 136 := by unfold FnOk; kernel_rfl
theorem fn_137 : FnOk Try.prog 137 := by unfold FnOk; kernel_rfl
theorem fn_138 : FnOk Try.prog 138 := by unfold FnOk; kernel_rfl
theorem fn_139 : FnOk Try.prog 139 := by unfold FnOk; kernel_rfl
theorem fn_14 : FnOk Try.prog 14 := by unfold FnOk; kernel_rfl
theorem fn_140 : FnOk Try.prog 140 := by unfold FnOk; kernel_rfl
theorem fn_141 : FnOk Try.prog 141 := by unfold FnOk; kernel_rfl
theorem fn_142 : FnOk Try.prog 142 := by unfold FnOk; kernel_rfl
theorem fn_15 : FnOk Try.prog 15 := by unfold FnOk; kernel_rfl
theorem fn_16 : FnOk Try.prog 16 := by unfold FnOk; kernel_rfl
theorem fn_17 : FnOk Try.prog 17 := by unfold FnOk; kernel_rfl
theorem fn_22 : FnOk Try.prog 22 := by unfold FnOk; kernel_rfl
theorem fn_23 : FnOk Try.prog 23 := by unfold FnOk; kernel_rfl
theorem fn_40 : FnOk Try.prog 40 := by unfold FnOk; kernel_rfl
theorem fn_41 : FnOk Try.prog 41 := by unfold FnOk; kernel_rfl
theorem fn_42 : FnOk Try.prog 42 := by unfold FnOk; kernel_rfl
theorem fn_43 : FnOk Try.prog 43 := by unfold FnOk; kernel_rfl
theorem fn_44 : FnOk Try.prog 44 := by unfold FnOk; kernel_rfl
theorem fn_45 : FnOk Try.prog 45 := by unfold FnOk; kernel_rfl
theorem fn_46 : FnOk Try.prog 46 := by unfold FnOk; kernel_rfl
theorem fn_47 : FnOk Try.prog 47 := by unfold FnOk; kernel_rfl
theorem fn_48 : FnOk Try.prog 48 := by unfold FnOk; kernel_rfl
theorem fn_49 : FnOk Try.prog 49 := by unfold FnOk; kernel_rfl
theorem fn_50 : FnOk Try.prog 50 := by unfold FnOk; kernel_rfl
theorem fn_51 : FnOk Try.prog 51 := by unfold FnOk; kernel_rfl
theorem fn_52 : FnOk Try.prog 52 := by unfold FnOk; kernel_rfl
theorem fn_53 : FnOk Try.prog 53 := by unfold FnOk; kernel_rfl
theorem fn_54 : FnOk Try.prog 54 := by unfold FnOk; kernel_rfl
theorem fn_55 : FnOk Try.prog 55 := by unfold FnOk; kernel_rfl
theorem fn_56 : FnOk Try.prog 56 := by unfold FnOk; kernel_rfl
theorem fn_57 : FnOk Try.prog 57 := by unfold FnOk; kernel_rfl
theorem fn_58 : FnOk Try.prog 58 := by unfold FnOk; kernel_rfl
theorem fn_59 : FnOk Try.prog 59 := by unfold FnOk; kernel_rfl
theorem fn_6 : FnOk Try.prog 6 := by unfold FnOk; kernel_rfl
theorem fn_60 : FnOk Try.prog 60 := by unfold FnOk; kernel_rfl
theorem fn_61 : FnOk Try.prog 61 := by unfold FnOk; kernel_rfl
theorem fn_62 : FnOk Try.prog 62 := by unfold FnOk; kernel_rfl
theorem fn_63 : FnOk Try.prog 63 := by unfold FnOk; kernel_rfl
theorem fn_64 : FnOk Try.prog 64 := by unfold FnOk; kernel_rfl
theorem fn_65 : FnOk Try.prog 65 := by unfold FnOk; kernel_rfl
theorem fn_68 : FnOk Try.prog 68 := by unfold FnOk; kernel_rfl
theorem fn_7 : FnOk Try.prog 7 := by unfold FnOk; kernel_rfl
theorem fn_70 : FnOk Try.prog 70 := by unfold FnOk; kernel_rfl
theorem fn_71 : FnOk Try.prog 71 := by unfold FnOk; kernel_rfl
theorem fn_72 : FnOk Try.prog 72 := by unfold FnOk; kernel_rfl
theorem fn_73 : FnOk Try.prog 73 := by unfold FnOk; kernel_rfl
theorem fn_74 : FnOk Try.prog 74 := by unfold FnOk; kernel_rfl
theorem fn_75 : FnOk Try.prog 75 := by unfold FnOk; kernel_rfl
theorem fn_78 : FnOk Try.prog 78 := by unfold FnOk; kernel_rfl
theorem fn_79 : FnOk Try.prog 79 := by unfold FnOk; kernel_rfl
theorem fn_8 : FnOk Try.prog 8 := by unfold FnOk; kernel_rfl
theorem fn_80 : FnOk Try.prog 80 := by unfold FnOk; kernel_rfl
theorem fn_81 : FnOk Try.prog 81 := by unfold FnOk; kernel_rfl
theorem fn_82 : FnOk Try.prog 82 := by unfold FnOk; kernel_rfl
theorem fn_83 : FnOk Try.prog 83 := by unfold FnOk; kernel_rfl
theorem fn_84 : FnOk Try.prog 84 := by unfold FnOk; kernel_rfl
theorem fn_85 : FnOk Try.prog 85 := by unfold FnOk; kernel_rfl
theorem fn_86 : FnOk Try.prog 86 := by unfold FnOk; kernel_rfl
theorem fn_87 : FnOk Try.prog 87 := by unfold FnOk; kernel_rfl
theorem fn_88 : FnOk Try.prog 88 := by unfold FnOk; kernel_rfl
theorem fn_89 : FnOk Try.prog 89 := by unfold FnOk; kernel_rfl
theorem fn_9 : FnOk Try.prog 9 := by unfold FnOk; kernel_rfl
theorem fn_90 : FnOk Try.prog 90 := by unfold FnOk; kernel_rfl
theorem fn_91 : FnOk Try.prog 91 := by unfold FnOk; kernel_rfl
theorem fn_94 : FnOk Try.prog 94 := by unfold FnOk; kernel_rfl
theorem fn_95 : FnOk Try.prog 95 := by unfold FnOk; kernel_rfl
theorem fn_96 : FnOk Try.prog 96 := by unfold FnOk; kernel_rfl
theorem fn_97 : FnOk Try.prog 97 := by unfold FnOk; kernel_rfl
theorem fn_98 : FnOk Try.prog 98 := by unfold FnOk; kernel_rfl
theorem fn_99 : FnOk Try.prog 99 := by unfold FnOk; kernel_rfl
theorem mixo : Try.prog.follows .mixedOrders = true := by kernel_rfl
theorem one_2 : One Try.prog 2 := ⟨by kernel_rfl, by kernel_rfl⟩
theorem one_22 : One Try.prog 22 := ⟨by kernel_rfl, by kernel_rfl⟩
theorem one_23 : One Try.prog 23 := ⟨by kernel_rfl, by kernel_rfl⟩
theorem one_26 : One Try.prog 26 := ⟨by kernel_rfl, by kernel_rfl⟩
theorem one_3 : One Try.prog 3 := ⟨by kernel_rfl, by kernel_rfl⟩
theorem sl_22 : SlE Try.prog 22 2 (Value.int .i64 0) 8 := ⟨by kernel_rfl, by kernel_rfl⟩
theorem sl_23 : SlE Try.prog 23 26 (Value.slice none 0 0) 24 := ⟨by kernel_rfl, by kernel_rfl⟩
theorem sl_26 : SlE Try.prog 26 22 (Value.slice none 0 0) 24 := ⟨by kernel_rfl, by kernel_rfl⟩
theorem sl_45 : SlE Try.prog 45 5 (Value.int .u8 0) 1 := ⟨by kernel_rfl, by kernel_rfl⟩
theorem st_25 : StT Try.prog 25 3 := ⟨by kernel_rfl, by kernel_rfl⟩
theorem st_28 : StT Try.prog 28 4 := ⟨by kernel_rfl, by kernel_rfl⟩
theorem st_31 : StT Try.prog 31 3 := ⟨by kernel_rfl, by kernel_rfl⟩
theorem st_34 : StT Try.prog 34 3 := ⟨by kernel_rfl, by kernel_rfl⟩
theorem st_36 : StT Try.prog 36 4 := ⟨by kernel_rfl, by kernel_rfl⟩
theorem sz_2 : (Try.prog.info? 2).map (·.size) = some 1 := by kernel_rfl
theorem sz_22 : (Try.prog.info? 22).map (·.size) = some 1 := by kernel_rfl
theorem sz_23 : (Try.prog.info? 23).map (·.size) = some 1 := by kernel_rfl
theorem sz_26 : (Try.prog.info? 26).map (·.size) = some 1 := by kernel_rfl
theorem sz_31 : (Try.prog.info? 31).map (·.size) = some 3 := by kernel_rfl
theorem sz_34 : (Try.prog.info? 34).map (·.size) = some 3 := by kernel_rfl
theorem sz_36 : (Try.prog.info? 36).map (·.size) = some 4 := by kernel_rfl
theorem ze_2 : ZeT Try.prog 2 (Value.int .i64 (0 : Int)) := by unfold ZeT; kernel_rfl
theorem ze_31 : ZeT Try.prog 31 (Value.agg #[(Value.slice none 0 0), (Value.int .i64 (0 : Int)), (Value.slice none 0 0)]) := by unfold ZeT; kernel_rfl
theorem ze_34 : ZeT Try.prog 34 (Value.agg #[(Value.slice none 0 0), (Value.int .i64 (0 : Int)), (Value.slice none 0 0)]) := by unfold ZeT; kernel_rfl
theorem ze_36 : ZeT Try.prog 36 (Value.agg #[(Value.slice none 0 0), (Value.int .i64 (0 : Int)), (Value.slice none 0 0), (Value.slice none 0 0)]) := by unfold ZeT; kernel_rfl
def FnT_i_to_b (P : Program) (c : Value) (w : World) (g : Int → Option Bool) : Prop := ∃ gid first cap, c = .func (.func gid) first cap ∧ FnOk P gid ∧
  ∀ w1 (a0 : Int) (r : Bool), Ext w w1 → InR .i64 a0 → g a0 = some r → Ret P gid (first ++ #[.int .i64 a0] ++ cap) w1 fun v w2 => v = .bool r ∧ Ext w1 w2
def FnT_li_to_b (P : Program) (c : Value) (w : World) (g : (List Int) → Option Bool) : Prop := ∃ gid first cap, c = .func (.func gid) first cap ∧ FnOk P gid ∧
  ∀ w1 (u0 : Value) (a0 : (List Int)) (r : Bool), Ext w w1 → (Ty.sl (Ty.i .i64)).rep w1 u0 a0 → g a0 = some r → Ret P gid (first ++ #[u0] ++ cap) w1 fun v w2 => v = .bool r ∧ Ext w1 w2
def FnT_lli_to_b (P : Program) (c : Value) (w : World) (g : (List (List Int)) → Option Bool) : Prop := ∃ gid first cap, c = .func (.func gid) first cap ∧ FnOk P gid ∧
  ∀ w1 (u0 : Value) (a0 : (List (List Int))) (r : Bool), Ext w w1 → (Ty.sl (Ty.sl (Ty.i .i64))).rep w1 u0 a0 → g a0 = some r → Ret P gid (first ++ #[u0] ++ cap) w1 fun v w2 => v = .bool r ∧ Ext w1 w2
def FnT_i_i_to_b (P : Program) (c : Value) (w : World) (g : Int → Int → Option Bool) : Prop := ∃ gid first cap, c = .func (.func gid) first cap ∧ FnOk P gid ∧
  ∀ w1 (a0 : Int) (a1 : Int) (r : Bool), Ext w w1 → InR .i64 a0 → InR .i64 a1 → g a0 a1 = some r → Ret P gid (first ++ #[.int .i64 a0, .int .i64 a1] ++ cap) w1 fun v w2 => v = .bool r ∧ Ext w1 w2
def FnT_i_i_i_to_i (P : Program) (c : Value) (w : World) (g : Int → Int → Int → Option Int) : Prop := ∃ gid first cap, c = .func (.func gid) first cap ∧ FnOk P gid ∧
  ∀ w1 (a0 : Int) (a1 : Int) (a2 : Int) (r : Int), Ext w w1 → InR .i64 a0 → InR .i64 a1 → InR .i64 a2 → g a0 a1 a2 = some r → Ret P gid (first ++ #[.int .i64 a0, .int .i64 a1, .int .i64 a2] ++ cap) w1 fun v w2 => v = .int .i64 r ∧ InR .i64 r ∧ Ext w1 w2
def FnT_i_i_to_i (P : Program) (c : Value) (w : World) (g : Int → Int → Option Int) : Prop := ∃ gid first cap, c = .func (.func gid) first cap ∧ FnOk P gid ∧
  ∀ w1 (a0 : Int) (a1 : Int) (r : Int), Ext w w1 → InR .i64 a0 → InR .i64 a1 → g a0 a1 = some r → Ret P gid (first ++ #[.int .i64 a0, .int .i64 a1] ++ cap) w1 fun v w2 => v = .int .i64 r ∧ InR .i64 r ∧ Ext w1 w2
theorem FnT_i_to_b.lift {P : Program} {c : Value} {w w' : World} {g : Int → Option Bool} (he : Ext w w') (h : FnT_i_to_b P c w g) : FnT_i_to_b P c w' g := by
  obtain ⟨gid, first, cap, h1, h2, h3⟩ := h
  exact ⟨gid, first, cap, h1, h2, fun w1 a0 r hx => h3 w1 a0 r (he.trans hx)⟩
theorem FnT_li_to_b.lift {P : Program} {c : Value} {w w' : World} {g : (List Int) → Option Bool} (he : Ext w w') (h : FnT_li_to_b P c w g) : FnT_li_to_b P c w' g := by
  obtain ⟨gid, first, cap, h1, h2, h3⟩ := h
  exact ⟨gid, first, cap, h1, h2, fun w1 u0 a0 r hx => h3 w1 u0 a0 r (he.trans hx)⟩
theorem FnT_lli_to_b.lift {P : Program} {c : Value} {w w' : World} {g : (List (List Int)) → Option Bool} (he : Ext w w') (h : FnT_lli_to_b P c w g) : FnT_lli_to_b P c w' g := by
  obtain ⟨gid, first, cap, h1, h2, h3⟩ := h
  exact ⟨gid, first, cap, h1, h2, fun w1 u0 a0 r hx => h3 w1 u0 a0 r (he.trans hx)⟩
theorem FnT_i_i_to_b.lift {P : Program} {c : Value} {w w' : World} {g : Int → Int → Option Bool} (he : Ext w w') (h : FnT_i_i_to_b P c w g) : FnT_i_i_to_b P c w' g := by
  obtain ⟨gid, first, cap, h1, h2, h3⟩ := h
  exact ⟨gid, first, cap, h1, h2, fun w1 a0 a1 r hx => h3 w1 a0 a1 r (he.trans hx)⟩
theorem FnT_i_i_i_to_i.lift {P : Program} {c : Value} {w w' : World} {g : Int → Int → Int → Option Int} (he : Ext w w') (h : FnT_i_i_i_to_i P c w g) : FnT_i_i_i_to_i P c w' g := by
  obtain ⟨gid, first, cap, h1, h2, h3⟩ := h
  exact ⟨gid, first, cap, h1, h2, fun w1 a0 a1 a2 r hx => h3 w1 a0 a1 a2 r (he.trans hx)⟩
theorem FnT_i_i_to_i.lift {P : Program} {c : Value} {w w' : World} {g : Int → Int → Option Int} (he : Ext w w') (h : FnT_i_i_to_i P c w g) : FnT_i_i_to_i P c w' g := by
  obtain ⟨gid, first, cap, h1, h2, h3⟩ := h
  exact ⟨gid, first, cap, h1, h2, fun w1 a0 a1 r hx => h3 w1 a0 a1 r (he.trans hx)⟩
end Go.VG
