/- The functions' plain twins, as a program of ours printed them. No proof. -/
import Derived.Test.YtppnedfpdobgiaaVgPure
set_option linter.all false
namespace Go.VG
noncomputable section

def p_laws_szInt64S (a : (List Int)) (left : Int) : Option (Int) :=
  if (decide ((w64 (left - ((a).length : Int))) < (0 : Int))) = true then
    some (-1 : Int)
  else
    some (w64 (left - ((a).length : Int)))

def p_laws_szInt64SS_L1 (a : (List (List Int))) (k6 : Nat) (x7 : Int) : Option (Ctl (Int) (Int)) :=
  (idx a (k6 : Int)).bind fun x25 =>
  (p_laws_szInt64S x25 x7).bind fun x32 =>
  if (decide (x32 < (0 : Int))) = true then
    some (.ret (-1 : Int))
  else
    some (.next x32)

def p_laws_szInt64SS (a : (List (List Int))) (left : Int) : Option (Int) :=
  if (decide ((w64 (left - ((a).length : Int))) < (0 : Int))) = true then
    some (-1 : Int)
  else
    (forN (fun k s => p_laws_szInt64SS_L1 a k s) (a).length 0 (w64 (left - ((a).length : Int)))).bind fun res4 => onRes res4 (fun r64 => some r64) fun (x60 : Int) =>
    some x60

def p_laws_szInt64SSS_L1 (a : (List (List (List Int)))) (k6 : Nat) (x7 : Int) : Option (Ctl (Int) (Int)) :=
  (idx a (k6 : Int)).bind fun x25 =>
  (p_laws_szInt64SS x25 x7).bind fun x32 =>
  if (decide (x32 < (0 : Int))) = true then
    some (.ret (-1 : Int))
  else
    some (.next x32)

def p_laws_szInt64SSS (a : (List (List (List Int)))) (left : Int) : Option (Int) :=
  if (decide ((w64 (left - ((a).length : Int))) < (0 : Int))) = true then
    some (-1 : Int)
  else
    (forN (fun k s => p_laws_szInt64SSS_L1 a k s) (a).length 0 (w64 (left - ((a).length : Int)))).bind fun res4 => onRes res4 (fun r64 => some r64) fun (x60 : Int) =>
    some x60

def p_laws_szRing (a_Table : (List (List (List Int)))) (left : Int) : Option (Int) :=
  (p_laws_szInt64SSS a_Table left).bind fun x9 =>
  if (decide (x9 < (0 : Int))) = true then
    some (-1 : Int)
  else
    some x9

def p_laws_toInt64S_L1 (a : (List Int)) (k10 : Nat) (x11 : (List Int)) : Option (Ctl ((List Int)) (Unit)) :=
  (idx a (k10 : Int)).bind fun x28 =>
  (idx x11 (k10 : Int)).bind fun x35 =>
  some (.next ((x11).set ((k10 : Int)).toNat x28))

def p_laws_toInt64S (a : (List Int)) : Option ((List Int)) :=
  (mkL ((a).length : Int) (0 : Int)).bind fun x2 =>
  (forN (fun k s => p_laws_toInt64S_L1 a k s) (a).length 0 x2).bind fun res8 => onRes res8 (fun r62 => none) fun (x59 : (List Int)) =>
  some x59

def p_laws_toInt64SS_L1 (a : (List (List Int))) (k10 : Nat) (x11 : (List (List Int))) : Option (Ctl ((List (List Int))) (Unit)) :=
  (idx a (k10 : Int)).bind fun x28 =>
  (p_laws_toInt64S x28).bind fun x35 =>
  (idx x11 (k10 : Int)).bind fun x42 =>
  some (.next ((x11).set ((k10 : Int)).toNat x35))

def p_laws_toInt64SS (a : (List (List Int))) : Option ((List (List Int))) :=
  (mkL ((a).length : Int) ([] : (List Int))).bind fun x2 =>
  (forN (fun k s => p_laws_toInt64SS_L1 a k s) (a).length 0 x2).bind fun res8 => onRes res8 (fun r69 => none) fun (x66 : (List (List Int))) =>
  some x66

def p_laws_toInt64SSS_L1 (a : (List (List (List Int)))) (k10 : Nat) (x11 : (List (List (List Int)))) : Option (Ctl ((List (List (List Int)))) (Unit)) :=
  (idx a (k10 : Int)).bind fun x28 =>
  (p_laws_toInt64SS x28).bind fun x35 =>
  (idx x11 (k10 : Int)).bind fun x42 =>
  some (.next ((x11).set ((k10 : Int)).toNat x35))

def p_laws_toInt64SSS (a : (List (List (List Int)))) : Option ((List (List (List Int)))) :=
  (mkL ((a).length : Int) ([] : (List (List Int)))).bind fun x2 =>
  (forN (fun k s => p_laws_toInt64SSS_L1 a k s) (a).length 0 x2).bind fun res8 => onRes res8 (fun r69 => none) fun (x66 : (List (List (List Int)))) =>
  some x66

def p_laws_toRing (a_Table : (List (List (List Int)))) : Option ((List (List (List Int)))) :=
  (p_laws_toInt64SSS a_Table).bind fun x17 =>
  some x17

def p_spec_l01In (n : Int) (low : Int) (high : Int) : Option (Bool) :=
  some ((decide (n ≥ low)) && (decide (n ≤ high)))

def p_spec_l03Cube_L3 (x62 : (List Int)) (k74 : Nat) : Option (Ctl (Unit) (Bool)) :=
  (idx x62 (k74 : Int)).bind fun x98 =>
  (p_spec_l01In x98 (0 : Int) (1000 : Int)).bind fun x105 =>
  if (!x105) = true then
    some (.ret false)
  else
    some (.next ())

def p_spec_l03Cube_L2 (x30 : (List (List Int))) (t : (List (List (List Int)))) (k42 : Nat) : Option (Ctl (Unit) (Bool)) :=
  (idx x30 (k42 : Int)).bind fun x62 =>
  if (((x62).length : Int) != ((t).length : Int)) = true then
    some (.ret false)
  else
    (forN (fun k s => p_spec_l03Cube_L3 x62 k ) (t).length 0 ()).bind fun res72 => onRes res72 (fun r136 => some (.ret r136)) fun _ =>
    some (.next ())

def p_spec_l03Cube_L1 (t : (List (List (List Int)))) (k14 : Nat) : Option (Ctl (Unit) (Bool)) :=
  (idx t (k14 : Int)).bind fun x30 =>
  if (((x30).length : Int) != ((t).length : Int)) = true then
    some (.ret false)
  else
    (forN (fun k s => p_spec_l03Cube_L2 x30 t k ) (t).length 0 ()).bind fun res40 => onRes res40 (fun r158 => some (.ret r158)) fun _ =>
    some (.next ())

def p_spec_l03Cube (t : (List (List (List Int)))) : Option (Bool) :=
  if ((decide (((t).length : Int) < (1 : Int))) || (decide (((t).length : Int) > (16 : Int)))) = true then
    some false
  else
    (forN (fun k s => p_spec_l03Cube_L1 t k ) (t).length 0 ()).bind fun res12 => onRes res12 (fun r176 => some r176) fun _ =>
    some true

def p_spec_l03Dual_L1 (t : (List (List (List Int)))) (i : Int) (k3 : Nat) (x4 : Int) : Option (Ctl (Int) (Int)) :=
  (idx t i).bind fun x23 =>
  (idx x23 (k3 : Int)).bind fun x30 =>
  (idx x30 (0 : Int)).bind fun x37 =>
  if ((x37 == (1 : Int)) && (decide (x4 < (0 : Int)))) = true then
    some (.next (k3 : Int))
  else
    if (x37 != (0 : Int)) = true then
      some (.ret (-1 : Int))
    else
      some (.next x4)

def p_spec_l03Dual (t : (List (List (List Int)))) (i : Int) : Option (Int) :=
  (forN (fun k s => p_spec_l03Dual_L1 t i k s) (t).length 0 (-1 : Int)).bind fun res1 => onRes res1 (fun r91 => some r91) fun (x87 : Int) =>
  some x87

def p_spec_l03Fault_L2 (k4 : Nat) (t : (List (List (List Int)))) (k22 : Nat) : Option (Ctl (Unit) ((List Int))) :=
  (if ((k4 : Int) == (k22 : Int)) = true then
    some (1 : Int)
  else
    some (0 : Int)).bind fun (x39 : Int) =>
  (idx t (0 : Int)).bind fun x52 =>
  (idx x52 (k4 : Int)).bind fun x59 =>
  (idx x59 (k22 : Int)).bind fun x66 =>
  (if (x66 != x39) = true then
    some true
  else
    (idx t (k4 : Int)).bind fun x79 =>
    (idx x79 (0 : Int)).bind fun x86 =>
    (idx x86 (k22 : Int)).bind fun x93 =>
    some (x93 != x39)).bind fun (x74 : Bool) =>
  if x74 = true then
    some (.ret ([(0 : Int), (k4 : Int), (k22 : Int)] : (List Int)))
  else
    some (.next ())

def p_spec_l03Fault_L1 (t : (List (List (List Int)))) (k4 : Nat) : Option (Ctl (Unit) ((List Int))) :=
  (forN (fun k s => p_spec_l03Fault_L2 k4 t k ) (t).length 0 ()).bind fun res20 => onRes res20 (fun r133 => some (.ret r133)) fun _ =>
  some (.next ())

def p_spec_l03Fault_L3 (t : (List (List (List Int)))) (k159 : Nat) (x160 : (List Int)) : Option (Ctl ((List Int)) (Unit)) :=
  (p_spec_l03Dual t (k159 : Int)).bind fun x178 =>
  (appL x160 ([x178] : (List Int))).bind fun x189 =>
  some (.next x189)

def p_spec_l03Fault_L4 (x214 : (List Int)) (k222 : Nat) : Option (Ctl (Unit) ((List Int))) :=
  (idx x214 (k222 : Int)).bind fun x239 =>
  (if (decide (x239 < (0 : Int))) = true then
    some true
  else
    (idx x214 x239).bind fun x255 =>
    some (x255 != (k222 : Int))).bind fun (x247 : Bool) =>
  if x247 = true then
    some (.ret ([(1 : Int), (k222 : Int)] : (List Int)))
  else
    some (.next ())

def p_spec_l03Fault_L7 (t : (List (List (List Int)))) (k297 : Nat) (k316 : Nat) (x214 : (List Int)) (k336 : Nat) : Option (Ctl (Unit) ((List Int))) :=
  (idx t (k297 : Int)).bind fun x378 =>
  (idx x378 (k316 : Int)).bind fun x408 =>
  (idx x408 (k336 : Int)).bind fun x438 =>
  (idx x214 (k297 : Int)).bind fun x482 =>
  (idx t x482).bind fun x505 =>
  (idx x505 (k336 : Int)).bind fun x535 =>
  (idx x535 (k316 : Int)).bind fun x565 =>
  (if (x438 != x565) = true then
    some true
  else
    (idx t (k336 : Int)).bind fun x894 =>
    (idx x214 (k316 : Int)).bind fun x935 =>
    (idx x894 x935).bind fun x960 =>
    (idx x960 (k297 : Int)).bind fun x993 =>
    some (x438 != x993)).bind fun (x596 : Bool) =>
  if x596 = true then
    some (.ret ([(2 : Int), (k297 : Int), (k316 : Int), (k336 : Int)] : (List Int)))
  else
    some (.next ())

def p_spec_l03Fault_L6 (t : (List (List (List Int)))) (k297 : Nat) (x214 : (List Int)) (k316 : Nat) : Option (Ctl (Unit) ((List Int))) :=
  (forN (fun k s => p_spec_l03Fault_L7 t k297 k316 x214 k ) (t).length 0 ()).bind fun res334 => onRes res334 (fun r1095 => some (.ret r1095)) fun _ =>
  some (.next ())

def p_spec_l03Fault_L5 (t : (List (List (List Int)))) (x214 : (List Int)) (k297 : Nat) : Option (Ctl (Unit) ((List Int))) :=
  (forN (fun k s => p_spec_l03Fault_L6 t k297 x214 k ) (t).length 0 ()).bind fun res314 => onRes res314 (fun r1119 => some (.ret r1119)) fun _ =>
  some (.next ())

def p_spec_l03Fault_L12 (t : (List (List (List Int)))) (k1142 : Nat) (k1160 : Nat) (k1179 : Nat) (k1199 : Nat) (k1220 : Nat) (x1221 : Int) (x1222 : Int) : Option (Ctl (Int × Int) (Unit)) :=
  (idx t (k1142 : Int)).bind fun x1276 =>
  (idx x1276 (k1160 : Int)).bind fun x1306 =>
  (idx x1306 (k1220 : Int)).bind fun x1336 =>
  (idx t (k1220 : Int)).bind fun x1373 =>
  (idx x1373 (k1179 : Int)).bind fun x1403 =>
  (idx x1403 (k1199 : Int)).bind fun x1433 =>
  (idx t (k1160 : Int)).bind fun x1505 =>
  (idx x1505 (k1179 : Int)).bind fun x1535 =>
  (idx x1535 (k1220 : Int)).bind fun x1565 =>
  (idx x1276 (k1220 : Int)).bind fun x1628 =>
  (idx x1628 (k1199 : Int)).bind fun x1658 =>
  some (.next ((w64 (x1221 + (w64 (x1336 * x1433)))), (w64 (x1222 + (w64 (x1565 * x1658))))))

def p_spec_l03Fault_L11 (t : (List (List (List Int)))) (k1142 : Nat) (k1160 : Nat) (k1179 : Nat) (k1199 : Nat) : Option (Ctl (Unit) ((List Int))) :=
  (forN (fun k s => p_spec_l03Fault_L12 t k1142 k1160 k1179 k1199 k s.1 s.2) (t).length 0 ((0 : Int), (0 : Int))).bind fun res1218 => onRes res1218 (fun r1745 => none) fun (s1725p : Int × Int) =>
  if (s1725p.1 != s1725p.2) = true then
    some (.ret ([(3 : Int), (k1142 : Int), (k1160 : Int), (k1179 : Int), (k1199 : Int)] : (List Int)))
  else
    some (.next ())

def p_spec_l03Fault_L10 (t : (List (List (List Int)))) (k1142 : Nat) (k1160 : Nat) (k1179 : Nat) : Option (Ctl (Unit) ((List Int))) :=
  (forN (fun k s => p_spec_l03Fault_L11 t k1142 k1160 k1179 k ) (t).length 0 ()).bind fun res1197 => onRes res1197 (fun r1771 => some (.ret r1771)) fun _ =>
  some (.next ())

def p_spec_l03Fault_L9 (t : (List (List (List Int)))) (k1142 : Nat) (k1160 : Nat) : Option (Ctl (Unit) ((List Int))) :=
  (forN (fun k s => p_spec_l03Fault_L10 t k1142 k1160 k ) (t).length 0 ()).bind fun res1177 => onRes res1177 (fun r1795 => some (.ret r1795)) fun _ =>
  some (.next ())

def p_spec_l03Fault_L8 (t : (List (List (List Int)))) (k1142 : Nat) : Option (Ctl (Unit) ((List Int))) :=
  (forN (fun k s => p_spec_l03Fault_L9 t k1142 k ) (t).length 0 ()).bind fun res1158 => onRes res1158 (fun r1817 => some (.ret r1817)) fun _ =>
  some (.next ())

def p_spec_l03Fault (t : (List (List (List Int)))) : Option ((List Int)) :=
  (forN (fun k s => p_spec_l03Fault_L1 t k ) (t).length 0 ()).bind fun res2 => onRes res2 (fun r1839 => some r1839) fun _ =>
  (forN (fun k s => p_spec_l03Fault_L3 t k s) (t).length 0 ([] : (List Int))).bind fun res157 => onRes res157 (fun r1838 => none) fun (x214 : (List Int)) =>
  (forN (fun k s => p_spec_l03Fault_L4 x214 k ) (t).length 0 ()).bind fun res220 => onRes res220 (fun r1837 => some r1837) fun _ =>
  (forN (fun k s => p_spec_l03Fault_L5 t x214 k ) (t).length 0 ()).bind fun res295 => onRes res295 (fun r1836 => some r1836) fun _ =>
  (forN (fun k s => p_spec_l03Fault_L8 t k ) (t).length 0 ()).bind fun res1140 => onRes res1140 (fun r1835 => some r1835) fun _ =>
  some ([] : (List Int))

def p_spec_l03Is (r_Table : (List (List (List Int)))) : Option (Bool) :=
  (p_spec_l03Cube r_Table).bind fun x9 =>
  (if x9 = true then
    (p_spec_l03Fault r_Table).bind fun x21 =>
    some (((x21).length : Int) == (0 : Int))
  else
    some false).bind fun (x16 : Bool) =>
  some x16

def p_spec_l03Vector_L1 (x : (List Int)) (k11 : Nat) : Option (Ctl (Unit) (Bool)) :=
  (idx x (k11 : Int)).bind fun x28 =>
  (p_spec_l01In x28 (0 : Int) (1000000 : Int)).bind fun x35 =>
  if (!x35) = true then
    some (.ret false)
  else
    some (.next ())

def p_spec_l03Vector (r_Table : (List (List (List Int)))) (x : (List Int)) : Option (Bool) :=
  (forN (fun k s => p_spec_l03Vector_L1 x k ) (x).length 0 ()).bind fun res9 => onRes res9 (fun r65 => some r65) fun _ =>
  some (((x).length : Int) == ((r_Table).length : Int))

def p_spec_l04Is_L3 (r_Table : (List (List (List Int)))) (k11 : Nat) (k30 : Nat) (d : (List Int)) (k50 : Nat) (x51 : Int) : Option (Ctl (Int) (Unit)) :=
  (idx r_Table (k11 : Int)).bind fun x109 =>
  (idx x109 (k30 : Int)).bind fun x139 =>
  (idx x139 (k50 : Int)).bind fun x169 =>
  (idx d (k50 : Int)).bind fun x206 =>
  some (.next (w64 (x51 + (w64 (x169 * x206)))))

def p_spec_l04Is_L2 (r_Table : (List (List (List Int)))) (k11 : Nat) (d : (List Int)) (k30 : Nat) : Option (Ctl (Unit) (Bool)) :=
  (forN (fun k s => p_spec_l04Is_L3 r_Table k11 k30 d k s) (d).length 0 (0 : Int)).bind fun res48 => onRes res48 (fun r546 => none) fun (x267 : Int) =>
  (idx d (k11 : Int)).bind fun x298 =>
  (if (decide (x298 < (1 : Int))) = true then
    some true
  else
    (idx d (k30 : Int)).bind fun x482 =>
    some (x267 != (w64 (x298 * x482)))).bind fun (x327 : Bool) =>
  if x327 = true then
    some (.ret false)
  else
    some (.next ())

def p_spec_l04Is_L1 (r_Table : (List (List (List Int)))) (d : (List Int)) (k11 : Nat) : Option (Ctl (Unit) (Bool)) :=
  (forN (fun k s => p_spec_l04Is_L2 r_Table k11 d k ) (d).length 0 ()).bind fun res28 => onRes res28 (fun r569 => some (.ret r569)) fun _ =>
  some (.next ())

def p_spec_l04Is (r_Table : (List (List (List Int)))) (d : (List Int)) : Option (Bool) :=
  (forN (fun k s => p_spec_l04Is_L1 r_Table d k ) (d).length 0 ()).bind fun res9 => onRes res9 (fun r588 => some r588) fun _ =>
  some true

def p_spec_IsDimension (r_Table : (List (List (List Int)))) (d : (List Int)) : Option (Bool × Int) :=
  (p_spec_l03Is r_Table).bind fun x9 =>
  if (!x9) = true then
    some (false, (1 : Int))
  else
    (p_spec_l03Vector r_Table d).bind fun x17 =>
    if (!x17) = true then
      some (false, (2 : Int))
    else
      (p_spec_l04Is r_Table d).bind fun x25 =>
      some (x25, (0 : Int))

def p_impl_within (n : Int) (low : Int) (high : Int) : Option (Bool) :=
  some ((decide (n ≥ low)) && (decide (n ≤ high)))

def p_impl_allWithin_c1 (n : Int) (c0 : Int) (c1 : Int) : Option (Bool) :=
  (p_impl_within n c0 c1).bind fun x1 =>
  some (!x1)

def p_slices_IndexFunc_Lint64_int64_L1 (s1 : (List Int)) (f1 : (Int → Option Bool)) (k4 : Nat) : Option (Ctl (Unit) (Int)) :=
  (idx s1 (k4 : Int)).bind fun x21 =>
  (f1 x21).bind fun x28 =>
  if x28 = true then
    some (.ret (k4 : Int))
  else
    some (.next ())

def p_slices_IndexFunc_Lint64_int64 (s1 : (List Int)) (f1 : Int → Option Bool) : Option (Int) :=
  (forN (fun k s => p_slices_IndexFunc_Lint64_int64_L1 s1 f1 k ) (s1).length 0 ()).bind fun res2 => onRes res2 (fun r54 => some r54) fun _ =>
  some (-1 : Int)

def p_slices_ContainsFunc_Lint64_int64 (s1 : (List Int)) (f1 : Int → Option Bool) : Option (Bool) :=
  (p_slices_IndexFunc_Lint64_int64 s1 f1).bind fun x1 =>
  some (decide (x1 ≥ (0 : Int)))

def p_impl_allWithin (list : (List Int)) (low : Int) (high : Int) : Option (Bool) :=
  (p_slices_ContainsFunc_Lint64_int64 list (fun a0_19 => p_impl_allWithin_c1 a0_19 low high)).bind fun x22 =>
  some (!x22)

def p_impl_isCube_c1 (row : (List Int)) (c0 : Int) : Option (Bool) :=
  (if (((row).length : Int) != c0) = true then
    some true
  else
    (p_impl_allWithin row (0 : Int) (1000 : Int)).bind fun x8 =>
    some (!x8)).bind fun (x3 : Bool) =>
  some x3

def p_slices_IndexFunc_LLint64_Lint64_L1 (s1 : (List (List Int))) (f1 : ((List Int) → Option Bool)) (k4 : Nat) : Option (Ctl (Unit) (Int)) :=
  (idx s1 (k4 : Int)).bind fun x21 =>
  (f1 x21).bind fun x28 =>
  if x28 = true then
    some (.ret (k4 : Int))
  else
    some (.next ())

def p_slices_IndexFunc_LLint64_Lint64 (s1 : (List (List Int))) (f1 : (List Int) → Option Bool) : Option (Int) :=
  (forN (fun k s => p_slices_IndexFunc_LLint64_Lint64_L1 s1 f1 k ) (s1).length 0 ()).bind fun res2 => onRes res2 (fun r54 => some r54) fun _ =>
  some (-1 : Int)

def p_slices_ContainsFunc_LLint64_Lint64 (s1 : (List (List Int))) (f1 : (List Int) → Option Bool) : Option (Bool) :=
  (p_slices_IndexFunc_LLint64_Lint64 s1 f1).bind fun x1 =>
  some (decide (x1 ≥ (0 : Int)))

def p_impl_isCube_L1 (r_Table : (List (List (List Int)))) (k19 : Nat) : Option (Ctl (Unit) (Bool)) :=
  (idx r_Table (k19 : Int)).bind fun x36 =>
  (if (((x36).length : Int) != ((r_Table).length : Int)) = true then
    some true
  else
    (p_slices_ContainsFunc_LLint64_Lint64 x36 (fun a0_51 => p_impl_isCube_c1 a0_51 ((r_Table).length : Int))).bind fun x54 =>
    some x54).bind fun (x45 : Bool) =>
  if x45 = true then
    some (.ret false)
  else
    some (.next ())

def p_impl_isCube (r_Table : (List (List (List Int)))) : Option (Bool) :=
  (forN (fun k s => p_impl_isCube_L1 r_Table k ) (r_Table).length 0 ()).bind fun res17 => onRes res17 (fun r93 => some r93) fun _ =>
  some ((decide (((r_Table).length : Int) ≥ (1 : Int))) && (decide (((r_Table).length : Int) ≤ (16 : Int))))

def p_impl_delta (i : Int) (k1 : Int) : Option (Int) :=
  if (i == k1) = true then
    some (1 : Int)
  else
    some (0 : Int)

def p_impl_Ring_unitFault_L2 (r_Table : (List (List (List Int)))) (k12 : Nat) (k31 : Nat) : Option (Ctl (Unit) ((List Int))) :=
  (idx r_Table (0 : Int)).bind fun x71 =>
  (idx x71 (k12 : Int)).bind fun x101 =>
  (idx x101 (k31 : Int)).bind fun x131 =>
  (p_impl_delta (k12 : Int) (k31 : Int)).bind fun x169 =>
  (if (x131 != x169) = true then
    some true
  else
    (idx r_Table (k12 : Int)).bind fun x334 =>
    (idx x334 (0 : Int)).bind fun x357 =>
    (idx x357 (k31 : Int)).bind fun x390 =>
    (p_impl_delta (k12 : Int) (k31 : Int)).bind fun x432 =>
    some (x390 != x432)).bind fun (x192 : Bool) =>
  if x192 = true then
    some (.ret ([(0 : Int), (k12 : Int), (k31 : Int)] : (List Int)))
  else
    some (.next ())

def p_impl_Ring_unitFault_L1 (r_Table : (List (List (List Int)))) (k12 : Nat) : Option (Ctl (Unit) ((List Int))) :=
  (forN (fun k s => p_impl_Ring_unitFault_L2 r_Table k12 k ) (r_Table).length 0 ()).bind fun res29 => onRes res29 (fun r512 => some (.ret r512)) fun _ =>
  some (.next ())

def p_impl_Ring_unitFault (r_Table : (List (List (List Int)))) : Option ((List Int)) :=
  (forN (fun k s => p_impl_Ring_unitFault_L1 r_Table k ) (r_Table).length 0 ()).bind fun res10 => onRes res10 (fun r530 => some r530) fun _ =>
  some ([] : (List Int))

def p_impl_Ring_onlyOf_L1 (x9 : (List (List Int))) (k19 : Nat) (x20 : Int) : Option (Ctl (Int) (Int)) :=
  (idx x9 (k19 : Int)).bind fun x38 =>
  (idx x38 (0 : Int)).bind fun x45 =>
  if (x45 == (0 : Int)) = true then
    some (.next x20)
  else
    if ((decide (x20 ≥ (0 : Int))) || (x45 != (1 : Int))) = true then
      some (.ret (-1 : Int))
    else
      some (.next (k19 : Int))

def p_impl_Ring_onlyOf (r_Table : (List (List (List Int)))) (i : Int) : Option (Int) :=
  (idx r_Table i).bind fun x9 =>
  (forN (fun k s => p_impl_Ring_onlyOf_L1 x9 k s) (x9).length 0 (-1 : Int)).bind fun res17 => onRes res17 (fun r92 => some r92) fun (x88 : Int) =>
  some x88

def p_impl_Ring_dualFault_L1 (r_Table : (List (List (List Int)))) (k12 : Nat) : Option (Ctl (Unit) (Int)) :=
  (p_impl_Ring_onlyOf r_Table (k12 : Int)).bind fun x28 =>
  (if (decide (x28 < (0 : Int))) = true then
    some true
  else
    (p_impl_Ring_onlyOf r_Table x28).bind fun x41 =>
    some (x41 != (k12 : Int))).bind fun (x36 : Bool) =>
  if x36 = true then
    some (.ret (k12 : Int))
  else
    some (.next ())

def p_impl_Ring_dualFault (r_Table : (List (List (List Int)))) : Option (Int) :=
  (forN (fun k s => p_impl_Ring_dualFault_L1 r_Table k ) (r_Table).length 0 ()).bind fun res10 => onRes res10 (fun r73 => some r73) fun _ =>
  some (-1 : Int)

def p_impl_Ring_duals_L1 (r_Table : (List (List (List Int)))) (k16 : Nat) (x17 : (List Int)) : Option (Ctl ((List Int)) (Unit)) :=
  (p_impl_Ring_onlyOf r_Table (k16 : Int)).bind fun x35 =>
  (appL x17 ([x35] : (List Int))).bind fun x46 =>
  some (.next x46)

def p_impl_Ring_duals (r_Table : (List (List (List Int)))) : Option ((List Int)) :=
  (forN (fun k s => p_impl_Ring_duals_L1 r_Table k s) (r_Table).length 0 ([] : (List Int))).bind fun res14 => onRes res14 (fun r75 => none) fun (x71 : (List Int)) =>
  some x71

def p_impl_Ring_turnFault_L3 (r_Table : (List (List (List Int)))) (k23 : Nat) (k43 : Nat) (x9 : (List Int)) (k66 : Nat) : Option (Ctl (Unit) ((List Int))) :=
  (idx r_Table (k23 : Int)).bind fun x89 =>
  (idx x89 (k43 : Int)).bind fun x96 =>
  (idx x96 (k66 : Int)).bind fun x103 =>
  (idx x9 (k23 : Int)).bind fun x154 =>
  (idx r_Table x154).bind fun x177 =>
  (idx x177 (k66 : Int)).bind fun x207 =>
  (idx x207 (k43 : Int)).bind fun x237 =>
  (if (x103 != x237) = true then
    some true
  else
    (idx r_Table (k66 : Int)).bind fun x436 =>
    (idx x9 (k43 : Int)).bind fun x477 =>
    (idx x436 x477).bind fun x502 =>
    (idx x502 (k23 : Int)).bind fun x535 =>
    some (x103 != x535)).bind fun (x268 : Bool) =>
  if x268 = true then
    some (.ret ([(2 : Int), (k23 : Int), (k43 : Int), (k66 : Int)] : (List Int)))
  else
    some (.next ())

def p_impl_Ring_turnFault_L2 (r_Table : (List (List (List Int)))) (k23 : Nat) (x9 : (List Int)) (k43 : Nat) : Option (Ctl (Unit) ((List Int))) :=
  (forN (fun k s => p_impl_Ring_turnFault_L3 r_Table k23 k43 x9 k ) (r_Table).length 0 ()).bind fun res64 => onRes res64 (fun r642 => some (.ret r642)) fun _ =>
  some (.next ())

def p_impl_Ring_turnFault_L1 (r_Table : (List (List (List Int)))) (x9 : (List Int)) (k23 : Nat) : Option (Ctl (Unit) ((List Int))) :=
  (forN (fun k s => p_impl_Ring_turnFault_L2 r_Table k23 x9 k ) (r_Table).length 0 ()).bind fun res41 => onRes res41 (fun r668 => some (.ret r668)) fun _ =>
  some (.next ())

def p_impl_Ring_turnFault (r_Table : (List (List (List Int)))) : Option ((List Int)) :=
  (p_impl_Ring_duals r_Table).bind fun x9 =>
  (forN (fun k s => p_impl_Ring_turnFault_L1 r_Table x9 k ) (r_Table).length 0 ()).bind fun res21 => onRes res21 (fun r687 => some r687) fun _ =>
  some ([] : (List Int))

def p_impl_Ring_bracketFault_L5 (x29 : (List (List Int))) (k39 : Nat) (r_Table : (List (List (List Int)))) (k71 : Nat) (k100 : Nat) (x61 : (List (List Int))) (k132 : Nat) (x133 : Int) (x134 : Int) : Option (Ctl (Int × Int) (Unit)) :=
  (idx x29 (k39 : Int)).bind fun x200 =>
  (idx x200 (k132 : Int)).bind fun x230 =>
  (idx r_Table (k132 : Int)).bind fun x274 =>
  (idx x274 (k71 : Int)).bind fun x304 =>
  (idx x304 (k100 : Int)).bind fun x334 =>
  (idx x61 (k71 : Int)).bind fun x419 =>
  (idx x419 (k132 : Int)).bind fun x449 =>
  (idx x29 (k132 : Int)).bind fun x486 =>
  (idx x486 (k100 : Int)).bind fun x516 =>
  some (.next ((w64 (x133 + (w64 (x230 * x334)))), (w64 (x134 + (w64 (x449 * x516))))))

def p_impl_Ring_bracketFault_L4 (x29 : (List (List Int))) (k39 : Nat) (r_Table : (List (List (List Int)))) (k71 : Nat) (x61 : (List (List Int))) (k12 : Nat) (k100 : Nat) : Option (Ctl (Unit) ((List Int))) :=
  (forN (fun k s => p_impl_Ring_bracketFault_L5 x29 k39 r_Table k71 k100 x61 k s.1 s.2) (r_Table).length 0 ((0 : Int), (0 : Int))).bind fun res130 => onRes res130 (fun r638 => none) fun (s607p : Int × Int) =>
  if (s607p.1 != s607p.2) = true then
    some (.ret ([(3 : Int), (k12 : Int), (k39 : Int), (k71 : Int), (k100 : Int)] : (List Int)))
  else
    some (.next ())

def p_impl_Ring_bracketFault_L3 (x29 : (List (List Int))) (k39 : Nat) (r_Table : (List (List (List Int)))) (x61 : (List (List Int))) (k12 : Nat) (k71 : Nat) : Option (Ctl (Unit) ((List Int))) :=
  (forN (fun k s => p_impl_Ring_bracketFault_L4 x29 k39 r_Table k71 x61 k12 k ) (r_Table).length 0 ()).bind fun res98 => onRes res98 (fun r682 => some (.ret r682)) fun _ =>
  some (.next ())

def p_impl_Ring_bracketFault_L2 (r_Table : (List (List (List Int)))) (x29 : (List (List Int))) (k12 : Nat) (k39 : Nat) : Option (Ctl (Unit) ((List Int))) :=
  (idx r_Table (k39 : Int)).bind fun x61 =>
  (forN (fun k s => p_impl_Ring_bracketFault_L3 x29 k39 r_Table x61 k12 k ) (r_Table).length 0 ()).bind fun res69 => onRes res69 (fun r719 => some (.ret r719)) fun _ =>
  some (.next ())

def p_impl_Ring_bracketFault_L1 (r_Table : (List (List (List Int)))) (k12 : Nat) : Option (Ctl (Unit) ((List Int))) :=
  (idx r_Table (k12 : Int)).bind fun x29 =>
  (forN (fun k s => p_impl_Ring_bracketFault_L2 r_Table x29 k12 k ) (r_Table).length 0 ()).bind fun res37 => onRes res37 (fun r747 => some (.ret r747)) fun _ =>
  some (.next ())

def p_impl_Ring_bracketFault (r_Table : (List (List (List Int)))) : Option ((List Int)) :=
  (forN (fun k s => p_impl_Ring_bracketFault_L1 r_Table k ) (r_Table).length 0 ()).bind fun res10 => onRes res10 (fun r766 => some r766) fun _ =>
  some ([] : (List Int))

def p_impl_Ring_fault (r_Table : (List (List (List Int)))) : Option ((List Int)) :=
  (p_impl_Ring_unitFault r_Table).bind fun x9 =>
  if (!(x9).isEmpty) = true then
    some x9
  else
    (p_impl_Ring_dualFault r_Table).bind fun x19 =>
    if (decide (x19 ≥ (0 : Int))) = true then
      some ([(1 : Int), x19] : (List Int))
    else
      (p_impl_Ring_turnFault r_Table).bind fun x32 =>
      if (!(x32).isEmpty) = true then
        some x32
      else
        (p_impl_Ring_bracketFault r_Table).bind fun x42 =>
        some x42

def p_impl_IsRing (r_Table : (List (List (List Int)))) : Option (Bool) :=
  (p_impl_isCube r_Table).bind fun x9 =>
  (if x9 = true then
    (p_impl_Ring_fault r_Table).bind fun x21 =>
    some (x21).isEmpty
  else
    some false).bind fun (x16 : Bool) =>
  some x16

def p_impl_Ring_isVector (r_Table : (List (List (List Int)))) (x : (List Int)) : Option (Bool) :=
  (if (((x).length : Int) == ((r_Table).length : Int)) = true then
    (p_impl_allWithin x (0 : Int) (1000000 : Int)).bind fun x17 =>
    some x17
  else
    some false).bind fun (x12 : Bool) =>
  some x12

def p_slices_Min_Lint64_int64_L1 (x : (List Int)) (k18 : Nat) (x19 : Int) : Option (Ctl (Int) (Unit)) :=
  (idx x ((1 : Int) + (k18 : Int))).bind fun x37 =>
  some (.next (if x37 < x19 then x37 else x19))

def p_slices_Min_Lint64_int64 (x : (List Int)) : Option (Int) :=
  (if (decide (((x).length : Int) < (1 : Int))) = true then
    none
  else
    some ()).bind fun (_ : Unit) =>
  (idx x (0 : Int)).bind fun x9 =>
  (forN (fun k s => p_slices_Min_Lint64_int64_L1 x k s) (((x).length : Int) - (1 : Int)).toNat 0 x9).bind fun res16 => onRes res16 (fun r67 => none) fun (x63 : Int) =>
  some x63

def p_impl_Ring_isDimension_L3 (x60 : (List Int)) (d : (List Int)) (k70 : Nat) (x71 : Int) : Option (Ctl (Int) (Unit)) :=
  (idx x60 (k70 : Int)).bind fun x98 =>
  (idx d (k70 : Int)).bind fun x105 =>
  some (.next (w64 (x71 + (w64 (x98 * x105)))))

def p_impl_Ring_isDimension_L2 (x29 : (List (List Int))) (d : (List Int)) (k12 : Nat) (k39 : Nat) : Option (Ctl (Unit) (Bool)) :=
  (idx x29 (k39 : Int)).bind fun x60 =>
  (forN (fun k s => p_impl_Ring_isDimension_L3 x60 d k s) (x60).length 0 (0 : Int)).bind fun res68 => onRes res68 (fun r264 => none) fun (x140 : Int) =>
  (idx d (k12 : Int)).bind fun x183 =>
  (idx d (k39 : Int)).bind fun x220 =>
  if (x140 != (w64 (x183 * x220))) = true then
    some (.ret false)
  else
    some (.next ())

def p_impl_Ring_isDimension_L1 (r_Table : (List (List (List Int)))) (d : (List Int)) (k12 : Nat) : Option (Ctl (Unit) (Bool)) :=
  (idx r_Table (k12 : Int)).bind fun x29 =>
  (forN (fun k s => p_impl_Ring_isDimension_L2 x29 d k12 k ) (x29).length 0 ()).bind fun res37 => onRes res37 (fun r291 => some (.ret r291)) fun _ =>
  some (.next ())

def p_impl_Ring_isDimension (r_Table : (List (List (List Int)))) (d : (List Int)) : Option (Bool) :=
  (forN (fun k s => p_impl_Ring_isDimension_L1 r_Table d k ) (r_Table).length 0 ()).bind fun res10 => onRes res10 (fun r318 => some r318) fun _ =>
  (p_slices_Min_Lint64_int64 d).bind fun x311 =>
  some (decide (x311 > (0 : Int)))

def p_impl_IsDimension (r_Table : (List (List (List Int)))) (d : (List Int)) : Option (Bool × Int) :=
  (p_impl_IsRing r_Table).bind fun x9 =>
  if (!x9) = true then
    some (false, (1 : Int))
  else
    (p_impl_Ring_isVector r_Table d).bind fun x17 =>
    if (!x17) = true then
      some (false, (2 : Int))
    else
      (p_impl_Ring_isDimension r_Table d).bind fun x25 =>
      some (x25, (0 : Int))

def p_laws_eqInt64S_L1 (a : (List Int)) (b : (List Int)) (k7 : Nat) : Option (Ctl (Unit) (Bool)) :=
  (idx a (k7 : Int)).bind fun x47 =>
  (idx b (k7 : Int)).bind fun x84 =>
  if (x47 != x84) = true then
    some (.ret false)
  else
    some (.next ())

def p_laws_eqInt64S (a : (List Int)) (b : (List Int)) : Option (Bool) :=
  if (((a).length : Int) != ((b).length : Int)) = true then
    some false
  else
    (forN (fun k s => p_laws_eqInt64S_L1 a b k ) (a).length 0 ()).bind fun res5 => onRes res5 (fun r131 => some r131) fun _ =>
    some true

def p_laws_eqInt64SS_L1 (a : (List (List Int))) (b : (List (List Int))) (k7 : Nat) : Option (Ctl (Unit) (Bool)) :=
  (idx a (k7 : Int)).bind fun x47 =>
  (idx b (k7 : Int)).bind fun x84 =>
  (p_laws_eqInt64S x47 x84).bind fun x109 =>
  if (!x109) = true then
    some (.ret false)
  else
    some (.next ())

def p_laws_eqInt64SS (a : (List (List Int))) (b : (List (List Int))) : Option (Bool) :=
  if (((a).length : Int) != ((b).length : Int)) = true then
    some false
  else
    (forN (fun k s => p_laws_eqInt64SS_L1 a b k ) (a).length 0 ()).bind fun res5 => onRes res5 (fun r135 => some r135) fun _ =>
    some true

def p_laws_eqInt64SSS_L1 (a : (List (List (List Int)))) (b : (List (List (List Int)))) (k7 : Nat) : Option (Ctl (Unit) (Bool)) :=
  (idx a (k7 : Int)).bind fun x47 =>
  (idx b (k7 : Int)).bind fun x84 =>
  (p_laws_eqInt64SS x47 x84).bind fun x109 =>
  if (!x109) = true then
    some (.ret false)
  else
    some (.next ())

def p_laws_eqInt64SSS (a : (List (List (List Int)))) (b : (List (List (List Int)))) : Option (Bool) :=
  if (((a).length : Int) != ((b).length : Int)) = true then
    some false
  else
    (forN (fun k s => p_laws_eqInt64SSS_L1 a b k ) (a).length 0 ()).bind fun res5 => onRes res5 (fun r135 => some r135) fun _ =>
    some true

def p_laws_eqRing (a_Table : (List (List (List Int)))) (b_Table : (List (List (List Int)))) : Option (Bool) :=
  (p_laws_eqInt64SSS a_Table b_Table).bind fun x18 =>
  if (!x18) = true then
    some false
  else
    some true

def p_laws_FnExactIsDimension (aR_Table : (List (List (List Int)))) (aD : (List Int)) : Option (Bool) :=
  if (decide (((aD).length : Int) > (1048576 : Int))) = true then
    some true
  else
    (p_laws_szRing aR_Table (1048576 : Int)).bind fun x12 =>
    if (decide (x12 < (0 : Int))) = true then
      some true
    else
      (p_laws_toRing aR_Table).bind fun x21 =>
      (p_laws_toInt64S aD).bind fun x32 =>
      (p_spec_IsDimension x21 x32).bind fun x44 =>
      (p_laws_toRing aR_Table).bind fun x51 =>
      (p_laws_toInt64S aD).bind fun x64 =>
      (p_impl_IsDimension x51 x64).bind fun x71 =>
      if ((x71.1 != x44.1) || (x71.2 != x44.2)) = true then
        some false
      else
        (p_laws_toRing aR_Table).bind fun x113 =>
        (p_laws_eqRing x51 x113).bind fun x133 =>
        if (!x133) = true then
          some false
        else
          (p_laws_toInt64S aD).bind fun x141 =>
          (p_laws_eqInt64S x64 x141).bind fun x148 =>
          if (!x148) = true then
            some false
          else
            some true

def p_spec_l03One (r_Table : (List (List (List Int)))) (i : Int) : Option ((List Int)) :=
  (mkL ((r_Table).length : Int) (0 : Int)).bind fun x10 =>
  (idx x10 i).bind fun x16 =>
  some ((x10).set (i).toNat (1 : Int))

def p_spec_l01Same_L1 (a : (List Int)) (b : (List Int)) (k7 : Nat) : Option (Ctl (Unit) (Bool)) :=
  (idx a (k7 : Int)).bind fun x47 =>
  (idx b (k7 : Int)).bind fun x84 =>
  if (x47 != x84) = true then
    some (.ret false)
  else
    some (.next ())

def p_spec_l01Same (a : (List Int)) (b : (List Int)) : Option (Bool) :=
  if (((a).length : Int) != ((b).length : Int)) = true then
    some false
  else
    (forN (fun k s => p_spec_l01Same_L1 a b k ) (a).length 0 ()).bind fun res5 => onRes res5 (fun r131 => some r131) fun _ =>
    some true

def p_spec_l04Invertible (r_Table : (List (List (List Int)))) (i : Int) : Option (Bool) :=
  (idx r_Table i).bind fun x39 =>
  (p_spec_l03Dual r_Table i).bind fun x83 =>
  (idx x39 x83).bind fun x98 =>
  (p_spec_l03One r_Table (0 : Int)).bind fun x128 =>
  (p_spec_l01Same x98 x128).bind fun x142 =>
  some x142

def p_spec_InvertibleSubring_L1 (r_Table : (List (List (List Int)))) (k19 : Nat) (x20 : Int) : Option (Ctl (Int) (Unit)) :=
  (p_spec_l04Invertible r_Table (k19 : Int)).bind fun x38 =>
  (if x38 = true then
    (shlI .i64 (1 : Int) (IntKind.u64.wrap (k19 : Int))).bind fun x47 =>
    some (orI .i64 x20 x47)
  else
    some x20).bind fun (x44 : Int) =>
  some (.next x44)

def p_spec_InvertibleSubring (r_Table : (List (List (List Int)))) : Option (Int × Int) :=
  (p_spec_l03Is r_Table).bind fun x9 =>
  if (!x9) = true then
    some ((0 : Int), (1 : Int))
  else
    (forN (fun k s => p_spec_InvertibleSubring_L1 r_Table k s) (r_Table).length 0 (0 : Int)).bind fun res17 => onRes res17 (fun r82 => none) fun (x78 : Int) =>
    some (x78, (0 : Int))

def p_impl_Ring_vectorOf (r_Table : (List (List (List Int)))) (i : Int) : Option ((List Int)) :=
  (mkL ((r_Table).length : Int) (0 : Int)).bind fun x10 =>
  (idx x10 i).bind fun x16 =>
  some ((x10).set (i).toNat (1 : Int))

def p_slices_Equal_Lint64_int64_L1 (s1 : (List Int)) (s2 : (List Int)) (k8 : Nat) : Option (Ctl (Unit) (Bool)) :=
  (idx s1 (k8 : Int)).bind fun x48 =>
  (idx s2 (k8 : Int)).bind fun x85 =>
  if (x48 != x85) = true then
    some (.ret false)
  else
    some (.next ())

def p_slices_Equal_Lint64_int64 (s1 : (List Int)) (s2 : (List Int)) : Option (Bool) :=
  if (((s1).length : Int) != ((s2).length : Int)) = true then
    some false
  else
    (forN (fun k s => p_slices_Equal_Lint64_int64_L1 s1 s2 k ) (s1).length 0 ()).bind fun res6 => onRes res6 (fun r133 => some r133) fun _ =>
    some true

def p_impl_Ring_isInvertible (r_Table : (List (List (List Int)))) (i : Int) : Option (Bool) :=
  (idx r_Table i).bind fun x39 =>
  (p_impl_Ring_onlyOf r_Table i).bind fun x78 =>
  (idx x39 x78).bind fun x93 =>
  (p_impl_Ring_vectorOf r_Table (0 : Int)).bind fun x123 =>
  (p_slices_Equal_Lint64_int64 x93 x123).bind fun x137 =>
  some x137

def p_impl_InvertibleLabels_L1 (r_Table : (List (List (List Int)))) (k24 : Nat) (x25 : (List Int)) : Option (Ctl ((List Int)) (Unit)) :=
  (p_impl_Ring_isInvertible r_Table (k24 : Int)).bind fun x43 =>
  (if x43 = true then
    (appL x25 ([(k24 : Int)] : (List Int))).bind fun x56 =>
    some x56
  else
    some x25).bind fun (x49 : (List Int)) =>
  some (.next x49)

def p_impl_InvertibleLabels (r_Table : (List (List (List Int)))) : Option ((List Int) × Int) :=
  (p_impl_IsRing r_Table).bind fun x9 =>
  if (!x9) = true then
    some (([] : (List Int)), (1 : Int))
  else
    (forN (fun k s => p_impl_InvertibleLabels_L1 r_Table k s) (r_Table).length 0 ([] : (List Int))).bind fun res22 => onRes res22 (fun r94 => none) fun (x90 : (List Int)) =>
    some (x90, (0 : Int))

def p_impl_InvertibleSubring_L1 (x9 : (List Int) × Int) (k20 : Nat) (x21 : Int) : Option (Ctl (Int) (Unit)) :=
  (idx x9.1 (k20 : Int)).bind fun x40 =>
  (shlI .i64 (1 : Int) x40).bind fun x47 =>
  some (.next (orI .i64 x21 x47))

def p_impl_InvertibleSubring (r_Table : (List (List (List Int)))) : Option (Int × Int) :=
  (p_impl_InvertibleLabels r_Table).bind fun x9 =>
  (forN (fun k s => p_impl_InvertibleSubring_L1 x9 k s) (x9.1).length 0 (0 : Int)).bind fun res18 => onRes res18 (fun r76 => none) fun (x71 : Int) =>
  some (x71, x9.2)

def p_laws_FnExactInvertibleSubring (aR_Table : (List (List (List Int)))) : Option (Bool) :=
  (p_laws_szRing aR_Table (1048576 : Int)).bind fun x9 =>
  if (decide (x9 < (0 : Int))) = true then
    some true
  else
    (p_laws_toRing aR_Table).bind fun x18 =>
    (p_spec_InvertibleSubring x18).bind fun x29 =>
    (p_laws_toRing aR_Table).bind fun x37 =>
    (p_impl_InvertibleSubring x37).bind fun x50 =>
    if ((x50.1 != x29.1) || (x50.2 != x29.2)) = true then
      some false
    else
      (p_laws_toRing aR_Table).bind fun x91 =>
      (p_laws_eqRing x37 x91).bind fun x109 =>
      if (!x109) = true then
        some false
      else
        some true

def p_spec_InvertibleLabels_L1 (r_Table : (List (List (List Int)))) (k23 : Nat) (x24 : (List Int)) : Option (Ctl ((List Int)) (Unit)) :=
  (p_spec_l04Invertible r_Table (k23 : Int)).bind fun x42 =>
  (if x42 = true then
    (appL x24 ([(k23 : Int)] : (List Int))).bind fun x55 =>
    some x55
  else
    some x24).bind fun (x48 : (List Int)) =>
  some (.next x48)

def p_spec_InvertibleLabels (r_Table : (List (List (List Int)))) : Option ((List Int) × Int) :=
  (p_spec_l03Is r_Table).bind fun x9 =>
  if (!x9) = true then
    some (([] : (List Int)), (1 : Int))
  else
    (forN (fun k s => p_spec_InvertibleLabels_L1 r_Table k s) (r_Table).length 0 ([] : (List Int))).bind fun res21 => onRes res21 (fun r92 => none) fun (x88 : (List Int)) =>
    some (x88, (0 : Int))

def p_spec_IsPointedRing (r_Table : (List (List (List Int)))) : Option (Bool × Int) :=
  (p_spec_InvertibleLabels r_Table).bind fun x9 =>
  if (x9.2 != (0 : Int)) = true then
    some (false, x9.2)
  else
    some ((((x9.1).length : Int) == ((r_Table).length : Int)), (0 : Int))

def p_impl_IsPointedRing (r_Table : (List (List (List Int)))) : Option (Bool × Int) :=
  (p_impl_InvertibleLabels r_Table).bind fun x9 =>
  some (((x9.2 == (0 : Int)) && (((x9.1).length : Int) == ((r_Table).length : Int))), x9.2)

def p_laws_FnExactIsPointedRing (aR_Table : (List (List (List Int)))) : Option (Bool) :=
  (p_laws_szRing aR_Table (1048576 : Int)).bind fun x9 =>
  if (decide (x9 < (0 : Int))) = true then
    some true
  else
    (p_laws_toRing aR_Table).bind fun x18 =>
    (p_spec_IsPointedRing x18).bind fun x29 =>
    (p_laws_toRing aR_Table).bind fun x36 =>
    (p_impl_IsPointedRing x36).bind fun x49 =>
    if ((x49.1 != x29.1) || (x49.2 != x29.2)) = true then
      some false
    else
      (p_laws_toRing aR_Table).bind fun x89 =>
      (p_laws_eqRing x36 x89).bind fun x107 =>
      if (!x107) = true then
        some false
      else
        some true

def p_spec_l03Commutative_L2 (r_Table : (List (List (List Int)))) (k11 : Nat) (k29 : Nat) : Option (Ctl (Unit) (Bool)) :=
  (idx r_Table (k11 : Int)).bind fun x75 =>
  (idx x75 (k29 : Int)).bind fun x105 =>
  (idx r_Table (k29 : Int)).bind fun x149 =>
  (idx x149 (k11 : Int)).bind fun x179 =>
  (p_spec_l01Same x105 x179).bind fun x204 =>
  if (!x204) = true then
    some (.ret false)
  else
    some (.next ())

def p_spec_l03Commutative_L1 (r_Table : (List (List (List Int)))) (k11 : Nat) : Option (Ctl (Unit) (Bool)) :=
  (forN (fun k s => p_spec_l03Commutative_L2 r_Table k11 k ) ((k11 : Int)).toNat 0 ()).bind fun res27 => onRes res27 (fun r231 => some (.ret r231)) fun _ =>
  some (.next ())

def p_spec_l03Commutative (r_Table : (List (List (List Int)))) : Option (Bool) :=
  (forN (fun k s => p_spec_l03Commutative_L1 r_Table k ) (r_Table).length 0 ()).bind fun res9 => onRes res9 (fun r249 => some r249) fun _ =>
  some true

def p_spec_IsCommutativeRing (r_Table : (List (List (List Int)))) : Option (Bool × Int) :=
  (p_spec_l03Is r_Table).bind fun x9 =>
  if (!x9) = true then
    some (false, (1 : Int))
  else
    (p_spec_l03Commutative r_Table).bind fun x17 =>
    some (x17, (0 : Int))

def p_slices_Clone_Lint64_int64 (s1 : (List Int)) : Option ((List Int)) :=
  (appL ([] : (List Int)) s1).bind fun x6 =>
  some x6

def p_impl_Ring_opposite_L2 (r_Table : (List (List (List Int)))) (k23 : Nat) (k50 : Nat) (x51 : (List (List Int))) : Option (Ctl ((List (List Int))) (Unit)) :=
  (idx r_Table (k50 : Int)).bind fun x74 =>
  (idx x74 (k23 : Int)).bind fun x81 =>
  (p_slices_Clone_Lint64_int64 x81).bind fun x88 =>
  (appL x51 [x88]).bind fun x101 =>
  some (.next x101)

def p_impl_Ring_opposite_L1 (r_Table : (List (List (List Int)))) (k23 : Nat) (x24 : (List (List (List Int)))) : Option (Ctl ((List (List (List Int)))) (Unit)) :=
  (forN (fun k s => p_impl_Ring_opposite_L2 r_Table k23 k s) (r_Table).length 0 ([] : (List (List Int)))).bind fun res48 => onRes res48 (fun r154 => none) fun (x131 : (List (List Int))) =>
  (appL x24 [x131]).bind fun x146 =>
  some (.next x146)

def p_impl_Ring_opposite (r_Table : (List (List (List Int)))) : Option ((List (List (List Int)))) :=
  (forN (fun k s => p_impl_Ring_opposite_L1 r_Table k s) (r_Table).length 0 ([] : (List (List (List Int))))).bind fun res21 => onRes res21 (fun r182 => none) fun (x175 : (List (List (List Int)))) =>
  some x175

def p_slices_EqualFunc_LLLint64_LLLint64_LLint64_LLint64_L1 (s1 : (List (List (List Int)))) (s2 : (List (List (List Int)))) (eq : ((List (List Int)) → (List (List Int)) → Option Bool)) (k8 : Nat) : Option (Ctl (Unit) (Bool)) :=
  (idx s1 (k8 : Int)).bind fun x26 =>
  (idx s2 (k8 : Int)).bind fun x33 =>
  (eq x26 x33).bind fun x40 =>
  if (!x40) = true then
    some (.ret false)
  else
    some (.next ())

def p_slices_EqualFunc_LLLint64_LLLint64_LLint64_LLint64 (s1 : (List (List (List Int)))) (s2 : (List (List (List Int)))) (eq : (List (List Int)) → (List (List Int)) → Option Bool) : Option (Bool) :=
  if (((s1).length : Int) != ((s2).length : Int)) = true then
    some false
  else
    (forN (fun k s => p_slices_EqualFunc_LLLint64_LLLint64_LLint64_LLint64_L1 s1 s2 eq k ) (s1).length 0 ()).bind fun res6 => onRes res6 (fun r67 => some r67) fun _ =>
    some true

def p_slices_EqualFunc_LLint64_LLint64_Lint64_Lint64_L1 (s1 : (List (List Int))) (s2 : (List (List Int))) (eq : ((List Int) → (List Int) → Option Bool)) (k8 : Nat) : Option (Ctl (Unit) (Bool)) :=
  (idx s1 (k8 : Int)).bind fun x26 =>
  (idx s2 (k8 : Int)).bind fun x33 =>
  (eq x26 x33).bind fun x40 =>
  if (!x40) = true then
    some (.ret false)
  else
    some (.next ())

def p_slices_EqualFunc_LLint64_LLint64_Lint64_Lint64 (s1 : (List (List Int))) (s2 : (List (List Int))) (eq : (List Int) → (List Int) → Option Bool) : Option (Bool) :=
  if (((s1).length : Int) != ((s2).length : Int)) = true then
    some false
  else
    (forN (fun k s => p_slices_EqualFunc_LLint64_LLint64_Lint64_Lint64_L1 s1 s2 eq k ) (s1).length 0 ()).bind fun res6 => onRes res6 (fun r67 => some r67) fun _ =>
    some true

def p_impl_equalTables_c1 (x : (List (List Int))) (y : (List (List Int))) : Option (Bool) :=
  (p_slices_EqualFunc_LLint64_LLint64_Lint64_Lint64 x y (fun a0_2 a1_2 => p_slices_Equal_Lint64_int64 a0_2 a1_2)).bind fun x5 =>
  some x5

def p_impl_equalTables (a : (List (List (List Int)))) (b : (List (List (List Int)))) : Option (Bool) :=
  (p_slices_EqualFunc_LLLint64_LLLint64_LLint64_LLint64 a b (fun a0_2 a1_2 => p_impl_equalTables_c1 a0_2 a1_2)).bind fun x5 =>
  some x5

def p_impl_Ring_isCommutative (r_Table : (List (List (List Int)))) : Option (Bool) :=
  (p_impl_Ring_opposite r_Table).bind fun x39 =>
  (p_impl_equalTables r_Table x39).bind fun x62 =>
  some x62

def p_impl_IsCommutativeRing (r_Table : (List (List (List Int)))) : Option (Bool × Int) :=
  (p_impl_IsRing r_Table).bind fun x9 =>
  if (!x9) = true then
    some (false, (1 : Int))
  else
    (p_impl_Ring_isCommutative r_Table).bind fun x17 =>
    some (x17, (0 : Int))

def p_laws_FnExactIsCommutativeRing (aR_Table : (List (List (List Int)))) : Option (Bool) :=
  (p_laws_szRing aR_Table (1048576 : Int)).bind fun x9 =>
  if (decide (x9 < (0 : Int))) = true then
    some true
  else
    (p_laws_toRing aR_Table).bind fun x18 =>
    (p_spec_IsCommutativeRing x18).bind fun x29 =>
    (p_laws_toRing aR_Table).bind fun x36 =>
    (p_impl_IsCommutativeRing x36).bind fun x49 =>
    if ((x49.1 != x29.1) || (x49.2 != x29.2)) = true then
      some false
    else
      (p_laws_toRing aR_Table).bind fun x89 =>
      (p_laws_eqRing x36 x89).bind fun x107 =>
      if (!x107) = true then
        some false
      else
        some true

def p_spec_l03Times_L3 (x : (List Int)) (k18 : Nat) (y : (List Int)) (x42 : Int) (r_Table : (List (List (List Int)))) (k85 : Nat) (x86 : (List Int)) : Option (Ctl ((List Int)) (Unit)) :=
  (idx x86 (k85 : Int)).bind fun x145 =>
  (idx x (k18 : Int)).bind fun x182 =>
  (idx y x42).bind fun x219 =>
  (idx r_Table (k18 : Int)).bind fun x273 =>
  (idx x273 x42).bind fun x303 =>
  (idx x303 (k85 : Int)).bind fun x333 =>
  some (.next ((x86).set ((k85 : Int)).toNat (w64 (x145 + (w64 ((w64 (x182 * x219)) * x333))))))

def p_spec_l03Times_L2 (y : (List Int)) (x : (List Int)) (k18 : Nat) (r_Table : (List (List (List Int)))) (x41 : (List Int)) (x42 : Int) : Option (Ctl ((List Int) × Int) (Unit)) :=
  (if (decide (x42 < ((y).length : Int))) = true then
    (idx x (k18 : Int)).bind fun x66 =>
    some (x66 != (0 : Int))
  else
    some false).bind fun (x61 : Bool) =>
  if x61 = true then
    (forN (fun k s => p_spec_l03Times_L3 x k18 y x42 r_Table k s) (x41).length 0 x41).bind fun res83 => onRes res83 (fun r419 => none) fun (x410 : (List Int)) =>
    some (.next (x410, (w64 (x42 + (1 : Int)))))
  else
    some (.brk (x41, x42))

def p_spec_l03Times_L1 (y : (List Int)) (x : (List Int)) (r_Table : (List (List (List Int)))) (k18 : Nat) (x19 : (List Int)) : Option (Ctl ((List Int)) (Unit)) :=
  (whileC (fun s => p_spec_l03Times_L2 y x k18 r_Table s.1 s.2) (x19, (0 : Int))).bind fun res38 => onRes res38 (fun r433 => none) fun (s424p : (List Int) × Int) =>
  some (.next s424p.1)

def p_spec_l03Times (r_Table : (List (List (List Int)))) (x : (List Int)) (y : (List Int)) : Option ((List Int)) :=
  (mkL ((x).length : Int) (0 : Int)).bind fun x10 =>
  (forN (fun k s => p_spec_l03Times_L1 y x r_Table k s) (x).length 0 x10).bind fun res16 => onRes res16 (fun r457 => none) fun (x454 : (List Int)) =>
  some x454

def p_spec_MultiplyVectors (r_Table : (List (List (List Int)))) (x : (List Int)) (y : (List Int)) : Option ((List Int) × Int) :=
  (p_spec_l03Is r_Table).bind fun x9 =>
  if (!x9) = true then
    some (([] : (List Int)), (1 : Int))
  else
    (p_spec_l03Vector r_Table x).bind fun x17 =>
    (if (!x17) = true then
      some true
    else
      (p_spec_l03Vector r_Table y).bind fun x29 =>
      some (!x29)).bind fun (x24 : Bool) =>
    if x24 = true then
      some (([] : (List Int)), (2 : Int))
    else
      (p_spec_l03Times r_Table x y).bind fun x42 =>
      some (x42, (0 : Int))

def p_impl_Ring_product_L3 (x90 : (List Int)) (x39 : Int) (x74 : Int) (k100 : Nat) (x101 : (List Int)) : Option (Ctl ((List Int)) (Unit)) :=
  (idx x90 (k100 : Int)).bind fun x129 =>
  (idx x101 (k100 : Int)).bind fun x136 =>
  some (.next ((x101).set ((k100 : Int)).toNat (w64 (x136 + (w64 ((w64 (x39 * x74)) * x129))))))

def p_impl_Ring_product_L2 (y : (List Int)) (x39 : Int) (r_Table : (List (List (List Int)))) (k19 : Nat) (k49 : Nat) (x50 : (List Int)) : Option (Ctl ((List Int)) (Unit)) :=
  (idx y (k49 : Int)).bind fun x74 =>
  if ((w64 (x39 * x74)) == (0 : Int)) = true then
    some (.next x50)
  else
    (idx r_Table (k19 : Int)).bind fun x83 =>
    (idx x83 (k49 : Int)).bind fun x90 =>
    (forN (fun k s => p_impl_Ring_product_L3 x90 x39 x74 k s) (x90).length 0 x50).bind fun res98 => onRes res98 (fun r187 => none) fun (x174 : (List Int)) =>
    some (.next x174)

def p_impl_Ring_product_L1 (x : (List Int)) (y : (List Int)) (r_Table : (List (List (List Int)))) (k19 : Nat) (x20 : (List Int)) : Option (Ctl ((List Int)) (Unit)) :=
  (idx x (k19 : Int)).bind fun x39 =>
  (forN (fun k s => p_impl_Ring_product_L2 y x39 r_Table k19 k s) (y).length 0 x20).bind fun res47 => onRes res47 (fun r221 => none) fun (x213 : (List Int)) =>
  some (.next x213)

def p_impl_Ring_product (r_Table : (List (List (List Int)))) (x : (List Int)) (y : (List Int)) : Option ((List Int)) :=
  (mkL ((r_Table).length : Int) (0 : Int)).bind fun x10 =>
  (forN (fun k s => p_impl_Ring_product_L1 x y r_Table k s) (x).length 0 x10).bind fun res17 => onRes res17 (fun r245 => none) fun (x242 : (List Int)) =>
  some x242

def p_impl_MultiplyVectors (r_Table : (List (List (List Int)))) (x : (List Int)) (y : (List Int)) : Option ((List Int) × Int) :=
  (p_impl_IsRing r_Table).bind fun x9 =>
  if (!x9) = true then
    some (([] : (List Int)), (1 : Int))
  else
    (p_impl_Ring_isVector r_Table x).bind fun x17 =>
    (if (!x17) = true then
      some true
    else
      (p_impl_Ring_isVector r_Table y).bind fun x29 =>
      some (!x29)).bind fun (x24 : Bool) =>
    if x24 = true then
      some (([] : (List Int)), (2 : Int))
    else
      (p_impl_Ring_product r_Table x y).bind fun x42 =>
      some (x42, (0 : Int))

def p_laws_markInt64S_L1  (k3 : Nat) (x4 : (List Int)) (x5 : Int) : Option (Ctl ((List Int) × Int) (Unit)) :=
  (idx x4 (k3 : Int)).bind fun x24 =>
  some (.next (((x4).set ((k3 : Int)).toNat x5), (w64 (x5 + (1 : Int)))))

def p_laws_markInt64S (a : (List Int)) (k1 : Int) : Option (Int × (List Int)) :=
  (forN (fun k s => p_laws_markInt64S_L1  k s.1 s.2) (a).length 0 (a, k1)).bind fun res1 => onRes res1 (fun r57 => none) fun (s50p : (List Int) × Int) =>
  some (s50p.2, s50p.1)

def p_laws_markInt64SS_L1  (k3 : Nat) (x4 : (List (List Int))) (x5 : Int) : Option (Ctl ((List (List Int)) × Int) (Unit)) :=
  (idx x4 (k3 : Int)).bind fun x24 =>
  (p_laws_markInt64S x24 x5).bind fun x32 =>
  some (.next (((x4).set ((k3 : Int)).toNat x32.2), x32.1))

def p_laws_markInt64SS (a : (List (List Int))) (k1 : Int) : Option (Int × (List (List Int))) :=
  (forN (fun k s => p_laws_markInt64SS_L1  k s.1 s.2) (a).length 0 (a, k1)).bind fun res1 => onRes res1 (fun r67 => none) fun (s60p : (List (List Int)) × Int) =>
  some (s60p.2, s60p.1)

def p_laws_markInt64SSS_L1  (k3 : Nat) (x4 : (List (List (List Int)))) (x5 : Int) : Option (Ctl ((List (List (List Int))) × Int) (Unit)) :=
  (idx x4 (k3 : Int)).bind fun x24 =>
  (p_laws_markInt64SS x24 x5).bind fun x32 =>
  some (.next (((x4).set ((k3 : Int)).toNat x32.2), x32.1))

def p_laws_markInt64SSS (a : (List (List (List Int)))) (k1 : Int) : Option (Int × (List (List (List Int)))) :=
  (forN (fun k s => p_laws_markInt64SSS_L1  k s.1 s.2) (a).length 0 (a, k1)).bind fun res1 => onRes res1 (fun r67 => none) fun (s60p : (List (List (List Int))) × Int) =>
  some (s60p.2, s60p.1)

def p_laws_markRing (a_Table : (List (List (List Int)))) (k1 : Int) : Option (Int × (List (List (List Int)))) :=
  (p_laws_markInt64SSS a_Table k1).bind fun x6 =>
  some (x6.1, x6.2)

def p_laws_heldInt64S_L1 (a : (List Int)) (k3 : Nat) (x4 : Int) : Option (Ctl (Int) (Int)) :=
  (idx a (k3 : Int)).bind fun x22 =>
  if (x22 != x4) = true then
    some (.ret (-1 : Int))
  else
    some (.next (w64 (x4 + (1 : Int))))

def p_laws_heldInt64S (a : (List Int)) (k1 : Int) : Option (Int) :=
  (forN (fun k s => p_laws_heldInt64S_L1 a k s) (a).length 0 k1).bind fun res1 => onRes res1 (fun r54 => some r54) fun (x50 : Int) =>
  some x50

def p_laws_FnExactMultiplyVectors (aR_Table : (List (List (List Int)))) (aX : (List Int)) (aY : (List Int)) : Option (Bool) :=
  if (decide (((aX).length : Int) > (1048576 : Int))) = true then
    some true
  else
    if (decide (((aY).length : Int) > (1048576 : Int))) = true then
      some true
    else
      (p_laws_szRing aR_Table (1048576 : Int)).bind fun x15 =>
      if (decide (x15 < (0 : Int))) = true then
        some true
      else
        (p_laws_toRing aR_Table).bind fun x24 =>
        (p_laws_toInt64S aX).bind fun x35 =>
        (p_laws_toInt64S aY).bind fun x47 =>
        (p_spec_MultiplyVectors x24 x35 x47).bind fun x60 =>
        (p_laws_toRing aR_Table).bind fun x75 =>
        (p_laws_toInt64S aX).bind fun x88 =>
        (p_laws_toInt64S aY).bind fun x95 =>
        (p_impl_MultiplyVectors x75 x88 x95).bind fun x102 =>
        (p_laws_eqInt64S x102.1 x60.1).bind fun x110 =>
        if ((!x110) || (x102.2 != x60.2)) = true then
          some false
        else
          (p_laws_toRing aR_Table).bind fun x157 =>
          (p_laws_eqRing x75 x157).bind fun x185 =>
          if (!x185) = true then
            some false
          else
            (p_laws_toInt64S aX).bind fun x193 =>
            (p_laws_eqInt64S x88 x193).bind fun x200 =>
            if (!x200) = true then
              some false
            else
              (p_laws_toInt64S aY).bind fun x208 =>
              (p_laws_eqInt64S x95 x208).bind fun x215 =>
              if (!x215) = true then
                some false
              else
                (p_laws_markRing x75 (1 : Int)).bind fun x223 =>
                (p_laws_markInt64S x88 x223.1).bind fun x230 =>
                (p_laws_markInt64S x95 x230.1).bind fun x237 =>
                (if (decide (x237.1 < (0 : Int))) = true then
                  some true
                else
                  (p_laws_eqInt64S x102.1 x60.1).bind fun x250 =>
                  some (!x250)).bind fun (x245 : Bool) =>
                if (x245 || (x102.2 != x60.2)) = true then
                  some false
                else
                  (p_laws_markInt64S x102.1 (1 : Int)).bind fun x279 =>
                  (p_laws_heldInt64S x279.2 (1 : Int)).bind fun x286 =>
                  if (decide (x286 < (0 : Int))) = true then
                    some false
                  else
                    if (x286 != x279.1) = true then
                      some false
                    else
                      (p_laws_toRing aR_Table).bind fun x297 =>
                      (p_laws_toInt64S aX).bind fun x304 =>
                      (p_laws_toInt64S aY).bind fun x311 =>
                      (p_impl_MultiplyVectors x297 x304 x311).bind fun x318 =>
                      (p_laws_eqInt64S x318.1 x60.1).bind fun x326 =>
                      if ((!x326) || (x318.2 != x60.2)) = true then
                        some false
                      else
                        (p_laws_heldInt64S x279.2 (1 : Int)).bind fun x342 =>
                        if (decide (x342 < (0 : Int))) = true then
                          some false
                        else
                          if (x342 != x279.1) = true then
                            some false
                          else
                            some true

def p_laws_FnExactInvertibleLabels (aR_Table : (List (List (List Int)))) : Option (Bool) :=
  (p_laws_szRing aR_Table (1048576 : Int)).bind fun x9 =>
  if (decide (x9 < (0 : Int))) = true then
    some true
  else
    (p_laws_toRing aR_Table).bind fun x18 =>
    (p_spec_InvertibleLabels x18).bind fun x29 =>
    (p_laws_toRing aR_Table).bind fun x42 =>
    (p_impl_InvertibleLabels x42).bind fun x55 =>
    (p_laws_eqInt64S x55.1 x29.1).bind fun x63 =>
    if ((!x63) || (x55.2 != x29.2)) = true then
      some false
    else
      (p_laws_toRing aR_Table).bind fun x106 =>
      (p_laws_eqRing x42 x106).bind fun x130 =>
      if (!x130) = true then
        some false
      else
        (p_laws_markRing x42 (1 : Int)).bind fun x138 =>
        (if (decide (x138.1 < (0 : Int))) = true then
          some true
        else
          (p_laws_eqInt64S x55.1 x29.1).bind fun x151 =>
          some (!x151)).bind fun (x146 : Bool) =>
        if (x146 || (x55.2 != x29.2)) = true then
          some false
        else
          (p_laws_markInt64S x55.1 (1 : Int)).bind fun x176 =>
          (p_laws_heldInt64S x176.2 (1 : Int)).bind fun x183 =>
          if (decide (x183 < (0 : Int))) = true then
            some false
          else
            if (x183 != x176.1) = true then
              some false
            else
              (p_laws_toRing aR_Table).bind fun x194 =>
              (p_impl_InvertibleLabels x194).bind fun x201 =>
              (p_laws_eqInt64S x201.1 x29.1).bind fun x209 =>
              if ((!x209) || (x201.2 != x29.2)) = true then
                some false
              else
                (p_laws_heldInt64S x176.2 (1 : Int)).bind fun x225 =>
                if (decide (x225 < (0 : Int))) = true then
                  some false
                else
                  if (x225 != x176.1) = true then
                    some false
                  else
                    some true

def p_spec_l01Own (list : (List Int)) : Option ((List Int)) :=
  (appL ([] : (List Int)) list).bind fun x5 =>
  some x5

def p_spec_l01Own2_L1 (lists : (List (List Int))) (k7 : Nat) (x8 : (List (List Int))) : Option (Ctl ((List (List Int))) (Unit)) :=
  (idx lists (k7 : Int)).bind fun x26 =>
  (p_spec_l01Own x26).bind fun x33 =>
  (appL x8 [x33]).bind fun x46 =>
  some (.next x46)

def p_spec_l01Own2 (lists : (List (List Int))) : Option ((List (List Int))) :=
  (forN (fun k s => p_spec_l01Own2_L1 lists k s) (lists).length 0 ([] : (List (List Int)))).bind fun res5 => onRes res5 (fun r75 => none) fun (x71 : (List (List Int))) =>
  some x71

def p_spec_l03Own_L1 (t : (List (List (List Int)))) (k7 : Nat) (x8 : (List (List (List Int)))) : Option (Ctl ((List (List (List Int)))) (Unit)) :=
  (idx t (k7 : Int)).bind fun x26 =>
  (p_spec_l01Own2 x26).bind fun x33 =>
  (appL x8 [x33]).bind fun x46 =>
  some (.next x46)

def p_spec_l03Own (t : (List (List (List Int)))) : Option ((List (List (List Int)))) :=
  (forN (fun k s => p_spec_l03Own_L1 t k s) (t).length 0 ([] : (List (List (List Int))))).bind fun res5 => onRes res5 (fun r75 => none) fun (x71 : (List (List (List Int)))) =>
  some x71

def p_impl_OppositeRing (r_Table : (List (List (List Int)))) : Option ((List (List (List Int))) × Int) :=
  (p_impl_IsRing r_Table).bind fun x13 =>
  if (!x13) = true then
    some (([] : (List (List (List Int)))), (1 : Int))
  else
    (p_impl_Ring_opposite r_Table).bind fun x24 =>
    some (x24, (0 : Int))

def p_laws_heldInt64SS_L1 (a : (List (List Int))) (k3 : Nat) (x4 : Int) : Option (Ctl (Int) (Int)) :=
  (idx a (k3 : Int)).bind fun x22 =>
  (p_laws_heldInt64S x22 x4).bind fun x29 =>
  if (decide (x29 < (0 : Int))) = true then
    some (.ret (-1 : Int))
  else
    some (.next x29)

def p_laws_heldInt64SS (a : (List (List Int))) (k1 : Int) : Option (Int) :=
  (forN (fun k s => p_laws_heldInt64SS_L1 a k s) (a).length 0 k1).bind fun res1 => onRes res1 (fun r61 => some r61) fun (x57 : Int) =>
  some x57

def p_laws_heldInt64SSS_L1 (a : (List (List (List Int)))) (k3 : Nat) (x4 : Int) : Option (Ctl (Int) (Int)) :=
  (idx a (k3 : Int)).bind fun x22 =>
  (p_laws_heldInt64SS x22 x4).bind fun x29 =>
  if (decide (x29 < (0 : Int))) = true then
    some (.ret (-1 : Int))
  else
    some (.next x29)

def p_laws_heldInt64SSS (a : (List (List (List Int)))) (k1 : Int) : Option (Int) :=
  (forN (fun k s => p_laws_heldInt64SSS_L1 a k s) (a).length 0 k1).bind fun res1 => onRes res1 (fun r61 => some r61) fun (x57 : Int) =>
  some x57

def p_laws_heldRing (a_Table : (List (List (List Int)))) (k1 : Int) : Option (Int) :=
  (p_laws_heldInt64SSS a_Table k1).bind fun x9 =>
  if (decide (x9 < (0 : Int))) = true then
    some (-1 : Int)
  else
    some x9

def p_spec_l03Label (r_Table : (List (List (List Int)))) (i : Int) : Option (Bool) :=
  (p_spec_l01In i (0 : Int) (w64 (((r_Table).length : Int) - (1 : Int)))).bind fun x10 =>
  some x10

def p_spec_PowerOfLabel_L2 (x122 : (List Int)) (k131 : Nat) : Option (Ctl (Unit) ((List Int) × Int)) :=
  (idx x122 (k131 : Int)).bind fun x150 =>
  if (decide (x150 > (1000000000 : Int))) = true then
    some (.ret (([] : (List Int)), (3 : Int)))
  else
    some (.next ())

def p_spec_PowerOfLabel_L1 (r_Table : (List (List (List Int)))) (x93 : (List Int)) (x103 : (List Int)) (x104 : Int) : Option (Ctl ((List Int) × Int) ((List Int) × Int)) :=
  if (decide (x104 > (0 : Int))) = true then
    (p_spec_l03Times r_Table x103 x93).bind fun x122 =>
    (forN (fun k s => p_spec_PowerOfLabel_L2 x122 k ) (x122).length 0 ()).bind fun res129 => onRes res129 (fun r183 => some (.ret r183)) fun _ =>
    some (.next (x122, (w64 (x104 - (1 : Int)))))
  else
    some (.brk (x103, x104))

def p_spec_PowerOfLabel (r_Table : (List (List (List Int)))) (i : Int) (k1 : Int) : Option ((List Int) × Int) :=
  (p_spec_l03Is r_Table).bind fun x9 =>
  if (!x9) = true then
    some (([] : (List Int)), (1 : Int))
  else
    (p_spec_l03Label r_Table i).bind fun x17 =>
    (if (!x17) = true then
      some true
    else
      (p_spec_l01In k1 (0 : Int) (40 : Int)).bind fun x29 =>
      some (!x29)).bind fun (x24 : Bool) =>
    if x24 = true then
      some (([] : (List Int)), (2 : Int))
    else
      (p_spec_l03One r_Table (0 : Int)).bind fun x58 =>
      (p_spec_l03One r_Table i).bind fun x93 =>
      (whileC (fun s => p_spec_PowerOfLabel_L1 r_Table x93 s.1 s.2) (x58, k1)).bind fun res100 => onRes res100 (fun r194 => some r194) fun (s188p : (List Int) × Int) =>
      some (s188p.1, (0 : Int))

def p_impl_Ring_isLabel (r_Table : (List (List (List Int)))) (i : Int) : Option (Bool) :=
  (p_impl_within i (0 : Int) (w64 (((r_Table).length : Int) - (1 : Int)))).bind fun x10 =>
  some x10

def p_slices_Max_Lint64_int64_L1 (x : (List Int)) (k18 : Nat) (x19 : Int) : Option (Ctl (Int) (Unit)) :=
  (idx x ((1 : Int) + (k18 : Int))).bind fun x37 =>
  some (.next (if x37 > x19 then x37 else x19))

def p_slices_Max_Lint64_int64 (x : (List Int)) : Option (Int) :=
  (if (decide (((x).length : Int) < (1 : Int))) = true then
    none
  else
    some ()).bind fun (_ : Unit) =>
  (idx x (0 : Int)).bind fun x9 =>
  (forN (fun k s => p_slices_Max_Lint64_int64_L1 x k s) (((x).length : Int) - (1 : Int)).toNat 0 x9).bind fun res16 => onRes res16 (fun r67 => none) fun (x63 : Int) =>
  some x63

def p_impl_PowerOfLabel_L1 (r_Table : (List (List (List Int)))) (i : Int) (k51 : Nat) (x52 : (List Int)) : Option (Ctl ((List Int)) ((List Int) × Int)) :=
  (p_impl_Ring_vectorOf r_Table i).bind fun x110 =>
  (p_impl_Ring_product r_Table x52 x110).bind fun x131 =>
  (p_slices_Max_Lint64_int64 x131).bind fun x138 =>
  if (decide (x138 > (1000000000 : Int))) = true then
    some (.ret (([] : (List Int)), (3 : Int)))
  else
    some (.next x131)

def p_impl_PowerOfLabel (r_Table : (List (List (List Int)))) (i : Int) (k1 : Int) : Option ((List Int) × Int) :=
  (p_impl_IsRing r_Table).bind fun x9 =>
  if (!x9) = true then
    some (([] : (List Int)), (1 : Int))
  else
    (p_impl_Ring_isLabel r_Table i).bind fun x17 =>
    (if (!x17) = true then
      some true
    else
      (p_impl_within k1 (0 : Int) (40 : Int)).bind fun x29 =>
      some (!x29)).bind fun (x24 : Bool) =>
    if x24 = true then
      some (([] : (List Int)), (2 : Int))
    else
      (p_impl_Ring_vectorOf r_Table (0 : Int)).bind fun x42 =>
      (forN (fun k s => p_impl_PowerOfLabel_L1 r_Table i k s) (k1).toNat 0 x42).bind fun res49 => onRes res49 (fun r171 => some r171) fun (x167 : (List Int)) =>
      some (x167, (0 : Int))

def p_laws_FnExactPowerOfLabel (aR_Table : (List (List (List Int)))) (aI : Int) (aK : Int) : Option (Bool) :=
  (p_laws_szRing aR_Table (1048576 : Int)).bind fun x9 =>
  if (decide (x9 < (0 : Int))) = true then
    some true
  else
    (p_laws_toRing aR_Table).bind fun x18 =>
    (p_spec_PowerOfLabel x18 aI aK).bind fun x29 =>
    (p_laws_toRing aR_Table).bind fun x42 =>
    (p_impl_PowerOfLabel x42 aI aK).bind fun x55 =>
    (p_laws_eqInt64S x55.1 x29.1).bind fun x63 =>
    if ((!x63) || (x55.2 != x29.2)) = true then
      some false
    else
      (p_laws_toRing aR_Table).bind fun x108 =>
      (p_laws_eqRing x42 x108).bind fun x134 =>
      if (!x134) = true then
        some false
      else
        (p_laws_markRing x42 (1 : Int)).bind fun x142 =>
        (if (decide (x142.1 < (0 : Int))) = true then
          some true
        else
          (p_laws_eqInt64S x55.1 x29.1).bind fun x155 =>
          some (!x155)).bind fun (x150 : Bool) =>
        if (x150 || (x55.2 != x29.2)) = true then
          some false
        else
          (p_laws_markInt64S x55.1 (1 : Int)).bind fun x184 =>
          (p_laws_heldInt64S x184.2 (1 : Int)).bind fun x191 =>
          if (decide (x191 < (0 : Int))) = true then
            some false
          else
            if (x191 != x184.1) = true then
              some false
            else
              (p_laws_toRing aR_Table).bind fun x202 =>
              (p_impl_PowerOfLabel x202 aI aK).bind fun x209 =>
              (p_laws_eqInt64S x209.1 x29.1).bind fun x217 =>
              if ((!x217) || (x209.2 != x29.2)) = true then
                some false
              else
                (p_laws_heldInt64S x184.2 (1 : Int)).bind fun x233 =>
                if (decide (x233 < (0 : Int))) = true then
                  some false
                else
                  if (x233 != x184.1) = true then
                    some false
                  else
                    some true

end
end Go.VG
