/- The functions' plain twins, as a program of ours printed them. No proof. -/
import Derived.Test.YtlcedidbkhedjaaVgPure
set_option linter.all false
namespace Go.VG
noncomputable section

def p_laws_szInt64S (a : (List Int)) (left : Int) : Option (Int) :=
  if (decide ((w64 (left - ((a).length : Int))) < (0 : Int))) = true then
    some (-1 : Int)
  else
    some (w64 (left - ((a).length : Int)))

def p_laws_szInt64SS_L1 (a : (List (List Int))) (k6 : Nat) (x7 : Int) : Option (Ctl (Int) (Int)) :=
  (idx a (k6 : Int)).bind fun x25 =>
  (p_laws_szInt64S x25 x7).bind fun x32 =>
  if (decide (x32 < (0 : Int))) = true then
    some (.ret (-1 : Int))
  else
    some (.next x32)

def p_laws_szInt64SS (a : (List (List Int))) (left : Int) : Option (Int) :=
  if (decide ((w64 (left - ((a).length : Int))) < (0 : Int))) = true then
    some (-1 : Int)
  else
    (forN (fun k s => p_laws_szInt64SS_L1 a k s) (a).length 0 (w64 (left - ((a).length : Int)))).bind fun res4 => onRes res4 (fun r64 => some r64) fun (x60 : Int) =>
    some x60

def p_laws_szInt64SSS_L1 (a : (List (List (List Int)))) (k6 : Nat) (x7 : Int) : Option (Ctl (Int) (Int)) :=
  (idx a (k6 : Int)).bind fun x25 =>
  (p_laws_szInt64SS x25 x7).bind fun x32 =>
  if (decide (x32 < (0 : Int))) = true then
    some (.ret (-1 : Int))
  else
    some (.next x32)

def p_laws_szInt64SSS (a : (List (List (List Int)))) (left : Int) : Option (Int) :=
  if (decide ((w64 (left - ((a).length : Int))) < (0 : Int))) = true then
    some (-1 : Int)
  else
    (forN (fun k s => p_laws_szInt64SSS_L1 a k s) (a).length 0 (w64 (left - ((a).length : Int)))).bind fun res4 => onRes res4 (fun r64 => some r64) fun (x60 : Int) =>
    some x60

def p_laws_szRing (a_Table : (List (List (List Int)))) (left : Int) : Option (Int) :=
  (p_laws_szInt64SSS a_Table left).bind fun x9 =>
  if (decide (x9 < (0 : Int))) = true then
    some (-1 : Int)
  else
    some x9

def p_laws_toInt64S_L1 (a : (List Int)) (k10 : Nat) (x11 : (List Int)) : Option (Ctl ((List Int)) (Unit)) :=
  (idx a (k10 : Int)).bind fun x28 =>
  (idx x11 (k10 : Int)).bind fun x35 =>
  some (.next ((x11).set ((k10 : Int)).toNat x28))

def p_laws_toInt64S (a : (List Int)) : Option ((List Int)) :=
  (mkL ((a).length : Int) (0 : Int)).bind fun x2 =>
  (forN (fun k s => p_laws_toInt64S_L1 a k s) (a).length 0 x2).bind fun res8 => onRes res8 (fun r62 => none) fun (x59 : (List Int)) =>
  some x59

def p_laws_toInt64SS_L1 (a : (List (List Int))) (k10 : Nat) (x11 : (List (List Int))) : Option (Ctl ((List (List Int))) (Unit)) :=
  (idx a (k10 : Int)).bind fun x28 =>
  (p_laws_toInt64S x28).bind fun x35 =>
  (idx x11 (k10 : Int)).bind fun x42 =>
  some (.next ((x11).set ((k10 : Int)).toNat x35))

def p_laws_toInt64SS (a : (List (List Int))) : Option ((List (List Int))) :=
  (mkL ((a).length : Int) ([] : (List Int))).bind fun x2 =>
  (forN (fun k s => p_laws_toInt64SS_L1 a k s) (a).length 0 x2).bind fun res8 => onRes res8 (fun r69 => none) fun (x66 : (List (List Int))) =>
  some x66

def p_laws_toInt64SSS_L1 (a : (List (List (List Int)))) (k10 : Nat) (x11 : (List (List (List Int)))) : Option (Ctl ((List (List (List Int)))) (Unit)) :=
  (idx a (k10 : Int)).bind fun x28 =>
  (p_laws_toInt64SS x28).bind fun x35 =>
  (idx x11 (k10 : Int)).bind fun x42 =>
  some (.next ((x11).set ((k10 : Int)).toNat x35))

def p_laws_toInt64SSS (a : (List (List (List Int)))) : Option ((List (List (List Int)))) :=
  (mkL ((a).length : Int) ([] : (List (List Int)))).bind fun x2 =>
  (forN (fun k s => p_laws_toInt64SSS_L1 a k s) (a).length 0 x2).bind fun res8 => onRes res8 (fun r69 => none) fun (x66 : (List (List (List Int)))) =>
  some x66

def p_laws_toRing (a_Table : (List (List (List Int)))) : Option ((List (List (List Int)))) :=
  (p_laws_toInt64SSS a_Table).bind fun x17 =>
  some x17

def p_spec_l01In (n : Int) (low : Int) (high : Int) : Option (Bool) :=
  some ((decide (n ≥ low)) && (decide (n ≤ high)))

def p_spec_l03Cube_L3 (x62 : (List Int)) (k74 : Nat) : Option (Ctl (Unit) (Bool)) :=
  (idx x62 (k74 : Int)).bind fun x98 =>
  (p_spec_l01In x98 (0 : Int) (1000 : Int)).bind fun x105 =>
  if (!x105) = true then
    some (.ret false)
  else
    some (.next ())

def p_spec_l03Cube_L2 (x30 : (List (List Int))) (t : (List (List (List Int)))) (k42 : Nat) : Option (Ctl (Unit) (Bool)) :=
  (idx x30 (k42 : Int)).bind fun x62 =>
  if (((x62).length : Int) != ((t).length : Int)) = true then
    some (.ret false)
  else
    (forN (fun k s => p_spec_l03Cube_L3 x62 k ) (t).length 0 ()).bind fun res72 => onRes res72 (fun r136 => some (.ret r136)) fun _ =>
    some (.next ())

def p_spec_l03Cube_L1 (t : (List (List (List Int)))) (k14 : Nat) : Option (Ctl (Unit) (Bool)) :=
  (idx t (k14 : Int)).bind fun x30 =>
  if (((x30).length : Int) != ((t).length : Int)) = true then
    some (.ret false)
  else
    (forN (fun k s => p_spec_l03Cube_L2 x30 t k ) (t).length 0 ()).bind fun res40 => onRes res40 (fun r158 => some (.ret r158)) fun _ =>
    some (.next ())

def p_spec_l03Cube (t : (List (List (List Int)))) : Option (Bool) :=
  if ((decide (((t).length : Int) < (1 : Int))) || (decide (((t).length : Int) > (16 : Int)))) = true then
    some false
  else
    (forN (fun k s => p_spec_l03Cube_L1 t k ) (t).length 0 ()).bind fun res12 => onRes res12 (fun r176 => some r176) fun _ =>
    some true

def p_spec_l03Dual_L1 (t : (List (List (List Int)))) (i : Int) (k3 : Nat) (x4 : Int) : Option (Ctl (Int) (Int)) :=
  (idx t i).bind fun x23 =>
  (idx x23 (k3 : Int)).bind fun x30 =>
  (idx x30 (0 : Int)).bind fun x37 =>
  if ((x37 == (1 : Int)) && (decide (x4 < (0 : Int)))) = true then
    some (.next (k3 : Int))
  else
    if (x37 != (0 : Int)) = true then
      some (.ret (-1 : Int))
    else
      some (.next x4)

def p_spec_l03Dual (t : (List (List (List Int)))) (i : Int) : Option (Int) :=
  (forN (fun k s => p_spec_l03Dual_L1 t i k s) (t).length 0 (-1 : Int)).bind fun res1 => onRes res1 (fun r91 => some r91) fun (x87 : Int) =>
  some x87

def p_spec_l03Fault_L2 (k4 : Nat) (t : (List (List (List Int)))) (k22 : Nat) : Option (Ctl (Unit) ((List Int))) :=
  (if ((k4 : Int) == (k22 : Int)) = true then
    some (1 : Int)
  else
    some (0 : Int)).bind fun (x39 : Int) =>
  (idx t (0 : Int)).bind fun x52 =>
  (idx x52 (k4 : Int)).bind fun x59 =>
  (idx x59 (k22 : Int)).bind fun x66 =>
  (if (x66 != x39) = true then
    some true
  else
    (idx t (k4 : Int)).bind fun x79 =>
    (idx x79 (0 : Int)).bind fun x86 =>
    (idx x86 (k22 : Int)).bind fun x93 =>
    some (x93 != x39)).bind fun (x74 : Bool) =>
  if x74 = true then
    some (.ret ([(0 : Int), (k4 : Int), (k22 : Int)] : (List Int)))
  else
    some (.next ())

def p_spec_l03Fault_L1 (t : (List (List (List Int)))) (k4 : Nat) : Option (Ctl (Unit) ((List Int))) :=
  (forN (fun k s => p_spec_l03Fault_L2 k4 t k ) (t).length 0 ()).bind fun res20 => onRes res20 (fun r133 => some (.ret r133)) fun _ =>
  some (.next ())

def p_spec_l03Fault_L3 (t : (List (List (List Int)))) (k159 : Nat) (x160 : (List Int)) : Option (Ctl ((List Int)) (Unit)) :=
  (p_spec_l03Dual t (k159 : Int)).bind fun x178 =>
  (appL x160 ([x178] : (List Int))).bind fun x189 =>
  some (.next x189)

def p_spec_l03Fault_L4 (x214 : (List Int)) (k222 : Nat) : Option (Ctl (Unit) ((List Int))) :=
  (idx x214 (k222 : Int)).bind fun x239 =>
  (if (decide (x239 < (0 : Int))) = true then
    some true
  else
    (idx x214 x239).bind fun x255 =>
    some (x255 != (k222 : Int))).bind fun (x247 : Bool) =>
  if x247 = true then
    some (.ret ([(1 : Int), (k222 : Int)] : (List Int)))
  else
    some (.next ())

def p_spec_l03Fault_L7 (t : (List (List (List Int)))) (k297 : Nat) (k316 : Nat) (x214 : (List Int)) (k336 : Nat) : Option (Ctl (Unit) ((List Int))) :=
  (idx t (k297 : Int)).bind fun x384 =>
  (idx x384 (k316 : Int)).bind fun x423 =>
  (idx x423 (k336 : Int)).bind fun x462 =>
  (idx x214 (k297 : Int)).bind fun x515 =>
  (idx t x515).bind fun x547 =>
  (idx x547 (k336 : Int)).bind fun x586 =>
  (idx x586 (k316 : Int)).bind fun x625 =>
  (if (x462 != x625) = true then
    some true
  else
    (idx t (k336 : Int)).bind fun x1110 =>
    (idx x214 (k316 : Int)).bind fun x1172 =>
    (idx x1110 x1172).bind fun x1212 =>
    (idx x1212 (k297 : Int)).bind fun x1263 =>
    some (x462 != x1263)).bind fun (x668 : Bool) =>
  if x668 = true then
    some (.ret ([(2 : Int), (k297 : Int), (k316 : Int), (k336 : Int)] : (List Int)))
  else
    some (.next ())

def p_spec_l03Fault_L6 (t : (List (List (List Int)))) (k297 : Nat) (x214 : (List Int)) (k316 : Nat) : Option (Ctl (Unit) ((List Int))) :=
  (forN (fun k s => p_spec_l03Fault_L7 t k297 k316 x214 k ) (t).length 0 ()).bind fun res334 => onRes res334 (fun r1374 => some (.ret r1374)) fun _ =>
  some (.next ())

def p_spec_l03Fault_L5 (t : (List (List (List Int)))) (x214 : (List Int)) (k297 : Nat) : Option (Ctl (Unit) ((List Int))) :=
  (forN (fun k s => p_spec_l03Fault_L6 t k297 x214 k ) (t).length 0 ()).bind fun res314 => onRes res314 (fun r1398 => some (.ret r1398)) fun _ =>
  some (.next ())

def p_spec_l03Fault_L12 (t : (List (List (List Int)))) (k1421 : Nat) (k1439 : Nat) (k1458 : Nat) (k1478 : Nat) (k1499 : Nat) (x1500 : Int) (x1501 : Int) : Option (Ctl (Int × Int) (Unit)) :=
  (idx t (k1421 : Int)).bind fun x1561 =>
  (idx x1561 (k1439 : Int)).bind fun x1600 =>
  (idx x1600 (k1499 : Int)).bind fun x1639 =>
  (idx t (k1499 : Int)).bind fun x1685 =>
  (idx x1685 (k1458 : Int)).bind fun x1724 =>
  (idx x1724 (k1478 : Int)).bind fun x1763 =>
  (idx t (k1439 : Int)).bind fun x1853 =>
  (idx x1853 (k1458 : Int)).bind fun x1892 =>
  (idx x1892 (k1499 : Int)).bind fun x1931 =>
  (idx x1561 (k1499 : Int)).bind fun x2012 =>
  (idx x2012 (k1478 : Int)).bind fun x2051 =>
  some (.next ((w64 (x1500 + (w64 (x1639 * x1763)))), (w64 (x1501 + (w64 (x1931 * x2051))))))

def p_spec_l03Fault_L11 (t : (List (List (List Int)))) (k1421 : Nat) (k1439 : Nat) (k1458 : Nat) (k1478 : Nat) : Option (Ctl (Unit) ((List Int))) :=
  (forN (fun k s => p_spec_l03Fault_L12 t k1421 k1439 k1458 k1478 k s.1 s.2) (t).length 0 ((0 : Int), (0 : Int))).bind fun res1497 => onRes res1497 (fun r2150 => none) fun (s2130p : Int × Int) =>
  if (s2130p.1 != s2130p.2) = true then
    some (.ret ([(3 : Int), (k1421 : Int), (k1439 : Int), (k1458 : Int), (k1478 : Int)] : (List Int)))
  else
    some (.next ())

def p_spec_l03Fault_L10 (t : (List (List (List Int)))) (k1421 : Nat) (k1439 : Nat) (k1458 : Nat) : Option (Ctl (Unit) ((List Int))) :=
  (forN (fun k s => p_spec_l03Fault_L11 t k1421 k1439 k1458 k ) (t).length 0 ()).bind fun res1476 => onRes res1476 (fun r2176 => some (.ret r2176)) fun _ =>
  some (.next ())

def p_spec_l03Fault_L9 (t : (List (List (List Int)))) (k1421 : Nat) (k1439 : Nat) : Option (Ctl (Unit) ((List Int))) :=
  (forN (fun k s => p_spec_l03Fault_L10 t k1421 k1439 k ) (t).length 0 ()).bind fun res1456 => onRes res1456 (fun r2200 => some (.ret r2200)) fun _ =>
  some (.next ())

def p_spec_l03Fault_L8 (t : (List (List (List Int)))) (k1421 : Nat) : Option (Ctl (Unit) ((List Int))) :=
  (forN (fun k s => p_spec_l03Fault_L9 t k1421 k ) (t).length 0 ()).bind fun res1437 => onRes res1437 (fun r2222 => some (.ret r2222)) fun _ =>
  some (.next ())

def p_spec_l03Fault (t : (List (List (List Int)))) : Option ((List Int)) :=
  (forN (fun k s => p_spec_l03Fault_L1 t k ) (t).length 0 ()).bind fun res2 => onRes res2 (fun r2244 => some r2244) fun _ =>
  (forN (fun k s => p_spec_l03Fault_L3 t k s) (t).length 0 ([] : (List Int))).bind fun res157 => onRes res157 (fun r2243 => none) fun (x214 : (List Int)) =>
  (forN (fun k s => p_spec_l03Fault_L4 x214 k ) (t).length 0 ()).bind fun res220 => onRes res220 (fun r2242 => some r2242) fun _ =>
  (forN (fun k s => p_spec_l03Fault_L5 t x214 k ) (t).length 0 ()).bind fun res295 => onRes res295 (fun r2241 => some r2241) fun _ =>
  (forN (fun k s => p_spec_l03Fault_L8 t k ) (t).length 0 ()).bind fun res1419 => onRes res1419 (fun r2240 => some r2240) fun _ =>
  some ([] : (List Int))

def p_spec_l03Is (r_Table : (List (List (List Int)))) : Option (Bool) :=
  (p_spec_l03Cube r_Table).bind fun x9 =>
  (if x9 = true then
    (p_spec_l03Fault r_Table).bind fun x21 =>
    some (((x21).length : Int) == (0 : Int))
  else
    some false).bind fun (x16 : Bool) =>
  some x16

def p_impl_within (n : Int) (low : Int) (high : Int) : Option (Bool) :=
  some ((decide (n ≥ low)) && (decide (n ≤ high)))

def p_impl_allWithin_c1 (n : Int) (c0 : Int) (c1 : Int) : Option (Bool) :=
  (p_impl_within n c0 c1).bind fun x1 =>
  some (!x1)

def p_slices_IndexFunc_Lint64_int64_L1 (s1 : (List Int)) (f1 : (Int → Option Bool)) (k4 : Nat) : Option (Ctl (Unit) (Int)) :=
  (idx s1 (k4 : Int)).bind fun x21 =>
  (f1 x21).bind fun x28 =>
  if x28 = true then
    some (.ret (k4 : Int))
  else
    some (.next ())

def p_slices_IndexFunc_Lint64_int64 (s1 : (List Int)) (f1 : Int → Option Bool) : Option (Int) :=
  (forN (fun k s => p_slices_IndexFunc_Lint64_int64_L1 s1 f1 k ) (s1).length 0 ()).bind fun res2 => onRes res2 (fun r54 => some r54) fun _ =>
  some (-1 : Int)

def p_slices_ContainsFunc_Lint64_int64 (s1 : (List Int)) (f1 : Int → Option Bool) : Option (Bool) :=
  (p_slices_IndexFunc_Lint64_int64 s1 f1).bind fun x1 =>
  some (decide (x1 ≥ (0 : Int)))

def p_impl_allWithin (list : (List Int)) (low : Int) (high : Int) : Option (Bool) :=
  (p_slices_ContainsFunc_Lint64_int64 list (fun a0_19 => p_impl_allWithin_c1 a0_19 low high)).bind fun x22 =>
  some (!x22)

def p_impl_isCube_c1 (row : (List Int)) (c0 : Int) : Option (Bool) :=
  (if (((row).length : Int) != c0) = true then
    some true
  else
    (p_impl_allWithin row (0 : Int) (1000 : Int)).bind fun x8 =>
    some (!x8)).bind fun (x3 : Bool) =>
  some x3

def p_slices_IndexFunc_LLint64_Lint64_L1 (s1 : (List (List Int))) (f1 : ((List Int) → Option Bool)) (k4 : Nat) : Option (Ctl (Unit) (Int)) :=
  (idx s1 (k4 : Int)).bind fun x21 =>
  (f1 x21).bind fun x28 =>
  if x28 = true then
    some (.ret (k4 : Int))
  else
    some (.next ())

def p_slices_IndexFunc_LLint64_Lint64 (s1 : (List (List Int))) (f1 : (List Int) → Option Bool) : Option (Int) :=
  (forN (fun k s => p_slices_IndexFunc_LLint64_Lint64_L1 s1 f1 k ) (s1).length 0 ()).bind fun res2 => onRes res2 (fun r54 => some r54) fun _ =>
  some (-1 : Int)

def p_slices_ContainsFunc_LLint64_Lint64 (s1 : (List (List Int))) (f1 : (List Int) → Option Bool) : Option (Bool) :=
  (p_slices_IndexFunc_LLint64_Lint64 s1 f1).bind fun x1 =>
  some (decide (x1 ≥ (0 : Int)))

def p_impl_isCube_L1 (r_Table : (List (List (List Int)))) (k19 : Nat) : Option (Ctl (Unit) (Bool)) :=
  (idx r_Table (k19 : Int)).bind fun x36 =>
  (if (((x36).length : Int) != ((r_Table).length : Int)) = true then
    some true
  else
    (p_slices_ContainsFunc_LLint64_Lint64 x36 (fun a0_51 => p_impl_isCube_c1 a0_51 ((r_Table).length : Int))).bind fun x54 =>
    some x54).bind fun (x45 : Bool) =>
  if x45 = true then
    some (.ret false)
  else
    some (.next ())

def p_impl_isCube (r_Table : (List (List (List Int)))) : Option (Bool) :=
  (forN (fun k s => p_impl_isCube_L1 r_Table k ) (r_Table).length 0 ()).bind fun res17 => onRes res17 (fun r93 => some r93) fun _ =>
  some ((decide (((r_Table).length : Int) ≥ (1 : Int))) && (decide (((r_Table).length : Int) ≤ (16 : Int))))

def p_impl_delta (i : Int) (k1 : Int) : Option (Int) :=
  if (i == k1) = true then
    some (1 : Int)
  else
    some (0 : Int)

def p_impl_Ring_unitFault_L2 (r_Table : (List (List (List Int)))) (k12 : Nat) (k31 : Nat) : Option (Ctl (Unit) ((List Int))) :=
  (idx r_Table (0 : Int)).bind fun x77 =>
  (idx x77 (k12 : Int)).bind fun x116 =>
  (idx x116 (k31 : Int)).bind fun x155 =>
  (p_impl_delta (k12 : Int) (k31 : Int)).bind fun x202 =>
  (if (x155 != x202) = true then
    some true
  else
    (idx r_Table (k12 : Int)).bind fun x439 =>
    (idx x439 (0 : Int)).bind fun x474 =>
    (idx x474 (k31 : Int)).bind fun x525 =>
    (p_impl_delta (k12 : Int) (k31 : Int)).bind fun x588 =>
    some (x525 != x588)).bind fun (x234 : Bool) =>
  if x234 = true then
    some (.ret ([(0 : Int), (k12 : Int), (k31 : Int)] : (List Int)))
  else
    some (.next ())

def p_impl_Ring_unitFault_L1 (r_Table : (List (List (List Int)))) (k12 : Nat) : Option (Ctl (Unit) ((List Int))) :=
  (forN (fun k s => p_impl_Ring_unitFault_L2 r_Table k12 k ) (r_Table).length 0 ()).bind fun res29 => onRes res29 (fun r671 => some (.ret r671)) fun _ =>
  some (.next ())

def p_impl_Ring_unitFault (r_Table : (List (List (List Int)))) : Option ((List Int)) :=
  (forN (fun k s => p_impl_Ring_unitFault_L1 r_Table k ) (r_Table).length 0 ()).bind fun res10 => onRes res10 (fun r689 => some r689) fun _ =>
  some ([] : (List Int))

def p_impl_Ring_onlyOf_L1 (x9 : (List (List Int))) (k19 : Nat) (x20 : Int) : Option (Ctl (Int) (Int)) :=
  (idx x9 (k19 : Int)).bind fun x38 =>
  (idx x38 (0 : Int)).bind fun x45 =>
  if (x45 == (0 : Int)) = true then
    some (.next x20)
  else
    if ((decide (x20 ≥ (0 : Int))) || (x45 != (1 : Int))) = true then
      some (.ret (-1 : Int))
    else
      some (.next (k19 : Int))

def p_impl_Ring_onlyOf (r_Table : (List (List (List Int)))) (i : Int) : Option (Int) :=
  (idx r_Table i).bind fun x9 =>
  (forN (fun k s => p_impl_Ring_onlyOf_L1 x9 k s) (x9).length 0 (-1 : Int)).bind fun res17 => onRes res17 (fun r92 => some r92) fun (x88 : Int) =>
  some x88

def p_impl_Ring_dualFault_L1 (r_Table : (List (List (List Int)))) (k12 : Nat) : Option (Ctl (Unit) (Int)) :=
  (p_impl_Ring_onlyOf r_Table (k12 : Int)).bind fun x28 =>
  (if (decide (x28 < (0 : Int))) = true then
    some true
  else
    (p_impl_Ring_onlyOf r_Table x28).bind fun x41 =>
    some (x41 != (k12 : Int))).bind fun (x36 : Bool) =>
  if x36 = true then
    some (.ret (k12 : Int))
  else
    some (.next ())

def p_impl_Ring_dualFault (r_Table : (List (List (List Int)))) : Option (Int) :=
  (forN (fun k s => p_impl_Ring_dualFault_L1 r_Table k ) (r_Table).length 0 ()).bind fun res10 => onRes res10 (fun r73 => some r73) fun _ =>
  some (-1 : Int)

def p_impl_Ring_duals_L1 (r_Table : (List (List (List Int)))) (k16 : Nat) (x17 : (List Int)) : Option (Ctl ((List Int)) (Unit)) :=
  (p_impl_Ring_onlyOf r_Table (k16 : Int)).bind fun x35 =>
  (appL x17 ([x35] : (List Int))).bind fun x46 =>
  some (.next x46)

def p_impl_Ring_duals (r_Table : (List (List (List Int)))) : Option ((List Int)) :=
  (forN (fun k s => p_impl_Ring_duals_L1 r_Table k s) (r_Table).length 0 ([] : (List Int))).bind fun res14 => onRes res14 (fun r75 => none) fun (x71 : (List Int)) =>
  some x71

def p_impl_Ring_turnFault_L3 (r_Table : (List (List (List Int)))) (k23 : Nat) (k43 : Nat) (x9 : (List Int)) (k66 : Nat) : Option (Ctl (Unit) ((List Int))) :=
  (idx r_Table (k23 : Int)).bind fun x89 =>
  (idx x89 (k43 : Int)).bind fun x96 =>
  (idx x96 (k66 : Int)).bind fun x103 =>
  (idx x9 (k23 : Int)).bind fun x163 =>
  (idx r_Table x163).bind fun x195 =>
  (idx x195 (k66 : Int)).bind fun x234 =>
  (idx x234 (k43 : Int)).bind fun x273 =>
  (if (x103 != x273) = true then
    some true
  else
    (idx r_Table (k66 : Int)).bind fun x556 =>
    (idx x9 (k43 : Int)).bind fun x618 =>
    (idx x556 x618).bind fun x658 =>
    (idx x658 (k23 : Int)).bind fun x709 =>
    some (x103 != x709)).bind fun (x316 : Bool) =>
  if x316 = true then
    some (.ret ([(2 : Int), (k23 : Int), (k43 : Int), (k66 : Int)] : (List Int)))
  else
    some (.next ())

def p_impl_Ring_turnFault_L2 (r_Table : (List (List (List Int)))) (k23 : Nat) (x9 : (List Int)) (k43 : Nat) : Option (Ctl (Unit) ((List Int))) :=
  (forN (fun k s => p_impl_Ring_turnFault_L3 r_Table k23 k43 x9 k ) (r_Table).length 0 ()).bind fun res64 => onRes res64 (fun r825 => some (.ret r825)) fun _ =>
  some (.next ())

def p_impl_Ring_turnFault_L1 (r_Table : (List (List (List Int)))) (x9 : (List Int)) (k23 : Nat) : Option (Ctl (Unit) ((List Int))) :=
  (forN (fun k s => p_impl_Ring_turnFault_L2 r_Table k23 x9 k ) (r_Table).length 0 ()).bind fun res41 => onRes res41 (fun r851 => some (.ret r851)) fun _ =>
  some (.next ())

def p_impl_Ring_turnFault (r_Table : (List (List (List Int)))) : Option ((List Int)) :=
  (p_impl_Ring_duals r_Table).bind fun x9 =>
  (forN (fun k s => p_impl_Ring_turnFault_L1 r_Table x9 k ) (r_Table).length 0 ()).bind fun res21 => onRes res21 (fun r870 => some r870) fun _ =>
  some ([] : (List Int))

def p_impl_Ring_bracketFault_L5 (x29 : (List (List Int))) (k39 : Nat) (r_Table : (List (List (List Int)))) (k71 : Nat) (k100 : Nat) (x61 : (List (List Int))) (k132 : Nat) (x133 : Int) (x134 : Int) : Option (Ctl (Int × Int) (Unit)) :=
  (idx x29 (k39 : Int)).bind fun x206 =>
  (idx x206 (k132 : Int)).bind fun x245 =>
  (idx r_Table (k132 : Int)).bind fun x301 =>
  (idx x301 (k71 : Int)).bind fun x340 =>
  (idx x340 (k100 : Int)).bind fun x379 =>
  (idx x61 (k71 : Int)).bind fun x482 =>
  (idx x482 (k132 : Int)).bind fun x521 =>
  (idx x29 (k132 : Int)).bind fun x567 =>
  (idx x567 (k100 : Int)).bind fun x606 =>
  some (.next ((w64 (x133 + (w64 (x245 * x379)))), (w64 (x134 + (w64 (x521 * x606))))))

def p_impl_Ring_bracketFault_L4 (x29 : (List (List Int))) (k39 : Nat) (r_Table : (List (List (List Int)))) (k71 : Nat) (x61 : (List (List Int))) (k12 : Nat) (k100 : Nat) : Option (Ctl (Unit) ((List Int))) :=
  (forN (fun k s => p_impl_Ring_bracketFault_L5 x29 k39 r_Table k71 k100 x61 k s.1 s.2) (r_Table).length 0 ((0 : Int), (0 : Int))).bind fun res130 => onRes res130 (fun r740 => none) fun (s709p : Int × Int) =>
  if (s709p.1 != s709p.2) = true then
    some (.ret ([(3 : Int), (k12 : Int), (k39 : Int), (k71 : Int), (k100 : Int)] : (List Int)))
  else
    some (.next ())

def p_impl_Ring_bracketFault_L3 (x29 : (List (List Int))) (k39 : Nat) (r_Table : (List (List (List Int)))) (x61 : (List (List Int))) (k12 : Nat) (k71 : Nat) : Option (Ctl (Unit) ((List Int))) :=
  (forN (fun k s => p_impl_Ring_bracketFault_L4 x29 k39 r_Table k71 x61 k12 k ) (r_Table).length 0 ()).bind fun res98 => onRes res98 (fun r784 => some (.ret r784)) fun _ =>
  some (.next ())

def p_impl_Ring_bracketFault_L2 (r_Table : (List (List (List Int)))) (x29 : (List (List Int))) (k12 : Nat) (k39 : Nat) : Option (Ctl (Unit) ((List Int))) :=
  (idx r_Table (k39 : Int)).bind fun x61 =>
  (forN (fun k s => p_impl_Ring_bracketFault_L3 x29 k39 r_Table x61 k12 k ) (r_Table).length 0 ()).bind fun res69 => onRes res69 (fun r821 => some (.ret r821)) fun _ =>
  some (.next ())

def p_impl_Ring_bracketFault_L1 (r_Table : (List (List (List Int)))) (k12 : Nat) : Option (Ctl (Unit) ((List Int))) :=
  (idx r_Table (k12 : Int)).bind fun x29 =>
  (forN (fun k s => p_impl_Ring_bracketFault_L2 r_Table x29 k12 k ) (r_Table).length 0 ()).bind fun res37 => onRes res37 (fun r849 => some (.ret r849)) fun _ =>
  some (.next ())

def p_impl_Ring_bracketFault (r_Table : (List (List (List Int)))) : Option ((List Int)) :=
  (forN (fun k s => p_impl_Ring_bracketFault_L1 r_Table k ) (r_Table).length 0 ()).bind fun res10 => onRes res10 (fun r868 => some r868) fun _ =>
  some ([] : (List Int))

def p_impl_Ring_fault (r_Table : (List (List (List Int)))) : Option ((List Int)) :=
  (p_impl_Ring_unitFault r_Table).bind fun x9 =>
  if (!(x9).isEmpty) = true then
    some x9
  else
    (p_impl_Ring_dualFault r_Table).bind fun x19 =>
    if (decide (x19 ≥ (0 : Int))) = true then
      some ([(1 : Int), x19] : (List Int))
    else
      (p_impl_Ring_turnFault r_Table).bind fun x32 =>
      if (!(x32).isEmpty) = true then
        some x32
      else
        (p_impl_Ring_bracketFault r_Table).bind fun x42 =>
        some x42

def p_impl_IsRing (r_Table : (List (List (List Int)))) : Option (Bool) :=
  (p_impl_isCube r_Table).bind fun x9 =>
  (if x9 = true then
    (p_impl_Ring_fault r_Table).bind fun x21 =>
    some (x21).isEmpty
  else
    some false).bind fun (x16 : Bool) =>
  some x16

def p_laws_eqInt64S_L1 (a : (List Int)) (b : (List Int)) (k7 : Nat) : Option (Ctl (Unit) (Bool)) :=
  (idx a (k7 : Int)).bind fun x53 =>
  (idx b (k7 : Int)).bind fun x99 =>
  if (x53 != x99) = true then
    some (.ret false)
  else
    some (.next ())

def p_laws_eqInt64S (a : (List Int)) (b : (List Int)) : Option (Bool) :=
  if (((a).length : Int) != ((b).length : Int)) = true then
    some false
  else
    (forN (fun k s => p_laws_eqInt64S_L1 a b k ) (a).length 0 ()).bind fun res5 => onRes res5 (fun r152 => some r152) fun _ =>
    some true

def p_laws_eqInt64SS_L1 (a : (List (List Int))) (b : (List (List Int))) (k7 : Nat) : Option (Ctl (Unit) (Bool)) :=
  (idx a (k7 : Int)).bind fun x53 =>
  (idx b (k7 : Int)).bind fun x99 =>
  (p_laws_eqInt64S x53 x99).bind fun x130 =>
  if (!x130) = true then
    some (.ret false)
  else
    some (.next ())

def p_laws_eqInt64SS (a : (List (List Int))) (b : (List (List Int))) : Option (Bool) :=
  if (((a).length : Int) != ((b).length : Int)) = true then
    some false
  else
    (forN (fun k s => p_laws_eqInt64SS_L1 a b k ) (a).length 0 ()).bind fun res5 => onRes res5 (fun r156 => some r156) fun _ =>
    some true

def p_laws_eqInt64SSS_L1 (a : (List (List (List Int)))) (b : (List (List (List Int)))) (k7 : Nat) : Option (Ctl (Unit) (Bool)) :=
  (idx a (k7 : Int)).bind fun x53 =>
  (idx b (k7 : Int)).bind fun x99 =>
  (p_laws_eqInt64SS x53 x99).bind fun x130 =>
  if (!x130) = true then
    some (.ret false)
  else
    some (.next ())

def p_laws_eqInt64SSS (a : (List (List (List Int)))) (b : (List (List (List Int)))) : Option (Bool) :=
  if (((a).length : Int) != ((b).length : Int)) = true then
    some false
  else
    (forN (fun k s => p_laws_eqInt64SSS_L1 a b k ) (a).length 0 ()).bind fun res5 => onRes res5 (fun r156 => some r156) fun _ =>
    some true

def p_laws_eqRing (a_Table : (List (List (List Int)))) (b_Table : (List (List (List Int)))) : Option (Bool) :=
  (p_laws_eqInt64SSS a_Table b_Table).bind fun x18 =>
  if (!x18) = true then
    some false
  else
    some true

def p_spec_l04Next_L3 (k39 : Nat) (r_Table : (List (List (List Int)))) (k18 : Nat) (w1 : (List Int)) (k61 : Nat) (x62 : (List Int)) : Option (Ctl ((List Int)) (Unit)) :=
  (idx x62 (k39 : Int)).bind fun x125 =>
  (idx r_Table (k18 : Int)).bind fun x181 =>
  (idx x181 (k39 : Int)).bind fun x220 =>
  (idx x220 (k61 : Int)).bind fun x259 =>
  (idx w1 (k61 : Int)).bind fun x305 =>
  some (.next ((x62).set ((k39 : Int)).toNat (w64 (x125 + (w64 (x259 * x305))))))

def p_spec_l04Next_L2 (r_Table : (List (List (List Int)))) (k18 : Nat) (w1 : (List Int)) (k39 : Nat) (x40 : (List Int)) : Option (Ctl ((List Int)) (Unit)) :=
  (forN (fun k s => p_spec_l04Next_L3 k39 r_Table k18 w1 k s) (w1).length 0 x40).bind fun res59 => onRes res59 (fun r404 => none) fun (x397 : (List Int)) =>
  some (.next x397)

def p_spec_l04Next_L1 (r_Table : (List (List (List Int)))) (w1 : (List Int)) (k18 : Nat) (x19 : (List Int)) : Option (Ctl ((List Int)) (Unit)) :=
  (forN (fun k s => p_spec_l04Next_L2 r_Table k18 w1 k s) (w1).length 0 x19).bind fun res37 => onRes res37 (fun r431 => none) fun (x425 : (List Int)) =>
  some (.next x425)

def p_spec_l04Next (r_Table : (List (List (List Int)))) (w1 : (List Int)) : Option ((List Int)) :=
  (mkL ((w1).length : Int) (0 : Int)).bind fun x10 =>
  (forN (fun k s => p_spec_l04Next_L1 r_Table w1 k s) (w1).length 0 x10).bind fun res16 => onRes res16 (fun r454 => none) fun (x451 : (List Int)) =>
  some x451

def p_spec_l04Weights_L1  (k15 : Nat) (x16 : (List Int)) : Option (Ctl ((List Int)) (Unit)) :=
  (appL x16 ([(1 : Int)] : (List Int))).bind fun x39 =>
  some (.next x39)

def p_spec_l04Weights_L3 (x92 : (List Int)) (k101 : Nat) : Option (Ctl (Unit) ((List Int) × Bool)) :=
  (idx x92 (k101 : Int)).bind fun x119 =>
  if (decide (x119 > (1000000 : Int))) = true then
    some (.ret (([] : (List Int)), false))
  else
    some (.next ())

def p_spec_l04Weights_L2 (r_Table : (List (List (List Int)))) (x74 : (List Int)) (x75 : Int) : Option (Ctl ((List Int) × Int) ((List Int) × Bool)) :=
  if (decide (x75 > (0 : Int))) = true then
    (p_spec_l04Next r_Table x74).bind fun x92 =>
    (forN (fun k s => p_spec_l04Weights_L3 x92 k ) (x92).length 0 ()).bind fun res99 => onRes res99 (fun r150 => some (.ret r150)) fun _ =>
    some (.next (x92, (w64 (x75 - (1 : Int)))))
  else
    some (.brk (x74, x75))

def p_spec_l04Weights (r_Table : (List (List (List Int)))) (t : Int) : Option ((List Int) × Bool) :=
  (forN (fun k s => p_spec_l04Weights_L1  k s) (r_Table).length 0 ([] : (List Int))).bind fun res13 => onRes res13 (fun r162 => none) fun (x65 : (List Int)) =>
  (whileC (fun s => p_spec_l04Weights_L2 r_Table s.1 s.2) (x65, t)).bind fun res71 => onRes res71 (fun r161 => some r161) fun (s155p : (List Int) × Int) =>
  some (s155p.1, true)

def p_math_bits_Mul32 (x : Int) (y : Int) : Option (Int × Int) :=
  some ((IntKind.u32.wrap (((IntKind.u64.wrap ((IntKind.u64.wrap x) * (IntKind.u64.wrap y)))).fdiv (2 ^ 32))), (IntKind.u32.wrap (IntKind.u64.wrap ((IntKind.u64.wrap x) * (IntKind.u64.wrap y)))))

def p_math_bits_Mul64 (x : Int) (y : Int) : Option (Int × Int) :=
  some ((IntKind.u64.wrap ((IntKind.u64.wrap ((IntKind.u64.wrap (((x).fdiv (2 ^ 32)) * ((y).fdiv (2 ^ 32)))) + (((IntKind.u64.wrap ((IntKind.u64.wrap (((x).fdiv (2 ^ 32)) * (andI .u64 y (4294967295 : Int)))) + (((IntKind.u64.wrap ((andI .u64 x (4294967295 : Int)) * (andI .u64 y (4294967295 : Int))))).fdiv (2 ^ 32))))).fdiv (2 ^ 32)))) + (((IntKind.u64.wrap ((andI .u64 (IntKind.u64.wrap ((IntKind.u64.wrap (((x).fdiv (2 ^ 32)) * (andI .u64 y (4294967295 : Int)))) + (((IntKind.u64.wrap ((andI .u64 x (4294967295 : Int)) * (andI .u64 y (4294967295 : Int))))).fdiv (2 ^ 32)))) (4294967295 : Int)) + (IntKind.u64.wrap ((andI .u64 x (4294967295 : Int)) * ((y).fdiv (2 ^ 32))))))).fdiv (2 ^ 32)))), (IntKind.u64.wrap (x * y)))

def p_math_bits_Mul (x : Int) (y : Int) : Option (Int × Int) :=
  if false = true then
    (p_math_bits_Mul32 (IntKind.u32.wrap x) (IntKind.u32.wrap y)).bind fun x3 =>
    some ((IntKind.u64.wrap x3.1), (IntKind.u64.wrap x3.2))
  else
    (p_math_bits_Mul64 x y).bind fun x11 =>
    some (x11.1, x11.2)

def p_slices_Repeat_Lint64_int64_L1  (x46 : (List Int)) (x47 : Int) : Option (Ctl ((List Int) × Int) (Unit)) :=
  if (decide (x47 < ((x46).length : Int))) = true then
    (cutL x46 x47 ((x46).length : Int)).bind fun x99 =>
    (cutL x46 (0 : Int) x47).bind fun x137 =>
    some (.next ((cpyL x46 x47 x137), (w64 (x47 + (cpyN x46 x47 x137)))))
  else
    some (.brk (x46, x47))

def p_slices_Repeat_Lint64_int64 (x : (List Int)) (count : Int) : Option ((List Int)) :=
  (if (decide (count < (0 : Int))) = true then
    none
  else
    some ()).bind fun (_ : Unit) =>
  (p_math_bits_Mul (IntKind.u64.wrap ((x).length : Int)) (IntKind.u64.wrap count)).bind fun x10 =>
  (if ((decide (x10.1 > (0 : Int))) || (decide (x10.2 > (9223372036854775807 : Int)))) = true then
    none
  else
    some ()).bind fun (_ : Unit) =>
  (mkL (w64 x10.2) (0 : Int)).bind fun x34 =>
  (whileC (fun s => p_slices_Repeat_Lint64_int64_L1  s.1 s.2) ((cpyL x34 (0 : Int) x), (cpyN x34 (0 : Int) x))).bind fun res43 => onRes res43 (fun r172 => none) fun (s167p : (List Int) × Int) =>
  some s167p.1

def p_impl_Ring_nextWeights_L3 (x70 : (List Int)) (k48 : Nat) (w1 : (List Int)) (k80 : Nat) (x81 : (List Int)) : Option (Ctl ((List Int)) (Unit)) :=
  (idx x70 (k80 : Int)).bind fun x106 =>
  (idx x81 (k48 : Int)).bind fun x142 =>
  (idx w1 (k80 : Int)).bind fun x195 =>
  some (.next ((x81).set ((k48 : Int)).toNat (w64 (x142 + (w64 (x106 * x195))))))

def p_impl_Ring_nextWeights_L2 (x38 : (List (List Int))) (w1 : (List Int)) (k48 : Nat) (x49 : (List Int)) : Option (Ctl ((List Int)) (Unit)) :=
  (idx x38 (k48 : Int)).bind fun x70 =>
  (forN (fun k s => p_impl_Ring_nextWeights_L3 x70 k48 w1 k s) (x70).length 0 x49).bind fun res78 => onRes res78 (fun r294 => none) fun (x284 : (List Int)) =>
  some (.next x284)

def p_impl_Ring_nextWeights_L1 (r_Table : (List (List (List Int)))) (w1 : (List Int)) (k19 : Nat) (x20 : (List Int)) : Option (Ctl ((List Int)) (Unit)) :=
  (idx r_Table (k19 : Int)).bind fun x38 =>
  (forN (fun k s => p_impl_Ring_nextWeights_L2 x38 w1 k s) (x38).length 0 x20).bind fun res46 => onRes res46 (fun r324 => none) fun (x317 : (List Int)) =>
  some (.next x317)

def p_impl_Ring_nextWeights (r_Table : (List (List (List Int)))) (w1 : (List Int)) : Option ((List Int)) :=
  (mkL ((w1).length : Int) (0 : Int)).bind fun x10 =>
  (forN (fun k s => p_impl_Ring_nextWeights_L1 r_Table w1 k s) (r_Table).length 0 x10).bind fun res17 => onRes res17 (fun r347 => none) fun (x344 : (List Int)) =>
  some x344

def p_slices_Max_Lint64_int64_L1 (x : (List Int)) (k18 : Nat) (x19 : Int) : Option (Ctl (Int) (Unit)) :=
  (idx x ((1 : Int) + (k18 : Int))).bind fun x37 =>
  some (.next (if x37 > x19 then x37 else x19))

def p_slices_Max_Lint64_int64 (x : (List Int)) : Option (Int) :=
  (if (decide (((x).length : Int) < (1 : Int))) = true then
    none
  else
    some ()).bind fun (_ : Unit) =>
  (idx x (0 : Int)).bind fun x9 =>
  (forN (fun k s => p_slices_Max_Lint64_int64_L1 x k s) (((x).length : Int) - (1 : Int)).toNat 0 x9).bind fun res16 => onRes res16 (fun r67 => none) fun (x63 : Int) =>
  some x63

def p_impl_Ring_weightsOf_L1 (r_Table : (List (List (List Int)))) (k27 : Nat) (x28 : (List Int)) : Option (Ctl ((List Int)) ((List Int) × Int)) :=
  (p_impl_Ring_nextWeights r_Table x28).bind fun x46 =>
  (p_slices_Max_Lint64_int64 x46).bind fun x53 =>
  if (decide (x53 > (1000000 : Int))) = true then
    some (.ret (([] : (List Int)), (3 : Int)))
  else
    some (.next x46)

def p_impl_Ring_weightsOf (r_Table : (List (List (List Int)))) (t : Int) : Option ((List Int) × Int) :=
  (p_slices_Repeat_Lint64_int64 ([(1 : Int)] : (List Int)) ((r_Table).length : Int)).bind fun x18 =>
  (forN (fun k s => p_impl_Ring_weightsOf_L1 r_Table k s) (t).toNat 0 x18).bind fun res25 => onRes res25 (fun r85 => some r85) fun (x81 : (List Int)) =>
  some (x81, (0 : Int))

def p_spec_l03Label (r_Table : (List (List (List Int)))) (i : Int) : Option (Bool) :=
  (p_spec_l01In i (0 : Int) (w64 (((r_Table).length : Int) - (1 : Int)))).bind fun x10 =>
  some x10

def p_spec_l04Bounds_L2 (r_Table : (List (List (List Int)))) (i : Int) (k21 : Nat) (w1 : (List Int)) (k51 : Nat) (x52 : Int) : Option (Ctl (Int) (Unit)) :=
  (idx r_Table i).bind fun x121 =>
  (idx x121 (k21 : Int)).bind fun x160 =>
  (idx x160 (k51 : Int)).bind fun x199 =>
  (idx w1 (k51 : Int)).bind fun x245 =>
  some (.next (w64 (x52 + (w64 (x199 * x245)))))

def p_spec_l04Bounds_L1 (r_Table : (List (List (List Int)))) (i : Int) (w1 : (List Int)) (k21 : Nat) (x22 : Int) (x23 : Int) (x24 : Int) (x25 : Int) : Option (Ctl (Int × Int × Int × Int) (Unit)) :=
  (forN (fun k s => p_spec_l04Bounds_L2 r_Table i k21 w1 k s) (w1).length 0 (0 : Int)).bind fun res49 => onRes res49 (fun r1123 => none) fun (x322 : Int) =>
  (if ((k21 : Int) == (0 : Int)) = true then
    some true
  else
    (idx w1 (k21 : Int)).bind fun x612 =>
    some (decide ((w64 (x322 * x23)) < (w64 (x22 * x612))))).bind fun (x360 : Bool) =>
  (if x360 = true then
    (idx w1 (k21 : Int)).bind fun x706 =>
    some (x322, x706)
  else
    some (x22, x23)).bind fun ⟨x700, x701⟩ =>
  (if ((k21 : Int) == (0 : Int)) = true then
    some true
  else
    (idx w1 (k21 : Int)).bind fun x1008 =>
    some (decide ((w64 (x322 * x25)) > (w64 (x24 * x1008))))).bind fun (x756 : Bool) =>
  (if x756 = true then
    (idx w1 (k21 : Int)).bind fun x1102 =>
    some (x322, x1102)
  else
    some (x24, x25)).bind fun ⟨x1096, x1097⟩ =>
  some (.next (x700, x701, x1096, x1097))

def p_spec_l04Bounds (r_Table : (List (List (List Int)))) (i : Int) (w1 : (List Int)) : Option (Int × Int × Int × Int) :=
  (forN (fun k s => p_spec_l04Bounds_L1 r_Table i w1 k s.1 s.2.1 s.2.2.1 s.2.2.2) (w1).length 0 ((0 : Int), (0 : Int), (0 : Int), (0 : Int))).bind fun res19 => onRes res19 (fun r1165 => none) fun (s1151p : Int × Int × Int × Int) =>
  some (s1151p.1, s1151p.2.1, s1151p.2.2.1, s1151p.2.2.2)

def p_spec_BoundsOf (r_Table : (List (List (List Int)))) (i : Int) (t : Int) : Option (Int × Int × Int × Int × Int) :=
  (p_spec_l03Is r_Table).bind fun x13 =>
  if (!x13) = true then
    some ((0 : Int), (0 : Int), (0 : Int), (0 : Int), (1 : Int))
  else
    (p_spec_l03Label r_Table i).bind fun x23 =>
    (if (!x23) = true then
      some true
    else
      (p_spec_l01In t (0 : Int) (20 : Int)).bind fun x35 =>
      some (!x35)).bind fun (x30 : Bool) =>
    if x30 = true then
      some ((0 : Int), (0 : Int), (0 : Int), (0 : Int), (2 : Int))
    else
      (p_spec_l04Weights r_Table t).bind fun x51 =>
      if (!x51.2) = true then
        some ((0 : Int), (0 : Int), (0 : Int), (0 : Int), (3 : Int))
      else
        (p_spec_l04Bounds r_Table i x51.1).bind fun x62 =>
        some (x62.1, x62.2.1, x62.2.2.1, x62.2.2.2, (0 : Int))

def p_impl_Ring_isLabel (r_Table : (List (List (List Int)))) (i : Int) : Option (Bool) :=
  (p_impl_within i (0 : Int) (w64 (((r_Table).length : Int) - (1 : Int)))).bind fun x10 =>
  some x10

def p_impl_Ring_boundsOf_L2 (x56 : (List Int)) (w1 : (List Int)) (k66 : Nat) (x67 : Int) : Option (Ctl (Int) (Unit)) :=
  (idx x56 (k66 : Int)).bind fun x92 =>
  (idx w1 (k66 : Int)).bind fun x99 =>
  some (.next (w64 (x67 + (w64 (x92 * x99)))))

def p_impl_Ring_boundsOf_L1 (x19 : (List (List Int))) (w1 : (List Int)) (k29 : Nat) (x30 : Int) (x31 : Int) (x32 : Int) (x33 : Int) : Option (Ctl (Int × Int × Int × Int) (Unit)) :=
  (idx x19 (k29 : Int)).bind fun x56 =>
  (forN (fun k s => p_impl_Ring_boundsOf_L2 x56 w1 k s) (x56).length 0 (0 : Int)).bind fun res64 => onRes res64 (fun r987 => none) fun (x132 : Int) =>
  (if ((k29 : Int) == (0 : Int)) = true then
    some true
  else
    (idx w1 (k29 : Int)).bind fun x424 =>
    some (decide ((w64 (x132 * x31)) < (w64 (x30 * x424))))).bind fun (x171 : Bool) =>
  (if x171 = true then
    (idx w1 (k29 : Int)).bind fun x521 =>
    some (x132, x521)
  else
    some (x30, x31)).bind fun ⟨x514, x515⟩ =>
  (if ((k29 : Int) == (0 : Int)) = true then
    some true
  else
    (idx w1 (k29 : Int)).bind fun x848 =>
    some (decide ((w64 (x132 * x33)) > (w64 (x32 * x848))))).bind fun (x595 : Bool) =>
  (if x595 = true then
    (idx w1 (k29 : Int)).bind fun x945 =>
    some (x132, x945)
  else
    some (x32, x33)).bind fun ⟨x938, x939⟩ =>
  some (.next (x514, x515, x938, x939))

def p_impl_Ring_boundsOf (r_Table : (List (List (List Int)))) (i : Int) (w1 : (List Int)) : Option (Int × Int × Int × Int) :=
  (idx r_Table i).bind fun x19 =>
  (forN (fun k s => p_impl_Ring_boundsOf_L1 x19 w1 k s.1 s.2.1 s.2.2.1 s.2.2.2) (x19).length 0 ((0 : Int), (0 : Int), (0 : Int), (0 : Int))).bind fun res27 => onRes res27 (fun r1028 => none) fun (s1014p : Int × Int × Int × Int) =>
  some (s1014p.1, s1014p.2.1, s1014p.2.2.1, s1014p.2.2.2)

def p_impl_BoundsOf (r_Table : (List (List (List Int)))) (i : Int) (t : Int) : Option (Int × Int × Int × Int × Int) :=
  (p_impl_IsRing r_Table).bind fun x13 =>
  if (!x13) = true then
    some ((0 : Int), (0 : Int), (0 : Int), (0 : Int), (1 : Int))
  else
    (p_impl_Ring_isLabel r_Table i).bind fun x23 =>
    (if (!x23) = true then
      some true
    else
      (p_impl_within t (0 : Int) (20 : Int)).bind fun x35 =>
      some (!x35)).bind fun (x30 : Bool) =>
    if x30 = true then
      some ((0 : Int), (0 : Int), (0 : Int), (0 : Int), (2 : Int))
    else
      (p_impl_Ring_weightsOf r_Table t).bind fun x51 =>
      if (x51.2 != (0 : Int)) = true then
        some ((0 : Int), (0 : Int), (0 : Int), (0 : Int), x51.2)
      else
        (p_impl_Ring_boundsOf r_Table i x51.1).bind fun x63 =>
        some (x63.1, x63.2.1, x63.2.2.1, x63.2.2.2, (0 : Int))

def p_laws_eqBounds (a_LowTop : Int) (a_LowBottom : Int) (a_HighTop : Int) (a_HighBottom : Int) (b_LowTop : Int) (b_LowBottom : Int) (b_HighTop : Int) (b_HighBottom : Int) : Option (Bool) :=
  if (a_LowTop != b_LowTop) = true then
    some false
  else
    if (a_LowBottom != b_LowBottom) = true then
      some false
    else
      if (a_HighTop != b_HighTop) = true then
        some false
      else
        if (a_HighBottom != b_HighBottom) = true then
          some false
        else
          some true

def p_laws_FnExactBoundsOf (aR_Table : (List (List (List Int)))) (aI : Int) (aT : Int) : Option (Bool) :=
  (p_laws_szRing aR_Table (1048576 : Int)).bind fun x9 =>
  if (decide (x9 < (0 : Int))) = true then
    some true
  else
    (p_laws_toRing aR_Table).bind fun x18 =>
    (p_spec_BoundsOf x18 aI aT).bind fun x29 =>
    (p_laws_toRing aR_Table).bind fun x46 =>
    (p_impl_BoundsOf x46 aI aT).bind fun x59 =>
    (p_laws_eqBounds x59.1 x59.2.1 x59.2.2.1 x59.2.2.2.1 x29.1 x29.2.1 x29.2.2.1 x29.2.2.2.1).bind fun x76 =>
    if ((!x76) || (x59.2.2.2.2 != x29.2.2.2.2)) = true then
      some false
    else
      (p_laws_toRing aR_Table).bind fun x118 =>
      (p_laws_eqRing x46 x118).bind fun x139 =>
      if (!x139) = true then
        some false
      else
        some true

end
end Go.VG
