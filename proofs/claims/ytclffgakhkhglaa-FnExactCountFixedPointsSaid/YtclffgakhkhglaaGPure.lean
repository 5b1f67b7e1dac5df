/- The functions' plain twins, as a program of ours printed them. No proof. -/
import Derived.Test.YtclffgakhkhglaaVgPure
set_option linter.all false
namespace Go.VG
noncomputable section

def p_laws_szInt64S (a : (List Int)) (left : Int) : Option (Int) :=
  if (decide ((w64 (left - ((a).length : Int))) < (0 : Int))) = true then
    some (-1 : Int)
  else
    some (w64 (left - ((a).length : Int)))

def p_laws_szInt64SS_L1 (a : (List (List Int))) (k6 : Nat) (x7 : Int) : Option (Ctl (Int) (Int)) :=
  (idx a (k6 : Int)).bind fun x25 =>
  (p_laws_szInt64S x25 x7).bind fun x32 =>
  if (decide (x32 < (0 : Int))) = true then
    some (.ret (-1 : Int))
  else
    some (.next x32)

def p_laws_szInt64SS (a : (List (List Int))) (left : Int) : Option (Int) :=
  if (decide ((w64 (left - ((a).length : Int))) < (0 : Int))) = true then
    some (-1 : Int)
  else
    (forN (fun k s => p_laws_szInt64SS_L1 a k s) (a).length 0 (w64 (left - ((a).length : Int)))).bind fun res4 => onRes res4 (fun r64 => some r64) fun (x60 : Int) =>
    some x60

def p_laws_szInt64SSS_L1 (a : (List (List (List Int)))) (k6 : Nat) (x7 : Int) : Option (Ctl (Int) (Int)) :=
  (idx a (k6 : Int)).bind fun x25 =>
  (p_laws_szInt64SS x25 x7).bind fun x32 =>
  if (decide (x32 < (0 : Int))) = true then
    some (.ret (-1 : Int))
  else
    some (.next x32)

def p_laws_szInt64SSS (a : (List (List (List Int)))) (left : Int) : Option (Int) :=
  if (decide ((w64 (left - ((a).length : Int))) < (0 : Int))) = true then
    some (-1 : Int)
  else
    (forN (fun k s => p_laws_szInt64SSS_L1 a k s) (a).length 0 (w64 (left - ((a).length : Int)))).bind fun res4 => onRes res4 (fun r64 => some r64) fun (x60 : Int) =>
    some x60

def p_laws_szRing (a_Table : (List (List (List Int)))) (left : Int) : Option (Int) :=
  (p_laws_szInt64SSS a_Table left).bind fun x9 =>
  if (decide (x9 < (0 : Int))) = true then
    some (-1 : Int)
  else
    some x9

def p_laws_toInt64S_L1 (a : (List Int)) (k10 : Nat) (x11 : (List Int)) : Option (Ctl ((List Int)) (Unit)) :=
  (idx a (k10 : Int)).bind fun x28 =>
  (idx x11 (k10 : Int)).bind fun x35 =>
  some (.next ((x11).set ((k10 : Int)).toNat x28))

def p_laws_toInt64S (a : (List Int)) : Option ((List Int)) :=
  (mkL ((a).length : Int) (0 : Int)).bind fun x2 =>
  (forN (fun k s => p_laws_toInt64S_L1 a k s) (a).length 0 x2).bind fun res8 => onRes res8 (fun r62 => none) fun (x59 : (List Int)) =>
  some x59

def p_laws_toInt64SS_L1 (a : (List (List Int))) (k10 : Nat) (x11 : (List (List Int))) : Option (Ctl ((List (List Int))) (Unit)) :=
  (idx a (k10 : Int)).bind fun x28 =>
  (p_laws_toInt64S x28).bind fun x35 =>
  (idx x11 (k10 : Int)).bind fun x42 =>
  some (.next ((x11).set ((k10 : Int)).toNat x35))

def p_laws_toInt64SS (a : (List (List Int))) : Option ((List (List Int))) :=
  (mkL ((a).length : Int) ([] : (List Int))).bind fun x2 =>
  (forN (fun k s => p_laws_toInt64SS_L1 a k s) (a).length 0 x2).bind fun res8 => onRes res8 (fun r69 => none) fun (x66 : (List (List Int))) =>
  some x66

def p_laws_toInt64SSS_L1 (a : (List (List (List Int)))) (k10 : Nat) (x11 : (List (List (List Int)))) : Option (Ctl ((List (List (List Int)))) (Unit)) :=
  (idx a (k10 : Int)).bind fun x28 =>
  (p_laws_toInt64SS x28).bind fun x35 =>
  (idx x11 (k10 : Int)).bind fun x42 =>
  some (.next ((x11).set ((k10 : Int)).toNat x35))

def p_laws_toInt64SSS (a : (List (List (List Int)))) : Option ((List (List (List Int)))) :=
  (mkL ((a).length : Int) ([] : (List (List Int)))).bind fun x2 =>
  (forN (fun k s => p_laws_toInt64SSS_L1 a k s) (a).length 0 x2).bind fun res8 => onRes res8 (fun r69 => none) fun (x66 : (List (List (List Int)))) =>
  some x66

def p_laws_toRing (a_Table : (List (List (List Int)))) : Option ((List (List (List Int)))) :=
  (p_laws_toInt64SSS a_Table).bind fun x17 =>
  some x17

def p_spec_l01In (n : Int) (low : Int) (high : Int) : Option (Bool) :=
  some ((decide (n ≥ low)) && (decide (n ≤ high)))

def p_spec_l03Cube_L3 (x62 : (List Int)) (k74 : Nat) : Option (Ctl (Unit) (Bool)) :=
  (idx x62 (k74 : Int)).bind fun x98 =>
  (p_spec_l01In x98 (0 : Int) (1000 : Int)).bind fun x105 =>
  if (!x105) = true then
    some (.ret false)
  else
    some (.next ())

def p_spec_l03Cube_L2 (x30 : (List (List Int))) (t : (List (List (List Int)))) (k42 : Nat) : Option (Ctl (Unit) (Bool)) :=
  (idx x30 (k42 : Int)).bind fun x62 =>
  if (((x62).length : Int) != ((t).length : Int)) = true then
    some (.ret false)
  else
    (forN (fun k s => p_spec_l03Cube_L3 x62 k ) (t).length 0 ()).bind fun res72 => onRes res72 (fun r136 => some (.ret r136)) fun _ =>
    some (.next ())

def p_spec_l03Cube_L1 (t : (List (List (List Int)))) (k14 : Nat) : Option (Ctl (Unit) (Bool)) :=
  (idx t (k14 : Int)).bind fun x30 =>
  if (((x30).length : Int) != ((t).length : Int)) = true then
    some (.ret false)
  else
    (forN (fun k s => p_spec_l03Cube_L2 x30 t k ) (t).length 0 ()).bind fun res40 => onRes res40 (fun r158 => some (.ret r158)) fun _ =>
    some (.next ())

def p_spec_l03Cube (t : (List (List (List Int)))) : Option (Bool) :=
  if ((decide (((t).length : Int) < (1 : Int))) || (decide (((t).length : Int) > (16 : Int)))) = true then
    some false
  else
    (forN (fun k s => p_spec_l03Cube_L1 t k ) (t).length 0 ()).bind fun res12 => onRes res12 (fun r176 => some r176) fun _ =>
    some true

def p_spec_l03Dual_L1 (t : (List (List (List Int)))) (i : Int) (k3 : Nat) (x4 : Int) : Option (Ctl (Int) (Int)) :=
  (idx t i).bind fun x23 =>
  (idx x23 (k3 : Int)).bind fun x30 =>
  (idx x30 (0 : Int)).bind fun x37 =>
  if ((x37 == (1 : Int)) && (decide (x4 < (0 : Int)))) = true then
    some (.next (k3 : Int))
  else
    if (x37 != (0 : Int)) = true then
      some (.ret (-1 : Int))
    else
      some (.next x4)

def p_spec_l03Dual (t : (List (List (List Int)))) (i : Int) : Option (Int) :=
  (forN (fun k s => p_spec_l03Dual_L1 t i k s) (t).length 0 (-1 : Int)).bind fun res1 => onRes res1 (fun r91 => some r91) fun (x87 : Int) =>
  some x87

def p_spec_l03Fault_L2 (k4 : Nat) (t : (List (List (List Int)))) (k22 : Nat) : Option (Ctl (Unit) ((List Int))) :=
  (if ((k4 : Int) == (k22 : Int)) = true then
    some (1 : Int)
  else
    some (0 : Int)).bind fun (x39 : Int) =>
  (idx t (0 : Int)).bind fun x52 =>
  (idx x52 (k4 : Int)).bind fun x59 =>
  (idx x59 (k22 : Int)).bind fun x66 =>
  (if (x66 != x39) = true then
    some true
  else
    (idx t (k4 : Int)).bind fun x79 =>
    (idx x79 (0 : Int)).bind fun x86 =>
    (idx x86 (k22 : Int)).bind fun x93 =>
    some (x93 != x39)).bind fun (x74 : Bool) =>
  if x74 = true then
    some (.ret ([(0 : Int), (k4 : Int), (k22 : Int)] : (List Int)))
  else
    some (.next ())

def p_spec_l03Fault_L1 (t : (List (List (List Int)))) (k4 : Nat) : Option (Ctl (Unit) ((List Int))) :=
  (forN (fun k s => p_spec_l03Fault_L2 k4 t k ) (t).length 0 ()).bind fun res20 => onRes res20 (fun r133 => some (.ret r133)) fun _ =>
  some (.next ())

def p_spec_l03Fault_L3 (t : (List (List (List Int)))) (k159 : Nat) (x160 : (List Int)) : Option (Ctl ((List Int)) (Unit)) :=
  (p_spec_l03Dual t (k159 : Int)).bind fun x178 =>
  (appL x160 ([x178] : (List Int))).bind fun x189 =>
  some (.next x189)

def p_spec_l03Fault_L4 (x214 : (List Int)) (k222 : Nat) : Option (Ctl (Unit) ((List Int))) :=
  (idx x214 (k222 : Int)).bind fun x239 =>
  (if (decide (x239 < (0 : Int))) = true then
    some true
  else
    (idx x214 x239).bind fun x255 =>
    some (x255 != (k222 : Int))).bind fun (x247 : Bool) =>
  if x247 = true then
    some (.ret ([(1 : Int), (k222 : Int)] : (List Int)))
  else
    some (.next ())

def p_spec_l03Fault_L7 (t : (List (List (List Int)))) (k297 : Nat) (k316 : Nat) (x214 : (List Int)) (k336 : Nat) : Option (Ctl (Unit) ((List Int))) :=
  (idx t (k297 : Int)).bind fun x384 =>
  (idx x384 (k316 : Int)).bind fun x423 =>
  (idx x423 (k336 : Int)).bind fun x462 =>
  (idx x214 (k297 : Int)).bind fun x515 =>
  (idx t x515).bind fun x547 =>
  (idx x547 (k336 : Int)).bind fun x586 =>
  (idx x586 (k316 : Int)).bind fun x625 =>
  (if (x462 != x625) = true then
    some true
  else
    (idx t (k336 : Int)).bind fun x1110 =>
    (idx x214 (k316 : Int)).bind fun x1172 =>
    (idx x1110 x1172).bind fun x1212 =>
    (idx x1212 (k297 : Int)).bind fun x1263 =>
    some (x462 != x1263)).bind fun (x668 : Bool) =>
  if x668 = true then
    some (.ret ([(2 : Int), (k297 : Int), (k316 : Int), (k336 : Int)] : (List Int)))
  else
    some (.next ())

def p_spec_l03Fault_L6 (t : (List (List (List Int)))) (k297 : Nat) (x214 : (List Int)) (k316 : Nat) : Option (Ctl (Unit) ((List Int))) :=
  (forN (fun k s => p_spec_l03Fault_L7 t k297 k316 x214 k ) (t).length 0 ()).bind fun res334 => onRes res334 (fun r1374 => some (.ret r1374)) fun _ =>
  some (.next ())

def p_spec_l03Fault_L5 (t : (List (List (List Int)))) (x214 : (List Int)) (k297 : Nat) : Option (Ctl (Unit) ((List Int))) :=
  (forN (fun k s => p_spec_l03Fault_L6 t k297 x214 k ) (t).length 0 ()).bind fun res314 => onRes res314 (fun r1398 => some (.ret r1398)) fun _ =>
  some (.next ())

def p_spec_l03Fault_L12 (t : (List (List (List Int)))) (k1421 : Nat) (k1439 : Nat) (k1458 : Nat) (k1478 : Nat) (k1499 : Nat) (x1500 : Int) (x1501 : Int) : Option (Ctl (Int × Int) (Unit)) :=
  (idx t (k1421 : Int)).bind fun x1561 =>
  (idx x1561 (k1439 : Int)).bind fun x1600 =>
  (idx x1600 (k1499 : Int)).bind fun x1639 =>
  (idx t (k1499 : Int)).bind fun x1685 =>
  (idx x1685 (k1458 : Int)).bind fun x1724 =>
  (idx x1724 (k1478 : Int)).bind fun x1763 =>
  (idx t (k1439 : Int)).bind fun x1853 =>
  (idx x1853 (k1458 : Int)).bind fun x1892 =>
  (idx x1892 (k1499 : Int)).bind fun x1931 =>
  (idx x1561 (k1499 : Int)).bind fun x2012 =>
  (idx x2012 (k1478 : Int)).bind fun x2051 =>
  some (.next ((w64 (x1500 + (w64 (x1639 * x1763)))), (w64 (x1501 + (w64 (x1931 * x2051))))))

def p_spec_l03Fault_L11 (t : (List (List (List Int)))) (k1421 : Nat) (k1439 : Nat) (k1458 : Nat) (k1478 : Nat) : Option (Ctl (Unit) ((List Int))) :=
  (forN (fun k s => p_spec_l03Fault_L12 t k1421 k1439 k1458 k1478 k s.1 s.2) (t).length 0 ((0 : Int), (0 : Int))).bind fun res1497 => onRes res1497 (fun r2150 => none) fun (s2130p : Int × Int) =>
  if (s2130p.1 != s2130p.2) = true then
    some (.ret ([(3 : Int), (k1421 : Int), (k1439 : Int), (k1458 : Int), (k1478 : Int)] : (List Int)))
  else
    some (.next ())

def p_spec_l03Fault_L10 (t : (List (List (List Int)))) (k1421 : Nat) (k1439 : Nat) (k1458 : Nat) : Option (Ctl (Unit) ((List Int))) :=
  (forN (fun k s => p_spec_l03Fault_L11 t k1421 k1439 k1458 k ) (t).length 0 ()).bind fun res1476 => onRes res1476 (fun r2176 => some (.ret r2176)) fun _ =>
  some (.next ())

def p_spec_l03Fault_L9 (t : (List (List (List Int)))) (k1421 : Nat) (k1439 : Nat) : Option (Ctl (Unit) ((List Int))) :=
  (forN (fun k s => p_spec_l03Fault_L10 t k1421 k1439 k ) (t).length 0 ()).bind fun res1456 => onRes res1456 (fun r2200 => some (.ret r2200)) fun _ =>
  some (.next ())

def p_spec_l03Fault_L8 (t : (List (List (List Int)))) (k1421 : Nat) : Option (Ctl (Unit) ((List Int))) :=
  (forN (fun k s => p_spec_l03Fault_L9 t k1421 k ) (t).length 0 ()).bind fun res1437 => onRes res1437 (fun r2222 => some (.ret r2222)) fun _ =>
  some (.next ())

def p_spec_l03Fault (t : (List (List (List Int)))) : Option ((List Int)) :=
  (forN (fun k s => p_spec_l03Fault_L1 t k ) (t).length 0 ()).bind fun res2 => onRes res2 (fun r2244 => some r2244) fun _ =>
  (forN (fun k s => p_spec_l03Fault_L3 t k s) (t).length 0 ([] : (List Int))).bind fun res157 => onRes res157 (fun r2243 => none) fun (x214 : (List Int)) =>
  (forN (fun k s => p_spec_l03Fault_L4 x214 k ) (t).length 0 ()).bind fun res220 => onRes res220 (fun r2242 => some r2242) fun _ =>
  (forN (fun k s => p_spec_l03Fault_L5 t x214 k ) (t).length 0 ()).bind fun res295 => onRes res295 (fun r2241 => some r2241) fun _ =>
  (forN (fun k s => p_spec_l03Fault_L8 t k ) (t).length 0 ()).bind fun res1419 => onRes res1419 (fun r2240 => some r2240) fun _ =>
  some ([] : (List Int))

def p_spec_l03Is (r_Table : (List (List (List Int)))) : Option (Bool) :=
  (p_spec_l03Cube r_Table).bind fun x9 =>
  (if x9 = true then
    (p_spec_l03Fault r_Table).bind fun x21 =>
    some (((x21).length : Int) == (0 : Int))
  else
    some false).bind fun (x16 : Bool) =>
  some x16

def p_spec_l01Same_L1 (a : (List Int)) (b : (List Int)) (k7 : Nat) : Option (Ctl (Unit) (Bool)) :=
  (idx a (k7 : Int)).bind fun x53 =>
  (idx b (k7 : Int)).bind fun x99 =>
  if (x53 != x99) = true then
    some (.ret false)
  else
    some (.next ())

def p_spec_l01Same (a : (List Int)) (b : (List Int)) : Option (Bool) :=
  if (((a).length : Int) != ((b).length : Int)) = true then
    some false
  else
    (forN (fun k s => p_spec_l01Same_L1 a b k ) (a).length 0 ()).bind fun res5 => onRes res5 (fun r152 => some r152) fun _ =>
    some true

def p_impl_within (n : Int) (low : Int) (high : Int) : Option (Bool) :=
  some ((decide (n ≥ low)) && (decide (n ≤ high)))

def p_impl_allWithin_c1 (n : Int) (c0 : Int) (c1 : Int) : Option (Bool) :=
  (p_impl_within n c0 c1).bind fun x1 =>
  some (!x1)

def p_slices_IndexFunc_Lint64_int64_L1 (s1 : (List Int)) (f1 : (Int → Option Bool)) (k4 : Nat) : Option (Ctl (Unit) (Int)) :=
  (idx s1 (k4 : Int)).bind fun x21 =>
  (f1 x21).bind fun x28 =>
  if x28 = true then
    some (.ret (k4 : Int))
  else
    some (.next ())

def p_slices_IndexFunc_Lint64_int64 (s1 : (List Int)) (f1 : Int → Option Bool) : Option (Int) :=
  (forN (fun k s => p_slices_IndexFunc_Lint64_int64_L1 s1 f1 k ) (s1).length 0 ()).bind fun res2 => onRes res2 (fun r54 => some r54) fun _ =>
  some (-1 : Int)

def p_slices_ContainsFunc_Lint64_int64 (s1 : (List Int)) (f1 : Int → Option Bool) : Option (Bool) :=
  (p_slices_IndexFunc_Lint64_int64 s1 f1).bind fun x1 =>
  some (decide (x1 ≥ (0 : Int)))

def p_impl_allWithin (list : (List Int)) (low : Int) (high : Int) : Option (Bool) :=
  (p_slices_ContainsFunc_Lint64_int64 list (fun a0_19 => p_impl_allWithin_c1 a0_19 low high)).bind fun x22 =>
  some (!x22)

def p_impl_isCube_c1 (row : (List Int)) (c0 : Int) : Option (Bool) :=
  (if (((row).length : Int) != c0) = true then
    some true
  else
    (p_impl_allWithin row (0 : Int) (1000 : Int)).bind fun x8 =>
    some (!x8)).bind fun (x3 : Bool) =>
  some x3

def p_slices_IndexFunc_LLint64_Lint64_L1 (s1 : (List (List Int))) (f1 : ((List Int) → Option Bool)) (k4 : Nat) : Option (Ctl (Unit) (Int)) :=
  (idx s1 (k4 : Int)).bind fun x21 =>
  (f1 x21).bind fun x28 =>
  if x28 = true then
    some (.ret (k4 : Int))
  else
    some (.next ())

def p_slices_IndexFunc_LLint64_Lint64 (s1 : (List (List Int))) (f1 : (List Int) → Option Bool) : Option (Int) :=
  (forN (fun k s => p_slices_IndexFunc_LLint64_Lint64_L1 s1 f1 k ) (s1).length 0 ()).bind fun res2 => onRes res2 (fun r54 => some r54) fun _ =>
  some (-1 : Int)

def p_slices_ContainsFunc_LLint64_Lint64 (s1 : (List (List Int))) (f1 : (List Int) → Option Bool) : Option (Bool) :=
  (p_slices_IndexFunc_LLint64_Lint64 s1 f1).bind fun x1 =>
  some (decide (x1 ≥ (0 : Int)))

def p_impl_isCube_L1 (r_Table : (List (List (List Int)))) (k19 : Nat) : Option (Ctl (Unit) (Bool)) :=
  (idx r_Table (k19 : Int)).bind fun x36 =>
  (if (((x36).length : Int) != ((r_Table).length : Int)) = true then
    some true
  else
    (p_slices_ContainsFunc_LLint64_Lint64 x36 (fun a0_51 => p_impl_isCube_c1 a0_51 ((r_Table).length : Int))).bind fun x54 =>
    some x54).bind fun (x45 : Bool) =>
  if x45 = true then
    some (.ret false)
  else
    some (.next ())

def p_impl_isCube (r_Table : (List (List (List Int)))) : Option (Bool) :=
  (forN (fun k s => p_impl_isCube_L1 r_Table k ) (r_Table).length 0 ()).bind fun res17 => onRes res17 (fun r93 => some r93) fun _ =>
  some ((decide (((r_Table).length : Int) ≥ (1 : Int))) && (decide (((r_Table).length : Int) ≤ (16 : Int))))

def p_impl_delta (i : Int) (k1 : Int) : Option (Int) :=
  if (i == k1) = true then
    some (1 : Int)
  else
    some (0 : Int)

def p_impl_Ring_unitFault_L2 (r_Table : (List (List (List Int)))) (k12 : Nat) (k31 : Nat) : Option (Ctl (Unit) ((List Int))) :=
  (idx r_Table (0 : Int)).bind fun x77 =>
  (idx x77 (k12 : Int)).bind fun x116 =>
  (idx x116 (k31 : Int)).bind fun x155 =>
  (p_impl_delta (k12 : Int) (k31 : Int)).bind fun x202 =>
  (if (x155 != x202) = true then
    some true
  else
    (idx r_Table (k12 : Int)).bind fun x439 =>
    (idx x439 (0 : Int)).bind fun x474 =>
    (idx x474 (k31 : Int)).bind fun x525 =>
    (p_impl_delta (k12 : Int) (k31 : Int)).bind fun x588 =>
    some (x525 != x588)).bind fun (x234 : Bool) =>
  if x234 = true then
    some (.ret ([(0 : Int), (k12 : Int), (k31 : Int)] : (List Int)))
  else
    some (.next ())

def p_impl_Ring_unitFault_L1 (r_Table : (List (List (List Int)))) (k12 : Nat) : Option (Ctl (Unit) ((List Int))) :=
  (forN (fun k s => p_impl_Ring_unitFault_L2 r_Table k12 k ) (r_Table).length 0 ()).bind fun res29 => onRes res29 (fun r671 => some (.ret r671)) fun _ =>
  some (.next ())

def p_impl_Ring_unitFault (r_Table : (List (List (List Int)))) : Option ((List Int)) :=
  (forN (fun k s => p_impl_Ring_unitFault_L1 r_Table k ) (r_Table).length 0 ()).bind fun res10 => onRes res10 (fun r689 => some r689) fun _ =>
  some ([] : (List Int))

def p_impl_Ring_onlyOf_L1 (x9 : (List (List Int))) (k19 : Nat) (x20 : Int) : Option (Ctl (Int) (Int)) :=
  (idx x9 (k19 : Int)).bind fun x38 =>
  (idx x38 (0 : Int)).bind fun x45 =>
  if (x45 == (0 : Int)) = true then
    some (.next x20)
  else
    if ((decide (x20 ≥ (0 : Int))) || (x45 != (1 : Int))) = true then
      some (.ret (-1 : Int))
    else
      some (.next (k19 : Int))

def p_impl_Ring_onlyOf (r_Table : (List (List (List Int)))) (i : Int) : Option (Int) :=
  (idx r_Table i).bind fun x9 =>
  (forN (fun k s => p_impl_Ring_onlyOf_L1 x9 k s) (x9).length 0 (-1 : Int)).bind fun res17 => onRes res17 (fun r92 => some r92) fun (x88 : Int) =>
  some x88

def p_impl_Ring_dualFault_L1 (r_Table : (List (List (List Int)))) (k12 : Nat) : Option (Ctl (Unit) (Int)) :=
  (p_impl_Ring_onlyOf r_Table (k12 : Int)).bind fun x28 =>
  (if (decide (x28 < (0 : Int))) = true then
    some true
  else
    (p_impl_Ring_onlyOf r_Table x28).bind fun x41 =>
    some (x41 != (k12 : Int))).bind fun (x36 : Bool) =>
  if x36 = true then
    some (.ret (k12 : Int))
  else
    some (.next ())

def p_impl_Ring_dualFault (r_Table : (List (List (List Int)))) : Option (Int) :=
  (forN (fun k s => p_impl_Ring_dualFault_L1 r_Table k ) (r_Table).length 0 ()).bind fun res10 => onRes res10 (fun r73 => some r73) fun _ =>
  some (-1 : Int)

def p_impl_Ring_duals_L1 (r_Table : (List (List (List Int)))) (k16 : Nat) (x17 : (List Int)) : Option (Ctl ((List Int)) (Unit)) :=
  (p_impl_Ring_onlyOf r_Table (k16 : Int)).bind fun x35 =>
  (appL x17 ([x35] : (List Int))).bind fun x46 =>
  some (.next x46)

def p_impl_Ring_duals (r_Table : (List (List (List Int)))) : Option ((List Int)) :=
  (forN (fun k s => p_impl_Ring_duals_L1 r_Table k s) (r_Table).length 0 ([] : (List Int))).bind fun res14 => onRes res14 (fun r75 => none) fun (x71 : (List Int)) =>
  some x71

def p_impl_Ring_turnFault_L3 (r_Table : (List (List (List Int)))) (k23 : Nat) (k43 : Nat) (x9 : (List Int)) (k66 : Nat) : Option (Ctl (Unit) ((List Int))) :=
  (idx r_Table (k23 : Int)).bind fun x89 =>
  (idx x89 (k43 : Int)).bind fun x96 =>
  (idx x96 (k66 : Int)).bind fun x103 =>
  (idx x9 (k23 : Int)).bind fun x163 =>
  (idx r_Table x163).bind fun x195 =>
  (idx x195 (k66 : Int)).bind fun x234 =>
  (idx x234 (k43 : Int)).bind fun x273 =>
  (if (x103 != x273) = true then
    some true
  else
    (idx r_Table (k66 : Int)).bind fun x556 =>
    (idx x9 (k43 : Int)).bind fun x618 =>
    (idx x556 x618).bind fun x658 =>
    (idx x658 (k23 : Int)).bind fun x709 =>
    some (x103 != x709)).bind fun (x316 : Bool) =>
  if x316 = true then
    some (.ret ([(2 : Int), (k23 : Int), (k43 : Int), (k66 : Int)] : (List Int)))
  else
    some (.next ())

def p_impl_Ring_turnFault_L2 (r_Table : (List (List (List Int)))) (k23 : Nat) (x9 : (List Int)) (k43 : Nat) : Option (Ctl (Unit) ((List Int))) :=
  (forN (fun k s => p_impl_Ring_turnFault_L3 r_Table k23 k43 x9 k ) (r_Table).length 0 ()).bind fun res64 => onRes res64 (fun r825 => some (.ret r825)) fun _ =>
  some (.next ())

def p_impl_Ring_turnFault_L1 (r_Table : (List (List (List Int)))) (x9 : (List Int)) (k23 : Nat) : Option (Ctl (Unit) ((List Int))) :=
  (forN (fun k s => p_impl_Ring_turnFault_L2 r_Table k23 x9 k ) (r_Table).length 0 ()).bind fun res41 => onRes res41 (fun r851 => some (.ret r851)) fun _ =>
  some (.next ())

def p_impl_Ring_turnFault (r_Table : (List (List (List Int)))) : Option ((List Int)) :=
  (p_impl_Ring_duals r_Table).bind fun x9 =>
  (forN (fun k s => p_impl_Ring_turnFault_L1 r_Table x9 k ) (r_Table).length 0 ()).bind fun res21 => onRes res21 (fun r870 => some r870) fun _ =>
  some ([] : (List Int))

def p_impl_Ring_bracketFault_L5 (x29 : (List (List Int))) (k39 : Nat) (r_Table : (List (List (List Int)))) (k71 : Nat) (k100 : Nat) (x61 : (List (List Int))) (k132 : Nat) (x133 : Int) (x134 : Int) : Option (Ctl (Int × Int) (Unit)) :=
  (idx x29 (k39 : Int)).bind fun x206 =>
  (idx x206 (k132 : Int)).bind fun x245 =>
  (idx r_Table (k132 : Int)).bind fun x301 =>
  (idx x301 (k71 : Int)).bind fun x340 =>
  (idx x340 (k100 : Int)).bind fun x379 =>
  (idx x61 (k71 : Int)).bind fun x482 =>
  (idx x482 (k132 : Int)).bind fun x521 =>
  (idx x29 (k132 : Int)).bind fun x567 =>
  (idx x567 (k100 : Int)).bind fun x606 =>
  some (.next ((w64 (x133 + (w64 (x245 * x379)))), (w64 (x134 + (w64 (x521 * x606))))))

def p_impl_Ring_bracketFault_L4 (x29 : (List (List Int))) (k39 : Nat) (r_Table : (List (List (List Int)))) (k71 : Nat) (x61 : (List (List Int))) (k12 : Nat) (k100 : Nat) : Option (Ctl (Unit) ((List Int))) :=
  (forN (fun k s => p_impl_Ring_bracketFault_L5 x29 k39 r_Table k71 k100 x61 k s.1 s.2) (r_Table).length 0 ((0 : Int), (0 : Int))).bind fun res130 => onRes res130 (fun r740 => none) fun (s709p : Int × Int) =>
  if (s709p.1 != s709p.2) = true then
    some (.ret ([(3 : Int), (k12 : Int), (k39 : Int), (k71 : Int), (k100 : Int)] : (List Int)))
  else
    some (.next ())

def p_impl_Ring_bracketFault_L3 (x29 : (List (List Int))) (k39 : Nat) (r_Table : (List (List (List Int)))) (x61 : (List (List Int))) (k12 : Nat) (k71 : Nat) : Option (Ctl (Unit) ((List Int))) :=
  (forN (fun k s => p_impl_Ring_bracketFault_L4 x29 k39 r_Table k71 x61 k12 k ) (r_Table).length 0 ()).bind fun res98 => onRes res98 (fun r784 => some (.ret r784)) fun _ =>
  some (.next ())

def p_impl_Ring_bracketFault_L2 (r_Table : (List (List (List Int)))) (x29 : (List (List Int))) (k12 : Nat) (k39 : Nat) : Option (Ctl (Unit) ((List Int))) :=
  (idx r_Table (k39 : Int)).bind fun x61 =>
  (forN (fun k s => p_impl_Ring_bracketFault_L3 x29 k39 r_Table x61 k12 k ) (r_Table).length 0 ()).bind fun res69 => onRes res69 (fun r821 => some (.ret r821)) fun _ =>
  some (.next ())

def p_impl_Ring_bracketFault_L1 (r_Table : (List (List (List Int)))) (k12 : Nat) : Option (Ctl (Unit) ((List Int))) :=
  (idx r_Table (k12 : Int)).bind fun x29 =>
  (forN (fun k s => p_impl_Ring_bracketFault_L2 r_Table x29 k12 k ) (r_Table).length 0 ()).bind fun res37 => onRes res37 (fun r849 => some (.ret r849)) fun _ =>
  some (.next ())

def p_impl_Ring_bracketFault (r_Table : (List (List (List Int)))) : Option ((List Int)) :=
  (forN (fun k s => p_impl_Ring_bracketFault_L1 r_Table k ) (r_Table).length 0 ()).bind fun res10 => onRes res10 (fun r868 => some r868) fun _ =>
  some ([] : (List Int))

def p_impl_Ring_fault (r_Table : (List (List (List Int)))) : Option ((List Int)) :=
  (p_impl_Ring_unitFault r_Table).bind fun x9 =>
  if (!(x9).isEmpty) = true then
    some x9
  else
    (p_impl_Ring_dualFault r_Table).bind fun x19 =>
    if (decide (x19 ≥ (0 : Int))) = true then
      some ([(1 : Int), x19] : (List Int))
    else
      (p_impl_Ring_turnFault r_Table).bind fun x32 =>
      if (!(x32).isEmpty) = true then
        some x32
      else
        (p_impl_Ring_bracketFault r_Table).bind fun x42 =>
        some x42

def p_impl_IsRing (r_Table : (List (List (List Int)))) : Option (Bool) :=
  (p_impl_isCube r_Table).bind fun x9 =>
  (if x9 = true then
    (p_impl_Ring_fault r_Table).bind fun x21 =>
    some (x21).isEmpty
  else
    some false).bind fun (x16 : Bool) =>
  some x16

def p_slices_Clone_Lint64_int64 (s1 : (List Int)) : Option ((List Int)) :=
  (appL ([] : (List Int)) s1).bind fun x6 =>
  some x6

def p_impl_Ring_opposite_L2 (r_Table : (List (List (List Int)))) (k23 : Nat) (k50 : Nat) (x51 : (List (List Int))) : Option (Ctl ((List (List Int))) (Unit)) :=
  (idx r_Table (k50 : Int)).bind fun x74 =>
  (idx x74 (k23 : Int)).bind fun x81 =>
  (p_slices_Clone_Lint64_int64 x81).bind fun x88 =>
  (appL x51 [x88]).bind fun x101 =>
  some (.next x101)

def p_impl_Ring_opposite_L1 (r_Table : (List (List (List Int)))) (k23 : Nat) (x24 : (List (List (List Int)))) : Option (Ctl ((List (List (List Int)))) (Unit)) :=
  (forN (fun k s => p_impl_Ring_opposite_L2 r_Table k23 k s) (r_Table).length 0 ([] : (List (List Int)))).bind fun res48 => onRes res48 (fun r154 => none) fun (x131 : (List (List Int))) =>
  (appL x24 [x131]).bind fun x146 =>
  some (.next x146)

def p_impl_Ring_opposite (r_Table : (List (List (List Int)))) : Option ((List (List (List Int)))) :=
  (forN (fun k s => p_impl_Ring_opposite_L1 r_Table k s) (r_Table).length 0 ([] : (List (List (List Int))))).bind fun res21 => onRes res21 (fun r182 => none) fun (x175 : (List (List (List Int)))) =>
  some x175

def p_slices_EqualFunc_LLLint64_LLLint64_LLint64_LLint64_L1 (s1 : (List (List (List Int)))) (s2 : (List (List (List Int)))) (eq : ((List (List Int)) → (List (List Int)) → Option Bool)) (k8 : Nat) : Option (Ctl (Unit) (Bool)) :=
  (idx s1 (k8 : Int)).bind fun x26 =>
  (idx s2 (k8 : Int)).bind fun x33 =>
  (eq x26 x33).bind fun x40 =>
  if (!x40) = true then
    some (.ret false)
  else
    some (.next ())

def p_slices_EqualFunc_LLLint64_LLLint64_LLint64_LLint64 (s1 : (List (List (List Int)))) (s2 : (List (List (List Int)))) (eq : (List (List Int)) → (List (List Int)) → Option Bool) : Option (Bool) :=
  if (((s1).length : Int) != ((s2).length : Int)) = true then
    some false
  else
    (forN (fun k s => p_slices_EqualFunc_LLLint64_LLLint64_LLint64_LLint64_L1 s1 s2 eq k ) (s1).length 0 ()).bind fun res6 => onRes res6 (fun r67 => some r67) fun _ =>
    some true

def p_slices_EqualFunc_LLint64_LLint64_Lint64_Lint64_L1 (s1 : (List (List Int))) (s2 : (List (List Int))) (eq : ((List Int) → (List Int) → Option Bool)) (k8 : Nat) : Option (Ctl (Unit) (Bool)) :=
  (idx s1 (k8 : Int)).bind fun x26 =>
  (idx s2 (k8 : Int)).bind fun x33 =>
  (eq x26 x33).bind fun x40 =>
  if (!x40) = true then
    some (.ret false)
  else
    some (.next ())

def p_slices_EqualFunc_LLint64_LLint64_Lint64_Lint64 (s1 : (List (List Int))) (s2 : (List (List Int))) (eq : (List Int) → (List Int) → Option Bool) : Option (Bool) :=
  if (((s1).length : Int) != ((s2).length : Int)) = true then
    some false
  else
    (forN (fun k s => p_slices_EqualFunc_LLint64_LLint64_Lint64_Lint64_L1 s1 s2 eq k ) (s1).length 0 ()).bind fun res6 => onRes res6 (fun r67 => some r67) fun _ =>
    some true

def p_slices_Equal_Lint64_int64_L1 (s1 : (List Int)) (s2 : (List Int)) (k8 : Nat) : Option (Ctl (Unit) (Bool)) :=
  (idx s1 (k8 : Int)).bind fun x54 =>
  (idx s2 (k8 : Int)).bind fun x100 =>
  if (x54 != x100) = true then
    some (.ret false)
  else
    some (.next ())

def p_slices_Equal_Lint64_int64 (s1 : (List Int)) (s2 : (List Int)) : Option (Bool) :=
  if (((s1).length : Int) != ((s2).length : Int)) = true then
    some false
  else
    (forN (fun k s => p_slices_Equal_Lint64_int64_L1 s1 s2 k ) (s1).length 0 ()).bind fun res6 => onRes res6 (fun r154 => some r154) fun _ =>
    some true

def p_impl_equalTables_c1 (x : (List (List Int))) (y : (List (List Int))) : Option (Bool) :=
  (p_slices_EqualFunc_LLint64_LLint64_Lint64_Lint64 x y (fun a0_2 a1_2 => p_slices_Equal_Lint64_int64 a0_2 a1_2)).bind fun x5 =>
  some x5

def p_impl_equalTables (a : (List (List (List Int)))) (b : (List (List (List Int)))) : Option (Bool) :=
  (p_slices_EqualFunc_LLLint64_LLLint64_LLint64_LLint64 a b (fun a0_2 a1_2 => p_impl_equalTables_c1 a0_2 a1_2)).bind fun x5 =>
  some x5

def p_laws_eqInt64S_L1 (a : (List Int)) (b : (List Int)) (k7 : Nat) : Option (Ctl (Unit) (Bool)) :=
  (idx a (k7 : Int)).bind fun x53 =>
  (idx b (k7 : Int)).bind fun x99 =>
  if (x53 != x99) = true then
    some (.ret false)
  else
    some (.next ())

def p_laws_eqInt64S (a : (List Int)) (b : (List Int)) : Option (Bool) :=
  if (((a).length : Int) != ((b).length : Int)) = true then
    some false
  else
    (forN (fun k s => p_laws_eqInt64S_L1 a b k ) (a).length 0 ()).bind fun res5 => onRes res5 (fun r152 => some r152) fun _ =>
    some true

def p_laws_eqInt64SS_L1 (a : (List (List Int))) (b : (List (List Int))) (k7 : Nat) : Option (Ctl (Unit) (Bool)) :=
  (idx a (k7 : Int)).bind fun x53 =>
  (idx b (k7 : Int)).bind fun x99 =>
  (p_laws_eqInt64S x53 x99).bind fun x130 =>
  if (!x130) = true then
    some (.ret false)
  else
    some (.next ())

def p_laws_eqInt64SS (a : (List (List Int))) (b : (List (List Int))) : Option (Bool) :=
  if (((a).length : Int) != ((b).length : Int)) = true then
    some false
  else
    (forN (fun k s => p_laws_eqInt64SS_L1 a b k ) (a).length 0 ()).bind fun res5 => onRes res5 (fun r156 => some r156) fun _ =>
    some true

def p_laws_eqInt64SSS_L1 (a : (List (List (List Int)))) (b : (List (List (List Int)))) (k7 : Nat) : Option (Ctl (Unit) (Bool)) :=
  (idx a (k7 : Int)).bind fun x53 =>
  (idx b (k7 : Int)).bind fun x99 =>
  (p_laws_eqInt64SS x53 x99).bind fun x130 =>
  if (!x130) = true then
    some (.ret false)
  else
    some (.next ())

def p_laws_eqInt64SSS (a : (List (List (List Int)))) (b : (List (List (List Int)))) : Option (Bool) :=
  if (((a).length : Int) != ((b).length : Int)) = true then
    some false
  else
    (forN (fun k s => p_laws_eqInt64SSS_L1 a b k ) (a).length 0 ()).bind fun res5 => onRes res5 (fun r156 => some r156) fun _ =>
    some true

def p_laws_eqRing (a_Table : (List (List (List Int)))) (b_Table : (List (List (List Int)))) : Option (Bool) :=
  (p_laws_eqInt64SSS a_Table b_Table).bind fun x18 =>
  if (!x18) = true then
    some false
  else
    some true

def p_laws_szAction (a_Matrices : (List (List (List Int)))) (left : Int) : Option (Int) :=
  (p_laws_szInt64SSS a_Matrices left).bind fun x9 =>
  if (decide (x9 < (0 : Int))) = true then
    some (-1 : Int)
  else
    some x9

def p_laws_toAction (a_Matrices : (List (List (List Int)))) : Option ((List (List (List Int)))) :=
  (p_laws_toInt64SSS a_Matrices).bind fun x17 =>
  some x17

def p_spec_l09Family_L3 (x99 : (List Int)) (k111 : Nat) : Option (Ctl (Unit) (Bool)) :=
  (idx x99 (k111 : Int)).bind fun x135 =>
  (p_spec_l01In x135 (0 : Int) (1000 : Int)).bind fun x142 =>
  if (!x142) = true then
    some (.ret false)
  else
    some (.next ())

def p_spec_l09Family_L2 (x67 : (List (List Int))) (x30 : (List (List Int))) (k79 : Nat) : Option (Ctl (Unit) (Bool)) :=
  (idx x67 (k79 : Int)).bind fun x99 =>
  if (((x99).length : Int) != ((x30).length : Int)) = true then
    some (.ret false)
  else
    (forN (fun k s => p_spec_l09Family_L3 x99 k ) (x30).length 0 ()).bind fun res109 => onRes res109 (fun r173 => some (.ret r173)) fun _ =>
    some (.next ())

def p_spec_l09Family_L1 (a_Matrices : (List (List (List Int)))) (x30 : (List (List Int))) (k50 : Nat) : Option (Ctl (Unit) (Bool)) :=
  (idx a_Matrices (k50 : Int)).bind fun x67 =>
  if (((x67).length : Int) != ((x30).length : Int)) = true then
    some (.ret false)
  else
    (forN (fun k s => p_spec_l09Family_L2 x67 x30 k ) (x30).length 0 ()).bind fun res77 => onRes res77 (fun r195 => some (.ret r195)) fun _ =>
    some (.next ())

def p_spec_l09Family (r_Table : (List (List (List Int)))) (a_Matrices : (List (List (List Int)))) : Option (Bool) :=
  if ((((a_Matrices).length : Int) != ((r_Table).length : Int)) || (((a_Matrices).length : Int) == (0 : Int))) = true then
    some false
  else
    (idx a_Matrices (0 : Int)).bind fun x30 =>
    if ((decide (((x30).length : Int) < (1 : Int))) || (decide (((x30).length : Int) > (16 : Int)))) = true then
      some false
    else
      (forN (fun k s => p_spec_l09Family_L1 a_Matrices x30 k ) (a_Matrices).length 0 ()).bind fun res48 => onRes res48 (fun r214 => some r214) fun _ =>
      some true

def p_spec_l02Unit_L1 (n : Int) (k7 : Nat) (x8 : (List (List Int))) : Option (Ctl ((List (List Int))) (Unit)) :=
  (mkL n (0 : Int)).bind fun x25 =>
  (idx x25 (k7 : Int)).bind fun x31 =>
  (appL x8 [((x25).set ((k7 : Int)).toNat (1 : Int))]).bind fun x43 =>
  some (.next x43)

def p_spec_l02Unit (n : Int) : Option ((List (List Int))) :=
  (forN (fun k s => p_spec_l02Unit_L1 n k s) (n).toNat 0 ([] : (List (List Int)))).bind fun res5 => onRes res5 (fun r71 => none) fun (x67 : (List (List Int))) =>
  some x67

def p_spec_l01Same2_L1 (a : (List (List Int))) (b : (List (List Int))) (k7 : Nat) : Option (Ctl (Unit) (Bool)) :=
  (idx a (k7 : Int)).bind fun x53 =>
  (idx b (k7 : Int)).bind fun x99 =>
  (p_spec_l01Same x53 x99).bind fun x130 =>
  if (!x130) = true then
    some (.ret false)
  else
    some (.next ())

def p_spec_l01Same2 (a : (List (List Int))) (b : (List (List Int))) : Option (Bool) :=
  if (((a).length : Int) != ((b).length : Int)) = true then
    some false
  else
    (forN (fun k s => p_spec_l01Same2_L1 a b k ) (a).length 0 ()).bind fun res5 => onRes res5 (fun r156 => some r156) fun _ =>
    some true

def p_spec_l09Product_L3 (a_Matrices : (List (List (List Int)))) (i : Int) (k28 : Nat) (j : Int) (k49 : Nat) (k71 : Nat) (x72 : Int) : Option (Ctl (Int) (Unit)) :=
  (idx a_Matrices i).bind fun x142 =>
  (idx x142 (k28 : Int)).bind fun x181 =>
  (idx x181 (k71 : Int)).bind fun x220 =>
  (idx a_Matrices j).bind fun x276 =>
  (idx x276 (k71 : Int)).bind fun x315 =>
  (idx x315 (k49 : Int)).bind fun x354 =>
  some (.next (w64 (x72 + (w64 (x220 * x354)))))

def p_spec_l09Product_L4 (r_Table : (List (List (List Int)))) (i : Int) (j : Int) (a_Matrices : (List (List (List Int)))) (k28 : Nat) (k49 : Nat) (k448 : Nat) (x449 : Int) : Option (Ctl (Int) (Unit)) :=
  (idx r_Table i).bind fun x520 =>
  (idx x520 j).bind fun x559 =>
  (idx x559 (k448 : Int)).bind fun x598 =>
  (idx a_Matrices (k448 : Int)).bind fun x654 =>
  (idx x654 (k28 : Int)).bind fun x693 =>
  (idx x693 (k49 : Int)).bind fun x732 =>
  some (.next (w64 (x449 + (w64 (x598 * x732)))))

def p_spec_l09Product_L2 (a_Matrices : (List (List (List Int)))) (i : Int) (k28 : Nat) (j : Int) (x18 : (List (List Int))) (r_Table : (List (List (List Int)))) (k49 : Nat) : Option (Ctl (Unit) (Bool)) :=
  (forN (fun k s => p_spec_l09Product_L3 a_Matrices i k28 j k49 k s) (x18).length 0 (0 : Int)).bind fun res69 => onRes res69 (fun r828 => none) fun (x434 : Int) =>
  (forN (fun k s => p_spec_l09Product_L4 r_Table i j a_Matrices k28 k49 k s) (r_Table).length 0 (0 : Int)).bind fun res446 => onRes res446 (fun r827 => none) fun (x813 : Int) =>
  if (x434 != x813) = true then
    some (.ret false)
  else
    some (.next ())

def p_spec_l09Product_L1 (a_Matrices : (List (List (List Int)))) (i : Int) (j : Int) (x18 : (List (List Int))) (r_Table : (List (List (List Int)))) (k28 : Nat) : Option (Ctl (Unit) (Bool)) :=
  (forN (fun k s => p_spec_l09Product_L2 a_Matrices i k28 j x18 r_Table k ) (x18).length 0 ()).bind fun res47 => onRes res47 (fun r856 => some (.ret r856)) fun _ =>
  some (.next ())

def p_spec_l09Product (r_Table : (List (List (List Int)))) (a_Matrices : (List (List (List Int)))) (i : Int) (j : Int) : Option (Bool) :=
  (idx a_Matrices (0 : Int)).bind fun x18 =>
  (forN (fun k s => p_spec_l09Product_L1 a_Matrices i j x18 r_Table k ) (x18).length 0 ()).bind fun res26 => onRes res26 (fun r877 => some r877) fun _ =>
  some true

def p_spec_l03Duals_L1 (r_Table : (List (List (List Int)))) (k15 : Nat) (x16 : (List Int)) : Option (Ctl ((List Int)) (Unit)) :=
  (p_spec_l03Dual r_Table (k15 : Int)).bind fun x34 =>
  (appL x16 ([x34] : (List Int))).bind fun x45 =>
  some (.next x45)

def p_spec_l03Duals (r_Table : (List (List (List Int)))) : Option ((List Int)) :=
  (forN (fun k s => p_spec_l03Duals_L1 r_Table k s) (r_Table).length 0 ([] : (List Int))).bind fun res13 => onRes res13 (fun r74 => none) fun (x70 : (List Int)) =>
  some x70

def p_spec_l02Turn_L2 (a : (List (List Int))) (x9 : Int) (k40 : Nat) (x41 : (List Int)) : Option (Ctl ((List Int)) (Unit)) :=
  (idx a (k40 : Int)).bind fun x61 =>
  (idx x61 x9).bind fun x68 =>
  (appL x41 ([x68] : (List Int))).bind fun x79 =>
  some (.next x79)

def p_spec_l02Turn_L1 (a : (List (List Int))) (x8 : (List (List Int))) (x9 : Int) : Option (Ctl ((List (List Int)) × Int) (Unit)) :=
  (idx a (0 : Int)).bind fun x24 =>
  if (decide (x9 < ((x24).length : Int))) = true then
    (forN (fun k s => p_spec_l02Turn_L2 a x9 k s) (a).length 0 ([] : (List Int))).bind fun res38 => onRes res38 (fun r125 => none) fun (x106 : (List Int)) =>
    (appL x8 [x106]).bind fun x119 =>
    some (.next (x119, (w64 (x9 + (1 : Int)))))
  else
    some (.brk (x8, x9))

def p_spec_l02Turn (a : (List (List Int))) : Option ((List (List Int))) :=
  (whileC (fun s => p_spec_l02Turn_L1 a s.1 s.2) (([] : (List (List Int))), (0 : Int))).bind fun res5 => onRes res5 (fun r136 => none) fun (s130p : (List (List Int)) × Int) =>
  some s130p.1

def p_spec_l09Fault_L2 (r_Table : (List (List (List Int)))) (a_Matrices : (List (List (List Int)))) (k165 : Nat) (k184 : Nat) : Option (Ctl (Unit) ((List Int))) :=
  (p_spec_l09Product r_Table a_Matrices (k165 : Int) (k184 : Int)).bind fun x202 =>
  if (!x202) = true then
    some (.ret ([(1 : Int), (k165 : Int), (k184 : Int)] : (List Int)))
  else
    some (.next ())

def p_spec_l09Fault_L1 (r_Table : (List (List (List Int)))) (a_Matrices : (List (List (List Int)))) (k165 : Nat) : Option (Ctl (Unit) ((List Int))) :=
  (forN (fun k s => p_spec_l09Fault_L2 r_Table a_Matrices k165 k ) (r_Table).length 0 ()).bind fun res182 => onRes res182 (fun r237 => some (.ret r237)) fun _ =>
  some (.next ())

def p_spec_l09Fault_L3 (x259 : (List Int)) (a_Matrices : (List (List (List Int)))) (k274 : Nat) : Option (Ctl (Unit) ((List Int))) :=
  (idx x259 (k274 : Int)).bind fun x337 =>
  (idx a_Matrices x337).bind fun x369 =>
  (idx a_Matrices (k274 : Int)).bind fun x425 =>
  (p_spec_l02Turn x425).bind fun x452 =>
  (p_spec_l01Same2 x369 x452).bind fun x481 =>
  if (!x481) = true then
    some (.ret ([(2 : Int), (k274 : Int)] : (List Int)))
  else
    some (.next ())

def p_spec_l09Fault (r_Table : (List (List (List Int)))) (a_Matrices : (List (List (List Int)))) : Option ((List Int)) :=
  (idx a_Matrices (0 : Int)).bind fun x46 =>
  (p_spec_l02Unit ((x46).length : Int)).bind fun x125 =>
  (p_spec_l01Same2 x46 x125).bind fun x151 =>
  if (!x151) = true then
    some ([(0 : Int)] : (List Int))
  else
    (forN (fun k s => p_spec_l09Fault_L1 r_Table a_Matrices k ) (r_Table).length 0 ()).bind fun res163 => onRes res163 (fun r512 => some r512) fun _ =>
    (p_spec_l03Duals r_Table).bind fun x259 =>
    (forN (fun k s => p_spec_l09Fault_L3 x259 a_Matrices k ) (r_Table).length 0 ()).bind fun res272 => onRes res272 (fun r511 => some r511) fun _ =>
    some ([] : (List Int))

def p_spec_l09Is (r_Table : (List (List (List Int)))) (a_Matrices : (List (List (List Int)))) : Option (Bool) :=
  (p_spec_l03Is r_Table).bind fun x18 =>
  (if x18 = true then
    (p_spec_l09Family r_Table a_Matrices).bind fun x30 =>
    some x30
  else
    some false).bind fun (x25 : Bool) =>
  (if x25 = true then
    (p_spec_l09Fault r_Table a_Matrices).bind fun x46 =>
    some (((x46).length : Int) == (0 : Int))
  else
    some false).bind fun (x41 : Bool) =>
  some x41

def p_spec_l03Label (r_Table : (List (List (List Int)))) (i : Int) : Option (Bool) :=
  (p_spec_l01In i (0 : Int) (w64 (((r_Table).length : Int) - (1 : Int)))).bind fun x10 =>
  some x10

def p_spec_l09Size (a_Matrices : (List (List (List Int)))) : Option (Int) :=
  (idx a_Matrices (0 : Int)).bind fun x9 =>
  some ((x9).length : Int)

def p_spec_CountFixedPoints_L1 (x60 : (List (List Int))) (x41 : (List (List Int))) (k75 : Nat) (x76 : Int) : Option (Ctl (Int) (Unit)) :=
  (idx x60 (k75 : Int)).bind fun x124 =>
  (idx x41 (k75 : Int)).bind fun x170 =>
  (p_spec_l01Same x124 x170).bind fun x202 =>
  (if x202 = true then
    some (w64 (x76 + (1 : Int)))
  else
    some x76).bind fun (x208 : Int) =>
  some (.next x208)

def p_spec_CountFixedPoints (r_Table : (List (List (List Int)))) (a_Matrices : (List (List (List Int)))) (i : Int) : Option (Int × Int) :=
  (p_spec_l09Is r_Table a_Matrices).bind fun x18 =>
  if (!x18) = true then
    some ((0 : Int), (1 : Int))
  else
    (p_spec_l03Label r_Table i).bind fun x26 =>
    if (!x26) = true then
      some ((0 : Int), (2 : Int))
    else
      (p_spec_l09Size a_Matrices).bind fun x34 =>
      (p_spec_l02Unit x34).bind fun x41 =>
      (idx a_Matrices i).bind fun x53 =>
      (p_spec_l02Turn x53).bind fun x60 =>
      (forN (fun k s => p_spec_CountFixedPoints_L1 x60 x41 k s) (x60).length 0 (0 : Int)).bind fun res73 => onRes res73 (fun r244 => none) fun (x240 : Int) =>
      some (x240, (0 : Int))

def p_impl_isFamily_c1 (row : (List Int)) (c0 : Int) : Option (Bool) :=
  (if (((row).length : Int) != c0) = true then
    some true
  else
    (p_impl_allWithin row (0 : Int) (1000 : Int)).bind fun x8 =>
    some (!x8)).bind fun (x3 : Bool) =>
  some x3

def p_impl_isFamily_L1 (a_Matrices : (List (List (List Int)))) (x22 : (List (List Int))) (k39 : Nat) : Option (Ctl (Unit) (Bool)) :=
  (idx a_Matrices (k39 : Int)).bind fun x56 =>
  (if (((x56).length : Int) != ((x22).length : Int)) = true then
    some true
  else
    (p_slices_ContainsFunc_LLint64_Lint64 x56 (fun a0_71 => p_impl_isFamily_c1 a0_71 ((x22).length : Int))).bind fun x74 =>
    some x74).bind fun (x65 : Bool) =>
  if x65 = true then
    some (.ret false)
  else
    some (.next ())

def p_impl_isFamily (r_Table : (List (List (List Int)))) (a_Matrices : (List (List (List Int)))) : Option (Bool) :=
  if (((a_Matrices).length : Int) != ((r_Table).length : Int)) = true then
    some false
  else
    (idx a_Matrices (0 : Int)).bind fun x22 =>
    (forN (fun k s => p_impl_isFamily_L1 a_Matrices x22 k ) (a_Matrices).length 0 ()).bind fun res37 => onRes res37 (fun r113 => some r113) fun _ =>
    some ((decide (((x22).length : Int) ≥ (1 : Int))) && (decide (((x22).length : Int) ≤ (16 : Int))))

def p_impl_zeros_L1 (columns : Int) (k7 : Nat) (x8 : (List (List Int))) : Option (Ctl ((List (List Int))) (Unit)) :=
  (mkL columns (0 : Int)).bind fun x26 =>
  (appL x8 [x26]).bind fun x38 =>
  some (.next x38)

def p_impl_zeros (rows : Int) (columns : Int) : Option ((List (List Int))) :=
  (forN (fun k s => p_impl_zeros_L1 columns k s) (rows).toNat 0 ([] : (List (List Int)))).bind fun res5 => onRes res5 (fun r67 => none) fun (x63 : (List (List Int))) =>
  some x63

def p_impl_unitMatrix_L1 (number : Int) (k10 : Nat) (x11 : (List (List Int))) : Option (Ctl ((List (List Int))) (Unit)) :=
  (idx x11 (k10 : Int)).bind fun x28 =>
  (idx x28 (k10 : Int)).bind fun x35 =>
  some (.next ((x11).set ((k10 : Int)).toNat ((x28).set ((k10 : Int)).toNat number)))

def p_impl_unitMatrix (n : Int) (number : Int) : Option ((List (List Int))) :=
  (p_impl_zeros n n).bind fun x1 =>
  (forN (fun k s => p_impl_unitMatrix_L1 number k s) (n).toNat 0 x1).bind fun res8 => onRes res8 (fun r62 => none) fun (x59 : (List (List Int))) =>
  some x59

def p_impl_equalRows (a : (List (List Int))) (b : (List (List Int))) : Option (Bool) :=
  (p_slices_EqualFunc_LLint64_LLint64_Lint64_Lint64 a b (fun a0_2 a1_2 => p_slices_Equal_Lint64_int64 a0_2 a1_2)).bind fun x5 =>
  some x5

def p_impl_whole_L3 (x79 : (List Int)) (k20 : Nat) (x72 : Int) (k89 : Nat) (x90 : (List (List Int))) : Option (Ctl ((List (List Int))) (Unit)) :=
  (idx x79 (k89 : Int)).bind fun x116 =>
  (idx x90 (k20 : Int)).bind fun x123 =>
  (idx x123 (k89 : Int)).bind fun x130 =>
  some (.next ((x90).set ((k20 : Int)).toNat ((x123).set ((k89 : Int)).toNat (w64 (x130 + (w64 (x72 * x116)))))))

def p_impl_whole_L2 (x39 : (List Int)) (b : (List (List Int))) (k20 : Nat) (k49 : Nat) (x50 : (List (List Int))) : Option (Ctl ((List (List Int))) (Unit)) :=
  (idx x39 (k49 : Int)).bind fun x72 =>
  (idx b (k49 : Int)).bind fun x79 =>
  (forN (fun k s => p_impl_whole_L3 x79 k20 x72 k s) (x79).length 0 x50).bind fun res87 => onRes res87 (fun r177 => none) fun (x166 : (List (List Int))) =>
  some (.next x166)

def p_impl_whole_L1 (a : (List (List Int))) (b : (List (List Int))) (k20 : Nat) (x21 : (List (List Int))) : Option (Ctl ((List (List Int))) (Unit)) :=
  (idx a (k20 : Int)).bind fun x39 =>
  (forN (fun k s => p_impl_whole_L2 x39 b k20 k s) (x39).length 0 x21).bind fun res47 => onRes res47 (fun r208 => none) fun (x201 : (List (List Int))) =>
  some (.next x201)

def p_impl_whole (a : (List (List Int))) (b : (List (List Int))) : Option ((List (List Int))) :=
  (idx b (0 : Int)).bind fun x2 =>
  (p_impl_zeros ((a).length : Int) ((x2).length : Int)).bind fun x10 =>
  (forN (fun k s => p_impl_whole_L1 a b k s) (a).length 0 x10).bind fun res18 => onRes res18 (fun r231 => none) fun (x228 : (List (List Int))) =>
  some x228

def p_impl_transpose_L2 (x38 : (List Int)) (k20 : Nat) (k48 : Nat) (x49 : (List (List Int))) : Option (Ctl ((List (List Int))) (Unit)) :=
  (idx x38 (k48 : Int)).bind fun x70 =>
  (idx x49 (k48 : Int)).bind fun x77 =>
  (idx x77 (k20 : Int)).bind fun x84 =>
  some (.next ((x49).set ((k48 : Int)).toNat ((x77).set ((k20 : Int)).toNat x70)))

def p_impl_transpose_L1 (a : (List (List Int))) (k20 : Nat) (x21 : (List (List Int))) : Option (Ctl ((List (List Int))) (Unit)) :=
  (idx a (k20 : Int)).bind fun x38 =>
  (forN (fun k s => p_impl_transpose_L2 x38 k20 k s) (x38).length 0 x21).bind fun res46 => onRes res46 (fun r118 => none) fun (x112 : (List (List Int))) =>
  some (.next x112)

def p_impl_transpose (a : (List (List Int))) : Option ((List (List Int))) :=
  (idx a (0 : Int)).bind fun x1 =>
  (p_impl_zeros ((x1).length : Int) ((a).length : Int)).bind fun x10 =>
  (forN (fun k s => p_impl_transpose_L1 a k s) (a).length 0 x10).bind fun res18 => onRes res18 (fun r140 => none) fun (x137 : (List (List Int))) =>
  some x137

def p_impl_actionFault_L5 (x292 : (List Int)) (k257 : Nat) (x240 : Int) (k302 : Nat) (x303 : (List (List Int))) : Option (Ctl ((List (List Int))) (Unit)) :=
  (idx x292 (k302 : Int)).bind fun x341 =>
  (idx x303 (k257 : Int)).bind fun x348 =>
  (idx x348 (k302 : Int)).bind fun x355 =>
  some (.next ((x303).set ((k257 : Int)).toNat ((x348).set ((k302 : Int)).toNat (w64 (x355 + (w64 (x240 * x341)))))))

def p_impl_actionFault_L4 (x247 : (List (List Int))) (x240 : Int) (k257 : Nat) (x258 : (List (List Int))) : Option (Ctl ((List (List Int))) (Unit)) :=
  (idx x247 (k257 : Int)).bind fun x292 =>
  (forN (fun k s => p_impl_actionFault_L5 x292 k257 x240 k s) (x292).length 0 x258).bind fun res300 => onRes res300 (fun r426 => none) fun (x403 : (List (List Int))) =>
  some (.next x403)

def p_impl_actionFault_L3 (x199 : (List Int)) (a_Matrices : (List (List (List Int)))) (k209 : Nat) (x210 : (List (List Int))) : Option (Ctl ((List (List Int))) (Unit)) :=
  (idx x199 (k209 : Int)).bind fun x240 =>
  (idx a_Matrices (k209 : Int)).bind fun x247 =>
  (forN (fun k s => p_impl_actionFault_L4 x247 x240 k s) (x247).length 0 x210).bind fun res255 => onRes res255 (fun r481 => none) fun (x462 : (List (List Int))) =>
  some (.next x462)

def p_impl_actionFault_L2 (a_Matrices : (List (List (List Int)))) (x18 : (List (List Int))) (r_Table : (List (List (List Int)))) (k125 : Nat) (x144 : (List (List Int))) (k154 : Nat) : Option (Ctl (Unit) ((List Int))) :=
  (idx a_Matrices (k154 : Int)).bind fun x178 =>
  (p_impl_zeros ((x18).length : Int) ((x18).length : Int)).bind fun x185 =>
  (idx r_Table (k125 : Int)).bind fun x192 =>
  (idx x192 (k154 : Int)).bind fun x199 =>
  (forN (fun k s => p_impl_actionFault_L3 x199 a_Matrices k s) (x199).length 0 x185).bind fun res207 => onRes res207 (fun r548 => none) fun (x513 : (List (List Int))) =>
  (p_impl_whole x144 x178).bind fun x529 =>
  (p_impl_equalRows x513 x529).bind fun x536 =>
  if (!x536) = true then
    some (.ret ([(1 : Int), (k125 : Int), (k154 : Int)] : (List Int)))
  else
    some (.next ())

def p_impl_actionFault_L1 (a_Matrices : (List (List (List Int)))) (x18 : (List (List Int))) (r_Table : (List (List (List Int)))) (k125 : Nat) : Option (Ctl (Unit) ((List Int))) :=
  (idx a_Matrices (k125 : Int)).bind fun x144 =>
  (forN (fun k s => p_impl_actionFault_L2 a_Matrices x18 r_Table k125 x144 k ) (a_Matrices).length 0 ()).bind fun res152 => onRes res152 (fun r580 => some (.ret r580)) fun _ =>
  some (.next ())

def p_impl_actionFault_L6 (x603 : (List Int)) (a_Matrices : (List (List (List Int)))) (k619 : Nat) : Option (Ctl (Unit) ((List Int))) :=
  (idx x603 (k619 : Int)).bind fun x636 =>
  (idx a_Matrices x636).bind fun x682 =>
  (idx a_Matrices (k619 : Int)).bind fun x738 =>
  (p_impl_transpose x738).bind fun x765 =>
  (p_impl_equalRows x682 x765).bind fun x795 =>
  if (!x795) = true then
    some (.ret ([(2 : Int), (k619 : Int)] : (List Int)))
  else
    some (.next ())

def p_impl_actionFault (r_Table : (List (List (List Int)))) (a_Matrices : (List (List (List Int)))) : Option ((List Int)) :=
  (idx a_Matrices (0 : Int)).bind fun x18 =>
  (p_impl_unitMatrix ((x18).length : Int) (1 : Int)).bind fun x84 =>
  (p_impl_equalRows x18 x84).bind fun x110 =>
  if (!x110) = true then
    some ([(0 : Int)] : (List Int))
  else
    (forN (fun k s => p_impl_actionFault_L1 a_Matrices x18 r_Table k ) (a_Matrices).length 0 ()).bind fun res123 => onRes res123 (fun r826 => some r826) fun _ =>
    (p_impl_Ring_duals r_Table).bind fun x603 =>
    (forN (fun k s => p_impl_actionFault_L6 x603 a_Matrices k ) (x603).length 0 ()).bind fun res617 => onRes res617 (fun r825 => some r825) fun _ =>
    some ([] : (List Int))

def p_impl_IsAction (r_Table : (List (List (List Int)))) (a_Matrices : (List (List (List Int)))) : Option (Bool) :=
  (p_impl_IsRing r_Table).bind fun x18 =>
  (if x18 = true then
    (p_impl_isFamily r_Table a_Matrices).bind fun x30 =>
    some x30
  else
    some false).bind fun (x25 : Bool) =>
  (if x25 = true then
    (p_impl_actionFault r_Table a_Matrices).bind fun x46 =>
    some (x46).isEmpty
  else
    some false).bind fun (x41 : Bool) =>
  some x41

def p_impl_Ring_isLabel (r_Table : (List (List (List Int)))) (i : Int) : Option (Bool) :=
  (p_impl_within i (0 : Int) (w64 (((r_Table).length : Int) - (1 : Int)))).bind fun x10 =>
  some x10

def p_impl_Action_points (a_Matrices : (List (List (List Int)))) : Option (Int) :=
  (idx a_Matrices (0 : Int)).bind fun x9 =>
  some ((x9).length : Int)

def p_impl_CountFixedPoints_L1 (x60 : (List (List Int))) (x41 : (List (List Int))) (k76 : Nat) (x77 : Int) : Option (Ctl (Int) (Unit)) :=
  (idx x60 (k76 : Int)).bind fun x96 =>
  (idx x41 (k76 : Int)).bind fun x103 =>
  (p_slices_Equal_Lint64_int64 x96 x103).bind fun x110 =>
  (if x110 = true then
    some (w64 (x77 + (1 : Int)))
  else
    some x77).bind fun (x116 : Int) =>
  some (.next x116)

def p_impl_CountFixedPoints (r_Table : (List (List (List Int)))) (a_Matrices : (List (List (List Int)))) (i : Int) : Option (Int × Int) :=
  (p_impl_IsAction r_Table a_Matrices).bind fun x18 =>
  if (!x18) = true then
    some ((0 : Int), (1 : Int))
  else
    (p_impl_Ring_isLabel r_Table i).bind fun x26 =>
    if (!x26) = true then
      some ((0 : Int), (2 : Int))
    else
      (p_impl_Action_points a_Matrices).bind fun x34 =>
      (p_impl_unitMatrix x34 (1 : Int)).bind fun x41 =>
      (idx a_Matrices i).bind fun x53 =>
      (p_impl_transpose x53).bind fun x60 =>
      (forN (fun k s => p_impl_CountFixedPoints_L1 x60 x41 k s) (x60).length 0 (0 : Int)).bind fun res74 => onRes res74 (fun r153 => none) fun (x149 : Int) =>
      some (x149, (0 : Int))

def p_laws_eqAction (a_Matrices : (List (List (List Int)))) (b_Matrices : (List (List (List Int)))) : Option (Bool) :=
  (p_laws_eqInt64SSS a_Matrices b_Matrices).bind fun x18 =>
  if (!x18) = true then
    some false
  else
    some true

def p_laws_FnExactCountFixedPoints (aR_Table : (List (List (List Int)))) (aA_Matrices : (List (List (List Int)))) (aI : Int) : Option (Bool) :=
  (p_laws_szRing aR_Table (1048576 : Int)).bind fun x18 =>
  if (decide (x18 < (0 : Int))) = true then
    some true
  else
    (p_laws_szAction aA_Matrices x18).bind fun x27 =>
    if (decide (x27 < (0 : Int))) = true then
      some true
    else
      (p_laws_toRing aR_Table).bind fun x55 =>
      (p_laws_toAction aA_Matrices).bind fun x80 =>
      (p_spec_CountFixedPoints x55 x80 aI).bind fun x114 =>
      (p_laws_toRing aR_Table).bind fun x184 =>
      (p_laws_toAction aA_Matrices).bind fun x197 =>
      (p_impl_CountFixedPoints x184 x197 aI).bind fun x210 =>
      if ((x210.1 != x114.1) || (x210.2 != x114.2)) = true then
        some false
      else
        (p_laws_toRing aR_Table).bind fun x256 =>
        (p_laws_eqRing x184 x256).bind fun x279 =>
        if (!x279) = true then
          some false
        else
          (p_laws_toAction aA_Matrices).bind fun x313 =>
          (p_laws_eqAction x197 x313).bind fun x334 =>
          if (!x334) = true then
            some false
          else
            some true

def p_laws_markInt64S_L1  (k3 : Nat) (x4 : (List Int)) (x5 : Int) : Option (Ctl ((List Int) × Int) (Unit)) :=
  (idx x4 (k3 : Int)).bind fun x24 =>
  some (.next (((x4).set ((k3 : Int)).toNat x5), (w64 (x5 + (1 : Int)))))

def p_laws_markInt64S (a : (List Int)) (k1 : Int) : Option (Int × (List Int)) :=
  (forN (fun k s => p_laws_markInt64S_L1  k s.1 s.2) (a).length 0 (a, k1)).bind fun res1 => onRes res1 (fun r57 => none) fun (s50p : (List Int) × Int) =>
  some (s50p.2, s50p.1)

def p_laws_markInt64SS_L1  (k3 : Nat) (x4 : (List (List Int))) (x5 : Int) : Option (Ctl ((List (List Int)) × Int) (Unit)) :=
  (idx x4 (k3 : Int)).bind fun x24 =>
  (p_laws_markInt64S x24 x5).bind fun x32 =>
  some (.next (((x4).set ((k3 : Int)).toNat x32.2), x32.1))

def p_laws_markInt64SS (a : (List (List Int))) (k1 : Int) : Option (Int × (List (List Int))) :=
  (forN (fun k s => p_laws_markInt64SS_L1  k s.1 s.2) (a).length 0 (a, k1)).bind fun res1 => onRes res1 (fun r67 => none) fun (s60p : (List (List Int)) × Int) =>
  some (s60p.2, s60p.1)

def p_laws_markInt64SSS_L1  (k3 : Nat) (x4 : (List (List (List Int)))) (x5 : Int) : Option (Ctl ((List (List (List Int))) × Int) (Unit)) :=
  (idx x4 (k3 : Int)).bind fun x24 =>
  (p_laws_markInt64SS x24 x5).bind fun x32 =>
  some (.next (((x4).set ((k3 : Int)).toNat x32.2), x32.1))

def p_laws_markInt64SSS (a : (List (List (List Int)))) (k1 : Int) : Option (Int × (List (List (List Int)))) :=
  (forN (fun k s => p_laws_markInt64SSS_L1  k s.1 s.2) (a).length 0 (a, k1)).bind fun res1 => onRes res1 (fun r67 => none) fun (s60p : (List (List (List Int))) × Int) =>
  some (s60p.2, s60p.1)

def p_laws_markRing (a_Table : (List (List (List Int)))) (k1 : Int) : Option (Int × (List (List (List Int)))) :=
  (p_laws_markInt64SSS a_Table k1).bind fun x6 =>
  some (x6.1, x6.2)

def p_laws_heldInt64S_L1 (a : (List Int)) (k3 : Nat) (x4 : Int) : Option (Ctl (Int) (Int)) :=
  (idx a (k3 : Int)).bind fun x22 =>
  if (x22 != x4) = true then
    some (.ret (-1 : Int))
  else
    some (.next (w64 (x4 + (1 : Int))))

def p_laws_heldInt64S (a : (List Int)) (k1 : Int) : Option (Int) :=
  (forN (fun k s => p_laws_heldInt64S_L1 a k s) (a).length 0 k1).bind fun res1 => onRes res1 (fun r54 => some r54) fun (x50 : Int) =>
  some x50

end
end Go.VG
