/- The functions' plain twins, as a program of ours printed them. No proof. -/
import Derived.Test.YtbgebkgpodgjdaaVgPure
import Derived.Test.YtbgebkgpodgjdaaVgMap
set_option linter.all false
namespace Go.VG
noncomputable section

def p_laws_szInt64S (a : (List Int)) (left : Int) : Option (Int) :=
  if (decide ((w64 (left - ((a).length : Int))) < (0 : Int))) = true then
    some (-1 : Int)
  else
    some (w64 (left - ((a).length : Int)))

def p_laws_szInt64SS_L1 (a : (List (List Int))) (k6 : Nat) (x7 : Int) : Option (Ctl (Int) (Int)) :=
  (idx a (k6 : Int)).bind fun x25 =>
  (p_laws_szInt64S x25 x7).bind fun x32 =>
  if (decide (x32 < (0 : Int))) = true then
    some (.ret (-1 : Int))
  else
    some (.next x32)

def p_laws_szInt64SS (a : (List (List Int))) (left : Int) : Option (Int) :=
  if (decide ((w64 (left - ((a).length : Int))) < (0 : Int))) = true then
    some (-1 : Int)
  else
    (forN (fun k s => p_laws_szInt64SS_L1 a k s) (a).length 0 (w64 (left - ((a).length : Int)))).bind fun res4 => onRes res4 (fun r64 => some r64) fun (x60 : Int) =>
    some x60

def p_laws_szInt64SSS_L1 (a : (List (List (List Int)))) (k6 : Nat) (x7 : Int) : Option (Ctl (Int) (Int)) :=
  (idx a (k6 : Int)).bind fun x25 =>
  (p_laws_szInt64SS x25 x7).bind fun x32 =>
  if (decide (x32 < (0 : Int))) = true then
    some (.ret (-1 : Int))
  else
    some (.next x32)

def p_laws_szInt64SSS (a : (List (List (List Int)))) (left : Int) : Option (Int) :=
  if (decide ((w64 (left - ((a).length : Int))) < (0 : Int))) = true then
    some (-1 : Int)
  else
    (forN (fun k s => p_laws_szInt64SSS_L1 a k s) (a).length 0 (w64 (left - ((a).length : Int)))).bind fun res4 => onRes res4 (fun r64 => some r64) fun (x60 : Int) =>
    some x60

def p_laws_szRing (a_Table : (List (List (List Int)))) (left : Int) : Option (Int) :=
  (p_laws_szInt64SSS a_Table left).bind fun x9 =>
  if (decide (x9 < (0 : Int))) = true then
    some (-1 : Int)
  else
    some x9

def p_laws_toInt64S_L1 (a : (List Int)) (k10 : Nat) (x11 : (List Int)) : Option (Ctl ((List Int)) (Unit)) :=
  (idx a (k10 : Int)).bind fun x28 =>
  (idx x11 (k10 : Int)).bind fun x35 =>
  some (.next ((x11).set ((k10 : Int)).toNat x28))

def p_laws_toInt64S (a : (List Int)) : Option ((List Int)) :=
  (mkL ((a).length : Int) (0 : Int)).bind fun x2 =>
  (forN (fun k s => p_laws_toInt64S_L1 a k s) (a).length 0 x2).bind fun res8 => onRes res8 (fun r62 => none) fun (x59 : (List Int)) =>
  some x59

def p_laws_toInt64SS_L1 (a : (List (List Int))) (k10 : Nat) (x11 : (List (List Int))) : Option (Ctl ((List (List Int))) (Unit)) :=
  (idx a (k10 : Int)).bind fun x28 =>
  (p_laws_toInt64S x28).bind fun x35 =>
  (idx x11 (k10 : Int)).bind fun x42 =>
  some (.next ((x11).set ((k10 : Int)).toNat x35))

def p_laws_toInt64SS (a : (List (List Int))) : Option ((List (List Int))) :=
  (mkL ((a).length : Int) ([] : (List Int))).bind fun x2 =>
  (forN (fun k s => p_laws_toInt64SS_L1 a k s) (a).length 0 x2).bind fun res8 => onRes res8 (fun r69 => none) fun (x66 : (List (List Int))) =>
  some x66

def p_laws_toInt64SSS_L1 (a : (List (List (List Int)))) (k10 : Nat) (x11 : (List (List (List Int)))) : Option (Ctl ((List (List (List Int)))) (Unit)) :=
  (idx a (k10 : Int)).bind fun x28 =>
  (p_laws_toInt64SS x28).bind fun x35 =>
  (idx x11 (k10 : Int)).bind fun x42 =>
  some (.next ((x11).set ((k10 : Int)).toNat x35))

def p_laws_toInt64SSS (a : (List (List (List Int)))) : Option ((List (List (List Int)))) :=
  (mkL ((a).length : Int) ([] : (List (List Int)))).bind fun x2 =>
  (forN (fun k s => p_laws_toInt64SSS_L1 a k s) (a).length 0 x2).bind fun res8 => onRes res8 (fun r69 => none) fun (x66 : (List (List (List Int)))) =>
  some x66

def p_laws_toRing (a_Table : (List (List (List Int)))) : Option ((List (List (List Int)))) :=
  (p_laws_toInt64SSS a_Table).bind fun x17 =>
  some x17

def p_spec_l01In (n : Int) (low : Int) (high : Int) : Option (Bool) :=
  some ((decide (n ≥ low)) && (decide (n ≤ high)))

def p_spec_l03Cube_L3 (x62 : (List Int)) (k74 : Nat) : Option (Ctl (Unit) (Bool)) :=
  (idx x62 (k74 : Int)).bind fun x98 =>
  (p_spec_l01In x98 (0 : Int) (1000 : Int)).bind fun x105 =>
  if (!x105) = true then
    some (.ret false)
  else
    some (.next ())

def p_spec_l03Cube_L2 (x30 : (List (List Int))) (t : (List (List (List Int)))) (k42 : Nat) : Option (Ctl (Unit) (Bool)) :=
  (idx x30 (k42 : Int)).bind fun x62 =>
  if (((x62).length : Int) != ((t).length : Int)) = true then
    some (.ret false)
  else
    (forN (fun k s => p_spec_l03Cube_L3 x62 k ) (t).length 0 ()).bind fun res72 => onRes res72 (fun r136 => some (.ret r136)) fun _ =>
    some (.next ())

def p_spec_l03Cube_L1 (t : (List (List (List Int)))) (k14 : Nat) : Option (Ctl (Unit) (Bool)) :=
  (idx t (k14 : Int)).bind fun x30 =>
  if (((x30).length : Int) != ((t).length : Int)) = true then
    some (.ret false)
  else
    (forN (fun k s => p_spec_l03Cube_L2 x30 t k ) (t).length 0 ()).bind fun res40 => onRes res40 (fun r158 => some (.ret r158)) fun _ =>
    some (.next ())

def p_spec_l03Cube (t : (List (List (List Int)))) : Option (Bool) :=
  if ((decide (((t).length : Int) < (1 : Int))) || (decide (((t).length : Int) > (16 : Int)))) = true then
    some false
  else
    (forN (fun k s => p_spec_l03Cube_L1 t k ) (t).length 0 ()).bind fun res12 => onRes res12 (fun r176 => some r176) fun _ =>
    some true

def p_spec_l03Dual_L1 (t : (List (List (List Int)))) (i : Int) (k3 : Nat) (x4 : Int) : Option (Ctl (Int) (Int)) :=
  (idx t i).bind fun x23 =>
  (idx x23 (k3 : Int)).bind fun x30 =>
  (idx x30 (0 : Int)).bind fun x37 =>
  if ((x37 == (1 : Int)) && (decide (x4 < (0 : Int)))) = true then
    some (.next (k3 : Int))
  else
    if (x37 != (0 : Int)) = true then
      some (.ret (-1 : Int))
    else
      some (.next x4)

def p_spec_l03Dual (t : (List (List (List Int)))) (i : Int) : Option (Int) :=
  (forN (fun k s => p_spec_l03Dual_L1 t i k s) (t).length 0 (-1 : Int)).bind fun res1 => onRes res1 (fun r91 => some r91) fun (x87 : Int) =>
  some x87

def p_spec_l03Fault_L2 (k4 : Nat) (t : (List (List (List Int)))) (k22 : Nat) : Option (Ctl (Unit) ((List Int))) :=
  (if ((k4 : Int) == (k22 : Int)) = true then
    some (1 : Int)
  else
    some (0 : Int)).bind fun (x39 : Int) =>
  (idx t (0 : Int)).bind fun x52 =>
  (idx x52 (k4 : Int)).bind fun x59 =>
  (idx x59 (k22 : Int)).bind fun x66 =>
  (if (x66 != x39) = true then
    some true
  else
    (idx t (k4 : Int)).bind fun x79 =>
    (idx x79 (0 : Int)).bind fun x86 =>
    (idx x86 (k22 : Int)).bind fun x93 =>
    some (x93 != x39)).bind fun (x74 : Bool) =>
  if x74 = true then
    some (.ret ([(0 : Int), (k4 : Int), (k22 : Int)] : (List Int)))
  else
    some (.next ())

def p_spec_l03Fault_L1 (t : (List (List (List Int)))) (k4 : Nat) : Option (Ctl (Unit) ((List Int))) :=
  (forN (fun k s => p_spec_l03Fault_L2 k4 t k ) (t).length 0 ()).bind fun res20 => onRes res20 (fun r133 => some (.ret r133)) fun _ =>
  some (.next ())

def p_spec_l03Fault_L3 (t : (List (List (List Int)))) (k159 : Nat) (x160 : (List Int)) : Option (Ctl ((List Int)) (Unit)) :=
  (p_spec_l03Dual t (k159 : Int)).bind fun x178 =>
  (appL x160 ([x178] : (List Int))).bind fun x189 =>
  some (.next x189)

def p_spec_l03Fault_L4 (x214 : (List Int)) (k222 : Nat) : Option (Ctl (Unit) ((List Int))) :=
  (idx x214 (k222 : Int)).bind fun x239 =>
  (if (decide (x239 < (0 : Int))) = true then
    some true
  else
    (idx x214 x239).bind fun x255 =>
    some (x255 != (k222 : Int))).bind fun (x247 : Bool) =>
  if x247 = true then
    some (.ret ([(1 : Int), (k222 : Int)] : (List Int)))
  else
    some (.next ())

def p_spec_l03Fault_L7 (t : (List (List (List Int)))) (k297 : Nat) (k316 : Nat) (x214 : (List Int)) (k336 : Nat) : Option (Ctl (Unit) ((List Int))) :=
  (idx t (k297 : Int)).bind fun x384 =>
  (idx x384 (k316 : Int)).bind fun x423 =>
  (idx x423 (k336 : Int)).bind fun x462 =>
  (idx x214 (k297 : Int)).bind fun x515 =>
  (idx t x515).bind fun x547 =>
  (idx x547 (k336 : Int)).bind fun x586 =>
  (idx x586 (k316 : Int)).bind fun x625 =>
  (if (x462 != x625) = true then
    some true
  else
    (idx t (k336 : Int)).bind fun x1110 =>
    (idx x214 (k316 : Int)).bind fun x1172 =>
    (idx x1110 x1172).bind fun x1212 =>
    (idx x1212 (k297 : Int)).bind fun x1263 =>
    some (x462 != x1263)).bind fun (x668 : Bool) =>
  if x668 = true then
    some (.ret ([(2 : Int), (k297 : Int), (k316 : Int), (k336 : Int)] : (List Int)))
  else
    some (.next ())

def p_spec_l03Fault_L6 (t : (List (List (List Int)))) (k297 : Nat) (x214 : (List Int)) (k316 : Nat) : Option (Ctl (Unit) ((List Int))) :=
  (forN (fun k s => p_spec_l03Fault_L7 t k297 k316 x214 k ) (t).length 0 ()).bind fun res334 => onRes res334 (fun r1374 => some (.ret r1374)) fun _ =>
  some (.next ())

def p_spec_l03Fault_L5 (t : (List (List (List Int)))) (x214 : (List Int)) (k297 : Nat) : Option (Ctl (Unit) ((List Int))) :=
  (forN (fun k s => p_spec_l03Fault_L6 t k297 x214 k ) (t).length 0 ()).bind fun res314 => onRes res314 (fun r1398 => some (.ret r1398)) fun _ =>
  some (.next ())

def p_spec_l03Fault_L12 (t : (List (List (List Int)))) (k1421 : Nat) (k1439 : Nat) (k1458 : Nat) (k1478 : Nat) (k1499 : Nat) (x1500 : Int) (x1501 : Int) : Option (Ctl (Int × Int) (Unit)) :=
  (idx t (k1421 : Int)).bind fun x1561 =>
  (idx x1561 (k1439 : Int)).bind fun x1600 =>
  (idx x1600 (k1499 : Int)).bind fun x1639 =>
  (idx t (k1499 : Int)).bind fun x1685 =>
  (idx x1685 (k1458 : Int)).bind fun x1724 =>
  (idx x1724 (k1478 : Int)).bind fun x1763 =>
  (idx t (k1439 : Int)).bind fun x1853 =>
  (idx x1853 (k1458 : Int)).bind fun x1892 =>
  (idx x1892 (k1499 : Int)).bind fun x1931 =>
  (idx x1561 (k1499 : Int)).bind fun x2012 =>
  (idx x2012 (k1478 : Int)).bind fun x2051 =>
  some (.next ((w64 (x1500 + (w64 (x1639 * x1763)))), (w64 (x1501 + (w64 (x1931 * x2051))))))

def p_spec_l03Fault_L11 (t : (List (List (List Int)))) (k1421 : Nat) (k1439 : Nat) (k1458 : Nat) (k1478 : Nat) : Option (Ctl (Unit) ((List Int))) :=
  (forN (fun k s => p_spec_l03Fault_L12 t k1421 k1439 k1458 k1478 k s.1 s.2) (t).length 0 ((0 : Int), (0 : Int))).bind fun res1497 => onRes res1497 (fun r2150 => none) fun (s2130p : Int × Int) =>
  if (s2130p.1 != s2130p.2) = true then
    some (.ret ([(3 : Int), (k1421 : Int), (k1439 : Int), (k1458 : Int), (k1478 : Int)] : (List Int)))
  else
    some (.next ())

def p_spec_l03Fault_L10 (t : (List (List (List Int)))) (k1421 : Nat) (k1439 : Nat) (k1458 : Nat) : Option (Ctl (Unit) ((List Int))) :=
  (forN (fun k s => p_spec_l03Fault_L11 t k1421 k1439 k1458 k ) (t).length 0 ()).bind fun res1476 => onRes res1476 (fun r2176 => some (.ret r2176)) fun _ =>
  some (.next ())

def p_spec_l03Fault_L9 (t : (List (List (List Int)))) (k1421 : Nat) (k1439 : Nat) : Option (Ctl (Unit) ((List Int))) :=
  (forN (fun k s => p_spec_l03Fault_L10 t k1421 k1439 k ) (t).length 0 ()).bind fun res1456 => onRes res1456 (fun r2200 => some (.ret r2200)) fun _ =>
  some (.next ())

def p_spec_l03Fault_L8 (t : (List (List (List Int)))) (k1421 : Nat) : Option (Ctl (Unit) ((List Int))) :=
  (forN (fun k s => p_spec_l03Fault_L9 t k1421 k ) (t).length 0 ()).bind fun res1437 => onRes res1437 (fun r2222 => some (.ret r2222)) fun _ =>
  some (.next ())

def p_spec_l03Fault (t : (List (List (List Int)))) : Option ((List Int)) :=
  (forN (fun k s => p_spec_l03Fault_L1 t k ) (t).length 0 ()).bind fun res2 => onRes res2 (fun r2244 => some r2244) fun _ =>
  (forN (fun k s => p_spec_l03Fault_L3 t k s) (t).length 0 ([] : (List Int))).bind fun res157 => onRes res157 (fun r2243 => none) fun (x214 : (List Int)) =>
  (forN (fun k s => p_spec_l03Fault_L4 x214 k ) (t).length 0 ()).bind fun res220 => onRes res220 (fun r2242 => some r2242) fun _ =>
  (forN (fun k s => p_spec_l03Fault_L5 t x214 k ) (t).length 0 ()).bind fun res295 => onRes res295 (fun r2241 => some r2241) fun _ =>
  (forN (fun k s => p_spec_l03Fault_L8 t k ) (t).length 0 ()).bind fun res1419 => onRes res1419 (fun r2240 => some r2240) fun _ =>
  some ([] : (List Int))

def p_spec_l03Is (r_Table : (List (List (List Int)))) : Option (Bool) :=
  (p_spec_l03Cube r_Table).bind fun x9 =>
  (if x9 = true then
    (p_spec_l03Fault r_Table).bind fun x21 =>
    some (((x21).length : Int) == (0 : Int))
  else
    some false).bind fun (x16 : Bool) =>
  some x16

def p_spec_l01Same_L1 (a : (List Int)) (b : (List Int)) (k7 : Nat) : Option (Ctl (Unit) (Bool)) :=
  (idx a (k7 : Int)).bind fun x53 =>
  (idx b (k7 : Int)).bind fun x99 =>
  if (x53 != x99) = true then
    some (.ret false)
  else
    some (.next ())

def p_spec_l01Same (a : (List Int)) (b : (List Int)) : Option (Bool) :=
  if (((a).length : Int) != ((b).length : Int)) = true then
    some false
  else
    (forN (fun k s => p_spec_l01Same_L1 a b k ) (a).length 0 ()).bind fun res5 => onRes res5 (fun r152 => some r152) fun _ =>
    some true

def p_spec_l03Commutative_L2 (r_Table : (List (List (List Int)))) (k11 : Nat) (k29 : Nat) : Option (Ctl (Unit) (Bool)) :=
  (idx r_Table (k11 : Int)).bind fun x84 =>
  (idx x84 (k29 : Int)).bind fun x123 =>
  (idx r_Table (k29 : Int)).bind fun x179 =>
  (idx x179 (k11 : Int)).bind fun x218 =>
  (p_spec_l01Same x123 x218).bind fun x249 =>
  if (!x249) = true then
    some (.ret false)
  else
    some (.next ())

def p_spec_l03Commutative_L1 (r_Table : (List (List (List Int)))) (k11 : Nat) : Option (Ctl (Unit) (Bool)) :=
  (forN (fun k s => p_spec_l03Commutative_L2 r_Table k11 k ) ((k11 : Int)).toNat 0 ()).bind fun res27 => onRes res27 (fun r276 => some (.ret r276)) fun _ =>
  some (.next ())

def p_spec_l03Commutative (r_Table : (List (List (List Int)))) : Option (Bool) :=
  (forN (fun k s => p_spec_l03Commutative_L1 r_Table k ) (r_Table).length 0 ()).bind fun res9 => onRes res9 (fun r294 => some r294) fun _ =>
  some true

def p_spec_l01Own (list : (List Int)) : Option ((List Int)) :=
  (appL ([] : (List Int)) list).bind fun x5 =>
  some x5

def p_impl_within (n : Int) (low : Int) (high : Int) : Option (Bool) :=
  some ((decide (n ≥ low)) && (decide (n ≤ high)))

def p_impl_allWithin_c1 (n : Int) (c0 : Int) (c1 : Int) : Option (Bool) :=
  (p_impl_within n c0 c1).bind fun x1 =>
  some (!x1)

def p_slices_IndexFunc_Lint64_int64_L1 (s1 : (List Int)) (f1 : (Int → Option Bool)) (k4 : Nat) : Option (Ctl (Unit) (Int)) :=
  (idx s1 (k4 : Int)).bind fun x21 =>
  (f1 x21).bind fun x28 =>
  if x28 = true then
    some (.ret (k4 : Int))
  else
    some (.next ())

def p_slices_IndexFunc_Lint64_int64 (s1 : (List Int)) (f1 : Int → Option Bool) : Option (Int) :=
  (forN (fun k s => p_slices_IndexFunc_Lint64_int64_L1 s1 f1 k ) (s1).length 0 ()).bind fun res2 => onRes res2 (fun r54 => some r54) fun _ =>
  some (-1 : Int)

def p_slices_ContainsFunc_Lint64_int64 (s1 : (List Int)) (f1 : Int → Option Bool) : Option (Bool) :=
  (p_slices_IndexFunc_Lint64_int64 s1 f1).bind fun x1 =>
  some (decide (x1 ≥ (0 : Int)))

def p_impl_allWithin (list : (List Int)) (low : Int) (high : Int) : Option (Bool) :=
  (p_slices_ContainsFunc_Lint64_int64 list (fun a0_19 => p_impl_allWithin_c1 a0_19 low high)).bind fun x22 =>
  some (!x22)

def p_impl_isCube_c1 (row : (List Int)) (c0 : Int) : Option (Bool) :=
  (if (((row).length : Int) != c0) = true then
    some true
  else
    (p_impl_allWithin row (0 : Int) (1000 : Int)).bind fun x8 =>
    some (!x8)).bind fun (x3 : Bool) =>
  some x3

def p_slices_IndexFunc_LLint64_Lint64_L1 (s1 : (List (List Int))) (f1 : ((List Int) → Option Bool)) (k4 : Nat) : Option (Ctl (Unit) (Int)) :=
  (idx s1 (k4 : Int)).bind fun x21 =>
  (f1 x21).bind fun x28 =>
  if x28 = true then
    some (.ret (k4 : Int))
  else
    some (.next ())

def p_slices_IndexFunc_LLint64_Lint64 (s1 : (List (List Int))) (f1 : (List Int) → Option Bool) : Option (Int) :=
  (forN (fun k s => p_slices_IndexFunc_LLint64_Lint64_L1 s1 f1 k ) (s1).length 0 ()).bind fun res2 => onRes res2 (fun r54 => some r54) fun _ =>
  some (-1 : Int)

def p_slices_ContainsFunc_LLint64_Lint64 (s1 : (List (List Int))) (f1 : (List Int) → Option Bool) : Option (Bool) :=
  (p_slices_IndexFunc_LLint64_Lint64 s1 f1).bind fun x1 =>
  some (decide (x1 ≥ (0 : Int)))

def p_impl_isCube_L1 (r_Table : (List (List (List Int)))) (k19 : Nat) : Option (Ctl (Unit) (Bool)) :=
  (idx r_Table (k19 : Int)).bind fun x36 =>
  (if (((x36).length : Int) != ((r_Table).length : Int)) = true then
    some true
  else
    (p_slices_ContainsFunc_LLint64_Lint64 x36 (fun a0_51 => p_impl_isCube_c1 a0_51 ((r_Table).length : Int))).bind fun x54 =>
    some x54).bind fun (x45 : Bool) =>
  if x45 = true then
    some (.ret false)
  else
    some (.next ())

def p_impl_isCube (r_Table : (List (List (List Int)))) : Option (Bool) :=
  (forN (fun k s => p_impl_isCube_L1 r_Table k ) (r_Table).length 0 ()).bind fun res17 => onRes res17 (fun r93 => some r93) fun _ =>
  some ((decide (((r_Table).length : Int) ≥ (1 : Int))) && (decide (((r_Table).length : Int) ≤ (16 : Int))))

def p_impl_delta (i : Int) (k1 : Int) : Option (Int) :=
  if (i == k1) = true then
    some (1 : Int)
  else
    some (0 : Int)

def p_impl_Ring_unitFault_L2 (r_Table : (List (List (List Int)))) (k12 : Nat) (k31 : Nat) : Option (Ctl (Unit) ((List Int))) :=
  (idx r_Table (0 : Int)).bind fun x77 =>
  (idx x77 (k12 : Int)).bind fun x116 =>
  (idx x116 (k31 : Int)).bind fun x155 =>
  (p_impl_delta (k12 : Int) (k31 : Int)).bind fun x202 =>
  (if (x155 != x202) = true then
    some true
  else
    (idx r_Table (k12 : Int)).bind fun x439 =>
    (idx x439 (0 : Int)).bind fun x474 =>
    (idx x474 (k31 : Int)).bind fun x525 =>
    (p_impl_delta (k12 : Int) (k31 : Int)).bind fun x588 =>
    some (x525 != x588)).bind fun (x234 : Bool) =>
  if x234 = true then
    some (.ret ([(0 : Int), (k12 : Int), (k31 : Int)] : (List Int)))
  else
    some (.next ())

def p_impl_Ring_unitFault_L1 (r_Table : (List (List (List Int)))) (k12 : Nat) : Option (Ctl (Unit) ((List Int))) :=
  (forN (fun k s => p_impl_Ring_unitFault_L2 r_Table k12 k ) (r_Table).length 0 ()).bind fun res29 => onRes res29 (fun r671 => some (.ret r671)) fun _ =>
  some (.next ())

def p_impl_Ring_unitFault (r_Table : (List (List (List Int)))) : Option ((List Int)) :=
  (forN (fun k s => p_impl_Ring_unitFault_L1 r_Table k ) (r_Table).length 0 ()).bind fun res10 => onRes res10 (fun r689 => some r689) fun _ =>
  some ([] : (List Int))

def p_impl_Ring_onlyOf_L1 (x9 : (List (List Int))) (k19 : Nat) (x20 : Int) : Option (Ctl (Int) (Int)) :=
  (idx x9 (k19 : Int)).bind fun x38 =>
  (idx x38 (0 : Int)).bind fun x45 =>
  if (x45 == (0 : Int)) = true then
    some (.next x20)
  else
    if ((decide (x20 ≥ (0 : Int))) || (x45 != (1 : Int))) = true then
      some (.ret (-1 : Int))
    else
      some (.next (k19 : Int))

def p_impl_Ring_onlyOf (r_Table : (List (List (List Int)))) (i : Int) : Option (Int) :=
  (idx r_Table i).bind fun x9 =>
  (forN (fun k s => p_impl_Ring_onlyOf_L1 x9 k s) (x9).length 0 (-1 : Int)).bind fun res17 => onRes res17 (fun r92 => some r92) fun (x88 : Int) =>
  some x88

def p_impl_Ring_dualFault_L1 (r_Table : (List (List (List Int)))) (k12 : Nat) : Option (Ctl (Unit) (Int)) :=
  (p_impl_Ring_onlyOf r_Table (k12 : Int)).bind fun x28 =>
  (if (decide (x28 < (0 : Int))) = true then
    some true
  else
    (p_impl_Ring_onlyOf r_Table x28).bind fun x41 =>
    some (x41 != (k12 : Int))).bind fun (x36 : Bool) =>
  if x36 = true then
    some (.ret (k12 : Int))
  else
    some (.next ())

def p_impl_Ring_dualFault (r_Table : (List (List (List Int)))) : Option (Int) :=
  (forN (fun k s => p_impl_Ring_dualFault_L1 r_Table k ) (r_Table).length 0 ()).bind fun res10 => onRes res10 (fun r73 => some r73) fun _ =>
  some (-1 : Int)

def p_impl_Ring_duals_L1 (r_Table : (List (List (List Int)))) (k16 : Nat) (x17 : (List Int)) : Option (Ctl ((List Int)) (Unit)) :=
  (p_impl_Ring_onlyOf r_Table (k16 : Int)).bind fun x35 =>
  (appL x17 ([x35] : (List Int))).bind fun x46 =>
  some (.next x46)

def p_impl_Ring_duals (r_Table : (List (List (List Int)))) : Option ((List Int)) :=
  (forN (fun k s => p_impl_Ring_duals_L1 r_Table k s) (r_Table).length 0 ([] : (List Int))).bind fun res14 => onRes res14 (fun r75 => none) fun (x71 : (List Int)) =>
  some x71

def p_impl_Ring_turnFault_L3 (r_Table : (List (List (List Int)))) (k23 : Nat) (k43 : Nat) (x9 : (List Int)) (k66 : Nat) : Option (Ctl (Unit) ((List Int))) :=
  (idx r_Table (k23 : Int)).bind fun x89 =>
  (idx x89 (k43 : Int)).bind fun x96 =>
  (idx x96 (k66 : Int)).bind fun x103 =>
  (idx x9 (k23 : Int)).bind fun x163 =>
  (idx r_Table x163).bind fun x195 =>
  (idx x195 (k66 : Int)).bind fun x234 =>
  (idx x234 (k43 : Int)).bind fun x273 =>
  (if (x103 != x273) = true then
    some true
  else
    (idx r_Table (k66 : Int)).bind fun x556 =>
    (idx x9 (k43 : Int)).bind fun x618 =>
    (idx x556 x618).bind fun x658 =>
    (idx x658 (k23 : Int)).bind fun x709 =>
    some (x103 != x709)).bind fun (x316 : Bool) =>
  if x316 = true then
    some (.ret ([(2 : Int), (k23 : Int), (k43 : Int), (k66 : Int)] : (List Int)))
  else
    some (.next ())

def p_impl_Ring_turnFault_L2 (r_Table : (List (List (List Int)))) (k23 : Nat) (x9 : (List Int)) (k43 : Nat) : Option (Ctl (Unit) ((List Int))) :=
  (forN (fun k s => p_impl_Ring_turnFault_L3 r_Table k23 k43 x9 k ) (r_Table).length 0 ()).bind fun res64 => onRes res64 (fun r825 => some (.ret r825)) fun _ =>
  some (.next ())

def p_impl_Ring_turnFault_L1 (r_Table : (List (List (List Int)))) (x9 : (List Int)) (k23 : Nat) : Option (Ctl (Unit) ((List Int))) :=
  (forN (fun k s => p_impl_Ring_turnFault_L2 r_Table k23 x9 k ) (r_Table).length 0 ()).bind fun res41 => onRes res41 (fun r851 => some (.ret r851)) fun _ =>
  some (.next ())

def p_impl_Ring_turnFault (r_Table : (List (List (List Int)))) : Option ((List Int)) :=
  (p_impl_Ring_duals r_Table).bind fun x9 =>
  (forN (fun k s => p_impl_Ring_turnFault_L1 r_Table x9 k ) (r_Table).length 0 ()).bind fun res21 => onRes res21 (fun r870 => some r870) fun _ =>
  some ([] : (List Int))

def p_impl_Ring_bracketFault_L5 (x29 : (List (List Int))) (k39 : Nat) (r_Table : (List (List (List Int)))) (k71 : Nat) (k100 : Nat) (x61 : (List (List Int))) (k132 : Nat) (x133 : Int) (x134 : Int) : Option (Ctl (Int × Int) (Unit)) :=
  (idx x29 (k39 : Int)).bind fun x206 =>
  (idx x206 (k132 : Int)).bind fun x245 =>
  (idx r_Table (k132 : Int)).bind fun x301 =>
  (idx x301 (k71 : Int)).bind fun x340 =>
  (idx x340 (k100 : Int)).bind fun x379 =>
  (idx x61 (k71 : Int)).bind fun x482 =>
  (idx x482 (k132 : Int)).bind fun x521 =>
  (idx x29 (k132 : Int)).bind fun x567 =>
  (idx x567 (k100 : Int)).bind fun x606 =>
  some (.next ((w64 (x133 + (w64 (x245 * x379)))), (w64 (x134 + (w64 (x521 * x606))))))

def p_impl_Ring_bracketFault_L4 (x29 : (List (List Int))) (k39 : Nat) (r_Table : (List (List (List Int)))) (k71 : Nat) (x61 : (List (List Int))) (k12 : Nat) (k100 : Nat) : Option (Ctl (Unit) ((List Int))) :=
  (forN (fun k s => p_impl_Ring_bracketFault_L5 x29 k39 r_Table k71 k100 x61 k s.1 s.2) (r_Table).length 0 ((0 : Int), (0 : Int))).bind fun res130 => onRes res130 (fun r740 => none) fun (s709p : Int × Int) =>
  if (s709p.1 != s709p.2) = true then
    some (.ret ([(3 : Int), (k12 : Int), (k39 : Int), (k71 : Int), (k100 : Int)] : (List Int)))
  else
    some (.next ())

def p_impl_Ring_bracketFault_L3 (x29 : (List (List Int))) (k39 : Nat) (r_Table : (List (List (List Int)))) (x61 : (List (List Int))) (k12 : Nat) (k71 : Nat) : Option (Ctl (Unit) ((List Int))) :=
  (forN (fun k s => p_impl_Ring_bracketFault_L4 x29 k39 r_Table k71 x61 k12 k ) (r_Table).length 0 ()).bind fun res98 => onRes res98 (fun r784 => some (.ret r784)) fun _ =>
  some (.next ())

def p_impl_Ring_bracketFault_L2 (r_Table : (List (List (List Int)))) (x29 : (List (List Int))) (k12 : Nat) (k39 : Nat) : Option (Ctl (Unit) ((List Int))) :=
  (idx r_Table (k39 : Int)).bind fun x61 =>
  (forN (fun k s => p_impl_Ring_bracketFault_L3 x29 k39 r_Table x61 k12 k ) (r_Table).length 0 ()).bind fun res69 => onRes res69 (fun r821 => some (.ret r821)) fun _ =>
  some (.next ())

def p_impl_Ring_bracketFault_L1 (r_Table : (List (List (List Int)))) (k12 : Nat) : Option (Ctl (Unit) ((List Int))) :=
  (idx r_Table (k12 : Int)).bind fun x29 =>
  (forN (fun k s => p_impl_Ring_bracketFault_L2 r_Table x29 k12 k ) (r_Table).length 0 ()).bind fun res37 => onRes res37 (fun r849 => some (.ret r849)) fun _ =>
  some (.next ())

def p_impl_Ring_bracketFault (r_Table : (List (List (List Int)))) : Option ((List Int)) :=
  (forN (fun k s => p_impl_Ring_bracketFault_L1 r_Table k ) (r_Table).length 0 ()).bind fun res10 => onRes res10 (fun r868 => some r868) fun _ =>
  some ([] : (List Int))

def p_impl_Ring_fault (r_Table : (List (List (List Int)))) : Option ((List Int)) :=
  (p_impl_Ring_unitFault r_Table).bind fun x9 =>
  if (!(x9).isEmpty) = true then
    some x9
  else
    (p_impl_Ring_dualFault r_Table).bind fun x19 =>
    if (decide (x19 ≥ (0 : Int))) = true then
      some ([(1 : Int), x19] : (List Int))
    else
      (p_impl_Ring_turnFault r_Table).bind fun x32 =>
      if (!(x32).isEmpty) = true then
        some x32
      else
        (p_impl_Ring_bracketFault r_Table).bind fun x42 =>
        some x42

def p_impl_IsRing (r_Table : (List (List (List Int)))) : Option (Bool) :=
  (p_impl_isCube r_Table).bind fun x9 =>
  (if x9 = true then
    (p_impl_Ring_fault r_Table).bind fun x21 =>
    some (x21).isEmpty
  else
    some false).bind fun (x16 : Bool) =>
  some x16

def p_slices_Clone_Lint64_int64 (s1 : (List Int)) : Option ((List Int)) :=
  (appL ([] : (List Int)) s1).bind fun x6 =>
  some x6

def p_impl_Ring_opposite_L2 (r_Table : (List (List (List Int)))) (k23 : Nat) (k50 : Nat) (x51 : (List (List Int))) : Option (Ctl ((List (List Int))) (Unit)) :=
  (idx r_Table (k50 : Int)).bind fun x74 =>
  (idx x74 (k23 : Int)).bind fun x81 =>
  (p_slices_Clone_Lint64_int64 x81).bind fun x88 =>
  (appL x51 [x88]).bind fun x101 =>
  some (.next x101)

def p_impl_Ring_opposite_L1 (r_Table : (List (List (List Int)))) (k23 : Nat) (x24 : (List (List (List Int)))) : Option (Ctl ((List (List (List Int)))) (Unit)) :=
  (forN (fun k s => p_impl_Ring_opposite_L2 r_Table k23 k s) (r_Table).length 0 ([] : (List (List Int)))).bind fun res48 => onRes res48 (fun r154 => none) fun (x131 : (List (List Int))) =>
  (appL x24 [x131]).bind fun x146 =>
  some (.next x146)

def p_impl_Ring_opposite (r_Table : (List (List (List Int)))) : Option ((List (List (List Int)))) :=
  (forN (fun k s => p_impl_Ring_opposite_L1 r_Table k s) (r_Table).length 0 ([] : (List (List (List Int))))).bind fun res21 => onRes res21 (fun r182 => none) fun (x175 : (List (List (List Int)))) =>
  some x175

def p_slices_EqualFunc_LLLint64_LLLint64_LLint64_LLint64_L1 (s1 : (List (List (List Int)))) (s2 : (List (List (List Int)))) (eq : ((List (List Int)) → (List (List Int)) → Option Bool)) (k8 : Nat) : Option (Ctl (Unit) (Bool)) :=
  (idx s1 (k8 : Int)).bind fun x26 =>
  (idx s2 (k8 : Int)).bind fun x33 =>
  (eq x26 x33).bind fun x40 =>
  if (!x40) = true then
    some (.ret false)
  else
    some (.next ())

def p_slices_EqualFunc_LLLint64_LLLint64_LLint64_LLint64 (s1 : (List (List (List Int)))) (s2 : (List (List (List Int)))) (eq : (List (List Int)) → (List (List Int)) → Option Bool) : Option (Bool) :=
  if (((s1).length : Int) != ((s2).length : Int)) = true then
    some false
  else
    (forN (fun k s => p_slices_EqualFunc_LLLint64_LLLint64_LLint64_LLint64_L1 s1 s2 eq k ) (s1).length 0 ()).bind fun res6 => onRes res6 (fun r67 => some r67) fun _ =>
    some true

def p_slices_EqualFunc_LLint64_LLint64_Lint64_Lint64_L1 (s1 : (List (List Int))) (s2 : (List (List Int))) (eq : ((List Int) → (List Int) → Option Bool)) (k8 : Nat) : Option (Ctl (Unit) (Bool)) :=
  (idx s1 (k8 : Int)).bind fun x26 =>
  (idx s2 (k8 : Int)).bind fun x33 =>
  (eq x26 x33).bind fun x40 =>
  if (!x40) = true then
    some (.ret false)
  else
    some (.next ())

def p_slices_EqualFunc_LLint64_LLint64_Lint64_Lint64 (s1 : (List (List Int))) (s2 : (List (List Int))) (eq : (List Int) → (List Int) → Option Bool) : Option (Bool) :=
  if (((s1).length : Int) != ((s2).length : Int)) = true then
    some false
  else
    (forN (fun k s => p_slices_EqualFunc_LLint64_LLint64_Lint64_Lint64_L1 s1 s2 eq k ) (s1).length 0 ()).bind fun res6 => onRes res6 (fun r67 => some r67) fun _ =>
    some true

def p_slices_Equal_Lint64_int64_L1 (s1 : (List Int)) (s2 : (List Int)) (k8 : Nat) : Option (Ctl (Unit) (Bool)) :=
  (idx s1 (k8 : Int)).bind fun x54 =>
  (idx s2 (k8 : Int)).bind fun x100 =>
  if (x54 != x100) = true then
    some (.ret false)
  else
    some (.next ())

def p_slices_Equal_Lint64_int64 (s1 : (List Int)) (s2 : (List Int)) : Option (Bool) :=
  if (((s1).length : Int) != ((s2).length : Int)) = true then
    some false
  else
    (forN (fun k s => p_slices_Equal_Lint64_int64_L1 s1 s2 k ) (s1).length 0 ()).bind fun res6 => onRes res6 (fun r154 => some r154) fun _ =>
    some true

def p_impl_equalTables_c1 (x : (List (List Int))) (y : (List (List Int))) : Option (Bool) :=
  (p_slices_EqualFunc_LLint64_LLint64_Lint64_Lint64 x y (fun a0_2 a1_2 => p_slices_Equal_Lint64_int64 a0_2 a1_2)).bind fun x5 =>
  some x5

def p_impl_equalTables (a : (List (List (List Int)))) (b : (List (List (List Int)))) : Option (Bool) :=
  (p_slices_EqualFunc_LLLint64_LLLint64_LLint64_LLint64 a b (fun a0_2 a1_2 => p_impl_equalTables_c1 a0_2 a1_2)).bind fun x5 =>
  some x5

def p_impl_Ring_isCommutative (r_Table : (List (List (List Int)))) : Option (Bool) :=
  (p_impl_Ring_opposite r_Table).bind fun x43 =>
  (p_impl_equalTables r_Table x43).bind fun x71 =>
  some x71

def p_laws_eqInt64S_L1 (a : (List Int)) (b : (List Int)) (k7 : Nat) : Option (Ctl (Unit) (Bool)) :=
  (idx a (k7 : Int)).bind fun x53 =>
  (idx b (k7 : Int)).bind fun x99 =>
  if (x53 != x99) = true then
    some (.ret false)
  else
    some (.next ())

def p_laws_eqInt64S (a : (List Int)) (b : (List Int)) : Option (Bool) :=
  if (((a).length : Int) != ((b).length : Int)) = true then
    some false
  else
    (forN (fun k s => p_laws_eqInt64S_L1 a b k ) (a).length 0 ()).bind fun res5 => onRes res5 (fun r152 => some r152) fun _ =>
    some true

def p_laws_eqInt64SS_L1 (a : (List (List Int))) (b : (List (List Int))) (k7 : Nat) : Option (Ctl (Unit) (Bool)) :=
  (idx a (k7 : Int)).bind fun x53 =>
  (idx b (k7 : Int)).bind fun x99 =>
  (p_laws_eqInt64S x53 x99).bind fun x130 =>
  if (!x130) = true then
    some (.ret false)
  else
    some (.next ())

def p_laws_eqInt64SS (a : (List (List Int))) (b : (List (List Int))) : Option (Bool) :=
  if (((a).length : Int) != ((b).length : Int)) = true then
    some false
  else
    (forN (fun k s => p_laws_eqInt64SS_L1 a b k ) (a).length 0 ()).bind fun res5 => onRes res5 (fun r156 => some r156) fun _ =>
    some true

def p_laws_eqInt64SSS_L1 (a : (List (List (List Int)))) (b : (List (List (List Int)))) (k7 : Nat) : Option (Ctl (Unit) (Bool)) :=
  (idx a (k7 : Int)).bind fun x53 =>
  (idx b (k7 : Int)).bind fun x99 =>
  (p_laws_eqInt64SS x53 x99).bind fun x130 =>
  if (!x130) = true then
    some (.ret false)
  else
    some (.next ())

def p_laws_eqInt64SSS (a : (List (List (List Int)))) (b : (List (List (List Int)))) : Option (Bool) :=
  if (((a).length : Int) != ((b).length : Int)) = true then
    some false
  else
    (forN (fun k s => p_laws_eqInt64SSS_L1 a b k ) (a).length 0 ()).bind fun res5 => onRes res5 (fun r156 => some r156) fun _ =>
    some true

def p_laws_eqRing (a_Table : (List (List (List Int)))) (b_Table : (List (List (List Int)))) : Option (Bool) :=
  (p_laws_eqInt64SSS a_Table b_Table).bind fun x18 =>
  if (!x18) = true then
    some false
  else
    some true

def p_spec_l08Code (r_Table : (List (List (List Int)))) : Option (Int) :=
  (p_spec_l03Is r_Table).bind fun x9 =>
  if (!x9) = true then
    some (1 : Int)
  else
    (p_spec_l03Commutative r_Table).bind fun x17 =>
    if (!x17) = true then
      some (5 : Int)
    else
      some (0 : Int)

def p_spec_l15Labels_L1 (labels : (List Int)) (n : Int) (k3 : Nat) : Option (Ctl (Unit) (Bool)) :=
  (idx labels (k3 : Int)).bind fun x20 =>
  (p_spec_l01In x20 (0 : Int) (w64 (n - (1 : Int)))).bind fun x27 =>
  if (!x27) = true then
    some (.ret false)
  else
    some (.next ())

def p_spec_l15Labels (n : Int) (labels : (List Int)) : Option (Bool) :=
  (forN (fun k s => p_spec_l15Labels_L1 labels n k ) (labels).length 0 ()).bind fun res1 => onRes res1 (fun r55 => some r55) fun _ =>
  some (decide (((labels).length : Int) ≤ (8 : Int)))

def p_spec_l15List (r_Table : (List (List (List Int)))) (labels : (List Int)) : Option (Int) :=
  (p_spec_l08Code r_Table).bind fun x9 =>
  (if (x9 == (0 : Int)) = true then
    if (((labels).length : Int) == (0 : Int)) = true then
      some true
    else
      (p_spec_l15Labels ((r_Table).length : Int) labels).bind fun x22 =>
      some (!x22)
  else
    some false).bind fun (x16 : Bool) =>
  (if x16 = true then
    some (2 : Int)
  else
    some x9).bind fun (x34 : Int) =>
  some x34

def p_spec_l15Ends_L3 (x49 : Int) (r_Table : (List (List (List Int)))) (labels : (List Int)) (x21 : Int) (x20 : (List (List Bool))) (x81 : (List Bool)) (x82 : Int) : Option (Ctl ((List Bool) × Int) (Unit)) :=
  if (decide (x82 < ((x81).length : Int))) = true then
    ((idx x81 x49).bind fun x148 =>
    if x148 = true then
      some ((x81).set (x49).toNat true)
    else
      (idx r_Table x49).bind fun x527 =>
      (idx labels (w64 (x21 + (1 : Int)))).bind fun x604 =>
      (idx x527 x604).bind fun x644 =>
      (idx x644 x82).bind fun x695 =>
      if (x695 != (0 : Int)) = true then
        (idx x20 (w64 (x21 + (1 : Int)))).bind fun x802 =>
        (idx x802 x82).bind fun x853 =>
        some ((x81).set (x49).toNat x853)
      else
        some ((x81).set (x49).toNat false)).bind fun (x103 : (List Bool)) =>
    some (.next (x103, (w64 (x82 + (1 : Int)))))
  else
    some (.brk (x81, x82))

def p_spec_l15Ends_L2 (x21 : Int) (labels : (List Int)) (r_Table : (List (List (List Int)))) (x20 : (List (List Bool))) (x48 : (List Bool)) (x49 : Int) : Option (Ctl ((List Bool) × Int) (Unit)) :=
  if (decide (x49 < ((x48).length : Int))) = true then
    if (x21 == (w64 (((labels).length : Int) - (1 : Int)))) = true then
      (idx x48 x49).bind fun x72 =>
      some (.next (((x48).set (x49).toNat (x49 == (0 : Int))), (w64 (x49 + (1 : Int)))))
    else
      (whileC (fun s => p_spec_l15Ends_L3 x49 r_Table labels x21 x20 s.1 s.2) (x48, (0 : Int))).bind fun res78 => onRes res78 (fun r1146 => none) fun (s1136p : (List Bool) × Int) =>
      some (.next (s1136p.1, (w64 (x49 + (1 : Int)))))
  else
    some (.brk (x48, x49))

def p_spec_l15Ends_L1 (r_Table : (List (List (List Int)))) (labels : (List Int)) (x20 : (List (List Bool))) (x21 : Int) : Option (Ctl ((List (List Bool)) × Int) (Unit)) :=
  if (decide (x21 ≥ (0 : Int))) = true then
    (mkL ((r_Table).length : Int) false).bind fun x39 =>
    (whileC (fun s => p_spec_l15Ends_L2 x21 labels r_Table x20 s.1 s.2) (x39, (0 : Int))).bind fun res45 => onRes res45 (fun r1166 => none) fun (s1151p : (List Bool) × Int) =>
    (idx x20 x21).bind fun x1160 =>
    some (.next (((x20).set (x21).toNat s1151p.1), (w64 (x21 - (1 : Int)))))
  else
    some (.brk (x20, x21))

def p_spec_l15Ends (r_Table : (List (List (List Int)))) (labels : (List Int)) : Option ((List (List Bool))) :=
  (mkL ((labels).length : Int) ([] : (List Bool))).bind fun x10 =>
  (whileC (fun s => p_spec_l15Ends_L1 r_Table labels s.1 s.2) (x10, (w64 (((labels).length : Int) - (1 : Int))))).bind fun res17 => onRes res17 (fun r1176 => none) fun (s1171p : (List (List Bool)) × Int) =>
  some s1171p.1

def p_spec_l15Grow_L1 (r_Table : (List (List (List Int)))) (path : (List Int)) (labels : (List Int)) (ends : (List (List Bool))) (rf : ((List (List (List Int))) → (List Int) → (List (List Bool)) → (List Int) → (List (List Int)) → Option ((List (List Int))))) (x25 : (List (List Int))) (x26 : Int) : Option (Ctl ((List (List Int)) × Int) (Unit)) :=
  if ((decide (x26 < ((r_Table).length : Int))) && (decide (((x25).length : Int) ≤ (2000 : Int)))) = true then
    (idx path (w64 (((path).length : Int) - (1 : Int)))).bind fun x119 =>
    (idx r_Table x119).bind fun x151 =>
    (idx labels ((path).length : Int)).bind fun x197 =>
    (idx x151 x197).bind fun x229 =>
    (idx x229 x26).bind fun x268 =>
    (if (x268 != (0 : Int)) = true then
      (idx ends ((path).length : Int)).bind fun x350 =>
      (idx x350 x26).bind fun x406 =>
      some x406
    else
      some false).bind fun (x306 : Bool) =>
    (if x306 = true then
      (p_spec_l01Own path).bind fun x498 =>
      (appL x498 ([x26] : (List Int))).bind fun x509 =>
      (rf r_Table labels ends x509 x25).bind fun x515 =>
      some x515
    else
      some x25).bind fun (x492 : (List (List Int))) =>
    some (.next (x492, (w64 (x26 + (1 : Int)))))
  else
    some (.brk (x25, x26))

def p_spec_l15Grow_B (rf : ((List (List (List Int))) → (List Int) → (List (List Bool)) → (List Int) → (List (List Int)) → Option ((List (List Int))))) (r_Table : (List (List (List Int)))) (labels : (List Int)) (ends : (List (List Bool))) (path : (List Int)) (list : (List (List Int))) : Option ((List (List Int))) :=
  if (((path).length : Int) == ((labels).length : Int)) = true then
    (appL list [path]).bind fun x16 =>
    some x16
  else
    (whileC (fun s => p_spec_l15Grow_L1 r_Table path labels ends rf s.1 s.2) (list, (0 : Int))).bind fun res22 => onRes res22 (fun r556 => none) fun (s550p : (List (List Int)) × Int) =>
    some s550p.1

def p_spec_l15Grow_F : Nat → (List (List (List Int))) → (List Int) → (List (List Bool)) → (List Int) → (List (List Int)) → Option ((List (List Int)))
  | 0 => fun _ _ _ _ _ => none
  | n + 1 => fun r_Table labels ends path list => p_spec_l15Grow_B (p_spec_l15Grow_F n) r_Table labels ends path list

def p_spec_l15Grow (r_Table : (List (List (List Int)))) (labels : (List Int)) (ends : (List (List Bool))) (path : (List Int)) (list : (List (List Int))) : Option ((List (List Int))) := p_spec_l15Grow_F fuelN r_Table labels ends path list

def p_spec_FusionPaths (r_Table : (List (List (List Int)))) (labels : (List Int)) : Option ((List (List Int)) × Int) :=
  (p_spec_l15List r_Table labels).bind fun x9 =>
  if (x9 != (0 : Int)) = true then
    some (([] : (List (List Int))), x9)
  else
    (p_spec_l15Ends r_Table labels).bind fun x18 =>
    (idx x18 (0 : Int)).bind fun x50 =>
    (idx labels (0 : Int)).bind fun x84 =>
    (idx x50 x84).bind fun x117 =>
    (if x117 = true then
      (p_spec_l15Grow r_Table labels x18 ([x84] : (List Int)) ([] : (List (List Int)))).bind fun x216 =>
      some x216
    else
      some ([] : (List (List Int)))).bind fun (x124 : (List (List Int))) =>
    if (decide (((x124).length : Int) > (2000 : Int))) = true then
      some (([] : (List (List Int))), (3 : Int))
    else
      some (x124, (0 : Int))

def p_impl_commuteCode (r_Table : (List (List (List Int)))) : Option (Int) :=
  (p_impl_IsRing r_Table).bind fun x9 =>
  if (!x9) = true then
    some (1 : Int)
  else
    (p_impl_Ring_isCommutative r_Table).bind fun x17 =>
    if (!x17) = true then
      some (5 : Int)
    else
      some (0 : Int)

def p_impl_Ring_areLabels (r_Table : (List (List (List Int)))) (list : (List Int)) : Option (Bool) :=
  (p_impl_allWithin list (0 : Int) (w64 (((r_Table).length : Int) - (1 : Int)))).bind fun x10 =>
  some x10

def p_impl_pathCode (r_Table : (List (List (List Int)))) (labels : (List Int)) : Option (Int) :=
  (p_impl_commuteCode r_Table).bind fun x9 =>
  if (x9 != (0 : Int)) = true then
    some x9
  else
    (if ((decide (((labels).length : Int) < (1 : Int))) || (decide (((labels).length : Int) > (8 : Int)))) = true then
      some true
    else
      (p_impl_Ring_areLabels r_Table labels).bind fun x34 =>
      some (!x34)).bind fun (x29 : Bool) =>
    if x29 = true then
      some (2 : Int)
    else
      some (0 : Int)

def p_impl_Ring_endsAtZero_L3 (x220 : (List Int)) (x22 : Int) (k55 : Nat) (k279 : Nat) (x280 : (List (List Bool))) : Option (Ctl ((List (List Bool))) (Unit)) :=
  (idx x220 ((0 : Int) + (k279 : Int))).bind fun x305 =>
  ((idx x280 x22).bind fun x343 =>
  (idx x343 (k55 : Int)).bind fun x431 =>
  if x431 = true then
    some ((x280).set (x22).toNat ((x343).set ((k55 : Int)).toNat true))
  else
    if (x305 != (0 : Int)) = true then
      (idx x280 (w64 (x22 + (1 : Int)))).bind fun x717 =>
      (idx x717 ((0 : Int) + (k279 : Int))).bind fun x768 =>
      some ((x280).set (x22).toNat ((x343).set ((k55 : Int)).toNat x768))
    else
      some ((x280).set (x22).toNat ((x343).set ((k55 : Int)).toNat false))).bind fun (x312 : (List (List Bool))) =>
  some (.next x312)

def p_impl_Ring_endsAtZero_L2 (x22 : Int) (labels : (List Int)) (r_Table : (List (List (List Int)))) (k55 : Nat) (x56 : (List (List Bool))) : Option (Ctl ((List (List Bool))) (Unit)) :=
  if (x22 == (w64 (((labels).length : Int) - (1 : Int)))) = true then
    (idx x56 x22).bind fun x79 =>
    (idx x79 (k55 : Int)).bind fun x86 =>
    some (.next ((x56).set (x22).toNat ((x79).set ((k55 : Int)).toNat ((k55 : Int) == (0 : Int)))))
  else
    (idx r_Table (k55 : Int)).bind fun x131 =>
    (idx labels (w64 (x22 + (1 : Int)))).bind fun x188 =>
    (idx x131 x188).bind fun x220 =>
    (forN (fun k s => p_impl_Ring_endsAtZero_L3 x220 x22 k55 k s) (((x220).length : Int) - (0 : Int)).toNat 0 x56).bind fun res277 => onRes res277 (fun r1060 => none) fun (x1050 : (List (List Bool))) =>
    some (.next x1050)

def p_impl_Ring_endsAtZero_L1 (r_Table : (List (List (List Int)))) (labels : (List Int)) (x21 : (List (List Bool))) (x22 : Int) : Option (Ctl ((List (List Bool)) × Int) (Unit)) :=
  if (decide (x22 ≥ (0 : Int))) = true then
    (mkL ((r_Table).length : Int) false).bind fun x41 =>
    (idx x21 x22).bind fun x47 =>
    (forN (fun k s => p_impl_Ring_endsAtZero_L2 x22 labels r_Table k s) (r_Table).length 0 ((x21).set (x22).toNat x41)).bind fun res53 => onRes res53 (fun r1091 => none) fun (x1083 : (List (List Bool))) =>
    some (.next (x1083, (w64 (x22 - (1 : Int)))))
  else
    some (.brk (x21, x22))

def p_impl_Ring_endsAtZero (r_Table : (List (List (List Int)))) (labels : (List Int)) : Option ((List (List Bool))) :=
  (mkL ((labels).length : Int) ([] : (List Bool))).bind fun x12 =>
  (whileC (fun s => p_impl_Ring_endsAtZero_L1 r_Table labels s.1 s.2) (x12, (w64 (((labels).length : Int) - (1 : Int))))).bind fun res18 => onRes res18 (fun r1101 => none) fun (s1096p : (List (List Bool)) × Int) =>
  some s1096p.1

def p_impl_FusionPaths_c1_L1 (x385 : (List Int)) (rf : ((List Int) → (List (List Bool)) → (List (List Int)) → (List Int) → (List (List (List Int))) → Option ((List Int) × (List (List Int))))) (ends : (List (List Bool))) (labels : (List Int)) (r_Table : (List (List (List Int)))) (path : (List Int)) (k438 : Nat) (x439 : (List Int)) (x440 : (List (List Int))) : Option (Ctl ((List Int) × (List (List Int))) (Unit)) :=
  (idx x385 ((0 : Int) + (k438 : Int))).bind fun x461 =>
  (if (x461 != (0 : Int)) = true then
    (appL x439 ([((0 : Int) + (k438 : Int))] : (List Int))).bind fun x476 =>
    (rf x476 ends x440 labels r_Table).bind fun x484 =>
    (cutL x484.1 (0 : Int) ((path).length : Int)).bind fun x492 =>
    some (x492, x484.2)
  else
    some (x439, x440)).bind fun ⟨x468, x469⟩ =>
  some (.next (x468, x469))

def p_impl_FusionPaths_c1_B (rf : ((List Int) → (List (List Bool)) → (List (List Int)) → (List Int) → (List (List (List Int))) → Option ((List Int) × (List (List Int))))) (path : (List Int)) (ends : (List (List Bool))) (out : (List (List Int))) (labels : (List Int)) (r_Table : (List (List (List Int)))) : Option ((List Int) × (List (List Int))) :=
  (idx ends (w64 (((path).length : Int) - (1 : Int)))).bind fun x42 =>
  (idx path (w64 (((path).length : Int) - (1 : Int)))).bind fun x99 =>
  (idx x42 x99).bind fun x134 =>
  if ((!x134) || (decide (((out).length : Int) > (2000 : Int)))) = true then
    some (path, out)
  else
    if (((path).length : Int) == ((labels).length : Int)) = true then
      (p_slices_Clone_Lint64_int64 path).bind fun x183 =>
      (appL out [x183]).bind fun x214 =>
      some (path, x214)
    else
      (idx r_Table x99).bind fun x307 =>
      (idx labels ((path).length : Int)).bind fun x353 =>
      (idx x307 x353).bind fun x385 =>
      (forN (fun k s => p_impl_FusionPaths_c1_L1 x385 rf ends labels r_Table path k s.1 s.2) (((x385).length : Int) - (0 : Int)).toNat 0 (path, out)).bind fun res436 => onRes res436 (fun r538 => none) fun (s532p : (List Int) × (List (List Int))) =>
      some (s532p.1, s532p.2)

def p_impl_FusionPaths_c1_F : Nat → (List Int) → (List (List Bool)) → (List (List Int)) → (List Int) → (List (List (List Int))) → Option ((List Int) × (List (List Int)))
  | 0 => fun _ _ _ _ _ => none
  | n + 1 => fun path ends out labels r_Table => p_impl_FusionPaths_c1_B (p_impl_FusionPaths_c1_F n) path ends out labels r_Table

def p_impl_FusionPaths_c1 (path : (List Int)) (ends : (List (List Bool))) (out : (List (List Int))) (labels : (List Int)) (r_Table : (List (List (List Int)))) : Option ((List Int) × (List (List Int))) := p_impl_FusionPaths_c1_F fuelN path ends out labels r_Table

def p_impl_FusionPaths (r_Table : (List (List (List Int)))) (labels : (List Int)) : Option ((List (List Int)) × Int) :=
  (p_impl_pathCode r_Table labels).bind fun x18 =>
  if (x18 != (0 : Int)) = true then
    some (([] : (List (List Int))), x18)
  else
    (p_impl_Ring_endsAtZero r_Table labels).bind fun x27 =>
    (idx labels (0 : Int)).bind fun x38 =>
    (p_impl_FusionPaths_c1 ([x38] : (List Int)) x27 ([] : (List (List Int))) labels r_Table).bind fun x87 =>
    if (decide (((x87.2).length : Int) > (2000 : Int))) = true then
      some (([] : (List (List Int))), (3 : Int))
    else
      some (x87.2, (0 : Int))

def p_laws_markInt64S_L1  (k3 : Nat) (x4 : (List Int)) (x5 : Int) : Option (Ctl ((List Int) × Int) (Unit)) :=
  (idx x4 (k3 : Int)).bind fun x24 =>
  some (.next (((x4).set ((k3 : Int)).toNat x5), (w64 (x5 + (1 : Int)))))

def p_laws_markInt64S (a : (List Int)) (k1 : Int) : Option (Int × (List Int)) :=
  (forN (fun k s => p_laws_markInt64S_L1  k s.1 s.2) (a).length 0 (a, k1)).bind fun res1 => onRes res1 (fun r57 => none) fun (s50p : (List Int) × Int) =>
  some (s50p.2, s50p.1)

def p_laws_markInt64SS_L1  (k3 : Nat) (x4 : (List (List Int))) (x5 : Int) : Option (Ctl ((List (List Int)) × Int) (Unit)) :=
  (idx x4 (k3 : Int)).bind fun x24 =>
  (p_laws_markInt64S x24 x5).bind fun x32 =>
  some (.next (((x4).set ((k3 : Int)).toNat x32.2), x32.1))

def p_laws_markInt64SS (a : (List (List Int))) (k1 : Int) : Option (Int × (List (List Int))) :=
  (forN (fun k s => p_laws_markInt64SS_L1  k s.1 s.2) (a).length 0 (a, k1)).bind fun res1 => onRes res1 (fun r67 => none) fun (s60p : (List (List Int)) × Int) =>
  some (s60p.2, s60p.1)

def p_laws_markInt64SSS_L1  (k3 : Nat) (x4 : (List (List (List Int)))) (x5 : Int) : Option (Ctl ((List (List (List Int))) × Int) (Unit)) :=
  (idx x4 (k3 : Int)).bind fun x24 =>
  (p_laws_markInt64SS x24 x5).bind fun x32 =>
  some (.next (((x4).set ((k3 : Int)).toNat x32.2), x32.1))

def p_laws_markInt64SSS (a : (List (List (List Int)))) (k1 : Int) : Option (Int × (List (List (List Int)))) :=
  (forN (fun k s => p_laws_markInt64SSS_L1  k s.1 s.2) (a).length 0 (a, k1)).bind fun res1 => onRes res1 (fun r67 => none) fun (s60p : (List (List (List Int))) × Int) =>
  some (s60p.2, s60p.1)

def p_laws_markRing (a_Table : (List (List (List Int)))) (k1 : Int) : Option (Int × (List (List (List Int)))) :=
  (p_laws_markInt64SSS a_Table k1).bind fun x6 =>
  some (x6.1, x6.2)

def p_laws_heldInt64S_L1 (a : (List Int)) (k3 : Nat) (x4 : Int) : Option (Ctl (Int) (Int)) :=
  (idx a (k3 : Int)).bind fun x22 =>
  if (x22 != x4) = true then
    some (.ret (-1 : Int))
  else
    some (.next (w64 (x4 + (1 : Int))))

def p_laws_heldInt64S (a : (List Int)) (k1 : Int) : Option (Int) :=
  (forN (fun k s => p_laws_heldInt64S_L1 a k s) (a).length 0 k1).bind fun res1 => onRes res1 (fun r54 => some r54) fun (x50 : Int) =>
  some x50

def p_laws_heldInt64SS_L1 (a : (List (List Int))) (k3 : Nat) (x4 : Int) : Option (Ctl (Int) (Int)) :=
  (idx a (k3 : Int)).bind fun x22 =>
  (p_laws_heldInt64S x22 x4).bind fun x29 =>
  if (decide (x29 < (0 : Int))) = true then
    some (.ret (-1 : Int))
  else
    some (.next x29)

def p_laws_heldInt64SS (a : (List (List Int))) (k1 : Int) : Option (Int) :=
  (forN (fun k s => p_laws_heldInt64SS_L1 a k s) (a).length 0 k1).bind fun res1 => onRes res1 (fun r61 => some r61) fun (x57 : Int) =>
  some x57

def p_laws_FnExactFusionPaths (aR_Table : (List (List (List Int)))) (aLabels : (List Int)) : Option (Bool) :=
  if (decide (((aLabels).length : Int) > (1048576 : Int))) = true then
    some true
  else
    (p_laws_szRing aR_Table (1048576 : Int)).bind fun x12 =>
    if (decide (x12 < (0 : Int))) = true then
      some true
    else
      (p_laws_toRing aR_Table).bind fun x21 =>
      (p_laws_toInt64S aLabels).bind fun x32 =>
      (p_spec_FusionPaths x21 x32).bind fun x44 =>
      (p_laws_toRing aR_Table).bind fun x58 =>
      (p_laws_toInt64S aLabels).bind fun x71 =>
      (p_impl_FusionPaths x58 x71).bind fun x78 =>
      (p_laws_eqInt64SS x78.1 x44.1).bind fun x86 =>
      if ((!x86) || (x78.2 != x44.2)) = true then
        some false
      else
        (p_laws_toRing aR_Table).bind fun x132 =>
        (p_laws_eqRing x58 x132).bind fun x159 =>
        if (!x159) = true then
          some false
        else
          (p_laws_toInt64S aLabels).bind fun x167 =>
          (p_laws_eqInt64S x71 x167).bind fun x174 =>
          if (!x174) = true then
            some false
          else
            (p_laws_markRing x58 (1 : Int)).bind fun x182 =>
            (p_laws_markInt64S x71 x182.1).bind fun x189 =>
            (if (decide (x189.1 < (0 : Int))) = true then
              some true
            else
              (p_laws_eqInt64SS x78.1 x44.1).bind fun x202 =>
              some (!x202)).bind fun (x197 : Bool) =>
            if (x197 || (x78.2 != x44.2)) = true then
              some false
            else
              (p_laws_markInt64SS x78.1 (1 : Int)).bind fun x229 =>
              (p_laws_heldInt64SS x229.2 (1 : Int)).bind fun x236 =>
              if (decide (x236 < (0 : Int))) = true then
                some false
              else
                if (x236 != x229.1) = true then
                  some false
                else
                  (p_laws_toRing aR_Table).bind fun x247 =>
                  (p_laws_toInt64S aLabels).bind fun x254 =>
                  (p_impl_FusionPaths x247 x254).bind fun x261 =>
                  (p_laws_eqInt64SS x261.1 x44.1).bind fun x269 =>
                  if ((!x269) || (x261.2 != x44.2)) = true then
                    some false
                  else
                    (p_laws_heldInt64SS x229.2 (1 : Int)).bind fun x285 =>
                    if (decide (x285 < (0 : Int))) = true then
                      some false
                    else
                      if (x285 != x229.1) = true then
                        some false
                      else
                        some true

end
end Go.VG
