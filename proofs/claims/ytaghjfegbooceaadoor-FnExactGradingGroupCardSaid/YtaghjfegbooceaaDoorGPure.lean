/- The functions' plain twins, as a program of ours printed them. No proof. -/
import Derived.Test.YtaghjfegbooceaaDoorVgTab
set_option linter.all false
namespace Go.VG
noncomputable section

def p_laws_szInt64S (a : (List Int)) (left : Int) : Option (Int) :=
  if (decide ((w64 (left - ((a).length : Int))) < (0 : Int))) = true then
    some (-1 : Int)
  else
    some (w64 (left - ((a).length : Int)))

def p_laws_szInt64SS_L1 (a : (List (List Int))) (k6 : Nat) (x7 : Int) : Option (Ctl (Int) (Int)) :=
  (idx a (k6 : Int)).bind fun x25 =>
  (p_laws_szInt64S x25 x7).bind fun x32 =>
  if (decide (x32 < (0 : Int))) = true then
    some (.ret (-1 : Int))
  else
    some (.next x32)

def p_laws_szInt64SS (a : (List (List Int))) (left : Int) : Option (Int) :=
  if (decide ((w64 (left - ((a).length : Int))) < (0 : Int))) = true then
    some (-1 : Int)
  else
    (forN (fun k s => p_laws_szInt64SS_L1 a k s) (a).length 0 (w64 (left - ((a).length : Int)))).bind fun res4 => onRes res4 (fun r64 => some r64) fun (x60 : Int) =>
    some x60

def p_laws_szInt64SSS_L1 (a : (List (List (List Int)))) (k6 : Nat) (x7 : Int) : Option (Ctl (Int) (Int)) :=
  (idx a (k6 : Int)).bind fun x25 =>
  (p_laws_szInt64SS x25 x7).bind fun x32 =>
  if (decide (x32 < (0 : Int))) = true then
    some (.ret (-1 : Int))
  else
    some (.next x32)

def p_laws_szInt64SSS (a : (List (List (List Int)))) (left : Int) : Option (Int) :=
  if (decide ((w64 (left - ((a).length : Int))) < (0 : Int))) = true then
    some (-1 : Int)
  else
    (forN (fun k s => p_laws_szInt64SSS_L1 a k s) (a).length 0 (w64 (left - ((a).length : Int)))).bind fun res4 => onRes res4 (fun r64 => some r64) fun (x60 : Int) =>
    some x60

def p_laws_szRing (a_Table : (List (List (List Int)))) (left : Int) : Option (Int) :=
  (p_laws_szInt64SSS a_Table left).bind fun x9 =>
  if (decide (x9 < (0 : Int))) = true then
    some (-1 : Int)
  else
    some x9

def p_laws_toInt64S_L1 (a : (List Int)) (k10 : Nat) (x11 : (List Int)) : Option (Ctl ((List Int)) (Unit)) :=
  (idx a (k10 : Int)).bind fun x28 =>
  (idx x11 (k10 : Int)).bind fun x35 =>
  some (.next ((x11).set ((k10 : Int)).toNat x28))

def p_laws_toInt64S (a : (List Int)) : Option ((List Int)) :=
  (mkL ((a).length : Int) (0 : Int)).bind fun x2 =>
  (forN (fun k s => p_laws_toInt64S_L1 a k s) (a).length 0 x2).bind fun res8 => onRes res8 (fun r62 => none) fun (x59 : (List Int)) =>
  some x59

def p_laws_toInt64SS_L1 (a : (List (List Int))) (k10 : Nat) (x11 : (List (List Int))) : Option (Ctl ((List (List Int))) (Unit)) :=
  (idx a (k10 : Int)).bind fun x28 =>
  (p_laws_toInt64S x28).bind fun x35 =>
  (idx x11 (k10 : Int)).bind fun x42 =>
  some (.next ((x11).set ((k10 : Int)).toNat x35))

def p_laws_toInt64SS (a : (List (List Int))) : Option ((List (List Int))) :=
  (mkL ((a).length : Int) ([] : (List Int))).bind fun x2 =>
  (forN (fun k s => p_laws_toInt64SS_L1 a k s) (a).length 0 x2).bind fun res8 => onRes res8 (fun r69 => none) fun (x66 : (List (List Int))) =>
  some x66

def p_laws_toInt64SSS_L1 (a : (List (List (List Int)))) (k10 : Nat) (x11 : (List (List (List Int)))) : Option (Ctl ((List (List (List Int)))) (Unit)) :=
  (idx a (k10 : Int)).bind fun x28 =>
  (p_laws_toInt64SS x28).bind fun x35 =>
  (idx x11 (k10 : Int)).bind fun x42 =>
  some (.next ((x11).set ((k10 : Int)).toNat x35))

def p_laws_toInt64SSS (a : (List (List (List Int)))) : Option ((List (List (List Int)))) :=
  (mkL ((a).length : Int) ([] : (List (List Int)))).bind fun x2 =>
  (forN (fun k s => p_laws_toInt64SSS_L1 a k s) (a).length 0 x2).bind fun res8 => onRes res8 (fun r69 => none) fun (x66 : (List (List (List Int)))) =>
  some x66

def p_laws_toRing (a_Table : (List (List (List Int)))) : Option ((List (List (List Int)))) :=
  (p_laws_toInt64SSS a_Table).bind fun x17 =>
  some x17

def p_spec_l01In (n : Int) (low : Int) (high : Int) : Option (Bool) :=
  some ((decide (n ≥ low)) && (decide (n ≤ high)))

def p_spec_l03Cube_L3 (x62 : (List Int)) (k74 : Nat) : Option (Ctl (Unit) (Bool)) :=
  (idx x62 (k74 : Int)).bind fun x98 =>
  (p_spec_l01In x98 (0 : Int) (1000 : Int)).bind fun x105 =>
  if (!x105) = true then
    some (.ret false)
  else
    some (.next ())

def p_spec_l03Cube_L2 (x30 : (List (List Int))) (t : (List (List (List Int)))) (k42 : Nat) : Option (Ctl (Unit) (Bool)) :=
  (idx x30 (k42 : Int)).bind fun x62 =>
  if (((x62).length : Int) != ((t).length : Int)) = true then
    some (.ret false)
  else
    (forN (fun k s => p_spec_l03Cube_L3 x62 k ) (t).length 0 ()).bind fun res72 => onRes res72 (fun r136 => some (.ret r136)) fun _ =>
    some (.next ())

def p_spec_l03Cube_L1 (t : (List (List (List Int)))) (k14 : Nat) : Option (Ctl (Unit) (Bool)) :=
  (idx t (k14 : Int)).bind fun x30 =>
  if (((x30).length : Int) != ((t).length : Int)) = true then
    some (.ret false)
  else
    (forN (fun k s => p_spec_l03Cube_L2 x30 t k ) (t).length 0 ()).bind fun res40 => onRes res40 (fun r158 => some (.ret r158)) fun _ =>
    some (.next ())

def p_spec_l03Cube (t : (List (List (List Int)))) : Option (Bool) :=
  if ((decide (((t).length : Int) < (1 : Int))) || (decide (((t).length : Int) > (16 : Int)))) = true then
    some false
  else
    (forN (fun k s => p_spec_l03Cube_L1 t k ) (t).length 0 ()).bind fun res12 => onRes res12 (fun r176 => some r176) fun _ =>
    some true

def p_spec_l03Dual_L1 (t : (List (List (List Int)))) (i : Int) (k3 : Nat) (x4 : Int) : Option (Ctl (Int) (Int)) :=
  (idx t i).bind fun x23 =>
  (idx x23 (k3 : Int)).bind fun x30 =>
  (idx x30 (0 : Int)).bind fun x37 =>
  if ((x37 == (1 : Int)) && (decide (x4 < (0 : Int)))) = true then
    some (.next (k3 : Int))
  else
    if (x37 != (0 : Int)) = true then
      some (.ret (-1 : Int))
    else
      some (.next x4)

def p_spec_l03Dual (t : (List (List (List Int)))) (i : Int) : Option (Int) :=
  (forN (fun k s => p_spec_l03Dual_L1 t i k s) (t).length 0 (-1 : Int)).bind fun res1 => onRes res1 (fun r91 => some r91) fun (x87 : Int) =>
  some x87

def p_spec_l03Fault_L2 (k4 : Nat) (t : (List (List (List Int)))) (k22 : Nat) : Option (Ctl (Unit) ((List Int))) :=
  (if ((k4 : Int) == (k22 : Int)) = true then
    some (1 : Int)
  else
    some (0 : Int)).bind fun (x39 : Int) =>
  (idx t (0 : Int)).bind fun x52 =>
  (idx x52 (k4 : Int)).bind fun x59 =>
  (idx x59 (k22 : Int)).bind fun x66 =>
  (if (x66 != x39) = true then
    some true
  else
    (idx t (k4 : Int)).bind fun x79 =>
    (idx x79 (0 : Int)).bind fun x86 =>
    (idx x86 (k22 : Int)).bind fun x93 =>
    some (x93 != x39)).bind fun (x74 : Bool) =>
  if x74 = true then
    some (.ret ([(0 : Int), (k4 : Int), (k22 : Int)] : (List Int)))
  else
    some (.next ())

def p_spec_l03Fault_L1 (t : (List (List (List Int)))) (k4 : Nat) : Option (Ctl (Unit) ((List Int))) :=
  (forN (fun k s => p_spec_l03Fault_L2 k4 t k ) (t).length 0 ()).bind fun res20 => onRes res20 (fun r133 => some (.ret r133)) fun _ =>
  some (.next ())

def p_spec_l03Fault_L3 (t : (List (List (List Int)))) (k159 : Nat) (x160 : (List Int)) : Option (Ctl ((List Int)) (Unit)) :=
  (p_spec_l03Dual t (k159 : Int)).bind fun x178 =>
  (appL x160 ([x178] : (List Int))).bind fun x189 =>
  some (.next x189)

def p_spec_l03Fault_L4 (x214 : (List Int)) (k222 : Nat) : Option (Ctl (Unit) ((List Int))) :=
  (idx x214 (k222 : Int)).bind fun x239 =>
  (if (decide (x239 < (0 : Int))) = true then
    some true
  else
    (idx x214 x239).bind fun x255 =>
    some (x255 != (k222 : Int))).bind fun (x247 : Bool) =>
  if x247 = true then
    some (.ret ([(1 : Int), (k222 : Int)] : (List Int)))
  else
    some (.next ())

def p_spec_l03Fault_L7 (t : (List (List (List Int)))) (k297 : Nat) (k316 : Nat) (x214 : (List Int)) (k336 : Nat) : Option (Ctl (Unit) ((List Int))) :=
  (idx t (k297 : Int)).bind fun x384 =>
  (idx x384 (k316 : Int)).bind fun x423 =>
  (idx x423 (k336 : Int)).bind fun x462 =>
  (idx x214 (k297 : Int)).bind fun x515 =>
  (idx t x515).bind fun x547 =>
  (idx x547 (k336 : Int)).bind fun x586 =>
  (idx x586 (k316 : Int)).bind fun x625 =>
  (if (x462 != x625) = true then
    some true
  else
    (idx t (k336 : Int)).bind fun x1110 =>
    (idx x214 (k316 : Int)).bind fun x1172 =>
    (idx x1110 x1172).bind fun x1212 =>
    (idx x1212 (k297 : Int)).bind fun x1263 =>
    some (x462 != x1263)).bind fun (x668 : Bool) =>
  if x668 = true then
    some (.ret ([(2 : Int), (k297 : Int), (k316 : Int), (k336 : Int)] : (List Int)))
  else
    some (.next ())

def p_spec_l03Fault_L6 (t : (List (List (List Int)))) (k297 : Nat) (x214 : (List Int)) (k316 : Nat) : Option (Ctl (Unit) ((List Int))) :=
  (forN (fun k s => p_spec_l03Fault_L7 t k297 k316 x214 k ) (t).length 0 ()).bind fun res334 => onRes res334 (fun r1374 => some (.ret r1374)) fun _ =>
  some (.next ())

def p_spec_l03Fault_L5 (t : (List (List (List Int)))) (x214 : (List Int)) (k297 : Nat) : Option (Ctl (Unit) ((List Int))) :=
  (forN (fun k s => p_spec_l03Fault_L6 t k297 x214 k ) (t).length 0 ()).bind fun res314 => onRes res314 (fun r1398 => some (.ret r1398)) fun _ =>
  some (.next ())

def p_spec_l03Fault_L12 (t : (List (List (List Int)))) (k1421 : Nat) (k1439 : Nat) (k1458 : Nat) (k1478 : Nat) (k1499 : Nat) (x1500 : Int) (x1501 : Int) : Option (Ctl (Int × Int) (Unit)) :=
  (idx t (k1421 : Int)).bind fun x1561 =>
  (idx x1561 (k1439 : Int)).bind fun x1600 =>
  (idx x1600 (k1499 : Int)).bind fun x1639 =>
  (idx t (k1499 : Int)).bind fun x1685 =>
  (idx x1685 (k1458 : Int)).bind fun x1724 =>
  (idx x1724 (k1478 : Int)).bind fun x1763 =>
  (idx t (k1439 : Int)).bind fun x1853 =>
  (idx x1853 (k1458 : Int)).bind fun x1892 =>
  (idx x1892 (k1499 : Int)).bind fun x1931 =>
  (idx x1561 (k1499 : Int)).bind fun x2012 =>
  (idx x2012 (k1478 : Int)).bind fun x2051 =>
  some (.next ((w64 (x1500 + (w64 (x1639 * x1763)))), (w64 (x1501 + (w64 (x1931 * x2051))))))

def p_spec_l03Fault_L11 (t : (List (List (List Int)))) (k1421 : Nat) (k1439 : Nat) (k1458 : Nat) (k1478 : Nat) : Option (Ctl (Unit) ((List Int))) :=
  (forN (fun k s => p_spec_l03Fault_L12 t k1421 k1439 k1458 k1478 k s.1 s.2) (t).length 0 ((0 : Int), (0 : Int))).bind fun res1497 => onRes res1497 (fun r2150 => none) fun (s2130p : Int × Int) =>
  if (s2130p.1 != s2130p.2) = true then
    some (.ret ([(3 : Int), (k1421 : Int), (k1439 : Int), (k1458 : Int), (k1478 : Int)] : (List Int)))
  else
    some (.next ())

def p_spec_l03Fault_L10 (t : (List (List (List Int)))) (k1421 : Nat) (k1439 : Nat) (k1458 : Nat) : Option (Ctl (Unit) ((List Int))) :=
  (forN (fun k s => p_spec_l03Fault_L11 t k1421 k1439 k1458 k ) (t).length 0 ()).bind fun res1476 => onRes res1476 (fun r2176 => some (.ret r2176)) fun _ =>
  some (.next ())

def p_spec_l03Fault_L9 (t : (List (List (List Int)))) (k1421 : Nat) (k1439 : Nat) : Option (Ctl (Unit) ((List Int))) :=
  (forN (fun k s => p_spec_l03Fault_L10 t k1421 k1439 k ) (t).length 0 ()).bind fun res1456 => onRes res1456 (fun r2200 => some (.ret r2200)) fun _ =>
  some (.next ())

def p_spec_l03Fault_L8 (t : (List (List (List Int)))) (k1421 : Nat) : Option (Ctl (Unit) ((List Int))) :=
  (forN (fun k s => p_spec_l03Fault_L9 t k1421 k ) (t).length 0 ()).bind fun res1437 => onRes res1437 (fun r2222 => some (.ret r2222)) fun _ =>
  some (.next ())

def p_spec_l03Fault (t : (List (List (List Int)))) : Option ((List Int)) :=
  (forN (fun k s => p_spec_l03Fault_L1 t k ) (t).length 0 ()).bind fun res2 => onRes res2 (fun r2244 => some r2244) fun _ =>
  (forN (fun k s => p_spec_l03Fault_L3 t k s) (t).length 0 ([] : (List Int))).bind fun res157 => onRes res157 (fun r2243 => none) fun (x214 : (List Int)) =>
  (forN (fun k s => p_spec_l03Fault_L4 x214 k ) (t).length 0 ()).bind fun res220 => onRes res220 (fun r2242 => some r2242) fun _ =>
  (forN (fun k s => p_spec_l03Fault_L5 t x214 k ) (t).length 0 ()).bind fun res295 => onRes res295 (fun r2241 => some r2241) fun _ =>
  (forN (fun k s => p_spec_l03Fault_L8 t k ) (t).length 0 ()).bind fun res1419 => onRes res1419 (fun r2240 => some r2240) fun _ =>
  some ([] : (List Int))

def p_spec_l03Is (r_Table : (List (List (List Int)))) : Option (Bool) :=
  (p_spec_l03Cube r_Table).bind fun x9 =>
  (if x9 = true then
    (p_spec_l03Fault r_Table).bind fun x21 =>
    some (((x21).length : Int) == (0 : Int))
  else
    some false).bind fun (x16 : Bool) =>
  some x16

def p_spec_l05All (r_Table : (List (List (List Int)))) : Option (Int) :=
  (shlI .i64 (1 : Int) (IntKind.u64.wrap ((r_Table).length : Int))).bind fun x10 =>
  some (w64 (x10 - (1 : Int)))

def p_spec_l05Code (r_Table : (List (List (List Int)))) (set : Int) : Option (Int) :=
  (p_spec_l03Is r_Table).bind fun x9 =>
  if (!x9) = true then
    some (1 : Int)
  else
    (p_spec_l05All r_Table).bind fun x17 =>
    (p_spec_l01In set (0 : Int) x17).bind fun x24 =>
    if (!x24) = true then
      some (2 : Int)
    else
      some (0 : Int)

def p_spec_l05Bit (set : Int) (i : Int) : Option (Bool) :=
  (shrI .i64 set (IntKind.u64.wrap i)).bind fun x1 =>
  some ((andI .i64 x1 (1 : Int)) == (1 : Int))

def p_spec_l05Spread_L3 (r_Table : (List (List (List Int)))) (set : Int) (k53 : Nat) (k12 : Nat) (x77 : Int) (x78 : Int) : Option (Ctl (Int × Int) (Unit)) :=
  (if (decide (x78 < ((r_Table).length : Int))) = true then
    (p_spec_l05Bit set (k53 : Int)).bind fun x103 =>
    some x103
  else
    some false).bind fun (x98 : Bool) =>
  if x98 = true then
    (idx r_Table (k12 : Int)).bind fun x120 =>
    (idx x120 (k53 : Int)).bind fun x127 =>
    (idx x127 x78).bind fun x134 =>
    (if (decide (x134 > (0 : Int))) = true then
      (shlI .i64 (1 : Int) (IntKind.u64.wrap x78)).bind fun x144 =>
      some (orI .i64 x77 x144)
    else
      some x77).bind fun (x141 : Int) =>
    some (.next (x141, (w64 (x78 + (1 : Int)))))
  else
    some (.brk (x77, x78))

def p_spec_l05Spread_L2 (r_Table : (List (List (List Int)))) (set : Int) (k12 : Nat) (k53 : Nat) (x54 : Int) : Option (Ctl (Int) (Unit)) :=
  (whileC (fun s => p_spec_l05Spread_L3 r_Table set k53 k12 s.1 s.2) (x54, (0 : Int))).bind fun res74 => onRes res74 (fun r175 => none) fun (s164p : Int × Int) =>
  some (.next s164p.1)

def p_spec_l05Spread_L1 (set : Int) (r_Table : (List (List (List Int)))) (k12 : Nat) (x13 : Int) : Option (Ctl (Int) (Unit)) :=
  (p_spec_l05Bit set (k12 : Int)).bind fun x32 =>
  if (!x32) = true then
    some (.next x13)
  else
    (p_spec_l03Dual r_Table (k12 : Int)).bind fun x40 =>
    (shlI .i64 (1 : Int) (IntKind.u64.wrap x40)).bind fun x47 =>
    (forN (fun k s => p_spec_l05Spread_L2 r_Table set k12 k s) (r_Table).length 0 (orI .i64 x13 x47)).bind fun res51 => onRes res51 (fun r205 => none) fun (x197 : Int) =>
    some (.next x197)

def p_spec_l05Spread (r_Table : (List (List (List Int)))) (set : Int) : Option (Int) :=
  (forN (fun k s => p_spec_l05Spread_L1 set r_Table k s) (r_Table).length 0 (orI .i64 set (1 : Int))).bind fun res10 => onRes res10 (fun r230 => none) fun (x226 : Int) =>
  some x226

def p_spec_l05Is (r_Table : (List (List (List Int)))) (set : Int) : Option (Bool) :=
  (p_spec_l05Spread r_Table set).bind fun x9 =>
  some (x9 == set)

def p_spec_l05Labels_L1 (set : Int) (k15 : Nat) (x16 : (List Int)) : Option (Ctl ((List Int)) (Unit)) :=
  (p_spec_l05Bit set (k15 : Int)).bind fun x35 =>
  (if x35 = true then
    (appL x16 ([(k15 : Int)] : (List Int))).bind fun x48 =>
    some x48
  else
    some x16).bind fun (x41 : (List Int)) =>
  some (.next x41)

def p_spec_l05Labels (r_Table : (List (List (List Int)))) (set : Int) : Option ((List Int)) :=
  (forN (fun k s => p_spec_l05Labels_L1 set k s) (r_Table).length 0 ([] : (List Int))).bind fun res13 => onRes res13 (fun r87 => none) fun (x83 : (List Int)) =>
  some x83

def p_spec_l05Ring_L3 (x13 : (List Int)) (k29 : Nat) (r_Table : (List (List (List Int)))) (k56 : Nat) (k85 : Nat) (x86 : (List Int)) : Option (Ctl ((List Int)) (Unit)) :=
  (idx x13 (k29 : Int)).bind fun x163 =>
  (idx r_Table x163).bind fun x195 =>
  (idx x13 (k56 : Int)).bind fun x241 =>
  (idx x195 x241).bind fun x273 =>
  (idx x13 (k85 : Int)).bind fun x319 =>
  (idx x273 x319).bind fun x351 =>
  (appL x86 ([x351] : (List Int))).bind fun x404 =>
  some (.next x404)

def p_spec_l05Ring_L2 (x13 : (List Int)) (k29 : Nat) (r_Table : (List (List (List Int)))) (k56 : Nat) (x57 : (List (List Int))) : Option (Ctl ((List (List Int))) (Unit)) :=
  (forN (fun k s => p_spec_l05Ring_L3 x13 k29 r_Table k56 k s) (x13).length 0 ([] : (List Int))).bind fun res83 => onRes res83 (fun r458 => none) fun (x435 : (List Int)) =>
  (appL x57 [x435]).bind fun x452 =>
  some (.next x452)

def p_spec_l05Ring_L1 (x13 : (List Int)) (r_Table : (List (List (List Int)))) (k29 : Nat) (x30 : (List (List (List Int)))) : Option (Ctl ((List (List (List Int)))) (Unit)) :=
  (forN (fun k s => p_spec_l05Ring_L2 x13 k29 r_Table k s) (x13).length 0 ([] : (List (List Int)))).bind fun res54 => onRes res54 (fun r505 => none) fun (x482 : (List (List Int))) =>
  (appL x30 [x482]).bind fun x497 =>
  some (.next x497)

def p_spec_l05Ring (r_Table : (List (List (List Int)))) (set : Int) : Option ((List (List (List Int)))) :=
  (p_spec_l05Labels r_Table set).bind fun x13 =>
  (forN (fun k s => p_spec_l05Ring_L1 x13 r_Table k s) (x13).length 0 ([] : (List (List (List Int))))).bind fun res27 => onRes res27 (fun r534 => none) fun (x527 : (List (List (List Int)))) =>
  some x527

def p_impl_within (n : Int) (low : Int) (high : Int) : Option (Bool) :=
  some ((decide (n ≥ low)) && (decide (n ≤ high)))

def p_impl_allWithin_c1 (n : Int) (c0 : Int) (c1 : Int) : Option (Bool) :=
  (p_impl_within n c0 c1).bind fun x1 =>
  some (!x1)

def p_slices_IndexFunc_Lint64_int64_L1 (s1 : (List Int)) (f1 : (Int → Option Bool)) (k4 : Nat) : Option (Ctl (Unit) (Int)) :=
  (idx s1 (k4 : Int)).bind fun x21 =>
  (f1 x21).bind fun x28 =>
  if x28 = true then
    some (.ret (k4 : Int))
  else
    some (.next ())

def p_slices_IndexFunc_Lint64_int64 (s1 : (List Int)) (f1 : Int → Option Bool) : Option (Int) :=
  (forN (fun k s => p_slices_IndexFunc_Lint64_int64_L1 s1 f1 k ) (s1).length 0 ()).bind fun res2 => onRes res2 (fun r54 => some r54) fun _ =>
  some (-1 : Int)

def p_slices_ContainsFunc_Lint64_int64 (s1 : (List Int)) (f1 : Int → Option Bool) : Option (Bool) :=
  (p_slices_IndexFunc_Lint64_int64 s1 f1).bind fun x1 =>
  some (decide (x1 ≥ (0 : Int)))

def p_impl_allWithin (list : (List Int)) (low : Int) (high : Int) : Option (Bool) :=
  (p_slices_ContainsFunc_Lint64_int64 list (fun a0_19 => p_impl_allWithin_c1 a0_19 low high)).bind fun x22 =>
  some (!x22)

def p_impl_isCube_c1 (row : (List Int)) (c0 : Int) : Option (Bool) :=
  (if (((row).length : Int) != c0) = true then
    some true
  else
    (p_impl_allWithin row (0 : Int) (1000 : Int)).bind fun x8 =>
    some (!x8)).bind fun (x3 : Bool) =>
  some x3

def p_slices_IndexFunc_LLint64_Lint64_L1 (s1 : (List (List Int))) (f1 : ((List Int) → Option Bool)) (k4 : Nat) : Option (Ctl (Unit) (Int)) :=
  (idx s1 (k4 : Int)).bind fun x21 =>
  (f1 x21).bind fun x28 =>
  if x28 = true then
    some (.ret (k4 : Int))
  else
    some (.next ())

def p_slices_IndexFunc_LLint64_Lint64 (s1 : (List (List Int))) (f1 : (List Int) → Option Bool) : Option (Int) :=
  (forN (fun k s => p_slices_IndexFunc_LLint64_Lint64_L1 s1 f1 k ) (s1).length 0 ()).bind fun res2 => onRes res2 (fun r54 => some r54) fun _ =>
  some (-1 : Int)

def p_slices_ContainsFunc_LLint64_Lint64 (s1 : (List (List Int))) (f1 : (List Int) → Option Bool) : Option (Bool) :=
  (p_slices_IndexFunc_LLint64_Lint64 s1 f1).bind fun x1 =>
  some (decide (x1 ≥ (0 : Int)))

def p_impl_isCube_L1 (r_Table : (List (List (List Int)))) (k19 : Nat) : Option (Ctl (Unit) (Bool)) :=
  (idx r_Table (k19 : Int)).bind fun x36 =>
  (if (((x36).length : Int) != ((r_Table).length : Int)) = true then
    some true
  else
    (p_slices_ContainsFunc_LLint64_Lint64 x36 (fun a0_51 => p_impl_isCube_c1 a0_51 ((r_Table).length : Int))).bind fun x54 =>
    some x54).bind fun (x45 : Bool) =>
  if x45 = true then
    some (.ret false)
  else
    some (.next ())

def p_impl_isCube (r_Table : (List (List (List Int)))) : Option (Bool) :=
  (forN (fun k s => p_impl_isCube_L1 r_Table k ) (r_Table).length 0 ()).bind fun res17 => onRes res17 (fun r93 => some r93) fun _ =>
  some ((decide (((r_Table).length : Int) ≥ (1 : Int))) && (decide (((r_Table).length : Int) ≤ (16 : Int))))

def p_impl_delta (i : Int) (k1 : Int) : Option (Int) :=
  if (i == k1) = true then
    some (1 : Int)
  else
    some (0 : Int)

def p_impl_Ring_unitFault_L2 (r_Table : (List (List (List Int)))) (k12 : Nat) (k31 : Nat) : Option (Ctl (Unit) ((List Int))) :=
  (idx r_Table (0 : Int)).bind fun x77 =>
  (idx x77 (k12 : Int)).bind fun x116 =>
  (idx x116 (k31 : Int)).bind fun x155 =>
  (p_impl_delta (k12 : Int) (k31 : Int)).bind fun x202 =>
  (if (x155 != x202) = true then
    some true
  else
    (idx r_Table (k12 : Int)).bind fun x439 =>
    (idx x439 (0 : Int)).bind fun x474 =>
    (idx x474 (k31 : Int)).bind fun x525 =>
    (p_impl_delta (k12 : Int) (k31 : Int)).bind fun x588 =>
    some (x525 != x588)).bind fun (x234 : Bool) =>
  if x234 = true then
    some (.ret ([(0 : Int), (k12 : Int), (k31 : Int)] : (List Int)))
  else
    some (.next ())

def p_impl_Ring_unitFault_L1 (r_Table : (List (List (List Int)))) (k12 : Nat) : Option (Ctl (Unit) ((List Int))) :=
  (forN (fun k s => p_impl_Ring_unitFault_L2 r_Table k12 k ) (r_Table).length 0 ()).bind fun res29 => onRes res29 (fun r671 => some (.ret r671)) fun _ =>
  some (.next ())

def p_impl_Ring_unitFault (r_Table : (List (List (List Int)))) : Option ((List Int)) :=
  (forN (fun k s => p_impl_Ring_unitFault_L1 r_Table k ) (r_Table).length 0 ()).bind fun res10 => onRes res10 (fun r689 => some r689) fun _ =>
  some ([] : (List Int))

def p_impl_Ring_onlyOf_L1 (x9 : (List (List Int))) (k19 : Nat) (x20 : Int) : Option (Ctl (Int) (Int)) :=
  (idx x9 (k19 : Int)).bind fun x38 =>
  (idx x38 (0 : Int)).bind fun x45 =>
  if (x45 == (0 : Int)) = true then
    some (.next x20)
  else
    if ((decide (x20 ≥ (0 : Int))) || (x45 != (1 : Int))) = true then
      some (.ret (-1 : Int))
    else
      some (.next (k19 : Int))

def p_impl_Ring_onlyOf (r_Table : (List (List (List Int)))) (i : Int) : Option (Int) :=
  (idx r_Table i).bind fun x9 =>
  (forN (fun k s => p_impl_Ring_onlyOf_L1 x9 k s) (x9).length 0 (-1 : Int)).bind fun res17 => onRes res17 (fun r92 => some r92) fun (x88 : Int) =>
  some x88

def p_impl_Ring_dualFault_L1 (r_Table : (List (List (List Int)))) (k12 : Nat) : Option (Ctl (Unit) (Int)) :=
  (p_impl_Ring_onlyOf r_Table (k12 : Int)).bind fun x28 =>
  (if (decide (x28 < (0 : Int))) = true then
    some true
  else
    (p_impl_Ring_onlyOf r_Table x28).bind fun x41 =>
    some (x41 != (k12 : Int))).bind fun (x36 : Bool) =>
  if x36 = true then
    some (.ret (k12 : Int))
  else
    some (.next ())

def p_impl_Ring_dualFault (r_Table : (List (List (List Int)))) : Option (Int) :=
  (forN (fun k s => p_impl_Ring_dualFault_L1 r_Table k ) (r_Table).length 0 ()).bind fun res10 => onRes res10 (fun r73 => some r73) fun _ =>
  some (-1 : Int)

def p_impl_Ring_duals_L1 (r_Table : (List (List (List Int)))) (k16 : Nat) (x17 : (List Int)) : Option (Ctl ((List Int)) (Unit)) :=
  (p_impl_Ring_onlyOf r_Table (k16 : Int)).bind fun x35 =>
  (appL x17 ([x35] : (List Int))).bind fun x46 =>
  some (.next x46)

def p_impl_Ring_duals (r_Table : (List (List (List Int)))) : Option ((List Int)) :=
  (forN (fun k s => p_impl_Ring_duals_L1 r_Table k s) (r_Table).length 0 ([] : (List Int))).bind fun res14 => onRes res14 (fun r75 => none) fun (x71 : (List Int)) =>
  some x71

def p_impl_Ring_turnFault_L3 (r_Table : (List (List (List Int)))) (k23 : Nat) (k43 : Nat) (x9 : (List Int)) (k66 : Nat) : Option (Ctl (Unit) ((List Int))) :=
  (idx r_Table (k23 : Int)).bind fun x89 =>
  (idx x89 (k43 : Int)).bind fun x96 =>
  (idx x96 (k66 : Int)).bind fun x103 =>
  (idx x9 (k23 : Int)).bind fun x163 =>
  (idx r_Table x163).bind fun x195 =>
  (idx x195 (k66 : Int)).bind fun x234 =>
  (idx x234 (k43 : Int)).bind fun x273 =>
  (if (x103 != x273) = true then
    some true
  else
    (idx r_Table (k66 : Int)).bind fun x556 =>
    (idx x9 (k43 : Int)).bind fun x618 =>
    (idx x556 x618).bind fun x658 =>
    (idx x658 (k23 : Int)).bind fun x709 =>
    some (x103 != x709)).bind fun (x316 : Bool) =>
  if x316 = true then
    some (.ret ([(2 : Int), (k23 : Int), (k43 : Int), (k66 : Int)] : (List Int)))
  else
    some (.next ())

def p_impl_Ring_turnFault_L2 (r_Table : (List (List (List Int)))) (k23 : Nat) (x9 : (List Int)) (k43 : Nat) : Option (Ctl (Unit) ((List Int))) :=
  (forN (fun k s => p_impl_Ring_turnFault_L3 r_Table k23 k43 x9 k ) (r_Table).length 0 ()).bind fun res64 => onRes res64 (fun r825 => some (.ret r825)) fun _ =>
  some (.next ())

def p_impl_Ring_turnFault_L1 (r_Table : (List (List (List Int)))) (x9 : (List Int)) (k23 : Nat) : Option (Ctl (Unit) ((List Int))) :=
  (forN (fun k s => p_impl_Ring_turnFault_L2 r_Table k23 x9 k ) (r_Table).length 0 ()).bind fun res41 => onRes res41 (fun r851 => some (.ret r851)) fun _ =>
  some (.next ())

def p_impl_Ring_turnFault (r_Table : (List (List (List Int)))) : Option ((List Int)) :=
  (p_impl_Ring_duals r_Table).bind fun x9 =>
  (forN (fun k s => p_impl_Ring_turnFault_L1 r_Table x9 k ) (r_Table).length 0 ()).bind fun res21 => onRes res21 (fun r870 => some r870) fun _ =>
  some ([] : (List Int))

def p_impl_Ring_bracketFault_L5 (x29 : (List (List Int))) (k39 : Nat) (r_Table : (List (List (List Int)))) (k71 : Nat) (k100 : Nat) (x61 : (List (List Int))) (k132 : Nat) (x133 : Int) (x134 : Int) : Option (Ctl (Int × Int) (Unit)) :=
  (idx x29 (k39 : Int)).bind fun x206 =>
  (idx x206 (k132 : Int)).bind fun x245 =>
  (idx r_Table (k132 : Int)).bind fun x301 =>
  (idx x301 (k71 : Int)).bind fun x340 =>
  (idx x340 (k100 : Int)).bind fun x379 =>
  (idx x61 (k71 : Int)).bind fun x482 =>
  (idx x482 (k132 : Int)).bind fun x521 =>
  (idx x29 (k132 : Int)).bind fun x567 =>
  (idx x567 (k100 : Int)).bind fun x606 =>
  some (.next ((w64 (x133 + (w64 (x245 * x379)))), (w64 (x134 + (w64 (x521 * x606))))))

def p_impl_Ring_bracketFault_L4 (x29 : (List (List Int))) (k39 : Nat) (r_Table : (List (List (List Int)))) (k71 : Nat) (x61 : (List (List Int))) (k12 : Nat) (k100 : Nat) : Option (Ctl (Unit) ((List Int))) :=
  (forN (fun k s => p_impl_Ring_bracketFault_L5 x29 k39 r_Table k71 k100 x61 k s.1 s.2) (r_Table).length 0 ((0 : Int), (0 : Int))).bind fun res130 => onRes res130 (fun r740 => none) fun (s709p : Int × Int) =>
  if (s709p.1 != s709p.2) = true then
    some (.ret ([(3 : Int), (k12 : Int), (k39 : Int), (k71 : Int), (k100 : Int)] : (List Int)))
  else
    some (.next ())

def p_impl_Ring_bracketFault_L3 (x29 : (List (List Int))) (k39 : Nat) (r_Table : (List (List (List Int)))) (x61 : (List (List Int))) (k12 : Nat) (k71 : Nat) : Option (Ctl (Unit) ((List Int))) :=
  (forN (fun k s => p_impl_Ring_bracketFault_L4 x29 k39 r_Table k71 x61 k12 k ) (r_Table).length 0 ()).bind fun res98 => onRes res98 (fun r784 => some (.ret r784)) fun _ =>
  some (.next ())

def p_impl_Ring_bracketFault_L2 (r_Table : (List (List (List Int)))) (x29 : (List (List Int))) (k12 : Nat) (k39 : Nat) : Option (Ctl (Unit) ((List Int))) :=
  (idx r_Table (k39 : Int)).bind fun x61 =>
  (forN (fun k s => p_impl_Ring_bracketFault_L3 x29 k39 r_Table x61 k12 k ) (r_Table).length 0 ()).bind fun res69 => onRes res69 (fun r821 => some (.ret r821)) fun _ =>
  some (.next ())

def p_impl_Ring_bracketFault_L1 (r_Table : (List (List (List Int)))) (k12 : Nat) : Option (Ctl (Unit) ((List Int))) :=
  (idx r_Table (k12 : Int)).bind fun x29 =>
  (forN (fun k s => p_impl_Ring_bracketFault_L2 r_Table x29 k12 k ) (r_Table).length 0 ()).bind fun res37 => onRes res37 (fun r849 => some (.ret r849)) fun _ =>
  some (.next ())

def p_impl_Ring_bracketFault (r_Table : (List (List (List Int)))) : Option ((List Int)) :=
  (forN (fun k s => p_impl_Ring_bracketFault_L1 r_Table k ) (r_Table).length 0 ()).bind fun res10 => onRes res10 (fun r868 => some r868) fun _ =>
  some ([] : (List Int))

def p_impl_Ring_fault (r_Table : (List (List (List Int)))) : Option ((List Int)) :=
  (p_impl_Ring_unitFault r_Table).bind fun x9 =>
  if (!(x9).isEmpty) = true then
    some x9
  else
    (p_impl_Ring_dualFault r_Table).bind fun x19 =>
    if (decide (x19 ≥ (0 : Int))) = true then
      some ([(1 : Int), x19] : (List Int))
    else
      (p_impl_Ring_turnFault r_Table).bind fun x32 =>
      if (!(x32).isEmpty) = true then
        some x32
      else
        (p_impl_Ring_bracketFault r_Table).bind fun x42 =>
        some x42

def p_impl_IsRing (r_Table : (List (List (List Int)))) : Option (Bool) :=
  (p_impl_isCube r_Table).bind fun x9 =>
  (if x9 = true then
    (p_impl_Ring_fault r_Table).bind fun x21 =>
    some (x21).isEmpty
  else
    some false).bind fun (x16 : Bool) =>
  some x16

def p_impl_Ring_isSet (r_Table : (List (List (List Int)))) (set : Int) : Option (Bool) :=
  (shlI .i64 (1 : Int) ((r_Table).length : Int)).bind fun x10 =>
  (p_impl_within set (0 : Int) (w64 (x10 - (1 : Int)))).bind fun x14 =>
  some x14

def p_impl_setCode (r_Table : (List (List (List Int)))) (set : Int) : Option (Int) :=
  (p_impl_IsRing r_Table).bind fun x9 =>
  if (!x9) = true then
    some (1 : Int)
  else
    (p_impl_Ring_isSet r_Table set).bind fun x17 =>
    if (!x17) = true then
      some (2 : Int)
    else
      some (0 : Int)

def p_impl_zeros_L1 (columns : Int) (k7 : Nat) (x8 : (List (List Int))) : Option (Ctl ((List (List Int))) (Unit)) :=
  (mkL columns (0 : Int)).bind fun x26 =>
  (appL x8 [x26]).bind fun x38 =>
  some (.next x38)

def p_impl_zeros (rows : Int) (columns : Int) : Option ((List (List Int))) :=
  (forN (fun k s => p_impl_zeros_L1 columns k s) (rows).toNat 0 ([] : (List (List Int)))).bind fun res5 => onRes res5 (fun r67 => none) fun (x63 : (List (List Int))) =>
  some x63

def p_impl_Ring_supports_L3 (x71 : (List Int)) (k21 : Nat) (k49 : Nat) (k81 : Nat) (x82 : (List (List Int))) : Option (Ctl ((List (List Int))) (Unit)) :=
  (idx x71 (k81 : Int)).bind fun x107 =>
  (if (decide (x107 > (0 : Int))) = true then
    (idx x82 (k21 : Int)).bind fun x146 =>
    (idx x146 (k49 : Int)).bind fun x185 =>
    (shlI .i64 (1 : Int) (k81 : Int)).bind fun x220 =>
    some ((x82).set ((k21 : Int)).toNat ((x146).set ((k49 : Int)).toNat (orI .i64 x185 x220)))
  else
    some x82).bind fun (x114 : (List (List Int))) =>
  some (.next x114)

def p_impl_Ring_supports_L2 (x39 : (List (List Int))) (k21 : Nat) (k49 : Nat) (x50 : (List (List Int))) : Option (Ctl ((List (List Int))) (Unit)) :=
  (idx x39 (k49 : Int)).bind fun x71 =>
  (forN (fun k s => p_impl_Ring_supports_L3 x71 k21 k49 k s) (x71).length 0 x50).bind fun res79 => onRes res79 (fun r306 => none) fun (x296 : (List (List Int))) =>
  some (.next x296)

def p_impl_Ring_supports_L1 (r_Table : (List (List (List Int)))) (k21 : Nat) (x22 : (List (List Int))) : Option (Ctl ((List (List Int))) (Unit)) :=
  (idx r_Table (k21 : Int)).bind fun x39 =>
  (forN (fun k s => p_impl_Ring_supports_L2 x39 k21 k s) (x39).length 0 x22).bind fun res47 => onRes res47 (fun r335 => none) fun (x329 : (List (List Int))) =>
  some (.next x329)

def p_impl_Ring_supports (r_Table : (List (List (List Int)))) : Option ((List (List Int))) :=
  (p_impl_zeros ((r_Table).length : Int) ((r_Table).length : Int)).bind fun x11 =>
  (forN (fun k s => p_impl_Ring_supports_L1 r_Table k s) (r_Table).length 0 x11).bind fun res19 => onRes res19 (fun r357 => none) fun (x354 : (List (List Int))) =>
  some x354

def p_math_bits_TrailingZeros64 (x : Int) : Option (Int) := some (tz64 x)

def p_impl_labelsIn_L1  (x8 : (List Int)) (x9 : Int) : Option (Ctl ((List Int) × Int) (Unit)) :=
  if (x9 != (0 : Int)) = true then
    (p_math_bits_TrailingZeros64 (IntKind.u64.wrap x9)).bind fun x25 =>
    (appL x8 ([x25] : (List Int))).bind fun x36 =>
    some (.next (x36, (andI .i64 x9 (w64 (x9 - (1 : Int))))))
  else
    some (.brk (x8, x9))

def p_impl_labelsIn (set : Int) : Option ((List Int)) :=
  (whileC (fun s => p_impl_labelsIn_L1  s.1 s.2) (([] : (List Int)), set)).bind fun res5 => onRes res5 (fun r52 => none) fun (s46p : (List Int) × Int) =>
  some s46p.1

def p_impl_Ring_closed_L3 (x141 : (List Int)) (x26 : (List (List Int))) (x123 : Int) (k158 : Nat) (x159 : Int) : Option (Ctl (Int) (Unit)) :=
  (idx x141 (k158 : Int)).bind fun x184 =>
  (idx x26 x123).bind fun x191 =>
  (idx x191 x184).bind fun x198 =>
  some (.next (orI .i64 x159 x198))

def p_impl_Ring_closed_L2 (x85 : (List Int)) (x56 : (List Int)) (x71 : Int) (x26 : (List (List Int))) (k101 : Nat) (x102 : Int) : Option (Ctl (Int) (Unit)) :=
  (idx x85 (k101 : Int)).bind fun x123 =>
  (idx x56 x123).bind fun x130 =>
  (shlI .i64 (1 : Int) x130).bind fun x137 =>
  (p_impl_labelsIn x71).bind fun x141 =>
  (forN (fun k s => p_impl_Ring_closed_L3 x141 x26 x123 k s) (x141).length 0 (orI .i64 x102 x137)).bind fun res156 => onRes res156 (fun r241 => none) fun (x231 : Int) =>
  some (.next x231)

def p_impl_Ring_closed_L1 (x56 : (List Int)) (x26 : (List (List Int))) (x71 : Int) : Option (Ctl (Int) (Int)) :=
  (p_impl_labelsIn x71).bind fun x85 =>
  (forN (fun k s => p_impl_Ring_closed_L2 x85 x56 x71 x26 k s) (x85).length 0 x71).bind fun res99 => onRes res99 (fun r273 => none) fun (x264 : Int) =>
  if (x264 == x71) = true then
    some (.ret x71)
  else
    some (.next x264)

def p_impl_Ring_closed (r_Table : (List (List (List Int)))) (set : Int) : Option (Int) :=
  (p_impl_Ring_supports r_Table).bind fun x26 =>
  (p_impl_Ring_duals r_Table).bind fun x56 =>
  (whileC (fun s => p_impl_Ring_closed_L1 x56 x26 s) (orI .i64 set (1 : Int))).bind fun res68 => onRes res68 (fun r281 => some r281) fun (x279 : Int) =>
  none

def p_math_bits_OnesCount64 (x : Int) : Option (Int) :=
  some (andI .i64 (w64 (IntKind.u64.wrap ((IntKind.u64.wrap ((IntKind.u64.wrap ((andI .u64 (IntKind.u64.wrap ((((IntKind.u64.wrap ((andI .u64 (((IntKind.u64.wrap ((andI .u64 ((x).fdiv (2 ^ 1)) (6148914691236517205 : Int)) + (andI .u64 x (6148914691236517205 : Int))))).fdiv (2 ^ 2)) (3689348814741910323 : Int)) + (andI .u64 (IntKind.u64.wrap ((andI .u64 ((x).fdiv (2 ^ 1)) (6148914691236517205 : Int)) + (andI .u64 x (6148914691236517205 : Int)))) (3689348814741910323 : Int))))).fdiv (2 ^ 4)) + (IntKind.u64.wrap ((andI .u64 (((IntKind.u64.wrap ((andI .u64 ((x).fdiv (2 ^ 1)) (6148914691236517205 : Int)) + (andI .u64 x (6148914691236517205 : Int))))).fdiv (2 ^ 2)) (3689348814741910323 : Int)) + (andI .u64 (IntKind.u64.wrap ((andI .u64 ((x).fdiv (2 ^ 1)) (6148914691236517205 : Int)) + (andI .u64 x (6148914691236517205 : Int)))) (3689348814741910323 : Int)))))) (1085102592571150095 : Int)) + (((andI .u64 (IntKind.u64.wrap ((((IntKind.u64.wrap ((andI .u64 (((IntKind.u64.wrap ((andI .u64 ((x).fdiv (2 ^ 1)) (6148914691236517205 : Int)) + (andI .u64 x (6148914691236517205 : Int))))).fdiv (2 ^ 2)) (3689348814741910323 : Int)) + (andI .u64 (IntKind.u64.wrap ((andI .u64 ((x).fdiv (2 ^ 1)) (6148914691236517205 : Int)) + (andI .u64 x (6148914691236517205 : Int)))) (3689348814741910323 : Int))))).fdiv (2 ^ 4)) + (IntKind.u64.wrap ((andI .u64 (((IntKind.u64.wrap ((andI .u64 ((x).fdiv (2 ^ 1)) (6148914691236517205 : Int)) + (andI .u64 x (6148914691236517205 : Int))))).fdiv (2 ^ 2)) (3689348814741910323 : Int)) + (andI .u64 (IntKind.u64.wrap ((andI .u64 ((x).fdiv (2 ^ 1)) (6148914691236517205 : Int)) + (andI .u64 x (6148914691236517205 : Int)))) (3689348814741910323 : Int)))))) (1085102592571150095 : Int))).fdiv (2 ^ 8)))) + (((IntKind.u64.wrap ((andI .u64 (IntKind.u64.wrap ((((IntKind.u64.wrap ((andI .u64 (((IntKind.u64.wrap ((andI .u64 ((x).fdiv (2 ^ 1)) (6148914691236517205 : Int)) + (andI .u64 x (6148914691236517205 : Int))))).fdiv (2 ^ 2)) (3689348814741910323 : Int)) + (andI .u64 (IntKind.u64.wrap ((andI .u64 ((x).fdiv (2 ^ 1)) (6148914691236517205 : Int)) + (andI .u64 x (6148914691236517205 : Int)))) (3689348814741910323 : Int))))).fdiv (2 ^ 4)) + (IntKind.u64.wrap ((andI .u64 (((IntKind.u64.wrap ((andI .u64 ((x).fdiv (2 ^ 1)) (6148914691236517205 : Int)) + (andI .u64 x (6148914691236517205 : Int))))).fdiv (2 ^ 2)) (3689348814741910323 : Int)) + (andI .u64 (IntKind.u64.wrap ((andI .u64 ((x).fdiv (2 ^ 1)) (6148914691236517205 : Int)) + (andI .u64 x (6148914691236517205 : Int)))) (3689348814741910323 : Int)))))) (1085102592571150095 : Int)) + (((andI .u64 (IntKind.u64.wrap ((((IntKind.u64.wrap ((andI .u64 (((IntKind.u64.wrap ((andI .u64 ((x).fdiv (2 ^ 1)) (6148914691236517205 : Int)) + (andI .u64 x (6148914691236517205 : Int))))).fdiv (2 ^ 2)) (3689348814741910323 : Int)) + (andI .u64 (IntKind.u64.wrap ((andI .u64 ((x).fdiv (2 ^ 1)) (6148914691236517205 : Int)) + (andI .u64 x (6148914691236517205 : Int)))) (3689348814741910323 : Int))))).fdiv (2 ^ 4)) + (IntKind.u64.wrap ((andI .u64 (((IntKind.u64.wrap ((andI .u64 ((x).fdiv (2 ^ 1)) (6148914691236517205 : Int)) + (andI .u64 x (6148914691236517205 : Int))))).fdiv (2 ^ 2)) (3689348814741910323 : Int)) + (andI .u64 (IntKind.u64.wrap ((andI .u64 ((x).fdiv (2 ^ 1)) (6148914691236517205 : Int)) + (andI .u64 x (6148914691236517205 : Int)))) (3689348814741910323 : Int)))))) (1085102592571150095 : Int))).fdiv (2 ^ 8))))).fdiv (2 ^ 16)))) + (((IntKind.u64.wrap ((IntKind.u64.wrap ((andI .u64 (IntKind.u64.wrap ((((IntKind.u64.wrap ((andI .u64 (((IntKind.u64.wrap ((andI .u64 ((x).fdiv (2 ^ 1)) (6148914691236517205 : Int)) + (andI .u64 x (6148914691236517205 : Int))))).fdiv (2 ^ 2)) (3689348814741910323 : Int)) + (andI .u64 (IntKind.u64.wrap ((andI .u64 ((x).fdiv (2 ^ 1)) (6148914691236517205 : Int)) + (andI .u64 x (6148914691236517205 : Int)))) (3689348814741910323 : Int))))).fdiv (2 ^ 4)) + (IntKind.u64.wrap ((andI .u64 (((IntKind.u64.wrap ((andI .u64 ((x).fdiv (2 ^ 1)) (6148914691236517205 : Int)) + (andI .u64 x (6148914691236517205 : Int))))).fdiv (2 ^ 2)) (3689348814741910323 : Int)) + (andI .u64 (IntKind.u64.wrap ((andI .u64 ((x).fdiv (2 ^ 1)) (6148914691236517205 : Int)) + (andI .u64 x (6148914691236517205 : Int)))) (3689348814741910323 : Int)))))) (1085102592571150095 : Int)) + (((andI .u64 (IntKind.u64.wrap ((((IntKind.u64.wrap ((andI .u64 (((IntKind.u64.wrap ((andI .u64 ((x).fdiv (2 ^ 1)) (6148914691236517205 : Int)) + (andI .u64 x (6148914691236517205 : Int))))).fdiv (2 ^ 2)) (3689348814741910323 : Int)) + (andI .u64 (IntKind.u64.wrap ((andI .u64 ((x).fdiv (2 ^ 1)) (6148914691236517205 : Int)) + (andI .u64 x (6148914691236517205 : Int)))) (3689348814741910323 : Int))))).fdiv (2 ^ 4)) + (IntKind.u64.wrap ((andI .u64 (((IntKind.u64.wrap ((andI .u64 ((x).fdiv (2 ^ 1)) (6148914691236517205 : Int)) + (andI .u64 x (6148914691236517205 : Int))))).fdiv (2 ^ 2)) (3689348814741910323 : Int)) + (andI .u64 (IntKind.u64.wrap ((andI .u64 ((x).fdiv (2 ^ 1)) (6148914691236517205 : Int)) + (andI .u64 x (6148914691236517205 : Int)))) (3689348814741910323 : Int)))))) (1085102592571150095 : Int))).fdiv (2 ^ 8)))) + (((IntKind.u64.wrap ((andI .u64 (IntKind.u64.wrap ((((IntKind.u64.wrap ((andI .u64 (((IntKind.u64.wrap ((andI .u64 ((x).fdiv (2 ^ 1)) (6148914691236517205 : Int)) + (andI .u64 x (6148914691236517205 : Int))))).fdiv (2 ^ 2)) (3689348814741910323 : Int)) + (andI .u64 (IntKind.u64.wrap ((andI .u64 ((x).fdiv (2 ^ 1)) (6148914691236517205 : Int)) + (andI .u64 x (6148914691236517205 : Int)))) (3689348814741910323 : Int))))).fdiv (2 ^ 4)) + (IntKind.u64.wrap ((andI .u64 (((IntKind.u64.wrap ((andI .u64 ((x).fdiv (2 ^ 1)) (6148914691236517205 : Int)) + (andI .u64 x (6148914691236517205 : Int))))).fdiv (2 ^ 2)) (3689348814741910323 : Int)) + (andI .u64 (IntKind.u64.wrap ((andI .u64 ((x).fdiv (2 ^ 1)) (6148914691236517205 : Int)) + (andI .u64 x (6148914691236517205 : Int)))) (3689348814741910323 : Int)))))) (1085102592571150095 : Int)) + (((andI .u64 (IntKind.u64.wrap ((((IntKind.u64.wrap ((andI .u64 (((IntKind.u64.wrap ((andI .u64 ((x).fdiv (2 ^ 1)) (6148914691236517205 : Int)) + (andI .u64 x (6148914691236517205 : Int))))).fdiv (2 ^ 2)) (3689348814741910323 : Int)) + (andI .u64 (IntKind.u64.wrap ((andI .u64 ((x).fdiv (2 ^ 1)) (6148914691236517205 : Int)) + (andI .u64 x (6148914691236517205 : Int)))) (3689348814741910323 : Int))))).fdiv (2 ^ 4)) + (IntKind.u64.wrap ((andI .u64 (((IntKind.u64.wrap ((andI .u64 ((x).fdiv (2 ^ 1)) (6148914691236517205 : Int)) + (andI .u64 x (6148914691236517205 : Int))))).fdiv (2 ^ 2)) (3689348814741910323 : Int)) + (andI .u64 (IntKind.u64.wrap ((andI .u64 ((x).fdiv (2 ^ 1)) (6148914691236517205 : Int)) + (andI .u64 x (6148914691236517205 : Int)))) (3689348814741910323 : Int)))))) (1085102592571150095 : Int))).fdiv (2 ^ 8))))).fdiv (2 ^ 16))))).fdiv (2 ^ 32))))) (127 : Int))

def p_impl_emptyCube_L1 (n : Int) (k14 : Nat) (x15 : (List (List (List Int)))) : Option (Ctl ((List (List (List Int)))) (Unit)) :=
  (p_impl_zeros n n).bind fun x81 =>
  (appL x15 [x81]).bind fun x116 =>
  some (.next x116)

def p_impl_emptyCube (n : Int) : Option ((List (List (List Int)))) :=
  (forN (fun k s => p_impl_emptyCube_L1 n k s) (n).toNat 0 ([] : (List (List (List Int))))).bind fun res12 => onRes res12 (fun r151 => none) fun (x144 : (List (List (List Int)))) =>
  some x144

def p_impl_Ring_ringOf_L3 (x13 : (List Int)) (k43 : Nat) (k74 : Nat) (r_Table : (List (List (List Int)))) (x64 : Int) (x100 : Int) (set : Int) (k110 : Nat) (x111 : (List (List (List Int)))) : Option (Ctl ((List (List (List Int)))) (Unit)) :=
  (idx x13 (k110 : Int)).bind fun x141 =>
  (idx x111 (k43 : Int)).bind fun x187 =>
  (idx x187 (k74 : Int)).bind fun x226 =>
  (idx r_Table x64).bind fun x289 =>
  (idx x289 x100).bind fun x328 =>
  (idx x328 x141).bind fun x367 =>
  (idx x226 (k110 : Int)).bind fun x415 =>
  some (.next ((x111).set ((k43 : Int)).toNat ((x187).set ((k74 : Int)).toNat ((x226).set ((k110 : Int)).toNat x367))))

def p_impl_Ring_ringOf_L2 (x13 : (List Int)) (k43 : Nat) (r_Table : (List (List (List Int)))) (x64 : Int) (set : Int) (k74 : Nat) (x75 : (List (List (List Int)))) : Option (Ctl ((List (List (List Int)))) (Unit)) :=
  (idx x13 (k74 : Int)).bind fun x100 =>
  (forN (fun k s => p_impl_Ring_ringOf_L3 x13 k43 k74 r_Table x64 x100 set k s) (x13).length 0 x75).bind fun res108 => onRes res108 (fun r466 => none) fun (x452 : (List (List (List Int)))) =>
  some (.next x452)

def p_impl_Ring_ringOf_L1 (x13 : (List Int)) (r_Table : (List (List (List Int)))) (set : Int) (k43 : Nat) (x44 : (List (List (List Int)))) : Option (Ctl ((List (List (List Int)))) (Unit)) :=
  (idx x13 (k43 : Int)).bind fun x64 =>
  (forN (fun k s => p_impl_Ring_ringOf_L2 x13 k43 r_Table x64 set k s) (x13).length 0 x44).bind fun res72 => onRes res72 (fun r502 => none) fun (x493 : (List (List (List Int)))) =>
  some (.next x493)

def p_impl_Ring_ringOf (r_Table : (List (List (List Int)))) (set : Int) : Option ((List (List (List Int)))) :=
  (p_impl_labelsIn set).bind fun x13 =>
  (p_math_bits_OnesCount64 (IntKind.u64.wrap set)).bind fun x20 =>
  (p_impl_emptyCube x20).bind fun x27 =>
  (forN (fun k s => p_impl_Ring_ringOf_L1 x13 r_Table set k s) (x13).length 0 x27).bind fun res41 => onRes res41 (fun r530 => none) fun (x524 : (List (List (List Int)))) =>
  some x524

def p_laws_eqInt64S_L1 (a : (List Int)) (b : (List Int)) (k7 : Nat) : Option (Ctl (Unit) (Bool)) :=
  (idx a (k7 : Int)).bind fun x53 =>
  (idx b (k7 : Int)).bind fun x99 =>
  if (x53 != x99) = true then
    some (.ret false)
  else
    some (.next ())

def p_laws_eqInt64S (a : (List Int)) (b : (List Int)) : Option (Bool) :=
  if (((a).length : Int) != ((b).length : Int)) = true then
    some false
  else
    (forN (fun k s => p_laws_eqInt64S_L1 a b k ) (a).length 0 ()).bind fun res5 => onRes res5 (fun r152 => some r152) fun _ =>
    some true

def p_laws_eqInt64SS_L1 (a : (List (List Int))) (b : (List (List Int))) (k7 : Nat) : Option (Ctl (Unit) (Bool)) :=
  (idx a (k7 : Int)).bind fun x53 =>
  (idx b (k7 : Int)).bind fun x99 =>
  (p_laws_eqInt64S x53 x99).bind fun x130 =>
  if (!x130) = true then
    some (.ret false)
  else
    some (.next ())

def p_laws_eqInt64SS (a : (List (List Int))) (b : (List (List Int))) : Option (Bool) :=
  if (((a).length : Int) != ((b).length : Int)) = true then
    some false
  else
    (forN (fun k s => p_laws_eqInt64SS_L1 a b k ) (a).length 0 ()).bind fun res5 => onRes res5 (fun r156 => some r156) fun _ =>
    some true

def p_laws_eqInt64SSS_L1 (a : (List (List (List Int)))) (b : (List (List (List Int)))) (k7 : Nat) : Option (Ctl (Unit) (Bool)) :=
  (idx a (k7 : Int)).bind fun x53 =>
  (idx b (k7 : Int)).bind fun x99 =>
  (p_laws_eqInt64SS x53 x99).bind fun x130 =>
  if (!x130) = true then
    some (.ret false)
  else
    some (.next ())

def p_laws_eqInt64SSS (a : (List (List (List Int)))) (b : (List (List (List Int)))) : Option (Bool) :=
  if (((a).length : Int) != ((b).length : Int)) = true then
    some false
  else
    (forN (fun k s => p_laws_eqInt64SSS_L1 a b k ) (a).length 0 ()).bind fun res5 => onRes res5 (fun r156 => some r156) fun _ =>
    some true

def p_laws_eqRing (a_Table : (List (List (List Int)))) (b_Table : (List (List (List Int)))) : Option (Bool) :=
  (p_laws_eqInt64SSS a_Table b_Table).bind fun x18 =>
  if (!x18) = true then
    some false
  else
    some true

def p_laws_markInt64S_L1  (k3 : Nat) (x4 : (List Int)) (x5 : Int) : Option (Ctl ((List Int) × Int) (Unit)) :=
  (idx x4 (k3 : Int)).bind fun x24 =>
  some (.next (((x4).set ((k3 : Int)).toNat x5), (w64 (x5 + (1 : Int)))))

def p_laws_markInt64S (a : (List Int)) (k1 : Int) : Option (Int × (List Int)) :=
  (forN (fun k s => p_laws_markInt64S_L1  k s.1 s.2) (a).length 0 (a, k1)).bind fun res1 => onRes res1 (fun r57 => none) fun (s50p : (List Int) × Int) =>
  some (s50p.2, s50p.1)

def p_laws_markInt64SS_L1  (k3 : Nat) (x4 : (List (List Int))) (x5 : Int) : Option (Ctl ((List (List Int)) × Int) (Unit)) :=
  (idx x4 (k3 : Int)).bind fun x24 =>
  (p_laws_markInt64S x24 x5).bind fun x32 =>
  some (.next (((x4).set ((k3 : Int)).toNat x32.2), x32.1))

def p_laws_markInt64SS (a : (List (List Int))) (k1 : Int) : Option (Int × (List (List Int))) :=
  (forN (fun k s => p_laws_markInt64SS_L1  k s.1 s.2) (a).length 0 (a, k1)).bind fun res1 => onRes res1 (fun r67 => none) fun (s60p : (List (List Int)) × Int) =>
  some (s60p.2, s60p.1)

def p_laws_markInt64SSS_L1  (k3 : Nat) (x4 : (List (List (List Int)))) (x5 : Int) : Option (Ctl ((List (List (List Int))) × Int) (Unit)) :=
  (idx x4 (k3 : Int)).bind fun x24 =>
  (p_laws_markInt64SS x24 x5).bind fun x32 =>
  some (.next (((x4).set ((k3 : Int)).toNat x32.2), x32.1))

def p_laws_markInt64SSS (a : (List (List (List Int)))) (k1 : Int) : Option (Int × (List (List (List Int)))) :=
  (forN (fun k s => p_laws_markInt64SSS_L1  k s.1 s.2) (a).length 0 (a, k1)).bind fun res1 => onRes res1 (fun r67 => none) fun (s60p : (List (List (List Int))) × Int) =>
  some (s60p.2, s60p.1)

def p_laws_markRing (a_Table : (List (List (List Int)))) (k1 : Int) : Option (Int × (List (List (List Int)))) :=
  (p_laws_markInt64SSS a_Table k1).bind fun x6 =>
  some (x6.1, x6.2)

def p_laws_heldInt64S_L1 (a : (List Int)) (k3 : Nat) (x4 : Int) : Option (Ctl (Int) (Int)) :=
  (idx a (k3 : Int)).bind fun x22 =>
  if (x22 != x4) = true then
    some (.ret (-1 : Int))
  else
    some (.next (w64 (x4 + (1 : Int))))

def p_laws_heldInt64S (a : (List Int)) (k1 : Int) : Option (Int) :=
  (forN (fun k s => p_laws_heldInt64S_L1 a k s) (a).length 0 k1).bind fun res1 => onRes res1 (fun r54 => some r54) fun (x50 : Int) =>
  some x50

def p_laws_heldInt64SS_L1 (a : (List (List Int))) (k3 : Nat) (x4 : Int) : Option (Ctl (Int) (Int)) :=
  (idx a (k3 : Int)).bind fun x22 =>
  (p_laws_heldInt64S x22 x4).bind fun x29 =>
  if (decide (x29 < (0 : Int))) = true then
    some (.ret (-1 : Int))
  else
    some (.next x29)

def p_laws_heldInt64SS (a : (List (List Int))) (k1 : Int) : Option (Int) :=
  (forN (fun k s => p_laws_heldInt64SS_L1 a k s) (a).length 0 k1).bind fun res1 => onRes res1 (fun r61 => some r61) fun (x57 : Int) =>
  some x57

def p_spec_l05From_L1 (r_Table : (List (List (List Int)))) (x19 : Int) (x20 : Int) : Option (Ctl (Int × Int) (Unit)) :=
  if (x20 != x19) = true then
    (p_spec_l05Spread r_Table x20).bind fun x37 =>
    some (.next (x20, x37))
  else
    some (.brk (x19, x20))

def p_spec_l05From (r_Table : (List (List (List Int)))) (set : Int) : Option (Int) :=
  (p_spec_l05Spread r_Table set).bind fun x9 =>
  (whileC (fun s => p_spec_l05From_L1 r_Table s.1 s.2) (set, x9)).bind fun res16 => onRes res16 (fun r54 => none) fun (s48p : Int × Int) =>
  some s48p.1

def p_spec_l05Adjoint_L2 (x146 : (List Int)) (k155 : Nat) (x156 : Int) : Option (Ctl (Int) (Unit)) :=
  (idx x146 (k155 : Int)).bind fun x176 =>
  (if (decide (x176 > (0 : Int))) = true then
    (shlI .i64 (1 : Int) (IntKind.u64.wrap (k155 : Int))).bind fun x186 =>
    some (orI .i64 x156 x186)
  else
    some x156).bind fun (x183 : Int) =>
  some (.next x183)

def p_spec_l05Adjoint_L1 (r_Table : (List (List (List Int)))) (k11 : Nat) (x12 : Int) : Option (Ctl (Int) (Unit)) :=
  (idx r_Table (k11 : Int)).bind fun x69 =>
  (p_spec_l03Dual r_Table (k11 : Int)).bind fun x125 =>
  (idx x69 x125).bind fun x146 =>
  (forN (fun k s => p_spec_l05Adjoint_L2 x146 k s) (x146).length 0 x12).bind fun res153 => onRes res153 (fun r227 => none) fun (x221 : Int) =>
  some (.next x221)

def p_spec_l05Adjoint (r_Table : (List (List (List Int)))) : Option (Int) :=
  (forN (fun k s => p_spec_l05Adjoint_L1 r_Table k s) (r_Table).length 0 (1 : Int)).bind fun res9 => onRes res9 (fun r259 => none) fun (x247 : Int) =>
  (p_spec_l05From r_Table x247).bind fun x252 =>
  some x252

def p_impl_Ring_adjoint_L1 (x20 : (List Int)) (x9 : (List (List Int))) (k35 : Nat) (x36 : Int) : Option (Ctl (Int) (Unit)) :=
  (idx x20 (k35 : Int)).bind fun x56 =>
  (idx x9 (k35 : Int)).bind fun x63 =>
  (idx x63 x56).bind fun x70 =>
  some (.next (orI .i64 x36 x70))

def p_impl_Ring_adjoint (r_Table : (List (List (List Int)))) : Option (Int) :=
  (p_impl_Ring_supports r_Table).bind fun x9 =>
  (p_impl_Ring_duals r_Table).bind fun x20 =>
  (forN (fun k s => p_impl_Ring_adjoint_L1 x20 x9 k s) (x20).length 0 (0 : Int)).bind fun res33 => onRes res33 (fun r110 => none) fun (x98 : Int) =>
  (p_impl_Ring_closed r_Table x98).bind fun x103 =>
  some x103

def p_spec_l05Cosets_L1  (k16 : Nat) (x17 : (List Int)) : Option (Ctl ((List Int)) (Unit)) :=
  (appL x17 ([(-1 : Int)] : (List Int))).bind fun x41 =>
  some (.next x41)

def p_spec_l05Cosets_L4 (r_Table : (List (List (List Int)))) (set : Int) (k111 : Nat) (k78 : Nat) (x80 : Int) (x135 : (List Int)) (x136 : Int) : Option (Ctl ((List Int) × Int) (Unit)) :=
  (if (decide (x136 < ((r_Table).length : Int))) = true then
    (p_spec_l05Bit set (k111 : Int)).bind fun x161 =>
    some x161
  else
    some false).bind fun (x156 : Bool) =>
  if x156 = true then
    (idx r_Table (k78 : Int)).bind fun x179 =>
    (idx x179 (k111 : Int)).bind fun x186 =>
    (idx x186 x136).bind fun x193 =>
    (if (decide (x193 > (0 : Int))) = true then
      (idx x135 x136).bind fun x203 =>
      some ((x135).set (x136).toNat x80)
    else
      some x135).bind fun (x200 : (List Int)) =>
    some (.next (x200, (w64 (x136 + (1 : Int)))))
  else
    some (.brk (x135, x136))

def p_spec_l05Cosets_L3 (r_Table : (List (List (List Int)))) (set : Int) (k78 : Nat) (x80 : Int) (k111 : Nat) (x112 : (List Int)) : Option (Ctl ((List Int)) (Unit)) :=
  (whileC (fun s => p_spec_l05Cosets_L4 r_Table set k111 k78 x80 s.1 s.2) (x112, (0 : Int))).bind fun res132 => onRes res132 (fun r236 => none) fun (s225p : (List Int) × Int) =>
  some (.next s225p.1)

def p_spec_l05Cosets_L2 (r_Table : (List (List (List Int)))) (set : Int) (k78 : Nat) (x79 : (List Int)) (x80 : Int) : Option (Ctl ((List Int) × Int) (Unit)) :=
  (idx x79 (k78 : Int)).bind fun x100 =>
  if (decide (x100 ≥ (0 : Int))) = true then
    some (.next (x79, x80))
  else
    (forN (fun k s => p_spec_l05Cosets_L3 r_Table set k78 x80 k s) (r_Table).length 0 x79).bind fun res109 => onRes res109 (fun r266 => none) fun (x258 : (List Int)) =>
    some (.next (x258, (w64 (x80 + (1 : Int)))))

def p_spec_l05Cosets (r_Table : (List (List (List Int)))) (set : Int) : Option ((List Int)) :=
  (forN (fun k s => p_spec_l05Cosets_L1  k s) (r_Table).length 0 ([] : (List Int))).bind fun res14 => onRes res14 (fun r294 => none) fun (x68 : (List Int)) =>
  (forN (fun k s => p_spec_l05Cosets_L2 r_Table set k s.1 s.2) (r_Table).length 0 (x68, (0 : Int))).bind fun res76 => onRes res76 (fun r293 => none) fun (s288p : (List Int) × Int) =>
  some s288p.1

def p_spec_GradingGroup_L3 (r_Table : (List (List (List Int)))) (k110 : Nat) (k146 : Nat) (x181 : Int) : Option (Ctl (Int) (Unit)) :=
  (idx r_Table (k110 : Int)).bind fun x199 =>
  (idx x199 (k146 : Int)).bind fun x206 =>
  (idx x206 x181).bind fun x213 =>
  if (x213 == (0 : Int)) = true then
    some (.next (w64 (x181 + (1 : Int))))
  else
    some (.brk x181)

def p_spec_GradingGroup_L2 (x62 : (List Int)) (r_Table : (List (List (List Int)))) (k110 : Nat) (k146 : Nat) (x147 : (List Int)) : Option (Ctl ((List Int)) (Unit)) :=
  (idx x62 (k146 : Int)).bind fun x168 =>
  if (x168 != ((x147).length : Int)) = true then
    some (.next x147)
  else
    (whileC (fun s => p_spec_GradingGroup_L3 r_Table k110 k146 s) (0 : Int)).bind fun res178 => onRes res178 (fun r254 => none) fun (x227 : Int) =>
    (idx x62 x227).bind fun x237 =>
    (appL x147 ([x237] : (List Int))).bind fun x248 =>
    some (.next x248)

def p_spec_GradingGroup_L1 (x62 : (List Int)) (r_Table : (List (List (List Int)))) (k110 : Nat) (x111 : (List (List Int))) : Option (Ctl ((List (List Int))) (Unit)) :=
  (idx x62 (k110 : Int)).bind fun x130 =>
  if (x130 != ((x111).length : Int)) = true then
    some (.next x111)
  else
    (forN (fun k s => p_spec_GradingGroup_L2 x62 r_Table k110 k s) (x62).length 0 ([] : (List Int))).bind fun res144 => onRes res144 (fun r297 => none) fun (x277 : (List Int)) =>
    (appL x111 [x277]).bind fun x291 =>
    some (.next x291)

def p_spec_GradingGroup (r_Table : (List (List (List Int)))) : Option ((List (List Int)) × Int) :=
  (p_spec_l03Is r_Table).bind fun x9 =>
  if (!x9) = true then
    some (([] : (List (List Int))), (1 : Int))
  else
    (p_spec_l05Adjoint r_Table).bind fun x41 =>
    (p_spec_l05Cosets r_Table x41).bind fun x62 =>
    (forN (fun k s => p_spec_GradingGroup_L1 x62 r_Table k s) (x62).length 0 ([] : (List (List Int)))).bind fun res108 => onRes res108 (fun r322 => none) fun (x318 : (List (List Int))) =>
    some (x318, (0 : Int))

def p_impl_Ring_components_c1 (i : Int) (j : Int) (c0 : (List (List Int))) (c1 : (List Int)) (c2 : Int) : Option (Bool) :=
  (idx c1 i).bind fun x37 =>
  (idx c0 x37).bind fun x69 =>
  (idx x69 j).bind fun x108 =>
  some ((andI .i64 x108 c2) != (0 : Int))

def p_impl_Ring_classes_L2 (k16 : Nat) (together : (Int → Int → Option Bool)) (x17 : (List Int)) (x41 : Int) (x42 : Int) : Option (Ctl (Int × Int) (Unit)) :=
  if ((decide (x42 < (k16 : Int))) && (decide (x41 < (0 : Int)))) = true then
    (together x42 (k16 : Int)).bind fun x78 =>
    (if x78 = true then
      (idx x17 x42).bind fun x87 =>
      some x87
    else
      some x41).bind fun (x84 : Int) =>
    some (.next (x84, (w64 (x42 + (1 : Int)))))
  else
    some (.brk (x41, x42))

def p_impl_Ring_classes_L1 (together : (Int → Int → Option Bool)) (k16 : Nat) (x17 : (List Int)) (x18 : Int) : Option (Ctl ((List Int) × Int) (Unit)) :=
  (whileC (fun s => p_impl_Ring_classes_L2 k16 together x17 s.1 s.2) ((-1 : Int), (0 : Int))).bind fun res38 => onRes res38 (fun r148 => none) fun (s111p : Int × Int) =>
  (if (decide (s111p.1 < (0 : Int))) = true then
    some ((w64 (x18 + (1 : Int))), x18)
  else
    some (x18, s111p.1)).bind fun ⟨x122, x123⟩ =>
  (appL x17 ([x123] : (List Int))).bind fun x142 =>
  some (.next (x142, x122))

def p_impl_Ring_classes (r_Table : (List (List (List Int)))) (together : Int → Int → Option Bool) : Option ((List Int)) :=
  (forN (fun k s => p_impl_Ring_classes_L1 together k s.1 s.2) (r_Table).length 0 (([] : (List Int)), (0 : Int))).bind fun res14 => onRes res14 (fun r176 => none) fun (s170p : (List Int) × Int) =>
  some s170p.1

def p_impl_Ring_components (r_Table : (List (List (List Int)))) : Option ((List Int)) :=
  (p_impl_Ring_supports r_Table).bind fun x26 =>
  (p_impl_Ring_duals r_Table).bind fun x49 =>
  (p_impl_Ring_adjoint r_Table).bind fun x72 =>
  (p_impl_Ring_classes r_Table (fun a0_124 a1_124 => p_impl_Ring_components_c1 a0_124 a1_124 x26 x49 x72)).bind fun x127 =>
  some x127

def p_impl_GradingGroup_L1 (x34 : (List Int)) (k78 : Nat) (x79 : Int) : Option (Ctl (Int) (Unit)) :=
  (idx x34 (k78 : Int)).bind fun x99 =>
  some (.next (if (w64 (x99 + (1 : Int))) > x79 then (w64 (x99 + (1 : Int))) else x79))

def p_impl_GradingGroup_L3 (x34 : (List Int)) (x163 : Int) (x63 : (List (List Int))) (k143 : Nat) (k173 : Nat) (x174 : (List (List Int))) : Option (Ctl ((List (List Int))) (Unit)) :=
  (idx x34 (k173 : Int)).bind fun x198 =>
  (idx x174 x163).bind fun x234 =>
  (idx x63 (k143 : Int)).bind fun x294 =>
  (idx x294 (k173 : Int)).bind fun x333 =>
  (p_impl_labelsIn x333).bind fun x361 =>
  (idx x361 (0 : Int)).bind fun x377 =>
  (idx x34 x377).bind fun x411 =>
  (idx x234 x198).bind fun x453 =>
  some (.next ((x174).set (x163).toNat ((x234).set (x198).toNat x411)))

def p_impl_GradingGroup_L2 (x34 : (List Int)) (x63 : (List (List Int))) (k143 : Nat) (x144 : (List (List Int))) : Option (Ctl ((List (List Int))) (Unit)) :=
  (idx x34 (k143 : Int)).bind fun x163 =>
  (forN (fun k s => p_impl_GradingGroup_L3 x34 x163 x63 k143 k s) (x34).length 0 x144).bind fun res171 => onRes res171 (fun r492 => none) fun (x484 : (List (List Int))) =>
  some (.next x484)

def p_impl_GradingGroup (r_Table : (List (List (List Int)))) : Option ((List (List Int)) × Int) :=
  (p_impl_IsRing r_Table).bind fun x9 =>
  if (!x9) = true then
    some (([] : (List (List Int))), (1 : Int))
  else
    (p_impl_Ring_components r_Table).bind fun x34 =>
    (p_impl_Ring_supports r_Table).bind fun x63 =>
    (forN (fun k s => p_impl_GradingGroup_L1 x34 k s) (x34).length 0 (0 : Int)).bind fun res76 => onRes res76 (fun r517 => none) fun (x127 : Int) =>
    (p_impl_zeros x127 x127).bind fun x133 =>
    (forN (fun k s => p_impl_GradingGroup_L2 x34 x63 k s) (x34).length 0 x133).bind fun res141 => onRes res141 (fun r516 => none) fun (x513 : (List (List Int))) =>
    some (x513, (0 : Int))

def p_laws_FnExactGradingGroup (aR_Table : (List (List (List Int)))) : Option (Bool) :=
  (p_laws_szRing aR_Table (1048576 : Int)).bind fun x9 =>
  if (decide (x9 < (0 : Int))) = true then
    some true
  else
    (p_laws_toRing aR_Table).bind fun x18 =>
    (p_spec_GradingGroup x18).bind fun x29 =>
    (p_laws_toRing aR_Table).bind fun x42 =>
    (p_impl_GradingGroup x42).bind fun x55 =>
    (p_laws_eqInt64SS x55.1 x29.1).bind fun x63 =>
    if ((!x63) || (x55.2 != x29.2)) = true then
      some false
    else
      (p_laws_toRing aR_Table).bind fun x107 =>
      (p_laws_eqRing x42 x107).bind fun x132 =>
      if (!x132) = true then
        some false
      else
        (p_laws_markRing x42 (1 : Int)).bind fun x140 =>
        (if (decide (x140.1 < (0 : Int))) = true then
          some true
        else
          (p_laws_eqInt64SS x55.1 x29.1).bind fun x153 =>
          some (!x153)).bind fun (x148 : Bool) =>
        if (x148 || (x55.2 != x29.2)) = true then
          some false
        else
          (p_laws_markInt64SS x55.1 (1 : Int)).bind fun x178 =>
          (p_laws_heldInt64SS x178.2 (1 : Int)).bind fun x185 =>
          if (decide (x185 < (0 : Int))) = true then
            some false
          else
            if (x185 != x178.1) = true then
              some false
            else
              (p_laws_toRing aR_Table).bind fun x196 =>
              (p_impl_GradingGroup x196).bind fun x203 =>
              (p_laws_eqInt64SS x203.1 x29.1).bind fun x211 =>
              if ((!x211) || (x203.2 != x29.2)) = true then
                some false
              else
                (p_laws_heldInt64SS x178.2 (1 : Int)).bind fun x227 =>
                if (decide (x227 < (0 : Int))) = true then
                  some false
                else
                  if (x227 != x178.1) = true then
                    some false
                  else
                    some true

end
end Go.VG
