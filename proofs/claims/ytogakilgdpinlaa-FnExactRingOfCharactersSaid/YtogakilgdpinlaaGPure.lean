/- The functions' plain twins, as a program of ours printed them. No proof. -/
import Derived.Test.YtogakilgdpinlaaVgPure
set_option linter.all false
namespace Go.VG
noncomputable section

def p_laws_szInt64S (a : (List Int)) (left : Int) : Option (Int) :=
  if (decide ((w64 (left - ((a).length : Int))) < (0 : Int))) = true then
    some (-1 : Int)
  else
    some (w64 (left - ((a).length : Int)))

def p_laws_szInt64SS_L1 (a : (List (List Int))) (k6 : Nat) (x7 : Int) : Option (Ctl (Int) (Int)) :=
  (idx a (k6 : Int)).bind fun x25 =>
  (p_laws_szInt64S x25 x7).bind fun x32 =>
  if (decide (x32 < (0 : Int))) = true then
    some (.ret (-1 : Int))
  else
    some (.next x32)

def p_laws_szInt64SS (a : (List (List Int))) (left : Int) : Option (Int) :=
  if (decide ((w64 (left - ((a).length : Int))) < (0 : Int))) = true then
    some (-1 : Int)
  else
    (forN (fun k s => p_laws_szInt64SS_L1 a k s) (a).length 0 (w64 (left - ((a).length : Int)))).bind fun res4 => onRes res4 (fun r64 => some r64) fun (x60 : Int) =>
    some x60

def p_laws_szInt64SSS_L1 (a : (List (List (List Int)))) (k6 : Nat) (x7 : Int) : Option (Ctl (Int) (Int)) :=
  (idx a (k6 : Int)).bind fun x25 =>
  (p_laws_szInt64SS x25 x7).bind fun x32 =>
  if (decide (x32 < (0 : Int))) = true then
    some (.ret (-1 : Int))
  else
    some (.next x32)

def p_laws_szInt64SSS (a : (List (List (List Int)))) (left : Int) : Option (Int) :=
  if (decide ((w64 (left - ((a).length : Int))) < (0 : Int))) = true then
    some (-1 : Int)
  else
    (forN (fun k s => p_laws_szInt64SSS_L1 a k s) (a).length 0 (w64 (left - ((a).length : Int)))).bind fun res4 => onRes res4 (fun r64 => some r64) fun (x60 : Int) =>
    some x60

def p_laws_szRing (a_Table : (List (List (List Int)))) (left : Int) : Option (Int) :=
  (p_laws_szInt64SSS a_Table left).bind fun x9 =>
  if (decide (x9 < (0 : Int))) = true then
    some (-1 : Int)
  else
    some x9

def p_laws_toInt64S_L1 (a : (List Int)) (k10 : Nat) (x11 : (List Int)) : Option (Ctl ((List Int)) (Unit)) :=
  (idx a (k10 : Int)).bind fun x28 =>
  (idx x11 (k10 : Int)).bind fun x35 =>
  some (.next ((x11).set ((k10 : Int)).toNat x28))

def p_laws_toInt64S (a : (List Int)) : Option ((List Int)) :=
  (mkL ((a).length : Int) (0 : Int)).bind fun x2 =>
  (forN (fun k s => p_laws_toInt64S_L1 a k s) (a).length 0 x2).bind fun res8 => onRes res8 (fun r62 => none) fun (x59 : (List Int)) =>
  some x59

def p_laws_toInt64SS_L1 (a : (List (List Int))) (k10 : Nat) (x11 : (List (List Int))) : Option (Ctl ((List (List Int))) (Unit)) :=
  (idx a (k10 : Int)).bind fun x28 =>
  (p_laws_toInt64S x28).bind fun x35 =>
  (idx x11 (k10 : Int)).bind fun x42 =>
  some (.next ((x11).set ((k10 : Int)).toNat x35))

def p_laws_toInt64SS (a : (List (List Int))) : Option ((List (List Int))) :=
  (mkL ((a).length : Int) ([] : (List Int))).bind fun x2 =>
  (forN (fun k s => p_laws_toInt64SS_L1 a k s) (a).length 0 x2).bind fun res8 => onRes res8 (fun r69 => none) fun (x66 : (List (List Int))) =>
  some x66

def p_laws_toInt64SSS_L1 (a : (List (List (List Int)))) (k10 : Nat) (x11 : (List (List (List Int)))) : Option (Ctl ((List (List (List Int)))) (Unit)) :=
  (idx a (k10 : Int)).bind fun x28 =>
  (p_laws_toInt64SS x28).bind fun x35 =>
  (idx x11 (k10 : Int)).bind fun x42 =>
  some (.next ((x11).set ((k10 : Int)).toNat x35))

def p_laws_toInt64SSS (a : (List (List (List Int)))) : Option ((List (List (List Int)))) :=
  (mkL ((a).length : Int) ([] : (List (List Int)))).bind fun x2 =>
  (forN (fun k s => p_laws_toInt64SSS_L1 a k s) (a).length 0 x2).bind fun res8 => onRes res8 (fun r69 => none) fun (x66 : (List (List (List Int)))) =>
  some x66

def p_laws_toRing (a_Table : (List (List (List Int)))) : Option ((List (List (List Int)))) :=
  (p_laws_toInt64SSS a_Table).bind fun x17 =>
  some x17

def p_spec_l01In (n : Int) (low : Int) (high : Int) : Option (Bool) :=
  some ((decide (n ≥ low)) && (decide (n ≤ high)))

def p_spec_l03Cube_L3 (x62 : (List Int)) (k74 : Nat) : Option (Ctl (Unit) (Bool)) :=
  (idx x62 (k74 : Int)).bind fun x98 =>
  (p_spec_l01In x98 (0 : Int) (1000 : Int)).bind fun x105 =>
  if (!x105) = true then
    some (.ret false)
  else
    some (.next ())

def p_spec_l03Cube_L2 (x30 : (List (List Int))) (t : (List (List (List Int)))) (k42 : Nat) : Option (Ctl (Unit) (Bool)) :=
  (idx x30 (k42 : Int)).bind fun x62 =>
  if (((x62).length : Int) != ((t).length : Int)) = true then
    some (.ret false)
  else
    (forN (fun k s => p_spec_l03Cube_L3 x62 k ) (t).length 0 ()).bind fun res72 => onRes res72 (fun r136 => some (.ret r136)) fun _ =>
    some (.next ())

def p_spec_l03Cube_L1 (t : (List (List (List Int)))) (k14 : Nat) : Option (Ctl (Unit) (Bool)) :=
  (idx t (k14 : Int)).bind fun x30 =>
  if (((x30).length : Int) != ((t).length : Int)) = true then
    some (.ret false)
  else
    (forN (fun k s => p_spec_l03Cube_L2 x30 t k ) (t).length 0 ()).bind fun res40 => onRes res40 (fun r158 => some (.ret r158)) fun _ =>
    some (.next ())

def p_spec_l03Cube (t : (List (List (List Int)))) : Option (Bool) :=
  if ((decide (((t).length : Int) < (1 : Int))) || (decide (((t).length : Int) > (16 : Int)))) = true then
    some false
  else
    (forN (fun k s => p_spec_l03Cube_L1 t k ) (t).length 0 ()).bind fun res12 => onRes res12 (fun r176 => some r176) fun _ =>
    some true

def p_spec_l03Dual_L1 (t : (List (List (List Int)))) (i : Int) (k3 : Nat) (x4 : Int) : Option (Ctl (Int) (Int)) :=
  (idx t i).bind fun x23 =>
  (idx x23 (k3 : Int)).bind fun x30 =>
  (idx x30 (0 : Int)).bind fun x37 =>
  if ((x37 == (1 : Int)) && (decide (x4 < (0 : Int)))) = true then
    some (.next (k3 : Int))
  else
    if (x37 != (0 : Int)) = true then
      some (.ret (-1 : Int))
    else
      some (.next x4)

def p_spec_l03Dual (t : (List (List (List Int)))) (i : Int) : Option (Int) :=
  (forN (fun k s => p_spec_l03Dual_L1 t i k s) (t).length 0 (-1 : Int)).bind fun res1 => onRes res1 (fun r91 => some r91) fun (x87 : Int) =>
  some x87

def p_spec_l03Fault_L2 (k4 : Nat) (t : (List (List (List Int)))) (k22 : Nat) : Option (Ctl (Unit) ((List Int))) :=
  (if ((k4 : Int) == (k22 : Int)) = true then
    some (1 : Int)
  else
    some (0 : Int)).bind fun (x39 : Int) =>
  (idx t (0 : Int)).bind fun x52 =>
  (idx x52 (k4 : Int)).bind fun x59 =>
  (idx x59 (k22 : Int)).bind fun x66 =>
  (if (x66 != x39) = true then
    some true
  else
    (idx t (k4 : Int)).bind fun x79 =>
    (idx x79 (0 : Int)).bind fun x86 =>
    (idx x86 (k22 : Int)).bind fun x93 =>
    some (x93 != x39)).bind fun (x74 : Bool) =>
  if x74 = true then
    some (.ret ([(0 : Int), (k4 : Int), (k22 : Int)] : (List Int)))
  else
    some (.next ())

def p_spec_l03Fault_L1 (t : (List (List (List Int)))) (k4 : Nat) : Option (Ctl (Unit) ((List Int))) :=
  (forN (fun k s => p_spec_l03Fault_L2 k4 t k ) (t).length 0 ()).bind fun res20 => onRes res20 (fun r133 => some (.ret r133)) fun _ =>
  some (.next ())

def p_spec_l03Fault_L3 (t : (List (List (List Int)))) (k159 : Nat) (x160 : (List Int)) : Option (Ctl ((List Int)) (Unit)) :=
  (p_spec_l03Dual t (k159 : Int)).bind fun x178 =>
  (appL x160 ([x178] : (List Int))).bind fun x189 =>
  some (.next x189)

def p_spec_l03Fault_L4 (x214 : (List Int)) (k222 : Nat) : Option (Ctl (Unit) ((List Int))) :=
  (idx x214 (k222 : Int)).bind fun x239 =>
  (if (decide (x239 < (0 : Int))) = true then
    some true
  else
    (idx x214 x239).bind fun x255 =>
    some (x255 != (k222 : Int))).bind fun (x247 : Bool) =>
  if x247 = true then
    some (.ret ([(1 : Int), (k222 : Int)] : (List Int)))
  else
    some (.next ())

def p_spec_l03Fault_L7 (t : (List (List (List Int)))) (k297 : Nat) (k316 : Nat) (x214 : (List Int)) (k336 : Nat) : Option (Ctl (Unit) ((List Int))) :=
  (idx t (k297 : Int)).bind fun x384 =>
  (idx x384 (k316 : Int)).bind fun x423 =>
  (idx x423 (k336 : Int)).bind fun x462 =>
  (idx x214 (k297 : Int)).bind fun x515 =>
  (idx t x515).bind fun x547 =>
  (idx x547 (k336 : Int)).bind fun x586 =>
  (idx x586 (k316 : Int)).bind fun x625 =>
  (if (x462 != x625) = true then
    some true
  else
    (idx t (k336 : Int)).bind fun x1110 =>
    (idx x214 (k316 : Int)).bind fun x1172 =>
    (idx x1110 x1172).bind fun x1212 =>
    (idx x1212 (k297 : Int)).bind fun x1263 =>
    some (x462 != x1263)).bind fun (x668 : Bool) =>
  if x668 = true then
    some (.ret ([(2 : Int), (k297 : Int), (k316 : Int), (k336 : Int)] : (List Int)))
  else
    some (.next ())

def p_spec_l03Fault_L6 (t : (List (List (List Int)))) (k297 : Nat) (x214 : (List Int)) (k316 : Nat) : Option (Ctl (Unit) ((List Int))) :=
  (forN (fun k s => p_spec_l03Fault_L7 t k297 k316 x214 k ) (t).length 0 ()).bind fun res334 => onRes res334 (fun r1374 => some (.ret r1374)) fun _ =>
  some (.next ())

def p_spec_l03Fault_L5 (t : (List (List (List Int)))) (x214 : (List Int)) (k297 : Nat) : Option (Ctl (Unit) ((List Int))) :=
  (forN (fun k s => p_spec_l03Fault_L6 t k297 x214 k ) (t).length 0 ()).bind fun res314 => onRes res314 (fun r1398 => some (.ret r1398)) fun _ =>
  some (.next ())

def p_spec_l03Fault_L12 (t : (List (List (List Int)))) (k1421 : Nat) (k1439 : Nat) (k1458 : Nat) (k1478 : Nat) (k1499 : Nat) (x1500 : Int) (x1501 : Int) : Option (Ctl (Int × Int) (Unit)) :=
  (idx t (k1421 : Int)).bind fun x1561 =>
  (idx x1561 (k1439 : Int)).bind fun x1600 =>
  (idx x1600 (k1499 : Int)).bind fun x1639 =>
  (idx t (k1499 : Int)).bind fun x1685 =>
  (idx x1685 (k1458 : Int)).bind fun x1724 =>
  (idx x1724 (k1478 : Int)).bind fun x1763 =>
  (idx t (k1439 : Int)).bind fun x1853 =>
  (idx x1853 (k1458 : Int)).bind fun x1892 =>
  (idx x1892 (k1499 : Int)).bind fun x1931 =>
  (idx x1561 (k1499 : Int)).bind fun x2012 =>
  (idx x2012 (k1478 : Int)).bind fun x2051 =>
  some (.next ((w64 (x1500 + (w64 (x1639 * x1763)))), (w64 (x1501 + (w64 (x1931 * x2051))))))

def p_spec_l03Fault_L11 (t : (List (List (List Int)))) (k1421 : Nat) (k1439 : Nat) (k1458 : Nat) (k1478 : Nat) : Option (Ctl (Unit) ((List Int))) :=
  (forN (fun k s => p_spec_l03Fault_L12 t k1421 k1439 k1458 k1478 k s.1 s.2) (t).length 0 ((0 : Int), (0 : Int))).bind fun res1497 => onRes res1497 (fun r2150 => none) fun (s2130p : Int × Int) =>
  if (s2130p.1 != s2130p.2) = true then
    some (.ret ([(3 : Int), (k1421 : Int), (k1439 : Int), (k1458 : Int), (k1478 : Int)] : (List Int)))
  else
    some (.next ())

def p_spec_l03Fault_L10 (t : (List (List (List Int)))) (k1421 : Nat) (k1439 : Nat) (k1458 : Nat) : Option (Ctl (Unit) ((List Int))) :=
  (forN (fun k s => p_spec_l03Fault_L11 t k1421 k1439 k1458 k ) (t).length 0 ()).bind fun res1476 => onRes res1476 (fun r2176 => some (.ret r2176)) fun _ =>
  some (.next ())

def p_spec_l03Fault_L9 (t : (List (List (List Int)))) (k1421 : Nat) (k1439 : Nat) : Option (Ctl (Unit) ((List Int))) :=
  (forN (fun k s => p_spec_l03Fault_L10 t k1421 k1439 k ) (t).length 0 ()).bind fun res1456 => onRes res1456 (fun r2200 => some (.ret r2200)) fun _ =>
  some (.next ())

def p_spec_l03Fault_L8 (t : (List (List (List Int)))) (k1421 : Nat) : Option (Ctl (Unit) ((List Int))) :=
  (forN (fun k s => p_spec_l03Fault_L9 t k1421 k ) (t).length 0 ()).bind fun res1437 => onRes res1437 (fun r2222 => some (.ret r2222)) fun _ =>
  some (.next ())

def p_spec_l03Fault (t : (List (List (List Int)))) : Option ((List Int)) :=
  (forN (fun k s => p_spec_l03Fault_L1 t k ) (t).length 0 ()).bind fun res2 => onRes res2 (fun r2244 => some r2244) fun _ =>
  (forN (fun k s => p_spec_l03Fault_L3 t k s) (t).length 0 ([] : (List Int))).bind fun res157 => onRes res157 (fun r2243 => none) fun (x214 : (List Int)) =>
  (forN (fun k s => p_spec_l03Fault_L4 x214 k ) (t).length 0 ()).bind fun res220 => onRes res220 (fun r2242 => some r2242) fun _ =>
  (forN (fun k s => p_spec_l03Fault_L5 t x214 k ) (t).length 0 ()).bind fun res295 => onRes res295 (fun r2241 => some r2241) fun _ =>
  (forN (fun k s => p_spec_l03Fault_L8 t k ) (t).length 0 ()).bind fun res1419 => onRes res1419 (fun r2240 => some r2240) fun _ =>
  some ([] : (List Int))

def p_spec_l03Is (r_Table : (List (List (List Int)))) : Option (Bool) :=
  (p_spec_l03Cube r_Table).bind fun x9 =>
  (if x9 = true then
    (p_spec_l03Fault r_Table).bind fun x21 =>
    some (((x21).length : Int) == (0 : Int))
  else
    some false).bind fun (x16 : Bool) =>
  some x16

def p_spec_l01Same_L1 (a : (List Int)) (b : (List Int)) (k7 : Nat) : Option (Ctl (Unit) (Bool)) :=
  (idx a (k7 : Int)).bind fun x53 =>
  (idx b (k7 : Int)).bind fun x99 =>
  if (x53 != x99) = true then
    some (.ret false)
  else
    some (.next ())

def p_spec_l01Same (a : (List Int)) (b : (List Int)) : Option (Bool) :=
  if (((a).length : Int) != ((b).length : Int)) = true then
    some false
  else
    (forN (fun k s => p_spec_l01Same_L1 a b k ) (a).length 0 ()).bind fun res5 => onRes res5 (fun r152 => some r152) fun _ =>
    some true

def p_spec_l03Commutative_L2 (r_Table : (List (List (List Int)))) (k11 : Nat) (k29 : Nat) : Option (Ctl (Unit) (Bool)) :=
  (idx r_Table (k11 : Int)).bind fun x84 =>
  (idx x84 (k29 : Int)).bind fun x123 =>
  (idx r_Table (k29 : Int)).bind fun x179 =>
  (idx x179 (k11 : Int)).bind fun x218 =>
  (p_spec_l01Same x123 x218).bind fun x249 =>
  if (!x249) = true then
    some (.ret false)
  else
    some (.next ())

def p_spec_l03Commutative_L1 (r_Table : (List (List (List Int)))) (k11 : Nat) : Option (Ctl (Unit) (Bool)) :=
  (forN (fun k s => p_spec_l03Commutative_L2 r_Table k11 k ) ((k11 : Int)).toNat 0 ()).bind fun res27 => onRes res27 (fun r276 => some (.ret r276)) fun _ =>
  some (.next ())

def p_spec_l03Commutative (r_Table : (List (List (List Int)))) : Option (Bool) :=
  (forN (fun k s => p_spec_l03Commutative_L1 r_Table k ) (r_Table).length 0 ()).bind fun res9 => onRes res9 (fun r294 => some r294) fun _ =>
  some true

def p_spec_l01Number (n : Int) : Option (Bool) :=
  (p_spec_l01In n (0 : Int) (55440 : Int)).bind fun x1 =>
  some x1

def p_spec_l01Numbers_L1 (list : (List Int)) (k3 : Nat) : Option (Ctl (Unit) (Bool)) :=
  (idx list (k3 : Int)).bind fun x19 =>
  (p_spec_l01Number x19).bind fun x26 =>
  if (!x26) = true then
    some (.ret false)
  else
    some (.next ())

def p_spec_l01Numbers (list : (List Int)) : Option (Bool) :=
  (forN (fun k s => p_spec_l01Numbers_L1 list k ) (list).length 0 ()).bind fun res1 => onRes res1 (fun r51 => some r51) fun _ =>
  some true

def p_spec_l01Dot_L1 (a : (List Int)) (b : (List Int)) (k3 : Nat) (x4 : Int) : Option (Ctl (Int) (Unit)) :=
  (idx a (k3 : Int)).bind fun x59 =>
  (idx b (k3 : Int)).bind fun x105 =>
  some (.next (((w64 (x4 + (w64 (x59 * x105))))).tmod (55441 : Int)))

def p_spec_l01Dot (a : (List Int)) (b : (List Int)) : Option (Int) :=
  (forN (fun k s => p_spec_l01Dot_L1 a b k s) (a).length 0 (0 : Int)).bind fun res1 => onRes res1 (fun r178 => none) fun (x174 : Int) =>
  some x174

def p_spec_l08Is_L2 (x : (List Int)) (k50 : Nat) (r_Table : (List (List (List Int)))) (k69 : Nat) : Option (Ctl (Unit) (Bool)) :=
  (idx x (k50 : Int)).bind fun x116 =>
  (idx x (k69 : Int)).bind fun x162 =>
  (idx r_Table (k50 : Int)).bind fun x245 =>
  (idx x245 (k69 : Int)).bind fun x284 =>
  (p_spec_l01Dot x284 x).bind fun x322 =>
  if ((((w64 (x116 * x162))).tmod (55441 : Int)) != x322) = true then
    some (.ret false)
  else
    some (.next ())

def p_spec_l08Is_L1 (x : (List Int)) (r_Table : (List (List (List Int)))) (k50 : Nat) : Option (Ctl (Unit) (Bool)) :=
  (forN (fun k s => p_spec_l08Is_L2 x k50 r_Table k ) (r_Table).length 0 ()).bind fun res67 => onRes res67 (fun r371 => some (.ret r371)) fun _ =>
  some (.next ())

def p_spec_l08Is (r_Table : (List (List (List Int)))) (x : (List Int)) : Option (Bool) :=
  (if (((x).length : Int) != ((r_Table).length : Int)) = true then
    some true
  else
    (p_spec_l01Numbers x).bind fun x17 =>
    some (!x17)).bind fun (x12 : Bool) =>
  (if x12 = true then
    some true
  else
    (idx x (0 : Int)).bind fun x34 =>
    some (x34 != (1 : Int))).bind fun (x29 : Bool) =>
  if x29 = true then
    some false
  else
    (forN (fun k s => p_spec_l08Is_L1 x r_Table k ) (r_Table).length 0 ()).bind fun res48 => onRes res48 (fun r390 => some r390) fun _ =>
    some true

def p_impl_within (n : Int) (low : Int) (high : Int) : Option (Bool) :=
  some ((decide (n ≥ low)) && (decide (n ≤ high)))

def p_impl_allWithin_c1 (n : Int) (c0 : Int) (c1 : Int) : Option (Bool) :=
  (p_impl_within n c0 c1).bind fun x1 =>
  some (!x1)

def p_slices_IndexFunc_Lint64_int64_L1 (s1 : (List Int)) (f1 : (Int → Option Bool)) (k4 : Nat) : Option (Ctl (Unit) (Int)) :=
  (idx s1 (k4 : Int)).bind fun x21 =>
  (f1 x21).bind fun x28 =>
  if x28 = true then
    some (.ret (k4 : Int))
  else
    some (.next ())

def p_slices_IndexFunc_Lint64_int64 (s1 : (List Int)) (f1 : Int → Option Bool) : Option (Int) :=
  (forN (fun k s => p_slices_IndexFunc_Lint64_int64_L1 s1 f1 k ) (s1).length 0 ()).bind fun res2 => onRes res2 (fun r54 => some r54) fun _ =>
  some (-1 : Int)

def p_slices_ContainsFunc_Lint64_int64 (s1 : (List Int)) (f1 : Int → Option Bool) : Option (Bool) :=
  (p_slices_IndexFunc_Lint64_int64 s1 f1).bind fun x1 =>
  some (decide (x1 ≥ (0 : Int)))

def p_impl_allWithin (list : (List Int)) (low : Int) (high : Int) : Option (Bool) :=
  (p_slices_ContainsFunc_Lint64_int64 list (fun a0_19 => p_impl_allWithin_c1 a0_19 low high)).bind fun x22 =>
  some (!x22)

def p_impl_isCube_c1 (row : (List Int)) (c0 : Int) : Option (Bool) :=
  (if (((row).length : Int) != c0) = true then
    some true
  else
    (p_impl_allWithin row (0 : Int) (1000 : Int)).bind fun x8 =>
    some (!x8)).bind fun (x3 : Bool) =>
  some x3

def p_slices_IndexFunc_LLint64_Lint64_L1 (s1 : (List (List Int))) (f1 : ((List Int) → Option Bool)) (k4 : Nat) : Option (Ctl (Unit) (Int)) :=
  (idx s1 (k4 : Int)).bind fun x21 =>
  (f1 x21).bind fun x28 =>
  if x28 = true then
    some (.ret (k4 : Int))
  else
    some (.next ())

def p_slices_IndexFunc_LLint64_Lint64 (s1 : (List (List Int))) (f1 : (List Int) → Option Bool) : Option (Int) :=
  (forN (fun k s => p_slices_IndexFunc_LLint64_Lint64_L1 s1 f1 k ) (s1).length 0 ()).bind fun res2 => onRes res2 (fun r54 => some r54) fun _ =>
  some (-1 : Int)

def p_slices_ContainsFunc_LLint64_Lint64 (s1 : (List (List Int))) (f1 : (List Int) → Option Bool) : Option (Bool) :=
  (p_slices_IndexFunc_LLint64_Lint64 s1 f1).bind fun x1 =>
  some (decide (x1 ≥ (0 : Int)))

def p_impl_isCube_L1 (r_Table : (List (List (List Int)))) (k19 : Nat) : Option (Ctl (Unit) (Bool)) :=
  (idx r_Table (k19 : Int)).bind fun x36 =>
  (if (((x36).length : Int) != ((r_Table).length : Int)) = true then
    some true
  else
    (p_slices_ContainsFunc_LLint64_Lint64 x36 (fun a0_51 => p_impl_isCube_c1 a0_51 ((r_Table).length : Int))).bind fun x54 =>
    some x54).bind fun (x45 : Bool) =>
  if x45 = true then
    some (.ret false)
  else
    some (.next ())

def p_impl_isCube (r_Table : (List (List (List Int)))) : Option (Bool) :=
  (forN (fun k s => p_impl_isCube_L1 r_Table k ) (r_Table).length 0 ()).bind fun res17 => onRes res17 (fun r93 => some r93) fun _ =>
  some ((decide (((r_Table).length : Int) ≥ (1 : Int))) && (decide (((r_Table).length : Int) ≤ (16 : Int))))

def p_impl_delta (i : Int) (k1 : Int) : Option (Int) :=
  if (i == k1) = true then
    some (1 : Int)
  else
    some (0 : Int)

def p_impl_Ring_unitFault_L2 (r_Table : (List (List (List Int)))) (k12 : Nat) (k31 : Nat) : Option (Ctl (Unit) ((List Int))) :=
  (idx r_Table (0 : Int)).bind fun x77 =>
  (idx x77 (k12 : Int)).bind fun x116 =>
  (idx x116 (k31 : Int)).bind fun x155 =>
  (p_impl_delta (k12 : Int) (k31 : Int)).bind fun x202 =>
  (if (x155 != x202) = true then
    some true
  else
    (idx r_Table (k12 : Int)).bind fun x439 =>
    (idx x439 (0 : Int)).bind fun x474 =>
    (idx x474 (k31 : Int)).bind fun x525 =>
    (p_impl_delta (k12 : Int) (k31 : Int)).bind fun x588 =>
    some (x525 != x588)).bind fun (x234 : Bool) =>
  if x234 = true then
    some (.ret ([(0 : Int), (k12 : Int), (k31 : Int)] : (List Int)))
  else
    some (.next ())

def p_impl_Ring_unitFault_L1 (r_Table : (List (List (List Int)))) (k12 : Nat) : Option (Ctl (Unit) ((List Int))) :=
  (forN (fun k s => p_impl_Ring_unitFault_L2 r_Table k12 k ) (r_Table).length 0 ()).bind fun res29 => onRes res29 (fun r671 => some (.ret r671)) fun _ =>
  some (.next ())

def p_impl_Ring_unitFault (r_Table : (List (List (List Int)))) : Option ((List Int)) :=
  (forN (fun k s => p_impl_Ring_unitFault_L1 r_Table k ) (r_Table).length 0 ()).bind fun res10 => onRes res10 (fun r689 => some r689) fun _ =>
  some ([] : (List Int))

def p_impl_Ring_onlyOf_L1 (x9 : (List (List Int))) (k19 : Nat) (x20 : Int) : Option (Ctl (Int) (Int)) :=
  (idx x9 (k19 : Int)).bind fun x38 =>
  (idx x38 (0 : Int)).bind fun x45 =>
  if (x45 == (0 : Int)) = true then
    some (.next x20)
  else
    if ((decide (x20 ≥ (0 : Int))) || (x45 != (1 : Int))) = true then
      some (.ret (-1 : Int))
    else
      some (.next (k19 : Int))

def p_impl_Ring_onlyOf (r_Table : (List (List (List Int)))) (i : Int) : Option (Int) :=
  (idx r_Table i).bind fun x9 =>
  (forN (fun k s => p_impl_Ring_onlyOf_L1 x9 k s) (x9).length 0 (-1 : Int)).bind fun res17 => onRes res17 (fun r92 => some r92) fun (x88 : Int) =>
  some x88

def p_impl_Ring_dualFault_L1 (r_Table : (List (List (List Int)))) (k12 : Nat) : Option (Ctl (Unit) (Int)) :=
  (p_impl_Ring_onlyOf r_Table (k12 : Int)).bind fun x28 =>
  (if (decide (x28 < (0 : Int))) = true then
    some true
  else
    (p_impl_Ring_onlyOf r_Table x28).bind fun x41 =>
    some (x41 != (k12 : Int))).bind fun (x36 : Bool) =>
  if x36 = true then
    some (.ret (k12 : Int))
  else
    some (.next ())

def p_impl_Ring_dualFault (r_Table : (List (List (List Int)))) : Option (Int) :=
  (forN (fun k s => p_impl_Ring_dualFault_L1 r_Table k ) (r_Table).length 0 ()).bind fun res10 => onRes res10 (fun r73 => some r73) fun _ =>
  some (-1 : Int)

def p_impl_Ring_duals_L1 (r_Table : (List (List (List Int)))) (k16 : Nat) (x17 : (List Int)) : Option (Ctl ((List Int)) (Unit)) :=
  (p_impl_Ring_onlyOf r_Table (k16 : Int)).bind fun x35 =>
  (appL x17 ([x35] : (List Int))).bind fun x46 =>
  some (.next x46)

def p_impl_Ring_duals (r_Table : (List (List (List Int)))) : Option ((List Int)) :=
  (forN (fun k s => p_impl_Ring_duals_L1 r_Table k s) (r_Table).length 0 ([] : (List Int))).bind fun res14 => onRes res14 (fun r75 => none) fun (x71 : (List Int)) =>
  some x71

def p_impl_Ring_turnFault_L3 (r_Table : (List (List (List Int)))) (k23 : Nat) (k43 : Nat) (x9 : (List Int)) (k66 : Nat) : Option (Ctl (Unit) ((List Int))) :=
  (idx r_Table (k23 : Int)).bind fun x89 =>
  (idx x89 (k43 : Int)).bind fun x96 =>
  (idx x96 (k66 : Int)).bind fun x103 =>
  (idx x9 (k23 : Int)).bind fun x163 =>
  (idx r_Table x163).bind fun x195 =>
  (idx x195 (k66 : Int)).bind fun x234 =>
  (idx x234 (k43 : Int)).bind fun x273 =>
  (if (x103 != x273) = true then
    some true
  else
    (idx r_Table (k66 : Int)).bind fun x556 =>
    (idx x9 (k43 : Int)).bind fun x618 =>
    (idx x556 x618).bind fun x658 =>
    (idx x658 (k23 : Int)).bind fun x709 =>
    some (x103 != x709)).bind fun (x316 : Bool) =>
  if x316 = true then
    some (.ret ([(2 : Int), (k23 : Int), (k43 : Int), (k66 : Int)] : (List Int)))
  else
    some (.next ())

def p_impl_Ring_turnFault_L2 (r_Table : (List (List (List Int)))) (k23 : Nat) (x9 : (List Int)) (k43 : Nat) : Option (Ctl (Unit) ((List Int))) :=
  (forN (fun k s => p_impl_Ring_turnFault_L3 r_Table k23 k43 x9 k ) (r_Table).length 0 ()).bind fun res64 => onRes res64 (fun r825 => some (.ret r825)) fun _ =>
  some (.next ())

def p_impl_Ring_turnFault_L1 (r_Table : (List (List (List Int)))) (x9 : (List Int)) (k23 : Nat) : Option (Ctl (Unit) ((List Int))) :=
  (forN (fun k s => p_impl_Ring_turnFault_L2 r_Table k23 x9 k ) (r_Table).length 0 ()).bind fun res41 => onRes res41 (fun r851 => some (.ret r851)) fun _ =>
  some (.next ())

def p_impl_Ring_turnFault (r_Table : (List (List (List Int)))) : Option ((List Int)) :=
  (p_impl_Ring_duals r_Table).bind fun x9 =>
  (forN (fun k s => p_impl_Ring_turnFault_L1 r_Table x9 k ) (r_Table).length 0 ()).bind fun res21 => onRes res21 (fun r870 => some r870) fun _ =>
  some ([] : (List Int))

def p_impl_Ring_bracketFault_L5 (x29 : (List (List Int))) (k39 : Nat) (r_Table : (List (List (List Int)))) (k71 : Nat) (k100 : Nat) (x61 : (List (List Int))) (k132 : Nat) (x133 : Int) (x134 : Int) : Option (Ctl (Int × Int) (Unit)) :=
  (idx x29 (k39 : Int)).bind fun x206 =>
  (idx x206 (k132 : Int)).bind fun x245 =>
  (idx r_Table (k132 : Int)).bind fun x301 =>
  (idx x301 (k71 : Int)).bind fun x340 =>
  (idx x340 (k100 : Int)).bind fun x379 =>
  (idx x61 (k71 : Int)).bind fun x482 =>
  (idx x482 (k132 : Int)).bind fun x521 =>
  (idx x29 (k132 : Int)).bind fun x567 =>
  (idx x567 (k100 : Int)).bind fun x606 =>
  some (.next ((w64 (x133 + (w64 (x245 * x379)))), (w64 (x134 + (w64 (x521 * x606))))))

def p_impl_Ring_bracketFault_L4 (x29 : (List (List Int))) (k39 : Nat) (r_Table : (List (List (List Int)))) (k71 : Nat) (x61 : (List (List Int))) (k12 : Nat) (k100 : Nat) : Option (Ctl (Unit) ((List Int))) :=
  (forN (fun k s => p_impl_Ring_bracketFault_L5 x29 k39 r_Table k71 k100 x61 k s.1 s.2) (r_Table).length 0 ((0 : Int), (0 : Int))).bind fun res130 => onRes res130 (fun r740 => none) fun (s709p : Int × Int) =>
  if (s709p.1 != s709p.2) = true then
    some (.ret ([(3 : Int), (k12 : Int), (k39 : Int), (k71 : Int), (k100 : Int)] : (List Int)))
  else
    some (.next ())

def p_impl_Ring_bracketFault_L3 (x29 : (List (List Int))) (k39 : Nat) (r_Table : (List (List (List Int)))) (x61 : (List (List Int))) (k12 : Nat) (k71 : Nat) : Option (Ctl (Unit) ((List Int))) :=
  (forN (fun k s => p_impl_Ring_bracketFault_L4 x29 k39 r_Table k71 x61 k12 k ) (r_Table).length 0 ()).bind fun res98 => onRes res98 (fun r784 => some (.ret r784)) fun _ =>
  some (.next ())

def p_impl_Ring_bracketFault_L2 (r_Table : (List (List (List Int)))) (x29 : (List (List Int))) (k12 : Nat) (k39 : Nat) : Option (Ctl (Unit) ((List Int))) :=
  (idx r_Table (k39 : Int)).bind fun x61 =>
  (forN (fun k s => p_impl_Ring_bracketFault_L3 x29 k39 r_Table x61 k12 k ) (r_Table).length 0 ()).bind fun res69 => onRes res69 (fun r821 => some (.ret r821)) fun _ =>
  some (.next ())

def p_impl_Ring_bracketFault_L1 (r_Table : (List (List (List Int)))) (k12 : Nat) : Option (Ctl (Unit) ((List Int))) :=
  (idx r_Table (k12 : Int)).bind fun x29 =>
  (forN (fun k s => p_impl_Ring_bracketFault_L2 r_Table x29 k12 k ) (r_Table).length 0 ()).bind fun res37 => onRes res37 (fun r849 => some (.ret r849)) fun _ =>
  some (.next ())

def p_impl_Ring_bracketFault (r_Table : (List (List (List Int)))) : Option ((List Int)) :=
  (forN (fun k s => p_impl_Ring_bracketFault_L1 r_Table k ) (r_Table).length 0 ()).bind fun res10 => onRes res10 (fun r868 => some r868) fun _ =>
  some ([] : (List Int))

def p_impl_Ring_fault (r_Table : (List (List (List Int)))) : Option ((List Int)) :=
  (p_impl_Ring_unitFault r_Table).bind fun x9 =>
  if (!(x9).isEmpty) = true then
    some x9
  else
    (p_impl_Ring_dualFault r_Table).bind fun x19 =>
    if (decide (x19 ≥ (0 : Int))) = true then
      some ([(1 : Int), x19] : (List Int))
    else
      (p_impl_Ring_turnFault r_Table).bind fun x32 =>
      if (!(x32).isEmpty) = true then
        some x32
      else
        (p_impl_Ring_bracketFault r_Table).bind fun x42 =>
        some x42

def p_impl_IsRing (r_Table : (List (List (List Int)))) : Option (Bool) :=
  (p_impl_isCube r_Table).bind fun x9 =>
  (if x9 = true then
    (p_impl_Ring_fault r_Table).bind fun x21 =>
    some (x21).isEmpty
  else
    some false).bind fun (x16 : Bool) =>
  some x16

def p_slices_Clone_Lint64_int64 (s1 : (List Int)) : Option ((List Int)) :=
  (appL ([] : (List Int)) s1).bind fun x6 =>
  some x6

def p_impl_Ring_opposite_L2 (r_Table : (List (List (List Int)))) (k23 : Nat) (k50 : Nat) (x51 : (List (List Int))) : Option (Ctl ((List (List Int))) (Unit)) :=
  (idx r_Table (k50 : Int)).bind fun x74 =>
  (idx x74 (k23 : Int)).bind fun x81 =>
  (p_slices_Clone_Lint64_int64 x81).bind fun x88 =>
  (appL x51 [x88]).bind fun x101 =>
  some (.next x101)

def p_impl_Ring_opposite_L1 (r_Table : (List (List (List Int)))) (k23 : Nat) (x24 : (List (List (List Int)))) : Option (Ctl ((List (List (List Int)))) (Unit)) :=
  (forN (fun k s => p_impl_Ring_opposite_L2 r_Table k23 k s) (r_Table).length 0 ([] : (List (List Int)))).bind fun res48 => onRes res48 (fun r154 => none) fun (x131 : (List (List Int))) =>
  (appL x24 [x131]).bind fun x146 =>
  some (.next x146)

def p_impl_Ring_opposite (r_Table : (List (List (List Int)))) : Option ((List (List (List Int)))) :=
  (forN (fun k s => p_impl_Ring_opposite_L1 r_Table k s) (r_Table).length 0 ([] : (List (List (List Int))))).bind fun res21 => onRes res21 (fun r182 => none) fun (x175 : (List (List (List Int)))) =>
  some x175

def p_slices_EqualFunc_LLLint64_LLLint64_LLint64_LLint64_L1 (s1 : (List (List (List Int)))) (s2 : (List (List (List Int)))) (eq : ((List (List Int)) → (List (List Int)) → Option Bool)) (k8 : Nat) : Option (Ctl (Unit) (Bool)) :=
  (idx s1 (k8 : Int)).bind fun x26 =>
  (idx s2 (k8 : Int)).bind fun x33 =>
  (eq x26 x33).bind fun x40 =>
  if (!x40) = true then
    some (.ret false)
  else
    some (.next ())

def p_slices_EqualFunc_LLLint64_LLLint64_LLint64_LLint64 (s1 : (List (List (List Int)))) (s2 : (List (List (List Int)))) (eq : (List (List Int)) → (List (List Int)) → Option Bool) : Option (Bool) :=
  if (((s1).length : Int) != ((s2).length : Int)) = true then
    some false
  else
    (forN (fun k s => p_slices_EqualFunc_LLLint64_LLLint64_LLint64_LLint64_L1 s1 s2 eq k ) (s1).length 0 ()).bind fun res6 => onRes res6 (fun r67 => some r67) fun _ =>
    some true

def p_slices_EqualFunc_LLint64_LLint64_Lint64_Lint64_L1 (s1 : (List (List Int))) (s2 : (List (List Int))) (eq : ((List Int) → (List Int) → Option Bool)) (k8 : Nat) : Option (Ctl (Unit) (Bool)) :=
  (idx s1 (k8 : Int)).bind fun x26 =>
  (idx s2 (k8 : Int)).bind fun x33 =>
  (eq x26 x33).bind fun x40 =>
  if (!x40) = true then
    some (.ret false)
  else
    some (.next ())

def p_slices_EqualFunc_LLint64_LLint64_Lint64_Lint64 (s1 : (List (List Int))) (s2 : (List (List Int))) (eq : (List Int) → (List Int) → Option Bool) : Option (Bool) :=
  if (((s1).length : Int) != ((s2).length : Int)) = true then
    some false
  else
    (forN (fun k s => p_slices_EqualFunc_LLint64_LLint64_Lint64_Lint64_L1 s1 s2 eq k ) (s1).length 0 ()).bind fun res6 => onRes res6 (fun r67 => some r67) fun _ =>
    some true

def p_slices_Equal_Lint64_int64_L1 (s1 : (List Int)) (s2 : (List Int)) (k8 : Nat) : Option (Ctl (Unit) (Bool)) :=
  (idx s1 (k8 : Int)).bind fun x54 =>
  (idx s2 (k8 : Int)).bind fun x100 =>
  if (x54 != x100) = true then
    some (.ret false)
  else
    some (.next ())

def p_slices_Equal_Lint64_int64 (s1 : (List Int)) (s2 : (List Int)) : Option (Bool) :=
  if (((s1).length : Int) != ((s2).length : Int)) = true then
    some false
  else
    (forN (fun k s => p_slices_Equal_Lint64_int64_L1 s1 s2 k ) (s1).length 0 ()).bind fun res6 => onRes res6 (fun r154 => some r154) fun _ =>
    some true

def p_impl_equalTables_c1 (x : (List (List Int))) (y : (List (List Int))) : Option (Bool) :=
  (p_slices_EqualFunc_LLint64_LLint64_Lint64_Lint64 x y (fun a0_2 a1_2 => p_slices_Equal_Lint64_int64 a0_2 a1_2)).bind fun x5 =>
  some x5

def p_impl_equalTables (a : (List (List (List Int)))) (b : (List (List (List Int)))) : Option (Bool) :=
  (p_slices_EqualFunc_LLLint64_LLLint64_LLint64_LLint64 a b (fun a0_2 a1_2 => p_impl_equalTables_c1 a0_2 a1_2)).bind fun x5 =>
  some x5

def p_impl_Ring_isCommutative (r_Table : (List (List (List Int)))) : Option (Bool) :=
  (p_impl_Ring_opposite r_Table).bind fun x43 =>
  (p_impl_equalTables r_Table x43).bind fun x71 =>
  some x71

def p_impl_areNumbers (list : (List Int)) : Option (Bool) :=
  (p_impl_allWithin list (0 : Int) (55440 : Int)).bind fun x1 =>
  some x1

def p_impl_dot_L1 (a : (List Int)) (b : (List Int)) (k4 : Nat) (x5 : Int) : Option (Ctl (Int) (Unit)) :=
  (idx a (k4 : Int)).bind fun x60 =>
  (idx b (k4 : Int)).bind fun x106 =>
  some (.next (w64 (x5 + (((w64 (x60 * x106))).tmod (55441 : Int)))))

def p_impl_dot (a : (List Int)) (b : (List Int)) : Option (Int) :=
  (forN (fun k s => p_impl_dot_L1 a b k s) (a).length 0 (0 : Int)).bind fun res2 => onRes res2 (fun r191 => none) fun (x187 : Int) =>
  some ((x187).tmod (55441 : Int))

def p_impl_Ring_isCharacter_L2 (x29 : (List (List Int))) (x : (List Int)) (k12 : Nat) (k39 : Nat) : Option (Ctl (Unit) (Bool)) :=
  (idx x29 (k39 : Int)).bind fun x60 =>
  (p_impl_dot x60 x).bind fun x95 =>
  (idx x (k12 : Int)).bind fun x130 =>
  (idx x (k39 : Int)).bind fun x176 =>
  if (x95 != (((w64 (x130 * x176))).tmod (55441 : Int))) = true then
    some (.ret false)
  else
    some (.next ())

def p_impl_Ring_isCharacter_L1 (r_Table : (List (List (List Int)))) (x : (List Int)) (k12 : Nat) : Option (Ctl (Unit) (Bool)) :=
  (idx r_Table (k12 : Int)).bind fun x29 =>
  (forN (fun k s => p_impl_Ring_isCharacter_L2 x29 x k12 k ) (x29).length 0 ()).bind fun res37 => onRes res37 (fun r269 => some (.ret r269)) fun _ =>
  some (.next ())

def p_impl_Ring_isCharacter (r_Table : (List (List (List Int)))) (x : (List Int)) : Option (Bool) :=
  (forN (fun k s => p_impl_Ring_isCharacter_L1 r_Table x k ) (r_Table).length 0 ()).bind fun res10 => onRes res10 (fun r296 => some r296) fun _ =>
  (idx x (0 : Int)).bind fun x289 =>
  some (x289 == (1 : Int))

def p_laws_eqInt64S_L1 (a : (List Int)) (b : (List Int)) (k7 : Nat) : Option (Ctl (Unit) (Bool)) :=
  (idx a (k7 : Int)).bind fun x53 =>
  (idx b (k7 : Int)).bind fun x99 =>
  if (x53 != x99) = true then
    some (.ret false)
  else
    some (.next ())

def p_laws_eqInt64S (a : (List Int)) (b : (List Int)) : Option (Bool) :=
  if (((a).length : Int) != ((b).length : Int)) = true then
    some false
  else
    (forN (fun k s => p_laws_eqInt64S_L1 a b k ) (a).length 0 ()).bind fun res5 => onRes res5 (fun r152 => some r152) fun _ =>
    some true

def p_laws_eqInt64SS_L1 (a : (List (List Int))) (b : (List (List Int))) (k7 : Nat) : Option (Ctl (Unit) (Bool)) :=
  (idx a (k7 : Int)).bind fun x53 =>
  (idx b (k7 : Int)).bind fun x99 =>
  (p_laws_eqInt64S x53 x99).bind fun x130 =>
  if (!x130) = true then
    some (.ret false)
  else
    some (.next ())

def p_laws_eqInt64SS (a : (List (List Int))) (b : (List (List Int))) : Option (Bool) :=
  if (((a).length : Int) != ((b).length : Int)) = true then
    some false
  else
    (forN (fun k s => p_laws_eqInt64SS_L1 a b k ) (a).length 0 ()).bind fun res5 => onRes res5 (fun r156 => some r156) fun _ =>
    some true

def p_laws_eqInt64SSS_L1 (a : (List (List (List Int)))) (b : (List (List (List Int)))) (k7 : Nat) : Option (Ctl (Unit) (Bool)) :=
  (idx a (k7 : Int)).bind fun x53 =>
  (idx b (k7 : Int)).bind fun x99 =>
  (p_laws_eqInt64SS x53 x99).bind fun x130 =>
  if (!x130) = true then
    some (.ret false)
  else
    some (.next ())

def p_laws_eqInt64SSS (a : (List (List (List Int)))) (b : (List (List (List Int)))) : Option (Bool) :=
  if (((a).length : Int) != ((b).length : Int)) = true then
    some false
  else
    (forN (fun k s => p_laws_eqInt64SSS_L1 a b k ) (a).length 0 ()).bind fun res5 => onRes res5 (fun r156 => some r156) fun _ =>
    some true

def p_laws_eqRing (a_Table : (List (List (List Int)))) (b_Table : (List (List (List Int)))) : Option (Bool) :=
  (p_laws_eqInt64SSS a_Table b_Table).bind fun x18 =>
  if (!x18) = true then
    some false
  else
    some true

def p_laws_markInt64S_L1  (k3 : Nat) (x4 : (List Int)) (x5 : Int) : Option (Ctl ((List Int) × Int) (Unit)) :=
  (idx x4 (k3 : Int)).bind fun x24 =>
  some (.next (((x4).set ((k3 : Int)).toNat x5), (w64 (x5 + (1 : Int)))))

def p_laws_markInt64S (a : (List Int)) (k1 : Int) : Option (Int × (List Int)) :=
  (forN (fun k s => p_laws_markInt64S_L1  k s.1 s.2) (a).length 0 (a, k1)).bind fun res1 => onRes res1 (fun r57 => none) fun (s50p : (List Int) × Int) =>
  some (s50p.2, s50p.1)

def p_laws_markInt64SS_L1  (k3 : Nat) (x4 : (List (List Int))) (x5 : Int) : Option (Ctl ((List (List Int)) × Int) (Unit)) :=
  (idx x4 (k3 : Int)).bind fun x24 =>
  (p_laws_markInt64S x24 x5).bind fun x32 =>
  some (.next (((x4).set ((k3 : Int)).toNat x32.2), x32.1))

def p_laws_markInt64SS (a : (List (List Int))) (k1 : Int) : Option (Int × (List (List Int))) :=
  (forN (fun k s => p_laws_markInt64SS_L1  k s.1 s.2) (a).length 0 (a, k1)).bind fun res1 => onRes res1 (fun r67 => none) fun (s60p : (List (List Int)) × Int) =>
  some (s60p.2, s60p.1)

def p_laws_markInt64SSS_L1  (k3 : Nat) (x4 : (List (List (List Int)))) (x5 : Int) : Option (Ctl ((List (List (List Int))) × Int) (Unit)) :=
  (idx x4 (k3 : Int)).bind fun x24 =>
  (p_laws_markInt64SS x24 x5).bind fun x32 =>
  some (.next (((x4).set ((k3 : Int)).toNat x32.2), x32.1))

def p_laws_markInt64SSS (a : (List (List (List Int)))) (k1 : Int) : Option (Int × (List (List (List Int)))) :=
  (forN (fun k s => p_laws_markInt64SSS_L1  k s.1 s.2) (a).length 0 (a, k1)).bind fun res1 => onRes res1 (fun r67 => none) fun (s60p : (List (List (List Int))) × Int) =>
  some (s60p.2, s60p.1)

def p_laws_markRing (a_Table : (List (List (List Int)))) (k1 : Int) : Option (Int × (List (List (List Int)))) :=
  (p_laws_markInt64SSS a_Table k1).bind fun x6 =>
  some (x6.1, x6.2)

def p_laws_heldInt64S_L1 (a : (List Int)) (k3 : Nat) (x4 : Int) : Option (Ctl (Int) (Int)) :=
  (idx a (k3 : Int)).bind fun x22 =>
  if (x22 != x4) = true then
    some (.ret (-1 : Int))
  else
    some (.next (w64 (x4 + (1 : Int))))

def p_laws_heldInt64S (a : (List Int)) (k1 : Int) : Option (Int) :=
  (forN (fun k s => p_laws_heldInt64S_L1 a k s) (a).length 0 k1).bind fun res1 => onRes res1 (fun r54 => some r54) fun (x50 : Int) =>
  some x50

def p_spec_l08Code (r_Table : (List (List (List Int)))) : Option (Int) :=
  (p_spec_l03Is r_Table).bind fun x9 =>
  if (!x9) = true then
    some (1 : Int)
  else
    (p_spec_l03Commutative r_Table).bind fun x17 =>
    if (!x17) = true then
      some (5 : Int)
    else
      some (0 : Int)

def p_impl_commuteCode (r_Table : (List (List (List Int)))) : Option (Int) :=
  (p_impl_IsRing r_Table).bind fun x9 =>
  if (!x9) = true then
    some (1 : Int)
  else
    (p_impl_Ring_isCommutative r_Table).bind fun x17 =>
    if (!x17) = true then
      some (5 : Int)
    else
      some (0 : Int)

def p_spec_l03Duals_L1 (r_Table : (List (List (List Int)))) (k15 : Nat) (x16 : (List Int)) : Option (Ctl ((List Int)) (Unit)) :=
  (p_spec_l03Dual r_Table (k15 : Int)).bind fun x34 =>
  (appL x16 ([x34] : (List Int))).bind fun x45 =>
  some (.next x45)

def p_spec_l03Duals (r_Table : (List (List (List Int)))) : Option ((List Int)) :=
  (forN (fun k s => p_spec_l03Duals_L1 r_Table k s) (r_Table).length 0 ([] : (List Int))).bind fun res13 => onRes res13 (fun r74 => none) fun (x70 : (List Int)) =>
  some x70

def p_spec_l08Pair_L1 (x : (List Int)) (duals : (List Int)) (y : (List Int)) (k3 : Nat) (x4 : Int) : Option (Ctl (Int) (Unit)) :=
  (idx x (k3 : Int)).bind fun x60 =>
  (idx duals (k3 : Int)).bind fun x113 =>
  (idx y x113).bind fun x145 =>
  some (.next (((w64 (x4 + (w64 (x60 * x145))))).tmod (55441 : Int)))

def p_spec_l08Pair (x : (List Int)) (y : (List Int)) (duals : (List Int)) : Option (Int) :=
  (forN (fun k s => p_spec_l08Pair_L1 x duals y k s) (x).length 0 (0 : Int)).bind fun res1 => onRes res1 (fun r220 => none) fun (x216 : Int) =>
  some x216

def p_impl_turnList_L1 (dual : (List Int)) (x : (List Int)) (k8 : Nat) (x9 : (List Int)) : Option (Ctl ((List Int)) (Unit)) :=
  (idx dual (k8 : Int)).bind fun x28 =>
  (idx x x28).bind fun x35 =>
  (appL x9 ([x35] : (List Int))).bind fun x46 =>
  some (.next x46)

def p_impl_turnList (dual : (List Int)) (x : (List Int)) : Option ((List Int)) :=
  (forN (fun k s => p_impl_turnList_L1 dual x k s) (dual).length 0 ([] : (List Int))).bind fun res6 => onRes res6 (fun r76 => none) fun (x72 : (List Int)) =>
  some x72

def p_spec_l08Duals_L1 (duals : (List Int)) (n : Int) (k6 : Nat) : Option (Ctl (Unit) (Bool)) :=
  (idx duals (k6 : Int)).bind fun x22 =>
  (p_spec_l01In x22 (0 : Int) (w64 (n - (1 : Int)))).bind fun x29 =>
  if (!x29) = true then
    some (.ret false)
  else
    some (.next ())

def p_spec_l08Duals_L2 (duals : (List Int)) (k58 : Nat) : Option (Ctl (Unit) (Bool)) :=
  (idx duals (k58 : Int)).bind fun x74 =>
  (idx duals x74).bind fun x81 =>
  if (x81 != (k58 : Int)) = true then
    some (.ret false)
  else
    some (.next ())

def p_spec_l08Duals (n : Int) (duals : (List Int)) : Option (Bool) :=
  if (((duals).length : Int) != n) = true then
    some false
  else
    (forN (fun k s => p_spec_l08Duals_L1 duals n k ) (n).toNat 0 ()).bind fun res4 => onRes res4 (fun r108 => some r108) fun _ =>
    (forN (fun k s => p_spec_l08Duals_L2 duals k ) (n).toNat 0 ()).bind fun res56 => onRes res56 (fun r107 => some r107) fun _ =>
    some true

def p_spec_l01Pow_L1  (x4 : Int) (x5 : Int) (x6 : Int) : Option (Ctl (Int × Int × Int) (Unit)) :=
  if (decide (x5 > (0 : Int))) = true then
    (if (((x5).tmod (2 : Int)) == (1 : Int)) = true then
      some (((w64 (x6 * x4))).tmod (55441 : Int))
    else
      some x6).bind fun (x24 : Int) =>
    some (.next ((((w64 (x4 * x4))).tmod (55441 : Int)), (w64 ((x5).tdiv (2 : Int))), x24))
  else
    some (.brk (x4, x5, x6))

def p_spec_l01Pow (a : Int) (k1 : Int) : Option (Int) :=
  (whileC (fun s => p_spec_l01Pow_L1  s.1 s.2.1 s.2.2) (a, k1, (1 : Int))).bind fun res1 => onRes res1 (fun r46 => none) fun (s39p : Int × Int × Int) =>
  some s39p.2.2

def p_spec_l01Inv (a : Int) : Option (Int) :=
  (p_spec_l01Pow a (55439 : Int)).bind fun x1 =>
  some x1

def p_spec_l08Ring_L1 (table : (List (List Int))) (duals : (List Int)) (k12 : Nat) (x13 : (List Int)) : Option (Ctl ((List Int)) ((List (List (List Int))) × Bool)) :=
  (idx table (k12 : Int)).bind fun x62 =>
  (p_spec_l08Pair x62 x62 duals).bind fun x146 =>
  if (x146 == (0 : Int)) = true then
    some (.ret (([] : (List (List (List Int)))), false))
  else
    (p_spec_l01Inv x146).bind fun x158 =>
    (appL x13 ([x158] : (List Int))).bind fun x169 =>
    some (.next x169)

def p_spec_l08Ring_L5 (table : (List (List Int))) (k213 : Nat) (k241 : Nat) (duals : (List Int)) (k271 : Nat) (x196 : (List Int)) (k299 : Nat) (x300 : Int) : Option (Ctl (Int) (Unit)) :=
  (idx table (k299 : Int)).bind fun x327 =>
  (idx x327 (k213 : Int)).bind fun x370 =>
  (idx x327 (k241 : Int)).bind fun x416 =>
  (idx duals (k271 : Int)).bind fun x496 =>
  (idx x327 x496).bind fun x528 =>
  (idx x196 (k299 : Int)).bind fun x601 =>
  some (.next (((w64 (x300 + (w64 ((((w64 ((((w64 (x370 * x416))).tmod (55441 : Int)) * x528))).tmod (55441 : Int)) * x601))))).tmod (55441 : Int)))

def p_spec_l08Ring_L4 (table : (List (List Int))) (k213 : Nat) (k241 : Nat) (duals : (List Int)) (x196 : (List Int)) (k271 : Nat) (x272 : (List Int)) : Option (Ctl ((List Int)) (Unit)) :=
  (forN (fun k s => p_spec_l08Ring_L5 table k213 k241 duals k271 x196 k s) (table).length 0 (0 : Int)).bind fun res297 => onRes res297 (fun r712 => none) fun (x687 : Int) =>
  (appL x272 ([x687] : (List Int))).bind fun x706 =>
  some (.next x706)

def p_spec_l08Ring_L3 (table : (List (List Int))) (k213 : Nat) (duals : (List Int)) (x196 : (List Int)) (k241 : Nat) (x242 : (List (List Int))) : Option (Ctl ((List (List Int))) (Unit)) :=
  (forN (fun k s => p_spec_l08Ring_L4 table k213 k241 duals x196 k s) (table).length 0 ([] : (List Int))).bind fun res269 => onRes res269 (fun r764 => none) fun (x739 : (List Int)) =>
  (appL x242 [x739]).bind fun x758 =>
  some (.next x758)

def p_spec_l08Ring_L2 (table : (List (List Int))) (duals : (List Int)) (x196 : (List Int)) (k213 : Nat) (x214 : (List (List (List Int)))) : Option (Ctl ((List (List (List Int)))) (Unit)) :=
  (forN (fun k s => p_spec_l08Ring_L3 table k213 duals x196 k s) (table).length 0 ([] : (List (List Int)))).bind fun res239 => onRes res239 (fun r814 => none) fun (x789 : (List (List Int))) =>
  (appL x214 [x789]).bind fun x806 =>
  some (.next x806)

def p_spec_l08Ring (table : (List (List Int))) (duals : (List Int)) : Option ((List (List (List Int))) × Bool) :=
  (forN (fun k s => p_spec_l08Ring_L1 table duals k s) (table).length 0 ([] : (List Int))).bind fun res10 => onRes res10 (fun r897 => some r897) fun (x196 : (List Int)) =>
  (forN (fun k s => p_spec_l08Ring_L2 table duals x196 k s) (table).length 0 ([] : (List (List (List Int))))).bind fun res211 => onRes res211 (fun r896 => none) fun (x837 : (List (List (List Int)))) =>
  (p_spec_l03Is x837).bind fun x843 =>
  (if (!x843) = true then
    some true
  else
    (p_spec_l03Commutative x837).bind fun x855 =>
    some (!x855)).bind fun (x850 : Bool) =>
  (if x850 = true then
    some true
  else
    (p_spec_l03Duals x837).bind fun x872 =>
    (p_spec_l01Same x872 duals).bind fun x879 =>
    some (!x879)).bind fun (x867 : Bool) =>
  if x867 = true then
    some (([] : (List (List (List Int)))), false)
  else
    some (x837, true)

def p_spec_RingOfCharacters_L1 (table : (List (List Int))) (k41 : Nat) : Option (Ctl (Unit) ((List (List (List Int))) × Int)) :=
  (idx table (k41 : Int)).bind fun x59 =>
  (if (((x59).length : Int) != ((table).length : Int)) = true then
    some true
  else
    (p_spec_l01Numbers x59).bind fun x76 =>
    some (!x76)).bind fun (x68 : Bool) =>
  if x68 = true then
    some (.ret (([] : (List (List (List Int)))), (2 : Int)))
  else
    some (.next ())

def p_spec_RingOfCharacters (table : (List (List Int))) (duals : (List Int)) : Option ((List (List (List Int))) × Int) :=
  (if ((decide (((table).length : Int) < (1 : Int))) || (decide (((table).length : Int) > (16 : Int)))) = true then
    some true
  else
    (p_spec_l08Duals ((table).length : Int) duals).bind fun x22 =>
    some (!x22)).bind fun (x17 : Bool) =>
  if x17 = true then
    some (([] : (List (List (List Int)))), (2 : Int))
  else
    (forN (fun k s => p_spec_RingOfCharacters_L1 table k ) (table).length 0 ()).bind fun res39 => onRes res39 (fun r136 => some r136) fun _ =>
    (p_spec_l08Ring table duals).bind fun x116 =>
    if (!x116.2) = true then
      some (([] : (List (List (List Int)))), (5 : Int))
    else
      some (x116.1, (0 : Int))

def p_impl_RingOfCharacters_c1 (x : (List Int)) (c0 : Int) : Option (Bool) :=
  (if (((x).length : Int) != c0) = true then
    some true
  else
    (p_impl_areNumbers x).bind fun x8 =>
    some (!x8)).bind fun (x3 : Bool) =>
  some x3

def p_impl_areDuals_L1 (duals : (List Int)) (n : Int) (k4 : Nat) : Option (Ctl (Unit) (Bool)) :=
  (idx duals (k4 : Int)).bind fun x22 =>
  (p_impl_within x22 (0 : Int) (w64 (n - (1 : Int)))).bind fun x29 =>
  (if (!x29) = true then
    some true
  else
    (idx duals x22).bind fun x41 =>
    some (x41 != (k4 : Int))).bind fun (x36 : Bool) =>
  if x36 = true then
    some (.ret false)
  else
    some (.next ())

def p_impl_areDuals (duals : (List Int)) (n : Int) : Option (Bool) :=
  (forN (fun k s => p_impl_areDuals_L1 duals n k ) (duals).length 0 ()).bind fun res2 => onRes res2 (fun r79 => some r79) fun _ =>
  some (((duals).length : Int) == n)

def p_impl_power_L1  (x4 : Int) (x5 : Int) (x6 : Int) : Option (Ctl (Int × Int × Int) (Unit)) :=
  if (decide (x5 > (0 : Int))) = true then
    (if (((x5).tmod (2 : Int)) == (1 : Int)) = true then
      some (((w64 (x6 * x4))).tmod (55441 : Int))
    else
      some x6).bind fun (x24 : Int) =>
    some (.next ((((w64 (x4 * x4))).tmod (55441 : Int)), (w64 ((x5).tdiv (2 : Int))), x24))
  else
    some (.brk (x4, x5, x6))

def p_impl_power (a : Int) (k1 : Int) : Option (Int) :=
  (whileC (fun s => p_impl_power_L1  s.1 s.2.1 s.2.2) (a, k1, (1 : Int))).bind fun res1 => onRes res1 (fun r46 => none) fun (s39p : Int × Int × Int) =>
  some s39p.2.2

def p_impl_divide (a : Int) (b : Int) : Option (Int) :=
  (p_impl_power b (55439 : Int)).bind fun x1 =>
  some (((w64 (a * x1))).tmod (55441 : Int))

def p_impl_zeros_L1 (columns : Int) (k7 : Nat) (x8 : (List (List Int))) : Option (Ctl ((List (List Int))) (Unit)) :=
  (mkL columns (0 : Int)).bind fun x26 =>
  (appL x8 [x26]).bind fun x38 =>
  some (.next x38)

def p_impl_zeros (rows : Int) (columns : Int) : Option ((List (List Int))) :=
  (forN (fun k s => p_impl_zeros_L1 columns k s) (rows).toNat 0 ([] : (List (List Int)))).bind fun res5 => onRes res5 (fun r67 => none) fun (x63 : (List (List Int))) =>
  some x63

def p_impl_emptyCube_L1 (n : Int) (k14 : Nat) (x15 : (List (List (List Int)))) : Option (Ctl ((List (List (List Int)))) (Unit)) :=
  (p_impl_zeros n n).bind fun x81 =>
  (appL x15 [x81]).bind fun x116 =>
  some (.next x116)

def p_impl_emptyCube (n : Int) : Option ((List (List (List Int)))) :=
  (forN (fun k s => p_impl_emptyCube_L1 n k s) (n).toNat 0 ([] : (List (List (List Int))))).bind fun res12 => onRes res12 (fun r151 => none) fun (x144 : (List (List (List Int)))) =>
  some x144

def p_impl_toldRing_L1 (table : (List (List Int))) (dual : (List Int)) (k13 : Nat) (x14 : (List Int)) : Option (Ctl ((List Int)) ((List (List (List Int))) × Bool)) :=
  (idx table (k13 : Int)).bind fun x36 =>
  (p_impl_turnList dual x36).bind fun x43 =>
  (p_impl_dot x36 x43).bind fun x50 =>
  if (x50 == (0 : Int)) = true then
    some (.ret (([] : (List (List (List Int)))), false))
  else
    (p_impl_divide (1 : Int) x50).bind fun x62 =>
    (appL x14 ([x62] : (List Int))).bind fun x73 =>
    some (.next x73)

def p_impl_toldRing_L5 (table : (List (List Int))) (k125 : Nat) (k149 : Nat) (dual : (List Int)) (k176 : Nat) (x102 : (List Int)) (k207 : Nat) (x208 : Int) : Option (Ctl (Int) (Unit)) :=
  (idx table (k207 : Int)).bind fun x241 =>
  (idx x241 (k125 : Int)).bind fun x284 =>
  (idx x241 (k149 : Int)).bind fun x330 =>
  (idx dual (k176 : Int)).bind fun x410 =>
  (idx x241 x410).bind fun x442 =>
  (idx x102 (k207 : Int)).bind fun x515 =>
  some (.next (w64 (x208 + (((w64 ((((w64 ((((w64 (x284 * x330))).tmod (55441 : Int)) * x442))).tmod (55441 : Int)) * x515))).tmod (55441 : Int)))))

def p_impl_toldRing_L4 (table : (List (List Int))) (k125 : Nat) (k149 : Nat) (dual : (List Int)) (x102 : (List Int)) (k176 : Nat) (x177 : (List (List (List Int)))) : Option (Ctl ((List (List (List Int)))) (Unit)) :=
  (forN (fun k s => p_impl_toldRing_L5 table k125 k149 dual k176 x102 k s) (table).length 0 (0 : Int)).bind fun res205 => onRes res205 (fun r663 => none) fun (x624 : Int) =>
  (idx x177 (k125 : Int)).bind fun x643 =>
  (idx x643 (k149 : Int)).bind fun x650 =>
  (idx x650 (k176 : Int)).bind fun x657 =>
  some (.next ((x177).set ((k125 : Int)).toNat ((x643).set ((k149 : Int)).toNat ((x650).set ((k176 : Int)).toNat ((x624).tmod (55441 : Int))))))

def p_impl_toldRing_L3 (table : (List (List Int))) (k125 : Nat) (dual : (List Int)) (x102 : (List Int)) (k149 : Nat) (x150 : (List (List (List Int)))) : Option (Ctl ((List (List (List Int)))) (Unit)) :=
  (forN (fun k s => p_impl_toldRing_L4 table k125 k149 dual x102 k s) (table).length 0 x150).bind fun res174 => onRes res174 (fun r705 => none) fun (x692 : (List (List (List Int)))) =>
  some (.next x692)

def p_impl_toldRing_L2 (table : (List (List Int))) (dual : (List Int)) (x102 : (List Int)) (k125 : Nat) (x126 : (List (List (List Int)))) : Option (Ctl ((List (List (List Int)))) (Unit)) :=
  (forN (fun k s => p_impl_toldRing_L3 table k125 dual x102 k s) (table).length 0 x126).bind fun res147 => onRes res147 (fun r741 => none) fun (x731 : (List (List (List Int)))) =>
  some (.next x731)

def p_impl_toldRing (table : (List (List Int))) (dual : (List Int)) : Option ((List (List (List Int))) × Bool) :=
  (forN (fun k s => p_impl_toldRing_L1 table dual k s) (table).length 0 ([] : (List Int))).bind fun res11 => onRes res11 (fun r812 => some r812) fun (x102 : (List Int)) =>
  (p_impl_emptyCube ((table).length : Int)).bind fun x110 =>
  (forN (fun k s => p_impl_toldRing_L2 table dual x102 k s) (table).length 0 x110).bind fun res123 => onRes res123 (fun r811 => none) fun (x764 : (List (List (List Int)))) =>
  (p_impl_isCube x764).bind fun x792 =>
  some (x764, x792)

def p_slices_Equal_Lint_int_L1 (s1 : (List Int)) (s2 : (List Int)) (k8 : Nat) : Option (Ctl (Unit) (Bool)) :=
  (idx s1 (k8 : Int)).bind fun x54 =>
  (idx s2 (k8 : Int)).bind fun x100 =>
  if (x54 != x100) = true then
    some (.ret false)
  else
    some (.next ())

def p_slices_Equal_Lint_int (s1 : (List Int)) (s2 : (List Int)) : Option (Bool) :=
  if (((s1).length : Int) != ((s2).length : Int)) = true then
    some false
  else
    (forN (fun k s => p_slices_Equal_Lint_int_L1 s1 s2 k ) (s1).length 0 ()).bind fun res6 => onRes res6 (fun r154 => some r154) fun _ =>
    some true

def p_impl_RingOfCharacters_L1 (duals : (List Int)) (k93 : Nat) (x94 : (List Int)) : Option (Ctl ((List Int)) (Unit)) :=
  (idx duals (k93 : Int)).bind fun x114 =>
  (appL x94 ([x114] : (List Int))).bind fun x125 =>
  some (.next x125)

def p_impl_RingOfCharacters (table : (List (List Int))) (duals : (List Int)) : Option ((List (List (List Int))) × Int) :=
  (if ((decide (((table).length : Int) < (1 : Int))) || (decide (((table).length : Int) > (16 : Int)))) = true then
    some true
  else
    (p_slices_ContainsFunc_LLint64_Lint64 table (fun a0_30 => p_impl_RingOfCharacters_c1 a0_30 ((table).length : Int))).bind fun x33 =>
    some x33).bind fun (x24 : Bool) =>
  (if x24 = true then
    some true
  else
    (p_impl_within ((duals).length : Int) ((table).length : Int) ((table).length : Int)).bind fun x52 =>
    some (!x52)).bind fun (x46 : Bool) =>
  (if x46 = true then
    some true
  else
    (p_impl_areDuals duals ((table).length : Int)).bind fun x70 =>
    some (!x70)).bind fun (x65 : Bool) =>
  if x65 = true then
    some (([] : (List (List (List Int)))), (2 : Int))
  else
    (forN (fun k s => p_impl_RingOfCharacters_L1 duals k s) (duals).length 0 ([] : (List Int))).bind fun res91 => onRes res91 (fun r235 => none) fun (x152 : (List Int)) =>
    (p_impl_toldRing table x152).bind fun x158 =>
    (if (!x158.2) = true then
      some true
    else
      (p_impl_IsRing x158.1).bind fun x177 =>
      some (!x177)).bind fun (x172 : Bool) =>
    (if x172 = true then
      some true
    else
      (p_impl_Ring_isCommutative x158.1).bind fun x194 =>
      some (!x194)).bind fun (x189 : Bool) =>
    (if x189 = true then
      some true
    else
      (p_impl_Ring_duals x158.1).bind fun x211 =>
      (p_slices_Equal_Lint_int x211 x152).bind fun x218 =>
      some (!x218)).bind fun (x206 : Bool) =>
    if x206 = true then
      some (([] : (List (List (List Int)))), (5 : Int))
    else
      some (x158.1, (0 : Int))

def p_laws_heldInt64SS_L1 (a : (List (List Int))) (k3 : Nat) (x4 : Int) : Option (Ctl (Int) (Int)) :=
  (idx a (k3 : Int)).bind fun x22 =>
  (p_laws_heldInt64S x22 x4).bind fun x29 =>
  if (decide (x29 < (0 : Int))) = true then
    some (.ret (-1 : Int))
  else
    some (.next x29)

def p_laws_heldInt64SS (a : (List (List Int))) (k1 : Int) : Option (Int) :=
  (forN (fun k s => p_laws_heldInt64SS_L1 a k s) (a).length 0 k1).bind fun res1 => onRes res1 (fun r61 => some r61) fun (x57 : Int) =>
  some x57

def p_laws_heldInt64SSS_L1 (a : (List (List (List Int)))) (k3 : Nat) (x4 : Int) : Option (Ctl (Int) (Int)) :=
  (idx a (k3 : Int)).bind fun x22 =>
  (p_laws_heldInt64SS x22 x4).bind fun x29 =>
  if (decide (x29 < (0 : Int))) = true then
    some (.ret (-1 : Int))
  else
    some (.next x29)

def p_laws_heldInt64SSS (a : (List (List (List Int)))) (k1 : Int) : Option (Int) :=
  (forN (fun k s => p_laws_heldInt64SSS_L1 a k s) (a).length 0 k1).bind fun res1 => onRes res1 (fun r61 => some r61) fun (x57 : Int) =>
  some x57

def p_laws_heldRing (a_Table : (List (List (List Int)))) (k1 : Int) : Option (Int) :=
  (p_laws_heldInt64SSS a_Table k1).bind fun x9 =>
  if (decide (x9 < (0 : Int))) = true then
    some (-1 : Int)
  else
    some x9

def p_laws_FnExactRingOfCharacters (aTable : (List (List Int))) (aDuals : (List Int)) : Option (Bool) :=
  if (decide (((aDuals).length : Int) > (1048576 : Int))) = true then
    some true
  else
    (p_laws_szInt64SS aTable (1048576 : Int)).bind fun x4 =>
    if (decide (x4 < (0 : Int))) = true then
      some true
    else
      (p_laws_toInt64SS aTable).bind fun x13 =>
      (p_laws_toInt64S aDuals).bind fun x23 =>
      (p_spec_RingOfCharacters x13 x23).bind fun x34 =>
      (p_laws_toInt64SS aTable).bind fun x48 =>
      (p_laws_toInt64S aDuals).bind fun x55 =>
      (p_impl_RingOfCharacters x48 x55).bind fun x62 =>
      (p_laws_eqRing x62.1 x34.1).bind fun x76 =>
      if ((!x76) || (x62.2 != x34.2)) = true then
        some false
      else
        (p_laws_toInt64SS aTable).bind fun x98 =>
        (p_laws_eqInt64SS x48 x98).bind fun x105 =>
        if (!x105) = true then
          some false
        else
          (p_laws_toInt64S aDuals).bind fun x113 =>
          (p_laws_eqInt64S x55 x113).bind fun x120 =>
          if (!x120) = true then
            some false
          else
            (p_laws_markInt64SS x48 (1 : Int)).bind fun x128 =>
            (p_laws_markInt64S x55 x128.1).bind fun x135 =>
            (if (decide (x135.1 < (0 : Int))) = true then
              some true
            else
              (p_laws_eqRing x62.1 x34.1).bind fun x148 =>
              some (!x148)).bind fun (x143 : Bool) =>
            if (x143 || (x62.2 != x34.2)) = true then
              some false
            else
              (p_laws_markRing x62.1 (1 : Int)).bind fun x175 =>
              (p_laws_heldRing x175.2 (1 : Int)).bind fun x182 =>
              if (decide (x182 < (0 : Int))) = true then
                some false
              else
                if (x182 != x175.1) = true then
                  some false
                else
                  (p_laws_toInt64SS aTable).bind fun x193 =>
                  (p_laws_toInt64S aDuals).bind fun x200 =>
                  (p_impl_RingOfCharacters x193 x200).bind fun x207 =>
                  (p_laws_eqRing x207.1 x34.1).bind fun x221 =>
                  if ((!x221) || (x207.2 != x34.2)) = true then
                    some false
                  else
                    (p_laws_heldRing x175.2 (1 : Int)).bind fun x237 =>
                    if (decide (x237 < (0 : Int))) = true then
                      some false
                    else
                      if (x237 != x175.1) = true then
                        some false
                      else
                        some true

end
end Go.VG
