/- The functions' plain twins, as a program of ours printed them. No proof. -/
import Derived.Test.YtijcmcibejdjpaaVgPure
set_option linter.all false
namespace Go.VG
noncomputable section

def p_laws_szInt64S (a : (List Int)) (left : Int) : Option (Int) :=
  if (decide ((w64 (left - ((a).length : Int))) < (0 : Int))) = true then
    some (-1 : Int)
  else
    some (w64 (left - ((a).length : Int)))

def p_laws_szInt64SS_L1 (a : (List (List Int))) (k6 : Nat) (x7 : Int) : Option (Ctl (Int) (Int)) :=
  (idx a (k6 : Int)).bind fun x25 =>
  (p_laws_szInt64S x25 x7).bind fun x32 =>
  if (decide (x32 < (0 : Int))) = true then
    some (.ret (-1 : Int))
  else
    some (.next x32)

def p_laws_szInt64SS (a : (List (List Int))) (left : Int) : Option (Int) :=
  if (decide ((w64 (left - ((a).length : Int))) < (0 : Int))) = true then
    some (-1 : Int)
  else
    (forN (fun k s => p_laws_szInt64SS_L1 a k s) (a).length 0 (w64 (left - ((a).length : Int)))).bind fun res4 => onRes res4 (fun r64 => some r64) fun (x60 : Int) =>
    some x60

def p_laws_szInt64SSS_L1 (a : (List (List (List Int)))) (k6 : Nat) (x7 : Int) : Option (Ctl (Int) (Int)) :=
  (idx a (k6 : Int)).bind fun x25 =>
  (p_laws_szInt64SS x25 x7).bind fun x32 =>
  if (decide (x32 < (0 : Int))) = true then
    some (.ret (-1 : Int))
  else
    some (.next x32)

def p_laws_szInt64SSS (a : (List (List (List Int)))) (left : Int) : Option (Int) :=
  if (decide ((w64 (left - ((a).length : Int))) < (0 : Int))) = true then
    some (-1 : Int)
  else
    (forN (fun k s => p_laws_szInt64SSS_L1 a k s) (a).length 0 (w64 (left - ((a).length : Int)))).bind fun res4 => onRes res4 (fun r64 => some r64) fun (x60 : Int) =>
    some x60

def p_laws_szRing (a_Table : (List (List (List Int)))) (left : Int) : Option (Int) :=
  (p_laws_szInt64SSS a_Table left).bind fun x9 =>
  if (decide (x9 < (0 : Int))) = true then
    some (-1 : Int)
  else
    some x9

def p_laws_toInt64S_L1 (a : (List Int)) (k10 : Nat) (x11 : (List Int)) : Option (Ctl ((List Int)) (Unit)) :=
  (idx a (k10 : Int)).bind fun x28 =>
  (idx x11 (k10 : Int)).bind fun x35 =>
  some (.next ((x11).set ((k10 : Int)).toNat x28))

def p_laws_toInt64S (a : (List Int)) : Option ((List Int)) :=
  (mkL ((a).length : Int) (0 : Int)).bind fun x2 =>
  (forN (fun k s => p_laws_toInt64S_L1 a k s) (a).length 0 x2).bind fun res8 => onRes res8 (fun r62 => none) fun (x59 : (List Int)) =>
  some x59

def p_laws_toInt64SS_L1 (a : (List (List Int))) (k10 : Nat) (x11 : (List (List Int))) : Option (Ctl ((List (List Int))) (Unit)) :=
  (idx a (k10 : Int)).bind fun x28 =>
  (p_laws_toInt64S x28).bind fun x35 =>
  (idx x11 (k10 : Int)).bind fun x42 =>
  some (.next ((x11).set ((k10 : Int)).toNat x35))

def p_laws_toInt64SS (a : (List (List Int))) : Option ((List (List Int))) :=
  (mkL ((a).length : Int) ([] : (List Int))).bind fun x2 =>
  (forN (fun k s => p_laws_toInt64SS_L1 a k s) (a).length 0 x2).bind fun res8 => onRes res8 (fun r69 => none) fun (x66 : (List (List Int))) =>
  some x66

def p_laws_toInt64SSS_L1 (a : (List (List (List Int)))) (k10 : Nat) (x11 : (List (List (List Int)))) : Option (Ctl ((List (List (List Int)))) (Unit)) :=
  (idx a (k10 : Int)).bind fun x28 =>
  (p_laws_toInt64SS x28).bind fun x35 =>
  (idx x11 (k10 : Int)).bind fun x42 =>
  some (.next ((x11).set ((k10 : Int)).toNat x35))

def p_laws_toInt64SSS (a : (List (List (List Int)))) : Option ((List (List (List Int)))) :=
  (mkL ((a).length : Int) ([] : (List (List Int)))).bind fun x2 =>
  (forN (fun k s => p_laws_toInt64SSS_L1 a k s) (a).length 0 x2).bind fun res8 => onRes res8 (fun r69 => none) fun (x66 : (List (List (List Int)))) =>
  some x66

def p_laws_toRing (a_Table : (List (List (List Int)))) : Option ((List (List (List Int)))) :=
  (p_laws_toInt64SSS a_Table).bind fun x17 =>
  some x17

def p_spec_l01In (n : Int) (low : Int) (high : Int) : Option (Bool) :=
  some ((decide (n ≥ low)) && (decide (n ≤ high)))

def p_spec_l03Cube_L3 (x62 : (List Int)) (k74 : Nat) : Option (Ctl (Unit) (Bool)) :=
  (idx x62 (k74 : Int)).bind fun x98 =>
  (p_spec_l01In x98 (0 : Int) (1000 : Int)).bind fun x105 =>
  if (!x105) = true then
    some (.ret false)
  else
    some (.next ())

def p_spec_l03Cube_L2 (x30 : (List (List Int))) (t : (List (List (List Int)))) (k42 : Nat) : Option (Ctl (Unit) (Bool)) :=
  (idx x30 (k42 : Int)).bind fun x62 =>
  if (((x62).length : Int) != ((t).length : Int)) = true then
    some (.ret false)
  else
    (forN (fun k s => p_spec_l03Cube_L3 x62 k ) (t).length 0 ()).bind fun res72 => onRes res72 (fun r136 => some (.ret r136)) fun _ =>
    some (.next ())

def p_spec_l03Cube_L1 (t : (List (List (List Int)))) (k14 : Nat) : Option (Ctl (Unit) (Bool)) :=
  (idx t (k14 : Int)).bind fun x30 =>
  if (((x30).length : Int) != ((t).length : Int)) = true then
    some (.ret false)
  else
    (forN (fun k s => p_spec_l03Cube_L2 x30 t k ) (t).length 0 ()).bind fun res40 => onRes res40 (fun r158 => some (.ret r158)) fun _ =>
    some (.next ())

def p_spec_l03Cube (t : (List (List (List Int)))) : Option (Bool) :=
  if ((decide (((t).length : Int) < (1 : Int))) || (decide (((t).length : Int) > (16 : Int)))) = true then
    some false
  else
    (forN (fun k s => p_spec_l03Cube_L1 t k ) (t).length 0 ()).bind fun res12 => onRes res12 (fun r176 => some r176) fun _ =>
    some true

def p_spec_l03Dual_L1 (t : (List (List (List Int)))) (i : Int) (k3 : Nat) (x4 : Int) : Option (Ctl (Int) (Int)) :=
  (idx t i).bind fun x23 =>
  (idx x23 (k3 : Int)).bind fun x30 =>
  (idx x30 (0 : Int)).bind fun x37 =>
  if ((x37 == (1 : Int)) && (decide (x4 < (0 : Int)))) = true then
    some (.next (k3 : Int))
  else
    if (x37 != (0 : Int)) = true then
      some (.ret (-1 : Int))
    else
      some (.next x4)

def p_spec_l03Dual (t : (List (List (List Int)))) (i : Int) : Option (Int) :=
  (forN (fun k s => p_spec_l03Dual_L1 t i k s) (t).length 0 (-1 : Int)).bind fun res1 => onRes res1 (fun r91 => some r91) fun (x87 : Int) =>
  some x87

def p_spec_l03Fault_L2 (k4 : Nat) (t : (List (List (List Int)))) (k22 : Nat) : Option (Ctl (Unit) ((List Int))) :=
  (if ((k4 : Int) == (k22 : Int)) = true then
    some (1 : Int)
  else
    some (0 : Int)).bind fun (x39 : Int) =>
  (idx t (0 : Int)).bind fun x52 =>
  (idx x52 (k4 : Int)).bind fun x59 =>
  (idx x59 (k22 : Int)).bind fun x66 =>
  (if (x66 != x39) = true then
    some true
  else
    (idx t (k4 : Int)).bind fun x79 =>
    (idx x79 (0 : Int)).bind fun x86 =>
    (idx x86 (k22 : Int)).bind fun x93 =>
    some (x93 != x39)).bind fun (x74 : Bool) =>
  if x74 = true then
    some (.ret ([(0 : Int), (k4 : Int), (k22 : Int)] : (List Int)))
  else
    some (.next ())

def p_spec_l03Fault_L1 (t : (List (List (List Int)))) (k4 : Nat) : Option (Ctl (Unit) ((List Int))) :=
  (forN (fun k s => p_spec_l03Fault_L2 k4 t k ) (t).length 0 ()).bind fun res20 => onRes res20 (fun r133 => some (.ret r133)) fun _ =>
  some (.next ())

def p_spec_l03Fault_L3 (t : (List (List (List Int)))) (k159 : Nat) (x160 : (List Int)) : Option (Ctl ((List Int)) (Unit)) :=
  (p_spec_l03Dual t (k159 : Int)).bind fun x178 =>
  (appL x160 ([x178] : (List Int))).bind fun x189 =>
  some (.next x189)

def p_spec_l03Fault_L4 (x214 : (List Int)) (k222 : Nat) : Option (Ctl (Unit) ((List Int))) :=
  (idx x214 (k222 : Int)).bind fun x239 =>
  (if (decide (x239 < (0 : Int))) = true then
    some true
  else
    (idx x214 x239).bind fun x255 =>
    some (x255 != (k222 : Int))).bind fun (x247 : Bool) =>
  if x247 = true then
    some (.ret ([(1 : Int), (k222 : Int)] : (List Int)))
  else
    some (.next ())

def p_spec_l03Fault_L7 (t : (List (List (List Int)))) (k297 : Nat) (k316 : Nat) (x214 : (List Int)) (k336 : Nat) : Option (Ctl (Unit) ((List Int))) :=
  (idx t (k297 : Int)).bind fun x384 =>
  (idx x384 (k316 : Int)).bind fun x423 =>
  (idx x423 (k336 : Int)).bind fun x462 =>
  (idx x214 (k297 : Int)).bind fun x515 =>
  (idx t x515).bind fun x547 =>
  (idx x547 (k336 : Int)).bind fun x586 =>
  (idx x586 (k316 : Int)).bind fun x625 =>
  (if (x462 != x625) = true then
    some true
  else
    (idx t (k336 : Int)).bind fun x1110 =>
    (idx x214 (k316 : Int)).bind fun x1172 =>
    (idx x1110 x1172).bind fun x1212 =>
    (idx x1212 (k297 : Int)).bind fun x1263 =>
    some (x462 != x1263)).bind fun (x668 : Bool) =>
  if x668 = true then
    some (.ret ([(2 : Int), (k297 : Int), (k316 : Int), (k336 : Int)] : (List Int)))
  else
    some (.next ())

def p_spec_l03Fault_L6 (t : (List (List (List Int)))) (k297 : Nat) (x214 : (List Int)) (k316 : Nat) : Option (Ctl (Unit) ((List Int))) :=
  (forN (fun k s => p_spec_l03Fault_L7 t k297 k316 x214 k ) (t).length 0 ()).bind fun res334 => onRes res334 (fun r1374 => some (.ret r1374)) fun _ =>
  some (.next ())

def p_spec_l03Fault_L5 (t : (List (List (List Int)))) (x214 : (List Int)) (k297 : Nat) : Option (Ctl (Unit) ((List Int))) :=
  (forN (fun k s => p_spec_l03Fault_L6 t k297 x214 k ) (t).length 0 ()).bind fun res314 => onRes res314 (fun r1398 => some (.ret r1398)) fun _ =>
  some (.next ())

def p_spec_l03Fault_L12 (t : (List (List (List Int)))) (k1421 : Nat) (k1439 : Nat) (k1458 : Nat) (k1478 : Nat) (k1499 : Nat) (x1500 : Int) (x1501 : Int) : Option (Ctl (Int × Int) (Unit)) :=
  (idx t (k1421 : Int)).bind fun x1561 =>
  (idx x1561 (k1439 : Int)).bind fun x1600 =>
  (idx x1600 (k1499 : Int)).bind fun x1639 =>
  (idx t (k1499 : Int)).bind fun x1685 =>
  (idx x1685 (k1458 : Int)).bind fun x1724 =>
  (idx x1724 (k1478 : Int)).bind fun x1763 =>
  (idx t (k1439 : Int)).bind fun x1853 =>
  (idx x1853 (k1458 : Int)).bind fun x1892 =>
  (idx x1892 (k1499 : Int)).bind fun x1931 =>
  (idx x1561 (k1499 : Int)).bind fun x2012 =>
  (idx x2012 (k1478 : Int)).bind fun x2051 =>
  some (.next ((w64 (x1500 + (w64 (x1639 * x1763)))), (w64 (x1501 + (w64 (x1931 * x2051))))))

def p_spec_l03Fault_L11 (t : (List (List (List Int)))) (k1421 : Nat) (k1439 : Nat) (k1458 : Nat) (k1478 : Nat) : Option (Ctl (Unit) ((List Int))) :=
  (forN (fun k s => p_spec_l03Fault_L12 t k1421 k1439 k1458 k1478 k s.1 s.2) (t).length 0 ((0 : Int), (0 : Int))).bind fun res1497 => onRes res1497 (fun r2150 => none) fun (s2130p : Int × Int) =>
  if (s2130p.1 != s2130p.2) = true then
    some (.ret ([(3 : Int), (k1421 : Int), (k1439 : Int), (k1458 : Int), (k1478 : Int)] : (List Int)))
  else
    some (.next ())

def p_spec_l03Fault_L10 (t : (List (List (List Int)))) (k1421 : Nat) (k1439 : Nat) (k1458 : Nat) : Option (Ctl (Unit) ((List Int))) :=
  (forN (fun k s => p_spec_l03Fault_L11 t k1421 k1439 k1458 k ) (t).length 0 ()).bind fun res1476 => onRes res1476 (fun r2176 => some (.ret r2176)) fun _ =>
  some (.next ())

def p_spec_l03Fault_L9 (t : (List (List (List Int)))) (k1421 : Nat) (k1439 : Nat) : Option (Ctl (Unit) ((List Int))) :=
  (forN (fun k s => p_spec_l03Fault_L10 t k1421 k1439 k ) (t).length 0 ()).bind fun res1456 => onRes res1456 (fun r2200 => some (.ret r2200)) fun _ =>
  some (.next ())

def p_spec_l03Fault_L8 (t : (List (List (List Int)))) (k1421 : Nat) : Option (Ctl (Unit) ((List Int))) :=
  (forN (fun k s => p_spec_l03Fault_L9 t k1421 k ) (t).length 0 ()).bind fun res1437 => onRes res1437 (fun r2222 => some (.ret r2222)) fun _ =>
  some (.next ())

def p_spec_l03Fault (t : (List (List (List Int)))) : Option ((List Int)) :=
  (forN (fun k s => p_spec_l03Fault_L1 t k ) (t).length 0 ()).bind fun res2 => onRes res2 (fun r2244 => some r2244) fun _ =>
  (forN (fun k s => p_spec_l03Fault_L3 t k s) (t).length 0 ([] : (List Int))).bind fun res157 => onRes res157 (fun r2243 => none) fun (x214 : (List Int)) =>
  (forN (fun k s => p_spec_l03Fault_L4 x214 k ) (t).length 0 ()).bind fun res220 => onRes res220 (fun r2242 => some r2242) fun _ =>
  (forN (fun k s => p_spec_l03Fault_L5 t x214 k ) (t).length 0 ()).bind fun res295 => onRes res295 (fun r2241 => some r2241) fun _ =>
  (forN (fun k s => p_spec_l03Fault_L8 t k ) (t).length 0 ()).bind fun res1419 => onRes res1419 (fun r2240 => some r2240) fun _ =>
  some ([] : (List Int))

def p_spec_l03Is (r_Table : (List (List (List Int)))) : Option (Bool) :=
  (p_spec_l03Cube r_Table).bind fun x9 =>
  (if x9 = true then
    (p_spec_l03Fault r_Table).bind fun x21 =>
    some (((x21).length : Int) == (0 : Int))
  else
    some false).bind fun (x16 : Bool) =>
  some x16

def p_spec_l01Same_L1 (a : (List Int)) (b : (List Int)) (k7 : Nat) : Option (Ctl (Unit) (Bool)) :=
  (idx a (k7 : Int)).bind fun x53 =>
  (idx b (k7 : Int)).bind fun x99 =>
  if (x53 != x99) = true then
    some (.ret false)
  else
    some (.next ())

def p_spec_l01Same (a : (List Int)) (b : (List Int)) : Option (Bool) :=
  if (((a).length : Int) != ((b).length : Int)) = true then
    some false
  else
    (forN (fun k s => p_spec_l01Same_L1 a b k ) (a).length 0 ()).bind fun res5 => onRes res5 (fun r152 => some r152) fun _ =>
    some true

def p_spec_l03Commutative_L2 (r_Table : (List (List (List Int)))) (k11 : Nat) (k29 : Nat) : Option (Ctl (Unit) (Bool)) :=
  (idx r_Table (k11 : Int)).bind fun x84 =>
  (idx x84 (k29 : Int)).bind fun x123 =>
  (idx r_Table (k29 : Int)).bind fun x179 =>
  (idx x179 (k11 : Int)).bind fun x218 =>
  (p_spec_l01Same x123 x218).bind fun x249 =>
  if (!x249) = true then
    some (.ret false)
  else
    some (.next ())

def p_spec_l03Commutative_L1 (r_Table : (List (List (List Int)))) (k11 : Nat) : Option (Ctl (Unit) (Bool)) :=
  (forN (fun k s => p_spec_l03Commutative_L2 r_Table k11 k ) ((k11 : Int)).toNat 0 ()).bind fun res27 => onRes res27 (fun r276 => some (.ret r276)) fun _ =>
  some (.next ())

def p_spec_l03Commutative (r_Table : (List (List (List Int)))) : Option (Bool) :=
  (forN (fun k s => p_spec_l03Commutative_L1 r_Table k ) (r_Table).length 0 ()).bind fun res9 => onRes res9 (fun r294 => some r294) fun _ =>
  some true

def p_spec_l08Code (r_Table : (List (List (List Int)))) : Option (Int) :=
  (p_spec_l03Is r_Table).bind fun x9 =>
  if (!x9) = true then
    some (1 : Int)
  else
    (p_spec_l03Commutative r_Table).bind fun x17 =>
    if (!x17) = true then
      some (5 : Int)
    else
      some (0 : Int)

def p_spec_l15Labels_L1 (labels : (List Int)) (n : Int) (k3 : Nat) : Option (Ctl (Unit) (Bool)) :=
  (idx labels (k3 : Int)).bind fun x20 =>
  (p_spec_l01In x20 (0 : Int) (w64 (n - (1 : Int)))).bind fun x27 =>
  if (!x27) = true then
    some (.ret false)
  else
    some (.next ())

def p_spec_l15Labels (n : Int) (labels : (List Int)) : Option (Bool) :=
  (forN (fun k s => p_spec_l15Labels_L1 labels n k ) (labels).length 0 ()).bind fun res1 => onRes res1 (fun r55 => some r55) fun _ =>
  some (decide (((labels).length : Int) ≤ (8 : Int)))

def p_spec_l03One (r_Table : (List (List (List Int)))) (i : Int) : Option ((List Int)) :=
  (mkL ((r_Table).length : Int) (0 : Int)).bind fun x10 =>
  (idx x10 i).bind fun x16 =>
  some ((x10).set (i).toNat (1 : Int))

def p_spec_l03Duals_L1 (r_Table : (List (List (List Int)))) (k15 : Nat) (x16 : (List Int)) : Option (Ctl ((List Int)) (Unit)) :=
  (p_spec_l03Dual r_Table (k15 : Int)).bind fun x34 =>
  (appL x16 ([x34] : (List Int))).bind fun x45 =>
  some (.next x45)

def p_spec_l03Duals (r_Table : (List (List (List Int)))) : Option ((List Int)) :=
  (forN (fun k s => p_spec_l03Duals_L1 r_Table k s) (r_Table).length 0 ([] : (List Int))).bind fun res13 => onRes res13 (fun r74 => none) fun (x70 : (List Int)) =>
  some x70

def p_spec_l15Handle_L2 (r_Table : (List (List (List Int)))) (k107 : Nat) (x26 : (List Int)) (k128 : Nat) (x129 : (List Int)) : Option (Ctl ((List Int)) (Unit)) :=
  (idx x129 (k128 : Int)).bind fun x192 =>
  (idx r_Table (k107 : Int)).bind fun x248 =>
  (idx x26 (k107 : Int)).bind fun x294 =>
  (idx x248 x294).bind fun x326 =>
  (idx x326 (k128 : Int)).bind fun x365 =>
  some (.next ((x129).set ((k128 : Int)).toNat (w64 (x192 + x365))))

def p_spec_l15Handle_L1 (r_Table : (List (List (List Int)))) (x26 : (List Int)) (k107 : Nat) (x108 : (List Int)) : Option (Ctl ((List Int)) (Unit)) :=
  (forN (fun k s => p_spec_l15Handle_L2 r_Table k107 x26 k s) (x108).length 0 x108).bind fun res126 => onRes res126 (fun r447 => none) fun (x440 : (List Int)) =>
  some (.next x440)

def p_spec_l15Handle (r_Table : (List (List (List Int)))) : Option ((List Int)) :=
  (p_spec_l03Duals r_Table).bind fun x26 =>
  (mkL ((r_Table).length : Int) (0 : Int)).bind fun x71 =>
  (forN (fun k s => p_spec_l15Handle_L1 r_Table x26 k s) (r_Table).length 0 x71).bind fun res105 => onRes res105 (fun r470 => none) fun (x467 : (List Int)) =>
  some x467

def p_spec_l15Times_L3 (x : (List Int)) (k18 : Nat) (y : (List Int)) (k40 : Nat) (r_Table : (List (List (List Int)))) (x64 : (List Int)) (x65 : Int) : Option (Ctl ((List Int) × Int) ((List Int) × Bool)) :=
  (if (decide (x65 < ((x64).length : Int))) = true then
    (idx x (k18 : Int)).bind fun x90 =>
    some (x90 != (0 : Int))
  else
    some false).bind fun (x85 : Bool) =>
  (if x85 = true then
    (idx y (k40 : Int)).bind fun x112 =>
    some (x112 != (0 : Int))
  else
    some false).bind fun (x107 : Bool) =>
  if x107 = true then
    (idx r_Table (k18 : Int)).bind fun x130 =>
    (idx x130 (k40 : Int)).bind fun x137 =>
    (idx x137 x65).bind fun x144 =>
    if (x144 == (0 : Int)) = true then
      some (.next (x64, (w64 (x65 + (1 : Int)))))
    else
      (idx x (k18 : Int)).bind fun x182 =>
      (idx y (k40 : Int)).bind fun x228 =>
      (quoI .i64 (1000000000000 : Int) (w64 (x228 * x144))).bind fun x279 =>
      if (decide (x182 > x279)) = true then
        some (.ret (([] : (List Int)), false))
      else
        (idx x64 x65).bind fun x349 =>
        (idx ((x64).set (x65).toNat (w64 (x349 + (w64 ((w64 (x182 * x228)) * x144))))) x65).bind fun x528 =>
        if (decide (x528 > (1000000000000 : Int))) = true then
          some (.ret (([] : (List Int)), false))
        else
          some (.next (((x64).set (x65).toNat (w64 (x349 + (w64 ((w64 (x182 * x228)) * x144))))), (w64 (x65 + (1 : Int)))))
  else
    some (.brk (x64, x65))

def p_spec_l15Times_L2 (x : (List Int)) (k18 : Nat) (y : (List Int)) (r_Table : (List (List (List Int)))) (k40 : Nat) (x41 : (List Int)) : Option (Ctl ((List Int)) ((List Int) × Bool)) :=
  (whileC (fun s => p_spec_l15Times_L3 x k18 y k40 r_Table s.1 s.2) (x41, (0 : Int))).bind fun res61 => onRes res61 (fun r551 => some (.ret r551)) fun (s541p : (List Int) × Int) =>
  some (.next s541p.1)

def p_spec_l15Times_L1 (x : (List Int)) (y : (List Int)) (r_Table : (List (List (List Int)))) (k18 : Nat) (x19 : (List Int)) : Option (Ctl ((List Int)) ((List Int) × Bool)) :=
  (forN (fun k s => p_spec_l15Times_L2 x k18 y r_Table k s) (y).length 0 x19).bind fun res38 => onRes res38 (fun r580 => some (.ret r580)) fun (x573 : (List Int)) =>
  some (.next x573)

def p_spec_l15Times (r_Table : (List (List (List Int)))) (x : (List Int)) (y : (List Int)) : Option ((List Int) × Bool) :=
  (mkL ((x).length : Int) (0 : Int)).bind fun x10 =>
  (forN (fun k s => p_spec_l15Times_L1 x y r_Table k s) (x).length 0 x10).bind fun res16 => onRes res16 (fun r604 => some r604) fun (x601 : (List Int)) =>
  some (x601, true)

def p_spec_l15Number_L1 (labels : (List Int)) (r_Table : (List (List (List Int)))) (k63 : Nat) (x64 : (List Int)) : Option (Ctl ((List Int)) (Int × Bool)) :=
  (idx labels (k63 : Int)).bind fun x135 =>
  (p_spec_l03One r_Table x135).bind fun x167 =>
  (p_spec_l15Times r_Table x64 x167).bind fun x191 =>
  if (!x191.2) = true then
    some (.ret ((0 : Int), false))
  else
    some (.next x191.1)

def p_spec_l15Number_L2 (r_Table : (List (List (List Int)))) (x54 : (List Int)) (x312 : (List Int)) (x313 : Int) : Option (Ctl ((List Int) × Int) (Int × Bool)) :=
  if (decide (x313 > (0 : Int))) = true then
    (p_spec_l15Times r_Table x312 x54).bind fun x331 =>
    if (!x331.2) = true then
      some (.ret ((0 : Int), false))
    else
      some (.next (x331.1, (w64 (x313 - (1 : Int)))))
  else
    some (.brk (x312, x313))

def p_spec_l15Number (r_Table : (List (List (List Int)))) (genus : Int) (labels : (List Int)) : Option (Int × Bool) :=
  (p_spec_l03One r_Table (0 : Int)).bind fun x26 =>
  (p_spec_l15Handle r_Table).bind fun x54 =>
  (forN (fun k s => p_spec_l15Number_L1 labels r_Table k s) (labels).length 0 x26).bind fun res61 => onRes res61 (fun r358 => some r358) fun (x302 : (List Int)) =>
  (whileC (fun s => p_spec_l15Number_L2 r_Table x54 s.1 s.2) (x302, genus)).bind fun res309 => onRes res309 (fun r357 => some r357) fun (s344p : (List Int) × Int) =>
  (idx s344p.1 (0 : Int)).bind fun x350 =>
  some (x350, true)

def p_impl_within (n : Int) (low : Int) (high : Int) : Option (Bool) :=
  some ((decide (n ≥ low)) && (decide (n ≤ high)))

def p_impl_allWithin_c1 (n : Int) (c0 : Int) (c1 : Int) : Option (Bool) :=
  (p_impl_within n c0 c1).bind fun x1 =>
  some (!x1)

def p_slices_IndexFunc_Lint64_int64_L1 (s1 : (List Int)) (f1 : (Int → Option Bool)) (k4 : Nat) : Option (Ctl (Unit) (Int)) :=
  (idx s1 (k4 : Int)).bind fun x21 =>
  (f1 x21).bind fun x28 =>
  if x28 = true then
    some (.ret (k4 : Int))
  else
    some (.next ())

def p_slices_IndexFunc_Lint64_int64 (s1 : (List Int)) (f1 : Int → Option Bool) : Option (Int) :=
  (forN (fun k s => p_slices_IndexFunc_Lint64_int64_L1 s1 f1 k ) (s1).length 0 ()).bind fun res2 => onRes res2 (fun r54 => some r54) fun _ =>
  some (-1 : Int)

def p_slices_ContainsFunc_Lint64_int64 (s1 : (List Int)) (f1 : Int → Option Bool) : Option (Bool) :=
  (p_slices_IndexFunc_Lint64_int64 s1 f1).bind fun x1 =>
  some (decide (x1 ≥ (0 : Int)))

def p_impl_allWithin (list : (List Int)) (low : Int) (high : Int) : Option (Bool) :=
  (p_slices_ContainsFunc_Lint64_int64 list (fun a0_19 => p_impl_allWithin_c1 a0_19 low high)).bind fun x22 =>
  some (!x22)

def p_impl_isCube_c1 (row : (List Int)) (c0 : Int) : Option (Bool) :=
  (if (((row).length : Int) != c0) = true then
    some true
  else
    (p_impl_allWithin row (0 : Int) (1000 : Int)).bind fun x8 =>
    some (!x8)).bind fun (x3 : Bool) =>
  some x3

def p_slices_IndexFunc_LLint64_Lint64_L1 (s1 : (List (List Int))) (f1 : ((List Int) → Option Bool)) (k4 : Nat) : Option (Ctl (Unit) (Int)) :=
  (idx s1 (k4 : Int)).bind fun x21 =>
  (f1 x21).bind fun x28 =>
  if x28 = true then
    some (.ret (k4 : Int))
  else
    some (.next ())

def p_slices_IndexFunc_LLint64_Lint64 (s1 : (List (List Int))) (f1 : (List Int) → Option Bool) : Option (Int) :=
  (forN (fun k s => p_slices_IndexFunc_LLint64_Lint64_L1 s1 f1 k ) (s1).length 0 ()).bind fun res2 => onRes res2 (fun r54 => some r54) fun _ =>
  some (-1 : Int)

def p_slices_ContainsFunc_LLint64_Lint64 (s1 : (List (List Int))) (f1 : (List Int) → Option Bool) : Option (Bool) :=
  (p_slices_IndexFunc_LLint64_Lint64 s1 f1).bind fun x1 =>
  some (decide (x1 ≥ (0 : Int)))

def p_impl_isCube_L1 (r_Table : (List (List (List Int)))) (k19 : Nat) : Option (Ctl (Unit) (Bool)) :=
  (idx r_Table (k19 : Int)).bind fun x36 =>
  (if (((x36).length : Int) != ((r_Table).length : Int)) = true then
    some true
  else
    (p_slices_ContainsFunc_LLint64_Lint64 x36 (fun a0_51 => p_impl_isCube_c1 a0_51 ((r_Table).length : Int))).bind fun x54 =>
    some x54).bind fun (x45 : Bool) =>
  if x45 = true then
    some (.ret false)
  else
    some (.next ())

def p_impl_isCube (r_Table : (List (List (List Int)))) : Option (Bool) :=
  (forN (fun k s => p_impl_isCube_L1 r_Table k ) (r_Table).length 0 ()).bind fun res17 => onRes res17 (fun r93 => some r93) fun _ =>
  some ((decide (((r_Table).length : Int) ≥ (1 : Int))) && (decide (((r_Table).length : Int) ≤ (16 : Int))))

def p_impl_delta (i : Int) (k1 : Int) : Option (Int) :=
  if (i == k1) = true then
    some (1 : Int)
  else
    some (0 : Int)

def p_impl_Ring_unitFault_L2 (r_Table : (List (List (List Int)))) (k12 : Nat) (k31 : Nat) : Option (Ctl (Unit) ((List Int))) :=
  (idx r_Table (0 : Int)).bind fun x77 =>
  (idx x77 (k12 : Int)).bind fun x116 =>
  (idx x116 (k31 : Int)).bind fun x155 =>
  (p_impl_delta (k12 : Int) (k31 : Int)).bind fun x202 =>
  (if (x155 != x202) = true then
    some true
  else
    (idx r_Table (k12 : Int)).bind fun x439 =>
    (idx x439 (0 : Int)).bind fun x474 =>
    (idx x474 (k31 : Int)).bind fun x525 =>
    (p_impl_delta (k12 : Int) (k31 : Int)).bind fun x588 =>
    some (x525 != x588)).bind fun (x234 : Bool) =>
  if x234 = true then
    some (.ret ([(0 : Int), (k12 : Int), (k31 : Int)] : (List Int)))
  else
    some (.next ())

def p_impl_Ring_unitFault_L1 (r_Table : (List (List (List Int)))) (k12 : Nat) : Option (Ctl (Unit) ((List Int))) :=
  (forN (fun k s => p_impl_Ring_unitFault_L2 r_Table k12 k ) (r_Table).length 0 ()).bind fun res29 => onRes res29 (fun r671 => some (.ret r671)) fun _ =>
  some (.next ())

def p_impl_Ring_unitFault (r_Table : (List (List (List Int)))) : Option ((List Int)) :=
  (forN (fun k s => p_impl_Ring_unitFault_L1 r_Table k ) (r_Table).length 0 ()).bind fun res10 => onRes res10 (fun r689 => some r689) fun _ =>
  some ([] : (List Int))

def p_impl_Ring_onlyOf_L1 (x9 : (List (List Int))) (k19 : Nat) (x20 : Int) : Option (Ctl (Int) (Int)) :=
  (idx x9 (k19 : Int)).bind fun x38 =>
  (idx x38 (0 : Int)).bind fun x45 =>
  if (x45 == (0 : Int)) = true then
    some (.next x20)
  else
    if ((decide (x20 ≥ (0 : Int))) || (x45 != (1 : Int))) = true then
      some (.ret (-1 : Int))
    else
      some (.next (k19 : Int))

def p_impl_Ring_onlyOf (r_Table : (List (List (List Int)))) (i : Int) : Option (Int) :=
  (idx r_Table i).bind fun x9 =>
  (forN (fun k s => p_impl_Ring_onlyOf_L1 x9 k s) (x9).length 0 (-1 : Int)).bind fun res17 => onRes res17 (fun r92 => some r92) fun (x88 : Int) =>
  some x88

def p_impl_Ring_dualFault_L1 (r_Table : (List (List (List Int)))) (k12 : Nat) : Option (Ctl (Unit) (Int)) :=
  (p_impl_Ring_onlyOf r_Table (k12 : Int)).bind fun x28 =>
  (if (decide (x28 < (0 : Int))) = true then
    some true
  else
    (p_impl_Ring_onlyOf r_Table x28).bind fun x41 =>
    some (x41 != (k12 : Int))).bind fun (x36 : Bool) =>
  if x36 = true then
    some (.ret (k12 : Int))
  else
    some (.next ())

def p_impl_Ring_dualFault (r_Table : (List (List (List Int)))) : Option (Int) :=
  (forN (fun k s => p_impl_Ring_dualFault_L1 r_Table k ) (r_Table).length 0 ()).bind fun res10 => onRes res10 (fun r73 => some r73) fun _ =>
  some (-1 : Int)

def p_impl_Ring_duals_L1 (r_Table : (List (List (List Int)))) (k16 : Nat) (x17 : (List Int)) : Option (Ctl ((List Int)) (Unit)) :=
  (p_impl_Ring_onlyOf r_Table (k16 : Int)).bind fun x35 =>
  (appL x17 ([x35] : (List Int))).bind fun x46 =>
  some (.next x46)

def p_impl_Ring_duals (r_Table : (List (List (List Int)))) : Option ((List Int)) :=
  (forN (fun k s => p_impl_Ring_duals_L1 r_Table k s) (r_Table).length 0 ([] : (List Int))).bind fun res14 => onRes res14 (fun r75 => none) fun (x71 : (List Int)) =>
  some x71

def p_impl_Ring_turnFault_L3 (r_Table : (List (List (List Int)))) (k23 : Nat) (k43 : Nat) (x9 : (List Int)) (k66 : Nat) : Option (Ctl (Unit) ((List Int))) :=
  (idx r_Table (k23 : Int)).bind fun x89 =>
  (idx x89 (k43 : Int)).bind fun x96 =>
  (idx x96 (k66 : Int)).bind fun x103 =>
  (idx x9 (k23 : Int)).bind fun x163 =>
  (idx r_Table x163).bind fun x195 =>
  (idx x195 (k66 : Int)).bind fun x234 =>
  (idx x234 (k43 : Int)).bind fun x273 =>
  (if (x103 != x273) = true then
    some true
  else
    (idx r_Table (k66 : Int)).bind fun x556 =>
    (idx x9 (k43 : Int)).bind fun x618 =>
    (idx x556 x618).bind fun x658 =>
    (idx x658 (k23 : Int)).bind fun x709 =>
    some (x103 != x709)).bind fun (x316 : Bool) =>
  if x316 = true then
    some (.ret ([(2 : Int), (k23 : Int), (k43 : Int), (k66 : Int)] : (List Int)))
  else
    some (.next ())

def p_impl_Ring_turnFault_L2 (r_Table : (List (List (List Int)))) (k23 : Nat) (x9 : (List Int)) (k43 : Nat) : Option (Ctl (Unit) ((List Int))) :=
  (forN (fun k s => p_impl_Ring_turnFault_L3 r_Table k23 k43 x9 k ) (r_Table).length 0 ()).bind fun res64 => onRes res64 (fun r825 => some (.ret r825)) fun _ =>
  some (.next ())

def p_impl_Ring_turnFault_L1 (r_Table : (List (List (List Int)))) (x9 : (List Int)) (k23 : Nat) : Option (Ctl (Unit) ((List Int))) :=
  (forN (fun k s => p_impl_Ring_turnFault_L2 r_Table k23 x9 k ) (r_Table).length 0 ()).bind fun res41 => onRes res41 (fun r851 => some (.ret r851)) fun _ =>
  some (.next ())

def p_impl_Ring_turnFault (r_Table : (List (List (List Int)))) : Option ((List Int)) :=
  (p_impl_Ring_duals r_Table).bind fun x9 =>
  (forN (fun k s => p_impl_Ring_turnFault_L1 r_Table x9 k ) (r_Table).length 0 ()).bind fun res21 => onRes res21 (fun r870 => some r870) fun _ =>
  some ([] : (List Int))

def p_impl_Ring_bracketFault_L5 (x29 : (List (List Int))) (k39 : Nat) (r_Table : (List (List (List Int)))) (k71 : Nat) (k100 : Nat) (x61 : (List (List Int))) (k132 : Nat) (x133 : Int) (x134 : Int) : Option (Ctl (Int × Int) (Unit)) :=
  (idx x29 (k39 : Int)).bind fun x206 =>
  (idx x206 (k132 : Int)).bind fun x245 =>
  (idx r_Table (k132 : Int)).bind fun x301 =>
  (idx x301 (k71 : Int)).bind fun x340 =>
  (idx x340 (k100 : Int)).bind fun x379 =>
  (idx x61 (k71 : Int)).bind fun x482 =>
  (idx x482 (k132 : Int)).bind fun x521 =>
  (idx x29 (k132 : Int)).bind fun x567 =>
  (idx x567 (k100 : Int)).bind fun x606 =>
  some (.next ((w64 (x133 + (w64 (x245 * x379)))), (w64 (x134 + (w64 (x521 * x606))))))

def p_impl_Ring_bracketFault_L4 (x29 : (List (List Int))) (k39 : Nat) (r_Table : (List (List (List Int)))) (k71 : Nat) (x61 : (List (List Int))) (k12 : Nat) (k100 : Nat) : Option (Ctl (Unit) ((List Int))) :=
  (forN (fun k s => p_impl_Ring_bracketFault_L5 x29 k39 r_Table k71 k100 x61 k s.1 s.2) (r_Table).length 0 ((0 : Int), (0 : Int))).bind fun res130 => onRes res130 (fun r740 => none) fun (s709p : Int × Int) =>
  if (s709p.1 != s709p.2) = true then
    some (.ret ([(3 : Int), (k12 : Int), (k39 : Int), (k71 : Int), (k100 : Int)] : (List Int)))
  else
    some (.next ())

def p_impl_Ring_bracketFault_L3 (x29 : (List (List Int))) (k39 : Nat) (r_Table : (List (List (List Int)))) (x61 : (List (List Int))) (k12 : Nat) (k71 : Nat) : Option (Ctl (Unit) ((List Int))) :=
  (forN (fun k s => p_impl_Ring_bracketFault_L4 x29 k39 r_Table k71 x61 k12 k ) (r_Table).length 0 ()).bind fun res98 => onRes res98 (fun r784 => some (.ret r784)) fun _ =>
  some (.next ())

def p_impl_Ring_bracketFault_L2 (r_Table : (List (List (List Int)))) (x29 : (List (List Int))) (k12 : Nat) (k39 : Nat) : Option (Ctl (Unit) ((List Int))) :=
  (idx r_Table (k39 : Int)).bind fun x61 =>
  (forN (fun k s => p_impl_Ring_bracketFault_L3 x29 k39 r_Table x61 k12 k ) (r_Table).length 0 ()).bind fun res69 => onRes res69 (fun r821 => some (.ret r821)) fun _ =>
  some (.next ())

def p_impl_Ring_bracketFault_L1 (r_Table : (List (List (List Int)))) (k12 : Nat) : Option (Ctl (Unit) ((List Int))) :=
  (idx r_Table (k12 : Int)).bind fun x29 =>
  (forN (fun k s => p_impl_Ring_bracketFault_L2 r_Table x29 k12 k ) (r_Table).length 0 ()).bind fun res37 => onRes res37 (fun r849 => some (.ret r849)) fun _ =>
  some (.next ())

def p_impl_Ring_bracketFault (r_Table : (List (List (List Int)))) : Option ((List Int)) :=
  (forN (fun k s => p_impl_Ring_bracketFault_L1 r_Table k ) (r_Table).length 0 ()).bind fun res10 => onRes res10 (fun r868 => some r868) fun _ =>
  some ([] : (List Int))

def p_impl_Ring_fault (r_Table : (List (List (List Int)))) : Option ((List Int)) :=
  (p_impl_Ring_unitFault r_Table).bind fun x9 =>
  if (!(x9).isEmpty) = true then
    some x9
  else
    (p_impl_Ring_dualFault r_Table).bind fun x19 =>
    if (decide (x19 ≥ (0 : Int))) = true then
      some ([(1 : Int), x19] : (List Int))
    else
      (p_impl_Ring_turnFault r_Table).bind fun x32 =>
      if (!(x32).isEmpty) = true then
        some x32
      else
        (p_impl_Ring_bracketFault r_Table).bind fun x42 =>
        some x42

def p_impl_IsRing (r_Table : (List (List (List Int)))) : Option (Bool) :=
  (p_impl_isCube r_Table).bind fun x9 =>
  (if x9 = true then
    (p_impl_Ring_fault r_Table).bind fun x21 =>
    some (x21).isEmpty
  else
    some false).bind fun (x16 : Bool) =>
  some x16

def p_slices_Clone_Lint64_int64 (s1 : (List Int)) : Option ((List Int)) :=
  (appL ([] : (List Int)) s1).bind fun x6 =>
  some x6

def p_impl_Ring_opposite_L2 (r_Table : (List (List (List Int)))) (k23 : Nat) (k50 : Nat) (x51 : (List (List Int))) : Option (Ctl ((List (List Int))) (Unit)) :=
  (idx r_Table (k50 : Int)).bind fun x74 =>
  (idx x74 (k23 : Int)).bind fun x81 =>
  (p_slices_Clone_Lint64_int64 x81).bind fun x88 =>
  (appL x51 [x88]).bind fun x101 =>
  some (.next x101)

def p_impl_Ring_opposite_L1 (r_Table : (List (List (List Int)))) (k23 : Nat) (x24 : (List (List (List Int)))) : Option (Ctl ((List (List (List Int)))) (Unit)) :=
  (forN (fun k s => p_impl_Ring_opposite_L2 r_Table k23 k s) (r_Table).length 0 ([] : (List (List Int)))).bind fun res48 => onRes res48 (fun r154 => none) fun (x131 : (List (List Int))) =>
  (appL x24 [x131]).bind fun x146 =>
  some (.next x146)

def p_impl_Ring_opposite (r_Table : (List (List (List Int)))) : Option ((List (List (List Int)))) :=
  (forN (fun k s => p_impl_Ring_opposite_L1 r_Table k s) (r_Table).length 0 ([] : (List (List (List Int))))).bind fun res21 => onRes res21 (fun r182 => none) fun (x175 : (List (List (List Int)))) =>
  some x175

def p_slices_EqualFunc_LLLint64_LLLint64_LLint64_LLint64_L1 (s1 : (List (List (List Int)))) (s2 : (List (List (List Int)))) (eq : ((List (List Int)) → (List (List Int)) → Option Bool)) (k8 : Nat) : Option (Ctl (Unit) (Bool)) :=
  (idx s1 (k8 : Int)).bind fun x26 =>
  (idx s2 (k8 : Int)).bind fun x33 =>
  (eq x26 x33).bind fun x40 =>
  if (!x40) = true then
    some (.ret false)
  else
    some (.next ())

def p_slices_EqualFunc_LLLint64_LLLint64_LLint64_LLint64 (s1 : (List (List (List Int)))) (s2 : (List (List (List Int)))) (eq : (List (List Int)) → (List (List Int)) → Option Bool) : Option (Bool) :=
  if (((s1).length : Int) != ((s2).length : Int)) = true then
    some false
  else
    (forN (fun k s => p_slices_EqualFunc_LLLint64_LLLint64_LLint64_LLint64_L1 s1 s2 eq k ) (s1).length 0 ()).bind fun res6 => onRes res6 (fun r67 => some r67) fun _ =>
    some true

def p_slices_EqualFunc_LLint64_LLint64_Lint64_Lint64_L1 (s1 : (List (List Int))) (s2 : (List (List Int))) (eq : ((List Int) → (List Int) → Option Bool)) (k8 : Nat) : Option (Ctl (Unit) (Bool)) :=
  (idx s1 (k8 : Int)).bind fun x26 =>
  (idx s2 (k8 : Int)).bind fun x33 =>
  (eq x26 x33).bind fun x40 =>
  if (!x40) = true then
    some (.ret false)
  else
    some (.next ())

def p_slices_EqualFunc_LLint64_LLint64_Lint64_Lint64 (s1 : (List (List Int))) (s2 : (List (List Int))) (eq : (List Int) → (List Int) → Option Bool) : Option (Bool) :=
  if (((s1).length : Int) != ((s2).length : Int)) = true then
    some false
  else
    (forN (fun k s => p_slices_EqualFunc_LLint64_LLint64_Lint64_Lint64_L1 s1 s2 eq k ) (s1).length 0 ()).bind fun res6 => onRes res6 (fun r67 => some r67) fun _ =>
    some true

def p_slices_Equal_Lint64_int64_L1 (s1 : (List Int)) (s2 : (List Int)) (k8 : Nat) : Option (Ctl (Unit) (Bool)) :=
  (idx s1 (k8 : Int)).bind fun x54 =>
  (idx s2 (k8 : Int)).bind fun x100 =>
  if (x54 != x100) = true then
    some (.ret false)
  else
    some (.next ())

def p_slices_Equal_Lint64_int64 (s1 : (List Int)) (s2 : (List Int)) : Option (Bool) :=
  if (((s1).length : Int) != ((s2).length : Int)) = true then
    some false
  else
    (forN (fun k s => p_slices_Equal_Lint64_int64_L1 s1 s2 k ) (s1).length 0 ()).bind fun res6 => onRes res6 (fun r154 => some r154) fun _ =>
    some true

def p_impl_equalTables_c1 (x : (List (List Int))) (y : (List (List Int))) : Option (Bool) :=
  (p_slices_EqualFunc_LLint64_LLint64_Lint64_Lint64 x y (fun a0_2 a1_2 => p_slices_Equal_Lint64_int64 a0_2 a1_2)).bind fun x5 =>
  some x5

def p_impl_equalTables (a : (List (List (List Int)))) (b : (List (List (List Int)))) : Option (Bool) :=
  (p_slices_EqualFunc_LLLint64_LLLint64_LLint64_LLint64 a b (fun a0_2 a1_2 => p_impl_equalTables_c1 a0_2 a1_2)).bind fun x5 =>
  some x5

def p_impl_Ring_isCommutative (r_Table : (List (List (List Int)))) : Option (Bool) :=
  (p_impl_Ring_opposite r_Table).bind fun x43 =>
  (p_impl_equalTables r_Table x43).bind fun x71 =>
  some x71

def p_impl_commuteCode (r_Table : (List (List (List Int)))) : Option (Int) :=
  (p_impl_IsRing r_Table).bind fun x9 =>
  if (!x9) = true then
    some (1 : Int)
  else
    (p_impl_Ring_isCommutative r_Table).bind fun x17 =>
    if (!x17) = true then
      some (5 : Int)
    else
      some (0 : Int)

def p_impl_Ring_areLabels (r_Table : (List (List (List Int)))) (list : (List Int)) : Option (Bool) :=
  (p_impl_allWithin list (0 : Int) (w64 (((r_Table).length : Int) - (1 : Int)))).bind fun x10 =>
  some x10

def p_impl_Ring_vectorOf (r_Table : (List (List (List Int)))) (i : Int) : Option ((List Int)) :=
  (mkL ((r_Table).length : Int) (0 : Int)).bind fun x10 =>
  (idx x10 i).bind fun x16 =>
  if (((x10).set (i).toNat (1 : Int))).isEmpty = true then
    none
  else
    some ((x10).set (i).toNat (1 : Int))

def p_impl_Ring_limitedProduct_L3 (x88 : (List Int)) (x74 : Int) (x39 : Int) (k98 : Nat) (x99 : (List Int)) : Option (Ctl ((List Int)) ((List Int))) :=
  (idx x88 (k98 : Int)).bind fun x127 =>
  (if (decide ((w64 (x74 * x127)) > (0 : Int))) = true then
    (quoI .i64 (1000000000000 : Int) (w64 (x74 * x127))).bind fun x140 =>
    some (decide (x39 > x140))
  else
    some false).bind fun (x135 : Bool) =>
  if x135 = true then
    some (.ret ([] : (List Int)))
  else
    (idx x99 (k98 : Int)).bind fun x165 =>
    (idx ((x99).set ((k98 : Int)).toNat (w64 (x165 + (w64 ((w64 (x39 * x74)) * x127))))) (k98 : Int)).bind fun x174 =>
    if (decide (x174 > (1000000000000 : Int))) = true then
      some (.ret ([] : (List Int)))
    else
      some (.next ((x99).set ((k98 : Int)).toNat (w64 (x165 + (w64 ((w64 (x39 * x74)) * x127))))))

def p_impl_Ring_limitedProduct_L2 (y : (List Int)) (r_Table : (List (List (List Int)))) (k19 : Nat) (x39 : Int) (k49 : Nat) (x50 : (List Int)) : Option (Ctl ((List Int)) ((List Int))) :=
  (idx y (k49 : Int)).bind fun x74 =>
  (idx r_Table (k19 : Int)).bind fun x81 =>
  (idx x81 (k49 : Int)).bind fun x88 =>
  (forN (fun k s => p_impl_Ring_limitedProduct_L3 x88 x74 x39 k s) (x88).length 0 x50).bind fun res96 => onRes res96 (fun r225 => some (.ret r225)) fun (x212 : (List Int)) =>
  some (.next x212)

def p_impl_Ring_limitedProduct_L1 (x : (List Int)) (y : (List Int)) (r_Table : (List (List (List Int)))) (k19 : Nat) (x20 : (List Int)) : Option (Ctl ((List Int)) ((List Int))) :=
  (idx x (k19 : Int)).bind fun x39 =>
  (forN (fun k s => p_impl_Ring_limitedProduct_L2 y r_Table k19 x39 k s) (y).length 0 x20).bind fun res47 => onRes res47 (fun r259 => some (.ret r259)) fun (x251 : (List Int)) =>
  some (.next x251)

def p_impl_Ring_limitedProduct (r_Table : (List (List (List Int)))) (x : (List Int)) (y : (List Int)) : Option ((List Int)) :=
  (mkL ((r_Table).length : Int) (0 : Int)).bind fun x10 =>
  (forN (fun k s => p_impl_Ring_limitedProduct_L1 x y r_Table k s) (x).length 0 x10).bind fun res17 => onRes res17 (fun r284 => some r284) fun (x280 : (List Int)) =>
  if (x280).isEmpty = true then
    none
  else
    some x280

def p_impl_addTo_L1 (list : (List Int)) (k4 : Nat) (x5 : (List Int)) : Option (Ctl ((List Int)) (Unit)) :=
  (idx list (k4 : Int)).bind fun x22 =>
  (idx x5 (k4 : Int)).bind fun x29 =>
  some (.next ((x5).set ((k4 : Int)).toNat (w64 (x29 + x22))))

def p_impl_addTo (sum : (List Int)) (list : (List Int)) : Option ((List Int)) :=
  (forN (fun k s => p_impl_addTo_L1 list k s) (list).length 0 sum).bind fun res2 => onRes res2 (fun r58 => none) fun (x56 : (List Int)) =>
  some x56

def p_impl_Ring_handle_L1 (x16 : (List Int)) (r_Table : (List (List (List Int)))) (k26 : Nat) (x27 : (List Int)) : Option (Ctl ((List Int)) (Unit)) :=
  (idx x16 (k26 : Int)).bind fun x45 =>
  (idx r_Table (k26 : Int)).bind fun x52 =>
  (idx x52 x45).bind fun x59 =>
  (p_impl_addTo x27 x59).bind fun x66 =>
  some (.next x66)

def p_impl_Ring_handle (r_Table : (List (List (List Int)))) : Option ((List Int)) :=
  (mkL ((r_Table).length : Int) (0 : Int)).bind fun x10 =>
  (p_impl_Ring_duals r_Table).bind fun x16 =>
  (forN (fun k s => p_impl_Ring_handle_L1 x16 r_Table k s) (x16).length 0 x10).bind fun res24 => onRes res24 (fun r94 => none) fun (x91 : (List Int)) =>
  some x91

def p_impl_Ring_surface_L1 (labels : (List Int)) (r_Table : (List (List (List Int)))) (k20 : Nat) (x21 : (List Int)) : Option (Ctl ((List Int)) (Int)) :=
  (idx labels (k20 : Int)).bind fun x41 =>
  (p_impl_Ring_vectorOf r_Table x41).bind fun x91 =>
  (p_impl_Ring_limitedProduct r_Table x21 x91).bind fun x116 =>
  if (x116).isEmpty = true then
    some (.ret (-1 : Int))
  else
    some (.next x116)

def p_impl_Ring_surface_L2 (r_Table : (List (List (List Int)))) (k155 : Nat) (x156 : (List Int)) : Option (Ctl ((List Int)) (Int)) :=
  (p_impl_Ring_handle r_Table).bind fun x205 =>
  (p_impl_Ring_limitedProduct r_Table x156 x205).bind fun x227 =>
  if (x227).isEmpty = true then
    some (.ret (-1 : Int))
  else
    some (.next x227)

def p_impl_Ring_surface (r_Table : (List (List (List Int)))) (genus : Int) (labels : (List Int)) : Option (Int) :=
  (p_impl_Ring_vectorOf r_Table (0 : Int)).bind fun x9 =>
  (forN (fun k s => p_impl_Ring_surface_L1 labels r_Table k s) (labels).length 0 x9).bind fun res18 => onRes res18 (fun r268 => some r268) fun (x147 : (List Int)) =>
  (forN (fun k s => p_impl_Ring_surface_L2 r_Table k s) (genus).toNat 0 x147).bind fun res153 => onRes res153 (fun r267 => some r267) fun (x256 : (List Int)) =>
  (idx x256 (0 : Int)).bind fun x260 =>
  some x260

def p_laws_eqInt64S_L1 (a : (List Int)) (b : (List Int)) (k7 : Nat) : Option (Ctl (Unit) (Bool)) :=
  (idx a (k7 : Int)).bind fun x53 =>
  (idx b (k7 : Int)).bind fun x99 =>
  if (x53 != x99) = true then
    some (.ret false)
  else
    some (.next ())

def p_laws_eqInt64S (a : (List Int)) (b : (List Int)) : Option (Bool) :=
  if (((a).length : Int) != ((b).length : Int)) = true then
    some false
  else
    (forN (fun k s => p_laws_eqInt64S_L1 a b k ) (a).length 0 ()).bind fun res5 => onRes res5 (fun r152 => some r152) fun _ =>
    some true

def p_laws_eqInt64SS_L1 (a : (List (List Int))) (b : (List (List Int))) (k7 : Nat) : Option (Ctl (Unit) (Bool)) :=
  (idx a (k7 : Int)).bind fun x53 =>
  (idx b (k7 : Int)).bind fun x99 =>
  (p_laws_eqInt64S x53 x99).bind fun x130 =>
  if (!x130) = true then
    some (.ret false)
  else
    some (.next ())

def p_laws_eqInt64SS (a : (List (List Int))) (b : (List (List Int))) : Option (Bool) :=
  if (((a).length : Int) != ((b).length : Int)) = true then
    some false
  else
    (forN (fun k s => p_laws_eqInt64SS_L1 a b k ) (a).length 0 ()).bind fun res5 => onRes res5 (fun r156 => some r156) fun _ =>
    some true

def p_laws_eqInt64SSS_L1 (a : (List (List (List Int)))) (b : (List (List (List Int)))) (k7 : Nat) : Option (Ctl (Unit) (Bool)) :=
  (idx a (k7 : Int)).bind fun x53 =>
  (idx b (k7 : Int)).bind fun x99 =>
  (p_laws_eqInt64SS x53 x99).bind fun x130 =>
  if (!x130) = true then
    some (.ret false)
  else
    some (.next ())

def p_laws_eqInt64SSS (a : (List (List (List Int)))) (b : (List (List (List Int)))) : Option (Bool) :=
  if (((a).length : Int) != ((b).length : Int)) = true then
    some false
  else
    (forN (fun k s => p_laws_eqInt64SSS_L1 a b k ) (a).length 0 ()).bind fun res5 => onRes res5 (fun r156 => some r156) fun _ =>
    some true

def p_laws_eqRing (a_Table : (List (List (List Int)))) (b_Table : (List (List (List Int)))) : Option (Bool) :=
  (p_laws_eqInt64SSS a_Table b_Table).bind fun x18 =>
  if (!x18) = true then
    some false
  else
    some true

def p_spec_GenusNumbers_L1 (most : Int) (r_Table : (List (List (List Int)))) (x53 : (List Int)) (x54 : Int) : Option (Ctl ((List Int) × Int) ((List Int) × Int)) :=
  if (decide (x54 ≤ most)) = true then
    (p_spec_l15Number r_Table x54 ([] : (List Int))).bind fun x76 =>
    if (!x76.2) = true then
      some (.ret (([] : (List Int)), (3 : Int)))
    else
      (appL x53 ([x76.1] : (List Int))).bind fun x89 =>
      some (.next (x89, (w64 (x54 + (1 : Int)))))
  else
    some (.brk (x53, x54))

def p_spec_GenusNumbers (r_Table : (List (List (List Int)))) (most : Int) : Option ((List Int) × Int) :=
  (p_spec_l08Code r_Table).bind fun x9 =>
  (if (x9 == (0 : Int)) = true then
    (p_spec_l01In most (0 : Int) (20 : Int)).bind fun x22 =>
    some (!x22)
  else
    some false).bind fun (x17 : Bool) =>
  (if x17 = true then
    some (2 : Int)
  else
    some x9).bind fun (x33 : Int) =>
  if (x33 != (0 : Int)) = true then
    some (([] : (List Int)), x33)
  else
    (whileC (fun s => p_spec_GenusNumbers_L1 most r_Table s.1 s.2) (([] : (List Int)), (0 : Int))).bind fun res50 => onRes res50 (fun r105 => some r105) fun (s99p : (List Int) × Int) =>
    some (s99p.1, (0 : Int))

def p_impl_GenusNumbers_L1 (r_Table : (List (List (List Int)))) (k32 : Nat) (x33 : (List Int)) : Option (Ctl ((List Int)) ((List Int) × Int)) :=
  (p_impl_Ring_surface r_Table (k32 : Int) ([] : (List Int))).bind fun x51 =>
  if (decide (x51 < (0 : Int))) = true then
    some (.ret (([] : (List Int)), (3 : Int)))
  else
    (appL x33 ([x51] : (List Int))).bind fun x64 =>
    some (.next x64)

def p_impl_GenusNumbers (r_Table : (List (List (List Int)))) (most : Int) : Option ((List Int) × Int) :=
  (p_impl_commuteCode r_Table).bind fun x9 =>
  if (x9 != (0 : Int)) = true then
    some (([] : (List Int)), x9)
  else
    (p_impl_within most (0 : Int) (20 : Int)).bind fun x18 =>
    if (!x18) = true then
      some (([] : (List Int)), (2 : Int))
    else
      (forN (fun k s => p_impl_GenusNumbers_L1 r_Table k s) ((w64 (most + (1 : Int)))).toNat 0 ([] : (List Int))).bind fun res30 => onRes res30 (fun r93 => some r93) fun (x89 : (List Int)) =>
      some (x89, (0 : Int))

def p_laws_markInt64S_L1  (k3 : Nat) (x4 : (List Int)) (x5 : Int) : Option (Ctl ((List Int) × Int) (Unit)) :=
  (idx x4 (k3 : Int)).bind fun x24 =>
  some (.next (((x4).set ((k3 : Int)).toNat x5), (w64 (x5 + (1 : Int)))))

def p_laws_markInt64S (a : (List Int)) (k1 : Int) : Option (Int × (List Int)) :=
  (forN (fun k s => p_laws_markInt64S_L1  k s.1 s.2) (a).length 0 (a, k1)).bind fun res1 => onRes res1 (fun r57 => none) fun (s50p : (List Int) × Int) =>
  some (s50p.2, s50p.1)

def p_laws_markInt64SS_L1  (k3 : Nat) (x4 : (List (List Int))) (x5 : Int) : Option (Ctl ((List (List Int)) × Int) (Unit)) :=
  (idx x4 (k3 : Int)).bind fun x24 =>
  (p_laws_markInt64S x24 x5).bind fun x32 =>
  some (.next (((x4).set ((k3 : Int)).toNat x32.2), x32.1))

def p_laws_markInt64SS (a : (List (List Int))) (k1 : Int) : Option (Int × (List (List Int))) :=
  (forN (fun k s => p_laws_markInt64SS_L1  k s.1 s.2) (a).length 0 (a, k1)).bind fun res1 => onRes res1 (fun r67 => none) fun (s60p : (List (List Int)) × Int) =>
  some (s60p.2, s60p.1)

def p_laws_markInt64SSS_L1  (k3 : Nat) (x4 : (List (List (List Int)))) (x5 : Int) : Option (Ctl ((List (List (List Int))) × Int) (Unit)) :=
  (idx x4 (k3 : Int)).bind fun x24 =>
  (p_laws_markInt64SS x24 x5).bind fun x32 =>
  some (.next (((x4).set ((k3 : Int)).toNat x32.2), x32.1))

def p_laws_markInt64SSS (a : (List (List (List Int)))) (k1 : Int) : Option (Int × (List (List (List Int)))) :=
  (forN (fun k s => p_laws_markInt64SSS_L1  k s.1 s.2) (a).length 0 (a, k1)).bind fun res1 => onRes res1 (fun r67 => none) fun (s60p : (List (List (List Int))) × Int) =>
  some (s60p.2, s60p.1)

def p_laws_markRing (a_Table : (List (List (List Int)))) (k1 : Int) : Option (Int × (List (List (List Int)))) :=
  (p_laws_markInt64SSS a_Table k1).bind fun x6 =>
  some (x6.1, x6.2)

def p_laws_heldInt64S_L1 (a : (List Int)) (k3 : Nat) (x4 : Int) : Option (Ctl (Int) (Int)) :=
  (idx a (k3 : Int)).bind fun x22 =>
  if (x22 != x4) = true then
    some (.ret (-1 : Int))
  else
    some (.next (w64 (x4 + (1 : Int))))

def p_laws_heldInt64S (a : (List Int)) (k1 : Int) : Option (Int) :=
  (forN (fun k s => p_laws_heldInt64S_L1 a k s) (a).length 0 k1).bind fun res1 => onRes res1 (fun r54 => some r54) fun (x50 : Int) =>
  some x50

def p_laws_FnExactGenusNumbers (aR_Table : (List (List (List Int)))) (aMost : Int) : Option (Bool) :=
  (p_laws_szRing aR_Table (1048576 : Int)).bind fun x9 =>
  if (decide (x9 < (0 : Int))) = true then
    some true
  else
    (p_laws_toRing aR_Table).bind fun x18 =>
    (p_spec_GenusNumbers x18 aMost).bind fun x29 =>
    (p_laws_toRing aR_Table).bind fun x42 =>
    (p_impl_GenusNumbers x42 aMost).bind fun x55 =>
    (p_laws_eqInt64S x55.1 x29.1).bind fun x63 =>
    if ((!x63) || (x55.2 != x29.2)) = true then
      some false
    else
      (p_laws_toRing aR_Table).bind fun x108 =>
      (p_laws_eqRing x42 x108).bind fun x134 =>
      if (!x134) = true then
        some false
      else
        (p_laws_markRing x42 (1 : Int)).bind fun x142 =>
        (if (decide (x142.1 < (0 : Int))) = true then
          some true
        else
          (p_laws_eqInt64S x55.1 x29.1).bind fun x155 =>
          some (!x155)).bind fun (x150 : Bool) =>
        if (x150 || (x55.2 != x29.2)) = true then
          some false
        else
          (p_laws_markInt64S x55.1 (1 : Int)).bind fun x182 =>
          (p_laws_heldInt64S x182.2 (1 : Int)).bind fun x189 =>
          if (decide (x189 < (0 : Int))) = true then
            some false
          else
            if (x189 != x182.1) = true then
              some false
            else
              (p_laws_toRing aR_Table).bind fun x200 =>
              (p_impl_GenusNumbers x200 aMost).bind fun x207 =>
              (p_laws_eqInt64S x207.1 x29.1).bind fun x215 =>
              if ((!x215) || (x207.2 != x29.2)) = true then
                some false
              else
                (p_laws_heldInt64S x182.2 (1 : Int)).bind fun x231 =>
                if (decide (x231 < (0 : Int))) = true then
                  some false
                else
                  if (x231 != x182.1) = true then
                    some false
                  else
                    some true

end
end Go.VG
