/- The functions' plain twins, as a program of ours printed them. No proof. -/
import Derived.Test.YtbgebkgpodgjdaaVgPure
import Derived.Test.YtbgebkgpodgjdaaVgMap
set_option linter.all false
namespace Go.VG
noncomputable section

def p_laws_szInt64S (a : (List Int)) (left : Int) : Option (Int) :=
  if (decide ((w64 (left - ((a).length : Int))) < (0 : Int))) = true then
    some (-1 : Int)
  else
    some (w64 (left - ((a).length : Int)))

def p_laws_szInt64SS_L1 (a : (List (List Int))) (k6 : Nat) (x7 : Int) : Option (Ctl (Int) (Int)) :=
  (idx a (k6 : Int)).bind fun x25 =>
  (p_laws_szInt64S x25 x7).bind fun x32 =>
  if (decide (x32 < (0 : Int))) = true then
    some (.ret (-1 : Int))
  else
    some (.next x32)

def p_laws_szInt64SS (a : (List (List Int))) (left : Int) : Option (Int) :=
  if (decide ((w64 (left - ((a).length : Int))) < (0 : Int))) = true then
    some (-1 : Int)
  else
    (forN (fun k s => p_laws_szInt64SS_L1 a k s) (a).length 0 (w64 (left - ((a).length : Int)))).bind fun res4 => onRes res4 (fun r64 => some r64) fun (x60 : Int) =>
    some x60

def p_laws_szInt64SSS_L1 (a : (List (List (List Int)))) (k6 : Nat) (x7 : Int) : Option (Ctl (Int) (Int)) :=
  (idx a (k6 : Int)).bind fun x25 =>
  (p_laws_szInt64SS x25 x7).bind fun x32 =>
  if (decide (x32 < (0 : Int))) = true then
    some (.ret (-1 : Int))
  else
    some (.next x32)

def p_laws_szInt64SSS (a : (List (List (List Int)))) (left : Int) : Option (Int) :=
  if (decide ((w64 (left - ((a).length : Int))) < (0 : Int))) = true then
    some (-1 : Int)
  else
    (forN (fun k s => p_laws_szInt64SSS_L1 a k s) (a).length 0 (w64 (left - ((a).length : Int)))).bind fun res4 => onRes res4 (fun r64 => some r64) fun (x60 : Int) =>
    some x60

def p_laws_szRing (a_Table : (List (List (List Int)))) (left : Int) : Option (Int) :=
  (p_laws_szInt64SSS a_Table left).bind fun x9 =>
  if (decide (x9 < (0 : Int))) = true then
    some (-1 : Int)
  else
    some x9

def p_laws_toInt64S_L1 (a : (List Int)) (k10 : Nat) (x11 : (List Int)) : Option (Ctl ((List Int)) (Unit)) :=
  (idx a (k10 : Int)).bind fun x28 =>
  (idx x11 (k10 : Int)).bind fun x35 =>
  some (.next ((x11).set ((k10 : Int)).toNat x28))

def p_laws_toInt64S (a : (List Int)) : Option ((List Int)) :=
  (mkL ((a).length : Int) (0 : Int)).bind fun x2 =>
  (forN (fun k s => p_laws_toInt64S_L1 a k s) (a).length 0 x2).bind fun res8 => onRes res8 (fun r62 => none) fun (x59 : (List Int)) =>
  some x59

def p_laws_toInt64SS_L1 (a : (List (List Int))) (k10 : Nat) (x11 : (List (List Int))) : Option (Ctl ((List (List Int))) (Unit)) :=
  (idx a (k10 : Int)).bind fun x28 =>
  (p_laws_toInt64S x28).bind fun x35 =>
  (idx x11 (k10 : Int)).bind fun x42 =>
  some (.next ((x11).set ((k10 : Int)).toNat x35))

def p_laws_toInt64SS (a : (List (List Int))) : Option ((List (List Int))) :=
  (mkL ((a).length : Int) ([] : (List Int))).bind fun x2 =>
  (forN (fun k s => p_laws_toInt64SS_L1 a k s) (a).length 0 x2).bind fun res8 => onRes res8 (fun r69 => none) fun (x66 : (List (List Int))) =>
  some x66

def p_laws_toInt64SSS_L1 (a : (List (List (List Int)))) (k10 : Nat) (x11 : (List (List (List Int)))) : Option (Ctl ((List (List (List Int)))) (Unit)) :=
  (idx a (k10 : Int)).bind fun x28 =>
  (p_laws_toInt64SS x28).bind fun x35 =>
  (idx x11 (k10 : Int)).bind fun x42 =>
  some (.next ((x11).set ((k10 : Int)).toNat x35))

def p_laws_toInt64SSS (a : (List (List (List Int)))) : Option ((List (List (List Int)))) :=
  (mkL ((a).length : Int) ([] : (List (List Int)))).bind fun x2 =>
  (forN (fun k s => p_laws_toInt64SSS_L1 a k s) (a).length 0 x2).bind fun res8 => onRes res8 (fun r69 => none) fun (x66 : (List (List (List Int)))) =>
  some x66

def p_laws_toRing (a_Table : (List (List (List Int)))) : Option ((List (List (List Int)))) :=
  (p_laws_toInt64SSS a_Table).bind fun x17 =>
  some x17

def p_spec_l01In (n : Int) (low : Int) (high : Int) : Option (Bool) :=
  some ((decide (n ≥ low)) && (decide (n ≤ high)))

def p_spec_l03Cube_L3 (x62 : (List Int)) (k74 : Nat) : Option (Ctl (Unit) (Bool)) :=
  (idx x62 (k74 : Int)).bind fun x98 =>
  (p_spec_l01In x98 (0 : Int) (1000 : Int)).bind fun x105 =>
  if (!x105) = true then
    some (.ret false)
  else
    some (.next ())

def p_spec_l03Cube_L2 (x30 : (List (List Int))) (t : (List (List (List Int)))) (k42 : Nat) : Option (Ctl (Unit) (Bool)) :=
  (idx x30 (k42 : Int)).bind fun x62 =>
  if (((x62).length : Int) != ((t).length : Int)) = true then
    some (.ret false)
  else
    (forN (fun k s => p_spec_l03Cube_L3 x62 k ) (t).length 0 ()).bind fun res72 => onRes res72 (fun r136 => some (.ret r136)) fun _ =>
    some (.next ())

def p_spec_l03Cube_L1 (t : (List (List (List Int)))) (k14 : Nat) : Option (Ctl (Unit) (Bool)) :=
  (idx t (k14 : Int)).bind fun x30 =>
  if (((x30).length : Int) != ((t).length : Int)) = true then
    some (.ret false)
  else
    (forN (fun k s => p_spec_l03Cube_L2 x30 t k ) (t).length 0 ()).bind fun res40 => onRes res40 (fun r158 => some (.ret r158)) fun _ =>
    some (.next ())

def p_spec_l03Cube (t : (List (List (List Int)))) : Option (Bool) :=
  if ((decide (((t).length : Int) < (1 : Int))) || (decide (((t).length : Int) > (16 : Int)))) = true then
    some false
  else
    (forN (fun k s => p_spec_l03Cube_L1 t k ) (t).length 0 ()).bind fun res12 => onRes res12 (fun r176 => some r176) fun _ =>
    some true

def p_spec_l03Dual_L1 (t : (List (List (List Int)))) (i : Int) (k3 : Nat) (x4 : Int) : Option (Ctl (Int) (Int)) :=
  (idx t i).bind fun x23 =>
  (idx x23 (k3 : Int)).bind fun x30 =>
  (idx x30 (0 : Int)).bind fun x37 =>
  if ((x37 == (1 : Int)) && (decide (x4 < (0 : Int)))) = true then
    some (.next (k3 : Int))
  else
    if (x37 != (0 : Int)) = true then
      some (.ret (-1 : Int))
    else
      some (.next x4)

def p_spec_l03Dual (t : (List (List (List Int)))) (i : Int) : Option (Int) :=
  (forN (fun k s => p_spec_l03Dual_L1 t i k s) (t).length 0 (-1 : Int)).bind fun res1 => onRes res1 (fun r91 => some r91) fun (x87 : Int) =>
  some x87

def p_spec_l03Fault_L2 (k4 : Nat) (t : (List (List (List Int)))) (k22 : Nat) : Option (Ctl (Unit) ((List Int))) :=
  (if ((k4 : Int) == (k22 : Int)) = true then
    some (1 : Int)
  else
    some (0 : Int)).bind fun (x39 : Int) =>
  (idx t (0 : Int)).bind fun x52 =>
  (idx x52 (k4 : Int)).bind fun x59 =>
  (idx x59 (k22 : Int)).bind fun x66 =>
  (if (x66 != x39) = true then
    some true
  else
    (idx t (k4 : Int)).bind fun x79 =>
    (idx x79 (0 : Int)).bind fun x86 =>
    (idx x86 (k22 : Int)).bind fun x93 =>
    some (x93 != x39)).bind fun (x74 : Bool) =>
  if x74 = true then
    some (.ret ([(0 : Int), (k4 : Int), (k22 : Int)] : (List Int)))
  else
    some (.next ())

def p_spec_l03Fault_L1 (t : (List (List (List Int)))) (k4 : Nat) : Option (Ctl (Unit) ((List Int))) :=
  (forN (fun k s => p_spec_l03Fault_L2 k4 t k ) (t).length 0 ()).bind fun res20 => onRes res20 (fun r133 => some (.ret r133)) fun _ =>
  some (.next ())

def p_spec_l03Fault_L3 (t : (List (List (List Int)))) (k159 : Nat) (x160 : (List Int)) : Option (Ctl ((List Int)) (Unit)) :=
  (p_spec_l03Dual t (k159 : Int)).bind fun x178 =>
  (appL x160 ([x178] : (List Int))).bind fun x189 =>
  some (.next x189)

def p_spec_l03Fault_L4 (x214 : (List Int)) (k222 : Nat) : Option (Ctl (Unit) ((List Int))) :=
  (idx x214 (k222 : Int)).bind fun x239 =>
  (if (decide (x239 < (0 : Int))) = true then
    some true
  else
    (idx x214 x239).bind fun x255 =>
    some (x255 != (k222 : Int))).bind fun (x247 : Bool) =>
  if x247 = true then
    some (.ret ([(1 : Int), (k222 : Int)] : (List Int)))
  else
    some (.next ())

def p_spec_l03Fault_L7 (t : (List (List (List Int)))) (k297 : Nat) (k316 : Nat) (x214 : (List Int)) (k336 : Nat) : Option (Ctl (Unit) ((List Int))) :=
  (idx t (k297 : Int)).bind fun x384 =>
  (idx x384 (k316 : Int)).bind fun x423 =>
  (idx x423 (k336 : Int)).bind fun x462 =>
  (idx x214 (k297 : Int)).bind fun x515 =>
  (idx t x515).bind fun x547 =>
  (idx x547 (k336 : Int)).bind fun x586 =>
  (idx x586 (k316 : Int)).bind fun x625 =>
  (if (x462 != x625) = true then
    some true
  else
    (idx t (k336 : Int)).bind fun x1110 =>
    (idx x214 (k316 : Int)).bind fun x1172 =>
    (idx x1110 x1172).bind fun x1212 =>
    (idx x1212 (k297 : Int)).bind fun x1263 =>
    some (x462 != x1263)).bind fun (x668 : Bool) =>
  if x668 = true then
    some (.ret ([(2 : Int), (k297 : Int), (k316 : Int), (k336 : Int)] : (List Int)))
  else
    some (.next ())

def p_spec_l03Fault_L6 (t : (List (List (List Int)))) (k297 : Nat) (x214 : (List Int)) (k316 : Nat) : Option (Ctl (Unit) ((List Int))) :=
  (forN (fun k s => p_spec_l03Fault_L7 t k297 k316 x214 k ) (t).length 0 ()).bind fun res334 => onRes res334 (fun r1374 => some (.ret r1374)) fun _ =>
  some (.next ())

def p_spec_l03Fault_L5 (t : (List (List (List Int)))) (x214 : (List Int)) (k297 : Nat) : Option (Ctl (Unit) ((List Int))) :=
  (forN (fun k s => p_spec_l03Fault_L6 t k297 x214 k ) (t).length 0 ()).bind fun res314 => onRes res314 (fun r1398 => some (.ret r1398)) fun _ =>
  some (.next ())

def p_spec_l03Fault_L12 (t : (List (List (List Int)))) (k1421 : Nat) (k1439 : Nat) (k1458 : Nat) (k1478 : Nat) (k1499 : Nat) (x1500 : Int) (x1501 : Int) : Option (Ctl (Int × Int) (Unit)) :=
  (idx t (k1421 : Int)).bind fun x1561 =>
  (idx x1561 (k1439 : Int)).bind fun x1600 =>
  (idx x1600 (k1499 : Int)).bind fun x1639 =>
  (idx t (k1499 : Int)).bind fun x1685 =>
  (idx x1685 (k1458 : Int)).bind fun x1724 =>
  (idx x1724 (k1478 : Int)).bind fun x1763 =>
  (idx t (k1439 : Int)).bind fun x1853 =>
  (idx x1853 (k1458 : Int)).bind fun x1892 =>
  (idx x1892 (k1499 : Int)).bind fun x1931 =>
  (idx x1561 (k1499 : Int)).bind fun x2012 =>
  (idx x2012 (k1478 : Int)).bind fun x2051 =>
  some (.next ((w64 (x1500 + (w64 (x1639 * x1763)))), (w64 (x1501 + (w64 (x1931 * x2051))))))

def p_spec_l03Fault_L11 (t : (List (List (List Int)))) (k1421 : Nat) (k1439 : Nat) (k1458 : Nat) (k1478 : Nat) : Option (Ctl (Unit) ((List Int))) :=
  (forN (fun k s => p_spec_l03Fault_L12 t k1421 k1439 k1458 k1478 k s.1 s.2) (t).length 0 ((0 : Int), (0 : Int))).bind fun res1497 => onRes res1497 (fun r2150 => none) fun (s2130p : Int × Int) =>
  if (s2130p.1 != s2130p.2) = true then
    some (.ret ([(3 : Int), (k1421 : Int), (k1439 : Int), (k1458 : Int), (k1478 : Int)] : (List Int)))
  else
    some (.next ())

def p_spec_l03Fault_L10 (t : (List (List (List Int)))) (k1421 : Nat) (k1439 : Nat) (k1458 : Nat) : Option (Ctl (Unit) ((List Int))) :=
  (forN (fun k s => p_spec_l03Fault_L11 t k1421 k1439 k1458 k ) (t).length 0 ()).bind fun res1476 => onRes res1476 (fun r2176 => some (.ret r2176)) fun _ =>
  some (.next ())

def p_spec_l03Fault_L9 (t : (List (List (List Int)))) (k1421 : Nat) (k1439 : Nat) : Option (Ctl (Unit) ((List Int))) :=
  (forN (fun k s => p_spec_l03Fault_L10 t k1421 k1439 k ) (t).length 0 ()).bind fun res1456 => onRes res1456 (fun r2200 => some (.ret r2200)) fun _ =>
  some (.next ())

def p_spec_l03Fault_L8 (t : (List (List (List Int)))) (k1421 : Nat) : Option (Ctl (Unit) ((List Int))) :=
  (forN (fun k s => p_spec_l03Fault_L9 t k1421 k ) (t).length 0 ()).bind fun res1437 => onRes res1437 (fun r2222 => some (.ret r2222)) fun _ =>
  some (.next ())

def p_spec_l03Fault (t : (List (List (List Int)))) : Option ((List Int)) :=
  (forN (fun k s => p_spec_l03Fault_L1 t k ) (t).length 0 ()).bind fun res2 => onRes res2 (fun r2244 => some r2244) fun _ =>
  (forN (fun k s => p_spec_l03Fault_L3 t k s) (t).length 0 ([] : (List Int))).bind fun res157 => onRes res157 (fun r2243 => none) fun (x214 : (List Int)) =>
  (forN (fun k s => p_spec_l03Fault_L4 x214 k ) (t).length 0 ()).bind fun res220 => onRes res220 (fun r2242 => some r2242) fun _ =>
  (forN (fun k s => p_spec_l03Fault_L5 t x214 k ) (t).length 0 ()).bind fun res295 => onRes res295 (fun r2241 => some r2241) fun _ =>
  (forN (fun k s => p_spec_l03Fault_L8 t k ) (t).length 0 ()).bind fun res1419 => onRes res1419 (fun r2240 => some r2240) fun _ =>
  some ([] : (List Int))

def p_spec_l03Is (r_Table : (List (List (List Int)))) : Option (Bool) :=
  (p_spec_l03Cube r_Table).bind fun x9 =>
  (if x9 = true then
    (p_spec_l03Fault r_Table).bind fun x21 =>
    some (((x21).length : Int) == (0 : Int))
  else
    some false).bind fun (x16 : Bool) =>
  some x16

def p_spec_l15Graph_L1 (graph : (List (List Int))) (k3 : Nat) (x4 : Int) : Option (Ctl (Int) (Bool)) :=
  (idx graph (k3 : Int)).bind fun x22 =>
  if (((x22).length : Int) != (3 : Int)) = true then
    some (.ret false)
  else
    some (.next (w64 (x4 + (3 : Int))))

def p_spec_l15Graph_L3 (graph : (List (List Int))) (k82 : Nat) (k102 : Nat) (x103 : (List Int)) : Option (Ctl ((List Int)) (Bool)) :=
  (idx graph (k82 : Int)).bind fun x120 =>
  (idx x120 (k102 : Int)).bind fun x127 =>
  (p_spec_l01In x127 (0 : Int) (w64 (((x103).length : Int) - (1 : Int)))).bind fun x135 =>
  if (!x135) = true then
    some (.ret false)
  else
    (idx x103 x127).bind fun x149 =>
    some (.next ((x103).set (x127).toNat (w64 (x149 + (1 : Int)))))

def p_spec_l15Graph_L2 (graph : (List (List Int))) (k82 : Nat) (x83 : (List Int)) : Option (Ctl ((List Int)) (Bool)) :=
  (forN (fun k s => p_spec_l15Graph_L3 graph k82 k s) ((3 : Int)).toNat 0 x83).bind fun res100 => onRes res100 (fun r181 => some (.ret r181)) fun (x176 : (List Int)) =>
  some (.next x176)

def p_spec_l15Graph_L4 (x200 : (List Int)) (k205 : Nat) : Option (Ctl (Unit) (Bool)) :=
  (idx x200 (k205 : Int)).bind fun x221 =>
  if (x221 != (2 : Int)) = true then
    some (.ret false)
  else
    some (.next ())

def p_spec_l15Graph (graph : (List (List Int))) : Option (Bool) :=
  (forN (fun k s => p_spec_l15Graph_L1 graph k s) (graph).length 0 (0 : Int)).bind fun res1 => onRes res1 (fun r249 => some r249) fun (x51 : Int) =>
  if (((((x51).tmod (2 : Int)) != (0 : Int)) || (decide (x51 < (2 : Int)))) || (decide (x51 > (18 : Int)))) = true then
    some false
  else
    (mkL (w64 ((x51).tdiv (2 : Int))) (0 : Int)).bind fun x74 =>
    (forN (fun k s => p_spec_l15Graph_L2 graph k s) (graph).length 0 x74).bind fun res80 => onRes res80 (fun r248 => some r248) fun (x200 : (List Int)) =>
    (forN (fun k s => p_spec_l15Graph_L4 x200 k ) (x200).length 0 ()).bind fun res203 => onRes res203 (fun r247 => some r247) fun _ =>
    some true

def p_spec_l01Same_L1 (a : (List Int)) (b : (List Int)) (k7 : Nat) : Option (Ctl (Unit) (Bool)) :=
  (idx a (k7 : Int)).bind fun x53 =>
  (idx b (k7 : Int)).bind fun x99 =>
  if (x53 != x99) = true then
    some (.ret false)
  else
    some (.next ())

def p_spec_l01Same (a : (List Int)) (b : (List Int)) : Option (Bool) :=
  if (((a).length : Int) != ((b).length : Int)) = true then
    some false
  else
    (forN (fun k s => p_spec_l01Same_L1 a b k ) (a).length 0 ()).bind fun res5 => onRes res5 (fun r152 => some r152) fun _ =>
    some true

def p_spec_l03Commutative_L2 (r_Table : (List (List (List Int)))) (k11 : Nat) (k29 : Nat) : Option (Ctl (Unit) (Bool)) :=
  (idx r_Table (k11 : Int)).bind fun x84 =>
  (idx x84 (k29 : Int)).bind fun x123 =>
  (idx r_Table (k29 : Int)).bind fun x179 =>
  (idx x179 (k11 : Int)).bind fun x218 =>
  (p_spec_l01Same x123 x218).bind fun x249 =>
  if (!x249) = true then
    some (.ret false)
  else
    some (.next ())

def p_spec_l03Commutative_L1 (r_Table : (List (List (List Int)))) (k11 : Nat) : Option (Ctl (Unit) (Bool)) :=
  (forN (fun k s => p_spec_l03Commutative_L2 r_Table k11 k ) ((k11 : Int)).toNat 0 ()).bind fun res27 => onRes res27 (fun r276 => some (.ret r276)) fun _ =>
  some (.next ())

def p_spec_l03Commutative (r_Table : (List (List (List Int)))) : Option (Bool) :=
  (forN (fun k s => p_spec_l03Commutative_L1 r_Table k ) (r_Table).length 0 ()).bind fun res9 => onRes res9 (fun r294 => some r294) fun _ =>
  some true

def p_spec_l03Duals_L1 (r_Table : (List (List (List Int)))) (k15 : Nat) (x16 : (List Int)) : Option (Ctl ((List Int)) (Unit)) :=
  (p_spec_l03Dual r_Table (k15 : Int)).bind fun x34 =>
  (appL x16 ([x34] : (List Int))).bind fun x45 =>
  some (.next x45)

def p_spec_l03Duals (r_Table : (List (List (List Int)))) : Option ((List Int)) :=
  (forN (fun k s => p_spec_l03Duals_L1 r_Table k s) (r_Table).length 0 ([] : (List Int))).bind fun res13 => onRes res13 (fun r74 => none) fun (x70 : (List Int)) =>
  some x70

def p_spec_l01Own (list : (List Int)) : Option ((List Int)) :=
  (appL ([] : (List Int)) list).bind fun x5 =>
  some x5

def p_spec_l15Sum_L1 (labels : (List Int)) (rf : ((List (List (List Int))) → (List Int) → (List (List Int)) → (List Int) → Option (Int))) (r_Table : (List (List (List Int)))) (duals : (List Int)) (graph : (List (List Int))) (k15 : Nat) (x16 : Int) : Option (Ctl (Int) (Unit)) :=
  (p_spec_l01Own labels).bind fun x40 =>
  (appL x40 ([(k15 : Int)] : (List Int))).bind fun x51 =>
  (rf r_Table duals graph x51).bind fun x57 =>
  some (.next (w64 (x16 + x57)))

def p_spec_l15Sum_L3 (graph : (List (List Int))) (x113 : Int) (labels : (List Int)) (duals : (List Int)) (k154 : Nat) (x155 : (List Bool)) (x156 : (List Int)) : Option (Ctl ((List Bool) × (List Int)) (Unit)) :=
  (idx graph x113).bind fun x179 =>
  (idx x179 (k154 : Int)).bind fun x186 =>
  (idx x155 x186).bind fun x193 =>
  (if x193 = true then
    (idx labels x186).bind fun x203 =>
    (idx duals x203).bind fun x210 =>
    (appL x156 ([x210] : (List Int))).bind fun x221 =>
    some x221
  else
    (idx labels x186).bind fun x227 =>
    (appL x156 ([x227] : (List Int))).bind fun x238 =>
    some x238).bind fun (x200 : (List Int)) =>
  some (.next (((x155).set (x186).toNat true), x200))

def p_spec_l15Sum_L2 (graph : (List (List Int))) (labels : (List Int)) (duals : (List Int)) (r_Table : (List (List (List Int)))) (x111 : (List Bool)) (x112 : Int) (x113 : Int) : Option (Ctl ((List Bool) × Int × Int) (Unit)) :=
  if ((decide (x113 < ((graph).length : Int))) && (x112 != (0 : Int))) = true then
    (forN (fun k s => p_spec_l15Sum_L3 graph x113 labels duals k s.1 s.2) ((3 : Int)).toNat 0 (x111, ([] : (List Int)))).bind fun res152 => onRes res152 (fun r578 => none) fun (s285p : (List Bool) × (List Int)) =>
    (idx s285p.2 (0 : Int)).bind fun x339 =>
    (idx r_Table x339).bind fun x371 =>
    (idx s285p.2 (1 : Int)).bind fun x405 =>
    (idx x371 x405).bind fun x437 =>
    (idx s285p.2 (2 : Int)).bind fun x478 =>
    (idx duals x478).bind fun x510 =>
    (idx x437 x510).bind fun x542 =>
    some (.next (s285p.1, (w64 (x112 * x542)), (w64 (x113 + (1 : Int)))))
  else
    some (.brk (x111, x112, x113))

def p_spec_l15Sum_B (rf : ((List (List (List Int))) → (List Int) → (List (List Int)) → (List Int) → Option (Int))) (r_Table : (List (List (List Int)))) (duals : (List Int)) (graph : (List (List Int))) (labels : (List Int)) : Option (Int) :=
  if (decide (((labels).length : Int) < (w64 (((w64 (((graph).length : Int) * (3 : Int)))).tdiv (2 : Int))))) = true then
    (forN (fun k s => p_spec_l15Sum_L1 labels rf r_Table duals graph k s) (r_Table).length 0 (0 : Int)).bind fun res13 => onRes res13 (fun r101 => none) fun (x97 : Int) =>
    some x97
  else
    (mkL (w64 (((w64 (((graph).length : Int) * (3 : Int)))).tdiv (2 : Int))) false).bind fun x102 =>
    (whileC (fun s => p_spec_l15Sum_L2 graph labels duals r_Table s.1 s.2.1 s.2.2) (x102, (1 : Int), (0 : Int))).bind fun res108 => onRes res108 (fun r590 => none) fun (s583p : (List Bool) × Int × Int) =>
    some s583p.2.1

def p_spec_l15Sum_F : Nat → (List (List (List Int))) → (List Int) → (List (List Int)) → (List Int) → Option (Int)
  | 0 => fun _ _ _ _ => none
  | n + 1 => fun r_Table duals graph labels => p_spec_l15Sum_B (p_spec_l15Sum_F n) r_Table duals graph labels

def p_spec_l15Sum (r_Table : (List (List (List Int)))) (duals : (List Int)) (graph : (List (List Int))) (labels : (List Int)) : Option (Int) := p_spec_l15Sum_F fuelN r_Table duals graph labels

def p_spec_GraphDimension_L1 (r_Table : (List (List (List Int)))) (k43 : Nat) (x44 : Int) : Option (Ctl (Int) (Int × Int)) :=
  if (decide ((w64 (x44 * ((r_Table).length : Int))) > (300000 : Int))) = true then
    some (.ret ((0 : Int), (3 : Int)))
  else
    some (.next (w64 (x44 * ((r_Table).length : Int))))

def p_spec_GraphDimension_L4 (r_Table : (List (List (List Int)))) (k97 : Nat) (k120 : Nat) (k144 : Nat) (x145 : Int) : Option (Ctl (Int) (Unit)) :=
  (idx r_Table (k97 : Int)).bind fun x167 =>
  (idx x167 (k120 : Int)).bind fun x174 =>
  (idx x174 (k144 : Int)).bind fun x181 =>
  some (.next (if x181 > x145 then x181 else x145))

def p_spec_GraphDimension_L3 (r_Table : (List (List (List Int)))) (k97 : Nat) (k120 : Nat) (x121 : Int) : Option (Ctl (Int) (Unit)) :=
  (forN (fun k s => p_spec_GraphDimension_L4 r_Table k97 k120 k s) (r_Table).length 0 x121).bind fun res142 => onRes res142 (fun r220 => none) fun (x211 : Int) =>
  some (.next x211)

def p_spec_GraphDimension_L2 (r_Table : (List (List (List Int)))) (k97 : Nat) (x98 : Int) : Option (Ctl (Int) (Unit)) :=
  (forN (fun k s => p_spec_GraphDimension_L3 r_Table k97 k s) (r_Table).length 0 x98).bind fun res118 => onRes res118 (fun r251 => none) fun (x243 : Int) =>
  some (.next x243)

def p_spec_GraphDimension_L5 (x273 : Int) (k282 : Nat) (x283 : Int) : Option (Ctl (Int) (Int × Int)) :=
  (quoI .i64 (1000000000000000 : Int) x273).bind fun x303 =>
  if (decide (x283 > x303)) = true then
    some (.ret ((0 : Int), (3 : Int)))
  else
    some (.next (w64 (x283 * x273)))

def p_spec_GraphDimension (r_Table : (List (List (List Int)))) (graph : (List (List Int))) : Option (Int × Int) :=
  (p_spec_l03Is r_Table).bind fun x9 =>
  (if (!x9) = true then
    some true
  else
    (p_spec_l15Graph graph).bind fun x21 =>
    some (!x21)).bind fun (x16 : Bool) =>
  if x16 = true then
    some ((0 : Int), (1 : Int))
  else
    (p_spec_l03Commutative r_Table).bind fun x33 =>
    if (!x33) = true then
      some ((0 : Int), (5 : Int))
    else
      (forN (fun k s => p_spec_GraphDimension_L1 r_Table k s) ((w64 (((w64 (((graph).length : Int) * (3 : Int)))).tdiv (2 : Int)))).toNat 0 (1 : Int)).bind fun res41 => onRes res41 (fun r410 => some r410) fun (x88 : Int) =>
      (forN (fun k s => p_spec_GraphDimension_L2 r_Table k s) (r_Table).length 0 (1 : Int)).bind fun res95 => onRes res95 (fun r409 => none) fun (x273 : Int) =>
      (forN (fun k s => p_spec_GraphDimension_L5 x273 k s) (graph).length 0 x88).bind fun res280 => onRes res280 (fun r408 => some r408) fun (x330 : Int) =>
      (p_spec_l03Duals r_Table).bind fun x358 =>
      (p_spec_l15Sum r_Table x358 graph ([] : (List Int))).bind fun x401 =>
      some (x401, (0 : Int))

def p_impl_within (n : Int) (low : Int) (high : Int) : Option (Bool) :=
  some ((decide (n ≥ low)) && (decide (n ≤ high)))

def p_impl_allWithin_c1 (n : Int) (c0 : Int) (c1 : Int) : Option (Bool) :=
  (p_impl_within n c0 c1).bind fun x1 =>
  some (!x1)

def p_slices_IndexFunc_Lint64_int64_L1 (s1 : (List Int)) (f1 : (Int → Option Bool)) (k4 : Nat) : Option (Ctl (Unit) (Int)) :=
  (idx s1 (k4 : Int)).bind fun x21 =>
  (f1 x21).bind fun x28 =>
  if x28 = true then
    some (.ret (k4 : Int))
  else
    some (.next ())

def p_slices_IndexFunc_Lint64_int64 (s1 : (List Int)) (f1 : Int → Option Bool) : Option (Int) :=
  (forN (fun k s => p_slices_IndexFunc_Lint64_int64_L1 s1 f1 k ) (s1).length 0 ()).bind fun res2 => onRes res2 (fun r54 => some r54) fun _ =>
  some (-1 : Int)

def p_slices_ContainsFunc_Lint64_int64 (s1 : (List Int)) (f1 : Int → Option Bool) : Option (Bool) :=
  (p_slices_IndexFunc_Lint64_int64 s1 f1).bind fun x1 =>
  some (decide (x1 ≥ (0 : Int)))

def p_impl_allWithin (list : (List Int)) (low : Int) (high : Int) : Option (Bool) :=
  (p_slices_ContainsFunc_Lint64_int64 list (fun a0_19 => p_impl_allWithin_c1 a0_19 low high)).bind fun x22 =>
  some (!x22)

def p_impl_isCube_c1 (row : (List Int)) (c0 : Int) : Option (Bool) :=
  (if (((row).length : Int) != c0) = true then
    some true
  else
    (p_impl_allWithin row (0 : Int) (1000 : Int)).bind fun x8 =>
    some (!x8)).bind fun (x3 : Bool) =>
  some x3

def p_slices_IndexFunc_LLint64_Lint64_L1 (s1 : (List (List Int))) (f1 : ((List Int) → Option Bool)) (k4 : Nat) : Option (Ctl (Unit) (Int)) :=
  (idx s1 (k4 : Int)).bind fun x21 =>
  (f1 x21).bind fun x28 =>
  if x28 = true then
    some (.ret (k4 : Int))
  else
    some (.next ())

def p_slices_IndexFunc_LLint64_Lint64 (s1 : (List (List Int))) (f1 : (List Int) → Option Bool) : Option (Int) :=
  (forN (fun k s => p_slices_IndexFunc_LLint64_Lint64_L1 s1 f1 k ) (s1).length 0 ()).bind fun res2 => onRes res2 (fun r54 => some r54) fun _ =>
  some (-1 : Int)

def p_slices_ContainsFunc_LLint64_Lint64 (s1 : (List (List Int))) (f1 : (List Int) → Option Bool) : Option (Bool) :=
  (p_slices_IndexFunc_LLint64_Lint64 s1 f1).bind fun x1 =>
  some (decide (x1 ≥ (0 : Int)))

def p_impl_isCube_L1 (r_Table : (List (List (List Int)))) (k19 : Nat) : Option (Ctl (Unit) (Bool)) :=
  (idx r_Table (k19 : Int)).bind fun x36 =>
  (if (((x36).length : Int) != ((r_Table).length : Int)) = true then
    some true
  else
    (p_slices_ContainsFunc_LLint64_Lint64 x36 (fun a0_51 => p_impl_isCube_c1 a0_51 ((r_Table).length : Int))).bind fun x54 =>
    some x54).bind fun (x45 : Bool) =>
  if x45 = true then
    some (.ret false)
  else
    some (.next ())

def p_impl_isCube (r_Table : (List (List (List Int)))) : Option (Bool) :=
  (forN (fun k s => p_impl_isCube_L1 r_Table k ) (r_Table).length 0 ()).bind fun res17 => onRes res17 (fun r93 => some r93) fun _ =>
  some ((decide (((r_Table).length : Int) ≥ (1 : Int))) && (decide (((r_Table).length : Int) ≤ (16 : Int))))

def p_impl_delta (i : Int) (k1 : Int) : Option (Int) :=
  if (i == k1) = true then
    some (1 : Int)
  else
    some (0 : Int)

def p_impl_Ring_unitFault_L2 (r_Table : (List (List (List Int)))) (k12 : Nat) (k31 : Nat) : Option (Ctl (Unit) ((List Int))) :=
  (idx r_Table (0 : Int)).bind fun x77 =>
  (idx x77 (k12 : Int)).bind fun x116 =>
  (idx x116 (k31 : Int)).bind fun x155 =>
  (p_impl_delta (k12 : Int) (k31 : Int)).bind fun x202 =>
  (if (x155 != x202) = true then
    some true
  else
    (idx r_Table (k12 : Int)).bind fun x439 =>
    (idx x439 (0 : Int)).bind fun x474 =>
    (idx x474 (k31 : Int)).bind fun x525 =>
    (p_impl_delta (k12 : Int) (k31 : Int)).bind fun x588 =>
    some (x525 != x588)).bind fun (x234 : Bool) =>
  if x234 = true then
    some (.ret ([(0 : Int), (k12 : Int), (k31 : Int)] : (List Int)))
  else
    some (.next ())

def p_impl_Ring_unitFault_L1 (r_Table : (List (List (List Int)))) (k12 : Nat) : Option (Ctl (Unit) ((List Int))) :=
  (forN (fun k s => p_impl_Ring_unitFault_L2 r_Table k12 k ) (r_Table).length 0 ()).bind fun res29 => onRes res29 (fun r671 => some (.ret r671)) fun _ =>
  some (.next ())

def p_impl_Ring_unitFault (r_Table : (List (List (List Int)))) : Option ((List Int)) :=
  (forN (fun k s => p_impl_Ring_unitFault_L1 r_Table k ) (r_Table).length 0 ()).bind fun res10 => onRes res10 (fun r689 => some r689) fun _ =>
  some ([] : (List Int))

def p_impl_Ring_onlyOf_L1 (x9 : (List (List Int))) (k19 : Nat) (x20 : Int) : Option (Ctl (Int) (Int)) :=
  (idx x9 (k19 : Int)).bind fun x38 =>
  (idx x38 (0 : Int)).bind fun x45 =>
  if (x45 == (0 : Int)) = true then
    some (.next x20)
  else
    if ((decide (x20 ≥ (0 : Int))) || (x45 != (1 : Int))) = true then
      some (.ret (-1 : Int))
    else
      some (.next (k19 : Int))

def p_impl_Ring_onlyOf (r_Table : (List (List (List Int)))) (i : Int) : Option (Int) :=
  (idx r_Table i).bind fun x9 =>
  (forN (fun k s => p_impl_Ring_onlyOf_L1 x9 k s) (x9).length 0 (-1 : Int)).bind fun res17 => onRes res17 (fun r92 => some r92) fun (x88 : Int) =>
  some x88

def p_impl_Ring_dualFault_L1 (r_Table : (List (List (List Int)))) (k12 : Nat) : Option (Ctl (Unit) (Int)) :=
  (p_impl_Ring_onlyOf r_Table (k12 : Int)).bind fun x28 =>
  (if (decide (x28 < (0 : Int))) = true then
    some true
  else
    (p_impl_Ring_onlyOf r_Table x28).bind fun x41 =>
    some (x41 != (k12 : Int))).bind fun (x36 : Bool) =>
  if x36 = true then
    some (.ret (k12 : Int))
  else
    some (.next ())

def p_impl_Ring_dualFault (r_Table : (List (List (List Int)))) : Option (Int) :=
  (forN (fun k s => p_impl_Ring_dualFault_L1 r_Table k ) (r_Table).length 0 ()).bind fun res10 => onRes res10 (fun r73 => some r73) fun _ =>
  some (-1 : Int)

def p_impl_Ring_duals_L1 (r_Table : (List (List (List Int)))) (k16 : Nat) (x17 : (List Int)) : Option (Ctl ((List Int)) (Unit)) :=
  (p_impl_Ring_onlyOf r_Table (k16 : Int)).bind fun x35 =>
  (appL x17 ([x35] : (List Int))).bind fun x46 =>
  some (.next x46)

def p_impl_Ring_duals (r_Table : (List (List (List Int)))) : Option ((List Int)) :=
  (forN (fun k s => p_impl_Ring_duals_L1 r_Table k s) (r_Table).length 0 ([] : (List Int))).bind fun res14 => onRes res14 (fun r75 => none) fun (x71 : (List Int)) =>
  some x71

def p_impl_Ring_turnFault_L3 (r_Table : (List (List (List Int)))) (k23 : Nat) (k43 : Nat) (x9 : (List Int)) (k66 : Nat) : Option (Ctl (Unit) ((List Int))) :=
  (idx r_Table (k23 : Int)).bind fun x89 =>
  (idx x89 (k43 : Int)).bind fun x96 =>
  (idx x96 (k66 : Int)).bind fun x103 =>
  (idx x9 (k23 : Int)).bind fun x163 =>
  (idx r_Table x163).bind fun x195 =>
  (idx x195 (k66 : Int)).bind fun x234 =>
  (idx x234 (k43 : Int)).bind fun x273 =>
  (if (x103 != x273) = true then
    some true
  else
    (idx r_Table (k66 : Int)).bind fun x556 =>
    (idx x9 (k43 : Int)).bind fun x618 =>
    (idx x556 x618).bind fun x658 =>
    (idx x658 (k23 : Int)).bind fun x709 =>
    some (x103 != x709)).bind fun (x316 : Bool) =>
  if x316 = true then
    some (.ret ([(2 : Int), (k23 : Int), (k43 : Int), (k66 : Int)] : (List Int)))
  else
    some (.next ())

def p_impl_Ring_turnFault_L2 (r_Table : (List (List (List Int)))) (k23 : Nat) (x9 : (List Int)) (k43 : Nat) : Option (Ctl (Unit) ((List Int))) :=
  (forN (fun k s => p_impl_Ring_turnFault_L3 r_Table k23 k43 x9 k ) (r_Table).length 0 ()).bind fun res64 => onRes res64 (fun r825 => some (.ret r825)) fun _ =>
  some (.next ())

def p_impl_Ring_turnFault_L1 (r_Table : (List (List (List Int)))) (x9 : (List Int)) (k23 : Nat) : Option (Ctl (Unit) ((List Int))) :=
  (forN (fun k s => p_impl_Ring_turnFault_L2 r_Table k23 x9 k ) (r_Table).length 0 ()).bind fun res41 => onRes res41 (fun r851 => some (.ret r851)) fun _ =>
  some (.next ())

def p_impl_Ring_turnFault (r_Table : (List (List (List Int)))) : Option ((List Int)) :=
  (p_impl_Ring_duals r_Table).bind fun x9 =>
  (forN (fun k s => p_impl_Ring_turnFault_L1 r_Table x9 k ) (r_Table).length 0 ()).bind fun res21 => onRes res21 (fun r870 => some r870) fun _ =>
  some ([] : (List Int))

def p_impl_Ring_bracketFault_L5 (x29 : (List (List Int))) (k39 : Nat) (r_Table : (List (List (List Int)))) (k71 : Nat) (k100 : Nat) (x61 : (List (List Int))) (k132 : Nat) (x133 : Int) (x134 : Int) : Option (Ctl (Int × Int) (Unit)) :=
  (idx x29 (k39 : Int)).bind fun x206 =>
  (idx x206 (k132 : Int)).bind fun x245 =>
  (idx r_Table (k132 : Int)).bind fun x301 =>
  (idx x301 (k71 : Int)).bind fun x340 =>
  (idx x340 (k100 : Int)).bind fun x379 =>
  (idx x61 (k71 : Int)).bind fun x482 =>
  (idx x482 (k132 : Int)).bind fun x521 =>
  (idx x29 (k132 : Int)).bind fun x567 =>
  (idx x567 (k100 : Int)).bind fun x606 =>
  some (.next ((w64 (x133 + (w64 (x245 * x379)))), (w64 (x134 + (w64 (x521 * x606))))))

def p_impl_Ring_bracketFault_L4 (x29 : (List (List Int))) (k39 : Nat) (r_Table : (List (List (List Int)))) (k71 : Nat) (x61 : (List (List Int))) (k12 : Nat) (k100 : Nat) : Option (Ctl (Unit) ((List Int))) :=
  (forN (fun k s => p_impl_Ring_bracketFault_L5 x29 k39 r_Table k71 k100 x61 k s.1 s.2) (r_Table).length 0 ((0 : Int), (0 : Int))).bind fun res130 => onRes res130 (fun r740 => none) fun (s709p : Int × Int) =>
  if (s709p.1 != s709p.2) = true then
    some (.ret ([(3 : Int), (k12 : Int), (k39 : Int), (k71 : Int), (k100 : Int)] : (List Int)))
  else
    some (.next ())

def p_impl_Ring_bracketFault_L3 (x29 : (List (List Int))) (k39 : Nat) (r_Table : (List (List (List Int)))) (x61 : (List (List Int))) (k12 : Nat) (k71 : Nat) : Option (Ctl (Unit) ((List Int))) :=
  (forN (fun k s => p_impl_Ring_bracketFault_L4 x29 k39 r_Table k71 x61 k12 k ) (r_Table).length 0 ()).bind fun res98 => onRes res98 (fun r784 => some (.ret r784)) fun _ =>
  some (.next ())

def p_impl_Ring_bracketFault_L2 (r_Table : (List (List (List Int)))) (x29 : (List (List Int))) (k12 : Nat) (k39 : Nat) : Option (Ctl (Unit) ((List Int))) :=
  (idx r_Table (k39 : Int)).bind fun x61 =>
  (forN (fun k s => p_impl_Ring_bracketFault_L3 x29 k39 r_Table x61 k12 k ) (r_Table).length 0 ()).bind fun res69 => onRes res69 (fun r821 => some (.ret r821)) fun _ =>
  some (.next ())

def p_impl_Ring_bracketFault_L1 (r_Table : (List (List (List Int)))) (k12 : Nat) : Option (Ctl (Unit) ((List Int))) :=
  (idx r_Table (k12 : Int)).bind fun x29 =>
  (forN (fun k s => p_impl_Ring_bracketFault_L2 r_Table x29 k12 k ) (r_Table).length 0 ()).bind fun res37 => onRes res37 (fun r849 => some (.ret r849)) fun _ =>
  some (.next ())

def p_impl_Ring_bracketFault (r_Table : (List (List (List Int)))) : Option ((List Int)) :=
  (forN (fun k s => p_impl_Ring_bracketFault_L1 r_Table k ) (r_Table).length 0 ()).bind fun res10 => onRes res10 (fun r868 => some r868) fun _ =>
  some ([] : (List Int))

def p_impl_Ring_fault (r_Table : (List (List (List Int)))) : Option ((List Int)) :=
  (p_impl_Ring_unitFault r_Table).bind fun x9 =>
  if (!(x9).isEmpty) = true then
    some x9
  else
    (p_impl_Ring_dualFault r_Table).bind fun x19 =>
    if (decide (x19 ≥ (0 : Int))) = true then
      some ([(1 : Int), x19] : (List Int))
    else
      (p_impl_Ring_turnFault r_Table).bind fun x32 =>
      if (!(x32).isEmpty) = true then
        some x32
      else
        (p_impl_Ring_bracketFault r_Table).bind fun x42 =>
        some x42

def p_impl_IsRing (r_Table : (List (List (List Int)))) : Option (Bool) :=
  (p_impl_isCube r_Table).bind fun x9 =>
  (if x9 = true then
    (p_impl_Ring_fault r_Table).bind fun x21 =>
    some (x21).isEmpty
  else
    some false).bind fun (x16 : Bool) =>
  some x16

def p_impl_IsTrivalent_L2 (x26 : (List Int)) (k39 : Nat) (x40 : (List (Int × Int))) : Option (Ctl ((List (Int × Int))) (Unit)) :=
  (idx x26 (k39 : Int)).bind fun x60 =>
  some (.next (mpPut x40 x60 (w64 ((mpGet x40 x60) + (1 : Int)))))

def p_impl_IsTrivalent_L1 (graph : (List (List Int))) (k8 : Nat) (x9 : (List (Int × Int))) : Option (Ctl ((List (Int × Int))) (Bool)) :=
  (idx graph (k8 : Int)).bind fun x26 =>
  if (((x26).length : Int) != (3 : Int)) = true then
    some (.ret false)
  else
    (forN (fun k s => p_impl_IsTrivalent_L2 x26 k s) (x26).length 0 x9).bind fun res37 => onRes res37 (fun r96 => none) fun (x90 : (List (Int × Int))) =>
    some (.next x90)

def p_impl_IsTrivalent_L3 (x115 : (List (Int × Int))) (kx ky : Int) : Option (Ctl Unit (Bool)) :=
  (if (ky != (2 : Int)) = true then
    some true
  else
    (mpLen x115).bind fun x150 =>
    (p_impl_within kx (0 : Int) (w64 (x150 - (1 : Int)))).bind fun x154 =>
    some (!x154)).bind fun (x145 : Bool) =>
  if x145 = true then
    some (.ret false)
  else
    some (.next ())

def p_impl_IsTrivalent (graph : (List (List Int))) : Option (Bool) :=
  (forN (fun k s => p_impl_IsTrivalent_L1 graph k s) (graph).length 0 ([] : List (Int × Int))).bind fun res6 => onRes res6 (fun r188 => some r188) fun (x115 : (List (Int × Int))) =>
  (rangeM (p_impl_IsTrivalent_L3 x115) x115 false).bind fun res124 => onRes res124 (fun r187 => some r187) fun _ =>
  (mpLen x115).bind fun x171 =>
  (if (decide (x171 ≥ (1 : Int))) = true then
    (mpLen x115).bind fun x181 =>
    some (decide (x181 ≤ (9 : Int)))
  else
    some false).bind fun (x176 : Bool) =>
  some x176

def p_slices_Clone_Lint64_int64 (s1 : (List Int)) : Option ((List Int)) :=
  (appL ([] : (List Int)) s1).bind fun x6 =>
  some x6

def p_impl_Ring_opposite_L2 (r_Table : (List (List (List Int)))) (k23 : Nat) (k50 : Nat) (x51 : (List (List Int))) : Option (Ctl ((List (List Int))) (Unit)) :=
  (idx r_Table (k50 : Int)).bind fun x74 =>
  (idx x74 (k23 : Int)).bind fun x81 =>
  (p_slices_Clone_Lint64_int64 x81).bind fun x88 =>
  (appL x51 [x88]).bind fun x101 =>
  some (.next x101)

def p_impl_Ring_opposite_L1 (r_Table : (List (List (List Int)))) (k23 : Nat) (x24 : (List (List (List Int)))) : Option (Ctl ((List (List (List Int)))) (Unit)) :=
  (forN (fun k s => p_impl_Ring_opposite_L2 r_Table k23 k s) (r_Table).length 0 ([] : (List (List Int)))).bind fun res48 => onRes res48 (fun r154 => none) fun (x131 : (List (List Int))) =>
  (appL x24 [x131]).bind fun x146 =>
  some (.next x146)

def p_impl_Ring_opposite (r_Table : (List (List (List Int)))) : Option ((List (List (List Int)))) :=
  (forN (fun k s => p_impl_Ring_opposite_L1 r_Table k s) (r_Table).length 0 ([] : (List (List (List Int))))).bind fun res21 => onRes res21 (fun r182 => none) fun (x175 : (List (List (List Int)))) =>
  some x175

def p_slices_EqualFunc_LLLint64_LLLint64_LLint64_LLint64_L1 (s1 : (List (List (List Int)))) (s2 : (List (List (List Int)))) (eq : ((List (List Int)) → (List (List Int)) → Option Bool)) (k8 : Nat) : Option (Ctl (Unit) (Bool)) :=
  (idx s1 (k8 : Int)).bind fun x26 =>
  (idx s2 (k8 : Int)).bind fun x33 =>
  (eq x26 x33).bind fun x40 =>
  if (!x40) = true then
    some (.ret false)
  else
    some (.next ())

def p_slices_EqualFunc_LLLint64_LLLint64_LLint64_LLint64 (s1 : (List (List (List Int)))) (s2 : (List (List (List Int)))) (eq : (List (List Int)) → (List (List Int)) → Option Bool) : Option (Bool) :=
  if (((s1).length : Int) != ((s2).length : Int)) = true then
    some false
  else
    (forN (fun k s => p_slices_EqualFunc_LLLint64_LLLint64_LLint64_LLint64_L1 s1 s2 eq k ) (s1).length 0 ()).bind fun res6 => onRes res6 (fun r67 => some r67) fun _ =>
    some true

def p_slices_EqualFunc_LLint64_LLint64_Lint64_Lint64_L1 (s1 : (List (List Int))) (s2 : (List (List Int))) (eq : ((List Int) → (List Int) → Option Bool)) (k8 : Nat) : Option (Ctl (Unit) (Bool)) :=
  (idx s1 (k8 : Int)).bind fun x26 =>
  (idx s2 (k8 : Int)).bind fun x33 =>
  (eq x26 x33).bind fun x40 =>
  if (!x40) = true then
    some (.ret false)
  else
    some (.next ())

def p_slices_EqualFunc_LLint64_LLint64_Lint64_Lint64 (s1 : (List (List Int))) (s2 : (List (List Int))) (eq : (List Int) → (List Int) → Option Bool) : Option (Bool) :=
  if (((s1).length : Int) != ((s2).length : Int)) = true then
    some false
  else
    (forN (fun k s => p_slices_EqualFunc_LLint64_LLint64_Lint64_Lint64_L1 s1 s2 eq k ) (s1).length 0 ()).bind fun res6 => onRes res6 (fun r67 => some r67) fun _ =>
    some true

def p_slices_Equal_Lint64_int64_L1 (s1 : (List Int)) (s2 : (List Int)) (k8 : Nat) : Option (Ctl (Unit) (Bool)) :=
  (idx s1 (k8 : Int)).bind fun x54 =>
  (idx s2 (k8 : Int)).bind fun x100 =>
  if (x54 != x100) = true then
    some (.ret false)
  else
    some (.next ())

def p_slices_Equal_Lint64_int64 (s1 : (List Int)) (s2 : (List Int)) : Option (Bool) :=
  if (((s1).length : Int) != ((s2).length : Int)) = true then
    some false
  else
    (forN (fun k s => p_slices_Equal_Lint64_int64_L1 s1 s2 k ) (s1).length 0 ()).bind fun res6 => onRes res6 (fun r154 => some r154) fun _ =>
    some true

def p_impl_equalTables_c1 (x : (List (List Int))) (y : (List (List Int))) : Option (Bool) :=
  (p_slices_EqualFunc_LLint64_LLint64_Lint64_Lint64 x y (fun a0_2 a1_2 => p_slices_Equal_Lint64_int64 a0_2 a1_2)).bind fun x5 =>
  some x5

def p_impl_equalTables (a : (List (List (List Int)))) (b : (List (List (List Int)))) : Option (Bool) :=
  (p_slices_EqualFunc_LLLint64_LLLint64_LLint64_LLint64 a b (fun a0_2 a1_2 => p_impl_equalTables_c1 a0_2 a1_2)).bind fun x5 =>
  some x5

def p_impl_Ring_isCommutative (r_Table : (List (List (List Int)))) : Option (Bool) :=
  (p_impl_Ring_opposite r_Table).bind fun x43 =>
  (p_impl_equalTables r_Table x43).bind fun x71 =>
  some x71

def p_slices_Max_Lint64_int64_L1 (x : (List Int)) (k18 : Nat) (x19 : Int) : Option (Ctl (Int) (Unit)) :=
  (idx x ((1 : Int) + (k18 : Int))).bind fun x37 =>
  some (.next (if x37 > x19 then x37 else x19))

def p_slices_Max_Lint64_int64 (x : (List Int)) : Option (Int) :=
  (if (decide (((x).length : Int) < (1 : Int))) = true then
    none
  else
    some ()).bind fun (_ : Unit) =>
  (idx x (0 : Int)).bind fun x9 =>
  (forN (fun k s => p_slices_Max_Lint64_int64_L1 x k s) (((x).length : Int) - (1 : Int)).toNat 0 x9).bind fun res16 => onRes res16 (fun r67 => none) fun (x63 : Int) =>
  some x63

def p_impl_Ring_greatest_L2 (x31 : (List (List Int))) (k41 : Nat) (x42 : Int) : Option (Ctl (Int) (Unit)) :=
  (idx x31 (k41 : Int)).bind fun x63 =>
  (p_slices_Max_Lint64_int64 x63).bind fun x70 =>
  some (.next (if x70 > x42 then x70 else x42))

def p_impl_Ring_greatest_L1 (r_Table : (List (List (List Int)))) (k12 : Nat) (x13 : Int) : Option (Ctl (Int) (Unit)) :=
  (idx r_Table (k12 : Int)).bind fun x31 =>
  (forN (fun k s => p_impl_Ring_greatest_L2 x31 k s) (x31).length 0 x13).bind fun res39 => onRes res39 (fun r106 => none) fun (x99 : Int) =>
  some (.next x99)

def p_impl_Ring_greatest (r_Table : (List (List (List Int)))) : Option (Int) :=
  (forN (fun k s => p_impl_Ring_greatest_L1 r_Table k s) (r_Table).length 0 (0 : Int)).bind fun res10 => onRes res10 (fun r130 => none) fun (x126 : Int) =>
  some x126

def p_impl_Ring_labellings_L1 (r_Table : (List (List (List Int)))) (k11 : Nat) (x12 : Int) : Option (Ctl (Int) (Int)) :=
  if (decide ((w64 (x12 * ((r_Table).length : Int))) > (300000 : Int))) = true then
    some (.ret (-1 : Int))
  else
    some (.next (w64 (x12 * ((r_Table).length : Int))))

def p_impl_Ring_labellings_L2 (x60 : Int) (k69 : Nat) (x70 : Int) : Option (Ctl (Int) (Int)) :=
  if (decide ((w64 (x70 * x60)) > (1000000000000000 : Int))) = true then
    some (.ret (-1 : Int))
  else
    some (.next (w64 (x70 * x60)))

def p_impl_Ring_labellings (r_Table : (List (List (List Int)))) (edges : Int) (vertices : Int) : Option (Int) :=
  (forN (fun k s => p_impl_Ring_labellings_L1 r_Table k s) (edges).toNat 0 (1 : Int)).bind fun res9 => onRes res9 (fun r115 => some r115) fun (x54 : Int) =>
  (p_impl_Ring_greatest r_Table).bind fun x60 =>
  (forN (fun k s => p_impl_Ring_labellings_L2 x60 k s) (vertices).toNat 0 x54).bind fun res67 => onRes res67 (fun r114 => some r114) fun (x111 : Int) =>
  some x54

def p_impl_GraphDimension_L2 (r_Table : (List (List (List Int)))) (k345 : Nat) (x346 : (List Int)) (x347 : Int) : Option (Ctl ((List Int) × Int) (Unit)) :=
  (remI x347 ((r_Table).length : Int)).bind fun x375 =>
  (idx x346 (k345 : Int)).bind fun x379 =>
  (quoI .i64 x347 ((r_Table).length : Int)).bind fun x385 =>
  some (.next (((x346).set ((k345 : Int)).toNat x375), x385))

def p_impl_GraphDimension_L4 (x466 : (List Int)) (x419 : (List Int)) (x216 : (List Int)) (k483 : Nat) (x484 : (List Bool)) (x485 : (List Int)) : Option (Ctl ((List Bool) × (List Int)) (Unit)) :=
  (idx x466 (k483 : Int)).bind fun x516 =>
  (idx x419 x516).bind fun x523 =>
  (idx x485 (k483 : Int)).bind fun x530 =>
  (idx x484 x516).bind fun x538 =>
  (if x538 = true then
    (idx x216 x523).bind fun x551 =>
    (idx ((x485).set ((k483 : Int)).toNat x523) (k483 : Int)).bind fun x558 =>
    some ((((x485).set ((k483 : Int)).toNat x523)).set ((k483 : Int)).toNat x551)
  else
    some ((x485).set ((k483 : Int)).toNat x523)).bind fun (x545 : (List Int)) =>
  some (.next (((x484).set (x516).toNat true), x545))

def p_impl_GraphDimension_L3 (graph : (List (List Int))) (x419 : (List Int)) (x216 : (List Int)) (r_Table : (List (List (List Int)))) (k436 : Nat) (x437 : (List Bool)) (x438 : Int) : Option (Ctl ((List Bool) × Int) (Unit)) :=
  (idx graph (k436 : Int)).bind fun x466 =>
  (forN (fun k s => p_impl_GraphDimension_L4 x466 x419 x216 k s.1 s.2) (x466).length 0 (x437, ([(0 : Int), (0 : Int), (0 : Int)] : List Int))).bind fun res481 => onRes res481 (fun r896 => none) fun (s623p : (List Bool) × (List Int)) =>
  (idx s623p.2 (0 : Int)).bind fun x673 =>
  (idx r_Table x673).bind fun x704 =>
  (idx s623p.2 (1 : Int)).bind fun x728 =>
  (idx x704 x728).bind fun x759 =>
  (idx s623p.2 (2 : Int)).bind fun x790 =>
  (idx x216 x790).bind fun x821 =>
  (idx x759 x821).bind fun x853 =>
  some (.next (s623p.1, (w64 (x438 * x853))))

def p_impl_GraphDimension_L1 (graph : (List (List Int))) (r_Table : (List (List (List Int)))) (x216 : (List Int)) (k231 : Nat) (x232 : Int) : Option (Ctl (Int) (Unit)) :=
  (mkL (w64 (((w64 (((graph).length : Int) * (3 : Int)))).tdiv (2 : Int))) (0 : Int)).bind fun x272 =>
  (mkL (w64 (((w64 (((graph).length : Int) * (3 : Int)))).tdiv (2 : Int))) false).bind fun x300 =>
  (forN (fun k s => p_impl_GraphDimension_L2 r_Table k s.1 s.2) (x272).length 0 (x272, (k231 : Int))).bind fun res343 => onRes res343 (fun r941 => none) fun (s418p : (List Int) × Int) =>
  (forN (fun k s => p_impl_GraphDimension_L3 graph s418p.1 x216 r_Table k s.1 s.2) (graph).length 0 (x300, (1 : Int))).bind fun res434 => onRes res434 (fun r940 => none) fun (s926p : (List Bool) × Int) =>
  some (.next (w64 (x232 + s926p.2)))

def p_impl_GraphDimension (r_Table : (List (List (List Int)))) (graph : (List (List Int))) : Option (Int × Int) :=
  (p_impl_IsRing r_Table).bind fun x9 =>
  (if (!x9) = true then
    some true
  else
    (p_impl_IsTrivalent graph).bind fun x21 =>
    some (!x21)).bind fun (x16 : Bool) =>
  if x16 = true then
    some ((0 : Int), (1 : Int))
  else
    (p_impl_Ring_isCommutative r_Table).bind fun x33 =>
    if (!x33) = true then
      some ((0 : Int), (5 : Int))
    else
      (p_impl_Ring_labellings r_Table (w64 (((w64 (((graph).length : Int) * (3 : Int)))).tdiv (2 : Int))) ((graph).length : Int)).bind fun x187 =>
      (p_impl_Ring_duals r_Table).bind fun x216 =>
      if (decide (x187 < (0 : Int))) = true then
        some ((0 : Int), (3 : Int))
      else
        (forN (fun k s => p_impl_GraphDimension_L1 graph r_Table x216 k s) (x187).toNat 0 (0 : Int)).bind fun res229 => onRes res229 (fun r969 => none) fun (x965 : Int) =>
        some (x965, (0 : Int))

def p_laws_eqInt64S_L1 (a : (List Int)) (b : (List Int)) (k7 : Nat) : Option (Ctl (Unit) (Bool)) :=
  (idx a (k7 : Int)).bind fun x53 =>
  (idx b (k7 : Int)).bind fun x99 =>
  if (x53 != x99) = true then
    some (.ret false)
  else
    some (.next ())

def p_laws_eqInt64S (a : (List Int)) (b : (List Int)) : Option (Bool) :=
  if (((a).length : Int) != ((b).length : Int)) = true then
    some false
  else
    (forN (fun k s => p_laws_eqInt64S_L1 a b k ) (a).length 0 ()).bind fun res5 => onRes res5 (fun r152 => some r152) fun _ =>
    some true

def p_laws_eqInt64SS_L1 (a : (List (List Int))) (b : (List (List Int))) (k7 : Nat) : Option (Ctl (Unit) (Bool)) :=
  (idx a (k7 : Int)).bind fun x53 =>
  (idx b (k7 : Int)).bind fun x99 =>
  (p_laws_eqInt64S x53 x99).bind fun x130 =>
  if (!x130) = true then
    some (.ret false)
  else
    some (.next ())

def p_laws_eqInt64SS (a : (List (List Int))) (b : (List (List Int))) : Option (Bool) :=
  if (((a).length : Int) != ((b).length : Int)) = true then
    some false
  else
    (forN (fun k s => p_laws_eqInt64SS_L1 a b k ) (a).length 0 ()).bind fun res5 => onRes res5 (fun r156 => some r156) fun _ =>
    some true

def p_laws_eqInt64SSS_L1 (a : (List (List (List Int)))) (b : (List (List (List Int)))) (k7 : Nat) : Option (Ctl (Unit) (Bool)) :=
  (idx a (k7 : Int)).bind fun x53 =>
  (idx b (k7 : Int)).bind fun x99 =>
  (p_laws_eqInt64SS x53 x99).bind fun x130 =>
  if (!x130) = true then
    some (.ret false)
  else
    some (.next ())

def p_laws_eqInt64SSS (a : (List (List (List Int)))) (b : (List (List (List Int)))) : Option (Bool) :=
  if (((a).length : Int) != ((b).length : Int)) = true then
    some false
  else
    (forN (fun k s => p_laws_eqInt64SSS_L1 a b k ) (a).length 0 ()).bind fun res5 => onRes res5 (fun r156 => some r156) fun _ =>
    some true

def p_laws_eqRing (a_Table : (List (List (List Int)))) (b_Table : (List (List (List Int)))) : Option (Bool) :=
  (p_laws_eqInt64SSS a_Table b_Table).bind fun x18 =>
  if (!x18) = true then
    some false
  else
    some true

def p_laws_FnExactGraphDimension (aR_Table : (List (List (List Int)))) (aGraph : (List (List Int))) : Option (Bool) :=
  (p_laws_szRing aR_Table (1048576 : Int)).bind fun x9 =>
  if (decide (x9 < (0 : Int))) = true then
    some true
  else
    (p_laws_szInt64SS aGraph x9).bind fun x18 =>
    if (decide (x18 < (0 : Int))) = true then
      some true
    else
      (p_laws_toRing aR_Table).bind fun x27 =>
      (p_laws_toInt64SS aGraph).bind fun x38 =>
      (p_spec_GraphDimension x27 x38).bind fun x50 =>
      (p_laws_toRing aR_Table).bind fun x58 =>
      (p_laws_toInt64SS aGraph).bind fun x71 =>
      (p_impl_GraphDimension x58 x71).bind fun x78 =>
      if ((x78.1 != x50.1) || (x78.2 != x50.2)) = true then
        some false
      else
        (p_laws_toRing aR_Table).bind fun x122 =>
        (p_laws_eqRing x58 x122).bind fun x143 =>
        if (!x143) = true then
          some false
        else
          (p_laws_toInt64SS aGraph).bind fun x151 =>
          (p_laws_eqInt64SS x71 x151).bind fun x158 =>
          if (!x158) = true then
            some false
          else
            some true

def p_spec_l08Code (r_Table : (List (List (List Int)))) : Option (Int) :=
  (p_spec_l03Is r_Table).bind fun x9 =>
  if (!x9) = true then
    some (1 : Int)
  else
    (p_spec_l03Commutative r_Table).bind fun x17 =>
    if (!x17) = true then
      some (5 : Int)
    else
      some (0 : Int)

def p_impl_commuteCode (r_Table : (List (List (List Int)))) : Option (Int) :=
  (p_impl_IsRing r_Table).bind fun x9 =>
  if (!x9) = true then
    some (1 : Int)
  else
    (p_impl_Ring_isCommutative r_Table).bind fun x17 =>
    if (!x17) = true then
      some (5 : Int)
    else
      some (0 : Int)

end
end Go.VG
