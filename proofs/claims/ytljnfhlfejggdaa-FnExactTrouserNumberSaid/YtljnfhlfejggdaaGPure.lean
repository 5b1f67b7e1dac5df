/- The functions' plain twins, as a program of ours printed them. No proof. -/
import Derived.Test.YtljnfhlfejggdaaVgPure
set_option linter.all false
namespace Go.VG
noncomputable section

def p_laws_szInt64S (a : (List Int)) (left : Int) : Option (Int) :=
  if (decide ((w64 (left - ((a).length : Int))) < (0 : Int))) = true then
    some (-1 : Int)
  else
    some (w64 (left - ((a).length : Int)))

def p_laws_szInt64SS_L1 (a : (List (List Int))) (k6 : Nat) (x7 : Int) : Option (Ctl (Int) (Int)) :=
  (idx a (k6 : Int)).bind fun x25 =>
  (p_laws_szInt64S x25 x7).bind fun x32 =>
  if (decide (x32 < (0 : Int))) = true then
    some (.ret (-1 : Int))
  else
    some (.next x32)

def p_laws_szInt64SS (a : (List (List Int))) (left : Int) : Option (Int) :=
  if (decide ((w64 (left - ((a).length : Int))) < (0 : Int))) = true then
    some (-1 : Int)
  else
    (forN (fun k s => p_laws_szInt64SS_L1 a k s) (a).length 0 (w64 (left - ((a).length : Int)))).bind fun res4 => onRes res4 (fun r64 => some r64) fun (x60 : Int) =>
    some x60

def p_laws_toInt64S_L1 (a : (List Int)) (k10 : Nat) (x11 : (List Int)) : Option (Ctl ((List Int)) (Unit)) :=
  (idx a (k10 : Int)).bind fun x28 =>
  (idx x11 (k10 : Int)).bind fun x35 =>
  some (.next ((x11).set ((k10 : Int)).toNat x28))

def p_laws_toInt64S (a : (List Int)) : Option ((List Int)) :=
  (mkL ((a).length : Int) (0 : Int)).bind fun x2 =>
  (forN (fun k s => p_laws_toInt64S_L1 a k s) (a).length 0 x2).bind fun res8 => onRes res8 (fun r62 => none) fun (x59 : (List Int)) =>
  some x59

def p_laws_toInt64SS_L1 (a : (List (List Int))) (k10 : Nat) (x11 : (List (List Int))) : Option (Ctl ((List (List Int))) (Unit)) :=
  (idx a (k10 : Int)).bind fun x28 =>
  (p_laws_toInt64S x28).bind fun x35 =>
  (idx x11 (k10 : Int)).bind fun x42 =>
  some (.next ((x11).set ((k10 : Int)).toNat x35))

def p_laws_toInt64SS (a : (List (List Int))) : Option ((List (List Int))) :=
  (mkL ((a).length : Int) ([] : (List Int))).bind fun x2 =>
  (forN (fun k s => p_laws_toInt64SS_L1 a k s) (a).length 0 x2).bind fun res8 => onRes res8 (fun r69 => none) fun (x66 : (List (List Int))) =>
  some x66

def p_spec_l01In (n : Int) (low : Int) (high : Int) : Option (Bool) :=
  some ((decide (n ≥ low)) && (decide (n ≤ high)))

def p_spec_l08Duals_L1 (duals : (List Int)) (n : Int) (k6 : Nat) : Option (Ctl (Unit) (Bool)) :=
  (idx duals (k6 : Int)).bind fun x22 =>
  (p_spec_l01In x22 (0 : Int) (w64 (n - (1 : Int)))).bind fun x29 =>
  if (!x29) = true then
    some (.ret false)
  else
    some (.next ())

def p_spec_l08Duals_L2 (duals : (List Int)) (k58 : Nat) : Option (Ctl (Unit) (Bool)) :=
  (idx duals (k58 : Int)).bind fun x74 =>
  (idx duals x74).bind fun x81 =>
  if (x81 != (k58 : Int)) = true then
    some (.ret false)
  else
    some (.next ())

def p_spec_l08Duals (n : Int) (duals : (List Int)) : Option (Bool) :=
  if (((duals).length : Int) != n) = true then
    some false
  else
    (forN (fun k s => p_spec_l08Duals_L1 duals n k ) (n).toNat 0 ()).bind fun res4 => onRes res4 (fun r108 => some r108) fun _ =>
    (forN (fun k s => p_spec_l08Duals_L2 duals k ) (n).toNat 0 ()).bind fun res56 => onRes res56 (fun r107 => some r107) fun _ =>
    some true

def p_spec_l01Number (n : Int) : Option (Bool) :=
  (p_spec_l01In n (0 : Int) (55440 : Int)).bind fun x1 =>
  some x1

def p_spec_l01Numbers_L1 (list : (List Int)) (k3 : Nat) : Option (Ctl (Unit) (Bool)) :=
  (idx list (k3 : Int)).bind fun x19 =>
  (p_spec_l01Number x19).bind fun x26 =>
  if (!x26) = true then
    some (.ret false)
  else
    some (.next ())

def p_spec_l01Numbers (list : (List Int)) : Option (Bool) :=
  (forN (fun k s => p_spec_l01Numbers_L1 list k ) (list).length 0 ()).bind fun res1 => onRes res1 (fun r51 => some r51) fun _ =>
  some true

def p_spec_l08Pair_L1 (x : (List Int)) (duals : (List Int)) (y : (List Int)) (k3 : Nat) (x4 : Int) : Option (Ctl (Int) (Unit)) :=
  (idx x (k3 : Int)).bind fun x54 =>
  (idx duals (k3 : Int)).bind fun x98 =>
  (idx y x98).bind fun x121 =>
  some (.next (((w64 (x4 + (w64 (x54 * x121))))).tmod (55441 : Int)))

def p_spec_l08Pair (x : (List Int)) (y : (List Int)) (duals : (List Int)) : Option (Int) :=
  (forN (fun k s => p_spec_l08Pair_L1 x duals y k s) (x).length 0 (0 : Int)).bind fun res1 => onRes res1 (fun r184 => none) fun (x180 : Int) =>
  some x180

def p_spec_l01Pow_L1  (x4 : Int) (x5 : Int) (x6 : Int) : Option (Ctl (Int × Int × Int) (Unit)) :=
  if (decide (x5 > (0 : Int))) = true then
    (if (((x5).tmod (2 : Int)) == (1 : Int)) = true then
      some (((w64 (x6 * x4))).tmod (55441 : Int))
    else
      some x6).bind fun (x24 : Int) =>
    some (.next ((((w64 (x4 * x4))).tmod (55441 : Int)), (w64 ((x5).tdiv (2 : Int))), x24))
  else
    some (.brk (x4, x5, x6))

def p_spec_l01Pow (a : Int) (k1 : Int) : Option (Int) :=
  (whileC (fun s => p_spec_l01Pow_L1  s.1 s.2.1 s.2.2) (a, k1, (1 : Int))).bind fun res1 => onRes res1 (fun r46 => none) fun (s39p : Int × Int × Int) =>
  some s39p.2.2

def p_spec_l01Inv (a : Int) : Option (Int) :=
  (p_spec_l01Pow a (55439 : Int)).bind fun x1 =>
  some x1

def p_spec_l03Cube_L3 (x62 : (List Int)) (k74 : Nat) : Option (Ctl (Unit) (Bool)) :=
  (idx x62 (k74 : Int)).bind fun x98 =>
  (p_spec_l01In x98 (0 : Int) (1000 : Int)).bind fun x105 =>
  if (!x105) = true then
    some (.ret false)
  else
    some (.next ())

def p_spec_l03Cube_L2 (x30 : (List (List Int))) (t : (List (List (List Int)))) (k42 : Nat) : Option (Ctl (Unit) (Bool)) :=
  (idx x30 (k42 : Int)).bind fun x62 =>
  if (((x62).length : Int) != ((t).length : Int)) = true then
    some (.ret false)
  else
    (forN (fun k s => p_spec_l03Cube_L3 x62 k ) (t).length 0 ()).bind fun res72 => onRes res72 (fun r136 => some (.ret r136)) fun _ =>
    some (.next ())

def p_spec_l03Cube_L1 (t : (List (List (List Int)))) (k14 : Nat) : Option (Ctl (Unit) (Bool)) :=
  (idx t (k14 : Int)).bind fun x30 =>
  if (((x30).length : Int) != ((t).length : Int)) = true then
    some (.ret false)
  else
    (forN (fun k s => p_spec_l03Cube_L2 x30 t k ) (t).length 0 ()).bind fun res40 => onRes res40 (fun r158 => some (.ret r158)) fun _ =>
    some (.next ())

def p_spec_l03Cube (t : (List (List (List Int)))) : Option (Bool) :=
  if ((decide (((t).length : Int) < (1 : Int))) || (decide (((t).length : Int) > (16 : Int)))) = true then
    some false
  else
    (forN (fun k s => p_spec_l03Cube_L1 t k ) (t).length 0 ()).bind fun res12 => onRes res12 (fun r176 => some r176) fun _ =>
    some true

def p_spec_l03Dual_L1 (t : (List (List (List Int)))) (i : Int) (k3 : Nat) (x4 : Int) : Option (Ctl (Int) (Int)) :=
  (idx t i).bind fun x23 =>
  (idx x23 (k3 : Int)).bind fun x30 =>
  (idx x30 (0 : Int)).bind fun x37 =>
  if ((x37 == (1 : Int)) && (decide (x4 < (0 : Int)))) = true then
    some (.next (k3 : Int))
  else
    if (x37 != (0 : Int)) = true then
      some (.ret (-1 : Int))
    else
      some (.next x4)

def p_spec_l03Dual (t : (List (List (List Int)))) (i : Int) : Option (Int) :=
  (forN (fun k s => p_spec_l03Dual_L1 t i k s) (t).length 0 (-1 : Int)).bind fun res1 => onRes res1 (fun r91 => some r91) fun (x87 : Int) =>
  some x87

def p_spec_l03Fault_L2 (k4 : Nat) (t : (List (List (List Int)))) (k22 : Nat) : Option (Ctl (Unit) ((List Int))) :=
  (if ((k4 : Int) == (k22 : Int)) = true then
    some (1 : Int)
  else
    some (0 : Int)).bind fun (x39 : Int) =>
  (idx t (0 : Int)).bind fun x52 =>
  (idx x52 (k4 : Int)).bind fun x59 =>
  (idx x59 (k22 : Int)).bind fun x66 =>
  (if (x66 != x39) = true then
    some true
  else
    (idx t (k4 : Int)).bind fun x79 =>
    (idx x79 (0 : Int)).bind fun x86 =>
    (idx x86 (k22 : Int)).bind fun x93 =>
    some (x93 != x39)).bind fun (x74 : Bool) =>
  if x74 = true then
    some (.ret ([(0 : Int), (k4 : Int), (k22 : Int)] : (List Int)))
  else
    some (.next ())

def p_spec_l03Fault_L1 (t : (List (List (List Int)))) (k4 : Nat) : Option (Ctl (Unit) ((List Int))) :=
  (forN (fun k s => p_spec_l03Fault_L2 k4 t k ) (t).length 0 ()).bind fun res20 => onRes res20 (fun r133 => some (.ret r133)) fun _ =>
  some (.next ())

def p_spec_l03Fault_L3 (t : (List (List (List Int)))) (k159 : Nat) (x160 : (List Int)) : Option (Ctl ((List Int)) (Unit)) :=
  (p_spec_l03Dual t (k159 : Int)).bind fun x178 =>
  (appL x160 ([x178] : (List Int))).bind fun x189 =>
  some (.next x189)

def p_spec_l03Fault_L4 (x214 : (List Int)) (k222 : Nat) : Option (Ctl (Unit) ((List Int))) :=
  (idx x214 (k222 : Int)).bind fun x239 =>
  (if (decide (x239 < (0 : Int))) = true then
    some true
  else
    (idx x214 x239).bind fun x255 =>
    some (x255 != (k222 : Int))).bind fun (x247 : Bool) =>
  if x247 = true then
    some (.ret ([(1 : Int), (k222 : Int)] : (List Int)))
  else
    some (.next ())

def p_spec_l03Fault_L7 (t : (List (List (List Int)))) (k297 : Nat) (k316 : Nat) (x214 : (List Int)) (k336 : Nat) : Option (Ctl (Unit) ((List Int))) :=
  (idx t (k297 : Int)).bind fun x378 =>
  (idx x378 (k316 : Int)).bind fun x408 =>
  (idx x408 (k336 : Int)).bind fun x438 =>
  (idx x214 (k297 : Int)).bind fun x482 =>
  (idx t x482).bind fun x505 =>
  (idx x505 (k336 : Int)).bind fun x535 =>
  (idx x535 (k316 : Int)).bind fun x565 =>
  (if (x438 != x565) = true then
    some true
  else
    (idx t (k336 : Int)).bind fun x894 =>
    (idx x214 (k316 : Int)).bind fun x935 =>
    (idx x894 x935).bind fun x960 =>
    (idx x960 (k297 : Int)).bind fun x993 =>
    some (x438 != x993)).bind fun (x596 : Bool) =>
  if x596 = true then
    some (.ret ([(2 : Int), (k297 : Int), (k316 : Int), (k336 : Int)] : (List Int)))
  else
    some (.next ())

def p_spec_l03Fault_L6 (t : (List (List (List Int)))) (k297 : Nat) (x214 : (List Int)) (k316 : Nat) : Option (Ctl (Unit) ((List Int))) :=
  (forN (fun k s => p_spec_l03Fault_L7 t k297 k316 x214 k ) (t).length 0 ()).bind fun res334 => onRes res334 (fun r1095 => some (.ret r1095)) fun _ =>
  some (.next ())

def p_spec_l03Fault_L5 (t : (List (List (List Int)))) (x214 : (List Int)) (k297 : Nat) : Option (Ctl (Unit) ((List Int))) :=
  (forN (fun k s => p_spec_l03Fault_L6 t k297 x214 k ) (t).length 0 ()).bind fun res314 => onRes res314 (fun r1119 => some (.ret r1119)) fun _ =>
  some (.next ())

def p_spec_l03Fault_L12 (t : (List (List (List Int)))) (k1142 : Nat) (k1160 : Nat) (k1179 : Nat) (k1199 : Nat) (k1220 : Nat) (x1221 : Int) (x1222 : Int) : Option (Ctl (Int × Int) (Unit)) :=
  (idx t (k1142 : Int)).bind fun x1276 =>
  (idx x1276 (k1160 : Int)).bind fun x1306 =>
  (idx x1306 (k1220 : Int)).bind fun x1336 =>
  (idx t (k1220 : Int)).bind fun x1373 =>
  (idx x1373 (k1179 : Int)).bind fun x1403 =>
  (idx x1403 (k1199 : Int)).bind fun x1433 =>
  (idx t (k1160 : Int)).bind fun x1505 =>
  (idx x1505 (k1179 : Int)).bind fun x1535 =>
  (idx x1535 (k1220 : Int)).bind fun x1565 =>
  (idx x1276 (k1220 : Int)).bind fun x1628 =>
  (idx x1628 (k1199 : Int)).bind fun x1658 =>
  some (.next ((w64 (x1221 + (w64 (x1336 * x1433)))), (w64 (x1222 + (w64 (x1565 * x1658))))))

def p_spec_l03Fault_L11 (t : (List (List (List Int)))) (k1142 : Nat) (k1160 : Nat) (k1179 : Nat) (k1199 : Nat) : Option (Ctl (Unit) ((List Int))) :=
  (forN (fun k s => p_spec_l03Fault_L12 t k1142 k1160 k1179 k1199 k s.1 s.2) (t).length 0 ((0 : Int), (0 : Int))).bind fun res1218 => onRes res1218 (fun r1745 => none) fun (s1725p : Int × Int) =>
  if (s1725p.1 != s1725p.2) = true then
    some (.ret ([(3 : Int), (k1142 : Int), (k1160 : Int), (k1179 : Int), (k1199 : Int)] : (List Int)))
  else
    some (.next ())

def p_spec_l03Fault_L10 (t : (List (List (List Int)))) (k1142 : Nat) (k1160 : Nat) (k1179 : Nat) : Option (Ctl (Unit) ((List Int))) :=
  (forN (fun k s => p_spec_l03Fault_L11 t k1142 k1160 k1179 k ) (t).length 0 ()).bind fun res1197 => onRes res1197 (fun r1771 => some (.ret r1771)) fun _ =>
  some (.next ())

def p_spec_l03Fault_L9 (t : (List (List (List Int)))) (k1142 : Nat) (k1160 : Nat) : Option (Ctl (Unit) ((List Int))) :=
  (forN (fun k s => p_spec_l03Fault_L10 t k1142 k1160 k ) (t).length 0 ()).bind fun res1177 => onRes res1177 (fun r1795 => some (.ret r1795)) fun _ =>
  some (.next ())

def p_spec_l03Fault_L8 (t : (List (List (List Int)))) (k1142 : Nat) : Option (Ctl (Unit) ((List Int))) :=
  (forN (fun k s => p_spec_l03Fault_L9 t k1142 k ) (t).length 0 ()).bind fun res1158 => onRes res1158 (fun r1817 => some (.ret r1817)) fun _ =>
  some (.next ())

def p_spec_l03Fault (t : (List (List (List Int)))) : Option ((List Int)) :=
  (forN (fun k s => p_spec_l03Fault_L1 t k ) (t).length 0 ()).bind fun res2 => onRes res2 (fun r1839 => some r1839) fun _ =>
  (forN (fun k s => p_spec_l03Fault_L3 t k s) (t).length 0 ([] : (List Int))).bind fun res157 => onRes res157 (fun r1838 => none) fun (x214 : (List Int)) =>
  (forN (fun k s => p_spec_l03Fault_L4 x214 k ) (t).length 0 ()).bind fun res220 => onRes res220 (fun r1837 => some r1837) fun _ =>
  (forN (fun k s => p_spec_l03Fault_L5 t x214 k ) (t).length 0 ()).bind fun res295 => onRes res295 (fun r1836 => some r1836) fun _ =>
  (forN (fun k s => p_spec_l03Fault_L8 t k ) (t).length 0 ()).bind fun res1140 => onRes res1140 (fun r1835 => some r1835) fun _ =>
  some ([] : (List Int))

def p_spec_l03Is (r_Table : (List (List (List Int)))) : Option (Bool) :=
  (p_spec_l03Cube r_Table).bind fun x9 =>
  (if x9 = true then
    (p_spec_l03Fault r_Table).bind fun x21 =>
    some (((x21).length : Int) == (0 : Int))
  else
    some false).bind fun (x16 : Bool) =>
  some x16

def p_spec_l01Same_L1 (a : (List Int)) (b : (List Int)) (k7 : Nat) : Option (Ctl (Unit) (Bool)) :=
  (idx a (k7 : Int)).bind fun x47 =>
  (idx b (k7 : Int)).bind fun x84 =>
  if (x47 != x84) = true then
    some (.ret false)
  else
    some (.next ())

def p_spec_l01Same (a : (List Int)) (b : (List Int)) : Option (Bool) :=
  if (((a).length : Int) != ((b).length : Int)) = true then
    some false
  else
    (forN (fun k s => p_spec_l01Same_L1 a b k ) (a).length 0 ()).bind fun res5 => onRes res5 (fun r131 => some r131) fun _ =>
    some true

def p_spec_l03Commutative_L2 (r_Table : (List (List (List Int)))) (k11 : Nat) (k29 : Nat) : Option (Ctl (Unit) (Bool)) :=
  (idx r_Table (k11 : Int)).bind fun x75 =>
  (idx x75 (k29 : Int)).bind fun x105 =>
  (idx r_Table (k29 : Int)).bind fun x149 =>
  (idx x149 (k11 : Int)).bind fun x179 =>
  (p_spec_l01Same x105 x179).bind fun x204 =>
  if (!x204) = true then
    some (.ret false)
  else
    some (.next ())

def p_spec_l03Commutative_L1 (r_Table : (List (List (List Int)))) (k11 : Nat) : Option (Ctl (Unit) (Bool)) :=
  (forN (fun k s => p_spec_l03Commutative_L2 r_Table k11 k ) ((k11 : Int)).toNat 0 ()).bind fun res27 => onRes res27 (fun r231 => some (.ret r231)) fun _ =>
  some (.next ())

def p_spec_l03Commutative (r_Table : (List (List (List Int)))) : Option (Bool) :=
  (forN (fun k s => p_spec_l03Commutative_L1 r_Table k ) (r_Table).length 0 ()).bind fun res9 => onRes res9 (fun r249 => some r249) fun _ =>
  some true

def p_spec_l03Duals_L1 (r_Table : (List (List (List Int)))) (k15 : Nat) (x16 : (List Int)) : Option (Ctl ((List Int)) (Unit)) :=
  (p_spec_l03Dual r_Table (k15 : Int)).bind fun x34 =>
  (appL x16 ([x34] : (List Int))).bind fun x45 =>
  some (.next x45)

def p_spec_l03Duals (r_Table : (List (List (List Int)))) : Option ((List Int)) :=
  (forN (fun k s => p_spec_l03Duals_L1 r_Table k s) (r_Table).length 0 ([] : (List Int))).bind fun res13 => onRes res13 (fun r74 => none) fun (x70 : (List Int)) =>
  some x70

def p_spec_l08Ring_L1 (table : (List (List Int))) (duals : (List Int)) (k12 : Nat) (x13 : (List Int)) : Option (Ctl ((List Int)) ((List (List (List Int))) × Bool)) :=
  (idx table (k12 : Int)).bind fun x56 =>
  (p_spec_l08Pair x56 x56 duals).bind fun x125 =>
  if (x125 == (0 : Int)) = true then
    some (.ret (([] : (List (List (List Int)))), false))
  else
    (p_spec_l01Inv x125).bind fun x137 =>
    (appL x13 ([x137] : (List Int))).bind fun x148 =>
    some (.next x148)

def p_spec_l08Ring_L5 (table : (List (List Int))) (k192 : Nat) (k220 : Nat) (duals : (List Int)) (k250 : Nat) (x175 : (List Int)) (k278 : Nat) (x279 : Int) : Option (Ctl (Int) (Unit)) :=
  (idx table (k278 : Int)).bind fun x306 =>
  (idx x306 (k192 : Int)).bind fun x343 =>
  (idx x306 (k220 : Int)).bind fun x380 =>
  (idx duals (k250 : Int)).bind fun x442 =>
  (idx x306 x442).bind fun x465 =>
  (idx x175 (k278 : Int)).bind fun x520 =>
  some (.next (((w64 (x279 + (w64 ((((w64 ((((w64 (x343 * x380))).tmod (55441 : Int)) * x465))).tmod (55441 : Int)) * x520))))).tmod (55441 : Int)))

def p_spec_l08Ring_L4 (table : (List (List Int))) (k192 : Nat) (k220 : Nat) (duals : (List Int)) (x175 : (List Int)) (k250 : Nat) (x251 : (List Int)) : Option (Ctl ((List Int)) (Unit)) :=
  (forN (fun k s => p_spec_l08Ring_L5 table k192 k220 duals k250 x175 k s) (table).length 0 (0 : Int)).bind fun res276 => onRes res276 (fun r619 => none) fun (x594 : Int) =>
  (appL x251 ([x594] : (List Int))).bind fun x613 =>
  some (.next x613)

def p_spec_l08Ring_L3 (table : (List (List Int))) (k192 : Nat) (duals : (List Int)) (x175 : (List Int)) (k220 : Nat) (x221 : (List (List Int))) : Option (Ctl ((List (List Int))) (Unit)) :=
  (forN (fun k s => p_spec_l08Ring_L4 table k192 k220 duals x175 k s) (table).length 0 ([] : (List Int))).bind fun res248 => onRes res248 (fun r671 => none) fun (x646 : (List Int)) =>
  (appL x221 [x646]).bind fun x665 =>
  some (.next x665)

def p_spec_l08Ring_L2 (table : (List (List Int))) (duals : (List Int)) (x175 : (List Int)) (k192 : Nat) (x193 : (List (List (List Int)))) : Option (Ctl ((List (List (List Int)))) (Unit)) :=
  (forN (fun k s => p_spec_l08Ring_L3 table k192 duals x175 k s) (table).length 0 ([] : (List (List Int)))).bind fun res218 => onRes res218 (fun r721 => none) fun (x696 : (List (List Int))) =>
  (appL x193 [x696]).bind fun x713 =>
  some (.next x713)

def p_spec_l08Ring (table : (List (List Int))) (duals : (List Int)) : Option ((List (List (List Int))) × Bool) :=
  (forN (fun k s => p_spec_l08Ring_L1 table duals k s) (table).length 0 ([] : (List Int))).bind fun res10 => onRes res10 (fun r804 => some r804) fun (x175 : (List Int)) =>
  (forN (fun k s => p_spec_l08Ring_L2 table duals x175 k s) (table).length 0 ([] : (List (List (List Int))))).bind fun res190 => onRes res190 (fun r803 => none) fun (x744 : (List (List (List Int)))) =>
  (p_spec_l03Is x744).bind fun x750 =>
  (if (!x750) = true then
    some true
  else
    (p_spec_l03Commutative x744).bind fun x762 =>
    some (!x762)).bind fun (x757 : Bool) =>
  (if x757 = true then
    some true
  else
    (p_spec_l03Duals x744).bind fun x779 =>
    (p_spec_l01Same x779 duals).bind fun x786 =>
    some (!x786)).bind fun (x774 : Bool) =>
  if x774 = true then
    some (([] : (List (List (List Int)))), false)
  else
    some (x744, true)

def p_spec_RingOfCharacters_L1 (table : (List (List Int))) (k41 : Nat) : Option (Ctl (Unit) ((List (List (List Int))) × Int)) :=
  (idx table (k41 : Int)).bind fun x59 =>
  (if (((x59).length : Int) != ((table).length : Int)) = true then
    some true
  else
    (p_spec_l01Numbers x59).bind fun x76 =>
    some (!x76)).bind fun (x68 : Bool) =>
  if x68 = true then
    some (.ret (([] : (List (List (List Int)))), (2 : Int)))
  else
    some (.next ())

def p_spec_RingOfCharacters (table : (List (List Int))) (duals : (List Int)) : Option ((List (List (List Int))) × Int) :=
  (if ((decide (((table).length : Int) < (1 : Int))) || (decide (((table).length : Int) > (16 : Int)))) = true then
    some true
  else
    (p_spec_l08Duals ((table).length : Int) duals).bind fun x22 =>
    some (!x22)).bind fun (x17 : Bool) =>
  if x17 = true then
    some (([] : (List (List (List Int)))), (2 : Int))
  else
    (forN (fun k s => p_spec_RingOfCharacters_L1 table k ) (table).length 0 ()).bind fun res39 => onRes res39 (fun r136 => some r136) fun _ =>
    (p_spec_l08Ring table duals).bind fun x116 =>
    if (!x116.2) = true then
      some (([] : (List (List (List Int)))), (5 : Int))
    else
      some (x116.1, (0 : Int))

def p_impl_within (n : Int) (low : Int) (high : Int) : Option (Bool) :=
  some ((decide (n ≥ low)) && (decide (n ≤ high)))

def p_impl_allWithin_c1 (n : Int) (c0 : Int) (c1 : Int) : Option (Bool) :=
  (p_impl_within n c0 c1).bind fun x1 =>
  some (!x1)

def p_slices_IndexFunc_Lint64_int64_L1 (s1 : (List Int)) (f1 : (Int → Option Bool)) (k4 : Nat) : Option (Ctl (Unit) (Int)) :=
  (idx s1 (k4 : Int)).bind fun x21 =>
  (f1 x21).bind fun x28 =>
  if x28 = true then
    some (.ret (k4 : Int))
  else
    some (.next ())

def p_slices_IndexFunc_Lint64_int64 (s1 : (List Int)) (f1 : Int → Option Bool) : Option (Int) :=
  (forN (fun k s => p_slices_IndexFunc_Lint64_int64_L1 s1 f1 k ) (s1).length 0 ()).bind fun res2 => onRes res2 (fun r54 => some r54) fun _ =>
  some (-1 : Int)

def p_slices_ContainsFunc_Lint64_int64 (s1 : (List Int)) (f1 : Int → Option Bool) : Option (Bool) :=
  (p_slices_IndexFunc_Lint64_int64 s1 f1).bind fun x1 =>
  some (decide (x1 ≥ (0 : Int)))

def p_impl_allWithin (list : (List Int)) (low : Int) (high : Int) : Option (Bool) :=
  (p_slices_ContainsFunc_Lint64_int64 list (fun a0_19 => p_impl_allWithin_c1 a0_19 low high)).bind fun x22 =>
  some (!x22)

def p_impl_areNumbers (list : (List Int)) : Option (Bool) :=
  (p_impl_allWithin list (0 : Int) (55440 : Int)).bind fun x1 =>
  some x1

def p_impl_RingOfCharacters_c1 (x : (List Int)) (c0 : Int) : Option (Bool) :=
  (if (((x).length : Int) != c0) = true then
    some true
  else
    (p_impl_areNumbers x).bind fun x8 =>
    some (!x8)).bind fun (x3 : Bool) =>
  some x3

def p_slices_IndexFunc_LLint64_Lint64_L1 (s1 : (List (List Int))) (f1 : ((List Int) → Option Bool)) (k4 : Nat) : Option (Ctl (Unit) (Int)) :=
  (idx s1 (k4 : Int)).bind fun x21 =>
  (f1 x21).bind fun x28 =>
  if x28 = true then
    some (.ret (k4 : Int))
  else
    some (.next ())

def p_slices_IndexFunc_LLint64_Lint64 (s1 : (List (List Int))) (f1 : (List Int) → Option Bool) : Option (Int) :=
  (forN (fun k s => p_slices_IndexFunc_LLint64_Lint64_L1 s1 f1 k ) (s1).length 0 ()).bind fun res2 => onRes res2 (fun r54 => some r54) fun _ =>
  some (-1 : Int)

def p_slices_ContainsFunc_LLint64_Lint64 (s1 : (List (List Int))) (f1 : (List Int) → Option Bool) : Option (Bool) :=
  (p_slices_IndexFunc_LLint64_Lint64 s1 f1).bind fun x1 =>
  some (decide (x1 ≥ (0 : Int)))

def p_impl_areDuals_L1 (duals : (List Int)) (n : Int) (k4 : Nat) : Option (Ctl (Unit) (Bool)) :=
  (idx duals (k4 : Int)).bind fun x22 =>
  (p_impl_within x22 (0 : Int) (w64 (n - (1 : Int)))).bind fun x29 =>
  (if (!x29) = true then
    some true
  else
    (idx duals x22).bind fun x41 =>
    some (x41 != (k4 : Int))).bind fun (x36 : Bool) =>
  if x36 = true then
    some (.ret false)
  else
    some (.next ())

def p_impl_areDuals (duals : (List Int)) (n : Int) : Option (Bool) :=
  (forN (fun k s => p_impl_areDuals_L1 duals n k ) (duals).length 0 ()).bind fun res2 => onRes res2 (fun r79 => some r79) fun _ =>
  some (((duals).length : Int) == n)

def p_impl_turnList_L1 (dual : (List Int)) (x : (List Int)) (k8 : Nat) (x9 : (List Int)) : Option (Ctl ((List Int)) (Unit)) :=
  (idx dual (k8 : Int)).bind fun x28 =>
  (idx x x28).bind fun x35 =>
  (appL x9 ([x35] : (List Int))).bind fun x46 =>
  some (.next x46)

def p_impl_turnList (dual : (List Int)) (x : (List Int)) : Option ((List Int)) :=
  (forN (fun k s => p_impl_turnList_L1 dual x k s) (dual).length 0 ([] : (List Int))).bind fun res6 => onRes res6 (fun r76 => none) fun (x72 : (List Int)) =>
  some x72

def p_impl_dot_L1 (a : (List Int)) (b : (List Int)) (k4 : Nat) (x5 : Int) : Option (Ctl (Int) (Unit)) :=
  (idx a (k4 : Int)).bind fun x54 =>
  (idx b (k4 : Int)).bind fun x91 =>
  some (.next (w64 (x5 + (((w64 (x54 * x91))).tmod (55441 : Int)))))

def p_impl_dot (a : (List Int)) (b : (List Int)) : Option (Int) :=
  (forN (fun k s => p_impl_dot_L1 a b k s) (a).length 0 (0 : Int)).bind fun res2 => onRes res2 (fun r161 => none) fun (x157 : Int) =>
  some ((x157).tmod (55441 : Int))

def p_impl_power_L1  (x4 : Int) (x5 : Int) (x6 : Int) : Option (Ctl (Int × Int × Int) (Unit)) :=
  if (decide (x5 > (0 : Int))) = true then
    (if (((x5).tmod (2 : Int)) == (1 : Int)) = true then
      some (((w64 (x6 * x4))).tmod (55441 : Int))
    else
      some x6).bind fun (x24 : Int) =>
    some (.next ((((w64 (x4 * x4))).tmod (55441 : Int)), (w64 ((x5).tdiv (2 : Int))), x24))
  else
    some (.brk (x4, x5, x6))

def p_impl_power (a : Int) (k1 : Int) : Option (Int) :=
  (whileC (fun s => p_impl_power_L1  s.1 s.2.1 s.2.2) (a, k1, (1 : Int))).bind fun res1 => onRes res1 (fun r46 => none) fun (s39p : Int × Int × Int) =>
  some s39p.2.2

def p_impl_divide (a : Int) (b : Int) : Option (Int) :=
  (p_impl_power b (55439 : Int)).bind fun x1 =>
  some (((w64 (a * x1))).tmod (55441 : Int))

def p_impl_zeros_L1 (columns : Int) (k7 : Nat) (x8 : (List (List Int))) : Option (Ctl ((List (List Int))) (Unit)) :=
  (mkL columns (0 : Int)).bind fun x26 =>
  (appL x8 [x26]).bind fun x38 =>
  some (.next x38)

def p_impl_zeros (rows : Int) (columns : Int) : Option ((List (List Int))) :=
  (forN (fun k s => p_impl_zeros_L1 columns k s) (rows).toNat 0 ([] : (List (List Int)))).bind fun res5 => onRes res5 (fun r67 => none) fun (x63 : (List (List Int))) =>
  some x63

def p_impl_isCube_c1 (row : (List Int)) (c0 : Int) : Option (Bool) :=
  (if (((row).length : Int) != c0) = true then
    some true
  else
    (p_impl_allWithin row (0 : Int) (1000 : Int)).bind fun x8 =>
    some (!x8)).bind fun (x3 : Bool) =>
  some x3

def p_impl_isCube_L1 (r_Table : (List (List (List Int)))) (k19 : Nat) : Option (Ctl (Unit) (Bool)) :=
  (idx r_Table (k19 : Int)).bind fun x36 =>
  (if (((x36).length : Int) != ((r_Table).length : Int)) = true then
    some true
  else
    (p_slices_ContainsFunc_LLint64_Lint64 x36 (fun a0_51 => p_impl_isCube_c1 a0_51 ((r_Table).length : Int))).bind fun x54 =>
    some x54).bind fun (x45 : Bool) =>
  if x45 = true then
    some (.ret false)
  else
    some (.next ())

def p_impl_isCube (r_Table : (List (List (List Int)))) : Option (Bool) :=
  (forN (fun k s => p_impl_isCube_L1 r_Table k ) (r_Table).length 0 ()).bind fun res17 => onRes res17 (fun r93 => some r93) fun _ =>
  some ((decide (((r_Table).length : Int) ≥ (1 : Int))) && (decide (((r_Table).length : Int) ≤ (16 : Int))))

def p_impl_delta (i : Int) (k1 : Int) : Option (Int) :=
  if (i == k1) = true then
    some (1 : Int)
  else
    some (0 : Int)

def p_impl_Ring_unitFault_L2 (r_Table : (List (List (List Int)))) (k12 : Nat) (k31 : Nat) : Option (Ctl (Unit) ((List Int))) :=
  (idx r_Table (0 : Int)).bind fun x71 =>
  (idx x71 (k12 : Int)).bind fun x101 =>
  (idx x101 (k31 : Int)).bind fun x131 =>
  (p_impl_delta (k12 : Int) (k31 : Int)).bind fun x169 =>
  (if (x131 != x169) = true then
    some true
  else
    (idx r_Table (k12 : Int)).bind fun x334 =>
    (idx x334 (0 : Int)).bind fun x357 =>
    (idx x357 (k31 : Int)).bind fun x390 =>
    (p_impl_delta (k12 : Int) (k31 : Int)).bind fun x432 =>
    some (x390 != x432)).bind fun (x192 : Bool) =>
  if x192 = true then
    some (.ret ([(0 : Int), (k12 : Int), (k31 : Int)] : (List Int)))
  else
    some (.next ())

def p_impl_Ring_unitFault_L1 (r_Table : (List (List (List Int)))) (k12 : Nat) : Option (Ctl (Unit) ((List Int))) :=
  (forN (fun k s => p_impl_Ring_unitFault_L2 r_Table k12 k ) (r_Table).length 0 ()).bind fun res29 => onRes res29 (fun r512 => some (.ret r512)) fun _ =>
  some (.next ())

def p_impl_Ring_unitFault (r_Table : (List (List (List Int)))) : Option ((List Int)) :=
  (forN (fun k s => p_impl_Ring_unitFault_L1 r_Table k ) (r_Table).length 0 ()).bind fun res10 => onRes res10 (fun r530 => some r530) fun _ =>
  some ([] : (List Int))

def p_impl_Ring_onlyOf_L1 (x9 : (List (List Int))) (k19 : Nat) (x20 : Int) : Option (Ctl (Int) (Int)) :=
  (idx x9 (k19 : Int)).bind fun x38 =>
  (idx x38 (0 : Int)).bind fun x45 =>
  if (x45 == (0 : Int)) = true then
    some (.next x20)
  else
    if ((decide (x20 ≥ (0 : Int))) || (x45 != (1 : Int))) = true then
      some (.ret (-1 : Int))
    else
      some (.next (k19 : Int))

def p_impl_Ring_onlyOf (r_Table : (List (List (List Int)))) (i : Int) : Option (Int) :=
  (idx r_Table i).bind fun x9 =>
  (forN (fun k s => p_impl_Ring_onlyOf_L1 x9 k s) (x9).length 0 (-1 : Int)).bind fun res17 => onRes res17 (fun r92 => some r92) fun (x88 : Int) =>
  some x88

def p_impl_Ring_dualFault_L1 (r_Table : (List (List (List Int)))) (k12 : Nat) : Option (Ctl (Unit) (Int)) :=
  (p_impl_Ring_onlyOf r_Table (k12 : Int)).bind fun x28 =>
  (if (decide (x28 < (0 : Int))) = true then
    some true
  else
    (p_impl_Ring_onlyOf r_Table x28).bind fun x41 =>
    some (x41 != (k12 : Int))).bind fun (x36 : Bool) =>
  if x36 = true then
    some (.ret (k12 : Int))
  else
    some (.next ())

def p_impl_Ring_dualFault (r_Table : (List (List (List Int)))) : Option (Int) :=
  (forN (fun k s => p_impl_Ring_dualFault_L1 r_Table k ) (r_Table).length 0 ()).bind fun res10 => onRes res10 (fun r73 => some r73) fun _ =>
  some (-1 : Int)

def p_impl_Ring_duals_L1 (r_Table : (List (List (List Int)))) (k16 : Nat) (x17 : (List Int)) : Option (Ctl ((List Int)) (Unit)) :=
  (p_impl_Ring_onlyOf r_Table (k16 : Int)).bind fun x35 =>
  (appL x17 ([x35] : (List Int))).bind fun x46 =>
  some (.next x46)

def p_impl_Ring_duals (r_Table : (List (List (List Int)))) : Option ((List Int)) :=
  (forN (fun k s => p_impl_Ring_duals_L1 r_Table k s) (r_Table).length 0 ([] : (List Int))).bind fun res14 => onRes res14 (fun r75 => none) fun (x71 : (List Int)) =>
  some x71

def p_impl_Ring_turnFault_L3 (r_Table : (List (List (List Int)))) (k23 : Nat) (k43 : Nat) (x9 : (List Int)) (k66 : Nat) : Option (Ctl (Unit) ((List Int))) :=
  (idx r_Table (k23 : Int)).bind fun x89 =>
  (idx x89 (k43 : Int)).bind fun x96 =>
  (idx x96 (k66 : Int)).bind fun x103 =>
  (idx x9 (k23 : Int)).bind fun x154 =>
  (idx r_Table x154).bind fun x177 =>
  (idx x177 (k66 : Int)).bind fun x207 =>
  (idx x207 (k43 : Int)).bind fun x237 =>
  (if (x103 != x237) = true then
    some true
  else
    (idx r_Table (k66 : Int)).bind fun x436 =>
    (idx x9 (k43 : Int)).bind fun x477 =>
    (idx x436 x477).bind fun x502 =>
    (idx x502 (k23 : Int)).bind fun x535 =>
    some (x103 != x535)).bind fun (x268 : Bool) =>
  if x268 = true then
    some (.ret ([(2 : Int), (k23 : Int), (k43 : Int), (k66 : Int)] : (List Int)))
  else
    some (.next ())

def p_impl_Ring_turnFault_L2 (r_Table : (List (List (List Int)))) (k23 : Nat) (x9 : (List Int)) (k43 : Nat) : Option (Ctl (Unit) ((List Int))) :=
  (forN (fun k s => p_impl_Ring_turnFault_L3 r_Table k23 k43 x9 k ) (r_Table).length 0 ()).bind fun res64 => onRes res64 (fun r642 => some (.ret r642)) fun _ =>
  some (.next ())

def p_impl_Ring_turnFault_L1 (r_Table : (List (List (List Int)))) (x9 : (List Int)) (k23 : Nat) : Option (Ctl (Unit) ((List Int))) :=
  (forN (fun k s => p_impl_Ring_turnFault_L2 r_Table k23 x9 k ) (r_Table).length 0 ()).bind fun res41 => onRes res41 (fun r668 => some (.ret r668)) fun _ =>
  some (.next ())

def p_impl_Ring_turnFault (r_Table : (List (List (List Int)))) : Option ((List Int)) :=
  (p_impl_Ring_duals r_Table).bind fun x9 =>
  (forN (fun k s => p_impl_Ring_turnFault_L1 r_Table x9 k ) (r_Table).length 0 ()).bind fun res21 => onRes res21 (fun r687 => some r687) fun _ =>
  some ([] : (List Int))

def p_impl_Ring_bracketFault_L5 (x29 : (List (List Int))) (k39 : Nat) (r_Table : (List (List (List Int)))) (k71 : Nat) (k100 : Nat) (x61 : (List (List Int))) (k132 : Nat) (x133 : Int) (x134 : Int) : Option (Ctl (Int × Int) (Unit)) :=
  (idx x29 (k39 : Int)).bind fun x200 =>
  (idx x200 (k132 : Int)).bind fun x230 =>
  (idx r_Table (k132 : Int)).bind fun x274 =>
  (idx x274 (k71 : Int)).bind fun x304 =>
  (idx x304 (k100 : Int)).bind fun x334 =>
  (idx x61 (k71 : Int)).bind fun x419 =>
  (idx x419 (k132 : Int)).bind fun x449 =>
  (idx x29 (k132 : Int)).bind fun x486 =>
  (idx x486 (k100 : Int)).bind fun x516 =>
  some (.next ((w64 (x133 + (w64 (x230 * x334)))), (w64 (x134 + (w64 (x449 * x516))))))

def p_impl_Ring_bracketFault_L4 (x29 : (List (List Int))) (k39 : Nat) (r_Table : (List (List (List Int)))) (k71 : Nat) (x61 : (List (List Int))) (k12 : Nat) (k100 : Nat) : Option (Ctl (Unit) ((List Int))) :=
  (forN (fun k s => p_impl_Ring_bracketFault_L5 x29 k39 r_Table k71 k100 x61 k s.1 s.2) (r_Table).length 0 ((0 : Int), (0 : Int))).bind fun res130 => onRes res130 (fun r638 => none) fun (s607p : Int × Int) =>
  if (s607p.1 != s607p.2) = true then
    some (.ret ([(3 : Int), (k12 : Int), (k39 : Int), (k71 : Int), (k100 : Int)] : (List Int)))
  else
    some (.next ())

def p_impl_Ring_bracketFault_L3 (x29 : (List (List Int))) (k39 : Nat) (r_Table : (List (List (List Int)))) (x61 : (List (List Int))) (k12 : Nat) (k71 : Nat) : Option (Ctl (Unit) ((List Int))) :=
  (forN (fun k s => p_impl_Ring_bracketFault_L4 x29 k39 r_Table k71 x61 k12 k ) (r_Table).length 0 ()).bind fun res98 => onRes res98 (fun r682 => some (.ret r682)) fun _ =>
  some (.next ())

def p_impl_Ring_bracketFault_L2 (r_Table : (List (List (List Int)))) (x29 : (List (List Int))) (k12 : Nat) (k39 : Nat) : Option (Ctl (Unit) ((List Int))) :=
  (idx r_Table (k39 : Int)).bind fun x61 =>
  (forN (fun k s => p_impl_Ring_bracketFault_L3 x29 k39 r_Table x61 k12 k ) (r_Table).length 0 ()).bind fun res69 => onRes res69 (fun r719 => some (.ret r719)) fun _ =>
  some (.next ())

def p_impl_Ring_bracketFault_L1 (r_Table : (List (List (List Int)))) (k12 : Nat) : Option (Ctl (Unit) ((List Int))) :=
  (idx r_Table (k12 : Int)).bind fun x29 =>
  (forN (fun k s => p_impl_Ring_bracketFault_L2 r_Table x29 k12 k ) (r_Table).length 0 ()).bind fun res37 => onRes res37 (fun r747 => some (.ret r747)) fun _ =>
  some (.next ())

def p_impl_Ring_bracketFault (r_Table : (List (List (List Int)))) : Option ((List Int)) :=
  (forN (fun k s => p_impl_Ring_bracketFault_L1 r_Table k ) (r_Table).length 0 ()).bind fun res10 => onRes res10 (fun r766 => some r766) fun _ =>
  some ([] : (List Int))

def p_impl_Ring_fault (r_Table : (List (List (List Int)))) : Option ((List Int)) :=
  (p_impl_Ring_unitFault r_Table).bind fun x9 =>
  if (!(x9).isEmpty) = true then
    some x9
  else
    (p_impl_Ring_dualFault r_Table).bind fun x19 =>
    if (decide (x19 ≥ (0 : Int))) = true then
      some ([(1 : Int), x19] : (List Int))
    else
      (p_impl_Ring_turnFault r_Table).bind fun x32 =>
      if (!(x32).isEmpty) = true then
        some x32
      else
        (p_impl_Ring_bracketFault r_Table).bind fun x42 =>
        some x42

def p_impl_IsRing (r_Table : (List (List (List Int)))) : Option (Bool) :=
  (p_impl_isCube r_Table).bind fun x9 =>
  (if x9 = true then
    (p_impl_Ring_fault r_Table).bind fun x21 =>
    some (x21).isEmpty
  else
    some false).bind fun (x16 : Bool) =>
  some x16

def p_slices_Clone_Lint64_int64 (s1 : (List Int)) : Option ((List Int)) :=
  (appL ([] : (List Int)) s1).bind fun x6 =>
  some x6

def p_impl_Ring_opposite_L2 (r_Table : (List (List (List Int)))) (k23 : Nat) (k50 : Nat) (x51 : (List (List Int))) : Option (Ctl ((List (List Int))) (Unit)) :=
  (idx r_Table (k50 : Int)).bind fun x74 =>
  (idx x74 (k23 : Int)).bind fun x81 =>
  (p_slices_Clone_Lint64_int64 x81).bind fun x88 =>
  (appL x51 [x88]).bind fun x101 =>
  some (.next x101)

def p_impl_Ring_opposite_L1 (r_Table : (List (List (List Int)))) (k23 : Nat) (x24 : (List (List (List Int)))) : Option (Ctl ((List (List (List Int)))) (Unit)) :=
  (forN (fun k s => p_impl_Ring_opposite_L2 r_Table k23 k s) (r_Table).length 0 ([] : (List (List Int)))).bind fun res48 => onRes res48 (fun r154 => none) fun (x131 : (List (List Int))) =>
  (appL x24 [x131]).bind fun x146 =>
  some (.next x146)

def p_impl_Ring_opposite (r_Table : (List (List (List Int)))) : Option ((List (List (List Int)))) :=
  (forN (fun k s => p_impl_Ring_opposite_L1 r_Table k s) (r_Table).length 0 ([] : (List (List (List Int))))).bind fun res21 => onRes res21 (fun r182 => none) fun (x175 : (List (List (List Int)))) =>
  some x175

def p_slices_EqualFunc_LLLint64_LLLint64_LLint64_LLint64_L1 (s1 : (List (List (List Int)))) (s2 : (List (List (List Int)))) (eq : ((List (List Int)) → (List (List Int)) → Option Bool)) (k8 : Nat) : Option (Ctl (Unit) (Bool)) :=
  (idx s1 (k8 : Int)).bind fun x26 =>
  (idx s2 (k8 : Int)).bind fun x33 =>
  (eq x26 x33).bind fun x40 =>
  if (!x40) = true then
    some (.ret false)
  else
    some (.next ())

def p_slices_EqualFunc_LLLint64_LLLint64_LLint64_LLint64 (s1 : (List (List (List Int)))) (s2 : (List (List (List Int)))) (eq : (List (List Int)) → (List (List Int)) → Option Bool) : Option (Bool) :=
  if (((s1).length : Int) != ((s2).length : Int)) = true then
    some false
  else
    (forN (fun k s => p_slices_EqualFunc_LLLint64_LLLint64_LLint64_LLint64_L1 s1 s2 eq k ) (s1).length 0 ()).bind fun res6 => onRes res6 (fun r67 => some r67) fun _ =>
    some true

def p_slices_EqualFunc_LLint64_LLint64_Lint64_Lint64_L1 (s1 : (List (List Int))) (s2 : (List (List Int))) (eq : ((List Int) → (List Int) → Option Bool)) (k8 : Nat) : Option (Ctl (Unit) (Bool)) :=
  (idx s1 (k8 : Int)).bind fun x26 =>
  (idx s2 (k8 : Int)).bind fun x33 =>
  (eq x26 x33).bind fun x40 =>
  if (!x40) = true then
    some (.ret false)
  else
    some (.next ())

def p_slices_EqualFunc_LLint64_LLint64_Lint64_Lint64 (s1 : (List (List Int))) (s2 : (List (List Int))) (eq : (List Int) → (List Int) → Option Bool) : Option (Bool) :=
  if (((s1).length : Int) != ((s2).length : Int)) = true then
    some false
  else
    (forN (fun k s => p_slices_EqualFunc_LLint64_LLint64_Lint64_Lint64_L1 s1 s2 eq k ) (s1).length 0 ()).bind fun res6 => onRes res6 (fun r67 => some r67) fun _ =>
    some true

def p_slices_Equal_Lint64_int64_L1 (s1 : (List Int)) (s2 : (List Int)) (k8 : Nat) : Option (Ctl (Unit) (Bool)) :=
  (idx s1 (k8 : Int)).bind fun x48 =>
  (idx s2 (k8 : Int)).bind fun x85 =>
  if (x48 != x85) = true then
    some (.ret false)
  else
    some (.next ())

def p_slices_Equal_Lint64_int64 (s1 : (List Int)) (s2 : (List Int)) : Option (Bool) :=
  if (((s1).length : Int) != ((s2).length : Int)) = true then
    some false
  else
    (forN (fun k s => p_slices_Equal_Lint64_int64_L1 s1 s2 k ) (s1).length 0 ()).bind fun res6 => onRes res6 (fun r133 => some r133) fun _ =>
    some true

def p_impl_equalTables_c1 (x : (List (List Int))) (y : (List (List Int))) : Option (Bool) :=
  (p_slices_EqualFunc_LLint64_LLint64_Lint64_Lint64 x y (fun a0_2 a1_2 => p_slices_Equal_Lint64_int64 a0_2 a1_2)).bind fun x5 =>
  some x5

def p_impl_equalTables (a : (List (List (List Int)))) (b : (List (List (List Int)))) : Option (Bool) :=
  (p_slices_EqualFunc_LLLint64_LLLint64_LLint64_LLint64 a b (fun a0_2 a1_2 => p_impl_equalTables_c1 a0_2 a1_2)).bind fun x5 =>
  some x5

def p_impl_Ring_isCommutative (r_Table : (List (List (List Int)))) : Option (Bool) :=
  (p_impl_Ring_opposite r_Table).bind fun x39 =>
  (p_impl_equalTables r_Table x39).bind fun x62 =>
  some x62

def p_slices_Equal_Lint_int_L1 (s1 : (List Int)) (s2 : (List Int)) (k8 : Nat) : Option (Ctl (Unit) (Bool)) :=
  (idx s1 (k8 : Int)).bind fun x48 =>
  (idx s2 (k8 : Int)).bind fun x85 =>
  if (x48 != x85) = true then
    some (.ret false)
  else
    some (.next ())

def p_slices_Equal_Lint_int (s1 : (List Int)) (s2 : (List Int)) : Option (Bool) :=
  if (((s1).length : Int) != ((s2).length : Int)) = true then
    some false
  else
    (forN (fun k s => p_slices_Equal_Lint_int_L1 s1 s2 k ) (s1).length 0 ()).bind fun res6 => onRes res6 (fun r133 => some r133) fun _ =>
    some true

def p_laws_eqInt64S_L1 (a : (List Int)) (b : (List Int)) (k7 : Nat) : Option (Ctl (Unit) (Bool)) :=
  (idx a (k7 : Int)).bind fun x47 =>
  (idx b (k7 : Int)).bind fun x84 =>
  if (x47 != x84) = true then
    some (.ret false)
  else
    some (.next ())

def p_laws_eqInt64S (a : (List Int)) (b : (List Int)) : Option (Bool) :=
  if (((a).length : Int) != ((b).length : Int)) = true then
    some false
  else
    (forN (fun k s => p_laws_eqInt64S_L1 a b k ) (a).length 0 ()).bind fun res5 => onRes res5 (fun r131 => some r131) fun _ =>
    some true

def p_laws_eqInt64SS_L1 (a : (List (List Int))) (b : (List (List Int))) (k7 : Nat) : Option (Ctl (Unit) (Bool)) :=
  (idx a (k7 : Int)).bind fun x47 =>
  (idx b (k7 : Int)).bind fun x84 =>
  (p_laws_eqInt64S x47 x84).bind fun x109 =>
  if (!x109) = true then
    some (.ret false)
  else
    some (.next ())

def p_laws_eqInt64SS (a : (List (List Int))) (b : (List (List Int))) : Option (Bool) :=
  if (((a).length : Int) != ((b).length : Int)) = true then
    some false
  else
    (forN (fun k s => p_laws_eqInt64SS_L1 a b k ) (a).length 0 ()).bind fun res5 => onRes res5 (fun r135 => some r135) fun _ =>
    some true

def p_laws_eqInt64SSS_L1 (a : (List (List (List Int)))) (b : (List (List (List Int)))) (k7 : Nat) : Option (Ctl (Unit) (Bool)) :=
  (idx a (k7 : Int)).bind fun x47 =>
  (idx b (k7 : Int)).bind fun x84 =>
  (p_laws_eqInt64SS x47 x84).bind fun x109 =>
  if (!x109) = true then
    some (.ret false)
  else
    some (.next ())

def p_laws_eqInt64SSS (a : (List (List (List Int)))) (b : (List (List (List Int)))) : Option (Bool) :=
  if (((a).length : Int) != ((b).length : Int)) = true then
    some false
  else
    (forN (fun k s => p_laws_eqInt64SSS_L1 a b k ) (a).length 0 ()).bind fun res5 => onRes res5 (fun r135 => some r135) fun _ =>
    some true

def p_laws_eqRing (a_Table : (List (List (List Int)))) (b_Table : (List (List (List Int)))) : Option (Bool) :=
  (p_laws_eqInt64SSS a_Table b_Table).bind fun x18 =>
  if (!x18) = true then
    some false
  else
    some true

def p_laws_markInt64S_L1  (k3 : Nat) (x4 : (List Int)) (x5 : Int) : Option (Ctl ((List Int) × Int) (Unit)) :=
  (idx x4 (k3 : Int)).bind fun x24 =>
  some (.next (((x4).set ((k3 : Int)).toNat x5), (w64 (x5 + (1 : Int)))))

def p_laws_markInt64S (a : (List Int)) (k1 : Int) : Option (Int × (List Int)) :=
  (forN (fun k s => p_laws_markInt64S_L1  k s.1 s.2) (a).length 0 (a, k1)).bind fun res1 => onRes res1 (fun r57 => none) fun (s50p : (List Int) × Int) =>
  some (s50p.2, s50p.1)

def p_laws_markInt64SS_L1  (k3 : Nat) (x4 : (List (List Int))) (x5 : Int) : Option (Ctl ((List (List Int)) × Int) (Unit)) :=
  (idx x4 (k3 : Int)).bind fun x24 =>
  (p_laws_markInt64S x24 x5).bind fun x32 =>
  some (.next (((x4).set ((k3 : Int)).toNat x32.2), x32.1))

def p_laws_markInt64SS (a : (List (List Int))) (k1 : Int) : Option (Int × (List (List Int))) :=
  (forN (fun k s => p_laws_markInt64SS_L1  k s.1 s.2) (a).length 0 (a, k1)).bind fun res1 => onRes res1 (fun r67 => none) fun (s60p : (List (List Int)) × Int) =>
  some (s60p.2, s60p.1)

def p_laws_markInt64SSS_L1  (k3 : Nat) (x4 : (List (List (List Int)))) (x5 : Int) : Option (Ctl ((List (List (List Int))) × Int) (Unit)) :=
  (idx x4 (k3 : Int)).bind fun x24 =>
  (p_laws_markInt64SS x24 x5).bind fun x32 =>
  some (.next (((x4).set ((k3 : Int)).toNat x32.2), x32.1))

def p_laws_markInt64SSS (a : (List (List (List Int)))) (k1 : Int) : Option (Int × (List (List (List Int)))) :=
  (forN (fun k s => p_laws_markInt64SSS_L1  k s.1 s.2) (a).length 0 (a, k1)).bind fun res1 => onRes res1 (fun r67 => none) fun (s60p : (List (List (List Int))) × Int) =>
  some (s60p.2, s60p.1)

def p_laws_markRing (a_Table : (List (List (List Int)))) (k1 : Int) : Option (Int × (List (List (List Int)))) :=
  (p_laws_markInt64SSS a_Table k1).bind fun x6 =>
  some (x6.1, x6.2)

def p_laws_heldInt64S_L1 (a : (List Int)) (k3 : Nat) (x4 : Int) : Option (Ctl (Int) (Int)) :=
  (idx a (k3 : Int)).bind fun x22 =>
  if (x22 != x4) = true then
    some (.ret (-1 : Int))
  else
    some (.next (w64 (x4 + (1 : Int))))

def p_laws_heldInt64S (a : (List Int)) (k1 : Int) : Option (Int) :=
  (forN (fun k s => p_laws_heldInt64S_L1 a k s) (a).length 0 k1).bind fun res1 => onRes res1 (fun r54 => some r54) fun (x50 : Int) =>
  some x50

def p_laws_heldInt64SS_L1 (a : (List (List Int))) (k3 : Nat) (x4 : Int) : Option (Ctl (Int) (Int)) :=
  (idx a (k3 : Int)).bind fun x22 =>
  (p_laws_heldInt64S x22 x4).bind fun x29 =>
  if (decide (x29 < (0 : Int))) = true then
    some (.ret (-1 : Int))
  else
    some (.next x29)

def p_laws_heldInt64SS (a : (List (List Int))) (k1 : Int) : Option (Int) :=
  (forN (fun k s => p_laws_heldInt64SS_L1 a k s) (a).length 0 k1).bind fun res1 => onRes res1 (fun r61 => some r61) fun (x57 : Int) =>
  some x57

def p_laws_heldInt64SSS_L1 (a : (List (List (List Int)))) (k3 : Nat) (x4 : Int) : Option (Ctl (Int) (Int)) :=
  (idx a (k3 : Int)).bind fun x22 =>
  (p_laws_heldInt64SS x22 x4).bind fun x29 =>
  if (decide (x29 < (0 : Int))) = true then
    some (.ret (-1 : Int))
  else
    some (.next x29)

def p_laws_heldInt64SSS (a : (List (List (List Int)))) (k1 : Int) : Option (Int) :=
  (forN (fun k s => p_laws_heldInt64SSS_L1 a k s) (a).length 0 k1).bind fun res1 => onRes res1 (fun r61 => some r61) fun (x57 : Int) =>
  some x57

def p_laws_heldRing (a_Table : (List (List (List Int)))) (k1 : Int) : Option (Int) :=
  (p_laws_heldInt64SSS a_Table k1).bind fun x9 =>
  if (decide (x9 < (0 : Int))) = true then
    some (-1 : Int)
  else
    some x9

def p_laws_szInt64SSS_L1 (a : (List (List (List Int)))) (k6 : Nat) (x7 : Int) : Option (Ctl (Int) (Int)) :=
  (idx a (k6 : Int)).bind fun x25 =>
  (p_laws_szInt64SS x25 x7).bind fun x32 =>
  if (decide (x32 < (0 : Int))) = true then
    some (.ret (-1 : Int))
  else
    some (.next x32)

def p_laws_szInt64SSS (a : (List (List (List Int)))) (left : Int) : Option (Int) :=
  if (decide ((w64 (left - ((a).length : Int))) < (0 : Int))) = true then
    some (-1 : Int)
  else
    (forN (fun k s => p_laws_szInt64SSS_L1 a k s) (a).length 0 (w64 (left - ((a).length : Int)))).bind fun res4 => onRes res4 (fun r64 => some r64) fun (x60 : Int) =>
    some x60

def p_laws_szRing (a_Table : (List (List (List Int)))) (left : Int) : Option (Int) :=
  (p_laws_szInt64SSS a_Table left).bind fun x9 =>
  if (decide (x9 < (0 : Int))) = true then
    some (-1 : Int)
  else
    some x9

def p_laws_toInt64SSS_L1 (a : (List (List (List Int)))) (k10 : Nat) (x11 : (List (List (List Int)))) : Option (Ctl ((List (List (List Int)))) (Unit)) :=
  (idx a (k10 : Int)).bind fun x28 =>
  (p_laws_toInt64SS x28).bind fun x35 =>
  (idx x11 (k10 : Int)).bind fun x42 =>
  some (.next ((x11).set ((k10 : Int)).toNat x35))

def p_laws_toInt64SSS (a : (List (List (List Int)))) : Option ((List (List (List Int)))) :=
  (mkL ((a).length : Int) ([] : (List (List Int)))).bind fun x2 =>
  (forN (fun k s => p_laws_toInt64SSS_L1 a k s) (a).length 0 x2).bind fun res8 => onRes res8 (fun r69 => none) fun (x66 : (List (List (List Int)))) =>
  some x66

def p_laws_toRing (a_Table : (List (List (List Int)))) : Option ((List (List (List Int)))) :=
  (p_laws_toInt64SSS a_Table).bind fun x17 =>
  some x17

def p_spec_l08Code (r_Table : (List (List (List Int)))) : Option (Int) :=
  (p_spec_l03Is r_Table).bind fun x9 =>
  if (!x9) = true then
    some (1 : Int)
  else
    (p_spec_l03Commutative r_Table).bind fun x17 =>
    if (!x17) = true then
      some (5 : Int)
    else
      some (0 : Int)

def p_spec_l01Dot_L1 (a : (List Int)) (b : (List Int)) (k3 : Nat) (x4 : Int) : Option (Ctl (Int) (Unit)) :=
  (idx a (k3 : Int)).bind fun x53 =>
  (idx b (k3 : Int)).bind fun x90 =>
  some (.next (((w64 (x4 + (w64 (x53 * x90))))).tmod (55441 : Int)))

def p_spec_l01Dot (a : (List Int)) (b : (List Int)) : Option (Int) :=
  (forN (fun k s => p_spec_l01Dot_L1 a b k s) (a).length 0 (0 : Int)).bind fun res1 => onRes res1 (fun r151 => none) fun (x147 : Int) =>
  some x147

def p_spec_l08Is_L2 (x : (List Int)) (k50 : Nat) (r_Table : (List (List (List Int)))) (k69 : Nat) : Option (Ctl (Unit) (Bool)) :=
  (idx x (k50 : Int)).bind fun x110 =>
  (idx x (k69 : Int)).bind fun x147 =>
  (idx r_Table (k50 : Int)).bind fun x209 =>
  (idx x209 (k69 : Int)).bind fun x239 =>
  (p_spec_l01Dot x239 x).bind fun x268 =>
  if ((((w64 (x110 * x147))).tmod (55441 : Int)) != x268) = true then
    some (.ret false)
  else
    some (.next ())

def p_spec_l08Is_L1 (x : (List Int)) (r_Table : (List (List (List Int)))) (k50 : Nat) : Option (Ctl (Unit) (Bool)) :=
  (forN (fun k s => p_spec_l08Is_L2 x k50 r_Table k ) (r_Table).length 0 ()).bind fun res67 => onRes res67 (fun r314 => some (.ret r314)) fun _ =>
  some (.next ())

def p_spec_l08Is (r_Table : (List (List (List Int)))) (x : (List Int)) : Option (Bool) :=
  (if (((x).length : Int) != ((r_Table).length : Int)) = true then
    some true
  else
    (p_spec_l01Numbers x).bind fun x17 =>
    some (!x17)).bind fun (x12 : Bool) =>
  (if x12 = true then
    some true
  else
    (idx x (0 : Int)).bind fun x34 =>
    some (x34 != (1 : Int))).bind fun (x29 : Bool) =>
  if x29 = true then
    some false
  else
    (forN (fun k s => p_spec_l08Is_L1 x r_Table k ) (r_Table).length 0 ()).bind fun res48 => onRes res48 (fun r333 => some r333) fun _ =>
    some true

def p_spec_l08List_L1 (list : (List (List Int))) (r_Table : (List (List (List Int)))) (good : Bool) (x19 : Int) (x20 : Int) : Option (Ctl (Int × Int) (Unit)) :=
  if ((decide (x20 < ((list).length : Int))) && (x19 == (0 : Int))) = true then
    ((idx list x20).bind fun x76 =>
    if (((x76).length : Int) != ((r_Table).length : Int)) = true then
      if true = true then
        some true
      else
        if good = true then
          (p_spec_l08Is r_Table x76).bind fun x347 =>
          some (!x347)
        else
          some false
    else
      (p_spec_l01Numbers x76).bind fun x453 =>
      if (!x453) = true then
        some true
      else
        if good = true then
          (p_spec_l08Is r_Table x76).bind fun x641 =>
          some (!x641)
        else
          some false).bind fun (x51 : Bool) =>
    (if x51 = true then
      some (2 : Int)
    else
      some x19).bind fun (x713 : Int) =>
    some (.next (x713, (w64 (x20 + (1 : Int)))))
  else
    some (.brk (x19, x20))

def p_spec_l08List (r_Table : (List (List (List Int)))) (good : Bool) (list : (List (List Int))) : Option (Int) :=
  (p_spec_l08Code r_Table).bind fun x9 =>
  (whileC (fun s => p_spec_l08List_L1 list r_Table good s.1 s.2) (x9, (0 : Int))).bind fun res16 => onRes res16 (fun r736 => none) fun (s730p : Int × Int) =>
  some s730p.1

def p_spec_IsCharacter (r_Table : (List (List (List Int)))) (x : (List Int)) : Option (Bool × Int) :=
  (p_spec_l08List r_Table false ([x] : (List (List Int)))).bind fun x15 =>
  if (x15 != (0 : Int)) = true then
    some (false, x15)
  else
    (p_spec_l08Is r_Table x).bind fun x24 =>
    some (x24, (0 : Int))

def p_impl_commuteCode (r_Table : (List (List (List Int)))) : Option (Int) :=
  (p_impl_IsRing r_Table).bind fun x9 =>
  if (!x9) = true then
    some (1 : Int)
  else
    (p_impl_Ring_isCommutative r_Table).bind fun x17 =>
    if (!x17) = true then
      some (5 : Int)
    else
      some (0 : Int)

def p_impl_Ring_isList (r_Table : (List (List (List Int)))) (x : (List Int)) : Option (Bool) :=
  (if (((x).length : Int) == ((r_Table).length : Int)) = true then
    (p_impl_areNumbers x).bind fun x17 =>
    some x17
  else
    some false).bind fun (x12 : Bool) =>
  some x12

def p_impl_Ring_isCharacter_L2 (x29 : (List (List Int))) (x : (List Int)) (k12 : Nat) (k39 : Nat) : Option (Ctl (Unit) (Bool)) :=
  (idx x29 (k39 : Int)).bind fun x60 =>
  (p_impl_dot x60 x).bind fun x89 =>
  (idx x (k12 : Int)).bind fun x118 =>
  (idx x (k39 : Int)).bind fun x155 =>
  if (x89 != (((w64 (x118 * x155))).tmod (55441 : Int))) = true then
    some (.ret false)
  else
    some (.next ())

def p_impl_Ring_isCharacter_L1 (r_Table : (List (List (List Int)))) (x : (List Int)) (k12 : Nat) : Option (Ctl (Unit) (Bool)) :=
  (idx r_Table (k12 : Int)).bind fun x29 =>
  (forN (fun k s => p_impl_Ring_isCharacter_L2 x29 x k12 k ) (x29).length 0 ()).bind fun res37 => onRes res37 (fun r233 => some (.ret r233)) fun _ =>
  some (.next ())

def p_impl_Ring_isCharacter (r_Table : (List (List (List Int)))) (x : (List Int)) : Option (Bool) :=
  (forN (fun k s => p_impl_Ring_isCharacter_L1 r_Table x k ) (r_Table).length 0 ()).bind fun res10 => onRes res10 (fun r260 => some r260) fun _ =>
  (idx x (0 : Int)).bind fun x253 =>
  some (x253 == (1 : Int))

def p_impl_IsCharacter (r_Table : (List (List (List Int)))) (x : (List Int)) : Option (Bool × Int) :=
  (p_impl_commuteCode r_Table).bind fun x9 =>
  if (x9 != (0 : Int)) = true then
    some (false, x9)
  else
    (p_impl_Ring_isList r_Table x).bind fun x18 =>
    if (!x18) = true then
      some (false, (2 : Int))
    else
      (p_impl_Ring_isCharacter r_Table x).bind fun x26 =>
      some (x26, (0 : Int))

def p_laws_FnExactIsCharacter (aR_Table : (List (List (List Int)))) (aX : (List Int)) : Option (Bool) :=
  if (decide (((aX).length : Int) > (1048576 : Int))) = true then
    some true
  else
    (p_laws_szRing aR_Table (1048576 : Int)).bind fun x12 =>
    if (decide (x12 < (0 : Int))) = true then
      some true
    else
      (p_laws_toRing aR_Table).bind fun x21 =>
      (p_laws_toInt64S aX).bind fun x32 =>
      (p_spec_IsCharacter x21 x32).bind fun x44 =>
      (p_laws_toRing aR_Table).bind fun x51 =>
      (p_laws_toInt64S aX).bind fun x64 =>
      (p_impl_IsCharacter x51 x64).bind fun x71 =>
      if ((x71.1 != x44.1) || (x71.2 != x44.2)) = true then
        some false
      else
        (p_laws_toRing aR_Table).bind fun x113 =>
        (p_laws_eqRing x51 x113).bind fun x133 =>
        if (!x133) = true then
          some false
        else
          (p_laws_toInt64S aX).bind fun x141 =>
          (p_laws_eqInt64S x64 x141).bind fun x148 =>
          if (!x148) = true then
            some false
          else
            some true

def p_spec_ProductCharacter_L2 (x : (List Int)) (k100 : Nat) (y : (List Int)) (k122 : Nat) (x123 : (List Int)) : Option (Ctl ((List Int)) (Unit)) :=
  (idx x (k100 : Int)).bind fun x173 =>
  (idx y (k122 : Int)).bind fun x210 =>
  (appL x123 ([(((w64 (x173 * x210))).tmod (55441 : Int))] : (List Int))).bind fun x267 =>
  some (.next x267)

def p_spec_ProductCharacter_L1 (x : (List Int)) (y : (List Int)) (k100 : Nat) (x101 : (List Int)) : Option (Ctl ((List Int)) (Unit)) :=
  (forN (fun k s => p_spec_ProductCharacter_L2 x k100 y k s) (y).length 0 x101).bind fun res120 => onRes res120 (fun r301 => none) fun (x294 : (List Int)) =>
  some (.next x294)

def p_spec_ProductCharacter (r_Table : (List (List (List Int)))) (s_Table : (List (List (List Int)))) (x : (List Int)) (y : (List Int)) : Option ((List Int) × Int) :=
  (p_spec_l03Is r_Table).bind fun x18 =>
  (if (!x18) = true then
    some true
  else
    (p_spec_l03Is s_Table).bind fun x30 =>
    some (!x30)).bind fun (x25 : Bool) =>
  if x25 = true then
    some (([] : (List Int)), (1 : Int))
  else
    (p_spec_l03Commutative r_Table).bind fun x44 =>
    (if (!x44) = true then
      some true
    else
      (p_spec_l03Commutative s_Table).bind fun x56 =>
      some (!x56)).bind fun (x51 : Bool) =>
    if x51 = true then
      some (([] : (List Int)), (5 : Int))
    else
      (p_spec_l08Is r_Table x).bind fun x70 =>
      (if (!x70) = true then
        some true
      else
        (p_spec_l08Is s_Table y).bind fun x82 =>
        some (!x82)).bind fun (x77 : Bool) =>
      if x77 = true then
        some (([] : (List Int)), (2 : Int))
      else
        (forN (fun k s => p_spec_ProductCharacter_L1 x y k s) (x).length 0 ([] : (List Int))).bind fun res98 => onRes res98 (fun r326 => none) fun (x322 : (List Int)) =>
        some (x322, (0 : Int))

def p_impl_ProductCharacter_L2 (y : (List Int)) (x156 : Int) (k166 : Nat) (x167 : (List Int)) : Option (Ctl ((List Int)) (Unit)) :=
  (idx y (k166 : Int)).bind fun x190 =>
  (appL x167 ([(((w64 (x156 * x190))).tmod (55441 : Int))] : (List Int))).bind fun x201 =>
  some (.next x201)

def p_impl_ProductCharacter_L1 (x : (List Int)) (y : (List Int)) (k136 : Nat) (x137 : (List Int)) : Option (Ctl ((List Int)) (Unit)) :=
  (idx x (k136 : Int)).bind fun x156 =>
  (forN (fun k s => p_impl_ProductCharacter_L2 y x156 k s) (y).length 0 x137).bind fun res164 => onRes res164 (fun r239 => none) fun (x231 : (List Int)) =>
  some (.next x231)

def p_impl_ProductCharacter (r_Table : (List (List (List Int)))) (s_Table : (List (List (List Int)))) (x : (List Int)) (y : (List Int)) : Option ((List Int) × Int) :=
  (p_impl_IsRing r_Table).bind fun x18 =>
  (if (!x18) = true then
    some true
  else
    (p_impl_IsRing s_Table).bind fun x30 =>
    some (!x30)).bind fun (x25 : Bool) =>
  if x25 = true then
    some (([] : (List Int)), (1 : Int))
  else
    (p_impl_Ring_isCommutative r_Table).bind fun x44 =>
    (if (!x44) = true then
      some true
    else
      (p_impl_Ring_isCommutative s_Table).bind fun x56 =>
      some (!x56)).bind fun (x51 : Bool) =>
    if x51 = true then
      some (([] : (List Int)), (5 : Int))
    else
      (p_impl_Ring_isList r_Table x).bind fun x70 =>
      (if (!x70) = true then
        some true
      else
        (p_impl_Ring_isList s_Table y).bind fun x82 =>
        some (!x82)).bind fun (x77 : Bool) =>
      (if x77 = true then
        some true
      else
        (p_impl_Ring_isCharacter r_Table x).bind fun x100 =>
        some (!x100)).bind fun (x95 : Bool) =>
      (if x95 = true then
        some true
      else
        (p_impl_Ring_isCharacter s_Table y).bind fun x117 =>
        some (!x117)).bind fun (x112 : Bool) =>
      if x112 = true then
        some (([] : (List Int)), (2 : Int))
      else
        (forN (fun k s => p_impl_ProductCharacter_L1 x y k s) (x).length 0 ([] : (List Int))).bind fun res134 => onRes res134 (fun r264 => none) fun (x260 : (List Int)) =>
        some (x260, (0 : Int))

def p_spec_ValueOf (r_Table : (List (List (List Int)))) (x : (List Int)) (v : (List Int)) : Option (Int × Int) :=
  (p_spec_l08List r_Table true ([x] : (List (List Int)))).bind fun x15 =>
  (if (x15 == (0 : Int)) = true then
    (p_spec_l08List r_Table false ([v] : (List (List Int)))).bind fun x31 =>
    some x31
  else
    some x15).bind fun (x22 : Int) =>
  if (x22 != (0 : Int)) = true then
    some ((0 : Int), x22)
  else
    (p_spec_l01Dot x v).bind fun x48 =>
    some (x48, (0 : Int))

def p_spec_PairingOf (r_Table : (List (List (List Int)))) (x : (List Int)) (y : (List Int)) : Option (Int × Int) :=
  (p_spec_l08List r_Table true ([x, y] : (List (List Int)))).bind fun x15 =>
  if (x15 != (0 : Int)) = true then
    some ((0 : Int), x15)
  else
    (p_spec_l03Duals r_Table).bind fun x24 =>
    (p_spec_l08Pair x y x24).bind fun x31 =>
    some (x31, (0 : Int))

def p_impl_Ring_pairing (r_Table : (List (List (List Int)))) (x : (List Int)) (y : (List Int)) : Option (Int) :=
  (p_impl_Ring_duals r_Table).bind fun x9 =>
  (p_impl_turnList x9 y).bind fun x20 =>
  (p_impl_dot x x20).bind fun x32 =>
  some x32

def p_spec_CodegreeOf (r_Table : (List (List (List Int)))) (x : (List Int)) : Option (Int × Int) :=
  (p_spec_l08List r_Table true ([x] : (List (List Int)))).bind fun x15 =>
  if (x15 != (0 : Int)) = true then
    some ((0 : Int), x15)
  else
    (p_spec_l03Duals r_Table).bind fun x24 =>
    (p_spec_l08Pair x x x24).bind fun x31 =>
    some (x31, (0 : Int))

def p_spec_l08Turn_L1 (duals : (List Int)) (x : (List Int)) (k7 : Nat) (x8 : (List Int)) : Option (Ctl ((List Int)) (Unit)) :=
  (idx duals (k7 : Int)).bind fun x27 =>
  (idx x x27).bind fun x34 =>
  (appL x8 ([x34] : (List Int))).bind fun x45 =>
  some (.next x45)

def p_spec_l08Turn (x : (List Int)) (duals : (List Int)) : Option ((List Int)) :=
  (forN (fun k s => p_spec_l08Turn_L1 duals x k s) (x).length 0 ([] : (List Int))).bind fun res5 => onRes res5 (fun r75 => none) fun (x71 : (List Int)) =>
  some x71

def p_spec_DualCharacter (r_Table : (List (List (List Int)))) (x : (List Int)) : Option ((List Int) × Int) :=
  (p_spec_l08List r_Table true ([x] : (List (List Int)))).bind fun x15 =>
  if (x15 != (0 : Int)) = true then
    some (([] : (List Int)), x15)
  else
    (p_spec_l03Duals r_Table).bind fun x24 =>
    (p_spec_l08Turn x x24).bind fun x31 =>
    some (x31, (0 : Int))

def p_spec_l15Labels_L1 (labels : (List Int)) (n : Int) (k3 : Nat) : Option (Ctl (Unit) (Bool)) :=
  (idx labels (k3 : Int)).bind fun x20 =>
  (p_spec_l01In x20 (0 : Int) (w64 (n - (1 : Int)))).bind fun x27 =>
  if (!x27) = true then
    some (.ret false)
  else
    some (.next ())

def p_spec_l15Labels (n : Int) (labels : (List Int)) : Option (Bool) :=
  (forN (fun k s => p_spec_l15Labels_L1 labels n k ) (labels).length 0 ()).bind fun res1 => onRes res1 (fun r55 => some r55) fun _ =>
  some (decide (((labels).length : Int) ≤ (8 : Int)))

def p_spec_l15Trousers (r_Table : (List (List (List Int)))) (i : Int) (j : Int) (k1 : Int) : Option (Int) :=
  (p_spec_l03Duals r_Table).bind fun x9 =>
  (idx r_Table i).bind fun x50 =>
  (idx x50 j).bind fun x80 =>
  (idx x9 k1).bind fun x117 =>
  (idx x80 x117).bind fun x140 =>
  some x140

def p_spec_TrouserNumber (r_Table : (List (List (List Int)))) (i : Int) (j : Int) (k1 : Int) : Option (Int × Int) :=
  (p_spec_l08Code r_Table).bind fun x9 =>
  (if (x9 == (0 : Int)) = true then
    (p_spec_l15Labels ((r_Table).length : Int) ([i, j, k1] : (List Int))).bind fun x27 =>
    some (!x27)
  else
    some false).bind fun (x17 : Bool) =>
  (if x17 = true then
    some (2 : Int)
  else
    some x9).bind fun (x40 : Int) =>
  if (x40 != (0 : Int)) = true then
    some ((0 : Int), x40)
  else
    (p_spec_l15Trousers r_Table i j k1).bind fun x55 =>
    some (x55, (0 : Int))

def p_impl_Ring_areLabels (r_Table : (List (List (List Int)))) (list : (List Int)) : Option (Bool) :=
  (p_impl_allWithin list (0 : Int) (w64 (((r_Table).length : Int) - (1 : Int)))).bind fun x10 =>
  some x10

def p_impl_TrouserNumber (r_Table : (List (List (List Int)))) (i : Int) (j : Int) (k1 : Int) : Option (Int × Int) :=
  (p_impl_commuteCode r_Table).bind fun x9 =>
  if (x9 != (0 : Int)) = true then
    some ((0 : Int), x9)
  else
    (p_impl_Ring_areLabels r_Table ([i, j, k1] : (List Int))).bind fun x26 =>
    if (!x26) = true then
      some ((0 : Int), (2 : Int))
    else
      (idx r_Table i).bind fun x64 =>
      (idx x64 j).bind fun x94 =>
      (p_impl_Ring_duals r_Table).bind fun x124 =>
      (idx x124 k1).bind fun x146 =>
      (idx x94 x146).bind fun x171 =>
      some (x171, (0 : Int))

def p_laws_FnExactTrouserNumber (aR_Table : (List (List (List Int)))) (aI : Int) (aJ : Int) (aK : Int) : Option (Bool) :=
  (p_laws_szRing aR_Table (1048576 : Int)).bind fun x9 =>
  if (decide (x9 < (0 : Int))) = true then
    some true
  else
    (p_laws_toRing aR_Table).bind fun x18 =>
    (p_spec_TrouserNumber x18 aI aJ aK).bind fun x29 =>
    (p_laws_toRing aR_Table).bind fun x37 =>
    (p_impl_TrouserNumber x37 aI aJ aK).bind fun x50 =>
    if ((x50.1 != x29.1) || (x50.2 != x29.2)) = true then
      some false
    else
      (p_laws_toRing aR_Table).bind fun x91 =>
      (p_laws_eqRing x37 x91).bind fun x109 =>
      if (!x109) = true then
        some false
      else
        some true

def p_impl_addTo_L1 (list : (List Int)) (k4 : Nat) (x5 : (List Int)) : Option (Ctl ((List Int)) (Unit)) :=
  (idx list (k4 : Int)).bind fun x22 =>
  (idx x5 (k4 : Int)).bind fun x29 =>
  some (.next ((x5).set ((k4 : Int)).toNat (w64 (x29 + x22))))

def p_impl_addTo (sum : (List Int)) (list : (List Int)) : Option ((List Int)) :=
  (forN (fun k s => p_impl_addTo_L1 list k s) (list).length 0 sum).bind fun res2 => onRes res2 (fun r58 => none) fun (x56 : (List Int)) =>
  some x56

def p_spec_l03One (r_Table : (List (List (List Int)))) (i : Int) : Option ((List Int)) :=
  (mkL ((r_Table).length : Int) (0 : Int)).bind fun x10 =>
  (idx x10 i).bind fun x16 =>
  some ((x10).set (i).toNat (1 : Int))

def p_spec_l15Times_L3 (x : (List Int)) (k18 : Nat) (y : (List Int)) (k40 : Nat) (r_Table : (List (List (List Int)))) (x64 : (List Int)) (x65 : Int) : Option (Ctl ((List Int) × Int) ((List Int) × Bool)) :=
  (if (decide (x65 < ((x64).length : Int))) = true then
    (idx x (k18 : Int)).bind fun x90 =>
    some (x90 != (0 : Int))
  else
    some false).bind fun (x85 : Bool) =>
  (if x85 = true then
    (idx y (k40 : Int)).bind fun x112 =>
    some (x112 != (0 : Int))
  else
    some false).bind fun (x107 : Bool) =>
  if x107 = true then
    (idx r_Table (k18 : Int)).bind fun x130 =>
    (idx x130 (k40 : Int)).bind fun x137 =>
    (idx x137 x65).bind fun x144 =>
    if (x144 == (0 : Int)) = true then
      some (.next (x64, (w64 (x65 + (1 : Int)))))
    else
      (idx x (k18 : Int)).bind fun x176 =>
      (idx y (k40 : Int)).bind fun x213 =>
      (quoI .i64 (1000000000000 : Int) (w64 (x213 * x144))).bind fun x252 =>
      if (decide (x176 > x252)) = true then
        some (.ret (([] : (List Int)), false))
      else
        (idx x64 x65).bind fun x313 =>
        (idx ((x64).set (x65).toNat (w64 (x313 + (w64 ((w64 (x176 * x213)) * x144))))) x65).bind fun x450 =>
        if (decide (x450 > (1000000000000 : Int))) = true then
          some (.ret (([] : (List Int)), false))
        else
          some (.next (((x64).set (x65).toNat (w64 (x313 + (w64 ((w64 (x176 * x213)) * x144))))), (w64 (x65 + (1 : Int)))))
  else
    some (.brk (x64, x65))

def p_spec_l15Times_L2 (x : (List Int)) (k18 : Nat) (y : (List Int)) (r_Table : (List (List (List Int)))) (k40 : Nat) (x41 : (List Int)) : Option (Ctl ((List Int)) ((List Int) × Bool)) :=
  (whileC (fun s => p_spec_l15Times_L3 x k18 y k40 r_Table s.1 s.2) (x41, (0 : Int))).bind fun res61 => onRes res61 (fun r473 => some (.ret r473)) fun (s463p : (List Int) × Int) =>
  some (.next s463p.1)

def p_spec_l15Times_L1 (x : (List Int)) (y : (List Int)) (r_Table : (List (List (List Int)))) (k18 : Nat) (x19 : (List Int)) : Option (Ctl ((List Int)) ((List Int) × Bool)) :=
  (forN (fun k s => p_spec_l15Times_L2 x k18 y r_Table k s) (y).length 0 x19).bind fun res38 => onRes res38 (fun r502 => some (.ret r502)) fun (x495 : (List Int)) =>
  some (.next x495)

def p_spec_l15Times (r_Table : (List (List (List Int)))) (x : (List Int)) (y : (List Int)) : Option ((List Int) × Bool) :=
  (mkL ((x).length : Int) (0 : Int)).bind fun x10 =>
  (forN (fun k s => p_spec_l15Times_L1 x y r_Table k s) (x).length 0 x10).bind fun res16 => onRes res16 (fun r526 => some r526) fun (x523 : (List Int)) =>
  some (x523, true)

def p_impl_Ring_vectorOf (r_Table : (List (List (List Int)))) (i : Int) : Option ((List Int)) :=
  (mkL ((r_Table).length : Int) (0 : Int)).bind fun x10 =>
  (idx x10 i).bind fun x16 =>
  if (((x10).set (i).toNat (1 : Int))).isEmpty = true then
    none
  else
    some ((x10).set (i).toNat (1 : Int))

def p_impl_Ring_limitedProduct_L3 (x88 : (List Int)) (x74 : Int) (x39 : Int) (k98 : Nat) (x99 : (List Int)) : Option (Ctl ((List Int)) ((List Int))) :=
  (idx x88 (k98 : Int)).bind fun x127 =>
  (if (decide ((w64 (x74 * x127)) > (0 : Int))) = true then
    (quoI .i64 (1000000000000 : Int) (w64 (x74 * x127))).bind fun x140 =>
    some (decide (x39 > x140))
  else
    some false).bind fun (x135 : Bool) =>
  if x135 = true then
    some (.ret ([] : (List Int)))
  else
    (idx x99 (k98 : Int)).bind fun x165 =>
    (idx ((x99).set ((k98 : Int)).toNat (w64 (x165 + (w64 ((w64 (x39 * x74)) * x127))))) (k98 : Int)).bind fun x174 =>
    if (decide (x174 > (1000000000000 : Int))) = true then
      some (.ret ([] : (List Int)))
    else
      some (.next ((x99).set ((k98 : Int)).toNat (w64 (x165 + (w64 ((w64 (x39 * x74)) * x127))))))

def p_impl_Ring_limitedProduct_L2 (y : (List Int)) (r_Table : (List (List (List Int)))) (k19 : Nat) (x39 : Int) (k49 : Nat) (x50 : (List Int)) : Option (Ctl ((List Int)) ((List Int))) :=
  (idx y (k49 : Int)).bind fun x74 =>
  (idx r_Table (k19 : Int)).bind fun x81 =>
  (idx x81 (k49 : Int)).bind fun x88 =>
  (forN (fun k s => p_impl_Ring_limitedProduct_L3 x88 x74 x39 k s) (x88).length 0 x50).bind fun res96 => onRes res96 (fun r225 => some (.ret r225)) fun (x212 : (List Int)) =>
  some (.next x212)

def p_impl_Ring_limitedProduct_L1 (x : (List Int)) (y : (List Int)) (r_Table : (List (List (List Int)))) (k19 : Nat) (x20 : (List Int)) : Option (Ctl ((List Int)) ((List Int))) :=
  (idx x (k19 : Int)).bind fun x39 =>
  (forN (fun k s => p_impl_Ring_limitedProduct_L2 y r_Table k19 x39 k s) (y).length 0 x20).bind fun res47 => onRes res47 (fun r259 => some (.ret r259)) fun (x251 : (List Int)) =>
  some (.next x251)

def p_impl_Ring_limitedProduct (r_Table : (List (List (List Int)))) (x : (List Int)) (y : (List Int)) : Option ((List Int)) :=
  (mkL ((r_Table).length : Int) (0 : Int)).bind fun x10 =>
  (forN (fun k s => p_impl_Ring_limitedProduct_L1 x y r_Table k s) (x).length 0 x10).bind fun res17 => onRes res17 (fun r284 => some r284) fun (x280 : (List Int)) =>
  if (x280).isEmpty = true then
    none
  else
    some x280

def p_spec_l15List (r_Table : (List (List (List Int)))) (labels : (List Int)) : Option (Int) :=
  (p_spec_l08Code r_Table).bind fun x9 =>
  (if (x9 == (0 : Int)) = true then
    if (((labels).length : Int) == (0 : Int)) = true then
      some true
    else
      (p_spec_l15Labels ((r_Table).length : Int) labels).bind fun x22 =>
      some (!x22)
  else
    some false).bind fun (x16 : Bool) =>
  (if x16 = true then
    some (2 : Int)
  else
    some x9).bind fun (x34 : Int) =>
  some x34

def p_spec_l15Ends_L3 (x49 : Int) (r_Table : (List (List (List Int)))) (labels : (List Int)) (x21 : Int) (x20 : (List (List Bool))) (x81 : (List Bool)) (x82 : Int) : Option (Ctl ((List Bool) × Int) (Unit)) :=
  if (decide (x82 < ((x81).length : Int))) = true then
    ((idx x81 x49).bind fun x142 =>
    if x142 = true then
      some ((x81).set (x49).toNat true)
    else
      (idx r_Table x49).bind fun x407 =>
      (idx labels (w64 (x21 + (1 : Int)))).bind fun x457 =>
      (idx x407 x457).bind fun x482 =>
      (idx x482 x82).bind fun x515 =>
      if (x515 != (0 : Int)) = true then
        (idx x20 (w64 (x21 + (1 : Int)))).bind fun x583 =>
        (idx x583 x82).bind fun x616 =>
        some ((x81).set (x49).toNat x616)
      else
        some ((x81).set (x49).toNat false)).bind fun (x103 : (List Bool)) =>
    some (.next (x103, (w64 (x82 + (1 : Int)))))
  else
    some (.brk (x81, x82))

def p_spec_l15Ends_L2 (x21 : Int) (labels : (List Int)) (r_Table : (List (List (List Int)))) (x20 : (List (List Bool))) (x48 : (List Bool)) (x49 : Int) : Option (Ctl ((List Bool) × Int) (Unit)) :=
  if (decide (x49 < ((x48).length : Int))) = true then
    if (x21 == (w64 (((labels).length : Int) - (1 : Int)))) = true then
      (idx x48 x49).bind fun x72 =>
      some (.next (((x48).set (x49).toNat (x49 == (0 : Int))), (w64 (x49 + (1 : Int)))))
    else
      (whileC (fun s => p_spec_l15Ends_L3 x49 r_Table labels x21 x20 s.1 s.2) (x48, (0 : Int))).bind fun res78 => onRes res78 (fun r843 => none) fun (s833p : (List Bool) × Int) =>
      some (.next (s833p.1, (w64 (x49 + (1 : Int)))))
  else
    some (.brk (x48, x49))

def p_spec_l15Ends_L1 (r_Table : (List (List (List Int)))) (labels : (List Int)) (x20 : (List (List Bool))) (x21 : Int) : Option (Ctl ((List (List Bool)) × Int) (Unit)) :=
  if (decide (x21 ≥ (0 : Int))) = true then
    (mkL ((r_Table).length : Int) false).bind fun x39 =>
    (whileC (fun s => p_spec_l15Ends_L2 x21 labels r_Table x20 s.1 s.2) (x39, (0 : Int))).bind fun res45 => onRes res45 (fun r863 => none) fun (s848p : (List Bool) × Int) =>
    (idx x20 x21).bind fun x857 =>
    some (.next (((x20).set (x21).toNat s848p.1), (w64 (x21 - (1 : Int)))))
  else
    some (.brk (x20, x21))

def p_spec_l15Ends (r_Table : (List (List (List Int)))) (labels : (List Int)) : Option ((List (List Bool))) :=
  (mkL ((labels).length : Int) ([] : (List Bool))).bind fun x10 =>
  (whileC (fun s => p_spec_l15Ends_L1 r_Table labels s.1 s.2) (x10, (w64 (((labels).length : Int) - (1 : Int))))).bind fun res17 => onRes res17 (fun r873 => none) fun (s868p : (List (List Bool)) × Int) =>
  some s868p.1

def p_spec_l01Own (list : (List Int)) : Option ((List Int)) :=
  (appL ([] : (List Int)) list).bind fun x5 =>
  some x5

def p_impl_pathCode (r_Table : (List (List (List Int)))) (labels : (List Int)) : Option (Int) :=
  (p_impl_commuteCode r_Table).bind fun x9 =>
  if (x9 != (0 : Int)) = true then
    some x9
  else
    (if ((decide (((labels).length : Int) < (1 : Int))) || (decide (((labels).length : Int) > (8 : Int)))) = true then
      some true
    else
      (p_impl_Ring_areLabels r_Table labels).bind fun x34 =>
      some (!x34)).bind fun (x29 : Bool) =>
    if x29 = true then
      some (2 : Int)
    else
      some (0 : Int)

def p_impl_Ring_endsAtZero_L3 (x190 : (List Int)) (x22 : Int) (k55 : Nat) (k240 : Nat) (x241 : (List (List Bool))) : Option (Ctl ((List (List Bool))) (Unit)) :=
  (idx x190 ((0 : Int) + (k240 : Int))).bind fun x266 =>
  ((idx x241 x22).bind fun x298 =>
  (idx x298 (k55 : Int)).bind fun x368 =>
  if x368 = true then
    some ((x241).set (x22).toNat ((x298).set ((k55 : Int)).toNat true))
  else
    if (x266 != (0 : Int)) = true then
      (idx x241 (w64 (x22 + (1 : Int)))).bind fun x567 =>
      (idx x567 ((0 : Int) + (k240 : Int))).bind fun x600 =>
      some ((x241).set (x22).toNat ((x298).set ((k55 : Int)).toNat x600))
    else
      some ((x241).set (x22).toNat ((x298).set ((k55 : Int)).toNat false))).bind fun (x273 : (List (List Bool))) =>
  some (.next x273)

def p_impl_Ring_endsAtZero_L2 (x22 : Int) (labels : (List Int)) (r_Table : (List (List (List Int)))) (k55 : Nat) (x56 : (List (List Bool))) : Option (Ctl ((List (List Bool))) (Unit)) :=
  if (x22 == (w64 (((labels).length : Int) - (1 : Int)))) = true then
    (idx x56 x22).bind fun x79 =>
    (idx x79 (k55 : Int)).bind fun x86 =>
    some (.next ((x56).set (x22).toNat ((x79).set ((k55 : Int)).toNat ((k55 : Int) == (0 : Int)))))
  else
    (idx r_Table (k55 : Int)).bind fun x122 =>
    (idx labels (w64 (x22 + (1 : Int)))).bind fun x167 =>
    (idx x122 x167).bind fun x190 =>
    (forN (fun k s => p_impl_Ring_endsAtZero_L3 x190 x22 k55 k s) (((x190).length : Int) - (0 : Int)).toNat 0 x56).bind fun res238 => onRes res238 (fun r826 => none) fun (x816 : (List (List Bool))) =>
    some (.next x816)

def p_impl_Ring_endsAtZero_L1 (r_Table : (List (List (List Int)))) (labels : (List Int)) (x21 : (List (List Bool))) (x22 : Int) : Option (Ctl ((List (List Bool)) × Int) (Unit)) :=
  if (decide (x22 ≥ (0 : Int))) = true then
    (mkL ((r_Table).length : Int) false).bind fun x41 =>
    (idx x21 x22).bind fun x47 =>
    (forN (fun k s => p_impl_Ring_endsAtZero_L2 x22 labels r_Table k s) (r_Table).length 0 ((x21).set (x22).toNat x41)).bind fun res53 => onRes res53 (fun r857 => none) fun (x849 : (List (List Bool))) =>
    some (.next (x849, (w64 (x22 - (1 : Int)))))
  else
    some (.brk (x21, x22))

def p_impl_Ring_endsAtZero (r_Table : (List (List (List Int)))) (labels : (List Int)) : Option ((List (List Bool))) :=
  (mkL ((labels).length : Int) ([] : (List Bool))).bind fun x12 =>
  (whileC (fun s => p_impl_Ring_endsAtZero_L1 r_Table labels s.1 s.2) (x12, (w64 (((labels).length : Int) - (1 : Int))))).bind fun res18 => onRes res18 (fun r867 => none) fun (s862p : (List (List Bool)) × Int) =>
  some s862p.1

def p_spec_PathWeight_L1 (path : (List Int)) (r_Table : (List (List (List Int)))) (labels : (List Int)) (k230 : Nat) : Option (Ctl (Unit) (Int × Int)) :=
  (idx path (w64 (((1 : Int) + (k230 : Int)) - (1 : Int)))).bind fun x293 =>
  (idx r_Table x293).bind fun x316 =>
  (idx labels ((1 : Int) + (k230 : Int))).bind fun x353 =>
  (idx x316 x353).bind fun x376 =>
  (idx path ((1 : Int) + (k230 : Int))).bind fun x413 =>
  (idx x376 x413).bind fun x440 =>
  if (x440 == (0 : Int)) = true then
    some (.ret ((0 : Int), (0 : Int)))
  else
    some (.next ())

def p_spec_PathWeight_L2 (path : (List Int)) (r_Table : (List (List (List Int)))) (labels : (List Int)) (k473 : Nat) (x474 : Int) : Option (Ctl (Int) (Int × Int)) :=
  (idx path (w64 (((1 : Int) + (k473 : Int)) - (1 : Int)))).bind fun x539 =>
  (idx r_Table x539).bind fun x562 =>
  (idx labels ((1 : Int) + (k473 : Int))).bind fun x599 =>
  (idx x562 x599).bind fun x622 =>
  (idx path ((1 : Int) + (k473 : Int))).bind fun x659 =>
  (idx x622 x659).bind fun x687 =>
  (quoI .i64 (1000000000000000 : Int) x687).bind fun x694 =>
  if (decide (x474 > x694)) = true then
    some (.ret ((0 : Int), (3 : Int)))
  else
    some (.next (w64 (x474 * x687)))

def p_spec_PathWeight (r_Table : (List (List (List Int)))) (labels : (List Int)) (path : (List Int)) : Option (Int × Int) :=
  (p_spec_l15List r_Table labels).bind fun x9 =>
  (if (x9 == (0 : Int)) = true then
    if (((path).length : Int) != ((labels).length : Int)) = true then
      some true
    else
      (p_spec_l15Labels ((r_Table).length : Int) path).bind fun x23 =>
      some (!x23)
  else
    some false).bind fun (x16 : Bool) =>
  (if x16 = true then
    some (2 : Int)
  else
    some x9).bind fun (x38 : Int) =>
  if (x38 != (0 : Int)) = true then
    some ((0 : Int), x38)
  else
    (idx path (0 : Int)).bind fun x66 =>
    (idx labels (0 : Int)).bind fun x94 =>
    (if (x66 != x94) = true then
      some true
    else
      (idx path (w64 (((path).length : Int) - (1 : Int)))).bind fun x211 =>
      some (x211 != (0 : Int))).bind fun (x125 : Bool) =>
    if x125 = true then
      some ((0 : Int), (0 : Int))
    else
      (forN (fun k s => p_spec_PathWeight_L1 path r_Table labels k ) (((path).length : Int) - (1 : Int)).toNat 0 ()).bind fun res228 => onRes res228 (fun r726 => some r726) fun _ =>
      (forN (fun k s => p_spec_PathWeight_L2 path r_Table labels k s) (((path).length : Int) - (1 : Int)).toNat 0 (1 : Int)).bind fun res471 => onRes res471 (fun r725 => some r725) fun (x721 : Int) =>
      some (x721, (0 : Int))

def p_impl_PathWeight_L1 (path : (List Int)) (r_Table : (List (List (List Int)))) (labels : (List Int)) (k217 : Nat) (x218 : Int) (x219 : Bool) : Option (Ctl (Int × Bool) (Int × Int)) :=
  (idx path (w64 (((1 : Int) + (k217 : Int)) - (1 : Int)))).bind fun x285 =>
  (idx r_Table x285).bind fun x308 =>
  (idx labels ((1 : Int) + (k217 : Int))).bind fun x345 =>
  (idx x308 x345).bind fun x368 =>
  (idx path ((1 : Int) + (k217 : Int))).bind fun x405 =>
  (idx x368 x405).bind fun x434 =>
  if (x434 == (0 : Int)) = true then
    some (.ret ((0 : Int), (0 : Int)))
  else
    (if x219 = true then
      some true
    else
      (quoI .i64 (1000000000000000 : Int) x434).bind fun x449 =>
      some (decide (x218 > x449))).bind fun (x444 : Bool) =>
    some (.next ((if (w64 (x218 * x434)) < (1000000000000000 : Int) then (w64 (x218 * x434)) else (1000000000000000 : Int)), x444))

def p_impl_PathWeight (r_Table : (List (List (List Int)))) (labels : (List Int)) (path : (List Int)) : Option (Int × Int) :=
  (p_impl_pathCode r_Table labels).bind fun x9 =>
  if (x9 != (0 : Int)) = true then
    some ((0 : Int), x9)
  else
    (if (((path).length : Int) != ((labels).length : Int)) = true then
      some true
    else
      (p_impl_Ring_areLabels r_Table path).bind fun x26 =>
      some (!x26)).bind fun (x21 : Bool) =>
    if x21 = true then
      some ((0 : Int), (2 : Int))
    else
      (idx path (0 : Int)).bind fun x53 =>
      (idx labels (0 : Int)).bind fun x81 =>
      (if (x53 != x81) = true then
        some true
      else
        (idx path (w64 (((path).length : Int) - (1 : Int)))).bind fun x198 =>
        some (x198 != (0 : Int))).bind fun (x112 : Bool) =>
      if x112 = true then
        some ((0 : Int), (0 : Int))
      else
        (forN (fun k s => p_impl_PathWeight_L1 path r_Table labels k s.1 s.2) (((path).length : Int) - (1 : Int)).toNat 0 ((1 : Int), false)).bind fun res215 => onRes res215 (fun r492 => some r492) fun (s483p : Int × Bool) =>
        if s483p.2 = true then
          some ((0 : Int), (3 : Int))
        else
          some (s483p.1, (0 : Int))

def p_laws_FnExactPathWeight (aR_Table : (List (List (List Int)))) (aLabels : (List Int)) (aPath : (List Int)) : Option (Bool) :=
  if (decide (((aLabels).length : Int) > (1048576 : Int))) = true then
    some true
  else
    if (decide (((aPath).length : Int) > (1048576 : Int))) = true then
      some true
    else
      (p_laws_szRing aR_Table (1048576 : Int)).bind fun x15 =>
      if (decide (x15 < (0 : Int))) = true then
        some true
      else
        (p_laws_toRing aR_Table).bind fun x24 =>
        (p_laws_toInt64S aLabels).bind fun x35 =>
        (p_laws_toInt64S aPath).bind fun x47 =>
        (p_spec_PathWeight x24 x35 x47).bind fun x60 =>
        (p_laws_toRing aR_Table).bind fun x68 =>
        (p_laws_toInt64S aLabels).bind fun x81 =>
        (p_laws_toInt64S aPath).bind fun x88 =>
        (p_impl_PathWeight x68 x81 x88).bind fun x95 =>
        if ((x95.1 != x60.1) || (x95.2 != x60.2)) = true then
          some false
        else
          (p_laws_toRing aR_Table).bind fun x140 =>
          (p_laws_eqRing x68 x140).bind fun x162 =>
          if (!x162) = true then
            some false
          else
            (p_laws_toInt64S aLabels).bind fun x170 =>
            (p_laws_eqInt64S x81 x170).bind fun x177 =>
            if (!x177) = true then
              some false
            else
              (p_laws_toInt64S aPath).bind fun x185 =>
              (p_laws_eqInt64S x88 x185).bind fun x192 =>
              if (!x192) = true then
                some false
              else
                some true

def p_spec_l15Graph_L1 (graph : (List (List Int))) (k3 : Nat) (x4 : Int) : Option (Ctl (Int) (Bool)) :=
  (idx graph (k3 : Int)).bind fun x22 =>
  if (((x22).length : Int) != (3 : Int)) = true then
    some (.ret false)
  else
    some (.next (w64 (x4 + (3 : Int))))

def p_spec_l15Graph_L3 (graph : (List (List Int))) (k82 : Nat) (k102 : Nat) (x103 : (List Int)) : Option (Ctl ((List Int)) (Bool)) :=
  (idx graph (k82 : Int)).bind fun x120 =>
  (idx x120 (k102 : Int)).bind fun x127 =>
  (p_spec_l01In x127 (0 : Int) (w64 (((x103).length : Int) - (1 : Int)))).bind fun x135 =>
  if (!x135) = true then
    some (.ret false)
  else
    (idx x103 x127).bind fun x149 =>
    some (.next ((x103).set (x127).toNat (w64 (x149 + (1 : Int)))))

def p_spec_l15Graph_L2 (graph : (List (List Int))) (k82 : Nat) (x83 : (List Int)) : Option (Ctl ((List Int)) (Bool)) :=
  (forN (fun k s => p_spec_l15Graph_L3 graph k82 k s) ((3 : Int)).toNat 0 x83).bind fun res100 => onRes res100 (fun r181 => some (.ret r181)) fun (x176 : (List Int)) =>
  some (.next x176)

def p_spec_l15Graph_L4 (x200 : (List Int)) (k205 : Nat) : Option (Ctl (Unit) (Bool)) :=
  (idx x200 (k205 : Int)).bind fun x221 =>
  if (x221 != (2 : Int)) = true then
    some (.ret false)
  else
    some (.next ())

def p_spec_l15Graph (graph : (List (List Int))) : Option (Bool) :=
  (forN (fun k s => p_spec_l15Graph_L1 graph k s) (graph).length 0 (0 : Int)).bind fun res1 => onRes res1 (fun r249 => some r249) fun (x51 : Int) =>
  if (((((x51).tmod (2 : Int)) != (0 : Int)) || (decide (x51 < (2 : Int)))) || (decide (x51 > (18 : Int)))) = true then
    some false
  else
    (mkL (w64 ((x51).tdiv (2 : Int))) (0 : Int)).bind fun x74 =>
    (forN (fun k s => p_spec_l15Graph_L2 graph k s) (graph).length 0 x74).bind fun res80 => onRes res80 (fun r248 => some r248) fun (x200 : (List Int)) =>
    (forN (fun k s => p_spec_l15Graph_L4 x200 k ) (x200).length 0 ()).bind fun res203 => onRes res203 (fun r247 => some r247) fun _ =>
    some true

def p_slices_Max_Lint64_int64_L1 (x : (List Int)) (k18 : Nat) (x19 : Int) : Option (Ctl (Int) (Unit)) :=
  (idx x ((1 : Int) + (k18 : Int))).bind fun x37 =>
  some (.next (if x37 > x19 then x37 else x19))

def p_slices_Max_Lint64_int64 (x : (List Int)) : Option (Int) :=
  (if (decide (((x).length : Int) < (1 : Int))) = true then
    none
  else
    some ()).bind fun (_ : Unit) =>
  (idx x (0 : Int)).bind fun x9 =>
  (forN (fun k s => p_slices_Max_Lint64_int64_L1 x k s) (((x).length : Int) - (1 : Int)).toNat 0 x9).bind fun res16 => onRes res16 (fun r67 => none) fun (x63 : Int) =>
  some x63

def p_impl_Ring_greatest_L2 (x31 : (List (List Int))) (k41 : Nat) (x42 : Int) : Option (Ctl (Int) (Unit)) :=
  (idx x31 (k41 : Int)).bind fun x63 =>
  (p_slices_Max_Lint64_int64 x63).bind fun x70 =>
  some (.next (if x70 > x42 then x70 else x42))

def p_impl_Ring_greatest_L1 (r_Table : (List (List (List Int)))) (k12 : Nat) (x13 : Int) : Option (Ctl (Int) (Unit)) :=
  (idx r_Table (k12 : Int)).bind fun x31 =>
  (forN (fun k s => p_impl_Ring_greatest_L2 x31 k s) (x31).length 0 x13).bind fun res39 => onRes res39 (fun r106 => none) fun (x99 : Int) =>
  some (.next x99)

def p_impl_Ring_greatest (r_Table : (List (List (List Int)))) : Option (Int) :=
  (forN (fun k s => p_impl_Ring_greatest_L1 r_Table k s) (r_Table).length 0 (0 : Int)).bind fun res10 => onRes res10 (fun r130 => none) fun (x126 : Int) =>
  some x126

def p_impl_Ring_labellings_L1 (r_Table : (List (List (List Int)))) (k11 : Nat) (x12 : Int) : Option (Ctl (Int) (Int)) :=
  if (decide ((w64 (x12 * ((r_Table).length : Int))) > (300000 : Int))) = true then
    some (.ret (-1 : Int))
  else
    some (.next (w64 (x12 * ((r_Table).length : Int))))

def p_impl_Ring_labellings_L2 (x60 : Int) (k69 : Nat) (x70 : Int) : Option (Ctl (Int) (Int)) :=
  if (decide ((w64 (x70 * x60)) > (1000000000000000 : Int))) = true then
    some (.ret (-1 : Int))
  else
    some (.next (w64 (x70 * x60)))

def p_impl_Ring_labellings (r_Table : (List (List (List Int)))) (edges : Int) (vertices : Int) : Option (Int) :=
  (forN (fun k s => p_impl_Ring_labellings_L1 r_Table k s) (edges).toNat 0 (1 : Int)).bind fun res9 => onRes res9 (fun r115 => some r115) fun (x54 : Int) =>
  (p_impl_Ring_greatest r_Table).bind fun x60 =>
  (forN (fun k s => p_impl_Ring_labellings_L2 x60 k s) (vertices).toNat 0 x54).bind fun res67 => onRes res67 (fun r114 => some r114) fun (x111 : Int) =>
  some x54

end
end Go.VG
