/- The functions' plain twins, as a program of ours printed them. No proof. -/
import Derived.Test.YtopabdbonlnijaaVgPure
set_option linter.all false
namespace Go.VG
noncomputable section

def p_laws_szInt64S (a : (List Int)) (left : Int) : Option (Int) :=
  if (decide ((w64 (left - ((a).length : Int))) < (0 : Int))) = true then
    some (-1 : Int)
  else
    some (w64 (left - ((a).length : Int)))

def p_laws_szInt64SS_L1 (a : (List (List Int))) (k6 : Nat) (x7 : Int) : Option (Ctl (Int) (Int)) :=
  (idx a (k6 : Int)).bind fun x25 =>
  (p_laws_szInt64S x25 x7).bind fun x32 =>
  if (decide (x32 < (0 : Int))) = true then
    some (.ret (-1 : Int))
  else
    some (.next x32)

def p_laws_szInt64SS (a : (List (List Int))) (left : Int) : Option (Int) :=
  if (decide ((w64 (left - ((a).length : Int))) < (0 : Int))) = true then
    some (-1 : Int)
  else
    (forN (fun k s => p_laws_szInt64SS_L1 a k s) (a).length 0 (w64 (left - ((a).length : Int)))).bind fun res4 => onRes res4 (fun r64 => some r64) fun (x60 : Int) =>
    some x60

def p_laws_szInt64SSS_L1 (a : (List (List (List Int)))) (k6 : Nat) (x7 : Int) : Option (Ctl (Int) (Int)) :=
  (idx a (k6 : Int)).bind fun x25 =>
  (p_laws_szInt64SS x25 x7).bind fun x32 =>
  if (decide (x32 < (0 : Int))) = true then
    some (.ret (-1 : Int))
  else
    some (.next x32)

def p_laws_szInt64SSS (a : (List (List (List Int)))) (left : Int) : Option (Int) :=
  if (decide ((w64 (left - ((a).length : Int))) < (0 : Int))) = true then
    some (-1 : Int)
  else
    (forN (fun k s => p_laws_szInt64SSS_L1 a k s) (a).length 0 (w64 (left - ((a).length : Int)))).bind fun res4 => onRes res4 (fun r64 => some r64) fun (x60 : Int) =>
    some x60

def p_laws_szRing (a_Table : (List (List (List Int)))) (left : Int) : Option (Int) :=
  (p_laws_szInt64SSS a_Table left).bind fun x9 =>
  if (decide (x9 < (0 : Int))) = true then
    some (-1 : Int)
  else
    some x9

def p_laws_toInt64S_L1 (a : (List Int)) (k10 : Nat) (x11 : (List Int)) : Option (Ctl ((List Int)) (Unit)) :=
  (idx a (k10 : Int)).bind fun x28 =>
  (idx x11 (k10 : Int)).bind fun x35 =>
  some (.next ((x11).set ((k10 : Int)).toNat x28))

def p_laws_toInt64S (a : (List Int)) : Option ((List Int)) :=
  (mkL ((a).length : Int) (0 : Int)).bind fun x2 =>
  (forN (fun k s => p_laws_toInt64S_L1 a k s) (a).length 0 x2).bind fun res8 => onRes res8 (fun r62 => none) fun (x59 : (List Int)) =>
  some x59

def p_laws_toInt64SS_L1 (a : (List (List Int))) (k10 : Nat) (x11 : (List (List Int))) : Option (Ctl ((List (List Int))) (Unit)) :=
  (idx a (k10 : Int)).bind fun x28 =>
  (p_laws_toInt64S x28).bind fun x35 =>
  (idx x11 (k10 : Int)).bind fun x42 =>
  some (.next ((x11).set ((k10 : Int)).toNat x35))

def p_laws_toInt64SS (a : (List (List Int))) : Option ((List (List Int))) :=
  (mkL ((a).length : Int) ([] : (List Int))).bind fun x2 =>
  (forN (fun k s => p_laws_toInt64SS_L1 a k s) (a).length 0 x2).bind fun res8 => onRes res8 (fun r69 => none) fun (x66 : (List (List Int))) =>
  some x66

def p_laws_toInt64SSS_L1 (a : (List (List (List Int)))) (k10 : Nat) (x11 : (List (List (List Int)))) : Option (Ctl ((List (List (List Int)))) (Unit)) :=
  (idx a (k10 : Int)).bind fun x28 =>
  (p_laws_toInt64SS x28).bind fun x35 =>
  (idx x11 (k10 : Int)).bind fun x42 =>
  some (.next ((x11).set ((k10 : Int)).toNat x35))

def p_laws_toInt64SSS (a : (List (List (List Int)))) : Option ((List (List (List Int)))) :=
  (mkL ((a).length : Int) ([] : (List (List Int)))).bind fun x2 =>
  (forN (fun k s => p_laws_toInt64SSS_L1 a k s) (a).length 0 x2).bind fun res8 => onRes res8 (fun r69 => none) fun (x66 : (List (List (List Int)))) =>
  some x66

def p_laws_toRing (a_Table : (List (List (List Int)))) : Option ((List (List (List Int)))) :=
  (p_laws_toInt64SSS a_Table).bind fun x17 =>
  some x17

def p_spec_l01In (n : Int) (low : Int) (high : Int) : Option (Bool) :=
  some ((decide (n ≥ low)) && (decide (n ≤ high)))

def p_spec_l03Cube_L3 (x62 : (List Int)) (k74 : Nat) : Option (Ctl (Unit) (Bool)) :=
  (idx x62 (k74 : Int)).bind fun x98 =>
  (p_spec_l01In x98 (0 : Int) (1000 : Int)).bind fun x105 =>
  if (!x105) = true then
    some (.ret false)
  else
    some (.next ())

def p_spec_l03Cube_L2 (x30 : (List (List Int))) (t : (List (List (List Int)))) (k42 : Nat) : Option (Ctl (Unit) (Bool)) :=
  (idx x30 (k42 : Int)).bind fun x62 =>
  if (((x62).length : Int) != ((t).length : Int)) = true then
    some (.ret false)
  else
    (forN (fun k s => p_spec_l03Cube_L3 x62 k ) (t).length 0 ()).bind fun res72 => onRes res72 (fun r136 => some (.ret r136)) fun _ =>
    some (.next ())

def p_spec_l03Cube_L1 (t : (List (List (List Int)))) (k14 : Nat) : Option (Ctl (Unit) (Bool)) :=
  (idx t (k14 : Int)).bind fun x30 =>
  if (((x30).length : Int) != ((t).length : Int)) = true then
    some (.ret false)
  else
    (forN (fun k s => p_spec_l03Cube_L2 x30 t k ) (t).length 0 ()).bind fun res40 => onRes res40 (fun r158 => some (.ret r158)) fun _ =>
    some (.next ())

def p_spec_l03Cube (t : (List (List (List Int)))) : Option (Bool) :=
  if ((decide (((t).length : Int) < (1 : Int))) || (decide (((t).length : Int) > (16 : Int)))) = true then
    some false
  else
    (forN (fun k s => p_spec_l03Cube_L1 t k ) (t).length 0 ()).bind fun res12 => onRes res12 (fun r176 => some r176) fun _ =>
    some true

def p_spec_l03Dual_L1 (t : (List (List (List Int)))) (i : Int) (k3 : Nat) (x4 : Int) : Option (Ctl (Int) (Int)) :=
  (idx t i).bind fun x23 =>
  (idx x23 (k3 : Int)).bind fun x30 =>
  (idx x30 (0 : Int)).bind fun x37 =>
  if ((x37 == (1 : Int)) && (decide (x4 < (0 : Int)))) = true then
    some (.next (k3 : Int))
  else
    if (x37 != (0 : Int)) = true then
      some (.ret (-1 : Int))
    else
      some (.next x4)

def p_spec_l03Dual (t : (List (List (List Int)))) (i : Int) : Option (Int) :=
  (forN (fun k s => p_spec_l03Dual_L1 t i k s) (t).length 0 (-1 : Int)).bind fun res1 => onRes res1 (fun r91 => some r91) fun (x87 : Int) =>
  some x87

def p_spec_l03Fault_L2 (k4 : Nat) (t : (List (List (List Int)))) (k22 : Nat) : Option (Ctl (Unit) ((List Int))) :=
  (if ((k4 : Int) == (k22 : Int)) = true then
    some (1 : Int)
  else
    some (0 : Int)).bind fun (x39 : Int) =>
  (idx t (0 : Int)).bind fun x52 =>
  (idx x52 (k4 : Int)).bind fun x59 =>
  (idx x59 (k22 : Int)).bind fun x66 =>
  (if (x66 != x39) = true then
    some true
  else
    (idx t (k4 : Int)).bind fun x79 =>
    (idx x79 (0 : Int)).bind fun x86 =>
    (idx x86 (k22 : Int)).bind fun x93 =>
    some (x93 != x39)).bind fun (x74 : Bool) =>
  if x74 = true then
    some (.ret ([(0 : Int), (k4 : Int), (k22 : Int)] : (List Int)))
  else
    some (.next ())

def p_spec_l03Fault_L1 (t : (List (List (List Int)))) (k4 : Nat) : Option (Ctl (Unit) ((List Int))) :=
  (forN (fun k s => p_spec_l03Fault_L2 k4 t k ) (t).length 0 ()).bind fun res20 => onRes res20 (fun r133 => some (.ret r133)) fun _ =>
  some (.next ())

def p_spec_l03Fault_L3 (t : (List (List (List Int)))) (k159 : Nat) (x160 : (List Int)) : Option (Ctl ((List Int)) (Unit)) :=
  (p_spec_l03Dual t (k159 : Int)).bind fun x178 =>
  (appL x160 ([x178] : (List Int))).bind fun x189 =>
  some (.next x189)

def p_spec_l03Fault_L4 (x214 : (List Int)) (k222 : Nat) : Option (Ctl (Unit) ((List Int))) :=
  (idx x214 (k222 : Int)).bind fun x239 =>
  (if (decide (x239 < (0 : Int))) = true then
    some true
  else
    (idx x214 x239).bind fun x255 =>
    some (x255 != (k222 : Int))).bind fun (x247 : Bool) =>
  if x247 = true then
    some (.ret ([(1 : Int), (k222 : Int)] : (List Int)))
  else
    some (.next ())

def p_spec_l03Fault_L7 (t : (List (List (List Int)))) (k297 : Nat) (k316 : Nat) (x214 : (List Int)) (k336 : Nat) : Option (Ctl (Unit) ((List Int))) :=
  (idx t (k297 : Int)).bind fun x384 =>
  (idx x384 (k316 : Int)).bind fun x423 =>
  (idx x423 (k336 : Int)).bind fun x462 =>
  (idx x214 (k297 : Int)).bind fun x515 =>
  (idx t x515).bind fun x547 =>
  (idx x547 (k336 : Int)).bind fun x586 =>
  (idx x586 (k316 : Int)).bind fun x625 =>
  (if (x462 != x625) = true then
    some true
  else
    (idx t (k336 : Int)).bind fun x1110 =>
    (idx x214 (k316 : Int)).bind fun x1172 =>
    (idx x1110 x1172).bind fun x1212 =>
    (idx x1212 (k297 : Int)).bind fun x1263 =>
    some (x462 != x1263)).bind fun (x668 : Bool) =>
  if x668 = true then
    some (.ret ([(2 : Int), (k297 : Int), (k316 : Int), (k336 : Int)] : (List Int)))
  else
    some (.next ())

def p_spec_l03Fault_L6 (t : (List (List (List Int)))) (k297 : Nat) (x214 : (List Int)) (k316 : Nat) : Option (Ctl (Unit) ((List Int))) :=
  (forN (fun k s => p_spec_l03Fault_L7 t k297 k316 x214 k ) (t).length 0 ()).bind fun res334 => onRes res334 (fun r1374 => some (.ret r1374)) fun _ =>
  some (.next ())

def p_spec_l03Fault_L5 (t : (List (List (List Int)))) (x214 : (List Int)) (k297 : Nat) : Option (Ctl (Unit) ((List Int))) :=
  (forN (fun k s => p_spec_l03Fault_L6 t k297 x214 k ) (t).length 0 ()).bind fun res314 => onRes res314 (fun r1398 => some (.ret r1398)) fun _ =>
  some (.next ())

def p_spec_l03Fault_L12 (t : (List (List (List Int)))) (k1421 : Nat) (k1439 : Nat) (k1458 : Nat) (k1478 : Nat) (k1499 : Nat) (x1500 : Int) (x1501 : Int) : Option (Ctl (Int × Int) (Unit)) :=
  (idx t (k1421 : Int)).bind fun x1561 =>
  (idx x1561 (k1439 : Int)).bind fun x1600 =>
  (idx x1600 (k1499 : Int)).bind fun x1639 =>
  (idx t (k1499 : Int)).bind fun x1685 =>
  (idx x1685 (k1458 : Int)).bind fun x1724 =>
  (idx x1724 (k1478 : Int)).bind fun x1763 =>
  (idx t (k1439 : Int)).bind fun x1853 =>
  (idx x1853 (k1458 : Int)).bind fun x1892 =>
  (idx x1892 (k1499 : Int)).bind fun x1931 =>
  (idx x1561 (k1499 : Int)).bind fun x2012 =>
  (idx x2012 (k1478 : Int)).bind fun x2051 =>
  some (.next ((w64 (x1500 + (w64 (x1639 * x1763)))), (w64 (x1501 + (w64 (x1931 * x2051))))))

def p_spec_l03Fault_L11 (t : (List (List (List Int)))) (k1421 : Nat) (k1439 : Nat) (k1458 : Nat) (k1478 : Nat) : Option (Ctl (Unit) ((List Int))) :=
  (forN (fun k s => p_spec_l03Fault_L12 t k1421 k1439 k1458 k1478 k s.1 s.2) (t).length 0 ((0 : Int), (0 : Int))).bind fun res1497 => onRes res1497 (fun r2150 => none) fun (s2130p : Int × Int) =>
  if (s2130p.1 != s2130p.2) = true then
    some (.ret ([(3 : Int), (k1421 : Int), (k1439 : Int), (k1458 : Int), (k1478 : Int)] : (List Int)))
  else
    some (.next ())

def p_spec_l03Fault_L10 (t : (List (List (List Int)))) (k1421 : Nat) (k1439 : Nat) (k1458 : Nat) : Option (Ctl (Unit) ((List Int))) :=
  (forN (fun k s => p_spec_l03Fault_L11 t k1421 k1439 k1458 k ) (t).length 0 ()).bind fun res1476 => onRes res1476 (fun r2176 => some (.ret r2176)) fun _ =>
  some (.next ())

def p_spec_l03Fault_L9 (t : (List (List (List Int)))) (k1421 : Nat) (k1439 : Nat) : Option (Ctl (Unit) ((List Int))) :=
  (forN (fun k s => p_spec_l03Fault_L10 t k1421 k1439 k ) (t).length 0 ()).bind fun res1456 => onRes res1456 (fun r2200 => some (.ret r2200)) fun _ =>
  some (.next ())

def p_spec_l03Fault_L8 (t : (List (List (List Int)))) (k1421 : Nat) : Option (Ctl (Unit) ((List Int))) :=
  (forN (fun k s => p_spec_l03Fault_L9 t k1421 k ) (t).length 0 ()).bind fun res1437 => onRes res1437 (fun r2222 => some (.ret r2222)) fun _ =>
  some (.next ())

def p_spec_l03Fault (t : (List (List (List Int)))) : Option ((List Int)) :=
  (forN (fun k s => p_spec_l03Fault_L1 t k ) (t).length 0 ()).bind fun res2 => onRes res2 (fun r2244 => some r2244) fun _ =>
  (forN (fun k s => p_spec_l03Fault_L3 t k s) (t).length 0 ([] : (List Int))).bind fun res157 => onRes res157 (fun r2243 => none) fun (x214 : (List Int)) =>
  (forN (fun k s => p_spec_l03Fault_L4 x214 k ) (t).length 0 ()).bind fun res220 => onRes res220 (fun r2242 => some r2242) fun _ =>
  (forN (fun k s => p_spec_l03Fault_L5 t x214 k ) (t).length 0 ()).bind fun res295 => onRes res295 (fun r2241 => some r2241) fun _ =>
  (forN (fun k s => p_spec_l03Fault_L8 t k ) (t).length 0 ()).bind fun res1419 => onRes res1419 (fun r2240 => some r2240) fun _ =>
  some ([] : (List Int))

def p_spec_l03Is (r_Table : (List (List (List Int)))) : Option (Bool) :=
  (p_spec_l03Cube r_Table).bind fun x9 =>
  (if x9 = true then
    (p_spec_l03Fault r_Table).bind fun x21 =>
    some (((x21).length : Int) == (0 : Int))
  else
    some false).bind fun (x16 : Bool) =>
  some x16

def p_spec_l03Sorted_L1 (x49 : (List Int)) (x99 : (List Int)) (x154 : (List Int)) (x155 : Int) (x156 : Int) : Option (Ctl ((List Int) × Int × Int) (Unit)) :=
  if ((decide (x155 < ((x49).length : Int))) || (decide (x156 < ((x99).length : Int)))) = true then
    (if (x156 == ((x99).length : Int)) = true then
      some true
    else
      if (decide (x155 < ((x49).length : Int))) = true then
        (idx x49 x155).bind fun x501 =>
        (idx x99 x156).bind fun x563 =>
        some (decide (x501 ≤ x563))
      else
        some false).bind fun (x189 : Bool) =>
    (if x189 = true then
      (idx x49 x155).bind fun x735 =>
      (appL x154 ([x735] : (List Int))).bind fun x746 =>
      some (x746, (w64 (x155 + (1 : Int))), x156)
    else
      (idx x99 x156).bind fun x752 =>
      (appL x154 ([x752] : (List Int))).bind fun x763 =>
      some (x763, x155, (w64 (x156 + (1 : Int))))).bind fun ⟨x730, x731, x732⟩ =>
    some (.next (x730, x731, x732))
  else
    some (.brk (x154, x155, x156))

def p_spec_l03Sorted_B (rf : ((List Int) → Option ((List Int)))) (list : (List Int)) : Option ((List Int)) :=
  if (decide (((list).length : Int) < (2 : Int))) = true then
    some list
  else
    (cutL list (0 : Int) (w64 ((((list).length : Int)).tdiv (2 : Int)))).bind fun x34 =>
    (rf x34).bind fun x49 =>
    (cutL list (w64 ((((list).length : Int)).tdiv (2 : Int))) ((list).length : Int)).bind fun x84 =>
    (rf x84).bind fun x99 =>
    (whileC (fun s => p_spec_l03Sorted_L1 x49 x99 s.1 s.2.1 s.2.2) (([] : (List Int)), (0 : Int), (0 : Int))).bind fun res151 => onRes res151 (fun r792 => none) fun (s785p : (List Int) × Int × Int) =>
    some s785p.1

def p_spec_l03Sorted_F : Nat → (List Int) → Option ((List Int))
  | 0 => fun _ => none
  | n + 1 => fun x_list => p_spec_l03Sorted_B (p_spec_l03Sorted_F n) x_list

def p_spec_l03Sorted (list : (List Int)) : Option ((List Int)) := p_spec_l03Sorted_F fuelN list

def p_spec_l03Mark_L2 (colours : (List Int)) (k7 : Nat) (t : (List (List (List Int)))) (x : Int) (k30 : Nat) (x31 : (List Int)) : Option (Ctl ((List Int)) (Unit)) :=
  (idx colours (k7 : Int)).bind fun x81 =>
  (idx colours (k30 : Int)).bind fun x138 =>
  (idx t x).bind fun x217 =>
  (idx x217 (k7 : Int)).bind fun x256 =>
  (idx x256 (k30 : Int)).bind fun x295 =>
  (idx t (k7 : Int)).bind fun x375 =>
  (idx x375 x).bind fun x414 =>
  (idx x414 (k30 : Int)).bind fun x453 =>
  (idx x375 (k30 : Int)).bind fun x579 =>
  (idx x579 x).bind fun x618 =>
  (appL x31 ([(w64 ((w64 ((w64 ((w64 ((w64 (x81 * (64 : Int))) + x138)) * (1024 : Int))) * (4 : Int))) + (w64 (x295 * (4 : Int))))), (w64 ((w64 ((w64 ((w64 ((w64 ((w64 (x81 * (64 : Int))) + x138)) * (1024 : Int))) * (4 : Int))) + (w64 (x453 * (4 : Int))))) + (1 : Int))), (w64 ((w64 ((w64 ((w64 ((w64 ((w64 (x81 * (64 : Int))) + x138)) * (1024 : Int))) * (4 : Int))) + (w64 (x618 * (4 : Int))))) + (2 : Int)))] : (List Int))).bind fun x716 =>
  some (.next x716)

def p_spec_l03Mark_L1 (colours : (List Int)) (t : (List (List (List Int)))) (x : Int) (k7 : Nat) (x8 : (List Int)) : Option (Ctl ((List Int)) (Unit)) :=
  (forN (fun k s => p_spec_l03Mark_L2 colours k7 t x k s) (t).length 0 x8).bind fun res28 => onRes res28 (fun r1152 => none) fun (x744 : (List Int)) =>
  (idx colours (k7 : Int)).bind fun x788 =>
  (idx t x).bind fun x845 =>
  (idx x845 x).bind fun x884 =>
  (idx x884 (k7 : Int)).bind fun x923 =>
  (idx x845 (k7 : Int)).bind fun x1042 =>
  (idx x1042 (k7 : Int)).bind fun x1081 =>
  (appL x744 ([(w64 ((w64 ((1099511627776 : Int) + (w64 ((w64 ((w64 (x788 * (1024 : Int))) + x923)) * (1024 : Int))))) + x1081))] : (List Int))).bind fun x1146 =>
  some (.next x1146)

def p_spec_l03Mark (t : (List (List (List Int)))) (colours : (List Int)) (x : Int) : Option ((List Int)) :=
  (forN (fun k s => p_spec_l03Mark_L1 colours t x k s) (t).length 0 ([] : (List Int))).bind fun res5 => onRes res5 (fun r1286 => none) fun (x1174 : (List Int)) =>
  (idx colours x).bind fun x1212 =>
  (p_spec_l03Sorted x1174).bind fun x1262 =>
  (appL ([x1212] : (List Int)) x1262).bind fun x1280 =>
  some x1280

def p_spec_l01Less_L1 (a : (List Int)) (b : (List Int)) (x4 : Int) : Option (Ctl (Int) (Bool)) :=
  if ((decide (x4 < ((a).length : Int))) && (decide (x4 < ((b).length : Int)))) = true then
    (idx a x4).bind fun x60 =>
    (idx b x4).bind fun x106 =>
    if (x60 != x106) = true then
      some (.ret (decide (x60 < x106)))
    else
      some (.next (w64 (x4 + (1 : Int))))
  else
    some (.brk x4)

def p_spec_l01Less (a : (List Int)) (b : (List Int)) : Option (Bool) :=
  (whileC (fun s => p_spec_l01Less_L1 a b s) (0 : Int)).bind fun res1 => onRes res1 (fun r249 => some r249) fun (x243 : Int) =>
  some (decide (((a).length : Int) < ((b).length : Int)))

def p_spec_l01Same_L1 (a : (List Int)) (b : (List Int)) (k7 : Nat) : Option (Ctl (Unit) (Bool)) :=
  (idx a (k7 : Int)).bind fun x53 =>
  (idx b (k7 : Int)).bind fun x99 =>
  if (x53 != x99) = true then
    some (.ret false)
  else
    some (.next ())

def p_spec_l01Same (a : (List Int)) (b : (List Int)) : Option (Bool) :=
  if (((a).length : Int) != ((b).length : Int)) = true then
    some false
  else
    (forN (fun k s => p_spec_l01Same_L1 a b k ) (a).length 0 ()).bind fun res5 => onRes res5 (fun r152 => some r152) fun _ =>
    some true

def p_spec_l03Kinds_L2 (x9 : (List (List Int))) (marks : (List (List Int))) (k8 : Nat) (x31 : Int) : Option (Ctl (Int) (Unit)) :=
  (if (decide (x31 < ((x9).length : Int))) = true then
    (idx x9 x31).bind fun x142 =>
    (idx marks (k8 : Int)).bind fun x204 =>
    (p_spec_l01Less x142 x204).bind fun x250 =>
    some x250
  else
    some false).bind fun (x98 : Bool) =>
  if x98 = true then
    some (.next (w64 (x31 + (1 : Int))))
  else
    some (.brk x31)

def p_spec_l03Kinds_L1 (marks : (List (List Int))) (k8 : Nat) (x9 : (List (List Int))) : Option (Ctl ((List (List Int))) (Unit)) :=
  (whileC (fun s => p_spec_l03Kinds_L2 x9 marks k8 s) (0 : Int)).bind fun res28 => onRes res28 (fun r834 => none) fun (x368 : Int) =>
  (if (decide (x368 < ((x9).length : Int))) = true then
    (idx x9 x368).bind fun x471 =>
    (idx marks (k8 : Int)).bind fun x533 =>
    (p_spec_l01Same x471 x533).bind fun x579 =>
    some x579
  else
    some false).bind fun (x427 : Bool) =>
  if x427 = true then
    some (.next x9)
  else
    (idx marks (k8 : Int)).bind fun x721 =>
    (cutL x9 x368 ((x9).length : Int)).bind fun x782 =>
    (appL ([x721] : (List (List Int))) x782).bind fun x808 =>
    (cutL x9 (0 : Int) x368).bind fun x818 =>
    (appL ([] : (List (List Int))) x818).bind fun x822 =>
    (appL x822 x808).bind fun x828 =>
    some (.next x828)

def p_spec_l03Kinds_L4 (x855 : (List (List Int))) (marks : (List (List Int))) (k874 : Nat) (x900 : Int) : Option (Ctl (Int) (Unit)) :=
  (idx x855 x900).bind fun x947 =>
  (idx marks (k874 : Int)).bind fun x993 =>
  (p_spec_l01Same x947 x993).bind fun x1028 =>
  if (!x1028) = true then
    some (.next (w64 (x900 + (1 : Int))))
  else
    some (.brk x900)

def p_spec_l03Kinds_L3 (x855 : (List (List Int))) (marks : (List (List Int))) (k874 : Nat) (x875 : (List Int)) (x876 : (List Int)) : Option (Ctl ((List Int) × (List Int)) (Unit)) :=
  (whileC (fun s => p_spec_l03Kinds_L4 x855 marks k874 s) (0 : Int)).bind fun res897 => onRes res897 (fun r1092 => none) fun (x1041 : Int) =>
  (appL x876 ([x1041] : (List Int))).bind fun x1055 =>
  (if (decide ((k874 : Int) < (w64 ((((marks).length : Int)).tdiv (2 : Int))))) = true then
    (idx x875 x1041).bind fun x1064 =>
    some ((x875).set (x1041).toNat (w64 (x1064 + (1 : Int))))
  else
    (idx x875 x1041).bind fun x1073 =>
    some ((x875).set (x1041).toNat (w64 (x1073 - (1 : Int))))).bind fun (x1061 : (List Int)) =>
  some (.next (x1061, x1055))

def p_spec_l03Kinds_L5 (x1116 : (List Int)) (k1126 : Nat) : Option (Ctl (Unit) ((List Int) × (List Int) × Int × Bool)) :=
  (idx x1116 (k1126 : Int)).bind fun x1145 =>
  if (x1145 != (0 : Int)) = true then
    some (.ret (([] : (List Int)), ([] : (List Int)), (0 : Int), false))
  else
    some (.next ())

def p_spec_l03Kinds (marks : (List (List Int))) : Option ((List Int) × (List Int) × Int × Bool) :=
  (forN (fun k s => p_spec_l03Kinds_L1 marks k s) (marks).length 0 ([] : (List (List Int)))).bind fun res6 => onRes res6 (fun r1298 => none) fun (x855 : (List (List Int))) =>
  (mkL ((x855).length : Int) (0 : Int)).bind fun x862 =>
  (forN (fun k s => p_spec_l03Kinds_L3 x855 marks k s.1 s.2) (marks).length 0 (x862, ([] : (List Int)))).bind fun res872 => onRes res872 (fun r1297 => none) fun (s1115p : (List Int) × (List Int)) =>
  (forN (fun k s => p_spec_l03Kinds_L5 s1115p.1 k ) (s1115p.1).length 0 ()).bind fun res1124 => onRes res1124 (fun r1296 => some r1296) fun _ =>
  (cutL s1115p.2 (0 : Int) (w64 ((((marks).length : Int)).tdiv (2 : Int)))).bind fun x1206 =>
  (cutL s1115p.2 (w64 ((((marks).length : Int)).tdiv (2 : Int))) ((s1115p.2).length : Int)).bind fun x1240 =>
  some (x1206, x1240, ((x855).length : Int), true)

def p_spec_l03Refine_L2 (a : (List (List (List Int)))) (x4 : ((List Int) × (List Int))) (k28 : Nat) (x29 : (List (List Int))) : Option (Ctl ((List (List Int))) (Unit)) :=
  (p_spec_l03Mark a (x4).1 (k28 : Int)).bind fun x51 =>
  (appL x29 [x51]).bind fun x64 =>
  some (.next x64)

def p_spec_l03Refine_L3 (b : (List (List (List Int)))) (x4 : ((List Int) × (List Int))) (k103 : Nat) (x104 : (List (List Int))) : Option (Ctl ((List (List Int))) (Unit)) :=
  (p_spec_l03Mark b (x4).2 (k103 : Int)).bind fun x125 =>
  (appL x104 [x125]).bind fun x138 =>
  some (.next x138)

def p_spec_l03Refine_L1 (a : (List (List (List Int)))) (b : (List (List (List Int)))) (x4 : ((List Int) × (List Int))) (x5 : Int) : Option (Ctl (((List Int) × (List Int)) × Int) ((List Int) × (List Int) × Bool)) :=
  (forN (fun k s => p_spec_l03Refine_L2 a x4 k s) (a).length 0 ([] : (List (List Int)))).bind fun res26 => onRes res26 (fun r187 => none) fun (x93 : (List (List Int))) =>
  (forN (fun k s => p_spec_l03Refine_L3 b x4 k s) (b).length 0 x93).bind fun res101 => onRes res101 (fun r186 => none) fun (x166 : (List (List Int))) =>
  (p_spec_l03Kinds x166).bind fun x173 =>
  if (!x173.2.2.2) = true then
    some (.ret (([] : (List Int)), ([] : (List Int)), false))
  else
    if (x173.2.2.1 == x5) = true then
      some (.ret (((x173.1, x173.2.1)).1, ((x173.1, x173.2.1)).2, true))
    else
      some (.next ((x173.1, x173.2.1), x173.2.2.1))

def p_spec_l03Refine (a : (List (List (List Int)))) (b : (List (List (List Int)))) (first : (List Int)) (second : (List Int)) : Option ((List Int) × (List Int) × Bool) :=
  (whileC (fun s => p_spec_l03Refine_L1 a b s.1 s.2) ((first, second), (0 : Int))).bind fun res1 => onRes res1 (fun r196 => some r196) fun (s192p : ((List Int) × (List Int)) × Int) =>
  none

def p_spec_l03Fits_L3 (f1 : (List Int)) (x5 : Int) (a : (List (List (List Int)))) (x26 : Int) (b : (List (List (List Int)))) (x48 : Int) : Option (Ctl (Int) (Bool)) :=
  if (decide (x48 ≤ (w64 (((f1).length : Int) - (1 : Int))))) = true then
    (if (x5 == (w64 (((f1).length : Int) - (1 : Int)))) = true then
      if true = true then
        if true = true then
          (idx a x5).bind fun x256 =>
          (idx x256 x26).bind fun x307 =>
          (idx x307 x48).bind fun x358 =>
          (idx f1 x5).bind fun x431 =>
          (idx b x431).bind fun x471 =>
          (idx f1 x26).bind fun x533 =>
          (idx x471 x533).bind fun x573 =>
          (idx f1 x48).bind fun x635 =>
          (idx x573 x635).bind fun x675 =>
          some (x358 != x675)
        else
          some false
      else
        if (x48 == (w64 (((f1).length : Int) - (1 : Int)))) = true then
          (idx a x5).bind fun x1180 =>
          (idx x1180 x26).bind fun x1231 =>
          (idx x1231 x48).bind fun x1282 =>
          (idx f1 x5).bind fun x1355 =>
          (idx b x1355).bind fun x1395 =>
          (idx f1 x26).bind fun x1457 =>
          (idx x1395 x1457).bind fun x1497 =>
          (idx f1 x48).bind fun x1559 =>
          (idx x1497 x1559).bind fun x1599 =>
          some (x1282 != x1599)
        else
          some false
    else
      if (x26 == (w64 (((f1).length : Int) - (1 : Int)))) = true then
        if true = true then
          (idx a x5).bind fun x2160 =>
          (idx x2160 x26).bind fun x2211 =>
          (idx x2211 x48).bind fun x2262 =>
          (idx f1 x5).bind fun x2335 =>
          (idx b x2335).bind fun x2375 =>
          (idx f1 x26).bind fun x2437 =>
          (idx x2375 x2437).bind fun x2477 =>
          (idx f1 x48).bind fun x2539 =>
          (idx x2477 x2539).bind fun x2579 =>
          some (x2262 != x2579)
        else
          some false
      else
        if (x48 == (w64 (((f1).length : Int) - (1 : Int)))) = true then
          (idx a x5).bind fun x3088 =>
          (idx x3088 x26).bind fun x3139 =>
          (idx x3139 x48).bind fun x3190 =>
          (idx f1 x5).bind fun x3263 =>
          (idx b x3263).bind fun x3303 =>
          (idx f1 x26).bind fun x3365 =>
          (idx x3303 x3365).bind fun x3405 =>
          (idx f1 x48).bind fun x3467 =>
          (idx x3405 x3467).bind fun x3507 =>
          some (x3190 != x3507)
        else
          some false).bind fun (x68 : Bool) =>
    if x68 = true then
      some (.ret false)
    else
      some (.next (w64 (x48 + (1 : Int))))
  else
    some (.brk x48)

def p_spec_l03Fits_L2 (f1 : (List Int)) (x5 : Int) (a : (List (List (List Int)))) (b : (List (List (List Int)))) (x26 : Int) : Option (Ctl (Int) (Bool)) :=
  if (decide (x26 ≤ (w64 (((f1).length : Int) - (1 : Int))))) = true then
    (whileC (fun s => p_spec_l03Fits_L3 f1 x5 a x26 b s) (0 : Int)).bind fun res45 => onRes res45 (fun r3939 => some (.ret r3939)) fun (x3931 : Int) =>
    some (.next (w64 (x26 + (1 : Int))))
  else
    some (.brk x26)

def p_spec_l03Fits_L1 (f1 : (List Int)) (a : (List (List (List Int)))) (b : (List (List (List Int)))) (x5 : Int) : Option (Ctl (Int) (Bool)) :=
  if (decide (x5 ≤ (w64 (((f1).length : Int) - (1 : Int))))) = true then
    (whileC (fun s => p_spec_l03Fits_L2 f1 x5 a b s) (0 : Int)).bind fun res23 => onRes res23 (fun r3952 => some (.ret r3952)) fun (x3945 : Int) =>
    some (.next (w64 (x5 + (1 : Int))))
  else
    some (.brk x5)

def p_spec_l03Fits (a : (List (List (List Int)))) (b : (List (List (List Int)))) (f1 : (List Int)) : Option (Bool) :=
  (whileC (fun s => p_spec_l03Fits_L1 f1 a b s) (0 : Int)).bind fun res2 => onRes res2 (fun r3960 => some r3960) fun (x3958 : Int) =>
  some true

def p_spec_l01Own (list : (List Int)) : Option ((List Int)) :=
  (appL ([] : (List Int)) list).bind fun x5 =>
  some x5

def p_spec_l01Index_L1 (list : (List Int)) (n : Int) (k3 : Nat) : Option (Ctl (Unit) (Int)) :=
  (idx list (k3 : Int)).bind fun x20 =>
  if (x20 == n) = true then
    some (.ret (k3 : Int))
  else
    some (.next ())

def p_spec_l01Index (list : (List Int)) (n : Int) : Option (Int) :=
  (forN (fun k s => p_spec_l01Index_L1 list n k ) (list).length 0 ()).bind fun res1 => onRes res1 (fun r47 => some r47) fun _ =>
  some (-1 : Int)

def p_spec_l01Has (list : (List Int)) (n : Int) : Option (Bool) :=
  (p_spec_l01Index list n).bind fun x1 =>
  some (decide (x1 ≥ (0 : Int)))

def p_spec_l03Seek_L1 (b : (List (List (List Int)))) (first : Bool) (f1 : (List Int)) (a : (List (List (List Int)))) (colours : (List Int)) (images : (List Int)) (rf : ((List (List (List Int))) → (List (List (List Int))) → (List Int) → (List Int) → (List Int) → Bool → (List (List Int)) → Option ((List (List Int))))) (x27 : (List (List Int))) (x28 : Int) : Option (Ctl ((List (List Int)) × Int) (Unit)) :=
  (if (decide (x28 < ((b).length : Int))) = true then
    if (!first) = true then
      some true
    else
      some (((x27).length : Int) == (0 : Int))
  else
    some false).bind fun (x49 : Bool) =>
  if x49 = true then
    (p_spec_l01Own f1).bind fun x71 =>
    (appL x71 ([x28] : (List Int))).bind fun x82 =>
    ((p_spec_l01Has f1 x28).bind fun x119 =>
    if x119 = true then
      if true = true then
        some true
      else
        (p_spec_l03Fits a b x82).bind fun x365 =>
        some (!x365)
    else
      (idx ((colours, images)).1 ((f1).length : Int)).bind fun x412 =>
      (idx ((colours, images)).2 x28).bind fun x474 =>
      if (x412 != x474) = true then
        some true
      else
        (p_spec_l03Fits a b x82).bind fun x672 =>
        some (!x672)).bind fun (x88 : Bool) =>
    if x88 = true then
      some (.next (x27, (w64 (x28 + (1 : Int)))))
    else
      (p_spec_l01Own ((colours, images)).1).bind fun x695 =>
      (p_spec_l01Own ((colours, images)).2).bind fun x702 =>
      (idx x695 ((f1).length : Int)).bind fun x709 =>
      (idx x702 x28).bind fun x715 =>
      (p_spec_l03Refine a b ((x695).set (((f1).length : Int)).toNat (60 : Int)) ((x702).set (x28).toNat (60 : Int))).bind fun x722 =>
      (if x722.2.2 = true then
        (rf a b x82 ((x722.1, x722.2.1)).1 ((x722.1, x722.2.1)).2 first x27).bind fun x733 =>
        some x733
      else
        some x27).bind fun (x730 : (List (List Int))) =>
      some (.next (x730, (w64 (x28 + (1 : Int)))))
  else
    some (.brk (x27, x28))

def p_spec_l03Seek_B (rf : ((List (List (List Int))) → (List (List (List Int))) → (List Int) → (List Int) → (List Int) → Bool → (List (List Int)) → Option ((List (List Int))))) (a : (List (List (List Int)))) (b : (List (List (List Int)))) (f1 : (List Int)) (colours : (List Int)) (images : (List Int)) (first : Bool) (out : (List (List Int))) : Option ((List (List Int))) :=
  if (((f1).length : Int) == ((a).length : Int)) = true then
    (p_spec_l01Own f1).bind fun x5 =>
    (appL out [x5]).bind fun x18 =>
    some x18
  else
    (whileC (fun s => p_spec_l03Seek_L1 b first f1 a colours images rf s.1 s.2) (out, (0 : Int))).bind fun res24 => onRes res24 (fun r764 => none) fun (s758p : (List (List Int)) × Int) =>
    some s758p.1

def p_spec_l03Seek_F : Nat → (List (List (List Int))) → (List (List (List Int))) → (List Int) → (List Int) → (List Int) → Bool → (List (List Int)) → Option ((List (List Int)))
  | 0 => fun _ _ _ _ _ _ _ => none
  | n + 1 => fun x_a x_b x_f1 x_colours x_images x_first x_out => p_spec_l03Seek_B (p_spec_l03Seek_F n) x_a x_b x_f1 x_colours x_images x_first x_out

def p_spec_l03Seek (a : (List (List (List Int)))) (b : (List (List (List Int)))) (f1 : (List Int)) (colours : (List Int)) (images : (List Int)) (first : Bool) (out : (List (List Int))) : Option ((List (List Int))) := p_spec_l03Seek_F fuelN a b f1 colours images first out

def p_spec_l03Maps (a : (List (List (List Int)))) (b : (List (List (List Int)))) (first : Bool) : Option ((List (List Int))) :=
  (mkL ((a).length : Int) (0 : Int)).bind fun x30 =>
  (mkL ((b).length : Int) (0 : Int)).bind fun x69 =>
  (idx x30 (0 : Int)).bind fun x105 =>
  (idx x69 (0 : Int)).bind fun x111 =>
  (p_spec_l03Refine a b ((x30).set ((0 : Int)).toNat (60 : Int)) ((x69).set ((0 : Int)).toNat (60 : Int))).bind fun x118 =>
  (if (!x118.2.2) = true then
    some true
  else
    (p_spec_l03Fits a b ([(0 : Int)] : (List Int))).bind fun x136 =>
    some (!x136)).bind fun (x127 : Bool) =>
  if x127 = true then
    some ([] : (List (List Int)))
  else
    (p_spec_l03Seek a b ([(0 : Int)] : (List Int)) ((x118.1, x118.2.1)).1 ((x118.1, x118.2.1)).2 first ([] : (List (List Int)))).bind fun x156 =>
    some x156

def p_spec_CountRingAutomorphisms (r_Table : (List (List (List Int)))) : Option (Int × Int) :=
  (p_spec_l03Is r_Table).bind fun x9 =>
  if (!x9) = true then
    some ((0 : Int), (1 : Int))
  else
    if (decide (((r_Table).length : Int) > (7 : Int))) = true then
      some ((0 : Int), (3 : Int))
    else
      (p_spec_l03Maps r_Table r_Table false).bind fun x20 =>
      some (((x20).length : Int), (0 : Int))

def p_impl_within (n : Int) (low : Int) (high : Int) : Option (Bool) :=
  some ((decide (n ≥ low)) && (decide (n ≤ high)))

def p_impl_allWithin_c1 (n : Int) (c0 : Int) (c1 : Int) : Option (Bool) :=
  (p_impl_within n c0 c1).bind fun x1 =>
  some (!x1)

def p_slices_IndexFunc_Lint64_int64_L1 (s1 : (List Int)) (f1 : (Int → Option Bool)) (k4 : Nat) : Option (Ctl (Unit) (Int)) :=
  (idx s1 (k4 : Int)).bind fun x21 =>
  (f1 x21).bind fun x28 =>
  if x28 = true then
    some (.ret (k4 : Int))
  else
    some (.next ())

def p_slices_IndexFunc_Lint64_int64 (s1 : (List Int)) (f1 : Int → Option Bool) : Option (Int) :=
  (forN (fun k s => p_slices_IndexFunc_Lint64_int64_L1 s1 f1 k ) (s1).length 0 ()).bind fun res2 => onRes res2 (fun r54 => some r54) fun _ =>
  some (-1 : Int)

def p_slices_ContainsFunc_Lint64_int64 (s1 : (List Int)) (f1 : Int → Option Bool) : Option (Bool) :=
  (p_slices_IndexFunc_Lint64_int64 s1 f1).bind fun x1 =>
  some (decide (x1 ≥ (0 : Int)))

def p_impl_allWithin (list : (List Int)) (low : Int) (high : Int) : Option (Bool) :=
  (p_slices_ContainsFunc_Lint64_int64 list (fun a0_19 => p_impl_allWithin_c1 a0_19 low high)).bind fun x22 =>
  some (!x22)

def p_impl_isCube_c1 (row : (List Int)) (c0 : Int) : Option (Bool) :=
  (if (((row).length : Int) != c0) = true then
    some true
  else
    (p_impl_allWithin row (0 : Int) (1000 : Int)).bind fun x8 =>
    some (!x8)).bind fun (x3 : Bool) =>
  some x3

def p_slices_IndexFunc_LLint64_Lint64_L1 (s1 : (List (List Int))) (f1 : ((List Int) → Option Bool)) (k4 : Nat) : Option (Ctl (Unit) (Int)) :=
  (idx s1 (k4 : Int)).bind fun x21 =>
  (f1 x21).bind fun x28 =>
  if x28 = true then
    some (.ret (k4 : Int))
  else
    some (.next ())

def p_slices_IndexFunc_LLint64_Lint64 (s1 : (List (List Int))) (f1 : (List Int) → Option Bool) : Option (Int) :=
  (forN (fun k s => p_slices_IndexFunc_LLint64_Lint64_L1 s1 f1 k ) (s1).length 0 ()).bind fun res2 => onRes res2 (fun r54 => some r54) fun _ =>
  some (-1 : Int)

def p_slices_ContainsFunc_LLint64_Lint64 (s1 : (List (List Int))) (f1 : (List Int) → Option Bool) : Option (Bool) :=
  (p_slices_IndexFunc_LLint64_Lint64 s1 f1).bind fun x1 =>
  some (decide (x1 ≥ (0 : Int)))

def p_impl_isCube_L1 (r_Table : (List (List (List Int)))) (k19 : Nat) : Option (Ctl (Unit) (Bool)) :=
  (idx r_Table (k19 : Int)).bind fun x36 =>
  (if (((x36).length : Int) != ((r_Table).length : Int)) = true then
    some true
  else
    (p_slices_ContainsFunc_LLint64_Lint64 x36 (fun a0_51 => p_impl_isCube_c1 a0_51 ((r_Table).length : Int))).bind fun x54 =>
    some x54).bind fun (x45 : Bool) =>
  if x45 = true then
    some (.ret false)
  else
    some (.next ())

def p_impl_isCube (r_Table : (List (List (List Int)))) : Option (Bool) :=
  (forN (fun k s => p_impl_isCube_L1 r_Table k ) (r_Table).length 0 ()).bind fun res17 => onRes res17 (fun r93 => some r93) fun _ =>
  some ((decide (((r_Table).length : Int) ≥ (1 : Int))) && (decide (((r_Table).length : Int) ≤ (16 : Int))))

def p_impl_delta (i : Int) (k1 : Int) : Option (Int) :=
  if (i == k1) = true then
    some (1 : Int)
  else
    some (0 : Int)

def p_impl_Ring_unitFault_L2 (r_Table : (List (List (List Int)))) (k12 : Nat) (k31 : Nat) : Option (Ctl (Unit) ((List Int))) :=
  (idx r_Table (0 : Int)).bind fun x77 =>
  (idx x77 (k12 : Int)).bind fun x116 =>
  (idx x116 (k31 : Int)).bind fun x155 =>
  (p_impl_delta (k12 : Int) (k31 : Int)).bind fun x202 =>
  (if (x155 != x202) = true then
    some true
  else
    (idx r_Table (k12 : Int)).bind fun x439 =>
    (idx x439 (0 : Int)).bind fun x474 =>
    (idx x474 (k31 : Int)).bind fun x525 =>
    (p_impl_delta (k12 : Int) (k31 : Int)).bind fun x588 =>
    some (x525 != x588)).bind fun (x234 : Bool) =>
  if x234 = true then
    some (.ret ([(0 : Int), (k12 : Int), (k31 : Int)] : (List Int)))
  else
    some (.next ())

def p_impl_Ring_unitFault_L1 (r_Table : (List (List (List Int)))) (k12 : Nat) : Option (Ctl (Unit) ((List Int))) :=
  (forN (fun k s => p_impl_Ring_unitFault_L2 r_Table k12 k ) (r_Table).length 0 ()).bind fun res29 => onRes res29 (fun r671 => some (.ret r671)) fun _ =>
  some (.next ())

def p_impl_Ring_unitFault (r_Table : (List (List (List Int)))) : Option ((List Int)) :=
  (forN (fun k s => p_impl_Ring_unitFault_L1 r_Table k ) (r_Table).length 0 ()).bind fun res10 => onRes res10 (fun r689 => some r689) fun _ =>
  some ([] : (List Int))

def p_impl_Ring_onlyOf_L1 (x9 : (List (List Int))) (k19 : Nat) (x20 : Int) : Option (Ctl (Int) (Int)) :=
  (idx x9 (k19 : Int)).bind fun x38 =>
  (idx x38 (0 : Int)).bind fun x45 =>
  if (x45 == (0 : Int)) = true then
    some (.next x20)
  else
    if ((decide (x20 ≥ (0 : Int))) || (x45 != (1 : Int))) = true then
      some (.ret (-1 : Int))
    else
      some (.next (k19 : Int))

def p_impl_Ring_onlyOf (r_Table : (List (List (List Int)))) (i : Int) : Option (Int) :=
  (idx r_Table i).bind fun x9 =>
  (forN (fun k s => p_impl_Ring_onlyOf_L1 x9 k s) (x9).length 0 (-1 : Int)).bind fun res17 => onRes res17 (fun r92 => some r92) fun (x88 : Int) =>
  some x88

def p_impl_Ring_dualFault_L1 (r_Table : (List (List (List Int)))) (k12 : Nat) : Option (Ctl (Unit) (Int)) :=
  (p_impl_Ring_onlyOf r_Table (k12 : Int)).bind fun x28 =>
  (if (decide (x28 < (0 : Int))) = true then
    some true
  else
    (p_impl_Ring_onlyOf r_Table x28).bind fun x41 =>
    some (x41 != (k12 : Int))).bind fun (x36 : Bool) =>
  if x36 = true then
    some (.ret (k12 : Int))
  else
    some (.next ())

def p_impl_Ring_dualFault (r_Table : (List (List (List Int)))) : Option (Int) :=
  (forN (fun k s => p_impl_Ring_dualFault_L1 r_Table k ) (r_Table).length 0 ()).bind fun res10 => onRes res10 (fun r73 => some r73) fun _ =>
  some (-1 : Int)

def p_impl_Ring_duals_L1 (r_Table : (List (List (List Int)))) (k16 : Nat) (x17 : (List Int)) : Option (Ctl ((List Int)) (Unit)) :=
  (p_impl_Ring_onlyOf r_Table (k16 : Int)).bind fun x35 =>
  (appL x17 ([x35] : (List Int))).bind fun x46 =>
  some (.next x46)

def p_impl_Ring_duals (r_Table : (List (List (List Int)))) : Option ((List Int)) :=
  (forN (fun k s => p_impl_Ring_duals_L1 r_Table k s) (r_Table).length 0 ([] : (List Int))).bind fun res14 => onRes res14 (fun r75 => none) fun (x71 : (List Int)) =>
  some x71

def p_impl_Ring_turnFault_L3 (r_Table : (List (List (List Int)))) (k23 : Nat) (k43 : Nat) (x9 : (List Int)) (k66 : Nat) : Option (Ctl (Unit) ((List Int))) :=
  (idx r_Table (k23 : Int)).bind fun x89 =>
  (idx x89 (k43 : Int)).bind fun x96 =>
  (idx x96 (k66 : Int)).bind fun x103 =>
  (idx x9 (k23 : Int)).bind fun x163 =>
  (idx r_Table x163).bind fun x195 =>
  (idx x195 (k66 : Int)).bind fun x234 =>
  (idx x234 (k43 : Int)).bind fun x273 =>
  (if (x103 != x273) = true then
    some true
  else
    (idx r_Table (k66 : Int)).bind fun x556 =>
    (idx x9 (k43 : Int)).bind fun x618 =>
    (idx x556 x618).bind fun x658 =>
    (idx x658 (k23 : Int)).bind fun x709 =>
    some (x103 != x709)).bind fun (x316 : Bool) =>
  if x316 = true then
    some (.ret ([(2 : Int), (k23 : Int), (k43 : Int), (k66 : Int)] : (List Int)))
  else
    some (.next ())

def p_impl_Ring_turnFault_L2 (r_Table : (List (List (List Int)))) (k23 : Nat) (x9 : (List Int)) (k43 : Nat) : Option (Ctl (Unit) ((List Int))) :=
  (forN (fun k s => p_impl_Ring_turnFault_L3 r_Table k23 k43 x9 k ) (r_Table).length 0 ()).bind fun res64 => onRes res64 (fun r825 => some (.ret r825)) fun _ =>
  some (.next ())

def p_impl_Ring_turnFault_L1 (r_Table : (List (List (List Int)))) (x9 : (List Int)) (k23 : Nat) : Option (Ctl (Unit) ((List Int))) :=
  (forN (fun k s => p_impl_Ring_turnFault_L2 r_Table k23 x9 k ) (r_Table).length 0 ()).bind fun res41 => onRes res41 (fun r851 => some (.ret r851)) fun _ =>
  some (.next ())

def p_impl_Ring_turnFault (r_Table : (List (List (List Int)))) : Option ((List Int)) :=
  (p_impl_Ring_duals r_Table).bind fun x9 =>
  (forN (fun k s => p_impl_Ring_turnFault_L1 r_Table x9 k ) (r_Table).length 0 ()).bind fun res21 => onRes res21 (fun r870 => some r870) fun _ =>
  some ([] : (List Int))

def p_impl_Ring_bracketFault_L5 (x29 : (List (List Int))) (k39 : Nat) (r_Table : (List (List (List Int)))) (k71 : Nat) (k100 : Nat) (x61 : (List (List Int))) (k132 : Nat) (x133 : Int) (x134 : Int) : Option (Ctl (Int × Int) (Unit)) :=
  (idx x29 (k39 : Int)).bind fun x206 =>
  (idx x206 (k132 : Int)).bind fun x245 =>
  (idx r_Table (k132 : Int)).bind fun x301 =>
  (idx x301 (k71 : Int)).bind fun x340 =>
  (idx x340 (k100 : Int)).bind fun x379 =>
  (idx x61 (k71 : Int)).bind fun x482 =>
  (idx x482 (k132 : Int)).bind fun x521 =>
  (idx x29 (k132 : Int)).bind fun x567 =>
  (idx x567 (k100 : Int)).bind fun x606 =>
  some (.next ((w64 (x133 + (w64 (x245 * x379)))), (w64 (x134 + (w64 (x521 * x606))))))

def p_impl_Ring_bracketFault_L4 (x29 : (List (List Int))) (k39 : Nat) (r_Table : (List (List (List Int)))) (k71 : Nat) (x61 : (List (List Int))) (k12 : Nat) (k100 : Nat) : Option (Ctl (Unit) ((List Int))) :=
  (forN (fun k s => p_impl_Ring_bracketFault_L5 x29 k39 r_Table k71 k100 x61 k s.1 s.2) (r_Table).length 0 ((0 : Int), (0 : Int))).bind fun res130 => onRes res130 (fun r740 => none) fun (s709p : Int × Int) =>
  if (s709p.1 != s709p.2) = true then
    some (.ret ([(3 : Int), (k12 : Int), (k39 : Int), (k71 : Int), (k100 : Int)] : (List Int)))
  else
    some (.next ())

def p_impl_Ring_bracketFault_L3 (x29 : (List (List Int))) (k39 : Nat) (r_Table : (List (List (List Int)))) (x61 : (List (List Int))) (k12 : Nat) (k71 : Nat) : Option (Ctl (Unit) ((List Int))) :=
  (forN (fun k s => p_impl_Ring_bracketFault_L4 x29 k39 r_Table k71 x61 k12 k ) (r_Table).length 0 ()).bind fun res98 => onRes res98 (fun r784 => some (.ret r784)) fun _ =>
  some (.next ())

def p_impl_Ring_bracketFault_L2 (r_Table : (List (List (List Int)))) (x29 : (List (List Int))) (k12 : Nat) (k39 : Nat) : Option (Ctl (Unit) ((List Int))) :=
  (idx r_Table (k39 : Int)).bind fun x61 =>
  (forN (fun k s => p_impl_Ring_bracketFault_L3 x29 k39 r_Table x61 k12 k ) (r_Table).length 0 ()).bind fun res69 => onRes res69 (fun r821 => some (.ret r821)) fun _ =>
  some (.next ())

def p_impl_Ring_bracketFault_L1 (r_Table : (List (List (List Int)))) (k12 : Nat) : Option (Ctl (Unit) ((List Int))) :=
  (idx r_Table (k12 : Int)).bind fun x29 =>
  (forN (fun k s => p_impl_Ring_bracketFault_L2 r_Table x29 k12 k ) (r_Table).length 0 ()).bind fun res37 => onRes res37 (fun r849 => some (.ret r849)) fun _ =>
  some (.next ())

def p_impl_Ring_bracketFault (r_Table : (List (List (List Int)))) : Option ((List Int)) :=
  (forN (fun k s => p_impl_Ring_bracketFault_L1 r_Table k ) (r_Table).length 0 ()).bind fun res10 => onRes res10 (fun r868 => some r868) fun _ =>
  some ([] : (List Int))

def p_impl_Ring_fault (r_Table : (List (List (List Int)))) : Option ((List Int)) :=
  (p_impl_Ring_unitFault r_Table).bind fun x9 =>
  if (!(x9).isEmpty) = true then
    some x9
  else
    (p_impl_Ring_dualFault r_Table).bind fun x19 =>
    if (decide (x19 ≥ (0 : Int))) = true then
      some ([(1 : Int), x19] : (List Int))
    else
      (p_impl_Ring_turnFault r_Table).bind fun x32 =>
      if (!(x32).isEmpty) = true then
        some x32
      else
        (p_impl_Ring_bracketFault r_Table).bind fun x42 =>
        some x42

def p_impl_IsRing (r_Table : (List (List (List Int)))) : Option (Bool) :=
  (p_impl_isCube r_Table).bind fun x9 =>
  (if x9 = true then
    (p_impl_Ring_fault r_Table).bind fun x21 =>
    some (x21).isEmpty
  else
    some false).bind fun (x16 : Bool) =>
  some x16

def p_impl_formCode (r_Table : (List (List (List Int)))) : Option (Int) :=
  (p_impl_IsRing r_Table).bind fun x9 =>
  if (!x9) = true then
    some (1 : Int)
  else
    if (decide (((r_Table).length : Int) > (7 : Int))) = true then
      some (3 : Int)
    else
      some (0 : Int)

def p_impl_CountRingAutomorphisms_c1 (p : (List Int)) (out : Int) : Option (Bool × Int) :=
  some (false, (w64 (out + (1 : Int))))

def p_slices_Index_Lint_int_L1 (s1 : (List Int)) (v : Int) (k4 : Nat) : Option (Ctl (Unit) (Int)) :=
  (idx s1 (k4 : Int)).bind fun x21 =>
  if (v == x21) = true then
    some (.ret (k4 : Int))
  else
    some (.next ())

def p_slices_Index_Lint_int (s1 : (List Int)) (v : Int) : Option (Int) :=
  (forN (fun k s => p_slices_Index_Lint_int_L1 s1 v k ) (s1).length 0 ()).bind fun res2 => onRes res2 (fun r48 => some r48) fun _ =>
  some (-1 : Int)

def p_slices_Contains_Lint_int (s1 : (List Int)) (v : Int) : Option (Bool) :=
  (p_slices_Index_Lint_int s1 v).bind fun x1 =>
  some (decide (x1 ≥ (0 : Int)))

def p_impl_fitsNext_L3 (p : (List Int)) (k52 : Nat) (k22 : Nat) (r_Table : (List (List (List Int)))) (s_Table : (List (List (List Int)))) (x42 : Int) (x77 : Int) (k87 : Nat) : Option (Ctl (Unit) (Bool)) :=
  (idx p (k87 : Int)).bind fun x117 =>
  (if ((if (k87 : Int) > (if (k52 : Int) > (k22 : Int) then (k52 : Int) else (k22 : Int)) then (k87 : Int) else (if (k52 : Int) > (k22 : Int) then (k52 : Int) else (k22 : Int))) == (w64 (((p).length : Int) - (1 : Int)))) = true then
    (idx r_Table (k22 : Int)).bind fun x257 =>
    (idx x257 (k52 : Int)).bind fun x308 =>
    (idx x308 (k87 : Int)).bind fun x359 =>
    (idx s_Table x42).bind fun x435 =>
    (idx x435 x77).bind fun x486 =>
    (idx x486 x117).bind fun x537 =>
    some (x359 != x537)
  else
    some false).bind fun (x199 : Bool) =>
  if x199 = true then
    some (.ret false)
  else
    some (.next ())

def p_impl_fitsNext_L2 (p : (List Int)) (k22 : Nat) (r_Table : (List (List (List Int)))) (s_Table : (List (List (List Int)))) (x42 : Int) (k52 : Nat) : Option (Ctl (Unit) (Bool)) :=
  (idx p (k52 : Int)).bind fun x77 =>
  (forN (fun k s => p_impl_fitsNext_L3 p k52 k22 r_Table s_Table x42 x77 k ) (p).length 0 ()).bind fun res85 => onRes res85 (fun r929 => some (.ret r929)) fun _ =>
  some (.next ())

def p_impl_fitsNext_L1 (p : (List Int)) (r_Table : (List (List (List Int)))) (s_Table : (List (List (List Int)))) (k22 : Nat) : Option (Ctl (Unit) (Bool)) :=
  (idx p (k22 : Int)).bind fun x42 =>
  (forN (fun k s => p_impl_fitsNext_L2 p k22 r_Table s_Table x42 k ) (p).length 0 ()).bind fun res50 => onRes res50 (fun r963 => some (.ret r963)) fun _ =>
  some (.next ())

def p_impl_fitsNext (r_Table : (List (List (List Int)))) (s_Table : (List (List (List Int)))) (p : (List Int)) : Option (Bool) :=
  (forN (fun k s => p_impl_fitsNext_L1 p r_Table s_Table k ) (p).length 0 ()).bind fun res20 => onRes res20 (fun r985 => some r985) fun _ =>
  some true

def p_impl_eachIsomorphism_c1_L1 {σ : Type} (rT : (List (List (List Int)))) (sT : (List (List (List Int)))) (rf : ((List Int) → σ → Int → (List (List (List Int))) → (List (List (List Int))) → (List Int → σ → Option (Bool × σ)) → Option (Bool × (List Int) × σ))) (n : Int) (gp : List Int → σ → Option (Bool × σ)) (k12 : Nat) (x13 : (List Int)) (x14 : σ) : Option (Ctl ((List Int) × σ) (Bool × (List Int) × σ)) :=
  (p_slices_Contains_Lint_int x13 (k12 : Int)).bind fun x34 =>
  if (x34 || ((((x13).length : Int) == (0 : Int)) != ((k12 : Int) == (0 : Int)))) = true then
    some (.next (x13, x14))
  else
    (appL x13 ([(k12 : Int)] : (List Int))).bind fun x60 =>
    ((p_impl_fitsNext rT sT x60).bind fun x72 =>
    if x72 = true then
      (rf x60 x14 n rT sT gp).bind fun x79 =>
      some (x79.2.1, x79.2.2, x79.1)
    else
      some (x60, x14, false)).bind fun ⟨x68, x69, x70⟩ =>
    if x70 = true then
      some (.ret (true, x68, x69))
    else
      (cutL x68 (0 : Int) (w64 (((x68).length : Int) - (1 : Int)))).bind fun x101 =>
      some (.next (x101, x69))

def p_impl_eachIsomorphism_c1_B {σ : Type} (rf : ((List Int) → σ → Int → (List (List (List Int))) → (List (List (List Int))) → (List Int → σ → Option (Bool × σ)) → Option (Bool × (List Int) × σ))) (p : (List Int)) (sg : σ) (n : Int) (rT : (List (List (List Int)))) (sT : (List (List (List Int)))) (gp : List Int → σ → Option (Bool × σ)) : Option (Bool × (List Int) × σ) :=
  if (((p).length : Int) == n) = true then
    (gp p sg).bind fun x4 =>
    some (x4.1, p, x4.2)
  else
    (forN (fun k s => p_impl_eachIsomorphism_c1_L1 rT sT rf n gp k s.1 s.2) (n).toNat 0 (p, sg)).bind fun res10 => onRes res10 (fun r133 => some r133) fun (s128p : (List Int) × σ) =>
    some (false, s128p.1, s128p.2)

def p_impl_eachIsomorphism_c1_F {σ : Type} : Nat → (List Int) → σ → Int → (List (List (List Int))) → (List (List (List Int))) → (List Int → σ → Option (Bool × σ)) → Option (Bool × (List Int) × σ)
  | 0 => fun _ _ _ _ _ _ => none
  | n + 1 => fun x_p x_sg x_n x_rT x_sT x_gp => p_impl_eachIsomorphism_c1_B (p_impl_eachIsomorphism_c1_F n) x_p x_sg x_n x_rT x_sT x_gp

def p_impl_eachIsomorphism_c1 {σ : Type} (p : (List Int)) (sg : σ) (n : Int) (rT : (List (List (List Int)))) (sT : (List (List (List Int)))) (gp : List Int → σ → Option (Bool × σ)) : Option (Bool × (List Int) × σ) := p_impl_eachIsomorphism_c1_F fuelN p sg n rT sT gp

def p_impl_eachIsomorphism {σ : Type} (rT : (List (List (List Int)))) (sT : (List (List (List Int)))) (gp : List Int → σ → Option (Bool × σ)) (sg : σ) : Option (σ) :=
  (p_impl_eachIsomorphism_c1 ([] : (List Int)) sg ((rT).length : Int) rT sT gp).bind fun x39 =>
  some x39.2.2

def p_impl_CountRingAutomorphisms (r_Table : (List (List (List Int)))) : Option (Int × Int) :=
  (p_impl_formCode r_Table).bind fun x9 =>
  if (x9 != (0 : Int)) = true then
    some ((0 : Int), x9)
  else
    (p_impl_eachIsomorphism r_Table r_Table p_impl_CountRingAutomorphisms_c1 (0 : Int)).bind fun x25 =>
    some (x25, (0 : Int))

def p_laws_eqInt64S_L1 (a : (List Int)) (b : (List Int)) (k7 : Nat) : Option (Ctl (Unit) (Bool)) :=
  (idx a (k7 : Int)).bind fun x53 =>
  (idx b (k7 : Int)).bind fun x99 =>
  if (x53 != x99) = true then
    some (.ret false)
  else
    some (.next ())

def p_laws_eqInt64S (a : (List Int)) (b : (List Int)) : Option (Bool) :=
  if (((a).length : Int) != ((b).length : Int)) = true then
    some false
  else
    (forN (fun k s => p_laws_eqInt64S_L1 a b k ) (a).length 0 ()).bind fun res5 => onRes res5 (fun r152 => some r152) fun _ =>
    some true

def p_laws_eqInt64SS_L1 (a : (List (List Int))) (b : (List (List Int))) (k7 : Nat) : Option (Ctl (Unit) (Bool)) :=
  (idx a (k7 : Int)).bind fun x53 =>
  (idx b (k7 : Int)).bind fun x99 =>
  (p_laws_eqInt64S x53 x99).bind fun x130 =>
  if (!x130) = true then
    some (.ret false)
  else
    some (.next ())

def p_laws_eqInt64SS (a : (List (List Int))) (b : (List (List Int))) : Option (Bool) :=
  if (((a).length : Int) != ((b).length : Int)) = true then
    some false
  else
    (forN (fun k s => p_laws_eqInt64SS_L1 a b k ) (a).length 0 ()).bind fun res5 => onRes res5 (fun r156 => some r156) fun _ =>
    some true

def p_laws_eqInt64SSS_L1 (a : (List (List (List Int)))) (b : (List (List (List Int)))) (k7 : Nat) : Option (Ctl (Unit) (Bool)) :=
  (idx a (k7 : Int)).bind fun x53 =>
  (idx b (k7 : Int)).bind fun x99 =>
  (p_laws_eqInt64SS x53 x99).bind fun x130 =>
  if (!x130) = true then
    some (.ret false)
  else
    some (.next ())

def p_laws_eqInt64SSS (a : (List (List (List Int)))) (b : (List (List (List Int)))) : Option (Bool) :=
  if (((a).length : Int) != ((b).length : Int)) = true then
    some false
  else
    (forN (fun k s => p_laws_eqInt64SSS_L1 a b k ) (a).length 0 ()).bind fun res5 => onRes res5 (fun r156 => some r156) fun _ =>
    some true

def p_laws_eqRing (a_Table : (List (List (List Int)))) (b_Table : (List (List (List Int)))) : Option (Bool) :=
  (p_laws_eqInt64SSS a_Table b_Table).bind fun x18 =>
  if (!x18) = true then
    some false
  else
    some true

def p_spec_RingIsomorphism (r_Table : (List (List (List Int)))) (s_Table : (List (List (List Int)))) : Option ((List Int) × Int) :=
  (p_spec_l03Is r_Table).bind fun x18 =>
  (if (!x18) = true then
    some true
  else
    (p_spec_l03Is s_Table).bind fun x30 =>
    some (!x30)).bind fun (x25 : Bool) =>
  if x25 = true then
    some (([] : (List Int)), (1 : Int))
  else
    (if (((r_Table).length : Int) == ((s_Table).length : Int)) = true then
      (p_spec_l03Maps r_Table s_Table true).bind fun x51 =>
      some x51
    else
      some ([] : (List (List Int)))).bind fun (x48 : (List (List Int))) =>
    if (((x48).length : Int) == (0 : Int)) = true then
      some (([] : (List Int)), (4 : Int))
    else
      (idx x48 (0 : Int)).bind fun x67 =>
      some (x67, (0 : Int))

def p_impl_RingIsomorphism_c1_L1 (p : (List Int)) (k4 : Nat) (x5 : (List Int)) : Option (Ctl ((List Int)) (Unit)) :=
  (idx p (k4 : Int)).bind fun x23 =>
  (appL x5 ([x23] : (List Int))).bind fun x34 =>
  some (.next x34)

def p_impl_RingIsomorphism_c1 (p : (List Int)) (out : (List Int)) : Option (Bool × (List Int)) :=
  (forN (fun k s => p_impl_RingIsomorphism_c1_L1 p k s) (p).length 0 out).bind fun res2 => onRes res2 (fun r66 => none) fun (x61 : (List Int)) =>
  if (x61).isEmpty = true then
    none
  else
    some (true, x61)

def p_impl_RingIsomorphism (r_Table : (List (List (List Int)))) (s_Table : (List (List (List Int)))) : Option ((List Int) × Int) :=
  (p_impl_IsRing r_Table).bind fun x18 =>
  (if (!x18) = true then
    some true
  else
    (p_impl_IsRing s_Table).bind fun x30 =>
    some (!x30)).bind fun (x25 : Bool) =>
  if x25 = true then
    some (([] : (List Int)), (1 : Int))
  else
    (if (((r_Table).length : Int) == ((s_Table).length : Int)) = true then
      (p_impl_eachIsomorphism r_Table s_Table p_impl_RingIsomorphism_c1 ([] : List Int)).bind fun x53 =>
      some x53
    else
      some ([] : List Int)).bind fun (x50 : (List Int)) =>
    if (x50).isEmpty = true then
      some (([] : (List Int)), (4 : Int))
    else
      some (x50, (0 : Int))

def p_laws_markInt64S_L1  (k3 : Nat) (x4 : (List Int)) (x5 : Int) : Option (Ctl ((List Int) × Int) (Unit)) :=
  (idx x4 (k3 : Int)).bind fun x24 =>
  some (.next (((x4).set ((k3 : Int)).toNat x5), (w64 (x5 + (1 : Int)))))

def p_laws_markInt64S (a : (List Int)) (k1 : Int) : Option (Int × (List Int)) :=
  (forN (fun k s => p_laws_markInt64S_L1  k s.1 s.2) (a).length 0 (a, k1)).bind fun res1 => onRes res1 (fun r57 => none) fun (s50p : (List Int) × Int) =>
  some (s50p.2, s50p.1)

def p_laws_markInt64SS_L1  (k3 : Nat) (x4 : (List (List Int))) (x5 : Int) : Option (Ctl ((List (List Int)) × Int) (Unit)) :=
  (idx x4 (k3 : Int)).bind fun x24 =>
  (p_laws_markInt64S x24 x5).bind fun x32 =>
  some (.next (((x4).set ((k3 : Int)).toNat x32.2), x32.1))

def p_laws_markInt64SS (a : (List (List Int))) (k1 : Int) : Option (Int × (List (List Int))) :=
  (forN (fun k s => p_laws_markInt64SS_L1  k s.1 s.2) (a).length 0 (a, k1)).bind fun res1 => onRes res1 (fun r67 => none) fun (s60p : (List (List Int)) × Int) =>
  some (s60p.2, s60p.1)

def p_laws_markInt64SSS_L1  (k3 : Nat) (x4 : (List (List (List Int)))) (x5 : Int) : Option (Ctl ((List (List (List Int))) × Int) (Unit)) :=
  (idx x4 (k3 : Int)).bind fun x24 =>
  (p_laws_markInt64SS x24 x5).bind fun x32 =>
  some (.next (((x4).set ((k3 : Int)).toNat x32.2), x32.1))

def p_laws_markInt64SSS (a : (List (List (List Int)))) (k1 : Int) : Option (Int × (List (List (List Int)))) :=
  (forN (fun k s => p_laws_markInt64SSS_L1  k s.1 s.2) (a).length 0 (a, k1)).bind fun res1 => onRes res1 (fun r67 => none) fun (s60p : (List (List (List Int))) × Int) =>
  some (s60p.2, s60p.1)

def p_laws_markRing (a_Table : (List (List (List Int)))) (k1 : Int) : Option (Int × (List (List (List Int)))) :=
  (p_laws_markInt64SSS a_Table k1).bind fun x6 =>
  some (x6.1, x6.2)

def p_laws_heldInt64S_L1 (a : (List Int)) (k3 : Nat) (x4 : Int) : Option (Ctl (Int) (Int)) :=
  (idx a (k3 : Int)).bind fun x22 =>
  if (x22 != x4) = true then
    some (.ret (-1 : Int))
  else
    some (.next (w64 (x4 + (1 : Int))))

def p_laws_heldInt64S (a : (List Int)) (k1 : Int) : Option (Int) :=
  (forN (fun k s => p_laws_heldInt64S_L1 a k s) (a).length 0 k1).bind fun res1 => onRes res1 (fun r54 => some r54) fun (x50 : Int) =>
  some x50

def p_laws_FnExactRingIsomorphism (aR_Table : (List (List (List Int)))) (aS_Table : (List (List (List Int)))) : Option (Bool) :=
  (p_laws_szRing aR_Table (1048576 : Int)).bind fun x18 =>
  if (decide (x18 < (0 : Int))) = true then
    some true
  else
    (p_laws_szRing aS_Table x18).bind fun x27 =>
    if (decide (x27 < (0 : Int))) = true then
      some true
    else
      (p_laws_toRing aR_Table).bind fun x53 =>
      (p_laws_toRing aS_Table).bind fun x76 =>
      (p_spec_RingIsomorphism x53 x76).bind fun x98 =>
      (p_laws_toRing aR_Table).bind fun x194 =>
      (p_laws_toRing aS_Table).bind fun x207 =>
      (p_impl_RingIsomorphism x194 x207).bind fun x220 =>
      (p_laws_eqInt64S x220.1 x98.1).bind fun x228 =>
      if ((!x228) || (x220.2 != x98.2)) = true then
        some false
      else
        (p_laws_toRing aR_Table).bind fun x274 =>
        (p_laws_eqRing x194 x274).bind fun x301 =>
        if (!x301) = true then
          some false
        else
          (p_laws_toRing aS_Table).bind fun x333 =>
          (p_laws_eqRing x207 x333).bind fun x360 =>
          if (!x360) = true then
            some false
          else
            (p_laws_markRing x194 (1 : Int)).bind fun x368 =>
            (p_laws_markRing x207 x368.1).bind fun x375 =>
            (if (decide (x375.1 < (0 : Int))) = true then
              some true
            else
              (p_laws_eqInt64S x220.1 x98.1).bind fun x388 =>
              some (!x388)).bind fun (x383 : Bool) =>
            if (x383 || (x220.2 != x98.2)) = true then
              some false
            else
              (p_laws_markInt64S x220.1 (1 : Int)).bind fun x415 =>
              (p_laws_heldInt64S x415.2 (1 : Int)).bind fun x422 =>
              if (decide (x422 < (0 : Int))) = true then
                some false
              else
                if (x422 != x415.1) = true then
                  some false
                else
                  (p_laws_toRing aR_Table).bind fun x450 =>
                  (p_laws_toRing aS_Table).bind fun x473 =>
                  (p_impl_RingIsomorphism x450 x473).bind fun x495 =>
                  (p_laws_eqInt64S x495.1 x98.1).bind fun x588 =>
                  if ((!x588) || (x495.2 != x98.2)) = true then
                    some false
                  else
                    (p_laws_heldInt64S x415.2 (1 : Int)).bind fun x604 =>
                    if (decide (x604 < (0 : Int))) = true then
                      some false
                    else
                      if (x604 != x415.1) = true then
                        some false
                      else
                        some true

end
end Go.VG
