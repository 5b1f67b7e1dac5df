/- The functions' plain twins, as a program of ours printed them. No proof. -/
import Derived.Test.YtfbjoncpgjgppaaVgPure
import Derived.Test.YtfbjoncpgjgppaaVgFlt
set_option linter.all false
namespace Go.VG
noncomputable section

def p_laws_szInt64S (a : (List Int)) (left : Int) : Option (Int) :=
  if (decide ((w64 (left - ((a).length : Int))) < (0 : Int))) = true then
    some (-1 : Int)
  else
    some (w64 (left - ((a).length : Int)))

def p_laws_szInt64SS_L1 (a : (List (List Int))) (k6 : Nat) (x7 : Int) : Option (Ctl (Int) (Int)) :=
  (idx a (k6 : Int)).bind fun x25 =>
  (p_laws_szInt64S x25 x7).bind fun x32 =>
  if (decide (x32 < (0 : Int))) = true then
    some (.ret (-1 : Int))
  else
    some (.next x32)

def p_laws_szInt64SS (a : (List (List Int))) (left : Int) : Option (Int) :=
  if (decide ((w64 (left - ((a).length : Int))) < (0 : Int))) = true then
    some (-1 : Int)
  else
    (forN (fun k s => p_laws_szInt64SS_L1 a k s) (a).length 0 (w64 (left - ((a).length : Int)))).bind fun res4 => onRes res4 (fun r64 => some r64) fun (x60 : Int) =>
    some x60

def p_laws_szInt64SSS_L1 (a : (List (List (List Int)))) (k6 : Nat) (x7 : Int) : Option (Ctl (Int) (Int)) :=
  (idx a (k6 : Int)).bind fun x25 =>
  (p_laws_szInt64SS x25 x7).bind fun x32 =>
  if (decide (x32 < (0 : Int))) = true then
    some (.ret (-1 : Int))
  else
    some (.next x32)

def p_laws_szInt64SSS (a : (List (List (List Int)))) (left : Int) : Option (Int) :=
  if (decide ((w64 (left - ((a).length : Int))) < (0 : Int))) = true then
    some (-1 : Int)
  else
    (forN (fun k s => p_laws_szInt64SSS_L1 a k s) (a).length 0 (w64 (left - ((a).length : Int)))).bind fun res4 => onRes res4 (fun r64 => some r64) fun (x60 : Int) =>
    some x60

def p_laws_szRing (a_Table : (List (List (List Int)))) (left : Int) : Option (Int) :=
  (p_laws_szInt64SSS a_Table left).bind fun x9 =>
  if (decide (x9 < (0 : Int))) = true then
    some (-1 : Int)
  else
    some x9

def p_laws_toInt64S_L1 (a : (List Int)) (k10 : Nat) (x11 : (List Int)) : Option (Ctl ((List Int)) (Unit)) :=
  (idx a (k10 : Int)).bind fun x28 =>
  (idx x11 (k10 : Int)).bind fun x35 =>
  some (.next ((x11).set ((k10 : Int)).toNat x28))

def p_laws_toInt64S (a : (List Int)) : Option ((List Int)) :=
  (mkL ((a).length : Int) (0 : Int)).bind fun x2 =>
  (forN (fun k s => p_laws_toInt64S_L1 a k s) (a).length 0 x2).bind fun res8 => onRes res8 (fun r62 => none) fun (x59 : (List Int)) =>
  some x59

def p_laws_toInt64SS_L1 (a : (List (List Int))) (k10 : Nat) (x11 : (List (List Int))) : Option (Ctl ((List (List Int))) (Unit)) :=
  (idx a (k10 : Int)).bind fun x28 =>
  (p_laws_toInt64S x28).bind fun x35 =>
  (idx x11 (k10 : Int)).bind fun x42 =>
  some (.next ((x11).set ((k10 : Int)).toNat x35))

def p_laws_toInt64SS (a : (List (List Int))) : Option ((List (List Int))) :=
  (mkL ((a).length : Int) ([] : (List Int))).bind fun x2 =>
  (forN (fun k s => p_laws_toInt64SS_L1 a k s) (a).length 0 x2).bind fun res8 => onRes res8 (fun r69 => none) fun (x66 : (List (List Int))) =>
  some x66

def p_laws_toInt64SSS_L1 (a : (List (List (List Int)))) (k10 : Nat) (x11 : (List (List (List Int)))) : Option (Ctl ((List (List (List Int)))) (Unit)) :=
  (idx a (k10 : Int)).bind fun x28 =>
  (p_laws_toInt64SS x28).bind fun x35 =>
  (idx x11 (k10 : Int)).bind fun x42 =>
  some (.next ((x11).set ((k10 : Int)).toNat x35))

def p_laws_toInt64SSS (a : (List (List (List Int)))) : Option ((List (List (List Int)))) :=
  (mkL ((a).length : Int) ([] : (List (List Int)))).bind fun x2 =>
  (forN (fun k s => p_laws_toInt64SSS_L1 a k s) (a).length 0 x2).bind fun res8 => onRes res8 (fun r69 => none) fun (x66 : (List (List (List Int)))) =>
  some x66

def p_laws_toRing (a_Table : (List (List (List Int)))) : Option ((List (List (List Int)))) :=
  (p_laws_toInt64SSS a_Table).bind fun x17 =>
  some x17

def p_spec_l01In (n : Int) (low : Int) (high : Int) : Option (Bool) :=
  some ((decide (n ≥ low)) && (decide (n ≤ high)))

def p_spec_l03Cube_L3 (x62 : (List Int)) (k74 : Nat) : Option (Ctl (Unit) (Bool)) :=
  (idx x62 (k74 : Int)).bind fun x98 =>
  (p_spec_l01In x98 (0 : Int) (1000 : Int)).bind fun x105 =>
  if (!x105) = true then
    some (.ret false)
  else
    some (.next ())

def p_spec_l03Cube_L2 (x30 : (List (List Int))) (t : (List (List (List Int)))) (k42 : Nat) : Option (Ctl (Unit) (Bool)) :=
  (idx x30 (k42 : Int)).bind fun x62 =>
  if (((x62).length : Int) != ((t).length : Int)) = true then
    some (.ret false)
  else
    (forN (fun k s => p_spec_l03Cube_L3 x62 k ) (t).length 0 ()).bind fun res72 => onRes res72 (fun r136 => some (.ret r136)) fun _ =>
    some (.next ())

def p_spec_l03Cube_L1 (t : (List (List (List Int)))) (k14 : Nat) : Option (Ctl (Unit) (Bool)) :=
  (idx t (k14 : Int)).bind fun x30 =>
  if (((x30).length : Int) != ((t).length : Int)) = true then
    some (.ret false)
  else
    (forN (fun k s => p_spec_l03Cube_L2 x30 t k ) (t).length 0 ()).bind fun res40 => onRes res40 (fun r158 => some (.ret r158)) fun _ =>
    some (.next ())

def p_spec_l03Cube (t : (List (List (List Int)))) : Option (Bool) :=
  if ((decide (((t).length : Int) < (1 : Int))) || (decide (((t).length : Int) > (16 : Int)))) = true then
    some false
  else
    (forN (fun k s => p_spec_l03Cube_L1 t k ) (t).length 0 ()).bind fun res12 => onRes res12 (fun r176 => some r176) fun _ =>
    some true

def p_spec_l03Dual_L1 (t : (List (List (List Int)))) (i : Int) (k3 : Nat) (x4 : Int) : Option (Ctl (Int) (Int)) :=
  (idx t i).bind fun x23 =>
  (idx x23 (k3 : Int)).bind fun x30 =>
  (idx x30 (0 : Int)).bind fun x37 =>
  if ((x37 == (1 : Int)) && (decide (x4 < (0 : Int)))) = true then
    some (.next (k3 : Int))
  else
    if (x37 != (0 : Int)) = true then
      some (.ret (-1 : Int))
    else
      some (.next x4)

def p_spec_l03Dual (t : (List (List (List Int)))) (i : Int) : Option (Int) :=
  (forN (fun k s => p_spec_l03Dual_L1 t i k s) (t).length 0 (-1 : Int)).bind fun res1 => onRes res1 (fun r91 => some r91) fun (x87 : Int) =>
  some x87

def p_spec_l03Fault_L2 (k4 : Nat) (t : (List (List (List Int)))) (k22 : Nat) : Option (Ctl (Unit) ((List Int))) :=
  (if ((k4 : Int) == (k22 : Int)) = true then
    some (1 : Int)
  else
    some (0 : Int)).bind fun (x39 : Int) =>
  (idx t (0 : Int)).bind fun x52 =>
  (idx x52 (k4 : Int)).bind fun x59 =>
  (idx x59 (k22 : Int)).bind fun x66 =>
  (if (x66 != x39) = true then
    some true
  else
    (idx t (k4 : Int)).bind fun x79 =>
    (idx x79 (0 : Int)).bind fun x86 =>
    (idx x86 (k22 : Int)).bind fun x93 =>
    some (x93 != x39)).bind fun (x74 : Bool) =>
  if x74 = true then
    some (.ret ([(0 : Int), (k4 : Int), (k22 : Int)] : (List Int)))
  else
    some (.next ())

def p_spec_l03Fault_L1 (t : (List (List (List Int)))) (k4 : Nat) : Option (Ctl (Unit) ((List Int))) :=
  (forN (fun k s => p_spec_l03Fault_L2 k4 t k ) (t).length 0 ()).bind fun res20 => onRes res20 (fun r133 => some (.ret r133)) fun _ =>
  some (.next ())

def p_spec_l03Fault_L3 (t : (List (List (List Int)))) (k159 : Nat) (x160 : (List Int)) : Option (Ctl ((List Int)) (Unit)) :=
  (p_spec_l03Dual t (k159 : Int)).bind fun x178 =>
  (appL x160 ([x178] : (List Int))).bind fun x189 =>
  some (.next x189)

def p_spec_l03Fault_L4 (x214 : (List Int)) (k222 : Nat) : Option (Ctl (Unit) ((List Int))) :=
  (idx x214 (k222 : Int)).bind fun x239 =>
  (if (decide (x239 < (0 : Int))) = true then
    some true
  else
    (idx x214 x239).bind fun x255 =>
    some (x255 != (k222 : Int))).bind fun (x247 : Bool) =>
  if x247 = true then
    some (.ret ([(1 : Int), (k222 : Int)] : (List Int)))
  else
    some (.next ())

def p_spec_l03Fault_L7 (t : (List (List (List Int)))) (k297 : Nat) (k316 : Nat) (x214 : (List Int)) (k336 : Nat) : Option (Ctl (Unit) ((List Int))) :=
  (idx t (k297 : Int)).bind fun x384 =>
  (idx x384 (k316 : Int)).bind fun x423 =>
  (idx x423 (k336 : Int)).bind fun x462 =>
  (idx x214 (k297 : Int)).bind fun x515 =>
  (idx t x515).bind fun x547 =>
  (idx x547 (k336 : Int)).bind fun x586 =>
  (idx x586 (k316 : Int)).bind fun x625 =>
  (if (x462 != x625) = true then
    some true
  else
    (idx t (k336 : Int)).bind fun x1110 =>
    (idx x214 (k316 : Int)).bind fun x1172 =>
    (idx x1110 x1172).bind fun x1212 =>
    (idx x1212 (k297 : Int)).bind fun x1263 =>
    some (x462 != x1263)).bind fun (x668 : Bool) =>
  if x668 = true then
    some (.ret ([(2 : Int), (k297 : Int), (k316 : Int), (k336 : Int)] : (List Int)))
  else
    some (.next ())

def p_spec_l03Fault_L6 (t : (List (List (List Int)))) (k297 : Nat) (x214 : (List Int)) (k316 : Nat) : Option (Ctl (Unit) ((List Int))) :=
  (forN (fun k s => p_spec_l03Fault_L7 t k297 k316 x214 k ) (t).length 0 ()).bind fun res334 => onRes res334 (fun r1374 => some (.ret r1374)) fun _ =>
  some (.next ())

def p_spec_l03Fault_L5 (t : (List (List (List Int)))) (x214 : (List Int)) (k297 : Nat) : Option (Ctl (Unit) ((List Int))) :=
  (forN (fun k s => p_spec_l03Fault_L6 t k297 x214 k ) (t).length 0 ()).bind fun res314 => onRes res314 (fun r1398 => some (.ret r1398)) fun _ =>
  some (.next ())

def p_spec_l03Fault_L12 (t : (List (List (List Int)))) (k1421 : Nat) (k1439 : Nat) (k1458 : Nat) (k1478 : Nat) (k1499 : Nat) (x1500 : Int) (x1501 : Int) : Option (Ctl (Int × Int) (Unit)) :=
  (idx t (k1421 : Int)).bind fun x1561 =>
  (idx x1561 (k1439 : Int)).bind fun x1600 =>
  (idx x1600 (k1499 : Int)).bind fun x1639 =>
  (idx t (k1499 : Int)).bind fun x1685 =>
  (idx x1685 (k1458 : Int)).bind fun x1724 =>
  (idx x1724 (k1478 : Int)).bind fun x1763 =>
  (idx t (k1439 : Int)).bind fun x1853 =>
  (idx x1853 (k1458 : Int)).bind fun x1892 =>
  (idx x1892 (k1499 : Int)).bind fun x1931 =>
  (idx x1561 (k1499 : Int)).bind fun x2012 =>
  (idx x2012 (k1478 : Int)).bind fun x2051 =>
  some (.next ((w64 (x1500 + (w64 (x1639 * x1763)))), (w64 (x1501 + (w64 (x1931 * x2051))))))

def p_spec_l03Fault_L11 (t : (List (List (List Int)))) (k1421 : Nat) (k1439 : Nat) (k1458 : Nat) (k1478 : Nat) : Option (Ctl (Unit) ((List Int))) :=
  (forN (fun k s => p_spec_l03Fault_L12 t k1421 k1439 k1458 k1478 k s.1 s.2) (t).length 0 ((0 : Int), (0 : Int))).bind fun res1497 => onRes res1497 (fun r2150 => none) fun (s2130p : Int × Int) =>
  if (s2130p.1 != s2130p.2) = true then
    some (.ret ([(3 : Int), (k1421 : Int), (k1439 : Int), (k1458 : Int), (k1478 : Int)] : (List Int)))
  else
    some (.next ())

def p_spec_l03Fault_L10 (t : (List (List (List Int)))) (k1421 : Nat) (k1439 : Nat) (k1458 : Nat) : Option (Ctl (Unit) ((List Int))) :=
  (forN (fun k s => p_spec_l03Fault_L11 t k1421 k1439 k1458 k ) (t).length 0 ()).bind fun res1476 => onRes res1476 (fun r2176 => some (.ret r2176)) fun _ =>
  some (.next ())

def p_spec_l03Fault_L9 (t : (List (List (List Int)))) (k1421 : Nat) (k1439 : Nat) : Option (Ctl (Unit) ((List Int))) :=
  (forN (fun k s => p_spec_l03Fault_L10 t k1421 k1439 k ) (t).length 0 ()).bind fun res1456 => onRes res1456 (fun r2200 => some (.ret r2200)) fun _ =>
  some (.next ())

def p_spec_l03Fault_L8 (t : (List (List (List Int)))) (k1421 : Nat) : Option (Ctl (Unit) ((List Int))) :=
  (forN (fun k s => p_spec_l03Fault_L9 t k1421 k ) (t).length 0 ()).bind fun res1437 => onRes res1437 (fun r2222 => some (.ret r2222)) fun _ =>
  some (.next ())

def p_spec_l03Fault (t : (List (List (List Int)))) : Option ((List Int)) :=
  (forN (fun k s => p_spec_l03Fault_L1 t k ) (t).length 0 ()).bind fun res2 => onRes res2 (fun r2244 => some r2244) fun _ =>
  (forN (fun k s => p_spec_l03Fault_L3 t k s) (t).length 0 ([] : (List Int))).bind fun res157 => onRes res157 (fun r2243 => none) fun (x214 : (List Int)) =>
  (forN (fun k s => p_spec_l03Fault_L4 x214 k ) (t).length 0 ()).bind fun res220 => onRes res220 (fun r2242 => some r2242) fun _ =>
  (forN (fun k s => p_spec_l03Fault_L5 t x214 k ) (t).length 0 ()).bind fun res295 => onRes res295 (fun r2241 => some r2241) fun _ =>
  (forN (fun k s => p_spec_l03Fault_L8 t k ) (t).length 0 ()).bind fun res1419 => onRes res1419 (fun r2240 => some r2240) fun _ =>
  some ([] : (List Int))

def p_spec_l03Is (r_Table : (List (List (List Int)))) : Option (Bool) :=
  (p_spec_l03Cube r_Table).bind fun x9 =>
  (if x9 = true then
    (p_spec_l03Fault r_Table).bind fun x21 =>
    some (((x21).length : Int) == (0 : Int))
  else
    some false).bind fun (x16 : Bool) =>
  some x16

def p_spec_l04Next_L3 (k39 : Nat) (r_Table : (List (List (List Int)))) (k18 : Nat) (w1 : (List Int)) (k61 : Nat) (x62 : (List Int)) : Option (Ctl ((List Int)) (Unit)) :=
  (idx x62 (k39 : Int)).bind fun x125 =>
  (idx r_Table (k18 : Int)).bind fun x181 =>
  (idx x181 (k39 : Int)).bind fun x220 =>
  (idx x220 (k61 : Int)).bind fun x259 =>
  (idx w1 (k61 : Int)).bind fun x305 =>
  some (.next ((x62).set ((k39 : Int)).toNat (w64 (x125 + (w64 (x259 * x305))))))

def p_spec_l04Next_L2 (r_Table : (List (List (List Int)))) (k18 : Nat) (w1 : (List Int)) (k39 : Nat) (x40 : (List Int)) : Option (Ctl ((List Int)) (Unit)) :=
  (forN (fun k s => p_spec_l04Next_L3 k39 r_Table k18 w1 k s) (w1).length 0 x40).bind fun res59 => onRes res59 (fun r404 => none) fun (x397 : (List Int)) =>
  some (.next x397)

def p_spec_l04Next_L1 (r_Table : (List (List (List Int)))) (w1 : (List Int)) (k18 : Nat) (x19 : (List Int)) : Option (Ctl ((List Int)) (Unit)) :=
  (forN (fun k s => p_spec_l04Next_L2 r_Table k18 w1 k s) (w1).length 0 x19).bind fun res37 => onRes res37 (fun r431 => none) fun (x425 : (List Int)) =>
  some (.next x425)

def p_spec_l04Next (r_Table : (List (List (List Int)))) (w1 : (List Int)) : Option ((List Int)) :=
  (mkL ((w1).length : Int) (0 : Int)).bind fun x10 =>
  (forN (fun k s => p_spec_l04Next_L1 r_Table w1 k s) (w1).length 0 x10).bind fun res16 => onRes res16 (fun r454 => none) fun (x451 : (List Int)) =>
  some x451

def p_spec_l04Is_L3 (r_Table : (List (List (List Int)))) (k11 : Nat) (k30 : Nat) (d : (List Int)) (k50 : Nat) (x51 : Int) : Option (Ctl (Int) (Unit)) :=
  (idx r_Table (k11 : Int)).bind fun x118 =>
  (idx x118 (k30 : Int)).bind fun x157 =>
  (idx x157 (k50 : Int)).bind fun x196 =>
  (idx d (k50 : Int)).bind fun x242 =>
  some (.next (w64 (x51 + (w64 (x196 * x242)))))

def p_spec_l04Is_L2 (r_Table : (List (List (List Int)))) (k11 : Nat) (d : (List Int)) (k30 : Nat) : Option (Ctl (Unit) (Bool)) :=
  (forN (fun k s => p_spec_l04Is_L3 r_Table k11 k30 d k s) (d).length 0 (0 : Int)).bind fun res48 => onRes res48 (fun r699 => none) fun (x315 : Int) =>
  (idx d (k11 : Int)).bind fun x352 =>
  (if (decide (x352 < (1 : Int))) = true then
    some true
  else
    (idx d (k30 : Int)).bind fun x617 =>
    some (x315 != (w64 (x352 * x617)))).bind fun (x390 : Bool) =>
  if x390 = true then
    some (.ret false)
  else
    some (.next ())

def p_spec_l04Is_L1 (r_Table : (List (List (List Int)))) (d : (List Int)) (k11 : Nat) : Option (Ctl (Unit) (Bool)) :=
  (forN (fun k s => p_spec_l04Is_L2 r_Table k11 d k ) (d).length 0 ()).bind fun res28 => onRes res28 (fun r722 => some (.ret r722)) fun _ =>
  some (.next ())

def p_spec_l04Is (r_Table : (List (List (List Int)))) (d : (List Int)) : Option (Bool) :=
  (forN (fun k s => p_spec_l04Is_L1 r_Table d k ) (d).length 0 ()).bind fun res9 => onRes res9 (fun r741 => some r741) fun _ =>
  some true

def p_spec_l04Integers_L1  (k15 : Nat) (x16 : (List Int)) : Option (Ctl ((List Int)) (Unit)) :=
  (appL x16 ([(1000000 : Int)] : (List Int))).bind fun x38 =>
  some (.next x38)

def p_spec_l04Integers_L3 (x95 : Int) (k104 : Nat) (x105 : (List Int)) : Option (Ctl ((List Int)) (Unit)) :=
  (idx x105 (k104 : Int)).bind fun x168 =>
  (quoI .i64 x168 x95).bind fun x208 =>
  (remI x168 x95).bind fun x288 =>
  (quoI .i64 (w64 (x288 * (1000000 : Int))) x95).bind fun x326 =>
  (idx ((x105).set ((k104 : Int)).toNat (w64 ((w64 (x208 * (1000000 : Int))) + x326))) (k104 : Int)).bind fun x367 =>
  some (.next ((((x105).set ((k104 : Int)).toNat (w64 ((w64 (x208 * (1000000 : Int))) + x326)))).set ((k104 : Int)).toNat (if (if (100000000000 : Int) < x367 then (100000000000 : Int) else x367) > (1 : Int) then (if (100000000000 : Int) < x367 then (100000000000 : Int) else x367) else (1 : Int))))

def p_spec_l04Integers_L2 (r_Table : (List (List (List Int)))) (k70 : Nat) (x71 : (List Int)) : Option (Ctl ((List Int)) (Unit)) :=
  (p_spec_l04Next r_Table x71).bind fun x88 =>
  (idx x88 (0 : Int)).bind fun x95 =>
  (forN (fun k s => p_spec_l04Integers_L3 x95 k s) (x88).length 0 x88).bind fun res102 => onRes res102 (fun r403 => none) fun (x397 : (List Int)) =>
  some (.next x397)

def p_spec_l04Integers_L4 (x422 : (List Int)) (k433 : Nat) (x434 : (List Int)) : Option (Ctl ((List Int)) (Unit)) :=
  (idx x422 (k433 : Int)).bind fun x453 =>
  (appL x434 ([(w64 (((w64 (x453 + (500000 : Int)))).tdiv (1000000 : Int)))] : (List Int))).bind fun x464 =>
  some (.next x464)

def p_spec_l04Integers (r_Table : (List (List (List Int)))) : Option ((List Int) × Bool) :=
  (forN (fun k s => p_spec_l04Integers_L1  k s) (r_Table).length 0 ([] : (List Int))).bind fun res13 => onRes res13 (fun r503 => none) fun (x63 : (List Int)) =>
  (forN (fun k s => p_spec_l04Integers_L2 r_Table k s) ((400 : Int)).toNat 0 x63).bind fun res68 => onRes res68 (fun r502 => none) fun (x422 : (List Int)) =>
  (forN (fun k s => p_spec_l04Integers_L4 x422 k s) (x422).length 0 ([] : (List Int))).bind fun res431 => onRes res431 (fun r501 => none) fun (x490 : (List Int)) =>
  (p_spec_l04Is r_Table x490).bind fun x495 =>
  some (x490, x495)

def p_impl_within (n : Int) (low : Int) (high : Int) : Option (Bool) :=
  some ((decide (n ≥ low)) && (decide (n ≤ high)))

def p_impl_allWithin_c1 (n : Int) (c0 : Int) (c1 : Int) : Option (Bool) :=
  (p_impl_within n c0 c1).bind fun x1 =>
  some (!x1)

def p_slices_IndexFunc_Lint64_int64_L1 (s1 : (List Int)) (f1 : (Int → Option Bool)) (k4 : Nat) : Option (Ctl (Unit) (Int)) :=
  (idx s1 (k4 : Int)).bind fun x21 =>
  (f1 x21).bind fun x28 =>
  if x28 = true then
    some (.ret (k4 : Int))
  else
    some (.next ())

def p_slices_IndexFunc_Lint64_int64 (s1 : (List Int)) (f1 : Int → Option Bool) : Option (Int) :=
  (forN (fun k s => p_slices_IndexFunc_Lint64_int64_L1 s1 f1 k ) (s1).length 0 ()).bind fun res2 => onRes res2 (fun r54 => some r54) fun _ =>
  some (-1 : Int)

def p_slices_ContainsFunc_Lint64_int64 (s1 : (List Int)) (f1 : Int → Option Bool) : Option (Bool) :=
  (p_slices_IndexFunc_Lint64_int64 s1 f1).bind fun x1 =>
  some (decide (x1 ≥ (0 : Int)))

def p_impl_allWithin (list : (List Int)) (low : Int) (high : Int) : Option (Bool) :=
  (p_slices_ContainsFunc_Lint64_int64 list (fun a0_19 => p_impl_allWithin_c1 a0_19 low high)).bind fun x22 =>
  some (!x22)

def p_impl_isCube_c1 (row : (List Int)) (c0 : Int) : Option (Bool) :=
  (if (((row).length : Int) != c0) = true then
    some true
  else
    (p_impl_allWithin row (0 : Int) (1000 : Int)).bind fun x8 =>
    some (!x8)).bind fun (x3 : Bool) =>
  some x3

def p_slices_IndexFunc_LLint64_Lint64_L1 (s1 : (List (List Int))) (f1 : ((List Int) → Option Bool)) (k4 : Nat) : Option (Ctl (Unit) (Int)) :=
  (idx s1 (k4 : Int)).bind fun x21 =>
  (f1 x21).bind fun x28 =>
  if x28 = true then
    some (.ret (k4 : Int))
  else
    some (.next ())

def p_slices_IndexFunc_LLint64_Lint64 (s1 : (List (List Int))) (f1 : (List Int) → Option Bool) : Option (Int) :=
  (forN (fun k s => p_slices_IndexFunc_LLint64_Lint64_L1 s1 f1 k ) (s1).length 0 ()).bind fun res2 => onRes res2 (fun r54 => some r54) fun _ =>
  some (-1 : Int)

def p_slices_ContainsFunc_LLint64_Lint64 (s1 : (List (List Int))) (f1 : (List Int) → Option Bool) : Option (Bool) :=
  (p_slices_IndexFunc_LLint64_Lint64 s1 f1).bind fun x1 =>
  some (decide (x1 ≥ (0 : Int)))

def p_impl_isCube_L1 (r_Table : (List (List (List Int)))) (k19 : Nat) : Option (Ctl (Unit) (Bool)) :=
  (idx r_Table (k19 : Int)).bind fun x36 =>
  (if (((x36).length : Int) != ((r_Table).length : Int)) = true then
    some true
  else
    (p_slices_ContainsFunc_LLint64_Lint64 x36 (fun a0_51 => p_impl_isCube_c1 a0_51 ((r_Table).length : Int))).bind fun x54 =>
    some x54).bind fun (x45 : Bool) =>
  if x45 = true then
    some (.ret false)
  else
    some (.next ())

def p_impl_isCube (r_Table : (List (List (List Int)))) : Option (Bool) :=
  (forN (fun k s => p_impl_isCube_L1 r_Table k ) (r_Table).length 0 ()).bind fun res17 => onRes res17 (fun r93 => some r93) fun _ =>
  some ((decide (((r_Table).length : Int) ≥ (1 : Int))) && (decide (((r_Table).length : Int) ≤ (16 : Int))))

def p_impl_delta (i : Int) (k1 : Int) : Option (Int) :=
  if (i == k1) = true then
    some (1 : Int)
  else
    some (0 : Int)

def p_impl_Ring_unitFault_L2 (r_Table : (List (List (List Int)))) (k12 : Nat) (k31 : Nat) : Option (Ctl (Unit) ((List Int))) :=
  (idx r_Table (0 : Int)).bind fun x77 =>
  (idx x77 (k12 : Int)).bind fun x116 =>
  (idx x116 (k31 : Int)).bind fun x155 =>
  (p_impl_delta (k12 : Int) (k31 : Int)).bind fun x202 =>
  (if (x155 != x202) = true then
    some true
  else
    (idx r_Table (k12 : Int)).bind fun x439 =>
    (idx x439 (0 : Int)).bind fun x474 =>
    (idx x474 (k31 : Int)).bind fun x525 =>
    (p_impl_delta (k12 : Int) (k31 : Int)).bind fun x588 =>
    some (x525 != x588)).bind fun (x234 : Bool) =>
  if x234 = true then
    some (.ret ([(0 : Int), (k12 : Int), (k31 : Int)] : (List Int)))
  else
    some (.next ())

def p_impl_Ring_unitFault_L1 (r_Table : (List (List (List Int)))) (k12 : Nat) : Option (Ctl (Unit) ((List Int))) :=
  (forN (fun k s => p_impl_Ring_unitFault_L2 r_Table k12 k ) (r_Table).length 0 ()).bind fun res29 => onRes res29 (fun r671 => some (.ret r671)) fun _ =>
  some (.next ())

def p_impl_Ring_unitFault (r_Table : (List (List (List Int)))) : Option ((List Int)) :=
  (forN (fun k s => p_impl_Ring_unitFault_L1 r_Table k ) (r_Table).length 0 ()).bind fun res10 => onRes res10 (fun r689 => some r689) fun _ =>
  some ([] : (List Int))

def p_impl_Ring_onlyOf_L1 (x9 : (List (List Int))) (k19 : Nat) (x20 : Int) : Option (Ctl (Int) (Int)) :=
  (idx x9 (k19 : Int)).bind fun x38 =>
  (idx x38 (0 : Int)).bind fun x45 =>
  if (x45 == (0 : Int)) = true then
    some (.next x20)
  else
    if ((decide (x20 ≥ (0 : Int))) || (x45 != (1 : Int))) = true then
      some (.ret (-1 : Int))
    else
      some (.next (k19 : Int))

def p_impl_Ring_onlyOf (r_Table : (List (List (List Int)))) (i : Int) : Option (Int) :=
  (idx r_Table i).bind fun x9 =>
  (forN (fun k s => p_impl_Ring_onlyOf_L1 x9 k s) (x9).length 0 (-1 : Int)).bind fun res17 => onRes res17 (fun r92 => some r92) fun (x88 : Int) =>
  some x88

def p_impl_Ring_dualFault_L1 (r_Table : (List (List (List Int)))) (k12 : Nat) : Option (Ctl (Unit) (Int)) :=
  (p_impl_Ring_onlyOf r_Table (k12 : Int)).bind fun x28 =>
  (if (decide (x28 < (0 : Int))) = true then
    some true
  else
    (p_impl_Ring_onlyOf r_Table x28).bind fun x41 =>
    some (x41 != (k12 : Int))).bind fun (x36 : Bool) =>
  if x36 = true then
    some (.ret (k12 : Int))
  else
    some (.next ())

def p_impl_Ring_dualFault (r_Table : (List (List (List Int)))) : Option (Int) :=
  (forN (fun k s => p_impl_Ring_dualFault_L1 r_Table k ) (r_Table).length 0 ()).bind fun res10 => onRes res10 (fun r73 => some r73) fun _ =>
  some (-1 : Int)

def p_impl_Ring_duals_L1 (r_Table : (List (List (List Int)))) (k16 : Nat) (x17 : (List Int)) : Option (Ctl ((List Int)) (Unit)) :=
  (p_impl_Ring_onlyOf r_Table (k16 : Int)).bind fun x35 =>
  (appL x17 ([x35] : (List Int))).bind fun x46 =>
  some (.next x46)

def p_impl_Ring_duals (r_Table : (List (List (List Int)))) : Option ((List Int)) :=
  (forN (fun k s => p_impl_Ring_duals_L1 r_Table k s) (r_Table).length 0 ([] : (List Int))).bind fun res14 => onRes res14 (fun r75 => none) fun (x71 : (List Int)) =>
  some x71

def p_impl_Ring_turnFault_L3 (r_Table : (List (List (List Int)))) (k23 : Nat) (k43 : Nat) (x9 : (List Int)) (k66 : Nat) : Option (Ctl (Unit) ((List Int))) :=
  (idx r_Table (k23 : Int)).bind fun x89 =>
  (idx x89 (k43 : Int)).bind fun x96 =>
  (idx x96 (k66 : Int)).bind fun x103 =>
  (idx x9 (k23 : Int)).bind fun x163 =>
  (idx r_Table x163).bind fun x195 =>
  (idx x195 (k66 : Int)).bind fun x234 =>
  (idx x234 (k43 : Int)).bind fun x273 =>
  (if (x103 != x273) = true then
    some true
  else
    (idx r_Table (k66 : Int)).bind fun x556 =>
    (idx x9 (k43 : Int)).bind fun x618 =>
    (idx x556 x618).bind fun x658 =>
    (idx x658 (k23 : Int)).bind fun x709 =>
    some (x103 != x709)).bind fun (x316 : Bool) =>
  if x316 = true then
    some (.ret ([(2 : Int), (k23 : Int), (k43 : Int), (k66 : Int)] : (List Int)))
  else
    some (.next ())

def p_impl_Ring_turnFault_L2 (r_Table : (List (List (List Int)))) (k23 : Nat) (x9 : (List Int)) (k43 : Nat) : Option (Ctl (Unit) ((List Int))) :=
  (forN (fun k s => p_impl_Ring_turnFault_L3 r_Table k23 k43 x9 k ) (r_Table).length 0 ()).bind fun res64 => onRes res64 (fun r825 => some (.ret r825)) fun _ =>
  some (.next ())

def p_impl_Ring_turnFault_L1 (r_Table : (List (List (List Int)))) (x9 : (List Int)) (k23 : Nat) : Option (Ctl (Unit) ((List Int))) :=
  (forN (fun k s => p_impl_Ring_turnFault_L2 r_Table k23 x9 k ) (r_Table).length 0 ()).bind fun res41 => onRes res41 (fun r851 => some (.ret r851)) fun _ =>
  some (.next ())

def p_impl_Ring_turnFault (r_Table : (List (List (List Int)))) : Option ((List Int)) :=
  (p_impl_Ring_duals r_Table).bind fun x9 =>
  (forN (fun k s => p_impl_Ring_turnFault_L1 r_Table x9 k ) (r_Table).length 0 ()).bind fun res21 => onRes res21 (fun r870 => some r870) fun _ =>
  some ([] : (List Int))

def p_impl_Ring_bracketFault_L5 (x29 : (List (List Int))) (k39 : Nat) (r_Table : (List (List (List Int)))) (k71 : Nat) (k100 : Nat) (x61 : (List (List Int))) (k132 : Nat) (x133 : Int) (x134 : Int) : Option (Ctl (Int × Int) (Unit)) :=
  (idx x29 (k39 : Int)).bind fun x206 =>
  (idx x206 (k132 : Int)).bind fun x245 =>
  (idx r_Table (k132 : Int)).bind fun x301 =>
  (idx x301 (k71 : Int)).bind fun x340 =>
  (idx x340 (k100 : Int)).bind fun x379 =>
  (idx x61 (k71 : Int)).bind fun x482 =>
  (idx x482 (k132 : Int)).bind fun x521 =>
  (idx x29 (k132 : Int)).bind fun x567 =>
  (idx x567 (k100 : Int)).bind fun x606 =>
  some (.next ((w64 (x133 + (w64 (x245 * x379)))), (w64 (x134 + (w64 (x521 * x606))))))

def p_impl_Ring_bracketFault_L4 (x29 : (List (List Int))) (k39 : Nat) (r_Table : (List (List (List Int)))) (k71 : Nat) (x61 : (List (List Int))) (k12 : Nat) (k100 : Nat) : Option (Ctl (Unit) ((List Int))) :=
  (forN (fun k s => p_impl_Ring_bracketFault_L5 x29 k39 r_Table k71 k100 x61 k s.1 s.2) (r_Table).length 0 ((0 : Int), (0 : Int))).bind fun res130 => onRes res130 (fun r740 => none) fun (s709p : Int × Int) =>
  if (s709p.1 != s709p.2) = true then
    some (.ret ([(3 : Int), (k12 : Int), (k39 : Int), (k71 : Int), (k100 : Int)] : (List Int)))
  else
    some (.next ())

def p_impl_Ring_bracketFault_L3 (x29 : (List (List Int))) (k39 : Nat) (r_Table : (List (List (List Int)))) (x61 : (List (List Int))) (k12 : Nat) (k71 : Nat) : Option (Ctl (Unit) ((List Int))) :=
  (forN (fun k s => p_impl_Ring_bracketFault_L4 x29 k39 r_Table k71 x61 k12 k ) (r_Table).length 0 ()).bind fun res98 => onRes res98 (fun r784 => some (.ret r784)) fun _ =>
  some (.next ())

def p_impl_Ring_bracketFault_L2 (r_Table : (List (List (List Int)))) (x29 : (List (List Int))) (k12 : Nat) (k39 : Nat) : Option (Ctl (Unit) ((List Int))) :=
  (idx r_Table (k39 : Int)).bind fun x61 =>
  (forN (fun k s => p_impl_Ring_bracketFault_L3 x29 k39 r_Table x61 k12 k ) (r_Table).length 0 ()).bind fun res69 => onRes res69 (fun r821 => some (.ret r821)) fun _ =>
  some (.next ())

def p_impl_Ring_bracketFault_L1 (r_Table : (List (List (List Int)))) (k12 : Nat) : Option (Ctl (Unit) ((List Int))) :=
  (idx r_Table (k12 : Int)).bind fun x29 =>
  (forN (fun k s => p_impl_Ring_bracketFault_L2 r_Table x29 k12 k ) (r_Table).length 0 ()).bind fun res37 => onRes res37 (fun r849 => some (.ret r849)) fun _ =>
  some (.next ())

def p_impl_Ring_bracketFault (r_Table : (List (List (List Int)))) : Option ((List Int)) :=
  (forN (fun k s => p_impl_Ring_bracketFault_L1 r_Table k ) (r_Table).length 0 ()).bind fun res10 => onRes res10 (fun r868 => some r868) fun _ =>
  some ([] : (List Int))

def p_impl_Ring_fault (r_Table : (List (List (List Int)))) : Option ((List Int)) :=
  (p_impl_Ring_unitFault r_Table).bind fun x9 =>
  if (!(x9).isEmpty) = true then
    some x9
  else
    (p_impl_Ring_dualFault r_Table).bind fun x19 =>
    if (decide (x19 ≥ (0 : Int))) = true then
      some ([(1 : Int), x19] : (List Int))
    else
      (p_impl_Ring_turnFault r_Table).bind fun x32 =>
      if (!(x32).isEmpty) = true then
        some x32
      else
        (p_impl_Ring_bracketFault r_Table).bind fun x42 =>
        some x42

def p_impl_IsRing (r_Table : (List (List (List Int)))) : Option (Bool) :=
  (p_impl_isCube r_Table).bind fun x9 =>
  (if x9 = true then
    (p_impl_Ring_fault r_Table).bind fun x21 =>
    some (x21).isEmpty
  else
    some false).bind fun (x16 : Bool) =>
  some x16

def p_math_bits_Mul32 (x : Int) (y : Int) : Option (Int × Int) :=
  some ((IntKind.u32.wrap (((IntKind.u64.wrap ((IntKind.u64.wrap x) * (IntKind.u64.wrap y)))).fdiv (2 ^ 32))), (IntKind.u32.wrap (IntKind.u64.wrap ((IntKind.u64.wrap x) * (IntKind.u64.wrap y)))))

def p_math_bits_Mul64 (x : Int) (y : Int) : Option (Int × Int) :=
  some ((IntKind.u64.wrap ((IntKind.u64.wrap ((IntKind.u64.wrap (((x).fdiv (2 ^ 32)) * ((y).fdiv (2 ^ 32)))) + (((IntKind.u64.wrap ((IntKind.u64.wrap (((x).fdiv (2 ^ 32)) * (andI .u64 y (4294967295 : Int)))) + (((IntKind.u64.wrap ((andI .u64 x (4294967295 : Int)) * (andI .u64 y (4294967295 : Int))))).fdiv (2 ^ 32))))).fdiv (2 ^ 32)))) + (((IntKind.u64.wrap ((andI .u64 (IntKind.u64.wrap ((IntKind.u64.wrap (((x).fdiv (2 ^ 32)) * (andI .u64 y (4294967295 : Int)))) + (((IntKind.u64.wrap ((andI .u64 x (4294967295 : Int)) * (andI .u64 y (4294967295 : Int))))).fdiv (2 ^ 32)))) (4294967295 : Int)) + (IntKind.u64.wrap ((andI .u64 x (4294967295 : Int)) * ((y).fdiv (2 ^ 32))))))).fdiv (2 ^ 32)))), (IntKind.u64.wrap (x * y)))

def p_math_bits_Mul (x : Int) (y : Int) : Option (Int × Int) :=
  if false = true then
    (p_math_bits_Mul32 (IntKind.u32.wrap x) (IntKind.u32.wrap y)).bind fun x3 =>
    some ((IntKind.u64.wrap x3.1), (IntKind.u64.wrap x3.2))
  else
    (p_math_bits_Mul64 x y).bind fun x11 =>
    some (x11.1, x11.2)

def p_slices_Repeat_Lfloat64_float64_L1  (x46 : (List Int)) (x47 : Int) : Option (Ctl ((List Int) × Int) (Unit)) :=
  if (decide (x47 < ((x46).length : Int))) = true then
    (cutL x46 x47 ((x46).length : Int)).bind fun x99 =>
    (cutL x46 (0 : Int) x47).bind fun x137 =>
    some (.next ((cpyL x46 x47 x137), (w64 (x47 + (cpyN x46 x47 x137)))))
  else
    some (.brk (x46, x47))

def p_slices_Repeat_Lfloat64_float64 (x : (List Int)) (count : Int) : Option ((List Int)) :=
  (if (decide (count < (0 : Int))) = true then
    none
  else
    some ()).bind fun (_ : Unit) =>
  (p_math_bits_Mul (IntKind.u64.wrap ((x).length : Int)) (IntKind.u64.wrap count)).bind fun x10 =>
  (if ((decide (x10.1 > (0 : Int))) || (decide (x10.2 > (9223372036854775807 : Int)))) = true then
    none
  else
    some ()).bind fun (_ : Unit) =>
  (mkL (w64 x10.2) (0 : Int)).bind fun x34 =>
  (whileC (fun s => p_slices_Repeat_Lfloat64_float64_L1  s.1 s.2) ((cpyL x34 (0 : Int) x), (cpyN x34 (0 : Int) x))).bind fun res43 => onRes res43 (fun r172 => none) fun (s167p : (List Int) × Int) =>
  some s167p.1

def p_math_Round (x : Int) : Option (Int) :=
  (if (decide ((andI .u64 ((x).fdiv (2 ^ 52)) (2047 : Int)) < (1023 : Int))) = true then
    (if ((andI .u64 ((x).fdiv (2 ^ 52)) (2047 : Int)) == (1022 : Int)) = true then
      some (orI .u64 (andI .u64 x (9223372036854775808 : Int)) (4607182418800017408 : Int))
    else
      some (andI .u64 x (9223372036854775808 : Int))).bind fun (x4 : Int) =>
    some x4
  else
    (if (decide ((andI .u64 ((x).fdiv (2 ^ 52)) (2047 : Int)) < (1075 : Int))) = true then
      (shrI .u64 (2251799813685248 : Int) (IntKind.u64.wrap ((andI .u64 ((x).fdiv (2 ^ 52)) (2047 : Int)) - (1023 : Int)))).bind fun x16 =>
      (shrI .u64 (4503599627370495 : Int) (IntKind.u64.wrap ((andI .u64 ((x).fdiv (2 ^ 52)) (2047 : Int)) - (1023 : Int)))).bind fun x20 =>
      some (andNotI .u64 (IntKind.u64.wrap (x + x16)) x20)
    else
      some x).bind fun (x13 : Int) =>
    some x13).bind fun (x1 : Int) =>
  some x1

def p_impl_Ring_nearDimensions_L4 (x114 : (List Int)) (k88 : Nat) (x28 : (List Int)) (k124 : Nat) (x125 : (List Int)) : Option (Ctl ((List Int)) (Unit)) :=
  (idx x114 (k124 : Int)).bind fun x154 =>
  (idx x125 (k88 : Int)).bind fun x190 =>
  (idx x28 (k124 : Int)).bind fun x254 =>
  (fMul (fOf x154) x254).bind fun x287 =>
  (fAdd x190 x287).bind fun x322 =>
  some (.next ((x125).set ((k88 : Int)).toNat x322))

def p_impl_Ring_nearDimensions_L3 (x78 : (List (List Int))) (x28 : (List Int)) (k88 : Nat) (x89 : (List Int)) : Option (Ctl ((List Int)) (Unit)) :=
  (idx x78 (k88 : Int)).bind fun x114 =>
  (forN (fun k s => p_impl_Ring_nearDimensions_L4 x114 k88 x28 k s) (x114).length 0 x89).bind fun res122 => onRes res122 (fun r371 => none) fun (x357 : (List Int)) =>
  some (.next x357)

def p_impl_Ring_nearDimensions_L2 (r_Table : (List (List (List Int)))) (x28 : (List Int)) (k55 : Nat) (x56 : (List Int)) : Option (Ctl ((List Int)) (Unit)) :=
  (idx r_Table (k55 : Int)).bind fun x78 =>
  (forN (fun k s => p_impl_Ring_nearDimensions_L3 x78 x28 k s) (x78).length 0 x56).bind fun res86 => onRes res86 (fun r409 => none) fun (x398 : (List Int)) =>
  some (.next x398)

def p_impl_Ring_nearDimensions_L5 (x433 : (List Int)) (k443 : Nat) (x444 : Int) : Option (Ctl (Int) (Unit)) :=
  (idx x433 (k443 : Int)).bind fun x466 =>
  (fMax x444 x466).bind fun x473 =>
  some (.next x473)

def p_impl_Ring_nearDimensions_L6 (x498 : Int) (k509 : Nat) (x510 : (List Int)) : Option (Ctl ((List Int)) (Unit)) :=
  (idx x510 (k509 : Int)).bind fun x530 =>
  (fQuo x530 x498).bind fun x537 =>
  some (.next ((x510).set ((k509 : Int)).toNat x537))

def p_impl_Ring_nearDimensions_L1 (r_Table : (List (List (List Int)))) (k27 : Nat) (x28 : (List Int)) : Option (Ctl ((List Int)) (Unit)) :=
  (mkL ((r_Table).length : Int) (0 : Int)).bind fun x46 =>
  (forN (fun k s => p_impl_Ring_nearDimensions_L2 r_Table x28 k s) (r_Table).length 0 x46).bind fun res53 => onRes res53 (fun r571 => none) fun (x433 : (List Int)) =>
  (forN (fun k s => p_impl_Ring_nearDimensions_L5 x433 k s) (x433).length 0 (0 : Int)).bind fun res441 => onRes res441 (fun r570 => none) fun (x498 : Int) =>
  (forN (fun k s => p_impl_Ring_nearDimensions_L6 x498 k s) (x433).length 0 x433).bind fun res507 => onRes res507 (fun r569 => none) fun (x563 : (List Int)) =>
  some (.next x563)

def p_impl_Ring_nearDimensions_L7 (x591 : (List Int)) (k602 : Nat) (x603 : (List Int)) : Option (Ctl ((List Int)) (Unit)) :=
  (idx x591 (k602 : Int)).bind fun x622 =>
  (idx x591 (0 : Int)).bind fun x629 =>
  (fQuo x622 x629).bind fun x636 =>
  (p_math_Round x636).bind fun x639 =>
  (fTo x639).bind fun x646 =>
  (appL x603 ([x646] : (List Int))).bind fun x652 =>
  some (.next x652)

def p_impl_Ring_nearDimensions (r_Table : (List (List (List Int)))) : Option ((List Int)) :=
  (p_slices_Repeat_Lfloat64_float64 ([(4607182418800017408 : Int)] : (List Int)) ((r_Table).length : Int)).bind fun x18 =>
  (forN (fun k s => p_impl_Ring_nearDimensions_L1 r_Table k s) ((3000 : Int)).toNat 0 x18).bind fun res25 => onRes res25 (fun r684 => none) fun (x591 : (List Int)) =>
  (forN (fun k s => p_impl_Ring_nearDimensions_L7 x591 k s) (x591).length 0 ([] : (List Int))).bind fun res600 => onRes res600 (fun r683 => none) fun (x678 : (List Int)) =>
  if (x678).isEmpty = true then
    none
  else
    some x678

def p_slices_Min_Lint64_int64_L1 (x : (List Int)) (k18 : Nat) (x19 : Int) : Option (Ctl (Int) (Unit)) :=
  (idx x ((1 : Int) + (k18 : Int))).bind fun x37 =>
  some (.next (if x37 < x19 then x37 else x19))

def p_slices_Min_Lint64_int64 (x : (List Int)) : Option (Int) :=
  (if (decide (((x).length : Int) < (1 : Int))) = true then
    none
  else
    some ()).bind fun (_ : Unit) =>
  (idx x (0 : Int)).bind fun x9 =>
  (forN (fun k s => p_slices_Min_Lint64_int64_L1 x k s) (((x).length : Int) - (1 : Int)).toNat 0 x9).bind fun res16 => onRes res16 (fun r67 => none) fun (x63 : Int) =>
  some x63

def p_impl_Ring_isDimension_L3 (x60 : (List Int)) (d : (List Int)) (k70 : Nat) (x71 : Int) : Option (Ctl (Int) (Unit)) :=
  (idx x60 (k70 : Int)).bind fun x98 =>
  (idx d (k70 : Int)).bind fun x105 =>
  some (.next (w64 (x71 + (w64 (x98 * x105)))))

def p_impl_Ring_isDimension_L2 (x29 : (List (List Int))) (d : (List Int)) (k12 : Nat) (k39 : Nat) : Option (Ctl (Unit) (Bool)) :=
  (idx x29 (k39 : Int)).bind fun x60 =>
  (forN (fun k s => p_impl_Ring_isDimension_L3 x60 d k s) (x60).length 0 (0 : Int)).bind fun res68 => onRes res68 (fun r291 => none) fun (x140 : Int) =>
  (idx d (k12 : Int)).bind fun x189 =>
  (idx d (k39 : Int)).bind fun x235 =>
  if (x140 != (w64 (x189 * x235))) = true then
    some (.ret false)
  else
    some (.next ())

def p_impl_Ring_isDimension_L1 (r_Table : (List (List (List Int)))) (d : (List Int)) (k12 : Nat) : Option (Ctl (Unit) (Bool)) :=
  (idx r_Table (k12 : Int)).bind fun x29 =>
  (forN (fun k s => p_impl_Ring_isDimension_L2 x29 d k12 k ) (x29).length 0 ()).bind fun res37 => onRes res37 (fun r318 => some (.ret r318)) fun _ =>
  some (.next ())

def p_impl_Ring_isDimension (r_Table : (List (List (List Int)))) (d : (List Int)) : Option (Bool) :=
  (forN (fun k s => p_impl_Ring_isDimension_L1 r_Table d k ) (r_Table).length 0 ()).bind fun res10 => onRes res10 (fun r345 => some r345) fun _ =>
  (p_slices_Min_Lint64_int64 d).bind fun x338 =>
  some (decide (x338 > (0 : Int)))

def p_impl_Ring_integerDimensions (r_Table : (List (List (List Int)))) : Option ((List Int)) :=
  (p_impl_Ring_nearDimensions r_Table).bind fun x9 =>
  (p_impl_Ring_isDimension r_Table x9).bind fun x17 =>
  if (!x17) = true then
    some ([] : (List Int))
  else
    some x9

def p_laws_eqInt64S_L1 (a : (List Int)) (b : (List Int)) (k7 : Nat) : Option (Ctl (Unit) (Bool)) :=
  (idx a (k7 : Int)).bind fun x53 =>
  (idx b (k7 : Int)).bind fun x99 =>
  if (x53 != x99) = true then
    some (.ret false)
  else
    some (.next ())

def p_laws_eqInt64S (a : (List Int)) (b : (List Int)) : Option (Bool) :=
  if (((a).length : Int) != ((b).length : Int)) = true then
    some false
  else
    (forN (fun k s => p_laws_eqInt64S_L1 a b k ) (a).length 0 ()).bind fun res5 => onRes res5 (fun r152 => some r152) fun _ =>
    some true

def p_laws_eqInt64SS_L1 (a : (List (List Int))) (b : (List (List Int))) (k7 : Nat) : Option (Ctl (Unit) (Bool)) :=
  (idx a (k7 : Int)).bind fun x53 =>
  (idx b (k7 : Int)).bind fun x99 =>
  (p_laws_eqInt64S x53 x99).bind fun x130 =>
  if (!x130) = true then
    some (.ret false)
  else
    some (.next ())

def p_laws_eqInt64SS (a : (List (List Int))) (b : (List (List Int))) : Option (Bool) :=
  if (((a).length : Int) != ((b).length : Int)) = true then
    some false
  else
    (forN (fun k s => p_laws_eqInt64SS_L1 a b k ) (a).length 0 ()).bind fun res5 => onRes res5 (fun r156 => some r156) fun _ =>
    some true

def p_laws_eqInt64SSS_L1 (a : (List (List (List Int)))) (b : (List (List (List Int)))) (k7 : Nat) : Option (Ctl (Unit) (Bool)) :=
  (idx a (k7 : Int)).bind fun x53 =>
  (idx b (k7 : Int)).bind fun x99 =>
  (p_laws_eqInt64SS x53 x99).bind fun x130 =>
  if (!x130) = true then
    some (.ret false)
  else
    some (.next ())

def p_laws_eqInt64SSS (a : (List (List (List Int)))) (b : (List (List (List Int)))) : Option (Bool) :=
  if (((a).length : Int) != ((b).length : Int)) = true then
    some false
  else
    (forN (fun k s => p_laws_eqInt64SSS_L1 a b k ) (a).length 0 ()).bind fun res5 => onRes res5 (fun r156 => some r156) fun _ =>
    some true

def p_laws_eqRing (a_Table : (List (List (List Int)))) (b_Table : (List (List (List Int)))) : Option (Bool) :=
  (p_laws_eqInt64SSS a_Table b_Table).bind fun x18 =>
  if (!x18) = true then
    some false
  else
    some true

def p_impl_sumOfProducts_L1 (a : (List Int)) (b : (List Int)) (k4 : Nat) (x5 : Int) : Option (Ctl (Int) (Unit)) :=
  (idx a (k4 : Int)).bind fun x60 =>
  (idx b (k4 : Int)).bind fun x106 =>
  some (.next (w64 (x5 + (w64 (x60 * x106)))))

def p_impl_sumOfProducts (a : (List Int)) (b : (List Int)) : Option (Int) :=
  (forN (fun k s => p_impl_sumOfProducts_L1 a b k s) (a).length 0 (0 : Int)).bind fun res2 => onRes res2 (fun r180 => none) fun (x176 : Int) =>
  some x176

def p_spec_l03Vector_L1 (x : (List Int)) (k11 : Nat) : Option (Ctl (Unit) (Bool)) :=
  (idx x (k11 : Int)).bind fun x28 =>
  (p_spec_l01In x28 (0 : Int) (1000000 : Int)).bind fun x35 =>
  if (!x35) = true then
    some (.ret false)
  else
    some (.next ())

def p_spec_l03Vector (r_Table : (List (List (List Int)))) (x : (List Int)) : Option (Bool) :=
  (forN (fun k s => p_spec_l03Vector_L1 x k ) (x).length 0 ()).bind fun res9 => onRes res9 (fun r65 => some r65) fun _ =>
  some (((x).length : Int) == ((r_Table).length : Int))

def p_spec_DimensionOfVector_L1 (x25 : (List Int) × Bool) (x : (List Int)) (k40 : Nat) (x41 : Int) : Option (Ctl (Int) (Unit)) :=
  (idx x25.1 (k40 : Int)).bind fun x96 =>
  (idx x (k40 : Int)).bind fun x142 =>
  some (.next (w64 (x41 + (w64 (x96 * x142)))))

def p_spec_DimensionOfVector (r_Table : (List (List (List Int)))) (x : (List Int)) : Option (Int × Int) :=
  (p_spec_l03Is r_Table).bind fun x9 =>
  if (!x9) = true then
    some ((0 : Int), (1 : Int))
  else
    (p_spec_l03Vector r_Table x).bind fun x17 =>
    if (!x17) = true then
      some ((0 : Int), (2 : Int))
    else
      (p_spec_l04Integers r_Table).bind fun x25 =>
      if (!x25.2) = true then
        some ((0 : Int), (4 : Int))
      else
        (forN (fun k s => p_spec_DimensionOfVector_L1 x25 x k s) (x25.1).length 0 (0 : Int)).bind fun res38 => onRes res38 (fun r215 => none) fun (x211 : Int) =>
        some (x211, (0 : Int))

def p_impl_Ring_isVector (r_Table : (List (List (List Int)))) (x : (List Int)) : Option (Bool) :=
  (if (((x).length : Int) == ((r_Table).length : Int)) = true then
    (p_impl_allWithin x (0 : Int) (1000000 : Int)).bind fun x17 =>
    some x17
  else
    some false).bind fun (x12 : Bool) =>
  some x12

def p_impl_DimensionOfVector (r_Table : (List (List (List Int)))) (x : (List Int)) : Option (Int × Int) :=
  (p_impl_IsRing r_Table).bind fun x9 =>
  if (!x9) = true then
    some ((0 : Int), (1 : Int))
  else
    (p_impl_Ring_isVector r_Table x).bind fun x17 =>
    if (!x17) = true then
      some ((0 : Int), (2 : Int))
    else
      (p_impl_Ring_integerDimensions r_Table).bind fun x25 =>
      if (x25).isEmpty = true then
        some ((0 : Int), (4 : Int))
      else
        (p_impl_sumOfProducts x x25).bind fun x39 =>
        some (x39, (0 : Int))

def p_laws_FnExactDimensionOfVector (aR_Table : (List (List (List Int)))) (aX : (List Int)) : Option (Bool) :=
  if (decide (((aX).length : Int) > (1048576 : Int))) = true then
    some true
  else
    (p_laws_szRing aR_Table (1048576 : Int)).bind fun x12 =>
    if (decide (x12 < (0 : Int))) = true then
      some true
    else
      (p_laws_toRing aR_Table).bind fun x21 =>
      (p_laws_toInt64S aX).bind fun x32 =>
      (p_spec_DimensionOfVector x21 x32).bind fun x44 =>
      (p_laws_toRing aR_Table).bind fun x52 =>
      (p_laws_toInt64S aX).bind fun x65 =>
      (p_impl_DimensionOfVector x52 x65).bind fun x72 =>
      if ((x72.1 != x44.1) || (x72.2 != x44.2)) = true then
        some false
      else
        (p_laws_toRing aR_Table).bind fun x116 =>
        (p_laws_eqRing x52 x116).bind fun x137 =>
        if (!x137) = true then
          some false
        else
          (p_laws_toInt64S aX).bind fun x145 =>
          (p_laws_eqInt64S x65 x145).bind fun x152 =>
          if (!x152) = true then
            some false
          else
            some true

def p_laws_markInt64S_L1  (k3 : Nat) (x4 : (List Int)) (x5 : Int) : Option (Ctl ((List Int) × Int) (Unit)) :=
  (idx x4 (k3 : Int)).bind fun x24 =>
  some (.next (((x4).set ((k3 : Int)).toNat x5), (w64 (x5 + (1 : Int)))))

def p_laws_markInt64S (a : (List Int)) (k1 : Int) : Option (Int × (List Int)) :=
  (forN (fun k s => p_laws_markInt64S_L1  k s.1 s.2) (a).length 0 (a, k1)).bind fun res1 => onRes res1 (fun r57 => none) fun (s50p : (List Int) × Int) =>
  some (s50p.2, s50p.1)

def p_laws_markInt64SS_L1  (k3 : Nat) (x4 : (List (List Int))) (x5 : Int) : Option (Ctl ((List (List Int)) × Int) (Unit)) :=
  (idx x4 (k3 : Int)).bind fun x24 =>
  (p_laws_markInt64S x24 x5).bind fun x32 =>
  some (.next (((x4).set ((k3 : Int)).toNat x32.2), x32.1))

def p_laws_markInt64SS (a : (List (List Int))) (k1 : Int) : Option (Int × (List (List Int))) :=
  (forN (fun k s => p_laws_markInt64SS_L1  k s.1 s.2) (a).length 0 (a, k1)).bind fun res1 => onRes res1 (fun r67 => none) fun (s60p : (List (List Int)) × Int) =>
  some (s60p.2, s60p.1)

def p_laws_markInt64SSS_L1  (k3 : Nat) (x4 : (List (List (List Int)))) (x5 : Int) : Option (Ctl ((List (List (List Int))) × Int) (Unit)) :=
  (idx x4 (k3 : Int)).bind fun x24 =>
  (p_laws_markInt64SS x24 x5).bind fun x32 =>
  some (.next (((x4).set ((k3 : Int)).toNat x32.2), x32.1))

def p_laws_markInt64SSS (a : (List (List (List Int)))) (k1 : Int) : Option (Int × (List (List (List Int)))) :=
  (forN (fun k s => p_laws_markInt64SSS_L1  k s.1 s.2) (a).length 0 (a, k1)).bind fun res1 => onRes res1 (fun r67 => none) fun (s60p : (List (List (List Int))) × Int) =>
  some (s60p.2, s60p.1)

def p_laws_heldInt64S_L1 (a : (List Int)) (k3 : Nat) (x4 : Int) : Option (Ctl (Int) (Int)) :=
  (idx a (k3 : Int)).bind fun x22 =>
  if (x22 != x4) = true then
    some (.ret (-1 : Int))
  else
    some (.next (w64 (x4 + (1 : Int))))

def p_laws_heldInt64S (a : (List Int)) (k1 : Int) : Option (Int) :=
  (forN (fun k s => p_laws_heldInt64S_L1 a k s) (a).length 0 k1).bind fun res1 => onRes res1 (fun r54 => some r54) fun (x50 : Int) =>
  some x50

end
end Go.VG
