/- The functions' plain twins, as a program of ours printed them. No proof. -/
import Derived.Test.YtgmimpbkhedfnaaVgPure
set_option linter.all false
namespace Go.VG
noncomputable section

def p_laws_szInt64S (a : (List Int)) (left : Int) : Option (Int) :=
  if (decide ((w64 (left - ((a).length : Int))) < (0 : Int))) = true then
    some (-1 : Int)
  else
    some (w64 (left - ((a).length : Int)))

def p_laws_szInt64SS_L1 (a : (List (List Int))) (k6 : Nat) (x7 : Int) : Option (Ctl (Int) (Int)) :=
  (idx a (k6 : Int)).bind fun x25 =>
  (p_laws_szInt64S x25 x7).bind fun x32 =>
  if (decide (x32 < (0 : Int))) = true then
    some (.ret (-1 : Int))
  else
    some (.next x32)

def p_laws_szInt64SS (a : (List (List Int))) (left : Int) : Option (Int) :=
  if (decide ((w64 (left - ((a).length : Int))) < (0 : Int))) = true then
    some (-1 : Int)
  else
    (forN (fun k s => p_laws_szInt64SS_L1 a k s) (a).length 0 (w64 (left - ((a).length : Int)))).bind fun res4 => onRes res4 (fun r64 => some r64) fun (x60 : Int) =>
    some x60

def p_laws_szInt64SSS_L1 (a : (List (List (List Int)))) (k6 : Nat) (x7 : Int) : Option (Ctl (Int) (Int)) :=
  (idx a (k6 : Int)).bind fun x25 =>
  (p_laws_szInt64SS x25 x7).bind fun x32 =>
  if (decide (x32 < (0 : Int))) = true then
    some (.ret (-1 : Int))
  else
    some (.next x32)

def p_laws_szInt64SSS (a : (List (List (List Int)))) (left : Int) : Option (Int) :=
  if (decide ((w64 (left - ((a).length : Int))) < (0 : Int))) = true then
    some (-1 : Int)
  else
    (forN (fun k s => p_laws_szInt64SSS_L1 a k s) (a).length 0 (w64 (left - ((a).length : Int)))).bind fun res4 => onRes res4 (fun r64 => some r64) fun (x60 : Int) =>
    some x60

def p_laws_szCocycle (a_Orders : (List Int)) (a_Modulus : Int) (a_Values : (List (List (List Int)))) (left : Int) : Option (Int) :=
  (p_laws_szInt64S a_Orders left).bind fun x9 =>
  if (decide (x9 < (0 : Int))) = true then
    some (-1 : Int)
  else
    (p_laws_szInt64SSS a_Values x9).bind fun x18 =>
    if (decide (x18 < (0 : Int))) = true then
      some (-1 : Int)
    else
      some x18

def p_laws_szBraiding (a_Cocycle_Orders : (List Int)) (a_Cocycle_Modulus : Int) (a_Cocycle_Values : (List (List (List Int)))) (a_Values : (List (List Int))) (left : Int) : Option (Int) :=
  (p_laws_szCocycle a_Cocycle_Orders a_Cocycle_Modulus a_Cocycle_Values left).bind fun x9 =>
  if (decide (x9 < (0 : Int))) = true then
    some (-1 : Int)
  else
    (p_laws_szInt64SS a_Values x9).bind fun x18 =>
    if (decide (x18 < (0 : Int))) = true then
      some (-1 : Int)
    else
      some x18

def p_laws_toInt64S_L1 (a : (List Int)) (k10 : Nat) (x11 : (List Int)) : Option (Ctl ((List Int)) (Unit)) :=
  (idx a (k10 : Int)).bind fun x28 =>
  (idx x11 (k10 : Int)).bind fun x35 =>
  some (.next ((x11).set ((k10 : Int)).toNat x28))

def p_laws_toInt64S (a : (List Int)) : Option ((List Int)) :=
  (mkL ((a).length : Int) (0 : Int)).bind fun x2 =>
  (forN (fun k s => p_laws_toInt64S_L1 a k s) (a).length 0 x2).bind fun res8 => onRes res8 (fun r62 => none) fun (x59 : (List Int)) =>
  some x59

def p_laws_toInt64SS_L1 (a : (List (List Int))) (k10 : Nat) (x11 : (List (List Int))) : Option (Ctl ((List (List Int))) (Unit)) :=
  (idx a (k10 : Int)).bind fun x28 =>
  (p_laws_toInt64S x28).bind fun x35 =>
  (idx x11 (k10 : Int)).bind fun x42 =>
  some (.next ((x11).set ((k10 : Int)).toNat x35))

def p_laws_toInt64SS (a : (List (List Int))) : Option ((List (List Int))) :=
  (mkL ((a).length : Int) ([] : (List Int))).bind fun x2 =>
  (forN (fun k s => p_laws_toInt64SS_L1 a k s) (a).length 0 x2).bind fun res8 => onRes res8 (fun r69 => none) fun (x66 : (List (List Int))) =>
  some x66

def p_laws_toInt64SSS_L1 (a : (List (List (List Int)))) (k10 : Nat) (x11 : (List (List (List Int)))) : Option (Ctl ((List (List (List Int)))) (Unit)) :=
  (idx a (k10 : Int)).bind fun x28 =>
  (p_laws_toInt64SS x28).bind fun x35 =>
  (idx x11 (k10 : Int)).bind fun x42 =>
  some (.next ((x11).set ((k10 : Int)).toNat x35))

def p_laws_toInt64SSS (a : (List (List (List Int)))) : Option ((List (List (List Int)))) :=
  (mkL ((a).length : Int) ([] : (List (List Int)))).bind fun x2 =>
  (forN (fun k s => p_laws_toInt64SSS_L1 a k s) (a).length 0 x2).bind fun res8 => onRes res8 (fun r69 => none) fun (x66 : (List (List (List Int)))) =>
  some x66

def p_laws_toCocycle (a_Orders : (List Int)) (a_Modulus : Int) (a_Values : (List (List (List Int)))) : Option ((List Int) × Int × (List (List (List Int)))) :=
  (p_laws_toInt64S a_Orders).bind fun x17 =>
  (p_laws_toInt64SSS a_Values).bind fun x28 =>
  some (x17, a_Modulus, x28)

def p_laws_toBraiding (a_Cocycle_Orders : (List Int)) (a_Cocycle_Modulus : Int) (a_Cocycle_Values : (List (List (List Int)))) (a_Values : (List (List Int))) : Option ((List Int) × Int × (List (List (List Int))) × (List (List Int))) :=
  (p_laws_toCocycle a_Cocycle_Orders a_Cocycle_Modulus a_Cocycle_Values).bind fun x17 =>
  (p_laws_toInt64SS a_Values).bind fun x28 =>
  some (x17.1, x17.2.1, x17.2.2, x28)

def p_spec_l06Orders_L1 (orders : (List Int)) (k3 : Nat) : Option (Ctl (Unit) (Bool)) :=
  (idx orders (k3 : Int)).bind fun x19 =>
  if (decide (x19 < (1 : Int))) = true then
    some (.ret false)
  else
    some (.next ())

def p_spec_l06Orders (orders : (List Int)) : Option (Bool) :=
  (forN (fun k s => p_spec_l06Orders_L1 orders k ) (orders).length 0 ()).bind fun res1 => onRes res1 (fun r47 => some r47) fun _ =>
  some (decide (((orders).length : Int) > (0 : Int)))

def p_spec_l01In (n : Int) (low : Int) (high : Int) : Option (Bool) :=
  some ((decide (n ≥ low)) && (decide (n ≤ high)))

def p_spec_l06Size_L1 (orders : (List Int)) (limit : Int) (k3 : Nat) (x4 : Int) : Option (Ctl (Int) (Int)) :=
  (idx orders (k3 : Int)).bind fun x23 =>
  if (decide (x23 > limit)) = true then
    some (.ret (w64 (limit + (1 : Int))))
  else
    if (decide ((w64 (x4 * x23)) > limit)) = true then
      some (.ret (w64 (limit + (1 : Int))))
    else
      some (.next (w64 (x4 * x23)))

def p_spec_l06Size (orders : (List Int)) (limit : Int) : Option (Int) :=
  (forN (fun k s => p_spec_l06Size_L1 orders limit k s) (orders).length 0 (1 : Int)).bind fun res1 => onRes res1 (fun r61 => some r61) fun (x57 : Int) =>
  some x57

def p_spec_l17Size (orders : (List Int)) : Option (Int) :=
  (p_spec_l06Size orders (8 : Int)).bind fun x1 =>
  some x1

def p_spec_l17Shape_L3 (x100 : (List Int)) (c_Modulus : Int) (k112 : Nat) : Option (Ctl (Unit) (Bool)) :=
  (idx x100 (k112 : Int)).bind fun x239 =>
  (p_spec_l01In x239 (0 : Int) (w64 (c_Modulus - (1 : Int)))).bind fun x302 =>
  if (!x302) = true then
    some (.ret false)
  else
    some (.next ())

def p_spec_l17Shape_L2 (x68 : (List (List Int))) (x32 : Int) (c_Modulus : Int) (k80 : Nat) : Option (Ctl (Unit) (Bool)) :=
  (idx x68 (k80 : Int)).bind fun x100 =>
  if (((x100).length : Int) != x32) = true then
    some (.ret false)
  else
    (forN (fun k s => p_spec_l17Shape_L3 x100 c_Modulus k ) (x32).toNat 0 ()).bind fun res110 => onRes res110 (fun r333 => some (.ret r333)) fun _ =>
    some (.next ())

def p_spec_l17Shape_L1 (c_Values : (List (List (List Int)))) (x32 : Int) (c_Modulus : Int) (k52 : Nat) : Option (Ctl (Unit) (Bool)) :=
  (idx c_Values (k52 : Int)).bind fun x68 =>
  if (((x68).length : Int) != x32) = true then
    some (.ret false)
  else
    (forN (fun k s => p_spec_l17Shape_L2 x68 x32 c_Modulus k ) (x32).toNat 0 ()).bind fun res78 => onRes res78 (fun r355 => some (.ret r355)) fun _ =>
    some (.next ())

def p_spec_l17Shape (c_Orders : (List Int)) (c_Modulus : Int) (c_Values : (List (List (List Int)))) : Option (Bool) :=
  (p_spec_l06Orders c_Orders).bind fun x9 =>
  (if (!x9) = true then
    some true
  else
    (p_spec_l01In c_Modulus (1 : Int) (1000 : Int)).bind fun x21 =>
    some (!x21)).bind fun (x16 : Bool) =>
  if x16 = true then
    some false
  else
    (p_spec_l17Size c_Orders).bind fun x32 =>
    if ((decide (x32 > (8 : Int))) || (((c_Values).length : Int) != x32)) = true then
      some false
    else
      (forN (fun k s => p_spec_l17Shape_L1 c_Values x32 c_Modulus k ) (x32).toNat 0 ()).bind fun res50 => onRes res50 (fun r373 => some r373) fun _ =>
      some true

def p_spec_l17Normal_L2 (c_Values : (List (List (List Int)))) (k12 : Nat) (k30 : Nat) : Option (Ctl (Unit) (Bool)) :=
  (idx c_Values (0 : Int)).bind fun x47 =>
  (idx x47 (k12 : Int)).bind fun x54 =>
  (idx x54 (k30 : Int)).bind fun x61 =>
  (if (x61 != (0 : Int)) = true then
    some true
  else
    (idx c_Values (k12 : Int)).bind fun x74 =>
    (idx x74 (0 : Int)).bind fun x81 =>
    (idx x81 (k30 : Int)).bind fun x88 =>
    some (x88 != (0 : Int))).bind fun (x69 : Bool) =>
  (if x69 = true then
    some true
  else
    (idx c_Values (k12 : Int)).bind fun x107 =>
    (idx x107 (k30 : Int)).bind fun x114 =>
    (idx x114 (0 : Int)).bind fun x121 =>
    some (x121 != (0 : Int))).bind fun (x102 : Bool) =>
  if x102 = true then
    some (.ret false)
  else
    some (.next ())

def p_spec_l17Normal_L1 (c_Values : (List (List (List Int)))) (k12 : Nat) : Option (Ctl (Unit) (Bool)) :=
  (forN (fun k s => p_spec_l17Normal_L2 c_Values k12 k ) (c_Values).length 0 ()).bind fun res28 => onRes res28 (fun r157 => some (.ret r157)) fun _ =>
  some (.next ())

def p_spec_l17Normal (c_Orders : (List Int)) (c_Modulus : Int) (c_Values : (List (List (List Int)))) : Option (Bool) :=
  (forN (fun k s => p_spec_l17Normal_L1 c_Values k ) (c_Values).length 0 ()).bind fun res10 => onRes res10 (fun r175 => some r175) fun _ =>
  some true

def p_spec_l06Add_L1 (orders : (List Int)) (x5 : Int) (x6 : Int) (x7 : Int) (x8 : Int) (x9 : Int) : Option (Ctl (Int × Int × Int × Int × Int) (Unit)) :=
  if (decide (x9 ≥ (0 : Int))) = true then
    (idx orders x9).bind fun x75 =>
    (remI x5 x75).bind fun x108 =>
    (remI x6 x75).bind fun x177 =>
    (remI (w64 (x108 + x177)) x75).bind fun x255 =>
    (quoI .i64 x5 x75).bind fun x306 =>
    (quoI .i64 x6 x75).bind fun x313 =>
    some (.next (x306, x313, (w64 (x7 + (w64 (x255 * x8)))), (w64 (x8 * x75)), (w64 (x9 - (1 : Int)))))
  else
    some (.brk (x5, x6, x7, x8, x9))

def p_spec_l06Add (orders : (List Int)) (x : Int) (y : Int) : Option (Int) :=
  (whileC (fun s => p_spec_l06Add_L1 orders s.1 s.2.1 s.2.2.1 s.2.2.2.1 s.2.2.2.2) (x, y, (0 : Int), (1 : Int), (w64 (((orders).length : Int) - (1 : Int))))).bind fun res2 => onRes res2 (fun r330 => none) fun (s321p : Int × Int × Int × Int × Int) =>
  some s321p.2.2.1

def p_spec_l17Fault_L4 (c_Orders : (List Int)) (k80 : Nat) (k99 : Nat) (k119 : Nat) (c_Values : (List (List (List Int)))) (c_Modulus : Int) (k140 : Nat) : Option (Ctl (Unit) ((List Int))) :=
  (p_spec_l06Add c_Orders (k80 : Int) (k99 : Int)).bind fun x211 =>
  (p_spec_l06Add c_Orders (k99 : Int) (k119 : Int)).bind fun x268 =>
  (p_spec_l06Add c_Orders (k119 : Int) (k140 : Int)).bind fun x330 =>
  (idx c_Values (k99 : Int)).bind fun x366 =>
  (idx x366 (k119 : Int)).bind fun x405 =>
  (idx x405 (k140 : Int)).bind fun x444 =>
  (idx c_Values x211).bind fun x490 =>
  (idx x490 (k119 : Int)).bind fun x529 =>
  (idx x529 (k140 : Int)).bind fun x568 =>
  (idx c_Values (k80 : Int)).bind fun x630 =>
  (idx x630 x268).bind fun x669 =>
  (idx x669 (k140 : Int)).bind fun x708 =>
  (idx x630 (k99 : Int)).bind fun x805 =>
  (idx x805 x330).bind fun x844 =>
  (idx x805 (k119 : Int)).bind fun x976 =>
  (remI (w64 ((w64 ((w64 ((w64 (x444 - x568)) + x708)) - x844)) + x976)) c_Modulus).bind fun x1046 =>
  if (x1046 != (0 : Int)) = true then
    some (.ret ([(k80 : Int), (k99 : Int), (k119 : Int), (k140 : Int)] : (List Int)))
  else
    some (.next ())

def p_spec_l17Fault_L3 (c_Orders : (List Int)) (k80 : Nat) (k99 : Nat) (c_Values : (List (List (List Int)))) (c_Modulus : Int) (k119 : Nat) : Option (Ctl (Unit) ((List Int))) :=
  (forN (fun k s => p_spec_l17Fault_L4 c_Orders k80 k99 k119 c_Values c_Modulus k ) (((c_Values).length : Int)).toNat 0 ()).bind fun res138 => onRes res138 (fun r1083 => some (.ret r1083)) fun _ =>
  some (.next ())

def p_spec_l17Fault_L2 (c_Orders : (List Int)) (k80 : Nat) (c_Values : (List (List (List Int)))) (c_Modulus : Int) (k99 : Nat) : Option (Ctl (Unit) ((List Int))) :=
  (forN (fun k s => p_spec_l17Fault_L3 c_Orders k80 k99 c_Values c_Modulus k ) (((c_Values).length : Int)).toNat 0 ()).bind fun res117 => onRes res117 (fun r1109 => some (.ret r1109)) fun _ =>
  some (.next ())

def p_spec_l17Fault_L1 (c_Orders : (List Int)) (c_Values : (List (List (List Int)))) (c_Modulus : Int) (k80 : Nat) : Option (Ctl (Unit) ((List Int))) :=
  (forN (fun k s => p_spec_l17Fault_L2 c_Orders k80 c_Values c_Modulus k ) (((c_Values).length : Int)).toNat 0 ()).bind fun res97 => onRes res97 (fun r1133 => some (.ret r1133)) fun _ =>
  some (.next ())

def p_spec_l17Fault (c_Orders : (List Int)) (c_Modulus : Int) (c_Values : (List (List (List Int)))) : Option ((List Int)) :=
  (forN (fun k s => p_spec_l17Fault_L1 c_Orders c_Values c_Modulus k ) (((c_Values).length : Int)).toNat 0 ()).bind fun res78 => onRes res78 (fun r1152 => some r1152) fun _ =>
  some ([] : (List Int))

def p_spec_l17Is (c_Orders : (List Int)) (c_Modulus : Int) (c_Values : (List (List (List Int)))) : Option (Bool) :=
  (p_spec_l17Shape c_Orders c_Modulus c_Values).bind fun x9 =>
  (if x9 = true then
    (p_spec_l17Normal c_Orders c_Modulus c_Values).bind fun x21 =>
    some x21
  else
    some false).bind fun (x16 : Bool) =>
  (if x16 = true then
    (p_spec_l17Fault c_Orders c_Modulus c_Values).bind fun x36 =>
    some (((x36).length : Int) == (0 : Int))
  else
    some false).bind fun (x31 : Bool) =>
  some x31

def p_spec_l17Pairing_L2 (x23 : (List Int)) (m : Int) (k6 : Nat) (k35 : Nat) : Option (Ctl (Unit) (Bool)) :=
  ((idx x23 (k35 : Int)).bind fun x58 =>
  (p_spec_l01In x58 (0 : Int) (w64 (m - (1 : Int)))).bind fun x65 =>
  if (!x65) = true then
    some true
  else
    if ((k6 : Int) == (0 : Int)) = true then
      if true = true then
        some (x58 != (0 : Int))
      else
        some false
    else
      if ((k35 : Int) == (0 : Int)) = true then
        some (x58 != (0 : Int))
      else
        some false).bind fun (x53 : Bool) =>
  if x53 = true then
    some (.ret false)
  else
    some (.next ())

def p_spec_l17Pairing_L1 (f1 : (List (List Int))) (n : Int) (m : Int) (k6 : Nat) : Option (Ctl (Unit) (Bool)) :=
  (idx f1 (k6 : Int)).bind fun x23 =>
  if (((x23).length : Int) != n) = true then
    some (.ret false)
  else
    (forN (fun k s => p_spec_l17Pairing_L2 x23 m k6 k ) (n).toNat 0 ()).bind fun res33 => onRes res33 (fun r122 => some (.ret r122)) fun _ =>
    some (.next ())

def p_spec_l17Pairing (n : Int) (m : Int) (f1 : (List (List Int))) : Option (Bool) :=
  if (((f1).length : Int) != n) = true then
    some false
  else
    (forN (fun k s => p_spec_l17Pairing_L1 f1 n m k ) (n).toNat 0 ()).bind fun res4 => onRes res4 (fun r141 => some r141) fun _ =>
    some true

def p_spec_l18Numbers (n : Int) (m : Int) (values : (List (List Int))) : Option (Bool) :=
  (p_spec_l17Pairing n m values).bind fun x1 =>
  some x1

def p_spec_l18Shape (b_Cocycle_Orders : (List Int)) (b_Cocycle_Modulus : Int) (b_Cocycle_Values : (List (List (List Int)))) (b_Values : (List (List Int))) : Option (Bool) :=
  (p_spec_l17Is b_Cocycle_Orders b_Cocycle_Modulus b_Cocycle_Values).bind fun x9 =>
  (if x9 = true then
    (p_spec_l18Numbers ((b_Cocycle_Values).length : Int) b_Cocycle_Modulus b_Values).bind fun x22 =>
    some x22
  else
    some false).bind fun (x16 : Bool) =>
  some x16

def p_spec_l18One (w_Orders : (List Int)) (w_Modulus : Int) (w_Values : (List (List (List Int)))) (c : (List (List Int))) (x : Int) (y : Int) (z : Int) : Option (Bool) :=
  (p_spec_l06Add w_Orders y z).bind fun x9 =>
  (idx w_Values y).bind fun x45 =>
  (idx x45 z).bind fun x84 =>
  (idx x84 x).bind fun x123 =>
  (idx c x).bind fun x169 =>
  (idx x169 x9).bind fun x208 =>
  (idx w_Values x).bind fun x270 =>
  (idx x270 y).bind fun x309 =>
  (idx x309 z).bind fun x348 =>
  (idx x169 z).bind fun x445 =>
  (idx x45 x).bind fun x542 =>
  (idx x542 z).bind fun x581 =>
  (idx x169 y).bind fun x678 =>
  (remI (w64 ((w64 ((w64 ((w64 ((w64 (x123 + x208)) + x348)) - x445)) - x581)) - x678)) w_Modulus).bind fun x741 =>
  some (x741 == (0 : Int))

def p_spec_l18Two (w_Orders : (List Int)) (w_Modulus : Int) (w_Values : (List (List (List Int)))) (c : (List (List Int))) (x : Int) (y : Int) (z : Int) : Option (Bool) :=
  (p_spec_l06Add w_Orders x y).bind fun x9 =>
  (idx c x9).bind fun x45 =>
  (idx x45 z).bind fun x84 =>
  (idx w_Values z).bind fun x130 =>
  (idx x130 x).bind fun x169 =>
  (idx x169 y).bind fun x208 =>
  (idx w_Values x).bind fun x270 =>
  (idx x270 y).bind fun x309 =>
  (idx x309 z).bind fun x348 =>
  (idx c x).bind fun x410 =>
  (idx x410 z).bind fun x449 =>
  (idx c y).bind fun x511 =>
  (idx x511 z).bind fun x550 =>
  (idx x270 z).bind fun x647 =>
  (idx x647 y).bind fun x686 =>
  (remI (w64 ((w64 ((w64 ((w64 ((w64 (x84 - x208)) - x348)) - x449)) - x550)) + x686)) w_Modulus).bind fun x749 =>
  some (x749 == (0 : Int))

def p_spec_l18Fault_L4 (x13 : Int) (w_Orders : (List Int)) (w_Modulus : Int) (w_Values : (List (List (List Int)))) (c : (List (List Int))) (k32 : Nat) (k52 : Nat) (k73 : Nat) : Option (Ctl (Unit) ((List Int))) :=
  (if (x13 == (1 : Int)) = true then
    (p_spec_l18One w_Orders w_Modulus w_Values c (k32 : Int) (k52 : Int) (k73 : Int)).bind fun x96 =>
    if (!x96) = true then
      some true
    else
      if (x13 == (2 : Int)) = true then
        (p_spec_l18Two w_Orders w_Modulus w_Values c (k32 : Int) (k52 : Int) (k73 : Int)).bind fun x104 =>
        some (!x104)
      else
        some false
  else
    if false = true then
      some true
    else
      if (x13 == (2 : Int)) = true then
        (p_spec_l18Two w_Orders w_Modulus w_Values c (k32 : Int) (k52 : Int) (k73 : Int)).bind fun x112 =>
        some (!x112)
      else
        some false).bind fun (x93 : Bool) =>
  if x93 = true then
    some (.ret ([x13, (k32 : Int), (k52 : Int), (k73 : Int)] : (List Int)))
  else
    some (.next ())

def p_spec_l18Fault_L3 (x13 : Int) (w_Orders : (List Int)) (w_Modulus : Int) (w_Values : (List (List (List Int)))) (c : (List (List Int))) (k32 : Nat) (k52 : Nat) : Option (Ctl (Unit) ((List Int))) :=
  (forN (fun k s => p_spec_l18Fault_L4 x13 w_Orders w_Modulus w_Values c k32 k52 k ) (c).length 0 ()).bind fun res71 => onRes res71 (fun r163 => some (.ret r163)) fun _ =>
  some (.next ())

def p_spec_l18Fault_L2 (x13 : Int) (w_Orders : (List Int)) (w_Modulus : Int) (w_Values : (List (List (List Int)))) (c : (List (List Int))) (k32 : Nat) : Option (Ctl (Unit) ((List Int))) :=
  (forN (fun k s => p_spec_l18Fault_L3 x13 w_Orders w_Modulus w_Values c k32 k ) (c).length 0 ()).bind fun res50 => onRes res50 (fun r189 => some (.ret r189)) fun _ =>
  some (.next ())

def p_spec_l18Fault_L1 (w_Orders : (List Int)) (w_Modulus : Int) (w_Values : (List (List (List Int)))) (c : (List (List Int))) (x13 : Int) : Option (Ctl (Int) ((List Int))) :=
  if (decide (x13 ≤ (2 : Int))) = true then
    (forN (fun k s => p_spec_l18Fault_L2 x13 w_Orders w_Modulus w_Values c k ) (c).length 0 ()).bind fun res30 => onRes res30 (fun r213 => some (.ret r213)) fun _ =>
    some (.next (w64 (x13 + (1 : Int))))
  else
    some (.brk x13)

def p_spec_l18Fault (w_Orders : (List Int)) (w_Modulus : Int) (w_Values : (List (List (List Int)))) (c : (List (List Int))) : Option ((List Int)) :=
  (whileC (fun s => p_spec_l18Fault_L1 w_Orders w_Modulus w_Values c s) (1 : Int)).bind fun res10 => onRes res10 (fun r221 => some r221) fun (x219 : Int) =>
  some ([] : (List Int))

def p_spec_l18Is (b_Cocycle_Orders : (List Int)) (b_Cocycle_Modulus : Int) (b_Cocycle_Values : (List (List (List Int)))) (b_Values : (List (List Int))) : Option (Bool) :=
  (p_spec_l18Shape b_Cocycle_Orders b_Cocycle_Modulus b_Cocycle_Values b_Values).bind fun x9 =>
  (if x9 = true then
    (p_spec_l18Fault b_Cocycle_Orders b_Cocycle_Modulus b_Cocycle_Values b_Values).bind fun x21 =>
    some (((x21).length : Int) == (0 : Int))
  else
    some false).bind fun (x16 : Bool) =>
  some x16

def p_spec_l09Orders_L1 (orders : (List Int)) (k15 : Nat) (x16 : Int) : Option (Ctl (Int) (Bool)) :=
  (idx orders (k15 : Int)).bind fun x35 =>
  (p_spec_l01In x35 (2 : Int) (16 : Int)).bind fun x42 =>
  if (!x42) = true then
    some (.ret false)
  else
    some (.next (w64 (x16 * x35)))

def p_spec_l09Orders (orders : (List Int)) (most : Int) : Option (Bool) :=
  if ((decide (((orders).length : Int) < (1 : Int))) || (decide (((orders).length : Int) > (4 : Int)))) = true then
    some false
  else
    (forN (fun k s => p_spec_l09Orders_L1 orders k s) (orders).length 0 (1 : Int)).bind fun res13 => onRes res13 (fun r78 => some r78) fun (x73 : Int) =>
    some (decide (x73 ≤ most))

def p_spec_l10Orders (orders : (List Int)) : Option (Bool) :=
  (p_spec_l09Orders orders (16 : Int)).bind fun x1 =>
  some x1

def p_spec_l01Divisor (n : Int) : Option (Bool) :=
  (if (decide (n ≥ (1 : Int))) = true then
    (remI (55440 : Int) n).bind fun x7 =>
    some (x7 == (0 : Int))
  else
    some false).bind fun (x2 : Bool) =>
  some x2

def p_spec_l01Own (list : (List Int)) : Option ((List Int)) :=
  (appL ([] : (List Int)) list).bind fun x5 =>
  some x5

def p_spec_FormOfBraiding_L1 (b_Values : (List (List Int))) (k167 : Nat) (x168 : (List Int)) : Option (Ctl ((List Int)) (Unit)) :=
  (idx b_Values (k167 : Int)).bind fun x243 =>
  (idx x243 (k167 : Int)).bind fun x282 =>
  (appL x168 ([x282] : (List Int))).bind fun x331 =>
  some (.next x331)

def p_spec_FormOfBraiding (b_Cocycle_Orders : (List Int)) (b_Cocycle_Modulus : Int) (b_Cocycle_Values : (List (List (List Int)))) (b_Values : (List (List Int))) : Option ((List Int) × Int × (List Int) × Int) :=
  (p_spec_l18Is b_Cocycle_Orders b_Cocycle_Modulus b_Cocycle_Values b_Values).bind fun x13 =>
  if (!x13) = true then
    some (([] : (List Int)), (0 : Int), ([] : (List Int)), (1 : Int))
  else
    (p_spec_l10Orders b_Cocycle_Orders).bind fun x25 =>
    (if (!x25) = true then
      some true
    else
      (p_spec_l01Divisor b_Cocycle_Modulus).bind fun x37 =>
      some (!x37)).bind fun (x32 : Bool) =>
    if x32 = true then
      some (([] : (List Int)), (0 : Int), ([] : (List Int)), (5 : Int))
    else
      (p_spec_l01Own b_Cocycle_Orders).bind fun x90 =>
      (forN (fun k s => p_spec_FormOfBraiding_L1 b_Values k s) (b_Values).length 0 ([] : (List Int))).bind fun res165 => onRes res165 (fun r366 => none) fun (x359 : (List Int)) =>
      some (x90, b_Cocycle_Modulus, x359, (0 : Int))

def p_impl_groupSize_L1 (orders : (List Int)) (k4 : Nat) (x5 : Int) : Option (Ctl (Int) (Int)) :=
  (idx orders (k4 : Int)).bind fun x24 =>
  if (decide (x24 < (1 : Int))) = true then
    some (.ret (0 : Int))
  else
    some (.next (if (w64 (x5 * (if (17 : Int) < x24 then (17 : Int) else x24))) < (17 : Int) then (w64 (x5 * (if (17 : Int) < x24 then (17 : Int) else x24))) else (17 : Int)))

def p_impl_groupSize (orders : (List Int)) : Option (Int) :=
  (forN (fun k s => p_impl_groupSize_L1 orders k s) (orders).length 0 (1 : Int)).bind fun res2 => onRes res2 (fun r61 => some r61) fun (x53 : Int) =>
  if (((orders).length : Int) == (0 : Int)) = true then
    some (0 : Int)
  else
    some x53

def p_impl_within (n : Int) (low : Int) (high : Int) : Option (Bool) :=
  some ((decide (n ≥ low)) && (decide (n ≤ high)))

def p_impl_isModulus (m : Int) : Option (Bool) :=
  (p_impl_within m (1 : Int) (1000 : Int)).bind fun x1 =>
  some x1

def p_impl_allWithin_c1 (n : Int) (c0 : Int) (c1 : Int) : Option (Bool) :=
  (p_impl_within n c0 c1).bind fun x1 =>
  some (!x1)

def p_slices_IndexFunc_Lint64_int64_L1 (s1 : (List Int)) (f1 : (Int → Option Bool)) (k4 : Nat) : Option (Ctl (Unit) (Int)) :=
  (idx s1 (k4 : Int)).bind fun x21 =>
  (f1 x21).bind fun x28 =>
  if x28 = true then
    some (.ret (k4 : Int))
  else
    some (.next ())

def p_slices_IndexFunc_Lint64_int64 (s1 : (List Int)) (f1 : Int → Option Bool) : Option (Int) :=
  (forN (fun k s => p_slices_IndexFunc_Lint64_int64_L1 s1 f1 k ) (s1).length 0 ()).bind fun res2 => onRes res2 (fun r54 => some r54) fun _ =>
  some (-1 : Int)

def p_slices_ContainsFunc_Lint64_int64 (s1 : (List Int)) (f1 : Int → Option Bool) : Option (Bool) :=
  (p_slices_IndexFunc_Lint64_int64 s1 f1).bind fun x1 =>
  some (decide (x1 ≥ (0 : Int)))

def p_impl_allWithin (list : (List Int)) (low : Int) (high : Int) : Option (Bool) :=
  (p_slices_ContainsFunc_Lint64_int64 list (fun a0_19 => p_impl_allWithin_c1 a0_19 low high)).bind fun x22 =>
  some (!x22)

def p_impl_isGrid_c1 (row : (List Int)) (c0 : Int) (c1 : Int) : Option (Bool) :=
  (if (((row).length : Int) != c0) = true then
    some true
  else
    (p_impl_allWithin row (0 : Int) (w64 (c1 - (1 : Int)))).bind fun x8 =>
    some (!x8)).bind fun (x3 : Bool) =>
  some x3

def p_slices_IndexFunc_LLint64_Lint64_L1 (s1 : (List (List Int))) (f1 : ((List Int) → Option Bool)) (k4 : Nat) : Option (Ctl (Unit) (Int)) :=
  (idx s1 (k4 : Int)).bind fun x21 =>
  (f1 x21).bind fun x28 =>
  if x28 = true then
    some (.ret (k4 : Int))
  else
    some (.next ())

def p_slices_IndexFunc_LLint64_Lint64 (s1 : (List (List Int))) (f1 : (List Int) → Option Bool) : Option (Int) :=
  (forN (fun k s => p_slices_IndexFunc_LLint64_Lint64_L1 s1 f1 k ) (s1).length 0 ()).bind fun res2 => onRes res2 (fun r54 => some r54) fun _ =>
  some (-1 : Int)

def p_slices_ContainsFunc_LLint64_Lint64 (s1 : (List (List Int))) (f1 : (List Int) → Option Bool) : Option (Bool) :=
  (p_slices_IndexFunc_LLint64_Lint64 s1 f1).bind fun x1 =>
  some (decide (x1 ≥ (0 : Int)))

def p_impl_isGrid (rows : (List (List Int))) (n : Int) (m : Int) : Option (Bool) :=
  (if (((rows).length : Int) == n) = true then
    (p_slices_ContainsFunc_LLint64_Lint64 rows (fun a0_26 => p_impl_isGrid_c1 a0_26 n m)).bind fun x29 =>
    some (!x29)
  else
    some false).bind fun (x20 : Bool) =>
  some x20

def p_impl_isCochain_c1 (rows : (List (List Int))) (c0 : Int) (c1_Orders : (List Int)) (c1_Modulus : Int) (c1_Values : (List (List (List Int)))) : Option (Bool) :=
  (p_impl_isGrid rows c0 c1_Modulus).bind fun x1 =>
  some (!x1)

def p_slices_IndexFunc_LLLint64_LLint64_L1 (s1 : (List (List (List Int)))) (f1 : ((List (List Int)) → Option Bool)) (k4 : Nat) : Option (Ctl (Unit) (Int)) :=
  (idx s1 (k4 : Int)).bind fun x21 =>
  (f1 x21).bind fun x28 =>
  if x28 = true then
    some (.ret (k4 : Int))
  else
    some (.next ())

def p_slices_IndexFunc_LLLint64_LLint64 (s1 : (List (List (List Int)))) (f1 : (List (List Int)) → Option Bool) : Option (Int) :=
  (forN (fun k s => p_slices_IndexFunc_LLLint64_LLint64_L1 s1 f1 k ) (s1).length 0 ()).bind fun res2 => onRes res2 (fun r54 => some r54) fun _ =>
  some (-1 : Int)

def p_slices_ContainsFunc_LLLint64_LLint64 (s1 : (List (List (List Int)))) (f1 : (List (List Int)) → Option Bool) : Option (Bool) :=
  (p_slices_IndexFunc_LLLint64_LLint64 s1 f1).bind fun x1 =>
  some (decide (x1 ≥ (0 : Int)))

def p_impl_isCochain (c_Orders : (List Int)) (c_Modulus : Int) (c_Values : (List (List (List Int)))) : Option (Bool) :=
  (p_impl_groupSize c_Orders).bind fun x9 =>
  (p_impl_within x9 (1 : Int) (8 : Int)).bind fun x22 =>
  (if (!x22) = true then
    some true
  else
    (p_impl_isModulus c_Modulus).bind fun x34 =>
    some (!x34)).bind fun (x29 : Bool) =>
  if (x29 || (((c_Values).length : Int) != x9)) = true then
    some false
  else
    (p_slices_ContainsFunc_LLLint64_LLint64 c_Values (fun a0_56 => p_impl_isCochain_c1 a0_56 x9 c_Orders c_Modulus c_Values)).bind fun x59 =>
    some (!x59)

def p_impl_Cocycle_isNormalised_L3 (x58 : (List Int)) (k12 : Nat) (k38 : Nat) (k68 : Nat) : Option (Ctl (Unit) (Bool)) :=
  (idx x58 (k68 : Int)).bind fun x92 =>
  (if (x92 != (0 : Int)) = true then
    if ((k12 : Int) == (0 : Int)) = true then
      if true = true then
        some true
      else
        some ((k68 : Int) == (0 : Int))
    else
      if ((k38 : Int) == (0 : Int)) = true then
        some true
      else
        some ((k68 : Int) == (0 : Int))
  else
    some false).bind fun (x99 : Bool) =>
  if x99 = true then
    some (.ret false)
  else
    some (.next ())

def p_impl_Cocycle_isNormalised_L2 (x28 : (List (List Int))) (k12 : Nat) (k38 : Nat) : Option (Ctl (Unit) (Bool)) :=
  (idx x28 (k38 : Int)).bind fun x58 =>
  (forN (fun k s => p_impl_Cocycle_isNormalised_L3 x58 k12 k38 k ) (x58).length 0 ()).bind fun res66 => onRes res66 (fun r155 => some (.ret r155)) fun _ =>
  some (.next ())

def p_impl_Cocycle_isNormalised_L1 (c_Values : (List (List (List Int)))) (k12 : Nat) : Option (Ctl (Unit) (Bool)) :=
  (idx c_Values (k12 : Int)).bind fun x28 =>
  (forN (fun k s => p_impl_Cocycle_isNormalised_L2 x28 k12 k ) (x28).length 0 ()).bind fun res36 => onRes res36 (fun r180 => some (.ret r180)) fun _ =>
  some (.next ())

def p_impl_Cocycle_isNormalised (c_Orders : (List Int)) (c_Modulus : Int) (c_Values : (List (List (List Int)))) : Option (Bool) :=
  (forN (fun k s => p_impl_Cocycle_isNormalised_L1 c_Values k ) (c_Values).length 0 ()).bind fun res10 => onRes res10 (fun r198 => some r198) fun _ =>
  some true

def p_slices_Backward_Lint64_int64_c1_L1 (c0 : (List Int)) (yield : (Int → Int → Option Bool)) (x5 : Int) : Option (Ctl (Int) (Unit)) :=
  if (decide (x5 ≥ (0 : Int))) = true then
    (idx c0 x5).bind fun x21 =>
    (yield x5 x21).bind fun x28 =>
    if (!x28) = true then
      some (.ret ())
    else
      some (.next (w64 (x5 - (1 : Int))))
  else
    some (.brk x5)

def p_slices_Backward_Lint64_int64_c1 (yield : Int → Int → Option Bool) (c0 : (List Int)) : Option (Unit) :=
  (whileC (fun s => p_slices_Backward_Lint64_int64_c1_L1 c0 yield s) (w64 (((c0).length : Int) - (1 : Int)))).bind fun res2 => onRes res2 (fun r43 => some r43) fun (x41 : Int) =>
  some ()

def p_impl_addElements_S (m : Int) (s : Int × Int × Int × Int) : Int × Int × Int × Int := (w64 (s.1.tdiv m), w64 (s.2.1.tdiv m), w64 (s.2.2.1 + (w64 ((w64 (s.1.tmod m + s.2.1.tmod m)).tmod m * s.2.2.2))), w64 (s.2.2.2 * m))
def p_impl_addElements (orders : List Int) (a : Int) (b : Int) : Option Int := if orders.all (fun m => m != 0) = true then some (orders.reverse.foldl (fun s m => p_impl_addElements_S m s) (a, b, 0, 1)).2.2.1 else none

def p_impl_Cocycle_plus (c_Orders : (List Int)) (c_Modulus : Int) (c_Values : (List (List (List Int)))) (x : Int) (y : Int) : Option (Int) :=
  (p_impl_addElements c_Orders x y).bind fun x9 =>
  some x9

def p_impl_Cocycle_rest (c_Orders : (List Int)) (c_Modulus : Int) (c_Values : (List (List (List Int)))) (n : Int) : Option (Int) :=
  (remI n c_Modulus).bind fun x49 =>
  (remI (w64 (x49 + c_Modulus)) c_Modulus).bind fun x116 =>
  some x116

def p_impl_Cocycle_fault_L4 (c_Values : (List (List (List Int)))) (k32 : Nat) (k55 : Nat) (c_Orders : (List Int)) (c_Modulus : Int) (k12 : Nat) (k81 : Nat) : Option (Ctl (Unit) ((List Int))) :=
  (idx c_Values (k32 : Int)).bind fun x136 =>
  (idx x136 (k55 : Int)).bind fun x175 =>
  (idx x175 (k81 : Int)).bind fun x214 =>
  (p_impl_Cocycle_plus c_Orders c_Modulus c_Values (k12 : Int) (k32 : Int)).bind fun x280 =>
  (idx c_Values x280).bind fun x301 =>
  (idx x301 (k55 : Int)).bind fun x340 =>
  (idx x340 (k81 : Int)).bind fun x379 =>
  (idx c_Values (k12 : Int)).bind fun x441 =>
  (p_impl_Cocycle_plus c_Orders c_Modulus c_Values (k32 : Int) (k55 : Int)).bind fun x500 =>
  (idx x441 x500).bind fun x521 =>
  (idx x521 (k81 : Int)).bind fun x560 =>
  (idx x441 (k32 : Int)).bind fun x657 =>
  (p_impl_Cocycle_plus c_Orders c_Modulus c_Values (k55 : Int) (k81 : Int)).bind fun x716 =>
  (idx x657 x716).bind fun x737 =>
  (idx x657 (k55 : Int)).bind fun x869 =>
  (p_impl_Cocycle_rest c_Orders c_Modulus c_Values (w64 ((w64 ((w64 ((w64 (x214 - x379)) + x560)) - x737)) + x869))).bind fun x913 =>
  if (x913 != (0 : Int)) = true then
    some (.ret ([(k12 : Int), (k32 : Int), (k55 : Int), (k81 : Int)] : (List Int)))
  else
    some (.next ())

def p_impl_Cocycle_fault_L3 (c_Values : (List (List (List Int)))) (k32 : Nat) (c_Orders : (List Int)) (c_Modulus : Int) (k12 : Nat) (k55 : Nat) : Option (Ctl (Unit) ((List Int))) :=
  (forN (fun k s => p_impl_Cocycle_fault_L4 c_Values k32 k55 c_Orders c_Modulus k12 k ) (c_Values).length 0 ()).bind fun res79 => onRes res79 (fun r963 => some (.ret r963)) fun _ =>
  some (.next ())

def p_impl_Cocycle_fault_L2 (c_Values : (List (List (List Int)))) (c_Orders : (List Int)) (c_Modulus : Int) (k12 : Nat) (k32 : Nat) : Option (Ctl (Unit) ((List Int))) :=
  (forN (fun k s => p_impl_Cocycle_fault_L3 c_Values k32 c_Orders c_Modulus k12 k ) (c_Values).length 0 ()).bind fun res53 => onRes res53 (fun r995 => some (.ret r995)) fun _ =>
  some (.next ())

def p_impl_Cocycle_fault_L1 (c_Values : (List (List (List Int)))) (c_Orders : (List Int)) (c_Modulus : Int) (k12 : Nat) : Option (Ctl (Unit) ((List Int))) :=
  (forN (fun k s => p_impl_Cocycle_fault_L2 c_Values c_Orders c_Modulus k12 k ) (c_Values).length 0 ()).bind fun res30 => onRes res30 (fun r1021 => some (.ret r1021)) fun _ =>
  some (.next ())

def p_impl_Cocycle_fault (c_Orders : (List Int)) (c_Modulus : Int) (c_Values : (List (List (List Int)))) : Option ((List Int)) :=
  (forN (fun k s => p_impl_Cocycle_fault_L1 c_Values c_Orders c_Modulus k ) (c_Values).length 0 ()).bind fun res10 => onRes res10 (fun r1040 => some r1040) fun _ =>
  some ([] : (List Int))

def p_impl_IsCocycle (c_Orders : (List Int)) (c_Modulus : Int) (c_Values : (List (List (List Int)))) : Option (Bool) :=
  (p_impl_isCochain c_Orders c_Modulus c_Values).bind fun x9 =>
  (if x9 = true then
    (p_impl_Cocycle_isNormalised c_Orders c_Modulus c_Values).bind fun x21 =>
    some x21
  else
    some false).bind fun (x16 : Bool) =>
  (if x16 = true then
    (p_impl_Cocycle_fault c_Orders c_Modulus c_Values).bind fun x36 =>
    some (x36).isEmpty
  else
    some false).bind fun (x31 : Bool) =>
  some x31

def p_impl_isPairing_L1 (f1 : (List (List Int))) (k12 : Nat) : Option (Ctl (Unit) (Bool)) :=
  (idx f1 (0 : Int)).bind fun x28 =>
  (idx x28 (k12 : Int)).bind fun x35 =>
  (if (x35 != (0 : Int)) = true then
    some true
  else
    (idx f1 (k12 : Int)).bind fun x48 =>
    (idx x48 (0 : Int)).bind fun x55 =>
    some (x55 != (0 : Int))).bind fun (x43 : Bool) =>
  if x43 = true then
    some (.ret false)
  else
    some (.next ())

def p_impl_isPairing (f1 : (List (List Int))) (n : Int) (m : Int) : Option (Bool) :=
  (p_impl_isGrid f1 n m).bind fun x1 =>
  if (!x1) = true then
    some false
  else
    (forN (fun k s => p_impl_isPairing_L1 f1 k ) (f1).length 0 ()).bind fun res10 => onRes res10 (fun r86 => some r86) fun _ =>
    some true

def p_impl_hasNumbers (b_Cocycle_Orders : (List Int)) (b_Cocycle_Modulus : Int) (b_Cocycle_Values : (List (List (List Int)))) (b_Values : (List (List Int))) : Option (Bool) :=
  (p_impl_IsCocycle b_Cocycle_Orders b_Cocycle_Modulus b_Cocycle_Values).bind fun x9 =>
  (if x9 = true then
    (p_impl_isPairing b_Values ((b_Cocycle_Values).length : Int) b_Cocycle_Modulus).bind fun x22 =>
    some x22
  else
    some false).bind fun (x16 : Bool) =>
  some x16

def p_impl_Braiding_holds (b_Cocycle_Orders : (List Int)) (b_Cocycle_Modulus : Int) (b_Cocycle_Values : (List (List (List Int)))) (b_Values : (List (List Int))) (equation : Int) (x : Int) (y : Int) (z : Int) : Option (Bool) :=
  if (equation == (1 : Int)) = true then
    (idx b_Cocycle_Values y).bind fun x156 =>
    (idx x156 z).bind fun x195 =>
    (idx x195 x).bind fun x234 =>
    (idx b_Values x).bind fun x280 =>
    (p_impl_Cocycle_plus b_Cocycle_Orders b_Cocycle_Modulus b_Cocycle_Values y z).bind fun x339 =>
    (idx x280 x339).bind fun x360 =>
    (idx b_Cocycle_Values x).bind fun x422 =>
    (idx x422 y).bind fun x461 =>
    (idx x461 z).bind fun x500 =>
    (p_impl_Cocycle_rest b_Cocycle_Orders b_Cocycle_Modulus b_Cocycle_Values (w64 ((w64 (x234 + x360)) + x500))).bind fun x549 =>
    (idx x280 z).bind fun x626 =>
    (idx x156 x).bind fun x707 =>
    (idx x707 z).bind fun x746 =>
    (idx x280 y).bind fun x843 =>
    (p_impl_Cocycle_rest b_Cocycle_Orders b_Cocycle_Modulus b_Cocycle_Values (w64 ((w64 (x626 + x746)) + x843))).bind fun x891 =>
    some (x549 == x891)
  else
    (p_impl_Cocycle_plus b_Cocycle_Orders b_Cocycle_Modulus b_Cocycle_Values x y).bind fun x954 =>
    (idx b_Values x954).bind fun x975 =>
    (idx x975 z).bind fun x1014 =>
    (idx b_Cocycle_Values z).bind fun x1060 =>
    (idx x1060 x).bind fun x1099 =>
    (idx x1099 y).bind fun x1138 =>
    (idx b_Cocycle_Values x).bind fun x1200 =>
    (idx x1200 y).bind fun x1239 =>
    (idx x1239 z).bind fun x1278 =>
    (p_impl_Cocycle_rest b_Cocycle_Orders b_Cocycle_Modulus b_Cocycle_Values (w64 ((w64 (x1014 - x1138)) - x1278))).bind fun x1327 =>
    (idx b_Values x).bind fun x1369 =>
    (idx x1369 z).bind fun x1408 =>
    (idx b_Values y).bind fun x1454 =>
    (idx x1454 z).bind fun x1493 =>
    (idx x1200 z).bind fun x1590 =>
    (idx x1590 y).bind fun x1629 =>
    (p_impl_Cocycle_rest b_Cocycle_Orders b_Cocycle_Modulus b_Cocycle_Values (w64 ((w64 (x1408 + x1493)) - x1629))).bind fun x1677 =>
    some (x1327 == x1677)

def p_impl_Braiding_fault_L4 (b_Cocycle_Orders : (List Int)) (b_Cocycle_Modulus : Int) (b_Cocycle_Values : (List (List (List Int)))) (b_Values : (List (List Int))) (x12 : Int) (k30 : Nat) (k50 : Nat) (k73 : Nat) : Option (Ctl (Unit) ((List Int))) :=
  (p_impl_Braiding_holds b_Cocycle_Orders b_Cocycle_Modulus b_Cocycle_Values b_Values x12 (k30 : Int) (k50 : Int) (k73 : Int)).bind fun x96 =>
  if (!x96) = true then
    some (.ret ([x12, (k30 : Int), (k50 : Int), (k73 : Int)] : (List Int)))
  else
    some (.next ())

def p_impl_Braiding_fault_L3 (b_Cocycle_Orders : (List Int)) (b_Cocycle_Modulus : Int) (b_Cocycle_Values : (List (List (List Int)))) (b_Values : (List (List Int))) (x12 : Int) (k30 : Nat) (k50 : Nat) : Option (Ctl (Unit) ((List Int))) :=
  (forN (fun k s => p_impl_Braiding_fault_L4 b_Cocycle_Orders b_Cocycle_Modulus b_Cocycle_Values b_Values x12 k30 k50 k ) (b_Values).length 0 ()).bind fun res71 => onRes res71 (fun r139 => some (.ret r139)) fun _ =>
  some (.next ())

def p_impl_Braiding_fault_L2 (b_Cocycle_Orders : (List Int)) (b_Cocycle_Modulus : Int) (b_Cocycle_Values : (List (List (List Int)))) (b_Values : (List (List Int))) (x12 : Int) (k30 : Nat) : Option (Ctl (Unit) ((List Int))) :=
  (forN (fun k s => p_impl_Braiding_fault_L3 b_Cocycle_Orders b_Cocycle_Modulus b_Cocycle_Values b_Values x12 k30 k ) (b_Values).length 0 ()).bind fun res48 => onRes res48 (fun r165 => some (.ret r165)) fun _ =>
  some (.next ())

def p_impl_Braiding_fault_L1 (b_Cocycle_Orders : (List Int)) (b_Cocycle_Modulus : Int) (b_Cocycle_Values : (List (List (List Int)))) (b_Values : (List (List Int))) (x12 : Int) : Option (Ctl (Int) ((List Int))) :=
  if (decide (x12 ≤ (2 : Int))) = true then
    (forN (fun k s => p_impl_Braiding_fault_L2 b_Cocycle_Orders b_Cocycle_Modulus b_Cocycle_Values b_Values x12 k ) (b_Values).length 0 ()).bind fun res28 => onRes res28 (fun r186 => some (.ret r186)) fun _ =>
    some (.next (w64 (x12 + (1 : Int))))
  else
    some (.brk x12)

def p_impl_Braiding_fault (b_Cocycle_Orders : (List Int)) (b_Cocycle_Modulus : Int) (b_Cocycle_Values : (List (List (List Int)))) (b_Values : (List (List Int))) : Option ((List Int)) :=
  (whileC (fun s => p_impl_Braiding_fault_L1 b_Cocycle_Orders b_Cocycle_Modulus b_Cocycle_Values b_Values s) (1 : Int)).bind fun res9 => onRes res9 (fun r194 => some r194) fun (x192 : Int) =>
  some ([] : (List Int))

def p_impl_IsBraiding (b_Cocycle_Orders : (List Int)) (b_Cocycle_Modulus : Int) (b_Cocycle_Values : (List (List (List Int)))) (b_Values : (List (List Int))) : Option (Bool) :=
  (p_impl_hasNumbers b_Cocycle_Orders b_Cocycle_Modulus b_Cocycle_Values b_Values).bind fun x9 =>
  (if x9 = true then
    (p_impl_Braiding_fault b_Cocycle_Orders b_Cocycle_Modulus b_Cocycle_Values b_Values).bind fun x21 =>
    some (x21).isEmpty
  else
    some false).bind fun (x16 : Bool) =>
  some x16

def p_impl_isGroup (orders : (List Int)) : Option (Bool) :=
  (if (decide (((orders).length : Int) ≤ (4 : Int))) = true then
    (p_impl_allWithin orders (2 : Int) (16 : Int)).bind fun x8 =>
    some x8
  else
    some false).bind fun (x3 : Bool) =>
  (if x3 = true then
    (p_impl_groupSize orders).bind fun x23 =>
    (p_impl_within x23 (2 : Int) (16 : Int)).bind fun x30 =>
    some x30
  else
    some false).bind fun (x18 : Bool) =>
  some x18

def p_impl_isOrder (n : Int) : Option (Bool) :=
  (if (decide (n ≥ (1 : Int))) = true then
    (remI (55440 : Int) n).bind fun x7 =>
    some (x7 == (0 : Int))
  else
    some false).bind fun (x2 : Bool) =>
  some x2

def p_slices_Clone_Lint64_int64 (s1 : (List Int)) : Option ((List Int)) :=
  (appL ([] : (List Int)) s1).bind fun x6 =>
  some x6

def p_impl_FormOfBraiding_L1 (b_Values : (List (List Int))) (k168 : Nat) (x169 : (List Int)) : Option (Ctl ((List Int)) (Unit)) :=
  (idx b_Values (k168 : Int)).bind fun x188 =>
  (idx x188 (k168 : Int)).bind fun x241 =>
  (appL x169 ([x241] : (List Int))).bind fun x291 =>
  some (.next x291)

def p_impl_FormOfBraiding (b_Cocycle_Orders : (List Int)) (b_Cocycle_Modulus : Int) (b_Cocycle_Values : (List (List (List Int)))) (b_Values : (List (List Int))) : Option ((List Int) × Int × (List Int) × Int) :=
  (p_impl_IsBraiding b_Cocycle_Orders b_Cocycle_Modulus b_Cocycle_Values b_Values).bind fun x13 =>
  if (!x13) = true then
    some (([] : (List Int)), (0 : Int), ([] : (List Int)), (1 : Int))
  else
    (p_impl_isGroup b_Cocycle_Orders).bind fun x25 =>
    (if (!x25) = true then
      some true
    else
      (p_impl_isOrder b_Cocycle_Modulus).bind fun x37 =>
      some (!x37)).bind fun (x32 : Bool) =>
    if x32 = true then
      some (([] : (List Int)), (0 : Int), ([] : (List Int)), (5 : Int))
    else
      (p_slices_Clone_Lint64_int64 b_Cocycle_Orders).bind fun x90 =>
      (forN (fun k s => p_impl_FormOfBraiding_L1 b_Values k s) (b_Values).length 0 ([] : (List Int))).bind fun res166 => onRes res166 (fun r326 => none) fun (x319 : (List Int)) =>
      some (x90, b_Cocycle_Modulus, x319, (0 : Int))

def p_laws_eqInt64S_L1 (a : (List Int)) (b : (List Int)) (k7 : Nat) : Option (Ctl (Unit) (Bool)) :=
  (idx a (k7 : Int)).bind fun x53 =>
  (idx b (k7 : Int)).bind fun x99 =>
  if (x53 != x99) = true then
    some (.ret false)
  else
    some (.next ())

def p_laws_eqInt64S (a : (List Int)) (b : (List Int)) : Option (Bool) :=
  if (((a).length : Int) != ((b).length : Int)) = true then
    some false
  else
    (forN (fun k s => p_laws_eqInt64S_L1 a b k ) (a).length 0 ()).bind fun res5 => onRes res5 (fun r152 => some r152) fun _ =>
    some true

def p_laws_eqMetric (a_Orders : (List Int)) (a_Modulus : Int) (a_Values : (List Int)) (b_Orders : (List Int)) (b_Modulus : Int) (b_Values : (List Int)) : Option (Bool) :=
  (p_laws_eqInt64S a_Orders b_Orders).bind fun x18 =>
  if (!x18) = true then
    some false
  else
    if (a_Modulus != b_Modulus) = true then
      some false
    else
      (p_laws_eqInt64S a_Values b_Values).bind fun x28 =>
      if (!x28) = true then
        some false
      else
        some true

def p_laws_eqInt64SS_L1 (a : (List (List Int))) (b : (List (List Int))) (k7 : Nat) : Option (Ctl (Unit) (Bool)) :=
  (idx a (k7 : Int)).bind fun x53 =>
  (idx b (k7 : Int)).bind fun x99 =>
  (p_laws_eqInt64S x53 x99).bind fun x130 =>
  if (!x130) = true then
    some (.ret false)
  else
    some (.next ())

def p_laws_eqInt64SS (a : (List (List Int))) (b : (List (List Int))) : Option (Bool) :=
  if (((a).length : Int) != ((b).length : Int)) = true then
    some false
  else
    (forN (fun k s => p_laws_eqInt64SS_L1 a b k ) (a).length 0 ()).bind fun res5 => onRes res5 (fun r156 => some r156) fun _ =>
    some true

def p_laws_eqInt64SSS_L1 (a : (List (List (List Int)))) (b : (List (List (List Int)))) (k7 : Nat) : Option (Ctl (Unit) (Bool)) :=
  (idx a (k7 : Int)).bind fun x53 =>
  (idx b (k7 : Int)).bind fun x99 =>
  (p_laws_eqInt64SS x53 x99).bind fun x130 =>
  if (!x130) = true then
    some (.ret false)
  else
    some (.next ())

def p_laws_eqInt64SSS (a : (List (List (List Int)))) (b : (List (List (List Int)))) : Option (Bool) :=
  if (((a).length : Int) != ((b).length : Int)) = true then
    some false
  else
    (forN (fun k s => p_laws_eqInt64SSS_L1 a b k ) (a).length 0 ()).bind fun res5 => onRes res5 (fun r156 => some r156) fun _ =>
    some true

def p_laws_eqCocycle (a_Orders : (List Int)) (a_Modulus : Int) (a_Values : (List (List (List Int)))) (b_Orders : (List Int)) (b_Modulus : Int) (b_Values : (List (List (List Int)))) : Option (Bool) :=
  (p_laws_eqInt64S a_Orders b_Orders).bind fun x18 =>
  if (!x18) = true then
    some false
  else
    if (a_Modulus != b_Modulus) = true then
      some false
    else
      (p_laws_eqInt64SSS a_Values b_Values).bind fun x28 =>
      if (!x28) = true then
        some false
      else
        some true

def p_laws_eqBraiding (a_Cocycle_Orders : (List Int)) (a_Cocycle_Modulus : Int) (a_Cocycle_Values : (List (List (List Int)))) (a_Values : (List (List Int))) (b_Cocycle_Orders : (List Int)) (b_Cocycle_Modulus : Int) (b_Cocycle_Values : (List (List (List Int)))) (b_Values : (List (List Int))) : Option (Bool) :=
  (p_laws_eqCocycle a_Cocycle_Orders a_Cocycle_Modulus a_Cocycle_Values b_Cocycle_Orders b_Cocycle_Modulus b_Cocycle_Values).bind fun x18 =>
  if (!x18) = true then
    some false
  else
    (p_laws_eqInt64SS a_Values b_Values).bind fun x26 =>
    if (!x26) = true then
      some false
    else
      some true

def p_laws_markInt64S_L1  (k3 : Nat) (x4 : (List Int)) (x5 : Int) : Option (Ctl ((List Int) × Int) (Unit)) :=
  (idx x4 (k3 : Int)).bind fun x24 =>
  some (.next (((x4).set ((k3 : Int)).toNat x5), (w64 (x5 + (1 : Int)))))

def p_laws_markInt64S (a : (List Int)) (k1 : Int) : Option (Int × (List Int)) :=
  (forN (fun k s => p_laws_markInt64S_L1  k s.1 s.2) (a).length 0 (a, k1)).bind fun res1 => onRes res1 (fun r57 => none) fun (s50p : (List Int) × Int) =>
  some (s50p.2, s50p.1)

def p_laws_markInt64SS_L1  (k3 : Nat) (x4 : (List (List Int))) (x5 : Int) : Option (Ctl ((List (List Int)) × Int) (Unit)) :=
  (idx x4 (k3 : Int)).bind fun x24 =>
  (p_laws_markInt64S x24 x5).bind fun x32 =>
  some (.next (((x4).set ((k3 : Int)).toNat x32.2), x32.1))

def p_laws_markInt64SS (a : (List (List Int))) (k1 : Int) : Option (Int × (List (List Int))) :=
  (forN (fun k s => p_laws_markInt64SS_L1  k s.1 s.2) (a).length 0 (a, k1)).bind fun res1 => onRes res1 (fun r67 => none) fun (s60p : (List (List Int)) × Int) =>
  some (s60p.2, s60p.1)

def p_laws_markInt64SSS_L1  (k3 : Nat) (x4 : (List (List (List Int)))) (x5 : Int) : Option (Ctl ((List (List (List Int))) × Int) (Unit)) :=
  (idx x4 (k3 : Int)).bind fun x24 =>
  (p_laws_markInt64SS x24 x5).bind fun x32 =>
  some (.next (((x4).set ((k3 : Int)).toNat x32.2), x32.1))

def p_laws_markInt64SSS (a : (List (List (List Int)))) (k1 : Int) : Option (Int × (List (List (List Int)))) :=
  (forN (fun k s => p_laws_markInt64SSS_L1  k s.1 s.2) (a).length 0 (a, k1)).bind fun res1 => onRes res1 (fun r67 => none) fun (s60p : (List (List (List Int))) × Int) =>
  some (s60p.2, s60p.1)

def p_laws_markCocycle (a_Orders : (List Int)) (a_Modulus : Int) (a_Values : (List (List (List Int)))) (k1 : Int) : Option (Int × (List Int) × (List (List (List Int)))) :=
  (p_laws_markInt64S a_Orders k1).bind fun x6 =>
  (p_laws_markInt64SSS a_Values x6.1).bind fun x13 =>
  some (x13.1, x6.2, x13.2)

def p_laws_markBraiding (a_Cocycle_Orders : (List Int)) (a_Cocycle_Modulus : Int) (a_Cocycle_Values : (List (List (List Int)))) (a_Values : (List (List Int))) (k1 : Int) : Option (Int × (List Int) × (List (List (List Int))) × (List (List Int))) :=
  (p_laws_markCocycle a_Cocycle_Orders a_Cocycle_Modulus a_Cocycle_Values k1).bind fun x6 =>
  (p_laws_markInt64SS a_Values x6.1).bind fun x13 =>
  some (x13.1, x6.2.1, x6.2.2, x13.2)

def p_laws_markMetric (a_Orders : (List Int)) (a_Modulus : Int) (a_Values : (List Int)) (k1 : Int) : Option (Int × (List Int) × (List Int)) :=
  (p_laws_markInt64S a_Orders k1).bind fun x6 =>
  (p_laws_markInt64S a_Values x6.1).bind fun x13 =>
  some (x13.1, x6.2, x13.2)

def p_laws_heldInt64S_L1 (a : (List Int)) (k3 : Nat) (x4 : Int) : Option (Ctl (Int) (Int)) :=
  (idx a (k3 : Int)).bind fun x22 =>
  if (x22 != x4) = true then
    some (.ret (-1 : Int))
  else
    some (.next (w64 (x4 + (1 : Int))))

def p_laws_heldInt64S (a : (List Int)) (k1 : Int) : Option (Int) :=
  (forN (fun k s => p_laws_heldInt64S_L1 a k s) (a).length 0 k1).bind fun res1 => onRes res1 (fun r54 => some r54) fun (x50 : Int) =>
  some x50

def p_laws_heldMetric (a_Orders : (List Int)) (a_Modulus : Int) (a_Values : (List Int)) (k1 : Int) : Option (Int) :=
  (p_laws_heldInt64S a_Orders k1).bind fun x9 =>
  if (decide (x9 < (0 : Int))) = true then
    some (-1 : Int)
  else
    (p_laws_heldInt64S a_Values x9).bind fun x18 =>
    if (decide (x18 < (0 : Int))) = true then
      some (-1 : Int)
    else
      some x18

def p_laws_FnExactFormOfBraiding (aB_Cocycle_Orders : (List Int)) (aB_Cocycle_Modulus : Int) (aB_Cocycle_Values : (List (List (List Int)))) (aB_Values : (List (List Int))) : Option (Bool) :=
  (p_laws_szBraiding aB_Cocycle_Orders aB_Cocycle_Modulus aB_Cocycle_Values aB_Values (1048576 : Int)).bind fun x9 =>
  if (decide (x9 < (0 : Int))) = true then
    some true
  else
    (p_laws_toBraiding aB_Cocycle_Orders aB_Cocycle_Modulus aB_Cocycle_Values aB_Values).bind fun x18 =>
    (p_spec_FormOfBraiding x18.1 x18.2.1 x18.2.2.1 x18.2.2.2).bind fun x34 =>
    (p_laws_toBraiding aB_Cocycle_Orders aB_Cocycle_Modulus aB_Cocycle_Values aB_Values).bind fun x50 =>
    (p_impl_FormOfBraiding x50.1 x50.2.1 x50.2.2.1 x50.2.2.2).bind fun x66 =>
    (p_laws_eqMetric x66.1 x66.2.1 x66.2.2.1 x34.1 x34.2.1 x34.2.2.1).bind fun x82 =>
    if ((!x82) || (x66.2.2.2 != x34.2.2.2)) = true then
      some false
    else
      (p_laws_toBraiding aB_Cocycle_Orders aB_Cocycle_Modulus aB_Cocycle_Values aB_Values).bind fun x127 =>
      (p_laws_eqBraiding x50.1 x50.2.1 x50.2.2.1 x50.2.2.2 x127.1 x127.2.1 x127.2.2.1 x127.2.2.2).bind fun x159 =>
      if (!x159) = true then
        some false
      else
        (p_laws_markBraiding x50.1 x50.2.1 x50.2.2.1 x50.2.2.2 (1 : Int)).bind fun x167 =>
        (if (decide (x167.1 < (0 : Int))) = true then
          some true
        else
          (p_laws_eqMetric x66.1 x66.2.1 x66.2.2.1 x34.1 x34.2.1 x34.2.2.1).bind fun x180 =>
          some (!x180)).bind fun (x175 : Bool) =>
        if (x175 || (x66.2.2.2 != x34.2.2.2)) = true then
          some false
        else
          (p_laws_markMetric x66.1 x66.2.1 x66.2.2.1 (1 : Int)).bind fun x205 =>
          (p_laws_heldMetric x205.2.1 x66.2.1 x205.2.2 (1 : Int)).bind fun x212 =>
          if (decide (x212 < (0 : Int))) = true then
            some false
          else
            if (x212 != x205.1) = true then
              some false
            else
              (p_laws_toBraiding aB_Cocycle_Orders aB_Cocycle_Modulus aB_Cocycle_Values aB_Values).bind fun x223 =>
              (p_impl_FormOfBraiding x223.1 x223.2.1 x223.2.2.1 x223.2.2.2).bind fun x233 =>
              (p_laws_eqMetric x233.1 x233.2.1 x233.2.2.1 x34.1 x34.2.1 x34.2.2.1).bind fun x249 =>
              if ((!x249) || (x233.2.2.2 != x34.2.2.2)) = true then
                some false
              else
                (p_laws_heldMetric x205.2.1 x66.2.1 x205.2.2 (1 : Int)).bind fun x265 =>
                if (decide (x265 < (0 : Int))) = true then
                  some false
                else
                  if (x265 != x205.1) = true then
                    some false
                  else
                    some true

def p_spec_l01Own2_L1 (lists : (List (List Int))) (k7 : Nat) (x8 : (List (List Int))) : Option (Ctl ((List (List Int))) (Unit)) :=
  (idx lists (k7 : Int)).bind fun x26 =>
  (p_spec_l01Own x26).bind fun x33 =>
  (appL x8 [x33]).bind fun x46 =>
  some (.next x46)

def p_spec_l01Own2 (lists : (List (List Int))) : Option ((List (List Int))) :=
  (forN (fun k s => p_spec_l01Own2_L1 lists k s) (lists).length 0 ([] : (List (List Int)))).bind fun res5 => onRes res5 (fun r75 => none) fun (x71 : (List (List Int))) =>
  some x71

end
end Go.VG
