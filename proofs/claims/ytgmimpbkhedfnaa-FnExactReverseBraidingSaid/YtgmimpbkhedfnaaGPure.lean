/- The functions' plain twins, as a program of ours printed them. No proof. -/
import Derived.Test.YtgmimpbkhedfnaaVgPure
set_option linter.all false
namespace Go.VG
noncomputable section

def p_laws_szInt64S (a : (List Int)) (left : Int) : Option (Int) :=
  if (decide ((w64 (left - ((a).length : Int))) < (0 : Int))) = true then
    some (-1 : Int)
  else
    some (w64 (left - ((a).length : Int)))

def p_laws_szInt64SS_L1 (a : (List (List Int))) (k6 : Nat) (x7 : Int) : Option (Ctl (Int) (Int)) :=
  (idx a (k6 : Int)).bind fun x25 =>
  (p_laws_szInt64S x25 x7).bind fun x32 =>
  if (decide (x32 < (0 : Int))) = true then
    some (.ret (-1 : Int))
  else
    some (.next x32)

def p_laws_szInt64SS (a : (List (List Int))) (left : Int) : Option (Int) :=
  if (decide ((w64 (left - ((a).length : Int))) < (0 : Int))) = true then
    some (-1 : Int)
  else
    (forN (fun k s => p_laws_szInt64SS_L1 a k s) (a).length 0 (w64 (left - ((a).length : Int)))).bind fun res4 => onRes res4 (fun r64 => some r64) fun (x60 : Int) =>
    some x60

def p_laws_szInt64SSS_L1 (a : (List (List (List Int)))) (k6 : Nat) (x7 : Int) : Option (Ctl (Int) (Int)) :=
  (idx a (k6 : Int)).bind fun x25 =>
  (p_laws_szInt64SS x25 x7).bind fun x32 =>
  if (decide (x32 < (0 : Int))) = true then
    some (.ret (-1 : Int))
  else
    some (.next x32)

def p_laws_szInt64SSS (a : (List (List (List Int)))) (left : Int) : Option (Int) :=
  if (decide ((w64 (left - ((a).length : Int))) < (0 : Int))) = true then
    some (-1 : Int)
  else
    (forN (fun k s => p_laws_szInt64SSS_L1 a k s) (a).length 0 (w64 (left - ((a).length : Int)))).bind fun res4 => onRes res4 (fun r64 => some r64) fun (x60 : Int) =>
    some x60

def p_laws_szCocycle (a_Orders : (List Int)) (a_Modulus : Int) (a_Values : (List (List (List Int)))) (left : Int) : Option (Int) :=
  (p_laws_szInt64S a_Orders left).bind fun x9 =>
  if (decide (x9 < (0 : Int))) = true then
    some (-1 : Int)
  else
    (p_laws_szInt64SSS a_Values x9).bind fun x18 =>
    if (decide (x18 < (0 : Int))) = true then
      some (-1 : Int)
    else
      some x18

def p_laws_szBraiding (a_Cocycle_Orders : (List Int)) (a_Cocycle_Modulus : Int) (a_Cocycle_Values : (List (List (List Int)))) (a_Values : (List (List Int))) (left : Int) : Option (Int) :=
  (p_laws_szCocycle a_Cocycle_Orders a_Cocycle_Modulus a_Cocycle_Values left).bind fun x9 =>
  if (decide (x9 < (0 : Int))) = true then
    some (-1 : Int)
  else
    (p_laws_szInt64SS a_Values x9).bind fun x18 =>
    if (decide (x18 < (0 : Int))) = true then
      some (-1 : Int)
    else
      some x18

def p_laws_toInt64S_L1 (a : (List Int)) (k10 : Nat) (x11 : (List Int)) : Option (Ctl ((List Int)) (Unit)) :=
  (idx a (k10 : Int)).bind fun x28 =>
  (idx x11 (k10 : Int)).bind fun x35 =>
  some (.next ((x11).set ((k10 : Int)).toNat x28))

def p_laws_toInt64S (a : (List Int)) : Option ((List Int)) :=
  (mkL ((a).length : Int) (0 : Int)).bind fun x2 =>
  (forN (fun k s => p_laws_toInt64S_L1 a k s) (a).length 0 x2).bind fun res8 => onRes res8 (fun r62 => none) fun (x59 : (List Int)) =>
  some x59

def p_laws_toInt64SS_L1 (a : (List (List Int))) (k10 : Nat) (x11 : (List (List Int))) : Option (Ctl ((List (List Int))) (Unit)) :=
  (idx a (k10 : Int)).bind fun x28 =>
  (p_laws_toInt64S x28).bind fun x35 =>
  (idx x11 (k10 : Int)).bind fun x42 =>
  some (.next ((x11).set ((k10 : Int)).toNat x35))

def p_laws_toInt64SS (a : (List (List Int))) : Option ((List (List Int))) :=
  (mkL ((a).length : Int) ([] : (List Int))).bind fun x2 =>
  (forN (fun k s => p_laws_toInt64SS_L1 a k s) (a).length 0 x2).bind fun res8 => onRes res8 (fun r69 => none) fun (x66 : (List (List Int))) =>
  some x66

def p_laws_toInt64SSS_L1 (a : (List (List (List Int)))) (k10 : Nat) (x11 : (List (List (List Int)))) : Option (Ctl ((List (List (List Int)))) (Unit)) :=
  (idx a (k10 : Int)).bind fun x28 =>
  (p_laws_toInt64SS x28).bind fun x35 =>
  (idx x11 (k10 : Int)).bind fun x42 =>
  some (.next ((x11).set ((k10 : Int)).toNat x35))

def p_laws_toInt64SSS (a : (List (List (List Int)))) : Option ((List (List (List Int)))) :=
  (mkL ((a).length : Int) ([] : (List (List Int)))).bind fun x2 =>
  (forN (fun k s => p_laws_toInt64SSS_L1 a k s) (a).length 0 x2).bind fun res8 => onRes res8 (fun r69 => none) fun (x66 : (List (List (List Int)))) =>
  some x66

def p_laws_toCocycle (a_Orders : (List Int)) (a_Modulus : Int) (a_Values : (List (List (List Int)))) : Option ((List Int) × Int × (List (List (List Int)))) :=
  (p_laws_toInt64S a_Orders).bind fun x17 =>
  (p_laws_toInt64SSS a_Values).bind fun x28 =>
  some (x17, a_Modulus, x28)

def p_laws_toBraiding (a_Cocycle_Orders : (List Int)) (a_Cocycle_Modulus : Int) (a_Cocycle_Values : (List (List (List Int)))) (a_Values : (List (List Int))) : Option ((List Int) × Int × (List (List (List Int))) × (List (List Int))) :=
  (p_laws_toCocycle a_Cocycle_Orders a_Cocycle_Modulus a_Cocycle_Values).bind fun x17 =>
  (p_laws_toInt64SS a_Values).bind fun x28 =>
  some (x17.1, x17.2.1, x17.2.2, x28)

def p_spec_l06Orders_L1 (orders : (List Int)) (k3 : Nat) : Option (Ctl (Unit) (Bool)) :=
  (idx orders (k3 : Int)).bind fun x19 =>
  if (decide (x19 < (1 : Int))) = true then
    some (.ret false)
  else
    some (.next ())

def p_spec_l06Orders (orders : (List Int)) : Option (Bool) :=
  (forN (fun k s => p_spec_l06Orders_L1 orders k ) (orders).length 0 ()).bind fun res1 => onRes res1 (fun r47 => some r47) fun _ =>
  some (decide (((orders).length : Int) > (0 : Int)))

def p_spec_l01In (n : Int) (low : Int) (high : Int) : Option (Bool) :=
  some ((decide (n ≥ low)) && (decide (n ≤ high)))

def p_spec_l06Size_L1 (orders : (List Int)) (limit : Int) (k3 : Nat) (x4 : Int) : Option (Ctl (Int) (Int)) :=
  (idx orders (k3 : Int)).bind fun x23 =>
  if (decide (x23 > limit)) = true then
    some (.ret (w64 (limit + (1 : Int))))
  else
    if (decide ((w64 (x4 * x23)) > limit)) = true then
      some (.ret (w64 (limit + (1 : Int))))
    else
      some (.next (w64 (x4 * x23)))

def p_spec_l06Size (orders : (List Int)) (limit : Int) : Option (Int) :=
  (forN (fun k s => p_spec_l06Size_L1 orders limit k s) (orders).length 0 (1 : Int)).bind fun res1 => onRes res1 (fun r61 => some r61) fun (x57 : Int) =>
  some x57

def p_spec_l17Size (orders : (List Int)) : Option (Int) :=
  (p_spec_l06Size orders (8 : Int)).bind fun x1 =>
  some x1

def p_spec_l17Shape_L3 (x100 : (List Int)) (c_Modulus : Int) (k112 : Nat) : Option (Ctl (Unit) (Bool)) :=
  (idx x100 (k112 : Int)).bind fun x239 =>
  (p_spec_l01In x239 (0 : Int) (w64 (c_Modulus - (1 : Int)))).bind fun x302 =>
  if (!x302) = true then
    some (.ret false)
  else
    some (.next ())

def p_spec_l17Shape_L2 (x68 : (List (List Int))) (x32 : Int) (c_Modulus : Int) (k80 : Nat) : Option (Ctl (Unit) (Bool)) :=
  (idx x68 (k80 : Int)).bind fun x100 =>
  if (((x100).length : Int) != x32) = true then
    some (.ret false)
  else
    (forN (fun k s => p_spec_l17Shape_L3 x100 c_Modulus k ) (x32).toNat 0 ()).bind fun res110 => onRes res110 (fun r333 => some (.ret r333)) fun _ =>
    some (.next ())

def p_spec_l17Shape_L1 (c_Values : (List (List (List Int)))) (x32 : Int) (c_Modulus : Int) (k52 : Nat) : Option (Ctl (Unit) (Bool)) :=
  (idx c_Values (k52 : Int)).bind fun x68 =>
  if (((x68).length : Int) != x32) = true then
    some (.ret false)
  else
    (forN (fun k s => p_spec_l17Shape_L2 x68 x32 c_Modulus k ) (x32).toNat 0 ()).bind fun res78 => onRes res78 (fun r355 => some (.ret r355)) fun _ =>
    some (.next ())

def p_spec_l17Shape (c_Orders : (List Int)) (c_Modulus : Int) (c_Values : (List (List (List Int)))) : Option (Bool) :=
  (p_spec_l06Orders c_Orders).bind fun x9 =>
  (if (!x9) = true then
    some true
  else
    (p_spec_l01In c_Modulus (1 : Int) (1000 : Int)).bind fun x21 =>
    some (!x21)).bind fun (x16 : Bool) =>
  if x16 = true then
    some false
  else
    (p_spec_l17Size c_Orders).bind fun x32 =>
    if ((decide (x32 > (8 : Int))) || (((c_Values).length : Int) != x32)) = true then
      some false
    else
      (forN (fun k s => p_spec_l17Shape_L1 c_Values x32 c_Modulus k ) (x32).toNat 0 ()).bind fun res50 => onRes res50 (fun r373 => some r373) fun _ =>
      some true

def p_spec_l17Normal_L2 (c_Values : (List (List (List Int)))) (k12 : Nat) (k30 : Nat) : Option (Ctl (Unit) (Bool)) :=
  (idx c_Values (0 : Int)).bind fun x47 =>
  (idx x47 (k12 : Int)).bind fun x54 =>
  (idx x54 (k30 : Int)).bind fun x61 =>
  (if (x61 != (0 : Int)) = true then
    some true
  else
    (idx c_Values (k12 : Int)).bind fun x74 =>
    (idx x74 (0 : Int)).bind fun x81 =>
    (idx x81 (k30 : Int)).bind fun x88 =>
    some (x88 != (0 : Int))).bind fun (x69 : Bool) =>
  (if x69 = true then
    some true
  else
    (idx c_Values (k12 : Int)).bind fun x107 =>
    (idx x107 (k30 : Int)).bind fun x114 =>
    (idx x114 (0 : Int)).bind fun x121 =>
    some (x121 != (0 : Int))).bind fun (x102 : Bool) =>
  if x102 = true then
    some (.ret false)
  else
    some (.next ())

def p_spec_l17Normal_L1 (c_Values : (List (List (List Int)))) (k12 : Nat) : Option (Ctl (Unit) (Bool)) :=
  (forN (fun k s => p_spec_l17Normal_L2 c_Values k12 k ) (c_Values).length 0 ()).bind fun res28 => onRes res28 (fun r157 => some (.ret r157)) fun _ =>
  some (.next ())

def p_spec_l17Normal (c_Orders : (List Int)) (c_Modulus : Int) (c_Values : (List (List (List Int)))) : Option (Bool) :=
  (forN (fun k s => p_spec_l17Normal_L1 c_Values k ) (c_Values).length 0 ()).bind fun res10 => onRes res10 (fun r175 => some r175) fun _ =>
  some true

def p_spec_l06Add_L1 (orders : (List Int)) (x5 : Int) (x6 : Int) (x7 : Int) (x8 : Int) (x9 : Int) : Option (Ctl (Int × Int × Int × Int × Int) (Unit)) :=
  if (decide (x9 ≥ (0 : Int))) = true then
    (idx orders x9).bind fun x75 =>
    (remI x5 x75).bind fun x108 =>
    (remI x6 x75).bind fun x177 =>
    (remI (w64 (x108 + x177)) x75).bind fun x255 =>
    (quoI .i64 x5 x75).bind fun x306 =>
    (quoI .i64 x6 x75).bind fun x313 =>
    some (.next (x306, x313, (w64 (x7 + (w64 (x255 * x8)))), (w64 (x8 * x75)), (w64 (x9 - (1 : Int)))))
  else
    some (.brk (x5, x6, x7, x8, x9))

def p_spec_l06Add (orders : (List Int)) (x : Int) (y : Int) : Option (Int) :=
  (whileC (fun s => p_spec_l06Add_L1 orders s.1 s.2.1 s.2.2.1 s.2.2.2.1 s.2.2.2.2) (x, y, (0 : Int), (1 : Int), (w64 (((orders).length : Int) - (1 : Int))))).bind fun res2 => onRes res2 (fun r330 => none) fun (s321p : Int × Int × Int × Int × Int) =>
  some s321p.2.2.1

def p_spec_l17Fault_L4 (c_Orders : (List Int)) (k80 : Nat) (k99 : Nat) (k119 : Nat) (c_Values : (List (List (List Int)))) (c_Modulus : Int) (k140 : Nat) : Option (Ctl (Unit) ((List Int))) :=
  (p_spec_l06Add c_Orders (k80 : Int) (k99 : Int)).bind fun x211 =>
  (p_spec_l06Add c_Orders (k99 : Int) (k119 : Int)).bind fun x268 =>
  (p_spec_l06Add c_Orders (k119 : Int) (k140 : Int)).bind fun x330 =>
  (idx c_Values (k99 : Int)).bind fun x366 =>
  (idx x366 (k119 : Int)).bind fun x405 =>
  (idx x405 (k140 : Int)).bind fun x444 =>
  (idx c_Values x211).bind fun x490 =>
  (idx x490 (k119 : Int)).bind fun x529 =>
  (idx x529 (k140 : Int)).bind fun x568 =>
  (idx c_Values (k80 : Int)).bind fun x630 =>
  (idx x630 x268).bind fun x669 =>
  (idx x669 (k140 : Int)).bind fun x708 =>
  (idx x630 (k99 : Int)).bind fun x805 =>
  (idx x805 x330).bind fun x844 =>
  (idx x805 (k119 : Int)).bind fun x976 =>
  (remI (w64 ((w64 ((w64 ((w64 (x444 - x568)) + x708)) - x844)) + x976)) c_Modulus).bind fun x1046 =>
  if (x1046 != (0 : Int)) = true then
    some (.ret ([(k80 : Int), (k99 : Int), (k119 : Int), (k140 : Int)] : (List Int)))
  else
    some (.next ())

def p_spec_l17Fault_L3 (c_Orders : (List Int)) (k80 : Nat) (k99 : Nat) (c_Values : (List (List (List Int)))) (c_Modulus : Int) (k119 : Nat) : Option (Ctl (Unit) ((List Int))) :=
  (forN (fun k s => p_spec_l17Fault_L4 c_Orders k80 k99 k119 c_Values c_Modulus k ) (((c_Values).length : Int)).toNat 0 ()).bind fun res138 => onRes res138 (fun r1083 => some (.ret r1083)) fun _ =>
  some (.next ())

def p_spec_l17Fault_L2 (c_Orders : (List Int)) (k80 : Nat) (c_Values : (List (List (List Int)))) (c_Modulus : Int) (k99 : Nat) : Option (Ctl (Unit) ((List Int))) :=
  (forN (fun k s => p_spec_l17Fault_L3 c_Orders k80 k99 c_Values c_Modulus k ) (((c_Values).length : Int)).toNat 0 ()).bind fun res117 => onRes res117 (fun r1109 => some (.ret r1109)) fun _ =>
  some (.next ())

def p_spec_l17Fault_L1 (c_Orders : (List Int)) (c_Values : (List (List (List Int)))) (c_Modulus : Int) (k80 : Nat) : Option (Ctl (Unit) ((List Int))) :=
  (forN (fun k s => p_spec_l17Fault_L2 c_Orders k80 c_Values c_Modulus k ) (((c_Values).length : Int)).toNat 0 ()).bind fun res97 => onRes res97 (fun r1133 => some (.ret r1133)) fun _ =>
  some (.next ())

def p_spec_l17Fault (c_Orders : (List Int)) (c_Modulus : Int) (c_Values : (List (List (List Int)))) : Option ((List Int)) :=
  (forN (fun k s => p_spec_l17Fault_L1 c_Orders c_Values c_Modulus k ) (((c_Values).length : Int)).toNat 0 ()).bind fun res78 => onRes res78 (fun r1152 => some r1152) fun _ =>
  some ([] : (List Int))

def p_spec_l17Is (c_Orders : (List Int)) (c_Modulus : Int) (c_Values : (List (List (List Int)))) : Option (Bool) :=
  (p_spec_l17Shape c_Orders c_Modulus c_Values).bind fun x9 =>
  (if x9 = true then
    (p_spec_l17Normal c_Orders c_Modulus c_Values).bind fun x21 =>
    some x21
  else
    some false).bind fun (x16 : Bool) =>
  (if x16 = true then
    (p_spec_l17Fault c_Orders c_Modulus c_Values).bind fun x36 =>
    some (((x36).length : Int) == (0 : Int))
  else
    some false).bind fun (x31 : Bool) =>
  some x31

def p_spec_l17Pairing_L2 (x23 : (List Int)) (m : Int) (k6 : Nat) (k35 : Nat) : Option (Ctl (Unit) (Bool)) :=
  ((idx x23 (k35 : Int)).bind fun x58 =>
  (p_spec_l01In x58 (0 : Int) (w64 (m - (1 : Int)))).bind fun x65 =>
  if (!x65) = true then
    some true
  else
    if ((k6 : Int) == (0 : Int)) = true then
      if true = true then
        some (x58 != (0 : Int))
      else
        some false
    else
      if ((k35 : Int) == (0 : Int)) = true then
        some (x58 != (0 : Int))
      else
        some false).bind fun (x53 : Bool) =>
  if x53 = true then
    some (.ret false)
  else
    some (.next ())

def p_spec_l17Pairing_L1 (f1 : (List (List Int))) (n : Int) (m : Int) (k6 : Nat) : Option (Ctl (Unit) (Bool)) :=
  (idx f1 (k6 : Int)).bind fun x23 =>
  if (((x23).length : Int) != n) = true then
    some (.ret false)
  else
    (forN (fun k s => p_spec_l17Pairing_L2 x23 m k6 k ) (n).toNat 0 ()).bind fun res33 => onRes res33 (fun r122 => some (.ret r122)) fun _ =>
    some (.next ())

def p_spec_l17Pairing (n : Int) (m : Int) (f1 : (List (List Int))) : Option (Bool) :=
  if (((f1).length : Int) != n) = true then
    some false
  else
    (forN (fun k s => p_spec_l17Pairing_L1 f1 n m k ) (n).toNat 0 ()).bind fun res4 => onRes res4 (fun r141 => some r141) fun _ =>
    some true

def p_spec_l18Numbers (n : Int) (m : Int) (values : (List (List Int))) : Option (Bool) :=
  (p_spec_l17Pairing n m values).bind fun x1 =>
  some x1

def p_spec_l18Shape (b_Cocycle_Orders : (List Int)) (b_Cocycle_Modulus : Int) (b_Cocycle_Values : (List (List (List Int)))) (b_Values : (List (List Int))) : Option (Bool) :=
  (p_spec_l17Is b_Cocycle_Orders b_Cocycle_Modulus b_Cocycle_Values).bind fun x9 =>
  (if x9 = true then
    (p_spec_l18Numbers ((b_Cocycle_Values).length : Int) b_Cocycle_Modulus b_Values).bind fun x22 =>
    some x22
  else
    some false).bind fun (x16 : Bool) =>
  some x16

def p_spec_l18One (w_Orders : (List Int)) (w_Modulus : Int) (w_Values : (List (List (List Int)))) (c : (List (List Int))) (x : Int) (y : Int) (z : Int) : Option (Bool) :=
  (p_spec_l06Add w_Orders y z).bind fun x9 =>
  (idx w_Values y).bind fun x45 =>
  (idx x45 z).bind fun x84 =>
  (idx x84 x).bind fun x123 =>
  (idx c x).bind fun x169 =>
  (idx x169 x9).bind fun x208 =>
  (idx w_Values x).bind fun x270 =>
  (idx x270 y).bind fun x309 =>
  (idx x309 z).bind fun x348 =>
  (idx x169 z).bind fun x445 =>
  (idx x45 x).bind fun x542 =>
  (idx x542 z).bind fun x581 =>
  (idx x169 y).bind fun x678 =>
  (remI (w64 ((w64 ((w64 ((w64 ((w64 (x123 + x208)) + x348)) - x445)) - x581)) - x678)) w_Modulus).bind fun x741 =>
  some (x741 == (0 : Int))

def p_spec_l18Two (w_Orders : (List Int)) (w_Modulus : Int) (w_Values : (List (List (List Int)))) (c : (List (List Int))) (x : Int) (y : Int) (z : Int) : Option (Bool) :=
  (p_spec_l06Add w_Orders x y).bind fun x9 =>
  (idx c x9).bind fun x45 =>
  (idx x45 z).bind fun x84 =>
  (idx w_Values z).bind fun x130 =>
  (idx x130 x).bind fun x169 =>
  (idx x169 y).bind fun x208 =>
  (idx w_Values x).bind fun x270 =>
  (idx x270 y).bind fun x309 =>
  (idx x309 z).bind fun x348 =>
  (idx c x).bind fun x410 =>
  (idx x410 z).bind fun x449 =>
  (idx c y).bind fun x511 =>
  (idx x511 z).bind fun x550 =>
  (idx x270 z).bind fun x647 =>
  (idx x647 y).bind fun x686 =>
  (remI (w64 ((w64 ((w64 ((w64 ((w64 (x84 - x208)) - x348)) - x449)) - x550)) + x686)) w_Modulus).bind fun x749 =>
  some (x749 == (0 : Int))

def p_spec_l18Fault_L4 (x13 : Int) (w_Orders : (List Int)) (w_Modulus : Int) (w_Values : (List (List (List Int)))) (c : (List (List Int))) (k32 : Nat) (k52 : Nat) (k73 : Nat) : Option (Ctl (Unit) ((List Int))) :=
  (if (x13 == (1 : Int)) = true then
    (p_spec_l18One w_Orders w_Modulus w_Values c (k32 : Int) (k52 : Int) (k73 : Int)).bind fun x96 =>
    if (!x96) = true then
      some true
    else
      if (x13 == (2 : Int)) = true then
        (p_spec_l18Two w_Orders w_Modulus w_Values c (k32 : Int) (k52 : Int) (k73 : Int)).bind fun x104 =>
        some (!x104)
      else
        some false
  else
    if false = true then
      some true
    else
      if (x13 == (2 : Int)) = true then
        (p_spec_l18Two w_Orders w_Modulus w_Values c (k32 : Int) (k52 : Int) (k73 : Int)).bind fun x112 =>
        some (!x112)
      else
        some false).bind fun (x93 : Bool) =>
  if x93 = true then
    some (.ret ([x13, (k32 : Int), (k52 : Int), (k73 : Int)] : (List Int)))
  else
    some (.next ())

def p_spec_l18Fault_L3 (x13 : Int) (w_Orders : (List Int)) (w_Modulus : Int) (w_Values : (List (List (List Int)))) (c : (List (List Int))) (k32 : Nat) (k52 : Nat) : Option (Ctl (Unit) ((List Int))) :=
  (forN (fun k s => p_spec_l18Fault_L4 x13 w_Orders w_Modulus w_Values c k32 k52 k ) (c).length 0 ()).bind fun res71 => onRes res71 (fun r163 => some (.ret r163)) fun _ =>
  some (.next ())

def p_spec_l18Fault_L2 (x13 : Int) (w_Orders : (List Int)) (w_Modulus : Int) (w_Values : (List (List (List Int)))) (c : (List (List Int))) (k32 : Nat) : Option (Ctl (Unit) ((List Int))) :=
  (forN (fun k s => p_spec_l18Fault_L3 x13 w_Orders w_Modulus w_Values c k32 k ) (c).length 0 ()).bind fun res50 => onRes res50 (fun r189 => some (.ret r189)) fun _ =>
  some (.next ())

def p_spec_l18Fault_L1 (w_Orders : (List Int)) (w_Modulus : Int) (w_Values : (List (List (List Int)))) (c : (List (List Int))) (x13 : Int) : Option (Ctl (Int) ((List Int))) :=
  if (decide (x13 ≤ (2 : Int))) = true then
    (forN (fun k s => p_spec_l18Fault_L2 x13 w_Orders w_Modulus w_Values c k ) (c).length 0 ()).bind fun res30 => onRes res30 (fun r213 => some (.ret r213)) fun _ =>
    some (.next (w64 (x13 + (1 : Int))))
  else
    some (.brk x13)

def p_spec_l18Fault (w_Orders : (List Int)) (w_Modulus : Int) (w_Values : (List (List (List Int)))) (c : (List (List Int))) : Option ((List Int)) :=
  (whileC (fun s => p_spec_l18Fault_L1 w_Orders w_Modulus w_Values c s) (1 : Int)).bind fun res10 => onRes res10 (fun r221 => some r221) fun (x219 : Int) =>
  some ([] : (List Int))

def p_spec_l18Is (b_Cocycle_Orders : (List Int)) (b_Cocycle_Modulus : Int) (b_Cocycle_Values : (List (List (List Int)))) (b_Values : (List (List Int))) : Option (Bool) :=
  (p_spec_l18Shape b_Cocycle_Orders b_Cocycle_Modulus b_Cocycle_Values b_Values).bind fun x9 =>
  (if x9 = true then
    (p_spec_l18Fault b_Cocycle_Orders b_Cocycle_Modulus b_Cocycle_Values b_Values).bind fun x21 =>
    some (((x21).length : Int) == (0 : Int))
  else
    some false).bind fun (x16 : Bool) =>
  some x16

def p_spec_l01Own (list : (List Int)) : Option ((List Int)) :=
  (appL ([] : (List Int)) list).bind fun x5 =>
  some x5

def p_impl_groupSize_L1 (orders : (List Int)) (k4 : Nat) (x5 : Int) : Option (Ctl (Int) (Int)) :=
  (idx orders (k4 : Int)).bind fun x24 =>
  if (decide (x24 < (1 : Int))) = true then
    some (.ret (0 : Int))
  else
    some (.next (if (w64 (x5 * (if (17 : Int) < x24 then (17 : Int) else x24))) < (17 : Int) then (w64 (x5 * (if (17 : Int) < x24 then (17 : Int) else x24))) else (17 : Int)))

def p_impl_groupSize (orders : (List Int)) : Option (Int) :=
  (forN (fun k s => p_impl_groupSize_L1 orders k s) (orders).length 0 (1 : Int)).bind fun res2 => onRes res2 (fun r61 => some r61) fun (x53 : Int) =>
  if (((orders).length : Int) == (0 : Int)) = true then
    some (0 : Int)
  else
    some x53

def p_impl_within (n : Int) (low : Int) (high : Int) : Option (Bool) :=
  some ((decide (n ≥ low)) && (decide (n ≤ high)))

def p_impl_isModulus (m : Int) : Option (Bool) :=
  (p_impl_within m (1 : Int) (1000 : Int)).bind fun x1 =>
  some x1

def p_impl_allWithin_c1 (n : Int) (c0 : Int) (c1 : Int) : Option (Bool) :=
  (p_impl_within n c0 c1).bind fun x1 =>
  some (!x1)

def p_slices_IndexFunc_Lint64_int64_L1 (s1 : (List Int)) (f1 : (Int → Option Bool)) (k4 : Nat) : Option (Ctl (Unit) (Int)) :=
  (idx s1 (k4 : Int)).bind fun x21 =>
  (f1 x21).bind fun x28 =>
  if x28 = true then
    some (.ret (k4 : Int))
  else
    some (.next ())

def p_slices_IndexFunc_Lint64_int64 (s1 : (List Int)) (f1 : Int → Option Bool) : Option (Int) :=
  (forN (fun k s => p_slices_IndexFunc_Lint64_int64_L1 s1 f1 k ) (s1).length 0 ()).bind fun res2 => onRes res2 (fun r54 => some r54) fun _ =>
  some (-1 : Int)

def p_slices_ContainsFunc_Lint64_int64 (s1 : (List Int)) (f1 : Int → Option Bool) : Option (Bool) :=
  (p_slices_IndexFunc_Lint64_int64 s1 f1).bind fun x1 =>
  some (decide (x1 ≥ (0 : Int)))

def p_impl_allWithin (list : (List Int)) (low : Int) (high : Int) : Option (Bool) :=
  (p_slices_ContainsFunc_Lint64_int64 list (fun a0_19 => p_impl_allWithin_c1 a0_19 low high)).bind fun x22 =>
  some (!x22)

def p_impl_isGrid_c1 (row : (List Int)) (c0 : Int) (c1 : Int) : Option (Bool) :=
  (if (((row).length : Int) != c0) = true then
    some true
  else
    (p_impl_allWithin row (0 : Int) (w64 (c1 - (1 : Int)))).bind fun x8 =>
    some (!x8)).bind fun (x3 : Bool) =>
  some x3

def p_slices_IndexFunc_LLint64_Lint64_L1 (s1 : (List (List Int))) (f1 : ((List Int) → Option Bool)) (k4 : Nat) : Option (Ctl (Unit) (Int)) :=
  (idx s1 (k4 : Int)).bind fun x21 =>
  (f1 x21).bind fun x28 =>
  if x28 = true then
    some (.ret (k4 : Int))
  else
    some (.next ())

def p_slices_IndexFunc_LLint64_Lint64 (s1 : (List (List Int))) (f1 : (List Int) → Option Bool) : Option (Int) :=
  (forN (fun k s => p_slices_IndexFunc_LLint64_Lint64_L1 s1 f1 k ) (s1).length 0 ()).bind fun res2 => onRes res2 (fun r54 => some r54) fun _ =>
  some (-1 : Int)

def p_slices_ContainsFunc_LLint64_Lint64 (s1 : (List (List Int))) (f1 : (List Int) → Option Bool) : Option (Bool) :=
  (p_slices_IndexFunc_LLint64_Lint64 s1 f1).bind fun x1 =>
  some (decide (x1 ≥ (0 : Int)))

def p_impl_isGrid (rows : (List (List Int))) (n : Int) (m : Int) : Option (Bool) :=
  (if (((rows).length : Int) == n) = true then
    (p_slices_ContainsFunc_LLint64_Lint64 rows (fun a0_26 => p_impl_isGrid_c1 a0_26 n m)).bind fun x29 =>
    some (!x29)
  else
    some false).bind fun (x20 : Bool) =>
  some x20

def p_impl_isCochain_c1 (rows : (List (List Int))) (c0 : Int) (c1_Orders : (List Int)) (c1_Modulus : Int) (c1_Values : (List (List (List Int)))) : Option (Bool) :=
  (p_impl_isGrid rows c0 c1_Modulus).bind fun x1 =>
  some (!x1)

def p_slices_IndexFunc_LLLint64_LLint64_L1 (s1 : (List (List (List Int)))) (f1 : ((List (List Int)) → Option Bool)) (k4 : Nat) : Option (Ctl (Unit) (Int)) :=
  (idx s1 (k4 : Int)).bind fun x21 =>
  (f1 x21).bind fun x28 =>
  if x28 = true then
    some (.ret (k4 : Int))
  else
    some (.next ())

def p_slices_IndexFunc_LLLint64_LLint64 (s1 : (List (List (List Int)))) (f1 : (List (List Int)) → Option Bool) : Option (Int) :=
  (forN (fun k s => p_slices_IndexFunc_LLLint64_LLint64_L1 s1 f1 k ) (s1).length 0 ()).bind fun res2 => onRes res2 (fun r54 => some r54) fun _ =>
  some (-1 : Int)

def p_slices_ContainsFunc_LLLint64_LLint64 (s1 : (List (List (List Int)))) (f1 : (List (List Int)) → Option Bool) : Option (Bool) :=
  (p_slices_IndexFunc_LLLint64_LLint64 s1 f1).bind fun x1 =>
  some (decide (x1 ≥ (0 : Int)))

def p_impl_isCochain (c_Orders : (List Int)) (c_Modulus : Int) (c_Values : (List (List (List Int)))) : Option (Bool) :=
  (p_impl_groupSize c_Orders).bind fun x9 =>
  (p_impl_within x9 (1 : Int) (8 : Int)).bind fun x22 =>
  (if (!x22) = true then
    some true
  else
    (p_impl_isModulus c_Modulus).bind fun x34 =>
    some (!x34)).bind fun (x29 : Bool) =>
  if (x29 || (((c_Values).length : Int) != x9)) = true then
    some false
  else
    (p_slices_ContainsFunc_LLLint64_LLint64 c_Values (fun a0_56 => p_impl_isCochain_c1 a0_56 x9 c_Orders c_Modulus c_Values)).bind fun x59 =>
    some (!x59)

def p_impl_Cocycle_isNormalised_L3 (x58 : (List Int)) (k12 : Nat) (k38 : Nat) (k68 : Nat) : Option (Ctl (Unit) (Bool)) :=
  (idx x58 (k68 : Int)).bind fun x92 =>
  (if (x92 != (0 : Int)) = true then
    if ((k12 : Int) == (0 : Int)) = true then
      if true = true then
        some true
      else
        some ((k68 : Int) == (0 : Int))
    else
      if ((k38 : Int) == (0 : Int)) = true then
        some true
      else
        some ((k68 : Int) == (0 : Int))
  else
    some false).bind fun (x99 : Bool) =>
  if x99 = true then
    some (.ret false)
  else
    some (.next ())

def p_impl_Cocycle_isNormalised_L2 (x28 : (List (List Int))) (k12 : Nat) (k38 : Nat) : Option (Ctl (Unit) (Bool)) :=
  (idx x28 (k38 : Int)).bind fun x58 =>
  (forN (fun k s => p_impl_Cocycle_isNormalised_L3 x58 k12 k38 k ) (x58).length 0 ()).bind fun res66 => onRes res66 (fun r155 => some (.ret r155)) fun _ =>
  some (.next ())

def p_impl_Cocycle_isNormalised_L1 (c_Values : (List (List (List Int)))) (k12 : Nat) : Option (Ctl (Unit) (Bool)) :=
  (idx c_Values (k12 : Int)).bind fun x28 =>
  (forN (fun k s => p_impl_Cocycle_isNormalised_L2 x28 k12 k ) (x28).length 0 ()).bind fun res36 => onRes res36 (fun r180 => some (.ret r180)) fun _ =>
  some (.next ())

def p_impl_Cocycle_isNormalised (c_Orders : (List Int)) (c_Modulus : Int) (c_Values : (List (List (List Int)))) : Option (Bool) :=
  (forN (fun k s => p_impl_Cocycle_isNormalised_L1 c_Values k ) (c_Values).length 0 ()).bind fun res10 => onRes res10 (fun r198 => some r198) fun _ =>
  some true

def p_slices_Backward_Lint64_int64_c1_L1 (c0 : (List Int)) (yield : (Int → Int → Option Bool)) (x5 : Int) : Option (Ctl (Int) (Unit)) :=
  if (decide (x5 ≥ (0 : Int))) = true then
    (idx c0 x5).bind fun x21 =>
    (yield x5 x21).bind fun x28 =>
    if (!x28) = true then
      some (.ret ())
    else
      some (.next (w64 (x5 - (1 : Int))))
  else
    some (.brk x5)

def p_slices_Backward_Lint64_int64_c1 (yield : Int → Int → Option Bool) (c0 : (List Int)) : Option (Unit) :=
  (whileC (fun s => p_slices_Backward_Lint64_int64_c1_L1 c0 yield s) (w64 (((c0).length : Int) - (1 : Int)))).bind fun res2 => onRes res2 (fun r43 => some r43) fun (x41 : Int) =>
  some ()

def p_impl_addElements_S (m : Int) (s : Int × Int × Int × Int) : Int × Int × Int × Int := (w64 (s.1.tdiv m), w64 (s.2.1.tdiv m), w64 (s.2.2.1 + (w64 ((w64 (s.1.tmod m + s.2.1.tmod m)).tmod m * s.2.2.2))), w64 (s.2.2.2 * m))
def p_impl_addElements (orders : List Int) (a : Int) (b : Int) : Option Int := if orders.all (fun m => m != 0) = true then some (orders.reverse.foldl (fun s m => p_impl_addElements_S m s) (a, b, 0, 1)).2.2.1 else none

def p_impl_Cocycle_plus (c_Orders : (List Int)) (c_Modulus : Int) (c_Values : (List (List (List Int)))) (x : Int) (y : Int) : Option (Int) :=
  (p_impl_addElements c_Orders x y).bind fun x9 =>
  some x9

def p_impl_Cocycle_rest (c_Orders : (List Int)) (c_Modulus : Int) (c_Values : (List (List (List Int)))) (n : Int) : Option (Int) :=
  (remI n c_Modulus).bind fun x49 =>
  (remI (w64 (x49 + c_Modulus)) c_Modulus).bind fun x116 =>
  some x116

def p_impl_Cocycle_fault_L4 (c_Values : (List (List (List Int)))) (k32 : Nat) (k55 : Nat) (c_Orders : (List Int)) (c_Modulus : Int) (k12 : Nat) (k81 : Nat) : Option (Ctl (Unit) ((List Int))) :=
  (idx c_Values (k32 : Int)).bind fun x136 =>
  (idx x136 (k55 : Int)).bind fun x175 =>
  (idx x175 (k81 : Int)).bind fun x214 =>
  (p_impl_Cocycle_plus c_Orders c_Modulus c_Values (k12 : Int) (k32 : Int)).bind fun x280 =>
  (idx c_Values x280).bind fun x301 =>
  (idx x301 (k55 : Int)).bind fun x340 =>
  (idx x340 (k81 : Int)).bind fun x379 =>
  (idx c_Values (k12 : Int)).bind fun x441 =>
  (p_impl_Cocycle_plus c_Orders c_Modulus c_Values (k32 : Int) (k55 : Int)).bind fun x500 =>
  (idx x441 x500).bind fun x521 =>
  (idx x521 (k81 : Int)).bind fun x560 =>
  (idx x441 (k32 : Int)).bind fun x657 =>
  (p_impl_Cocycle_plus c_Orders c_Modulus c_Values (k55 : Int) (k81 : Int)).bind fun x716 =>
  (idx x657 x716).bind fun x737 =>
  (idx x657 (k55 : Int)).bind fun x869 =>
  (p_impl_Cocycle_rest c_Orders c_Modulus c_Values (w64 ((w64 ((w64 ((w64 (x214 - x379)) + x560)) - x737)) + x869))).bind fun x913 =>
  if (x913 != (0 : Int)) = true then
    some (.ret ([(k12 : Int), (k32 : Int), (k55 : Int), (k81 : Int)] : (List Int)))
  else
    some (.next ())

def p_impl_Cocycle_fault_L3 (c_Values : (List (List (List Int)))) (k32 : Nat) (c_Orders : (List Int)) (c_Modulus : Int) (k12 : Nat) (k55 : Nat) : Option (Ctl (Unit) ((List Int))) :=
  (forN (fun k s => p_impl_Cocycle_fault_L4 c_Values k32 k55 c_Orders c_Modulus k12 k ) (c_Values).length 0 ()).bind fun res79 => onRes res79 (fun r963 => some (.ret r963)) fun _ =>
  some (.next ())

def p_impl_Cocycle_fault_L2 (c_Values : (List (List (List Int)))) (c_Orders : (List Int)) (c_Modulus : Int) (k12 : Nat) (k32 : Nat) : Option (Ctl (Unit) ((List Int))) :=
  (forN (fun k s => p_impl_Cocycle_fault_L3 c_Values k32 c_Orders c_Modulus k12 k ) (c_Values).length 0 ()).bind fun res53 => onRes res53 (fun r995 => some (.ret r995)) fun _ =>
  some (.next ())

def p_impl_Cocycle_fault_L1 (c_Values : (List (List (List Int)))) (c_Orders : (List Int)) (c_Modulus : Int) (k12 : Nat) : Option (Ctl (Unit) ((List Int))) :=
  (forN (fun k s => p_impl_Cocycle_fault_L2 c_Values c_Orders c_Modulus k12 k ) (c_Values).length 0 ()).bind fun res30 => onRes res30 (fun r1021 => some (.ret r1021)) fun _ =>
  some (.next ())

def p_impl_Cocycle_fault (c_Orders : (List Int)) (c_Modulus : Int) (c_Values : (List (List (List Int)))) : Option ((List Int)) :=
  (forN (fun k s => p_impl_Cocycle_fault_L1 c_Values c_Orders c_Modulus k ) (c_Values).length 0 ()).bind fun res10 => onRes res10 (fun r1040 => some r1040) fun _ =>
  some ([] : (List Int))

def p_impl_IsCocycle (c_Orders : (List Int)) (c_Modulus : Int) (c_Values : (List (List (List Int)))) : Option (Bool) :=
  (p_impl_isCochain c_Orders c_Modulus c_Values).bind fun x9 =>
  (if x9 = true then
    (p_impl_Cocycle_isNormalised c_Orders c_Modulus c_Values).bind fun x21 =>
    some x21
  else
    some false).bind fun (x16 : Bool) =>
  (if x16 = true then
    (p_impl_Cocycle_fault c_Orders c_Modulus c_Values).bind fun x36 =>
    some (x36).isEmpty
  else
    some false).bind fun (x31 : Bool) =>
  some x31

def p_impl_isPairing_L1 (f1 : (List (List Int))) (k12 : Nat) : Option (Ctl (Unit) (Bool)) :=
  (idx f1 (0 : Int)).bind fun x28 =>
  (idx x28 (k12 : Int)).bind fun x35 =>
  (if (x35 != (0 : Int)) = true then
    some true
  else
    (idx f1 (k12 : Int)).bind fun x48 =>
    (idx x48 (0 : Int)).bind fun x55 =>
    some (x55 != (0 : Int))).bind fun (x43 : Bool) =>
  if x43 = true then
    some (.ret false)
  else
    some (.next ())

def p_impl_isPairing (f1 : (List (List Int))) (n : Int) (m : Int) : Option (Bool) :=
  (p_impl_isGrid f1 n m).bind fun x1 =>
  if (!x1) = true then
    some false
  else
    (forN (fun k s => p_impl_isPairing_L1 f1 k ) (f1).length 0 ()).bind fun res10 => onRes res10 (fun r86 => some r86) fun _ =>
    some true

def p_impl_hasNumbers (b_Cocycle_Orders : (List Int)) (b_Cocycle_Modulus : Int) (b_Cocycle_Values : (List (List (List Int)))) (b_Values : (List (List Int))) : Option (Bool) :=
  (p_impl_IsCocycle b_Cocycle_Orders b_Cocycle_Modulus b_Cocycle_Values).bind fun x9 =>
  (if x9 = true then
    (p_impl_isPairing b_Values ((b_Cocycle_Values).length : Int) b_Cocycle_Modulus).bind fun x22 =>
    some x22
  else
    some false).bind fun (x16 : Bool) =>
  some x16

def p_impl_Braiding_holds (b_Cocycle_Orders : (List Int)) (b_Cocycle_Modulus : Int) (b_Cocycle_Values : (List (List (List Int)))) (b_Values : (List (List Int))) (equation : Int) (x : Int) (y : Int) (z : Int) : Option (Bool) :=
  if (equation == (1 : Int)) = true then
    (idx b_Cocycle_Values y).bind fun x156 =>
    (idx x156 z).bind fun x195 =>
    (idx x195 x).bind fun x234 =>
    (idx b_Values x).bind fun x280 =>
    (p_impl_Cocycle_plus b_Cocycle_Orders b_Cocycle_Modulus b_Cocycle_Values y z).bind fun x339 =>
    (idx x280 x339).bind fun x360 =>
    (idx b_Cocycle_Values x).bind fun x422 =>
    (idx x422 y).bind fun x461 =>
    (idx x461 z).bind fun x500 =>
    (p_impl_Cocycle_rest b_Cocycle_Orders b_Cocycle_Modulus b_Cocycle_Values (w64 ((w64 (x234 + x360)) + x500))).bind fun x549 =>
    (idx x280 z).bind fun x626 =>
    (idx x156 x).bind fun x707 =>
    (idx x707 z).bind fun x746 =>
    (idx x280 y).bind fun x843 =>
    (p_impl_Cocycle_rest b_Cocycle_Orders b_Cocycle_Modulus b_Cocycle_Values (w64 ((w64 (x626 + x746)) + x843))).bind fun x891 =>
    some (x549 == x891)
  else
    (p_impl_Cocycle_plus b_Cocycle_Orders b_Cocycle_Modulus b_Cocycle_Values x y).bind fun x954 =>
    (idx b_Values x954).bind fun x975 =>
    (idx x975 z).bind fun x1014 =>
    (idx b_Cocycle_Values z).bind fun x1060 =>
    (idx x1060 x).bind fun x1099 =>
    (idx x1099 y).bind fun x1138 =>
    (idx b_Cocycle_Values x).bind fun x1200 =>
    (idx x1200 y).bind fun x1239 =>
    (idx x1239 z).bind fun x1278 =>
    (p_impl_Cocycle_rest b_Cocycle_Orders b_Cocycle_Modulus b_Cocycle_Values (w64 ((w64 (x1014 - x1138)) - x1278))).bind fun x1327 =>
    (idx b_Values x).bind fun x1369 =>
    (idx x1369 z).bind fun x1408 =>
    (idx b_Values y).bind fun x1454 =>
    (idx x1454 z).bind fun x1493 =>
    (idx x1200 z).bind fun x1590 =>
    (idx x1590 y).bind fun x1629 =>
    (p_impl_Cocycle_rest b_Cocycle_Orders b_Cocycle_Modulus b_Cocycle_Values (w64 ((w64 (x1408 + x1493)) - x1629))).bind fun x1677 =>
    some (x1327 == x1677)

def p_impl_Braiding_fault_L4 (b_Cocycle_Orders : (List Int)) (b_Cocycle_Modulus : Int) (b_Cocycle_Values : (List (List (List Int)))) (b_Values : (List (List Int))) (x12 : Int) (k30 : Nat) (k50 : Nat) (k73 : Nat) : Option (Ctl (Unit) ((List Int))) :=
  (p_impl_Braiding_holds b_Cocycle_Orders b_Cocycle_Modulus b_Cocycle_Values b_Values x12 (k30 : Int) (k50 : Int) (k73 : Int)).bind fun x96 =>
  if (!x96) = true then
    some (.ret ([x12, (k30 : Int), (k50 : Int), (k73 : Int)] : (List Int)))
  else
    some (.next ())

def p_impl_Braiding_fault_L3 (b_Cocycle_Orders : (List Int)) (b_Cocycle_Modulus : Int) (b_Cocycle_Values : (List (List (List Int)))) (b_Values : (List (List Int))) (x12 : Int) (k30 : Nat) (k50 : Nat) : Option (Ctl (Unit) ((List Int))) :=
  (forN (fun k s => p_impl_Braiding_fault_L4 b_Cocycle_Orders b_Cocycle_Modulus b_Cocycle_Values b_Values x12 k30 k50 k ) (b_Values).length 0 ()).bind fun res71 => onRes res71 (fun r139 => some (.ret r139)) fun _ =>
  some (.next ())

def p_impl_Braiding_fault_L2 (b_Cocycle_Orders : (List Int)) (b_Cocycle_Modulus : Int) (b_Cocycle_Values : (List (List (List Int)))) (b_Values : (List (List Int))) (x12 : Int) (k30 : Nat) : Option (Ctl (Unit) ((List Int))) :=
  (forN (fun k s => p_impl_Braiding_fault_L3 b_Cocycle_Orders b_Cocycle_Modulus b_Cocycle_Values b_Values x12 k30 k ) (b_Values).length 0 ()).bind fun res48 => onRes res48 (fun r165 => some (.ret r165)) fun _ =>
  some (.next ())

def p_impl_Braiding_fault_L1 (b_Cocycle_Orders : (List Int)) (b_Cocycle_Modulus : Int) (b_Cocycle_Values : (List (List (List Int)))) (b_Values : (List (List Int))) (x12 : Int) : Option (Ctl (Int) ((List Int))) :=
  if (decide (x12 ≤ (2 : Int))) = true then
    (forN (fun k s => p_impl_Braiding_fault_L2 b_Cocycle_Orders b_Cocycle_Modulus b_Cocycle_Values b_Values x12 k ) (b_Values).length 0 ()).bind fun res28 => onRes res28 (fun r186 => some (.ret r186)) fun _ =>
    some (.next (w64 (x12 + (1 : Int))))
  else
    some (.brk x12)

def p_impl_Braiding_fault (b_Cocycle_Orders : (List Int)) (b_Cocycle_Modulus : Int) (b_Cocycle_Values : (List (List (List Int)))) (b_Values : (List (List Int))) : Option ((List Int)) :=
  (whileC (fun s => p_impl_Braiding_fault_L1 b_Cocycle_Orders b_Cocycle_Modulus b_Cocycle_Values b_Values s) (1 : Int)).bind fun res9 => onRes res9 (fun r194 => some r194) fun (x192 : Int) =>
  some ([] : (List Int))

def p_impl_IsBraiding (b_Cocycle_Orders : (List Int)) (b_Cocycle_Modulus : Int) (b_Cocycle_Values : (List (List (List Int)))) (b_Values : (List (List Int))) : Option (Bool) :=
  (p_impl_hasNumbers b_Cocycle_Orders b_Cocycle_Modulus b_Cocycle_Values b_Values).bind fun x9 =>
  (if x9 = true then
    (p_impl_Braiding_fault b_Cocycle_Orders b_Cocycle_Modulus b_Cocycle_Values b_Values).bind fun x21 =>
    some (x21).isEmpty
  else
    some false).bind fun (x16 : Bool) =>
  some x16

def p_slices_Clone_Lint64_int64 (s1 : (List Int)) : Option ((List Int)) :=
  (appL ([] : (List Int)) s1).bind fun x6 =>
  some x6

def p_laws_eqInt64S_L1 (a : (List Int)) (b : (List Int)) (k7 : Nat) : Option (Ctl (Unit) (Bool)) :=
  (idx a (k7 : Int)).bind fun x53 =>
  (idx b (k7 : Int)).bind fun x99 =>
  if (x53 != x99) = true then
    some (.ret false)
  else
    some (.next ())

def p_laws_eqInt64S (a : (List Int)) (b : (List Int)) : Option (Bool) :=
  if (((a).length : Int) != ((b).length : Int)) = true then
    some false
  else
    (forN (fun k s => p_laws_eqInt64S_L1 a b k ) (a).length 0 ()).bind fun res5 => onRes res5 (fun r152 => some r152) fun _ =>
    some true

def p_laws_eqInt64SS_L1 (a : (List (List Int))) (b : (List (List Int))) (k7 : Nat) : Option (Ctl (Unit) (Bool)) :=
  (idx a (k7 : Int)).bind fun x53 =>
  (idx b (k7 : Int)).bind fun x99 =>
  (p_laws_eqInt64S x53 x99).bind fun x130 =>
  if (!x130) = true then
    some (.ret false)
  else
    some (.next ())

def p_laws_eqInt64SS (a : (List (List Int))) (b : (List (List Int))) : Option (Bool) :=
  if (((a).length : Int) != ((b).length : Int)) = true then
    some false
  else
    (forN (fun k s => p_laws_eqInt64SS_L1 a b k ) (a).length 0 ()).bind fun res5 => onRes res5 (fun r156 => some r156) fun _ =>
    some true

def p_laws_eqInt64SSS_L1 (a : (List (List (List Int)))) (b : (List (List (List Int)))) (k7 : Nat) : Option (Ctl (Unit) (Bool)) :=
  (idx a (k7 : Int)).bind fun x53 =>
  (idx b (k7 : Int)).bind fun x99 =>
  (p_laws_eqInt64SS x53 x99).bind fun x130 =>
  if (!x130) = true then
    some (.ret false)
  else
    some (.next ())

def p_laws_eqInt64SSS (a : (List (List (List Int)))) (b : (List (List (List Int)))) : Option (Bool) :=
  if (((a).length : Int) != ((b).length : Int)) = true then
    some false
  else
    (forN (fun k s => p_laws_eqInt64SSS_L1 a b k ) (a).length 0 ()).bind fun res5 => onRes res5 (fun r156 => some r156) fun _ =>
    some true

def p_laws_eqCocycle (a_Orders : (List Int)) (a_Modulus : Int) (a_Values : (List (List (List Int)))) (b_Orders : (List Int)) (b_Modulus : Int) (b_Values : (List (List (List Int)))) : Option (Bool) :=
  (p_laws_eqInt64S a_Orders b_Orders).bind fun x18 =>
  if (!x18) = true then
    some false
  else
    if (a_Modulus != b_Modulus) = true then
      some false
    else
      (p_laws_eqInt64SSS a_Values b_Values).bind fun x28 =>
      if (!x28) = true then
        some false
      else
        some true

def p_laws_eqBraiding (a_Cocycle_Orders : (List Int)) (a_Cocycle_Modulus : Int) (a_Cocycle_Values : (List (List (List Int)))) (a_Values : (List (List Int))) (b_Cocycle_Orders : (List Int)) (b_Cocycle_Modulus : Int) (b_Cocycle_Values : (List (List (List Int)))) (b_Values : (List (List Int))) : Option (Bool) :=
  (p_laws_eqCocycle a_Cocycle_Orders a_Cocycle_Modulus a_Cocycle_Values b_Cocycle_Orders b_Cocycle_Modulus b_Cocycle_Values).bind fun x18 =>
  if (!x18) = true then
    some false
  else
    (p_laws_eqInt64SS a_Values b_Values).bind fun x26 =>
    if (!x26) = true then
      some false
    else
      some true

def p_laws_markInt64S_L1  (k3 : Nat) (x4 : (List Int)) (x5 : Int) : Option (Ctl ((List Int) × Int) (Unit)) :=
  (idx x4 (k3 : Int)).bind fun x24 =>
  some (.next (((x4).set ((k3 : Int)).toNat x5), (w64 (x5 + (1 : Int)))))

def p_laws_markInt64S (a : (List Int)) (k1 : Int) : Option (Int × (List Int)) :=
  (forN (fun k s => p_laws_markInt64S_L1  k s.1 s.2) (a).length 0 (a, k1)).bind fun res1 => onRes res1 (fun r57 => none) fun (s50p : (List Int) × Int) =>
  some (s50p.2, s50p.1)

def p_laws_markInt64SS_L1  (k3 : Nat) (x4 : (List (List Int))) (x5 : Int) : Option (Ctl ((List (List Int)) × Int) (Unit)) :=
  (idx x4 (k3 : Int)).bind fun x24 =>
  (p_laws_markInt64S x24 x5).bind fun x32 =>
  some (.next (((x4).set ((k3 : Int)).toNat x32.2), x32.1))

def p_laws_markInt64SS (a : (List (List Int))) (k1 : Int) : Option (Int × (List (List Int))) :=
  (forN (fun k s => p_laws_markInt64SS_L1  k s.1 s.2) (a).length 0 (a, k1)).bind fun res1 => onRes res1 (fun r67 => none) fun (s60p : (List (List Int)) × Int) =>
  some (s60p.2, s60p.1)

def p_laws_markInt64SSS_L1  (k3 : Nat) (x4 : (List (List (List Int)))) (x5 : Int) : Option (Ctl ((List (List (List Int))) × Int) (Unit)) :=
  (idx x4 (k3 : Int)).bind fun x24 =>
  (p_laws_markInt64SS x24 x5).bind fun x32 =>
  some (.next (((x4).set ((k3 : Int)).toNat x32.2), x32.1))

def p_laws_markInt64SSS (a : (List (List (List Int)))) (k1 : Int) : Option (Int × (List (List (List Int)))) :=
  (forN (fun k s => p_laws_markInt64SSS_L1  k s.1 s.2) (a).length 0 (a, k1)).bind fun res1 => onRes res1 (fun r67 => none) fun (s60p : (List (List (List Int))) × Int) =>
  some (s60p.2, s60p.1)

def p_laws_markCocycle (a_Orders : (List Int)) (a_Modulus : Int) (a_Values : (List (List (List Int)))) (k1 : Int) : Option (Int × (List Int) × (List (List (List Int)))) :=
  (p_laws_markInt64S a_Orders k1).bind fun x6 =>
  (p_laws_markInt64SSS a_Values x6.1).bind fun x13 =>
  some (x13.1, x6.2, x13.2)

def p_laws_markBraiding (a_Cocycle_Orders : (List Int)) (a_Cocycle_Modulus : Int) (a_Cocycle_Values : (List (List (List Int)))) (a_Values : (List (List Int))) (k1 : Int) : Option (Int × (List Int) × (List (List (List Int))) × (List (List Int))) :=
  (p_laws_markCocycle a_Cocycle_Orders a_Cocycle_Modulus a_Cocycle_Values k1).bind fun x6 =>
  (p_laws_markInt64SS a_Values x6.1).bind fun x13 =>
  some (x13.1, x6.2.1, x6.2.2, x13.2)

def p_laws_heldInt64S_L1 (a : (List Int)) (k3 : Nat) (x4 : Int) : Option (Ctl (Int) (Int)) :=
  (idx a (k3 : Int)).bind fun x22 =>
  if (x22 != x4) = true then
    some (.ret (-1 : Int))
  else
    some (.next (w64 (x4 + (1 : Int))))

def p_laws_heldInt64S (a : (List Int)) (k1 : Int) : Option (Int) :=
  (forN (fun k s => p_laws_heldInt64S_L1 a k s) (a).length 0 k1).bind fun res1 => onRes res1 (fun r54 => some r54) fun (x50 : Int) =>
  some x50

def p_spec_l01Own2_L1 (lists : (List (List Int))) (k7 : Nat) (x8 : (List (List Int))) : Option (Ctl ((List (List Int))) (Unit)) :=
  (idx lists (k7 : Int)).bind fun x26 =>
  (p_spec_l01Own x26).bind fun x33 =>
  (appL x8 [x33]).bind fun x46 =>
  some (.next x46)

def p_spec_l01Own2 (lists : (List (List Int))) : Option ((List (List Int))) :=
  (forN (fun k s => p_spec_l01Own2_L1 lists k s) (lists).length 0 ([] : (List (List Int)))).bind fun res5 => onRes res5 (fun r75 => none) fun (x71 : (List (List Int))) =>
  some x71

def p_spec_l18Own_L1 (w_Values : (List (List (List Int)))) (k107 : Nat) (x108 : (List (List (List Int)))) : Option (Ctl ((List (List (List Int)))) (Unit)) :=
  (idx w_Values (k107 : Int)).bind fun x183 =>
  (p_spec_l01Own2 x183).bind fun x210 =>
  (appL x108 [x210]).bind fun x244 =>
  some (.next x244)

def p_spec_l18Own (w_Orders : (List Int)) (w_Modulus : Int) (w_Values : (List (List (List Int)))) : Option ((List Int) × Int × (List (List (List Int)))) :=
  (p_spec_l01Own w_Orders).bind fun x40 =>
  (forN (fun k s => p_spec_l18Own_L1 w_Values k s) (w_Values).length 0 ([] : (List (List (List Int))))).bind fun res105 => onRes res105 (fun r279 => none) fun (x272 : (List (List (List Int)))) =>
  some (x40, w_Modulus, x272)

def p_spec_l18Mod (n : Int) (m : Int) : Option (Int) :=
  (remI n m).bind fun x1 =>
  (remI (w64 (x1 + m)) m).bind fun x5 =>
  some x5

def p_spec_ReverseBraiding_L2 (b_Values : (List (List Int))) (k44 : Nat) (b_Cocycle_Modulus : Int) (k70 : Nat) (x71 : (List Int)) : Option (Ctl ((List Int)) (Unit)) :=
  (idx b_Values (k70 : Int)).bind fun x138 =>
  (idx x138 (k44 : Int)).bind fun x177 =>
  (p_spec_l18Mod (w64 (0 - x177)) b_Cocycle_Modulus).bind fun x248 =>
  (appL x71 ([x248] : (List Int))).bind fun x287 =>
  some (.next x287)

def p_spec_ReverseBraiding_L1 (b_Values : (List (List Int))) (b_Cocycle_Modulus : Int) (k44 : Nat) (x45 : (List (List Int))) : Option (Ctl ((List (List Int))) (Unit)) :=
  (forN (fun k s => p_spec_ReverseBraiding_L2 b_Values k44 b_Cocycle_Modulus k s) (b_Values).length 0 ([] : (List Int))).bind fun res68 => onRes res68 (fun r337 => none) fun (x315 : (List Int)) =>
  (appL x45 [x315]).bind fun x329 =>
  some (.next x329)

def p_spec_ReverseBraiding (b_Cocycle_Orders : (List Int)) (b_Cocycle_Modulus : Int) (b_Cocycle_Values : (List (List (List Int)))) (b_Values : (List (List Int))) : Option ((List Int) × Int × (List (List (List Int))) × (List (List Int)) × Int) :=
  (p_spec_l18Is b_Cocycle_Orders b_Cocycle_Modulus b_Cocycle_Values b_Values).bind fun x13 =>
  if (!x13) = true then
    some (([] : (List Int)), (0 : Int), ([] : (List (List (List Int)))), ([] : (List (List Int))), (1 : Int))
  else
    (p_spec_l18Own b_Cocycle_Orders b_Cocycle_Modulus b_Cocycle_Values).bind fun x26 =>
    (forN (fun k s => p_spec_ReverseBraiding_L1 b_Values b_Cocycle_Modulus k s) (b_Values).length 0 ([] : (List (List Int)))).bind fun res42 => onRes res42 (fun r365 => none) fun (x358 : (List (List Int))) =>
    some (x26.1, x26.2.1, x26.2.2, x358, (0 : Int))

def p_impl_copyCocycle_c1 (x : Int) (y : Int) (z : Int) (c0_Orders : (List Int)) (c0_Modulus : Int) (c0_Values : (List (List (List Int)))) : Option (Int) :=
  (idx c0_Values x).bind fun x1 =>
  (idx x1 y).bind fun x8 =>
  (idx x8 z).bind fun x15 =>
  some x15

def p_impl_zeros_L1 (columns : Int) (k7 : Nat) (x8 : (List (List Int))) : Option (Ctl ((List (List Int))) (Unit)) :=
  (mkL columns (0 : Int)).bind fun x26 =>
  (appL x8 [x26]).bind fun x38 =>
  some (.next x38)

def p_impl_zeros (rows : Int) (columns : Int) : Option ((List (List Int))) :=
  (forN (fun k s => p_impl_zeros_L1 columns k s) (rows).toNat 0 ([] : (List (List Int)))).bind fun res5 => onRes res5 (fun r67 => none) fun (x63 : (List (List Int))) =>
  some x63

def p_impl_cocycleBy_L3 (k58 : Nat) (number : (Int → Int → Int → Option Int)) (k28 : Nat) (x5 : (List Int)) (m : Int) (x29 : (List (List (List Int)))) (k84 : Nat) (x85 : (List (List Int))) : Option (Ctl ((List (List Int))) (Unit)) :=
  (idx x85 (k58 : Int)).bind fun x140 =>
  (number (k28 : Int) (k58 : Int) (k84 : Int)).bind fun x224 =>
  (p_impl_Cocycle_rest x5 m x29 x224).bind fun x245 =>
  (idx x140 (k84 : Int)).bind fun x278 =>
  some (.next ((x85).set ((k58 : Int)).toNat ((x140).set ((k84 : Int)).toNat x245)))

def p_impl_cocycleBy_L2 (number : (Int → Int → Int → Option Int)) (k28 : Nat) (x5 : (List Int)) (m : Int) (x29 : (List (List (List Int)))) (x12 : Int) (k58 : Nat) (x59 : (List (List Int))) : Option (Ctl ((List (List Int))) (Unit)) :=
  (forN (fun k s => p_impl_cocycleBy_L3 k58 number k28 x5 m x29 k s) (x12).toNat 0 x59).bind fun res82 => onRes res82 (fun r323 => none) fun (x311 : (List (List Int))) =>
  some (.next x311)

def p_impl_cocycleBy_L1 (x12 : Int) (number : (Int → Int → Int → Option Int)) (x5 : (List Int)) (m : Int) (k28 : Nat) (x29 : (List (List (List Int)))) : Option (Ctl ((List (List (List Int)))) (Unit)) :=
  (p_impl_zeros x12 x12).bind fun x49 =>
  (forN (fun k s => p_impl_cocycleBy_L2 number k28 x5 m x29 x12 k s) (x12).toNat 0 x49).bind fun res56 => onRes res56 (fun r371 => none) fun (x348 : (List (List Int))) =>
  (appL x29 [x348]).bind fun x363 =>
  some (.next x363)

def p_impl_cocycleBy (orders : (List Int)) (m : Int) (number : Int → Int → Int → Option Int) : Option ((List Int) × Int × (List (List (List Int)))) :=
  (p_slices_Clone_Lint64_int64 orders).bind fun x5 =>
  (p_impl_groupSize orders).bind fun x12 =>
  (forN (fun k s => p_impl_cocycleBy_L1 x12 number x5 m k s) (x12).toNat 0 ([] : (List (List (List Int))))).bind fun res26 => onRes res26 (fun r400 => none) fun (x393 : (List (List (List Int)))) =>
  some (x5, m, x393)

def p_impl_copyCocycle (c_Orders : (List Int)) (c_Modulus : Int) (c_Values : (List (List (List Int)))) : Option ((List Int) × Int × (List (List (List Int)))) :=
  (p_impl_cocycleBy c_Orders c_Modulus (fun a0_14 a1_14 a2_14 => p_impl_copyCocycle_c1 a0_14 a1_14 a2_14 c_Orders c_Modulus c_Values)).bind fun x17 =>
  some (x17.1, x17.2.1, x17.2.2)

def p_impl_ReverseBraiding_c1 (x : Int) (y : Int) (c0_Cocycle_Orders : (List Int)) (c0_Cocycle_Modulus : Int) (c0_Cocycle_Values : (List (List (List Int)))) (c0_Values : (List (List Int))) : Option (Int) :=
  (idx c0_Values y).bind fun x1 =>
  (idx x1 x).bind fun x8 =>
  some (w64 (0 - x8))

def p_impl_braidingBy_L2 (k141 : Nat) (number : (Int → Int → Option Int)) (c_Orders : (List Int)) (c_Modulus : Int) (c_Values : (List (List (List Int)))) (k164 : Nat) (x165 : (List (List Int))) : Option (Ctl ((List (List Int))) (Unit)) :=
  (idx x165 (k141 : Int)).bind fun x226 =>
  (number (k141 : Int) (k164 : Int)).bind fun x298 =>
  (p_impl_Cocycle_rest c_Orders c_Modulus c_Values x298).bind fun x319 =>
  (idx x226 (k164 : Int)).bind fun x348 =>
  some (.next ((x165).set ((k141 : Int)).toNat ((x226).set ((k164 : Int)).toNat x319)))

def p_impl_braidingBy_L1 (number : (Int → Int → Option Int)) (c_Orders : (List Int)) (c_Modulus : Int) (c_Values : (List (List (List Int)))) (k141 : Nat) (x142 : (List (List Int))) : Option (Ctl ((List (List Int))) (Unit)) :=
  (forN (fun k s => p_impl_braidingBy_L2 k141 number c_Orders c_Modulus c_Values k s) (x142).length 0 x142).bind fun res162 => onRes res162 (fun r385 => none) fun (x377 : (List (List Int))) =>
  some (.next x377)

def p_impl_braidingBy (c_Orders : (List Int)) (c_Modulus : Int) (c_Values : (List (List (List Int)))) (number : Int → Int → Option Int) : Option ((List Int) × Int × (List (List (List Int))) × (List (List Int))) :=
  (p_impl_zeros ((c_Values).length : Int) ((c_Values).length : Int)).bind fun x92 =>
  (forN (fun k s => p_impl_braidingBy_L1 number c_Orders c_Modulus c_Values k s) (x92).length 0 x92).bind fun res139 => onRes res139 (fun r412 => none) fun (x406 : (List (List Int))) =>
  some (c_Orders, c_Modulus, c_Values, x406)

def p_impl_ReverseBraiding (b_Cocycle_Orders : (List Int)) (b_Cocycle_Modulus : Int) (b_Cocycle_Values : (List (List (List Int)))) (b_Values : (List (List Int))) : Option ((List Int) × Int × (List (List (List Int))) × (List (List Int)) × Int) :=
  (p_impl_IsBraiding b_Cocycle_Orders b_Cocycle_Modulus b_Cocycle_Values b_Values).bind fun x13 =>
  if (!x13) = true then
    some (([] : (List Int)), (0 : Int), ([] : (List (List (List Int)))), ([] : (List (List Int))), (1 : Int))
  else
    (p_impl_copyCocycle b_Cocycle_Orders b_Cocycle_Modulus b_Cocycle_Values).bind fun x26 =>
    (p_impl_braidingBy x26.1 x26.2.1 x26.2.2 (fun a0_36 a1_36 => p_impl_ReverseBraiding_c1 a0_36 a1_36 b_Cocycle_Orders b_Cocycle_Modulus b_Cocycle_Values b_Values)).bind fun x39 =>
    some (x26.1, x39.2.1, x26.2.2, x39.2.2.2, (0 : Int))

def p_laws_heldInt64SS_L1 (a : (List (List Int))) (k3 : Nat) (x4 : Int) : Option (Ctl (Int) (Int)) :=
  (idx a (k3 : Int)).bind fun x22 =>
  (p_laws_heldInt64S x22 x4).bind fun x29 =>
  if (decide (x29 < (0 : Int))) = true then
    some (.ret (-1 : Int))
  else
    some (.next x29)

def p_laws_heldInt64SS (a : (List (List Int))) (k1 : Int) : Option (Int) :=
  (forN (fun k s => p_laws_heldInt64SS_L1 a k s) (a).length 0 k1).bind fun res1 => onRes res1 (fun r61 => some r61) fun (x57 : Int) =>
  some x57

def p_laws_heldInt64SSS_L1 (a : (List (List (List Int)))) (k3 : Nat) (x4 : Int) : Option (Ctl (Int) (Int)) :=
  (idx a (k3 : Int)).bind fun x22 =>
  (p_laws_heldInt64SS x22 x4).bind fun x29 =>
  if (decide (x29 < (0 : Int))) = true then
    some (.ret (-1 : Int))
  else
    some (.next x29)

def p_laws_heldInt64SSS (a : (List (List (List Int)))) (k1 : Int) : Option (Int) :=
  (forN (fun k s => p_laws_heldInt64SSS_L1 a k s) (a).length 0 k1).bind fun res1 => onRes res1 (fun r61 => some r61) fun (x57 : Int) =>
  some x57

def p_laws_heldCocycle (a_Orders : (List Int)) (a_Modulus : Int) (a_Values : (List (List (List Int)))) (k1 : Int) : Option (Int) :=
  (p_laws_heldInt64S a_Orders k1).bind fun x9 =>
  if (decide (x9 < (0 : Int))) = true then
    some (-1 : Int)
  else
    (p_laws_heldInt64SSS a_Values x9).bind fun x18 =>
    if (decide (x18 < (0 : Int))) = true then
      some (-1 : Int)
    else
      some x18

def p_laws_heldBraiding (a_Cocycle_Orders : (List Int)) (a_Cocycle_Modulus : Int) (a_Cocycle_Values : (List (List (List Int)))) (a_Values : (List (List Int))) (k1 : Int) : Option (Int) :=
  (p_laws_heldCocycle a_Cocycle_Orders a_Cocycle_Modulus a_Cocycle_Values k1).bind fun x9 =>
  if (decide (x9 < (0 : Int))) = true then
    some (-1 : Int)
  else
    (p_laws_heldInt64SS a_Values x9).bind fun x18 =>
    if (decide (x18 < (0 : Int))) = true then
      some (-1 : Int)
    else
      some x18

def p_laws_FnExactReverseBraiding (aB_Cocycle_Orders : (List Int)) (aB_Cocycle_Modulus : Int) (aB_Cocycle_Values : (List (List (List Int)))) (aB_Values : (List (List Int))) : Option (Bool) :=
  (p_laws_szBraiding aB_Cocycle_Orders aB_Cocycle_Modulus aB_Cocycle_Values aB_Values (1048576 : Int)).bind fun x9 =>
  if (decide (x9 < (0 : Int))) = true then
    some true
  else
    (p_laws_toBraiding aB_Cocycle_Orders aB_Cocycle_Modulus aB_Cocycle_Values aB_Values).bind fun x18 =>
    (p_spec_ReverseBraiding x18.1 x18.2.1 x18.2.2.1 x18.2.2.2).bind fun x34 =>
    (p_laws_toBraiding aB_Cocycle_Orders aB_Cocycle_Modulus aB_Cocycle_Values aB_Values).bind fun x51 =>
    (p_impl_ReverseBraiding x51.1 x51.2.1 x51.2.2.1 x51.2.2.2).bind fun x67 =>
    (p_laws_eqBraiding x67.1 x67.2.1 x67.2.2.1 x67.2.2.2.1 x34.1 x34.2.1 x34.2.2.1 x34.2.2.2.1).bind fun x84 =>
    if ((!x84) || (x67.2.2.2.2 != x34.2.2.2.2)) = true then
      some false
    else
      (p_laws_toBraiding aB_Cocycle_Orders aB_Cocycle_Modulus aB_Cocycle_Values aB_Values).bind fun x129 =>
      (p_laws_eqBraiding x51.1 x51.2.1 x51.2.2.1 x51.2.2.2 x129.1 x129.2.1 x129.2.2.1 x129.2.2.2).bind fun x161 =>
      if (!x161) = true then
        some false
      else
        (p_laws_markBraiding x51.1 x51.2.1 x51.2.2.1 x51.2.2.2 (1 : Int)).bind fun x169 =>
        (if (decide (x169.1 < (0 : Int))) = true then
          some true
        else
          (p_laws_eqBraiding x67.1 x67.2.1 x67.2.2.1 x67.2.2.2.1 x34.1 x34.2.1 x34.2.2.1 x34.2.2.2.1).bind fun x182 =>
          some (!x182)).bind fun (x177 : Bool) =>
        if (x177 || (x67.2.2.2.2 != x34.2.2.2.2)) = true then
          some false
        else
          (p_laws_markBraiding x67.1 x67.2.1 x67.2.2.1 x67.2.2.2.1 (1 : Int)).bind fun x207 =>
          (p_laws_heldBraiding x207.2.1 x67.2.1 x207.2.2.1 x207.2.2.2 (1 : Int)).bind fun x214 =>
          if (decide (x214 < (0 : Int))) = true then
            some false
          else
            if (x214 != x207.1) = true then
              some false
            else
              (p_laws_toBraiding aB_Cocycle_Orders aB_Cocycle_Modulus aB_Cocycle_Values aB_Values).bind fun x225 =>
              (p_impl_ReverseBraiding x225.1 x225.2.1 x225.2.2.1 x225.2.2.2).bind fun x235 =>
              (p_laws_eqBraiding x235.1 x235.2.1 x235.2.2.1 x235.2.2.2.1 x34.1 x34.2.1 x34.2.2.1 x34.2.2.2.1).bind fun x252 =>
              if ((!x252) || (x235.2.2.2.2 != x34.2.2.2.2)) = true then
                some false
              else
                (p_laws_heldBraiding x207.2.1 x67.2.1 x207.2.2.1 x207.2.2.2 (1 : Int)).bind fun x268 =>
                if (decide (x268 < (0 : Int))) = true then
                  some false
                else
                  if (x268 != x207.1) = true then
                    some false
                  else
                    some true

end
end Go.VG
