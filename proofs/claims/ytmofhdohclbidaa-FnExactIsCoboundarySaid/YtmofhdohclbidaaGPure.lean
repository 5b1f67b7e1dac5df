/- The functions' plain twins, as a program of ours printed them. No proof. -/
import Derived.Test.YtmofhdohclbidaaVgPure
import Derived.Test.YtmofhdohclbidaaVgCat
set_option linter.all false
namespace Go.VG
noncomputable section

def p_laws_szInt64S (a : (List Int)) (left : Int) : Option (Int) :=
  if (decide ((w64 (left - ((a).length : Int))) < (0 : Int))) = true then
    some (-1 : Int)
  else
    some (w64 (left - ((a).length : Int)))

def p_laws_szInt64SS_L1 (a : (List (List Int))) (k6 : Nat) (x7 : Int) : Option (Ctl (Int) (Int)) :=
  (idx a (k6 : Int)).bind fun x25 =>
  (p_laws_szInt64S x25 x7).bind fun x32 =>
  if (decide (x32 < (0 : Int))) = true then
    some (.ret (-1 : Int))
  else
    some (.next x32)

def p_laws_szInt64SS (a : (List (List Int))) (left : Int) : Option (Int) :=
  if (decide ((w64 (left - ((a).length : Int))) < (0 : Int))) = true then
    some (-1 : Int)
  else
    (forN (fun k s => p_laws_szInt64SS_L1 a k s) (a).length 0 (w64 (left - ((a).length : Int)))).bind fun res4 => onRes res4 (fun r64 => some r64) fun (x60 : Int) =>
    some x60

def p_laws_szInt64SSS_L1 (a : (List (List (List Int)))) (k6 : Nat) (x7 : Int) : Option (Ctl (Int) (Int)) :=
  (idx a (k6 : Int)).bind fun x25 =>
  (p_laws_szInt64SS x25 x7).bind fun x32 =>
  if (decide (x32 < (0 : Int))) = true then
    some (.ret (-1 : Int))
  else
    some (.next x32)

def p_laws_szInt64SSS (a : (List (List (List Int)))) (left : Int) : Option (Int) :=
  if (decide ((w64 (left - ((a).length : Int))) < (0 : Int))) = true then
    some (-1 : Int)
  else
    (forN (fun k s => p_laws_szInt64SSS_L1 a k s) (a).length 0 (w64 (left - ((a).length : Int)))).bind fun res4 => onRes res4 (fun r64 => some r64) fun (x60 : Int) =>
    some x60

def p_laws_szCocycle (a_Orders : (List Int)) (a_Modulus : Int) (a_Values : (List (List (List Int)))) (left : Int) : Option (Int) :=
  (p_laws_szInt64S a_Orders left).bind fun x9 =>
  if (decide (x9 < (0 : Int))) = true then
    some (-1 : Int)
  else
    (p_laws_szInt64SSS a_Values x9).bind fun x18 =>
    if (decide (x18 < (0 : Int))) = true then
      some (-1 : Int)
    else
      some x18

def p_laws_toInt64S_L1 (a : (List Int)) (k10 : Nat) (x11 : (List Int)) : Option (Ctl ((List Int)) (Unit)) :=
  (idx a (k10 : Int)).bind fun x28 =>
  (idx x11 (k10 : Int)).bind fun x35 =>
  some (.next ((x11).set ((k10 : Int)).toNat x28))

def p_laws_toInt64S (a : (List Int)) : Option ((List Int)) :=
  (mkL ((a).length : Int) (0 : Int)).bind fun x2 =>
  (forN (fun k s => p_laws_toInt64S_L1 a k s) (a).length 0 x2).bind fun res8 => onRes res8 (fun r62 => none) fun (x59 : (List Int)) =>
  some x59

def p_laws_toInt64SS_L1 (a : (List (List Int))) (k10 : Nat) (x11 : (List (List Int))) : Option (Ctl ((List (List Int))) (Unit)) :=
  (idx a (k10 : Int)).bind fun x28 =>
  (p_laws_toInt64S x28).bind fun x35 =>
  (idx x11 (k10 : Int)).bind fun x42 =>
  some (.next ((x11).set ((k10 : Int)).toNat x35))

def p_laws_toInt64SS (a : (List (List Int))) : Option ((List (List Int))) :=
  (mkL ((a).length : Int) ([] : (List Int))).bind fun x2 =>
  (forN (fun k s => p_laws_toInt64SS_L1 a k s) (a).length 0 x2).bind fun res8 => onRes res8 (fun r69 => none) fun (x66 : (List (List Int))) =>
  some x66

def p_laws_toInt64SSS_L1 (a : (List (List (List Int)))) (k10 : Nat) (x11 : (List (List (List Int)))) : Option (Ctl ((List (List (List Int)))) (Unit)) :=
  (idx a (k10 : Int)).bind fun x28 =>
  (p_laws_toInt64SS x28).bind fun x35 =>
  (idx x11 (k10 : Int)).bind fun x42 =>
  some (.next ((x11).set ((k10 : Int)).toNat x35))

def p_laws_toInt64SSS (a : (List (List (List Int)))) : Option ((List (List (List Int)))) :=
  (mkL ((a).length : Int) ([] : (List (List Int)))).bind fun x2 =>
  (forN (fun k s => p_laws_toInt64SSS_L1 a k s) (a).length 0 x2).bind fun res8 => onRes res8 (fun r69 => none) fun (x66 : (List (List (List Int)))) =>
  some x66

def p_laws_toCocycle (a_Orders : (List Int)) (a_Modulus : Int) (a_Values : (List (List (List Int)))) : Option ((List Int) × Int × (List (List (List Int)))) :=
  (p_laws_toInt64S a_Orders).bind fun x17 =>
  (p_laws_toInt64SSS a_Values).bind fun x28 =>
  some (x17, a_Modulus, x28)

def p_spec_l06Orders_L1 (orders : (List Int)) (k3 : Nat) : Option (Ctl (Unit) (Bool)) :=
  (idx orders (k3 : Int)).bind fun x19 =>
  if (decide (x19 < (1 : Int))) = true then
    some (.ret false)
  else
    some (.next ())

def p_spec_l06Orders (orders : (List Int)) : Option (Bool) :=
  (forN (fun k s => p_spec_l06Orders_L1 orders k ) (orders).length 0 ()).bind fun res1 => onRes res1 (fun r47 => some r47) fun _ =>
  some (decide (((orders).length : Int) > (0 : Int)))

def p_spec_l01In (n : Int) (low : Int) (high : Int) : Option (Bool) :=
  some ((decide (n ≥ low)) && (decide (n ≤ high)))

def p_spec_l06Size_L1 (orders : (List Int)) (limit : Int) (k3 : Nat) (x4 : Int) : Option (Ctl (Int) (Int)) :=
  (idx orders (k3 : Int)).bind fun x23 =>
  if (decide (x23 > limit)) = true then
    some (.ret (w64 (limit + (1 : Int))))
  else
    if (decide ((w64 (x4 * x23)) > limit)) = true then
      some (.ret (w64 (limit + (1 : Int))))
    else
      some (.next (w64 (x4 * x23)))

def p_spec_l06Size (orders : (List Int)) (limit : Int) : Option (Int) :=
  (forN (fun k s => p_spec_l06Size_L1 orders limit k s) (orders).length 0 (1 : Int)).bind fun res1 => onRes res1 (fun r61 => some r61) fun (x57 : Int) =>
  some x57

def p_spec_l17Size (orders : (List Int)) : Option (Int) :=
  (p_spec_l06Size orders (8 : Int)).bind fun x1 =>
  some x1

def p_spec_l17Shape_L3 (x100 : (List Int)) (c_Modulus : Int) (k112 : Nat) : Option (Ctl (Unit) (Bool)) :=
  (idx x100 (k112 : Int)).bind fun x239 =>
  (p_spec_l01In x239 (0 : Int) (w64 (c_Modulus - (1 : Int)))).bind fun x302 =>
  if (!x302) = true then
    some (.ret false)
  else
    some (.next ())

def p_spec_l17Shape_L2 (x68 : (List (List Int))) (x32 : Int) (c_Modulus : Int) (k80 : Nat) : Option (Ctl (Unit) (Bool)) :=
  (idx x68 (k80 : Int)).bind fun x100 =>
  if (((x100).length : Int) != x32) = true then
    some (.ret false)
  else
    (forN (fun k s => p_spec_l17Shape_L3 x100 c_Modulus k ) (x32).toNat 0 ()).bind fun res110 => onRes res110 (fun r333 => some (.ret r333)) fun _ =>
    some (.next ())

def p_spec_l17Shape_L1 (c_Values : (List (List (List Int)))) (x32 : Int) (c_Modulus : Int) (k52 : Nat) : Option (Ctl (Unit) (Bool)) :=
  (idx c_Values (k52 : Int)).bind fun x68 =>
  if (((x68).length : Int) != x32) = true then
    some (.ret false)
  else
    (forN (fun k s => p_spec_l17Shape_L2 x68 x32 c_Modulus k ) (x32).toNat 0 ()).bind fun res78 => onRes res78 (fun r355 => some (.ret r355)) fun _ =>
    some (.next ())

def p_spec_l17Shape (c_Orders : (List Int)) (c_Modulus : Int) (c_Values : (List (List (List Int)))) : Option (Bool) :=
  (p_spec_l06Orders c_Orders).bind fun x9 =>
  (if (!x9) = true then
    some true
  else
    (p_spec_l01In c_Modulus (1 : Int) (1000 : Int)).bind fun x21 =>
    some (!x21)).bind fun (x16 : Bool) =>
  if x16 = true then
    some false
  else
    (p_spec_l17Size c_Orders).bind fun x32 =>
    if ((decide (x32 > (8 : Int))) || (((c_Values).length : Int) != x32)) = true then
      some false
    else
      (forN (fun k s => p_spec_l17Shape_L1 c_Values x32 c_Modulus k ) (x32).toNat 0 ()).bind fun res50 => onRes res50 (fun r373 => some r373) fun _ =>
      some true

def p_spec_l17Normal_L2 (c_Values : (List (List (List Int)))) (k12 : Nat) (k30 : Nat) : Option (Ctl (Unit) (Bool)) :=
  (idx c_Values (0 : Int)).bind fun x47 =>
  (idx x47 (k12 : Int)).bind fun x54 =>
  (idx x54 (k30 : Int)).bind fun x61 =>
  (if (x61 != (0 : Int)) = true then
    some true
  else
    (idx c_Values (k12 : Int)).bind fun x74 =>
    (idx x74 (0 : Int)).bind fun x81 =>
    (idx x81 (k30 : Int)).bind fun x88 =>
    some (x88 != (0 : Int))).bind fun (x69 : Bool) =>
  (if x69 = true then
    some true
  else
    (idx c_Values (k12 : Int)).bind fun x107 =>
    (idx x107 (k30 : Int)).bind fun x114 =>
    (idx x114 (0 : Int)).bind fun x121 =>
    some (x121 != (0 : Int))).bind fun (x102 : Bool) =>
  if x102 = true then
    some (.ret false)
  else
    some (.next ())

def p_spec_l17Normal_L1 (c_Values : (List (List (List Int)))) (k12 : Nat) : Option (Ctl (Unit) (Bool)) :=
  (forN (fun k s => p_spec_l17Normal_L2 c_Values k12 k ) (c_Values).length 0 ()).bind fun res28 => onRes res28 (fun r157 => some (.ret r157)) fun _ =>
  some (.next ())

def p_spec_l17Normal (c_Orders : (List Int)) (c_Modulus : Int) (c_Values : (List (List (List Int)))) : Option (Bool) :=
  (forN (fun k s => p_spec_l17Normal_L1 c_Values k ) (c_Values).length 0 ()).bind fun res10 => onRes res10 (fun r175 => some r175) fun _ =>
  some true

def p_spec_l06Add_L1 (orders : (List Int)) (x5 : Int) (x6 : Int) (x7 : Int) (x8 : Int) (x9 : Int) : Option (Ctl (Int × Int × Int × Int × Int) (Unit)) :=
  if (decide (x9 ≥ (0 : Int))) = true then
    (idx orders x9).bind fun x75 =>
    (remI x5 x75).bind fun x108 =>
    (remI x6 x75).bind fun x177 =>
    (remI (w64 (x108 + x177)) x75).bind fun x255 =>
    (quoI .i64 x5 x75).bind fun x306 =>
    (quoI .i64 x6 x75).bind fun x313 =>
    some (.next (x306, x313, (w64 (x7 + (w64 (x255 * x8)))), (w64 (x8 * x75)), (w64 (x9 - (1 : Int)))))
  else
    some (.brk (x5, x6, x7, x8, x9))

def p_spec_l06Add (orders : (List Int)) (x : Int) (y : Int) : Option (Int) :=
  (whileC (fun s => p_spec_l06Add_L1 orders s.1 s.2.1 s.2.2.1 s.2.2.2.1 s.2.2.2.2) (x, y, (0 : Int), (1 : Int), (w64 (((orders).length : Int) - (1 : Int))))).bind fun res2 => onRes res2 (fun r330 => none) fun (s321p : Int × Int × Int × Int × Int) =>
  some s321p.2.2.1

def p_spec_l17Fault_L4 (c_Orders : (List Int)) (k80 : Nat) (k99 : Nat) (k119 : Nat) (c_Values : (List (List (List Int)))) (c_Modulus : Int) (k140 : Nat) : Option (Ctl (Unit) ((List Int))) :=
  (p_spec_l06Add c_Orders (k80 : Int) (k99 : Int)).bind fun x211 =>
  (p_spec_l06Add c_Orders (k99 : Int) (k119 : Int)).bind fun x268 =>
  (p_spec_l06Add c_Orders (k119 : Int) (k140 : Int)).bind fun x330 =>
  (idx c_Values (k99 : Int)).bind fun x366 =>
  (idx x366 (k119 : Int)).bind fun x405 =>
  (idx x405 (k140 : Int)).bind fun x444 =>
  (idx c_Values x211).bind fun x490 =>
  (idx x490 (k119 : Int)).bind fun x529 =>
  (idx x529 (k140 : Int)).bind fun x568 =>
  (idx c_Values (k80 : Int)).bind fun x630 =>
  (idx x630 x268).bind fun x669 =>
  (idx x669 (k140 : Int)).bind fun x708 =>
  (idx x630 (k99 : Int)).bind fun x805 =>
  (idx x805 x330).bind fun x844 =>
  (idx x805 (k119 : Int)).bind fun x976 =>
  (remI (w64 ((w64 ((w64 ((w64 (x444 - x568)) + x708)) - x844)) + x976)) c_Modulus).bind fun x1046 =>
  if (x1046 != (0 : Int)) = true then
    some (.ret ([(k80 : Int), (k99 : Int), (k119 : Int), (k140 : Int)] : (List Int)))
  else
    some (.next ())

def p_spec_l17Fault_L3 (c_Orders : (List Int)) (k80 : Nat) (k99 : Nat) (c_Values : (List (List (List Int)))) (c_Modulus : Int) (k119 : Nat) : Option (Ctl (Unit) ((List Int))) :=
  (forN (fun k s => p_spec_l17Fault_L4 c_Orders k80 k99 k119 c_Values c_Modulus k ) (((c_Values).length : Int)).toNat 0 ()).bind fun res138 => onRes res138 (fun r1083 => some (.ret r1083)) fun _ =>
  some (.next ())

def p_spec_l17Fault_L2 (c_Orders : (List Int)) (k80 : Nat) (c_Values : (List (List (List Int)))) (c_Modulus : Int) (k99 : Nat) : Option (Ctl (Unit) ((List Int))) :=
  (forN (fun k s => p_spec_l17Fault_L3 c_Orders k80 k99 c_Values c_Modulus k ) (((c_Values).length : Int)).toNat 0 ()).bind fun res117 => onRes res117 (fun r1109 => some (.ret r1109)) fun _ =>
  some (.next ())

def p_spec_l17Fault_L1 (c_Orders : (List Int)) (c_Values : (List (List (List Int)))) (c_Modulus : Int) (k80 : Nat) : Option (Ctl (Unit) ((List Int))) :=
  (forN (fun k s => p_spec_l17Fault_L2 c_Orders k80 c_Values c_Modulus k ) (((c_Values).length : Int)).toNat 0 ()).bind fun res97 => onRes res97 (fun r1133 => some (.ret r1133)) fun _ =>
  some (.next ())

def p_spec_l17Fault (c_Orders : (List Int)) (c_Modulus : Int) (c_Values : (List (List (List Int)))) : Option ((List Int)) :=
  (forN (fun k s => p_spec_l17Fault_L1 c_Orders c_Values c_Modulus k ) (((c_Values).length : Int)).toNat 0 ()).bind fun res78 => onRes res78 (fun r1152 => some r1152) fun _ =>
  some ([] : (List Int))

def p_spec_l17Is (c_Orders : (List Int)) (c_Modulus : Int) (c_Values : (List (List (List Int)))) : Option (Bool) :=
  (p_spec_l17Shape c_Orders c_Modulus c_Values).bind fun x9 =>
  (if x9 = true then
    (p_spec_l17Normal c_Orders c_Modulus c_Values).bind fun x21 =>
    some x21
  else
    some false).bind fun (x16 : Bool) =>
  (if x16 = true then
    (p_spec_l17Fault c_Orders c_Modulus c_Values).bind fun x36 =>
    some (((x36).length : Int) == (0 : Int))
  else
    some false).bind fun (x31 : Bool) =>
  some x31

def p_spec_l17Prime (p : Int) : Option (Bool) :=
  some ((((p == (2 : Int)) || (p == (3 : Int))) || (p == (5 : Int))) || (p == (7 : Int)))

def p_spec_l01Own (list : (List Int)) : Option ((List Int)) :=
  (appL ([] : (List Int)) list).bind fun x5 =>
  some x5

def p_spec_l06Empty_L2 (n : Int) (k31 : Nat) (x32 : (List (List Int))) : Option (Ctl ((List (List Int))) (Unit)) :=
  (mkL n (0 : Int)).bind fun x51 =>
  (appL x32 [x51]).bind fun x63 =>
  some (.next x63)

def p_spec_l06Empty_L1 (n : Int) (k7 : Nat) (x8 : (List (List (List Int)))) : Option (Ctl ((List (List (List Int)))) (Unit)) :=
  (forN (fun k s => p_spec_l06Empty_L2 n k s) (n).toNat 0 ([] : (List (List Int)))).bind fun res29 => onRes res29 (fun r108 => none) fun (x89 : (List (List Int))) =>
  (appL x8 [x89]).bind fun x102 =>
  some (.next x102)

def p_spec_l06Empty (n : Int) : Option ((List (List (List Int)))) :=
  (forN (fun k s => p_spec_l06Empty_L1 n k s) (n).toNat 0 ([] : (List (List (List Int))))).bind fun res5 => onRes res5 (fun r131 => none) fun (x127 : (List (List (List Int)))) =>
  some x127

def p_spec_l17Coboundary_L3 (f1 : (List (List Int))) (k51 : Nat) (orders : (List Int)) (k28 : Nat) (m : Int) (k75 : Nat) (x76 : (List (List (List Int)))) : Option (Ctl ((List (List (List Int)))) (Unit)) :=
  (idx f1 (k51 : Int)).bind fun x127 =>
  (idx x127 (k75 : Int)).bind fun x166 =>
  (p_spec_l06Add orders (k28 : Int) (k51 : Int)).bind fun x231 =>
  (idx f1 x231).bind fun x252 =>
  (idx x252 (k75 : Int)).bind fun x291 =>
  (idx f1 (k28 : Int)).bind fun x353 =>
  (p_spec_l06Add orders (k51 : Int) (k75 : Int)).bind fun x411 =>
  (idx x353 x411).bind fun x432 =>
  (idx x353 (k51 : Int)).bind fun x529 =>
  (idx x76 (k28 : Int)).bind fun x607 =>
  (idx x607 (k51 : Int)).bind fun x646 =>
  (remI (w64 ((w64 ((w64 ((w64 (x166 - x291)) + x432)) - x529)) + (w64 ((2 : Int) * m)))) m).bind fun x734 =>
  (idx x646 (k75 : Int)).bind fun x761 =>
  some (.next ((x76).set ((k28 : Int)).toNat ((x607).set ((k51 : Int)).toNat ((x646).set ((k75 : Int)).toNat x734))))

def p_spec_l17Coboundary_L2 (f1 : (List (List Int))) (orders : (List Int)) (k28 : Nat) (m : Int) (k51 : Nat) (x52 : (List (List (List Int)))) : Option (Ctl ((List (List (List Int)))) (Unit)) :=
  (forN (fun k s => p_spec_l17Coboundary_L3 f1 k51 orders k28 m k s) (f1).length 0 x52).bind fun res73 => onRes res73 (fun r800 => none) fun (x790 : (List (List (List Int)))) =>
  some (.next x790)

def p_spec_l17Coboundary_L1 (f1 : (List (List Int))) (orders : (List Int)) (m : Int) (k28 : Nat) (x29 : (List (List (List Int)))) : Option (Ctl ((List (List (List Int)))) (Unit)) :=
  (forN (fun k s => p_spec_l17Coboundary_L2 f1 orders k28 m k s) (f1).length 0 x29).bind fun res49 => onRes res49 (fun r832 => none) fun (x823 : (List (List (List Int)))) =>
  some (.next x823)

def p_spec_l17Coboundary (orders : (List Int)) (m : Int) (f1 : (List (List Int))) : Option ((List Int) × Int × (List (List (List Int)))) :=
  (p_spec_l01Own orders).bind fun x6 =>
  (p_spec_l06Empty ((f1).length : Int)).bind fun x13 =>
  (forN (fun k s => p_spec_l17Coboundary_L1 f1 orders m k s) (f1).length 0 x13).bind fun res26 => onRes res26 (fun r860 => none) fun (x854 : (List (List (List Int)))) =>
  some (x6, m, x854)

def p_spec_l17Flat_L2 (c_Values : (List (List (List Int)))) (k15 : Nat) (k36 : Nat) (x37 : (List Int)) : Option (Ctl ((List Int)) (Unit)) :=
  (idx c_Values (k15 : Int)).bind fun x56 =>
  (idx x56 (k36 : Int)).bind fun x63 =>
  (appL x37 x63).bind fun x70 =>
  some (.next x70)

def p_spec_l17Flat_L1 (c_Values : (List (List (List Int)))) (k15 : Nat) (x16 : (List Int)) : Option (Ctl ((List Int)) (Unit)) :=
  (forN (fun k s => p_spec_l17Flat_L2 c_Values k15 k s) (c_Values).length 0 x16).bind fun res34 => onRes res34 (fun r102 => none) fun (x96 : (List Int)) =>
  some (.next x96)

def p_spec_l17Flat (c_Orders : (List Int)) (c_Modulus : Int) (c_Values : (List (List (List Int)))) : Option ((List Int)) :=
  (forN (fun k s => p_spec_l17Flat_L1 c_Values k s) (c_Values).length 0 ([] : (List Int))).bind fun res13 => onRes res13 (fun r126 => none) fun (x122 : (List Int)) =>
  some x122

def p_spec_l17Bounds_L3 (x1 : Int) (k63 : Nat) (x64 : (List (List Int))) : Option (Ctl ((List (List Int))) (Unit)) :=
  (mkL x1 (0 : Int)).bind fun x86 =>
  (appL x64 [x86]).bind fun x98 =>
  some (.next x98)

def p_spec_l17Bounds_L2 (x1 : Int) (k14 : Nat) (orders : (List Int)) (p : Int) (k36 : Nat) (x37 : (List (List Int))) : Option (Ctl ((List (List Int))) (Unit)) :=
  (forN (fun k s => p_spec_l17Bounds_L3 x1 k s) (x1).toNat 0 ([] : (List (List Int)))).bind fun res61 => onRes res61 (fun r178 => none) fun (x127 : (List (List Int))) =>
  (idx x127 ((1 : Int) + (k14 : Int))).bind fun x137 =>
  (idx x137 ((1 : Int) + (k36 : Int))).bind fun x144 =>
  (p_spec_l17Coboundary orders p ((x127).set (((1 : Int) + (k14 : Int))).toNat ((x137).set (((1 : Int) + (k36 : Int))).toNat (1 : Int)))).bind fun x150 =>
  (p_spec_l17Flat x150.1 x150.2.1 x150.2.2).bind fun x159 =>
  (appL x37 [x159]).bind fun x172 =>
  some (.next x172)

def p_spec_l17Bounds_L1 (x1 : Int) (orders : (List Int)) (p : Int) (k14 : Nat) (x15 : (List (List Int))) : Option (Ctl ((List (List Int))) (Unit)) :=
  (forN (fun k s => p_spec_l17Bounds_L2 x1 k14 orders p k s) (x1 - (1 : Int)).toNat 0 x15).bind fun res34 => onRes res34 (fun r208 => none) fun (x200 : (List (List Int))) =>
  some (.next x200)

def p_spec_l17Bounds (orders : (List Int)) (p : Int) : Option ((List (List Int))) :=
  (p_spec_l17Size orders).bind fun x1 =>
  (forN (fun k s => p_spec_l17Bounds_L1 x1 orders p k s) (x1 - (1 : Int)).toNat 0 ([] : (List (List Int)))).bind fun res12 => onRes res12 (fun r233 => none) fun (x229 : (List (List Int))) =>
  some x229

def p_spec_l17Less_L1 (a : (List Int)) (b : (List Int)) (p : Int) (k1 : Int) (k7 : Nat) (x8 : (List Int)) : Option (Ctl ((List Int)) (Unit)) :=
  (idx a (k7 : Int)).bind fun x65 =>
  (idx b (k7 : Int)).bind fun x141 =>
  (remI (w64 (x65 + (w64 ((w64 (p - k1)) * x141)))) p).bind fun x213 =>
  (appL x8 ([x213] : (List Int))).bind fun x250 =>
  some (.next x250)

def p_spec_l17Less (p : Int) (a : (List Int)) (b : (List Int)) (k1 : Int) : Option ((List Int)) :=
  (forN (fun k s => p_spec_l17Less_L1 a b p k1 k s) (a).length 0 ([] : (List Int))).bind fun res5 => onRes res5 (fun r282 => none) fun (x278 : (List Int)) =>
  some x278

def p_spec_l17Rank_L2 (x13 : (List Int)) (x12 : (List (List Int))) (p : Int) (k50 : Nat) (x51 : (List Int)) : Option (Ctl ((List Int)) (Unit)) :=
  (idx x13 (k50 : Int)).bind fun x73 =>
  (idx x51 x73).bind fun x80 =>
  (if (x80 != (0 : Int)) = true then
    (idx x12 (k50 : Int)).bind fun x133 =>
    (p_spec_l17Less p x51 x133 x80).bind fun x248 =>
    some x248
  else
    some x51).bind fun (x87 : (List Int)) =>
  some (.next x87)

def p_spec_l17Rank_L3 (x290 : (List Int)) (x302 : Int) : Option (Ctl (Int) (Unit)) :=
  (if (decide (x302 < ((x290).length : Int))) = true then
    (idx x290 x302).bind fun x327 =>
    some (x327 == (0 : Int))
  else
    some false).bind fun (x322 : Bool) =>
  if x322 = true then
    some (.next (w64 (x302 + (1 : Int))))
  else
    some (.brk x302)

def p_spec_l17Rank_L4 (x290 : (List Int)) (x350 : Int) (p : Int) (x366 : Int) : Option (Ctl (Int) (Unit)) :=
  (idx x290 x350).bind fun x385 =>
  (remI (w64 (x366 * x385)) p).bind fun x392 =>
  if (x392 != (1 : Int)) = true then
    some (.next (w64 (x366 + (1 : Int))))
  else
    some (.brk x366)

def p_spec_l17Rank_L1 (lists : (List (List Int))) (p : Int) (k11 : Nat) (x12 : (List (List Int))) (x13 : (List Int)) : Option (Ctl ((List (List Int)) × (List Int)) (Unit)) :=
  (idx lists (k11 : Int)).bind fun x34 =>
  (p_spec_l01Own x34).bind fun x41 =>
  (forN (fun k s => p_spec_l17Rank_L2 x13 x12 p k s) (x12).length 0 x41).bind fun res48 => onRes res48 (fun r452 => none) fun (x290 : (List Int)) =>
  (whileC (fun s => p_spec_l17Rank_L3 x290 s) (0 : Int)).bind fun res299 => onRes res299 (fun r451 => none) fun (x350 : Int) =>
  if (x350 == ((x290).length : Int)) = true then
    some (.next (x12, x13))
  else
    (whileC (fun s => p_spec_l17Rank_L4 x290 x350 p s) (1 : Int)).bind fun res363 => onRes res363 (fun r450 => none) fun (x403 : Int) =>
    (mkL ((x290).length : Int) (0 : Int)).bind fun x415 =>
    (p_spec_l17Less p x415 x290 (w64 (p - x403))).bind fun x421 =>
    (appL x12 [x421]).bind fun x434 =>
    (appL x13 ([x350] : (List Int))).bind fun x444 =>
    some (.next (x434, x444))

def p_spec_l17Rank (p : Int) (lists : (List (List Int))) : Option (Int) :=
  (forN (fun k s => p_spec_l17Rank_L1 lists p k s.1 s.2) (lists).length 0 (([] : (List (List Int))), ([] : (List Int)))).bind fun res9 => onRes res9 (fun r482 => none) fun (s475p : (List (List Int)) × (List Int)) =>
  some ((s475p.1).length : Int)

def p_spec_IsCoboundary (c_Orders : (List Int)) (c_Modulus : Int) (c_Values : (List (List (List Int)))) : Option (Bool × Int) :=
  (p_spec_l17Is c_Orders c_Modulus c_Values).bind fun x9 =>
  if (!x9) = true then
    some (false, (1 : Int))
  else
    (p_spec_l17Prime c_Modulus).bind fun x17 =>
    if (!x17) = true then
      some (false, (5 : Int))
    else
      (p_spec_l17Bounds c_Orders c_Modulus).bind fun x25 =>
      (appL ([] : (List (List Int))) x25).bind fun x42 =>
      (p_spec_l17Flat c_Orders c_Modulus c_Values).bind fun x48 =>
      (appL x42 [x48]).bind fun x61 =>
      (p_spec_l17Rank c_Modulus x25).bind fun x116 =>
      (p_spec_l17Rank c_Modulus x61).bind fun x160 =>
      some ((x116 == x160), (0 : Int))

def p_impl_groupSize_L1 (orders : (List Int)) (k4 : Nat) (x5 : Int) : Option (Ctl (Int) (Int)) :=
  (idx orders (k4 : Int)).bind fun x24 =>
  if (decide (x24 < (1 : Int))) = true then
    some (.ret (0 : Int))
  else
    some (.next (if (w64 (x5 * (if (17 : Int) < x24 then (17 : Int) else x24))) < (17 : Int) then (w64 (x5 * (if (17 : Int) < x24 then (17 : Int) else x24))) else (17 : Int)))

def p_impl_groupSize (orders : (List Int)) : Option (Int) :=
  (forN (fun k s => p_impl_groupSize_L1 orders k s) (orders).length 0 (1 : Int)).bind fun res2 => onRes res2 (fun r61 => some r61) fun (x53 : Int) =>
  if (((orders).length : Int) == (0 : Int)) = true then
    some (0 : Int)
  else
    some x53

def p_impl_within (n : Int) (low : Int) (high : Int) : Option (Bool) :=
  some ((decide (n ≥ low)) && (decide (n ≤ high)))

def p_impl_isModulus (m : Int) : Option (Bool) :=
  (p_impl_within m (1 : Int) (1000 : Int)).bind fun x1 =>
  some x1

def p_impl_allWithin_c1 (n : Int) (c0 : Int) (c1 : Int) : Option (Bool) :=
  (p_impl_within n c0 c1).bind fun x1 =>
  some (!x1)

def p_slices_IndexFunc_Lint64_int64_L1 (s1 : (List Int)) (f1 : (Int → Option Bool)) (k4 : Nat) : Option (Ctl (Unit) (Int)) :=
  (idx s1 (k4 : Int)).bind fun x21 =>
  (f1 x21).bind fun x28 =>
  if x28 = true then
    some (.ret (k4 : Int))
  else
    some (.next ())

def p_slices_IndexFunc_Lint64_int64 (s1 : (List Int)) (f1 : Int → Option Bool) : Option (Int) :=
  (forN (fun k s => p_slices_IndexFunc_Lint64_int64_L1 s1 f1 k ) (s1).length 0 ()).bind fun res2 => onRes res2 (fun r54 => some r54) fun _ =>
  some (-1 : Int)

def p_slices_ContainsFunc_Lint64_int64 (s1 : (List Int)) (f1 : Int → Option Bool) : Option (Bool) :=
  (p_slices_IndexFunc_Lint64_int64 s1 f1).bind fun x1 =>
  some (decide (x1 ≥ (0 : Int)))

def p_impl_allWithin (list : (List Int)) (low : Int) (high : Int) : Option (Bool) :=
  (p_slices_ContainsFunc_Lint64_int64 list (fun a0_19 => p_impl_allWithin_c1 a0_19 low high)).bind fun x22 =>
  some (!x22)

def p_impl_isGrid_c1 (row : (List Int)) (c0 : Int) (c1 : Int) : Option (Bool) :=
  (if (((row).length : Int) != c0) = true then
    some true
  else
    (p_impl_allWithin row (0 : Int) (w64 (c1 - (1 : Int)))).bind fun x8 =>
    some (!x8)).bind fun (x3 : Bool) =>
  some x3

def p_slices_IndexFunc_LLint64_Lint64_L1 (s1 : (List (List Int))) (f1 : ((List Int) → Option Bool)) (k4 : Nat) : Option (Ctl (Unit) (Int)) :=
  (idx s1 (k4 : Int)).bind fun x21 =>
  (f1 x21).bind fun x28 =>
  if x28 = true then
    some (.ret (k4 : Int))
  else
    some (.next ())

def p_slices_IndexFunc_LLint64_Lint64 (s1 : (List (List Int))) (f1 : (List Int) → Option Bool) : Option (Int) :=
  (forN (fun k s => p_slices_IndexFunc_LLint64_Lint64_L1 s1 f1 k ) (s1).length 0 ()).bind fun res2 => onRes res2 (fun r54 => some r54) fun _ =>
  some (-1 : Int)

def p_slices_ContainsFunc_LLint64_Lint64 (s1 : (List (List Int))) (f1 : (List Int) → Option Bool) : Option (Bool) :=
  (p_slices_IndexFunc_LLint64_Lint64 s1 f1).bind fun x1 =>
  some (decide (x1 ≥ (0 : Int)))

def p_impl_isGrid (rows : (List (List Int))) (n : Int) (m : Int) : Option (Bool) :=
  (if (((rows).length : Int) == n) = true then
    (p_slices_ContainsFunc_LLint64_Lint64 rows (fun a0_26 => p_impl_isGrid_c1 a0_26 n m)).bind fun x29 =>
    some (!x29)
  else
    some false).bind fun (x20 : Bool) =>
  some x20

def p_impl_isCochain_c1 (rows : (List (List Int))) (c0 : Int) (c1_Orders : (List Int)) (c1_Modulus : Int) (c1_Values : (List (List (List Int)))) : Option (Bool) :=
  (p_impl_isGrid rows c0 c1_Modulus).bind fun x1 =>
  some (!x1)

def p_slices_IndexFunc_LLLint64_LLint64_L1 (s1 : (List (List (List Int)))) (f1 : ((List (List Int)) → Option Bool)) (k4 : Nat) : Option (Ctl (Unit) (Int)) :=
  (idx s1 (k4 : Int)).bind fun x21 =>
  (f1 x21).bind fun x28 =>
  if x28 = true then
    some (.ret (k4 : Int))
  else
    some (.next ())

def p_slices_IndexFunc_LLLint64_LLint64 (s1 : (List (List (List Int)))) (f1 : (List (List Int)) → Option Bool) : Option (Int) :=
  (forN (fun k s => p_slices_IndexFunc_LLLint64_LLint64_L1 s1 f1 k ) (s1).length 0 ()).bind fun res2 => onRes res2 (fun r54 => some r54) fun _ =>
  some (-1 : Int)

def p_slices_ContainsFunc_LLLint64_LLint64 (s1 : (List (List (List Int)))) (f1 : (List (List Int)) → Option Bool) : Option (Bool) :=
  (p_slices_IndexFunc_LLLint64_LLint64 s1 f1).bind fun x1 =>
  some (decide (x1 ≥ (0 : Int)))

def p_impl_isCochain (c_Orders : (List Int)) (c_Modulus : Int) (c_Values : (List (List (List Int)))) : Option (Bool) :=
  (p_impl_groupSize c_Orders).bind fun x9 =>
  (p_impl_within x9 (1 : Int) (8 : Int)).bind fun x22 =>
  (if (!x22) = true then
    some true
  else
    (p_impl_isModulus c_Modulus).bind fun x34 =>
    some (!x34)).bind fun (x29 : Bool) =>
  if (x29 || (((c_Values).length : Int) != x9)) = true then
    some false
  else
    (p_slices_ContainsFunc_LLLint64_LLint64 c_Values (fun a0_56 => p_impl_isCochain_c1 a0_56 x9 c_Orders c_Modulus c_Values)).bind fun x59 =>
    some (!x59)

def p_impl_Cocycle_isNormalised_L3 (x58 : (List Int)) (k12 : Nat) (k38 : Nat) (k68 : Nat) : Option (Ctl (Unit) (Bool)) :=
  (idx x58 (k68 : Int)).bind fun x92 =>
  (if (x92 != (0 : Int)) = true then
    if ((k12 : Int) == (0 : Int)) = true then
      if true = true then
        some true
      else
        some ((k68 : Int) == (0 : Int))
    else
      if ((k38 : Int) == (0 : Int)) = true then
        some true
      else
        some ((k68 : Int) == (0 : Int))
  else
    some false).bind fun (x99 : Bool) =>
  if x99 = true then
    some (.ret false)
  else
    some (.next ())

def p_impl_Cocycle_isNormalised_L2 (x28 : (List (List Int))) (k12 : Nat) (k38 : Nat) : Option (Ctl (Unit) (Bool)) :=
  (idx x28 (k38 : Int)).bind fun x58 =>
  (forN (fun k s => p_impl_Cocycle_isNormalised_L3 x58 k12 k38 k ) (x58).length 0 ()).bind fun res66 => onRes res66 (fun r155 => some (.ret r155)) fun _ =>
  some (.next ())

def p_impl_Cocycle_isNormalised_L1 (c_Values : (List (List (List Int)))) (k12 : Nat) : Option (Ctl (Unit) (Bool)) :=
  (idx c_Values (k12 : Int)).bind fun x28 =>
  (forN (fun k s => p_impl_Cocycle_isNormalised_L2 x28 k12 k ) (x28).length 0 ()).bind fun res36 => onRes res36 (fun r180 => some (.ret r180)) fun _ =>
  some (.next ())

def p_impl_Cocycle_isNormalised (c_Orders : (List Int)) (c_Modulus : Int) (c_Values : (List (List (List Int)))) : Option (Bool) :=
  (forN (fun k s => p_impl_Cocycle_isNormalised_L1 c_Values k ) (c_Values).length 0 ()).bind fun res10 => onRes res10 (fun r198 => some r198) fun _ =>
  some true

def p_slices_Backward_Lint64_int64_c1_L1 (c0 : (List Int)) (yield : (Int → Int → Option Bool)) (x5 : Int) : Option (Ctl (Int) (Unit)) :=
  if (decide (x5 ≥ (0 : Int))) = true then
    (idx c0 x5).bind fun x21 =>
    (yield x5 x21).bind fun x28 =>
    if (!x28) = true then
      some (.ret ())
    else
      some (.next (w64 (x5 - (1 : Int))))
  else
    some (.brk x5)

def p_slices_Backward_Lint64_int64_c1 (yield : Int → Int → Option Bool) (c0 : (List Int)) : Option (Unit) :=
  (whileC (fun s => p_slices_Backward_Lint64_int64_c1_L1 c0 yield s) (w64 (((c0).length : Int) - (1 : Int)))).bind fun res2 => onRes res2 (fun r43 => some r43) fun (x41 : Int) =>
  some ()

def p_impl_addElements_S (m : Int) (s : Int × Int × Int × Int) : Int × Int × Int × Int := (w64 (s.1.tdiv m), w64 (s.2.1.tdiv m), w64 (s.2.2.1 + (w64 ((w64 (s.1.tmod m + s.2.1.tmod m)).tmod m * s.2.2.2))), w64 (s.2.2.2 * m))
def p_impl_addElements (orders : List Int) (a : Int) (b : Int) : Option Int := if orders.all (fun m => m != 0) = true then some (orders.reverse.foldl (fun s m => p_impl_addElements_S m s) (a, b, 0, 1)).2.2.1 else none

def p_impl_Cocycle_plus (c_Orders : (List Int)) (c_Modulus : Int) (c_Values : (List (List (List Int)))) (x : Int) (y : Int) : Option (Int) :=
  (p_impl_addElements c_Orders x y).bind fun x9 =>
  some x9

def p_impl_Cocycle_rest (c_Orders : (List Int)) (c_Modulus : Int) (c_Values : (List (List (List Int)))) (n : Int) : Option (Int) :=
  (remI n c_Modulus).bind fun x49 =>
  (remI (w64 (x49 + c_Modulus)) c_Modulus).bind fun x116 =>
  some x116

def p_impl_Cocycle_fault_L4 (c_Values : (List (List (List Int)))) (k32 : Nat) (k55 : Nat) (c_Orders : (List Int)) (c_Modulus : Int) (k12 : Nat) (k81 : Nat) : Option (Ctl (Unit) ((List Int))) :=
  (idx c_Values (k32 : Int)).bind fun x136 =>
  (idx x136 (k55 : Int)).bind fun x175 =>
  (idx x175 (k81 : Int)).bind fun x214 =>
  (p_impl_Cocycle_plus c_Orders c_Modulus c_Values (k12 : Int) (k32 : Int)).bind fun x280 =>
  (idx c_Values x280).bind fun x301 =>
  (idx x301 (k55 : Int)).bind fun x340 =>
  (idx x340 (k81 : Int)).bind fun x379 =>
  (idx c_Values (k12 : Int)).bind fun x441 =>
  (p_impl_Cocycle_plus c_Orders c_Modulus c_Values (k32 : Int) (k55 : Int)).bind fun x500 =>
  (idx x441 x500).bind fun x521 =>
  (idx x521 (k81 : Int)).bind fun x560 =>
  (idx x441 (k32 : Int)).bind fun x657 =>
  (p_impl_Cocycle_plus c_Orders c_Modulus c_Values (k55 : Int) (k81 : Int)).bind fun x716 =>
  (idx x657 x716).bind fun x737 =>
  (idx x657 (k55 : Int)).bind fun x869 =>
  (p_impl_Cocycle_rest c_Orders c_Modulus c_Values (w64 ((w64 ((w64 ((w64 (x214 - x379)) + x560)) - x737)) + x869))).bind fun x913 =>
  if (x913 != (0 : Int)) = true then
    some (.ret ([(k12 : Int), (k32 : Int), (k55 : Int), (k81 : Int)] : (List Int)))
  else
    some (.next ())

def p_impl_Cocycle_fault_L3 (c_Values : (List (List (List Int)))) (k32 : Nat) (c_Orders : (List Int)) (c_Modulus : Int) (k12 : Nat) (k55 : Nat) : Option (Ctl (Unit) ((List Int))) :=
  (forN (fun k s => p_impl_Cocycle_fault_L4 c_Values k32 k55 c_Orders c_Modulus k12 k ) (c_Values).length 0 ()).bind fun res79 => onRes res79 (fun r963 => some (.ret r963)) fun _ =>
  some (.next ())

def p_impl_Cocycle_fault_L2 (c_Values : (List (List (List Int)))) (c_Orders : (List Int)) (c_Modulus : Int) (k12 : Nat) (k32 : Nat) : Option (Ctl (Unit) ((List Int))) :=
  (forN (fun k s => p_impl_Cocycle_fault_L3 c_Values k32 c_Orders c_Modulus k12 k ) (c_Values).length 0 ()).bind fun res53 => onRes res53 (fun r995 => some (.ret r995)) fun _ =>
  some (.next ())

def p_impl_Cocycle_fault_L1 (c_Values : (List (List (List Int)))) (c_Orders : (List Int)) (c_Modulus : Int) (k12 : Nat) : Option (Ctl (Unit) ((List Int))) :=
  (forN (fun k s => p_impl_Cocycle_fault_L2 c_Values c_Orders c_Modulus k12 k ) (c_Values).length 0 ()).bind fun res30 => onRes res30 (fun r1021 => some (.ret r1021)) fun _ =>
  some (.next ())

def p_impl_Cocycle_fault (c_Orders : (List Int)) (c_Modulus : Int) (c_Values : (List (List (List Int)))) : Option ((List Int)) :=
  (forN (fun k s => p_impl_Cocycle_fault_L1 c_Values c_Orders c_Modulus k ) (c_Values).length 0 ()).bind fun res10 => onRes res10 (fun r1040 => some r1040) fun _ =>
  some ([] : (List Int))

def p_impl_IsCocycle (c_Orders : (List Int)) (c_Modulus : Int) (c_Values : (List (List (List Int)))) : Option (Bool) :=
  (p_impl_isCochain c_Orders c_Modulus c_Values).bind fun x9 =>
  (if x9 = true then
    (p_impl_Cocycle_isNormalised c_Orders c_Modulus c_Values).bind fun x21 =>
    some x21
  else
    some false).bind fun (x16 : Bool) =>
  (if x16 = true then
    (p_impl_Cocycle_fault c_Orders c_Modulus c_Values).bind fun x36 =>
    some (x36).isEmpty
  else
    some false).bind fun (x31 : Bool) =>
  some x31

def p_impl_isSmallPrime (p : Int) : Option (Bool) :=
  some ((((p == (2 : Int)) || (p == (3 : Int))) || (p == (5 : Int))) || (p == (7 : Int)))

def p_impl_zeros_L1 (columns : Int) (k7 : Nat) (x8 : (List (List Int))) : Option (Ctl ((List (List Int))) (Unit)) :=
  (mkL columns (0 : Int)).bind fun x26 =>
  (appL x8 [x26]).bind fun x38 =>
  some (.next x38)

def p_impl_zeros (rows : Int) (columns : Int) : Option ((List (List Int))) :=
  (forN (fun k s => p_impl_zeros_L1 columns k s) (rows).toNat 0 ([] : (List (List Int)))).bind fun res5 => onRes res5 (fun r67 => none) fun (x63 : (List (List Int))) =>
  some x63

def p_impl_coboundary_c1 (x : Int) (y : Int) (z : Int) (c0 : (List (List Int))) (c1_Orders : (List Int)) (c1_Modulus : Int) (c1_Values : (List (List (List Int)))) : Option (Int) :=
  (idx c0 y).bind fun x30 =>
  (idx x30 z).bind fun x69 =>
  (p_impl_Cocycle_plus c1_Orders c1_Modulus c1_Values x y).bind fun x135 =>
  (idx c0 x135).bind fun x156 =>
  (idx x156 z).bind fun x195 =>
  (idx c0 x).bind fun x257 =>
  (p_impl_Cocycle_plus c1_Orders c1_Modulus c1_Values y z).bind fun x316 =>
  (idx x257 x316).bind fun x337 =>
  (idx x257 y).bind fun x434 =>
  some (w64 ((w64 ((w64 (x69 - x195)) + x337)) - x434))

def p_slices_Clone_Lint64_int64 (s1 : (List Int)) : Option ((List Int)) :=
  (appL ([] : (List Int)) s1).bind fun x6 =>
  some x6

def p_impl_cocycleBy_L3 (k58 : Nat) (number : (Int → Int → Int → Option Int)) (k28 : Nat) (x5 : (List Int)) (m : Int) (x29 : (List (List (List Int)))) (k84 : Nat) (x85 : (List (List Int))) : Option (Ctl ((List (List Int))) (Unit)) :=
  (idx x85 (k58 : Int)).bind fun x140 =>
  (number (k28 : Int) (k58 : Int) (k84 : Int)).bind fun x224 =>
  (p_impl_Cocycle_rest x5 m x29 x224).bind fun x245 =>
  (idx x140 (k84 : Int)).bind fun x278 =>
  some (.next ((x85).set ((k58 : Int)).toNat ((x140).set ((k84 : Int)).toNat x245)))

def p_impl_cocycleBy_L2 (number : (Int → Int → Int → Option Int)) (k28 : Nat) (x5 : (List Int)) (m : Int) (x29 : (List (List (List Int)))) (x12 : Int) (k58 : Nat) (x59 : (List (List Int))) : Option (Ctl ((List (List Int))) (Unit)) :=
  (forN (fun k s => p_impl_cocycleBy_L3 k58 number k28 x5 m x29 k s) (x12).toNat 0 x59).bind fun res82 => onRes res82 (fun r323 => none) fun (x311 : (List (List Int))) =>
  some (.next x311)

def p_impl_cocycleBy_L1 (x12 : Int) (number : (Int → Int → Int → Option Int)) (x5 : (List Int)) (m : Int) (k28 : Nat) (x29 : (List (List (List Int)))) : Option (Ctl ((List (List (List Int)))) (Unit)) :=
  (p_impl_zeros x12 x12).bind fun x49 =>
  (forN (fun k s => p_impl_cocycleBy_L2 number k28 x5 m x29 x12 k s) (x12).toNat 0 x49).bind fun res56 => onRes res56 (fun r371 => none) fun (x348 : (List (List Int))) =>
  (appL x29 [x348]).bind fun x363 =>
  some (.next x363)

def p_impl_cocycleBy (orders : (List Int)) (m : Int) (number : Int → Int → Int → Option Int) : Option ((List Int) × Int × (List (List (List Int)))) :=
  (p_slices_Clone_Lint64_int64 orders).bind fun x5 =>
  (p_impl_groupSize orders).bind fun x12 =>
  (forN (fun k s => p_impl_cocycleBy_L1 x12 number x5 m k s) (x12).toNat 0 ([] : (List (List (List Int))))).bind fun res26 => onRes res26 (fun r400 => none) fun (x393 : (List (List (List Int)))) =>
  some (x5, m, x393)

def p_impl_coboundary (orders : (List Int)) (m : Int) (f1 : (List (List Int))) : Option ((List Int) × Int × (List (List (List Int)))) :=
  (p_impl_cocycleBy orders m (fun a0_21 a1_21 a2_21 => p_impl_coboundary_c1 a0_21 a1_21 a2_21 f1 orders m ([] : (List (List (List Int)))))).bind fun x24 =>
  some (x24.1, x24.2.1, x24.2.2)

def p_slices_Grow_Lint64_int64 (s : List Int) (n : Int) : Option (List Int) := growP s n

def p_slices_Concat_Lint64_int64_L1 (slices : (List (List Int))) (k4 : Nat) (x5 : Int) : Option (Ctl (Int) (Unit)) :=
  (idx slices (k4 : Int)).bind fun x24 =>
  (if (decide ((w64 (x5 + ((x24).length : Int))) < (0 : Int))) = true then
    none
  else
    some ()).bind fun (_ : Unit) =>
  some (.next (w64 (x5 + ((x24).length : Int))))

def p_slices_Concat_Lint64_int64_L2 (slices : (List (List Int))) (k78 : Nat) (x79 : (List Int)) : Option (Ctl ((List Int)) (Unit)) :=
  (idx slices (k78 : Int)).bind fun x97 =>
  (appL x79 x97).bind fun x104 =>
  some (.next x104)

def p_slices_Concat_Lint64_int64 (slices : (List (List Int))) : Option ((List Int)) :=
  (forN (fun k s => p_slices_Concat_Lint64_int64_L1 slices k s) (slices).length 0 (0 : Int)).bind fun res2 => onRes res2 (fun r134 => none) fun (x63 : Int) =>
  (p_slices_Grow_Lint64_int64 ([] : (List Int)) x63).bind fun x68 =>
  (forN (fun k s => p_slices_Concat_Lint64_int64_L2 slices k s) (slices).length 0 x68).bind fun res76 => onRes res76 (fun r133 => none) fun (x129 : (List Int)) =>
  some x129

def p_impl_Cocycle_flat_L1 (c_Values : (List (List (List Int)))) (k16 : Nat) (x17 : (List Int)) : Option (Ctl ((List Int)) (Unit)) :=
  (idx c_Values (k16 : Int)).bind fun x35 =>
  (p_slices_Concat_Lint64_int64 x35).bind fun x42 =>
  (appL x17 x42).bind fun x49 =>
  some (.next x49)

def p_impl_Cocycle_flat (c_Orders : (List Int)) (c_Modulus : Int) (c_Values : (List (List (List Int)))) : Option ((List Int)) :=
  (forN (fun k s => p_impl_Cocycle_flat_L1 c_Values k s) (c_Values).length 0 ([] : (List Int))).bind fun res14 => onRes res14 (fun r78 => none) fun (x74 : (List Int)) =>
  some x74

def p_impl_coboundaries_L2 (x5 : Int) (k14 : Nat) (orders : (List Int)) (p : Int) (k36 : Nat) (x37 : (List (List Int))) : Option (Ctl ((List (List Int))) (Unit)) :=
  (p_impl_zeros x5 x5).bind fun x57 =>
  (idx x57 ((1 : Int) + (k14 : Int))).bind fun x64 =>
  (idx x64 ((1 : Int) + (k36 : Int))).bind fun x71 =>
  (p_impl_coboundary orders p ((x57).set (((1 : Int) + (k14 : Int))).toNat ((x64).set (((1 : Int) + (k36 : Int))).toNat (1 : Int)))).bind fun x77 =>
  (p_impl_Cocycle_flat x77.1 x77.2.1 x77.2.2).bind fun x86 =>
  (appL x37 [x86]).bind fun x99 =>
  some (.next x99)

def p_impl_coboundaries_L1 (x5 : Int) (orders : (List Int)) (p : Int) (k14 : Nat) (x15 : (List (List Int))) : Option (Ctl ((List (List Int))) (Unit)) :=
  (forN (fun k s => p_impl_coboundaries_L2 x5 k14 orders p k s) (x5 - (1 : Int)).toNat 0 x15).bind fun res34 => onRes res34 (fun r134 => none) fun (x126 : (List (List Int))) =>
  some (.next x126)

def p_impl_coboundaries (orders : (List Int)) (p : Int) : Option ((List (List Int))) :=
  (p_impl_groupSize orders).bind fun x5 =>
  (forN (fun k s => p_impl_coboundaries_L1 x5 orders p k s) (x5 - (1 : Int)).toNat 0 ([] : (List (List Int)))).bind fun res12 => onRes res12 (fun r159 => none) fun (x155 : (List (List Int))) =>
  some x155

def p_impl_rankModulo_c1 (row : (List Int)) (c0 : Int) : Option (Bool) :=
  (idx row c0).bind fun x1 =>
  some (x1 != (0 : Int))

def p_impl_rankModulo_L1 (list : (List (List Int))) (k8 : Nat) (x9 : (List (List Int))) : Option (Ctl ((List (List Int))) (Unit)) :=
  (idx list (k8 : Int)).bind fun x29 =>
  (p_slices_Clone_Lint64_int64 x29).bind fun x36 =>
  (appL x9 [x36]).bind fun x49 =>
  some (.next x49)

def p_impl_rankModulo_L3 (x91 : (List (List Int))) (x93 : Int) (x448 : (List Int)) (x328 : Int) (x494 : (List Int)) (x92 : Int) (p : Int) (x539 : Int) : Option (Ctl (Int) (Unit)) :=
  (idx (((x91).set (x93).toNat x448).set ((w64 (x93 + x328))).toNat x494) x93).bind fun x591 =>
  (idx x591 x92).bind fun x630 =>
  (remI (w64 (x539 * x630)) p).bind fun x688 =>
  if (x688 != (1 : Int)) = true then
    some (.next (w64 (x539 + (1 : Int))))
  else
    some (.brk x539)

def p_impl_rankModulo_L5 (x754 : Int) (x93 : Int) (k717 : Nat) (p : Int) (x761 : (List (List Int))) (x762 : Int) : Option (Ctl ((List (List Int)) × Int) (Unit)) :=
  (if (x754 != (0 : Int)) = true then
    (idx x761 ((w64 (x93 + (1 : Int))) + (k717 : Int))).bind fun x790 =>
    some (decide (x762 < ((x790).length : Int)))
  else
    some false).bind fun (x785 : Bool) =>
  if x785 = true then
    (idx x761 ((w64 (x93 + (1 : Int))) + (k717 : Int))).bind fun x853 =>
    (idx x853 x762).bind fun x857 =>
    (idx x761 x93).bind fun x910 =>
    (idx x910 x762).bind fun x949 =>
    (remI (w64 (x857 - (w64 (x754 * x949)))) p).bind fun x1021 =>
    (remI (w64 (x1021 + p)) p).bind fun x1071 =>
    some (.next (((x761).set (((w64 (x93 + (1 : Int))) + (k717 : Int))).toNat ((x853).set (x762).toNat x1071)), (w64 (x762 + (1 : Int)))))
  else
    some (.brk (x761, x762))

def p_impl_rankModulo_L4 (x93 : Int) (x92 : Int) (x699 : Int) (p : Int) (k717 : Nat) (x718 : (List (List Int))) : Option (Ctl ((List (List Int))) (Unit)) :=
  (idx x718 ((w64 (x93 + (1 : Int))) + (k717 : Int))).bind fun x739 =>
  (idx x739 x92).bind fun x747 =>
  (remI (w64 (x747 * x699)) p).bind fun x754 =>
  (whileC (fun s => p_impl_rankModulo_L5 x754 x93 k717 p s.1 s.2) (x718, x92)).bind fun res758 => onRes res758 (fun r1118 => none) fun (s1106p : (List (List Int)) × Int) =>
  some (.next s1106p.1)

def p_impl_rankModulo_L2 (p : Int) (x91 : (List (List Int))) (x92 : Int) (x93 : Int) : Option (Ctl ((List (List Int)) × Int × Int) (Unit)) :=
  (if (decide (((x91).length : Int) > (0 : Int))) = true then
    (idx x91 (0 : Int)).bind fun x188 =>
    some (decide (x92 < ((x188).length : Int)))
  else
    some false).bind fun (x149 : Bool) =>
  if x149 = true then
    (cutL x91 x93 ((x91).length : Int)).bind fun x320 =>
    (p_slices_IndexFunc_LLint64_Lint64 x320 (fun a0_325 => p_impl_rankModulo_c1 a0_325 x92)).bind fun x328 =>
    if (decide (x328 < (0 : Int))) = true then
      some (.next (x91, (w64 (x92 + (1 : Int))), x93))
    else
      (idx x91 (w64 (x93 + x328))).bind fun x448 =>
      (idx x91 x93).bind fun x494 =>
      (whileC (fun s => p_impl_rankModulo_L3 x91 x93 x448 x328 x494 x92 p s) (1 : Int)).bind fun res536 => onRes res536 (fun r1160 => none) fun (x699 : Int) =>
      (cutL (((x91).set (x93).toNat x448).set ((w64 (x93 + x328))).toNat x494) (w64 (x93 + (1 : Int))) (((((x91).set (x93).toNat x448).set ((w64 (x93 + x328))).toNat x494)).length : Int)).bind fun x707 =>
      (forN (fun k s => p_impl_rankModulo_L4 x93 x92 x699 p k s) (x707).length 0 (((x91).set (x93).toNat x448).set ((w64 (x93 + x328))).toNat x494)).bind fun res715 => onRes res715 (fun r1159 => none) fun (x1141 : (List (List Int))) =>
      if ((w64 (x93 + (1 : Int))) == ((x1141).length : Int)) = true then
        some (.brk (x1141, x92, (w64 (x93 + (1 : Int)))))
      else
        some (.next (x1141, (w64 (x92 + (1 : Int))), (w64 (x93 + (1 : Int)))))
  else
    some (.brk (x91, x92, x93))

def p_impl_rankModulo (list : (List (List Int))) (p : Int) : Option (Int) :=
  (forN (fun k s => p_impl_rankModulo_L1 list k s) (list).length 0 ([] : (List (List Int)))).bind fun res6 => onRes res6 (fun r1173 => none) fun (x76 : (List (List Int))) =>
  (whileC (fun s => p_impl_rankModulo_L2 p s.1 s.2.1 s.2.2) (x76, (0 : Int), (0 : Int))).bind fun res88 => onRes res88 (fun r1172 => none) fun (s1165p : (List (List Int)) × Int × Int) =>
  some s1165p.2.2

def p_impl_IsCoboundary (c_Orders : (List Int)) (c_Modulus : Int) (c_Values : (List (List (List Int)))) : Option (Bool × Int) :=
  (p_impl_IsCocycle c_Orders c_Modulus c_Values).bind fun x9 =>
  if (!x9) = true then
    some (false, (1 : Int))
  else
    (p_impl_isSmallPrime c_Modulus).bind fun x17 =>
    if (!x17) = true then
      some (false, (5 : Int))
    else
      (p_impl_coboundaries c_Orders c_Modulus).bind fun x25 =>
      (p_impl_rankModulo x25 c_Modulus).bind fun x35 =>
      (p_impl_Cocycle_flat c_Orders c_Modulus c_Values).bind fun x42 =>
      (appL x25 [x42]).bind fun x55 =>
      (p_impl_rankModulo x55 c_Modulus).bind fun x61 =>
      some ((x35 == x61), (0 : Int))

def p_laws_eqInt64S_L1 (a : (List Int)) (b : (List Int)) (k7 : Nat) : Option (Ctl (Unit) (Bool)) :=
  (idx a (k7 : Int)).bind fun x53 =>
  (idx b (k7 : Int)).bind fun x99 =>
  if (x53 != x99) = true then
    some (.ret false)
  else
    some (.next ())

def p_laws_eqInt64S (a : (List Int)) (b : (List Int)) : Option (Bool) :=
  if (((a).length : Int) != ((b).length : Int)) = true then
    some false
  else
    (forN (fun k s => p_laws_eqInt64S_L1 a b k ) (a).length 0 ()).bind fun res5 => onRes res5 (fun r152 => some r152) fun _ =>
    some true

def p_laws_eqInt64SS_L1 (a : (List (List Int))) (b : (List (List Int))) (k7 : Nat) : Option (Ctl (Unit) (Bool)) :=
  (idx a (k7 : Int)).bind fun x53 =>
  (idx b (k7 : Int)).bind fun x99 =>
  (p_laws_eqInt64S x53 x99).bind fun x130 =>
  if (!x130) = true then
    some (.ret false)
  else
    some (.next ())

def p_laws_eqInt64SS (a : (List (List Int))) (b : (List (List Int))) : Option (Bool) :=
  if (((a).length : Int) != ((b).length : Int)) = true then
    some false
  else
    (forN (fun k s => p_laws_eqInt64SS_L1 a b k ) (a).length 0 ()).bind fun res5 => onRes res5 (fun r156 => some r156) fun _ =>
    some true

def p_laws_eqInt64SSS_L1 (a : (List (List (List Int)))) (b : (List (List (List Int)))) (k7 : Nat) : Option (Ctl (Unit) (Bool)) :=
  (idx a (k7 : Int)).bind fun x53 =>
  (idx b (k7 : Int)).bind fun x99 =>
  (p_laws_eqInt64SS x53 x99).bind fun x130 =>
  if (!x130) = true then
    some (.ret false)
  else
    some (.next ())

def p_laws_eqInt64SSS (a : (List (List (List Int)))) (b : (List (List (List Int)))) : Option (Bool) :=
  if (((a).length : Int) != ((b).length : Int)) = true then
    some false
  else
    (forN (fun k s => p_laws_eqInt64SSS_L1 a b k ) (a).length 0 ()).bind fun res5 => onRes res5 (fun r156 => some r156) fun _ =>
    some true

def p_laws_eqCocycle (a_Orders : (List Int)) (a_Modulus : Int) (a_Values : (List (List (List Int)))) (b_Orders : (List Int)) (b_Modulus : Int) (b_Values : (List (List (List Int)))) : Option (Bool) :=
  (p_laws_eqInt64S a_Orders b_Orders).bind fun x18 =>
  if (!x18) = true then
    some false
  else
    if (a_Modulus != b_Modulus) = true then
      some false
    else
      (p_laws_eqInt64SSS a_Values b_Values).bind fun x28 =>
      if (!x28) = true then
        some false
      else
        some true

def p_laws_FnExactIsCoboundary (aC_Orders : (List Int)) (aC_Modulus : Int) (aC_Values : (List (List (List Int)))) : Option (Bool) :=
  (p_laws_szCocycle aC_Orders aC_Modulus aC_Values (1048576 : Int)).bind fun x9 =>
  if (decide (x9 < (0 : Int))) = true then
    some true
  else
    (p_laws_toCocycle aC_Orders aC_Modulus aC_Values).bind fun x18 =>
    (p_spec_IsCoboundary x18.1 x18.2.1 x18.2.2).bind fun x32 =>
    (p_laws_toCocycle aC_Orders aC_Modulus aC_Values).bind fun x39 =>
    (p_impl_IsCoboundary x39.1 x39.2.1 x39.2.2).bind fun x54 =>
    if ((x54.1 != x32.1) || (x54.2 != x32.2)) = true then
      some false
    else
      (p_laws_toCocycle aC_Orders aC_Modulus aC_Values).bind fun x96 =>
      (p_laws_eqCocycle x39.1 x39.2.1 x39.2.2 x96.1 x96.2.1 x96.2.2).bind fun x120 =>
      if (!x120) = true then
        some false
      else
        some true

end
end Go.VG
