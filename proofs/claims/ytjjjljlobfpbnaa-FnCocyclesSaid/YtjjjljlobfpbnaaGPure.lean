/- The functions' plain twins, as a program of ours printed them. No proof. -/
import Derived.Test.YtjjjljlobfpbnaaVgPure
set_option linter.all false
namespace Go.VG
noncomputable section

def p_laws_big (code : (List Int)) : Option (Bool) :=
  some (decide (((code).length : Int) > (4096 : Int)))

def p_spec_l01From_L1 (code : (List Int)) (x10 : Int) (x11 : Int) : Option (Ctl (Int × Int) (Unit)) :=
  if ((decide (x11 < ((code).length : Int))) && (decide (x11 < (4096 : Int)))) = true then
    (idx code x11).bind fun x122 =>
    some (.next ((IntKind.u64.wrap ((IntKind.u64.wrap ((IntKind.u64.wrap (x10 * (1099511628211 : Int))) + (IntKind.u64.wrap x122))) + (11 : Int))), (w64 (x11 + (1 : Int)))))
  else
    some (.brk (x10, x11))

def p_spec_l01From (code : (List Int)) : Option (Int × Int) :=
  (whileC (fun s => p_spec_l01From_L1 code s.1 s.2) ((IntKind.u64.wrap ((7219 : Int) + (IntKind.u64.wrap ((code).length : Int)))), (0 : Int))).bind fun res7 => onRes res7 (fun r204 => none) fun (s198p : Int × Int) =>
  some ((0 : Int), s198p.1)

def p_spec_l01Next (s_code : (List Int)) (s_at : Int) (s_hash : Int) (n : Int) : Option (Int × Int × Int) :=
  if (decide (n < (1 : Int))) = true then
    some ((0 : Int), s_at, s_hash)
  else
    (if (decide (s_at < ((s_code).length : Int))) = true then
      (idx s_code s_at).bind fun x206 =>
      some ((w64 (s_at + (1 : Int))), (w64 ((w64 (andI .u64 (((IntKind.u64.wrap ((IntKind.u64.wrap (s_hash * (6364136223846793005 : Int))) + (1442695040888963407 : Int)))).fdiv (2 ^ 33)) (16777215 : Int))) + (w64 x206))))
    else
      some (s_at, (w64 (andI .u64 (((IntKind.u64.wrap ((IntKind.u64.wrap (s_hash * (6364136223846793005 : Int))) + (1442695040888963407 : Int)))).fdiv (2 ^ 33)) (16777215 : Int))))).bind fun ⟨x106, x107⟩ =>
    (remI x107 n).bind fun x259 =>
    some (x259, x106, (IntKind.u64.wrap ((IntKind.u64.wrap (s_hash * (6364136223846793005 : Int))) + (1442695040888963407 : Int))))

def p_spec_l06Empty_L2 (n : Int) (k31 : Nat) (x32 : (List (List Int))) : Option (Ctl ((List (List Int))) (Unit)) :=
  (mkL n (0 : Int)).bind fun x51 =>
  (appL x32 [x51]).bind fun x63 =>
  some (.next x63)

def p_spec_l06Empty_L1 (n : Int) (k7 : Nat) (x8 : (List (List (List Int)))) : Option (Ctl ((List (List (List Int)))) (Unit)) :=
  (forN (fun k s => p_spec_l06Empty_L2 n k s) (n).toNat 0 ([] : (List (List Int)))).bind fun res29 => onRes res29 (fun r108 => none) fun (x89 : (List (List Int))) =>
  (appL x8 [x89]).bind fun x102 =>
  some (.next x102)

def p_spec_l06Empty (n : Int) : Option ((List (List (List Int)))) :=
  (forN (fun k s => p_spec_l06Empty_L1 n k s) (n).toNat 0 ([] : (List (List (List Int))))).bind fun res5 => onRes res5 (fun r131 => none) fun (x127 : (List (List (List Int)))) =>
  some x127

def p_spec_l17Cyclic_L3 (k24 : Nat) (k45 : Nat) (k1 : Int) (n : Int) (k67 : Nat) (x68 : (List (List (List Int)))) : Option (Ctl ((List (List (List Int)))) (Unit)) :=
  (idx x68 (k24 : Int)).bind fun x127 =>
  (idx x127 (k45 : Int)).bind fun x166 =>
  (remI (w64 (k1 * (k24 : Int))) n).bind fun x243 =>
  (idx x166 ((w64 (n - (k45 : Int))) + (k67 : Int))).bind fun x268 =>
  some (.next ((x68).set ((k24 : Int)).toNat ((x127).set ((k45 : Int)).toNat ((x166).set (((w64 (n - (k45 : Int))) + (k67 : Int))).toNat x243))))

def p_spec_l17Cyclic_L2 (k24 : Nat) (k1 : Int) (n : Int) (k45 : Nat) (x46 : (List (List (List Int)))) : Option (Ctl ((List (List (List Int)))) (Unit)) :=
  (forN (fun k s => p_spec_l17Cyclic_L3 k24 k45 k1 n k s) (n - (w64 (n - (k45 : Int)))).toNat 0 x46).bind fun res65 => onRes res65 (fun r303 => none) fun (x295 : (List (List (List Int)))) =>
  some (.next x295)

def p_spec_l17Cyclic_L1 (k1 : Int) (n : Int) (k24 : Nat) (x25 : (List (List (List Int)))) : Option (Ctl ((List (List (List Int)))) (Unit)) :=
  (forN (fun k s => p_spec_l17Cyclic_L2 k24 k1 n k s) (n).toNat 0 x25).bind fun res43 => onRes res43 (fun r331 => none) fun (x324 : (List (List (List Int)))) =>
  some (.next x324)

def p_spec_l17Cyclic (n : Int) (k1 : Int) : Option ((List Int) × Int × (List (List (List Int)))) :=
  (p_spec_l06Empty n).bind fun x9 =>
  (forN (fun k s => p_spec_l17Cyclic_L1 k1 n k s) (n).toNat 0 x9).bind fun res22 => onRes res22 (fun r357 => none) fun (x351 : (List (List (List Int)))) =>
  some (([n] : (List Int)), n, x351)

def p_spec_l17Mixed_L1  (x8 : Int) (x9 : Int) : Option (Ctl (Int × Int) (Unit)) :=
  if (decide (x9 > (0 : Int))) = true then
    (remI x8 x9).bind fun x29 =>
    some (.next (x9, x29))
  else
    some (.brk (x8, x9))

def p_spec_l17Mixed_L4 (k89 : Nat) (m : Int) (k66 : Nat) (k1 : Int) (x38 : Int) (k113 : Nat) (x114 : (List (List (List Int)))) : Option (Ctl ((List (List (List Int)))) (Unit)) :=
  (remI (k89 : Int) m).bind fun x166 =>
  (remI (k113 : Int) m).bind fun x200 =>
  (if (decide ((w64 (x166 + x200)) ≥ m)) = true then
    (idx x114 (k66 : Int)).bind fun x291 =>
    (idx x291 (k89 : Int)).bind fun x330 =>
    (quoI .i64 (k66 : Int) m).bind fun x391 =>
    (remI (w64 (k1 * x391)) x38).bind fun x434 =>
    (idx x330 (k113 : Int)).bind fun x461 =>
    some ((x114).set ((k66 : Int)).toNat ((x291).set ((k89 : Int)).toNat ((x330).set ((k113 : Int)).toNat x434)))
  else
    some x114).bind fun (x249 : (List (List (List Int)))) =>
  some (.next x249)

def p_spec_l17Mixed_L3 (m : Int) (k66 : Nat) (k1 : Int) (x38 : Int) (n : Int) (k89 : Nat) (x90 : (List (List (List Int)))) : Option (Ctl ((List (List (List Int)))) (Unit)) :=
  (forN (fun k s => p_spec_l17Mixed_L4 k89 m k66 k1 x38 k s) ((w64 (n * m))).toNat 0 x90).bind fun res111 => onRes res111 (fun r513 => none) fun (x503 : (List (List (List Int)))) =>
  some (.next x503)

def p_spec_l17Mixed_L2 (m : Int) (k1 : Int) (x38 : Int) (n : Int) (k66 : Nat) (x67 : (List (List (List Int)))) : Option (Ctl ((List (List (List Int)))) (Unit)) :=
  (forN (fun k s => p_spec_l17Mixed_L3 m k66 k1 x38 n k s) ((w64 (n * m))).toNat 0 x67).bind fun res87 => onRes res87 (fun r545 => none) fun (x536 : (List (List (List Int)))) =>
  some (.next x536)

def p_spec_l17Mixed (n : Int) (m : Int) (k1 : Int) : Option ((List Int) × Int × (List (List (List Int)))) :=
  (whileC (fun s => p_spec_l17Mixed_L1  s.1 s.2) (n, m)).bind fun res5 => onRes res5 (fun r574 => none) fun (s37p : Int × Int) =>
  (p_spec_l06Empty (w64 (n * m))).bind fun x51 =>
  (forN (fun k s => p_spec_l17Mixed_L2 m k1 s37p.1 n k s) ((w64 (n * m))).toNat 0 x51).bind fun res64 => onRes res64 (fun r573 => none) fun (x567 : (List (List (List Int)))) =>
  some (([n, m] : (List Int)), s37p.1, x567)

def p_spec_TripleCocycle_L3 (k24 : Nat) (k43 : Nat) (k63 : Nat) (x64 : (List (List (List Int)))) : Option (Ctl ((List (List (List Int)))) (Unit)) :=
  (idx x64 (k24 : Int)).bind fun x82 =>
  (idx x82 (k43 : Int)).bind fun x89 =>
  (idx x89 (k63 : Int)).bind fun x96 =>
  some (.next ((x64).set ((k24 : Int)).toNat ((x82).set ((k43 : Int)).toNat ((x89).set ((k63 : Int)).toNat (w64 ((w64 ((w64 (((k24 : Int)).tdiv (4 : Int))) * (((w64 (((k43 : Int)).tdiv (2 : Int)))).tmod (2 : Int)))) * (((k63 : Int)).tmod (2 : Int))))))))

def p_spec_TripleCocycle_L2 (k24 : Nat) (k43 : Nat) (x44 : (List (List (List Int)))) : Option (Ctl ((List (List (List Int)))) (Unit)) :=
  (forN (fun k s => p_spec_TripleCocycle_L3 k24 k43 k s) ((8 : Int)).toNat 0 x44).bind fun res61 => onRes res61 (fun r127 => none) fun (x121 : (List (List (List Int)))) =>
  some (.next x121)

def p_spec_TripleCocycle_L1  (k24 : Nat) (x25 : (List (List (List Int)))) : Option (Ctl ((List (List (List Int)))) (Unit)) :=
  (forN (fun k s => p_spec_TripleCocycle_L2 k24 k s) ((8 : Int)).toNat 0 x25).bind fun res41 => onRes res41 (fun r151 => none) fun (x146 : (List (List (List Int)))) =>
  some (.next x146)

def p_spec_TripleCocycle  : Option ((List Int) × Int × (List (List (List Int)))) :=
  (p_spec_l06Empty (8 : Int)).bind fun x9 =>
  (forN (fun k s => p_spec_TripleCocycle_L1  k s) ((8 : Int)).toNat 0 x9).bind fun res22 => onRes res22 (fun r175 => none) fun (x169 : (List (List (List Int)))) =>
  some (([(2 : Int), (2 : Int), (2 : Int)] : (List Int)), (2 : Int), x169)

def p_spec_l06DrawOrders_L1 (s_code : (List Int)) (most : Int) (x24 : Int) (x25 : Int) (x26 : (List Int)) (x27 : Int) : Option (Ctl (Int × Int × (List Int) × Int) (Unit)) :=
  (p_spec_l01Next s_code x24 x25 (2 : Int)).bind fun x45 =>
  if (((x45.1 == (0 : Int)) && (decide (((x26).length : Int) < (4 : Int)))) && (decide ((w64 ((2 : Int) * x27)) ≤ most))) = true then
    (quoI .i64 most x27).bind fun x77 =>
    (p_spec_l01Next s_code x45.2.1 x45.2.2 (w64 (x77 - (1 : Int)))).bind fun x81 =>
    (appL x26 ([(w64 ((2 : Int) + x81.1))] : (List Int))).bind fun x94 =>
    some (.next (x81.2.1, x81.2.2, x94, (w64 (x27 * (w64 ((2 : Int) + x81.1))))))
  else
    some (.brk (x45.2.1, x45.2.2, x26, x27))

def p_spec_l06DrawOrders (s_code : (List Int)) (s_at : Int) (s_hash : Int) (most : Int) : Option ((List Int) × Int × Int) :=
  (p_spec_l01Next s_code s_at s_hash most).bind fun x1 =>
  (idx ([(w64 ((1 : Int) + x1.1))] : (List Int)) (0 : Int)).bind fun x14 =>
  (whileC (fun s => p_spec_l06DrawOrders_L1 s_code most s.1 s.2.1 s.2.2.1 s.2.2.2) (x1.2.1, x1.2.2, ([(w64 ((1 : Int) + x1.1))] : (List Int)), x14)).bind fun res21 => onRes res21 (fun r114 => none) fun (s104p : Int × Int × (List Int) × Int) =>
  some (s104p.2.2.1, s104p.1, s104p.2.1)

def p_spec_l06Size_L1 (orders : (List Int)) (limit : Int) (k3 : Nat) (x4 : Int) : Option (Ctl (Int) (Int)) :=
  (idx orders (k3 : Int)).bind fun x23 =>
  if (decide (x23 > limit)) = true then
    some (.ret (w64 (limit + (1 : Int))))
  else
    if (decide ((w64 (x4 * x23)) > limit)) = true then
      some (.ret (w64 (limit + (1 : Int))))
    else
      some (.next (w64 (x4 * x23)))

def p_spec_l06Size (orders : (List Int)) (limit : Int) : Option (Int) :=
  (forN (fun k s => p_spec_l06Size_L1 orders limit k s) (orders).length 0 (1 : Int)).bind fun res1 => onRes res1 (fun r61 => some r61) fun (x57 : Int) =>
  some x57

def p_spec_l17Size (orders : (List Int)) : Option (Int) :=
  (p_spec_l06Size orders (8 : Int)).bind fun x1 =>
  some x1

def p_spec_l01Pick (s_code : (List Int)) (s_at : Int) (s_hash : Int) (list : (List Int)) : Option (Int × Int × Int) :=
  (p_spec_l01Next s_code s_at s_hash ((list).length : Int)).bind fun x2 =>
  (idx list x2.1).bind fun x11 =>
  some (x11, x2.2.1, x2.2.2)

def p_spec_l17DrawPairing_L2 (k7 : Nat) (s_code : (List Int)) (m : Int) (k37 : Nat) (x38 : Int) (x39 : Int) (x40 : (List Int)) : Option (Ctl (Int × Int × (List Int)) (Unit)) :=
  (if (((k7 : Int) == (0 : Int)) || ((k37 : Int) == (0 : Int))) = true then
    (appL x40 ([(0 : Int)] : (List Int))).bind fun x85 =>
    some (x38, x39, x85)
  else
    (p_spec_l01Next s_code x38 x39 (if m > (1 : Int) then m else (1 : Int))).bind fun x91 =>
    (appL x40 ([x91.1] : (List Int))).bind fun x104 =>
    some (x91.2.1, x91.2.2, x104)).bind fun ⟨x76, x77, x78⟩ =>
  some (.next (x76, x77, x78))

def p_spec_l17DrawPairing_L1 (s_code : (List Int)) (m : Int) (n : Int) (k7 : Nat) (x8 : Int) (x9 : Int) (x10 : (List (List Int))) : Option (Ctl (Int × Int × (List (List Int))) (Unit)) :=
  (forN (fun k s => p_spec_l17DrawPairing_L2 k7 s_code m k s.1 s.2.1 s.2.2) (n).toNat 0 (x8, x9, ([] : (List Int)))).bind fun res35 => onRes res35 (fun r175 => none) fun (s149p : Int × Int × (List Int)) =>
  (appL x10 [s149p.2.2]).bind fun x169 =>
  some (.next (s149p.1, s149p.2.1, x169))

def p_spec_l17DrawPairing (s_code : (List Int)) (s_at : Int) (s_hash : Int) (n : Int) (m : Int) : Option ((List (List Int)) × Int × Int) :=
  (forN (fun k s => p_spec_l17DrawPairing_L1 s_code m n k s.1 s.2.1 s.2.2) (n).toNat 0 (s_at, s_hash, ([] : (List (List Int))))).bind fun res5 => onRes res5 (fun r208 => none) fun (s199p : Int × Int × (List (List Int))) =>
  some (s199p.2.2, s199p.1, s199p.2.1)

def p_spec_l01Own (list : (List Int)) : Option ((List Int)) :=
  (appL ([] : (List Int)) list).bind fun x5 =>
  some x5

def p_spec_l06Add_L1 (orders : (List Int)) (x5 : Int) (x6 : Int) (x7 : Int) (x8 : Int) (x9 : Int) : Option (Ctl (Int × Int × Int × Int × Int) (Unit)) :=
  if (decide (x9 ≥ (0 : Int))) = true then
    (idx orders x9).bind fun x75 =>
    (remI x5 x75).bind fun x108 =>
    (remI x6 x75).bind fun x177 =>
    (remI (w64 (x108 + x177)) x75).bind fun x255 =>
    (quoI .i64 x5 x75).bind fun x306 =>
    (quoI .i64 x6 x75).bind fun x313 =>
    some (.next (x306, x313, (w64 (x7 + (w64 (x255 * x8)))), (w64 (x8 * x75)), (w64 (x9 - (1 : Int)))))
  else
    some (.brk (x5, x6, x7, x8, x9))

def p_spec_l06Add (orders : (List Int)) (x : Int) (y : Int) : Option (Int) :=
  (whileC (fun s => p_spec_l06Add_L1 orders s.1 s.2.1 s.2.2.1 s.2.2.2.1 s.2.2.2.2) (x, y, (0 : Int), (1 : Int), (w64 (((orders).length : Int) - (1 : Int))))).bind fun res2 => onRes res2 (fun r330 => none) fun (s321p : Int × Int × Int × Int × Int) =>
  some s321p.2.2.1

def p_spec_l17Coboundary_L3 (f1 : (List (List Int))) (k51 : Nat) (orders : (List Int)) (k28 : Nat) (m : Int) (k75 : Nat) (x76 : (List (List (List Int)))) : Option (Ctl ((List (List (List Int)))) (Unit)) :=
  (idx f1 (k51 : Int)).bind fun x127 =>
  (idx x127 (k75 : Int)).bind fun x166 =>
  (p_spec_l06Add orders (k28 : Int) (k51 : Int)).bind fun x231 =>
  (idx f1 x231).bind fun x252 =>
  (idx x252 (k75 : Int)).bind fun x291 =>
  (idx f1 (k28 : Int)).bind fun x353 =>
  (p_spec_l06Add orders (k51 : Int) (k75 : Int)).bind fun x411 =>
  (idx x353 x411).bind fun x432 =>
  (idx x353 (k51 : Int)).bind fun x529 =>
  (idx x76 (k28 : Int)).bind fun x607 =>
  (idx x607 (k51 : Int)).bind fun x646 =>
  (remI (w64 ((w64 ((w64 ((w64 (x166 - x291)) + x432)) - x529)) + (w64 ((2 : Int) * m)))) m).bind fun x734 =>
  (idx x646 (k75 : Int)).bind fun x761 =>
  some (.next ((x76).set ((k28 : Int)).toNat ((x607).set ((k51 : Int)).toNat ((x646).set ((k75 : Int)).toNat x734))))

def p_spec_l17Coboundary_L2 (f1 : (List (List Int))) (orders : (List Int)) (k28 : Nat) (m : Int) (k51 : Nat) (x52 : (List (List (List Int)))) : Option (Ctl ((List (List (List Int)))) (Unit)) :=
  (forN (fun k s => p_spec_l17Coboundary_L3 f1 k51 orders k28 m k s) (f1).length 0 x52).bind fun res73 => onRes res73 (fun r800 => none) fun (x790 : (List (List (List Int)))) =>
  some (.next x790)

def p_spec_l17Coboundary_L1 (f1 : (List (List Int))) (orders : (List Int)) (m : Int) (k28 : Nat) (x29 : (List (List (List Int)))) : Option (Ctl ((List (List (List Int)))) (Unit)) :=
  (forN (fun k s => p_spec_l17Coboundary_L2 f1 orders k28 m k s) (f1).length 0 x29).bind fun res49 => onRes res49 (fun r832 => none) fun (x823 : (List (List (List Int)))) =>
  some (.next x823)

def p_spec_l17Coboundary (orders : (List Int)) (m : Int) (f1 : (List (List Int))) : Option ((List Int) × Int × (List (List (List Int)))) :=
  (p_spec_l01Own orders).bind fun x6 =>
  (p_spec_l06Empty ((f1).length : Int)).bind fun x13 =>
  (forN (fun k s => p_spec_l17Coboundary_L1 f1 orders m k s) (f1).length 0 x13).bind fun res26 => onRes res26 (fun r860 => none) fun (x854 : (List (List (List Int)))) =>
  some (x6, m, x854)

def p_spec_l01Own2_L1 (lists : (List (List Int))) (k7 : Nat) (x8 : (List (List Int))) : Option (Ctl ((List (List Int))) (Unit)) :=
  (idx lists (k7 : Int)).bind fun x26 =>
  (p_spec_l01Own x26).bind fun x33 =>
  (appL x8 [x33]).bind fun x46 =>
  some (.next x46)

def p_spec_l01Own2 (lists : (List (List Int))) : Option ((List (List Int))) :=
  (forN (fun k s => p_spec_l01Own2_L1 lists k s) (lists).length 0 ([] : (List (List Int)))).bind fun res5 => onRes res5 (fun r75 => none) fun (x71 : (List (List Int))) =>
  some x71

def p_spec_l03Own_L1 (t : (List (List (List Int)))) (k7 : Nat) (x8 : (List (List (List Int)))) : Option (Ctl ((List (List (List Int)))) (Unit)) :=
  (idx t (k7 : Int)).bind fun x26 =>
  (p_spec_l01Own2 x26).bind fun x33 =>
  (appL x8 [x33]).bind fun x46 =>
  some (.next x46)

def p_spec_l03Own (t : (List (List (List Int)))) : Option ((List (List (List Int)))) :=
  (forN (fun k s => p_spec_l03Own_L1 t k s) (t).length 0 ([] : (List (List (List Int))))).bind fun res5 => onRes res5 (fun r75 => none) fun (x71 : (List (List (List Int)))) =>
  some x71

def p_spec_l17Sum_L3 (x156 : Int) (x179 : Int) (c_Values : (List (List (List Int)))) (d_Values : (List (List (List Int)))) (c_Modulus : Int) (k201 : Nat) (x202 : (List (List (List Int)))) : Option (Ctl ((List (List (List Int)))) (Unit)) :=
  (idx x202 x156).bind fun x263 =>
  (idx x263 x179).bind fun x302 =>
  (idx c_Values x156).bind fun x365 =>
  (idx x365 x179).bind fun x404 =>
  (idx x404 (k201 : Int)).bind fun x443 =>
  (idx d_Values x156).bind fun x499 =>
  (idx x499 x179).bind fun x538 =>
  (idx x538 (k201 : Int)).bind fun x577 =>
  (remI (w64 (x443 + x577)) c_Modulus).bind fun x643 =>
  (idx x302 (k201 : Int)).bind fun x668 =>
  some (.next ((x202).set (x156).toNat ((x263).set (x179).toNat ((x302).set ((k201 : Int)).toNat x643))))

def p_spec_l17Sum_L2 (x156 : Int) (c_Values : (List (List (List Int)))) (d_Values : (List (List (List Int)))) (c_Modulus : Int) (x178 : (List (List (List Int)))) (x179 : Int) : Option (Ctl ((List (List (List Int))) × Int) (Unit)) :=
  if (decide (x179 < ((x178).length : Int))) = true then
    (forN (fun k s => p_spec_l17Sum_L3 x156 x179 c_Values d_Values c_Modulus k s) (x178).length 0 x178).bind fun res199 => onRes res199 (fun r706 => none) fun (x697 : (List (List (List Int)))) =>
    some (.next (x697, (w64 (x179 + (1 : Int)))))
  else
    some (.brk (x178, x179))

def p_spec_l17Sum_L1 (c_Values : (List (List (List Int)))) (d_Values : (List (List (List Int)))) (c_Modulus : Int) (x155 : (List (List (List Int)))) (x156 : Int) : Option (Ctl ((List (List (List Int))) × Int) (Unit)) :=
  if (decide (x156 < ((x155).length : Int))) = true then
    (whileC (fun s => p_spec_l17Sum_L2 x156 c_Values d_Values c_Modulus s.1 s.2) (x155, (0 : Int))).bind fun res175 => onRes res175 (fun r720 => none) fun (s711p : (List (List (List Int))) × Int) =>
    some (.next (s711p.1, (w64 (x156 + (1 : Int)))))
  else
    some (.brk (x155, x156))

def p_spec_l17Sum (c_Orders : (List Int)) (c_Modulus : Int) (c_Values : (List (List (List Int)))) (d_Orders : (List Int)) (d_Modulus : Int) (d_Values : (List (List (List Int)))) : Option ((List Int) × Int × (List (List (List Int)))) :=
  (p_spec_l01Own c_Orders).bind fun x49 =>
  (p_spec_l03Own c_Values).bind fun x99 =>
  (whileC (fun s => p_spec_l17Sum_L1 c_Values d_Values c_Modulus s.1 s.2) (x99, (0 : Int))).bind fun res152 => onRes res152 (fun r733 => none) fun (s725p : (List (List (List Int))) × Int) =>
  some (x49, c_Modulus, s725p.1)

def p_spec_l17Draw (s_code : (List Int)) (s_at : Int) (s_hash : Int) : Option ((List Int) × Int × (List (List (List Int))) × Int × Int) :=
  (p_spec_l01Next s_code s_at s_hash (5 : Int)).bind fun x13 =>
  (if (x13.1 == (0 : Int)) = true then
    some (x13.1 == (0 : Int))
  else
    some (x13.1 == (1 : Int))).bind fun (x22 : Bool) =>
  (if x22 = true then
    (p_spec_l01Next s_code x13.2.1 x13.2.2 (8 : Int)).bind fun x37 =>
    (p_spec_l01Next s_code x37.2.1 x37.2.2 (w64 ((1 : Int) + x37.1))).bind fun x46 =>
    (p_spec_l17Cyclic (w64 ((1 : Int) + x37.1)) x46.1).bind fun x55 =>
    some (.fin (x46.2.1, x46.2.2, x55.1, x55.2.1, x55.2.2))
  else
    if (x13.1 == (2 : Int)) = true then
      (p_spec_l01Next s_code x13.2.1 x13.2.2 (4 : Int)).bind fun x68 =>
      (quoI .i64 (8 : Int) (w64 ((1 : Int) + x68.1))).bind fun x77 =>
      (p_spec_l01Next s_code x68.2.1 x68.2.2 x77).bind fun x81 =>
      (p_spec_l01Next s_code x81.2.1 x81.2.2 (4 : Int)).bind fun x90 =>
      (p_spec_l17Mixed (w64 ((1 : Int) + x68.1)) (w64 ((1 : Int) + x81.1)) x90.1).bind fun x99 =>
      some (.fin (x90.2.1, x90.2.2, x99.1, x99.2.1, x99.2.2))
    else
      if (x13.1 == (3 : Int)) = true then
        (p_spec_TripleCocycle ).bind fun x112 =>
        some (.fin (x13.2.1, x13.2.2, x112.1, x112.2.1, x112.2.2))
      else
        (p_spec_l06DrawOrders s_code x13.2.1 x13.2.2 (8 : Int)).bind fun x123 =>
        (p_spec_l17Size x123.1).bind fun x132 =>
        (p_spec_l01Pick s_code x123.2.1 x123.2.2 ([(1 : Int), (2 : Int), (3 : Int), (4 : Int), (5 : Int), (7 : Int), (12 : Int)] : (List Int))).bind fun x143 =>
        (p_spec_l17DrawPairing s_code x143.2.1 x143.2.2 x132 x143.1).bind fun x152 =>
        (p_spec_l17Coboundary x123.1 x143.1 x152.1).bind fun x161 =>
        some (.ret (x161.1, x161.2.1, x161.2.2, x152.2.1, x152.2.2))).bind fun (res34 : Res (Int × Int × (List Int) × Int × (List (List (List Int)))) ((List Int) × Int × (List (List (List Int))) × Int × Int)) => onRes res34 (fun r250 => some r250) fun (s175 : Int × Int × (List Int) × Int × (List (List (List Int)))) =>
  (p_spec_l01Next s_code s175.1 s175.2.1 (2 : Int)).bind fun x185 =>
  (if (x185.1 == (0 : Int)) = true then
    (p_spec_l17DrawPairing s_code x185.2.1 x185.2.2 ((s175.2.2.2.2).length : Int) s175.2.2.2.1).bind fun x202 =>
    (p_spec_l17Coboundary s175.2.2.1 s175.2.2.2.1 x202.1).bind fun x211 =>
    (p_spec_l17Sum s175.2.2.1 s175.2.2.2.1 s175.2.2.2.2 x211.1 x211.2.1 x211.2.2).bind fun x220 =>
    some (x202.2.1, x202.2.2, x220.1, x220.2.1, x220.2.2)
  else
    some (x185.2.1, x185.2.2, s175.2.2.1, s175.2.2.2.1, s175.2.2.2.2)).bind fun ⟨x194, x195, x196, x197, x198⟩ =>
  some (x196, x197, x198, x194, x195)

def p_spec_l17DrawAny (s_code : (List Int)) (s_at : Int) (s_hash : Int) : Option ((List Int) × Int × (List (List (List Int))) × Int × Int) :=
  (p_spec_l17Draw s_code s_at s_hash).bind fun x5 =>
  (p_spec_l01Next s_code x5.2.2.2.1 x5.2.2.2.2 (16 : Int)).bind fun x23 =>
  (if (x23.1 == (0 : Int)) = true then
    (p_spec_l01Next s_code x23.2.1 x23.2.2 ((x5.2.2.1).length : Int)).bind fun x39 =>
    (idx x5.2.2.1 x39.1).bind fun x48 =>
    (p_spec_l01Next s_code x39.2.1 x39.2.2 ((x5.2.2.1).length : Int)).bind fun x52 =>
    (idx x48 x52.1).bind fun x61 =>
    (p_spec_l01Next s_code x52.2.1 x52.2.2 ((x5.2.2.1).length : Int)).bind fun x65 =>
    (p_spec_l01Next s_code x65.2.1 x65.2.2 (w64 (x5.2.1 + (1 : Int)))).bind fun x74 =>
    (idx x61 x65.1).bind fun x83 =>
    some (x74.2.1, x74.2.2, x5.1, ((x5.2.2.1).set (x39.1).toNat ((x48).set (x52.1).toNat ((x61).set (x65.1).toNat x74.1))), x5.2.1)
  else
    (if (x23.1 == (1 : Int)) = true then
      (p_spec_l01Pick s_code x23.2.1 x23.2.2 ([(0 : Int), (1001 : Int), (2 : Int)] : (List Int))).bind fun x116 =>
      some (x116.2.1, x116.2.2, x5.1, x116.1)
    else
      (if (x23.1 == (2 : Int)) = true then
        (p_spec_l01Pick s_code x23.2.1 x23.2.2 ([(0 : Int), (2 : Int)] : (List Int))).bind fun x136 =>
        (appL x5.1 ([x136.1] : (List Int))).bind fun x149 =>
        some (x136.2.1, x136.2.2, x149)
      else
        some (x23.2.1, x23.2.2, x5.1)).bind fun ⟨x127, x128, x129⟩ =>
      some (x127, x128, x129, x5.2.1)).bind fun ⟨x106, x107, x108, x109⟩ =>
    some (x106, x107, x108, x5.2.2.1, x109)).bind fun ⟨x32, x33, x34, x35, x36⟩ =>
  some (x34, x36, x35, x32, x33)

def p_spec_l06Orders_L1 (orders : (List Int)) (k3 : Nat) : Option (Ctl (Unit) (Bool)) :=
  (idx orders (k3 : Int)).bind fun x19 =>
  if (decide (x19 < (1 : Int))) = true then
    some (.ret false)
  else
    some (.next ())

def p_spec_l06Orders (orders : (List Int)) : Option (Bool) :=
  (forN (fun k s => p_spec_l06Orders_L1 orders k ) (orders).length 0 ()).bind fun res1 => onRes res1 (fun r47 => some r47) fun _ =>
  some (decide (((orders).length : Int) > (0 : Int)))

def p_spec_l01In (n : Int) (low : Int) (high : Int) : Option (Bool) :=
  some ((decide (n ≥ low)) && (decide (n ≤ high)))

def p_spec_l17Shape_L3 (x100 : (List Int)) (c_Modulus : Int) (k112 : Nat) : Option (Ctl (Unit) (Bool)) :=
  (idx x100 (k112 : Int)).bind fun x239 =>
  (p_spec_l01In x239 (0 : Int) (w64 (c_Modulus - (1 : Int)))).bind fun x302 =>
  if (!x302) = true then
    some (.ret false)
  else
    some (.next ())

def p_spec_l17Shape_L2 (x68 : (List (List Int))) (x32 : Int) (c_Modulus : Int) (k80 : Nat) : Option (Ctl (Unit) (Bool)) :=
  (idx x68 (k80 : Int)).bind fun x100 =>
  if (((x100).length : Int) != x32) = true then
    some (.ret false)
  else
    (forN (fun k s => p_spec_l17Shape_L3 x100 c_Modulus k ) (x32).toNat 0 ()).bind fun res110 => onRes res110 (fun r333 => some (.ret r333)) fun _ =>
    some (.next ())

def p_spec_l17Shape_L1 (c_Values : (List (List (List Int)))) (x32 : Int) (c_Modulus : Int) (k52 : Nat) : Option (Ctl (Unit) (Bool)) :=
  (idx c_Values (k52 : Int)).bind fun x68 =>
  if (((x68).length : Int) != x32) = true then
    some (.ret false)
  else
    (forN (fun k s => p_spec_l17Shape_L2 x68 x32 c_Modulus k ) (x32).toNat 0 ()).bind fun res78 => onRes res78 (fun r355 => some (.ret r355)) fun _ =>
    some (.next ())

def p_spec_l17Shape (c_Orders : (List Int)) (c_Modulus : Int) (c_Values : (List (List (List Int)))) : Option (Bool) :=
  (p_spec_l06Orders c_Orders).bind fun x9 =>
  (if (!x9) = true then
    some true
  else
    (p_spec_l01In c_Modulus (1 : Int) (1000 : Int)).bind fun x21 =>
    some (!x21)).bind fun (x16 : Bool) =>
  if x16 = true then
    some false
  else
    (p_spec_l17Size c_Orders).bind fun x32 =>
    if ((decide (x32 > (8 : Int))) || (((c_Values).length : Int) != x32)) = true then
      some false
    else
      (forN (fun k s => p_spec_l17Shape_L1 c_Values x32 c_Modulus k ) (x32).toNat 0 ()).bind fun res50 => onRes res50 (fun r373 => some r373) fun _ =>
      some true

def p_spec_DrawCocycleFault (code : (List Int)) : Option ((List Int) × Int × (List (List (List Int)))) :=
  (p_spec_l01From code).bind fun x5 =>
  (p_spec_l17DrawAny code x5.1 x5.2).bind fun x14 =>
  (p_spec_l17Shape x14.1 x14.2.1 x14.2.2.1).bind fun x32 =>
  (if (x32 && (decide (((x14.2.2.1).length : Int) > (1 : Int)))) = true then
    (p_spec_l01Next code x14.2.2.2.1 x14.2.2.2.2 (2 : Int)).bind fun x56 =>
    some (x56.2.1, x56.2.2, (x56.1 == (0 : Int)))
  else
    some (x14.2.2.2.1, x14.2.2.2.2, false)).bind fun ⟨x49, x50, x51⟩ =>
  (if x51 = true then
    (p_spec_l01Next code x49 x50 (w64 (((x14.2.2.1).length : Int) - (1 : Int)))).bind fun x76 =>
    (idx x14.2.2.1 (w64 ((1 : Int) + x76.1))).bind fun x85 =>
    (p_spec_l01Next code x76.2.1 x76.2.2 (w64 (((x14.2.2.1).length : Int) - (1 : Int)))).bind fun x89 =>
    (idx x85 (w64 ((1 : Int) + x89.1))).bind fun x98 =>
    (p_spec_l01Next code x89.2.1 x89.2.2 (w64 (((x14.2.2.1).length : Int) - (1 : Int)))).bind fun x102 =>
    (p_spec_l01Next code x102.2.1 x102.2.2 x14.2.1).bind fun x111 =>
    (idx x98 (w64 ((1 : Int) + x102.1))).bind fun x120 =>
    some ((x14.2.2.1).set ((w64 ((1 : Int) + x76.1))).toNat ((x85).set ((w64 ((1 : Int) + x89.1))).toNat ((x98).set ((w64 ((1 : Int) + x102.1))).toNat x111.1)))
  else
    some x14.2.2.1).bind fun (x73 : (List (List (List Int)))) =>
  some (x14.1, x14.2.1, x73)

def p_impl_groupSize_L1 (orders : (List Int)) (k4 : Nat) (x5 : Int) : Option (Ctl (Int) (Int)) :=
  (idx orders (k4 : Int)).bind fun x24 =>
  if (decide (x24 < (1 : Int))) = true then
    some (.ret (0 : Int))
  else
    some (.next (if (w64 (x5 * (if (17 : Int) < x24 then (17 : Int) else x24))) < (17 : Int) then (w64 (x5 * (if (17 : Int) < x24 then (17 : Int) else x24))) else (17 : Int)))

def p_impl_groupSize (orders : (List Int)) : Option (Int) :=
  (forN (fun k s => p_impl_groupSize_L1 orders k s) (orders).length 0 (1 : Int)).bind fun res2 => onRes res2 (fun r61 => some r61) fun (x53 : Int) =>
  if (((orders).length : Int) == (0 : Int)) = true then
    some (0 : Int)
  else
    some x53

def p_impl_within (n : Int) (low : Int) (high : Int) : Option (Bool) :=
  some ((decide (n ≥ low)) && (decide (n ≤ high)))

def p_impl_isModulus (m : Int) : Option (Bool) :=
  (p_impl_within m (1 : Int) (1000 : Int)).bind fun x1 =>
  some x1

def p_impl_allWithin_c1 (n : Int) (c0 : Int) (c1 : Int) : Option (Bool) :=
  (p_impl_within n c0 c1).bind fun x1 =>
  some (!x1)

def p_slices_IndexFunc_Lint64_int64_L1 (s1 : (List Int)) (f1 : (Int → Option Bool)) (k4 : Nat) : Option (Ctl (Unit) (Int)) :=
  (idx s1 (k4 : Int)).bind fun x21 =>
  (f1 x21).bind fun x28 =>
  if x28 = true then
    some (.ret (k4 : Int))
  else
    some (.next ())

def p_slices_IndexFunc_Lint64_int64 (s1 : (List Int)) (f1 : Int → Option Bool) : Option (Int) :=
  (forN (fun k s => p_slices_IndexFunc_Lint64_int64_L1 s1 f1 k ) (s1).length 0 ()).bind fun res2 => onRes res2 (fun r54 => some r54) fun _ =>
  some (-1 : Int)

def p_slices_ContainsFunc_Lint64_int64 (s1 : (List Int)) (f1 : Int → Option Bool) : Option (Bool) :=
  (p_slices_IndexFunc_Lint64_int64 s1 f1).bind fun x1 =>
  some (decide (x1 ≥ (0 : Int)))

def p_impl_allWithin (list : (List Int)) (low : Int) (high : Int) : Option (Bool) :=
  (p_slices_ContainsFunc_Lint64_int64 list (fun a0_19 => p_impl_allWithin_c1 a0_19 low high)).bind fun x22 =>
  some (!x22)

def p_impl_isGrid_c1 (row : (List Int)) (c0 : Int) (c1 : Int) : Option (Bool) :=
  (if (((row).length : Int) != c0) = true then
    some true
  else
    (p_impl_allWithin row (0 : Int) (w64 (c1 - (1 : Int)))).bind fun x8 =>
    some (!x8)).bind fun (x3 : Bool) =>
  some x3

def p_slices_IndexFunc_LLint64_Lint64_L1 (s1 : (List (List Int))) (f1 : ((List Int) → Option Bool)) (k4 : Nat) : Option (Ctl (Unit) (Int)) :=
  (idx s1 (k4 : Int)).bind fun x21 =>
  (f1 x21).bind fun x28 =>
  if x28 = true then
    some (.ret (k4 : Int))
  else
    some (.next ())

def p_slices_IndexFunc_LLint64_Lint64 (s1 : (List (List Int))) (f1 : (List Int) → Option Bool) : Option (Int) :=
  (forN (fun k s => p_slices_IndexFunc_LLint64_Lint64_L1 s1 f1 k ) (s1).length 0 ()).bind fun res2 => onRes res2 (fun r54 => some r54) fun _ =>
  some (-1 : Int)

def p_slices_ContainsFunc_LLint64_Lint64 (s1 : (List (List Int))) (f1 : (List Int) → Option Bool) : Option (Bool) :=
  (p_slices_IndexFunc_LLint64_Lint64 s1 f1).bind fun x1 =>
  some (decide (x1 ≥ (0 : Int)))

def p_impl_isGrid (rows : (List (List Int))) (n : Int) (m : Int) : Option (Bool) :=
  (if (((rows).length : Int) == n) = true then
    (p_slices_ContainsFunc_LLint64_Lint64 rows (fun a0_26 => p_impl_isGrid_c1 a0_26 n m)).bind fun x29 =>
    some (!x29)
  else
    some false).bind fun (x20 : Bool) =>
  some x20

def p_impl_isCochain_c1 (rows : (List (List Int))) (c0 : Int) (c1_Orders : (List Int)) (c1_Modulus : Int) (c1_Values : (List (List (List Int)))) : Option (Bool) :=
  (p_impl_isGrid rows c0 c1_Modulus).bind fun x1 =>
  some (!x1)

def p_slices_IndexFunc_LLLint64_LLint64_L1 (s1 : (List (List (List Int)))) (f1 : ((List (List Int)) → Option Bool)) (k4 : Nat) : Option (Ctl (Unit) (Int)) :=
  (idx s1 (k4 : Int)).bind fun x21 =>
  (f1 x21).bind fun x28 =>
  if x28 = true then
    some (.ret (k4 : Int))
  else
    some (.next ())

def p_slices_IndexFunc_LLLint64_LLint64 (s1 : (List (List (List Int)))) (f1 : (List (List Int)) → Option Bool) : Option (Int) :=
  (forN (fun k s => p_slices_IndexFunc_LLLint64_LLint64_L1 s1 f1 k ) (s1).length 0 ()).bind fun res2 => onRes res2 (fun r54 => some r54) fun _ =>
  some (-1 : Int)

def p_slices_ContainsFunc_LLLint64_LLint64 (s1 : (List (List (List Int)))) (f1 : (List (List Int)) → Option Bool) : Option (Bool) :=
  (p_slices_IndexFunc_LLLint64_LLint64 s1 f1).bind fun x1 =>
  some (decide (x1 ≥ (0 : Int)))

def p_impl_isCochain (c_Orders : (List Int)) (c_Modulus : Int) (c_Values : (List (List (List Int)))) : Option (Bool) :=
  (p_impl_groupSize c_Orders).bind fun x9 =>
  (p_impl_within x9 (1 : Int) (8 : Int)).bind fun x22 =>
  (if (!x22) = true then
    some true
  else
    (p_impl_isModulus c_Modulus).bind fun x34 =>
    some (!x34)).bind fun (x29 : Bool) =>
  if (x29 || (((c_Values).length : Int) != x9)) = true then
    some false
  else
    (p_slices_ContainsFunc_LLLint64_LLint64 c_Values (fun a0_56 => p_impl_isCochain_c1 a0_56 x9 c_Orders c_Modulus c_Values)).bind fun x59 =>
    some (!x59)

def p_impl_Cocycle_isNormalised_L3 (x58 : (List Int)) (k12 : Nat) (k38 : Nat) (k68 : Nat) : Option (Ctl (Unit) (Bool)) :=
  (idx x58 (k68 : Int)).bind fun x92 =>
  (if (x92 != (0 : Int)) = true then
    if ((k12 : Int) == (0 : Int)) = true then
      some true
    else
      if ((k38 : Int) == (0 : Int)) = true then
        some true
      else
        some ((k68 : Int) == (0 : Int))
  else
    some false).bind fun (x99 : Bool) =>
  if x99 = true then
    some (.ret false)
  else
    some (.next ())

def p_impl_Cocycle_isNormalised_L2 (x28 : (List (List Int))) (k12 : Nat) (k38 : Nat) : Option (Ctl (Unit) (Bool)) :=
  (idx x28 (k38 : Int)).bind fun x58 =>
  (forN (fun k s => p_impl_Cocycle_isNormalised_L3 x58 k12 k38 k ) (x58).length 0 ()).bind fun res66 => onRes res66 (fun r154 => some (.ret r154)) fun _ =>
  some (.next ())

def p_impl_Cocycle_isNormalised_L1 (c_Values : (List (List (List Int)))) (k12 : Nat) : Option (Ctl (Unit) (Bool)) :=
  (idx c_Values (k12 : Int)).bind fun x28 =>
  (forN (fun k s => p_impl_Cocycle_isNormalised_L2 x28 k12 k ) (x28).length 0 ()).bind fun res36 => onRes res36 (fun r179 => some (.ret r179)) fun _ =>
  some (.next ())

def p_impl_Cocycle_isNormalised (c_Orders : (List Int)) (c_Modulus : Int) (c_Values : (List (List (List Int)))) : Option (Bool) :=
  (forN (fun k s => p_impl_Cocycle_isNormalised_L1 c_Values k ) (c_Values).length 0 ()).bind fun res10 => onRes res10 (fun r197 => some r197) fun _ =>
  some true

def p_slices_Backward_Lint64_int64_c1_L1 (c0 : (List Int)) (yield : (Int → Int → Option Bool)) (x5 : Int) : Option (Ctl (Int) (Unit)) :=
  if (decide (x5 ≥ (0 : Int))) = true then
    (idx c0 x5).bind fun x21 =>
    (yield x5 x21).bind fun x28 =>
    if (!x28) = true then
      some (.ret ())
    else
      some (.next (w64 (x5 - (1 : Int))))
  else
    some (.brk x5)

def p_slices_Backward_Lint64_int64_c1 (yield : Int → Int → Option Bool) (c0 : (List Int)) : Option (Unit) :=
  (whileC (fun s => p_slices_Backward_Lint64_int64_c1_L1 c0 yield s) (w64 (((c0).length : Int) - (1 : Int)))).bind fun res2 => onRes res2 (fun r43 => some r43) fun (x41 : Int) =>
  some ()

def p_impl_addElements_S (m : Int) (s : Int × Int × Int × Int) : Int × Int × Int × Int := (w64 (s.1.tdiv m), w64 (s.2.1.tdiv m), w64 (s.2.2.1 + (w64 ((w64 (s.1.tmod m + s.2.1.tmod m)).tmod m * s.2.2.2))), w64 (s.2.2.2 * m))
def p_impl_addElements (orders : List Int) (a : Int) (b : Int) : Option Int := if orders.all (fun m => m != 0) = true then some (orders.reverse.foldl (fun s m => p_impl_addElements_S m s) (a, b, 0, 1)).2.2.1 else none

def p_impl_Cocycle_plus (c_Orders : (List Int)) (c_Modulus : Int) (c_Values : (List (List (List Int)))) (x : Int) (y : Int) : Option (Int) :=
  (p_impl_addElements c_Orders x y).bind fun x9 =>
  some x9

def p_impl_Cocycle_rest (c_Orders : (List Int)) (c_Modulus : Int) (c_Values : (List (List (List Int)))) (n : Int) : Option (Int) :=
  (remI n c_Modulus).bind fun x49 =>
  (remI (w64 (x49 + c_Modulus)) c_Modulus).bind fun x116 =>
  some x116

def p_impl_Cocycle_fault_L4 (c_Values : (List (List (List Int)))) (k32 : Nat) (k55 : Nat) (c_Orders : (List Int)) (c_Modulus : Int) (k12 : Nat) (k81 : Nat) : Option (Ctl (Unit) ((List Int))) :=
  (idx c_Values (k32 : Int)).bind fun x136 =>
  (idx x136 (k55 : Int)).bind fun x175 =>
  (idx x175 (k81 : Int)).bind fun x214 =>
  (p_impl_Cocycle_plus c_Orders c_Modulus c_Values (k12 : Int) (k32 : Int)).bind fun x280 =>
  (idx c_Values x280).bind fun x301 =>
  (idx x301 (k55 : Int)).bind fun x340 =>
  (idx x340 (k81 : Int)).bind fun x379 =>
  (idx c_Values (k12 : Int)).bind fun x441 =>
  (p_impl_Cocycle_plus c_Orders c_Modulus c_Values (k32 : Int) (k55 : Int)).bind fun x500 =>
  (idx x441 x500).bind fun x521 =>
  (idx x521 (k81 : Int)).bind fun x560 =>
  (idx x441 (k32 : Int)).bind fun x657 =>
  (p_impl_Cocycle_plus c_Orders c_Modulus c_Values (k55 : Int) (k81 : Int)).bind fun x716 =>
  (idx x657 x716).bind fun x737 =>
  (idx x657 (k55 : Int)).bind fun x869 =>
  (p_impl_Cocycle_rest c_Orders c_Modulus c_Values (w64 ((w64 ((w64 ((w64 (x214 - x379)) + x560)) - x737)) + x869))).bind fun x913 =>
  if (x913 != (0 : Int)) = true then
    some (.ret ([(k12 : Int), (k32 : Int), (k55 : Int), (k81 : Int)] : (List Int)))
  else
    some (.next ())

def p_impl_Cocycle_fault_L3 (c_Values : (List (List (List Int)))) (k32 : Nat) (c_Orders : (List Int)) (c_Modulus : Int) (k12 : Nat) (k55 : Nat) : Option (Ctl (Unit) ((List Int))) :=
  (forN (fun k s => p_impl_Cocycle_fault_L4 c_Values k32 k55 c_Orders c_Modulus k12 k ) (c_Values).length 0 ()).bind fun res79 => onRes res79 (fun r963 => some (.ret r963)) fun _ =>
  some (.next ())

def p_impl_Cocycle_fault_L2 (c_Values : (List (List (List Int)))) (c_Orders : (List Int)) (c_Modulus : Int) (k12 : Nat) (k32 : Nat) : Option (Ctl (Unit) ((List Int))) :=
  (forN (fun k s => p_impl_Cocycle_fault_L3 c_Values k32 c_Orders c_Modulus k12 k ) (c_Values).length 0 ()).bind fun res53 => onRes res53 (fun r995 => some (.ret r995)) fun _ =>
  some (.next ())

def p_impl_Cocycle_fault_L1 (c_Values : (List (List (List Int)))) (c_Orders : (List Int)) (c_Modulus : Int) (k12 : Nat) : Option (Ctl (Unit) ((List Int))) :=
  (forN (fun k s => p_impl_Cocycle_fault_L2 c_Values c_Orders c_Modulus k12 k ) (c_Values).length 0 ()).bind fun res30 => onRes res30 (fun r1021 => some (.ret r1021)) fun _ =>
  some (.next ())

def p_impl_Cocycle_fault (c_Orders : (List Int)) (c_Modulus : Int) (c_Values : (List (List (List Int)))) : Option ((List Int)) :=
  (forN (fun k s => p_impl_Cocycle_fault_L1 c_Values c_Orders c_Modulus k ) (c_Values).length 0 ()).bind fun res10 => onRes res10 (fun r1040 => some r1040) fun _ =>
  some ([] : (List Int))

def p_impl_CocycleFault (c_Orders : (List Int)) (c_Modulus : Int) (c_Values : (List (List (List Int)))) : Option ((List Int) × Int) :=
  (p_impl_isCochain c_Orders c_Modulus c_Values).bind fun x9 =>
  if (!x9) = true then
    some (([] : (List Int)), (1 : Int))
  else
    (p_impl_Cocycle_isNormalised c_Orders c_Modulus c_Values).bind fun x17 =>
    if (!x17) = true then
      some (([] : (List Int)), (5 : Int))
    else
      (p_impl_Cocycle_fault c_Orders c_Modulus c_Values).bind fun x25 =>
      if (x25).isEmpty = true then
        some (([] : (List Int)), (4 : Int))
      else
        some (x25, (0 : Int))

def p_spec_l17Normal_L2 (c_Values : (List (List (List Int)))) (k12 : Nat) (k30 : Nat) : Option (Ctl (Unit) (Bool)) :=
  (idx c_Values (0 : Int)).bind fun x47 =>
  (idx x47 (k12 : Int)).bind fun x54 =>
  (idx x54 (k30 : Int)).bind fun x61 =>
  (if (x61 != (0 : Int)) = true then
    some true
  else
    (idx c_Values (k12 : Int)).bind fun x74 =>
    (idx x74 (0 : Int)).bind fun x81 =>
    (idx x81 (k30 : Int)).bind fun x88 =>
    some (x88 != (0 : Int))).bind fun (x69 : Bool) =>
  (if x69 = true then
    some true
  else
    (idx c_Values (k12 : Int)).bind fun x107 =>
    (idx x107 (k30 : Int)).bind fun x114 =>
    (idx x114 (0 : Int)).bind fun x121 =>
    some (x121 != (0 : Int))).bind fun (x102 : Bool) =>
  if x102 = true then
    some (.ret false)
  else
    some (.next ())

def p_spec_l17Normal_L1 (c_Values : (List (List (List Int)))) (k12 : Nat) : Option (Ctl (Unit) (Bool)) :=
  (forN (fun k s => p_spec_l17Normal_L2 c_Values k12 k ) (c_Values).length 0 ()).bind fun res28 => onRes res28 (fun r157 => some (.ret r157)) fun _ =>
  some (.next ())

def p_spec_l17Normal (c_Orders : (List Int)) (c_Modulus : Int) (c_Values : (List (List (List Int)))) : Option (Bool) :=
  (forN (fun k s => p_spec_l17Normal_L1 c_Values k ) (c_Values).length 0 ()).bind fun res10 => onRes res10 (fun r175 => some r175) fun _ =>
  some true

def p_spec_l17Fault_L4 (c_Orders : (List Int)) (k80 : Nat) (k99 : Nat) (k119 : Nat) (c_Values : (List (List (List Int)))) (c_Modulus : Int) (k140 : Nat) : Option (Ctl (Unit) ((List Int))) :=
  (p_spec_l06Add c_Orders (k80 : Int) (k99 : Int)).bind fun x211 =>
  (p_spec_l06Add c_Orders (k99 : Int) (k119 : Int)).bind fun x268 =>
  (p_spec_l06Add c_Orders (k119 : Int) (k140 : Int)).bind fun x330 =>
  (idx c_Values (k99 : Int)).bind fun x366 =>
  (idx x366 (k119 : Int)).bind fun x405 =>
  (idx x405 (k140 : Int)).bind fun x444 =>
  (idx c_Values x211).bind fun x490 =>
  (idx x490 (k119 : Int)).bind fun x529 =>
  (idx x529 (k140 : Int)).bind fun x568 =>
  (idx c_Values (k80 : Int)).bind fun x630 =>
  (idx x630 x268).bind fun x669 =>
  (idx x669 (k140 : Int)).bind fun x708 =>
  (idx x630 (k99 : Int)).bind fun x805 =>
  (idx x805 x330).bind fun x844 =>
  (idx x805 (k119 : Int)).bind fun x976 =>
  (remI (w64 ((w64 ((w64 ((w64 (x444 - x568)) + x708)) - x844)) + x976)) c_Modulus).bind fun x1046 =>
  if (x1046 != (0 : Int)) = true then
    some (.ret ([(k80 : Int), (k99 : Int), (k119 : Int), (k140 : Int)] : (List Int)))
  else
    some (.next ())

def p_spec_l17Fault_L3 (c_Orders : (List Int)) (k80 : Nat) (k99 : Nat) (c_Values : (List (List (List Int)))) (c_Modulus : Int) (k119 : Nat) : Option (Ctl (Unit) ((List Int))) :=
  (forN (fun k s => p_spec_l17Fault_L4 c_Orders k80 k99 k119 c_Values c_Modulus k ) (((c_Values).length : Int)).toNat 0 ()).bind fun res138 => onRes res138 (fun r1083 => some (.ret r1083)) fun _ =>
  some (.next ())

def p_spec_l17Fault_L2 (c_Orders : (List Int)) (k80 : Nat) (c_Values : (List (List (List Int)))) (c_Modulus : Int) (k99 : Nat) : Option (Ctl (Unit) ((List Int))) :=
  (forN (fun k s => p_spec_l17Fault_L3 c_Orders k80 k99 c_Values c_Modulus k ) (((c_Values).length : Int)).toNat 0 ()).bind fun res117 => onRes res117 (fun r1109 => some (.ret r1109)) fun _ =>
  some (.next ())

def p_spec_l17Fault_L1 (c_Orders : (List Int)) (c_Values : (List (List (List Int)))) (c_Modulus : Int) (k80 : Nat) : Option (Ctl (Unit) ((List Int))) :=
  (forN (fun k s => p_spec_l17Fault_L2 c_Orders k80 c_Values c_Modulus k ) (((c_Values).length : Int)).toNat 0 ()).bind fun res97 => onRes res97 (fun r1133 => some (.ret r1133)) fun _ =>
  some (.next ())

def p_spec_l17Fault (c_Orders : (List Int)) (c_Modulus : Int) (c_Values : (List (List (List Int)))) : Option ((List Int)) :=
  (forN (fun k s => p_spec_l17Fault_L1 c_Orders c_Values c_Modulus k ) (((c_Values).length : Int)).toNat 0 ()).bind fun res78 => onRes res78 (fun r1152 => some r1152) fun _ =>
  some ([] : (List Int))

def p_spec_CocycleFault (c_Orders : (List Int)) (c_Modulus : Int) (c_Values : (List (List (List Int)))) : Option ((List Int) × Int) :=
  (p_spec_l17Shape c_Orders c_Modulus c_Values).bind fun x9 =>
  if (!x9) = true then
    some (([] : (List Int)), (1 : Int))
  else
    (p_spec_l17Normal c_Orders c_Modulus c_Values).bind fun x17 =>
    if (!x17) = true then
      some (([] : (List Int)), (5 : Int))
    else
      (p_spec_l17Fault c_Orders c_Modulus c_Values).bind fun x25 =>
      if (((x25).length : Int) == (0 : Int)) = true then
        some (([] : (List Int)), (4 : Int))
      else
        some (x25, (0 : Int))

def p_laws_likeInts_L1 (a : (List Int)) (b : (List Int)) (k7 : Nat) : Option (Ctl (Unit) (Bool)) :=
  (idx a (k7 : Int)).bind fun x53 =>
  (idx b (k7 : Int)).bind fun x99 =>
  if (x53 != x99) = true then
    some (.ret false)
  else
    some (.next ())

def p_laws_likeInts (a : (List Int)) (b : (List Int)) : Option (Bool) :=
  if (((a).length : Int) != ((b).length : Int)) = true then
    some false
  else
    (forN (fun k s => p_laws_likeInts_L1 a b k ) (a).length 0 ()).bind fun res5 => onRes res5 (fun r152 => some r152) fun _ =>
    some true

def p_impl_IsCocycle (c_Orders : (List Int)) (c_Modulus : Int) (c_Values : (List (List (List Int)))) : Option (Bool) :=
  (p_impl_isCochain c_Orders c_Modulus c_Values).bind fun x9 =>
  (if x9 = true then
    (p_impl_Cocycle_isNormalised c_Orders c_Modulus c_Values).bind fun x21 =>
    some x21
  else
    some false).bind fun (x16 : Bool) =>
  (if x16 = true then
    (p_impl_Cocycle_fault c_Orders c_Modulus c_Values).bind fun x36 =>
    some (x36).isEmpty
  else
    some false).bind fun (x31 : Bool) =>
  some x31

def p_spec_l17Is (c_Orders : (List Int)) (c_Modulus : Int) (c_Values : (List (List (List Int)))) : Option (Bool) :=
  (p_spec_l17Shape c_Orders c_Modulus c_Values).bind fun x9 =>
  (if x9 = true then
    (p_spec_l17Normal c_Orders c_Modulus c_Values).bind fun x21 =>
    some x21
  else
    some false).bind fun (x16 : Bool) =>
  (if x16 = true then
    (p_spec_l17Fault c_Orders c_Modulus c_Values).bind fun x36 =>
    some (((x36).length : Int) == (0 : Int))
  else
    some false).bind fun (x31 : Bool) =>
  some x31

def p_spec_IsCocycle (c_Orders : (List Int)) (c_Modulus : Int) (c_Values : (List (List (List Int)))) : Option (Bool) :=
  (p_spec_l17Is c_Orders c_Modulus c_Values).bind fun x9 =>
  some x9

def p_spec_DrawAddCocycles (code : (List Int)) : Option ((List Int) × Int × (List (List (List Int))) × (List Int) × Int × (List (List (List Int)))) :=
  (p_spec_l01From code).bind fun x9 =>
  (p_spec_l17DrawAny code x9.1 x9.2).bind fun x18 =>
  (p_spec_l17Is x18.1 x18.2.1 x18.2.2.1).bind fun x35 =>
  (if x35 = true then
    (p_spec_l01Next code x18.2.2.2.1 x18.2.2.2.2 (6 : Int)).bind fun x49 =>
    some (x49.2.1, x49.2.2, (decide (x49.1 > (0 : Int))))
  else
    some (x18.2.2.2.1, x18.2.2.2.2, false)).bind fun ⟨x42, x43, x44⟩ =>
  if x44 = true then
    (p_spec_l17DrawPairing code x42 x43 ((x18.2.2.1).length : Int) x18.2.1).bind fun x69 =>
    (p_spec_l17Coboundary x18.1 x18.2.1 x69.1).bind fun x78 =>
    some (x18.1, x18.2.1, x18.2.2.1, x78.1, x78.2.1, x78.2.2)
  else
    (p_spec_l17DrawAny code x42 x43).bind fun x98 =>
    some (x18.1, x18.2.1, x18.2.2.1, x98.1, x98.2.1, x98.2.2.1)

def p_slices_Equal_Lint64_int64_L1 (s1 : (List Int)) (s2 : (List Int)) (k8 : Nat) : Option (Ctl (Unit) (Bool)) :=
  (idx s1 (k8 : Int)).bind fun x54 =>
  (idx s2 (k8 : Int)).bind fun x100 =>
  if (x54 != x100) = true then
    some (.ret false)
  else
    some (.next ())

def p_slices_Equal_Lint64_int64 (s1 : (List Int)) (s2 : (List Int)) : Option (Bool) :=
  if (((s1).length : Int) != ((s2).length : Int)) = true then
    some false
  else
    (forN (fun k s => p_slices_Equal_Lint64_int64_L1 s1 s2 k ) (s1).length 0 ()).bind fun res6 => onRes res6 (fun r154 => some r154) fun _ =>
    some true

def p_impl_sameKind (c_Orders : (List Int)) (c_Modulus : Int) (c_Values : (List (List (List Int)))) (d_Orders : (List Int)) (d_Modulus : Int) (d_Values : (List (List (List Int)))) : Option (Bool) :=
  (p_slices_Equal_Lint64_int64 c_Orders d_Orders).bind fun x18 =>
  some (x18 && (c_Modulus == d_Modulus))

def p_impl_addCocycles_c1 (x : Int) (y : Int) (z : Int) (c0_Orders : (List Int)) (c0_Modulus : Int) (c0_Values : (List (List (List Int)))) (c1_Orders : (List Int)) (c1_Modulus : Int) (c1_Values : (List (List (List Int)))) : Option (Int) :=
  (idx c0_Values x).bind fun x40 =>
  (idx x40 y).bind fun x79 =>
  (idx x79 z).bind fun x118 =>
  (idx c1_Values x).bind fun x174 =>
  (idx x174 y).bind fun x213 =>
  (idx x213 z).bind fun x252 =>
  some (w64 (x118 + x252))

def p_slices_Clone_Lint64_int64 (s1 : (List Int)) : Option ((List Int)) :=
  (appL ([] : (List Int)) s1).bind fun x6 =>
  some x6

def p_impl_zeros_L1 (columns : Int) (k7 : Nat) (x8 : (List (List Int))) : Option (Ctl ((List (List Int))) (Unit)) :=
  (mkL columns (0 : Int)).bind fun x26 =>
  (appL x8 [x26]).bind fun x38 =>
  some (.next x38)

def p_impl_zeros (rows : Int) (columns : Int) : Option ((List (List Int))) :=
  (forN (fun k s => p_impl_zeros_L1 columns k s) (rows).toNat 0 ([] : (List (List Int)))).bind fun res5 => onRes res5 (fun r67 => none) fun (x63 : (List (List Int))) =>
  some x63

def p_impl_cocycleBy_L3 (k58 : Nat) (number : (Int → Int → Int → Option Int)) (k28 : Nat) (x5 : (List Int)) (m : Int) (x29 : (List (List (List Int)))) (k84 : Nat) (x85 : (List (List Int))) : Option (Ctl ((List (List Int))) (Unit)) :=
  (idx x85 (k58 : Int)).bind fun x140 =>
  (number (k28 : Int) (k58 : Int) (k84 : Int)).bind fun x224 =>
  (p_impl_Cocycle_rest x5 m x29 x224).bind fun x245 =>
  (idx x140 (k84 : Int)).bind fun x278 =>
  some (.next ((x85).set ((k58 : Int)).toNat ((x140).set ((k84 : Int)).toNat x245)))

def p_impl_cocycleBy_L2 (number : (Int → Int → Int → Option Int)) (k28 : Nat) (x5 : (List Int)) (m : Int) (x29 : (List (List (List Int)))) (x12 : Int) (k58 : Nat) (x59 : (List (List Int))) : Option (Ctl ((List (List Int))) (Unit)) :=
  (forN (fun k s => p_impl_cocycleBy_L3 k58 number k28 x5 m x29 k s) (x12).toNat 0 x59).bind fun res82 => onRes res82 (fun r323 => none) fun (x311 : (List (List Int))) =>
  some (.next x311)

def p_impl_cocycleBy_L1 (x12 : Int) (number : (Int → Int → Int → Option Int)) (x5 : (List Int)) (m : Int) (k28 : Nat) (x29 : (List (List (List Int)))) : Option (Ctl ((List (List (List Int)))) (Unit)) :=
  (p_impl_zeros x12 x12).bind fun x49 =>
  (forN (fun k s => p_impl_cocycleBy_L2 number k28 x5 m x29 x12 k s) (x12).toNat 0 x49).bind fun res56 => onRes res56 (fun r371 => none) fun (x348 : (List (List Int))) =>
  (appL x29 [x348]).bind fun x363 =>
  some (.next x363)

def p_impl_cocycleBy (orders : (List Int)) (m : Int) (number : Int → Int → Int → Option Int) : Option ((List Int) × Int × (List (List (List Int)))) :=
  (p_slices_Clone_Lint64_int64 orders).bind fun x5 =>
  (p_impl_groupSize orders).bind fun x12 =>
  (forN (fun k s => p_impl_cocycleBy_L1 x12 number x5 m k s) (x12).toNat 0 ([] : (List (List (List Int))))).bind fun res26 => onRes res26 (fun r400 => none) fun (x393 : (List (List (List Int)))) =>
  some (x5, m, x393)

def p_impl_addCocycles (c_Orders : (List Int)) (c_Modulus : Int) (c_Values : (List (List (List Int)))) (d_Orders : (List Int)) (d_Modulus : Int) (d_Values : (List (List (List Int)))) : Option ((List Int) × Int × (List (List (List Int)))) :=
  (p_impl_cocycleBy c_Orders c_Modulus (fun a0_23 a1_23 a2_23 => p_impl_addCocycles_c1 a0_23 a1_23 a2_23 c_Orders c_Modulus c_Values d_Orders d_Modulus d_Values)).bind fun x26 =>
  some (x26.1, x26.2.1, x26.2.2)

def p_impl_AddCocycles (c_Orders : (List Int)) (c_Modulus : Int) (c_Values : (List (List (List Int)))) (d_Orders : (List Int)) (d_Modulus : Int) (d_Values : (List (List (List Int)))) : Option ((List Int) × Int × (List (List (List Int))) × Int) :=
  (p_impl_IsCocycle c_Orders c_Modulus c_Values).bind fun x22 =>
  (if (!x22) = true then
    some true
  else
    (p_impl_IsCocycle d_Orders d_Modulus d_Values).bind fun x34 =>
    some (!x34)).bind fun (x29 : Bool) =>
  if x29 = true then
    some (([] : (List Int)), (0 : Int), ([] : (List (List (List Int)))), (1 : Int))
  else
    (p_impl_sameKind c_Orders c_Modulus c_Values d_Orders d_Modulus d_Values).bind fun x51 =>
    if (!x51) = true then
      some (([] : (List Int)), (0 : Int), ([] : (List (List (List Int)))), (2 : Int))
    else
      (p_impl_addCocycles c_Orders c_Modulus c_Values d_Orders d_Modulus d_Values).bind fun x63 =>
      some (x63.1, x63.2.1, x63.2.2, (0 : Int))

def p_spec_l01Same_L1 (a : (List Int)) (b : (List Int)) (k7 : Nat) : Option (Ctl (Unit) (Bool)) :=
  (idx a (k7 : Int)).bind fun x53 =>
  (idx b (k7 : Int)).bind fun x99 =>
  if (x53 != x99) = true then
    some (.ret false)
  else
    some (.next ())

def p_spec_l01Same (a : (List Int)) (b : (List Int)) : Option (Bool) :=
  if (((a).length : Int) != ((b).length : Int)) = true then
    some false
  else
    (forN (fun k s => p_spec_l01Same_L1 a b k ) (a).length 0 ()).bind fun res5 => onRes res5 (fun r152 => some r152) fun _ =>
    some true

def p_spec_AddCocycles (c_Orders : (List Int)) (c_Modulus : Int) (c_Values : (List (List (List Int)))) (d_Orders : (List Int)) (d_Modulus : Int) (d_Values : (List (List (List Int)))) : Option ((List Int) × Int × (List (List (List Int))) × Int) :=
  (p_spec_l17Is c_Orders c_Modulus c_Values).bind fun x22 =>
  (if (!x22) = true then
    some true
  else
    (p_spec_l17Is d_Orders d_Modulus d_Values).bind fun x34 =>
    some (!x34)).bind fun (x29 : Bool) =>
  if x29 = true then
    some (([] : (List Int)), (0 : Int), ([] : (List (List (List Int)))), (1 : Int))
  else
    (p_spec_l01Same c_Orders d_Orders).bind fun x51 =>
    if ((!x51) || (c_Modulus != d_Modulus)) = true then
      some (([] : (List Int)), (0 : Int), ([] : (List (List (List Int)))), (2 : Int))
    else
      (p_spec_l17Sum c_Orders c_Modulus c_Values d_Orders d_Modulus d_Values).bind fun x72 =>
      some (x72.1, x72.2.1, x72.2.2, (0 : Int))

def p_laws_same9_L1 (a : (List (List Int))) (b : (List (List Int))) (k7 : Nat) : Option (Ctl (Unit) (Bool)) :=
  (idx a (k7 : Int)).bind fun x53 =>
  (idx b (k7 : Int)).bind fun x99 =>
  (p_laws_likeInts x53 x99).bind fun x130 =>
  if (!x130) = true then
    some (.ret false)
  else
    some (.next ())

def p_laws_same9 (a : (List (List Int))) (b : (List (List Int))) : Option (Bool) :=
  if (((a).length : Int) != ((b).length : Int)) = true then
    some false
  else
    (forN (fun k s => p_laws_same9_L1 a b k ) (a).length 0 ()).bind fun res5 => onRes res5 (fun r156 => some r156) fun _ =>
    some true

def p_laws_cocycle9_L1 (c_Values : (List (List (List Int)))) (d_Values : (List (List (List Int)))) (k46 : Nat) : Option (Ctl (Unit) (Bool)) :=
  (idx c_Values (k46 : Int)).bind fun x102 =>
  (idx d_Values (k46 : Int)).bind fun x158 =>
  (p_laws_same9 x102 x158).bind fun x189 =>
  if (!x189) = true then
    some (.ret false)
  else
    some (.next ())

def p_laws_cocycle9 (c_Orders : (List Int)) (c_Modulus : Int) (c_Values : (List (List (List Int)))) (d_Orders : (List Int)) (d_Modulus : Int) (d_Values : (List (List (List Int)))) : Option (Bool) :=
  (p_laws_likeInts c_Orders d_Orders).bind fun x18 =>
  if (((!x18) || (c_Modulus != d_Modulus)) || (((c_Values).length : Int) != ((d_Values).length : Int))) = true then
    some false
  else
    (forN (fun k s => p_laws_cocycle9_L1 c_Values d_Values k ) (c_Values).length 0 ()).bind fun res44 => onRes res44 (fun r215 => some r215) fun _ =>
    some true

def p_laws_roll_L1 (code : (List Int)) (k9 : Nat) (x10 : Int) : Option (Ctl (Int) (Unit)) :=
  (idx code (k9 : Int)).bind fun x112 =>
  some (.next (IntKind.u64.wrap ((IntKind.u64.wrap ((IntKind.u64.wrap (x10 * (1099511628211 : Int))) + (IntKind.u64.wrap x112))) + (5 : Int))))

def p_laws_roll (code : (List Int)) (seed : Int) : Option (Int × Int) :=
  (forN (fun k s => p_laws_roll_L1 code k s) (code).length 0 (IntKind.u64.wrap ((IntKind.u64.wrap (seed * (6007 : Int))) + (IntKind.u64.wrap ((code).length : Int))))).bind fun res7 => onRes res7 (fun r207 => none) fun (x203 : Int) =>
  some ((0 : Int), x203)

def p_laws_dice_below (d_b : (List Int)) (d_i : Int) (d_h : Int) (n : Int) : Option (Int × Int × Int) :=
  if (decide (n < (1 : Int))) = true then
    some ((0 : Int), d_i, d_h)
  else
    (if (decide (d_i < ((d_b).length : Int))) = true then
      (idx d_b d_i).bind fun x206 =>
      some ((w64 (d_i + (1 : Int))), (w64 ((w64 (andI .u64 (((IntKind.u64.wrap ((IntKind.u64.wrap (d_h * (6364136223846793005 : Int))) + (1442695040888963407 : Int)))).fdiv (2 ^ 33)) (16777215 : Int))) + (w64 x206))))
    else
      some (d_i, (w64 (andI .u64 (((IntKind.u64.wrap ((IntKind.u64.wrap (d_h * (6364136223846793005 : Int))) + (1442695040888963407 : Int)))).fdiv (2 ^ 33)) (16777215 : Int))))).bind fun ⟨x106, x107⟩ =>
    (remI x107 n).bind fun x259 =>
    some (x259, x106, (IntKind.u64.wrap ((IntKind.u64.wrap (d_h * (6364136223846793005 : Int))) + (1442695040888963407 : Int))))

def p_impl_Cocycle_isElement (c_Orders : (List Int)) (c_Modulus : Int) (c_Values : (List (List (List Int)))) (x : Int) : Option (Bool) :=
  (p_impl_within x (0 : Int) (w64 (((c_Values).length : Int) - (1 : Int)))).bind fun x10 =>
  some x10

def p_impl_InvariantOf_L1 (c_Values : (List (List (List Int)))) (x : Int) (c_Orders : (List Int)) (c_Modulus : Int) (x28 : Int) (x29 : Int) : Option (Ctl (Int × Int) (Int × Int)) :=
  (idx c_Values x).bind fun x45 =>
  (idx x45 x29).bind fun x52 =>
  (idx x52 x).bind fun x59 =>
  (p_impl_Cocycle_plus c_Orders c_Modulus c_Values x29 x).bind fun x66 =>
  if (x66 == (0 : Int)) = true then
    (p_impl_Cocycle_rest c_Orders c_Modulus c_Values (w64 (x28 + x59))).bind fun x75 =>
    some (.ret (x75, (0 : Int)))
  else
    some (.next ((w64 (x28 + x59)), x66))

def p_impl_InvariantOf (c_Orders : (List Int)) (c_Modulus : Int) (c_Values : (List (List (List Int)))) (x : Int) : Option (Int × Int) :=
  (p_impl_IsCocycle c_Orders c_Modulus c_Values).bind fun x9 =>
  if (!x9) = true then
    some ((0 : Int), (1 : Int))
  else
    (p_impl_Cocycle_isElement c_Orders c_Modulus c_Values x).bind fun x17 =>
    if (!x17) = true then
      some ((0 : Int), (2 : Int))
    else
      (whileC (fun s => p_impl_InvariantOf_L1 c_Values x c_Orders c_Modulus s.1 s.2) ((0 : Int), (0 : Int))).bind fun res25 => onRes res25 (fun r90 => some r90) fun (s86p : Int × Int) =>
      none

def p_spec_DrawCyclicCocycle (code : (List Int)) : Option (Int × Int) :=
  (p_spec_l01From code).bind fun x1 =>
  (p_spec_l01Next code x1.1 x1.2 (10 : Int)).bind fun x10 =>
  (p_spec_l01Next code x10.2.1 x10.2.2 (w64 (x10.1 + (1 : Int)))).bind fun x19 =>
  some (x10.1, x19.1)

def p_impl_carry (number : Int) (y : Int) (z : Int) (n : Int) : Option (Int) :=
  if (decide ((w64 (y + z)) ≥ n)) = true then
    some number
  else
    some (0 : Int)

def p_impl_CyclicCocycle_c1 (x : Int) (y : Int) (z : Int) (c0 : Int) (c1 : Int) : Option (Int) :=
  (p_impl_carry (w64 (c0 * x)) y z c1).bind fun x1 =>
  some x1

def p_impl_CyclicCocycle (n : Int) (k1 : Int) : Option ((List Int) × Int × (List (List (List Int))) × Int) :=
  (p_impl_within n (1 : Int) (8 : Int)).bind fun x22 =>
  (if (!x22) = true then
    some true
  else
    (p_impl_within k1 (0 : Int) (w64 (n - (1 : Int)))).bind fun x34 =>
    some (!x34)).bind fun (x29 : Bool) =>
  if x29 = true then
    some (([] : (List Int)), (0 : Int), ([] : (List (List (List Int)))), (2 : Int))
  else
    (p_impl_cocycleBy ([n] : (List Int)) n (fun a0_56 a1_56 a2_56 => p_impl_CyclicCocycle_c1 a0_56 a1_56 a2_56 k1 n)).bind fun x59 =>
    some (x59.1, x59.2.1, x59.2.2, (0 : Int))

def p_spec_CyclicCocycle (n : Int) (k1 : Int) : Option ((List Int) × Int × (List (List (List Int))) × Int) :=
  (p_spec_l01In n (1 : Int) (8 : Int)).bind fun x5 =>
  (if (!x5) = true then
    some true
  else
    (p_spec_l01In k1 (0 : Int) (w64 (n - (1 : Int)))).bind fun x17 =>
    some (!x17)).bind fun (x12 : Bool) =>
  if x12 = true then
    some (([] : (List Int)), (0 : Int), ([] : (List (List (List Int)))), (2 : Int))
  else
    (p_spec_l17Cyclic n k1).bind fun x34 =>
    some (x34.1, x34.2.1, x34.2.2, (0 : Int))

def p_spec_DrawMixedCocycle (code : (List Int)) : Option (Int × Int × Int) :=
  (p_spec_l01From code).bind fun x1 =>
  (p_spec_l01Next code x1.1 x1.2 (4 : Int)).bind fun x10 =>
  (p_spec_l01Next code x10.2.1 x10.2.2 (5 : Int)).bind fun x19 =>
  (p_spec_l01Next code x19.2.1 x19.2.2 (16 : Int)).bind fun x28 =>
  (p_spec_l01Next code x28.2.1 x28.2.2 (9 : Int)).bind fun x37 =>
  some ((w64 ((1 : Int) + x10.1)), (w64 (x19.1 + (w64 ((w64 ((x28.1).tdiv (15 : Int))) * (4 : Int))))), x37.1)

def p_impl_gcd_L1  (x4 : Int) (x5 : Int) : Option (Ctl (Int × Int) (Unit)) :=
  if (x5 != (0 : Int)) = true then
    (remI x4 x5).bind fun x24 =>
    some (.next (x5, x24))
  else
    some (.brk (x4, x5))

def p_impl_gcd (a : Int) (b : Int) : Option (Int) :=
  (whileC (fun s => p_impl_gcd_L1  s.1 s.2) (a, b)).bind fun res1 => onRes res1 (fun r46 => none) fun (s40p : Int × Int) =>
  some (if (w64 (0 - s40p.1)) > s40p.1 then (w64 (0 - s40p.1)) else s40p.1)

def p_impl_MixedCocycle_c1 (x : Int) (y : Int) (z : Int) (c0 : Int) (c1 : Int) : Option (Int) :=
  (quoI .i64 x c1).bind fun x38 =>
  (remI y c1).bind fun x88 =>
  (remI z c1).bind fun x122 =>
  (p_impl_carry (w64 (c0 * x38)) x88 x122 c1).bind fun x150 =>
  some x150

def p_impl_MixedCocycle (n : Int) (m : Int) (k1 : Int) : Option ((List Int) × Int × (List (List (List Int))) × Int) :=
  (p_impl_within n (1 : Int) (8 : Int)).bind fun x13 =>
  (if (!x13) = true then
    some true
  else
    (p_impl_within m (1 : Int) (8 : Int)).bind fun x25 =>
    some (!x25)).bind fun (x20 : Bool) =>
  (if x20 = true then
    some true
  else
    (p_impl_within k1 (0 : Int) (7 : Int)).bind fun x43 =>
    some (!x43)).bind fun (x38 : Bool) =>
  if x38 = true then
    some (([] : (List Int)), (0 : Int), ([] : (List (List (List Int)))), (2 : Int))
  else
    if (decide ((w64 (n * m)) > (8 : Int))) = true then
      some (([] : (List Int)), (0 : Int), ([] : (List (List (List Int)))), (3 : Int))
    else
      (p_impl_gcd n m).bind fun x77 =>
      (p_impl_cocycleBy ([n, m] : (List Int)) x77 (fun a0_85 a1_85 a2_85 => p_impl_MixedCocycle_c1 a0_85 a1_85 a2_85 k1 m)).bind fun x88 =>
      some (x88.1, x88.2.1, x88.2.2, (0 : Int))

def p_spec_MixedCocycle (n : Int) (m : Int) (k1 : Int) : Option ((List Int) × Int × (List (List (List Int))) × Int) :=
  (p_spec_l01In n (1 : Int) (8 : Int)).bind fun x5 =>
  (if (!x5) = true then
    some true
  else
    (p_spec_l01In m (1 : Int) (8 : Int)).bind fun x17 =>
    some (!x17)).bind fun (x12 : Bool) =>
  (if x12 = true then
    some true
  else
    (p_spec_l01In k1 (0 : Int) (7 : Int)).bind fun x35 =>
    some (!x35)).bind fun (x30 : Bool) =>
  if x30 = true then
    some (([] : (List Int)), (0 : Int), ([] : (List (List (List Int)))), (2 : Int))
  else
    if (decide ((w64 (n * m)) > (8 : Int))) = true then
      some (([] : (List Int)), (0 : Int), ([] : (List (List (List Int)))), (3 : Int))
    else
      (p_spec_l17Mixed n m k1).bind fun x59 =>
      some (x59.1, x59.2.1, x59.2.2, (0 : Int))

def p_impl_TripleCocycle_c1 (x : Int) (y : Int) (z : Int) : Option (Int) :=
  some (w64 ((w64 ((w64 ((x).tdiv (4 : Int))) * (((w64 ((y).tdiv (2 : Int)))).tmod (2 : Int)))) * ((z).tmod (2 : Int))))

def p_impl_TripleCocycle  : Option ((List Int) × Int × (List (List (List Int)))) :=
  (p_impl_cocycleBy ([(2 : Int), (2 : Int), (2 : Int)] : (List Int)) (2 : Int) (fun a0_10 a1_10 a2_10 => p_impl_TripleCocycle_c1 a0_10 a1_10 a2_10)).bind fun x13 =>
  some (x13.1, x13.2.1, x13.2.2)

def p_laws_FnCocycles (code : (List Int)) : Option (Bool) :=
  (p_laws_big code).bind fun x1 =>
  if x1 = true then
    some true
  else
    (p_spec_DrawCocycleFault code).bind fun x9 =>
    (p_impl_CocycleFault x9.1 x9.2.1 x9.2.2).bind fun x24 =>
    (p_spec_CocycleFault x9.1 x9.2.1 x9.2.2).bind fun x32 =>
    (if (x24.2 != x32.2) = true then
      some true
    else
      (p_laws_likeInts x24.1 x32.1).bind fun x301 =>
      if (!x301) = true then
        some true
      else
        (p_impl_IsCocycle x9.1 x9.2.1 x9.2.2).bind fun x489 =>
        (p_spec_IsCocycle x9.1 x9.2.1 x9.2.2).bind fun x520 =>
        if (x489 != x520) = true then
          some true
        else
          (p_impl_IsCocycle x9.1 x9.2.1 x9.2.2).bind fun x643 =>
          some (x643 != (x24.2 == (4 : Int)))).bind fun (x40 : Bool) =>
    if x40 = true then
      some false
    else
      (p_spec_DrawAddCocycles code).bind fun x695 =>
      (p_impl_AddCocycles x695.1 x695.2.1 x695.2.2.1 x695.2.2.2.1 x695.2.2.2.2.1 x695.2.2.2.2.2).bind fun x719 =>
      (p_spec_AddCocycles x695.1 x695.2.1 x695.2.2.1 x695.2.2.2.1 x695.2.2.2.2.1 x695.2.2.2.2.2).bind fun x735 =>
      (if (x719.2.2.2 != x735.2.2.2) = true then
        some true
      else
        (p_laws_cocycle9 x719.1 x719.2.1 x719.2.2.1 x735.1 x735.2.1 x735.2.2.1).bind fun x757 =>
        some (!x757)).bind fun (x752 : Bool) =>
      if x752 = true then
        some false
      else
        (if (x719.2.2.2 == (0 : Int)) = true then
          (p_laws_roll code (4021 : Int)).bind fun x778 =>
          (p_laws_dice_below code x778.1 x778.2 ((x695.2.2.1).length : Int)).bind fun x788 =>
          (p_impl_InvariantOf x695.1 x695.2.1 x695.2.2.1 x788.1).bind fun x810 =>
          (p_impl_InvariantOf x695.2.2.2.1 x695.2.2.2.2.1 x695.2.2.2.2.2 x788.1).bind fun x818 =>
          (p_impl_InvariantOf x719.1 x719.2.1 x719.2.2.1 x788.1).bind fun x826 =>
          (if (((x810.2 != (0 : Int)) || (x818.2 != (0 : Int))) || (x826.2 != (0 : Int))) = true then
            some true
          else
            (p_impl_IsCocycle x719.1 x719.2.1 x719.2.2.1).bind fun x865 =>
            some (!x865)).bind fun (x860 : Bool) =>
          (if x860 = true then
            some true
          else
            (remI (w64 (x810.1 + x818.1)) x695.2.1).bind fun x884 =>
            some (x826.1 != x884)).bind fun (x879 : Bool) =>
          if x879 = true then
            some (.ret false)
          else
            some (.fin ())
        else
          some (.fin ())).bind fun (res772 : Res (Unit) (Bool)) => onRes res772 (fun r1128 => some r1128) fun (s896 : Unit) =>
        (p_spec_DrawCyclicCocycle code).bind fun x899 =>
        (p_impl_CyclicCocycle x899.1 x899.2).bind fun x907 =>
        (p_spec_CyclicCocycle x899.1 x899.2).bind fun x923 =>
        (if (x907.2.2.2 != x923.2.2.2) = true then
          some true
        else
          (p_laws_cocycle9 x907.1 x907.2.1 x907.2.2.1 x923.1 x923.2.1 x923.2.2.1).bind fun x945 =>
          some (!x945)).bind fun (x940 : Bool) =>
        if x940 = true then
          some false
        else
          (if ((x907.2.2.2 == (0 : Int)) && (decide (x899.1 > (1 : Int)))) = true then
            (p_impl_InvariantOf x907.1 x907.2.1 x907.2.2.1 (1 : Int)).bind fun x972 =>
            (if ((x972.2 != (0 : Int)) || (x972.1 != x899.2)) = true then
              some true
            else
              (p_impl_IsCocycle x907.1 x907.2.1 x907.2.2.1).bind fun x994 =>
              some (!x994)).bind fun (x989 : Bool) =>
            if x989 = true then
              some (.ret false)
            else
              some (.fin ())
          else
            some (.fin ())).bind fun (res969 : Res (Unit) (Bool)) => onRes res969 (fun r1127 => some r1127) fun (s1008 : Unit) =>
          (p_spec_DrawMixedCocycle code).bind fun x1011 =>
          (p_impl_MixedCocycle x1011.1 x1011.2.1 x1011.2.2).bind fun x1020 =>
          (p_spec_MixedCocycle x1011.1 x1011.2.1 x1011.2.2).bind fun x1036 =>
          (if (x1020.2.2.2 != x1036.2.2.2) = true then
            some true
          else
            (p_laws_cocycle9 x1020.1 x1020.2.1 x1020.2.2.1 x1036.1 x1036.2.1 x1036.2.2.1).bind fun x1055 =>
            if (!x1055) = true then
              some true
            else
              if (x1020.2.2.2 == (0 : Int)) = true then
                (p_impl_IsCocycle x1020.1 x1020.2.1 x1020.2.2.1).bind fun x1063 =>
                some (!x1063)
              else
                some false).bind fun (x1052 : Bool) =>
          if x1052 = true then
            some false
          else
            (p_impl_TripleCocycle ).bind fun x1076 =>
            (p_impl_IsCocycle x1076.1 x1076.2.1 x1076.2.2).bind fun x1089 =>
            (if x1089 = true then
              (p_impl_TripleCocycle ).bind fun x1101 =>
              (p_spec_TripleCocycle ).bind fun x1110 =>
              (p_laws_cocycle9 x1101.1 x1101.2.1 x1101.2.2 x1110.1 x1110.2.1 x1110.2.2).bind fun x1119 =>
              some x1119
            else
              some false).bind fun (x1096 : Bool) =>
            some x1096

end
end Go.VG
