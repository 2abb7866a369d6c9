/- The pure programs, that say what each function computes. -/
import Derived.Test.YtoaajjhcdbbfdaaFwWb
set_option linter.unusedSimpArgs false
set_option linter.unnecessarySimpa false
set_option linter.unusedVariables false
set_option linter.unusedVariables false
namespace Go.Pure
open Go.Abs
noncomputable def laws_rBig (code : (List Int)) : Option Bool :=
 some (decide ((65536 : Int) < (code.length : Int)))

noncomputable def spec_l1Cur_next (c_ : ((List Int) × (Int × (Int × Unit)))) : Option (Int × ((List Int) × (Int × (Int × Unit)))) :=
 Option.bind (α := Int) (
  if decide (c_.2.1 < (c_.1.length : Int)) = true then
   Option.bind (idx c_.1 c_.2.1) fun x4 =>
   some (w64 x4)
  else
   some (0 : Int))
 (fun s2 =>
 if decide ((w64 (c_.2.1 + (1 : Int))) ≤ (c_.1.length : Int)) = true then
  some (s2, (c_.1, (w64 (c_.2.1 + (1 : Int)), (IntKind.wrap .u64 ((IntKind.wrap .u64 ((IntKind.wrap .u64 (c_.2.2.1 * (6364136223846793005 : Int))) + (IntKind.wrap .u64 s2))) + (550289 : Int)), c_.2.2.2))))
 else
  some (w64 (IntKind.wrap .u64 ((BitVec.ofInt 64 ((IntKind.wrap .u64 ((IntKind.wrap .u64 ((IntKind.wrap .u64 (c_.2.2.1 * (6364136223846793005 : Int))) + (IntKind.wrap .u64 s2))) + (550289 : Int))).fdiv (2 ^ (min (40 : Int).toNat 64))) &&& BitVec.ofInt 64 (255 : Int)).toNat : Int)), (c_.1, (w64 (c_.2.1 + (1 : Int)), (IntKind.wrap .u64 ((IntKind.wrap .u64 ((IntKind.wrap .u64 (c_.2.2.1 * (6364136223846793005 : Int))) + (IntKind.wrap .u64 s2))) + (550289 : Int)), c_.2.2.2)))))

noncomputable def spec_l1Cur_pick (c_ : ((List Int) × (Int × (Int × Unit)))) (n : Int) : Option (Int × ((List Int) × (Int × (Int × Unit)))) :=
 if decide (n ≤ (1 : Int)) = true then
  some ((0 : Int), c_)
 else
  Option.bind (spec_l1Cur_next c_) fun x1 =>
  Option.bind (α := (((List Int) × (Int × (Int × Unit))) × Int)) (
   if decide ((200 : Int) < n) = true then
    Option.bind (spec_l1Cur_next x1.2) fun x5 =>
    some (x5.2, w64 ((w64 (x1.1 * (256 : Int))) + x5.1))
   else
    some (x1.2, x1.1))
  (fun s3 =>
  Option.bind (need (n ≠ 0)) fun _ =>
  some (s3.2.tmod n, s3.1))

noncomputable def spec_l1Cur_among (c_ : ((List Int) × (Int × (Int × Unit)))) (list : (List Int)) : Option (Int × ((List Int) × (Int × (Int × Unit)))) :=
 Option.bind (spec_l1Cur_pick c_ (list.length : Int)) fun x1 =>
 Option.bind (idx list x1.1) fun x2 =>
 some (x2, x1.2)

noncomputable def spec_l1Cur_names2 (c_ : ((List Int) × (Int × (Int × Unit)))) (n : Int) : Option ((List Int) × ((List Int) × (Int × (Int × Unit)))) :=
 Option.bind (α := (((List Int) × (Int × (Int × Unit))) × (List Int))) (
  loopO (σ := (((List Int) × (Int × (Int × Unit))) × (List Int) × Int)) (ρ := (((List Int) × (Int × (Int × Unit))) × (List Int))) (fun s25 =>
   if decide (s25.2.2 < n) = true then
    Option.bind (spec_l1Cur_pick s25.1 (w64 ((s25.2.1.length : Int) + (1 : Int)))) fun x26 =>
    Option.bind (cut s25.2.1 (0 : Int) x26.1) fun x27 =>
    Option.bind (app ([]) x27) fun x28 =>
    Option.bind (app x28 ([s25.2.2])) fun x29 =>
    Option.bind (cut s25.2.1 x26.1 (s25.2.1.length : Int)) fun x30 =>
    Option.bind (app x29 x30) fun x31 =>
    some (Lp.more (x26.2, (x31, w64 (s25.2.2 + (1 : Int)))))
   else
    some (Lp.done (s25.1, s25.2.1))) (c_, ([], (0 : Int))))
 (fun s16 =>
 Option.bind (spec_l1Cur_pick s16.1 (24 : Int)) fun x34 =>
 Option.bind (α := (((List Int) × (Int × (Int × Unit))) × (List Int))) (
  if (x34.1 == (0 : Int)) = true then
   Option.bind (app s16.2 ([n])) fun x41 =>
   some (x34.2, x41)
  else
   if (x34.1 == (1 : Int)) = true then
    if decide ((0 : Int) < n) = true then
     Option.bind (spec_l1Cur_pick x34.2 n) fun x42 =>
     Option.bind (spec_l1Cur_among x42.2 ([(0 : Int), (-1 : Int), n])) fun x43 =>
     Option.bind (idx s16.2 x42.1) fun x44 =>
     some (x43.2, s16.2.set x42.1.toNat x43.1)
    else
     some (x34.2, s16.2)
   else
    some (x34.2, s16.2))
 (fun s39 =>
 some (s39.2, s39.1)))

noncomputable def spec_l1In (x : Int) (a : Int) (b : Int) : Option Bool :=
 Option.bind (α := Bool) (
  if decide (a ≤ x) = true then
   some (decide (x ≤ b))
  else
   some false)
 (fun s1 =>
 some s1)

noncomputable def spec_l2Elements (n : Int) (list : (List Int)) : Option Bool :=
 Option.bind (α := Ex Unit Bool) (
  loopO (σ := Int) (ρ := Ex Unit Bool) (fun s13 =>
   if decide (s13 < (list.length : Int)) = true then
    Option.bind (idx list s13) fun x14 =>
    Option.bind (spec_l1In x14 (0 : Int) (w64 (n - (1 : Int)))) fun x15 =>
    if (!x15) = true then
     some (Lp.done (Ex.out false))
    else
     some (Lp.more (w64 (s13 + (1 : Int))))
   else
    some (Lp.done (Ex.fall ()))) (0 : Int))
 (Ex.cont fun s8 =>
 some true)

noncomputable def spec_l2Perm (l_ : (List Int)) (n : Int) : Option Bool :=
 Option.bind (α := Bool) (
  if ((l_.length : Int) != n) = true then
   some true
  else
   Option.bind (spec_l2Elements n l_) fun x4 =>
   some (!x4))
 (fun s2 =>
 if s2 = true then
  some false
 else
  Option.bind (mkS false n) fun x6 =>
  Option.bind (α := Ex Unit Bool) (
   loopO (σ := ((List Bool) × Int)) (ρ := Ex Unit Bool) (fun s25 =>
    if decide (s25.2 < n) = true then
     Option.bind (idx l_ s25.2) fun x26 =>
     Option.bind (idx s25.1 x26) fun x27 =>
     if x27 = true then
      some (Lp.done (Ex.out false))
     else
      Option.bind (idx l_ s25.2) fun x28 =>
      Option.bind (idx s25.1 x28) fun x29 =>
      some (Lp.more (s25.1.set x28.toNat true, w64 (s25.2 + (1 : Int))))
    else
     some (Lp.done (Ex.fall ()))) (x6, (0 : Int)))
  (Ex.cont fun s18 =>
  some true))

noncomputable def spec_l1Cur_one (c_ : ((List Int) × (Int × (Int × Unit)))) (n : Int) : Option (Bool × ((List Int) × (Int × (Int × Unit)))) :=
 Option.bind (spec_l1Cur_pick c_ n) fun x1 =>
 some ((x1.1 == (0 : Int)), x1.2)

noncomputable def spec_l2Args (n : Int) (arity : Int) (at_ : Int) : Option (List Int) :=
 Option.bind (mkS (0 : Int) arity) fun x1 =>
 Option.bind (α := (List Int)) (
  loopO (σ := (Int × (List Int) × Int)) (ρ := (List Int)) (fun s17 =>
   if decide ((0 : Int) ≤ s17.2.2) = true then
    Option.bind (need (n ≠ 0)) fun _ =>
    Option.bind (idx s17.2.1 s17.2.2) fun x19 =>
    Option.bind (need (n ≠ 0)) fun _ =>
    some (Lp.more (w64 (s17.1.tdiv n), (s17.2.1.set s17.2.2.toNat (s17.1.tmod n), w64 (s17.2.2 - (1 : Int)))))
   else
    some (Lp.done s17.2.1)) (at_, (x1, w64 (arity - (1 : Int)))))
 (fun s11 =>
 some s11)

noncomputable def spec_l2Rename (a : (Int × ((List (Int × ((List Int) × Unit))) × Unit))) (names : (List Int)) : Option (Int × ((List (Int × ((List Int) × Unit))) × Unit)) :=
 Option.bind (α := (Int × ((List (Int × ((List Int) × Unit))) × Unit))) (
  loopO (σ := ((Int × ((List (Int × ((List Int) × Unit))) × Unit)) × Int)) (ρ := (Int × ((List (Int × ((List Int) × Unit))) × Unit))) (fun s310 =>
   if decide (s310.2 < (a.2.1.length : Int)) = true then
    Option.bind (idx a.2.1 s310.2) fun x311 =>
    Option.bind (idx a.2.1 s310.2) fun x312 =>
    Option.bind (mkS (0 : Int) (x312.2.1.length : Int)) fun x313 =>
    Option.bind (α := (Int × ((List Int) × Unit))) (
     loopO (σ := ((Int × ((List Int) × Unit)) × Int)) (ρ := (Int × ((List Int) × Unit))) (fun s386 =>
      if decide (s386.2 < (s386.1.2.1.length : Int)) = true then
       Option.bind (spec_l2Args a.1 s386.1.1 s386.2) fun x387 =>
       Option.bind (α := Int) (
        loopO (σ := (Int × Int)) (ρ := Int) (fun s400 =>
         if decide (s400.2 < (x387.length : Int)) = true then
          Option.bind (idx x387 s400.2) fun x401 =>
          Option.bind (idx names x401) fun x402 =>
          some (Lp.more (w64 ((w64 (s400.1 * a.1)) + x402), w64 (s400.2 + (1 : Int))))
         else
          some (Lp.done s400.1)) ((0 : Int), (0 : Int)))
       (fun s395 =>
       Option.bind (idx a.2.1 s310.2) fun x405 =>
       Option.bind (idx x405.2.1 s386.2) fun x406 =>
       Option.bind (idx names x406) fun x407 =>
       Option.bind (idx s386.1.2.1 s395) fun x408 =>
       some (Lp.more ((s386.1.1, (s386.1.2.1.set s395.toNat x407, s386.1.2.2)), w64 (s386.2 + (1 : Int)))))
      else
       some (Lp.done s386.1)) ((x311.1, (x313, ())), (0 : Int)))
    (fun s361 =>
    Option.bind (app s310.1.2.1 ([s361])) fun x411 =>
    some (Lp.more ((s310.1.1, (x411, s310.1.2.2)), w64 (s310.2 + (1 : Int)))))
   else
    some (Lp.done s310.1)) ((a.1, ([], ())), (0 : Int)))
 (fun s206 =>
 some s206)

noncomputable def spec_l2Binary (s : List UInt8) : Option (Int × ((List Int) × Unit)) :=
 Option.bind (α := (Int × ((List Int) × Unit))) (
  loopO (σ := ((Int × ((List Int) × Unit)) × Int)) (ρ := (Int × ((List Int) × Unit))) (fun s13 =>
   if decide (s13.2 < (s.length : Int)) = true then
    Option.bind (idx s s13.2) fun x14 =>
    Option.bind (app s13.1.2.1 ([w64 (IntKind.wrap .u8 ((x14.toNat : Int) - (48 : Int)))])) fun x15 =>
    some (Lp.more ((s13.1.1, (x15, s13.1.2.2)), w64 (s13.2 + (1 : Int))))
   else
    some (Lp.done s13.1)) (((2 : Int), ([], ())), (0 : Int)))
 (fun s8 =>
 some s8)

noncomputable def spec_l2Affine (n : Int) : Option (Int × ((List Int) × Unit)) :=
 Option.bind (α := (Int × ((List Int) × Unit))) (
  loopO (σ := ((Int × ((List Int) × Unit)) × Int)) (ρ := (Int × ((List Int) × Unit))) (fun s25 =>
   if decide (s25.2 < (w64 ((w64 (n * n)) * n))) = true then
    Option.bind (need (w64 (n * n) ≠ 0)) fun _ =>
    Option.bind (need (n ≠ 0)) fun _ =>
    Option.bind (need (n ≠ 0)) fun _ =>
    Option.bind (need (n ≠ 0)) fun _ =>
    Option.bind (need (n ≠ 0)) fun _ =>
    Option.bind (app s25.1.2.1 ([(w64 ((w64 ((w64 ((w64 (s25.2.tdiv (w64 (n * n)))) + n)) - ((w64 (s25.2.tdiv n)).tmod n))) + (s25.2.tmod n))).tmod n])) fun x31 =>
    some (Lp.more ((s25.1.1, (x31, s25.1.2.2)), w64 (s25.2 + (1 : Int))))
   else
    some (Lp.done s25.1)) (((3 : Int), ([], ())), (0 : Int)))
 (fun s16 =>
 some s16)

noncomputable def spec_l2Known (k : Int) : Option (Int × ((List (Int × ((List Int) × Unit))) × Unit)) :=
 if (k == (0 : Int)) = true then
  Option.bind (spec_l2Binary ([48, 48, 48, 49] : List UInt8)) fun x1 =>
  some ((2 : Int), ([x1], ()))
 else
  if (k == (1 : Int)) = true then
   Option.bind (spec_l2Binary ([48, 48, 48, 49] : List UInt8)) fun x2 =>
   Option.bind (spec_l2Binary ([48, 49, 49, 49] : List UInt8)) fun x3 =>
   some ((2 : Int), ([x2, x3], ()))
  else
   if (k == (2 : Int)) = true then
    Option.bind (spec_l2Binary ([48, 48, 48, 49] : List UInt8)) fun x4 =>
    Option.bind (spec_l2Binary ([48, 49, 49, 49] : List UInt8)) fun x5 =>
    some ((2 : Int), ([x4, x5, ((1 : Int), ([(1 : Int), (0 : Int)], ()))], ()))
   else
    if (k == (3 : Int)) = true then
     Option.bind (spec_l2Affine (2 : Int)) fun x6 =>
     some ((2 : Int), ([x6], ()))
    else
     if (k == (4 : Int)) = true then
      Option.bind (spec_l2Binary ([48, 49, 50, 49, 50, 48, 50, 48, 49] : List UInt8)) fun x7 =>
      some ((3 : Int), ([x7], ()))
     else
      if (k == (5 : Int)) = true then
       Option.bind (spec_l2Binary ([48, 49, 48, 49, 49, 50, 48, 50, 50] : List UInt8)) fun x8 =>
       some ((3 : Int), ([x8], ()))
      else
       if (k == (6 : Int)) = true then
        Option.bind (spec_l2Binary ([48, 49, 50, 51, 49, 48, 51, 50, 50, 51, 48, 49, 51, 50, 49, 48] : List UInt8)) fun x9 =>
        some ((4 : Int), ([x9], ()))
       else
        if (k == (7 : Int)) = true then
         Option.bind (spec_l2Binary ([48, 48, 48, 48, 49, 49, 48, 49, 50] : List UInt8)) fun x10 =>
         Option.bind (spec_l2Binary ([48, 49, 50, 49, 49, 50, 50, 50, 50] : List UInt8)) fun x11 =>
         some ((3 : Int), ([x10, x11], ()))
        else
         if (k == (8 : Int)) = true then
          some ((4 : Int), ([((1 : Int), ([(1 : Int), (2 : Int), (3 : Int), (0 : Int)], ()))], ()))
         else
          if (k == (9 : Int)) = true then
           some ((2 : Int), ([((3 : Int), ([(0 : Int), (0 : Int), (0 : Int), (1 : Int), (0 : Int), (1 : Int), (1 : Int), (1 : Int)], ()))], ()))
          else
           if (k == (10 : Int)) = true then
            Option.bind (spec_l2Binary ([48, 48, 48, 49, 49, 49, 50, 50, 50] : List UInt8)) fun x12 =>
            some ((3 : Int), ([x12], ()))
           else
            if (k == (11 : Int)) = true then
             Option.bind (spec_l2Binary ([48, 48, 48, 48, 48, 48, 49, 48, 48, 49, 48, 48, 50, 48, 50, 48, 48, 48, 51, 51, 48, 49, 50, 51, 52] : List UInt8)) fun x13 =>
             Option.bind (spec_l2Binary ([48, 49, 50, 51, 52, 49, 49, 52, 52, 52, 50, 52, 50, 52, 52, 51, 52, 52, 51, 52, 52, 52, 52, 52, 52] : List UInt8)) fun x14 =>
             some ((5 : Int), ([x13, x14], ()))
            else
             if (k == (12 : Int)) = true then
              Option.bind (spec_l2Binary ([48, 49, 50, 51, 49, 50, 51, 48, 50, 51, 48, 49, 51, 48, 49, 50] : List UInt8)) fun x15 =>
              some ((4 : Int), ([x15], ()))
             else
              if (k == (13 : Int)) = true then
               some ((3 : Int), ([((1 : Int), ([(0 : Int), (0 : Int), (1 : Int)], ())), ((0 : Int), ([(2 : Int)], ()))], ()))
              else
               if (k == (14 : Int)) = true then
                Option.bind (spec_l2Binary ([48] : List UInt8)) fun x16 =>
                some ((1 : Int), ([x16], ()))
               else
                if (k == (15 : Int)) = true then
                 Option.bind (spec_l2Affine (3 : Int)) fun x17 =>
                 some ((3 : Int), ([x17], ()))
                else
                 some ((2 : Int), ([], ()))

noncomputable def spec_l2Pow (n : Int) (k : Int) : Option Int :=
 Option.bind (α := Int) (
  loopO (σ := (Int × Int)) (ρ := Int) (fun s7 =>
   if decide ((0 : Int) < s7.1) = true then
    some (Lp.more (w64 (s7.1 - (1 : Int)), w64 (s7.2 * n)))
   else
    some (Lp.done s7.2)) (k, (1 : Int)))
 (fun s4 =>
 some s4)

noncomputable def spec_l1Cur_algebra (c_ : ((List Int) × (Int × (Int × Unit)))) : Option ((Int × ((List (Int × ((List Int) × Unit))) × Unit)) × ((List Int) × (Int × (Int × Unit)))) :=
 Option.bind (spec_l1Cur_one c_ (4 : Int)) fun x1 =>
 if (!x1.1) = true then
  Option.bind (spec_l1Cur_pick x1.2 (17 : Int)) fun x2 =>
  Option.bind (spec_l2Known x2.1) fun x3 =>
  some (x3, x2.2)
 else
  Option.bind (spec_l1Cur_among x1.2 ([(2 : Int), (2 : Int), (3 : Int), (3 : Int), (4 : Int)])) fun x4 =>
  Option.bind (spec_l1Cur_among x4.2 ([(1 : Int), (1 : Int), (2 : Int)])) fun x5 =>
  Option.bind (α := (((List Int) × (Int × (Int × Unit))) × (Int × ((List (Int × ((List Int) × Unit))) × Unit)))) (
   loopO (σ := (((List Int) × (Int × (Int × Unit))) × (Int × ((List (Int × ((List Int) × Unit))) × Unit)) × Int)) (ρ := (((List Int) × (Int × (Int × Unit))) × (Int × ((List (Int × ((List Int) × Unit))) × Unit)))) (fun s90 =>
    if decide ((0 : Int) < s90.2.2) = true then
     Option.bind (spec_l1Cur_among s90.1 ([(0 : Int), (1 : Int), (2 : Int), (2 : Int), (3 : Int)])) fun x91 =>
     Option.bind (α := Bool) (
      if (x4.1 == (4 : Int)) = true then
       some (x91.1 == (3 : Int))
      else
       some false)
     (fun s92 =>
     Option.bind (α := (Int × ((List Int) × Unit))) (
      if s92 = true then
       some ((2 : Int), ([], ()))
      else
       some (x91.1, ([], ())))
     (fun s95 =>
     Option.bind (spec_l2Pow x4.1 s95.1) fun x98 =>
     Option.bind (α := (((List Int) × (Int × (Int × Unit))) × (Int × ((List Int) × Unit)))) (
      loopO (σ := (((List Int) × (Int × (Int × Unit))) × (Int × ((List Int) × Unit)) × Int)) (ρ := (((List Int) × (Int × (Int × Unit))) × (Int × ((List Int) × Unit)))) (fun s111 =>
       if decide ((0 : Int) < s111.2.2) = true then
        Option.bind (spec_l1Cur_pick s111.1 x4.1) fun x112 =>
        Option.bind (app s111.2.1.2.1 ([x112.1])) fun x113 =>
        some (Lp.more (x112.2, ((s111.2.1.1, (x113, s111.2.1.2.2)), w64 (s111.2.2 - (1 : Int)))))
       else
        some (Lp.done (s111.1, s111.2.1))) (x91.2, (s95, x98)))
     (fun s106 =>
     Option.bind (app s90.2.1.2.1 ([s106.2])) fun x116 =>
     some (Lp.more (s106.1, ((s90.2.1.1, (x116, s90.2.1.2.2)), w64 (s90.2.2 - (1 : Int))))))))
    else
     some (Lp.done (s90.1, s90.2.1))) (x5.2, ((x4.1, ([], ())), x5.1)))
  (fun s61 =>
  Option.bind (spec_l1Cur_pick s61.1 (16 : Int)) fun x119 =>
  Option.bind (α := (((List Int) × (Int × (Int × Unit))) × (Int × ((List (Int × ((List Int) × Unit))) × Unit)))) (
   if (x119.1 == (0 : Int)) = true then
    Option.bind (spec_l1Cur_among x119.2 ([(0 : Int), (9 : Int), w64 (x4.1 + (1 : Int))])) fun x155 =>
    some (x155.2, (x155.1, s61.2.2))
   else
    if (x119.1 == (1 : Int)) = true then
     Option.bind (idx s61.2.2.1 (0 : Int)) fun x156 =>
     Option.bind (app x156.2.1 ([(0 : Int)])) fun x158 =>
     some (x119.2, (s61.2.1, ((s61.2.2.1.set (0 : Int).toNat (x156.1, (x158, x156.2.2))), s61.2.2.2)))
    else
     if (x119.1 == (2 : Int)) = true then
      Option.bind (idx s61.2.2.1 (0 : Int)) fun x160 =>
      Option.bind (idx s61.2.2.1 (0 : Int)) fun x161 =>
      Option.bind (spec_l1Cur_pick x119.2 (x161.2.1.length : Int)) fun x162 =>
      Option.bind (spec_l1Cur_among x162.2 ([(-1 : Int), x4.1])) fun x163 =>
      Option.bind (idx x160.2.1 x162.1) fun x164 =>
      some (x163.2, (s61.2.1, (s61.2.2.1.set (0 : Int).toNat (x160.1, (x160.2.1.set x162.1.toNat x163.1, x160.2.2)), s61.2.2.2)))
     else
      if (x119.1 == (3 : Int)) = true then
       Option.bind (spec_l1Cur_among x119.2 ([(-1 : Int), (4 : Int)])) fun x165 =>
       Option.bind (idx s61.2.2.1 (0 : Int)) fun x166 =>
       some (x165.2, (s61.2.1, (s61.2.2.1.set (0 : Int).toNat (x165.1, x166.2), s61.2.2.2)))
      else
       if (x119.1 == (4 : Int)) = true then
        Option.bind (α := (((List Int) × (Int × (Int × Unit))) × (Int × ((List (Int × ((List Int) × Unit))) × Unit)))) (
         loopO (σ := (((List Int) × (Int × (Int × Unit))) × (Int × ((List (Int × ((List Int) × Unit))) × Unit)))) (ρ := (((List Int) × (Int × (Int × Unit))) × (Int × ((List (Int × ((List Int) × Unit))) × Unit)))) (fun s182 =>
          Option.bind (spec_l1Cur_pick s182.1 (2 : Int)) fun x183 =>
          if decide ((s182.2.2.1.length : Int) < (w64 ((4 : Int) + x183.1))) = true then
           Option.bind (mkS (0 : Int) x4.1) fun x184 =>
           Option.bind (app s182.2.2.1 ([((1 : Int), (x184, ()))])) fun x185 =>
           some (Lp.more (x183.2, (s182.2.1, (x185, s182.2.2.2))))
          else
           some (Lp.done (x183.2, s182.2))) (x119.2, s61.2))
        (fun s176 =>
        some (s176.1, s176.2))
       else
        some (x119.2, s61.2))
  (fun s153 =>
  some (s153.2, s153.1)))

noncomputable def spec_l1Cur_algebra31 (c_ : ((List Int) × (Int × (Int × Unit)))) : Option ((Int × ((List (Int × ((List Int) × Unit))) × Unit)) × ((List Int) × (Int × (Int × Unit)))) :=
 Option.bind (spec_l1Cur_one c_ (12 : Int)) fun x1 =>
 if x1.1 = true then
  Option.bind (spec_l1Cur_algebra x1.2) fun x2 =>
  some (x2.1, x2.2)
 else
  Option.bind (spec_l1Cur_among x1.2 ([(0 : Int), (1 : Int), (2 : Int), (3 : Int), (4 : Int), (5 : Int), (7 : Int), (8 : Int), (9 : Int), (10 : Int), (13 : Int), (14 : Int), (16 : Int), (12 : Int), (11 : Int)])) fun x3 =>
  Option.bind (spec_l2Known x3.1) fun x4 =>
  Option.bind (spec_l1Cur_names2 x3.2 x4.1) fun x5 =>
  Option.bind (spec_l2Perm x5.1 x4.1) fun x6 =>
  if x6 = true then
   Option.bind (spec_l2Rename x4 x5.1) fun x7 =>
   some (x7, x5.2)
  else
   some (x4, x5.2)

noncomputable def spec_l2Op (n : Int) (op : (Int × ((List Int) × Unit))) : Option Bool :=
 Option.bind (α := Bool) (
  Option.bind (spec_l1In op.1 (0 : Int) (3 : Int)) fun x5 =>
  if (!x5) = true then
   some true
  else
   Option.bind (spec_l2Pow n op.1) fun x6 =>
   some ((op.2.1.length : Int) != x6))
 (fun s3 =>
 if s3 = true then
  some false
 else
  Option.bind (α := Ex Unit Bool) (
   loopO (σ := Int) (ρ := Ex Unit Bool) (fun s20 =>
    if decide (s20 < (op.2.1.length : Int)) = true then
     Option.bind (idx op.2.1 s20) fun x21 =>
     Option.bind (spec_l1In x21 (0 : Int) (w64 (n - (1 : Int)))) fun x22 =>
     if (!x22) = true then
      some (Lp.done (Ex.out false))
     else
      some (Lp.more (w64 (s20 + (1 : Int))))
    else
     some (Lp.done (Ex.fall ()))) (0 : Int))
  (Ex.cont fun s15 =>
  some true))

noncomputable def spec_l2Good (a : (Int × ((List (Int × ((List Int) × Unit))) × Unit))) : Option Bool :=
 Option.bind (α := Bool) (
  Option.bind (spec_l1In a.1 (1 : Int) (8 : Int)) fun x4 =>
  if (!x4) = true then
   some true
  else
   some (decide ((4 : Int) < (a.2.1.length : Int))))
 (fun s2 =>
 if s2 = true then
  some false
 else
  Option.bind (α := Ex Unit Bool) (
   loopO (σ := Int) (ρ := Ex Unit Bool) (fun s18 =>
    if decide (s18 < (a.2.1.length : Int)) = true then
     Option.bind (idx a.2.1 s18) fun x19 =>
     Option.bind (spec_l2Op a.1 x19) fun x20 =>
     if (!x20) = true then
      some (Lp.done (Ex.out false))
     else
      some (Lp.more (w64 (s18 + (1 : Int))))
    else
     some (Lp.done (Ex.fall ()))) (0 : Int))
  (Ex.cont fun s13 =>
  some true))

noncomputable def spec_DrawHaveSameForm (code : (List Int)) : Option ((Int × ((List (Int × ((List Int) × Unit))) × Unit)) × (Int × ((List (Int × ((List Int) × Unit))) × Unit))) :=
 Option.bind (spec_l1Cur_algebra31 (code, ((0 : Int), ((0 : Int), ())))) fun x1 =>
 Option.bind (spec_l1Cur_names2 x1.2 x1.1.1) fun x2 =>
 Option.bind (α := (((List Int) × (Int × (Int × Unit))) × Bool)) (
  Option.bind (spec_l2Good x1.1) fun x8 =>
  if x8 = true then
   Option.bind (spec_l2Perm x2.1 x1.1.1) fun x9 =>
   if x9 = true then
    Option.bind (spec_l1Cur_one x2.2 (2 : Int)) fun x10 =>
    some (x10.2, x10.1)
   else
    some (x2.2, false)
  else
   some (x2.2, false))
 (fun s6 =>
 if s6.2 = true then
  Option.bind (spec_l2Rename x1.1 x2.1) fun x12 =>
  some (x1.1, x12)
 else
  Option.bind (spec_l1Cur_algebra31 s6.1) fun x13 =>
  some (x1.1, x13.1))

noncomputable def impl_inSize (list : (List Int)) (n : Int) : Option Bool :=
 Option.bind (α := Ex Unit Bool) (
  loopO (σ := Int) (ρ := Ex Unit Bool) (fun s19 =>
   if decide (s19 < (list.length : Int)) = true then
    Option.bind (idx list s19) fun x20 =>
    Option.bind (α := Bool) (
     if decide (x20 < (0 : Int)) = true then
      some true
     else
      some (decide (n ≤ x20)))
    (fun s21 =>
    if s21 = true then
     some (Lp.done (Ex.out false))
    else
     some (Lp.more (w64 (s19 + (1 : Int)))))
   else
    some (Lp.done (Ex.fall ()))) (0 : Int))
 (Ex.cont fun s12 =>
 some true)

noncomputable def impl_power (n : Int) (k : Int) : Option Int :=
 Option.bind (α := Int) (
  loopO (σ := (Int × Int)) (ρ := Int) (fun s7 =>
   if decide ((0 : Int) < s7.1) = true then
    some (Lp.more (w64 (s7.1 - (1 : Int)), w64 (s7.2 * n)))
   else
    some (Lp.done s7.2)) (k, (1 : Int)))
 (fun s4 =>
 some s4)

noncomputable def impl_isOp (f : (Int × ((List Int) × Unit))) (n : Int) : Option Bool :=
 Option.bind (α := Bool) (
  if decide ((0 : Int) ≤ f.1) = true then
   if decide (f.1 ≤ (3 : Int)) = true then
    Option.bind (impl_power n f.1) fun x5 =>
    if ((f.2.1.length : Int) == x5) = true then
     Option.bind (impl_inSize f.2.1 n) fun x6 =>
     some x6
    else
     some false
   else
    some false
  else
   some false)
 (fun s3 =>
 some s3)

noncomputable def impl_IsAlgebra (a : (Int × ((List (Int × ((List Int) × Unit))) × Unit))) : Option Bool :=
 Option.bind (α := Bool) (
  if decide (a.1 < (1 : Int)) = true then
   some true
  else
   if decide ((8 : Int) < a.1) = true then
    some true
   else
    some (decide ((4 : Int) < (a.2.1.length : Int))))
 (fun s1 =>
 if s1 = true then
  some false
 else
  Option.bind (α := Ex Unit Bool) (
   loopO (σ := Int) (ρ := Ex Unit Bool) (fun s16 =>
    if decide (s16 < (a.2.1.length : Int)) = true then
     Option.bind (idx a.2.1 s16) fun x17 =>
     Option.bind (impl_isOp x17 a.1) fun x18 =>
     if (!x18) = true then
      some (Lp.done (Ex.out false))
     else
      some (Lp.more (w64 (s16 + (1 : Int))))
    else
     some (Lp.done (Ex.fall ()))) (0 : Int))
  (Ex.cont fun s11 =>
  some true))

noncomputable def impl_isNamed (a : (Int × ((List (Int × ((List Int) × Unit))) × Unit))) : Option Bool :=
 Option.bind (α := Bool) (
  Option.bind (impl_IsAlgebra a) fun x4 =>
  if x4 = true then
   some (decide (a.1 ≤ (5 : Int)))
  else
   some false)
 (fun s2 =>
 some s2)

noncomputable def impl_clone (list : (List Int)) : Option (List Int) :=
 Option.bind (app ([]) list) fun x1 =>
 some x1

noncomputable def impl_cloneOp (f : (Int × ((List Int) × Unit))) : Option (Int × ((List Int) × Unit)) :=
 Option.bind (impl_clone f.2.1) fun x1 =>
 some (f.1, (x1, ()))

noncomputable def impl_cloneAlgebra (a : (Int × ((List (Int × ((List Int) × Unit))) × Unit))) : Option (Int × ((List (Int × ((List Int) × Unit))) × Unit)) :=
 Option.bind (α := (Int × ((List (Int × ((List Int) × Unit))) × Unit))) (
  loopO (σ := ((Int × ((List (Int × ((List Int) × Unit))) × Unit)) × Int)) (ρ := (Int × ((List (Int × ((List Int) × Unit))) × Unit))) (fun s16 =>
   if decide (s16.2 < (a.2.1.length : Int)) = true then
    Option.bind (idx a.2.1 s16.2) fun x17 =>
    Option.bind (impl_cloneOp x17) fun x18 =>
    Option.bind (app s16.1.2.1 ([x18])) fun x19 =>
    some (Lp.more ((s16.1.1, (x19, s16.1.2.2)), w64 (s16.2 + (1 : Int))))
   else
    some (Lp.done s16.1)) ((a.1, ([], ())), (0 : Int)))
 (fun s10 =>
 some s10)

noncomputable def impl_argsAt (i : Int) (k : Int) (n : Int) : Option (List Int) :=
 Option.bind (mkS (0 : Int) k) fun x1 =>
 Option.bind (α := (List Int)) (
  loopO (σ := (Int × (List Int) × Int)) (ρ := (List Int)) (fun s17 =>
   if decide ((0 : Int) ≤ s17.2.2) = true then
    Option.bind (need (n ≠ 0)) fun _ =>
    Option.bind (idx s17.2.1 s17.2.2) fun x19 =>
    Option.bind (need (n ≠ 0)) fun _ =>
    some (Lp.more (w64 (s17.1.tdiv n), (s17.2.1.set s17.2.2.toNat (s17.1.tmod n), w64 (s17.2.2 - (1 : Int)))))
   else
    some (Lp.done s17.2.1)) (i, (x1, w64 (k - (1 : Int)))))
 (fun s11 =>
 some s11)

noncomputable def impl_indexOf (args : (List Int)) (n : Int) : Option Int :=
 Option.bind (α := Int) (
  loopO (σ := (Int × Int)) (ρ := Int) (fun s10 =>
   if decide (s10.2 < (args.length : Int)) = true then
    Option.bind (idx args s10.2) fun x11 =>
    some (Lp.more (w64 ((w64 (s10.1 * n)) + x11), w64 (s10.2 + (1 : Int))))
   else
    some (Lp.done s10.1)) ((0 : Int), (0 : Int)))
 (fun s6 =>
 some s6)

noncomputable def impl_rename (a : (Int × ((List (Int × ((List Int) × Unit))) × Unit))) (names : (List Int)) : Option (Int × ((List (Int × ((List Int) × Unit))) × Unit)) :=
 Option.bind (impl_cloneAlgebra a) fun x1 =>
 Option.bind (α := (Int × ((List (Int × ((List Int) × Unit))) × Unit))) (
  loopO (σ := ((Int × ((List (Int × ((List Int) × Unit))) × Unit)) × Int)) (ρ := (Int × ((List (Int × ((List Int) × Unit))) × Unit))) (fun s362 =>
   if decide (s362.2 < (a.2.1.length : Int)) = true then
    Option.bind (idx a.2.1 s362.2) fun x363 =>
    Option.bind (α := (Int × ((List (Int × ((List Int) × Unit))) × Unit))) (
     loopO (σ := ((Int × ((List (Int × ((List Int) × Unit))) × Unit)) × Int)) (ρ := (Int × ((List (Int × ((List Int) × Unit))) × Unit))) (fun s451 =>
      if decide (s451.2 < (x363.2.1.length : Int)) = true then
       Option.bind (idx x363.2.1 s451.2) fun x452 =>
       Option.bind (impl_argsAt s451.2 x363.1 a.1) fun x453 =>
       Option.bind (α := (List Int)) (
        loopO (σ := ((List Int) × Int)) (ρ := (List Int)) (fun s469 =>
         if decide (s469.2 < (x453.length : Int)) = true then
          Option.bind (idx s469.1 s469.2) fun x470 =>
          Option.bind (idx names x470) fun x471 =>
          Option.bind (idx s469.1 s469.2) fun x472 =>
          some (Lp.more (s469.1.set s469.2.toNat x471, w64 (s469.2 + (1 : Int))))
         else
          some (Lp.done s469.1)) (x453, (0 : Int)))
       (fun s463 =>
       Option.bind (idx s451.1.2.1 s362.2) fun x475 =>
       Option.bind (impl_indexOf s463 a.1) fun x476 =>
       Option.bind (idx names x452) fun x477 =>
       Option.bind (idx x475.2.1 x476) fun x478 =>
       some (Lp.more ((s451.1.1, (s451.1.2.1.set s362.2.toNat (x475.1, (x475.2.1.set x476.toNat x477, x475.2.2)), s451.1.2.2)), w64 (s451.2 + (1 : Int)))))
      else
       some (Lp.done s451.1)) (s362.1, (0 : Int)))
    (fun s421 =>
    some (Lp.more (s421, w64 (s362.2 + (1 : Int)))))
   else
    some (Lp.done s362.1)) (x1, (0 : Int)))
 (fun s241 =>
 some s241)

noncomputable def impl_codeOf (a : (Int × ((List (Int × ((List Int) × Unit))) × Unit))) : Option (List Int) :=
 Option.bind (α := (List Int)) (
  loopO (σ := ((List Int) × Int)) (ρ := (List Int)) (fun s13 =>
   if decide (s13.2 < (a.2.1.length : Int)) = true then
    Option.bind (idx a.2.1 s13.2) fun x14 =>
    Option.bind (app s13.1 x14.2.1) fun x15 =>
    some (Lp.more (x15, w64 (s13.2 + (1 : Int))))
   else
    some (Lp.done s13.1)) ([], (0 : Int)))
 (fun s8 =>
 some s8)

noncomputable def impl_compareLists (s : (List Int)) (t : (List Int)) : Option Int :=
 Option.bind (α := Ex Unit Int) (
  loopO (σ := Int) (ρ := Ex Unit Int) (fun s28 =>
   Option.bind (α := Bool) (
    if decide (s28 < (s.length : Int)) = true then
     some (decide (s28 < (t.length : Int)))
    else
     some false)
   (fun s29 =>
   if s29 = true then
    Option.bind (idx s s28) fun x32 =>
    Option.bind (idx t s28) fun x33 =>
    if (x32 != x33) = true then
     Option.bind (idx s s28) fun x34 =>
     Option.bind (idx t s28) fun x35 =>
     if decide (x34 < x35) = true then
      some (Lp.done (Ex.out (-1 : Int)))
     else
      some (Lp.done (Ex.out (1 : Int)))
    else
     some (Lp.more (w64 (s28 + (1 : Int))))
   else
    some (Lp.done (Ex.fall ())))) (0 : Int))
 (Ex.cont fun s18 =>
 if decide ((s.length : Int) < (t.length : Int)) = true then
  some (-1 : Int)
 else
  if decide ((t.length : Int) < (s.length : Int)) = true then
   some (1 : Int)
  else
   some (0 : Int))

noncomputable def impl_canonical_1 (names : (List Int)) (u1v : (Int × ((List (Int × ((List Int) × Unit))) × Unit))) (u2v : (Option (List Int))) (u3v : (List Int)) (u4v : (Int × ((List (Int × ((List Int) × Unit))) × Unit))) : Option ((Option (List Int)) × (List Int) × (Int × ((List (Int × ((List Int) × Unit))) × Unit))) :=
 Option.bind (impl_rename u1v names) fun x1 =>
 Option.bind (impl_codeOf x1) fun x2 =>
 Option.bind (α := Bool) (
  if u2v.isNone = true then
   some true
  else
   Option.bind (impl_compareLists x2 u3v) fun x6 =>
   some (decide (x6 < (0 : Int))))
 (fun s4 =>
 if s4 = true then
  Option.bind (impl_clone names) fun x8 =>
  Option.bind (need (x8 ≠ [])) fun _ =>
  some ((some x8), (x2, x1))
 else
  some (u2v, (u3v, u4v)))

noncomputable def impl_hasNot (list : (List Int)) (x : Int) : Option Bool :=
 Option.bind (α := Ex Unit Bool) (
  loopO (σ := Int) (ρ := Ex Unit Bool) (fun s10 =>
   if decide (s10 < (list.length : Int)) = true then
    Option.bind (idx list s10) fun x11 =>
    if (x == x11) = true then
     some (Lp.done (Ex.out false))
    else
     some (Lp.more (w64 (s10 + (1 : Int))))
   else
    some (Lp.done (Ex.fall ()))) (0 : Int))
 (Ex.cont fun s6 =>
 some true)

noncomputable def impl_eachOrder_1_with_canonical_1 : (fuel : Nat) → (u0v : (List Int)) → (u1v : Int) → (u2v_c0_u1v : (Int × ((List (Int × ((List Int) × Unit))) × Unit))) → (u2v_c1_u2v : (Option (List Int))) → (u2v_c2_u3v : (List Int)) → (u2v_c3_u4v : (Int × ((List (Int × ((List Int) × Unit))) × Unit))) → Option ((List Int) × (Option (List Int)) × (List Int) × (Int × ((List (Int × ((List Int) × Unit))) × Unit)))
 | 0, _, _, _, _, _, _ => none
 | fuel + 1, u0v, u1v, u2v_c0_u1v, u2v_c1_u2v, u2v_c2_u3v, u2v_c3_u4v =>
  if ((u0v.length : Int) == u1v) = true then
   Option.bind (impl_canonical_1 u0v u2v_c0_u1v u2v_c1_u2v u2v_c2_u3v u2v_c3_u4v) fun x1 =>
   some (u0v, (x1.1, (x1.2.1, x1.2.2)))
  else
   Option.bind (α := ((List Int) × (Option (List Int)) × (List Int) × (Int × ((List (Int × ((List Int) × Unit))) × Unit)))) (
    loopO (σ := ((List Int) × Int × (Option (List Int)) × (List Int) × (Int × ((List (Int × ((List Int) × Unit))) × Unit)))) (ρ := ((List Int) × (Option (List Int)) × (List Int) × (Int × ((List (Int × ((List Int) × Unit))) × Unit)))) (fun s38 =>
     if decide (s38.2.1 < u1v) = true then
      Option.bind (impl_hasNot s38.1 s38.2.1) fun x39 =>
      Option.bind (α := ((List Int) × (Option (List Int)) × (List Int) × (Int × ((List (Int × ((List Int) × Unit))) × Unit)))) (
       if x39 = true then
        Option.bind (app s38.1 ([s38.2.1])) fun x45 =>
        Option.bind (impl_eachOrder_1_with_canonical_1 fuel x45 u1v u2v_c0_u1v s38.2.2.1 s38.2.2.2.1 s38.2.2.2.2) fun x46 =>
        Option.bind (cut x46.1 (0 : Int) (w64 ((x46.1.length : Int) - (1 : Int)))) fun x47 =>
        some (x47, (x46.2.1, (x46.2.2.1, x46.2.2.2)))
       else
        some (s38.1, (s38.2.2.1, (s38.2.2.2.1, s38.2.2.2.2))))
      (fun s43 =>
      some (Lp.more (s43.1, (w64 (s38.2.1 + (1 : Int)), (s43.2.1, (s43.2.2.1, s43.2.2.2))))))
     else
      some (Lp.done (s38.1, (s38.2.2.1, (s38.2.2.2.1, s38.2.2.2.2))))) (u0v, ((0 : Int), (u2v_c1_u2v, (u2v_c2_u3v, u2v_c3_u4v)))))
   (fun s25 =>
   some (s25.1, (s25.2.1, (s25.2.2.1, s25.2.2.2))))

noncomputable def impl_eachOrder_with_canonical_1 (n : Int) (found_c0_u1v : (Int × ((List (Int × ((List Int) × Unit))) × Unit))) (found_c1_u2v : (Option (List Int))) (found_c2_u3v : (List Int)) (found_c3_u4v : (Int × ((List (Int × ((List Int) × Unit))) × Unit))) : Option ((Option (List Int)) × (List Int) × (Int × ((List (Int × ((List Int) × Unit))) × Unit))) :=
 Option.bind (impl_eachOrder_1_with_canonical_1 30 ([]) n found_c0_u1v found_c1_u2v found_c2_u3v found_c3_u4v) fun x1 =>
 some (x1.2.1, (x1.2.2.1, x1.2.2.2))

noncomputable def impl_canonical (a : (Int × ((List (Int × ((List Int) × Unit))) × Unit))) : Option ((Int × ((List (Int × ((List Int) × Unit))) × Unit)) × (List Int)) :=
 Option.bind (impl_eachOrder_with_canonical_1 a.1 a none ([]) ((0 : Int), ([], ()))) fun x1 =>
 some (x1.2.2, (x1.1.getD []))

noncomputable def impl_sameList (a : (List Int)) (b : (List Int)) : Option Bool :=
 if ((a.length : Int) != (b.length : Int)) = true then
  some false
 else
  Option.bind (α := Ex Unit Bool) (
   loopO (σ := Int) (ρ := Ex Unit Bool) (fun s13 =>
    if decide (s13 < (a.length : Int)) = true then
     Option.bind (idx a s13) fun x14 =>
     Option.bind (idx b s13) fun x15 =>
     if (x15 != x14) = true then
      some (Lp.done (Ex.out false))
     else
      some (Lp.more (w64 (s13 + (1 : Int))))
    else
     some (Lp.done (Ex.fall ()))) (0 : Int))
  (Ex.cont fun s8 =>
  some true)

noncomputable def impl_sameAlgebra (a : (Int × ((List (Int × ((List Int) × Unit))) × Unit))) (b : (Int × ((List (Int × ((List Int) × Unit))) × Unit))) : Option Bool :=
 Option.bind (α := Bool) (
  if (a.1 != b.1) = true then
   some true
  else
   some ((a.2.1.length : Int) != (b.2.1.length : Int)))
 (fun s1 =>
 if s1 = true then
  some false
 else
  Option.bind (α := Ex Unit Bool) (
   loopO (σ := Int) (ρ := Ex Unit Bool) (fun s40 =>
    if decide (s40 < (a.2.1.length : Int)) = true then
     Option.bind (idx a.2.1 s40) fun x41 =>
     Option.bind (α := Bool) (
      Option.bind (idx b.2.1 s40) fun x47 =>
      if (x41.1 != x47.1) = true then
       some true
      else
       Option.bind (idx b.2.1 s40) fun x48 =>
       Option.bind (impl_sameList x41.2.1 x48.2.1) fun x49 =>
       some (!x49))
     (fun s45 =>
     if s45 = true then
      some (Lp.done (Ex.out false))
     else
      some (Lp.more (w64 (s40 + (1 : Int)))))
    else
     some (Lp.done (Ex.fall ()))) (0 : Int))
  (Ex.cont fun s27 =>
  some true))

noncomputable def impl_HaveSameForm (a : (Int × ((List (Int × ((List Int) × Unit))) × Unit))) (b : (Int × ((List (Int × ((List Int) × Unit))) × Unit))) : Option (Bool × Bool) :=
 Option.bind (α := Bool) (
  Option.bind (impl_isNamed a) fun x5 =>
  if (!x5) = true then
   some true
  else
   Option.bind (impl_isNamed b) fun x6 =>
   some (!x6))
 (fun s3 =>
 if s3 = true then
  some (false, false)
 else
  Option.bind (impl_canonical a) fun x8 =>
  Option.bind (impl_canonical b) fun x9 =>
  Option.bind (impl_sameAlgebra x8.1 x9.1) fun x10 =>
  some (x10, true))

noncomputable def spec_l31Takes (a : (Int × ((List (Int × ((List Int) × Unit))) × Unit))) : Option Bool :=
 Option.bind (α := Bool) (
  Option.bind (spec_l2Good a) fun x4 =>
  if x4 = true then
   some (decide (a.1 ≤ (5 : Int)))
  else
   some false)
 (fun s2 =>
 some s2)

noncomputable def spec_l31Code (a : (Int × ((List (Int × ((List Int) × Unit))) × Unit))) : Option (List Int) :=
 Option.bind (α := (List Int)) (
  loopO (σ := ((List Int) × Int)) (ρ := (List Int)) (fun s13 =>
   if decide (s13.2 < (a.2.1.length : Int)) = true then
    Option.bind (idx a.2.1 s13.2) fun x14 =>
    Option.bind (app s13.1 x14.2.1) fun x15 =>
    some (Lp.more (x15, w64 (s13.2 + (1 : Int))))
   else
    some (Lp.done s13.1)) ([], (0 : Int)))
 (fun s8 =>
 some s8)

noncomputable def spec_l1Same (a : (List Int)) (b : (List Int)) : Option Bool :=
 if ((a.length : Int) != (b.length : Int)) = true then
  some false
 else
  Option.bind (α := Ex Unit Bool) (
   loopO (σ := Int) (ρ := Ex Unit Bool) (fun s13 =>
    if decide (s13 < (a.length : Int)) = true then
     Option.bind (idx a s13) fun x14 =>
     Option.bind (idx b s13) fun x15 =>
     if (x14 != x15) = true then
      some (Lp.done (Ex.out false))
     else
      some (Lp.more (w64 (s13 + (1 : Int))))
    else
     some (Lp.done (Ex.fall ()))) (0 : Int))
  (Ex.cont fun s8 =>
  some true)

noncomputable def spec_l2Type (a : (Int × ((List (Int × ((List Int) × Unit))) × Unit))) : Option (List Int) :=
 Option.bind (α := (List Int)) (
  loopO (σ := ((List Int) × Int)) (ρ := (List Int)) (fun s13 =>
   if decide (s13.2 < (a.2.1.length : Int)) = true then
    Option.bind (idx a.2.1 s13.2) fun x14 =>
    Option.bind (app s13.1 ([x14.1])) fun x15 =>
    some (Lp.more (x15, w64 (s13.2 + (1 : Int))))
   else
    some (Lp.done s13.1)) ([], (0 : Int)))
 (fun s8 =>
 some s8)

noncomputable def spec_l2Same (a : (Int × ((List (Int × ((List Int) × Unit))) × Unit))) (b : (Int × ((List (Int × ((List Int) × Unit))) × Unit))) : Option Bool :=
 Option.bind (spec_l2Type a) fun x1 =>
 Option.bind (spec_l2Type b) fun x2 =>
 Option.bind (spec_l1Same x1 x2) fun x3 =>
 some x3

noncomputable def spec_l31Same (a : (Int × ((List (Int × ((List Int) × Unit))) × Unit))) (b : (Int × ((List (Int × ((List Int) × Unit))) × Unit))) : Option Bool :=
 Option.bind (α := Bool) (
  if (a.1 == b.1) = true then
   Option.bind (spec_l2Same a b) fun x7 =>
   if x7 = true then
    Option.bind (spec_l31Code a) fun x8 =>
    Option.bind (spec_l31Code b) fun x9 =>
    Option.bind (spec_l1Same x8 x9) fun x10 =>
    some x10
   else
    some false
  else
   some false)
 (fun s5 =>
 some s5)

noncomputable def spec_l1Own (l_ : (List Int)) : Option (List Int) :=
 Option.bind (app ([]) l_) fun x1 =>
 some x1

noncomputable def spec_l1Has (l_ : (List Int)) (n : Int) : Option Bool :=
 Option.bind (α := Ex Unit Bool) (
  loopO (σ := Int) (ρ := Ex Unit Bool) (fun s10 =>
   if decide (s10 < (l_.length : Int)) = true then
    Option.bind (idx l_ s10) fun x11 =>
    if (x11 == n) = true then
     some (Lp.done (Ex.out true))
    else
     some (Lp.more (w64 (s10 + (1 : Int))))
   else
    some (Lp.done (Ex.fall ()))) (0 : Int))
 (Ex.cont fun s6 =>
 some false)

noncomputable def spec_l31Names : (fuel : Nat) → (n : Int) → (begun : (List Int)) → Option (List (List Int))
 | 0, _, _ => none
 | fuel + 1, n, begun =>
  if ((begun.length : Int) == n) = true then
   Option.bind (spec_l1Own begun) fun x1 =>
   some ([x1])
  else
   Option.bind (α := (List (List Int))) (
    loopO (σ := ((List (List Int)) × Int)) (ρ := (List (List Int))) (fun s44 =>
     if decide (s44.2 < n) = true then
      Option.bind (spec_l1Has begun s44.2) fun x45 =>
      Option.bind (α := (List (List Int))) (
       if (!x45) = true then
        Option.bind (spec_l1Own begun) fun x52 =>
        Option.bind (app x52 ([s44.2])) fun x53 =>
        Option.bind (spec_l31Names fuel n x53) fun x54 =>
        Option.bind (app s44.1 x54) fun x55 =>
        some x55
       else
        some s44.1)
      (fun s50 =>
      some (Lp.more (s50, w64 (s44.2 + (1 : Int)))))
     else
      some (Lp.done s44.1)) ([], (0 : Int)))
   (fun s29 =>
   some s29)

noncomputable def spec_l5Less (a : (List Int)) (b : (List Int)) : Option Bool :=
 Option.bind (α := Ex Unit Bool) (
  loopO (σ := Int) (ρ := Ex Unit Bool) (fun s19 =>
   if decide (s19 < (a.length : Int)) = true then
    Option.bind (idx a s19) fun x20 =>
    Option.bind (idx b s19) fun x21 =>
    if (x20 != x21) = true then
     Option.bind (idx a s19) fun x22 =>
     Option.bind (idx b s19) fun x23 =>
     some (Lp.done (Ex.out (decide (x22 < x23))))
    else
     some (Lp.more (w64 (s19 + (1 : Int))))
   else
    some (Lp.done (Ex.fall ()))) (0 : Int))
 (Ex.cont fun s12 =>
 some false)

noncomputable def spec_l31First (a : (Int × ((List (Int × ((List Int) × Unit))) × Unit))) : Option (List Int) :=
 Option.bind (spec_l31Names 30 a.1 ([])) fun x1 =>
 Option.bind (idx x1 (0 : Int)) fun x2 =>
 Option.bind (spec_l31Code a) fun x3 =>
 Option.bind (α := (List Int)) (
  loopO (σ := ((List Int) × (List Int) × Int)) (ρ := (List Int)) (fun s37 =>
   if decide (s37.2.2 < (x1.length : Int)) = true then
    Option.bind (idx x1 s37.2.2) fun x38 =>
    Option.bind (spec_l2Rename a x38) fun x39 =>
    Option.bind (spec_l31Code x39) fun x40 =>
    Option.bind (spec_l5Less x40 s37.2.1) fun x41 =>
    Option.bind (α := ((List Int) × (List Int))) (
     if x41 = true then
      Option.bind (idx x1 s37.2.2) fun x45 =>
      some (x45, x40)
     else
      some (s37.1, s37.2.1))
    (fun s43 =>
    some (Lp.more (s43.1, (s43.2, w64 (s37.2.2 + (1 : Int))))))
   else
    some (Lp.done s37.1)) (x2, (x3, (1 : Int))))
 (fun s25 =>
 some s25)

noncomputable def spec_l31Form (a : (Int × ((List (Int × ((List Int) × Unit))) × Unit))) : Option (Int × ((List (Int × ((List Int) × Unit))) × Unit)) :=
 Option.bind (spec_l31First a) fun x1 =>
 Option.bind (spec_l2Rename a x1) fun x2 =>
 some x2

noncomputable def spec_HaveSameForm (a : (Int × ((List (Int × ((List Int) × Unit))) × Unit))) (b : (Int × ((List (Int × ((List Int) × Unit))) × Unit))) : Option (Bool × Bool) :=
 Option.bind (α := Bool) (
  Option.bind (spec_l31Takes a) fun x5 =>
  if (!x5) = true then
   some true
  else
   Option.bind (spec_l31Takes b) fun x6 =>
   some (!x6))
 (fun s3 =>
 if s3 = true then
  some (false, false)
 else
  Option.bind (spec_l31Form a) fun x8 =>
  Option.bind (spec_l31Form b) fun x9 =>
  Option.bind (spec_l31Same x8 x9) fun x10 =>
  some (x10, true))

noncomputable def impl_typeOf (a : (Int × ((List (Int × ((List Int) × Unit))) × Unit))) : Option (List Int) :=
 Option.bind (α := (List Int)) (
  loopO (σ := ((List Int) × Int)) (ρ := (List Int)) (fun s13 =>
   if decide (s13.2 < (a.2.1.length : Int)) = true then
    Option.bind (idx a.2.1 s13.2) fun x14 =>
    Option.bind (app s13.1 ([x14.1])) fun x15 =>
    some (Lp.more (x15, w64 (s13.2 + (1 : Int))))
   else
    some (Lp.done s13.1)) ([], (0 : Int)))
 (fun s8 =>
 some s8)

noncomputable def impl_SameType (a : (Int × ((List (Int × ((List Int) × Unit))) × Unit))) (b : (Int × ((List (Int × ((List Int) × Unit))) × Unit))) : Option (Bool × Bool) :=
 Option.bind (α := Bool) (
  Option.bind (impl_IsAlgebra a) fun x5 =>
  if (!x5) = true then
   some true
  else
   Option.bind (impl_IsAlgebra b) fun x6 =>
   some (!x6))
 (fun s3 =>
 if s3 = true then
  some (false, false)
 else
  Option.bind (impl_typeOf a) fun x8 =>
  Option.bind (impl_typeOf b) fun x9 =>
  Option.bind (impl_sameList x8 x9) fun x10 =>
  some (x10, true))

noncomputable def impl_alike (a : (Int × ((List (Int × ((List Int) × Unit))) × Unit))) (b : (Int × ((List (Int × ((List Int) × Unit))) × Unit))) : Option Bool :=
 Option.bind (impl_SameType a b) fun x1 =>
 Option.bind (α := Bool) (
  if x1.2 = true then
   some x1.1
  else
   some false)
 (fun s2 =>
 some s2)

noncomputable def impl_areAlike (a : (Int × ((List (Int × ((List Int) × Unit))) × Unit))) (b : (Int × ((List (Int × ((List Int) × Unit))) × Unit))) : Option Bool :=
 Option.bind (α := Bool) (
  Option.bind (impl_IsAlgebra a) fun x6 =>
  if x6 = true then
   Option.bind (impl_IsAlgebra b) fun x7 =>
   if x7 = true then
    Option.bind (impl_alike a b) fun x8 =>
    some x8
   else
    some false
  else
   some false)
 (fun s4 =>
 some s4)

noncomputable def impl_noneOpen (i : Int) (arity : Int) (n : Int) (f : (List Int)) : Option Bool :=
 Option.bind (α := Ex Unit Bool) (
  loopO (σ := (Int × Int)) (ρ := Ex Unit Bool) (fun s16 =>
   if decide ((0 : Int) < s16.2) = true then
    Option.bind (need (n ≠ 0)) fun _ =>
    Option.bind (idx f (s16.1.tmod n)) fun x18 =>
    if decide (x18 < (0 : Int)) = true then
     some (Lp.done (Ex.out false))
    else
     Option.bind (need (n ≠ 0)) fun _ =>
     some (Lp.more (w64 (s16.1.tdiv n), w64 (s16.2 - (1 : Int))))
   else
    some (Lp.done (Ex.fall ()))) (i, arity))
 (Ex.cont fun s10 =>
 some true)

noncomputable def impl_imageIndex (i : Int) (arity : Int) (a : (Int × ((List (Int × ((List Int) × Unit))) × Unit))) (b : (Int × ((List (Int × ((List Int) × Unit))) × Unit))) (f : (List Int)) : Option Int :=
 Option.bind (α := Int) (
  loopO (σ := (Int × Int × Int × Int)) (ρ := Int) (fun s16 =>
   if decide (s16.2.2.2 < arity) = true then
    Option.bind (need (a.1 ≠ 0)) fun _ =>
    Option.bind (idx f (s16.1.tmod a.1)) fun x18 =>
    Option.bind (need (a.1 ≠ 0)) fun _ =>
    some (Lp.more (w64 (s16.1.tdiv a.1), (w64 (s16.2.1 + (w64 (x18 * s16.2.2.1))), (w64 (s16.2.2.1 * b.1), w64 (s16.2.2.2 + (1 : Int))))))
   else
    some (Lp.done s16.2.1)) (i, ((0 : Int), ((1 : Int), (0 : Int)))))
 (fun s10 =>
 some s10)

noncomputable def impl_closeMap (a : (Int × ((List (Int × ((List Int) × Unit))) × Unit))) (b : (Int × ((List (Int × ((List Int) × Unit))) × Unit))) (f : (List Int)) : Option (Bool × (List Int)) :=
 Option.bind (α := Ex (List Int) (Bool × (List Int))) (
  loopO (σ := ((List Int) × Bool)) (ρ := Ex (List Int) (Bool × (List Int))) (fun s1066 =>
   if s1066.2 = true then
    Option.bind (α := Ex ((List Int) × Bool) (Lp ((List Int) × Bool) (Ex (List Int) (Bool × (List Int))))) (
     loopO (σ := ((List Int) × Bool × Int)) (ρ := Ex ((List Int) × Bool) (Lp ((List Int) × Bool) (Ex (List Int) (Bool × (List Int))))) (fun s1331 =>
      if decide (s1331.2.2 < (a.2.1.length : Int)) = true then
       Option.bind (idx a.2.1 s1331.2.2) fun x1332 =>
       Option.bind (α := Ex ((List Int) × Bool) (Lp ((List Int) × Bool × Int) (Ex ((List Int) × Bool) (Lp ((List Int) × Bool) (Ex (List Int) (Bool × (List Int))))))) (
        loopO (σ := ((List Int) × Bool × Int)) (ρ := Ex ((List Int) × Bool) (Lp ((List Int) × Bool × Int) (Ex ((List Int) × Bool) (Lp ((List Int) × Bool) (Ex (List Int) (Bool × (List Int))))))) (fun s1396 =>
         if decide (s1396.2.2 < (x1332.2.1.length : Int)) = true then
          Option.bind (α := Ex ((List Int) × Bool) (Lp ((List Int) × Bool × Int) (Ex ((List Int) × Bool) (Lp ((List Int) × Bool × Int) (Ex ((List Int) × Bool) (Lp ((List Int) × Bool) (Ex (List Int) (Bool × (List Int))))))))) (
           Option.bind (idx x1332.2.1 s1396.2.2) fun x1407 =>
           Option.bind (impl_noneOpen s1396.2.2 x1332.1 a.1 s1396.1) fun x1408 =>
           if (!x1408) = true then
            some (Ex.fall (s1396.1, s1396.2.1))
           else
            Option.bind (idx b.2.1 s1331.2.2) fun x1409 =>
            Option.bind (impl_imageIndex s1396.2.2 x1332.1 a b s1396.1) fun x1410 =>
            Option.bind (idx x1409.2.1 x1410) fun x1411 =>
            Option.bind (idx s1396.1 x1407) fun x1412 =>
            if decide (x1412 < (0 : Int)) = true then
             Option.bind (idx s1396.1 x1407) fun x1413 =>
             some (Ex.fall (s1396.1.set x1407.toNat x1411, true))
            else
             Option.bind (idx s1396.1 x1407) fun x1414 =>
             if (x1414 != x1411) = true then
              some (Ex.out (Lp.done (Ex.out (Lp.done (Ex.out (Lp.done (Ex.out (false, s1396.1))))))))
             else
              some (Ex.fall (s1396.1, s1396.2.1)))
          (Ex.cont fun s1405 =>
          some (Lp.more (s1405.1, (s1405.2, w64 (s1396.2.2 + (1 : Int))))))
         else
          some (Lp.done (Ex.fall (s1396.1, s1396.2.1)))) (s1331.1, (s1331.2.1, (0 : Int))))
       (Ex.cont fun s1374 =>
       some (Lp.more (s1374.1, (s1374.2, w64 (s1331.2.2 + (1 : Int))))))
      else
       some (Lp.done (Ex.fall (s1331.1, s1331.2.1)))) (s1066.1, (false, (0 : Int))))
    (Ex.cont fun s1242 =>
    some (Lp.more (s1242.1, s1242.2)))
   else
    some (Lp.done (Ex.fall s1066.1))) (f, true))
 (Ex.cont fun s710 =>
 some (true, s710))

noncomputable def impl_homSearch_fits_with_firstHom_1_with_anyHom (s_l0 : (Int × ((List (Int × ((List Int) × Unit))) × Unit))) (s_l1 : (Int × ((List (Int × ((List Int) × Unit))) × Unit))) (s_l2 : Bool) (s_l3 : Int) (f : (List Int)) (s_0_c1_u2v : (Option (List Int))) : Option (Bool × (List Int) × (Option (List Int))) :=
 Option.bind (impl_closeMap s_l0 s_l1 f) fun x1 =>
 if (!x1.1) = true then
  some (false, (x1.2, s_0_c1_u2v))
 else
  if (!s_l2) = true then
   some (true, (x1.2, s_0_c1_u2v))
  else
   Option.bind (mkS false s_l1.1) fun x2 =>
   Option.bind (α := Ex Unit (Bool × (List Int) × (Option (List Int)))) (
    loopO (σ := ((List Bool) × Int)) (ρ := Ex Unit (Bool × (List Int) × (Option (List Int)))) (fun s42 =>
     if decide (s42.2 < (x1.2.length : Int)) = true then
      Option.bind (idx x1.2 s42.2) fun x43 =>
      Option.bind (α := Bool) (
       if decide ((0 : Int) ≤ x43) = true then
        Option.bind (idx s42.1 x43) fun x47 =>
        some x47
       else
        some false)
      (fun s45 =>
      if s45 = true then
       some (Lp.done (Ex.out (false, (x1.2, s_0_c1_u2v))))
      else
       Option.bind (α := (List Bool)) (
        if decide ((0 : Int) ≤ x43) = true then
         Option.bind (idx s42.1 x43) fun x52 =>
         some (s42.1.set x43.toNat true)
        else
         some s42.1)
       (fun s50 =>
       some (Lp.more (s50, w64 (s42.2 + (1 : Int))))))
     else
      some (Lp.done (Ex.fall ()))) (x2, (0 : Int)))
   (Ex.cont fun s28 =>
   some (true, (x1.2, s_0_c1_u2v)))

noncomputable def impl_anyHom (f : (List Int)) : Option Bool :=
 some true

noncomputable def impl_firstHom_1_with_anyHom (f : (List Int)) (u2v : (Option (List Int))) : Option (Bool × (Option (List Int))) :=
 Option.bind (impl_anyHom f) fun x1 =>
 if x1 = true then
  Option.bind (impl_clone f) fun x2 =>
  Option.bind (need (x2 ≠ [])) fun _ =>
  some (false, (some x2))
 else
  some (true, u2v)

noncomputable def impl_homSearch_extend_with_firstHom_1_with_anyHom : (fuel : Nat) → (s_l0 : (Int × ((List (Int × ((List Int) × Unit))) × Unit))) → (s_l1 : (Int × ((List (Int × ((List Int) × Unit))) × Unit))) → (s_l2 : Bool) → (s_l3 : Int) → (f : (List Int)) → (s_0_c1_u2v : (Option (List Int))) → Option (Bool × Int × (Option (List Int)))
 | 0, _, _, _, _, _, _ => none
 | fuel + 1, s_l0, s_l1, s_l2, s_l3, f, s_0_c1_u2v =>
  Option.bind (α := Int) (
   loopO (σ := Int) (ρ := Int) (fun s22 =>
    Option.bind (α := Bool) (
     if decide (s22 < (f.length : Int)) = true then
      Option.bind (idx f s22) fun x26 =>
      some (decide ((0 : Int) ≤ x26))
     else
      some false)
    (fun s24 =>
    if s24 = true then
     some (Lp.more (w64 (s22 + (1 : Int))))
    else
     some (Lp.done s22))) (0 : Int))
  (fun s14 =>
  if (s14 == (f.length : Int)) = true then
   Option.bind (impl_firstHom_1_with_anyHom f s_0_c1_u2v) fun x30 =>
   some (x30.1, (s_l3, x30.2))
  else
   Option.bind (α := Ex (Int × (Option (List Int))) (Bool × Int × (Option (List Int)))) (
    loopO (σ := (Int × Int × (Option (List Int)))) (ρ := Ex (Int × (Option (List Int))) (Bool × Int × (Option (List Int)))) (fun s64 =>
     if decide (s64.2.1 < s_l1.1) = true then
      if decide ((5000 : Int) < (w64 (s64.1 + (1 : Int)))) = true then
       some (Lp.done (Ex.out (false, (w64 (s64.1 + (1 : Int)), s64.2.2))))
      else
       Option.bind (impl_clone f) fun x65 =>
       Option.bind (idx x65 s14) fun x66 =>
       Option.bind (α := (Int × Bool × (Option (List Int)))) (
        Option.bind (impl_homSearch_fits_with_firstHom_1_with_anyHom s_l0 s_l1 s_l2 (w64 (s64.1 + (1 : Int))) (x65.set s14.toNat s64.2.1) s64.2.2) fun x71 =>
        if x71.1 = true then
         Option.bind (impl_homSearch_extend_with_firstHom_1_with_anyHom fuel s_l0 s_l1 s_l2 (w64 (s64.1 + (1 : Int))) x71.2.1 x71.2.2) fun x72 =>
         some (x72.2.1, ((!x72.1), x72.2.2))
        else
         some (w64 (s64.1 + (1 : Int)), (false, x71.2.2)))
       (fun s69 =>
       if s69.2.1 = true then
        some (Lp.done (Ex.out (false, (s69.1, s69.2.2))))
       else
        some (Lp.more (s69.1, (w64 (s64.2.1 + (1 : Int)), s69.2.2))))
     else
      some (Lp.done (Ex.fall (s64.1, s64.2.2)))) (s_l3, ((0 : Int), s_0_c1_u2v)))
   (Ex.cont fun s52 =>
   some (true, (s52.1, s52.2))))

noncomputable def impl_searchHoms_with_firstHom_1_with_anyHom (a : (Int × ((List (Int × ((List Int) × Unit))) × Unit))) (b : (Int × ((List (Int × ((List Int) × Unit))) × Unit))) (embed : Bool) (found_c1_u2v : (Option (List Int))) : Option (Bool × (Option (List Int))) :=
 Option.bind (mkS (0 : Int) a.1) fun x1 =>
 Option.bind (α := (List Int)) (
  loopO (σ := ((List Int) × Int)) (ρ := (List Int)) (fun s11 =>
   if decide (s11.2 < (x1.length : Int)) = true then
    Option.bind (idx s11.1 s11.2) fun x12 =>
    some (Lp.more (s11.1.set s11.2.toNat (-1 : Int), w64 (s11.2 + (1 : Int))))
   else
    some (Lp.done s11.1)) (x1, (0 : Int)))
 (fun s7 =>
 Option.bind (impl_homSearch_fits_with_firstHom_1_with_anyHom a b embed (0 : Int) s7 found_c1_u2v) fun x15 =>
 Option.bind (α := (Int × (Option (List Int)))) (
  if x15.1 = true then
   Option.bind (impl_homSearch_extend_with_firstHom_1_with_anyHom 30 a b embed (0 : Int) x15.2.1 x15.2.2) fun x19 =>
   some (x19.2.1, x19.2.2)
  else
   some ((0 : Int), x15.2.2))
 (fun s17 =>
 some (decide (s17.1 ≤ (5000 : Int)), s17.2)))

noncomputable def impl_firstHom_with_anyHom (a : (Int × ((List (Int × ((List Int) × Unit))) × Unit))) (b : (Int × ((List (Int × ((List Int) × Unit))) × Unit))) (embed : Bool) : Option ((Option (List Int)) × Bool) :=
 Option.bind (impl_searchHoms_with_firstHom_1_with_anyHom a b embed none) fun x1 =>
 some (x1.2, x1.1)

noncomputable def impl_AreIsomorphic (a : (Int × ((List (Int × ((List Int) × Unit))) × Unit))) (b : (Int × ((List (Int × ((List Int) × Unit))) × Unit))) : Option (Bool × Bool) :=
 Option.bind (impl_areAlike a b) fun x1 =>
 if (!x1) = true then
  some (false, false)
 else
  if (a.1 != b.1) = true then
   some (false, true)
  else
   Option.bind (impl_firstHom_with_anyHom a b true) fun x2 =>
   Option.bind (α := (Bool × Bool)) (
    if x2.2 = true then
     some ((!x2.1.isNone), x2.2)
    else
     some (false, x2.2))
   (fun s3 =>
   some (s3.1, s3.2))

noncomputable def impl_symmetries_1 (names : (List Int)) (u1v : (Int × ((List (Int × ((List Int) × Unit))) × Unit))) (u2v : (List (List Int))) : Option (List (List Int)) :=
 Option.bind (impl_rename u1v names) fun x1 =>
 Option.bind (impl_sameAlgebra x1 u1v) fun x2 =>
 if x2 = true then
  Option.bind (impl_clone names) fun x3 =>
  Option.bind (app u2v ([x3])) fun x4 =>
  some x4
 else
  some u2v

noncomputable def impl_eachOrder_1_with_symmetries_1 : (fuel : Nat) → (u0v : (List Int)) → (u1v : Int) → (u2v_c0_u1v : (Int × ((List (Int × ((List Int) × Unit))) × Unit))) → (u2v_c1_u2v : (List (List Int))) → Option ((List Int) × (List (List Int)))
 | 0, _, _, _, _ => none
 | fuel + 1, u0v, u1v, u2v_c0_u1v, u2v_c1_u2v =>
  if ((u0v.length : Int) == u1v) = true then
   Option.bind (impl_symmetries_1 u0v u2v_c0_u1v u2v_c1_u2v) fun x1 =>
   some (u0v, x1)
  else
   Option.bind (α := ((List Int) × (List (List Int)))) (
    loopO (σ := ((List Int) × Int × (List (List Int)))) (ρ := ((List Int) × (List (List Int)))) (fun s38 =>
     if decide (s38.2.1 < u1v) = true then
      Option.bind (impl_hasNot s38.1 s38.2.1) fun x39 =>
      Option.bind (α := ((List Int) × (List (List Int)))) (
       if x39 = true then
        Option.bind (app s38.1 ([s38.2.1])) fun x45 =>
        Option.bind (impl_eachOrder_1_with_symmetries_1 fuel x45 u1v u2v_c0_u1v s38.2.2) fun x46 =>
        Option.bind (cut x46.1 (0 : Int) (w64 ((x46.1.length : Int) - (1 : Int)))) fun x47 =>
        some (x47, x46.2)
       else
        some (s38.1, s38.2.2))
      (fun s43 =>
      some (Lp.more (s43.1, (w64 (s38.2.1 + (1 : Int)), s43.2))))
     else
      some (Lp.done (s38.1, s38.2.2))) (u0v, ((0 : Int), u2v_c1_u2v)))
   (fun s25 =>
   some (s25.1, s25.2))

noncomputable def impl_eachOrder_with_symmetries_1 (n : Int) (found_c0_u1v : (Int × ((List (Int × ((List Int) × Unit))) × Unit))) (found_c1_u2v : (List (List Int))) : Option (List (List Int)) :=
 Option.bind (impl_eachOrder_1_with_symmetries_1 30 ([]) n found_c0_u1v found_c1_u2v) fun x1 =>
 some x1.2

noncomputable def impl_symmetries (a : (Int × ((List (Int × ((List Int) × Unit))) × Unit))) : Option (List (List Int)) :=
 Option.bind (impl_eachOrder_with_symmetries_1 a.1 a ([])) fun x1 =>
 some x1

noncomputable def impl_SymmetriesOf (a : (Int × ((List (Int × ((List Int) × Unit))) × Unit))) : Option ((List (List Int)) × Bool) :=
 Option.bind (impl_isNamed a) fun x1 =>
 if (!x1) = true then
  some ([], false)
 else
  Option.bind (impl_symmetries a) fun x2 =>
  some (x2, true)

noncomputable def spec_SymmetriesOf (a : (Int × ((List (Int × ((List Int) × Unit))) × Unit))) : Option ((List (List Int)) × Bool) :=
 Option.bind (spec_l31Takes a) fun x1 =>
 if (!x1) = true then
  some ([], false)
 else
  Option.bind (spec_l31Names 30 a.1 ([])) fun x2 =>
  Option.bind (α := (List (List Int))) (
   loopO (σ := ((List (List Int)) × Int)) (ρ := (List (List Int))) (fun s39 =>
    if decide (s39.2 < (x2.length : Int)) = true then
     Option.bind (idx x2 s39.2) fun x40 =>
     Option.bind (spec_l2Rename a x40) fun x41 =>
     Option.bind (spec_l31Same x41 a) fun x42 =>
     Option.bind (α := (List (List Int))) (
      if x42 = true then
       Option.bind (idx x2 s39.2) fun x47 =>
       Option.bind (app s39.1 ([x47])) fun x48 =>
       some x48
      else
       some s39.1)
     (fun s45 =>
     some (Lp.more (s45, w64 (s39.2 + (1 : Int)))))
    else
     some (Lp.done s39.1)) ([], (0 : Int)))
  (fun s26 =>
  some (s26, true))

noncomputable def laws_rInts (a : (List Int)) (b : (List Int)) : Option Bool :=
 if ((a.length : Int) != (b.length : Int)) = true then
  some false
 else
  Option.bind (α := Ex Unit Bool) (
   loopO (σ := Int) (ρ := Ex Unit Bool) (fun s13 =>
    if decide (s13 < (a.length : Int)) = true then
     Option.bind (idx a s13) fun x14 =>
     Option.bind (idx b s13) fun x15 =>
     if (x14 != x15) = true then
      some (Lp.done (Ex.out false))
     else
      some (Lp.more (w64 (s13 + (1 : Int))))
    else
     some (Lp.done (Ex.fall ()))) (0 : Int))
  (Ex.cont fun s8 =>
  some true)

noncomputable def laws_rTable (a : (List (List Int))) (b : (List (List Int))) : Option Bool :=
 if ((a.length : Int) != (b.length : Int)) = true then
  some false
 else
  Option.bind (α := Ex Unit Bool) (
   loopO (σ := Int) (ρ := Ex Unit Bool) (fun s16 =>
    if decide (s16 < (a.length : Int)) = true then
     Option.bind (idx a s16) fun x17 =>
     Option.bind (idx b s16) fun x18 =>
     Option.bind (laws_rInts x17 x18) fun x19 =>
     if (!x19) = true then
      some (Lp.done (Ex.out false))
     else
      some (Lp.more (w64 (s16 + (1 : Int))))
    else
     some (Lp.done (Ex.fall ()))) (0 : Int))
  (Ex.cont fun s10 =>
  some true)

noncomputable def impl_CountCopies (a : (Int × ((List (Int × ((List Int) × Unit))) × Unit))) : Option (Int × Bool) :=
 Option.bind (impl_isNamed a) fun x1 =>
 if (!x1) = true then
  some ((0 : Int), false)
 else
  Option.bind (α := Int) (
   loopO (σ := (Int × Int)) (ρ := Int) (fun s8 =>
    if decide (s8.2 ≤ a.1) = true then
     some (Lp.more (w64 (s8.1 * s8.2), w64 (s8.2 + (1 : Int))))
    else
     some (Lp.done s8.1)) ((1 : Int), (2 : Int)))
  (fun s5 =>
  Option.bind (impl_symmetries a) fun x11 =>
  Option.bind (need ((x11.length : Int) ≠ 0)) fun _ =>
  some (w64 (s5.tdiv (x11.length : Int)), true))

noncomputable def spec_l12Place (tables : (List (List Int))) (t : (List Int)) : Option Int :=
 Option.bind (α := Ex Unit Int) (
  loopO (σ := Int) (ρ := Ex Unit Int) (fun s13 =>
   if decide (s13 < (tables.length : Int)) = true then
    Option.bind (idx tables s13) fun x14 =>
    Option.bind (spec_l1Same x14 t) fun x15 =>
    if x15 = true then
     some (Lp.done (Ex.out s13))
    else
     some (Lp.more (w64 (s13 + (1 : Int))))
   else
    some (Lp.done (Ex.fall ()))) (0 : Int))
 (Ex.cont fun s8 =>
 some (-1 : Int))

noncomputable def spec_CountCopies (a : (Int × ((List (Int × ((List Int) × Unit))) × Unit))) : Option (Int × Bool) :=
 Option.bind (spec_l31Takes a) fun x1 =>
 if (!x1) = true then
  some ((0 : Int), false)
 else
  Option.bind (spec_l31Names 30 a.1 ([])) fun x2 =>
  Option.bind (α := (List (List Int))) (
   loopO (σ := ((List (List Int)) × Int)) (ρ := (List (List Int))) (fun s36 =>
    if decide (s36.2 < (x2.length : Int)) = true then
     Option.bind (idx x2 s36.2) fun x37 =>
     Option.bind (spec_l2Rename a x37) fun x38 =>
     Option.bind (spec_l31Code x38) fun x39 =>
     Option.bind (spec_l12Place s36.1 x39) fun x40 =>
     Option.bind (α := (List (List Int))) (
      if decide (x40 < (0 : Int)) = true then
       Option.bind (app s36.1 ([x39])) fun x44 =>
       some x44
      else
       some s36.1)
     (fun s42 =>
     some (Lp.more (s42, w64 (s36.2 + (1 : Int)))))
    else
     some (Lp.done s36.1)) ([], (0 : Int)))
  (fun s24 =>
  some ((s24.length : Int), true))

noncomputable def impl_homSearch_fits_with_listHoms_1 (s_l0 : (Int × ((List (Int × ((List Int) × Unit))) × Unit))) (s_l1 : (Int × ((List (Int × ((List Int) × Unit))) × Unit))) (s_l2 : Bool) (s_l3 : Int) (f : (List Int)) (s_0_c0_u1v : (List (List Int))) : Option (Bool × (List Int) × (List (List Int))) :=
 Option.bind (impl_closeMap s_l0 s_l1 f) fun x1 =>
 if (!x1.1) = true then
  some (false, (x1.2, s_0_c0_u1v))
 else
  if (!s_l2) = true then
   some (true, (x1.2, s_0_c0_u1v))
  else
   Option.bind (mkS false s_l1.1) fun x2 =>
   Option.bind (α := Ex Unit (Bool × (List Int) × (List (List Int)))) (
    loopO (σ := ((List Bool) × Int)) (ρ := Ex Unit (Bool × (List Int) × (List (List Int)))) (fun s42 =>
     if decide (s42.2 < (x1.2.length : Int)) = true then
      Option.bind (idx x1.2 s42.2) fun x43 =>
      Option.bind (α := Bool) (
       if decide ((0 : Int) ≤ x43) = true then
        Option.bind (idx s42.1 x43) fun x47 =>
        some x47
       else
        some false)
      (fun s45 =>
      if s45 = true then
       some (Lp.done (Ex.out (false, (x1.2, s_0_c0_u1v))))
      else
       Option.bind (α := (List Bool)) (
        if decide ((0 : Int) ≤ x43) = true then
         Option.bind (idx s42.1 x43) fun x52 =>
         some (s42.1.set x43.toNat true)
        else
         some s42.1)
       (fun s50 =>
       some (Lp.more (s50, w64 (s42.2 + (1 : Int))))))
     else
      some (Lp.done (Ex.fall ()))) (x2, (0 : Int)))
   (Ex.cont fun s28 =>
   some (true, (x1.2, s_0_c0_u1v)))

noncomputable def impl_listHoms_1 (f : (List Int)) (u1v : (List (List Int))) : Option (Bool × (List (List Int))) :=
 Option.bind (impl_clone f) fun x1 =>
 Option.bind (app u1v ([x1])) fun x2 =>
 some (decide ((x2.length : Int) ≤ (300 : Int)), x2)

noncomputable def impl_homSearch_extend_with_listHoms_1 : (fuel : Nat) → (s_l0 : (Int × ((List (Int × ((List Int) × Unit))) × Unit))) → (s_l1 : (Int × ((List (Int × ((List Int) × Unit))) × Unit))) → (s_l2 : Bool) → (s_l3 : Int) → (f : (List Int)) → (s_0_c0_u1v : (List (List Int))) → Option (Bool × Int × (List (List Int)))
 | 0, _, _, _, _, _, _ => none
 | fuel + 1, s_l0, s_l1, s_l2, s_l3, f, s_0_c0_u1v =>
  Option.bind (α := Int) (
   loopO (σ := Int) (ρ := Int) (fun s22 =>
    Option.bind (α := Bool) (
     if decide (s22 < (f.length : Int)) = true then
      Option.bind (idx f s22) fun x26 =>
      some (decide ((0 : Int) ≤ x26))
     else
      some false)
    (fun s24 =>
    if s24 = true then
     some (Lp.more (w64 (s22 + (1 : Int))))
    else
     some (Lp.done s22))) (0 : Int))
  (fun s14 =>
  if (s14 == (f.length : Int)) = true then
   Option.bind (impl_listHoms_1 f s_0_c0_u1v) fun x30 =>
   some (x30.1, (s_l3, x30.2))
  else
   Option.bind (α := Ex (Int × (List (List Int))) (Bool × Int × (List (List Int)))) (
    loopO (σ := (Int × Int × (List (List Int)))) (ρ := Ex (Int × (List (List Int))) (Bool × Int × (List (List Int)))) (fun s64 =>
     if decide (s64.2.1 < s_l1.1) = true then
      if decide ((5000 : Int) < (w64 (s64.1 + (1 : Int)))) = true then
       some (Lp.done (Ex.out (false, (w64 (s64.1 + (1 : Int)), s64.2.2))))
      else
       Option.bind (impl_clone f) fun x65 =>
       Option.bind (idx x65 s14) fun x66 =>
       Option.bind (α := (Int × Bool × (List (List Int)))) (
        Option.bind (impl_homSearch_fits_with_listHoms_1 s_l0 s_l1 s_l2 (w64 (s64.1 + (1 : Int))) (x65.set s14.toNat s64.2.1) s64.2.2) fun x71 =>
        if x71.1 = true then
         Option.bind (impl_homSearch_extend_with_listHoms_1 fuel s_l0 s_l1 s_l2 (w64 (s64.1 + (1 : Int))) x71.2.1 x71.2.2) fun x72 =>
         some (x72.2.1, ((!x72.1), x72.2.2))
        else
         some (w64 (s64.1 + (1 : Int)), (false, x71.2.2)))
       (fun s69 =>
       if s69.2.1 = true then
        some (Lp.done (Ex.out (false, (s69.1, s69.2.2))))
       else
        some (Lp.more (s69.1, (w64 (s64.2.1 + (1 : Int)), s69.2.2))))
     else
      some (Lp.done (Ex.fall (s64.1, s64.2.2)))) (s_l3, ((0 : Int), s_0_c0_u1v)))
   (Ex.cont fun s52 =>
   some (true, (s52.1, s52.2))))

noncomputable def impl_searchHoms_with_listHoms_1 (a : (Int × ((List (Int × ((List Int) × Unit))) × Unit))) (b : (Int × ((List (Int × ((List Int) × Unit))) × Unit))) (embed : Bool) (found_c0_u1v : (List (List Int))) : Option (Bool × (List (List Int))) :=
 Option.bind (mkS (0 : Int) a.1) fun x1 =>
 Option.bind (α := (List Int)) (
  loopO (σ := ((List Int) × Int)) (ρ := (List Int)) (fun s11 =>
   if decide (s11.2 < (x1.length : Int)) = true then
    Option.bind (idx s11.1 s11.2) fun x12 =>
    some (Lp.more (s11.1.set s11.2.toNat (-1 : Int), w64 (s11.2 + (1 : Int))))
   else
    some (Lp.done s11.1)) (x1, (0 : Int)))
 (fun s7 =>
 Option.bind (impl_homSearch_fits_with_listHoms_1 a b embed (0 : Int) s7 found_c0_u1v) fun x15 =>
 Option.bind (α := (Int × (List (List Int)))) (
  if x15.1 = true then
   Option.bind (impl_homSearch_extend_with_listHoms_1 30 a b embed (0 : Int) x15.2.1 x15.2.2) fun x19 =>
   some (x19.2.1, x19.2.2)
  else
   some ((0 : Int), x15.2.2))
 (fun s17 =>
 some (decide (s17.1 ≤ (5000 : Int)), s17.2)))

noncomputable def impl_listHoms (a : (Int × ((List (Int × ((List Int) × Unit))) × Unit))) (b : (Int × ((List (Int × ((List Int) × Unit))) × Unit))) (embed : Bool) : Option ((List (List Int)) × Bool) :=
 Option.bind (impl_searchHoms_with_listHoms_1 a b embed ([])) fun x1 =>
 Option.bind (α := Bool) (
  if (!x1.1) = true then
   some true
  else
   some (decide ((300 : Int) < (x1.2.length : Int))))
 (fun s2 =>
 if s2 = true then
  some ([], false)
 else
  some (x1.2, true))

noncomputable def impl_Automorphisms (a : (Int × ((List (Int × ((List Int) × Unit))) × Unit))) : Option ((List (List Int)) × Bool) :=
 Option.bind (impl_IsAlgebra a) fun x1 =>
 if (!x1) = true then
  some ([], false)
 else
  Option.bind (impl_listHoms a a true) fun x2 =>
  some (x2.1, x2.2)

noncomputable def spec_l7Images (f : (List Int)) (args : (List Int)) : Option (List Int) :=
 Option.bind (α := (List Int)) (
  loopO (σ := ((List Int) × Int)) (ρ := (List Int)) (fun s16 =>
   if decide (s16.2 < (args.length : Int)) = true then
    Option.bind (idx args s16.2) fun x17 =>
    Option.bind (idx f x17) fun x18 =>
    Option.bind (app s16.1 ([x18])) fun x19 =>
    some (Lp.more (x19, w64 (s16.2 + (1 : Int))))
   else
    some (Lp.done s16.1)) ([], (0 : Int)))
 (fun s10 =>
 some s10)

noncomputable def spec_l2Value (a : (Int × ((List (Int × ((List Int) × Unit))) × Unit))) (op : Int) (args : (List Int)) : Option Int :=
 Option.bind (α := Int) (
  loopO (σ := (Int × Int)) (ρ := Int) (fun s10 =>
   if decide (s10.2 < (args.length : Int)) = true then
    Option.bind (idx args s10.2) fun x11 =>
    some (Lp.more (w64 ((w64 (s10.1 * a.1)) + x11), w64 (s10.2 + (1 : Int))))
   else
    some (Lp.done s10.1)) ((0 : Int), (0 : Int)))
 (fun s6 =>
 Option.bind (idx a.2.1 op) fun x14 =>
 Option.bind (idx x14.2.1 s6) fun x15 =>
 some x15)

noncomputable def spec_l7Close (a : (Int × ((List (Int × ((List Int) × Unit))) × Unit))) (b : (Int × ((List (Int × ((List Int) × Unit))) × Unit))) (f : (List Int)) : Option ((List Int) × Bool) :=
 Option.bind (spec_l1Own f) fun x1 =>
 Option.bind (α := Ex (List Int) ((List Int) × Bool)) (
  loopO (σ := ((List Int) × Bool)) (ρ := Ex (List Int) ((List Int) × Bool)) (fun s1871 =>
   if s1871.2 = true then
    Option.bind (α := Ex ((List Int) × Bool) (Lp ((List Int) × Bool) (Ex (List Int) ((List Int) × Bool)))) (
     loopO (σ := ((List Int) × Bool × Int)) (ρ := Ex ((List Int) × Bool) (Lp ((List Int) × Bool) (Ex (List Int) ((List Int) × Bool)))) (fun s2337 =>
      if decide (s2337.2.2 < (a.2.1.length : Int)) = true then
       Option.bind (α := Ex ((List Int) × Bool) (Lp ((List Int) × Bool × Int) (Ex ((List Int) × Bool) (Lp ((List Int) × Bool) (Ex (List Int) ((List Int) × Bool)))))) (
        loopO (σ := ((List Int) × Bool × Int)) (ρ := Ex ((List Int) × Bool) (Lp ((List Int) × Bool × Int) (Ex ((List Int) × Bool) (Lp ((List Int) × Bool) (Ex (List Int) ((List Int) × Bool)))))) (fun s2452 =>
         Option.bind (idx a.2.1 s2337.2.2) fun x2453 =>
         if decide (s2452.2.2 < (x2453.2.1.length : Int)) = true then
          Option.bind (α := Ex ((List Int) × Bool) (Lp ((List Int) × Bool × Int) (Ex ((List Int) × Bool) (Lp ((List Int) × Bool × Int) (Ex ((List Int) × Bool) (Lp ((List Int) × Bool) (Ex (List Int) ((List Int) × Bool)))))))) (
           Option.bind (idx a.2.1 s2337.2.2) fun x2472 =>
           Option.bind (spec_l2Args a.1 x2472.1 s2452.2.2) fun x2473 =>
           Option.bind (spec_l7Images s2452.1 x2473) fun x2474 =>
           Option.bind (spec_l1Has x2474 (-1 : Int)) fun x2475 =>
           if x2475 = true then
            some (Ex.fall (s2452.1, s2452.2.1))
           else
            Option.bind (idx a.2.1 s2337.2.2) fun x2476 =>
            Option.bind (idx x2476.2.1 s2452.2.2) fun x2477 =>
            Option.bind (spec_l2Value b s2337.2.2 x2474) fun x2478 =>
            Option.bind (α := Bool) (
             Option.bind (idx s2452.1 x2477) fun x2483 =>
             if decide ((0 : Int) ≤ x2483) = true then
              Option.bind (idx s2452.1 x2477) fun x2484 =>
              some (x2484 != x2478)
             else
              some false)
            (fun s2481 =>
            if s2481 = true then
             some (Ex.out (Lp.done (Ex.out (Lp.done (Ex.out (Lp.done (Ex.out ([], false))))))))
            else
             Option.bind (idx s2452.1 x2477) fun x2486 =>
             if decide (x2486 < (0 : Int)) = true then
              Option.bind (idx s2452.1 x2477) fun x2487 =>
              some (Ex.fall (s2452.1.set x2477.toNat x2478, true))
             else
              some (Ex.fall (s2452.1, s2452.2.1))))
          (Ex.cont fun s2470 =>
          some (Lp.more (s2470.1, (s2470.2, w64 (s2452.2.2 + (1 : Int))))))
         else
          some (Lp.done (Ex.fall (s2452.1, s2452.2.1)))) (s2337.1, (s2337.2.1, (0 : Int))))
       (Ex.cont fun s2413 =>
       some (Lp.more (s2413.1, (s2413.2, w64 (s2337.2.2 + (1 : Int))))))
      else
       some (Lp.done (Ex.fall (s2337.1, s2337.2.1)))) (s1871.1, (false, (0 : Int))))
    (Ex.cont fun s2181 =>
    some (Lp.more (s2181.1, s2181.2)))
   else
    some (Lp.done (Ex.fall s1871.1))) (x1, true))
 (Ex.cont fun s1247 =>
 some (s1247, true))

noncomputable def spec_l7Into (f : (List Int)) : Option Bool :=
 Option.bind (α := Ex Unit Bool) (
  loopO (σ := Int) (ρ := Ex Unit Bool) (fun s40 =>
   if decide (s40 < (f.length : Int)) = true then
    Option.bind (α := Bool) (
     Option.bind (idx f s40) fun x47 =>
     if decide ((0 : Int) ≤ x47) = true then
      Option.bind (cut f (0 : Int) s40) fun x48 =>
      Option.bind (idx f s40) fun x49 =>
      Option.bind (spec_l1Has x48 x49) fun x50 =>
      some x50
     else
      some false)
    (fun s45 =>
    if s45 = true then
     some (Lp.done (Ex.out false))
    else
     some (Lp.more (w64 (s40 + (1 : Int)))))
   else
    some (Lp.done (Ex.fall ()))) (0 : Int))
 (Ex.cont fun s26 =>
 some true)

noncomputable def spec_l7Onto (n : Int) (f : (List Int)) : Option Bool :=
 Option.bind (α := Ex Unit Bool) (
  loopO (σ := Int) (ρ := Ex Unit Bool) (fun s10 =>
   if decide (s10 < n) = true then
    Option.bind (spec_l1Has f s10) fun x11 =>
    if (!x11) = true then
     some (Lp.done (Ex.out false))
    else
     some (Lp.more (w64 (s10 + (1 : Int))))
   else
    some (Lp.done (Ex.fall ()))) (0 : Int))
 (Ex.cont fun s6 =>
 some true)

noncomputable def spec_l7Search_walk : (fuel : Nat) → (s : ((Int × ((List (Int × ((List Int) × Unit))) × Unit)) × ((Int × ((List (Int × ((List Int) × Unit))) × Unit)) × (Bool × (Bool × (Int × (Int × ((List (List Int)) × Unit)))))))) → (f : (List Int)) → Option ((Int × ((List (Int × ((List Int) × Unit))) × Unit)) × ((Int × ((List (Int × ((List Int) × Unit))) × Unit)) × (Bool × (Bool × (Int × (Int × ((List (List Int)) × Unit)))))))
 | 0, _, _ => none
 | fuel + 1, s, f =>
  Option.bind (α := Int) (
   loopO (σ := Int) (ρ := Int) (fun s22 =>
    Option.bind (α := Bool) (
     if decide (s22 < (f.length : Int)) = true then
      Option.bind (idx f s22) fun x26 =>
      some (decide ((0 : Int) ≤ x26))
     else
      some false)
    (fun s24 =>
    if s24 = true then
     some (Lp.more (w64 (s22 + (1 : Int))))
    else
     some (Lp.done s22))) (0 : Int))
  (fun s14 =>
  if (s14 == (f.length : Int)) = true then
   Option.bind (α := Bool) (
    if (!s.2.2.2.1) = true then
     some true
    else
     Option.bind (spec_l7Onto s.2.1.1 f) fun x33 =>
     some x33)
   (fun s31 =>
   Option.bind (α := ((Int × ((List (Int × ((List Int) × Unit))) × Unit)) × ((Int × ((List (Int × ((List Int) × Unit))) × Unit)) × (Bool × (Bool × (Int × (Int × ((List (List Int)) × Unit)))))))) (
    if s31 = true then
     Option.bind (app s.2.2.2.2.2.2.1 ([f])) fun x38 =>
     some (s.1, (s.2.1, (s.2.2.1, (s.2.2.2.1, (s.2.2.2.2.1, (s.2.2.2.2.2.1, (x38, s.2.2.2.2.2.2.2)))))))
    else
     some s)
   (fun s36 =>
   some s36))
  else
   Option.bind (α := Ex ((Int × ((List (Int × ((List Int) × Unit))) × Unit)) × ((Int × ((List (Int × ((List Int) × Unit))) × Unit)) × (Bool × (Bool × (Int × (Int × ((List (List Int)) × Unit))))))) ((Int × ((List (Int × ((List Int) × Unit))) × Unit)) × ((Int × ((List (Int × ((List Int) × Unit))) × Unit)) × (Bool × (Bool × (Int × (Int × ((List (List Int)) × Unit)))))))) (
    loopO (σ := (((Int × ((List (Int × ((List Int) × Unit))) × Unit)) × ((Int × ((List (Int × ((List Int) × Unit))) × Unit)) × (Bool × (Bool × (Int × (Int × ((List (List Int)) × Unit))))))) × Int)) (ρ := Ex ((Int × ((List (Int × ((List Int) × Unit))) × Unit)) × ((Int × ((List (Int × ((List Int) × Unit))) × Unit)) × (Bool × (Bool × (Int × (Int × ((List (List Int)) × Unit))))))) ((Int × ((List (Int × ((List Int) × Unit))) × Unit)) × ((Int × ((List (Int × ((List Int) × Unit))) × Unit)) × (Bool × (Bool × (Int × (Int × ((List (List Int)) × Unit)))))))) (fun s94 =>
     Option.bind (α := Bool) (
      if decide (s94.2 < s94.1.2.1.1) = true then
       if decide ((s94.1.2.2.2.2.2.2.1.length : Int) < s94.1.2.2.2.2.1) = true then
        some (decide (s94.1.2.2.2.2.2.1 ≤ (5000 : Int)))
       else
        some false
      else
       some false)
     (fun s95 =>
     if s95 = true then
      if decide ((5000 : Int) < (w64 (s94.1.2.2.2.2.2.1 + (1 : Int)))) = true then
       some (Lp.done (Ex.out (s94.1.1, (s94.1.2.1, (s94.1.2.2.1, (s94.1.2.2.2.1, (s94.1.2.2.2.2.1, (w64 (s94.1.2.2.2.2.2.1 + (1 : Int)), s94.1.2.2.2.2.2.2))))))))
      else
       Option.bind (spec_l1Own f) fun x98 =>
       Option.bind (idx x98 s14) fun x99 =>
       Option.bind (spec_l7Close s94.1.1 s94.1.2.1 (x98.set s14.toNat s94.2)) fun x100 =>
       Option.bind (α := Bool) (
        if x100.2 = true then
         if (!s94.1.2.2.1) = true then
          some true
         else
          Option.bind (spec_l7Into x100.1) fun x104 =>
          some x104
        else
         some false)
       (fun s102 =>
       Option.bind (α := ((Int × ((List (Int × ((List Int) × Unit))) × Unit)) × ((Int × ((List (Int × ((List Int) × Unit))) × Unit)) × (Bool × (Bool × (Int × (Int × ((List (List Int)) × Unit)))))))) (
        if s102 = true then
         Option.bind (spec_l7Search_walk fuel (s94.1.1, (s94.1.2.1, (s94.1.2.2.1, (s94.1.2.2.2.1, (s94.1.2.2.2.2.1, (w64 (s94.1.2.2.2.2.2.1 + (1 : Int)), s94.1.2.2.2.2.2.2)))))) x100.1) fun x109 =>
         some x109
        else
         some (s94.1.1, (s94.1.2.1, (s94.1.2.2.1, (s94.1.2.2.2.1, (s94.1.2.2.2.2.1, (w64 (s94.1.2.2.2.2.2.1 + (1 : Int)), s94.1.2.2.2.2.2.2)))))))
       (fun s107 =>
       some (Lp.more (s107, w64 (s94.2 + (1 : Int))))))
     else
      some (Lp.done (Ex.fall s94.1)))) (s, (0 : Int)))
   (Ex.cont fun s75 =>
   some s75))

noncomputable def spec_l7Find (a : (Int × ((List (Int × ((List Int) × Unit))) × Unit))) (b : (Int × ((List (Int × ((List Int) × Unit))) × Unit))) (into : Bool) (onto : Bool) (most : Int) : Option ((List (List Int)) × Bool) :=
 Option.bind (α := (List Int)) (
  loopO (σ := ((List Int) × Int)) (ρ := (List Int)) (fun s10 =>
   if decide (s10.2 < a.1) = true then
    Option.bind (app s10.1 ([(-1 : Int)])) fun x11 =>
    some (Lp.more (x11, w64 (s10.2 + (1 : Int))))
   else
    some (Lp.done s10.1)) ([], (0 : Int)))
 (fun s6 =>
 Option.bind (spec_l7Close a b s6) fun x14 =>
 Option.bind (α := Bool) (
  if x14.2 = true then
   if (!into) = true then
    some true
   else
    Option.bind (spec_l7Into x14.1) fun x18 =>
    some x18
  else
   some false)
 (fun s16 =>
 Option.bind (α := ((Int × ((List (Int × ((List Int) × Unit))) × Unit)) × ((Int × ((List (Int × ((List Int) × Unit))) × Unit)) × (Bool × (Bool × (Int × (Int × ((List (List Int)) × Unit)))))))) (
  if s16 = true then
   Option.bind (spec_l7Search_walk 30 (a, (b, (into, (onto, (most, ((0 : Int), ([], ()))))))) x14.1) fun x23 =>
   some x23
  else
   some (a, (b, (into, (onto, (most, ((0 : Int), ([], ()))))))))
 (fun s21 =>
 some (s21.2.2.2.2.2.2.1, decide (s21.2.2.2.2.2.1 ≤ (5000 : Int))))))

noncomputable def spec_l7Auts (a : (Int × ((List (Int × ((List Int) × Unit))) × Unit))) : Option ((List (List Int)) × Bool) :=
 Option.bind (spec_l7Find a a true false (301 : Int)) fun x1 =>
 Option.bind (α := Bool) (
  if (!x1.2) = true then
   some true
  else
   some (decide ((300 : Int) < (x1.1.length : Int))))
 (fun s2 =>
 if s2 = true then
  some ([], false)
 else
  some (x1.1, true))

noncomputable def spec_Automorphisms (a : (Int × ((List (Int × ((List Int) × Unit))) × Unit))) : Option ((List (List Int)) × Bool) :=
 Option.bind (spec_l2Good a) fun x1 =>
 if (!x1) = true then
  some ([], false)
 else
  Option.bind (spec_l7Auts a) fun x2 =>
  some (x2.1, x2.2)

noncomputable def laws_rPlace (tables : (List (List Int))) (t : (List Int)) : Option Int :=
 Option.bind (α := Ex Unit Int) (
  loopO (σ := Int) (ρ := Ex Unit Int) (fun s13 =>
   if decide (s13 < (tables.length : Int)) = true then
    Option.bind (idx tables s13) fun x14 =>
    Option.bind (laws_rInts x14 t) fun x15 =>
    if x15 = true then
     some (Lp.done (Ex.out s13))
    else
     some (Lp.more (w64 (s13 + (1 : Int))))
   else
    some (Lp.done (Ex.fall ()))) (0 : Int))
 (Ex.cont fun s8 =>
 some (-1 : Int))

noncomputable def impl_CanonicalForm (a : (Int × ((List (Int × ((List Int) × Unit))) × Unit))) : Option ((Int × ((List (Int × ((List Int) × Unit))) × Unit)) × Bool) :=
 Option.bind (impl_isNamed a) fun x1 =>
 if (!x1) = true then
  some (((0 : Int), ([], ())), false)
 else
  Option.bind (impl_canonical a) fun x2 =>
  some (x2.1, true)

noncomputable def impl_CanonicalNames (a : (Int × ((List (Int × ((List Int) × Unit))) × Unit))) : Option ((List Int) × Bool) :=
 Option.bind (impl_isNamed a) fun x1 =>
 if (!x1) = true then
  some ([], false)
 else
  Option.bind (impl_canonical a) fun x2 =>
  some (x2.2, true)

noncomputable def impl_isOrder (list : (List Int)) (n : Int) : Option Bool :=
 Option.bind (α := Bool) (
  if ((list.length : Int) != n) = true then
   some true
  else
   Option.bind (impl_inSize list n) fun x4 =>
   some (!x4))
 (fun s2 =>
 if s2 = true then
  some false
 else
  Option.bind (mkS false n) fun x6 =>
  Option.bind (α := Ex Unit Bool) (
   loopO (σ := ((List Bool) × Int)) (ρ := Ex Unit Bool) (fun s22 =>
    if decide (s22.2 < (list.length : Int)) = true then
     Option.bind (idx list s22.2) fun x23 =>
     Option.bind (idx s22.1 x23) fun x24 =>
     if x24 = true then
      some (Lp.done (Ex.out false))
     else
      Option.bind (idx s22.1 x23) fun x25 =>
      some (Lp.more (s22.1.set x23.toNat true, w64 (s22.2 + (1 : Int))))
    else
     some (Lp.done (Ex.fall ()))) (x6, (0 : Int)))
  (Ex.cont fun s16 =>
  some true))

noncomputable def impl_RenameElements (a : (Int × ((List (Int × ((List Int) × Unit))) × Unit))) (names : (List Int)) : Option ((Int × ((List (Int × ((List Int) × Unit))) × Unit)) × Bool) :=
 Option.bind (α := Bool) (
  Option.bind (impl_IsAlgebra a) fun x5 =>
  if (!x5) = true then
   some true
  else
   Option.bind (impl_isOrder names a.1) fun x6 =>
   some (!x6))
 (fun s3 =>
 if s3 = true then
  some (((0 : Int), ([], ())), false)
 else
  Option.bind (impl_rename a names) fun x8 =>
  some (x8, true))

noncomputable def spec_CanonicalForm (a : (Int × ((List (Int × ((List Int) × Unit))) × Unit))) : Option ((Int × ((List (Int × ((List Int) × Unit))) × Unit)) × Bool) :=
 Option.bind (spec_l31Takes a) fun x1 =>
 if (!x1) = true then
  some (((0 : Int), ([], ())), false)
 else
  Option.bind (spec_l31Form a) fun x2 =>
  some (x2, true)

noncomputable def laws_rOp (a : (Int × ((List Int) × Unit))) (b : (Int × ((List Int) × Unit))) : Option Bool :=
 Option.bind (α := Bool) (
  if (a.1 == b.1) = true then
   Option.bind (laws_rInts a.2.1 b.2.1) fun x4 =>
   some x4
  else
   some false)
 (fun s2 =>
 some s2)

noncomputable def laws_rOps (a : (List (Int × ((List Int) × Unit)))) (b : (List (Int × ((List Int) × Unit)))) : Option Bool :=
 if ((a.length : Int) != (b.length : Int)) = true then
  some false
 else
  Option.bind (α := Ex Unit Bool) (
   loopO (σ := Int) (ρ := Ex Unit Bool) (fun s16 =>
    if decide (s16 < (a.length : Int)) = true then
     Option.bind (idx a s16) fun x17 =>
     Option.bind (idx b s16) fun x18 =>
     Option.bind (laws_rOp x17 x18) fun x19 =>
     if (!x19) = true then
      some (Lp.done (Ex.out false))
     else
      some (Lp.more (w64 (s16 + (1 : Int))))
    else
     some (Lp.done (Ex.fall ()))) (0 : Int))
  (Ex.cont fun s10 =>
  some true)

noncomputable def laws_rAlgebra (a : (Int × ((List (Int × ((List Int) × Unit))) × Unit))) (b : (Int × ((List (Int × ((List Int) × Unit))) × Unit))) : Option Bool :=
 Option.bind (α := Bool) (
  if (a.1 == b.1) = true then
   Option.bind (laws_rOps a.2.1 b.2.1) fun x4 =>
   some x4
  else
   some false)
 (fun s2 =>
 some s2)

noncomputable def laws_FnCopies (code : (List Int)) : Option Bool :=
 Option.bind (laws_rBig code) fun x1 =>
 if x1 = true then
  some true
 else
  Option.bind (spec_DrawHaveSameForm code) fun x2 =>
  Option.bind (impl_HaveSameForm x2.1 x2.2) fun x3 =>
  Option.bind (spec_HaveSameForm x2.1 x2.2) fun x4 =>
  Option.bind (α := Bool) (
   if (x3.1 != x4.1) = true then
    some true
   else
    some (x3.2 != x4.2))
  (fun s5 =>
  if s5 = true then
   some false
  else
   Option.bind (α := Bool) (
    if x3.2 = true then
     some (x2.1.1 == x2.2.1)
    else
     some false)
   (fun s8 =>
   Option.bind (α := Ex Unit Bool) (
    if s8 = true then
     Option.bind (impl_SameType x2.1 x2.2) fun x21 =>
     Option.bind (α := Bool) (
      if x21.2 = true then
       some x21.1
      else
       some false)
     (fun s22 =>
     if s22 = true then
      Option.bind (impl_AreIsomorphic x2.1 x2.2) fun x25 =>
      Option.bind (α := Bool) (
       if x25.2 = true then
        some (x25.1 != x3.1)
       else
        some false)
      (fun s26 =>
      if s26 = true then
       some (Ex.out false)
      else
       some (Ex.fall ()))
     else
      some (Ex.fall ()))
    else
     some (Ex.fall ()))
   (Ex.cont fun s19 =>
   Option.bind (impl_SymmetriesOf x2.1) fun x30 =>
   Option.bind (spec_SymmetriesOf x2.1) fun x31 =>
   Option.bind (α := Bool) (
    if (x30.2 != x31.2) = true then
     some true
    else
     Option.bind (laws_rTable x30.1 x31.1) fun x35 =>
     some (!x35))
   (fun s33 =>
   if s33 = true then
    some false
   else
    if (!x30.2) = true then
     some true
    else
     Option.bind (impl_CountCopies x2.1) fun x37 =>
     Option.bind (spec_CountCopies x2.1) fun x38 =>
     Option.bind (α := Bool) (
      if (x37.1 != x38.1) = true then
       some true
      else
       if (x37.2 != x38.2) = true then
        some true
       else
        some (!x37.2))
     (fun s39 =>
     if s39 = true then
      some false
     else
      Option.bind (α := Int) (
       loopO (σ := (Int × Int)) (ρ := Int) (fun s48 =>
        if decide (s48.2 ≤ x2.1.1) = true then
         some (Lp.more (w64 (s48.1 * s48.2), w64 (s48.2 + (1 : Int))))
        else
         some (Lp.done s48.1)) ((1 : Int), (2 : Int)))
      (fun s45 =>
      if ((w64 (x37.1 * (x30.1.length : Int))) != s45) = true then
       some false
      else
       Option.bind (impl_Automorphisms x2.1) fun x51 =>
       Option.bind (spec_Automorphisms x2.1) fun x52 =>
       Option.bind (α := Bool) (
        if (x51.2 != x52.2) = true then
         some true
        else
         Option.bind (laws_rTable x51.1 x52.1) fun x56 =>
         if (!x56) = true then
          some true
         else
          if x51.2 = true then
           some ((x51.1.length : Int) != (x30.1.length : Int))
          else
           some false)
       (fun s54 =>
       if s54 = true then
        some false
       else
        Option.bind (α := Ex Unit Bool) (
         loopO (σ := Int) (ρ := Ex Unit Bool) (fun s85 =>
          if decide (s85 < (x30.1.length : Int)) = true then
           Option.bind (α := Bool) (
            if x51.2 = true then
             Option.bind (idx x30.1 s85) fun x90 =>
             Option.bind (laws_rPlace x51.1 x90) fun x91 =>
             some (decide (x91 < (0 : Int)))
            else
             some false)
           (fun s88 =>
           if s88 = true then
            some (Lp.done (Ex.out false))
           else
            some (Lp.more (w64 (s85 + (1 : Int)))))
          else
           some (Lp.done (Ex.fall ()))) (0 : Int))
        (Ex.cont fun s75 =>
        Option.bind (impl_CanonicalForm x2.1) fun x95 =>
        Option.bind (impl_CanonicalNames x2.1) fun x96 =>
        Option.bind (impl_RenameElements x2.1 x96.1) fun x97 =>
        Option.bind (impl_CanonicalForm x95.1) fun x98 =>
        Option.bind (spec_CanonicalForm x2.1) fun x99 =>
        Option.bind (α := Bool) (
         if (x95.2 != x99.2) = true then
          some true
         else
          if (!x95.2) = true then
           some true
          else
           Option.bind (laws_rAlgebra x95.1 x99.1) fun x103 =>
           some (!x103))
        (fun s101 =>
        if s101 = true then
         some false
        else
         Option.bind (α := Bool) (
          if x96.2 = true then
           if x97.2 = true then
            if x98.2 = true then
             Option.bind (laws_rAlgebra x97.1 x95.1) fun x109 =>
             if x109 = true then
              Option.bind (laws_rAlgebra x98.1 x95.1) fun x110 =>
              some x110
             else
              some false
            else
             some false
           else
            some false
          else
           some false)
         (fun s107 =>
         some s107))))))))))
end Go.Pure
