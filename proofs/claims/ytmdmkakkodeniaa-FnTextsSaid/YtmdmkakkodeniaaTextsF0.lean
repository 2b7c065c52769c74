/- Clean functions, printed by program. -/
import Derived.Test.YtmdmkakkodeniaaAmStep
set_option linter.unusedVariables false
namespace Go.Fn
open Go.Am

abbrev TVal := Int × ByteArray × Unit
abbrev TL1Cur := (List Int) × Int × Int × Unit
abbrev TCol := ByteArray × Int × Int × Int × Unit
abbrev TDeltaReaderB := (List Int) × Int × Bool × Unit × Unit
abbrev TRec := (List TVal) × Unit
abbrev TNode := Int × Int × Int × ByteArray × Int × Unit
abbrev TDeltaReader := (List Int) × Int × Bool × (List Int) × Unit
abbrev TTree := (List TNode) × (List Int) × Unit
abbrev TTreeReader := (List Int) × Int × (List TNode) × Int × Unit
abbrev TWalker := (List TCol) × (List TVal) × Bool × Unit × Unit × Unit

def laws_big (k : Nat) (t0 : List Int) : Option Bool :=
  some (decide ((List.length t0 : Int) > 1048576))

def spec_l1New.l3 (k : Nat) : Nat → (List Int) → Int → Int → Option (Unit × TL1Cur)
  | 0, _, _, _ => none
  | n + 1, t0, t3, t4 =>
    (cond (decide (t4 < (List.length t0 : Int))) (some (decide (t4 < 4000))) (some (false))).bind fun b1 =>
    cond b1
      ((rdL t0 t4).bind fun y2 =>
       (spec_l1New.l3 k n) t0 (bits .and .i64 (IntKind.wrap .i64 ((IntKind.wrap .i64 ((IntKind.wrap .i64 (t3 * 131)) + (IntKind.wrap .i64 y2))) + 7)) 1073741823) (IntKind.wrap .i64 (t4 + 1)))
      (some ((), (t0, 0, t3, ())))

def spec_l1New (k : Nat) (t0 : List Int) : Option (Unit × TL1Cur) :=
  spec_l1New.l3 k k t0 (IntKind.wrap .i64 (11443 + (List.length t0 : Int))) 0

def spec_l1Byte.c6 (k : Nat) (t3 : Int) (o0 : TL1Cur) : Option (Int × TL1Cur) :=
  some (t3, o0)

def spec_l1Byte (k : Nat) (o0 : TL1Cur) : Option (Int × TL1Cur) :=
  cond (decide (o0.2.1 < (List.length o0.1 : Int)))
    ((rdL o0.1 o0.2.1).bind fun y1 =>
     spec_l1Byte.c6 k (bits .and .i64 (IntKind.wrap .i64 ((bits .and .i64 (bits .xor .i64 (shrI .i64 (IntKind.wrap .i64 ((IntKind.wrap .i64 (o0.2.2.1 * 6364136223846793005)) + 1442695040888963407)) 33) (shrI .i64 (IntKind.wrap .i64 ((IntKind.wrap .i64 (o0.2.2.1 * 6364136223846793005)) + 1442695040888963407)) 45)) 255) + (IntKind.wrap .i64 y1))) 255) (o0.1, IntKind.wrap .i64 (o0.2.1 + 1), IntKind.wrap .i64 ((IntKind.wrap .i64 (o0.2.2.1 * 6364136223846793005)) + 1442695040888963407), ()))
    (spec_l1Byte.c6 k (bits .and .i64 (bits .xor .i64 (shrI .i64 (IntKind.wrap .i64 ((IntKind.wrap .i64 (o0.2.2.1 * 6364136223846793005)) + 1442695040888963407)) 33) (shrI .i64 (IntKind.wrap .i64 ((IntKind.wrap .i64 (o0.2.2.1 * 6364136223846793005)) + 1442695040888963407)) 45)) 255) (o0.1, o0.2.1, IntKind.wrap .i64 ((IntKind.wrap .i64 (o0.2.2.1 * 6364136223846793005)) + 1442695040888963407), ()))

def spec_l1Below (k : Nat) (t1 : Int) (o0 : TL1Cur) : Option (Int × TL1Cur) :=
  cond (decide (t1 ≤ 0))
    (some (0, o0))
    (cond (decide (t1 ≤ 256))
       ((spec_l1Byte k o0).bind fun r1 => cond (decide (t1 ≠ 0)) (some (Int.tmod r1.1 t1, r1.2)) none)
       ((spec_l1Byte k o0).bind fun r2 =>
        (spec_l1Byte k r2.2).bind fun r3 =>
        (spec_l1Byte k r3.2).bind fun r4 =>
        (spec_l1Byte k r4.2).bind fun r5 =>
        cond (decide (t1 ≠ 0)) (
        some (Int.tmod (IntKind.wrap .i64 ((IntKind.wrap .i64 ((IntKind.wrap .i64 ((IntKind.wrap .i64 (r2.1 * 16777216)) + (IntKind.wrap .i64 (r3.1 * 65536)))) + (IntKind.wrap .i64 (r4.1 * 256)))) + r5.1)) t1, r5.2)) none))

def spec_l1Once (k : Nat) (t1 : Int) (o0 : TL1Cur) : Option (Bool × TL1Cur) :=
  (spec_l1Below k t1 o0).bind fun r1 => some (r1.1 == 0, r1.2)

def spec_l1PickInt (k : Nat) (t1 : List Int) (o0 : TL1Cur) : Option (Int × TL1Cur) :=
  (spec_l1Below k (List.length t1 : Int) o0).bind fun r1 => (rdL t1 r1.1).bind fun y2 => some (y2, r1.2)

def spec_l1DrawBytes.l4 (k : Nat) : Nat → Int → Int → TL1Cur → (List Int) → Option (Unit × TL1Cur × (List Int))
  | 0, _, _, _, _ => none
  | n + 1, t6, t7, o0, o100 =>
    cond (decide (t7 < t6))
      ((spec_l1Byte k o0).bind fun r1 =>
       cond (lim (List.length o100 + List.length [IntKind.wrap .u8 r1.1])) (
       (spec_l1DrawBytes.l4 k n) t6 (IntKind.wrap .i64 (t7 + 1)) r1.2 (o100 ++ [IntKind.wrap .u8 r1.1])) none)
      (some ((), (o0, o100)))

def spec_l1DrawBytes (k : Nat) (t1 : Int) (o0 : TL1Cur) : Option (Unit × TL1Cur × (List Int)) :=
  (spec_l1Below k (IntKind.wrap .i64 (t1 + 1)) o0).bind fun r2 => spec_l1DrawBytes.l4 k k r2.1 0 r2.2 []

def spec_l4DrawText (k : Nat) (t1 : Int) (o0 : TL1Cur) : Option (ByteArray × TL1Cur) :=
  (spec_l1DrawBytes k t1 o0).bind fun r1 => some (intsStr r1.2.2, r1.2.1)

def spec_l1Pick (k : Nat) (t1 : List ByteArray) (o0 : TL1Cur) : Option (ByteArray × TL1Cur) :=
  (spec_l1Below k (List.length t1 : Int) o0).bind fun r1 => (rdL t1 r1.1).bind fun y2 => some (y2, r1.2)

def spec_l2DrawNum (k : Nat) (o0 : TL1Cur) : Option (Int × TL1Cur) :=
  (spec_l1Below k 1000000 o0).bind fun r1 =>
  (spec_l1Below k 1000000 r1.2).bind fun r2 =>
  (spec_l1Below k 300 r2.2).bind fun r3 =>
  (spec_l1PickInt k [0, 1, (-1), 63, 64, (-64), (-65), 127, 128, 16383, 16384, 2147483647, (-2147483648), 9223372036854775807, (-9223372036854775808), 4611686018427387904, r1.1, IntKind.wrap .i64 (0 - r2.1), r3.1] r3.2).bind fun r4 =>
  some (r4.1, r4.2)

def spec_l6DrawRight (k : Nat) (t1 : Int) (o0 : TL1Cur) : Option ((TVal) × TL1Cur) :=
  cond (t1 == 0)
    ((spec_l1Below k 2 o0).bind fun r1 => some ((r1.1, (⟨#[]⟩ : ByteArray), ()), r1.2))
    (cond (t1 == 1)
       ((spec_l1Once k 6 o0).bind fun r2 =>
        cond r2.1
          ((spec_l1PickInt k [2147483647, (-2147483648), 0] r2.2).bind fun r3 => some ((r3.1, (⟨#[]⟩ : ByteArray), ()), r3.2))
          ((spec_l1Below k 40 r2.2).bind fun r4 => some ((IntKind.wrap .i64 (r4.1 - 12), (⟨#[]⟩ : ByteArray), ()), r4.2)))
       (cond (t1 == 6)
          ((spec_l1Once k 3 o0).bind fun r5 =>
           cond r5.1
             ((spec_l1Pick k [(⟨#[]⟩ : ByteArray), (⟨#[97]⟩ : ByteArray), (⟨#[97, 98]⟩ : ByteArray), (⟨#[97, 98, 99]⟩ : ByteArray), (⟨#[97, 98, 100]⟩ : ByteArray), (⟨#[98]⟩ : ByteArray), (⟨#[97, 97]⟩ : ByteArray)] r5.2).bind fun r6 =>
              some ((0, r6.1, ()), r6.2))
             ((spec_l4DrawText k 6 r5.2).bind fun r7 => some ((0, r7.1, ()), r7.2)))
          (cond (t1 == 5)
             ((spec_l1Below k 9 o0).bind fun r8 =>
              (spec_l2DrawNum k r8.2).bind fun r9 =>
              (spec_l1PickInt k [0, (-9223372036854775808), 4607182418800017408, (-4616189618054758400), 9221120237041090560, (-2251799813685248), r8.1, r9.1] r9.2).bind fun r10 =>
              some ((r10.1, (⟨#[]⟩ : ByteArray), ()), r10.2))
             ((spec_l1Once k 2 o0).bind fun r11 =>
              cond r11.1
                ((spec_l1Below k 30 r11.2).bind fun r12 => some ((IntKind.wrap .i64 (r12.1 - 9), (⟨#[]⟩ : ByteArray), ()), r12.2))
                ((spec_l2DrawNum k r11.2).bind fun r13 => some ((r13.1, (⟨#[]⟩ : ByteArray), ()), r13.2))))))

def spec_l6DrawVal.c7 (k : Nat) (o0 : TL1Cur) (o100 : TVal) (o101 : TVal) : Option ((TVal) × TL1Cur) :=
  some (o101, o0)

def spec_l6DrawVal (k : Nat) (t1 : Int) (o0 : TL1Cur) : Option ((TVal) × TL1Cur) :=
  (spec_l6DrawRight k t1 o0).bind fun r1 =>
  (spec_l1Below k 25 r1.2).bind fun r2 =>
  cond (r2.1 == 0)
    ((spec_l1PickInt k [2, (-1), 2147483648, (-2147483649)] r2.2).bind fun r3 =>
     spec_l6DrawVal.c7 k r3.2 (0, (⟨#[]⟩ : ByteArray), ()) (r3.1, r1.1.2.1, ()))
    (cond (r2.1 == 1)
       ((spec_l1Below k 2 r2.2).bind fun r4 =>
        cond (okLen (IntKind.wrap .i64 (40 + r4.1))) (
        spec_l6DrawVal.c7 k r4.2 (0, (⟨#[]⟩ : ByteArray), ()) (r1.1.1, intsStr (List.replicate (Int.toNat (IntKind.wrap .i64 (40 + r4.1))) 0), ())) none)
       (spec_l6DrawVal.c7 k r2.2 (0, (⟨#[]⟩ : ByteArray), ()) r1.1))

def spec_l6DrawList.c11 (k : Nat) (o0 : TL1Cur) (o100 : List TVal) : Option (Unit × TL1Cur × (List TVal)) :=
  some ((), (o0, o100))

def spec_l6DrawList.c5 (k : Nat) (L4 : Int → Int → Int → TL1Cur → (List TVal) → Option (Unit × TL1Cur × (List TVal))) (t1 : Int) (t8 : Int) (t9 : Int) (o0 : TL1Cur) (o100 : List TVal) : Option (Unit × TL1Cur × (List TVal)) :=
  L4 t1 t8 (IntKind.wrap .i64 (t9 + 1)) o0 o100

def spec_l6DrawList.l4 (k : Nat) : Nat → Int → Int → Int → TL1Cur → (List TVal) → Option (Unit × TL1Cur × (List TVal))
  | 0, _, _, _, _, _ => none
  | n + 1, t1, t8, t9, o0, o100 =>
    cond (decide (t9 < t8))
      (cond (decide (t9 > 0))
         ((spec_l1Once k 3 o0).bind fun r1 =>
          cond r1.1
            ((spec_l1Below k t9 r1.2).bind fun r2 =>
             (rdL o100 r2.1).bind fun y3 =>
             cond (lim (List.length o100 + List.length [y3])) (spec_l6DrawList.c5 k (spec_l6DrawList.l4 k n) t1 t8 t9 r2.2 (o100 ++ [y3])) none)
            ((spec_l6DrawRight k t1 r1.2).bind fun r4 =>
             cond (lim (List.length o100 + List.length [r4.1])) (spec_l6DrawList.c5 k (spec_l6DrawList.l4 k n) t1 t8 t9 r4.2 (o100 ++ [r4.1])) none))
         (cond false
            ((spec_l1Below k t9 o0).bind fun r5 =>
             (rdL o100 r5.1).bind fun y6 =>
             cond (lim (List.length o100 + List.length [y6])) (spec_l6DrawList.c5 k (spec_l6DrawList.l4 k n) t1 t8 t9 r5.2 (o100 ++ [y6])) none)
            ((spec_l6DrawRight k t1 o0).bind fun r7 =>
             cond (lim (List.length o100 + List.length [r7.1])) (spec_l6DrawList.c5 k (spec_l6DrawList.l4 k n) t1 t8 t9 r7.2 (o100 ++ [r7.1])) none)))
      ((spec_l1Once k 20 o0).bind fun r8 =>
       cond r8.1
         ((spec_l6DrawVal k t1 r8.2).bind fun r9 =>
          cond (lim (List.length o100 + List.length [r9.1])) (spec_l6DrawList.c11 k r9.2 (o100 ++ [r9.1])) none)
         (spec_l6DrawList.c11 k r8.2 o100))

def spec_l6DrawList (k : Nat) (t1 : Int) (t2 : Int) (o0 : TL1Cur) : Option (Unit × TL1Cur × (List TVal)) :=
  (spec_l1Below k (IntKind.wrap .i64 (t2 + 1)) o0).bind fun r10 => spec_l6DrawList.l4 k k t1 r10.1 0 r10.2 []

def spec_l10DrawList.c4 (k : Nat) (L3 : Int → TL1Cur → (List TVal) → Option (Unit × TL1Cur × (List TVal))) (t4 : Int) (o0 : TL1Cur) (o100 : List TVal) : Option (Unit × TL1Cur × (List TVal)) :=
  L3 (IntKind.wrap .i64 (t4 + 1)) o0 o100

def spec_l10DrawList.d6 (k : Nat) (L3 : Int → TL1Cur → (List TVal) → Option (Unit × TL1Cur × (List TVal))) (t4 : Int) (o0 : TL1Cur) (o100 : List TVal) : Option (Unit × TL1Cur × (List TVal)) :=
  (rdL o100 (IntKind.wrap .i64 (t4 - 1))).bind fun y1 =>
  (spec_l4DrawText k 3 o0).bind fun r2 =>
  cond (lim (y1.2.1.size + r2.1.size)) (
  (rdL o100 t4).bind fun y3 => (rdL o100 t4).bind fun y4 => spec_l10DrawList.c4 k L3 t4 r2.2 (List.set o100 (Int.toNat t4) (0, y1.2.1 ++ r2.1, ()))) none

def spec_l10DrawList.l3 (k : Nat) : Nat → Int → TL1Cur → (List TVal) → Option (Unit × TL1Cur × (List TVal))
  | 0, _, _, _ => none
  | n + 1, t4, o0, o100 =>
    cond (decide (t4 < (List.length o100 : Int)))
      ((spec_l1Once k 2 o0).bind fun r5 =>
       (cond r5.1 ((rdL o100 (IntKind.wrap .i64 (t4 - 1))).bind fun y6 => some (decide ((y6.2.1.size : Int) < 36))) (some (false))).bind fun b7 =>
       cond b7 (spec_l10DrawList.d6 k (spec_l10DrawList.l3 k n) t4 r5.2 o100) (spec_l10DrawList.c4 k (spec_l10DrawList.l3 k n) t4 r5.2 o100))
      (some ((), (o0, o100)))

def spec_l10DrawList (k : Nat) (o0 : TL1Cur) : Option (Unit × TL1Cur × (List TVal)) :=
  (spec_l6DrawList k 6 12 o0).bind fun r8 => spec_l10DrawList.l3 k k 1 r8.2.1 r8.2.2

def spec_DrawFrontPack (k : Nat) (t0 : List Int) : Option (Unit × (List TVal)) :=
  (spec_l1New k t0).bind fun r1 => (spec_l10DrawList k r1.2).bind fun r2 => some ((), r2.2.2)

def impl_within (k : Nat) (t0 : Int) (t1 : Int) (t2 : Int) : Option Bool :=
  (cond (decide (t0 ≥ t1)) (some (decide (t0 ≤ t2))) (some (false))).bind fun b1 => some b1

def impl_isInt32 (k : Nat) (t0 : Int) : Option Bool :=
  (impl_within k t0 (-2147483648) 2147483647).bind fun r1 => some r1

def impl_ValOk.c8 (k : Nat) (t0 : Int) (t26 : Bool) (o100 : TVal) : Option Bool :=
  cond t26
    (some (eqS o100.2.1 (⟨#[]⟩ : ByteArray)))
    ((cond (t0 == 6) (some (o100.1 == 0)) (some (false))).bind fun b1 =>
     (cond b1 (some (decide ((o100.2.1.size : Int) ≤ 40))) (some (false))).bind fun b2 => some b2)

def impl_ValOk (k : Nat) (t0 : Int) (t1 : TVal) : Option Bool :=
  cond (t0 == 0)
    ((impl_within k t1.1 0 1).bind fun r3 => (cond r3 (some (eqS t1.2.1 (⟨#[]⟩ : ByteArray))) (some (false))).bind fun b4 => some b4)
    (cond (t0 == 1)
       ((impl_isInt32 k t1.1).bind fun r5 => (cond r5 (some (eqS t1.2.1 (⟨#[]⟩ : ByteArray))) (some (false))).bind fun b6 => some b6)
       (cond (t0 == 2) (impl_ValOk.c8 k t0 (t0 == 2) t1) (impl_ValOk.c8 k t0 (t0 == 5) t1)))

def impl_TypeOk (k : Nat) (t0 : Int) : Option Bool :=
  (impl_within k t0 0 2).bind fun r1 =>
  (cond r1 (some (true)) (some (t0 == 5))).bind fun b2 => (cond b2 (some (true)) (some (t0 == 6))).bind fun b3 => some b3

def impl_valsOk.l2 (k : Nat) : Nat → Int → (List TVal) → (List TVal) → Int → Int → Option Bool
  | 0, _, _, _, _, _ => none
  | n + 1, t0, t1, t7, t8, t9 =>
    cond (decide (t9 < t8))
      ((rdL t7 t9).bind fun y1 =>
       (impl_ValOk k t0 y1).bind fun r2 => cond (!r2) (some false) ((impl_valsOk.l2 k n) t0 t1 t7 t8 (IntKind.wrap .i64 (t9 + 1))))
      ((cond (decide ((List.length t1 : Int) ≤ 2000)) ((impl_TypeOk k t0).bind fun r3 => some (r3)) (some (false))).bind fun b4 => some b4)

def impl_valsOk (k : Nat) (t0 : Int) (t1 : List TVal) : Option Bool :=
  impl_valsOk.l2 k k t0 t1 t1 (List.length t1 : Int) 0

def impl_UvarPut.l3 (k : Nat) : Nat → Int → (List Int) → Option (Unit × (List Int))
  | 0, _, _ => none
  | n + 1, t3, o100 =>
    cond (decide (t3 > 127))
      (cond (lim (List.length o100 + List.length [IntKind.wrap .u8 (bits .or .u64 (bits .and .u64 t3 127) 128)])) (
       (impl_UvarPut.l3 k n) (shrI .u64 t3 7) (o100 ++ [IntKind.wrap .u8 (bits .or .u64 (bits .and .u64 t3 127) 128)])) none)
      (cond (lim (List.length o100 + List.length [IntKind.wrap .u8 t3])) (some ((), o100 ++ [IntKind.wrap .u8 t3])) none)

def impl_UvarPut (k : Nat) (t0 : Int) : Option (Unit × (List Int)) :=
  impl_UvarPut.l3 k k (IntKind.wrap .u64 t0) []

def impl_Zig (k : Nat) (t0 : Int) : Option Int :=
  some (bits .xor .i64 (shlI .i64 t0 1) (shrI .i64 t0 63))

def impl_ZigPut (k : Nat) (t0 : Int) : Option (Unit × (List Int)) :=
  (impl_Zig k t0).bind fun r1 => (impl_UvarPut k r1).bind fun r2 => some ((), r2.2)

def impl_Differences.d5 (k : Nat) (L3 : (List Int) → Int → (List Int) → Option (Unit × (List Int))) (t0 : List Int) (t4 : Int) (o100 : List Int) : Option (Unit × (List Int)) :=
  (rdL t0 t4).bind fun y1 =>
  (rdL t0 (IntKind.wrap .i64 (t4 - 1))).bind fun y2 =>
  cond (lim (List.length o100 + List.length [IntKind.wrap .i64 (y1 - y2)])) (
  L3 t0 (IntKind.wrap .i64 (t4 + 1)) (o100 ++ [IntKind.wrap .i64 (y1 - y2)])) none

def impl_Differences.l3 (k : Nat) : Nat → (List Int) → Int → (List Int) → Option (Unit × (List Int))
  | 0, _, _, _ => none
  | n + 1, t0, t4, o100 =>
    cond (decide (t4 < (List.length t0 : Int))) (impl_Differences.d5 k (impl_Differences.l3 k n) t0 t4 o100) (some ((), o100))

def impl_Differences (k : Nat) (t0 : List Int) : Option (Unit × (List Int)) :=
  impl_Differences.l3 k k t0 1 []

def slices_Min_int_int.l5 (k : Nat) : Nat → (List Int) → Int → Int → Option Int
  | 0, _, _, _ => none
  | n + 1, t0, t3, t4 =>
    cond (decide (t4 < (List.length t0 : Int)))
      ((rdL t0 t4).bind fun y1 => (slices_Min_int_int.l5 k n) t0 (if y1 < t3 then y1 else t3) (IntKind.wrap .i64 (t4 + 1)))
      (some t3)

def slices_Min_int_int.c3 (k : Nat) (t0 : List Int) : Option Int :=
  (rdL t0 0).bind fun y2 => slices_Min_int_int.l5 k k t0 y2 1

def slices_Min_int_int (k : Nat) (t0 : List Int) : Option Int :=
  cond (decide ((List.length t0 : Int) < 1)) (none) (slices_Min_int_int.c3 k t0)

def bits_Len64.c10 (k : Nat) (t0 : Int) (t2 : Int) : Option Int :=
  (btS (⟨#[0, 1, 2, 2, 3, 3, 3, 3, 4, 4, 4, 4, 4, 4, 4, 4, 5, 5, 5, 5, 5, 5, 5, 5, 5, 5, 5, 5, 5, 5, 5, 5, 6, 6, 6, 6, 6, 6, 6, 6, 6, 6, 6, 6, 6, 6, 6, 6, 6, 6, 6, 6, 6, 6, 6, 6, 6, 6, 6, 6, 6, 6, 6, 6, 7, 7, 7, 7, 7, 7, 7, 7, 7, 7, 7, 7, 7, 7, 7, 7, 7, 7, 7, 7, 7, 7, 7, 7, 7, 7, 7, 7, 7, 7, 7, 7, 7, 7, 7, 7, 7, 7, 7, 7, 7, 7, 7, 7, 7, 7, 7, 7, 7, 7, 7, 7, 7, 7, 7, 7, 7, 7, 7, 7, 7, 7, 7, 7, 8, 8, 8, 8, 8, 8, 8, 8, 8, 8, 8, 8, 8, 8, 8, 8, 8, 8, 8, 8, 8, 8, 8, 8, 8, 8, 8, 8, 8, 8, 8, 8, 8, 8, 8, 8, 8, 8, 8, 8, 8, 8, 8, 8, 8, 8, 8, 8, 8, 8, 8, 8, 8, 8, 8, 8, 8, 8, 8, 8, 8, 8, 8, 8, 8, 8, 8, 8, 8, 8, 8, 8, 8, 8, 8, 8, 8, 8, 8, 8, 8, 8, 8, 8, 8, 8, 8, 8, 8, 8, 8, 8, 8, 8, 8, 8, 8, 8, 8, 8, 8, 8, 8, 8, 8, 8, 8, 8, 8, 8, 8, 8, 8, 8, 8, 8, 8, 8, 8, 8, 8, 8, 8, 8, 8, 8, 8, 8]⟩ : ByteArray) (IntKind.wrap .u8 t0)).bind fun y1 =>
  some (IntKind.wrap .i64 (t2 + (IntKind.wrap .i64 y1)))

def bits_Len64.c7 (k : Nat) (t0 : Int) (t2 : Int) : Option Int :=
  cond (decide (t0 ≥ 256)) (bits_Len64.c10 k (shrI .u64 t0 8) (IntKind.wrap .i64 (t2 + 8))) (bits_Len64.c10 k t0 t2)

def bits_Len64.c4 (k : Nat) (t0 : Int) (t2 : Int) : Option Int :=
  cond (decide (t0 ≥ 65536)) (bits_Len64.c7 k (shrI .u64 t0 16) (IntKind.wrap .i64 (t2 + 16))) (bits_Len64.c7 k t0 t2)

def bits_Len64 (k : Nat) (t0 : Int) : Option Int :=
  cond (decide (t0 ≥ 4294967296)) (bits_Len64.c4 k (shrI .u64 t0 32) 32) (bits_Len64.c4 k t0 0)

def impl_widthOf (k : Nat) (t0 : Int) : Option Int :=
  (bits_Len64 k (IntKind.wrap .u64 t0)).bind fun r1 => some r1

def impl_packed.l6 (k : Nat) (L3 : Int → (List Int) → Int → Int → (List Int) → Option (Unit × (List Int))) : Nat → Int → Int → Int → (List Int) → Int → Int → Int → Int → (List Int) → Option (Unit × (List Int))
  | 0, _, _, _, _, _, _, _, _, _ => none
  | n + 1, t1, t6, t7, t17, t18, t19, t24, t25, o100 =>
    cond (decide (t25 < t24))
      ((rdL o100 (IntKind.wrap .i64 (Int.tdiv (IntKind.wrap .i64 ((IntKind.wrap .i64 (t6 * t1)) + t25)) 8))).bind fun y1 =>
       cond (decide (0 ≤ t25)) (
       cond (decide (0 ≤ (Int.tmod (IntKind.wrap .i64 ((IntKind.wrap .i64 (t6 * t1)) + t25)) 8))) (
       (rdL o100 (IntKind.wrap .i64 (Int.tdiv (IntKind.wrap .i64 ((IntKind.wrap .i64 (t6 * t1)) + t25)) 8))).bind fun y2 =>
       (rdL o100 (IntKind.wrap .i64 (Int.tdiv (IntKind.wrap .i64 ((IntKind.wrap .i64 (t6 * t1)) + t25)) 8))).bind fun y3 =>
       (impl_packed.l6 k L3 n) t1 t6 t7 t17 t18 t19 t24 (IntKind.wrap .i64 (t25 + 1)) (List.set o100 (Int.toNat (IntKind.wrap .i64 (Int.tdiv (IntKind.wrap .i64 ((IntKind.wrap .i64 (t6 * t1)) + t25)) 8))) (bits .or .u8 y1 (shlI .u8 (IntKind.wrap .u8 (bits .and .i64 (shrI .i64 t7 t25) 1)) (Int.tmod (IntKind.wrap .i64 ((IntKind.wrap .i64 (t6 * t1)) + t25)) 8))))) none) none)
      (L3 t1 t17 t18 (IntKind.wrap .i64 (t19 + 1)) o100)

def impl_packed.l3 (k : Nat) : Nat → Int → (List Int) → Int → Int → (List Int) → Option (Unit × (List Int))
  | 0, _, _, _, _, _ => none
  | n + 1, t1, t17, t18, t19, o100 =>
    cond (decide (t19 < t18)) ((rdL t17 t19).bind fun y4 => impl_packed.l6 k (impl_packed.l3 k n) k t1 t19 y4 t17 t18 t19 t1 0 o100) (some ((), o100))

def impl_packed (k : Nat) (t0 : List Int) (t1 : Int) : Option (Unit × (List Int)) :=
  cond (okLen (IntKind.wrap .i64 (Int.tdiv (IntKind.wrap .i64 ((IntKind.wrap .i64 ((List.length t0 : Int) * t1)) + 7)) 8))) (
  impl_packed.l3 k k t1 t0 (List.length t0 : Int) 0 (List.replicate (Int.toNat (IntKind.wrap .i64 (Int.tdiv (IntKind.wrap .i64 ((IntKind.wrap .i64 ((List.length t0 : Int) * t1)) + 7)) 8))) 0)) none

def impl_blockOf.c19 (k : Nat) (L5 : (List Int) → Int → Int → (List Int) → (List Int) → Option (Unit × (List Int))) (t0 : List Int) (t3 : Int) (t16 : Int) (o100 : List Int) (o101 : List Int) : Option (Unit × (List Int)) :=
  L5 t0 t3 (IntKind.wrap .i64 (t16 + 1)) o100 o101

def impl_blockOf.l11 (k : Nat) (L5 : (List Int) → Int → Int → (List Int) → (List Int) → Option (Unit × (List Int))) : Nat → (List Int) → Int → Int → Int → Int → Int → Int → (List Int) → (List Int) → (List Int) → Option (Unit × (List Int))
  | 0, _, _, _, _, _, _, _, _, _, _ => none
  | n + 1, t0, t3, t6, t8, t9, t10, t16, o100, o101, o102 =>
    (cond (decide (t10 < (IntKind.wrap .i64 ((IntKind.wrap .i64 (t6 + 1)) * 32)))) (some (decide (t10 < (List.length t0 : Int)))) (some (false))).bind fun b1 =>
    cond b1
      ((rdL t0 t10).bind fun y2 =>
       (rdL o102 t8).bind fun y3 =>
       (rdL o102 t8).bind fun y4 =>
       (rdL (List.set o102 (Int.toNat t8) (IntKind.wrap .i64 (y2 - t3))) t8).bind fun y5 =>
       (impl_widthOf k y5).bind fun r6 =>
       (impl_blockOf.l11 k L5 n) t0 t3 t6 (IntKind.wrap .i64 (t8 + 1)) (if r6 > t9 then r6 else t9) (IntKind.wrap .i64 (t10 + 1)) t16 o100 o101 (List.set o102 (Int.toNat t8) (IntKind.wrap .i64 (y2 - t3))))
      (cond (lim (List.length o100 + List.length [IntKind.wrap .u8 t9])) (
       cond (decide (t8 > 0))
         ((impl_packed k o102 t9).bind fun r7 =>
          cond (lim (List.length o101 + List.length r7.2)) (impl_blockOf.c19 k L5 t0 t3 t16 (o100 ++ [IntKind.wrap .u8 t9]) (o101 ++ r7.2)) none)
         (impl_blockOf.c19 k L5 t0 t3 t16 (o100 ++ [IntKind.wrap .u8 t9]) o101)) none)

def impl_blockOf.l5 (k : Nat) : Nat → (List Int) → Int → Int → (List Int) → (List Int) → Option (Unit × (List Int))
  | 0, _, _, _, _, _ => none
  | n + 1, t0, t3, t16, o100, o101 =>
    cond (decide (t16 < 4))
      (cond (okLen 32) (
       impl_blockOf.l11 k (impl_blockOf.l5 k n) k t0 t3 t16 0 0 (IntKind.wrap .i64 (t16 * 32)) t16 o100 o101 (List.replicate (Int.toNat 32) 0)) none)
      (cond (lim (List.length o100 + List.length o101)) (some ((), o100 ++ o101)) none)

def impl_blockOf (k : Nat) (t0 : List Int) : Option (Unit × (List Int)) :=
  (slices_Min_int_int k t0).bind fun r8 => (impl_ZigPut k r8).bind fun r9 => impl_blockOf.l5 k k t0 r8 0 r9.2 []

def impl_DeltaPack.l10 (k : Nat) : Nat → (List Int) → (List Int) → Option ((Unit × Bool) × (List Int))
  | 0, _, _ => none
  | n + 1, t6, o100 =>
    cond (decide ((List.length t6 : Int) > 0))
      (cond (inSl 0 (if (List.length t6 : Int) < 128 then (List.length t6 : Int) else 128) (List.length t6)) (
       (impl_blockOf k (cutL t6 0 (if (List.length t6 : Int) < 128 then (List.length t6 : Int) else 128))).bind fun r1 =>
       cond (lim (List.length o100 + List.length r1.2)) (
       cond (inSl (if (List.length t6 : Int) < 128 then (List.length t6 : Int) else 128) ((List.length t6) : Int) (List.length t6)) (
       (impl_DeltaPack.l10 k n) (cutL t6 (if (List.length t6 : Int) < 128 then (List.length t6 : Int) else 128) ((List.length t6) : Int)) (o100 ++ r1.2)) none) none) none)
      (some (((), true), o100))

def impl_DeltaPack.c6 (k : Nat) (t0 : List Int) (t4 : Int) : Option ((Unit × Bool) × (List Int)) :=
  (impl_UvarPut k 128).bind fun r2 =>
  (impl_UvarPut k 4).bind fun r3 =>
  cond (lim (List.length r2.2 + List.length r3.2)) (
  (impl_UvarPut k (List.length t0 : Int)).bind fun r4 =>
  cond (lim (List.length (r2.2 ++ r3.2) + List.length r4.2)) (
  (impl_ZigPut k t4).bind fun r5 =>
  cond (lim (List.length ((r2.2 ++ r3.2) ++ r4.2) + List.length r5.2)) (
  (impl_Differences k t0).bind fun r6 => impl_DeltaPack.l10 k k r6.2 (((r2.2 ++ r3.2) ++ r4.2) ++ r5.2)) none) none) none

def impl_DeltaPack (k : Nat) (t0 : List Int) : Option ((Unit × Bool) × (List Int)) :=
  cond (decide ((List.length t0 : Int) > 2000))
    (some (((), false), []))
    (cond (decide ((List.length t0 : Int) > 0)) ((rdL t0 0).bind fun y7 => impl_DeltaPack.c6 k t0 y7) (impl_DeltaPack.c6 k t0 0))

def impl_LengthPack.l6 (k : Nat) : Nat → (List TVal) → Int → Int → (List Int) → (List Int) → Option ((Unit × Bool) × (List Int))
  | 0, _, _, _, _, _ => none
  | n + 1, t15, t16, t17, o100, o101 =>
    cond (decide (t17 < t16))
      ((rdL t15 t17).bind fun y1 =>
       cond (lim (List.length o100 + List.length [(y1.2.1.size : Int)])) (
       cond (lim (List.length o101 + List.length (strInts y1.2.1))) (
       (impl_LengthPack.l6 k n) t15 t16 (IntKind.wrap .i64 (t17 + 1)) (o100 ++ [(y1.2.1.size : Int)]) (o101 ++ (strInts y1.2.1))) none) none)
      ((impl_DeltaPack k o100).bind fun r2 =>
       cond (!r2.1.2) (some (((), false), [])) (cond (lim (List.length r2.2 + List.length o101)) (some (((), true), r2.2 ++ o101)) none))

def impl_LengthPack (k : Nat) (t0 : List TVal) : Option ((Unit × Bool) × (List Int)) :=
  (impl_valsOk k 6 t0).bind fun r3 => cond (!r3) (some (((), false), [])) (impl_LengthPack.l6 k k t0 (List.length t0 : Int) 0 [] [])

def impl_Common.l2 (k : Nat) : Nat → ByteArray → ByteArray → Int → Option Int
  | 0, _, _, _ => none
  | n + 1, t0, t1, t5 =>
    (cond (decide (t5 < (t0.size : Int))) (some (decide (t5 < (t1.size : Int)))) (some (false))).bind fun b1 =>
    (cond b1 ((btS t0 t5).bind fun y2 => (btS t1 t5).bind fun y3 => some (y2 == y3)) (some (false))).bind fun b4 =>
    cond b4 ((impl_Common.l2 k n) t0 t1 (IntKind.wrap .i64 (t5 + 1))) (some t5)

def impl_Common (k : Nat) (t0 : ByteArray) (t1 : ByteArray) : Option Int :=
  impl_Common.l2 k k t0 t1 0

def impl_FrontPack.l7 (k : Nat) : Nat → ByteArray → (List TVal) → Int → Int → (List Int) → (List TVal) → Option ((Unit × Bool) × (List Int))
  | 0, _, _, _, _, _, _ => none
  | n + 1, t6, t19, t20, t21, o100, o101 =>
    cond (decide (t21 < t20))
      ((rdL t19 t21).bind fun y1 =>
       (impl_Common k t6 y1.2.1).bind fun r2 =>
       cond (lim (List.length o100 + List.length [r2])) (
       cond (inSl r2 (y1.2.1.size : Int) y1.2.1.size) (
       cond (lim (List.length o101 + List.length [(0, ByteArray.extract y1.2.1 (Int.toNat r2) (Int.toNat (y1.2.1.size : Int)), ())])) (
       (impl_FrontPack.l7 k n) y1.2.1 t19 t20 (IntKind.wrap .i64 (t21 + 1)) (o100 ++ [r2]) (o101 ++ [(0, ByteArray.extract y1.2.1 (Int.toNat r2) (Int.toNat (y1.2.1.size : Int)), ())])) none) none) none)
      ((impl_DeltaPack k o100).bind fun r3 =>
       (impl_LengthPack k o101).bind fun r4 =>
       (cond (!r3.1.2) (some (true)) (some (!r4.1.2))).bind fun b5 =>
       cond b5 (some (((), false), [])) (cond (lim (List.length r3.2 + List.length r4.2)) (some (((), true), r3.2 ++ r4.2)) none))

def impl_FrontPack (k : Nat) (t0 : List TVal) : Option ((Unit × Bool) × (List Int)) :=
  (impl_valsOk k 6 t0).bind fun r6 =>
  cond (!r6) (some (((), false), [])) (impl_FrontPack.l7 k k (⟨#[]⟩ : ByteArray) t0 (List.length t0 : Int) 0 [] [])

def spec_l5Type.c7 (k : Nat) (t4 : Bool) : Option Bool :=
  cond t4 (some true) (some false)

def spec_l5Type (k : Nat) (t0 : Int) : Option Bool :=
  cond (t0 == 0)
    (spec_l5Type.c7 k (t0 == 0))
    (cond (t0 == 1)
       (spec_l5Type.c7 k (t0 == 1))
       (cond (t0 == 2) (spec_l5Type.c7 k (t0 == 2)) (cond (t0 == 5) (spec_l5Type.c7 k (t0 == 5)) (spec_l5Type.c7 k (t0 == 6)))))

def spec_l1In (k : Nat) (t0 : Int) (t1 : Int) (t2 : Int) : Option Bool :=
  (cond (decide (t0 ≥ t1)) (some (decide (t0 ≤ t2))) (some (false))).bind fun b1 => some b1

def spec_l4Int (k : Nat) (t0 : Int) : Option Bool :=
  (spec_l1In k t0 (-2147483648) 2147483647).bind fun r1 => some r1

def spec_ValOk.c8 (k : Nat) (t5 : Int) (t26 : Bool) (o100 : TVal) : Option Bool :=
  cond t26
    (some (eqS o100.2.1 (⟨#[]⟩ : ByteArray)))
    (cond (t5 == 6) ((cond (o100.1 == 0) (some (decide ((o100.2.1.size : Int) ≤ 40))) (some (false))).bind fun b1 => some b1) (some false))

def spec_ValOk (k : Nat) (t0 : Int) (t1 : TVal) : Option Bool :=
  cond (t0 == 0)
    ((spec_l1In k t1.1 0 1).bind fun r2 => (cond r2 (some (eqS t1.2.1 (⟨#[]⟩ : ByteArray))) (some (false))).bind fun b3 => some b3)
    (cond (t0 == 1)
       ((spec_l4Int k t1.1).bind fun r4 => (cond r4 (some (eqS t1.2.1 (⟨#[]⟩ : ByteArray))) (some (false))).bind fun b5 => some b5)
       (cond (t0 == 2) (spec_ValOk.c8 k t0 (t0 == 2) t1) (spec_ValOk.c8 k t0 (t0 == 5) t1)))

def spec_l6Vals.l4 (k : Nat) : Nat → Int → (List TVal) → Int → Option Bool
  | 0, _, _, _ => none
  | n + 1, t0, t1, t5 =>
    cond (decide (t5 < (List.length t1 : Int)))
      ((rdL t1 t5).bind fun y1 =>
       (spec_ValOk k t0 y1).bind fun r2 => cond (!r2) (some false) ((spec_l6Vals.l4 k n) t0 t1 (IntKind.wrap .i64 (t5 + 1))))
      (some true)

def spec_l6Vals (k : Nat) (t0 : Int) (t1 : List TVal) : Option Bool :=
  (cond (decide ((List.length t1 : Int) > 2000)) (some (true)) ((spec_l5Type k t0).bind fun r3 => some (!r3))).bind fun b4 =>
  cond b4 (some false) (spec_l6Vals.l4 k k t0 t1 0)

def spec_Common.l2 (k : Nat) : Nat → ByteArray → ByteArray → Int → Option Int
  | 0, _, _, _ => none
  | n + 1, t0, t1, t5 =>
    (cond (decide (t5 < (t0.size : Int))) (some (decide (t5 < (t1.size : Int)))) (some (false))).bind fun b1 =>
    (cond b1 ((btS t0 t5).bind fun y2 => (btS t1 t5).bind fun y3 => some (y2 == y3)) (some (false))).bind fun b4 =>
    cond b4 ((spec_Common.l2 k n) t0 t1 (IntKind.wrap .i64 (t5 + 1))) (some t5)

def spec_Common (k : Nat) (t0 : ByteArray) (t1 : ByteArray) : Option Int :=
  spec_Common.l2 k k t0 t1 0

def spec_l1Min (k : Nat) (t0 : Int) (t1 : Int) : Option Int :=
  cond (decide (t0 < t1)) (some t0) (some t1)

def spec_l2Down (k : Nat) (t0 : Int) (t1 : Int) : Option Int :=
  cond (t1 == 0)
    (some t0)
    (cond (decide (0 ≤ t1)) (
     cond (decide (0 ≤ (IntKind.wrap .i64 (64 - t1)))) (
     some (bits .and .i64 (shrI .i64 t0 t1) (IntKind.wrap .i64 ((shlI .i64 1 (IntKind.wrap .i64 (64 - t1))) - 1)))) none) none)

def spec_UvarPut.l2 (k : Nat) : Nat → Int → (List Int) → Option (Unit × (List Int))
  | 0, _, _ => none
  | n + 1, t0, o100 =>
    (spec_l2Down k t0 7).bind fun r1 =>
    cond (r1 != 0)
      (cond (lim (List.length o100 + List.length [IntKind.wrap .u8 (IntKind.wrap .i64 ((bits .and .i64 t0 127) + 128))])) (
       (spec_l2Down k t0 7).bind fun r2 => (spec_UvarPut.l2 k n) r2 (o100 ++ [IntKind.wrap .u8 (IntKind.wrap .i64 ((bits .and .i64 t0 127) + 128))])) none)
      (cond (lim (List.length o100 + List.length [IntKind.wrap .u8 t0])) (some ((), o100 ++ [IntKind.wrap .u8 t0])) none)

def spec_UvarPut (k : Nat) (t0 : Int) : Option (Unit × (List Int)) :=
  spec_UvarPut.l2 k k t0 []

def spec_Zig (k : Nat) (t0 : Int) : Option Int :=
  cond (decide (t0 < 0)) (some (bits .xor .i64 (-1) (shlI .i64 t0 1))) (some (shlI .i64 t0 1))

def spec_ZigPut (k : Nat) (t0 : Int) : Option (Unit × (List Int)) :=
  (spec_Zig k t0).bind fun r1 => (spec_UvarPut k r1).bind fun r2 => some ((), r2.2)

def spec_Differences.d5 (k : Nat) (L3 : (List Int) → Int → (List Int) → Option (Unit × (List Int))) (t0 : List Int) (t4 : Int) (o100 : List Int) : Option (Unit × (List Int)) :=
  (rdL t0 t4).bind fun y1 =>
  (rdL t0 (IntKind.wrap .i64 (t4 - 1))).bind fun y2 =>
  cond (lim (List.length o100 + List.length [IntKind.wrap .i64 (y1 - y2)])) (
  L3 t0 (IntKind.wrap .i64 (t4 + 1)) (o100 ++ [IntKind.wrap .i64 (y1 - y2)])) none

def spec_Differences.l3 (k : Nat) : Nat → (List Int) → Int → (List Int) → Option (Unit × (List Int))
  | 0, _, _, _ => none
  | n + 1, t0, t4, o100 =>
    cond (decide (t4 < (List.length t0 : Int))) (spec_Differences.d5 k (spec_Differences.l3 k n) t0 t4 o100) (some ((), o100))

def spec_Differences (k : Nat) (t0 : List Int) : Option (Unit × (List Int)) :=
  spec_Differences.l3 k k t0 1 []

def spec_l1Max (k : Nat) (t0 : Int) (t1 : Int) : Option Int :=
  cond (decide (t0 > t1)) (some t0) (some t1)

def spec_l9Width.l2 (k : Nat) : Nat → Int → Int → Option Int
  | 0, _, _ => none
  | n + 1, t0, t3 =>
    cond (t0 != 0) ((spec_l2Down k t0 1).bind fun r1 => (spec_l9Width.l2 k n) r1 (IntKind.wrap .i64 (t3 + 1))) (some t3)

def spec_l9Width (k : Nat) (t0 : Int) : Option Int :=
  spec_l9Width.l2 k k t0 0

def spec_l9Bits.c7 (k : Nat) (L6 : (List Int) → Int → Int → Int → (List Int) → Option (Unit × (List Int))) (t0 : List Int) (t1 : Int) (t6 : Int) (t7 : Int) (o100 : List Int) : Option (Unit × (List Int)) :=
  L6 t0 t1 t6 (IntKind.wrap .i64 (t7 + 1)) o100

def spec_l9Bits.l6 (k : Nat) (L3 : (List Int) → Int → Int → (List Int) → Option (Unit × (List Int))) : Nat → (List Int) → Int → Int → Int → (List Int) → Option (Unit × (List Int))
  | 0, _, _, _, _, _ => none
  | n + 1, t0, t1, t6, t7, o100 =>
    cond (decide (t7 < t1))
      ((rdL t0 t6).bind fun y1 =>
       cond (decide (0 ≤ t7)) (
       cond ((bits .and .i64 (shrI .i64 y1 t7) 1) != 0)
         ((rdL o100 (IntKind.wrap .i64 (Int.tdiv (IntKind.wrap .i64 ((IntKind.wrap .i64 (t6 * t1)) + t7)) 8))).bind fun y2 =>
          cond (decide (0 ≤ (Int.tmod (IntKind.wrap .i64 ((IntKind.wrap .i64 (t6 * t1)) + t7)) 8))) (
          (rdL o100 (IntKind.wrap .i64 (Int.tdiv (IntKind.wrap .i64 ((IntKind.wrap .i64 (t6 * t1)) + t7)) 8))).bind fun y3 =>
          (rdL o100 (IntKind.wrap .i64 (Int.tdiv (IntKind.wrap .i64 ((IntKind.wrap .i64 (t6 * t1)) + t7)) 8))).bind fun y4 =>
          spec_l9Bits.c7 k (spec_l9Bits.l6 k L3 n) t0 t1 t6 t7 (List.set o100 (Int.toNat (IntKind.wrap .i64 (Int.tdiv (IntKind.wrap .i64 ((IntKind.wrap .i64 (t6 * t1)) + t7)) 8))) (bits .or .u8 y2 (shlI .u8 1 (Int.tmod (IntKind.wrap .i64 ((IntKind.wrap .i64 (t6 * t1)) + t7)) 8))))) none)
         (spec_l9Bits.c7 k (spec_l9Bits.l6 k L3 n) t0 t1 t6 t7 o100)) none)
      (L3 t0 t1 (IntKind.wrap .i64 (t6 + 1)) o100)

def spec_l9Bits.l3 (k : Nat) : Nat → (List Int) → Int → Int → (List Int) → Option (Unit × (List Int))
  | 0, _, _, _, _ => none
  | n + 1, t0, t1, t6, o100 =>
    cond (decide (t6 < (List.length t0 : Int))) (spec_l9Bits.l6 k (spec_l9Bits.l3 k n) k t0 t1 t6 0 o100) (some ((), o100))

def spec_l9Bits (k : Nat) (t0 : List Int) (t1 : Int) : Option (Unit × (List Int)) :=
  cond (okLen (IntKind.wrap .i64 (Int.tdiv (IntKind.wrap .i64 ((IntKind.wrap .i64 ((List.length t0 : Int) * t1)) + 7)) 8))) (
  spec_l9Bits.l3 k k t0 t1 0 (List.replicate (Int.toNat (IntKind.wrap .i64 (Int.tdiv (IntKind.wrap .i64 ((IntKind.wrap .i64 ((List.length t0 : Int) * t1)) + 7)) 8))) 0)) none

def spec_l9Block.c10 (k : Nat) (L9 : (List Int) → Int → Int → Int → (List Int) → (List Int) → Option (Unit × (List Int))) (t0 : List Int) (t3 : Int) (t5 : Int) (t8 : Int) (o100 : List Int) (o101 : List Int) : Option (Unit × (List Int)) :=
  L9 t0 t3 t5 (IntKind.wrap .i64 (t8 + 1)) o100 o101

def spec_l9Block.l20 (k : Nat) (L9 : (List Int) → Int → Int → Int → (List Int) → (List Int) → Option (Unit × (List Int))) : Nat → (List Int) → Int → Int → Int → Int → (List Int) → (List Int) → (List Int) → Option (Unit × (List Int))
  | 0, _, _, _, _, _, _, _, _ => none
  | n + 1, t0, t3, t5, t8, t10, o100, o101, o102 =>
    cond (decide ((List.length o102 : Int) < t5))
      (cond (lim (List.length o102 + List.length [0])) ((spec_l9Block.l20 k L9 n) t0 t3 t5 t8 t10 o100 o101 (o102 ++ [0])) none)
      ((spec_l9Bits k o102 t10).bind fun r1 =>
       cond (lim (List.length o101 + List.length r1.2)) (spec_l9Block.c10 k L9 t0 t3 t5 t8 o100 (o101 ++ r1.2)) none)

def spec_l9Block.l14 (k : Nat) (L9 : (List Int) → Int → Int → Int → (List Int) → (List Int) → Option (Unit × (List Int))) : Nat → (List Int) → Int → Int → Int → Int → Int → (List Int) → (List Int) → (List Int) → Option (Unit × (List Int))
  | 0, _, _, _, _, _, _, _, _, _ => none
  | n + 1, t0, t3, t5, t8, t10, t11, o100, o101, o102 =>
    (cond (decide (t11 < (IntKind.wrap .i64 ((IntKind.wrap .i64 (t8 + 1)) * t5)))) (some (decide (t11 < (List.length t0 : Int)))) (some (false))).bind fun b2 =>
    cond b2
      ((rdL t0 t11).bind fun y3 =>
       cond (lim (List.length o102 + List.length [IntKind.wrap .i64 (y3 - t3)])) (
       (rdL t0 t11).bind fun y4 =>
       (spec_l9Width k (IntKind.wrap .i64 (y4 - t3))).bind fun r5 =>
       (spec_l1Max k t10 r5).bind fun r6 =>
       (spec_l9Block.l14 k L9 n) t0 t3 t5 t8 r6 (IntKind.wrap .i64 (t11 + 1)) o100 o101 (o102 ++ [IntKind.wrap .i64 (y3 - t3)])) none)
      (cond (lim (List.length o100 + List.length [IntKind.wrap .u8 t10])) (
       cond ((List.length o102 : Int) == 0)
         (spec_l9Block.c10 k L9 t0 t3 t5 t8 (o100 ++ [IntKind.wrap .u8 t10]) o101)
         (spec_l9Block.l20 k L9 k t0 t3 t5 t8 t10 (o100 ++ [IntKind.wrap .u8 t10]) o101 o102)) none)

def spec_l9Block.l9 (k : Nat) : Nat → (List Int) → Int → Int → Int → (List Int) → (List Int) → Option (Unit × (List Int))
  | 0, _, _, _, _, _, _ => none
  | n + 1, t0, t3, t5, t8, o100, o101 =>
    cond (decide (t8 < 4))
      (spec_l9Block.l14 k (spec_l9Block.l9 k n) k t0 t3 t5 t8 0 (IntKind.wrap .i64 (t8 * t5)) o100 o101 [])
      ((spec_ZigPut k t3).bind fun r7 =>
       cond (lim (List.length r7.2 + List.length o100)) (
       cond (lim (List.length (r7.2 ++ o100) + List.length o101)) (some ((), (r7.2 ++ o100) ++ o101)) none) none)

def spec_l9Block.l3 (k : Nat) : Nat → (List Int) → Int → Int → Option (Unit × (List Int))
  | 0, _, _, _ => none
  | n + 1, t0, t3, t4 =>
    cond (decide (t4 < (List.length t0 : Int)))
      ((rdL t0 t4).bind fun y8 => (spec_l1Min k t3 y8).bind fun r9 => (spec_l9Block.l3 k n) t0 r9 (IntKind.wrap .i64 (t4 + 1)))
      (spec_l9Block.l9 k k t0 t3 32 0 [] [])

def spec_l9Block (k : Nat) (t0 : List Int) : Option (Unit × (List Int)) :=
  (rdL t0 0).bind fun y10 => spec_l9Block.l3 k k t0 y10 1

def spec_DeltaPack.l11 (k : Nat) : Nat → Int → (List Int) → (List Int) → Option ((Unit × Bool) × (List Int))
  | 0, _, _, _ => none
  | n + 1, t7, o100, o101 =>
    cond (decide (t7 < (List.length o101 : Int)))
      ((spec_l1Min k (IntKind.wrap .i64 (t7 + 128)) (List.length o101 : Int)).bind fun r1 =>
       cond (inSl t7 r1 (List.length o101)) (
       (spec_l9Block k (cutL o101 t7 r1)).bind fun r2 =>
       cond (lim (List.length o100 + List.length r2.2)) ((spec_DeltaPack.l11 k n) (IntKind.wrap .i64 (t7 + 128)) (o100 ++ r2.2) o101) none) none)
      (some (((), true), o100))

def spec_DeltaPack.c6 (k : Nat) (t0 : List Int) (t4 : Int) : Option ((Unit × Bool) × (List Int)) :=
  (spec_UvarPut k 128).bind fun r3 =>
  (spec_UvarPut k 4).bind fun r4 =>
  cond (lim (List.length r3.2 + List.length r4.2)) (
  (spec_UvarPut k (List.length t0 : Int)).bind fun r5 =>
  cond (lim (List.length (r3.2 ++ r4.2) + List.length r5.2)) (
  (spec_ZigPut k t4).bind fun r6 =>
  cond (lim (List.length ((r3.2 ++ r4.2) ++ r5.2) + List.length r6.2)) (
  (spec_Differences k t0).bind fun r7 => spec_DeltaPack.l11 k k 0 (((r3.2 ++ r4.2) ++ r5.2) ++ r6.2) r7.2) none) none) none

def spec_DeltaPack (k : Nat) (t0 : List Int) : Option ((Unit × Bool) × (List Int)) :=
  cond (decide ((List.length t0 : Int) > 2000))
    (some (((), false), []))
    (cond (decide ((List.length t0 : Int) > 0)) ((rdL t0 0).bind fun y8 => spec_DeltaPack.c6 k t0 y8) (spec_DeltaPack.c6 k t0 0))

def spec_l10Pack.l10 (k : Nat) : Nat → (List ByteArray) → Int → (List Int) → Option ((Unit × Bool) × (List Int))
  | 0, _, _, _ => none
  | n + 1, t0, t8, o100 =>
    cond (decide (t8 < (List.length t0 : Int)))
      ((rdL t0 t8).bind fun y1 =>
       cond (lim (List.length o100 + List.length (strInts y1))) ((spec_l10Pack.l10 k n) t0 (IntKind.wrap .i64 (t8 + 1)) (o100 ++ (strInts y1))) none)
      (some (((), true), o100))

def spec_l10Pack.l3 (k : Nat) : Nat → (List ByteArray) → Int → (List Int) → Option ((Unit × Bool) × (List Int))
  | 0, _, _, _ => none
  | n + 1, t0, t5, o100 =>
    cond (decide (t5 < (List.length t0 : Int)))
      ((rdL t0 t5).bind fun y2 =>
       cond (lim (List.length o100 + List.length [(y2.size : Int)])) (
       (spec_l10Pack.l3 k n) t0 (IntKind.wrap .i64 (t5 + 1)) (o100 ++ [(y2.size : Int)])) none)
      ((spec_DeltaPack k o100).bind fun r3 => cond (!r3.1.2) (some (((), false), [])) (spec_l10Pack.l10 k k t0 0 r3.2))

def spec_l10Pack (k : Nat) (t0 : List ByteArray) : Option ((Unit × Bool) × (List Int)) :=
  spec_l10Pack.l3 k k t0 0 []

def spec_FrontPack.l6 (k : Nat) : Nat → (List TVal) → ByteArray → Int → (List Int) → (List ByteArray) → Option ((Unit × Bool) × (List Int))
  | 0, _, _, _, _, _ => none
  | n + 1, t0, t6, t7, o100, o101 =>
    cond (decide (t7 < (List.length t0 : Int)))
      ((rdL t0 t7).bind fun y1 =>
       (spec_Common k t6 y1.2.1).bind fun r2 =>
       cond (lim (List.length o100 + List.length [r2])) (
       (rdL t0 t7).bind fun y3 =>
       cond (inSl r2 (y3.2.1.size : Int) y3.2.1.size) (
       cond (lim (List.length o101 + List.length [ByteArray.extract y3.2.1 (Int.toNat r2) (Int.toNat (y3.2.1.size : Int))])) (
       (rdL t0 t7).bind fun y4 =>
       (spec_FrontPack.l6 k n) t0 y4.2.1 (IntKind.wrap .i64 (t7 + 1)) (o100 ++ [r2]) (o101 ++ [ByteArray.extract y3.2.1 (Int.toNat r2) (Int.toNat (y3.2.1.size : Int))])) none) none) none)
      ((spec_DeltaPack k o100).bind fun r5 =>
       (spec_l10Pack k o101).bind fun r6 =>
       (cond (!r5.1.2) (some (true)) (some (!r6.1.2))).bind fun b7 =>
       cond b7 (some (((), false), [])) (cond (lim (List.length r5.2 + List.length r6.2)) (some (((), true), r5.2 ++ r6.2)) none))

def spec_FrontPack (k : Nat) (t0 : List TVal) : Option ((Unit × Bool) × (List Int)) :=
  (spec_l6Vals k 6 t0).bind fun r8 => cond (!r8) (some (((), false), [])) (spec_FrontPack.l6 k k t0 (⟨#[]⟩ : ByteArray) 0 [] [])

def impl_Zag (k : Nat) (t0 : Int) : Option Int :=
  some (bits .xor .i64 (IntKind.wrap .i64 (shrI .u64 (IntKind.wrap .u64 t0) 1)) (IntKind.wrap .i64 (0 - (bits .and .i64 t0 1))))

def impl_UvarGet.c12 (k : Nat) : Option (Int × Int × Bool) :=
  some (0, 0, false)

def impl_UvarGet.l5 (k : Nat) : Nat → (List Int) → Int → Int → Int → Option (Int × Int × Bool)
  | 0, _, _, _, _ => none
  | n + 1, t0, t1, t7, t8 =>
    (cond (decide (t8 < 10)) (some (decide (t8 < (IntKind.wrap .i64 ((List.length t0 : Int) - t1))))) (some (false))).bind fun b1 =>
    cond b1
      ((rdL t0 (IntKind.wrap .i64 (t1 + t8))).bind fun y2 =>
       (cond (t8 == 9) (some (decide (y2 > 1))) (some (false))).bind fun b3 =>
       cond b3
         (impl_UvarGet.c12 k)
         (cond (decide (0 ≤ (IntKind.wrap .i64 (7 * t8)))) (
          cond (decide (y2 < 128))
            (some (IntKind.wrap .i64 (bits .or .u64 t7 (shlI .u64 (IntKind.wrap .u64 (bits .and .u8 y2 127)) (IntKind.wrap .i64 (7 * t8)))), IntKind.wrap .i64 ((IntKind.wrap .i64 (t1 + t8)) + 1), true))
            ((impl_UvarGet.l5 k n) t0 t1 (bits .or .u64 t7 (shlI .u64 (IntKind.wrap .u64 (bits .and .u8 y2 127)) (IntKind.wrap .i64 (7 * t8)))) (IntKind.wrap .i64 (t8 + 1)))) none))
      (impl_UvarGet.c12 k)

def impl_UvarGet (k : Nat) (t0 : List Int) (t1 : Int) : Option (Int × Int × Bool) :=
  cond (decide (t1 < 0)) (some (0, 0, false)) (impl_UvarGet.l5 k k t0 t1 0 0)

def impl_deltaReader_uvar (k : Nat) (o0 : TDeltaReaderB) (o10 : List Int) : Option (Int × TDeltaReaderB × (List Int)) :=
  (impl_UvarGet k o0.1 o0.2.1).bind fun r1 =>
  (cond o0.2.2.1 (some (true)) (some (!r1.2.2))).bind fun b2 =>
  cond b2 (some (0, ((o0.1, o0.2.1, true, (), ()), o10))) (some (r1.1, ((o0.1, r1.2.1, o0.2.2.1, (), ()), o10)))

def impl_deltaReader_take (k : Nat) (t1 : Int) (o0 : TDeltaReaderB) (o10 : List Int) : Option (Int × TDeltaReaderB × (List Int)) :=
  (cond o0.2.2.1 (some (true)) (some (decide (t1 > (IntKind.wrap .i64 ((List.length o0.1 : Int) - o0.2.1)))))).bind fun b1 =>
  cond b1
    (some (0, ((o0.1, o0.2.1, true, (), ()), o10)))
    (some (IntKind.wrap .i64 ((IntKind.wrap .i64 (o0.2.1 + t1)) - t1), ((o0.1, IntKind.wrap .i64 (o0.2.1 + t1), o0.2.2.1, (), ()), o10)))

def impl_BitAt (k : Nat) (t0 : List Int) (t1 : Int) : Option Int :=
  (cond (decide (t1 < 0)) (some (true)) (some (decide ((IntKind.wrap .i64 (Int.tdiv t1 8)) ≥ (List.length t0 : Int))))).bind fun b1 =>
  cond b1
    (some (-1))
    ((rdL t0 (IntKind.wrap .i64 (Int.tdiv t1 8))).bind fun y2 =>
     cond (decide (0 ≤ (Int.tmod t1 8))) (some (IntKind.wrap .i64 (bits .and .u8 (shrI .u8 y2 (Int.tmod t1 8)) 1))) none)

def impl_unpacked.l7 (k : Nat) (L3 : (List Int) → Int → Int → Int → Int → (List Int) → Option (Unit × (List Int))) : Nat → (List Int) → Int → Int → Int → Int → Int → Int → Int → Int → (List Int) → Option (Unit × (List Int))
  | 0, _, _, _, _, _, _, _, _, _, _ => none
  | n + 1, t0, t1, t3, t10, t11, t14, t15, t18, t19, o100 =>
    cond (decide (t19 < t18))
      ((impl_BitAt k t0 (IntKind.wrap .i64 ((IntKind.wrap .i64 ((IntKind.wrap .i64 (8 * t1)) + (IntKind.wrap .i64 (t10 * t3)))) + t19))).bind fun r1 =>
       cond (decide (0 ≤ t19)) (
       (impl_unpacked.l7 k L3 n) t0 t1 t3 t10 (bits .or .i64 t11 (shlI .i64 r1 t19)) t14 t15 t18 (IntKind.wrap .i64 (t19 + 1)) o100) none)
      (cond (lim (List.length o100 + List.length [t11])) (L3 t0 t1 t3 t14 (IntKind.wrap .i64 (t15 + 1)) (o100 ++ [t11])) none)

def impl_unpacked.l3 (k : Nat) : Nat → (List Int) → Int → Int → Int → Int → (List Int) → Option (Unit × (List Int))
  | 0, _, _, _, _, _, _ => none
  | n + 1, t0, t1, t3, t14, t15, o100 =>
    cond (decide (t15 < t14)) (impl_unpacked.l7 k (impl_unpacked.l3 k n) k t0 t1 t3 t15 0 t14 t15 t3 0 o100) (some ((), o100))

def impl_unpacked (k : Nat) (t0 : List Int) (t1 : Int) (t2 : Int) (t3 : Int) : Option (Unit × (List Int)) :=
  impl_unpacked.l3 k k t0 t1 t3 t2 0 []

def impl_deltaReader_mini.d7 (k : Nat) (L5 : Int → Int → Int → TDeltaReaderB → (List Int) → (List Int) → Option (Unit × TDeltaReaderB × (List Int))) (t3 : Int) (t12 : Int) (t38 : Int) (t39 : Int) (o0 : TDeltaReaderB) (o100 : List Int) (o101 : List Int) : Option (Unit × TDeltaReaderB × (List Int)) :=
  (rdL o101 (IntKind.wrap .i64 ((List.length o101 : Int) - 1))).bind fun y1 =>
  cond (lim (List.length o101 + List.length [IntKind.wrap .i64 ((IntKind.wrap .i64 (y1 + t12)) + t3)])) (
  L5 t3 t38 (IntKind.wrap .i64 (t39 + 1)) o0 o100 (o101 ++ [IntKind.wrap .i64 ((IntKind.wrap .i64 (y1 + t12)) + t3)])) none

def impl_deltaReader_mini.l5 (k : Nat) : Nat → Int → Int → Int → TDeltaReaderB → (List Int) → (List Int) → Option (Unit × TDeltaReaderB × (List Int))
  | 0, _, _, _, _, _, _ => none
  | n + 1, t3, t38, t39, o0, o100, o101 =>
    cond (decide (t39 < t38))
      ((rdL o100 t39).bind fun y2 => impl_deltaReader_mini.d7 k (impl_deltaReader_mini.l5 k n) t3 y2 t38 t39 o0 o100 o101)
      (some ((), (o0, o101)))

def impl_deltaReader_mini.c2 (k : Nat) (t1 : Int) (t2 : Int) (t3 : Int) (t4 : Int) (o0 : TDeltaReaderB) (o10 : List Int) : Option (Unit × TDeltaReaderB × (List Int)) :=
  (impl_deltaReader_take k (IntKind.wrap .i64 (Int.tdiv (IntKind.wrap .i64 (t1 * t2)) 8)) o0 o10).bind fun r3 =>
  cond r3.2.1.2.2.1
    (some ((), (r3.2.1, r3.2.2)))
    ((impl_unpacked k r3.2.1.1 r3.1 (if t4 < t1 then t4 else t1) t2).bind fun r4 =>
     impl_deltaReader_mini.l5 k k t3 (List.length r4.2 : Int) 0 r3.2.1 r4.2 r3.2.2)

def impl_deltaReader_mini (k : Nat) (t1 : Int) (t2 : Int) (t3 : Int) (t4 : Int) (o0 : TDeltaReaderB) (o10 : List Int) : Option (Unit × TDeltaReaderB × (List Int)) :=
  cond (decide (t2 > 64)) (impl_deltaReader_mini.c2 k t1 t2 t3 t4 (o0.1, o0.2.1, true, (), ()) o10) (impl_deltaReader_mini.c2 k t1 t2 t3 t4 o0 o10)

def impl_DeltaRead.d22 (k : Nat) (L20 : (List Int) → Int → Int → Int → Int → Int → Int → TDeltaReaderB → (List Int) → Option ((Unit × Int × Bool) × (List Int))) (t0 : List Int) (t9 : Int) (t10 : Int) (t12 : Int) (t13 : Int) (t14 : Int) (t15 : Int) (o100 : TDeltaReaderB) (o101 : List Int) : Option ((Unit × Int × Bool) × (List Int)) :=
  (rdL t0 (IntKind.wrap .i64 (t14 + t15))).bind fun y1 =>
  (impl_deltaReader_mini k t12 (IntKind.wrap .i64 y1) t13 (IntKind.wrap .i64 (t10 - (List.length o101 : Int))) o100 o101).bind fun r2 =>
  L20 t0 t9 t10 t12 t13 t14 (IntKind.wrap .i64 (t15 + 1)) r2.2.1 r2.2.2

def impl_DeltaRead.l20 (k : Nat) (L16 : (List Int) → Int → Int → Int → TDeltaReaderB → (List Int) → Option ((Unit × Int × Bool) × (List Int))) : Nat → (List Int) → Int → Int → Int → Int → Int → Int → TDeltaReaderB → (List Int) → Option ((Unit × Int × Bool) × (List Int))
  | 0, _, _, _, _, _, _, _, _, _ => none
  | n + 1, t0, t9, t10, t12, t13, t14, t15, o100, o101 =>
    (cond (decide (t15 < t9)) (some (decide ((List.length o101 : Int) < t10))) (some (false))).bind fun b3 =>
    (cond b3 (some (!o100.2.2.1)) (some (false))).bind fun b4 =>
    cond b4 (impl_DeltaRead.d22 k (impl_DeltaRead.l20 k L16 n) t0 t9 t10 t12 t13 t14 t15 o100 o101) (L16 t0 t9 t10 t12 o100 o101)

def impl_DeltaRead.l16 (k : Nat) : Nat → (List Int) → Int → Int → Int → TDeltaReaderB → (List Int) → Option ((Unit × Int × Bool) × (List Int))
  | 0, _, _, _, _, _, _ => none
  | n + 1, t0, t9, t10, t12, o100, o101 =>
    (cond (decide ((List.length o101 : Int) < t10)) (some (!o100.2.2.1)) (some (false))).bind fun b5 =>
    cond b5
      ((impl_deltaReader_uvar k o100 o101).bind fun r6 =>
       (impl_Zag k r6.1).bind fun r7 =>
       (impl_deltaReader_take k t9 r6.2.1 r6.2.2).bind fun r8 => impl_DeltaRead.l20 k (impl_DeltaRead.l16 k n) k t0 t9 t10 t12 r7 r8.1 0 r8.2.1 r8.2.2)
      (cond o100.2.2.1 (some (((), 0, false), [])) (some (((), o100.2.1, true), o101)))

def impl_DeltaRead (k : Nat) (t0 : List Int) (t1 : Int) : Option ((Unit × Int × Bool) × (List Int)) :=
  (impl_within k t1 0 (List.length t0 : Int)).bind fun r9 =>
  cond (!r9)
    (some (((), 0, false), []))
    ((impl_deltaReader_uvar k (t0, t1, false, (), ()) []).bind fun r10 =>
     (impl_deltaReader_uvar k r10.2.1 r10.2.2).bind fun r11 =>
     (impl_deltaReader_uvar k r11.2.1 r11.2.2).bind fun r12 =>
     (impl_deltaReader_uvar k r12.2.1 r12.2.2).bind fun r13 =>
     (impl_Zag k r13.1).bind fun r14 =>
     (cond r13.2.1.2.2.1 (some (true)) ((impl_within k r10.1 128 1024).bind fun r15 => some (!r15))).bind fun b16 =>
     (cond b16 (some (true)) (some ((Int.tmod r10.1 128) != 0))).bind fun b17 =>
     (cond b17 (some (true)) ((impl_within k r11.1 1 r10.1).bind fun r18 => some (!r18))).bind fun b19 =>
     (cond b19 (some (true)) ((impl_within k r12.1 0 2000).bind fun r20 => some (!r20))).bind fun b21 =>
     cond b21
       (some (((), 0, false), []))
       (cond (decide (r11.1 ≠ 0)) (
        (cond ((Int.tmod r10.1 r11.1) != 0)
           (some (true))
           (cond (decide (r11.1 ≠ 0)) (some ((Int.tmod (IntKind.wrap .i64 (Int.tdiv r10.1 r11.1)) 32) != 0)) none)).bind fun b22 =>
        cond b22
          (some (((), 0, false), []))
          (cond (r12.1 == 0)
             (some (((), r13.2.1.2.1, true), []))
             (cond (decide (r11.1 ≠ 0)) (impl_DeltaRead.l16 k k t0 r11.1 r12.1 (IntKind.wrap .i64 (Int.tdiv r10.1 r11.1)) r13.2.1 [r14]) none))) none))

def impl_LengthRead.l6 (k : Nat) : Nat → (List Int) → Int → Int → Int → (List TVal) → (List Int) → Option ((Unit × Int × Bool) × (List TVal))
  | 0, _, _, _, _, _, _ => none
  | n + 1, t0, t8, t24, t25, o100, o101 =>
    cond (decide (t25 < t24))
      ((rdL o101 t25).bind fun y1 =>
       (impl_within k y1 0 40).bind fun r2 =>
       (cond (!r2) (some (true)) (some (decide (y1 > (IntKind.wrap .i64 ((List.length t0 : Int) - t8)))))).bind fun b3 =>
       cond b3
         (some (((), 0, false), []))
         (cond (inSl t8 (IntKind.wrap .i64 (t8 + y1)) (List.length t0)) (
          cond (lim (List.length o100 + List.length [(0, intsStr (cutL t0 t8 (IntKind.wrap .i64 (t8 + y1))), ())])) (
          (impl_LengthRead.l6 k n) t0 (IntKind.wrap .i64 (t8 + y1)) t24 (IntKind.wrap .i64 (t25 + 1)) (o100 ++ [(0, intsStr (cutL t0 t8 (IntKind.wrap .i64 (t8 + y1))), ())]) o101) none) none))
      (some (((), t8, true), o100))

def impl_LengthRead (k : Nat) (t0 : List Int) (t1 : Int) : Option ((Unit × Int × Bool) × (List TVal)) :=
  (impl_DeltaRead k t0 t1).bind fun r4 =>
  cond (!r4.1.2.2) (some (((), 0, false), [])) (impl_LengthRead.l6 k k t0 r4.1.2.1 (List.length r4.2 : Int) 0 [] r4.2)

def impl_FrontRead.l10 (k : Nat) : Nat → Int → ByteArray → Int → Int → (List TVal) → (List TVal) → (List Int) → Option ((Unit × Int × Bool) × (List TVal))
  | 0, _, _, _, _, _, _, _ => none
  | n + 1, t11, t13, t43, t44, o100, o101, o102 =>
    cond (decide (t44 < t43))
      ((rdL o102 t44).bind fun y1 =>
       (impl_within k y1 0 (t13.size : Int)).bind fun r2 =>
       (cond (!r2) (some (true)) ((rdL o100 t44).bind fun y3 => some (decide ((IntKind.wrap .i64 (y1 + (y3.2.1.size : Int))) > 40)))).bind fun b4 =>
       cond b4
         (some (((), 0, false), []))
         (cond (inSl 0 y1 t13.size) (
          (rdL o100 t44).bind fun y5 =>
          cond (lim ((ByteArray.extract t13 (Int.toNat 0) (Int.toNat y1)).size + y5.2.1.size)) (
          cond (lim (List.length o101 + List.length [(0, (ByteArray.extract t13 (Int.toNat 0) (Int.toNat y1)) ++ y5.2.1, ())])) (
          (impl_FrontRead.l10 k n) t11 ((ByteArray.extract t13 (Int.toNat 0) (Int.toNat y1)) ++ y5.2.1) t43 (IntKind.wrap .i64 (t44 + 1)) o100 (o101 ++ [(0, (ByteArray.extract t13 (Int.toNat 0) (Int.toNat y1)) ++ y5.2.1, ())]) o102) none) none) none))
      (some (((), t11, true), o101))

def impl_FrontRead (k : Nat) (t0 : List Int) (t1 : Int) : Option ((Unit × Int × Bool) × (List TVal)) :=
  (impl_DeltaRead k t0 t1).bind fun r6 =>
  cond (!r6.1.2.2)
    (some (((), 0, false), []))
    ((impl_LengthRead k t0 r6.1.2.1).bind fun r7 =>
     (cond (!r7.1.2.2) (some (true)) (some ((List.length r7.2 : Int) != (List.length r6.2 : Int)))).bind fun b8 =>
     cond b8 (some (((), 0, false), [])) (impl_FrontRead.l10 k k r7.1.2.1 (⟨#[]⟩ : ByteArray) (List.length r6.2 : Int) 0 r7.2 [] r6.2))

def laws_sameVals.l4 (k : Nat) : Nat → (List TVal) → (List TVal) → Int → Option Bool
  | 0, _, _, _ => none
  | n + 1, t0, t1, t5 =>
    cond (decide (t5 < (List.length t0 : Int)))
      ((rdL t0 t5).bind fun y1 =>
       (rdL t1 t5).bind fun y2 =>
       cond (!(((y1.1 == y2.1) && (eqS y1.2.1 y2.2.1 && true)))) (some false) ((laws_sameVals.l4 k n) t0 t1 (IntKind.wrap .i64 (t5 + 1))))
      (some true)

def laws_sameVals (k : Nat) (t0 : List TVal) (t1 : List TVal) : Option Bool :=
  cond ((List.length t0 : Int) != (List.length t1 : Int)) (some false) (laws_sameVals.l4 k k t0 t1 0)

def laws_FnTexts (k : Nat) (t0 : List Int) : Option Bool :=
  (laws_big k t0).bind fun r1 =>
  cond r1
    (some true)
    ((spec_DrawFrontPack k t0).bind fun r2 =>
     (impl_LengthPack k r2.2).bind fun r3 =>
     (impl_FrontPack k r2.2).bind fun r4 =>
     (spec_FrontPack k r2.2).bind fun r5 =>
     (cond (!(r3.1.2 == r5.1.2)) (some (true)) (some (!(r4.1.2 == r5.1.2)))).bind fun b6 =>
     cond b6
       (some false)
       (cond (!r3.1.2)
          ((cond ((List.length r3.2 : Int) == 0) (some ((List.length r4.2 : Int) == 0)) (some (false))).bind fun b7 => some b7)
          (cond (lim ((0 : Nat) + List.length r3.2)) (
           cond (lim (List.length ([] ++ r3.2) + List.length [1])) (
           (impl_LengthRead k (([] ++ r3.2) ++ [1]) 0).bind fun r8 =>
           cond (lim ((0 : Nat) + List.length r4.2)) (
           cond (lim (List.length ([] ++ r4.2) + List.length [1])) (
           (impl_FrontRead k (([] ++ r4.2) ++ [1]) 0).bind fun r9 =>
           (cond r8.1.2.2 (some (r8.1.2.1 == (List.length r3.2 : Int))) (some (false))).bind fun b10 =>
           (cond b10 ((laws_sameVals k r8.2 r2.2).bind fun r11 => some (r11)) (some (false))).bind fun b12 =>
           (cond b12 (some (r9.1.2.2)) (some (false))).bind fun b13 =>
           (cond b13 (some (r9.1.2.1 == (List.length r4.2 : Int))) (some (false))).bind fun b14 =>
           (cond b14 ((laws_sameVals k r9.2 r2.2).bind fun r15 => some (r15)) (some (false))).bind fun b16 => some b16) none) none) none) none)))

end Go.Fn
