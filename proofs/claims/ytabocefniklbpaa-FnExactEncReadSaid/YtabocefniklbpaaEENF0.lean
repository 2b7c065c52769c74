/- Clean functions, printed by program. -/
import Derived.Test.YtabocefniklbpaaAmStep
set_option linter.unusedVariables false
namespace Go.Fn
open Go.Am

abbrev TLeaf := Int × Int × Int × Unit
abbrev TVal := Int × ByteArray × Unit
abbrev TL1Cur := (List Int) × Int × Int × Unit
abbrev TCol := ByteArray × Int × Int × Int × Unit
abbrev TDeltaReaderB := (List Int) × Int × Bool × Unit × Unit
abbrev TRec := (List TVal) × Unit
abbrev TTriple := Int × Int × TVal × Unit
abbrev TDeltaReader := (List Int) × Int × Bool × (List Int) × Unit
abbrev TConfig := Int × Bool × Int × Int × Int × (List Int) × Unit
abbrev TPred := Int × Int × TVal × Int × Int × Unit
abbrev TColumn := (List TTriple) × Unit
abbrev TStats := Int × Bool × TVal × TVal × Unit
abbrev TKnown := Bool × TStats × Unit
abbrev TWalker := (List TCol) × (List TVal) × Bool × Unit × Unit × Unit

def laws_szVal (k : Nat) (t0 : TVal) (t1 : Int) : Option Int :=
  cond (decide ((IntKind.wrap .i64 (t1 - (t0.2.1.size : Int))) < 0)) (some (-1)) (some (IntKind.wrap .i64 (t1 - (t0.2.1.size : Int))))

def laws_szValS.l5 (k : Nat) : Nat → (List TVal) → Int → Int → Option Int
  | 0, _, _, _ => none
  | n + 1, t0, t1, t5 =>
    cond (decide (t5 < (List.length t0 : Int))) ((rdL t0 t5).bind fun y1 => (laws_szVal k y1 t1).bind fun r2 => cond (decide (r2 < 0)) (some (-1)) ((laws_szValS.l5 k n) t0 r2 (IntKind.wrap .i64 (t5 + 1)))) (some t1)

def laws_szValS (k : Nat) (t0 : List TVal) (t1 : Int) : Option Int :=
  cond (decide ((IntKind.wrap .i64 (t1 - (List.length t0 : Int))) < 0)) (some (-1)) (laws_szValS.l5 k k t0 (IntKind.wrap .i64 (t1 - (List.length t0 : Int))) 0)

def spec_l5Type.c7 (k : Nat) (t4 : Bool) : Option Bool :=
  cond t4 (some true) (some false)

def spec_l5Type (k : Nat) (t0 : Int) : Option Bool :=
  cond (t0 == 0) (spec_l5Type.c7 k (t0 == 0)) (cond (t0 == 1) (spec_l5Type.c7 k (t0 == 1)) (cond (t0 == 2) (spec_l5Type.c7 k (t0 == 2)) (cond (t0 == 5) (spec_l5Type.c7 k (t0 == 5)) (spec_l5Type.c7 k (t0 == 6)))))

def spec_SplitWide.c6 (k : Nat) (t6 : Bool) : Option Int :=
  cond t6 (some 8) (some 0)

def spec_SplitWide (k : Nat) (t0 : Int) : Option Int :=
  cond (t0 == 1) (some 4) (cond (t0 == 2) (spec_SplitWide.c6 k (t0 == 2)) (spec_SplitWide.c6 k (t0 == 5)))

def spec_EncOk.c13 (k : Nat) (t1 : Int) (t8 : Int) (t24 : Bool) : Option Bool :=
  cond t24 (some (t1 == 6)) (cond (t8 == 9) ((spec_SplitWide k t1).bind fun r1 => some (decide (r1 > 0))) (some false))

def spec_EncOk.c6 (k : Nat) (t1 : Int) (t8 : Int) (t9 : Bool) : Option Bool :=
  cond t9 (some true) (cond (t8 == 3) (some (t1 == 0)) (cond (t8 == 5) ((cond (t1 == 1) (some (true)) (some (t1 == 2))).bind fun b2 => some b2) (cond (t8 == 6) (spec_EncOk.c13 k t1 t8 (t8 == 6)) (spec_EncOk.c13 k t1 t8 (t8 == 7)))))

def spec_EncOk (k : Nat) (t0 : Int) (t1 : Int) : Option Bool :=
  (spec_l5Type k t1).bind fun r3 => cond (!r3) (some false) (cond (t0 == 0) (spec_EncOk.c6 k t1 t0 (t0 == 0)) (spec_EncOk.c6 k t1 t0 (t0 == 8)))

def spec_l1In (k : Nat) (t0 : Int) (t1 : Int) (t2 : Int) : Option Bool :=
  (cond (decide (t0 ≥ t1)) (some (decide (t0 ≤ t2))) (some (false))).bind fun b1 => some b1

def spec_BitsSize (k : Nat) (t0 : Int) (t1 : Int) : Option Int :=
  (spec_l1In k t0 0 2000).bind fun r1 => (cond (!r1) (some (true)) ((spec_l1In k t1 0 62).bind fun r2 => some (!r2))).bind fun b3 => cond b3 (some (-1)) (some (IntKind.wrap .i64 (Int.tdiv (IntKind.wrap .i64 ((IntKind.wrap .i64 (t0 * t1)) + 7)) 8)))

def spec_l1Bit (k : Nat) (t0 : List Int) (t1 : Int) : Option Int :=
  (rdL t0 (IntKind.wrap .i64 (Int.tdiv t1 8))).bind fun y1 => cond (decide (0 ≤ (Int.tmod t1 8))) (some (bits .and .i64 (shrI .i64 (IntKind.wrap .i64 y1) (Int.tmod t1 8)) 1)) none

def spec_BitsRead.l10 (k : Nat) (L6 : (List Int) → Int → Int → Int → Int → Int → (List Int) → Option ((Unit × Int × Bool) × (List Int))) : Nat → (List Int) → Int → Int → Int → Int → Int → Int → Int → (List Int) → Option ((Unit × Int × Bool) × (List Int))
  | 0, _, _, _, _, _, _, _, _, _ => none
  | n + 1, t0, t1, t2, t3, t12, t13, t14, t15, o100 =>
    cond (decide (t15 < t3)) ((spec_l1Bit k t0 (IntKind.wrap .i64 ((IntKind.wrap .i64 ((IntKind.wrap .i64 (8 * t1)) + (IntKind.wrap .i64 (t13 * t3)))) + t15))).bind fun r1 => cond (decide (0 ≤ t15)) ((spec_BitsRead.l10 k L6 n) t0 t1 t2 t3 t12 t13 (bits .or .i64 t14 (shlI .i64 r1 t15)) (IntKind.wrap .i64 (t15 + 1)) o100) none) (cond (lim (List.length o100 + List.length [t14])) (L6 t0 t1 t2 t3 t12 (IntKind.wrap .i64 (t13 + 1)) (o100 ++ [t14])) none)

def spec_BitsRead.l6 (k : Nat) : Nat → (List Int) → Int → Int → Int → Int → Int → (List Int) → Option ((Unit × Int × Bool) × (List Int))
  | 0, _, _, _, _, _, _, _ => none
  | n + 1, t0, t1, t2, t3, t12, t13, o100 =>
    cond (decide (t13 < t2)) (spec_BitsRead.l10 k (spec_BitsRead.l6 k n) k t0 t1 t2 t3 t12 t13 0 0 o100) (some (((), IntKind.wrap .i64 (t1 + t12), true), o100))

def spec_BitsRead (k : Nat) (t0 : List Int) (t1 : Int) (t2 : Int) (t3 : Int) : Option ((Unit × Int × Bool) × (List Int)) :=
  (spec_BitsSize k t2 t3).bind fun r2 => (cond (decide (r2 < 0)) (some (true)) ((spec_l1In k t1 0 (List.length t0 : Int)).bind fun r3 => some (!r3))).bind fun b4 => (cond b4 (some (true)) (some (decide ((IntKind.wrap .i64 ((List.length t0 : Int) - t1)) < r2)))).bind fun b5 => cond b5 (some (((), 0, false), [])) (spec_BitsRead.l6 k k t0 t1 t2 t3 r2 0 [])

def spec_WordGet.l5 (k : Nat) : Nat → (List Int) → Int → Int → Int → Int → Option (Int × Int × Bool)
  | 0, _, _, _, _, _ => none
  | n + 1, t0, t1, t2, t9, t10 =>
    cond (decide (t10 < t2)) ((rdL t0 (IntKind.wrap .i64 (t1 + t10))).bind fun y1 => cond (decide (0 ≤ (IntKind.wrap .i64 (8 * t10)))) ((spec_WordGet.l5 k n) t0 t1 t2 (bits .or .i64 t9 (shlI .i64 (IntKind.wrap .i64 y1) (IntKind.wrap .i64 (8 * t10)))) (IntKind.wrap .i64 (t10 + 1))) none) (some (t9, IntKind.wrap .i64 (t1 + t2), true))

def spec_WordGet (k : Nat) (t0 : List Int) (t1 : Int) (t2 : Int) : Option (Int × Int × Bool) :=
  (spec_l1In k t2 1 8).bind fun r2 => (cond (!r2) (some (true)) (some (decide (t1 < 0)))).bind fun b3 => (cond b3 (some (true)) (some (decide (t1 > (List.length t0 : Int))))).bind fun b4 => (cond b4 (some (true)) (some (decide ((IntKind.wrap .i64 ((List.length t0 : Int) - t1)) < t2)))).bind fun b5 => cond b5 (some (0, 0, false)) (spec_WordGet.l5 k k t0 t1 t2 0 0)

def spec_l7One.c6 (k : Nat) (t9 : Int) (t10 : Int) (t11 : Bool) (o100 : TVal) : Option (TVal × Int × Bool) :=
  some ((t9, (⟨#[]⟩ : ByteArray), ()), t10, t11)

def spec_l7One (k : Nat) (t0 : Int) (t1 : List Int) (t2 : Int) : Option (TVal × Int × Bool) :=
  cond (t0 == 1) ((spec_WordGet k t1 t2 4).bind fun r1 => cond (decide (r1.1 > 2147483647)) (spec_l7One.c6 k (IntKind.wrap .i64 (r1.1 - 4294967296)) r1.2.1 r1.2.2 (0, (⟨#[]⟩ : ByteArray), ())) (spec_l7One.c6 k r1.1 r1.2.1 r1.2.2 (0, (⟨#[]⟩ : ByteArray), ()))) (cond (t0 == 6) ((spec_WordGet k t1 t2 4).bind fun r2 => (cond (!r2.2.2) (some (true)) (some (decide (r2.1 > 40)))).bind fun b3 => (cond b3 (some (true)) (some (decide (r2.1 > (IntKind.wrap .i64 ((List.length t1 : Int) - r2.2.1)))))).bind fun b4 => cond b4 (some ((0, (⟨#[]⟩ : ByteArray), ()), 0, false)) (cond (inSl r2.2.1 (IntKind.wrap .i64 (r2.2.1 + r2.1)) (List.length t1)) (some ((0, intsStr (cutL t1 r2.2.1 (IntKind.wrap .i64 (r2.2.1 + r2.1))), ()), IntKind.wrap .i64 (r2.2.1 + r2.1), true)) none)) ((spec_WordGet k t1 t2 8).bind fun r5 => some ((r5.1, (⟨#[]⟩ : ByteArray), ()), r5.2.1, r5.2.2)))

def spec_PlainRead.l12 (k : Nat) : Nat → Int → (List Int) → Int → Int → Int → (List TVal) → Option ((Unit × Int × Bool) × (List TVal))
  | 0, _, _, _, _, _, _ => none
  | n + 1, t0, t1, t2, t3, t16, o100 =>
    cond (decide (t16 < t3)) ((spec_l7One k t0 t1 t2).bind fun r1 => cond (!r1.2.2) (some (((), 0, false), [])) (cond (lim (List.length o100 + List.length [r1.1])) ((spec_PlainRead.l12 k n) t0 t1 r1.2.1 t3 (IntKind.wrap .i64 (t16 + 1)) (o100 ++ [r1.1])) none)) (some (((), t2, true), o100))

def spec_PlainRead.l7 (k : Nat) : Nat → Int → Bool → Int → (List TVal) → (List Int) → Option ((Unit × Int × Bool) × (List TVal))
  | 0, _, _, _, _, _ => none
  | n + 1, t13, t14, t15, o100, o101 =>
    cond (decide (t15 < (List.length o101 : Int))) ((rdL o101 t15).bind fun y2 => cond (lim (List.length o100 + List.length ([(y2, (⟨#[]⟩ : ByteArray), ())] : List TVal))) ((spec_PlainRead.l7 k n) t13 t14 (IntKind.wrap .i64 (t15 + 1)) (o100 ++ [(y2, (⟨#[]⟩ : ByteArray), ())]) o101) none) (some (((), t13, t14), o100))

def spec_PlainRead (k : Nat) (t0 : Int) (t1 : List Int) (t2 : Int) (t3 : Int) : Option ((Unit × Int × Bool) × (List TVal)) :=
  (spec_l5Type k t0).bind fun r3 => (cond (!r3) (some (true)) ((spec_l1In k t3 0 2000).bind fun r4 => some (!r4))).bind fun b5 => (cond b5 (some (true)) ((spec_l1In k t2 0 (List.length t1 : Int)).bind fun r6 => some (!r6))).bind fun b7 => cond b7 (some (((), 0, false), [])) (cond (t0 == 0) ((spec_BitsRead k t1 t2 t3 1).bind fun r8 => spec_PlainRead.l7 k k r8.1.2.1 r8.1.2.2 0 [] r8.2) (spec_PlainRead.l12 k k t0 t1 t2 t3 0 []))

def spec_l8Width (k : Nat) (t0 : Int) : Option Bool :=
  (spec_l1In k t0 0 24).bind fun r1 => some r1

def spec_UvarGet.l5 (k : Nat) : Nat → (List Int) → Int → Int → Int → Option (Int × Int × Bool)
  | 0, _, _, _, _ => none
  | n + 1, t0, t1, t7, t8 =>
    (cond (decide (t8 < 10)) (some (decide ((IntKind.wrap .i64 (t1 + t8)) < (List.length t0 : Int)))) (some (false))).bind fun b1 => cond b1 ((rdL t0 (IntKind.wrap .i64 (t1 + t8))).bind fun y2 => cond (decide (0 ≤ (IntKind.wrap .i64 (7 * t8)))) (cond (decide ((IntKind.wrap .i64 y2) < 128)) ((cond (t8 == 9) (some (decide ((IntKind.wrap .i64 y2) > 1))) (some (false))).bind fun b3 => cond b3 (some (0, 0, false)) (some (bits .or .i64 t7 (shlI .i64 (bits .and .i64 (IntKind.wrap .i64 y2) 127) (IntKind.wrap .i64 (7 * t8))), IntKind.wrap .i64 ((IntKind.wrap .i64 (t1 + t8)) + 1), true))) ((spec_UvarGet.l5 k n) t0 t1 (bits .or .i64 t7 (shlI .i64 (bits .and .i64 (IntKind.wrap .i64 y2) 127) (IntKind.wrap .i64 (7 * t8)))) (IntKind.wrap .i64 (t8 + 1)))) none) (some (0, 0, false))

def spec_UvarGet (k : Nat) (t0 : List Int) (t1 : Int) : Option (Int × Int × Bool) :=
  (cond (decide (t1 < 0)) (some (true)) (some (decide (t1 ≥ (List.length t0 : Int))))).bind fun b4 => cond b4 (some (0, 0, false)) (spec_UvarGet.l5 k k t0 t1 0 0)

def spec_l2Down (k : Nat) (t0 : Int) (t1 : Int) : Option Int :=
  cond (t1 == 0) (some t0) (cond (decide (0 ≤ t1)) (cond (decide (0 ≤ (IntKind.wrap .i64 (64 - t1)))) (some (bits .and .i64 (shrI .i64 t0 t1) (IntKind.wrap .i64 ((shlI .i64 1 (IntKind.wrap .i64 (64 - t1))) - 1)))) none) none)

def spec_RunRead.l29 (k : Nat) (L25 : (List Int) → Int → Int → Int → Int → Int → (List Int) → Option ((Unit × Int × Bool) × (List Int))) : Nat → (List Int) → Int → Int → Int → Int → Int → Int → Int → (List Int) → Option ((Unit × Int × Bool) × (List Int))
  | 0, _, _, _, _, _, _, _, _, _ => none
  | n + 1, t0, t2, t3, t13, t15, t21, t22, t23, o100 =>
    cond (decide (t23 < t3)) ((spec_l1Bit k t0 (IntKind.wrap .i64 ((IntKind.wrap .i64 ((IntKind.wrap .i64 (8 * t13)) + (IntKind.wrap .i64 (t21 * t3)))) + t23))).bind fun r1 => cond (decide (0 ≤ t23)) ((spec_RunRead.l29 k L25 n) t0 t2 t3 t13 t15 t21 (bits .or .i64 t22 (shlI .i64 r1 t23)) (IntKind.wrap .i64 (t23 + 1)) o100) none) (cond (lim (List.length o100 + List.length [t22])) (L25 t0 t2 t3 t13 t15 (IntKind.wrap .i64 (t21 + 1)) (o100 ++ [t22])) none)

def spec_RunRead.l25 (k : Nat) (L4 : (List Int) → Int → Int → Int → (List Int) → Option ((Unit × Int × Bool) × (List Int))) : Nat → (List Int) → Int → Int → Int → Int → Int → (List Int) → Option ((Unit × Int × Bool) × (List Int))
  | 0, _, _, _, _, _, _, _ => none
  | n + 1, t0, t2, t3, t13, t15, t21, o100 =>
    (cond (decide (t21 < (IntKind.wrap .i64 (8 * t15)))) (some (decide ((List.length o100 : Int) < t2))) (some (false))).bind fun b2 => cond b2 (spec_RunRead.l29 k (spec_RunRead.l25 k L4 n) k t0 t2 t3 t13 t15 t21 0 0 o100) (L4 t0 (IntKind.wrap .i64 (t13 + (IntKind.wrap .i64 (t15 * t3)))) t2 t3 o100)

def spec_RunRead.l18 (k : Nat) (L4 : (List Int) → Int → Int → Int → (List Int) → Option ((Unit × Int × Bool) × (List Int))) : Nat → (List Int) → Int → Int → Int → Int → Int → Int → (List Int) → Option ((Unit × Int × Bool) × (List Int))
  | 0, _, _, _, _, _, _, _, _ => none
  | n + 1, t0, t2, t3, t13, t15, t16, t20, o100 =>
    (cond (decide (t20 < t15)) (some (decide ((List.length o100 : Int) < t2))) (some (false))).bind fun b3 => cond b3 (cond (lim (List.length o100 + List.length [t16])) ((spec_RunRead.l18 k L4 n) t0 t2 t3 t13 t15 t16 (IntKind.wrap .i64 (t20 + 1)) (o100 ++ [t16])) none) (L4 t0 t13 t2 t3 o100)

def spec_RunRead.c17 (k : Nat) (L4 : (List Int) → Int → Int → Int → (List Int) → Option ((Unit × Int × Bool) × (List Int))) (t0 : List Int) (t2 : Int) (t3 : Int) (t13 : Int) (t15 : Int) (t16 : Int) (o100 : List Int) : Option ((Unit × Int × Bool) × (List Int)) :=
  spec_RunRead.l18 k L4 k t0 t2 t3 t13 t15 t16 0 o100

def spec_RunRead.l4 (k : Nat) : Nat → (List Int) → Int → Int → Int → (List Int) → Option ((Unit × Int × Bool) × (List Int))
  | 0, _, _, _, _, _ => none
  | n + 1, t0, t1, t2, t3, o100 =>
    cond (decide ((List.length o100 : Int) < t2)) ((spec_UvarGet k t0 t1).bind fun r4 => (spec_l2Down k r4.1 1).bind fun r5 => cond (!r4.2.2) (some (((), 0, false), [])) (cond ((bits .and .i64 r4.1 1) == 0) (cond (decide (t3 > 0)) ((spec_BitsSize k 1 t3).bind fun r6 => (spec_WordGet k t0 r4.2.1 r6).bind fun r7 => (cond (!r7.2.2) (some (true)) (cond (decide (0 ≤ t3)) (some ((shrI .i64 r7.1 t3) != 0)) none)).bind fun b8 => cond b8 (some (((), 0, false), [])) (spec_RunRead.c17 k (spec_RunRead.l4 k n) t0 t2 t3 r7.2.1 r5 r7.1 o100)) (spec_RunRead.c17 k (spec_RunRead.l4 k n) t0 t2 t3 r4.2.1 r5 0 o100)) ((cond (decide (r5 > 2000)) (some (true)) (some (decide ((IntKind.wrap .i64 ((List.length t0 : Int) - r4.2.1)) < (IntKind.wrap .i64 (r5 * t3)))))).bind fun b9 => cond b9 (some (((), 0, false), [])) (spec_RunRead.l25 k (spec_RunRead.l4 k n) k t0 t2 t3 r4.2.1 r5 0 o100)))) (some (((), t1, true), o100))

def spec_RunRead (k : Nat) (t0 : List Int) (t1 : Int) (t2 : Int) (t3 : Int) : Option ((Unit × Int × Bool) × (List Int)) :=
  (spec_l8Width k t3).bind fun r10 => (cond (!r10) (some (true)) ((spec_l1In k t2 0 2000).bind fun r11 => some (!r11))).bind fun b12 => (cond b12 (some (true)) ((spec_l1In k t1 0 (List.length t0 : Int)).bind fun r13 => some (!r13))).bind fun b14 => cond b14 (some (((), 0, false), [])) (spec_RunRead.l4 k k t0 t1 t2 t3 [])

def spec_l16Vals.l3 (k : Nat) : Nat → (List Int) → Int → (List TVal) → Option (Unit × (List TVal))
  | 0, _, _, _ => none
  | n + 1, t0, t4, o100 =>
    cond (decide (t4 < (List.length t0 : Int))) ((rdL t0 t4).bind fun y1 => cond (lim (List.length o100 + List.length ([(y1, (⟨#[]⟩ : ByteArray), ())] : List TVal))) ((spec_l16Vals.l3 k n) t0 (IntKind.wrap .i64 (t4 + 1)) (o100 ++ [(y1, (⟨#[]⟩ : ByteArray), ())])) none) (some ((), o100))

def spec_l16Vals (k : Nat) (t0 : List Int) : Option (Unit × (List TVal)) :=
  spec_l16Vals.l3 k k t0 0 []

def spec_Zag (k : Nat) (t0 : Int) : Option Int :=
  cond ((bits .and .i64 t0 1) == 1) ((spec_l2Down k t0 1).bind fun r1 => some (bits .xor .i64 (-1) r1)) ((spec_l2Down k t0 1).bind fun r2 => some r2)

def spec_ZigGet (k : Nat) (t0 : List Int) (t1 : Int) : Option (Int × Int × Bool) :=
  (spec_UvarGet k t0 t1).bind fun r1 => cond (!r1.2.2) (some (0, 0, false)) ((spec_Zag k r1.1).bind fun r2 => some (r2, r1.2.1, true))

def spec_l9Mini.l9 (k : Nat) (L5 : (List Int) → Int → Int → Int → Int → (List Int) → Option ((Unit × Int × Bool) × (List Int))) : Nat → (List Int) → Int → Int → Int → Int → Int → Int → (List Int) → Option ((Unit × Int × Bool) × (List Int))
  | 0, _, _, _, _, _, _, _, _ => none
  | n + 1, t0, t1, t2, t3, t12, t13, t14, o100 =>
    cond (decide (t14 < t3)) ((spec_l1Bit k t0 (IntKind.wrap .i64 ((IntKind.wrap .i64 ((IntKind.wrap .i64 (8 * t1)) + (IntKind.wrap .i64 (t12 * t3)))) + t14))).bind fun r1 => cond (decide (0 ≤ t14)) ((spec_l9Mini.l9 k L5 n) t0 t1 t2 t3 t12 (bits .or .i64 t13 (shlI .i64 r1 t14)) (IntKind.wrap .i64 (t14 + 1)) o100) none) (cond (lim (List.length o100 + List.length [t13])) (L5 t0 t1 t2 t3 (IntKind.wrap .i64 (t12 + 1)) (o100 ++ [t13])) none)

def spec_l9Mini.l5 (k : Nat) : Nat → (List Int) → Int → Int → Int → Int → (List Int) → Option ((Unit × Int × Bool) × (List Int))
  | 0, _, _, _, _, _, _ => none
  | n + 1, t0, t1, t2, t3, t12, o100 =>
    cond (decide (t12 < t2)) (spec_l9Mini.l9 k (spec_l9Mini.l5 k n) k t0 t1 t2 t3 t12 0 0 o100) (some (((), IntKind.wrap .i64 (t1 + (IntKind.wrap .i64 (Int.tdiv (IntKind.wrap .i64 (t2 * t3)) 8))), true), o100))

def spec_l9Mini (k : Nat) (t0 : List Int) (t1 : Int) (t2 : Int) (t3 : Int) : Option ((Unit × Int × Bool) × (List Int)) :=
  (cond (decide (t3 > 64)) (some (true)) (some (decide ((IntKind.wrap .i64 ((List.length t0 : Int) - t1)) < (IntKind.wrap .i64 (Int.tdiv (IntKind.wrap .i64 (t2 * t3)) 8)))))).bind fun b2 => cond b2 (some (((), 0, false), [])) (spec_l9Mini.l5 k k t0 t1 t2 t3 0 [])

def spec_DeltaRead.d28 (k : Nat) (L26 : (List Int) → Int → Int → Int → Int → Int → Int → Int → Int → (List Int) → (List Int) → (List Int) → Option ((Unit × Int × Bool) × (List Int))) (t0 : List Int) (t1 : Int) (t8 : Int) (t10 : Int) (t12 : Int) (t17 : Int) (t18 : Int) (t20 : Int) (t24 : Int) (o100 : List Int) (o101 : List Int) (o102 : List Int) : Option ((Unit × Int × Bool) × (List Int)) :=
  (rdL o101 (IntKind.wrap .i64 ((List.length o101 : Int) - 1))).bind fun y1 => (rdL o102 t24).bind fun y2 => cond (lim (List.length o101 + List.length [IntKind.wrap .i64 ((IntKind.wrap .i64 (y1 + y2)) + t17)])) (L26 t0 t1 t8 t10 t12 t17 t18 t20 (IntKind.wrap .i64 (t24 + 1)) o100 (o101 ++ [IntKind.wrap .i64 ((IntKind.wrap .i64 (y1 + y2)) + t17)]) o102) none

def spec_DeltaRead.l26 (k : Nat) (L19 : (List Int) → Int → Int → Int → Int → Int → Int → Int → (List Int) → (List Int) → Option ((Unit × Int × Bool) × (List Int))) : Nat → (List Int) → Int → Int → Int → Int → Int → Int → Int → Int → (List Int) → (List Int) → (List Int) → Option ((Unit × Int × Bool) × (List Int))
  | 0, _, _, _, _, _, _, _, _, _, _, _, _ => none
  | n + 1, t0, t1, t8, t10, t12, t17, t18, t20, t24, o100, o101, o102 =>
    (cond (decide (t24 < (List.length o102 : Int))) (some (decide ((List.length o101 : Int) < t12))) (some (false))).bind fun b7 => cond b7 (spec_DeltaRead.d28 k (spec_DeltaRead.l26 k L19 n) t0 t1 t8 t10 t12 t17 t18 t20 t24 o100 o101 o102) (L19 t0 t1 t8 t10 t12 t17 t18 (IntKind.wrap .i64 (t20 + 1)) o100 o101)

def spec_DeltaRead.l19 (k : Nat) (L13 : (List Int) → Int → Int → Int → Int → (List Int) → (List Int) → Option ((Unit × Int × Bool) × (List Int))) : Nat → (List Int) → Int → Int → Int → Int → Int → Int → Int → (List Int) → (List Int) → Option ((Unit × Int × Bool) × (List Int))
  | 0, _, _, _, _, _, _, _, _, _, _ => none
  | n + 1, t0, t1, t8, t10, t12, t17, t18, t20, o100, o101 =>
    (cond (decide (t20 < t10)) (some (decide ((List.length o101 : Int) < t12))) (some (false))).bind fun b8 => cond b8 (cond (decide (t10 ≠ 0)) ((rdL t0 (IntKind.wrap .i64 (t18 + t20))).bind fun y9 => (spec_l9Mini k t0 t1 (IntKind.wrap .i64 (Int.tdiv t8 t10)) (IntKind.wrap .i64 y9)).bind fun r10 => cond (!r10.1.2.2) (some (((), 0, false), o100)) (spec_DeltaRead.l26 k (spec_DeltaRead.l19 k L13 n) k t0 r10.1.2.1 t8 t10 t12 t17 t18 t20 0 o100 o101 r10.2)) none) (L13 t0 t1 t8 t10 t12 o100 o101)

def spec_DeltaRead.l13 (k : Nat) : Nat → (List Int) → Int → Int → Int → Int → (List Int) → (List Int) → Option ((Unit × Int × Bool) × (List Int))
  | 0, _, _, _, _, _, _, _ => none
  | n + 1, t0, t1, t8, t10, t12, o100, o101 =>
    cond (decide ((List.length o101 : Int) < t12)) ((spec_ZigGet k t0 t1).bind fun r11 => (cond (!r11.2.2) (some (true)) (some (decide ((IntKind.wrap .i64 ((List.length t0 : Int) - r11.2.1)) < t10)))).bind fun b12 => cond b12 (some (((), 0, false), o100)) (spec_DeltaRead.l19 k (spec_DeltaRead.l13 k n) k t0 (IntKind.wrap .i64 (r11.2.1 + t10)) t8 t10 t12 r11.1 r11.2.1 0 o100 o101)) (some (((), t1, true), o101))

def spec_DeltaRead (k : Nat) (t0 : List Int) (t1 : Int) : Option ((Unit × Int × Bool) × (List Int)) :=
  (spec_l1In k t1 0 (List.length t0 : Int)).bind fun r13 => cond (!r13) (some (((), 0, false), [])) ((spec_UvarGet k t0 t1).bind fun r14 => (spec_UvarGet k t0 r14.2.1).bind fun r15 => (spec_UvarGet k t0 r15.2.1).bind fun r16 => (spec_ZigGet k t0 r16.2.1).bind fun r17 => (cond (!r14.2.2) (some (true)) (some (!r15.2.2))).bind fun b18 => (cond b18 (some (true)) (some (!r16.2.2))).bind fun b19 => (cond b19 (some (true)) (some (!r17.2.2))).bind fun b20 => (cond b20 (some (true)) ((spec_l1In k r14.1 128 1024).bind fun r21 => some (!r21))).bind fun b22 => (cond b22 (some (true)) (some ((Int.tmod r14.1 128) != 0))).bind fun b23 => (cond b23 (some (true)) ((spec_l1In k r15.1 1 r14.1).bind fun r24 => some (!r24))).bind fun b25 => (cond b25 (some (true)) (cond (decide (r15.1 ≠ 0)) (some ((Int.tmod r14.1 r15.1) != 0)) none)).bind fun b26 => (cond b26 (some (true)) (cond (decide (r15.1 ≠ 0)) (some ((Int.tmod (IntKind.wrap .i64 (Int.tdiv r14.1 r15.1)) 32) != 0)) none)).bind fun b27 => (cond b27 (some (true)) ((spec_l1In k r16.1 0 2000).bind fun r28 => some (!r28))).bind fun b29 => cond b29 (some (((), 0, false), [])) (cond (decide (r16.1 > 0)) (cond (lim ((0 : Nat) + List.length [r17.1])) (spec_DeltaRead.l13 k k t0 r17.2.1 r14.1 r15.1 r16.1 [] ([] ++ [r17.1])) none) (spec_DeltaRead.l13 k k t0 r17.2.1 r14.1 r15.1 r16.1 [] [])))

def spec_LengthRead.l7 (k : Nat) : Nat → (List Int) → Int → Int → (List TVal) → (List Int) → (List TVal) → Option ((Unit × Int × Bool) × (List TVal))
  | 0, _, _, _, _, _, _ => none
  | n + 1, t0, t1, t11, o100, o101, o102 =>
    cond (decide (t11 < (List.length o101 : Int))) ((rdL o101 t11).bind fun y1 => (spec_l1In k y1 0 40).bind fun r2 => (cond (!r2) (some (true)) ((rdL o101 t11).bind fun y3 => some (decide (y3 > (IntKind.wrap .i64 ((List.length t0 : Int) - t1)))))).bind fun b4 => cond b4 (some (((), 0, false), o100)) ((rdL o101 t11).bind fun y5 => cond (inSl t1 (IntKind.wrap .i64 (t1 + y5)) (List.length t0)) (cond (lim (List.length o102 + List.length [(0, intsStr (cutL t0 t1 (IntKind.wrap .i64 (t1 + y5))), ())])) ((rdL o101 t11).bind fun y6 => (spec_LengthRead.l7 k n) t0 (IntKind.wrap .i64 (t1 + y6)) (IntKind.wrap .i64 (t11 + 1)) o100 o101 (o102 ++ [(0, intsStr (cutL t0 t1 (IntKind.wrap .i64 (t1 + y5))), ())])) none) none)) (some (((), t1, true), o102))

def spec_LengthRead (k : Nat) (t0 : List Int) (t1 : Int) : Option ((Unit × Int × Bool) × (List TVal)) :=
  (spec_DeltaRead k t0 t1).bind fun r7 => cond (!r7.1.2.2) (some (((), 0, false), [])) (spec_LengthRead.l7 k k t0 r7.1.2.1 0 [] r7.2 [])

def spec_FrontRead.l9 (k : Nat) : Nat → Int → ByteArray → Int → (List TVal) → (List Int) → (List TVal) → (List TVal) → Option ((Unit × Int × Bool) × (List TVal))
  | 0, _, _, _, _, _, _, _ => none
  | n + 1, t11, t14, t15, o100, o101, o102, o103 =>
    cond (decide (t15 < (List.length o101 : Int))) ((rdL o101 t15).bind fun y1 => (spec_l1In k y1 0 (t14.size : Int)).bind fun r2 => cond (!r2) (some (((), 0, false), o100)) ((rdL o101 t15).bind fun y3 => cond (inSl 0 y3 t14.size) ((rdL o102 t15).bind fun y4 => cond (lim ((ByteArray.extract t14 (Int.toNat 0) (Int.toNat y3)).size + y4.2.1.size)) (cond (decide ((((ByteArray.extract t14 (Int.toNat 0) (Int.toNat y3)) ++ y4.2.1).size : Int) > 40)) (some (((), 0, false), o100)) (cond (lim (List.length o103 + List.length [(0, (ByteArray.extract t14 (Int.toNat 0) (Int.toNat y3)) ++ y4.2.1, ())])) ((spec_FrontRead.l9 k n) t11 ((ByteArray.extract t14 (Int.toNat 0) (Int.toNat y3)) ++ y4.2.1) (IntKind.wrap .i64 (t15 + 1)) o100 o101 o102 (o103 ++ [(0, (ByteArray.extract t14 (Int.toNat 0) (Int.toNat y3)) ++ y4.2.1, ())])) none)) none) none)) (some (((), t11, true), o103))

def spec_FrontRead (k : Nat) (t0 : List Int) (t1 : Int) : Option ((Unit × Int × Bool) × (List TVal)) :=
  (spec_DeltaRead k t0 t1).bind fun r5 => (spec_LengthRead k t0 r5.1.2.1).bind fun r6 => (cond (!r5.1.2.2) (some (true)) (some (!r6.1.2.2))).bind fun b7 => (cond b7 (some (true)) (some ((List.length r5.2 : Int) != (List.length r6.2 : Int)))).bind fun b8 => cond b8 (some (((), 0, false), [])) (spec_FrontRead.l9 k k r6.1.2.1 (⟨#[]⟩ : ByteArray) 0 [] r5.2 r6.2 [])

def spec_SplitRead.c15 (k : Nat) (L6 : (List Int) → Int → Int → Int → Int → (List TVal) → Option ((Unit × Int × Bool) × (List TVal))) (t1 : List Int) (t2 : Int) (t3 : Int) (t11 : Int) (t13 : Int) (t14 : Int) (o100 : List TVal) : Option ((Unit × Int × Bool) × (List TVal)) :=
  cond (lim (List.length o100 + List.length ([(t14, (⟨#[]⟩ : ByteArray), ())] : List TVal))) (L6 t1 t2 t3 t11 (IntKind.wrap .i64 (t13 + 1)) (o100 ++ [(t14, (⟨#[]⟩ : ByteArray), ())])) none

def spec_SplitRead.l10 (k : Nat) (L6 : (List Int) → Int → Int → Int → Int → (List TVal) → Option ((Unit × Int × Bool) × (List TVal))) : Nat → (List Int) → Int → Int → Int → Int → Int → Int → (List TVal) → Option ((Unit × Int × Bool) × (List TVal))
  | 0, _, _, _, _, _, _, _, _ => none
  | n + 1, t1, t2, t3, t11, t13, t14, t15, o100 =>
    cond (decide (t15 < t11)) ((rdL t1 (IntKind.wrap .i64 ((IntKind.wrap .i64 (t2 + (IntKind.wrap .i64 (t15 * t3)))) + t13))).bind fun y1 => cond (decide (0 ≤ (IntKind.wrap .i64 (8 * t15)))) ((spec_SplitRead.l10 k L6 n) t1 t2 t3 t11 t13 (bits .or .i64 t14 (shlI .i64 (IntKind.wrap .i64 y1) (IntKind.wrap .i64 (8 * t15)))) (IntKind.wrap .i64 (t15 + 1)) o100) none) ((cond (t11 == 4) (some (decide (t14 > 2147483647))) (some (false))).bind fun b2 => cond b2 (spec_SplitRead.c15 k L6 t1 t2 t3 t11 t13 (IntKind.wrap .i64 (t14 - 4294967296)) o100) (spec_SplitRead.c15 k L6 t1 t2 t3 t11 t13 t14 o100))

def spec_SplitRead.l6 (k : Nat) : Nat → (List Int) → Int → Int → Int → Int → (List TVal) → Option ((Unit × Int × Bool) × (List TVal))
  | 0, _, _, _, _, _, _ => none
  | n + 1, t1, t2, t3, t11, t13, o100 =>
    cond (decide (t13 < t3)) (spec_SplitRead.l10 k (spec_SplitRead.l6 k n) k t1 t2 t3 t11 t13 0 0 o100) (some (((), IntKind.wrap .i64 (t2 + (IntKind.wrap .i64 (t11 * t3))), true), o100))

def spec_SplitRead (k : Nat) (t0 : Int) (t1 : List Int) (t2 : Int) (t3 : Int) : Option ((Unit × Int × Bool) × (List TVal)) :=
  (spec_SplitWide k t0).bind fun r3 => (cond (r3 == 0) (some (true)) ((spec_l1In k t3 0 2000).bind fun r4 => some (!r4))).bind fun b5 => (cond b5 (some (true)) ((spec_l1In k t2 0 (List.length t1 : Int)).bind fun r6 => some (!r6))).bind fun b7 => (cond b7 (some (true)) (some (decide ((IntKind.wrap .i64 ((List.length t1 : Int) - t2)) < (IntKind.wrap .i64 (r3 * t3)))))).bind fun b8 => cond b8 (some (((), 0, false), [])) (spec_SplitRead.l6 k k t1 t2 t3 r3 0 [])

def spec_PlacesRead.l8 (k : Nat) : Nat → Int → Int → Int → (List Int) → (List Int) → Option ((Unit × Int × Bool) × (List Int))
  | 0, _, _, _, _, _ => none
  | n + 1, t3, t13, t15, o100, o101 =>
    cond (decide (t15 < (List.length o101 : Int))) ((rdL o101 t15).bind fun y1 => cond (decide (y1 ≥ t3)) (some (((), 0, false), o100)) ((spec_PlacesRead.l8 k n) t3 t13 (IntKind.wrap .i64 (t15 + 1)) o100 o101)) (some (((), t13, true), o101))

def spec_PlacesRead (k : Nat) (t0 : List Int) (t1 : Int) (t2 : Int) (t3 : Int) : Option ((Unit × Int × Bool) × (List Int)) :=
  (cond (decide (t1 < 0)) (some (true)) (some (decide (t1 ≥ (List.length t0 : Int))))).bind fun b2 => (cond b2 (some (true)) ((rdL t0 t1).bind fun y3 => some (decide (y3 > 24)))).bind fun b4 => cond b4 (some (((), 0, false), [])) ((rdL t0 t1).bind fun y5 => (spec_RunRead k t0 (IntKind.wrap .i64 (t1 + 1)) t2 (IntKind.wrap .i64 y5)).bind fun r6 => cond (!r6.1.2.2) (some (((), 0, false), [])) (spec_PlacesRead.l8 k k t3 r6.1.2.1 0 [] r6.2))

def spec_DictAt.l5 (k : Nat) : Nat → (List TVal) → (List Int) → Int → (List TVal) → Option ((Unit × Bool) × (List TVal))
  | 0, _, _, _, _ => none
  | n + 1, t0, t1, t7, o100 =>
    cond (decide (t7 < (List.length t1 : Int))) ((rdL t1 t7).bind fun y1 => (spec_l1In k y1 0 (IntKind.wrap .i64 ((List.length t0 : Int) - 1))).bind fun r2 => cond (!r2) (some (((), false), [])) ((rdL t1 t7).bind fun y3 => (rdL t0 y3).bind fun y4 => cond (lim (List.length o100 + List.length [y4])) ((spec_DictAt.l5 k n) t0 t1 (IntKind.wrap .i64 (t7 + 1)) (o100 ++ [y4])) none)) (some (((), true), o100))

def spec_DictAt (k : Nat) (t0 : List TVal) (t1 : List Int) : Option ((Unit × Bool) × (List TVal)) :=
  cond (decide ((List.length t1 : Int) > 2000)) (some (((), false), [])) (spec_DictAt.l5 k k t0 t1 0 [])

def spec_l16Read (k : Nat) (t0 : Int) (t1 : Int) (t2 : List Int) (t3 : Int) (t4 : List TVal) : Option ((Unit × Int × Bool) × (List TVal)) :=
  cond (t0 == 0) ((spec_PlainRead k t1 t2 0 t3).bind fun r1 => some (((), r1.1.2.1, r1.1.2.2), r1.2)) (cond (t0 == 3) ((spec_WordGet k t2 0 4).bind fun r2 => (cond (!r2.2.2) (some (true)) (some (r2.1 != (IntKind.wrap .i64 ((List.length t2 : Int) - r2.2.1))))).bind fun b3 => cond b3 (some (((), 0, false), [])) ((spec_RunRead k t2 r2.2.1 t3 1).bind fun r4 => (spec_l16Vals k r4.2).bind fun r5 => some (((), r4.1.2.1, r4.1.2.2), r5.2))) (cond (t0 == 5) ((spec_DeltaRead k t2 0).bind fun r6 => (spec_l16Vals k r6.2).bind fun r7 => some (((), r6.1.2.1, r6.1.2.2), r7.2)) (cond (t0 == 6) ((spec_LengthRead k t2 0).bind fun r8 => some (((), r8.1.2.1, r8.1.2.2), r8.2)) (cond (t0 == 7) ((spec_FrontRead k t2 0).bind fun r9 => some (((), r9.1.2.1, r9.1.2.2), r9.2)) (cond (t0 == 9) ((spec_SplitRead k t1 t2 0 t3).bind fun r10 => some (((), r10.1.2.1, r10.1.2.2), r10.2)) ((cond (t3 == 0) (some ((List.length t2 : Int) == 0)) (some (false))).bind fun b11 => cond b11 (some (((), 0, true), [])) ((spec_PlacesRead k t2 0 t3 (List.length t4 : Int)).bind fun r12 => (spec_DictAt k t4 r12.2).bind fun r13 => (cond r12.1.2.2 (some (r13.1.2)) (some (false))).bind fun b14 => some (((), r12.1.2.1, b14), r13.2))))))))

def spec_l4Int (k : Nat) (t0 : Int) : Option Bool :=
  (spec_l1In k t0 (-2147483648) 2147483647).bind fun r1 => some r1

def spec_ValOk.c8 (k : Nat) (t5 : Int) (t26 : Bool) (o100 : TVal) : Option Bool :=
  cond t26 (some (eqS o100.2.1 (⟨#[]⟩ : ByteArray))) (cond (t5 == 6) ((cond (o100.1 == 0) (some (decide ((o100.2.1.size : Int) ≤ 40))) (some (false))).bind fun b1 => some b1) (some false))

def spec_ValOk (k : Nat) (t0 : Int) (t1 : TVal) : Option Bool :=
  cond (t0 == 0) ((spec_l1In k t1.1 0 1).bind fun r2 => (cond r2 (some (eqS t1.2.1 (⟨#[]⟩ : ByteArray))) (some (false))).bind fun b3 => some b3) (cond (t0 == 1) ((spec_l4Int k t1.1).bind fun r4 => (cond r4 (some (eqS t1.2.1 (⟨#[]⟩ : ByteArray))) (some (false))).bind fun b5 => some b5) (cond (t0 == 2) (spec_ValOk.c8 k t0 (t0 == 2) t1) (spec_ValOk.c8 k t0 (t0 == 5) t1)))

def spec_l6Vals.l4 (k : Nat) : Nat → Int → (List TVal) → Int → Option Bool
  | 0, _, _, _ => none
  | n + 1, t0, t1, t5 =>
    cond (decide (t5 < (List.length t1 : Int))) ((rdL t1 t5).bind fun y1 => (spec_ValOk k t0 y1).bind fun r2 => cond (!r2) (some false) ((spec_l6Vals.l4 k n) t0 t1 (IntKind.wrap .i64 (t5 + 1)))) (some true)

def spec_l6Vals (k : Nat) (t0 : Int) (t1 : List TVal) : Option Bool :=
  (cond (decide ((List.length t1 : Int) > 2000)) (some (true)) ((spec_l5Type k t0).bind fun r3 => some (!r3))).bind fun b4 => cond b4 (some false) (spec_l6Vals.l4 k k t0 t1 0)

def spec_EncRead (k : Nat) (t0 : Int) (t1 : Int) (t2 : List Int) (t3 : Int) (t4 : List TVal) : Option ((Unit × Bool) × (List TVal)) :=
  (spec_EncOk k t0 t1).bind fun r1 => (cond (!r1) (some (true)) ((spec_l1In k t3 0 2000).bind fun r2 => some (!r2))).bind fun b3 => cond b3 (some (((), false), [])) ((spec_l16Read k t0 t1 t2 t3 t4).bind fun r4 => (cond (!r4.1.2.2) (some (true)) (some (r4.1.2.1 != (List.length t2 : Int)))).bind fun b5 => (cond b5 (some (true)) (some ((List.length r4.2 : Int) != t3))).bind fun b6 => (cond b6 (some (true)) ((spec_l6Vals k t1 r4.2).bind fun r7 => some (!r7))).bind fun b8 => cond b8 (some (((), false), [])) (some (((), true), r4.2)))

def laws_toByteS.l3 (k : Nat) : Nat → (List Int) → Int → (List Int) → Option (Unit × (List Int))
  | 0, _, _, _ => none
  | n + 1, t0, t4, o100 =>
    cond (decide (t4 < (List.length t0 : Int))) ((rdL t0 t4).bind fun y1 => (rdL o100 t4).bind fun y2 => (rdL o100 t4).bind fun y3 => (laws_toByteS.l3 k n) t0 (IntKind.wrap .i64 (t4 + 1)) (List.set o100 (Int.toNat t4) y1)) (some ((), o100))

def laws_toByteS (k : Nat) (t0 : List Int) : Option (Unit × (List Int)) :=
  cond (okLen (List.length t0 : Int)) (laws_toByteS.l3 k k t0 0 (List.replicate (Int.toNat (List.length t0 : Int)) 0)) none

def laws_toVal (k : Nat) (t0 : TVal) : Option (TVal) :=
  some t0

def laws_toValS.l3 (k : Nat) : Nat → (List TVal) → Int → (List TVal) → Option (Unit × (List TVal))
  | 0, _, _, _ => none
  | n + 1, t0, t4, o100 =>
    cond (decide (t4 < (List.length t0 : Int))) ((rdL t0 t4).bind fun y1 => (laws_toVal k y1).bind fun r2 => (rdL o100 t4).bind fun y3 => (rdL o100 t4).bind fun y4 => (laws_toValS.l3 k n) t0 (IntKind.wrap .i64 (t4 + 1)) (List.set o100 (Int.toNat t4) r2)) (some ((), o100))

def laws_toValS (k : Nat) (t0 : List TVal) : Option (Unit × (List TVal)) :=
  cond (okLen (List.length t0 : Int)) (laws_toValS.l3 k k t0 0 (List.replicate (Int.toNat (List.length t0 : Int)) (0, (⟨#[]⟩ : ByteArray), ()))) none

def impl_within (k : Nat) (t0 : Int) (t1 : Int) (t2 : Int) : Option Bool :=
  (cond (decide (t0 ≥ t1)) (some (decide (t0 ≤ t2))) (some (false))).bind fun b1 => some b1

def impl_TypeOk (k : Nat) (t0 : Int) : Option Bool :=
  (impl_within k t0 0 2).bind fun r1 => (cond r1 (some (true)) (some (t0 == 5))).bind fun b2 => (cond b2 (some (true)) (some (t0 == 6))).bind fun b3 => some b3

def impl_wideOf.c6 (k : Nat) (t6 : Bool) : Option Int :=
  cond t6 (some 8) (some 0)

def impl_wideOf (k : Nat) (t0 : Int) : Option Int :=
  cond (t0 == 1) (some 4) (cond (t0 == 2) (impl_wideOf.c6 k (t0 == 2)) (impl_wideOf.c6 k (t0 == 5)))

def impl_EncOk.c11 (k : Nat) (t0 : Int) (t1 : Int) (t23 : Bool) : Option Bool :=
  cond t23 (some (t1 == 6)) ((cond (t0 == 9) ((impl_wideOf k t1).bind fun r1 => some (decide (r1 > 0))) (some (false))).bind fun b2 => some b2)

def impl_EncOk.c4 (k : Nat) (t0 : Int) (t1 : Int) (t5 : Int) (t6 : Bool) : Option Bool :=
  cond t6 ((impl_TypeOk k t1).bind fun r3 => some r3) (cond (t5 == 3) (some (t1 == 0)) (cond (t5 == 5) ((cond (t1 == 1) (some (true)) (some (t1 == 2))).bind fun b4 => some b4) (cond (t5 == 6) (impl_EncOk.c11 k t0 t1 (t5 == 6)) (impl_EncOk.c11 k t0 t1 (t5 == 7)))))

def impl_EncOk (k : Nat) (t0 : Int) (t1 : Int) : Option Bool :=
  cond (t0 == 0) (impl_EncOk.c4 k t0 t1 t0 (t0 == 0)) (impl_EncOk.c4 k t0 t1 t0 (t0 == 8))

def impl_valsOf.l3 (k : Nat) : Nat → (List Int) → Int → Int → (List TVal) → Option (Unit × (List TVal))
  | 0, _, _, _, _ => none
  | n + 1, t7, t8, t9, o100 =>
    cond (decide (t9 < t8)) ((rdL t7 t9).bind fun y1 => cond (lim (List.length o100 + List.length ([(y1, (⟨#[]⟩ : ByteArray), ())] : List TVal))) ((impl_valsOf.l3 k n) t7 t8 (IntKind.wrap .i64 (t9 + 1)) (o100 ++ [(y1, (⟨#[]⟩ : ByteArray), ())])) none) (some ((), o100))

def impl_valsOf (k : Nat) (t0 : List Int) : Option (Unit × (List TVal)) :=
  impl_valsOf.l3 k k t0 (List.length t0 : Int) 0 []

def impl_BitAt (k : Nat) (t0 : List Int) (t1 : Int) : Option Int :=
  (cond (decide (t1 < 0)) (some (true)) (some (decide ((IntKind.wrap .i64 (Int.tdiv t1 8)) ≥ (List.length t0 : Int))))).bind fun b1 => cond b1 (some (-1)) ((rdL t0 (IntKind.wrap .i64 (Int.tdiv t1 8))).bind fun y2 => cond (decide (0 ≤ (Int.tmod t1 8))) (some (IntKind.wrap .i64 (bits .and .u8 (shrI .u8 y2 (Int.tmod t1 8)) 1))) none)

def impl_unpacked.l7 (k : Nat) (L3 : (List Int) → Int → Int → Int → Int → (List Int) → Option (Unit × (List Int))) : Nat → (List Int) → Int → Int → Int → Int → Int → Int → Int → Int → (List Int) → Option (Unit × (List Int))
  | 0, _, _, _, _, _, _, _, _, _, _ => none
  | n + 1, t0, t1, t3, t10, t11, t14, t15, t18, t19, o100 =>
    cond (decide (t19 < t18)) ((impl_BitAt k t0 (IntKind.wrap .i64 ((IntKind.wrap .i64 ((IntKind.wrap .i64 (8 * t1)) + (IntKind.wrap .i64 (t10 * t3)))) + t19))).bind fun r1 => cond (decide (0 ≤ t19)) ((impl_unpacked.l7 k L3 n) t0 t1 t3 t10 (bits .or .i64 t11 (shlI .i64 r1 t19)) t14 t15 t18 (IntKind.wrap .i64 (t19 + 1)) o100) none) (cond (lim (List.length o100 + List.length [t11])) (L3 t0 t1 t3 t14 (IntKind.wrap .i64 (t15 + 1)) (o100 ++ [t11])) none)

def impl_unpacked.l3 (k : Nat) : Nat → (List Int) → Int → Int → Int → Int → (List Int) → Option (Unit × (List Int))
  | 0, _, _, _, _, _, _ => none
  | n + 1, t0, t1, t3, t14, t15, o100 =>
    cond (decide (t15 < t14)) (impl_unpacked.l7 k (impl_unpacked.l3 k n) k t0 t1 t3 t15 0 t14 t15 t3 0 o100) (some ((), o100))

def impl_unpacked (k : Nat) (t0 : List Int) (t1 : Int) (t2 : Int) (t3 : Int) : Option (Unit × (List Int)) :=
  impl_unpacked.l3 k k t0 t1 t3 t2 0 []

def impl_BitsSize (k : Nat) (t0 : Int) (t1 : Int) : Option Int :=
  (impl_within k t0 0 2000).bind fun r1 => (cond (!r1) (some (true)) ((impl_within k t1 0 62).bind fun r2 => some (!r2))).bind fun b3 => cond b3 (some (-1)) (some (IntKind.wrap .i64 (Int.tdiv (IntKind.wrap .i64 ((IntKind.wrap .i64 (t0 * t1)) + 7)) 8)))

def impl_BitsRead (k : Nat) (t0 : List Int) (t1 : Int) (t2 : Int) (t3 : Int) : Option ((Unit × Int × Bool) × (List Int)) :=
  (impl_BitsSize k t2 t3).bind fun r1 => (cond (decide (r1 < 0)) (some (true)) ((impl_within k t1 0 (List.length t0 : Int)).bind fun r2 => some (!r2))).bind fun b3 => (cond b3 (some (true)) (some (decide (r1 > (IntKind.wrap .i64 ((List.length t0 : Int) - t1)))))).bind fun b4 => cond b4 (some (((), 0, false), [])) ((impl_unpacked k t0 t1 t2 t3).bind fun r5 => some (((), IntKind.wrap .i64 (t1 + r1), true), r5.2))

def impl_WordGet.l5 (k : Nat) : Nat → (List Int) → Int → Int → Int → Int → Int → Option (Int × Int × Bool)
  | 0, _, _, _, _, _, _ => none
  | n + 1, t0, t1, t2, t9, t26, t27 =>
    cond (decide (t27 < t26)) ((rdL t0 (IntKind.wrap .i64 (t1 + t27))).bind fun y1 => cond (decide (0 ≤ (IntKind.wrap .i64 (8 * t27)))) ((impl_WordGet.l5 k n) t0 t1 t2 (bits .or .i64 t9 (shlI .i64 (IntKind.wrap .i64 y1) (IntKind.wrap .i64 (8 * t27)))) t26 (IntKind.wrap .i64 (t27 + 1))) none) (some (t9, IntKind.wrap .i64 (t1 + t2), true))

def impl_WordGet (k : Nat) (t0 : List Int) (t1 : Int) (t2 : Int) : Option (Int × Int × Bool) :=
  (impl_within k t2 1 8).bind fun r2 => (cond (!r2) (some (true)) (some (decide (t1 < 0)))).bind fun b3 => (cond b3 (some (true)) (some (decide (t1 > (IntKind.wrap .i64 ((List.length t0 : Int) - t2)))))).bind fun b4 => cond b4 (some (0, 0, false)) (impl_WordGet.l5 k k t0 t1 t2 0 t2 0)

def impl_signed (k : Nat) (t0 : Int) (t1 : Int) : Option Int :=
  cond (t1 == 4) (some (IntKind.wrap .i64 (IntKind.wrap .i32 t0))) (some t0)

def impl_plainOne (k : Nat) (t0 : Int) (t1 : List Int) (t2 : Int) : Option (TVal × Int × Bool) :=
  cond (t0 != 6) ((impl_wideOf k t0).bind fun r1 => (impl_WordGet k t1 t2 r1).bind fun r2 => (impl_wideOf k t0).bind fun r3 => (impl_signed k r2.1 r3).bind fun r4 => some ((r4, (⟨#[]⟩ : ByteArray), ()), r2.2.1, r2.2.2)) ((impl_WordGet k t1 t2 4).bind fun r5 => (cond (!r5.2.2) (some (true)) (some (decide (r5.1 > 40)))).bind fun b6 => (cond b6 (some (true)) (some (decide (r5.1 > (IntKind.wrap .i64 ((List.length t1 : Int) - r5.2.1)))))).bind fun b7 => cond b7 (some ((0, (⟨#[]⟩ : ByteArray), ()), 0, false)) (cond (inSl r5.2.1 (IntKind.wrap .i64 (r5.2.1 + r5.1)) (List.length t1)) (some ((0, intsStr (cutL t1 r5.2.1 (IntKind.wrap .i64 (r5.2.1 + r5.1))), ()), IntKind.wrap .i64 (r5.2.1 + r5.1), true)) none))

def impl_PlainRead.l8 (k : Nat) : Nat → Int → (List Int) → Int → Int → Int → (List TVal) → Option ((Unit × Int × Bool) × (List TVal))
  | 0, _, _, _, _, _, _ => none
  | n + 1, t0, t1, t2, t48, t49, o100 =>
    cond (decide (t49 < t48)) ((impl_plainOne k t0 t1 t2).bind fun r1 => cond (!r1.2.2) (some (((), 0, false), [])) (cond (lim (List.length o100 + List.length [r1.1])) ((impl_PlainRead.l8 k n) t0 t1 r1.2.1 t48 (IntKind.wrap .i64 (t49 + 1)) (o100 ++ [r1.1])) none)) (some (((), t2, true), o100))

def impl_PlainRead (k : Nat) (t0 : Int) (t1 : List Int) (t2 : Int) (t3 : Int) : Option ((Unit × Int × Bool) × (List TVal)) :=
  (impl_TypeOk k t0).bind fun r2 => (cond (!r2) (some (true)) ((impl_within k t3 0 2000).bind fun r3 => some (!r3))).bind fun b4 => (cond b4 (some (true)) ((impl_within k t2 0 (List.length t1 : Int)).bind fun r5 => some (!r5))).bind fun b6 => cond b6 (some (((), 0, false), [])) (cond (t0 == 0) ((impl_BitsRead k t1 t2 t3 1).bind fun r7 => (impl_valsOf k r7.2).bind fun r8 => some (((), r7.1.2.1, r7.1.2.2), r8.2)) (impl_PlainRead.l8 k k t0 t1 t2 t3 0 []))

def impl_UvarGet.c12 (k : Nat) : Option (Int × Int × Bool) :=
  some (0, 0, false)

def impl_UvarGet.l5 (k : Nat) : Nat → (List Int) → Int → Int → Int → Option (Int × Int × Bool)
  | 0, _, _, _, _ => none
  | n + 1, t0, t1, t7, t8 =>
    (cond (decide (t8 < 10)) (some (decide (t8 < (IntKind.wrap .i64 ((List.length t0 : Int) - t1))))) (some (false))).bind fun b1 => cond b1 ((rdL t0 (IntKind.wrap .i64 (t1 + t8))).bind fun y2 => (cond (t8 == 9) (some (decide (y2 > 1))) (some (false))).bind fun b3 => cond b3 (impl_UvarGet.c12 k) (cond (decide (0 ≤ (IntKind.wrap .i64 (7 * t8)))) (cond (decide (y2 < 128)) (some (IntKind.wrap .i64 (bits .or .u64 t7 (shlI .u64 (IntKind.wrap .u64 (bits .and .u8 y2 127)) (IntKind.wrap .i64 (7 * t8)))), IntKind.wrap .i64 ((IntKind.wrap .i64 (t1 + t8)) + 1), true)) ((impl_UvarGet.l5 k n) t0 t1 (bits .or .u64 t7 (shlI .u64 (IntKind.wrap .u64 (bits .and .u8 y2 127)) (IntKind.wrap .i64 (7 * t8)))) (IntKind.wrap .i64 (t8 + 1)))) none)) (impl_UvarGet.c12 k)

def impl_UvarGet (k : Nat) (t0 : List Int) (t1 : Int) : Option (Int × Int × Bool) :=
  cond (decide (t1 < 0)) (some (0, 0, false)) (impl_UvarGet.l5 k k t0 t1 0 0)

def impl_deltaReader_uvar (k : Nat) (o0 : TDeltaReaderB) (o10 : List Int) : Option (Int × TDeltaReaderB × (List Int)) :=
  (impl_UvarGet k o0.1 o0.2.1).bind fun r1 => (cond o0.2.2.1 (some (true)) (some (!r1.2.2))).bind fun b2 => cond b2 (some (0, ((o0.1, o0.2.1, true, (), ()), o10))) (some (r1.1, ((o0.1, r1.2.1, o0.2.2.1, (), ()), o10)))

def impl_Zag (k : Nat) (t0 : Int) : Option Int :=
  some (bits .xor .i64 (IntKind.wrap .i64 (shrI .u64 (IntKind.wrap .u64 t0) 1)) (IntKind.wrap .i64 (0 - (bits .and .i64 t0 1))))

def impl_deltaReader_take (k : Nat) (t1 : Int) (o0 : TDeltaReaderB) (o10 : List Int) : Option (Int × TDeltaReaderB × (List Int)) :=
  (cond o0.2.2.1 (some (true)) (some (decide (t1 > (IntKind.wrap .i64 ((List.length o0.1 : Int) - o0.2.1)))))).bind fun b1 => cond b1 (some (0, ((o0.1, o0.2.1, true, (), ()), o10))) (some (IntKind.wrap .i64 ((IntKind.wrap .i64 (o0.2.1 + t1)) - t1), ((o0.1, IntKind.wrap .i64 (o0.2.1 + t1), o0.2.2.1, (), ()), o10)))

def impl_deltaReader_mini.d7 (k : Nat) (L5 : Int → Int → Int → TDeltaReaderB → (List Int) → (List Int) → Option (Unit × TDeltaReaderB × (List Int))) (t3 : Int) (t12 : Int) (t38 : Int) (t39 : Int) (o0 : TDeltaReaderB) (o100 : List Int) (o101 : List Int) : Option (Unit × TDeltaReaderB × (List Int)) :=
  (rdL o101 (IntKind.wrap .i64 ((List.length o101 : Int) - 1))).bind fun y1 => cond (lim (List.length o101 + List.length [IntKind.wrap .i64 ((IntKind.wrap .i64 (y1 + t12)) + t3)])) (L5 t3 t38 (IntKind.wrap .i64 (t39 + 1)) o0 o100 (o101 ++ [IntKind.wrap .i64 ((IntKind.wrap .i64 (y1 + t12)) + t3)])) none

def impl_deltaReader_mini.l5 (k : Nat) : Nat → Int → Int → Int → TDeltaReaderB → (List Int) → (List Int) → Option (Unit × TDeltaReaderB × (List Int))
  | 0, _, _, _, _, _, _ => none
  | n + 1, t3, t38, t39, o0, o100, o101 =>
    cond (decide (t39 < t38)) ((rdL o100 t39).bind fun y4 => impl_deltaReader_mini.d7 k (impl_deltaReader_mini.l5 k n) t3 y4 t38 t39 o0 o100 o101) (some ((), (o0, o101)))

def impl_deltaReader_mini.c2 (k : Nat) (t1 : Int) (t2 : Int) (t3 : Int) (t4 : Int) (o0 : TDeltaReaderB) (o10 : List Int) : Option (Unit × TDeltaReaderB × (List Int)) :=
  (impl_deltaReader_take k (IntKind.wrap .i64 (Int.tdiv (IntKind.wrap .i64 (t1 * t2)) 8)) o0 o10).bind fun r5 => cond r5.2.1.2.2.1 (some ((), (r5.2.1, r5.2.2))) ((impl_unpacked k r5.2.1.1 r5.1 (if t4 < t1 then t4 else t1) t2).bind fun r6 => impl_deltaReader_mini.l5 k k t3 (List.length r6.2 : Int) 0 r5.2.1 r6.2 r5.2.2)

def impl_deltaReader_mini (k : Nat) (t1 : Int) (t2 : Int) (t3 : Int) (t4 : Int) (o0 : TDeltaReaderB) (o10 : List Int) : Option (Unit × TDeltaReaderB × (List Int)) :=
  cond (decide (t2 > 64)) (impl_deltaReader_mini.c2 k t1 t2 t3 t4 (o0.1, o0.2.1, true, (), ()) o10) (impl_deltaReader_mini.c2 k t1 t2 t3 t4 o0 o10)

def impl_DeltaRead.d22 (k : Nat) (L20 : (List Int) → Int → Int → Int → Int → Int → Int → TDeltaReaderB → (List Int) → Option ((Unit × Int × Bool) × (List Int))) (t0 : List Int) (t9 : Int) (t10 : Int) (t12 : Int) (t13 : Int) (t14 : Int) (t15 : Int) (o100 : TDeltaReaderB) (o101 : List Int) : Option ((Unit × Int × Bool) × (List Int)) :=
  (rdL t0 (IntKind.wrap .i64 (t14 + t15))).bind fun y1 => (impl_deltaReader_mini k t12 (IntKind.wrap .i64 y1) t13 (IntKind.wrap .i64 (t10 - (List.length o101 : Int))) o100 o101).bind fun r2 => L20 t0 t9 t10 t12 t13 t14 (IntKind.wrap .i64 (t15 + 1)) r2.2.1 r2.2.2

def impl_DeltaRead.l20 (k : Nat) (L16 : (List Int) → Int → Int → Int → TDeltaReaderB → (List Int) → Option ((Unit × Int × Bool) × (List Int))) : Nat → (List Int) → Int → Int → Int → Int → Int → Int → TDeltaReaderB → (List Int) → Option ((Unit × Int × Bool) × (List Int))
  | 0, _, _, _, _, _, _, _, _, _ => none
  | n + 1, t0, t9, t10, t12, t13, t14, t15, o100, o101 =>
    (cond (decide (t15 < t9)) (some (decide ((List.length o101 : Int) < t10))) (some (false))).bind fun b7 => (cond b7 (some (!o100.2.2.1)) (some (false))).bind fun b8 => cond b8 (impl_DeltaRead.d22 k (impl_DeltaRead.l20 k L16 n) t0 t9 t10 t12 t13 t14 t15 o100 o101) (L16 t0 t9 t10 t12 o100 o101)

def impl_DeltaRead.l16 (k : Nat) : Nat → (List Int) → Int → Int → Int → TDeltaReaderB → (List Int) → Option ((Unit × Int × Bool) × (List Int))
  | 0, _, _, _, _, _, _ => none
  | n + 1, t0, t9, t10, t12, o100, o101 =>
    (cond (decide ((List.length o101 : Int) < t10)) (some (!o100.2.2.1)) (some (false))).bind fun b9 => cond b9 ((impl_deltaReader_uvar k o100 o101).bind fun r10 => (impl_Zag k r10.1).bind fun r11 => (impl_deltaReader_take k t9 r10.2.1 r10.2.2).bind fun r12 => impl_DeltaRead.l20 k (impl_DeltaRead.l16 k n) k t0 t9 t10 t12 r11 r12.1 0 r12.2.1 r12.2.2) (cond o100.2.2.1 (some (((), 0, false), [])) (some (((), o100.2.1, true), o101)))

def impl_DeltaRead (k : Nat) (t0 : List Int) (t1 : Int) : Option ((Unit × Int × Bool) × (List Int)) :=
  (impl_within k t1 0 (List.length t0 : Int)).bind fun r13 => cond (!r13) (some (((), 0, false), [])) ((impl_deltaReader_uvar k (t0, t1, false, (), ()) []).bind fun r14 => (impl_deltaReader_uvar k r14.2.1 r14.2.2).bind fun r15 => (impl_deltaReader_uvar k r15.2.1 r15.2.2).bind fun r16 => (impl_deltaReader_uvar k r16.2.1 r16.2.2).bind fun r17 => (impl_Zag k r17.1).bind fun r18 => (cond r17.2.1.2.2.1 (some (true)) ((impl_within k r14.1 128 1024).bind fun r19 => some (!r19))).bind fun b20 => (cond b20 (some (true)) (some ((Int.tmod r14.1 128) != 0))).bind fun b21 => (cond b21 (some (true)) ((impl_within k r15.1 1 r14.1).bind fun r22 => some (!r22))).bind fun b23 => (cond b23 (some (true)) ((impl_within k r16.1 0 2000).bind fun r24 => some (!r24))).bind fun b25 => cond b25 (some (((), 0, false), [])) (cond (decide (r15.1 ≠ 0)) ((cond ((Int.tmod r14.1 r15.1) != 0) (some (true)) (cond (decide (r15.1 ≠ 0)) (some ((Int.tmod (IntKind.wrap .i64 (Int.tdiv r14.1 r15.1)) 32) != 0)) none)).bind fun b26 => cond b26 (some (((), 0, false), [])) (cond (r16.1 == 0) (some (((), r17.2.1.2.1, true), [])) (cond (decide (r15.1 ≠ 0)) (impl_DeltaRead.l16 k k t0 r15.1 r16.1 (IntKind.wrap .i64 (Int.tdiv r14.1 r15.1)) r17.2.1 [r18]) none))) none))

def impl_LengthRead.l6 (k : Nat) : Nat → (List Int) → Int → Int → Int → (List TVal) → (List Int) → Option ((Unit × Int × Bool) × (List TVal))
  | 0, _, _, _, _, _, _ => none
  | n + 1, t0, t8, t24, t25, o100, o101 =>
    cond (decide (t25 < t24)) ((rdL o101 t25).bind fun y1 => (impl_within k y1 0 40).bind fun r2 => (cond (!r2) (some (true)) (some (decide (y1 > (IntKind.wrap .i64 ((List.length t0 : Int) - t8)))))).bind fun b3 => cond b3 (some (((), 0, false), [])) (cond (inSl t8 (IntKind.wrap .i64 (t8 + y1)) (List.length t0)) (cond (lim (List.length o100 + List.length [(0, intsStr (cutL t0 t8 (IntKind.wrap .i64 (t8 + y1))), ())])) ((impl_LengthRead.l6 k n) t0 (IntKind.wrap .i64 (t8 + y1)) t24 (IntKind.wrap .i64 (t25 + 1)) (o100 ++ [(0, intsStr (cutL t0 t8 (IntKind.wrap .i64 (t8 + y1))), ())]) o101) none) none)) (some (((), t8, true), o100))

def impl_LengthRead (k : Nat) (t0 : List Int) (t1 : Int) : Option ((Unit × Int × Bool) × (List TVal)) :=
  (impl_DeltaRead k t0 t1).bind fun r4 => cond (!r4.1.2.2) (some (((), 0, false), [])) (impl_LengthRead.l6 k k t0 r4.1.2.1 (List.length r4.2 : Int) 0 [] r4.2)

def impl_FrontRead.l10 (k : Nat) : Nat → Int → ByteArray → Int → Int → (List TVal) → (List TVal) → (List Int) → Option ((Unit × Int × Bool) × (List TVal))
  | 0, _, _, _, _, _, _, _ => none
  | n + 1, t11, t13, t43, t44, o100, o101, o102 =>
    cond (decide (t44 < t43)) ((rdL o102 t44).bind fun y1 => (impl_within k y1 0 (t13.size : Int)).bind fun r2 => (cond (!r2) (some (true)) ((rdL o100 t44).bind fun y3 => some (decide ((IntKind.wrap .i64 (y1 + (y3.2.1.size : Int))) > 40)))).bind fun b4 => cond b4 (some (((), 0, false), [])) (cond (inSl 0 y1 t13.size) ((rdL o100 t44).bind fun y5 => cond (lim ((ByteArray.extract t13 (Int.toNat 0) (Int.toNat y1)).size + y5.2.1.size)) (cond (lim (List.length o101 + List.length [(0, (ByteArray.extract t13 (Int.toNat 0) (Int.toNat y1)) ++ y5.2.1, ())])) ((impl_FrontRead.l10 k n) t11 ((ByteArray.extract t13 (Int.toNat 0) (Int.toNat y1)) ++ y5.2.1) t43 (IntKind.wrap .i64 (t44 + 1)) o100 (o101 ++ [(0, (ByteArray.extract t13 (Int.toNat 0) (Int.toNat y1)) ++ y5.2.1, ())]) o102) none) none) none)) (some (((), t11, true), o101))

def impl_FrontRead (k : Nat) (t0 : List Int) (t1 : Int) : Option ((Unit × Int × Bool) × (List TVal)) :=
  (impl_DeltaRead k t0 t1).bind fun r6 => cond (!r6.1.2.2) (some (((), 0, false), [])) ((impl_LengthRead k t0 r6.1.2.1).bind fun r7 => (cond (!r7.1.2.2) (some (true)) (some ((List.length r7.2 : Int) != (List.length r6.2 : Int)))).bind fun b8 => cond b8 (some (((), 0, false), [])) (impl_FrontRead.l10 k k r7.1.2.1 (⟨#[]⟩ : ByteArray) (List.length r6.2 : Int) 0 r7.2 [] r6.2))

def impl_SplitWide (k : Nat) (t0 : Int) : Option Int :=
  (impl_wideOf k t0).bind fun r1 => some r1

def impl_SplitRead.l10 (k : Nat) (L6 : (List Int) → Int → Int → Int → Int → Int → (List TVal) → Option ((Unit × Int × Bool) × (List TVal))) : Nat → (List Int) → Int → Int → Int → Int → Int → Int → Int → Int → Int → (List TVal) → Option ((Unit × Int × Bool) × (List TVal))
  | 0, _, _, _, _, _, _, _, _, _, _, _ => none
  | n + 1, t1, t2, t3, t11, t13, t14, t43, t44, t47, t48, o100 =>
    cond (decide (t48 < t47)) ((rdL t1 (IntKind.wrap .i64 ((IntKind.wrap .i64 (t2 + (IntKind.wrap .i64 (t48 * t3)))) + t13))).bind fun y1 => cond (decide (0 ≤ (IntKind.wrap .i64 (8 * t48)))) ((impl_SplitRead.l10 k L6 n) t1 t2 t3 t11 t13 (bits .or .i64 t14 (shlI .i64 (IntKind.wrap .i64 y1) (IntKind.wrap .i64 (8 * t48)))) t43 t44 t47 (IntKind.wrap .i64 (t48 + 1)) o100) none) ((impl_signed k t14 t11).bind fun r2 => cond (lim (List.length o100 + List.length ([(r2, (⟨#[]⟩ : ByteArray), ())] : List TVal))) (L6 t1 t2 t3 t11 t43 (IntKind.wrap .i64 (t44 + 1)) (o100 ++ [(r2, (⟨#[]⟩ : ByteArray), ())])) none)

def impl_SplitRead.l6 (k : Nat) : Nat → (List Int) → Int → Int → Int → Int → Int → (List TVal) → Option ((Unit × Int × Bool) × (List TVal))
  | 0, _, _, _, _, _, _, _ => none
  | n + 1, t1, t2, t3, t11, t43, t44, o100 =>
    cond (decide (t44 < t43)) (impl_SplitRead.l10 k (impl_SplitRead.l6 k n) k t1 t2 t3 t11 t44 0 t43 t44 t11 0 o100) (some (((), IntKind.wrap .i64 (t2 + (IntKind.wrap .i64 (t3 * t11))), true), o100))

def impl_SplitRead (k : Nat) (t0 : Int) (t1 : List Int) (t2 : Int) (t3 : Int) : Option ((Unit × Int × Bool) × (List TVal)) :=
  (impl_SplitWide k t0).bind fun r3 => (cond (r3 == 0) (some (true)) ((impl_within k t3 0 2000).bind fun r4 => some (!r4))).bind fun b5 => (cond b5 (some (true)) ((impl_within k t2 0 (List.length t1 : Int)).bind fun r6 => some (!r6))).bind fun b7 => (cond b7 (some (true)) (some (decide ((IntKind.wrap .i64 (t3 * r3)) > (IntKind.wrap .i64 ((List.length t1 : Int) - t2)))))).bind fun b8 => cond b8 (some (((), 0, false), [])) (impl_SplitRead.l6 k k t1 t2 t3 r3 t3 0 [])

def bits_Len64.c10 (k : Nat) (t0 : Int) (t2 : Int) : Option Int :=
  (btS (⟨#[0, 1, 2, 2, 3, 3, 3, 3, 4, 4, 4, 4, 4, 4, 4, 4, 5, 5, 5, 5, 5, 5, 5, 5, 5, 5, 5, 5, 5, 5, 5, 5, 6, 6, 6, 6, 6, 6, 6, 6, 6, 6, 6, 6, 6, 6, 6, 6, 6, 6, 6, 6, 6, 6, 6, 6, 6, 6, 6, 6, 6, 6, 6, 6, 7, 7, 7, 7, 7, 7, 7, 7, 7, 7, 7, 7, 7, 7, 7, 7, 7, 7, 7, 7, 7, 7, 7, 7, 7, 7, 7, 7, 7, 7, 7, 7, 7, 7, 7, 7, 7, 7, 7, 7, 7, 7, 7, 7, 7, 7, 7, 7, 7, 7, 7, 7, 7, 7, 7, 7, 7, 7, 7, 7, 7, 7, 7, 7, 8, 8, 8, 8, 8, 8, 8, 8, 8, 8, 8, 8, 8, 8, 8, 8, 8, 8, 8, 8, 8, 8, 8, 8, 8, 8, 8, 8, 8, 8, 8, 8, 8, 8, 8, 8, 8, 8, 8, 8, 8, 8, 8, 8, 8, 8, 8, 8, 8, 8, 8, 8, 8, 8, 8, 8, 8, 8, 8, 8, 8, 8, 8, 8, 8, 8, 8, 8, 8, 8, 8, 8, 8, 8, 8, 8, 8, 8, 8, 8, 8, 8, 8, 8, 8, 8, 8, 8, 8, 8, 8, 8, 8, 8, 8, 8, 8, 8, 8, 8, 8, 8, 8, 8, 8, 8, 8, 8, 8, 8, 8, 8, 8, 8, 8, 8, 8, 8, 8, 8, 8, 8, 8, 8, 8, 8, 8, 8]⟩ : ByteArray) (IntKind.wrap .u8 t0)).bind fun y1 => some (IntKind.wrap .i64 (t2 + (IntKind.wrap .i64 y1)))

def bits_Len64.c7 (k : Nat) (t0 : Int) (t2 : Int) : Option Int :=
  cond (decide (t0 ≥ 256)) (bits_Len64.c10 k (shrI .u64 t0 8) (IntKind.wrap .i64 (t2 + 8))) (bits_Len64.c10 k t0 t2)

def bits_Len64.c4 (k : Nat) (t0 : Int) (t2 : Int) : Option Int :=
  cond (decide (t0 ≥ 65536)) (bits_Len64.c7 k (shrI .u64 t0 16) (IntKind.wrap .i64 (t2 + 16))) (bits_Len64.c7 k t0 t2)

def bits_Len64 (k : Nat) (t0 : Int) : Option Int :=
  cond (decide (t0 ≥ 4294967296)) (bits_Len64.c4 k (shrI .u64 t0 32) 32) (bits_Len64.c4 k t0 0)

def impl_widthOf (k : Nat) (t0 : Int) : Option Int :=
  (bits_Len64 k (IntKind.wrap .u64 t0)).bind fun r1 => some r1

def impl_runNumber (k : Nat) (t0 : List Int) (t1 : Int) (t2 : Int) : Option (Int × Int × Bool) :=
  cond (t2 == 0) (some (0, t1, true)) ((impl_BitsSize k 1 t2).bind fun r1 => (impl_WordGet k t0 t1 r1).bind fun r2 => (cond (!r2.2.2) (some (true)) ((impl_widthOf k r2.1).bind fun r3 => some (decide (r3 > t2)))).bind fun b4 => cond b4 (some (0, 0, false)) (some (r2.1, r2.2.1, true)))

def impl_RunRead.l15 (k : Nat) (L4 : (List Int) → Int → Int → Int → (List Int) → Option ((Unit × Int × Bool) × (List Int))) : Nat → (List Int) → Int → Int → Int → Int → Int → Int → (List Int) → Option ((Unit × Int × Bool) × (List Int))
  | 0, _, _, _, _, _, _, _, _ => none
  | n + 1, t0, t2, t3, t17, t18, t72, t73, o100 =>
    cond (decide (t73 < t72)) (cond (lim (List.length o100 + List.length [t17])) ((impl_RunRead.l15 k L4 n) t0 t2 t3 t17 t18 t72 (IntKind.wrap .i64 (t73 + 1)) (o100 ++ [t17])) none) (L4 t0 t18 t2 t3 o100)

def impl_RunRead.l4 (k : Nat) : Nat → (List Int) → Int → Int → Int → (List Int) → Option ((Unit × Int × Bool) × (List Int))
  | 0, _, _, _, _, _ => none
  | n + 1, t0, t1, t2, t3, o100 =>
    cond (decide ((List.length o100 : Int) < t2)) ((impl_UvarGet k t0 t1).bind fun r1 => cond (!r1.2.2) (some (((), 0, false), [])) (cond ((bits .and .i64 r1.1 1) == 0) ((impl_runNumber k t0 r1.2.1 t3).bind fun r2 => cond (!r2.2.2) (some (((), 0, false), [])) (impl_RunRead.l15 k (impl_RunRead.l4 k n) k t0 t2 t3 r2.1 r2.2.1 (if (IntKind.wrap .i64 (t2 - (List.length o100 : Int))) < (IntKind.wrap .i64 (shrI .u64 (IntKind.wrap .u64 r1.1) 1)) then (IntKind.wrap .i64 (t2 - (List.length o100 : Int))) else (IntKind.wrap .i64 (shrI .u64 (IntKind.wrap .u64 r1.1) 1))) 0 o100)) ((cond (decide ((IntKind.wrap .i64 (shrI .u64 (IntKind.wrap .u64 r1.1) 1)) > 2000)) (some (true)) (some (decide ((IntKind.wrap .i64 ((IntKind.wrap .i64 (shrI .u64 (IntKind.wrap .u64 r1.1) 1)) * t3)) > (IntKind.wrap .i64 ((List.length t0 : Int) - r1.2.1)))))).bind fun b3 => cond b3 (some (((), 0, false), [])) ((impl_unpacked k t0 r1.2.1 (if (IntKind.wrap .i64 (t2 - (List.length o100 : Int))) < (IntKind.wrap .i64 (8 * (IntKind.wrap .i64 (shrI .u64 (IntKind.wrap .u64 r1.1) 1)))) then (IntKind.wrap .i64 (t2 - (List.length o100 : Int))) else (IntKind.wrap .i64 (8 * (IntKind.wrap .i64 (shrI .u64 (IntKind.wrap .u64 r1.1) 1))))) t3).bind fun r4 => cond (lim (List.length o100 + List.length r4.2)) ((impl_RunRead.l4 k n) t0 (IntKind.wrap .i64 (r1.2.1 + (IntKind.wrap .i64 ((IntKind.wrap .i64 (shrI .u64 (IntKind.wrap .u64 r1.1) 1)) * t3)))) t2 t3 (o100 ++ r4.2)) none)))) (some (((), t1, true), o100))

def impl_RunRead (k : Nat) (t0 : List Int) (t1 : Int) (t2 : Int) (t3 : Int) : Option ((Unit × Int × Bool) × (List Int)) :=
  (impl_within k t3 0 24).bind fun r5 => (cond (!r5) (some (true)) ((impl_within k t2 0 2000).bind fun r6 => some (!r6))).bind fun b7 => (cond b7 (some (true)) ((impl_within k t1 0 (List.length t0 : Int)).bind fun r8 => some (!r8))).bind fun b9 => cond b9 (some (((), 0, false), [])) (impl_RunRead.l4 k k t0 t1 t2 t3 [])

def impl_PlacesRead.l7 (k : Nat) : Nat → Int → Int → Int → Int → (List Int) → Option ((Unit × Int × Bool) × (List Int))
  | 0, _, _, _, _, _ => none
  | n + 1, t3, t12, t39, t40, o100 =>
    cond (decide (t40 < t39)) ((rdL o100 t40).bind fun y1 => cond (decide (y1 ≥ t3)) (some (((), 0, false), [])) ((impl_PlacesRead.l7 k n) t3 t12 t39 (IntKind.wrap .i64 (t40 + 1)) o100)) (some (((), t12, true), o100))

def impl_PlacesRead (k : Nat) (t0 : List Int) (t1 : Int) (t2 : Int) (t3 : Int) : Option ((Unit × Int × Bool) × (List Int)) :=
  (impl_within k t1 0 (IntKind.wrap .i64 ((List.length t0 : Int) - 1))).bind fun r2 => cond (!r2) (some (((), 0, false), [])) ((rdL t0 t1).bind fun y3 => (impl_RunRead k t0 (IntKind.wrap .i64 (t1 + 1)) t2 (IntKind.wrap .i64 y3)).bind fun r4 => cond (!r4.1.2.2) (some (((), 0, false), [])) (impl_PlacesRead.l7 k k t3 r4.1.2.1 (List.length r4.2 : Int) 0 r4.2))

def impl_DictAt.l5 (k : Nat) : Nat → (List TVal) → (List Int) → Int → Int → (List TVal) → Option ((Unit × Bool) × (List TVal))
  | 0, _, _, _, _, _ => none
  | n + 1, t0, t13, t14, t15, o100 =>
    cond (decide (t15 < t14)) ((rdL t13 t15).bind fun y1 => (impl_within k y1 0 (IntKind.wrap .i64 ((List.length t0 : Int) - 1))).bind fun r2 => cond (!r2) (some (((), false), [])) ((rdL t0 y1).bind fun y3 => cond (lim (List.length o100 + List.length [y3])) ((impl_DictAt.l5 k n) t0 t13 t14 (IntKind.wrap .i64 (t15 + 1)) (o100 ++ [y3])) none)) (some (((), true), o100))

def impl_DictAt (k : Nat) (t0 : List TVal) (t1 : List Int) : Option ((Unit × Bool) × (List TVal)) :=
  cond (decide ((List.length t1 : Int) > 2000)) (some (((), false), [])) (impl_DictAt.l5 k k t0 t1 (List.length t1 : Int) 0 [])

def impl_encValues (k : Nat) (t0 : Int) (t1 : Int) (t2 : List Int) (t3 : Int) (t4 : List TVal) : Option ((Unit × Int × Bool) × (List TVal)) :=
  cond (t0 == 0) ((impl_PlainRead k t1 t2 0 t3).bind fun r1 => some (((), r1.1.2.1, r1.1.2.2), r1.2)) (cond (t0 == 5) ((impl_DeltaRead k t2 0).bind fun r2 => (impl_valsOf k r2.2).bind fun r3 => some (((), r2.1.2.1, r2.1.2.2), r3.2)) (cond (t0 == 6) ((impl_LengthRead k t2 0).bind fun r4 => some (((), r4.1.2.1, r4.1.2.2), r4.2)) (cond (t0 == 7) ((impl_FrontRead k t2 0).bind fun r5 => some (((), r5.1.2.1, r5.1.2.2), r5.2)) (cond (t0 == 9) ((impl_SplitRead k t1 t2 0 t3).bind fun r6 => some (((), r6.1.2.1, r6.1.2.2), r6.2)) (cond (t0 == 8) ((impl_PlacesRead k t2 0 t3 (List.length t4 : Int)).bind fun r7 => (impl_DictAt k t4 r7.2).bind fun r8 => (cond r7.1.2.2 (some (r8.1.2)) (some (false))).bind fun b9 => some (((), r7.1.2.1, b9), r8.2)) ((impl_WordGet k t2 0 4).bind fun r10 => (cond (!r10.2.2) (some (true)) (some (r10.1 != (IntKind.wrap .i64 ((List.length t2 : Int) - r10.2.1))))).bind fun b11 => cond b11 (some (((), 0, false), [])) ((impl_RunRead k t2 r10.2.1 t3 1).bind fun r12 => (impl_valsOf k r12.2).bind fun r13 => some (((), r12.1.2.1, r12.1.2.2), r13.2))))))))

def impl_isInt32 (k : Nat) (t0 : Int) : Option Bool :=
  (impl_within k t0 (-2147483648) 2147483647).bind fun r1 => some r1

def impl_ValOk.c8 (k : Nat) (t0 : Int) (t26 : Bool) (o100 : TVal) : Option Bool :=
  cond t26 (some (eqS o100.2.1 (⟨#[]⟩ : ByteArray))) ((cond (t0 == 6) (some (o100.1 == 0)) (some (false))).bind fun b1 => (cond b1 (some (decide ((o100.2.1.size : Int) ≤ 40))) (some (false))).bind fun b2 => some b2)

def impl_ValOk (k : Nat) (t0 : Int) (t1 : TVal) : Option Bool :=
  cond (t0 == 0) ((impl_within k t1.1 0 1).bind fun r3 => (cond r3 (some (eqS t1.2.1 (⟨#[]⟩ : ByteArray))) (some (false))).bind fun b4 => some b4) (cond (t0 == 1) ((impl_isInt32 k t1.1).bind fun r5 => (cond r5 (some (eqS t1.2.1 (⟨#[]⟩ : ByteArray))) (some (false))).bind fun b6 => some b6) (cond (t0 == 2) (impl_ValOk.c8 k t0 (t0 == 2) t1) (impl_ValOk.c8 k t0 (t0 == 5) t1)))

def impl_valsOk.l2 (k : Nat) : Nat → Int → (List TVal) → (List TVal) → Int → Int → Option Bool
  | 0, _, _, _, _, _ => none
  | n + 1, t0, t1, t7, t8, t9 =>
    cond (decide (t9 < t8)) ((rdL t7 t9).bind fun y1 => (impl_ValOk k t0 y1).bind fun r2 => cond (!r2) (some false) ((impl_valsOk.l2 k n) t0 t1 t7 t8 (IntKind.wrap .i64 (t9 + 1)))) ((cond (decide ((List.length t1 : Int) ≤ 2000)) ((impl_TypeOk k t0).bind fun r3 => some (r3)) (some (false))).bind fun b4 => some b4)

def impl_valsOk (k : Nat) (t0 : Int) (t1 : List TVal) : Option Bool :=
  impl_valsOk.l2 k k t0 t1 t1 (List.length t1 : Int) 0

def impl_EncRead (k : Nat) (t0 : Int) (t1 : Int) (t2 : List Int) (t3 : Int) (t4 : List TVal) : Option ((Unit × Bool) × (List TVal)) :=
  (impl_EncOk k t0 t1).bind fun r1 => (cond (!r1) (some (true)) ((impl_within k t3 0 2000).bind fun r2 => some (!r2))).bind fun b3 => cond b3 (some (((), false), [])) ((cond (t0 == 8) (some (t3 == 0)) (some (false))).bind fun b4 => (cond b4 (some ((List.length t2 : Int) == 0)) (some (false))).bind fun b5 => cond b5 (some (((), true), [])) ((impl_encValues k t0 t1 t2 t3 t4).bind fun r6 => (cond (!r6.1.2.2) (some (true)) (some (r6.1.2.1 != (List.length t2 : Int)))).bind fun b7 => (cond b7 (some (true)) (some ((List.length r6.2 : Int) != t3))).bind fun b8 => (cond b8 (some (true)) ((impl_valsOk k t1 r6.2).bind fun r9 => some (!r9))).bind fun b10 => cond b10 (some (((), false), [])) (some (((), true), r6.2))))

def laws_eqVal (k : Nat) (t0 : TVal) (t1 : TVal) : Option Bool :=
  cond (t0.1 != t1.1) (some false) (cond (!eqS t0.2.1 t1.2.1) (some false) (some true))

def laws_eqValS.l4 (k : Nat) : Nat → (List TVal) → (List TVal) → Int → Option Bool
  | 0, _, _, _ => none
  | n + 1, t0, t1, t5 =>
    cond (decide (t5 < (List.length t0 : Int))) ((rdL t0 t5).bind fun y1 => (rdL t1 t5).bind fun y2 => (laws_eqVal k y1 y2).bind fun r3 => cond (!r3) (some false) ((laws_eqValS.l4 k n) t0 t1 (IntKind.wrap .i64 (t5 + 1)))) (some true)

def laws_eqValS (k : Nat) (t0 : List TVal) (t1 : List TVal) : Option Bool :=
  cond ((List.length t0 : Int) != (List.length t1 : Int)) (some false) (laws_eqValS.l4 k k t0 t1 0)

def laws_eqByteS.l4 (k : Nat) : Nat → (List Int) → (List Int) → Int → Option Bool
  | 0, _, _, _ => none
  | n + 1, t0, t1, t5 =>
    cond (decide (t5 < (List.length t0 : Int))) ((rdL t0 t5).bind fun y1 => (rdL t1 t5).bind fun y2 => cond (y1 != y2) (some false) ((laws_eqByteS.l4 k n) t0 t1 (IntKind.wrap .i64 (t5 + 1)))) (some true)

def laws_eqByteS (k : Nat) (t0 : List Int) (t1 : List Int) : Option Bool :=
  cond ((List.length t0 : Int) != (List.length t1 : Int)) (some false) (laws_eqByteS.l4 k k t0 t1 0)

def laws_markByteS.l2 (k : Nat) : Nat → Int → Int → (List Int) → Option (Int × (List Int))
  | 0, _, _, _ => none
  | n + 1, t1, t5, o10 =>
    cond (decide (t5 < (List.length o10 : Int))) ((rdL o10 t5).bind fun y1 => (rdL o10 t5).bind fun y2 => (laws_markByteS.l2 k n) (IntKind.wrap .i64 (t1 + 1)) (IntKind.wrap .i64 (t5 + 1)) (List.set o10 (Int.toNat t5) (IntKind.wrap .u8 t1))) (some (t1, o10))

def laws_markByteS (k : Nat) (t1 : Int) (o10 : List Int) : Option (Int × (List Int)) :=
  laws_markByteS.l2 k k t1 0 o10

def laws_markText.l4 (k : Nat) : Nat → Int → ByteArray → Option ByteArray
  | 0, _, _ => none
  | n + 1, t0, t3 =>
    cond (decide (t0 > 0)) (cond (lim ((intsStr [IntKind.wrap .u8 (IntKind.wrap .i64 (48 + (Int.tmod t0 10)))]).size + t3.size)) ((laws_markText.l4 k n) (IntKind.wrap .i64 (Int.tdiv t0 10)) ((intsStr [IntKind.wrap .u8 (IntKind.wrap .i64 (48 + (Int.tmod t0 10)))]) ++ t3)) none) (cond (lim ((⟨#[109]⟩ : ByteArray).size + t3.size)) (some ((⟨#[109]⟩ : ByteArray) ++ t3)) none)

def laws_markText (k : Nat) (t0 : Int) : Option ByteArray :=
  cond (decide (t0 ≤ 0)) (some (⟨#[109, 48]⟩ : ByteArray)) (laws_markText.l4 k k t0 (⟨#[]⟩ : ByteArray))

def laws_markValS.l2 (k : Nat) : Nat → Int → Int → (List TVal) → Option (Int × (List TVal))
  | 0, _, _, _ => none
  | n + 1, t1, t5, o10 =>
    cond (decide (t5 < (List.length o10 : Int))) ((rdL o10 t5).bind fun y1 => (rdL o10 t5).bind fun y2 => (laws_markText k (IntKind.wrap .i64 (t1 + 1))).bind fun r3 => (rdL (List.set o10 (Int.toNat t5) (t1, y2.2.1, ())) t5).bind fun y4 => (rdL (List.set o10 (Int.toNat t5) (t1, y2.2.1, ())) t5).bind fun y5 => (laws_markValS.l2 k n) (IntKind.wrap .i64 ((IntKind.wrap .i64 (t1 + 1)) + 1)) (IntKind.wrap .i64 (t5 + 1)) (List.set (List.set o10 (Int.toNat t5) (t1, y2.2.1, ())) (Int.toNat t5) (y5.1, r3, ()))) (some (t1, o10))

def laws_markValS (k : Nat) (t1 : Int) (o10 : List TVal) : Option (Int × (List TVal)) :=
  laws_markValS.l2 k k t1 0 o10

def laws_heldValS.d7 (k : Nat) (L2 : (List TVal) → Int → Int → Option Int) (t0 : List TVal) (t1 : Int) (t5 : Int) : Option Int :=
  (rdL t0 t5).bind fun y1 => (laws_markText k t1).bind fun r2 => cond (!eqS y1.2.1 r2) (some (-1)) (L2 t0 (IntKind.wrap .i64 (t1 + 1)) (IntKind.wrap .i64 (t5 + 1)))

def laws_heldValS.l2 (k : Nat) : Nat → (List TVal) → Int → Int → Option Int
  | 0, _, _, _ => none
  | n + 1, t0, t1, t5 =>
    cond (decide (t5 < (List.length t0 : Int))) ((rdL t0 t5).bind fun y7 => cond (y7.1 != t1) (some (-1)) (laws_heldValS.d7 k (laws_heldValS.l2 k n) t0 (IntKind.wrap .i64 (t1 + 1)) t5)) (some t1)

def laws_heldValS (k : Nat) (t0 : List TVal) (t1 : Int) : Option Int :=
  laws_heldValS.l2 k k t0 t1 0

def laws_FnExactEncRead (k : Nat) (t0 : Int) (t1 : Int) (t2 : List Int) (t3 : Int) (t4 : List TVal) : Option Bool :=
  cond (decide ((List.length t2 : Int) > 1048576)) (some true) ((laws_szValS k t4 1048576).bind fun r1 => cond (decide (r1 < 0)) (some true) ((laws_toByteS k t2).bind fun r2 => (laws_toValS k t4).bind fun r3 => (spec_EncRead k t0 t1 r2.2 t3 r3.2).bind fun r4 => (laws_toByteS k t2).bind fun r5 => (laws_toValS k t4).bind fun r6 => (impl_EncRead k t0 t1 r5.2 t3 r6.2).bind fun r7 => (laws_eqValS k r7.2 r4.2).bind fun r8 => (cond (!r8) (some (true)) (some (!(r7.1.2 == r4.1.2)))).bind fun b9 => cond b9 (some false) ((laws_toByteS k t2).bind fun r10 => (laws_eqByteS k r5.2 r10.2).bind fun r11 => cond (!r11) (some false) ((laws_toValS k t4).bind fun r12 => (laws_eqValS k r6.2 r12.2).bind fun r13 => cond (!r13) (some false) ((laws_markByteS k 1 r5.2).bind fun r14 => (laws_markValS k r14.1 r6.2).bind fun r15 => (cond (decide (r15.1 < 0)) (some (true)) ((laws_eqValS k r7.2 r4.2).bind fun r16 => some (!r16))).bind fun b17 => (cond b17 (some (true)) (some (!(r7.1.2 == r4.1.2)))).bind fun b18 => cond b18 (some false) ((laws_markValS k 1 r7.2).bind fun r19 => (laws_heldValS k r19.2 1).bind fun r20 => cond (decide (r20 < 0)) (some false) (cond (r20 != r19.1) (some false) ((laws_toByteS k t2).bind fun r21 => (laws_toValS k t4).bind fun r22 => (impl_EncRead k t0 t1 r21.2 t3 r22.2).bind fun r23 => (laws_eqValS k r23.2 r4.2).bind fun r24 => (cond (!r24) (some (true)) (some (!(r23.1.2 == r4.1.2)))).bind fun b25 => cond b25 (some false) ((laws_heldValS k r19.2 1).bind fun r26 => cond (decide (r26 < 0)) (some false) (cond (r26 != r19.1) (some false) (some true)))))))))))

end Go.Fn
