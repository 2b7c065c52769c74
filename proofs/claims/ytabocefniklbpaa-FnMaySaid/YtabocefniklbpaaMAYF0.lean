/- Clean functions, printed by program. -/
import Derived.Test.YtabocefniklbpaaAmStep
set_option linter.unusedVariables false
namespace Go.Fn
open Go.Am

abbrev TLeaf := Int × Int × Int × Unit
abbrev TVal := Int × ByteArray × Unit
abbrev TL1Cur := (List Int) × Int × Int × Unit
abbrev TCol := ByteArray × Int × Int × Int × Unit
abbrev TRec := (List TVal) × Unit
abbrev TTriple := Int × Int × TVal × Unit
abbrev TDeltaReader := (List Int) × Int × Bool × (List Int) × Unit
abbrev TConfig := Int × Bool × Int × Int × Int × (List Int) × Unit
abbrev TPred := Int × Int × TVal × Int × Int × Unit
abbrev TColumn := (List TTriple) × Unit
abbrev TStats := Int × Bool × TVal × TVal × Unit
abbrev TKnown := Bool × TStats × Unit
abbrev TWalker := (List TCol) × (List TVal) × Bool × Unit × Unit × Unit
abbrev TWalkerB := (List TCol) × (List TVal) × Bool × (Unit × Unit × Unit × Unit) × Unit × Unit

def laws_big (k : Nat) (t0 : List Int) : Option Bool :=
  some (decide ((List.length t0 : Int) > 1048576))

def spec_l1New.l3 (k : Nat) : Nat → (List Int) → Int → Int → Option (Unit × TL1Cur)
  | 0, _, _, _ => none
  | n + 1, t0, t3, t4 =>
    (cond (decide (t4 < (List.length t0 : Int))) (some (decide (t4 < 4000))) (some (false))).bind fun b1 => cond b1 ((rdL t0 t4).bind fun y2 => (spec_l1New.l3 k n) t0 (bits .and .i64 (IntKind.wrap .i64 ((IntKind.wrap .i64 ((IntKind.wrap .i64 (t3 * 131)) + (IntKind.wrap .i64 y2))) + 7)) 1073741823) (IntKind.wrap .i64 (t4 + 1))) (some ((), (t0, 0, t3, ())))

def spec_l1New (k : Nat) (t0 : List Int) : Option (Unit × TL1Cur) :=
  spec_l1New.l3 k k t0 (IntKind.wrap .i64 (11443 + (List.length t0 : Int))) 0

def spec_l1Byte.c6 (k : Nat) (t3 : Int) (o0 : TL1Cur) : Option (Int × TL1Cur) :=
  some (t3, o0)

def spec_l1Byte (k : Nat) (o0 : TL1Cur) : Option (Int × TL1Cur) :=
  cond (decide (o0.2.1 < (List.length o0.1 : Int))) ((rdL o0.1 o0.2.1).bind fun y1 => spec_l1Byte.c6 k (bits .and .i64 (IntKind.wrap .i64 ((bits .and .i64 (bits .xor .i64 (shrI .i64 (IntKind.wrap .i64 ((IntKind.wrap .i64 (o0.2.2.1 * 6364136223846793005)) + 1442695040888963407)) 33) (shrI .i64 (IntKind.wrap .i64 ((IntKind.wrap .i64 (o0.2.2.1 * 6364136223846793005)) + 1442695040888963407)) 45)) 255) + (IntKind.wrap .i64 y1))) 255) (o0.1, IntKind.wrap .i64 (o0.2.1 + 1), IntKind.wrap .i64 ((IntKind.wrap .i64 (o0.2.2.1 * 6364136223846793005)) + 1442695040888963407), ())) (spec_l1Byte.c6 k (bits .and .i64 (bits .xor .i64 (shrI .i64 (IntKind.wrap .i64 ((IntKind.wrap .i64 (o0.2.2.1 * 6364136223846793005)) + 1442695040888963407)) 33) (shrI .i64 (IntKind.wrap .i64 ((IntKind.wrap .i64 (o0.2.2.1 * 6364136223846793005)) + 1442695040888963407)) 45)) 255) (o0.1, o0.2.1, IntKind.wrap .i64 ((IntKind.wrap .i64 (o0.2.2.1 * 6364136223846793005)) + 1442695040888963407), ()))

def spec_l1Below (k : Nat) (t1 : Int) (o0 : TL1Cur) : Option (Int × TL1Cur) :=
  cond (decide (t1 ≤ 0)) (some (0, o0)) (cond (decide (t1 ≤ 256)) ((spec_l1Byte k o0).bind fun r1 => cond (decide (t1 ≠ 0)) (some (Int.tmod r1.1 t1, r1.2)) none) ((spec_l1Byte k o0).bind fun r2 => (spec_l1Byte k r2.2).bind fun r3 => (spec_l1Byte k r3.2).bind fun r4 => (spec_l1Byte k r4.2).bind fun r5 => cond (decide (t1 ≠ 0)) (some (Int.tmod (IntKind.wrap .i64 ((IntKind.wrap .i64 ((IntKind.wrap .i64 ((IntKind.wrap .i64 (r2.1 * 16777216)) + (IntKind.wrap .i64 (r3.1 * 65536)))) + (IntKind.wrap .i64 (r4.1 * 256)))) + r5.1)) t1, r5.2)) none))

def spec_l1In (k : Nat) (t0 : Int) (t1 : Int) (t2 : Int) : Option Bool :=
  (cond (decide (t0 ≥ t1)) (some (decide (t0 ≤ t2))) (some (false))).bind fun b1 => some b1

def spec_l5Type.c7 (k : Nat) (t4 : Bool) : Option Bool :=
  cond t4 (some true) (some false)

def spec_l5Type (k : Nat) (t0 : Int) : Option Bool :=
  cond (t0 == 0) (spec_l5Type.c7 k (t0 == 0)) (cond (t0 == 1) (spec_l5Type.c7 k (t0 == 1)) (cond (t0 == 2) (spec_l5Type.c7 k (t0 == 2)) (cond (t0 == 5) (spec_l5Type.c7 k (t0 == 5)) (spec_l5Type.c7 k (t0 == 6)))))

def spec_l5Name.l4 (k : Nat) : Nat → ByteArray → Int → Option Bool
  | 0, _, _ => none
  | n + 1, t0, t3 =>
    cond (decide (t3 < (t0.size : Int))) ((btS t0 t3).bind fun y1 => (cond (decide (y1 < 97)) (some (true)) ((btS t0 t3).bind fun y2 => some (decide (y2 > 122)))).bind fun b3 => cond b3 (some false) ((spec_l5Name.l4 k n) t0 (IntKind.wrap .i64 (t3 + 1)))) (some true)

def spec_l5Name (k : Nat) (t0 : ByteArray) : Option Bool :=
  (spec_l1In k (t0.size : Int) 1 20).bind fun r4 => cond (!r4) (some false) (spec_l5Name.l4 k k t0 0)

def spec_l5Check.l20 (k : Nat) (S99 : (List TCol) → Int → Int → Option Int) (L15 : (List TCol) → Int → Int → Int → TCol → (List ByteArray) → Option Int) : Nat → (List TCol) → Int → Int → Int → Int → TCol → (List ByteArray) → Option Int
  | 0, _, _, _, _, _, _, _ => none
  | n + 1, t0, t2, t8, t10, t11, o100, o101 =>
    cond (decide (t11 < (List.length o101 : Int))) ((rdL o101 t11).bind fun y1 => (rdL t0 t8).bind fun y2 => cond (eqS y1 y2.1) (some (-1)) ((spec_l5Check.l20 k S99 L15 n) t0 t2 t8 t10 (IntKind.wrap .i64 (t11 + 1)) o100 o101)) ((rdL t0 t8).bind fun y3 => cond (lim (List.length o101 + List.length [y3.1])) ((S99 t0 t8 (IntKind.wrap .i64 (t2 + 1))).bind fun r4 => cond (decide (r4 < 0)) (some (-1)) (L15 t0 t2 r4 (IntKind.wrap .i64 (t10 + 1)) o100 (o101 ++ [y3.1]))) none)

def spec_l5Check.l15 (k : Nat) (S99 : (List TCol) → Int → Int → Option Int) : Nat → (List TCol) → Int → Int → Int → TCol → (List ByteArray) → Option Int
  | 0, _, _, _, _, _, _ => none
  | n + 1, t0, t2, t8, t10, o100, o101 =>
    cond (decide (t10 < o100.2.2.2.1)) (cond (decide (t8 ≥ (List.length t0 : Int))) (some (-1)) (spec_l5Check.l20 k S99 (spec_l5Check.l15 k S99 n) k t0 t2 t8 t10 0 o100 o101)) (some t8)

def spec_l5Check.b (k : Nat) (S99 : (List TCol) → Int → Int → Option Int) (t0 : List TCol) (t1 : Int) (t2 : Int) : Option Int :=
  (cond (decide (t1 ≥ (List.length t0 : Int))) (some (true)) (some (decide (t2 > 6)))).bind fun b5 => cond b5 (some (-1)) ((rdL t0 t1).bind fun y6 => (cond (t1 == 0) ((cond (!eqS y6.1 (⟨#[]⟩ : ByteArray)) (some (true)) (some (y6.2.2.1 != 0))).bind fun b7 => (cond b7 (some (true)) (some (y6.2.1 != 7))).bind fun b8 => some (b8)) (some (false))).bind fun b9 => (cond b9 (some (true)) ((cond (decide (t1 > 0)) ((spec_l5Name k y6.1).bind fun r10 => some (!r10)) (some (false))).bind fun b11 => some (b11))).bind fun b12 => (cond b12 (some (true)) ((spec_l1In k y6.2.2.1 0 2).bind fun r13 => some (!r13))).bind fun b14 => cond b14 (some (-1)) (cond (y6.2.1 != 7) ((spec_l5Type k y6.2.1).bind fun r15 => (cond (!r15) (some (true)) (some (y6.2.2.2.1 != 0))).bind fun b16 => cond b16 (some (-1)) (some (IntKind.wrap .i64 (t1 + 1)))) (cond (decide (y6.2.2.2.1 < 1)) (some (-1)) (spec_l5Check.l15 k S99 k t0 t2 (IntKind.wrap .i64 (t1 + 1)) 0 y6 []))))

def spec_l5Check.rec (k : Nat) : Nat → ((List TCol) → Int → Int → Option Int)
  | 0 => fun _ _ _ => none
  | d + 1 => spec_l5Check.b k ((spec_l5Check.rec k d))

def spec_l5Check.d (k d : Nat) : (List TCol) → Int → Int → Option Int := (spec_l5Check.rec k d)

def spec_l5Check (k : Nat) : (List TCol) → Int → Int → Option Int := spec_l5Check.d k k

def spec_SchemaOk (k : Nat) (t0 : List TCol) : Option Bool :=
  (spec_l1In k (List.length t0 : Int) 2 20).bind fun r1 => (cond r1 ((spec_l5Check k t0 0 1).bind fun r2 => some (r2 == (List.length t0 : Int))) (some (false))).bind fun b3 => some b3

def spec_l1Once (k : Nat) (t1 : Int) (o0 : TL1Cur) : Option (Bool × TL1Cur) :=
  (spec_l1Below k t1 o0).bind fun r1 => some (r1.1 == 0, r1.2)

def spec_l1PickInt (k : Nat) (t1 : List Int) (o0 : TL1Cur) : Option (Int × TL1Cur) :=
  (spec_l1Below k (List.length t1 : Int) o0).bind fun r1 => (rdL t1 r1.1).bind fun y2 => some (y2, r1.2)

def spec_l5DrawCol.l13 (k : Nat) (S138 : ByteArray → Int → TL1Cur → (List TCol) → Option (Unit × TL1Cur × (List TCol))) : Nat → Int → Int → Int → TL1Cur → (List TCol) → Option (Unit × TL1Cur × (List TCol))
  | 0, _, _, _, _, _ => none
  | n + 1, t2, t11, t12, o0, o100 =>
    cond (decide (t12 < t11)) ((spec_l1Below k 4 o0).bind fun r1 => (S138 (intsStr [IntKind.wrap .u8 (IntKind.wrap .i64 (97 + t12)), IntKind.wrap .u8 (IntKind.wrap .i64 (97 + r1.1))]) (IntKind.wrap .i64 (t2 - 1)) r1.2 o100).bind fun r2 => (spec_l5DrawCol.l13 k S138 n) t2 t11 (IntKind.wrap .i64 (t12 + 1)) r2.2.1 r2.2.2) (some ((), (o0, o100)))

def spec_l5DrawCol.c12 (k : Nat) (S138 : ByteArray → Int → TL1Cur → (List TCol) → Option (Unit × TL1Cur × (List TCol))) (t2 : Int) (t11 : Int) (o0 : TL1Cur) (o100 : List TCol) : Option (Unit × TL1Cur × (List TCol)) :=
  spec_l5DrawCol.l13 k S138 k t2 t11 0 o0 o100

def spec_l5DrawCol.c4 (k : Nat) (S138 : ByteArray → Int → TL1Cur → (List TCol) → Option (Unit × TL1Cur × (List TCol))) (t1 : ByteArray) (t2 : Int) (o0 : TL1Cur) (o10 : List TCol) (o100 : TCol) : Option (Unit × TL1Cur × (List TCol)) :=
  cond (lim (List.length o10 + List.length [o100])) (cond (o100.2.1 != 7) (some ((), (o0, o10 ++ [o100]))) ((spec_l1Below k 3 o0).bind fun r3 => (rdL (o10 ++ [o100]) (List.length o10 : Int)).bind fun y4 => (rdL (o10 ++ [o100]) (List.length o10 : Int)).bind fun y5 => cond (eqS t1 (⟨#[]⟩ : ByteArray)) ((rdL (List.set (o10 ++ [o100]) (Int.toNat (List.length o10 : Int)) (y5.1, y5.2.1, y5.2.2.1, IntKind.wrap .i64 (1 + r3.1), ())) (List.length o10 : Int)).bind fun y6 => (rdL (List.set (o10 ++ [o100]) (Int.toNat (List.length o10 : Int)) (y5.1, y5.2.1, y5.2.2.1, IntKind.wrap .i64 (1 + r3.1), ())) (List.length o10 : Int)).bind fun y7 => spec_l5DrawCol.c12 k S138 t2 (IntKind.wrap .i64 (1 + r3.1)) r3.2 (List.set (List.set (o10 ++ [o100]) (Int.toNat (List.length o10 : Int)) (y5.1, y5.2.1, y5.2.2.1, IntKind.wrap .i64 (1 + r3.1), ())) (Int.toNat (List.length o10 : Int)) (y7.1, y7.2.1, 0, y7.2.2.2.1, ()))) (spec_l5DrawCol.c12 k S138 t2 (IntKind.wrap .i64 (1 + r3.1)) r3.2 (List.set (o10 ++ [o100]) (Int.toNat (List.length o10 : Int)) (y5.1, y5.2.1, y5.2.2.1, IntKind.wrap .i64 (1 + r3.1), ()))))) none

def spec_l5DrawCol.b (k : Nat) (S138 : ByteArray → Int → TL1Cur → (List TCol) → Option (Unit × TL1Cur × (List TCol))) (t1 : ByteArray) (t2 : Int) (o0 : TL1Cur) (o10 : List TCol) : Option (Unit × TL1Cur × (List TCol)) :=
  (spec_l1PickInt k [0, 1, 2, 5, 6] o0).bind fun r8 => (spec_l1Below k 3 r8.2).bind fun r9 => cond (eqS t1 (⟨#[]⟩ : ByteArray)) (cond true (spec_l5DrawCol.c4 k S138 t1 t2 r9.2 o10 (t1, 7, r9.1, 0, ())) (spec_l5DrawCol.c4 k S138 t1 t2 r9.2 o10 (t1, r8.1, r9.1, 0, ()))) (cond (decide (t2 > 0)) ((spec_l1Once k 3 r9.2).bind fun r10 => cond r10.1 (spec_l5DrawCol.c4 k S138 t1 t2 r10.2 o10 (t1, 7, r9.1, 0, ())) (spec_l5DrawCol.c4 k S138 t1 t2 r10.2 o10 (t1, r8.1, r9.1, 0, ()))) (cond false (spec_l5DrawCol.c4 k S138 t1 t2 r9.2 o10 (t1, 7, r9.1, 0, ())) (spec_l5DrawCol.c4 k S138 t1 t2 r9.2 o10 (t1, r8.1, r9.1, 0, ()))))

def spec_l5DrawCol.rec (k : Nat) : Nat → (ByteArray → Int → TL1Cur → (List TCol) → Option (Unit × TL1Cur × (List TCol)))
  | 0 => fun _ _ _ _ => none
  | d + 1 => spec_l5DrawCol.b k ((spec_l5DrawCol.rec k d))

def spec_l5DrawCol.d (k d : Nat) : ByteArray → Int → TL1Cur → (List TCol) → Option (Unit × TL1Cur × (List TCol)) := (spec_l5DrawCol.rec k d)

def spec_l5DrawCol (k : Nat) : ByteArray → Int → TL1Cur → (List TCol) → Option (Unit × TL1Cur × (List TCol)) := spec_l5DrawCol.d k k

def spec_l5DrawRight.l2 (k : Nat) : Nat → Int → TL1Cur → Option (Unit × TL1Cur × (List TCol))
  | 0, _, _ => none
  | n + 1, t3, o0 =>
    cond (decide (t3 < 9)) ((spec_l1Below k 3 o0).bind fun r1 => (spec_l5DrawCol k (⟨#[]⟩ : ByteArray) (IntKind.wrap .i64 (1 + r1.1)) r1.2 []).bind fun r2 => (spec_SchemaOk k r2.2.2).bind fun r3 => cond r3 (some ((), (r2.2.1, r2.2.2))) ((spec_l5DrawRight.l2 k n) (IntKind.wrap .i64 (t3 + 1)) r2.2.1)) (some ((), (o0, [((⟨#[]⟩ : ByteArray), 7, 0, 1, ()), ((⟨#[97]⟩ : ByteArray), 2, 1, 0, ())])))

def spec_l5DrawRight (k : Nat) (o0 : TL1Cur) : Option (Unit × TL1Cur × (List TCol)) :=
  spec_l5DrawRight.l2 k k 0 o0

def spec_l5Leaves.c4 (k : Nat) (L3 : (List TCol) → Int → (List Int) → Option (Unit × (List Int))) (t0 : List TCol) (t4 : Int) (o100 : List Int) : Option (Unit × (List Int)) :=
  L3 t0 (IntKind.wrap .i64 (t4 + 1)) o100

def spec_l5Leaves.l3 (k : Nat) : Nat → (List TCol) → Int → (List Int) → Option (Unit × (List Int))
  | 0, _, _, _ => none
  | n + 1, t0, t4, o100 =>
    cond (decide (t4 < (List.length t0 : Int))) ((rdL t0 t4).bind fun y1 => cond (y1.2.1 != 7) (cond (lim (List.length o100 + List.length [t4])) (spec_l5Leaves.c4 k (spec_l5Leaves.l3 k n) t0 t4 (o100 ++ [t4])) none) (spec_l5Leaves.c4 k (spec_l5Leaves.l3 k n) t0 t4 o100)) (some ((), o100))

def spec_l5Leaves (k : Nat) (t0 : List TCol) : Option (Unit × (List Int)) :=
  spec_l5Leaves.l3 k k t0 0 []

def spec_SchemaLeaves (k : Nat) (t0 : List TCol) : Option (Unit × (List Int)) :=
  (spec_SchemaOk k t0).bind fun r1 => cond (!r1) (some ((), [])) ((spec_l5Leaves k t0).bind fun r2 => some ((), r2.2))

def spec_l5After.l3 (k : Nat) (S107 : (List TCol) → Int → Option Int) : Nat → (List TCol) → Int → Int → Int → Option Int
  | 0, _, _, _, _ => none
  | n + 1, t0, t1, t5, t6 =>
    (rdL t0 t1).bind fun y1 => cond (decide (t6 < y1.2.2.2.1)) ((S107 t0 t5).bind fun r2 => (spec_l5After.l3 k S107 n) t0 t1 r2 (IntKind.wrap .i64 (t6 + 1))) (some t5)

def spec_l5After.b (k : Nat) (S107 : (List TCol) → Int → Option Int) (t0 : List TCol) (t1 : Int) : Option Int :=
  spec_l5After.l3 k S107 k t0 t1 (IntKind.wrap .i64 (t1 + 1)) 0

def spec_l5After.rec (k : Nat) : Nat → ((List TCol) → Int → Option Int)
  | 0 => fun _ _ => none
  | d + 1 => spec_l5After.b k ((spec_l5After.rec k d))

def spec_l5After.d (k d : Nat) : (List TCol) → Int → Option Int := (spec_l5After.rec k d)

def spec_l5After (k : Nat) : (List TCol) → Int → Option Int := spec_l5After.d k k

def spec_l5Way.c4 (k : Nat) (L3 : (List TCol) → Int → Int → (List Int) → Option (Unit × (List Int))) (t0 : List TCol) (t1 : Int) (t6 : Int) (o100 : List Int) : Option (Unit × (List Int)) :=
  L3 t0 t1 (IntKind.wrap .i64 (t6 + 1)) o100

def spec_l5Way.l3 (k : Nat) : Nat → (List TCol) → Int → Int → (List Int) → Option (Unit × (List Int))
  | 0, _, _, _, _ => none
  | n + 1, t0, t1, t6, o100 =>
    cond (decide (t6 ≤ t1)) ((spec_l5After k t0 t6).bind fun r1 => cond (decide (r1 > t1)) (cond (lim (List.length o100 + List.length [t6])) (spec_l5Way.c4 k (spec_l5Way.l3 k n) t0 t1 t6 (o100 ++ [t6])) none) (spec_l5Way.c4 k (spec_l5Way.l3 k n) t0 t1 t6 o100)) (some ((), o100))

def spec_l5Way (k : Nat) (t0 : List TCol) (t1 : Int) : Option (Unit × (List Int)) :=
  spec_l5Way.l3 k k t0 t1 0 []

def spec_l5Max.c5 (k : Nat) (L4 : (List TCol) → Int → Int → Int → (List Int) → Option (Int × Int)) (t0 : List TCol) (t6 : Int) (t7 : Int) (t9 : Int) (o100 : List Int) : Option (Int × Int) :=
  L4 t0 t6 t7 (IntKind.wrap .i64 (t9 + 1)) o100

def spec_l5Max.c8 (k : Nat) (L4 : (List TCol) → Int → Int → Int → (List Int) → Option (Int × Int)) (t0 : List TCol) (t6 : Int) (t7 : Int) (t9 : Int) (o100 : List Int) : Option (Int × Int) :=
  (rdL o100 t9).bind fun y1 => (rdL t0 y1).bind fun y2 => cond (y2.2.2.1 == 2) (spec_l5Max.c5 k L4 t0 t6 (IntKind.wrap .i64 (t7 + 1)) t9 o100) (spec_l5Max.c5 k L4 t0 t6 t7 t9 o100)

def spec_l5Max.l4 (k : Nat) : Nat → (List TCol) → Int → Int → Int → (List Int) → Option (Int × Int)
  | 0, _, _, _, _, _ => none
  | n + 1, t0, t6, t7, t9, o100 =>
    cond (decide (t9 < (List.length o100 : Int))) ((rdL o100 t9).bind fun y3 => (rdL t0 y3).bind fun y4 => cond (y4.2.2.1 != 0) (spec_l5Max.c8 k (spec_l5Max.l4 k n) t0 (IntKind.wrap .i64 (t6 + 1)) t7 t9 o100) (spec_l5Max.c8 k (spec_l5Max.l4 k n) t0 t6 t7 t9 o100)) (some (t6, t7))

def spec_l5Max (k : Nat) (t0 : List TCol) (t1 : Int) : Option (Int × Int) :=
  (spec_l5Way k t0 t1).bind fun r5 => spec_l5Max.l4 k k t0 0 0 0 r5.2

def spec_LeafOf (k : Nat) (t0 : List TCol) (t1 : Int) : Option (TLeaf × Bool) :=
  (spec_SchemaLeaves k t0).bind fun r1 => (spec_l1In k t1 0 (IntKind.wrap .i64 ((List.length r1.2 : Int) - 1))).bind fun r2 => cond (!r2) (some ((0, 0, 0, ()), false)) ((rdL r1.2 t1).bind fun y3 => (spec_l5Max k t0 y3).bind fun r4 => (rdL r1.2 t1).bind fun y5 => (rdL t0 y5).bind fun y6 => some ((y6.2.1, r4.2, r4.1, ()), true))

def spec_l20Leaves.c4 (k : Nat) (L3 : (List TCol) → Int → (List Int) → Option (Unit × (List Int))) (t0 : List TCol) (t4 : Int) (o100 : List Int) : Option (Unit × (List Int)) :=
  L3 t0 (IntKind.wrap .i64 (t4 + 1)) o100

def spec_l20Leaves.l3 (k : Nat) : Nat → (List TCol) → Int → (List Int) → Option (Unit × (List Int))
  | 0, _, _, _ => none
  | n + 1, t0, t4, o100 =>
    (spec_l5Leaves k t0).bind fun r1 => cond (decide (t4 < (List.length r1.2 : Int))) ((spec_LeafOf k t0 t4).bind fun r2 => (cond r2.2 (some (r2.1.2.1 == 0)) (some (false))).bind fun b3 => cond b3 (cond (lim (List.length o100 + List.length [t4])) (spec_l20Leaves.c4 k (spec_l20Leaves.l3 k n) t0 t4 (o100 ++ [t4])) none) (spec_l20Leaves.c4 k (spec_l20Leaves.l3 k n) t0 t4 o100)) (some ((), o100))

def spec_l20Leaves (k : Nat) (t0 : List TCol) : Option (Unit × (List Int)) :=
  spec_l20Leaves.l3 k k t0 0 []

def spec_l20DrawSchema.l3 (k : Nat) : Nat → Int → TL1Cur → (List TCol) → Option (Unit × TL1Cur × (List TCol))
  | 0, _, _, _ => none
  | n + 1, t4, o0, o100 =>
    (cond (decide (t4 < 6)) ((spec_l20Leaves k o100).bind fun r1 => some ((List.length r1.2 : Int) == 0)) (some (false))).bind fun b2 => cond b2 ((spec_l5DrawRight k o0).bind fun r3 => (spec_l20DrawSchema.l3 k n) (IntKind.wrap .i64 (t4 + 1)) r3.2.1 r3.2.2) (some ((), (o0, o100)))

def spec_l20DrawSchema (k : Nat) (o0 : TL1Cur) : Option (Unit × TL1Cur × (List TCol)) :=
  (spec_l5DrawRight k o0).bind fun r4 => spec_l20DrawSchema.l3 k k 0 r4.2.1 r4.2.2

def spec_l4Int (k : Nat) (t0 : Int) : Option Bool :=
  (spec_l1In k t0 (-2147483648) 2147483647).bind fun r1 => some r1

def spec_ValOk.c8 (k : Nat) (t5 : Int) (t26 : Bool) (o100 : TVal) : Option Bool :=
  cond t26 (some (eqS o100.2.1 (⟨#[]⟩ : ByteArray))) (cond (t5 == 6) ((cond (o100.1 == 0) (some (decide ((o100.2.1.size : Int) ≤ 40))) (some (false))).bind fun b1 => some b1) (some false))

def spec_ValOk (k : Nat) (t0 : Int) (t1 : TVal) : Option Bool :=
  cond (t0 == 0) ((spec_l1In k t1.1 0 1).bind fun r2 => (cond r2 (some (eqS t1.2.1 (⟨#[]⟩ : ByteArray))) (some (false))).bind fun b3 => some b3) (cond (t0 == 1) ((spec_l4Int k t1.1).bind fun r4 => (cond r4 (some (eqS t1.2.1 (⟨#[]⟩ : ByteArray))) (some (false))).bind fun b5 => some b5) (cond (t0 == 2) (spec_ValOk.c8 k t0 (t0 == 2) t1) (spec_ValOk.c8 k t0 (t0 == 5) t1)))

def spec_l13Count (k : Nat) (t0 : TVal) (t1 : Int) : Option Int :=
  (cond (!eqS t0.2.1 (⟨#[]⟩ : ByteArray)) (some (true)) ((spec_l1In k t0.1 0 t1).bind fun r1 => some (!r1))).bind fun b2 => cond b2 (some (-1)) (some t0.1)

def spec_l13Content.l7 (k : Nat) (S150 : (List TCol) → Int → (List TVal) → Int → Option Int) : Nat → (List TCol) → Int → (List TVal) → Int → Int → Int → Option Int
  | 0, _, _, _, _, _, _ => none
  | n + 1, t0, t1, t2, t3, t9, t10 =>
    (rdL t0 t1).bind fun y1 => cond (decide (t10 < y1.2.2.2.1)) ((S150 t0 t9 t2 t3).bind fun r2 => cond (decide (r2 < 0)) (some (-1)) ((spec_l5After k t0 t9).bind fun r3 => (spec_l13Content.l7 k S150 n) t0 t1 t2 r2 r3 (IntKind.wrap .i64 (t10 + 1)))) (some t3)

def spec_l13Content.b (k : Nat) (S104 : (List TCol) → Int → (List TVal) → Int → Option Int) (S150 : (List TCol) → Int → (List TVal) → Int → Option Int) (t0 : List TCol) (t1 : Int) (t2 : List TVal) (t3 : Int) : Option Int :=
  (rdL t0 t1).bind fun y4 => cond (y4.2.1 != 7) ((cond (decide (t3 ≥ (List.length t2 : Int))) (some (true)) ((rdL t0 t1).bind fun y5 => (rdL t2 t3).bind fun y6 => (spec_ValOk k y5.2.1 y6).bind fun r7 => some (!r7))).bind fun b8 => cond b8 (some (-1)) (some (IntKind.wrap .i64 (t3 + 1)))) (spec_l13Content.l7 k S150 k t0 t1 t2 t3 (IntKind.wrap .i64 (t1 + 1)) 0)

def spec_l13Part.l13 (k : Nat) (S104 : (List TCol) → Int → (List TVal) → Int → Option Int) : Nat → (List TCol) → Int → (List TVal) → Int → Int → Int → Option Int
  | 0, _, _, _, _, _, _ => none
  | n + 1, t0, t1, t2, t3, t9, t11 =>
    cond (decide (t11 < t9)) ((S104 t0 t1 t2 t3).bind fun r1 => cond (decide (r1 < 0)) (some (-1)) ((spec_l13Part.l13 k S104 n) t0 t1 t2 r1 t9 (IntKind.wrap .i64 (t11 + 1)))) (some t3)

def spec_l13Part.c12 (k : Nat) (S104 : (List TCol) → Int → (List TVal) → Int → Option Int) (t0 : List TCol) (t1 : Int) (t2 : List TVal) (t3 : Int) (t9 : Int) : Option Int :=
  spec_l13Part.l13 k S104 k t0 t1 t2 t3 t9 0

def spec_l13Part.c6 (k : Nat) (S104 : (List TCol) → Int → (List TVal) → Int → Option Int) (t0 : List TCol) (t1 : Int) (t2 : List TVal) (t3 : Int) (t10 : Int) : Option Int :=
  cond (decide (t3 ≥ (List.length t2 : Int))) (some (-1)) ((rdL t2 t3).bind fun y2 => (spec_l13Count k y2 t10).bind fun r3 => cond (decide (r3 < 0)) (some (-1)) (spec_l13Part.c12 k S104 t0 t1 t2 (IntKind.wrap .i64 (t3 + 1)) r3))

def spec_l13Part.b (k : Nat) (S104 : (List TCol) → Int → (List TVal) → Int → Option Int) (S150 : (List TCol) → Int → (List TVal) → Int → Option Int) (t0 : List TCol) (t1 : Int) (t2 : List TVal) (t3 : Int) : Option Int :=
  (rdL t0 t1).bind fun y4 => cond (y4.2.2.1 != 0) ((rdL t0 t1).bind fun y5 => cond (y5.2.2.1 == 2) (spec_l13Part.c6 k S104 t0 t1 t2 t3 20) (spec_l13Part.c6 k S104 t0 t1 t2 t3 1)) (spec_l13Part.c12 k S104 t0 t1 t2 t3 1)

def spec_l13Content.rec (k : Nat) : Nat → ((List TCol) → Int → (List TVal) → Int → Option Int) × ((List TCol) → Int → (List TVal) → Int → Option Int)
  | 0 => (fun _ _ _ _ => none, fun _ _ _ _ => none)
  | d + 1 => (spec_l13Content.b k ((spec_l13Content.rec k d).1) ((spec_l13Content.rec k d).2), spec_l13Part.b k ((spec_l13Content.rec k d).1) ((spec_l13Content.rec k d).2))

def spec_l13Content.d (k d : Nat) : (List TCol) → Int → (List TVal) → Int → Option Int := (spec_l13Content.rec k d).1

def spec_l13Content (k : Nat) : (List TCol) → Int → (List TVal) → Int → Option Int := spec_l13Content.d k k

def spec_l13Part.d (k d : Nat) : (List TCol) → Int → (List TVal) → Int → Option Int := (spec_l13Content.rec k d).2

def spec_l13Part (k : Nat) : (List TCol) → Int → (List TVal) → Int → Option Int := spec_l13Part.d k k

def spec_RecOk.d1 (k : Nat) (t0 : List TCol) (o100 : TRec) : Option Bool :=
  (spec_SchemaOk k t0).bind fun r1 => cond r1 (cond (decide ((List.length o100.1 : Int) ≤ 300)) ((spec_l13Content k t0 0 o100.1 0).bind fun r2 => some (r2 == (List.length o100.1 : Int))) (some false)) (cond false ((spec_l13Content k t0 0 o100.1 0).bind fun r3 => some (r3 == (List.length o100.1 : Int))) (some false))

def spec_RecOk (k : Nat) (t0 : List TCol) (t1 : TRec) : Option Bool :=
  spec_RecOk.d1 k t0 t1

def spec_l1Pick (k : Nat) (t1 : List ByteArray) (o0 : TL1Cur) : Option (ByteArray × TL1Cur) :=
  (spec_l1Below k (List.length t1 : Int) o0).bind fun r1 => (rdL t1 r1.1).bind fun y2 => some (y2, r1.2)

def spec_l1DrawBytes.l4 (k : Nat) : Nat → Int → Int → TL1Cur → (List Int) → Option (Unit × TL1Cur × (List Int))
  | 0, _, _, _, _ => none
  | n + 1, t6, t7, o0, o100 =>
    cond (decide (t7 < t6)) ((spec_l1Byte k o0).bind fun r1 => cond (lim (List.length o100 + List.length [IntKind.wrap .u8 r1.1])) ((spec_l1DrawBytes.l4 k n) t6 (IntKind.wrap .i64 (t7 + 1)) r1.2 (o100 ++ [IntKind.wrap .u8 r1.1])) none) (some ((), (o0, o100)))

def spec_l1DrawBytes (k : Nat) (t1 : Int) (o0 : TL1Cur) : Option (Unit × TL1Cur × (List Int)) :=
  (spec_l1Below k (IntKind.wrap .i64 (t1 + 1)) o0).bind fun r2 => spec_l1DrawBytes.l4 k k r2.1 0 r2.2 []

def spec_l4DrawText (k : Nat) (t1 : Int) (o0 : TL1Cur) : Option (ByteArray × TL1Cur) :=
  (spec_l1DrawBytes k t1 o0).bind fun r1 => some (intsStr r1.2.2, r1.2.1)

def spec_l2DrawNum (k : Nat) (o0 : TL1Cur) : Option (Int × TL1Cur) :=
  (spec_l1Below k 1000000 o0).bind fun r1 => (spec_l1Below k 1000000 r1.2).bind fun r2 => (spec_l1Below k 300 r2.2).bind fun r3 => (spec_l1PickInt k [0, 1, (-1), 63, 64, (-64), (-65), 127, 128, 16383, 16384, 2147483647, (-2147483648), 9223372036854775807, (-9223372036854775808), 4611686018427387904, r1.1, IntKind.wrap .i64 (0 - r2.1), r3.1] r3.2).bind fun r4 => some (r4.1, r4.2)

def spec_l6DrawRight (k : Nat) (t1 : Int) (o0 : TL1Cur) : Option ((TVal) × TL1Cur) :=
  cond (t1 == 0) ((spec_l1Below k 2 o0).bind fun r1 => some ((r1.1, (⟨#[]⟩ : ByteArray), ()), r1.2)) (cond (t1 == 1) ((spec_l1Once k 6 o0).bind fun r2 => cond r2.1 ((spec_l1PickInt k [2147483647, (-2147483648), 0] r2.2).bind fun r3 => some ((r3.1, (⟨#[]⟩ : ByteArray), ()), r3.2)) ((spec_l1Below k 40 r2.2).bind fun r4 => some ((IntKind.wrap .i64 (r4.1 - 12), (⟨#[]⟩ : ByteArray), ()), r4.2))) (cond (t1 == 6) ((spec_l1Once k 3 o0).bind fun r5 => cond r5.1 ((spec_l1Pick k [(⟨#[]⟩ : ByteArray), (⟨#[97]⟩ : ByteArray), (⟨#[97, 98]⟩ : ByteArray), (⟨#[97, 98, 99]⟩ : ByteArray), (⟨#[97, 98, 100]⟩ : ByteArray), (⟨#[98]⟩ : ByteArray), (⟨#[97, 97]⟩ : ByteArray)] r5.2).bind fun r6 => some ((0, r6.1, ()), r6.2)) ((spec_l4DrawText k 6 r5.2).bind fun r7 => some ((0, r7.1, ()), r7.2))) (cond (t1 == 5) ((spec_l1Below k 9 o0).bind fun r8 => (spec_l2DrawNum k r8.2).bind fun r9 => (spec_l1PickInt k [0, (-9223372036854775808), 4607182418800017408, (-4616189618054758400), 9221120237041090560, (-2251799813685248), r8.1, r9.1] r9.2).bind fun r10 => some ((r10.1, (⟨#[]⟩ : ByteArray), ()), r10.2)) ((spec_l1Once k 2 o0).bind fun r11 => cond r11.1 ((spec_l1Below k 30 r11.2).bind fun r12 => some ((IntKind.wrap .i64 (r12.1 - 9), (⟨#[]⟩ : ByteArray), ()), r12.2)) ((spec_l2DrawNum k r11.2).bind fun r13 => some ((r13.1, (⟨#[]⟩ : ByteArray), ()), r13.2))))))

def spec_l13DrawPart.c11 (k : Nat) (L10 : (List TCol) → Int → Int → Int → TL1Cur → (List TVal) → Option (Unit × TL1Cur × (List TVal))) (t1 : List TCol) (t2 : Int) (t9 : Int) (t10 : Int) (o0 : TL1Cur) (o100 : List TVal) : Option (Unit × TL1Cur × (List TVal)) :=
  L10 t1 t2 t9 (IntKind.wrap .i64 (t10 + 1)) o0 o100

def spec_l13DrawPart.l16 (k : Nat) (S139 : (List TCol) → Int → TL1Cur → (List TVal) → Option (Unit × TL1Cur × (List TVal))) (L10 : (List TCol) → Int → Int → Int → TL1Cur → (List TVal) → Option (Unit × TL1Cur × (List TVal))) : Nat → (List TCol) → Int → Int → Int → Int → Int → TL1Cur → (List TVal) → Option (Unit × TL1Cur × (List TVal))
  | 0, _, _, _, _, _, _, _, _ => none
  | n + 1, t1, t2, t9, t10, t11, t12, o0, o100 =>
    (rdL t1 t2).bind fun y1 => cond (decide (t12 < y1.2.2.2.1)) ((S139 t1 t11 o0 o100).bind fun r2 => (spec_l5After k t1 t11).bind fun r3 => (spec_l13DrawPart.l16 k S139 L10 n) t1 t2 t9 t10 r3 (IntKind.wrap .i64 (t12 + 1)) r2.2.1 r2.2.2) (spec_l13DrawPart.c11 k L10 t1 t2 t9 t10 o0 o100)

def spec_l13DrawPart.l10 (k : Nat) (S139 : (List TCol) → Int → TL1Cur → (List TVal) → Option (Unit × TL1Cur × (List TVal))) : Nat → (List TCol) → Int → Int → Int → TL1Cur → (List TVal) → Option (Unit × TL1Cur × (List TVal))
  | 0, _, _, _, _, _, _ => none
  | n + 1, t1, t2, t9, t10, o0, o100 =>
    cond (decide (t10 < t9)) ((rdL t1 t2).bind fun y4 => cond (y4.2.1 != 7) ((rdL t1 t2).bind fun y5 => (spec_l6DrawRight k y5.2.1 o0).bind fun r6 => cond (lim (List.length o100 + List.length [r6.1])) (spec_l13DrawPart.c11 k (spec_l13DrawPart.l10 k S139 n) t1 t2 t9 t10 r6.2 (o100 ++ [r6.1])) none) (spec_l13DrawPart.l16 k S139 (spec_l13DrawPart.l10 k S139 n) k t1 t2 t9 t10 (IntKind.wrap .i64 (t2 + 1)) 0 o0 o100)) (some ((), (o0, o100)))

def spec_l13DrawPart.c9 (k : Nat) (S139 : (List TCol) → Int → TL1Cur → (List TVal) → Option (Unit × TL1Cur × (List TVal))) (t1 : List TCol) (t2 : Int) (t9 : Int) (o0 : TL1Cur) (o100 : List TVal) : Option (Unit × TL1Cur × (List TVal)) :=
  spec_l13DrawPart.l10 k S139 k t1 t2 t9 0 o0 o100

def spec_l13DrawPart.c8 (k : Nat) (S139 : (List TCol) → Int → TL1Cur → (List TVal) → Option (Unit × TL1Cur × (List TVal))) (t1 : List TCol) (t2 : Int) (t9 : Int) (o0 : TL1Cur) (o10 : List TVal) : Option (Unit × TL1Cur × (List TVal)) :=
  cond (lim (List.length o10 + List.length ([(t9, (⟨#[]⟩ : ByteArray), ())] : List TVal))) (spec_l13DrawPart.c9 k S139 t1 t2 t9 o0 (o10 ++ [(t9, (⟨#[]⟩ : ByteArray), ())])) none

def spec_l13DrawPart.b (k : Nat) (S139 : (List TCol) → Int → TL1Cur → (List TVal) → Option (Unit × TL1Cur × (List TVal))) (t1 : List TCol) (t2 : Int) (o0 : TL1Cur) (o10 : List TVal) : Option (Unit × TL1Cur × (List TVal)) :=
  (cond (decide (t2 > 0)) ((rdL t1 t2).bind fun y7 => some (y7.2.2.1 != 0)) (some (false))).bind fun b8 => cond b8 ((spec_l1Below k 2 o0).bind fun r9 => (rdL t1 t2).bind fun y10 => cond (y10.2.2.1 == 2) ((spec_l1Below k 4 r9.2).bind fun r11 => (spec_l1Once k 60 r11.2).bind fun r12 => cond r12.1 (spec_l13DrawPart.c8 k S139 t1 t2 20 r12.2 o10) (spec_l13DrawPart.c8 k S139 t1 t2 r11.1 r12.2 o10)) (spec_l13DrawPart.c8 k S139 t1 t2 r9.1 r9.2 o10)) (spec_l13DrawPart.c9 k S139 t1 t2 1 o0 o10)

def spec_l13DrawPart.rec (k : Nat) : Nat → ((List TCol) → Int → TL1Cur → (List TVal) → Option (Unit × TL1Cur × (List TVal)))
  | 0 => fun _ _ _ _ => none
  | d + 1 => spec_l13DrawPart.b k ((spec_l13DrawPart.rec k d))

def spec_l13DrawPart.d (k d : Nat) : (List TCol) → Int → TL1Cur → (List TVal) → Option (Unit × TL1Cur × (List TVal)) := (spec_l13DrawPart.rec k d)

def spec_l13DrawPart (k : Nat) : (List TCol) → Int → TL1Cur → (List TVal) → Option (Unit × TL1Cur × (List TVal)) := spec_l13DrawPart.d k k

def spec_l13Empty.l6 (k : Nat) (S159 : (List TCol) → Int → Option (Unit × (List TVal))) : Nat → (List TCol) → Int → Int → Int → (List TVal) → Option (Unit × (List TVal))
  | 0, _, _, _, _, _ => none
  | n + 1, t0, t1, t6, t7, o100 =>
    (rdL t0 t1).bind fun y1 => cond (decide (t7 < y1.2.2.2.1)) ((S159 t0 t6).bind fun r2 => cond (lim (List.length o100 + List.length r2.2)) ((spec_l5After k t0 t6).bind fun r3 => (spec_l13Empty.l6 k S159 n) t0 t1 r3 (IntKind.wrap .i64 (t7 + 1)) (o100 ++ r2.2)) none) (some ((), o100))

def spec_l13Empty.b (k : Nat) (S159 : (List TCol) → Int → Option (Unit × (List TVal))) (t0 : List TCol) (t1 : Int) : Option (Unit × (List TVal)) :=
  (cond (decide (t1 > 0)) ((rdL t0 t1).bind fun y4 => some (y4.2.2.1 != 0)) (some (false))).bind fun b5 => (cond b5 (some (true)) ((rdL t0 t1).bind fun y6 => some (y6.2.1 != 7))).bind fun b7 => cond b7 (some ((), [(0, (⟨#[]⟩ : ByteArray), ())])) (spec_l13Empty.l6 k S159 k t0 t1 (IntKind.wrap .i64 (t1 + 1)) 0 [])

def spec_l13Empty.rec (k : Nat) : Nat → ((List TCol) → Int → Option (Unit × (List TVal)))
  | 0 => fun _ _ => none
  | d + 1 => spec_l13Empty.b k ((spec_l13Empty.rec k d))

def spec_l13Empty.d (k d : Nat) : (List TCol) → Int → Option (Unit × (List TVal)) := (spec_l13Empty.rec k d)

def spec_l13Empty (k : Nat) : (List TCol) → Int → Option (Unit × (List TVal)) := spec_l13Empty.d k k

def spec_RecEmpty (k : Nat) (t0 : List TCol) : Option (((Unit × Unit) × Bool) × (List TVal)) :=
  (spec_SchemaOk k t0).bind fun r1 => cond (!r1) (some ((((), ()), false), [])) ((spec_l13Empty k t0 0).bind fun r2 => some ((((), ()), true), r2.2))

def spec_l13DrawRight.c4 (k : Nat) (o0 : TL1Cur) (o100 : Unit × Unit) (o101 : Unit × Unit) (o102 : List TVal) (o103 : List TVal) : Option (((Unit × Unit)) × TL1Cur × (List TVal)) :=
  some (((), ()), (o0, o102))

def spec_l13DrawRight (k : Nat) (t1 : List TCol) (o0 : TL1Cur) : Option (((Unit × Unit)) × TL1Cur × (List TVal)) :=
  (spec_l13DrawPart k t1 0 o0 []).bind fun r1 => (spec_RecOk k t1 (r1.2.2, ())).bind fun r2 => cond (!r2) ((spec_RecEmpty k t1).bind fun r3 => spec_l13DrawRight.c4 k r1.2.1 ((), ()) ((), ()) r3.2 []) (spec_l13DrawRight.c4 k r1.2.1 ((), ()) ((), ()) r1.2.2 [])

def spec_l14DrawRecs.l4 (k : Nat) : Nat → (List TCol) → Int → Int → TL1Cur → (List TRec) → Option (Unit × TL1Cur × (List TRec))
  | 0, _, _, _, _, _ => none
  | n + 1, t1, t8, t9, o0, o100 =>
    cond (decide (t9 < t8)) ((spec_l13DrawRight k t1 o0).bind fun r1 => cond (lim (List.length o100 + List.length [(r1.2.2, ())])) ((spec_l14DrawRecs.l4 k n) t1 t8 (IntKind.wrap .i64 (t9 + 1)) r1.2.1 (o100 ++ [(r1.2.2, ())])) none) (some ((), (o0, o100)))

def spec_l14DrawRecs (k : Nat) (t1 : List TCol) (t2 : Int) (o0 : TL1Cur) : Option (Unit × TL1Cur × (List TRec)) :=
  (spec_l1Below k (IntKind.wrap .i64 (t2 + 1)) o0).bind fun r2 => spec_l14DrawRecs.l4 k k t1 r2.1 0 r2.2 []

def spec_SplitWide.c6 (k : Nat) (t6 : Bool) : Option Int :=
  cond t6 (some 8) (some 0)

def spec_SplitWide (k : Nat) (t0 : Int) : Option Int :=
  cond (t0 == 1) (some 4) (cond (t0 == 2) (spec_SplitWide.c6 k (t0 == 2)) (spec_SplitWide.c6 k (t0 == 5)))

def spec_EncOk.c13 (k : Nat) (t1 : Int) (t8 : Int) (t24 : Bool) : Option Bool :=
  cond t24 (some (t1 == 6)) (cond (t8 == 9) ((spec_SplitWide k t1).bind fun r1 => some (decide (r1 > 0))) (some false))

def spec_EncOk.c6 (k : Nat) (t1 : Int) (t8 : Int) (t9 : Bool) : Option Bool :=
  cond t9 (some true) (cond (t8 == 3) (some (t1 == 0)) (cond (t8 == 5) ((cond (t1 == 1) (some (true)) (some (t1 == 2))).bind fun b2 => some b2) (cond (t8 == 6) (spec_EncOk.c13 k t1 t8 (t8 == 6)) (spec_EncOk.c13 k t1 t8 (t8 == 7)))))

def spec_EncOk (k : Nat) (t0 : Int) (t1 : Int) : Option Bool :=
  (spec_l5Type k t1).bind fun r3 => cond (!r3) (some false) (cond (t0 == 0) (spec_EncOk.c6 k t1 t0 (t0 == 0)) (spec_EncOk.c6 k t1 t0 (t0 == 8)))

def spec_l16DrawEnc.c4 (k : Nat) (L3 : Int → Int → TL1Cur → (List Int) → Option (Int × TL1Cur)) (t1 : Int) (t6 : Int) (o0 : TL1Cur) (o100 : List Int) : Option (Int × TL1Cur) :=
  L3 t1 (IntKind.wrap .i64 (t6 + 1)) o0 o100

def spec_l16DrawEnc.l3 (k : Nat) : Nat → Int → Int → TL1Cur → (List Int) → Option (Int × TL1Cur)
  | 0, _, _, _, _ => none
  | n + 1, t1, t6, o0, o100 =>
    cond (decide (t6 < 10)) ((cond (t6 != 8) ((spec_EncOk k t6 t1).bind fun r1 => some (r1)) (some (false))).bind fun b2 => cond b2 (cond (lim (List.length o100 + List.length [t6, t6])) (spec_l16DrawEnc.c4 k (spec_l16DrawEnc.l3 k n) t1 t6 o0 (o100 ++ [t6, t6])) none) (spec_l16DrawEnc.c4 k (spec_l16DrawEnc.l3 k n) t1 t6 o0 o100)) ((spec_l1Once k 20 o0).bind fun r3 => cond r3.1 ((spec_l1Below k 11 r3.2).bind fun r4 => some (r4.1, r4.2)) ((spec_l1PickInt k o100 r3.2).bind fun r5 => some (r5.1, r5.2)))

def spec_l16DrawEnc (k : Nat) (t1 : Int) (o0 : TL1Cur) : Option (Int × TL1Cur) :=
  spec_l16DrawEnc.l3 k k t1 1 o0 [0, 8]

def spec_l16DrawConfig.c9 (k : Nat) (L4 : (List TCol) → Int → TL1Cur → (Int × Bool × Int × Int × Int × Unit × Unit) → (Int × Bool × Int × Int × Int × Unit × Unit) → (List Int) → (List Int) → (List Int) → Option (((Int × Bool × Int × Int × Int × Unit × Unit)) × TL1Cur × (List Int))) (t1 : List TCol) (t7 : Int) (t8 : Int) (o0 : TL1Cur) (o100 : Int × Bool × Int × Int × Int × Unit × Unit) (o101 : Int × Bool × Int × Int × Int × Unit × Unit) (o102 : List Int) (o103 : List Int) (o104 : List Int) : Option (((Int × Bool × Int × Int × Int × Unit × Unit)) × TL1Cur × (List Int)) :=
  cond (lim (List.length o104 + List.length [t8])) (L4 t1 (IntKind.wrap .i64 (t7 + 1)) o0 o100 o101 o102 o103 (o104 ++ [t8])) none

def spec_l16DrawConfig.l4 (k : Nat) : Nat → (List TCol) → Int → TL1Cur → (Int × Bool × Int × Int × Int × Unit × Unit) → (Int × Bool × Int × Int × Int × Unit × Unit) → (List Int) → (List Int) → (List Int) → Option (((Int × Bool × Int × Int × Int × Unit × Unit)) × TL1Cur × (List Int))
  | 0, _, _, _, _, _, _, _, _ => none
  | n + 1, t1, t7, o0, o100, o101, o102, o103, o104 =>
    cond (decide (t7 < (List.length o102 : Int))) ((rdL o102 t7).bind fun y1 => (rdL t1 y1).bind fun y2 => (spec_l16DrawEnc k y2.2.1 o0).bind fun r3 => (rdL o102 t7).bind fun y4 => (rdL t1 y4).bind fun y5 => (spec_EncOk k r3.1 y5.2.1).bind fun r6 => cond (!r6) (spec_l16DrawConfig.c9 k (spec_l16DrawConfig.l4 k n) t1 t7 0 r3.2 o100 o101 o102 o103 o104) (spec_l16DrawConfig.c9 k (spec_l16DrawConfig.l4 k n) t1 t7 r3.1 r3.2 o100 o101 o102 o103 o104)) (some (o101, (o0, o104)))

def spec_l16DrawConfig (k : Nat) (t1 : List TCol) (o0 : TL1Cur) : Option (((Int × Bool × Int × Int × Int × Unit × Unit)) × TL1Cur × (List Int)) :=
  (spec_l1Below k 2 o0).bind fun r7 => (spec_l1Once k 2 r7.2).bind fun r8 => (spec_l1Below k 4 r8.2).bind fun r9 => (spec_l1Below k 8 r9.2).bind fun r10 => (spec_l1PickInt k [0, 10, 200, 20000] r10.2).bind fun r11 => (spec_l5Leaves k t1).bind fun r12 => spec_l16DrawConfig.l4 k k t1 0 r11.2 (0, false, 0, 0, 0, (), ()) (IntKind.wrap .i64 (1 + r7.1), r8.1, IntKind.wrap .i64 (1 + r9.1), IntKind.wrap .i64 (1 + r10.1), r11.1, (), ()) r12.2 [] []

def spec_PredNot (k : Nat) (t0 : List TPred) : Option ((Unit × Bool) × (List TPred)) :=
  (cond ((List.length t0 : Int) == 0) (some (true)) (some (decide ((IntKind.wrap .i64 ((List.length t0 : Int) + 1)) > 31)))).bind fun b1 => cond b1 (some (((), false), [])) (cond (lim ((0 : Nat) + List.length t0)) (cond (lim (List.length ([] ++ t0 : List TPred) + List.length ([(7, 0, (0, (⟨#[]⟩ : ByteArray), ()), IntKind.wrap .i64 ((List.length t0 : Int) - 1), 0, ())] : List TPred))) (some (((), true), ([] ++ t0) ++ [(7, 0, (0, (⟨#[]⟩ : ByteArray), ()), IntKind.wrap .i64 ((List.length t0 : Int) - 1), 0, ())])) none) none)

def spec_l20Shift.c13 (k : Nat) (L3 : (List TPred) → Int → Int → (List TPred) → Option (Unit × (List TPred))) (t0 : List TPred) (t1 : Int) (t6 : Int) (o100 : List TPred) (o101 : TPred) : Option (Unit × (List TPred)) :=
  cond (lim (List.length o100 + List.length [o101])) (L3 t0 t1 (IntKind.wrap .i64 (t6 + 1)) (o100 ++ [o101])) none

def spec_l20Shift.c9 (k : Nat) (L3 : (List TPred) → Int → Int → (List TPred) → Option (Unit × (List TPred))) (t0 : List TPred) (t1 : Int) (t6 : Int) (t20 : Int) (t21 : Bool) (o100 : List TPred) (o101 : TPred) : Option (Unit × (List TPred)) :=
  cond t21 (spec_l20Shift.c13 k L3 t0 t1 t6 o100 (o101.1, o101.2.1, o101.2.2.1, IntKind.wrap .i64 (o101.2.2.2.1 + t1), IntKind.wrap .i64 (o101.2.2.2.2.1 + t1), ())) (cond (t20 == 7) (spec_l20Shift.c13 k L3 t0 t1 t6 o100 (o101.1, o101.2.1, o101.2.2.1, IntKind.wrap .i64 (o101.2.2.2.1 + t1), o101.2.2.2.2.1, ())) (spec_l20Shift.c13 k L3 t0 t1 t6 o100 o101))

def spec_l20Shift.l3 (k : Nat) : Nat → (List TPred) → Int → Int → (List TPred) → Option (Unit × (List TPred))
  | 0, _, _, _, _ => none
  | n + 1, t0, t1, t6, o100 =>
    cond (decide (t6 < (List.length t0 : Int))) ((rdL t0 t6).bind fun y1 => cond (y1.1 == 5) (spec_l20Shift.c9 k (spec_l20Shift.l3 k n) t0 t1 t6 y1.1 (y1.1 == 5) o100 y1) (spec_l20Shift.c9 k (spec_l20Shift.l3 k n) t0 t1 t6 y1.1 (y1.1 == 6) o100 y1)) (some ((), o100))

def spec_l20Shift (k : Nat) (t0 : List TPred) (t1 : Int) : Option (Unit × (List TPred)) :=
  spec_l20Shift.l3 k k t0 t1 0 []

def spec_PredPair (k : Nat) (t0 : Int) (t1 : List TPred) (t2 : List TPred) : Option ((Unit × Bool) × (List TPred)) :=
  (cond (t0 != 5) (some (t0 != 6)) (some (false))).bind fun b1 => (cond b1 (some (true)) (some ((List.length t1 : Int) == 0))).bind fun b2 => (cond b2 (some (true)) (some ((List.length t2 : Int) == 0))).bind fun b3 => (cond b3 (some (true)) (some (decide ((IntKind.wrap .i64 ((IntKind.wrap .i64 ((List.length t1 : Int) + (List.length t2 : Int))) + 1)) > 31)))).bind fun b4 => cond b4 (some (((), false), [])) (cond (lim ((0 : Nat) + List.length t1)) ((spec_l20Shift k t2 (List.length t1 : Int)).bind fun r5 => cond (lim (List.length ([] ++ t1 : List TPred) + List.length r5.2)) (cond (lim (List.length (([] ++ t1) ++ r5.2) + List.length ([(t0, 0, (0, (⟨#[]⟩ : ByteArray), ()), IntKind.wrap .i64 ((List.length t1 : Int) - 1), IntKind.wrap .i64 ((List.length (([] ++ t1) ++ r5.2) : Int) - 1), ())] : List TPred))) (some (((), true), (([] ++ t1) ++ r5.2) ++ [(t0, 0, (0, (⟨#[]⟩ : ByteArray), ()), IntKind.wrap .i64 ((List.length t1 : Int) - 1), IntKind.wrap .i64 ((List.length (([] ++ t1) ++ r5.2) : Int) - 1), ())])) none) none) none)

def spec_l20DrawTree.c18 (k : Nat) (o0 : TL1Cur) (o100 : TPred) : Option (Unit × TL1Cur × (List TPred)) :=
  some ((), (o0, [o100]))

def spec_l20DrawTree.c10 (k : Nat) (S42 : (List TCol) → Int → TL1Cur → Option (Unit × TL1Cur × (List TPred))) (t1 : List TCol) (t2 : Int) (o0 : TL1Cur) (o100 : List TPred) : Option (Unit × TL1Cur × (List TPred)) :=
  (spec_l1Below k 2 o0).bind fun r1 => (S42 t1 (IntKind.wrap .i64 (t2 - 1)) r1.2).bind fun r2 => (spec_PredPair k (IntKind.wrap .i64 (5 + r1.1)) o100 r2.2.2).bind fun r3 => cond r3.1.2 (some ((), (r2.2.1, r3.2))) (some ((), (r2.2.1, o100)))

def spec_l20DrawTree.b (k : Nat) (S42 : (List TCol) → Int → TL1Cur → Option (Unit × TL1Cur × (List TPred))) (t1 : List TCol) (t2 : Int) (o0 : TL1Cur) : Option (Unit × TL1Cur × (List TPred)) :=
  (spec_l20Leaves k t1).bind fun r4 => cond ((List.length r4.2 : Int) == 0) (some ((), (o0, [(4, 0, (0, (⟨#[]⟩ : ByteArray), ()), 0, 0, ())]))) (cond (decide (t2 > 0)) ((spec_l1Once k 2 o0).bind fun r5 => cond r5.1 ((S42 t1 (IntKind.wrap .i64 (t2 - 1)) r5.2).bind fun r6 => (spec_l1Once k 3 r6.2.1).bind fun r7 => cond r7.1 ((spec_PredNot k r6.2.2).bind fun r8 => cond r8.1.2 (some ((), (r7.2, r8.2))) (spec_l20DrawTree.c10 k S42 t1 t2 r7.2 r6.2.2)) (spec_l20DrawTree.c10 k S42 t1 t2 r7.2 r6.2.2)) ((spec_l1Below k 4 r5.2).bind fun r9 => (spec_l1PickInt k r4.2 r9.2).bind fun r10 => cond ((IntKind.wrap .i64 (1 + r9.1)) != 4) ((spec_LeafOf k t1 r10.1).bind fun r11 => (spec_l6DrawRight k r11.1.1 r10.2).bind fun r12 => spec_l20DrawTree.c18 k r12.2 (IntKind.wrap .i64 (1 + r9.1), r10.1, r12.1, 0, 0, ())) (spec_l20DrawTree.c18 k r10.2 (IntKind.wrap .i64 (1 + r9.1), r10.1, (0, (⟨#[]⟩ : ByteArray), ()), 0, 0, ())))) (cond false ((S42 t1 (IntKind.wrap .i64 (t2 - 1)) o0).bind fun r13 => (spec_l1Once k 3 r13.2.1).bind fun r14 => cond r14.1 ((spec_PredNot k r13.2.2).bind fun r15 => cond r15.1.2 (some ((), (r14.2, r15.2))) (spec_l20DrawTree.c10 k S42 t1 t2 r14.2 r13.2.2)) (spec_l20DrawTree.c10 k S42 t1 t2 r14.2 r13.2.2)) ((spec_l1Below k 4 o0).bind fun r16 => (spec_l1PickInt k r4.2 r16.2).bind fun r17 => cond ((IntKind.wrap .i64 (1 + r16.1)) != 4) ((spec_LeafOf k t1 r17.1).bind fun r18 => (spec_l6DrawRight k r18.1.1 r17.2).bind fun r19 => spec_l20DrawTree.c18 k r19.2 (IntKind.wrap .i64 (1 + r16.1), r17.1, r19.1, 0, 0, ())) (spec_l20DrawTree.c18 k r17.2 (IntKind.wrap .i64 (1 + r16.1), r17.1, (0, (⟨#[]⟩ : ByteArray), ()), 0, 0, ())))))

def spec_l20DrawTree.rec (k : Nat) : Nat → ((List TCol) → Int → TL1Cur → Option (Unit × TL1Cur × (List TPred)))
  | 0 => fun _ _ _ => none
  | d + 1 => spec_l20DrawTree.b k ((spec_l20DrawTree.rec k d))

def spec_l20DrawTree.d (k d : Nat) : (List TCol) → Int → TL1Cur → Option (Unit × TL1Cur × (List TPred)) := (spec_l20DrawTree.rec k d)

def spec_l20DrawTree (k : Nat) : (List TCol) → Int → TL1Cur → Option (Unit × TL1Cur × (List TPred)) := spec_l20DrawTree.d k k

def spec_DrawSome.d5 (k : Nat) (t7 : List TCol) (o100 : Int × Bool × Int × Int × Int × Unit × Unit) (o101 : TL1Cur) (o102 : List TRec) (o103 : Int × Bool × Int × Int × Int × Unit × Unit) (o104 : List Int) (o105 : List Int) : Option (((List TCol) × Unit × (Int × Bool × Int × Int × Int × Unit × Unit) × Unit) × (List TRec) × (List Int) × (List TPred)) :=
  (spec_l1Below k 2 o101).bind fun r1 => (spec_l20DrawTree k t7 (IntKind.wrap .i64 (1 + r1.1)) r1.2).bind fun r2 => some ((t7, (), o103, ()), (o102, o104, r2.2.2))

def spec_DrawSome (k : Nat) (t0 : List Int) : Option (((List TCol) × Unit × (Int × Bool × Int × Int × Int × Unit × Unit) × Unit) × (List TRec) × (List Int) × (List TPred)) :=
  (spec_l1New k t0).bind fun r9 => (spec_l20DrawSchema k r9.2).bind fun r10 => (spec_l14DrawRecs k r10.2.2 12 r10.2.1).bind fun r11 => (spec_l16DrawConfig k r10.2.2 r11.2.1).bind fun r12 => spec_DrawSome.d5 k r10.2.2 (0, false, 0, 0, 0, (), ()) r12.2.1 r11.2.2 r12.1 r12.2.2 []

def spec_l20Plain.c14 (k : Nat) (t14 : Int) (t72 : Bool) (o100 : TPred) (o101 : TPred) : Option Bool :=
  cond t72 (some ((o100.1 == o101.1) && ((o100.2.1 == o101.2.1) && (((o100.2.2.1.1 == o101.2.2.1.1) && (eqS o100.2.2.1.2.1 o101.2.2.1.2.1 && true)) && ((o100.2.2.2.1 == o100.2.2.2.1) && ((o100.2.2.2.2.1 == o100.2.2.2.2.1) && true)))))) (cond (t14 == 7) (some ((o100.1 == o101.1) && ((o100.2.1 == o101.2.1) && (((o100.2.2.1.1 == o101.2.2.1.1) && (eqS o100.2.2.1.2.1 o101.2.2.1.2.1 && true)) && ((o100.2.2.2.1 == o100.2.2.2.1) && ((o100.2.2.2.2.1 == o101.2.2.2.2.1) && true)))))) (some false))

def spec_l20Plain.c6 (k : Nat) (t0 : List TCol) (t14 : Int) (t15 : Bool) (o100 : TPred) (o101 : TPred) : Option Bool :=
  cond t15 ((spec_LeafOf k t0 o100.2.1).bind fun r1 => (cond r1.2 (some (r1.1.2.1 == 0)) (some (false))).bind fun b2 => (cond b2 ((spec_ValOk k r1.1.1 o100.2.2.1).bind fun r3 => some (r3)) (some (false))).bind fun b4 => (cond b4 (some (o100.2.2.2.1 == 0)) (some (false))).bind fun b5 => (cond b5 (some (o100.2.2.2.2.1 == 0)) (some (false))).bind fun b6 => some b6) (cond (t14 == 4) ((spec_LeafOf k t0 o100.2.1).bind fun r7 => (cond r7.2 (some (r7.1.2.1 == 0)) (some (false))).bind fun b8 => (cond b8 (some (((o100.1 == o101.1) && ((o100.2.1 == o100.2.1) && (((o100.2.2.1.1 == o101.2.2.1.1) && (eqS o100.2.2.1.2.1 o101.2.2.1.2.1 && true)) && ((o100.2.2.2.1 == o101.2.2.2.1) && ((o100.2.2.2.2.1 == o101.2.2.2.2.1) && true))))))) (some (false))).bind fun b9 => some b9) (cond (t14 == 5) (spec_l20Plain.c14 k t14 (t14 == 5) o100 o101) (spec_l20Plain.c14 k t14 (t14 == 6) o100 o101)))

def spec_l20Plain (k : Nat) (t0 : List TCol) (t1 : TPred) : Option Bool :=
  cond (t1.1 == 1) (spec_l20Plain.c6 k t0 t1.1 (t1.1 == 1) t1 (t1.1, 0, (0, (⟨#[]⟩ : ByteArray), ()), 0, 0, ())) (cond (t1.1 == 2) (spec_l20Plain.c6 k t0 t1.1 (t1.1 == 2) t1 (t1.1, 0, (0, (⟨#[]⟩ : ByteArray), ()), 0, 0, ())) (spec_l20Plain.c6 k t0 t1.1 (t1.1 == 3) t1 (t1.1, 0, (0, (⟨#[]⟩ : ByteArray), ()), 0, 0, ())))

def spec_l20From.c10 (k : Nat) (S46 : (List TPred) → Int → Option Int) (t0 : List TPred) (t1 : Int) (t27 : Bool) : Option Int :=
  cond t27 ((rdL t0 t1).bind fun y1 => cond (y1.2.2.2.2.1 != (IntKind.wrap .i64 (t1 - 1))) (some (-1)) ((S46 t0 (IntKind.wrap .i64 (t1 - 1))).bind fun r2 => (cond (decide (r2 < 1)) (some (true)) ((rdL t0 t1).bind fun y3 => some (y3.2.2.2.1 != (IntKind.wrap .i64 (r2 - 1))))).bind fun b4 => cond b4 (some (-1)) ((S46 t0 (IntKind.wrap .i64 (r2 - 1))).bind fun r5 => some r5))) (some t1)

def spec_l20From.b (k : Nat) (S46 : (List TPred) → Int → Option Int) (t0 : List TPred) (t1 : Int) : Option Int :=
  cond (decide (t1 < 0)) (some (-1)) ((rdL t0 t1).bind fun y6 => cond (y6.1 == 7) ((rdL t0 t1).bind fun y7 => cond (y7.2.2.2.1 != (IntKind.wrap .i64 (t1 - 1))) (some (-1)) ((S46 t0 (IntKind.wrap .i64 (t1 - 1))).bind fun r8 => some r8)) (cond (y6.1 == 5) (spec_l20From.c10 k S46 t0 t1 (y6.1 == 5)) (spec_l20From.c10 k S46 t0 t1 (y6.1 == 6))))

def spec_l20From.rec (k : Nat) : Nat → ((List TPred) → Int → Option Int)
  | 0 => fun _ _ => none
  | d + 1 => spec_l20From.b k ((spec_l20From.rec k d))

def spec_l20From.d (k d : Nat) : (List TPred) → Int → Option Int := (spec_l20From.rec k d)

def spec_l20From (k : Nat) : (List TPred) → Int → Option Int := spec_l20From.d k k

def spec_PredOk.l4 (k : Nat) : Nat → (List TCol) → (List TPred) → Int → Option Bool
  | 0, _, _, _ => none
  | n + 1, t0, t1, t5 =>
    cond (decide (t5 < (List.length t1 : Int))) ((rdL t1 t5).bind fun y1 => (spec_l20Plain k t0 y1).bind fun r2 => cond (!r2) (some false) ((spec_PredOk.l4 k n) t0 t1 (IntKind.wrap .i64 (t5 + 1)))) ((spec_l20From k t1 (IntKind.wrap .i64 ((List.length t1 : Int) - 1))).bind fun r3 => some (r3 == 0))

def spec_PredOk (k : Nat) (t0 : List TCol) (t1 : List TPred) : Option Bool :=
  (spec_SchemaOk k t0).bind fun r4 => (cond (!r4) (some (true)) ((spec_l1In k (List.length t1 : Int) 1 31).bind fun r5 => some (!r5))).bind fun b6 => cond b6 (some false) (spec_PredOk.l4 k k t0 t1 0)

def impl_within (k : Nat) (t0 : Int) (t1 : Int) (t2 : Int) : Option Bool :=
  (cond (decide (t0 ≥ t1)) (some (decide (t0 ≤ t2))) (some (false))).bind fun b1 => some b1

def impl_TypeOk (k : Nat) (t0 : Int) : Option Bool :=
  (impl_within k t0 0 2).bind fun r1 => (cond r1 (some (true)) (some (t0 == 5))).bind fun b2 => (cond b2 (some (true)) (some (t0 == 6))).bind fun b3 => some b3

def impl_colOk (k : Nat) (t0 : TCol) : Option Bool :=
  (cond (t0.2.1 == 7) (some (decide (t0.2.2.2.1 > 0))) (some (false))).bind fun b1 => (impl_TypeOk k t0.2.1).bind fun r2 => (cond r2 (some (t0.2.2.2.1 == 0)) (some (false))).bind fun b3 => (cond b1 (some (true)) (some (b3))).bind fun b4 => (cond b4 ((impl_within k t0.2.2.1 0 2).bind fun r5 => some (r5)) (some (false))).bind fun b6 => some b6

def impl_isColName.l2 (k : Nat) : Nat → ByteArray → Int → Int → Option Bool
  | 0, _, _, _ => none
  | n + 1, t0, t5, t6 =>
    cond (decide (t6 < t5)) ((btS t0 t6).bind fun y1 => (impl_within k (IntKind.wrap .i64 y1) 97 122).bind fun r2 => cond (!r2) (some false) ((impl_isColName.l2 k n) t0 t5 (IntKind.wrap .i64 (t6 + 1)))) ((impl_within k (t0.size : Int) 1 20).bind fun r3 => some r3)

def impl_isColName (k : Nat) (t0 : ByteArray) : Option Bool :=
  impl_isColName.l2 k k t0 (t0.size : Int) 0

def impl_colAfter.l10 (k : Nat) (S103 : (List TCol) → Int → Int → Option Int) (L6 : (List TCol) → Int → Int → Int → Int → (List ByteArray) → Option Int) : Nat → (List TCol) → Int → Int → Int → Int → Int → Int → (List ByteArray) → Option Int
  | 0, _, _, _, _, _, _, _, _ => none
  | n + 1, t0, t2, t7, t47, t48, t55, t56, o100 =>
    cond (decide (t56 < t55)) ((rdL o100 t56).bind fun y1 => (rdL t0 t7).bind fun y2 => cond (eqS y1 y2.1) (some (-1)) ((impl_colAfter.l10 k S103 L6 n) t0 t2 t7 t47 t48 t55 (IntKind.wrap .i64 (t56 + 1)) o100)) ((rdL t0 t7).bind fun y3 => cond (lim (List.length o100 + List.length [y3.1])) ((S103 t0 t7 (IntKind.wrap .i64 (t2 + 1))).bind fun r4 => cond (decide (r4 < 0)) (some (-1)) (L6 t0 t2 r4 t47 (IntKind.wrap .i64 (t48 + 1)) (o100 ++ [y3.1]))) none)

def impl_colAfter.l6 (k : Nat) (S103 : (List TCol) → Int → Int → Option Int) : Nat → (List TCol) → Int → Int → Int → Int → (List ByteArray) → Option Int
  | 0, _, _, _, _, _, _ => none
  | n + 1, t0, t2, t7, t47, t48, o100 =>
    cond (decide (t48 < t47)) (cond (decide (t7 ≥ (List.length t0 : Int))) (some (-1)) (impl_colAfter.l10 k S103 (impl_colAfter.l6 k S103 n) k t0 t2 t7 t47 t48 (List.length o100 : Int) 0 o100)) (some t7)

def impl_colAfter.b (k : Nat) (S103 : (List TCol) → Int → Int → Option Int) (t0 : List TCol) (t1 : Int) (t2 : Int) : Option Int :=
  (cond (decide (t1 ≥ (List.length t0 : Int))) (some (true)) (some (decide (t2 > 6)))).bind fun b5 => (cond b5 (some (true)) ((rdL t0 t1).bind fun y6 => (impl_colOk k y6).bind fun r7 => some (!r7))).bind fun b8 => (cond b8 (some (true)) ((cond (decide (t1 > 0)) ((rdL t0 t1).bind fun y9 => (impl_isColName k y9.1).bind fun r10 => some (!r10)) (some (false))).bind fun b11 => some (b11))).bind fun b12 => cond b12 (some (-1)) ((rdL t0 t1).bind fun y13 => impl_colAfter.l6 k S103 k t0 t2 (IntKind.wrap .i64 (t1 + 1)) y13.2.2.2.1 0 [])

def impl_colAfter.rec (k : Nat) : Nat → ((List TCol) → Int → Int → Option Int)
  | 0 => fun _ _ _ => none
  | d + 1 => impl_colAfter.b k ((impl_colAfter.rec k d))

def impl_colAfter.d (k d : Nat) : (List TCol) → Int → Int → Option Int := (impl_colAfter.rec k d)

def impl_colAfter (k : Nat) : (List TCol) → Int → Int → Option Int := impl_colAfter.d k k

def impl_SchemaOk (k : Nat) (t0 : List TCol) : Option Bool :=
  (impl_within k (List.length t0 : Int) 2 20).bind fun r1 => (cond (!r1) (some (true)) ((rdL t0 0).bind fun y2 => some (y2.2.1 != 7))).bind fun b3 => (cond b3 (some (true)) ((rdL t0 0).bind fun y4 => some (y4.2.2.1 != 0))).bind fun b5 => (cond b5 (some (true)) ((rdL t0 0).bind fun y6 => some (!eqS y6.1 (⟨#[]⟩ : ByteArray)))).bind fun b7 => cond b7 (some false) ((impl_colAfter k t0 0 1).bind fun r8 => some (r8 == (List.length t0 : Int)))

def impl_leavesOf.c7 (k : Nat) (L3 : (List TCol) → Int → Int → (List Int) → Option (Unit × (List Int))) (t7 : List TCol) (t8 : Int) (t9 : Int) (o100 : List Int) : Option (Unit × (List Int)) :=
  L3 t7 t8 (IntKind.wrap .i64 (t9 + 1)) o100

def impl_leavesOf.l3 (k : Nat) : Nat → (List TCol) → Int → Int → (List Int) → Option (Unit × (List Int))
  | 0, _, _, _, _ => none
  | n + 1, t7, t8, t9, o100 =>
    cond (decide (t9 < t8)) ((rdL t7 t9).bind fun y1 => cond (y1.2.1 != 7) (cond (lim (List.length o100 + List.length [t9])) (impl_leavesOf.c7 k (impl_leavesOf.l3 k n) t7 t8 t9 (o100 ++ [t9])) none) (impl_leavesOf.c7 k (impl_leavesOf.l3 k n) t7 t8 t9 o100)) (some ((), o100))

def impl_leavesOf (k : Nat) (t0 : List TCol) : Option (Unit × (List Int)) :=
  impl_leavesOf.l3 k k t0 (List.length t0 : Int) 0 []

def impl_SchemaLeaves (k : Nat) (t0 : List TCol) : Option (Unit × (List Int)) :=
  (impl_SchemaOk k t0).bind fun r1 => cond (!r1) (some ((), [])) ((impl_leavesOf k t0).bind fun r2 => some ((), r2.2))

def impl_wayTo.l6 (k : Nat) : Nat → (List TCol) → Int → Int → (List Int) → (List Int) → Option (Unit × (List Int))
  | 0, _, _, _, _, _ => none
  | n + 1, t0, t1, t7, o100, o101 =>
    (rdL o100 t1).bind fun y1 => cond (decide (t7 ≤ y1)) ((impl_colAfter k t0 t7 1).bind fun r2 => (rdL o100 t1).bind fun y3 => cond (decide (r2 > y3)) (cond (lim (List.length o101 + List.length [t7])) ((impl_wayTo.l6 k n) t0 t1 (IntKind.wrap .i64 (t7 + 1)) o100 (o101 ++ [t7])) none) ((impl_wayTo.l6 k n) t0 t1 r2 o100 o101)) (some ((), o101))

def impl_wayTo (k : Nat) (t0 : List TCol) (t1 : Int) : Option (Unit × (List Int)) :=
  (impl_SchemaLeaves k t0).bind fun r4 => (impl_within k t1 0 (IntKind.wrap .i64 ((List.length r4.2 : Int) - 1))).bind fun r5 => cond (!r5) (some ((), [])) (impl_wayTo.l6 k k t0 t1 1 r4.2 [])

def impl_LeafMax.c12 (k : Nat) (L6 : (List TCol) → Int → Int → Int → Int → (List Int) → Option (Int × Int)) (t0 : List TCol) (t7 : Int) (t8 : Int) (t18 : Int) (t19 : Int) (o100 : List Int) : Option (Int × Int) :=
  L6 t0 t7 t8 t18 (IntKind.wrap .i64 (t19 + 1)) o100

def impl_LeafMax.c10 (k : Nat) (L6 : (List TCol) → Int → Int → Int → Int → (List Int) → Option (Int × Int)) (t0 : List TCol) (t7 : Int) (t8 : Int) (t10 : Int) (t18 : Int) (t19 : Int) (o100 : List Int) : Option (Int × Int) :=
  (rdL t0 t10).bind fun y1 => cond (y1.2.2.1 == 2) (impl_LeafMax.c12 k L6 t0 t7 (IntKind.wrap .i64 (t8 + 1)) t18 t19 o100) (impl_LeafMax.c12 k L6 t0 t7 t8 t18 t19 o100)

def impl_LeafMax.l6 (k : Nat) : Nat → (List TCol) → Int → Int → Int → Int → (List Int) → Option (Int × Int)
  | 0, _, _, _, _, _, _ => none
  | n + 1, t0, t7, t8, t18, t19, o100 =>
    cond (decide (t19 < t18)) ((rdL o100 t19).bind fun y2 => (rdL t0 y2).bind fun y3 => cond (y3.2.2.1 != 0) (impl_LeafMax.c10 k (impl_LeafMax.l6 k n) t0 (IntKind.wrap .i64 (t7 + 1)) t8 y2 t18 t19 o100) (impl_LeafMax.c10 k (impl_LeafMax.l6 k n) t0 t7 t8 y2 t18 t19 o100)) (some (t7, t8))

def impl_LeafMax (k : Nat) (t0 : List TCol) (t1 : Int) : Option (Int × Int) :=
  (impl_wayTo k t0 t1).bind fun r4 => cond ((List.length r4.2 : Int) == 0) (some ((-1), (-1))) (impl_LeafMax.l6 k k t0 0 0 (List.length r4.2 : Int) 0 r4.2)

def impl_LeafOf (k : Nat) (t0 : List TCol) (t1 : Int) : Option (TLeaf × Bool) :=
  (impl_SchemaLeaves k t0).bind fun r1 => (impl_within k t1 0 (IntKind.wrap .i64 ((List.length r1.2 : Int) - 1))).bind fun r2 => cond (!r2) (some ((0, 0, 0, ()), false)) ((impl_LeafMax k t0 t1).bind fun r3 => (rdL r1.2 t1).bind fun y4 => (rdL t0 y4).bind fun y5 => some ((y5.2.1, r3.2, r3.1, ()), true))

def impl_isInt32 (k : Nat) (t0 : Int) : Option Bool :=
  (impl_within k t0 (-2147483648) 2147483647).bind fun r1 => some r1

def impl_ValOk.c8 (k : Nat) (t0 : Int) (t26 : Bool) (o100 : TVal) : Option Bool :=
  cond t26 (some (eqS o100.2.1 (⟨#[]⟩ : ByteArray))) ((cond (t0 == 6) (some (o100.1 == 0)) (some (false))).bind fun b1 => (cond b1 (some (decide ((o100.2.1.size : Int) ≤ 40))) (some (false))).bind fun b2 => some b2)

def impl_ValOk (k : Nat) (t0 : Int) (t1 : TVal) : Option Bool :=
  cond (t0 == 0) ((impl_within k t1.1 0 1).bind fun r3 => (cond r3 (some (eqS t1.2.1 (⟨#[]⟩ : ByteArray))) (some (false))).bind fun b4 => some b4) (cond (t0 == 1) ((impl_isInt32 k t1.1).bind fun r5 => (cond r5 (some (eqS t1.2.1 (⟨#[]⟩ : ByteArray))) (some (false))).bind fun b6 => some b6) (cond (t0 == 2) (impl_ValOk.c8 k t0 (t0 == 2) t1) (impl_ValOk.c8 k t0 (t0 == 5) t1)))

def impl_plainPred (k : Nat) (t0 : List TCol) (t1 : TPred) : Option Bool :=
  (impl_LeafOf k t0 t1.2.1).bind fun r1 => (cond (!r1.2) (some (true)) (some (r1.1.2.1 != 0))).bind fun b2 => (cond b2 (some (true)) (some (t1.2.2.2.1 != 0))).bind fun b3 => (cond b3 (some (true)) (some (t1.2.2.2.2.1 != 0))).bind fun b4 => cond b4 (some false) (cond (t1.1 == 4) (some ((t1.2.2.1.1 == 0) && (eqS t1.2.2.1.2.1 (⟨#[]⟩ : ByteArray) && true))) ((impl_ValOk k r1.1.1 t1.2.2.1).bind fun r5 => some r5))

def impl_isPair (k : Nat) (t0 : Int) : Option Bool :=
  (cond (t0 == 5) (some (true)) (some (t0 == 6))).bind fun b1 => some b1

def impl_PredOk.c20 (k : Nat) (L5 : (List TCol) → (List TPred) → (List TPred) → Int → Int → (List Int) → Option Bool) (t0 : List TCol) (t1 : List TPred) (t20 : List TPred) (t21 : Int) (t22 : Int) (o100 : List Int) : Option Bool :=
  L5 t0 t1 t20 t21 (IntKind.wrap .i64 (t22 + 1)) o100

def impl_PredOk.l5 (k : Nat) : Nat → (List TCol) → (List TPred) → (List TPred) → Int → Int → (List Int) → Option Bool
  | 0, _, _, _, _, _, _ => none
  | n + 1, t0, t1, t20, t21, t22, o100 =>
    cond (decide (t22 < t21)) ((rdL t20 t22).bind fun y1 => (rdL o100 t22).bind fun y2 => (rdL o100 t22).bind fun y3 => (impl_within k y1.1 1 4).bind fun r4 => cond r4 ((impl_plainPred k t0 y1).bind fun r5 => cond (!r5) (some false) (impl_PredOk.c20 k (impl_PredOk.l5 k n) t0 t1 t20 t21 t22 (List.set o100 (Int.toNat t22) t22))) ((impl_isPair k y1.1).bind fun r6 => cond r6 ((cond (t22 == 0) (some (true)) ((rdL (List.set o100 (Int.toNat t22) t22) (IntKind.wrap .i64 (t22 - 1))).bind fun y7 => some (y7 == 0))).bind fun b8 => (cond b8 (some (true)) ((rdL (List.set o100 (Int.toNat t22) t22) (IntKind.wrap .i64 (t22 - 1))).bind fun y9 => some (!(((y1.1 == y1.1) && ((y1.2.1 == 0) && (((y1.2.2.1.1 == 0) && (eqS y1.2.2.1.2.1 (⟨#[]⟩ : ByteArray) && true)) && ((y1.2.2.2.1 == (IntKind.wrap .i64 (y9 - 1))) && ((y1.2.2.2.2.1 == (IntKind.wrap .i64 (t22 - 1))) && true))))))))).bind fun b10 => cond b10 (some false) ((rdL (List.set o100 (Int.toNat t22) t22) y1.2.2.2.1).bind fun y11 => (rdL (List.set o100 (Int.toNat t22) t22) t22).bind fun y12 => (rdL (List.set o100 (Int.toNat t22) t22) t22).bind fun y13 => impl_PredOk.c20 k (impl_PredOk.l5 k n) t0 t1 t20 t21 t22 (List.set (List.set o100 (Int.toNat t22) t22) (Int.toNat t22) y11))) (cond (y1.1 == 7) ((cond (t22 == 0) (some (true)) (some (!(((y1.1 == 7) && ((y1.2.1 == 0) && (((y1.2.2.1.1 == 0) && (eqS y1.2.2.1.2.1 (⟨#[]⟩ : ByteArray) && true)) && ((y1.2.2.2.1 == (IntKind.wrap .i64 (t22 - 1))) && ((y1.2.2.2.2.1 == 0) && true))))))))).bind fun b14 => cond b14 (some false) ((rdL (List.set o100 (Int.toNat t22) t22) y1.2.2.2.1).bind fun y15 => (rdL (List.set o100 (Int.toNat t22) t22) t22).bind fun y16 => (rdL (List.set o100 (Int.toNat t22) t22) t22).bind fun y17 => impl_PredOk.c20 k (impl_PredOk.l5 k n) t0 t1 t20 t21 t22 (List.set (List.set o100 (Int.toNat t22) t22) (Int.toNat t22) y15))) (some false)))) ((rdL o100 (IntKind.wrap .i64 ((List.length t1 : Int) - 1))).bind fun y18 => some (y18 == 0))

def impl_PredOk (k : Nat) (t0 : List TCol) (t1 : List TPred) : Option Bool :=
  (impl_SchemaOk k t0).bind fun r19 => (cond (!r19) (some (true)) ((impl_within k (List.length t1 : Int) 1 31).bind fun r20 => some (!r20))).bind fun b21 => cond b21 (some false) (cond (okLen (List.length t1 : Int)) (impl_PredOk.l5 k k t0 t1 t1 (List.length t1 : Int) 0 (List.replicate (Int.toNat (List.length t1 : Int)) 0)) none)

def impl_FloatKey (k : Nat) (t0 : Int) : Option Int :=
  cond (decide (t0 < 0)) (some (bits .xor .i64 t0 9223372036854775807)) (some t0)

def impl_ValLess.d5 (k : Nat) (o100 : TVal) (o101 : TVal) : Option Bool :=
  (impl_FloatKey k o100.1).bind fun r1 => (impl_FloatKey k o101.1).bind fun r2 => some (decide (r1 < r2))

def impl_ValLess (k : Nat) (t0 : Int) (t1 : TVal) (t2 : TVal) : Option Bool :=
  (impl_ValOk k t0 t1).bind fun r9 => (cond (!r9) (some (true)) ((impl_ValOk k t0 t2).bind fun r10 => some (!r10))).bind fun b11 => cond b11 (some false) (cond (t0 == 5) (impl_ValLess.d5 k t1 t2) (cond (t0 == 6) (some (ltS t1.2.1 t2.2.1)) (some (decide (t1.1 < t2.1)))))

def impl_may (k : Nat) (t0 : Int) (t1 : TPred) (t2 : TKnown) : Option (Bool × Bool) :=
  cond (!t2.1) (some (true, true)) (cond (t1.1 == 1) ((impl_ValLess k t0 t1.2.2.1 t2.2.1.2.2.1).bind fun r1 => (cond (!r1) ((impl_ValLess k t0 t2.2.1.2.2.2.1 t1.2.2.1).bind fun r2 => some (!r2)) (some (false))).bind fun b3 => (cond t2.2.1.2.1 (some (b3)) (some (false))).bind fun b4 => (cond (decide (t2.2.1.1 > 0)) (some (true)) ((cond t2.2.1.2.1 ((cond (!(((t2.2.1.2.2.1.1 == t1.2.2.1.1) && (eqS t2.2.1.2.2.1.2.1 t1.2.2.1.2.1 && true)))) (some (true)) (some (!(((t2.2.1.2.2.2.1.1 == t1.2.2.1.1) && (eqS t2.2.1.2.2.2.1.2.1 t1.2.2.1.2.1 && true)))))).bind fun b5 => some (b5)) (some (false))).bind fun b6 => some (b6))).bind fun b7 => some (b4, b7)) (cond (t1.1 == 2) ((cond t2.2.1.2.1 ((impl_ValLess k t0 t2.2.1.2.2.1 t1.2.2.1).bind fun r8 => some (r8)) (some (false))).bind fun b9 => (cond (decide (t2.2.1.1 > 0)) (some (true)) ((cond t2.2.1.2.1 ((impl_ValLess k t0 t2.2.1.2.2.2.1 t1.2.2.1).bind fun r10 => some (!r10)) (some (false))).bind fun b11 => some (b11))).bind fun b12 => some (b9, b12)) (cond (t1.1 == 3) ((cond t2.2.1.2.1 ((impl_ValLess k t0 t1.2.2.1 t2.2.1.2.2.1).bind fun r13 => some (!r13)) (some (false))).bind fun b14 => (cond (decide (t2.2.1.1 > 0)) (some (true)) ((cond t2.2.1.2.1 ((impl_ValLess k t0 t1.2.2.1 t2.2.1.2.2.2.1).bind fun r15 => some (r15)) (some (false))).bind fun b16 => some (b16))).bind fun b17 => some (b14, b17)) (some (decide (t2.2.1.1 > 0), t2.2.1.2.1)))))

def impl_PredMay.c17 (k : Nat) (L6 : (List TCol) → (List TPred) → (List TKnown) → (List TPred) → Int → Int → (List Bool) → (List Bool) → Option (Bool × Bool)) (t0 : List TCol) (t1 : List TPred) (t2 : List TKnown) (t32 : List TPred) (t33 : Int) (t34 : Int) (o100 : List Bool) (o101 : List Bool) : Option (Bool × Bool) :=
  L6 t0 t1 t2 t32 t33 (IntKind.wrap .i64 (t34 + 1)) o100 o101

def impl_PredMay.l6 (k : Nat) : Nat → (List TCol) → (List TPred) → (List TKnown) → (List TPred) → Int → Int → (List Bool) → (List Bool) → Option (Bool × Bool)
  | 0, _, _, _, _, _, _, _, _ => none
  | n + 1, t0, t1, t2, t32, t33, t34, o100, o101 =>
    cond (decide (t34 < t33)) ((rdL t32 t34).bind fun y1 => cond (y1.1 == 5) ((rdL o100 y1.2.2.2.1).bind fun y2 => (cond y2 ((rdL o100 y1.2.2.2.2.1).bind fun y3 => some (y3)) (some (false))).bind fun b4 => (rdL o101 y1.2.2.2.1).bind fun y5 => (cond y5 (some (true)) ((rdL o101 y1.2.2.2.2.1).bind fun y6 => some (y6))).bind fun b7 => (rdL o100 t34).bind fun y8 => (rdL o100 t34).bind fun y9 => (rdL o101 t34).bind fun y10 => (rdL o101 t34).bind fun y11 => impl_PredMay.c17 k (impl_PredMay.l6 k n) t0 t1 t2 t32 t33 t34 (List.set o100 (Int.toNat t34) b4) (List.set o101 (Int.toNat t34) b7)) (cond (y1.1 == 6) ((rdL o100 y1.2.2.2.1).bind fun y12 => (cond y12 (some (true)) ((rdL o100 y1.2.2.2.2.1).bind fun y13 => some (y13))).bind fun b14 => (rdL o101 y1.2.2.2.1).bind fun y15 => (cond y15 ((rdL o101 y1.2.2.2.2.1).bind fun y16 => some (y16)) (some (false))).bind fun b17 => (rdL o100 t34).bind fun y18 => (rdL o100 t34).bind fun y19 => (rdL o101 t34).bind fun y20 => (rdL o101 t34).bind fun y21 => impl_PredMay.c17 k (impl_PredMay.l6 k n) t0 t1 t2 t32 t33 t34 (List.set o100 (Int.toNat t34) b14) (List.set o101 (Int.toNat t34) b17)) (cond (y1.1 == 7) ((rdL o101 y1.2.2.2.1).bind fun y22 => (rdL o100 y1.2.2.2.1).bind fun y23 => (rdL o100 t34).bind fun y24 => (rdL o100 t34).bind fun y25 => (rdL o101 t34).bind fun y26 => (rdL o101 t34).bind fun y27 => impl_PredMay.c17 k (impl_PredMay.l6 k n) t0 t1 t2 t32 t33 t34 (List.set o100 (Int.toNat t34) y22) (List.set o101 (Int.toNat t34) y23)) ((impl_LeafOf k t0 y1.2.1).bind fun r28 => (rdL t2 y1.2.1).bind fun y29 => (impl_may k r28.1.1 y1 y29).bind fun r30 => (rdL o100 t34).bind fun y31 => (rdL o100 t34).bind fun y32 => (rdL o101 t34).bind fun y33 => (rdL o101 t34).bind fun y34 => impl_PredMay.c17 k (impl_PredMay.l6 k n) t0 t1 t2 t32 t33 t34 (List.set o100 (Int.toNat t34) r30.1) (List.set o101 (Int.toNat t34) r30.2))))) ((rdL o100 (IntKind.wrap .i64 ((List.length t1 : Int) - 1))).bind fun y35 => (rdL o101 (IntKind.wrap .i64 ((List.length t1 : Int) - 1))).bind fun y36 => some (y35, y36))

def impl_PredMay (k : Nat) (t0 : List TCol) (t1 : List TPred) (t2 : List TKnown) : Option (Bool × Bool) :=
  (impl_PredOk k t0 t1).bind fun r37 => (cond (!r37) (some (true)) ((impl_leavesOf k t0).bind fun r38 => some ((List.length t2 : Int) != (List.length r38.2 : Int)))).bind fun b39 => cond b39 (some (false, false)) (cond (okLen (List.length t1 : Int)) (cond (okLen (List.length t1 : Int)) (impl_PredMay.l6 k k t0 t1 t2 t1 (List.length t1 : Int) 0 (List.replicate (Int.toNat (List.length t1 : Int)) false) (List.replicate (Int.toNat (List.length t1 : Int)) false)) none) none)

def spec_l14Leaf.c4 (k : Nat) (L3 : (List TCol) → Int → Int → Int → Option Int) (t0 : List TCol) (t1 : Int) (t5 : Int) (t6 : Int) : Option Int :=
  L3 t0 t1 t5 (IntKind.wrap .i64 (t6 + 1))

def spec_l14Leaf.l3 (k : Nat) : Nat → (List TCol) → Int → Int → Int → Option Int
  | 0, _, _, _, _ => none
  | n + 1, t0, t1, t5, t6 =>
    cond (decide (t6 < t1)) ((rdL t0 t6).bind fun y1 => cond (y1.2.1 != 7) (spec_l14Leaf.c4 k (spec_l14Leaf.l3 k n) t0 t1 (IntKind.wrap .i64 (t5 + 1)) t6) (spec_l14Leaf.c4 k (spec_l14Leaf.l3 k n) t0 t1 t5 t6)) (some t5)

def spec_l14Leaf (k : Nat) (t0 : List TCol) (t1 : Int) : Option Int :=
  spec_l14Leaf.l3 k k t0 t1 0 0

def spec_l14Null.l2 (k : Nat) : Nat → (List TCol) → Int → Int → (List (List TTriple)) → TTriple → Option (Unit × (List (List TTriple)))
  | 0, _, _, _, _, _ => none
  | n + 1, t0, t1, t9, o10, o100 =>
    (spec_l5After k t0 t1).bind fun r1 => (spec_l14Leaf k t0 r1).bind fun r2 => cond (decide (t9 < r2)) ((rdL o10 t9).bind fun y3 => cond (lim (List.length y3 + List.length [o100])) ((rdL o10 t9).bind fun y4 => cond (t9 == t9) ((rdL o10 t9).bind fun y5 => (spec_l14Null.l2 k n) t0 t1 (IntKind.wrap .i64 (t9 + 1)) (List.set o10 (Int.toNat t9) (y3 ++ [o100])) o100) none) none) (some ((), o10))

def spec_l14Null (k : Nat) (t0 : List TCol) (t1 : Int) (t2 : TTriple) (o10 : List (List TTriple)) : Option (Unit × (List (List TTriple))) :=
  (spec_l14Leaf k t0 t1).bind fun r6 => spec_l14Null.l2 k k t0 t1 r6 o10 t2

def spec_l14Content.l7 (k : Nat) (S106 : (List TCol) → Int → (List TVal) → Int → Int → Int → Int → (List (List TTriple)) → Option ((Unit × Int) × (List (List TTriple)))) : Nat → (List TCol) → Int → (List TVal) → Int → Int → Int → Int → Int → Int → (List (List TTriple)) → Option ((Unit × Int) × (List (List TTriple)))
  | 0, _, _, _, _, _, _, _, _, _, _ => none
  | n + 1, t0, t1, t2, t3, t4, t5, t6, t19, t20, o10 =>
    (rdL t0 t1).bind fun y1 => cond (decide (t20 < y1.2.2.2.1)) ((S106 t0 t19 t2 t3 t4 t5 t6 o10).bind fun r2 => (spec_l5After k t0 t19).bind fun r3 => (spec_l14Content.l7 k S106 n) t0 t1 t2 r2.1.2 t4 t5 t6 r3 (IntKind.wrap .i64 (t20 + 1)) r2.2) (some (((), t3), o10))

def spec_l14Content.b (k : Nat) (S55 : (List TCol) → Int → (List TVal) → Int → Int → Int → Int → (List (List TTriple)) → Option ((Unit × Int) × (List (List TTriple)))) (S106 : (List TCol) → Int → (List TVal) → Int → Int → Int → Int → (List (List TTriple)) → Option ((Unit × Int) × (List (List TTriple)))) (t0 : List TCol) (t1 : Int) (t2 : List TVal) (t3 : Int) (t4 : Int) (t5 : Int) (t6 : Int) (o10 : List (List TTriple)) : Option ((Unit × Int) × (List (List TTriple))) :=
  (rdL t0 t1).bind fun y4 => cond (y4.2.1 != 7) ((spec_l14Leaf k t0 t1).bind fun r5 => (rdL o10 r5).bind fun y6 => (rdL t2 t3).bind fun y7 => cond (lim (List.length y6 + List.length [(t4, t5, y7, ())])) ((rdL o10 r5).bind fun y8 => cond (r5 == r5) ((rdL o10 r5).bind fun y9 => some (((), IntKind.wrap .i64 (t3 + 1)), List.set o10 (Int.toNat r5) (y6 ++ [(t4, t5, y7, ())]))) none) none) (spec_l14Content.l7 k S106 k t0 t1 t2 t3 t4 t5 t6 (IntKind.wrap .i64 (t1 + 1)) 0 o10)

def spec_l14Part.l10 (k : Nat) (S55 : (List TCol) → Int → (List TVal) → Int → Int → Int → Int → (List (List TTriple)) → Option ((Unit × Int) × (List (List TTriple)))) : Nat → (List TCol) → Int → (List TVal) → Int → Int → Int → Int → Int → Int → (List (List TTriple)) → Option ((Unit × Int) × (List (List TTriple)))
  | 0, _, _, _, _, _, _, _, _, _, _ => none
  | n + 1, t0, t1, t2, t3, t4, t5, t6, t18, t19, o10 =>
    cond (decide (t19 < t18)) ((S55 t0 t1 t2 t3 t4 (IntKind.wrap .i64 (t5 + 1)) t6 o10).bind fun r1 => (spec_l14Part.l10 k S55 n) t0 t1 t2 r1.1.2 t6 t5 t6 t18 (IntKind.wrap .i64 (t19 + 1)) r1.2) (some (((), t3), o10))

def spec_l14Part.c9 (k : Nat) (S55 : (List TCol) → Int → (List TVal) → Int → Int → Int → Int → (List (List TTriple)) → Option ((Unit × Int) × (List (List TTriple)))) (t0 : List TCol) (t1 : Int) (t2 : List TVal) (t3 : Int) (t4 : Int) (t5 : Int) (t6 : Int) (t18 : Int) (o10 : List (List TTriple)) : Option ((Unit × Int) × (List (List TTriple))) :=
  spec_l14Part.l10 k S55 k t0 t1 t2 t3 t4 t5 t6 t18 0 o10

def spec_l14Part.b (k : Nat) (S55 : (List TCol) → Int → (List TVal) → Int → Int → Int → Int → (List (List TTriple)) → Option ((Unit × Int) × (List (List TTriple)))) (S106 : (List TCol) → Int → (List TVal) → Int → Int → Int → Int → (List (List TTriple)) → Option ((Unit × Int) × (List (List TTriple)))) (t0 : List TCol) (t1 : Int) (t2 : List TVal) (t3 : Int) (t4 : Int) (t5 : Int) (t6 : Int) (o10 : List (List TTriple)) : Option ((Unit × Int) × (List (List TTriple))) :=
  (rdL t0 t1).bind fun y2 => cond (y2.2.2.1 == 0) ((S55 t0 t1 t2 t3 t4 t5 t6 o10).bind fun r3 => some (((), r3.1.2), r3.2)) ((rdL t2 t3).bind fun y4 => cond (y4.1 == 0) ((spec_l14Null k t0 t1 (t4, t5, (0, (⟨#[]⟩ : ByteArray), ()), ()) o10).bind fun r5 => some (((), IntKind.wrap .i64 (t3 + 1)), r5.2)) ((rdL t0 t1).bind fun y6 => cond (y6.2.2.1 == 2) (spec_l14Part.c9 k S55 t0 t1 t2 (IntKind.wrap .i64 (t3 + 1)) t4 t5 (IntKind.wrap .i64 (t6 + 1)) y4.1 o10) (spec_l14Part.c9 k S55 t0 t1 t2 (IntKind.wrap .i64 (t3 + 1)) t4 t5 t6 y4.1 o10)))

def spec_l14Content.rec (k : Nat) : Nat → ((List TCol) → Int → (List TVal) → Int → Int → Int → Int → (List (List TTriple)) → Option ((Unit × Int) × (List (List TTriple)))) × ((List TCol) → Int → (List TVal) → Int → Int → Int → Int → (List (List TTriple)) → Option ((Unit × Int) × (List (List TTriple))))
  | 0 => (fun _ _ _ _ _ _ _ _ => none, fun _ _ _ _ _ _ _ _ => none)
  | d + 1 => (spec_l14Content.b k ((spec_l14Content.rec k d).1) ((spec_l14Content.rec k d).2), spec_l14Part.b k ((spec_l14Content.rec k d).1) ((spec_l14Content.rec k d).2))

def spec_l14Content.d (k d : Nat) : (List TCol) → Int → (List TVal) → Int → Int → Int → Int → (List (List TTriple)) → Option ((Unit × Int) × (List (List TTriple))) := (spec_l14Content.rec k d).1

def spec_l14Content (k : Nat) : (List TCol) → Int → (List TVal) → Int → Int → Int → Int → (List (List TTriple)) → Option ((Unit × Int) × (List (List TTriple))) := spec_l14Content.d k k

def spec_l14Part.d (k d : Nat) : (List TCol) → Int → (List TVal) → Int → Int → Int → Int → (List (List TTriple)) → Option ((Unit × Int) × (List (List TTriple))) := (spec_l14Content.rec k d).2

def spec_l14Part (k : Nat) : (List TCol) → Int → (List TVal) → Int → Int → Int → Int → (List (List TTriple)) → Option ((Unit × Int) × (List (List TTriple))) := spec_l14Part.d k k

def spec_Shred.l12 (k : Nat) : Nat → (List (List TTriple)) → Int → (List TColumn) → Option ((Unit × Bool) × (List TColumn))
  | 0, _, _, _ => none
  | n + 1, t7, t9, o100 =>
    cond (decide (t9 < (List.length t7 : Int))) ((rdL t7 t9).bind fun y1 => cond (decide ((List.length y1 : Int) > 2000)) (some (((), false), [])) ((rdL t7 t9).bind fun y2 => cond (lim (List.length o100 + List.length [(y2, ())])) ((spec_Shred.l12 k n) t7 (IntKind.wrap .i64 (t9 + 1)) (o100 ++ [(y2, ())])) none)) (some (((), true), o100))

def spec_Shred.l6 (k : Nat) : Nat → (List TCol) → (List TRec) → Int → (List TColumn) → (List (List TTriple)) → Option ((Unit × Bool) × (List TColumn))
  | 0, _, _, _, _, _ => none
  | n + 1, t0, t1, t8, o100, o101 =>
    cond (decide (t8 < (List.length t1 : Int))) ((rdL t1 t8).bind fun y3 => (spec_RecOk k t0 y3).bind fun r4 => cond (!r4) (some (((), false), o100)) ((rdL t1 t8).bind fun y5 => (spec_l14Content k t0 0 y5.1 0 0 0 0 o101).bind fun r6 => (spec_Shred.l6 k n) t0 t1 (IntKind.wrap .i64 (t8 + 1)) o100 r6.2)) (spec_Shred.l12 k k o101 0 o100)

def spec_Shred (k : Nat) (t0 : List TCol) (t1 : List TRec) : Option ((Unit × Bool) × (List TColumn)) :=
  (spec_SchemaOk k t0).bind fun r7 => (cond (!r7) (some (true)) (some (decide ((List.length t1 : Int) > 200)))).bind fun b8 => cond b8 (some (((), false), [])) ((spec_l5Leaves k t0).bind fun r9 => cond (okLen (List.length r9.2 : Int)) (spec_Shred.l6 k k t0 t1 0 [] (List.replicate (Int.toNat (List.length r9.2 : Int)) [])) none)

def spec_LeafOk (k : Nat) (t0 : TLeaf) : Option Bool :=
  (spec_l5Type k t0.1).bind fun r1 => (cond r1 ((spec_l1In k t0.2.1 0 6).bind fun r2 => some (r2)) (some (false))).bind fun b3 => (cond b3 ((spec_l1In k t0.2.2.1 t0.2.1 6).bind fun r4 => some (r4)) (some (false))).bind fun b5 => some b5

def spec_l15Right (k : Nat) (t0 : TLeaf) (t1 : TTriple) : Option Bool :=
  (spec_l1In k t1.1 0 t0.2.1).bind fun r1 => (cond (!r1) (some (true)) ((spec_l1In k t1.2.1 0 t0.2.2.1).bind fun r2 => some (!r2))).bind fun b3 => cond b3 (some false) (cond (decide (t1.2.1 < t0.2.2.1)) (some ((t1.2.2.1.1 == 0) && (eqS t1.2.2.1.2.1 (⟨#[]⟩ : ByteArray) && true))) ((spec_ValOk k t0.1 t1.2.2.1).bind fun r4 => some r4))

def spec_l15All.l4 (k : Nat) : Nat → (List TTriple) → Int → TLeaf → Option Bool
  | 0, _, _, _ => none
  | n + 1, t1, t5, o100 =>
    cond (decide (t5 < (List.length t1 : Int))) ((rdL t1 t5).bind fun y1 => (spec_l15Right k o100 y1).bind fun r2 => cond (!r2) (some false) ((spec_l15All.l4 k n) t1 (IntKind.wrap .i64 (t5 + 1)) o100)) (some true)

def spec_l15All (k : Nat) (t0 : TLeaf) (t1 : List TTriple) : Option Bool :=
  (spec_LeafOk k t0).bind fun r3 => (cond (!r3) (some (true)) (some (decide ((List.length t1 : Int) > 2000)))).bind fun b4 => cond b4 (some false) (spec_l15All.l4 k k t1 0 t0)

def spec_FloatKey (k : Nat) (t0 : Int) : Option Int :=
  cond (decide (t0 < 0)) (some (bits .xor .i64 t0 9223372036854775807)) (some t0)

def spec_ValLess.d5 (k : Nat) (o100 : TVal) (o101 : TVal) : Option Bool :=
  (spec_FloatKey k o100.1).bind fun r1 => (spec_FloatKey k o101.1).bind fun r2 => some (decide (r1 < r2))

def spec_ValLess.l8 (k : Nat) : Nat → Int → TVal → TVal → Option Bool
  | 0, _, _, _ => none
  | n + 1, t7, o100, o101 =>
    (cond (decide (t7 < (o100.2.1.size : Int))) (some (decide (t7 < (o101.2.1.size : Int)))) (some (false))).bind fun b9 => cond b9 ((btS o100.2.1 t7).bind fun y10 => (btS o101.2.1 t7).bind fun y11 => cond (y10 != y11) ((btS o100.2.1 t7).bind fun y12 => (btS o101.2.1 t7).bind fun y13 => some (decide (y12 < y13))) ((spec_ValLess.l8 k n) (IntKind.wrap .i64 (t7 + 1)) o100 o101)) (some (decide ((o100.2.1.size : Int) < (o101.2.1.size : Int))))

def spec_ValLess (k : Nat) (t0 : Int) (t1 : TVal) (t2 : TVal) : Option Bool :=
  (spec_ValOk k t0 t1).bind fun r14 => (cond (!r14) (some (true)) ((spec_ValOk k t0 t2).bind fun r15 => some (!r15))).bind fun b16 => cond b16 (some false) (cond (t0 == 5) (spec_ValLess.d5 k t1 t2) (cond (t0 == 6) (spec_ValLess.l8 k k 0 t1 t2) (some (decide (t1.1 < t2.1)))))

def spec_StatsOf.c6 (k : Nat) (L5 : (List TTriple) → Int → TLeaf → TStats → TStats → Option (TStats × Bool)) (t1 : List TTriple) (t7 : Int) (o100 : TLeaf) (o101 : TStats) (o102 : TStats) : Option (TStats × Bool) :=
  L5 t1 (IntKind.wrap .i64 (t7 + 1)) o100 o101 o102

def spec_StatsOf.c10 (k : Nat) (L5 : (List TTriple) → Int → TLeaf → TStats → TStats → Option (TStats × Bool)) (t1 : List TTriple) (t7 : Int) (o100 : TLeaf) (o101 : TStats) (o102 : TStats) (o103 : TVal) : Option (TStats × Bool) :=
  (spec_ValLess k o100.1 o102.2.2.2.1 o103).bind fun r1 => cond r1 (spec_StatsOf.c6 k L5 t1 t7 o100 o101 (o102.1, o102.2.1, o102.2.2.1, o103, ())) (spec_StatsOf.c6 k L5 t1 t7 o100 o101 o102)

def spec_StatsOf.l5 (k : Nat) : Nat → (List TTriple) → Int → TLeaf → TStats → TStats → Option (TStats × Bool)
  | 0, _, _, _, _, _ => none
  | n + 1, t1, t7, o100, o101, o102 =>
    cond (decide (t7 < (List.length t1 : Int))) ((rdL t1 t7).bind fun y2 => (rdL t1 t7).bind fun y3 => cond (decide (y3.2.1 < o100.2.2.1)) (spec_StatsOf.c6 k (spec_StatsOf.l5 k n) t1 t7 o100 o101 (IntKind.wrap .i64 (o102.1 + 1), o102.2.1, o102.2.2.1, o102.2.2.2.1, ())) (cond (!o102.2.1) (spec_StatsOf.c6 k (spec_StatsOf.l5 k n) t1 t7 o100 o101 (o102.1, true, y2.2.2.1, y2.2.2.1, ())) ((spec_ValLess k o100.1 y2.2.2.1 o102.2.2.1).bind fun r4 => cond r4 (spec_StatsOf.c10 k (spec_StatsOf.l5 k n) t1 t7 o100 o101 (o102.1, o102.2.1, y2.2.2.1, o102.2.2.2.1, ()) y2.2.2.1) (spec_StatsOf.c10 k (spec_StatsOf.l5 k n) t1 t7 o100 o101 o102 y2.2.2.1)))) (some (o102, true))

def spec_StatsOf (k : Nat) (t0 : TLeaf) (t1 : List TTriple) : Option (TStats × Bool) :=
  (spec_l15All k t0 t1).bind fun r5 => cond (!r5) (some ((0, false, (0, (⟨#[]⟩ : ByteArray), ()), (0, (⟨#[]⟩ : ByteArray), ()), ()), false)) (spec_StatsOf.l5 k k t1 0 t0 (0, false, (0, (⟨#[]⟩ : ByteArray), ()), (0, (⟨#[]⟩ : ByteArray), ()), ()) (0, false, (0, (⟨#[]⟩ : ByteArray), ()), (0, (⟨#[]⟩ : ByteArray), ()), ()))

def laws_at (k : Nat) (t0 : List Int) (t1 : Int) : Option Int :=
  cond (decide (t1 < (List.length t0 : Int))) ((rdL t0 t1).bind fun y1 => some (IntKind.wrap .i64 y1)) (some (Int.tmod (IntKind.wrap .i64 ((IntKind.wrap .i64 (t1 * 7)) + (List.length t0 : Int))) 256))

def spec_l20May.d21 (k : Nat) (t21 : Bool) (o100 : TPred) (o101 : TLeaf) (o102 : TStats) : Option (Bool × Bool) :=
  cond o102.2.1 ((spec_ValLess k o101.1 o100.2.2.1 o102.2.2.1).bind fun r1 => cond (!r1) ((spec_ValLess k o101.1 o102.2.2.2.1 o100.2.2.1).bind fun r2 => cond t21 (some (!r2, true)) (cond o102.2.1 (cond (!(((o102.2.2.1.1 == o100.2.2.1.1) && (eqS o102.2.2.1.2.1 o100.2.2.1.2.1 && true)))) (some (!r2, true)) (some (!r2, !(((o102.2.2.2.1.1 == o100.2.2.1.1) && (eqS o102.2.2.2.1.2.1 o100.2.2.1.2.1 && true)))))) (some (!r2, false)))) (cond t21 (some (false, true)) (cond o102.2.1 (cond (!(((o102.2.2.1.1 == o100.2.2.1.1) && (eqS o102.2.2.1.2.1 o100.2.2.1.2.1 && true)))) (some (false, true)) (some (false, !(((o102.2.2.2.1.1 == o100.2.2.1.1) && (eqS o102.2.2.2.1.2.1 o100.2.2.1.2.1 && true)))))) (some (false, false))))) (cond false ((spec_ValLess k o101.1 o102.2.2.2.1 o100.2.2.1).bind fun r3 => cond t21 (some (!r3, true)) (cond o102.2.1 (cond (!(((o102.2.2.1.1 == o100.2.2.1.1) && (eqS o102.2.2.1.2.1 o100.2.2.1.2.1 && true)))) (some (!r3, true)) (some (!r3, !(((o102.2.2.2.1.1 == o100.2.2.1.1) && (eqS o102.2.2.2.1.2.1 o100.2.2.1.2.1 && true)))))) (some (!r3, false)))) (cond t21 (some (false, true)) (cond o102.2.1 (cond (!(((o102.2.2.1.1 == o100.2.2.1.1) && (eqS o102.2.2.1.2.1 o100.2.2.1.2.1 && true)))) (some (false, true)) (some (false, !(((o102.2.2.2.1.1 == o100.2.2.1.1) && (eqS o102.2.2.2.1.2.1 o100.2.2.1.2.1 && true)))))) (some (false, false)))))

def spec_l20May.c5 (k : Nat) (S60 : (List TCol) → (List TPred) → Int → (List TKnown) → Option (Bool × Bool)) (t0 : List TCol) (t1 : List TPred) (t3 : List TKnown) (t27 : Int) (t28 : Bool) (o100 : TPred) : Option (Bool × Bool) :=
  cond t28 ((S60 t0 t1 o100.2.2.2.1 t3).bind fun r22 => (S60 t0 t1 o100.2.2.2.2.1 t3).bind fun r23 => cond (o100.1 == 5) ((cond r22.1 (some (r23.1)) (some (false))).bind fun b24 => (cond r22.2 (some (true)) (some (r23.2))).bind fun b25 => some (b24, b25)) ((cond r22.1 (some (true)) (some (r23.1))).bind fun b26 => (cond r22.2 (some (r23.2)) (some (false))).bind fun b27 => some (b26, b27))) (cond (t27 == 7) ((S60 t0 t1 o100.2.2.2.1 t3).bind fun r28 => some (r28.2, r28.1)) ((rdL t3 o100.2.1).bind fun y29 => cond (!y29.1) (some (true, true)) ((spec_LeafOf k t0 o100.2.1).bind fun r30 => cond (o100.1 == 1) (spec_l20May.d21 k (decide (y29.2.1.1 > 0)) o100 r30.1 y29.2.1) (cond (o100.1 == 2) ((cond y29.2.1.2.1 ((spec_ValLess k r30.1.1 y29.2.1.2.2.1 o100.2.2.1).bind fun r31 => some (r31)) (some (false))).bind fun b32 => (cond (decide (y29.2.1.1 > 0)) (some (true)) ((cond y29.2.1.2.1 ((spec_ValLess k r30.1.1 y29.2.1.2.2.2.1 o100.2.2.1).bind fun r33 => some (!r33)) (some (false))).bind fun b34 => some (b34))).bind fun b35 => some (b32, b35)) (cond (o100.1 == 3) ((cond y29.2.1.2.1 ((spec_ValLess k r30.1.1 o100.2.2.1 y29.2.1.2.2.1).bind fun r36 => some (!r36)) (some (false))).bind fun b37 => (cond (decide (y29.2.1.1 > 0)) (some (true)) ((cond y29.2.1.2.1 ((spec_ValLess k r30.1.1 o100.2.2.1 y29.2.1.2.2.2.1).bind fun r38 => some (r38)) (some (false))).bind fun b39 => some (b39))).bind fun b40 => some (b37, b40)) (some (decide (y29.2.1.1 > 0), y29.2.1.2.1)))))))

def spec_l20May.b (k : Nat) (S60 : (List TCol) → (List TPred) → Int → (List TKnown) → Option (Bool × Bool)) (t0 : List TCol) (t1 : List TPred) (t2 : Int) (t3 : List TKnown) : Option (Bool × Bool) :=
  (rdL t1 t2).bind fun y41 => cond (y41.1 == 5) (spec_l20May.c5 k S60 t0 t1 t3 y41.1 (y41.1 == 5) y41) (spec_l20May.c5 k S60 t0 t1 t3 y41.1 (y41.1 == 6) y41)

def spec_l20May.rec (k : Nat) : Nat → ((List TCol) → (List TPred) → Int → (List TKnown) → Option (Bool × Bool))
  | 0 => fun _ _ _ _ => none
  | d + 1 => spec_l20May.b k ((spec_l20May.rec k d))

def spec_l20May.d (k d : Nat) : (List TCol) → (List TPred) → Int → (List TKnown) → Option (Bool × Bool) := (spec_l20May.rec k d)

def spec_l20May (k : Nat) : (List TCol) → (List TPred) → Int → (List TKnown) → Option (Bool × Bool) := spec_l20May.d k k

def spec_PredMay (k : Nat) (t0 : List TCol) (t1 : List TPred) (t2 : List TKnown) : Option (Bool × Bool) :=
  (spec_PredOk k t0 t1).bind fun r1 => (cond (!r1) (some (true)) ((spec_l5Leaves k t0).bind fun r2 => some ((List.length t2 : Int) != (List.length r2.2 : Int)))).bind fun b3 => cond b3 (some (false, false)) ((spec_l20May k t0 t1 (IntKind.wrap .i64 ((List.length t1 : Int) - 1)) t2).bind fun r4 => some (r4.1, r4.2))

def impl_RecOk_1 (k : Nat) (t0 : Int) (t1 : Int) (t2 : Int) (t3 : TVal) : Option Unit :=
  some ()

def impl_walker_next_of_RecOk_1_RecOk_2 (k : Nat) (o0 : TWalker) : Option ((TVal) × TWalker) :=
  (cond o0.2.2.1 (some (true)) (some ((List.length o0.2.1 : Int) == 0))).bind fun b1 => cond b1 (some ((0, (⟨#[]⟩ : ByteArray), ()), (o0.1, o0.2.1, true, (()), (()), ()))) ((rdL o0.2.1 0).bind fun y2 => cond (inSl 1 ((List.length o0.2.1) : Int) (List.length o0.2.1)) (some (y2, (o0.1, cutL o0.2.1 1 ((List.length o0.2.1) : Int), o0.2.2.1, (()), (()), ()))) none)

def impl_walker_count_of_RecOk_1_RecOk_2 (k : Nat) (t1 : Int) (o0 : TWalker) : Option (Int × TWalker) :=
  (impl_walker_next_of_RecOk_1_RecOk_2 k (o0.1, o0.2.1, o0.2.2.1, (()), (()), ())).bind fun r1 => (cond (!eqS r1.1.2.1 (⟨#[]⟩ : ByteArray)) (some (true)) ((impl_within k r1.1.1 0 t1).bind fun r2 => some (!r2))).bind fun b3 => cond b3 (some (0, (r1.2.1, r1.2.2.1, true, (()), (()), ()))) (some (r1.1.1, (r1.2.1, r1.2.2.1, r1.2.2.2.1, (()), (()), ())))

def impl_RecOk_2 (k : Nat) (t0 : Int) (t1 : Int) (t2 : Int) : Option Unit :=
  some ()

def impl_walker_missing_of_RecOk_1_RecOk_2.c4 (k : Nat) (L3 : Int → Int → Int → Int → TWalker → Option (Int × TWalker)) (t2 : Int) (t3 : Int) (t9 : Int) (t10 : Int) (o0 : TWalker) : Option (Int × TWalker) :=
  L3 t2 t3 t9 (IntKind.wrap .i64 (t10 + 1)) (o0.1, o0.2.1, o0.2.2.1, (()), (()), ())

def impl_walker_missing_of_RecOk_1_RecOk_2.l3 (k : Nat) : Nat → Int → Int → Int → Int → TWalker → Option (Int × TWalker)
  | 0, _, _, _, _, _ => none
  | n + 1, t2, t3, t9, t10, o0 =>
    cond (decide (t10 < t9)) ((rdL o0.1 t10).bind fun y1 => cond (y1.2.1 != 7) ((impl_RecOk_2 k t10 t2 t3).bind fun r2 => impl_walker_missing_of_RecOk_1_RecOk_2.c4 k (impl_walker_missing_of_RecOk_1_RecOk_2.l3 k n) t2 t3 t9 t10 (o0.1, o0.2.1, o0.2.2.1, (()), (()), ())) (impl_walker_missing_of_RecOk_1_RecOk_2.c4 k (impl_walker_missing_of_RecOk_1_RecOk_2.l3 k n) t2 t3 t9 t10 (o0.1, o0.2.1, o0.2.2.1, (()), (()), ()))) (some (t9, (o0.1, o0.2.1, o0.2.2.1, (()), (()), ())))

def impl_walker_missing_of_RecOk_1_RecOk_2 (k : Nat) (t1 : Int) (t2 : Int) (t3 : Int) (o0 : TWalker) : Option (Int × TWalker) :=
  (impl_colAfter k o0.1 t1 1).bind fun r3 => impl_walker_missing_of_RecOk_1_RecOk_2.l3 k k t2 t3 r3 t1 (o0.1, o0.2.1, o0.2.2.1, (()), (()), ())

def impl_walker_body_of_RecOk_1_RecOk_2.c14 (k : Nat) (t12 : Int) (o0 : TWalker) : Option (Int × TWalker) :=
  some (t12, (o0.1, o0.2.1, o0.2.2.1, (()), (()), ()))

def impl_walker_body_of_RecOk_1_RecOk_2.l10 (k : Nat) (S163i6 : Int → Int → Int → Int → TWalker → Option (Int × TWalker)) : Nat → Int → Int → Int → Int → Int → Int → TWalker → Option (Int × TWalker)
  | 0, _, _, _, _, _, _, _ => none
  | n + 1, t2, t3, t4, t12, t70, t71, o0 =>
    cond (decide (t71 < t70)) (cond o0.2.2.1 (impl_walker_body_of_RecOk_1_RecOk_2.c14 k t12 (o0.1, o0.2.1, o0.2.2.1, (()), (()), ())) ((S163i6 t12 t2 t3 t4 (o0.1, o0.2.1, o0.2.2.1, (()), (()), ())).bind fun r1 => (impl_walker_body_of_RecOk_1_RecOk_2.l10 k S163i6 n) t2 t3 t4 r1.1 t70 (IntKind.wrap .i64 (t71 + 1)) (r1.2.1, r1.2.2.1, r1.2.2.2.1, (()), (()), ()))) (impl_walker_body_of_RecOk_1_RecOk_2.c14 k t12 (o0.1, o0.2.1, o0.2.2.1, (()), (()), ()))

def impl_walker_body_of_RecOk_1_RecOk_2.c7 (k : Nat) (t1 : Int) (o0 : TWalker) : Option (Int × TWalker) :=
  some (IntKind.wrap .i64 (t1 + 1), (o0.1, o0.2.1, o0.2.2.1, (()), (()), ()))

def impl_walker_body_of_RecOk_1_RecOk_2.c5 (k : Nat) (t1 : Int) (t2 : Int) (t3 : Int) (o0 : TWalker) (o100 : TVal) : Option (Int × TWalker) :=
  cond (!o0.2.2.1) ((impl_RecOk_1 k t1 t2 t3 o100).bind fun r2 => impl_walker_body_of_RecOk_1_RecOk_2.c7 k t1 (o0.1, o0.2.1, o0.2.2.1, (()), (()), ())) (impl_walker_body_of_RecOk_1_RecOk_2.c7 k t1 (o0.1, o0.2.1, o0.2.2.1, (()), (()), ()))

def impl_walker_body_of_RecOk_1_RecOk_2.d3 (k : Nat) (t1 : Int) (t2 : Int) (t3 : Int) (o0 : TWalker) (o100 : TVal) : Option (Int × TWalker) :=
  cond (!o0.2.2.1) ((rdL o0.1 t1).bind fun y3 => (impl_ValOk k y3.2.1 o100).bind fun r4 => cond (!r4) (impl_walker_body_of_RecOk_1_RecOk_2.c5 k t1 t2 t3 (o0.1, o0.2.1, true, (()), (()), ()) o100) (impl_walker_body_of_RecOk_1_RecOk_2.c5 k t1 t2 t3 (o0.1, o0.2.1, o0.2.2.1, (()), (()), ()) o100)) (cond false (impl_walker_body_of_RecOk_1_RecOk_2.c5 k t1 t2 t3 (o0.1, o0.2.1, true, (()), (()), ()) o100) (impl_walker_body_of_RecOk_1_RecOk_2.c5 k t1 t2 t3 (o0.1, o0.2.1, o0.2.2.1, (()), (()), ()) o100))

def impl_walker_body_of_RecOk_1_RecOk_2.b (k : Nat) (S152i3 : Int → Int → Int → Int → TWalker → Option (Int × TWalker)) (S163i6 : Int → Int → Int → Int → TWalker → Option (Int × TWalker)) (t1 : Int) (t2 : Int) (t3 : Int) (t4 : Int) (o0 : TWalker) : Option (Int × TWalker) :=
  (rdL o0.1 t1).bind fun y7 => cond (y7.2.1 != 7) ((impl_walker_next_of_RecOk_1_RecOk_2 k (o0.1, o0.2.1, o0.2.2.1, (()), (()), ())).bind fun r8 => impl_walker_body_of_RecOk_1_RecOk_2.d3 k t1 t2 t3 (r8.2.1, r8.2.2.1, r8.2.2.2.1, (()), (()), ()) r8.1) ((rdL o0.1 t1).bind fun y9 => impl_walker_body_of_RecOk_1_RecOk_2.l10 k S163i6 k t2 t3 t4 (IntKind.wrap .i64 (t1 + 1)) y9.2.2.2.1 0 (o0.1, o0.2.1, o0.2.2.1, (()), (()), ()))

def impl_walker_col_of_RecOk_1_RecOk_2.c18 (k : Nat) (S152i3 : Int → Int → Int → Int → TWalker → Option (Int × TWalker)) (t1 : Int) (t2 : Int) (t3 : Int) (t4 : Int) (o0 : TWalker) : Option (Int × TWalker) :=
  (S152i3 t1 t2 t3 t4 (o0.1, o0.2.1, o0.2.2.1, (()), (()), ())).bind fun r1 => some (r1.1, (r1.2.1, r1.2.2.1, r1.2.2.2.1, (()), (()), ()))

def impl_walker_col_of_RecOk_1_RecOk_2.l14 (k : Nat) (S152i3 : Int → Int → Int → Int → TWalker → Option (Int × TWalker)) : Nat → Int → Int → Int → Int → Int → TWalker → Option (Int × TWalker)
  | 0, _, _, _, _, _, _ => none
  | n + 1, t1, t3, t4, t12, t13, o0 =>
    (cond (decide (t13 < t12)) (some (!o0.2.2.1)) (some (false))).bind fun b2 => cond b2 ((S152i3 t1 t4 (IntKind.wrap .i64 (t3 + 1)) t4 (o0.1, o0.2.1, o0.2.2.1, (()), (()), ())).bind fun r3 => (impl_walker_col_of_RecOk_1_RecOk_2.l14 k S152i3 n) t1 t3 t4 t12 (IntKind.wrap .i64 (t13 + 1)) (r3.2.1, r3.2.2.1, r3.2.2.2.1, (()), (()), ())) ((impl_colAfter k o0.1 t1 1).bind fun r4 => some (r4, (o0.1, o0.2.1, o0.2.2.1, (()), (()), ())))

def impl_walker_col_of_RecOk_1_RecOk_2.b (k : Nat) (S152i3 : Int → Int → Int → Int → TWalker → Option (Int × TWalker)) (S163i6 : Int → Int → Int → Int → TWalker → Option (Int × TWalker)) (t1 : Int) (t2 : Int) (t3 : Int) (t4 : Int) (o0 : TWalker) : Option (Int × TWalker) :=
  (rdL o0.1 t1).bind fun y5 => cond (y5.2.2.1 == 1) ((impl_walker_count_of_RecOk_1_RecOk_2 k 1 (o0.1, o0.2.1, o0.2.2.1, (()), (()), ())).bind fun r6 => cond (r6.1 == 0) ((impl_walker_missing_of_RecOk_1_RecOk_2 k t1 t2 t3 (r6.2.1, r6.2.2.1, r6.2.2.2.1, (()), (()), ())).bind fun r7 => some (r7.1, (r7.2.1, r7.2.2.1, r7.2.2.2.1, (()), (()), ()))) (impl_walker_col_of_RecOk_1_RecOk_2.c18 k S152i3 t1 t2 (IntKind.wrap .i64 (t3 + 1)) t4 (r6.2.1, r6.2.2.1, r6.2.2.2.1, (()), (()), ()))) (cond (y5.2.2.1 == 2) ((impl_walker_count_of_RecOk_1_RecOk_2 k 20 (o0.1, o0.2.1, o0.2.2.1, (()), (()), ())).bind fun r8 => cond (r8.1 == 0) ((impl_walker_missing_of_RecOk_1_RecOk_2 k t1 t2 t3 (r8.2.1, r8.2.2.1, r8.2.2.2.1, (()), (()), ())).bind fun r9 => some (r9.1, (r9.2.1, r9.2.2.1, r9.2.2.2.1, (()), (()), ()))) ((S152i3 t1 t2 (IntKind.wrap .i64 (t3 + 1)) (IntKind.wrap .i64 (t4 + 1)) (r8.2.1, r8.2.2.1, r8.2.2.2.1, (()), (()), ())).bind fun r10 => impl_walker_col_of_RecOk_1_RecOk_2.l14 k S152i3 k t1 t3 (IntKind.wrap .i64 (t4 + 1)) r8.1 1 (r10.2.1, r10.2.2.1, r10.2.2.2.1, (()), (()), ()))) (impl_walker_col_of_RecOk_1_RecOk_2.c18 k S152i3 t1 t2 t3 t4 (o0.1, o0.2.1, o0.2.2.1, (()), (()), ())))

def impl_walker_body_of_RecOk_1_RecOk_2.rec (k : Nat) : Nat → (Int → Int → Int → Int → TWalker → Option (Int × TWalker)) × (Int → Int → Int → Int → TWalker → Option (Int × TWalker))
  | 0 => (fun _ _ _ _ _ => none, fun _ _ _ _ _ => none)
  | d + 1 => (impl_walker_body_of_RecOk_1_RecOk_2.b k ((impl_walker_body_of_RecOk_1_RecOk_2.rec k d).1) ((impl_walker_body_of_RecOk_1_RecOk_2.rec k d).2), impl_walker_col_of_RecOk_1_RecOk_2.b k ((impl_walker_body_of_RecOk_1_RecOk_2.rec k d).1) ((impl_walker_body_of_RecOk_1_RecOk_2.rec k d).2))

def impl_walker_body_of_RecOk_1_RecOk_2.d (k d : Nat) : Int → Int → Int → Int → TWalker → Option (Int × TWalker) := (impl_walker_body_of_RecOk_1_RecOk_2.rec k d).1

def impl_walker_body_of_RecOk_1_RecOk_2 (k : Nat) : Int → Int → Int → Int → TWalker → Option (Int × TWalker) := impl_walker_body_of_RecOk_1_RecOk_2.d k k

def impl_walker_col_of_RecOk_1_RecOk_2.d (k d : Nat) : Int → Int → Int → Int → TWalker → Option (Int × TWalker) := (impl_walker_body_of_RecOk_1_RecOk_2.rec k d).2

def impl_walker_col_of_RecOk_1_RecOk_2 (k : Nat) : Int → Int → Int → Int → TWalker → Option (Int × TWalker) := impl_walker_col_of_RecOk_1_RecOk_2.d k k

def impl_walk_of_RecOk_1_RecOk_2 (k : Nat) (t0 : List TCol) (t1 : TRec) (t2 : Unit) (t3 : Unit) : Option Bool :=
  (impl_walker_body_of_RecOk_1_RecOk_2 k 0 0 0 0 (t0, t1.1, decide ((List.length t1.1 : Int) > 300), (()), (()), ())).bind fun r1 => (cond (!r1.2.2.2.1) (some ((List.length r1.2.2.1 : Int) == 0)) (some (false))).bind fun b2 => some b2

def impl_RecOk (k : Nat) (t0 : List TCol) (t1 : TRec) : Option Bool :=
  (impl_SchemaOk k t0).bind fun r1 => (cond r1 ((impl_walk_of_RecOk_1_RecOk_2 k t0 t1 (()) (())).bind fun r2 => some (r2)) (some (false))).bind fun b3 => some b3

def impl_walker_next_of_RecValues_1_RecValues_2 (k : Nat) (o0 : TWalkerB) (o10 : Unit) (o11 : List Int) (o12 : Int) (o13 : Unit) (o14 : List TVal) : Option ((TVal) × TWalkerB × Unit × (List Int) × Int × Unit × (List TVal)) :=
  (cond o0.2.2.1 (some (true)) (some ((List.length o0.2.1 : Int) == 0))).bind fun b1 => cond b1 (some ((0, (⟨#[]⟩ : ByteArray), ()), ((o0.1, o0.2.1, true, ((), (), (), ()), (()), ()), (), o11, o12, (), o14))) ((rdL o0.2.1 0).bind fun y2 => cond (inSl 1 ((List.length o0.2.1) : Int) (List.length o0.2.1)) (some (y2, ((o0.1, cutL o0.2.1 1 ((List.length o0.2.1) : Int), o0.2.2.1, ((), (), (), ()), (()), ()), (), o11, o12, (), o14))) none)

def impl_walker_count_of_RecValues_1_RecValues_2 (k : Nat) (t1 : Int) (o0 : TWalkerB) (o10 : Unit) (o11 : List Int) (o12 : Int) (o13 : Unit) (o14 : List TVal) : Option (Int × TWalkerB × Unit × (List Int) × Int × Unit × (List TVal)) :=
  (impl_walker_next_of_RecValues_1_RecValues_2 k (o0.1, o0.2.1, o0.2.2.1, ((), (), (), ()), (()), ()) () o11 o12 () o14).bind fun r1 => (cond (!eqS r1.1.2.1 (⟨#[]⟩ : ByteArray)) (some (true)) ((impl_within k r1.1.1 0 t1).bind fun r2 => some (!r2))).bind fun b3 => cond b3 (some (0, ((r1.2.1.1, r1.2.1.2.1, true, ((), (), (), ()), (()), ()), (), r1.2.2.2.1, r1.2.2.2.2.1, (), r1.2.2.2.2.2.2))) (some (r1.1.1, ((r1.2.1.1, r1.2.1.2.1, r1.2.1.2.2.1, ((), (), (), ()), (()), ()), (), r1.2.2.2.1, r1.2.2.2.2.1, (), r1.2.2.2.2.2.2)))

def impl_RecValues_2 (k : Nat) (t0 : Int) (t1 : Int) (t2 : Int) : Option Unit :=
  some ()

def impl_walker_missing_of_RecValues_1_RecValues_2.c4 (k : Nat) (L3 : Int → Int → Int → Int → TWalkerB → Unit → (List Int) → Int → Unit → (List TVal) → Option (Int × TWalkerB × Unit × (List Int) × Int × Unit × (List TVal))) (t2 : Int) (t3 : Int) (t9 : Int) (t10 : Int) (o0 : TWalkerB) (o10 : Unit) (o11 : List Int) (o12 : Int) (o13 : Unit) (o14 : List TVal) : Option (Int × TWalkerB × Unit × (List Int) × Int × Unit × (List TVal)) :=
  L3 t2 t3 t9 (IntKind.wrap .i64 (t10 + 1)) (o0.1, o0.2.1, o0.2.2.1, ((), (), (), ()), (()), ()) () o11 o12 () o14

def impl_walker_missing_of_RecValues_1_RecValues_2.l3 (k : Nat) : Nat → Int → Int → Int → Int → TWalkerB → Unit → (List Int) → Int → Unit → (List TVal) → Option (Int × TWalkerB × Unit × (List Int) × Int × Unit × (List TVal))
  | 0, _, _, _, _, _, _, _, _, _, _ => none
  | n + 1, t2, t3, t9, t10, o0, o10, o11, o12, o13, o14 =>
    cond (decide (t10 < t9)) ((rdL o0.1 t10).bind fun y1 => cond (y1.2.1 != 7) ((impl_RecValues_2 k t10 t2 t3).bind fun r2 => impl_walker_missing_of_RecValues_1_RecValues_2.c4 k (impl_walker_missing_of_RecValues_1_RecValues_2.l3 k n) t2 t3 t9 t10 (o0.1, o0.2.1, o0.2.2.1, ((), (), (), ()), (()), ()) () o11 o12 () o14) (impl_walker_missing_of_RecValues_1_RecValues_2.c4 k (impl_walker_missing_of_RecValues_1_RecValues_2.l3 k n) t2 t3 t9 t10 (o0.1, o0.2.1, o0.2.2.1, ((), (), (), ()), (()), ()) () o11 o12 () o14)) (some (t9, ((o0.1, o0.2.1, o0.2.2.1, ((), (), (), ()), (()), ()), (), o11, o12, (), o14)))

def impl_walker_missing_of_RecValues_1_RecValues_2 (k : Nat) (t1 : Int) (t2 : Int) (t3 : Int) (o0 : TWalkerB) (o10 : Unit) (o11 : List Int) (o12 : Int) (o13 : Unit) (o14 : List TVal) : Option (Int × TWalkerB × Unit × (List Int) × Int × Unit × (List TVal)) :=
  (impl_colAfter k o0.1 t1 1).bind fun r3 => impl_walker_missing_of_RecValues_1_RecValues_2.l3 k k t2 t3 r3 t1 (o0.1, o0.2.1, o0.2.2.1, ((), (), (), ()), (()), ()) () o11 o12 () o14

def impl_RecValues_1 (k : Nat) (t0 : Int) (t1 : Int) (t2 : Int) (t3 : TVal) (o4 : Unit) (o5 : Int) (o6 : Unit) (o10 : List Int) (o11 : List TVal) : Option (Unit × Unit × Int × Unit × (List Int) × (List TVal)) :=
  (rdL o10 o5).bind fun y1 => cond (t0 == y1) (cond (lim (List.length o11 + List.length [t3])) (some ((), ((), o5, (), o10, o11 ++ [t3]))) none) (some ((), ((), o5, (), o10, o11)))

def impl_walker_body_of_RecValues_1_RecValues_2.c14 (k : Nat) (t12 : Int) (o0 : TWalkerB) (o10 : Unit) (o11 : List Int) (o12 : Int) (o13 : Unit) (o100 : List TVal) : Option (Int × TWalkerB × Unit × (List Int) × Int × Unit × (List TVal)) :=
  some (t12, ((o0.1, o0.2.1, o0.2.2.1, ((), (), (), ()), (()), ()), (), o11, o12, (), o100))

def impl_walker_body_of_RecValues_1_RecValues_2.l10 (k : Nat) (S163i8 : Int → Int → Int → Int → TWalkerB → Unit → (List Int) → Int → Unit → (List TVal) → Option (Int × TWalkerB × Unit × (List Int) × Int × Unit × (List TVal))) : Nat → Int → Int → Int → Int → Int → Int → TWalkerB → Unit → (List Int) → Int → Unit → (List TVal) → Option (Int × TWalkerB × Unit × (List Int) × Int × Unit × (List TVal))
  | 0, _, _, _, _, _, _, _, _, _, _, _, _ => none
  | n + 1, t2, t3, t4, t12, t70, t71, o0, o10, o11, o12, o13, o100 =>
    cond (decide (t71 < t70)) (cond o0.2.2.1 (impl_walker_body_of_RecValues_1_RecValues_2.c14 k t12 (o0.1, o0.2.1, o0.2.2.1, ((), (), (), ()), (()), ()) () o11 o12 () o100) ((S163i8 t12 t2 t3 t4 (o0.1, o0.2.1, o0.2.2.1, ((), (), (), ()), (()), ()) () o11 o12 () o100).bind fun r1 => (impl_walker_body_of_RecValues_1_RecValues_2.l10 k S163i8 n) t2 t3 t4 r1.1 t70 (IntKind.wrap .i64 (t71 + 1)) (r1.2.1.1, r1.2.1.2.1, r1.2.1.2.2.1, ((), (), (), ()), (()), ()) () r1.2.2.2.1 r1.2.2.2.2.1 () r1.2.2.2.2.2.2)) (impl_walker_body_of_RecValues_1_RecValues_2.c14 k t12 (o0.1, o0.2.1, o0.2.2.1, ((), (), (), ()), (()), ()) () o11 o12 () o100)

def impl_walker_body_of_RecValues_1_RecValues_2.c7 (k : Nat) (t1 : Int) (o0 : TWalkerB) (o10 : Unit) (o11 : List Int) (o12 : Int) (o13 : Unit) (o100 : List TVal) : Option (Int × TWalkerB × Unit × (List Int) × Int × Unit × (List TVal)) :=
  some (IntKind.wrap .i64 (t1 + 1), ((o0.1, o0.2.1, o0.2.2.1, ((), (), (), ()), (()), ()), (), o11, o12, (), o100))

def impl_walker_body_of_RecValues_1_RecValues_2.c5 (k : Nat) (t1 : Int) (t2 : Int) (t3 : Int) (o0 : TWalkerB) (o10 : Unit) (o11 : List Int) (o12 : Int) (o13 : Unit) (o14 : List TVal) (o100 : TVal) : Option (Int × TWalkerB × Unit × (List Int) × Int × Unit × (List TVal)) :=
  cond (!o0.2.2.1) ((impl_RecValues_1 k t1 t2 t3 o100 () o12 () o11 o14).bind fun r2 => impl_walker_body_of_RecValues_1_RecValues_2.c7 k t1 (o0.1, o0.2.1, o0.2.2.1, ((), (), (), ()), (()), ()) () r2.2.2.2.2.1 r2.2.2.1 () r2.2.2.2.2.2) (impl_walker_body_of_RecValues_1_RecValues_2.c7 k t1 (o0.1, o0.2.1, o0.2.2.1, ((), (), (), ()), (()), ()) () o11 o12 () o14)

def impl_walker_body_of_RecValues_1_RecValues_2.d3 (k : Nat) (t1 : Int) (t2 : Int) (t3 : Int) (o0 : TWalkerB) (o10 : Unit) (o11 : List Int) (o12 : Int) (o13 : Unit) (o14 : List TVal) (o100 : TVal) : Option (Int × TWalkerB × Unit × (List Int) × Int × Unit × (List TVal)) :=
  cond (!o0.2.2.1) ((rdL o0.1 t1).bind fun y3 => (impl_ValOk k y3.2.1 o100).bind fun r4 => cond (!r4) (impl_walker_body_of_RecValues_1_RecValues_2.c5 k t1 t2 t3 (o0.1, o0.2.1, true, ((), (), (), ()), (()), ()) () o11 o12 () o14 o100) (impl_walker_body_of_RecValues_1_RecValues_2.c5 k t1 t2 t3 (o0.1, o0.2.1, o0.2.2.1, ((), (), (), ()), (()), ()) () o11 o12 () o14 o100)) (cond false (impl_walker_body_of_RecValues_1_RecValues_2.c5 k t1 t2 t3 (o0.1, o0.2.1, true, ((), (), (), ()), (()), ()) () o11 o12 () o14 o100) (impl_walker_body_of_RecValues_1_RecValues_2.c5 k t1 t2 t3 (o0.1, o0.2.1, o0.2.2.1, ((), (), (), ()), (()), ()) () o11 o12 () o14 o100))

def impl_walker_body_of_RecValues_1_RecValues_2.b (k : Nat) (S152i4 : Int → Int → Int → Int → TWalkerB → Unit → (List Int) → Int → Unit → (List TVal) → Option (Int × TWalkerB × Unit × (List Int) × Int × Unit × (List TVal))) (S163i8 : Int → Int → Int → Int → TWalkerB → Unit → (List Int) → Int → Unit → (List TVal) → Option (Int × TWalkerB × Unit × (List Int) × Int × Unit × (List TVal))) (t1 : Int) (t2 : Int) (t3 : Int) (t4 : Int) (o0 : TWalkerB) (o10 : Unit) (o11 : List Int) (o12 : Int) (o13 : Unit) (o14 : List TVal) : Option (Int × TWalkerB × Unit × (List Int) × Int × Unit × (List TVal)) :=
  (rdL o0.1 t1).bind fun y7 => cond (y7.2.1 != 7) ((impl_walker_next_of_RecValues_1_RecValues_2 k (o0.1, o0.2.1, o0.2.2.1, ((), (), (), ()), (()), ()) () o11 o12 () o14).bind fun r8 => impl_walker_body_of_RecValues_1_RecValues_2.d3 k t1 t2 t3 (r8.2.1.1, r8.2.1.2.1, r8.2.1.2.2.1, ((), (), (), ()), (()), ()) () r8.2.2.2.1 r8.2.2.2.2.1 () r8.2.2.2.2.2.2 r8.1) ((rdL o0.1 t1).bind fun y9 => impl_walker_body_of_RecValues_1_RecValues_2.l10 k S163i8 k t2 t3 t4 (IntKind.wrap .i64 (t1 + 1)) y9.2.2.2.1 0 (o0.1, o0.2.1, o0.2.2.1, ((), (), (), ()), (()), ()) () o11 o12 () o14)

def impl_walker_col_of_RecValues_1_RecValues_2.c18 (k : Nat) (S152i4 : Int → Int → Int → Int → TWalkerB → Unit → (List Int) → Int → Unit → (List TVal) → Option (Int × TWalkerB × Unit × (List Int) × Int × Unit × (List TVal))) (t1 : Int) (t2 : Int) (t3 : Int) (t4 : Int) (o0 : TWalkerB) (o10 : Unit) (o11 : List Int) (o12 : Int) (o13 : Unit) (o14 : List TVal) : Option (Int × TWalkerB × Unit × (List Int) × Int × Unit × (List TVal)) :=
  (S152i4 t1 t2 t3 t4 (o0.1, o0.2.1, o0.2.2.1, ((), (), (), ()), (()), ()) () o11 o12 () o14).bind fun r1 => some (r1.1, ((r1.2.1.1, r1.2.1.2.1, r1.2.1.2.2.1, ((), (), (), ()), (()), ()), (), r1.2.2.2.1, r1.2.2.2.2.1, (), r1.2.2.2.2.2.2))

def impl_walker_col_of_RecValues_1_RecValues_2.l14 (k : Nat) (S152i4 : Int → Int → Int → Int → TWalkerB → Unit → (List Int) → Int → Unit → (List TVal) → Option (Int × TWalkerB × Unit × (List Int) × Int × Unit × (List TVal))) : Nat → Int → Int → Int → Int → Int → TWalkerB → Unit → (List Int) → Int → Unit → (List TVal) → Option (Int × TWalkerB × Unit × (List Int) × Int × Unit × (List TVal))
  | 0, _, _, _, _, _, _, _, _, _, _, _ => none
  | n + 1, t1, t3, t4, t12, t13, o0, o10, o11, o12, o13, o100 =>
    (cond (decide (t13 < t12)) (some (!o0.2.2.1)) (some (false))).bind fun b2 => cond b2 ((S152i4 t1 t4 (IntKind.wrap .i64 (t3 + 1)) t4 (o0.1, o0.2.1, o0.2.2.1, ((), (), (), ()), (()), ()) () o11 o12 () o100).bind fun r3 => (impl_walker_col_of_RecValues_1_RecValues_2.l14 k S152i4 n) t1 t3 t4 t12 (IntKind.wrap .i64 (t13 + 1)) (r3.2.1.1, r3.2.1.2.1, r3.2.1.2.2.1, ((), (), (), ()), (()), ()) () r3.2.2.2.1 r3.2.2.2.2.1 () r3.2.2.2.2.2.2) ((impl_colAfter k o0.1 t1 1).bind fun r4 => some (r4, ((o0.1, o0.2.1, o0.2.2.1, ((), (), (), ()), (()), ()), (), o11, o12, (), o100)))

def impl_walker_col_of_RecValues_1_RecValues_2.b (k : Nat) (S152i4 : Int → Int → Int → Int → TWalkerB → Unit → (List Int) → Int → Unit → (List TVal) → Option (Int × TWalkerB × Unit × (List Int) × Int × Unit × (List TVal))) (S163i8 : Int → Int → Int → Int → TWalkerB → Unit → (List Int) → Int → Unit → (List TVal) → Option (Int × TWalkerB × Unit × (List Int) × Int × Unit × (List TVal))) (t1 : Int) (t2 : Int) (t3 : Int) (t4 : Int) (o0 : TWalkerB) (o10 : Unit) (o11 : List Int) (o12 : Int) (o13 : Unit) (o14 : List TVal) : Option (Int × TWalkerB × Unit × (List Int) × Int × Unit × (List TVal)) :=
  (rdL o0.1 t1).bind fun y5 => cond (y5.2.2.1 == 1) ((impl_walker_count_of_RecValues_1_RecValues_2 k 1 (o0.1, o0.2.1, o0.2.2.1, ((), (), (), ()), (()), ()) () o11 o12 () o14).bind fun r6 => cond (r6.1 == 0) ((impl_walker_missing_of_RecValues_1_RecValues_2 k t1 t2 t3 (r6.2.1.1, r6.2.1.2.1, r6.2.1.2.2.1, ((), (), (), ()), (()), ()) () r6.2.2.2.1 r6.2.2.2.2.1 () r6.2.2.2.2.2.2).bind fun r7 => some (r7.1, ((r7.2.1.1, r7.2.1.2.1, r7.2.1.2.2.1, ((), (), (), ()), (()), ()), (), r7.2.2.2.1, r7.2.2.2.2.1, (), r7.2.2.2.2.2.2))) (impl_walker_col_of_RecValues_1_RecValues_2.c18 k S152i4 t1 t2 (IntKind.wrap .i64 (t3 + 1)) t4 (r6.2.1.1, r6.2.1.2.1, r6.2.1.2.2.1, ((), (), (), ()), (()), ()) () r6.2.2.2.1 r6.2.2.2.2.1 () r6.2.2.2.2.2.2)) (cond (y5.2.2.1 == 2) ((impl_walker_count_of_RecValues_1_RecValues_2 k 20 (o0.1, o0.2.1, o0.2.2.1, ((), (), (), ()), (()), ()) () o11 o12 () o14).bind fun r8 => cond (r8.1 == 0) ((impl_walker_missing_of_RecValues_1_RecValues_2 k t1 t2 t3 (r8.2.1.1, r8.2.1.2.1, r8.2.1.2.2.1, ((), (), (), ()), (()), ()) () r8.2.2.2.1 r8.2.2.2.2.1 () r8.2.2.2.2.2.2).bind fun r9 => some (r9.1, ((r9.2.1.1, r9.2.1.2.1, r9.2.1.2.2.1, ((), (), (), ()), (()), ()), (), r9.2.2.2.1, r9.2.2.2.2.1, (), r9.2.2.2.2.2.2))) ((S152i4 t1 t2 (IntKind.wrap .i64 (t3 + 1)) (IntKind.wrap .i64 (t4 + 1)) (r8.2.1.1, r8.2.1.2.1, r8.2.1.2.2.1, ((), (), (), ()), (()), ()) () r8.2.2.2.1 r8.2.2.2.2.1 () r8.2.2.2.2.2.2).bind fun r10 => impl_walker_col_of_RecValues_1_RecValues_2.l14 k S152i4 k t1 t3 (IntKind.wrap .i64 (t4 + 1)) r8.1 1 (r10.2.1.1, r10.2.1.2.1, r10.2.1.2.2.1, ((), (), (), ()), (()), ()) () r10.2.2.2.1 r10.2.2.2.2.1 () r10.2.2.2.2.2.2)) (impl_walker_col_of_RecValues_1_RecValues_2.c18 k S152i4 t1 t2 t3 t4 (o0.1, o0.2.1, o0.2.2.1, ((), (), (), ()), (()), ()) () o11 o12 () o14))

def impl_walker_body_of_RecValues_1_RecValues_2.rec (k : Nat) : Nat → (Int → Int → Int → Int → TWalkerB → Unit → (List Int) → Int → Unit → (List TVal) → Option (Int × TWalkerB × Unit × (List Int) × Int × Unit × (List TVal))) × (Int → Int → Int → Int → TWalkerB → Unit → (List Int) → Int → Unit → (List TVal) → Option (Int × TWalkerB × Unit × (List Int) × Int × Unit × (List TVal)))
  | 0 => (fun _ _ _ _ _ _ _ _ _ _ => none, fun _ _ _ _ _ _ _ _ _ _ => none)
  | d + 1 => (impl_walker_body_of_RecValues_1_RecValues_2.b k ((impl_walker_body_of_RecValues_1_RecValues_2.rec k d).1) ((impl_walker_body_of_RecValues_1_RecValues_2.rec k d).2), impl_walker_col_of_RecValues_1_RecValues_2.b k ((impl_walker_body_of_RecValues_1_RecValues_2.rec k d).1) ((impl_walker_body_of_RecValues_1_RecValues_2.rec k d).2))

def impl_walker_body_of_RecValues_1_RecValues_2.d (k d : Nat) : Int → Int → Int → Int → TWalkerB → Unit → (List Int) → Int → Unit → (List TVal) → Option (Int × TWalkerB × Unit × (List Int) × Int × Unit × (List TVal)) := (impl_walker_body_of_RecValues_1_RecValues_2.rec k d).1

def impl_walker_body_of_RecValues_1_RecValues_2 (k : Nat) : Int → Int → Int → Int → TWalkerB → Unit → (List Int) → Int → Unit → (List TVal) → Option (Int × TWalkerB × Unit × (List Int) × Int × Unit × (List TVal)) := impl_walker_body_of_RecValues_1_RecValues_2.d k k

def impl_walker_col_of_RecValues_1_RecValues_2.d (k d : Nat) : Int → Int → Int → Int → TWalkerB → Unit → (List Int) → Int → Unit → (List TVal) → Option (Int × TWalkerB × Unit × (List Int) × Int × Unit × (List TVal)) := (impl_walker_body_of_RecValues_1_RecValues_2.rec k d).2

def impl_walker_col_of_RecValues_1_RecValues_2 (k : Nat) : Int → Int → Int → Int → TWalkerB → Unit → (List Int) → Int → Unit → (List TVal) → Option (Int × TWalkerB × Unit × (List Int) × Int × Unit × (List TVal)) := impl_walker_col_of_RecValues_1_RecValues_2.d k k

def impl_walk_of_RecValues_1_RecValues_2 (k : Nat) (t0 : List TCol) (t1 : TRec) (t2 : Unit × Unit × Unit × Unit) (t3 : Unit) (o10 : Unit) (o11 : List Int) (o12 : Int) (o13 : Unit) (o14 : List TVal) : Option (Bool × Unit × (List Int) × Int × Unit × (List TVal)) :=
  (impl_walker_body_of_RecValues_1_RecValues_2 k 0 0 0 0 (t0, t1.1, decide ((List.length t1.1 : Int) > 300), ((), (), (), ()), (()), ()) () o11 o12 () o14).bind fun r1 => (cond (!r1.2.1.2.2.1) (some ((List.length r1.2.1.2.1 : Int) == 0)) (some (false))).bind fun b2 => some (b2, ((), r1.2.2.2.1, r1.2.2.2.2.1, (), r1.2.2.2.2.2.2))

def impl_RecValues (k : Nat) (t0 : List TCol) (t1 : TRec) (t2 : Int) : Option ((Unit × Bool) × (List TVal)) :=
  (impl_SchemaLeaves k t0).bind fun r1 => (impl_within k t2 0 (IntKind.wrap .i64 ((List.length r1.2 : Int) - 1))).bind fun r2 => cond (!r2) (some (((), false), [])) ((impl_walk_of_RecValues_1_RecValues_2 k t0 t1 ((), (), (), ()) (()) () r1.2 t2 () []).bind fun r3 => cond (!r3.1) (some (((), false), [])) (some (((), true), r3.2.2.2.2.2)))

def impl_holds (k : Nat) (t0 : List TCol) (t1 : TPred) (t2 : TRec) : Option Bool :=
  (impl_RecValues k t0 t2 t1.2.1).bind fun r1 => (impl_LeafOf k t0 t1.2.1).bind fun r2 => (cond (t1.1 == 4) (some (true)) (some ((List.length r1.2 : Int) == 0))).bind fun b3 => cond b3 ((cond (t1.1 == 4) (some ((List.length r1.2 : Int) == 0)) (some (false))).bind fun b4 => some b4) (cond (t1.1 == 1) ((rdL r1.2 0).bind fun y5 => some ((y5.1 == t1.2.2.1.1) && (eqS y5.2.1 t1.2.2.1.2.1 && true))) (cond (t1.1 == 2) ((rdL r1.2 0).bind fun y6 => (impl_ValLess k r2.1.1 y6 t1.2.2.1).bind fun r7 => some r7) ((rdL r1.2 0).bind fun y8 => (impl_ValLess k r2.1.1 t1.2.2.1 y8).bind fun r9 => some (!r9))))

def impl_PredHolds.c15 (k : Nat) (L5 : (List TCol) → (List TPred) → (List TPred) → Int → Int → TRec → (List Bool) → Option Bool) (t0 : List TCol) (t1 : List TPred) (t23 : List TPred) (t24 : Int) (t25 : Int) (o100 : TRec) (o101 : List Bool) : Option Bool :=
  L5 t0 t1 t23 t24 (IntKind.wrap .i64 (t25 + 1)) o100 o101

def impl_PredHolds.l5 (k : Nat) : Nat → (List TCol) → (List TPred) → (List TPred) → Int → Int → TRec → (List Bool) → Option Bool
  | 0, _, _, _, _, _, _, _ => none
  | n + 1, t0, t1, t23, t24, t25, o100, o101 =>
    cond (decide (t25 < t24)) ((rdL t23 t25).bind fun y1 => cond (y1.1 == 5) ((rdL o101 y1.2.2.2.1).bind fun y2 => (cond y2 ((rdL o101 y1.2.2.2.2.1).bind fun y3 => some (y3)) (some (false))).bind fun b4 => (rdL o101 t25).bind fun y5 => (rdL o101 t25).bind fun y6 => impl_PredHolds.c15 k (impl_PredHolds.l5 k n) t0 t1 t23 t24 t25 o100 (List.set o101 (Int.toNat t25) b4)) (cond (y1.1 == 6) ((rdL o101 y1.2.2.2.1).bind fun y7 => (cond y7 (some (true)) ((rdL o101 y1.2.2.2.2.1).bind fun y8 => some (y8))).bind fun b9 => (rdL o101 t25).bind fun y10 => (rdL o101 t25).bind fun y11 => impl_PredHolds.c15 k (impl_PredHolds.l5 k n) t0 t1 t23 t24 t25 o100 (List.set o101 (Int.toNat t25) b9)) (cond (y1.1 == 7) ((rdL o101 y1.2.2.2.1).bind fun y12 => (rdL o101 t25).bind fun y13 => (rdL o101 t25).bind fun y14 => impl_PredHolds.c15 k (impl_PredHolds.l5 k n) t0 t1 t23 t24 t25 o100 (List.set o101 (Int.toNat t25) (!y12))) ((impl_holds k t0 y1 o100).bind fun r15 => (rdL o101 t25).bind fun y16 => (rdL o101 t25).bind fun y17 => impl_PredHolds.c15 k (impl_PredHolds.l5 k n) t0 t1 t23 t24 t25 o100 (List.set o101 (Int.toNat t25) r15))))) ((rdL o101 (IntKind.wrap .i64 ((List.length t1 : Int) - 1))).bind fun y18 => some y18)

def impl_PredHolds (k : Nat) (t0 : List TCol) (t1 : List TPred) (t2 : TRec) : Option Bool :=
  (impl_PredOk k t0 t1).bind fun r19 => (cond (!r19) (some (true)) ((impl_RecOk k t0 t2).bind fun r20 => some (!r20))).bind fun b21 => cond b21 (some false) (cond (okLen (List.length t1 : Int)) (impl_PredHolds.l5 k k t0 t1 t1 (List.length t1 : Int) 0 t2 (List.replicate (Int.toNat (List.length t1 : Int)) false)) none)

def laws_FnMay.c23 (k : Nat) (L22 : (List TCol) → (List TRec) → Bool → Bool → Int → (List TPred) → Option Bool) (t3 : List TCol) (t4 : List TRec) (t17 : Bool) (t18 : Bool) (t21 : Int) (o100 : List TPred) : Option Bool :=
  L22 t3 t4 t17 t18 (IntKind.wrap .i64 (t21 + 1)) o100

def laws_FnMay.l22 (k : Nat) : Nat → (List TCol) → (List TRec) → Bool → Bool → Int → (List TPred) → Option Bool
  | 0, _, _, _, _, _, _ => none
  | n + 1, t3, t4, t17, t18, t21, o100 =>
    cond (decide (t21 < (List.length t4 : Int))) ((rdL t4 t21).bind fun y1 => (impl_PredHolds k t3 o100 y1).bind fun r2 => cond r2 (cond (!t17) (some false) (laws_FnMay.c23 k (laws_FnMay.l22 k n) t3 t4 t17 t18 t21 o100)) (cond (!t18) (some false) (laws_FnMay.c23 k (laws_FnMay.l22 k n) t3 t4 t17 t18 t21 o100))) (some true)

def laws_FnMay.d16 (k : Nat) (L12 : (List Int) → (List TCol) → (List TRec) → Int → (List TPred) → (List TColumn) → (List TKnown) → Option Bool) (t0 : List Int) (t3 : List TCol) (t4 : List TRec) (t12 : Int) (o100 : List TPred) (o101 : List TColumn) (o102 : List TKnown) (o103 : TLeaf) (o104 : TStats) : Option Bool :=
  cond (o103.2.1 == 0) ((laws_at k t0 t12).bind fun r3 => cond (lim (List.length o102 + List.length [(decide ((Int.tmod r3 5) > 0), o104, ())])) (L12 t0 t3 t4 (IntKind.wrap .i64 (t12 + 1)) o100 o101 (o102 ++ [(decide ((Int.tmod r3 5) > 0), o104, ())])) none) (cond (lim (List.length o102 + List.length [(false, o104, ())])) (L12 t0 t3 t4 (IntKind.wrap .i64 (t12 + 1)) o100 o101 (o102 ++ [(false, o104, ())])) none)

def laws_FnMay.d15 (k : Nat) (L12 : (List Int) → (List TCol) → (List TRec) → Int → (List TPred) → (List TColumn) → (List TKnown) → Option Bool) (t0 : List Int) (t3 : List TCol) (t4 : List TRec) (t12 : Int) (o100 : List TPred) (o101 : List TColumn) (o102 : List TKnown) (o103 : TLeaf) : Option Bool :=
  (rdL o101 t12).bind fun y7 => (spec_StatsOf k o103 y7.1).bind fun r8 => laws_FnMay.d16 k L12 t0 t3 t4 t12 o100 o101 o102 o103 r8.1

def laws_FnMay.l12 (k : Nat) : Nat → (List Int) → (List TCol) → (List TRec) → Int → (List TPred) → (List TColumn) → (List TKnown) → Option Bool
  | 0, _, _, _, _, _, _, _ => none
  | n + 1, t0, t3, t4, t12, o100, o101, o102 =>
    cond (decide (t12 < (List.length o101 : Int))) ((spec_LeafOf k t3 t12).bind fun r13 => laws_FnMay.d15 k (laws_FnMay.l12 k n) t0 t3 t4 t12 o100 o101 o102 r13.1) ((impl_PredMay k t3 o100 o102).bind fun r14 => (spec_PredMay k t3 o100 o102).bind fun r15 => (cond (!(r14.1 == r15.1)) (some (true)) (some (!(r14.2 == r15.2)))).bind fun b16 => cond b16 (some false) (laws_FnMay.l22 k k t3 t4 r14.1 r14.2 0 o100))

def laws_FnMay (k : Nat) (t0 : List Int) : Option Bool :=
  (laws_big k t0).bind fun r17 => cond r17 (some true) ((spec_DrawSome k t0).bind fun r18 => (spec_PredOk k r18.1.1 r18.2.2.2).bind fun r19 => cond (!r19) ((impl_PredMay k r18.1.1 r18.2.2.2 []).bind fun r20 => (cond (!r20.1) (some (!r20.2)) (some (false))).bind fun b21 => (cond b21 ((impl_PredOk k r18.1.1 r18.2.2.2).bind fun r22 => some (!r22)) (some (false))).bind fun b23 => some b23) ((spec_Shred k r18.1.1 r18.2.1).bind fun r24 => cond (!r24.1.2) (some true) (laws_FnMay.l12 k k t0 r18.1.1 r18.2.1 0 r18.2.2.2 r24.2 [])))

end Go.Fn
