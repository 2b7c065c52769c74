/- Clean functions, printed by program. -/
import Derived.Test.YtbmgddnjdcagpaaAmStep
set_option linter.unusedVariables false
namespace Go.Fn
open Go.Am

abbrev TMetaReader := Unit × Bool × Unit
abbrev TLeaf := Int × Int × Int × Unit
abbrev TVal := Int × ByteArray × Unit
abbrev THeadReader := Unit × Int × Bool × Unit
abbrev TL1Cur := (List Int) × Int × Int × Unit
abbrev TCol := ByteArray × Int × Int × Int × Unit
abbrev TRec := (List TVal) × Unit
abbrev TNode := Int × Int × Int × ByteArray × Int × Unit
abbrev TTriple := Int × Int × TVal × Unit
abbrev TDeltaReader := (List Int) × Int × Bool × (List Int) × Unit
abbrev TChunk := Int × Int × Int × Int × Int × (List Int) × Unit
abbrev TConfig := Int × Bool × Int × Int × Int × (List Int) × Unit
abbrev TPred := Int × Int × TVal × Int × Int × Unit
abbrev TColumn := (List TTriple) × Unit
abbrev TGroupMeta := Int × (List TChunk) × Unit
abbrev TTree := (List TNode) × (List Int) × Unit
abbrev TStats := Int × Bool × TVal × TVal × Unit
abbrev TTreeReader := (List Int) × Int × (List TNode) × Int × Unit
abbrev TKnown := Bool × TStats × Unit
abbrev TWalker := (List TCol) × (List TVal) × Bool × Unit × Unit × Unit
abbrev TWalkerB := (List TCol) × (List TVal) × Bool × (Unit × Unit × Unit) × (Unit × Unit) × Unit
abbrev TMeta := (List TCol) × Int × (List TGroupMeta) × Unit
abbrev THead := Int × Int × Int × Int × Int × Int × Int × Int × Bool × Int × Bool × TStats × Int × Unit
abbrev TJoinerB := (List TCol) × (List TColumn) × (List Int) × Unit × Unit × Bool × Bool × Unit
abbrev TJoiner := (List TCol) × (List TColumn) × (List Int) × (List Int) × (List TVal) × Bool × Bool × Unit

def laws_big (k : Nat) (t0 : List Int) : Option Bool :=
  some (decide ((List.length t0 : Int) > 1048576))

def spec_l1New.l3 (k : Nat) : Nat → (List Int) → Int → Int → Option (Unit × TL1Cur)
  | 0, _, _, _ => none
  | n + 1, t0, t3, t4 =>
    (cond (decide (t4 < (List.length t0 : Int))) (some (decide (t4 < 4000))) (some (false))).bind fun b1 =>
    cond b1
      ((rdL t0 t4).bind fun y2 =>
       (spec_l1New.l3 k n) t0 (bits .and .i64 (IntKind.wrap .i64 ((IntKind.wrap .i64 ((IntKind.wrap .i64 (t3 * 131)) + (IntKind.wrap .i64 y2))) + 7)) 1073741823) (IntKind.wrap .i64 (t4 + 1)))
      (some ((), (t0, 0, t3, ())))

def spec_l1New (k : Nat) (t0 : List Int) : Option (Unit × TL1Cur) :=
  spec_l1New.l3 k k t0 (IntKind.wrap .i64 (11443 + (List.length t0 : Int))) 0

def spec_l1Byte.c6 (k : Nat) (t3 : Int) (o0 : TL1Cur) : Option (Int × TL1Cur) :=
  some (t3, o0)

def spec_l1Byte (k : Nat) (o0 : TL1Cur) : Option (Int × TL1Cur) :=
  cond (decide (o0.2.1 < (List.length o0.1 : Int)))
    ((rdL o0.1 o0.2.1).bind fun y1 =>
     spec_l1Byte.c6 k (bits .and .i64 (IntKind.wrap .i64 ((bits .and .i64 (bits .xor .i64 (shrI .i64 (IntKind.wrap .i64 ((IntKind.wrap .i64 (o0.2.2.1 * 6364136223846793005)) + 1442695040888963407)) 33) (shrI .i64 (IntKind.wrap .i64 ((IntKind.wrap .i64 (o0.2.2.1 * 6364136223846793005)) + 1442695040888963407)) 45)) 255) + (IntKind.wrap .i64 y1))) 255) (o0.1, IntKind.wrap .i64 (o0.2.1 + 1), IntKind.wrap .i64 ((IntKind.wrap .i64 (o0.2.2.1 * 6364136223846793005)) + 1442695040888963407), ()))
    (spec_l1Byte.c6 k (bits .and .i64 (bits .xor .i64 (shrI .i64 (IntKind.wrap .i64 ((IntKind.wrap .i64 (o0.2.2.1 * 6364136223846793005)) + 1442695040888963407)) 33) (shrI .i64 (IntKind.wrap .i64 ((IntKind.wrap .i64 (o0.2.2.1 * 6364136223846793005)) + 1442695040888963407)) 45)) 255) (o0.1, o0.2.1, IntKind.wrap .i64 ((IntKind.wrap .i64 (o0.2.2.1 * 6364136223846793005)) + 1442695040888963407), ()))

def spec_l1Below (k : Nat) (t1 : Int) (o0 : TL1Cur) : Option (Int × TL1Cur) :=
  cond (decide (t1 ≤ 0))
    (some (0, o0))
    (cond (decide (t1 ≤ 256))
       ((spec_l1Byte k o0).bind fun r1 => cond (decide (t1 ≠ 0)) (some (Int.tmod r1.1 t1, r1.2)) none)
       ((spec_l1Byte k o0).bind fun r2 =>
        (spec_l1Byte k r2.2).bind fun r3 =>
        (spec_l1Byte k r3.2).bind fun r4 =>
        (spec_l1Byte k r4.2).bind fun r5 =>
        cond (decide (t1 ≠ 0)) (
        some (Int.tmod (IntKind.wrap .i64 ((IntKind.wrap .i64 ((IntKind.wrap .i64 ((IntKind.wrap .i64 (r2.1 * 16777216)) + (IntKind.wrap .i64 (r3.1 * 65536)))) + (IntKind.wrap .i64 (r4.1 * 256)))) + r5.1)) t1, r5.2)) none))

def spec_l1In (k : Nat) (t0 : Int) (t1 : Int) (t2 : Int) : Option Bool :=
  (cond (decide (t0 ≥ t1)) (some (decide (t0 ≤ t2))) (some (false))).bind fun b1 => some b1

def spec_l5Type.c7 (k : Nat) (t4 : Bool) : Option Bool :=
  cond t4 (some true) (some false)

def spec_l5Type (k : Nat) (t0 : Int) : Option Bool :=
  cond (t0 == 0)
    (spec_l5Type.c7 k (t0 == 0))
    (cond (t0 == 1)
       (spec_l5Type.c7 k (t0 == 1))
       (cond (t0 == 2) (spec_l5Type.c7 k (t0 == 2)) (cond (t0 == 5) (spec_l5Type.c7 k (t0 == 5)) (spec_l5Type.c7 k (t0 == 6)))))

def spec_l5Name.l4 (k : Nat) : Nat → ByteArray → Int → Option Bool
  | 0, _, _ => none
  | n + 1, t0, t3 =>
    cond (decide (t3 < (t0.size : Int)))
      ((btS t0 t3).bind fun y1 =>
       (cond (decide (y1 < 97)) (some (true)) ((btS t0 t3).bind fun y2 => some (decide (y2 > 122)))).bind fun b3 =>
       cond b3 (some false) ((spec_l5Name.l4 k n) t0 (IntKind.wrap .i64 (t3 + 1))))
      (some true)

def spec_l5Name (k : Nat) (t0 : ByteArray) : Option Bool :=
  (spec_l1In k (t0.size : Int) 1 20).bind fun r4 => cond (!r4) (some false) (spec_l5Name.l4 k k t0 0)

def spec_l5Check.l20 (k : Nat) (S186 : (List TCol) → Int → Int → Option Int) (L15 : (List TCol) → Int → Int → Int → TCol → (List ByteArray) → Option Int) : Nat → (List TCol) → Int → Int → Int → Int → TCol → (List ByteArray) → Option Int
  | 0, _, _, _, _, _, _, _ => none
  | n + 1, t0, t2, t8, t10, t11, o100, o101 =>
    cond (decide (t11 < (List.length o101 : Int)))
      ((rdL o101 t11).bind fun y1 =>
       (rdL t0 t8).bind fun y2 =>
       cond (eqS y1 y2.1) (some (-1)) ((spec_l5Check.l20 k S186 L15 n) t0 t2 t8 t10 (IntKind.wrap .i64 (t11 + 1)) o100 o101))
      ((rdL t0 t8).bind fun y3 =>
       cond (lim (List.length o101 + List.length [y3.1])) (
       (S186 t0 t8 (IntKind.wrap .i64 (t2 + 1))).bind fun r4 =>
       cond (decide (r4 < 0)) (some (-1)) (L15 t0 t2 r4 (IntKind.wrap .i64 (t10 + 1)) o100 (o101 ++ [y3.1]))) none)

def spec_l5Check.l15 (k : Nat) (S186 : (List TCol) → Int → Int → Option Int) : Nat → (List TCol) → Int → Int → Int → TCol → (List ByteArray) → Option Int
  | 0, _, _, _, _, _, _ => none
  | n + 1, t0, t2, t8, t10, o100, o101 =>
    cond (decide (t10 < o100.2.2.2.1))
      (cond (decide (t8 ≥ (List.length t0 : Int))) (some (-1)) (spec_l5Check.l20 k S186 (spec_l5Check.l15 k S186 n) k t0 t2 t8 t10 0 o100 o101))
      (some t8)

def spec_l5Check.b (k : Nat) (S186 : (List TCol) → Int → Int → Option Int) (t0 : List TCol) (t1 : Int) (t2 : Int) : Option Int :=
  (cond (decide (t1 ≥ (List.length t0 : Int))) (some (true)) (some (decide (t2 > 6)))).bind fun b5 =>
  cond b5
    (some (-1))
    ((rdL t0 t1).bind fun y6 =>
     (cond (t1 == 0)
        ((cond (!eqS y6.1 (⟨#[]⟩ : ByteArray)) (some (true)) (some (y6.2.2.1 != 0))).bind fun b7 =>
         (cond b7 (some (true)) (some (y6.2.1 != 7))).bind fun b8 => some (b8))
        (some (false))).bind fun b9 =>
     (cond b9 (some (true)) ((cond (decide (t1 > 0)) ((spec_l5Name k y6.1).bind fun r10 => some (!r10)) (some (false))).bind fun b11 => some (b11))).bind fun b12 =>
     (cond b12 (some (true)) ((spec_l1In k y6.2.2.1 0 2).bind fun r13 => some (!r13))).bind fun b14 =>
     cond b14
       (some (-1))
       (cond (y6.2.1 != 7)
          ((spec_l5Type k y6.2.1).bind fun r15 =>
           (cond (!r15) (some (true)) (some (y6.2.2.2.1 != 0))).bind fun b16 => cond b16 (some (-1)) (some (IntKind.wrap .i64 (t1 + 1))))
          (cond (decide (y6.2.2.2.1 < 1)) (some (-1)) (spec_l5Check.l15 k S186 k t0 t2 (IntKind.wrap .i64 (t1 + 1)) 0 y6 []))))

def spec_l5Check.rec (k : Nat) : Nat → ((List TCol) → Int → Int → Option Int)
  | 0 => fun _ _ _ => none
  | d + 1 => spec_l5Check.b k ((spec_l5Check.rec k d))

def spec_l5Check.d (k d : Nat) : (List TCol) → Int → Int → Option Int := (spec_l5Check.rec k d)

def spec_l5Check (k : Nat) : (List TCol) → Int → Int → Option Int := spec_l5Check.d k k

def spec_SchemaOk (k : Nat) (t0 : List TCol) : Option Bool :=
  (spec_l1In k (List.length t0 : Int) 2 20).bind fun r1 =>
  (cond r1 ((spec_l5Check k t0 0 1).bind fun r2 => some (r2 == (List.length t0 : Int))) (some (false))).bind fun b3 => some b3

def spec_l1PickInt (k : Nat) (t1 : List Int) (o0 : TL1Cur) : Option (Int × TL1Cur) :=
  (spec_l1Below k (List.length t1 : Int) o0).bind fun r1 => (rdL t1 r1.1).bind fun y2 => some (y2, r1.2)

def spec_l1Once (k : Nat) (t1 : Int) (o0 : TL1Cur) : Option (Bool × TL1Cur) :=
  (spec_l1Below k t1 o0).bind fun r1 => some (r1.1 == 0, r1.2)

def spec_l5DrawCol.l13 (k : Nat) (S182 : ByteArray → Int → TL1Cur → (List TCol) → Option (Unit × TL1Cur × (List TCol))) : Nat → Int → Int → Int → TL1Cur → (List TCol) → Option (Unit × TL1Cur × (List TCol))
  | 0, _, _, _, _, _ => none
  | n + 1, t2, t11, t12, o0, o100 =>
    cond (decide (t12 < t11))
      ((spec_l1Below k 4 o0).bind fun r1 =>
       (S182 (intsStr [IntKind.wrap .u8 (IntKind.wrap .i64 (97 + t12)), IntKind.wrap .u8 (IntKind.wrap .i64 (97 + r1.1))]) (IntKind.wrap .i64 (t2 - 1)) r1.2 o100).bind fun r2 =>
       (spec_l5DrawCol.l13 k S182 n) t2 t11 (IntKind.wrap .i64 (t12 + 1)) r2.2.1 r2.2.2)
      (some ((), (o0, o100)))

def spec_l5DrawCol.c12 (k : Nat) (S182 : ByteArray → Int → TL1Cur → (List TCol) → Option (Unit × TL1Cur × (List TCol))) (t2 : Int) (t11 : Int) (o0 : TL1Cur) (o100 : List TCol) : Option (Unit × TL1Cur × (List TCol)) :=
  spec_l5DrawCol.l13 k S182 k t2 t11 0 o0 o100

def spec_l5DrawCol.c4 (k : Nat) (S182 : ByteArray → Int → TL1Cur → (List TCol) → Option (Unit × TL1Cur × (List TCol))) (t1 : ByteArray) (t2 : Int) (o0 : TL1Cur) (o10 : List TCol) (o100 : TCol) : Option (Unit × TL1Cur × (List TCol)) :=
  cond (lim (List.length o10 + List.length [o100])) (
  cond (o100.2.1 != 7)
    (some ((), (o0, o10 ++ [o100])))
    ((spec_l1Below k 3 o0).bind fun r3 =>
     (rdL (o10 ++ [o100]) (List.length o10 : Int)).bind fun y4 =>
     (rdL (o10 ++ [o100]) (List.length o10 : Int)).bind fun y5 =>
     cond (eqS t1 (⟨#[]⟩ : ByteArray))
       ((rdL (List.set (o10 ++ [o100]) (Int.toNat (List.length o10 : Int)) (y5.1, y5.2.1, y5.2.2.1, IntKind.wrap .i64 (1 + r3.1), ())) (List.length o10 : Int)).bind fun y6 =>
        (rdL (List.set (o10 ++ [o100]) (Int.toNat (List.length o10 : Int)) (y5.1, y5.2.1, y5.2.2.1, IntKind.wrap .i64 (1 + r3.1), ())) (List.length o10 : Int)).bind fun y7 =>
        spec_l5DrawCol.c12 k S182 t2 (IntKind.wrap .i64 (1 + r3.1)) r3.2 (List.set (List.set (o10 ++ [o100]) (Int.toNat (List.length o10 : Int)) (y5.1, y5.2.1, y5.2.2.1, IntKind.wrap .i64 (1 + r3.1), ())) (Int.toNat (List.length o10 : Int)) (y7.1, y7.2.1, 0, y7.2.2.2.1, ())))
       (spec_l5DrawCol.c12 k S182 t2 (IntKind.wrap .i64 (1 + r3.1)) r3.2 (List.set (o10 ++ [o100]) (Int.toNat (List.length o10 : Int)) (y5.1, y5.2.1, y5.2.2.1, IntKind.wrap .i64 (1 + r3.1), ()))))) none

def spec_l5DrawCol.b (k : Nat) (S182 : ByteArray → Int → TL1Cur → (List TCol) → Option (Unit × TL1Cur × (List TCol))) (t1 : ByteArray) (t2 : Int) (o0 : TL1Cur) (o10 : List TCol) : Option (Unit × TL1Cur × (List TCol)) :=
  (spec_l1PickInt k [0, 1, 2, 5, 6] o0).bind fun r8 =>
  (spec_l1Below k 3 r8.2).bind fun r9 =>
  cond (eqS t1 (⟨#[]⟩ : ByteArray))
    (cond true (spec_l5DrawCol.c4 k S182 t1 t2 r9.2 o10 (t1, 7, r9.1, 0, ())) (spec_l5DrawCol.c4 k S182 t1 t2 r9.2 o10 (t1, r8.1, r9.1, 0, ())))
    (cond (decide (t2 > 0))
       ((spec_l1Once k 3 r9.2).bind fun r10 =>
        cond r10.1 (spec_l5DrawCol.c4 k S182 t1 t2 r10.2 o10 (t1, 7, r9.1, 0, ())) (spec_l5DrawCol.c4 k S182 t1 t2 r10.2 o10 (t1, r8.1, r9.1, 0, ())))
       (cond false (spec_l5DrawCol.c4 k S182 t1 t2 r9.2 o10 (t1, 7, r9.1, 0, ())) (spec_l5DrawCol.c4 k S182 t1 t2 r9.2 o10 (t1, r8.1, r9.1, 0, ()))))

def spec_l5DrawCol.rec (k : Nat) : Nat → (ByteArray → Int → TL1Cur → (List TCol) → Option (Unit × TL1Cur × (List TCol)))
  | 0 => fun _ _ _ _ => none
  | d + 1 => spec_l5DrawCol.b k ((spec_l5DrawCol.rec k d))

def spec_l5DrawCol.d (k d : Nat) : ByteArray → Int → TL1Cur → (List TCol) → Option (Unit × TL1Cur × (List TCol)) := (spec_l5DrawCol.rec k d)

def spec_l5DrawCol (k : Nat) : ByteArray → Int → TL1Cur → (List TCol) → Option (Unit × TL1Cur × (List TCol)) := spec_l5DrawCol.d k k

def spec_l5DrawRight.l2 (k : Nat) : Nat → Int → TL1Cur → Option (Unit × TL1Cur × (List TCol))
  | 0, _, _ => none
  | n + 1, t3, o0 =>
    cond (decide (t3 < 9))
      ((spec_l1Below k 3 o0).bind fun r1 =>
       (spec_l5DrawCol k (⟨#[]⟩ : ByteArray) (IntKind.wrap .i64 (1 + r1.1)) r1.2 []).bind fun r2 =>
       (spec_SchemaOk k r2.2.2).bind fun r3 => cond r3 (some ((), (r2.2.1, r2.2.2))) ((spec_l5DrawRight.l2 k n) (IntKind.wrap .i64 (t3 + 1)) r2.2.1))
      (some ((), (o0, [((⟨#[]⟩ : ByteArray), 7, 0, 1, ()), ((⟨#[97]⟩ : ByteArray), 2, 1, 0, ())])))

def spec_l5DrawRight (k : Nat) (o0 : TL1Cur) : Option (Unit × TL1Cur × (List TCol)) :=
  spec_l5DrawRight.l2 k k 0 o0

def spec_l5After.l3 (k : Nat) (S189 : (List TCol) → Int → Option Int) : Nat → (List TCol) → Int → Int → Int → Option Int
  | 0, _, _, _, _ => none
  | n + 1, t0, t1, t5, t6 =>
    (rdL t0 t1).bind fun y1 =>
    cond (decide (t6 < y1.2.2.2.1)) ((S189 t0 t5).bind fun r2 => (spec_l5After.l3 k S189 n) t0 t1 r2 (IntKind.wrap .i64 (t6 + 1))) (some t5)

def spec_l5After.b (k : Nat) (S189 : (List TCol) → Int → Option Int) (t0 : List TCol) (t1 : Int) : Option Int :=
  spec_l5After.l3 k S189 k t0 t1 (IntKind.wrap .i64 (t1 + 1)) 0

def spec_l5After.rec (k : Nat) : Nat → ((List TCol) → Int → Option Int)
  | 0 => fun _ _ => none
  | d + 1 => spec_l5After.b k ((spec_l5After.rec k d))

def spec_l5After.d (k d : Nat) : (List TCol) → Int → Option Int := (spec_l5After.rec k d)

def spec_l5After (k : Nat) : (List TCol) → Int → Option Int := spec_l5After.d k k

def spec_l4Int (k : Nat) (t0 : Int) : Option Bool :=
  (spec_l1In k t0 (-2147483648) 2147483647).bind fun r1 => some r1

def spec_ValOk.c8 (k : Nat) (t5 : Int) (t26 : Bool) (o100 : TVal) : Option Bool :=
  cond t26
    (some (eqS o100.2.1 (⟨#[]⟩ : ByteArray)))
    (cond (t5 == 6) ((cond (o100.1 == 0) (some (decide ((o100.2.1.size : Int) ≤ 40))) (some (false))).bind fun b1 => some b1) (some false))

def spec_ValOk (k : Nat) (t0 : Int) (t1 : TVal) : Option Bool :=
  cond (t0 == 0)
    ((spec_l1In k t1.1 0 1).bind fun r2 => (cond r2 (some (eqS t1.2.1 (⟨#[]⟩ : ByteArray))) (some (false))).bind fun b3 => some b3)
    (cond (t0 == 1)
       ((spec_l4Int k t1.1).bind fun r4 => (cond r4 (some (eqS t1.2.1 (⟨#[]⟩ : ByteArray))) (some (false))).bind fun b5 => some b5)
       (cond (t0 == 2) (spec_ValOk.c8 k t0 (t0 == 2) t1) (spec_ValOk.c8 k t0 (t0 == 5) t1)))

def spec_l13Count (k : Nat) (t0 : TVal) (t1 : Int) : Option Int :=
  (cond (!eqS t0.2.1 (⟨#[]⟩ : ByteArray)) (some (true)) ((spec_l1In k t0.1 0 t1).bind fun r1 => some (!r1))).bind fun b2 =>
  cond b2 (some (-1)) (some t0.1)

def spec_l13Content.l7 (k : Nat) (S204 : (List TCol) → Int → (List TVal) → Int → Option Int) : Nat → (List TCol) → Int → (List TVal) → Int → Int → Int → Option Int
  | 0, _, _, _, _, _, _ => none
  | n + 1, t0, t1, t2, t3, t9, t10 =>
    (rdL t0 t1).bind fun y1 =>
    cond (decide (t10 < y1.2.2.2.1))
      ((S204 t0 t9 t2 t3).bind fun r2 =>
       cond (decide (r2 < 0))
         (some (-1))
         ((spec_l5After k t0 t9).bind fun r3 => (spec_l13Content.l7 k S204 n) t0 t1 t2 r2 r3 (IntKind.wrap .i64 (t10 + 1))))
      (some t3)

def spec_l13Content.b (k : Nat) (S104 : (List TCol) → Int → (List TVal) → Int → Option Int) (S204 : (List TCol) → Int → (List TVal) → Int → Option Int) (t0 : List TCol) (t1 : Int) (t2 : List TVal) (t3 : Int) : Option Int :=
  (rdL t0 t1).bind fun y4 =>
  cond (y4.2.1 != 7)
    ((cond (decide (t3 ≥ (List.length t2 : Int)))
        (some (true))
        ((rdL t0 t1).bind fun y5 => (rdL t2 t3).bind fun y6 => (spec_ValOk k y5.2.1 y6).bind fun r7 => some (!r7))).bind fun b8 =>
     cond b8 (some (-1)) (some (IntKind.wrap .i64 (t3 + 1))))
    (spec_l13Content.l7 k S204 k t0 t1 t2 t3 (IntKind.wrap .i64 (t1 + 1)) 0)

def spec_l13Part.l13 (k : Nat) (S104 : (List TCol) → Int → (List TVal) → Int → Option Int) : Nat → (List TCol) → Int → (List TVal) → Int → Int → Int → Option Int
  | 0, _, _, _, _, _, _ => none
  | n + 1, t0, t1, t2, t3, t9, t11 =>
    cond (decide (t11 < t9))
      ((S104 t0 t1 t2 t3).bind fun r1 => cond (decide (r1 < 0)) (some (-1)) ((spec_l13Part.l13 k S104 n) t0 t1 t2 r1 t9 (IntKind.wrap .i64 (t11 + 1))))
      (some t3)

def spec_l13Part.c12 (k : Nat) (S104 : (List TCol) → Int → (List TVal) → Int → Option Int) (t0 : List TCol) (t1 : Int) (t2 : List TVal) (t3 : Int) (t9 : Int) : Option Int :=
  spec_l13Part.l13 k S104 k t0 t1 t2 t3 t9 0

def spec_l13Part.c6 (k : Nat) (S104 : (List TCol) → Int → (List TVal) → Int → Option Int) (t0 : List TCol) (t1 : Int) (t2 : List TVal) (t3 : Int) (t10 : Int) : Option Int :=
  cond (decide (t3 ≥ (List.length t2 : Int)))
    (some (-1))
    ((rdL t2 t3).bind fun y2 =>
     (spec_l13Count k y2 t10).bind fun r3 => cond (decide (r3 < 0)) (some (-1)) (spec_l13Part.c12 k S104 t0 t1 t2 (IntKind.wrap .i64 (t3 + 1)) r3))

def spec_l13Part.b (k : Nat) (S104 : (List TCol) → Int → (List TVal) → Int → Option Int) (S204 : (List TCol) → Int → (List TVal) → Int → Option Int) (t0 : List TCol) (t1 : Int) (t2 : List TVal) (t3 : Int) : Option Int :=
  (rdL t0 t1).bind fun y4 =>
  cond (y4.2.2.1 != 0)
    ((rdL t0 t1).bind fun y5 => cond (y5.2.2.1 == 2) (spec_l13Part.c6 k S104 t0 t1 t2 t3 20) (spec_l13Part.c6 k S104 t0 t1 t2 t3 1))
    (spec_l13Part.c12 k S104 t0 t1 t2 t3 1)

def spec_l13Content.rec (k : Nat) : Nat → ((List TCol) → Int → (List TVal) → Int → Option Int) × ((List TCol) → Int → (List TVal) → Int → Option Int)
  | 0 => (fun _ _ _ _ => none, fun _ _ _ _ => none)
  | d + 1 => (spec_l13Content.b k ((spec_l13Content.rec k d).1) ((spec_l13Content.rec k d).2), spec_l13Part.b k ((spec_l13Content.rec k d).1) ((spec_l13Content.rec k d).2))

def spec_l13Content.d (k d : Nat) : (List TCol) → Int → (List TVal) → Int → Option Int := (spec_l13Content.rec k d).1

def spec_l13Content (k : Nat) : (List TCol) → Int → (List TVal) → Int → Option Int := spec_l13Content.d k k

def spec_l13Part.d (k d : Nat) : (List TCol) → Int → (List TVal) → Int → Option Int := (spec_l13Content.rec k d).2

def spec_l13Part (k : Nat) : (List TCol) → Int → (List TVal) → Int → Option Int := spec_l13Part.d k k

def spec_RecOk.d1 (k : Nat) (t0 : List TCol) (o100 : TRec) : Option Bool :=
  (spec_SchemaOk k t0).bind fun r1 =>
  cond r1
    (cond (decide ((List.length o100.1 : Int) ≤ 300))
       ((spec_l13Content k t0 0 o100.1 0).bind fun r2 => some (r2 == (List.length o100.1 : Int)))
       (some false))
    (cond false ((spec_l13Content k t0 0 o100.1 0).bind fun r3 => some (r3 == (List.length o100.1 : Int))) (some false))

def spec_RecOk (k : Nat) (t0 : List TCol) (t1 : TRec) : Option Bool :=
  spec_RecOk.d1 k t0 t1

def spec_l13Empty.l6 (k : Nat) (S183 : (List TCol) → Int → Option (Unit × (List TVal))) : Nat → (List TCol) → Int → Int → Int → (List TVal) → Option (Unit × (List TVal))
  | 0, _, _, _, _, _ => none
  | n + 1, t0, t1, t6, t7, o100 =>
    (rdL t0 t1).bind fun y1 =>
    cond (decide (t7 < y1.2.2.2.1))
      ((S183 t0 t6).bind fun r2 =>
       cond (lim (List.length o100 + List.length r2.2)) (
       (spec_l5After k t0 t6).bind fun r3 => (spec_l13Empty.l6 k S183 n) t0 t1 r3 (IntKind.wrap .i64 (t7 + 1)) (o100 ++ r2.2)) none)
      (some ((), o100))

def spec_l13Empty.b (k : Nat) (S183 : (List TCol) → Int → Option (Unit × (List TVal))) (t0 : List TCol) (t1 : Int) : Option (Unit × (List TVal)) :=
  (cond (decide (t1 > 0)) ((rdL t0 t1).bind fun y4 => some (y4.2.2.1 != 0)) (some (false))).bind fun b5 =>
  (cond b5 (some (true)) ((rdL t0 t1).bind fun y6 => some (y6.2.1 != 7))).bind fun b7 =>
  cond b7 (some ((), [(0, (⟨#[]⟩ : ByteArray), ())])) (spec_l13Empty.l6 k S183 k t0 t1 (IntKind.wrap .i64 (t1 + 1)) 0 [])

def spec_l13Empty.rec (k : Nat) : Nat → ((List TCol) → Int → Option (Unit × (List TVal)))
  | 0 => fun _ _ => none
  | d + 1 => spec_l13Empty.b k ((spec_l13Empty.rec k d))

def spec_l13Empty.d (k d : Nat) : (List TCol) → Int → Option (Unit × (List TVal)) := (spec_l13Empty.rec k d)

def spec_l13Empty (k : Nat) : (List TCol) → Int → Option (Unit × (List TVal)) := spec_l13Empty.d k k

def spec_RecEmpty (k : Nat) (t0 : List TCol) : Option (((Unit × Unit) × Bool) × (List TVal)) :=
  (spec_SchemaOk k t0).bind fun r1 => cond (!r1) (some ((((), ()), false), [])) ((spec_l13Empty k t0 0).bind fun r2 => some ((((), ()), true), r2.2))

def spec_l1Pick (k : Nat) (t1 : List ByteArray) (o0 : TL1Cur) : Option (ByteArray × TL1Cur) :=
  (spec_l1Below k (List.length t1 : Int) o0).bind fun r1 => (rdL t1 r1.1).bind fun y2 => some (y2, r1.2)

def spec_l1DrawBytes.l4 (k : Nat) : Nat → Int → Int → TL1Cur → (List Int) → Option (Unit × TL1Cur × (List Int))
  | 0, _, _, _, _ => none
  | n + 1, t6, t7, o0, o100 =>
    cond (decide (t7 < t6))
      ((spec_l1Byte k o0).bind fun r1 =>
       cond (lim (List.length o100 + List.length [IntKind.wrap .u8 r1.1])) (
       (spec_l1DrawBytes.l4 k n) t6 (IntKind.wrap .i64 (t7 + 1)) r1.2 (o100 ++ [IntKind.wrap .u8 r1.1])) none)
      (some ((), (o0, o100)))

def spec_l1DrawBytes (k : Nat) (t1 : Int) (o0 : TL1Cur) : Option (Unit × TL1Cur × (List Int)) :=
  (spec_l1Below k (IntKind.wrap .i64 (t1 + 1)) o0).bind fun r2 => spec_l1DrawBytes.l4 k k r2.1 0 r2.2 []

def spec_l4DrawText (k : Nat) (t1 : Int) (o0 : TL1Cur) : Option (ByteArray × TL1Cur) :=
  (spec_l1DrawBytes k t1 o0).bind fun r1 => some (intsStr r1.2.2, r1.2.1)

def spec_l2DrawNum (k : Nat) (o0 : TL1Cur) : Option (Int × TL1Cur) :=
  (spec_l1Below k 1000000 o0).bind fun r1 =>
  (spec_l1Below k 1000000 r1.2).bind fun r2 =>
  (spec_l1Below k 300 r2.2).bind fun r3 =>
  (spec_l1PickInt k [0, 1, (-1), 63, 64, (-64), (-65), 127, 128, 16383, 16384, 2147483647, (-2147483648), 9223372036854775807, (-9223372036854775808), 4611686018427387904, r1.1, IntKind.wrap .i64 (0 - r2.1), r3.1] r3.2).bind fun r4 =>
  some (r4.1, r4.2)

def spec_l6DrawRight (k : Nat) (t1 : Int) (o0 : TL1Cur) : Option ((TVal) × TL1Cur) :=
  cond (t1 == 0)
    ((spec_l1Below k 2 o0).bind fun r1 => some ((r1.1, (⟨#[]⟩ : ByteArray), ()), r1.2))
    (cond (t1 == 1)
       ((spec_l1Once k 6 o0).bind fun r2 =>
        cond r2.1
          ((spec_l1PickInt k [2147483647, (-2147483648), 0] r2.2).bind fun r3 => some ((r3.1, (⟨#[]⟩ : ByteArray), ()), r3.2))
          ((spec_l1Below k 40 r2.2).bind fun r4 => some ((IntKind.wrap .i64 (r4.1 - 12), (⟨#[]⟩ : ByteArray), ()), r4.2)))
       (cond (t1 == 6)
          ((spec_l1Once k 3 o0).bind fun r5 =>
           cond r5.1
             ((spec_l1Pick k [(⟨#[]⟩ : ByteArray), (⟨#[97]⟩ : ByteArray), (⟨#[97, 98]⟩ : ByteArray), (⟨#[97, 98, 99]⟩ : ByteArray), (⟨#[97, 98, 100]⟩ : ByteArray), (⟨#[98]⟩ : ByteArray), (⟨#[97, 97]⟩ : ByteArray)] r5.2).bind fun r6 =>
              some ((0, r6.1, ()), r6.2))
             ((spec_l4DrawText k 6 r5.2).bind fun r7 => some ((0, r7.1, ()), r7.2)))
          (cond (t1 == 5)
             ((spec_l1Below k 9 o0).bind fun r8 =>
              (spec_l2DrawNum k r8.2).bind fun r9 =>
              (spec_l1PickInt k [0, (-9223372036854775808), 4607182418800017408, (-4616189618054758400), 9221120237041090560, (-2251799813685248), r8.1, r9.1] r9.2).bind fun r10 =>
              some ((r10.1, (⟨#[]⟩ : ByteArray), ()), r10.2))
             ((spec_l1Once k 2 o0).bind fun r11 =>
              cond r11.1
                ((spec_l1Below k 30 r11.2).bind fun r12 => some ((IntKind.wrap .i64 (r12.1 - 9), (⟨#[]⟩ : ByteArray), ()), r12.2))
                ((spec_l2DrawNum k r11.2).bind fun r13 => some ((r13.1, (⟨#[]⟩ : ByteArray), ()), r13.2))))))

def spec_l13DrawPart.c11 (k : Nat) (L10 : (List TCol) → Int → Int → Int → TL1Cur → (List TVal) → Option (Unit × TL1Cur × (List TVal))) (t1 : List TCol) (t2 : Int) (t9 : Int) (t10 : Int) (o0 : TL1Cur) (o100 : List TVal) : Option (Unit × TL1Cur × (List TVal)) :=
  L10 t1 t2 t9 (IntKind.wrap .i64 (t10 + 1)) o0 o100

def spec_l13DrawPart.l16 (k : Nat) (S197 : (List TCol) → Int → TL1Cur → (List TVal) → Option (Unit × TL1Cur × (List TVal))) (L10 : (List TCol) → Int → Int → Int → TL1Cur → (List TVal) → Option (Unit × TL1Cur × (List TVal))) : Nat → (List TCol) → Int → Int → Int → Int → Int → TL1Cur → (List TVal) → Option (Unit × TL1Cur × (List TVal))
  | 0, _, _, _, _, _, _, _, _ => none
  | n + 1, t1, t2, t9, t10, t11, t12, o0, o100 =>
    (rdL t1 t2).bind fun y1 =>
    cond (decide (t12 < y1.2.2.2.1))
      ((S197 t1 t11 o0 o100).bind fun r2 =>
       (spec_l5After k t1 t11).bind fun r3 => (spec_l13DrawPart.l16 k S197 L10 n) t1 t2 t9 t10 r3 (IntKind.wrap .i64 (t12 + 1)) r2.2.1 r2.2.2)
      (spec_l13DrawPart.c11 k L10 t1 t2 t9 t10 o0 o100)

def spec_l13DrawPart.l10 (k : Nat) (S197 : (List TCol) → Int → TL1Cur → (List TVal) → Option (Unit × TL1Cur × (List TVal))) : Nat → (List TCol) → Int → Int → Int → TL1Cur → (List TVal) → Option (Unit × TL1Cur × (List TVal))
  | 0, _, _, _, _, _, _ => none
  | n + 1, t1, t2, t9, t10, o0, o100 =>
    cond (decide (t10 < t9))
      ((rdL t1 t2).bind fun y4 =>
       cond (y4.2.1 != 7)
         ((rdL t1 t2).bind fun y5 =>
          (spec_l6DrawRight k y5.2.1 o0).bind fun r6 =>
          cond (lim (List.length o100 + List.length [r6.1])) (
          spec_l13DrawPart.c11 k (spec_l13DrawPart.l10 k S197 n) t1 t2 t9 t10 r6.2 (o100 ++ [r6.1])) none)
         (spec_l13DrawPart.l16 k S197 (spec_l13DrawPart.l10 k S197 n) k t1 t2 t9 t10 (IntKind.wrap .i64 (t2 + 1)) 0 o0 o100))
      (some ((), (o0, o100)))

def spec_l13DrawPart.c9 (k : Nat) (S197 : (List TCol) → Int → TL1Cur → (List TVal) → Option (Unit × TL1Cur × (List TVal))) (t1 : List TCol) (t2 : Int) (t9 : Int) (o0 : TL1Cur) (o100 : List TVal) : Option (Unit × TL1Cur × (List TVal)) :=
  spec_l13DrawPart.l10 k S197 k t1 t2 t9 0 o0 o100

def spec_l13DrawPart.c8 (k : Nat) (S197 : (List TCol) → Int → TL1Cur → (List TVal) → Option (Unit × TL1Cur × (List TVal))) (t1 : List TCol) (t2 : Int) (t9 : Int) (o0 : TL1Cur) (o10 : List TVal) : Option (Unit × TL1Cur × (List TVal)) :=
  cond (lim (List.length o10 + List.length ([(t9, (⟨#[]⟩ : ByteArray), ())] : List TVal))) (
  spec_l13DrawPart.c9 k S197 t1 t2 t9 o0 (o10 ++ [(t9, (⟨#[]⟩ : ByteArray), ())])) none

def spec_l13DrawPart.b (k : Nat) (S197 : (List TCol) → Int → TL1Cur → (List TVal) → Option (Unit × TL1Cur × (List TVal))) (t1 : List TCol) (t2 : Int) (o0 : TL1Cur) (o10 : List TVal) : Option (Unit × TL1Cur × (List TVal)) :=
  (cond (decide (t2 > 0)) ((rdL t1 t2).bind fun y7 => some (y7.2.2.1 != 0)) (some (false))).bind fun b8 =>
  cond b8
    ((spec_l1Below k 2 o0).bind fun r9 =>
     (rdL t1 t2).bind fun y10 =>
     cond (y10.2.2.1 == 2)
       ((spec_l1Below k 4 r9.2).bind fun r11 =>
        (spec_l1Once k 60 r11.2).bind fun r12 =>
        cond r12.1 (spec_l13DrawPart.c8 k S197 t1 t2 20 r12.2 o10) (spec_l13DrawPart.c8 k S197 t1 t2 r11.1 r12.2 o10))
       (spec_l13DrawPart.c8 k S197 t1 t2 r9.1 r9.2 o10))
    (spec_l13DrawPart.c9 k S197 t1 t2 1 o0 o10)

def spec_l13DrawPart.rec (k : Nat) : Nat → ((List TCol) → Int → TL1Cur → (List TVal) → Option (Unit × TL1Cur × (List TVal)))
  | 0 => fun _ _ _ _ => none
  | d + 1 => spec_l13DrawPart.b k ((spec_l13DrawPart.rec k d))

def spec_l13DrawPart.d (k d : Nat) : (List TCol) → Int → TL1Cur → (List TVal) → Option (Unit × TL1Cur × (List TVal)) := (spec_l13DrawPart.rec k d)

def spec_l13DrawPart (k : Nat) : (List TCol) → Int → TL1Cur → (List TVal) → Option (Unit × TL1Cur × (List TVal)) := spec_l13DrawPart.d k k

def spec_l13DrawRight.c4 (k : Nat) (o0 : TL1Cur) (o100 : Unit × Unit) (o101 : Unit × Unit) (o102 : List TVal) (o103 : List TVal) : Option (((Unit × Unit)) × TL1Cur × (List TVal)) :=
  some (((), ()), (o0, o102))

def spec_l13DrawRight (k : Nat) (t1 : List TCol) (o0 : TL1Cur) : Option (((Unit × Unit)) × TL1Cur × (List TVal)) :=
  (spec_l13DrawPart k t1 0 o0 []).bind fun r1 =>
  (spec_RecOk k t1 (r1.2.2, ())).bind fun r2 =>
  cond (!r2)
    ((spec_RecEmpty k t1).bind fun r3 => spec_l13DrawRight.c4 k r1.2.1 ((), ()) ((), ()) r3.2 [])
    (spec_l13DrawRight.c4 k r1.2.1 ((), ()) ((), ()) r1.2.2 [])

def spec_l14DrawRecs.l4 (k : Nat) : Nat → (List TCol) → Int → Int → TL1Cur → (List TRec) → Option (Unit × TL1Cur × (List TRec))
  | 0, _, _, _, _, _ => none
  | n + 1, t1, t8, t9, o0, o100 =>
    cond (decide (t9 < t8))
      ((spec_l13DrawRight k t1 o0).bind fun r1 =>
       cond (lim (List.length o100 + List.length [(r1.2.2, ())])) (
       (spec_l14DrawRecs.l4 k n) t1 t8 (IntKind.wrap .i64 (t9 + 1)) r1.2.1 (o100 ++ [(r1.2.2, ())])) none)
      (some ((), (o0, o100)))

def spec_l14DrawRecs (k : Nat) (t1 : List TCol) (t2 : Int) (o0 : TL1Cur) : Option (Unit × TL1Cur × (List TRec)) :=
  (spec_l1Below k (IntKind.wrap .i64 (t2 + 1)) o0).bind fun r2 => spec_l14DrawRecs.l4 k k t1 r2.1 0 r2.2 []

def spec_l5DrawSchema.c22 (k : Nat) (o0 : TL1Cur) (o100 : List TCol) : Option (Unit × TL1Cur × (List TCol)) :=
  some ((), (o0, o100))

def spec_l5DrawSchema.d9 (k : Nat) (t4 : Int) (o0 : TL1Cur) (o100 : List TCol) : Option (Unit × TL1Cur × (List TCol)) :=
  (rdL o100 t4).bind fun y1 =>
  (spec_l1Below k 3 o0).bind fun r2 =>
  (rdL o100 t4).bind fun y3 =>
  (rdL o100 t4).bind fun y4 =>
  spec_l5DrawSchema.c22 k r2.2 (List.set o100 (Int.toNat t4) (y4.1, y4.2.1, y4.2.2.1, IntKind.wrap .i64 ((IntKind.wrap .i64 (y1.2.2.2.1 + 1)) - r2.1), ()))

def spec_l5DrawSchema.l18 (k : Nat) : Nat → Int → Int → TL1Cur → (List TCol) → Option (Unit × TL1Cur × (List TCol))
  | 0, _, _, _, _ => none
  | n + 1, t5, t6, o0, o100 =>
    cond (decide (t6 < t5))
      (cond (lim (List.length o100 + List.length [((⟨#[103]⟩ : ByteArray), 7, Int.tmod t6 3, 1, ())])) (
       (spec_l5DrawSchema.l18 k n) t5 (IntKind.wrap .i64 (t6 + 1)) o0 (o100 ++ [((⟨#[103]⟩ : ByteArray), 7, Int.tmod t6 3, 1, ())])) none)
      (cond (lim (List.length o100 + List.length [((⟨#[120]⟩ : ByteArray), 0, 0, 0, ())])) (
       spec_l5DrawSchema.c22 k o0 (o100 ++ [((⟨#[120]⟩ : ByteArray), 0, 0, 0, ())])) none)

def spec_l5DrawSchema (k : Nat) (o0 : TL1Cur) : Option (Unit × TL1Cur × (List TCol)) :=
  (spec_l5DrawRight k o0).bind fun r13 =>
  (spec_l1Below k (List.length r13.2.2 : Int) r13.2.1).bind fun r14 =>
  (spec_l1Below k 25 r14.2).bind fun r15 =>
  cond (r15.1 == 0)
    ((spec_l1Below k 9 r15.2).bind fun r16 =>
     (rdL r13.2.2 r14.1).bind fun y17 =>
     (rdL r13.2.2 r14.1).bind fun y18 => spec_l5DrawSchema.c22 k r16.2 (List.set r13.2.2 (Int.toNat r14.1) (y18.1, r16.1, y18.2.2.1, y18.2.2.2.1, ())))
    (cond (r15.1 == 1)
       ((spec_l1Below k 5 r15.2).bind fun r19 =>
        (rdL r13.2.2 r14.1).bind fun y20 =>
        (rdL r13.2.2 r14.1).bind fun y21 =>
        spec_l5DrawSchema.c22 k r19.2 (List.set r13.2.2 (Int.toNat r14.1) (y21.1, y21.2.1, IntKind.wrap .i64 (r19.1 - 1), y21.2.2.2.1, ())))
       (cond (r15.1 == 2)
          (spec_l5DrawSchema.d9 k r14.1 r15.2 r13.2.2)
          (cond (r15.1 == 3)
             ((spec_l1Pick k [(⟨#[]⟩ : ByteArray), (⟨#[65]⟩ : ByteArray), (⟨#[97, 98]⟩ : ByteArray), (⟨#[97, 98, 99, 100, 101, 102, 103, 104, 105, 106, 107, 108, 109, 110, 111, 112, 113, 114, 115, 116]⟩ : ByteArray), (⟨#[97, 98, 99, 100, 101, 102, 103, 104, 105, 106, 107, 108, 109, 110, 111, 112, 113, 114, 115, 116, 117]⟩ : ByteArray)] r15.2).bind fun r22 =>
              (rdL r13.2.2 r14.1).bind fun y23 =>
              (rdL r13.2.2 r14.1).bind fun y24 =>
              spec_l5DrawSchema.c22 k r22.2 (List.set r13.2.2 (Int.toNat r14.1) (r22.1, y24.2.1, y24.2.2.1, y24.2.2.2.1, ())))
             (cond (r15.1 == 4)
                (cond (lim (List.length r13.2.2 + List.length [((⟨#[122]⟩ : ByteArray), 0, 0, 0, ())])) (
                 spec_l5DrawSchema.c22 k r15.2 (r13.2.2 ++ [((⟨#[122]⟩ : ByteArray), 0, 0, 0, ())])) none)
                (cond (r15.1 == 5)
                   ((spec_l1Below k 2 r15.2).bind fun r25 =>
                    spec_l5DrawSchema.l18 k k (IntKind.wrap .i64 (4 + r25.1)) 0 r25.2 [((⟨#[]⟩ : ByteArray), 7, 0, 1, ())])
                   (spec_l5DrawSchema.c22 k r15.2 r13.2.2))))))

def spec_DrawShred.c13 (k : Nat) (t5 : List TCol) (o100 : List TRec) : Option (((List TCol) × Unit) × (List TRec)) :=
  some ((t5, ()), o100)

def spec_DrawShred.l11 (k : Nat) : Nat → (List TCol) → TL1Cur → (List TRec) → TRec → Option (((List TCol) × Unit) × (List TRec))
  | 0, _, _, _, _ => none
  | n + 1, t5, o100, o101, o102 =>
    (spec_l1Below k 2 o100).bind fun r1 =>
    cond (decide ((List.length o101 : Int) < (IntKind.wrap .i64 (200 + r1.1))))
      (cond (lim (List.length o101 + List.length [o102])) ((spec_DrawShred.l11 k n) t5 r1.2 (o101 ++ [o102]) o102) none)
      (spec_DrawShred.c13 k t5 o101)

def spec_DrawShred (k : Nat) (t0 : List Int) : Option (((List TCol) × Unit) × (List TRec)) :=
  (spec_l1New k t0).bind fun r2 =>
  (spec_l5DrawRight k r2.2).bind fun r3 =>
  (spec_l14DrawRecs k r3.2.2 6 r3.2.1).bind fun r4 =>
  (spec_l1Below k 20 r4.2.1).bind fun r5 =>
  cond (r5.1 == 0)
    (cond (lim (List.length r4.2.2 + List.length ([([], ())] : List TRec))) (
     spec_DrawShred.c13 k r3.2.2 (r4.2.2 ++ [([], ())])) none)
    (cond (r5.1 == 1)
       ((spec_l5DrawSchema k r5.2).bind fun r6 => spec_DrawShred.c13 k r6.2.2 r4.2.2)
       (cond (r5.1 == 2)
          ((spec_RecEmpty k r3.2.2).bind fun r7 => spec_DrawShred.l11 k k r3.2.2 r5.2 r4.2.2 (r7.2, ()))
          (spec_DrawShred.c13 k r3.2.2 r4.2.2)))

def impl_within (k : Nat) (t0 : Int) (t1 : Int) (t2 : Int) : Option Bool :=
  (cond (decide (t0 ≥ t1)) (some (decide (t0 ≤ t2))) (some (false))).bind fun b1 => some b1

def impl_TypeOk (k : Nat) (t0 : Int) : Option Bool :=
  (impl_within k t0 0 2).bind fun r1 =>
  (cond r1 (some (true)) (some (t0 == 5))).bind fun b2 => (cond b2 (some (true)) (some (t0 == 6))).bind fun b3 => some b3

def impl_colOk (k : Nat) (t0 : TCol) : Option Bool :=
  (cond (t0.2.1 == 7) (some (decide (t0.2.2.2.1 > 0))) (some (false))).bind fun b1 =>
  (impl_TypeOk k t0.2.1).bind fun r2 =>
  (cond r2 (some (t0.2.2.2.1 == 0)) (some (false))).bind fun b3 =>
  (cond b1 (some (true)) (some (b3))).bind fun b4 =>
  (cond b4 ((impl_within k t0.2.2.1 0 2).bind fun r5 => some (r5)) (some (false))).bind fun b6 => some b6

def impl_isColName.l2 (k : Nat) : Nat → ByteArray → Int → Int → Option Bool
  | 0, _, _, _ => none
  | n + 1, t0, t5, t6 =>
    cond (decide (t6 < t5))
      ((btS t0 t6).bind fun y1 =>
       (impl_within k (IntKind.wrap .i64 y1) 97 122).bind fun r2 =>
       cond (!r2) (some false) ((impl_isColName.l2 k n) t0 t5 (IntKind.wrap .i64 (t6 + 1))))
      ((impl_within k (t0.size : Int) 1 20).bind fun r3 => some r3)

def impl_isColName (k : Nat) (t0 : ByteArray) : Option Bool :=
  impl_isColName.l2 k k t0 (t0.size : Int) 0

def impl_colAfter.l10 (k : Nat) (S184 : (List TCol) → Int → Int → Option Int) (L6 : (List TCol) → Int → Int → Int → Int → (List ByteArray) → Option Int) : Nat → (List TCol) → Int → Int → Int → Int → Int → Int → (List ByteArray) → Option Int
  | 0, _, _, _, _, _, _, _, _ => none
  | n + 1, t0, t2, t7, t47, t48, t55, t56, o100 =>
    cond (decide (t56 < t55))
      ((rdL o100 t56).bind fun y1 =>
       (rdL t0 t7).bind fun y2 =>
       cond (eqS y1 y2.1) (some (-1)) ((impl_colAfter.l10 k S184 L6 n) t0 t2 t7 t47 t48 t55 (IntKind.wrap .i64 (t56 + 1)) o100))
      ((rdL t0 t7).bind fun y3 =>
       cond (lim (List.length o100 + List.length [y3.1])) (
       (S184 t0 t7 (IntKind.wrap .i64 (t2 + 1))).bind fun r4 =>
       cond (decide (r4 < 0)) (some (-1)) (L6 t0 t2 r4 t47 (IntKind.wrap .i64 (t48 + 1)) (o100 ++ [y3.1]))) none)

def impl_colAfter.l6 (k : Nat) (S184 : (List TCol) → Int → Int → Option Int) : Nat → (List TCol) → Int → Int → Int → Int → (List ByteArray) → Option Int
  | 0, _, _, _, _, _, _ => none
  | n + 1, t0, t2, t7, t47, t48, o100 =>
    cond (decide (t48 < t47))
      (cond (decide (t7 ≥ (List.length t0 : Int)))
         (some (-1))
         (impl_colAfter.l10 k S184 (impl_colAfter.l6 k S184 n) k t0 t2 t7 t47 t48 (List.length o100 : Int) 0 o100))
      (some t7)

def impl_colAfter.b (k : Nat) (S184 : (List TCol) → Int → Int → Option Int) (t0 : List TCol) (t1 : Int) (t2 : Int) : Option Int :=
  (cond (decide (t1 ≥ (List.length t0 : Int))) (some (true)) (some (decide (t2 > 6)))).bind fun b5 =>
  (cond b5 (some (true)) ((rdL t0 t1).bind fun y6 => (impl_colOk k y6).bind fun r7 => some (!r7))).bind fun b8 =>
  (cond b8
     (some (true))
     ((cond (decide (t1 > 0)) ((rdL t0 t1).bind fun y9 => (impl_isColName k y9.1).bind fun r10 => some (!r10)) (some (false))).bind fun b11 =>
      some (b11))).bind fun b12 =>
  cond b12 (some (-1)) ((rdL t0 t1).bind fun y13 => impl_colAfter.l6 k S184 k t0 t2 (IntKind.wrap .i64 (t1 + 1)) y13.2.2.2.1 0 [])

def impl_colAfter.rec (k : Nat) : Nat → ((List TCol) → Int → Int → Option Int)
  | 0 => fun _ _ _ => none
  | d + 1 => impl_colAfter.b k ((impl_colAfter.rec k d))

def impl_colAfter.d (k d : Nat) : (List TCol) → Int → Int → Option Int := (impl_colAfter.rec k d)

def impl_colAfter (k : Nat) : (List TCol) → Int → Int → Option Int := impl_colAfter.d k k

def impl_SchemaOk (k : Nat) (t0 : List TCol) : Option Bool :=
  (impl_within k (List.length t0 : Int) 2 20).bind fun r1 =>
  (cond (!r1) (some (true)) ((rdL t0 0).bind fun y2 => some (y2.2.1 != 7))).bind fun b3 =>
  (cond b3 (some (true)) ((rdL t0 0).bind fun y4 => some (y4.2.2.1 != 0))).bind fun b5 =>
  (cond b5 (some (true)) ((rdL t0 0).bind fun y6 => some (!eqS y6.1 (⟨#[]⟩ : ByteArray)))).bind fun b7 =>
  cond b7 (some false) ((impl_colAfter k t0 0 1).bind fun r8 => some (r8 == (List.length t0 : Int)))

def impl_leavesOf.c7 (k : Nat) (L3 : (List TCol) → Int → Int → (List Int) → Option (Unit × (List Int))) (t7 : List TCol) (t8 : Int) (t9 : Int) (o100 : List Int) : Option (Unit × (List Int)) :=
  L3 t7 t8 (IntKind.wrap .i64 (t9 + 1)) o100

def impl_leavesOf.l3 (k : Nat) : Nat → (List TCol) → Int → Int → (List Int) → Option (Unit × (List Int))
  | 0, _, _, _, _ => none
  | n + 1, t7, t8, t9, o100 =>
    cond (decide (t9 < t8))
      ((rdL t7 t9).bind fun y1 =>
       cond (y1.2.1 != 7)
         (cond (lim (List.length o100 + List.length [t9])) (impl_leavesOf.c7 k (impl_leavesOf.l3 k n) t7 t8 t9 (o100 ++ [t9])) none)
         (impl_leavesOf.c7 k (impl_leavesOf.l3 k n) t7 t8 t9 o100))
      (some ((), o100))

def impl_leavesOf (k : Nat) (t0 : List TCol) : Option (Unit × (List Int)) :=
  impl_leavesOf.l3 k k t0 (List.length t0 : Int) 0 []

def impl_leafNumbers.l3 (k : Nat) : Nat → Int → Int → (List Int) → (List Int) → Option (Unit × (List Int))
  | 0, _, _, _, _ => none
  | n + 1, t11, t12, o100, o101 =>
    cond (decide (t12 < t11))
      ((rdL o101 t12).bind fun y1 =>
       (rdL o100 y1).bind fun y2 =>
       (rdL o100 y1).bind fun y3 => (impl_leafNumbers.l3 k n) t11 (IntKind.wrap .i64 (t12 + 1)) (List.set o100 (Int.toNat y1) t12) o101)
      (some ((), o100))

def impl_leafNumbers (k : Nat) (t0 : List TCol) : Option (Unit × (List Int)) :=
  cond (okLen (List.length t0 : Int)) (
  (impl_leavesOf k t0).bind fun r4 => impl_leafNumbers.l3 k k (List.length r4.2 : Int) 0 (List.replicate (Int.toNat (List.length t0 : Int)) 0) r4.2) none

def impl_isInt32 (k : Nat) (t0 : Int) : Option Bool :=
  (impl_within k t0 (-2147483648) 2147483647).bind fun r1 => some r1

def impl_ValOk.c8 (k : Nat) (t0 : Int) (t26 : Bool) (o100 : TVal) : Option Bool :=
  cond t26
    (some (eqS o100.2.1 (⟨#[]⟩ : ByteArray)))
    ((cond (t0 == 6) (some (o100.1 == 0)) (some (false))).bind fun b1 =>
     (cond b1 (some (decide ((o100.2.1.size : Int) ≤ 40))) (some (false))).bind fun b2 => some b2)

def impl_ValOk (k : Nat) (t0 : Int) (t1 : TVal) : Option Bool :=
  cond (t0 == 0)
    ((impl_within k t1.1 0 1).bind fun r3 => (cond r3 (some (eqS t1.2.1 (⟨#[]⟩ : ByteArray))) (some (false))).bind fun b4 => some b4)
    (cond (t0 == 1)
       ((impl_isInt32 k t1.1).bind fun r5 => (cond r5 (some (eqS t1.2.1 (⟨#[]⟩ : ByteArray))) (some (false))).bind fun b6 => some b6)
       (cond (t0 == 2) (impl_ValOk.c8 k t0 (t0 == 2) t1) (impl_ValOk.c8 k t0 (t0 == 5) t1)))

def impl_walker_next_of_Shred_1_Shred_2 (k : Nat) (o0 : TWalkerB) (o10 : Unit) (o11 : List TColumn) (o12 : Unit) (o13 : List Int) (o14 : Unit × Unit × Unit) : Option ((TVal) × TWalkerB × Unit × (List TColumn) × Unit × (List Int) × (Unit × Unit × Unit)) :=
  (cond o0.2.2.1 (some (true)) (some ((List.length o0.2.1 : Int) == 0))).bind fun b1 =>
  cond b1
    (some ((0, (⟨#[]⟩ : ByteArray), ()), ((o0.1, o0.2.1, true, ((), (), ()), ((), ()), ()), (), o11, (), o13, ((), (), ()))))
    ((rdL o0.2.1 0).bind fun y2 =>
     cond (inSl 1 ((List.length o0.2.1) : Int) (List.length o0.2.1)) (
     some (y2, ((o0.1, cutL o0.2.1 1 ((List.length o0.2.1) : Int), o0.2.2.1, ((), (), ()), ((), ()), ()), (), o11, (), o13, ((), (), ())))) none)

def impl_walker_count_of_Shred_1_Shred_2 (k : Nat) (t1 : Int) (o0 : TWalkerB) (o10 : Unit) (o11 : List TColumn) (o12 : Unit) (o13 : List Int) (o14 : Unit × Unit × Unit) : Option (Int × TWalkerB × Unit × (List TColumn) × Unit × (List Int) × (Unit × Unit × Unit)) :=
  (impl_walker_next_of_Shred_1_Shred_2 k (o0.1, o0.2.1, o0.2.2.1, ((), (), ()), ((), ()), ()) () o11 () o13 ((), (), ())).bind fun r1 =>
  (cond (!eqS r1.1.2.1 (⟨#[]⟩ : ByteArray)) (some (true)) ((impl_within k r1.1.1 0 t1).bind fun r2 => some (!r2))).bind fun b3 =>
  cond b3
    (some (0, ((r1.2.1.1, r1.2.1.2.1, true, ((), (), ()), ((), ()), ()), (), r1.2.2.2.1, (), r1.2.2.2.2.2.1, ((), (), ()))))
    (some (r1.1.1, ((r1.2.1.1, r1.2.1.2.1, r1.2.1.2.2.1, ((), (), ()), ((), ()), ()), (), r1.2.2.2.1, (), r1.2.2.2.2.2.1, ((), (), ()))))

def impl_Shred_1 (k : Nat) (t0 : Int) (t1 : Int) (t2 : Int) (t3 : TVal) (o4 : Unit) (o5 : Unit) (o10 : List TColumn) (o11 : List Int) : Option (Unit × Unit × Unit × (List TColumn) × (List Int)) :=
  (rdL o11 t0).bind fun y1 =>
  (rdL o10 y1).bind fun y2 =>
  cond (lim (List.length y2.1 + List.length [(t1, t2, t3, ())])) (
  cond (y1 == y1) ((rdL o10 y1).bind fun y3 => some ((), ((), (), List.set o10 (Int.toNat y1) (y2.1 ++ [(t1, t2, t3, ())], ()), o11))) none) none

def impl_Shred_2_of_Shred_1 (k : Nat) (t0 : Int) (t1 : Int) (t2 : Int) (o3 : Unit × Unit × Unit) (o10 : Unit) (o11 : List TColumn) (o12 : Unit) (o13 : List Int) : Option (Unit × (Unit × Unit × Unit) × Unit × (List TColumn) × Unit × (List Int)) :=
  (impl_Shred_1 k t0 t1 t2 (0, (⟨#[]⟩ : ByteArray), ()) () () o11 o13).bind fun r1 => some ((), (((), (), ()), (), r1.2.2.2.1, (), r1.2.2.2.2))

def impl_walker_missing_of_Shred_1_Shred_2.c4 (k : Nat) (L3 : Int → Int → Int → Int → TWalkerB → Unit → (List TColumn) → Unit → (List Int) → (Unit × Unit × Unit) → Option (Int × TWalkerB × Unit × (List TColumn) × Unit × (List Int) × (Unit × Unit × Unit))) (t2 : Int) (t3 : Int) (t9 : Int) (t10 : Int) (o0 : TWalkerB) (o10 : Unit) (o11 : List TColumn) (o12 : Unit) (o13 : List Int) (o14 : Unit × Unit × Unit) : Option (Int × TWalkerB × Unit × (List TColumn) × Unit × (List Int) × (Unit × Unit × Unit)) :=
  L3 t2 t3 t9 (IntKind.wrap .i64 (t10 + 1)) (o0.1, o0.2.1, o0.2.2.1, ((), (), ()), ((), ()), ()) () o11 () o13 ((), (), ())

def impl_walker_missing_of_Shred_1_Shred_2.l3 (k : Nat) : Nat → Int → Int → Int → Int → TWalkerB → Unit → (List TColumn) → Unit → (List Int) → (Unit × Unit × Unit) → Option (Int × TWalkerB × Unit × (List TColumn) × Unit × (List Int) × (Unit × Unit × Unit))
  | 0, _, _, _, _, _, _, _, _, _, _ => none
  | n + 1, t2, t3, t9, t10, o0, o10, o11, o12, o13, o14 =>
    cond (decide (t10 < t9))
      ((rdL o0.1 t10).bind fun y1 =>
       cond (y1.2.1 != 7)
         ((impl_Shred_2_of_Shred_1 k t10 t2 t3 ((), (), ()) () o11 () o13).bind fun r2 =>
          impl_walker_missing_of_Shred_1_Shred_2.c4 k (impl_walker_missing_of_Shred_1_Shred_2.l3 k n) t2 t3 t9 t10 (o0.1, o0.2.1, o0.2.2.1, ((), (), ()), ((), ()), ()) () r2.2.2.2.1 () r2.2.2.2.2.2 ((), (), ()))
         (impl_walker_missing_of_Shred_1_Shred_2.c4 k (impl_walker_missing_of_Shred_1_Shred_2.l3 k n) t2 t3 t9 t10 (o0.1, o0.2.1, o0.2.2.1, ((), (), ()), ((), ()), ()) () o11 () o13 ((), (), ())))
      (some (t9, ((o0.1, o0.2.1, o0.2.2.1, ((), (), ()), ((), ()), ()), (), o11, (), o13, ((), (), ()))))

def impl_walker_missing_of_Shred_1_Shred_2 (k : Nat) (t1 : Int) (t2 : Int) (t3 : Int) (o0 : TWalkerB) (o10 : Unit) (o11 : List TColumn) (o12 : Unit) (o13 : List Int) (o14 : Unit × Unit × Unit) : Option (Int × TWalkerB × Unit × (List TColumn) × Unit × (List Int) × (Unit × Unit × Unit)) :=
  (impl_colAfter k o0.1 t1 1).bind fun r3 =>
  impl_walker_missing_of_Shred_1_Shred_2.l3 k k t2 t3 r3 t1 (o0.1, o0.2.1, o0.2.2.1, ((), (), ()), ((), ()), ()) () o11 () o13 ((), (), ())

def impl_walker_body_of_Shred_1_Shred_2.c14 (k : Nat) (t12 : Int) (o0 : TWalkerB) (o10 : Unit) (o11 : List TColumn) (o12 : Unit) (o13 : List Int) (o14 : Unit × Unit × Unit) : Option (Int × TWalkerB × Unit × (List TColumn) × Unit × (List Int) × (Unit × Unit × Unit)) :=
  some (t12, ((o0.1, o0.2.1, o0.2.2.1, ((), (), ()), ((), ()), ()), (), o11, (), o13, ((), (), ())))

def impl_walker_body_of_Shred_1_Shred_2.l10 (k : Nat) (S287i6 : Int → Int → Int → Int → TWalkerB → Unit → (List TColumn) → Unit → (List Int) → (Unit × Unit × Unit) → Option (Int × TWalkerB × Unit × (List TColumn) × Unit × (List Int) × (Unit × Unit × Unit))) : Nat → Int → Int → Int → Int → Int → Int → TWalkerB → Unit → (List TColumn) → Unit → (List Int) → (Unit × Unit × Unit) → Option (Int × TWalkerB × Unit × (List TColumn) × Unit × (List Int) × (Unit × Unit × Unit))
  | 0, _, _, _, _, _, _, _, _, _, _, _, _ => none
  | n + 1, t2, t3, t4, t12, t70, t71, o0, o10, o11, o12, o13, o14 =>
    cond (decide (t71 < t70))
      (cond o0.2.2.1
         (impl_walker_body_of_Shred_1_Shred_2.c14 k t12 (o0.1, o0.2.1, o0.2.2.1, ((), (), ()), ((), ()), ()) () o11 () o13 ((), (), ()))
         ((S287i6 t12 t2 t3 t4 (o0.1, o0.2.1, o0.2.2.1, ((), (), ()), ((), ()), ()) () o11 () o13 ((), (), ())).bind fun r1 =>
          (impl_walker_body_of_Shred_1_Shred_2.l10 k S287i6 n) t2 t3 t4 r1.1 t70 (IntKind.wrap .i64 (t71 + 1)) (r1.2.1.1, r1.2.1.2.1, r1.2.1.2.2.1, ((), (), ()), ((), ()), ()) () r1.2.2.2.1 () r1.2.2.2.2.2.1 ((), (), ())))
      (impl_walker_body_of_Shred_1_Shred_2.c14 k t12 (o0.1, o0.2.1, o0.2.2.1, ((), (), ()), ((), ()), ()) () o11 () o13 ((), (), ()))

def impl_walker_body_of_Shred_1_Shred_2.c7 (k : Nat) (t1 : Int) (o0 : TWalkerB) (o10 : Unit) (o11 : List TColumn) (o12 : Unit) (o13 : List Int) (o14 : Unit × Unit × Unit) : Option (Int × TWalkerB × Unit × (List TColumn) × Unit × (List Int) × (Unit × Unit × Unit)) :=
  some (IntKind.wrap .i64 (t1 + 1), ((o0.1, o0.2.1, o0.2.2.1, ((), (), ()), ((), ()), ()), (), o11, (), o13, ((), (), ())))

def impl_walker_body_of_Shred_1_Shred_2.c5 (k : Nat) (t1 : Int) (t2 : Int) (t3 : Int) (o0 : TWalkerB) (o10 : Unit) (o11 : List TColumn) (o12 : Unit) (o13 : List Int) (o14 : Unit × Unit × Unit) (o100 : TVal) : Option (Int × TWalkerB × Unit × (List TColumn) × Unit × (List Int) × (Unit × Unit × Unit)) :=
  cond (!o0.2.2.1)
    ((impl_Shred_1 k t1 t2 t3 o100 () () o11 o13).bind fun r2 =>
     impl_walker_body_of_Shred_1_Shred_2.c7 k t1 (o0.1, o0.2.1, o0.2.2.1, ((), (), ()), ((), ()), ()) () r2.2.2.2.1 () r2.2.2.2.2 ((), (), ()))
    (impl_walker_body_of_Shred_1_Shred_2.c7 k t1 (o0.1, o0.2.1, o0.2.2.1, ((), (), ()), ((), ()), ()) () o11 () o13 ((), (), ()))

def impl_walker_body_of_Shred_1_Shred_2.d3 (k : Nat) (t1 : Int) (t2 : Int) (t3 : Int) (o0 : TWalkerB) (o10 : Unit) (o11 : List TColumn) (o12 : Unit) (o13 : List Int) (o14 : Unit × Unit × Unit) (o100 : TVal) : Option (Int × TWalkerB × Unit × (List TColumn) × Unit × (List Int) × (Unit × Unit × Unit)) :=
  cond (!o0.2.2.1)
    ((rdL o0.1 t1).bind fun y3 =>
     (impl_ValOk k y3.2.1 o100).bind fun r4 =>
     cond (!r4)
       (impl_walker_body_of_Shred_1_Shred_2.c5 k t1 t2 t3 (o0.1, o0.2.1, true, ((), (), ()), ((), ()), ()) () o11 () o13 ((), (), ()) o100)
       (impl_walker_body_of_Shred_1_Shred_2.c5 k t1 t2 t3 (o0.1, o0.2.1, o0.2.2.1, ((), (), ()), ((), ()), ()) () o11 () o13 ((), (), ()) o100))
    (cond false
       (impl_walker_body_of_Shred_1_Shred_2.c5 k t1 t2 t3 (o0.1, o0.2.1, true, ((), (), ()), ((), ()), ()) () o11 () o13 ((), (), ()) o100)
       (impl_walker_body_of_Shred_1_Shred_2.c5 k t1 t2 t3 (o0.1, o0.2.1, o0.2.2.1, ((), (), ()), ((), ()), ()) () o11 () o13 ((), (), ()) o100))

def impl_walker_body_of_Shred_1_Shred_2.b (k : Nat) (S185i3 : Int → Int → Int → Int → TWalkerB → Unit → (List TColumn) → Unit → (List Int) → (Unit × Unit × Unit) → Option (Int × TWalkerB × Unit × (List TColumn) × Unit × (List Int) × (Unit × Unit × Unit))) (S287i6 : Int → Int → Int → Int → TWalkerB → Unit → (List TColumn) → Unit → (List Int) → (Unit × Unit × Unit) → Option (Int × TWalkerB × Unit × (List TColumn) × Unit × (List Int) × (Unit × Unit × Unit))) (t1 : Int) (t2 : Int) (t3 : Int) (t4 : Int) (o0 : TWalkerB) (o10 : Unit) (o11 : List TColumn) (o12 : Unit) (o13 : List Int) (o14 : Unit × Unit × Unit) : Option (Int × TWalkerB × Unit × (List TColumn) × Unit × (List Int) × (Unit × Unit × Unit)) :=
  (rdL o0.1 t1).bind fun y7 =>
  cond (y7.2.1 != 7)
    ((impl_walker_next_of_Shred_1_Shred_2 k (o0.1, o0.2.1, o0.2.2.1, ((), (), ()), ((), ()), ()) () o11 () o13 ((), (), ())).bind fun r8 =>
     impl_walker_body_of_Shred_1_Shred_2.d3 k t1 t2 t3 (r8.2.1.1, r8.2.1.2.1, r8.2.1.2.2.1, ((), (), ()), ((), ()), ()) () r8.2.2.2.1 () r8.2.2.2.2.2.1 ((), (), ()) r8.1)
    ((rdL o0.1 t1).bind fun y9 =>
     impl_walker_body_of_Shred_1_Shred_2.l10 k S287i6 k t2 t3 t4 (IntKind.wrap .i64 (t1 + 1)) y9.2.2.2.1 0 (o0.1, o0.2.1, o0.2.2.1, ((), (), ()), ((), ()), ()) () o11 () o13 ((), (), ()))

def impl_walker_col_of_Shred_1_Shred_2.c18 (k : Nat) (S185i3 : Int → Int → Int → Int → TWalkerB → Unit → (List TColumn) → Unit → (List Int) → (Unit × Unit × Unit) → Option (Int × TWalkerB × Unit × (List TColumn) × Unit × (List Int) × (Unit × Unit × Unit))) (t1 : Int) (t2 : Int) (t3 : Int) (t4 : Int) (o0 : TWalkerB) (o10 : Unit) (o11 : List TColumn) (o12 : Unit) (o13 : List Int) (o14 : Unit × Unit × Unit) : Option (Int × TWalkerB × Unit × (List TColumn) × Unit × (List Int) × (Unit × Unit × Unit)) :=
  (S185i3 t1 t2 t3 t4 (o0.1, o0.2.1, o0.2.2.1, ((), (), ()), ((), ()), ()) () o11 () o13 ((), (), ())).bind fun r1 =>
  some (r1.1, ((r1.2.1.1, r1.2.1.2.1, r1.2.1.2.2.1, ((), (), ()), ((), ()), ()), (), r1.2.2.2.1, (), r1.2.2.2.2.2.1, ((), (), ())))

def impl_walker_col_of_Shred_1_Shred_2.l14 (k : Nat) (S185i3 : Int → Int → Int → Int → TWalkerB → Unit → (List TColumn) → Unit → (List Int) → (Unit × Unit × Unit) → Option (Int × TWalkerB × Unit × (List TColumn) × Unit × (List Int) × (Unit × Unit × Unit))) : Nat → Int → Int → Int → Int → Int → TWalkerB → Unit → (List TColumn) → Unit → (List Int) → (Unit × Unit × Unit) → Option (Int × TWalkerB × Unit × (List TColumn) × Unit × (List Int) × (Unit × Unit × Unit))
  | 0, _, _, _, _, _, _, _, _, _, _, _ => none
  | n + 1, t1, t3, t4, t12, t13, o0, o10, o11, o12, o13, o14 =>
    (cond (decide (t13 < t12)) (some (!o0.2.2.1)) (some (false))).bind fun b2 =>
    cond b2
      ((S185i3 t1 t4 (IntKind.wrap .i64 (t3 + 1)) t4 (o0.1, o0.2.1, o0.2.2.1, ((), (), ()), ((), ()), ()) () o11 () o13 ((), (), ())).bind fun r3 =>
       (impl_walker_col_of_Shred_1_Shred_2.l14 k S185i3 n) t1 t3 t4 t12 (IntKind.wrap .i64 (t13 + 1)) (r3.2.1.1, r3.2.1.2.1, r3.2.1.2.2.1, ((), (), ()), ((), ()), ()) () r3.2.2.2.1 () r3.2.2.2.2.2.1 ((), (), ()))
      ((impl_colAfter k o0.1 t1 1).bind fun r4 => some (r4, ((o0.1, o0.2.1, o0.2.2.1, ((), (), ()), ((), ()), ()), (), o11, (), o13, ((), (), ()))))

def impl_walker_col_of_Shred_1_Shred_2.b (k : Nat) (S185i3 : Int → Int → Int → Int → TWalkerB → Unit → (List TColumn) → Unit → (List Int) → (Unit × Unit × Unit) → Option (Int × TWalkerB × Unit × (List TColumn) × Unit × (List Int) × (Unit × Unit × Unit))) (S287i6 : Int → Int → Int → Int → TWalkerB → Unit → (List TColumn) → Unit → (List Int) → (Unit × Unit × Unit) → Option (Int × TWalkerB × Unit × (List TColumn) × Unit × (List Int) × (Unit × Unit × Unit))) (t1 : Int) (t2 : Int) (t3 : Int) (t4 : Int) (o0 : TWalkerB) (o10 : Unit) (o11 : List TColumn) (o12 : Unit) (o13 : List Int) (o14 : Unit × Unit × Unit) : Option (Int × TWalkerB × Unit × (List TColumn) × Unit × (List Int) × (Unit × Unit × Unit)) :=
  (rdL o0.1 t1).bind fun y5 =>
  cond (y5.2.2.1 == 1)
    ((impl_walker_count_of_Shred_1_Shred_2 k 1 (o0.1, o0.2.1, o0.2.2.1, ((), (), ()), ((), ()), ()) () o11 () o13 ((), (), ())).bind fun r6 =>
     cond (r6.1 == 0)
       ((impl_walker_missing_of_Shred_1_Shred_2 k t1 t2 t3 (r6.2.1.1, r6.2.1.2.1, r6.2.1.2.2.1, ((), (), ()), ((), ()), ()) () r6.2.2.2.1 () r6.2.2.2.2.2.1 ((), (), ())).bind fun r7 =>
        some (r7.1, ((r7.2.1.1, r7.2.1.2.1, r7.2.1.2.2.1, ((), (), ()), ((), ()), ()), (), r7.2.2.2.1, (), r7.2.2.2.2.2.1, ((), (), ()))))
       (impl_walker_col_of_Shred_1_Shred_2.c18 k S185i3 t1 t2 (IntKind.wrap .i64 (t3 + 1)) t4 (r6.2.1.1, r6.2.1.2.1, r6.2.1.2.2.1, ((), (), ()), ((), ()), ()) () r6.2.2.2.1 () r6.2.2.2.2.2.1 ((), (), ())))
    (cond (y5.2.2.1 == 2)
       ((impl_walker_count_of_Shred_1_Shred_2 k 20 (o0.1, o0.2.1, o0.2.2.1, ((), (), ()), ((), ()), ()) () o11 () o13 ((), (), ())).bind fun r8 =>
        cond (r8.1 == 0)
          ((impl_walker_missing_of_Shred_1_Shred_2 k t1 t2 t3 (r8.2.1.1, r8.2.1.2.1, r8.2.1.2.2.1, ((), (), ()), ((), ()), ()) () r8.2.2.2.1 () r8.2.2.2.2.2.1 ((), (), ())).bind fun r9 =>
           some (r9.1, ((r9.2.1.1, r9.2.1.2.1, r9.2.1.2.2.1, ((), (), ()), ((), ()), ()), (), r9.2.2.2.1, (), r9.2.2.2.2.2.1, ((), (), ()))))
          ((S185i3 t1 t2 (IntKind.wrap .i64 (t3 + 1)) (IntKind.wrap .i64 (t4 + 1)) (r8.2.1.1, r8.2.1.2.1, r8.2.1.2.2.1, ((), (), ()), ((), ()), ()) () r8.2.2.2.1 () r8.2.2.2.2.2.1 ((), (), ())).bind fun r10 =>
           impl_walker_col_of_Shred_1_Shred_2.l14 k S185i3 k t1 t3 (IntKind.wrap .i64 (t4 + 1)) r8.1 1 (r10.2.1.1, r10.2.1.2.1, r10.2.1.2.2.1, ((), (), ()), ((), ()), ()) () r10.2.2.2.1 () r10.2.2.2.2.2.1 ((), (), ())))
       (impl_walker_col_of_Shred_1_Shred_2.c18 k S185i3 t1 t2 t3 t4 (o0.1, o0.2.1, o0.2.2.1, ((), (), ()), ((), ()), ()) () o11 () o13 ((), (), ())))

def impl_walker_body_of_Shred_1_Shred_2.rec (k : Nat) : Nat → (Int → Int → Int → Int → TWalkerB → Unit → (List TColumn) → Unit → (List Int) → (Unit × Unit × Unit) → Option (Int × TWalkerB × Unit × (List TColumn) × Unit × (List Int) × (Unit × Unit × Unit))) × (Int → Int → Int → Int → TWalkerB → Unit → (List TColumn) → Unit → (List Int) → (Unit × Unit × Unit) → Option (Int × TWalkerB × Unit × (List TColumn) × Unit × (List Int) × (Unit × Unit × Unit)))
  | 0 => (fun _ _ _ _ _ _ _ _ _ _ => none, fun _ _ _ _ _ _ _ _ _ _ => none)
  | d + 1 => (impl_walker_body_of_Shred_1_Shred_2.b k ((impl_walker_body_of_Shred_1_Shred_2.rec k d).1) ((impl_walker_body_of_Shred_1_Shred_2.rec k d).2), impl_walker_col_of_Shred_1_Shred_2.b k ((impl_walker_body_of_Shred_1_Shred_2.rec k d).1) ((impl_walker_body_of_Shred_1_Shred_2.rec k d).2))

def impl_walker_body_of_Shred_1_Shred_2.d (k d : Nat) : Int → Int → Int → Int → TWalkerB → Unit → (List TColumn) → Unit → (List Int) → (Unit × Unit × Unit) → Option (Int × TWalkerB × Unit × (List TColumn) × Unit × (List Int) × (Unit × Unit × Unit)) := (impl_walker_body_of_Shred_1_Shred_2.rec k d).1

def impl_walker_body_of_Shred_1_Shred_2 (k : Nat) : Int → Int → Int → Int → TWalkerB → Unit → (List TColumn) → Unit → (List Int) → (Unit × Unit × Unit) → Option (Int × TWalkerB × Unit × (List TColumn) × Unit × (List Int) × (Unit × Unit × Unit)) := impl_walker_body_of_Shred_1_Shred_2.d k k

def impl_walker_col_of_Shred_1_Shred_2.d (k d : Nat) : Int → Int → Int → Int → TWalkerB → Unit → (List TColumn) → Unit → (List Int) → (Unit × Unit × Unit) → Option (Int × TWalkerB × Unit × (List TColumn) × Unit × (List Int) × (Unit × Unit × Unit)) := (impl_walker_body_of_Shred_1_Shred_2.rec k d).2

def impl_walker_col_of_Shred_1_Shred_2 (k : Nat) : Int → Int → Int → Int → TWalkerB → Unit → (List TColumn) → Unit → (List Int) → (Unit × Unit × Unit) → Option (Int × TWalkerB × Unit × (List TColumn) × Unit × (List Int) × (Unit × Unit × Unit)) := impl_walker_col_of_Shred_1_Shred_2.d k k

def impl_walk_of_Shred_1_Shred_2 (k : Nat) (t0 : List TCol) (t1 : TRec) (t2 : Unit × Unit × Unit) (t3 : Unit × Unit) (o10 : Unit) (o11 : List TColumn) (o12 : Unit) (o13 : List Int) (o14 : Unit × Unit × Unit) : Option (Bool × Unit × (List TColumn) × Unit × (List Int) × (Unit × Unit × Unit)) :=
  (impl_walker_body_of_Shred_1_Shred_2 k 0 0 0 0 (t0, t1.1, decide ((List.length t1.1 : Int) > 300), ((), (), ()), ((), ()), ()) () o11 () o13 ((), (), ())).bind fun r1 =>
  (cond (!r1.2.1.2.2.1) (some ((List.length r1.2.1.2.1 : Int) == 0)) (some (false))).bind fun b2 =>
  some (b2, ((), r1.2.2.2.1, (), r1.2.2.2.2.2.1, ((), (), ())))

def impl_Shred.l14 (k : Nat) : Nat → Int → Int → Unit → (List TColumn) → Option ((Unit × Bool) × (List TColumn))
  | 0, _, _, _, _ => none
  | n + 1, t44, t45, o100, o101 =>
    cond (decide (t45 < t44))
      ((rdL o101 t45).bind fun y1 =>
       cond (decide ((List.length y1.1 : Int) > 2000)) (some (((), false), [])) ((impl_Shred.l14 k n) t44 (IntKind.wrap .i64 (t45 + 1)) () o101))
      (some (((), true), o101))

def impl_Shred.l8 (k : Nat) : Nat → (List TCol) → (Unit × Unit) → (List TRec) → Int → Int → Unit → (Unit × Unit × Unit) → (List TColumn) → Unit → (List Int) → Option ((Unit × Bool) × (List TColumn))
  | 0, _, _, _, _, _, _, _, _, _, _ => none
  | n + 1, t0, t9, t30, t31, t32, o100, o101, o102, o103, o104 =>
    cond (decide (t32 < t31))
      ((rdL t30 t32).bind fun y2 =>
       (impl_walk_of_Shred_1_Shred_2 k t0 y2 ((), (), ()) ((), ()) () o102 () o104 ((), (), ())).bind fun r3 =>
       cond (!r3.1)
         (some (((), false), []))
         ((impl_Shred.l8 k n) t0 ((), ()) t30 t31 (IntKind.wrap .i64 (t32 + 1)) () ((), (), ()) r3.2.2.1 () r3.2.2.2.2.1))
      (impl_Shred.l14 k k (List.length o102 : Int) 0 () o102)

def impl_Shred (k : Nat) (t0 : List TCol) (t1 : List TRec) : Option ((Unit × Bool) × (List TColumn)) :=
  (impl_SchemaOk k t0).bind fun r4 =>
  (cond (!r4) (some (true)) (some (decide ((List.length t1 : Int) > 200)))).bind fun b5 =>
  cond b5
    (some (((), false), []))
    ((impl_leafNumbers k t0).bind fun r6 =>
     (impl_leavesOf k t0).bind fun r7 =>
     cond (okLen (List.length r7.2 : Int)) (
     impl_Shred.l8 k k t0 ((), ()) t1 (List.length t1 : Int) 0 () ((), (), ()) (List.replicate (Int.toNat (List.length r7.2 : Int)) ([], ())) () r6.2) none)

def spec_l5Leaves.c4 (k : Nat) (L3 : (List TCol) → Int → (List Int) → Option (Unit × (List Int))) (t0 : List TCol) (t4 : Int) (o100 : List Int) : Option (Unit × (List Int)) :=
  L3 t0 (IntKind.wrap .i64 (t4 + 1)) o100

def spec_l5Leaves.l3 (k : Nat) : Nat → (List TCol) → Int → (List Int) → Option (Unit × (List Int))
  | 0, _, _, _ => none
  | n + 1, t0, t4, o100 =>
    cond (decide (t4 < (List.length t0 : Int)))
      ((rdL t0 t4).bind fun y1 =>
       cond (y1.2.1 != 7)
         (cond (lim (List.length o100 + List.length [t4])) (spec_l5Leaves.c4 k (spec_l5Leaves.l3 k n) t0 t4 (o100 ++ [t4])) none)
         (spec_l5Leaves.c4 k (spec_l5Leaves.l3 k n) t0 t4 o100))
      (some ((), o100))

def spec_l5Leaves (k : Nat) (t0 : List TCol) : Option (Unit × (List Int)) :=
  spec_l5Leaves.l3 k k t0 0 []

def spec_l14Leaf.c4 (k : Nat) (L3 : (List TCol) → Int → Int → Int → Option Int) (t0 : List TCol) (t1 : Int) (t5 : Int) (t6 : Int) : Option Int :=
  L3 t0 t1 t5 (IntKind.wrap .i64 (t6 + 1))

def spec_l14Leaf.l3 (k : Nat) : Nat → (List TCol) → Int → Int → Int → Option Int
  | 0, _, _, _, _ => none
  | n + 1, t0, t1, t5, t6 =>
    cond (decide (t6 < t1))
      ((rdL t0 t6).bind fun y1 =>
       cond (y1.2.1 != 7)
         (spec_l14Leaf.c4 k (spec_l14Leaf.l3 k n) t0 t1 (IntKind.wrap .i64 (t5 + 1)) t6)
         (spec_l14Leaf.c4 k (spec_l14Leaf.l3 k n) t0 t1 t5 t6))
      (some t5)

def spec_l14Leaf (k : Nat) (t0 : List TCol) (t1 : Int) : Option Int :=
  spec_l14Leaf.l3 k k t0 t1 0 0

def spec_l14Null.l2 (k : Nat) : Nat → (List TCol) → Int → Int → (List (List TTriple)) → TTriple → Option (Unit × (List (List TTriple)))
  | 0, _, _, _, _, _ => none
  | n + 1, t0, t1, t9, o10, o100 =>
    (spec_l5After k t0 t1).bind fun r1 =>
    (spec_l14Leaf k t0 r1).bind fun r2 =>
    cond (decide (t9 < r2))
      ((rdL o10 t9).bind fun y3 =>
       cond (lim (List.length y3 + List.length [o100])) (
       (rdL o10 t9).bind fun y4 =>
       cond (t9 == t9) (
       (rdL o10 t9).bind fun y5 => (spec_l14Null.l2 k n) t0 t1 (IntKind.wrap .i64 (t9 + 1)) (List.set o10 (Int.toNat t9) (y3 ++ [o100])) o100) none) none)
      (some ((), o10))

def spec_l14Null (k : Nat) (t0 : List TCol) (t1 : Int) (t2 : TTriple) (o10 : List (List TTriple)) : Option (Unit × (List (List TTriple))) :=
  (spec_l14Leaf k t0 t1).bind fun r6 => spec_l14Null.l2 k k t0 t1 r6 o10 t2

def spec_l14Content.l7 (k : Nat) (S188 : (List TCol) → Int → (List TVal) → Int → Int → Int → Int → (List (List TTriple)) → Option ((Unit × Int) × (List (List TTriple)))) : Nat → (List TCol) → Int → (List TVal) → Int → Int → Int → Int → Int → Int → (List (List TTriple)) → Option ((Unit × Int) × (List (List TTriple)))
  | 0, _, _, _, _, _, _, _, _, _, _ => none
  | n + 1, t0, t1, t2, t3, t4, t5, t6, t19, t20, o10 =>
    (rdL t0 t1).bind fun y1 =>
    cond (decide (t20 < y1.2.2.2.1))
      ((S188 t0 t19 t2 t3 t4 t5 t6 o10).bind fun r2 =>
       (spec_l5After k t0 t19).bind fun r3 => (spec_l14Content.l7 k S188 n) t0 t1 t2 r2.1.2 t4 t5 t6 r3 (IntKind.wrap .i64 (t20 + 1)) r2.2)
      (some (((), t3), o10))

def spec_l14Content.b (k : Nat) (S87 : (List TCol) → Int → (List TVal) → Int → Int → Int → Int → (List (List TTriple)) → Option ((Unit × Int) × (List (List TTriple)))) (S188 : (List TCol) → Int → (List TVal) → Int → Int → Int → Int → (List (List TTriple)) → Option ((Unit × Int) × (List (List TTriple)))) (t0 : List TCol) (t1 : Int) (t2 : List TVal) (t3 : Int) (t4 : Int) (t5 : Int) (t6 : Int) (o10 : List (List TTriple)) : Option ((Unit × Int) × (List (List TTriple))) :=
  (rdL t0 t1).bind fun y4 =>
  cond (y4.2.1 != 7)
    ((spec_l14Leaf k t0 t1).bind fun r5 =>
     (rdL o10 r5).bind fun y6 =>
     (rdL t2 t3).bind fun y7 =>
     cond (lim (List.length y6 + List.length [(t4, t5, y7, ())])) (
     (rdL o10 r5).bind fun y8 =>
     cond (r5 == r5) (
     (rdL o10 r5).bind fun y9 => some (((), IntKind.wrap .i64 (t3 + 1)), List.set o10 (Int.toNat r5) (y6 ++ [(t4, t5, y7, ())]))) none) none)
    (spec_l14Content.l7 k S188 k t0 t1 t2 t3 t4 t5 t6 (IntKind.wrap .i64 (t1 + 1)) 0 o10)

def spec_l14Part.l10 (k : Nat) (S87 : (List TCol) → Int → (List TVal) → Int → Int → Int → Int → (List (List TTriple)) → Option ((Unit × Int) × (List (List TTriple)))) : Nat → (List TCol) → Int → (List TVal) → Int → Int → Int → Int → Int → Int → (List (List TTriple)) → Option ((Unit × Int) × (List (List TTriple)))
  | 0, _, _, _, _, _, _, _, _, _, _ => none
  | n + 1, t0, t1, t2, t3, t4, t5, t6, t18, t19, o10 =>
    cond (decide (t19 < t18))
      ((S87 t0 t1 t2 t3 t4 (IntKind.wrap .i64 (t5 + 1)) t6 o10).bind fun r1 =>
       (spec_l14Part.l10 k S87 n) t0 t1 t2 r1.1.2 t6 t5 t6 t18 (IntKind.wrap .i64 (t19 + 1)) r1.2)
      (some (((), t3), o10))

def spec_l14Part.c9 (k : Nat) (S87 : (List TCol) → Int → (List TVal) → Int → Int → Int → Int → (List (List TTriple)) → Option ((Unit × Int) × (List (List TTriple)))) (t0 : List TCol) (t1 : Int) (t2 : List TVal) (t3 : Int) (t4 : Int) (t5 : Int) (t6 : Int) (t18 : Int) (o10 : List (List TTriple)) : Option ((Unit × Int) × (List (List TTriple))) :=
  spec_l14Part.l10 k S87 k t0 t1 t2 t3 t4 t5 t6 t18 0 o10

def spec_l14Part.b (k : Nat) (S87 : (List TCol) → Int → (List TVal) → Int → Int → Int → Int → (List (List TTriple)) → Option ((Unit × Int) × (List (List TTriple)))) (S188 : (List TCol) → Int → (List TVal) → Int → Int → Int → Int → (List (List TTriple)) → Option ((Unit × Int) × (List (List TTriple)))) (t0 : List TCol) (t1 : Int) (t2 : List TVal) (t3 : Int) (t4 : Int) (t5 : Int) (t6 : Int) (o10 : List (List TTriple)) : Option ((Unit × Int) × (List (List TTriple))) :=
  (rdL t0 t1).bind fun y2 =>
  cond (y2.2.2.1 == 0)
    ((S87 t0 t1 t2 t3 t4 t5 t6 o10).bind fun r3 => some (((), r3.1.2), r3.2))
    ((rdL t2 t3).bind fun y4 =>
     cond (y4.1 == 0)
       ((spec_l14Null k t0 t1 (t4, t5, (0, (⟨#[]⟩ : ByteArray), ()), ()) o10).bind fun r5 => some (((), IntKind.wrap .i64 (t3 + 1)), r5.2))
       ((rdL t0 t1).bind fun y6 =>
        cond (y6.2.2.1 == 2)
          (spec_l14Part.c9 k S87 t0 t1 t2 (IntKind.wrap .i64 (t3 + 1)) t4 t5 (IntKind.wrap .i64 (t6 + 1)) y4.1 o10)
          (spec_l14Part.c9 k S87 t0 t1 t2 (IntKind.wrap .i64 (t3 + 1)) t4 t5 t6 y4.1 o10)))

def spec_l14Content.rec (k : Nat) : Nat → ((List TCol) → Int → (List TVal) → Int → Int → Int → Int → (List (List TTriple)) → Option ((Unit × Int) × (List (List TTriple)))) × ((List TCol) → Int → (List TVal) → Int → Int → Int → Int → (List (List TTriple)) → Option ((Unit × Int) × (List (List TTriple))))
  | 0 => (fun _ _ _ _ _ _ _ _ => none, fun _ _ _ _ _ _ _ _ => none)
  | d + 1 => (spec_l14Content.b k ((spec_l14Content.rec k d).1) ((spec_l14Content.rec k d).2), spec_l14Part.b k ((spec_l14Content.rec k d).1) ((spec_l14Content.rec k d).2))

def spec_l14Content.d (k d : Nat) : (List TCol) → Int → (List TVal) → Int → Int → Int → Int → (List (List TTriple)) → Option ((Unit × Int) × (List (List TTriple))) := (spec_l14Content.rec k d).1

def spec_l14Content (k : Nat) : (List TCol) → Int → (List TVal) → Int → Int → Int → Int → (List (List TTriple)) → Option ((Unit × Int) × (List (List TTriple))) := spec_l14Content.d k k

def spec_l14Part.d (k d : Nat) : (List TCol) → Int → (List TVal) → Int → Int → Int → Int → (List (List TTriple)) → Option ((Unit × Int) × (List (List TTriple))) := (spec_l14Content.rec k d).2

def spec_l14Part (k : Nat) : (List TCol) → Int → (List TVal) → Int → Int → Int → Int → (List (List TTriple)) → Option ((Unit × Int) × (List (List TTriple))) := spec_l14Part.d k k

def spec_Shred.l12 (k : Nat) : Nat → (List (List TTriple)) → Int → (List TColumn) → Option ((Unit × Bool) × (List TColumn))
  | 0, _, _, _ => none
  | n + 1, t7, t9, o100 =>
    cond (decide (t9 < (List.length t7 : Int)))
      ((rdL t7 t9).bind fun y1 =>
       cond (decide ((List.length y1 : Int) > 2000))
         (some (((), false), []))
         ((rdL t7 t9).bind fun y2 =>
          cond (lim (List.length o100 + List.length [(y2, ())])) ((spec_Shred.l12 k n) t7 (IntKind.wrap .i64 (t9 + 1)) (o100 ++ [(y2, ())])) none))
      (some (((), true), o100))

def spec_Shred.l6 (k : Nat) : Nat → (List TCol) → (List TRec) → Int → (List TColumn) → (List (List TTriple)) → Option ((Unit × Bool) × (List TColumn))
  | 0, _, _, _, _, _ => none
  | n + 1, t0, t1, t8, o100, o101 =>
    cond (decide (t8 < (List.length t1 : Int)))
      ((rdL t1 t8).bind fun y3 =>
       (spec_RecOk k t0 y3).bind fun r4 =>
       cond (!r4)
         (some (((), false), o100))
         ((rdL t1 t8).bind fun y5 =>
          (spec_l14Content k t0 0 y5.1 0 0 0 0 o101).bind fun r6 => (spec_Shred.l6 k n) t0 t1 (IntKind.wrap .i64 (t8 + 1)) o100 r6.2))
      (spec_Shred.l12 k k o101 0 o100)

def spec_Shred (k : Nat) (t0 : List TCol) (t1 : List TRec) : Option ((Unit × Bool) × (List TColumn)) :=
  (spec_SchemaOk k t0).bind fun r7 =>
  (cond (!r7) (some (true)) (some (decide ((List.length t1 : Int) > 200)))).bind fun b8 =>
  cond b8
    (some (((), false), []))
    ((spec_l5Leaves k t0).bind fun r9 =>
     cond (okLen (List.length r9.2 : Int)) (spec_Shred.l6 k k t0 t1 0 [] (List.replicate (Int.toNat (List.length r9.2 : Int)) [])) none)

def impl_RowsOf.c7 (k : Nat) (L3 : Int → (List TTriple) → Int → Int → Option Int) (t3 : Int) (t6 : List TTriple) (t7 : Int) (t8 : Int) : Option Int :=
  L3 t3 t6 t7 (IntKind.wrap .i64 (t8 + 1))

def impl_RowsOf.l3 (k : Nat) : Nat → Int → (List TTriple) → Int → Int → Option Int
  | 0, _, _, _, _ => none
  | n + 1, t3, t6, t7, t8 =>
    cond (decide (t8 < t7))
      ((rdL t6 t8).bind fun y1 =>
       cond (y1.1 == 0)
         (impl_RowsOf.c7 k (impl_RowsOf.l3 k n) (IntKind.wrap .i64 (t3 + 1)) t6 t7 t8)
         (impl_RowsOf.c7 k (impl_RowsOf.l3 k n) t3 t6 t7 t8))
      (some t3)

def impl_RowsOf (k : Nat) (t0 : List TTriple) : Option Int :=
  impl_RowsOf.l3 k k 0 t0 (List.length t0 : Int) 0

def impl_SchemaLeaves (k : Nat) (t0 : List TCol) : Option (Unit × (List Int)) :=
  (impl_SchemaOk k t0).bind fun r1 => cond (!r1) (some ((), [])) ((impl_leavesOf k t0).bind fun r2 => some ((), r2.2))

def impl_wayTo.l6 (k : Nat) : Nat → (List TCol) → Int → Int → (List Int) → (List Int) → Option (Unit × (List Int))
  | 0, _, _, _, _, _ => none
  | n + 1, t0, t1, t7, o100, o101 =>
    (rdL o100 t1).bind fun y1 =>
    cond (decide (t7 ≤ y1))
      ((impl_colAfter k t0 t7 1).bind fun r2 =>
       (rdL o100 t1).bind fun y3 =>
       cond (decide (r2 > y3))
         (cond (lim (List.length o101 + List.length [t7])) ((impl_wayTo.l6 k n) t0 t1 (IntKind.wrap .i64 (t7 + 1)) o100 (o101 ++ [t7])) none)
         ((impl_wayTo.l6 k n) t0 t1 r2 o100 o101))
      (some ((), o101))

def impl_wayTo (k : Nat) (t0 : List TCol) (t1 : Int) : Option (Unit × (List Int)) :=
  (impl_SchemaLeaves k t0).bind fun r4 =>
  (impl_within k t1 0 (IntKind.wrap .i64 ((List.length r4.2 : Int) - 1))).bind fun r5 =>
  cond (!r5) (some ((), [])) (impl_wayTo.l6 k k t0 t1 1 r4.2 [])

def impl_LeafMax.c12 (k : Nat) (L6 : (List TCol) → Int → Int → Int → Int → (List Int) → Option (Int × Int)) (t0 : List TCol) (t7 : Int) (t8 : Int) (t18 : Int) (t19 : Int) (o100 : List Int) : Option (Int × Int) :=
  L6 t0 t7 t8 t18 (IntKind.wrap .i64 (t19 + 1)) o100

def impl_LeafMax.c10 (k : Nat) (L6 : (List TCol) → Int → Int → Int → Int → (List Int) → Option (Int × Int)) (t0 : List TCol) (t7 : Int) (t8 : Int) (t10 : Int) (t18 : Int) (t19 : Int) (o100 : List Int) : Option (Int × Int) :=
  (rdL t0 t10).bind fun y1 =>
  cond (y1.2.2.1 == 2) (impl_LeafMax.c12 k L6 t0 t7 (IntKind.wrap .i64 (t8 + 1)) t18 t19 o100) (impl_LeafMax.c12 k L6 t0 t7 t8 t18 t19 o100)

def impl_LeafMax.l6 (k : Nat) : Nat → (List TCol) → Int → Int → Int → Int → (List Int) → Option (Int × Int)
  | 0, _, _, _, _, _, _ => none
  | n + 1, t0, t7, t8, t18, t19, o100 =>
    cond (decide (t19 < t18))
      ((rdL o100 t19).bind fun y2 =>
       (rdL t0 y2).bind fun y3 =>
       cond (y3.2.2.1 != 0)
         (impl_LeafMax.c10 k (impl_LeafMax.l6 k n) t0 (IntKind.wrap .i64 (t7 + 1)) t8 y2 t18 t19 o100)
         (impl_LeafMax.c10 k (impl_LeafMax.l6 k n) t0 t7 t8 y2 t18 t19 o100))
      (some (t7, t8))

def impl_LeafMax (k : Nat) (t0 : List TCol) (t1 : Int) : Option (Int × Int) :=
  (impl_wayTo k t0 t1).bind fun r4 =>
  cond ((List.length r4.2 : Int) == 0) (some ((-1), (-1))) (impl_LeafMax.l6 k k t0 0 0 (List.length r4.2 : Int) 0 r4.2)

def impl_LeafOf (k : Nat) (t0 : List TCol) (t1 : Int) : Option (TLeaf × Bool) :=
  (impl_SchemaLeaves k t0).bind fun r1 =>
  (impl_within k t1 0 (IntKind.wrap .i64 ((List.length r1.2 : Int) - 1))).bind fun r2 =>
  cond (!r2)
    (some ((0, 0, 0, ()), false))
    ((impl_LeafMax k t0 t1).bind fun r3 => (rdL r1.2 t1).bind fun y4 => (rdL t0 y4).bind fun y5 => some ((y5.2.1, r3.2, r3.1, ()), true))

def impl_tripleOk (k : Nat) (t0 : TLeaf) (t1 : TTriple) : Option Bool :=
  (impl_within k t1.1 0 t0.2.1).bind fun r1 =>
  (cond (!r1) (some (true)) ((impl_within k t1.2.1 0 t0.2.2.1).bind fun r2 => some (!r2))).bind fun b3 =>
  cond b3
    (some false)
    (cond (t1.2.1 == t0.2.2.1)
       ((impl_ValOk k t0.1 t1.2.2.1).bind fun r4 => some r4)
       (some ((t1.2.2.1.1 == 0) && (eqS t1.2.2.1.2.1 (⟨#[]⟩ : ByteArray) && true))))

def impl_triplesRight.l2 (k : Nat) : Nat → (List TTriple) → (List TTriple) → Int → Int → TLeaf → Option Bool
  | 0, _, _, _, _, _ => none
  | n + 1, t1, t7, t8, t9, o100 =>
    cond (decide (t9 < t8))
      ((rdL t7 t9).bind fun y1 =>
       (impl_tripleOk k o100 y1).bind fun r2 => cond (!r2) (some false) ((impl_triplesRight.l2 k n) t1 t7 t8 (IntKind.wrap .i64 (t9 + 1)) o100))
      (some (decide ((List.length t1 : Int) ≤ 2000)))

def impl_triplesRight (k : Nat) (t0 : TLeaf) (t1 : List TTriple) : Option Bool :=
  impl_triplesRight.l2 k k t1 t1 (List.length t1 : Int) 0 t0

def impl_TriplesOk (k : Nat) (t0 : List TCol) (t1 : Int) (t2 : List TTriple) : Option Bool :=
  (impl_LeafOf k t0 t1).bind fun r1 =>
  (cond r1.2 ((impl_triplesRight k r1.1 t2).bind fun r2 => some (r2)) (some (false))).bind fun b3 =>
  (cond b3 ((cond ((List.length t2 : Int) == 0) (some (true)) ((rdL t2 0).bind fun y4 => some (y4.1 == 0))).bind fun b5 => some (b5)) (some (false))).bind fun b6 =>
  some b6

def impl_rowsAlike.l3 (k : Nat) : Nat → Int → (List TColumn) → Int → Int → Option (Int × Bool)
  | 0, _, _, _, _ => none
  | n + 1, t4, t12, t13, t14 =>
    cond (decide (t14 < t13))
      ((rdL t12 t14).bind fun y1 =>
       (impl_RowsOf k y1.1).bind fun r2 => cond (r2 != t4) (some (0, false)) ((impl_rowsAlike.l3 k n) t4 t12 t13 (IntKind.wrap .i64 (t14 + 1))))
      (some (t4, decide (t4 ≤ 200)))

def impl_rowsAlike (k : Nat) (t0 : List TColumn) : Option (Int × Bool) :=
  (rdL t0 0).bind fun y3 => (impl_RowsOf k y3.1).bind fun r4 => impl_rowsAlike.l3 k k r4 t0 (List.length t0 : Int) 0

def impl_joiner_peek.l1 (k : Nat) : Nat → Int → TJoinerB → (List Int) → (List TVal) → TTriple → Option ((TTriple × Bool) × TJoinerB × (List Int) × (List TVal))
  | 0, _, _, _, _, _ => none
  | n + 1, t1, o0, o10, o11, o100 =>
    (rdL o0.1 t1).bind fun y1 =>
    cond (y1.2.1 == 7)
      ((impl_joiner_peek.l1 k n) (IntKind.wrap .i64 (t1 + 1)) o0 o10 o11 o100)
      ((rdL o0.2.2.1 t1).bind fun y2 =>
       (rdL o10 y2).bind fun y3 =>
       (rdL o0.2.1 y2).bind fun y4 =>
       cond (y3 == (List.length y4.1 : Int))
         (some (((0, 0, (0, (⟨#[]⟩ : ByteArray), ()), ()), false), (o0, o10, o11)))
         ((rdL o0.2.1 y2).bind fun y5 => (rdL o10 y2).bind fun y6 => (rdL y5.1 y6).bind fun y7 => some ((y7, true), (o0, o10, o11))))

def impl_joiner_peek (k : Nat) (t1 : Int) (o0 : TJoinerB) (o10 : List Int) (o11 : List TVal) : Option ((TTriple × Bool) × TJoinerB × (List Int) × (List TVal)) :=
  impl_joiner_peek.l1 k k t1 o0 o10 o11 (0, 0, (0, (⟨#[]⟩ : ByteArray), ()), ())

def impl_joiner_take (k : Nat) (t1 : Int) (t2 : Int) (t3 : Int) (o0 : TJoinerB) (o10 : List Int) (o11 : List TVal) : Option ((TVal) × TJoinerB × (List Int) × (List TVal)) :=
  (impl_joiner_peek k t1 o0 o10 o11).bind fun r1 =>
  (cond r1.2.1.2.2.2.2.2.1 (some (true)) (some (!r1.1.2))).bind fun b2 =>
  (cond b2 (some (true)) (some (r1.1.1.1 != t2))).bind fun b3 =>
  (cond b3 (some (true)) (some (r1.1.1.2.1 != t3))).bind fun b4 =>
  cond b4
    (some ((0, (⟨#[]⟩ : ByteArray), ()), ((r1.2.1.1, r1.2.1.2.1, r1.2.1.2.2.1, (), (), true, r1.2.1.2.2.2.2.2.2.1, ()), r1.2.2.1, r1.2.2.2)))
    ((rdL r1.2.1.2.2.1 t1).bind fun y5 =>
     (rdL r1.2.2.1 y5).bind fun y6 =>
     (rdL r1.2.2.1 y5).bind fun y7 =>
     (rdL r1.2.2.1 y5).bind fun y8 => some (r1.1.1.2.2.1, (r1.2.1, List.set r1.2.2.1 (Int.toNat y5) (IntKind.wrap .i64 (y6 + 1)), r1.2.2.2)))

def impl_joiner_missing.c4 (k : Nat) (L3 : Int → Int → Int → Int → TJoinerB → (List Int) → (List TVal) → Option (Int × TJoinerB × (List Int) × (List TVal))) (t2 : Int) (t3 : Int) (t9 : Int) (t10 : Int) (o0 : TJoinerB) (o10 : List Int) (o11 : List TVal) : Option (Int × TJoinerB × (List Int) × (List TVal)) :=
  L3 t2 t3 t9 (IntKind.wrap .i64 (t10 + 1)) o0 o10 o11

def impl_joiner_missing.l3 (k : Nat) : Nat → Int → Int → Int → Int → TJoinerB → (List Int) → (List TVal) → Option (Int × TJoinerB × (List Int) × (List TVal))
  | 0, _, _, _, _, _, _, _ => none
  | n + 1, t2, t3, t9, t10, o0, o10, o11 =>
    cond (decide (t10 < t9))
      ((rdL o0.1 t10).bind fun y1 =>
       cond (y1.2.1 != 7)
         ((impl_joiner_take k t10 t2 t3 o0 o10 o11).bind fun r2 =>
          impl_joiner_missing.c4 k (impl_joiner_missing.l3 k n) t2 t3 t9 t10 r2.2.1 r2.2.2.1 r2.2.2.2)
         (impl_joiner_missing.c4 k (impl_joiner_missing.l3 k n) t2 t3 t9 t10 o0 o10 o11))
      (some (t9, (o0, o10, o11)))

def impl_joiner_missing (k : Nat) (t1 : Int) (t2 : Int) (t3 : Int) (o0 : TJoinerB) (o10 : List Int) (o11 : List TVal) : Option (Int × TJoinerB × (List Int) × (List TVal)) :=
  (impl_colAfter k o0.1 t1 1).bind fun r3 => impl_joiner_missing.l3 k k t2 t3 r3 t1 o0 o10 o11

def impl_joiner_body.c11 (k : Nat) (t12 : Int) (o0 : TJoinerB) (o10 : List Int) (o100 : List TVal) : Option (Int × TJoinerB × (List Int) × (List TVal)) :=
  some (t12, (o0, o10, o100))

def impl_joiner_body.l7 (k : Nat) (S194 : Int → Int → Int → Int → TJoinerB → (List Int) → (List TVal) → Option (Int × TJoinerB × (List Int) × (List TVal))) : Nat → Int → Int → Int → Int → Int → Int → TJoinerB → (List Int) → (List TVal) → Option (Int × TJoinerB × (List Int) × (List TVal))
  | 0, _, _, _, _, _, _, _, _, _ => none
  | n + 1, t2, t3, t4, t12, t48, t49, o0, o10, o100 =>
    cond (decide (t49 < t48))
      (cond o0.2.2.2.2.2.1
         (impl_joiner_body.c11 k t12 o0 o10 o100)
         ((S194 t12 t2 t3 t4 o0 o10 o100).bind fun r1 =>
          (impl_joiner_body.l7 k S194 n) t2 t3 t4 r1.1 t48 (IntKind.wrap .i64 (t49 + 1)) r1.2.1 r1.2.2.1 r1.2.2.2))
      (impl_joiner_body.c11 k t12 o0 o10 o100)

def impl_joiner_body.b (k : Nat) (S91 : Int → Int → Int → Int → TJoinerB → (List Int) → (List TVal) → Option (Int × TJoinerB × (List Int) × (List TVal))) (S194 : Int → Int → Int → Int → TJoinerB → (List Int) → (List TVal) → Option (Int × TJoinerB × (List Int) × (List TVal))) (S293 : Int → Int → Int → Int → TJoinerB → (List Int) → (List TVal) → Option (Int × TJoinerB × (List Int) × (List TVal))) (t1 : Int) (t2 : Int) (t3 : Int) (t4 : Int) (o0 : TJoinerB) (o10 : List Int) (o11 : List TVal) : Option (Int × TJoinerB × (List Int) × (List TVal)) :=
  (rdL o0.1 t1).bind fun y2 =>
  cond (y2.2.1 != 7)
    ((impl_joiner_take k t1 t2 t3 o0 o10 o11).bind fun r3 =>
     cond (lim (List.length r3.2.2.2 + List.length [r3.1])) (some (IntKind.wrap .i64 (t1 + 1), (r3.2.1, r3.2.2.1, r3.2.2.2 ++ [r3.1]))) none)
    ((rdL o0.1 t1).bind fun y4 => impl_joiner_body.l7 k S194 k t2 t3 t4 (IntKind.wrap .i64 (t1 + 1)) y4.2.2.2.1 0 o0 o10 o11)

def impl_joiner_col.c15 (k : Nat) (t1 : Int) (t13 : Int) (t14 : Int) (o0 : TJoinerB) (o10 : List Int) (o100 : List TVal) : Option (Int × TJoinerB × (List Int) × (List TVal)) :=
  (rdL o100 t13).bind fun y1 =>
  (rdL o100 t13).bind fun y2 =>
  (cond o0.2.2.2.2.2.2.1 (some (true)) (some (decide (t14 > 20)))).bind fun b3 =>
  (impl_colAfter k o0.1 t1 1).bind fun r4 =>
  some (r4, ((o0.1, o0.2.1, o0.2.2.1, (), (), o0.2.2.2.2.2.1, b3, ()), o10, List.set o100 (Int.toNat t13) (t14, y2.2.1, ())))

def impl_joiner_col.c6 (k : Nat) (S91 : Int → Int → Int → Int → TJoinerB → (List Int) → (List TVal) → Option (Int × TJoinerB × (List Int) × (List TVal))) (S293 : Int → Int → Int → Int → TJoinerB → (List Int) → (List TVal) → Option (Int × TJoinerB × (List Int) × (List TVal))) (t1 : Int) (t2 : Int) (t3 : Int) (t4 : Int) (o0 : TJoinerB) (o10 : List Int) (o11 : List TVal) (o100 : TTriple) : Option (Int × TJoinerB × (List Int) × (List TVal)) :=
  cond (lim (List.length o11 + List.length ([(0, (⟨#[]⟩ : ByteArray), ())] : List TVal))) (
  cond (decide (o100.2.1 ≤ t3))
    ((impl_joiner_missing k t1 t2 t3 o0 o10 (o11 ++ [(0, (⟨#[]⟩ : ByteArray), ())])).bind fun r5 => some (r5.1, (r5.2.1, r5.2.2.1, r5.2.2.2)))
    ((rdL o0.1 t1).bind fun y6 =>
     cond (y6.2.2.1 == 2)
       ((S293 t1 t2 (IntKind.wrap .i64 (t3 + 1)) (IntKind.wrap .i64 (t4 + 1)) o0 o10 (o11 ++ [(0, (⟨#[]⟩ : ByteArray), ())])).bind fun r7 =>
        impl_joiner_col.c15 k t1 (List.length o11 : Int) (IntKind.wrap .i64 (1 + r7.1)) r7.2.1 r7.2.2.1 r7.2.2.2)
       ((S91 t1 t2 (IntKind.wrap .i64 (t3 + 1)) t4 o0 o10 (o11 ++ [(0, (⟨#[]⟩ : ByteArray), ())])).bind fun r8 =>
        impl_joiner_col.c15 k t1 (List.length o11 : Int) 1 r8.2.1 r8.2.2.1 r8.2.2.2))) none

def impl_joiner_col.b (k : Nat) (S91 : Int → Int → Int → Int → TJoinerB → (List Int) → (List TVal) → Option (Int × TJoinerB × (List Int) × (List TVal))) (S194 : Int → Int → Int → Int → TJoinerB → (List Int) → (List TVal) → Option (Int × TJoinerB × (List Int) × (List TVal))) (S293 : Int → Int → Int → Int → TJoinerB → (List Int) → (List TVal) → Option (Int × TJoinerB × (List Int) × (List TVal))) (t1 : Int) (t2 : Int) (t3 : Int) (t4 : Int) (o0 : TJoinerB) (o10 : List Int) (o11 : List TVal) : Option (Int × TJoinerB × (List Int) × (List TVal)) :=
  (rdL o0.1 t1).bind fun y9 =>
  cond (y9.2.2.1 == 0)
    ((S91 t1 t2 t3 t4 o0 o10 o11).bind fun r10 => some (r10.1, (r10.2.1, r10.2.2.1, r10.2.2.2)))
    ((impl_joiner_peek k t1 o0 o10 o11).bind fun r11 =>
     cond (!r11.1.2)
       (impl_joiner_col.c6 k S91 S293 t1 t2 t3 t4 (r11.2.1.1, r11.2.1.2.1, r11.2.1.2.2.1, (), (), true, r11.2.1.2.2.2.2.2.2.1, ()) r11.2.2.1 r11.2.2.2 r11.1.1)
       (impl_joiner_col.c6 k S91 S293 t1 t2 t3 t4 r11.2.1 r11.2.2.1 r11.2.2.2 r11.1.1))

def impl_joiner_repeat.l4 (k : Nat) (S91 : Int → Int → Int → Int → TJoinerB → (List Int) → (List TVal) → Option (Int × TJoinerB × (List Int) × (List TVal))) : Nat → Int → Int → Int → Int → TJoinerB → (List Int) → (List TVal) → Option (Int × TJoinerB × (List Int) × (List TVal))
  | 0, _, _, _, _, _, _, _ => none
  | n + 1, t1, t3, t4, t11, o0, o10, o100 =>
    (impl_joiner_peek k t1 o0 o10 o100).bind fun r1 =>
    (cond r1.2.1.2.2.2.2.2.1 (some (true)) (some (!r1.1.2))).bind fun b2 =>
    (cond b2 (some (true)) (some (r1.1.1.1 != t4))).bind fun b3 =>
    cond b3
      (some (t11, (r1.2.1, r1.2.2.1, r1.2.2.2)))
      ((S91 t1 t4 t3 t4 r1.2.1 r1.2.2.1 r1.2.2.2).bind fun r4 =>
       (impl_joiner_repeat.l4 k S91 n) t1 t3 t4 (IntKind.wrap .i64 (t11 + 1)) r4.2.1 r4.2.2.1 r4.2.2.2)

def impl_joiner_repeat.b (k : Nat) (S91 : Int → Int → Int → Int → TJoinerB → (List Int) → (List TVal) → Option (Int × TJoinerB × (List Int) × (List TVal))) (S194 : Int → Int → Int → Int → TJoinerB → (List Int) → (List TVal) → Option (Int × TJoinerB × (List Int) × (List TVal))) (S293 : Int → Int → Int → Int → TJoinerB → (List Int) → (List TVal) → Option (Int × TJoinerB × (List Int) × (List TVal))) (t1 : Int) (t2 : Int) (t3 : Int) (t4 : Int) (o0 : TJoinerB) (o10 : List Int) (o11 : List TVal) : Option (Int × TJoinerB × (List Int) × (List TVal)) :=
  (S91 t1 t2 t3 t4 o0 o10 o11).bind fun r5 => impl_joiner_repeat.l4 k S91 k t1 t3 t4 0 r5.2.1 r5.2.2.1 r5.2.2.2

def impl_joiner_body.rec (k : Nat) : Nat → (Int → Int → Int → Int → TJoinerB → (List Int) → (List TVal) → Option (Int × TJoinerB × (List Int) × (List TVal))) × (Int → Int → Int → Int → TJoinerB → (List Int) → (List TVal) → Option (Int × TJoinerB × (List Int) × (List TVal))) × (Int → Int → Int → Int → TJoinerB → (List Int) → (List TVal) → Option (Int × TJoinerB × (List Int) × (List TVal)))
  | 0 => (fun _ _ _ _ _ _ _ => none, fun _ _ _ _ _ _ _ => none, fun _ _ _ _ _ _ _ => none)
  | d + 1 => (impl_joiner_body.b k ((impl_joiner_body.rec k d).1) ((impl_joiner_body.rec k d).2.1) ((impl_joiner_body.rec k d).2.2), impl_joiner_col.b k ((impl_joiner_body.rec k d).1) ((impl_joiner_body.rec k d).2.1) ((impl_joiner_body.rec k d).2.2), impl_joiner_repeat.b k ((impl_joiner_body.rec k d).1) ((impl_joiner_body.rec k d).2.1) ((impl_joiner_body.rec k d).2.2))

def impl_joiner_body.d (k d : Nat) : Int → Int → Int → Int → TJoinerB → (List Int) → (List TVal) → Option (Int × TJoinerB × (List Int) × (List TVal)) := (impl_joiner_body.rec k d).1

def impl_joiner_body (k : Nat) : Int → Int → Int → Int → TJoinerB → (List Int) → (List TVal) → Option (Int × TJoinerB × (List Int) × (List TVal)) := impl_joiner_body.d k k

def impl_joiner_col.d (k d : Nat) : Int → Int → Int → Int → TJoinerB → (List Int) → (List TVal) → Option (Int × TJoinerB × (List Int) × (List TVal)) := (impl_joiner_body.rec k d).2.1

def impl_joiner_col (k : Nat) : Int → Int → Int → Int → TJoinerB → (List Int) → (List TVal) → Option (Int × TJoinerB × (List Int) × (List TVal)) := impl_joiner_col.d k k

def impl_joiner_repeat.d (k d : Nat) : Int → Int → Int → Int → TJoinerB → (List Int) → (List TVal) → Option (Int × TJoinerB × (List Int) × (List TVal)) := (impl_joiner_body.rec k d).2.2

def impl_joiner_repeat (k : Nat) : Int → Int → Int → Int → TJoinerB → (List Int) → (List TVal) → Option (Int × TJoinerB × (List Int) × (List TVal)) := impl_joiner_repeat.d k k

def impl_joiner_ended.l2 (k : Nat) : Nat → (List TColumn) → Int → Int → TJoinerB → (List Int) → Option (Bool × TJoinerB × (List Int))
  | 0, _, _, _, _, _ => none
  | n + 1, t8, t9, t10, o0, o10 =>
    cond (decide (t10 < t9))
      ((rdL t8 t10).bind fun y1 =>
       (rdL o10 t10).bind fun y2 =>
       cond (y2 != (List.length y1.1 : Int)) (some (false, (o0, o10))) ((impl_joiner_ended.l2 k n) t8 t9 (IntKind.wrap .i64 (t10 + 1)) o0 o10))
      (some (true, (o0, o10)))

def impl_joiner_ended (k : Nat) (o0 : TJoinerB) (o10 : List Int) : Option (Bool × TJoinerB × (List Int)) :=
  impl_joiner_ended.l2 k k o0.2.1 (List.length o0.2.1 : Int) 0 o0 o10

def impl_Assemble.l15 (k : Nat) : Nat → Int → Int → TJoinerB → (List TRec) → (List Int) → Option ((Unit × Int) × (List TRec))
  | 0, _, _, _, _, _ => none
  | n + 1, t8, t12, o100, o101, o102 =>
    (cond (decide (t12 < t8)) (some (!o100.2.2.2.2.2.1)) (some (false))).bind fun b1 =>
    cond b1
      ((impl_joiner_body k 0 0 0 0 o100 o102 []).bind fun r2 =>
       (cond r2.2.1.2.2.2.2.2.2.1 (some (true)) (some (decide ((List.length r2.2.2.2 : Int) > 300)))).bind fun b3 =>
       cond (lim (List.length o101 + List.length [(r2.2.2.2, ())])) (
       (impl_Assemble.l15 k n) t8 (IntKind.wrap .i64 (t12 + 1)) (r2.2.1.1, r2.2.1.2.1, r2.2.1.2.2.1, (), (), r2.2.1.2.2.2.2.2.1, b3, ()) (o101 ++ [(r2.2.2.2, ())]) r2.2.2.1) none)
      (cond o100.2.2.2.2.2.1
         (cond true (some (((), 3), [])) (cond o100.2.2.2.2.2.2.1 (some (((), 4), [])) (some (((), 0), o101))))
         ((impl_joiner_ended k o100 o102).bind fun r4 =>
          cond (!r4.1) (some (((), 3), [])) (cond r4.2.1.2.2.2.2.2.2.1 (some (((), 4), [])) (some (((), 0), o101)))))

def impl_Assemble.d12 (k : Nat) (t0 : List TCol) (t1 : List TColumn) (t8 : Int) : Option ((Unit × Int) × (List TRec)) :=
  (impl_leafNumbers k t0).bind fun r5 =>
  cond (okLen (List.length t1 : Int)) (
  impl_Assemble.l15 k k t8 0 (t0, t1, r5.2, (), (), false, false, ()) [] (List.replicate (Int.toNat (List.length t1 : Int)) 0)) none

def impl_Assemble.l4 (k : Nat) : Nat → (List TCol) → (List TColumn) → (List TColumn) → Int → Int → Option ((Unit × Int) × (List TRec))
  | 0, _, _, _, _, _ => none
  | n + 1, t0, t1, t24, t25, t26 =>
    cond (decide (t26 < t25))
      ((rdL t24 t26).bind fun y8 =>
       (impl_TriplesOk k t0 t26 y8.1).bind fun r9 =>
       cond (!r9) (some (((), 1), [])) ((impl_Assemble.l4 k n) t0 t1 t24 t25 (IntKind.wrap .i64 (t26 + 1))))
      ((impl_rowsAlike k t1).bind fun r10 => cond (!r10.2) (some (((), 2), [])) (impl_Assemble.d12 k t0 t1 r10.1))

def impl_Assemble (k : Nat) (t0 : List TCol) (t1 : List TColumn) : Option ((Unit × Int) × (List TRec)) :=
  (impl_SchemaOk k t0).bind fun r11 =>
  (cond (!r11) (some (true)) ((impl_leavesOf k t0).bind fun r12 => some ((List.length t1 : Int) != (List.length r12.2 : Int)))).bind fun b13 =>
  cond b13 (some (((), 1), [])) (impl_Assemble.l4 k k t0 t1 t1 (List.length t1 : Int) 0)

def laws_sameVals.l4 (k : Nat) : Nat → (List TVal) → (List TVal) → Int → Option Bool
  | 0, _, _, _ => none
  | n + 1, t0, t1, t5 =>
    cond (decide (t5 < (List.length t0 : Int)))
      ((rdL t0 t5).bind fun y1 =>
       (rdL t1 t5).bind fun y2 =>
       cond (!(((y1.1 == y2.1) && (eqS y1.2.1 y2.2.1 && true)))) (some false) ((laws_sameVals.l4 k n) t0 t1 (IntKind.wrap .i64 (t5 + 1))))
      (some true)

def laws_sameVals (k : Nat) (t0 : List TVal) (t1 : List TVal) : Option Bool :=
  cond ((List.length t0 : Int) != (List.length t1 : Int)) (some false) (laws_sameVals.l4 k k t0 t1 0)

def laws_sameRecs.l4 (k : Nat) : Nat → (List TRec) → (List TRec) → Int → Option Bool
  | 0, _, _, _ => none
  | n + 1, t0, t1, t5 =>
    cond (decide (t5 < (List.length t0 : Int)))
      ((rdL t0 t5).bind fun y1 =>
       (rdL t1 t5).bind fun y2 =>
       (laws_sameVals k y1.1 y2.1).bind fun r3 => cond (!r3) (some false) ((laws_sameRecs.l4 k n) t0 t1 (IntKind.wrap .i64 (t5 + 1))))
      (some true)

def laws_sameRecs (k : Nat) (t0 : List TRec) (t1 : List TRec) : Option Bool :=
  cond ((List.length t0 : Int) != (List.length t1 : Int)) (some false) (laws_sameRecs.l4 k k t0 t1 0)

def laws_FnShred.l11 (k : Nat) : Nat → (List TCol) → (List TRec) → Int → (List TColumn) → Option Bool
  | 0, _, _, _, _ => none
  | n + 1, t3, t4, t9, o100 =>
    cond (decide (t9 < (List.length o100 : Int)))
      ((rdL o100 t9).bind fun y1 =>
       (impl_RowsOf k y1.1).bind fun r2 =>
       (cond (r2 != (List.length t4 : Int)) (some (true)) ((rdL o100 t9).bind fun y3 => (impl_TriplesOk k t3 t9 y3.1).bind fun r4 => some (!r4))).bind fun b5 =>
       cond b5 (some false) ((laws_FnShred.l11 k n) t3 t4 (IntKind.wrap .i64 (t9 + 1)) o100))
      ((impl_Assemble k t3 o100).bind fun r6 =>
       (cond (r6.1.2 == 0) ((laws_sameRecs k r6.2 t4).bind fun r7 => some (r7)) (some (false))).bind fun b8 => some b8)

def laws_FnShred (k : Nat) (t0 : List Int) : Option Bool :=
  (laws_big k t0).bind fun r9 =>
  cond r9
    (some true)
    ((spec_DrawShred k t0).bind fun r10 =>
     (impl_Shred k r10.1.1 r10.2).bind fun r11 =>
     (spec_Shred k r10.1.1 r10.2).bind fun r12 =>
     cond (!(r11.1.2 == r12.1.2)) (some false) (cond (!r11.1.2) (some ((List.length r11.2 : Int) == 0)) (laws_FnShred.l11 k k r10.1.1 r10.2 0 r11.2)))

def spec_SchemaLeaves (k : Nat) (t0 : List TCol) : Option (Unit × (List Int)) :=
  (spec_SchemaOk k t0).bind fun r1 => cond (!r1) (some ((), [])) ((spec_l5Leaves k t0).bind fun r2 => some ((), r2.2))

def spec_l5Way.c4 (k : Nat) (L3 : (List TCol) → Int → Int → (List Int) → Option (Unit × (List Int))) (t0 : List TCol) (t1 : Int) (t6 : Int) (o100 : List Int) : Option (Unit × (List Int)) :=
  L3 t0 t1 (IntKind.wrap .i64 (t6 + 1)) o100

def spec_l5Way.l3 (k : Nat) : Nat → (List TCol) → Int → Int → (List Int) → Option (Unit × (List Int))
  | 0, _, _, _, _ => none
  | n + 1, t0, t1, t6, o100 =>
    cond (decide (t6 ≤ t1))
      ((spec_l5After k t0 t6).bind fun r1 =>
       cond (decide (r1 > t1))
         (cond (lim (List.length o100 + List.length [t6])) (spec_l5Way.c4 k (spec_l5Way.l3 k n) t0 t1 t6 (o100 ++ [t6])) none)
         (spec_l5Way.c4 k (spec_l5Way.l3 k n) t0 t1 t6 o100))
      (some ((), o100))

def spec_l5Way (k : Nat) (t0 : List TCol) (t1 : Int) : Option (Unit × (List Int)) :=
  spec_l5Way.l3 k k t0 t1 0 []

def spec_l5Max.c5 (k : Nat) (L4 : (List TCol) → Int → Int → Int → (List Int) → Option (Int × Int)) (t0 : List TCol) (t6 : Int) (t7 : Int) (t9 : Int) (o100 : List Int) : Option (Int × Int) :=
  L4 t0 t6 t7 (IntKind.wrap .i64 (t9 + 1)) o100

def spec_l5Max.c8 (k : Nat) (L4 : (List TCol) → Int → Int → Int → (List Int) → Option (Int × Int)) (t0 : List TCol) (t6 : Int) (t7 : Int) (t9 : Int) (o100 : List Int) : Option (Int × Int) :=
  (rdL o100 t9).bind fun y1 =>
  (rdL t0 y1).bind fun y2 =>
  cond (y2.2.2.1 == 2) (spec_l5Max.c5 k L4 t0 t6 (IntKind.wrap .i64 (t7 + 1)) t9 o100) (spec_l5Max.c5 k L4 t0 t6 t7 t9 o100)

def spec_l5Max.l4 (k : Nat) : Nat → (List TCol) → Int → Int → Int → (List Int) → Option (Int × Int)
  | 0, _, _, _, _, _ => none
  | n + 1, t0, t6, t7, t9, o100 =>
    cond (decide (t9 < (List.length o100 : Int)))
      ((rdL o100 t9).bind fun y3 =>
       (rdL t0 y3).bind fun y4 =>
       cond (y4.2.2.1 != 0)
         (spec_l5Max.c8 k (spec_l5Max.l4 k n) t0 (IntKind.wrap .i64 (t6 + 1)) t7 t9 o100)
         (spec_l5Max.c8 k (spec_l5Max.l4 k n) t0 t6 t7 t9 o100))
      (some (t6, t7))

def spec_l5Max (k : Nat) (t0 : List TCol) (t1 : Int) : Option (Int × Int) :=
  (spec_l5Way k t0 t1).bind fun r5 => spec_l5Max.l4 k k t0 0 0 0 r5.2

def spec_LeafOf (k : Nat) (t0 : List TCol) (t1 : Int) : Option (TLeaf × Bool) :=
  (spec_SchemaLeaves k t0).bind fun r1 =>
  (spec_l1In k t1 0 (IntKind.wrap .i64 ((List.length r1.2 : Int) - 1))).bind fun r2 =>
  cond (!r2)
    (some ((0, 0, 0, ()), false))
    ((rdL r1.2 t1).bind fun y3 =>
     (spec_l5Max k t0 y3).bind fun r4 => (rdL r1.2 t1).bind fun y5 => (rdL t0 y5).bind fun y6 => some ((y6.2.1, r4.2, r4.1, ()), true))

def spec_l15Right (k : Nat) (t0 : TLeaf) (t1 : TTriple) : Option Bool :=
  (spec_l1In k t1.1 0 t0.2.1).bind fun r1 =>
  (cond (!r1) (some (true)) ((spec_l1In k t1.2.1 0 t0.2.2.1).bind fun r2 => some (!r2))).bind fun b3 =>
  cond b3
    (some false)
    (cond (decide (t1.2.1 < t0.2.2.1))
       (some ((t1.2.2.1.1 == 0) && (eqS t1.2.2.1.2.1 (⟨#[]⟩ : ByteArray) && true)))
       ((spec_ValOk k t0.1 t1.2.2.1).bind fun r4 => some r4))

def spec_TriplesOk.l5 (k : Nat) : Nat → (List TTriple) → Int → TLeaf → Option Bool
  | 0, _, _, _ => none
  | n + 1, t2, t9, o100 =>
    cond (decide (t9 < (List.length t2 : Int)))
      ((rdL t2 t9).bind fun y1 =>
       (spec_l15Right k o100 y1).bind fun r2 => cond (!r2) (some false) ((spec_TriplesOk.l5 k n) t2 (IntKind.wrap .i64 (t9 + 1)) o100))
      (some true)

def spec_TriplesOk (k : Nat) (t0 : List TCol) (t1 : Int) (t2 : List TTriple) : Option Bool :=
  (spec_LeafOf k t0 t1).bind fun r3 =>
  (cond (!r3.2) (some (true)) (some (decide ((List.length t2 : Int) > 2000)))).bind fun b4 =>
  (cond b4
     (some (true))
     ((cond (decide ((List.length t2 : Int) > 0)) ((rdL t2 0).bind fun y5 => some (y5.1 != 0)) (some (false))).bind fun b6 => some (b6))).bind fun b7 =>
  cond b7 (some false) (spec_TriplesOk.l5 k k t2 0 r3.1)

def spec_RowsOf.c4 (k : Nat) (L3 : (List TTriple) → Int → Int → Option Int) (t0 : List TTriple) (t3 : Int) (t4 : Int) : Option Int :=
  L3 t0 t3 (IntKind.wrap .i64 (t4 + 1))

def spec_RowsOf.l3 (k : Nat) : Nat → (List TTriple) → Int → Int → Option Int
  | 0, _, _, _ => none
  | n + 1, t0, t3, t4 =>
    cond (decide (t4 < (List.length t0 : Int)))
      ((rdL t0 t4).bind fun y1 =>
       cond (y1.1 == 0) (spec_RowsOf.c4 k (spec_RowsOf.l3 k n) t0 (IntKind.wrap .i64 (t3 + 1)) t4) (spec_RowsOf.c4 k (spec_RowsOf.l3 k n) t0 t3 t4))
      (some t3)

def spec_RowsOf (k : Nat) (t0 : List TTriple) : Option Int :=
  spec_RowsOf.l3 k k t0 0 0

def spec_l14Take (k : Nat) (t0 : List TColumn) (t1 : Int) (t3 : Int) (t4 : Int) (o10 : List Int) : Option (Bool × (List Int)) :=
  (rdL o10 t1).bind fun y1 =>
  (rdL t0 t1).bind fun y2 =>
  (cond (decide (y1 ≥ (List.length y2.1 : Int)))
     (some (true))
     ((rdL t0 t1).bind fun y3 => (rdL o10 t1).bind fun y4 => (rdL y3.1 y4).bind fun y5 => some (y5.1 != t3))).bind fun b6 =>
  (cond b6 (some (true)) ((rdL t0 t1).bind fun y7 => (rdL o10 t1).bind fun y8 => (rdL y7.1 y8).bind fun y9 => some (y9.2.1 != t4))).bind fun b10 =>
  cond b10
    (some (false, o10))
    ((rdL o10 t1).bind fun y11 =>
     (rdL o10 t1).bind fun y12 => (rdL o10 t1).bind fun y13 => some (true, List.set o10 (Int.toNat t1) (IntKind.wrap .i64 (y11 + 1))))

def spec_l14Fill.l8 (k : Nat) (S227 : (List TCol) → Int → (List TColumn) → Int → Int → Int → (List Int) → (List TVal) → Option ((Unit × Bool) × (List Int) × (List TVal))) : Nat → (List TCol) → Int → (List TColumn) → Int → Int → Int → Int → Int → (List Int) → (List TVal) → Option ((Unit × Bool) × (List Int) × (List TVal))
  | 0, _, _, _, _, _, _, _, _, _, _ => none
  | n + 1, t0, t1, t2, t4, t5, t6, t19, t20, o10, o100 =>
    (rdL t0 t1).bind fun y1 =>
    cond (decide (t20 < y1.2.2.2.1))
      ((S227 t0 t19 t2 t4 t5 t6 o10 o100).bind fun r2 =>
       cond (!r2.1.2)
         (some (((), false), (r2.2.1, r2.2.2)))
         ((spec_l5After k t0 t19).bind fun r3 => (spec_l14Fill.l8 k S227 n) t0 t1 t2 t4 t5 t6 r3 (IntKind.wrap .i64 (t20 + 1)) r2.2.1 r2.2.2))
      (some (((), true), (o10, o100)))

def spec_l14Fill.d5 (k : Nat) (t2 : List TColumn) (t18 : Int) (o10 : List Int) (o11 : List TVal) : Option ((Unit × Bool) × (List Int) × (List TVal)) :=
  (rdL t2 t18).bind fun y4 =>
  (rdL o10 t18).bind fun y5 =>
  (rdL y4.1 (IntKind.wrap .i64 (y5 - 1))).bind fun y6 =>
  cond (lim (List.length o11 + List.length [y6.2.2.1])) (some (((), true), (o10, o11 ++ [y6.2.2.1]))) none

def spec_l14Fill.b (k : Nat) (S119 : (List TCol) → Int → (List TColumn) → Int → Int → Int → (List Int) → (List TVal) → Option ((Unit × Bool) × (List Int) × (List TVal))) (S227 : (List TCol) → Int → (List TColumn) → Int → Int → Int → (List Int) → (List TVal) → Option ((Unit × Bool) × (List Int) × (List TVal))) (t0 : List TCol) (t1 : Int) (t2 : List TColumn) (t4 : Int) (t5 : Int) (t6 : Int) (o10 : List Int) (o11 : List TVal) : Option ((Unit × Bool) × (List Int) × (List TVal)) :=
  (rdL t0 t1).bind fun y13 =>
  cond (y13.2.1 != 7)
    ((spec_l14Leaf k t0 t1).bind fun r14 =>
     (spec_l14Take k t2 r14 t4 t5 o10).bind fun r15 => cond (!r15.1) (some (((), false), (r15.2, o11))) (spec_l14Fill.d5 k t2 r14 r15.2 o11))
    (spec_l14Fill.l8 k S227 k t0 t1 t2 t4 t5 t6 (IntKind.wrap .i64 (t1 + 1)) 0 o10 o11)

def spec_l14Build.l18 (k : Nat) (S119 : (List TCol) → Int → (List TColumn) → Int → Int → Int → (List Int) → (List TVal) → Option ((Unit × Bool) × (List Int) × (List TVal))) : Nat → (List TCol) → Int → (List TColumn) → Int → Int → Int → Int → Int → Bool → (List Int) → (List TVal) → Option ((Unit × Bool) × (List Int) × (List TVal))
  | 0, _, _, _, _, _, _, _, _, _, _, _ => none
  | n + 1, t0, t1, t2, t4, t5, t6, t18, t19, t21, o10, o100 =>
    cond t21
      ((rdL o100 t19).bind fun y1 =>
       (rdL o100 t19).bind fun y2 =>
       (rdL o100 t19).bind fun y3 =>
       (S119 t0 t1 t2 t4 (IntKind.wrap .i64 (t5 + 1)) t6 o10 (List.set o100 (Int.toNat t19) (IntKind.wrap .i64 (y1.1 + 1), y3.2.1, ()))).bind fun r4 =>
       cond (!r4.1.2)
         (some (((), false), (r4.2.1, r4.2.2)))
         ((rdL t0 t1).bind fun y5 =>
          (cond (y5.2.2.1 == 2)
             ((rdL r4.2.1 t18).bind fun y6 => (rdL t2 t18).bind fun y7 => some (decide (y6 < (List.length y7.1 : Int))))
             (some (false))).bind fun b8 =>
          (cond b8 ((rdL t2 t18).bind fun y9 => (rdL r4.2.1 t18).bind fun y10 => (rdL y9.1 y10).bind fun y11 => some (y11.1 == t6)) (some (false))).bind fun b12 =>
          (spec_l14Build.l18 k S119 n) t0 t1 t2 t6 t5 t6 t18 t19 b12 r4.2.1 r4.2.2))
      (some (((), true), (o10, o100)))

def spec_l14Build.c17 (k : Nat) (S119 : (List TCol) → Int → (List TColumn) → Int → Int → Int → (List Int) → (List TVal) → Option ((Unit × Bool) × (List Int) × (List TVal))) (t0 : List TCol) (t1 : Int) (t2 : List TColumn) (t4 : Int) (t5 : Int) (t6 : Int) (t18 : Int) (t19 : Int) (o10 : List Int) (o100 : List TVal) : Option ((Unit × Bool) × (List Int) × (List TVal)) :=
  spec_l14Build.l18 k S119 k t0 t1 t2 t4 t5 t6 t18 t19 true o10 o100

def spec_l14Build.l10 (k : Nat) : Nat → (List TCol) → Int → (List TColumn) → Int → Int → Int → (List Int) → (List TVal) → Option ((Unit × Bool) × (List Int) × (List TVal))
  | 0, _, _, _, _, _, _, _, _ => none
  | n + 1, t0, t1, t2, t4, t5, t20, o10, o100 =>
    (spec_l5After k t0 t1).bind fun r13 =>
    (spec_l14Leaf k t0 r13).bind fun r14 =>
    cond (decide (t20 < r14))
      ((spec_l14Take k t2 t20 t4 t5 o10).bind fun r15 =>
       cond (!r15.1) (some (((), false), (r15.2, o100))) ((spec_l14Build.l10 k n) t0 t1 t2 t4 t5 (IntKind.wrap .i64 (t20 + 1)) r15.2 o100))
      (some (((), true), (o10, o100)))

def spec_l14Build.b (k : Nat) (S119 : (List TCol) → Int → (List TColumn) → Int → Int → Int → (List Int) → (List TVal) → Option ((Unit × Bool) × (List Int) × (List TVal))) (S227 : (List TCol) → Int → (List TColumn) → Int → Int → Int → (List Int) → (List TVal) → Option ((Unit × Bool) × (List Int) × (List TVal))) (t0 : List TCol) (t1 : Int) (t2 : List TColumn) (t4 : Int) (t5 : Int) (t6 : Int) (o10 : List Int) (o11 : List TVal) : Option ((Unit × Bool) × (List Int) × (List TVal)) :=
  (rdL t0 t1).bind fun y16 =>
  cond (y16.2.2.1 == 0)
    ((S119 t0 t1 t2 t4 t5 t6 o10 o11).bind fun r17 => some (((), r17.1.2), (r17.2.1, r17.2.2)))
    ((spec_l14Leaf k t0 t1).bind fun r18 =>
     (rdL o10 r18).bind fun y19 =>
     (rdL t2 r18).bind fun y20 =>
     cond (decide (y19 ≥ (List.length y20.1 : Int)))
       (some (((), false), (o10, o11)))
       (cond (lim (List.length o11 + List.length ([(0, (⟨#[]⟩ : ByteArray), ())] : List TVal))) (
        (rdL t2 r18).bind fun y21 =>
        (rdL o10 r18).bind fun y22 =>
        (rdL y21.1 y22).bind fun y23 =>
        cond (decide (y23.2.1 ≤ t5))
          (spec_l14Build.l10 k k t0 t1 t2 t4 t5 r18 o10 (o11 ++ [(0, (⟨#[]⟩ : ByteArray), ())]))
          ((rdL t0 t1).bind fun y24 =>
           cond (y24.2.2.1 == 2)
             (spec_l14Build.c17 k S119 t0 t1 t2 t4 t5 (IntKind.wrap .i64 (t6 + 1)) r18 (List.length o11 : Int) o10 (o11 ++ [(0, (⟨#[]⟩ : ByteArray), ())]))
             (spec_l14Build.c17 k S119 t0 t1 t2 t4 t5 t6 r18 (List.length o11 : Int) o10 (o11 ++ [(0, (⟨#[]⟩ : ByteArray), ())])))) none))

def spec_l14Fill.rec (k : Nat) : Nat → ((List TCol) → Int → (List TColumn) → Int → Int → Int → (List Int) → (List TVal) → Option ((Unit × Bool) × (List Int) × (List TVal))) × ((List TCol) → Int → (List TColumn) → Int → Int → Int → (List Int) → (List TVal) → Option ((Unit × Bool) × (List Int) × (List TVal)))
  | 0 => (fun _ _ _ _ _ _ _ _ => none, fun _ _ _ _ _ _ _ _ => none)
  | d + 1 => (spec_l14Fill.b k ((spec_l14Fill.rec k d).1) ((spec_l14Fill.rec k d).2), spec_l14Build.b k ((spec_l14Fill.rec k d).1) ((spec_l14Fill.rec k d).2))

def spec_l14Fill.d (k d : Nat) : (List TCol) → Int → (List TColumn) → Int → Int → Int → (List Int) → (List TVal) → Option ((Unit × Bool) × (List Int) × (List TVal)) := (spec_l14Fill.rec k d).1

def spec_l14Fill (k : Nat) : (List TCol) → Int → (List TColumn) → Int → Int → Int → (List Int) → (List TVal) → Option ((Unit × Bool) × (List Int) × (List TVal)) := spec_l14Fill.d k k

def spec_l14Build.d (k d : Nat) : (List TCol) → Int → (List TColumn) → Int → Int → Int → (List Int) → (List TVal) → Option ((Unit × Bool) × (List Int) × (List TVal)) := (spec_l14Fill.rec k d).2

def spec_l14Build (k : Nat) : (List TCol) → Int → (List TColumn) → Int → Int → Int → (List Int) → (List TVal) → Option ((Unit × Bool) × (List Int) × (List TVal)) := spec_l14Build.d k k

def spec_Assemble.l29 (k : Nat) : Nat → (List TCol) → Int → (List TRec) → Option ((Unit × Int) × (List TRec))
  | 0, _, _, _ => none
  | n + 1, t0, t15, o100 =>
    cond (decide (t15 < (List.length o100 : Int)))
      ((rdL o100 t15).bind fun y1 =>
       (spec_RecOk k t0 y1).bind fun r2 => cond (!r2) (some (((), 4), [])) ((spec_Assemble.l29 k n) t0 (IntKind.wrap .i64 (t15 + 1)) o100))
      (some (((), 0), o100))

def spec_Assemble.l24 (k : Nat) : Nat → (List TCol) → (List TColumn) → Int → (List TRec) → (List Int) → Option ((Unit × Int) × (List TRec))
  | 0, _, _, _, _, _ => none
  | n + 1, t0, t1, t14, o100, o101 =>
    cond (decide (t14 < (List.length t1 : Int)))
      ((rdL o101 t14).bind fun y3 =>
       (rdL t1 t14).bind fun y4 =>
       cond (y3 != (List.length y4.1 : Int)) (some (((), 3), [])) ((spec_Assemble.l24 k n) t0 t1 (IntKind.wrap .i64 (t14 + 1)) o100 o101))
      (spec_Assemble.l29 k k t0 0 o100)

def spec_Assemble.l17 (k : Nat) : Nat → (List TCol) → (List TColumn) → Int → Int → (List TRec) → (List Int) → Option ((Unit × Int) × (List TRec))
  | 0, _, _, _, _, _, _ => none
  | n + 1, t0, t1, t8, t11, o100, o101 =>
    cond (decide (t11 < t8))
      ((spec_l14Fill k t0 0 t1 0 0 0 o101 []).bind fun r5 =>
       cond (!r5.1.2)
         (some (((), 3), []))
         (cond (lim (List.length o100 + List.length [(r5.2.2, ())])) (
          (spec_Assemble.l17 k n) t0 t1 t8 (IntKind.wrap .i64 (t11 + 1)) (o100 ++ [(r5.2.2, ())]) r5.2.1) none))
      (spec_Assemble.l24 k k t0 t1 0 o100 o101)

def spec_Assemble.l11 (k : Nat) : Nat → (List TCol) → (List TColumn) → Int → Int → (List TRec) → Option ((Unit × Int) × (List TRec))
  | 0, _, _, _, _, _ => none
  | n + 1, t0, t1, t8, t9, o100 =>
    cond (decide (t9 < (List.length t1 : Int)))
      ((rdL t1 t9).bind fun y6 =>
       (spec_RowsOf k y6.1).bind fun r7 =>
       (cond (r7 != t8) (some (true)) (some (decide (t8 > 200)))).bind fun b8 =>
       cond b8 (some (((), 2), o100)) ((spec_Assemble.l11 k n) t0 t1 t8 (IntKind.wrap .i64 (t9 + 1)) o100))
      (cond (okLen (List.length t1 : Int)) (spec_Assemble.l17 k k t0 t1 t8 0 o100 (List.replicate (Int.toNat (List.length t1 : Int)) 0)) none)

def spec_Assemble.l5 (k : Nat) : Nat → (List TCol) → (List TColumn) → Int → (List TRec) → Option ((Unit × Int) × (List TRec))
  | 0, _, _, _, _ => none
  | n + 1, t0, t1, t7, o100 =>
    cond (decide (t7 < (List.length t1 : Int)))
      ((rdL t1 t7).bind fun y9 =>
       (spec_TriplesOk k t0 t7 y9.1).bind fun r10 =>
       cond (!r10) (some (((), 1), o100)) ((spec_Assemble.l5 k n) t0 t1 (IntKind.wrap .i64 (t7 + 1)) o100))
      ((rdL t1 0).bind fun y11 => (spec_RowsOf k y11.1).bind fun r12 => spec_Assemble.l11 k k t0 t1 r12 0 o100)

def spec_Assemble (k : Nat) (t0 : List TCol) (t1 : List TColumn) : Option ((Unit × Int) × (List TRec)) :=
  (spec_SchemaOk k t0).bind fun r13 =>
  (cond (!r13) (some (true)) ((spec_l5Leaves k t0).bind fun r14 => some ((List.length t1 : Int) != (List.length r14.2 : Int)))).bind fun b15 =>
  cond b15 (some (((), 1), [])) (spec_Assemble.l5 k k t0 t1 0 [])

def impl_RecOk_1 (k : Nat) (t0 : Int) (t1 : Int) (t2 : Int) (t3 : TVal) : Option Unit :=
  some ()

def impl_walker_next_of_RecOk_1_RecOk_2 (k : Nat) (o0 : TWalker) : Option ((TVal) × TWalker) :=
  (cond o0.2.2.1 (some (true)) (some ((List.length o0.2.1 : Int) == 0))).bind fun b1 =>
  cond b1
    (some ((0, (⟨#[]⟩ : ByteArray), ()), (o0.1, o0.2.1, true, (()), (()), ())))
    ((rdL o0.2.1 0).bind fun y2 =>
     cond (inSl 1 ((List.length o0.2.1) : Int) (List.length o0.2.1)) (
     some (y2, (o0.1, cutL o0.2.1 1 ((List.length o0.2.1) : Int), o0.2.2.1, (()), (()), ()))) none)

def impl_walker_count_of_RecOk_1_RecOk_2 (k : Nat) (t1 : Int) (o0 : TWalker) : Option (Int × TWalker) :=
  (impl_walker_next_of_RecOk_1_RecOk_2 k (o0.1, o0.2.1, o0.2.2.1, (()), (()), ())).bind fun r1 =>
  (cond (!eqS r1.1.2.1 (⟨#[]⟩ : ByteArray)) (some (true)) ((impl_within k r1.1.1 0 t1).bind fun r2 => some (!r2))).bind fun b3 =>
  cond b3 (some (0, (r1.2.1, r1.2.2.1, true, (()), (()), ()))) (some (r1.1.1, (r1.2.1, r1.2.2.1, r1.2.2.2.1, (()), (()), ())))

def impl_RecOk_2 (k : Nat) (t0 : Int) (t1 : Int) (t2 : Int) : Option Unit :=
  some ()

def impl_walker_missing_of_RecOk_1_RecOk_2.c4 (k : Nat) (L3 : Int → Int → Int → Int → TWalker → Option (Int × TWalker)) (t2 : Int) (t3 : Int) (t9 : Int) (t10 : Int) (o0 : TWalker) : Option (Int × TWalker) :=
  L3 t2 t3 t9 (IntKind.wrap .i64 (t10 + 1)) (o0.1, o0.2.1, o0.2.2.1, (()), (()), ())

def impl_walker_missing_of_RecOk_1_RecOk_2.l3 (k : Nat) : Nat → Int → Int → Int → Int → TWalker → Option (Int × TWalker)
  | 0, _, _, _, _, _ => none
  | n + 1, t2, t3, t9, t10, o0 =>
    cond (decide (t10 < t9))
      ((rdL o0.1 t10).bind fun y1 =>
       cond (y1.2.1 != 7)
         ((impl_RecOk_2 k t10 t2 t3).bind fun r2 =>
          impl_walker_missing_of_RecOk_1_RecOk_2.c4 k (impl_walker_missing_of_RecOk_1_RecOk_2.l3 k n) t2 t3 t9 t10 (o0.1, o0.2.1, o0.2.2.1, (()), (()), ()))
         (impl_walker_missing_of_RecOk_1_RecOk_2.c4 k (impl_walker_missing_of_RecOk_1_RecOk_2.l3 k n) t2 t3 t9 t10 (o0.1, o0.2.1, o0.2.2.1, (()), (()), ())))
      (some (t9, (o0.1, o0.2.1, o0.2.2.1, (()), (()), ())))

def impl_walker_missing_of_RecOk_1_RecOk_2 (k : Nat) (t1 : Int) (t2 : Int) (t3 : Int) (o0 : TWalker) : Option (Int × TWalker) :=
  (impl_colAfter k o0.1 t1 1).bind fun r3 => impl_walker_missing_of_RecOk_1_RecOk_2.l3 k k t2 t3 r3 t1 (o0.1, o0.2.1, o0.2.2.1, (()), (()), ())

def impl_walker_body_of_RecOk_1_RecOk_2.c14 (k : Nat) (t12 : Int) (o0 : TWalker) : Option (Int × TWalker) :=
  some (t12, (o0.1, o0.2.1, o0.2.2.1, (()), (()), ()))

def impl_walker_body_of_RecOk_1_RecOk_2.l10 (k : Nat) (S287i8 : Int → Int → Int → Int → TWalker → Option (Int × TWalker)) : Nat → Int → Int → Int → Int → Int → Int → TWalker → Option (Int × TWalker)
  | 0, _, _, _, _, _, _, _ => none
  | n + 1, t2, t3, t4, t12, t70, t71, o0 =>
    cond (decide (t71 < t70))
      (cond o0.2.2.1
         (impl_walker_body_of_RecOk_1_RecOk_2.c14 k t12 (o0.1, o0.2.1, o0.2.2.1, (()), (()), ()))
         ((S287i8 t12 t2 t3 t4 (o0.1, o0.2.1, o0.2.2.1, (()), (()), ())).bind fun r1 =>
          (impl_walker_body_of_RecOk_1_RecOk_2.l10 k S287i8 n) t2 t3 t4 r1.1 t70 (IntKind.wrap .i64 (t71 + 1)) (r1.2.1, r1.2.2.1, r1.2.2.2.1, (()), (()), ())))
      (impl_walker_body_of_RecOk_1_RecOk_2.c14 k t12 (o0.1, o0.2.1, o0.2.2.1, (()), (()), ()))

def impl_walker_body_of_RecOk_1_RecOk_2.c7 (k : Nat) (t1 : Int) (o0 : TWalker) : Option (Int × TWalker) :=
  some (IntKind.wrap .i64 (t1 + 1), (o0.1, o0.2.1, o0.2.2.1, (()), (()), ()))

def impl_walker_body_of_RecOk_1_RecOk_2.c5 (k : Nat) (t1 : Int) (t2 : Int) (t3 : Int) (o0 : TWalker) (o100 : TVal) : Option (Int × TWalker) :=
  cond (!o0.2.2.1)
    ((impl_RecOk_1 k t1 t2 t3 o100).bind fun r2 => impl_walker_body_of_RecOk_1_RecOk_2.c7 k t1 (o0.1, o0.2.1, o0.2.2.1, (()), (()), ()))
    (impl_walker_body_of_RecOk_1_RecOk_2.c7 k t1 (o0.1, o0.2.1, o0.2.2.1, (()), (()), ()))

def impl_walker_body_of_RecOk_1_RecOk_2.d3 (k : Nat) (t1 : Int) (t2 : Int) (t3 : Int) (o0 : TWalker) (o100 : TVal) : Option (Int × TWalker) :=
  cond (!o0.2.2.1)
    ((rdL o0.1 t1).bind fun y3 =>
     (impl_ValOk k y3.2.1 o100).bind fun r4 =>
     cond (!r4)
       (impl_walker_body_of_RecOk_1_RecOk_2.c5 k t1 t2 t3 (o0.1, o0.2.1, true, (()), (()), ()) o100)
       (impl_walker_body_of_RecOk_1_RecOk_2.c5 k t1 t2 t3 (o0.1, o0.2.1, o0.2.2.1, (()), (()), ()) o100))
    (cond false
       (impl_walker_body_of_RecOk_1_RecOk_2.c5 k t1 t2 t3 (o0.1, o0.2.1, true, (()), (()), ()) o100)
       (impl_walker_body_of_RecOk_1_RecOk_2.c5 k t1 t2 t3 (o0.1, o0.2.1, o0.2.2.1, (()), (()), ()) o100))

def impl_walker_body_of_RecOk_1_RecOk_2.b (k : Nat) (S185i4 : Int → Int → Int → Int → TWalker → Option (Int × TWalker)) (S287i8 : Int → Int → Int → Int → TWalker → Option (Int × TWalker)) (t1 : Int) (t2 : Int) (t3 : Int) (t4 : Int) (o0 : TWalker) : Option (Int × TWalker) :=
  (rdL o0.1 t1).bind fun y7 =>
  cond (y7.2.1 != 7)
    ((impl_walker_next_of_RecOk_1_RecOk_2 k (o0.1, o0.2.1, o0.2.2.1, (()), (()), ())).bind fun r8 =>
     impl_walker_body_of_RecOk_1_RecOk_2.d3 k t1 t2 t3 (r8.2.1, r8.2.2.1, r8.2.2.2.1, (()), (()), ()) r8.1)
    ((rdL o0.1 t1).bind fun y9 =>
     impl_walker_body_of_RecOk_1_RecOk_2.l10 k S287i8 k t2 t3 t4 (IntKind.wrap .i64 (t1 + 1)) y9.2.2.2.1 0 (o0.1, o0.2.1, o0.2.2.1, (()), (()), ()))

def impl_walker_col_of_RecOk_1_RecOk_2.c18 (k : Nat) (S185i4 : Int → Int → Int → Int → TWalker → Option (Int × TWalker)) (t1 : Int) (t2 : Int) (t3 : Int) (t4 : Int) (o0 : TWalker) : Option (Int × TWalker) :=
  (S185i4 t1 t2 t3 t4 (o0.1, o0.2.1, o0.2.2.1, (()), (()), ())).bind fun r1 => some (r1.1, (r1.2.1, r1.2.2.1, r1.2.2.2.1, (()), (()), ()))

def impl_walker_col_of_RecOk_1_RecOk_2.l14 (k : Nat) (S185i4 : Int → Int → Int → Int → TWalker → Option (Int × TWalker)) : Nat → Int → Int → Int → Int → Int → TWalker → Option (Int × TWalker)
  | 0, _, _, _, _, _, _ => none
  | n + 1, t1, t3, t4, t12, t13, o0 =>
    (cond (decide (t13 < t12)) (some (!o0.2.2.1)) (some (false))).bind fun b2 =>
    cond b2
      ((S185i4 t1 t4 (IntKind.wrap .i64 (t3 + 1)) t4 (o0.1, o0.2.1, o0.2.2.1, (()), (()), ())).bind fun r3 =>
       (impl_walker_col_of_RecOk_1_RecOk_2.l14 k S185i4 n) t1 t3 t4 t12 (IntKind.wrap .i64 (t13 + 1)) (r3.2.1, r3.2.2.1, r3.2.2.2.1, (()), (()), ()))
      ((impl_colAfter k o0.1 t1 1).bind fun r4 => some (r4, (o0.1, o0.2.1, o0.2.2.1, (()), (()), ())))

def impl_walker_col_of_RecOk_1_RecOk_2.b (k : Nat) (S185i4 : Int → Int → Int → Int → TWalker → Option (Int × TWalker)) (S287i8 : Int → Int → Int → Int → TWalker → Option (Int × TWalker)) (t1 : Int) (t2 : Int) (t3 : Int) (t4 : Int) (o0 : TWalker) : Option (Int × TWalker) :=
  (rdL o0.1 t1).bind fun y5 =>
  cond (y5.2.2.1 == 1)
    ((impl_walker_count_of_RecOk_1_RecOk_2 k 1 (o0.1, o0.2.1, o0.2.2.1, (()), (()), ())).bind fun r6 =>
     cond (r6.1 == 0)
       ((impl_walker_missing_of_RecOk_1_RecOk_2 k t1 t2 t3 (r6.2.1, r6.2.2.1, r6.2.2.2.1, (()), (()), ())).bind fun r7 =>
        some (r7.1, (r7.2.1, r7.2.2.1, r7.2.2.2.1, (()), (()), ())))
       (impl_walker_col_of_RecOk_1_RecOk_2.c18 k S185i4 t1 t2 (IntKind.wrap .i64 (t3 + 1)) t4 (r6.2.1, r6.2.2.1, r6.2.2.2.1, (()), (()), ())))
    (cond (y5.2.2.1 == 2)
       ((impl_walker_count_of_RecOk_1_RecOk_2 k 20 (o0.1, o0.2.1, o0.2.2.1, (()), (()), ())).bind fun r8 =>
        cond (r8.1 == 0)
          ((impl_walker_missing_of_RecOk_1_RecOk_2 k t1 t2 t3 (r8.2.1, r8.2.2.1, r8.2.2.2.1, (()), (()), ())).bind fun r9 =>
           some (r9.1, (r9.2.1, r9.2.2.1, r9.2.2.2.1, (()), (()), ())))
          ((S185i4 t1 t2 (IntKind.wrap .i64 (t3 + 1)) (IntKind.wrap .i64 (t4 + 1)) (r8.2.1, r8.2.2.1, r8.2.2.2.1, (()), (()), ())).bind fun r10 =>
           impl_walker_col_of_RecOk_1_RecOk_2.l14 k S185i4 k t1 t3 (IntKind.wrap .i64 (t4 + 1)) r8.1 1 (r10.2.1, r10.2.2.1, r10.2.2.2.1, (()), (()), ())))
       (impl_walker_col_of_RecOk_1_RecOk_2.c18 k S185i4 t1 t2 t3 t4 (o0.1, o0.2.1, o0.2.2.1, (()), (()), ())))

def impl_walker_body_of_RecOk_1_RecOk_2.rec (k : Nat) : Nat → (Int → Int → Int → Int → TWalker → Option (Int × TWalker)) × (Int → Int → Int → Int → TWalker → Option (Int × TWalker))
  | 0 => (fun _ _ _ _ _ => none, fun _ _ _ _ _ => none)
  | d + 1 => (impl_walker_body_of_RecOk_1_RecOk_2.b k ((impl_walker_body_of_RecOk_1_RecOk_2.rec k d).1) ((impl_walker_body_of_RecOk_1_RecOk_2.rec k d).2), impl_walker_col_of_RecOk_1_RecOk_2.b k ((impl_walker_body_of_RecOk_1_RecOk_2.rec k d).1) ((impl_walker_body_of_RecOk_1_RecOk_2.rec k d).2))

def impl_walker_body_of_RecOk_1_RecOk_2.d (k d : Nat) : Int → Int → Int → Int → TWalker → Option (Int × TWalker) := (impl_walker_body_of_RecOk_1_RecOk_2.rec k d).1

def impl_walker_body_of_RecOk_1_RecOk_2 (k : Nat) : Int → Int → Int → Int → TWalker → Option (Int × TWalker) := impl_walker_body_of_RecOk_1_RecOk_2.d k k

def impl_walker_col_of_RecOk_1_RecOk_2.d (k d : Nat) : Int → Int → Int → Int → TWalker → Option (Int × TWalker) := (impl_walker_body_of_RecOk_1_RecOk_2.rec k d).2

def impl_walker_col_of_RecOk_1_RecOk_2 (k : Nat) : Int → Int → Int → Int → TWalker → Option (Int × TWalker) := impl_walker_col_of_RecOk_1_RecOk_2.d k k

def impl_walk_of_RecOk_1_RecOk_2 (k : Nat) (t0 : List TCol) (t1 : TRec) (t2 : Unit) (t3 : Unit) : Option Bool :=
  (impl_walker_body_of_RecOk_1_RecOk_2 k 0 0 0 0 (t0, t1.1, decide ((List.length t1.1 : Int) > 300), (()), (()), ())).bind fun r1 =>
  (cond (!r1.2.2.2.1) (some ((List.length r1.2.2.1 : Int) == 0)) (some (false))).bind fun b2 => some b2

def impl_RecOk (k : Nat) (t0 : List TCol) (t1 : TRec) : Option Bool :=
  (impl_SchemaOk k t0).bind fun r1 =>
  (cond r1 ((impl_walk_of_RecOk_1_RecOk_2 k t0 t1 (()) (())).bind fun r2 => some (r2)) (some (false))).bind fun b3 => some b3

def spec_l13Values.c7 (k : Nat) (L6 : (List TCol) → Int → (List TVal) → Int → Int → Int → Int → (List TVal) → Option ((Unit × Int) × (List TVal))) (t0 : List TCol) (t1 : Int) (t3 : List TVal) (t4 : Int) (t5 : Int) (t16 : Int) (t17 : Int) (o100 : List TVal) : Option ((Unit × Int) × (List TVal)) :=
  L6 t0 t1 t3 t4 t5 t16 (IntKind.wrap .i64 (t17 + 1)) o100

def spec_l13Values.l14 (k : Nat) (S298 : (List TCol) → Int → Bool → (List TVal) → Int → Int → (List TVal) → Option ((Unit × Int) × (List TVal))) (L6 : (List TCol) → Int → (List TVal) → Int → Int → Int → Int → (List TVal) → Option ((Unit × Int) × (List TVal))) : Nat → (List TCol) → Int → (List TVal) → Int → Int → Int → Int → Int → Int → (List TVal) → Option ((Unit × Int) × (List TVal))
  | 0, _, _, _, _, _, _, _, _, _, _ => none
  | n + 1, t0, t1, t3, t4, t5, t16, t17, t18, t19, o100 =>
    (rdL t0 t1).bind fun y1 =>
    cond (decide (t19 < y1.2.2.2.1))
      ((S298 t0 t18 false t3 t4 t5 o100).bind fun r2 =>
       (spec_l5After k t0 t18).bind fun r3 => (spec_l13Values.l14 k S298 L6 n) t0 t1 t3 r2.1.2 t5 t16 t17 r3 (IntKind.wrap .i64 (t19 + 1)) r2.2)
      (spec_l13Values.c7 k L6 t0 t1 t3 t4 t5 t16 t17 o100)

def spec_l13Values.c11 (k : Nat) (L6 : (List TCol) → Int → (List TVal) → Int → Int → Int → Int → (List TVal) → Option ((Unit × Int) × (List TVal))) (t0 : List TCol) (t1 : Int) (t3 : List TVal) (t4 : Int) (t5 : Int) (t16 : Int) (t17 : Int) (o100 : List TVal) : Option ((Unit × Int) × (List TVal)) :=
  spec_l13Values.c7 k L6 t0 t1 t3 (IntKind.wrap .i64 (t4 + 1)) t5 t16 t17 o100

def spec_l13Values.l6 (k : Nat) (S298 : (List TCol) → Int → Bool → (List TVal) → Int → Int → (List TVal) → Option ((Unit × Int) × (List TVal))) : Nat → (List TCol) → Int → (List TVal) → Int → Int → Int → Int → (List TVal) → Option ((Unit × Int) × (List TVal))
  | 0, _, _, _, _, _, _, _, _ => none
  | n + 1, t0, t1, t3, t4, t5, t16, t17, o100 =>
    cond (decide (t17 < t16))
      ((rdL t0 t1).bind fun y4 =>
       cond (y4.2.1 != 7)
         (cond (t1 == t5)
            ((rdL t3 t4).bind fun y5 =>
             cond (lim (List.length o100 + List.length [y5])) (
             spec_l13Values.c11 k (spec_l13Values.l6 k S298 n) t0 t1 t3 t4 t5 t16 t17 (o100 ++ [y5])) none)
            (spec_l13Values.c11 k (spec_l13Values.l6 k S298 n) t0 t1 t3 t4 t5 t16 t17 o100))
         (spec_l13Values.l14 k S298 (spec_l13Values.l6 k S298 n) k t0 t1 t3 t4 t5 t16 t17 (IntKind.wrap .i64 (t1 + 1)) 0 o100))
      (some (((), t4), o100))

def spec_l13Values.c5 (k : Nat) (S298 : (List TCol) → Int → Bool → (List TVal) → Int → Int → (List TVal) → Option ((Unit × Int) × (List TVal))) (t0 : List TCol) (t1 : Int) (t3 : List TVal) (t4 : Int) (t5 : Int) (t16 : Int) (o10 : List TVal) : Option ((Unit × Int) × (List TVal)) :=
  spec_l13Values.l6 k S298 k t0 t1 t3 t4 t5 t16 0 o10

def spec_l13Values.b (k : Nat) (S298 : (List TCol) → Int → Bool → (List TVal) → Int → Int → (List TVal) → Option ((Unit × Int) × (List TVal))) (t0 : List TCol) (t1 : Int) (t2 : Bool) (t3 : List TVal) (t4 : Int) (t5 : Int) (o10 : List TVal) : Option ((Unit × Int) × (List TVal)) :=
  (cond (!t2) ((rdL t0 t1).bind fun y6 => some (y6.2.2.1 != 0)) (some (false))).bind fun b7 =>
  cond b7
    ((rdL t3 t4).bind fun y8 => spec_l13Values.c5 k S298 t0 t1 t3 (IntKind.wrap .i64 (t4 + 1)) t5 y8.1 o10)
    (spec_l13Values.c5 k S298 t0 t1 t3 t4 t5 1 o10)

def spec_l13Values.rec (k : Nat) : Nat → ((List TCol) → Int → Bool → (List TVal) → Int → Int → (List TVal) → Option ((Unit × Int) × (List TVal)))
  | 0 => fun _ _ _ _ _ _ _ => none
  | d + 1 => spec_l13Values.b k ((spec_l13Values.rec k d))

def spec_l13Values.d (k d : Nat) : (List TCol) → Int → Bool → (List TVal) → Int → Int → (List TVal) → Option ((Unit × Int) × (List TVal)) := (spec_l13Values.rec k d)

def spec_l13Values (k : Nat) : (List TCol) → Int → Bool → (List TVal) → Int → Int → (List TVal) → Option ((Unit × Int) × (List TVal)) := spec_l13Values.d k k

end Go.Fn
