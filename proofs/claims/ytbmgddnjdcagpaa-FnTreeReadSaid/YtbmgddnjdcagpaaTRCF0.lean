/- Clean functions, printed by program. -/
import Derived.Test.YtbmgddnjdcagpaaAmStep
set_option linter.unusedVariables false
namespace Go.Fn
open Go.Am

abbrev TMetaReader := Unit × Bool × Unit
abbrev TLeaf := Int × Int × Int × Unit
abbrev TVal := Int × ByteArray × Unit
abbrev THeadReader := Unit × Int × Bool × Unit
abbrev TL1Cur := (List Int) × Int × Int × Unit
abbrev TCol := ByteArray × Int × Int × Int × Unit
abbrev TTreeReaderB := (List Int) × Int × Unit × Int × Unit
abbrev TRec := (List TVal) × Unit
abbrev TNode := Int × Int × Int × ByteArray × Int × Unit
abbrev TTriple := Int × Int × TVal × Unit
abbrev TDeltaReader := (List Int) × Int × Bool × (List Int) × Unit
abbrev TChunk := Int × Int × Int × Int × Int × (List Int) × Unit
abbrev TConfig := Int × Bool × Int × Int × Int × (List Int) × Unit
abbrev TPred := Int × Int × TVal × Int × Int × Unit
abbrev TColumn := (List TTriple) × Unit
abbrev TTreeB := (List TNode) × Unit × Unit
abbrev TGroupMeta := Int × (List TChunk) × Unit
abbrev TTree := (List TNode) × (List Int) × Unit
abbrev TStats := Int × Bool × TVal × TVal × Unit
abbrev TTreeReader := (List Int) × Int × (List TNode) × Int × Unit
abbrev TKnown := Bool × TStats × Unit
abbrev TWalker := (List TCol) × (List TVal) × Bool × Unit × Unit × Unit
abbrev TMeta := (List TCol) × Int × (List TGroupMeta) × Unit
abbrev THead := Int × Int × Int × Int × Int × Int × Int × Int × Bool × Int × Bool × TStats × Int × Unit
abbrev TJoiner := (List TCol) × (List TColumn) × (List Int) × (List Int) × (List TVal) × Bool × Bool × Unit

def laws_big (k : Nat) (t0 : List Int) : Option Bool :=
  some (decide ((List.length t0 : Int) > 1048576))

def spec_l1New.l3 (k : Nat) : Nat → (List Int) → Int → Int → Option (Unit × TL1Cur)
  | 0, _, _, _ => none
  | n + 1, t0, t3, t4 =>
    (cond (decide (t4 < (List.length t0 : Int))) (some (decide (t4 < 4000))) (some (false))).bind fun b1 =>
    cond b1
      ((rdL t0 t4).bind fun y2 =>
       (spec_l1New.l3 k n) t0 (bits .and .i64 (IntKind.wrap .i64 ((IntKind.wrap .i64 ((IntKind.wrap .i64 (t3 * 131)) + (IntKind.wrap .i64 y2))) + 7)) 1073741823) (IntKind.wrap .i64 (t4 + 1)))
      (some ((), (t0, 0, t3, ())))

def spec_l1New (k : Nat) (t0 : List Int) : Option (Unit × TL1Cur) :=
  spec_l1New.l3 k k t0 (IntKind.wrap .i64 (11443 + (List.length t0 : Int))) 0

def spec_l1Byte.c6 (k : Nat) (t3 : Int) (o0 : TL1Cur) : Option (Int × TL1Cur) :=
  some (t3, o0)

def spec_l1Byte (k : Nat) (o0 : TL1Cur) : Option (Int × TL1Cur) :=
  cond (decide (o0.2.1 < (List.length o0.1 : Int)))
    ((rdL o0.1 o0.2.1).bind fun y1 =>
     spec_l1Byte.c6 k (bits .and .i64 (IntKind.wrap .i64 ((bits .and .i64 (bits .xor .i64 (shrI .i64 (IntKind.wrap .i64 ((IntKind.wrap .i64 (o0.2.2.1 * 6364136223846793005)) + 1442695040888963407)) 33) (shrI .i64 (IntKind.wrap .i64 ((IntKind.wrap .i64 (o0.2.2.1 * 6364136223846793005)) + 1442695040888963407)) 45)) 255) + (IntKind.wrap .i64 y1))) 255) (o0.1, IntKind.wrap .i64 (o0.2.1 + 1), IntKind.wrap .i64 ((IntKind.wrap .i64 (o0.2.2.1 * 6364136223846793005)) + 1442695040888963407), ()))
    (spec_l1Byte.c6 k (bits .and .i64 (bits .xor .i64 (shrI .i64 (IntKind.wrap .i64 ((IntKind.wrap .i64 (o0.2.2.1 * 6364136223846793005)) + 1442695040888963407)) 33) (shrI .i64 (IntKind.wrap .i64 ((IntKind.wrap .i64 (o0.2.2.1 * 6364136223846793005)) + 1442695040888963407)) 45)) 255) (o0.1, o0.2.1, IntKind.wrap .i64 ((IntKind.wrap .i64 (o0.2.2.1 * 6364136223846793005)) + 1442695040888963407), ()))

def spec_l1Below (k : Nat) (t1 : Int) (o0 : TL1Cur) : Option (Int × TL1Cur) :=
  cond (decide (t1 ≤ 0))
    (some (0, o0))
    (cond (decide (t1 ≤ 256))
       ((spec_l1Byte k o0).bind fun r1 => cond (decide (t1 ≠ 0)) (some (Int.tmod r1.1 t1, r1.2)) none)
       ((spec_l1Byte k o0).bind fun r2 =>
        (spec_l1Byte k r2.2).bind fun r3 =>
        (spec_l1Byte k r3.2).bind fun r4 =>
        (spec_l1Byte k r4.2).bind fun r5 =>
        cond (decide (t1 ≠ 0)) (
        some (Int.tmod (IntKind.wrap .i64 ((IntKind.wrap .i64 ((IntKind.wrap .i64 ((IntKind.wrap .i64 (r2.1 * 16777216)) + (IntKind.wrap .i64 (r3.1 * 65536)))) + (IntKind.wrap .i64 (r4.1 * 256)))) + r5.1)) t1, r5.2)) none))

def spec_l1In (k : Nat) (t0 : Int) (t1 : Int) (t2 : Int) : Option Bool :=
  (cond (decide (t0 ≥ t1)) (some (decide (t0 ≤ t2))) (some (false))).bind fun b1 => some b1

def spec_l4Int (k : Nat) (t0 : Int) : Option Bool :=
  (spec_l1In k t0 (-2147483648) 2147483647).bind fun r1 => some r1

def spec_l4Kind.c9 (k : Nat) (t4 : Bool) : Option Bool :=
  cond t4 (some true) (some false)

def spec_l4Kind (k : Nat) (t0 : Int) : Option Bool :=
  cond (t0 == 1)
    (spec_l4Kind.c9 k (t0 == 1))
    (cond (t0 == 2)
       (spec_l4Kind.c9 k (t0 == 2))
       (cond (t0 == 5)
          (spec_l4Kind.c9 k (t0 == 5))
          (cond (t0 == 6)
             (spec_l4Kind.c9 k (t0 == 6))
             (cond (t0 == 8) (spec_l4Kind.c9 k (t0 == 8)) (cond (t0 == 9) (spec_l4Kind.c9 k (t0 == 9)) (spec_l4Kind.c9 k (t0 == 12)))))))

def spec_l4Item (k : Nat) (t0 : Int) : Option Bool :=
  (spec_l4Kind k t0).bind fun r1 =>
  (cond r1 (some (t0 != 1)) (some (false))).bind fun b2 => (cond b2 (some (t0 != 2)) (some (false))).bind fun b3 => some b3

def spec_l4Plain.c4 (k : Nat) (t4 : Int) (t5 : Bool) (o100 : TNode) : Option Bool :=
  cond t5
    ((cond (o100.2.2.1 == 0) (some (eqS o100.2.2.2.1 (⟨#[]⟩ : ByteArray))) (some (false))).bind fun b1 =>
     (cond b1 (some (o100.2.2.2.2.1 == 0)) (some (false))).bind fun b2 => some b2)
    (cond (t4 == 5)
       ((spec_l4Int k o100.2.2.1).bind fun r3 =>
        (cond r3 (some (eqS o100.2.2.2.1 (⟨#[]⟩ : ByteArray))) (some (false))).bind fun b4 =>
        (cond b4 (some (o100.2.2.2.2.1 == 0)) (some (false))).bind fun b5 => some b5)
       (cond (t4 == 6)
          ((cond (eqS o100.2.2.2.1 (⟨#[]⟩ : ByteArray)) (some (o100.2.2.2.2.1 == 0)) (some (false))).bind fun b6 => some b6)
          (cond (t4 == 8)
             ((cond (o100.2.2.1 == 0) (some (decide ((o100.2.2.2.1.size : Int) ≤ 300))) (some (false))).bind fun b7 =>
              (cond b7 (some (o100.2.2.2.2.1 == 0)) (some (false))).bind fun b8 => some b8)
             (cond (t4 == 9)
                ((cond (eqS o100.2.2.2.1 (⟨#[]⟩ : ByteArray)) (some (decide (o100.2.2.2.2.1 ≥ 0))) (some (false))).bind fun b9 =>
                 (cond b9
                    ((cond (o100.2.2.2.2.1 == 0) (some (o100.2.2.1 == 0)) (some (false))).bind fun b10 =>
                     (cond b10
                        (some (true))
                        ((cond (decide (o100.2.2.2.2.1 > 0)) ((spec_l4Item k o100.2.2.1).bind fun r11 => some (r11)) (some (false))).bind fun b12 =>
                         some (b12))).bind fun b13 =>
                     some (b13))
                    (some (false))).bind fun b14 =>
                 some b14)
                (cond (t4 == 12)
                   ((cond (o100.2.2.1 == 0) (some (eqS o100.2.2.2.1 (⟨#[]⟩ : ByteArray))) (some (false))).bind fun b15 =>
                    (cond b15 (some (decide (o100.2.2.2.2.1 ≥ 0))) (some (false))).bind fun b16 => some b16)
                   (some false))))))

def spec_l4Plain (k : Nat) (t0 : TNode) : Option Bool :=
  cond (t0.1 == 1) (spec_l4Plain.c4 k t0.1 (t0.1 == 1) t0) (spec_l4Plain.c4 k t0.1 (t0.1 == 2) t0)

def spec_l4Check.l7 (k : Nat) (S257 : (List TNode) → Int → Int → Option Int) : Nat → (List TNode) → Int → Int → Int → Int → TNode → Option Int
  | 0, _, _, _, _, _, _ => none
  | n + 1, t0, t2, t8, t9, t10, o100 =>
    cond (decide (t10 < o100.2.2.2.2.1))
      (cond (decide (t8 ≥ (List.length t0 : Int)))
         (some (-1))
         ((rdL t0 t8).bind fun y1 =>
          (cond (o100.1 == 9) ((cond (y1.1 != o100.2.2.1) (some (true)) (some (y1.2.1 != 0))).bind fun b2 => some (b2)) (some (false))).bind fun b3 =>
          (cond b3
             (some (true))
             ((cond (o100.1 == 12)
                 ((cond (decide (y1.2.1 ≤ t9)) (some (true)) (some (decide (y1.2.1 > 1000)))).bind fun b4 => some (b4))
                 (some (false))).bind fun b5 =>
              some (b5))).bind fun b6 =>
          cond b6
            (some (-1))
            ((S257 t0 t8 (IntKind.wrap .i64 (t2 + 1))).bind fun r7 =>
             cond (decide (r7 < 0)) (some (-1)) ((spec_l4Check.l7 k S257 n) t0 t2 r7 y1.2.1 (IntKind.wrap .i64 (t10 + 1)) o100))))
      (some t8)

def spec_l4Check.b (k : Nat) (S257 : (List TNode) → Int → Int → Option Int) (t0 : List TNode) (t1 : Int) (t2 : Int) : Option Int :=
  (cond (decide (t1 ≥ (List.length t0 : Int))) (some (true)) (some (decide (t2 > 12)))).bind fun b8 =>
  (cond b8 (some (true)) ((rdL t0 t1).bind fun y9 => (spec_l4Plain k y9).bind fun r10 => some (!r10))).bind fun b11 =>
  cond b11 (some (-1)) ((rdL t0 t1).bind fun y12 => spec_l4Check.l7 k S257 k t0 t2 (IntKind.wrap .i64 (t1 + 1)) 0 0 y12)

def spec_l4Check.rec (k : Nat) : Nat → ((List TNode) → Int → Int → Option Int)
  | 0 => fun _ _ _ => none
  | d + 1 => spec_l4Check.b k ((spec_l4Check.rec k d))

def spec_l4Check.d (k d : Nat) : (List TNode) → Int → Int → Option Int := (spec_l4Check.rec k d)

def spec_l4Check (k : Nat) : (List TNode) → Int → Int → Option Int := spec_l4Check.d k k

def spec_TreeOk (k : Nat) (t0 : List TNode) : Option Bool :=
  (spec_l1In k (List.length t0 : Int) 1 1500).bind fun r1 =>
  (cond (!r1) (some (true)) ((rdL t0 0).bind fun y2 => some (y2.1 != 12))).bind fun b3 =>
  (cond b3 (some (true)) ((rdL t0 0).bind fun y4 => some (y4.2.1 != 0))).bind fun b5 =>
  cond b5 (some false) ((spec_l4Check k t0 0 1).bind fun r6 => some (r6 == (List.length t0 : Int)))

def spec_l2Down (k : Nat) (t0 : Int) (t1 : Int) : Option Int :=
  cond (t1 == 0)
    (some t0)
    (cond (decide (0 ≤ t1)) (
     cond (decide (0 ≤ (IntKind.wrap .i64 (64 - t1)))) (
     some (bits .and .i64 (shrI .i64 t0 t1) (IntKind.wrap .i64 ((shlI .i64 1 (IntKind.wrap .i64 (64 - t1))) - 1)))) none) none)

def spec_UvarPut.l2 (k : Nat) : Nat → Int → (List Int) → Option (Unit × (List Int))
  | 0, _, _ => none
  | n + 1, t0, o100 =>
    (spec_l2Down k t0 7).bind fun r1 =>
    cond (r1 != 0)
      (cond (lim (List.length o100 + List.length [IntKind.wrap .u8 (IntKind.wrap .i64 ((bits .and .i64 t0 127) + 128))])) (
       (spec_l2Down k t0 7).bind fun r2 => (spec_UvarPut.l2 k n) r2 (o100 ++ [IntKind.wrap .u8 (IntKind.wrap .i64 ((bits .and .i64 t0 127) + 128))])) none)
      (cond (lim (List.length o100 + List.length [IntKind.wrap .u8 t0])) (some ((), o100 ++ [IntKind.wrap .u8 t0])) none)

def spec_UvarPut (k : Nat) (t0 : Int) : Option (Unit × (List Int)) :=
  spec_UvarPut.l2 k k t0 []

def spec_Zig (k : Nat) (t0 : Int) : Option Int :=
  cond (decide (t0 < 0)) (some (bits .xor .i64 (-1) (shlI .i64 t0 1))) (some (shlI .i64 t0 1))

def spec_ZigPut (k : Nat) (t0 : Int) : Option (Unit × (List Int)) :=
  (spec_Zig k t0).bind fun r1 => (spec_UvarPut k r1).bind fun r2 => some ((), r2.2)

def spec_l4Pack.c36 (k : Nat) (t7 : Int) (o100 : List Int) : Option ((Unit × Int) × (List Int)) :=
  some (((), t7), o100)

def spec_l4Pack.d9 (k : Nat) (t7 : Int) (o100 : TNode) : Option ((Unit × Int) × (List Int)) :=
  (spec_UvarPut k (o100.2.2.2.1.size : Int)).bind fun r1 =>
  cond (lim (List.length r1.2 + List.length (strInts o100.2.2.2.1))) (some (((), t7), r1.2 ++ (strInts o100.2.2.2.1))) none

def spec_l4Pack.l16 (k : Nat) (S206 : (List TNode) → Int → Option ((Unit × Int) × (List Int))) : Nat → (List TNode) → Int → Int → TNode → (List Int) → Option ((Unit × Int) × (List Int))
  | 0, _, _, _, _, _ => none
  | n + 1, t0, t7, t9, o100, o101 =>
    cond (decide (t9 < o100.2.2.2.2.1))
      ((S206 t0 t7).bind fun r8 =>
       cond (lim (List.length o101 + List.length r8.2)) ((spec_l4Pack.l16 k S206 n) t0 r8.1.2 (IntKind.wrap .i64 (t9 + 1)) o100 (o101 ++ r8.2)) none)
      (spec_l4Pack.c36 k t7 o101)

def spec_l4Pack.c15 (k : Nat) (S206 : (List TNode) → Int → Option ((Unit × Int) × (List Int))) (t0 : List TNode) (t7 : Int) (o100 : TNode) (o101 : List Int) : Option ((Unit × Int) × (List Int)) :=
  spec_l4Pack.l16 k S206 k t0 t7 0 o100 o101

def spec_l4Pack.c31 (k : Nat) (S206 : (List TNode) → Int → Option ((Unit × Int) × (List Int))) (L24 : (List TNode) → Int → Int → Int → TNode → (List Int) → Option ((Unit × Int) × (List Int))) (t0 : List TNode) (t7 : Int) (t13 : Int) (o100 : TNode) (o101 : List Int) (o102 : TNode) : Option ((Unit × Int) × (List Int)) :=
  (S206 t0 t7).bind fun r9 =>
  cond (lim (List.length o101 + List.length r9.2)) (L24 t0 r9.1.2 o102.2.1 (IntKind.wrap .i64 (t13 + 1)) o100 (o101 ++ r9.2)) none

def spec_l4Pack.l24 (k : Nat) (S206 : (List TNode) → Int → Option ((Unit × Int) × (List Int))) : Nat → (List TNode) → Int → Int → Int → TNode → (List Int) → Option ((Unit × Int) × (List Int))
  | 0, _, _, _, _, _, _ => none
  | n + 1, t0, t7, t12, t13, o100, o101 =>
    cond (decide (t13 < o100.2.2.2.2.1))
      ((rdL t0 t7).bind fun y10 =>
       cond (decide ((IntKind.wrap .i64 (y10.2.1 - t12)) ≤ 15))
         (cond (lim (List.length o101 + List.length [IntKind.wrap .u8 (IntKind.wrap .i64 ((IntKind.wrap .i64 (16 * (IntKind.wrap .i64 (y10.2.1 - t12)))) + y10.1))])) (
          spec_l4Pack.c31 k S206 (spec_l4Pack.l24 k S206 n) t0 t7 t13 o100 (o101 ++ [IntKind.wrap .u8 (IntKind.wrap .i64 ((IntKind.wrap .i64 (16 * (IntKind.wrap .i64 (y10.2.1 - t12)))) + y10.1))]) y10) none)
         (cond (lim (List.length o101 + List.length [IntKind.wrap .u8 y10.1])) (
          (spec_ZigPut k y10.2.1).bind fun r11 =>
          cond (lim (List.length (o101 ++ [IntKind.wrap .u8 y10.1]) + List.length r11.2)) (
          spec_l4Pack.c31 k S206 (spec_l4Pack.l24 k S206 n) t0 t7 t13 o100 ((o101 ++ [IntKind.wrap .u8 y10.1]) ++ r11.2) y10) none) none))
      (cond (lim (List.length o101 + List.length [0])) (spec_l4Pack.c36 k t7 (o101 ++ [0])) none)

def spec_l4Pack.c7 (k : Nat) (S206 : (List TNode) → Int → Option ((Unit × Int) × (List Int))) (t0 : List TNode) (t7 : Int) (t25 : Int) (t26 : Bool) (o100 : TNode) (o101 : List Int) : Option ((Unit × Int) × (List Int)) :=
  cond t26
    ((spec_ZigPut k o100.2.2.1).bind fun r12 => some (((), t7), r12.2))
    (cond (t25 == 8)
       (spec_l4Pack.d9 k t7 o100)
       (cond (t25 == 9)
          (cond (decide (o100.2.2.2.2.1 ≤ 14))
             (cond (lim (List.length o101 + List.length [IntKind.wrap .u8 (IntKind.wrap .i64 ((IntKind.wrap .i64 (16 * o100.2.2.2.2.1)) + o100.2.2.1))])) (
              spec_l4Pack.c15 k S206 t0 t7 o100 (o101 ++ [IntKind.wrap .u8 (IntKind.wrap .i64 ((IntKind.wrap .i64 (16 * o100.2.2.2.2.1)) + o100.2.2.1))])) none)
             (cond (lim (List.length o101 + List.length [IntKind.wrap .u8 (IntKind.wrap .i64 (240 + o100.2.2.1))])) (
              (spec_UvarPut k o100.2.2.2.2.1).bind fun r13 =>
              cond (lim (List.length (o101 ++ [IntKind.wrap .u8 (IntKind.wrap .i64 (240 + o100.2.2.1))]) + List.length r13.2)) (
              spec_l4Pack.c15 k S206 t0 t7 o100 ((o101 ++ [IntKind.wrap .u8 (IntKind.wrap .i64 (240 + o100.2.2.1))]) ++ r13.2)) none) none))
          (cond (t25 == 12) (spec_l4Pack.l24 k S206 k t0 t7 0 0 o100 o101) (spec_l4Pack.c36 k t7 o101))))

def spec_l4Pack.b (k : Nat) (S206 : (List TNode) → Int → Option ((Unit × Int) × (List Int))) (t0 : List TNode) (t1 : Int) : Option ((Unit × Int) × (List Int)) :=
  (rdL t0 t1).bind fun y14 =>
  cond (y14.1 == 5)
    (spec_l4Pack.c7 k S206 t0 (IntKind.wrap .i64 (t1 + 1)) y14.1 (y14.1 == 5) y14 [])
    (spec_l4Pack.c7 k S206 t0 (IntKind.wrap .i64 (t1 + 1)) y14.1 (y14.1 == 6) y14 [])

def spec_l4Pack.rec (k : Nat) : Nat → ((List TNode) → Int → Option ((Unit × Int) × (List Int)))
  | 0 => fun _ _ => none
  | d + 1 => spec_l4Pack.b k ((spec_l4Pack.rec k d))

def spec_l4Pack.d (k d : Nat) : (List TNode) → Int → Option ((Unit × Int) × (List Int)) := (spec_l4Pack.rec k d)

def spec_l4Pack (k : Nat) : (List TNode) → Int → Option ((Unit × Int) × (List Int)) := spec_l4Pack.d k k

def spec_TreePack (k : Nat) (t0 : List TNode) : Option ((Unit × Bool) × (List Int)) :=
  (spec_TreeOk k t0).bind fun r1 => cond (!r1) (some (((), false), [])) ((spec_l4Pack k t0 0).bind fun r2 => some (((), true), r2.2))

def spec_l1PickInt (k : Nat) (t1 : List Int) (o0 : TL1Cur) : Option (Int × TL1Cur) :=
  (spec_l1Below k (List.length t1 : Int) o0).bind fun r1 => (rdL t1 r1.1).bind fun y2 => some (y2, r1.2)

def spec_l1Once (k : Nat) (t1 : Int) (o0 : TL1Cur) : Option (Bool × TL1Cur) :=
  (spec_l1Below k t1 o0).bind fun r1 => some (r1.1 == 0, r1.2)

def spec_l1DrawBytes.l4 (k : Nat) : Nat → Int → Int → TL1Cur → (List Int) → Option (Unit × TL1Cur × (List Int))
  | 0, _, _, _, _ => none
  | n + 1, t6, t7, o0, o100 =>
    cond (decide (t7 < t6))
      ((spec_l1Byte k o0).bind fun r1 =>
       cond (lim (List.length o100 + List.length [IntKind.wrap .u8 r1.1])) (
       (spec_l1DrawBytes.l4 k n) t6 (IntKind.wrap .i64 (t7 + 1)) r1.2 (o100 ++ [IntKind.wrap .u8 r1.1])) none)
      (some ((), (o0, o100)))

def spec_l1DrawBytes (k : Nat) (t1 : Int) (o0 : TL1Cur) : Option (Unit × TL1Cur × (List Int)) :=
  (spec_l1Below k (IntKind.wrap .i64 (t1 + 1)) o0).bind fun r2 => spec_l1DrawBytes.l4 k k r2.1 0 r2.2 []

def spec_l4DrawText (k : Nat) (t1 : Int) (o0 : TL1Cur) : Option (ByteArray × TL1Cur) :=
  (spec_l1DrawBytes k t1 o0).bind fun r1 => some (intsStr r1.2.2, r1.2.1)

def spec_l2DrawNum (k : Nat) (o0 : TL1Cur) : Option (Int × TL1Cur) :=
  (spec_l1Below k 1000000 o0).bind fun r1 =>
  (spec_l1Below k 1000000 r1.2).bind fun r2 =>
  (spec_l1Below k 300 r2.2).bind fun r3 =>
  (spec_l1PickInt k [0, 1, (-1), 63, 64, (-64), (-65), 127, 128, 16383, 16384, 2147483647, (-2147483648), 9223372036854775807, (-9223372036854775808), 4611686018427387904, r1.1, IntKind.wrap .i64 (0 - r2.1), r3.1] r3.2).bind fun r4 =>
  some (r4.1, r4.2)

def spec_l4DrawNode.c25 (k : Nat) (L24 : Int → Int → Int → Int → Int → Int → TL1Cur → (List TNode) → Option (Unit × TL1Cur × (List TNode))) (t1 : Int) (t3 : Int) (t13 : Int) (t14 : Int) (t15 : Int) (t16 : Int) (o0 : TL1Cur) (o100 : List TNode) : Option (Unit × TL1Cur × (List TNode)) :=
  L24 t1 t3 t13 t14 t15 (IntKind.wrap .i64 (t16 + 1)) o0 o100

def spec_l4DrawNode.l24 (k : Nat) (S207 : Int → Int → Int → TL1Cur → (List TNode) → Option (Unit × TL1Cur × (List TNode))) : Nat → Int → Int → Int → Int → Int → Int → TL1Cur → (List TNode) → Option (Unit × TL1Cur × (List TNode))
  | 0, _, _, _, _, _, _, _, _ => none
  | n + 1, t1, t3, t13, t14, t15, t16, o0, o100 =>
    cond (decide (t16 < t13))
      (cond (t1 == 12)
         ((spec_l1PickInt k [1, 2, 5, 6, 8, 9, 12] o0).bind fun r1 =>
          (spec_l1Below k 3 r1.2).bind fun r2 =>
          (spec_l1Below k 6 r2.2).bind fun r3 =>
          (S207 r1.1 (IntKind.wrap .i64 ((IntKind.wrap .i64 ((IntKind.wrap .i64 (t15 + 1)) + r2.1)) + (IntKind.wrap .i64 ((IntKind.wrap .i64 (Int.tdiv r3.1 5)) * 20)))) (IntKind.wrap .i64 (t3 - 1)) r3.2 o100).bind fun r4 =>
          spec_l4DrawNode.c25 k (spec_l4DrawNode.l24 k S207 n) t1 t3 t13 t14 (IntKind.wrap .i64 ((IntKind.wrap .i64 ((IntKind.wrap .i64 (t15 + 1)) + r2.1)) + (IntKind.wrap .i64 ((IntKind.wrap .i64 (Int.tdiv r3.1 5)) * 20)))) t16 r4.2.1 r4.2.2)
         ((S207 t14 0 (IntKind.wrap .i64 (t3 - 1)) o0 o100).bind fun r5 =>
          spec_l4DrawNode.c25 k (spec_l4DrawNode.l24 k S207 n) t1 t3 t13 t14 t15 t16 r5.2.1 r5.2.2))
      (some ((), (o0, o100)))

def spec_l4DrawNode.c22 (k : Nat) (S207 : Int → Int → Int → TL1Cur → (List TNode) → Option (Unit × TL1Cur × (List TNode))) (t1 : Int) (t3 : Int) (t13 : Int) (t14 : Int) (o0 : TL1Cur) (o100 : List TNode) : Option (Unit × TL1Cur × (List TNode)) :=
  spec_l4DrawNode.l24 k S207 k t1 t3 t13 t14 0 0 o0 o100

def spec_l4DrawNode.c18 (k : Nat) (S207 : Int → Int → Int → TL1Cur → (List TNode) → Option (Unit × TL1Cur × (List TNode))) (t1 : Int) (t3 : Int) (t12 : Int) (t13 : Int) (o0 : TL1Cur) (o100 : List TNode) : Option (Unit × TL1Cur × (List TNode)) :=
  (spec_l1PickInt k [5, 8, 6, 12, 9] o0).bind fun r6 =>
  (rdL o100 t12).bind fun y7 =>
  (rdL o100 t12).bind fun y8 =>
  (cond (t1 == 9) (some (decide (t13 > 0))) (some (false))).bind fun b9 =>
  cond b9
    ((rdL (List.set o100 (Int.toNat t12) (y8.1, y8.2.1, y8.2.2.1, y8.2.2.2.1, t13, ())) t12).bind fun y10 =>
     (rdL (List.set o100 (Int.toNat t12) (y8.1, y8.2.1, y8.2.2.1, y8.2.2.2.1, t13, ())) t12).bind fun y11 =>
     spec_l4DrawNode.c22 k S207 t1 t3 t13 r6.1 r6.2 (List.set (List.set o100 (Int.toNat t12) (y8.1, y8.2.1, y8.2.2.1, y8.2.2.2.1, t13, ())) (Int.toNat t12) (y11.1, y11.2.1, r6.1, y11.2.2.2.1, y11.2.2.2.2.1, ())))
    (spec_l4DrawNode.c22 k S207 t1 t3 t13 r6.1 r6.2 (List.set o100 (Int.toNat t12) (y8.1, y8.2.1, y8.2.2.1, y8.2.2.2.1, t13, ())))

def spec_l4DrawNode.c16 (k : Nat) (S207 : Int → Int → Int → TL1Cur → (List TNode) → Option (Unit × TL1Cur × (List TNode))) (t1 : Int) (t3 : Int) (t12 : Int) (t13 : Int) (o0 : TL1Cur) (o100 : List TNode) : Option (Unit × TL1Cur × (List TNode)) :=
  (spec_l1Once k 20 o0).bind fun r12 =>
  cond r12.1 (spec_l4DrawNode.c18 k S207 t1 t3 t12 (IntKind.wrap .i64 (t13 * 6)) r12.2 o100) (spec_l4DrawNode.c18 k S207 t1 t3 t12 t13 r12.2 o100)

def spec_l4DrawNode.c9 (k : Nat) (S207 : Int → Int → Int → TL1Cur → (List TNode) → Option (Unit × TL1Cur × (List TNode))) (t1 : Int) (t3 : Int) (o0 : TL1Cur) (o10 : List TNode) (o100 : TNode) : Option (Unit × TL1Cur × (List TNode)) :=
  cond (lim (List.length o10 + List.length [o100])) (
  (cond (t1 != 9) (some (t1 != 12)) (some (false))).bind fun b13 =>
  cond b13
    (some ((), (o0, o10 ++ [o100])))
    ((spec_l1Below k 4 o0).bind fun r14 =>
     cond (t3 == 0)
       (spec_l4DrawNode.c16 k S207 t1 t3 (List.length o10 : Int) 0 r14.2 (o10 ++ [o100]))
       (spec_l4DrawNode.c16 k S207 t1 t3 (List.length o10 : Int) r14.1 r14.2 (o10 ++ [o100])))) none

def spec_l4DrawNode.b (k : Nat) (S207 : Int → Int → Int → TL1Cur → (List TNode) → Option (Unit × TL1Cur × (List TNode))) (t1 : Int) (t2 : Int) (t3 : Int) (o0 : TL1Cur) (o10 : List TNode) : Option (Unit × TL1Cur × (List TNode)) :=
  cond (t1 == 5)
    ((spec_l1Below k 1000 o0).bind fun r15 =>
     spec_l4DrawNode.c9 k S207 t1 t3 r15.2 o10 (t1, t2, IntKind.wrap .i64 (r15.1 - 300), (⟨#[]⟩ : ByteArray), 0, ()))
    (cond (t1 == 6)
       ((spec_l2DrawNum k o0).bind fun r16 => spec_l4DrawNode.c9 k S207 t1 t3 r16.2 o10 (t1, t2, r16.1, (⟨#[]⟩ : ByteArray), 0, ()))
       (cond (t1 == 8)
          ((spec_l4DrawText k 5 o0).bind fun r17 => spec_l4DrawNode.c9 k S207 t1 t3 r17.2 o10 (t1, t2, 0, r17.1, 0, ()))
          (spec_l4DrawNode.c9 k S207 t1 t3 o0 o10 (t1, t2, 0, (⟨#[]⟩ : ByteArray), 0, ()))))

def spec_l4DrawNode.rec (k : Nat) : Nat → (Int → Int → Int → TL1Cur → (List TNode) → Option (Unit × TL1Cur × (List TNode)))
  | 0 => fun _ _ _ _ _ => none
  | d + 1 => spec_l4DrawNode.b k ((spec_l4DrawNode.rec k d))

def spec_l4DrawNode.d (k d : Nat) : Int → Int → Int → TL1Cur → (List TNode) → Option (Unit × TL1Cur × (List TNode)) := (spec_l4DrawNode.rec k d)

def spec_l4DrawNode (k : Nat) : Int → Int → Int → TL1Cur → (List TNode) → Option (Unit × TL1Cur × (List TNode)) := spec_l4DrawNode.d k k

def spec_l4DrawRight (k : Nat) (o0 : TL1Cur) : Option (Unit × TL1Cur × (List TNode)) :=
  (spec_l1Below k 3 o0).bind fun r1 =>
  (spec_l4DrawNode k 12 0 (IntKind.wrap .i64 (1 + r1.1)) r1.2 []).bind fun r2 =>
  cond (decide ((List.length r2.2.2 : Int) > 300)) (some ((), (r2.2.1, [(12, 0, 0, (⟨#[]⟩ : ByteArray), 0, ())]))) (some ((), (r2.2.1, r2.2.2)))

def spec_DrawTreeRead.c20 (k : Nat) (t5 : List Int) (t7 : Int) : Option ((List Int) × Int) :=
  some (t5, t7)

def spec_DrawTreeRead.c5 (k : Nat) (o100 : TL1Cur) (o101 : List Int) : Option ((List Int) × Int) :=
  (spec_l1Below k 8 o100).bind fun r1 =>
  cond (r1.1 == 0)
    ((spec_l1Below k (List.length o101 : Int) r1.2).bind fun r2 =>
     (spec_l1Byte k r2.2).bind fun r3 =>
     (rdL o101 r2.1).bind fun y4 => (rdL o101 r2.1).bind fun y5 => spec_DrawTreeRead.c20 k (List.set o101 (Int.toNat r2.1) (IntKind.wrap .u8 r3.1)) 0)
    (cond (r1.1 == 1)
       ((spec_l1Below k (IntKind.wrap .i64 ((List.length o101 : Int) + 1)) r1.2).bind fun r6 =>
        cond (inSl 0 r6.1 (List.length o101)) (spec_DrawTreeRead.c20 k (cutL o101 0 r6.1) 0) none)
       (cond (r1.1 == 2)
          ((spec_l1Byte k r1.2).bind fun r7 =>
           cond (lim (List.length [IntKind.wrap .u8 r7.1] + List.length o101)) (spec_DrawTreeRead.c20 k ([IntKind.wrap .u8 r7.1] ++ o101) 1) none)
          (cond (r1.1 == 3)
             ((spec_l1Byte k r1.2).bind fun r8 =>
              cond (lim (List.length o101 + List.length [IntKind.wrap .u8 r8.1])) (spec_DrawTreeRead.c20 k (o101 ++ [IntKind.wrap .u8 r8.1]) 0) none)
             (cond (r1.1 == 4)
                (spec_DrawTreeRead.c20 k [5, 2, 9, 0, 8, 4, 1, 65, 0] 0)
                (cond (r1.1 == 5)
                   ((spec_l1PickInt k [(-1), (List.length o101 : Int), 1] r1.2).bind fun r9 => spec_DrawTreeRead.c20 k o101 r9.1)
                   (spec_DrawTreeRead.c20 k o101 0))))))

def spec_DrawTreeRead (k : Nat) (t0 : List Int) : Option ((List Int) × Int) :=
  (spec_l1New k t0).bind fun r10 =>
  (spec_l4DrawRight k r10.2).bind fun r11 =>
  (spec_TreePack k r11.2.2).bind fun r12 => cond (!r12.1.2) (spec_DrawTreeRead.c5 k r11.2.1 [0]) (spec_DrawTreeRead.c5 k r11.2.1 r12.2)

def impl_within (k : Nat) (t0 : Int) (t1 : Int) (t2 : Int) : Option Bool :=
  (cond (decide (t0 ≥ t1)) (some (decide (t0 ≤ t2))) (some (false))).bind fun b1 => some b1

def impl_treeReader_fail (k : Nat) (t1 : Int) (o0 : TTreeReaderB) (o10 : List TNode) : Option (Unit × TTreeReaderB × (List TNode)) :=
  cond (o0.2.2.2.1 == 0) (some ((), ((o0.1, o0.2.1, (), t1, ()), o10))) (some ((), (o0, o10)))

def impl_treeReader_begin.c3 (k : Nat) (o0 : TTreeReaderB) (o10 : List TNode) (o100 : TNode) : Option (Int × TTreeReaderB × (List TNode)) :=
  cond (o0.2.2.2.1 != 0)
    (some (0, (o0, o10)))
    (cond (lim (List.length o10 + List.length [o100])) (some (IntKind.wrap .i64 ((List.length (o10 ++ [o100]) : Int) - 1), (o0, o10 ++ [o100]))) none)

def impl_treeReader_begin (k : Nat) (t1 : TNode) (t2 : Int) (o0 : TTreeReaderB) (o10 : List TNode) : Option (Int × TTreeReaderB × (List TNode)) :=
  (cond (decide (t2 > 12)) (some (true)) (some ((List.length o10 : Int) == 1500))).bind fun b1 =>
  cond b1 ((impl_treeReader_fail k 4 o0 o10).bind fun r2 => impl_treeReader_begin.c3 k r2.2.1 r2.2.2 t1) (impl_treeReader_begin.c3 k o0 o10 t1)

def impl_Zag (k : Nat) (t0 : Int) : Option Int :=
  some (bits .xor .i64 (IntKind.wrap .i64 (shrI .u64 (IntKind.wrap .u64 t0) 1)) (IntKind.wrap .i64 (0 - (bits .and .i64 t0 1))))

def impl_UvarGet.c12 (k : Nat) : Option (Int × Int × Bool) :=
  some (0, 0, false)

def impl_UvarGet.l5 (k : Nat) : Nat → (List Int) → Int → Int → Int → Option (Int × Int × Bool)
  | 0, _, _, _, _ => none
  | n + 1, t0, t1, t7, t8 =>
    (cond (decide (t8 < 10)) (some (decide (t8 < (IntKind.wrap .i64 ((List.length t0 : Int) - t1))))) (some (false))).bind fun b1 =>
    cond b1
      ((rdL t0 (IntKind.wrap .i64 (t1 + t8))).bind fun y2 =>
       (cond (t8 == 9) (some (decide (y2 > 1))) (some (false))).bind fun b3 =>
       cond b3
         (impl_UvarGet.c12 k)
         (cond (decide (0 ≤ (IntKind.wrap .i64 (7 * t8)))) (
          cond (decide (y2 < 128))
            (some (IntKind.wrap .i64 (bits .or .u64 t7 (shlI .u64 (IntKind.wrap .u64 (bits .and .u8 y2 127)) (IntKind.wrap .i64 (7 * t8)))), IntKind.wrap .i64 ((IntKind.wrap .i64 (t1 + t8)) + 1), true))
            ((impl_UvarGet.l5 k n) t0 t1 (bits .or .u64 t7 (shlI .u64 (IntKind.wrap .u64 (bits .and .u8 y2 127)) (IntKind.wrap .i64 (7 * t8)))) (IntKind.wrap .i64 (t8 + 1)))) none))
      (impl_UvarGet.c12 k)

def impl_UvarGet (k : Nat) (t0 : List Int) (t1 : Int) : Option (Int × Int × Bool) :=
  cond (decide (t1 < 0)) (some (0, 0, false)) (impl_UvarGet.l5 k k t0 t1 0 0)

def impl_treeReader_uvar (k : Nat) (o0 : TTreeReaderB) (o10 : List TNode) : Option (Int × TTreeReaderB × (List TNode)) :=
  (impl_UvarGet k o0.1 o0.2.1).bind fun r1 =>
  (cond (o0.2.2.2.1 != 0) (some (true)) (some (!r1.2.2))).bind fun b2 =>
  cond b2 ((impl_treeReader_fail k 1 o0 o10).bind fun r3 => some (0, (r3.2.1, r3.2.2))) (some (r1.1, ((o0.1, r1.2.1, (), o0.2.2.2.1, ()), o10)))

def impl_isInt32 (k : Nat) (t0 : Int) : Option Bool :=
  (impl_within k t0 (-2147483648) 2147483647).bind fun r1 => some r1

def impl_treeReader_text.c6 (k : Nat) (t3 : Int) (o0 : TTreeReaderB) (o10 : List TNode) : Option (ByteArray × TTreeReaderB × (List TNode)) :=
  cond (o0.2.2.2.1 != 0)
    (some ((⟨#[]⟩ : ByteArray), (o0, o10)))
    (cond (inSl (IntKind.wrap .i64 ((IntKind.wrap .i64 (o0.2.1 + t3)) - t3)) (IntKind.wrap .i64 (o0.2.1 + t3)) (List.length o0.1)) (
     some (intsStr (cutL o0.1 (IntKind.wrap .i64 ((IntKind.wrap .i64 (o0.2.1 + t3)) - t3)) (IntKind.wrap .i64 (o0.2.1 + t3))), ((o0.1, IntKind.wrap .i64 (o0.2.1 + t3), (), o0.2.2.2.1, ()), o10))) none)

def impl_treeReader_text.c4 (k : Nat) (t3 : Int) (o0 : TTreeReaderB) (o10 : List TNode) : Option (ByteArray × TTreeReaderB × (List TNode)) :=
  (cond (o0.2.2.2.1 == 0) (some (decide (t3 > (IntKind.wrap .i64 ((List.length o0.1 : Int) - o0.2.1))))) (some (false))).bind fun b1 =>
  cond b1 ((impl_treeReader_fail k 1 o0 o10).bind fun r2 => impl_treeReader_text.c6 k t3 r2.2.1 r2.2.2) (impl_treeReader_text.c6 k t3 o0 o10)

def impl_treeReader_text (k : Nat) (o0 : TTreeReaderB) (o10 : List TNode) : Option (ByteArray × TTreeReaderB × (List TNode)) :=
  (impl_treeReader_uvar k o0 o10).bind fun r3 =>
  (cond (r3.2.1.2.2.2.1 == 0) ((impl_within k r3.1 0 300).bind fun r4 => some (!r4)) (some (false))).bind fun b5 =>
  cond b5
    ((impl_treeReader_fail k 4 r3.2.1 r3.2.2).bind fun r6 => impl_treeReader_text.c4 k r3.1 r6.2.1 r6.2.2)
    (impl_treeReader_text.c4 k r3.1 r3.2.1 r3.2.2)

def impl_treeReader_one (k : Nat) (o0 : TTreeReaderB) (o10 : List TNode) : Option (Int × TTreeReaderB × (List TNode)) :=
  (cond (o0.2.2.2.1 != 0) (some (true)) (some (decide (o0.2.1 ≥ (List.length o0.1 : Int))))).bind fun b1 =>
  cond b1
    ((impl_treeReader_fail k 1 o0 o10).bind fun r2 => some (0, (r2.2.1, r2.2.2)))
    ((rdL o0.1 (IntKind.wrap .i64 ((IntKind.wrap .i64 (o0.2.1 + 1)) - 1))).bind fun y3 =>
     some (IntKind.wrap .i64 y3, ((o0.1, IntKind.wrap .i64 (o0.2.1 + 1), (), o0.2.2.2.1, ()), o10)))

def impl_isType.c10 (k : Nat) (t11 : Bool) : Option Bool :=
  cond t11 (some true) (some false)

def impl_isType.c4 (k : Nat) (t1 : Bool) (t5 : Int) (t6 : Bool) : Option Bool :=
  cond t6
    (some (!t1))
    (cond (t5 == 5)
       (impl_isType.c10 k (t5 == 5))
       (cond (t5 == 6)
          (impl_isType.c10 k (t5 == 6))
          (cond (t5 == 8) (impl_isType.c10 k (t5 == 8)) (cond (t5 == 9) (impl_isType.c10 k (t5 == 9)) (impl_isType.c10 k (t5 == 12))))))

def impl_isType (k : Nat) (t0 : Int) (t1 : Bool) : Option Bool :=
  cond (t0 == 1) (impl_isType.c4 k t1 t0 (t0 == 1)) (impl_isType.c4 k t1 t0 (t0 == 2))

def impl_treeReader_node.c8 (k : Nat) (t8 : Int) (t9 : Int) (o0 : TTreeReaderB) (o100 : List TNode) : Option (Unit × TTreeReaderB × (List TNode)) :=
  (rdL o100 t8).bind fun y1 =>
  (rdL o100 t8).bind fun y2 => some ((), (o0, List.set o100 (Int.toNat t8) (y2.1, y2.2.1, t9, y2.2.2.2.1, y2.2.2.2.2.1, ())))

def impl_treeReader_node.d10 (k : Nat) (t8 : Int) (o0 : TTreeReaderB) (o100 : List TNode) : Option (Unit × TTreeReaderB × (List TNode)) :=
  (impl_treeReader_text k o0 o100).bind fun r3 =>
  (rdL r3.2.2 t8).bind fun y4 =>
  (rdL r3.2.2 t8).bind fun y5 => some ((), (r3.2.1, List.set r3.2.2 (Int.toNat t8) (y5.1, y5.2.1, y5.2.2.1, r3.1, y5.2.2.2.2.1, ())))

def impl_treeReader_node.c5 (k : Nat) (S214 : Int → Int → TTreeReaderB → (List TNode) → Option (Unit × TTreeReaderB × (List TNode))) (S215 : Int → Int → TTreeReaderB → (List TNode) → Option (Unit × TTreeReaderB × (List TNode))) (t1 : Int) (t3 : Int) (t8 : Int) (t21 : Int) (t22 : Bool) (o0 : TTreeReaderB) (o100 : List TNode) : Option (Unit × TTreeReaderB × (List TNode)) :=
  cond t22
    ((impl_treeReader_uvar k o0 o100).bind fun r12 =>
     (impl_Zag k r12.1).bind fun r13 =>
     (cond (t1 == 5) (some (r12.2.1.2.2.2.1 == 0)) (some (false))).bind fun b14 =>
     (cond b14 ((impl_isInt32 k r13).bind fun r15 => some (!r15)) (some (false))).bind fun b16 =>
     cond b16
       ((impl_treeReader_fail k 3 r12.2.1 r12.2.2).bind fun r17 => impl_treeReader_node.c8 k t8 r13 r17.2.1 r17.2.2)
       (impl_treeReader_node.c8 k t8 r13 r12.2.1 r12.2.2))
    (cond (t21 == 8)
       (impl_treeReader_node.d10 k t8 o0 o100)
       (cond (t21 == 9)
          ((S214 t8 t3 o0 o100).bind fun r18 => some ((), (r18.2.1, r18.2.2)))
          (cond (t21 == 12) ((S215 t8 t3 o0 o100).bind fun r19 => some ((), (r19.2.1, r19.2.2))) (some ((), (o0, o100))))))

def impl_treeReader_node.b (k : Nat) (S111 : Int → Int → Int → TTreeReaderB → (List TNode) → Option (Unit × TTreeReaderB × (List TNode))) (S214 : Int → Int → TTreeReaderB → (List TNode) → Option (Unit × TTreeReaderB × (List TNode))) (S215 : Int → Int → TTreeReaderB → (List TNode) → Option (Unit × TTreeReaderB × (List TNode))) (t1 : Int) (t2 : Int) (t3 : Int) (o0 : TTreeReaderB) (o10 : List TNode) : Option (Unit × TTreeReaderB × (List TNode)) :=
  (impl_treeReader_begin k (t1, t2, 0, (⟨#[]⟩ : ByteArray), 0, ()) t3 o0 o10).bind fun r20 =>
  cond (r20.2.1.2.2.2.1 != 0)
    (some ((), (r20.2.1, r20.2.2)))
    (cond (t1 == 5)
       (impl_treeReader_node.c5 k S214 S215 t1 t3 r20.1 t1 (t1 == 5) r20.2.1 r20.2.2)
       (impl_treeReader_node.c5 k S214 S215 t1 t3 r20.1 t1 (t1 == 6) r20.2.1 r20.2.2))

def impl_treeReader_parts.l11 (k : Nat) (S111 : Int → Int → Int → TTreeReaderB → (List TNode) → Option (Unit × TTreeReaderB × (List TNode))) : Nat → Int → Int → Int → Int → TTreeReaderB → (List TNode) → Option (Unit × TTreeReaderB × (List TNode))
  | 0, _, _, _, _, _, _ => none
  | n + 1, t2, t7, t8, t9, o0, o100 =>
    (cond (decide (t9 < t7)) (some (o0.2.2.2.1 == 0)) (some (false))).bind fun b1 =>
    cond b1
      ((S111 t8 0 (IntKind.wrap .i64 (t2 + 1)) o0 o100).bind fun r2 =>
       (impl_treeReader_parts.l11 k S111 n) t2 t7 t8 (IntKind.wrap .i64 (t9 + 1)) r2.2.1 r2.2.2)
      (some ((), (o0, o100)))

def impl_treeReader_parts.c9 (k : Nat) (S111 : Int → Int → Int → TTreeReaderB → (List TNode) → Option (Unit × TTreeReaderB × (List TNode))) (t1 : Int) (t2 : Int) (t7 : Int) (t8 : Int) (o0 : TTreeReaderB) (o10 : List TNode) : Option (Unit × TTreeReaderB × (List TNode)) :=
  (rdL o10 t1).bind fun y3 =>
  (rdL o10 t1).bind fun y4 =>
  (rdL (List.set o10 (Int.toNat t1) (y4.1, y4.2.1, y4.2.2.1, y4.2.2.2.1, t7, ())) t1).bind fun y5 =>
  (rdL (List.set o10 (Int.toNat t1) (y4.1, y4.2.1, y4.2.2.1, y4.2.2.2.1, t7, ())) t1).bind fun y6 =>
  impl_treeReader_parts.l11 k S111 k t2 t7 t8 0 o0 (List.set (List.set o10 (Int.toNat t1) (y4.1, y4.2.1, y4.2.2.1, y4.2.2.2.1, t7, ())) (Int.toNat t1) (y6.1, y6.2.1, t8, y6.2.2.2.1, y6.2.2.2.2.1, ()))

def impl_treeReader_parts.c7 (k : Nat) (S111 : Int → Int → Int → TTreeReaderB → (List TNode) → Option (Unit × TTreeReaderB × (List TNode))) (t1 : Int) (t2 : Int) (t7 : Int) (t8 : Int) (o0 : TTreeReaderB) (o10 : List TNode) : Option (Unit × TTreeReaderB × (List TNode)) :=
  (impl_within k t7 0 1500).bind fun r7 =>
  cond (!r7)
    ((impl_treeReader_fail k 4 o0 o10).bind fun r8 => impl_treeReader_parts.c9 k S111 t1 t2 t7 t8 r8.2.1 r8.2.2)
    (impl_treeReader_parts.c9 k S111 t1 t2 t7 t8 o0 o10)

def impl_treeReader_parts.c4 (k : Nat) (S111 : Int → Int → Int → TTreeReaderB → (List TNode) → Option (Unit × TTreeReaderB × (List TNode))) (t1 : Int) (t2 : Int) (t7 : Int) (t8 : Int) (o0 : TTreeReaderB) (o10 : List TNode) : Option (Unit × TTreeReaderB × (List TNode)) :=
  (cond (o0.2.2.2.1 != 0) (some (true)) (some (t7 == 0))).bind fun b9 =>
  cond b9
    (some ((), (o0, o10)))
    ((impl_isType k t8 true).bind fun r10 =>
     cond (!r10)
       ((impl_treeReader_fail k 2 o0 o10).bind fun r11 => impl_treeReader_parts.c7 k S111 t1 t2 t7 t8 r11.2.1 r11.2.2)
       (impl_treeReader_parts.c7 k S111 t1 t2 t7 t8 o0 o10))

def impl_treeReader_parts.b (k : Nat) (S111 : Int → Int → Int → TTreeReaderB → (List TNode) → Option (Unit × TTreeReaderB × (List TNode))) (S214 : Int → Int → TTreeReaderB → (List TNode) → Option (Unit × TTreeReaderB × (List TNode))) (S215 : Int → Int → TTreeReaderB → (List TNode) → Option (Unit × TTreeReaderB × (List TNode))) (t1 : Int) (t2 : Int) (o0 : TTreeReaderB) (o10 : List TNode) : Option (Unit × TTreeReaderB × (List TNode)) :=
  (impl_treeReader_one k o0 o10).bind fun r12 =>
  cond ((IntKind.wrap .i64 (Int.tdiv r12.1 16)) == 15)
    ((impl_treeReader_uvar k r12.2.1 r12.2.2).bind fun r13 => impl_treeReader_parts.c4 k S111 t1 t2 r13.1 (Int.tmod r12.1 16) r13.2.1 r13.2.2)
    (impl_treeReader_parts.c4 k S111 t1 t2 (IntKind.wrap .i64 (Int.tdiv r12.1 16)) (Int.tmod r12.1 16) r12.2.1 r12.2.2)

def impl_treeReader_fields.c12 (k : Nat) (S111 : Int → Int → Int → TTreeReaderB → (List TNode) → Option (Unit × TTreeReaderB × (List TNode))) (L1 : Int → Int → Int → TTreeReaderB → (List TNode) → Option (Unit × TTreeReaderB × (List TNode))) (t1 : Int) (t2 : Int) (t8 : Int) (t9 : Int) (o0 : TTreeReaderB) (o100 : List TNode) : Option (Unit × TTreeReaderB × (List TNode)) :=
  cond (o0.2.2.2.1 != 0)
    (some ((), (o0, o100)))
    ((rdL o100 t1).bind fun y1 =>
     (rdL o100 t1).bind fun y2 =>
     (rdL o100 t1).bind fun y3 =>
     (S111 t8 t9 (IntKind.wrap .i64 (t2 + 1)) o0 (List.set o100 (Int.toNat t1) (y3.1, y3.2.1, y3.2.2.1, y3.2.2.2.1, IntKind.wrap .i64 (y1.2.2.2.2.1 + 1), ()))).bind fun r4 =>
     L1 t1 t2 t9 r4.2.1 r4.2.2)

def impl_treeReader_fields.c10 (k : Nat) (S111 : Int → Int → Int → TTreeReaderB → (List TNode) → Option (Unit × TTreeReaderB × (List TNode))) (L1 : Int → Int → Int → TTreeReaderB → (List TNode) → Option (Unit × TTreeReaderB × (List TNode))) (t1 : Int) (t2 : Int) (t6 : Int) (t8 : Int) (t9 : Int) (o0 : TTreeReaderB) (o100 : List TNode) : Option (Unit × TTreeReaderB × (List TNode)) :=
  (cond (o0.2.2.2.1 == 0) (some (decide (t9 ≤ t6))) (some (false))).bind fun b5 =>
  cond b5
    ((impl_treeReader_fail k 5 o0 o100).bind fun r6 => impl_treeReader_fields.c12 k S111 L1 t1 t2 t8 t9 r6.2.1 r6.2.2)
    (impl_treeReader_fields.c12 k S111 L1 t1 t2 t8 t9 o0 o100)

def impl_treeReader_fields.c8 (k : Nat) (S111 : Int → Int → Int → TTreeReaderB → (List TNode) → Option (Unit × TTreeReaderB × (List TNode))) (L1 : Int → Int → Int → TTreeReaderB → (List TNode) → Option (Unit × TTreeReaderB × (List TNode))) (t1 : Int) (t2 : Int) (t6 : Int) (t8 : Int) (t9 : Int) (o0 : TTreeReaderB) (o100 : List TNode) : Option (Unit × TTreeReaderB × (List TNode)) :=
  (cond (o0.2.2.2.1 == 0) ((impl_within k t9 1 1000).bind fun r7 => some (!r7)) (some (false))).bind fun b8 =>
  cond b8
    ((impl_treeReader_fail k 3 o0 o100).bind fun r9 => impl_treeReader_fields.c10 k S111 L1 t1 t2 t6 t8 t9 r9.2.1 r9.2.2)
    (impl_treeReader_fields.c10 k S111 L1 t1 t2 t6 t8 t9 o0 o100)

def impl_treeReader_fields.c6 (k : Nat) (S111 : Int → Int → Int → TTreeReaderB → (List TNode) → Option (Unit × TTreeReaderB × (List TNode))) (L1 : Int → Int → Int → TTreeReaderB → (List TNode) → Option (Unit × TTreeReaderB × (List TNode))) (t1 : Int) (t2 : Int) (t6 : Int) (t7 : Int) (t8 : Int) (t9 : Int) (o0 : TTreeReaderB) (o100 : List TNode) : Option (Unit × TTreeReaderB × (List TNode)) :=
  cond (decide (t7 < 16))
    ((impl_treeReader_uvar k o0 o100).bind fun r10 =>
     (impl_Zag k r10.1).bind fun r11 => impl_treeReader_fields.c8 k S111 L1 t1 t2 t6 t8 r11 r10.2.1 r10.2.2)
    (impl_treeReader_fields.c8 k S111 L1 t1 t2 t6 t8 t9 o0 o100)

def impl_treeReader_fields.l1 (k : Nat) (S111 : Int → Int → Int → TTreeReaderB → (List TNode) → Option (Unit × TTreeReaderB × (List TNode))) : Nat → Int → Int → Int → TTreeReaderB → (List TNode) → Option (Unit × TTreeReaderB × (List TNode))
  | 0, _, _, _, _, _ => none
  | n + 1, t1, t2, t6, o0, o100 =>
    (impl_treeReader_one k o0 o100).bind fun r12 =>
    (cond (r12.2.1.2.2.2.1 != 0) (some (true)) (some (r12.1 == 0))).bind fun b13 =>
    cond b13
      (some ((), (r12.2.1, r12.2.2)))
      ((impl_isType k (Int.tmod r12.1 16) false).bind fun r14 =>
       cond (!r14)
         ((impl_treeReader_fail k 2 r12.2.1 r12.2.2).bind fun r15 =>
          impl_treeReader_fields.c6 k S111 (impl_treeReader_fields.l1 k S111 n) t1 t2 t6 r12.1 (Int.tmod r12.1 16) (IntKind.wrap .i64 (t6 + (IntKind.wrap .i64 (Int.tdiv r12.1 16)))) r15.2.1 r15.2.2)
         (impl_treeReader_fields.c6 k S111 (impl_treeReader_fields.l1 k S111 n) t1 t2 t6 r12.1 (Int.tmod r12.1 16) (IntKind.wrap .i64 (t6 + (IntKind.wrap .i64 (Int.tdiv r12.1 16)))) r12.2.1 r12.2.2))

def impl_treeReader_fields.b (k : Nat) (S111 : Int → Int → Int → TTreeReaderB → (List TNode) → Option (Unit × TTreeReaderB × (List TNode))) (S214 : Int → Int → TTreeReaderB → (List TNode) → Option (Unit × TTreeReaderB × (List TNode))) (S215 : Int → Int → TTreeReaderB → (List TNode) → Option (Unit × TTreeReaderB × (List TNode))) (t1 : Int) (t2 : Int) (o0 : TTreeReaderB) (o10 : List TNode) : Option (Unit × TTreeReaderB × (List TNode)) :=
  impl_treeReader_fields.l1 k S111 k t1 t2 0 o0 o10

def impl_treeReader_node.rec (k : Nat) : Nat → (Int → Int → Int → TTreeReaderB → (List TNode) → Option (Unit × TTreeReaderB × (List TNode))) × (Int → Int → TTreeReaderB → (List TNode) → Option (Unit × TTreeReaderB × (List TNode))) × (Int → Int → TTreeReaderB → (List TNode) → Option (Unit × TTreeReaderB × (List TNode)))
  | 0 => (fun _ _ _ _ _ => none, fun _ _ _ _ => none, fun _ _ _ _ => none)
  | d + 1 => (impl_treeReader_node.b k ((impl_treeReader_node.rec k d).1) ((impl_treeReader_node.rec k d).2.1) ((impl_treeReader_node.rec k d).2.2), impl_treeReader_parts.b k ((impl_treeReader_node.rec k d).1) ((impl_treeReader_node.rec k d).2.1) ((impl_treeReader_node.rec k d).2.2), impl_treeReader_fields.b k ((impl_treeReader_node.rec k d).1) ((impl_treeReader_node.rec k d).2.1) ((impl_treeReader_node.rec k d).2.2))

def impl_treeReader_node.d (k d : Nat) : Int → Int → Int → TTreeReaderB → (List TNode) → Option (Unit × TTreeReaderB × (List TNode)) := (impl_treeReader_node.rec k d).1

def impl_treeReader_node (k : Nat) : Int → Int → Int → TTreeReaderB → (List TNode) → Option (Unit × TTreeReaderB × (List TNode)) := impl_treeReader_node.d k k

def impl_treeReader_parts.d (k d : Nat) : Int → Int → TTreeReaderB → (List TNode) → Option (Unit × TTreeReaderB × (List TNode)) := (impl_treeReader_node.rec k d).2.1

def impl_treeReader_parts (k : Nat) : Int → Int → TTreeReaderB → (List TNode) → Option (Unit × TTreeReaderB × (List TNode)) := impl_treeReader_parts.d k k

def impl_treeReader_fields.d (k d : Nat) : Int → Int → TTreeReaderB → (List TNode) → Option (Unit × TTreeReaderB × (List TNode)) := (impl_treeReader_node.rec k d).2.2

def impl_treeReader_fields (k : Nat) : Int → Int → TTreeReaderB → (List TNode) → Option (Unit × TTreeReaderB × (List TNode)) := impl_treeReader_fields.d k k

def impl_TreeRead (k : Nat) (t0 : List Int) (t1 : Int) : Option ((Unit × Int × Int) × (List TNode)) :=
  (impl_within k t1 0 (IntKind.wrap .i64 ((List.length t0 : Int) - 1))).bind fun r1 =>
  cond (!r1)
    (some (((), 0, 1), []))
    ((impl_treeReader_node k 12 0 1 (t0, t1, (), 0, ()) []).bind fun r2 =>
     cond (r2.2.1.2.2.2.1 != 0) (some (((), 0, r2.2.1.2.2.2.1), [])) (some (((), r2.2.1.2.1, 0), r2.2.2)))

def spec_UvarGet.l5 (k : Nat) : Nat → (List Int) → Int → Int → Int → Option (Int × Int × Bool)
  | 0, _, _, _, _ => none
  | n + 1, t0, t1, t7, t8 =>
    (cond (decide (t8 < 10)) (some (decide ((IntKind.wrap .i64 (t1 + t8)) < (List.length t0 : Int)))) (some (false))).bind fun b1 =>
    cond b1
      ((rdL t0 (IntKind.wrap .i64 (t1 + t8))).bind fun y2 =>
       cond (decide (0 ≤ (IntKind.wrap .i64 (7 * t8)))) (
       cond (decide ((IntKind.wrap .i64 y2) < 128))
         ((cond (t8 == 9) (some (decide ((IntKind.wrap .i64 y2) > 1))) (some (false))).bind fun b3 =>
          cond b3
            (some (0, 0, false))
            (some (bits .or .i64 t7 (shlI .i64 (bits .and .i64 (IntKind.wrap .i64 y2) 127) (IntKind.wrap .i64 (7 * t8))), IntKind.wrap .i64 ((IntKind.wrap .i64 (t1 + t8)) + 1), true)))
         ((spec_UvarGet.l5 k n) t0 t1 (bits .or .i64 t7 (shlI .i64 (bits .and .i64 (IntKind.wrap .i64 y2) 127) (IntKind.wrap .i64 (7 * t8)))) (IntKind.wrap .i64 (t8 + 1)))) none)
      (some (0, 0, false))

def spec_UvarGet (k : Nat) (t0 : List Int) (t1 : Int) : Option (Int × Int × Bool) :=
  (cond (decide (t1 < 0)) (some (true)) (some (decide (t1 ≥ (List.length t0 : Int))))).bind fun b4 =>
  cond b4 (some (0, 0, false)) (spec_UvarGet.l5 k k t0 t1 0 0)

def spec_Zag (k : Nat) (t0 : Int) : Option Int :=
  cond ((bits .and .i64 t0 1) == 1) ((spec_l2Down k t0 1).bind fun r1 => some (bits .xor .i64 (-1) r1)) ((spec_l2Down k t0 1).bind fun r2 => some r2)

def spec_ZigGet (k : Nat) (t0 : List Int) (t1 : Int) : Option (Int × Int × Bool) :=
  (spec_UvarGet k t0 t1).bind fun r1 => cond (!r1.2.2) (some (0, 0, false)) ((spec_Zag k r1.1).bind fun r2 => some (r2, r1.2.1, true))

def spec_l4Text (k : Nat) (t0 : List Int) (t1 : Int) : Option (ByteArray × Int × Int) :=
  (spec_UvarGet k t0 t1).bind fun r1 =>
  cond (!r1.2.2)
    (some ((⟨#[]⟩ : ByteArray), 0, 1))
    ((cond (decide (r1.1 < 0)) (some (true)) (some (decide (r1.1 > 300)))).bind fun b2 =>
     cond b2
       (some ((⟨#[]⟩ : ByteArray), 0, 4))
       (cond (decide ((IntKind.wrap .i64 ((List.length t0 : Int) - r1.2.1)) < r1.1))
          (some ((⟨#[]⟩ : ByteArray), 0, 1))
          (cond (inSl r1.2.1 (IntKind.wrap .i64 (r1.2.1 + r1.1)) (List.length t0)) (
           some (intsStr (cutL t0 r1.2.1 (IntKind.wrap .i64 (r1.2.1 + r1.1))), IntKind.wrap .i64 (r1.2.1 + r1.1), 0)) none)))

def spec_l4Many.c11 (k : Nat) (t1 : Int) (t8 : Int) (t9 : Int) : Option (Int × Int × Int × Int) :=
  cond (t8 == 0)
    (some (0, 0, t1, 0))
    ((spec_l4Item k t9).bind fun r1 =>
     cond (!r1)
       (some (0, 0, 0, 2))
       ((cond (decide (t8 < 0)) (some (true)) (some (decide (t8 > 1500)))).bind fun b2 => cond b2 (some (0, 0, 0, 4)) (some (t8, t9, t1, 0))))

def spec_l4Many (k : Nat) (t0 : List Int) (t1 : Int) : Option (Int × Int × Int × Int) :=
  cond (decide (t1 ≥ (List.length t0 : Int)))
    (some (0, 0, 0, 1))
    ((rdL t0 t1).bind fun y3 =>
     (rdL t0 t1).bind fun y4 =>
     cond ((IntKind.wrap .i64 (Int.tdiv (IntKind.wrap .i64 y3) 16)) == 15)
       ((spec_UvarGet k t0 (IntKind.wrap .i64 (t1 + 1))).bind fun r5 =>
        cond (!r5.2.2) (some (0, 0, 0, 1)) (spec_l4Many.c11 k r5.2.1 r5.1 (Int.tmod (IntKind.wrap .i64 y4) 16)))
       (spec_l4Many.c11 k (IntKind.wrap .i64 (t1 + 1)) (IntKind.wrap .i64 (Int.tdiv (IntKind.wrap .i64 y3) 16)) (Int.tmod (IntKind.wrap .i64 y4) 16)))

def spec_l4Head.c16 (k : Nat) (t1 : Int) (t2 : Int) (t10 : Int) (t12 : Int) : Option (Int × Int × Int × Int) :=
  (spec_l1In k t12 1 1000).bind fun r1 => cond (!r1) (some (0, 0, 0, 3)) (cond (decide (t12 ≤ t2)) (some (0, 0, 0, 5)) (some (t10, t12, t1, 0)))

def spec_l4Head (k : Nat) (t0 : List Int) (t1 : Int) (t2 : Int) : Option (Int × Int × Int × Int) :=
  cond (decide (t1 ≥ (List.length t0 : Int)))
    (some (0, 0, 0, 1))
    ((rdL t0 t1).bind fun y2 =>
     (rdL t0 t1).bind fun y3 =>
     (rdL t0 t1).bind fun y4 =>
     cond (y4 == 0)
       (some (0, 0, IntKind.wrap .i64 (t1 + 1), 0))
       ((spec_l4Kind k (Int.tmod (IntKind.wrap .i64 y2) 16)).bind fun r5 =>
        cond (!r5)
          (some (0, 0, 0, 2))
          (cond ((IntKind.wrap .i64 (Int.tdiv (IntKind.wrap .i64 y3) 16)) == 0)
             ((spec_ZigGet k t0 (IntKind.wrap .i64 (t1 + 1))).bind fun r6 =>
              cond (!r6.2.2) (some (0, 0, 0, 1)) (spec_l4Head.c16 k r6.2.1 t2 (Int.tmod (IntKind.wrap .i64 y2) 16) r6.1))
             (spec_l4Head.c16 k (IntKind.wrap .i64 (t1 + 1)) t2 (Int.tmod (IntKind.wrap .i64 y2) 16) (IntKind.wrap .i64 (t2 + (IntKind.wrap .i64 (Int.tdiv (IntKind.wrap .i64 y3) 16))))))))

def spec_l4Read.l24 (k : Nat) (S112 : (List Int) → Int → Int → Int → Int → (List TNode) → Option ((Unit × Int × Int) × (List TNode))) : Nat → (List Int) → Int → Int → Int → Int → Int → Int → (List TNode) → Option ((Unit × Int × Int) × (List TNode))
  | 0, _, _, _, _, _, _, _, _ => none
  | n + 1, t0, t4, t22, t23, t24, t25, t26, o100 =>
    (cond (decide (t26 < t22)) (some (t25 == 0)) (some (false))).bind fun b1 =>
    cond b1
      ((S112 t0 t24 t23 0 (IntKind.wrap .i64 (t4 + 1)) o100).bind fun r2 =>
       (spec_l4Read.l24 k S112 n) t0 t4 t22 t23 r2.1.2.1 r2.1.2.2 (IntKind.wrap .i64 (t26 + 1)) r2.2)
      (some (((), t24, t25), o100))

def spec_l4Read.l30 (k : Nat) (S112 : (List Int) → Int → Int → Int → Int → (List TNode) → Option ((Unit × Int × Int) × (List TNode))) : Nat → (List Int) → Int → Int → Int → Int → Int → (List TNode) → Option ((Unit × Int × Int) × (List TNode))
  | 0, _, _, _, _, _, _, _ => none
  | n + 1, t0, t1, t4, t15, t27, t28, o100 =>
    (spec_l4Head k t0 t1 t27).bind fun r3 =>
    cond (r3.2.2.2 != 0)
      (some (((), 0, r3.2.2.2), o100))
      (cond (r3.1 == 0)
         ((rdL o100 t15).bind fun y4 =>
          (rdL o100 t15).bind fun y5 => some (((), r3.2.2.1, 0), List.set o100 (Int.toNat t15) (y5.1, y5.2.1, y5.2.2.1, y5.2.2.2.1, t28, ())))
         ((S112 t0 r3.2.2.1 r3.1 r3.2.1 (IntKind.wrap .i64 (t4 + 1)) o100).bind fun r6 =>
          cond (r6.1.2.2 != 0)
            (some (((), 0, r6.1.2.2), r6.2))
            ((spec_l4Read.l30 k S112 n) t0 r6.1.2.1 t4 t15 r3.2.1 (IntKind.wrap .i64 (t28 + 1)) r6.2)))

def spec_l4Read.c8 (k : Nat) (S112 : (List Int) → Int → Int → Int → Int → (List TNode) → Option ((Unit × Int × Int) × (List TNode))) (t0 : List Int) (t1 : Int) (t2 : Int) (t4 : Int) (t15 : Int) (t49 : Int) (t50 : Bool) (o100 : List TNode) : Option ((Unit × Int × Int) × (List TNode)) :=
  cond t50
    ((spec_ZigGet k t0 t1).bind fun r7 =>
     cond (!r7.2.2)
       (some (((), 0, 1), o100))
       ((cond (t2 == 5) ((spec_l4Int k r7.1).bind fun r8 => some (!r8)) (some (false))).bind fun b9 =>
        cond b9
          (some (((), 0, 3), o100))
          ((rdL o100 t15).bind fun y10 =>
           (rdL o100 t15).bind fun y11 => some (((), r7.2.1, 0), List.set o100 (Int.toNat t15) (y11.1, y11.2.1, r7.1, y11.2.2.2.1, y11.2.2.2.2.1, ())))))
    (cond (t49 == 8)
       ((spec_l4Text k t0 t1).bind fun r12 =>
        (rdL o100 t15).bind fun y13 =>
        (rdL o100 t15).bind fun y14 =>
        some (((), r12.2.1, r12.2.2), List.set o100 (Int.toNat t15) (y14.1, y14.2.1, y14.2.2.1, r12.1, y14.2.2.2.2.1, ())))
       (cond (t49 == 9)
          ((spec_l4Many k t0 t1).bind fun r15 =>
           (rdL o100 t15).bind fun y16 =>
           (rdL o100 t15).bind fun y17 =>
           (rdL (List.set o100 (Int.toNat t15) (y17.1, y17.2.1, y17.2.2.1, y17.2.2.2.1, r15.1, ())) t15).bind fun y18 =>
           (rdL (List.set o100 (Int.toNat t15) (y17.1, y17.2.1, y17.2.2.1, y17.2.2.2.1, r15.1, ())) t15).bind fun y19 =>
           spec_l4Read.l24 k S112 k t0 t4 r15.1 r15.2.1 r15.2.2.1 r15.2.2.2 0 (List.set (List.set o100 (Int.toNat t15) (y17.1, y17.2.1, y17.2.2.1, y17.2.2.2.1, r15.1, ())) (Int.toNat t15) (y19.1, y19.2.1, r15.2.1, y19.2.2.2.1, y19.2.2.2.2.1, ())))
          (cond (t49 == 12) (spec_l4Read.l30 k S112 k t0 t1 t4 t15 0 0 o100) (some (((), t1, 0), o100)))))

def spec_l4Read.b (k : Nat) (S112 : (List Int) → Int → Int → Int → Int → (List TNode) → Option ((Unit × Int × Int) × (List TNode))) (t0 : List Int) (t1 : Int) (t2 : Int) (t3 : Int) (t4 : Int) (o10 : List TNode) : Option ((Unit × Int × Int) × (List TNode)) :=
  (cond ((List.length o10 : Int) == 1500) (some (true)) (some (decide (t4 > 12)))).bind fun b20 =>
  cond b20
    (some (((), 0, 4), o10))
    (cond (lim (List.length o10 + List.length ([(t2, t3, 0, (⟨#[]⟩ : ByteArray), 0, ())] : List TNode))) (
     cond (t2 == 5)
       (spec_l4Read.c8 k S112 t0 t1 t2 t4 (List.length o10 : Int) t2 (t2 == 5) (o10 ++ [(t2, t3, 0, (⟨#[]⟩ : ByteArray), 0, ())]))
       (spec_l4Read.c8 k S112 t0 t1 t2 t4 (List.length o10 : Int) t2 (t2 == 6) (o10 ++ [(t2, t3, 0, (⟨#[]⟩ : ByteArray), 0, ())]))) none)

def spec_l4Read.rec (k : Nat) : Nat → ((List Int) → Int → Int → Int → Int → (List TNode) → Option ((Unit × Int × Int) × (List TNode)))
  | 0 => fun _ _ _ _ _ _ => none
  | d + 1 => spec_l4Read.b k ((spec_l4Read.rec k d))

def spec_l4Read.d (k d : Nat) : (List Int) → Int → Int → Int → Int → (List TNode) → Option ((Unit × Int × Int) × (List TNode)) := (spec_l4Read.rec k d)

def spec_l4Read (k : Nat) : (List Int) → Int → Int → Int → Int → (List TNode) → Option ((Unit × Int × Int) × (List TNode)) := spec_l4Read.d k k

def spec_TreeRead (k : Nat) (t0 : List Int) (t1 : Int) : Option ((Unit × Int × Int) × (List TNode)) :=
  (cond (decide (t1 < 0)) (some (true)) (some (decide (t1 ≥ (List.length t0 : Int))))).bind fun b1 =>
  cond b1
    (some (((), 0, 1), []))
    ((spec_l4Read k t0 t1 12 0 1 []).bind fun r2 => cond (r2.1.2.2 != 0) (some (((), 0, r2.1.2.2), [])) (some (((), r2.1.2.1, r2.1.2.2), r2.2)))

def impl_nodeOk (k : Nat) (t0 : TNode) : Option Bool :=
  cond (t0.1 == 5)
    ((impl_isInt32 k t0.2.2.1).bind fun r1 =>
     (cond r1 (some (eqS t0.2.2.2.1 (⟨#[]⟩ : ByteArray))) (some (false))).bind fun b2 =>
     (cond b2 (some (t0.2.2.2.2.1 == 0)) (some (false))).bind fun b3 => some b3)
    (cond (t0.1 == 6)
       ((cond (eqS t0.2.2.2.1 (⟨#[]⟩ : ByteArray)) (some (t0.2.2.2.2.1 == 0)) (some (false))).bind fun b4 => some b4)
       (cond (t0.1 == 8)
          ((cond (t0.2.2.1 == 0) (some (decide ((t0.2.2.2.1.size : Int) ≤ 300))) (some (false))).bind fun b5 =>
           (cond b5 (some (t0.2.2.2.2.1 == 0)) (some (false))).bind fun b6 => some b6)
          (cond (t0.1 == 9)
             ((cond (eqS t0.2.2.2.1 (⟨#[]⟩ : ByteArray)) (some (decide (t0.2.2.2.2.1 ≥ 0))) (some (false))).bind fun b7 =>
              (cond b7
                 ((cond (t0.2.2.2.2.1 == 0) (some (t0.2.2.1 == 0)) (some (false))).bind fun b8 =>
                  (cond b8
                     (some (true))
                     ((cond (decide (t0.2.2.2.2.1 > 0)) ((impl_isType k t0.2.2.1 true).bind fun r9 => some (r9)) (some (false))).bind fun b10 =>
                      some (b10))).bind fun b11 =>
                  some (b11))
                 (some (false))).bind fun b12 =>
              some b12)
             (cond (t0.1 == 12)
                ((cond (t0.2.2.1 == 0) (some (eqS t0.2.2.2.1 (⟨#[]⟩ : ByteArray))) (some (false))).bind fun b13 =>
                 (cond b13 (some (decide (t0.2.2.2.2.1 ≥ 0))) (some (false))).bind fun b14 => some b14)
                ((impl_isType k t0.1 false).bind fun r15 =>
                 (cond r15 (some (t0.2.2.1 == 0)) (some (false))).bind fun b16 =>
                 (cond b16 (some (eqS t0.2.2.2.1 (⟨#[]⟩ : ByteArray))) (some (false))).bind fun b17 =>
                 (cond b17 (some (t0.2.2.2.2.1 == 0)) (some (false))).bind fun b18 => some b18)))))

def impl_tree_measure.l7 (k : Nat) (S221 : Int → Int → (Bool × TTreeB) → (List Int) → Option (Int × TTreeB × (List Int))) : Nat → Int → Int → Int → Int → Int → Int → TTreeB → (List Int) → TNode → Option (Int × TTreeB × (List Int))
  | 0, _, _, _, _, _, _, _, _, _ => none
  | n + 1, t1, t2, t8, t9, t43, t44, o0, o10, o100 =>
    cond (decide (t44 < t43))
      (cond (decide (t8 ≥ (List.length o0.1 : Int)))
         (some ((-1), (o0, o10)))
         ((rdL o0.1 t8).bind fun y1 =>
          (cond (o100.1 == 9) ((cond (y1.1 != o100.2.2.1) (some (true)) (some (y1.2.1 != 0))).bind fun b2 => some (b2)) (some (false))).bind fun b3 =>
          cond b3
            (some ((-1), (o0, o10)))
            ((cond (o100.1 == 12) ((impl_within k y1.2.1 (IntKind.wrap .i64 (t9 + 1)) 1000).bind fun r4 => some (!r4)) (some (false))).bind fun b5 =>
             cond b5
               (some ((-1), (o0, o10)))
               ((S221 t8 (IntKind.wrap .i64 (t2 + 1)) (true, o0) o10).bind fun r6 =>
                cond (decide (r6.1 < 0))
                  (some ((-1), (r6.2.1, r6.2.2)))
                  ((impl_tree_measure.l7 k S221 n) t1 t2 r6.1 y1.2.1 t43 (IntKind.wrap .i64 (t44 + 1)) r6.2.1 r6.2.2 o100)))))
      ((rdL o10 t1).bind fun y7 => (rdL o10 t1).bind fun y8 => some (t8, (o0, List.set o10 (Int.toNat t1) t8)))

def impl_tree_measure.b (k : Nat) (S221 : Int → Int → (Bool × TTreeB) → (List Int) → Option (Int × TTreeB × (List Int))) (t1 : Int) (t2 : Int) (o0 : Bool × TTreeB) (o10 : List Int) : Option (Int × TTreeB × (List Int)) :=
  cond (o0.1) (
  (cond (decide (t1 ≥ (List.length o0.2.1 : Int))) (some (true)) (some (decide (t2 > 12)))).bind fun b9 =>
  (cond b9 (some (true)) ((rdL o0.2.1 t1).bind fun y10 => (impl_nodeOk k y10).bind fun r11 => some (!r11))).bind fun b12 =>
  cond b12
    (some ((-1), (o0.2, o10)))
    ((rdL o0.2.1 t1).bind fun y13 => impl_tree_measure.l7 k S221 k t1 t2 (IntKind.wrap .i64 (t1 + 1)) 0 y13.2.2.2.2.1 0 o0.2 o10 y13)) none

def impl_tree_measure.rec (k : Nat) : Nat → (Int → Int → (Bool × TTreeB) → (List Int) → Option (Int × TTreeB × (List Int)))
  | 0 => fun _ _ _ _ => none
  | d + 1 => impl_tree_measure.b k ((impl_tree_measure.rec k d))

def impl_tree_measure.d (k d : Nat) : Int → Int → (Bool × TTreeB) → (List Int) → Option (Int × TTreeB × (List Int)) := (impl_tree_measure.rec k d)

def impl_tree_measure (k : Nat) : Int → Int → (Bool × TTreeB) → (List Int) → Option (Int × TTreeB × (List Int)) := impl_tree_measure.d k k

def impl_treeOf (k : Nat) (t0 : List TNode) : Option ((Unit × Bool) × (Bool × TTreeB) × (List Int)) :=
  (impl_within k (List.length t0 : Int) 1 1500).bind fun r1 =>
  cond (!r1)
    (some (((), false), ((false, ([], (), ())), [])))
    (cond (okLen (List.length t0 : Int)) (
     (rdL t0 0).bind fun y2 =>
     (cond (y2.1 != 12) (some (true)) (some (y2.2.1 != 0))).bind fun b3 =>
     cond b3
       (cond true
          (some (((), false), ((false, ([], (), ())), [])))
          (some (((), true), ((true, (t0, (), ())), List.replicate (Int.toNat (List.length t0 : Int)) 0))))
       ((impl_tree_measure k 0 1 (true, (t0, (), ())) (List.replicate (Int.toNat (List.length t0 : Int)) 0)).bind fun r4 =>
        cond (r4.1 != (List.length t0 : Int)) (some (((), false), ((false, ([], (), ())), []))) (some (((), true), ((true, r4.2.1), r4.2.2))))) none)

def impl_UvarPut.l3 (k : Nat) : Nat → Int → (List Int) → Option (Unit × (List Int))
  | 0, _, _ => none
  | n + 1, t3, o100 =>
    cond (decide (t3 > 127))
      (cond (lim (List.length o100 + List.length [IntKind.wrap .u8 (bits .or .u64 (bits .and .u64 t3 127) 128)])) (
       (impl_UvarPut.l3 k n) (shrI .u64 t3 7) (o100 ++ [IntKind.wrap .u8 (bits .or .u64 (bits .and .u64 t3 127) 128)])) none)
      (cond (lim (List.length o100 + List.length [IntKind.wrap .u8 t3])) (some ((), o100 ++ [IntKind.wrap .u8 t3])) none)

def impl_UvarPut (k : Nat) (t0 : Int) : Option (Unit × (List Int)) :=
  impl_UvarPut.l3 k k (IntKind.wrap .u64 t0) []

def impl_Zig (k : Nat) (t0 : Int) : Option Int :=
  some (bits .xor .i64 (shlI .i64 t0 1) (shrI .i64 t0 63))

def impl_ZigPut (k : Nat) (t0 : Int) : Option (Unit × (List Int)) :=
  (impl_Zig k t0).bind fun r1 => (impl_UvarPut k r1).bind fun r2 => some ((), r2.2)

def impl_headOf.d4 (k : Nat) (o100 : TNode) : Option (Unit × (List Int)) :=
  (impl_ZigPut k o100.2.1).bind fun r1 =>
  cond (lim (List.length [IntKind.wrap .u8 o100.1] + List.length r1.2)) (some ((), [IntKind.wrap .u8 o100.1] ++ r1.2)) none

def impl_headOf (k : Nat) (t0 : TNode) (t1 : Int) : Option (Unit × (List Int)) :=
  cond (decide ((IntKind.wrap .i64 (t0.2.1 - t1)) ≤ 15))
    (some ((), [IntKind.wrap .u8 (IntKind.wrap .i64 ((IntKind.wrap .i64 (16 * (IntKind.wrap .i64 (t0.2.1 - t1)))) + t0.1))]))
    (impl_headOf.d4 k t0)

def impl_tree_bytesOf.c26 (k : Nat) (o0 : TTreeB) (o10 : List Int) (o100 : List Int) : Option (Unit × TTreeB × (List Int) × (List Int)) :=
  some ((), (o0, o10, o100))

def impl_tree_bytesOf.c20 (k : Nat) (S114 : Int → (Bool × TTreeB) → (List Int) → Option (Unit × TTreeB × (List Int) × (List Int))) (L16 : Int → Int → Int → Int → TTreeB → (List Int) → TNode → (List Int) → Option (Unit × TTreeB × (List Int) × (List Int))) (t7 : Int) (t62 : Int) (t63 : Int) (o0 : TTreeB) (o10 : List Int) (o100 : TNode) (o101 : List Int) (o102 : TNode) : Option (Unit × TTreeB × (List Int) × (List Int)) :=
  (S114 t7 (true, o0) o10).bind fun r1 =>
  cond (lim (List.length o101 + List.length r1.2.2.2)) (
  (rdL r1.2.2.1 t7).bind fun y2 => L16 y2 o102.2.1 t62 (IntKind.wrap .i64 (t63 + 1)) r1.2.1 r1.2.2.1 o100 (o101 ++ r1.2.2.2)) none

def impl_tree_bytesOf.l16 (k : Nat) (S114 : Int → (Bool × TTreeB) → (List Int) → Option (Unit × TTreeB × (List Int) × (List Int))) : Nat → Int → Int → Int → Int → TTreeB → (List Int) → TNode → (List Int) → Option (Unit × TTreeB × (List Int) × (List Int))
  | 0, _, _, _, _, _, _, _, _ => none
  | n + 1, t7, t8, t62, t63, o0, o10, o100, o101 =>
    cond (decide (t63 < t62))
      ((rdL o0.1 t7).bind fun y3 =>
       cond (o100.1 == 12)
         ((impl_headOf k y3 t8).bind fun r4 =>
          cond (lim (List.length o101 + List.length r4.2)) (
          impl_tree_bytesOf.c20 k S114 (impl_tree_bytesOf.l16 k S114 n) t7 t62 t63 o0 o10 o100 (o101 ++ r4.2) y3) none)
         (impl_tree_bytesOf.c20 k S114 (impl_tree_bytesOf.l16 k S114 n) t7 t62 t63 o0 o10 o100 o101 y3))
      (cond (o100.1 == 12)
         (cond (lim (List.length o101 + List.length [0])) (impl_tree_bytesOf.c26 k o0 o10 (o101 ++ [0])) none)
         (impl_tree_bytesOf.c26 k o0 o10 o101))

def impl_tree_bytesOf.c13 (k : Nat) (S114 : Int → (Bool × TTreeB) → (List Int) → Option (Unit × TTreeB × (List Int) × (List Int))) (t1 : Int) (o0 : TTreeB) (o10 : List Int) (o100 : TNode) (o101 : List Int) : Option (Unit × TTreeB × (List Int) × (List Int)) :=
  impl_tree_bytesOf.l16 k S114 k (IntKind.wrap .i64 (t1 + 1)) 0 o100.2.2.2.2.1 0 o0 o10 o100 o101

def impl_tree_bytesOf.d8 (k : Nat) (o0 : TTreeB) (o10 : List Int) (o100 : TNode) : Option (Unit × TTreeB × (List Int) × (List Int)) :=
  (impl_UvarPut k (o100.2.2.2.1.size : Int)).bind fun r5 =>
  cond (lim (List.length r5.2 + List.length (strInts o100.2.2.2.1))) (some ((), (o0, o10, r5.2 ++ (strInts o100.2.2.2.1)))) none

def impl_tree_bytesOf.d12 (k : Nat) (S114 : Int → (Bool × TTreeB) → (List Int) → Option (Unit × TTreeB × (List Int) × (List Int))) (t1 : Int) (o0 : TTreeB) (o10 : List Int) (o100 : TNode) : Option (Unit × TTreeB × (List Int) × (List Int)) :=
  (impl_UvarPut k o100.2.2.2.2.1).bind fun r9 =>
  cond (lim (List.length [IntKind.wrap .u8 (IntKind.wrap .i64 (240 + o100.2.2.1))] + List.length r9.2)) (
  impl_tree_bytesOf.c13 k S114 t1 o0 o10 o100 ([IntKind.wrap .u8 (IntKind.wrap .i64 (240 + o100.2.2.1))] ++ r9.2)) none

def impl_tree_bytesOf.c6 (k : Nat) (S114 : Int → (Bool × TTreeB) → (List Int) → Option (Unit × TTreeB × (List Int) × (List Int))) (t1 : Int) (t19 : Int) (t20 : Bool) (o0 : TTreeB) (o10 : List Int) (o100 : TNode) (o101 : List Int) : Option (Unit × TTreeB × (List Int) × (List Int)) :=
  cond t20
    ((impl_ZigPut k o100.2.2.1).bind fun r20 => some ((), (o0, o10, r20.2)))
    (cond (t19 == 8)
       (impl_tree_bytesOf.d8 k o0 o10 o100)
       (cond (t19 == 9)
          (cond (decide (o100.2.2.2.2.1 ≤ 14))
             (cond (lim (List.length o101 + List.length [IntKind.wrap .u8 (IntKind.wrap .i64 ((IntKind.wrap .i64 (16 * o100.2.2.2.2.1)) + o100.2.2.1))])) (
              impl_tree_bytesOf.c13 k S114 t1 o0 o10 o100 (o101 ++ [IntKind.wrap .u8 (IntKind.wrap .i64 ((IntKind.wrap .i64 (16 * o100.2.2.2.2.1)) + o100.2.2.1))])) none)
             (impl_tree_bytesOf.d12 k S114 t1 o0 o10 o100))
          (impl_tree_bytesOf.c13 k S114 t1 o0 o10 o100 o101)))

def impl_tree_bytesOf.b (k : Nat) (S114 : Int → (Bool × TTreeB) → (List Int) → Option (Unit × TTreeB × (List Int) × (List Int))) (t1 : Int) (o0 : Bool × TTreeB) (o10 : List Int) : Option (Unit × TTreeB × (List Int) × (List Int)) :=
  cond (o0.1) (
  (rdL o0.2.1 t1).bind fun y21 =>
  cond (y21.1 == 5)
    (impl_tree_bytesOf.c6 k S114 t1 y21.1 (y21.1 == 5) o0.2 o10 y21 [])
    (impl_tree_bytesOf.c6 k S114 t1 y21.1 (y21.1 == 6) o0.2 o10 y21 [])) none

def impl_tree_bytesOf.rec (k : Nat) : Nat → (Int → (Bool × TTreeB) → (List Int) → Option (Unit × TTreeB × (List Int) × (List Int)))
  | 0 => fun _ _ _ => none
  | d + 1 => impl_tree_bytesOf.b k ((impl_tree_bytesOf.rec k d))

def impl_tree_bytesOf.d (k d : Nat) : Int → (Bool × TTreeB) → (List Int) → Option (Unit × TTreeB × (List Int) × (List Int)) := (impl_tree_bytesOf.rec k d)

def impl_tree_bytesOf (k : Nat) : Int → (Bool × TTreeB) → (List Int) → Option (Unit × TTreeB × (List Int) × (List Int)) := impl_tree_bytesOf.d k k

def impl_TreePack (k : Nat) (t0 : List TNode) : Option ((Unit × Bool) × (List Int)) :=
  (impl_treeOf k t0).bind fun r1 =>
  cond (!r1.1.2) (some (((), false), [])) ((impl_tree_bytesOf k 0 (r1.2.1.1, r1.2.1.2) r1.2.2).bind fun r2 => some (((), true), r2.2.2.2))

def laws_sameNodes.l4 (k : Nat) : Nat → (List TNode) → (List TNode) → Int → Option Bool
  | 0, _, _, _ => none
  | n + 1, t0, t1, t5 =>
    cond (decide (t5 < (List.length t0 : Int)))
      ((rdL t0 t5).bind fun y1 =>
       (rdL t1 t5).bind fun y2 =>
       cond (!(((y1.1 == y2.1) && ((y1.2.1 == y2.2.1) && ((y1.2.2.1 == y2.2.2.1) && (eqS y1.2.2.2.1 y2.2.2.2.1 && ((y1.2.2.2.2.1 == y2.2.2.2.2.1) && true)))))))
         (some false)
         ((laws_sameNodes.l4 k n) t0 t1 (IntKind.wrap .i64 (t5 + 1))))
      (some true)

def laws_sameNodes (k : Nat) (t0 : List TNode) (t1 : List TNode) : Option Bool :=
  cond ((List.length t0 : Int) != (List.length t1 : Int)) (some false) (laws_sameNodes.l4 k k t0 t1 0)

def laws_FnTreeRead (k : Nat) (t0 : List Int) : Option Bool :=
  (laws_big k t0).bind fun r1 =>
  cond r1
    (some true)
    ((spec_DrawTreeRead k t0).bind fun r2 =>
     (impl_TreeRead k r2.1 r2.2).bind fun r3 =>
     (spec_TreeRead k r2.1 r2.2).bind fun r4 =>
     (cond (r3.1.2.2 != r4.1.2.2) (some (true)) (some (r3.1.2.1 != r4.1.2.1))).bind fun b5 =>
     cond b5
       (some false)
       (cond (r3.1.2.2 != 0)
          (some ((List.length r3.2 : Int) == 0))
          ((impl_TreePack k r3.2).bind fun r6 =>
           (impl_TreeRead k r6.2 0).bind fun r7 =>
           cond (inSl 0 (IntKind.wrap .i64 (r3.1.2.1 - 1)) (List.length r2.1)) (
           (impl_TreeRead k (cutL r2.1 0 (IntKind.wrap .i64 (r3.1.2.1 - 1))) r2.2).bind fun r8 =>
           (cond r6.1.2 (some (r7.1.2.2 == 0)) (some (false))).bind fun b9 =>
           (cond b9 ((laws_sameNodes k r7.2 r3.2).bind fun r10 => some (r10)) (some (false))).bind fun b11 =>
           (cond b11 (some (decide ((List.length r6.2 : Int) ≤ (IntKind.wrap .i64 (r3.1.2.1 - r2.2))))) (some (false))).bind fun b12 =>
           (cond b12 (some (r8.1.2.2 == 1)) (some (false))).bind fun b13 => some b13) none)))

def spec_l5Type.c7 (k : Nat) (t4 : Bool) : Option Bool :=
  cond t4 (some true) (some false)

def spec_l5Type (k : Nat) (t0 : Int) : Option Bool :=
  cond (t0 == 0)
    (spec_l5Type.c7 k (t0 == 0))
    (cond (t0 == 1)
       (spec_l5Type.c7 k (t0 == 1))
       (cond (t0 == 2) (spec_l5Type.c7 k (t0 == 2)) (cond (t0 == 5) (spec_l5Type.c7 k (t0 == 5)) (spec_l5Type.c7 k (t0 == 6)))))

def impl_TypeOk (k : Nat) (t0 : Int) : Option Bool :=
  (impl_within k t0 0 2).bind fun r1 =>
  (cond r1 (some (true)) (some (t0 == 5))).bind fun b2 => (cond b2 (some (true)) (some (t0 == 6))).bind fun b3 => some b3

end Go.Fn
