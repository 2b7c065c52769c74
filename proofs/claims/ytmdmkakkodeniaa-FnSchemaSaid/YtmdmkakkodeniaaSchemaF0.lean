/- Clean functions, printed by program. -/
import Derived.Test.YtmdmkakkodeniaaAmStep
set_option linter.unusedVariables false
namespace Go.Fn
open Go.Am

abbrev TVal := Int × ByteArray × Unit
abbrev TL1Cur := (List Int) × Int × Int × Unit
abbrev TCol := ByteArray × Int × Int × Int × Unit
abbrev TTreeReaderB := (List Int) × Int × Unit × Int × Unit
abbrev TRec := (List TVal) × Unit
abbrev TNode := Int × Int × Int × ByteArray × Int × Unit
abbrev TDeltaReader := (List Int) × Int × Bool × (List Int) × Unit
abbrev TTreeB := (List TNode) × Unit × Unit
abbrev TTree := (List TNode) × (List Int) × Unit
abbrev TTreeReader := (List Int) × Int × (List TNode) × Int × Unit
abbrev TWalker := (List TCol) × (List TVal) × Bool × Unit × Unit × Unit

def laws_big (k : Nat) (t0 : List Int) : Option Bool :=
  some (decide ((List.length t0 : Int) > 1048576))

def impl_within (k : Nat) (t0 : Int) (t1 : Int) (t2 : Int) : Option Bool :=
  (cond (decide (t0 ≥ t1)) (some (decide (t0 ≤ t2))) (some (false))).bind fun b1 => some b1

def impl_isInt32 (k : Nat) (t0 : Int) : Option Bool :=
  (impl_within k t0 (-2147483648) 2147483647).bind fun r1 => some r1

def impl_isType.c10 (k : Nat) (t11 : Bool) : Option Bool :=
  cond t11 (some true) (some false)

def impl_isType.c4 (k : Nat) (t1 : Bool) (t5 : Int) (t6 : Bool) : Option Bool :=
  cond t6
    (some (!t1))
    (cond (t5 == 5)
       (impl_isType.c10 k (t5 == 5))
       (cond (t5 == 6)
          (impl_isType.c10 k (t5 == 6))
          (cond (t5 == 8) (impl_isType.c10 k (t5 == 8)) (cond (t5 == 9) (impl_isType.c10 k (t5 == 9)) (impl_isType.c10 k (t5 == 12))))))

def impl_isType (k : Nat) (t0 : Int) (t1 : Bool) : Option Bool :=
  cond (t0 == 1) (impl_isType.c4 k t1 t0 (t0 == 1)) (impl_isType.c4 k t1 t0 (t0 == 2))

def impl_nodeOk (k : Nat) (t0 : TNode) : Option Bool :=
  cond (t0.1 == 5)
    ((impl_isInt32 k t0.2.2.1).bind fun r1 =>
     (cond r1 (some (eqS t0.2.2.2.1 (⟨#[]⟩ : ByteArray))) (some (false))).bind fun b2 =>
     (cond b2 (some (t0.2.2.2.2.1 == 0)) (some (false))).bind fun b3 => some b3)
    (cond (t0.1 == 6)
       ((cond (eqS t0.2.2.2.1 (⟨#[]⟩ : ByteArray)) (some (t0.2.2.2.2.1 == 0)) (some (false))).bind fun b4 => some b4)
       (cond (t0.1 == 8)
          ((cond (t0.2.2.1 == 0) (some (decide ((t0.2.2.2.1.size : Int) ≤ 300))) (some (false))).bind fun b5 =>
           (cond b5 (some (t0.2.2.2.2.1 == 0)) (some (false))).bind fun b6 => some b6)
          (cond (t0.1 == 9)
             ((cond (eqS t0.2.2.2.1 (⟨#[]⟩ : ByteArray)) (some (decide (t0.2.2.2.2.1 ≥ 0))) (some (false))).bind fun b7 =>
              (cond b7
                 ((cond (t0.2.2.2.2.1 == 0) (some (t0.2.2.1 == 0)) (some (false))).bind fun b8 =>
                  (cond b8
                     (some (true))
                     ((cond (decide (t0.2.2.2.2.1 > 0)) ((impl_isType k t0.2.2.1 true).bind fun r9 => some (r9)) (some (false))).bind fun b10 =>
                      some (b10))).bind fun b11 =>
                  some (b11))
                 (some (false))).bind fun b12 =>
              some b12)
             (cond (t0.1 == 12)
                ((cond (t0.2.2.1 == 0) (some (eqS t0.2.2.2.1 (⟨#[]⟩ : ByteArray))) (some (false))).bind fun b13 =>
                 (cond b13 (some (decide (t0.2.2.2.2.1 ≥ 0))) (some (false))).bind fun b14 => some b14)
                ((impl_isType k t0.1 false).bind fun r15 =>
                 (cond r15 (some (t0.2.2.1 == 0)) (some (false))).bind fun b16 =>
                 (cond b16 (some (eqS t0.2.2.2.1 (⟨#[]⟩ : ByteArray))) (some (false))).bind fun b17 =>
                 (cond b17 (some (t0.2.2.2.2.1 == 0)) (some (false))).bind fun b18 => some b18)))))

def impl_tree_measure.l7 (k : Nat) (S94 : Int → Int → (Bool × TTreeB) → (List Int) → Option (Int × TTreeB × (List Int))) : Nat → Int → Int → Int → Int → Int → Int → TTreeB → (List Int) → TNode → Option (Int × TTreeB × (List Int))
  | 0, _, _, _, _, _, _, _, _, _ => none
  | n + 1, t1, t2, t8, t9, t43, t44, o0, o10, o100 =>
    cond (decide (t44 < t43))
      (cond (decide (t8 ≥ (List.length o0.1 : Int)))
         (some ((-1), (o0, o10)))
         ((rdL o0.1 t8).bind fun y1 =>
          (cond (o100.1 == 9) ((cond (y1.1 != o100.2.2.1) (some (true)) (some (y1.2.1 != 0))).bind fun b2 => some (b2)) (some (false))).bind fun b3 =>
          cond b3
            (some ((-1), (o0, o10)))
            ((cond (o100.1 == 12) ((impl_within k y1.2.1 (IntKind.wrap .i64 (t9 + 1)) 1000).bind fun r4 => some (!r4)) (some (false))).bind fun b5 =>
             cond b5
               (some ((-1), (o0, o10)))
               ((S94 t8 (IntKind.wrap .i64 (t2 + 1)) (true, o0) o10).bind fun r6 =>
                cond (decide (r6.1 < 0))
                  (some ((-1), (r6.2.1, r6.2.2)))
                  ((impl_tree_measure.l7 k S94 n) t1 t2 r6.1 y1.2.1 t43 (IntKind.wrap .i64 (t44 + 1)) r6.2.1 r6.2.2 o100)))))
      ((rdL o10 t1).bind fun y7 => (rdL o10 t1).bind fun y8 => some (t8, (o0, List.set o10 (Int.toNat t1) t8)))

def impl_tree_measure.b (k : Nat) (S94 : Int → Int → (Bool × TTreeB) → (List Int) → Option (Int × TTreeB × (List Int))) (t1 : Int) (t2 : Int) (o0 : Bool × TTreeB) (o10 : List Int) : Option (Int × TTreeB × (List Int)) :=
  cond (o0.1) (
  (cond (decide (t1 ≥ (List.length o0.2.1 : Int))) (some (true)) (some (decide (t2 > 12)))).bind fun b9 =>
  (cond b9 (some (true)) ((rdL o0.2.1 t1).bind fun y10 => (impl_nodeOk k y10).bind fun r11 => some (!r11))).bind fun b12 =>
  cond b12
    (some ((-1), (o0.2, o10)))
    ((rdL o0.2.1 t1).bind fun y13 => impl_tree_measure.l7 k S94 k t1 t2 (IntKind.wrap .i64 (t1 + 1)) 0 y13.2.2.2.2.1 0 o0.2 o10 y13)) none

def impl_tree_measure.rec (k : Nat) : Nat → (Int → Int → (Bool × TTreeB) → (List Int) → Option (Int × TTreeB × (List Int)))
  | 0 => fun _ _ _ _ => none
  | d + 1 => impl_tree_measure.b k ((impl_tree_measure.rec k d))

def impl_tree_measure.d (k d : Nat) : Int → Int → (Bool × TTreeB) → (List Int) → Option (Int × TTreeB × (List Int)) := (impl_tree_measure.rec k d)

def impl_tree_measure (k : Nat) : Int → Int → (Bool × TTreeB) → (List Int) → Option (Int × TTreeB × (List Int)) := impl_tree_measure.d k k

def impl_treeOf (k : Nat) (t0 : List TNode) : Option ((Unit × Bool) × (Bool × TTreeB) × (List Int)) :=
  (impl_within k (List.length t0 : Int) 1 1500).bind fun r1 =>
  cond (!r1)
    (some (((), false), ((false, ([], (), ())), [])))
    (cond (okLen (List.length t0 : Int)) (
     (rdL t0 0).bind fun y2 =>
     (cond (y2.1 != 12) (some (true)) (some (y2.2.1 != 0))).bind fun b3 =>
     cond b3
       (cond true
          (some (((), false), ((false, ([], (), ())), [])))
          (some (((), true), ((true, (t0, (), ())), List.replicate (Int.toNat (List.length t0 : Int)) 0))))
       ((impl_tree_measure k 0 1 (true, (t0, (), ())) (List.replicate (Int.toNat (List.length t0 : Int)) 0)).bind fun r4 =>
        cond (r4.1 != (List.length t0 : Int)) (some (((), false), ((false, ([], (), ())), []))) (some (((), true), ((true, r4.2.1), r4.2.2))))) none)

def impl_UvarPut.l3 (k : Nat) : Nat → Int → (List Int) → Option (Unit × (List Int))
  | 0, _, _ => none
  | n + 1, t3, o100 =>
    cond (decide (t3 > 127))
      (cond (lim (List.length o100 + List.length [IntKind.wrap .u8 (bits .or .u64 (bits .and .u64 t3 127) 128)])) (
       (impl_UvarPut.l3 k n) (shrI .u64 t3 7) (o100 ++ [IntKind.wrap .u8 (bits .or .u64 (bits .and .u64 t3 127) 128)])) none)
      (cond (lim (List.length o100 + List.length [IntKind.wrap .u8 t3])) (some ((), o100 ++ [IntKind.wrap .u8 t3])) none)

def impl_UvarPut (k : Nat) (t0 : Int) : Option (Unit × (List Int)) :=
  impl_UvarPut.l3 k k (IntKind.wrap .u64 t0) []

def impl_Zig (k : Nat) (t0 : Int) : Option Int :=
  some (bits .xor .i64 (shlI .i64 t0 1) (shrI .i64 t0 63))

def impl_ZigPut (k : Nat) (t0 : Int) : Option (Unit × (List Int)) :=
  (impl_Zig k t0).bind fun r1 => (impl_UvarPut k r1).bind fun r2 => some ((), r2.2)

def impl_headOf.d4 (k : Nat) (o100 : TNode) : Option (Unit × (List Int)) :=
  (impl_ZigPut k o100.2.1).bind fun r1 =>
  cond (lim (List.length [IntKind.wrap .u8 o100.1] + List.length r1.2)) (some ((), [IntKind.wrap .u8 o100.1] ++ r1.2)) none

def impl_headOf (k : Nat) (t0 : TNode) (t1 : Int) : Option (Unit × (List Int)) :=
  cond (decide ((IntKind.wrap .i64 (t0.2.1 - t1)) ≤ 15))
    (some ((), [IntKind.wrap .u8 (IntKind.wrap .i64 ((IntKind.wrap .i64 (16 * (IntKind.wrap .i64 (t0.2.1 - t1)))) + t0.1))]))
    (impl_headOf.d4 k t0)

def impl_tree_bytesOf.c26 (k : Nat) (o0 : TTreeB) (o10 : List Int) (o100 : List Int) : Option (Unit × TTreeB × (List Int) × (List Int)) :=
  some ((), (o0, o10, o100))

def impl_tree_bytesOf.c20 (k : Nat) (S52 : Int → (Bool × TTreeB) → (List Int) → Option (Unit × TTreeB × (List Int) × (List Int))) (L16 : Int → Int → Int → Int → TTreeB → (List Int) → TNode → (List Int) → Option (Unit × TTreeB × (List Int) × (List Int))) (t7 : Int) (t62 : Int) (t63 : Int) (o0 : TTreeB) (o10 : List Int) (o100 : TNode) (o101 : List Int) (o102 : TNode) : Option (Unit × TTreeB × (List Int) × (List Int)) :=
  (S52 t7 (true, o0) o10).bind fun r1 =>
  cond (lim (List.length o101 + List.length r1.2.2.2)) (
  (rdL r1.2.2.1 t7).bind fun y2 => L16 y2 o102.2.1 t62 (IntKind.wrap .i64 (t63 + 1)) r1.2.1 r1.2.2.1 o100 (o101 ++ r1.2.2.2)) none

def impl_tree_bytesOf.l16 (k : Nat) (S52 : Int → (Bool × TTreeB) → (List Int) → Option (Unit × TTreeB × (List Int) × (List Int))) : Nat → Int → Int → Int → Int → TTreeB → (List Int) → TNode → (List Int) → Option (Unit × TTreeB × (List Int) × (List Int))
  | 0, _, _, _, _, _, _, _, _ => none
  | n + 1, t7, t8, t62, t63, o0, o10, o100, o101 =>
    cond (decide (t63 < t62))
      ((rdL o0.1 t7).bind fun y3 =>
       cond (o100.1 == 12)
         ((impl_headOf k y3 t8).bind fun r4 =>
          cond (lim (List.length o101 + List.length r4.2)) (
          impl_tree_bytesOf.c20 k S52 (impl_tree_bytesOf.l16 k S52 n) t7 t62 t63 o0 o10 o100 (o101 ++ r4.2) y3) none)
         (impl_tree_bytesOf.c20 k S52 (impl_tree_bytesOf.l16 k S52 n) t7 t62 t63 o0 o10 o100 o101 y3))
      (cond (o100.1 == 12)
         (cond (lim (List.length o101 + List.length [0])) (impl_tree_bytesOf.c26 k o0 o10 (o101 ++ [0])) none)
         (impl_tree_bytesOf.c26 k o0 o10 o101))

def impl_tree_bytesOf.c13 (k : Nat) (S52 : Int → (Bool × TTreeB) → (List Int) → Option (Unit × TTreeB × (List Int) × (List Int))) (t1 : Int) (o0 : TTreeB) (o10 : List Int) (o100 : TNode) (o101 : List Int) : Option (Unit × TTreeB × (List Int) × (List Int)) :=
  impl_tree_bytesOf.l16 k S52 k (IntKind.wrap .i64 (t1 + 1)) 0 o100.2.2.2.2.1 0 o0 o10 o100 o101

def impl_tree_bytesOf.d8 (k : Nat) (o0 : TTreeB) (o10 : List Int) (o100 : TNode) : Option (Unit × TTreeB × (List Int) × (List Int)) :=
  (impl_UvarPut k (o100.2.2.2.1.size : Int)).bind fun r5 =>
  cond (lim (List.length r5.2 + List.length (strInts o100.2.2.2.1))) (some ((), (o0, o10, r5.2 ++ (strInts o100.2.2.2.1)))) none

def impl_tree_bytesOf.d12 (k : Nat) (S52 : Int → (Bool × TTreeB) → (List Int) → Option (Unit × TTreeB × (List Int) × (List Int))) (t1 : Int) (o0 : TTreeB) (o10 : List Int) (o100 : TNode) : Option (Unit × TTreeB × (List Int) × (List Int)) :=
  (impl_UvarPut k o100.2.2.2.2.1).bind fun r6 =>
  cond (lim (List.length [IntKind.wrap .u8 (IntKind.wrap .i64 (240 + o100.2.2.1))] + List.length r6.2)) (
  impl_tree_bytesOf.c13 k S52 t1 o0 o10 o100 ([IntKind.wrap .u8 (IntKind.wrap .i64 (240 + o100.2.2.1))] ++ r6.2)) none

def impl_tree_bytesOf.c6 (k : Nat) (S52 : Int → (Bool × TTreeB) → (List Int) → Option (Unit × TTreeB × (List Int) × (List Int))) (t1 : Int) (t19 : Int) (t20 : Bool) (o0 : TTreeB) (o10 : List Int) (o100 : TNode) (o101 : List Int) : Option (Unit × TTreeB × (List Int) × (List Int)) :=
  cond t20
    ((impl_ZigPut k o100.2.2.1).bind fun r7 => some ((), (o0, o10, r7.2)))
    (cond (t19 == 8)
       (impl_tree_bytesOf.d8 k o0 o10 o100)
       (cond (t19 == 9)
          (cond (decide (o100.2.2.2.2.1 ≤ 14))
             (cond (lim (List.length o101 + List.length [IntKind.wrap .u8 (IntKind.wrap .i64 ((IntKind.wrap .i64 (16 * o100.2.2.2.2.1)) + o100.2.2.1))])) (
              impl_tree_bytesOf.c13 k S52 t1 o0 o10 o100 (o101 ++ [IntKind.wrap .u8 (IntKind.wrap .i64 ((IntKind.wrap .i64 (16 * o100.2.2.2.2.1)) + o100.2.2.1))])) none)
             (impl_tree_bytesOf.d12 k S52 t1 o0 o10 o100))
          (impl_tree_bytesOf.c13 k S52 t1 o0 o10 o100 o101)))

def impl_tree_bytesOf.b (k : Nat) (S52 : Int → (Bool × TTreeB) → (List Int) → Option (Unit × TTreeB × (List Int) × (List Int))) (t1 : Int) (o0 : Bool × TTreeB) (o10 : List Int) : Option (Unit × TTreeB × (List Int) × (List Int)) :=
  cond (o0.1) (
  (rdL o0.2.1 t1).bind fun y8 =>
  cond (y8.1 == 5) (impl_tree_bytesOf.c6 k S52 t1 y8.1 (y8.1 == 5) o0.2 o10 y8 []) (impl_tree_bytesOf.c6 k S52 t1 y8.1 (y8.1 == 6) o0.2 o10 y8 [])) none

def impl_tree_bytesOf.rec (k : Nat) : Nat → (Int → (Bool × TTreeB) → (List Int) → Option (Unit × TTreeB × (List Int) × (List Int)))
  | 0 => fun _ _ _ => none
  | d + 1 => impl_tree_bytesOf.b k ((impl_tree_bytesOf.rec k d))

def impl_tree_bytesOf.d (k d : Nat) : Int → (Bool × TTreeB) → (List Int) → Option (Unit × TTreeB × (List Int) × (List Int)) := (impl_tree_bytesOf.rec k d)

def impl_tree_bytesOf (k : Nat) : Int → (Bool × TTreeB) → (List Int) → Option (Unit × TTreeB × (List Int) × (List Int)) := impl_tree_bytesOf.d k k

def impl_TreePack (k : Nat) (t0 : List TNode) : Option ((Unit × Bool) × (List Int)) :=
  (impl_treeOf k t0).bind fun r1 =>
  cond (!r1.1.2) (some (((), false), [])) ((impl_tree_bytesOf k 0 (r1.2.1.1, r1.2.1.2) r1.2.2).bind fun r2 => some (((), true), r2.2.2.2))

def impl_treeReader_fail (k : Nat) (t1 : Int) (o0 : TTreeReaderB) (o10 : List TNode) : Option (Unit × TTreeReaderB × (List TNode)) :=
  cond (o0.2.2.2.1 == 0) (some ((), ((o0.1, o0.2.1, (), t1, ()), o10))) (some ((), (o0, o10)))

def impl_treeReader_begin.d5 (k : Nat) (o0 : TTreeReaderB) (o10 : List TNode) (o100 : TNode) : Option (Int × TTreeReaderB × (List TNode)) :=
  cond (lim (List.length o10 + List.length [o100])) (some (IntKind.wrap .i64 ((List.length (o10 ++ [o100]) : Int) - 1), (o0, o10 ++ [o100]))) none

def impl_treeReader_begin.c3 (k : Nat) (o0 : TTreeReaderB) (o10 : List TNode) (o100 : TNode) : Option (Int × TTreeReaderB × (List TNode)) :=
  cond (o0.2.2.2.1 != 0) (some (0, (o0, o10))) (impl_treeReader_begin.d5 k o0 o10 o100)

def impl_treeReader_begin (k : Nat) (t1 : TNode) (t2 : Int) (o0 : TTreeReaderB) (o10 : List TNode) : Option (Int × TTreeReaderB × (List TNode)) :=
  (cond (decide (t2 > 12)) (some (true)) (some ((List.length o10 : Int) == 1500))).bind fun b1 =>
  cond b1 ((impl_treeReader_fail k 4 o0 o10).bind fun r2 => impl_treeReader_begin.c3 k r2.2.1 r2.2.2 t1) (impl_treeReader_begin.c3 k o0 o10 t1)

def impl_Zag (k : Nat) (t0 : Int) : Option Int :=
  some (bits .xor .i64 (IntKind.wrap .i64 (shrI .u64 (IntKind.wrap .u64 t0) 1)) (IntKind.wrap .i64 (0 - (bits .and .i64 t0 1))))

def impl_UvarGet.c12 (k : Nat) : Option (Int × Int × Bool) :=
  some (0, 0, false)

def impl_UvarGet.l5 (k : Nat) : Nat → (List Int) → Int → Int → Int → Option (Int × Int × Bool)
  | 0, _, _, _, _ => none
  | n + 1, t0, t1, t7, t8 =>
    (cond (decide (t8 < 10)) (some (decide (t8 < (IntKind.wrap .i64 ((List.length t0 : Int) - t1))))) (some (false))).bind fun b1 =>
    cond b1
      ((rdL t0 (IntKind.wrap .i64 (t1 + t8))).bind fun y2 =>
       (cond (t8 == 9) (some (decide (y2 > 1))) (some (false))).bind fun b3 =>
       cond b3
         (impl_UvarGet.c12 k)
         (cond (decide (0 ≤ (IntKind.wrap .i64 (7 * t8)))) (
          cond (decide (y2 < 128))
            (some (IntKind.wrap .i64 (bits .or .u64 t7 (shlI .u64 (IntKind.wrap .u64 (bits .and .u8 y2 127)) (IntKind.wrap .i64 (7 * t8)))), IntKind.wrap .i64 ((IntKind.wrap .i64 (t1 + t8)) + 1), true))
            ((impl_UvarGet.l5 k n) t0 t1 (bits .or .u64 t7 (shlI .u64 (IntKind.wrap .u64 (bits .and .u8 y2 127)) (IntKind.wrap .i64 (7 * t8)))) (IntKind.wrap .i64 (t8 + 1)))) none))
      (impl_UvarGet.c12 k)

def impl_UvarGet (k : Nat) (t0 : List Int) (t1 : Int) : Option (Int × Int × Bool) :=
  cond (decide (t1 < 0)) (some (0, 0, false)) (impl_UvarGet.l5 k k t0 t1 0 0)

def impl_treeReader_uvar (k : Nat) (o0 : TTreeReaderB) (o10 : List TNode) : Option (Int × TTreeReaderB × (List TNode)) :=
  (impl_UvarGet k o0.1 o0.2.1).bind fun r1 =>
  (cond (o0.2.2.2.1 != 0) (some (true)) (some (!r1.2.2))).bind fun b2 =>
  cond b2 ((impl_treeReader_fail k 1 o0 o10).bind fun r3 => some (0, (r3.2.1, r3.2.2))) (some (r1.1, ((o0.1, r1.2.1, (), o0.2.2.2.1, ()), o10)))

def impl_treeReader_text.c6 (k : Nat) (t3 : Int) (o0 : TTreeReaderB) (o10 : List TNode) : Option (ByteArray × TTreeReaderB × (List TNode)) :=
  cond (o0.2.2.2.1 != 0)
    (some ((⟨#[]⟩ : ByteArray), (o0, o10)))
    (cond (inSl (IntKind.wrap .i64 ((IntKind.wrap .i64 (o0.2.1 + t3)) - t3)) (IntKind.wrap .i64 (o0.2.1 + t3)) (List.length o0.1)) (
     some (intsStr (cutL o0.1 (IntKind.wrap .i64 ((IntKind.wrap .i64 (o0.2.1 + t3)) - t3)) (IntKind.wrap .i64 (o0.2.1 + t3))), ((o0.1, IntKind.wrap .i64 (o0.2.1 + t3), (), o0.2.2.2.1, ()), o10))) none)

def impl_treeReader_text.c4 (k : Nat) (t3 : Int) (o0 : TTreeReaderB) (o10 : List TNode) : Option (ByteArray × TTreeReaderB × (List TNode)) :=
  (cond (o0.2.2.2.1 == 0) (some (decide (t3 > (IntKind.wrap .i64 ((List.length o0.1 : Int) - o0.2.1))))) (some (false))).bind fun b1 =>
  cond b1 ((impl_treeReader_fail k 1 o0 o10).bind fun r2 => impl_treeReader_text.c6 k t3 r2.2.1 r2.2.2) (impl_treeReader_text.c6 k t3 o0 o10)

def impl_treeReader_text (k : Nat) (o0 : TTreeReaderB) (o10 : List TNode) : Option (ByteArray × TTreeReaderB × (List TNode)) :=
  (impl_treeReader_uvar k o0 o10).bind fun r3 =>
  (cond (r3.2.1.2.2.2.1 == 0) ((impl_within k r3.1 0 300).bind fun r4 => some (!r4)) (some (false))).bind fun b5 =>
  cond b5
    ((impl_treeReader_fail k 4 r3.2.1 r3.2.2).bind fun r6 => impl_treeReader_text.c4 k r3.1 r6.2.1 r6.2.2)
    (impl_treeReader_text.c4 k r3.1 r3.2.1 r3.2.2)

def impl_treeReader_one (k : Nat) (o0 : TTreeReaderB) (o10 : List TNode) : Option (Int × TTreeReaderB × (List TNode)) :=
  (cond (o0.2.2.2.1 != 0) (some (true)) (some (decide (o0.2.1 ≥ (List.length o0.1 : Int))))).bind fun b1 =>
  cond b1
    ((impl_treeReader_fail k 1 o0 o10).bind fun r2 => some (0, (r2.2.1, r2.2.2)))
    ((rdL o0.1 (IntKind.wrap .i64 ((IntKind.wrap .i64 (o0.2.1 + 1)) - 1))).bind fun y3 =>
     some (IntKind.wrap .i64 y3, ((o0.1, IntKind.wrap .i64 (o0.2.1 + 1), (), o0.2.2.2.1, ()), o10)))

def impl_treeReader_node.c8 (k : Nat) (t8 : Int) (t9 : Int) (o0 : TTreeReaderB) (o100 : List TNode) : Option (Unit × TTreeReaderB × (List TNode)) :=
  (rdL o100 t8).bind fun y1 =>
  (rdL o100 t8).bind fun y2 => some ((), (o0, List.set o100 (Int.toNat t8) (y2.1, y2.2.1, t9, y2.2.2.2.1, y2.2.2.2.2.1, ())))

def impl_treeReader_node.d10 (k : Nat) (t8 : Int) (o0 : TTreeReaderB) (o100 : List TNode) : Option (Unit × TTreeReaderB × (List TNode)) :=
  (impl_treeReader_text k o0 o100).bind fun r3 =>
  (rdL r3.2.2 t8).bind fun y4 =>
  (rdL r3.2.2 t8).bind fun y5 => some ((), (r3.2.1, List.set r3.2.2 (Int.toNat t8) (y5.1, y5.2.1, y5.2.2.1, r3.1, y5.2.2.2.2.1, ())))

def impl_treeReader_node.c5 (k : Nat) (S105 : Int → Int → TTreeReaderB → (List TNode) → Option (Unit × TTreeReaderB × (List TNode))) (S106 : Int → Int → TTreeReaderB → (List TNode) → Option (Unit × TTreeReaderB × (List TNode))) (t1 : Int) (t3 : Int) (t8 : Int) (t21 : Int) (t22 : Bool) (o0 : TTreeReaderB) (o100 : List TNode) : Option (Unit × TTreeReaderB × (List TNode)) :=
  cond t22
    ((impl_treeReader_uvar k o0 o100).bind fun r6 =>
     (impl_Zag k r6.1).bind fun r7 =>
     (cond (t1 == 5) (some (r6.2.1.2.2.2.1 == 0)) (some (false))).bind fun b8 =>
     (cond b8 ((impl_isInt32 k r7).bind fun r9 => some (!r9)) (some (false))).bind fun b10 =>
     cond b10
       ((impl_treeReader_fail k 3 r6.2.1 r6.2.2).bind fun r11 => impl_treeReader_node.c8 k t8 r7 r11.2.1 r11.2.2)
       (impl_treeReader_node.c8 k t8 r7 r6.2.1 r6.2.2))
    (cond (t21 == 8)
       (impl_treeReader_node.d10 k t8 o0 o100)
       (cond (t21 == 9)
          ((S105 t8 t3 o0 o100).bind fun r12 => some ((), (r12.2.1, r12.2.2)))
          (cond (t21 == 12) ((S106 t8 t3 o0 o100).bind fun r13 => some ((), (r13.2.1, r13.2.2))) (some ((), (o0, o100))))))

def impl_treeReader_node.b (k : Nat) (S56 : Int → Int → Int → TTreeReaderB → (List TNode) → Option (Unit × TTreeReaderB × (List TNode))) (S105 : Int → Int → TTreeReaderB → (List TNode) → Option (Unit × TTreeReaderB × (List TNode))) (S106 : Int → Int → TTreeReaderB → (List TNode) → Option (Unit × TTreeReaderB × (List TNode))) (t1 : Int) (t2 : Int) (t3 : Int) (o0 : TTreeReaderB) (o10 : List TNode) : Option (Unit × TTreeReaderB × (List TNode)) :=
  (impl_treeReader_begin k (t1, t2, 0, (⟨#[]⟩ : ByteArray), 0, ()) t3 o0 o10).bind fun r14 =>
  cond (r14.2.1.2.2.2.1 != 0)
    (some ((), (r14.2.1, r14.2.2)))
    (cond (t1 == 5)
       (impl_treeReader_node.c5 k S105 S106 t1 t3 r14.1 t1 (t1 == 5) r14.2.1 r14.2.2)
       (impl_treeReader_node.c5 k S105 S106 t1 t3 r14.1 t1 (t1 == 6) r14.2.1 r14.2.2))

def impl_treeReader_parts.l11 (k : Nat) (S56 : Int → Int → Int → TTreeReaderB → (List TNode) → Option (Unit × TTreeReaderB × (List TNode))) : Nat → Int → Int → Int → Int → TTreeReaderB → (List TNode) → Option (Unit × TTreeReaderB × (List TNode))
  | 0, _, _, _, _, _, _ => none
  | n + 1, t2, t7, t8, t9, o0, o100 =>
    (cond (decide (t9 < t7)) (some (o0.2.2.2.1 == 0)) (some (false))).bind fun b1 =>
    cond b1
      ((S56 t8 0 (IntKind.wrap .i64 (t2 + 1)) o0 o100).bind fun r2 =>
       (impl_treeReader_parts.l11 k S56 n) t2 t7 t8 (IntKind.wrap .i64 (t9 + 1)) r2.2.1 r2.2.2)
      (some ((), (o0, o100)))

def impl_treeReader_parts.c9 (k : Nat) (S56 : Int → Int → Int → TTreeReaderB → (List TNode) → Option (Unit × TTreeReaderB × (List TNode))) (t1 : Int) (t2 : Int) (t7 : Int) (t8 : Int) (o0 : TTreeReaderB) (o10 : List TNode) : Option (Unit × TTreeReaderB × (List TNode)) :=
  (rdL o10 t1).bind fun y3 =>
  (rdL o10 t1).bind fun y4 =>
  (rdL (List.set o10 (Int.toNat t1) (y4.1, y4.2.1, y4.2.2.1, y4.2.2.2.1, t7, ())) t1).bind fun y5 =>
  (rdL (List.set o10 (Int.toNat t1) (y4.1, y4.2.1, y4.2.2.1, y4.2.2.2.1, t7, ())) t1).bind fun y6 =>
  impl_treeReader_parts.l11 k S56 k t2 t7 t8 0 o0 (List.set (List.set o10 (Int.toNat t1) (y4.1, y4.2.1, y4.2.2.1, y4.2.2.2.1, t7, ())) (Int.toNat t1) (y6.1, y6.2.1, t8, y6.2.2.2.1, y6.2.2.2.2.1, ()))

def impl_treeReader_parts.c7 (k : Nat) (S56 : Int → Int → Int → TTreeReaderB → (List TNode) → Option (Unit × TTreeReaderB × (List TNode))) (t1 : Int) (t2 : Int) (t7 : Int) (t8 : Int) (o0 : TTreeReaderB) (o10 : List TNode) : Option (Unit × TTreeReaderB × (List TNode)) :=
  (impl_within k t7 0 1500).bind fun r7 =>
  cond (!r7)
    ((impl_treeReader_fail k 4 o0 o10).bind fun r8 => impl_treeReader_parts.c9 k S56 t1 t2 t7 t8 r8.2.1 r8.2.2)
    (impl_treeReader_parts.c9 k S56 t1 t2 t7 t8 o0 o10)

def impl_treeReader_parts.c4 (k : Nat) (S56 : Int → Int → Int → TTreeReaderB → (List TNode) → Option (Unit × TTreeReaderB × (List TNode))) (t1 : Int) (t2 : Int) (t7 : Int) (t8 : Int) (o0 : TTreeReaderB) (o10 : List TNode) : Option (Unit × TTreeReaderB × (List TNode)) :=
  (cond (o0.2.2.2.1 != 0) (some (true)) (some (t7 == 0))).bind fun b9 =>
  cond b9
    (some ((), (o0, o10)))
    ((impl_isType k t8 true).bind fun r10 =>
     cond (!r10)
       ((impl_treeReader_fail k 2 o0 o10).bind fun r11 => impl_treeReader_parts.c7 k S56 t1 t2 t7 t8 r11.2.1 r11.2.2)
       (impl_treeReader_parts.c7 k S56 t1 t2 t7 t8 o0 o10))

def impl_treeReader_parts.b (k : Nat) (S56 : Int → Int → Int → TTreeReaderB → (List TNode) → Option (Unit × TTreeReaderB × (List TNode))) (S105 : Int → Int → TTreeReaderB → (List TNode) → Option (Unit × TTreeReaderB × (List TNode))) (S106 : Int → Int → TTreeReaderB → (List TNode) → Option (Unit × TTreeReaderB × (List TNode))) (t1 : Int) (t2 : Int) (o0 : TTreeReaderB) (o10 : List TNode) : Option (Unit × TTreeReaderB × (List TNode)) :=
  (impl_treeReader_one k o0 o10).bind fun r12 =>
  cond ((IntKind.wrap .i64 (Int.tdiv r12.1 16)) == 15)
    ((impl_treeReader_uvar k r12.2.1 r12.2.2).bind fun r13 => impl_treeReader_parts.c4 k S56 t1 t2 r13.1 (Int.tmod r12.1 16) r13.2.1 r13.2.2)
    (impl_treeReader_parts.c4 k S56 t1 t2 (IntKind.wrap .i64 (Int.tdiv r12.1 16)) (Int.tmod r12.1 16) r12.2.1 r12.2.2)

def impl_treeReader_fields.c12 (k : Nat) (S56 : Int → Int → Int → TTreeReaderB → (List TNode) → Option (Unit × TTreeReaderB × (List TNode))) (L1 : Int → Int → Int → TTreeReaderB → (List TNode) → Option (Unit × TTreeReaderB × (List TNode))) (t1 : Int) (t2 : Int) (t8 : Int) (t9 : Int) (o0 : TTreeReaderB) (o100 : List TNode) : Option (Unit × TTreeReaderB × (List TNode)) :=
  cond (o0.2.2.2.1 != 0)
    (some ((), (o0, o100)))
    ((rdL o100 t1).bind fun y1 =>
     (rdL o100 t1).bind fun y2 =>
     (rdL o100 t1).bind fun y3 =>
     (S56 t8 t9 (IntKind.wrap .i64 (t2 + 1)) o0 (List.set o100 (Int.toNat t1) (y3.1, y3.2.1, y3.2.2.1, y3.2.2.2.1, IntKind.wrap .i64 (y1.2.2.2.2.1 + 1), ()))).bind fun r4 =>
     L1 t1 t2 t9 r4.2.1 r4.2.2)

def impl_treeReader_fields.c10 (k : Nat) (S56 : Int → Int → Int → TTreeReaderB → (List TNode) → Option (Unit × TTreeReaderB × (List TNode))) (L1 : Int → Int → Int → TTreeReaderB → (List TNode) → Option (Unit × TTreeReaderB × (List TNode))) (t1 : Int) (t2 : Int) (t6 : Int) (t8 : Int) (t9 : Int) (o0 : TTreeReaderB) (o100 : List TNode) : Option (Unit × TTreeReaderB × (List TNode)) :=
  (cond (o0.2.2.2.1 == 0) (some (decide (t9 ≤ t6))) (some (false))).bind fun b5 =>
  cond b5
    ((impl_treeReader_fail k 5 o0 o100).bind fun r6 => impl_treeReader_fields.c12 k S56 L1 t1 t2 t8 t9 r6.2.1 r6.2.2)
    (impl_treeReader_fields.c12 k S56 L1 t1 t2 t8 t9 o0 o100)

def impl_treeReader_fields.c8 (k : Nat) (S56 : Int → Int → Int → TTreeReaderB → (List TNode) → Option (Unit × TTreeReaderB × (List TNode))) (L1 : Int → Int → Int → TTreeReaderB → (List TNode) → Option (Unit × TTreeReaderB × (List TNode))) (t1 : Int) (t2 : Int) (t6 : Int) (t8 : Int) (t9 : Int) (o0 : TTreeReaderB) (o100 : List TNode) : Option (Unit × TTreeReaderB × (List TNode)) :=
  (cond (o0.2.2.2.1 == 0) ((impl_within k t9 1 1000).bind fun r7 => some (!r7)) (some (false))).bind fun b8 =>
  cond b8
    ((impl_treeReader_fail k 3 o0 o100).bind fun r9 => impl_treeReader_fields.c10 k S56 L1 t1 t2 t6 t8 t9 r9.2.1 r9.2.2)
    (impl_treeReader_fields.c10 k S56 L1 t1 t2 t6 t8 t9 o0 o100)

def impl_treeReader_fields.c6 (k : Nat) (S56 : Int → Int → Int → TTreeReaderB → (List TNode) → Option (Unit × TTreeReaderB × (List TNode))) (L1 : Int → Int → Int → TTreeReaderB → (List TNode) → Option (Unit × TTreeReaderB × (List TNode))) (t1 : Int) (t2 : Int) (t6 : Int) (t7 : Int) (t8 : Int) (t9 : Int) (o0 : TTreeReaderB) (o100 : List TNode) : Option (Unit × TTreeReaderB × (List TNode)) :=
  cond (decide (t7 < 16))
    ((impl_treeReader_uvar k o0 o100).bind fun r10 =>
     (impl_Zag k r10.1).bind fun r11 => impl_treeReader_fields.c8 k S56 L1 t1 t2 t6 t8 r11 r10.2.1 r10.2.2)
    (impl_treeReader_fields.c8 k S56 L1 t1 t2 t6 t8 t9 o0 o100)

def impl_treeReader_fields.l1 (k : Nat) (S56 : Int → Int → Int → TTreeReaderB → (List TNode) → Option (Unit × TTreeReaderB × (List TNode))) : Nat → Int → Int → Int → TTreeReaderB → (List TNode) → Option (Unit × TTreeReaderB × (List TNode))
  | 0, _, _, _, _, _ => none
  | n + 1, t1, t2, t6, o0, o100 =>
    (impl_treeReader_one k o0 o100).bind fun r12 =>
    (cond (r12.2.1.2.2.2.1 != 0) (some (true)) (some (r12.1 == 0))).bind fun b13 =>
    cond b13
      (some ((), (r12.2.1, r12.2.2)))
      ((impl_isType k (Int.tmod r12.1 16) false).bind fun r14 =>
       cond (!r14)
         ((impl_treeReader_fail k 2 r12.2.1 r12.2.2).bind fun r15 =>
          impl_treeReader_fields.c6 k S56 (impl_treeReader_fields.l1 k S56 n) t1 t2 t6 r12.1 (Int.tmod r12.1 16) (IntKind.wrap .i64 (t6 + (IntKind.wrap .i64 (Int.tdiv r12.1 16)))) r15.2.1 r15.2.2)
         (impl_treeReader_fields.c6 k S56 (impl_treeReader_fields.l1 k S56 n) t1 t2 t6 r12.1 (Int.tmod r12.1 16) (IntKind.wrap .i64 (t6 + (IntKind.wrap .i64 (Int.tdiv r12.1 16)))) r12.2.1 r12.2.2))

def impl_treeReader_fields.b (k : Nat) (S56 : Int → Int → Int → TTreeReaderB → (List TNode) → Option (Unit × TTreeReaderB × (List TNode))) (S105 : Int → Int → TTreeReaderB → (List TNode) → Option (Unit × TTreeReaderB × (List TNode))) (S106 : Int → Int → TTreeReaderB → (List TNode) → Option (Unit × TTreeReaderB × (List TNode))) (t1 : Int) (t2 : Int) (o0 : TTreeReaderB) (o10 : List TNode) : Option (Unit × TTreeReaderB × (List TNode)) :=
  impl_treeReader_fields.l1 k S56 k t1 t2 0 o0 o10

def impl_treeReader_node.rec (k : Nat) : Nat → (Int → Int → Int → TTreeReaderB → (List TNode) → Option (Unit × TTreeReaderB × (List TNode))) × (Int → Int → TTreeReaderB → (List TNode) → Option (Unit × TTreeReaderB × (List TNode))) × (Int → Int → TTreeReaderB → (List TNode) → Option (Unit × TTreeReaderB × (List TNode)))
  | 0 => (fun _ _ _ _ _ => none, fun _ _ _ _ => none, fun _ _ _ _ => none)
  | d + 1 => (impl_treeReader_node.b k ((impl_treeReader_node.rec k d).1) ((impl_treeReader_node.rec k d).2.1) ((impl_treeReader_node.rec k d).2.2), impl_treeReader_parts.b k ((impl_treeReader_node.rec k d).1) ((impl_treeReader_node.rec k d).2.1) ((impl_treeReader_node.rec k d).2.2), impl_treeReader_fields.b k ((impl_treeReader_node.rec k d).1) ((impl_treeReader_node.rec k d).2.1) ((impl_treeReader_node.rec k d).2.2))

def impl_treeReader_node.d (k d : Nat) : Int → Int → Int → TTreeReaderB → (List TNode) → Option (Unit × TTreeReaderB × (List TNode)) := (impl_treeReader_node.rec k d).1

def impl_treeReader_node (k : Nat) : Int → Int → Int → TTreeReaderB → (List TNode) → Option (Unit × TTreeReaderB × (List TNode)) := impl_treeReader_node.d k k

def impl_treeReader_parts.d (k d : Nat) : Int → Int → TTreeReaderB → (List TNode) → Option (Unit × TTreeReaderB × (List TNode)) := (impl_treeReader_node.rec k d).2.1

def impl_treeReader_parts (k : Nat) : Int → Int → TTreeReaderB → (List TNode) → Option (Unit × TTreeReaderB × (List TNode)) := impl_treeReader_parts.d k k

def impl_treeReader_fields.d (k d : Nat) : Int → Int → TTreeReaderB → (List TNode) → Option (Unit × TTreeReaderB × (List TNode)) := (impl_treeReader_node.rec k d).2.2

def impl_treeReader_fields (k : Nat) : Int → Int → TTreeReaderB → (List TNode) → Option (Unit × TTreeReaderB × (List TNode)) := impl_treeReader_fields.d k k

def impl_TreeRead (k : Nat) (t0 : List Int) (t1 : Int) : Option ((Unit × Int × Int) × (List TNode)) :=
  (impl_within k t1 0 (IntKind.wrap .i64 ((List.length t0 : Int) - 1))).bind fun r1 =>
  cond (!r1)
    (some (((), 0, 1), []))
    ((impl_treeReader_node k 12 0 1 (t0, t1, (), 0, ()) []).bind fun r2 =>
     cond (r2.2.1.2.2.2.1 != 0) (some (((), 0, r2.2.1.2.2.2.1), [])) (some (((), r2.2.1.2.1, 0), r2.2.2)))

def impl_TypeOk (k : Nat) (t0 : Int) : Option Bool :=
  (impl_within k t0 0 2).bind fun r1 =>
  (cond r1 (some (true)) (some (t0 == 5))).bind fun b2 => (cond b2 (some (true)) (some (t0 == 6))).bind fun b3 => some b3

def impl_colOk (k : Nat) (t0 : TCol) : Option Bool :=
  (cond (t0.2.1 == 7) (some (decide (t0.2.2.2.1 > 0))) (some (false))).bind fun b1 =>
  (impl_TypeOk k t0.2.1).bind fun r2 =>
  (cond r2 (some (t0.2.2.2.1 == 0)) (some (false))).bind fun b3 =>
  (cond b1 (some (true)) (some (b3))).bind fun b4 =>
  (cond b4 ((impl_within k t0.2.2.1 0 2).bind fun r5 => some (r5)) (some (false))).bind fun b6 => some b6

def impl_isColName.l2 (k : Nat) : Nat → ByteArray → Int → Int → Option Bool
  | 0, _, _, _ => none
  | n + 1, t0, t5, t6 =>
    cond (decide (t6 < t5))
      ((btS t0 t6).bind fun y1 =>
       (impl_within k (IntKind.wrap .i64 y1) 97 122).bind fun r2 =>
       cond (!r2) (some false) ((impl_isColName.l2 k n) t0 t5 (IntKind.wrap .i64 (t6 + 1))))
      ((impl_within k (t0.size : Int) 1 20).bind fun r3 => some r3)

def impl_isColName (k : Nat) (t0 : ByteArray) : Option Bool :=
  impl_isColName.l2 k k t0 (t0.size : Int) 0

def impl_colAfter.l10 (k : Nat) (S89 : (List TCol) → Int → Int → Option Int) (L6 : (List TCol) → Int → Int → Int → Int → (List ByteArray) → Option Int) : Nat → (List TCol) → Int → Int → Int → Int → Int → Int → (List ByteArray) → Option Int
  | 0, _, _, _, _, _, _, _, _ => none
  | n + 1, t0, t2, t7, t47, t48, t55, t56, o100 =>
    cond (decide (t56 < t55))
      ((rdL o100 t56).bind fun y1 =>
       (rdL t0 t7).bind fun y2 =>
       cond (eqS y1 y2.1) (some (-1)) ((impl_colAfter.l10 k S89 L6 n) t0 t2 t7 t47 t48 t55 (IntKind.wrap .i64 (t56 + 1)) o100))
      ((rdL t0 t7).bind fun y3 =>
       cond (lim (List.length o100 + List.length [y3.1])) (
       (S89 t0 t7 (IntKind.wrap .i64 (t2 + 1))).bind fun r4 =>
       cond (decide (r4 < 0)) (some (-1)) (L6 t0 t2 r4 t47 (IntKind.wrap .i64 (t48 + 1)) (o100 ++ [y3.1]))) none)

def impl_colAfter.l6 (k : Nat) (S89 : (List TCol) → Int → Int → Option Int) : Nat → (List TCol) → Int → Int → Int → Int → (List ByteArray) → Option Int
  | 0, _, _, _, _, _, _ => none
  | n + 1, t0, t2, t7, t47, t48, o100 =>
    cond (decide (t48 < t47))
      (cond (decide (t7 ≥ (List.length t0 : Int)))
         (some (-1))
         (impl_colAfter.l10 k S89 (impl_colAfter.l6 k S89 n) k t0 t2 t7 t47 t48 (List.length o100 : Int) 0 o100))
      (some t7)

def impl_colAfter.b (k : Nat) (S89 : (List TCol) → Int → Int → Option Int) (t0 : List TCol) (t1 : Int) (t2 : Int) : Option Int :=
  (cond (decide (t1 ≥ (List.length t0 : Int))) (some (true)) (some (decide (t2 > 6)))).bind fun b5 =>
  (cond b5 (some (true)) ((rdL t0 t1).bind fun y6 => (impl_colOk k y6).bind fun r7 => some (!r7))).bind fun b8 =>
  (cond b8
     (some (true))
     ((cond (decide (t1 > 0)) ((rdL t0 t1).bind fun y9 => (impl_isColName k y9.1).bind fun r10 => some (!r10)) (some (false))).bind fun b11 =>
      some (b11))).bind fun b12 =>
  cond b12 (some (-1)) ((rdL t0 t1).bind fun y13 => impl_colAfter.l6 k S89 k t0 t2 (IntKind.wrap .i64 (t1 + 1)) y13.2.2.2.1 0 [])

def impl_colAfter.rec (k : Nat) : Nat → ((List TCol) → Int → Int → Option Int)
  | 0 => fun _ _ _ => none
  | d + 1 => impl_colAfter.b k ((impl_colAfter.rec k d))

def impl_colAfter.d (k d : Nat) : (List TCol) → Int → Int → Option Int := (impl_colAfter.rec k d)

def impl_colAfter (k : Nat) : (List TCol) → Int → Int → Option Int := impl_colAfter.d k k

def impl_SchemaOk (k : Nat) (t0 : List TCol) : Option Bool :=
  (impl_within k (List.length t0 : Int) 2 20).bind fun r1 =>
  (cond (!r1) (some (true)) ((rdL t0 0).bind fun y2 => some (y2.2.1 != 7))).bind fun b3 =>
  (cond b3 (some (true)) ((rdL t0 0).bind fun y4 => some (y4.2.2.1 != 0))).bind fun b5 =>
  (cond b5 (some (true)) ((rdL t0 0).bind fun y6 => some (!eqS y6.1 (⟨#[]⟩ : ByteArray)))).bind fun b7 =>
  cond b7 (some false) ((impl_colAfter k t0 0 1).bind fun r8 => some (r8 == (List.length t0 : Int)))

def impl_tree_find.l5 (k : Nat) : Nat → Int → Int → Int → Int → TTreeB → (List Int) → Option (Int × TTreeB × (List Int))
  | 0, _, _, _, _, _, _ => none
  | n + 1, t2, t7, t37, t38, o0, o10 =>
    cond (decide (t38 < t37))
      ((rdL o0.1 t7).bind fun y1 =>
       cond (y1.2.1 == t2) (some (t7, (o0, o10))) ((rdL o10 t7).bind fun y2 => (impl_tree_find.l5 k n) t2 y2 t37 (IntKind.wrap .i64 (t38 + 1)) o0 o10))
      (some ((-1), (o0, o10)))

def impl_tree_find (k : Nat) (t1 : Int) (t2 : Int) (o0 : Bool × TTreeB) (o10 : List Int) : Option (Int × TTreeB × (List Int)) :=
  cond (o0.1) (
  (impl_within k t1 0 (IntKind.wrap .i64 ((List.length o0.2.1 : Int) - 1))).bind fun r3 =>
  (cond (!r3) (some (true)) ((rdL o0.2.1 t1).bind fun y4 => some (y4.1 != 12))).bind fun b5 =>
  cond b5 (some ((-1), (o0.2, o10))) ((rdL o0.2.1 t1).bind fun y6 => impl_tree_find.l5 k k t2 (IntKind.wrap .i64 (t1 + 1)) y6.2.2.2.2.1 0 o0.2 o10)) none

def impl_tree_parts.l7 (k : Nat) : Nat → Int → Int → Int → TTreeB → (List Int) → (List Int) → Option ((Unit × Bool) × TTreeB × (List Int) × (List Int))
  | 0, _, _, _, _, _, _ => none
  | n + 1, t12, t63, t64, o0, o10, o100 =>
    cond (decide (t64 < t63))
      (cond (lim (List.length o100 + List.length [t12])) (
       (rdL o10 t12).bind fun y1 => (impl_tree_parts.l7 k n) y1 t63 (IntKind.wrap .i64 (t64 + 1)) o0 o10 (o100 ++ [t12])) none)
      (some (((), true), (o0, o10, o100)))

def impl_tree_parts (k : Nat) (t1 : Int) (t2 : Int) (t3 : Int) (o0 : Bool × TTreeB) (o10 : List Int) : Option ((Unit × Bool) × TTreeB × (List Int) × (List Int)) :=
  (impl_tree_find k t1 t2 (o0.1, o0.2) o10).bind fun r2 =>
  (cond (decide (r2.1 < 0)) (some (true)) ((rdL r2.2.1.1 r2.1).bind fun y3 => some (y3.1 != 9))).bind fun b4 =>
  (cond b4
     (some (true))
     ((rdL r2.2.1.1 r2.1).bind fun y5 =>
      (cond (decide (y5.2.2.2.2.1 > 0)) ((rdL r2.2.1.1 r2.1).bind fun y6 => some (y6.2.2.1 != t3)) (some (false))).bind fun b7 => some (b7))).bind fun b8 =>
  cond b8
    (some (((), false), (r2.2.1, r2.2.2, [])))
    ((rdL r2.2.1.1 r2.1).bind fun y9 => impl_tree_parts.l7 k k (IntKind.wrap .i64 (r2.1 + 1)) y9.2.2.2.2.1 0 r2.2.1 r2.2.2 [])

def impl_tree_part (k : Nat) (t1 : Int) (t2 : Int) (t3 : Int) (o0 : Bool × TTreeB) (o10 : List Int) : Option ((TNode × Bool) × TTreeB × (List Int)) :=
  (impl_tree_find k t1 t2 (o0.1, o0.2) o10).bind fun r1 =>
  (cond (decide (r1.1 < 0)) (some (true)) ((rdL r1.2.1.1 r1.1).bind fun y2 => some (y2.1 != t3))).bind fun b3 =>
  cond b3
    (some (((0, 0, 0, (⟨#[]⟩ : ByteArray), 0, ()), false), (r1.2.1, r1.2.2)))
    ((rdL r1.2.1.1 r1.1).bind fun y4 => some ((y4, true), (r1.2.1, r1.2.2)))

def impl_tree_num (k : Nat) (t1 : Int) (t2 : Int) (o0 : Bool × TTreeB) (o10 : List Int) : Option ((Int × Bool) × TTreeB × (List Int)) :=
  (impl_tree_find k t1 t2 (o0.1, o0.2) o10).bind fun r1 =>
  (cond (decide (r1.1 < 0))
     (some (true))
     ((rdL r1.2.1.1 r1.1).bind fun y2 =>
      (cond (y2.1 != 5) ((rdL r1.2.1.1 r1.1).bind fun y3 => some (y3.1 != 6)) (some (false))).bind fun b4 => some (b4))).bind fun b5 =>
  cond b5 (some ((0, false), (r1.2.1, r1.2.2))) ((rdL r1.2.1.1 r1.1).bind fun y6 => some ((y6.2.2.1, true), (r1.2.1, r1.2.2)))

def impl_tree_col.c11 (k : Nat) (t9 : Bool) (t11 : Bool) (t13 : Bool) (o0 : TTreeB) (o10 : List Int) (o100 : TCol) (o101 : TCol) : Option ((TCol × Bool) × TTreeB × (List Int)) :=
  (cond t9 (some (t11)) (some (false))).bind fun b1 => (cond b1 (some (t13)) (some (false))).bind fun b2 => some ((o101, b2), (o0, o10))

def impl_tree_col.c8 (k : Nat) (t1 : Int) (t9 : Bool) (t11 : Bool) (t13 : Bool) (t14 : Int) (t15 : Bool) (o0 : TTreeB) (o10 : List Int) (o100 : TCol) (o101 : TCol) : Option ((TCol × Bool) × TTreeB × (List Int)) :=
  (impl_tree_find k t1 5 (true, o0) o10).bind fun r3 =>
  cond (decide (r3.1 ≥ 0))
    (cond t15
       ((impl_tree_find k t1 1 (true, r3.2.1) r3.2.2).bind fun r4 =>
        impl_tree_col.c11 k t9 t11 (decide (r4.1 < 0)) r4.2.1 r4.2.2 o100 (o101.1, 7, o101.2.2.1, t14, ()))
       (impl_tree_col.c11 k t9 t11 false r3.2.1 r3.2.2 o100 (o101.1, 7, o101.2.2.1, t14, ())))
    (impl_tree_col.c11 k t9 t11 t13 r3.2.1 r3.2.2 o100 o101)

def impl_tree_col (k : Nat) (t1 : Int) (t2 : Bool) (o0 : Bool × TTreeB) (o10 : List Int) : Option ((TCol × Bool) × TTreeB × (List Int)) :=
  (impl_tree_part k t1 4 8 (o0.1, o0.2) o10).bind fun r5 =>
  (impl_tree_num k t1 3 (true, r5.2.1) r5.2.2).bind fun r6 =>
  (impl_tree_num k t1 1 (true, r6.2.1) r6.2.2).bind fun r7 =>
  (impl_tree_num k t1 5 (true, r7.2.1) r7.2.2).bind fun r8 =>
  cond t2
    (impl_tree_col.c8 k t1 r5.1.2 true r7.1.2 r8.1.1 r8.1.2 r8.2.1 r8.2.2 ((⟨#[]⟩ : ByteArray), 0, 0, 0, ()) (r5.1.1.2.2.2.1, r7.1.1, 0, 0, ()))
    (impl_tree_col.c8 k t1 r5.1.2 r6.1.2 r7.1.2 r8.1.1 r8.1.2 r8.2.1 r8.2.2 ((⟨#[]⟩ : ByteArray), 0, 0, 0, ()) (r5.1.1.2.2.2.1, r7.1.1, r6.1.1, 0, ()))

def impl_tree_schema.l6 (k : Nat) : Nat → Int → Int → TTreeB → (List Int) → (List TCol) → (List Int) → Option ((Unit × Bool) × TTreeB × (List Int) × (List TCol))
  | 0, _, _, _, _, _, _ => none
  | n + 1, t23, t24, o0, o10, o100, o101 =>
    cond (decide (t24 < t23))
      ((rdL o101 t24).bind fun y1 =>
       (impl_tree_col k y1 (t24 == 0) (true, o0) o10).bind fun r2 =>
       (cond (!r2.1.2)
          (some (true))
          ((cond (decide (t24 > 0)) (some (r2.1.1.2.2.2.1 == 0)) (some (false))).bind fun b3 =>
           (cond b3 (some (r2.1.1.2.1 == 7)) (some (false))).bind fun b4 => some (b4))).bind fun b5 =>
       cond b5
         (some (((), false), (r2.2.1, r2.2.2, [])))
         (cond (lim (List.length o100 + List.length [r2.1.1])) (
          (impl_tree_schema.l6 k n) t23 (IntKind.wrap .i64 (t24 + 1)) r2.2.1 r2.2.2 (o100 ++ [r2.1.1]) o101) none))
      ((impl_SchemaOk k o100).bind fun r6 => cond (!r6) (some (((), false), (o0, o10, []))) (some (((), true), (o0, o10, o100))))

def impl_tree_schema (k : Nat) (t1 : Int) (o0 : Bool × TTreeB) (o10 : List Int) : Option ((Unit × Bool) × TTreeB × (List Int) × (List TCol)) :=
  (impl_tree_parts k t1 2 12 (o0.1, o0.2) o10).bind fun r7 =>
  cond (!r7.1.2) (some (((), false), (r7.2.1, r7.2.2.1, []))) (impl_tree_schema.l6 k k (List.length r7.2.2.2 : Int) 0 r7.2.1 r7.2.2.1 [] r7.2.2.2)

def impl_SchemaOf (k : Nat) (t0 : List TNode) (t1 : Int) : Option ((Unit × Bool) × (List TCol)) :=
  (impl_treeOf k t0).bind fun r1 =>
  cond (!r1.1.2) (some (((), false), [])) ((impl_tree_schema k t1 (r1.2.1.1, r1.2.1.2) r1.2.2).bind fun r2 => some (((), r2.1.2), r2.2.2.2))

def spec_l1New.l3 (k : Nat) : Nat → (List Int) → Int → Int → Option (Unit × TL1Cur)
  | 0, _, _, _ => none
  | n + 1, t0, t3, t4 =>
    (cond (decide (t4 < (List.length t0 : Int))) (some (decide (t4 < 4000))) (some (false))).bind fun b1 =>
    cond b1
      ((rdL t0 t4).bind fun y2 =>
       (spec_l1New.l3 k n) t0 (bits .and .i64 (IntKind.wrap .i64 ((IntKind.wrap .i64 ((IntKind.wrap .i64 (t3 * 131)) + (IntKind.wrap .i64 y2))) + 7)) 1073741823) (IntKind.wrap .i64 (t4 + 1)))
      (some ((), (t0, 0, t3, ())))

def spec_l1New (k : Nat) (t0 : List Int) : Option (Unit × TL1Cur) :=
  spec_l1New.l3 k k t0 (IntKind.wrap .i64 (11443 + (List.length t0 : Int))) 0

def spec_l1Byte.c6 (k : Nat) (t3 : Int) (o0 : TL1Cur) : Option (Int × TL1Cur) :=
  some (t3, o0)

def spec_l1Byte (k : Nat) (o0 : TL1Cur) : Option (Int × TL1Cur) :=
  cond (decide (o0.2.1 < (List.length o0.1 : Int)))
    ((rdL o0.1 o0.2.1).bind fun y1 =>
     spec_l1Byte.c6 k (bits .and .i64 (IntKind.wrap .i64 ((bits .and .i64 (bits .xor .i64 (shrI .i64 (IntKind.wrap .i64 ((IntKind.wrap .i64 (o0.2.2.1 * 6364136223846793005)) + 1442695040888963407)) 33) (shrI .i64 (IntKind.wrap .i64 ((IntKind.wrap .i64 (o0.2.2.1 * 6364136223846793005)) + 1442695040888963407)) 45)) 255) + (IntKind.wrap .i64 y1))) 255) (o0.1, IntKind.wrap .i64 (o0.2.1 + 1), IntKind.wrap .i64 ((IntKind.wrap .i64 (o0.2.2.1 * 6364136223846793005)) + 1442695040888963407), ()))
    (spec_l1Byte.c6 k (bits .and .i64 (bits .xor .i64 (shrI .i64 (IntKind.wrap .i64 ((IntKind.wrap .i64 (o0.2.2.1 * 6364136223846793005)) + 1442695040888963407)) 33) (shrI .i64 (IntKind.wrap .i64 ((IntKind.wrap .i64 (o0.2.2.1 * 6364136223846793005)) + 1442695040888963407)) 45)) 255) (o0.1, o0.2.1, IntKind.wrap .i64 ((IntKind.wrap .i64 (o0.2.2.1 * 6364136223846793005)) + 1442695040888963407), ()))

def spec_l1Below (k : Nat) (t1 : Int) (o0 : TL1Cur) : Option (Int × TL1Cur) :=
  cond (decide (t1 ≤ 0))
    (some (0, o0))
    (cond (decide (t1 ≤ 256))
       ((spec_l1Byte k o0).bind fun r1 => cond (decide (t1 ≠ 0)) (some (Int.tmod r1.1 t1, r1.2)) none)
       ((spec_l1Byte k o0).bind fun r2 =>
        (spec_l1Byte k r2.2).bind fun r3 =>
        (spec_l1Byte k r3.2).bind fun r4 =>
        (spec_l1Byte k r4.2).bind fun r5 =>
        cond (decide (t1 ≠ 0)) (
        some (Int.tmod (IntKind.wrap .i64 ((IntKind.wrap .i64 ((IntKind.wrap .i64 ((IntKind.wrap .i64 (r2.1 * 16777216)) + (IntKind.wrap .i64 (r3.1 * 65536)))) + (IntKind.wrap .i64 (r4.1 * 256)))) + r5.1)) t1, r5.2)) none))

def spec_l1In (k : Nat) (t0 : Int) (t1 : Int) (t2 : Int) : Option Bool :=
  (cond (decide (t0 ≥ t1)) (some (decide (t0 ≤ t2))) (some (false))).bind fun b1 => some b1

def spec_l5Type.c7 (k : Nat) (t4 : Bool) : Option Bool :=
  cond t4 (some true) (some false)

def spec_l5Type (k : Nat) (t0 : Int) : Option Bool :=
  cond (t0 == 0)
    (spec_l5Type.c7 k (t0 == 0))
    (cond (t0 == 1)
       (spec_l5Type.c7 k (t0 == 1))
       (cond (t0 == 2) (spec_l5Type.c7 k (t0 == 2)) (cond (t0 == 5) (spec_l5Type.c7 k (t0 == 5)) (spec_l5Type.c7 k (t0 == 6)))))

def spec_l5Name.l4 (k : Nat) : Nat → ByteArray → Int → Option Bool
  | 0, _, _ => none
  | n + 1, t0, t3 =>
    cond (decide (t3 < (t0.size : Int)))
      ((btS t0 t3).bind fun y1 =>
       (cond (decide (y1 < 97)) (some (true)) ((btS t0 t3).bind fun y2 => some (decide (y2 > 122)))).bind fun b3 =>
       cond b3 (some false) ((spec_l5Name.l4 k n) t0 (IntKind.wrap .i64 (t3 + 1))))
      (some true)

def spec_l5Name (k : Nat) (t0 : ByteArray) : Option Bool :=
  (spec_l1In k (t0.size : Int) 1 20).bind fun r4 => cond (!r4) (some false) (spec_l5Name.l4 k k t0 0)

def spec_l5Check.l20 (k : Nat) (S88 : (List TCol) → Int → Int → Option Int) (L15 : (List TCol) → Int → Int → Int → TCol → (List ByteArray) → Option Int) : Nat → (List TCol) → Int → Int → Int → Int → TCol → (List ByteArray) → Option Int
  | 0, _, _, _, _, _, _, _ => none
  | n + 1, t0, t2, t8, t10, t11, o100, o101 =>
    cond (decide (t11 < (List.length o101 : Int)))
      ((rdL o101 t11).bind fun y1 =>
       (rdL t0 t8).bind fun y2 => cond (eqS y1 y2.1) (some (-1)) ((spec_l5Check.l20 k S88 L15 n) t0 t2 t8 t10 (IntKind.wrap .i64 (t11 + 1)) o100 o101))
      ((rdL t0 t8).bind fun y3 =>
       cond (lim (List.length o101 + List.length [y3.1])) (
       (S88 t0 t8 (IntKind.wrap .i64 (t2 + 1))).bind fun r4 =>
       cond (decide (r4 < 0)) (some (-1)) (L15 t0 t2 r4 (IntKind.wrap .i64 (t10 + 1)) o100 (o101 ++ [y3.1]))) none)

def spec_l5Check.l15 (k : Nat) (S88 : (List TCol) → Int → Int → Option Int) : Nat → (List TCol) → Int → Int → Int → TCol → (List ByteArray) → Option Int
  | 0, _, _, _, _, _, _ => none
  | n + 1, t0, t2, t8, t10, o100, o101 =>
    cond (decide (t10 < o100.2.2.2.1))
      (cond (decide (t8 ≥ (List.length t0 : Int))) (some (-1)) (spec_l5Check.l20 k S88 (spec_l5Check.l15 k S88 n) k t0 t2 t8 t10 0 o100 o101))
      (some t8)

def spec_l5Check.b (k : Nat) (S88 : (List TCol) → Int → Int → Option Int) (t0 : List TCol) (t1 : Int) (t2 : Int) : Option Int :=
  (cond (decide (t1 ≥ (List.length t0 : Int))) (some (true)) (some (decide (t2 > 6)))).bind fun b5 =>
  cond b5
    (some (-1))
    ((rdL t0 t1).bind fun y6 =>
     (cond (t1 == 0)
        ((cond (!eqS y6.1 (⟨#[]⟩ : ByteArray)) (some (true)) (some (y6.2.2.1 != 0))).bind fun b7 =>
         (cond b7 (some (true)) (some (y6.2.1 != 7))).bind fun b8 => some (b8))
        (some (false))).bind fun b9 =>
     (cond b9 (some (true)) ((cond (decide (t1 > 0)) ((spec_l5Name k y6.1).bind fun r10 => some (!r10)) (some (false))).bind fun b11 => some (b11))).bind fun b12 =>
     (cond b12 (some (true)) ((spec_l1In k y6.2.2.1 0 2).bind fun r13 => some (!r13))).bind fun b14 =>
     cond b14
       (some (-1))
       (cond (y6.2.1 != 7)
          ((spec_l5Type k y6.2.1).bind fun r15 =>
           (cond (!r15) (some (true)) (some (y6.2.2.2.1 != 0))).bind fun b16 => cond b16 (some (-1)) (some (IntKind.wrap .i64 (t1 + 1))))
          (cond (decide (y6.2.2.2.1 < 1)) (some (-1)) (spec_l5Check.l15 k S88 k t0 t2 (IntKind.wrap .i64 (t1 + 1)) 0 y6 []))))

def spec_l5Check.rec (k : Nat) : Nat → ((List TCol) → Int → Int → Option Int)
  | 0 => fun _ _ _ => none
  | d + 1 => spec_l5Check.b k ((spec_l5Check.rec k d))

def spec_l5Check.d (k d : Nat) : (List TCol) → Int → Int → Option Int := (spec_l5Check.rec k d)

def spec_l5Check (k : Nat) : (List TCol) → Int → Int → Option Int := spec_l5Check.d k k

def spec_SchemaOk (k : Nat) (t0 : List TCol) : Option Bool :=
  (spec_l1In k (List.length t0 : Int) 2 20).bind fun r1 =>
  (cond r1 ((spec_l5Check k t0 0 1).bind fun r2 => some (r2 == (List.length t0 : Int))) (some (false))).bind fun b3 => some b3

def spec_l1PickInt (k : Nat) (t1 : List Int) (o0 : TL1Cur) : Option (Int × TL1Cur) :=
  (spec_l1Below k (List.length t1 : Int) o0).bind fun r1 => (rdL t1 r1.1).bind fun y2 => some (y2, r1.2)

def spec_l1Once (k : Nat) (t1 : Int) (o0 : TL1Cur) : Option (Bool × TL1Cur) :=
  (spec_l1Below k t1 o0).bind fun r1 => some (r1.1 == 0, r1.2)

def spec_l5DrawCol.l13 (k : Nat) (S172 : ByteArray → Int → TL1Cur → (List TCol) → Option (Unit × TL1Cur × (List TCol))) : Nat → Int → Int → Int → TL1Cur → (List TCol) → Option (Unit × TL1Cur × (List TCol))
  | 0, _, _, _, _, _ => none
  | n + 1, t2, t11, t12, o0, o100 =>
    cond (decide (t12 < t11))
      ((spec_l1Below k 4 o0).bind fun r1 =>
       (S172 (intsStr [IntKind.wrap .u8 (IntKind.wrap .i64 (97 + t12)), IntKind.wrap .u8 (IntKind.wrap .i64 (97 + r1.1))]) (IntKind.wrap .i64 (t2 - 1)) r1.2 o100).bind fun r2 =>
       (spec_l5DrawCol.l13 k S172 n) t2 t11 (IntKind.wrap .i64 (t12 + 1)) r2.2.1 r2.2.2)
      (some ((), (o0, o100)))

def spec_l5DrawCol.c12 (k : Nat) (S172 : ByteArray → Int → TL1Cur → (List TCol) → Option (Unit × TL1Cur × (List TCol))) (t2 : Int) (t11 : Int) (o0 : TL1Cur) (o100 : List TCol) : Option (Unit × TL1Cur × (List TCol)) :=
  spec_l5DrawCol.l13 k S172 k t2 t11 0 o0 o100

def spec_l5DrawCol.c4 (k : Nat) (S172 : ByteArray → Int → TL1Cur → (List TCol) → Option (Unit × TL1Cur × (List TCol))) (t1 : ByteArray) (t2 : Int) (o0 : TL1Cur) (o10 : List TCol) (o100 : TCol) : Option (Unit × TL1Cur × (List TCol)) :=
  cond (lim (List.length o10 + List.length [o100])) (
  cond (o100.2.1 != 7)
    (some ((), (o0, o10 ++ [o100])))
    ((spec_l1Below k 3 o0).bind fun r3 =>
     (rdL (o10 ++ [o100]) (List.length o10 : Int)).bind fun y4 =>
     (rdL (o10 ++ [o100]) (List.length o10 : Int)).bind fun y5 =>
     cond (eqS t1 (⟨#[]⟩ : ByteArray))
       ((rdL (List.set (o10 ++ [o100]) (Int.toNat (List.length o10 : Int)) (y5.1, y5.2.1, y5.2.2.1, IntKind.wrap .i64 (1 + r3.1), ())) (List.length o10 : Int)).bind fun y6 =>
        (rdL (List.set (o10 ++ [o100]) (Int.toNat (List.length o10 : Int)) (y5.1, y5.2.1, y5.2.2.1, IntKind.wrap .i64 (1 + r3.1), ())) (List.length o10 : Int)).bind fun y7 =>
        spec_l5DrawCol.c12 k S172 t2 (IntKind.wrap .i64 (1 + r3.1)) r3.2 (List.set (List.set (o10 ++ [o100]) (Int.toNat (List.length o10 : Int)) (y5.1, y5.2.1, y5.2.2.1, IntKind.wrap .i64 (1 + r3.1), ())) (Int.toNat (List.length o10 : Int)) (y7.1, y7.2.1, 0, y7.2.2.2.1, ())))
       (spec_l5DrawCol.c12 k S172 t2 (IntKind.wrap .i64 (1 + r3.1)) r3.2 (List.set (o10 ++ [o100]) (Int.toNat (List.length o10 : Int)) (y5.1, y5.2.1, y5.2.2.1, IntKind.wrap .i64 (1 + r3.1), ()))))) none

def spec_l5DrawCol.b (k : Nat) (S172 : ByteArray → Int → TL1Cur → (List TCol) → Option (Unit × TL1Cur × (List TCol))) (t1 : ByteArray) (t2 : Int) (o0 : TL1Cur) (o10 : List TCol) : Option (Unit × TL1Cur × (List TCol)) :=
  (spec_l1PickInt k [0, 1, 2, 5, 6] o0).bind fun r8 =>
  (spec_l1Below k 3 r8.2).bind fun r9 =>
  cond (eqS t1 (⟨#[]⟩ : ByteArray))
    (cond true (spec_l5DrawCol.c4 k S172 t1 t2 r9.2 o10 (t1, 7, r9.1, 0, ())) (spec_l5DrawCol.c4 k S172 t1 t2 r9.2 o10 (t1, r8.1, r9.1, 0, ())))
    (cond (decide (t2 > 0))
       ((spec_l1Once k 3 r9.2).bind fun r10 =>
        cond r10.1 (spec_l5DrawCol.c4 k S172 t1 t2 r10.2 o10 (t1, 7, r9.1, 0, ())) (spec_l5DrawCol.c4 k S172 t1 t2 r10.2 o10 (t1, r8.1, r9.1, 0, ())))
       (cond false (spec_l5DrawCol.c4 k S172 t1 t2 r9.2 o10 (t1, 7, r9.1, 0, ())) (spec_l5DrawCol.c4 k S172 t1 t2 r9.2 o10 (t1, r8.1, r9.1, 0, ()))))

def spec_l5DrawCol.rec (k : Nat) : Nat → (ByteArray → Int → TL1Cur → (List TCol) → Option (Unit × TL1Cur × (List TCol)))
  | 0 => fun _ _ _ _ => none
  | d + 1 => spec_l5DrawCol.b k ((spec_l5DrawCol.rec k d))

def spec_l5DrawCol.d (k d : Nat) : ByteArray → Int → TL1Cur → (List TCol) → Option (Unit × TL1Cur × (List TCol)) := (spec_l5DrawCol.rec k d)

def spec_l5DrawCol (k : Nat) : ByteArray → Int → TL1Cur → (List TCol) → Option (Unit × TL1Cur × (List TCol)) := spec_l5DrawCol.d k k

def spec_l5DrawRight.l2 (k : Nat) : Nat → Int → TL1Cur → Option (Unit × TL1Cur × (List TCol))
  | 0, _, _ => none
  | n + 1, t3, o0 =>
    cond (decide (t3 < 9))
      ((spec_l1Below k 3 o0).bind fun r1 =>
       (spec_l5DrawCol k (⟨#[]⟩ : ByteArray) (IntKind.wrap .i64 (1 + r1.1)) r1.2 []).bind fun r2 =>
       (spec_SchemaOk k r2.2.2).bind fun r3 => cond r3 (some ((), (r2.2.1, r2.2.2))) ((spec_l5DrawRight.l2 k n) (IntKind.wrap .i64 (t3 + 1)) r2.2.1))
      (some ((), (o0, [((⟨#[]⟩ : ByteArray), 7, 0, 1, ()), ((⟨#[97]⟩ : ByteArray), 2, 1, 0, ())])))

def spec_l5DrawRight (k : Nat) (o0 : TL1Cur) : Option (Unit × TL1Cur × (List TCol)) :=
  spec_l5DrawRight.l2 k k 0 o0

def spec_l1Pick (k : Nat) (t1 : List ByteArray) (o0 : TL1Cur) : Option (ByteArray × TL1Cur) :=
  (spec_l1Below k (List.length t1 : Int) o0).bind fun r1 => (rdL t1 r1.1).bind fun y2 => some (y2, r1.2)

def spec_l5DrawSchema.c22 (k : Nat) (o0 : TL1Cur) (o100 : List TCol) : Option (Unit × TL1Cur × (List TCol)) :=
  some ((), (o0, o100))

def spec_l5DrawSchema.d9 (k : Nat) (t4 : Int) (o0 : TL1Cur) (o100 : List TCol) : Option (Unit × TL1Cur × (List TCol)) :=
  (rdL o100 t4).bind fun y1 =>
  (spec_l1Below k 3 o0).bind fun r2 =>
  (rdL o100 t4).bind fun y3 =>
  (rdL o100 t4).bind fun y4 =>
  spec_l5DrawSchema.c22 k r2.2 (List.set o100 (Int.toNat t4) (y4.1, y4.2.1, y4.2.2.1, IntKind.wrap .i64 ((IntKind.wrap .i64 (y1.2.2.2.1 + 1)) - r2.1), ()))

def spec_l5DrawSchema.l18 (k : Nat) : Nat → Int → Int → TL1Cur → (List TCol) → Option (Unit × TL1Cur × (List TCol))
  | 0, _, _, _, _ => none
  | n + 1, t5, t6, o0, o100 =>
    cond (decide (t6 < t5))
      (cond (lim (List.length o100 + List.length [((⟨#[103]⟩ : ByteArray), 7, Int.tmod t6 3, 1, ())])) (
       (spec_l5DrawSchema.l18 k n) t5 (IntKind.wrap .i64 (t6 + 1)) o0 (o100 ++ [((⟨#[103]⟩ : ByteArray), 7, Int.tmod t6 3, 1, ())])) none)
      (cond (lim (List.length o100 + List.length [((⟨#[120]⟩ : ByteArray), 0, 0, 0, ())])) (
       spec_l5DrawSchema.c22 k o0 (o100 ++ [((⟨#[120]⟩ : ByteArray), 0, 0, 0, ())])) none)

def spec_l5DrawSchema (k : Nat) (o0 : TL1Cur) : Option (Unit × TL1Cur × (List TCol)) :=
  (spec_l5DrawRight k o0).bind fun r5 =>
  (spec_l1Below k (List.length r5.2.2 : Int) r5.2.1).bind fun r6 =>
  (spec_l1Below k 25 r6.2).bind fun r7 =>
  cond (r7.1 == 0)
    ((spec_l1Below k 9 r7.2).bind fun r8 =>
     (rdL r5.2.2 r6.1).bind fun y9 =>
     (rdL r5.2.2 r6.1).bind fun y10 => spec_l5DrawSchema.c22 k r8.2 (List.set r5.2.2 (Int.toNat r6.1) (y10.1, r8.1, y10.2.2.1, y10.2.2.2.1, ())))
    (cond (r7.1 == 1)
       ((spec_l1Below k 5 r7.2).bind fun r11 =>
        (rdL r5.2.2 r6.1).bind fun y12 =>
        (rdL r5.2.2 r6.1).bind fun y13 =>
        spec_l5DrawSchema.c22 k r11.2 (List.set r5.2.2 (Int.toNat r6.1) (y13.1, y13.2.1, IntKind.wrap .i64 (r11.1 - 1), y13.2.2.2.1, ())))
       (cond (r7.1 == 2)
          (spec_l5DrawSchema.d9 k r6.1 r7.2 r5.2.2)
          (cond (r7.1 == 3)
             ((spec_l1Pick k [(⟨#[]⟩ : ByteArray), (⟨#[65]⟩ : ByteArray), (⟨#[97, 98]⟩ : ByteArray), (⟨#[97, 98, 99, 100, 101, 102, 103, 104, 105, 106, 107, 108, 109, 110, 111, 112, 113, 114, 115, 116]⟩ : ByteArray), (⟨#[97, 98, 99, 100, 101, 102, 103, 104, 105, 106, 107, 108, 109, 110, 111, 112, 113, 114, 115, 116, 117]⟩ : ByteArray)] r7.2).bind fun r14 =>
              (rdL r5.2.2 r6.1).bind fun y15 =>
              (rdL r5.2.2 r6.1).bind fun y16 =>
              spec_l5DrawSchema.c22 k r14.2 (List.set r5.2.2 (Int.toNat r6.1) (r14.1, y16.2.1, y16.2.2.1, y16.2.2.2.1, ())))
             (cond (r7.1 == 4)
                (cond (lim (List.length r5.2.2 + List.length [((⟨#[122]⟩ : ByteArray), 0, 0, 0, ())])) (
                 spec_l5DrawSchema.c22 k r7.2 (r5.2.2 ++ [((⟨#[122]⟩ : ByteArray), 0, 0, 0, ())])) none)
                (cond (r7.1 == 5)
                   ((spec_l1Below k 2 r7.2).bind fun r17 =>
                    spec_l5DrawSchema.l18 k k (IntKind.wrap .i64 (4 + r17.1)) 0 r17.2 [((⟨#[]⟩ : ByteArray), 7, 0, 1, ())])
                   (spec_l5DrawSchema.c22 k r7.2 r5.2.2))))))

def spec_DrawSchemaTree (k : Nat) (t0 : List Int) : Option (Unit × (List TCol)) :=
  (spec_l1New k t0).bind fun r1 => (spec_l5DrawSchema k r1.2).bind fun r2 => some ((), r2.2.2)

def impl_structNode.l3 (k : Nat) : Nat → (List (List TNode)) → Int → Int → (List TNode) → Option (Unit × (List TNode))
  | 0, _, _, _, _ => none
  | n + 1, t13, t14, t15, o100 =>
    cond (decide (t15 < t14))
      ((rdL t13 t15).bind fun y1 =>
       cond (lim (List.length o100 + List.length y1)) ((impl_structNode.l3 k n) t13 t14 (IntKind.wrap .i64 (t15 + 1)) (o100 ++ y1)) none)
      (some ((), o100))

def impl_structNode (k : Nat) (t0 : Int) (t1 : List (List TNode)) : Option (Unit × (List TNode)) :=
  impl_structNode.l3 k k t1 (List.length t1 : Int) 0 [(12, t0, 0, (⟨#[]⟩ : ByteArray), (List.length t1 : Int), ())]

def impl_intNode (k : Nat) (t0 : Int) (t1 : Int) : Option (TNode) :=
  some (5, t0, t1, (⟨#[]⟩ : ByteArray), 0, ())

def impl_textNode (k : Nat) (t0 : Int) (t1 : ByteArray) : Option (TNode) :=
  some (8, t0, 0, t1, 0, ())

def impl_listNode.l5 (k : Nat) : Nat → (List (List TNode)) → Int → Int → (List TNode) → Option (Unit × (List TNode))
  | 0, _, _, _, _ => none
  | n + 1, t22, t23, t24, o100 =>
    cond (decide (t24 < t23))
      ((rdL t22 t24).bind fun y1 =>
       cond (lim (List.length o100 + List.length y1)) ((impl_listNode.l5 k n) t22 t23 (IntKind.wrap .i64 (t24 + 1)) (o100 ++ y1)) none)
      (some ((), o100))

def impl_listNode.c4 (k : Nat) (t2 : List (List TNode)) (o100 : List TNode) : Option (Unit × (List TNode)) :=
  impl_listNode.l5 k k t2 (List.length t2 : Int) 0 o100

def impl_listNode (k : Nat) (t0 : Int) (t1 : Int) (t2 : List (List TNode)) : Option (Unit × (List TNode)) :=
  cond ((List.length t2 : Int) == 0)
    ((rdL [(9, t0, t1, (⟨#[]⟩ : ByteArray), (List.length t2 : Int), ())] 0).bind fun y2 =>
     (rdL [(9, t0, t1, (⟨#[]⟩ : ByteArray), (List.length t2 : Int), ())] 0).bind fun y3 =>
     impl_listNode.c4 k t2 (List.set [(9, t0, t1, (⟨#[]⟩ : ByteArray), (List.length t2 : Int), ())] (Int.toNat 0) (y3.1, y3.2.1, 0, y3.2.2.2.1, y3.2.2.2.2.1, ())))
    (impl_listNode.c4 k t2 [(9, t0, t1, (⟨#[]⟩ : ByteArray), (List.length t2 : Int), ())])

def impl_schemaNodes.c13 (k : Nat) (L3 : (List TCol) → Int → Int → (List (List TNode)) → Option (Unit × (List TNode))) (t8 : List TCol) (t9 : Int) (t10 : Int) (o100 : List (List TNode)) (o101 : List (List TNode)) : Option (Unit × (List TNode)) :=
  (impl_structNode k 0 o101).bind fun r1 =>
  cond (lim (List.length o100 + List.length [r1.2])) (L3 t8 t9 (IntKind.wrap .i64 (t10 + 1)) (o100 ++ [r1.2])) none

def impl_schemaNodes.c10 (k : Nat) (L3 : (List TCol) → Int → Int → (List (List TNode)) → Option (Unit × (List TNode))) (t8 : List TCol) (t9 : Int) (t10 : Int) (o100 : List (List TNode)) (o101 : TCol) (o102 : List (List TNode)) : Option (Unit × (List TNode)) :=
  (impl_textNode k 4 o101.1).bind fun r2 =>
  cond (lim (List.length o102 + List.length [[r2]])) (
  cond (o101.2.1 == 7)
    ((impl_intNode k 5 o101.2.2.2.1).bind fun r3 =>
     cond (lim (List.length (o102 ++ [[r2]]) + List.length [[r3]])) (impl_schemaNodes.c13 k L3 t8 t9 t10 o100 ((o102 ++ [[r2]]) ++ [[r3]])) none)
    (impl_schemaNodes.c13 k L3 t8 t9 t10 o100 (o102 ++ [[r2]]))) none

def impl_schemaNodes.c8 (k : Nat) (L3 : (List TCol) → Int → Int → (List (List TNode)) → Option (Unit × (List TNode))) (t4 : Int) (t8 : List TCol) (t9 : Int) (t10 : Int) (o100 : List (List TNode)) (o101 : TCol) (o102 : List (List TNode)) : Option (Unit × (List TNode)) :=
  cond (decide (t4 > 0))
    ((impl_intNode k 3 o101.2.2.1).bind fun r4 =>
     cond (lim (List.length o102 + List.length [[r4]])) (impl_schemaNodes.c10 k L3 t8 t9 t10 o100 o101 (o102 ++ [[r4]])) none)
    (impl_schemaNodes.c10 k L3 t8 t9 t10 o100 o101 o102)

def impl_schemaNodes.l3 (k : Nat) : Nat → (List TCol) → Int → Int → (List (List TNode)) → Option (Unit × (List TNode))
  | 0, _, _, _, _ => none
  | n + 1, t8, t9, t10, o100 =>
    cond (decide (t10 < t9))
      ((rdL t8 t10).bind fun y5 =>
       cond (y5.2.1 != 7)
         ((impl_intNode k 1 y5.2.1).bind fun r6 =>
          cond (lim ((0 : Nat) + List.length [[r6]])) (impl_schemaNodes.c8 k (impl_schemaNodes.l3 k n) t10 t8 t9 t10 o100 y5 ([] ++ [[r6]])) none)
         (impl_schemaNodes.c8 k (impl_schemaNodes.l3 k n) t10 t8 t9 t10 o100 y5 []))
      ((impl_listNode k 2 12 o100).bind fun r7 => some ((), r7.2))

def impl_schemaNodes (k : Nat) (t0 : List TCol) : Option (Unit × (List TNode)) :=
  impl_schemaNodes.l3 k k t0 (List.length t0 : Int) 0 []

def impl_SchemaTree (k : Nat) (t0 : List TCol) : Option ((Unit × Bool) × (List TNode)) :=
  (impl_SchemaOk k t0).bind fun r1 =>
  cond (!r1) (some (((), false), [])) ((impl_schemaNodes k t0).bind fun r2 => (impl_structNode k 0 [r2.2]).bind fun r3 => some (((), true), r3.2))

def impl_SchemaAfter (k : Nat) (t0 : List TCol) (t1 : Int) : Option Int :=
  (impl_SchemaOk k t0).bind fun r1 =>
  (cond (!r1) (some (true)) ((impl_within k t1 0 (IntKind.wrap .i64 ((List.length t0 : Int) - 1))).bind fun r2 => some (!r2))).bind fun b3 =>
  cond b3 (some (-1)) ((impl_colAfter k t0 t1 1).bind fun r4 => some r4)

def laws_sameCols.l4 (k : Nat) : Nat → (List TCol) → (List TCol) → Int → Option Bool
  | 0, _, _, _ => none
  | n + 1, t0, t1, t5 =>
    cond (decide (t5 < (List.length t0 : Int)))
      ((rdL t0 t5).bind fun y1 =>
       (rdL t1 t5).bind fun y2 =>
       cond (!((eqS y1.1 y2.1 && ((y1.2.1 == y2.2.1) && ((y1.2.2.1 == y2.2.2.1) && ((y1.2.2.2.1 == y2.2.2.2.1) && true))))))
         (some false)
         ((laws_sameCols.l4 k n) t0 t1 (IntKind.wrap .i64 (t5 + 1))))
      (some true)

def laws_sameCols (k : Nat) (t0 : List TCol) (t1 : List TCol) : Option Bool :=
  cond ((List.length t0 : Int) != (List.length t1 : Int)) (some false) (laws_sameCols.l4 k k t0 t1 0)

def laws_FnSchema (k : Nat) (t0 : List Int) : Option Bool :=
  (laws_big k t0).bind fun r1 =>
  cond r1
    (some true)
    ((spec_DrawSchemaTree k t0).bind fun r2 =>
     (impl_SchemaTree k r2.2).bind fun r3 =>
     (spec_SchemaOk k r2.2).bind fun r4 =>
     (cond (!(r3.1.2 == r4)) (some (true)) ((impl_SchemaOk k r2.2).bind fun r5 => some (!(r5 == r3.1.2)))).bind fun b6 =>
     cond b6
       (some false)
       (cond (!r3.1.2)
          ((cond ((List.length r3.2 : Int) == 0) ((impl_SchemaAfter k r2.2 0).bind fun r7 => some (r7 == (-1))) (some (false))).bind fun b8 => some b8)
          ((impl_TreePack k r3.2).bind fun r9 =>
           (impl_TreeRead k r9.2 0).bind fun r10 =>
           (impl_SchemaOf k r10.2 0).bind fun r11 =>
           (cond r9.1.2 (some (r10.1.2.2 == 0)) (some (false))).bind fun b12 =>
           (cond b12 (some (r11.1.2)) (some (false))).bind fun b13 =>
           (cond b13 ((laws_sameCols k r11.2 r2.2).bind fun r14 => some (r14)) (some (false))).bind fun b15 =>
           (cond b15 ((impl_SchemaAfter k r2.2 0).bind fun r16 => some (r16 == (List.length r2.2 : Int))) (some (false))).bind fun b17 => some b17)))

def impl_TreeOk (k : Nat) (t0 : List TNode) : Option Bool :=
  (impl_treeOf k t0).bind fun r1 => some r1.1.2

def spec_l4Int (k : Nat) (t0 : Int) : Option Bool :=
  (spec_l1In k t0 (-2147483648) 2147483647).bind fun r1 => some r1

def spec_l4Kind.c9 (k : Nat) (t4 : Bool) : Option Bool :=
  cond t4 (some true) (some false)

def spec_l4Kind (k : Nat) (t0 : Int) : Option Bool :=
  cond (t0 == 1)
    (spec_l4Kind.c9 k (t0 == 1))
    (cond (t0 == 2)
       (spec_l4Kind.c9 k (t0 == 2))
       (cond (t0 == 5)
          (spec_l4Kind.c9 k (t0 == 5))
          (cond (t0 == 6)
             (spec_l4Kind.c9 k (t0 == 6))
             (cond (t0 == 8) (spec_l4Kind.c9 k (t0 == 8)) (cond (t0 == 9) (spec_l4Kind.c9 k (t0 == 9)) (spec_l4Kind.c9 k (t0 == 12)))))))

def spec_l4Item (k : Nat) (t0 : Int) : Option Bool :=
  (spec_l4Kind k t0).bind fun r1 =>
  (cond r1 (some (t0 != 1)) (some (false))).bind fun b2 => (cond b2 (some (t0 != 2)) (some (false))).bind fun b3 => some b3

def spec_l4Plain.c4 (k : Nat) (t4 : Int) (t5 : Bool) (o100 : TNode) : Option Bool :=
  cond t5
    ((cond (o100.2.2.1 == 0) (some (eqS o100.2.2.2.1 (⟨#[]⟩ : ByteArray))) (some (false))).bind fun b1 =>
     (cond b1 (some (o100.2.2.2.2.1 == 0)) (some (false))).bind fun b2 => some b2)
    (cond (t4 == 5)
       ((spec_l4Int k o100.2.2.1).bind fun r3 =>
        (cond r3 (some (eqS o100.2.2.2.1 (⟨#[]⟩ : ByteArray))) (some (false))).bind fun b4 =>
        (cond b4 (some (o100.2.2.2.2.1 == 0)) (some (false))).bind fun b5 => some b5)
       (cond (t4 == 6)
          ((cond (eqS o100.2.2.2.1 (⟨#[]⟩ : ByteArray)) (some (o100.2.2.2.2.1 == 0)) (some (false))).bind fun b6 => some b6)
          (cond (t4 == 8)
             ((cond (o100.2.2.1 == 0) (some (decide ((o100.2.2.2.1.size : Int) ≤ 300))) (some (false))).bind fun b7 =>
              (cond b7 (some (o100.2.2.2.2.1 == 0)) (some (false))).bind fun b8 => some b8)
             (cond (t4 == 9)
                ((cond (eqS o100.2.2.2.1 (⟨#[]⟩ : ByteArray)) (some (decide (o100.2.2.2.2.1 ≥ 0))) (some (false))).bind fun b9 =>
                 (cond b9
                    ((cond (o100.2.2.2.2.1 == 0) (some (o100.2.2.1 == 0)) (some (false))).bind fun b10 =>
                     (cond b10
                        (some (true))
                        ((cond (decide (o100.2.2.2.2.1 > 0)) ((spec_l4Item k o100.2.2.1).bind fun r11 => some (r11)) (some (false))).bind fun b12 =>
                         some (b12))).bind fun b13 =>
                     some (b13))
                    (some (false))).bind fun b14 =>
                 some b14)
                (cond (t4 == 12)
                   ((cond (o100.2.2.1 == 0) (some (eqS o100.2.2.2.1 (⟨#[]⟩ : ByteArray))) (some (false))).bind fun b15 =>
                    (cond b15 (some (decide (o100.2.2.2.2.1 ≥ 0))) (some (false))).bind fun b16 => some b16)
                   (some false))))))

def spec_l4Plain (k : Nat) (t0 : TNode) : Option Bool :=
  cond (t0.1 == 1) (spec_l4Plain.c4 k t0.1 (t0.1 == 1) t0) (spec_l4Plain.c4 k t0.1 (t0.1 == 2) t0)

def spec_l4Check.l7 (k : Nat) (S54 : (List TNode) → Int → Int → Option Int) : Nat → (List TNode) → Int → Int → Int → Int → TNode → Option Int
  | 0, _, _, _, _, _, _ => none
  | n + 1, t0, t2, t8, t9, t10, o100 =>
    cond (decide (t10 < o100.2.2.2.2.1))
      (cond (decide (t8 ≥ (List.length t0 : Int)))
         (some (-1))
         ((rdL t0 t8).bind fun y1 =>
          (cond (o100.1 == 9) ((cond (y1.1 != o100.2.2.1) (some (true)) (some (y1.2.1 != 0))).bind fun b2 => some (b2)) (some (false))).bind fun b3 =>
          (cond b3
             (some (true))
             ((cond (o100.1 == 12)
                 ((cond (decide (y1.2.1 ≤ t9)) (some (true)) (some (decide (y1.2.1 > 1000)))).bind fun b4 => some (b4))
                 (some (false))).bind fun b5 =>
              some (b5))).bind fun b6 =>
          cond b6
            (some (-1))
            ((S54 t0 t8 (IntKind.wrap .i64 (t2 + 1))).bind fun r7 =>
             cond (decide (r7 < 0)) (some (-1)) ((spec_l4Check.l7 k S54 n) t0 t2 r7 y1.2.1 (IntKind.wrap .i64 (t10 + 1)) o100))))
      (some t8)

def spec_l4Check.b (k : Nat) (S54 : (List TNode) → Int → Int → Option Int) (t0 : List TNode) (t1 : Int) (t2 : Int) : Option Int :=
  (cond (decide (t1 ≥ (List.length t0 : Int))) (some (true)) (some (decide (t2 > 12)))).bind fun b8 =>
  (cond b8 (some (true)) ((rdL t0 t1).bind fun y9 => (spec_l4Plain k y9).bind fun r10 => some (!r10))).bind fun b11 =>
  cond b11 (some (-1)) ((rdL t0 t1).bind fun y12 => spec_l4Check.l7 k S54 k t0 t2 (IntKind.wrap .i64 (t1 + 1)) 0 0 y12)

def spec_l4Check.rec (k : Nat) : Nat → ((List TNode) → Int → Int → Option Int)
  | 0 => fun _ _ _ => none
  | d + 1 => spec_l4Check.b k ((spec_l4Check.rec k d))

def spec_l4Check.d (k d : Nat) : (List TNode) → Int → Int → Option Int := (spec_l4Check.rec k d)

def spec_l4Check (k : Nat) : (List TNode) → Int → Int → Option Int := spec_l4Check.d k k

def spec_TreeOk (k : Nat) (t0 : List TNode) : Option Bool :=
  (spec_l1In k (List.length t0 : Int) 1 1500).bind fun r1 =>
  (cond (!r1) (some (true)) ((rdL t0 0).bind fun y2 => some (y2.1 != 12))).bind fun b3 =>
  (cond b3 (some (true)) ((rdL t0 0).bind fun y4 => some (y4.2.1 != 0))).bind fun b5 =>
  cond b5 (some false) ((spec_l4Check k t0 0 1).bind fun r6 => some (r6 == (List.length t0 : Int)))

def spec_l4After.l3 (k : Nat) (S116 : (List TNode) → Int → Option Int) : Nat → (List TNode) → Int → Int → Int → Option Int
  | 0, _, _, _, _ => none
  | n + 1, t0, t1, t5, t6 =>
    (rdL t0 t1).bind fun y1 =>
    cond (decide (t6 < y1.2.2.2.2.1)) ((S116 t0 t5).bind fun r2 => (spec_l4After.l3 k S116 n) t0 t1 r2 (IntKind.wrap .i64 (t6 + 1))) (some t5)

def spec_l4After.b (k : Nat) (S116 : (List TNode) → Int → Option Int) (t0 : List TNode) (t1 : Int) : Option Int :=
  spec_l4After.l3 k S116 k t0 t1 (IntKind.wrap .i64 (t1 + 1)) 0

def spec_l4After.rec (k : Nat) : Nat → ((List TNode) → Int → Option Int)
  | 0 => fun _ _ => none
  | d + 1 => spec_l4After.b k ((spec_l4After.rec k d))

def spec_l4After.d (k d : Nat) : (List TNode) → Int → Option Int := (spec_l4After.rec k d)

def spec_l4After (k : Nat) : (List TNode) → Int → Option Int := spec_l4After.d k k

def spec_l4Find.l5 (k : Nat) : Nat → (List TNode) → Int → Int → Int → Int → Option Int
  | 0, _, _, _, _, _ => none
  | n + 1, t0, t1, t2, t7, t8 =>
    (rdL t0 t1).bind fun y1 =>
    cond (decide (t8 < y1.2.2.2.2.1))
      ((rdL t0 t7).bind fun y2 =>
       cond (y2.2.1 == t2) (some t7) ((spec_l4After k t0 t7).bind fun r3 => (spec_l4Find.l5 k n) t0 t1 t2 r3 (IntKind.wrap .i64 (t8 + 1))))
      (some (-1))

def spec_l4Find (k : Nat) (t0 : List TNode) (t1 : Int) (t2 : Int) : Option Int :=
  (rdL t0 t1).bind fun y4 => cond (y4.1 != 12) (some (-1)) (spec_l4Find.l5 k k t0 t1 t2 (IntKind.wrap .i64 (t1 + 1)) 0)

def spec_l4TextOf (k : Nat) (t0 : List TNode) (t1 : Int) (t2 : Int) : Option (ByteArray × Bool) :=
  (spec_l4Find k t0 t1 t2).bind fun r1 =>
  (cond (decide (r1 < 0)) (some (true)) ((rdL t0 r1).bind fun y2 => some (y2.1 != 8))).bind fun b3 =>
  cond b3 (some ((⟨#[]⟩ : ByteArray), false)) ((rdL t0 r1).bind fun y4 => some (y4.2.2.2.1, true))

def spec_l4NumOf (k : Nat) (t0 : List TNode) (t1 : Int) (t2 : Int) : Option (Int × Bool) :=
  (spec_l4Find k t0 t1 t2).bind fun r1 =>
  (cond (decide (r1 < 0))
     (some (true))
     ((rdL t0 r1).bind fun y2 => (cond (y2.1 != 5) ((rdL t0 r1).bind fun y3 => some (y3.1 != 6)) (some (false))).bind fun b4 => some (b4))).bind fun b5 =>
  cond b5 (some (0, false)) ((rdL t0 r1).bind fun y6 => some (y6.2.2.1, true))

def spec_l5Col.c12 (k : Nat) (t0 : List TNode) (t1 : Int) (t9 : Bool) (t11 : Bool) (t13 : Bool) (t15 : Bool) (o100 : TCol) (o101 : TCol) : Option (TCol × Bool) :=
  (cond t9 (some (t15)) (some (false))).bind fun b1 =>
  (cond b1 (some (!(t11 == t13))) (some (false))).bind fun b2 =>
  (cond b2 ((cond t11 (some (true)) ((spec_l4Find k t0 t1 1).bind fun r3 => some (decide (r3 < 0)))).bind fun b4 => some (b4)) (some (false))).bind fun b5 =>
  (cond b5 ((cond t13 (some (true)) ((spec_l4Find k t0 t1 5).bind fun r6 => some (decide (r6 < 0)))).bind fun b7 => some (b7)) (some (false))).bind fun b8 =>
  some (o101, b8)

def spec_l5Col.c9 (k : Nat) (t0 : List TNode) (t1 : Int) (t9 : Bool) (t11 : Bool) (t12 : Int) (t13 : Bool) (t15 : Bool) (o100 : TCol) (o101 : TCol) : Option (TCol × Bool) :=
  cond (!t11) (spec_l5Col.c12 k t0 t1 t9 t11 t13 t15 o100 (o101.1, 7, o101.2.2.1, t12, ())) (spec_l5Col.c12 k t0 t1 t9 t11 t13 t15 o100 o101)

def spec_l5Col (k : Nat) (t0 : List TNode) (t1 : Int) (t2 : Bool) : Option (TCol × Bool) :=
  (spec_l4TextOf k t0 t1 4).bind fun r9 =>
  (spec_l4NumOf k t0 t1 1).bind fun r10 =>
  (spec_l4NumOf k t0 t1 5).bind fun r11 =>
  (spec_l4NumOf k t0 t1 3).bind fun r12 =>
  cond t2
    (spec_l5Col.c9 k t0 t1 r9.2 r10.2 r11.1 r11.2 true ((⟨#[]⟩ : ByteArray), 0, 0, 0, ()) (r9.1, r10.1, 0, 0, ()))
    (spec_l5Col.c9 k t0 t1 r9.2 r10.2 r11.1 r11.2 r12.2 ((⟨#[]⟩ : ByteArray), 0, 0, 0, ()) (r9.1, r10.1, r12.1, 0, ()))

def spec_l5Of.l8 (k : Nat) : Nat → (List TNode) → Int → Int → Int → (List TCol) → (List TCol) → Option ((Unit × Bool) × (List TCol))
  | 0, _, _, _, _, _, _ => none
  | n + 1, t0, t9, t11, t12, o100, o101 =>
    (rdL t0 t9).bind fun y1 =>
    cond (decide (t12 < y1.2.2.2.2.1))
      ((spec_l5Col k t0 t11 (t12 == 0)).bind fun r2 =>
       cond (!r2.2)
         (some (((), false), o100))
         (cond (lim (List.length o101 + List.length [r2.1])) (
          (spec_l4After k t0 t11).bind fun r3 => (spec_l5Of.l8 k n) t0 t9 r3 (IntKind.wrap .i64 (t12 + 1)) o100 (o101 ++ [r2.1])) none))
      ((spec_SchemaOk k o101).bind fun r4 => cond (!r4) (some (((), false), o100)) (some (((), true), o101)))

def spec_l5Of (k : Nat) (t0 : List TNode) (t1 : Int) (t2 : Int) : Option ((Unit × Bool) × (List TCol)) :=
  (spec_l4Find k t0 t1 t2).bind fun r5 =>
  (cond (decide (r5 < 0)) (some (true)) ((rdL t0 r5).bind fun y6 => some (y6.1 != 9))).bind fun b7 =>
  (cond b7 (some (true)) ((rdL t0 r5).bind fun y8 => some (y8.2.2.1 != 12))).bind fun b9 =>
  cond b9 (some (((), false), [])) (spec_l5Of.l8 k k t0 r5 (IntKind.wrap .i64 (r5 + 1)) 0 [] [])

def spec_SchemaOf (k : Nat) (t0 : List TNode) (t1 : Int) : Option ((Unit × Bool) × (List TCol)) :=
  (spec_TreeOk k t0).bind fun r1 =>
  (cond (!r1) (some (true)) ((spec_l1In k t1 0 (IntKind.wrap .i64 ((List.length t0 : Int) - 1))).bind fun r2 => some (!r2))).bind fun b3 =>
  cond b3 (some (((), false), [])) ((spec_l5Of k t0 t1 2).bind fun r4 => some (((), r4.1.2), r4.2))

def spec_l1DrawBytes.l4 (k : Nat) : Nat → Int → Int → TL1Cur → (List Int) → Option (Unit × TL1Cur × (List Int))
  | 0, _, _, _, _ => none
  | n + 1, t6, t7, o0, o100 =>
    cond (decide (t7 < t6))
      ((spec_l1Byte k o0).bind fun r1 =>
       cond (lim (List.length o100 + List.length [IntKind.wrap .u8 r1.1])) (
       (spec_l1DrawBytes.l4 k n) t6 (IntKind.wrap .i64 (t7 + 1)) r1.2 (o100 ++ [IntKind.wrap .u8 r1.1])) none)
      (some ((), (o0, o100)))

def spec_l1DrawBytes (k : Nat) (t1 : Int) (o0 : TL1Cur) : Option (Unit × TL1Cur × (List Int)) :=
  (spec_l1Below k (IntKind.wrap .i64 (t1 + 1)) o0).bind fun r2 => spec_l1DrawBytes.l4 k k r2.1 0 r2.2 []

def spec_l4DrawText (k : Nat) (t1 : Int) (o0 : TL1Cur) : Option (ByteArray × TL1Cur) :=
  (spec_l1DrawBytes k t1 o0).bind fun r1 => some (intsStr r1.2.2, r1.2.1)

def spec_l2DrawNum (k : Nat) (o0 : TL1Cur) : Option (Int × TL1Cur) :=
  (spec_l1Below k 1000000 o0).bind fun r1 =>
  (spec_l1Below k 1000000 r1.2).bind fun r2 =>
  (spec_l1Below k 300 r2.2).bind fun r3 =>
  (spec_l1PickInt k [0, 1, (-1), 63, 64, (-64), (-65), 127, 128, 16383, 16384, 2147483647, (-2147483648), 9223372036854775807, (-9223372036854775808), 4611686018427387904, r1.1, IntKind.wrap .i64 (0 - r2.1), r3.1] r3.2).bind fun r4 =>
  some (r4.1, r4.2)

end Go.Fn
