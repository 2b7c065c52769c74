import Derived.Test.YtabocefniklbpaaAmStep
import Derived.Laws.BitsLemmas
import Derived.Laws.Strings
import Derived.Test.YtabocefniklbpaaMAYF0
set_option linter.unnecessarySimpa false
set_option linter.unusedSimpArgs false
set_option linter.unusedVariables false
set_option linter.unusedSectionVars false
section
/- Plain laws of the words that clean functions use: whole numbers that wrap, bits, rows, strings. -/
set_option linter.unusedVariables false
namespace Go.Fn
open Go Go.Am
def impl_LeafOk (k : Nat) (t0 : TLeaf) : Option Bool :=
  (impl_TypeOk k t0.1).bind fun r1 =>
  (cond r1 ((impl_within k t0.2.2.1 0 6).bind fun r2 => some (r2)) (some (false))).bind fun b3 =>
  (cond b3 ((impl_within k t0.2.1 0 t0.2.2.1).bind fun r4 => some (r4)) (some (false))).bind fun b5 => some b5
def spec_l13Values.c7 (k : Nat) (L6 : (List TCol) → Int → (List TVal) → Int → Int → Int → Int → (List TVal) → Option ((Unit × Int) × (List TVal))) (t0 : List TCol) (t1 : Int) (t3 : List TVal) (t4 : Int) (t5 : Int) (t16 : Int) (t17 : Int) (o100 : List TVal) : Option ((Unit × Int) × (List TVal)) :=
  L6 t0 t1 t3 t4 t5 t16 (IntKind.wrap .i64 (t17 + 1)) o100
def spec_l13Values.l14 (k : Nat) (S298 : (List TCol) → Int → Bool → (List TVal) → Int → Int → (List TVal) → Option ((Unit × Int) × (List TVal))) (L6 : (List TCol) → Int → (List TVal) → Int → Int → Int → Int → (List TVal) → Option ((Unit × Int) × (List TVal))) : Nat → (List TCol) → Int → (List TVal) → Int → Int → Int → Int → Int → Int → (List TVal) → Option ((Unit × Int) × (List TVal))
  | 0, _, _, _, _, _, _, _, _, _, _ => none
  | n + 1, t0, t1, t3, t4, t5, t16, t17, t18, t19, o100 =>
    (rdL t0 t1).bind fun y1 =>
    cond (decide (t19 < y1.2.2.2.1))
      ((S298 t0 t18 false t3 t4 t5 o100).bind fun r2 =>
       (spec_l5After k t0 t18).bind fun r3 => (spec_l13Values.l14 k S298 L6 n) t0 t1 t3 r2.1.2 t5 t16 t17 r3 (IntKind.wrap .i64 (t19 + 1)) r2.2)
      (spec_l13Values.c7 k L6 t0 t1 t3 t4 t5 t16 t17 o100)
def spec_l13Values.c11 (k : Nat) (L6 : (List TCol) → Int → (List TVal) → Int → Int → Int → Int → (List TVal) → Option ((Unit × Int) × (List TVal))) (t0 : List TCol) (t1 : Int) (t3 : List TVal) (t4 : Int) (t5 : Int) (t16 : Int) (t17 : Int) (o100 : List TVal) : Option ((Unit × Int) × (List TVal)) :=
  spec_l13Values.c7 k L6 t0 t1 t3 (IntKind.wrap .i64 (t4 + 1)) t5 t16 t17 o100
def spec_l13Values.l6 (k : Nat) (S298 : (List TCol) → Int → Bool → (List TVal) → Int → Int → (List TVal) → Option ((Unit × Int) × (List TVal))) : Nat → (List TCol) → Int → (List TVal) → Int → Int → Int → Int → (List TVal) → Option ((Unit × Int) × (List TVal))
  | 0, _, _, _, _, _, _, _, _ => none
  | n + 1, t0, t1, t3, t4, t5, t16, t17, o100 =>
    cond (decide (t17 < t16))
      ((rdL t0 t1).bind fun y4 =>
       cond (y4.2.1 != 7)
         (cond (t1 == t5)
            ((rdL t3 t4).bind fun y5 =>
             cond (lim (List.length o100 + List.length [y5])) (
             spec_l13Values.c11 k (spec_l13Values.l6 k S298 n) t0 t1 t3 t4 t5 t16 t17 (o100 ++ [y5])) none)
            (spec_l13Values.c11 k (spec_l13Values.l6 k S298 n) t0 t1 t3 t4 t5 t16 t17 o100))
         (spec_l13Values.l14 k S298 (spec_l13Values.l6 k S298 n) k t0 t1 t3 t4 t5 t16 t17 (IntKind.wrap .i64 (t1 + 1)) 0 o100))
      (some (((), t4), o100))
def spec_l13Values.c5 (k : Nat) (S298 : (List TCol) → Int → Bool → (List TVal) → Int → Int → (List TVal) → Option ((Unit × Int) × (List TVal))) (t0 : List TCol) (t1 : Int) (t3 : List TVal) (t4 : Int) (t5 : Int) (t16 : Int) (o10 : List TVal) : Option ((Unit × Int) × (List TVal)) :=
  spec_l13Values.l6 k S298 k t0 t1 t3 t4 t5 t16 0 o10
def spec_l13Values.b (k : Nat) (S298 : (List TCol) → Int → Bool → (List TVal) → Int → Int → (List TVal) → Option ((Unit × Int) × (List TVal))) (t0 : List TCol) (t1 : Int) (t2 : Bool) (t3 : List TVal) (t4 : Int) (t5 : Int) (o10 : List TVal) : Option ((Unit × Int) × (List TVal)) :=
  (cond (!t2) ((rdL t0 t1).bind fun y6 => some (y6.2.2.1 != 0)) (some (false))).bind fun b7 =>
  cond b7
    ((rdL t3 t4).bind fun y8 => spec_l13Values.c5 k S298 t0 t1 t3 (IntKind.wrap .i64 (t4 + 1)) t5 y8.1 o10)
    (spec_l13Values.c5 k S298 t0 t1 t3 t4 t5 1 o10)
def spec_l13Values.rec (k : Nat) : Nat → ((List TCol) → Int → Bool → (List TVal) → Int → Int → (List TVal) → Option ((Unit × Int) × (List TVal)))
  | 0 => fun _ _ _ _ _ _ _ => none
  | d + 1 => spec_l13Values.b k ((spec_l13Values.rec k d))
def spec_l13Values.d (k d : Nat) : (List TCol) → Int → Bool → (List TVal) → Int → Int → (List TVal) → Option ((Unit × Int) × (List TVal)) := (spec_l13Values.rec k d)
def spec_l13Values (k : Nat) : (List TCol) → Int → Bool → (List TVal) → Int → Int → (List TVal) → Option ((Unit × Int) × (List TVal)) := spec_l13Values.d k k
def spec_RecValues (k : Nat) (t0 : List TCol) (t1 : TRec) (t2 : Int) : Option ((Unit × Bool) × (List TVal)) :=
  (spec_SchemaLeaves k t0).bind fun r1 =>
  (spec_RecOk k t0 t1).bind fun r2 =>
  (cond (!r2) (some (true)) ((spec_l1In k t2 0 (IntKind.wrap .i64 ((List.length r1.2 : Int) - 1))).bind fun r3 => some (!r3))).bind fun b4 =>
  cond b4 (some (((), false), [])) ((rdL r1.2 t2).bind fun y5 => (spec_l13Values k t0 0 true t1.1 0 y5 []).bind fun r6 => some (((), true), r6.2))
def spec_l20Holds.b (k : Nat) (S99 : (List TCol) → (List TPred) → Int → TRec → Option Bool) (t0 : List TCol) (t1 : List TPred) (t2 : Int) (t3 : TRec) : Option Bool :=
  (rdL t1 t2).bind fun y1 =>
  cond (y1.1 == 5)
    ((S99 t0 t1 y1.2.2.2.1 t3).bind fun r2 => (cond r2 ((S99 t0 t1 y1.2.2.2.2.1 t3).bind fun r3 => some (r3)) (some (false))).bind fun b4 => some b4)
    (cond (y1.1 == 6)
       ((S99 t0 t1 y1.2.2.2.1 t3).bind fun r5 => (cond r5 (some (true)) ((S99 t0 t1 y1.2.2.2.2.1 t3).bind fun r6 => some (r6))).bind fun b7 => some b7)
       (cond (y1.1 == 7)
          ((S99 t0 t1 y1.2.2.2.1 t3).bind fun r8 => some (!r8))
          ((spec_LeafOf k t0 y1.2.1).bind fun r9 =>
           (spec_RecValues k t0 t3 y1.2.1).bind fun r10 =>
           cond ((List.length r10.2 : Int) == 0)
             (some (y1.1 == 4))
             (cond (y1.1 == 1)
                ((rdL r10.2 0).bind fun y11 => some ((y11.1 == y1.2.2.1.1) && (eqS y11.2.1 y1.2.2.1.2.1 && true)))
                (cond (y1.1 == 2)
                   ((rdL r10.2 0).bind fun y12 => (spec_ValLess k r9.1.1 y12 y1.2.2.1).bind fun r13 => some r13)
                   (cond (y1.1 == 3) ((rdL r10.2 0).bind fun y14 => (spec_ValLess k r9.1.1 y1.2.2.1 y14).bind fun r15 => some (!r15)) (some false)))))))
def spec_l20Holds.rec (k : Nat) : Nat → ((List TCol) → (List TPred) → Int → TRec → Option Bool)
  | 0 => fun _ _ _ _ => none
  | d + 1 => spec_l20Holds.b k ((spec_l20Holds.rec k d))
def spec_l20Holds.d (k d : Nat) : (List TCol) → (List TPred) → Int → TRec → Option Bool := (spec_l20Holds.rec k d)
def spec_l20Holds (k : Nat) : (List TCol) → (List TPred) → Int → TRec → Option Bool := spec_l20Holds.d k k
def spec_PredHolds (k : Nat) (t0 : List TCol) (t1 : List TPred) (t2 : TRec) : Option Bool :=
  (spec_PredOk k t0 t1).bind fun r1 =>
  (cond r1 ((spec_RecOk k t0 t2).bind fun r2 => some (r2)) (some (false))).bind fun b3 =>
  (cond b3 ((spec_l20Holds k t0 t1 (IntKind.wrap .i64 ((List.length t1 : Int) - 1)) t2).bind fun r4 => some (r4)) (some (false))).bind fun b5 =>
  some b5
def impl_PredNot (k : Nat) (t0 : List TPred) : Option ((Unit × Bool) × (List TPred)) :=
  (cond ((List.length t0 : Int) == 0) (some (true)) (some (decide ((IntKind.wrap .i64 ((List.length t0 : Int) + 1)) > 31)))).bind fun b1 =>
  cond b1
    (some (((), false), []))
    (cond (lim ((0 : Nat) + List.length t0)) (
     cond (lim (List.length ([] ++ t0 : List TPred) + List.length ([(7, 0, (0, (⟨#[]⟩ : ByteArray), ()), IntKind.wrap .i64 ((List.length t0 : Int) - 1), 0, ())] : List TPred))) (
     some (((), true), ([] ++ t0) ++ [(7, 0, (0, (⟨#[]⟩ : ByteArray), ()), IntKind.wrap .i64 ((List.length t0 : Int) - 1), 0, ())])) none) none)
def impl_leafNumbers.l3 (k : Nat) : Nat → Int → Int → (List Int) → (List Int) → Option (Unit × (List Int))
  | 0, _, _, _, _ => none
  | n + 1, t11, t12, o100, o101 =>
    cond (decide (t12 < t11))
      ((rdL o101 t12).bind fun y1 =>
       (rdL o100 y1).bind fun y2 =>
       (rdL o100 y1).bind fun y3 => (impl_leafNumbers.l3 k n) t11 (IntKind.wrap .i64 (t12 + 1)) (List.set o100 (Int.toNat y1) t12) o101)
      (some ((), o100))
def impl_leafNumbers (k : Nat) (t0 : List TCol) : Option (Unit × (List Int)) :=
  cond (okLen (List.length t0 : Int)) (
  (impl_leavesOf k t0).bind fun r4 => impl_leafNumbers.l3 k k (List.length r4.2 : Int) 0 (List.replicate (Int.toNat (List.length t0 : Int)) 0) r4.2) none
def impl_walker_next_of_Shred_1_Shred_2 (k : Nat) (o0 : ((List TCol) × (List TVal) × Bool × (Unit × Unit × Unit) × (Unit × Unit) × Unit)) (o10 : Unit) (o11 : List TColumn) (o12 : Unit) (o13 : List Int) (o14 : Unit × Unit × Unit) : Option ((TVal) × ((List TCol) × (List TVal) × Bool × (Unit × Unit × Unit) × (Unit × Unit) × Unit) × Unit × (List TColumn) × Unit × (List Int) × (Unit × Unit × Unit)) :=
  (cond o0.2.2.1 (some (true)) (some ((List.length o0.2.1 : Int) == 0))).bind fun b1 =>
  cond b1
    (some ((0, (⟨#[]⟩ : ByteArray), ()), ((o0.1, o0.2.1, true, ((), (), ()), ((), ()), ()), (), o11, (), o13, ((), (), ()))))
    ((rdL o0.2.1 0).bind fun y2 =>
     cond (inSl 1 ((List.length o0.2.1) : Int) (List.length o0.2.1)) (
     some (y2, ((o0.1, cutL o0.2.1 1 ((List.length o0.2.1) : Int), o0.2.2.1, ((), (), ()), ((), ()), ()), (), o11, (), o13, ((), (), ())))) none)
def impl_walker_count_of_Shred_1_Shred_2 (k : Nat) (t1 : Int) (o0 : ((List TCol) × (List TVal) × Bool × (Unit × Unit × Unit) × (Unit × Unit) × Unit)) (o10 : Unit) (o11 : List TColumn) (o12 : Unit) (o13 : List Int) (o14 : Unit × Unit × Unit) : Option (Int × ((List TCol) × (List TVal) × Bool × (Unit × Unit × Unit) × (Unit × Unit) × Unit) × Unit × (List TColumn) × Unit × (List Int) × (Unit × Unit × Unit)) :=
  (impl_walker_next_of_Shred_1_Shred_2 k (o0.1, o0.2.1, o0.2.2.1, ((), (), ()), ((), ()), ()) () o11 () o13 ((), (), ())).bind fun r1 =>
  (cond (!eqS r1.1.2.1 (⟨#[]⟩ : ByteArray)) (some (true)) ((impl_within k r1.1.1 0 t1).bind fun r2 => some (!r2))).bind fun b3 =>
  cond b3
    (some (0, ((r1.2.1.1, r1.2.1.2.1, true, ((), (), ()), ((), ()), ()), (), r1.2.2.2.1, (), r1.2.2.2.2.2.1, ((), (), ()))))
    (some (r1.1.1, ((r1.2.1.1, r1.2.1.2.1, r1.2.1.2.2.1, ((), (), ()), ((), ()), ()), (), r1.2.2.2.1, (), r1.2.2.2.2.2.1, ((), (), ()))))
def impl_Shred_1 (k : Nat) (t0 : Int) (t1 : Int) (t2 : Int) (t3 : TVal) (o4 : Unit) (o5 : Unit) (o10 : List TColumn) (o11 : List Int) : Option (Unit × Unit × Unit × (List TColumn) × (List Int)) :=
  (rdL o11 t0).bind fun y1 =>
  (rdL o10 y1).bind fun y2 =>
  cond (lim (List.length y2.1 + List.length [(t1, t2, t3, ())])) (
  cond (y1 == y1) ((rdL o10 y1).bind fun y3 => some ((), ((), (), List.set o10 (Int.toNat y1) (y2.1 ++ [(t1, t2, t3, ())], ()), o11))) none) none
def impl_Shred_2_of_Shred_1 (k : Nat) (t0 : Int) (t1 : Int) (t2 : Int) (o3 : Unit × Unit × Unit) (o10 : Unit) (o11 : List TColumn) (o12 : Unit) (o13 : List Int) : Option (Unit × (Unit × Unit × Unit) × Unit × (List TColumn) × Unit × (List Int)) :=
  (impl_Shred_1 k t0 t1 t2 (0, (⟨#[]⟩ : ByteArray), ()) () () o11 o13).bind fun r1 => some ((), (((), (), ()), (), r1.2.2.2.1, (), r1.2.2.2.2))
def impl_walker_missing_of_Shred_1_Shred_2.c4 (k : Nat) (L3 : Int → Int → Int → Int → ((List TCol) × (List TVal) × Bool × (Unit × Unit × Unit) × (Unit × Unit) × Unit) → Unit → (List TColumn) → Unit → (List Int) → (Unit × Unit × Unit) → Option (Int × ((List TCol) × (List TVal) × Bool × (Unit × Unit × Unit) × (Unit × Unit) × Unit) × Unit × (List TColumn) × Unit × (List Int) × (Unit × Unit × Unit))) (t2 : Int) (t3 : Int) (t9 : Int) (t10 : Int) (o0 : ((List TCol) × (List TVal) × Bool × (Unit × Unit × Unit) × (Unit × Unit) × Unit)) (o10 : Unit) (o11 : List TColumn) (o12 : Unit) (o13 : List Int) (o14 : Unit × Unit × Unit) : Option (Int × ((List TCol) × (List TVal) × Bool × (Unit × Unit × Unit) × (Unit × Unit) × Unit) × Unit × (List TColumn) × Unit × (List Int) × (Unit × Unit × Unit)) :=
  L3 t2 t3 t9 (IntKind.wrap .i64 (t10 + 1)) (o0.1, o0.2.1, o0.2.2.1, ((), (), ()), ((), ()), ()) () o11 () o13 ((), (), ())
def impl_walker_missing_of_Shred_1_Shred_2.l3 (k : Nat) : Nat → Int → Int → Int → Int → ((List TCol) × (List TVal) × Bool × (Unit × Unit × Unit) × (Unit × Unit) × Unit) → Unit → (List TColumn) → Unit → (List Int) → (Unit × Unit × Unit) → Option (Int × ((List TCol) × (List TVal) × Bool × (Unit × Unit × Unit) × (Unit × Unit) × Unit) × Unit × (List TColumn) × Unit × (List Int) × (Unit × Unit × Unit))
  | 0, _, _, _, _, _, _, _, _, _, _ => none
  | n + 1, t2, t3, t9, t10, o0, o10, o11, o12, o13, o14 =>
    cond (decide (t10 < t9))
      ((rdL o0.1 t10).bind fun y1 =>
       cond (y1.2.1 != 7)
         ((impl_Shred_2_of_Shred_1 k t10 t2 t3 ((), (), ()) () o11 () o13).bind fun r2 =>
          impl_walker_missing_of_Shred_1_Shred_2.c4 k (impl_walker_missing_of_Shred_1_Shred_2.l3 k n) t2 t3 t9 t10 (o0.1, o0.2.1, o0.2.2.1, ((), (), ()), ((), ()), ()) () r2.2.2.2.1 () r2.2.2.2.2.2 ((), (), ()))
         (impl_walker_missing_of_Shred_1_Shred_2.c4 k (impl_walker_missing_of_Shred_1_Shred_2.l3 k n) t2 t3 t9 t10 (o0.1, o0.2.1, o0.2.2.1, ((), (), ()), ((), ()), ()) () o11 () o13 ((), (), ())))
      (some (t9, ((o0.1, o0.2.1, o0.2.2.1, ((), (), ()), ((), ()), ()), (), o11, (), o13, ((), (), ()))))
def impl_walker_missing_of_Shred_1_Shred_2 (k : Nat) (t1 : Int) (t2 : Int) (t3 : Int) (o0 : ((List TCol) × (List TVal) × Bool × (Unit × Unit × Unit) × (Unit × Unit) × Unit)) (o10 : Unit) (o11 : List TColumn) (o12 : Unit) (o13 : List Int) (o14 : Unit × Unit × Unit) : Option (Int × ((List TCol) × (List TVal) × Bool × (Unit × Unit × Unit) × (Unit × Unit) × Unit) × Unit × (List TColumn) × Unit × (List Int) × (Unit × Unit × Unit)) :=
  (impl_colAfter k o0.1 t1 1).bind fun r3 =>
  impl_walker_missing_of_Shred_1_Shred_2.l3 k k t2 t3 r3 t1 (o0.1, o0.2.1, o0.2.2.1, ((), (), ()), ((), ()), ()) () o11 () o13 ((), (), ())
def impl_walker_body_of_Shred_1_Shred_2.c14 (k : Nat) (t12 : Int) (o0 : ((List TCol) × (List TVal) × Bool × (Unit × Unit × Unit) × (Unit × Unit) × Unit)) (o10 : Unit) (o11 : List TColumn) (o12 : Unit) (o13 : List Int) (o14 : Unit × Unit × Unit) : Option (Int × ((List TCol) × (List TVal) × Bool × (Unit × Unit × Unit) × (Unit × Unit) × Unit) × Unit × (List TColumn) × Unit × (List Int) × (Unit × Unit × Unit)) :=
  some (t12, ((o0.1, o0.2.1, o0.2.2.1, ((), (), ()), ((), ()), ()), (), o11, (), o13, ((), (), ())))
def impl_walker_body_of_Shred_1_Shred_2.l10 (k : Nat) (S287i6 : Int → Int → Int → Int → ((List TCol) × (List TVal) × Bool × (Unit × Unit × Unit) × (Unit × Unit) × Unit) → Unit → (List TColumn) → Unit → (List Int) → (Unit × Unit × Unit) → Option (Int × ((List TCol) × (List TVal) × Bool × (Unit × Unit × Unit) × (Unit × Unit) × Unit) × Unit × (List TColumn) × Unit × (List Int) × (Unit × Unit × Unit))) : Nat → Int → Int → Int → Int → Int → Int → ((List TCol) × (List TVal) × Bool × (Unit × Unit × Unit) × (Unit × Unit) × Unit) → Unit → (List TColumn) → Unit → (List Int) → (Unit × Unit × Unit) → Option (Int × ((List TCol) × (List TVal) × Bool × (Unit × Unit × Unit) × (Unit × Unit) × Unit) × Unit × (List TColumn) × Unit × (List Int) × (Unit × Unit × Unit))
  | 0, _, _, _, _, _, _, _, _, _, _, _, _ => none
  | n + 1, t2, t3, t4, t12, t70, t71, o0, o10, o11, o12, o13, o14 =>
    cond (decide (t71 < t70))
      (cond o0.2.2.1
         (impl_walker_body_of_Shred_1_Shred_2.c14 k t12 (o0.1, o0.2.1, o0.2.2.1, ((), (), ()), ((), ()), ()) () o11 () o13 ((), (), ()))
         ((S287i6 t12 t2 t3 t4 (o0.1, o0.2.1, o0.2.2.1, ((), (), ()), ((), ()), ()) () o11 () o13 ((), (), ())).bind fun r1 =>
          (impl_walker_body_of_Shred_1_Shred_2.l10 k S287i6 n) t2 t3 t4 r1.1 t70 (IntKind.wrap .i64 (t71 + 1)) (r1.2.1.1, r1.2.1.2.1, r1.2.1.2.2.1, ((), (), ()), ((), ()), ()) () r1.2.2.2.1 () r1.2.2.2.2.2.1 ((), (), ())))
      (impl_walker_body_of_Shred_1_Shred_2.c14 k t12 (o0.1, o0.2.1, o0.2.2.1, ((), (), ()), ((), ()), ()) () o11 () o13 ((), (), ()))
def impl_walker_body_of_Shred_1_Shred_2.c7 (k : Nat) (t1 : Int) (o0 : ((List TCol) × (List TVal) × Bool × (Unit × Unit × Unit) × (Unit × Unit) × Unit)) (o10 : Unit) (o11 : List TColumn) (o12 : Unit) (o13 : List Int) (o14 : Unit × Unit × Unit) : Option (Int × ((List TCol) × (List TVal) × Bool × (Unit × Unit × Unit) × (Unit × Unit) × Unit) × Unit × (List TColumn) × Unit × (List Int) × (Unit × Unit × Unit)) :=
  some (IntKind.wrap .i64 (t1 + 1), ((o0.1, o0.2.1, o0.2.2.1, ((), (), ()), ((), ()), ()), (), o11, (), o13, ((), (), ())))
def impl_walker_body_of_Shred_1_Shred_2.c5 (k : Nat) (t1 : Int) (t2 : Int) (t3 : Int) (o0 : ((List TCol) × (List TVal) × Bool × (Unit × Unit × Unit) × (Unit × Unit) × Unit)) (o10 : Unit) (o11 : List TColumn) (o12 : Unit) (o13 : List Int) (o14 : Unit × Unit × Unit) (o100 : TVal) : Option (Int × ((List TCol) × (List TVal) × Bool × (Unit × Unit × Unit) × (Unit × Unit) × Unit) × Unit × (List TColumn) × Unit × (List Int) × (Unit × Unit × Unit)) :=
  cond (!o0.2.2.1)
    ((impl_Shred_1 k t1 t2 t3 o100 () () o11 o13).bind fun r2 =>
     impl_walker_body_of_Shred_1_Shred_2.c7 k t1 (o0.1, o0.2.1, o0.2.2.1, ((), (), ()), ((), ()), ()) () r2.2.2.2.1 () r2.2.2.2.2 ((), (), ()))
    (impl_walker_body_of_Shred_1_Shred_2.c7 k t1 (o0.1, o0.2.1, o0.2.2.1, ((), (), ()), ((), ()), ()) () o11 () o13 ((), (), ()))
def impl_walker_body_of_Shred_1_Shred_2.d3 (k : Nat) (t1 : Int) (t2 : Int) (t3 : Int) (o0 : ((List TCol) × (List TVal) × Bool × (Unit × Unit × Unit) × (Unit × Unit) × Unit)) (o10 : Unit) (o11 : List TColumn) (o12 : Unit) (o13 : List Int) (o14 : Unit × Unit × Unit) (o100 : TVal) : Option (Int × ((List TCol) × (List TVal) × Bool × (Unit × Unit × Unit) × (Unit × Unit) × Unit) × Unit × (List TColumn) × Unit × (List Int) × (Unit × Unit × Unit)) :=
  cond (!o0.2.2.1)
    ((rdL o0.1 t1).bind fun y3 =>
     (impl_ValOk k y3.2.1 o100).bind fun r4 =>
     cond (!r4)
       (impl_walker_body_of_Shred_1_Shred_2.c5 k t1 t2 t3 (o0.1, o0.2.1, true, ((), (), ()), ((), ()), ()) () o11 () o13 ((), (), ()) o100)
       (impl_walker_body_of_Shred_1_Shred_2.c5 k t1 t2 t3 (o0.1, o0.2.1, o0.2.2.1, ((), (), ()), ((), ()), ()) () o11 () o13 ((), (), ()) o100))
    (cond false
       (impl_walker_body_of_Shred_1_Shred_2.c5 k t1 t2 t3 (o0.1, o0.2.1, true, ((), (), ()), ((), ()), ()) () o11 () o13 ((), (), ()) o100)
       (impl_walker_body_of_Shred_1_Shred_2.c5 k t1 t2 t3 (o0.1, o0.2.1, o0.2.2.1, ((), (), ()), ((), ()), ()) () o11 () o13 ((), (), ()) o100))
def impl_walker_body_of_Shred_1_Shred_2.b (k : Nat) (S185i3 : Int → Int → Int → Int → ((List TCol) × (List TVal) × Bool × (Unit × Unit × Unit) × (Unit × Unit) × Unit) → Unit → (List TColumn) → Unit → (List Int) → (Unit × Unit × Unit) → Option (Int × ((List TCol) × (List TVal) × Bool × (Unit × Unit × Unit) × (Unit × Unit) × Unit) × Unit × (List TColumn) × Unit × (List Int) × (Unit × Unit × Unit))) (S287i6 : Int → Int → Int → Int → ((List TCol) × (List TVal) × Bool × (Unit × Unit × Unit) × (Unit × Unit) × Unit) → Unit → (List TColumn) → Unit → (List Int) → (Unit × Unit × Unit) → Option (Int × ((List TCol) × (List TVal) × Bool × (Unit × Unit × Unit) × (Unit × Unit) × Unit) × Unit × (List TColumn) × Unit × (List Int) × (Unit × Unit × Unit))) (t1 : Int) (t2 : Int) (t3 : Int) (t4 : Int) (o0 : ((List TCol) × (List TVal) × Bool × (Unit × Unit × Unit) × (Unit × Unit) × Unit)) (o10 : Unit) (o11 : List TColumn) (o12 : Unit) (o13 : List Int) (o14 : Unit × Unit × Unit) : Option (Int × ((List TCol) × (List TVal) × Bool × (Unit × Unit × Unit) × (Unit × Unit) × Unit) × Unit × (List TColumn) × Unit × (List Int) × (Unit × Unit × Unit)) :=
  (rdL o0.1 t1).bind fun y7 =>
  cond (y7.2.1 != 7)
    ((impl_walker_next_of_Shred_1_Shred_2 k (o0.1, o0.2.1, o0.2.2.1, ((), (), ()), ((), ()), ()) () o11 () o13 ((), (), ())).bind fun r8 =>
     impl_walker_body_of_Shred_1_Shred_2.d3 k t1 t2 t3 (r8.2.1.1, r8.2.1.2.1, r8.2.1.2.2.1, ((), (), ()), ((), ()), ()) () r8.2.2.2.1 () r8.2.2.2.2.2.1 ((), (), ()) r8.1)
    ((rdL o0.1 t1).bind fun y9 =>
     impl_walker_body_of_Shred_1_Shred_2.l10 k S287i6 k t2 t3 t4 (IntKind.wrap .i64 (t1 + 1)) y9.2.2.2.1 0 (o0.1, o0.2.1, o0.2.2.1, ((), (), ()), ((), ()), ()) () o11 () o13 ((), (), ()))
def impl_walker_col_of_Shred_1_Shred_2.c18 (k : Nat) (S185i3 : Int → Int → Int → Int → ((List TCol) × (List TVal) × Bool × (Unit × Unit × Unit) × (Unit × Unit) × Unit) → Unit → (List TColumn) → Unit → (List Int) → (Unit × Unit × Unit) → Option (Int × ((List TCol) × (List TVal) × Bool × (Unit × Unit × Unit) × (Unit × Unit) × Unit) × Unit × (List TColumn) × Unit × (List Int) × (Unit × Unit × Unit))) (t1 : Int) (t2 : Int) (t3 : Int) (t4 : Int) (o0 : ((List TCol) × (List TVal) × Bool × (Unit × Unit × Unit) × (Unit × Unit) × Unit)) (o10 : Unit) (o11 : List TColumn) (o12 : Unit) (o13 : List Int) (o14 : Unit × Unit × Unit) : Option (Int × ((List TCol) × (List TVal) × Bool × (Unit × Unit × Unit) × (Unit × Unit) × Unit) × Unit × (List TColumn) × Unit × (List Int) × (Unit × Unit × Unit)) :=
  (S185i3 t1 t2 t3 t4 (o0.1, o0.2.1, o0.2.2.1, ((), (), ()), ((), ()), ()) () o11 () o13 ((), (), ())).bind fun r1 =>
  some (r1.1, ((r1.2.1.1, r1.2.1.2.1, r1.2.1.2.2.1, ((), (), ()), ((), ()), ()), (), r1.2.2.2.1, (), r1.2.2.2.2.2.1, ((), (), ())))
def impl_walker_col_of_Shred_1_Shred_2.l14 (k : Nat) (S185i3 : Int → Int → Int → Int → ((List TCol) × (List TVal) × Bool × (Unit × Unit × Unit) × (Unit × Unit) × Unit) → Unit → (List TColumn) → Unit → (List Int) → (Unit × Unit × Unit) → Option (Int × ((List TCol) × (List TVal) × Bool × (Unit × Unit × Unit) × (Unit × Unit) × Unit) × Unit × (List TColumn) × Unit × (List Int) × (Unit × Unit × Unit))) : Nat → Int → Int → Int → Int → Int → ((List TCol) × (List TVal) × Bool × (Unit × Unit × Unit) × (Unit × Unit) × Unit) → Unit → (List TColumn) → Unit → (List Int) → (Unit × Unit × Unit) → Option (Int × ((List TCol) × (List TVal) × Bool × (Unit × Unit × Unit) × (Unit × Unit) × Unit) × Unit × (List TColumn) × Unit × (List Int) × (Unit × Unit × Unit))
  | 0, _, _, _, _, _, _, _, _, _, _, _ => none
  | n + 1, t1, t3, t4, t12, t13, o0, o10, o11, o12, o13, o14 =>
    (cond (decide (t13 < t12)) (some (!o0.2.2.1)) (some (false))).bind fun b2 =>
    cond b2
      ((S185i3 t1 t4 (IntKind.wrap .i64 (t3 + 1)) t4 (o0.1, o0.2.1, o0.2.2.1, ((), (), ()), ((), ()), ()) () o11 () o13 ((), (), ())).bind fun r3 =>
       (impl_walker_col_of_Shred_1_Shred_2.l14 k S185i3 n) t1 t3 t4 t12 (IntKind.wrap .i64 (t13 + 1)) (r3.2.1.1, r3.2.1.2.1, r3.2.1.2.2.1, ((), (), ()), ((), ()), ()) () r3.2.2.2.1 () r3.2.2.2.2.2.1 ((), (), ()))
      ((impl_colAfter k o0.1 t1 1).bind fun r4 => some (r4, ((o0.1, o0.2.1, o0.2.2.1, ((), (), ()), ((), ()), ()), (), o11, (), o13, ((), (), ()))))
def impl_walker_col_of_Shred_1_Shred_2.b (k : Nat) (S185i3 : Int → Int → Int → Int → ((List TCol) × (List TVal) × Bool × (Unit × Unit × Unit) × (Unit × Unit) × Unit) → Unit → (List TColumn) → Unit → (List Int) → (Unit × Unit × Unit) → Option (Int × ((List TCol) × (List TVal) × Bool × (Unit × Unit × Unit) × (Unit × Unit) × Unit) × Unit × (List TColumn) × Unit × (List Int) × (Unit × Unit × Unit))) (S287i6 : Int → Int → Int → Int → ((List TCol) × (List TVal) × Bool × (Unit × Unit × Unit) × (Unit × Unit) × Unit) → Unit → (List TColumn) → Unit → (List Int) → (Unit × Unit × Unit) → Option (Int × ((List TCol) × (List TVal) × Bool × (Unit × Unit × Unit) × (Unit × Unit) × Unit) × Unit × (List TColumn) × Unit × (List Int) × (Unit × Unit × Unit))) (t1 : Int) (t2 : Int) (t3 : Int) (t4 : Int) (o0 : ((List TCol) × (List TVal) × Bool × (Unit × Unit × Unit) × (Unit × Unit) × Unit)) (o10 : Unit) (o11 : List TColumn) (o12 : Unit) (o13 : List Int) (o14 : Unit × Unit × Unit) : Option (Int × ((List TCol) × (List TVal) × Bool × (Unit × Unit × Unit) × (Unit × Unit) × Unit) × Unit × (List TColumn) × Unit × (List Int) × (Unit × Unit × Unit)) :=
  (rdL o0.1 t1).bind fun y5 =>
  cond (y5.2.2.1 == 1)
    ((impl_walker_count_of_Shred_1_Shred_2 k 1 (o0.1, o0.2.1, o0.2.2.1, ((), (), ()), ((), ()), ()) () o11 () o13 ((), (), ())).bind fun r6 =>
     cond (r6.1 == 0)
       ((impl_walker_missing_of_Shred_1_Shred_2 k t1 t2 t3 (r6.2.1.1, r6.2.1.2.1, r6.2.1.2.2.1, ((), (), ()), ((), ()), ()) () r6.2.2.2.1 () r6.2.2.2.2.2.1 ((), (), ())).bind fun r7 =>
        some (r7.1, ((r7.2.1.1, r7.2.1.2.1, r7.2.1.2.2.1, ((), (), ()), ((), ()), ()), (), r7.2.2.2.1, (), r7.2.2.2.2.2.1, ((), (), ()))))
       (impl_walker_col_of_Shred_1_Shred_2.c18 k S185i3 t1 t2 (IntKind.wrap .i64 (t3 + 1)) t4 (r6.2.1.1, r6.2.1.2.1, r6.2.1.2.2.1, ((), (), ()), ((), ()), ()) () r6.2.2.2.1 () r6.2.2.2.2.2.1 ((), (), ())))
    (cond (y5.2.2.1 == 2)
       ((impl_walker_count_of_Shred_1_Shred_2 k 20 (o0.1, o0.2.1, o0.2.2.1, ((), (), ()), ((), ()), ()) () o11 () o13 ((), (), ())).bind fun r8 =>
        cond (r8.1 == 0)
          ((impl_walker_missing_of_Shred_1_Shred_2 k t1 t2 t3 (r8.2.1.1, r8.2.1.2.1, r8.2.1.2.2.1, ((), (), ()), ((), ()), ()) () r8.2.2.2.1 () r8.2.2.2.2.2.1 ((), (), ())).bind fun r9 =>
           some (r9.1, ((r9.2.1.1, r9.2.1.2.1, r9.2.1.2.2.1, ((), (), ()), ((), ()), ()), (), r9.2.2.2.1, (), r9.2.2.2.2.2.1, ((), (), ()))))
          ((S185i3 t1 t2 (IntKind.wrap .i64 (t3 + 1)) (IntKind.wrap .i64 (t4 + 1)) (r8.2.1.1, r8.2.1.2.1, r8.2.1.2.2.1, ((), (), ()), ((), ()), ()) () r8.2.2.2.1 () r8.2.2.2.2.2.1 ((), (), ())).bind fun r10 =>
           impl_walker_col_of_Shred_1_Shred_2.l14 k S185i3 k t1 t3 (IntKind.wrap .i64 (t4 + 1)) r8.1 1 (r10.2.1.1, r10.2.1.2.1, r10.2.1.2.2.1, ((), (), ()), ((), ()), ()) () r10.2.2.2.1 () r10.2.2.2.2.2.1 ((), (), ())))
       (impl_walker_col_of_Shred_1_Shred_2.c18 k S185i3 t1 t2 t3 t4 (o0.1, o0.2.1, o0.2.2.1, ((), (), ()), ((), ()), ()) () o11 () o13 ((), (), ())))
def impl_walker_body_of_Shred_1_Shred_2.rec (k : Nat) : Nat → (Int → Int → Int → Int → ((List TCol) × (List TVal) × Bool × (Unit × Unit × Unit) × (Unit × Unit) × Unit) → Unit → (List TColumn) → Unit → (List Int) → (Unit × Unit × Unit) → Option (Int × ((List TCol) × (List TVal) × Bool × (Unit × Unit × Unit) × (Unit × Unit) × Unit) × Unit × (List TColumn) × Unit × (List Int) × (Unit × Unit × Unit))) × (Int → Int → Int → Int → ((List TCol) × (List TVal) × Bool × (Unit × Unit × Unit) × (Unit × Unit) × Unit) → Unit → (List TColumn) → Unit → (List Int) → (Unit × Unit × Unit) → Option (Int × ((List TCol) × (List TVal) × Bool × (Unit × Unit × Unit) × (Unit × Unit) × Unit) × Unit × (List TColumn) × Unit × (List Int) × (Unit × Unit × Unit)))
  | 0 => (fun _ _ _ _ _ _ _ _ _ _ => none, fun _ _ _ _ _ _ _ _ _ _ => none)
  | d + 1 => (impl_walker_body_of_Shred_1_Shred_2.b k ((impl_walker_body_of_Shred_1_Shred_2.rec k d).1) ((impl_walker_body_of_Shred_1_Shred_2.rec k d).2), impl_walker_col_of_Shred_1_Shred_2.b k ((impl_walker_body_of_Shred_1_Shred_2.rec k d).1) ((impl_walker_body_of_Shred_1_Shred_2.rec k d).2))
def impl_walker_body_of_Shred_1_Shred_2.d (k d : Nat) : Int → Int → Int → Int → ((List TCol) × (List TVal) × Bool × (Unit × Unit × Unit) × (Unit × Unit) × Unit) → Unit → (List TColumn) → Unit → (List Int) → (Unit × Unit × Unit) → Option (Int × ((List TCol) × (List TVal) × Bool × (Unit × Unit × Unit) × (Unit × Unit) × Unit) × Unit × (List TColumn) × Unit × (List Int) × (Unit × Unit × Unit)) := (impl_walker_body_of_Shred_1_Shred_2.rec k d).1
def impl_walker_body_of_Shred_1_Shred_2 (k : Nat) : Int → Int → Int → Int → ((List TCol) × (List TVal) × Bool × (Unit × Unit × Unit) × (Unit × Unit) × Unit) → Unit → (List TColumn) → Unit → (List Int) → (Unit × Unit × Unit) → Option (Int × ((List TCol) × (List TVal) × Bool × (Unit × Unit × Unit) × (Unit × Unit) × Unit) × Unit × (List TColumn) × Unit × (List Int) × (Unit × Unit × Unit)) := impl_walker_body_of_Shred_1_Shred_2.d k k
def impl_walk_of_Shred_1_Shred_2 (k : Nat) (t0 : List TCol) (t1 : TRec) (t2 : Unit × Unit × Unit) (t3 : Unit × Unit) (o10 : Unit) (o11 : List TColumn) (o12 : Unit) (o13 : List Int) (o14 : Unit × Unit × Unit) : Option (Bool × Unit × (List TColumn) × Unit × (List Int) × (Unit × Unit × Unit)) :=
  (impl_walker_body_of_Shred_1_Shred_2 k 0 0 0 0 (t0, t1.1, decide ((List.length t1.1 : Int) > 300), ((), (), ()), ((), ()), ()) () o11 () o13 ((), (), ())).bind fun r1 =>
  (cond (!r1.2.1.2.2.1) (some ((List.length r1.2.1.2.1 : Int) == 0)) (some (false))).bind fun b2 =>
  some (b2, ((), r1.2.2.2.1, (), r1.2.2.2.2.2.1, ((), (), ())))
def impl_Shred.l14 (k : Nat) : Nat → Int → Int → Unit → (List TColumn) → Option ((Unit × Bool) × (List TColumn))
  | 0, _, _, _, _ => none
  | n + 1, t44, t45, o100, o101 =>
    cond (decide (t45 < t44))
      ((rdL o101 t45).bind fun y1 =>
       cond (decide ((List.length y1.1 : Int) > 2000)) (some (((), false), [])) ((impl_Shred.l14 k n) t44 (IntKind.wrap .i64 (t45 + 1)) () o101))
      (some (((), true), o101))
def impl_Shred.l8 (k : Nat) : Nat → (List TCol) → (Unit × Unit) → (List TRec) → Int → Int → Unit → (Unit × Unit × Unit) → (List TColumn) → Unit → (List Int) → Option ((Unit × Bool) × (List TColumn))
  | 0, _, _, _, _, _, _, _, _, _, _ => none
  | n + 1, t0, t9, t30, t31, t32, o100, o101, o102, o103, o104 =>
    cond (decide (t32 < t31))
      ((rdL t30 t32).bind fun y2 =>
       (impl_walk_of_Shred_1_Shred_2 k t0 y2 ((), (), ()) ((), ()) () o102 () o104 ((), (), ())).bind fun r3 =>
       cond (!r3.1)
         (some (((), false), []))
         ((impl_Shred.l8 k n) t0 ((), ()) t30 t31 (IntKind.wrap .i64 (t32 + 1)) () ((), (), ()) r3.2.2.1 () r3.2.2.2.2.1))
      (impl_Shred.l14 k k (List.length o102 : Int) 0 () o102)
def impl_Shred (k : Nat) (t0 : List TCol) (t1 : List TRec) : Option ((Unit × Bool) × (List TColumn)) :=
  (impl_SchemaOk k t0).bind fun r4 =>
  (cond (!r4) (some (true)) (some (decide ((List.length t1 : Int) > 200)))).bind fun b5 =>
  cond b5
    (some (((), false), []))
    ((impl_leafNumbers k t0).bind fun r6 =>
     (impl_leavesOf k t0).bind fun r7 =>
     cond (okLen (List.length r7.2 : Int)) (
     impl_Shred.l8 k k t0 ((), ()) t1 (List.length t1 : Int) 0 () ((), (), ()) (List.replicate (Int.toNat (List.length r7.2 : Int)) ([], ())) () r6.2) none)
end Go.Fn
set_option linter.unusedVariables false
set_option linter.unusedSimpArgs false
namespace Go.Law
open Go.Am

/-! ### numbers that wrap -/
theorem w64 {x : Int} (h0 : -9223372036854775808 ≤ x) (h1 : x < 9223372036854775808) : IntKind.wrap .i64 x = x := by
  rw [IntKind.wrap_i64]; omega
theorem wu8_eq (x : Int) : IntKind.wrap .u8 x = x % 256 := IntKind.wrap_u8 x
theorem w8 {x : Int} (h0 : 0 ≤ x) (h1 : x < 256) : IntKind.wrap .u8 x = x := by rw [wu8_eq]; omega
def I64 (x : Int) : Prop := -9223372036854775808 ≤ x ∧ x < 9223372036854775808

/-! ### bits -/
theorem and_mask_i64 (x : Int) (i : Nat) (hi : i ≤ 62) : bits .and .i64 x (2 ^ i - 1) = x % 2 ^ i := by
  have hpos : 0 < 2 ^ i := Nat.two_pow_pos i
  have hle : 2 ^ i ≤ 2 ^ 62 := Nat.pow_le_pow_right (by decide) hi
  have hc : ((2 : Int) ^ i - 1) = ((2 ^ i - 1 : Nat) : Int) := by
    rw [Int.natCast_sub hpos]; simp
  have hb : (2 ^ i - 1) % 2 ^ IntKind.i64.bits = 2 ^ i - 1 := Nat.mod_eq_of_lt (show 2 ^ i - 1 < 2 ^ 64 by omega)
  rw [hc]
  simp only [bits, BitVec.ofInt_natCast, BitVec.toNat_and, BitVec.toNat_ofNat, hb, Nat.and_two_pow_sub_one_eq_mod, BitVec.toNat_ofInt]
  show IntKind.wrap .i64 (((x % ((2 ^ 64 : Nat) : Int)).toNat % 2 ^ i : Nat) : Int) = _
  have h1 : (x % ((2 ^ 64 : Nat) : Int)).toNat % 2 ^ i < 2 ^ i := Nat.mod_lt _ hpos
  have h2 : (((x % ((2 ^ 64 : Nat) : Int)).toNat % 2 ^ i : Nat) : Int) = x % 2 ^ i := by
    have h3 : 0 ≤ x % ((2 ^ 64 : Nat) : Int) := Int.emod_nonneg _ (by decide)
    rw [Int.natCast_emod, Int.toNat_of_nonneg h3]
    have hd : ((2 ^ i : Nat) : Int) ∣ ((2 ^ 64 : Nat) : Int) := by
      have := Nat.pow_dvd_pow 2 (show i ≤ 64 by omega)
      exact_mod_cast this
    rw [Int.emod_emod_of_dvd x hd]
    simp
  rw [h2]
  have h4 : x % 2 ^ i < 2 ^ i := Int.emod_lt_of_pos _ (by exact_mod_cast hpos)
  have h5 : 0 ≤ x % 2 ^ i := Int.emod_nonneg _ (by have : (0 : Int) < 2 ^ i := by exact_mod_cast hpos
                                                   omega)
  have h6 : (2 : Int) ^ i ≤ 2 ^ 62 := by exact_mod_cast hle
  rw [w64 (by omega) (by omega)]

theorem and255 (x : Int) : bits .and .i64 x 255 = x % 256 := and_mask_i64 x 8 (by decide)
/-! ### conditions -/
theorem lim_ok {n : Nat} (h : n ≤ 4294967296) : lim n = true := by unfold lim; exact Nat.ble_eq_true_of_le h
theorem okLen_ok {n : Int} (h0 : 0 ≤ n) (h : n ≤ 4294967296) : okLen n = true := by simp [okLen, h0, h]
theorem inSl_ok {l h : Int} {n : Nat} (h0 : 0 ≤ l) (h1 : l ≤ h) (h2 : h ≤ n) : inSl l h n = true := by simp [inSl, h0, h1, h2]

theorem beqF {a b : Int} (h : ¬ a = b) : (a == b) = false := by simpa using h

theorem bneT {a b : Int} (h : ¬ a = b) : (a != b) = true := by simpa using h
theorem beqT {a b : Int} (h : a = b) : (a == b) = true := by simpa using h
theorem bneF {a b : Int} (h : a = b) : (a != b) = false := by simpa using h

theorem csf (b c : Bool) : (cond b (some c) (some false) : Option Bool) = some (b && c) := by cases b <;> rfl
theorem cst (b c : Bool) : (cond b (some true) (some c) : Option Bool) = some (b || c) := by cases b <;> rfl
/-! ### rows -/
theorem rdL_nat {α : Type} (xs : List α) (n : Nat) : rdL xs (n : Int) = xs[n]? := rfl
theorem rdL_some {α : Type} {xs : List α} {i : Int} (h0 : 0 ≤ i) (h1 : i < xs.length) : ∃ x, rdL xs i = some x ∧ xs[i.toNat]? = some x := by
  obtain ⟨n, rfl⟩ := Int.eq_ofNat_of_zero_le h0
  have h : n < xs.length := by omega
  exact ⟨xs[n], by rw [rdL_nat, List.getElem?_eq_getElem h], by simp [h]⟩
/-! ### strings -/
theorem eqS_iff (a b : ByteArray) : eqS a b = decide (a = b) := by
  unfold eqS
  have h : a.toList = b.toList ↔ a = b := by
    constructor
    · intro h
      rw [ByteArray.toList_eq, ByteArray.toList_eq] at h
      cases a; cases b
      simp only [ByteArray.mk.injEq]
      exact Array.ext' h
    · rintro rfl; rfl
  by_cases e : a = b
  · simp [e]
  · simp only [e, decide_false]
    have : a.toList ≠ b.toList := fun h' => e (h.1 h')
    simp [this]

theorem intsStr_size (xs : List Int) : (intsStr xs).size = xs.length := strOfNums_size xs

end Go.Law
end

section
/- The small tests that both make. -/
set_option linter.unusedVariables false
set_option linter.unusedSimpArgs false
namespace Go.Law
open Go.Am Go.Fn

theorem within_eq (k : Nat) (a b c : Int) : impl_within k a b c = some (decide (b ≤ a) && decide (a ≤ c)) := by
  unfold impl_within
  simp only [csf, Option.bind_some, ge_iff_le]
theorem l1In_eq (k : Nat) (a b c : Int) : spec_l1In k a b c = some (decide (b ≤ a) && decide (a ≤ c)) := by
  unfold spec_l1In
  simp only [csf, Option.bind_some, ge_iff_le]

theorem getMid {α : Type} (pre post : List α) (x : α) : rdL (pre ++ x :: post) (pre.length : Int) = some x := by
  rw [rdL_nat, List.getElem?_append_right (Nat.le_refl _)]; simp
end Go.Law
end

section
/- The types of values. -/
set_option linter.unusedVariables false
set_option linter.unusedSimpArgs false
namespace Go.Law
open Go.Am Go.Fn
variable (k : Nat)

def tyOk (t : Int) : Bool := t == 0 || t == 1 || t == 2 || t == 5 || t == 6

theorem l5Type_eq (t : Int) : spec_l5Type k t = some (tyOk t) := by
  unfold spec_l5Type spec_l5Type.c7 tyOk
  by_cases h0 : t = 0
  · subst h0; simp
  by_cases h1 : t = 1
  · subst h1; simp
  by_cases h2 : t = 2
  · subst h2; simp
  by_cases h5 : t = 5
  · subst h5; simp
  by_cases h6 : t = 6
  · subst h6; simp
  simp [beqF h0, beqF h1, beqF h2, beqF h5, beqF h6, h0, h1, h2, h5, h6]

theorem typeOk_eq (t : Int) : impl_TypeOk k t = some (tyOk t) := by
  unfold impl_TypeOk tyOk
  simp only [within_eq, Option.bind_some, cst]
  congr 1
  by_cases h : 0 ≤ t ∧ t ≤ 2
  · rw [decide_eq_true h.1, decide_eq_true h.2]
    rcases (show t = 0 ∨ t = 1 ∨ t = 2 by omega) with rfl | rfl | rfl <;> rfl
  · have : (decide (0 ≤ t) && decide (t ≤ 2)) = false := by
      rw [Bool.eq_false_iff]; intro hh
      simp only [Bool.and_eq_true, decide_eq_true_eq] at hh
      exact h hh
    rw [this, beqF (show ¬ t = 0 by omega), beqF (show ¬ t = 1 by omega), beqF (show ¬ t = 2 by omega)]
    rfl

end Go.Law
end

section
/- Schemas: which are right, by both. -/

set_option linter.unusedVariables false
set_option linter.unusedSimpArgs false
namespace Go.Law
open Go.Am Go.Fn

/-! ### names -/
def azc (c : UInt8) : Bool := decide (97 ≤ c.toNat) && decide (c.toNat ≤ 122)
def az (s : ByteArray) : Bool := s.data.toList.all azc
def nameOk (s : ByteArray) : Bool := (decide (1 ≤ (s.size : Int)) && decide ((s.size : Int) ≤ 20)) && az s

theorem btS_nat {s : ByteArray} {i : Nat} {c : UInt8} (h : s.data.toList[i]? = some c) : btS s (i : Int) = some (c.toNat : Int) := by
  show (match s.data.toList[i]? with | some b => some (b.toNat : Int) | none => none) = _
  rw [h]

theorem size_len (s : ByteArray) : s.data.toList.length = s.size := by
  rw [Array.length_toList]
  rfl

variable (k : Nat)

theorem l5NameLoop (s : ByteArray) (hs : s.size < 1000000) : ∀ (m n i : Nat), s.size = i + m → m < n → spec_l5Name.l4 k n s (i : Int) = some ((s.data.toList.drop i).all azc) := by
  intro m
  induction m with
  | zero =>
    intro n i hi hn
    obtain ⟨n, rfl⟩ : ∃ j, n = j + 1 := ⟨n - 1, by omega⟩
    simp only [spec_l5Name.l4, decide_eq_false (show ¬ (i : Int) < (s.size : Int) by omega), cond_false]
    rw [List.drop_eq_nil_of_le (by rw [size_len]; omega)]
    rfl
  | succ m ih =>
    intro n i hi hn
    obtain ⟨n, rfl⟩ : ∃ j, n = j + 1 := ⟨n - 1, by omega⟩
    have hlt : i < s.data.toList.length := by rw [size_len]; omega
    have hb := btS_nat (s := s) (i := i) (List.getElem?_eq_getElem hlt)
    have hc := (s.data.toList[i]).toNat_lt
    simp only [spec_l5Name.l4, decide_eq_true (show (i : Int) < (s.size : Int) by omega), cond_true, hb, Option.bind_some, cst]
    rw [List.drop_eq_getElem_cons hlt, List.all_cons, w64 (by omega) (by omega), show ((i : Int) + 1) = ((i + 1 : Nat) : Int) by omega, ih n (i + 1) (by omega) (by omega)]
    unfold azc
    by_cases h : 97 ≤ (s.data.toList[i]).toNat ∧ (s.data.toList[i]).toNat ≤ 122
    · simp only [decide_eq_false (show ¬ (((s.data.toList[i]).toNat : Nat) : Int) < 97 by omega), decide_eq_false (show ¬ (((s.data.toList[i]).toNat : Nat) : Int) > 122 by omega), Bool.or_self, cond_false, decide_eq_true h.1, decide_eq_true h.2, Bool.and_self, Bool.true_and]
    · have h1 : (decide ((((s.data.toList[i]).toNat : Nat) : Int) < 97) || decide ((((s.data.toList[i]).toNat : Nat) : Int) > 122)) = true := by
        simp only [Bool.or_eq_true, decide_eq_true_eq]; omega
      have h2 : (decide (97 ≤ (s.data.toList[i]).toNat) && decide ((s.data.toList[i]).toNat ≤ 122)) = false := by
        rw [Bool.eq_false_iff]; intro hh
        simp only [Bool.and_eq_true, decide_eq_true_eq] at hh
        exact h hh
      simp only [h1, h2, cond_true, Bool.false_and]

theorem l5Name_eq (hk : 100 ≤ k) (s : ByteArray) : spec_l5Name k s = some (nameOk s) := by
  unfold spec_l5Name nameOk
  simp only [l1In_eq, Option.bind_some]
  by_cases h : 1 ≤ s.size ∧ s.size ≤ 20
  · rw [decide_eq_true (show (1 : Int) ≤ (s.size : Int) by omega), decide_eq_true (show (s.size : Int) ≤ 20 by omega)]
    simp only [Bool.and_self, Bool.not_true, cond_false, Bool.true_and]
    exact l5NameLoop k s (by omega) s.size k 0 (by omega) (by omega)
  · have : (decide ((1 : Int) ≤ (s.size : Int)) && decide ((s.size : Int) ≤ 20)) = false := by
      rw [Bool.eq_false_iff]; intro hh
      simp only [Bool.and_eq_true, decide_eq_true_eq] at hh
      omega
    simp only [this, Bool.not_false, cond_true, Bool.false_and]

theorem colNameLoop (s : ByteArray) (hs : s.size < 1000000000) : ∀ (m n i : Nat), s.size = i + m → m < n → impl_isColName.l2 k n s (s.size : Int) (i : Int) = some ((decide (1 ≤ (s.size : Int)) && decide ((s.size : Int) ≤ 20)) && (s.data.toList.drop i).all azc) := by
  intro m
  induction m with
  | zero =>
    intro n i hi hn
    obtain ⟨n, rfl⟩ : ∃ j, n = j + 1 := ⟨n - 1, by omega⟩
    simp only [impl_isColName.l2, decide_eq_false (show ¬ (i : Int) < (s.size : Int) by omega), cond_false, within_eq, Option.bind_some]
    rw [List.drop_eq_nil_of_le (by rw [size_len]; omega)]
    simp
  | succ m ih =>
    intro n i hi hn
    obtain ⟨n, rfl⟩ : ∃ j, n = j + 1 := ⟨n - 1, by omega⟩
    have hlt : i < s.data.toList.length := by rw [size_len]; omega
    have hb := btS_nat (s := s) (i := i) (List.getElem?_eq_getElem hlt)
    have hc := (s.data.toList[i]).toNat_lt
    simp only [impl_isColName.l2, decide_eq_true (show (i : Int) < (s.size : Int) by omega), cond_true, hb, Option.bind_some, within_eq]
    rw [w64 (show -9223372036854775808 ≤ (((s.data.toList[i]).toNat : Nat) : Int) by omega) (by omega)]
    rw [List.drop_eq_getElem_cons hlt, List.all_cons, w64 (by omega) (by omega), show ((i : Int) + 1) = ((i + 1 : Nat) : Int) by omega, ih n (i + 1) (by omega) (by omega)]
    unfold azc
    by_cases h : 97 ≤ (s.data.toList[i]).toNat ∧ (s.data.toList[i]).toNat ≤ 122
    · simp only [decide_eq_true (show (97 : Int) ≤ (((s.data.toList[i]).toNat : Nat) : Int) by omega), decide_eq_true (show (((s.data.toList[i]).toNat : Nat) : Int) ≤ 122 by omega), Bool.not_true, Bool.and_self, cond_false, decide_eq_true h.1, decide_eq_true h.2, Bool.true_and]
    · have h1 : (decide ((97 : Int) ≤ (((s.data.toList[i]).toNat : Nat) : Int)) && decide ((((s.data.toList[i]).toNat : Nat) : Int) ≤ 122)) = false := by
        rw [Bool.eq_false_iff]; intro hh
        simp only [Bool.and_eq_true, decide_eq_true_eq] at hh
        omega
      have h2 : (decide (97 ≤ (s.data.toList[i]).toNat) && decide ((s.data.toList[i]).toNat ≤ 122)) = false := by
        rw [Bool.eq_false_iff]; intro hh
        simp only [Bool.and_eq_true, decide_eq_true_eq] at hh
        exact h hh
      simp only [h1, h2, Bool.not_false, cond_true, Bool.false_and, Bool.and_false]

theorem isColName_eq (s : ByteArray) (hs : s.size < k) (hs2 : s.size < 1000000000) : impl_isColName k s = some (nameOk s) := by
  unfold impl_isColName nameOk
  exact colNameLoop k s hs2 s.size k 0 (by omega) (by omega)

/-! ### cols -/
def colOk (c : TCol) : Bool := ((c.2.1 == 7 && decide (c.2.2.2.1 > 0)) || (tyOk c.2.1 && c.2.2.2.1 == 0)) && (decide (0 ≤ c.2.2.1) && decide (c.2.2.1 ≤ 2))

theorem colOk_eq (c : TCol) : impl_colOk k c = some (colOk c) := by
  unfold impl_colOk colOk
  simp only [within_eq, typeOk_eq, Option.bind_some, csf, cst]

theorem tyOk_7 : tyOk 7 = false := rfl

/-! ### which lists of cols are schemas -/
def PartsC (S : Nat → Nat → Prop) (s : List TCol) : Nat → Nat → List ByteArray → Nat → Prop
  | 0, pos, _, nx => pos = nx
  | c + 1, pos, names, nx => ∃ p mid, s[pos]? = some p ∧ p.1 ∉ names ∧ S pos mid ∧ PartsC S s c mid (names ++ [p.1]) nx

def SubC (s : List TCol) : Nat → Nat → Nat → Prop
  | 0, _, _ => False
  | d + 1, at_, nx => ∃ c, s[at_]? = some c ∧ colOk c = true ∧ (0 < at_ → nameOk c.1 = true) ∧ PartsC (SubC s d) s c.2.2.2.1.toNat (at_ + 1) [] nx

theorem PartsC_le {S : Nat → Nat → Prop} {s : List TCol} (hS : ∀ a b, S a b → a < b) : ∀ (c pos : Nat) (names : List ByteArray) (nx : Nat), PartsC S s c pos names nx → pos + c ≤ nx
  | 0, pos, names, nx, e => by have e : pos = nx := e; omega
  | c + 1, pos, names, nx, ⟨p, mid, _, _, h3, h4⟩ => by
    have := hS _ _ h3
    have := PartsC_le hS c mid _ nx h4
    omega

theorem SubC_lt {s : List TCol} : ∀ (d a b : Nat), SubC s d a b → a < b
  | 0, _, _, h => h.elim
  | d + 1, a, b, ⟨c, _, _, _, h⟩ => by
    have := PartsC_le (SubC_lt d) _ _ _ _ h
    omega

open Classical in
theorem specNames (S : List TCol → Int → Int → Option Int) (L : List TCol → Int → Int → Int → TCol → List ByteArray → Option Int) (s : List TCol) (deep : Int) (pos : Nat) (i : Int) (c p : TCol) (hp : s[pos]? = some p) (names : List ByteArray) (hn : names.length ≤ 100) :
    ∀ (m n j : Nat), names.length = j + m → m < n → spec_l5Check.l20 k S L n s deep (pos : Int) i (j : Int) c names =
      if p.1 ∈ names.drop j then some (-1) else (S s (pos : Int) (IntKind.wrap .i64 (deep + 1))).bind fun r => cond (decide (r < 0)) (some (-1)) (L s deep r (IntKind.wrap .i64 (i + 1)) c (names ++ [p.1])) := by
  intro m
  induction m with
  | zero =>
    intro n j hj hn'
    obtain ⟨n, rfl⟩ : ∃ q, n = q + 1 := ⟨n - 1, by omega⟩
    simp only [spec_l5Check.l20, decide_eq_false (show ¬ (j : Int) < (names.length : Int) by omega), cond_false, rdL_nat, hp, Option.bind_some]
    rw [lim_ok (by simp; omega), cond_true, List.drop_eq_nil_of_le (by omega)]
    simp
  | succ m ih =>
    intro n j hj hn'
    obtain ⟨n, rfl⟩ : ∃ q, n = q + 1 := ⟨n - 1, by omega⟩
    have hlt : j < names.length := by omega
    simp only [spec_l5Check.l20, decide_eq_true (show (j : Int) < (names.length : Int) by omega), cond_true, rdL_nat, hp, List.getElem?_eq_getElem hlt, Option.bind_some, eqS_iff]
    rw [w64 (by omega) (by omega), show ((j : Int) + 1) = ((j + 1 : Nat) : Int) by omega, ih n (j + 1) (by omega) (by omega), List.drop_eq_getElem_cons hlt]
    by_cases h : names[j] = p.1
    · rw [decide_eq_true h, cond_true, if_pos (by rw [h]; exact List.mem_cons_self ..)]
    · rw [decide_eq_false h, cond_false]
      have : (p.1 ∈ names[j] :: names.drop (j + 1)) ↔ p.1 ∈ names.drop (j + 1) := by
        rw [List.mem_cons]
        exact ⟨fun hh => hh.elim (fun e => absurd e.symm h) id, .inr⟩
      simp only [this]

open Classical in
theorem implNames (S : List TCol → Int → Int → Option Int) (L : List TCol → Int → Int → Int → Int → List ByteArray → Option Int) (s : List TCol) (deep : Int) (pos : Nat) (M i : Int) (p : TCol) (hp : s[pos]? = some p) (names : List ByteArray) (hn : names.length ≤ 100) :
    ∀ (m n j : Nat), names.length = j + m → m < n → impl_colAfter.l10 k S L n s deep (pos : Int) M i (names.length : Int) (j : Int) names =
      if p.1 ∈ names.drop j then some (-1) else (S s (pos : Int) (IntKind.wrap .i64 (deep + 1))).bind fun r => cond (decide (r < 0)) (some (-1)) (L s deep r M (IntKind.wrap .i64 (i + 1)) (names ++ [p.1])) := by
  intro m
  induction m with
  | zero =>
    intro n j hj hn'
    obtain ⟨n, rfl⟩ : ∃ q, n = q + 1 := ⟨n - 1, by omega⟩
    simp only [impl_colAfter.l10, decide_eq_false (show ¬ (j : Int) < (names.length : Int) by omega), cond_false, rdL_nat, hp, Option.bind_some]
    rw [lim_ok (by simp; omega), cond_true, List.drop_eq_nil_of_le (by omega)]
    simp
  | succ m ih =>
    intro n j hj hn'
    obtain ⟨n, rfl⟩ : ∃ q, n = q + 1 := ⟨n - 1, by omega⟩
    have hlt : j < names.length := by omega
    simp only [impl_colAfter.l10, decide_eq_true (show (j : Int) < (names.length : Int) by omega), cond_true, rdL_nat, hp, List.getElem?_eq_getElem hlt, Option.bind_some, eqS_iff]
    rw [w64 (by omega) (by omega), show ((j : Int) + 1) = ((j + 1 : Nat) : Int) by omega, ih n (j + 1) (by omega) (by omega), List.drop_eq_getElem_cons hlt]
    by_cases h : names[j] = p.1
    · rw [decide_eq_true h, cond_true, if_pos (by rw [h]; exact List.mem_cons_self ..)]
    · rw [decide_eq_false h, cond_false]
      have : (p.1 ∈ names[j] :: names.drop (j + 1)) ↔ p.1 ∈ names.drop (j + 1) := by
        rw [List.mem_cons]
        exact ⟨fun hh => hh.elim (fun e => absurd e.symm h) id, .inr⟩
      simp only [this]

theorem schkLoop (hk : 100 ≤ k) (s : List TCol) (hs : s.length ≤ 20) (d D deep : Nat) (hdeep : deep ≤ 6)
    (ih : ∀ at_ : Nat, 0 < at_ → ∃ v, spec_l5Check.rec k D s (at_ : Int) ((deep + 1 : Nat) : Int) = some v ∧ impl_colAfter.rec k D s (at_ : Int) ((deep + 1 : Nat) : Int) = some v ∧ (v = -1 ∨ ∃ nx : Nat, v = nx ∧ SubC s d at_ nx ∧ nx ≤ s.length))
    (c : TCol) (M : Int) (hM : c.2.2.2.1 = M) (hM1 : M < 9223372036854775808) : ∀ (f pos : Nat) (i : Int) (names : List ByteArray), s.length - pos < f → 0 < pos → pos ≤ s.length → 0 ≤ i → i ≤ M → names.length ≤ pos →
      ∃ v, spec_l5Check.l15 k (spec_l5Check.rec k D) f s (deep : Int) (pos : Int) i c names = some v ∧ impl_colAfter.l6 k (impl_colAfter.rec k D) f s (deep : Int) (pos : Int) M i names = some v ∧
        (v = -1 ∨ ∃ nx : Nat, v = nx ∧ PartsC (SubC s d) s (M - i).toNat pos names nx ∧ nx ≤ s.length) := by
  intro f
  induction f with
  | zero => intro pos i names h; omega
  | succ f ihf =>
    intro pos i names hf hpos hpl hi0 hiM hnm
    simp only [spec_l5Check.l15, impl_colAfter.l6, hM]
    by_cases hlt : i < M
    · simp only [decide_eq_true hlt, cond_true]
      by_cases hpe : (pos : Int) ≥ (s.length : Int)
      · simp only [decide_eq_true hpe, cond_true]
        exact ⟨_, rfl, rfl, .inl rfl⟩
      · have hpl' : pos < s.length := by omega
        simp only [decide_eq_false hpe, cond_false]
        have hp := List.getElem?_eq_getElem hpl'
        rw [show (0 : Int) = ((0 : Nat) : Int) from rfl, specNames k _ _ s _ pos i c _ hp names (by omega) names.length k 0 (by omega) (by omega), implNames k _ _ s _ pos M i _ hp names (by omega) names.length k 0 (by omega) (by omega)]
        rw [List.drop_zero]
        by_cases hmem : (s[pos]'hpl').1 ∈ names
        · rw [if_pos hmem, if_pos hmem]
          exact ⟨_, rfl, rfl, .inl rfl⟩
        · rw [if_neg hmem, if_neg hmem]
          have hd1 : IntKind.wrap .i64 ((deep : Int) + 1) = ((deep + 1 : Nat) : Int) := by rw [w64 (by omega) (by omega)]; omega
          rw [hd1]
          obtain ⟨v, s1, s2, s4⟩ := ih pos hpos
          simp only [s1, s2, Option.bind_some]
          rcases s4 with rfl | ⟨mid, rfl, s5, s6⟩
          · simp only [show decide ((-1 : Int) < 0) = true from rfl, cond_true]
            exact ⟨_, rfl, rfl, .inl rfl⟩
          · have hml := SubC_lt _ _ _ s5
            have hm0 : decide ((mid : Int) < 0) = false := decide_eq_false (by omega)
            have hi1 : IntKind.wrap .i64 (i + 1) = i + 1 := w64 (by omega) (by omega)
            simp only [hm0, cond_false, hi1]
            obtain ⟨w, t1, t2, t4⟩ := ihf mid (i + 1) (names ++ [(s[pos]'hpl').1]) (by omega) (by omega) s6 (by omega) (by omega) (by simp; omega)
            refine ⟨w, t1, t2, ?_⟩
            rcases t4 with h | ⟨nx, h1, h2, h3⟩
            · exact .inl h
            · refine .inr ⟨nx, h1, ?_, h3⟩
              rw [show (M - i).toNat = (M - (i + 1)).toNat + 1 by omega]
              exact ⟨_, mid, hp, hmem, s5, h2⟩
    · simp only [decide_eq_false hlt, cond_false]
      refine ⟨_, rfl, rfl, .inr ⟨pos, rfl, ?_, hpl⟩⟩
      rw [show (M - i).toNat = 0 by omega]
      rfl

theorem schk (hk : 100 ≤ k) (s : List TCol) (hs : s.length ≤ 20) (hn : ∀ c, c ∈ s → c.1.size < k ∧ c.1.size < 1000000000 ∧ I64 c.2.2.2.1) (hroot : ∀ c, s[0]? = some c → c.1 = ⟨#[]⟩ ∧ c.2.2.1 = 0 ∧ c.2.1 = 7) :
    ∀ (d D deep at_ : Nat), d + deep = 7 → d < D → ∃ v, spec_l5Check.rec k D s (at_ : Int) (deep : Int) = some v ∧ impl_colAfter.rec k D s (at_ : Int) (deep : Int) = some v ∧ (v = -1 ∨ ∃ nx : Nat, v = nx ∧ SubC s d at_ nx ∧ nx ≤ s.length) := by
  intro d
  induction d with
  | zero =>
    intro D deep at_ hd hD
    obtain ⟨D, rfl⟩ : ∃ m, D = m + 1 := ⟨D - 1, by omega⟩
    obtain rfl : deep = 7 := by omega
    simp only [spec_l5Check.rec, impl_colAfter.rec, spec_l5Check.b, impl_colAfter.b, cst, Option.bind_some, show decide (((7 : Nat) : Int) > 6) = true from rfl, Bool.or_true, cond_true]
    exact ⟨_, rfl, rfl, .inl rfl⟩
  | succ d ih =>
    intro D deep at_ hd hD
    obtain ⟨D, rfl⟩ : ∃ m, D = m + 1 := ⟨D - 1, by omega⟩
    simp only [spec_l5Check.rec, impl_colAfter.rec, spec_l5Check.b, impl_colAfter.b, cst, Option.bind_some]
    by_cases hat : (at_ : Int) ≥ (s.length : Int)
    · simp only [decide_eq_true hat, Bool.true_or, cond_true, Option.bind_some]
      exact ⟨_, rfl, rfl, .inl rfl⟩
    · have hat' : at_ < s.length := by omega
      have hdd : decide ((deep : Int) > 6) = false := decide_eq_false (by omega)
      have hc := List.getElem?_eq_getElem hat'
      generalize hcd : s[at_]'hat' = c at hc
      have hcm : c ∈ s := List.mem_of_getElem? hc
      obtain ⟨n1, n2, n3⟩ := hn c hcm
      simp only [decide_eq_false hat, hdd, Bool.false_or, cond_false, rdL_nat, hc, Option.bind_some, colOk_eq, isColName_eq k c.1 n1 n2, l5Name_eq k hk, l1In_eq, l5Type_eq, csf, cst]
      -- the root, or a name
      have hr0 : (((at_ : Int) == 0) && ((!eqS c.1 ⟨#[]⟩ || c.2.2.1 != 0) || c.2.1 != 7)) = false := by
        by_cases h0 : at_ = 0
        · subst h0
          obtain ⟨r1, r2, r3⟩ := hroot c hc
          rw [r1, r2, r3, eqS_iff]; simp
        · rw [beqF (show ¬ (at_ : Int) = 0 by omega)]; rfl
      simp only [hr0, Bool.false_or]
      generalize hnm : (decide ((at_ : Int) > 0) && !nameOk c.1) = bn
      have hname : bn = false → 0 < at_ → nameOk c.1 = true := by
        intro hb h0
        rw [hb, decide_eq_true (show (at_ : Int) > 0 by omega)] at hnm
        simpa using hnm
      have ha1 : IntKind.wrap .i64 ((at_ : Int) + 1) = ((at_ + 1 : Nat) : Int) := by rw [w64 (by omega) (by omega)]; omega
      cases bn with
      | true =>
        simp only [Bool.true_or, Bool.or_true, cond_true]
        exact ⟨_, rfl, rfl, .inl rfl⟩
      | false =>
        simp only [Bool.false_or, Bool.or_false]
        by_cases hrep : (0 ≤ c.2.2.1 ∧ c.2.2.1 ≤ 2)
        · have er : (decide (0 ≤ c.2.2.1) && decide (c.2.2.1 ≤ 2)) = true := by rw [decide_eq_true hrep.1, decide_eq_true hrep.2]; rfl
          simp only [er, Bool.not_true, cond_false]
          have eco : colOk c = ((c.2.1 == 7 && decide (c.2.2.2.1 > 0)) || (tyOk c.2.1 && c.2.2.2.1 == 0)) := by
            unfold colOk; rw [er, Bool.and_true]
          by_cases h7 : c.2.1 = 7
          · have eco' : colOk c = decide (c.2.2.2.1 > 0) := by rw [eco, h7, tyOk_7]; simp
            simp only [bneF h7, cond_false]
            by_cases hM : c.2.2.2.1 < 1
            · simp only [decide_eq_true hM, cond_true, eco', decide_eq_false (show ¬ c.2.2.2.1 > 0 by omega), Bool.not_false]
              exact ⟨_, rfl, rfl, .inl rfl⟩
            · have hok : colOk c = true := by rw [eco']; exact decide_eq_true (by omega)
              simp only [decide_eq_false hM, cond_false, hok, Bool.not_true, ha1]
              obtain ⟨v, t1, t2, t3⟩ := schkLoop k hk s hs d D deep (by omega) (fun a h0 => ih D (deep + 1) a (by omega) (by omega)) c _ rfl n3.2 k (at_ + 1) 0 [] (by omega) (by omega) (by omega) (by omega) (by omega) (by simp)
              refine ⟨v, t1, t2, ?_⟩
              rcases t3 with h | ⟨nx, h1, h2, h3⟩
              · exact .inl h
              · exact .inr ⟨nx, h1, ⟨c, hc, hok, hname rfl, by simpa using h2⟩, h3⟩
          · have eco' : colOk c = (tyOk c.2.1 && c.2.2.2.1 == 0) := by rw [eco, beqF h7]; simp
            simp only [bneT h7, cond_true]
            by_cases hl : tyOk c.2.1 = true ∧ c.2.2.2.1 = 0
            · have hok : colOk c = true := by rw [eco', hl.1, beqT hl.2]; rfl
              simp only [hl.1, bneF hl.2, Bool.not_true, Bool.or_self, cond_false, hok, ha1]
              obtain ⟨K, hK⟩ : ∃ j, k = j + 1 := ⟨k - 1, by omega⟩
              refine ⟨_, rfl, ?_, .inr ⟨at_ + 1, rfl, ⟨c, hc, hok, hname rfl, ?_⟩, by omega⟩⟩
              · rw [hl.2]
                have : ∀ (j : Nat) (S : List TCol → Int → Int → Option Int), impl_colAfter.l6 k S (j + 1) s (deep : Int) ((at_ + 1 : Nat) : Int) 0 0 [] = some ((at_ + 1 : Nat) : Int) := fun j S => rfl
                have h2 := this K (impl_colAfter.rec k D)
                rw [← hK] at h2
                exact h2
              · rw [hl.2]; rfl
            · have e1 : (!tyOk c.2.1 || c.2.2.2.1 != 0) = true := by
                cases ht : tyOk c.2.1 with
                | false => rfl
                | true => simp only [Bool.not_true, Bool.false_or]; exact bneT fun h => hl ⟨ht, h⟩
              have hok : colOk c = false := by
                rw [eco']
                cases ht : tyOk c.2.1 with
                | false => rfl
                | true => simp only [Bool.true_and]; exact beqF fun h => hl ⟨ht, h⟩
              simp only [e1, hok, cond_true, Bool.not_false]
              exact ⟨_, rfl, rfl, .inl rfl⟩
        · have er : (decide (0 ≤ c.2.2.1) && decide (c.2.2.1 ≤ 2)) = false := by
            rw [Bool.eq_false_iff]; intro hh
            simp only [Bool.and_eq_true, decide_eq_true_eq] at hh
            exact hrep hh
          have hok : colOk c = false := by unfold colOk; rw [er, Bool.and_false]
          simp only [er, hok, Bool.not_false, cond_true]
          exact ⟨_, rfl, rfl, .inl rfl⟩

def IsSchema (s : List TCol) : Prop := 2 ≤ s.length ∧ s.length ≤ 20 ∧ SubC s 6 0 s.length ∧ ∃ c, s[0]? = some c ∧ c.1 = ⟨#[]⟩ ∧ c.2.2.1 = 0 ∧ c.2.1 = 7

theorem schemaOk_eq (hk : 100 ≤ k) (s : List TCol) (hn : ∀ c, c ∈ s → c.1.size < k ∧ c.1.size < 1000000000 ∧ I64 c.2.2.2.1) :
    ∃ b, spec_SchemaOk k s = some b ∧ impl_SchemaOk k s = some b ∧ (b = true → IsSchema s ∧ impl_colAfter k s 0 1 = some (s.length : Int)) := by
  unfold spec_SchemaOk impl_SchemaOk
  simp only [l1In_eq, within_eq, Option.bind_some]
  by_cases hin : 2 ≤ s.length ∧ s.length ≤ 20
  · have c1 : (decide ((2 : Int) ≤ (s.length : Int)) && decide ((s.length : Int) ≤ 20)) = true := by simp; omega
    obtain ⟨n, hn1, hn2⟩ := rdL_some (xs := s) (i := 0) (by omega) (by omega)
    have hn2 : s[0]? = some n := hn2
    simp only [c1, cond_true, Bool.not_true, cond_false, hn1, Option.bind_some, cst]
    by_cases hr : n.1 = ⟨#[]⟩ ∧ n.2.2.1 = 0 ∧ n.2.1 = 7
    · have e0 : eqS n.1 ⟨#[]⟩ = true := by rw [eqS_iff]; exact decide_eq_true hr.1
      simp only [bneF hr.2.2, bneF hr.2.1, e0, cond_false, Option.bind_some, Bool.or_self, Bool.not_true]
      obtain ⟨v, s1, s2, s4⟩ := schk k hk s hin.2 hn (fun c hc => by rw [hn2] at hc; cases hc; exact hr) 6 k 1 0 (by omega) (by omega)
      have s1 : spec_l5Check k s 0 1 = some v := s1
      have s2 : impl_colAfter k s 0 1 = some v := s2
      simp only [s1, s2, Option.bind_some]
      refine ⟨_, rfl, rfl, fun hb => ?_⟩
      have hv : v = (s.length : Int) := by simpa using hb
      refine ⟨⟨hin.1, hin.2, ?_, n, hn2, hr⟩, by rw [hv]⟩
      rcases s4 with h | ⟨nx, h1, h2, _⟩
      · omega
      · have : nx = s.length := by omega
        rw [← this]; exact h2
    · -- the root is wrong
      have hs : spec_l5Check k s 0 1 = some (-1) := by
        obtain ⟨K, rfl⟩ : ∃ j, k = j + 1 := ⟨k - 1, by omega⟩
        show spec_l5Check.b (K + 1) (spec_l5Check.rec (K + 1) K) s 0 1 = _
        unfold spec_l5Check.b
        have e1 : (cond ((0 : Int) == 0) (some ((!eqS n.1 ⟨#[]⟩ || n.2.2.1 != 0) || n.2.1 != 7)) (some false) : Option Bool) = some true := by
          show some _ = _
          congr 1
          cases he : eqS n.1 ⟨#[]⟩ with
          | false => rfl
          | true =>
            rw [eqS_iff] at he
            have he := of_decide_eq_true he
            simp only [Bool.not_true, Bool.false_or, Bool.or_eq_true, bne_iff_ne]
            exact Classical.byContradiction fun hh => hr ⟨he, Classical.byContradiction fun h => hh (.inl h), Classical.byContradiction fun h => hh (.inr h)⟩
        simp only [decide_eq_false (show ¬ (0 : Int) ≥ (s.length : Int) by omega), cst, Option.bind_some, show decide ((1 : Int) > 6) = false from rfl, Bool.or_self, cond_false, hn1, e1, Bool.true_or, cond_true]
      refine ⟨false, ?_, ?_, fun h => by cases h⟩
      · simp only [hs, Option.bind_some]
        rw [beqF (by omega)]
      · by_cases h7 : n.2.1 = 7
        · by_cases h0 : n.2.2.1 = 0
          · have he : eqS n.1 ⟨#[]⟩ = false := by
              rw [eqS_iff]; exact decide_eq_false fun h => hr ⟨h, h0, h7⟩
            simp only [bneF h7, bneF h0, he, Option.bind_some, cond_false, Bool.or_self, Bool.not_false, Bool.false_or, cond_true]
          · simp only [bneF h7, bneT h0, Option.bind_some, cond_false, Bool.false_or, cond_true, Bool.true_or]
        · simp only [bneT h7, Option.bind_some, cond_true, Bool.true_or]
  · have c1 : (decide ((2 : Int) ≤ (s.length : Int)) && decide ((s.length : Int) ≤ 20)) = false := by
      rw [Bool.eq_false_iff]; intro h
      simp only [Bool.and_eq_true, decide_eq_true_eq] at h
      omega
    simp only [c1, Bool.not_false, cond_true, cond_false, Option.bind_some]
    exact ⟨false, rfl, rfl, fun h => by cases h⟩
end Go.Law
end

section
/- Schemas: where a col ends; the leaves. -/
set_option linter.unusedVariables false
set_option linter.unusedSimpArgs false
set_option linter.unusedSectionVars false
namespace Go.Law
open Go.Am Go.Fn
variable (k : Nat)

theorem PartsC_nx {S : Nat → Nat → Prop} {s : List TCol} (hS : ∀ a b, S a b → a < b) : ∀ (c pos : Nat) (names : List ByteArray) (nx : Nat), PartsC S s c pos names nx → pos ≤ nx
  | c, pos, names, nx, h => by have := PartsC_le hS c pos names nx h; omega

section
variable (s : List TCol) (hs : s.length ≤ 20) (hn : ∀ c, c ∈ s → c.1.size < k ∧ c.1.size < 1000000000 ∧ I64 c.2.2.2.1)
include hs hn

theorem colAfter_loop (hk : 100 ≤ k) (d D deep : Nat) (hdeep : deep ≤ 6) (M : Int) (hM : M < 9223372036854775808)
    (ih : ∀ at_ nx : Nat, SubC s d at_ nx → nx ≤ s.length → impl_colAfter.rec k D s (at_ : Int) ((deep + 1 : Nat) : Int) = some (nx : Int)) :
    ∀ (c f pos : Nat) (i : Int) (names : List ByteArray) (nx : Nat), PartsC (SubC s d) s c pos names nx → c < f → M - i = c → 0 ≤ i → nx ≤ s.length → names.length ≤ pos →
      impl_colAfter.l6 k (impl_colAfter.rec k D) f s (deep : Int) (pos : Int) M i names = some (nx : Int) := by
  intro c
  induction c with
  | zero =>
    intro f pos i names nx hp hf hi h0 hnx hnm
    obtain ⟨f, rfl⟩ : ∃ m, f = m + 1 := ⟨f - 1, by omega⟩
    have hp : pos = nx := hp
    subst hp
    simp only [impl_colAfter.l6, decide_eq_false (show ¬ i < M by omega), cond_false]
  | succ c ihc =>
    intro f pos i names nx hp hf hi h0 hnx hnm
    obtain ⟨f, rfl⟩ : ∃ m, f = m + 1 := ⟨f - 1, by omega⟩
    obtain ⟨p, mid, p1, p2, p3, p4⟩ := hp
    have hlt := SubC_lt _ _ _ p3
    have hmn := PartsC_nx (SubC_lt d) _ _ _ _ p4
    have hd1 : IntKind.wrap .i64 ((deep : Int) + 1) = ((deep + 1 : Nat) : Int) := by rw [w64 (by omega) (by omega)]; omega
    have hi1 : IntKind.wrap .i64 (i + 1) = i + 1 := w64 (by omega) (by omega)
    simp only [impl_colAfter.l6, decide_eq_true (show i < M by omega), cond_true, decide_eq_false (show ¬ (pos : Int) ≥ (s.length : Int) by omega), cond_false]
    rw [show (0 : Int) = ((0 : Nat) : Int) from rfl, implNames k _ _ s _ pos M i _ p1 names (by omega) names.length k 0 (by omega) (by omega), List.drop_zero, if_neg p2, hd1, ih pos mid p3 (by omega)]
    simp only [Option.bind_some, decide_eq_false (show ¬ ((mid : Int) < 0) by omega), cond_false, hi1]
    exact ihc f mid (i + 1) (names ++ [p.1]) nx p4 (by omega) (by omega) (by omega) hnx (by simp; omega)

theorem colAfter_rec (hk : 100 ≤ k) : ∀ (d D deep at_ nx : Nat), SubC s d at_ nx → d + deep ≤ 7 → d < D → nx ≤ s.length → impl_colAfter.rec k D s (at_ : Int) (deep : Int) = some (nx : Int) := by
  intro d
  induction d with
  | zero => intro D deep at_ nx h; exact h.elim
  | succ d ih =>
    intro D deep at_ nx h hd hD hnx
    obtain ⟨D, rfl⟩ : ∃ m, D = m + 1 := ⟨D - 1, by omega⟩
    have hlt := SubC_lt _ _ _ h
    obtain ⟨c, h1, h2, h3, h4⟩ := h
    have hcm : c ∈ s := List.mem_of_getElem? h1
    obtain ⟨n1, n2, n3⟩ := hn c hcm
    have hle := PartsC_le (SubC_lt d) _ _ _ _ h4
    have ha1 : IntKind.wrap .i64 ((at_ : Int) + 1) = ((at_ + 1 : Nat) : Int) := by rw [w64 (by omega) (by omega)]; omega
    have hm0 : 0 ≤ c.2.2.2.1 := by
      unfold colOk at h2
      simp only [Bool.and_eq_true, Bool.or_eq_true, beq_iff_eq, decide_eq_true_eq] at h2
      omega
    have hname : (decide ((at_ : Int) > 0) && !nameOk c.1) = false := by
      by_cases h0 : 0 < at_
      · rw [h3 h0]; simp
      · rw [decide_eq_false (show ¬ (at_ : Int) > 0 by omega)]; rfl
    simp only [impl_colAfter.rec, impl_colAfter.b, cst, csf, decide_eq_false (show ¬ (at_ : Int) ≥ (s.length : Int) by omega), decide_eq_false (show ¬ (deep : Int) > 6 by omega), Bool.false_or, Option.bind_some, cond_false, rdL_nat, h1, colOk_eq, h2, Bool.not_true, isColName_eq k c.1 n1 n2, hname, ha1]
    have := colAfter_loop k s hs hn hk d D deep (by omega) c.2.2.2.1 n3.2 (fun a b hab hb => ih D (deep + 1) a b hab (by omega) (by omega) hb) c.2.2.2.1.toNat k (at_ + 1) 0 [] nx h4 (by omega) (by omega) (by omega) hnx (by simp)
    exact this

theorem colAfter_sub (hk : 100 ≤ k) {d at_ nx : Nat} (h : SubC s d at_ nx) (hd : d ≤ 6) (hnx : nx ≤ s.length) : impl_colAfter k s (at_ : Int) 1 = some (nx : Int) :=
  colAfter_rec k s hs hn hk d k 1 at_ nx h (by omega) (by omega) hnx

theorem l5After_rec (hk : 100 ≤ k) : ∀ (d D at_ nx : Nat), SubC s d at_ nx → d < D → nx ≤ s.length → spec_l5After.rec k D s (at_ : Int) = some (nx : Int) := by
  intro d
  induction d with
  | zero => intro D at_ nx h; exact h.elim
  | succ d ih =>
    intro D at_ nx h hD hnx
    obtain ⟨D, rfl⟩ : ∃ m, D = m + 1 := ⟨D - 1, by omega⟩
    have hlt := SubC_lt _ _ _ h
    obtain ⟨c, h1, h2, h3, h4⟩ := h
    obtain ⟨n1, n2, n3⟩ := hn c (List.mem_of_getElem? h1)
    have hle := PartsC_le (SubC_lt d) _ _ _ _ h4
    have ha1 : IntKind.wrap .i64 ((at_ : Int) + 1) = ((at_ + 1 : Nat) : Int) := by rw [w64 (by omega) (by omega)]; omega
    have hm0 : 0 ≤ c.2.2.2.1 := by
      unfold colOk at h2
      simp only [Bool.and_eq_true, Bool.or_eq_true, beq_iff_eq, decide_eq_true_eq] at h2
      omega
    have key : ∀ (m f pos : Nat) (i : Int) (names : List ByteArray), PartsC (SubC s d) s m pos names nx → m < f → c.2.2.2.1 - i = m → 0 ≤ i → spec_l5After.l3 k (spec_l5After.rec k D) f s (at_ : Int) (pos : Int) i = some (nx : Int) := by
      intro m
      induction m with
      | zero =>
        intro f pos i names hp hf hi h0
        obtain ⟨f, rfl⟩ : ∃ m, f = m + 1 := ⟨f - 1, by omega⟩
        have hp : pos = nx := hp
        subst hp
        simp only [spec_l5After.l3, rdL_nat, h1, Option.bind_some, decide_eq_false (show ¬ i < c.2.2.2.1 by omega), cond_false]
      | succ m ihm =>
        intro f pos i names hp hf hi h0
        obtain ⟨f, rfl⟩ : ∃ m, f = m + 1 := ⟨f - 1, by omega⟩
        obtain ⟨p, mid, p1, p2, p3, p4⟩ := hp
        have hmn := PartsC_nx (SubC_lt d) _ _ _ _ p4
        have hi1 : IntKind.wrap .i64 (i + 1) = i + 1 := w64 (by omega) (by obtain ⟨_, q⟩ := n3; omega)
        simp only [spec_l5After.l3, rdL_nat, h1, Option.bind_some, decide_eq_true (show i < c.2.2.2.1 by omega), cond_true, ih D pos mid p3 (by omega) (by omega), hi1]
        exact ihm f mid (i + 1) _ p4 (by omega) (by omega) (by omega)
    simp only [spec_l5After.rec, spec_l5After.b, ha1]
    exact key c.2.2.2.1.toNat k (at_ + 1) 0 [] h4 (by omega) (by omega) (by omega)

theorem l5After_sub (hk : 100 ≤ k) {d at_ nx : Nat} (h : SubC s d at_ nx) (hd : d ≤ 6) (hnx : nx ≤ s.length) : spec_l5After k s (at_ : Int) = some (nx : Int) :=
  l5After_rec k s hs hn hk d k at_ nx h (by omega) hnx
end

def leavesFrom : Nat → List TCol → List Int
  | _, [] => []
  | i, c :: r => if c.2.1 = 7 then leavesFrom (i + 1) r else (i : Int) :: leavesFrom (i + 1) r

theorem leavesFrom_len : ∀ (i : Nat) (s : List TCol), (leavesFrom i s).length ≤ s.length
  | _, [] => Nat.le_refl _
  | i, c :: r => by
    have := leavesFrom_len (i + 1) r
    simp only [leavesFrom]
    split <;> simp <;> omega

theorem leaves_loop (s : List TCol) (hs : s.length ≤ 1000) : ∀ (post pre : List TCol) (n : Nat) (o : List Int), s = pre ++ post → post.length < n → o.length ≤ pre.length →
    impl_leavesOf.l3 k n s (s.length : Int) (pre.length : Int) o = some ((), o ++ leavesFrom pre.length post) ∧ spec_l5Leaves.l3 k n s (pre.length : Int) o = some ((), o ++ leavesFrom pre.length post) := by
  intro post
  induction post with
  | nil =>
    intro pre n o hsp hn ho
    obtain ⟨n, rfl⟩ : ∃ j, n = j + 1 := ⟨n - 1, by omega⟩
    have : s = pre := by simpa using hsp
    subst this
    simp only [impl_leavesOf.l3, spec_l5Leaves.l3, decide_eq_false (show ¬ (s.length : Int) < (s.length : Int) by omega), cond_false]
    simp [leavesFrom]
  | cons x post ih =>
    intro pre n o hsp hn ho
    simp only [List.length_cons] at hn
    obtain ⟨n, rfl⟩ : ∃ j, n = j + 1 := ⟨n - 1, by omega⟩
    have hlen : s.length = pre.length + (post.length + 1) := by rw [hsp]; simp
    have hg : rdL s (pre.length : Int) = some x := by rw [hsp]; exact getMid _ _ _
    have hi1 : IntKind.wrap .i64 ((pre.length : Int) + 1) = ((pre.length + 1 : Nat) : Int) := by rw [w64 (by omega) (by omega)]; omega
    simp only [impl_leavesOf.l3, spec_l5Leaves.l3, decide_eq_true (show (pre.length : Int) < (s.length : Int) by omega), cond_true, hg, Option.bind_some, impl_leavesOf.c7, spec_l5Leaves.c4, hi1, leavesFrom]
    by_cases h7 : x.2.1 = 7
    · have hi := ih (pre ++ [x]) n o (by rw [hsp]; simp) (by omega) (by simp; omega)
      rw [List.length_append, List.length_singleton] at hi
      rw [bneF h7, cond_false, cond_false, if_pos h7]
      exact hi
    · have hi := ih (pre ++ [x]) n (o ++ [(pre.length : Int)]) (by rw [hsp]; simp) (by omega) (by simp; omega)
      rw [List.length_append, List.length_singleton, List.append_assoc, List.singleton_append] at hi
      rw [bneT h7, cond_true, cond_true, if_neg h7, lim_ok (by simp; omega), cond_true, cond_true]
      exact hi

theorem leaves_eq (hk : 2000 ≤ k) (s : List TCol) (hs : s.length ≤ 1000) : impl_leavesOf k s = some ((), leavesFrom 0 s) ∧ spec_l5Leaves k s = some ((), leavesFrom 0 s) := by
  have := leaves_loop k s hs s [] k [] rfl (by omega) (by simp)
  exact this
end Go.Law
end

section
/- Which values are right. -/
set_option linter.unusedVariables false
set_option linter.unusedSimpArgs false
namespace Go.Law
open Go.Am Go.Fn
variable (k : Nat)

def vok (t : Int) (v : TVal) : Bool :=
  if t = 0 then (decide (0 ≤ v.1) && decide (v.1 ≤ 1)) && eqS v.2.1 ⟨#[]⟩
  else if t = 1 then (decide (-2147483648 ≤ v.1) && decide (v.1 ≤ 2147483647)) && eqS v.2.1 ⟨#[]⟩
  else if t = 2 ∨ t = 5 then eqS v.2.1 ⟨#[]⟩
  else if t = 6 then v.1 == 0 && decide ((v.2.1.size : Int) ≤ 40)
  else false

theorem valOk_eq (t : Int) (v : TVal) : impl_ValOk k t v = some (vok t v) := by
  unfold impl_ValOk impl_ValOk.c8 impl_isInt32 vok
  by_cases h0 : t = 0
  · subst h0
    simp only [within_eq, beqT rfl, cond_true, Option.bind_some, csf, if_true]
  by_cases h1 : t = 1
  · subst h1
    simp only [within_eq, beqF h0, beqT rfl, cond_true, cond_false, Option.bind_some, csf, if_neg h0, if_true]
  by_cases h2 : t = 2
  · subst h2
    simp only [beqF h0, beqF h1, beqT rfl, cond_true, cond_false, if_neg h0, if_neg h1, true_or, if_true]
  by_cases h5 : t = 5
  · subst h5
    simp only [beqF h0, beqF h1, beqF h2, beqT rfl, cond_true, cond_false, if_neg h0, if_neg h1, or_true, if_true]
  by_cases h6 : t = 6
  · subst h6
    simp only [beqF h0, beqF h1, beqF h2, beqF h5, beqT rfl, cond_true, cond_false, if_neg h0, if_neg h1, Option.bind_some, csf, if_true]
    rw [if_neg (by decide)]
  · simp only [beqF h0, beqF h1, beqF h2, beqF h5, beqF h6, cond_true, cond_false, if_neg h0, if_neg h1, Option.bind_some, csf, if_neg h6]
    rw [if_neg (by omega)]
    rfl

theorem svalOk_eq (t : Int) (v : TVal) : spec_ValOk k t v = some (vok t v) := by
  unfold spec_ValOk spec_ValOk.c8 spec_l4Int vok
  by_cases h0 : t = 0
  · subst h0
    simp only [l1In_eq, beqT rfl, cond_true, Option.bind_some, csf, if_true]
  by_cases h1 : t = 1
  · subst h1
    simp only [l1In_eq, beqF h0, beqT rfl, cond_true, cond_false, Option.bind_some, csf, if_neg h0, if_true]
  by_cases h2 : t = 2
  · subst h2
    simp only [beqF h0, beqF h1, beqT rfl, cond_true, cond_false, if_neg h0, if_neg h1, true_or, if_true]
  by_cases h5 : t = 5
  · subst h5
    simp only [beqF h0, beqF h1, beqF h2, beqT rfl, cond_true, cond_false, if_neg h0, if_neg h1, or_true, if_true]
  by_cases h6 : t = 6
  · subst h6
    simp only [beqF h0, beqF h1, beqF h2, beqF h5, beqT rfl, cond_true, cond_false, if_neg h0, if_neg h1, Option.bind_some, csf, if_true]
    rw [if_neg (by decide)]
  · simp only [beqF h0, beqF h1, beqF h2, beqF h5, beqF h6, cond_true, cond_false, if_neg h0, if_neg h1, Option.bind_some, csf, if_neg h6]
    rw [if_neg (by omega)]

end Go.Law
end

section
/- Going through a record: what is come to, in plain Lean. -/
set_option linter.unusedVariables false
set_option linter.unusedSimpArgs false
set_option linter.unusedSectionVars false
namespace Go.Law
open Go.Am Go.Fn

structure Ev where
  at_ : Nat
  leaf : Bool
  rep : Int
  def_ : Int
  v : TVal

def zv : TVal := (0, ⟨#[]⟩, ())

def cbad (v : TVal) (most : Int) : Bool := !eqS v.2.1 ⟨#[]⟩ || !(decide (0 ≤ v.1) && decide (v.1 ≤ most))
theorem cbad_false {v : TVal} {most : Int} (h : cbad v most = false) : 0 ≤ v.1 ∧ v.1 ≤ most := by
  unfold cbad at h
  simp only [Bool.or_eq_false_iff, Bool.not_eq_false', Bool.and_eq_true, decide_eq_true_eq] at h
  exact h.2
abbrev EvR := Option (List Ev × List TVal)

def evPair (a : EvR) (f : List TVal → EvR) : EvR :=
  match a with
  | none => none
  | some (x, V) => match f V with
    | none => none
    | some (y, W) => some (x ++ y, W)

def evParts (F : Nat → List TVal → EvR) (e : Nat → Nat) : Nat → Nat → List TVal → EvR
  | 0, _, V => some ([], V)
  | m + 1, a, V => evPair (F a V) (evParts F e m (e a))

def evItems (F : List TVal → EvR) : Nat → List TVal → EvR
  | 0, V => some ([], V)
  | m + 1, V => evPair (F V) (evItems F m)

def iter (f : Nat → Nat) : Nat → Nat → Nat
  | 0, a => a
  | n + 1, a => iter f n (f a)

def endC (s : List TCol) : Nat → Nat → Nat
  | 0, a => a
  | d + 1, a => match s[a]? with
    | none => a + 1
    | some c => iter (endC s d) c.2.2.2.1.toNat (a + 1)

theorem endC_parts {s : List TCol} {S : Nat → Nat → Prop} {e : Nat → Nat} (h : ∀ a b, S a b → e a = b) : ∀ (m a : Nat) (names : List ByteArray) (nx : Nat), PartsC S s m a names nx → iter e m a = nx
  | 0, a, _, nx, hp => hp
  | m + 1, a, names, nx, ⟨p, mid, _, _, h3, h4⟩ => by
    show iter e m (e a) = nx
    rw [h a mid h3]
    exact endC_parts h m mid _ nx h4

theorem endC_eq {s : List TCol} : ∀ (d : Nat) {a b : Nat}, SubC s d a b → ∀ d', d ≤ d' → endC s d' a = b
  | 0, _, _, h, _, _ => h.elim
  | d + 1, a, b, ⟨c, h1, _, _, h2⟩, d', hd => by
    obtain ⟨d', rfl⟩ : ∃ q, d' = q + 1 := ⟨d' - 1, by omega⟩
    simp only [endC, h1]
    exact endC_parts (S := SubC s d) (fun x y hxy => endC_eq d hxy d' (by omega)) _ _ _ _ h2

def miss (s : List TCol) (rep def_ : Int) : Nat → Nat → List Ev
  | 0, _ => []
  | n + 1, i => (match s[i]? with
    | none => []
    | some c => if c.2.1 = 7 then [] else [⟨i, false, rep, def_, zv⟩]) ++ miss s rep def_ n (i + 1)

def evPart (s : List TCol) (C : Int → Int → Int → List TVal → EvR) (e a : Nat) (rep def_ deep : Int) (V : List TVal) : EvR :=
  match s[a]? with
  | none => none
  | some c =>
    if c.2.2.1 = 0 then C rep def_ deep V
    else match V with
      | [] => none
      | v :: V =>
        if c.2.2.1 = 2 then
          if cbad v 20 = true then none
          else if v.1 = 0 then some (miss s rep def_ (e - a) a, V)
          else evPair (C rep (def_ + 1) (deep + 1) V) (evItems (C (deep + 1) (def_ + 1) (deep + 1)) (v.1.toNat - 1))
        else
          if cbad v 1 = true then none
          else if v.1 = 0 then some (miss s rep def_ (e - a) a, V)
          else C rep (def_ + 1) deep V

def evC (s : List TCol) : Nat → Nat → Int → Int → Int → List TVal → EvR
  | 0, _, _, _, _, _ => none
  | d + 1, a, rep, def_, deep, V => match s[a]? with
    | none => none
    | some c =>
      if c.2.1 = 7 then evParts (fun a V => evPart s (evC s d a) (endC s d a) a rep def_ deep V) (endC s d) c.2.2.2.1.toNat (a + 1) V
      else match V with
        | [] => none
        | v :: V => if vok c.2.1 v = true then some ([⟨a, true, rep, def_, v⟩], V) else none

/-! ### how much is told -/
def EvG (V : List TVal) (r : EvR) : Prop := ∀ X W, r = some (X, W) → W.length ≤ V.length ∧ X.length + 20 * W.length ≤ 20 * V.length ∧ W = V.drop (V.length - W.length)

theorem evPair_some {a : EvR} {f : List TVal → EvR} {X : List Ev} {W : List TVal} (h : evPair a f = some (X, W)) : ∃ x y V, a = some (x, V) ∧ f V = some (y, W) ∧ X = x ++ y := by
  unfold evPair at h
  split at h
  · cases h
  · rename_i x V
    split at h
    · cases h
    · rename_i y W' hf
      simp only [Option.some.injEq, Prod.mk.injEq] at h
      obtain ⟨rfl, rfl⟩ := h
      exact ⟨x, y, V, rfl, hf, rfl⟩

theorem EvG.pair {V : List TVal} {a : EvR} {f : List TVal → EvR} (h : EvG V a) (k : ∀ W, EvG W (f W)) : EvG V (evPair a f) := by
  intro X W hr
  obtain ⟨x, y, U, h1, h2, rfl⟩ := evPair_some hr
  obtain ⟨a1, a2, a3⟩ := h _ _ h1
  obtain ⟨b1, b2, b3⟩ := k U _ _ h2
  refine ⟨by omega, by simp; omega, ?_⟩
  rw [b3, a3, List.drop_drop]
  congr 1
  simp only [List.length_drop]
  omega

theorem EvG.nil (V : List TVal) : EvG V (some ([], V)) := by
  intro X W h
  simp only [Option.some.injEq, Prod.mk.injEq] at h
  obtain ⟨rfl, rfl⟩ := h
  exact ⟨Nat.le_refl _, by simp, by simp⟩

theorem EvG.parts {F : Nat → List TVal → EvR} {e : Nat → Nat} (h : ∀ a V, EvG V (F a V)) : ∀ (m a : Nat) (V : List TVal), EvG V (evParts F e m a V)
  | 0, _, V => EvG.nil V
  | m + 1, a, V => (h a V).pair (EvG.parts h m (e a))

theorem EvG.items {F : List TVal → EvR} (h : ∀ V, EvG V (F V)) : ∀ (m : Nat) (V : List TVal), EvG V (evItems F m V)
  | 0, V => EvG.nil V
  | m + 1, V => (h V).pair (EvG.items h m)

theorem miss_len (s : List TCol) (rep def_ : Int) : ∀ (n i : Nat), i + (miss s rep def_ n i).length ≤ max i s.length
  | 0, i => by simp only [miss, List.length_nil]; omega
  | n + 1, i => by
    have := miss_len s rep def_ n (i + 1)
    simp only [miss, List.length_append]
    cases h : s[i]? with
    | none =>
      have hl : s.length ≤ i := List.getElem?_eq_none_iff.1 h
      simp only [List.length_nil]
      omega
    | some c =>
      have hl : i < s.length := (List.getElem?_eq_some_iff.1 h).1
      simp only
      split <;> simp <;> omega

theorem EvG.part {s : List TCol} (hs : s.length ≤ 20) {C : Int → Int → Int → List TVal → EvR} (h : ∀ r d p V, EvG V (C r d p V)) (e a : Nat) (rep def_ deep : Int) (V : List TVal) : EvG V (evPart s C e a rep def_ deep V) := by
  intro X W hr
  unfold evPart at hr
  have hm : ∀ n, (miss s rep def_ n a).length ≤ 20 := fun n => by
    have := miss_len s rep def_ n a
    rcases Nat.lt_or_ge a s.length with h1 | h1
    · omega
    · have : (miss s rep def_ n a).length = 0 := by omega
      omega
  split at hr
  · cases hr
  · rename_i c hc
    split at hr
    · exact h _ _ _ _ _ _ hr
    · split at hr
      · cases hr
      · rename_i v V
        have lift : ∀ r : EvR, EvG V r → r = some (X, W) → W.length ≤ (v :: V).length ∧ X.length + 20 * W.length ≤ 20 * (v :: V).length ∧ W = (v :: V).drop ((v :: V).length - W.length) := by
          intro r hg hr
          obtain ⟨g1, g2, g3⟩ := hg _ _ hr
          refine ⟨by simp; omega, by simp; omega, ?_⟩
          rw [List.length_cons, show V.length + 1 - W.length = (V.length - W.length) + 1 by omega, List.drop_succ_cons]
          exact g3
        have ms : some (miss s rep def_ (e - a) a, V) = some (X, W) → W.length ≤ (v :: V).length ∧ X.length + 20 * W.length ≤ 20 * (v :: V).length ∧ W = (v :: V).drop ((v :: V).length - W.length) := by
          intro hr
          simp only [Option.some.injEq, Prod.mk.injEq] at hr
          obtain ⟨rfl, rfl⟩ := hr
          have := hm (e - a)
          refine ⟨by simp, by simp; omega, by simp⟩
        split at hr
        · split at hr
          · cases hr
          · split at hr
            · exact ms hr
            · exact lift _ ((h _ _ _ _).pair (EvG.items (h _ _ _) _)) hr
        · split at hr
          · cases hr
          · split at hr
            · exact ms hr
            · exact lift _ (h _ _ _ _) hr

theorem evC_G {s : List TCol} (hs : s.length ≤ 20) : ∀ (d a : Nat) (rep def_ deep : Int) (V : List TVal), EvG V (evC s d a rep def_ deep V)
  | 0, _, _, _, _, _ => fun X W h => by cases h
  | d + 1, a, rep, def_, deep, V => by
    intro X W h
    simp only [evC] at h
    split at h
    · cases h
    · split at h
      · exact EvG.parts (fun a V => EvG.part hs (fun r d p V => evC_G hs _ a r d p V) _ a rep def_ deep V) _ _ _ _ _ h
      · split at h
        · cases h
        · split at h
          · simp only [Option.some.injEq, Prod.mk.injEq] at h
            obtain ⟨rfl, rfl⟩ := h
            refine ⟨by simp, by simp; omega, by simp⟩
          · cases h

end Go.Law
end

section
/- The reference goes through a record: whether it is one. -/
set_option linter.unusedVariables false
set_option linter.unusedSimpArgs false
set_option linter.unusedSectionVars false
namespace Go.Law
open Go.Am Go.Fn

/-! ### what is left does not hang on the levels -/
def rst (r : EvR) : Option (List TVal) := match r with
  | none => none
  | some (_, W) => some W

theorem rst_pair (a : EvR) (f : List TVal → EvR) : rst (evPair a f) = (rst a).bind fun V => rst (f V) := by
  unfold evPair rst
  cases a with
  | none => rfl
  | some q =>
    obtain ⟨x, V⟩ := q
    simp only [Option.bind_some]
    cases f V with
    | none => rfl
    | some q2 => rfl

def rIt (C : List TVal → Option (List TVal)) : Nat → List TVal → Option (List TVal)
  | 0, V => some V
  | m + 1, V => (C V).bind (rIt C m)

theorem rst_items (F : List TVal → EvR) (C : List TVal → Option (List TVal)) (h : ∀ V, rst (F V) = C V) : ∀ (m : Nat) (V : List TVal), rst (evItems F m V) = rIt C m V
  | 0, V => rfl
  | m + 1, V => by
    show rst (evPair (F V) (evItems F m)) = _
    rw [rst_pair, h V]
    show _ = (C V).bind (rIt C m)
    congr 1
    funext W
    exact rst_items F C h m W

def rPart (s : List TCol) (C : List TVal → Option (List TVal)) (a : Nat) (V : List TVal) : Option (List TVal) :=
  match s[a]? with
  | none => none
  | some c =>
    if c.2.2.1 = 0 then C V
    else match V with
      | [] => none
      | v :: V => if cbad v (if c.2.2.1 = 2 then 20 else 1) = true then none else rIt C v.1.toNat V

theorem rst_part (s : List TCol) (F : Int → Int → Int → List TVal → EvR) (C : List TVal → Option (List TVal)) (h : ∀ r q p V, rst (F r q p V) = C V) (e a : Nat) (rep def_ deep : Int) (V : List TVal) : rst (evPart s F e a rep def_ deep V) = rPart s C a V := by
  unfold evPart rPart
  cases s[a]? with
  | none => rfl
  | some c =>
    simp only
    split
    · exact h _ _ _ _
    · cases V with
      | nil => rfl
      | cons v V =>
        simp only
        split
        · rename_i h2
          split
          · rename_i hb; rfl
          · rename_i hb
            have hb := cbad_false (by simpa using hb)
            split
            · rename_i h0; rw [h0]; rfl
            · rename_i h0
              obtain ⟨n, hn⟩ : ∃ n : Nat, v.1 = ((n + 1 : Nat) : Int) := ⟨v.1.toNat - 1, by omega⟩
              rw [hn, rst_pair, h]
              show _ = rIt C (n + 1) V
              simp only [rIt]
              congr 1
              funext W
              exact rst_items _ C (h _ _ _) _ W
        · rename_i h2
          split
          · rename_i hb; rfl
          · rename_i hb
            have hb := cbad_false (by simpa using hb)
            split
            · rename_i h0; rw [h0]; rfl
            · rename_i h0
              have h1 : v.1 = 1 := by omega
              rw [h1, h]
              show C V = rIt C 1 V
              simp only [rIt]
              cases C V <;> rfl

def rParts (F : Nat → List TVal → Option (List TVal)) (e : Nat → Nat) : Nat → Nat → List TVal → Option (List TVal)
  | 0, _, V => some V
  | m + 1, a, V => (F a V).bind (rParts F e m (e a))

theorem rst_parts (F : Nat → List TVal → EvR) (C : Nat → List TVal → Option (List TVal)) (h : ∀ a V, rst (F a V) = C a V) (e : Nat → Nat) : ∀ (m a : Nat) (V : List TVal), rst (evParts F e m a V) = rParts C e m a V
  | 0, _, V => rfl
  | m + 1, a, V => by
    show rst (evPair (F a V) (evParts F e m (e a))) = _
    rw [rst_pair, h a V]
    show _ = (C a V).bind (rParts C e m (e a))
    congr 1
    funext W
    exact rst_parts F C h e m (e a) W

def rC (s : List TCol) : Nat → Nat → List TVal → Option (List TVal)
  | 0, _, _ => none
  | d + 1, a, V => match s[a]? with
    | none => none
    | some c =>
      if c.2.1 = 7 then rParts (fun a V => rPart s (rC s d a) a V) (endC s d) c.2.2.2.1.toNat (a + 1) V
      else match V with
        | [] => none
        | v :: V => if vok c.2.1 v = true then some V else none

theorem rst_C (s : List TCol) : ∀ (d a : Nat) (rep def_ deep : Int) (V : List TVal), rst (evC s d a rep def_ deep V) = rC s d a V
  | 0, _, _, _, _, _ => rfl
  | d + 1, a, rep, def_, deep, V => by
    simp only [evC, rC]
    cases s[a]? with
    | none => rfl
    | some c =>
      simp only
      split
      · exact rst_parts _ _ (fun a V => rst_part s _ (rC s d a) (fun r q p V => rst_C s d a r q p V) _ a rep def_ deep V) _ _ _ _
      · cases V with
        | nil => rfl
        | cons v V =>
          simp only
          split <;> rfl

theorem rC_some {s : List TCol} {d a : Nat} {V W : List TVal} (h : rC s d a V = some W) (rep def_ deep : Int) : ∃ X, evC s d a rep def_ deep V = some (X, W) := by
  rw [← rst_C s d a rep def_ deep V] at h
  cases he : evC s d a rep def_ deep V with
  | none => rw [he] at h; cases h
  | some q =>
    obtain ⟨X, U⟩ := q
    rw [he] at h
    cases h
    exact ⟨X, rfl⟩
theorem rC_none {s : List TCol} {d a : Nat} {V : List TVal} (h : rC s d a V = none) (rep def_ deep : Int) : evC s d a rep def_ deep V = none := by
  rw [← rst_C s d a rep def_ deep V] at h
  cases he : evC s d a rep def_ deep V with
  | none => rfl
  | some q => obtain ⟨X, U⟩ := q; rw [he] at h; cases h

def RG (C : List TVal → Option (List TVal)) : Prop := ∀ V W, C V = some W → W.length ≤ V.length ∧ W = V.drop (V.length - W.length)

theorem RG.of {F : List TVal → EvR} {C : List TVal → Option (List TVal)} (h : ∀ V, rst (F V) = C V) (g : ∀ V, EvG V (F V)) : RG C := by
  intro V W hc
  rw [← h V] at hc
  unfold rst at hc
  split at hc
  · cases hc
  · rename_i X U hf
    simp only [Option.some.injEq] at hc
    subst hc
    obtain ⟨g1, _, g3⟩ := g V X U hf
    exact ⟨g1, g3⟩

theorem RG.c {s : List TCol} (hs : s.length ≤ 20) (d a : Nat) : RG (rC s d a) := RG.of (F := evC s d a 0 0 0) (rst_C s d a 0 0 0) (evC_G hs d a 0 0 0)

def posOf (V : List TVal) (r : Option (List TVal)) : Int := match r with
  | none => -1
  | some W => ((V.length - W.length : Nat) : Int)

theorem RG.pos {C : List TVal → Option (List TVal)} (g : RG C) {V W : List TVal} {pos : Nat} (hp : pos ≤ V.length) (h : C (V.drop pos) = some W) : V.length - W.length ≤ V.length ∧ V.drop (V.length - W.length) = W ∧ pos ≤ V.length - W.length := by
  obtain ⟨g1, g2⟩ := g _ _ h
  simp only [List.length_drop] at g1 g2
  refine ⟨by omega, ?_, by omega⟩
  rw [List.drop_drop] at g2
  rw [show V.length - W.length = pos + (V.length - pos - W.length) by omega]
  exact g2.symm

section
variable (k : Nat) (s : List TCol) (hs : s.length ≤ 20) (hn : ∀ c, c ∈ s → c.1.size < k ∧ c.1.size < 1000000000 ∧ I64 c.2.2.2.1) (hk : 2000000 ≤ k)
variable (V : List TVal) (hV : V.length ≤ 1048576)
include hs hn hk hV

theorem scount_eq (v : TVal) (most : Int) : spec_l13Count k v most = some (if cbad v most then -1 else v.1) := by
  unfold spec_l13Count cbad
  simp only [l1In_eq, Option.bind_some, cst]
  generalize (!eqS v.2.1 ⟨#[]⟩ || !(decide (0 ≤ v.1) && decide (v.1 ≤ most))) = b
  cases b <;> rfl

theorem sitems_ok (S : (List TCol) → Int → (List TVal) → Int → Option Int) (a : Nat) (C : List TVal → Option (List TVal)) (g : RG C) (n : Nat) (hn : n ≤ 100)
    (h : ∀ pos, pos ≤ V.length → S s (a : Int) V (pos : Int) = some (posOf V (C (V.drop pos)))) : ∀ (m j f pos : Nat), n = j + m → m < f → pos ≤ V.length →
      spec_l13Part.l13 k S f s (a : Int) V (pos : Int) (n : Int) (j : Int) = some (posOf V (rIt C m (V.drop pos))) := by
  intro m
  induction m with
  | zero =>
    intro j f pos hj hf hp
    obtain ⟨f, rfl⟩ : ∃ q, f = q + 1 := ⟨f - 1, by omega⟩
    simp only [spec_l13Part.l13, decide_eq_false (show ¬ (j : Int) < (n : Int) by omega), cond_false, rIt, posOf, List.length_drop]
    congr 1; omega
  | succ m ih =>
    intro j f pos hj hf hp
    obtain ⟨f, rfl⟩ : ∃ q, f = q + 1 := ⟨f - 1, by omega⟩
    have hj1 : IntKind.wrap .i64 ((j : Int) + 1) = ((j + 1 : Nat) : Int) := by rw [w64 (by omega) (by omega)]; omega
    have e := h pos hp
    cases hr : C (V.drop pos) with
    | none =>
      rw [hr] at e
      have e : S s (a : Int) V (pos : Int) = some (-1) := e
      simp only [spec_l13Part.l13, decide_eq_true (show (j : Int) < (n : Int) by omega), cond_true, e, Option.bind_some, rIt, hr, decide_eq_true (show (-1 : Int) < 0 by omega)]
      rfl
    | some W =>
      rw [hr] at e
      have e : S s (a : Int) V (pos : Int) = some ((V.length - W.length : Nat) : Int) := e
      obtain ⟨p1, p2, p3⟩ := g.pos hp hr
      simp only [spec_l13Part.l13, decide_eq_true (show (j : Int) < (n : Int) by omega), cond_true, e, Option.bind_some, rIt, hj1, hr, decide_eq_false (show ¬ ((V.length - W.length : Nat) : Int) < 0 by omega), cond_false]
      rw [ih (j + 1) f _ (by omega) (by omega) p1, p2]

theorem spart_ok (d D a nx : Nat) (h : SubC s d a nx) (hnx : nx ≤ s.length)
    (P : ∀ pos, pos ≤ V.length → (spec_l13Content.rec k D).1 s (a : Int) V (pos : Int) = some (posOf V (rC s d a (V.drop pos)))) (pos : Nat) (hpos : pos ≤ V.length) :
    (spec_l13Content.rec k (D + 1)).2 s (a : Int) V (pos : Int) = some (posOf V (rPart s (rC s d a) a (V.drop pos))) := by
  have g := RG.c hs d a
  have hlt := SubC_lt _ _ _ h
  obtain ⟨d', rfl⟩ : ∃ q, d = q + 1 := ⟨d - 1, by cases d with
    | zero => exact h.elim
    | succ d => omega⟩
  obtain ⟨c, hc, hco, _, _⟩ := h
  have hrep : c.2.2.1 = 0 ∨ c.2.2.1 = 1 ∨ c.2.2.1 = 2 := by
    unfold colOk at hco
    simp only [Bool.and_eq_true, decide_eq_true_eq] at hco
    omega
  have hp1 : IntKind.wrap .i64 ((pos : Int) + 1) = ((pos + 1 : Nat) : Int) := by rw [w64 (by omega) (by omega)]; omega
  generalize hgC : rC s (d' + 1) a = C at *
  simp only [spec_l13Content.rec, spec_l13Part.b, rdL_nat, hc, Option.bind_some, rPart, spec_l13Part.c12, spec_l13Part.c6]
  have some_ : ∀ most : Int, most = 1 ∨ most = 20 →
      cond (decide ((pos : Int) ≥ (V.length : Int))) (some (-1)) ((V[pos]?).bind fun y2 => (spec_l13Count k y2 most).bind fun r3 => cond (decide (r3 < 0)) (some (-1)) (spec_l13Part.l13 k (spec_l13Content.rec k D).1 k s (a : Int) V (IntKind.wrap .i64 ((pos : Int) + 1)) r3 0)) =
        some (posOf V (match V.drop pos with
          | [] => none
          | v :: V => if cbad v most = true then none else rIt C v.1.toNat V)) := by
    intro most hm
    by_cases hlt' : pos < V.length
    · have hd : V.drop pos = V[pos] :: V.drop (pos + 1) := List.drop_eq_getElem_cons hlt'
      rw [decide_eq_false (by omega), cond_false, List.getElem?_eq_getElem hlt', hd]
      simp only [Option.bind_some, scount_eq k s hs hn hk V hV]
      cases hb : cbad V[pos] most with
      | true => rfl
      | false =>
        have hcb := cbad_false hb
        simp only [Bool.false_eq_true, if_false]
        obtain ⟨n, hn'⟩ : ∃ n : Nat, (V[pos]).1 = (n : Int) := ⟨(V[pos]).1.toNat, by omega⟩
        rw [decide_eq_false (by omega), cond_false, hp1, hn', Int.toNat_natCast]
        exact sitems_ok k s hs hn hk V hV (spec_l13Content.rec k D).1 a C g n (by omega) P n 0 k (pos + 1) (by omega) (by omega) (by omega)
    · have hd : V.drop pos = [] := List.drop_of_length_le (by omega)
      rw [decide_eq_true (by omega), cond_true, hd]; rfl
  rcases hrep with hr | hr | hr
  · rw [bneF hr, cond_false, if_pos hr]
    have := sitems_ok k s hs hn hk V hV (spec_l13Content.rec k D).1 a C g 1 (by omega) P 1 0 k pos (by omega) (by omega) hpos
    have e : rIt C 1 (V.drop pos) = C (V.drop pos) := by simp only [rIt]; cases C (V.drop pos) <;> rfl
    rw [e] at this
    exact this
  · rw [bneT (by omega), cond_true, beqF (by omega), cond_false, if_neg (by omega)]
    rw [some_ 1 (.inl rfl), if_neg (show ¬ c.2.2.1 = 2 by omega)]
  · rw [bneT (by omega), cond_true, beqT hr, cond_true, if_neg (by omega)]
    rw [some_ 20 (.inr rfl), if_pos hr]

theorem sparts_ok (d D : Nat) (hd : d ≤ 6) (a : Nat) (c : TCol) (hc : s[a]? = some c) (hcm : c.2.2.2.1 ≤ 1000000) (nx : Nat) (hnx : nx ≤ s.length)
    (Q : ∀ pl mid, SubC s d pl mid → mid ≤ s.length → ∀ pos, pos ≤ V.length → (spec_l13Content.rec k D).2 s (pl : Int) V (pos : Int) = some (posOf V (rPart s (rC s d pl) pl (V.drop pos)))) :
    ∀ (m pl : Nat) (i : Int) (names : List ByteArray) (f pos : Nat), PartsC (SubC s d) s m pl names nx → c.2.2.2.1 - i = m → 0 ≤ i → m < f → pos ≤ V.length →
      spec_l13Content.l7 k (spec_l13Content.rec k D).2 f s (a : Int) V (pos : Int) (pl : Int) i = some (posOf V (rParts (fun a V => rPart s (rC s d a) a V) (endC s d) m pl (V.drop pos))) := by
  intro m
  induction m with
  | zero =>
    intro pl i names f pos hp hi h0 hf hpos
    obtain ⟨f, rfl⟩ : ∃ q, f = q + 1 := ⟨f - 1, by omega⟩
    simp only [spec_l13Content.l7, rdL_nat, hc, Option.bind_some, decide_eq_false (show ¬ (i < c.2.2.2.1) by omega), cond_false, rParts, posOf, List.length_drop]
    congr 1; omega
  | succ m ih =>
    intro pl i names f pos hp hi h0 hf hpos
    obtain ⟨q, mid, q1, q2, q3, q4⟩ := hp
    have hmn := PartsC_nx (SubC_lt d) _ _ _ _ q4
    obtain ⟨f, rfl⟩ : ∃ q, f = q + 1 := ⟨f - 1, by omega⟩
    have hi1 : IntKind.wrap .i64 (i + 1) = i + 1 := w64 (by omega) (by omega)
    have hend : endC s d pl = mid := endC_eq d q3 d (Nat.le_refl _)
    have haf := l5After_sub k s hs hn (by omega) q3 hd (by omega)
    have g : RG (fun V => rPart s (rC s d pl) pl V) := RG.of (F := evPart s (evC s d pl) mid pl 0 0 0) (fun V => rst_part s _ (rC s d pl) (fun r q p V => rst_C s d pl r q p V) mid pl 0 0 0 V)
      (fun V => EvG.part hs (fun r q p V => evC_G hs d pl r q p V) mid pl 0 0 0 V)
    have e := Q pl mid q3 (by omega) pos hpos
    cases hr : rPart s (rC s d pl) pl (V.drop pos) with
    | none =>
      rw [hr] at e
      have e : (spec_l13Content.rec k D).2 s (pl : Int) V (pos : Int) = some (-1) := e
      simp only [spec_l13Content.l7, rdL_nat, hc, Option.bind_some, decide_eq_true (show i < c.2.2.2.1 by omega), cond_true, e, rParts, hr, decide_eq_true (show (-1 : Int) < 0 by omega), Option.bind_none]
      rfl
    | some W =>
      rw [hr] at e
      have e : (spec_l13Content.rec k D).2 s (pl : Int) V (pos : Int) = some ((V.length - W.length : Nat) : Int) := e
      obtain ⟨p1, p2, p3⟩ := g.pos (C := fun V => rPart s (rC s d pl) pl V) hpos hr
      simp only [spec_l13Content.l7, rdL_nat, hc, Option.bind_some, decide_eq_true (show i < c.2.2.2.1 by omega), cond_true, e, rParts, hr, hend, haf, hi1, decide_eq_false (show ¬ ((V.length - W.length : Nat) : Int) < 0 by omega), cond_false]
      rw [ih mid (i + 1) _ f _ q4 (by omega) (by omega) (by omega) p1, p2]

theorem sbody_ok : ∀ (d D a nx : Nat), SubC s d a nx → nx ≤ s.length → d ≤ 6 → 2 * d ≤ D → ∀ pos, pos ≤ V.length →
    (spec_l13Content.rec k D).1 s (a : Int) V (pos : Int) = some (posOf V (rC s d a (V.drop pos))) := by
  intro d
  induction d with
  | zero => intro D a nx h; exact h.elim
  | succ d ih =>
    intro D a nx h hnx hd hD pos hpos
    obtain ⟨D, rfl⟩ : ∃ q, D = q + 2 := ⟨D - 2, by omega⟩
    have hlt := SubC_lt _ _ _ h
    obtain ⟨c, hc, hco, _, hp⟩ := h
    have ha1 : IntKind.wrap .i64 ((a : Int) + 1) = ((a + 1 : Nat) : Int) := by rw [w64 (by omega) (by omega)]; omega
    have hp1 : IntKind.wrap .i64 ((pos : Int) + 1) = ((pos + 1 : Nat) : Int) := by rw [w64 (by omega) (by omega)]; omega
    have hmp := PartsC_le (SubC_lt d) _ _ _ _ hp
    rw [show D + 2 = (D + 1) + 1 from rfl]
    by_cases h7 : c.2.1 = 7
    · have hmn : 0 ≤ c.2.2.2.1 := by
        unfold colOk at hco
        rw [h7, tyOk_7] at hco
        simp at hco
        omega
      have key := sparts_ok k s hs hn hk V hV d (D + 1) (by omega) a c hc (by omega) nx hnx
        (fun pl mid hs1 hm1 pos hpos => spart_ok k s hs hn hk V hV d D pl mid hs1 hm1 (fun pos hpos => ih D pl mid hs1 hm1 (by omega) (by omega) pos hpos) pos hpos) c.2.2.2.1.toNat (a + 1) 0 [] k pos hp (by omega) (by omega) (by omega) hpos
      simp only [spec_l13Content.rec, spec_l13Content.b, rdL_nat, hc, Option.bind_some, bneF h7, cond_false, ha1, rC]
      rw [if_pos h7]
      exact key
    · simp only [spec_l13Content.rec, spec_l13Content.b, rdL_nat, hc, Option.bind_some, bneT h7, cond_true, rC]
      rw [if_neg h7]
      by_cases hlt' : pos < V.length
      · have hd' : V.drop pos = V[pos] :: V.drop (pos + 1) := List.drop_eq_getElem_cons hlt'
        rw [decide_eq_false (by omega), cond_false, List.getElem?_eq_getElem hlt', hd']
        simp only [Option.bind_some, svalOk_eq, hp1]
        cases hv : vok c.2.1 V[pos] with
        | true => simp only [Bool.not_true, cond_false, if_true, posOf, List.length_drop]; congr 1; omega
        | false => simp only [Bool.not_false, cond_true, Bool.false_eq_true, if_false]; rfl
      · have hd' : V.drop pos = [] := List.drop_of_length_le (by omega)
        rw [decide_eq_true (by omega), cond_true, hd']; rfl
end

theorem ev_pos {V : List TVal} {F : List TVal → EvR} (g : ∀ V, EvG V (F V)) {pos : Nat} {X : List Ev} {W : List TVal} (hp : pos ≤ V.length) (h : F (V.drop pos) = some (X, W)) :
    V.length - W.length ≤ V.length ∧ V.drop (V.length - W.length) = W ∧ pos ≤ V.length - W.length ∧ X.length + 20 * pos ≤ 20 * (V.length - W.length) := by
  obtain ⟨g1, g2, g3⟩ := g _ _ _ h
  simp only [List.length_drop] at g1 g2 g3
  refine ⟨by omega, ?_, by omega, by omega⟩
  rw [List.drop_drop] at g3
  rw [show V.length - W.length = pos + (V.length - pos - W.length) by omega]
  exact g3.symm


end Go.Law
end

section
/- The walker's instance of RecOk: it folds what is come to. Printed by program. -/
set_option linter.unusedVariables false
set_option linter.unusedSimpArgs false
set_option linter.unusedSectionVars false
namespace Go.Law
open Go.Am Go.Fn

def WO.P (_ : Nat) (_ : Nat) : Prop := True
def WO.stp (n : Nat) (_ : Ev) : Nat := n + 1
theorem WO.P_stp (acc : Nat) (e : Ev) (m : Nat) (h : WO.P (m + 1) acc) : WO.P m (WO.stp acc e) := trivial
theorem WO.P_le (acc : Nat) (m n : Nat) (h : WO.P m acc) (hn : n ≤ m) : WO.P n acc := trivial

section
variable (k : Nat) (s : List TCol)  
theorem WO.leaf_ok (a : Nat) (rep def_ : Int) (v : TVal) (acc : Nat) (m : Nat) (hP : WO.P (m + 1) acc) (ha : a < s.length) (hc : ∀ c, s[a]? = some c → c.2.1 ≠ 7) : impl_RecOk_1 k (a : Int) rep def_ v = some () := rfl
theorem WO.none_ok (a : Nat) (rep def_ : Int) (acc : Nat) (m : Nat) (hP : WO.P (m + 1) acc) (ha : a < s.length) (hc : ∀ c, s[a]? = some c → c.2.1 ≠ 7) : impl_RecOk_2 k (a : Int) rep def_ = some () := rfl
end

section
variable (k : Nat) (s : List TCol) (hs : s.length ≤ 20) (hn : ∀ c, c ∈ s → c.1.size < k ∧ c.1.size < 1000000000 ∧ I64 c.2.2.2.1) (hk : 2000000 ≤ k)  
include hs hn hk 

theorem WO.P_fold : ∀ (X : List Ev) (acc : Nat) (m : Nat), WO.P  (m + X.length) (acc) → WO.P  (m) (X.foldl WO.stp acc)
  | [], acc, m, h => h
  | e :: X, acc, m, h => by
    rw [List.foldl_cons]
    refine WO.P_fold X (WO.stp acc e) m (WO.P_stp  acc e (m + X.length) ?_)
    have e1 : m + X.length + 1 = m + (e :: X).length := by simp; omega
    rw [e1]; exact h

theorem WO.next_cons (v : TVal) (V : List TVal) (hV : V.length ≤ 1048576) (acc : Nat) :
    impl_walker_next_of_RecOk_1_RecOk_2 k (s, v :: V, false, (), (), ())  = some (v, (s, V, false, (), (), ())) := by
  unfold impl_walker_next_of_RecOk_1_RecOk_2
  have hz : (((v :: V).length : Int) == 0) = false := beqF (by simp; omega)
  have hcut : cutL (v :: V) 1 ((v :: V).length : Int) = V := by
    unfold cutL
    rw [Int.toNat_natCast, List.take_length]; rfl
  have hr : rdL (v :: V) 0 = some v := rfl
  simp only [cond_false, hz, Option.bind_some, hr, hcut]
  rw [inSl_ok (by omega) (by simp; omega) (by omega), cond_true]

theorem WO.next_nil (acc : Nat) : impl_walker_next_of_RecOk_1_RecOk_2 k (s, [], false, (), (), ())  = some (zv, (s, [], true, (), (), ())) := by
  unfold impl_walker_next_of_RecOk_1_RecOk_2
  simp only [cond_false, List.length_nil, Option.bind_some]
  rfl

theorem WO.count_cons (v : TVal) (V : List TVal) (hV : V.length ≤ 1048576) (most : Int) (acc : Nat) :
    impl_walker_count_of_RecOk_1_RecOk_2 k most (s, v :: V, false, (), (), ())  = some (if cbad v most then 0 else v.1, (s, V, cbad v most, (), (), ())) := by
  unfold impl_walker_count_of_RecOk_1_RecOk_2 cbad
  simp only [WO.next_cons k s hs hn hk  v V hV acc, Option.bind_some, within_eq, cst]
  generalize (!eqS v.2.1 ⟨#[]⟩ || !(decide (0 ≤ v.1) && decide (v.1 ≤ most))) = b
  cases b <;> rfl

theorem WO.count_nil (most : Int) (hm : 0 ≤ most) (acc : Nat) : impl_walker_count_of_RecOk_1_RecOk_2 k most (s, [], false, (), (), ())  = some (0, (s, [], true, (), (), ())) := by
  unfold impl_walker_count_of_RecOk_1_RecOk_2
  have hz : eqS (⟨#[]⟩ : ByteArray) ⟨#[]⟩ = true := by rw [eqS_iff]; simp
  have hw : (decide ((0 : Int) ≤ 0) && decide ((0 : Int) ≤ most)) = true := by simp; omega
  simp only [WO.next_nil k s hs hn hk  acc, Option.bind_some, zv, within_eq, hz, hw, Bool.not_true, cond_false]

theorem WO.miss_ok (d a nx : Nat) (h : SubC s d a nx) (hd : d ≤ 6) (hnx : nx ≤ s.length) (rep def_ : Int) (V : List TVal) (bad : Bool) (acc : Nat) (hP : WO.P  (20) (acc)) :
    impl_walker_missing_of_RecOk_1_RecOk_2 k (a : Int) rep def_ (s, V, bad, (), (), ())  = some ((nx : Int), (s, V, bad, (), (), ())) := by
  have key : ∀ (m n i : Nat) (acc : Nat), i + m = nx → m < n → WO.P  (m) (acc) → impl_walker_missing_of_RecOk_1_RecOk_2.l3 k n rep def_ (nx : Int) (i : Int) (s, V, bad, (), (), ())  = some ((nx : Int), (s, V, bad, (), (), ())) := by
    intro m
    induction m with
    | zero =>
      intro n i acc hi hn _
      obtain ⟨n, rfl⟩ : ∃ j, n = j + 1 := ⟨n - 1, by omega⟩
      simp only [impl_walker_missing_of_RecOk_1_RecOk_2.l3, decide_eq_false (show ¬ (i : Int) < (nx : Int) by omega), cond_false, miss, List.foldl_nil]
    | succ m ih =>
      intro n i acc hi hn hP
      obtain ⟨n, rfl⟩ : ∃ j, n = j + 1 := ⟨n - 1, by omega⟩
      obtain ⟨c, hc, hc'⟩ := rdL_some (xs := s) (i := (i : Int)) (by omega) (by omega)
      have hc' : s[i]? = some c := by simpa using hc'
      have hi1 : IntKind.wrap .i64 ((i : Int) + 1) = ((i + 1 : Nat) : Int) := by rw [w64 (by omega) (by omega)]; omega
      simp only [impl_walker_missing_of_RecOk_1_RecOk_2.l3, decide_eq_true (show (i : Int) < (nx : Int) by omega), cond_true, hc, Option.bind_some, impl_walker_missing_of_RecOk_1_RecOk_2.c4, hi1, miss, hc', List.foldl_append]
      by_cases h7 : c.2.1 = 7
      · rw [bneF h7, cond_false]
        exact ih n (i + 1) acc (by omega) (by omega) (WO.P_le  acc (m + 1) m hP (by omega))
      · have hno := WO.none_ok k s  i rep def_ acc m hP (by omega) (fun c' h' => by rw [hc'] at h'; cases h'; exact h7)
        rw [bneT h7, cond_true]
        simp only [hno, Option.bind_some, Option.bind_some]
        exact ih n (i + 1) (acc + 1) (by omega) (by omega) trivial
  unfold impl_walker_missing_of_RecOk_1_RecOk_2
  have hlt := SubC_lt _ _ _ h
  have hca := colAfter_sub k s hs hn (by omega) h hd hnx
  simp only [hca, Option.bind_some]
  exact key (nx - a) k a acc (by omega) (by omega) (WO.P_le  acc 20 (nx - a) hP (by omega))

def WO.Good (s : List TCol)  (r : EvR) (o : Option (Int × TWalker)) (nx : Nat) (acc : Nat) : Prop :=
  match r with
  | some (X, W) => o = some ((nx : Int), (s, W, false, (), (), ()))
  | none => ∃ (nx' : Int) (V' : List TVal) (acc' : Nat), o = some (nx', (s, V', true, (), (), ()))

theorem WO.items_ok (S : Int → Int → Int → Int → TWalker → Option (Int × TWalker)) (a nx : Nat) (hca : impl_colAfter k s (a : Int) 1 = some (nx : Int)) (C : List TVal → EvR) (hC : ∀ V, EvG V (C V)) (rep def_ deep : Int) (n : Nat) (hn100 : n ≤ 100) (hdef : IntKind.wrap .i64 (def_ + 1) = def_ + 1)
    (h : ∀ V acc, V.length ≤ 1048576 → WO.P  (20 * V.length + 20) (acc) → WO.Good s  (C V) (S (a : Int) deep (def_ + 1) deep (s, V, false, (), (), ()) ) nx acc) :
    ∀ (m j f : Nat) (V : List TVal) (acc : Nat), n = j + m → 1 ≤ j → m < f → V.length ≤ 1048576 → WO.P  (20 * V.length + 20) (acc) →
      WO.Good s  (evItems C m V) (impl_walker_col_of_RecOk_1_RecOk_2.l14 k S f (a : Int) def_ deep (n : Int) (j : Int) (s, V, false, (), (), ()) ) nx acc := by
  intro m
  induction m with
  | zero =>
    intro j f V acc hj h1 hf hV hP
    obtain ⟨f, rfl⟩ : ∃ q, f = q + 1 := ⟨f - 1, by omega⟩
    simp only [evItems, WO.Good, impl_walker_col_of_RecOk_1_RecOk_2.l14, decide_eq_false (show ¬ (j : Int) < (n : Int) by omega), cond_false, Option.bind_some, hca, List.foldl_nil]
  | succ m ih =>
    intro j f V acc hj h1 hf hV hP
    obtain ⟨f, rfl⟩ : ∃ q, f = q + 1 := ⟨f - 1, by omega⟩
    have hj1 : IntKind.wrap .i64 ((j : Int) + 1) = ((j + 1 : Nat) : Int) := by rw [w64 (by omega) (by omega)]; omega
    have g := h V acc hV hP
    simp only [evItems, evPair, impl_walker_col_of_RecOk_1_RecOk_2.l14, decide_eq_true (show (j : Int) < (n : Int) by omega), cond_true, Bool.not_false, Option.bind_some, hdef, hj1]
    cases hr : C V with
    | none =>
      rw [hr] at g
      obtain ⟨nx', V', acc', e⟩ := g
      simp only [WO.Good]
      simp only [e, Option.bind_some]
      obtain ⟨f, rfl⟩ : ∃ q, f = q + 1 := ⟨f - 1, by omega⟩
      simp only [impl_walker_col_of_RecOk_1_RecOk_2.l14, csf, Bool.not_true, Bool.and_false, Option.bind_some, cond_false, hca]
      exact ⟨_, _, 0, rfl⟩
    | some q =>
      obtain ⟨X, W⟩ := q
      rw [hr] at g
      simp only [WO.Good] at g
      obtain ⟨g1, g2, _⟩ := hC V X W hr
      have i := ih (j + 1) f W (X.foldl WO.stp acc) (by omega) (by omega) (by omega) (by omega) (WO.P_fold k s hs hn hk  X acc (20 * W.length + 20) (WO.P_le  acc _ _ hP (by omega)))
      simp only [g, Option.bind_some]
      cases hr2 : evItems C m W with
      | none => rw [hr2] at i; exact i
      | some q2 =>
        obtain ⟨Y, U⟩ := q2
        rw [hr2] at i
        simp only [WO.Good] at i ⊢
        exact i

theorem WO.part_ok (d D a nx : Nat) (h : SubC s d a nx) (hd : d ≤ 6) (hnx : nx ≤ s.length) (rep def_ deep : Int) (h0 : 0 ≤ def_) (h1 : def_ ≤ 1000) (h2 : 0 ≤ deep) (h3 : deep ≤ 1000)
    (P : ∀ (r q p : Int) (V : List TVal) (acc : Nat), 0 ≤ q → q ≤ def_ + 1 → 0 ≤ p → p ≤ deep + 1 → V.length ≤ 1048576 → WO.P  (20 * V.length + 20) (acc) → WO.Good s  (evC s d a r q p V) ((impl_walker_body_of_RecOk_1_RecOk_2.rec k D).1 (a : Int) r q p (s, V, false, (), (), ()) ) nx acc)
    (V : List TVal) (acc : Nat) (hV : V.length ≤ 1048576) (hP : WO.P  (20 * V.length + 20) (acc)) :
    WO.Good s  (evPart s (evC s d a) nx a rep def_ deep V) ((impl_walker_body_of_RecOk_1_RecOk_2.rec k (D + 1)).2 (a : Int) rep def_ deep (s, V, false, (), (), ()) ) nx acc := by
  have hlt := SubC_lt _ _ _ h
  have hmiss := WO.miss_ok k s hs hn hk  d a nx h hd hnx
  have hca := colAfter_sub k s hs hn (by omega) h hd hnx
  have hG := fun r p q V => evC_G hs d a r p q V
  obtain ⟨d', rfl⟩ : ∃ q, d = q + 1 := ⟨d - 1, by cases d with
    | zero => exact h.elim
    | succ d => omega⟩
  obtain ⟨c, hc, hco, _, _⟩ := h
  have hrep : c.2.2.1 = 0 ∨ c.2.2.1 = 1 ∨ c.2.2.1 = 2 := by
    unfold colOk at hco
    simp only [Bool.and_eq_true, decide_eq_true_eq] at hco
    omega
  have hd1 : IntKind.wrap .i64 (def_ + 1) = def_ + 1 := w64 (by omega) (by omega)
  have hp1 : IntKind.wrap .i64 (deep + 1) = deep + 1 := w64 (by omega) (by omega)
  simp only [impl_walker_body_of_RecOk_1_RecOk_2.rec, impl_walker_col_of_RecOk_1_RecOk_2.b, rdL_nat, hc, Option.bind_some, evPart]
  generalize hgC : evC s (d' + 1) a = C at *
  rcases hrep with hr | hr | hr
  · -- Required
    rw [if_pos hr]
    simp only [beqF (show ¬ c.2.2.1 = 1 by omega), beqF (show ¬ c.2.2.1 = 2 by omega), cond_false, impl_walker_col_of_RecOk_1_RecOk_2.c18]
    have g := P rep def_ deep V acc h0 (by omega) h2 (by omega) hV hP
    cases hr2 : C rep def_ deep V with
    | none =>
      rw [hr2] at g
      obtain ⟨nx', V', acc', e⟩ := g
      simp only [WO.Good, e, Option.bind_some]
      exact ⟨_, _, 0, rfl⟩
    | some q =>
      obtain ⟨X, W⟩ := q
      rw [hr2] at g
      simp only [WO.Good] at g ⊢
      rw [g]; rfl
  · -- Optional
    rw [if_neg (by omega)]
    simp only [beqT hr, cond_true, impl_walker_col_of_RecOk_1_RecOk_2.c18]
    cases V with
    | nil =>
      simp only [WO.count_nil k s hs hn hk  1 (by omega) acc, Option.bind_some, beqT (show (0 : Int) = 0 from rfl), cond_true, hmiss rep def_ [] true acc (WO.P_le  acc _ _ hP (by simp))]
      exact ⟨_, _, 0, rfl⟩
    | cons v V =>
      have hV' : V.length ≤ 1048576 := by simp at hV; omega
      have hl20 : 20 * (v :: V).length + 20 = 20 * V.length + 40 := by simp; omega
      rw [hl20] at hP
      simp only [WO.count_cons k s hs hn hk  v V hV' 1 acc, Option.bind_some]
      rw [if_neg (by omega)]
      cases hb : cbad v 1 with
      | true =>
        simp only [if_true, beqT (show (0 : Int) = 0 from rfl), cond_true, hmiss rep def_ V true acc (WO.P_le  acc _ _ hP (by omega)), Option.bind_some]
        exact ⟨_, _, 0, rfl⟩
      | false =>
        simp only [Bool.false_eq_true, if_false]
        by_cases hv0 : v.1 = 0
        · rw [if_pos hv0, beqT hv0, cond_true]
          simp only [hmiss rep def_ V false acc (WO.P_le  acc _ _ hP (by omega)), Option.bind_some]
          rfl
        · rw [if_neg hv0, beqF hv0, cond_false]
          simp only [hd1]
          have g := P rep (def_ + 1) deep V acc (by omega) (by omega) h2 (by omega) hV' (WO.P_le  acc _ _ hP (by omega))
          cases hr2 : C rep (def_ + 1) deep V with
          | none =>
            rw [hr2] at g
            obtain ⟨nx', V', acc', e⟩ := g
            simp only [WO.Good, e, Option.bind_some]
            exact ⟨_, _, 0, rfl⟩
          | some q =>
            obtain ⟨X, W⟩ := q
            rw [hr2] at g
            simp only [WO.Good] at g ⊢
            rw [g]; rfl
  · -- Repeated
    rw [if_neg (by omega)]
    simp only [beqF (show ¬ c.2.2.1 = 1 by omega), beqT hr, cond_true, cond_false]
    cases V with
    | nil =>
      simp only [WO.count_nil k s hs hn hk  20 (by omega) acc, Option.bind_some, beqT (show (0 : Int) = 0 from rfl), cond_true, hmiss rep def_ [] true acc (WO.P_le  acc _ _ hP (by simp))]
      exact ⟨_, _, 0, rfl⟩
    | cons v V =>
      have hV' : V.length ≤ 1048576 := by simp at hV; omega
      have hl20 : 20 * (v :: V).length + 20 = 20 * V.length + 40 := by simp; omega
      rw [hl20] at hP
      simp only [WO.count_cons k s hs hn hk  v V hV' 20 acc, Option.bind_some]
      rw [if_pos hr]
      cases hb : cbad v 20 with
      | true =>
        simp only [if_true, beqT (show (0 : Int) = 0 from rfl), cond_true, hmiss rep def_ V true acc (WO.P_le  acc _ _ hP (by omega)), Option.bind_some]
        exact ⟨_, _, 0, rfl⟩
      | false =>
        simp only [Bool.false_eq_true, if_false]
        have hcb := cbad_false hb
        by_cases hv0 : v.1 = 0
        · rw [if_pos hv0, beqT hv0, cond_true]
          simp only [hmiss rep def_ V false acc (WO.P_le  acc _ _ hP (by omega)), Option.bind_some]
          rfl
        · rw [if_neg hv0, beqF hv0, cond_false]
          simp only [hd1, hp1]
          obtain ⟨n, hn'⟩ : ∃ n : Nat, v.1 = (n : Int) := ⟨v.1.toNat, by omega⟩
          rw [hn', Int.toNat_natCast]
          have g := P rep (def_ + 1) (deep + 1) V acc (by omega) (by omega) (by omega) (by omega) hV' (WO.P_le  acc _ _ hP (by omega))
          simp only [evPair]
          cases hr2 : C rep (def_ + 1) (deep + 1) V with
          | none =>
            rw [hr2] at g
            obtain ⟨nx', V', acc', e⟩ := g
            simp only [WO.Good, e, Option.bind_some]
            obtain ⟨k', hk'⟩ : ∃ q, k = q + 1 := ⟨k - 1, by omega⟩
            have hbad : impl_walker_col_of_RecOk_1_RecOk_2.l14 k (impl_walker_body_of_RecOk_1_RecOk_2.rec k D).1 k (a : Int) def_ (deep + 1) (n : Int) 1 (s, V', true, (), (), ())  = some ((nx : Int), (s, V', true, (), (), ())) := by
              conv => lhs; arg 3; rw [hk']
              simp only [impl_walker_col_of_RecOk_1_RecOk_2.l14, csf, Bool.not_true, Bool.and_false, Option.bind_some, cond_false, hca]
            rw [hbad]
            exact ⟨_, _, 0, rfl⟩
          | some q =>
            obtain ⟨X, W⟩ := q
            rw [hr2] at g
            simp only [WO.Good] at g
            obtain ⟨g1, g2, _⟩ := hG rep (def_ + 1) (deep + 1) V X W hr2
            have i := WO.items_ok k s hs hn hk  (impl_walker_body_of_RecOk_1_RecOk_2.rec k D).1 a nx hca (C (deep + 1) (def_ + 1) (deep + 1)) (hG _ _ _) rep def_ (deep + 1) n (by omega) hd1
              (fun V acc hV hP => P (deep + 1) (def_ + 1) (deep + 1) V acc (by omega) (by omega) (by omega) (by omega) hV hP) (n - 1) 1 k W (X.foldl WO.stp acc) (by omega) (by omega) (by omega) (by omega)
              (WO.P_fold k s hs hn hk  X acc (20 * W.length + 20) (WO.P_le  acc _ _ hP (by omega)))
            simp only [g, Option.bind_some]
            cases hr3 : evItems (C (deep + 1) (def_ + 1) (deep + 1)) (n - 1) W with
            | none => rw [hr3] at i; exact i
            | some q2 =>
              obtain ⟨Y, U⟩ := q2
              rw [hr3] at i
              simp only [WO.Good] at i ⊢
              try rw [List.foldl_append]
              exact i

theorem WO.parts_ok (d D : Nat) (hd : d ≤ 6) (many : Int) (hm : many ≤ 1000000) (nx : Nat) (hnx : nx ≤ s.length) (rep def_ deep : Int)
    (Q : ∀ pl mid, SubC s d pl mid → mid ≤ s.length → ∀ (V : List TVal) (acc : Nat), V.length ≤ 1048576 → WO.P  (20 * V.length + 20) (acc) →
      WO.Good s  (evPart s (evC s d pl) mid pl rep def_ deep V) ((impl_walker_body_of_RecOk_1_RecOk_2.rec k D).2 (pl : Int) rep def_ deep (s, V, false, (), (), ()) ) mid acc) :
    ∀ (m pl : Nat) (i : Int) (names : List ByteArray) (f : Nat) (V : List TVal) (acc : Nat), PartsC (SubC s d) s m pl names nx → many - i = m → 0 ≤ i → m < f → V.length ≤ 1048576 → WO.P  (20 * V.length + 20) (acc) →
      WO.Good s  (evParts (fun a V => evPart s (evC s d a) (endC s d a) a rep def_ deep V) (endC s d) m pl V) (impl_walker_body_of_RecOk_1_RecOk_2.l10 k (impl_walker_body_of_RecOk_1_RecOk_2.rec k D).2 f rep def_ deep (pl : Int) many i (s, V, false, (), (), ()) ) nx acc := by
  intro m
  induction m with
  | zero =>
    intro pl i names f V acc hp hi h0 hf hV hP
    have hp : pl = nx := hp
    subst hp
    obtain ⟨f, rfl⟩ : ∃ q, f = q + 1 := ⟨f - 1, by omega⟩
    simp only [evParts, WO.Good, impl_walker_body_of_RecOk_1_RecOk_2.l10, decide_eq_false (show ¬ (i < many) by omega), cond_false, impl_walker_body_of_RecOk_1_RecOk_2.c14, List.foldl_nil]
  | succ m ih =>
    intro pl i names f V acc hp hi h0 hf hV hP
    obtain ⟨q, mid, q1, q2, q3, q4⟩ := hp
    have hmn := PartsC_nx (SubC_lt d) _ _ _ _ q4
    obtain ⟨f, rfl⟩ : ∃ q, f = q + 2 := ⟨f - 2, by omega⟩
    have hi1 : IntKind.wrap .i64 (i + 1) = i + 1 := w64 (by omega) (by omega)
    have hend : endC s d pl = mid := endC_eq d q3 d (Nat.le_refl _)
    have g := Q pl mid q3 (by omega) V acc hV hP
    have hG : EvG V (evPart s (evC s d pl) mid pl rep def_ deep V) := EvG.part hs (fun r p q V => evC_G hs d pl r p q V) mid pl rep def_ deep V
    rw [show f + 2 = (f + 1) + 1 by rfl]
    simp only [evParts, evPair, hend, impl_walker_body_of_RecOk_1_RecOk_2.l10, decide_eq_true (show i < many by omega), cond_true, cond_false, hi1]
    cases hr : evPart s (evC s d pl) mid pl rep def_ deep V with
    | none =>
      rw [hr] at g
      obtain ⟨nx', V', acc', e⟩ := g
      simp only [WO.Good, e, Option.bind_some, impl_walker_body_of_RecOk_1_RecOk_2.c14, cond_true]
      by_cases h2 : i + 1 < many
      · rw [decide_eq_true h2, cond_true]; exact ⟨_, _, 0, rfl⟩
      · rw [decide_eq_false h2, cond_false]; exact ⟨_, _, 0, rfl⟩
    | some q =>
      obtain ⟨X, W⟩ := q
      rw [hr] at g
      simp only [WO.Good] at g
      obtain ⟨g1, g2, _⟩ := hG X W hr
      have i2 := ih mid (i + 1) _ (f + 1) W (X.foldl WO.stp acc) q4 (by omega) (by omega) (by omega) (by omega) (WO.P_fold k s hs hn hk  X acc (20 * W.length + 20) (WO.P_le  acc _ _ hP (by omega)))
      simp only [g, Option.bind_some]
      cases hr2 : evParts (fun a V => evPart s (evC s d a) (endC s d a) a rep def_ deep V) (endC s d) m mid W with
      | none => rw [hr2] at i2; exact i2
      | some q2 =>
        obtain ⟨Y, U⟩ := q2
        rw [hr2] at i2
        simp only [WO.Good] at i2 ⊢
        try rw [List.foldl_append]
        exact i2

theorem WO.body_ok : ∀ (d D a nx : Nat), SubC s d a nx → nx ≤ s.length → d ≤ 6 → 2 * d ≤ D → ∀ (rep def_ deep : Int) (V : List TVal) (acc : Nat), 0 ≤ def_ → def_ + d ≤ 1001 → 0 ≤ deep → deep + d ≤ 1001 → V.length ≤ 1048576 → WO.P  (20 * V.length + 20) (acc) →
    WO.Good s  (evC s d a rep def_ deep V) ((impl_walker_body_of_RecOk_1_RecOk_2.rec k D).1 (a : Int) rep def_ deep (s, V, false, (), (), ()) ) nx acc := by
  intro d
  induction d with
  | zero => intro D a nx h; exact h.elim
  | succ d ih =>
    intro D a nx h hnx hd hD rep def_ deep V acc h0 h1 h2 h3 hV hP
    obtain ⟨D, rfl⟩ : ∃ q, D = q + 2 := ⟨D - 2, by omega⟩
    have hlt := SubC_lt _ _ _ h
    obtain ⟨c, hc, hco, _, hp⟩ := h
    have hcm := (hn c (List.mem_of_getElem? hc)).2.2
    have ha1 : IntKind.wrap .i64 ((a : Int) + 1) = ((a + 1 : Nat) : Int) := by rw [w64 (by omega) (by omega)]; omega
    have hmp := PartsC_le (SubC_lt d) _ _ _ _ hp
    by_cases h7 : c.2.1 = 7
    · have hmn : 0 ≤ c.2.2.2.1 := by
        unfold colOk at hco
        rw [h7, tyOk_7] at hco
        simp at hco
        omega
      have key := WO.parts_ok k s hs hn hk  d (D + 1) (by omega) c.2.2.2.1 (by omega) nx hnx rep def_ deep
        (fun pl mid hs1 hm1 V acc hV hP => WO.part_ok k s hs hn hk  d D pl mid hs1 (by omega) hm1 rep def_ deep h0 (by omega) h2 (by omega)
          (fun r q p V acc q0 q1 q2 q3 hV hP => ih D pl mid hs1 hm1 (by omega) (by omega) r q p V acc q0 (by omega) q2 (by omega) hV hP) V acc hV hP) c.2.2.2.1.toNat (a + 1) 0 [] k V acc hp (by omega) (by omega) (by omega) hV hP
      have e : (impl_walker_body_of_RecOk_1_RecOk_2.rec k (D + 2)).1 (a : Int) rep def_ deep (s, V, false, (), (), ())  = impl_walker_body_of_RecOk_1_RecOk_2.l10 k (impl_walker_body_of_RecOk_1_RecOk_2.rec k (D + 1)).2 k rep def_ deep ((a + 1 : Nat) : Int) c.2.2.2.1 0 (s, V, false, (), (), ())  := by
        rw [show D + 2 = (D + 1) + 1 from rfl]
        simp only [impl_walker_body_of_RecOk_1_RecOk_2.rec, impl_walker_body_of_RecOk_1_RecOk_2.b, rdL_nat, hc, Option.bind_some, bneF h7, cond_false, ha1]
      rw [e]
      simp only [evC, hc]
      rw [if_pos h7]
      exact key
    · have hm0 : c.2.2.2.1.toNat = 0 := by
        unfold colOk at hco
        rw [beqF h7] at hco
        simp at hco
        omega
      rw [hm0] at hp
      have hp : a + 1 = nx := hp
      subst hp
      rw [show D + 2 = (D + 1) + 1 from rfl]
      simp only [evC, impl_walker_body_of_RecOk_1_RecOk_2.rec, impl_walker_body_of_RecOk_1_RecOk_2.b, rdL_nat, hc, Option.bind_some, bneT h7, cond_true]
      rw [if_neg h7]
      cases V with
      | nil =>
        simp only [WO.next_nil k s hs hn hk  acc, Option.bind_some, impl_walker_body_of_RecOk_1_RecOk_2.d3, Bool.not_true, cond_false, impl_walker_body_of_RecOk_1_RecOk_2.c5, impl_walker_body_of_RecOk_1_RecOk_2.c7]
        exact ⟨_, _, 0, rfl⟩
      | cons v V =>
        have hV' : V.length ≤ 1048576 := by simp at hV; omega
        have hle := WO.leaf_ok k s  a rep def_ v acc (20 * V.length + 39) (WO.P_le  acc _ _ hP (by simp; omega)) (by omega) (fun c' h' => by rw [hc] at h'; cases h'; exact h7)
        simp only [WO.next_cons k s hs hn hk  v V hV' acc, Option.bind_some, impl_walker_body_of_RecOk_1_RecOk_2.d3, Bool.not_false, cond_true, rdL_nat, hc, valOk_eq]
        cases hvo : vok c.2.1 v with
        | false =>
          simp only [Bool.not_false, cond_true, impl_walker_body_of_RecOk_1_RecOk_2.c5, Bool.not_true, cond_false, impl_walker_body_of_RecOk_1_RecOk_2.c7, Bool.false_eq_true, if_false]
          exact ⟨_, _, 0, rfl⟩
        | true =>
          simp only [Bool.not_true, cond_false, impl_walker_body_of_RecOk_1_RecOk_2.c5, Bool.not_false, cond_true, hle, Option.bind_some, impl_walker_body_of_RecOk_1_RecOk_2.c7, ha1, if_true]
          rfl

theorem WO.walk_ok (hS : SubC s 6 0 s.length) (c0 : TCol) (hc0 : s[0]? = some c0) (h7 : c0.2.1 = 7) (hm0 : 0 < c0.2.2.2.1) (V : List TVal) (acc : Nat) (hP : WO.P  (6020) (acc)) :
    (∀ X, V.length ≤ 300 → evC s 6 0 0 0 0 V = some (X, []) → impl_walk_of_RecOk_1_RecOk_2 k s (V, ()) () () = some (true)) ∧
    ((V.length ≤ 300 → ∀ X, evC s 6 0 0 0 0 V ≠ some (X, [])) → ∃ acc' : Nat, impl_walk_of_RecOk_1_RecOk_2 k s (V, ()) () () = some (false)) := by
  obtain ⟨k', hk'⟩ : ∃ q, k = q + 2 := ⟨k - 2, by omega⟩
  have hb : V.length ≤ 300 → WO.Good s  (evC s 6 0 0 0 0 V) (impl_walker_body_of_RecOk_1_RecOk_2 k 0 0 0 0 (s, V, false, (), (), ()) ) s.length acc := fun h300 =>
    WO.body_ok k s hs hn hk  6 k 0 s.length hS (Nat.le_refl _) (by omega) (by omega) 0 0 0 V acc (by omega) (by omega) (by omega) (by omega) (by omega) (WO.P_le  acc _ _ hP (by omega))
  refine ⟨fun X h300 he => ?_, fun hno => ?_⟩
  · have g := hb h300
    rw [he] at g
    have g : impl_walker_body_of_RecOk_1_RecOk_2 k 0 0 0 0 (s, V, false, (), (), ())  = some ((s.length : Int), (s, [], false, (), (), ())) := g
    unfold impl_walk_of_RecOk_1_RecOk_2
    simp only [decide_eq_false (show ¬ (V.length : Int) > 300 by omega), g, Option.bind_some, Bool.not_false, cond_true, List.length_nil]
    rfl
  · by_cases h300 : V.length ≤ 300
    · have g := hb h300
      unfold impl_walk_of_RecOk_1_RecOk_2
      simp only [decide_eq_false (show ¬ (V.length : Int) > 300 by omega)]
      cases he : evC s 6 0 0 0 0 V with
      | none =>
        rw [he] at g
        obtain ⟨nx', V', acc', g⟩ := g
        simp only [g, Option.bind_some, Bool.not_true, cond_false]
        first | exact ⟨0, rfl⟩ | exact ⟨0, trivial⟩
      | some q =>
        obtain ⟨X, W⟩ := q
        rw [he] at g
        have g : impl_walker_body_of_RecOk_1_RecOk_2 k 0 0 0 0 (s, V, false, (), (), ())  = some ((s.length : Int), (s, W, false, (), (), ())) := g
        have hW : ((W.length : Int) == 0) = false := beqF (fun h0 => hno h300 X (by
          have : W = [] := List.eq_nil_of_length_eq_zero (by omega)
          rw [he, this]))
        simp only [g, Option.bind_some, Bool.not_false, cond_true, hW]
        first | exact ⟨0, rfl⟩ | exact ⟨0, trivial⟩
    · have hr0 : rdL s 0 = some c0 := hc0
      have e : impl_walker_body_of_RecOk_1_RecOk_2 k 0 0 0 0 (s, V, true, (), (), ())  = some (1, (s, V, true, (), (), ())) := by
        show impl_walker_body_of_RecOk_1_RecOk_2.d k k 0 0 0 0 (s, V, true, (), (), ())  = _
        unfold impl_walker_body_of_RecOk_1_RecOk_2.d
        conv => lhs; arg 1; arg 2; rw [hk']
        conv => lhs; rw [show impl_walker_body_of_RecOk_1_RecOk_2.rec k (k' + 2) = (_, _) from rfl]
        obtain ⟨k2, hk2⟩ : ∃ q, k = q + 1 := ⟨k - 1, by omega⟩
        simp only [impl_walker_body_of_RecOk_1_RecOk_2.b, hr0, Option.bind_some, bneF h7, cond_false]
        conv => lhs; arg 3; rw [hk2]
        simp only [impl_walker_body_of_RecOk_1_RecOk_2.l10, decide_eq_true hm0, cond_true, impl_walker_body_of_RecOk_1_RecOk_2.c14]
        rfl
      unfold impl_walk_of_RecOk_1_RecOk_2
      simp only [decide_eq_true (show (V.length : Int) > 300 by omega), e, Option.bind_some, Bool.not_true, cond_false]
      first | exact ⟨0, rfl⟩ | exact ⟨0, trivial⟩
end

end Go.Law
end

section
/- Whether a record is one: both say so where it can be gone through. -/
set_option linter.unusedVariables false
set_option linter.unusedSimpArgs false
set_option linter.unusedSectionVars false
namespace Go.Law
open Go.Am Go.Fn

def recEv (s : List TCol) (V : List TVal) : Option (List Ev) :=
  if V.length ≤ 300 then match evC s 6 0 0 0 0 V with
    | some (X, []) => some X
    | _ => none
  else none

theorem recEv_some {s : List TCol} {V : List TVal} {X : List Ev} (h : recEv s V = some X) : V.length ≤ 300 ∧ evC s 6 0 0 0 0 V = some (X, []) := by
  unfold recEv at h
  split at h
  · rename_i h1
    split at h
    · rename_i Y he
      cases h
      exact ⟨h1, he⟩
    · cases h
  · cases h
theorem recEv_none {s : List TCol} {V : List TVal} (h : recEv s V = none) : V.length ≤ 300 → ∀ X, evC s 6 0 0 0 0 V ≠ some (X, []) := by
  intro h1 X he
  unfold recEv at h
  rw [if_pos h1, he] at h
  cases h
theorem recEv_len {s : List TCol} (hs : s.length ≤ 20) {V : List TVal} {X : List Ev} (h : recEv s V = some X) : X.length ≤ 20 * V.length := by
  obtain ⟨h1, h2⟩ := recEv_some h
  have := (evC_G hs 6 0 0 0 0 V _ _ h2).2.1
  simp only [List.length_nil] at this
  omega

theorem schema_top {s : List TCol} (hS : IsSchema s) : ∃ c0, s[0]? = some c0 ∧ c0.2.1 = 7 ∧ 0 < c0.2.2.2.1 := by
  obtain ⟨_, _, ⟨c, e1, e2, _, _⟩, c0, hc0, _, _, h7⟩ := hS
  rw [hc0] at e1
  obtain rfl := Option.some.inj e1
  refine ⟨c0, hc0, h7, ?_⟩
  unfold colOk at e2
  rw [h7, tyOk_7] at e2
  simp at e2
  exact e2.1

theorem srecOk_eq (k : Nat) (s : List TCol) (hs : s.length ≤ 20) (hn : ∀ c, c ∈ s → c.1.size < k ∧ c.1.size < 1000000000 ∧ I64 c.2.2.2.1) (hk : 2000000 ≤ k) (hS : SubC s 6 0 s.length)
    (V : List TVal) (hV : V.length ≤ 300) : (spec_l13Content k s 0 V 0).bind (fun r3 => some (r3 == (V.length : Int))) = some (recEv s V).isSome := by
  have := sbody_ok k s hs hn hk V (by omega) 6 k 0 s.length hS (Nat.le_refl _) (by omega) (by omega) 0 (Nat.zero_le _)
  have this : spec_l13Content k s 0 V 0 = some (posOf V (rC s 6 0 (V.drop 0))) := this
  rw [this, List.drop_zero]
  simp only [Option.bind_some]
  unfold recEv
  rw [if_pos hV]
  cases hr : rC s 6 0 V with
  | none =>
    rw [rC_none hr 0 0 0]
    simp only [posOf]
    rw [beqF (show ¬ ((-1 : Int) = (V.length : Int)) by omega)]; rfl
  | some W =>
    obtain ⟨X, hX⟩ := rC_some hr 0 0 0
    rw [hX]
    simp only [posOf]
    have hle := (evC_G hs 6 0 0 0 0 V _ _ hX).1
    cases W with
    | nil => rw [beqT (by simp)]; rfl
    | cons w W => 
      rw [beqF (by simp only [List.length_cons] at hle ⊢; omega)]; rfl

theorem recOk_eq (k : Nat) (hk : 2000000 ≤ k) (s : List TCol) (hn : ∀ c, c ∈ s → c.1.size < k ∧ c.1.size < 1000000000 ∧ I64 c.2.2.2.1) (V : List TVal) :
    ∃ b, spec_SchemaOk k s = some b ∧ impl_SchemaOk k s = some b ∧ (b = true → IsSchema s) ∧ spec_RecOk k s (V, ()) = some (b && (recEv s V).isSome) ∧ impl_RecOk k s (V, ()) = some (b && (recEv s V).isSome) := by
  obtain ⟨b, h1, h2, h3⟩ := schemaOk_eq k (by omega) s hn
  refine ⟨b, h1, h2, fun h => (h3 h).1, ?_⟩
  unfold spec_RecOk spec_RecOk.d1 impl_RecOk
  rw [h1, h2]
  simp only [Option.bind_some]
  cases b with
  | false => exact ⟨rfl, rfl⟩
  | true =>
    obtain ⟨hS, _⟩ := h3 rfl
    obtain ⟨c0, hc0, h7, hm0⟩ := schema_top hS
    have hw := WO.walk_ok k s hS.2.1 hn hk hS.2.2.1 c0 hc0 h7 hm0 V 0 (by trivial)
    simp only [cond_true, cond_false, Bool.true_and]
    constructor
    · by_cases h300 : V.length ≤ 300
      · rw [decide_eq_true (show (V.length : Int) ≤ 300 by omega), cond_true]
        exact srecOk_eq k s hS.2.1 hn hk hS.2.2.1 V h300
      · rw [decide_eq_false (show ¬ (V.length : Int) ≤ 300 by omega), cond_false]
        unfold recEv
        rw [if_neg h300]; rfl
    · cases hr : recEv s V with
      | some X =>
        obtain ⟨r1, r2⟩ := recEv_some hr
        rw [hw.1 X r1 r2]; rfl
      | none =>
        obtain ⟨_, r1⟩ := hw.2 (recEv_none hr)
        rw [r1]; rfl

/-! ### what is come to is a leaf -/
def evLeaf (s : List TCol) (X : List Ev) : Prop := ∀ e, e ∈ X → ∃ c, s[e.at_]? = some c ∧ c.2.1 ≠ 7
theorem evLeaf_append {s : List TCol} {X Y : List Ev} (h1 : evLeaf s X) (h2 : evLeaf s Y) : evLeaf s (X ++ Y) := fun e he => (List.mem_append.1 he).elim (h1 e) (h2 e)
def EvL (s : List TCol) (r : EvR) : Prop := ∀ X W, r = some (X, W) → evLeaf s X
theorem EvL.pair {s : List TCol} {a : EvR} {f : List TVal → EvR} (h : EvL s a) (g : ∀ V, EvL s (f V)) : EvL s (evPair a f) := by
  intro X W he
  obtain ⟨x, y, V, h1, h2, rfl⟩ := evPair_some he
  exact evLeaf_append (h _ _ h1) (g _ _ _ h2)
theorem EvL.nil (s : List TCol) (V : List TVal) : EvL s (some ([], V)) := by
  intro X W h
  simp only [Option.some.injEq, Prod.mk.injEq] at h
  obtain ⟨rfl, rfl⟩ := h
  exact fun e he => by cases he
theorem EvL.parts {s : List TCol} {F : Nat → List TVal → EvR} {e : Nat → Nat} (h : ∀ a V, EvL s (F a V)) : ∀ (m a : Nat) (V : List TVal), EvL s (evParts F e m a V)
  | 0, _, V => EvL.nil s V
  | m + 1, a, V => (h a V).pair (EvL.parts h m (e a))
theorem EvL.items {s : List TCol} {F : List TVal → EvR} (h : ∀ V, EvL s (F V)) : ∀ (m : Nat) (V : List TVal), EvL s (evItems F m V)
  | 0, V => EvL.nil s V
  | m + 1, V => (h V).pair (EvL.items h m)
theorem miss_leaf (s : List TCol) (rep def_ : Int) : ∀ (n i : Nat), evLeaf s (miss s rep def_ n i)
  | 0, i => fun e he => by cases he
  | n + 1, i => by
    simp only [miss]
    refine evLeaf_append ?_ (miss_leaf s rep def_ n (i + 1))
    cases h : s[i]? with
    | none => exact fun e he => by cases he
    | some c =>
      simp only
      split
      · exact fun e he => by cases he
      · rename_i h7
        intro e he
        rw [List.mem_singleton] at he
        subst he
        exact ⟨c, h, h7⟩
theorem EvL.part {s : List TCol} {C : Int → Int → Int → List TVal → EvR} (h : ∀ r d p V, EvL s (C r d p V)) (e a : Nat) (rep def_ deep : Int) (V : List TVal) : EvL s (evPart s C e a rep def_ deep V) := by
  intro X W hr
  unfold evPart at hr
  have ms : ∀ U, some (miss s rep def_ (e - a) a, U) = some (X, W) → evLeaf s X := by
    intro U hr
    simp only [Option.some.injEq, Prod.mk.injEq] at hr
    obtain ⟨rfl, rfl⟩ := hr
    exact miss_leaf _ _ _ _ _
  split at hr
  · cases hr
  · split at hr
    · exact h _ _ _ _ _ _ hr
    · split at hr
      · cases hr
      · split at hr
        · split at hr
          · cases hr
          · split at hr
            · exact ms _ hr
            · exact (EvL.pair (h _ _ _ _) (fun V => EvL.items (h _ _ _) _ V)) _ _ hr
        · split at hr
          · cases hr
          · split at hr
            · exact ms _ hr
            · exact h _ _ _ _ _ _ hr
theorem evC_L {s : List TCol} : ∀ (d a : Nat) (rep def_ deep : Int) (V : List TVal), EvL s (evC s d a rep def_ deep V)
  | 0, _, _, _, _, _ => fun X W h => by cases h
  | d + 1, a, rep, def_, deep, V => by
    intro X W h
    simp only [evC] at h
    split at h
    · cases h
    · rename_i c hc
      split at h
      · exact EvL.parts (fun a V => EvL.part (fun r d p V => evC_L _ a r d p V) _ a rep def_ deep V) _ _ _ _ _ h
      · rename_i h7
        split at h
        · cases h
        · split at h
          · simp only [Option.some.injEq, Prod.mk.injEq] at h
            obtain ⟨rfl, rfl⟩ := h
            intro e he
            rw [List.mem_singleton] at he
            subst he
            exact ⟨c, hc, h7⟩
          · cases h
theorem recEv_leaf {s : List TCol} {V : List TVal} {X : List Ev} (h : recEv s V = some X) : evLeaf s X := evC_L 6 0 0 0 0 V _ _ (recEv_some h).2

end Go.Law
end

section
/- Levels: where a col ends, and how deep a leaf may be. -/
set_option linter.unusedVariables false
set_option linter.unusedSimpArgs false
set_option linter.unusedSectionVars false
namespace Go.Law
open Go.Am Go.Fn

theorem sub_at {s : List TCol} : ∀ (d : Nat) (a nx : Nat), SubC s d a nx → ∀ t, a ≤ t → t < nx → ∃ nx', SubC s d t nx' ∧ nx' ≤ nx
  | 0, _, _, h, _, _, _ => h.elim
  | d + 1, a, nx, h, t, h1, h2 => by
    rcases Nat.eq_or_lt_of_le h1 with rfl | h1
    · exact ⟨nx, h, Nat.le_refl _⟩
    · obtain ⟨c, _, _, _, hp⟩ := h
      have key : ∀ (m pl : Nat) (names : List ByteArray), PartsC (SubC s d) s m pl names nx → pl ≤ t → ∃ nx', SubC s d t nx' ∧ nx' ≤ nx := by
        intro m
        induction m with
        | zero =>
          intro pl names hp ht
          have hp : pl = nx := hp
          omega
        | succ m ih =>
          intro pl names hp ht
          obtain ⟨q, mid, q1, q2, q3, q4⟩ := hp
          have hmn := PartsC_nx (SubC_lt d) _ _ _ _ q4
          rcases Nat.lt_or_ge t mid with h | h
          · obtain ⟨nx', e1, e2⟩ := sub_at d pl mid q3 t ht h
            exact ⟨nx', e1, by omega⟩
          · exact ih mid _ q4 h
      obtain ⟨nx', e1, e2⟩ := key _ _ _ hp (by omega)
      exact ⟨nx', SubC_up d e1, e2⟩
where
  SubC_up : ∀ {s : List TCol} (d : Nat) {a b : Nat}, SubC s d a b → SubC s (d + 1) a b
  | _, 0, _, _, h => h.elim
  | s, d + 1, a, b, ⟨c, h1, h2, h3, h4⟩ => ⟨c, h1, h2, h3, PartsC_mono (fun x y h => SubC_up d h) _ _ _ _ h4⟩
  PartsC_mono {S T : Nat → Nat → Prop} {s : List TCol} (h : ∀ a b, S a b → T a b) : ∀ (m pos : Nat) (names : List ByteArray) (nx : Nat), PartsC S s m pos names nx → PartsC T s m pos names nx
  | 0, _, _, _, hp => hp
  | m + 1, _, _, _, ⟨q, mid, q1, q2, q3, q4⟩ => ⟨q, mid, q1, q2, h _ _ q3, PartsC_mono h m _ _ _ q4⟩

def colEnd (s : List TCol) (t : Nat) : Nat := endC s 6 t
theorem colEnd_eq {s : List TCol} {d a b : Nat} (hd : d ≤ 6) (h : SubC s d a b) : colEnd s a = b := endC_eq d h 6 hd
theorem colEnd_in {s : List TCol} {d a nx : Nat} (hd : d ≤ 6) (h : SubC s d a nx) {t : Nat} (h1 : a ≤ t) (h2 : t < nx) : t < colEnd s t ∧ colEnd s t ≤ nx := by
  obtain ⟨nx', e1, e2⟩ := sub_at d a nx h t h1 h2
  rw [colEnd_eq hd e1]
  exact ⟨SubC_lt _ _ _ e1, e2⟩

def dlv (s : List TCol) (f : TCol → Bool) (L : Nat) : Nat → Nat → Nat
  | 0, _ => 0
  | n + 1, t => (match s[t]? with
    | none => 0
    | some c => if L < colEnd s t ∧ f c = true then 1 else 0) + dlv s f L n (t + 1)
theorem dlv_skip (s : List TCol) (f : TCol → Bool) (L : Nat) : ∀ (m n t : Nat), (∀ u, t ≤ u → u < t + m → colEnd s u ≤ L) → dlv s f L (m + n) t = dlv s f L n (t + m)
  | 0, n, t, _ => by simp
  | m + 1, n, t, h => by
    have h1 := h t (Nat.le_refl _) (by omega)
    have := dlv_skip s f L m n (t + 1) (fun u h2 h3 => h u (by omega) (by omega))
    rw [show m + 1 + n = (m + n) + 1 by omega]
    simp only [dlv]
    rw [this, show t + 1 + m = t + (m + 1) by omega]
    cases s[t]? with
    | none => simp
    | some c => simp only; rw [if_neg (by omega), Nat.zero_add]

def lvD (s : List TCol) (f : TCol → Bool) (a L : Nat) : Nat := dlv s f L (L + 1 - a) a
def isOpt (c : TCol) : Bool := c.2.2.1 != 0
def isRep (c : TCol) : Bool := c.2.2.1 == 2

theorem lvD_self (s : List TCol) (f : TCol → Bool) (a : Nat) : lvD s f (a + 1) a = 0 := by
  unfold lvD
  rw [show a + 1 - (a + 1) = 0 by omega]; rfl
theorem lvD_cons {s : List TCol} {f : TCol → Bool} {a L : Nat} {c : TCol} (hc : s[a]? = some c) (h1 : a ≤ L) (h2 : L < colEnd s a) : lvD s f a L = (if f c = true then 1 else 0) + lvD s f (a + 1) L := by
  unfold lvD
  rw [show L + 1 - a = (L + 1 - (a + 1)) + 1 by omega]
  simp only [dlv, hc]
  by_cases h : f c = true
  · rw [if_pos ⟨h2, h⟩, if_pos h]
  · rw [if_neg (fun q => h q.2), if_neg h]
theorem lvD_skip {s : List TCol} {f : TCol → Bool} {a b L : Nat} (hab : a ≤ b) (h1 : b ≤ L) (h : ∀ u, a ≤ u → u < b → colEnd s u ≤ L) : lvD s f a L = lvD s f b L := by
  unfold lvD
  rw [show L + 1 - a = (b - a) + (L + 1 - b) by omega, dlv_skip s f L (b - a) _ a (fun u h2 h3 => h u h2 (by omega)), show a + (b - a) = b by omega]

structure EvOk (s : List TCol) (a nx : Nat) (def_ : Int) (e : Ev) : Prop where
  lo : a ≤ e.at_
  hi : e.at_ < nx
  ge : def_ ≤ e.def_
  yes : e.leaf = true → e.def_ = def_ + (lvD s isOpt (a + 1) e.at_ : Nat)
  no : e.leaf = false → e.def_ < def_ + (lvD s isOpt (a + 1) e.at_ : Nat)

def EvOks (s : List TCol) (a nx : Nat) (def_ : Int) (r : EvR) : Prop := ∀ X W, r = some (X, W) → ∀ e, e ∈ X → EvOk s a nx def_ e

theorem miss_mem {s : List TCol} {rep def_ : Int} : ∀ (n i : Nat) (e : Ev), e ∈ miss s rep def_ n i → i ≤ e.at_ ∧ e.at_ < i + n ∧ e.leaf = false ∧ e.rep = rep ∧ e.def_ = def_ ∧ e.v = zv
  | 0, i, e, h => by cases h
  | n + 1, i, e, h => by
    simp only [miss, List.mem_append] at h
    rcases h with h | h
    · cases hc : s[i]? with
      | none => rw [hc] at h; cases h
      | some c =>
        rw [hc] at h
        simp only at h
        split at h
        · cases h
        · rw [List.mem_singleton] at h
          subst h
          exact ⟨Nat.le_refl _, by simp, rfl, rfl, rfl, rfl⟩
    · obtain ⟨h1, h2, h3⟩ := miss_mem n (i + 1) e h
      exact ⟨by omega, by omega, h3⟩

theorem evItems_mem {F : List TVal → EvR} {P : Ev → Prop} (h : ∀ V X W, F V = some (X, W) → ∀ e, e ∈ X → P e) : ∀ (m : Nat) (V : List TVal) (X : List Ev) (W : List TVal), evItems F m V = some (X, W) → ∀ e, e ∈ X → P e
  | 0, V, X, W, he, e, hm => by
    simp only [evItems, Option.some.injEq, Prod.mk.injEq] at he
    obtain ⟨rfl, rfl⟩ := he
    cases hm
  | m + 1, V, X, W, he, e, hm => by
    simp only [evItems] at he
    obtain ⟨x, y, U, h1, h2, rfl⟩ := evPair_some he
    rcases List.mem_append.1 hm with hm | hm
    · exact h _ _ _ h1 e hm
    · exact evItems_mem h m U y W h2 e hm

theorem evPart_ok {s : List TCol} {d pl mid : Nat} (hd : d ≤ 6) (hs : SubC s d pl mid) {C : Int → Int → Int → List TVal → EvR} (hC : ∀ rep def_ deep V, EvOks s pl mid def_ (C rep def_ deep V)) (rep def_ deep : Int) (V : List TVal) (X : List Ev) (W : List TVal)
    (he : evPart s C mid pl rep def_ deep V = some (X, W)) (e : Ev) (hm : e ∈ X) : pl ≤ e.at_ ∧ e.at_ < mid ∧ def_ ≤ e.def_ ∧ (e.leaf = true → e.def_ = def_ + (lvD s isOpt pl e.at_ : Nat)) ∧ (e.leaf = false → e.def_ < def_ + (lvD s isOpt pl e.at_ : Nat)) := by
  have hend := colEnd_eq hd hs
  have hlt := SubC_lt _ _ _ hs
  unfold evPart at he
  have fin : ∀ (c : TCol) (dd : Int), s[pl]? = some c → dd = def_ + (if isOpt c = true then 1 else 0 : Nat) → EvOk s pl mid dd e → pl ≤ e.at_ ∧ e.at_ < mid ∧ def_ ≤ e.def_ ∧ (e.leaf = true → e.def_ = def_ + (lvD s isOpt pl e.at_ : Nat)) ∧ (e.leaf = false → e.def_ < def_ + (lvD s isOpt pl e.at_ : Nat)) := by
    intro c dd hc hdd h
    have hcons := lvD_cons (f := isOpt) hc h.lo (by rw [hend]; exact h.hi)
    refine ⟨h.lo, h.hi, ?_, fun hl => ?_, fun hl => ?_⟩
    · have := h.ge; omega
    · rw [h.yes hl, hcons, hdd]; omega
    · have := h.no hl; rw [hcons]; omega
  split at he
  · cases he
  · rename_i c hc
    have miss_ : isOpt c = true → ∀ U, some (miss s rep def_ (mid - pl) pl, U) = some (X, W) → pl ≤ e.at_ ∧ e.at_ < mid ∧ def_ ≤ e.def_ ∧ (e.leaf = true → e.def_ = def_ + (lvD s isOpt pl e.at_ : Nat)) ∧ (e.leaf = false → e.def_ < def_ + (lvD s isOpt pl e.at_ : Nat)) := by
      intro ho U he
      simp only [Option.some.injEq, Prod.mk.injEq] at he
      obtain ⟨rfl, rfl⟩ := he
      obtain ⟨m1, m2, m3, _, m5, _⟩ := miss_mem _ _ _ hm
      have hcons := lvD_cons (f := isOpt) hc m1 (by rw [hend]; omega)
      rw [if_pos ho] at hcons
      exact ⟨m1, by omega, by omega, fun hl => (by rw [m3] at hl; cases hl), fun _ => by omega⟩
    split at he
    · rename_i h0
      refine fin c def_ hc ?_ (hC _ _ _ _ X W he e hm)
      have : isOpt c = false := by simp [isOpt, h0]
      rw [this]; simp
    · rename_i h0
      have ho : isOpt c = true := by simp [isOpt, h0]
      split at he
      · cases he
      · split at he
        · split at he
          · cases he
          · split at he
            · exact miss_ ho _ he
            · obtain ⟨x, y, U, h1, h2, rfl⟩ := evPair_some he
              refine fin c (def_ + 1) hc (by rw [if_pos ho]; rfl) ?_
              rcases List.mem_append.1 hm with hm | hm
              · exact hC _ _ _ _ x U h1 e hm
              · exact evItems_mem (fun V X W => hC _ _ _ V X W) _ _ _ _ h2 e hm
        · split at he
          · cases he
          · split at he
            · exact miss_ ho _ he
            · exact fin c (def_ + 1) hc (by rw [if_pos ho]; rfl) (hC _ _ _ _ X W he e hm)

theorem evC_ok {s : List TCol} : ∀ (d a nx : Nat), d ≤ 6 → SubC s d a nx → ∀ (rep def_ deep : Int) (V : List TVal), EvOks s a nx def_ (evC s d a rep def_ deep V)
  | 0, _, _, _, h, _, _, _, _ => h.elim
  | d + 1, a, nx, hd, h, rep, def_, deep, V => by
    intro X W he e hm
    have hlt := SubC_lt _ _ _ h
    have hsub := h
    obtain ⟨c, hc, hco, _, hp⟩ := h
    simp only [evC, hc] at he
    split at he
    · rename_i h7
      have key : ∀ (m pl : Nat) (names : List ByteArray) (V : List TVal) (X : List Ev) (W : List TVal), PartsC (SubC s d) s m pl names nx → a + 1 ≤ pl → (∀ u, a + 1 ≤ u → u < pl → colEnd s u ≤ pl) → evParts (fun a V => evPart s (evC s d a) (endC s d a) a rep def_ deep V) (endC s d) m pl V = some (X, W) →
          ∀ e, e ∈ X → pl ≤ e.at_ ∧ e.at_ < nx ∧ def_ ≤ e.def_ ∧ (e.leaf = true → e.def_ = def_ + (lvD s isOpt (a + 1) e.at_ : Nat)) ∧ (e.leaf = false → e.def_ < def_ + (lvD s isOpt (a + 1) e.at_ : Nat)) := by
        intro m
        induction m with
        | zero =>
          intro pl names V X W hp h1 h2 he e hm
          simp only [evParts, Option.some.injEq, Prod.mk.injEq] at he
          obtain ⟨rfl, rfl⟩ := he
          cases hm
        | succ m ih =>
          intro pl names V X W hp h1 h2 he e hm
          obtain ⟨q, mid, q1, q2, q3, q4⟩ := hp
          have hmn := PartsC_nx (SubC_lt d) _ _ _ _ q4
          have hlt' := SubC_lt _ _ _ q3
          have hend : endC s d pl = mid := endC_eq d q3 d (Nat.le_refl _)
          simp only [evParts] at he
          obtain ⟨x, y, U, g1, g2, rfl⟩ := evPair_some he
          rw [hend] at g1 g2
          have h3 : ∀ u, a + 1 ≤ u → u < mid → colEnd s u ≤ mid := fun u u1 u2 => by
            rcases Nat.lt_or_ge u pl with u3 | u3
            · have := h2 u u1 u3; omega
            · exact (colEnd_in (by omega) q3 u3 u2).2
          rcases List.mem_append.1 hm with hm | hm
          · obtain ⟨r1, r2, r3, r4, r5⟩ := evPart_ok (by omega) q3 (fun rep def_ deep V => evC_ok d pl mid (by omega) q3 rep def_ deep V) rep def_ deep V x U g1 e hm
            have hsk := lvD_skip (s := s) (f := isOpt) h1 r1 (fun u u1 u2 => by have := h2 u u1 u2; omega)
            exact ⟨r1, by omega, r3, fun hl => by rw [r4 hl, hsk], fun hl => by rw [hsk]; exact r5 hl⟩
          · obtain ⟨r1, r2, r3⟩ := ih mid _ U y W q4 (by omega) h3 g2 e hm
            exact ⟨by omega, r2, r3⟩
      obtain ⟨r1, r2, r3, r4, r5⟩ := key _ _ _ _ _ _ hp (Nat.le_refl _) (fun u u1 u2 => by omega) he e hm
      exact ⟨by omega, r2, r3, r4, r5⟩
    · split at he
      · cases he
      · split at he
        · simp only [Option.some.injEq, Prod.mk.injEq] at he
          obtain ⟨rfl, rfl⟩ := he
          rw [List.mem_singleton] at hm
          subst hm
          refine ⟨Nat.le_refl _, hlt, Int.le_refl _, fun _ => ?_, fun hl => by cases hl⟩
          rw [lvD_self]; simp
        · cases he

theorem recEv_ok {s : List TCol} (hS : IsSchema s) {V : List TVal} {X : List Ev} (h : recEv s V = some X) : ∀ e, e ∈ X → EvOk s 0 s.length 0 e :=
  evC_ok 6 0 s.length (by omega) hS.2.2.1 0 0 0 V X [] (recEv_some h).2

end Go.Law
end

section
/- Leaves and their numbers. -/
set_option linter.unusedVariables false
set_option linter.unusedSimpArgs false
namespace Go.Law
open Go.Am Go.Fn

def lnum (s : List TCol) : Nat → Nat
  | 0 => 0
  | a + 1 => lnum s a + (match s[a]? with
    | none => 0
    | some c => if c.2.1 = 7 then 0 else 1)
theorem lnum_mono (s : List TCol) {a b : Nat} (h : a ≤ b) : lnum s a ≤ lnum s b := by
  induction h with
  | refl => exact Nat.le_refl _
  | step _ ih => simp only [lnum]; omega
theorem lnum_le (s : List TCol) : ∀ a, lnum s a ≤ a
  | 0 => Nat.le_refl _
  | a + 1 => by
    have := lnum_le s a
    simp only [lnum]
    split
    · omega
    · split <;> omega
theorem lnum_leaf {s : List TCol} {a : Nat} {c : TCol} (hc : s[a]? = some c) (h7 : c.2.1 ≠ 7) : lnum s (a + 1) = lnum s a + 1 := by
  simp only [lnum, hc]; rw [if_neg h7]
theorem lnum_group {s : List TCol} {a : Nat} {c : TCol} (hc : s[a]? = some c) (h7 : c.2.1 = 7) : lnum s (a + 1) = lnum s a := by
  simp only [lnum, hc]; rw [if_pos h7]; rfl
theorem lnum_lt {s : List TCol} {a : Nat} {c : TCol} (hc : s[a]? = some c) (h7 : c.2.1 ≠ 7) : lnum s a < lnum s s.length := by
  have h1 := lnum_leaf hc h7
  have h2 : a < s.length := (List.getElem?_eq_some_iff.1 hc).1
  have := lnum_mono s (show a + 1 ≤ s.length by omega)
  omega

theorem leavesFrom_lnum : ∀ (post pre : List TCol) (s : List TCol), s = pre ++ post → (leavesFrom pre.length post).length + lnum s pre.length = lnum s s.length
  | [], pre, s, h => by
    rw [List.append_nil] at h
    subst h
    simp [leavesFrom]
  | c :: post, pre, s, h => by
    have hc : s[pre.length]? = some c := by rw [h]; simp
    have hi := leavesFrom_lnum post (pre ++ [c]) s (by rw [h]; simp)
    rw [List.length_append, List.length_singleton] at hi
    by_cases h7 : c.2.1 = 7
    · rw [lnum_group hc h7] at hi
      simp only [leavesFrom]
      rw [if_pos h7]; exact hi
    · rw [lnum_leaf hc h7] at hi
      simp only [leavesFrom]
      rw [if_neg h7, List.length_cons]; omega

theorem leavesFrom_get : ∀ (post pre : List TCol) (s : List TCol), s = pre ++ post → ∀ (j : Nat) (x : Int), (leavesFrom pre.length post)[j]? = some x → ∃ a : Nat, x = (a : Int) ∧ pre.length ≤ a ∧ lnum s a = lnum s pre.length + j ∧ ∃ c, s[a]? = some c ∧ c.2.1 ≠ 7
  | [], pre, s, h, j, x, hx => by simp [leavesFrom] at hx
  | c :: post, pre, s, h, j, x, hx => by
    have hc : s[pre.length]? = some c := by rw [h]; simp
    have ih := leavesFrom_get post (pre ++ [c]) s (by rw [h]; simp)
    rw [List.length_append, List.length_singleton] at ih
    simp only [leavesFrom] at hx
    by_cases h7 : c.2.1 = 7
    · rw [if_pos h7] at hx
      obtain ⟨a, h1, h2, h3, h4⟩ := ih j x hx
      rw [lnum_group hc h7] at h3
      exact ⟨a, h1, by omega, h3, h4⟩
    · rw [if_neg h7] at hx
      cases j with
      | zero =>
        simp only [List.getElem?_cons_zero, Option.some.injEq] at hx
        exact ⟨pre.length, hx.symm, Nat.le_refl _, rfl, c, hc, h7⟩
      | succ j =>
        simp only [List.getElem?_cons_succ] at hx
        obtain ⟨a, h1, h2, h3, h4⟩ := ih j x hx
        rw [lnum_leaf hc h7] at h3
        exact ⟨a, h1, by omega, by omega, h4⟩

theorem lnum_inj {s : List TCol} {a b : Nat} {c d : TCol} (ha : s[a]? = some c) (hb : s[b]? = some d) (h7 : c.2.1 ≠ 7) (h7' : d.2.1 ≠ 7) (h : lnum s a = lnum s b) : a = b := by
  rcases Nat.lt_trichotomy a b with q | q | q
  · have := lnum_mono s (show a + 1 ≤ b by omega)
    rw [lnum_leaf ha h7] at this; omega
  · exact q
  · have := lnum_mono s (show b + 1 ≤ a by omega)
    rw [lnum_leaf hb h7'] at this; omega

theorem leaves_at {s : List TCol} {a : Nat} {c : TCol} (hc : s[a]? = some c) (h7 : c.2.1 ≠ 7) : (leavesFrom 0 s)[lnum s a]? = some (a : Int) := by
  have hl := leavesFrom_lnum s [] s rfl
  have h1 := lnum_lt hc h7
  have hl' : lnum s a < (leavesFrom 0 s).length := by
    have : (leavesFrom 0 s).length + 0 = lnum s s.length := hl
    omega
  obtain ⟨b, e1, _, e3, d, e4, e5⟩ := leavesFrom_get s [] s rfl _ _ (List.getElem?_eq_getElem hl')
  have e3 : lnum s b = 0 + lnum s a := e3
  rw [List.getElem?_eq_getElem hl', e1, lnum_inj hc e4 h7 e5 (by omega)]

end Go.Law
end

section
/- How deep a leaf may be: both tell it. -/
set_option linter.unusedVariables false
set_option linter.unusedSimpArgs false
set_option linter.unusedSectionVars false
namespace Go.Law
open Go.Am Go.Fn

def wayL (s : List TCol) (L : Nat) : Nat → Nat → List Int
  | 0, _ => []
  | n + 1, t => (if L < colEnd s t then [(t : Int)] else []) ++ wayL s L n (t + 1)
theorem wayL_skip (s : List TCol) (L : Nat) : ∀ (m n t : Nat), (∀ u, t ≤ u → u < t + m → colEnd s u ≤ L) → wayL s L (m + n) t = wayL s L n (t + m)
  | 0, n, t, _ => by simp
  | m + 1, n, t, h => by
    have h1 := h t (Nat.le_refl _) (by omega)
    have := wayL_skip s L m n (t + 1) (fun u h2 h3 => h u (by omega) (by omega))
    rw [show m + 1 + n = (m + n) + 1 by omega]
    simp only [wayL]
    rw [this, show t + 1 + m = t + (m + 1) by omega, if_neg (by omega), List.nil_append]

section
variable (k : Nat) (s : List TCol) (hS : IsSchema s) (hn : ∀ c, c ∈ s → c.1.size < k ∧ c.1.size < 1000000000 ∧ I64 c.2.2.2.1) (hk : 2000000 ≤ k)
include hS hn hk

theorem colEnd_after (t : Nat) (ht : t < s.length) : t < colEnd s t ∧ colEnd s t ≤ s.length ∧ spec_l5After k s (t : Int) = some (colEnd s t : Int) ∧ impl_colAfter k s (t : Int) 1 = some (colEnd s t : Int) := by
  obtain ⟨nx', e1, e2⟩ := sub_at 6 0 s.length hS.2.2.1 t (Nat.zero_le _) ht
  have e3 := colEnd_eq (Nat.le_refl _) e1
  rw [e3]
  exact ⟨SubC_lt _ _ _ e1, e2, l5After_sub k s hS.2.1 hn (by omega) e1 (Nat.le_refl _) e2, colAfter_sub k s hS.2.1 hn (by omega) e1 (Nat.le_refl _) e2⟩

theorem sway_eq (L : Nat) (hL : L < s.length) : spec_l5Way k s (L : Int) = some ((), wayL s L (L + 1) 0) := by
  have hs20 := hS.2.1
  have key : ∀ (n t f : Nat) (o : List Int), t + n = L + 1 → n < f → o.length ≤ t → spec_l5Way.l3 k f s (L : Int) (t : Int) o = some ((), o ++ wayL s L n t) := by
    intro n
    induction n with
    | zero =>
      intro t f o h hf ho
      obtain ⟨f, rfl⟩ : ∃ q, f = q + 1 := ⟨f - 1, by omega⟩
      simp only [spec_l5Way.l3, decide_eq_false (show ¬ ((t : Int) ≤ (L : Int)) by omega), cond_false, wayL, List.append_nil]
    | succ n ih =>
      intro t f o h hf ho
      obtain ⟨f, rfl⟩ : ∃ q, f = q + 1 := ⟨f - 1, by omega⟩
      obtain ⟨a1, a2, a3, _⟩ := colEnd_after k s hS hn hk t (by omega)
      have ht1 : IntKind.wrap .i64 ((t : Int) + 1) = ((t + 1 : Nat) : Int) := by rw [w64 (by omega) (by omega)]; omega
      simp only [spec_l5Way.l3, decide_eq_true (show (t : Int) ≤ (L : Int) by omega), cond_true, a3, Option.bind_some, spec_l5Way.c4, ht1, wayL]
      by_cases h1 : L < colEnd s t
      · rw [decide_eq_true (show (colEnd s t : Int) > (L : Int) by omega), cond_true, lim_ok (by simp; omega), cond_true, if_pos h1, ih (t + 1) f _ (by omega) (by omega) (by simp; omega)]
        simp
      · rw [decide_eq_false (show ¬ (colEnd s t : Int) > (L : Int) by omega), cond_false, if_neg h1, ih (t + 1) f _ (by omega) (by omega) (by omega)]
        simp
  have := key (L + 1) 0 k [] (by omega) (by omega) (by simp)
  exact this

theorem smax_eq (f1 f2 : Int) (L : Nat) (hL : L < s.length) : ∀ (n t f : Nat) (pre : List Int) (x y : Nat), t + n = L + 1 → n < f → x ≤ t → y ≤ t → pre.length ≤ t →
    spec_l5Max.l4 k f s (x : Int) (y : Int) (pre.length : Int) (pre ++ wayL s L n t) = some (((x + dlv s isOpt L n t : Nat) : Int), ((y + dlv s isRep L n t : Nat) : Int)) ∧
    impl_LeafMax.l6 k f s (x : Int) (y : Int) ((pre ++ wayL s L n t).length : Int) (pre.length : Int) (pre ++ wayL s L n t) = some (((x + dlv s isOpt L n t : Nat) : Int), ((y + dlv s isRep L n t : Nat) : Int)) := by
  have hs20 := hS.2.1
  intro n
  induction n with
  | zero =>
    intro t f pre x y h hf hx hy hp
    obtain ⟨f, rfl⟩ : ∃ q, f = q + 1 := ⟨f - 1, by omega⟩
    simp only [spec_l5Max.l4, impl_LeafMax.l6, wayL, List.append_nil, decide_eq_false (show ¬ ((pre.length : Int) < (pre.length : Int)) by omega), cond_false, dlv, Nat.add_zero]
    exact ⟨trivial, trivial⟩
  | succ n ih =>
    intro t f pre x y h hf hx hy hp
    have hc := List.getElem?_eq_getElem (show t < s.length by omega)
    generalize s[t] = c at hc
    by_cases h1 : L < colEnd s t
    · obtain ⟨f, rfl⟩ : ∃ q, f = q + 1 := ⟨f - 1, by omega⟩
      have hi1 : IntKind.wrap .i64 ((pre.length : Int) + 1) = ((pre.length + 1 : Nat) : Int) := by rw [w64 (by omega) (by omega)]; omega
      have hx1 : IntKind.wrap .i64 ((x : Int) + 1) = ((x + 1 : Nat) : Int) := by rw [w64 (by omega) (by omega)]; omega
      have hy1 : IntKind.wrap .i64 ((y : Int) + 1) = ((y + 1 : Nat) : Int) := by rw [w64 (by omega) (by omega)]; omega
      simp only [wayL]
      rw [if_pos h1, List.singleton_append]
      have dT : ∀ g : TCol → Bool, g c = true → dlv s g L (n + 1) t = 1 + dlv s g L n (t + 1) := fun g hg => by simp only [dlv, hc]; rw [if_pos ⟨h1, hg⟩]
      have dF : ∀ g : TCol → Bool, g c = false → dlv s g L (n + 1) t = dlv s g L n (t + 1) := fun g hg => by simp only [dlv, hc]; rw [if_neg (fun q => by rw [hg] at q; cases q.2), Nat.zero_add]
      have hg := getMid pre (wayL s L n (t + 1)) (t : Int)
      have hlt : (pre.length : Int) < ((pre ++ (t : Int) :: wayL s L n (t + 1)).length : Int) := by simp; omega
      simp only [spec_l5Max.l4, impl_LeafMax.l6, decide_eq_true hlt, cond_true, hg, Option.bind_some, rdL_nat, hc, spec_l5Max.c8, impl_LeafMax.c10, spec_l5Max.c5, impl_LeafMax.c12, hi1, hx1, hy1]
      have ih' := fun x y hx hy => ih (t + 1) f (pre ++ [(t : Int)]) x y (by omega) (by omega) hx hy (by simp; omega)
      simp only [List.append_assoc, List.singleton_append, List.length_append, List.length_singleton] at ih'
      simp only [List.length_append]
      by_cases ho : c.2.2.1 = 0
      · have hr : ¬ c.2.2.1 = 2 := by omega
        have i1 : isOpt c = false := by simp [isOpt, ho]
        have i2 : isRep c = false := by simp [isRep, ho]
        rw [bneF ho, cond_false, cond_false, beqF hr, cond_false, cond_false, dF _ i1, dF _ i2]
        exact ih' x y (by omega) (by omega)
      · have i1 : isOpt c = true := by simp [isOpt, ho]
        by_cases hr : c.2.2.1 = 2
        · have i2 : isRep c = true := by simp [isRep, hr]
          rw [bneT ho, cond_true, cond_true, beqT hr, cond_true, cond_true, dT _ i1, dT _ i2]
          have := ih' (x + 1) (y + 1) (by omega) (by omega)
          rw [show x + (1 + dlv s isOpt L n (t + 1)) = x + 1 + dlv s isOpt L n (t + 1) by omega, show y + (1 + dlv s isRep L n (t + 1)) = y + 1 + dlv s isRep L n (t + 1) by omega]
          exact this
        · have i2 : isRep c = false := by simp [isRep, hr]
          rw [bneT ho, cond_true, cond_true, beqF hr, cond_false, cond_false, dT _ i1, dF _ i2]
          have := ih' (x + 1) y (by omega) (by omega)
          rw [show x + (1 + dlv s isOpt L n (t + 1)) = x + 1 + dlv s isOpt L n (t + 1) by omega]
          exact this
    · have e1 : wayL s L (n + 1) t = wayL s L n (t + 1) := by simp only [wayL]; rw [if_neg h1, List.nil_append]
      have e2 : ∀ g, dlv s g L (n + 1) t = dlv s g L n (t + 1) := fun g => by simp only [dlv, hc]; rw [if_neg (fun q => h1 q.1), Nat.zero_add]
      rw [e1, e2, e2]
      exact ih (t + 1) f pre x y (by omega) (by omega) (by omega) (by omega) (by omega)

theorem iway_loop (lv : List Int) (j : Int) (L : Nat) (hj : rdL lv j = some (L : Int)) (hL : L < s.length) : ∀ (N n t f : Nat) (o : List Int), n ≤ N → t + n = L + 1 → n < f → o.length ≤ t →
    impl_wayTo.l6 k f s j (t : Int) lv o = some ((), o ++ wayL s L n t) := by
  have hs20 := hS.2.1
  intro N
  induction N with
  | zero =>
    intro n t f o hN h hf ho
    obtain ⟨f, rfl⟩ : ∃ q, f = q + 1 := ⟨f - 1, by omega⟩
    have hn0 : n = 0 := by omega
    subst hn0
    simp only [impl_wayTo.l6, hj, Option.bind_some, decide_eq_false (show ¬ ((t : Int) ≤ (L : Int)) by omega), cond_false, wayL, List.append_nil]
  | succ N ih =>
    intro n t f o hN h hf ho
    obtain ⟨f, rfl⟩ : ∃ q, f = q + 1 := ⟨f - 1, by omega⟩
    cases n with
    | zero => simp only [impl_wayTo.l6, hj, Option.bind_some, decide_eq_false (show ¬ ((t : Int) ≤ (L : Int)) by omega), cond_false, wayL, List.append_nil]
    | succ n =>
      obtain ⟨a1, a2, _, a4⟩ := colEnd_after k s hS hn hk t (by omega)
      have ht1 : IntKind.wrap .i64 ((t : Int) + 1) = ((t + 1 : Nat) : Int) := by rw [w64 (by omega) (by omega)]; omega
      simp only [impl_wayTo.l6, hj, Option.bind_some, decide_eq_true (show (t : Int) ≤ (L : Int) by omega), cond_true, a4, ht1]
      by_cases h1 : L < colEnd s t
      · rw [decide_eq_true (show (colEnd s t : Int) > (L : Int) by omega), cond_true, lim_ok (by simp; omega), cond_true, ih n (t + 1) f _ (by omega) (by omega) (by omega) (by simp; omega)]
        simp only [wayL]
        rw [if_pos h1]
        simp
      · rw [decide_eq_false (show ¬ (colEnd s t : Int) > (L : Int) by omega), cond_false]
        obtain ⟨nx', e1, e2⟩ := sub_at 6 0 s.length hS.2.2.1 t (Nat.zero_le _) (by omega)
        have e3 := colEnd_eq (Nat.le_refl _) e1
        have hsk := wayL_skip s L (colEnd s t - t) (n + 1 - (colEnd s t - t)) t (fun u u1 u2 => by
          have := (colEnd_in (Nat.le_refl _) e1 u1 (by omega)).2; omega)
        rw [show colEnd s t - t + (n + 1 - (colEnd s t - t)) = n + 1 by omega, show t + (colEnd s t - t) = colEnd s t by omega] at hsk
        rw [hsk]
        exact ih _ _ f o (by omega) (by omega) (by omega) (by omega)

theorem leafMax_eq (hok : spec_SchemaOk k s = some true) (hok2 : impl_SchemaOk k s = some true) (j : Int) :
    (∃ L c, rdL (leavesFrom 0 s) j = some ((L : Nat) : Int) ∧ 0 ≤ j ∧ j < ((leavesFrom 0 s).length : Int) ∧ 1 ≤ L ∧ s[L]? = some c ∧ c.2.1 ≠ 7 ∧ j = (lnum s L : Int) ∧
      impl_LeafMax k s j = some ((lvD s isOpt 1 L : Int), (lvD s isRep 1 L : Int)) ∧ spec_l5Max k s (L : Int) = some ((lvD s isOpt 1 L : Int), (lvD s isRep 1 L : Int))) ∨
    (¬ (0 ≤ j ∧ j < ((leavesFrom 0 s).length : Int)) ∧ impl_LeafMax k s j = some (-1, -1)) := by
  obtain ⟨v1, v2⟩ := leaves_eq k (by omega) s (by have := hS.2.1; omega)
  have hs20 := hS.2.1
  have hll := leavesFrom_len 0 s
  obtain ⟨c0, hc0, h70, _⟩ := schema_top hS
  have hrep0 : c0.2.2.1 = 0 := by
    obtain ⟨_, _, _, c, e1, _, e2, _⟩ := hS
    rw [hc0] at e1
    cases e1
    exact e2
  unfold impl_LeafMax impl_wayTo impl_SchemaLeaves
  rw [hok2]
  simp only [Option.bind_some, cond_true, cond_false, Bool.not_true, v1, v2, l1In_eq, within_eq]
  generalize hlv : leavesFrom 0 s = lv at hll
  rw [w64 (show -9223372036854775808 ≤ (lv.length : Int) - 1 by omega) (by omega)]
  by_cases hin : 0 ≤ j ∧ j < (lv.length : Int)
  · left
    have hw : (decide (0 ≤ j) && decide (j ≤ (lv.length : Int) - 1)) = true := by simp; omega
    obtain ⟨n, rfl⟩ := Int.eq_ofNat_of_zero_le hin.1
    have hnl : n < lv.length := by omega
    obtain ⟨L, e1, e2, e3, c, e4, e5⟩ := leavesFrom_get s [] s rfl n _ (by rw [show ([] : List TCol).length = 0 from rfl, hlv]; exact List.getElem?_eq_getElem hnl)
    have hg : rdL lv (n : Int) = some (L : Int) := by rw [rdL_nat, List.getElem?_eq_getElem hnl, e1]
    have e3 : lnum s L = 0 + n := e3
    have hL : L < s.length := (List.getElem?_eq_some_iff.1 e4).1
    have hL1 : 1 ≤ L := by
      rcases Nat.eq_zero_or_pos L with h | h
      · subst h
        rw [hc0] at e4
        cases e4
        exact absurd h70 e5
      · exact h
    have hend0 : L < colEnd s 0 := by rw [colEnd_eq (Nat.le_refl _) hS.2.2.1]; exact hL
    have hz : ∀ g : TCol → Bool, g c0 = false → dlv s g L (L + 1) 0 = lvD s g 1 L := fun g hg => by
      simp only [dlv, hc0]
      rw [if_neg (fun q => by rw [hg] at q; cases q.2), Nat.zero_add]
      unfold lvD
      rw [show L + 1 - 1 = L by omega]
    have z1 := hz isOpt (by simp [isOpt, hrep0])
    have z2 := hz isRep (by simp [isRep, hrep0])
    have hmx : spec_l5Max k s (L : Int) = some ((lvD s isOpt 1 L : Int), (lvD s isRep 1 L : Int)) := by
      have h1 := (smax_eq k s hS hn hk 0 0 L hL (L + 1) 0 k [] 0 0 (by omega) (by omega) (by omega) (by omega) (by simp)).1
      rw [z1, z2, Nat.zero_add, Nat.zero_add] at h1
      unfold spec_l5Max
      rw [sway_eq k s hS hn hk L hL]
      exact h1
    refine ⟨L, c, hg, hin.1, hin.2, hL1, e4, e5, by omega, ?_, hmx⟩
    · rw [hw]
      simp only [Bool.not_true, cond_false]
      have h1 := iway_loop k s hS hn hk lv (n : Int) L hg hL L L 1 k [] (Nat.le_refl _) (by omega) (by omega) (by simp)
      have h1 : impl_wayTo.l6 k k s (n : Int) 1 lv [] = some ((), wayL s L L 1) := h1
      rw [h1]
      simp only [Option.bind_some]
      have h2 := (smax_eq k s hS hn hk 0 0 L hL L 1 k [] 0 0 (by omega) (by omega) (by omega) (by omega) (by simp)).2
      have hne : ((wayL s L L 1).length : Int) ≠ 0 := by
        have : ∀ n t, t + n = L + 1 → 0 < n → 0 < (wayL s L n t).length := by
          intro n
          induction n with
          | zero => intro t _ h; omega
          | succ n ih =>
            intro t h _
            simp only [wayL, List.length_append]
            rcases Nat.eq_zero_or_pos n with h0 | h0
            · subst h0
              have : t = L := by omega
              subst this
              rw [if_pos (colEnd_after k s hS hn hk t hL).1, List.length_singleton]
              omega
            · have := ih (t + 1) (by omega) h0; omega
        have := this L 1 (by omega) (by omega)
        omega
      rw [beqF hne, cond_false]
      have h2 : impl_LeafMax.l6 k k s 0 0 ((wayL s L L 1).length : Int) 0 (wayL s L L 1) = some (((0 + dlv s isOpt L L 1 : Nat) : Int), ((0 + dlv s isRep L L 1 : Nat) : Int)) := h2
      rw [h2, Nat.zero_add, Nat.zero_add]
      unfold lvD
      rw [show L + 1 - 1 = L by omega]
  · right
    have hw : (decide (0 ≤ j) && decide (j ≤ (lv.length : Int) - 1)) = false := by
      rw [Bool.eq_false_iff]
      intro h
      simp only [Bool.and_eq_true, decide_eq_true_eq] at h
      omega
    rw [hw]
    exact ⟨hin, rfl⟩
end
end Go.Law
end

section
/- The reference's values of a leaf: those that are come to there. -/
set_option linter.unusedVariables false
set_option linter.unusedSimpArgs false
set_option linter.unusedSectionVars false
namespace Go.Law
open Go.Am Go.Fn

def valsAt (L : Int) (X : List Ev) : List TVal := (X.filter fun e => e.leaf && ((e.at_ : Int) == L)).map Ev.v
theorem valsAt_append (L : Int) (X Y : List Ev) : valsAt L (X ++ Y) = valsAt L X ++ valsAt L Y := by simp [valsAt]
theorem valsAt_len (L : Int) (X : List Ev) : (valsAt L X).length ≤ X.length := by
  unfold valsAt
  rw [List.length_map]
  exact List.length_filter_le _ _
theorem valsAt_miss (L : Int) (s : List TCol) (rep def_ : Int) : ∀ (n i : Nat), valsAt L (miss s rep def_ n i) = []
  | 0, i => rfl
  | n + 1, i => by
    simp only [miss, valsAt_append, valsAt_miss L s rep def_ n (i + 1), List.append_nil]
    cases s[i]? with
    | none => rfl
    | some c =>
      simp only
      split <;> rfl

section
variable (k : Nat) (s : List TCol) (hs : s.length ≤ 20) (hn : ∀ c, c ∈ s → c.1.size < k ∧ c.1.size < 1000000000 ∧ I64 c.2.2.2.1) (hk : 2000000 ≤ k)
variable (V : List TVal) (hV : V.length ≤ 1048576) (L : Int)

def VG (E a : Nat) (C : Int → Int → Int → List TVal → EvR) : Prop :=
  ∀ (rep def_ deep : Int) (pos : Nat) (X : List Ev) (W : List TVal), pos ≤ V.length → C rep def_ deep (V.drop pos) = some (X, W) →
    ∀ (n i : Int) (f : Nat) (out : List TVal), i < n → 0 ≤ i → n ≤ 1000 → out.length ≤ 20 * pos →
      spec_l13Values.l6 k (spec_l13Values.rec k E) (f + 1) s (a : Int) V (pos : Int) L n i out = spec_l13Values.l6 k (spec_l13Values.rec k E) f s (a : Int) V ((V.length - W.length : Nat) : Int) L n (i + 1) (out ++ valsAt L X)

include hs hn hk hV

theorem svals_items (E a : Nat) (C : Int → Int → Int → List TVal → EvR) (hg : ∀ r q p V, EvG V (C r q p V)) (h : VG k s V L E a C) (rep def_ deep : Int) (n : Int) (hn1 : n ≤ 1000) :
    ∀ (m : Nat) (i : Int) (f pos : Nat) (X : List Ev) (W out : List TVal), pos ≤ V.length → evItems (C rep def_ deep) m (V.drop pos) = some (X, W) → n = i + m → 0 ≤ i → out.length ≤ 20 * pos →
      spec_l13Values.l6 k (spec_l13Values.rec k E) (f + 1 + m) s (a : Int) V (pos : Int) L n i out = some (((), ((V.length - W.length : Nat) : Int)), out ++ valsAt L X) := by
  intro m
  induction m with
  | zero =>
    intro i f pos X W out hp he hi h0 ho
    simp only [evItems, Option.some.injEq, Prod.mk.injEq] at he
    obtain ⟨rfl, rfl⟩ := he
    have : V.length - (V.drop pos).length = pos := by simp only [List.length_drop]; omega
    simp only [Nat.add_zero, spec_l13Values.l6, decide_eq_false (show ¬ (i < n) by omega), cond_false, this, valsAt, List.filter_nil, List.map_nil, List.append_nil]
  | succ m ih =>
    intro i f pos X W out hp he hi h0 ho
    simp only [evItems] at he
    obtain ⟨x, y, U, h1, h2, rfl⟩ := evPair_some he
    obtain ⟨p1, p2, p3, p4⟩ := ev_pos (hg rep def_ deep) hp h1
    have hx := valsAt_len L x
    have hU : U = V.drop (V.length - U.length) := p2.symm
    rw [hU] at h2
    rw [show f + 1 + (m + 1) = (f + 1 + m) + 1 by omega, h rep def_ deep pos x U hp h1 n i _ out (by omega) h0 hn1 ho,
      ih (i + 1) f (V.length - U.length) y W _ p1 h2 (by omega) (by omega) (by simp; omega), valsAt_append, List.append_assoc]

theorem svals_part (d E a e : Nat) (C : Int → Int → Int → List TVal → EvR) (c : TCol) (hc : s[a]? = some c) (hr : c.2.2.1 = 0 ∨ c.2.2.1 = 1 ∨ c.2.2.1 = 2) (hg : ∀ r q p V, EvG V (C r q p V)) (h : VG k s V L E a C)
    (rep def_ deep : Int) (pos : Nat) (X : List Ev) (W out : List TVal) (hp : pos ≤ V.length) (he : evPart s C e a rep def_ deep (V.drop pos) = some (X, W)) (ho : out.length ≤ 20 * pos) :
    spec_l13Values.rec k (E + 1) s (a : Int) false V (pos : Int) L out = some (((), ((V.length - W.length : Nat) : Int)), out ++ valsAt L X) := by
  have hp1 : IntKind.wrap .i64 ((pos : Int) + 1) = ((pos + 1 : Nat) : Int) := by rw [w64 (by omega) (by omega)]; omega
  obtain ⟨k', hk'⟩ : ∃ q, k = q + 2000 := ⟨k - 2000, by omega⟩
  have one : ∀ (rep def_ deep : Int) (pos : Nat) (X : List Ev) (out : List TVal), pos ≤ V.length → C rep def_ deep (V.drop pos) = some (X, W) → out.length ≤ 20 * pos →
      spec_l13Values.l6 k (spec_l13Values.rec k E) k s (a : Int) V (pos : Int) L 1 0 out = some (((), ((V.length - W.length : Nat) : Int)), out ++ valsAt L X) := by
    intro rep def_ deep pos X out hp he ho
    have hi : evItems (C rep def_ deep) 1 (V.drop pos) = some (X, W) := by
      simp only [evItems, evPair, he, List.append_nil]
    have := svals_items k s hs hn hk V hV L E a C hg h rep def_ deep 1 (by omega) 1 0 (k - 2) pos X W out hp hi (by omega) (by omega) ho
    rw [show k - 2 + 1 + 1 = k by omega] at this
    exact this
  unfold evPart at he
  simp only [hc] at he
  simp only [spec_l13Values.rec, spec_l13Values.b, Bool.not_false, cond_true, rdL_nat, hc, Option.bind_some]
  by_cases h0 : c.2.2.1 = 0
  · rw [if_pos h0] at he
    rw [bneF h0, cond_false]
    simp only [spec_l13Values.c5]
    exact one _ _ _ pos X out hp he ho
  · rw [if_neg h0] at he
    rw [bneT h0, cond_true]
    by_cases hlt : pos < V.length
    · have hd : V.drop pos = V[pos] :: V.drop (pos + 1) := List.drop_eq_getElem_cons hlt
      rw [hd] at he
      simp only at he
      rw [List.getElem?_eq_getElem hlt]
      simp only [Option.bind_some, hp1, spec_l13Values.c5]
      have none_ : ∀ (x : List Ev), (∃ r q n i, x = miss s r q n i) → some (x, V.drop (pos + 1)) = some (X, W) → V[pos].1 = 0 →
          spec_l13Values.l6 k (spec_l13Values.rec k E) k s (a : Int) V ((pos + 1 : Nat) : Int) L V[pos].1 0 out = some (((), ((V.length - W.length : Nat) : Int)), out ++ valsAt L X) := by
        intro x hx he h0
        simp only [Option.some.injEq, Prod.mk.injEq] at he
        obtain ⟨rfl, rfl⟩ := he
        obtain ⟨r, q, n, i, rfl⟩ := hx
        have hl : V.length - (V.drop (pos + 1)).length = pos + 1 := by simp only [List.length_drop]; omega
        rw [h0, valsAt_miss, List.append_nil, hl]
        conv => lhs; arg 3; rw [show k = (k - 1) + 1 by omega]
        simp only [spec_l13Values.l6, decide_eq_false (show ¬ ((0 : Int) < 0) by omega), cond_false]
      by_cases h2 : c.2.2.1 = 2
      · rw [if_pos h2] at he
        split at he
        · cases he
        · rename_i hb
          have hb := cbad_false (by simpa using hb)
          split at he
          · exact none_ _ ⟨_, _, _, _, rfl⟩ he (by assumption)
          · rename_i hv0
            obtain ⟨n, hn'⟩ : ∃ n : Nat, V[pos].1 = ((n + 1 : Nat) : Int) := ⟨V[pos].1.toNat - 1, by omega⟩
            obtain ⟨x, y, U, g1, g2, rfl⟩ := evPair_some he
            rw [show V[pos].1.toNat - 1 = n by omega] at g2
            obtain ⟨p1, p2, p3, p4⟩ := ev_pos (hg rep (def_ + 1) (deep + 1)) (by omega) g1
            have hx := valsAt_len L x
            have hU : U = V.drop (V.length - U.length) := p2.symm
            rw [hU] at g2
            have s1 := h rep (def_ + 1) (deep + 1) (pos + 1) x U (by omega) g1 V[pos].1 0 (k - 1) out (by omega) (by omega) (by omega) (by omega)
            rw [show k - 1 + 1 = k by omega] at s1
            rw [s1]
            have s2 := svals_items k s hs hn hk V hV L E a C hg h (deep + 1) (def_ + 1) (deep + 1) V[pos].1 (by omega) n (0 + 1) (k - 1 - 1 - n) (V.length - U.length) y W (out ++ valsAt L x) p1 g2 (by omega) (by omega) (by simp; omega)
            rw [show k - 1 - 1 - n + 1 + n = k - 1 by omega] at s2
            rw [s2, valsAt_append, List.append_assoc]
      · rw [if_neg h2] at he
        split at he
        · cases he
        · rename_i hb
          have hb := cbad_false (by simpa using hb)
          split at he
          · exact none_ _ ⟨_, _, _, _, rfl⟩ he (by assumption)
          · rename_i hv0
            rw [show V[pos].1 = 1 by omega]
            exact one _ _ _ (pos + 1) X out (by omega) he (by omega)
    · have hd : V.drop pos = [] := List.drop_of_length_le (by omega)
      rw [hd] at he
      cases he

theorem svals_parts (d E : Nat) (hd : d ≤ 6) (a : Nat) (c : TCol) (hc : s[a]? = some c) (hcm : c.2.2.2.1 ≤ 1000000) (nx : Nat) (hnx : nx ≤ s.length) (rep def_ deep : Int)
    (Q : ∀ pl mid, SubC s d pl mid → mid ≤ s.length → ∀ (pos : Nat) (X : List Ev) (W out : List TVal), pos ≤ V.length → evPart s (evC s d pl) mid pl rep def_ deep (V.drop pos) = some (X, W) → out.length ≤ 20 * pos →
      spec_l13Values.rec k E s (pl : Int) false V (pos : Int) L out = some (((), ((V.length - W.length : Nat) : Int)), out ++ valsAt L X)) :
    ∀ (m pl : Nat) (i : Int) (names : List ByteArray) (f pos : Nat) (X : List Ev) (W out : List TVal) (n it : Int) (L6 : (List TCol) → Int → (List TVal) → Int → Int → Int → Int → (List TVal) → Option ((Unit × Int) × (List TVal))), PartsC (SubC s d) s m pl names nx → c.2.2.2.1 - i = m → 0 ≤ i → m < f → pos ≤ V.length → out.length ≤ 20 * pos →
      evParts (fun a V => evPart s (evC s d a) (endC s d a) a rep def_ deep V) (endC s d) m pl (V.drop pos) = some (X, W) →
      spec_l13Values.l14 k (spec_l13Values.rec k E) L6 f s (a : Int) V (pos : Int) L n it (pl : Int) i out = L6 s (a : Int) V ((V.length - W.length : Nat) : Int) L n (IntKind.wrap .i64 (it + 1)) (out ++ valsAt L X) := by
  intro m
  induction m with
  | zero =>
    intro pl i names f pos X W out n it L6 hp hi h0 hf hpos ho he
    obtain ⟨f, rfl⟩ : ∃ q, f = q + 1 := ⟨f - 1, by omega⟩
    simp only [evParts, Option.some.injEq, Prod.mk.injEq] at he
    obtain ⟨rfl, rfl⟩ := he
    have : V.length - (V.drop pos).length = pos := by simp only [List.length_drop]; omega
    simp only [spec_l13Values.l14, rdL_nat, hc, Option.bind_some, decide_eq_false (show ¬ (i < c.2.2.2.1) by omega), cond_false, spec_l13Values.c7, this, valsAt, List.filter_nil, List.map_nil, List.append_nil]
  | succ m ih =>
    intro pl i names f pos X W out n it L6 hp hi h0 hf hpos ho he
    obtain ⟨q, mid, q1, q2, q3, q4⟩ := hp
    have hmn := PartsC_nx (SubC_lt d) _ _ _ _ q4
    obtain ⟨f, rfl⟩ : ∃ q, f = q + 1 := ⟨f - 1, by omega⟩
    have hi1 : IntKind.wrap .i64 (i + 1) = i + 1 := w64 (by omega) (by omega)
    have hend : endC s d pl = mid := endC_eq d q3 d (Nat.le_refl _)
    have haf := l5After_sub k s hs hn (by omega) q3 hd (by omega)
    simp only [evParts] at he
    obtain ⟨x, y, U, h1, h2, rfl⟩ := evPair_some he
    rw [hend] at h1 h2
    obtain ⟨p1, p2, p3, p4⟩ := ev_pos (fun V => EvG.part hs (fun r q p V => evC_G hs d pl r q p V) mid pl rep def_ deep V) hpos h1
    have hx := valsAt_len L x
    have hU : U = V.drop (V.length - U.length) := p2.symm
    rw [hU] at h2
    simp only [spec_l13Values.l14, rdL_nat, hc, Option.bind_some, decide_eq_true (show i < c.2.2.2.1 by omega), cond_true, Q pl mid q3 (by omega) pos x U out hpos h1 ho, haf, hi1]
    rw [ih mid (i + 1) _ f (V.length - U.length) y W _ n it L6 q4 (by omega) (by omega) (by omega) p1 (by simp; omega) h2, valsAt_append, List.append_assoc]

theorem svals_ok : ∀ (d E a nx : Nat), SubC s d a nx → nx ≤ s.length → d ≤ 6 → d ≤ E → VG k s V L E a (evC s d a) := by
  intro d
  induction d with
  | zero => intro E a nx h; exact h.elim
  | succ d ih =>
    intro E a nx h hnx hd hE rep def_ deep pos X W hpos he n i f out hin h0 hn1 ho
    obtain ⟨E, rfl⟩ : ∃ q, E = q + 1 := ⟨E - 1, by omega⟩
    have hlt := SubC_lt _ _ _ h
    obtain ⟨c, hc, hco, _, hp⟩ := h
    have hcm := (hn c (List.mem_of_getElem? hc)).2.2
    have hmp := PartsC_le (SubC_lt d) _ _ _ _ hp
    have ha1 : IntKind.wrap .i64 ((a : Int) + 1) = ((a + 1 : Nat) : Int) := by rw [w64 (by omega) (by omega)]; omega
    have hp1 : IntKind.wrap .i64 ((pos : Int) + 1) = ((pos + 1 : Nat) : Int) := by rw [w64 (by omega) (by omega)]; omega
    have hi1 : IntKind.wrap .i64 (i + 1) = i + 1 := w64 (by omega) (by omega)
    simp only [evC, hc] at he
    by_cases h7 : c.2.1 = 7
    · rw [if_pos h7] at he
      have hmn : 0 ≤ c.2.2.2.1 := by
        unfold colOk at hco
        rw [h7, tyOk_7] at hco
        simp at hco
        omega
      have key := svals_parts k s hs hn hk V hV L d (E + 1) (by omega) a c hc (by omega) nx hnx rep def_ deep
        (fun pl mid hs1 hm1 pos X W out hpos he ho => by
          obtain ⟨d', rfl⟩ : ∃ q, d = q + 1 := ⟨d - 1, by cases d with
            | zero => exact hs1.elim
            | succ d => omega⟩
          have hs1' := hs1
          obtain ⟨c', hc', hco', _, _⟩ := hs1
          have hrep : c'.2.2.1 = 0 ∨ c'.2.2.1 = 1 ∨ c'.2.2.1 = 2 := by
            unfold colOk at hco'
            simp only [Bool.and_eq_true, decide_eq_true_eq] at hco'
            omega
          exact svals_part k s hs hn hk V hV L d' E pl mid (evC s (d' + 1) pl) c' hc' hrep (fun r q p V => evC_G hs _ pl r q p V) (ih E pl mid hs1' hm1 (by omega) (by omega)) rep def_ deep pos X W out hpos he ho)
        c.2.2.2.1.toNat (a + 1) 0 [] k pos X W out n i (spec_l13Values.l6 k (spec_l13Values.rec k (E + 1)) f) hp (by omega) (by omega) (by omega) hpos ho he
      rw [hi1] at key
      rw [← key]
      simp only [spec_l13Values.l6, decide_eq_true hin, cond_true, rdL_nat, hc, Option.bind_some, bneF h7, cond_false, ha1]
    · rw [if_neg h7] at he
      by_cases hlt' : pos < V.length
      · have hd' : V.drop pos = V[pos] :: V.drop (pos + 1) := List.drop_eq_getElem_cons hlt'
        rw [hd'] at he
        simp only at he
        split at he
        · simp only [Option.some.injEq, Prod.mk.injEq] at he
          obtain ⟨rfl, rfl⟩ := he
          have hl : V.length - (V.drop (pos + 1)).length = pos + 1 := by simp only [List.length_drop]; omega
          rw [hl]
          simp only [spec_l13Values.l6, decide_eq_true hin, cond_true, rdL_nat, hc, Option.bind_some, bneT h7, spec_l13Values.c11, spec_l13Values.c7, hp1, hi1]
          by_cases haL : (a : Int) = L
          · rw [beqT haL, cond_true, List.getElem?_eq_getElem hlt']
            simp only [Option.bind_some]
            rw [lim_ok (by simp; omega), cond_true]
            simp [valsAt, haL]
          · rw [beqF haL, cond_false]
            simp [valsAt, beqF haL]
        · cases he
      · have hd' : V.drop pos = [] := List.drop_of_length_le (by omega)
        rw [hd'] at he
        cases he

theorem svals_whole (hS : SubC s 6 0 s.length) (X : List Ev) (he : evC s 6 0 0 0 0 V = some (X, [])) : spec_l13Values k s 0 true V 0 L [] = some (((), (V.length : Int)), valsAt L X) := by
  obtain ⟨k', rfl⟩ : ∃ q, k = q + 7 := ⟨k - 7, by omega⟩
  have h := svals_ok (k' + 7) s hs hn hk V hV L 6 (k' + 6) 0 s.length hS (Nat.le_refl _) (by omega) (by omega)
  have h := h 0 0 0 0 X [] (Nat.zero_le _) (by simpa using he) 1 0 (k' + 6) [] (by omega) (by omega) (by omega) (by simp)
  show spec_l13Values.b (k' + 7) (spec_l13Values.rec (k' + 7) (k' + 6)) s 0 true V 0 L [] = _
  simp only [spec_l13Values.b, Bool.not_true, cond_false, Option.bind_some, spec_l13Values.c5]
  have h : spec_l13Values.l6 (k' + 7) (spec_l13Values.rec (k' + 7) (k' + 6)) (k' + 7) s 0 V 0 L 1 0 [] = _ := h
  rw [h]
  simp only [spec_l13Values.l6, decide_eq_false (show ¬ ((0 : Int) + 1 < 1) by omega), cond_false, List.nil_append, List.length_nil, Nat.sub_zero]
end
end Go.Law
end

section
/- The walker's instance of RecValues: it folds what is come to. Printed by program. -/
set_option linter.unusedVariables false
set_option linter.unusedSimpArgs false
set_option linter.unusedSectionVars false
namespace Go.Law
open Go.Am Go.Fn

def WV.P (m : Nat) (acc : List TVal) : Prop := acc.length + m ≤ 4294967295
def WV.stp (L : Int) (acc : List TVal) (e : Ev) : List TVal := if e.leaf = true ∧ (e.at_ : Int) = L then acc ++ [e.v] else acc
theorem WV.stp_none (L : Int) (a : Nat) (rep def_ : Int) (acc : List TVal) : WV.stp L acc ⟨a, false, rep, def_, zv⟩ = acc := by simp [WV.stp]
theorem WV.P_stp (L : Int) (acc : List TVal) (e : Ev) (m : Nat) (h : WV.P (m + 1) acc) : WV.P m (WV.stp L acc e) := by
  unfold WV.P WV.stp at *
  split
  · simp; omega
  · omega
theorem WV.P_le (acc : List TVal) (m n : Nat) (h : WV.P m acc) (hn : n ≤ m) : WV.P n acc := by unfold WV.P at *; omega

section
variable (k : Nat) (s : List TCol) (lv : List Int) (li L : Int) (hL : rdL lv li = some L)
include hL
theorem WV.leaf_ok (a : Nat) (rep def_ : Int) (v : TVal) (acc : List TVal) (m : Nat) (hP : WV.P (m + 1) acc) (ha : a < s.length) (hc : ∀ c, s[a]? = some c → c.2.1 ≠ 7) :
    impl_RecValues_1 k (a : Int) rep def_ v () li () lv acc = some ((), ((), li, (), lv, WV.stp L acc ⟨a, true, rep, def_, v⟩)) := by
  unfold impl_RecValues_1 WV.stp
  unfold WV.P at hP
  simp only [hL, Option.bind_some]
  by_cases h : (a : Int) = L
  · rw [beqT h, cond_true, lim_ok (by simp; omega), cond_true, if_pos ⟨trivial, h⟩]
  · rw [beqF h, cond_false, if_neg (fun hh => h hh.2)]
theorem WV.none_ok (a : Nat) (rep def_ : Int) (acc : List TVal) (m : Nat) (hP : WV.P (m + 1) acc) (ha : a < s.length) (hc : ∀ c, s[a]? = some c → c.2.1 ≠ 7) : impl_RecValues_2 k (a : Int) rep def_ = some () := rfl
end

section
variable (k : Nat) (s : List TCol) (hs : s.length ≤ 20) (hn : ∀ c, c ∈ s → c.1.size < k ∧ c.1.size < 1000000000 ∧ I64 c.2.2.2.1) (hk : 2000000 ≤ k) (lv : List Int) (li L : Int) (hL : rdL lv li = some L)
include hs hn hk hL

theorem WV.P_fold : ∀ (X : List Ev) (acc : (List TVal)) (m : Nat), WV.P  (m + X.length) (acc) → WV.P  (m) (X.foldl (WV.stp L) acc)
  | [], acc, m, h => h
  | e :: X, acc, m, h => by
    rw [List.foldl_cons]
    refine WV.P_fold X ((WV.stp L) acc e) m (WV.P_stp L acc e (m + X.length) ?_)
    have e1 : m + X.length + 1 = m + (e :: X).length := by simp; omega
    rw [e1]; exact h

theorem WV.next_cons (v : TVal) (V : List TVal) (hV : V.length ≤ 1048576) (acc : (List TVal)) :
    impl_walker_next_of_RecValues_1_RecValues_2 k (s, v :: V, false, ((), (), (), ()), (), ()) () lv li () acc = some (v, ((s, V, false, ((), (), (), ()), (), ()), (), lv, li, (), acc)) := by
  unfold impl_walker_next_of_RecValues_1_RecValues_2
  have hz : (((v :: V).length : Int) == 0) = false := beqF (by simp; omega)
  have hcut : cutL (v :: V) 1 ((v :: V).length : Int) = V := by
    unfold cutL
    rw [Int.toNat_natCast, List.take_length]; rfl
  have hr : rdL (v :: V) 0 = some v := rfl
  simp only [cond_false, hz, Option.bind_some, hr, hcut]
  rw [inSl_ok (by omega) (by simp; omega) (by omega), cond_true]

theorem WV.next_nil (acc : (List TVal)) : impl_walker_next_of_RecValues_1_RecValues_2 k (s, [], false, ((), (), (), ()), (), ()) () lv li () acc = some (zv, ((s, [], true, ((), (), (), ()), (), ()), (), lv, li, (), acc)) := by
  unfold impl_walker_next_of_RecValues_1_RecValues_2
  simp only [cond_false, List.length_nil, Option.bind_some]
  rfl

theorem WV.count_cons (v : TVal) (V : List TVal) (hV : V.length ≤ 1048576) (most : Int) (acc : (List TVal)) :
    impl_walker_count_of_RecValues_1_RecValues_2 k most (s, v :: V, false, ((), (), (), ()), (), ()) () lv li () acc = some (if cbad v most then 0 else v.1, ((s, V, cbad v most, ((), (), (), ()), (), ()), (), lv, li, (), acc)) := by
  unfold impl_walker_count_of_RecValues_1_RecValues_2 cbad
  simp only [WV.next_cons k s hs hn hk lv li L hL v V hV acc, Option.bind_some, within_eq, cst]
  generalize (!eqS v.2.1 ⟨#[]⟩ || !(decide (0 ≤ v.1) && decide (v.1 ≤ most))) = b
  cases b <;> rfl

theorem WV.count_nil (most : Int) (hm : 0 ≤ most) (acc : (List TVal)) : impl_walker_count_of_RecValues_1_RecValues_2 k most (s, [], false, ((), (), (), ()), (), ()) () lv li () acc = some (0, ((s, [], true, ((), (), (), ()), (), ()), (), lv, li, (), acc)) := by
  unfold impl_walker_count_of_RecValues_1_RecValues_2
  have hz : eqS (⟨#[]⟩ : ByteArray) ⟨#[]⟩ = true := by rw [eqS_iff]; simp
  have hw : (decide ((0 : Int) ≤ 0) && decide ((0 : Int) ≤ most)) = true := by simp; omega
  simp only [WV.next_nil k s hs hn hk lv li L hL acc, Option.bind_some, zv, within_eq, hz, hw, Bool.not_true, cond_false]

theorem WV.miss_ok (d a nx : Nat) (h : SubC s d a nx) (hd : d ≤ 6) (hnx : nx ≤ s.length) (rep def_ : Int) (V : List TVal) (bad : Bool) (acc : (List TVal)) (hP : WV.P  (20) (acc)) :
    impl_walker_missing_of_RecValues_1_RecValues_2 k (a : Int) rep def_ (s, V, bad, ((), (), (), ()), (), ()) () lv li () acc = some ((nx : Int), ((s, V, bad, ((), (), (), ()), (), ()), (), lv, li, (), (miss s rep def_ (nx - a) a).foldl (WV.stp L) acc)) := by
  have key : ∀ (m n i : Nat) (acc : (List TVal)), i + m = nx → m < n → WV.P  (m) (acc) → impl_walker_missing_of_RecValues_1_RecValues_2.l3 k n rep def_ (nx : Int) (i : Int) (s, V, bad, ((), (), (), ()), (), ()) () lv li () acc = some ((nx : Int), ((s, V, bad, ((), (), (), ()), (), ()), (), lv, li, (), (miss s rep def_ m i).foldl (WV.stp L) acc)) := by
    intro m
    induction m with
    | zero =>
      intro n i acc hi hn _
      obtain ⟨n, rfl⟩ : ∃ j, n = j + 1 := ⟨n - 1, by omega⟩
      simp only [impl_walker_missing_of_RecValues_1_RecValues_2.l3, decide_eq_false (show ¬ (i : Int) < (nx : Int) by omega), cond_false, miss, List.foldl_nil]
    | succ m ih =>
      intro n i acc hi hn hP
      obtain ⟨n, rfl⟩ : ∃ j, n = j + 1 := ⟨n - 1, by omega⟩
      obtain ⟨c, hc, hc'⟩ := rdL_some (xs := s) (i := (i : Int)) (by omega) (by omega)
      have hc' : s[i]? = some c := by simpa using hc'
      have hi1 : IntKind.wrap .i64 ((i : Int) + 1) = ((i + 1 : Nat) : Int) := by rw [w64 (by omega) (by omega)]; omega
      simp only [impl_walker_missing_of_RecValues_1_RecValues_2.l3, decide_eq_true (show (i : Int) < (nx : Int) by omega), cond_true, hc, Option.bind_some, impl_walker_missing_of_RecValues_1_RecValues_2.c4, hi1, miss, hc', List.foldl_append]
      by_cases h7 : c.2.1 = 7
      · rw [bneF h7, cond_false, if_pos h7, List.foldl_nil]
        exact ih n (i + 1) acc (by omega) (by omega) (WV.P_le  acc (m + 1) m hP (by omega))
      · have hno := WV.none_ok k s lv li L hL i rep def_ acc m hP (by omega) (fun c' h' => by rw [hc'] at h'; cases h'; exact h7)
        rw [bneT h7, cond_true, if_neg h7, List.foldl_cons, List.foldl_nil]
        simp only [hno, Option.bind_some, WV.stp_none]
        exact ih n (i + 1) _ (by omega) (by omega) (WV.P_le  acc (m + 1) m hP (by omega))
  unfold impl_walker_missing_of_RecValues_1_RecValues_2
  have hlt := SubC_lt _ _ _ h
  have hca := colAfter_sub k s hs hn (by omega) h hd hnx
  simp only [hca, Option.bind_some]
  exact key (nx - a) k a acc (by omega) (by omega) (WV.P_le  acc 20 (nx - a) hP (by omega))

def WV.Good (s : List TCol) (lv : List Int) (li L : Int) (r : EvR) (o : Option (Int × ((List TCol) × (List TVal) × Bool × (Unit × Unit × Unit × Unit) × Unit × Unit) × Unit × (List Int) × Int × Unit × (List TVal))) (nx : Nat) (acc : (List TVal)) : Prop :=
  match r with
  | some (X, W) => o = some ((nx : Int), ((s, W, false, ((), (), (), ()), (), ()), (), lv, li, (), X.foldl (WV.stp L) acc))
  | none => ∃ (nx' : Int) (V' : List TVal) (acc' : (List TVal)), o = some (nx', ((s, V', true, ((), (), (), ()), (), ()), (), lv, li, (), acc'))

theorem WV.items_ok (S : Int → Int → Int → Int → ((List TCol) × (List TVal) × Bool × (Unit × Unit × Unit × Unit) × Unit × Unit) → Unit → (List Int) → Int → Unit → (List TVal) → Option (Int × ((List TCol) × (List TVal) × Bool × (Unit × Unit × Unit × Unit) × Unit × Unit) × Unit × (List Int) × Int × Unit × (List TVal))) (a nx : Nat) (hca : impl_colAfter k s (a : Int) 1 = some (nx : Int)) (C : List TVal → EvR) (hC : ∀ V, EvG V (C V)) (rep def_ deep : Int) (n : Nat) (hn100 : n ≤ 100) (hdef : IntKind.wrap .i64 (def_ + 1) = def_ + 1)
    (h : ∀ V acc, V.length ≤ 1048576 → WV.P  (20 * V.length + 20) (acc) → WV.Good s lv li L (C V) (S (a : Int) deep (def_ + 1) deep (s, V, false, ((), (), (), ()), (), ()) () lv li () acc) nx acc) :
    ∀ (m j f : Nat) (V : List TVal) (acc : (List TVal)), n = j + m → 1 ≤ j → m < f → V.length ≤ 1048576 → WV.P  (20 * V.length + 20) (acc) →
      WV.Good s lv li L (evItems C m V) (impl_walker_col_of_RecValues_1_RecValues_2.l14 k S f (a : Int) def_ deep (n : Int) (j : Int) (s, V, false, ((), (), (), ()), (), ()) () lv li () acc) nx acc := by
  intro m
  induction m with
  | zero =>
    intro j f V acc hj h1 hf hV hP
    obtain ⟨f, rfl⟩ : ∃ q, f = q + 1 := ⟨f - 1, by omega⟩
    simp only [evItems, WV.Good, impl_walker_col_of_RecValues_1_RecValues_2.l14, decide_eq_false (show ¬ (j : Int) < (n : Int) by omega), cond_false, Option.bind_some, hca, List.foldl_nil]
  | succ m ih =>
    intro j f V acc hj h1 hf hV hP
    obtain ⟨f, rfl⟩ : ∃ q, f = q + 1 := ⟨f - 1, by omega⟩
    have hj1 : IntKind.wrap .i64 ((j : Int) + 1) = ((j + 1 : Nat) : Int) := by rw [w64 (by omega) (by omega)]; omega
    have g := h V acc hV hP
    simp only [evItems, evPair, impl_walker_col_of_RecValues_1_RecValues_2.l14, decide_eq_true (show (j : Int) < (n : Int) by omega), cond_true, Bool.not_false, Option.bind_some, hdef, hj1]
    cases hr : C V with
    | none =>
      rw [hr] at g
      obtain ⟨nx', V', acc', e⟩ := g
      simp only [WV.Good]
      simp only [e, Option.bind_some]
      obtain ⟨f, rfl⟩ : ∃ q, f = q + 1 := ⟨f - 1, by omega⟩
      simp only [impl_walker_col_of_RecValues_1_RecValues_2.l14, csf, Bool.not_true, Bool.and_false, Option.bind_some, cond_false, hca]
      exact ⟨_, _, _, rfl⟩
    | some q =>
      obtain ⟨X, W⟩ := q
      rw [hr] at g
      simp only [WV.Good] at g
      obtain ⟨g1, g2, _⟩ := hC V X W hr
      have i := ih (j + 1) f W (X.foldl (WV.stp L) acc) (by omega) (by omega) (by omega) (by omega) (WV.P_fold k s hs hn hk lv li L hL X acc (20 * W.length + 20) (WV.P_le  acc _ _ hP (by omega)))
      simp only [g, Option.bind_some]
      cases hr2 : evItems C m W with
      | none => rw [hr2] at i; exact i
      | some q2 =>
        obtain ⟨Y, U⟩ := q2
        rw [hr2] at i
        simp only [WV.Good] at i ⊢
        rw [i, List.foldl_append]

theorem WV.part_ok (d D a nx : Nat) (h : SubC s d a nx) (hd : d ≤ 6) (hnx : nx ≤ s.length) (rep def_ deep : Int) (h0 : 0 ≤ def_) (h1 : def_ ≤ 1000) (h2 : 0 ≤ deep) (h3 : deep ≤ 1000)
    (P : ∀ (r q p : Int) (V : List TVal) (acc : (List TVal)), 0 ≤ q → q ≤ def_ + 1 → 0 ≤ p → p ≤ deep + 1 → V.length ≤ 1048576 → WV.P  (20 * V.length + 20) (acc) → WV.Good s lv li L (evC s d a r q p V) ((impl_walker_body_of_RecValues_1_RecValues_2.rec k D).1 (a : Int) r q p (s, V, false, ((), (), (), ()), (), ()) () lv li () acc) nx acc)
    (V : List TVal) (acc : (List TVal)) (hV : V.length ≤ 1048576) (hP : WV.P  (20 * V.length + 20) (acc)) :
    WV.Good s lv li L (evPart s (evC s d a) nx a rep def_ deep V) ((impl_walker_body_of_RecValues_1_RecValues_2.rec k (D + 1)).2 (a : Int) rep def_ deep (s, V, false, ((), (), (), ()), (), ()) () lv li () acc) nx acc := by
  have hlt := SubC_lt _ _ _ h
  have hmiss := WV.miss_ok k s hs hn hk lv li L hL d a nx h hd hnx
  have hca := colAfter_sub k s hs hn (by omega) h hd hnx
  have hG := fun r p q V => evC_G hs d a r p q V
  obtain ⟨d', rfl⟩ : ∃ q, d = q + 1 := ⟨d - 1, by cases d with
    | zero => exact h.elim
    | succ d => omega⟩
  obtain ⟨c, hc, hco, _, _⟩ := h
  have hrep : c.2.2.1 = 0 ∨ c.2.2.1 = 1 ∨ c.2.2.1 = 2 := by
    unfold colOk at hco
    simp only [Bool.and_eq_true, decide_eq_true_eq] at hco
    omega
  have hd1 : IntKind.wrap .i64 (def_ + 1) = def_ + 1 := w64 (by omega) (by omega)
  have hp1 : IntKind.wrap .i64 (deep + 1) = deep + 1 := w64 (by omega) (by omega)
  simp only [impl_walker_body_of_RecValues_1_RecValues_2.rec, impl_walker_col_of_RecValues_1_RecValues_2.b, rdL_nat, hc, Option.bind_some, evPart]
  generalize hgC : evC s (d' + 1) a = C at *
  rcases hrep with hr | hr | hr
  · -- Required
    rw [if_pos hr]
    simp only [beqF (show ¬ c.2.2.1 = 1 by omega), beqF (show ¬ c.2.2.1 = 2 by omega), cond_false, impl_walker_col_of_RecValues_1_RecValues_2.c18]
    have g := P rep def_ deep V acc h0 (by omega) h2 (by omega) hV hP
    cases hr2 : C rep def_ deep V with
    | none =>
      rw [hr2] at g
      obtain ⟨nx', V', acc', e⟩ := g
      simp only [WV.Good, e, Option.bind_some]
      exact ⟨_, _, _, rfl⟩
    | some q =>
      obtain ⟨X, W⟩ := q
      rw [hr2] at g
      simp only [WV.Good] at g ⊢
      rw [g]; rfl
  · -- Optional
    rw [if_neg (by omega)]
    simp only [beqT hr, cond_true, impl_walker_col_of_RecValues_1_RecValues_2.c18]
    cases V with
    | nil =>
      simp only [WV.count_nil k s hs hn hk lv li L hL 1 (by omega) acc, Option.bind_some, beqT (show (0 : Int) = 0 from rfl), cond_true, hmiss rep def_ [] true acc (WV.P_le  acc _ _ hP (by simp))]
      exact ⟨_, _, _, rfl⟩
    | cons v V =>
      have hV' : V.length ≤ 1048576 := by simp at hV; omega
      have hl20 : 20 * (v :: V).length + 20 = 20 * V.length + 40 := by simp; omega
      rw [hl20] at hP
      simp only [WV.count_cons k s hs hn hk lv li L hL v V hV' 1 acc, Option.bind_some]
      rw [if_neg (by omega)]
      cases hb : cbad v 1 with
      | true =>
        simp only [if_true, beqT (show (0 : Int) = 0 from rfl), cond_true, hmiss rep def_ V true acc (WV.P_le  acc _ _ hP (by omega)), Option.bind_some]
        exact ⟨_, _, _, rfl⟩
      | false =>
        simp only [Bool.false_eq_true, if_false]
        by_cases hv0 : v.1 = 0
        · rw [if_pos hv0, beqT hv0, cond_true]
          simp only [hmiss rep def_ V false acc (WV.P_le  acc _ _ hP (by omega)), Option.bind_some]
          rfl
        · rw [if_neg hv0, beqF hv0, cond_false]
          simp only [hd1]
          have g := P rep (def_ + 1) deep V acc (by omega) (by omega) h2 (by omega) hV' (WV.P_le  acc _ _ hP (by omega))
          cases hr2 : C rep (def_ + 1) deep V with
          | none =>
            rw [hr2] at g
            obtain ⟨nx', V', acc', e⟩ := g
            simp only [WV.Good, e, Option.bind_some]
            exact ⟨_, _, _, rfl⟩
          | some q =>
            obtain ⟨X, W⟩ := q
            rw [hr2] at g
            simp only [WV.Good] at g ⊢
            rw [g]; rfl
  · -- Repeated
    rw [if_neg (by omega)]
    simp only [beqF (show ¬ c.2.2.1 = 1 by omega), beqT hr, cond_true, cond_false]
    cases V with
    | nil =>
      simp only [WV.count_nil k s hs hn hk lv li L hL 20 (by omega) acc, Option.bind_some, beqT (show (0 : Int) = 0 from rfl), cond_true, hmiss rep def_ [] true acc (WV.P_le  acc _ _ hP (by simp))]
      exact ⟨_, _, _, rfl⟩
    | cons v V =>
      have hV' : V.length ≤ 1048576 := by simp at hV; omega
      have hl20 : 20 * (v :: V).length + 20 = 20 * V.length + 40 := by simp; omega
      rw [hl20] at hP
      simp only [WV.count_cons k s hs hn hk lv li L hL v V hV' 20 acc, Option.bind_some]
      rw [if_pos hr]
      cases hb : cbad v 20 with
      | true =>
        simp only [if_true, beqT (show (0 : Int) = 0 from rfl), cond_true, hmiss rep def_ V true acc (WV.P_le  acc _ _ hP (by omega)), Option.bind_some]
        exact ⟨_, _, _, rfl⟩
      | false =>
        simp only [Bool.false_eq_true, if_false]
        have hcb := cbad_false hb
        by_cases hv0 : v.1 = 0
        · rw [if_pos hv0, beqT hv0, cond_true]
          simp only [hmiss rep def_ V false acc (WV.P_le  acc _ _ hP (by omega)), Option.bind_some]
          rfl
        · rw [if_neg hv0, beqF hv0, cond_false]
          simp only [hd1, hp1]
          obtain ⟨n, hn'⟩ : ∃ n : Nat, v.1 = (n : Int) := ⟨v.1.toNat, by omega⟩
          rw [hn', Int.toNat_natCast]
          have g := P rep (def_ + 1) (deep + 1) V acc (by omega) (by omega) (by omega) (by omega) hV' (WV.P_le  acc _ _ hP (by omega))
          simp only [evPair]
          cases hr2 : C rep (def_ + 1) (deep + 1) V with
          | none =>
            rw [hr2] at g
            obtain ⟨nx', V', acc', e⟩ := g
            simp only [WV.Good, e, Option.bind_some]
            obtain ⟨k', hk'⟩ : ∃ q, k = q + 1 := ⟨k - 1, by omega⟩
            have hbad : impl_walker_col_of_RecValues_1_RecValues_2.l14 k (impl_walker_body_of_RecValues_1_RecValues_2.rec k D).1 k (a : Int) def_ (deep + 1) (n : Int) 1 (s, V', true, ((), (), (), ()), (), ()) () lv li () acc' = some ((nx : Int), ((s, V', true, ((), (), (), ()), (), ()), (), lv, li, (), acc')) := by
              conv => lhs; arg 3; rw [hk']
              simp only [impl_walker_col_of_RecValues_1_RecValues_2.l14, csf, Bool.not_true, Bool.and_false, Option.bind_some, cond_false, hca]
            rw [hbad]
            exact ⟨_, _, _, rfl⟩
          | some q =>
            obtain ⟨X, W⟩ := q
            rw [hr2] at g
            simp only [WV.Good] at g
            obtain ⟨g1, g2, _⟩ := hG rep (def_ + 1) (deep + 1) V X W hr2
            have i := WV.items_ok k s hs hn hk lv li L hL (impl_walker_body_of_RecValues_1_RecValues_2.rec k D).1 a nx hca (C (deep + 1) (def_ + 1) (deep + 1)) (hG _ _ _) rep def_ (deep + 1) n (by omega) hd1
              (fun V acc hV hP => P (deep + 1) (def_ + 1) (deep + 1) V acc (by omega) (by omega) (by omega) (by omega) hV hP) (n - 1) 1 k W (X.foldl (WV.stp L) acc) (by omega) (by omega) (by omega) (by omega)
              (WV.P_fold k s hs hn hk lv li L hL X acc (20 * W.length + 20) (WV.P_le  acc _ _ hP (by omega)))
            simp only [g, Option.bind_some]
            cases hr3 : evItems (C (deep + 1) (def_ + 1) (deep + 1)) (n - 1) W with
            | none => rw [hr3] at i; exact i
            | some q2 =>
              obtain ⟨Y, U⟩ := q2
              rw [hr3] at i
              simp only [WV.Good] at i ⊢
              rw [List.foldl_append]
              exact i

theorem WV.parts_ok (d D : Nat) (hd : d ≤ 6) (many : Int) (hm : many ≤ 1000000) (nx : Nat) (hnx : nx ≤ s.length) (rep def_ deep : Int)
    (Q : ∀ pl mid, SubC s d pl mid → mid ≤ s.length → ∀ (V : List TVal) (acc : (List TVal)), V.length ≤ 1048576 → WV.P  (20 * V.length + 20) (acc) →
      WV.Good s lv li L (evPart s (evC s d pl) mid pl rep def_ deep V) ((impl_walker_body_of_RecValues_1_RecValues_2.rec k D).2 (pl : Int) rep def_ deep (s, V, false, ((), (), (), ()), (), ()) () lv li () acc) mid acc) :
    ∀ (m pl : Nat) (i : Int) (names : List ByteArray) (f : Nat) (V : List TVal) (acc : (List TVal)), PartsC (SubC s d) s m pl names nx → many - i = m → 0 ≤ i → m < f → V.length ≤ 1048576 → WV.P  (20 * V.length + 20) (acc) →
      WV.Good s lv li L (evParts (fun a V => evPart s (evC s d a) (endC s d a) a rep def_ deep V) (endC s d) m pl V) (impl_walker_body_of_RecValues_1_RecValues_2.l10 k (impl_walker_body_of_RecValues_1_RecValues_2.rec k D).2 f rep def_ deep (pl : Int) many i (s, V, false, ((), (), (), ()), (), ()) () lv li () acc) nx acc := by
  intro m
  induction m with
  | zero =>
    intro pl i names f V acc hp hi h0 hf hV hP
    have hp : pl = nx := hp
    subst hp
    obtain ⟨f, rfl⟩ : ∃ q, f = q + 1 := ⟨f - 1, by omega⟩
    simp only [evParts, WV.Good, impl_walker_body_of_RecValues_1_RecValues_2.l10, decide_eq_false (show ¬ (i < many) by omega), cond_false, impl_walker_body_of_RecValues_1_RecValues_2.c14, List.foldl_nil]
  | succ m ih =>
    intro pl i names f V acc hp hi h0 hf hV hP
    obtain ⟨q, mid, q1, q2, q3, q4⟩ := hp
    have hmn := PartsC_nx (SubC_lt d) _ _ _ _ q4
    obtain ⟨f, rfl⟩ : ∃ q, f = q + 2 := ⟨f - 2, by omega⟩
    have hi1 : IntKind.wrap .i64 (i + 1) = i + 1 := w64 (by omega) (by omega)
    have hend : endC s d pl = mid := endC_eq d q3 d (Nat.le_refl _)
    have g := Q pl mid q3 (by omega) V acc hV hP
    have hG : EvG V (evPart s (evC s d pl) mid pl rep def_ deep V) := EvG.part hs (fun r p q V => evC_G hs d pl r p q V) mid pl rep def_ deep V
    rw [show f + 2 = (f + 1) + 1 by rfl]
    simp only [evParts, evPair, hend, impl_walker_body_of_RecValues_1_RecValues_2.l10, decide_eq_true (show i < many by omega), cond_true, cond_false, hi1]
    cases hr : evPart s (evC s d pl) mid pl rep def_ deep V with
    | none =>
      rw [hr] at g
      obtain ⟨nx', V', acc', e⟩ := g
      simp only [WV.Good, e, Option.bind_some, impl_walker_body_of_RecValues_1_RecValues_2.c14, cond_true]
      by_cases h2 : i + 1 < many
      · rw [decide_eq_true h2, cond_true]; exact ⟨_, _, _, rfl⟩
      · rw [decide_eq_false h2, cond_false]; exact ⟨_, _, _, rfl⟩
    | some q =>
      obtain ⟨X, W⟩ := q
      rw [hr] at g
      simp only [WV.Good] at g
      obtain ⟨g1, g2, _⟩ := hG X W hr
      have i2 := ih mid (i + 1) _ (f + 1) W (X.foldl (WV.stp L) acc) q4 (by omega) (by omega) (by omega) (by omega) (WV.P_fold k s hs hn hk lv li L hL X acc (20 * W.length + 20) (WV.P_le  acc _ _ hP (by omega)))
      simp only [g, Option.bind_some]
      cases hr2 : evParts (fun a V => evPart s (evC s d a) (endC s d a) a rep def_ deep V) (endC s d) m mid W with
      | none => rw [hr2] at i2; exact i2
      | some q2 =>
        obtain ⟨Y, U⟩ := q2
        rw [hr2] at i2
        simp only [WV.Good] at i2 ⊢
        rw [List.foldl_append]
        exact i2

theorem WV.body_ok : ∀ (d D a nx : Nat), SubC s d a nx → nx ≤ s.length → d ≤ 6 → 2 * d ≤ D → ∀ (rep def_ deep : Int) (V : List TVal) (acc : (List TVal)), 0 ≤ def_ → def_ + d ≤ 1001 → 0 ≤ deep → deep + d ≤ 1001 → V.length ≤ 1048576 → WV.P  (20 * V.length + 20) (acc) →
    WV.Good s lv li L (evC s d a rep def_ deep V) ((impl_walker_body_of_RecValues_1_RecValues_2.rec k D).1 (a : Int) rep def_ deep (s, V, false, ((), (), (), ()), (), ()) () lv li () acc) nx acc := by
  intro d
  induction d with
  | zero => intro D a nx h; exact h.elim
  | succ d ih =>
    intro D a nx h hnx hd hD rep def_ deep V acc h0 h1 h2 h3 hV hP
    obtain ⟨D, rfl⟩ : ∃ q, D = q + 2 := ⟨D - 2, by omega⟩
    have hlt := SubC_lt _ _ _ h
    obtain ⟨c, hc, hco, _, hp⟩ := h
    have hcm := (hn c (List.mem_of_getElem? hc)).2.2
    have ha1 : IntKind.wrap .i64 ((a : Int) + 1) = ((a + 1 : Nat) : Int) := by rw [w64 (by omega) (by omega)]; omega
    have hmp := PartsC_le (SubC_lt d) _ _ _ _ hp
    by_cases h7 : c.2.1 = 7
    · have hmn : 0 ≤ c.2.2.2.1 := by
        unfold colOk at hco
        rw [h7, tyOk_7] at hco
        simp at hco
        omega
      have key := WV.parts_ok k s hs hn hk lv li L hL d (D + 1) (by omega) c.2.2.2.1 (by omega) nx hnx rep def_ deep
        (fun pl mid hs1 hm1 V acc hV hP => WV.part_ok k s hs hn hk lv li L hL d D pl mid hs1 (by omega) hm1 rep def_ deep h0 (by omega) h2 (by omega)
          (fun r q p V acc q0 q1 q2 q3 hV hP => ih D pl mid hs1 hm1 (by omega) (by omega) r q p V acc q0 (by omega) q2 (by omega) hV hP) V acc hV hP) c.2.2.2.1.toNat (a + 1) 0 [] k V acc hp (by omega) (by omega) (by omega) hV hP
      have e : (impl_walker_body_of_RecValues_1_RecValues_2.rec k (D + 2)).1 (a : Int) rep def_ deep (s, V, false, ((), (), (), ()), (), ()) () lv li () acc = impl_walker_body_of_RecValues_1_RecValues_2.l10 k (impl_walker_body_of_RecValues_1_RecValues_2.rec k (D + 1)).2 k rep def_ deep ((a + 1 : Nat) : Int) c.2.2.2.1 0 (s, V, false, ((), (), (), ()), (), ()) () lv li () acc := by
        rw [show D + 2 = (D + 1) + 1 from rfl]
        simp only [impl_walker_body_of_RecValues_1_RecValues_2.rec, impl_walker_body_of_RecValues_1_RecValues_2.b, rdL_nat, hc, Option.bind_some, bneF h7, cond_false, ha1]
      rw [e]
      simp only [evC, hc]
      rw [if_pos h7]
      exact key
    · have hm0 : c.2.2.2.1.toNat = 0 := by
        unfold colOk at hco
        rw [beqF h7] at hco
        simp at hco
        omega
      rw [hm0] at hp
      have hp : a + 1 = nx := hp
      subst hp
      rw [show D + 2 = (D + 1) + 1 from rfl]
      simp only [evC, impl_walker_body_of_RecValues_1_RecValues_2.rec, impl_walker_body_of_RecValues_1_RecValues_2.b, rdL_nat, hc, Option.bind_some, bneT h7, cond_true]
      rw [if_neg h7]
      cases V with
      | nil =>
        simp only [WV.next_nil k s hs hn hk lv li L hL acc, Option.bind_some, impl_walker_body_of_RecValues_1_RecValues_2.d3, Bool.not_true, cond_false, impl_walker_body_of_RecValues_1_RecValues_2.c5, impl_walker_body_of_RecValues_1_RecValues_2.c7]
        exact ⟨_, _, _, rfl⟩
      | cons v V =>
        have hV' : V.length ≤ 1048576 := by simp at hV; omega
        have hle := WV.leaf_ok k s lv li L hL a rep def_ v acc (20 * V.length + 39) (WV.P_le  acc _ _ hP (by simp; omega)) (by omega) (fun c' h' => by rw [hc] at h'; cases h'; exact h7)
        simp only [WV.next_cons k s hs hn hk lv li L hL v V hV' acc, Option.bind_some, impl_walker_body_of_RecValues_1_RecValues_2.d3, Bool.not_false, cond_true, rdL_nat, hc, valOk_eq]
        cases hvo : vok c.2.1 v with
        | false =>
          simp only [Bool.not_false, cond_true, impl_walker_body_of_RecValues_1_RecValues_2.c5, Bool.not_true, cond_false, impl_walker_body_of_RecValues_1_RecValues_2.c7, Bool.false_eq_true, if_false]
          exact ⟨_, _, _, rfl⟩
        | true =>
          simp only [Bool.not_true, cond_false, impl_walker_body_of_RecValues_1_RecValues_2.c5, Bool.not_false, cond_true, hle, Option.bind_some, impl_walker_body_of_RecValues_1_RecValues_2.c7, ha1, if_true]
          rfl

theorem WV.walk_ok (hS : SubC s 6 0 s.length) (c0 : TCol) (hc0 : s[0]? = some c0) (h7 : c0.2.1 = 7) (hm0 : 0 < c0.2.2.2.1) (V : List TVal) (acc : (List TVal)) (hP : WV.P  (6020) (acc)) :
    (∀ X, V.length ≤ 300 → evC s 6 0 0 0 0 V = some (X, []) → impl_walk_of_RecValues_1_RecValues_2 k s (V, ()) ((), (), (), ()) () () lv li () acc = some ((true, (), lv, li, (), (X.foldl (WV.stp L) acc)))) ∧
    ((V.length ≤ 300 → ∀ X, evC s 6 0 0 0 0 V ≠ some (X, [])) → ∃ acc' : (List TVal), impl_walk_of_RecValues_1_RecValues_2 k s (V, ()) ((), (), (), ()) () () lv li () acc = some ((false, (), lv, li, (), acc'))) := by
  obtain ⟨k', hk'⟩ : ∃ q, k = q + 2 := ⟨k - 2, by omega⟩
  have hb : V.length ≤ 300 → WV.Good s lv li L (evC s 6 0 0 0 0 V) (impl_walker_body_of_RecValues_1_RecValues_2 k 0 0 0 0 (s, V, false, ((), (), (), ()), (), ()) () lv li () acc) s.length acc := fun h300 =>
    WV.body_ok k s hs hn hk lv li L hL 6 k 0 s.length hS (Nat.le_refl _) (by omega) (by omega) 0 0 0 V acc (by omega) (by omega) (by omega) (by omega) (by omega) (WV.P_le  acc _ _ hP (by omega))
  refine ⟨fun X h300 he => ?_, fun hno => ?_⟩
  · have g := hb h300
    rw [he] at g
    have g : impl_walker_body_of_RecValues_1_RecValues_2 k 0 0 0 0 (s, V, false, ((), (), (), ()), (), ()) () lv li () acc = some ((s.length : Int), ((s, [], false, ((), (), (), ()), (), ()), (), lv, li, (), (X.foldl (WV.stp L) acc))) := g
    unfold impl_walk_of_RecValues_1_RecValues_2
    simp only [decide_eq_false (show ¬ (V.length : Int) > 300 by omega), g, Option.bind_some, Bool.not_false, cond_true, List.length_nil]
    rfl
  · by_cases h300 : V.length ≤ 300
    · have g := hb h300
      unfold impl_walk_of_RecValues_1_RecValues_2
      simp only [decide_eq_false (show ¬ (V.length : Int) > 300 by omega)]
      cases he : evC s 6 0 0 0 0 V with
      | none =>
        rw [he] at g
        obtain ⟨nx', V', acc', g⟩ := g
        simp only [g, Option.bind_some, Bool.not_true, cond_false]
        exact ⟨_, rfl⟩
      | some q =>
        obtain ⟨X, W⟩ := q
        rw [he] at g
        have g : impl_walker_body_of_RecValues_1_RecValues_2 k 0 0 0 0 (s, V, false, ((), (), (), ()), (), ()) () lv li () acc = some ((s.length : Int), ((s, W, false, ((), (), (), ()), (), ()), (), lv, li, (), (X.foldl (WV.stp L) acc))) := g
        have hW : ((W.length : Int) == 0) = false := beqF (fun h0 => hno h300 X (by
          have : W = [] := List.eq_nil_of_length_eq_zero (by omega)
          rw [he, this]))
        simp only [g, Option.bind_some, Bool.not_false, cond_true, hW]
        exact ⟨_, rfl⟩
    · have hr0 : rdL s 0 = some c0 := hc0
      have e : impl_walker_body_of_RecValues_1_RecValues_2 k 0 0 0 0 (s, V, true, ((), (), (), ()), (), ()) () lv li () acc = some (1, ((s, V, true, ((), (), (), ()), (), ()), (), lv, li, (), acc)) := by
        show impl_walker_body_of_RecValues_1_RecValues_2.d k k 0 0 0 0 (s, V, true, ((), (), (), ()), (), ()) () lv li () acc = _
        unfold impl_walker_body_of_RecValues_1_RecValues_2.d
        conv => lhs; arg 1; arg 2; rw [hk']
        conv => lhs; rw [show impl_walker_body_of_RecValues_1_RecValues_2.rec k (k' + 2) = (_, _) from rfl]
        obtain ⟨k2, hk2⟩ : ∃ q, k = q + 1 := ⟨k - 1, by omega⟩
        simp only [impl_walker_body_of_RecValues_1_RecValues_2.b, hr0, Option.bind_some, bneF h7, cond_false]
        conv => lhs; arg 3; rw [hk2]
        simp only [impl_walker_body_of_RecValues_1_RecValues_2.l10, decide_eq_true hm0, cond_true, impl_walker_body_of_RecValues_1_RecValues_2.c14]
        rfl
      unfold impl_walk_of_RecValues_1_RecValues_2
      simp only [decide_eq_true (show (V.length : Int) > 300 by omega), e, Option.bind_some, Bool.not_true, cond_false]
      exact ⟨_, rfl⟩
end

end Go.Law
end

section
/- RecValues: both tell what is come to at a leaf. -/
set_option linter.unusedVariables false
set_option linter.unusedSimpArgs false
set_option linter.unusedSectionVars false
namespace Go.Law
open Go.Am Go.Fn

theorem foldl_vals (L : Int) : ∀ (X : List Ev) (acc : List TVal), X.foldl (WV.stp L) acc = acc ++ valsAt L X
  | [], acc => by simp [valsAt]
  | e :: X, acc => by
    rw [List.foldl_cons, foldl_vals L X]
    have e1 : valsAt L (e :: X) = valsAt L [e] ++ valsAt L X := valsAt_append L [e] X
    rw [e1, ← List.append_assoc]
    congr 1
    unfold WV.stp valsAt
    by_cases h : e.leaf = true ∧ (e.at_ : Int) = L
    · rw [if_pos h]; simp [h.1, h.2]
    · rw [if_neg h]
      have : (e.leaf && ((e.at_ : Int) == L)) = false := by
        rw [Bool.eq_false_iff]; intro q
        simp only [Bool.and_eq_true, beq_iff_eq] at q
        exact h q
      simp [this]

def valsOut (r : Option (List Ev)) (L : Int) : (Unit × Bool) × List TVal := match r with
  | none => (((), false), [])
  | some X => (((), true), valsAt L X)

section
variable (k : Nat) (s : List TCol) (hn : ∀ c, c ∈ s → c.1.size < k ∧ c.1.size < 1000000000 ∧ I64 c.2.2.2.1) (hk : 2000000 ≤ k)
include hn hk

theorem recVals_eq (hS : IsSchema s) (hok : spec_SchemaOk k s = some true) (hok2 : impl_SchemaOk k s = some true) (V : List TVal) (j : Int) :
    (∃ L : Nat, rdL (leavesFrom 0 s) j = some (L : Int) ∧ spec_RecValues k s (V, ()) j = some (valsOut (recEv s V) L) ∧ impl_RecValues k s (V, ()) j = some (valsOut (recEv s V) L)) ∨
    (¬ (0 ≤ j ∧ j < ((leavesFrom 0 s).length : Int)) ∧ spec_RecValues k s (V, ()) j = some (((), false), []) ∧ impl_RecValues k s (V, ()) j = some (((), false), [])) := by
  obtain ⟨v1, v2⟩ := leaves_eq k (by omega) s (by have := hS.2.1; omega)
  have hll := leavesFrom_len 0 s
  have hs20 := hS.2.1
  obtain ⟨c0, hc0, h7, hm0⟩ := schema_top hS
  obtain ⟨b, q1, _, _, q2, _⟩ := recOk_eq k hk s hn V
  have hb : b = true := by rw [hok] at q1; simpa using q1.symm
  subst hb
  unfold spec_RecValues impl_RecValues spec_SchemaLeaves impl_SchemaLeaves
  rw [hok, hok2, q2]
  simp only [Option.bind_some, Bool.not_true, cond_false, v1, v2, l1In_eq, within_eq, Bool.true_and]
  generalize hlv : leavesFrom 0 s = lv at hll
  rw [w64 (show -9223372036854775808 ≤ (lv.length : Int) - 1 by omega) (by omega)]
  by_cases hin : 0 ≤ j ∧ j < (lv.length : Int)
  · left
    have hw : (decide (0 ≤ j) && decide (j ≤ (lv.length : Int) - 1)) = true := by simp; omega
    obtain ⟨n, rfl⟩ := Int.eq_ofNat_of_zero_le hin.1
    have hnl : n < lv.length := by omega
    obtain ⟨L, e1, _, _, c, e4, e5⟩ := leavesFrom_get s [] s rfl n _ (by rw [show ([] : List TCol).length = 0 from rfl, hlv]; exact List.getElem?_eq_getElem hnl)
    have hg : rdL lv (n : Int) = some (L : Int) := by rw [rdL_nat, List.getElem?_eq_getElem hnl, e1]
    refine ⟨L, hg, ?_, ?_⟩
    · rw [hw]
      cases hr : recEv s V with
      | none => rfl
      | some X =>
        obtain ⟨x1, x2⟩ := recEv_some hr
        simp only [Option.isSome_some, Bool.not_true, cond_false, Option.bind_some, hg, svals_whole k s hs20 hn hk V (by omega) L hS.2.2.1 X x2, valsOut]
    · rw [hw]
      have hwalk := WV.walk_ok k s hs20 hn hk lv (n : Int) L hg hS.2.2.1 c0 hc0 h7 hm0 V [] (by unfold WV.P; simp)
      simp only [Bool.not_true, cond_false]
      cases hr : recEv s V with
      | none =>
        obtain ⟨acc', g⟩ := hwalk.2 (recEv_none hr)
        rw [g]; rfl
      | some X =>
        obtain ⟨x1, x2⟩ := recEv_some hr
        rw [hwalk.1 X x1 x2, foldl_vals]
        rfl
  · right
    have hw : (decide (0 ≤ j) && decide (j ≤ (lv.length : Int) - 1)) = false := by
      rw [Bool.eq_false_iff]
      intro h
      simp only [Bool.and_eq_true, decide_eq_true_eq] at h
      omega
    rw [hw]
    refine ⟨hin, ?_, rfl⟩
    cases (recEv s V).isSome <;> rfl
end
end Go.Law
end

section
/- Which leaf: both tell it. -/
set_option linter.unusedVariables false
set_option linter.unusedSimpArgs false
set_option linter.unusedSectionVars false
namespace Go.Law
open Go.Am Go.Fn

/-! ### which leaf -/
section
variable (k : Nat) (s : List TCol) (hn : ∀ c, c ∈ s → c.1.size < k ∧ c.1.size < 1000000000 ∧ I64 c.2.2.2.1) (hk : 2000000 ≤ k)
variable (hS : IsSchema s) (hok : spec_SchemaOk k s = some true) (hok2 : impl_SchemaOk k s = some true)
include hn hk hS hok hok2

theorem leafOf_eq (j : Int) : ∃ l b, spec_LeafOf k s j = some (l, b) ∧ impl_LeafOf k s j = some (l, b) ∧
    (b = true → ∃ L c, rdL (leavesFrom 0 s) j = some ((L : Nat) : Int) ∧ s[L]? = some c ∧ c.2.1 ≠ 7 ∧ j = (lnum s L : Int) ∧ l = (c.2.1, (lvD s isRep 1 L : Int), (lvD s isOpt 1 L : Int), ())) := by
  obtain ⟨v1, v2⟩ := leaves_eq k (by omega) s (by have := hS.2.1; omega)
  have hll := leavesFrom_len 0 s
  have hs20 := hS.2.1
  have hlm := leafMax_eq k s hS hn hk hok hok2 j
  unfold spec_LeafOf impl_LeafOf spec_SchemaLeaves impl_SchemaLeaves
  rw [hok, hok2]
  simp only [Option.bind_some, Bool.not_true, cond_false, v1, v2, l1In_eq, within_eq]
  generalize hlv : leavesFrom 0 s = lv at hll hlm
  rw [w64 (show -9223372036854775808 ≤ (lv.length : Int) - 1 by omega) (by omega)]
  rcases hlm with ⟨L, c, hg, h0, h1, _, hc, h7, hj, m2, m3⟩ | ⟨hin, _⟩
  · have hw : (decide (0 ≤ j) && decide (j ≤ (lv.length : Int) - 1)) = true := by simp; omega
    rw [hw]
    simp only [Bool.not_true, cond_false, hg, Option.bind_some, m2, m3, rdL_nat, hc]
    exact ⟨_, _, rfl, rfl, fun _ => ⟨L, c, rfl, hc, h7, hj, rfl⟩⟩
  · have hw : (decide (0 ≤ j) && decide (j ≤ (lv.length : Int) - 1)) = false := by
      rw [Bool.eq_false_iff]
      intro h
      simp only [Bool.and_eq_true, decide_eq_true_eq] at h
      omega
    rw [hw]
    exact ⟨_, _, rfl, rfl, fun h => by cases h⟩

end
end Go.Law
end

section
/- Which of two values is less, by both. -/
set_option linter.unusedVariables false
set_option linter.unusedSimpArgs false
namespace Go.Law
open Go.Am Go.Fn

/-! ### which of two values is less -/
theorem btS_at (b : ByteArray) (n : Nat) : btS b (n : Int) = (b.toList[n]?).map fun c => (c.toNat : Int) := by
  rw [ByteArray.toList_eq]
  show (match b.data.toList[n]? with | some b => some (b.toNat : Int) | none => none) = _
  cases b.data.toList[n]? <;> rfl

theorem toList_size (b : ByteArray) : b.toList.length = b.size := by rw [ByteArray.toList_eq, Array.length_toList]; rfl

theorem sless_loop (k : Nat) (a b : TVal) (ha : a.2.1.size ≤ 1000000) (hb : b.2.1.size ≤ 1000000) : ∀ (m f i : Nat), i + m = a.2.1.size → m < f →
    spec_ValLess.l8 k f (i : Int) a b = some (Op.bytesLess (a.2.1.toList.drop i) (b.2.1.toList.drop i)) := by
  intro m
  induction m with
  | zero =>
    intro f i h hf
    obtain ⟨f, rfl⟩ : ∃ q, f = q + 1 := ⟨f - 1, by omega⟩
    have hd : a.2.1.toList.drop i = [] := List.drop_of_length_le (by rw [toList_size]; omega)
    simp only [spec_ValLess.l8, decide_eq_false (show ¬ ((i : Int) < (a.2.1.size : Int)) by omega), cond_false, Option.bind_some, hd]
    cases hbd : b.2.1.toList.drop i with
    | nil =>
      have := List.drop_eq_nil_iff.1 hbd
      rw [toList_size] at this
      rw [decide_eq_false (by omega)]; rfl
    | cons y r =>
      have hl : (b.2.1.toList.drop i).length = (y :: r).length := by rw [hbd]
      simp only [List.length_drop, toList_size, List.length_cons] at hl
      rw [decide_eq_true (by omega)]; rfl
  | succ m ih =>
    intro f i h hf
    obtain ⟨f, rfl⟩ : ∃ q, f = q + 1 := ⟨f - 1, by omega⟩
    have hi1 : IntKind.wrap .i64 ((i : Int) + 1) = ((i + 1 : Nat) : Int) := by rw [w64 (by omega) (by omega)]; omega
    by_cases h1 : i < a.2.1.size
    · have hda : a.2.1.toList.drop i = a.2.1.toList[i]'(by rw [toList_size]; omega) :: a.2.1.toList.drop (i + 1) := List.drop_eq_getElem_cons (by rw [toList_size]; omega)
      by_cases h2 : i < b.2.1.size
      · have hdb : b.2.1.toList.drop i = b.2.1.toList[i]'(by rw [toList_size]; omega) :: b.2.1.toList.drop (i + 1) := List.drop_eq_getElem_cons (by rw [toList_size]; omega)
        have ga : btS a.2.1 (i : Int) = some ((a.2.1.toList[i]'(by rw [toList_size]; omega)).toNat : Int) := by rw [btS_at, List.getElem?_eq_getElem (by rw [toList_size]; omega)]; rfl
        have gb : btS b.2.1 (i : Int) = some ((b.2.1.toList[i]'(by rw [toList_size]; omega)).toNat : Int) := by rw [btS_at, List.getElem?_eq_getElem (by rw [toList_size]; omega)]; rfl
        simp only [spec_ValLess.l8, decide_eq_true (show (i : Int) < (a.2.1.size : Int) by omega), decide_eq_true (show (i : Int) < (b.2.1.size : Int) by omega), cond_true, Option.bind_some, ga, gb, hi1]
        rw [hda, hdb]
        generalize a.2.1.toList[i]'(by rw [toList_size]; omega) = x at *
        generalize b.2.1.toList[i]'(by rw [toList_size]; omega) = y at *
        simp only [Op.bytesLess]
        by_cases hxy : x = y
        · subst hxy
          rw [bneF rfl, cond_false, ih f (i + 1) (by omega) (by omega)]
          have : ¬ (x < x) := by simp
          simp [this]
        · have hne : ((x.toNat : Int)) ≠ (y.toNat : Int) := fun h => hxy (UInt8.toNat_inj.1 (by omega))
          rw [bneT hne, cond_true]
          have : (x == y) = false := by simpa using hxy
          rw [this, Bool.false_and, Bool.or_false]
          congr 1
          by_cases hlt : x < y
          · have := UInt8.lt_iff_toNat_lt.1 hlt
            rw [decide_eq_true (by omega), decide_eq_true hlt]
          · have : ¬ x.toNat < y.toNat := fun h => hlt (UInt8.lt_iff_toNat_lt.2 h)
            rw [decide_eq_false (by omega), decide_eq_false hlt]
      · have hd : b.2.1.toList.drop i = [] := List.drop_of_length_le (by rw [toList_size]; omega)
        simp only [spec_ValLess.l8, decide_eq_true (show (i : Int) < (a.2.1.size : Int) by omega), decide_eq_false (show ¬ ((i : Int) < (b.2.1.size : Int)) by omega), cond_true, cond_false, Option.bind_some]
        rw [hda, hd, decide_eq_false (by omega)]; rfl
    · omega

def vless (t : Int) (a b : TVal) : Bool :=
  if vok t a = true ∧ vok t b = true then
    if t = 5 then decide ((if a.1 < 0 then bits .xor .i64 a.1 9223372036854775807 else a.1) < (if b.1 < 0 then bits .xor .i64 b.1 9223372036854775807 else b.1))
    else if t = 6 then Op.bytesLess a.2.1.toList b.2.1.toList
    else decide (a.1 < b.1)
  else false

theorem vok6_size {v : TVal} (h : vok 6 v = true) : v.2.1.size ≤ 40 := by
  unfold vok at h
  rw [if_neg (by decide), if_neg (by decide), if_neg (by decide), if_pos rfl] at h
  simp only [Bool.and_eq_true, decide_eq_true_eq] at h
  omega

theorem valLess_eq (k : Nat) (hk : 2000000 ≤ k) (t : Int) (a b : TVal) : spec_ValLess k t a b = some (vless t a b) ∧ impl_ValLess k t a b = some (vless t a b) := by
  unfold spec_ValLess impl_ValLess vless
  simp only [svalOk_eq, valOk_eq, Option.bind_some]
  cases ha : vok t a with
  | false => simp
  | true =>
    cases hb : vok t b with
    | false => simp
    | true =>
      simp only [Bool.not_true, cond_false, Option.bind_some, and_self, if_true]
      by_cases h5 : t = 5
      · rw [beqT h5, cond_true, cond_true, if_pos h5]
        unfold spec_ValLess.d5 impl_ValLess.d5 spec_FloatKey impl_FloatKey
        constructor <;>
        · by_cases h1 : a.1 < 0 <;> by_cases h2 : b.1 < 0 <;> simp [h1, h2]
      · rw [beqF h5, cond_false, cond_false, if_neg h5]
        by_cases h6 : t = 6
        · subst h6
          have s1 := vok6_size ha
          have s2 := vok6_size hb
          have := sless_loop k a b (by omega) (by omega) a.2.1.size k 0 (by omega) (by omega)
          have this : spec_ValLess.l8 k k 0 a b = _ := this
          rw [beqT rfl, cond_true, cond_true, if_pos rfl, this]
          exact ⟨rfl, rfl⟩
        · rw [beqF h6, cond_false, cond_false, if_neg h6]
          exact ⟨rfl, rfl⟩
end Go.Law
end

section
/- Conditions: PredOk and PredHolds, the program's and the reference's. -/
set_option linter.unusedVariables false
set_option linter.unusedSimpArgs false
set_option linter.unusedSectionVars false
namespace Go.Law
open Go.Am Go.Fn

section
variable (k : Nat) (s : List TCol) (hn : ∀ c, c ∈ s → c.1.size < k ∧ c.1.size < 1000000000 ∧ I64 c.2.2.2.1) (hk : 2000000 ≤ k)
variable (hS : IsSchema s) (hok : spec_SchemaOk k s = some true) (hok2 : impl_SchemaOk k s = some true)
include hn hk hS hok hok2

/-! ### which single conditions are right -/
theorem plain_eq (x : TPred) : ∃ b, spec_l20Plain k s x = some b ∧
    (1 ≤ x.1 ∧ x.1 ≤ 4 → impl_plainPred k s x = some b) ∧
    (x.1 = 5 ∨ x.1 = 6 → b = ((x.2.1 == 0) && ((x.2.2.1.1 == 0) && eqS x.2.2.1.2.1 ⟨#[]⟩))) ∧
    (x.1 = 7 → b = ((x.2.1 == 0) && (((x.2.2.1.1 == 0) && eqS x.2.2.1.2.1 ⟨#[]⟩) && (x.2.2.2.2.1 == 0)))) ∧
    (¬ (1 ≤ x.1 ∧ x.1 ≤ 7) → b = false) := by
  obtain ⟨kd, leaf, ⟨num, txt, ⟨⟩⟩, A, B, ⟨⟩⟩ := x
  obtain ⟨l, b, e1, e2, _⟩ := leafOf_eq k s hn hk hS hok hok2 leaf
  unfold spec_l20Plain spec_l20Plain.c6 spec_l20Plain.c14 impl_plainPred
  simp only [e1, e2, Option.bind_some, svalOk_eq, valOk_eq]
  by_cases h1 : kd = 1 ∨ kd = 2 ∨ kd = 3
  · have h4 : ¬ kd = 4 := by omega
    have hcmp : ∀ q : Option Bool, q = some (b && (l.2.1 == 0) && (vok l.1 (num, txt, ())) && (A == 0) && (B == 0)) → ∃ b', q = some b' ∧
        (1 ≤ kd ∧ kd ≤ 4 → ((cond (!b) (some true) (some (l.2.1 != 0))).bind fun b2 => (cond b2 (some true) (some (A != 0))).bind fun b3 => (cond b3 (some true) (some (B != 0))).bind fun b4 => cond b4 (some false) (cond (kd == 4) (some ((num == 0) && (eqS txt ⟨#[]⟩ && true))) (some (vok l.1 (num, txt, ()))))) = some b') ∧
        (kd = 5 ∨ kd = 6 → b' = ((leaf == 0) && ((num == 0) && eqS txt ⟨#[]⟩))) ∧ (kd = 7 → b' = ((leaf == 0) && (((num == 0) && eqS txt ⟨#[]⟩) && (B == 0)))) ∧ (¬ (1 ≤ kd ∧ kd ≤ 7) → b' = false) := by
      intro q hq
      refine ⟨_, hq, fun _ => ?_, fun h => by omega, fun h => by omega, fun h => by omega⟩
      rw [beqF h4]
      simp only [bne]
      generalize (l.2.1 == 0) = u; generalize (A == 0) = v; generalize (B == 0) = w
      cases b <;> cases u <;> cases v <;> cases w <;> simp
    refine hcmp _ ?_
    rcases h1 with rfl | rfl | rfl
    · simp only [beqT rfl, cond_true, csf, Option.bind_some]
    · simp only [beqF (show ¬ ((2 : Int) = 1) by decide), beqT (rfl : (2 : Int) = 2), cond_true, cond_false, csf, Option.bind_some]
    · simp only [beqF (show ¬ ((3 : Int) = 1) by decide), beqF (show ¬ ((3 : Int) = 2) by decide), beqT (rfl : (3 : Int) = 3), cond_true, cond_false, csf, Option.bind_some]
  · rw [beqF (show ¬ kd = 1 by omega), beqF (show ¬ kd = 2 by omega), beqF (show ¬ kd = 3 by omega)]
    simp only [cond_false]
    by_cases h4 : kd = 4
    · subst h4
      simp only [beqT (rfl : (4 : Int) = 4), cond_true, csf, Option.bind_some]
      refine ⟨_, rfl, fun _ => ?_, fun h => by omega, fun h => by omega, fun h => by omega⟩
      simp only [bne]
      generalize (l.2.1 == 0) = u; generalize (A == 0) = v; generalize (B == 0) = w
      cases b <;> cases u <;> cases v <;> cases w <;> simp
    · rw [beqF h4]
      simp only [cond_false]
      by_cases h5 : kd = 5
      · subst h5
        simp only [beqT (rfl : (5 : Int) = 5), cond_true]
        refine ⟨_, rfl, fun h => by omega, fun _ => by simp, fun h => by omega, fun h => by omega⟩
      · rw [beqF h5]
        simp only [cond_false]
        by_cases h6 : kd = 6
        · subst h6
          simp only [beqT (rfl : (6 : Int) = 6), cond_true]
          refine ⟨_, rfl, fun h => by omega, fun _ => by simp, fun h => by omega, fun h => by omega⟩
        · rw [beqF h6]
          simp only [cond_false]
          by_cases h7 : kd = 7
          · subst h7
            simp only [beqT (rfl : (7 : Int) = 7), cond_true]
            refine ⟨_, rfl, fun h => by omega, fun h => by omega, fun _ => by simp, fun h => by omega⟩
          · rw [beqF h7]
            simp only [cond_false]
            exact ⟨_, rfl, fun h => by omega, fun h => by omega, fun h => by omega, fun _ => rfl⟩
end
end Go.Law
end
