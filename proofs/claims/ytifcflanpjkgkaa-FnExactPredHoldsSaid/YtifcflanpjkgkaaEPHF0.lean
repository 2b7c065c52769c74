/- Clean functions, printed by program. -/
import Derived.Test.YtifcflanpjkgkaaAmStep
set_option linter.unusedVariables false
namespace Go.Fn
open Go.Am

abbrev TVal := Int × ByteArray × Unit
abbrev TLeaf := Int × Int × Int × Unit
abbrev TL1Cur := (List Int) × Int × Int × Unit
abbrev TCol := ByteArray × Int × Int × Int × Unit
abbrev TRec := (List TVal) × Unit
abbrev TNode := Int × Int × Int × ByteArray × Int × Unit
abbrev TTriple := Int × Int × TVal × Unit
abbrev TPred := Int × Int × TVal × Int × Int × Unit
abbrev TColumn := (List TTriple) × Unit
abbrev TTree := (List TNode) × (List Int) × Unit
abbrev TTreeReader := (List Int) × Int × (List TNode) × Int × Unit
abbrev TWalker := (List TCol) × (List TVal) × Bool × Unit × Unit × Unit
abbrev TWalkerB := (List TCol) × (List TVal) × Bool × (Unit × Unit × Unit × Unit) × Unit × Unit
abbrev TJoiner := (List TCol) × (List TColumn) × (List Int) × (List Int) × (List TVal) × Bool × Bool × Unit

def laws_szCol (k : Nat) (t0 : TCol) (t1 : Int) : Option Int :=
  cond (decide ((IntKind.wrap .i64 (t1 - (t0.1.size : Int))) < 0)) (some (-1)) (some (IntKind.wrap .i64 (t1 - (t0.1.size : Int))))

def laws_szColS.l5 (k : Nat) : Nat → (List TCol) → Int → Int → Option Int
  | 0, _, _, _ => none
  | n + 1, t0, t1, t5 =>
    cond (decide (t5 < (List.length t0 : Int)))
      ((rdL t0 t5).bind fun y1 =>
       (laws_szCol k y1 t1).bind fun r2 => cond (decide (r2 < 0)) (some (-1)) ((laws_szColS.l5 k n) t0 r2 (IntKind.wrap .i64 (t5 + 1))))
      (some t1)

def laws_szColS (k : Nat) (t0 : List TCol) (t1 : Int) : Option Int :=
  cond (decide ((IntKind.wrap .i64 (t1 - (List.length t0 : Int))) < 0))
    (some (-1))
    (laws_szColS.l5 k k t0 (IntKind.wrap .i64 (t1 - (List.length t0 : Int))) 0)

def laws_toCol (k : Nat) (t0 : TCol) : Option (TCol) :=
  some t0

def laws_toColS.l3 (k : Nat) : Nat → (List TCol) → Int → (List TCol) → Option (Unit × (List TCol))
  | 0, _, _, _ => none
  | n + 1, t0, t4, o100 =>
    cond (decide (t4 < (List.length t0 : Int)))
      ((rdL t0 t4).bind fun y1 =>
       (laws_toCol k y1).bind fun r2 =>
       (rdL o100 t4).bind fun y3 =>
       (rdL o100 t4).bind fun y4 => (laws_toColS.l3 k n) t0 (IntKind.wrap .i64 (t4 + 1)) (List.set o100 (Int.toNat t4) r2))
      (some ((), o100))

def laws_toColS (k : Nat) (t0 : List TCol) : Option (Unit × (List TCol)) :=
  cond (okLen (List.length t0 : Int)) (
  laws_toColS.l3 k k t0 0 (List.replicate (Int.toNat (List.length t0 : Int)) ((⟨#[]⟩ : ByteArray), 0, 0, 0, ()))) none

def laws_eqCol (k : Nat) (t0 : TCol) (t1 : TCol) : Option Bool :=
  cond (!eqS t0.1 t1.1)
    (some false)
    (cond (t0.2.1 != t1.2.1) (some false) (cond (t0.2.2.1 != t1.2.2.1) (some false) (cond (t0.2.2.2.1 != t1.2.2.2.1) (some false) (some true))))

def laws_eqColS.l4 (k : Nat) : Nat → (List TCol) → (List TCol) → Int → Option Bool
  | 0, _, _, _ => none
  | n + 1, t0, t1, t5 =>
    cond (decide (t5 < (List.length t0 : Int)))
      ((rdL t0 t5).bind fun y1 =>
       (rdL t1 t5).bind fun y2 =>
       (laws_eqCol k y1 y2).bind fun r3 => cond (!r3) (some false) ((laws_eqColS.l4 k n) t0 t1 (IntKind.wrap .i64 (t5 + 1))))
      (some true)

def laws_eqColS (k : Nat) (t0 : List TCol) (t1 : List TCol) : Option Bool :=
  cond ((List.length t0 : Int) != (List.length t1 : Int)) (some false) (laws_eqColS.l4 k k t0 t1 0)

def laws_szVal (k : Nat) (t0 : TVal) (t1 : Int) : Option Int :=
  cond (decide ((IntKind.wrap .i64 (t1 - (t0.2.1.size : Int))) < 0)) (some (-1)) (some (IntKind.wrap .i64 (t1 - (t0.2.1.size : Int))))

def laws_szPred (k : Nat) (t0 : TPred) (t1 : Int) : Option Int :=
  (laws_szVal k t0.2.2.1 t1).bind fun r1 => cond (decide (r1 < 0)) (some (-1)) (some r1)

def laws_szPredS.l5 (k : Nat) : Nat → (List TPred) → Int → Int → Option Int
  | 0, _, _, _ => none
  | n + 1, t0, t1, t5 =>
    cond (decide (t5 < (List.length t0 : Int)))
      ((rdL t0 t5).bind fun y1 =>
       (laws_szPred k y1 t1).bind fun r2 => cond (decide (r2 < 0)) (some (-1)) ((laws_szPredS.l5 k n) t0 r2 (IntKind.wrap .i64 (t5 + 1))))
      (some t1)

def laws_szPredS (k : Nat) (t0 : List TPred) (t1 : Int) : Option Int :=
  cond (decide ((IntKind.wrap .i64 (t1 - (List.length t0 : Int))) < 0))
    (some (-1))
    (laws_szPredS.l5 k k t0 (IntKind.wrap .i64 (t1 - (List.length t0 : Int))) 0)

def laws_szValS.l5 (k : Nat) : Nat → (List TVal) → Int → Int → Option Int
  | 0, _, _, _ => none
  | n + 1, t0, t1, t5 =>
    cond (decide (t5 < (List.length t0 : Int)))
      ((rdL t0 t5).bind fun y1 =>
       (laws_szVal k y1 t1).bind fun r2 => cond (decide (r2 < 0)) (some (-1)) ((laws_szValS.l5 k n) t0 r2 (IntKind.wrap .i64 (t5 + 1))))
      (some t1)

def laws_szValS (k : Nat) (t0 : List TVal) (t1 : Int) : Option Int :=
  cond (decide ((IntKind.wrap .i64 (t1 - (List.length t0 : Int))) < 0))
    (some (-1))
    (laws_szValS.l5 k k t0 (IntKind.wrap .i64 (t1 - (List.length t0 : Int))) 0)

def laws_szRec (k : Nat) (t0 : TRec) (t1 : Int) : Option Int :=
  (laws_szValS k t0.1 t1).bind fun r1 => cond (decide (r1 < 0)) (some (-1)) (some r1)

def spec_l1In (k : Nat) (t0 : Int) (t1 : Int) (t2 : Int) : Option Bool :=
  (cond (decide (t0 ≥ t1)) (some (decide (t0 ≤ t2))) (some (false))).bind fun b1 => some b1

def spec_l5Name.l4 (k : Nat) : Nat → ByteArray → Int → Option Bool
  | 0, _, _ => none
  | n + 1, t0, t3 =>
    cond (decide (t3 < (t0.size : Int)))
      ((btS t0 t3).bind fun y1 =>
       (cond (decide (y1 < 97)) (some (true)) ((btS t0 t3).bind fun y2 => some (decide (y2 > 122)))).bind fun b3 =>
       cond b3 (some false) ((spec_l5Name.l4 k n) t0 (IntKind.wrap .i64 (t3 + 1))))
      (some true)

def spec_l5Name (k : Nat) (t0 : ByteArray) : Option Bool :=
  (spec_l1In k (t0.size : Int) 1 20).bind fun r4 => cond (!r4) (some false) (spec_l5Name.l4 k k t0 0)

def spec_l5Type.c7 (k : Nat) (t4 : Bool) : Option Bool :=
  cond t4 (some true) (some false)

def spec_l5Type (k : Nat) (t0 : Int) : Option Bool :=
  cond (t0 == 0)
    (spec_l5Type.c7 k (t0 == 0))
    (cond (t0 == 1)
       (spec_l5Type.c7 k (t0 == 1))
       (cond (t0 == 2) (spec_l5Type.c7 k (t0 == 2)) (cond (t0 == 5) (spec_l5Type.c7 k (t0 == 5)) (spec_l5Type.c7 k (t0 == 6)))))

def spec_l5Check.l20 (k : Nat) (S75 : (List TCol) → Int → Int → Option Int) (L15 : (List TCol) → Int → Int → Int → TCol → (List ByteArray) → Option Int) : Nat → (List TCol) → Int → Int → Int → Int → TCol → (List ByteArray) → Option Int
  | 0, _, _, _, _, _, _, _ => none
  | n + 1, t0, t2, t8, t10, t11, o100, o101 =>
    cond (decide (t11 < (List.length o101 : Int)))
      ((rdL o101 t11).bind fun y1 =>
       (rdL t0 t8).bind fun y2 => cond (eqS y1 y2.1) (some (-1)) ((spec_l5Check.l20 k S75 L15 n) t0 t2 t8 t10 (IntKind.wrap .i64 (t11 + 1)) o100 o101))
      ((rdL t0 t8).bind fun y3 =>
       cond (lim (List.length o101 + List.length [y3.1])) (
       (S75 t0 t8 (IntKind.wrap .i64 (t2 + 1))).bind fun r4 =>
       cond (decide (r4 < 0)) (some (-1)) (L15 t0 t2 r4 (IntKind.wrap .i64 (t10 + 1)) o100 (o101 ++ [y3.1]))) none)

def spec_l5Check.l15 (k : Nat) (S75 : (List TCol) → Int → Int → Option Int) : Nat → (List TCol) → Int → Int → Int → TCol → (List ByteArray) → Option Int
  | 0, _, _, _, _, _, _ => none
  | n + 1, t0, t2, t8, t10, o100, o101 =>
    cond (decide (t10 < o100.2.2.2.1))
      (cond (decide (t8 ≥ (List.length t0 : Int))) (some (-1)) (spec_l5Check.l20 k S75 (spec_l5Check.l15 k S75 n) k t0 t2 t8 t10 0 o100 o101))
      (some t8)

def spec_l5Check.b (k : Nat) (S75 : (List TCol) → Int → Int → Option Int) (t0 : List TCol) (t1 : Int) (t2 : Int) : Option Int :=
  (cond (decide (t1 ≥ (List.length t0 : Int))) (some (true)) (some (decide (t2 > 6)))).bind fun b5 =>
  cond b5
    (some (-1))
    ((rdL t0 t1).bind fun y6 =>
     (cond (t1 == 0)
        ((cond (!eqS y6.1 (⟨#[]⟩ : ByteArray)) (some (true)) (some (y6.2.2.1 != 0))).bind fun b7 =>
         (cond b7 (some (true)) (some (y6.2.1 != 7))).bind fun b8 => some (b8))
        (some (false))).bind fun b9 =>
     (cond b9 (some (true)) ((cond (decide (t1 > 0)) ((spec_l5Name k y6.1).bind fun r10 => some (!r10)) (some (false))).bind fun b11 => some (b11))).bind fun b12 =>
     (cond b12 (some (true)) ((spec_l1In k y6.2.2.1 0 2).bind fun r13 => some (!r13))).bind fun b14 =>
     cond b14
       (some (-1))
       (cond (y6.2.1 != 7)
          ((spec_l5Type k y6.2.1).bind fun r15 =>
           (cond (!r15) (some (true)) (some (y6.2.2.2.1 != 0))).bind fun b16 => cond b16 (some (-1)) (some (IntKind.wrap .i64 (t1 + 1))))
          (cond (decide (y6.2.2.2.1 < 1)) (some (-1)) (spec_l5Check.l15 k S75 k t0 t2 (IntKind.wrap .i64 (t1 + 1)) 0 y6 []))))

def spec_l5Check.rec (k : Nat) : Nat → ((List TCol) → Int → Int → Option Int)
  | 0 => fun _ _ _ => none
  | d + 1 => spec_l5Check.b k ((spec_l5Check.rec k d))

def spec_l5Check.d (k d : Nat) : (List TCol) → Int → Int → Option Int := (spec_l5Check.rec k d)

def spec_l5Check (k : Nat) : (List TCol) → Int → Int → Option Int := spec_l5Check.d k k

def spec_SchemaOk (k : Nat) (t0 : List TCol) : Option Bool :=
  (spec_l1In k (List.length t0 : Int) 2 20).bind fun r1 =>
  (cond r1 ((spec_l5Check k t0 0 1).bind fun r2 => some (r2 == (List.length t0 : Int))) (some (false))).bind fun b3 => some b3

def spec_l4Int (k : Nat) (t0 : Int) : Option Bool :=
  (spec_l1In k t0 (-2147483648) 2147483647).bind fun r1 => some r1

def spec_ValOk.c8 (k : Nat) (t5 : Int) (t26 : Bool) (o100 : TVal) : Option Bool :=
  cond t26
    (some (eqS o100.2.1 (⟨#[]⟩ : ByteArray)))
    (cond (t5 == 6) ((cond (o100.1 == 0) (some (decide ((o100.2.1.size : Int) ≤ 40))) (some (false))).bind fun b1 => some b1) (some false))

def spec_ValOk (k : Nat) (t0 : Int) (t1 : TVal) : Option Bool :=
  cond (t0 == 0)
    ((spec_l1In k t1.1 0 1).bind fun r2 => (cond r2 (some (eqS t1.2.1 (⟨#[]⟩ : ByteArray))) (some (false))).bind fun b3 => some b3)
    (cond (t0 == 1)
       ((spec_l4Int k t1.1).bind fun r4 => (cond r4 (some (eqS t1.2.1 (⟨#[]⟩ : ByteArray))) (some (false))).bind fun b5 => some b5)
       (cond (t0 == 2) (spec_ValOk.c8 k t0 (t0 == 2) t1) (spec_ValOk.c8 k t0 (t0 == 5) t1)))

def spec_l13Count (k : Nat) (t0 : TVal) (t1 : Int) : Option Int :=
  (cond (!eqS t0.2.1 (⟨#[]⟩ : ByteArray)) (some (true)) ((spec_l1In k t0.1 0 t1).bind fun r1 => some (!r1))).bind fun b2 =>
  cond b2 (some (-1)) (some t0.1)

def spec_l5After.l3 (k : Nat) (S144 : (List TCol) → Int → Option Int) : Nat → (List TCol) → Int → Int → Int → Option Int
  | 0, _, _, _, _ => none
  | n + 1, t0, t1, t5, t6 =>
    (rdL t0 t1).bind fun y1 =>
    cond (decide (t6 < y1.2.2.2.1)) ((S144 t0 t5).bind fun r2 => (spec_l5After.l3 k S144 n) t0 t1 r2 (IntKind.wrap .i64 (t6 + 1))) (some t5)

def spec_l5After.b (k : Nat) (S144 : (List TCol) → Int → Option Int) (t0 : List TCol) (t1 : Int) : Option Int :=
  spec_l5After.l3 k S144 k t0 t1 (IntKind.wrap .i64 (t1 + 1)) 0

def spec_l5After.rec (k : Nat) : Nat → ((List TCol) → Int → Option Int)
  | 0 => fun _ _ => none
  | d + 1 => spec_l5After.b k ((spec_l5After.rec k d))

def spec_l5After.d (k d : Nat) : (List TCol) → Int → Option Int := (spec_l5After.rec k d)

def spec_l5After (k : Nat) : (List TCol) → Int → Option Int := spec_l5After.d k k

def spec_l13Content.l7 (k : Nat) (S143 : (List TCol) → Int → (List TVal) → Int → Option Int) : Nat → (List TCol) → Int → (List TVal) → Int → Int → Int → Option Int
  | 0, _, _, _, _, _, _ => none
  | n + 1, t0, t1, t2, t3, t9, t10 =>
    (rdL t0 t1).bind fun y1 =>
    cond (decide (t10 < y1.2.2.2.1))
      ((S143 t0 t9 t2 t3).bind fun r2 =>
       cond (decide (r2 < 0))
         (some (-1))
         ((spec_l5After k t0 t9).bind fun r3 => (spec_l13Content.l7 k S143 n) t0 t1 t2 r2 r3 (IntKind.wrap .i64 (t10 + 1))))
      (some t3)

def spec_l13Content.b (k : Nat) (S72 : (List TCol) → Int → (List TVal) → Int → Option Int) (S143 : (List TCol) → Int → (List TVal) → Int → Option Int) (t0 : List TCol) (t1 : Int) (t2 : List TVal) (t3 : Int) : Option Int :=
  (rdL t0 t1).bind fun y4 =>
  cond (y4.2.1 != 7)
    ((cond (decide (t3 ≥ (List.length t2 : Int)))
        (some (true))
        ((rdL t0 t1).bind fun y5 => (rdL t2 t3).bind fun y6 => (spec_ValOk k y5.2.1 y6).bind fun r7 => some (!r7))).bind fun b8 =>
     cond b8 (some (-1)) (some (IntKind.wrap .i64 (t3 + 1))))
    (spec_l13Content.l7 k S143 k t0 t1 t2 t3 (IntKind.wrap .i64 (t1 + 1)) 0)

def spec_l13Part.l13 (k : Nat) (S72 : (List TCol) → Int → (List TVal) → Int → Option Int) : Nat → (List TCol) → Int → (List TVal) → Int → Int → Int → Option Int
  | 0, _, _, _, _, _, _ => none
  | n + 1, t0, t1, t2, t3, t9, t11 =>
    cond (decide (t11 < t9))
      ((S72 t0 t1 t2 t3).bind fun r1 => cond (decide (r1 < 0)) (some (-1)) ((spec_l13Part.l13 k S72 n) t0 t1 t2 r1 t9 (IntKind.wrap .i64 (t11 + 1))))
      (some t3)

def spec_l13Part.c12 (k : Nat) (S72 : (List TCol) → Int → (List TVal) → Int → Option Int) (t0 : List TCol) (t1 : Int) (t2 : List TVal) (t3 : Int) (t9 : Int) : Option Int :=
  spec_l13Part.l13 k S72 k t0 t1 t2 t3 t9 0

def spec_l13Part.c6 (k : Nat) (S72 : (List TCol) → Int → (List TVal) → Int → Option Int) (t0 : List TCol) (t1 : Int) (t2 : List TVal) (t3 : Int) (t10 : Int) : Option Int :=
  cond (decide (t3 ≥ (List.length t2 : Int)))
    (some (-1))
    ((rdL t2 t3).bind fun y2 =>
     (spec_l13Count k y2 t10).bind fun r3 => cond (decide (r3 < 0)) (some (-1)) (spec_l13Part.c12 k S72 t0 t1 t2 (IntKind.wrap .i64 (t3 + 1)) r3))

def spec_l13Part.b (k : Nat) (S72 : (List TCol) → Int → (List TVal) → Int → Option Int) (S143 : (List TCol) → Int → (List TVal) → Int → Option Int) (t0 : List TCol) (t1 : Int) (t2 : List TVal) (t3 : Int) : Option Int :=
  (rdL t0 t1).bind fun y4 =>
  cond (y4.2.2.1 != 0)
    ((rdL t0 t1).bind fun y5 => cond (y5.2.2.1 == 2) (spec_l13Part.c6 k S72 t0 t1 t2 t3 20) (spec_l13Part.c6 k S72 t0 t1 t2 t3 1))
    (spec_l13Part.c12 k S72 t0 t1 t2 t3 1)

def spec_l13Content.rec (k : Nat) : Nat → ((List TCol) → Int → (List TVal) → Int → Option Int) × ((List TCol) → Int → (List TVal) → Int → Option Int)
  | 0 => (fun _ _ _ _ => none, fun _ _ _ _ => none)
  | d + 1 => (spec_l13Content.b k ((spec_l13Content.rec k d).1) ((spec_l13Content.rec k d).2), spec_l13Part.b k ((spec_l13Content.rec k d).1) ((spec_l13Content.rec k d).2))

def spec_l13Content.d (k d : Nat) : (List TCol) → Int → (List TVal) → Int → Option Int := (spec_l13Content.rec k d).1

def spec_l13Content (k : Nat) : (List TCol) → Int → (List TVal) → Int → Option Int := spec_l13Content.d k k

def spec_l13Part.d (k d : Nat) : (List TCol) → Int → (List TVal) → Int → Option Int := (spec_l13Content.rec k d).2

def spec_l13Part (k : Nat) : (List TCol) → Int → (List TVal) → Int → Option Int := spec_l13Part.d k k

def spec_RecOk.d1 (k : Nat) (t0 : List TCol) (o100 : TRec) : Option Bool :=
  (spec_SchemaOk k t0).bind fun r1 =>
  cond r1
    (cond (decide ((List.length o100.1 : Int) ≤ 300))
       ((spec_l13Content k t0 0 o100.1 0).bind fun r2 => some (r2 == (List.length o100.1 : Int)))
       (some false))
    (cond false ((spec_l13Content k t0 0 o100.1 0).bind fun r3 => some (r3 == (List.length o100.1 : Int))) (some false))

def spec_RecOk (k : Nat) (t0 : List TCol) (t1 : TRec) : Option Bool :=
  spec_RecOk.d1 k t0 t1

def spec_l5Leaves.c4 (k : Nat) (L3 : (List TCol) → Int → (List Int) → Option (Unit × (List Int))) (t0 : List TCol) (t4 : Int) (o100 : List Int) : Option (Unit × (List Int)) :=
  L3 t0 (IntKind.wrap .i64 (t4 + 1)) o100

def spec_l5Leaves.l3 (k : Nat) : Nat → (List TCol) → Int → (List Int) → Option (Unit × (List Int))
  | 0, _, _, _ => none
  | n + 1, t0, t4, o100 =>
    cond (decide (t4 < (List.length t0 : Int)))
      ((rdL t0 t4).bind fun y1 =>
       cond (y1.2.1 != 7)
         (cond (lim (List.length o100 + List.length [t4])) (spec_l5Leaves.c4 k (spec_l5Leaves.l3 k n) t0 t4 (o100 ++ [t4])) none)
         (spec_l5Leaves.c4 k (spec_l5Leaves.l3 k n) t0 t4 o100))
      (some ((), o100))

def spec_l5Leaves (k : Nat) (t0 : List TCol) : Option (Unit × (List Int)) :=
  spec_l5Leaves.l3 k k t0 0 []

def spec_SchemaLeaves (k : Nat) (t0 : List TCol) : Option (Unit × (List Int)) :=
  (spec_SchemaOk k t0).bind fun r1 => cond (!r1) (some ((), [])) ((spec_l5Leaves k t0).bind fun r2 => some ((), r2.2))

def spec_l5Way.c4 (k : Nat) (L3 : (List TCol) → Int → Int → (List Int) → Option (Unit × (List Int))) (t0 : List TCol) (t1 : Int) (t6 : Int) (o100 : List Int) : Option (Unit × (List Int)) :=
  L3 t0 t1 (IntKind.wrap .i64 (t6 + 1)) o100

def spec_l5Way.l3 (k : Nat) : Nat → (List TCol) → Int → Int → (List Int) → Option (Unit × (List Int))
  | 0, _, _, _, _ => none
  | n + 1, t0, t1, t6, o100 =>
    cond (decide (t6 ≤ t1))
      ((spec_l5After k t0 t6).bind fun r1 =>
       cond (decide (r1 > t1))
         (cond (lim (List.length o100 + List.length [t6])) (spec_l5Way.c4 k (spec_l5Way.l3 k n) t0 t1 t6 (o100 ++ [t6])) none)
         (spec_l5Way.c4 k (spec_l5Way.l3 k n) t0 t1 t6 o100))
      (some ((), o100))

def spec_l5Way (k : Nat) (t0 : List TCol) (t1 : Int) : Option (Unit × (List Int)) :=
  spec_l5Way.l3 k k t0 t1 0 []

def spec_l5Max.c5 (k : Nat) (L4 : (List TCol) → Int → Int → Int → (List Int) → Option (Int × Int)) (t0 : List TCol) (t6 : Int) (t7 : Int) (t9 : Int) (o100 : List Int) : Option (Int × Int) :=
  L4 t0 t6 t7 (IntKind.wrap .i64 (t9 + 1)) o100

def spec_l5Max.c8 (k : Nat) (L4 : (List TCol) → Int → Int → Int → (List Int) → Option (Int × Int)) (t0 : List TCol) (t6 : Int) (t7 : Int) (t9 : Int) (o100 : List Int) : Option (Int × Int) :=
  (rdL o100 t9).bind fun y1 =>
  (rdL t0 y1).bind fun y2 =>
  cond (y2.2.2.1 == 2) (spec_l5Max.c5 k L4 t0 t6 (IntKind.wrap .i64 (t7 + 1)) t9 o100) (spec_l5Max.c5 k L4 t0 t6 t7 t9 o100)

def spec_l5Max.l4 (k : Nat) : Nat → (List TCol) → Int → Int → Int → (List Int) → Option (Int × Int)
  | 0, _, _, _, _, _ => none
  | n + 1, t0, t6, t7, t9, o100 =>
    cond (decide (t9 < (List.length o100 : Int)))
      ((rdL o100 t9).bind fun y3 =>
       (rdL t0 y3).bind fun y4 =>
       cond (y4.2.2.1 != 0)
         (spec_l5Max.c8 k (spec_l5Max.l4 k n) t0 (IntKind.wrap .i64 (t6 + 1)) t7 t9 o100)
         (spec_l5Max.c8 k (spec_l5Max.l4 k n) t0 t6 t7 t9 o100))
      (some (t6, t7))

def spec_l5Max (k : Nat) (t0 : List TCol) (t1 : Int) : Option (Int × Int) :=
  (spec_l5Way k t0 t1).bind fun r5 => spec_l5Max.l4 k k t0 0 0 0 r5.2

def spec_LeafOf (k : Nat) (t0 : List TCol) (t1 : Int) : Option (TLeaf × Bool) :=
  (spec_SchemaLeaves k t0).bind fun r1 =>
  (spec_l1In k t1 0 (IntKind.wrap .i64 ((List.length r1.2 : Int) - 1))).bind fun r2 =>
  cond (!r2)
    (some ((0, 0, 0, ()), false))
    ((rdL r1.2 t1).bind fun y3 =>
     (spec_l5Max k t0 y3).bind fun r4 => (rdL r1.2 t1).bind fun y5 => (rdL t0 y5).bind fun y6 => some ((y6.2.1, r4.2, r4.1, ()), true))

def spec_l20Plain.c14 (k : Nat) (t14 : Int) (t72 : Bool) (o100 : TPred) (o101 : TPred) : Option Bool :=
  cond t72
    (some ((o100.1 == o101.1) && ((o100.2.1 == o101.2.1) && (((o100.2.2.1.1 == o101.2.2.1.1) && (eqS o100.2.2.1.2.1 o101.2.2.1.2.1 && true)) && ((o100.2.2.2.1 == o100.2.2.2.1) && ((o100.2.2.2.2.1 == o100.2.2.2.2.1) && true))))))
    (cond (t14 == 7)
       (some ((o100.1 == o101.1) && ((o100.2.1 == o101.2.1) && (((o100.2.2.1.1 == o101.2.2.1.1) && (eqS o100.2.2.1.2.1 o101.2.2.1.2.1 && true)) && ((o100.2.2.2.1 == o100.2.2.2.1) && ((o100.2.2.2.2.1 == o101.2.2.2.2.1) && true))))))
       (some false))

def spec_l20Plain.c6 (k : Nat) (t0 : List TCol) (t14 : Int) (t15 : Bool) (o100 : TPred) (o101 : TPred) : Option Bool :=
  cond t15
    ((spec_LeafOf k t0 o100.2.1).bind fun r1 =>
     (cond r1.2 (some (r1.1.2.1 == 0)) (some (false))).bind fun b2 =>
     (cond b2 ((spec_ValOk k r1.1.1 o100.2.2.1).bind fun r3 => some (r3)) (some (false))).bind fun b4 =>
     (cond b4 (some (o100.2.2.2.1 == 0)) (some (false))).bind fun b5 => (cond b5 (some (o100.2.2.2.2.1 == 0)) (some (false))).bind fun b6 => some b6)
    (cond (t14 == 4)
       ((spec_LeafOf k t0 o100.2.1).bind fun r7 =>
        (cond r7.2 (some (r7.1.2.1 == 0)) (some (false))).bind fun b8 =>
        (cond b8
           (some (((o100.1 == o101.1) && ((o100.2.1 == o100.2.1) && (((o100.2.2.1.1 == o101.2.2.1.1) && (eqS o100.2.2.1.2.1 o101.2.2.1.2.1 && true)) && ((o100.2.2.2.1 == o101.2.2.2.1) && ((o100.2.2.2.2.1 == o101.2.2.2.2.1) && true)))))))
           (some (false))).bind fun b9 =>
        some b9)
       (cond (t14 == 5) (spec_l20Plain.c14 k t14 (t14 == 5) o100 o101) (spec_l20Plain.c14 k t14 (t14 == 6) o100 o101)))

def spec_l20Plain (k : Nat) (t0 : List TCol) (t1 : TPred) : Option Bool :=
  cond (t1.1 == 1)
    (spec_l20Plain.c6 k t0 t1.1 (t1.1 == 1) t1 (t1.1, 0, (0, (⟨#[]⟩ : ByteArray), ()), 0, 0, ()))
    (cond (t1.1 == 2)
       (spec_l20Plain.c6 k t0 t1.1 (t1.1 == 2) t1 (t1.1, 0, (0, (⟨#[]⟩ : ByteArray), ()), 0, 0, ()))
       (spec_l20Plain.c6 k t0 t1.1 (t1.1 == 3) t1 (t1.1, 0, (0, (⟨#[]⟩ : ByteArray), ()), 0, 0, ())))

def spec_l20From.c10 (k : Nat) (S129 : (List TPred) → Int → Option Int) (t0 : List TPred) (t1 : Int) (t27 : Bool) : Option Int :=
  cond t27
    ((rdL t0 t1).bind fun y1 =>
     cond (y1.2.2.2.2.1 != (IntKind.wrap .i64 (t1 - 1)))
       (some (-1))
       ((S129 t0 (IntKind.wrap .i64 (t1 - 1))).bind fun r2 =>
        (cond (decide (r2 < 1)) (some (true)) ((rdL t0 t1).bind fun y3 => some (y3.2.2.2.1 != (IntKind.wrap .i64 (r2 - 1))))).bind fun b4 =>
        cond b4 (some (-1)) ((S129 t0 (IntKind.wrap .i64 (r2 - 1))).bind fun r5 => some r5)))
    (some t1)

def spec_l20From.b (k : Nat) (S129 : (List TPred) → Int → Option Int) (t0 : List TPred) (t1 : Int) : Option Int :=
  cond (decide (t1 < 0))
    (some (-1))
    ((rdL t0 t1).bind fun y6 =>
     cond (y6.1 == 7)
       ((rdL t0 t1).bind fun y7 =>
        cond (y7.2.2.2.1 != (IntKind.wrap .i64 (t1 - 1))) (some (-1)) ((S129 t0 (IntKind.wrap .i64 (t1 - 1))).bind fun r8 => some r8))
       (cond (y6.1 == 5) (spec_l20From.c10 k S129 t0 t1 (y6.1 == 5)) (spec_l20From.c10 k S129 t0 t1 (y6.1 == 6))))

def spec_l20From.rec (k : Nat) : Nat → ((List TPred) → Int → Option Int)
  | 0 => fun _ _ => none
  | d + 1 => spec_l20From.b k ((spec_l20From.rec k d))

def spec_l20From.d (k d : Nat) : (List TPred) → Int → Option Int := (spec_l20From.rec k d)

def spec_l20From (k : Nat) : (List TPred) → Int → Option Int := spec_l20From.d k k

def spec_PredOk.l4 (k : Nat) : Nat → (List TCol) → (List TPred) → Int → Option Bool
  | 0, _, _, _ => none
  | n + 1, t0, t1, t5 =>
    cond (decide (t5 < (List.length t1 : Int)))
      ((rdL t1 t5).bind fun y1 =>
       (spec_l20Plain k t0 y1).bind fun r2 => cond (!r2) (some false) ((spec_PredOk.l4 k n) t0 t1 (IntKind.wrap .i64 (t5 + 1))))
      ((spec_l20From k t1 (IntKind.wrap .i64 ((List.length t1 : Int) - 1))).bind fun r3 => some (r3 == 0))

def spec_PredOk (k : Nat) (t0 : List TCol) (t1 : List TPred) : Option Bool :=
  (spec_SchemaOk k t0).bind fun r4 =>
  (cond (!r4) (some (true)) ((spec_l1In k (List.length t1 : Int) 1 31).bind fun r5 => some (!r5))).bind fun b6 =>
  cond b6 (some false) (spec_PredOk.l4 k k t0 t1 0)

def spec_l13Values.c7 (k : Nat) (L6 : (List TCol) → Int → (List TVal) → Int → Int → Int → Int → (List TVal) → Option ((Unit × Int) × (List TVal))) (t0 : List TCol) (t1 : Int) (t3 : List TVal) (t4 : Int) (t5 : Int) (t16 : Int) (t17 : Int) (o100 : List TVal) : Option ((Unit × Int) × (List TVal)) :=
  L6 t0 t1 t3 t4 t5 t16 (IntKind.wrap .i64 (t17 + 1)) o100

def spec_l13Values.l14 (k : Nat) (S81 : (List TCol) → Int → Bool → (List TVal) → Int → Int → (List TVal) → Option ((Unit × Int) × (List TVal))) (L6 : (List TCol) → Int → (List TVal) → Int → Int → Int → Int → (List TVal) → Option ((Unit × Int) × (List TVal))) : Nat → (List TCol) → Int → (List TVal) → Int → Int → Int → Int → Int → Int → (List TVal) → Option ((Unit × Int) × (List TVal))
  | 0, _, _, _, _, _, _, _, _, _, _ => none
  | n + 1, t0, t1, t3, t4, t5, t16, t17, t18, t19, o100 =>
    (rdL t0 t1).bind fun y1 =>
    cond (decide (t19 < y1.2.2.2.1))
      ((S81 t0 t18 false t3 t4 t5 o100).bind fun r2 =>
       (spec_l5After k t0 t18).bind fun r3 => (spec_l13Values.l14 k S81 L6 n) t0 t1 t3 r2.1.2 t5 t16 t17 r3 (IntKind.wrap .i64 (t19 + 1)) r2.2)
      (spec_l13Values.c7 k L6 t0 t1 t3 t4 t5 t16 t17 o100)

def spec_l13Values.c11 (k : Nat) (L6 : (List TCol) → Int → (List TVal) → Int → Int → Int → Int → (List TVal) → Option ((Unit × Int) × (List TVal))) (t0 : List TCol) (t1 : Int) (t3 : List TVal) (t4 : Int) (t5 : Int) (t16 : Int) (t17 : Int) (o100 : List TVal) : Option ((Unit × Int) × (List TVal)) :=
  spec_l13Values.c7 k L6 t0 t1 t3 (IntKind.wrap .i64 (t4 + 1)) t5 t16 t17 o100

def spec_l13Values.l6 (k : Nat) (S81 : (List TCol) → Int → Bool → (List TVal) → Int → Int → (List TVal) → Option ((Unit × Int) × (List TVal))) : Nat → (List TCol) → Int → (List TVal) → Int → Int → Int → Int → (List TVal) → Option ((Unit × Int) × (List TVal))
  | 0, _, _, _, _, _, _, _, _ => none
  | n + 1, t0, t1, t3, t4, t5, t16, t17, o100 =>
    cond (decide (t17 < t16))
      ((rdL t0 t1).bind fun y4 =>
       cond (y4.2.1 != 7)
         (cond (t1 == t5)
            ((rdL t3 t4).bind fun y5 =>
             cond (lim (List.length o100 + List.length [y5])) (
             spec_l13Values.c11 k (spec_l13Values.l6 k S81 n) t0 t1 t3 t4 t5 t16 t17 (o100 ++ [y5])) none)
            (spec_l13Values.c11 k (spec_l13Values.l6 k S81 n) t0 t1 t3 t4 t5 t16 t17 o100))
         (spec_l13Values.l14 k S81 (spec_l13Values.l6 k S81 n) k t0 t1 t3 t4 t5 t16 t17 (IntKind.wrap .i64 (t1 + 1)) 0 o100))
      (some (((), t4), o100))

def spec_l13Values.c5 (k : Nat) (S81 : (List TCol) → Int → Bool → (List TVal) → Int → Int → (List TVal) → Option ((Unit × Int) × (List TVal))) (t0 : List TCol) (t1 : Int) (t3 : List TVal) (t4 : Int) (t5 : Int) (t16 : Int) (o10 : List TVal) : Option ((Unit × Int) × (List TVal)) :=
  spec_l13Values.l6 k S81 k t0 t1 t3 t4 t5 t16 0 o10

def spec_l13Values.b (k : Nat) (S81 : (List TCol) → Int → Bool → (List TVal) → Int → Int → (List TVal) → Option ((Unit × Int) × (List TVal))) (t0 : List TCol) (t1 : Int) (t2 : Bool) (t3 : List TVal) (t4 : Int) (t5 : Int) (o10 : List TVal) : Option ((Unit × Int) × (List TVal)) :=
  (cond (!t2) ((rdL t0 t1).bind fun y6 => some (y6.2.2.1 != 0)) (some (false))).bind fun b7 =>
  cond b7
    ((rdL t3 t4).bind fun y8 => spec_l13Values.c5 k S81 t0 t1 t3 (IntKind.wrap .i64 (t4 + 1)) t5 y8.1 o10)
    (spec_l13Values.c5 k S81 t0 t1 t3 t4 t5 1 o10)

def spec_l13Values.rec (k : Nat) : Nat → ((List TCol) → Int → Bool → (List TVal) → Int → Int → (List TVal) → Option ((Unit × Int) × (List TVal)))
  | 0 => fun _ _ _ _ _ _ _ => none
  | d + 1 => spec_l13Values.b k ((spec_l13Values.rec k d))

def spec_l13Values.d (k d : Nat) : (List TCol) → Int → Bool → (List TVal) → Int → Int → (List TVal) → Option ((Unit × Int) × (List TVal)) := (spec_l13Values.rec k d)

def spec_l13Values (k : Nat) : (List TCol) → Int → Bool → (List TVal) → Int → Int → (List TVal) → Option ((Unit × Int) × (List TVal)) := spec_l13Values.d k k

def spec_RecValues (k : Nat) (t0 : List TCol) (t1 : TRec) (t2 : Int) : Option ((Unit × Bool) × (List TVal)) :=
  (spec_SchemaLeaves k t0).bind fun r1 =>
  (spec_RecOk k t0 t1).bind fun r2 =>
  (cond (!r2) (some (true)) ((spec_l1In k t2 0 (IntKind.wrap .i64 ((List.length r1.2 : Int) - 1))).bind fun r3 => some (!r3))).bind fun b4 =>
  cond b4 (some (((), false), [])) ((rdL r1.2 t2).bind fun y5 => (spec_l13Values k t0 0 true t1.1 0 y5 []).bind fun r6 => some (((), true), r6.2))

def spec_FloatKey (k : Nat) (t0 : Int) : Option Int :=
  cond (decide (t0 < 0)) (some (bits .xor .i64 t0 9223372036854775807)) (some t0)

def spec_ValLess.d5 (k : Nat) (o100 : TVal) (o101 : TVal) : Option Bool :=
  (spec_FloatKey k o100.1).bind fun r1 => (spec_FloatKey k o101.1).bind fun r2 => some (decide (r1 < r2))

def spec_ValLess.l8 (k : Nat) : Nat → Int → TVal → TVal → Option Bool
  | 0, _, _, _ => none
  | n + 1, t7, o100, o101 =>
    (cond (decide (t7 < (o100.2.1.size : Int))) (some (decide (t7 < (o101.2.1.size : Int)))) (some (false))).bind fun b9 =>
    cond b9
      ((btS o100.2.1 t7).bind fun y10 =>
       (btS o101.2.1 t7).bind fun y11 =>
       cond (y10 != y11)
         ((btS o100.2.1 t7).bind fun y12 => (btS o101.2.1 t7).bind fun y13 => some (decide (y12 < y13)))
         ((spec_ValLess.l8 k n) (IntKind.wrap .i64 (t7 + 1)) o100 o101))
      (some (decide ((o100.2.1.size : Int) < (o101.2.1.size : Int))))

def spec_ValLess (k : Nat) (t0 : Int) (t1 : TVal) (t2 : TVal) : Option Bool :=
  (spec_ValOk k t0 t1).bind fun r14 =>
  (cond (!r14) (some (true)) ((spec_ValOk k t0 t2).bind fun r15 => some (!r15))).bind fun b16 =>
  cond b16 (some false) (cond (t0 == 5) (spec_ValLess.d5 k t1 t2) (cond (t0 == 6) (spec_ValLess.l8 k k 0 t1 t2) (some (decide (t1.1 < t2.1)))))

def spec_l20Holds.b (k : Nat) (S118 : (List TCol) → (List TPred) → Int → TRec → Option Bool) (t0 : List TCol) (t1 : List TPred) (t2 : Int) (t3 : TRec) : Option Bool :=
  (rdL t1 t2).bind fun y1 =>
  cond (y1.1 == 5)
    ((S118 t0 t1 y1.2.2.2.1 t3).bind fun r2 => (cond r2 ((S118 t0 t1 y1.2.2.2.2.1 t3).bind fun r3 => some (r3)) (some (false))).bind fun b4 => some b4)
    (cond (y1.1 == 6)
       ((S118 t0 t1 y1.2.2.2.1 t3).bind fun r5 =>
        (cond r5 (some (true)) ((S118 t0 t1 y1.2.2.2.2.1 t3).bind fun r6 => some (r6))).bind fun b7 => some b7)
       (cond (y1.1 == 7)
          ((S118 t0 t1 y1.2.2.2.1 t3).bind fun r8 => some (!r8))
          ((spec_LeafOf k t0 y1.2.1).bind fun r9 =>
           (spec_RecValues k t0 t3 y1.2.1).bind fun r10 =>
           cond ((List.length r10.2 : Int) == 0)
             (some (y1.1 == 4))
             (cond (y1.1 == 1)
                ((rdL r10.2 0).bind fun y11 => some ((y11.1 == y1.2.2.1.1) && (eqS y11.2.1 y1.2.2.1.2.1 && true)))
                (cond (y1.1 == 2)
                   ((rdL r10.2 0).bind fun y12 => (spec_ValLess k r9.1.1 y12 y1.2.2.1).bind fun r13 => some r13)
                   (cond (y1.1 == 3) ((rdL r10.2 0).bind fun y14 => (spec_ValLess k r9.1.1 y1.2.2.1 y14).bind fun r15 => some (!r15)) (some false)))))))

def spec_l20Holds.rec (k : Nat) : Nat → ((List TCol) → (List TPred) → Int → TRec → Option Bool)
  | 0 => fun _ _ _ _ => none
  | d + 1 => spec_l20Holds.b k ((spec_l20Holds.rec k d))

def spec_l20Holds.d (k d : Nat) : (List TCol) → (List TPred) → Int → TRec → Option Bool := (spec_l20Holds.rec k d)

def spec_l20Holds (k : Nat) : (List TCol) → (List TPred) → Int → TRec → Option Bool := spec_l20Holds.d k k

def spec_PredHolds (k : Nat) (t0 : List TCol) (t1 : List TPred) (t2 : TRec) : Option Bool :=
  (spec_PredOk k t0 t1).bind fun r1 =>
  (cond r1 ((spec_RecOk k t0 t2).bind fun r2 => some (r2)) (some (false))).bind fun b3 =>
  (cond b3 ((spec_l20Holds k t0 t1 (IntKind.wrap .i64 ((List.length t1 : Int) - 1)) t2).bind fun r4 => some (r4)) (some (false))).bind fun b5 =>
  some b5

def laws_toVal (k : Nat) (t0 : TVal) : Option (TVal) :=
  some t0

def laws_toPred (k : Nat) (t0 : TPred) : Option (TPred) :=
  (laws_toVal k t0.2.2.1).bind fun r1 => some (t0.1, t0.2.1, r1, t0.2.2.2.1, t0.2.2.2.2.1, ())

def laws_toPredS.l3 (k : Nat) : Nat → (List TPred) → Int → (List TPred) → Option (Unit × (List TPred))
  | 0, _, _, _ => none
  | n + 1, t0, t4, o100 =>
    cond (decide (t4 < (List.length t0 : Int)))
      ((rdL t0 t4).bind fun y1 =>
       (laws_toPred k y1).bind fun r2 =>
       (rdL o100 t4).bind fun y3 =>
       (rdL o100 t4).bind fun y4 => (laws_toPredS.l3 k n) t0 (IntKind.wrap .i64 (t4 + 1)) (List.set o100 (Int.toNat t4) r2))
      (some ((), o100))

def laws_toPredS (k : Nat) (t0 : List TPred) : Option (Unit × (List TPred)) :=
  cond (okLen (List.length t0 : Int)) (
  laws_toPredS.l3 k k t0 0 (List.replicate (Int.toNat (List.length t0 : Int)) (0, 0, (0, (⟨#[]⟩ : ByteArray), ()), 0, 0, ()))) none

def laws_toValS.l3 (k : Nat) : Nat → (List TVal) → Int → (List TVal) → Option (Unit × (List TVal))
  | 0, _, _, _ => none
  | n + 1, t0, t4, o100 =>
    cond (decide (t4 < (List.length t0 : Int)))
      ((rdL t0 t4).bind fun y1 =>
       (laws_toVal k y1).bind fun r2 =>
       (rdL o100 t4).bind fun y3 =>
       (rdL o100 t4).bind fun y4 => (laws_toValS.l3 k n) t0 (IntKind.wrap .i64 (t4 + 1)) (List.set o100 (Int.toNat t4) r2))
      (some ((), o100))

def laws_toValS (k : Nat) (t0 : List TVal) : Option (Unit × (List TVal)) :=
  cond (okLen (List.length t0 : Int)) (laws_toValS.l3 k k t0 0 (List.replicate (Int.toNat (List.length t0 : Int)) (0, (⟨#[]⟩ : ByteArray), ()))) none

def laws_toRec (k : Nat) (t0 : TRec) : Option (((Unit × Unit)) × (List TVal)) :=
  (laws_toValS k t0.1).bind fun r1 => some (((), ()), r1.2)

def impl_within (k : Nat) (t0 : Int) (t1 : Int) (t2 : Int) : Option Bool :=
  (cond (decide (t0 ≥ t1)) (some (decide (t0 ≤ t2))) (some (false))).bind fun b1 => some b1

def impl_TypeOk (k : Nat) (t0 : Int) : Option Bool :=
  (impl_within k t0 0 2).bind fun r1 =>
  (cond r1 (some (true)) (some (t0 == 5))).bind fun b2 => (cond b2 (some (true)) (some (t0 == 6))).bind fun b3 => some b3

def impl_colOk (k : Nat) (t0 : TCol) : Option Bool :=
  (cond (t0.2.1 == 7) (some (decide (t0.2.2.2.1 > 0))) (some (false))).bind fun b1 =>
  (impl_TypeOk k t0.2.1).bind fun r2 =>
  (cond r2 (some (t0.2.2.2.1 == 0)) (some (false))).bind fun b3 =>
  (cond b1 (some (true)) (some (b3))).bind fun b4 =>
  (cond b4 ((impl_within k t0.2.2.1 0 2).bind fun r5 => some (r5)) (some (false))).bind fun b6 => some b6

def impl_isColName.l2 (k : Nat) : Nat → ByteArray → Int → Int → Option Bool
  | 0, _, _, _ => none
  | n + 1, t0, t5, t6 =>
    cond (decide (t6 < t5))
      ((btS t0 t6).bind fun y1 =>
       (impl_within k (IntKind.wrap .i64 y1) 97 122).bind fun r2 =>
       cond (!r2) (some false) ((impl_isColName.l2 k n) t0 t5 (IntKind.wrap .i64 (t6 + 1))))
      ((impl_within k (t0.size : Int) 1 20).bind fun r3 => some r3)

def impl_isColName (k : Nat) (t0 : ByteArray) : Option Bool :=
  impl_isColName.l2 k k t0 (t0.size : Int) 0

def impl_colAfter.l10 (k : Nat) (S140 : (List TCol) → Int → Int → Option Int) (L6 : (List TCol) → Int → Int → Int → Int → (List ByteArray) → Option Int) : Nat → (List TCol) → Int → Int → Int → Int → Int → Int → (List ByteArray) → Option Int
  | 0, _, _, _, _, _, _, _, _ => none
  | n + 1, t0, t2, t7, t47, t48, t55, t56, o100 =>
    cond (decide (t56 < t55))
      ((rdL o100 t56).bind fun y1 =>
       (rdL t0 t7).bind fun y2 =>
       cond (eqS y1 y2.1) (some (-1)) ((impl_colAfter.l10 k S140 L6 n) t0 t2 t7 t47 t48 t55 (IntKind.wrap .i64 (t56 + 1)) o100))
      ((rdL t0 t7).bind fun y3 =>
       cond (lim (List.length o100 + List.length [y3.1])) (
       (S140 t0 t7 (IntKind.wrap .i64 (t2 + 1))).bind fun r4 =>
       cond (decide (r4 < 0)) (some (-1)) (L6 t0 t2 r4 t47 (IntKind.wrap .i64 (t48 + 1)) (o100 ++ [y3.1]))) none)

def impl_colAfter.l6 (k : Nat) (S140 : (List TCol) → Int → Int → Option Int) : Nat → (List TCol) → Int → Int → Int → Int → (List ByteArray) → Option Int
  | 0, _, _, _, _, _, _ => none
  | n + 1, t0, t2, t7, t47, t48, o100 =>
    cond (decide (t48 < t47))
      (cond (decide (t7 ≥ (List.length t0 : Int)))
         (some (-1))
         (impl_colAfter.l10 k S140 (impl_colAfter.l6 k S140 n) k t0 t2 t7 t47 t48 (List.length o100 : Int) 0 o100))
      (some t7)

def impl_colAfter.b (k : Nat) (S140 : (List TCol) → Int → Int → Option Int) (t0 : List TCol) (t1 : Int) (t2 : Int) : Option Int :=
  (cond (decide (t1 ≥ (List.length t0 : Int))) (some (true)) (some (decide (t2 > 6)))).bind fun b5 =>
  (cond b5 (some (true)) ((rdL t0 t1).bind fun y6 => (impl_colOk k y6).bind fun r7 => some (!r7))).bind fun b8 =>
  (cond b8
     (some (true))
     ((cond (decide (t1 > 0)) ((rdL t0 t1).bind fun y9 => (impl_isColName k y9.1).bind fun r10 => some (!r10)) (some (false))).bind fun b11 =>
      some (b11))).bind fun b12 =>
  cond b12 (some (-1)) ((rdL t0 t1).bind fun y13 => impl_colAfter.l6 k S140 k t0 t2 (IntKind.wrap .i64 (t1 + 1)) y13.2.2.2.1 0 [])

def impl_colAfter.rec (k : Nat) : Nat → ((List TCol) → Int → Int → Option Int)
  | 0 => fun _ _ _ => none
  | d + 1 => impl_colAfter.b k ((impl_colAfter.rec k d))

def impl_colAfter.d (k d : Nat) : (List TCol) → Int → Int → Option Int := (impl_colAfter.rec k d)

def impl_colAfter (k : Nat) : (List TCol) → Int → Int → Option Int := impl_colAfter.d k k

def impl_SchemaOk (k : Nat) (t0 : List TCol) : Option Bool :=
  (impl_within k (List.length t0 : Int) 2 20).bind fun r1 =>
  (cond (!r1) (some (true)) ((rdL t0 0).bind fun y2 => some (y2.2.1 != 7))).bind fun b3 =>
  (cond b3 (some (true)) ((rdL t0 0).bind fun y4 => some (y4.2.2.1 != 0))).bind fun b5 =>
  (cond b5 (some (true)) ((rdL t0 0).bind fun y6 => some (!eqS y6.1 (⟨#[]⟩ : ByteArray)))).bind fun b7 =>
  cond b7 (some false) ((impl_colAfter k t0 0 1).bind fun r8 => some (r8 == (List.length t0 : Int)))

def impl_RecOk_1 (k : Nat) (t0 : Int) (t1 : Int) (t2 : Int) (t3 : TVal) : Option Unit :=
  some ()

def impl_isInt32 (k : Nat) (t0 : Int) : Option Bool :=
  (impl_within k t0 (-2147483648) 2147483647).bind fun r1 => some r1

def impl_ValOk.c8 (k : Nat) (t0 : Int) (t26 : Bool) (o100 : TVal) : Option Bool :=
  cond t26
    (some (eqS o100.2.1 (⟨#[]⟩ : ByteArray)))
    ((cond (t0 == 6) (some (o100.1 == 0)) (some (false))).bind fun b1 =>
     (cond b1 (some (decide ((o100.2.1.size : Int) ≤ 40))) (some (false))).bind fun b2 => some b2)

def impl_ValOk (k : Nat) (t0 : Int) (t1 : TVal) : Option Bool :=
  cond (t0 == 0)
    ((impl_within k t1.1 0 1).bind fun r3 => (cond r3 (some (eqS t1.2.1 (⟨#[]⟩ : ByteArray))) (some (false))).bind fun b4 => some b4)
    (cond (t0 == 1)
       ((impl_isInt32 k t1.1).bind fun r5 => (cond r5 (some (eqS t1.2.1 (⟨#[]⟩ : ByteArray))) (some (false))).bind fun b6 => some b6)
       (cond (t0 == 2) (impl_ValOk.c8 k t0 (t0 == 2) t1) (impl_ValOk.c8 k t0 (t0 == 5) t1)))

def impl_walker_next_of_RecOk_1_RecOk_2 (k : Nat) (o0 : TWalker) : Option ((TVal) × TWalker) :=
  (cond o0.2.2.1 (some (true)) (some ((List.length o0.2.1 : Int) == 0))).bind fun b1 =>
  cond b1
    (some ((0, (⟨#[]⟩ : ByteArray), ()), (o0.1, o0.2.1, true, (()), (()), ())))
    ((rdL o0.2.1 0).bind fun y2 =>
     cond (inSl 1 ((List.length o0.2.1) : Int) (List.length o0.2.1)) (
     some (y2, (o0.1, cutL o0.2.1 1 ((List.length o0.2.1) : Int), o0.2.2.1, (()), (()), ()))) none)

def impl_walker_count_of_RecOk_1_RecOk_2 (k : Nat) (t1 : Int) (o0 : TWalker) : Option (Int × TWalker) :=
  (impl_walker_next_of_RecOk_1_RecOk_2 k (o0.1, o0.2.1, o0.2.2.1, (()), (()), ())).bind fun r1 =>
  (cond (!eqS r1.1.2.1 (⟨#[]⟩ : ByteArray)) (some (true)) ((impl_within k r1.1.1 0 t1).bind fun r2 => some (!r2))).bind fun b3 =>
  cond b3 (some (0, (r1.2.1, r1.2.2.1, true, (()), (()), ()))) (some (r1.1.1, (r1.2.1, r1.2.2.1, r1.2.2.2.1, (()), (()), ())))

def impl_RecOk_2 (k : Nat) (t0 : Int) (t1 : Int) (t2 : Int) : Option Unit :=
  some ()

def impl_walker_missing_of_RecOk_1_RecOk_2.c4 (k : Nat) (L3 : Int → Int → Int → Int → TWalker → Option (Int × TWalker)) (t2 : Int) (t3 : Int) (t9 : Int) (t10 : Int) (o0 : TWalker) : Option (Int × TWalker) :=
  L3 t2 t3 t9 (IntKind.wrap .i64 (t10 + 1)) (o0.1, o0.2.1, o0.2.2.1, (()), (()), ())

def impl_walker_missing_of_RecOk_1_RecOk_2.l3 (k : Nat) : Nat → Int → Int → Int → Int → TWalker → Option (Int × TWalker)
  | 0, _, _, _, _, _ => none
  | n + 1, t2, t3, t9, t10, o0 =>
    cond (decide (t10 < t9))
      ((rdL o0.1 t10).bind fun y1 =>
       cond (y1.2.1 != 7)
         ((impl_RecOk_2 k t10 t2 t3).bind fun r2 =>
          impl_walker_missing_of_RecOk_1_RecOk_2.c4 k (impl_walker_missing_of_RecOk_1_RecOk_2.l3 k n) t2 t3 t9 t10 (o0.1, o0.2.1, o0.2.2.1, (()), (()), ()))
         (impl_walker_missing_of_RecOk_1_RecOk_2.c4 k (impl_walker_missing_of_RecOk_1_RecOk_2.l3 k n) t2 t3 t9 t10 (o0.1, o0.2.1, o0.2.2.1, (()), (()), ())))
      (some (t9, (o0.1, o0.2.1, o0.2.2.1, (()), (()), ())))

def impl_walker_missing_of_RecOk_1_RecOk_2 (k : Nat) (t1 : Int) (t2 : Int) (t3 : Int) (o0 : TWalker) : Option (Int × TWalker) :=
  (impl_colAfter k o0.1 t1 1).bind fun r3 => impl_walker_missing_of_RecOk_1_RecOk_2.l3 k k t2 t3 r3 t1 (o0.1, o0.2.1, o0.2.2.1, (()), (()), ())

def impl_walker_body_of_RecOk_1_RecOk_2.c14 (k : Nat) (t12 : Int) (o0 : TWalker) : Option (Int × TWalker) :=
  some (t12, (o0.1, o0.2.1, o0.2.2.1, (()), (()), ()))

def impl_walker_body_of_RecOk_1_RecOk_2.l10 (k : Nat) (S197i6 : Int → Int → Int → Int → TWalker → Option (Int × TWalker)) : Nat → Int → Int → Int → Int → Int → Int → TWalker → Option (Int × TWalker)
  | 0, _, _, _, _, _, _, _ => none
  | n + 1, t2, t3, t4, t12, t70, t71, o0 =>
    cond (decide (t71 < t70))
      (cond o0.2.2.1
         (impl_walker_body_of_RecOk_1_RecOk_2.c14 k t12 (o0.1, o0.2.1, o0.2.2.1, (()), (()), ()))
         ((S197i6 t12 t2 t3 t4 (o0.1, o0.2.1, o0.2.2.1, (()), (()), ())).bind fun r1 =>
          (impl_walker_body_of_RecOk_1_RecOk_2.l10 k S197i6 n) t2 t3 t4 r1.1 t70 (IntKind.wrap .i64 (t71 + 1)) (r1.2.1, r1.2.2.1, r1.2.2.2.1, (()), (()), ())))
      (impl_walker_body_of_RecOk_1_RecOk_2.c14 k t12 (o0.1, o0.2.1, o0.2.2.1, (()), (()), ()))

def impl_walker_body_of_RecOk_1_RecOk_2.c7 (k : Nat) (t1 : Int) (o0 : TWalker) : Option (Int × TWalker) :=
  some (IntKind.wrap .i64 (t1 + 1), (o0.1, o0.2.1, o0.2.2.1, (()), (()), ()))

def impl_walker_body_of_RecOk_1_RecOk_2.c5 (k : Nat) (t1 : Int) (t2 : Int) (t3 : Int) (o0 : TWalker) (o100 : TVal) : Option (Int × TWalker) :=
  cond (!o0.2.2.1)
    ((impl_RecOk_1 k t1 t2 t3 o100).bind fun r2 => impl_walker_body_of_RecOk_1_RecOk_2.c7 k t1 (o0.1, o0.2.1, o0.2.2.1, (()), (()), ()))
    (impl_walker_body_of_RecOk_1_RecOk_2.c7 k t1 (o0.1, o0.2.1, o0.2.2.1, (()), (()), ()))

def impl_walker_body_of_RecOk_1_RecOk_2.d3 (k : Nat) (t1 : Int) (t2 : Int) (t3 : Int) (o0 : TWalker) (o100 : TVal) : Option (Int × TWalker) :=
  cond (!o0.2.2.1)
    ((rdL o0.1 t1).bind fun y3 =>
     (impl_ValOk k y3.2.1 o100).bind fun r4 =>
     cond (!r4)
       (impl_walker_body_of_RecOk_1_RecOk_2.c5 k t1 t2 t3 (o0.1, o0.2.1, true, (()), (()), ()) o100)
       (impl_walker_body_of_RecOk_1_RecOk_2.c5 k t1 t2 t3 (o0.1, o0.2.1, o0.2.2.1, (()), (()), ()) o100))
    (cond false
       (impl_walker_body_of_RecOk_1_RecOk_2.c5 k t1 t2 t3 (o0.1, o0.2.1, true, (()), (()), ()) o100)
       (impl_walker_body_of_RecOk_1_RecOk_2.c5 k t1 t2 t3 (o0.1, o0.2.1, o0.2.2.1, (()), (()), ()) o100))

def impl_walker_body_of_RecOk_1_RecOk_2.b (k : Nat) (S141i3 : Int → Int → Int → Int → TWalker → Option (Int × TWalker)) (S197i6 : Int → Int → Int → Int → TWalker → Option (Int × TWalker)) (t1 : Int) (t2 : Int) (t3 : Int) (t4 : Int) (o0 : TWalker) : Option (Int × TWalker) :=
  (rdL o0.1 t1).bind fun y7 =>
  cond (y7.2.1 != 7)
    ((impl_walker_next_of_RecOk_1_RecOk_2 k (o0.1, o0.2.1, o0.2.2.1, (()), (()), ())).bind fun r8 =>
     impl_walker_body_of_RecOk_1_RecOk_2.d3 k t1 t2 t3 (r8.2.1, r8.2.2.1, r8.2.2.2.1, (()), (()), ()) r8.1)
    ((rdL o0.1 t1).bind fun y9 =>
     impl_walker_body_of_RecOk_1_RecOk_2.l10 k S197i6 k t2 t3 t4 (IntKind.wrap .i64 (t1 + 1)) y9.2.2.2.1 0 (o0.1, o0.2.1, o0.2.2.1, (()), (()), ()))

def impl_walker_col_of_RecOk_1_RecOk_2.c18 (k : Nat) (S141i3 : Int → Int → Int → Int → TWalker → Option (Int × TWalker)) (t1 : Int) (t2 : Int) (t3 : Int) (t4 : Int) (o0 : TWalker) : Option (Int × TWalker) :=
  (S141i3 t1 t2 t3 t4 (o0.1, o0.2.1, o0.2.2.1, (()), (()), ())).bind fun r1 => some (r1.1, (r1.2.1, r1.2.2.1, r1.2.2.2.1, (()), (()), ()))

def impl_walker_col_of_RecOk_1_RecOk_2.l14 (k : Nat) (S141i3 : Int → Int → Int → Int → TWalker → Option (Int × TWalker)) : Nat → Int → Int → Int → Int → Int → TWalker → Option (Int × TWalker)
  | 0, _, _, _, _, _, _ => none
  | n + 1, t1, t3, t4, t12, t13, o0 =>
    (cond (decide (t13 < t12)) (some (!o0.2.2.1)) (some (false))).bind fun b2 =>
    cond b2
      ((S141i3 t1 t4 (IntKind.wrap .i64 (t3 + 1)) t4 (o0.1, o0.2.1, o0.2.2.1, (()), (()), ())).bind fun r3 =>
       (impl_walker_col_of_RecOk_1_RecOk_2.l14 k S141i3 n) t1 t3 t4 t12 (IntKind.wrap .i64 (t13 + 1)) (r3.2.1, r3.2.2.1, r3.2.2.2.1, (()), (()), ()))
      ((impl_colAfter k o0.1 t1 1).bind fun r4 => some (r4, (o0.1, o0.2.1, o0.2.2.1, (()), (()), ())))

def impl_walker_col_of_RecOk_1_RecOk_2.b (k : Nat) (S141i3 : Int → Int → Int → Int → TWalker → Option (Int × TWalker)) (S197i6 : Int → Int → Int → Int → TWalker → Option (Int × TWalker)) (t1 : Int) (t2 : Int) (t3 : Int) (t4 : Int) (o0 : TWalker) : Option (Int × TWalker) :=
  (rdL o0.1 t1).bind fun y5 =>
  cond (y5.2.2.1 == 1)
    ((impl_walker_count_of_RecOk_1_RecOk_2 k 1 (o0.1, o0.2.1, o0.2.2.1, (()), (()), ())).bind fun r6 =>
     cond (r6.1 == 0)
       ((impl_walker_missing_of_RecOk_1_RecOk_2 k t1 t2 t3 (r6.2.1, r6.2.2.1, r6.2.2.2.1, (()), (()), ())).bind fun r7 =>
        some (r7.1, (r7.2.1, r7.2.2.1, r7.2.2.2.1, (()), (()), ())))
       (impl_walker_col_of_RecOk_1_RecOk_2.c18 k S141i3 t1 t2 (IntKind.wrap .i64 (t3 + 1)) t4 (r6.2.1, r6.2.2.1, r6.2.2.2.1, (()), (()), ())))
    (cond (y5.2.2.1 == 2)
       ((impl_walker_count_of_RecOk_1_RecOk_2 k 20 (o0.1, o0.2.1, o0.2.2.1, (()), (()), ())).bind fun r8 =>
        cond (r8.1 == 0)
          ((impl_walker_missing_of_RecOk_1_RecOk_2 k t1 t2 t3 (r8.2.1, r8.2.2.1, r8.2.2.2.1, (()), (()), ())).bind fun r9 =>
           some (r9.1, (r9.2.1, r9.2.2.1, r9.2.2.2.1, (()), (()), ())))
          ((S141i3 t1 t2 (IntKind.wrap .i64 (t3 + 1)) (IntKind.wrap .i64 (t4 + 1)) (r8.2.1, r8.2.2.1, r8.2.2.2.1, (()), (()), ())).bind fun r10 =>
           impl_walker_col_of_RecOk_1_RecOk_2.l14 k S141i3 k t1 t3 (IntKind.wrap .i64 (t4 + 1)) r8.1 1 (r10.2.1, r10.2.2.1, r10.2.2.2.1, (()), (()), ())))
       (impl_walker_col_of_RecOk_1_RecOk_2.c18 k S141i3 t1 t2 t3 t4 (o0.1, o0.2.1, o0.2.2.1, (()), (()), ())))

def impl_walker_body_of_RecOk_1_RecOk_2.rec (k : Nat) : Nat → (Int → Int → Int → Int → TWalker → Option (Int × TWalker)) × (Int → Int → Int → Int → TWalker → Option (Int × TWalker))
  | 0 => (fun _ _ _ _ _ => none, fun _ _ _ _ _ => none)
  | d + 1 => (impl_walker_body_of_RecOk_1_RecOk_2.b k ((impl_walker_body_of_RecOk_1_RecOk_2.rec k d).1) ((impl_walker_body_of_RecOk_1_RecOk_2.rec k d).2), impl_walker_col_of_RecOk_1_RecOk_2.b k ((impl_walker_body_of_RecOk_1_RecOk_2.rec k d).1) ((impl_walker_body_of_RecOk_1_RecOk_2.rec k d).2))

def impl_walker_body_of_RecOk_1_RecOk_2.d (k d : Nat) : Int → Int → Int → Int → TWalker → Option (Int × TWalker) := (impl_walker_body_of_RecOk_1_RecOk_2.rec k d).1

def impl_walker_body_of_RecOk_1_RecOk_2 (k : Nat) : Int → Int → Int → Int → TWalker → Option (Int × TWalker) := impl_walker_body_of_RecOk_1_RecOk_2.d k k

def impl_walker_col_of_RecOk_1_RecOk_2.d (k d : Nat) : Int → Int → Int → Int → TWalker → Option (Int × TWalker) := (impl_walker_body_of_RecOk_1_RecOk_2.rec k d).2

def impl_walker_col_of_RecOk_1_RecOk_2 (k : Nat) : Int → Int → Int → Int → TWalker → Option (Int × TWalker) := impl_walker_col_of_RecOk_1_RecOk_2.d k k

def impl_walk_of_RecOk_1_RecOk_2 (k : Nat) (t0 : List TCol) (t1 : TRec) (t2 : Unit) (t3 : Unit) : Option Bool :=
  (impl_walker_body_of_RecOk_1_RecOk_2 k 0 0 0 0 (t0, t1.1, decide ((List.length t1.1 : Int) > 300), (()), (()), ())).bind fun r1 =>
  (cond (!r1.2.2.2.1) (some ((List.length r1.2.2.1 : Int) == 0)) (some (false))).bind fun b2 => some b2

def impl_RecOk (k : Nat) (t0 : List TCol) (t1 : TRec) : Option Bool :=
  (impl_SchemaOk k t0).bind fun r1 =>
  (cond r1 ((impl_walk_of_RecOk_1_RecOk_2 k t0 t1 (()) (())).bind fun r2 => some (r2)) (some (false))).bind fun b3 => some b3

def impl_isPair (k : Nat) (t0 : Int) : Option Bool :=
  (cond (t0 == 5) (some (true)) (some (t0 == 6))).bind fun b1 => some b1

def impl_leavesOf.c7 (k : Nat) (L3 : (List TCol) → Int → Int → (List Int) → Option (Unit × (List Int))) (t7 : List TCol) (t8 : Int) (t9 : Int) (o100 : List Int) : Option (Unit × (List Int)) :=
  L3 t7 t8 (IntKind.wrap .i64 (t9 + 1)) o100

def impl_leavesOf.l3 (k : Nat) : Nat → (List TCol) → Int → Int → (List Int) → Option (Unit × (List Int))
  | 0, _, _, _, _ => none
  | n + 1, t7, t8, t9, o100 =>
    cond (decide (t9 < t8))
      ((rdL t7 t9).bind fun y1 =>
       cond (y1.2.1 != 7)
         (cond (lim (List.length o100 + List.length [t9])) (impl_leavesOf.c7 k (impl_leavesOf.l3 k n) t7 t8 t9 (o100 ++ [t9])) none)
         (impl_leavesOf.c7 k (impl_leavesOf.l3 k n) t7 t8 t9 o100))
      (some ((), o100))

def impl_leavesOf (k : Nat) (t0 : List TCol) : Option (Unit × (List Int)) :=
  impl_leavesOf.l3 k k t0 (List.length t0 : Int) 0 []

def impl_SchemaLeaves (k : Nat) (t0 : List TCol) : Option (Unit × (List Int)) :=
  (impl_SchemaOk k t0).bind fun r1 => cond (!r1) (some ((), [])) ((impl_leavesOf k t0).bind fun r2 => some ((), r2.2))

def impl_wayTo.l6 (k : Nat) : Nat → (List TCol) → Int → Int → (List Int) → (List Int) → Option (Unit × (List Int))
  | 0, _, _, _, _, _ => none
  | n + 1, t0, t1, t7, o100, o101 =>
    (rdL o100 t1).bind fun y1 =>
    cond (decide (t7 ≤ y1))
      ((impl_colAfter k t0 t7 1).bind fun r2 =>
       (rdL o100 t1).bind fun y3 =>
       cond (decide (r2 > y3))
         (cond (lim (List.length o101 + List.length [t7])) ((impl_wayTo.l6 k n) t0 t1 (IntKind.wrap .i64 (t7 + 1)) o100 (o101 ++ [t7])) none)
         ((impl_wayTo.l6 k n) t0 t1 r2 o100 o101))
      (some ((), o101))

def impl_wayTo (k : Nat) (t0 : List TCol) (t1 : Int) : Option (Unit × (List Int)) :=
  (impl_SchemaLeaves k t0).bind fun r4 =>
  (impl_within k t1 0 (IntKind.wrap .i64 ((List.length r4.2 : Int) - 1))).bind fun r5 =>
  cond (!r5) (some ((), [])) (impl_wayTo.l6 k k t0 t1 1 r4.2 [])

def impl_LeafMax.c12 (k : Nat) (L6 : (List TCol) → Int → Int → Int → Int → (List Int) → Option (Int × Int)) (t0 : List TCol) (t7 : Int) (t8 : Int) (t18 : Int) (t19 : Int) (o100 : List Int) : Option (Int × Int) :=
  L6 t0 t7 t8 t18 (IntKind.wrap .i64 (t19 + 1)) o100

def impl_LeafMax.c10 (k : Nat) (L6 : (List TCol) → Int → Int → Int → Int → (List Int) → Option (Int × Int)) (t0 : List TCol) (t7 : Int) (t8 : Int) (t10 : Int) (t18 : Int) (t19 : Int) (o100 : List Int) : Option (Int × Int) :=
  (rdL t0 t10).bind fun y1 =>
  cond (y1.2.2.1 == 2) (impl_LeafMax.c12 k L6 t0 t7 (IntKind.wrap .i64 (t8 + 1)) t18 t19 o100) (impl_LeafMax.c12 k L6 t0 t7 t8 t18 t19 o100)

def impl_LeafMax.l6 (k : Nat) : Nat → (List TCol) → Int → Int → Int → Int → (List Int) → Option (Int × Int)
  | 0, _, _, _, _, _, _ => none
  | n + 1, t0, t7, t8, t18, t19, o100 =>
    cond (decide (t19 < t18))
      ((rdL o100 t19).bind fun y2 =>
       (rdL t0 y2).bind fun y3 =>
       cond (y3.2.2.1 != 0)
         (impl_LeafMax.c10 k (impl_LeafMax.l6 k n) t0 (IntKind.wrap .i64 (t7 + 1)) t8 y2 t18 t19 o100)
         (impl_LeafMax.c10 k (impl_LeafMax.l6 k n) t0 t7 t8 y2 t18 t19 o100))
      (some (t7, t8))

def impl_LeafMax (k : Nat) (t0 : List TCol) (t1 : Int) : Option (Int × Int) :=
  (impl_wayTo k t0 t1).bind fun r4 =>
  cond ((List.length r4.2 : Int) == 0) (some ((-1), (-1))) (impl_LeafMax.l6 k k t0 0 0 (List.length r4.2 : Int) 0 r4.2)

def impl_LeafOf (k : Nat) (t0 : List TCol) (t1 : Int) : Option (TLeaf × Bool) :=
  (impl_SchemaLeaves k t0).bind fun r1 =>
  (impl_within k t1 0 (IntKind.wrap .i64 ((List.length r1.2 : Int) - 1))).bind fun r2 =>
  cond (!r2)
    (some ((0, 0, 0, ()), false))
    ((impl_LeafMax k t0 t1).bind fun r3 => (rdL r1.2 t1).bind fun y4 => (rdL t0 y4).bind fun y5 => some ((y5.2.1, r3.2, r3.1, ()), true))

def impl_plainPred (k : Nat) (t0 : List TCol) (t1 : TPred) : Option Bool :=
  (impl_LeafOf k t0 t1.2.1).bind fun r1 =>
  (cond (!r1.2) (some (true)) (some (r1.1.2.1 != 0))).bind fun b2 =>
  (cond b2 (some (true)) (some (t1.2.2.2.1 != 0))).bind fun b3 =>
  (cond b3 (some (true)) (some (t1.2.2.2.2.1 != 0))).bind fun b4 =>
  cond b4
    (some false)
    (cond (t1.1 == 4)
       (some ((t1.2.2.1.1 == 0) && (eqS t1.2.2.1.2.1 (⟨#[]⟩ : ByteArray) && true)))
       ((impl_ValOk k r1.1.1 t1.2.2.1).bind fun r5 => some r5))

def impl_PredOk.c20 (k : Nat) (L5 : (List TCol) → (List TPred) → (List TPred) → Int → Int → (List Int) → Option Bool) (t0 : List TCol) (t1 : List TPred) (t20 : List TPred) (t21 : Int) (t22 : Int) (o100 : List Int) : Option Bool :=
  L5 t0 t1 t20 t21 (IntKind.wrap .i64 (t22 + 1)) o100

def impl_PredOk.l5 (k : Nat) : Nat → (List TCol) → (List TPred) → (List TPred) → Int → Int → (List Int) → Option Bool
  | 0, _, _, _, _, _, _ => none
  | n + 1, t0, t1, t20, t21, t22, o100 =>
    cond (decide (t22 < t21))
      ((rdL t20 t22).bind fun y1 =>
       (rdL o100 t22).bind fun y2 =>
       (rdL o100 t22).bind fun y3 =>
       (impl_within k y1.1 1 4).bind fun r4 =>
       cond r4
         ((impl_plainPred k t0 y1).bind fun r5 =>
          cond (!r5) (some false) (impl_PredOk.c20 k (impl_PredOk.l5 k n) t0 t1 t20 t21 t22 (List.set o100 (Int.toNat t22) t22)))
         ((impl_isPair k y1.1).bind fun r6 =>
          cond r6
            ((cond (t22 == 0) (some (true)) ((rdL (List.set o100 (Int.toNat t22) t22) (IntKind.wrap .i64 (t22 - 1))).bind fun y7 => some (y7 == 0))).bind fun b8 =>
             (cond b8
                (some (true))
                ((rdL (List.set o100 (Int.toNat t22) t22) (IntKind.wrap .i64 (t22 - 1))).bind fun y9 =>
                 some (!(((y1.1 == y1.1) && ((y1.2.1 == 0) && (((y1.2.2.1.1 == 0) && (eqS y1.2.2.1.2.1 (⟨#[]⟩ : ByteArray) && true)) && ((y1.2.2.2.1 == (IntKind.wrap .i64 (y9 - 1))) && ((y1.2.2.2.2.1 == (IntKind.wrap .i64 (t22 - 1))) && true))))))))).bind fun b10 =>
             cond b10
               (some false)
               ((rdL (List.set o100 (Int.toNat t22) t22) y1.2.2.2.1).bind fun y11 =>
                (rdL (List.set o100 (Int.toNat t22) t22) t22).bind fun y12 =>
                (rdL (List.set o100 (Int.toNat t22) t22) t22).bind fun y13 =>
                impl_PredOk.c20 k (impl_PredOk.l5 k n) t0 t1 t20 t21 t22 (List.set (List.set o100 (Int.toNat t22) t22) (Int.toNat t22) y11)))
            (cond (y1.1 == 7)
               ((cond (t22 == 0)
                   (some (true))
                   (some (!(((y1.1 == 7) && ((y1.2.1 == 0) && (((y1.2.2.1.1 == 0) && (eqS y1.2.2.1.2.1 (⟨#[]⟩ : ByteArray) && true)) && ((y1.2.2.2.1 == (IntKind.wrap .i64 (t22 - 1))) && ((y1.2.2.2.2.1 == 0) && true))))))))).bind fun b14 =>
                cond b14
                  (some false)
                  ((rdL (List.set o100 (Int.toNat t22) t22) y1.2.2.2.1).bind fun y15 =>
                   (rdL (List.set o100 (Int.toNat t22) t22) t22).bind fun y16 =>
                   (rdL (List.set o100 (Int.toNat t22) t22) t22).bind fun y17 =>
                   impl_PredOk.c20 k (impl_PredOk.l5 k n) t0 t1 t20 t21 t22 (List.set (List.set o100 (Int.toNat t22) t22) (Int.toNat t22) y15)))
               (some false))))
      ((rdL o100 (IntKind.wrap .i64 ((List.length t1 : Int) - 1))).bind fun y18 => some (y18 == 0))

def impl_PredOk (k : Nat) (t0 : List TCol) (t1 : List TPred) : Option Bool :=
  (impl_SchemaOk k t0).bind fun r19 =>
  (cond (!r19) (some (true)) ((impl_within k (List.length t1 : Int) 1 31).bind fun r20 => some (!r20))).bind fun b21 =>
  cond b21
    (some false)
    (cond (okLen (List.length t1 : Int)) (
     impl_PredOk.l5 k k t0 t1 t1 (List.length t1 : Int) 0 (List.replicate (Int.toNat (List.length t1 : Int)) 0)) none)

def impl_walker_next_of_RecValues_1_RecValues_2 (k : Nat) (o0 : TWalkerB) (o10 : Unit) (o11 : List Int) (o12 : Int) (o13 : Unit) (o14 : List TVal) : Option ((TVal) × TWalkerB × Unit × (List Int) × Int × Unit × (List TVal)) :=
  (cond o0.2.2.1 (some (true)) (some ((List.length o0.2.1 : Int) == 0))).bind fun b1 =>
  cond b1
    (some ((0, (⟨#[]⟩ : ByteArray), ()), ((o0.1, o0.2.1, true, ((), (), (), ()), (()), ()), (), o11, o12, (), o14)))
    ((rdL o0.2.1 0).bind fun y2 =>
     cond (inSl 1 ((List.length o0.2.1) : Int) (List.length o0.2.1)) (
     some (y2, ((o0.1, cutL o0.2.1 1 ((List.length o0.2.1) : Int), o0.2.2.1, ((), (), (), ()), (()), ()), (), o11, o12, (), o14))) none)

def impl_walker_count_of_RecValues_1_RecValues_2 (k : Nat) (t1 : Int) (o0 : TWalkerB) (o10 : Unit) (o11 : List Int) (o12 : Int) (o13 : Unit) (o14 : List TVal) : Option (Int × TWalkerB × Unit × (List Int) × Int × Unit × (List TVal)) :=
  (impl_walker_next_of_RecValues_1_RecValues_2 k (o0.1, o0.2.1, o0.2.2.1, ((), (), (), ()), (()), ()) () o11 o12 () o14).bind fun r1 =>
  (cond (!eqS r1.1.2.1 (⟨#[]⟩ : ByteArray)) (some (true)) ((impl_within k r1.1.1 0 t1).bind fun r2 => some (!r2))).bind fun b3 =>
  cond b3
    (some (0, ((r1.2.1.1, r1.2.1.2.1, true, ((), (), (), ()), (()), ()), (), r1.2.2.2.1, r1.2.2.2.2.1, (), r1.2.2.2.2.2.2)))
    (some (r1.1.1, ((r1.2.1.1, r1.2.1.2.1, r1.2.1.2.2.1, ((), (), (), ()), (()), ()), (), r1.2.2.2.1, r1.2.2.2.2.1, (), r1.2.2.2.2.2.2)))

def impl_RecValues_2 (k : Nat) (t0 : Int) (t1 : Int) (t2 : Int) : Option Unit :=
  some ()

def impl_walker_missing_of_RecValues_1_RecValues_2.c4 (k : Nat) (L3 : Int → Int → Int → Int → TWalkerB → Unit → (List Int) → Int → Unit → (List TVal) → Option (Int × TWalkerB × Unit × (List Int) × Int × Unit × (List TVal))) (t2 : Int) (t3 : Int) (t9 : Int) (t10 : Int) (o0 : TWalkerB) (o10 : Unit) (o11 : List Int) (o12 : Int) (o13 : Unit) (o14 : List TVal) : Option (Int × TWalkerB × Unit × (List Int) × Int × Unit × (List TVal)) :=
  L3 t2 t3 t9 (IntKind.wrap .i64 (t10 + 1)) (o0.1, o0.2.1, o0.2.2.1, ((), (), (), ()), (()), ()) () o11 o12 () o14

def impl_walker_missing_of_RecValues_1_RecValues_2.l3 (k : Nat) : Nat → Int → Int → Int → Int → TWalkerB → Unit → (List Int) → Int → Unit → (List TVal) → Option (Int × TWalkerB × Unit × (List Int) × Int × Unit × (List TVal))
  | 0, _, _, _, _, _, _, _, _, _, _ => none
  | n + 1, t2, t3, t9, t10, o0, o10, o11, o12, o13, o14 =>
    cond (decide (t10 < t9))
      ((rdL o0.1 t10).bind fun y1 =>
       cond (y1.2.1 != 7)
         ((impl_RecValues_2 k t10 t2 t3).bind fun r2 =>
          impl_walker_missing_of_RecValues_1_RecValues_2.c4 k (impl_walker_missing_of_RecValues_1_RecValues_2.l3 k n) t2 t3 t9 t10 (o0.1, o0.2.1, o0.2.2.1, ((), (), (), ()), (()), ()) () o11 o12 () o14)
         (impl_walker_missing_of_RecValues_1_RecValues_2.c4 k (impl_walker_missing_of_RecValues_1_RecValues_2.l3 k n) t2 t3 t9 t10 (o0.1, o0.2.1, o0.2.2.1, ((), (), (), ()), (()), ()) () o11 o12 () o14))
      (some (t9, ((o0.1, o0.2.1, o0.2.2.1, ((), (), (), ()), (()), ()), (), o11, o12, (), o14)))

def impl_walker_missing_of_RecValues_1_RecValues_2 (k : Nat) (t1 : Int) (t2 : Int) (t3 : Int) (o0 : TWalkerB) (o10 : Unit) (o11 : List Int) (o12 : Int) (o13 : Unit) (o14 : List TVal) : Option (Int × TWalkerB × Unit × (List Int) × Int × Unit × (List TVal)) :=
  (impl_colAfter k o0.1 t1 1).bind fun r3 =>
  impl_walker_missing_of_RecValues_1_RecValues_2.l3 k k t2 t3 r3 t1 (o0.1, o0.2.1, o0.2.2.1, ((), (), (), ()), (()), ()) () o11 o12 () o14

def impl_RecValues_1 (k : Nat) (t0 : Int) (t1 : Int) (t2 : Int) (t3 : TVal) (o4 : Unit) (o5 : Int) (o6 : Unit) (o10 : List Int) (o11 : List TVal) : Option (Unit × Unit × Int × Unit × (List Int) × (List TVal)) :=
  (rdL o10 o5).bind fun y1 =>
  cond (t0 == y1)
    (cond (lim (List.length o11 + List.length [t3])) (some ((), ((), o5, (), o10, o11 ++ [t3]))) none)
    (some ((), ((), o5, (), o10, o11)))

def impl_walker_body_of_RecValues_1_RecValues_2.c14 (k : Nat) (t12 : Int) (o0 : TWalkerB) (o10 : Unit) (o11 : List Int) (o12 : Int) (o13 : Unit) (o100 : List TVal) : Option (Int × TWalkerB × Unit × (List Int) × Int × Unit × (List TVal)) :=
  some (t12, ((o0.1, o0.2.1, o0.2.2.1, ((), (), (), ()), (()), ()), (), o11, o12, (), o100))

def impl_walker_body_of_RecValues_1_RecValues_2.l10 (k : Nat) (S197i8 : Int → Int → Int → Int → TWalkerB → Unit → (List Int) → Int → Unit → (List TVal) → Option (Int × TWalkerB × Unit × (List Int) × Int × Unit × (List TVal))) : Nat → Int → Int → Int → Int → Int → Int → TWalkerB → Unit → (List Int) → Int → Unit → (List TVal) → Option (Int × TWalkerB × Unit × (List Int) × Int × Unit × (List TVal))
  | 0, _, _, _, _, _, _, _, _, _, _, _, _ => none
  | n + 1, t2, t3, t4, t12, t70, t71, o0, o10, o11, o12, o13, o100 =>
    cond (decide (t71 < t70))
      (cond o0.2.2.1
         (impl_walker_body_of_RecValues_1_RecValues_2.c14 k t12 (o0.1, o0.2.1, o0.2.2.1, ((), (), (), ()), (()), ()) () o11 o12 () o100)
         ((S197i8 t12 t2 t3 t4 (o0.1, o0.2.1, o0.2.2.1, ((), (), (), ()), (()), ()) () o11 o12 () o100).bind fun r1 =>
          (impl_walker_body_of_RecValues_1_RecValues_2.l10 k S197i8 n) t2 t3 t4 r1.1 t70 (IntKind.wrap .i64 (t71 + 1)) (r1.2.1.1, r1.2.1.2.1, r1.2.1.2.2.1, ((), (), (), ()), (()), ()) () r1.2.2.2.1 r1.2.2.2.2.1 () r1.2.2.2.2.2.2))
      (impl_walker_body_of_RecValues_1_RecValues_2.c14 k t12 (o0.1, o0.2.1, o0.2.2.1, ((), (), (), ()), (()), ()) () o11 o12 () o100)

def impl_walker_body_of_RecValues_1_RecValues_2.c7 (k : Nat) (t1 : Int) (o0 : TWalkerB) (o10 : Unit) (o11 : List Int) (o12 : Int) (o13 : Unit) (o100 : List TVal) : Option (Int × TWalkerB × Unit × (List Int) × Int × Unit × (List TVal)) :=
  some (IntKind.wrap .i64 (t1 + 1), ((o0.1, o0.2.1, o0.2.2.1, ((), (), (), ()), (()), ()), (), o11, o12, (), o100))

def impl_walker_body_of_RecValues_1_RecValues_2.c5 (k : Nat) (t1 : Int) (t2 : Int) (t3 : Int) (o0 : TWalkerB) (o10 : Unit) (o11 : List Int) (o12 : Int) (o13 : Unit) (o14 : List TVal) (o100 : TVal) : Option (Int × TWalkerB × Unit × (List Int) × Int × Unit × (List TVal)) :=
  cond (!o0.2.2.1)
    ((impl_RecValues_1 k t1 t2 t3 o100 () o12 () o11 o14).bind fun r2 =>
     impl_walker_body_of_RecValues_1_RecValues_2.c7 k t1 (o0.1, o0.2.1, o0.2.2.1, ((), (), (), ()), (()), ()) () r2.2.2.2.2.1 r2.2.2.1 () r2.2.2.2.2.2)
    (impl_walker_body_of_RecValues_1_RecValues_2.c7 k t1 (o0.1, o0.2.1, o0.2.2.1, ((), (), (), ()), (()), ()) () o11 o12 () o14)

def impl_walker_body_of_RecValues_1_RecValues_2.d3 (k : Nat) (t1 : Int) (t2 : Int) (t3 : Int) (o0 : TWalkerB) (o10 : Unit) (o11 : List Int) (o12 : Int) (o13 : Unit) (o14 : List TVal) (o100 : TVal) : Option (Int × TWalkerB × Unit × (List Int) × Int × Unit × (List TVal)) :=
  cond (!o0.2.2.1)
    ((rdL o0.1 t1).bind fun y3 =>
     (impl_ValOk k y3.2.1 o100).bind fun r4 =>
     cond (!r4)
       (impl_walker_body_of_RecValues_1_RecValues_2.c5 k t1 t2 t3 (o0.1, o0.2.1, true, ((), (), (), ()), (()), ()) () o11 o12 () o14 o100)
       (impl_walker_body_of_RecValues_1_RecValues_2.c5 k t1 t2 t3 (o0.1, o0.2.1, o0.2.2.1, ((), (), (), ()), (()), ()) () o11 o12 () o14 o100))
    (cond false
       (impl_walker_body_of_RecValues_1_RecValues_2.c5 k t1 t2 t3 (o0.1, o0.2.1, true, ((), (), (), ()), (()), ()) () o11 o12 () o14 o100)
       (impl_walker_body_of_RecValues_1_RecValues_2.c5 k t1 t2 t3 (o0.1, o0.2.1, o0.2.2.1, ((), (), (), ()), (()), ()) () o11 o12 () o14 o100))

def impl_walker_body_of_RecValues_1_RecValues_2.b (k : Nat) (S141i4 : Int → Int → Int → Int → TWalkerB → Unit → (List Int) → Int → Unit → (List TVal) → Option (Int × TWalkerB × Unit × (List Int) × Int × Unit × (List TVal))) (S197i8 : Int → Int → Int → Int → TWalkerB → Unit → (List Int) → Int → Unit → (List TVal) → Option (Int × TWalkerB × Unit × (List Int) × Int × Unit × (List TVal))) (t1 : Int) (t2 : Int) (t3 : Int) (t4 : Int) (o0 : TWalkerB) (o10 : Unit) (o11 : List Int) (o12 : Int) (o13 : Unit) (o14 : List TVal) : Option (Int × TWalkerB × Unit × (List Int) × Int × Unit × (List TVal)) :=
  (rdL o0.1 t1).bind fun y7 =>
  cond (y7.2.1 != 7)
    ((impl_walker_next_of_RecValues_1_RecValues_2 k (o0.1, o0.2.1, o0.2.2.1, ((), (), (), ()), (()), ()) () o11 o12 () o14).bind fun r8 =>
     impl_walker_body_of_RecValues_1_RecValues_2.d3 k t1 t2 t3 (r8.2.1.1, r8.2.1.2.1, r8.2.1.2.2.1, ((), (), (), ()), (()), ()) () r8.2.2.2.1 r8.2.2.2.2.1 () r8.2.2.2.2.2.2 r8.1)
    ((rdL o0.1 t1).bind fun y9 =>
     impl_walker_body_of_RecValues_1_RecValues_2.l10 k S197i8 k t2 t3 t4 (IntKind.wrap .i64 (t1 + 1)) y9.2.2.2.1 0 (o0.1, o0.2.1, o0.2.2.1, ((), (), (), ()), (()), ()) () o11 o12 () o14)

def impl_walker_col_of_RecValues_1_RecValues_2.c18 (k : Nat) (S141i4 : Int → Int → Int → Int → TWalkerB → Unit → (List Int) → Int → Unit → (List TVal) → Option (Int × TWalkerB × Unit × (List Int) × Int × Unit × (List TVal))) (t1 : Int) (t2 : Int) (t3 : Int) (t4 : Int) (o0 : TWalkerB) (o10 : Unit) (o11 : List Int) (o12 : Int) (o13 : Unit) (o14 : List TVal) : Option (Int × TWalkerB × Unit × (List Int) × Int × Unit × (List TVal)) :=
  (S141i4 t1 t2 t3 t4 (o0.1, o0.2.1, o0.2.2.1, ((), (), (), ()), (()), ()) () o11 o12 () o14).bind fun r1 =>
  some (r1.1, ((r1.2.1.1, r1.2.1.2.1, r1.2.1.2.2.1, ((), (), (), ()), (()), ()), (), r1.2.2.2.1, r1.2.2.2.2.1, (), r1.2.2.2.2.2.2))

def impl_walker_col_of_RecValues_1_RecValues_2.l14 (k : Nat) (S141i4 : Int → Int → Int → Int → TWalkerB → Unit → (List Int) → Int → Unit → (List TVal) → Option (Int × TWalkerB × Unit × (List Int) × Int × Unit × (List TVal))) : Nat → Int → Int → Int → Int → Int → TWalkerB → Unit → (List Int) → Int → Unit → (List TVal) → Option (Int × TWalkerB × Unit × (List Int) × Int × Unit × (List TVal))
  | 0, _, _, _, _, _, _, _, _, _, _, _ => none
  | n + 1, t1, t3, t4, t12, t13, o0, o10, o11, o12, o13, o100 =>
    (cond (decide (t13 < t12)) (some (!o0.2.2.1)) (some (false))).bind fun b2 =>
    cond b2
      ((S141i4 t1 t4 (IntKind.wrap .i64 (t3 + 1)) t4 (o0.1, o0.2.1, o0.2.2.1, ((), (), (), ()), (()), ()) () o11 o12 () o100).bind fun r3 =>
       (impl_walker_col_of_RecValues_1_RecValues_2.l14 k S141i4 n) t1 t3 t4 t12 (IntKind.wrap .i64 (t13 + 1)) (r3.2.1.1, r3.2.1.2.1, r3.2.1.2.2.1, ((), (), (), ()), (()), ()) () r3.2.2.2.1 r3.2.2.2.2.1 () r3.2.2.2.2.2.2)
      ((impl_colAfter k o0.1 t1 1).bind fun r4 => some (r4, ((o0.1, o0.2.1, o0.2.2.1, ((), (), (), ()), (()), ()), (), o11, o12, (), o100)))

def impl_walker_col_of_RecValues_1_RecValues_2.b (k : Nat) (S141i4 : Int → Int → Int → Int → TWalkerB → Unit → (List Int) → Int → Unit → (List TVal) → Option (Int × TWalkerB × Unit × (List Int) × Int × Unit × (List TVal))) (S197i8 : Int → Int → Int → Int → TWalkerB → Unit → (List Int) → Int → Unit → (List TVal) → Option (Int × TWalkerB × Unit × (List Int) × Int × Unit × (List TVal))) (t1 : Int) (t2 : Int) (t3 : Int) (t4 : Int) (o0 : TWalkerB) (o10 : Unit) (o11 : List Int) (o12 : Int) (o13 : Unit) (o14 : List TVal) : Option (Int × TWalkerB × Unit × (List Int) × Int × Unit × (List TVal)) :=
  (rdL o0.1 t1).bind fun y5 =>
  cond (y5.2.2.1 == 1)
    ((impl_walker_count_of_RecValues_1_RecValues_2 k 1 (o0.1, o0.2.1, o0.2.2.1, ((), (), (), ()), (()), ()) () o11 o12 () o14).bind fun r6 =>
     cond (r6.1 == 0)
       ((impl_walker_missing_of_RecValues_1_RecValues_2 k t1 t2 t3 (r6.2.1.1, r6.2.1.2.1, r6.2.1.2.2.1, ((), (), (), ()), (()), ()) () r6.2.2.2.1 r6.2.2.2.2.1 () r6.2.2.2.2.2.2).bind fun r7 =>
        some (r7.1, ((r7.2.1.1, r7.2.1.2.1, r7.2.1.2.2.1, ((), (), (), ()), (()), ()), (), r7.2.2.2.1, r7.2.2.2.2.1, (), r7.2.2.2.2.2.2)))
       (impl_walker_col_of_RecValues_1_RecValues_2.c18 k S141i4 t1 t2 (IntKind.wrap .i64 (t3 + 1)) t4 (r6.2.1.1, r6.2.1.2.1, r6.2.1.2.2.1, ((), (), (), ()), (()), ()) () r6.2.2.2.1 r6.2.2.2.2.1 () r6.2.2.2.2.2.2))
    (cond (y5.2.2.1 == 2)
       ((impl_walker_count_of_RecValues_1_RecValues_2 k 20 (o0.1, o0.2.1, o0.2.2.1, ((), (), (), ()), (()), ()) () o11 o12 () o14).bind fun r8 =>
        cond (r8.1 == 0)
          ((impl_walker_missing_of_RecValues_1_RecValues_2 k t1 t2 t3 (r8.2.1.1, r8.2.1.2.1, r8.2.1.2.2.1, ((), (), (), ()), (()), ()) () r8.2.2.2.1 r8.2.2.2.2.1 () r8.2.2.2.2.2.2).bind fun r9 =>
           some (r9.1, ((r9.2.1.1, r9.2.1.2.1, r9.2.1.2.2.1, ((), (), (), ()), (()), ()), (), r9.2.2.2.1, r9.2.2.2.2.1, (), r9.2.2.2.2.2.2)))
          ((S141i4 t1 t2 (IntKind.wrap .i64 (t3 + 1)) (IntKind.wrap .i64 (t4 + 1)) (r8.2.1.1, r8.2.1.2.1, r8.2.1.2.2.1, ((), (), (), ()), (()), ()) () r8.2.2.2.1 r8.2.2.2.2.1 () r8.2.2.2.2.2.2).bind fun r10 =>
           impl_walker_col_of_RecValues_1_RecValues_2.l14 k S141i4 k t1 t3 (IntKind.wrap .i64 (t4 + 1)) r8.1 1 (r10.2.1.1, r10.2.1.2.1, r10.2.1.2.2.1, ((), (), (), ()), (()), ()) () r10.2.2.2.1 r10.2.2.2.2.1 () r10.2.2.2.2.2.2))
       (impl_walker_col_of_RecValues_1_RecValues_2.c18 k S141i4 t1 t2 t3 t4 (o0.1, o0.2.1, o0.2.2.1, ((), (), (), ()), (()), ()) () o11 o12 () o14))

def impl_walker_body_of_RecValues_1_RecValues_2.rec (k : Nat) : Nat → (Int → Int → Int → Int → TWalkerB → Unit → (List Int) → Int → Unit → (List TVal) → Option (Int × TWalkerB × Unit × (List Int) × Int × Unit × (List TVal))) × (Int → Int → Int → Int → TWalkerB → Unit → (List Int) → Int → Unit → (List TVal) → Option (Int × TWalkerB × Unit × (List Int) × Int × Unit × (List TVal)))
  | 0 => (fun _ _ _ _ _ _ _ _ _ _ => none, fun _ _ _ _ _ _ _ _ _ _ => none)
  | d + 1 => (impl_walker_body_of_RecValues_1_RecValues_2.b k ((impl_walker_body_of_RecValues_1_RecValues_2.rec k d).1) ((impl_walker_body_of_RecValues_1_RecValues_2.rec k d).2), impl_walker_col_of_RecValues_1_RecValues_2.b k ((impl_walker_body_of_RecValues_1_RecValues_2.rec k d).1) ((impl_walker_body_of_RecValues_1_RecValues_2.rec k d).2))

def impl_walker_body_of_RecValues_1_RecValues_2.d (k d : Nat) : Int → Int → Int → Int → TWalkerB → Unit → (List Int) → Int → Unit → (List TVal) → Option (Int × TWalkerB × Unit × (List Int) × Int × Unit × (List TVal)) := (impl_walker_body_of_RecValues_1_RecValues_2.rec k d).1

def impl_walker_body_of_RecValues_1_RecValues_2 (k : Nat) : Int → Int → Int → Int → TWalkerB → Unit → (List Int) → Int → Unit → (List TVal) → Option (Int × TWalkerB × Unit × (List Int) × Int × Unit × (List TVal)) := impl_walker_body_of_RecValues_1_RecValues_2.d k k

def impl_walker_col_of_RecValues_1_RecValues_2.d (k d : Nat) : Int → Int → Int → Int → TWalkerB → Unit → (List Int) → Int → Unit → (List TVal) → Option (Int × TWalkerB × Unit × (List Int) × Int × Unit × (List TVal)) := (impl_walker_body_of_RecValues_1_RecValues_2.rec k d).2

def impl_walker_col_of_RecValues_1_RecValues_2 (k : Nat) : Int → Int → Int → Int → TWalkerB → Unit → (List Int) → Int → Unit → (List TVal) → Option (Int × TWalkerB × Unit × (List Int) × Int × Unit × (List TVal)) := impl_walker_col_of_RecValues_1_RecValues_2.d k k

def impl_walk_of_RecValues_1_RecValues_2 (k : Nat) (t0 : List TCol) (t1 : TRec) (t2 : Unit × Unit × Unit × Unit) (t3 : Unit) (o10 : Unit) (o11 : List Int) (o12 : Int) (o13 : Unit) (o14 : List TVal) : Option (Bool × Unit × (List Int) × Int × Unit × (List TVal)) :=
  (impl_walker_body_of_RecValues_1_RecValues_2 k 0 0 0 0 (t0, t1.1, decide ((List.length t1.1 : Int) > 300), ((), (), (), ()), (()), ()) () o11 o12 () o14).bind fun r1 =>
  (cond (!r1.2.1.2.2.1) (some ((List.length r1.2.1.2.1 : Int) == 0)) (some (false))).bind fun b2 =>
  some (b2, ((), r1.2.2.2.1, r1.2.2.2.2.1, (), r1.2.2.2.2.2.2))

def impl_RecValues (k : Nat) (t0 : List TCol) (t1 : TRec) (t2 : Int) : Option ((Unit × Bool) × (List TVal)) :=
  (impl_SchemaLeaves k t0).bind fun r1 =>
  (impl_within k t2 0 (IntKind.wrap .i64 ((List.length r1.2 : Int) - 1))).bind fun r2 =>
  cond (!r2)
    (some (((), false), []))
    ((impl_walk_of_RecValues_1_RecValues_2 k t0 t1 ((), (), (), ()) (()) () r1.2 t2 () []).bind fun r3 =>
     cond (!r3.1) (some (((), false), [])) (some (((), true), r3.2.2.2.2.2)))

def impl_FloatKey (k : Nat) (t0 : Int) : Option Int :=
  cond (decide (t0 < 0)) (some (bits .xor .i64 t0 9223372036854775807)) (some t0)

def impl_ValLess.d5 (k : Nat) (o100 : TVal) (o101 : TVal) : Option Bool :=
  (impl_FloatKey k o100.1).bind fun r1 => (impl_FloatKey k o101.1).bind fun r2 => some (decide (r1 < r2))

def impl_ValLess (k : Nat) (t0 : Int) (t1 : TVal) (t2 : TVal) : Option Bool :=
  (impl_ValOk k t0 t1).bind fun r9 =>
  (cond (!r9) (some (true)) ((impl_ValOk k t0 t2).bind fun r10 => some (!r10))).bind fun b11 =>
  cond b11 (some false) (cond (t0 == 5) (impl_ValLess.d5 k t1 t2) (cond (t0 == 6) (some (ltS t1.2.1 t2.2.1)) (some (decide (t1.1 < t2.1)))))

def impl_holds (k : Nat) (t0 : List TCol) (t1 : TPred) (t2 : TRec) : Option Bool :=
  (impl_RecValues k t0 t2 t1.2.1).bind fun r1 =>
  (impl_LeafOf k t0 t1.2.1).bind fun r2 =>
  (cond (t1.1 == 4) (some (true)) (some ((List.length r1.2 : Int) == 0))).bind fun b3 =>
  cond b3
    ((cond (t1.1 == 4) (some ((List.length r1.2 : Int) == 0)) (some (false))).bind fun b4 => some b4)
    (cond (t1.1 == 1)
       ((rdL r1.2 0).bind fun y5 => some ((y5.1 == t1.2.2.1.1) && (eqS y5.2.1 t1.2.2.1.2.1 && true)))
       (cond (t1.1 == 2)
          ((rdL r1.2 0).bind fun y6 => (impl_ValLess k r2.1.1 y6 t1.2.2.1).bind fun r7 => some r7)
          ((rdL r1.2 0).bind fun y8 => (impl_ValLess k r2.1.1 t1.2.2.1 y8).bind fun r9 => some (!r9))))

def impl_PredHolds.c15 (k : Nat) (L5 : (List TCol) → (List TPred) → (List TPred) → Int → Int → TRec → (List Bool) → Option Bool) (t0 : List TCol) (t1 : List TPred) (t23 : List TPred) (t24 : Int) (t25 : Int) (o100 : TRec) (o101 : List Bool) : Option Bool :=
  L5 t0 t1 t23 t24 (IntKind.wrap .i64 (t25 + 1)) o100 o101

def impl_PredHolds.l5 (k : Nat) : Nat → (List TCol) → (List TPred) → (List TPred) → Int → Int → TRec → (List Bool) → Option Bool
  | 0, _, _, _, _, _, _, _ => none
  | n + 1, t0, t1, t23, t24, t25, o100, o101 =>
    cond (decide (t25 < t24))
      ((rdL t23 t25).bind fun y1 =>
       cond (y1.1 == 5)
         ((rdL o101 y1.2.2.2.1).bind fun y2 =>
          (cond y2 ((rdL o101 y1.2.2.2.2.1).bind fun y3 => some (y3)) (some (false))).bind fun b4 =>
          (rdL o101 t25).bind fun y5 =>
          (rdL o101 t25).bind fun y6 => impl_PredHolds.c15 k (impl_PredHolds.l5 k n) t0 t1 t23 t24 t25 o100 (List.set o101 (Int.toNat t25) b4))
         (cond (y1.1 == 6)
            ((rdL o101 y1.2.2.2.1).bind fun y7 =>
             (cond y7 (some (true)) ((rdL o101 y1.2.2.2.2.1).bind fun y8 => some (y8))).bind fun b9 =>
             (rdL o101 t25).bind fun y10 =>
             (rdL o101 t25).bind fun y11 => impl_PredHolds.c15 k (impl_PredHolds.l5 k n) t0 t1 t23 t24 t25 o100 (List.set o101 (Int.toNat t25) b9))
            (cond (y1.1 == 7)
               ((rdL o101 y1.2.2.2.1).bind fun y12 =>
                (rdL o101 t25).bind fun y13 =>
                (rdL o101 t25).bind fun y14 =>
                impl_PredHolds.c15 k (impl_PredHolds.l5 k n) t0 t1 t23 t24 t25 o100 (List.set o101 (Int.toNat t25) (!y12)))
               ((impl_holds k t0 y1 o100).bind fun r15 =>
                (rdL o101 t25).bind fun y16 =>
                (rdL o101 t25).bind fun y17 => impl_PredHolds.c15 k (impl_PredHolds.l5 k n) t0 t1 t23 t24 t25 o100 (List.set o101 (Int.toNat t25) r15)))))
      ((rdL o101 (IntKind.wrap .i64 ((List.length t1 : Int) - 1))).bind fun y18 => some y18)

def impl_PredHolds (k : Nat) (t0 : List TCol) (t1 : List TPred) (t2 : TRec) : Option Bool :=
  (impl_PredOk k t0 t1).bind fun r19 =>
  (cond (!r19) (some (true)) ((impl_RecOk k t0 t2).bind fun r20 => some (!r20))).bind fun b21 =>
  cond b21
    (some false)
    (cond (okLen (List.length t1 : Int)) (
     impl_PredHolds.l5 k k t0 t1 t1 (List.length t1 : Int) 0 t2 (List.replicate (Int.toNat (List.length t1 : Int)) false)) none)

def laws_eqVal (k : Nat) (t0 : TVal) (t1 : TVal) : Option Bool :=
  cond (t0.1 != t1.1) (some false) (cond (!eqS t0.2.1 t1.2.1) (some false) (some true))

def laws_eqPred (k : Nat) (t0 : TPred) (t1 : TPred) : Option Bool :=
  cond (t0.1 != t1.1)
    (some false)
    (cond (t0.2.1 != t1.2.1)
       (some false)
       ((laws_eqVal k t0.2.2.1 t1.2.2.1).bind fun r1 =>
        cond (!r1) (some false) (cond (t0.2.2.2.1 != t1.2.2.2.1) (some false) (cond (t0.2.2.2.2.1 != t1.2.2.2.2.1) (some false) (some true)))))

def laws_eqPredS.l4 (k : Nat) : Nat → (List TPred) → (List TPred) → Int → Option Bool
  | 0, _, _, _ => none
  | n + 1, t0, t1, t5 =>
    cond (decide (t5 < (List.length t0 : Int)))
      ((rdL t0 t5).bind fun y1 =>
       (rdL t1 t5).bind fun y2 =>
       (laws_eqPred k y1 y2).bind fun r3 => cond (!r3) (some false) ((laws_eqPredS.l4 k n) t0 t1 (IntKind.wrap .i64 (t5 + 1))))
      (some true)

def laws_eqPredS (k : Nat) (t0 : List TPred) (t1 : List TPred) : Option Bool :=
  cond ((List.length t0 : Int) != (List.length t1 : Int)) (some false) (laws_eqPredS.l4 k k t0 t1 0)

def laws_eqValS.l4 (k : Nat) : Nat → (List TVal) → (List TVal) → Int → Option Bool
  | 0, _, _, _ => none
  | n + 1, t0, t1, t5 =>
    cond (decide (t5 < (List.length t0 : Int)))
      ((rdL t0 t5).bind fun y1 =>
       (rdL t1 t5).bind fun y2 =>
       (laws_eqVal k y1 y2).bind fun r3 => cond (!r3) (some false) ((laws_eqValS.l4 k n) t0 t1 (IntKind.wrap .i64 (t5 + 1))))
      (some true)

def laws_eqValS (k : Nat) (t0 : List TVal) (t1 : List TVal) : Option Bool :=
  cond ((List.length t0 : Int) != (List.length t1 : Int)) (some false) (laws_eqValS.l4 k k t0 t1 0)

def laws_eqRec (k : Nat) (t0 : TRec) (t1 : TRec) : Option Bool :=
  (laws_eqValS k t0.1 t1.1).bind fun r1 => cond (!r1) (some false) (some true)

def laws_FnExactPredHolds.d22 (k : Nat) (o100 : TRec) (o101 : Unit × Unit) (o102 : List TVal) : Option Bool :=
  (laws_toRec k o100).bind fun r1 => (laws_eqRec k (o102, ()) (r1.2, ())).bind fun r2 => cond (!r2) (some false) (some true)

def laws_FnExactPredHolds.d11 (k : Nat) (t0 : List TCol) (t1 : List TPred) (o100 : TRec) : Option Bool :=
  (laws_toColS k t0).bind fun r9 =>
  (laws_toPredS k t1).bind fun r10 =>
  (laws_toRec k o100).bind fun r11 =>
  (spec_PredHolds k r9.2 r10.2 (r11.2, ())).bind fun r12 =>
  (laws_toColS k t0).bind fun r13 =>
  (laws_toPredS k t1).bind fun r14 =>
  (laws_toRec k o100).bind fun r15 =>
  (impl_PredHolds k r13.2 r14.2 (r15.2, ())).bind fun r16 =>
  cond (!(r16 == r12))
    (some false)
    ((laws_toColS k t0).bind fun r17 =>
     (laws_eqColS k r13.2 r17.2).bind fun r18 =>
     cond (!r18)
       (some false)
       ((laws_toPredS k t1).bind fun r19 =>
        (laws_eqPredS k r14.2 r19.2).bind fun r20 => cond (!r20) (some false) (laws_FnExactPredHolds.d22 k o100 ((), ()) r15.2)))

def laws_FnExactPredHolds (k : Nat) (t0 : List TCol) (t1 : List TPred) (t2 : TRec) : Option Bool :=
  (laws_szColS k t0 1048576).bind fun r57 =>
  cond (decide (r57 < 0))
    (some true)
    ((laws_szPredS k t1 r57).bind fun r58 =>
     cond (decide (r58 < 0))
       (some true)
       ((laws_szRec k t2 r58).bind fun r59 => cond (decide (r59 < 0)) (some true) (laws_FnExactPredHolds.d11 k t0 t1 t2)))

def spec_LeafMax (k : Nat) (t0 : List TCol) (t1 : Int) : Option (Int × Int) :=
  (spec_SchemaLeaves k t0).bind fun r1 =>
  (spec_l1In k t1 0 (IntKind.wrap .i64 ((List.length r1.2 : Int) - 1))).bind fun r2 =>
  cond (!r2) (some ((-1), (-1))) ((rdL r1.2 t1).bind fun y3 => (spec_l5Max k t0 y3).bind fun r4 => some (r4.1, r4.2))

def laws_markText.l4 (k : Nat) : Nat → Int → ByteArray → Option ByteArray
  | 0, _, _ => none
  | n + 1, t0, t3 =>
    cond (decide (t0 > 0))
      (cond (lim ((intsStr [IntKind.wrap .u8 (IntKind.wrap .i64 (48 + (Int.tmod t0 10)))]).size + t3.size)) (
       (laws_markText.l4 k n) (IntKind.wrap .i64 (Int.tdiv t0 10)) ((intsStr [IntKind.wrap .u8 (IntKind.wrap .i64 (48 + (Int.tmod t0 10)))]) ++ t3)) none)
      (cond (lim ((⟨#[109]⟩ : ByteArray).size + t3.size)) (some ((⟨#[109]⟩ : ByteArray) ++ t3)) none)

def laws_markText (k : Nat) (t0 : Int) : Option ByteArray :=
  cond (decide (t0 ≤ 0)) (some (⟨#[109, 48]⟩ : ByteArray)) (laws_markText.l4 k k t0 (⟨#[]⟩ : ByteArray))

end Go.Fn
