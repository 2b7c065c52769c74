/- plain laws of the claim's functions -/
import Derived.Test.YtohaijhiclmkkaaGreatAmStep
import Derived.Laws.BitsLemmas
import Derived.Laws.Strings
import Derived.Test.YtohaijhiclmkkaaGreatECRF0
set_option linter.unnecessarySimpa false
set_option linter.unusedSimpArgs false
set_option linter.unusedVariables false
set_option linter.unusedSectionVars false
section
set_option linter.unusedVariables false
namespace Go.Fn
open Go Go.Am
def laws_markValS.l2 (k:Nat):Nat→Int→Int→(List TVal)→Option (Int×(List TVal))
 |0,_,_,_=>none
 |n+1,t1,t5,o10=>
  cond (decide (t5<(List.length o10:Int)))
   ((rdL o10 t5).bind fun y1=>
    (rdL o10 t5).bind fun y2=>
    (laws_markText k (IntKind.wrap .i64 (t1+1))).bind fun r3=>
    (rdL (List.set o10 (Int.toNat t5) (t1,y2.2.1,())) t5).bind fun y4=>
    (rdL (List.set o10 (Int.toNat t5) (t1,y2.2.1,())) t5).bind fun y5=>
    (laws_markValS.l2 k n) (IntKind.wrap .i64 ((IntKind.wrap .i64 (t1+1))+1)) (IntKind.wrap .i64 (t5+1)) (List.set (List.set o10 (Int.toNat t5) (t1,y2.2.1,())) (Int.toNat t5) (y5.1,r3,())))
   (some (t1,o10))
def laws_markValS (k:Nat) (t1:Int) (o10:List TVal):Option (Int×(List TVal)):=
 laws_markValS.l2 k k t1 0 o10
def spec_l5Name.l4 (k:Nat):Nat→ByteArray→Int→Option Bool
 |0,_,_=>none
 |n+1,t0,t3=>
  cond (decide (t3<(t0.size:Int)))
   ((btS t0 t3).bind fun y1=>
    (cond (decide (y1<97)) (some (true)) ((btS t0 t3).bind fun y2=>some (decide (y2>122)))).bind fun b3=>
    cond b3 (some false) ((spec_l5Name.l4 k n) t0 (IntKind.wrap .i64 (t3+1))))
   (some true)
def spec_l5Name (k:Nat) (t0:ByteArray):Option Bool:=
 (spec_l1In k (t0.size:Int) 1 20).bind fun r4=>cond (!r4) (some false) (spec_l5Name.l4 k k t0 0)
def spec_l5Check.l20 (k:Nat) (S99:(List TCol)→Int→Int→Option Int) (L15:(List TCol)→Int→Int→Int→TCol→(List ByteArray)→Option Int):Nat→(List TCol)→Int→Int→Int→Int→TCol→(List ByteArray)→Option Int
 |0,_,_,_,_,_,_,_=>none
 |n+1,t0,t2,t8,t10,t11,o100,o101=>
  cond (decide (t11<(List.length o101:Int)))
   ((rdL o101 t11).bind fun y1=>
    (rdL t0 t8).bind fun y2=>cond (eqS y1 y2.1) (some (-1)) ((spec_l5Check.l20 k S99 L15 n) t0 t2 t8 t10 (IntKind.wrap .i64 (t11+1)) o100 o101))
   ((rdL t0 t8).bind fun y3=>
    cond (lim (List.length o101+List.length [y3.1])) (
    (S99 t0 t8 (IntKind.wrap .i64 (t2+1))).bind fun r4=>
    cond (decide (r4<0)) (some (-1)) (L15 t0 t2 r4 (IntKind.wrap .i64 (t10+1)) o100 (o101++[y3.1]))) none)
def spec_l5Check.l15 (k:Nat) (S99:(List TCol)→Int→Int→Option Int):Nat→(List TCol)→Int→Int→Int→TCol→(List ByteArray)→Option Int
 |0,_,_,_,_,_,_=>none
 |n+1,t0,t2,t8,t10,o100,o101=>
  cond (decide (t10<o100.2.2.2.1))
   (cond (decide (t8≥(List.length t0:Int))) (some (-1)) (spec_l5Check.l20 k S99 (spec_l5Check.l15 k S99 n) k t0 t2 t8 t10 0 o100 o101))
   (some t8)
def spec_l5Check.b (k:Nat) (S99:(List TCol)→Int→Int→Option Int) (t0:List TCol) (t1:Int) (t2:Int):Option Int:=
 (cond (decide (t1≥(List.length t0:Int))) (some (true)) (some (decide (t2>6)))).bind fun b5=>
 cond b5
  (some (-1))
  ((rdL t0 t1).bind fun y6=>
   (cond (t1==0)
    ((cond (!eqS y6.1 (⟨#[]⟩:ByteArray)) (some (true)) (some (y6.2.2.1 !=0))).bind fun b7=>
     (cond b7 (some (true)) (some (y6.2.1 !=7))).bind fun b8=>some (b8))
    (some (false))).bind fun b9=>
   (cond b9 (some (true)) ((cond (decide (t1>0)) ((spec_l5Name k y6.1).bind fun r10=>some (!r10)) (some (false))).bind fun b11=>some (b11))).bind fun b12=>
   (cond b12 (some (true)) ((spec_l1In k y6.2.2.1 0 2).bind fun r13=>some (!r13))).bind fun b14=>
   cond b14
    (some (-1))
    (cond (y6.2.1 !=7)
     ((spec_l5Type k y6.2.1).bind fun r15=>
      (cond (!r15) (some (true)) (some (y6.2.2.2.1 !=0))).bind fun b16=>cond b16 (some (-1)) (some (IntKind.wrap .i64 (t1+1))))
     (cond (decide (y6.2.2.2.1<1)) (some (-1)) (spec_l5Check.l15 k S99 k t0 t2 (IntKind.wrap .i64 (t1+1)) 0 y6 []))))
def spec_l5Check.rec (k:Nat):Nat→((List TCol)→Int→Int→Option Int)
 |0=>fun _ _ _=>none
 |d+1=>spec_l5Check.b k ((spec_l5Check.rec k d))
def spec_l5Check.d (k d:Nat):(List TCol)→Int→Int→Option Int:=(spec_l5Check.rec k d)
def spec_l5Check (k:Nat):(List TCol)→Int→Int→Option Int:=spec_l5Check.d k k
def spec_SchemaOk (k:Nat) (t0:List TCol):Option Bool:=
 (spec_l1In k (List.length t0:Int) 2 20).bind fun r1=>
 (cond r1 ((spec_l5Check k t0 0 1).bind fun r2=>some (r2==(List.length t0:Int))) (some (false))).bind fun b3=>some b3
def impl_colOk (k:Nat) (t0:TCol):Option Bool:=
 (cond (t0.2.1==7) (some (decide (t0.2.2.2.1>0))) (some (false))).bind fun b1=>
 (impl_TypeOk k t0.2.1).bind fun r2=>
 (cond r2 (some (t0.2.2.2.1==0)) (some (false))).bind fun b3=>
 (cond b1 (some (true)) (some (b3))).bind fun b4=>
 (cond b4 ((impl_within k t0.2.2.1 0 2).bind fun r5=>some (r5)) (some (false))).bind fun b6=>some b6
def impl_isColName.l2 (k:Nat):Nat→ByteArray→Int→Int→Option Bool
 |0,_,_,_=>none
 |n+1,t0,t5,t6=>
  cond (decide (t6<t5))
   ((btS t0 t6).bind fun y1=>
    (impl_within k (IntKind.wrap .i64 y1) 97 122).bind fun r2=>
    cond (!r2) (some false) ((impl_isColName.l2 k n) t0 t5 (IntKind.wrap .i64 (t6+1))))
   ((impl_within k (t0.size:Int) 1 20).bind fun r3=>some r3)
def impl_isColName (k:Nat) (t0:ByteArray):Option Bool:=
 impl_isColName.l2 k k t0 (t0.size:Int) 0
def impl_colAfter.l10 (k:Nat) (S103:(List TCol)→Int→Int→Option Int) (L6:(List TCol)→Int→Int→Int→Int→(List ByteArray)→Option Int):Nat→(List TCol)→Int→Int→Int→Int→Int→Int→(List ByteArray)→Option Int
 |0,_,_,_,_,_,_,_,_=>none
 |n+1,t0,t2,t7,t47,t48,t55,t56,o100=>
  cond (decide (t56<t55))
   ((rdL o100 t56).bind fun y1=>
    (rdL t0 t7).bind fun y2=>
    cond (eqS y1 y2.1) (some (-1)) ((impl_colAfter.l10 k S103 L6 n) t0 t2 t7 t47 t48 t55 (IntKind.wrap .i64 (t56+1)) o100))
   ((rdL t0 t7).bind fun y3=>
    cond (lim (List.length o100+List.length [y3.1])) (
    (S103 t0 t7 (IntKind.wrap .i64 (t2+1))).bind fun r4=>
    cond (decide (r4<0)) (some (-1)) (L6 t0 t2 r4 t47 (IntKind.wrap .i64 (t48+1)) (o100++[y3.1]))) none)
def impl_colAfter.l6 (k:Nat) (S103:(List TCol)→Int→Int→Option Int):Nat→(List TCol)→Int→Int→Int→Int→(List ByteArray)→Option Int
 |0,_,_,_,_,_,_=>none
 |n+1,t0,t2,t7,t47,t48,o100=>
  cond (decide (t48<t47))
   (cond (decide (t7≥(List.length t0:Int)))
    (some (-1))
    (impl_colAfter.l10 k S103 (impl_colAfter.l6 k S103 n) k t0 t2 t7 t47 t48 (List.length o100:Int) 0 o100))
   (some t7)
def impl_colAfter.b (k:Nat) (S103:(List TCol)→Int→Int→Option Int) (t0:List TCol) (t1:Int) (t2:Int):Option Int:=
 (cond (decide (t1≥(List.length t0:Int))) (some (true)) (some (decide (t2>6)))).bind fun b5=>
 (cond b5 (some (true)) ((rdL t0 t1).bind fun y6=>(impl_colOk k y6).bind fun r7=>some (!r7))).bind fun b8=>
 (cond b8
  (some (true))
  ((cond (decide (t1>0)) ((rdL t0 t1).bind fun y9=>(impl_isColName k y9.1).bind fun r10=>some (!r10)) (some (false))).bind fun b11=>
   some (b11))).bind fun b12=>
 cond b12 (some (-1)) ((rdL t0 t1).bind fun y13=>impl_colAfter.l6 k S103 k t0 t2 (IntKind.wrap .i64 (t1+1)) y13.2.2.2.1 0 [])
def impl_colAfter.rec (k:Nat):Nat→((List TCol)→Int→Int→Option Int)
 |0=>fun _ _ _=>none
 |d+1=>impl_colAfter.b k ((impl_colAfter.rec k d))
def impl_colAfter.d (k d:Nat):(List TCol)→Int→Int→Option Int:=(impl_colAfter.rec k d)
def impl_colAfter (k:Nat):(List TCol)→Int→Int→Option Int:=impl_colAfter.d k k
def impl_SchemaOk (k:Nat) (t0:List TCol):Option Bool:=
 (impl_within k (List.length t0:Int) 2 20).bind fun r1=>
 (cond (!r1) (some (true)) ((rdL t0 0).bind fun y2=>some (y2.2.1 !=7))).bind fun b3=>
 (cond b3 (some (true)) ((rdL t0 0).bind fun y4=>some (y4.2.2.1 !=0))).bind fun b5=>
 (cond b5 (some (true)) ((rdL t0 0).bind fun y6=>some (!eqS y6.1 (⟨#[]⟩:ByteArray)))).bind fun b7=>
 cond b7 (some false) ((impl_colAfter k t0 0 1).bind fun r8=>some (r8==(List.length t0:Int)))
def spec_l4Plain.c4 (k:Nat) (t4:Int) (t5:Bool) (o100:TNode):Option Bool:=
 cond t5
  ((cond (o100.2.2.1==0) (some (eqS o100.2.2.2.1 (⟨#[]⟩:ByteArray))) (some (false))).bind fun b1=>
   (cond b1 (some (o100.2.2.2.2.1==0)) (some (false))).bind fun b2=>some b2)
  (cond (t4==5)
   ((spec_l4Int k o100.2.2.1).bind fun r3=>
    (cond r3 (some (eqS o100.2.2.2.1 (⟨#[]⟩:ByteArray))) (some (false))).bind fun b4=>
    (cond b4 (some (o100.2.2.2.2.1==0)) (some (false))).bind fun b5=>some b5)
   (cond (t4==6)
    ((cond (eqS o100.2.2.2.1 (⟨#[]⟩:ByteArray)) (some (o100.2.2.2.2.1==0)) (some (false))).bind fun b6=>some b6)
    (cond (t4==8)
     ((cond (o100.2.2.1==0) (some (decide ((o100.2.2.2.1.size:Int)≤300))) (some (false))).bind fun b7=>
      (cond b7 (some (o100.2.2.2.2.1==0)) (some (false))).bind fun b8=>some b8)
     (cond (t4==9)
      ((cond (eqS o100.2.2.2.1 (⟨#[]⟩:ByteArray)) (some (decide (o100.2.2.2.2.1≥0))) (some (false))).bind fun b9=>
       (cond b9
        ((cond (o100.2.2.2.2.1==0) (some (o100.2.2.1==0)) (some (false))).bind fun b10=>
         (cond b10
          (some (true))
          ((cond (decide (o100.2.2.2.2.1>0)) ((spec_l4Item k o100.2.2.1).bind fun r11=>some (r11)) (some (false))).bind fun b12=>
           some (b12))).bind fun b13=>
         some (b13))
        (some (false))).bind fun b14=>
       some b14)
      (cond (t4==12)
       ((cond (o100.2.2.1==0) (some (eqS o100.2.2.2.1 (⟨#[]⟩:ByteArray))) (some (false))).bind fun b15=>
        (cond b15 (some (decide (o100.2.2.2.2.1≥0))) (some (false))).bind fun b16=>some b16)
       (some false))))))
def spec_l4Plain (k:Nat) (t0:TNode):Option Bool:=
 cond (t0.1==1) (spec_l4Plain.c4 k t0.1 (t0.1==1) t0) (spec_l4Plain.c4 k t0.1 (t0.1==2) t0)
def spec_l4Check.l7 (k:Nat) (S309:(List TNode)→Int→Int→Option Int):Nat→(List TNode)→Int→Int→Int→Int→TNode→Option Int
 |0,_,_,_,_,_,_=>none
 |n+1,t0,t2,t8,t9,t10,o100=>
  cond (decide (t10<o100.2.2.2.2.1))
   (cond (decide (t8≥(List.length t0:Int)))
    (some (-1))
    ((rdL t0 t8).bind fun y1=>
     (cond (o100.1==9) ((cond (y1.1 !=o100.2.2.1) (some (true)) (some (y1.2.1 !=0))).bind fun b2=>some (b2)) (some (false))).bind fun b3=>
     (cond b3
      (some (true))
      ((cond (o100.1==12)
       ((cond (decide (y1.2.1≤t9)) (some (true)) (some (decide (y1.2.1>1000)))).bind fun b4=>some (b4))
       (some (false))).bind fun b5=>
       some (b5))).bind fun b6=>
     cond b6
      (some (-1))
      ((S309 t0 t8 (IntKind.wrap .i64 (t2+1))).bind fun r7=>
       cond (decide (r7<0)) (some (-1)) ((spec_l4Check.l7 k S309 n) t0 t2 r7 y1.2.1 (IntKind.wrap .i64 (t10+1)) o100))))
   (some t8)
def spec_l4Check.b (k:Nat) (S309:(List TNode)→Int→Int→Option Int) (t0:List TNode) (t1:Int) (t2:Int):Option Int:=
 (cond (decide (t1≥(List.length t0:Int))) (some (true)) (some (decide (t2>12)))).bind fun b8=>
 (cond b8 (some (true)) ((rdL t0 t1).bind fun y9=>(spec_l4Plain k y9).bind fun r10=>some (!r10))).bind fun b11=>
 cond b11 (some (-1)) ((rdL t0 t1).bind fun y12=>spec_l4Check.l7 k S309 k t0 t2 (IntKind.wrap .i64 (t1+1)) 0 0 y12)
def spec_l4Check.rec (k:Nat):Nat→((List TNode)→Int→Int→Option Int)
 |0=>fun _ _ _=>none
 |d+1=>spec_l4Check.b k ((spec_l4Check.rec k d))
def spec_l4Check.d (k d:Nat):(List TNode)→Int→Int→Option Int:=(spec_l4Check.rec k d)
def spec_l4Check (k:Nat):(List TNode)→Int→Int→Option Int:=spec_l4Check.d k k
def spec_TreeOk (k:Nat) (t0:List TNode):Option Bool:=
 (spec_l1In k (List.length t0:Int) 1 1500).bind fun r1=>
 (cond (!r1) (some (true)) ((rdL t0 0).bind fun y2=>some (y2.1 !=12))).bind fun b3=>
 (cond b3 (some (true)) ((rdL t0 0).bind fun y4=>some (y4.2.1 !=0))).bind fun b5=>
 cond b5 (some false) ((spec_l4Check k t0 0 1).bind fun r6=>some (r6==(List.length t0:Int)))
def spec_RowsOf.c4 (k:Nat) (L3:(List TTriple)→Int→Int→Option Int) (t0:List TTriple) (t3:Int) (t4:Int):Option Int:=
 L3 t0 t3 (IntKind.wrap .i64 (t4+1))
def spec_RowsOf.l3 (k:Nat):Nat→(List TTriple)→Int→Int→Option Int
 |0,_,_,_=>none
 |n+1,t0,t3,t4=>
  cond (decide (t4<(List.length t0:Int)))
   ((rdL t0 t4).bind fun y1=>
    cond (y1.1==0) (spec_RowsOf.c4 k (spec_RowsOf.l3 k n) t0 (IntKind.wrap .i64 (t3+1)) t4) (spec_RowsOf.c4 k (spec_RowsOf.l3 k n) t0 t3 t4))
   (some t3)
def spec_RowsOf (k:Nat) (t0:List TTriple):Option Int:=
 spec_RowsOf.l3 k k t0 0 0
def laws_markColS.l2 (k:Nat):Nat→Int→Int→(List TCol)→Option (Int×(List TCol))
 |0,_,_,_=>none
 |n+1,t1,t5,o10=>
  cond (decide (t5<(List.length o10:Int)))
   ((laws_markText k t1).bind fun r1=>
    (rdL o10 t5).bind fun y2=>
    (rdL o10 t5).bind fun y3=>
    (rdL (List.set o10 (Int.toNat t5) (r1,y3.2.1,y3.2.2.1,y3.2.2.2.1,())) t5).bind fun y4=>
    (rdL (List.set o10 (Int.toNat t5) (r1,y3.2.1,y3.2.2.1,y3.2.2.2.1,())) t5).bind fun y5=>
    (rdL (List.set (List.set o10 (Int.toNat t5) (r1,y3.2.1,y3.2.2.1,y3.2.2.2.1,())) (Int.toNat t5) (y5.1,IntKind.wrap .i64 (t1+1),y5.2.2.1,y5.2.2.2.1,())) t5).bind fun y6=>
    (rdL (List.set (List.set o10 (Int.toNat t5) (r1,y3.2.1,y3.2.2.1,y3.2.2.2.1,())) (Int.toNat t5) (y5.1,IntKind.wrap .i64 (t1+1),y5.2.2.1,y5.2.2.2.1,())) t5).bind fun y7=>
    (rdL (List.set (List.set (List.set o10 (Int.toNat t5) (r1,y3.2.1,y3.2.2.1,y3.2.2.2.1,())) (Int.toNat t5) (y5.1,IntKind.wrap .i64 (t1+1),y5.2.2.1,y5.2.2.2.1,())) (Int.toNat t5) (y7.1,y7.2.1,IntKind.wrap .i64 ((IntKind.wrap .i64 (t1+1))+1),y7.2.2.2.1,())) t5).bind fun y8=>
    (rdL (List.set (List.set (List.set o10 (Int.toNat t5) (r1,y3.2.1,y3.2.2.1,y3.2.2.2.1,())) (Int.toNat t5) (y5.1,IntKind.wrap .i64 (t1+1),y5.2.2.1,y5.2.2.2.1,())) (Int.toNat t5) (y7.1,y7.2.1,IntKind.wrap .i64 ((IntKind.wrap .i64 (t1+1))+1),y7.2.2.2.1,())) t5).bind fun y9=>
    (laws_markColS.l2 k n) (IntKind.wrap .i64 ((IntKind.wrap .i64 ((IntKind.wrap .i64 ((IntKind.wrap .i64 (t1+1))+1))+1))+1)) (IntKind.wrap .i64 (t5+1)) (List.set (List.set (List.set (List.set o10 (Int.toNat t5) (r1,y3.2.1,y3.2.2.1,y3.2.2.2.1,())) (Int.toNat t5) (y5.1,IntKind.wrap .i64 (t1+1),y5.2.2.1,y5.2.2.2.1,())) (Int.toNat t5) (y7.1,y7.2.1,IntKind.wrap .i64 ((IntKind.wrap .i64 (t1+1))+1),y7.2.2.2.1,())) (Int.toNat t5) (y9.1,y9.2.1,y9.2.2.1,IntKind.wrap .i64 ((IntKind.wrap .i64 ((IntKind.wrap .i64 (t1+1))+1))+1),())))
   (some (t1,o10))
def laws_markColS (k:Nat) (t1:Int) (o10:List TCol):Option (Int×(List TCol)):=
 laws_markColS.l2 k k t1 0 o10
def laws_heldColS.d4 (k:Nat) (L2:(List TCol)→Int→Int→Option Int) (t0:List TCol) (t1:Int) (t5:Int):Option Int:=
 (rdL t0 t5).bind fun y1=>
 (laws_markText k t1).bind fun r2=>
 cond (!eqS y1.1 r2)
  (some (-1))
  ((rdL t0 t5).bind fun y3=>
   cond (y3.2.1 !=(IntKind.wrap .i64 (t1+1)))
    (some (-1))
    ((rdL t0 t5).bind fun y4=>
     cond (y4.2.2.1 !=(IntKind.wrap .i64 ((IntKind.wrap .i64 (t1+1))+1)))
      (some (-1))
      ((rdL t0 t5).bind fun y5=>
       cond (y5.2.2.2.1 !=(IntKind.wrap .i64 ((IntKind.wrap .i64 ((IntKind.wrap .i64 (t1+1))+1))+1)))
        (some (-1))
        (L2 t0 (IntKind.wrap .i64 ((IntKind.wrap .i64 ((IntKind.wrap .i64 ((IntKind.wrap .i64 (t1+1))+1))+1))+1)) (IntKind.wrap .i64 (t5+1))))))
def laws_heldColS.l2 (k:Nat):Nat→(List TCol)→Int→Int→Option Int
 |0,_,_,_=>none
 |n+1,t0,t1,t5=>
  cond (decide (t5<(List.length t0:Int))) (laws_heldColS.d4 k (laws_heldColS.l2 k n) t0 t1 t5) (some t1)
def laws_heldColS (k:Nat) (t0:List TCol) (t1:Int):Option Int:=
 laws_heldColS.l2 k k t0 t1 0
def laws_markChunkS.l2 (k:Nat):Nat→Int→Int→(List TChunk)→Option (Int×(List TChunk))
 |0,_,_,_=>none
 |n+1,t1,t5,o10=>
  cond (decide (t5<(List.length o10:Int)))
   ((rdL o10 t5).bind fun y1=>
    (rdL o10 t5).bind fun y2=>
    (rdL (List.set o10 (Int.toNat t5) (t1,y2.2.1,y2.2.2.1,y2.2.2.2.1,y2.2.2.2.2.1,y2.2.2.2.2.2.1,())) t5).bind fun y3=>
    (rdL (List.set o10 (Int.toNat t5) (t1,y2.2.1,y2.2.2.1,y2.2.2.2.1,y2.2.2.2.2.1,y2.2.2.2.2.2.1,())) t5).bind fun y4=>
    (rdL (List.set (List.set o10 (Int.toNat t5) (t1,y2.2.1,y2.2.2.1,y2.2.2.2.1,y2.2.2.2.2.1,y2.2.2.2.2.2.1,())) (Int.toNat t5) (y4.1,IntKind.wrap .i64 (t1+1),y4.2.2.1,y4.2.2.2.1,y4.2.2.2.2.1,y4.2.2.2.2.2.1,())) t5).bind fun y5=>
    (rdL (List.set (List.set o10 (Int.toNat t5) (t1,y2.2.1,y2.2.2.1,y2.2.2.2.1,y2.2.2.2.2.1,y2.2.2.2.2.2.1,())) (Int.toNat t5) (y4.1,IntKind.wrap .i64 (t1+1),y4.2.2.1,y4.2.2.2.1,y4.2.2.2.2.1,y4.2.2.2.2.2.1,())) t5).bind fun y6=>
    (rdL (List.set (List.set (List.set o10 (Int.toNat t5) (t1,y2.2.1,y2.2.2.1,y2.2.2.2.1,y2.2.2.2.2.1,y2.2.2.2.2.2.1,())) (Int.toNat t5) (y4.1,IntKind.wrap .i64 (t1+1),y4.2.2.1,y4.2.2.2.1,y4.2.2.2.2.1,y4.2.2.2.2.2.1,())) (Int.toNat t5) (y6.1,y6.2.1,IntKind.wrap .i64 ((IntKind.wrap .i64 (t1+1))+1),y6.2.2.2.1,y6.2.2.2.2.1,y6.2.2.2.2.2.1,())) t5).bind fun y7=>
    (rdL (List.set (List.set (List.set o10 (Int.toNat t5) (t1,y2.2.1,y2.2.2.1,y2.2.2.2.1,y2.2.2.2.2.1,y2.2.2.2.2.2.1,())) (Int.toNat t5) (y4.1,IntKind.wrap .i64 (t1+1),y4.2.2.1,y4.2.2.2.1,y4.2.2.2.2.1,y4.2.2.2.2.2.1,())) (Int.toNat t5) (y6.1,y6.2.1,IntKind.wrap .i64 ((IntKind.wrap .i64 (t1+1))+1),y6.2.2.2.1,y6.2.2.2.2.1,y6.2.2.2.2.2.1,())) t5).bind fun y8=>
    (rdL (List.set (List.set (List.set (List.set o10 (Int.toNat t5) (t1,y2.2.1,y2.2.2.1,y2.2.2.2.1,y2.2.2.2.2.1,y2.2.2.2.2.2.1,())) (Int.toNat t5) (y4.1,IntKind.wrap .i64 (t1+1),y4.2.2.1,y4.2.2.2.1,y4.2.2.2.2.1,y4.2.2.2.2.2.1,())) (Int.toNat t5) (y6.1,y6.2.1,IntKind.wrap .i64 ((IntKind.wrap .i64 (t1+1))+1),y6.2.2.2.1,y6.2.2.2.2.1,y6.2.2.2.2.2.1,())) (Int.toNat t5) (y8.1,y8.2.1,y8.2.2.1,IntKind.wrap .i64 ((IntKind.wrap .i64 ((IntKind.wrap .i64 (t1+1))+1))+1),y8.2.2.2.2.1,y8.2.2.2.2.2.1,())) t5).bind fun y9=>
    (rdL (List.set (List.set (List.set (List.set o10 (Int.toNat t5) (t1,y2.2.1,y2.2.2.1,y2.2.2.2.1,y2.2.2.2.2.1,y2.2.2.2.2.2.1,())) (Int.toNat t5) (y4.1,IntKind.wrap .i64 (t1+1),y4.2.2.1,y4.2.2.2.1,y4.2.2.2.2.1,y4.2.2.2.2.2.1,())) (Int.toNat t5) (y6.1,y6.2.1,IntKind.wrap .i64 ((IntKind.wrap .i64 (t1+1))+1),y6.2.2.2.1,y6.2.2.2.2.1,y6.2.2.2.2.2.1,())) (Int.toNat t5) (y8.1,y8.2.1,y8.2.2.1,IntKind.wrap .i64 ((IntKind.wrap .i64 ((IntKind.wrap .i64 (t1+1))+1))+1),y8.2.2.2.2.1,y8.2.2.2.2.2.1,())) t5).bind fun y10=>
    (rdL (List.set (List.set (List.set (List.set (List.set o10 (Int.toNat t5) (t1,y2.2.1,y2.2.2.1,y2.2.2.2.1,y2.2.2.2.2.1,y2.2.2.2.2.2.1,())) (Int.toNat t5) (y4.1,IntKind.wrap .i64 (t1+1),y4.2.2.1,y4.2.2.2.1,y4.2.2.2.2.1,y4.2.2.2.2.2.1,())) (Int.toNat t5) (y6.1,y6.2.1,IntKind.wrap .i64 ((IntKind.wrap .i64 (t1+1))+1),y6.2.2.2.1,y6.2.2.2.2.1,y6.2.2.2.2.2.1,())) (Int.toNat t5) (y8.1,y8.2.1,y8.2.2.1,IntKind.wrap .i64 ((IntKind.wrap .i64 ((IntKind.wrap .i64 (t1+1))+1))+1),y8.2.2.2.2.1,y8.2.2.2.2.2.1,())) (Int.toNat t5) (y10.1,y10.2.1,y10.2.2.1,y10.2.2.2.1,IntKind.wrap .i64 ((IntKind.wrap .i64 ((IntKind.wrap .i64 ((IntKind.wrap .i64 (t1+1))+1))+1))+1),y10.2.2.2.2.2.1,())) t5).bind fun y11=>
    (laws_markIntS k (IntKind.wrap .i64 ((IntKind.wrap .i64 ((IntKind.wrap .i64 ((IntKind.wrap .i64 ((IntKind.wrap .i64 (t1+1))+1))+1))+1))+1)) y11.2.2.2.2.2.1).bind fun r12=>
    (rdL (List.set (List.set (List.set (List.set (List.set o10 (Int.toNat t5) (t1,y2.2.1,y2.2.2.1,y2.2.2.2.1,y2.2.2.2.2.1,y2.2.2.2.2.2.1,())) (Int.toNat t5) (y4.1,IntKind.wrap .i64 (t1+1),y4.2.2.1,y4.2.2.2.1,y4.2.2.2.2.1,y4.2.2.2.2.2.1,())) (Int.toNat t5) (y6.1,y6.2.1,IntKind.wrap .i64 ((IntKind.wrap .i64 (t1+1))+1),y6.2.2.2.1,y6.2.2.2.2.1,y6.2.2.2.2.2.1,())) (Int.toNat t5) (y8.1,y8.2.1,y8.2.2.1,IntKind.wrap .i64 ((IntKind.wrap .i64 ((IntKind.wrap .i64 (t1+1))+1))+1),y8.2.2.2.2.1,y8.2.2.2.2.2.1,())) (Int.toNat t5) (y10.1,y10.2.1,y10.2.2.1,y10.2.2.2.1,IntKind.wrap .i64 ((IntKind.wrap .i64 ((IntKind.wrap .i64 ((IntKind.wrap .i64 (t1+1))+1))+1))+1),y10.2.2.2.2.2.1,())) t5).bind fun y13=>
    (laws_markChunkS.l2 k n) r12.1 (IntKind.wrap .i64 (t5+1)) (List.set (List.set (List.set (List.set (List.set (List.set o10 (Int.toNat t5) (t1,y2.2.1,y2.2.2.1,y2.2.2.2.1,y2.2.2.2.2.1,y2.2.2.2.2.2.1,())) (Int.toNat t5) (y4.1,IntKind.wrap .i64 (t1+1),y4.2.2.1,y4.2.2.2.1,y4.2.2.2.2.1,y4.2.2.2.2.2.1,())) (Int.toNat t5) (y6.1,y6.2.1,IntKind.wrap .i64 ((IntKind.wrap .i64 (t1+1))+1),y6.2.2.2.1,y6.2.2.2.2.1,y6.2.2.2.2.2.1,())) (Int.toNat t5) (y8.1,y8.2.1,y8.2.2.1,IntKind.wrap .i64 ((IntKind.wrap .i64 ((IntKind.wrap .i64 (t1+1))+1))+1),y8.2.2.2.2.1,y8.2.2.2.2.2.1,())) (Int.toNat t5) (y10.1,y10.2.1,y10.2.2.1,y10.2.2.2.1,IntKind.wrap .i64 ((IntKind.wrap .i64 ((IntKind.wrap .i64 ((IntKind.wrap .i64 (t1+1))+1))+1))+1),y10.2.2.2.2.2.1,())) (Int.toNat t5) (y13.1,y13.2.1,y13.2.2.1,y13.2.2.2.1,y13.2.2.2.2.1,r12.2,())))
   (some (t1,o10))
def laws_markChunkS (k:Nat) (t1:Int) (o10:List TChunk):Option (Int×(List TChunk)):=
 laws_markChunkS.l2 k k t1 0 o10
def laws_markGroupMetaS.l2 (k:Nat):Nat→Int→Int→(List TGroupMeta)→Option (Int×(List TGroupMeta))
 |0,_,_,_=>none
 |n+1,t1,t5,o10=>
  cond (decide (t5<(List.length o10:Int)))
   ((rdL o10 t5).bind fun y1=>
    (rdL o10 t5).bind fun y2=>
    (rdL (List.set o10 (Int.toNat t5) (t1,y2.2.1,())) t5).bind fun y3=>
    (laws_markChunkS k (IntKind.wrap .i64 (t1+1)) y3.2.1).bind fun r4=>
    (rdL (List.set o10 (Int.toNat t5) (t1,y2.2.1,())) t5).bind fun y5=>
    (laws_markGroupMetaS.l2 k n) r4.1 (IntKind.wrap .i64 (t5+1)) (List.set (List.set o10 (Int.toNat t5) (t1,y2.2.1,())) (Int.toNat t5) (y5.1,r4.2,())))
   (some (t1,o10))
def laws_markGroupMetaS (k:Nat) (t1:Int) (o10:List TGroupMeta):Option (Int×(List TGroupMeta)):=
 laws_markGroupMetaS.l2 k k t1 0 o10
def laws_markMeta (k:Nat) (t0:Unit×Int×Unit×Unit) (t1:Int) (o10:List TCol) (o11:List TGroupMeta):Option (Int×(List TCol)×(List TGroupMeta)):=
 (laws_markColS k t1 o10).bind fun r1=>(laws_markGroupMetaS k r1.1 o11).bind fun r2=>some (r2.1,(r1.2,r2.2))
def laws_heldIntS.l2 (k:Nat):Nat→(List Int)→Int→Int→Option Int
 |0,_,_,_=>none
 |n+1,t0,t1,t5=>
  cond (decide (t5<(List.length t0:Int)))
   ((rdL t0 t5).bind fun y1=>cond (y1 !=t1) (some (-1)) ((laws_heldIntS.l2 k n) t0 (IntKind.wrap .i64 (t1+1)) (IntKind.wrap .i64 (t5+1))))
   (some t1)
def laws_heldIntS (k:Nat) (t0:List Int) (t1:Int):Option Int:=
 laws_heldIntS.l2 k k t0 t1 0
def laws_heldChunkS.l2 (k:Nat):Nat→(List TChunk)→Int→Int→Option Int
 |0,_,_,_=>none
 |n+1,t0,t1,t5=>
  cond (decide (t5<(List.length t0:Int)))
   ((rdL t0 t5).bind fun y1=>
    cond (y1.1 !=t1)
     (some (-1))
     ((rdL t0 t5).bind fun y2=>
      cond (y2.2.1 !=(IntKind.wrap .i64 (t1+1)))
       (some (-1))
       ((rdL t0 t5).bind fun y3=>
        cond (y3.2.2.1 !=(IntKind.wrap .i64 ((IntKind.wrap .i64 (t1+1))+1)))
         (some (-1))
         ((rdL t0 t5).bind fun y4=>
          cond (y4.2.2.2.1 !=(IntKind.wrap .i64 ((IntKind.wrap .i64 ((IntKind.wrap .i64 (t1+1))+1))+1)))
           (some (-1))
           ((rdL t0 t5).bind fun y5=>
            cond (y5.2.2.2.2.1 !=(IntKind.wrap .i64 ((IntKind.wrap .i64 ((IntKind.wrap .i64 ((IntKind.wrap .i64 (t1+1))+1))+1))+1)))
             (some (-1))
             ((rdL t0 t5).bind fun y6=>
              (laws_heldIntS k y6.2.2.2.2.2.1 (IntKind.wrap .i64 ((IntKind.wrap .i64 ((IntKind.wrap .i64 ((IntKind.wrap .i64 ((IntKind.wrap .i64 (t1+1))+1))+1))+1))+1))).bind fun r7=>
              cond (decide (r7<0)) (some (-1)) ((laws_heldChunkS.l2 k n) t0 r7 (IntKind.wrap .i64 (t5+1)))))))))
   (some t1)
def laws_heldChunkS (k:Nat) (t0:List TChunk) (t1:Int):Option Int:=
 laws_heldChunkS.l2 k k t0 t1 0
def laws_heldGroupMetaS.l2 (k:Nat):Nat→(List TGroupMeta)→Int→Int→Option Int
 |0,_,_,_=>none
 |n+1,t0,t1,t5=>
  cond (decide (t5<(List.length t0:Int)))
   ((rdL t0 t5).bind fun y1=>
    cond (y1.1 !=t1)
     (some (-1))
     ((rdL t0 t5).bind fun y2=>
      (laws_heldChunkS k y2.2.1 (IntKind.wrap .i64 (t1+1))).bind fun r3=>
      cond (decide (r3<0)) (some (-1)) ((laws_heldGroupMetaS.l2 k n) t0 r3 (IntKind.wrap .i64 (t5+1)))))
   (some t1)
def laws_heldGroupMetaS (k:Nat) (t0:List TGroupMeta) (t1:Int):Option Int:=
 laws_heldGroupMetaS.l2 k k t0 t1 0
def laws_heldMeta (k:Nat) (t0:TMeta) (t1:Int):Option Int:=
 (laws_heldColS k t0.1 t1).bind fun r1=>
 cond (decide (r1<0)) (some (-1)) ((laws_heldGroupMetaS k t0.2.2.1 r1).bind fun r2=>cond (decide (r2<0)) (some (-1)) (some r2))
def laws_markRec (k:Nat) (t0:Unit×Unit) (t1:Int) (o10:List TVal):Option (Int×(List TVal)):=
 (laws_markValS k t1 o10).bind fun r1=>some (r1.1,r1.2)
end Go.Fn
set_option linter.unusedVariables false
set_option linter.unusedSimpArgs false
namespace Go.Law
open Go.Am
theorem w64 {x:Int} (h0: -9223372036854775808≤x) (h1:x<9223372036854775808):IntKind.wrap .i64 x=x:=by
 rw [IntKind.wrap_i64];omega
theorem w64_lo (x:Int): -9223372036854775808≤IntKind.wrap .i64 x:=by rw [IntKind.wrap_i64];omega
theorem w64_hi (x:Int):IntKind.wrap .i64 x<9223372036854775808:=by rw [IntKind.wrap_i64];omega
theorem wu64_eq (x:Int):IntKind.wrap .u64 x=x%18446744073709551616:=by simp [IntKind.wrap,IntKind.bits,IntKind.signed]
theorem wu8_eq (x:Int):IntKind.wrap .u8 x=x%256:=IntKind.wrap_u8 x
theorem w8 {x:Int} (h0:0≤x) (h1:x<256):IntKind.wrap .u8 x=x:=by rw [wu8_eq];omega
theorem wraps_u64 (n:Int) (h₀:0≤n) (h₁:n<2^64):IntKind.u64.wrap n=n:=by rw [wu64_eq];omega
def I64 (x:Int):Prop:= -9223372036854775808≤x∧x<9223372036854775808
theorem and_mask_i64 (x:Int) (i:Nat) (hi:i≤62):bits .and .i64 x (2^i-1)=x%2^i:=by
 have hpos:0<2^i:=Nat.two_pow_pos i
 have hle:2^i≤2^62:=Nat.pow_le_pow_right (by decide) hi
 have hc:((2:Int)^i-1)=((2^i-1:Nat):Int):=by
  rw [Int.natCast_sub hpos];simp
 have hb:(2^i-1)%2^IntKind.i64.bits=2^i-1:=Nat.mod_eq_of_lt (show 2^i-1<2^64 by omega)
 rw [hc]
 simp only [bits,BitVec.ofInt_natCast,BitVec.toNat_and,BitVec.toNat_ofNat,hb,Nat.and_two_pow_sub_one_eq_mod,BitVec.toNat_ofInt]
 show IntKind.wrap .i64 (((x%((2^64:Nat):Int)).toNat%2^i:Nat):Int)=_
 have h1:(x%((2^64:Nat):Int)).toNat%2^i<2^i:=Nat.mod_lt _ hpos
 have h2:(((x%((2^64:Nat):Int)).toNat%2^i:Nat):Int)=x%2^i:=by
  have h3:0≤x%((2^64:Nat):Int):=Int.emod_nonneg _ (by decide)
  rw [Int.natCast_emod,Int.toNat_of_nonneg h3]
  have hd:((2^i:Nat):Int)∣((2^64:Nat):Int):=by
   have:=Nat.pow_dvd_pow 2 (show i≤64 by omega)
   exact_mod_cast this
  rw [Int.emod_emod_of_dvd x hd]
  simp
 rw [h2]
 have h4:x%2^i<2^i:=Int.emod_lt_of_pos _ (by exact_mod_cast hpos)
 have h5:0≤x%2^i:=Int.emod_nonneg _ (by have:(0:Int)<2^i:=by exact_mod_cast hpos
                                        omega)
 have h6:(2:Int)^i≤2^62:=by exact_mod_cast hle
 rw [w64 (by omega) (by omega)]
theorem and255 (x:Int):bits .and .i64 x 255=x%256:=and_mask_i64 x 8 (by decide)
theorem and1 (x:Int):bits .and .i64 x 1=x%2:=and_mask_i64 x 1 (by decide)
theorem u8_and127 {x:Int} (h0:0≤x) (h1:x<256):bits .and .u8 x 127=x%128:=
 bits_mask .u8 8 (by decide) wraps_u8 7 (by decide) x h0 h1
theorem bits_or_comm (k:IntKind) (a b:Int):bits .or k a b=bits .or k b a:=by
 simp only [bits,BitVec.toNat_or]
 rw [Nat.or_comm]
theorem u64_or_shl {a b:Int} {i:Nat} (ha0:0≤a) (ha:a<2^i) (hb0:0≤b) (hb:b*2^i<2^64) (hi:i≤64):bits .or .u64 a (b*2^i)=a+b*2^i:=by
 have hp:(2:Int)^i≤2^64:=by
  have:=Nat.pow_le_pow_right (n:=2) (by decide) hi
  exact_mod_cast this
 have hp0:(0:Int)<2^i:=by have:=Nat.two_pow_pos i;exact_mod_cast this
 rw [bits_or_comm,bits_join .u64 64 (by decide) wraps_u64 i (b*2^i) a (Int.mul_nonneg hb0 (by omega)) (Int.mul_emod_left _ _) hb ha0 ha (by omega)]
 omega
theorem shrI_eq (k:IntKind) (a:Int) (n:Nat) (h:n≤k.bits):shrI k a (n:Int)=a/2^n:=by
 unfold shrI
 rw [Int.toNat_natCast,Nat.min_eq_left h,Int.fdiv_eq_ediv_of_nonneg]
 have:=Nat.two_pow_pos n
 have:(0:Int)<2^n:=by exact_mod_cast this
 omega
theorem shr1u (a:Int):shrI .u64 a 1=a/2:=shrI_eq .u64 a 1 (by decide)
theorem lim_ok {n:Nat} (h:n≤4294967296):lim n=true:=by unfold lim;exact Nat.ble_eq_true_of_le h
theorem okLen_ok {n:Int} (h0:0≤n) (h:n≤4294967296):okLen n=true:=by simp [okLen,h0,h]
theorem inSl_ok {l h:Int} {n:Nat} (h0:0≤l) (h1:l≤h) (h2:h≤n):inSl l h n=true:=by simp [inSl,h0,h1,h2]
theorem beqF {a b:Int} (h:¬a=b):(a==b)=false:=by simpa using h
theorem bneT {a b:Int} (h:¬a=b):(a !=b)=true:=by simpa using h
theorem beqT {a b:Int} (h:a=b):(a==b)=true:=by simpa using h
theorem bneF {a b:Int} (h:a=b):(a !=b)=false:=by simpa using h
theorem csf (b c:Bool):(cond b (some c) (some false):Option Bool)=some (b&&c):=by cases b<;>rfl
theorem cst (b c:Bool):(cond b (some true) (some c):Option Bool)=some (b||c):=by cases b<;>rfl
theorem csb (b c d:Bool):(cond b (some c) (some d):Option Bool)=some (cond b c d):=by cases b<;>rfl
theorem rdL_nat {α:Type} (xs:List α) (n:Nat):rdL xs (n:Int)=xs[n]?:=rfl
theorem rdL_some {α:Type} {xs:List α} {i:Int} (h0:0≤i) (h1:i<xs.length):∃x,rdL xs i=some x∧xs[i.toNat]?=some x:=by
 obtain ⟨n,rfl⟩:=Int.eq_ofNat_of_zero_le h0
 have h:n<xs.length:=by omega
 exact ⟨xs[n],by rw [rdL_nat,List.getElem?_eq_getElem h],by simp [h]⟩
theorem rdL_zero {α:Type} (xs:List α):rdL xs 0=xs[0]?:=rfl
theorem eqS_iff (a b:ByteArray):eqS a b=decide (a=b):=by
 unfold eqS
 have h:a.toList=b.toList↔a=b:=by
  constructor
  ·intro h
   rw [ByteArray.toList_eq,ByteArray.toList_eq] at h
   cases a;cases b
   simp only [ByteArray.mk.injEq]
   exact Array.ext' h
  ·rintro rfl;rfl
 by_cases e:a=b
 ·simp [e]
 ·simp only [e,decide_false]
  have:a.toList≠b.toList:=fun h'=>e (h.1 h')
  simp [this]
theorem strInts_length (s:ByteArray):(strInts s).length=s.size:=by
 unfold strInts
 rw [List.length_map,Array.length_toList]
 rfl
theorem strInts_byte (s:ByteArray) (x:Int) (h:x∈strInts s):0≤x∧x<256:=by
 unfold strInts at h
 obtain ⟨c,_,hc⟩:=List.mem_map.1 h
 have:=c.toNat_lt
 omega
theorem intsStr_size (xs:List Int):(intsStr xs).size=xs.length:=strOfNums_size xs
end Go.Law
end
section
set_option linter.unusedVariables false
set_option linter.unusedSimpArgs false
namespace Go.Law
open Go.Am Go.Fn
def uvB:Nat→Nat→List Int
 |0,n=>[(n:Int)]
 |f+1,n=>if 127<n then ((n%128+128:Nat):Int)::uvB f (n/128) else [(n:Int)]
def uv (x:Int):List Int:=uvB 9 (x%18446744073709551616).toNat
theorem xor_zero (a:Int) (h0: -9223372036854775808≤a) (h1:a<9223372036854775808):bits .xor .i64 a 0=a:=by
 have e:(BitVec.ofInt (IntKind.bits .i64) a^^^BitVec.ofInt (IntKind.bits .i64) 0)=BitVec.ofInt (IntKind.bits .i64) a:=by simp
 simp only [bits,e,BitVec.toNat_ofInt]
 show IntKind.wrap .i64 (((a%((2^64:Nat):Int)).toNat:Nat):Int)=a
 rw [IntKind.wrap_i64]
 omega
theorem xor_ones (a:Int) (h0: -9223372036854775808≤a) (h1:a<9223372036854775808):bits .xor .i64 a (-1)= -a-1:=by
 have e:(BitVec.ofInt (IntKind.bits .i64) a^^^BitVec.ofInt (IntKind.bits .i64) (-1))= ~~~BitVec.ofInt (IntKind.bits .i64) a:=by
  have:BitVec.ofInt (IntKind.bits .i64) (-1)=BitVec.allOnes (IntKind.bits .i64):=by decide
  rw [this,BitVec.xor_allOnes]
 simp only [bits,e,BitVec.toNat_not,BitVec.toNat_ofInt]
 show IntKind.wrap .i64 ((2^64-1-(a%((2^64:Nat):Int)).toNat:Nat):Int)=_
 rw [IntKind.wrap_i64]
 omega
def zig (x:Int):Int:=if 0≤x then IntKind.wrap .i64 (x*2) else -IntKind.wrap .i64 (x*2)-1
theorem zag_zig (k:Nat) (x:Int) (h0: -9223372036854775808≤x) (h1:x<9223372036854775808):impl_Zag k (zig x)=some x:=by
 unfold impl_Zag
 rw [and1,wu64_eq,shr1u,w64 (by omega) (by omega)]
 have hz:zig x=if 0≤x then (x*2+9223372036854775808)%18446744073709551616-9223372036854775808 else -((x*2+9223372036854775808)%18446744073709551616-9223372036854775808)-1:=by
  unfold zig;rw [IntKind.wrap_i64]
 by_cases hx:0≤x
 ·rw [if_pos hx] at hz
  rw [show zig x%2=0 by omega,show IntKind.wrap .i64 (0-0)=0 by decide,xor_zero _ (by omega) (by omega)]
  congr 1
  omega
 ·rw [if_neg hx] at hz
  rw [show zig x%2=1 by omega,show IntKind.wrap .i64 (0-1)= -1 by decide,xor_ones _ (by omega) (by omega)]
  congr 1
  omega
end Go.Law
end
section
set_option linter.unusedVariables false
set_option linter.unusedSimpArgs false
namespace Go.Law
open Go.Am Go.Fn
variable (k:Nat)
theorem wrap_emod (k:IntKind) (x:Int):IntKind.wrap k x%2^k.bits=x%2^k.bits:=by
 have hp:(0:Int)<2^k.bits:=by have:=Nat.two_pow_pos k.bits;exact_mod_cast this
 have h0:=Int.emod_nonneg x (show (2:Int)^k.bits≠0 by omega)
 cases k<;>simp [IntKind.wrap,IntKind.bits,IntKind.signed]<;>omega
theorem ofInt_congr {n:Nat} {a b:Int} (h:a%2^n=b%2^n):BitVec.ofInt n a=BitVec.ofInt n b:=by
 apply BitVec.eq_of_toNat_eq
 rw [BitVec.toNat_ofInt,BitVec.toNat_ofInt]
 have:((2^n:Nat):Int)=(2:Int)^n:=by simp
 rw [this,h]
theorem or_wrap (k:IntKind) (a b:Int):bits .or k (k.wrap a) (k.wrap b)=bits .or k a b:=by
 simp only [bits]
 rw [ofInt_congr (wrap_emod k a),ofInt_congr (wrap_emod k b)]
theorem or_nat (k:IntKind) {a b i:Nat} (ha:a<2^i) (hab:a+b*2^i<2^k.bits):bits .or k (a:Int) ((b*2^i:Nat):Int)=k.wrap ((a+b*2^i:Nat):Int):=by
 have h1:a|||b*2^i=a+b*2^i:=by
  rw [Nat.or_comm,Nat.mul_comm,←Nat.two_pow_add_eq_or_of_lt ha b,Nat.add_comm]
 simp only [bits,BitVec.ofInt_natCast,BitVec.toNat_or,BitVec.toNat_ofNat]
 rw [Nat.mod_eq_of_lt (show a<2^k.bits by omega),Nat.mod_eq_of_lt (show b*2^i<2^k.bits by omega),h1]
theorem or_shl (k:IntKind) {a b i:Nat} (hi:i≤k.bits) (ha:a<2^i) (hab:a+b*2^i<2^k.bits):bits .or k (k.wrap (a:Int)) (shlI k (b:Int) (i:Int))=k.wrap ((a+b*2^i:Nat):Int):=by
 unfold shlI
 rw [Int.toNat_natCast,Nat.min_eq_left hi,or_wrap]
 have:=or_nat k ha hab
 rw [←this]
 simp
def leB (L M:Nat):List Int:=(List.range L).map fun i=>((M/256^i%256:Nat):Int)
theorem leB_len (L M:Nat):(leB L M).length=L:=by simp [leB]
theorem leB_get? {L M i:Nat} (h:i<L):(leB L M)[i]?=some ((M/256^i%256:Nat):Int):=by
 simp [leB,h]
theorem leB_zero (L:Nat):leB L 0=List.replicate L 0:=by
 apply List.ext_getElem (by simp [leB])
 intro i h1 h2
 simp [leB]
theorem pow_split (p:Nat):2^p=256^(p/8)*2^(p%8):=by
 rw [show (256:Nat)=2^8 by decide,←Nat.pow_mul,←Nat.pow_add,Nat.div_add_mod]
theorem byte_low {M p:Nat} (h:M<2^p):M/256^(p/8)<2^(p%8):=by
 rw [pow_split p] at h
 exact Nat.div_lt_of_lt_mul h
theorem byte_add (M b p:Nat):(M+b*2^p)/256^(p/8)=M/256^(p/8)+b*2^(p%8):=by
 rw [pow_split p,show b*(256^(p/8)*2^(p%8))=(b*2^(p%8))*256^(p/8) by rw [Nat.mul_comm (256^_),Nat.mul_assoc],Nat.add_mul_div_right _ _ (Nat.pow_pos (by decide))]
theorem pow8 {r:Nat} (h:r<8):2^r≤128:=by
 have:=Nat.pow_le_pow_right (n:=2) (by decide) (show r≤7 by omega)
 simpa using this
theorem byte_sum {M b p:Nat} (h:M<2^p) (hb:b≤1):M/256^(p/8)+b*2^(p%8)<256:=by
 have h1:=byte_low h
 have h2:=pow8 (Nat.mod_lt p (show 8>0 by decide))
 have h3:b*2^(p%8)≤1*2^(p%8):=Nat.mul_le_mul_right _ hb
 omega
theorem leB_set {L M b p:Nat} (hp:p<8*L) (h:M<2^p) (hb:b≤1):(leB L M).set (p/8) ((M/256^(p/8)+b*2^(p%8):Nat):Int)=leB L (M+b*2^p):=by
 apply List.ext_getElem (by simp [leB])
 intro i h1 h2
 simp only [leB_len] at h2
 rw [List.getElem_set]
 by_cases hi:p/8=i
 ·subst hi
  simp only [if_true]
  simp only [leB,List.getElem_map,List.getElem_range]
  rw [byte_add,Nat.mod_eq_of_lt (byte_sum h hb)]
 ·simp only [hi,if_false,leB,List.getElem_map,List.getElem_range]
  congr 1
  rcases Nat.lt_or_ge i (p/8) with hlt|hge
  ·have hdv:2^p=256^i*(256*(256^(p/8-i-1)*2^(p%8))):=by
    rw [pow_split p]
    have:p/8=i+(1+(p/8-i-1)):=by omega
    conv=>lhs;rw [this,Nat.pow_add,Nat.pow_add]
    simp [Nat.mul_assoc]
   rw [hdv,show b*(256^i*(256*(256^(p/8-i-1)*2^(p%8))))=256^i*(256*(b*(256^(p/8-i-1)*2^(p%8)))) by rw [Nat.mul_left_comm,Nat.mul_left_comm b],Nat.add_mul_div_left _ _ (Nat.pow_pos (by decide)),Nat.add_mul_mod_self_left]
  ·have hlt:p<8*i:=by omega
   have hp2:2^(p+1)≤256^i:=by
    rw [show (256:Nat)=2^8 by decide,←Nat.pow_mul]
    exact Nat.pow_le_pow_right (by decide) (by omega)
   have hb2:b*2^p≤1*2^p:=Nat.mul_le_mul_right _ hb
   rw [Nat.pow_succ] at hp2
   rw [Nat.div_eq_of_lt (show M<256^i by omega),Nat.div_eq_of_lt (show M+b*2^p<256^i by omega)]
theorem leB_bit (M p:Nat):(M/256^(p/8)%256)/2^(p%8)%2=M/2^p%2:=by
 have h8:=Nat.mod_lt p (show 8>0 by decide)
 have h1:256=2^(p%8)*(2*2^(7-p%8)):=by
  rw [←Nat.mul_assoc,Nat.mul_right_comm,←Nat.pow_add,show p%8+(7-p%8)=7 by omega]
 have h2:∀x:Nat,x%256/2^(p%8)%2=x/2^(p%8)%2:=by
  intro x
  rw [h1,Nat.mod_mul_right_div_self,Nat.mod_mul_right_mod]
 rw [h2,Nat.div_div_eq_div_mul,←pow_split]
def u64 (v:Int):Nat:=(v%18446744073709551616).toNat
theorem u64_lt (v:Int):u64 v<18446744073709551616:=by unfold u64;omega
theorem u64_cast (v:Int):(u64 v:Int)=v%18446744073709551616:=by unfold u64;omega
theorem bit_eq (v:Int) {j:Nat} (hj:j<64):(v/2^j)%2=((u64 v/2^j%2:Nat):Int):=by
 have hv:v=(u64 v:Int)+18446744073709551616*(v/18446744073709551616):=by rw [u64_cast];omega
 have hp0:(2:Int)^j≠0:=by have:=Nat.two_pow_pos j;have:(0:Int)<2^j:=by exact_mod_cast this
                          omega
 have hs:(18446744073709551616:Int)=2^j*(2*2^(63-j)):=by
  have:2^j*(2*2^(63-j))=2^64:=by
   rw [←Nat.mul_assoc,Nat.mul_right_comm,←Nat.pow_add,show j+(63-j)=63 by omega]
  have h2:((2^j*(2*2^(63-j)):Nat):Int)=((2^64:Nat):Int):=by rw [this]
  rw [Int.natCast_mul,Int.natCast_mul,Int.natCast_pow,Int.natCast_pow] at h2
  exact h2.symm
 have key:∀(u:Nat) (q:Int),(((u:Int)+18446744073709551616*q)/2^j)%2=((u/2^j%2:Nat):Int):=by
  intro u q
  rw [hs,Int.mul_assoc,Int.add_mul_ediv_left _ _ hp0]
  rw [show (2:Int)*2^(63-j)*q=2*(2^(63-j)*q) by rw [Int.mul_assoc],Int.add_mul_emod_self_left]
  simp
 conv=>lhs;rw [hv]
 exact key _ _
def packN (w:Nat):List Nat→Nat
 |[]=>0
 |u::r=>u%2^w+2^w*packN w r
theorem packN_lt (w:Nat):∀us:List Nat,packN w us<2^(us.length*w)
 |[]=>by simp [packN]
 |u::r=>by
  have h1:=packN_lt w r
  have h2:=Nat.mod_lt u (Nat.two_pow_pos w)
  simp only [packN,List.length_cons]
  rw [Nat.add_mul,Nat.one_mul,Nat.pow_add,Nat.mul_comm (2^(r.length*w))]
  have h3:2^w*(packN w r+1)≤2^w*2^(r.length*w):=Nat.mul_le_mul_left _ h1
  rw [Nat.mul_add] at h3
  omega
theorem packN_snoc (w u:Nat):∀a:List Nat,packN w (a++[u])=packN w a+(u%2^w)*2^(a.length*w)
 |[]=>by simp [packN]
 |x::a=>by
  simp only [List.cons_append,packN,packN_snoc w u a,List.length_cons]
  rw [Nat.mul_add,Nat.add_mul (a.length) 1,Nat.one_mul,Nat.pow_add,←Nat.add_assoc]
  congr 1
  rw [Nat.mul_left_comm,Nat.mul_comm (2^w)]
theorem mod_succ (u j:Nat):u%2^(j+1)=u%2^j+(u/2^j%2)*2^j:=by
 rw [Nat.pow_succ,Nat.mod_mul,Nat.mul_comm (2^j)]
def bytesOf (n w:Nat):Nat:=(n*w+7)/8
theorem tdiv8 {x:Int} (h:0≤x):Int.tdiv x 8=x/8:=Int.tdiv_eq_ediv_of_nonneg h
theorem tmod8 {x:Int} (h:0≤x):Int.tmod x 8=x%8:=Int.tmod_eq_emod_of_nonneg h
end Go.Law
end
section
set_option linter.unusedVariables false
set_option linter.unusedSimpArgs false
namespace Go.Law
open Go.Am Go.Fn
variable (k:Nat)
theorem idx8 {p:Nat} (h:p<1152921504606846976):IntKind.wrap .i64 (Int.tdiv (p:Int) 8)=((p/8:Nat):Int):=by
 rw [tdiv8 (by omega),w64 (by omega) (by omega)];omega
theorem idm8 (p:Nat):Int.tmod (p:Int) 8=((p%8:Nat):Int):=by
 rw [tmod8 (by omega)];omega
theorem orbyte {M p b:Nat} (h:M<2^p) (hb:b≤1):bits .or .u8 ((M/256^(p/8)%256:Nat):Int) (shlI .u8 (b:Int) ((p%8:Nat):Int))=((M/256^(p/8)+b*2^(p%8):Nat):Int):=by
 have h1:=byte_low h
 have h2:=byte_sum h hb
 have h3:=Nat.mod_lt p (show 8>0 by decide)
 have h4:M/256^(p/8)%256=M/256^(p/8):=Nat.mod_eq_of_lt (by omega)
 rw [h4]
 have:=or_shl .u8 (a:=M/256^(p/8)) (b:=b) (i:=p%8) (show p%8≤8 by omega) h1 (show _<2^8 by omega)
 rw [w8 (by omega) (by omega)] at this
 rw [this,w8 (by omega) (by omega)]
theorem low_lt {M0 u q j:Nat} (h:M0<2^q):M0+(u%2^j)*2^q<2^(q+j):=by
 have h1:=Nat.mod_lt u (Nat.two_pow_pos j)
 have h2:(u%2^j+1)*2^q≤2^j*2^q:=Nat.mul_le_mul_right _ h1
 rw [Nat.add_mul,Nat.one_mul] at h2
 rw [Nat.pow_add,Nat.mul_comm (2^q)]
 omega
theorem low_succ (M0 u q j:Nat):M0+(u%2^j)*2^q+(u/2^j%2)*2^(q+j)=M0+(u%2^(j+1))*2^q:=by
 rw [mod_succ,Nat.add_mul,Nat.mul_assoc (u/2^j%2),←Nat.pow_add,Nat.add_comm j q,Nat.add_assoc]
theorem shr_bit (v:Int) {j:Nat} (hj:j<64):bits .and .i64 (shrI .i64 v (j:Int)) 1=((u64 v/2^j%2:Nat):Int):=by
 rw [shrI_eq .i64 v j (show j≤64 by omega),and1,bit_eq v hj]
theorem packed_inner (L3:Int→(List Int)→Int→Int→(List Int)→Option (Unit×(List Int))) (vs:List Int) (len v:Int) (w i q L M0:Nat) (hw:w≤64) (hq:(i:Int)*(w:Int)=(q:Int)) (hqL:q+w≤8*L) (hL:L<1000000) (hi:i<1000000) (hM:M0<2^q):
 ∀(m n j:Nat),j+m=w→m<n→impl_packed.l6 k L3 n (w:Int) (i:Int) v vs len (i:Int) (w:Int) (j:Int) (leB L (M0+(u64 v%2^j)*2^q))=L3 (w:Int) vs len ((i+1:Nat):Int) (leB L (M0+(u64 v%2^w)*2^q)):=by
 intro m
 induction m with
 |zero=>
  intro n j hj hn
  obtain ⟨n,rfl⟩:∃x,n=x+1:=⟨n-1,by omega⟩
  obtain rfl:j=w:=by omega
  simp only [impl_packed.l6,decide_eq_false (show ¬(j:Int)<(j:Int) by omega),cond_false]
  rw [w64 (by omega) (by omega)]
  congr 1
 |succ m ih=>
  intro n j hj hn
  obtain ⟨n,rfl⟩:∃x,n=x+1:=⟨n-1,by omega⟩
  have hp:IntKind.wrap .i64 (IntKind.wrap .i64 ((i:Int)*(w:Int))+(j:Int))=((q+j:Nat):Int):=by
   rw [hq,w64 (x:=(q:Int)) (by omega) (by omega),w64 (by omega) (by omega)];omega
  have hlt:=low_lt (u:=u64 v) (j:=j) hM
  have hb:u64 v/2^j%2≤1:=by omega
  have hg:rdL (leB L (M0+u64 v%2^j*2^q)) (((q+j)/8:Nat):Int)=some _:=leB_get? (by omega)
  have hbi:IntKind.wrap .u8 ((u64 v/2^j%2:Nat):Int)=((u64 v/2^j%2:Nat):Int):=w8 (by omega) (by omega)
  simp only [impl_packed.l6,decide_eq_true (show (j:Int)<(w:Int) by omega),cond_true,hp,idx8 (show q+j<1152921504606846976 by omega),idm8,hg,Option.bind_some,decide_eq_true (show (0:Int)≤(j:Int) by omega),decide_eq_true (show (0:Int)≤(((q+j)%8:Nat):Int) by omega),shr_bit v (show j<64 by omega),hbi,orbyte hlt hb,Int.toNat_natCast,leB_set (show q+j<8*L by omega) hlt hb,low_succ]
  rw [w64 (by omega) (by omega)]
  exact ih n (j+1) (by omega) (by omega)
def packV (w:Nat) (vs:List Int):Nat:=packN w (vs.map u64)
theorem packed_loop (w L:Nat) (hw:w≤64) (hL:L<1000000) (hk:w<k) (vs:List Int) (hvs:vs.length<1000000) (hb:vs.length*w≤8*L):∀(post pre:List Int) (n:Nat),vs=pre++post→post.length<n→
 impl_packed.l3 k n (w:Int) vs (vs.length:Int) (pre.length:Int) (leB L (packV w pre))=some ((),leB L (packV w vs)):=by
 intro post
 induction post with
 |nil=>
  intro pre n hv hn
  obtain ⟨n,rfl⟩:∃x,n=x+1:=⟨n-1,by omega⟩
  have:vs=pre:=by simpa using hv
  subst this
  simp only [impl_packed.l3,decide_eq_false (show ¬(vs.length:Int)<(vs.length:Int) by omega),cond_false]
 |cons v post ih=>
  intro pre n hv hn
  simp only [List.length_cons] at hn
  obtain ⟨n,rfl⟩:∃x,n=x+1:=⟨n-1,by omega⟩
  have hlen:vs.length=pre.length+(post.length+1):=by rw [hv];simp
  have hg:rdL vs (pre.length:Int)=some v:=by rw [hv,rdL_nat,List.getElem?_append_right (Nat.le_refl _)];simp
  have hM:=packN_lt w (pre.map u64)
  rw [List.length_map] at hM
  have hmul:pre.length*w+w≤vs.length*w:=by
   have:(pre.length+1)*w≤vs.length*w:=Nat.mul_le_mul_right _ (by omega)
   rw [Nat.add_mul,Nat.one_mul] at this
   exact this
  have hi:=packed_inner k (impl_packed.l3 k n) vs (vs.length:Int) v w pre.length (pre.length*w) L (packV w pre) hw (by simp) (by omega) hL (by omega) hM w k 0 (by omega) hk
  simp only [Nat.pow_zero,Nat.mod_one,Nat.zero_mul,Nat.add_zero] at hi
  simp only [impl_packed.l3,decide_eq_true (show (pre.length:Int)<(vs.length:Int) by omega),cond_true,hg,Option.bind_some]
  have h0:((0:Nat):Int)=0:=rfl
  rw [h0] at hi
  rw [hi]
  have:=ih (pre++[v]) n (by rw [hv];simp) (by omega)
  rw [List.length_append,List.length_singleton] at this
  rw [←this]
  unfold packV
  rw [List.map_append,List.map_singleton,packN_snoc,List.length_map]
theorem len8 {n w:Nat} (hn:n≤100000) (hw:w≤64):IntKind.wrap .i64 (Int.tdiv (IntKind.wrap .i64 (IntKind.wrap .i64 ((n:Int)*(w:Int))+7)) 8)=((bytesOf n w:Nat):Int)∧bytesOf n w<1000000∧n*w≤8*bytesOf n w:=by
 have h1:n*w≤100000*64:=Nat.mul_le_mul hn hw
 have h2:(n:Int)*(w:Int)=((n*w:Nat):Int):=by simp
 unfold bytesOf
 rw [h2]
 generalize n*w=q at h1⊢
 rw [w64 (x:=(q:Int)) (by omega) (by omega),w64 (x:=(q:Int)+7) (by omega) (by omega),tdiv8 (by omega),w64 (by omega) (by omega)]
 omega
def packB (w:Nat) (vs:List Int):List Int:=leB (bytesOf vs.length w) (packV w vs)
theorem packed_eq (vs:List Int) (w:Nat) (hw:w≤64) (hvs:vs.length≤100000) (hk:vs.length<k) (hk2:w<k):impl_packed k vs (w:Int)=some ((),packB w vs):=by
 obtain ⟨h1,h2,h3⟩:=len8 hvs hw
 unfold impl_packed
 rw [h1,okLen_ok (by omega) (by omega),cond_true,Int.toNat_natCast,←leB_zero]
 exact packed_loop k w _ hw h2 hk2 vs (by omega) h3 vs [] k rfl hk
theorem bitAt_eq (pre post:List Int) (L M p:Nat) (hp:p<8*L) (hl:pre.length+L<100000000000000000):impl_BitAt k (pre++(leB L M++post)) ((8*pre.length+p:Nat):Int)=some ((M/2^p%2:Nat):Int):=by
 unfold impl_BitAt
 have hd:(8*pre.length+p)/8=pre.length+p/8:=by omega
 have hm:(8*pre.length+p)%8=p%8:=by omega
 have hg:rdL (pre++(leB L M++post)) ((pre.length+p/8:Nat):Int)=some ((M/256^(p/8)%256:Nat):Int):=by
  rw [rdL_nat,List.getElem?_append_right (by omega),List.getElem?_append_left (by rw [leB_len];omega),Nat.add_sub_cancel_left]
  exact leB_get? (by omega)
 simp only [decide_eq_false (show ¬(((8*pre.length+p:Nat):Int)<0) by omega),cond_false,idx8 (show 8*pre.length+p<1152921504606846976 by omega),idm8,hd,hm,hg,Option.bind_some,
  decide_eq_false (show ¬(((pre.length+p/8:Nat):Int)≥((pre++(leB L M++post)).length:Int)) by simp [leB_len];omega),decide_eq_true (show (0:Int)≤((p%8:Nat):Int) by omega),cond_true]
 rw [shrI_eq .u8 _ (p%8) (show p%8≤8 by omega)]
 have h1:((M/256^(p/8)%256:Nat):Int)/2^(p%8)=((M/256^(p/8)%256/2^(p%8):Nat):Int):=by simp
 rw [h1]
 have hlt:M/256^(p/8)%256/2^(p%8)<256:=Nat.lt_of_le_of_lt (Nat.div_le_self _ _) (Nat.mod_lt _ (by decide))
 have hb:=leB_bit M p
 generalize M/256^(p/8)%256/2^(p%8)=x at hlt hb
 have h2:=bits_mask .u8 8 (by decide) wraps_u8 1 (by decide) (x:Int) (by omega) (by omega)
 have h2:bits .and .u8 (x:Int) 1=(x:Int)%2:=h2
 rw [h2,w64 (by omega) (by omega),←hb]
 simp
def unpackAt (w M i:Nat):Int:=IntKind.wrap .i64 ((M/2^(i*w)%2^w:Nat):Int)
theorem un_inner (L3:(List Int)→Int→Int→Int→Int→(List Int)→Option (Unit×(List Int))) (pre post:List Int) (L M w i q:Nat) (t14:Int) (hw:w≤64) (hq:(i:Int)*(w:Int)=(q:Int)) (hqn:i*w=q) (hqL:q+w≤8*L) (hl:pre.length+L<10000000000000000) (hi:i<1000000) (o:List Int) (ho:o.length<1000000):
 ∀(m n j:Nat),j+m=w→m<n→impl_unpacked.l7 k L3 n (pre++(leB L M++post)) (pre.length:Int) (w:Int) (i:Int) (IntKind.wrap .i64 ((M/2^q%2^j:Nat):Int)) t14 (i:Int) (w:Int) (j:Int) o=L3 (pre++(leB L M++post)) (pre.length:Int) (w:Int) t14 ((i+1:Nat):Int) (o++[unpackAt w M i]):=by
 intro m
 induction m with
 |zero=>
  intro n j hj hn
  obtain ⟨n,rfl⟩:∃x,n=x+1:=⟨n-1,by omega⟩
  obtain rfl:j=w:=by omega
  simp only [impl_unpacked.l7,decide_eq_false (show ¬(j:Int)<(j:Int) by omega),cond_false]
  rw [lim_ok (by simp;omega),cond_true,w64 (x:=(i:Int)+1) (by omega) (by omega)]
  unfold unpackAt
  rw [hqn]
  congr 1
 |succ m ih=>
  intro n j hj hn
  obtain ⟨n,rfl⟩:∃x,n=x+1:=⟨n-1,by omega⟩
  have hp:IntKind.wrap .i64 (IntKind.wrap .i64 (IntKind.wrap .i64 (8*(pre.length:Int))+IntKind.wrap .i64 ((i:Int)*(w:Int)))+(j:Int))=((8*pre.length+(q+j):Nat):Int):=by
   rw [hq,w64 (x:=(q:Int)) (by omega) (by omega),w64 (x:=8*(pre.length:Int)) (by omega) (by omega),w64 (x:=8*(pre.length:Int)+(q:Int)) (by omega) (by omega),w64 (by omega) (by omega)];omega
  have hb:=bitAt_eq k pre post L M (q+j) (by omega) (by omega)
  simp only [impl_unpacked.l7,decide_eq_true (show (j:Int)<(w:Int) by omega),cond_true,hp,hb,Option.bind_some,decide_eq_true (show (0:Int)≤(j:Int) by omega)]
  have hlt:M/2^q%2^j<2^j:=Nat.mod_lt _ (Nat.two_pow_pos j)
  have hjj:2^(j+1)≤2^64:=Nat.pow_le_pow_right (by decide) (by omega)
  have hb1:M/2^(q+j)%2≤1:=by omega
  have hb2:M/2^(q+j)%2*2^j≤1*2^j:=Nat.mul_le_mul_right _ hb1
  have ho:=or_shl .i64 (a:=M/2^q%2^j) (b:=M/2^(q+j)%2) (i:=j) (show j≤64 by omega) hlt (show _<2^64 by rw [Nat.pow_succ] at hjj;omega)
  rw [ho]
  have hs:M/2^q%2^j+M/2^(q+j)%2*2^j=M/2^q%2^(j+1):=by
   rw [mod_succ,Nat.div_div_eq_div_mul,←Nat.pow_add]
  rw [hs,w64 (x:=(j:Int)+1) (by omega) (by omega),show ((j:Int)+1)=((j+1:Nat):Int) by omega]
  exact ih n (j+1) (by omega) (by omega)
theorem unpacked_loop (pre post:List Int) (L M w N:Nat) (hw:w≤64) (hN:N*w≤8*L) (hl:pre.length+L<10000000000000000) (hN2:N<1000000) (hk:w<k):
 ∀(m n i:Nat) (o:List Int),i+m=N→m<n→o.length=i→impl_unpacked.l3 k n (pre++(leB L M++post)) (pre.length:Int) (w:Int) (N:Int) (i:Int) o=some ((),o++(List.range' i m).map (unpackAt w M)):=by
 intro m
 induction m with
 |zero=>
  intro n i o hi hn ho
  obtain ⟨n,rfl⟩:∃x,n=x+1:=⟨n-1,by omega⟩
  simp only [impl_unpacked.l3,decide_eq_false (show ¬(i:Int)<(N:Int) by omega),cond_false]
  simp
 |succ m ih=>
  intro n i o hi hn ho
  obtain ⟨n,rfl⟩:∃x,n=x+1:=⟨n-1,by omega⟩
  have hmul:i*w+w≤N*w:=by
   have:(i+1)*w≤N*w:=Nat.mul_le_mul_right _ (by omega)
   rw [Nat.add_mul,Nat.one_mul] at this
   exact this
  have hi':=un_inner k (impl_unpacked.l3 k n) pre post L M w i (i*w) (N:Int) hw (by simp) rfl (by omega) hl (by omega) o (by omega) w k 0 (by omega) hk
  simp only [Nat.pow_zero,Nat.mod_one] at hi'
  simp only [impl_unpacked.l3,decide_eq_true (show (i:Int)<(N:Int) by omega),cond_true]
  have h0:((0:Nat):Int)=0:=rfl
  have hw0:IntKind.wrap .i64 0=0:=rfl
  rw [h0,hw0] at hi'
  rw [hi',ih n (i+1) _ (by omega) (by omega) (by simp;omega)]
  simp [List.range'_succ]
theorem unpacked_eq (pre post:List Int) (L M w N:Nat) (hw:w≤64) (hN:N*w≤8*L) (hl:pre.length+L<10000000000000000) (hN2:N<1000000) (hk:w<k) (hk2:N<k):
 impl_unpacked k (pre++(leB L M++post)) (pre.length:Int) (N:Int) (w:Int)=some ((),(List.range N).map (unpackAt w M)):=by
 unfold impl_unpacked
 have:=unpacked_loop k pre post L M w N hw hN hl hN2 hk N k 0 [] (by omega) hk2 rfl
 rw [List.range_eq_range']
 simpa using this
end Go.Law
end
section
set_option linter.unusedVariables false
set_option linter.unusedSimpArgs false
namespace Go.Law
open Go.Am Go.Fn
def gvN:Nat→List Int→Option (Nat×Nat)
 |0,_=>none
 |_+1,[]=>none
 |f+1,c::r=>if f=0∧1<c then none else if c<128 then some (c.toNat,1) else (gvN f r).map fun x=>((c%128).toNat+128*x.1,x.2+1)
def gv (l:List Int):Option (Int×Nat):=(gvN 10 l).map fun x=>(IntKind.wrap .i64 (x.1:Int),x.2)
theorem gvN_facts:∀(f:Nat) (l:List Int) (v n:Nat),(∀x,x∈l→0≤x∧x<256)→gvN (f+1) l=some (v,n)→v<2*128^f∧1≤n∧n≤l.length∧n≤f+1∧(uvB f v).length≤n:=by
 intro f
 induction f with
 |zero=>
  intro l v n hb h
  cases l with
  |nil=>simp [gvN] at h
  |cons c r=>
   obtain ⟨c0,c1⟩:=hb c (by simp)
   simp only [gvN,true_and] at h
   split at h
   ·cases h
   ·split at h
    ·simp only [Option.some.injEq,Prod.mk.injEq] at h
     obtain ⟨rfl,rfl⟩:=h
     simp [uvB];omega
    ·simp at h
 |succ f ih=>
  intro l v n hb h
  cases l with
  |nil=>simp [gvN] at h
  |cons c r=>
   obtain ⟨c0,c1⟩:=hb c (by simp)
   rw [gvN,if_neg (by omega)] at h
   have hP:1≤128^f:=Nat.pow_pos (by decide)
   have hP2:(128:Nat)^(f+1)=128*128^f:=by rw [Nat.pow_succ,Nat.mul_comm]
   split at h
   ·simp only [Option.some.injEq,Prod.mk.injEq] at h
    obtain ⟨rfl,rfl⟩:=h
    refine ⟨by omega,by omega,by simp,by omega,?_⟩
    simp only [uvB]
    rw [if_neg (by omega)]
    simp
   ·cases hg:gvN (f+1) r with
    |none=>rw [hg] at h;cases h
    |some x=>
     obtain ⟨v',n'⟩:=x
     rw [hg] at h
     simp only [Option.map_some,Option.some.injEq,Prod.mk.injEq] at h
     obtain ⟨rfl,rfl⟩:=h
     obtain ⟨i1,i2,i3,i4,i5⟩:=ih r v' n' (fun x hx=>hb x (by simp [hx])) hg
     refine ⟨by omega,by omega,by simp;omega,by omega,?_⟩
     simp only [uvB]
     split
     ·rw [List.length_cons,show ((c%128).toNat+128*v')/128=v' by omega]
      omega
     ·simp
theorem gv_facts (l:List Int) (u:Int) (n:Nat) (hb:∀x,x∈l→0≤x∧x<256) (h:gv l=some (u,n)):I64 u∧1≤n∧n≤l.length∧n≤10∧(uv u).length≤n:=by
 unfold gv at h
 cases hg:gvN 10 l with
 |none=>rw [hg] at h;cases h
 |some x=>
  obtain ⟨v,n'⟩:=x
  rw [hg] at h
  simp only [Option.map_some,Option.some.injEq,Prod.mk.injEq] at h
  obtain ⟨rfl,rfl⟩:=h
  obtain ⟨h1,h2,h3,h4,h5⟩:=gvN_facts 9 l v n' hb hg
  have h1:v<18446744073709551616:=by simpa using h1
  refine ⟨⟨w64_lo _,w64_hi _⟩,h2,h3,h4,?_⟩
  unfold uv
  rw [IntKind.wrap_i64,show (((v:Int)+9223372036854775808)%18446744073709551616-9223372036854775808)%18446744073709551616=(v:Int) by omega,Int.toNat_natCast]
  exact h5
theorem drop_cons_of {α:Type} {l:List α} {p:Nat} (h:p<l.length):∃c,l.drop p=c::l.drop (p+1)∧l[p]?=some c:=by
 refine ⟨l[p],?_,by simp [h]⟩
 rw [List.drop_eq_getElem_cons h]
theorem igetLoop (k:Nat) (b:List Int) (p:Nat) (hb:b.length<4611686018427387904) (hby:∀x,x∈b→0≤x∧x<256) (hp:p<4611686018427387904):∀(f n i acc:Nat),i+f=10→f<n→acc<2^(7*i)→
 impl_UvarGet.l5 k n b (p:Int) (acc:Int) (i:Int)=match gvN f (b.drop (p+i)) with
  |none=>some (0,0,false)
  |some (v,m)=>some (IntKind.wrap .i64 ((acc+v*2^(7*i):Nat):Int),((p+i+m:Nat):Int),true):=by
 intro f
 induction f with
 |zero=>
  intro n i acc hi hn hacc
  obtain ⟨n,rfl⟩:∃j,n=j+1:=⟨n-1,by omega⟩
  obtain rfl:i=10:=by omega
  simp only [impl_UvarGet.l5,show decide (((10:Nat):Int)<10)=false by decide,cond_false,Option.bind_some,gvN,impl_UvarGet.c12]
 |succ f ih=>
  intro n i acc hi hn hacc
  obtain ⟨n,rfl⟩:∃j,n=j+1:=⟨n-1,by omega⟩
  have hP:0<2^(7*i):=Nat.two_pow_pos _
  have hP7:2^(7*(i+1))=128*2^(7*i):=by rw [Nat.mul_add,Nat.pow_add];simp [Nat.mul_comm]
  have c1:decide ((i:Int)<10)=true:=by simp;omega
  by_cases hlt:p+i<b.length
  ·obtain ⟨c,hc,hc2⟩:=drop_cons_of hlt
   obtain ⟨c0,c255⟩:=hby c (List.mem_of_getElem? hc2)
   have e1:IntKind.wrap .i64 ((b.length:Int)-(p:Int))=(b.length:Int)-p:=w64 (by omega) (by omega)
   have e2:IntKind.wrap .i64 ((p:Int)+(i:Int))=((p+i:Nat):Int):=by rw [w64 (by omega) (by omega)];omega
   have e3:IntKind.wrap .i64 (7*(i:Int))=((7*i:Nat):Int):=by rw [w64 (by omega) (by omega)];omega
   have e5:IntKind.wrap .i64 (((p+i:Nat):Int)+1)=((p+i+1:Nat):Int):=by rw [w64 (by omega) (by omega)];omega
   have e6:IntKind.wrap .i64 ((i:Int)+1)=((i+1:Nat):Int):=by rw [w64 (by omega) (by omega)];omega
   have c2:decide ((i:Int)<(b.length:Int)-p)=true:=by simp;omega
   have c5:decide ((0:Int)≤((7*i:Nat):Int))=true:=decide_eq_true (by omega)
   have hget:rdL b ((p+i:Nat):Int)=some c:=by rw [rdL_nat];exact hc2
   rw [hc,gvN]
   simp only [impl_UvarGet.l5,c1,e1,c2,e2,e3,e5,e6,hget,cond_true,Option.bind_some,csf]
   by_cases h9:f=0∧1<c
   ·obtain ⟨rfl,h1c⟩:=h9
    obtain rfl:i=9:=by omega
    rw [if_pos ⟨rfl,h1c⟩]
    simp only [show (((9:Nat):Int)==9)=true by decide,show decide (c>1)=true from decide_eq_true h1c,Bool.and_self,cond_true,impl_UvarGet.c12]
   ·rw [if_neg h9]
    have h9b:(((i:Int)==9)&&decide (c>1))=false:=by
     rw [Bool.eq_false_iff];intro q
     simp only [Bool.and_eq_true,beq_iff_eq,decide_eq_true_eq] at q
     exact h9 ⟨by omega,q.2⟩
    simp only [h9b,cond_false,c5,cond_true]
    have hcm:(c%128)*2^(7*i)<18446744073709551616:=by
     by_cases hf:f=0
     ·have:i=9:=by omega
      subst this
      have:c≤1:=by
       rcases Int.lt_or_le 1 c with q|q
       ·exact (h9 ⟨hf,q⟩).elim
       ·exact q
      have h2:(2:Int)^(7*9)=9223372036854775808:=by decide
      rw [h2];omega
     ·have:(2:Int)^(7*i)≤2^56:=by
       have:=Nat.pow_le_pow_right (n:=2) (by omega) (show 7*i≤56 by omega)
       exact_mod_cast this
      have h3:(2:Int)^56=72057594037927936:=by decide
      have h4:(0:Int)<2^(7*i):=by exact_mod_cast hP
      have:=Int.mul_le_mul (show c%128≤127 by omega) this (by omega) (by omega)
      omega
    have e4:shlI .u64 (IntKind.wrap .u64 (bits .and .u8 c 127)) ((7*i:Nat):Int)=(c%128)*2^(7*i):=by
     rw [u8_and127 c0 c255,wu64_eq]
     unfold shlI
     rw [wu64_eq]
     have:min (((7*i:Nat):Int)).toNat (IntKind.bits .u64)=7*i:=by simp [IntKind.bits];omega
     rw [this,show (c%128)%18446744073709551616=c%128 by omega]
     have:0≤(c%128)*2^(7*i):=Int.mul_nonneg (by omega) (by exact_mod_cast Nat.zero_le _)
     omega
    have eor:bits .or .u64 (acc:Int) ((c%128)*2^(7*i))=((acc+(c%128).toNat*2^(7*i):Nat):Int):=by
     rw [u64_or_shl (i:=7*i) (by omega) (by exact_mod_cast hacc) (by omega) (by omega) (by omega)]
     have:c%128=(((c%128).toNat:Nat):Int):=by omega
     rw [this]
     simp
    rw [e4,eor]
    by_cases h128:c<128
    ·rw [if_pos h128,decide_eq_true h128,cond_true]
     have:(c%128).toNat=c.toNat:=by omega
     rw [this]
    ·rw [if_neg h128,decide_eq_false h128,cond_false]
     have hlt2:acc+(c%128).toNat*2^(7*i)<2^(7*(i+1)):=by
      rw [hP7]
      have:(c%128).toNat*2^(7*i)≤127*2^(7*i):=Nat.mul_le_mul_right _ (by omega)
      omega
     rw [ih n (i+1) _ (by omega) (by omega) hlt2,←Nat.add_assoc]
     cases gvN f (b.drop (p+i+1)) with
     |none=>rfl
     |some x=>
      obtain ⟨v,m⟩:=x
      simp only [Option.map_some]
      rw [hP7,show acc+(c%128).toNat*2^(7*i)+v*(128*2^(7*i))=acc+((c%128).toNat+128*v)*2^(7*i) by grind,show p+i+1+m=p+i+(m+1) by omega]
  ·have c2:decide ((i:Int)<IntKind.wrap .i64 ((b.length:Int)-(p:Int)))=false:=by
    rw [w64 (by omega) (by omega)]
    exact decide_eq_false (by omega)
   rw [List.drop_eq_nil_of_le (by omega),gvN]
   simp only [impl_UvarGet.l5,c1,c2,cond_true,cond_false,Option.bind_some,impl_UvarGet.c12]
end Go.Law
end
section
set_option linter.unusedVariables false
set_option linter.unusedSimpArgs false
namespace Go.Law
open Go.Am Go.Fn
theorem within_eq (k:Nat) (a b c:Int):impl_within k a b c=some (decide (b≤a)&&decide (a≤c)):=by
 unfold impl_within
 simp only [csf,Option.bind_some,ge_iff_le]
theorem l1In_eq (k:Nat) (a b c:Int):spec_l1In k a b c=some (decide (b≤a)&&decide (a≤c)):=by
 unfold spec_l1In
 simp only [csf,Option.bind_some,ge_iff_le]
theorem getMid {α:Type} (pre post:List α) (x:α):rdL (pre++x::post) (pre.length:Int)=some x:=by
 rw [rdL_nat,List.getElem?_append_right (Nat.le_refl _)];simp
theorem setMid {α:Type} (pre post:List α) (x y:α):List.set (pre++x::post) (Int.toNat (pre.length:Int)) y=pre++y::post:=by
 rw [Int.toNat_natCast,List.set_append_right _ _ (Nat.le_refl _)];simp
end Go.Law
end
section
set_option linter.unusedVariables false
set_option linter.unusedSimpArgs false
namespace Go.Law
open Go.Am Go.Fn
def wv:List Int→Nat
 |[]=>0
 |c::r=>c.toNat+256*wv r
theorem wv_lt:∀(l:List Int),(∀x,x∈l→0≤x∧x<256)→wv l<2^(8*l.length)
 |[],_=>by simp [wv]
 |c::r,h=>by
  have h1:=wv_lt r (fun x hx=>h x (by simp [hx]))
  obtain ⟨h2,h3⟩:=h c (by simp)
  simp only [wv,List.length_cons]
  have:2^(8*(r.length+1))=256*2^(8*r.length):=by rw [Nat.mul_add,Nat.pow_add];simp [Nat.mul_comm]
  omega
theorem word_loop (k:Nat) (b:List Int) (p n:Nat) (hn:n≤8) (hl:p+n≤b.length) (hb:b.length<4611686018427387904) (hby:∀x,x∈b→0≤x∧x<256):∀(m f i acc:Nat),i+m=n→m<f→acc<2^(8*i)→
 spec_WordGet.l5 k f b (p:Int) (n:Int) (IntKind.wrap .i64 (acc:Int)) (i:Int)=some (IntKind.wrap .i64 ((acc+wv ((b.drop (p+i)).take m)*2^(8*i):Nat):Int),((p+n:Nat):Int),true)∧
 impl_WordGet.l5 k f b (p:Int) (n:Int) (IntKind.wrap .i64 (acc:Int)) (n:Int) (i:Int)=some (IntKind.wrap .i64 ((acc+wv ((b.drop (p+i)).take m)*2^(8*i):Nat):Int),((p+n:Nat):Int),true):=by
 intro m
 induction m with
 |zero=>
  intro f i acc hi hf ha
  obtain ⟨f,rfl⟩:∃q,f=q+1:=⟨f-1,by omega⟩
  have e:IntKind.wrap .i64 ((p:Int)+(n:Int))=((p+n:Nat):Int):=by rw [w64 (by omega) (by omega)];omega
  simp only [spec_WordGet.l5,impl_WordGet.l5,decide_eq_false (show ¬((i:Int)<(n:Int)) by omega),cond_false,e,List.take_zero,wv,Nat.zero_mul,Nat.add_zero]
  exact ⟨trivial,trivial⟩
 |succ m ih=>
  intro f i acc hi hf ha
  obtain ⟨f,rfl⟩:∃q,f=q+1:=⟨f-1,by omega⟩
  obtain ⟨c,hc,hc2⟩:=drop_cons_of (show p+i<b.length by omega)
  obtain ⟨c0,c1⟩:=hby c (List.mem_of_getElem? hc2)
  have e1:IntKind.wrap .i64 ((p:Int)+(i:Int))=((p+i:Nat):Int):=by rw [w64 (by omega) (by omega)];omega
  have e2:IntKind.wrap .i64 (8*(i:Int))=((8*i:Nat):Int):=by rw [w64 (by omega) (by omega)];omega
  have e3:IntKind.wrap .i64 ((i:Int)+1)=((i+1:Nat):Int):=by rw [w64 (by omega) (by omega)];omega
  have ec:IntKind.wrap .i64 c=((c.toNat:Nat):Int):=by rw [w64 (by omega) (by omega)];omega
  have hP8:2^(8*(i+1))=256*2^(8*i):=by rw [Nat.mul_add,Nat.pow_add];simp [Nat.mul_comm]
  have hle:2^(8*(i+1))≤2^64:=Nat.pow_le_pow_right (by omega) (by omega)
  have hlt:acc+c.toNat*2^(8*i)<2^(8*(i+1)):=by
   rw [hP8]
   have:c.toNat*2^(8*i)≤255*2^(8*i):=Nat.mul_le_mul_right _ (by omega)
   omega
  have eor:=or_shl .i64 (a:=acc) (b:=c.toNat) (i:=8*i) (show 8*i≤64 by omega) ha (by show _<2^64;omega)
  have hg:rdL b ((p+i:Nat):Int)=some c:=by rw [rdL_nat];exact hc2
  simp only [spec_WordGet.l5,impl_WordGet.l5,decide_eq_true (show (i:Int)<(n:Int) by omega),cond_true,e1,hg,Option.bind_some,e2,decide_eq_true (show (0:Int)≤((8*i:Nat):Int) by omega),ec,eor,e3]
  obtain ⟨i1,i2⟩:=ih f (i+1) _ (by omega) (by omega) hlt
  have hw:acc+c.toNat*2^(8*i)+wv ((b.drop (p+(i+1))).take m)*2^(8*(i+1))=acc+wv ((b.drop (p+i)).take (m+1))*2^(8*i):=by
   rw [hc,List.take_succ_cons,wv,hP8,←Nat.add_assoc]
   grind
  rw [hw] at i1 i2
  exact ⟨i1,i2⟩
end Go.Law
end
section
set_option linter.unusedVariables false
set_option linter.unusedSimpArgs false
namespace Go.Law
open Go.Am Go.Fn
variable (k:Nat)
abbrev Byts (b:List Int):Prop:=∀x,x∈b→0≤x∧x<256
theorem wv_get:∀(l:List Int),Byts l→∀(i:Nat) (x:Int),l[i]?=some x→x=((wv l/256^i%256:Nat):Int)
 |[],_,i,x,h=>by simp at h
 |c::r,hb,0,x,h=>by
  obtain ⟨h0,h1⟩:=hb c (by simp)
  simp at h
  subst h
  simp only [wv,Nat.pow_zero,Nat.div_one]
  omega
 |c::r,hb,i+1,x,h=>by
  obtain ⟨h0,h1⟩:=hb c (by simp)
  rw [wv_get r (fun y hy=>hb y (by simp [hy])) i x (by simpa using h)]
  have:(c.toNat+256*wv r)/256^(i+1)=wv r/256^i:=by
   rw [Nat.pow_succ,Nat.mul_comm (256^i) 256,←Nat.div_div_eq_div_mul]
   congr 1
   omega
  simp only [wv,this]
theorem leB_wv (l:List Int) (hb:Byts l):l=leB l.length (wv l):=by
 apply List.ext_getElem (by rw [leB_len])
 intro i h1 h2
 rw [wv_get l hb i l[i] (List.getElem?_eq_getElem h1)]
 have:=leB_get? (M:=wv l) h1
 rw [List.getElem?_eq_getElem h2] at this
 exact (Option.some.inj this).symm
theorem l1Bit_eq (pre post:List Int) (L M p:Nat) (hp:p<8*L) (hl:pre.length+L<100000000000000000):spec_l1Bit k (pre++(leB L M++post)) ((8*pre.length+p:Nat):Int)=some ((M/2^p%2:Nat):Int):=by
 unfold spec_l1Bit
 have hd:(8*pre.length+p)/8=pre.length+p/8:=by omega
 have hm:(8*pre.length+p)%8=p%8:=by omega
 have hg:rdL (pre++(leB L M++post)) ((pre.length+p/8:Nat):Int)=some ((M/256^(p/8)%256:Nat):Int):=by
  rw [rdL_nat,List.getElem?_append_right (by omega),List.getElem?_append_left (by rw [leB_len];omega),Nat.add_sub_cancel_left]
  exact leB_get? (by omega)
 have hlt:M/256^(p/8)%256<256:=Nat.mod_lt _ (by decide)
 simp only [idx8 (show 8*pre.length+p<1152921504606846976 by omega),idm8,hd,hm,hg,Option.bind_some,decide_eq_true (show (0:Int)≤((p%8:Nat):Int) by omega),cond_true]
 rw [w64 (x:=((M/256^(p/8)%256:Nat):Int)) (by omega) (by omega),shrI_eq .i64 _ (p%8) (show p%8≤64 by omega),and1,←leB_bit M p]
 simp
theorem sp_inner (L6:(List Int)→Int→Int→Int→Int→Int→(List Int)→Option ((Unit×Int×Bool)×(List Int))) (pre post:List Int) (L M w i q:Nat) (t2 t12:Int) (hw:w≤64) (hq:(i:Int)*(w:Int)=(q:Int)) (hqn:i*w=q) (hqL:q+w≤8*L) (hl:pre.length+L<10000000000000000) (hi:i<1000000) (o:List Int) (ho:o.length<1000000):
 ∀(m n j:Nat),j+m=w→m<n→spec_BitsRead.l10 k L6 n (pre++(leB L M++post)) (pre.length:Int) t2 (w:Int) t12 (i:Int) (IntKind.wrap .i64 ((M/2^q%2^j:Nat):Int)) (j:Int) o=L6 (pre++(leB L M++post)) (pre.length:Int) t2 (w:Int) t12 ((i+1:Nat):Int) (o++[unpackAt w M i]):=by
 intro m
 induction m with
 |zero=>
  intro n j hj hn
  obtain ⟨n,rfl⟩:∃x,n=x+1:=⟨n-1,by omega⟩
  obtain rfl:j=w:=by omega
  simp only [spec_BitsRead.l10,decide_eq_false (show ¬(j:Int)<(j:Int) by omega),cond_false]
  rw [lim_ok (by simp;omega),cond_true,w64 (x:=(i:Int)+1) (by omega) (by omega)]
  unfold unpackAt
  rw [hqn]
  congr 1
 |succ m ih=>
  intro n j hj hn
  obtain ⟨n,rfl⟩:∃x,n=x+1:=⟨n-1,by omega⟩
  have hp:IntKind.wrap .i64 (IntKind.wrap .i64 (IntKind.wrap .i64 (8*(pre.length:Int))+IntKind.wrap .i64 ((i:Int)*(w:Int)))+(j:Int))=((8*pre.length+(q+j):Nat):Int):=by
   rw [hq,w64 (x:=(q:Int)) (by omega) (by omega),w64 (x:=8*(pre.length:Int)) (by omega) (by omega),w64 (x:=8*(pre.length:Int)+(q:Int)) (by omega) (by omega),w64 (by omega) (by omega)];omega
  have hb:=l1Bit_eq k pre post L M (q+j) (by omega) (by omega)
  simp only [spec_BitsRead.l10,decide_eq_true (show (j:Int)<(w:Int) by omega),cond_true,hp,hb,Option.bind_some,decide_eq_true (show (0:Int)≤(j:Int) by omega)]
  have hlt:M/2^q%2^j<2^j:=Nat.mod_lt _ (Nat.two_pow_pos j)
  have hjj:2^(j+1)≤2^64:=Nat.pow_le_pow_right (by decide) (by omega)
  have hb1:M/2^(q+j)%2≤1:=by omega
  have hb2:M/2^(q+j)%2*2^j≤1*2^j:=Nat.mul_le_mul_right _ hb1
  have ho:=or_shl .i64 (a:=M/2^q%2^j) (b:=M/2^(q+j)%2) (i:=j) (show j≤64 by omega) hlt (show _<2^64 by rw [Nat.pow_succ] at hjj;omega)
  rw [ho]
  have hs:M/2^q%2^j+M/2^(q+j)%2*2^j=M/2^q%2^(j+1):=by
   rw [mod_succ,Nat.div_div_eq_div_mul,←Nat.pow_add]
  rw [hs,w64 (x:=(j:Int)+1) (by omega) (by omega),show ((j:Int)+1)=((j+1:Nat):Int) by omega]
  exact ih n (j+1) (by omega) (by omega)
theorem sp_loop (pre post:List Int) (L M w N:Nat) (t12:Int) (hw:w≤64) (hN:N*w≤8*L) (hl:pre.length+L<10000000000000000) (hN2:N<1000000) (hk:w<k):
 ∀(m n i:Nat) (o:List Int),i+m=N→m<n→o.length=i→spec_BitsRead.l6 k n (pre++(leB L M++post)) (pre.length:Int) (N:Int) (w:Int) t12 (i:Int) o=some (((),IntKind.wrap .i64 ((pre.length:Int)+t12),true),o++(List.range' i m).map (unpackAt w M)):=by
 intro m
 induction m with
 |zero=>
  intro n i o hi hn ho
  obtain ⟨n,rfl⟩:∃x,n=x+1:=⟨n-1,by omega⟩
  simp only [spec_BitsRead.l6,decide_eq_false (show ¬(i:Int)<(N:Int) by omega),cond_false]
  simp
 |succ m ih=>
  intro n i o hi hn ho
  obtain ⟨n,rfl⟩:∃x,n=x+1:=⟨n-1,by omega⟩
  have hmul:i*w+w≤N*w:=by
   have:(i+1)*w≤N*w:=Nat.mul_le_mul_right _ (by omega)
   rw [Nat.add_mul,Nat.one_mul] at this
   exact this
  have hi':=sp_inner k (spec_BitsRead.l6 k n) pre post L M w i (i*w) (N:Int) t12 hw (by simp) rfl (by omega) hl (by omega) o (by omega) w k 0 (by omega) hk
  simp only [Nat.pow_zero,Nat.mod_one] at hi'
  simp only [spec_BitsRead.l6,decide_eq_true (show (i:Int)<(N:Int) by omega),cond_true]
  have h0:((0:Nat):Int)=0:=rfl
  have hw0:IntKind.wrap .i64 0=0:=rfl
  rw [h0,hw0] at hi'
  rw [hi',ih n (i+1) _ (by omega) (by omega) (by simp;omega)]
  simp [List.range'_succ]
theorem bitsSize_eq (n w:Int):∃z:Int,impl_BitsSize k n w=some z∧spec_BitsSize k n w=some z∧
 ((z= -1∧¬(0≤n∧n≤2000∧0≤w∧w≤62))∨(0≤n∧n≤2000∧0≤w∧w≤62∧z=((bytesOf n.toNat w.toNat:Nat):Int))):=by
 unfold impl_BitsSize spec_BitsSize
 simp only [within_eq,l1In_eq,Option.bind_some,cst]
 by_cases h:0≤n∧n≤2000∧0≤w∧w≤62
 ·obtain ⟨h1,h2,h3,h4⟩:=h
  obtain ⟨n,rfl⟩:∃m:Nat,n=m:=⟨n.toNat,by omega⟩
  obtain ⟨w,rfl⟩:∃m:Nat,w=m:=⟨w.toNat,by omega⟩
  have:=(len8 (n:=n) (w:=w) (by omega) (by omega)).1
  simp only [decide_eq_true h1,decide_eq_true h2,decide_eq_true h3,decide_eq_true h4,Bool.and_self,Bool.not_true,Bool.or_self,cond_false,this]
  exact ⟨_,rfl,rfl,.inr ⟨h1,h2,h3,h4,by simp⟩⟩
 ·have:((!(decide (0≤n)&&decide (n≤2000)))|| !(decide (0≤w)&&decide (w≤62)))=true:=by
   by_cases a:0≤n<;>by_cases b:n≤2000<;>by_cases c:0≤w<;>by_cases d:w≤62<;>simp [a,b,c,d]
   exact h ⟨a,b,c,d⟩
  simp only [this,cond_true]
  exact ⟨_,rfl,rfl,.inl ⟨rfl,h⟩⟩
theorem bits_any (hk:3000≤k) (b:List Int) (hb:b.length<1000000000000000) (hby:Byts b) (at_ n w:Int) (ha:I64 at_):
 ∃nx ok l,impl_BitsRead k b at_ n w=some (((),nx,ok),l)∧spec_BitsRead k b at_ n w=some (((),nx,ok),l)∧
  (ok=false→nx=0∧l=[])∧(ok=true→0≤n∧n≤2000∧0≤w∧w≤62∧l.length=n.toNat∧0≤at_∧nx=at_+(bytesOf n.toNat w.toNat:Nat)∧nx≤(b.length:Int)∧∀x,x∈l→0≤x∧x<2^w.toNat):=by
 obtain ⟨z,h1,h2,hz⟩:=bitsSize_eq k n w
 unfold impl_BitsRead spec_BitsRead
 simp only [h1,h2,Option.bind_some,within_eq,l1In_eq,cst]
 rcases hz with ⟨rfl,hn⟩|⟨n0,n1,w0,w1,hz⟩
 ·simp only [decide_eq_true (show (-1:Int)<0 by decide),Bool.true_or,cond_true]
  exact ⟨_,_,_,rfl,rfl,fun _=>⟨rfl,rfl⟩,fun h=>by cases h⟩
 obtain ⟨n,rfl⟩:∃m:Nat,n=m:=⟨n.toNat,by omega⟩
 obtain ⟨w,rfl⟩:∃m:Nat,w=m:=⟨w.toNat,by omega⟩
 simp only [Int.toNat_natCast] at hz
 have hl8:=len8 (n:=n) (w:=w) (by omega) (by omega)
 subst hz
 by_cases hat:0≤at_∧at_≤(b.length:Int)
 ·obtain ⟨a0,a1⟩:=hat
  obtain ⟨p,rfl⟩:∃m:Nat,at_=m:=⟨at_.toNat,by omega⟩
  have e:IntKind.wrap .i64 ((b.length:Int)-(p:Int))=(b.length:Int)-p:=w64 (by omega) (by omega)
  simp only [decide_eq_true a0,decide_eq_true a1,Bool.and_self,Bool.not_true,decide_eq_false (show ¬((bytesOf n w:Nat):Int)<0 by omega),Bool.or_self,Bool.false_or,e]
  by_cases hfit:((bytesOf n w:Nat):Int)≤(b.length:Int)-p
  ·simp only [decide_eq_false (show ¬((bytesOf n w:Nat):Int)>(b.length:Int)-p by omega),decide_eq_false (show ¬(b.length:Int)-p<((bytesOf n w:Nat):Int) by omega),cond_false]
   have hlen:((b.drop p).take (bytesOf n w)).length=bytesOf n w:=by rw [List.length_take,List.length_drop];omega
   have hsp:b=b.take p++(leB (bytesOf n w) (wv ((b.drop p).take (bytesOf n w)))++b.drop (p+bytesOf n w)):=by
    have h3:=leB_wv ((b.drop p).take (bytesOf n w)) (fun x hx=>hby x (List.mem_of_mem_drop (List.mem_of_mem_take hx)))
    rw [hlen] at h3
    rw [←h3,←List.drop_drop,List.take_append_drop,List.take_append_drop]
   have hpl:(b.take p).length=p:=by rw [List.length_take];omega
   generalize wv ((b.drop p).take (bytesOf n w))=M at hsp
   have u1:=unpacked_eq k (b.take p) (b.drop (p+bytesOf n w)) (bytesOf n w) M w n (by omega) hl8.2.2 (by rw [hpl];omega) (by omega) (by omega) (by omega)
   have u2:=sp_loop k (b.take p) (b.drop (p+bytesOf n w)) (bytesOf n w) M w n ((bytesOf n w:Nat):Int) (by omega) hl8.2.2 (by rw [hpl];omega) (by omega) (by omega) n k 0 [] (by omega) (by omega) rfl
   rw [←hsp,hpl] at u1 u2
   rw [show ((0:Nat):Int)=0 from rfl,List.nil_append,←List.range_eq_range'] at u2
   have e2:IntKind.wrap .i64 ((p:Int)+((bytesOf n w:Nat):Int))=(p:Int)+(bytesOf n w:Nat):=w64 (by omega) (by omega)
   rw [e2] at u2
   simp only [u1,u2,Option.bind_some,e2]
   refine ⟨_,_,_,rfl,rfl,(fun h=>by cases h),fun _=>⟨by omega,by omega,by omega,by omega,by simp,a0,by simp,by omega,?_⟩⟩
   intro x hx
   obtain ⟨i,_,rfl⟩:=List.mem_map.1 hx
   have hlt:M/2^(i*w)%2^w<2^w:=Nat.mod_lt _ (Nat.two_pow_pos w)
   have hp62:2^w≤2^62:=Nat.pow_le_pow_right (by decide) (by omega)
   unfold unpackAt
   rw [Int.toNat_natCast,w64 (by omega) (by omega)]
   refine ⟨by omega,?_⟩
   exact_mod_cast hlt
  ·simp only [decide_eq_true (show ((bytesOf n w:Nat):Int)>(b.length:Int)-p by omega),decide_eq_true (show (b.length:Int)-p<((bytesOf n w:Nat):Int) by omega),cond_true]
   exact ⟨_,_,_,rfl,rfl,fun _=>⟨rfl,rfl⟩,fun h=>by cases h⟩
 ·have:(decide (0≤at_)&&decide (at_≤(b.length:Int)))=false:=by
   by_cases a:0≤at_<;>by_cases c:at_≤(b.length:Int)<;>simp [a,c]
   exact hat ⟨a,c⟩
  simp only [this,Bool.not_false,Bool.or_true,Bool.true_or,cond_true]
  exact ⟨_,_,_,rfl,rfl,fun _=>⟨rfl,rfl⟩,fun h=>by cases h⟩
end Go.Law
end
section
set_option linter.unusedVariables false
set_option linter.unusedSimpArgs false
namespace Go.Law
open Go.Am Go.Fn
variable (k:Nat)
theorem bp_inner (L6:(List Int)→Int→Int→(List Int)→Option ((Unit×Bool)×(List Int))) (vs:List Int) (v:Int) (w i q L M0:Nat) (hw:w≤64) (hq:(i:Int)*(w:Int)=(q:Int)) (hqL:q+w≤8*L) (hL:L<1000000) (hi:i<1000000) (hM:M0<2^q) (hv:rdL vs (i:Int)=some v):
 ∀(m n j:Nat),j+m=w→m<n→spec_BitsPack.l11 k L6 n vs (w:Int) (i:Int) (j:Int) (leB L (M0+(u64 v%2^j)*2^q))=L6 vs (w:Int) ((i+1:Nat):Int) (leB L (M0+(u64 v%2^w)*2^q)):=by
 intro m
 induction m with
 |zero=>
  intro n j hj hn
  obtain ⟨n,rfl⟩:∃x,n=x+1:=⟨n-1,by omega⟩
  obtain rfl:j=w:=by omega
  simp only [spec_BitsPack.l11,decide_eq_false (show ¬(j:Int)<(j:Int) by omega),cond_false]
  rw [w64 (by omega) (by omega)]
  congr 1
 |succ m ih=>
  intro n j hj hn
  obtain ⟨n,rfl⟩:∃x,n=x+1:=⟨n-1,by omega⟩
  have hp:IntKind.wrap .i64 (IntKind.wrap .i64 ((i:Int)*(w:Int))+(j:Int))=((q+j:Nat):Int):=by
   rw [hq,w64 (x:=(q:Int)) (by omega) (by omega),w64 (by omega) (by omega)];omega
  have hlt:=low_lt (u:=u64 v) (j:=j) hM
  have hb:u64 v/2^j%2≤1:=by omega
  have hg:rdL (leB L (M0+u64 v%2^j*2^q)) (((q+j)/8:Nat):Int)=some _:=leB_get? (by omega)
  have hi:=ih n (j+1) (by omega) (by omega)
  rw [←low_succ] at hi
  simp only [spec_BitsPack.l11,decide_eq_true (show (j:Int)<(w:Int) by omega),cond_true,hp,idx8 (show q+j<1152921504606846976 by omega),idm8,hg,hv,Option.bind_some,decide_eq_true (show (0:Int)≤(j:Int) by omega),decide_eq_true (show (0:Int)≤(((q+j)%8:Nat):Int) by omega),shr_bit v (show j<64 by omega),spec_BitsPack.c12]
  rw [w64 (x:=(j:Int)+1) (by omega) (by omega),show ((j:Int)+1)=((j+1:Nat):Int) by omega]
  rcases Nat.eq_zero_or_pos (u64 v/2^j%2) with h0|h0
  ·rw [h0] at hi⊢
   rw [beqF (by decide),cond_false]
   simpa using hi
  ·have h1:u64 v/2^j%2=1:=by omega
   have ho:=orbyte hlt (show 1≤1 by omega)
   have hs:=leB_set (L:=L) (show q+j<8*L by omega) hlt (show 1≤1 by omega)
   have h11:((1:Nat):Int)=1:=rfl
   rw [h11] at ho
   rw [h1] at hi⊢
   rw [beqT (by rfl),cond_true,Int.toNat_natCast,ho,hs]
   exact hi
theorem bp_loop (w L:Nat) (hw:w≤62) (hL:L<1000000) (hk:w<k) (vs:List Int) (hvs:vs.length<1000000) (hr:∀v,v∈vs→0≤v∧v<2^w) (hb:vs.length*w≤8*L):∀(post pre:List Int) (n:Nat),vs=pre++post→post.length<n→
 spec_BitsPack.l6 k n vs (w:Int) (pre.length:Int) (leB L (packV w pre))=some (((),true),leB L (packV w vs)):=by
 intro post
 induction post with
 |nil=>
  intro pre n hv hn
  obtain ⟨n,rfl⟩:∃x,n=x+1:=⟨n-1,by omega⟩
  have:vs=pre:=by simpa using hv
  subst this
  simp only [spec_BitsPack.l6,decide_eq_false (show ¬(vs.length:Int)<(vs.length:Int) by omega),cond_false]
 |cons v post ih=>
  intro pre n hv hn
  simp only [List.length_cons] at hn
  obtain ⟨n,rfl⟩:∃x,n=x+1:=⟨n-1,by omega⟩
  have hlen:vs.length=pre.length+(post.length+1):=by rw [hv];simp
  have hg:rdL vs (pre.length:Int)=some v:=by rw [hv,rdL_nat,List.getElem?_append_right (Nat.le_refl _)];simp
  obtain ⟨v0,v1⟩:=hr v (by rw [hv];simp)
  have hM:=packN_lt w (pre.map u64)
  rw [List.length_map] at hM
  have hmul:pre.length*w+w≤vs.length*w:=by
   have:(pre.length+1)*w≤vs.length*w:=Nat.mul_le_mul_right _ (by omega)
   rw [Nat.add_mul,Nat.one_mul] at this
   exact this
  have hi:=bp_inner k (spec_BitsPack.l6 k n) vs v w pre.length (pre.length*w) L (packV w pre) (by omega) (by simp) (by omega) hL (by omega) hM hg w k 0 (by omega) hk
  simp only [Nat.pow_zero,Nat.mod_one,Nat.zero_mul,Nat.add_zero] at hi
  have hsh:shrI .i64 v (w:Int)=0:=by
   rw [shrI_eq .i64 v w (show w≤64 by omega)]
   exact Int.ediv_eq_zero_of_lt v0 v1
  simp only [spec_BitsPack.l6,decide_eq_true (show (pre.length:Int)<(vs.length:Int) by omega),cond_true,hg,Option.bind_some,decide_eq_false (show ¬v<0 by omega),cond_false,decide_eq_true (show (0:Int)≤(w:Int) by omega),hsh,show ((0:Int) !=0)=false from rfl]
  have h0:((0:Nat):Int)=0:=rfl
  rw [h0] at hi
  rw [hi]
  have:=ih (pre++[v]) n (by rw [hv];simp) (by omega)
  rw [List.length_append,List.length_singleton] at this
  rw [←this]
  unfold packV
  rw [List.map_append,List.map_singleton,packN_snoc,List.length_map]
theorem bitsPack_ok (vs:List Int) (w:Nat) (hw:w≤62) (hvs:vs.length≤2000) (hr:∀v,v∈vs→0≤v∧v<2^w) (hk:vs.length<k) (hk2:w<k):spec_BitsPack k vs (w:Int)=some (((),true),packB w vs):=by
 obtain ⟨h1,h2,h3⟩:=len8 (n:=vs.length) (w:=w) (by omega) (by omega)
 unfold spec_BitsPack spec_BitsSize
 simp only [l1In_eq,Option.bind_some,cst,decide_eq_true (show (0:Int)≤(vs.length:Int) by omega),decide_eq_true (show (vs.length:Int)≤2000 by omega),decide_eq_true (show (0:Int)≤(w:Int) by omega),decide_eq_true (show (w:Int)≤62 by omega),Bool.and_self,Bool.not_true,Bool.or_self,cond_false,h1,decide_eq_false (show ¬((bytesOf vs.length w:Nat):Int)<0 by omega)]
 rw [okLen_ok (by omega) (by omega),cond_true,Int.toNat_natCast,←leB_zero]
 exact bp_loop k w _ hw h2 hk2 vs (by omega) hr h3 vs [] k rfl hk
theorem leB_succ (n M:Nat):leB (n+1) M=leB n M++[((M/256^n%256:Nat):Int)]:=by
 unfold leB
 rw [List.range_succ,List.map_append,List.map_singleton]
theorem shr_byte (v:Int) {i:Nat} (hi:i<8):IntKind.wrap .u8 (shrI .i64 v ((8*i:Nat):Int))=((u64 v/256^i%256:Nat):Int):=by
 rw [shrI_eq .i64 v (8*i) (show 8*i≤64 by omega),wu8_eq]
 have hp:(256:Nat)^i=2^(8*i):=by rw [Nat.pow_mul]
 have hpi:((2:Int)^(8*i))=((2^(8*i):Nat):Int):=by simp
 rw [Int.natCast_emod,Int.natCast_ediv,u64_cast,hp,←hpi]
 rcases (show i=0∨i=1∨i=2∨i=3∨i=4∨i=5∨i=6∨i=7 by omega) with rfl|rfl|rfl|rfl|rfl|rfl|rfl|rfl<;>simp<;>omega
theorem wput_loop (v:Int) (n:Nat) (hn:n≤8) (h1:1≤n):∀(m f i:Nat),i+m=n→m<f→
 impl_WordPut.l5 k f v (n:Int) (i:Int) (leB i (u64 v))=some ((),leB n (u64 v))∧spec_WordPut.l3 k f v (n:Int) (i:Int) (leB i (u64 v))=some ((),leB n (u64 v)):=by
 intro m
 induction m with
 |zero=>
  intro f i hi hf
  obtain ⟨f,rfl⟩:∃q,f=q+1:=⟨f-1,by omega⟩
  obtain rfl:i=n:=by omega
  simp only [impl_WordPut.l5,spec_WordPut.l3,decide_eq_false (show ¬(i:Int)<(i:Int) by omega),cond_false,Option.bind_some]
  exact ⟨trivial,trivial⟩
 |succ m ih=>
  intro f i hi hf
  obtain ⟨f,rfl⟩:∃q,f=q+1:=⟨f-1,by omega⟩
  have e2:IntKind.wrap .i64 (8*(i:Int))=((8*i:Nat):Int):=by rw [w64 (by omega) (by omega)];omega
  have e3:IntKind.wrap .i64 ((i:Int)+1)=((i+1:Nat):Int):=by rw [w64 (by omega) (by omega)];omega
  have hr:(decide ((1:Int)≤(n:Int))&&decide ((n:Int)≤8))=true:=by simp;omega
  simp only [impl_WordPut.l5,spec_WordPut.l3,l1In_eq,hr,decide_eq_true (show (i:Int)<(n:Int) by omega),cond_true,Option.bind_some,e2,e3,decide_eq_true (show (0:Int)≤((8*i:Nat):Int) by omega),shr_byte v (show i<8 by omega),lim_ok (show (leB i (u64 v)).length+[((u64 v/256^i%256:Nat):Int)].length≤4294967296 by rw [leB_len];simp;omega),←leB_succ]
  exact ih f (i+1) (by omega) (by omega)
theorem wordPut_eq (hk:100≤k) (v:Int) (n:Nat) (hn:n≤8) (h1:1≤n):impl_WordPut k v (n:Int)=some ((),leB n (u64 v))∧spec_WordPut k v (n:Int)=some ((),leB n (u64 v)):=by
 obtain ⟨a,b⟩:=wput_loop k v n hn h1 n k 0 (by omega) (by omega)
 have hr:(decide ((1:Int)≤(n:Int))&&decide ((n:Int)≤8))=true:=by simp;omega
 unfold impl_WordPut spec_WordPut
 simp only [within_eq,hr,Option.bind_some,Bool.not_true,cond_false]
 exact ⟨a,b⟩
end Go.Law
end
section
set_option linter.unusedVariables false
set_option linter.unusedSimpArgs false
namespace Go.Law
open Go.Am Go.Fn
variable (k:Nat)
def tyOk (t:Int):Bool:=t==0||t==1||t==2||t==5||t==6
theorem l5Type_eq (t:Int):spec_l5Type k t=some (tyOk t):=by
 unfold spec_l5Type spec_l5Type.c7 tyOk
 by_cases h0:t=0
 ·subst h0;simp
 by_cases h1:t=1
 ·subst h1;simp
 by_cases h2:t=2
 ·subst h2;simp
 by_cases h5:t=5
 ·subst h5;simp
 by_cases h6:t=6
 ·subst h6;simp
 simp [beqF h0,beqF h1,beqF h2,beqF h5,beqF h6,h0,h1,h2,h5,h6]
theorem typeOk_eq (t:Int):impl_TypeOk k t=some (tyOk t):=by
 unfold impl_TypeOk tyOk
 simp only [within_eq,Option.bind_some,cst]
 congr 1
 by_cases h:0≤t∧t≤2
 ·rw [decide_eq_true h.1,decide_eq_true h.2]
  rcases (show t=0∨t=1∨t=2 by omega) with rfl|rfl|rfl<;>rfl
 ·have:(decide (0≤t)&&decide (t≤2))=false:=by
   rw [Bool.eq_false_iff];intro hh
   simp only [Bool.and_eq_true,decide_eq_true_eq] at hh
   exact h hh
  rw [this,beqF (show ¬t=0 by omega),beqF (show ¬t=1 by omega),beqF (show ¬t=2 by omega)]
  rfl
end Go.Law
end
section
set_option linter.unusedVariables false
set_option linter.unusedSimpArgs false
namespace Go.Law
open Go.Am Go.Fn
variable (k:Nat)
def vok (t:Int) (v:TVal):Bool:=
 if t=0 then (decide (0≤v.1)&&decide (v.1≤1))&&eqS v.2.1 ⟨#[]⟩
 else if t=1 then (decide (-2147483648≤v.1)&&decide (v.1≤2147483647))&&eqS v.2.1 ⟨#[]⟩
 else if t=2∨t=5 then eqS v.2.1 ⟨#[]⟩
 else if t=6 then v.1==0&&decide ((v.2.1.size:Int)≤40)
 else false
theorem valOk_eq (t:Int) (v:TVal):impl_ValOk k t v=some (vok t v):=by
 unfold impl_ValOk impl_ValOk.c8 impl_isInt32 vok
 by_cases h0:t=0
 ·subst h0
  simp only [within_eq,beqT rfl,cond_true,Option.bind_some,csf,if_true]
 by_cases h1:t=1
 ·subst h1
  simp only [within_eq,beqF h0,beqT rfl,cond_true,cond_false,Option.bind_some,csf,if_neg h0,if_true]
 by_cases h2:t=2
 ·subst h2
  simp only [beqF h0,beqF h1,beqT rfl,cond_true,cond_false,if_neg h0,if_neg h1,true_or,if_true]
 by_cases h5:t=5
 ·subst h5
  simp only [beqF h0,beqF h1,beqF h2,beqT rfl,cond_true,cond_false,if_neg h0,if_neg h1,or_true,if_true]
 by_cases h6:t=6
 ·subst h6
  simp only [beqF h0,beqF h1,beqF h2,beqF h5,beqT rfl,cond_true,cond_false,if_neg h0,if_neg h1,Option.bind_some,csf,if_true]
  rw [if_neg (by decide)]
 ·simp only [beqF h0,beqF h1,beqF h2,beqF h5,beqF h6,cond_true,cond_false,if_neg h0,if_neg h1,Option.bind_some,csf,if_neg h6]
  rw [if_neg (by omega)]
  rfl
theorem svalOk_eq (t:Int) (v:TVal):spec_ValOk k t v=some (vok t v):=by
 unfold spec_ValOk spec_ValOk.c8 spec_l4Int vok
 by_cases h0:t=0
 ·subst h0
  simp only [l1In_eq,beqT rfl,cond_true,Option.bind_some,csf,if_true]
 by_cases h1:t=1
 ·subst h1
  simp only [l1In_eq,beqF h0,beqT rfl,cond_true,cond_false,Option.bind_some,csf,if_neg h0,if_true]
 by_cases h2:t=2
 ·subst h2
  simp only [beqF h0,beqF h1,beqT rfl,cond_true,cond_false,if_neg h0,if_neg h1,true_or,if_true]
 by_cases h5:t=5
 ·subst h5
  simp only [beqF h0,beqF h1,beqF h2,beqT rfl,cond_true,cond_false,if_neg h0,if_neg h1,or_true,if_true]
 by_cases h6:t=6
 ·subst h6
  simp only [beqF h0,beqF h1,beqF h2,beqF h5,beqT rfl,cond_true,cond_false,if_neg h0,if_neg h1,Option.bind_some,csf,if_true]
  rw [if_neg (by decide)]
 ·simp only [beqF h0,beqF h1,beqF h2,beqF h5,beqF h6,cond_true,cond_false,if_neg h0,if_neg h1,Option.bind_some,csf,if_neg h6]
  rw [if_neg (by omega)]
end Go.Law
end
section
set_option linter.unusedVariables false
set_option linter.unusedSimpArgs false
namespace Go.Law
open Go.Am Go.Fn
variable (k:Nat)
theorem valsLoop (t:Int) (l:List TVal) (hl:l.length<1000000000):∀(post pre:List TVal) (n n':Nat),l=pre++post→post.length<n→post.length<n'→
 impl_valsOk.l2 k n t l l (l.length:Int) (pre.length:Int)=some (post.all (vok t)&&(decide ((l.length:Int)≤2000)&&tyOk t))∧spec_l6Vals.l4 k n' t l (pre.length:Int)=some (post.all (vok t)):=by
 intro post
 induction post with
 |nil=>
  intro pre n n' hl' hn hn'
  obtain ⟨n,rfl⟩:∃m,n=m+1:=⟨n-1,by omega⟩
  obtain ⟨n',rfl⟩:∃m,n'=m+1:=⟨n'-1,by omega⟩
  have:l=pre:=by simpa using hl'
  subst this
  simp only [impl_valsOk.l2,spec_l6Vals.l4,decide_eq_false (show ¬(l.length:Int)<(l.length:Int) by omega),cond_false,typeOk_eq,Option.bind_some,csf,List.all_nil,Bool.true_and]
  exact ⟨trivial,trivial⟩
 |cons x post ih=>
  intro pre n n' hl' hn hn'
  simp only [List.length_cons] at hn hn'
  obtain ⟨n,rfl⟩:∃m,n=m+1:=⟨n-1,by omega⟩
  obtain ⟨n',rfl⟩:∃m,n'=m+1:=⟨n'-1,by omega⟩
  have hlen:l.length=pre.length+(post.length+1):=by rw [hl'];simp
  have hg:rdL l (pre.length:Int)=some x:=by rw [hl'];exact getMid _ _ _
  have hi:=ih (pre++[x]) n n' (by rw [hl'];simp) (by omega) (by omega)
  rw [List.length_append,List.length_singleton] at hi
  simp only [impl_valsOk.l2,spec_l6Vals.l4,decide_eq_true (show (pre.length:Int)<(l.length:Int) by omega),cond_true,hg,Option.bind_some,valOk_eq,svalOk_eq,List.all_cons]
  rw [w64 (by omega) (by omega),show ((pre.length:Int)+1)=((pre.length+1:Nat):Int) by omega]
  cases hv:vok t x with
  |false=>exact ⟨rfl,rfl⟩
  |true=>
   simp only [Bool.not_true,cond_false,Bool.true_and]
   exact hi
def vsOk (t:Int) (l:List TVal):Bool:=l.all (vok t)&&(decide ((l.length:Int)≤2000)&&tyOk t)
theorem vsOk_eq (t:Int) (l:List TVal) (hl:l.length<1000000000) (hk:l.length<k):impl_valsOk k t l=some (vsOk t l)∧spec_l6Vals k t l=some (vsOk t l):=by
 obtain ⟨h1,h2⟩:=valsLoop k t l hl l [] k k rfl hk hk
 rw [List.length_nil,show ((0:Nat):Int)=0 from rfl] at h1 h2
 unfold impl_valsOk spec_l6Vals vsOk
 refine ⟨h1,?_⟩
 simp only [l5Type_eq,Option.bind_some,cst]
 by_cases hl2:(l.length:Int)≤2000
 ·rw [decide_eq_false (show ¬(l.length:Int)>2000 by omega),decide_eq_true hl2]
  cases tyOk t with
  |false=>simp
  |true=>simp [h2]
 ·rw [decide_eq_true (show (l.length:Int)>2000 by omega),decide_eq_false hl2]
  simp
end Go.Law
end
section
set_option linter.unusedVariables false
set_option linter.unusedSimpArgs false
namespace Go.Law
open Go.Am Go.Fn
variable (k:Nat)
def plB (t:Int) (v:TVal):List Int:=
 if t=6 then leB 4 (u64 (v.2.1.size:Int))++strInts v.2.1 else if t=1 then leB 4 (u64 v.1) else leB 8 (u64 v.1)
def plL (t:Int) (l:List TVal):List Int:=
 if t=0 then packB 1 (l.map (·.1)) else (l.map (plB t)).flatten
theorem vok_cases {t:Int} {v:TVal} (h:vok t v=true):(t=0∧0≤v.1∧v.1≤1∧v.2.1=⟨#[]⟩)∨(t=1∧-2147483648≤v.1∧v.1≤2147483647∧v.2.1=⟨#[]⟩)∨((t=2∨t=5)∧v.2.1=⟨#[]⟩)∨(t=6∧v.1=0∧v.2.1.size≤40):=by
 unfold vok at h
 by_cases h0:t=0
 ·subst h0
  rw [if_pos rfl,eqS_iff] at h
  simp at h
  exact .inl ⟨rfl,h.1.1,h.1.2,h.2⟩
 by_cases h1:t=1
 ·subst h1
  rw [if_neg (by decide),if_pos rfl,eqS_iff] at h
  simp at h
  exact .inr (.inl ⟨rfl,h.1.1,h.1.2,h.2⟩)
 by_cases h2:t=2∨t=5
 ·rw [if_neg h0,if_neg h1,if_pos h2,eqS_iff] at h
  simp at h
  exact .inr (.inr (.inl ⟨h2,h⟩))
 by_cases h6:t=6
 ·subst h6
  rw [if_neg h0,if_neg h1,if_neg h2,if_pos rfl] at h
  simp at h
  exact .inr (.inr (.inr ⟨rfl,h.1,by omega⟩))
 ·rw [if_neg h0,if_neg h1,if_neg h2,if_neg h6] at h
  cases h
theorem vsOk_iff {t:Int} {l:List TVal}:vsOk t l=true↔(∀v,v∈l→vok t v=true)∧l.length≤2000∧tyOk t=true:=by
 unfold vsOk
 simp only [Bool.and_eq_true,List.all_eq_true,decide_eq_true_eq]
 constructor
 ·intro ⟨a,b,c⟩;exact ⟨a,by omega,c⟩
 ·intro ⟨a,b,c⟩;exact ⟨a,by omega,c⟩
theorem plB_len {t:Int} {v:TVal} (h:vok t v=true):(plB t v).length≤44:=by
 unfold plB
 rcases vok_cases h with ⟨rfl,_⟩|⟨rfl,_⟩|⟨ht|ht,_⟩|⟨rfl,_,h3⟩
 ·rw [if_neg (by decide),if_neg (by decide),leB_len];omega
 ·rw [if_neg (by decide),if_pos rfl,leB_len];omega
 ·subst ht;rw [if_neg (by decide),if_neg (by decide),leB_len];omega
 ·subst ht;rw [if_neg (by decide),if_neg (by decide),leB_len];omega
 ·rw [if_pos rfl,List.length_append,leB_len,strInts_length];omega
theorem nums_loop (l:List TVal) (hl:l.length<1000000000):∀(post pre:List TVal) (n:Nat),l=pre++post→post.length<n→
 impl_numsOf.l3 k n l (l.length:Int) (pre.length:Int) (pre.map (·.1))=some ((),l.map (·.1)):=by
 intro post
 induction post with
 |nil=>
  intro pre n hv hn
  obtain ⟨n,rfl⟩:∃x,n=x+1:=⟨n-1,by omega⟩
  have:l=pre:=by simpa using hv
  subst this
  simp only [impl_numsOf.l3,decide_eq_false (show ¬(l.length:Int)<(l.length:Int) by omega),cond_false]
 |cons v post ih=>
  intro pre n hv hn
  simp only [List.length_cons] at hn
  obtain ⟨n,rfl⟩:∃x,n=x+1:=⟨n-1,by omega⟩
  have hlen:l.length=pre.length+(post.length+1):=by rw [hv];simp
  have hg:rdL l (pre.length:Int)=some v:=by rw [hv];exact getMid pre post v
  have:=ih (pre++[v]) n (by rw [hv];simp) (by omega)
  rw [List.length_append,List.length_singleton,List.map_append] at this
  simp only [impl_numsOf.l3,decide_eq_true (show (pre.length:Int)<(l.length:Int) by omega),cond_true,hg,Option.bind_some,lim_ok (show (pre.map (·.1)).length+[v.1].length≤4294967296 by simp;omega),w64 (x:=(pre.length:Int)+1) (by omega) (by omega)]
  exact this
theorem pk_loop (hk:100≤k) (t:Int) (l:List TVal) (h:vsOk t l=true) (ht:t≠0):∀(post pre:List TVal) (n:Nat) (o:List Int),l=pre++post→post.length<n→o.length≤44*pre.length→
 impl_PlainPack.l7 k n t l (l.length:Int) (pre.length:Int) o=some (((),true),o++(post.map (plB t)).flatten)∧
 spec_PlainPack.l6 k n t l (pre.length:Int) o []=some (((),true),o++(post.map (plB t)).flatten):=by
 obtain ⟨hv,hl,hty⟩:=vsOk_iff.1 h
 intro post
 induction post with
 |nil=>
  intro pre n o hp hn ho
  obtain ⟨n,rfl⟩:∃x,n=x+1:=⟨n-1,by omega⟩
  have:l=pre:=by simpa using hp
  subst this
  simp only [impl_PlainPack.l7,spec_PlainPack.l6,decide_eq_false (show ¬(l.length:Int)<(l.length:Int) by omega),cond_false,beqF ht]
  simp
 |cons v post ih=>
  intro pre n o hp hn ho
  simp only [List.length_cons] at hn
  obtain ⟨n,rfl⟩:∃x,n=x+1:=⟨n-1,by omega⟩
  have hlen:l.length=pre.length+(post.length+1):=by rw [hp];simp
  have hg:rdL l (pre.length:Int)=some v:=by rw [hp];exact getMid pre post v
  have hvv:vok t v=true:=hv v (by rw [hp];simp)
  have hbl:=plB_len hvv
  obtain ⟨i1,i2⟩:=ih (pre++[v]) n (o++plB t v) (by rw [hp];simp) (by omega) (by simp;omega)
  rw [List.length_append,List.length_singleton] at i1 i2
  have w4:∀x:Int,impl_WordPut k x 4=some ((),leB 4 (u64 x))∧spec_WordPut k x 4=some ((),leB 4 (u64 x)):=fun x=>wordPut_eq k hk x 4 (by omega) (by omega)
  have w8':∀x:Int,impl_WordPut k x 8=some ((),leB 8 (u64 x))∧spec_WordPut k x 8=some ((),leB 8 (u64 x)):=fun x=>wordPut_eq k hk x 8 (by omega) (by omega)
  have hs:([]:List Int)=[]:=rfl
  simp only [impl_PlainPack.l7,spec_PlainPack.l6,decide_eq_true (show (pre.length:Int)<(l.length:Int) by omega),cond_true,hg,Option.bind_some,beqF ht,cond_false]
  rw [List.map_cons,List.flatten_cons,←List.append_assoc]
  rcases vok_cases hvv with ⟨h0,_⟩|⟨rfl,_⟩|⟨h25,_⟩|⟨rfl,_,h3⟩
  ·exact absurd h0 ht
  ·have e:plB 1 v=leB 4 (u64 v.1):=by unfold plB;rw [if_neg (by decide),if_pos rfl]
   rw [e] at i1 i2⊢
   simp only [show ((1:Int)==6)=false from rfl,show ((1:Int)==1)=true from rfl,cond_true,cond_false,impl_PlainPack.d11,impl_wideOf,Option.bind_some,(w4 _).1,(w4 _).2,lim_ok (show o.length+(leB 4 (u64 v.1)).length≤4294967296 by rw [leB_len];omega),impl_PlainPack.c12,spec_PlainPack.c7,w64 (x:=(pre.length:Int)+1) (by omega) (by omega)]
   exact ⟨i1,i2⟩
  ·have e:plB t v=leB 8 (u64 v.1):=by unfold plB;rw [if_neg (by omega),if_neg (by omega)]
   have ew:impl_wideOf k t=some 8:=by rcases h25 with rfl|rfl<;>rfl
   rw [e] at i1 i2⊢
   simp only [beqF (show ¬t=6 by omega),beqF (show ¬t=1 by omega),cond_true,cond_false,impl_PlainPack.d11,ew,Option.bind_some,(w8' _).1,(w8' _).2,lim_ok (show o.length+(leB 8 (u64 v.1)).length≤4294967296 by rw [leB_len];omega),impl_PlainPack.c12,spec_PlainPack.c7,w64 (x:=(pre.length:Int)+1) (by omega) (by omega)]
   exact ⟨i1,i2⟩
  ·have e:plB 6 v=leB 4 (u64 (v.2.1.size:Int))++strInts v.2.1:=by unfold plB;rw [if_pos rfl]
   rw [e,←List.append_assoc] at i1 i2
   rw [e,←List.append_assoc]
   simp only [show ((6:Int)==6)=true from rfl,show ((6:Int)==1)=false from rfl,cond_true,cond_false,impl_PlainPack.d10,Option.bind_some,(w4 _).1,(w4 _).2,lim_ok (show o.length+(leB 4 (u64 (v.2.1.size:Int))).length≤4294967296 by rw [leB_len];omega),
    lim_ok (show (o++leB 4 (u64 (v.2.1.size:Int))).length+(strInts v.2.1).length≤4294967296 by rw [List.length_append,leB_len,strInts_length];omega),impl_PlainPack.c12,spec_PlainPack.c7,w64 (x:=(pre.length:Int)+1) (by omega) (by omega)]
   exact ⟨i1,i2⟩
theorem pk_bits (l:List TVal) (h:vsOk 0 l=true):∀(post pre:List TVal) (n:Nat),l=pre++post→post.length<n→
 spec_PlainPack.l6 k n 0 l (pre.length:Int) [] (pre.map (·.1))=(spec_BitsPack k (l.map (·.1)) 1).bind fun r5=>some (((),r5.1.2),r5.2):=by
 obtain ⟨hv,hl,hty⟩:=vsOk_iff.1 h
 intro post
 induction post with
 |nil=>
  intro pre n hp hn
  obtain ⟨n,rfl⟩:∃x,n=x+1:=⟨n-1,by omega⟩
  have:l=pre:=by simpa using hp
  subst this
  simp only [spec_PlainPack.l6,decide_eq_false (show ¬(l.length:Int)<(l.length:Int) by omega),cond_false,show ((0:Int)==0)=true from rfl,cond_true]
 |cons v post ih=>
  intro pre n hp hn
  simp only [List.length_cons] at hn
  obtain ⟨n,rfl⟩:∃x,n=x+1:=⟨n-1,by omega⟩
  have hlen:l.length=pre.length+(post.length+1):=by rw [hp];simp
  have hg:rdL l (pre.length:Int)=some v:=by rw [hp];exact getMid pre post v
  have i1:=ih (pre++[v]) n (by rw [hp];simp) (by omega)
  rw [List.length_append,List.length_singleton,List.map_append] at i1
  simp only [spec_PlainPack.l6,decide_eq_true (show (pre.length:Int)<(l.length:Int) by omega),cond_true,hg,Option.bind_some,show ((0:Int)==0)=true from rfl,lim_ok (show (pre.map (·.1)).length+[v.1].length≤4294967296 by simp;omega),spec_PlainPack.c7,w64 (x:=(pre.length:Int)+1) (by omega) (by omega)]
  exact i1
theorem plainPack_eq (hk:3000≤k) (t:Int) (l:List TVal) (hl:l.length<1000000000) (hlk:l.length<k):
 impl_PlainPack k t l=some (((),vsOk t l),if vsOk t l then plL t l else [])∧spec_PlainPack k t l=some (((),vsOk t l),if vsOk t l then plL t l else []):=by
 obtain ⟨o1,o2⟩:=vsOk_eq k t l hl hlk
 unfold impl_PlainPack spec_PlainPack
 simp only [o1,o2,Option.bind_some]
 cases h:vsOk t l with
 |false=>exact ⟨rfl,rfl⟩
 |true=>
  obtain ⟨hv,hl2,hty⟩:=vsOk_iff.1 h
  simp only [Bool.not_true,cond_false,if_true]
  unfold plL
  by_cases ht:t=0
  ·subst ht
   have hn:=nums_loop k l hl l [] k rfl hlk
   have hb:=pk_bits k l h l [] k rfl hlk
   have hp:=packed_eq k (l.map (·.1)) 1 (by omega) (by rw [List.length_map];omega) (by rw [List.length_map];omega) (by omega)
   have hs:=bitsPack_ok k (l.map (·.1)) 1 (by omega) (by rw [List.length_map];omega) (by
    intro x hx
    obtain ⟨v,hv',rfl⟩:=List.mem_map.1 hx
    rcases vok_cases (hv v hv') with ⟨_,a,b,_⟩|⟨h0,_⟩|⟨h0,_⟩|⟨h0,_⟩
    ·omega
    ·cases h0
    ·omega
    ·cases h0) (by rw [List.length_map];omega) (by omega)
   rw [List.length_nil,List.map_nil,show ((0:Nat):Int)=0 from rfl] at hn hb
   rw [show ((1:Nat):Int)=1 from rfl] at hp hs
   unfold impl_numsOf
   simp only [show ((0:Int)==0)=true from rfl,cond_true,hn,Option.bind_some,hp,hb,hs,if_true]
   exact ⟨trivial,trivial⟩
  ·obtain ⟨i1,i2⟩:=pk_loop k (by omega) t l h ht l [] k [] rfl hlk (by simp)
   rw [List.length_nil,show ((0:Nat):Int)=0 from rfl,List.nil_append] at i1 i2
   simp only [beqF ht,cond_false,if_neg ht]
   exact ⟨i1,i2⟩
end Go.Law
end
section
set_option linter.unusedVariables false
set_option linter.unusedSimpArgs false
namespace Go.Law
open Go.Am Go.Fn
variable (k:Nat)
theorem word_any (hk:100≤k) (b:List Int) (hb:b.length<1000000000000000) (hby:Byts b) (at_:Int) (ha:I64 at_) (n:Nat) (hn:n≤8) (h1:1≤n):
 ∃v nx ok,impl_WordGet k b at_ (n:Int)=some (v,nx,ok)∧spec_WordGet k b at_ (n:Int)=some (v,nx,ok)∧I64 v∧(ok=false→v=0∧nx=0)∧
  (ok=true→0≤at_∧nx=at_+(n:Int)∧nx≤(b.length:Int)∧(n≤4→0≤v∧v<4294967296)):=by
 have hr:(decide ((1:Int)≤(n:Int))&&decide ((n:Int)≤8))=true:=by simp;omega
 unfold impl_WordGet spec_WordGet
 simp only [within_eq,l1In_eq,hr,Option.bind_some,Bool.not_true,cond_false,cst,Bool.false_or]
 have hi:=ha.1
 have hi':=ha.2
 have e1:IntKind.wrap .i64 ((b.length:Int)-(n:Int))=(b.length:Int)-n:=w64 (by omega) (by omega)
 rw [e1]
 by_cases h0:at_<0
 ·simp only [decide_eq_true h0,Bool.true_or,cond_true]
  exact ⟨0,0,false,rfl,rfl,⟨by decide,by decide⟩,fun _=>⟨rfl,rfl⟩,fun h=>by cases h⟩
 obtain ⟨p,rfl⟩:∃m:Nat,at_=m:=⟨at_.toNat,by omega⟩
 simp only [decide_eq_false h0,Bool.false_or]
 by_cases h2:(p:Int)>(b.length:Int)-n
 ·have:(decide ((p:Int)>(b.length:Int))||decide (IntKind.wrap .i64 ((b.length:Int)-(p:Int))<(n:Int)))=true:=by
   by_cases hp:(p:Int)>(b.length:Int)
   ·simp [hp]
   ·rw [w64 (by omega) (by omega),decide_eq_true (show (b.length:Int)-(p:Int)<(n:Int) by omega),Bool.or_true]
  simp only [decide_eq_true h2,this,cond_true]
  exact ⟨0,0,false,rfl,rfl,⟨by decide,by decide⟩,fun _=>⟨rfl,rfl⟩,fun h=>by cases h⟩
 ·have e2:IntKind.wrap .i64 ((b.length:Int)-(p:Int))=(b.length:Int)-p:=w64 (by omega) (by omega)
  simp only [decide_eq_false h2,e2,decide_eq_false (show ¬(p:Int)>(b.length:Int) by omega),decide_eq_false (show ¬(b.length:Int)-(p:Int)<(n:Int) by omega),Bool.or_self,cond_false]
  obtain ⟨l1,l2⟩:=word_loop k b p n hn (by omega) (by omega) hby n k 0 0 (by omega) (by omega) (by simp)
  rw [show IntKind.wrap .i64 ((0:Nat):Int)=0 by decide,show ((0:Nat):Int)=0 from rfl] at l1 l2
  simp only [Nat.zero_add,Nat.add_zero,Nat.mul_zero,Nat.pow_zero,Nat.mul_one] at l1 l2
  refine ⟨_,_,_,l2,l1,⟨w64_lo _,w64_hi _⟩,(fun h=>by cases h),fun _=>⟨by omega,by omega,by omega,?_⟩⟩
  intro h4
  have hlt:=wv_lt ((b.drop p).take n) (fun x hx=>hby x (List.mem_of_mem_drop (List.mem_of_mem_take hx)))
  have hlen:((b.drop p).take n).length=n:=by rw [List.length_take,List.length_drop];omega
  rw [hlen] at hlt
  have:2^(8*n)≤2^32:=Nat.pow_le_pow_right (by decide) (by omega)
  rw [w64 (by omega) (by omega)]
  omega
theorem bytes_cut {b:List Int} (hby:Byts b) (i j:Int):∀x,x∈cutL b i j→0≤x∧x<256:=by
 intro x hx
 unfold cutL at hx
 exact hby x (List.mem_of_mem_take (List.mem_of_mem_drop hx))
theorem plOne_any (hk:100≤k) (t:Int) (ht:t=1∨t=2∨t=5∨t=6) (b:List Int) (hb:b.length<1000000000000000) (hby:Byts b) (at_:Int) (ha:I64 at_):
 ∃v nx ok,impl_plainOne k t b at_=some (v,nx,ok)∧spec_l7One k t b at_=some (v,nx,ok)∧
  (ok=true→vok t v=true∧I64 v.1∧0≤at_∧nx=at_+((plB t v).length:Nat)∧nx≤(b.length:Int)):=by
 obtain ⟨v4,n4,o4,a1,a2,a3,a4,a5⟩:=word_any k hk b hb hby at_ ha 4 (by omega) (by omega)
 obtain ⟨v8,n8,o8,b1,b2,b3,b4,b5⟩:=word_any k hk b hb hby at_ ha 8 (by omega) (by omega)
 rw [show ((4:Nat):Int)=4 from rfl] at a1 a2 a5
 rw [show ((8:Nat):Int)=8 from rfl] at b1 b2 b5
 unfold impl_plainOne spec_l7One
 rcases (show t=1∨(t=2∨t=5)∨t=6 by omega) with rfl|h25|rfl
 ·have hs:∀v:Int,0≤v→v<4294967296→IntKind.wrap .i64 (IntKind.wrap .i32 v)=if v>2147483647 then v-4294967296 else v:=by
   intro v h0 h1
   have:IntKind.wrap .i32 v=if v>2147483647 then v-4294967296 else v:=by
    have h2:v%2^32=v:=Int.emod_eq_of_lt h0 h1
    simp only [IntKind.wrap,IntKind.bits,IntKind.signed,h2,Bool.true_and,decide_eq_true_eq]
    by_cases h:v>2147483647
    ·rw [if_pos h,if_pos (show v≥2^(32-1) by omega)];omega
    ·rw [if_neg h,if_neg (show ¬v≥2^(32-1) by omega)]
   rw [this]
   split<;>exact w64 (by omega) (by omega)
  have hv:0≤v4∧v4<4294967296:=by
   cases o4 with
   |false=>obtain ⟨rfl,_⟩:=a4 rfl;omega
   |true=>exact (a5 rfl).2.2.2 (by omega)
  simp only [show ((1:Int) !=6)=true from rfl,show ((1:Int)==1)=true from rfl,cond_true,impl_wideOf,Option.bind_some,a1,a2,impl_signed,show ((4:Int)==4)=true from rfl,hs v4 hv.1 hv.2,spec_l7One.c6]
  refine ⟨(if v4>2147483647 then v4-4294967296 else v4,(⟨#[]⟩:ByteArray),()),n4,o4,rfl,?_,?_⟩
  ·by_cases h:v4>2147483647
   ·rw [decide_eq_true h,cond_true,if_pos h,w64 (by omega) (by omega)]
   ·rw [decide_eq_false h,cond_false,if_neg h]
  ·intro ho
   obtain ⟨c1,c2,c3,c4⟩:=a5 ho
   have: -2147483648≤(if v4>2147483647 then v4-4294967296 else v4)∧(if v4>2147483647 then v4-4294967296 else v4)≤2147483647:=by split<;>omega
   refine ⟨?_,⟨by omega,by omega⟩,c1,(by unfold plB;rw [if_neg (by decide),if_pos rfl,leB_len];omega),c3⟩
   unfold vok
   rw [if_neg (by decide),if_pos rfl]
   simp [this,eqS_iff]
 ·have e6:(t !=6)=true:=by rcases h25 with rfl|rfl<;>rfl
  have ew:impl_wideOf k t=some 8:=by rcases h25 with rfl|rfl<;>rfl
  simp only [e6,cond_true,ew,Option.bind_some,b1,b2,impl_signed,show ((8:Int)==4)=false from rfl,cond_false,beqF (show ¬t=1 by omega),beqF (show ¬t=6 by omega)]
  refine ⟨_,_,_,rfl,rfl,?_⟩
  intro ho
  obtain ⟨c1,c2,c3,c4⟩:=b5 ho
  refine ⟨?_,b3,c1,(by unfold plB;rw [if_neg (by omega),if_neg (by omega),leB_len];omega),c3⟩
  unfold vok
  rw [if_neg (by omega),if_neg (by omega),if_pos h25]
  simp [eqS_iff]
 ·simp only [show ((6:Int) !=6)=false from rfl,show ((6:Int)==1)=false from rfl,show ((6:Int)==6)=true from rfl,cond_true,cond_false,a1,a2,Option.bind_some,cst]
  cases o4 with
  |false=>
   simp only [Bool.not_false,Bool.true_or,cond_true]
   exact ⟨_,_,_,rfl,rfl,fun h=>by cases h⟩
  |true=>
   obtain ⟨c1,c2,c3,c4⟩:=a5 rfl
   have c4:=c4 (by omega)
   have e:IntKind.wrap .i64 ((b.length:Int)-n4)=(b.length:Int)-n4:=w64 (by omega) (by omega)
   simp only [Bool.not_true,Bool.false_or,e]
   by_cases hx:v4>40∨v4>(b.length:Int)-n4
   ·have:(decide (v4>40)||decide (v4>(b.length:Int)-n4))=true:=by rcases hx with hx|hx<;>simp [hx]
    simp only [this,cond_true]
    exact ⟨_,_,_,rfl,rfl,fun h=>by cases h⟩
   ·have h1:¬v4>40:=fun h=>hx (.inl h)
    have h2:¬v4>(b.length:Int)-n4:=fun h=>hx (.inr h)
    have e3:IntKind.wrap .i64 (n4+v4)=n4+v4:=w64 (by omega) (by omega)
    simp only [decide_eq_false h1,decide_eq_false h2,Bool.or_self,cond_false,e3,inSl_ok (show (0:Int)≤n4 by omega) (show n4≤n4+v4 by omega) (show n4+v4≤(b.length:Int) by omega),cond_true]
    refine ⟨_,_,_,rfl,rfl,fun _=>⟨?_,⟨(by decide: -9223372036854775808≤(0:Int)),(by decide:(0:Int)<9223372036854775808)⟩,c1,(by unfold plB cutL;rw [if_pos rfl,List.length_append,leB_len,strInts_length,intsStr_size,List.length_drop,List.length_take];omega),by omega⟩⟩
    unfold vok
    rw [if_neg (by decide),if_neg (by decide),if_neg (by decide),if_pos rfl]
    simp only [show ((0:Int)==0)=true from rfl,Bool.true_and,intsStr_size,decide_eq_true_eq]
    unfold cutL
    rw [List.length_drop,List.length_take]
    omega
structure PlainRes (t:Int) (b:List Int) (at_ many nx:Int) (ok:Bool) (l:List TVal):Prop where
 bad:ok=false→nx=0∨t=0
 ty:ok=true→tyOk t=true
 a0:ok=true→0≤at_
 m0:ok=true→0≤many∧many≤2000
 n0:ok=true→at_≤nx
 n1:ok=true→nx≤(b.length:Int)
 nl:ok=true→nx=at_+(((plL t l).length:Nat):Int)
 len:ok=true→l.length=many.toNat
 vk:ok=true→∀v,v∈l→vok t v=true∧I64 v.1
 short:ok=false→l.length≤2000
theorem rd_loop (hk:100≤k) (t:Int) (ht:t=1∨t=2∨t=5∨t=6) (b:List Int) (hb:b.length<1000000000000000) (hby:Byts b) (many:Nat) (hm:many≤2000):∀(m n i:Nat) (at_:Int) (o:List TVal),i+m=many→m<n→o.length=i→0≤at_→at_≤(b.length:Int)→
 ∃nx ok l,impl_PlainRead.l8 k n t b at_ (many:Int) (i:Int) o=some (((),nx,ok),l)∧spec_PlainRead.l12 k n t b at_ (many:Int) (i:Int) o=some (((),nx,ok),l)∧
  (ok=false→nx=0∧l=[])∧(ok=true→at_≤nx∧nx≤(b.length:Int)∧∃l',l=o++l'∧l'.length=m∧nx=at_+(((l'.map (plB t)).flatten.length:Nat):Int)∧∀v,v∈l'→vok t v=true∧I64 v.1):=by
 intro m
 induction m with
 |zero=>
  intro n i at_ o hi hn ho h0 h1
  obtain ⟨n,rfl⟩:∃x,n=x+1:=⟨n-1,by omega⟩
  obtain rfl:i=many:=by omega
  simp only [impl_PlainRead.l8,spec_PlainRead.l12,decide_eq_false (show ¬(i:Int)<(i:Int) by omega),cond_false]
  exact ⟨_,_,_,rfl,rfl,(fun h=>by cases h),fun _=>⟨by omega,h1,[],by simp,rfl,by simp,by simp⟩⟩
 |succ m ih=>
  intro n i at_ o hi hn ho h0 h1
  obtain ⟨n,rfl⟩:∃x,n=x+1:=⟨n-1,by omega⟩
  obtain ⟨v,nx,ok,e1,e2,e3⟩:=plOne_any k hk t ht b hb hby at_ ⟨by omega,by omega⟩
  simp only [impl_PlainRead.l8,spec_PlainRead.l12,decide_eq_true (show (i:Int)<(many:Int) by omega),cond_true,e1,e2,Option.bind_some]
  cases ok with
  |false=>
   simp only [Bool.not_false,cond_true]
   exact ⟨_,_,_,rfl,rfl,fun _=>⟨rfl,rfl⟩,fun h=>by cases h⟩
  |true=>
   obtain ⟨c1,c2,c3,c4,c5⟩:=e3 rfl
   obtain ⟨nx',ok',l',f1,f2,f3,f4⟩:=ih n (i+1) nx (o++[v]) (by omega) (by omega) (by simp;omega) (by omega) c5
   have e:IntKind.wrap .i64 ((i:Int)+1)=((i+1:Nat):Int):=by rw [w64 (by omega) (by omega)];omega
   simp only [Bool.not_true,cond_false,lim_ok (show o.length+[v].length≤4294967296 by simp;omega),cond_true,e]
   refine ⟨nx',ok',l',f1,f2,f3,?_⟩
   intro ho'
   obtain ⟨g1,g2,l2,g3,g4,g6,g5⟩:=f4 ho'
   refine ⟨by omega,g2,v::l2,by rw [g3];simp,by simp [g4],(by rw [List.map_cons,List.flatten_cons,List.length_append];omega),?_⟩
   intro x hx
   rcases List.mem_cons.1 hx with rfl|hx
   ·exact ⟨c1,c2⟩
   ·exact g5 x hx
theorem vals_loop (l:List Int) (hl:l.length<1000000000):∀(post pre:List Int) (n:Nat),l=pre++post→post.length<n→
 impl_valsOf.l3 k n l (l.length:Int) (pre.length:Int) (pre.map fun x=>((x,(⟨#[]⟩:ByteArray),()):TVal))=some ((),l.map fun x=>((x,(⟨#[]⟩:ByteArray),()):TVal))∧
 ∀nx ok,spec_PlainRead.l7 k n nx ok (pre.length:Int) (pre.map fun x=>((x,(⟨#[]⟩:ByteArray),()):TVal)) l=some (((),nx,ok),l.map fun x=>((x,(⟨#[]⟩:ByteArray),()):TVal)):=by
 intro post
 induction post with
 |nil=>
  intro pre n hv hn
  obtain ⟨n,rfl⟩:∃x,n=x+1:=⟨n-1,by omega⟩
  have:l=pre:=by simpa using hv
  subst this
  simp only [impl_valsOf.l3,spec_PlainRead.l7,decide_eq_false (show ¬(l.length:Int)<(l.length:Int) by omega),cond_false]
  exact ⟨trivial,fun _ _=>trivial⟩
 |cons v post ih=>
  intro pre n hv hn
  simp only [List.length_cons] at hn
  obtain ⟨n,rfl⟩:∃x,n=x+1:=⟨n-1,by omega⟩
  have hlen:l.length=pre.length+(post.length+1):=by rw [hv];simp
  have hg:rdL l (pre.length:Int)=some v:=by rw [hv];exact getMid pre post v
  have:=ih (pre++[v]) n (by rw [hv];simp) (by omega)
  rw [List.length_append,List.length_singleton,List.map_append] at this
  simp only [impl_valsOf.l3,spec_PlainRead.l7,decide_eq_true (show (pre.length:Int)<(l.length:Int) by omega),cond_true,hg,Option.bind_some,lim_ok (show (pre.map fun x=>((x,(⟨#[]⟩:ByteArray),()):TVal)).length+([(v,(⟨#[]⟩:ByteArray),())]:List TVal).length≤4294967296 by simp;omega),w64 (x:=(pre.length:Int)+1) (by omega) (by omega)]
  exact this
theorem tyOk_cases {t:Int} (h:tyOk t=true):t=0∨t=1∨t=2∨t=5∨t=6:=by
 unfold tyOk at h
 simp at h
 omega
theorem plainRead_eq (hk:3000≤k) (t:Int) (b:List Int) (hb:b.length<1000000000000000) (hby:Byts b) (at_ many:Int) (ha:I64 at_):
 ∃nx ok l,impl_PlainRead k t b at_ many=some (((),nx,ok),l)∧spec_PlainRead k t b at_ many=some (((),nx,ok),l)∧PlainRes t b at_ many nx ok l:=by
 unfold impl_PlainRead spec_PlainRead
 simp only [typeOk_eq,l5Type_eq,within_eq,l1In_eq,Option.bind_some,cst]
 by_cases hc:tyOk t=true∧(0≤many∧many≤2000)∧(0≤at_∧at_≤(b.length:Int))
 ·obtain ⟨hty,⟨m0,m1⟩,a0,a1⟩:=hc
  simp only [hty,decide_eq_true m0,decide_eq_true m1,decide_eq_true a0,decide_eq_true a1,Bool.and_self,Bool.not_true,Bool.or_self,cond_false]
  by_cases ht:t=0
  ·subst ht
   obtain ⟨nx,ok,l,e1,e2,e3,e4⟩:=bits_any k hk b hb hby at_ many 1 ha
   have hll:l.length<1000000000∧l.length<k:=by
    cases ok with
    |false=>obtain ⟨_,rfl⟩:=e3 rfl;simp;omega
    |true=>obtain ⟨_,_,_,_,h,_⟩:=e4 rfl;omega
   obtain ⟨v1,v2⟩:=vals_loop k l hll.1 l [] k rfl hll.2
   rw [List.length_nil,List.map_nil,show ((0:Nat):Int)=0 from rfl] at v1 v2
   simp only [show ((0:Int)==0)=true from rfl,cond_true,e1,e2,Option.bind_some,impl_valsOf,v1,v2 nx ok]
   refine ⟨_,_,_,rfl,rfl,⟨fun _=> .inr rfl,fun _=>hty,fun _=>a0,fun _=>⟨m0,m1⟩,?_,?_,?_,?_,?_,fun h=>by rw [(e3 h).2];simp⟩⟩
   ·intro h;obtain ⟨_,_,_,_,_,_,h7,_,_⟩:=e4 h;omega
   ·intro h;obtain ⟨_,_,_,_,_,_,_,h8,_⟩:=e4 h;exact h8
   ·intro h;obtain ⟨_,_,_,_,h5,_,h7,_⟩:=e4 h;rw [h7];unfold plL packB;rw [if_pos rfl,leB_len];simp [h5]
   ·intro h;obtain ⟨_,_,_,_,h5,_⟩:=e4 h;simpa using h5
   ·intro h v hv
    obtain ⟨_,_,_,_,_,_,_,_,h9⟩:=e4 h
    obtain ⟨x,hx,rfl⟩:=List.mem_map.1 hv
    obtain ⟨x0,x1⟩:=h9 x hx
    have x1:x<2:=x1
    refine ⟨?_,⟨by show _≤x;omega,by show x<_;omega⟩⟩
    unfold vok
    rw [if_pos rfl]
    simp only [decide_eq_true x0,decide_eq_true (show x≤1 by omega),eqS_iff]
    simp
  ·obtain ⟨many,rfl⟩:∃m:Nat,many=m:=⟨many.toNat,by omega⟩
   have ht':t=1∨t=2∨t=5∨t=6:=by have:=tyOk_cases hty;omega
   obtain ⟨nx,ok,l,e1,e2,e3,e4⟩:=rd_loop k (by omega) t ht' b hb hby many (by omega) many k 0 at_ [] (by omega) (by omega) rfl a0 a1
   rw [show ((0:Nat):Int)=0 from rfl] at e1 e2
   simp only [beqF ht,cond_false,e1,e2]
   refine ⟨_,_,_,rfl,rfl,⟨fun h=> .inl (e3 h).1,fun _=>hty,fun _=>a0,fun _=>⟨m0,m1⟩,fun h=>(e4 h).1,fun h=>(e4 h).2.1,?_,?_,?_,fun h=>by rw [(e3 h).2];simp⟩⟩
   ·intro h;obtain ⟨_,_,l',rfl,_,h6,_⟩:=e4 h;unfold plL;rw [if_neg ht];simpa using h6
   ·intro h;obtain ⟨_,_,l',rfl,h5,_⟩:=e4 h;simpa using h5
   ·intro h;obtain ⟨_,_,l',rfl,_,_,h6⟩:=e4 h;simpa using h6
 ·have:((!tyOk t|| !(decide (0≤many)&&decide (many≤2000)))|| !(decide (0≤at_)&&decide (at_≤(b.length:Int))))=true:=by
   by_cases a:tyOk t=true<;>by_cases b1:0≤many<;>by_cases c:many≤2000<;>by_cases d:0≤at_<;>by_cases e:at_≤(b.length:Int)<;>simp [a,b1,c,d,e]
   exact hc ⟨a,⟨b1,c⟩,d,e⟩
  simp only [this,cond_true]
  exact ⟨_,_,_,rfl,rfl,⟨fun _=> .inl rfl,nofun,nofun,nofun,nofun,nofun,nofun,nofun,nofun,fun _=>by simp⟩⟩
end Go.Law
end
section
set_option linter.unusedVariables false
set_option linter.unusedSimpArgs false
namespace Go.Law
open Go.Am Go.Fn
variable (k:Nat)
def blenF:Nat→Nat→Nat
 |0,_=>0
 |f+1,u=>if u=0 then 0 else blenF f (u/2)+1
theorem blenF_zero:∀f,blenF f 0=0
 |0=>rfl
 |f+1=>rfl
theorem blenF_le:∀f u,blenF f u≤f
 |0,_=>Nat.le_refl _
 |f+1,u=>by
  have:=blenF_le f (u/2)
  simp only [blenF]
  split<;>omega
theorem blenF_lt:∀f u,u<2^f→u<2^blenF f u
 |0,u,h=>h
 |f+1,u,h=>by
  simp only [blenF]
  split
  ·omega
  ·rw [Nat.pow_succ] at h⊢
   have:=blenF_lt f (u/2) (by omega)
   omega
theorem blenF_more:∀f g u,u<2^f→blenF (f+g) u=blenF f u
 |0,g,u,h=>by
  have:u=0:=by simpa using h
  subst this
  simp [blenF_zero]
 |f+1,g,u,h=>by
  rw [show f+1+g=(f+g)+1 by omega]
  simp only [blenF]
  rw [Nat.pow_succ] at h
  rw [blenF_more f g (u/2) (by omega)]
theorem blenF_shift:∀s f u,2^s≤u→blenF (f+s) u=blenF f (u/2^s)+s
 |0,f,u,_=>by simp
 |s+1,f,u,h=>by
  rw [Nat.pow_succ] at h
  have h0:u≠0:=by have:=Nat.two_pow_pos s;omega
  rw [show f+(s+1)=(f+s)+1 by omega]
  simp only [blenF,h0,if_false]
  rw [blenF_shift s f (u/2) (by omega),Nat.div_div_eq_div_mul,Nat.pow_succ,Nat.mul_comm 2]
  omega
def blen (u:Nat):Nat:=blenF 64 u
theorem shr_nat (kk:IntKind) (a n:Nat) (h:n≤kk.bits):shrI kk (a:Int) (n:Int)=((a/2^n:Nat):Int):=by
 rw [shrI_eq kk _ n h];simp
theorem len_tab0:∀u:Fin 256,bits_Len64.c10 0 ((u.val:Nat):Int) 0=some ((blenF 8 u.val:Nat):Int):=by decide+kernel
theorem len_tab (u:Nat) (hu:u<256) (t2:Nat) (h2:t2<1000):bits_Len64.c10 k (u:Int) (t2:Int)=some ((t2+blenF 8 u:Nat):Int):=by
 have h0:=len_tab0 ⟨u,hu⟩
 have hs:bits_Len64.c10 k (u:Int) (t2:Int)=(bits_Len64.c10 0 (u:Int) 0).bind fun r=>some (IntKind.wrap .i64 ((t2:Int)+r)):=by
  unfold bits_Len64.c10
  rw [Option.bind_assoc]
  congr 1
  funext y
  simp only [Option.bind_some]
  rw [Int.zero_add,w64 (w64_lo y) (w64_hi y)]
 have hb:=blenF_le 8 u
 rw [hs,h0]
 simp only [Option.bind_some]
 rw [w64 (by omega) (by omega)]
 rfl
theorem len64_eq (u:Nat) (hu:u<18446744073709551616):bits_Len64 k (u:Int)=some (blen u:Int):=by
 unfold bits_Len64
 have c7:∀(u t:Nat),u<65536→t<900→bits_Len64.c7 k (u:Int) (t:Int)=some ((t+blenF 16 u:Nat):Int):=by
  intro u t hu ht
  unfold bits_Len64.c7
  by_cases h:256≤u
  ·rw [decide_eq_true (show (u:Int)≥256 by omega),cond_true]
   have:=shr_nat .u64 u 8 (by decide)
   rw [show ((8:Nat):Int)=8 from rfl] at this
   rw [this,w64 (by omega) (by omega)]
   have:=len_tab k (u/2^8) (by simp;omega) (t+8) (by omega)
   rw [show ((t:Int)+8)=((t+8:Nat):Int) by omega,this]
   rw [show (16:Nat)=8+8 by rfl,blenF_shift 8 8 u (by simpa using h)]
   congr 2;omega
  ·rw [decide_eq_false (show ¬(u:Int)≥256 by omega),cond_false,len_tab k u (by omega) t (by omega)]
   have:=blenF_more 8 8 u (by simp;omega)
   rw [this]
 have c4:∀(u t:Nat),u<4294967296→t<800→bits_Len64.c4 k (u:Int) (t:Int)=some ((t+blenF 32 u:Nat):Int):=by
  intro u t hu ht
  unfold bits_Len64.c4
  by_cases h:65536≤u
  ·rw [decide_eq_true (show (u:Int)≥65536 by omega),cond_true]
   have:=shr_nat .u64 u 16 (by decide)
   rw [show ((16:Nat):Int)=16 from rfl] at this
   rw [this,w64 (by omega) (by omega)]
   have:=c7 (u/2^16) (t+16) (by simp;omega) (by omega)
   rw [show ((t:Int)+16)=((t+16:Nat):Int) by omega,this]
   rw [show (32:Nat)=16+16 by rfl,blenF_shift 16 16 u (by simpa using h)]
   congr 2;omega
  ·rw [decide_eq_false (show ¬(u:Int)≥65536 by omega),cond_false,c7 u t (by omega) (by omega)]
   have:=blenF_more 16 16 u (by simp;omega)
   rw [this]
 unfold blen
 by_cases h:4294967296≤u
 ·rw [decide_eq_true (show (u:Int)≥4294967296 by omega),cond_true]
  have:=shr_nat .u64 u 32 (by decide)
  rw [show ((32:Nat):Int)=32 from rfl] at this
  rw [this]
  have:=c4 (u/2^32) 32 (by simp;omega) (by omega)
  rw [show ((32:Nat):Int)=32 from rfl] at this
  rw [this,show (64:Nat)=32+32 by rfl,blenF_shift 32 32 u (by simpa using h)]
  congr 2;omega
 ·rw [decide_eq_false (show ¬(u:Int)≥4294967296 by omega),cond_false]
  have:=c4 u 0 (by omega) (by omega)
  rw [show ((0:Nat):Int)=0 from rfl] at this
  rw [this]
  have:=blenF_more 32 32 u (by simp;omega)
  rw [this]
  simp
theorem wu64 (v:Int):IntKind.wrap .u64 v=(u64 v:Int):=by rw [wu64_eq,u64_cast]
theorem widthOf_eq (v:Int):impl_widthOf k v=some (blen (u64 v):Int):=by
 unfold impl_widthOf
 rw [wu64,len64_eq k _ (u64_lt v)]
 rfl
theorem blen_lt {u:Nat} (h:u<18446744073709551616):u<2^blen u:=blenF_lt 64 u (by simpa using h)
theorem u64_zero:u64 0=0:=by decide
theorem u64_small {v:Int} (h0:0≤v) (h1:v<9223372036854775808):(u64 v:Int)=v:=by rw [u64_cast];omega
theorem down1 (v:Int) (hv:I64 v):spec_l2Down k v 1=some ((u64 v/2:Nat):Int):=by
 unfold spec_l2Down
 rw [beqF (by decide),cond_false,decide_eq_true (by decide),cond_true,show IntKind.wrap .i64 (64-1)=63 by decide,decide_eq_true (by decide),cond_true]
 have h1:shrI .i64 v 1=v/2:=shrI_eq .i64 v 1 (by decide)
 have h2:IntKind.wrap .i64 (shlI .i64 1 63-1)=2^63-1:=by decide
 rw [h1,h2]
 have h3:∀x:Int,bits .and .i64 x (2^63-1)=x%2^63:=by
  intro x
  have hb:(BitVec.ofInt 64 x&&&BitVec.ofInt 64 (2^63-1)).toNat=(x%9223372036854775808).toNat:=by
   have h4:BitVec.ofInt 64 (2^63-1)=BitVec.ofNat 64 (2^63-1):=by decide
   rw [h4,BitVec.toNat_and,BitVec.toNat_ofNat,BitVec.toNat_ofInt]
   rw [show (2^63-1)%2^64=2^63-1 by decide,Nat.and_two_pow_sub_one_eq_mod]
   omega
  show IntKind.wrap .i64 (((BitVec.ofInt 64 x&&&BitVec.ofInt 64 (2^63-1)).toNat:Nat):Int)=_
  rw [hb,Int.toNat_of_nonneg (by omega),w64 (by omega) (by omega)]
  rfl
 rw [h3]
 congr 1
 have:=u64_cast v
 omega
end Go.Law
end
section
set_option linter.unusedVariables false
set_option linter.unusedSimpArgs false
namespace Go.Law
open Go.Am Go.Fn
def isItem (t:Int):Bool:=t==5||t==6||t==8||t==9||t==12
def isKind (t:Int):Bool:=t==1||t==2||isItem t
theorem isType_eq (k:Nat) (t:Int) (b:Bool):impl_isType k t b=some (isItem t||((t==1||t==2)&& !b)):=by
 unfold impl_isType impl_isType.c4 impl_isType.c10 isItem
 by_cases h1:t=1
 ·subst h1;simp
 by_cases h2:t=2
 ·subst h2;simp
 by_cases h5:t=5
 ·subst h5;simp
 by_cases h6:t=6
 ·subst h6;simp
 by_cases h8:t=8
 ·subst h8;simp
 by_cases h9:t=9
 ·subst h9;simp
 by_cases h12:t=12
 ·subst h12;simp
 simp [beqF h1,beqF h2,beqF h5,beqF h6,beqF h8,beqF h9,beqF h12,h1,h2,h5,h6,h8,h9,h12]
theorem l4Kind_eq (k:Nat) (t:Int):spec_l4Kind k t=some (isKind t):=by
 unfold spec_l4Kind spec_l4Kind.c9 isKind isItem
 by_cases h1:t=1
 ·subst h1;simp
 by_cases h2:t=2
 ·subst h2;simp
 by_cases h5:t=5
 ·subst h5;simp
 by_cases h6:t=6
 ·subst h6;simp
 by_cases h8:t=8
 ·subst h8;simp
 by_cases h9:t=9
 ·subst h9;simp
 by_cases h12:t=12
 ·subst h12;simp
 simp [beqF h1,beqF h2,beqF h5,beqF h6,beqF h8,beqF h9,beqF h12,h1,h2,h5,h6,h8,h9,h12]
theorem l4Item_eq (k:Nat) (t:Int):spec_l4Item k t=some (isItem t):=by
 unfold spec_l4Item
 rw [l4Kind_eq]
 simp only [Option.bind_some,csf]
 congr 1
 unfold isKind
 by_cases h1:t=1
 ·subst h1;rfl
 by_cases h2:t=2
 ·subst h2;rfl
 simp [beqF h1,beqF h2,bneT h1,bneT h2]
def nok (n:TNode):Bool:=
 if n.1=5 then (decide (-2147483648≤n.2.2.1)&&decide (n.2.2.1≤2147483647))&&eqS n.2.2.2.1 ⟨#[]⟩&&n.2.2.2.2.1==0
 else if n.1=6 then eqS n.2.2.2.1 ⟨#[]⟩&&n.2.2.2.2.1==0
 else if n.1=8 then n.2.2.1==0&&decide ((n.2.2.2.1.size:Int)≤300)&&n.2.2.2.2.1==0
 else if n.1=9 then eqS n.2.2.2.1 ⟨#[]⟩&&decide (n.2.2.2.2.1≥0)&&((n.2.2.2.2.1==0&&n.2.2.1==0)||(decide (n.2.2.2.2.1>0)&&isItem n.2.2.1))
 else if n.1=12 then n.2.2.1==0&&eqS n.2.2.2.1 ⟨#[]⟩&&decide (n.2.2.2.2.1≥0)
 else (n.1==1||n.1==2)&&n.2.2.1==0&&eqS n.2.2.2.1 ⟨#[]⟩&&n.2.2.2.2.1==0
theorem nodeOk_eq (k:Nat) (n:TNode):impl_nodeOk k n=some (nok n):=by
 unfold impl_nodeOk impl_isInt32 nok
 simp only [within_eq,isType_eq,Option.bind_some,csf,cst]
 by_cases h5:n.1=5
 ·simp [h5]
 by_cases h6:n.1=6
 ·simp [h6]
 by_cases h8:n.1=8
 ·simp [h8]
 by_cases h9:n.1=9
 ·simp [h9]
 by_cases h12:n.1=12
 ·simp [h12]
 simp [beqF h5,beqF h6,beqF h8,beqF h9,beqF h12,h5,h6,h8,h9,h12,isItem]
theorem plain_eq (k:Nat) (n:TNode):spec_l4Plain k n=some (nok n):=by
 unfold spec_l4Plain spec_l4Plain.c4 spec_l4Int nok
 simp only [l1In_eq,l4Item_eq,Option.bind_some,csf,cst]
 by_cases h1:n.1=1
 ·simp [h1]
 by_cases h2:n.1=2
 ·simp [h2]
 by_cases h5:n.1=5
 ·simp [h5]
 by_cases h6:n.1=6
 ·simp [h6]
 by_cases h8:n.1=8
 ·simp [h8]
 by_cases h9:n.1=9
 ·simp [h9]
 by_cases h12:n.1=12
 ·simp [h12]
 simp [beqF h1,beqF h2,beqF h5,beqF h6,beqF h8,beqF h9,beqF h12,h1,h2,h5,h6,h8,h9,h12]
def PartsR (S:Nat→Nat→Prop) (l:List TNode) (n:TNode):Nat→Nat→Int→Nat→Prop
 |0,pos,_,nx=>pos=nx
 |c+1,pos,last,nx=>∃p mid,l[pos]?=some p∧(n.1=9→p.1=n.2.2.1∧p.2.1=0)∧(n.1=12→last+1≤p.2.1∧p.2.1≤1000)∧S pos mid∧PartsR S l n c mid p.2.1 nx
def Sub (l:List TNode) (af:List Int):Nat→Nat→Nat→Prop
 |0,_,_=>False
 |d+1,at_,nx=>∃n,l[at_]?=some n∧nok n=true∧PartsR (Sub l af d) l n n.2.2.2.2.1.toNat (at_+1) 0 nx∧af[at_]?=some (nx:Int)
theorem PartsR_mono {S S':Nat→Nat→Prop} {l:List TNode} {n:TNode} (hS:∀a b,S a b→a<b):∀(c pos:Nat) (last:Int) (nx:Nat),(∀a b,pos≤a→b≤nx→S a b→S' a b)→PartsR S l n c pos last nx→PartsR S' l n c pos last nx∧pos≤nx
 |0,pos,last,nx,h,e=>⟨e,by have e:pos=nx:=e;omega⟩
 |c+1,pos,last,nx,h,⟨p,mid,h1,h2,h3,h4,h5⟩=>by
  have hlt:=hS _ _ h4
  obtain ⟨k1,k2⟩:=PartsR_mono hS c mid p.2.1 nx (fun a b ha hb=>h a b (by omega) hb) h5
  exact ⟨⟨p,mid,h1,h2,h3,h _ _ (Nat.le_refl _) k2 h4,k1⟩,by omega⟩
theorem Sub_lt {l:List TNode} {af:List Int}:∀(d a b:Nat),Sub l af d a b→a<b
 |0,_,_,h=>h.elim
 |d+1,a,b,⟨n,h1,h2,h3,h4⟩=>by
  have:=(PartsR_mono (S':=fun _ _=>True) (Sub_lt d) _ _ _ _ (fun _ _ _ _ _=>trivial) h3).2
  omega
theorem Sub_frame {l:List TNode} {af af':List Int}:∀(d a b:Nat),(∀i,a≤i→i<b→af'[i]?=af[i]?)→Sub l af d a b→Sub l af' d a b
 |0,_,_,_,h=>h.elim
 |d+1,a,b,hf,⟨n,h1,h2,h3,h4⟩=>by
  have hlt:=Sub_lt (d+1) a b ⟨n,h1,h2,h3,h4⟩
  refine ⟨n,h1,h2,(PartsR_mono (Sub_lt d) _ _ _ _ (fun x y hx hy hs=> ?_) h3).1,by rw [hf a (Nat.le_refl _) hlt];exact h4⟩
  exact Sub_frame d x y (fun i hi1 hi2=>hf i (by omega) (by omega)) hs
def WfN (n:TNode):Prop:=I64 n.1∧I64 n.2.1∧I64 n.2.2.1∧I64 n.2.2.2.2.1∧n.2.2.2.1.size≤1073741824
theorem checkLoop (k:Nat) (l:List TNode) (hl:l.length≤1500) (d D deep:Nat) (hdeep:deep≤12)
 (ih:∀(at_:Nat) (af:List Int),af.length=l.length→
  ∃v af',spec_l4Check.rec k D l (at_:Int) ((deep+1:Nat):Int)=some v∧impl_tree_measure.rec k D (at_:Int) ((deep+1:Nat):Int) (true,(l,(),())) af=some (v,((l,(),()),af'))∧af'.length=l.length∧
   (v= -1∨∃nx:Nat,v=nx∧Sub l af' d at_ nx∧nx≤l.length∧∀i,(i<at_∨nx≤i)→af'[i]?=af[i]?))
 (at_:Nat) (hat:at_<l.length) (n:TNode) (M:Int) (hM:n.2.2.2.2.1=M) (hM1:M<9223372036854775808):∀(f pos:Nat) (last i:Int) (af:List Int),l.length-pos<f→at_<pos→0≤i→i≤M→pos≤l.length→
  (n.1=12→0≤last∧last≤1000)→af.length=l.length→
  ∃v af',spec_l4Check.l7 k (spec_l4Check.rec k D) f l (deep:Int) (pos:Int) last i n=some v∧impl_tree_measure.l7 k (impl_tree_measure.rec k D) f (at_:Int) (deep:Int) (pos:Int) last M i (l,(),()) af n=some (v,((l,(),()),af'))∧af'.length=l.length∧
   (v= -1∨∃nx:Nat,v=nx∧PartsR (Sub l af' d) l n (M-i).toNat pos last nx∧nx≤l.length∧af'[at_]?=some (nx:Int)∧∀j,(j<pos∨nx≤j)→j≠at_→af'[j]?=af[j]?):=by
 intro f
 induction f with
 |zero=>intro pos last i af h;omega
 |succ f ihf=>
  intro pos last i af hf hpos hi0 hiM hpl hlast haf
  simp only [spec_l4Check.l7,impl_tree_measure.l7,hM]
  by_cases hlt:i<M
  ·simp only [decide_eq_true hlt,cond_true]
   by_cases hpe:(pos:Int)≥(l.length:Int)
   ·simp only [decide_eq_true hpe,cond_true]
    exact ⟨_,_,rfl,rfl,haf,.inl rfl⟩
   ·simp only [decide_eq_false hpe,cond_false]
    obtain ⟨p,hp1,hp2⟩:=rdL_some (xs:=l) (i:=(pos:Int)) (by omega) (by omega)
    simp only [hp1,Option.bind_some,csf,cst,within_eq]
    have hp2:l[pos]?=some p:=by simpa using hp2
    by_cases hc1:n.1=9∧(p.1≠n.2.2.1∨p.2.1≠0)
    ·have e1:(n.1==9&&(p.1 !=n.2.2.1||p.2.1 !=0))=true:=by
      simp only [Bool.and_eq_true,Bool.or_eq_true,beq_iff_eq,bne_iff_ne];exact hc1
     simp only [e1,Bool.true_or,cond_true]
     exact ⟨_,_,rfl,rfl,haf,.inl rfl⟩
    ·have e1:(n.1==9&&(p.1 !=n.2.2.1||p.2.1 !=0))=false:=by
      rw [Bool.eq_false_iff]
      intro h
      simp only [Bool.and_eq_true,Bool.or_eq_true,beq_iff_eq,bne_iff_ne] at h
      exact hc1 h
     simp only [e1,Bool.false_or,cond_false]
     by_cases hc2:n.1=12∧¬(last+1≤p.2.1∧p.2.1≤1000)
     ·have hw:IntKind.wrap .i64 (last+1)=last+1:=by
       have:=hlast hc2.1
       exact w64 (by omega) (by omega)
      have e2:(n.1==12&&(decide (p.2.1≤last)||decide (p.2.1>1000)))=true:=by
       simp only [Bool.and_eq_true,Bool.or_eq_true,beq_iff_eq,decide_eq_true_eq]
       exact ⟨hc2.1,by have:=hc2.2;omega⟩
      have e3:(cond (n.1==12) (some (!(decide (last+1≤p.2.1)&&decide (p.2.1≤1000)))) (some false):Option Bool)=some true:=by
       rw [beqT hc2.1,cond_true]
       congr 1
       have:=hc2.2
       simp only [Bool.not_eq_true',Bool.and_eq_false_iff,decide_eq_false_iff_not]
       omega
      rw [hw]
      simp only [e2,e3,Option.bind_some,cond_true]
      rw [csf] at e3
      simp only [Option.some.injEq] at e3
      simp only [e3,cond_true]
      exact ⟨_,_,rfl,rfl,haf,.inl rfl⟩
     ·have e2:(n.1==12&&(decide (p.2.1≤last)||decide (p.2.1>1000)))=false:=by
       rw [Bool.eq_false_iff]
       intro h
       simp only [Bool.and_eq_true,Bool.or_eq_true,beq_iff_eq,decide_eq_true_eq] at h
       exact hc2 ⟨h.1,by omega⟩
      have e3:(n.1==12&& !(decide (IntKind.wrap .i64 (last+1)≤p.2.1)&&decide (p.2.1≤1000)))=false:=by
       rw [Bool.eq_false_iff]
       intro h
       simp only [Bool.and_eq_true,beq_iff_eq,Bool.not_eq_true',Bool.and_eq_false_iff,decide_eq_false_iff_not] at h
       have hl:=hlast h.1
       rw [w64 (by omega) (by omega)] at h
       exact hc2 ⟨h.1,by omega⟩
      simp only [e2,e3,cond_false]
      have hd1:IntKind.wrap .i64 ((deep:Int)+1)=((deep+1:Nat):Int):=by rw [w64 (by omega) (by omega)];omega
      rw [hd1]
      obtain ⟨v,af1,s1,s2,s3,s4⟩:=ih pos af haf
      simp only [s1,s2,Option.bind_some]
      rcases s4 with rfl|⟨mid,rfl,s5,s6,s7⟩
      ·simp only [show decide ((-1:Int)<0)=true from rfl,cond_true]
       exact ⟨_,_,rfl,rfl,s3,.inl rfl⟩
      ·have hml:=Sub_lt _ _ _ s5
       have hm0:decide ((mid:Int)<0)=false:=decide_eq_false (by omega)
       have hi1:IntKind.wrap .i64 (i+1)=i+1:=w64 (by omega) (by omega)
       simp only [hm0,cond_false,hi1]
       obtain ⟨w,af2,t1,t2,t3,t4⟩:=ihf mid p.2.1 (i+1) af1 (by omega) (by omega) (by omega) (by omega) s6 (fun h12=>by
        have h:=fun hh=>hc2 ⟨h12,hh⟩
        have hl:=hlast h12
        omega) s3
       refine ⟨w,af2,t1,t2,t3,?_⟩
       rcases t4 with h|⟨nx,h1,h2,h3,h4,h5⟩
       ·exact .inl h
       ·have hmn:=(PartsR_mono (S':=fun _ _=>True) (Sub_lt d) _ _ _ _ (fun _ _ _ _ _=>trivial) h2).2
        refine .inr ⟨nx,h1,?_,h3,h4,fun j hj hja=> ?_⟩
        ·rw [show (M-i).toNat=(M-(i+1)).toNat+1 by omega]
         refine ⟨p,mid,hp2,fun h9=> ?_,fun h12=> ?_,Sub_frame d pos mid (fun j hj1 hj2=>h5 j (.inl hj2) (by omega)) s5,h2⟩
         ·constructor
          ·exact Classical.byContradiction fun hh=>hc1 ⟨h9,.inl hh⟩
          ·exact Classical.byContradiction fun hh=>hc1 ⟨h9,.inr hh⟩
         ·exact Classical.byContradiction fun hh=>hc2 ⟨h12,hh⟩
        ·rw [h5 j (by omega) hja,s7 j (by omega)]
  ·simp only [decide_eq_false hlt,cond_false]
   obtain ⟨y,hy1,hy2⟩:=rdL_some (xs:=af) (i:=(at_:Int)) (by omega) (by omega)
   simp only [hy1,Option.bind_some]
   refine ⟨_,_,rfl,rfl,by simpa using haf,.inr ⟨pos,rfl,?_,hpl,?_,fun j _ hj=> ?_⟩⟩
   ·rw [show (M-i).toNat=0 by omega]
    rfl
   ·simp [List.getElem?_set,haf,hat]
   ·simp [List.getElem?_set]
    intro h;omega
theorem check (k:Nat) (hk:2000≤k) (l:List TNode) (hl:l.length≤1500) (hw:∀n,n∈l→WfN n):∀(d D deep at_:Nat) (af:List Int),d+deep=13→d<D→af.length=l.length→
 ∃v af',spec_l4Check.rec k D l (at_:Int) (deep:Int)=some v∧impl_tree_measure.rec k D (at_:Int) (deep:Int) (true,(l,(),())) af=some (v,((l,(),()),af'))∧af'.length=l.length∧
  (v= -1∨∃nx:Nat,v=nx∧Sub l af' d at_ nx∧nx≤l.length∧∀i,(i<at_∨nx≤i)→af'[i]?=af[i]?):=by
 intro d
 induction d with
 |zero=>
  intro D deep at_ af hd hD haf
  obtain ⟨D,rfl⟩:∃m,D=m+1:=⟨D-1,by omega⟩
  obtain rfl:deep=13:=by omega
  simp only [spec_l4Check.rec,impl_tree_measure.rec,spec_l4Check.b,impl_tree_measure.b,cst,Option.bind_some,show decide (((13:Nat):Int)>12)=true from rfl,Bool.or_true,cond_true]
  exact ⟨_,_,rfl,rfl,haf,.inl rfl⟩
 |succ d ih=>
  intro D deep at_ af hd hD haf
  obtain ⟨D,rfl⟩:∃m,D=m+1:=⟨D-1,by omega⟩
  simp only [spec_l4Check.rec,impl_tree_measure.rec,spec_l4Check.b,impl_tree_measure.b,cst,Option.bind_some,cond_true]
  by_cases hat:(at_:Int)≥(l.length:Int)
  ·simp only [decide_eq_true hat,Bool.true_or,cond_true,Option.bind_some]
   exact ⟨_,_,rfl,rfl,haf,.inl rfl⟩
  ·obtain ⟨n,hn1,hn2⟩:=rdL_some (xs:=l) (i:=(at_:Int)) (by omega) (by omega)
   have hn2:l[at_]?=some n:=by simpa using hn2
   have hdd:decide ((deep:Int)>12)=false:=decide_eq_false (by omega)
   simp only [decide_eq_false hat,hdd,Bool.false_or,cond_false,hn1,Option.bind_some,plain_eq,nodeOk_eq]
   cases hok:nok n with
   |false=>
    simp only [Bool.not_false,cond_true]
    exact ⟨_,_,rfl,rfl,haf,.inl rfl⟩
   |true=>
    simp only [Bool.not_true,cond_false]
    have hwn:=hw n (List.mem_of_getElem? hn2)
    have hM0:0≤n.2.2.2.2.1:=by
     unfold nok at hok
     repeat' split at hok
     all_goals simp only [Bool.and_eq_true,beq_iff_eq,decide_eq_true_eq,Bool.or_eq_true] at hok
     all_goals omega
    have ha1:IntKind.wrap .i64 ((at_:Int)+1)=((at_+1:Nat):Int):=by rw [w64 (by omega) (by omega)];omega
    rw [ha1]
    obtain ⟨v,af',t1,t2,t3,t4⟩:=checkLoop k l hl d D deep (by omega) (fun a af haf=>ih D (deep+1) a af (by omega) (by omega) haf) at_ (by omega) n n.2.2.2.2.1 rfl hwn.2.2.2.1.2 k (at_+1) 0 0 af (by omega) (by omega) (by omega) hM0 (by omega) (fun _=>by omega) haf
    refine ⟨v,af',t1,t2,t3,?_⟩
    rcases t4 with h|⟨nx,h1,h2,h3,h4,h5⟩
    ·exact .inl h
    ·refine .inr ⟨nx,h1,⟨n,hn2,hok,by simpa using h2,h4⟩,h3,fun i hi=> ?_⟩
     have:=(PartsR_mono (S':=fun _ _=>True) (Sub_lt d) _ _ _ _ (fun _ _ _ _ _=>trivial) h2).2
     exact h5 i (by omega) (by omega)
end Go.Law
end
section
set_option linter.unusedVariables false
set_option linter.unusedSimpArgs false
namespace Go.Law
open Go.Am Go.Fn
def Byt (B:List Int):Prop:=∀x,x∈B→0≤x∧x<256
theorem Byt.cons {a:Int} {B:List Int} (h0:0≤a) (h1:a<256) (h':Byt B):Byt (a::B):=fun x hx=>by
 rcases List.mem_cons.1 hx with rfl|hx
 ·exact ⟨h0,h1⟩
 ·exact h' x hx
theorem Byt.nil:Byt []:=fun x hx=>(List.not_mem_nil hx).elim
def headB (p:TNode) (last:Int):List Int:=if p.2.1-last≤15 then [16*(p.2.1-last)+p.1] else p.1::uv (zig p.2.1)
def costP (S:List TNode→Nat×List TNode) (st:Bool):Nat→Int→List TNode→Nat×List TNode
 |0,_,X=>(0,X)
 |_+1,_,[]=>(0,[])
 |c+1,last,p::X=>((if st then (headB p last).length else 0)+(S (p::X)).1+(costP S st c p.2.1 (S (p::X)).2).1,(costP S st c p.2.1 (S (p::X)).2).2)
def cost:Nat→List TNode→Nat×List TNode
 |0,X=>(0,X)
 |_+1,[]=>(0,[])
 |d+1,n::X=>
  if n.1=5∨n.1=6 then ((uv (zig n.2.2.1)).length,X)
  else if n.1=8 then ((uv (n.2.2.2.1.size:Int)).length+n.2.2.2.1.size,X)
  else if n.1=9 then ((if n.2.2.2.2.1≤14 then 1 else 1+(uv n.2.2.2.2.1).length)+(costP (cost d) false n.2.2.2.2.1.toNat 0 X).1,(costP (cost d) false n.2.2.2.2.1.toNat 0 X).2)
  else if n.1=12 then ((costP (cost d) true n.2.2.2.2.1.toNat 0 X).1+1,(costP (cost d) true n.2.2.2.2.1.toNat 0 X).2)
  else (0,X)
def sn (id j:Int):TNode:=(12,id,0,⟨#[]⟩,j,())
end Go.Law
end
section
set_option linter.unusedVariables false
set_option linter.unusedSimpArgs false
namespace Go.Law
open Go.Am Go.Fn
variable (k:Nat)
def EncP (E:List TNode→Prop) (n:TNode):Nat→Int→List TNode→Prop
 |0,_,X=>X=[]
 |c+1,last,X=>∃p Y Z,X=(p::Y)++Z∧(n.1=9→p.1=n.2.2.1∧p.2.1=0)∧(n.1=12→last+1≤p.2.1∧p.2.1≤1000)∧E (p::Y)∧EncP E n c p.2.1 Z
def Enc:Nat→List TNode→Prop
 |0,_=>False
 |_+1,[]=>False
 |d+1,n::X=>nok n=true∧EncP (Enc d) n n.2.2.2.2.1.toNat 0 X
theorem EncP_len {E:List TNode→Prop} {n:TNode}:∀(c:Nat) (last:Int) (X:List TNode),EncP E n c last X→c≤X.length
 |0,_,_,_=>Nat.zero_le _
 |c+1,_,X,⟨p,Y,Z,e,_,_,_,h⟩=>by
  have:=EncP_len c _ _ h
  subst e
  simp
  omega
theorem nok_many' {n:TNode} (h:nok n=true):0≤n.2.2.2.2.1:=by
 unfold nok at h
 repeat' split at h
 all_goals simp only [Bool.and_eq_true,beq_iff_eq,decide_eq_true_eq,Bool.or_eq_true] at h
 all_goals omega
theorem getMid' {α:Type} (pre post:List α) (x:α):rdL (pre++x::post) (pre.length:Int)=some x:=by
 rw [rdL_nat,List.getElem?_append_right (Nat.le_refl _)];simp
theorem checkEnc (hk:2000≤k):∀(d D deep:Nat) (pre B post:List TNode),d+deep≤13→d<D→Enc d B→pre.length+B.length+post.length≤1500→
 spec_l4Check.rec k D (pre++(B++post)) (pre.length:Int) (deep:Int)=some ((pre.length+B.length:Nat):Int):=by
 intro d
 induction d with
 |zero=>intro D deep pre B post _ _ h;exact h.elim
 |succ d ih=>
  intro D deep pre B post hdd hD hB hlen
  obtain ⟨D,rfl⟩:∃j,D=j+1:=⟨D-1,by omega⟩
  cases B with
  |nil=>exact hB.elim
  |cons n X=>
   obtain ⟨hok,hP⟩:=hB
   have hm0:=nok_many' hok
   have hcl:=EncP_len _ _ _ hP
   simp only [List.length_cons] at hlen
   generalize hL:pre++(n::X++post)=L
   have hLlen:L.length=pre.length+(X.length+1)+post.length:=by rw [←hL];simp;omega
   have hget:rdL L (pre.length:Int)=some n:=by rw [←hL];exact getMid' pre (X++post) n
   simp only [spec_l4Check.rec,spec_l4Check.b,cst,Option.bind_some,decide_eq_false (show ¬(pre.length:Int)≥(L.length:Int) by omega),decide_eq_false (show ¬(deep:Int)>12 by omega),Bool.or_self,cond_false,hget,plain_eq,hok,Bool.not_true]
   rw [w64 (by omega) (by omega),show ((pre.length:Int)+1)=((pre.length+1:Nat):Int) by omega]
   have loop:∀(c:Nat) (last:Int) (f:Nat) (i:Int) (Q Z:List TNode),EncP (Enc d) n c last Z→pre++(n::X)=Q++Z→c<f→n.2.2.2.2.1-i=c→0≤i→n.2.2.2.2.1≤2000→
    spec_l4Check.l7 k (spec_l4Check.rec k D) f L (deep:Int) (Q.length:Int) last i n=some ((pre.length+(X.length+1):Nat):Int):=by
    intro c
    induction c with
    |zero=>
     intro last f i Q Z hZ hQ hf hi hi0 hi2
     obtain ⟨f,rfl⟩:∃j,f=j+1:=⟨f-1,by omega⟩
     have hZ:Z=[]:=hZ
     subst hZ
     have:=congrArg List.length hQ
     simp at this
     simp only [spec_l4Check.l7,decide_eq_false (show ¬i<n.2.2.2.2.1 by omega),cond_false]
     congr 1
     omega
    |succ c ihc=>
     intro last f i Q Z ⟨p,Y,Z',hZ,h9,h12,hE,hZP⟩ hQ hf hi hi0 hi2
     obtain ⟨f,rfl⟩:∃j,f=j+1:=⟨f-1,by omega⟩
     have hLQ:L=Q++((p::Y)++(Z'++post)):=by
      rw [←hL,←List.append_assoc,hQ,hZ];simp
     have hQl:=congrArg List.length hQ
     rw [hZ] at hQl
     simp at hQl
     have hp:rdL L (Q.length:Int)=some p:=by rw [hLQ];exact getMid' Q (Y++(Z'++post)) p
     have e1:(n.1==9&&(p.1 !=n.2.2.1||p.2.1 !=0))=false:=by
      rw [Bool.eq_false_iff];intro h
      simp only [Bool.and_eq_true,Bool.or_eq_true,beq_iff_eq,bne_iff_ne] at h
      have:=h9 h.1
      omega
     have e2:(n.1==12&&(decide (p.2.1≤last)||decide (p.2.1>1000)))=false:=by
      rw [Bool.eq_false_iff];intro h
      simp only [Bool.and_eq_true,Bool.or_eq_true,beq_iff_eq,decide_eq_true_eq] at h
      have:=h12 h.1
      omega
     have:=ih D (deep+1) Q (p::Y) (Z'++post) (by omega) (by omega) hE (by simp;omega)
     rw [←hLQ] at this
     simp only [spec_l4Check.l7,decide_eq_true (show i<n.2.2.2.2.1 by omega),cond_true,decide_eq_false (show ¬(Q.length:Int)≥(L.length:Int) by omega),cond_false,hp,Option.bind_some,csf,cst,e1,e2,Bool.or_self]
     rw [w64 (show -9223372036854775808≤(deep:Int)+1 by omega) (by omega),show ((deep:Int)+1)=((deep+1:Nat):Int) by omega,this]
     simp only [Option.bind_some]
     rw [decide_eq_false (by omega),cond_false,w64 (by omega) (by omega)]
     have hr:=ihc p.2.1 f (i+1) (Q++(p::Y)) Z' hZP (by rw [hQ,hZ];simp) (by omega) (by omega) (by omega) hi2
     rw [List.length_append] at hr
     exact hr
   have hr:=loop _ 0 k 0 (pre++[n]) X hP (by simp) (by omega) (by omega) (by omega) (by omega)
   simp only [List.length_append,List.length_singleton] at hr
   rw [hr]
   simp
theorem treeOkEnc (hk:2000≤k) (n:TNode) (X:List TNode) (h:Enc 12 (n::X)) (hlen:(n::X).length≤1500) (h12:n.1=12) (h0:n.2.1=0):spec_TreeOk k (n::X)=some true:=by
 unfold spec_TreeOk
 have c1:(decide ((1:Int)≤((n::X).length:Int))&&decide (((n::X).length:Int)≤1500))=true:=by simp;simp at hlen;omega
 have hc:=checkEnc k hk 12 k 1 [] (n::X) [] (by omega) (by omega) h (by simpa using hlen)
 simp only [List.nil_append,List.append_nil,List.length_nil,Nat.zero_add] at hc
 have hc:spec_l4Check k (n::X) 0 1=some (((n::X).length:Nat):Int):=hc
 have hr:rdL (n::X) 0=some n:=rfl
 simp only [l1In_eq,c1,Option.bind_some,Bool.not_true,cond_false,hr,bneF h12,bneF h0,hc,beqT rfl]
end Go.Law
end
section
set_option linter.unusedVariables false
set_option linter.unusedSimpArgs false
namespace Go.Law
open Go.Am Go.Fn
inductive Res (α:Type) where
 |bad (code:Int)
 |ok (p:Nat) (x:α)
def zagV (x:Int):Int:=if x%2=0 then (x%18446744073709551616)/2 else-((x%18446744073709551616)/2)-1
def int32 (x:Int):Bool:=decide (-2147483648≤x)&&decide (x≤2147483647)
def prMany (b:List Int) (p:Nat):Res (Int×Int):=
 match b[p]? with
 |none=> .bad 1
 |some h=>
  match (if h/16=15 then (gv (b.drop (p+1))).map fun x=>(x.1,p+1+x.2) else some (h/16,p+1)) with
  |none=> .bad 1
  |some (many,q)=>
   if many=0 then .ok q (0,0)
   else if isItem (h%16)=false then .bad 2
   else if many<0∨1500<many then .bad 4
   else .ok q (many,h%16)
def prHead (b:List Int) (p:Nat) (last:Int):Res (Int×Int):=
 match b[p]? with
 |none=> .bad 1
 |some h=>
  if h=0 then .ok (p+1) (0,0)
  else if isKind (h%16)=false then .bad 2
  else match (if h/16=0 then (gv (b.drop (p+1))).map fun x=>(zagV x.1,p+1+x.2) else some (last+h/16,p+1)) with
  |none=> .bad 1
  |some (id,q)=>
   if id<1∨1000<id then .bad 3
   else if id≤last then .bad 5
   else .ok q (h%16,id)
def prText (b:List Int) (p:Nat):Res ByteArray:=
 match gv (b.drop p) with
 |none=> .bad 1
 |some (u,n)=>
  if u<0∨300<u then .bad 4
  else if (b.length:Int)-(p+n:Nat)<u then .bad 1
  else .ok (p+n+u.toNat) (intsStr ((b.drop (p+n)).take u.toNat))
def prParts (S:Nat→Nat→Res (List TNode)):Nat→Nat→Nat→Res (List TNode)
 |0,p,_=> .ok p []
 |m+1,p,c=>match S p c with
  | .bad e=> .bad e
  | .ok q Y=>match prParts S m q (c+Y.length) with
    | .bad e=> .bad e
    | .ok r Z=> .ok r (Y++Z)
def prFields (S:Int→Int→Nat→Nat→Res (List TNode)) (b:List Int):Nat→Int→Nat→Nat→Res (Nat×List TNode)
 |0,_,_,_=> .bad 1
 |f+1,last,p,c=>match prHead b p last with
  | .bad e=> .bad e
  | .ok q (t,id)=>
    if t=0 then .ok q (0,[])
    else match S t id q c with
    | .bad e=> .bad e
    | .ok r Y=>match prFields S b f id r (c+Y.length) with
      | .bad e=> .bad e
      | .ok z (m,Z)=> .ok z (m+1,Y++Z)
def prN:Nat→List Int→Int→Int→Nat→Nat→Res (List TNode)
 |0,_,_,_,_,_=> .bad 4
 |d+1,b,kind,id,p,c=>
  if c=1500 then .bad 4
  else if kind=5∨kind=6 then
   match gv (b.drop p) with
   |none=> .bad 1
   |some (u,n)=>if kind=5∧int32 (zagV u)=false then .bad 3 else .ok (p+n) [(kind,id,zagV u,⟨#[]⟩,0,())]
  else if kind=8 then
   match prText b p with
   | .bad e=> .bad e
   | .ok q s=> .ok q [(8,id,0,s,0,())]
  else if kind=9 then
   match prMany b p with
   | .bad e=> .bad e
   | .ok q (many,item)=>match prParts (fun p c=>prN d b item 0 p c) many.toNat q (c+1) with
     | .bad e=> .bad e
     | .ok r Y=> .ok r ((9,id,item,⟨#[]⟩,many,())::Y)
  else if kind=12 then
   match prFields (fun t id p c=>prN d b t id p c) b 1002 0 p (c+1) with
   | .bad e=> .bad e
   | .ok r (m,Y)=> .ok r ((12,id,0,⟨#[]⟩,(m:Int),())::Y)
  else .ok p [(kind,id,0,⟨#[]⟩,0,())]
theorem zig_zagV {u:Int} (h:I64 u):zig (zagV u)=u:=by
 obtain ⟨h0,h1⟩:=h
 unfold zig zagV
 simp only [IntKind.wrap_i64]
 split<;>split<;>omega
theorem zagV_i64 (u:Int):I64 (zagV u):=by
 unfold zagV I64
 split<;>omega
theorem zag_eq (k:Nat) {u:Int} (h:I64 u):impl_Zag k u=some (zagV u):=by
 have h2:=zagV_i64 u
 have:=zag_zig k (zagV u) h2.1 h2.2
 rwa [zig_zagV h] at this
theorem isKind_of_item {t:Int} (h:isItem t=true):isKind t=true:=by unfold isKind;rw [h];simp
theorem kind_cases {t:Int} (h:isKind t=true):t=1∨t=2∨t=5∨t=6∨t=8∨t=9∨t=12:=by
 unfold isKind isItem at h
 simp only [Bool.or_eq_true,beq_iff_eq] at h
 omega
theorem prHead_ok {b:List Int} {p:Nat} {last:Int} {q:Nat} {t id:Int} (h:prHead b p last= .ok q (t,id)):p<q∧(t=0∨(isKind t=true∧t≠0∧last+1≤id∧1≤id∧id≤1000)):=by
 unfold prHead at h
 split at h
 ·cases h
 ·rename_i y hy
  split at h
  ·simp only [Res.ok.injEq,Prod.mk.injEq] at h
   exact ⟨by omega,.inl h.2.1.symm⟩
  ·split at h
   ·cases h
   ·rename_i hk
    split at h
    ·cases h
    ·rename_i id' q' hm
     split at h
     ·cases h
     ·split at h
      ·cases h
      ·simp only [Res.ok.injEq,Prod.mk.injEq] at h
       obtain ⟨rfl,rfl,rfl⟩:=h
       have hk:isKind (y%16)=true:=by simpa using hk
       refine ⟨?_,.inr ⟨hk,?_,by omega,by omega,by omega⟩⟩
       ·split at hm
        ·cases hg:gv (b.drop (p+1)) with
         |none=>rw [hg] at hm;cases hm
         |some x=>
          rw [hg] at hm
          simp only [Option.map_some,Option.some.injEq,Prod.mk.injEq] at hm
          omega
        ·simp only [Option.some.injEq,Prod.mk.injEq] at hm
         omega
       ·rcases kind_cases hk with e|e|e|e|e|e|e<;>omega
theorem prMany_ok {b:List Int} {p q:Nat} {many item:Int} (h:prMany b p= .ok q (many,item)):p<q∧((many=0∧item=0)∨(1≤many∧many≤1500∧isItem item=true)):=by
 unfold prMany at h
 split at h
 ·cases h
 ·rename_i y hy
  split at h
  ·cases h
  ·rename_i m q' hm
   have hq:p<q':=by
    split at hm
    ·cases hg:gv (b.drop (p+1)) with
     |none=>rw [hg] at hm;cases hm
     |some x=>
      rw [hg] at hm
      simp only [Option.map_some,Option.some.injEq,Prod.mk.injEq] at hm
      omega
    ·simp only [Option.some.injEq,Prod.mk.injEq] at hm
     omega
   split at h
   ·simp only [Res.ok.injEq,Prod.mk.injEq] at h
    exact ⟨by omega,.inl ⟨h.2.1.symm,h.2.2.symm⟩⟩
   ·split at h
    ·cases h
    ·rename_i hi
     split at h
     ·cases h
     ·simp only [Res.ok.injEq,Prod.mk.injEq] at h
      obtain ⟨rfl,rfl,rfl⟩:=h
      exact ⟨hq,.inr ⟨by omega,by omega,by simpa using hi⟩⟩
theorem prText_ok {b:List Int} {p q:Nat} {s:ByteArray} (h:prText b p= .ok q s):p≤q∧s.size≤300:=by
 unfold prText at h
 split at h
 ·cases h
 ·split at h
  ·cases h
  ·split at h
   ·cases h
   ·simp only [Res.ok.injEq] at h
    obtain ⟨rfl,rfl⟩:=h
    refine ⟨by omega,?_⟩
    rw [intsStr_size,List.length_take]
    omega
def EncS (d:Nat) (kind id:Int) (c:Nat) (Y:List TNode):Prop:=∃n X,Y=n::X∧n.1=kind∧n.2.1=id∧Enc d Y∧c+Y.length≤1500
theorem prParts_enc {d:Nat} {item:Int} {S:Nat→Nat→Res (List TNode)} (ih:∀p c q Y,c≤1500→S p c= .ok q Y→p≤q∧EncS d item 0 c Y) (n:TNode) (hn:n.1=9) (hi:n.2.2.1=item):∀(m p c:Nat) (last:Int) (q:Nat) (Y:List TNode),c≤1500→prParts S m p c= .ok q Y→p≤q∧EncP (Enc d) n m last Y∧c+Y.length≤1500:=by
 intro m
 induction m with
 |zero=>
  intro p c last q Y hc h
  simp only [prParts,Res.ok.injEq] at h
  obtain ⟨rfl,rfl⟩:=h
  exact ⟨Nat.le_refl _,rfl,by simpa using hc⟩
 |succ m ihm=>
  intro p c last q Y hc h
  simp only [prParts] at h
  split at h
  ·cases h
  ·rename_i q1 Y1 h1
   split at h
   ·cases h
   ·rename_i q2 Z h2
    simp only [Res.ok.injEq] at h
    obtain ⟨rfl,rfl⟩:=h
    obtain ⟨hp,x,X,rfl,x1,x2,x3,x4⟩:=ih _ _ _ _ hc h1
    obtain ⟨g0,g1,g2⟩:=ihm _ _ x.2.1 _ _ (by omega) h2
    exact ⟨by omega,⟨x,X,Z,rfl,fun _=>⟨by rw [x1,hi],x2⟩,fun h12=>by omega,x3,g1⟩,by simp at g2⊢;omega⟩
theorem prFields_enc {d:Nat} {S:Int→Int→Nat→Nat→Res (List TNode)} {b:List Int} (ih:∀t id p c q Y,isKind t=true→c≤1500→S t id p c= .ok q Y→p≤q∧EncS d t id c Y) (n:TNode) (hn:n.1=12):∀(f:Nat) (last:Int) (p c q m:Nat) (Y:List TNode),c≤1500→prFields S b f last p c= .ok q (m,Y)→p<q∧EncP (Enc d) n m last Y∧c+Y.length≤1500:=by
 intro f
 induction f with
 |zero=>intro last p c q m Y hc h;cases h
 |succ f ihf=>
  intro last p c q m Y hc h
  simp only [prFields] at h
  split at h
  ·cases h
  ·rename_i q1 t id h1
   obtain ⟨a1,a2⟩:=prHead_ok h1
   split at h
   ·simp only [Res.ok.injEq,Prod.mk.injEq] at h
    obtain ⟨rfl,rfl,rfl⟩:=h
    exact ⟨a1,rfl,by simpa using hc⟩
   ·rename_i ht
    rcases a2 with a2|⟨a2,_,a3,a4,a5⟩
    ·exact (ht a2).elim
    ·split at h
     ·cases h
     ·rename_i q2 Y1 h2
      split at h
      ·cases h
      ·rename_i q3 m' Z h3
       simp only [Res.ok.injEq,Prod.mk.injEq] at h
       obtain ⟨rfl,rfl,rfl⟩:=h
       obtain ⟨hp,x,X,rfl,x1,x2,x3,x4⟩:=ih _ _ _ _ _ _ a2 hc h2
       obtain ⟨g0,g1,g2⟩:=ihf _ _ _ _ _ _ (by omega) h3
       rw [←x2] at g1
       exact ⟨by omega,⟨x,X,Z,rfl,fun h9=>by omega,fun _=>⟨by omega,by omega⟩,x3,g1⟩,by simp at g2⊢;omega⟩
theorem prN_enc:∀(d:Nat) (b:List Int) (kind id:Int) (p c q:Nat) (Y:List TNode),isKind kind=true→c≤1500→prN d b kind id p c= .ok q Y→p≤q∧EncS d kind id c Y:=by
 intro d
 induction d with
 |zero=>intro b kind id p c q Y hk hc h;cases h
 |succ d ih=>
  intro b kind id p c q Y hk hc h
  have one:∀n:TNode,nok n=true→n.2.2.2.2.1=0→Enc (d+1) [n]:=fun n hn h0=>⟨hn,by rw [h0];rfl⟩
  have ez:eqS (⟨#[]⟩:ByteArray) ⟨#[]⟩=true:=by rw [eqS_iff];simp
  simp only [prN] at h
  split at h
  ·cases h
  ·rename_i hc5
   split at h
   ·rename_i h56
    split at h
    ·cases h
    ·rename_i u n hg
     split at h
     ·cases h
     ·rename_i h32
      simp only [Res.ok.injEq] at h
      obtain ⟨rfl,rfl⟩:=h
      refine ⟨by omega,_,[],rfl,rfl,rfl,one _ ?_ rfl,by simp;omega⟩
      unfold nok
      by_cases h5:kind=5
      ·have:int32 (zagV u)=true:=by
        cases hh:int32 (zagV u) with
        |true=>rfl
        |false=>exact (h32 ⟨h5,hh⟩).elim
       unfold int32 at this
       simp only [h5,if_true,this,ez,Bool.true_and]
       rfl
      ·have h6:kind=6:=by omega
       simp [h6,ez]
   ·rename_i h56
    split at h
    ·rename_i h8
     split at h
     ·cases h
     ·rename_i q' s hs
      simp only [Res.ok.injEq] at h
      obtain ⟨rfl,rfl⟩:=h
      obtain ⟨s1,s2⟩:=prText_ok hs
      refine ⟨s1,_,[],rfl,h8.symm,rfl,one _ ?_ rfl,by simp;omega⟩
      unfold nok
      simp
      omega
    ·rename_i h8
     split at h
     ·rename_i h9
      split at h
      ·cases h
      ·rename_i q1 many item hm
       obtain ⟨m0,m1⟩:=prMany_ok hm
       split at h
       ·cases h
       ·rename_i q2 Y' hp
        simp only [Res.ok.injEq] at h
        obtain ⟨rfl,rfl⟩:=h
        rcases m1 with ⟨rfl,rfl⟩|⟨m1,m2,m3⟩
        ·simp only [Int.toNat_zero,prParts,Res.ok.injEq] at hp
         obtain ⟨rfl,rfl⟩:=hp
         refine ⟨by omega,_,[],rfl,h9.symm,rfl,one _ ?_ rfl,by simp;omega⟩
         unfold nok
         simp [ez]
        ·obtain ⟨g0,g1,g2⟩:=prParts_enc (d:=d) (item:=item) (fun p c q Y hc h=>ih b item 0 p c q Y (isKind_of_item m3) hc h) (9,id,item,⟨#[]⟩,many,()) rfl rfl _ _ _ 0 _ _ (by omega) hp
         refine ⟨by omega,_,Y',rfl,h9.symm,rfl,⟨?_,g1⟩,by simp;omega⟩
         unfold nok
         simp [ez,m3]
         omega
     ·rename_i h9
      split at h
      ·rename_i h12
       split at h
       ·cases h
       ·rename_i q1 m Y' hf
        simp only [Res.ok.injEq] at h
        obtain ⟨rfl,rfl⟩:=h
        obtain ⟨g0,g1,g2⟩:=prFields_enc (d:=d) (fun t id p c q Y hk hc h=>ih b t id p c q Y hk hc h) (12,id,0,⟨#[]⟩,(m:Int),()) rfl _ _ _ _ _ _ _ (by omega) hf
        refine ⟨by omega,_,Y',rfl,h12.symm,rfl,⟨?_,?_⟩,by simp;omega⟩
        ·unfold nok
         simp [ez]
        ·show EncP (Enc d) _ ((m:Int)).toNat 0 Y'
         rw [Int.toNat_natCast];exact g1
      ·rename_i h12
       simp only [Res.ok.injEq] at h
       obtain ⟨rfl,rfl⟩:=h
       refine ⟨Nat.le_refl _,_,[],rfl,rfl,rfl,one _ ?_ rfl,by simp;omega⟩
       have:kind=1∨kind=2:=by
        rcases kind_cases hk with e|e|e|e|e|e|e<;>omega
       unfold nok
       rcases this with rfl|rfl<;>simp [ez]
end Go.Law
end
section
set_option linter.unusedVariables false
set_option linter.unusedSimpArgs false
namespace Go.Law
open Go.Am Go.Fn
variable (k:Nat) (hk:2000≤k)
theorem begin_ok {o:TTreeReaderB} {n:TNode} {deep:Nat} {acc:List TNode} (ho:o.2.2.2.1=0) (hd:deep≤12) (ha:acc.length<1500):
 impl_treeReader_begin k n (deep:Int) o acc=some ((acc.length:Int),(o,acc++[n])):=by
 unfold impl_treeReader_begin impl_treeReader_begin.c3
 have c1:decide ((deep:Int)>12)=false:=decide_eq_false (by omega)
 have c2:((acc.length:Int)==1500)=false:=beqF (by omega)
 have c3:lim (acc.length+[n].length)=true:=lim_ok (by simp;omega)
 have e:IntKind.wrap .i64 (((acc++[n]).length:Int)-1)=(acc.length:Int):=by
  rw [List.length_append,List.length_singleton,w64 (by omega) (by omega)];omega
 simp only [c1,c2,cond_false,Option.bind_some,ho,bneF rfl,c3,cond_true,e]
end Go.Law
end
section
set_option linter.unusedVariables false
set_option linter.unusedSimpArgs false
namespace Go.Law
open Go.Am Go.Fn
abbrev rdE (b:List Int) (p:Nat) (e:Int):TTreeReaderB:=(b,(p:Int),(),e,())
variable (k:Nat)
theorem fail_ok (b:List Int) (p:Nat) (e:Int) (acc:List TNode):impl_treeReader_fail k e (rdE b p 0) acc=some ((),(rdE b p e,acc)):=by
 unfold impl_treeReader_fail
 rw [beqT rfl,cond_true]
theorem fail_no (b:List Int) (p:Nat) {e:Int} (he:e≠0) (x:Int) (acc:List TNode):impl_treeReader_fail k x (rdE b p e) acc=some ((),(rdE b p e,acc)):=by
 unfold impl_treeReader_fail
 rw [beqF he,cond_false]
theorem iget_any (hk:2000≤k) {b:List Int} (hl:b.length<4611686018427387904) (hb:Byt b) (p:Nat) (hp:p≤b.length):impl_UvarGet k b (p:Int)=match gv (b.drop p) with
 |none=>some (0,0,false)
 |some (u,n)=>some (u,((p+n:Nat):Int),true):=by
 unfold impl_UvarGet
 rw [decide_eq_false (by omega),cond_false]
 have h:=igetLoop k b p hl hb (by omega) 10 k 0 0 rfl (by omega) (by simp)
 rw [show ((0:Nat):Int)=0 from rfl] at h
 rw [h]
 unfold gv
 rw [Nat.add_zero]
 cases gvN 10 (b.drop p) with
 |none=>rfl
 |some x=>
  simp only [Option.map_some,Nat.mul_zero,Nat.pow_zero,Nat.mul_one,Nat.zero_add]
theorem uvar_any (hk:2000≤k) {b:List Int} (hl:b.length<4611686018427387904) (hb:Byt b) (p:Nat) (hp:p≤b.length) (acc:List TNode):impl_treeReader_uvar k (rdE b p 0) acc=match gv (b.drop p) with
 |none=>some (0,(rdE b p 1,acc))
 |some (u,n)=>some (u,(rdE b (p+n) 0,acc)):=by
 unfold impl_treeReader_uvar
 rw [show (rdE b p 0).1=b from rfl,show (rdE b p 0).2.1=(p:Int) from rfl,iget_any k hk hl hb p hp]
 cases gv (b.drop p) with
 |none=>simp only [Option.bind_some,bneF rfl,cst,Bool.not_false,Bool.or_true,cond_true,fail_ok]
 |some x=>simp only [Option.bind_some,bneF rfl,cst,Bool.not_true,Bool.or_self,cond_false]
theorem uvar_no (hk:2000≤k) {b:List Int} (hl:b.length<4611686018427387904) (hb:Byt b) (p:Nat) (hp:p≤b.length) {e:Int} (he:e≠0) (acc:List TNode):impl_treeReader_uvar k (rdE b p e) acc=some (0,(rdE b p e,acc)):=by
 unfold impl_treeReader_uvar
 rw [show (rdE b p e).1=b from rfl,show (rdE b p e).2.1=(p:Int) from rfl,iget_any k hk hl hb p hp]
 cases gv (b.drop p) with
 |none=>simp only [Option.bind_some,bneT he,cst,Bool.true_or,cond_true,fail_no k b p he]
 |some x=>simp only [Option.bind_some,bneT he,cst,Bool.true_or,cond_true,fail_no k b p he]
theorem one_any {b:List Int} (hl:b.length<4611686018427387904) (hb:Byt b) (p:Nat) (hp:p≤b.length) (acc:List TNode):impl_treeReader_one k (rdE b p 0) acc=match b[p]? with
 |none=>some (0,(rdE b p 1,acc))
 |some h=>some (h,(rdE b (p+1) 0,acc)):=by
 unfold impl_treeReader_one
 by_cases hlt:p<b.length
 ·obtain ⟨c,hc,hc2⟩:=drop_cons_of hlt
  obtain ⟨c0,c1⟩:=hb c (List.mem_of_getElem? hc2)
  rw [hc2]
  have e:IntKind.wrap .i64 ((p:Int)+1)=((p+1:Nat):Int):=by rw [w64 (by omega) (by omega)];omega
  have e2:IntKind.wrap .i64 (((p+1:Nat):Int)-1)=(p:Int):=by rw [w64 (by omega) (by omega)];omega
  have cc:decide ((p:Int)≥(b.length:Int))=false:=decide_eq_false (by omega)
  have ec:IntKind.wrap .i64 c=c:=w64 (by omega) (by omega)
  simp only [bneF rfl,cst,Option.bind_some,cc,Bool.or_self,cond_false,e,e2,rdL_nat,hc2,ec]
 ·rw [List.getElem?_eq_none (by omega)]
  have c:decide ((p:Int)≥(b.length:Int))=true:=decide_eq_true (by omega)
  simp only [bneF rfl,cst,Option.bind_some,c,Bool.or_true,cond_true,fail_ok]
theorem one_no {b:List Int} (p:Nat) {e:Int} (he:e≠0) (acc:List TNode):impl_treeReader_one k (rdE b p e) acc=some (0,(rdE b p e,acc)):=by
 unfold impl_treeReader_one
 simp only [bneT he,cst,Option.bind_some,Bool.true_or,cond_true,fail_no k b p he]
theorem text_any (hk:2000≤k) {b:List Int} (hl:b.length<4611686018427387904) (hb:Byt b) (p:Nat) (hp:p≤b.length) (acc:List TNode):
 match prText b p with
 | .bad e=>e≠0∧∃q,q≤b.length∧impl_treeReader_text k (rdE b p 0) acc=some (⟨#[]⟩,(rdE b q e,acc))
 | .ok q s=>impl_treeReader_text k (rdE b p 0) acc=some (s,(rdE b q 0,acc)):=by
 unfold impl_treeReader_text prText
 rw [uvar_any k hk hl hb p hp]
 cases hg:gv (b.drop p) with
 |none=>
  refine ⟨by decide,p,hp,?_⟩
  simp only [Option.bind_some,beqF (show ¬(1:Int)=0 by decide),cond_false,impl_treeReader_text.c4,impl_treeReader_text.c6,bneT (show ¬(1:Int)=0 by decide),cond_true]
 |some z=>
  obtain ⟨u,n⟩:=z
  obtain ⟨⟨f0,f1⟩,f2,f3,f4,f5⟩:=gv_facts _ u n (fun x hx=>hb x (List.mem_of_mem_drop hx)) hg
  rw [List.length_drop] at f3
  simp only [Option.bind_some,beqT rfl,cond_true,within_eq]
  by_cases hu:u<0∨300<u
  ·rw [if_pos hu]
   have c1:(decide ((0:Int)≤u)&&decide (u≤300))=false:=by
    rw [Bool.eq_false_iff];intro q
    simp only [Bool.and_eq_true,decide_eq_true_eq] at q
    omega
   refine ⟨by decide,p+n,by omega,?_⟩
   simp only [c1,Bool.not_false,cond_true,fail_ok,Option.bind_some,impl_treeReader_text.c4,impl_treeReader_text.c6,beqF (show ¬(4:Int)=0 by decide),cond_false,bneT (show ¬(4:Int)=0 by decide)]
  ·rw [if_neg hu]
   have c1:(decide ((0:Int)≤u)&&decide (u≤300))=true:=by simp;omega
   have e1:IntKind.wrap .i64 ((b.length:Int)-((p+n:Nat):Int))=(b.length:Int)-((p+n:Nat):Int):=w64 (by omega) (by omega)
   simp only [c1,Bool.not_true,cond_false,impl_treeReader_text.c4,beqT rfl,cond_true,Option.bind_some,e1]
   by_cases hs:(b.length:Int)-((p+n:Nat):Int)<u
   ·rw [if_pos hs]
    refine ⟨by decide,p+n,by omega,?_⟩
    simp only [decide_eq_true (show u>(b.length:Int)-((p+n:Nat):Int) from hs),cond_true,fail_ok,Option.bind_some,impl_treeReader_text.c6,bneT (show ¬(1:Int)=0 by decide)]
   ·rw [if_neg hs]
    obtain ⟨U,rfl⟩:=Int.eq_ofNat_of_zero_le (show 0≤u by omega)
    have e2:IntKind.wrap .i64 (((p+n:Nat):Int)+(U:Int))=((p+n+U:Nat):Int):=by rw [w64 (by omega) (by omega)];omega
    have e3:IntKind.wrap .i64 (((p+n+U:Nat):Int)-(U:Int))=((p+n:Nat):Int):=by rw [w64 (by omega) (by omega)];omega
    have c3:inSl ((p+n:Nat):Int) ((p+n+U:Nat):Int) b.length=true:=inSl_ok (by omega) (by omega) (by omega)
    have hcut:cutL b ((p+n:Nat):Int) ((p+n+U:Nat):Int)=(b.drop (p+n)).take U:=by
     unfold cutL
     rw [Int.toNat_natCast,Int.toNat_natCast,List.drop_take,show p+n+U-(p+n)=U by omega]
    simp only [decide_eq_false (show ¬((U:Int)>(b.length:Int)-((p+n:Nat):Int)) from hs),cond_false,impl_treeReader_text.c6,bneF rfl,e2,e3,c3,cond_true,hcut,Int.toNat_natCast]
def INode (S:Int→Int→Int→TTreeReaderB→List TNode→Option (Unit×TTreeReaderB×List TNode)) (b:List Int) (kind id deep:Int) (p:Nat) (acc:List TNode) (r:Res (List TNode)):Prop:=
 match r with
 | .bad e=>e≠0∧∃q l,q≤b.length∧S kind id deep (rdE b p 0) acc=some ((),(rdE b q e,l))
 | .ok q Y=>q≤b.length∧S kind id deep (rdE b p 0) acc=some ((),(rdE b q 0,acc++Y))
theorem iparts (S:Int→Int→Int→TTreeReaderB→List TNode→Option (Unit×TTreeReaderB×List TNode)) (b:List Int) (item:Int) (deep:Nat) (hdeep:deep≤100) (P:Nat→Nat→Res (List TNode))
 (ih:∀(p:Nat) (acc:List TNode),p≤b.length→acc.length≤1500→INode S b item 0 ((deep+1:Nat):Int) p acc (P p acc.length))
 (hP:∀p c q Y,c≤1500→P p c= .ok q Y→c+Y.length≤1500) (many:Int) (hm:many≤1500):
 ∀(m f:Nat) (i:Int) (p:Nat) (acc:List TNode),many-i=m→0≤i→m<f→p≤b.length→acc.length≤1500→
 match prParts P m p acc.length with
 | .bad e=>e≠0∧∃q l,q≤b.length∧impl_treeReader_parts.l11 k S f (deep:Int) many item i (rdE b p 0) acc=some ((),(rdE b q e,l))
 | .ok q Y=>q≤b.length∧impl_treeReader_parts.l11 k S f (deep:Int) many item i (rdE b p 0) acc=some ((),(rdE b q 0,acc++Y)):=by
 have hdw:IntKind.wrap .i64 ((deep:Int)+1)=((deep+1:Nat):Int):=by rw [w64 (by omega) (by omega)];omega
 intro m
 induction m with
 |zero=>
  intro f i p acc hi h0 hf hp hc
  obtain ⟨f,rfl⟩:∃j,f=j+1:=⟨f-1,by omega⟩
  simp only [prParts,impl_treeReader_parts.l11,decide_eq_false (show ¬i<many by omega),cond_false,Option.bind_some,List.append_nil]
  exact ⟨hp,trivial⟩
 |succ m ihm=>
  intro f i p acc hi h0 hf hp hc
  obtain ⟨f,rfl⟩:∃j,f=j+1:=⟨f-1,by omega⟩
  have hi1:IntKind.wrap .i64 (i+1)=i+1:=w64 (by omega) (by omega)
  have h1:=ih p acc hp hc
  simp only [prParts,impl_treeReader_parts.l11,decide_eq_true (show i<many by omega),cond_true,Option.bind_some,beqT rfl,hdw,hi1]
  unfold INode at h1
  cases hr:P p acc.length with
  |bad e=>
   rw [hr] at h1
   obtain ⟨he,q,l,hq,e1⟩:=h1
   refine ⟨he,q,l,hq,?_⟩
   obtain ⟨f,rfl⟩:∃j,f=j+1:=⟨f-1,by omega⟩
   simp only [e1,Option.bind_some,impl_treeReader_parts.l11,beqF he]
   cases decide (i+1<many)<;>rfl
  |ok q Y=>
   rw [hr] at h1
   obtain ⟨hq,e1⟩:=h1
   have hlen:=hP _ _ _ _ hc hr
   have h2:=ihm f (i+1) q (acc++Y) (by omega) (by omega) (by omega) hq (by rw [List.length_append];exact hlen)
   rw [List.length_append] at h2
   simp only [e1,Option.bind_some]
   cases hr2:prParts P m q (acc.length+Y.length) with
   |bad e=>rw [hr2] at h2;exact h2
   |ok q2 Z=>rw [hr2] at h2;simpa [List.append_assoc] using h2
def IField (b:List Int) (pre:List TNode) (id0:Int) (j:Nat) (mid:List TNode) (r:Res (Nat×List TNode)) (X:Option (Unit×TTreeReaderB×List TNode)):Prop:=
 match r with
 | .bad e=>e≠0∧∃q l,q≤b.length∧X=some ((),(rdE b q e,l))
 | .ok q (m,Y)=>q≤b.length∧X=some ((),(rdE b q 0,pre++sn id0 ((j+m:Nat):Int)::(mid++Y)))
theorem ifields (hk:2000≤k) (S:Int→Int→Int→TTreeReaderB→List TNode→Option (Unit×TTreeReaderB×List TNode)) (b:List Int) (hl:b.length<4611686018427387904) (hb:Byt b) (deep:Nat) (hdeep:deep≤100) (P:Int→Int→Nat→Nat→Res (List TNode))
 (ih:∀(t id:Int) (p:Nat) (acc:List TNode),isKind t=true→p≤b.length→acc.length≤1500→INode S b t id ((deep+1:Nat):Int) p acc (P t id p acc.length))
 (hP:∀t id p c q Y,isKind t=true→c≤1500→P t id p c= .ok q Y→c+Y.length≤1500) (id0:Int) (pre:List TNode):
 ∀(g f:Nat) (last:Int) (p:Nat) (j:Nat) (mid:List TNode),1002≤(g:Int)+last→0≤last→last≤1000→g<f→p≤b.length→pre.length+1+mid.length≤1500→(j:Int)+g≤4000→
 IField b pre id0 j mid (prFields P b g last p (pre.length+1+mid.length)) (impl_treeReader_fields.l1 k S f (pre.length:Int) (deep:Int) last (rdE b p 0) (pre++sn id0 j::mid)):=by
 have hdw:IntKind.wrap .i64 ((deep:Int)+1)=((deep+1:Nat):Int):=by rw [w64 (by omega) (by omega)];omega
 intro g
 induction g with
 |zero=>intro f last p j mid h1 h2 h3;omega
 |succ g ihg=>
  intro f last p j mid h1 h2 h3 hf hp hc hj
  obtain ⟨f,rfl⟩:∃j,f=j+1:=⟨f-1,by omega⟩
  simp only [prFields,prHead,impl_treeReader_fields.l1,one_any k hl hb p hp]
  cases hy:b[p]? with
  |none=>
   refine ⟨by decide,p,pre++sn id0 j::mid,hp,?_⟩
   simp only [Option.bind_some,bneT (show ¬(1:Int)=0 by decide),cst,Bool.true_or,cond_true]
  |some y=>
   have hp1:p<b.length:=(List.getElem?_eq_some_iff.1 hy).1
   obtain ⟨y0,y1⟩:=hb y (List.mem_of_getElem? hy)
   simp only [Option.bind_some,bneF rfl,cst,Bool.false_or]
   by_cases hy0:y=0
   ·rw [if_pos hy0]
    simp only [beqT hy0,cond_true,if_true]
    exact ⟨by omega,by simp⟩
   ·have hmod:Int.tmod y 16=y%16:=Int.tmod_eq_emod_of_nonneg y0
    have hdiv:IntKind.wrap .i64 (last+IntKind.wrap .i64 (Int.tdiv y 16))=last+y/16:=by
     rw [Int.tdiv_eq_ediv_of_nonneg y0,w64 (show -9223372036854775808≤y/16 by omega) (by omega),w64 (by omega) (by omega)]
    rw [if_neg hy0]
    simp only [beqF hy0,cond_false,hmod,hdiv,isType_eq,Option.bind_some]
    have hty:(isItem (y%16)||((y%16==1||y%16==2)&& !false))=isKind (y%16):=by
     unfold isKind
     cases isItem (y%16)<;>cases (y%16==1)<;>cases (y%16==2)<;>rfl
    rw [hty]
    have stuck8:∀(q:Nat) (e:Int),e≠0→∀x y z:Int,impl_treeReader_fields.c8 k S (impl_treeReader_fields.l1 k S f) (pre.length:Int) (deep:Int) x y z (rdE b q e) (pre++sn id0 j::mid)=some ((),(rdE b q e,pre++sn id0 j::mid)):=by
     intro q e he x y z
     simp only [impl_treeReader_fields.c8,impl_treeReader_fields.c10,impl_treeReader_fields.c12,beqF he,cond_false,Option.bind_some,bneT he,cond_true]
    by_cases hkd:isKind (y%16)=true
    ·rw [if_neg (by rw [hkd];decide),hkd]
     simp only [Bool.not_true,cond_false,impl_treeReader_fields.c6]
     have tail:∀(id:Int) (q:Nat),I64 id→q≤b.length→
      IField b pre id0 j mid (match (if id<1∨1000<id then (.bad 3:Res (Int×Int)) else if id≤last then .bad 5 else .ok q (y%16,id)) with
       | .bad e=> .bad e
       | .ok q (t,id)=>if t=0 then .ok q (0,[]) else match P t id q (pre.length+1+mid.length) with
         | .bad e=> .bad e
         | .ok r Y=>match prFields P b g id r (pre.length+1+mid.length+Y.length) with
           | .bad e=> .bad e
           | .ok z (m,Z)=> .ok z (m+1,Y++Z))
       (impl_treeReader_fields.c8 k S (impl_treeReader_fields.l1 k S f) (pre.length:Int) (deep:Int) last (y%16) id (rdE b q 0) (pre++sn id0 j::mid)):=by
      have ht0:¬y%16=0:=by rcases kind_cases hkd with e|e|e|e|e|e|e<;>omega
      intro id q hid hq
      have hget:∀x:TNode,rdL (pre++x::mid) (pre.length:Int)=some x:=fun x=>by
       rw [rdL_nat,List.getElem?_append_right (Nat.le_refl _)];simp
      have hset:∀x y:TNode,List.set (pre++x::mid) (Int.toNat (pre.length:Int)) y=pre++y::mid:=fun x y=>by
       rw [Int.toNat_natCast,List.set_append_right _ _ (Nat.le_refl _)];simp
      by_cases c1:id<1∨1000<id
      ·rw [if_pos c1]
       have hw:(decide ((1:Int)≤id)&&decide (id≤1000))=false:=by
        rw [Bool.eq_false_iff];intro q
        simp only [Bool.and_eq_true,decide_eq_true_eq] at q
        omega
       refine ⟨by decide,q,pre++sn id0 j::mid,hq,?_⟩
       simp only [impl_treeReader_fields.c8,beqT rfl,cond_true,within_eq,hw,Option.bind_some,Bool.not_false,fail_ok,impl_treeReader_fields.c10,impl_treeReader_fields.c12,beqF (show ¬(3:Int)=0 by decide),cond_false,bneT (show ¬(3:Int)=0 by decide)]
      ·rw [if_neg c1]
       have hw:(decide ((1:Int)≤id)&&decide (id≤1000))=true:=by simp;omega
       simp only [impl_treeReader_fields.c8,beqT rfl,cond_true,within_eq,hw,Option.bind_some,Bool.not_true,cond_false,impl_treeReader_fields.c10]
       by_cases c2:id≤last
       ·rw [if_pos c2]
        refine ⟨by decide,q,pre++sn id0 j::mid,hq,?_⟩
        simp only [decide_eq_true c2,cond_true,fail_ok,Option.bind_some,impl_treeReader_fields.c12,bneT (show ¬(5:Int)=0 by decide)]
       ·rw [if_neg c2]
        have hjw:IntKind.wrap .i64 ((j:Int)+1)=((j+1:Nat):Int):=by rw [w64 (by omega) (by omega)];omega
        have hsn:((sn id0 j).1,(sn id0 j).2.1,(sn id0 j).2.2.1,(sn id0 j).2.2.2.1,IntKind.wrap .i64 ((sn id0 j).2.2.2.2.1+1),())=sn id0 ((j+1:Nat):Int):=by
         show (_,_,_,_,IntKind.wrap .i64 ((j:Int)+1),())=_
         rw [hjw];rfl
        simp only [decide_eq_false c2,cond_false,impl_treeReader_fields.c12,bneF rfl,hget,hset,Option.bind_some,hdw,hsn,if_neg ht0]
        have hn:=ih (y%16) id q (pre++sn id0 ((j+1:Nat):Int)::mid) hkd hq (by simp;omega)
        rw [show (pre++sn id0 ((j+1:Nat):Int)::mid).length=pre.length+1+mid.length by simp;omega] at hn
        unfold INode at hn
        cases hr:P (y%16) id q (pre.length+1+mid.length) with
        |bad e=>
         rw [hr] at hn
         obtain ⟨he,q',l,hq',e1⟩:=hn
         refine ⟨he,q',l,hq',?_⟩
         obtain ⟨f,rfl⟩:∃j,f=j+1:=⟨f-1,by omega⟩
         simp only [e1,Option.bind_some,impl_treeReader_fields.l1,one_no k q' he,bneT he,cst,Bool.true_or,cond_true]
        |ok r Y=>
         rw [hr] at hn
         obtain ⟨hr1,e1⟩:=hn
         have hlen:=hP _ _ _ _ _ _ hkd (by omega) hr
         have h4:=ihg f id r (j+1) (mid++Y) (by omega) (by omega) (by omega) (by omega) hr1 (by rw [List.length_append];omega) (by omega)
         rw [List.length_append,←Nat.add_assoc] at h4
         simp only [e1,Option.bind_some,List.append_assoc,List.cons_append]
         cases hr2:prFields P b g id r (pre.length+1+mid.length+Y.length) with
         |bad e=>rw [hr2] at h4;exact h4
         |ok z x=>
          obtain ⟨m,Z⟩:=x
          rw [hr2] at h4
          obtain ⟨h5,h6⟩:=h4
          refine ⟨h5,?_⟩
          rw [h6,show j+1+m=j+(m+1) by omega,List.append_assoc]
     by_cases h16:y/16=0
     ·simp only [if_pos h16,decide_eq_true (show y<16 by omega),cond_true,uvar_any k hk hl hb (p+1) (by omega)]
      cases hg:gv (b.drop (p+1)) with
      |none=>
       simp only [Option.map_none,Option.bind_some]
       obtain ⟨w,hw⟩:∃w,impl_Zag k 0=some w:=⟨_,zag_eq k ⟨by decide,by decide⟩⟩
       refine ⟨by decide,p+1,pre++sn id0 j::mid,by omega,?_⟩
       rw [hw,Option.bind_some,stuck8 (p+1) 1 (by decide)]
      |some z=>
       obtain ⟨u,n⟩:=z
       obtain ⟨f1,f2,f3,f4,f5⟩:=gv_facts _ u n (fun x hx=>hb x (List.mem_of_mem_drop hx)) hg
       rw [List.length_drop] at f3
       simp only [Option.map_some,Option.bind_some,zag_eq k f1]
       exact tail (zagV u) (p+1+n) (zagV_i64 u) (by omega)
     ·simp only [if_neg h16,decide_eq_false (show ¬y<16 by omega),cond_false]
      exact tail (last+y/16) (p+1) ⟨by omega,by omega⟩ (by omega)
    ·have hkf:isKind (y%16)=false:=by simpa using hkd
     rw [if_pos hkf,hkf]
     simp only [Bool.not_false,cond_true,fail_ok,Option.bind_some,impl_treeReader_fields.c6]
     refine ⟨by decide,p+1,pre++sn id0 j::mid,by omega,?_⟩
     by_cases h16:y<16
     ·obtain ⟨w,hw⟩:∃w,impl_Zag k 0=some w:=⟨_,zag_eq k ⟨by decide,by decide⟩⟩
      simp only [decide_eq_true h16,cond_true,uvar_no k hk hl hb (p+1) (by omega) (show (2:Int)≠0 by decide),Option.bind_some,hw,stuck8 (p+1) 2 (by decide)]
     ·simp only [decide_eq_false h16,cond_false,stuck8 (p+1) 2 (by decide)]
theorem begin_any {n:TNode} {b:List Int} {p:Nat} {deep:Nat} {acc:List TNode} (hd:deep≤100) (ha:acc.length≤1500):
 impl_treeReader_begin k n (deep:Int) (rdE b p 0) acc=if 12<deep∨acc.length=1500 then some (0,(rdE b p 4,acc)) else some ((acc.length:Int),(rdE b p 0,acc++[n])):=by
 by_cases h:12<deep∨acc.length=1500
 ·rw [if_pos h]
  unfold impl_treeReader_begin impl_treeReader_begin.c3
  have:(decide ((deep:Int)>12)||((acc.length:Int)==1500))=true:=by
   rcases h with h|h
   ·rw [decide_eq_true (show (deep:Int)>12 by omega),Bool.true_or]
   ·rw [beqT (show (acc.length:Int)=1500 by omega),Bool.or_true]
  simp only [cst,this,Option.bind_some,cond_true,fail_ok,bneT (show ¬(4:Int)=0 by decide)]
 ·rw [if_neg h]
  exact begin_ok k rfl (by omega) (by omega)
theorem irdN (hk:2000≤k) (b:List Int) (hl:b.length<4611686018427387904) (hb:Byt b):∀(d D deep:Nat) (kind id:Int) (p:Nat) (acc:List TNode),d+deep=13→2*d<D→isKind kind=true→p≤b.length→acc.length≤1500→
 INode (impl_treeReader_node.rec k D).1 b kind id (deep:Int) p acc (prN d b kind id p acc.length):=by
 intro d
 induction d with
 |zero=>
  intro D deep kind id p acc hdd hD hkd hp hc
  obtain ⟨D,rfl⟩:∃m,D=m+1:=⟨D-1,by omega⟩
  refine ⟨by decide,p,acc,hp,?_⟩
  simp only [impl_treeReader_node.rec,impl_treeReader_node.b]
  rw [begin_any k (by omega) hc,if_pos (by omega)]
  simp only [Option.bind_some,bneT (show ¬(4:Int)=0 by decide),cond_true]
 |succ d ih=>
  intro D deep kind id p acc hdd hD hkd hp hc
  obtain ⟨D,rfl⟩:∃m,D=m+2:=⟨D-2,by omega⟩
  have hset:∀(acc:List TNode) (x y:TNode),List.set (acc++[x]) (Int.toNat (acc.length:Int)) y=acc++[y]:=fun acc x y=>by
   rw [Int.toNat_natCast,List.set_append_right _ _ (Nat.le_refl _)];simp
  have hget:∀(acc:List TNode) (x:TNode),rdL (acc++[x]) (acc.length:Int)=some x:=fun acc x=>by
   rw [rdL_nat,List.getElem?_append_right (Nat.le_refl _)];simp
  unfold prN
  by_cases hc5:acc.length=1500
  ·rw [if_pos hc5]
   refine ⟨by decide,p,acc,hp,?_⟩
   simp only [impl_treeReader_node.rec,impl_treeReader_node.b]
   rw [begin_any k (by omega) hc,if_pos (.inr hc5)]
   simp only [Option.bind_some,bneT (show ¬(4:Int)=0 by decide),cond_true]
  ·rw [if_neg hc5]
   unfold INode
   simp only [impl_treeReader_node.rec,impl_treeReader_node.b]
   rw [begin_any k (by omega) hc,if_neg (show ¬(12<deep∨acc.length=1500) by omega)]
   simp only [Option.bind_some,bneF rfl,cond_false]
   by_cases h56:kind=5∨kind=6
   ·rw [if_pos h56]
    have e0:(cond (kind==5)
         (impl_treeReader_node.c5 k (impl_treeReader_node.rec k (D+1)).2.1 (impl_treeReader_node.rec k (D+1)).2.2 kind (deep:Int) (acc.length:Int) kind (kind==5) (rdE b p 0) (acc++[(kind,id,0,(⟨#[]⟩:ByteArray),0,())]))
         (impl_treeReader_node.c5 k (impl_treeReader_node.rec k (D+1)).2.1 (impl_treeReader_node.rec k (D+1)).2.2 kind (deep:Int) (acc.length:Int) kind (kind==6) (rdE b p 0) (acc++[(kind,id,0,(⟨#[]⟩:ByteArray),0,())])))
     =impl_treeReader_node.c5 k (impl_treeReader_node.rec k (D+1)).2.1 (impl_treeReader_node.rec k (D+1)).2.2 kind (deep:Int) (acc.length:Int) kind true (rdE b p 0) (acc++[(kind,id,0,(⟨#[]⟩:ByteArray),0,())]):=by
     rcases h56 with h|h
     ·rw [beqT h,cond_true]
     ·rw [beqF (show ¬kind=5 by omega),beqT h,cond_false]
    simp only [impl_treeReader_node.rec] at e0
    rw [e0]
    simp only [impl_treeReader_node.c5,cond_true,uvar_any k hk hl hb p hp]
    cases hg:gv (b.drop p) with
    |none=>
     obtain ⟨w,hw⟩:∃w,impl_Zag k 0=some w:=⟨_,zag_eq k ⟨by decide,by decide⟩⟩
     refine ⟨by decide,p,acc++[(kind,id,w,⟨#[]⟩,0,())],hp,?_⟩
     simp only [Option.bind_some,hw,beqF (show ¬(1:Int)=0 by decide),csf,Bool.and_false,cond_false,impl_treeReader_node.c8,hget,hset]
    |some z=>
     obtain ⟨u,n⟩:=z
     obtain ⟨f1,f2,f3,f4,f5⟩:=gv_facts _ u n (fun x hx=>hb x (List.mem_of_mem_drop hx)) hg
     rw [List.length_drop] at f3
     simp only [Option.bind_some,zag_eq k f1,beqT rfl,csf,Bool.and_true,impl_isInt32,within_eq]
     have h32:(decide (-2147483648≤zagV u)&&decide (zagV u≤2147483647))=int32 (zagV u):=rfl
     rw [h32]
     by_cases hbad:kind=5∧int32 (zagV u)=false
     ·rw [if_pos hbad]
      refine ⟨by decide,p+n,acc++[(kind,id,zagV u,⟨#[]⟩,0,())],by omega,?_⟩
      simp only [beqT hbad.1,hbad.2,Bool.not_false,Bool.and_self,cond_true,fail_ok,Option.bind_some,impl_treeReader_node.c8,hget,hset]
     ·rw [if_neg hbad]
      have hb2:((kind==5)&& !int32 (zagV u))=false:=by
       rw [Bool.eq_false_iff];intro q
       simp only [Bool.and_eq_true,beq_iff_eq,Bool.not_eq_true'] at q
       exact hbad q
      refine ⟨by omega,?_⟩
      simp only [hb2,cond_false,impl_treeReader_node.c8,hget,hset,Option.bind_some]
   ·rw [if_neg h56]
    have e5:(kind==5)=false:=beqF (by omega)
    have e6:(kind==6)=false:=beqF (by omega)
    simp only [e5,e6,cond_false,impl_treeReader_node.c5]
    by_cases h8:kind=8
    ·subst h8
     simp only [if_true,show ((8:Int)==8)=true from rfl,cond_true,impl_treeReader_node.d10]
     have ht:=text_any k hk hl hb p hp (acc++[(8,id,0,(⟨#[]⟩:ByteArray),0,())])
     cases hr:prText b p with
     |bad e=>
      rw [hr] at ht
      obtain ⟨he,q,hq,e1⟩:=ht
      refine ⟨he,q,acc++[(8,id,0,⟨#[]⟩,0,())],hq,?_⟩
      simp only [e1,Option.bind_some,hget,hset]
     |ok q s=>
      rw [hr] at ht
      have hq:q≤b.length:=by
       unfold prText at hr
       split at hr
       ·cases hr
       ·rename_i u n hg
        obtain ⟨f1,f2,f3,f4,f5⟩:=gv_facts _ u n (fun x hx=>hb x (List.mem_of_mem_drop hx)) hg
        rw [List.length_drop] at f3
        split at hr
        ·cases hr
        ·split at hr
         ·cases hr
         ·simp only [Res.ok.injEq] at hr
          omega
      refine ⟨hq,?_⟩
      simp only [ht,Option.bind_some,hget,hset]
    ·rw [if_neg h8]
     simp only [beqF h8,cond_false]
     by_cases h9:kind=9
     ·subst h9
      simp only [if_true,show ((9:Int)==9)=true from rfl,cond_true,impl_treeReader_parts.b,prMany,one_any k hl hb p hp]
      cases hy:b[p]? with
      |none=>
       refine ⟨by decide,p,acc++[(9,id,0,⟨#[]⟩,0,())],hp,?_⟩
       simp only [Option.bind_some,show (IntKind.wrap .i64 (Int.tdiv 0 16)==15)=false by decide,cond_false,impl_treeReader_parts.c4,bneT (show ¬(1:Int)=0 by decide),cst,Bool.true_or,cond_true]
      |some y=>
       have hp1:p<b.length:=(List.getElem?_eq_some_iff.1 hy).1
       obtain ⟨y0,y1⟩:=hb y (List.mem_of_getElem? hy)
       have e16:IntKind.wrap .i64 (Int.tdiv y 16)=y/16:=by
        rw [Int.tdiv_eq_ediv_of_nonneg y0,w64 (by omega) (by omega)]
       have em:Int.tmod y 16=y%16:=Int.tmod_eq_emod_of_nonneg y0
       simp only [Option.bind_some,e16,em]
       have tail:∀(many:Int) (q:Nat),I64 many→q≤b.length→
        match (match (if many=0 then (.ok q (0,0):Res (Int×Int)) else if isItem (y%16)=false then .bad 2 else if many<0∨1500<many then .bad 4 else .ok q (many,y%16)) with
         | .bad e=>(.bad e:Res (List TNode))
         | .ok q (many,item)=>match prParts (fun p c=>prN d b item 0 p c) many.toNat q (acc.length+1) with
           | .bad e=> .bad e
           | .ok r Y=> .ok r ((9,id,item,⟨#[]⟩,many,())::Y)) with
        | .bad e=>e≠0∧∃q' l,q'≤b.length∧((impl_treeReader_parts.c4 k (impl_treeReader_node.rec k D).1 (acc.length:Int) (deep:Int) many (y%16) (rdE b q 0) (acc++[(9,id,0,(⟨#[]⟩:ByteArray),0,())])).bind fun r12=>some ((),(r12.2.1,r12.2.2)))=some ((),(rdE b q' e,l))
        | .ok q' Y=>q'≤b.length∧((impl_treeReader_parts.c4 k (impl_treeReader_node.rec k D).1 (acc.length:Int) (deep:Int) many (y%16) (rdE b q 0) (acc++[(9,id,0,(⟨#[]⟩:ByteArray),0,())])).bind fun r12=>some ((),(r12.2.1,r12.2.2)))=some ((),(rdE b q' 0,acc++Y)):=by
        intro many q hmany hq
        simp only [impl_treeReader_parts.c4,bneF rfl,cst,Bool.false_or,Option.bind_some]
        by_cases h0:many=0
        ·simp only [if_pos h0,Int.toNat_zero,prParts,beqT h0,cond_true,Option.bind_some]
         exact ⟨hq,trivial⟩
        ·simp only [if_neg h0,beqF h0,cond_false,isType_eq,Bool.not_true,Bool.and_false,Bool.or_false,Option.bind_some]
         by_cases hi:isItem (y%16)=true
         ·rw [if_neg (by rw [hi];decide),hi]
          simp only [Bool.not_true,cond_false,impl_treeReader_parts.c7,within_eq,Option.bind_some]
          by_cases hm:many<0∨1500<many
          ·have hw:(decide ((0:Int)≤many)&&decide (many≤1500))=false:=by
            rw [Bool.eq_false_iff];intro q
            simp only [Bool.and_eq_true,decide_eq_true_eq] at q
            omega
           obtain ⟨K,hK⟩:∃K,k=K+1:=⟨k-1,by omega⟩
           rw [if_pos hm]
           refine ⟨by decide,q,acc++[(9,id,y%16,⟨#[]⟩,many,())],hq,?_⟩
           have hstop:impl_treeReader_parts.l11 k (impl_treeReader_node.rec k D).1 k (deep:Int) many (y%16) 0 (rdE b q 4) (acc++[(9,id,y%16,⟨#[]⟩,many,())])=some ((),(rdE b q 4,acc++[(9,id,y%16,⟨#[]⟩,many,())])):=by
            conv=>lhs;rw [show k=k from rfl]
            have:∀f,f≠0→impl_treeReader_parts.l11 k (impl_treeReader_node.rec k D).1 f (deep:Int) many (y%16) 0 (rdE b q 4) (acc++[(9,id,y%16,⟨#[]⟩,many,())])=some ((),(rdE b q 4,acc++[(9,id,y%16,⟨#[]⟩,many,())])):=by
             intro f hf
             obtain ⟨f,rfl⟩:∃j,f=j+1:=⟨f-1,by omega⟩
             simp only [impl_treeReader_parts.l11,beqF (show ¬(4:Int)=0 by decide)]
             cases decide ((0:Int)<many)<;>rfl
            exact this k (by omega)
           simp only [hw,Bool.not_false,cond_true,fail_ok,Option.bind_some,impl_treeReader_parts.c9,hget,hset,hstop]
          ·rw [if_neg hm]
           have hw:(decide ((0:Int)≤many)&&decide (many≤1500))=true:=by simp;omega
           simp only [hw,Bool.not_true,cond_false,impl_treeReader_parts.c9,hget,hset,Option.bind_some]
           have hp:=iparts k (impl_treeReader_node.rec k D).1 b (y%16) deep (by omega) (fun p c=>prN d b (y%16) 0 p c)
            (fun p acc hp hc=>ih D (deep+1) (y%16) 0 p acc (by omega) (by omega) (isKind_of_item hi) hp hc)
            (fun p c q Y hc h=>by
             obtain ⟨_,n,X,rfl,_,_,_,h5⟩:=prN_enc d b (y%16) 0 p c q Y (isKind_of_item hi) hc h
             exact h5) many (by omega) many.toNat k 0 q (acc++[(9,id,y%16,⟨#[]⟩,many,())]) (by omega) (by omega) (by omega) hq (by simp;omega)
           rw [List.length_append,List.length_singleton] at hp
           cases hr:prParts (fun p c=>prN d b (y%16) 0 p c) many.toNat q (acc.length+1) with
           |bad e=>
            rw [hr] at hp
            obtain ⟨he,q',l,hq',e1⟩:=hp
            exact ⟨he,q',l,hq',by rw [e1];rfl⟩
           |ok q' Y=>
            rw [hr] at hp
            obtain ⟨hq',e1⟩:=hp
            exact ⟨hq',by rw [e1];simp⟩
         ·have hif:isItem (y%16)=false:=by simpa using hi
          rw [if_pos hif,hif]
          simp only [Bool.not_false,cond_true,fail_ok,Option.bind_some,impl_treeReader_parts.c7,within_eq]
          have hstop:impl_treeReader_parts.c9 k (impl_treeReader_node.rec k D).1 (acc.length:Int) (deep:Int) many (y%16) (rdE b q 2) (acc++[(9,id,0,(⟨#[]⟩:ByteArray),0,())])=some ((),(rdE b q 2,acc++[(9,id,y%16,⟨#[]⟩,many,())])):=by
           simp only [impl_treeReader_parts.c9,hget,hset,Option.bind_some]
           have:∀f,f≠0→impl_treeReader_parts.l11 k (impl_treeReader_node.rec k D).1 f (deep:Int) many (y%16) 0 (rdE b q 2) (acc++[(9,id,y%16,⟨#[]⟩,many,())])=some ((),(rdE b q 2,acc++[(9,id,y%16,⟨#[]⟩,many,())])):=by
            intro f hf
            obtain ⟨f,rfl⟩:∃j,f=j+1:=⟨f-1,by omega⟩
            simp only [impl_treeReader_parts.l11,beqF (show ¬(2:Int)=0 by decide)]
            cases decide ((0:Int)<many)<;>rfl
           exact this k (by omega)
          refine ⟨by decide,q,acc++[(9,id,y%16,⟨#[]⟩,many,())],hq,?_⟩
          cases hw:(decide ((0:Int)≤many)&&decide (many≤1500)) with
          |true=>simp only [Bool.not_true,cond_false,hstop,Option.bind_some]
          |false=>simp only [Bool.not_false,cond_true,fail_no k b q (show (2:Int)≠0 by decide),Option.bind_some,hstop]
       by_cases h15:y/16=15
       ·simp only [if_pos h15,beqT h15,cond_true,uvar_any k hk hl hb (p+1) (by omega)]
        cases hg:gv (b.drop (p+1)) with
        |none=>
         refine ⟨by decide,p+1,acc++[(9,id,0,⟨#[]⟩,0,())],by omega,?_⟩
         simp only [Option.map_none,Option.bind_some,impl_treeReader_parts.c4,bneT (show ¬(1:Int)=0 by decide),cst,Bool.true_or,cond_true]
        |some z=>
         obtain ⟨u,n⟩:=z
         obtain ⟨f1,f2,f3,f4,f5⟩:=gv_facts _ u n (fun x hx=>hb x (List.mem_of_mem_drop hx)) hg
         rw [List.length_drop] at f3
         simp only [Option.map_some,Option.bind_some]
         exact tail u (p+1+n) f1 (by omega)
       ·simp only [if_neg h15,beqF h15,cond_false]
        exact tail (y/16) (p+1) ⟨by omega,by omega⟩ (by omega)
     ·rw [if_neg h9]
      simp only [beqF h9,cond_false]
      by_cases h12:kind=12
      ·subst h12
       simp only [if_true,show ((12:Int)==12)=true from rfl,cond_true,impl_treeReader_fields.b]
       have hf:=ifields k hk (impl_treeReader_node.rec k D).1 b hl hb deep (by omega) (fun t id p c=>prN d b t id p c)
        (fun t id p acc ht hp hc=>ih D (deep+1) t id p acc (by omega) (by omega) ht hp hc)
        (fun t id p c q Y ht hc h=>by
         obtain ⟨_,n,X,rfl,_,_,_,h5⟩:=prN_enc d b t id p c q Y ht hc h
         exact h5) id acc 1002 k 0 p 0 [] (by omega) (by omega) (by omega) (by omega) hp (by simp;omega) (by omega)
       rw [List.length_nil,Nat.add_zero] at hf
       rw [show (acc++[((12:Int),id,(0:Int),(⟨#[]⟩:ByteArray),(0:Int),())]:List TNode)=acc++sn id ((0:Nat):Int)::[] from rfl]
       unfold IField at hf
       cases hr:prFields (fun t id p c=>prN d b t id p c) b 1002 0 p (acc.length+1) with
       |bad e=>
        rw [hr] at hf
        obtain ⟨he,q',l,hq',e1⟩:=hf
        exact ⟨he,q',l,hq',by rw [e1];rfl⟩
       |ok q' x=>
        obtain ⟨m,Y⟩:=x
        rw [hr] at hf
        obtain ⟨hq',e1⟩:=hf
        refine ⟨hq',?_⟩
        rw [e1]
        simp [sn]
      ·rw [if_neg h12]
       simp only [beqF h12,cond_false]
       exact ⟨hp,trivial⟩
end Go.Law
end
