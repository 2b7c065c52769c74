/- the claim's functions as plain Lean -/
import Derived.Test.YtohaijhiclmkkaaGreatAmStep
set_option linter.unusedVariables false
namespace Go.Fn
open Go.Am
abbrev TMetaReader:=Unit×Bool×Unit
abbrev TLeaf:=Int×Int×Int×Unit
abbrev TVal:=Int×ByteArray×Unit
abbrev THeadReader:=Unit×Int×Bool×Unit
abbrev TCol:=ByteArray×Int×Int×Int×Unit
abbrev TTreeReaderB:=(List Int)×Int×Unit×Int×Unit
abbrev TDeltaReaderB:=(List Int)×Int×Bool×Unit×Unit
abbrev TRec:=(List TVal)×Unit
abbrev TNode:=Int×Int×Int×ByteArray×Int×Unit
abbrev TTriple:=Int×Int×TVal×Unit
abbrev TDeltaReader:=(List Int)×Int×Bool×(List Int)×Unit
abbrev TChunk:=Int×Int×Int×Int×Int×(List Int)×Unit
abbrev TPred:=Int×Int×TVal×Int×Int×Unit
abbrev TColumn:=(List TTriple)×Unit
abbrev TTreeB:=(List TNode)×Unit×Unit
abbrev TGroupMeta:=Int×(List TChunk)×Unit
abbrev TTree:=(List TNode)×(List Int)×Unit
abbrev TStats:=Int×Bool×TVal×TVal×Unit
abbrev TTreeReader:=(List Int)×Int×(List TNode)×Int×Unit
abbrev TKnown:=Bool×TStats×Unit
abbrev TWalker:=(List TCol)×(List TVal)×Bool×Unit×Unit×Unit
abbrev TStripe:=Int×(List TKnown)×(List Int)×Unit
abbrev TMeta:=(List TCol)×Int×(List TGroupMeta)×Unit
abbrev THead:=Int×Int×Int×Int×Int×Int×Int×Int×Bool×Int×Bool×TStats×Int×Unit
abbrev TJoiner:=(List TCol)×(List TColumn)×(List Int)×(List Int)×(List TVal)×Bool×Bool×Unit
def laws_toLeaf (k:Nat) (t0:TLeaf):Option (TLeaf):=
 some t0
def laws_toByteS.l3 (k:Nat):Nat→(List Int)→Int→(List Int)→Option (Unit×(List Int))
 |0,_,_,_=>none
 |n+1,t0,t4,o100=>
  cond (decide (t4<(List.length t0:Int))) ((rdL t0 t4).bind fun y1=>(rdL o100 t4).bind fun y2=>(rdL o100 t4).bind fun y3=>(laws_toByteS.l3 k n) t0 (IntKind.wrap .i64 (t4+1)) (List.set o100 (Int.toNat t4) y1)) (some ((),o100))
def laws_toByteS (k:Nat) (t0:List Int):Option (Unit×(List Int)):=
 cond (okLen (List.length t0:Int)) (laws_toByteS.l3 k k t0 0 (List.replicate (Int.toNat (List.length t0:Int)) 0)) none
def laws_eqVal (k:Nat) (t0:TVal) (t1:TVal):Option Bool:=
 cond (t0.1 !=t1.1) (some false) (cond (!eqS t0.2.1 t1.2.1) (some false) (some true))
def laws_eqTriple (k:Nat) (t0:TTriple) (t1:TTriple):Option Bool:=
 cond (t0.1 !=t1.1) (some false) (cond (t0.2.1 !=t1.2.1) (some false) ((laws_eqVal k t0.2.2.1 t1.2.2.1).bind fun r1=>cond (!r1) (some false) (some true)))
def laws_eqTripleS.l4 (k:Nat):Nat→(List TTriple)→(List TTriple)→Int→Option Bool
 |0,_,_,_=>none
 |n+1,t0,t1,t5=>
  cond (decide (t5<(List.length t0:Int))) ((rdL t0 t5).bind fun y1=>(rdL t1 t5).bind fun y2=>(laws_eqTriple k y1 y2).bind fun r3=>cond (!r3) (some false) ((laws_eqTripleS.l4 k n) t0 t1 (IntKind.wrap .i64 (t5+1)))) (some true)
def laws_eqTripleS (k:Nat) (t0:List TTriple) (t1:List TTriple):Option Bool:=
 cond ((List.length t0:Int) !=(List.length t1:Int)) (some false) (laws_eqTripleS.l4 k k t0 t1 0)
def laws_eqByteS.l4 (k:Nat):Nat→(List Int)→(List Int)→Int→Option Bool
 |0,_,_,_=>none
 |n+1,t0,t1,t5=>
  cond (decide (t5<(List.length t0:Int))) ((rdL t0 t5).bind fun y1=>(rdL t1 t5).bind fun y2=>cond (y1 !=y2) (some false) ((laws_eqByteS.l4 k n) t0 t1 (IntKind.wrap .i64 (t5+1)))) (some true)
def laws_eqByteS (k:Nat) (t0:List Int) (t1:List Int):Option Bool:=
 cond ((List.length t0:Int) !=(List.length t1:Int)) (some false) (laws_eqByteS.l4 k k t0 t1 0)
def laws_markByteS.l2 (k:Nat):Nat→Int→Int→(List Int)→Option (Int×(List Int))
 |0,_,_,_=>none
 |n+1,t1,t5,o10=>
  cond (decide (t5<(List.length o10:Int))) ((rdL o10 t5).bind fun y1=>(rdL o10 t5).bind fun y2=>(laws_markByteS.l2 k n) (IntKind.wrap .i64 (t1+1)) (IntKind.wrap .i64 (t5+1)) (List.set o10 (Int.toNat t5) (IntKind.wrap .u8 t1))) (some (t1,o10))
def laws_markByteS (k:Nat) (t1:Int) (o10:List Int):Option (Int×(List Int)):=
 laws_markByteS.l2 k k t1 0 o10
def laws_markText.l4 (k:Nat):Nat→Int→ByteArray→Option ByteArray
 |0,_,_=>none
 |n+1,t0,t3=>
  cond (decide (t0>0)) (cond (lim ((intsStr [IntKind.wrap .u8 (IntKind.wrap .i64 (48+(Int.tmod t0 10)))]).size+t3.size)) ((laws_markText.l4 k n) (IntKind.wrap .i64 (Int.tdiv t0 10)) ((intsStr [IntKind.wrap .u8 (IntKind.wrap .i64 (48+(Int.tmod t0 10)))])++t3)) none) (cond (lim ((⟨#[109]⟩:ByteArray).size+t3.size)) (some ((⟨#[109]⟩:ByteArray)++t3)) none)
def laws_markText (k:Nat) (t0:Int):Option ByteArray:=
 cond (decide (t0≤0)) (some (⟨#[109,48]⟩:ByteArray)) (laws_markText.l4 k k t0 (⟨#[]⟩:ByteArray))
def laws_markTripleS.l2 (k:Nat):Nat→Int→Int→(List TTriple)→Option (Int×(List TTriple))
 |0,_,_,_=>none
 |n+1,t1,t5,o10=>
  cond (decide (t5<(List.length o10:Int))) ((rdL o10 t5).bind fun y1=>(rdL o10 t5).bind fun y2=>(rdL (List.set o10 (Int.toNat t5) (t1,y2.2.1,y2.2.2.1,())) t5).bind fun y3=>(rdL (List.set o10 (Int.toNat t5) (t1,y2.2.1,y2.2.2.1,())) t5).bind fun y4=>(rdL (List.set (List.set o10 (Int.toNat t5) (t1,y2.2.1,y2.2.2.1,())) (Int.toNat t5) (y4.1,IntKind.wrap .i64 (t1+1),y4.2.2.1,())) t5).bind fun y5=>(rdL (List.set (List.set o10 (Int.toNat t5) (t1,y2.2.1,y2.2.2.1,())) (Int.toNat t5) (y4.1,IntKind.wrap .i64 (t1+1),y4.2.2.1,())) t5).bind fun y6=>(laws_markText k (IntKind.wrap .i64 ((IntKind.wrap .i64 ((IntKind.wrap .i64 (t1+1))+1))+1))).bind fun r7=>(rdL (List.set (List.set (List.set o10 (Int.toNat t5) (t1,y2.2.1,y2.2.2.1,())) (Int.toNat t5) (y4.1,IntKind.wrap .i64 (t1+1),y4.2.2.1,())) (Int.toNat t5) (y6.1,y6.2.1,(IntKind.wrap .i64 ((IntKind.wrap .i64 (t1+1))+1),y6.2.2.1.2.1,()),())) t5).bind fun y8=>(rdL (List.set (List.set (List.set o10 (Int.toNat t5) (t1,y2.2.1,y2.2.2.1,())) (Int.toNat t5) (y4.1,IntKind.wrap .i64 (t1+1),y4.2.2.1,())) (Int.toNat t5) (y6.1,y6.2.1,(IntKind.wrap .i64 ((IntKind.wrap .i64 (t1+1))+1),y6.2.2.1.2.1,()),())) t5).bind fun y9=>(laws_markTripleS.l2 k n) (IntKind.wrap .i64 ((IntKind.wrap .i64 ((IntKind.wrap .i64 ((IntKind.wrap .i64 (t1+1))+1))+1))+1)) (IntKind.wrap .i64 (t5+1)) (List.set (List.set (List.set (List.set o10 (Int.toNat t5) (t1,y2.2.1,y2.2.2.1,())) (Int.toNat t5) (y4.1,IntKind.wrap .i64 (t1+1),y4.2.2.1,())) (Int.toNat t5) (y6.1,y6.2.1,(IntKind.wrap .i64 ((IntKind.wrap .i64 (t1+1))+1),y6.2.2.1.2.1,()),())) (Int.toNat t5) (y9.1,y9.2.1,(y9.2.2.1.1,r7,()),()))) (some (t1,o10))
def laws_markTripleS (k:Nat) (t1:Int) (o10:List TTriple):Option (Int×(List TTriple)):=
 laws_markTripleS.l2 k k t1 0 o10
def laws_heldTripleS.d13 (k:Nat) (L2:(List TTriple)→Int→Int→Option Int) (t0:List TTriple) (t1:Int) (t5:Int):Option Int:=
 (rdL t0 t5).bind fun y1=>(laws_markText k t1).bind fun r2=>cond (!eqS y1.2.2.1.2.1 r2) (some (-1)) (L2 t0 (IntKind.wrap .i64 (t1+1)) (IntKind.wrap .i64 (t5+1)))
def laws_heldTripleS.l2 (k:Nat):Nat→(List TTriple)→Int→Int→Option Int
 |0,_,_,_=>none
 |n+1,t0,t1,t5=>
  cond (decide (t5<(List.length t0:Int))) ((rdL t0 t5).bind fun y7=>cond (y7.1 !=t1) (some (-1)) ((rdL t0 t5).bind fun y8=>cond (y8.2.1 !=(IntKind.wrap .i64 (t1+1))) (some (-1)) ((rdL t0 t5).bind fun y9=>cond (y9.2.2.1.1 !=(IntKind.wrap .i64 ((IntKind.wrap .i64 (t1+1))+1))) (some (-1)) (laws_heldTripleS.d13 k (laws_heldTripleS.l2 k n) t0 (IntKind.wrap .i64 ((IntKind.wrap .i64 ((IntKind.wrap .i64 (t1+1))+1))+1)) t5)))) (some t1)
def laws_heldTripleS (k:Nat) (t0:List TTriple) (t1:Int):Option Int:=
 laws_heldTripleS.l2 k k t0 t1 0
def laws_szIntS (k:Nat) (t0:List Int) (t1:Int):Option Int:=
 cond (decide ((IntKind.wrap .i64 (t1-(List.length t0:Int)))<0)) (some (-1)) (some (IntKind.wrap .i64 (t1-(List.length t0:Int))))
def laws_szChunk (k:Nat) (t0:TChunk) (t1:Int):Option Int:=
 (laws_szIntS k t0.2.2.2.2.2.1 t1).bind fun r1=>cond (decide (r1<0)) (some (-1)) (some r1)
def spec_UvarGet.l5 (k:Nat):Nat→(List Int)→Int→Int→Int→Option (Int×Int×Bool)
 |0,_,_,_,_=>none
 |n+1,t0,t1,t7,t8=>
  (cond (decide (t8<10)) (some (decide ((IntKind.wrap .i64 (t1+t8))<(List.length t0:Int)))) (some (false))).bind fun b1=>cond b1 ((rdL t0 (IntKind.wrap .i64 (t1+t8))).bind fun y2=>cond (decide (0≤(IntKind.wrap .i64 (7*t8)))) (cond (decide ((IntKind.wrap .i64 y2)<128)) ((cond (t8==9) (some (decide ((IntKind.wrap .i64 y2)>1))) (some (false))).bind fun b3=>cond b3 (some (0,0,false)) (some (bits .or .i64 t7 (shlI .i64 (bits .and .i64 (IntKind.wrap .i64 y2) 127) (IntKind.wrap .i64 (7*t8))),IntKind.wrap .i64 ((IntKind.wrap .i64 (t1+t8))+1),true))) ((spec_UvarGet.l5 k n) t0 t1 (bits .or .i64 t7 (shlI .i64 (bits .and .i64 (IntKind.wrap .i64 y2) 127) (IntKind.wrap .i64 (7*t8)))) (IntKind.wrap .i64 (t8+1)))) none) (some (0,0,false))
def spec_UvarGet (k:Nat) (t0:List Int) (t1:Int):Option (Int×Int×Bool):=
 (cond (decide (t1<0)) (some (true)) (some (decide (t1≥(List.length t0:Int))))).bind fun b4=>cond b4 (some (0,0,false)) (spec_UvarGet.l5 k k t0 t1 0 0)
def spec_l2Down (k:Nat) (t0:Int) (t1:Int):Option Int:=
 cond (t1==0) (some t0) (cond (decide (0≤t1)) (cond (decide (0≤(IntKind.wrap .i64 (64-t1)))) (some (bits .and .i64 (shrI .i64 t0 t1) (IntKind.wrap .i64 ((shlI .i64 1 (IntKind.wrap .i64 (64-t1)))-1)))) none) none)
def spec_Zag (k:Nat) (t0:Int):Option Int:=
 cond ((bits .and .i64 t0 1)==1) ((spec_l2Down k t0 1).bind fun r1=>some (bits .xor .i64 (-1) r1)) ((spec_l2Down k t0 1).bind fun r2=>some r2)
def spec_ZigGet (k:Nat) (t0:List Int) (t1:Int):Option (Int×Int×Bool):=
 (spec_UvarGet k t0 t1).bind fun r1=>cond (!r1.2.2) (some (0,0,false)) ((spec_Zag k r1.1).bind fun r2=>some (r2,r1.2.1,true))
def spec_l1In (k:Nat) (t0:Int) (t1:Int) (t2:Int):Option Bool:=
 (cond (decide (t0≥t1)) (some (decide (t0≤t2))) (some (false))).bind fun b1=>some b1
def spec_l4Int (k:Nat) (t0:Int):Option Bool:=
 (spec_l1In k t0 (-2147483648) 2147483647).bind fun r1=>some r1
def spec_l4Text (k:Nat) (t0:List Int) (t1:Int):Option (ByteArray×Int×Int):=
 (spec_UvarGet k t0 t1).bind fun r1=>cond (!r1.2.2) (some ((⟨#[]⟩:ByteArray),0,1)) ((cond (decide (r1.1<0)) (some (true)) (some (decide (r1.1>300)))).bind fun b2=>cond b2 (some ((⟨#[]⟩:ByteArray),0,4)) (cond (decide ((IntKind.wrap .i64 ((List.length t0:Int)-r1.2.1))<r1.1)) (some ((⟨#[]⟩:ByteArray),0,1)) (cond (inSl r1.2.1 (IntKind.wrap .i64 (r1.2.1+r1.1)) (List.length t0)) (some (intsStr (cutL t0 r1.2.1 (IntKind.wrap .i64 (r1.2.1+r1.1))),IntKind.wrap .i64 (r1.2.1+r1.1),0)) none)))
def spec_l4Kind.c9 (k:Nat) (t4:Bool):Option Bool:=
 cond t4 (some true) (some false)
def spec_l4Kind (k:Nat) (t0:Int):Option Bool:=
 cond (t0==1) (spec_l4Kind.c9 k (t0==1)) (cond (t0==2) (spec_l4Kind.c9 k (t0==2)) (cond (t0==5) (spec_l4Kind.c9 k (t0==5)) (cond (t0==6) (spec_l4Kind.c9 k (t0==6)) (cond (t0==8) (spec_l4Kind.c9 k (t0==8)) (cond (t0==9) (spec_l4Kind.c9 k (t0==9)) (spec_l4Kind.c9 k (t0==12)))))))
def spec_l4Item (k:Nat) (t0:Int):Option Bool:=
 (spec_l4Kind k t0).bind fun r1=>(cond r1 (some (t0 !=1)) (some (false))).bind fun b2=>(cond b2 (some (t0 !=2)) (some (false))).bind fun b3=>some b3
def spec_l4Many.c11 (k:Nat) (t1:Int) (t8:Int) (t9:Int):Option (Int×Int×Int×Int):=
 cond (t8==0) (some (0,0,t1,0)) ((spec_l4Item k t9).bind fun r1=>cond (!r1) (some (0,0,0,2)) ((cond (decide (t8<0)) (some (true)) (some (decide (t8>1500)))).bind fun b2=>cond b2 (some (0,0,0,4)) (some (t8,t9,t1,0))))
def spec_l4Many (k:Nat) (t0:List Int) (t1:Int):Option (Int×Int×Int×Int):=
 cond (decide (t1≥(List.length t0:Int))) (some (0,0,0,1)) ((rdL t0 t1).bind fun y3=>(rdL t0 t1).bind fun y4=>cond ((IntKind.wrap .i64 (Int.tdiv (IntKind.wrap .i64 y3) 16))==15) ((spec_UvarGet k t0 (IntKind.wrap .i64 (t1+1))).bind fun r5=>cond (!r5.2.2) (some (0,0,0,1)) (spec_l4Many.c11 k r5.2.1 r5.1 (Int.tmod (IntKind.wrap .i64 y4) 16))) (spec_l4Many.c11 k (IntKind.wrap .i64 (t1+1)) (IntKind.wrap .i64 (Int.tdiv (IntKind.wrap .i64 y3) 16)) (Int.tmod (IntKind.wrap .i64 y4) 16)))
def spec_l4Head.c16 (k:Nat) (t1:Int) (t2:Int) (t10:Int) (t12:Int):Option (Int×Int×Int×Int):=
 (spec_l1In k t12 1 1000).bind fun r1=>cond (!r1) (some (0,0,0,3)) (cond (decide (t12≤t2)) (some (0,0,0,5)) (some (t10,t12,t1,0)))
def spec_l4Head (k:Nat) (t0:List Int) (t1:Int) (t2:Int):Option (Int×Int×Int×Int):=
 cond (decide (t1≥(List.length t0:Int))) (some (0,0,0,1)) ((rdL t0 t1).bind fun y2=>(rdL t0 t1).bind fun y3=>(rdL t0 t1).bind fun y4=>cond (y4==0) (some (0,0,IntKind.wrap .i64 (t1+1),0)) ((spec_l4Kind k (Int.tmod (IntKind.wrap .i64 y2) 16)).bind fun r5=>cond (!r5) (some (0,0,0,2)) (cond ((IntKind.wrap .i64 (Int.tdiv (IntKind.wrap .i64 y3) 16))==0) ((spec_ZigGet k t0 (IntKind.wrap .i64 (t1+1))).bind fun r6=>cond (!r6.2.2) (some (0,0,0,1)) (spec_l4Head.c16 k r6.2.1 t2 (Int.tmod (IntKind.wrap .i64 y2) 16) r6.1)) (spec_l4Head.c16 k (IntKind.wrap .i64 (t1+1)) t2 (Int.tmod (IntKind.wrap .i64 y2) 16) (IntKind.wrap .i64 (t2+(IntKind.wrap .i64 (Int.tdiv (IntKind.wrap .i64 y3) 16))))))))
def spec_l4Read.l24 (k:Nat) (S162:(List Int)→Int→Int→Int→Int→(List TNode)→Option ((Unit×Int×Int)×(List TNode))):Nat→(List Int)→Int→Int→Int→Int→Int→Int→(List TNode)→Option ((Unit×Int×Int)×(List TNode))
 |0,_,_,_,_,_,_,_,_=>none
 |n+1,t0,t4,t22,t23,t24,t25,t26,o100=>
  (cond (decide (t26<t22)) (some (t25==0)) (some (false))).bind fun b1=>cond b1 ((S162 t0 t24 t23 0 (IntKind.wrap .i64 (t4+1)) o100).bind fun r2=>(spec_l4Read.l24 k S162 n) t0 t4 t22 t23 r2.1.2.1 r2.1.2.2 (IntKind.wrap .i64 (t26+1)) r2.2) (some (((),t24,t25),o100))
def spec_l4Read.l30 (k:Nat) (S162:(List Int)→Int→Int→Int→Int→(List TNode)→Option ((Unit×Int×Int)×(List TNode))):Nat→(List Int)→Int→Int→Int→Int→Int→(List TNode)→Option ((Unit×Int×Int)×(List TNode))
 |0,_,_,_,_,_,_,_=>none
 |n+1,t0,t1,t4,t15,t27,t28,o100=>
  (spec_l4Head k t0 t1 t27).bind fun r3=>cond (r3.2.2.2 !=0) (some (((),0,r3.2.2.2),o100)) (cond (r3.1==0) ((rdL o100 t15).bind fun y4=>(rdL o100 t15).bind fun y5=>some (((),r3.2.2.1,0),List.set o100 (Int.toNat t15) (y5.1,y5.2.1,y5.2.2.1,y5.2.2.2.1,t28,()))) ((S162 t0 r3.2.2.1 r3.1 r3.2.1 (IntKind.wrap .i64 (t4+1)) o100).bind fun r6=>cond (r6.1.2.2 !=0) (some (((),0,r6.1.2.2),r6.2)) ((spec_l4Read.l30 k S162 n) t0 r6.1.2.1 t4 t15 r3.2.1 (IntKind.wrap .i64 (t28+1)) r6.2)))
def spec_l4Read.c8 (k:Nat) (S162:(List Int)→Int→Int→Int→Int→(List TNode)→Option ((Unit×Int×Int)×(List TNode))) (t0:List Int) (t1:Int) (t2:Int) (t4:Int) (t15:Int) (t49:Int) (t50:Bool) (o100:List TNode):Option ((Unit×Int×Int)×(List TNode)):=
 cond t50 ((spec_ZigGet k t0 t1).bind fun r7=>cond (!r7.2.2) (some (((),0,1),o100)) ((cond (t2==5) ((spec_l4Int k r7.1).bind fun r8=>some (!r8)) (some (false))).bind fun b9=>cond b9 (some (((),0,3),o100)) ((rdL o100 t15).bind fun y10=>(rdL o100 t15).bind fun y11=>some (((),r7.2.1,0),List.set o100 (Int.toNat t15) (y11.1,y11.2.1,r7.1,y11.2.2.2.1,y11.2.2.2.2.1,()))))) (cond (t49==8) ((spec_l4Text k t0 t1).bind fun r12=>(rdL o100 t15).bind fun y13=>(rdL o100 t15).bind fun y14=>some (((),r12.2.1,r12.2.2),List.set o100 (Int.toNat t15) (y14.1,y14.2.1,y14.2.2.1,r12.1,y14.2.2.2.2.1,()))) (cond (t49==9) ((spec_l4Many k t0 t1).bind fun r15=>(rdL o100 t15).bind fun y16=>(rdL o100 t15).bind fun y17=>(rdL (List.set o100 (Int.toNat t15) (y17.1,y17.2.1,y17.2.2.1,y17.2.2.2.1,r15.1,())) t15).bind fun y18=>(rdL (List.set o100 (Int.toNat t15) (y17.1,y17.2.1,y17.2.2.1,y17.2.2.2.1,r15.1,())) t15).bind fun y19=>spec_l4Read.l24 k S162 k t0 t4 r15.1 r15.2.1 r15.2.2.1 r15.2.2.2 0 (List.set (List.set o100 (Int.toNat t15) (y17.1,y17.2.1,y17.2.2.1,y17.2.2.2.1,r15.1,())) (Int.toNat t15) (y19.1,y19.2.1,r15.2.1,y19.2.2.2.1,y19.2.2.2.2.1,()))) (cond (t49==12) (spec_l4Read.l30 k S162 k t0 t1 t4 t15 0 0 o100) (some (((),t1,0),o100)))))
def spec_l4Read.b (k:Nat) (S162:(List Int)→Int→Int→Int→Int→(List TNode)→Option ((Unit×Int×Int)×(List TNode))) (t0:List Int) (t1:Int) (t2:Int) (t3:Int) (t4:Int) (o10:List TNode):Option ((Unit×Int×Int)×(List TNode)):=
 (cond ((List.length o10:Int)==1500) (some (true)) (some (decide (t4>12)))).bind fun b20=>cond b20 (some (((),0,4),o10)) (cond (lim (List.length o10+List.length ([(t2,t3,0,(⟨#[]⟩:ByteArray),0,())]:List TNode))) (cond (t2==5) (spec_l4Read.c8 k S162 t0 t1 t2 t4 (List.length o10:Int) t2 (t2==5) (o10++[(t2,t3,0,(⟨#[]⟩:ByteArray),0,())])) (spec_l4Read.c8 k S162 t0 t1 t2 t4 (List.length o10:Int) t2 (t2==6) (o10++[(t2,t3,0,(⟨#[]⟩:ByteArray),0,())]))) none)
def spec_l4Read.rec (k:Nat):Nat→((List Int)→Int→Int→Int→Int→(List TNode)→Option ((Unit×Int×Int)×(List TNode)))
 |0=>fun _ _ _ _ _ _=>none
 |d+1=>spec_l4Read.b k ((spec_l4Read.rec k d))
def spec_l4Read.d (k d:Nat):(List Int)→Int→Int→Int→Int→(List TNode)→Option ((Unit×Int×Int)×(List TNode)):=(spec_l4Read.rec k d)
def spec_l4Read (k:Nat):(List Int)→Int→Int→Int→Int→(List TNode)→Option ((Unit×Int×Int)×(List TNode)):=spec_l4Read.d k k
def spec_TreeRead (k:Nat) (t0:List Int) (t1:Int):Option ((Unit×Int×Int)×(List TNode)):=
 (cond (decide (t1<0)) (some (true)) (some (decide (t1≥(List.length t0:Int))))).bind fun b1=>cond b1 (some (((),0,1),[])) ((spec_l4Read k t0 t1 12 0 1 []).bind fun r2=>cond (r2.1.2.2 !=0) (some (((),0,r2.1.2.2),[])) (some (((),r2.1.2.1,r2.1.2.2),r2.2)))
def spec_l5Type.c7 (k:Nat) (t4:Bool):Option Bool:=
 cond t4 (some true) (some false)
def spec_l5Type (k:Nat) (t0:Int):Option Bool:=
 cond (t0==0) (spec_l5Type.c7 k (t0==0)) (cond (t0==1) (spec_l5Type.c7 k (t0==1)) (cond (t0==2) (spec_l5Type.c7 k (t0==2)) (cond (t0==5) (spec_l5Type.c7 k (t0==5)) (spec_l5Type.c7 k (t0==6)))))
def spec_LeafOk (k:Nat) (t0:TLeaf):Option Bool:=
 (spec_l5Type k t0.1).bind fun r1=>(cond r1 ((spec_l1In k t0.2.1 0 6).bind fun r2=>some (r2)) (some (false))).bind fun b3=>(cond b3 ((spec_l1In k t0.2.2.1 t0.2.1 6).bind fun r4=>some (r4)) (some (false))).bind fun b5=>some b5
def spec_l4After.l3 (k:Nat) (S165:(List TNode)→Int→Option Int):Nat→(List TNode)→Int→Int→Int→Option Int
 |0,_,_,_,_=>none
 |n+1,t0,t1,t5,t6=>
  (rdL t0 t1).bind fun y1=>cond (decide (t6<y1.2.2.2.2.1)) ((S165 t0 t5).bind fun r2=>(spec_l4After.l3 k S165 n) t0 t1 r2 (IntKind.wrap .i64 (t6+1))) (some t5)
def spec_l4After.b (k:Nat) (S165:(List TNode)→Int→Option Int) (t0:List TNode) (t1:Int):Option Int:=
 spec_l4After.l3 k S165 k t0 t1 (IntKind.wrap .i64 (t1+1)) 0
def spec_l4After.rec (k:Nat):Nat→((List TNode)→Int→Option Int)
 |0=>fun _ _=>none
 |d+1=>spec_l4After.b k ((spec_l4After.rec k d))
def spec_l4After.d (k d:Nat):(List TNode)→Int→Option Int:=(spec_l4After.rec k d)
def spec_l4After (k:Nat):(List TNode)→Int→Option Int:=spec_l4After.d k k
def spec_l4Find.l5 (k:Nat):Nat→(List TNode)→Int→Int→Int→Int→Option Int
 |0,_,_,_,_,_=>none
 |n+1,t0,t1,t2,t7,t8=>
  (rdL t0 t1).bind fun y1=>cond (decide (t8<y1.2.2.2.2.1)) ((rdL t0 t7).bind fun y2=>cond (y2.2.1==t2) (some t7) ((spec_l4After k t0 t7).bind fun r3=>(spec_l4Find.l5 k n) t0 t1 t2 r3 (IntKind.wrap .i64 (t8+1)))) (some (-1))
def spec_l4Find (k:Nat) (t0:List TNode) (t1:Int) (t2:Int):Option Int:=
 (rdL t0 t1).bind fun y4=>cond (y4.1 !=12) (some (-1)) (spec_l4Find.l5 k k t0 t1 t2 (IntKind.wrap .i64 (t1+1)) 0)
def spec_l4NumOf (k:Nat) (t0:List TNode) (t1:Int) (t2:Int):Option (Int×Bool):=
 (spec_l4Find k t0 t1 t2).bind fun r1=>(cond (decide (r1<0)) (some (true)) ((rdL t0 r1).bind fun y2=>(cond (y2.1 !=5) ((rdL t0 r1).bind fun y3=>some (y3.1 !=6)) (some (false))).bind fun b4=>some (b4))).bind fun b5=>cond b5 (some (0,false)) ((rdL t0 r1).bind fun y6=>some (y6.2.2.1,true))
def spec_l16Ids.l3 (k:Nat):Nat→(List TNode)→Int→(List Int)→Int→(List Int)→Option ((Unit×Bool)×(List Int))
 |0,_,_,_,_,_=>none
 |n+1,t0,t1,t2,t9,o100=>
  cond (decide (t9<(List.length t2:Int))) ((rdL t2 t9).bind fun y1=>(spec_l4NumOf k t0 t1 y1).bind fun r2=>cond (!r2.2) (some (((),false),o100)) (cond (lim (List.length o100+List.length [r2.1])) ((spec_l16Ids.l3 k n) t0 t1 t2 (IntKind.wrap .i64 (t9+1)) (o100++[r2.1])) none)) (some (((),true),o100))
def spec_l16Ids (k:Nat) (t0:List TNode) (t1:Int) (t2:List Int):Option ((Unit×Bool)×(List Int)):=
 spec_l16Ids.l3 k k t0 t1 t2 0 []
def spec_l16Part (k:Nat) (t0:List TNode) (t1:Int):Option Int:=
 (spec_l4Find k t0 0 t1).bind fun r1=>(cond (decide (r1<0)) (some (true)) ((rdL t0 r1).bind fun y2=>some (y2.1 !=12))).bind fun b3=>cond b3 (some (-1)) (some r1)
def spec_l4TextOf (k:Nat) (t0:List TNode) (t1:Int) (t2:Int):Option (ByteArray×Bool):=
 (spec_l4Find k t0 t1 t2).bind fun r1=>(cond (decide (r1<0)) (some (true)) ((rdL t0 r1).bind fun y2=>some (y2.1 !=8))).bind fun b3=>cond b3 (some ((⟨#[]⟩:ByteArray),false)) ((rdL t0 r1).bind fun y4=>some (y4.2.2.2.1,true))
def spec_BitsSize (k:Nat) (t0:Int) (t1:Int):Option Int:=
 (spec_l1In k t0 0 2000).bind fun r1=>(cond (!r1) (some (true)) ((spec_l1In k t1 0 62).bind fun r2=>some (!r2))).bind fun b3=>cond b3 (some (-1)) (some (IntKind.wrap .i64 (Int.tdiv (IntKind.wrap .i64 ((IntKind.wrap .i64 (t0*t1))+7)) 8)))
def spec_l1Bit (k:Nat) (t0:List Int) (t1:Int):Option Int:=
 (rdL t0 (IntKind.wrap .i64 (Int.tdiv t1 8))).bind fun y1=>cond (decide (0≤(Int.tmod t1 8))) (some (bits .and .i64 (shrI .i64 (IntKind.wrap .i64 y1) (Int.tmod t1 8)) 1)) none
def spec_BitsRead.l10 (k:Nat) (L6:(List Int)→Int→Int→Int→Int→Int→(List Int)→Option ((Unit×Int×Bool)×(List Int))):Nat→(List Int)→Int→Int→Int→Int→Int→Int→Int→(List Int)→Option ((Unit×Int×Bool)×(List Int))
 |0,_,_,_,_,_,_,_,_,_=>none
 |n+1,t0,t1,t2,t3,t12,t13,t14,t15,o100=>
  cond (decide (t15<t3)) ((spec_l1Bit k t0 (IntKind.wrap .i64 ((IntKind.wrap .i64 ((IntKind.wrap .i64 (8*t1))+(IntKind.wrap .i64 (t13*t3))))+t15))).bind fun r1=>cond (decide (0≤t15)) ((spec_BitsRead.l10 k L6 n) t0 t1 t2 t3 t12 t13 (bits .or .i64 t14 (shlI .i64 r1 t15)) (IntKind.wrap .i64 (t15+1)) o100) none) (cond (lim (List.length o100+List.length [t14])) (L6 t0 t1 t2 t3 t12 (IntKind.wrap .i64 (t13+1)) (o100++[t14])) none)
def spec_BitsRead.l6 (k:Nat):Nat→(List Int)→Int→Int→Int→Int→Int→(List Int)→Option ((Unit×Int×Bool)×(List Int))
 |0,_,_,_,_,_,_,_=>none
 |n+1,t0,t1,t2,t3,t12,t13,o100=>
  cond (decide (t13<t2)) (spec_BitsRead.l10 k (spec_BitsRead.l6 k n) k t0 t1 t2 t3 t12 t13 0 0 o100) (some (((),IntKind.wrap .i64 (t1+t12),true),o100))
def spec_BitsRead (k:Nat) (t0:List Int) (t1:Int) (t2:Int) (t3:Int):Option ((Unit×Int×Bool)×(List Int)):=
 (spec_BitsSize k t2 t3).bind fun r2=>(cond (decide (r2<0)) (some (true)) ((spec_l1In k t1 0 (List.length t0:Int)).bind fun r3=>some (!r3))).bind fun b4=>(cond b4 (some (true)) (some (decide ((IntKind.wrap .i64 ((List.length t0:Int)-t1))<r2)))).bind fun b5=>cond b5 (some (((),0,false),[])) (spec_BitsRead.l6 k k t0 t1 t2 t3 r2 0 [])
def spec_WordGet.l5 (k:Nat):Nat→(List Int)→Int→Int→Int→Int→Option (Int×Int×Bool)
 |0,_,_,_,_,_=>none
 |n+1,t0,t1,t2,t9,t10=>
  cond (decide (t10<t2)) ((rdL t0 (IntKind.wrap .i64 (t1+t10))).bind fun y1=>cond (decide (0≤(IntKind.wrap .i64 (8*t10)))) ((spec_WordGet.l5 k n) t0 t1 t2 (bits .or .i64 t9 (shlI .i64 (IntKind.wrap .i64 y1) (IntKind.wrap .i64 (8*t10)))) (IntKind.wrap .i64 (t10+1))) none) (some (t9,IntKind.wrap .i64 (t1+t2),true))
def spec_WordGet (k:Nat) (t0:List Int) (t1:Int) (t2:Int):Option (Int×Int×Bool):=
 (spec_l1In k t2 1 8).bind fun r2=>(cond (!r2) (some (true)) (some (decide (t1<0)))).bind fun b3=>(cond b3 (some (true)) (some (decide (t1>(List.length t0:Int))))).bind fun b4=>(cond b4 (some (true)) (some (decide ((IntKind.wrap .i64 ((List.length t0:Int)-t1))<t2)))).bind fun b5=>cond b5 (some (0,0,false)) (spec_WordGet.l5 k k t0 t1 t2 0 0)
def spec_l7One.c6 (k:Nat) (t9:Int) (t10:Int) (t11:Bool) (o100:TVal):Option (TVal×Int×Bool):=
 some ((t9,(⟨#[]⟩:ByteArray),()),t10,t11)
def spec_l7One (k:Nat) (t0:Int) (t1:List Int) (t2:Int):Option (TVal×Int×Bool):=
 cond (t0==1) ((spec_WordGet k t1 t2 4).bind fun r1=>cond (decide (r1.1>2147483647)) (spec_l7One.c6 k (IntKind.wrap .i64 (r1.1-4294967296)) r1.2.1 r1.2.2 (0,(⟨#[]⟩:ByteArray),())) (spec_l7One.c6 k r1.1 r1.2.1 r1.2.2 (0,(⟨#[]⟩:ByteArray),()))) (cond (t0==6) ((spec_WordGet k t1 t2 4).bind fun r2=>(cond (!r2.2.2) (some (true)) (some (decide (r2.1>40)))).bind fun b3=>(cond b3 (some (true)) (some (decide (r2.1>(IntKind.wrap .i64 ((List.length t1:Int)-r2.2.1)))))).bind fun b4=>cond b4 (some ((0,(⟨#[]⟩:ByteArray),()),0,false)) (cond (inSl r2.2.1 (IntKind.wrap .i64 (r2.2.1+r2.1)) (List.length t1)) (some ((0,intsStr (cutL t1 r2.2.1 (IntKind.wrap .i64 (r2.2.1+r2.1))),()),IntKind.wrap .i64 (r2.2.1+r2.1),true)) none)) ((spec_WordGet k t1 t2 8).bind fun r5=>some ((r5.1,(⟨#[]⟩:ByteArray),()),r5.2.1,r5.2.2)))
def spec_PlainRead.l12 (k:Nat):Nat→Int→(List Int)→Int→Int→Int→(List TVal)→Option ((Unit×Int×Bool)×(List TVal))
 |0,_,_,_,_,_,_=>none
 |n+1,t0,t1,t2,t3,t16,o100=>
  cond (decide (t16<t3)) ((spec_l7One k t0 t1 t2).bind fun r1=>cond (!r1.2.2) (some (((),0,false),[])) (cond (lim (List.length o100+List.length [r1.1])) ((spec_PlainRead.l12 k n) t0 t1 r1.2.1 t3 (IntKind.wrap .i64 (t16+1)) (o100++[r1.1])) none)) (some (((),t2,true),o100))
def spec_PlainRead.l7 (k:Nat):Nat→Int→Bool→Int→(List TVal)→(List Int)→Option ((Unit×Int×Bool)×(List TVal))
 |0,_,_,_,_,_=>none
 |n+1,t13,t14,t15,o100,o101=>
  cond (decide (t15<(List.length o101:Int))) ((rdL o101 t15).bind fun y2=>cond (lim (List.length o100+List.length ([(y2,(⟨#[]⟩:ByteArray),())]:List TVal))) ((spec_PlainRead.l7 k n) t13 t14 (IntKind.wrap .i64 (t15+1)) (o100++[(y2,(⟨#[]⟩:ByteArray),())]) o101) none) (some (((),t13,t14),o100))
def spec_PlainRead (k:Nat) (t0:Int) (t1:List Int) (t2:Int) (t3:Int):Option ((Unit×Int×Bool)×(List TVal)):=
 (spec_l5Type k t0).bind fun r3=>(cond (!r3) (some (true)) ((spec_l1In k t3 0 2000).bind fun r4=>some (!r4))).bind fun b5=>(cond b5 (some (true)) ((spec_l1In k t2 0 (List.length t1:Int)).bind fun r6=>some (!r6))).bind fun b7=>cond b7 (some (((),0,false),[])) (cond (t0==0) ((spec_BitsRead k t1 t2 t3 1).bind fun r8=>spec_PlainRead.l7 k k r8.1.2.1 r8.1.2.2 0 [] r8.2) (spec_PlainRead.l12 k k t0 t1 t2 t3 0 []))
def spec_ValOk.c8 (k:Nat) (t5:Int) (t26:Bool) (o100:TVal):Option Bool:=
 cond t26 (some (eqS o100.2.1 (⟨#[]⟩:ByteArray))) (cond (t5==6) ((cond (o100.1==0) (some (decide ((o100.2.1.size:Int)≤40))) (some (false))).bind fun b1=>some b1) (some false))
def spec_ValOk (k:Nat) (t0:Int) (t1:TVal):Option Bool:=
 cond (t0==0) ((spec_l1In k t1.1 0 1).bind fun r2=>(cond r2 (some (eqS t1.2.1 (⟨#[]⟩:ByteArray))) (some (false))).bind fun b3=>some b3) (cond (t0==1) ((spec_l4Int k t1.1).bind fun r4=>(cond r4 (some (eqS t1.2.1 (⟨#[]⟩:ByteArray))) (some (false))).bind fun b5=>some b5) (cond (t0==2) (spec_ValOk.c8 k t0 (t0==2) t1) (spec_ValOk.c8 k t0 (t0==5) t1)))
def spec_l6Vals.l4 (k:Nat):Nat→Int→(List TVal)→Int→Option Bool
 |0,_,_,_=>none
 |n+1,t0,t1,t5=>
  cond (decide (t5<(List.length t1:Int))) ((rdL t1 t5).bind fun y1=>(spec_ValOk k t0 y1).bind fun r2=>cond (!r2) (some false) ((spec_l6Vals.l4 k n) t0 t1 (IntKind.wrap .i64 (t5+1)))) (some true)
def spec_l6Vals (k:Nat) (t0:Int) (t1:List TVal):Option Bool:=
 (cond (decide ((List.length t1:Int)>2000)) (some (true)) ((spec_l5Type k t0).bind fun r3=>some (!r3))).bind fun b4=>cond b4 (some false) (spec_l6Vals.l4 k k t0 t1 0)
def spec_WordPut.l3 (k:Nat):Nat→Int→Int→Int→(List Int)→Option (Unit×(List Int))
 |0,_,_,_,_=>none
 |n+1,t0,t1,t6,o100=>
  (cond (decide (t6<t1)) ((spec_l1In k t1 1 8).bind fun r1=>some (r1)) (some (false))).bind fun b2=>cond b2 (cond (decide (0≤(IntKind.wrap .i64 (8*t6)))) (cond (lim (List.length o100+List.length [IntKind.wrap .u8 (shrI .i64 t0 (IntKind.wrap .i64 (8*t6)))])) ((spec_WordPut.l3 k n) t0 t1 (IntKind.wrap .i64 (t6+1)) (o100++[IntKind.wrap .u8 (shrI .i64 t0 (IntKind.wrap .i64 (8*t6)))])) none) none) (some ((),o100))
def spec_WordPut (k:Nat) (t0:Int) (t1:Int):Option (Unit×(List Int)):=
 spec_WordPut.l3 k k t0 t1 0 []
def spec_BitsPack.c12 (k:Nat) (L11:(List Int)→Int→Int→Int→(List Int)→Option ((Unit×Bool)×(List Int))) (t0:List Int) (t1:Int) (t8:Int) (t9:Int) (o100:List Int):Option ((Unit×Bool)×(List Int)):=
 L11 t0 t1 t8 (IntKind.wrap .i64 (t9+1)) o100
def spec_BitsPack.l11 (k:Nat) (L6:(List Int)→Int→Int→(List Int)→Option ((Unit×Bool)×(List Int))):Nat→(List Int)→Int→Int→Int→(List Int)→Option ((Unit×Bool)×(List Int))
 |0,_,_,_,_,_=>none
 |n+1,t0,t1,t8,t9,o100=>
  cond (decide (t9<t1)) ((rdL t0 t8).bind fun y1=>cond (decide (0≤t9)) (cond ((bits .and .i64 (shrI .i64 y1 t9) 1)==1) ((rdL o100 (IntKind.wrap .i64 (Int.tdiv (IntKind.wrap .i64 ((IntKind.wrap .i64 (t8*t1))+t9)) 8))).bind fun y2=>cond (decide (0≤(Int.tmod (IntKind.wrap .i64 ((IntKind.wrap .i64 (t8*t1))+t9)) 8))) ((rdL o100 (IntKind.wrap .i64 (Int.tdiv (IntKind.wrap .i64 ((IntKind.wrap .i64 (t8*t1))+t9)) 8))).bind fun y3=>(rdL o100 (IntKind.wrap .i64 (Int.tdiv (IntKind.wrap .i64 ((IntKind.wrap .i64 (t8*t1))+t9)) 8))).bind fun y4=>spec_BitsPack.c12 k (spec_BitsPack.l11 k L6 n) t0 t1 t8 t9 (List.set o100 (Int.toNat (IntKind.wrap .i64 (Int.tdiv (IntKind.wrap .i64 ((IntKind.wrap .i64 (t8*t1))+t9)) 8))) (bits .or .u8 y2 (shlI .u8 1 (Int.tmod (IntKind.wrap .i64 ((IntKind.wrap .i64 (t8*t1))+t9)) 8))))) none) (spec_BitsPack.c12 k (spec_BitsPack.l11 k L6 n) t0 t1 t8 t9 o100)) none) (L6 t0 t1 (IntKind.wrap .i64 (t8+1)) o100)
def spec_BitsPack.l6 (k:Nat):Nat→(List Int)→Int→Int→(List Int)→Option ((Unit×Bool)×(List Int))
 |0,_,_,_,_=>none
 |n+1,t0,t1,t8,o100=>
  cond (decide (t8<(List.length t0:Int))) ((rdL t0 t8).bind fun y5=>(cond (decide (y5<0)) (some (true)) ((rdL t0 t8).bind fun y6=>cond (decide (0≤t1)) (some ((shrI .i64 y6 t1) !=0)) none)).bind fun b7=>cond b7 (some (((),false),[])) (spec_BitsPack.l11 k (spec_BitsPack.l6 k n) k t0 t1 t8 0 o100)) (some (((),true),o100))
def spec_BitsPack (k:Nat) (t0:List Int) (t1:Int):Option ((Unit×Bool)×(List Int)):=
 (spec_BitsSize k (List.length t0:Int) t1).bind fun r8=>cond (decide (r8<0)) (some (((),false),[])) (cond (okLen r8) (spec_BitsPack.l6 k k t0 t1 0 (List.replicate (Int.toNat r8) 0)) none)
def spec_PlainPack.c7 (k:Nat) (L6:Int→(List TVal)→Int→(List Int)→(List Int)→Option ((Unit×Bool)×(List Int))) (t0:Int) (t1:List TVal) (t8:Int) (o100:List Int) (o101:List Int):Option ((Unit×Bool)×(List Int)):=
 L6 t0 t1 (IntKind.wrap .i64 (t8+1)) o100 o101
def spec_PlainPack.l6 (k:Nat):Nat→Int→(List TVal)→Int→(List Int)→(List Int)→Option ((Unit×Bool)×(List Int))
 |0,_,_,_,_,_=>none
 |n+1,t0,t1,t8,o100,o101=>
  cond (decide (t8<(List.length t1:Int))) ((rdL t1 t8).bind fun y1=>cond (t0==0) (cond (lim (List.length o101+List.length [y1.1])) (spec_PlainPack.c7 k (spec_PlainPack.l6 k n) t0 t1 t8 o100 (o101++[y1.1])) none) (cond (t0==1) ((spec_WordPut k y1.1 4).bind fun r2=>cond (lim (List.length o100+List.length r2.2)) (spec_PlainPack.c7 k (spec_PlainPack.l6 k n) t0 t1 t8 (o100++r2.2) o101) none) (cond (t0==6) ((spec_WordPut k (y1.2.1.size:Int) 4).bind fun r3=>cond (lim (List.length o100+List.length r3.2)) (cond (lim (List.length (o100++r3.2)+List.length (strInts y1.2.1))) (spec_PlainPack.c7 k (spec_PlainPack.l6 k n) t0 t1 t8 ((o100++r3.2)++(strInts y1.2.1)) o101) none) none) ((spec_WordPut k y1.1 8).bind fun r4=>cond (lim (List.length o100+List.length r4.2)) (spec_PlainPack.c7 k (spec_PlainPack.l6 k n) t0 t1 t8 (o100++r4.2) o101) none)))) (cond (t0==0) ((spec_BitsPack k o101 1).bind fun r5=>some (((),r5.1.2),r5.2)) (some (((),true),o100)))
def spec_PlainPack (k:Nat) (t0:Int) (t1:List TVal):Option ((Unit×Bool)×(List Int)):=
 (spec_l6Vals k t0 t1).bind fun r6=>cond (!r6) (some (((),false),[])) (spec_PlainPack.l6 k k t0 t1 0 [] [])
def spec_l15Text (k:Nat) (t0:Int) (t1:TVal):Option ByteArray:=
 cond (t0==6) (some t1.2.1) ((spec_PlainPack k t0 [t1]).bind fun r1=>some (intsStr r1.2))
def spec_l15Value.d7 (k:Nat) (t0:Int) (t1:ByteArray) (o100:TVal) (o101:TVal):Option (TVal×Bool):=
 (spec_ValOk k t0 o101).bind fun r1=>cond r1 ((spec_l15Text k t0 o101).bind fun r2=>some (o101,eqS r2 t1)) (some (o101,false))
def spec_l15Value.c7 (k:Nat) (t0:Int) (t1:ByteArray) (o100:TVal) (o101:TVal):Option (TVal×Bool):=
 spec_l15Value.d7 k t0 t1 o100 o101
def spec_l15Value (k:Nat) (t0:Int) (t1:ByteArray):Option (TVal×Bool):=
 cond (t0 !=6) ((spec_PlainRead k t0 (strInts t1) 0 1).bind fun r13=>cond (!r13.1.2.2) (some ((0,(⟨#[]⟩:ByteArray),()),false)) ((rdL r13.2 0).bind fun y14=>spec_l15Value.c7 k t0 t1 (0,(⟨#[]⟩:ByteArray),()) y14)) (spec_l15Value.c7 k t0 t1 (0,(⟨#[]⟩:ByteArray),()) (0,t1,()))
def spec_FloatKey (k:Nat) (t0:Int):Option Int:=
 cond (decide (t0<0)) (some (bits .xor .i64 t0 9223372036854775807)) (some t0)
def spec_ValLess.d5 (k:Nat) (o100:TVal) (o101:TVal):Option Bool:=
 (spec_FloatKey k o100.1).bind fun r1=>(spec_FloatKey k o101.1).bind fun r2=>some (decide (r1<r2))
def spec_ValLess.l8 (k:Nat):Nat→Int→TVal→TVal→Option Bool
 |0,_,_,_=>none
 |n+1,t7,o100,o101=>
  (cond (decide (t7<(o100.2.1.size:Int))) (some (decide (t7<(o101.2.1.size:Int)))) (some (false))).bind fun b9=>cond b9 ((btS o100.2.1 t7).bind fun y10=>(btS o101.2.1 t7).bind fun y11=>cond (y10 !=y11) ((btS o100.2.1 t7).bind fun y12=>(btS o101.2.1 t7).bind fun y13=>some (decide (y12<y13))) ((spec_ValLess.l8 k n) (IntKind.wrap .i64 (t7+1)) o100 o101)) (some (decide ((o100.2.1.size:Int)<(o101.2.1.size:Int))))
def spec_ValLess (k:Nat) (t0:Int) (t1:TVal) (t2:TVal):Option Bool:=
 (spec_ValOk k t0 t1).bind fun r14=>(cond (!r14) (some (true)) ((spec_ValOk k t0 t2).bind fun r15=>some (!r15))).bind fun b16=>cond b16 (some false) (cond (t0==5) (spec_ValLess.d5 k t1 t2) (cond (t0==6) (spec_ValLess.l8 k k 0 t1 t2) (some (decide (t1.1<t2.1)))))
def spec_l15Ok (k:Nat) (t0:TLeaf) (t1:TStats):Option Bool:=
 (spec_LeafOk k t0).bind fun r1=>(cond (!r1) (some (true)) ((spec_l1In k t1.1 0 2000).bind fun r2=>some (!r2))).bind fun b3=>cond b3 (some false) (cond (!t1.2.1) ((cond ((t1.2.2.1.1==0)&&(eqS t1.2.2.1.2.1 (⟨#[]⟩:ByteArray)&&true)) (some (((t1.2.2.2.1.1==0)&&(eqS t1.2.2.2.1.2.1 (⟨#[]⟩:ByteArray)&&true)))) (some (false))).bind fun b4=>some b4) ((spec_ValOk k t0.1 t1.2.2.1).bind fun r5=>(cond r5 ((spec_ValOk k t0.1 t1.2.2.2.1).bind fun r6=>some (r6)) (some (false))).bind fun b7=>(cond b7 ((spec_ValLess k t0.1 t1.2.2.2.1 t1.2.2.1).bind fun r8=>some (!r8)) (some (false))).bind fun b9=>some b9))
def spec_l15From.c15 (k:Nat) (o100:TLeaf) (o101:TStats) (o102:TStats) (o103:TStats):Option (TStats×Bool):=
 (spec_l15Ok k o100 o103).bind fun r1=>cond (!r1) (some (o102,false)) (some (o103,true))
def spec_l15From (k:Nat) (t0:TLeaf) (t1:List TNode) (t2:Int):Option (TStats×Bool):=
 (spec_l4NumOf k t1 t2 3).bind fun r2=>(spec_l4TextOf k t1 t2 5).bind fun r3=>(spec_l4TextOf k t1 t2 6).bind fun r4=>(cond (!r2.2) (some (true)) (some (!(r3.2==r4.2)))).bind fun b5=>(cond b5 (some (true)) ((cond (!r3.2) ((spec_l4Find k t1 t2 5).bind fun r6=>(cond (decide (r6≥0)) (some (true)) ((spec_l4Find k t1 t2 6).bind fun r7=>some (decide (r7≥0)))).bind fun b8=>some (b8)) (some (false))).bind fun b9=>some (b9))).bind fun b10=>cond b10 (some ((0,false,(0,(⟨#[]⟩:ByteArray),()),(0,(⟨#[]⟩:ByteArray),()),()),false)) (cond r3.2 ((spec_l15Value k t0.1 r3.1).bind fun r11=>(spec_l15Value k t0.1 r4.1).bind fun r12=>(cond (!r11.2) (some (true)) (some (!r12.2))).bind fun b13=>cond b13 (some ((0,false,(0,(⟨#[]⟩:ByteArray),()),(0,(⟨#[]⟩:ByteArray),()),()),false)) (spec_l15From.c15 k t0 (0,false,(0,(⟨#[]⟩:ByteArray),()),(0,(⟨#[]⟩:ByteArray),()),()) (0,false,(0,(⟨#[]⟩:ByteArray),()),(0,(⟨#[]⟩:ByteArray),()),()) (r2.1,r3.2,r12.1,r11.1,()))) (spec_l15From.c15 k t0 (0,false,(0,(⟨#[]⟩:ByteArray),()),(0,(⟨#[]⟩:ByteArray),()),()) (0,false,(0,(⟨#[]⟩:ByteArray),()),(0,(⟨#[]⟩:ByteArray),()),()) (r2.1,r3.2,(0,(⟨#[]⟩:ByteArray),()),(0,(⟨#[]⟩:ByteArray),()),())))
def spec_l16Kind.c33 (k:Nat) (o100:THead) (o101:THead):Option (THead×Bool):=
 some (o100,true)
def spec_l16Kind.c27 (k:Nat) (t1:List TNode) (t10:Int) (t11:Int) (o100:TLeaf) (o101:THead) (o102:THead):Option (THead×Bool):=
 cond (decide (t10>0)) ((spec_l4Find k t1 t11 t10).bind fun r1=>(cond (decide (r1≥0)) ((rdL t1 r1).bind fun y2=>some (y2.1==12)) (some (false))).bind fun b3=>cond b3 ((spec_l15From k o100 t1 r1).bind fun r4=>spec_l16Kind.c33 k (o101.1,o101.2.1,o101.2.2.1,o101.2.2.2.1,o101.2.2.2.2.1,o101.2.2.2.2.2.1,o101.2.2.2.2.2.2.1,o101.2.2.2.2.2.2.2.1,o101.2.2.2.2.2.2.2.2.1,o101.2.2.2.2.2.2.2.2.2.1,r4.2,r4.1,o101.2.2.2.2.2.2.2.2.2.2.2.2.1,()) o102) (spec_l16Kind.c33 k o101 o102)) (spec_l16Kind.c33 k o101 o102)
def spec_l16Kind.c7 (k:Nat) (t1:List TNode) (t8:Int) (t10:Int) (o100:TLeaf) (o101:THead) (o102:THead) (o103:List Int):Option (THead×Bool):=
 (spec_l16Part k t1 t8).bind fun r5=>cond (decide (r5<0)) (some (o101,false)) ((spec_l16Ids k t1 r5 o103).bind fun r6=>(cond (!r6.1.2) (some (true)) ((rdL r6.2 0).bind fun y7=>(spec_l1In k y7 0 2000).bind fun r8=>some (!r8))).bind fun b9=>cond b9 (some (o101,false)) ((rdL r6.2 0).bind fun y10=>(rdL r6.2 1).bind fun y11=>cond (o101.1==0) ((rdL r6.2 2).bind fun y12=>(cond (y12 !=3) (some (true)) ((rdL r6.2 3).bind fun y13=>some (y13 !=3))).bind fun b14=>cond b14 (some ((o101.1,o101.2.1,y10,y11,o101.2.2.2.2.1,o101.2.2.2.2.2.1,o101.2.2.2.2.2.2.1,o101.2.2.2.2.2.2.2.1,o101.2.2.2.2.2.2.2.2.1,o101.2.2.2.2.2.2.2.2.2.1,o101.2.2.2.2.2.2.2.2.2.2.1,o101.2.2.2.2.2.2.2.2.2.2.2.1,o101.2.2.2.2.2.2.2.2.2.2.2.2.1,()),false)) (spec_l16Kind.c27 k t1 t10 r5 o100 (o101.1,o101.2.1,y10,y11,o101.2.2.2.2.1,o101.2.2.2.2.2.1,o101.2.2.2.2.2.2.1,o101.2.2.2.2.2.2.2.1,o101.2.2.2.2.2.2.2.2.1,o101.2.2.2.2.2.2.2.2.2.1,o101.2.2.2.2.2.2.2.2.2.2.1,o101.2.2.2.2.2.2.2.2.2.2.2.1,o101.2.2.2.2.2.2.2.2.2.2.2.2.1,()) o102)) (cond (o101.1==3) ((rdL r6.2 2).bind fun y15=>(rdL r6.2 3).bind fun y16=>(rdL r6.2 4).bind fun y17=>(rdL r6.2 5).bind fun y18=>(spec_l4Find k t1 r5 7).bind fun r19=>(cond (decide (y15<0)) (some (true)) (some (decide (y16<0)))).bind fun b20=>(cond b20 (some (true)) (some (decide (y17<0)))).bind fun b21=>(cond b21 (some (true)) (some (decide (y18<0)))).bind fun b22=>(cond b22 (some (true)) (some (decide (r19<0)))).bind fun b23=>(cond b23 (some (true)) ((rdL t1 r19).bind fun y24=>some (y24.1==1))).bind fun b25=>cond b25 (some ((o101.1,o101.2.1,y10,y11,y16,y15,y17,y18,o101.2.2.2.2.2.2.2.2.1,o101.2.2.2.2.2.2.2.2.2.1,o101.2.2.2.2.2.2.2.2.2.2.1,o101.2.2.2.2.2.2.2.2.2.2.2.1,o101.2.2.2.2.2.2.2.2.2.2.2.2.1,()),false)) (spec_l16Kind.c27 k t1 t10 r5 o100 (o101.1,o101.2.1,y10,y11,y16,y15,y17,y18,o101.2.2.2.2.2.2.2.2.1,o101.2.2.2.2.2.2.2.2.2.1,o101.2.2.2.2.2.2.2.2.2.2.1,o101.2.2.2.2.2.2.2.2.2.2.2.1,o101.2.2.2.2.2.2.2.2.2.2.2.2.1,()) o102)) (spec_l16Kind.c27 k t1 t10 r5 o100 (o101.1,o101.2.1,y10,y11,o101.2.2.2.2.1,o101.2.2.2.2.2.1,o101.2.2.2.2.2.2.1,o101.2.2.2.2.2.2.2.1,o101.2.2.2.2.2.2.2.2.1,o101.2.2.2.2.2.2.2.2.2.1,o101.2.2.2.2.2.2.2.2.2.2.1,o101.2.2.2.2.2.2.2.2.2.2.2.1,o101.2.2.2.2.2.2.2.2.2.2.2.2.1,()) o102))))
def spec_l16Kind (k:Nat) (t0:TLeaf) (t1:List TNode) (t2:THead):Option (THead×Bool):=
 cond (t2.1==2) (spec_l16Kind.c7 k t1 7 0 t0 t2 (0,0,0,0,0,0,0,0,false,0,false,(0,false,(0,(⟨#[]⟩:ByteArray),()),(0,(⟨#[]⟩:ByteArray),()),()),0,()) [1,2]) (cond (t2.1==3) (spec_l16Kind.c7 k t1 8 8 t0 t2 (0,0,0,0,0,0,0,0,false,0,false,(0,false,(0,(⟨#[]⟩:ByteArray),()),(0,(⟨#[]⟩:ByteArray),()),()),0,()) [1,4,2,3,5,6]) (spec_l16Kind.c7 k t1 5 5 t0 t2 (0,0,0,0,0,0,0,0,false,0,false,(0,false,(0,(⟨#[]⟩:ByteArray),()),(0,(⟨#[]⟩:ByteArray),()),()),0,()) [1,2,3,4]))
def spec_HeadRead.c17 (k:Nat) (t1:List Int) (t10:Int) (o100:TLeaf) (o101:THead) (o102:THead) (o103:List TNode) (o104:THead):Option (THead×Int):=
 (spec_l16Kind k o100 o103 o104).bind fun r1=>cond (!r1.2) (some (o102,1)) (cond (decide (r1.1.2.1>(IntKind.wrap .i64 ((List.length t1:Int)-t10)))) (some (o102,2)) (some (r1.1,0)))
def spec_HeadRead (k:Nat) (t0:TLeaf) (t1:List Int) (t2:Int):Option (THead×Int):=
 (spec_TreeRead k t1 t2).bind fun r2=>(spec_LeafOk k t0).bind fun r3=>(cond (!r3) (some (true)) (some (r2.1.2.2 !=0))).bind fun b4=>cond b4 (some ((0,0,0,0,0,0,0,0,false,0,false,(0,false,(0,(⟨#[]⟩:ByteArray),()),(0,(⟨#[]⟩:ByteArray),()),()),0,()),1)) ((spec_l16Ids k r2.2 0 [1,2,3]).bind fun r5=>(cond (!r5.1.2) (some (true)) ((rdL r5.2 0).bind fun y6=>(cond (y6 !=0) ((rdL r5.2 0).bind fun y7=>some (y7 !=2)) (some (false))).bind fun b8=>(cond b8 ((rdL r5.2 0).bind fun y9=>some (y9 !=3)) (some (false))).bind fun b10=>some (b10))).bind fun b11=>(cond b11 (some (true)) ((rdL r5.2 1).bind fun y12=>some (decide (y12<0)))).bind fun b13=>(cond b13 (some (true)) ((rdL r5.2 1).bind fun y14=>(rdL r5.2 2).bind fun y15=>some (y14 !=y15))).bind fun b16=>cond b16 (some ((0,0,0,0,0,0,0,0,false,0,false,(0,false,(0,(⟨#[]⟩:ByteArray),()),(0,(⟨#[]⟩:ByteArray),()),()),0,()),1)) ((rdL r5.2 0).bind fun y17=>(rdL r5.2 1).bind fun y18=>(spec_l4Find k r2.2 0 4).bind fun r19=>cond (decide (r19≥0)) ((rdL r2.2 r19).bind fun y20=>cond (y20.1 !=5) (some ((0,0,0,0,0,0,0,0,false,0,false,(0,false,(0,(⟨#[]⟩:ByteArray),()),(0,(⟨#[]⟩:ByteArray),()),()),0,()),1)) ((rdL r2.2 r19).bind fun y21=>cond (decide (y21.2.2.1<0)) (spec_HeadRead.c17 k t1 r2.1.2.1 t0 (0,0,0,0,0,0,0,0,false,0,false,(0,false,(0,(⟨#[]⟩:ByteArray),()),(0,(⟨#[]⟩:ByteArray),()),()),0,()) (0,0,0,0,0,0,0,0,false,0,false,(0,false,(0,(⟨#[]⟩:ByteArray),()),(0,(⟨#[]⟩:ByteArray),()),()),0,()) r2.2 (y17,y18,0,0,0,0,0,0,true,IntKind.wrap .i64 (y21.2.2.1+4294967296),false,(0,false,(0,(⟨#[]⟩:ByteArray),()),(0,(⟨#[]⟩:ByteArray),()),()),r2.1.2.1,())) (spec_HeadRead.c17 k t1 r2.1.2.1 t0 (0,0,0,0,0,0,0,0,false,0,false,(0,false,(0,(⟨#[]⟩:ByteArray),()),(0,(⟨#[]⟩:ByteArray),()),()),0,()) (0,0,0,0,0,0,0,0,false,0,false,(0,false,(0,(⟨#[]⟩:ByteArray),()),(0,(⟨#[]⟩:ByteArray),()),()),0,()) r2.2 (y17,y18,0,0,0,0,0,0,true,y21.2.2.1,false,(0,false,(0,(⟨#[]⟩:ByteArray),()),(0,(⟨#[]⟩:ByteArray),()),()),r2.1.2.1,())))) (spec_HeadRead.c17 k t1 r2.1.2.1 t0 (0,0,0,0,0,0,0,0,false,0,false,(0,false,(0,(⟨#[]⟩:ByteArray),()),(0,(⟨#[]⟩:ByteArray),()),()),0,()) (0,0,0,0,0,0,0,0,false,0,false,(0,false,(0,(⟨#[]⟩:ByteArray),()),(0,(⟨#[]⟩:ByteArray),()),()),0,()) r2.2 (y17,y18,0,0,0,0,0,0,false,0,false,(0,false,(0,(⟨#[]⟩:ByteArray),()),(0,(⟨#[]⟩:ByteArray),()),()),r2.1.2.1,()))))
def spec_l3Turn.c3 (k:Nat) (L2:Int→Int→Option Int) (t0:Int) (t3:Int):Option Int:=
 L2 t0 (IntKind.wrap .i64 (t3+1))
def spec_l3Turn.l2 (k:Nat):Nat→Int→Int→Option Int
 |0,_,_=>none
 |n+1,t0,t3=>
  cond (decide (t3<8)) (cond ((bits .and .i64 t0 1)==1) (spec_l3Turn.c3 k (spec_l3Turn.l2 k n) (bits .xor .i64 (IntKind.wrap .i64 (Int.tdiv t0 2)) 3988292384) t3) (spec_l3Turn.c3 k (spec_l3Turn.l2 k n) (IntKind.wrap .i64 (Int.tdiv t0 2)) t3)) (some t0)
def spec_l3Turn (k:Nat) (t0:Int):Option Int:=
 spec_l3Turn.l2 k k t0 0
def spec_CrcMore.l5 (k:Nat):Nat→(List Int)→Int→Int→Option Int
 |0,_,_,_=>none
 |n+1,t1,t5,t6=>
  cond (decide (t6<(List.length t1:Int))) ((rdL t1 t6).bind fun y1=>(spec_l3Turn k (bits .xor .i64 (bits .and .i64 t5 255) (IntKind.wrap .i64 y1))).bind fun r2=>(spec_CrcMore.l5 k n) t1 (bits .xor .i64 (shrI .i64 t5 8) r2) (IntKind.wrap .i64 (t6+1))) (some (bits .xor .i64 t5 4294967295))
def spec_CrcMore (k:Nat) (t0:Int) (t1:List Int):Option Int:=
 (spec_l1In k t0 0 4294967295).bind fun r3=>cond (!r3) (some (-1)) (spec_CrcMore.l5 k k t1 (bits .xor .i64 t0 4294967295) 0)
def spec_CrcOf (k:Nat) (t0:List Int):Option Int:=
 (spec_CrcMore k 0 t0).bind fun r1=>some r1
def spec_l8Width (k:Nat) (t0:Int):Option Bool:=
 (spec_l1In k t0 0 24).bind fun r1=>some r1
def spec_RunRead.l29 (k:Nat) (L25:(List Int)→Int→Int→Int→Int→Int→(List Int)→Option ((Unit×Int×Bool)×(List Int))):Nat→(List Int)→Int→Int→Int→Int→Int→Int→Int→(List Int)→Option ((Unit×Int×Bool)×(List Int))
 |0,_,_,_,_,_,_,_,_,_=>none
 |n+1,t0,t2,t3,t13,t15,t21,t22,t23,o100=>
  cond (decide (t23<t3)) ((spec_l1Bit k t0 (IntKind.wrap .i64 ((IntKind.wrap .i64 ((IntKind.wrap .i64 (8*t13))+(IntKind.wrap .i64 (t21*t3))))+t23))).bind fun r1=>cond (decide (0≤t23)) ((spec_RunRead.l29 k L25 n) t0 t2 t3 t13 t15 t21 (bits .or .i64 t22 (shlI .i64 r1 t23)) (IntKind.wrap .i64 (t23+1)) o100) none) (cond (lim (List.length o100+List.length [t22])) (L25 t0 t2 t3 t13 t15 (IntKind.wrap .i64 (t21+1)) (o100++[t22])) none)
def spec_RunRead.l25 (k:Nat) (L4:(List Int)→Int→Int→Int→(List Int)→Option ((Unit×Int×Bool)×(List Int))):Nat→(List Int)→Int→Int→Int→Int→Int→(List Int)→Option ((Unit×Int×Bool)×(List Int))
 |0,_,_,_,_,_,_,_=>none
 |n+1,t0,t2,t3,t13,t15,t21,o100=>
  (cond (decide (t21<(IntKind.wrap .i64 (8*t15)))) (some (decide ((List.length o100:Int)<t2))) (some (false))).bind fun b2=>cond b2 (spec_RunRead.l29 k (spec_RunRead.l25 k L4 n) k t0 t2 t3 t13 t15 t21 0 0 o100) (L4 t0 (IntKind.wrap .i64 (t13+(IntKind.wrap .i64 (t15*t3)))) t2 t3 o100)
def spec_RunRead.l18 (k:Nat) (L4:(List Int)→Int→Int→Int→(List Int)→Option ((Unit×Int×Bool)×(List Int))):Nat→(List Int)→Int→Int→Int→Int→Int→Int→(List Int)→Option ((Unit×Int×Bool)×(List Int))
 |0,_,_,_,_,_,_,_,_=>none
 |n+1,t0,t2,t3,t13,t15,t16,t20,o100=>
  (cond (decide (t20<t15)) (some (decide ((List.length o100:Int)<t2))) (some (false))).bind fun b3=>cond b3 (cond (lim (List.length o100+List.length [t16])) ((spec_RunRead.l18 k L4 n) t0 t2 t3 t13 t15 t16 (IntKind.wrap .i64 (t20+1)) (o100++[t16])) none) (L4 t0 t13 t2 t3 o100)
def spec_RunRead.c17 (k:Nat) (L4:(List Int)→Int→Int→Int→(List Int)→Option ((Unit×Int×Bool)×(List Int))) (t0:List Int) (t2:Int) (t3:Int) (t13:Int) (t15:Int) (t16:Int) (o100:List Int):Option ((Unit×Int×Bool)×(List Int)):=
 spec_RunRead.l18 k L4 k t0 t2 t3 t13 t15 t16 0 o100
def spec_RunRead.l4 (k:Nat):Nat→(List Int)→Int→Int→Int→(List Int)→Option ((Unit×Int×Bool)×(List Int))
 |0,_,_,_,_,_=>none
 |n+1,t0,t1,t2,t3,o100=>
  cond (decide ((List.length o100:Int)<t2)) ((spec_UvarGet k t0 t1).bind fun r4=>(spec_l2Down k r4.1 1).bind fun r5=>cond (!r4.2.2) (some (((),0,false),[])) (cond ((bits .and .i64 r4.1 1)==0) (cond (decide (t3>0)) ((spec_BitsSize k 1 t3).bind fun r6=>(spec_WordGet k t0 r4.2.1 r6).bind fun r7=>(cond (!r7.2.2) (some (true)) (cond (decide (0≤t3)) (some ((shrI .i64 r7.1 t3) !=0)) none)).bind fun b8=>cond b8 (some (((),0,false),[])) (spec_RunRead.c17 k (spec_RunRead.l4 k n) t0 t2 t3 r7.2.1 r5 r7.1 o100)) (spec_RunRead.c17 k (spec_RunRead.l4 k n) t0 t2 t3 r4.2.1 r5 0 o100)) ((cond (decide (r5>2000)) (some (true)) (some (decide ((IntKind.wrap .i64 ((List.length t0:Int)-r4.2.1))<(IntKind.wrap .i64 (r5*t3)))))).bind fun b9=>cond b9 (some (((),0,false),[])) (spec_RunRead.l25 k (spec_RunRead.l4 k n) k t0 t2 t3 r4.2.1 r5 0 o100)))) (some (((),t1,true),o100))
def spec_RunRead (k:Nat) (t0:List Int) (t1:Int) (t2:Int) (t3:Int):Option ((Unit×Int×Bool)×(List Int)):=
 (spec_l8Width k t3).bind fun r10=>(cond (!r10) (some (true)) ((spec_l1In k t2 0 2000).bind fun r11=>some (!r11))).bind fun b12=>(cond b12 (some (true)) ((spec_l1In k t1 0 (List.length t0:Int)).bind fun r13=>some (!r13))).bind fun b14=>cond b14 (some (((),0,false),[])) (spec_RunRead.l4 k k t0 t1 t2 t3 [])
def spec_BitsWidth.l4 (k:Nat):Nat→Int→Int→Option Int
 |0,_,_=>none
 |n+1,t0,t3=>
  cond (decide (t0>0)) ((spec_BitsWidth.l4 k n) (IntKind.wrap .i64 (Int.tdiv t0 2)) (IntKind.wrap .i64 (t3+1))) (cond (decide (t3>62)) (some (-1)) (some t3))
def spec_BitsWidth (k:Nat) (t0:Int):Option Int:=
 cond (decide (t0<0)) (some (-1)) (spec_BitsWidth.l4 k k t0 0)
def spec_LevelsRead.l13 (k:Nat):Nat→Int→Int→Int→Int→(List Int)→(List Int)→Option ((Unit×Int×Bool)×(List Int))
 |0,_,_,_,_,_,_=>none
 |n+1,t3,t12,t13,t18,o100,o101=>
  cond (decide (t18<(List.length o101:Int))) ((rdL o101 t18).bind fun y1=>cond (decide (y1>t3)) (some (((),0,false),o100)) ((spec_LevelsRead.l13 k n) t3 t12 t13 (IntKind.wrap .i64 (t18+1)) o100 o101)) (some (((),IntKind.wrap .i64 (t13+t12),true),o101))
def spec_LevelsRead (k:Nat) (t0:List Int) (t1:Int) (t2:Int) (t3:Int):Option ((Unit×Int×Bool)×(List Int)):=
 (spec_l1In k t3 0 255).bind fun r2=>(cond (!r2) (some (true)) ((spec_l1In k t2 0 2000).bind fun r3=>some (!r3))).bind fun b4=>(cond b4 (some (true)) ((spec_l1In k t1 0 (List.length t0:Int)).bind fun r5=>some (!r5))).bind fun b6=>cond b6 (some (((),0,false),[])) (cond (t3==0) (cond (okLen t2) (some (((),t1,true),List.replicate (Int.toNat t2) 0)) none) ((spec_WordGet k t0 t1 4).bind fun r7=>(cond (!r7.2.2) (some (true)) (some (decide (r7.1>(IntKind.wrap .i64 ((List.length t0:Int)-r7.2.1)))))).bind fun b8=>cond b8 (some (((),0,false),[])) (cond (inSl r7.2.1 (IntKind.wrap .i64 (r7.2.1+r7.1)) (List.length t0)) ((spec_BitsWidth k t3).bind fun r9=>(spec_RunRead k (cutL t0 r7.2.1 (IntKind.wrap .i64 (r7.2.1+r7.1))) 0 t2 r9).bind fun r10=>cond (!r10.1.2.2) (some (((),0,false),[])) (spec_LevelsRead.l13 k k t3 r7.1 r7.2.1 0 [] r10.2)) none)))
def spec_l16Runs.l7 (k:Nat):Nat→Int→Int→(List Int)→Option ((Unit×Bool)×(List Int))
 |0,_,_,_=>none
 |n+1,t2,t11,o100=>
  cond (decide (t11<(List.length o100:Int))) ((rdL o100 t11).bind fun y1=>cond (decide (y1>t2)) (some (((),false),[])) ((spec_l16Runs.l7 k n) t2 (IntKind.wrap .i64 (t11+1)) o100)) (some (((),true),o100))
def spec_l16Runs (k:Nat) (t0:List Int) (t1:Int) (t2:Int):Option ((Unit×Bool)×(List Int)):=
 cond (t2==0) (cond (okLen t1) (some (((),(List.length t0:Int)==0),List.replicate (Int.toNat t1) 0)) none) ((spec_BitsWidth k t2).bind fun r2=>(spec_RunRead k t0 0 t1 r2).bind fun r3=>(cond (!r3.1.2.2) (some (true)) (some (r3.1.2.1 !=(List.length t0:Int)))).bind fun b4=>cond b4 (some (((),false),[])) (spec_l16Runs.l7 k k t2 0 r3.2))
def spec_l16Both.d9 (k:Nat) (t2:List Int) (t16:Int) (t18:Bool) (o100:TLeaf) (o101:THead) (o102:List Int):Option ((Unit×Unit×Int×Bool)×(List Int)×(List Int)):=
 cond (inSl o101.2.2.2.2.2.2.2.1 t16 (List.length t2)) ((spec_l16Runs k (cutL t2 o101.2.2.2.2.2.2.2.1 t16) o101.2.2.1 o100.2.2.1).bind fun r1=>(cond t18 (some (r1.1.2)) (some (false))).bind fun b2=>some (((),(),t16,b2),(o102,r1.2))) none
def spec_l16Both.d8 (k:Nat) (t2:List Int) (t16:Int) (o100:TLeaf) (o101:THead):Option ((Unit×Unit×Int×Bool)×(List Int)×(List Int)):=
 cond (inSl 0 o101.2.2.2.2.2.2.2.1 (List.length t2)) ((spec_l16Runs k (cutL t2 0 o101.2.2.2.2.2.2.2.1) o101.2.2.1 o100.2.1).bind fun r5=>spec_l16Both.d9 k t2 t16 r5.1.2 o100 o101 r5.2) none
def spec_l16Both (k:Nat) (t0:TLeaf) (t1:THead) (t2:List Int):Option ((Unit×Unit×Int×Bool)×(List Int)×(List Int)):=
 cond (t1.1==0) ((spec_LevelsRead k t2 0 t1.2.2.1 t0.2.1).bind fun r7=>(spec_LevelsRead k t2 r7.1.2.1 t1.2.2.1 t0.2.2.1).bind fun r8=>(cond r7.1.2.2 (some (r8.1.2.2)) (some (false))).bind fun b9=>some (((),(),r8.1.2.1,b9),(r7.2,r8.2))) ((cond (decide (t1.2.2.2.2.2.2.2.1>(List.length t2:Int))) (some (true)) (some (decide (t1.2.2.2.2.2.2.1>(IntKind.wrap .i64 ((List.length t2:Int)-t1.2.2.2.2.2.2.2.1)))))).bind fun b10=>cond b10 (some (((),(),0,false),([],[]))) (spec_l16Both.d8 k t2 (IntKind.wrap .i64 (t1.2.2.2.2.2.2.2.1+t1.2.2.2.2.2.2.1)) t0 t1))
def spec_SplitWide.c6 (k:Nat) (t6:Bool):Option Int:=
 cond t6 (some 8) (some 0)
def spec_SplitWide (k:Nat) (t0:Int):Option Int:=
 cond (t0==1) (some 4) (cond (t0==2) (spec_SplitWide.c6 k (t0==2)) (spec_SplitWide.c6 k (t0==5)))
def spec_EncOk.c13 (k:Nat) (t1:Int) (t8:Int) (t24:Bool):Option Bool:=
 cond t24 (some (t1==6)) (cond (t8==9) ((spec_SplitWide k t1).bind fun r1=>some (decide (r1>0))) (some false))
def spec_EncOk.c6 (k:Nat) (t1:Int) (t8:Int) (t9:Bool):Option Bool:=
 cond t9 (some true) (cond (t8==3) (some (t1==0)) (cond (t8==5) ((cond (t1==1) (some (true)) (some (t1==2))).bind fun b2=>some b2) (cond (t8==6) (spec_EncOk.c13 k t1 t8 (t8==6)) (spec_EncOk.c13 k t1 t8 (t8==7)))))
def spec_EncOk (k:Nat) (t0:Int) (t1:Int):Option Bool:=
 (spec_l5Type k t1).bind fun r3=>cond (!r3) (some false) (cond (t0==0) (spec_EncOk.c6 k t1 t0 (t0==0)) (spec_EncOk.c6 k t1 t0 (t0==8)))
def spec_l16Vals.l3 (k:Nat):Nat→(List Int)→Int→(List TVal)→Option (Unit×(List TVal))
 |0,_,_,_=>none
 |n+1,t0,t4,o100=>
  cond (decide (t4<(List.length t0:Int))) ((rdL t0 t4).bind fun y1=>cond (lim (List.length o100+List.length ([(y1,(⟨#[]⟩:ByteArray),())]:List TVal))) ((spec_l16Vals.l3 k n) t0 (IntKind.wrap .i64 (t4+1)) (o100++[(y1,(⟨#[]⟩:ByteArray),())])) none) (some ((),o100))
def spec_l16Vals (k:Nat) (t0:List Int):Option (Unit×(List TVal)):=
 spec_l16Vals.l3 k k t0 0 []
def spec_l9Mini.l9 (k:Nat) (L5:(List Int)→Int→Int→Int→Int→(List Int)→Option ((Unit×Int×Bool)×(List Int))):Nat→(List Int)→Int→Int→Int→Int→Int→Int→(List Int)→Option ((Unit×Int×Bool)×(List Int))
 |0,_,_,_,_,_,_,_,_=>none
 |n+1,t0,t1,t2,t3,t12,t13,t14,o100=>
  cond (decide (t14<t3)) ((spec_l1Bit k t0 (IntKind.wrap .i64 ((IntKind.wrap .i64 ((IntKind.wrap .i64 (8*t1))+(IntKind.wrap .i64 (t12*t3))))+t14))).bind fun r1=>cond (decide (0≤t14)) ((spec_l9Mini.l9 k L5 n) t0 t1 t2 t3 t12 (bits .or .i64 t13 (shlI .i64 r1 t14)) (IntKind.wrap .i64 (t14+1)) o100) none) (cond (lim (List.length o100+List.length [t13])) (L5 t0 t1 t2 t3 (IntKind.wrap .i64 (t12+1)) (o100++[t13])) none)
def spec_l9Mini.l5 (k:Nat):Nat→(List Int)→Int→Int→Int→Int→(List Int)→Option ((Unit×Int×Bool)×(List Int))
 |0,_,_,_,_,_,_=>none
 |n+1,t0,t1,t2,t3,t12,o100=>
  cond (decide (t12<t2)) (spec_l9Mini.l9 k (spec_l9Mini.l5 k n) k t0 t1 t2 t3 t12 0 0 o100) (some (((),IntKind.wrap .i64 (t1+(IntKind.wrap .i64 (Int.tdiv (IntKind.wrap .i64 (t2*t3)) 8))),true),o100))
def spec_l9Mini (k:Nat) (t0:List Int) (t1:Int) (t2:Int) (t3:Int):Option ((Unit×Int×Bool)×(List Int)):=
 (cond (decide (t3>64)) (some (true)) (some (decide ((IntKind.wrap .i64 ((List.length t0:Int)-t1))<(IntKind.wrap .i64 (Int.tdiv (IntKind.wrap .i64 (t2*t3)) 8)))))).bind fun b2=>cond b2 (some (((),0,false),[])) (spec_l9Mini.l5 k k t0 t1 t2 t3 0 [])
def spec_DeltaRead.d28 (k:Nat) (L26:(List Int)→Int→Int→Int→Int→Int→Int→Int→Int→(List Int)→(List Int)→(List Int)→Option ((Unit×Int×Bool)×(List Int))) (t0:List Int) (t1:Int) (t8:Int) (t10:Int) (t12:Int) (t17:Int) (t18:Int) (t20:Int) (t24:Int) (o100:List Int) (o101:List Int) (o102:List Int):Option ((Unit×Int×Bool)×(List Int)):=
 (rdL o101 (IntKind.wrap .i64 ((List.length o101:Int)-1))).bind fun y1=>(rdL o102 t24).bind fun y2=>cond (lim (List.length o101+List.length [IntKind.wrap .i64 ((IntKind.wrap .i64 (y1+y2))+t17)])) (L26 t0 t1 t8 t10 t12 t17 t18 t20 (IntKind.wrap .i64 (t24+1)) o100 (o101++[IntKind.wrap .i64 ((IntKind.wrap .i64 (y1+y2))+t17)]) o102) none
def spec_DeltaRead.l26 (k:Nat) (L19:(List Int)→Int→Int→Int→Int→Int→Int→Int→(List Int)→(List Int)→Option ((Unit×Int×Bool)×(List Int))):Nat→(List Int)→Int→Int→Int→Int→Int→Int→Int→Int→(List Int)→(List Int)→(List Int)→Option ((Unit×Int×Bool)×(List Int))
 |0,_,_,_,_,_,_,_,_,_,_,_,_=>none
 |n+1,t0,t1,t8,t10,t12,t17,t18,t20,t24,o100,o101,o102=>
  (cond (decide (t24<(List.length o102:Int))) (some (decide ((List.length o101:Int)<t12))) (some (false))).bind fun b7=>cond b7 (spec_DeltaRead.d28 k (spec_DeltaRead.l26 k L19 n) t0 t1 t8 t10 t12 t17 t18 t20 t24 o100 o101 o102) (L19 t0 t1 t8 t10 t12 t17 t18 (IntKind.wrap .i64 (t20+1)) o100 o101)
def spec_DeltaRead.l19 (k:Nat) (L13:(List Int)→Int→Int→Int→Int→(List Int)→(List Int)→Option ((Unit×Int×Bool)×(List Int))):Nat→(List Int)→Int→Int→Int→Int→Int→Int→Int→(List Int)→(List Int)→Option ((Unit×Int×Bool)×(List Int))
 |0,_,_,_,_,_,_,_,_,_,_=>none
 |n+1,t0,t1,t8,t10,t12,t17,t18,t20,o100,o101=>
  (cond (decide (t20<t10)) (some (decide ((List.length o101:Int)<t12))) (some (false))).bind fun b8=>cond b8 (cond (decide (t10≠0)) ((rdL t0 (IntKind.wrap .i64 (t18+t20))).bind fun y9=>(spec_l9Mini k t0 t1 (IntKind.wrap .i64 (Int.tdiv t8 t10)) (IntKind.wrap .i64 y9)).bind fun r10=>cond (!r10.1.2.2) (some (((),0,false),o100)) (spec_DeltaRead.l26 k (spec_DeltaRead.l19 k L13 n) k t0 r10.1.2.1 t8 t10 t12 t17 t18 t20 0 o100 o101 r10.2)) none) (L13 t0 t1 t8 t10 t12 o100 o101)
def spec_DeltaRead.l13 (k:Nat):Nat→(List Int)→Int→Int→Int→Int→(List Int)→(List Int)→Option ((Unit×Int×Bool)×(List Int))
 |0,_,_,_,_,_,_,_=>none
 |n+1,t0,t1,t8,t10,t12,o100,o101=>
  cond (decide ((List.length o101:Int)<t12)) ((spec_ZigGet k t0 t1).bind fun r11=>(cond (!r11.2.2) (some (true)) (some (decide ((IntKind.wrap .i64 ((List.length t0:Int)-r11.2.1))<t10)))).bind fun b12=>cond b12 (some (((),0,false),o100)) (spec_DeltaRead.l19 k (spec_DeltaRead.l13 k n) k t0 (IntKind.wrap .i64 (r11.2.1+t10)) t8 t10 t12 r11.1 r11.2.1 0 o100 o101)) (some (((),t1,true),o101))
def spec_DeltaRead (k:Nat) (t0:List Int) (t1:Int):Option ((Unit×Int×Bool)×(List Int)):=
 (spec_l1In k t1 0 (List.length t0:Int)).bind fun r13=>cond (!r13) (some (((),0,false),[])) ((spec_UvarGet k t0 t1).bind fun r14=>(spec_UvarGet k t0 r14.2.1).bind fun r15=>(spec_UvarGet k t0 r15.2.1).bind fun r16=>(spec_ZigGet k t0 r16.2.1).bind fun r17=>(cond (!r14.2.2) (some (true)) (some (!r15.2.2))).bind fun b18=>(cond b18 (some (true)) (some (!r16.2.2))).bind fun b19=>(cond b19 (some (true)) (some (!r17.2.2))).bind fun b20=>(cond b20 (some (true)) ((spec_l1In k r14.1 128 1024).bind fun r21=>some (!r21))).bind fun b22=>(cond b22 (some (true)) (some ((Int.tmod r14.1 128) !=0))).bind fun b23=>(cond b23 (some (true)) ((spec_l1In k r15.1 1 r14.1).bind fun r24=>some (!r24))).bind fun b25=>(cond b25 (some (true)) (cond (decide (r15.1≠0)) (some ((Int.tmod r14.1 r15.1) !=0)) none)).bind fun b26=>(cond b26 (some (true)) (cond (decide (r15.1≠0)) (some ((Int.tmod (IntKind.wrap .i64 (Int.tdiv r14.1 r15.1)) 32) !=0)) none)).bind fun b27=>(cond b27 (some (true)) ((spec_l1In k r16.1 0 2000).bind fun r28=>some (!r28))).bind fun b29=>cond b29 (some (((),0,false),[])) (cond (decide (r16.1>0)) (cond (lim ((0:Nat)+List.length [r17.1])) (spec_DeltaRead.l13 k k t0 r17.2.1 r14.1 r15.1 r16.1 [] ([]++[r17.1])) none) (spec_DeltaRead.l13 k k t0 r17.2.1 r14.1 r15.1 r16.1 [] [])))
def spec_LengthRead.l7 (k:Nat):Nat→(List Int)→Int→Int→(List TVal)→(List Int)→(List TVal)→Option ((Unit×Int×Bool)×(List TVal))
 |0,_,_,_,_,_,_=>none
 |n+1,t0,t1,t11,o100,o101,o102=>
  cond (decide (t11<(List.length o101:Int))) ((rdL o101 t11).bind fun y1=>(spec_l1In k y1 0 40).bind fun r2=>(cond (!r2) (some (true)) ((rdL o101 t11).bind fun y3=>some (decide (y3>(IntKind.wrap .i64 ((List.length t0:Int)-t1)))))).bind fun b4=>cond b4 (some (((),0,false),o100)) ((rdL o101 t11).bind fun y5=>cond (inSl t1 (IntKind.wrap .i64 (t1+y5)) (List.length t0)) (cond (lim (List.length o102+List.length [(0,intsStr (cutL t0 t1 (IntKind.wrap .i64 (t1+y5))),())])) ((rdL o101 t11).bind fun y6=>(spec_LengthRead.l7 k n) t0 (IntKind.wrap .i64 (t1+y6)) (IntKind.wrap .i64 (t11+1)) o100 o101 (o102++[(0,intsStr (cutL t0 t1 (IntKind.wrap .i64 (t1+y5))),())])) none) none)) (some (((),t1,true),o102))
def spec_LengthRead (k:Nat) (t0:List Int) (t1:Int):Option ((Unit×Int×Bool)×(List TVal)):=
 (spec_DeltaRead k t0 t1).bind fun r7=>cond (!r7.1.2.2) (some (((),0,false),[])) (spec_LengthRead.l7 k k t0 r7.1.2.1 0 [] r7.2 [])
def spec_FrontRead.l9 (k:Nat):Nat→Int→ByteArray→Int→(List TVal)→(List Int)→(List TVal)→(List TVal)→Option ((Unit×Int×Bool)×(List TVal))
 |0,_,_,_,_,_,_,_=>none
 |n+1,t11,t14,t15,o100,o101,o102,o103=>
  cond (decide (t15<(List.length o101:Int))) ((rdL o101 t15).bind fun y1=>(spec_l1In k y1 0 (t14.size:Int)).bind fun r2=>cond (!r2) (some (((),0,false),o100)) ((rdL o101 t15).bind fun y3=>cond (inSl 0 y3 t14.size) ((rdL o102 t15).bind fun y4=>cond (lim ((ByteArray.extract t14 (Int.toNat 0) (Int.toNat y3)).size+y4.2.1.size)) (cond (decide ((((ByteArray.extract t14 (Int.toNat 0) (Int.toNat y3))++y4.2.1).size:Int)>40)) (some (((),0,false),o100)) (cond (lim (List.length o103+List.length [(0,(ByteArray.extract t14 (Int.toNat 0) (Int.toNat y3))++y4.2.1,())])) ((spec_FrontRead.l9 k n) t11 ((ByteArray.extract t14 (Int.toNat 0) (Int.toNat y3))++y4.2.1) (IntKind.wrap .i64 (t15+1)) o100 o101 o102 (o103++[(0,(ByteArray.extract t14 (Int.toNat 0) (Int.toNat y3))++y4.2.1,())])) none)) none) none)) (some (((),t11,true),o103))
def spec_FrontRead (k:Nat) (t0:List Int) (t1:Int):Option ((Unit×Int×Bool)×(List TVal)):=
 (spec_DeltaRead k t0 t1).bind fun r5=>(spec_LengthRead k t0 r5.1.2.1).bind fun r6=>(cond (!r5.1.2.2) (some (true)) (some (!r6.1.2.2))).bind fun b7=>(cond b7 (some (true)) (some ((List.length r5.2:Int) !=(List.length r6.2:Int)))).bind fun b8=>cond b8 (some (((),0,false),[])) (spec_FrontRead.l9 k k r6.1.2.1 (⟨#[]⟩:ByteArray) 0 [] r5.2 r6.2 [])
def spec_SplitRead.c15 (k:Nat) (L6:(List Int)→Int→Int→Int→Int→(List TVal)→Option ((Unit×Int×Bool)×(List TVal))) (t1:List Int) (t2:Int) (t3:Int) (t11:Int) (t13:Int) (t14:Int) (o100:List TVal):Option ((Unit×Int×Bool)×(List TVal)):=
 cond (lim (List.length o100+List.length ([(t14,(⟨#[]⟩:ByteArray),())]:List TVal))) (L6 t1 t2 t3 t11 (IntKind.wrap .i64 (t13+1)) (o100++[(t14,(⟨#[]⟩:ByteArray),())])) none
def spec_SplitRead.l10 (k:Nat) (L6:(List Int)→Int→Int→Int→Int→(List TVal)→Option ((Unit×Int×Bool)×(List TVal))):Nat→(List Int)→Int→Int→Int→Int→Int→Int→(List TVal)→Option ((Unit×Int×Bool)×(List TVal))
 |0,_,_,_,_,_,_,_,_=>none
 |n+1,t1,t2,t3,t11,t13,t14,t15,o100=>
  cond (decide (t15<t11)) ((rdL t1 (IntKind.wrap .i64 ((IntKind.wrap .i64 (t2+(IntKind.wrap .i64 (t15*t3))))+t13))).bind fun y1=>cond (decide (0≤(IntKind.wrap .i64 (8*t15)))) ((spec_SplitRead.l10 k L6 n) t1 t2 t3 t11 t13 (bits .or .i64 t14 (shlI .i64 (IntKind.wrap .i64 y1) (IntKind.wrap .i64 (8*t15)))) (IntKind.wrap .i64 (t15+1)) o100) none) ((cond (t11==4) (some (decide (t14>2147483647))) (some (false))).bind fun b2=>cond b2 (spec_SplitRead.c15 k L6 t1 t2 t3 t11 t13 (IntKind.wrap .i64 (t14-4294967296)) o100) (spec_SplitRead.c15 k L6 t1 t2 t3 t11 t13 t14 o100))
def spec_SplitRead.l6 (k:Nat):Nat→(List Int)→Int→Int→Int→Int→(List TVal)→Option ((Unit×Int×Bool)×(List TVal))
 |0,_,_,_,_,_,_=>none
 |n+1,t1,t2,t3,t11,t13,o100=>
  cond (decide (t13<t3)) (spec_SplitRead.l10 k (spec_SplitRead.l6 k n) k t1 t2 t3 t11 t13 0 0 o100) (some (((),IntKind.wrap .i64 (t2+(IntKind.wrap .i64 (t11*t3))),true),o100))
def spec_SplitRead (k:Nat) (t0:Int) (t1:List Int) (t2:Int) (t3:Int):Option ((Unit×Int×Bool)×(List TVal)):=
 (spec_SplitWide k t0).bind fun r3=>(cond (r3==0) (some (true)) ((spec_l1In k t3 0 2000).bind fun r4=>some (!r4))).bind fun b5=>(cond b5 (some (true)) ((spec_l1In k t2 0 (List.length t1:Int)).bind fun r6=>some (!r6))).bind fun b7=>(cond b7 (some (true)) (some (decide ((IntKind.wrap .i64 ((List.length t1:Int)-t2))<(IntKind.wrap .i64 (r3*t3)))))).bind fun b8=>cond b8 (some (((),0,false),[])) (spec_SplitRead.l6 k k t1 t2 t3 r3 0 [])
def spec_PlacesRead.l8 (k:Nat):Nat→Int→Int→Int→(List Int)→(List Int)→Option ((Unit×Int×Bool)×(List Int))
 |0,_,_,_,_,_=>none
 |n+1,t3,t13,t15,o100,o101=>
  cond (decide (t15<(List.length o101:Int))) ((rdL o101 t15).bind fun y1=>cond (decide (y1≥t3)) (some (((),0,false),o100)) ((spec_PlacesRead.l8 k n) t3 t13 (IntKind.wrap .i64 (t15+1)) o100 o101)) (some (((),t13,true),o101))
def spec_PlacesRead (k:Nat) (t0:List Int) (t1:Int) (t2:Int) (t3:Int):Option ((Unit×Int×Bool)×(List Int)):=
 (cond (decide (t1<0)) (some (true)) (some (decide (t1≥(List.length t0:Int))))).bind fun b2=>(cond b2 (some (true)) ((rdL t0 t1).bind fun y3=>some (decide (y3>24)))).bind fun b4=>cond b4 (some (((),0,false),[])) ((rdL t0 t1).bind fun y5=>(spec_RunRead k t0 (IntKind.wrap .i64 (t1+1)) t2 (IntKind.wrap .i64 y5)).bind fun r6=>cond (!r6.1.2.2) (some (((),0,false),[])) (spec_PlacesRead.l8 k k t3 r6.1.2.1 0 [] r6.2))
def spec_DictAt.l5 (k:Nat):Nat→(List TVal)→(List Int)→Int→(List TVal)→Option ((Unit×Bool)×(List TVal))
 |0,_,_,_,_=>none
 |n+1,t0,t1,t7,o100=>
  cond (decide (t7<(List.length t1:Int))) ((rdL t1 t7).bind fun y1=>(spec_l1In k y1 0 (IntKind.wrap .i64 ((List.length t0:Int)-1))).bind fun r2=>cond (!r2) (some (((),false),[])) ((rdL t1 t7).bind fun y3=>(rdL t0 y3).bind fun y4=>cond (lim (List.length o100+List.length [y4])) ((spec_DictAt.l5 k n) t0 t1 (IntKind.wrap .i64 (t7+1)) (o100++[y4])) none)) (some (((),true),o100))
def spec_DictAt (k:Nat) (t0:List TVal) (t1:List Int):Option ((Unit×Bool)×(List TVal)):=
 cond (decide ((List.length t1:Int)>2000)) (some (((),false),[])) (spec_DictAt.l5 k k t0 t1 0 [])
def spec_l16Read (k:Nat) (t0:Int) (t1:Int) (t2:List Int) (t3:Int) (t4:List TVal):Option ((Unit×Int×Bool)×(List TVal)):=
 cond (t0==0) ((spec_PlainRead k t1 t2 0 t3).bind fun r1=>some (((),r1.1.2.1,r1.1.2.2),r1.2)) (cond (t0==3) ((spec_WordGet k t2 0 4).bind fun r2=>(cond (!r2.2.2) (some (true)) (some (r2.1 !=(IntKind.wrap .i64 ((List.length t2:Int)-r2.2.1))))).bind fun b3=>cond b3 (some (((),0,false),[])) ((spec_RunRead k t2 r2.2.1 t3 1).bind fun r4=>(spec_l16Vals k r4.2).bind fun r5=>some (((),r4.1.2.1,r4.1.2.2),r5.2))) (cond (t0==5) ((spec_DeltaRead k t2 0).bind fun r6=>(spec_l16Vals k r6.2).bind fun r7=>some (((),r6.1.2.1,r6.1.2.2),r7.2)) (cond (t0==6) ((spec_LengthRead k t2 0).bind fun r8=>some (((),r8.1.2.1,r8.1.2.2),r8.2)) (cond (t0==7) ((spec_FrontRead k t2 0).bind fun r9=>some (((),r9.1.2.1,r9.1.2.2),r9.2)) (cond (t0==9) ((spec_SplitRead k t1 t2 0 t3).bind fun r10=>some (((),r10.1.2.1,r10.1.2.2),r10.2)) ((cond (t3==0) (some ((List.length t2:Int)==0)) (some (false))).bind fun b11=>cond b11 (some (((),0,true),[])) ((spec_PlacesRead k t2 0 t3 (List.length t4:Int)).bind fun r12=>(spec_DictAt k t4 r12.2).bind fun r13=>(cond r12.1.2.2 (some (r13.1.2)) (some (false))).bind fun b14=>some (((),r12.1.2.1,b14),r13.2))))))))
def spec_EncRead (k:Nat) (t0:Int) (t1:Int) (t2:List Int) (t3:Int) (t4:List TVal):Option ((Unit×Bool)×(List TVal)):=
 (spec_EncOk k t0 t1).bind fun r1=>(cond (!r1) (some (true)) ((spec_l1In k t3 0 2000).bind fun r2=>some (!r2))).bind fun b3=>cond b3 (some (((),false),[])) ((spec_l16Read k t0 t1 t2 t3 t4).bind fun r4=>(cond (!r4.1.2.2) (some (true)) (some (r4.1.2.1 !=(List.length t2:Int)))).bind fun b5=>(cond b5 (some (true)) (some ((List.length r4.2:Int) !=t3))).bind fun b6=>(cond b6 (some (true)) ((spec_l6Vals k t1 r4.2).bind fun r7=>some (!r7))).bind fun b8=>cond b8 (some (((),false),[])) (some (((),true),r4.2)))
def spec_PageRead.c35 (k:Nat) (L29:Int→Int→TLeaf→THead→(List Int)→(List Int)→(List TVal)→(List TTriple)→Option ((Unit×Int×Int)×(List TTriple))) (t25:Int) (t26:Int) (o100:TLeaf) (o101:THead) (o102:List Int) (o103:List Int) (o104:List TVal) (o105:List TTriple) (o106:TTriple):Option ((Unit×Int×Int)×(List TTriple)):=
 cond (lim (List.length o105+List.length [o106])) (L29 t25 (IntKind.wrap .i64 (t26+1)) o100 o101 o102 o103 o104 (o105++[o106])) none
def spec_PageRead.l29 (k:Nat):Nat→Int→Int→TLeaf→THead→(List Int)→(List Int)→(List TVal)→(List TTriple)→Option ((Unit×Int×Int)×(List TTriple))
 |0,_,_,_,_,_,_,_,_=>none
 |n+1,t25,t26,o100,o101,o102,o103,o104,o105=>
  cond (decide (t26<o101.2.2.1)) ((rdL o102 t26).bind fun y1=>(rdL o103 t26).bind fun y2=>cond (y2==o100.2.2.1) ((rdL o104 t25).bind fun y3=>spec_PageRead.c35 k (spec_PageRead.l29 k n) (IntKind.wrap .i64 (t25+1)) t26 o100 o101 o102 o103 o104 o105 (y1,y2,y3,())) (spec_PageRead.c35 k (spec_PageRead.l29 k n) t25 t26 o100 o101 o102 o103 o104 o105 (y1,y2,(0,(⟨#[]⟩:ByteArray),()),()))) (some (((),IntKind.wrap .i64 (o101.2.2.2.2.2.2.2.2.2.2.2.2.1+o101.2.1),0),o105))
def spec_PageRead.c16 (k:Nat) (L15:(List TVal)→(List Int)→Int→Int→Int→Int→TLeaf→(List TTriple)→THead→(List Int)→(List Int)→Option ((Unit×Int×Int)×(List TTriple))) (t3:List TVal) (t14:List Int) (t17:Int) (t19:Int) (t20:Int) (t21:Int) (o100:TLeaf) (o101:List TTriple) (o102:THead) (o103:List Int) (o104:List Int):Option ((Unit×Int×Int)×(List TTriple)):=
 L15 t3 t14 t17 t19 t20 (IntKind.wrap .i64 (t21+1)) o100 o101 o102 o103 o104
def spec_PageRead.c19 (k:Nat) (L15:(List TVal)→(List Int)→Int→Int→Int→Int→TLeaf→(List TTriple)→THead→(List Int)→(List Int)→Option ((Unit×Int×Int)×(List TTriple))) (t3:List TVal) (t14:List Int) (t17:Int) (t19:Int) (t20:Int) (t21:Int) (o100:TLeaf) (o101:List TTriple) (o102:THead) (o103:List Int) (o104:List Int):Option ((Unit×Int×Int)×(List TTriple)):=
 (rdL o104 t21).bind fun y4=>cond (y4==o100.2.2.1) (spec_PageRead.c16 k L15 t3 t14 t17 t19 (IntKind.wrap .i64 (t20+1)) t21 o100 o101 o102 o103 o104) (spec_PageRead.c16 k L15 t3 t14 t17 t19 t20 t21 o100 o101 o102 o103 o104)
def spec_PageRead.l15 (k:Nat):Nat→(List TVal)→(List Int)→Int→Int→Int→Int→TLeaf→(List TTriple)→THead→(List Int)→(List Int)→Option ((Unit×Int×Int)×(List TTriple))
 |0,_,_,_,_,_,_,_,_,_,_,_=>none
 |n+1,t3,t14,t17,t19,t20,t21,o100,o101,o102,o103,o104=>
  cond (decide (t21<o102.2.2.1)) ((rdL o103 t21).bind fun y5=>cond (y5==0) (spec_PageRead.c19 k (spec_PageRead.l15 k n) t3 t14 t17 (IntKind.wrap .i64 (t19+1)) t20 t21 o100 o101 o102 o103 o104) (spec_PageRead.c19 k (spec_PageRead.l15 k n) t3 t14 t17 t19 t20 t21 o100 o101 o102 o103 o104)) ((cond (o102.1==3) ((cond (t19 !=o102.2.2.2.2.1) (some (true)) (some ((IntKind.wrap .i64 (o102.2.2.1-t20)) !=o102.2.2.2.2.2.1))).bind fun b6=>some (b6)) (some (false))).bind fun b7=>cond b7 (some (((),0,4),o101)) (cond (inSl t17 ((List.length t14):Int) (List.length t14)) ((spec_EncRead k o102.2.2.2.1 o100.1 (cutL t14 t17 ((List.length t14):Int)) t20 t3).bind fun r8=>cond (!r8.1.2) (some (((),0,5),o101)) (spec_PageRead.l29 k k 0 0 o100 o102 o103 o104 r8.2 [])) none))
def spec_PageRead.d8 (k:Nat) (t3:List TVal) (t14:List Int) (o100:TLeaf) (o101:List TTriple) (o102:THead):Option ((Unit×Int×Int)×(List TTriple)):=
 cond o102.2.2.2.2.2.2.2.2.1 ((spec_CrcOf k t14).bind fun r9=>cond (r9 !=o102.2.2.2.2.2.2.2.2.2.1) (some (((),0,3),o101)) ((spec_l16Both k o100 o102 t14).bind fun r10=>(cond (!r10.1.2.2.2) (some (true)) ((cond (decide (o102.2.2.1>0)) ((rdL r10.2.1 0).bind fun y11=>some (y11 !=0)) (some (false))).bind fun b12=>some (b12))).bind fun b13=>cond b13 (some (((),0,4),o101)) (spec_PageRead.l15 k k t3 t14 r10.1.2.2.1 0 0 0 o100 o101 o102 r10.2.1 r10.2.2))) (cond false (some (((),0,3),o101)) ((spec_l16Both k o100 o102 t14).bind fun r14=>(cond (!r14.1.2.2.2) (some (true)) ((cond (decide (o102.2.2.1>0)) ((rdL r14.2.1 0).bind fun y15=>some (y15 !=0)) (some (false))).bind fun b16=>some (b16))).bind fun b17=>cond b17 (some (((),0,4),o101)) (spec_PageRead.l15 k k t3 t14 r14.1.2.2.1 0 0 0 o100 o101 o102 r14.2.1 r14.2.2)))
def spec_PageRead (k:Nat) (t0:TLeaf) (t1:List Int) (t2:Int) (t3:List TVal):Option ((Unit×Int×Int)×(List TTriple)):=
 (spec_HeadRead k t0 t1 t2).bind fun r36=>cond (r36.2 !=0) (some (((),0,r36.2),[])) (cond (r36.1.1==2) (some (((),0,1),[])) (cond (inSl r36.1.2.2.2.2.2.2.2.2.2.2.2.2.1 (IntKind.wrap .i64 (r36.1.2.2.2.2.2.2.2.2.2.2.2.2.1+r36.1.2.1)) (List.length t1)) (spec_PageRead.d8 k t3 (cutL t1 r36.1.2.2.2.2.2.2.2.2.2.2.2.2.1 (IntKind.wrap .i64 (r36.1.2.2.2.2.2.2.2.2.2.2.2.2.1+r36.1.2.1))) t0 [] r36.1) none))
def spec_DictRead.d8 (k:Nat) (t0:Int) (t12:List Int) (o100:List TVal) (o101:THead):Option ((Unit×Int×Int)×(List TVal)):=
 cond o101.2.2.2.2.2.2.2.2.1 ((spec_CrcOf k t12).bind fun r1=>cond (r1 !=o101.2.2.2.2.2.2.2.2.2.1) (some (((),0,3),o100)) ((spec_PlainRead k t0 t12 0 o101.2.2.1).bind fun r2=>(cond (!r2.1.2.2) (some (true)) (some (r2.1.2.1 !=(List.length t12:Int)))).bind fun b3=>cond b3 (some (((),0,5),o100)) (some (((),IntKind.wrap .i64 (o101.2.2.2.2.2.2.2.2.2.2.2.2.1+o101.2.1),0),r2.2)))) (cond false (some (((),0,3),o100)) ((spec_PlainRead k t0 t12 0 o101.2.2.1).bind fun r4=>(cond (!r4.1.2.2) (some (true)) (some (r4.1.2.1 !=(List.length t12:Int)))).bind fun b5=>cond b5 (some (((),0,5),o100)) (some (((),IntKind.wrap .i64 (o101.2.2.2.2.2.2.2.2.2.2.2.2.1+o101.2.1),0),r4.2))))
def spec_DictRead (k:Nat) (t0:Int) (t1:List Int) (t2:Int):Option ((Unit×Int×Int)×(List TVal)):=
 (spec_HeadRead k (t0,0,0,()) t1 t2).bind fun r16=>cond (r16.2 !=0) (some (((),0,r16.2),[])) ((cond (r16.1.1 !=2) (some (true)) ((cond (r16.1.2.2.2.1 !=0) (some (r16.1.2.2.2.1 !=2)) (some (false))).bind fun b17=>some (b17))).bind fun b18=>cond b18 (some (((),0,1),[])) (cond (inSl r16.1.2.2.2.2.2.2.2.2.2.2.2.2.1 (IntKind.wrap .i64 (r16.1.2.2.2.2.2.2.2.2.2.2.2.2.1+r16.1.2.1)) (List.length t1)) (spec_DictRead.d8 k t0 (cutL t1 r16.1.2.2.2.2.2.2.2.2.2.2.2.2.1 (IntKind.wrap .i64 (r16.1.2.2.2.2.2.2.2.2.2.2.2.2.1+r16.1.2.1))) [] r16.1) none))
def spec_ChunkPages.l13 (k:Nat):Nat→(List Int)→Int→Int→TLeaf→TChunk→(List Int)→(List TVal)→(List TVal)→(List Int)→Option ((Unit×Unit×Int)×(List Int)×(List TVal))
 |0,_,_,_,_,_,_,_,_,_=>none
 |n+1,t1,t16,t17,o100,o101,o102,o103,o104,o105=>
  cond (decide (t17<o101.2.2.2.1)) ((spec_HeadRead k o100 t1 t16).bind fun r1=>cond (r1.2 !=0) (some (((),(),r1.2),(o102,o103))) ((cond (r1.1.1==2) (some (true)) (some (r1.1.2.2.1==0))).bind fun b2=>(cond b2 (some (true)) (some (decide ((IntKind.wrap .i64 (t17+r1.1.2.2.1))>o101.2.2.2.1)))).bind fun b3=>cond b3 (some (((),(),1),(o102,o103))) (cond (lim (List.length o105+List.length [t16])) ((spec_ChunkPages.l13 k n) t1 (IntKind.wrap .i64 (r1.1.2.2.2.2.2.2.2.2.2.2.2.2.1+r1.1.2.1)) (IntKind.wrap .i64 (t17+r1.1.2.2.1)) o100 o101 o102 o103 o104 (o105++[t16])) none))) (some (((),(),0),(o105,o104)))
def spec_ChunkPages.c10 (k:Nat) (t1:List Int) (o100:TLeaf) (o101:TChunk) (o102:List Int) (o103:List TVal) (o104:List TVal):Option ((Unit×Unit×Int)×(List Int)×(List TVal)):=
 spec_ChunkPages.l13 k k t1 o101.2.1 0 o100 o101 o102 o103 o104 []
def spec_ChunkPages (k:Nat) (t0:TLeaf) (t1:List Int) (t2:TChunk):Option ((Unit×Unit×Int)×(List Int)×(List TVal)):=
 (cond (decide (t2.2.1<0)) (some (true)) (some (decide (t2.2.2.1<(-1))))).bind fun b4=>cond b4 (some (((),(),1),([],[]))) (cond (decide (t2.2.2.1≥0)) ((spec_DictRead k t0.1 t1 t2.2.2.1).bind fun r5=>cond (r5.1.2.2 !=0) (some (((),(),r5.1.2.2),([],[]))) (spec_ChunkPages.c10 k t1 t0 t2 [] [] r5.2)) (spec_ChunkPages.c10 k t1 t0 t2 [] [] []))
def spec_ChunkRead.l6 (k:Nat):Nat→(List Int)→Int→TLeaf→(List Int)→(List TVal)→(List TTriple)→Option ((Unit×Int)×(List TTriple))
 |0,_,_,_,_,_,_=>none
 |n+1,t1,t12,o100,o101,o102,o103=>
  cond (decide (t12<(List.length o101:Int))) ((rdL o101 t12).bind fun y1=>(spec_PageRead k o100 t1 y1 o102).bind fun r2=>cond (r2.1.2.2 !=0) (some (((),r2.1.2.2),[])) (cond (lim (List.length o103+List.length r2.2)) ((spec_ChunkRead.l6 k n) t1 (IntKind.wrap .i64 (t12+1)) o100 o101 o102 (o103++r2.2)) none)) (some (((),0),o103))
def spec_ChunkRead (k:Nat) (t0:TLeaf) (t1:List Int) (t2:TChunk):Option ((Unit×Int)×(List TTriple)):=
 (spec_ChunkPages k t0 t1 t2).bind fun r3=>cond (r3.1.2.2 !=0) (some (((),r3.1.2.2),[])) (spec_ChunkRead.l6 k k t1 0 t0 r3.2.1 r3.2.2 [])
def laws_toIntS.l3 (k:Nat):Nat→(List Int)→Int→(List Int)→Option (Unit×(List Int))
 |0,_,_,_=>none
 |n+1,t0,t4,o100=>
  cond (decide (t4<(List.length t0:Int))) ((rdL t0 t4).bind fun y1=>(rdL o100 t4).bind fun y2=>(rdL o100 t4).bind fun y3=>(laws_toIntS.l3 k n) t0 (IntKind.wrap .i64 (t4+1)) (List.set o100 (Int.toNat t4) y1)) (some ((),o100))
def laws_toIntS (k:Nat) (t0:List Int):Option (Unit×(List Int)):=
 cond (okLen (List.length t0:Int)) (laws_toIntS.l3 k k t0 0 (List.replicate (Int.toNat (List.length t0:Int)) 0)) none
def laws_toChunk (k:Nat) (t0:TChunk):Option (((Int×Int×Int×Int×Int×Unit×Unit))×(List Int)):=
 (laws_toIntS k t0.2.2.2.2.2.1).bind fun r1=>some ((t0.1,t0.2.1,t0.2.2.1,t0.2.2.2.1,t0.2.2.2.2.1,(),()),r1.2)
def impl_within (k:Nat) (t0:Int) (t1:Int) (t2:Int):Option Bool:=
 (cond (decide (t0≥t1)) (some (decide (t0≤t2))) (some (false))).bind fun b1=>some b1
def impl_Zag (k:Nat) (t0:Int):Option Int:=
 some (bits .xor .i64 (IntKind.wrap .i64 (shrI .u64 (IntKind.wrap .u64 t0) 1)) (IntKind.wrap .i64 (0-(bits .and .i64 t0 1))))
def impl_isInt32 (k:Nat) (t0:Int):Option Bool:=
 (impl_within k t0 (-2147483648) 2147483647).bind fun r1=>some r1
def impl_treeReader_fail (k:Nat) (t1:Int) (o0:TTreeReaderB) (o10:List TNode):Option (Unit×TTreeReaderB×(List TNode)):=
 cond (o0.2.2.2.1==0) (some ((),((o0.1,o0.2.1,(),t1,()),o10))) (some ((),(o0,o10)))
def impl_treeReader_begin.c3 (k:Nat) (o0:TTreeReaderB) (o10:List TNode) (o100:TNode):Option (Int×TTreeReaderB×(List TNode)):=
 cond (o0.2.2.2.1 !=0) (some (0,(o0,o10))) (cond (lim (List.length o10+List.length [o100])) (some (IntKind.wrap .i64 ((List.length (o10++[o100]):Int)-1),(o0,o10++[o100]))) none)
def impl_treeReader_begin (k:Nat) (t1:TNode) (t2:Int) (o0:TTreeReaderB) (o10:List TNode):Option (Int×TTreeReaderB×(List TNode)):=
 (cond (decide (t2>12)) (some (true)) (some ((List.length o10:Int)==1500))).bind fun b1=>cond b1 ((impl_treeReader_fail k 4 o0 o10).bind fun r2=>impl_treeReader_begin.c3 k r2.2.1 r2.2.2 t1) (impl_treeReader_begin.c3 k o0 o10 t1)
def impl_UvarGet.c12 (k:Nat):Option (Int×Int×Bool):=
 some (0,0,false)
def impl_UvarGet.l5 (k:Nat):Nat→(List Int)→Int→Int→Int→Option (Int×Int×Bool)
 |0,_,_,_,_=>none
 |n+1,t0,t1,t7,t8=>
  (cond (decide (t8<10)) (some (decide (t8<(IntKind.wrap .i64 ((List.length t0:Int)-t1))))) (some (false))).bind fun b1=>cond b1 ((rdL t0 (IntKind.wrap .i64 (t1+t8))).bind fun y2=>(cond (t8==9) (some (decide (y2>1))) (some (false))).bind fun b3=>cond b3 (impl_UvarGet.c12 k) (cond (decide (0≤(IntKind.wrap .i64 (7*t8)))) (cond (decide (y2<128)) (some (IntKind.wrap .i64 (bits .or .u64 t7 (shlI .u64 (IntKind.wrap .u64 (bits .and .u8 y2 127)) (IntKind.wrap .i64 (7*t8)))),IntKind.wrap .i64 ((IntKind.wrap .i64 (t1+t8))+1),true)) ((impl_UvarGet.l5 k n) t0 t1 (bits .or .u64 t7 (shlI .u64 (IntKind.wrap .u64 (bits .and .u8 y2 127)) (IntKind.wrap .i64 (7*t8)))) (IntKind.wrap .i64 (t8+1)))) none)) (impl_UvarGet.c12 k)
def impl_UvarGet (k:Nat) (t0:List Int) (t1:Int):Option (Int×Int×Bool):=
 cond (decide (t1<0)) (some (0,0,false)) (impl_UvarGet.l5 k k t0 t1 0 0)
def impl_treeReader_uvar (k:Nat) (o0:TTreeReaderB) (o10:List TNode):Option (Int×TTreeReaderB×(List TNode)):=
 (impl_UvarGet k o0.1 o0.2.1).bind fun r1=>(cond (o0.2.2.2.1 !=0) (some (true)) (some (!r1.2.2))).bind fun b2=>cond b2 ((impl_treeReader_fail k 1 o0 o10).bind fun r3=>some (0,(r3.2.1,r3.2.2))) (some (r1.1,((o0.1,r1.2.1,(),o0.2.2.2.1,()),o10)))
def impl_treeReader_text.c6 (k:Nat) (t3:Int) (o0:TTreeReaderB) (o10:List TNode):Option (ByteArray×TTreeReaderB×(List TNode)):=
 cond (o0.2.2.2.1 !=0) (some ((⟨#[]⟩:ByteArray),(o0,o10))) (cond (inSl (IntKind.wrap .i64 ((IntKind.wrap .i64 (o0.2.1+t3))-t3)) (IntKind.wrap .i64 (o0.2.1+t3)) (List.length o0.1)) (some (intsStr (cutL o0.1 (IntKind.wrap .i64 ((IntKind.wrap .i64 (o0.2.1+t3))-t3)) (IntKind.wrap .i64 (o0.2.1+t3))),((o0.1,IntKind.wrap .i64 (o0.2.1+t3),(),o0.2.2.2.1,()),o10))) none)
def impl_treeReader_text.c4 (k:Nat) (t3:Int) (o0:TTreeReaderB) (o10:List TNode):Option (ByteArray×TTreeReaderB×(List TNode)):=
 (cond (o0.2.2.2.1==0) (some (decide (t3>(IntKind.wrap .i64 ((List.length o0.1:Int)-o0.2.1))))) (some (false))).bind fun b1=>cond b1 ((impl_treeReader_fail k 1 o0 o10).bind fun r2=>impl_treeReader_text.c6 k t3 r2.2.1 r2.2.2) (impl_treeReader_text.c6 k t3 o0 o10)
def impl_treeReader_text (k:Nat) (o0:TTreeReaderB) (o10:List TNode):Option (ByteArray×TTreeReaderB×(List TNode)):=
 (impl_treeReader_uvar k o0 o10).bind fun r3=>(cond (r3.2.1.2.2.2.1==0) ((impl_within k r3.1 0 300).bind fun r4=>some (!r4)) (some (false))).bind fun b5=>cond b5 ((impl_treeReader_fail k 4 r3.2.1 r3.2.2).bind fun r6=>impl_treeReader_text.c4 k r3.1 r6.2.1 r6.2.2) (impl_treeReader_text.c4 k r3.1 r3.2.1 r3.2.2)
def impl_treeReader_one (k:Nat) (o0:TTreeReaderB) (o10:List TNode):Option (Int×TTreeReaderB×(List TNode)):=
 (cond (o0.2.2.2.1 !=0) (some (true)) (some (decide (o0.2.1≥(List.length o0.1:Int))))).bind fun b1=>cond b1 ((impl_treeReader_fail k 1 o0 o10).bind fun r2=>some (0,(r2.2.1,r2.2.2))) ((rdL o0.1 (IntKind.wrap .i64 ((IntKind.wrap .i64 (o0.2.1+1))-1))).bind fun y3=>some (IntKind.wrap .i64 y3,((o0.1,IntKind.wrap .i64 (o0.2.1+1),(),o0.2.2.2.1,()),o10)))
def impl_isType.c10 (k:Nat) (t11:Bool):Option Bool:=
 cond t11 (some true) (some false)
def impl_isType.c4 (k:Nat) (t1:Bool) (t5:Int) (t6:Bool):Option Bool:=
 cond t6 (some (!t1)) (cond (t5==5) (impl_isType.c10 k (t5==5)) (cond (t5==6) (impl_isType.c10 k (t5==6)) (cond (t5==8) (impl_isType.c10 k (t5==8)) (cond (t5==9) (impl_isType.c10 k (t5==9)) (impl_isType.c10 k (t5==12))))))
def impl_isType (k:Nat) (t0:Int) (t1:Bool):Option Bool:=
 cond (t0==1) (impl_isType.c4 k t1 t0 (t0==1)) (impl_isType.c4 k t1 t0 (t0==2))
def impl_treeReader_node.c8 (k:Nat) (t8:Int) (t9:Int) (o0:TTreeReaderB) (o100:List TNode):Option (Unit×TTreeReaderB×(List TNode)):=
 (rdL o100 t8).bind fun y1=>(rdL o100 t8).bind fun y2=>some ((),(o0,List.set o100 (Int.toNat t8) (y2.1,y2.2.1,t9,y2.2.2.2.1,y2.2.2.2.2.1,())))
def impl_treeReader_node.d10 (k:Nat) (t8:Int) (o0:TTreeReaderB) (o100:List TNode):Option (Unit×TTreeReaderB×(List TNode)):=
 (impl_treeReader_text k o0 o100).bind fun r3=>(rdL r3.2.2 t8).bind fun y4=>(rdL r3.2.2 t8).bind fun y5=>some ((),(r3.2.1,List.set r3.2.2 (Int.toNat t8) (y5.1,y5.2.1,y5.2.2.1,r3.1,y5.2.2.2.2.1,())))
def impl_treeReader_node.c5 (k:Nat) (S301:Int→Int→TTreeReaderB→(List TNode)→Option (Unit×TTreeReaderB×(List TNode))) (S302:Int→Int→TTreeReaderB→(List TNode)→Option (Unit×TTreeReaderB×(List TNode))) (t1:Int) (t3:Int) (t8:Int) (t21:Int) (t22:Bool) (o0:TTreeReaderB) (o100:List TNode):Option (Unit×TTreeReaderB×(List TNode)):=
 cond t22 ((impl_treeReader_uvar k o0 o100).bind fun r12=>(impl_Zag k r12.1).bind fun r13=>(cond (t1==5) (some (r12.2.1.2.2.2.1==0)) (some (false))).bind fun b14=>(cond b14 ((impl_isInt32 k r13).bind fun r15=>some (!r15)) (some (false))).bind fun b16=>cond b16 ((impl_treeReader_fail k 3 r12.2.1 r12.2.2).bind fun r17=>impl_treeReader_node.c8 k t8 r13 r17.2.1 r17.2.2) (impl_treeReader_node.c8 k t8 r13 r12.2.1 r12.2.2)) (cond (t21==8) (impl_treeReader_node.d10 k t8 o0 o100) (cond (t21==9) ((S301 t8 t3 o0 o100).bind fun r18=>some ((),(r18.2.1,r18.2.2))) (cond (t21==12) ((S302 t8 t3 o0 o100).bind fun r19=>some ((),(r19.2.1,r19.2.2))) (some ((),(o0,o100))))))
def impl_treeReader_node.b (k:Nat) (S249:Int→Int→Int→TTreeReaderB→(List TNode)→Option (Unit×TTreeReaderB×(List TNode))) (S301:Int→Int→TTreeReaderB→(List TNode)→Option (Unit×TTreeReaderB×(List TNode))) (S302:Int→Int→TTreeReaderB→(List TNode)→Option (Unit×TTreeReaderB×(List TNode))) (t1:Int) (t2:Int) (t3:Int) (o0:TTreeReaderB) (o10:List TNode):Option (Unit×TTreeReaderB×(List TNode)):=
 (impl_treeReader_begin k (t1,t2,0,(⟨#[]⟩:ByteArray),0,()) t3 o0 o10).bind fun r20=>cond (r20.2.1.2.2.2.1 !=0) (some ((),(r20.2.1,r20.2.2))) (cond (t1==5) (impl_treeReader_node.c5 k S301 S302 t1 t3 r20.1 t1 (t1==5) r20.2.1 r20.2.2) (impl_treeReader_node.c5 k S301 S302 t1 t3 r20.1 t1 (t1==6) r20.2.1 r20.2.2))
def impl_treeReader_parts.l11 (k:Nat) (S249:Int→Int→Int→TTreeReaderB→(List TNode)→Option (Unit×TTreeReaderB×(List TNode))):Nat→Int→Int→Int→Int→TTreeReaderB→(List TNode)→Option (Unit×TTreeReaderB×(List TNode))
 |0,_,_,_,_,_,_=>none
 |n+1,t2,t7,t8,t9,o0,o100=>
  (cond (decide (t9<t7)) (some (o0.2.2.2.1==0)) (some (false))).bind fun b1=>cond b1 ((S249 t8 0 (IntKind.wrap .i64 (t2+1)) o0 o100).bind fun r2=>(impl_treeReader_parts.l11 k S249 n) t2 t7 t8 (IntKind.wrap .i64 (t9+1)) r2.2.1 r2.2.2) (some ((),(o0,o100)))
def impl_treeReader_parts.c9 (k:Nat) (S249:Int→Int→Int→TTreeReaderB→(List TNode)→Option (Unit×TTreeReaderB×(List TNode))) (t1:Int) (t2:Int) (t7:Int) (t8:Int) (o0:TTreeReaderB) (o10:List TNode):Option (Unit×TTreeReaderB×(List TNode)):=
 (rdL o10 t1).bind fun y3=>(rdL o10 t1).bind fun y4=>(rdL (List.set o10 (Int.toNat t1) (y4.1,y4.2.1,y4.2.2.1,y4.2.2.2.1,t7,())) t1).bind fun y5=>(rdL (List.set o10 (Int.toNat t1) (y4.1,y4.2.1,y4.2.2.1,y4.2.2.2.1,t7,())) t1).bind fun y6=>impl_treeReader_parts.l11 k S249 k t2 t7 t8 0 o0 (List.set (List.set o10 (Int.toNat t1) (y4.1,y4.2.1,y4.2.2.1,y4.2.2.2.1,t7,())) (Int.toNat t1) (y6.1,y6.2.1,t8,y6.2.2.2.1,y6.2.2.2.2.1,()))
def impl_treeReader_parts.c7 (k:Nat) (S249:Int→Int→Int→TTreeReaderB→(List TNode)→Option (Unit×TTreeReaderB×(List TNode))) (t1:Int) (t2:Int) (t7:Int) (t8:Int) (o0:TTreeReaderB) (o10:List TNode):Option (Unit×TTreeReaderB×(List TNode)):=
 (impl_within k t7 0 1500).bind fun r7=>cond (!r7) ((impl_treeReader_fail k 4 o0 o10).bind fun r8=>impl_treeReader_parts.c9 k S249 t1 t2 t7 t8 r8.2.1 r8.2.2) (impl_treeReader_parts.c9 k S249 t1 t2 t7 t8 o0 o10)
def impl_treeReader_parts.c4 (k:Nat) (S249:Int→Int→Int→TTreeReaderB→(List TNode)→Option (Unit×TTreeReaderB×(List TNode))) (t1:Int) (t2:Int) (t7:Int) (t8:Int) (o0:TTreeReaderB) (o10:List TNode):Option (Unit×TTreeReaderB×(List TNode)):=
 (cond (o0.2.2.2.1 !=0) (some (true)) (some (t7==0))).bind fun b9=>cond b9 (some ((),(o0,o10))) ((impl_isType k t8 true).bind fun r10=>cond (!r10) ((impl_treeReader_fail k 2 o0 o10).bind fun r11=>impl_treeReader_parts.c7 k S249 t1 t2 t7 t8 r11.2.1 r11.2.2) (impl_treeReader_parts.c7 k S249 t1 t2 t7 t8 o0 o10))
def impl_treeReader_parts.b (k:Nat) (S249:Int→Int→Int→TTreeReaderB→(List TNode)→Option (Unit×TTreeReaderB×(List TNode))) (S301:Int→Int→TTreeReaderB→(List TNode)→Option (Unit×TTreeReaderB×(List TNode))) (S302:Int→Int→TTreeReaderB→(List TNode)→Option (Unit×TTreeReaderB×(List TNode))) (t1:Int) (t2:Int) (o0:TTreeReaderB) (o10:List TNode):Option (Unit×TTreeReaderB×(List TNode)):=
 (impl_treeReader_one k o0 o10).bind fun r12=>cond ((IntKind.wrap .i64 (Int.tdiv r12.1 16))==15) ((impl_treeReader_uvar k r12.2.1 r12.2.2).bind fun r13=>impl_treeReader_parts.c4 k S249 t1 t2 r13.1 (Int.tmod r12.1 16) r13.2.1 r13.2.2) (impl_treeReader_parts.c4 k S249 t1 t2 (IntKind.wrap .i64 (Int.tdiv r12.1 16)) (Int.tmod r12.1 16) r12.2.1 r12.2.2)
def impl_treeReader_fields.c12 (k:Nat) (S249:Int→Int→Int→TTreeReaderB→(List TNode)→Option (Unit×TTreeReaderB×(List TNode))) (L1:Int→Int→Int→TTreeReaderB→(List TNode)→Option (Unit×TTreeReaderB×(List TNode))) (t1:Int) (t2:Int) (t8:Int) (t9:Int) (o0:TTreeReaderB) (o100:List TNode):Option (Unit×TTreeReaderB×(List TNode)):=
 cond (o0.2.2.2.1 !=0) (some ((),(o0,o100))) ((rdL o100 t1).bind fun y1=>(rdL o100 t1).bind fun y2=>(rdL o100 t1).bind fun y3=>(S249 t8 t9 (IntKind.wrap .i64 (t2+1)) o0 (List.set o100 (Int.toNat t1) (y3.1,y3.2.1,y3.2.2.1,y3.2.2.2.1,IntKind.wrap .i64 (y1.2.2.2.2.1+1),()))).bind fun r4=>L1 t1 t2 t9 r4.2.1 r4.2.2)
def impl_treeReader_fields.c10 (k:Nat) (S249:Int→Int→Int→TTreeReaderB→(List TNode)→Option (Unit×TTreeReaderB×(List TNode))) (L1:Int→Int→Int→TTreeReaderB→(List TNode)→Option (Unit×TTreeReaderB×(List TNode))) (t1:Int) (t2:Int) (t6:Int) (t8:Int) (t9:Int) (o0:TTreeReaderB) (o100:List TNode):Option (Unit×TTreeReaderB×(List TNode)):=
 (cond (o0.2.2.2.1==0) (some (decide (t9≤t6))) (some (false))).bind fun b5=>cond b5 ((impl_treeReader_fail k 5 o0 o100).bind fun r6=>impl_treeReader_fields.c12 k S249 L1 t1 t2 t8 t9 r6.2.1 r6.2.2) (impl_treeReader_fields.c12 k S249 L1 t1 t2 t8 t9 o0 o100)
def impl_treeReader_fields.c8 (k:Nat) (S249:Int→Int→Int→TTreeReaderB→(List TNode)→Option (Unit×TTreeReaderB×(List TNode))) (L1:Int→Int→Int→TTreeReaderB→(List TNode)→Option (Unit×TTreeReaderB×(List TNode))) (t1:Int) (t2:Int) (t6:Int) (t8:Int) (t9:Int) (o0:TTreeReaderB) (o100:List TNode):Option (Unit×TTreeReaderB×(List TNode)):=
 (cond (o0.2.2.2.1==0) ((impl_within k t9 1 1000).bind fun r7=>some (!r7)) (some (false))).bind fun b8=>cond b8 ((impl_treeReader_fail k 3 o0 o100).bind fun r9=>impl_treeReader_fields.c10 k S249 L1 t1 t2 t6 t8 t9 r9.2.1 r9.2.2) (impl_treeReader_fields.c10 k S249 L1 t1 t2 t6 t8 t9 o0 o100)
def impl_treeReader_fields.c6 (k:Nat) (S249:Int→Int→Int→TTreeReaderB→(List TNode)→Option (Unit×TTreeReaderB×(List TNode))) (L1:Int→Int→Int→TTreeReaderB→(List TNode)→Option (Unit×TTreeReaderB×(List TNode))) (t1:Int) (t2:Int) (t6:Int) (t7:Int) (t8:Int) (t9:Int) (o0:TTreeReaderB) (o100:List TNode):Option (Unit×TTreeReaderB×(List TNode)):=
 cond (decide (t7<16)) ((impl_treeReader_uvar k o0 o100).bind fun r10=>(impl_Zag k r10.1).bind fun r11=>impl_treeReader_fields.c8 k S249 L1 t1 t2 t6 t8 r11 r10.2.1 r10.2.2) (impl_treeReader_fields.c8 k S249 L1 t1 t2 t6 t8 t9 o0 o100)
def impl_treeReader_fields.l1 (k:Nat) (S249:Int→Int→Int→TTreeReaderB→(List TNode)→Option (Unit×TTreeReaderB×(List TNode))):Nat→Int→Int→Int→TTreeReaderB→(List TNode)→Option (Unit×TTreeReaderB×(List TNode))
 |0,_,_,_,_,_=>none
 |n+1,t1,t2,t6,o0,o100=>
  (impl_treeReader_one k o0 o100).bind fun r12=>(cond (r12.2.1.2.2.2.1 !=0) (some (true)) (some (r12.1==0))).bind fun b13=>cond b13 (some ((),(r12.2.1,r12.2.2))) ((impl_isType k (Int.tmod r12.1 16) false).bind fun r14=>cond (!r14) ((impl_treeReader_fail k 2 r12.2.1 r12.2.2).bind fun r15=>impl_treeReader_fields.c6 k S249 (impl_treeReader_fields.l1 k S249 n) t1 t2 t6 r12.1 (Int.tmod r12.1 16) (IntKind.wrap .i64 (t6+(IntKind.wrap .i64 (Int.tdiv r12.1 16)))) r15.2.1 r15.2.2) (impl_treeReader_fields.c6 k S249 (impl_treeReader_fields.l1 k S249 n) t1 t2 t6 r12.1 (Int.tmod r12.1 16) (IntKind.wrap .i64 (t6+(IntKind.wrap .i64 (Int.tdiv r12.1 16)))) r12.2.1 r12.2.2))
def impl_treeReader_fields.b (k:Nat) (S249:Int→Int→Int→TTreeReaderB→(List TNode)→Option (Unit×TTreeReaderB×(List TNode))) (S301:Int→Int→TTreeReaderB→(List TNode)→Option (Unit×TTreeReaderB×(List TNode))) (S302:Int→Int→TTreeReaderB→(List TNode)→Option (Unit×TTreeReaderB×(List TNode))) (t1:Int) (t2:Int) (o0:TTreeReaderB) (o10:List TNode):Option (Unit×TTreeReaderB×(List TNode)):=
 impl_treeReader_fields.l1 k S249 k t1 t2 0 o0 o10
def impl_treeReader_node.rec (k:Nat):Nat→(Int→Int→Int→TTreeReaderB→(List TNode)→Option (Unit×TTreeReaderB×(List TNode)))×(Int→Int→TTreeReaderB→(List TNode)→Option (Unit×TTreeReaderB×(List TNode)))×(Int→Int→TTreeReaderB→(List TNode)→Option (Unit×TTreeReaderB×(List TNode)))
 |0=>(fun _ _ _ _ _=>none,fun _ _ _ _=>none,fun _ _ _ _=>none)
 |d+1=>(impl_treeReader_node.b k ((impl_treeReader_node.rec k d).1) ((impl_treeReader_node.rec k d).2.1) ((impl_treeReader_node.rec k d).2.2),impl_treeReader_parts.b k ((impl_treeReader_node.rec k d).1) ((impl_treeReader_node.rec k d).2.1) ((impl_treeReader_node.rec k d).2.2),impl_treeReader_fields.b k ((impl_treeReader_node.rec k d).1) ((impl_treeReader_node.rec k d).2.1) ((impl_treeReader_node.rec k d).2.2))
def impl_treeReader_node.d (k d:Nat):Int→Int→Int→TTreeReaderB→(List TNode)→Option (Unit×TTreeReaderB×(List TNode)):=(impl_treeReader_node.rec k d).1
def impl_treeReader_node (k:Nat):Int→Int→Int→TTreeReaderB→(List TNode)→Option (Unit×TTreeReaderB×(List TNode)):=impl_treeReader_node.d k k
def impl_treeReader_parts.d (k d:Nat):Int→Int→TTreeReaderB→(List TNode)→Option (Unit×TTreeReaderB×(List TNode)):=(impl_treeReader_node.rec k d).2.1
def impl_treeReader_parts (k:Nat):Int→Int→TTreeReaderB→(List TNode)→Option (Unit×TTreeReaderB×(List TNode)):=impl_treeReader_parts.d k k
def impl_treeReader_fields.d (k d:Nat):Int→Int→TTreeReaderB→(List TNode)→Option (Unit×TTreeReaderB×(List TNode)):=(impl_treeReader_node.rec k d).2.2
def impl_treeReader_fields (k:Nat):Int→Int→TTreeReaderB→(List TNode)→Option (Unit×TTreeReaderB×(List TNode)):=impl_treeReader_fields.d k k
def impl_TreeRead (k:Nat) (t0:List Int) (t1:Int):Option ((Unit×Int×Int)×(List TNode)):=
 (impl_within k t1 0 (IntKind.wrap .i64 ((List.length t0:Int)-1))).bind fun r1=>cond (!r1) (some (((),0,1),[])) ((impl_treeReader_node k 12 0 1 (t0,t1,(),0,()) []).bind fun r2=>cond (r2.2.1.2.2.2.1 !=0) (some (((),0,r2.2.1.2.2.2.1),[])) (some (((),r2.2.1.2.1,0),r2.2.2)))
def impl_nodeOk (k:Nat) (t0:TNode):Option Bool:=
 cond (t0.1==5) ((impl_isInt32 k t0.2.2.1).bind fun r1=>(cond r1 (some (eqS t0.2.2.2.1 (⟨#[]⟩:ByteArray))) (some (false))).bind fun b2=>(cond b2 (some (t0.2.2.2.2.1==0)) (some (false))).bind fun b3=>some b3) (cond (t0.1==6) ((cond (eqS t0.2.2.2.1 (⟨#[]⟩:ByteArray)) (some (t0.2.2.2.2.1==0)) (some (false))).bind fun b4=>some b4) (cond (t0.1==8) ((cond (t0.2.2.1==0) (some (decide ((t0.2.2.2.1.size:Int)≤300))) (some (false))).bind fun b5=>(cond b5 (some (t0.2.2.2.2.1==0)) (some (false))).bind fun b6=>some b6) (cond (t0.1==9) ((cond (eqS t0.2.2.2.1 (⟨#[]⟩:ByteArray)) (some (decide (t0.2.2.2.2.1≥0))) (some (false))).bind fun b7=>(cond b7 ((cond (t0.2.2.2.2.1==0) (some (t0.2.2.1==0)) (some (false))).bind fun b8=>(cond b8 (some (true)) ((cond (decide (t0.2.2.2.2.1>0)) ((impl_isType k t0.2.2.1 true).bind fun r9=>some (r9)) (some (false))).bind fun b10=>some (b10))).bind fun b11=>some (b11)) (some (false))).bind fun b12=>some b12) (cond (t0.1==12) ((cond (t0.2.2.1==0) (some (eqS t0.2.2.2.1 (⟨#[]⟩:ByteArray))) (some (false))).bind fun b13=>(cond b13 (some (decide (t0.2.2.2.2.1≥0))) (some (false))).bind fun b14=>some b14) ((impl_isType k t0.1 false).bind fun r15=>(cond r15 (some (t0.2.2.1==0)) (some (false))).bind fun b16=>(cond b16 (some (eqS t0.2.2.2.1 (⟨#[]⟩:ByteArray))) (some (false))).bind fun b17=>(cond b17 (some (t0.2.2.2.2.1==0)) (some (false))).bind fun b18=>some b18)))))
def impl_tree_measure.l7 (k:Nat) (S250:Int→Int→(Bool×TTreeB)→(List Int)→Option (Int×TTreeB×(List Int))):Nat→Int→Int→Int→Int→Int→Int→TTreeB→(List Int)→TNode→Option (Int×TTreeB×(List Int))
 |0,_,_,_,_,_,_,_,_,_=>none
 |n+1,t1,t2,t8,t9,t43,t44,o0,o10,o100=>
  cond (decide (t44<t43)) (cond (decide (t8≥(List.length o0.1:Int))) (some ((-1),(o0,o10))) ((rdL o0.1 t8).bind fun y1=>(cond (o100.1==9) ((cond (y1.1 !=o100.2.2.1) (some (true)) (some (y1.2.1 !=0))).bind fun b2=>some (b2)) (some (false))).bind fun b3=>cond b3 (some ((-1),(o0,o10))) ((cond (o100.1==12) ((impl_within k y1.2.1 (IntKind.wrap .i64 (t9+1)) 1000).bind fun r4=>some (!r4)) (some (false))).bind fun b5=>cond b5 (some ((-1),(o0,o10))) ((S250 t8 (IntKind.wrap .i64 (t2+1)) (true,o0) o10).bind fun r6=>cond (decide (r6.1<0)) (some ((-1),(r6.2.1,r6.2.2))) ((impl_tree_measure.l7 k S250 n) t1 t2 r6.1 y1.2.1 t43 (IntKind.wrap .i64 (t44+1)) r6.2.1 r6.2.2 o100))))) ((rdL o10 t1).bind fun y7=>(rdL o10 t1).bind fun y8=>some (t8,(o0,List.set o10 (Int.toNat t1) t8)))
def impl_tree_measure.b (k:Nat) (S250:Int→Int→(Bool×TTreeB)→(List Int)→Option (Int×TTreeB×(List Int))) (t1:Int) (t2:Int) (o0:Bool×TTreeB) (o10:List Int):Option (Int×TTreeB×(List Int)):=
 cond (o0.1) ((cond (decide (t1≥(List.length o0.2.1:Int))) (some (true)) (some (decide (t2>12)))).bind fun b9=>(cond b9 (some (true)) ((rdL o0.2.1 t1).bind fun y10=>(impl_nodeOk k y10).bind fun r11=>some (!r11))).bind fun b12=>cond b12 (some ((-1),(o0.2,o10))) ((rdL o0.2.1 t1).bind fun y13=>impl_tree_measure.l7 k S250 k t1 t2 (IntKind.wrap .i64 (t1+1)) 0 y13.2.2.2.2.1 0 o0.2 o10 y13)) none
def impl_tree_measure.rec (k:Nat):Nat→(Int→Int→(Bool×TTreeB)→(List Int)→Option (Int×TTreeB×(List Int)))
 |0=>fun _ _ _ _=>none
 |d+1=>impl_tree_measure.b k ((impl_tree_measure.rec k d))
def impl_tree_measure.d (k d:Nat):Int→Int→(Bool×TTreeB)→(List Int)→Option (Int×TTreeB×(List Int)):=(impl_tree_measure.rec k d)
def impl_tree_measure (k:Nat):Int→Int→(Bool×TTreeB)→(List Int)→Option (Int×TTreeB×(List Int)):=impl_tree_measure.d k k
def impl_treeOf (k:Nat) (t0:List TNode):Option ((Unit×Bool)×(Bool×TTreeB)×(List Int)):=
 (impl_within k (List.length t0:Int) 1 1500).bind fun r1=>cond (!r1) (some (((),false),((false,([],(),())),[]))) (cond (okLen (List.length t0:Int)) ((rdL t0 0).bind fun y2=>(cond (y2.1 !=12) (some (true)) (some (y2.2.1 !=0))).bind fun b3=>cond b3 (cond true (some (((),false),((false,([],(),())),[]))) (some (((),true),((true,(t0,(),())),List.replicate (Int.toNat (List.length t0:Int)) 0)))) ((impl_tree_measure k 0 1 (true,(t0,(),())) (List.replicate (Int.toNat (List.length t0:Int)) 0)).bind fun r4=>cond (r4.1 !=(List.length t0:Int)) (some (((),false),((false,([],(),())),[]))) (some (((),true),((true,r4.2.1),r4.2.2))))) none)
def impl_TypeOk (k:Nat) (t0:Int):Option Bool:=
 (impl_within k t0 0 2).bind fun r1=>(cond r1 (some (true)) (some (t0==5))).bind fun b2=>(cond b2 (some (true)) (some (t0==6))).bind fun b3=>some b3
def impl_LeafOk (k:Nat) (t0:TLeaf):Option Bool:=
 (impl_TypeOk k t0.1).bind fun r1=>(cond r1 ((impl_within k t0.2.2.1 0 6).bind fun r2=>some (r2)) (some (false))).bind fun b3=>(cond b3 ((impl_within k t0.2.1 0 t0.2.2.1).bind fun r4=>some (r4)) (some (false))).bind fun b5=>some b5
def impl_tree_find.l5 (k:Nat):Nat→Int→Int→Int→Int→TTreeB→(List Int)→Option (Int×TTreeB×(List Int))
 |0,_,_,_,_,_,_=>none
 |n+1,t2,t7,t37,t38,o0,o10=>
  cond (decide (t38<t37)) ((rdL o0.1 t7).bind fun y1=>cond (y1.2.1==t2) (some (t7,(o0,o10))) ((rdL o10 t7).bind fun y2=>(impl_tree_find.l5 k n) t2 y2 t37 (IntKind.wrap .i64 (t38+1)) o0 o10)) (some ((-1),(o0,o10)))
def impl_tree_find (k:Nat) (t1:Int) (t2:Int) (o0:Bool×TTreeB) (o10:List Int):Option (Int×TTreeB×(List Int)):=
 cond (o0.1) ((impl_within k t1 0 (IntKind.wrap .i64 ((List.length o0.2.1:Int)-1))).bind fun r3=>(cond (!r3) (some (true)) ((rdL o0.2.1 t1).bind fun y4=>some (y4.1 !=12))).bind fun b5=>cond b5 (some ((-1),(o0.2,o10))) ((rdL o0.2.1 t1).bind fun y6=>impl_tree_find.l5 k k t2 (IntKind.wrap .i64 (t1+1)) y6.2.2.2.2.1 0 o0.2 o10)) none
def impl_tree_part (k:Nat) (t1:Int) (t2:Int) (t3:Int) (o0:Bool×TTreeB) (o10:List Int):Option ((TNode×Bool)×TTreeB×(List Int)):=
 (impl_tree_find k t1 t2 (o0.1,o0.2) o10).bind fun r1=>(cond (decide (r1.1<0)) (some (true)) ((rdL r1.2.1.1 r1.1).bind fun y2=>some (y2.1 !=t3))).bind fun b3=>cond b3 (some (((0,0,0,(⟨#[]⟩:ByteArray),0,()),false),(r1.2.1,r1.2.2))) ((rdL r1.2.1.1 r1.1).bind fun y4=>some ((y4,true),(r1.2.1,r1.2.2)))
def impl_tree_num (k:Nat) (t1:Int) (t2:Int) (o0:Bool×TTreeB) (o10:List Int):Option ((Int×Bool)×TTreeB×(List Int)):=
 (impl_tree_find k t1 t2 (o0.1,o0.2) o10).bind fun r1=>(cond (decide (r1.1<0)) (some (true)) ((rdL r1.2.1.1 r1.1).bind fun y2=>(cond (y2.1 !=5) ((rdL r1.2.1.1 r1.1).bind fun y3=>some (y3.1 !=6)) (some (false))).bind fun b4=>some (b4))).bind fun b5=>cond b5 (some ((0,false),(r1.2.1,r1.2.2))) ((rdL r1.2.1.1 r1.1).bind fun y6=>some ((y6.2.2.1,true),(r1.2.1,r1.2.2)))
def impl_headReader_any.c4 (k:Nat) (t5:Int) (o0:THeadReader) (o10:TTreeB) (o11:List Int):Option (Int×THeadReader×TTreeB×(List Int)):=
 some (t5,(o0,o10,o11))
def impl_headReader_any (k:Nat) (t1:Int) (o0:THeadReader) (o10:Bool×TTreeB) (o11:List Int):Option (Int×THeadReader×TTreeB×(List Int)):=
 (impl_tree_num k o0.2.1 t1 (o10.1,o10.2) o11).bind fun r1=>cond (!r1.1.2) (impl_headReader_any.c4 k r1.1.1 ((),o0.2.1,true,()) r1.2.1 r1.2.2) (impl_headReader_any.c4 k r1.1.1 o0 r1.2.1 r1.2.2)
def impl_headReader_num.c4 (k:Nat) (t7:Int) (o0:THeadReader) (o10:TTreeB) (o11:List Int):Option (Int×THeadReader×TTreeB×(List Int)):=
 some (t7,(o0,o10,o11))
def impl_headReader_num (k:Nat) (t1:Int) (t2:Int) (o0:THeadReader) (o10:TTreeB) (o11:List Int):Option (Int×THeadReader×TTreeB×(List Int)):=
 (impl_tree_num k o0.2.1 t1 (true,o10) o11).bind fun r1=>(cond (!r1.1.2) (some (true)) (some (decide (r1.1.1<t2)))).bind fun b2=>cond b2 (impl_headReader_num.c4 k r1.1.1 ((),o0.2.1,true,()) r1.2.1 r1.2.2) (impl_headReader_num.c4 k r1.1.1 o0 r1.2.1 r1.2.2)
def impl_headReader_enter (k:Nat) (t1:Int) (o0:THeadReader) (o10:TTreeB) (o11:List Int):Option (Unit×THeadReader×TTreeB×(List Int)):=
 (impl_tree_find k o0.2.1 t1 (true,o10) o11).bind fun r1=>(cond (decide (r1.1<0)) (some (true)) ((rdL r1.2.1.1 r1.1).bind fun y2=>some (y2.1 !=12))).bind fun b3=>cond b3 (some ((),(((),o0.2.1,true,()),r1.2.1,r1.2.2))) (some ((),(((),r1.1,o0.2.2.1,()),r1.2.1,r1.2.2)))
def impl_valsOf.l3 (k:Nat):Nat→(List Int)→Int→Int→(List TVal)→Option (Unit×(List TVal))
 |0,_,_,_,_=>none
 |n+1,t7,t8,t9,o100=>
  cond (decide (t9<t8)) ((rdL t7 t9).bind fun y1=>cond (lim (List.length o100+List.length ([(y1,(⟨#[]⟩:ByteArray),())]:List TVal))) ((impl_valsOf.l3 k n) t7 t8 (IntKind.wrap .i64 (t9+1)) (o100++[(y1,(⟨#[]⟩:ByteArray),())])) none) (some ((),o100))
def impl_valsOf (k:Nat) (t0:List Int):Option (Unit×(List TVal)):=
 impl_valsOf.l3 k k t0 (List.length t0:Int) 0 []
def impl_BitAt (k:Nat) (t0:List Int) (t1:Int):Option Int:=
 (cond (decide (t1<0)) (some (true)) (some (decide ((IntKind.wrap .i64 (Int.tdiv t1 8))≥(List.length t0:Int))))).bind fun b1=>cond b1 (some (-1)) ((rdL t0 (IntKind.wrap .i64 (Int.tdiv t1 8))).bind fun y2=>cond (decide (0≤(Int.tmod t1 8))) (some (IntKind.wrap .i64 (bits .and .u8 (shrI .u8 y2 (Int.tmod t1 8)) 1))) none)
def impl_unpacked.l7 (k:Nat) (L3:(List Int)→Int→Int→Int→Int→(List Int)→Option (Unit×(List Int))):Nat→(List Int)→Int→Int→Int→Int→Int→Int→Int→Int→(List Int)→Option (Unit×(List Int))
 |0,_,_,_,_,_,_,_,_,_,_=>none
 |n+1,t0,t1,t3,t10,t11,t14,t15,t18,t19,o100=>
  cond (decide (t19<t18)) ((impl_BitAt k t0 (IntKind.wrap .i64 ((IntKind.wrap .i64 ((IntKind.wrap .i64 (8*t1))+(IntKind.wrap .i64 (t10*t3))))+t19))).bind fun r1=>cond (decide (0≤t19)) ((impl_unpacked.l7 k L3 n) t0 t1 t3 t10 (bits .or .i64 t11 (shlI .i64 r1 t19)) t14 t15 t18 (IntKind.wrap .i64 (t19+1)) o100) none) (cond (lim (List.length o100+List.length [t11])) (L3 t0 t1 t3 t14 (IntKind.wrap .i64 (t15+1)) (o100++[t11])) none)
def impl_unpacked.l3 (k:Nat):Nat→(List Int)→Int→Int→Int→Int→(List Int)→Option (Unit×(List Int))
 |0,_,_,_,_,_,_=>none
 |n+1,t0,t1,t3,t14,t15,o100=>
  cond (decide (t15<t14)) (impl_unpacked.l7 k (impl_unpacked.l3 k n) k t0 t1 t3 t15 0 t14 t15 t3 0 o100) (some ((),o100))
def impl_unpacked (k:Nat) (t0:List Int) (t1:Int) (t2:Int) (t3:Int):Option (Unit×(List Int)):=
 impl_unpacked.l3 k k t0 t1 t3 t2 0 []
def impl_BitsSize (k:Nat) (t0:Int) (t1:Int):Option Int:=
 (impl_within k t0 0 2000).bind fun r1=>(cond (!r1) (some (true)) ((impl_within k t1 0 62).bind fun r2=>some (!r2))).bind fun b3=>cond b3 (some (-1)) (some (IntKind.wrap .i64 (Int.tdiv (IntKind.wrap .i64 ((IntKind.wrap .i64 (t0*t1))+7)) 8)))
def impl_BitsRead (k:Nat) (t0:List Int) (t1:Int) (t2:Int) (t3:Int):Option ((Unit×Int×Bool)×(List Int)):=
 (impl_BitsSize k t2 t3).bind fun r1=>(cond (decide (r1<0)) (some (true)) ((impl_within k t1 0 (List.length t0:Int)).bind fun r2=>some (!r2))).bind fun b3=>(cond b3 (some (true)) (some (decide (r1>(IntKind.wrap .i64 ((List.length t0:Int)-t1)))))).bind fun b4=>cond b4 (some (((),0,false),[])) ((impl_unpacked k t0 t1 t2 t3).bind fun r5=>some (((),IntKind.wrap .i64 (t1+r1),true),r5.2))
def impl_WordGet.l5 (k:Nat):Nat→(List Int)→Int→Int→Int→Int→Int→Option (Int×Int×Bool)
 |0,_,_,_,_,_,_=>none
 |n+1,t0,t1,t2,t9,t26,t27=>
  cond (decide (t27<t26)) ((rdL t0 (IntKind.wrap .i64 (t1+t27))).bind fun y1=>cond (decide (0≤(IntKind.wrap .i64 (8*t27)))) ((impl_WordGet.l5 k n) t0 t1 t2 (bits .or .i64 t9 (shlI .i64 (IntKind.wrap .i64 y1) (IntKind.wrap .i64 (8*t27)))) t26 (IntKind.wrap .i64 (t27+1))) none) (some (t9,IntKind.wrap .i64 (t1+t2),true))
def impl_WordGet (k:Nat) (t0:List Int) (t1:Int) (t2:Int):Option (Int×Int×Bool):=
 (impl_within k t2 1 8).bind fun r2=>(cond (!r2) (some (true)) (some (decide (t1<0)))).bind fun b3=>(cond b3 (some (true)) (some (decide (t1>(IntKind.wrap .i64 ((List.length t0:Int)-t2)))))).bind fun b4=>cond b4 (some (0,0,false)) (impl_WordGet.l5 k k t0 t1 t2 0 t2 0)
def impl_wideOf.c6 (k:Nat) (t6:Bool):Option Int:=
 cond t6 (some 8) (some 0)
def impl_wideOf (k:Nat) (t0:Int):Option Int:=
 cond (t0==1) (some 4) (cond (t0==2) (impl_wideOf.c6 k (t0==2)) (impl_wideOf.c6 k (t0==5)))
def impl_signed (k:Nat) (t0:Int) (t1:Int):Option Int:=
 cond (t1==4) (some (IntKind.wrap .i64 (IntKind.wrap .i32 t0))) (some t0)
def impl_plainOne (k:Nat) (t0:Int) (t1:List Int) (t2:Int):Option (TVal×Int×Bool):=
 cond (t0 !=6) ((impl_wideOf k t0).bind fun r1=>(impl_WordGet k t1 t2 r1).bind fun r2=>(impl_wideOf k t0).bind fun r3=>(impl_signed k r2.1 r3).bind fun r4=>some ((r4,(⟨#[]⟩:ByteArray),()),r2.2.1,r2.2.2)) ((impl_WordGet k t1 t2 4).bind fun r5=>(cond (!r5.2.2) (some (true)) (some (decide (r5.1>40)))).bind fun b6=>(cond b6 (some (true)) (some (decide (r5.1>(IntKind.wrap .i64 ((List.length t1:Int)-r5.2.1)))))).bind fun b7=>cond b7 (some ((0,(⟨#[]⟩:ByteArray),()),0,false)) (cond (inSl r5.2.1 (IntKind.wrap .i64 (r5.2.1+r5.1)) (List.length t1)) (some ((0,intsStr (cutL t1 r5.2.1 (IntKind.wrap .i64 (r5.2.1+r5.1))),()),IntKind.wrap .i64 (r5.2.1+r5.1),true)) none))
def impl_PlainRead.l8 (k:Nat):Nat→Int→(List Int)→Int→Int→Int→(List TVal)→Option ((Unit×Int×Bool)×(List TVal))
 |0,_,_,_,_,_,_=>none
 |n+1,t0,t1,t2,t48,t49,o100=>
  cond (decide (t49<t48)) ((impl_plainOne k t0 t1 t2).bind fun r1=>cond (!r1.2.2) (some (((),0,false),[])) (cond (lim (List.length o100+List.length [r1.1])) ((impl_PlainRead.l8 k n) t0 t1 r1.2.1 t48 (IntKind.wrap .i64 (t49+1)) (o100++[r1.1])) none)) (some (((),t2,true),o100))
def impl_PlainRead (k:Nat) (t0:Int) (t1:List Int) (t2:Int) (t3:Int):Option ((Unit×Int×Bool)×(List TVal)):=
 (impl_TypeOk k t0).bind fun r2=>(cond (!r2) (some (true)) ((impl_within k t3 0 2000).bind fun r3=>some (!r3))).bind fun b4=>(cond b4 (some (true)) ((impl_within k t2 0 (List.length t1:Int)).bind fun r5=>some (!r5))).bind fun b6=>cond b6 (some (((),0,false),[])) (cond (t0==0) ((impl_BitsRead k t1 t2 t3 1).bind fun r7=>(impl_valsOf k r7.2).bind fun r8=>some (((),r7.1.2.1,r7.1.2.2),r8.2)) (impl_PlainRead.l8 k k t0 t1 t2 t3 0 []))
def impl_ValOk.c8 (k:Nat) (t0:Int) (t26:Bool) (o100:TVal):Option Bool:=
 cond t26 (some (eqS o100.2.1 (⟨#[]⟩:ByteArray))) ((cond (t0==6) (some (o100.1==0)) (some (false))).bind fun b1=>(cond b1 (some (decide ((o100.2.1.size:Int)≤40))) (some (false))).bind fun b2=>some b2)
def impl_ValOk (k:Nat) (t0:Int) (t1:TVal):Option Bool:=
 cond (t0==0) ((impl_within k t1.1 0 1).bind fun r3=>(cond r3 (some (eqS t1.2.1 (⟨#[]⟩:ByteArray))) (some (false))).bind fun b4=>some b4) (cond (t0==1) ((impl_isInt32 k t1.1).bind fun r5=>(cond r5 (some (eqS t1.2.1 (⟨#[]⟩:ByteArray))) (some (false))).bind fun b6=>some b6) (cond (t0==2) (impl_ValOk.c8 k t0 (t0==2) t1) (impl_ValOk.c8 k t0 (t0==5) t1)))
def impl_valsOk.l2 (k:Nat):Nat→Int→(List TVal)→(List TVal)→Int→Int→Option Bool
 |0,_,_,_,_,_=>none
 |n+1,t0,t1,t7,t8,t9=>
  cond (decide (t9<t8)) ((rdL t7 t9).bind fun y1=>(impl_ValOk k t0 y1).bind fun r2=>cond (!r2) (some false) ((impl_valsOk.l2 k n) t0 t1 t7 t8 (IntKind.wrap .i64 (t9+1)))) ((cond (decide ((List.length t1:Int)≤2000)) ((impl_TypeOk k t0).bind fun r3=>some (r3)) (some (false))).bind fun b4=>some b4)
def impl_valsOk (k:Nat) (t0:Int) (t1:List TVal):Option Bool:=
 impl_valsOk.l2 k k t0 t1 t1 (List.length t1:Int) 0
def impl_packed.l6 (k:Nat) (L3:Int→(List Int)→Int→Int→(List Int)→Option (Unit×(List Int))):Nat→Int→Int→Int→(List Int)→Int→Int→Int→Int→(List Int)→Option (Unit×(List Int))
 |0,_,_,_,_,_,_,_,_,_=>none
 |n+1,t1,t6,t7,t17,t18,t19,t24,t25,o100=>
  cond (decide (t25<t24)) ((rdL o100 (IntKind.wrap .i64 (Int.tdiv (IntKind.wrap .i64 ((IntKind.wrap .i64 (t6*t1))+t25)) 8))).bind fun y1=>cond (decide (0≤t25)) (cond (decide (0≤(Int.tmod (IntKind.wrap .i64 ((IntKind.wrap .i64 (t6*t1))+t25)) 8))) ((rdL o100 (IntKind.wrap .i64 (Int.tdiv (IntKind.wrap .i64 ((IntKind.wrap .i64 (t6*t1))+t25)) 8))).bind fun y2=>(rdL o100 (IntKind.wrap .i64 (Int.tdiv (IntKind.wrap .i64 ((IntKind.wrap .i64 (t6*t1))+t25)) 8))).bind fun y3=>(impl_packed.l6 k L3 n) t1 t6 t7 t17 t18 t19 t24 (IntKind.wrap .i64 (t25+1)) (List.set o100 (Int.toNat (IntKind.wrap .i64 (Int.tdiv (IntKind.wrap .i64 ((IntKind.wrap .i64 (t6*t1))+t25)) 8))) (bits .or .u8 y1 (shlI .u8 (IntKind.wrap .u8 (bits .and .i64 (shrI .i64 t7 t25) 1)) (Int.tmod (IntKind.wrap .i64 ((IntKind.wrap .i64 (t6*t1))+t25)) 8))))) none) none) (L3 t1 t17 t18 (IntKind.wrap .i64 (t19+1)) o100)
def impl_packed.l3 (k:Nat):Nat→Int→(List Int)→Int→Int→(List Int)→Option (Unit×(List Int))
 |0,_,_,_,_,_=>none
 |n+1,t1,t17,t18,t19,o100=>
  cond (decide (t19<t18)) ((rdL t17 t19).bind fun y4=>impl_packed.l6 k (impl_packed.l3 k n) k t1 t19 y4 t17 t18 t19 t1 0 o100) (some ((),o100))
def impl_packed (k:Nat) (t0:List Int) (t1:Int):Option (Unit×(List Int)):=
 cond (okLen (IntKind.wrap .i64 (Int.tdiv (IntKind.wrap .i64 ((IntKind.wrap .i64 ((List.length t0:Int)*t1))+7)) 8))) (impl_packed.l3 k k t1 t0 (List.length t0:Int) 0 (List.replicate (Int.toNat (IntKind.wrap .i64 (Int.tdiv (IntKind.wrap .i64 ((IntKind.wrap .i64 ((List.length t0:Int)*t1))+7)) 8))) 0)) none
def impl_numsOf.l3 (k:Nat):Nat→(List TVal)→Int→Int→(List Int)→Option (Unit×(List Int))
 |0,_,_,_,_=>none
 |n+1,t7,t8,t9,o100=>
  cond (decide (t9<t8)) ((rdL t7 t9).bind fun y1=>cond (lim (List.length o100+List.length [y1.1])) ((impl_numsOf.l3 k n) t7 t8 (IntKind.wrap .i64 (t9+1)) (o100++[y1.1])) none) (some ((),o100))
def impl_numsOf (k:Nat) (t0:List TVal):Option (Unit×(List Int)):=
 impl_numsOf.l3 k k t0 (List.length t0:Int) 0 []
def impl_WordPut.l5 (k:Nat):Nat→Int→Int→Int→(List Int)→Option (Unit×(List Int))
 |0,_,_,_,_=>none
 |n+1,t0,t11,t12,o100=>
  cond (decide (t12<t11)) (cond (decide (0≤(IntKind.wrap .i64 (8*t12)))) (cond (lim (List.length o100+List.length [IntKind.wrap .u8 (shrI .i64 t0 (IntKind.wrap .i64 (8*t12)))])) ((impl_WordPut.l5 k n) t0 t11 (IntKind.wrap .i64 (t12+1)) (o100++[IntKind.wrap .u8 (shrI .i64 t0 (IntKind.wrap .i64 (8*t12)))])) none) none) (some ((),o100))
def impl_WordPut (k:Nat) (t0:Int) (t1:Int):Option (Unit×(List Int)):=
 (impl_within k t1 1 8).bind fun r1=>cond (!r1) (some ((),[])) (impl_WordPut.l5 k k t0 t1 0 [])
def impl_PlainPack.c12 (k:Nat) (L7:Int→(List TVal)→Int→Int→(List Int)→Option ((Unit×Bool)×(List Int))) (t0:Int) (t19:List TVal) (t20:Int) (t21:Int) (o100:List Int):Option ((Unit×Bool)×(List Int)):=
 L7 t0 t19 t20 (IntKind.wrap .i64 (t21+1)) o100
def impl_PlainPack.d10 (k:Nat) (L7:Int→(List TVal)→Int→Int→(List Int)→Option ((Unit×Bool)×(List Int))) (t0:Int) (t19:List TVal) (t20:Int) (t21:Int) (o100:List Int) (o101:TVal):Option ((Unit×Bool)×(List Int)):=
 (impl_WordPut k (o101.2.1.size:Int) 4).bind fun r1=>cond (lim (List.length o100+List.length r1.2)) (cond (lim (List.length (o100++r1.2)+List.length (strInts o101.2.1))) (impl_PlainPack.c12 k L7 t0 t19 t20 t21 ((o100++r1.2)++(strInts o101.2.1))) none) none
def impl_PlainPack.d11 (k:Nat) (L7:Int→(List TVal)→Int→Int→(List Int)→Option ((Unit×Bool)×(List Int))) (t0:Int) (t19:List TVal) (t20:Int) (t21:Int) (o100:List Int) (o101:TVal):Option ((Unit×Bool)×(List Int)):=
 (impl_wideOf k t0).bind fun r6=>(impl_WordPut k o101.1 r6).bind fun r7=>cond (lim (List.length o100+List.length r7.2)) (impl_PlainPack.c12 k L7 t0 t19 t20 t21 (o100++r7.2)) none
def impl_PlainPack.l7 (k:Nat):Nat→Int→(List TVal)→Int→Int→(List Int)→Option ((Unit×Bool)×(List Int))
 |0,_,_,_,_,_=>none
 |n+1,t0,t19,t20,t21,o100=>
  cond (decide (t21<t20)) ((rdL t19 t21).bind fun y12=>cond (t0==6) (impl_PlainPack.d10 k (impl_PlainPack.l7 k n) t0 t19 t20 t21 o100 y12) (impl_PlainPack.d11 k (impl_PlainPack.l7 k n) t0 t19 t20 t21 o100 y12)) (some (((),true),o100))
def impl_PlainPack (k:Nat) (t0:Int) (t1:List TVal):Option ((Unit×Bool)×(List Int)):=
 (impl_valsOk k t0 t1).bind fun r13=>cond (!r13) (some (((),false),[])) (cond (t0==0) ((impl_numsOf k t1).bind fun r14=>(impl_packed k r14.2 1).bind fun r15=>some (((),true),r15.2)) (impl_PlainPack.l7 k k t0 t1 (List.length t1:Int) 0 []))
def impl_statText (k:Nat) (t0:Int) (t1:TVal):Option ByteArray:=
 cond (t0==6) (some t1.2.1) ((impl_PlainPack k t0 [t1]).bind fun r1=>some (intsStr r1.2))
def impl_valueOf (k:Nat) (t0:Int) (t1:ByteArray):Option (TVal×Bool):=
 cond (t0==6) ((impl_ValOk k t0 (0,t1,())).bind fun r1=>some ((0,t1,()),r1)) ((impl_PlainRead k t0 (strInts t1) 0 1).bind fun r2=>(cond (!r2.1.2.2) (some (true)) (some (r2.1.2.1 !=(t1.size:Int)))).bind fun b3=>(cond b3 (some (true)) ((rdL r2.2 0).bind fun y4=>(impl_statText k t0 y4).bind fun r5=>some (!eqS r5 t1))).bind fun b6=>cond b6 (some ((0,(⟨#[]⟩:ByteArray),()),false)) ((rdL r2.2 0).bind fun y7=>some (y7,true)))
def impl_FloatKey (k:Nat) (t0:Int):Option Int:=
 cond (decide (t0<0)) (some (bits .xor .i64 t0 9223372036854775807)) (some t0)
def impl_ValLess.d5 (k:Nat) (o100:TVal) (o101:TVal):Option Bool:=
 (impl_FloatKey k o100.1).bind fun r1=>(impl_FloatKey k o101.1).bind fun r2=>some (decide (r1<r2))
def impl_ValLess (k:Nat) (t0:Int) (t1:TVal) (t2:TVal):Option Bool:=
 (impl_ValOk k t0 t1).bind fun r9=>(cond (!r9) (some (true)) ((impl_ValOk k t0 t2).bind fun r10=>some (!r10))).bind fun b11=>cond b11 (some false) (cond (t0==5) (impl_ValLess.d5 k t1 t2) (cond (t0==6) (some (ltS t1.2.1 t2.2.1)) (some (decide (t1.1<t2.1)))))
def impl_statsOk (k:Nat) (t0:TLeaf) (t1:TStats):Option Bool:=
 (impl_LeafOk k t0).bind fun r1=>(cond (!r1) (some (true)) ((impl_within k t1.1 0 2000).bind fun r2=>some (!r2))).bind fun b3=>cond b3 (some false) (cond (!t1.2.1) ((cond ((t1.2.2.1.1==0)&&(eqS t1.2.2.1.2.1 (⟨#[]⟩:ByteArray)&&true)) (some (((t1.2.2.2.1.1==0)&&(eqS t1.2.2.2.1.2.1 (⟨#[]⟩:ByteArray)&&true)))) (some (false))).bind fun b4=>some b4) ((impl_ValOk k t0.1 t1.2.2.1).bind fun r5=>(cond r5 ((impl_ValOk k t0.1 t1.2.2.2.1).bind fun r6=>some (r6)) (some (false))).bind fun b7=>(cond b7 ((impl_ValLess k t0.1 t1.2.2.2.1 t1.2.2.1).bind fun r8=>some (!r8)) (some (false))).bind fun b9=>some b9))
def impl_tree_stats.c13 (k:Nat) (o0:TTreeB) (o10:List Int) (o100:TLeaf) (o101:TStats) (o102:TStats):Option ((TStats×Bool)×TTreeB×(List Int)):=
 (impl_statsOk k o100 o102).bind fun r1=>cond (!r1) (some (((0,false,(0,(⟨#[]⟩:ByteArray),()),(0,(⟨#[]⟩:ByteArray),()),()),false),(o0,o10))) (some ((o102,true),(o0,o10)))
def impl_tree_stats.d12 (k:Nat) (o0:TTreeB) (o10:List Int) (o100:TLeaf) (o101:TStats) (o102:TStats) (o103:TVal) (o104:TVal):Option ((TStats×Bool)×TTreeB×(List Int)):=
 impl_tree_stats.c13 k o0 o10 o100 o101 (o102.1,true,o104,o103,())
def impl_tree_stats (k:Nat) (t1:TLeaf) (t2:Int) (o0:Bool×TTreeB) (o10:List Int):Option ((TStats×Bool)×TTreeB×(List Int)):=
 (impl_tree_num k t2 3 (o0.1,o0.2) o10).bind fun r2=>(cond (!r2.1.2) (some (true)) ((impl_LeafOk k t1).bind fun r3=>some (!r3))).bind fun b4=>cond b4 (some (((0,false,(0,(⟨#[]⟩:ByteArray),()),(0,(⟨#[]⟩:ByteArray),()),()),false),(r2.2.1,r2.2.2))) ((impl_tree_find k t2 5 (true,r2.2.1) r2.2.2).bind fun r5=>cond (decide (r5.1≥0)) (cond true ((impl_tree_part k t2 5 8 (true,r5.2.1) r5.2.2).bind fun r6=>(impl_tree_part k t2 6 8 (true,r6.2.1) r6.2.2).bind fun r7=>(impl_valueOf k t1.1 r6.1.1.2.2.2.1).bind fun r8=>(impl_valueOf k t1.1 r7.1.1.2.2.2.1).bind fun r9=>(cond (!r6.1.2) (some (true)) (some (!r7.1.2))).bind fun b10=>(cond b10 (some (true)) (some (!r8.2))).bind fun b11=>(cond b11 (some (true)) (some (!r9.2))).bind fun b12=>cond b12 (some (((0,false,(0,(⟨#[]⟩:ByteArray),()),(0,(⟨#[]⟩:ByteArray),()),()),false),(r7.2.1,r7.2.2))) (impl_tree_stats.d12 k r7.2.1 r7.2.2 t1 (0,false,(0,(⟨#[]⟩:ByteArray),()),(0,(⟨#[]⟩:ByteArray),()),()) (r2.1.1,false,(0,(⟨#[]⟩:ByteArray),()),(0,(⟨#[]⟩:ByteArray),()),()) r8.1 r9.1)) (impl_tree_stats.c13 k r5.2.1 r5.2.2 t1 (0,false,(0,(⟨#[]⟩:ByteArray),()),(0,(⟨#[]⟩:ByteArray),()),()) (r2.1.1,false,(0,(⟨#[]⟩:ByteArray),()),(0,(⟨#[]⟩:ByteArray),()),()))) ((impl_tree_find k t2 6 (true,r5.2.1) r5.2.2).bind fun r13=>cond (decide (r13.1≥0)) ((impl_tree_part k t2 5 8 (true,r13.2.1) r13.2.2).bind fun r14=>(impl_tree_part k t2 6 8 (true,r14.2.1) r14.2.2).bind fun r15=>(impl_valueOf k t1.1 r14.1.1.2.2.2.1).bind fun r16=>(impl_valueOf k t1.1 r15.1.1.2.2.2.1).bind fun r17=>(cond (!r14.1.2) (some (true)) (some (!r15.1.2))).bind fun b18=>(cond b18 (some (true)) (some (!r16.2))).bind fun b19=>(cond b19 (some (true)) (some (!r17.2))).bind fun b20=>cond b20 (some (((0,false,(0,(⟨#[]⟩:ByteArray),()),(0,(⟨#[]⟩:ByteArray),()),()),false),(r15.2.1,r15.2.2))) (impl_tree_stats.d12 k r15.2.1 r15.2.2 t1 (0,false,(0,(⟨#[]⟩:ByteArray),()),(0,(⟨#[]⟩:ByteArray),()),()) (r2.1.1,false,(0,(⟨#[]⟩:ByteArray),()),(0,(⟨#[]⟩:ByteArray),()),()) r16.1 r17.1)) (impl_tree_stats.c13 k r13.2.1 r13.2.2 t1 (0,false,(0,(⟨#[]⟩:ByteArray),()),(0,(⟨#[]⟩:ByteArray),()),()) (r2.1.1,false,(0,(⟨#[]⟩:ByteArray),()),(0,(⟨#[]⟩:ByteArray),()),()))))
def impl_headReader_statistics (k:Nat) (t1:TLeaf) (t2:Int) (o0:THeadReader) (o3:THead) (o10:TTreeB) (o11:List Int):Option (Unit×THeadReader×THead×TTreeB×(List Int)):=
 (impl_tree_find k o0.2.1 t2 (true,o10) o11).bind fun r1=>cond (decide (r1.1≥0)) ((impl_tree_stats k t1 r1.1 (true,r1.2.1) r1.2.2).bind fun r2=>some ((),(o0,(o3.1,o3.2.1,o3.2.2.1,o3.2.2.2.1,o3.2.2.2.2.1,o3.2.2.2.2.2.1,o3.2.2.2.2.2.2.1,o3.2.2.2.2.2.2.2.1,o3.2.2.2.2.2.2.2.2.1,o3.2.2.2.2.2.2.2.2.2.1,r2.1.2,r2.1.1,o3.2.2.2.2.2.2.2.2.2.2.2.2.1,()),r2.2.1,r2.2.2))) (some ((),(o0,o3,r1.2.1,r1.2.2)))
def impl_headReader_own.c23 (k:Nat) (o0:THeadReader) (o2:THead) (o10:TTreeB) (o11:List Int):Option (Unit×THeadReader×THead×TTreeB×(List Int)):=
 (impl_headReader_num k 1 0 o0 o10 o11).bind fun r1=>(cond r1.2.1.2.2.1 (some (true)) (some (decide (r1.1>2000)))).bind fun b2=>some ((),(((),r1.2.1.2.1,b2,()),(o2.1,o2.2.1,r1.1,o2.2.2.2.1,o2.2.2.2.2.1,o2.2.2.2.2.2.1,o2.2.2.2.2.2.2.1,o2.2.2.2.2.2.2.2.1,o2.2.2.2.2.2.2.2.2.1,o2.2.2.2.2.2.2.2.2.2.1,o2.2.2.2.2.2.2.2.2.2.2.1,o2.2.2.2.2.2.2.2.2.2.2.2.1,o2.2.2.2.2.2.2.2.2.2.2.2.2.1,()),r1.2.2.1,r1.2.2.2))
def impl_headReader_own.c8 (k:Nat) (o0:THeadReader) (o2:THead) (o10:TTreeB) (o11:List Int) (o100:TLeaf):Option (Unit×THeadReader×THead×TTreeB×(List Int)):=
 (impl_headReader_statistics k o100 5 o0 o2 o10 o11).bind fun r3=>impl_headReader_own.c23 k r3.2.1 r3.2.2.1 r3.2.2.2.1 r3.2.2.2.2
def impl_headReader_own.c19 (k:Nat) (o0:THeadReader) (o2:THead) (o10:TTreeB) (o11:List Int) (o100:TLeaf):Option (Unit×THeadReader×THead×TTreeB×(List Int)):=
 (impl_headReader_statistics k o100 8 o0 o2 o10 o11).bind fun r4=>impl_headReader_own.c23 k r4.2.1 r4.2.2.1 r4.2.2.2.1 r4.2.2.2.2
def impl_headReader_own (k:Nat) (t1:TLeaf) (o0:THeadReader) (o2:THead) (o10:TTreeB) (o11:List Int):Option (Unit×THeadReader×THead×TTreeB×(List Int)):=
 cond (o2.1==0) ((impl_headReader_enter k 5 o0 o10 o11).bind fun r5=>(impl_headReader_any k 2 r5.2.1 (true,r5.2.2.1) r5.2.2.2).bind fun r6=>(impl_headReader_any k 3 r6.2.1 (true,r6.2.2.1) r6.2.2.2).bind fun r7=>cond (r7.1 !=3) (cond true (impl_headReader_own.c8 k ((),r7.2.1.2.1,true,()) (o2.1,o2.2.1,o2.2.2.1,r6.1,o2.2.2.2.2.1,o2.2.2.2.2.2.1,o2.2.2.2.2.2.2.1,o2.2.2.2.2.2.2.2.1,o2.2.2.2.2.2.2.2.2.1,o2.2.2.2.2.2.2.2.2.2.1,o2.2.2.2.2.2.2.2.2.2.2.1,o2.2.2.2.2.2.2.2.2.2.2.2.1,o2.2.2.2.2.2.2.2.2.2.2.2.2.1,()) r7.2.2.1 r7.2.2.2 t1) (impl_headReader_own.c8 k r7.2.1 (o2.1,o2.2.1,o2.2.2.1,r6.1,o2.2.2.2.2.1,o2.2.2.2.2.2.1,o2.2.2.2.2.2.2.1,o2.2.2.2.2.2.2.2.1,o2.2.2.2.2.2.2.2.2.1,o2.2.2.2.2.2.2.2.2.2.1,o2.2.2.2.2.2.2.2.2.2.2.1,o2.2.2.2.2.2.2.2.2.2.2.2.1,o2.2.2.2.2.2.2.2.2.2.2.2.2.1,()) r7.2.2.1 r7.2.2.2 t1)) ((impl_headReader_any k 4 r7.2.1 (true,r7.2.2.1) r7.2.2.2).bind fun r8=>cond (r8.1 !=3) (impl_headReader_own.c8 k ((),r8.2.1.2.1,true,()) (o2.1,o2.2.1,o2.2.2.1,r6.1,o2.2.2.2.2.1,o2.2.2.2.2.2.1,o2.2.2.2.2.2.2.1,o2.2.2.2.2.2.2.2.1,o2.2.2.2.2.2.2.2.2.1,o2.2.2.2.2.2.2.2.2.2.1,o2.2.2.2.2.2.2.2.2.2.2.1,o2.2.2.2.2.2.2.2.2.2.2.2.1,o2.2.2.2.2.2.2.2.2.2.2.2.2.1,()) r8.2.2.1 r8.2.2.2 t1) (impl_headReader_own.c8 k r8.2.1 (o2.1,o2.2.1,o2.2.2.1,r6.1,o2.2.2.2.2.1,o2.2.2.2.2.2.1,o2.2.2.2.2.2.2.1,o2.2.2.2.2.2.2.2.1,o2.2.2.2.2.2.2.2.2.1,o2.2.2.2.2.2.2.2.2.2.1,o2.2.2.2.2.2.2.2.2.2.2.1,o2.2.2.2.2.2.2.2.2.2.2.2.1,o2.2.2.2.2.2.2.2.2.2.2.2.2.1,()) r8.2.2.1 r8.2.2.2 t1))) (cond (o2.1==3) ((impl_headReader_enter k 8 o0 o10 o11).bind fun r9=>(impl_headReader_num k 2 0 r9.2.1 r9.2.2.1 r9.2.2.2).bind fun r10=>(impl_headReader_num k 3 0 r10.2.1 r10.2.2.1 r10.2.2.2).bind fun r11=>(impl_headReader_any k 4 r11.2.1 (true,r11.2.2.1) r11.2.2.2).bind fun r12=>(impl_headReader_num k 5 0 r12.2.1 r12.2.2.1 r12.2.2.2).bind fun r13=>(impl_headReader_num k 6 0 r13.2.1 r13.2.2.1 r13.2.2.2).bind fun r14=>(impl_tree_find k r14.2.1.2.1 7 (true,r14.2.2.1) r14.2.2.2).bind fun r15=>(cond (decide (r15.1<0)) (some (true)) ((rdL r15.2.1.1 r15.1).bind fun y16=>some (y16.1==1))).bind fun b17=>cond b17 (impl_headReader_own.c19 k ((),r14.2.1.2.1,true,()) (o2.1,o2.2.1,o2.2.2.1,r12.1,r11.1,r10.1,r13.1,r14.1,o2.2.2.2.2.2.2.2.2.1,o2.2.2.2.2.2.2.2.2.2.1,o2.2.2.2.2.2.2.2.2.2.2.1,o2.2.2.2.2.2.2.2.2.2.2.2.1,o2.2.2.2.2.2.2.2.2.2.2.2.2.1,()) r15.2.1 r15.2.2 t1) (impl_headReader_own.c19 k r14.2.1 (o2.1,o2.2.1,o2.2.2.1,r12.1,r11.1,r10.1,r13.1,r14.1,o2.2.2.2.2.2.2.2.2.1,o2.2.2.2.2.2.2.2.2.2.1,o2.2.2.2.2.2.2.2.2.2.2.1,o2.2.2.2.2.2.2.2.2.2.2.2.1,o2.2.2.2.2.2.2.2.2.2.2.2.2.1,()) r15.2.1 r15.2.2 t1)) (cond (o2.1==2) ((impl_headReader_enter k 7 o0 o10 o11).bind fun r18=>(impl_headReader_any k 2 r18.2.1 (true,r18.2.2.1) r18.2.2.2).bind fun r19=>impl_headReader_own.c23 k r19.2.1 (o2.1,o2.2.1,o2.2.2.1,r19.1,o2.2.2.2.2.1,o2.2.2.2.2.2.1,o2.2.2.2.2.2.2.1,o2.2.2.2.2.2.2.2.1,o2.2.2.2.2.2.2.2.2.1,o2.2.2.2.2.2.2.2.2.2.1,o2.2.2.2.2.2.2.2.2.2.2.1,o2.2.2.2.2.2.2.2.2.2.2.2.1,o2.2.2.2.2.2.2.2.2.2.2.2.2.1,()) r19.2.2.1 r19.2.2.2) (impl_headReader_own.c23 k ((),o0.2.1,true,()) o2 o10 o11)))
def impl_HeadRead.d14 (k:Nat) (t1:List Int) (t9:Int) (t16:Bool) (o100:TLeaf) (o101:THead) (o102:THeadReader) (o103:THead) (o104:TNode) (o105:TTreeB) (o106:List Int):Option (THead×Int):=
 (impl_headReader_own k o100 o102 (o103.1,o103.2.1,o103.2.2.1,o103.2.2.2.1,o103.2.2.2.2.1,o103.2.2.2.2.2.1,o103.2.2.2.2.2.2.1,o103.2.2.2.2.2.2.2.1,t16,bits .and .i64 o104.2.2.1 4294967295,o103.2.2.2.2.2.2.2.2.2.2.1,o103.2.2.2.2.2.2.2.2.2.2.2.1,o103.2.2.2.2.2.2.2.2.2.2.2.2.1,()) o105 o106).bind fun r1=>cond r1.2.1.2.2.1 (some ((0,0,0,0,0,0,0,0,false,0,false,(0,false,(0,(⟨#[]⟩:ByteArray),()),(0,(⟨#[]⟩:ByteArray),()),()),0,()),1)) (cond (decide (r1.2.2.1.2.1>(IntKind.wrap .i64 ((List.length t1:Int)-t9)))) (some ((0,0,0,0,0,0,0,0,false,0,false,(0,false,(0,(⟨#[]⟩:ByteArray),()),(0,(⟨#[]⟩:ByteArray),()),()),0,()),2)) (some (r1.2.2.1,0)))
def impl_HeadRead.c14 (k:Nat) (t1:List Int) (t9:Int) (t16:Bool) (o100:TLeaf) (o101:THead) (o102:THeadReader) (o103:THead) (o104:TNode) (o105:TTreeB) (o106:List Int):Option (THead×Int):=
 impl_HeadRead.d14 k t1 t9 t16 o100 o101 o102 o103 o104 o105 o106
def impl_HeadRead.c11 (k:Nat) (t1:List Int) (t9:Int) (o100:TLeaf) (o101:THead) (o102:TTreeB) (o103:THeadReader) (o104:THead) (o105:List Int):Option (THead×Int):=
 (impl_tree_part k 0 4 5 (true,o102) o105).bind fun r4=>(impl_tree_find k 0 4 (true,r4.2.1) r4.2.2).bind fun r5=>(cond (decide (r5.1≥0)) (some (!r4.1.2)) (some (false))).bind fun b6=>cond b6 (impl_HeadRead.c14 k t1 t9 r4.1.2 o100 o101 ((),o103.2.1,true,()) o104 r4.1.1 r5.2.1 r5.2.2) (impl_HeadRead.c14 k t1 t9 r4.1.2 o100 o101 o103 o104 r4.1.1 r5.2.1 r5.2.2)
def impl_HeadRead.d9 (k:Nat) (t1:List Int) (t9:Int) (o100:TLeaf) (o101:THead) (o102:TTreeB) (o103:THeadReader) (o104:THead) (o105:List Int):Option (THead×Int):=
 (impl_headReader_any k 3 o103 (true,o102) o105).bind fun r7=>cond (r7.1 !=o104.2.1) (impl_HeadRead.c11 k t1 t9 o100 o101 r7.2.2.1 ((),r7.2.1.2.1,true,()) o104 r7.2.2.2) (impl_HeadRead.c11 k t1 t9 o100 o101 r7.2.2.1 r7.2.1 o104 r7.2.2.2)
def impl_HeadRead (k:Nat) (t0:TLeaf) (t1:List Int) (t2:Int):Option (THead×Int):=
 (impl_TreeRead k t1 t2).bind fun r10=>(impl_treeOf k r10.2).bind fun r11=>(impl_LeafOk k t0).bind fun r12=>(cond (!r12) (some (true)) (some (r10.1.2.2 !=0))).bind fun b13=>(cond b13 (some (true)) (some (!r11.1.2))).bind fun b14=>cond b14 (some ((0,0,0,0,0,0,0,0,false,0,false,(0,false,(0,(⟨#[]⟩:ByteArray),()),(0,(⟨#[]⟩:ByteArray),()),()),0,()),1)) ((impl_headReader_any k 1 ((),0,false,()) (r11.2.1.1,r11.2.1.2) r11.2.2).bind fun r15=>(impl_headReader_num k 2 0 r15.2.1 r15.2.2.1 r15.2.2.2).bind fun r16=>impl_HeadRead.d9 k t1 r10.1.2.1 t0 (0,0,0,0,0,0,0,0,false,0,false,(0,false,(0,(⟨#[]⟩:ByteArray),()),(0,(⟨#[]⟩:ByteArray),()),()),0,()) r16.2.2.1 r16.2.1 (r15.1,r16.1,0,0,0,0,0,0,false,0,false,(0,false,(0,(⟨#[]⟩:ByteArray),()),(0,(⟨#[]⟩:ByteArray),()),()),r10.1.2.1,()) r16.2.2.2)
def impl_crcNumber.c7 (k:Nat) (L2:Int→Int→Option Int) (t0:Int) (t4:Int):Option Int:=
 L2 t0 (IntKind.wrap .i64 (t4+1))
def impl_crcNumber.l2 (k:Nat):Nat→Int→Int→Option Int
 |0,_,_=>none
 |n+1,t0,t4=>
  cond (decide (t4<8)) (cond ((Int.tmod t0 2)==1) (impl_crcNumber.c7 k (impl_crcNumber.l2 k n) (bits .xor .i64 (IntKind.wrap .i64 (Int.tdiv t0 2)) 3988292384) t4) (impl_crcNumber.c7 k (impl_crcNumber.l2 k n) (IntKind.wrap .i64 (Int.tdiv t0 2)) t4)) (some t0)
def impl_crcNumber (k:Nat) (t0:Int):Option Int:=
 impl_crcNumber.l2 k k t0 0
def impl_CrcTable.l3 (k:Nat):Nat→Int→(List Int)→Option (Unit×(List Int))
 |0,_,_=>none
 |n+1,t4,o100=>
  cond (decide (t4<256)) ((impl_crcNumber k t4).bind fun r1=>cond (lim (List.length o100+List.length [r1])) ((impl_CrcTable.l3 k n) (IntKind.wrap .i64 (t4+1)) (o100++[r1])) none) (some ((),o100))
def impl_CrcTable (k:Nat):Option (Unit×(List Int)):=
 impl_CrcTable.l3 k k 0 []
def impl_CrcMore.l6 (k:Nat):Nat→Int→(List Int)→Int→Int→(List Int)→Option Int
 |0,_,_,_,_,_=>none
 |n+1,t0,t14,t15,t16,o100=>
  cond (decide (t16<t15)) ((rdL t14 t16).bind fun y1=>(rdL o100 (bits .xor .i64 (bits .and .i64 t0 255) (IntKind.wrap .i64 y1))).bind fun y2=>(impl_CrcMore.l6 k n) (bits .xor .i64 y2 (shrI .i64 t0 8)) t14 t15 (IntKind.wrap .i64 (t16+1)) o100) (some (bits .xor .i64 t0 4294967295))
def impl_CrcMore (k:Nat) (t0:Int) (t1:List Int):Option Int:=
 (impl_within k t0 0 4294967295).bind fun r3=>cond (!r3) (some (-1)) ((impl_CrcTable k).bind fun r4=>impl_CrcMore.l6 k k (bits .xor .i64 t0 4294967295) t1 (List.length t1:Int) 0 r4.2)
def impl_CrcOf (k:Nat) (t0:List Int):Option Int:=
 (impl_CrcMore k 0 t0).bind fun r1=>some r1
def impl_checked.d5 (k:Nat) (t11:List Int) (o100:THead) (o101:THead):Option (THead×(List Int)×Int):=
 cond o101.2.2.2.2.2.2.2.2.1 ((impl_CrcOf k t11).bind fun r1=>cond (o101.2.2.2.2.2.2.2.2.2.1 !=r1) (some (o101,[],3)) (some (o101,t11,0))) (cond false (some (o101,[],3)) (some (o101,t11,0)))
def impl_checked (k:Nat) (t0:TLeaf) (t1:List Int) (t2:Int):Option (THead×(List Int)×Int):=
 (impl_HeadRead k t0 t1 t2).bind fun r4=>cond (r4.2 !=0) (some (r4.1,[],r4.2)) (cond (inSl r4.1.2.2.2.2.2.2.2.2.2.2.2.2.1 (IntKind.wrap .i64 (r4.1.2.2.2.2.2.2.2.2.2.2.2.2.1+r4.1.2.1)) (List.length t1)) (impl_checked.d5 k (cutL t1 r4.1.2.2.2.2.2.2.2.2.2.2.2.2.1 (IntKind.wrap .i64 (r4.1.2.2.2.2.2.2.2.2.2.2.2.2.1+r4.1.2.1))) (0,0,0,0,0,0,0,0,false,0,false,(0,false,(0,(⟨#[]⟩:ByteArray),()),(0,(⟨#[]⟩:ByteArray),()),()),0,()) r4.1) none)
def bits_Len64.c10 (k:Nat) (t0:Int) (t2:Int):Option Int:=
 (btS (⟨#[0,1,2,2,3,3,3,3,4,4,4,4,4,4,4,4,5,5,5,5,5,5,5,5,5,5,5,5,5,5,5,5,6,6,6,6,6,6,6,6,6,6,6,6,6,6,6,6,6,6,6,6,6,6,6,6,6,6,6,6,6,6,6,6,7,7,7,7,7,7,7,7,7,7,7,7,7,7,7,7,7,7,7,7,7,7,7,7,7,7,7,7,7,7,7,7,7,7,7,7,7,7,7,7,7,7,7,7,7,7,7,7,7,7,7,7,7,7,7,7,7,7,7,7,7,7,7,7,8,8,8,8,8,8,8,8,8,8,8,8,8,8,8,8,8,8,8,8,8,8,8,8,8,8,8,8,8,8,8,8,8,8,8,8,8,8,8,8,8,8,8,8,8,8,8,8,8,8,8,8,8,8,8,8,8,8,8,8,8,8,8,8,8,8,8,8,8,8,8,8,8,8,8,8,8,8,8,8,8,8,8,8,8,8,8,8,8,8,8,8,8,8,8,8,8,8,8,8,8,8,8,8,8,8,8,8,8,8,8,8,8,8,8,8,8,8,8,8,8,8,8,8,8,8,8,8]⟩:ByteArray) (IntKind.wrap .u8 t0)).bind fun y1=>some (IntKind.wrap .i64 (t2+(IntKind.wrap .i64 y1)))
def bits_Len64.c7 (k:Nat) (t0:Int) (t2:Int):Option Int:=
 cond (decide (t0≥256)) (bits_Len64.c10 k (shrI .u64 t0 8) (IntKind.wrap .i64 (t2+8))) (bits_Len64.c10 k t0 t2)
def bits_Len64.c4 (k:Nat) (t0:Int) (t2:Int):Option Int:=
 cond (decide (t0≥65536)) (bits_Len64.c7 k (shrI .u64 t0 16) (IntKind.wrap .i64 (t2+16))) (bits_Len64.c7 k t0 t2)
def bits_Len64 (k:Nat) (t0:Int):Option Int:=
 cond (decide (t0≥4294967296)) (bits_Len64.c4 k (shrI .u64 t0 32) 32) (bits_Len64.c4 k t0 0)
def impl_widthOf (k:Nat) (t0:Int):Option Int:=
 (bits_Len64 k (IntKind.wrap .u64 t0)).bind fun r1=>some r1
def impl_runNumber (k:Nat) (t0:List Int) (t1:Int) (t2:Int):Option (Int×Int×Bool):=
 cond (t2==0) (some (0,t1,true)) ((impl_BitsSize k 1 t2).bind fun r1=>(impl_WordGet k t0 t1 r1).bind fun r2=>(cond (!r2.2.2) (some (true)) ((impl_widthOf k r2.1).bind fun r3=>some (decide (r3>t2)))).bind fun b4=>cond b4 (some (0,0,false)) (some (r2.1,r2.2.1,true)))
def impl_RunRead.l15 (k:Nat) (L4:(List Int)→Int→Int→Int→(List Int)→Option ((Unit×Int×Bool)×(List Int))):Nat→(List Int)→Int→Int→Int→Int→Int→Int→(List Int)→Option ((Unit×Int×Bool)×(List Int))
 |0,_,_,_,_,_,_,_,_=>none
 |n+1,t0,t2,t3,t17,t18,t72,t73,o100=>
  cond (decide (t73<t72)) (cond (lim (List.length o100+List.length [t17])) ((impl_RunRead.l15 k L4 n) t0 t2 t3 t17 t18 t72 (IntKind.wrap .i64 (t73+1)) (o100++[t17])) none) (L4 t0 t18 t2 t3 o100)
def impl_RunRead.l4 (k:Nat):Nat→(List Int)→Int→Int→Int→(List Int)→Option ((Unit×Int×Bool)×(List Int))
 |0,_,_,_,_,_=>none
 |n+1,t0,t1,t2,t3,o100=>
  cond (decide ((List.length o100:Int)<t2)) ((impl_UvarGet k t0 t1).bind fun r1=>cond (!r1.2.2) (some (((),0,false),[])) (cond ((bits .and .i64 r1.1 1)==0) ((impl_runNumber k t0 r1.2.1 t3).bind fun r2=>cond (!r2.2.2) (some (((),0,false),[])) (impl_RunRead.l15 k (impl_RunRead.l4 k n) k t0 t2 t3 r2.1 r2.2.1 (if (IntKind.wrap .i64 (t2-(List.length o100:Int)))<(IntKind.wrap .i64 (shrI .u64 (IntKind.wrap .u64 r1.1) 1)) then (IntKind.wrap .i64 (t2-(List.length o100:Int))) else (IntKind.wrap .i64 (shrI .u64 (IntKind.wrap .u64 r1.1) 1))) 0 o100)) ((cond (decide ((IntKind.wrap .i64 (shrI .u64 (IntKind.wrap .u64 r1.1) 1))>2000)) (some (true)) (some (decide ((IntKind.wrap .i64 ((IntKind.wrap .i64 (shrI .u64 (IntKind.wrap .u64 r1.1) 1))*t3))>(IntKind.wrap .i64 ((List.length t0:Int)-r1.2.1)))))).bind fun b3=>cond b3 (some (((),0,false),[])) ((impl_unpacked k t0 r1.2.1 (if (IntKind.wrap .i64 (t2-(List.length o100:Int)))<(IntKind.wrap .i64 (8*(IntKind.wrap .i64 (shrI .u64 (IntKind.wrap .u64 r1.1) 1)))) then (IntKind.wrap .i64 (t2-(List.length o100:Int))) else (IntKind.wrap .i64 (8*(IntKind.wrap .i64 (shrI .u64 (IntKind.wrap .u64 r1.1) 1))))) t3).bind fun r4=>cond (lim (List.length o100+List.length r4.2)) ((impl_RunRead.l4 k n) t0 (IntKind.wrap .i64 (r1.2.1+(IntKind.wrap .i64 ((IntKind.wrap .i64 (shrI .u64 (IntKind.wrap .u64 r1.1) 1))*t3)))) t2 t3 (o100++r4.2)) none)))) (some (((),t1,true),o100))
def impl_RunRead (k:Nat) (t0:List Int) (t1:Int) (t2:Int) (t3:Int):Option ((Unit×Int×Bool)×(List Int)):=
 (impl_within k t3 0 24).bind fun r5=>(cond (!r5) (some (true)) ((impl_within k t2 0 2000).bind fun r6=>some (!r6))).bind fun b7=>(cond b7 (some (true)) ((impl_within k t1 0 (List.length t0:Int)).bind fun r8=>some (!r8))).bind fun b9=>cond b9 (some (((),0,false),[])) (impl_RunRead.l4 k k t0 t1 t2 t3 [])
def impl_BitsWidth (k:Nat) (t0:Int):Option Int:=
 (cond (decide (t0<0)) (some (true)) ((impl_widthOf k t0).bind fun r1=>some (decide (r1>62)))).bind fun b2=>cond b2 (some (-1)) ((impl_widthOf k t0).bind fun r3=>some r3)
def impl_LevelsRead.l12 (k:Nat):Nat→Int→Int→Int→Int→Int→(List Int)→Option ((Unit×Int×Bool)×(List Int))
 |0,_,_,_,_,_,_=>none
 |n+1,t3,t11,t12,t72,t73,o100=>
  cond (decide (t73<t72)) ((rdL o100 t73).bind fun y1=>cond (decide (y1>t3)) (some (((),0,false),[])) ((impl_LevelsRead.l12 k n) t3 t11 t12 t72 (IntKind.wrap .i64 (t73+1)) o100)) (some (((),IntKind.wrap .i64 (t12+t11),true),o100))
def impl_LevelsRead (k:Nat) (t0:List Int) (t1:Int) (t2:Int) (t3:Int):Option ((Unit×Int×Bool)×(List Int)):=
 (impl_within k t3 0 255).bind fun r2=>(cond (!r2) (some (true)) ((impl_within k t2 0 2000).bind fun r3=>some (!r3))).bind fun b4=>(cond b4 (some (true)) ((impl_within k t1 0 (List.length t0:Int)).bind fun r5=>some (!r5))).bind fun b6=>cond b6 (some (((),0,false),[])) (cond (t3==0) (cond (okLen t2) (some (((),t1,true),List.replicate (Int.toNat t2) 0)) none) ((impl_WordGet k t0 t1 4).bind fun r7=>(cond (!r7.2.2) (some (true)) (some (decide (r7.1>(IntKind.wrap .i64 ((List.length t0:Int)-r7.2.1)))))).bind fun b8=>cond b8 (some (((),0,false),[])) (cond (inSl r7.2.1 (IntKind.wrap .i64 (r7.2.1+r7.1)) (List.length t0)) ((impl_BitsWidth k t3).bind fun r9=>(impl_RunRead k (cutL t0 r7.2.1 (IntKind.wrap .i64 (r7.2.1+r7.1))) 0 t2 r9).bind fun r10=>cond (!r10.1.2.2) (some (((),0,false),[])) (impl_LevelsRead.l12 k k t3 r7.1 r7.2.1 (List.length r10.2:Int) 0 r10.2)) none)))
def slices_Max_int_int.l5 (k:Nat):Nat→(List Int)→Int→Int→Option Int
 |0,_,_,_=>none
 |n+1,t0,t3,t4=>
  cond (decide (t4<(List.length t0:Int))) ((rdL t0 t4).bind fun y1=>(slices_Max_int_int.l5 k n) t0 (if y1>t3 then y1 else t3) (IntKind.wrap .i64 (t4+1))) (some t3)
def slices_Max_int_int.c3 (k:Nat) (t0:List Int):Option Int:=
 (rdL t0 0).bind fun y2=>slices_Max_int_int.l5 k k t0 y2 1
def slices_Max_int_int (k:Nat) (t0:List Int):Option Int:=
 cond (decide ((List.length t0:Int)<1)) (none) (slices_Max_int_int.c3 k t0)
def impl_levelsOf (k:Nat) (t0:List Int) (t1:Int) (t2:Int):Option ((Unit×Bool)×(List Int)):=
 cond (t2==0) (cond (okLen t1) (some (((),(List.length t0:Int)==0),List.replicate (Int.toNat t1) 0)) none) ((impl_BitsWidth k t2).bind fun r1=>(impl_RunRead k t0 0 t1 r1).bind fun r2=>(cond (!r2.1.2.2) (some (true)) (some (r2.1.2.1 !=(List.length t0:Int)))).bind fun b3=>(cond b3 (some (true)) ((cond (decide ((List.length r2.2:Int)>0)) ((slices_Max_int_int k r2.2).bind fun r4=>some (decide (r4>t2))) (some (false))).bind fun b5=>some (b5))).bind fun b6=>cond b6 (some (((),false),[])) (some (((),true),r2.2)))
def impl_pageLevels.d13 (k:Nat) (t2:List Int) (t15:Int) (t17:Bool) (o100:TLeaf) (o101:THead) (o102:List Int):Option ((Unit×Unit×(List Int)×Bool)×(List Int)×(List Int)):=
 cond (inSl o101.2.2.2.2.2.2.2.1 t15 (List.length t2)) ((impl_levelsOf k (cutL t2 o101.2.2.2.2.2.2.2.1 t15) o101.2.2.1 o100.2.2.1).bind fun r1=>cond (inSl t15 ((List.length t2):Int) (List.length t2)) ((cond t17 (some (r1.1.2)) (some (false))).bind fun b2=>some (((),(),cutL t2 t15 ((List.length t2):Int),b2),(o102,r1.2))) none) none
def impl_pageLevels.d12 (k:Nat) (t2:List Int) (t15:Int) (o100:TLeaf) (o101:THead):Option ((Unit×Unit×(List Int)×Bool)×(List Int)×(List Int)):=
 cond (inSl 0 o101.2.2.2.2.2.2.2.1 (List.length t2)) ((impl_levelsOf k (cutL t2 0 o101.2.2.2.2.2.2.2.1) o101.2.2.1 o100.2.1).bind fun r5=>impl_pageLevels.d13 k t2 t15 r5.1.2 o100 o101 r5.2) none
def impl_pageLevels (k:Nat) (t0:TLeaf) (t1:THead) (t2:List Int):Option ((Unit×Unit×(List Int)×Bool)×(List Int)×(List Int)):=
 cond (t1.1==0) ((impl_LevelsRead k t2 0 t1.2.2.1 t0.2.1).bind fun r7=>cond (!r7.1.2.2) (some (((),(),[],false),([],[]))) ((impl_LevelsRead k t2 r7.1.2.1 t1.2.2.1 t0.2.2.1).bind fun r8=>cond (!r8.1.2.2) (some (((),(),[],false),([],[]))) (cond (inSl r8.1.2.1 ((List.length t2):Int) (List.length t2)) (some (((),(),cutL t2 r8.1.2.1 ((List.length t2):Int),true),(r7.2,r8.2))) none))) ((cond (decide (t1.2.2.2.2.2.2.2.1>(List.length t2:Int))) (some (true)) (some (decide (t1.2.2.2.2.2.2.1>(IntKind.wrap .i64 ((List.length t2:Int)-t1.2.2.2.2.2.2.2.1)))))).bind fun b9=>cond b9 (some (((),(),[],false),([],[]))) (impl_pageLevels.d12 k t2 (IntKind.wrap .i64 (t1.2.2.2.2.2.2.2.1+t1.2.2.2.2.2.2.1)) t0 t1))
def impl_tripled.c9 (k:Nat) (L4:(List Int)→Int→(List Int)→Int→Int→TLeaf→(List TTriple)→Option ((Unit×Int)×(List TTriple))) (t2:List Int) (t9:Int) (t13:List Int) (t14:Int) (t15:Int) (o100:TLeaf) (o101:List TTriple):Option ((Unit×Int)×(List TTriple)):=
 L4 t2 t9 t13 t14 (IntKind.wrap .i64 (t15+1)) o100 o101
def impl_tripled.l4 (k:Nat):Nat→(List Int)→Int→(List Int)→Int→Int→TLeaf→(List TTriple)→Option ((Unit×Int)×(List TTriple))
 |0,_,_,_,_,_,_,_=>none
 |n+1,t2,t9,t13,t14,t15,o100,o101=>
  cond (decide (t15<t14)) ((rdL t13 t15).bind fun y1=>(rdL t2 t15).bind fun y2=>cond (lim (List.length o101+List.length ([(y1,y2,(0,(⟨#[]⟩:ByteArray),()),())]:List TTriple))) ((rdL t2 t15).bind fun y3=>cond (y3 !=o100.2.2.1) (impl_tripled.c9 k (impl_tripled.l4 k n) t2 (IntKind.wrap .i64 (t9+1)) t13 t14 t15 o100 (o101++[(y1,y2,(0,(⟨#[]⟩:ByteArray),()),())])) (impl_tripled.c9 k (impl_tripled.l4 k n) t2 t9 t13 t14 t15 o100 (o101++[(y1,y2,(0,(⟨#[]⟩:ByteArray),()),())]))) none) (some (((),t9),o101))
def impl_tripled (k:Nat) (t0:TLeaf) (t1:List Int) (t2:List Int):Option ((Unit×Int)×(List TTriple)):=
 impl_tripled.l4 k k t2 0 t1 (List.length t1:Int) 0 t0 []
def impl_RowsOf.c7 (k:Nat) (L3:Int→(List TTriple)→Int→Int→Option Int) (t3:Int) (t6:List TTriple) (t7:Int) (t8:Int):Option Int:=
 L3 t3 t6 t7 (IntKind.wrap .i64 (t8+1))
def impl_RowsOf.l3 (k:Nat):Nat→Int→(List TTriple)→Int→Int→Option Int
 |0,_,_,_,_=>none
 |n+1,t3,t6,t7,t8=>
  cond (decide (t8<t7)) ((rdL t6 t8).bind fun y1=>cond (y1.1==0) (impl_RowsOf.c7 k (impl_RowsOf.l3 k n) (IntKind.wrap .i64 (t3+1)) t6 t7 t8) (impl_RowsOf.c7 k (impl_RowsOf.l3 k n) t3 t6 t7 t8)) (some t3)
def impl_RowsOf (k:Nat) (t0:List TTriple):Option Int:=
 impl_RowsOf.l3 k k 0 t0 (List.length t0:Int) 0
def impl_EncOk.c11 (k:Nat) (t0:Int) (t1:Int) (t23:Bool):Option Bool:=
 cond t23 (some (t1==6)) ((cond (t0==9) ((impl_wideOf k t1).bind fun r1=>some (decide (r1>0))) (some (false))).bind fun b2=>some b2)
def impl_EncOk.c4 (k:Nat) (t0:Int) (t1:Int) (t5:Int) (t6:Bool):Option Bool:=
 cond t6 ((impl_TypeOk k t1).bind fun r3=>some r3) (cond (t5==3) (some (t1==0)) (cond (t5==5) ((cond (t1==1) (some (true)) (some (t1==2))).bind fun b4=>some b4) (cond (t5==6) (impl_EncOk.c11 k t0 t1 (t5==6)) (impl_EncOk.c11 k t0 t1 (t5==7)))))
def impl_EncOk (k:Nat) (t0:Int) (t1:Int):Option Bool:=
 cond (t0==0) (impl_EncOk.c4 k t0 t1 t0 (t0==0)) (impl_EncOk.c4 k t0 t1 t0 (t0==8))
def impl_deltaReader_uvar (k:Nat) (o0:TDeltaReaderB) (o10:List Int):Option (Int×TDeltaReaderB×(List Int)):=
 (impl_UvarGet k o0.1 o0.2.1).bind fun r1=>(cond o0.2.2.1 (some (true)) (some (!r1.2.2))).bind fun b2=>cond b2 (some (0,((o0.1,o0.2.1,true,(),()),o10))) (some (r1.1,((o0.1,r1.2.1,o0.2.2.1,(),()),o10)))
def impl_deltaReader_take (k:Nat) (t1:Int) (o0:TDeltaReaderB) (o10:List Int):Option (Int×TDeltaReaderB×(List Int)):=
 (cond o0.2.2.1 (some (true)) (some (decide (t1>(IntKind.wrap .i64 ((List.length o0.1:Int)-o0.2.1)))))).bind fun b1=>cond b1 (some (0,((o0.1,o0.2.1,true,(),()),o10))) (some (IntKind.wrap .i64 ((IntKind.wrap .i64 (o0.2.1+t1))-t1),((o0.1,IntKind.wrap .i64 (o0.2.1+t1),o0.2.2.1,(),()),o10)))
def impl_deltaReader_mini.d7 (k:Nat) (L5:Int→Int→Int→TDeltaReaderB→(List Int)→(List Int)→Option (Unit×TDeltaReaderB×(List Int))) (t3:Int) (t12:Int) (t38:Int) (t39:Int) (o0:TDeltaReaderB) (o100:List Int) (o101:List Int):Option (Unit×TDeltaReaderB×(List Int)):=
 (rdL o101 (IntKind.wrap .i64 ((List.length o101:Int)-1))).bind fun y1=>cond (lim (List.length o101+List.length [IntKind.wrap .i64 ((IntKind.wrap .i64 (y1+t12))+t3)])) (L5 t3 t38 (IntKind.wrap .i64 (t39+1)) o0 o100 (o101++[IntKind.wrap .i64 ((IntKind.wrap .i64 (y1+t12))+t3)])) none
def impl_deltaReader_mini.l5 (k:Nat):Nat→Int→Int→Int→TDeltaReaderB→(List Int)→(List Int)→Option (Unit×TDeltaReaderB×(List Int))
 |0,_,_,_,_,_,_=>none
 |n+1,t3,t38,t39,o0,o100,o101=>
  cond (decide (t39<t38)) ((rdL o100 t39).bind fun y4=>impl_deltaReader_mini.d7 k (impl_deltaReader_mini.l5 k n) t3 y4 t38 t39 o0 o100 o101) (some ((),(o0,o101)))
def impl_deltaReader_mini.c2 (k:Nat) (t1:Int) (t2:Int) (t3:Int) (t4:Int) (o0:TDeltaReaderB) (o10:List Int):Option (Unit×TDeltaReaderB×(List Int)):=
 (impl_deltaReader_take k (IntKind.wrap .i64 (Int.tdiv (IntKind.wrap .i64 (t1*t2)) 8)) o0 o10).bind fun r5=>cond r5.2.1.2.2.1 (some ((),(r5.2.1,r5.2.2))) ((impl_unpacked k r5.2.1.1 r5.1 (if t4<t1 then t4 else t1) t2).bind fun r6=>impl_deltaReader_mini.l5 k k t3 (List.length r6.2:Int) 0 r5.2.1 r6.2 r5.2.2)
def impl_deltaReader_mini (k:Nat) (t1:Int) (t2:Int) (t3:Int) (t4:Int) (o0:TDeltaReaderB) (o10:List Int):Option (Unit×TDeltaReaderB×(List Int)):=
 cond (decide (t2>64)) (impl_deltaReader_mini.c2 k t1 t2 t3 t4 (o0.1,o0.2.1,true,(),()) o10) (impl_deltaReader_mini.c2 k t1 t2 t3 t4 o0 o10)
def impl_DeltaRead.d22 (k:Nat) (L20:(List Int)→Int→Int→Int→Int→Int→Int→TDeltaReaderB→(List Int)→Option ((Unit×Int×Bool)×(List Int))) (t0:List Int) (t9:Int) (t10:Int) (t12:Int) (t13:Int) (t14:Int) (t15:Int) (o100:TDeltaReaderB) (o101:List Int):Option ((Unit×Int×Bool)×(List Int)):=
 (rdL t0 (IntKind.wrap .i64 (t14+t15))).bind fun y1=>(impl_deltaReader_mini k t12 (IntKind.wrap .i64 y1) t13 (IntKind.wrap .i64 (t10-(List.length o101:Int))) o100 o101).bind fun r2=>L20 t0 t9 t10 t12 t13 t14 (IntKind.wrap .i64 (t15+1)) r2.2.1 r2.2.2
def impl_DeltaRead.l20 (k:Nat) (L16:(List Int)→Int→Int→Int→TDeltaReaderB→(List Int)→Option ((Unit×Int×Bool)×(List Int))):Nat→(List Int)→Int→Int→Int→Int→Int→Int→TDeltaReaderB→(List Int)→Option ((Unit×Int×Bool)×(List Int))
 |0,_,_,_,_,_,_,_,_,_=>none
 |n+1,t0,t9,t10,t12,t13,t14,t15,o100,o101=>
  (cond (decide (t15<t9)) (some (decide ((List.length o101:Int)<t10))) (some (false))).bind fun b7=>(cond b7 (some (!o100.2.2.1)) (some (false))).bind fun b8=>cond b8 (impl_DeltaRead.d22 k (impl_DeltaRead.l20 k L16 n) t0 t9 t10 t12 t13 t14 t15 o100 o101) (L16 t0 t9 t10 t12 o100 o101)
def impl_DeltaRead.l16 (k:Nat):Nat→(List Int)→Int→Int→Int→TDeltaReaderB→(List Int)→Option ((Unit×Int×Bool)×(List Int))
 |0,_,_,_,_,_,_=>none
 |n+1,t0,t9,t10,t12,o100,o101=>
  (cond (decide ((List.length o101:Int)<t10)) (some (!o100.2.2.1)) (some (false))).bind fun b9=>cond b9 ((impl_deltaReader_uvar k o100 o101).bind fun r10=>(impl_Zag k r10.1).bind fun r11=>(impl_deltaReader_take k t9 r10.2.1 r10.2.2).bind fun r12=>impl_DeltaRead.l20 k (impl_DeltaRead.l16 k n) k t0 t9 t10 t12 r11 r12.1 0 r12.2.1 r12.2.2) (cond o100.2.2.1 (some (((),0,false),[])) (some (((),o100.2.1,true),o101)))
def impl_DeltaRead (k:Nat) (t0:List Int) (t1:Int):Option ((Unit×Int×Bool)×(List Int)):=
 (impl_within k t1 0 (List.length t0:Int)).bind fun r13=>cond (!r13) (some (((),0,false),[])) ((impl_deltaReader_uvar k (t0,t1,false,(),()) []).bind fun r14=>(impl_deltaReader_uvar k r14.2.1 r14.2.2).bind fun r15=>(impl_deltaReader_uvar k r15.2.1 r15.2.2).bind fun r16=>(impl_deltaReader_uvar k r16.2.1 r16.2.2).bind fun r17=>(impl_Zag k r17.1).bind fun r18=>(cond r17.2.1.2.2.1 (some (true)) ((impl_within k r14.1 128 1024).bind fun r19=>some (!r19))).bind fun b20=>(cond b20 (some (true)) (some ((Int.tmod r14.1 128) !=0))).bind fun b21=>(cond b21 (some (true)) ((impl_within k r15.1 1 r14.1).bind fun r22=>some (!r22))).bind fun b23=>(cond b23 (some (true)) ((impl_within k r16.1 0 2000).bind fun r24=>some (!r24))).bind fun b25=>cond b25 (some (((),0,false),[])) (cond (decide (r15.1≠0)) ((cond ((Int.tmod r14.1 r15.1) !=0) (some (true)) (cond (decide (r15.1≠0)) (some ((Int.tmod (IntKind.wrap .i64 (Int.tdiv r14.1 r15.1)) 32) !=0)) none)).bind fun b26=>cond b26 (some (((),0,false),[])) (cond (r16.1==0) (some (((),r17.2.1.2.1,true),[])) (cond (decide (r15.1≠0)) (impl_DeltaRead.l16 k k t0 r15.1 r16.1 (IntKind.wrap .i64 (Int.tdiv r14.1 r15.1)) r17.2.1 [r18]) none))) none))
def impl_LengthRead.l6 (k:Nat):Nat→(List Int)→Int→Int→Int→(List TVal)→(List Int)→Option ((Unit×Int×Bool)×(List TVal))
 |0,_,_,_,_,_,_=>none
 |n+1,t0,t8,t24,t25,o100,o101=>
  cond (decide (t25<t24)) ((rdL o101 t25).bind fun y1=>(impl_within k y1 0 40).bind fun r2=>(cond (!r2) (some (true)) (some (decide (y1>(IntKind.wrap .i64 ((List.length t0:Int)-t8)))))).bind fun b3=>cond b3 (some (((),0,false),[])) (cond (inSl t8 (IntKind.wrap .i64 (t8+y1)) (List.length t0)) (cond (lim (List.length o100+List.length [(0,intsStr (cutL t0 t8 (IntKind.wrap .i64 (t8+y1))),())])) ((impl_LengthRead.l6 k n) t0 (IntKind.wrap .i64 (t8+y1)) t24 (IntKind.wrap .i64 (t25+1)) (o100++[(0,intsStr (cutL t0 t8 (IntKind.wrap .i64 (t8+y1))),())]) o101) none) none)) (some (((),t8,true),o100))
def impl_LengthRead (k:Nat) (t0:List Int) (t1:Int):Option ((Unit×Int×Bool)×(List TVal)):=
 (impl_DeltaRead k t0 t1).bind fun r4=>cond (!r4.1.2.2) (some (((),0,false),[])) (impl_LengthRead.l6 k k t0 r4.1.2.1 (List.length r4.2:Int) 0 [] r4.2)
def impl_FrontRead.l10 (k:Nat):Nat→Int→ByteArray→Int→Int→(List TVal)→(List TVal)→(List Int)→Option ((Unit×Int×Bool)×(List TVal))
 |0,_,_,_,_,_,_,_=>none
 |n+1,t11,t13,t43,t44,o100,o101,o102=>
  cond (decide (t44<t43)) ((rdL o102 t44).bind fun y1=>(impl_within k y1 0 (t13.size:Int)).bind fun r2=>(cond (!r2) (some (true)) ((rdL o100 t44).bind fun y3=>some (decide ((IntKind.wrap .i64 (y1+(y3.2.1.size:Int)))>40)))).bind fun b4=>cond b4 (some (((),0,false),[])) (cond (inSl 0 y1 t13.size) ((rdL o100 t44).bind fun y5=>cond (lim ((ByteArray.extract t13 (Int.toNat 0) (Int.toNat y1)).size+y5.2.1.size)) (cond (lim (List.length o101+List.length [(0,(ByteArray.extract t13 (Int.toNat 0) (Int.toNat y1))++y5.2.1,())])) ((impl_FrontRead.l10 k n) t11 ((ByteArray.extract t13 (Int.toNat 0) (Int.toNat y1))++y5.2.1) t43 (IntKind.wrap .i64 (t44+1)) o100 (o101++[(0,(ByteArray.extract t13 (Int.toNat 0) (Int.toNat y1))++y5.2.1,())]) o102) none) none) none)) (some (((),t11,true),o101))
def impl_FrontRead (k:Nat) (t0:List Int) (t1:Int):Option ((Unit×Int×Bool)×(List TVal)):=
 (impl_DeltaRead k t0 t1).bind fun r6=>cond (!r6.1.2.2) (some (((),0,false),[])) ((impl_LengthRead k t0 r6.1.2.1).bind fun r7=>(cond (!r7.1.2.2) (some (true)) (some ((List.length r7.2:Int) !=(List.length r6.2:Int)))).bind fun b8=>cond b8 (some (((),0,false),[])) (impl_FrontRead.l10 k k r7.1.2.1 (⟨#[]⟩:ByteArray) (List.length r6.2:Int) 0 r7.2 [] r6.2))
def impl_SplitWide (k:Nat) (t0:Int):Option Int:=
 (impl_wideOf k t0).bind fun r1=>some r1
def impl_SplitRead.l10 (k:Nat) (L6:(List Int)→Int→Int→Int→Int→Int→(List TVal)→Option ((Unit×Int×Bool)×(List TVal))):Nat→(List Int)→Int→Int→Int→Int→Int→Int→Int→Int→Int→(List TVal)→Option ((Unit×Int×Bool)×(List TVal))
 |0,_,_,_,_,_,_,_,_,_,_,_=>none
 |n+1,t1,t2,t3,t11,t13,t14,t43,t44,t47,t48,o100=>
  cond (decide (t48<t47)) ((rdL t1 (IntKind.wrap .i64 ((IntKind.wrap .i64 (t2+(IntKind.wrap .i64 (t48*t3))))+t13))).bind fun y1=>cond (decide (0≤(IntKind.wrap .i64 (8*t48)))) ((impl_SplitRead.l10 k L6 n) t1 t2 t3 t11 t13 (bits .or .i64 t14 (shlI .i64 (IntKind.wrap .i64 y1) (IntKind.wrap .i64 (8*t48)))) t43 t44 t47 (IntKind.wrap .i64 (t48+1)) o100) none) ((impl_signed k t14 t11).bind fun r2=>cond (lim (List.length o100+List.length ([(r2,(⟨#[]⟩:ByteArray),())]:List TVal))) (L6 t1 t2 t3 t11 t43 (IntKind.wrap .i64 (t44+1)) (o100++[(r2,(⟨#[]⟩:ByteArray),())])) none)
def impl_SplitRead.l6 (k:Nat):Nat→(List Int)→Int→Int→Int→Int→Int→(List TVal)→Option ((Unit×Int×Bool)×(List TVal))
 |0,_,_,_,_,_,_,_=>none
 |n+1,t1,t2,t3,t11,t43,t44,o100=>
  cond (decide (t44<t43)) (impl_SplitRead.l10 k (impl_SplitRead.l6 k n) k t1 t2 t3 t11 t44 0 t43 t44 t11 0 o100) (some (((),IntKind.wrap .i64 (t2+(IntKind.wrap .i64 (t3*t11))),true),o100))
def impl_SplitRead (k:Nat) (t0:Int) (t1:List Int) (t2:Int) (t3:Int):Option ((Unit×Int×Bool)×(List TVal)):=
 (impl_SplitWide k t0).bind fun r3=>(cond (r3==0) (some (true)) ((impl_within k t3 0 2000).bind fun r4=>some (!r4))).bind fun b5=>(cond b5 (some (true)) ((impl_within k t2 0 (List.length t1:Int)).bind fun r6=>some (!r6))).bind fun b7=>(cond b7 (some (true)) (some (decide ((IntKind.wrap .i64 (t3*r3))>(IntKind.wrap .i64 ((List.length t1:Int)-t2)))))).bind fun b8=>cond b8 (some (((),0,false),[])) (impl_SplitRead.l6 k k t1 t2 t3 r3 t3 0 [])
def impl_PlacesRead.l7 (k:Nat):Nat→Int→Int→Int→Int→(List Int)→Option ((Unit×Int×Bool)×(List Int))
 |0,_,_,_,_,_=>none
 |n+1,t3,t12,t39,t40,o100=>
  cond (decide (t40<t39)) ((rdL o100 t40).bind fun y1=>cond (decide (y1≥t3)) (some (((),0,false),[])) ((impl_PlacesRead.l7 k n) t3 t12 t39 (IntKind.wrap .i64 (t40+1)) o100)) (some (((),t12,true),o100))
def impl_PlacesRead (k:Nat) (t0:List Int) (t1:Int) (t2:Int) (t3:Int):Option ((Unit×Int×Bool)×(List Int)):=
 (impl_within k t1 0 (IntKind.wrap .i64 ((List.length t0:Int)-1))).bind fun r2=>cond (!r2) (some (((),0,false),[])) ((rdL t0 t1).bind fun y3=>(impl_RunRead k t0 (IntKind.wrap .i64 (t1+1)) t2 (IntKind.wrap .i64 y3)).bind fun r4=>cond (!r4.1.2.2) (some (((),0,false),[])) (impl_PlacesRead.l7 k k t3 r4.1.2.1 (List.length r4.2:Int) 0 r4.2))
def impl_DictAt.l5 (k:Nat):Nat→(List TVal)→(List Int)→Int→Int→(List TVal)→Option ((Unit×Bool)×(List TVal))
 |0,_,_,_,_,_=>none
 |n+1,t0,t13,t14,t15,o100=>
  cond (decide (t15<t14)) ((rdL t13 t15).bind fun y1=>(impl_within k y1 0 (IntKind.wrap .i64 ((List.length t0:Int)-1))).bind fun r2=>cond (!r2) (some (((),false),[])) ((rdL t0 y1).bind fun y3=>cond (lim (List.length o100+List.length [y3])) ((impl_DictAt.l5 k n) t0 t13 t14 (IntKind.wrap .i64 (t15+1)) (o100++[y3])) none)) (some (((),true),o100))
def impl_DictAt (k:Nat) (t0:List TVal) (t1:List Int):Option ((Unit×Bool)×(List TVal)):=
 cond (decide ((List.length t1:Int)>2000)) (some (((),false),[])) (impl_DictAt.l5 k k t0 t1 (List.length t1:Int) 0 [])
def impl_encValues (k:Nat) (t0:Int) (t1:Int) (t2:List Int) (t3:Int) (t4:List TVal):Option ((Unit×Int×Bool)×(List TVal)):=
 cond (t0==0) ((impl_PlainRead k t1 t2 0 t3).bind fun r1=>some (((),r1.1.2.1,r1.1.2.2),r1.2)) (cond (t0==5) ((impl_DeltaRead k t2 0).bind fun r2=>(impl_valsOf k r2.2).bind fun r3=>some (((),r2.1.2.1,r2.1.2.2),r3.2)) (cond (t0==6) ((impl_LengthRead k t2 0).bind fun r4=>some (((),r4.1.2.1,r4.1.2.2),r4.2)) (cond (t0==7) ((impl_FrontRead k t2 0).bind fun r5=>some (((),r5.1.2.1,r5.1.2.2),r5.2)) (cond (t0==9) ((impl_SplitRead k t1 t2 0 t3).bind fun r6=>some (((),r6.1.2.1,r6.1.2.2),r6.2)) (cond (t0==8) ((impl_PlacesRead k t2 0 t3 (List.length t4:Int)).bind fun r7=>(impl_DictAt k t4 r7.2).bind fun r8=>(cond r7.1.2.2 (some (r8.1.2)) (some (false))).bind fun b9=>some (((),r7.1.2.1,b9),r8.2)) ((impl_WordGet k t2 0 4).bind fun r10=>(cond (!r10.2.2) (some (true)) (some (r10.1 !=(IntKind.wrap .i64 ((List.length t2:Int)-r10.2.1))))).bind fun b11=>cond b11 (some (((),0,false),[])) ((impl_RunRead k t2 r10.2.1 t3 1).bind fun r12=>(impl_valsOf k r12.2).bind fun r13=>some (((),r12.1.2.1,r12.1.2.2),r13.2))))))))
def impl_EncRead (k:Nat) (t0:Int) (t1:Int) (t2:List Int) (t3:Int) (t4:List TVal):Option ((Unit×Bool)×(List TVal)):=
 (impl_EncOk k t0 t1).bind fun r1=>(cond (!r1) (some (true)) ((impl_within k t3 0 2000).bind fun r2=>some (!r2))).bind fun b3=>cond b3 (some (((),false),[])) ((cond (t0==8) (some (t3==0)) (some (false))).bind fun b4=>(cond b4 (some ((List.length t2:Int)==0)) (some (false))).bind fun b5=>cond b5 (some (((),true),[])) ((impl_encValues k t0 t1 t2 t3 t4).bind fun r6=>(cond (!r6.1.2.2) (some (true)) (some (r6.1.2.1 !=(List.length t2:Int)))).bind fun b7=>(cond b7 (some (true)) (some ((List.length r6.2:Int) !=t3))).bind fun b8=>(cond b8 (some (true)) ((impl_valsOk k t1 r6.2).bind fun r9=>some (!r9))).bind fun b10=>cond b10 (some (((),false),[])) (some (((),true),r6.2))))
def impl_PageRead.c21 (k:Nat) (L16:(List TVal)→Int→Int→TLeaf→THead→(List TTriple)→Option ((Unit×Int×Int)×(List TTriple))) (t20:List TVal) (t108:Int) (t109:Int) (o100:TLeaf) (o101:THead) (o102:List TTriple):Option ((Unit×Int×Int)×(List TTriple)):=
 L16 t20 t108 (IntKind.wrap .i64 (t109+1)) o100 o101 o102
def impl_PageRead.l16 (k:Nat):Nat→(List TVal)→Int→Int→TLeaf→THead→(List TTriple)→Option ((Unit×Int×Int)×(List TTriple))
 |0,_,_,_,_,_,_=>none
 |n+1,t20,t108,t109,o100,o101,o102=>
  cond (decide (t109<t108)) ((rdL o102 t109).bind fun y1=>cond (y1.2.1==o100.2.2.1) ((rdL t20 0).bind fun y2=>(rdL o102 t109).bind fun y3=>(rdL o102 t109).bind fun y4=>cond (inSl 1 ((List.length t20):Int) (List.length t20)) (impl_PageRead.c21 k (impl_PageRead.l16 k n) (cutL t20 1 ((List.length t20):Int)) t108 t109 o100 o101 (List.set o102 (Int.toNat t109) (y4.1,y4.2.1,y2,()))) none) (impl_PageRead.c21 k (impl_PageRead.l16 k n) t20 t108 t109 o100 o101 o102)) (some (((),IntKind.wrap .i64 (o101.2.2.2.2.2.2.2.2.2.2.2.2.1+o101.2.1),0),o102))
def impl_PageRead.d10 (k:Nat) (t3:List TVal) (t16:List Int) (t19:Int) (o100:TLeaf) (o101:THead) (o102:List TTriple):Option ((Unit×Int×Int)×(List TTriple)):=
 cond (o101.1==3) ((impl_RowsOf k o102).bind fun r5=>cond (r5 !=o101.2.2.2.2.1) (cond true (some (((),0,4),[])) ((impl_EncRead k o101.2.2.2.1 o100.1 t16 (IntKind.wrap .i64 (o101.2.2.1-t19)) t3).bind fun r6=>cond (!r6.1.2) (some (((),0,5),[])) (impl_PageRead.l16 k k r6.2 (List.length o102:Int) 0 o100 o101 o102))) (cond (t19 !=o101.2.2.2.2.2.1) (some (((),0,4),[])) ((impl_EncRead k o101.2.2.2.1 o100.1 t16 (IntKind.wrap .i64 (o101.2.2.1-t19)) t3).bind fun r7=>cond (!r7.1.2) (some (((),0,5),[])) (impl_PageRead.l16 k k r7.2 (List.length o102:Int) 0 o100 o101 o102)))) (cond false (some (((),0,4),[])) ((impl_EncRead k o101.2.2.2.1 o100.1 t16 (IntKind.wrap .i64 (o101.2.2.1-t19)) t3).bind fun r8=>cond (!r8.1.2) (some (((),0,5),[])) (impl_PageRead.l16 k k r8.2 (List.length o102:Int) 0 o100 o101 o102)))
def impl_PageRead (k:Nat) (t0:TLeaf) (t1:List Int) (t2:Int) (t3:List TVal):Option ((Unit×Int×Int)×(List TTriple)):=
 (impl_checked k t0 t1 t2).bind fun r17=>(cond (r17.1.1==2) ((cond (r17.2.2==0) (some (true)) (some (r17.2.2==3))).bind fun b18=>some (b18)) (some (false))).bind fun b19=>cond b19 (some (((),0,1),[])) (cond (r17.2.2 !=0) (some (((),0,r17.2.2),[])) ((impl_pageLevels k t0 r17.1 r17.2.1).bind fun r20=>(cond (!r20.1.2.2.2) (some (true)) ((cond (decide ((List.length r20.2.1:Int)>0)) ((rdL r20.2.1 0).bind fun y21=>some (y21 !=0)) (some (false))).bind fun b22=>some (b22))).bind fun b23=>cond b23 (some (((),0,4),[])) ((impl_tripled k t0 r20.2.1 r20.2.2).bind fun r24=>impl_PageRead.d10 k t3 r20.1.2.2.1 r24.1.2 t0 r17.1 r24.2)))
def impl_DictRead (k:Nat) (t0:Int) (t1:List Int) (t2:Int):Option ((Unit×Int×Int)×(List TVal)):=
 (impl_checked k (t0,0,0,()) t1 t2).bind fun r1=>(cond (r1.2.2==0) (some (true)) (some (r1.2.2==3))).bind fun b2=>(cond b2 ((cond (r1.1.1 !=2) (some (true)) ((cond (r1.1.2.2.2.1 !=0) (some (r1.1.2.2.2.1 !=2)) (some (false))).bind fun b3=>some (b3))).bind fun b4=>some (b4)) (some (false))).bind fun b5=>cond b5 (some (((),0,1),[])) (cond (r1.2.2 !=0) (some (((),0,r1.2.2),[])) ((impl_PlainRead k t0 r1.2.1 0 r1.1.2.2.1).bind fun r6=>(cond (!r6.1.2.2) (some (true)) (some (r6.1.2.1 !=(List.length r1.2.1:Int)))).bind fun b7=>cond b7 (some (((),0,5),[])) (some (((),IntKind.wrap .i64 (r1.1.2.2.2.2.2.2.2.2.2.2.2.2.1+r1.1.2.1),0),r6.2))))
def impl_ChunkPages.l11 (k:Nat):Nat→(List Int)→Int→Int→TLeaf→TChunk→(List TVal)→(List Int)→Option ((Unit×Unit×Int)×(List Int)×(List TVal))
 |0,_,_,_,_,_,_,_=>none
 |n+1,t1,t14,t15,o100,o101,o102,o103=>
  cond (decide (t14<o101.2.2.2.1)) ((impl_HeadRead k o100 t1 t15).bind fun r1=>cond (r1.2 !=0) (some (((),(),r1.2),([],[]))) ((cond (r1.1.1==2) (some (true)) (some (r1.1.2.2.1==0))).bind fun b2=>(cond b2 (some (true)) (some (decide ((IntKind.wrap .i64 (t14+r1.1.2.2.1))>o101.2.2.2.1)))).bind fun b3=>cond b3 (some (((),(),1),([],[]))) (cond (lim (List.length o103+List.length [t15])) ((impl_ChunkPages.l11 k n) t1 (IntKind.wrap .i64 (t14+r1.1.2.2.1)) (IntKind.wrap .i64 (r1.1.2.2.2.2.2.2.2.2.2.2.2.2.1+r1.1.2.1)) o100 o101 o102 (o103++[t15])) none))) (some (((),(),0),(o103,o102)))
def impl_ChunkPages.c9 (k:Nat) (t1:List Int) (o100:TLeaf) (o101:TChunk) (o102:List TVal):Option ((Unit×Unit×Int)×(List Int)×(List TVal)):=
 impl_ChunkPages.l11 k k t1 0 o101.2.1 o100 o101 o102 []
def impl_ChunkPages (k:Nat) (t0:TLeaf) (t1:List Int) (t2:TChunk):Option ((Unit×Unit×Int)×(List Int)×(List TVal)):=
 (cond (decide (t2.2.1<0)) (some (true)) (some (decide (t2.2.2.1<(-1))))).bind fun b4=>cond b4 (some (((),(),1),([],[]))) (cond (decide (t2.2.2.1≥0)) ((impl_DictRead k t0.1 t1 t2.2.2.1).bind fun r5=>cond (r5.1.2.2 !=0) (some (((),(),r5.1.2.2),([],[]))) (impl_ChunkPages.c9 k t1 t0 t2 r5.2)) (impl_ChunkPages.c9 k t1 t0 t2 []))
def impl_ChunkRead.l6 (k:Nat):Nat→(List Int)→Int→Int→TLeaf→(List TVal)→(List TTriple)→(List Int)→Option ((Unit×Int)×(List TTriple))
 |0,_,_,_,_,_,_,_=>none
 |n+1,t1,t30,t31,o100,o101,o102,o103=>
  cond (decide (t31<t30)) ((rdL o103 t31).bind fun y1=>(impl_PageRead k o100 t1 y1 o101).bind fun r2=>cond (r2.1.2.2 !=0) (some (((),r2.1.2.2),[])) (cond (lim (List.length o102+List.length r2.2)) ((impl_ChunkRead.l6 k n) t1 t30 (IntKind.wrap .i64 (t31+1)) o100 o101 (o102++r2.2) o103) none)) (some (((),0),o102))
def impl_ChunkRead (k:Nat) (t0:TLeaf) (t1:List Int) (t2:TChunk):Option ((Unit×Int)×(List TTriple)):=
 (impl_ChunkPages k t0 t1 t2).bind fun r3=>cond (r3.1.2.2 !=0) (some (((),r3.1.2.2),[])) (impl_ChunkRead.l6 k k t1 (List.length r3.2.1:Int) 0 t0 r3.2.2 [] r3.2.1)
def laws_eqIntS.l4 (k:Nat):Nat→(List Int)→(List Int)→Int→Option Bool
 |0,_,_,_=>none
 |n+1,t0,t1,t5=>
  cond (decide (t5<(List.length t0:Int))) ((rdL t0 t5).bind fun y1=>(rdL t1 t5).bind fun y2=>cond (y1 !=y2) (some false) ((laws_eqIntS.l4 k n) t0 t1 (IntKind.wrap .i64 (t5+1)))) (some true)
def laws_eqIntS (k:Nat) (t0:List Int) (t1:List Int):Option Bool:=
 cond ((List.length t0:Int) !=(List.length t1:Int)) (some false) (laws_eqIntS.l4 k k t0 t1 0)
def laws_eqChunk (k:Nat) (t0:TChunk) (t1:TChunk):Option Bool:=
 cond (t0.1 !=t1.1) (some false) (cond (t0.2.1 !=t1.2.1) (some false) (cond (t0.2.2.1 !=t1.2.2.1) (some false) (cond (t0.2.2.2.1 !=t1.2.2.2.1) (some false) (cond (t0.2.2.2.2.1 !=t1.2.2.2.2.1) (some false) ((laws_eqIntS k t0.2.2.2.2.2.1 t1.2.2.2.2.2.1).bind fun r1=>cond (!r1) (some false) (some true))))))
def laws_markIntS.l2 (k:Nat):Nat→Int→Int→(List Int)→Option (Int×(List Int))
 |0,_,_,_=>none
 |n+1,t1,t5,o10=>
  cond (decide (t5<(List.length o10:Int))) ((rdL o10 t5).bind fun y1=>(rdL o10 t5).bind fun y2=>(laws_markIntS.l2 k n) (IntKind.wrap .i64 (t1+1)) (IntKind.wrap .i64 (t5+1)) (List.set o10 (Int.toNat t5) t1)) (some (t1,o10))
def laws_markIntS (k:Nat) (t1:Int) (o10:List Int):Option (Int×(List Int)):=
 laws_markIntS.l2 k k t1 0 o10
def laws_markChunk (k:Nat) (t0:Int×Int×Int×Int×Int×Unit×Unit) (t1:Int) (o10:List Int):Option (Int×(List Int)):=
 (laws_markIntS k t1 o10).bind fun r1=>some (r1.1,r1.2)
def laws_FnExactChunkRead.d30 (k:Nat) (t1:List Int) (t9:Int) (t15:Int) (o100:TLeaf) (o101:TChunk) (o102:List TTriple) (o103:List TTriple):Option Bool:=
 (laws_toLeaf k o100).bind fun r1=>(laws_toByteS k t1).bind fun r2=>(laws_toChunk k o101).bind fun r3=>(impl_ChunkRead k r1 r2.2 (r3.1.1,r3.1.2.1,r3.1.2.2.1,r3.1.2.2.2.1,r3.1.2.2.2.2.1,r3.2,())).bind fun r4=>(laws_eqTripleS k r4.2 o102).bind fun r5=>(cond (!r5) (some (true)) (some (r4.1.2 !=t9))).bind fun b6=>cond b6 (some false) ((laws_heldTripleS k o103 1).bind fun r7=>cond (decide (r7<0)) (some false) (cond (r7 !=t15) (some false) (some true)))
def laws_FnExactChunkRead.d15 (k:Nat) (t1:List Int) (t9:Int) (t13:Int) (o100:TLeaf) (o101:TChunk) (o102:List TTriple) (o103:List Int) (o104:Int×Int×Int×Int×Int×Unit×Unit) (o105:List TTriple) (o106:List Int):Option Bool:=
 (laws_toChunk k o101).bind fun r36=>(laws_eqChunk k (o104.1,o104.2.1,o104.2.2.1,o104.2.2.2.1,o104.2.2.2.2.1,o106,()) (r36.1.1,r36.1.2.1,r36.1.2.2.1,r36.1.2.2.2.1,r36.1.2.2.2.2.1,r36.2,())).bind fun r37=>cond (!r37) (some false) ((laws_markByteS k 1 o103).bind fun r38=>(laws_markChunk k o104 r38.1 o106).bind fun r39=>(cond (decide (r39.1<0)) (some (true)) ((laws_eqTripleS k o105 o102).bind fun r40=>some (!r40))).bind fun b41=>(cond b41 (some (true)) (some (t13 !=t9))).bind fun b42=>cond b42 (some false) ((laws_markTripleS k 1 o105).bind fun r43=>(laws_heldTripleS k r43.2 1).bind fun r44=>cond (decide (r44<0)) (some false) (cond (r44 !=r43.1) (some false) (laws_FnExactChunkRead.d30 k t1 t9 r43.1 o100 o101 o102 r43.2))))
def laws_FnExactChunkRead.d10 (k:Nat) (t1:List Int) (t9:Int) (o100:TLeaf) (o101:TChunk) (o102:List TTriple) (o103:List Int) (o104:Int×Int×Int×Int×Int×Unit×Unit) (o105:List Int):Option Bool:=
 (laws_toLeaf k o100).bind fun r72=>(impl_ChunkRead k r72 o103 (o104.1,o104.2.1,o104.2.2.1,o104.2.2.2.1,o104.2.2.2.2.1,o105,())).bind fun r73=>(laws_eqTripleS k r73.2 o102).bind fun r74=>(cond (!r74) (some (true)) (some (r73.1.2 !=t9))).bind fun b75=>cond b75 (some false) ((laws_toByteS k t1).bind fun r76=>(laws_eqByteS k o103 r76.2).bind fun r77=>cond (!r77) (some false) (laws_FnExactChunkRead.d15 k t1 t9 r73.1.2 o100 o101 o102 o103 o104 r73.2 o105))
def laws_FnExactChunkRead.d7 (k:Nat) (t1:List Int) (o100:TLeaf) (o101:TChunk):Option Bool:=
 (laws_toLeaf k o100).bind fun r96=>(laws_toByteS k t1).bind fun r97=>(laws_toChunk k o101).bind fun r98=>(spec_ChunkRead k r96 r97.2 (r98.1.1,r98.1.2.1,r98.1.2.2.1,r98.1.2.2.2.1,r98.1.2.2.2.2.1,r98.2,())).bind fun r99=>(laws_toByteS k t1).bind fun r100=>(laws_toChunk k o101).bind fun r101=>laws_FnExactChunkRead.d10 k t1 r99.1.2 o100 o101 r99.2 r100.2 r101.1 r101.2
def laws_FnExactChunkRead (k:Nat) (t0:TLeaf) (t1:List Int) (t2:TChunk):Option Bool:=
 cond (decide ((List.length t1:Int)>1048576)) (some true) ((laws_szChunk k t2 1048576).bind fun r126=>cond (decide (r126<0)) (some true) (laws_FnExactChunkRead.d7 k t1 t0 t2))
end Go.Fn
