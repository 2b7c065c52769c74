/- the claim's functions as plain Lean -/
import Derived.Test.YtohaijhiclmkkaaGreatAmStep
set_option linter.unusedVariables false
namespace Go.Fn
open Go.Am
abbrev TMetaReader:=Unit×Bool×Unit
abbrev TLeaf:=Int×Int×Int×Unit
abbrev TVal:=Int×ByteArray×Unit
abbrev THeadReader:=Unit×Int×Bool×Unit
abbrev TCol:=ByteArray×Int×Int×Int×Unit
abbrev TTreeReaderB:=(List Int)×Int×Unit×Int×Unit
abbrev TRec:=(List TVal)×Unit
abbrev TNode:=Int×Int×Int×ByteArray×Int×Unit
abbrev TTriple:=Int×Int×TVal×Unit
abbrev TDeltaReader:=(List Int)×Int×Bool×(List Int)×Unit
abbrev TChunk:=Int×Int×Int×Int×Int×(List Int)×Unit
abbrev TPred:=Int×Int×TVal×Int×Int×Unit
abbrev TColumn:=(List TTriple)×Unit
abbrev TTreeB:=(List TNode)×Unit×Unit
abbrev TGroupMeta:=Int×(List TChunk)×Unit
abbrev TTree:=(List TNode)×(List Int)×Unit
abbrev TStats:=Int×Bool×TVal×TVal×Unit
abbrev TTreeReader:=(List Int)×Int×(List TNode)×Int×Unit
abbrev TKnown:=Bool×TStats×Unit
abbrev TWalker:=(List TCol)×(List TVal)×Bool×Unit×Unit×Unit
abbrev TStripe:=Int×(List TKnown)×(List Int)×Unit
abbrev TMeta:=(List TCol)×Int×(List TGroupMeta)×Unit
abbrev THead:=Int×Int×Int×Int×Int×Int×Int×Int×Bool×Int×Bool×TStats×Int×Unit
abbrev TJoiner:=(List TCol)×(List TColumn)×(List Int)×(List Int)×(List TVal)×Bool×Bool×Unit
def laws_toByteS.l3 (k:Nat):Nat→(List Int)→Int→(List Int)→Option (Unit×(List Int))
 |0,_,_,_=>none
 |n+1,t0,t4,o100=>
  cond (decide (t4<(List.length t0:Int))) ((rdL t0 t4).bind fun y1=>(rdL o100 t4).bind fun y2=>(rdL o100 t4).bind fun y3=>(laws_toByteS.l3 k n) t0 (IntKind.wrap .i64 (t4+1)) (List.set o100 (Int.toNat t4) y1)) (some ((),o100))
def laws_toByteS (k:Nat) (t0:List Int):Option (Unit×(List Int)):=
 cond (okLen (List.length t0:Int)) (laws_toByteS.l3 k k t0 0 (List.replicate (Int.toNat (List.length t0:Int)) 0)) none
def laws_eqByteS.l4 (k:Nat):Nat→(List Int)→(List Int)→Int→Option Bool
 |0,_,_,_=>none
 |n+1,t0,t1,t5=>
  cond (decide (t5<(List.length t0:Int))) ((rdL t0 t5).bind fun y1=>(rdL t1 t5).bind fun y2=>cond (y1 !=y2) (some false) ((laws_eqByteS.l4 k n) t0 t1 (IntKind.wrap .i64 (t5+1)))) (some true)
def laws_eqByteS (k:Nat) (t0:List Int) (t1:List Int):Option Bool:=
 cond ((List.length t0:Int) !=(List.length t1:Int)) (some false) (laws_eqByteS.l4 k k t0 t1 0)
def spec_l1In (k:Nat) (t0:Int) (t1:Int) (t2:Int):Option Bool:=
 (cond (decide (t0≥t1)) (some (decide (t0≤t2))) (some (false))).bind fun b1=>some b1
def spec_WordGet.l5 (k:Nat):Nat→(List Int)→Int→Int→Int→Int→Option (Int×Int×Bool)
 |0,_,_,_,_,_=>none
 |n+1,t0,t1,t2,t9,t10=>
  cond (decide (t10<t2)) ((rdL t0 (IntKind.wrap .i64 (t1+t10))).bind fun y1=>cond (decide (0≤(IntKind.wrap .i64 (8*t10)))) ((spec_WordGet.l5 k n) t0 t1 t2 (bits .or .i64 t9 (shlI .i64 (IntKind.wrap .i64 y1) (IntKind.wrap .i64 (8*t10)))) (IntKind.wrap .i64 (t10+1))) none) (some (t9,IntKind.wrap .i64 (t1+t2),true))
def spec_WordGet (k:Nat) (t0:List Int) (t1:Int) (t2:Int):Option (Int×Int×Bool):=
 (spec_l1In k t2 1 8).bind fun r2=>(cond (!r2) (some (true)) (some (decide (t1<0)))).bind fun b3=>(cond b3 (some (true)) (some (decide (t1>(List.length t0:Int))))).bind fun b4=>(cond b4 (some (true)) (some (decide ((IntKind.wrap .i64 ((List.length t0:Int)-t1))<t2)))).bind fun b5=>cond b5 (some (0,0,false)) (spec_WordGet.l5 k k t0 t1 t2 0 0)
def spec_UvarGet.l5 (k:Nat):Nat→(List Int)→Int→Int→Int→Option (Int×Int×Bool)
 |0,_,_,_,_=>none
 |n+1,t0,t1,t7,t8=>
  (cond (decide (t8<10)) (some (decide ((IntKind.wrap .i64 (t1+t8))<(List.length t0:Int)))) (some (false))).bind fun b1=>cond b1 ((rdL t0 (IntKind.wrap .i64 (t1+t8))).bind fun y2=>cond (decide (0≤(IntKind.wrap .i64 (7*t8)))) (cond (decide ((IntKind.wrap .i64 y2)<128)) ((cond (t8==9) (some (decide ((IntKind.wrap .i64 y2)>1))) (some (false))).bind fun b3=>cond b3 (some (0,0,false)) (some (bits .or .i64 t7 (shlI .i64 (bits .and .i64 (IntKind.wrap .i64 y2) 127) (IntKind.wrap .i64 (7*t8))),IntKind.wrap .i64 ((IntKind.wrap .i64 (t1+t8))+1),true))) ((spec_UvarGet.l5 k n) t0 t1 (bits .or .i64 t7 (shlI .i64 (bits .and .i64 (IntKind.wrap .i64 y2) 127) (IntKind.wrap .i64 (7*t8)))) (IntKind.wrap .i64 (t8+1)))) none) (some (0,0,false))
def spec_UvarGet (k:Nat) (t0:List Int) (t1:Int):Option (Int×Int×Bool):=
 (cond (decide (t1<0)) (some (true)) (some (decide (t1≥(List.length t0:Int))))).bind fun b4=>cond b4 (some (0,0,false)) (spec_UvarGet.l5 k k t0 t1 0 0)
def spec_l2Down (k:Nat) (t0:Int) (t1:Int):Option Int:=
 cond (t1==0) (some t0) (cond (decide (0≤t1)) (cond (decide (0≤(IntKind.wrap .i64 (64-t1)))) (some (bits .and .i64 (shrI .i64 t0 t1) (IntKind.wrap .i64 ((shlI .i64 1 (IntKind.wrap .i64 (64-t1)))-1)))) none) none)
def spec_Zag (k:Nat) (t0:Int):Option Int:=
 cond ((bits .and .i64 t0 1)==1) ((spec_l2Down k t0 1).bind fun r1=>some (bits .xor .i64 (-1) r1)) ((spec_l2Down k t0 1).bind fun r2=>some r2)
def spec_ZigGet (k:Nat) (t0:List Int) (t1:Int):Option (Int×Int×Bool):=
 (spec_UvarGet k t0 t1).bind fun r1=>cond (!r1.2.2) (some (0,0,false)) ((spec_Zag k r1.1).bind fun r2=>some (r2,r1.2.1,true))
def spec_l4Int (k:Nat) (t0:Int):Option Bool:=
 (spec_l1In k t0 (-2147483648) 2147483647).bind fun r1=>some r1
def spec_l4Text (k:Nat) (t0:List Int) (t1:Int):Option (ByteArray×Int×Int):=
 (spec_UvarGet k t0 t1).bind fun r1=>cond (!r1.2.2) (some ((⟨#[]⟩:ByteArray),0,1)) ((cond (decide (r1.1<0)) (some (true)) (some (decide (r1.1>300)))).bind fun b2=>cond b2 (some ((⟨#[]⟩:ByteArray),0,4)) (cond (decide ((IntKind.wrap .i64 ((List.length t0:Int)-r1.2.1))<r1.1)) (some ((⟨#[]⟩:ByteArray),0,1)) (cond (inSl r1.2.1 (IntKind.wrap .i64 (r1.2.1+r1.1)) (List.length t0)) (some (intsStr (cutL t0 r1.2.1 (IntKind.wrap .i64 (r1.2.1+r1.1))),IntKind.wrap .i64 (r1.2.1+r1.1),0)) none)))
def spec_l4Kind.c9 (k:Nat) (t4:Bool):Option Bool:=
 cond t4 (some true) (some false)
def spec_l4Kind (k:Nat) (t0:Int):Option Bool:=
 cond (t0==1) (spec_l4Kind.c9 k (t0==1)) (cond (t0==2) (spec_l4Kind.c9 k (t0==2)) (cond (t0==5) (spec_l4Kind.c9 k (t0==5)) (cond (t0==6) (spec_l4Kind.c9 k (t0==6)) (cond (t0==8) (spec_l4Kind.c9 k (t0==8)) (cond (t0==9) (spec_l4Kind.c9 k (t0==9)) (spec_l4Kind.c9 k (t0==12)))))))
def spec_l4Item (k:Nat) (t0:Int):Option Bool:=
 (spec_l4Kind k t0).bind fun r1=>(cond r1 (some (t0 !=1)) (some (false))).bind fun b2=>(cond b2 (some (t0 !=2)) (some (false))).bind fun b3=>some b3
def spec_l4Many.c11 (k:Nat) (t1:Int) (t8:Int) (t9:Int):Option (Int×Int×Int×Int):=
 cond (t8==0) (some (0,0,t1,0)) ((spec_l4Item k t9).bind fun r1=>cond (!r1) (some (0,0,0,2)) ((cond (decide (t8<0)) (some (true)) (some (decide (t8>1500)))).bind fun b2=>cond b2 (some (0,0,0,4)) (some (t8,t9,t1,0))))
def spec_l4Many (k:Nat) (t0:List Int) (t1:Int):Option (Int×Int×Int×Int):=
 cond (decide (t1≥(List.length t0:Int))) (some (0,0,0,1)) ((rdL t0 t1).bind fun y3=>(rdL t0 t1).bind fun y4=>cond ((IntKind.wrap .i64 (Int.tdiv (IntKind.wrap .i64 y3) 16))==15) ((spec_UvarGet k t0 (IntKind.wrap .i64 (t1+1))).bind fun r5=>cond (!r5.2.2) (some (0,0,0,1)) (spec_l4Many.c11 k r5.2.1 r5.1 (Int.tmod (IntKind.wrap .i64 y4) 16))) (spec_l4Many.c11 k (IntKind.wrap .i64 (t1+1)) (IntKind.wrap .i64 (Int.tdiv (IntKind.wrap .i64 y3) 16)) (Int.tmod (IntKind.wrap .i64 y4) 16)))
def spec_l4Head.c16 (k:Nat) (t1:Int) (t2:Int) (t10:Int) (t12:Int):Option (Int×Int×Int×Int):=
 (spec_l1In k t12 1 1000).bind fun r1=>cond (!r1) (some (0,0,0,3)) (cond (decide (t12≤t2)) (some (0,0,0,5)) (some (t10,t12,t1,0)))
def spec_l4Head (k:Nat) (t0:List Int) (t1:Int) (t2:Int):Option (Int×Int×Int×Int):=
 cond (decide (t1≥(List.length t0:Int))) (some (0,0,0,1)) ((rdL t0 t1).bind fun y2=>(rdL t0 t1).bind fun y3=>(rdL t0 t1).bind fun y4=>cond (y4==0) (some (0,0,IntKind.wrap .i64 (t1+1),0)) ((spec_l4Kind k (Int.tmod (IntKind.wrap .i64 y2) 16)).bind fun r5=>cond (!r5) (some (0,0,0,2)) (cond ((IntKind.wrap .i64 (Int.tdiv (IntKind.wrap .i64 y3) 16))==0) ((spec_ZigGet k t0 (IntKind.wrap .i64 (t1+1))).bind fun r6=>cond (!r6.2.2) (some (0,0,0,1)) (spec_l4Head.c16 k r6.2.1 t2 (Int.tmod (IntKind.wrap .i64 y2) 16) r6.1)) (spec_l4Head.c16 k (IntKind.wrap .i64 (t1+1)) t2 (Int.tmod (IntKind.wrap .i64 y2) 16) (IntKind.wrap .i64 (t2+(IntKind.wrap .i64 (Int.tdiv (IntKind.wrap .i64 y3) 16))))))))
def spec_l4Read.l24 (k:Nat) (S162:(List Int)→Int→Int→Int→Int→(List TNode)→Option ((Unit×Int×Int)×(List TNode))):Nat→(List Int)→Int→Int→Int→Int→Int→Int→(List TNode)→Option ((Unit×Int×Int)×(List TNode))
 |0,_,_,_,_,_,_,_,_=>none
 |n+1,t0,t4,t22,t23,t24,t25,t26,o100=>
  (cond (decide (t26<t22)) (some (t25==0)) (some (false))).bind fun b1=>cond b1 ((S162 t0 t24 t23 0 (IntKind.wrap .i64 (t4+1)) o100).bind fun r2=>(spec_l4Read.l24 k S162 n) t0 t4 t22 t23 r2.1.2.1 r2.1.2.2 (IntKind.wrap .i64 (t26+1)) r2.2) (some (((),t24,t25),o100))
def spec_l4Read.l30 (k:Nat) (S162:(List Int)→Int→Int→Int→Int→(List TNode)→Option ((Unit×Int×Int)×(List TNode))):Nat→(List Int)→Int→Int→Int→Int→Int→(List TNode)→Option ((Unit×Int×Int)×(List TNode))
 |0,_,_,_,_,_,_,_=>none
 |n+1,t0,t1,t4,t15,t27,t28,o100=>
  (spec_l4Head k t0 t1 t27).bind fun r3=>cond (r3.2.2.2 !=0) (some (((),0,r3.2.2.2),o100)) (cond (r3.1==0) ((rdL o100 t15).bind fun y4=>(rdL o100 t15).bind fun y5=>some (((),r3.2.2.1,0),List.set o100 (Int.toNat t15) (y5.1,y5.2.1,y5.2.2.1,y5.2.2.2.1,t28,()))) ((S162 t0 r3.2.2.1 r3.1 r3.2.1 (IntKind.wrap .i64 (t4+1)) o100).bind fun r6=>cond (r6.1.2.2 !=0) (some (((),0,r6.1.2.2),r6.2)) ((spec_l4Read.l30 k S162 n) t0 r6.1.2.1 t4 t15 r3.2.1 (IntKind.wrap .i64 (t28+1)) r6.2)))
def spec_l4Read.c8 (k:Nat) (S162:(List Int)→Int→Int→Int→Int→(List TNode)→Option ((Unit×Int×Int)×(List TNode))) (t0:List Int) (t1:Int) (t2:Int) (t4:Int) (t15:Int) (t49:Int) (t50:Bool) (o100:List TNode):Option ((Unit×Int×Int)×(List TNode)):=
 cond t50 ((spec_ZigGet k t0 t1).bind fun r7=>cond (!r7.2.2) (some (((),0,1),o100)) ((cond (t2==5) ((spec_l4Int k r7.1).bind fun r8=>some (!r8)) (some (false))).bind fun b9=>cond b9 (some (((),0,3),o100)) ((rdL o100 t15).bind fun y10=>(rdL o100 t15).bind fun y11=>some (((),r7.2.1,0),List.set o100 (Int.toNat t15) (y11.1,y11.2.1,r7.1,y11.2.2.2.1,y11.2.2.2.2.1,()))))) (cond (t49==8) ((spec_l4Text k t0 t1).bind fun r12=>(rdL o100 t15).bind fun y13=>(rdL o100 t15).bind fun y14=>some (((),r12.2.1,r12.2.2),List.set o100 (Int.toNat t15) (y14.1,y14.2.1,y14.2.2.1,r12.1,y14.2.2.2.2.1,()))) (cond (t49==9) ((spec_l4Many k t0 t1).bind fun r15=>(rdL o100 t15).bind fun y16=>(rdL o100 t15).bind fun y17=>(rdL (List.set o100 (Int.toNat t15) (y17.1,y17.2.1,y17.2.2.1,y17.2.2.2.1,r15.1,())) t15).bind fun y18=>(rdL (List.set o100 (Int.toNat t15) (y17.1,y17.2.1,y17.2.2.1,y17.2.2.2.1,r15.1,())) t15).bind fun y19=>spec_l4Read.l24 k S162 k t0 t4 r15.1 r15.2.1 r15.2.2.1 r15.2.2.2 0 (List.set (List.set o100 (Int.toNat t15) (y17.1,y17.2.1,y17.2.2.1,y17.2.2.2.1,r15.1,())) (Int.toNat t15) (y19.1,y19.2.1,r15.2.1,y19.2.2.2.1,y19.2.2.2.2.1,()))) (cond (t49==12) (spec_l4Read.l30 k S162 k t0 t1 t4 t15 0 0 o100) (some (((),t1,0),o100)))))
def spec_l4Read.b (k:Nat) (S162:(List Int)→Int→Int→Int→Int→(List TNode)→Option ((Unit×Int×Int)×(List TNode))) (t0:List Int) (t1:Int) (t2:Int) (t3:Int) (t4:Int) (o10:List TNode):Option ((Unit×Int×Int)×(List TNode)):=
 (cond ((List.length o10:Int)==1500) (some (true)) (some (decide (t4>12)))).bind fun b20=>cond b20 (some (((),0,4),o10)) (cond (lim (List.length o10+List.length ([(t2,t3,0,(⟨#[]⟩:ByteArray),0,())]:List TNode))) (cond (t2==5) (spec_l4Read.c8 k S162 t0 t1 t2 t4 (List.length o10:Int) t2 (t2==5) (o10++[(t2,t3,0,(⟨#[]⟩:ByteArray),0,())])) (spec_l4Read.c8 k S162 t0 t1 t2 t4 (List.length o10:Int) t2 (t2==6) (o10++[(t2,t3,0,(⟨#[]⟩:ByteArray),0,())]))) none)
def spec_l4Read.rec (k:Nat):Nat→((List Int)→Int→Int→Int→Int→(List TNode)→Option ((Unit×Int×Int)×(List TNode)))
 |0=>fun _ _ _ _ _ _=>none
 |d+1=>spec_l4Read.b k ((spec_l4Read.rec k d))
def spec_l4Read.d (k d:Nat):(List Int)→Int→Int→Int→Int→(List TNode)→Option ((Unit×Int×Int)×(List TNode)):=(spec_l4Read.rec k d)
def spec_l4Read (k:Nat):(List Int)→Int→Int→Int→Int→(List TNode)→Option ((Unit×Int×Int)×(List TNode)):=spec_l4Read.d k k
def spec_TreeRead (k:Nat) (t0:List Int) (t1:Int):Option ((Unit×Int×Int)×(List TNode)):=
 (cond (decide (t1<0)) (some (true)) (some (decide (t1≥(List.length t0:Int))))).bind fun b1=>cond b1 (some (((),0,1),[])) ((spec_l4Read k t0 t1 12 0 1 []).bind fun r2=>cond (r2.1.2.2 !=0) (some (((),0,r2.1.2.2),[])) (some (((),r2.1.2.1,r2.1.2.2),r2.2)))
def spec_l5Type.c7 (k:Nat) (t4:Bool):Option Bool:=
 cond t4 (some true) (some false)
def spec_l5Type (k:Nat) (t0:Int):Option Bool:=
 cond (t0==0) (spec_l5Type.c7 k (t0==0)) (cond (t0==1) (spec_l5Type.c7 k (t0==1)) (cond (t0==2) (spec_l5Type.c7 k (t0==2)) (cond (t0==5) (spec_l5Type.c7 k (t0==5)) (spec_l5Type.c7 k (t0==6)))))
def spec_l5Name.l4 (k:Nat):Nat→ByteArray→Int→Option Bool
 |0,_,_=>none
 |n+1,t0,t3=>
  cond (decide (t3<(t0.size:Int))) ((btS t0 t3).bind fun y1=>(cond (decide (y1<97)) (some (true)) ((btS t0 t3).bind fun y2=>some (decide (y2>122)))).bind fun b3=>cond b3 (some false) ((spec_l5Name.l4 k n) t0 (IntKind.wrap .i64 (t3+1)))) (some true)
def spec_l5Name (k:Nat) (t0:ByteArray):Option Bool:=
 (spec_l1In k (t0.size:Int) 1 20).bind fun r4=>cond (!r4) (some false) (spec_l5Name.l4 k k t0 0)
def spec_l5Check.l20 (k:Nat) (S210:(List TCol)→Int→Int→Option Int) (L15:(List TCol)→Int→Int→Int→TCol→(List ByteArray)→Option Int):Nat→(List TCol)→Int→Int→Int→Int→TCol→(List ByteArray)→Option Int
 |0,_,_,_,_,_,_,_=>none
 |n+1,t0,t2,t8,t10,t11,o100,o101=>
  cond (decide (t11<(List.length o101:Int))) ((rdL o101 t11).bind fun y1=>(rdL t0 t8).bind fun y2=>cond (eqS y1 y2.1) (some (-1)) ((spec_l5Check.l20 k S210 L15 n) t0 t2 t8 t10 (IntKind.wrap .i64 (t11+1)) o100 o101)) ((rdL t0 t8).bind fun y3=>cond (lim (List.length o101+List.length [y3.1])) ((S210 t0 t8 (IntKind.wrap .i64 (t2+1))).bind fun r4=>cond (decide (r4<0)) (some (-1)) (L15 t0 t2 r4 (IntKind.wrap .i64 (t10+1)) o100 (o101++[y3.1]))) none)
def spec_l5Check.l15 (k:Nat) (S210:(List TCol)→Int→Int→Option Int):Nat→(List TCol)→Int→Int→Int→TCol→(List ByteArray)→Option Int
 |0,_,_,_,_,_,_=>none
 |n+1,t0,t2,t8,t10,o100,o101=>
  cond (decide (t10<o100.2.2.2.1)) (cond (decide (t8≥(List.length t0:Int))) (some (-1)) (spec_l5Check.l20 k S210 (spec_l5Check.l15 k S210 n) k t0 t2 t8 t10 0 o100 o101)) (some t8)
def spec_l5Check.b (k:Nat) (S210:(List TCol)→Int→Int→Option Int) (t0:List TCol) (t1:Int) (t2:Int):Option Int:=
 (cond (decide (t1≥(List.length t0:Int))) (some (true)) (some (decide (t2>6)))).bind fun b5=>cond b5 (some (-1)) ((rdL t0 t1).bind fun y6=>(cond (t1==0) ((cond (!eqS y6.1 (⟨#[]⟩:ByteArray)) (some (true)) (some (y6.2.2.1 !=0))).bind fun b7=>(cond b7 (some (true)) (some (y6.2.1 !=7))).bind fun b8=>some (b8)) (some (false))).bind fun b9=>(cond b9 (some (true)) ((cond (decide (t1>0)) ((spec_l5Name k y6.1).bind fun r10=>some (!r10)) (some (false))).bind fun b11=>some (b11))).bind fun b12=>(cond b12 (some (true)) ((spec_l1In k y6.2.2.1 0 2).bind fun r13=>some (!r13))).bind fun b14=>cond b14 (some (-1)) (cond (y6.2.1 !=7) ((spec_l5Type k y6.2.1).bind fun r15=>(cond (!r15) (some (true)) (some (y6.2.2.2.1 !=0))).bind fun b16=>cond b16 (some (-1)) (some (IntKind.wrap .i64 (t1+1)))) (cond (decide (y6.2.2.2.1<1)) (some (-1)) (spec_l5Check.l15 k S210 k t0 t2 (IntKind.wrap .i64 (t1+1)) 0 y6 []))))
def spec_l5Check.rec (k:Nat):Nat→((List TCol)→Int→Int→Option Int)
 |0=>fun _ _ _=>none
 |d+1=>spec_l5Check.b k ((spec_l5Check.rec k d))
def spec_l5Check.d (k d:Nat):(List TCol)→Int→Int→Option Int:=(spec_l5Check.rec k d)
def spec_l5Check (k:Nat):(List TCol)→Int→Int→Option Int:=spec_l5Check.d k k
def spec_SchemaOk (k:Nat) (t0:List TCol):Option Bool:=
 (spec_l1In k (List.length t0:Int) 2 20).bind fun r1=>(cond r1 ((spec_l5Check k t0 0 1).bind fun r2=>some (r2==(List.length t0:Int))) (some (false))).bind fun b3=>some b3
def spec_l5Leaves.c4 (k:Nat) (L3:(List TCol)→Int→(List Int)→Option (Unit×(List Int))) (t0:List TCol) (t4:Int) (o100:List Int):Option (Unit×(List Int)):=
 L3 t0 (IntKind.wrap .i64 (t4+1)) o100
def spec_l5Leaves.l3 (k:Nat):Nat→(List TCol)→Int→(List Int)→Option (Unit×(List Int))
 |0,_,_,_=>none
 |n+1,t0,t4,o100=>
  cond (decide (t4<(List.length t0:Int))) ((rdL t0 t4).bind fun y1=>cond (y1.2.1 !=7) (cond (lim (List.length o100+List.length [t4])) (spec_l5Leaves.c4 k (spec_l5Leaves.l3 k n) t0 t4 (o100++[t4])) none) (spec_l5Leaves.c4 k (spec_l5Leaves.l3 k n) t0 t4 o100)) (some ((),o100))
def spec_l5Leaves (k:Nat) (t0:List TCol):Option (Unit×(List Int)):=
 spec_l5Leaves.l3 k k t0 0 []
def spec_SchemaLeaves (k:Nat) (t0:List TCol):Option (Unit×(List Int)):=
 (spec_SchemaOk k t0).bind fun r1=>cond (!r1) (some ((),[])) ((spec_l5Leaves k t0).bind fun r2=>some ((),r2.2))
def spec_l18Chunk.d6 (k:Nat) (L4:Int→TChunk→Option Bool) (t5:Int) (o100:TChunk):Option Bool:=
 (rdL o100.2.2.2.2.2.1 t5).bind fun y1=>(spec_l1In k y1 0 9).bind fun r2=>cond (!r2) (cond true (some false) (L4 (IntKind.wrap .i64 (t5+1)) o100)) (cond (decide (t5>0)) ((rdL o100.2.2.2.2.2.1 (IntKind.wrap .i64 (t5-1))).bind fun y3=>(rdL o100.2.2.2.2.2.1 t5).bind fun y4=>cond (decide (y3≥y4)) (some false) (L4 (IntKind.wrap .i64 (t5+1)) o100)) (cond false (some false) (L4 (IntKind.wrap .i64 (t5+1)) o100)))
def spec_l18Chunk.l4 (k:Nat):Nat→Int→TChunk→Option Bool
 |0,_,_=>none
 |n+1,t5,o100=>
  cond (decide (t5<(List.length o100.2.2.2.2.2.1:Int))) (spec_l18Chunk.d6 k (spec_l18Chunk.l4 k n) t5 o100) (some true)
def spec_l18Chunk (k:Nat) (t0:TChunk) (t1:Int):Option Bool:=
 (cond (t0.1 !=t1) (some (true)) ((spec_l1In k t0.2.1 0 60000).bind fun r9=>some (!r9))).bind fun b10=>(cond b10 (some (true)) ((spec_l1In k t0.2.2.1 (-1) 60000).bind fun r11=>some (!r11))).bind fun b12=>(cond b12 (some (true)) ((spec_l1In k t0.2.2.2.1 1 2000).bind fun r13=>some (!r13))).bind fun b14=>(cond b14 (some (true)) ((spec_l1In k t0.2.2.2.2.1 0 60000).bind fun r15=>some (!r15))).bind fun b16=>(cond b16 (some (true)) ((spec_l1In k (List.length t0.2.2.2.2.2.1:Int) 1 5).bind fun r17=>some (!r17))).bind fun b18=>cond b18 (some false) (spec_l18Chunk.l4 k k 0 t0)
def spec_MetaOk.l13 (k:Nat) (L6:Int→Int→TMeta→(List Int)→Option Bool):Nat→Int→Int→Int→TMeta→(List Int)→TGroupMeta→Option Bool
 |0,_,_,_,_,_,_=>none
 |n+1,t4,t5,t7,o100,o101,o102=>
  cond (decide (t7<(List.length o102.2.1:Int))) ((rdL o102.2.1 t7).bind fun y1=>(spec_l18Chunk k y1 t7).bind fun r2=>cond (!r2) (some false) ((spec_MetaOk.l13 k L6 n) t4 t5 (IntKind.wrap .i64 (t7+1)) o100 o101 o102)) (L6 t4 (IntKind.wrap .i64 (t5+1)) o100 o101)
def spec_MetaOk.l6 (k:Nat):Nat→Int→Int→TMeta→(List Int)→Option Bool
 |0,_,_,_,_=>none
 |n+1,t4,t5,o100,o101=>
  cond (decide (t5<(List.length o100.2.2.1:Int))) ((rdL o100.2.2.1 t5).bind fun y3=>(spec_l1In k y3.1 1 200).bind fun r4=>(cond (!r4) (some (true)) (some ((List.length y3.2.1:Int) !=(List.length o101:Int)))).bind fun b5=>cond b5 (some false) (spec_MetaOk.l13 k (spec_MetaOk.l6 k n) k (IntKind.wrap .i64 (t4+y3.1)) t5 0 o100 o101 y3)) (some (t4==o100.2.1))
def spec_MetaOk (k:Nat) (t0:TMeta):Option Bool:=
 (spec_SchemaLeaves k t0.1).bind fun r6=>(spec_SchemaOk k t0.1).bind fun r7=>(cond (!r7) (some (true)) (some (decide ((List.length t0.2.2.1:Int)>40)))).bind fun b8=>(cond b8 (some (true)) ((spec_l1In k t0.2.1 0 200).bind fun r9=>some (!r9))).bind fun b10=>cond b10 (some false) (spec_MetaOk.l6 k k 0 0 t0 r6.2)
def spec_l4After.l3 (k:Nat) (S165:(List TNode)→Int→Option Int):Nat→(List TNode)→Int→Int→Int→Option Int
 |0,_,_,_,_=>none
 |n+1,t0,t1,t5,t6=>
  (rdL t0 t1).bind fun y1=>cond (decide (t6<y1.2.2.2.2.1)) ((S165 t0 t5).bind fun r2=>(spec_l4After.l3 k S165 n) t0 t1 r2 (IntKind.wrap .i64 (t6+1))) (some t5)
def spec_l4After.b (k:Nat) (S165:(List TNode)→Int→Option Int) (t0:List TNode) (t1:Int):Option Int:=
 spec_l4After.l3 k S165 k t0 t1 (IntKind.wrap .i64 (t1+1)) 0
def spec_l4After.rec (k:Nat):Nat→((List TNode)→Int→Option Int)
 |0=>fun _ _=>none
 |d+1=>spec_l4After.b k ((spec_l4After.rec k d))
def spec_l4After.d (k d:Nat):(List TNode)→Int→Option Int:=(spec_l4After.rec k d)
def spec_l4After (k:Nat):(List TNode)→Int→Option Int:=spec_l4After.d k k
def spec_l4Find.l5 (k:Nat):Nat→(List TNode)→Int→Int→Int→Int→Option Int
 |0,_,_,_,_,_=>none
 |n+1,t0,t1,t2,t7,t8=>
  (rdL t0 t1).bind fun y1=>cond (decide (t8<y1.2.2.2.2.1)) ((rdL t0 t7).bind fun y2=>cond (y2.2.1==t2) (some t7) ((spec_l4After k t0 t7).bind fun r3=>(spec_l4Find.l5 k n) t0 t1 t2 r3 (IntKind.wrap .i64 (t8+1)))) (some (-1))
def spec_l4Find (k:Nat) (t0:List TNode) (t1:Int) (t2:Int):Option Int:=
 (rdL t0 t1).bind fun y4=>cond (y4.1 !=12) (some (-1)) (spec_l4Find.l5 k k t0 t1 t2 (IntKind.wrap .i64 (t1+1)) 0)
def spec_l4NumOf (k:Nat) (t0:List TNode) (t1:Int) (t2:Int):Option (Int×Bool):=
 (spec_l4Find k t0 t1 t2).bind fun r1=>(cond (decide (r1<0)) (some (true)) ((rdL t0 r1).bind fun y2=>(cond (y2.1 !=5) ((rdL t0 r1).bind fun y3=>some (y3.1 !=6)) (some (false))).bind fun b4=>some (b4))).bind fun b5=>cond b5 (some (0,false)) ((rdL t0 r1).bind fun y6=>some (y6.2.2.1,true))
def spec_l4Plain.c4 (k:Nat) (t4:Int) (t5:Bool) (o100:TNode):Option Bool:=
 cond t5 ((cond (o100.2.2.1==0) (some (eqS o100.2.2.2.1 (⟨#[]⟩:ByteArray))) (some (false))).bind fun b1=>(cond b1 (some (o100.2.2.2.2.1==0)) (some (false))).bind fun b2=>some b2) (cond (t4==5) ((spec_l4Int k o100.2.2.1).bind fun r3=>(cond r3 (some (eqS o100.2.2.2.1 (⟨#[]⟩:ByteArray))) (some (false))).bind fun b4=>(cond b4 (some (o100.2.2.2.2.1==0)) (some (false))).bind fun b5=>some b5) (cond (t4==6) ((cond (eqS o100.2.2.2.1 (⟨#[]⟩:ByteArray)) (some (o100.2.2.2.2.1==0)) (some (false))).bind fun b6=>some b6) (cond (t4==8) ((cond (o100.2.2.1==0) (some (decide ((o100.2.2.2.1.size:Int)≤300))) (some (false))).bind fun b7=>(cond b7 (some (o100.2.2.2.2.1==0)) (some (false))).bind fun b8=>some b8) (cond (t4==9) ((cond (eqS o100.2.2.2.1 (⟨#[]⟩:ByteArray)) (some (decide (o100.2.2.2.2.1≥0))) (some (false))).bind fun b9=>(cond b9 ((cond (o100.2.2.2.2.1==0) (some (o100.2.2.1==0)) (some (false))).bind fun b10=>(cond b10 (some (true)) ((cond (decide (o100.2.2.2.2.1>0)) ((spec_l4Item k o100.2.2.1).bind fun r11=>some (r11)) (some (false))).bind fun b12=>some (b12))).bind fun b13=>some (b13)) (some (false))).bind fun b14=>some b14) (cond (t4==12) ((cond (o100.2.2.1==0) (some (eqS o100.2.2.2.1 (⟨#[]⟩:ByteArray))) (some (false))).bind fun b15=>(cond b15 (some (decide (o100.2.2.2.2.1≥0))) (some (false))).bind fun b16=>some b16) (some false))))))
def spec_l4Plain (k:Nat) (t0:TNode):Option Bool:=
 cond (t0.1==1) (spec_l4Plain.c4 k t0.1 (t0.1==1) t0) (spec_l4Plain.c4 k t0.1 (t0.1==2) t0)
def spec_l4Check.l7 (k:Nat) (S309:(List TNode)→Int→Int→Option Int):Nat→(List TNode)→Int→Int→Int→Int→TNode→Option Int
 |0,_,_,_,_,_,_=>none
 |n+1,t0,t2,t8,t9,t10,o100=>
  cond (decide (t10<o100.2.2.2.2.1)) (cond (decide (t8≥(List.length t0:Int))) (some (-1)) ((rdL t0 t8).bind fun y1=>(cond (o100.1==9) ((cond (y1.1 !=o100.2.2.1) (some (true)) (some (y1.2.1 !=0))).bind fun b2=>some (b2)) (some (false))).bind fun b3=>(cond b3 (some (true)) ((cond (o100.1==12) ((cond (decide (y1.2.1≤t9)) (some (true)) (some (decide (y1.2.1>1000)))).bind fun b4=>some (b4)) (some (false))).bind fun b5=>some (b5))).bind fun b6=>cond b6 (some (-1)) ((S309 t0 t8 (IntKind.wrap .i64 (t2+1))).bind fun r7=>cond (decide (r7<0)) (some (-1)) ((spec_l4Check.l7 k S309 n) t0 t2 r7 y1.2.1 (IntKind.wrap .i64 (t10+1)) o100)))) (some t8)
def spec_l4Check.b (k:Nat) (S309:(List TNode)→Int→Int→Option Int) (t0:List TNode) (t1:Int) (t2:Int):Option Int:=
 (cond (decide (t1≥(List.length t0:Int))) (some (true)) (some (decide (t2>12)))).bind fun b8=>(cond b8 (some (true)) ((rdL t0 t1).bind fun y9=>(spec_l4Plain k y9).bind fun r10=>some (!r10))).bind fun b11=>cond b11 (some (-1)) ((rdL t0 t1).bind fun y12=>spec_l4Check.l7 k S309 k t0 t2 (IntKind.wrap .i64 (t1+1)) 0 0 y12)
def spec_l4Check.rec (k:Nat):Nat→((List TNode)→Int→Int→Option Int)
 |0=>fun _ _ _=>none
 |d+1=>spec_l4Check.b k ((spec_l4Check.rec k d))
def spec_l4Check.d (k d:Nat):(List TNode)→Int→Int→Option Int:=(spec_l4Check.rec k d)
def spec_l4Check (k:Nat):(List TNode)→Int→Int→Option Int:=spec_l4Check.d k k
def spec_TreeOk (k:Nat) (t0:List TNode):Option Bool:=
 (spec_l1In k (List.length t0:Int) 1 1500).bind fun r1=>(cond (!r1) (some (true)) ((rdL t0 0).bind fun y2=>some (y2.1 !=12))).bind fun b3=>(cond b3 (some (true)) ((rdL t0 0).bind fun y4=>some (y4.2.1 !=0))).bind fun b5=>cond b5 (some false) ((spec_l4Check k t0 0 1).bind fun r6=>some (r6==(List.length t0:Int)))
def spec_l4TextOf (k:Nat) (t0:List TNode) (t1:Int) (t2:Int):Option (ByteArray×Bool):=
 (spec_l4Find k t0 t1 t2).bind fun r1=>(cond (decide (r1<0)) (some (true)) ((rdL t0 r1).bind fun y2=>some (y2.1 !=8))).bind fun b3=>cond b3 (some ((⟨#[]⟩:ByteArray),false)) ((rdL t0 r1).bind fun y4=>some (y4.2.2.2.1,true))
def spec_l5Col.c12 (k:Nat) (t0:List TNode) (t1:Int) (t9:Bool) (t11:Bool) (t13:Bool) (t15:Bool) (o100:TCol) (o101:TCol):Option (TCol×Bool):=
 (cond t9 (some (t15)) (some (false))).bind fun b1=>(cond b1 (some (!(t11==t13))) (some (false))).bind fun b2=>(cond b2 ((cond t11 (some (true)) ((spec_l4Find k t0 t1 1).bind fun r3=>some (decide (r3<0)))).bind fun b4=>some (b4)) (some (false))).bind fun b5=>(cond b5 ((cond t13 (some (true)) ((spec_l4Find k t0 t1 5).bind fun r6=>some (decide (r6<0)))).bind fun b7=>some (b7)) (some (false))).bind fun b8=>some (o101,b8)
def spec_l5Col.c9 (k:Nat) (t0:List TNode) (t1:Int) (t9:Bool) (t11:Bool) (t12:Int) (t13:Bool) (t15:Bool) (o100:TCol) (o101:TCol):Option (TCol×Bool):=
 cond (!t11) (spec_l5Col.c12 k t0 t1 t9 t11 t13 t15 o100 (o101.1,7,o101.2.2.1,t12,())) (spec_l5Col.c12 k t0 t1 t9 t11 t13 t15 o100 o101)
def spec_l5Col (k:Nat) (t0:List TNode) (t1:Int) (t2:Bool):Option (TCol×Bool):=
 (spec_l4TextOf k t0 t1 4).bind fun r9=>(spec_l4NumOf k t0 t1 1).bind fun r10=>(spec_l4NumOf k t0 t1 5).bind fun r11=>(spec_l4NumOf k t0 t1 3).bind fun r12=>cond t2 (spec_l5Col.c9 k t0 t1 r9.2 r10.2 r11.1 r11.2 true ((⟨#[]⟩:ByteArray),0,0,0,()) (r9.1,r10.1,0,0,())) (spec_l5Col.c9 k t0 t1 r9.2 r10.2 r11.1 r11.2 r12.2 ((⟨#[]⟩:ByteArray),0,0,0,()) (r9.1,r10.1,r12.1,0,()))
def spec_l5Of.l8 (k:Nat):Nat→(List TNode)→Int→Int→Int→(List TCol)→(List TCol)→Option ((Unit×Bool)×(List TCol))
 |0,_,_,_,_,_,_=>none
 |n+1,t0,t9,t11,t12,o100,o101=>
  (rdL t0 t9).bind fun y1=>cond (decide (t12<y1.2.2.2.2.1)) ((spec_l5Col k t0 t11 (t12==0)).bind fun r2=>cond (!r2.2) (some (((),false),o100)) (cond (lim (List.length o101+List.length [r2.1])) ((spec_l4After k t0 t11).bind fun r3=>(spec_l5Of.l8 k n) t0 t9 r3 (IntKind.wrap .i64 (t12+1)) o100 (o101++[r2.1])) none)) ((spec_SchemaOk k o101).bind fun r4=>cond (!r4) (some (((),false),o100)) (some (((),true),o101)))
def spec_l5Of (k:Nat) (t0:List TNode) (t1:Int) (t2:Int):Option ((Unit×Bool)×(List TCol)):=
 (spec_l4Find k t0 t1 t2).bind fun r5=>(cond (decide (r5<0)) (some (true)) ((rdL t0 r5).bind fun y6=>some (y6.1 !=9))).bind fun b7=>(cond b7 (some (true)) ((rdL t0 r5).bind fun y8=>some (y8.2.2.1 !=12))).bind fun b9=>cond b9 (some (((),false),[])) (spec_l5Of.l8 k k t0 r5 (IntKind.wrap .i64 (r5+1)) 0 [] [])
def spec_l18List.l7 (k:Nat):Nat→(List TNode)→Int→Int→Int→(List Int)→Option ((Unit×Bool)×(List Int))
 |0,_,_,_,_,_=>none
 |n+1,t0,t11,t12,t13,o100=>
  (rdL t0 t11).bind fun y1=>cond (decide (t13<y1.2.2.2.2.1)) (cond (lim (List.length o100+List.length [t12])) ((spec_l4After k t0 t12).bind fun r2=>(spec_l18List.l7 k n) t0 t11 r2 (IntKind.wrap .i64 (t13+1)) (o100++[t12])) none) (some (((),true),o100))
def spec_l18List (k:Nat) (t0:List TNode) (t1:Int) (t2:Int) (t3:Int):Option ((Unit×Bool)×(List Int)):=
 (spec_l4Find k t0 t1 t2).bind fun r3=>(cond (decide (r3<0)) (some (true)) ((rdL t0 r3).bind fun y4=>some (y4.1 !=9))).bind fun b5=>(cond b5 (some (true)) ((rdL t0 r3).bind fun y6=>(cond (decide (y6.2.2.2.2.1>0)) ((rdL t0 r3).bind fun y7=>some (y7.2.2.1 !=t3)) (some (false))).bind fun b8=>some (b8))).bind fun b9=>cond b9 (some (((),false),[])) (spec_l18List.l7 k k t0 r3 (IntKind.wrap .i64 (r3+1)) 0 [])
def spec_l16Ids.l3 (k:Nat):Nat→(List TNode)→Int→(List Int)→Int→(List Int)→Option ((Unit×Bool)×(List Int))
 |0,_,_,_,_,_=>none
 |n+1,t0,t1,t2,t9,o100=>
  cond (decide (t9<(List.length t2:Int))) ((rdL t2 t9).bind fun y1=>(spec_l4NumOf k t0 t1 y1).bind fun r2=>cond (!r2.2) (some (((),false),o100)) (cond (lim (List.length o100+List.length [r2.1])) ((spec_l16Ids.l3 k n) t0 t1 t2 (IntKind.wrap .i64 (t9+1)) (o100++[r2.1])) none)) (some (((),true),o100))
def spec_l16Ids (k:Nat) (t0:List TNode) (t1:Int) (t2:List Int):Option ((Unit×Bool)×(List Int)):=
 spec_l16Ids.l3 k k t0 t1 t2 0 []
def spec_l5After.l3 (k:Nat) (S272:(List TCol)→Int→Option Int):Nat→(List TCol)→Int→Int→Int→Option Int
 |0,_,_,_,_=>none
 |n+1,t0,t1,t5,t6=>
  (rdL t0 t1).bind fun y1=>cond (decide (t6<y1.2.2.2.1)) ((S272 t0 t5).bind fun r2=>(spec_l5After.l3 k S272 n) t0 t1 r2 (IntKind.wrap .i64 (t6+1))) (some t5)
def spec_l5After.b (k:Nat) (S272:(List TCol)→Int→Option Int) (t0:List TCol) (t1:Int):Option Int:=
 spec_l5After.l3 k S272 k t0 t1 (IntKind.wrap .i64 (t1+1)) 0
def spec_l5After.rec (k:Nat):Nat→((List TCol)→Int→Option Int)
 |0=>fun _ _=>none
 |d+1=>spec_l5After.b k ((spec_l5After.rec k d))
def spec_l5After.d (k d:Nat):(List TCol)→Int→Option Int:=(spec_l5After.rec k d)
def spec_l5After (k:Nat):(List TCol)→Int→Option Int:=spec_l5After.d k k
def spec_l5Way.c4 (k:Nat) (L3:(List TCol)→Int→Int→(List Int)→Option (Unit×(List Int))) (t0:List TCol) (t1:Int) (t6:Int) (o100:List Int):Option (Unit×(List Int)):=
 L3 t0 t1 (IntKind.wrap .i64 (t6+1)) o100
def spec_l5Way.l3 (k:Nat):Nat→(List TCol)→Int→Int→(List Int)→Option (Unit×(List Int))
 |0,_,_,_,_=>none
 |n+1,t0,t1,t6,o100=>
  cond (decide (t6≤t1)) ((spec_l5After k t0 t6).bind fun r1=>cond (decide (r1>t1)) (cond (lim (List.length o100+List.length [t6])) (spec_l5Way.c4 k (spec_l5Way.l3 k n) t0 t1 t6 (o100++[t6])) none) (spec_l5Way.c4 k (spec_l5Way.l3 k n) t0 t1 t6 o100)) (some ((),o100))
def spec_l5Way (k:Nat) (t0:List TCol) (t1:Int):Option (Unit×(List Int)):=
 spec_l5Way.l3 k k t0 t1 0 []
def spec_LeafPath.l7 (k:Nat):Nat→(List TCol)→Int→(List ByteArray)→(List Int)→Option (Unit×(List ByteArray))
 |0,_,_,_,_=>none
 |n+1,t0,t8,o100,o101=>
  cond (decide (t8<(List.length o101:Int))) ((rdL o101 t8).bind fun y1=>(rdL t0 y1).bind fun y2=>cond (lim (List.length o100+List.length [y2.1])) ((spec_LeafPath.l7 k n) t0 (IntKind.wrap .i64 (t8+1)) (o100++[y2.1]) o101) none) (some ((),o100))
def spec_LeafPath (k:Nat) (t0:List TCol) (t1:Int):Option (Unit×(List ByteArray)):=
 (spec_SchemaLeaves k t0).bind fun r3=>(spec_l1In k t1 0 (IntKind.wrap .i64 ((List.length r3.2:Int)-1))).bind fun r4=>cond (!r4) (some ((),[])) ((rdL r3.2 t1).bind fun y5=>(spec_l5Way k t0 y5).bind fun r6=>spec_LeafPath.l7 k k t0 1 [] r6.2)
def spec_l18From.c26 (k:Nat) (o100:Int×Int×Int×Int×Int×Unit×Unit) (o101:Int×Int×Int×Int×Int×Unit×Unit) (o102:List Int) (o103:List Int):Option (((Int×Int×Int×Int×Int×Unit×Unit)×Bool)×(List Int)):=
 some ((o101,true),o103)
def spec_l18From.l18 (k:Nat):Nat→(List TNode)→Int→Int→(Int×Int×Int×Int×Int×Unit×Unit)→(Int×Int×Int×Int×Int×Unit×Unit)→(List Int)→(Int×Int×Int×Int×Int×Unit×Unit)→(List Int)→(List Int)→(List Int)→Option (((Int×Int×Int×Int×Int×Unit×Unit)×Bool)×(List Int))
 |0,_,_,_,_,_,_,_,_,_,_=>none
 |n+1,t0,t11,t21,o100,o101,o102,o103,o104,o105,o106=>
  cond (decide (t21<(List.length o102:Int))) ((rdL o102 t21).bind fun y1=>(rdL t0 y1).bind fun y2=>cond (lim (List.length o106+List.length [y2.2.2.1])) ((spec_l18From.l18 k n) t0 t11 (IntKind.wrap .i64 (t21+1)) o100 o101 o102 o103 o104 o105 (o106++[y2.2.2.1])) none) ((spec_l4Find k t0 t11 11).bind fun r3=>cond (decide (r3≥0)) ((spec_l4NumOf k t0 t11 11).bind fun r4=>(cond (!r4.2) (some (true)) (some (decide (r4.1<0)))).bind fun b5=>cond b5 (some ((o101,false),o105)) (spec_l18From.c26 k o100 (o103.1,o103.2.1,r4.1,o103.2.2.2.1,o103.2.2.2.2.1,(),()) o104 o106)) (spec_l18From.c26 k o100 o103 o104 o106))
def spec_l18From.l12 (k:Nat):Nat→(List TNode)→Int→Int→Int→(Int×Int×Int×Int×Int×Unit×Unit)→(Int×Int×Int×Int×Int×Unit×Unit)→(List Int)→(List Int)→(List Int)→(List ByteArray)→(List Int)→(List Int)→Option (((Int×Int×Int×Int×Int×Unit×Unit)×Bool)×(List Int))
 |0,_,_,_,_,_,_,_,_,_,_,_,_=>none
 |n+1,t0,t3,t11,t19,o100,o101,o102,o103,o104,o105,o106,o107=>
  cond (decide (t19<(List.length o104:Int))) ((rdL o104 t19).bind fun y6=>(rdL t0 y6).bind fun y7=>(rdL o105 t19).bind fun y8=>cond (!eqS y7.2.2.2.1 y8) (some ((o101,false),o107)) ((spec_l18From.l12 k n) t0 t3 t11 (IntKind.wrap .i64 (t19+1)) o100 o101 o102 o103 o104 o105 o106 o107)) ((rdL o102 5).bind fun y9=>(rdL o102 2).bind fun y10=>(rdL o102 3).bind fun y11=>spec_l18From.l18 k k t0 t11 0 o100 o101 o103 (t3,y9,(-1),y10,y11,(),()) o106 o107 [])
def spec_l18From.d9 (k:Nat) (t0:List TNode) (t2:List TCol) (t3:Int) (t11:Int) (t13:Bool) (t15:Bool) (t17:Bool) (o100:Int×Int×Int×Int×Int×Unit×Unit) (o101:Int×Int×Int×Int×Int×Unit×Unit) (o102:List Int) (o103:List Int) (o104:List Int) (o105:List ByteArray) (o106:List Int) (o107:List Int):Option (((Int×Int×Int×Int×Int×Unit×Unit)×Bool)×(List Int)):=
 cond (!t13) (cond true (cond true (cond true (cond true (cond true (cond true (some ((o101,false),o107)) (spec_l18From.l12 k k t0 t3 t11 0 o100 o101 o102 o103 o104 o105 o106 o107)) ((rdL o102 3).bind fun y12=>(rdL o102 4).bind fun y13=>cond (y12 !=y13) (some ((o101,false),o107)) (spec_l18From.l12 k k t0 t3 t11 0 o100 o101 o102 o103 o104 o105 o106 o107))) ((rdL o102 1).bind fun y14=>cond (y14 !=0) (cond true (some ((o101,false),o107)) (spec_l18From.l12 k k t0 t3 t11 0 o100 o101 o102 o103 o104 o105 o106 o107)) ((rdL o102 3).bind fun y15=>(rdL o102 4).bind fun y16=>cond (y15 !=y16) (some ((o101,false),o107)) (spec_l18From.l12 k k t0 t3 t11 0 o100 o101 o102 o103 o104 o105 o106 o107)))) ((rdL o102 0).bind fun y17=>(spec_l5Leaves k t2).bind fun r18=>(rdL r18.2 t3).bind fun y19=>(rdL t2 y19).bind fun y20=>cond (y17 !=y20.2.1) (cond true (cond true (some ((o101,false),o107)) (spec_l18From.l12 k k t0 t3 t11 0 o100 o101 o102 o103 o104 o105 o106 o107)) ((rdL o102 3).bind fun y21=>(rdL o102 4).bind fun y22=>cond (y21 !=y22) (some ((o101,false),o107)) (spec_l18From.l12 k k t0 t3 t11 0 o100 o101 o102 o103 o104 o105 o106 o107))) ((rdL o102 1).bind fun y23=>cond (y23 !=0) (cond true (some ((o101,false),o107)) (spec_l18From.l12 k k t0 t3 t11 0 o100 o101 o102 o103 o104 o105 o106 o107)) ((rdL o102 3).bind fun y24=>(rdL o102 4).bind fun y25=>cond (y24 !=y25) (some ((o101,false),o107)) (spec_l18From.l12 k k t0 t3 t11 0 o100 o101 o102 o103 o104 o105 o106 o107))))) (cond ((List.length o104:Int) !=(List.length o105:Int)) (cond true (cond true (cond true (some ((o101,false),o107)) (spec_l18From.l12 k k t0 t3 t11 0 o100 o101 o102 o103 o104 o105 o106 o107)) ((rdL o102 3).bind fun y26=>(rdL o102 4).bind fun y27=>cond (y26 !=y27) (some ((o101,false),o107)) (spec_l18From.l12 k k t0 t3 t11 0 o100 o101 o102 o103 o104 o105 o106 o107))) ((rdL o102 1).bind fun y28=>cond (y28 !=0) (cond true (some ((o101,false),o107)) (spec_l18From.l12 k k t0 t3 t11 0 o100 o101 o102 o103 o104 o105 o106 o107)) ((rdL o102 3).bind fun y29=>(rdL o102 4).bind fun y30=>cond (y29 !=y30) (some ((o101,false),o107)) (spec_l18From.l12 k k t0 t3 t11 0 o100 o101 o102 o103 o104 o105 o106 o107)))) ((rdL o102 0).bind fun y31=>(spec_l5Leaves k t2).bind fun r32=>(rdL r32.2 t3).bind fun y33=>(rdL t2 y33).bind fun y34=>cond (y31 !=y34.2.1) (cond true (cond true (some ((o101,false),o107)) (spec_l18From.l12 k k t0 t3 t11 0 o100 o101 o102 o103 o104 o105 o106 o107)) ((rdL o102 3).bind fun y35=>(rdL o102 4).bind fun y36=>cond (y35 !=y36) (some ((o101,false),o107)) (spec_l18From.l12 k k t0 t3 t11 0 o100 o101 o102 o103 o104 o105 o106 o107))) ((rdL o102 1).bind fun y37=>cond (y37 !=0) (cond true (some ((o101,false),o107)) (spec_l18From.l12 k k t0 t3 t11 0 o100 o101 o102 o103 o104 o105 o106 o107)) ((rdL o102 3).bind fun y38=>(rdL o102 4).bind fun y39=>cond (y38 !=y39) (some ((o101,false),o107)) (spec_l18From.l12 k k t0 t3 t11 0 o100 o101 o102 o103 o104 o105 o106 o107)))))) (cond (!t17) (cond true (cond true (cond true (cond true (some ((o101,false),o107)) (spec_l18From.l12 k k t0 t3 t11 0 o100 o101 o102 o103 o104 o105 o106 o107)) ((rdL o102 3).bind fun y40=>(rdL o102 4).bind fun y41=>cond (y40 !=y41) (some ((o101,false),o107)) (spec_l18From.l12 k k t0 t3 t11 0 o100 o101 o102 o103 o104 o105 o106 o107))) ((rdL o102 1).bind fun y42=>cond (y42 !=0) (cond true (some ((o101,false),o107)) (spec_l18From.l12 k k t0 t3 t11 0 o100 o101 o102 o103 o104 o105 o106 o107)) ((rdL o102 3).bind fun y43=>(rdL o102 4).bind fun y44=>cond (y43 !=y44) (some ((o101,false),o107)) (spec_l18From.l12 k k t0 t3 t11 0 o100 o101 o102 o103 o104 o105 o106 o107)))) ((rdL o102 0).bind fun y45=>(spec_l5Leaves k t2).bind fun r46=>(rdL r46.2 t3).bind fun y47=>(rdL t2 y47).bind fun y48=>cond (y45 !=y48.2.1) (cond true (cond true (some ((o101,false),o107)) (spec_l18From.l12 k k t0 t3 t11 0 o100 o101 o102 o103 o104 o105 o106 o107)) ((rdL o102 3).bind fun y49=>(rdL o102 4).bind fun y50=>cond (y49 !=y50) (some ((o101,false),o107)) (spec_l18From.l12 k k t0 t3 t11 0 o100 o101 o102 o103 o104 o105 o106 o107))) ((rdL o102 1).bind fun y51=>cond (y51 !=0) (cond true (some ((o101,false),o107)) (spec_l18From.l12 k k t0 t3 t11 0 o100 o101 o102 o103 o104 o105 o106 o107)) ((rdL o102 3).bind fun y52=>(rdL o102 4).bind fun y53=>cond (y52 !=y53) (some ((o101,false),o107)) (spec_l18From.l12 k k t0 t3 t11 0 o100 o101 o102 o103 o104 o105 o106 o107))))) (cond ((List.length o104:Int) !=(List.length o105:Int)) (cond true (cond true (cond true (some ((o101,false),o107)) (spec_l18From.l12 k k t0 t3 t11 0 o100 o101 o102 o103 o104 o105 o106 o107)) ((rdL o102 3).bind fun y54=>(rdL o102 4).bind fun y55=>cond (y54 !=y55) (some ((o101,false),o107)) (spec_l18From.l12 k k t0 t3 t11 0 o100 o101 o102 o103 o104 o105 o106 o107))) ((rdL o102 1).bind fun y56=>cond (y56 !=0) (cond true (some ((o101,false),o107)) (spec_l18From.l12 k k t0 t3 t11 0 o100 o101 o102 o103 o104 o105 o106 o107)) ((rdL o102 3).bind fun y57=>(rdL o102 4).bind fun y58=>cond (y57 !=y58) (some ((o101,false),o107)) (spec_l18From.l12 k k t0 t3 t11 0 o100 o101 o102 o103 o104 o105 o106 o107)))) ((rdL o102 0).bind fun y59=>(spec_l5Leaves k t2).bind fun r60=>(rdL r60.2 t3).bind fun y61=>(rdL t2 y61).bind fun y62=>cond (y59 !=y62.2.1) (cond true (cond true (some ((o101,false),o107)) (spec_l18From.l12 k k t0 t3 t11 0 o100 o101 o102 o103 o104 o105 o106 o107)) ((rdL o102 3).bind fun y63=>(rdL o102 4).bind fun y64=>cond (y63 !=y64) (some ((o101,false),o107)) (spec_l18From.l12 k k t0 t3 t11 0 o100 o101 o102 o103 o104 o105 o106 o107))) ((rdL o102 1).bind fun y65=>cond (y65 !=0) (cond true (some ((o101,false),o107)) (spec_l18From.l12 k k t0 t3 t11 0 o100 o101 o102 o103 o104 o105 o106 o107)) ((rdL o102 3).bind fun y66=>(rdL o102 4).bind fun y67=>cond (y66 !=y67) (some ((o101,false),o107)) (spec_l18From.l12 k k t0 t3 t11 0 o100 o101 o102 o103 o104 o105 o106 o107))))))) (cond (!t15) (cond true (cond true (cond true (cond true (cond true (some ((o101,false),o107)) (spec_l18From.l12 k k t0 t3 t11 0 o100 o101 o102 o103 o104 o105 o106 o107)) ((rdL o102 3).bind fun y68=>(rdL o102 4).bind fun y69=>cond (y68 !=y69) (some ((o101,false),o107)) (spec_l18From.l12 k k t0 t3 t11 0 o100 o101 o102 o103 o104 o105 o106 o107))) ((rdL o102 1).bind fun y70=>cond (y70 !=0) (cond true (some ((o101,false),o107)) (spec_l18From.l12 k k t0 t3 t11 0 o100 o101 o102 o103 o104 o105 o106 o107)) ((rdL o102 3).bind fun y71=>(rdL o102 4).bind fun y72=>cond (y71 !=y72) (some ((o101,false),o107)) (spec_l18From.l12 k k t0 t3 t11 0 o100 o101 o102 o103 o104 o105 o106 o107)))) ((rdL o102 0).bind fun y73=>(spec_l5Leaves k t2).bind fun r74=>(rdL r74.2 t3).bind fun y75=>(rdL t2 y75).bind fun y76=>cond (y73 !=y76.2.1) (cond true (cond true (some ((o101,false),o107)) (spec_l18From.l12 k k t0 t3 t11 0 o100 o101 o102 o103 o104 o105 o106 o107)) ((rdL o102 3).bind fun y77=>(rdL o102 4).bind fun y78=>cond (y77 !=y78) (some ((o101,false),o107)) (spec_l18From.l12 k k t0 t3 t11 0 o100 o101 o102 o103 o104 o105 o106 o107))) ((rdL o102 1).bind fun y79=>cond (y79 !=0) (cond true (some ((o101,false),o107)) (spec_l18From.l12 k k t0 t3 t11 0 o100 o101 o102 o103 o104 o105 o106 o107)) ((rdL o102 3).bind fun y80=>(rdL o102 4).bind fun y81=>cond (y80 !=y81) (some ((o101,false),o107)) (spec_l18From.l12 k k t0 t3 t11 0 o100 o101 o102 o103 o104 o105 o106 o107))))) (cond ((List.length o104:Int) !=(List.length o105:Int)) (cond true (cond true (cond true (some ((o101,false),o107)) (spec_l18From.l12 k k t0 t3 t11 0 o100 o101 o102 o103 o104 o105 o106 o107)) ((rdL o102 3).bind fun y82=>(rdL o102 4).bind fun y83=>cond (y82 !=y83) (some ((o101,false),o107)) (spec_l18From.l12 k k t0 t3 t11 0 o100 o101 o102 o103 o104 o105 o106 o107))) ((rdL o102 1).bind fun y84=>cond (y84 !=0) (cond true (some ((o101,false),o107)) (spec_l18From.l12 k k t0 t3 t11 0 o100 o101 o102 o103 o104 o105 o106 o107)) ((rdL o102 3).bind fun y85=>(rdL o102 4).bind fun y86=>cond (y85 !=y86) (some ((o101,false),o107)) (spec_l18From.l12 k k t0 t3 t11 0 o100 o101 o102 o103 o104 o105 o106 o107)))) ((rdL o102 0).bind fun y87=>(spec_l5Leaves k t2).bind fun r88=>(rdL r88.2 t3).bind fun y89=>(rdL t2 y89).bind fun y90=>cond (y87 !=y90.2.1) (cond true (cond true (some ((o101,false),o107)) (spec_l18From.l12 k k t0 t3 t11 0 o100 o101 o102 o103 o104 o105 o106 o107)) ((rdL o102 3).bind fun y91=>(rdL o102 4).bind fun y92=>cond (y91 !=y92) (some ((o101,false),o107)) (spec_l18From.l12 k k t0 t3 t11 0 o100 o101 o102 o103 o104 o105 o106 o107))) ((rdL o102 1).bind fun y93=>cond (y93 !=0) (cond true (some ((o101,false),o107)) (spec_l18From.l12 k k t0 t3 t11 0 o100 o101 o102 o103 o104 o105 o106 o107)) ((rdL o102 3).bind fun y94=>(rdL o102 4).bind fun y95=>cond (y94 !=y95) (some ((o101,false),o107)) (spec_l18From.l12 k k t0 t3 t11 0 o100 o101 o102 o103 o104 o105 o106 o107)))))) (cond (!t17) (cond true (cond true (cond true (cond true (some ((o101,false),o107)) (spec_l18From.l12 k k t0 t3 t11 0 o100 o101 o102 o103 o104 o105 o106 o107)) ((rdL o102 3).bind fun y96=>(rdL o102 4).bind fun y97=>cond (y96 !=y97) (some ((o101,false),o107)) (spec_l18From.l12 k k t0 t3 t11 0 o100 o101 o102 o103 o104 o105 o106 o107))) ((rdL o102 1).bind fun y98=>cond (y98 !=0) (cond true (some ((o101,false),o107)) (spec_l18From.l12 k k t0 t3 t11 0 o100 o101 o102 o103 o104 o105 o106 o107)) ((rdL o102 3).bind fun y99=>(rdL o102 4).bind fun y100=>cond (y99 !=y100) (some ((o101,false),o107)) (spec_l18From.l12 k k t0 t3 t11 0 o100 o101 o102 o103 o104 o105 o106 o107)))) ((rdL o102 0).bind fun y101=>(spec_l5Leaves k t2).bind fun r102=>(rdL r102.2 t3).bind fun y103=>(rdL t2 y103).bind fun y104=>cond (y101 !=y104.2.1) (cond true (cond true (some ((o101,false),o107)) (spec_l18From.l12 k k t0 t3 t11 0 o100 o101 o102 o103 o104 o105 o106 o107)) ((rdL o102 3).bind fun y105=>(rdL o102 4).bind fun y106=>cond (y105 !=y106) (some ((o101,false),o107)) (spec_l18From.l12 k k t0 t3 t11 0 o100 o101 o102 o103 o104 o105 o106 o107))) ((rdL o102 1).bind fun y107=>cond (y107 !=0) (cond true (some ((o101,false),o107)) (spec_l18From.l12 k k t0 t3 t11 0 o100 o101 o102 o103 o104 o105 o106 o107)) ((rdL o102 3).bind fun y108=>(rdL o102 4).bind fun y109=>cond (y108 !=y109) (some ((o101,false),o107)) (spec_l18From.l12 k k t0 t3 t11 0 o100 o101 o102 o103 o104 o105 o106 o107))))) (cond ((List.length o104:Int) !=(List.length o105:Int)) (cond true (cond true (cond true (some ((o101,false),o107)) (spec_l18From.l12 k k t0 t3 t11 0 o100 o101 o102 o103 o104 o105 o106 o107)) ((rdL o102 3).bind fun y110=>(rdL o102 4).bind fun y111=>cond (y110 !=y111) (some ((o101,false),o107)) (spec_l18From.l12 k k t0 t3 t11 0 o100 o101 o102 o103 o104 o105 o106 o107))) ((rdL o102 1).bind fun y112=>cond (y112 !=0) (cond true (some ((o101,false),o107)) (spec_l18From.l12 k k t0 t3 t11 0 o100 o101 o102 o103 o104 o105 o106 o107)) ((rdL o102 3).bind fun y113=>(rdL o102 4).bind fun y114=>cond (y113 !=y114) (some ((o101,false),o107)) (spec_l18From.l12 k k t0 t3 t11 0 o100 o101 o102 o103 o104 o105 o106 o107)))) ((rdL o102 0).bind fun y115=>(spec_l5Leaves k t2).bind fun r116=>(rdL r116.2 t3).bind fun y117=>(rdL t2 y117).bind fun y118=>cond (y115 !=y118.2.1) (cond true (cond true (some ((o101,false),o107)) (spec_l18From.l12 k k t0 t3 t11 0 o100 o101 o102 o103 o104 o105 o106 o107)) ((rdL o102 3).bind fun y119=>(rdL o102 4).bind fun y120=>cond (y119 !=y120) (some ((o101,false),o107)) (spec_l18From.l12 k k t0 t3 t11 0 o100 o101 o102 o103 o104 o105 o106 o107))) ((rdL o102 1).bind fun y121=>cond (y121 !=0) (cond true (some ((o101,false),o107)) (spec_l18From.l12 k k t0 t3 t11 0 o100 o101 o102 o103 o104 o105 o106 o107)) ((rdL o102 3).bind fun y122=>(rdL o102 4).bind fun y123=>cond (y122 !=y123) (some ((o101,false),o107)) (spec_l18From.l12 k k t0 t3 t11 0 o100 o101 o102 o103 o104 o105 o106 o107)))))))
def spec_l18From (k:Nat) (t0:List TNode) (t1:Int) (t2:List TCol) (t3:Int):Option (((Int×Int×Int×Int×Int×Unit×Unit)×Bool)×(List Int)):=
 (spec_l4Find k t0 t1 3).bind fun r348=>(cond (decide (r348<0)) (some (true)) ((rdL t0 r348).bind fun y349=>some (y349.1 !=12))).bind fun b350=>cond b350 (some (((0,0,0,0,0,(),()),false),[])) ((spec_l16Ids k t0 r348 [1,4,5,6,7,9]).bind fun r351=>(spec_l18List k t0 r348 2 5).bind fun r352=>(spec_l18List k t0 r348 3 8).bind fun r353=>(spec_LeafPath k t2 t3).bind fun r354=>spec_l18From.d9 k t0 t2 t3 r348 r351.1.2 r352.1.2 r353.1.2 (0,0,0,0,0,(),()) (0,0,0,0,0,(),()) r351.2 r352.2 r353.2 r354.2 [] [])
def spec_MetaFrom.l19 (k:Nat) (L11:(List TNode)→Int→(Unit×Int×Unit×Unit)→(Unit×Int×Unit×Unit)→(List TCol)→(List Int)→(Unit×Int×Unit×Unit)→(List TCol)→(List TGroupMeta)→(List TCol)→(List TGroupMeta)→(List TGroupMeta)→Option (((Unit×Int×Unit×Unit)×Bool)×(List TCol)×(List TGroupMeta))):Nat→(List TNode)→Int→Int→(Unit×Int×Unit×Unit)→(Unit×Int×Unit×Unit)→(List TCol)→(List Int)→(Unit×Int×Unit×Unit)→(List Int)→(Int×Unit×Unit)→(List TCol)→(List TGroupMeta)→(List TCol)→(List TGroupMeta)→(List TGroupMeta)→(List TChunk)→Option (((Unit×Int×Unit×Unit)×Bool)×(List TCol)×(List TGroupMeta))
 |0,_,_,_,_,_,_,_,_,_,_,_,_,_,_,_,_=>none
 |n+1,t0,t12,t18,o100,o101,o102,o103,o104,o105,o106,o107,o108,o109,o110,o111,o112=>
  cond (decide (t18<(List.length o105:Int))) ((rdL o105 t18).bind fun y1=>(spec_l18From k t0 y1 o102 t18).bind fun r2=>cond (!r2.1.2) (some ((o101,false),(o109,o110))) (cond (lim (List.length o112+List.length [(r2.1.1.1,r2.1.1.2.1,r2.1.1.2.2.1,r2.1.1.2.2.2.1,r2.1.1.2.2.2.2.1,r2.2,())])) ((spec_MetaFrom.l19 k L11 n) t0 t12 (IntKind.wrap .i64 (t18+1)) o100 o101 o102 o103 o104 o105 o106 o107 o108 o109 o110 o111 (o112++[(r2.1.1.1,r2.1.1.2.1,r2.1.1.2.2.1,r2.1.1.2.2.2.1,r2.1.1.2.2.2.2.1,r2.2,())])) none)) (cond (lim (List.length o111+List.length [(o106.1,o112,())])) (L11 t0 (IntKind.wrap .i64 (t12+1)) o100 o101 o102 o103 o104 o107 o108 o109 o110 (o111++[(o106.1,o112,())])) none)
def spec_MetaFrom.l11 (k:Nat):Nat→(List TNode)→Int→(Unit×Int×Unit×Unit)→(Unit×Int×Unit×Unit)→(List TCol)→(List Int)→(Unit×Int×Unit×Unit)→(List TCol)→(List TGroupMeta)→(List TCol)→(List TGroupMeta)→(List TGroupMeta)→Option (((Unit×Int×Unit×Unit)×Bool)×(List TCol)×(List TGroupMeta))
 |0,_,_,_,_,_,_,_,_,_,_,_,_=>none
 |n+1,t0,t12,o100,o101,o102,o103,o104,o105,o106,o107,o108,o109=>
  cond (decide (t12<(List.length o103:Int))) ((rdL o103 t12).bind fun y3=>(spec_l4NumOf k t0 y3 3).bind fun r4=>(rdL o103 t12).bind fun y5=>(spec_l18List k t0 y5 1 12).bind fun r6=>(cond (!r4.2) (some (true)) (some (!r6.1.2))).bind fun b7=>(cond b7 (some (true)) ((spec_l5Leaves k o102).bind fun r8=>some ((List.length r6.2:Int) !=(List.length r8.2:Int)))).bind fun b9=>cond b9 (some ((o101,false),(o107,o108))) (spec_MetaFrom.l19 k (spec_MetaFrom.l11 k n) k t0 t12 0 o100 o101 o102 o103 o104 r6.2 (r4.1,(),()) o105 o106 o107 o108 o109 [])) ((spec_MetaOk k (o102,o104.2.1,o109,())).bind fun r10=>cond (!r10) (some ((o101,false),(o107,o108))) (some ((o104,true),(o102,o109))))
def spec_MetaFrom (k:Nat) (t0:List TNode):Option (((Unit×Int×Unit×Unit)×Bool)×(List TCol)×(List TGroupMeta)):=
 (spec_TreeOk k t0).bind fun r11=>cond (!r11) (some ((((),0,(),()),false),([],[]))) ((spec_l5Of k t0 0 2).bind fun r12=>(spec_l4NumOf k t0 0 3).bind fun r13=>(spec_l18List k t0 0 4 12).bind fun r14=>(cond (!r12.1.2) (some (true)) (some (!r13.2))).bind fun b15=>(cond b15 (some (true)) (some (!r14.1.2))).bind fun b16=>cond b16 (some ((((),0,(),()),false),([],[]))) (spec_MetaFrom.l11 k k t0 0 ((),0,(),()) ((),0,(),()) r12.2 r14.2 ((),r13.1,(),()) [] [] [] [] []))
def spec_MetaRead (k:Nat) (t0:List Int) (t1:Int):Option (((Unit×Int×Unit×Unit)×Int×Bool)×(List TCol)×(List TGroupMeta)):=
 (spec_TreeRead k t0 t1).bind fun r1=>cond (r1.1.2.2 !=0) (some ((((),0,(),()),0,false),([],[]))) ((spec_MetaFrom k r1.2).bind fun r2=>cond (!r2.1.2) (some ((((),0,(),()),0,false),([],[]))) (some ((r2.1.1,r1.1.2.1,true),(r2.2.1,r2.2.2))))
def spec_FileMeta (k:Nat) (t0:List Int):Option (((Unit×Int×Unit×Unit)×Int)×(List TCol)×(List TGroupMeta)):=
 (spec_l1In k (List.length t0:Int) 12 60000).bind fun r1=>cond (!r1) (some ((((),0,(),()),1),([],[]))) (cond (inSl 0 4 (List.length t0)) ((cond (!eqS (intsStr (cutL t0 0 4)) (⟨#[80,65,82,49]⟩:ByteArray)) (some (true)) (cond (inSl (IntKind.wrap .i64 ((List.length t0:Int)-4)) ((List.length t0):Int) (List.length t0)) (some (!eqS (intsStr (cutL t0 (IntKind.wrap .i64 ((List.length t0:Int)-4)) ((List.length t0):Int))) (⟨#[80,65,82,49]⟩:ByteArray))) none)).bind fun b2=>cond b2 (some ((((),0,(),()),2),([],[]))) ((spec_WordGet k t0 (IntKind.wrap .i64 ((List.length t0:Int)-8)) 4).bind fun r3=>cond (decide (r3.1>(IntKind.wrap .i64 ((List.length t0:Int)-12)))) (some ((((),0,(),()),3),([],[]))) (cond (inSl (IntKind.wrap .i64 ((IntKind.wrap .i64 ((List.length t0:Int)-8))-r3.1)) (IntKind.wrap .i64 ((List.length t0:Int)-8)) (List.length t0)) ((spec_MetaRead k (cutL t0 (IntKind.wrap .i64 ((IntKind.wrap .i64 ((List.length t0:Int)-8))-r3.1)) (IntKind.wrap .i64 ((List.length t0:Int)-8))) 0).bind fun r4=>(cond (!r4.1.2.2) (some (true)) (some (r4.1.2.1 !=r3.1))).bind fun b5=>cond b5 (some ((((),0,(),()),3),([],[]))) (some ((r4.1.1,0),(r4.2.1,r4.2.2)))) none))) none)
def spec_l5Max.c5 (k:Nat) (L4:(List TCol)→Int→Int→Int→(List Int)→Option (Int×Int)) (t0:List TCol) (t6:Int) (t7:Int) (t9:Int) (o100:List Int):Option (Int×Int):=
 L4 t0 t6 t7 (IntKind.wrap .i64 (t9+1)) o100
def spec_l5Max.c8 (k:Nat) (L4:(List TCol)→Int→Int→Int→(List Int)→Option (Int×Int)) (t0:List TCol) (t6:Int) (t7:Int) (t9:Int) (o100:List Int):Option (Int×Int):=
 (rdL o100 t9).bind fun y1=>(rdL t0 y1).bind fun y2=>cond (y2.2.2.1==2) (spec_l5Max.c5 k L4 t0 t6 (IntKind.wrap .i64 (t7+1)) t9 o100) (spec_l5Max.c5 k L4 t0 t6 t7 t9 o100)
def spec_l5Max.l4 (k:Nat):Nat→(List TCol)→Int→Int→Int→(List Int)→Option (Int×Int)
 |0,_,_,_,_,_=>none
 |n+1,t0,t6,t7,t9,o100=>
  cond (decide (t9<(List.length o100:Int))) ((rdL o100 t9).bind fun y3=>(rdL t0 y3).bind fun y4=>cond (y4.2.2.1 !=0) (spec_l5Max.c8 k (spec_l5Max.l4 k n) t0 (IntKind.wrap .i64 (t6+1)) t7 t9 o100) (spec_l5Max.c8 k (spec_l5Max.l4 k n) t0 t6 t7 t9 o100)) (some (t6,t7))
def spec_l5Max (k:Nat) (t0:List TCol) (t1:Int):Option (Int×Int):=
 (spec_l5Way k t0 t1).bind fun r5=>spec_l5Max.l4 k k t0 0 0 0 r5.2
def spec_LeafOf (k:Nat) (t0:List TCol) (t1:Int):Option (TLeaf×Bool):=
 (spec_SchemaLeaves k t0).bind fun r1=>(spec_l1In k t1 0 (IntKind.wrap .i64 ((List.length r1.2:Int)-1))).bind fun r2=>cond (!r2) (some ((0,0,0,()),false)) ((rdL r1.2 t1).bind fun y3=>(spec_l5Max k t0 y3).bind fun r4=>(rdL r1.2 t1).bind fun y5=>(rdL t0 y5).bind fun y6=>some ((y6.2.1,r4.2,r4.1,()),true))
def spec_LeafOk (k:Nat) (t0:TLeaf):Option Bool:=
 (spec_l5Type k t0.1).bind fun r1=>(cond r1 ((spec_l1In k t0.2.1 0 6).bind fun r2=>some (r2)) (some (false))).bind fun b3=>(cond b3 ((spec_l1In k t0.2.2.1 t0.2.1 6).bind fun r4=>some (r4)) (some (false))).bind fun b5=>some b5
def spec_l16Part (k:Nat) (t0:List TNode) (t1:Int):Option Int:=
 (spec_l4Find k t0 0 t1).bind fun r1=>(cond (decide (r1<0)) (some (true)) ((rdL t0 r1).bind fun y2=>some (y2.1 !=12))).bind fun b3=>cond b3 (some (-1)) (some r1)
def spec_BitsSize (k:Nat) (t0:Int) (t1:Int):Option Int:=
 (spec_l1In k t0 0 2000).bind fun r1=>(cond (!r1) (some (true)) ((spec_l1In k t1 0 62).bind fun r2=>some (!r2))).bind fun b3=>cond b3 (some (-1)) (some (IntKind.wrap .i64 (Int.tdiv (IntKind.wrap .i64 ((IntKind.wrap .i64 (t0*t1))+7)) 8)))
def spec_l1Bit (k:Nat) (t0:List Int) (t1:Int):Option Int:=
 (rdL t0 (IntKind.wrap .i64 (Int.tdiv t1 8))).bind fun y1=>cond (decide (0≤(Int.tmod t1 8))) (some (bits .and .i64 (shrI .i64 (IntKind.wrap .i64 y1) (Int.tmod t1 8)) 1)) none
def spec_BitsRead.l10 (k:Nat) (L6:(List Int)→Int→Int→Int→Int→Int→(List Int)→Option ((Unit×Int×Bool)×(List Int))):Nat→(List Int)→Int→Int→Int→Int→Int→Int→Int→(List Int)→Option ((Unit×Int×Bool)×(List Int))
 |0,_,_,_,_,_,_,_,_,_=>none
 |n+1,t0,t1,t2,t3,t12,t13,t14,t15,o100=>
  cond (decide (t15<t3)) ((spec_l1Bit k t0 (IntKind.wrap .i64 ((IntKind.wrap .i64 ((IntKind.wrap .i64 (8*t1))+(IntKind.wrap .i64 (t13*t3))))+t15))).bind fun r1=>cond (decide (0≤t15)) ((spec_BitsRead.l10 k L6 n) t0 t1 t2 t3 t12 t13 (bits .or .i64 t14 (shlI .i64 r1 t15)) (IntKind.wrap .i64 (t15+1)) o100) none) (cond (lim (List.length o100+List.length [t14])) (L6 t0 t1 t2 t3 t12 (IntKind.wrap .i64 (t13+1)) (o100++[t14])) none)
def spec_BitsRead.l6 (k:Nat):Nat→(List Int)→Int→Int→Int→Int→Int→(List Int)→Option ((Unit×Int×Bool)×(List Int))
 |0,_,_,_,_,_,_,_=>none
 |n+1,t0,t1,t2,t3,t12,t13,o100=>
  cond (decide (t13<t2)) (spec_BitsRead.l10 k (spec_BitsRead.l6 k n) k t0 t1 t2 t3 t12 t13 0 0 o100) (some (((),IntKind.wrap .i64 (t1+t12),true),o100))
def spec_BitsRead (k:Nat) (t0:List Int) (t1:Int) (t2:Int) (t3:Int):Option ((Unit×Int×Bool)×(List Int)):=
 (spec_BitsSize k t2 t3).bind fun r2=>(cond (decide (r2<0)) (some (true)) ((spec_l1In k t1 0 (List.length t0:Int)).bind fun r3=>some (!r3))).bind fun b4=>(cond b4 (some (true)) (some (decide ((IntKind.wrap .i64 ((List.length t0:Int)-t1))<r2)))).bind fun b5=>cond b5 (some (((),0,false),[])) (spec_BitsRead.l6 k k t0 t1 t2 t3 r2 0 [])
def spec_l7One.c6 (k:Nat) (t9:Int) (t10:Int) (t11:Bool) (o100:TVal):Option (TVal×Int×Bool):=
 some ((t9,(⟨#[]⟩:ByteArray),()),t10,t11)
def spec_l7One (k:Nat) (t0:Int) (t1:List Int) (t2:Int):Option (TVal×Int×Bool):=
 cond (t0==1) ((spec_WordGet k t1 t2 4).bind fun r1=>cond (decide (r1.1>2147483647)) (spec_l7One.c6 k (IntKind.wrap .i64 (r1.1-4294967296)) r1.2.1 r1.2.2 (0,(⟨#[]⟩:ByteArray),())) (spec_l7One.c6 k r1.1 r1.2.1 r1.2.2 (0,(⟨#[]⟩:ByteArray),()))) (cond (t0==6) ((spec_WordGet k t1 t2 4).bind fun r2=>(cond (!r2.2.2) (some (true)) (some (decide (r2.1>40)))).bind fun b3=>(cond b3 (some (true)) (some (decide (r2.1>(IntKind.wrap .i64 ((List.length t1:Int)-r2.2.1)))))).bind fun b4=>cond b4 (some ((0,(⟨#[]⟩:ByteArray),()),0,false)) (cond (inSl r2.2.1 (IntKind.wrap .i64 (r2.2.1+r2.1)) (List.length t1)) (some ((0,intsStr (cutL t1 r2.2.1 (IntKind.wrap .i64 (r2.2.1+r2.1))),()),IntKind.wrap .i64 (r2.2.1+r2.1),true)) none)) ((spec_WordGet k t1 t2 8).bind fun r5=>some ((r5.1,(⟨#[]⟩:ByteArray),()),r5.2.1,r5.2.2)))
def spec_PlainRead.l12 (k:Nat):Nat→Int→(List Int)→Int→Int→Int→(List TVal)→Option ((Unit×Int×Bool)×(List TVal))
 |0,_,_,_,_,_,_=>none
 |n+1,t0,t1,t2,t3,t16,o100=>
  cond (decide (t16<t3)) ((spec_l7One k t0 t1 t2).bind fun r1=>cond (!r1.2.2) (some (((),0,false),[])) (cond (lim (List.length o100+List.length [r1.1])) ((spec_PlainRead.l12 k n) t0 t1 r1.2.1 t3 (IntKind.wrap .i64 (t16+1)) (o100++[r1.1])) none)) (some (((),t2,true),o100))
def spec_PlainRead.l7 (k:Nat):Nat→Int→Bool→Int→(List TVal)→(List Int)→Option ((Unit×Int×Bool)×(List TVal))
 |0,_,_,_,_,_=>none
 |n+1,t13,t14,t15,o100,o101=>
  cond (decide (t15<(List.length o101:Int))) ((rdL o101 t15).bind fun y2=>cond (lim (List.length o100+List.length ([(y2,(⟨#[]⟩:ByteArray),())]:List TVal))) ((spec_PlainRead.l7 k n) t13 t14 (IntKind.wrap .i64 (t15+1)) (o100++[(y2,(⟨#[]⟩:ByteArray),())]) o101) none) (some (((),t13,t14),o100))
def spec_PlainRead (k:Nat) (t0:Int) (t1:List Int) (t2:Int) (t3:Int):Option ((Unit×Int×Bool)×(List TVal)):=
 (spec_l5Type k t0).bind fun r3=>(cond (!r3) (some (true)) ((spec_l1In k t3 0 2000).bind fun r4=>some (!r4))).bind fun b5=>(cond b5 (some (true)) ((spec_l1In k t2 0 (List.length t1:Int)).bind fun r6=>some (!r6))).bind fun b7=>cond b7 (some (((),0,false),[])) (cond (t0==0) ((spec_BitsRead k t1 t2 t3 1).bind fun r8=>spec_PlainRead.l7 k k r8.1.2.1 r8.1.2.2 0 [] r8.2) (spec_PlainRead.l12 k k t0 t1 t2 t3 0 []))
def spec_ValOk.c8 (k:Nat) (t5:Int) (t26:Bool) (o100:TVal):Option Bool:=
 cond t26 (some (eqS o100.2.1 (⟨#[]⟩:ByteArray))) (cond (t5==6) ((cond (o100.1==0) (some (decide ((o100.2.1.size:Int)≤40))) (some (false))).bind fun b1=>some b1) (some false))
def spec_ValOk (k:Nat) (t0:Int) (t1:TVal):Option Bool:=
 cond (t0==0) ((spec_l1In k t1.1 0 1).bind fun r2=>(cond r2 (some (eqS t1.2.1 (⟨#[]⟩:ByteArray))) (some (false))).bind fun b3=>some b3) (cond (t0==1) ((spec_l4Int k t1.1).bind fun r4=>(cond r4 (some (eqS t1.2.1 (⟨#[]⟩:ByteArray))) (some (false))).bind fun b5=>some b5) (cond (t0==2) (spec_ValOk.c8 k t0 (t0==2) t1) (spec_ValOk.c8 k t0 (t0==5) t1)))
def spec_l6Vals.l4 (k:Nat):Nat→Int→(List TVal)→Int→Option Bool
 |0,_,_,_=>none
 |n+1,t0,t1,t5=>
  cond (decide (t5<(List.length t1:Int))) ((rdL t1 t5).bind fun y1=>(spec_ValOk k t0 y1).bind fun r2=>cond (!r2) (some false) ((spec_l6Vals.l4 k n) t0 t1 (IntKind.wrap .i64 (t5+1)))) (some true)
def spec_l6Vals (k:Nat) (t0:Int) (t1:List TVal):Option Bool:=
 (cond (decide ((List.length t1:Int)>2000)) (some (true)) ((spec_l5Type k t0).bind fun r3=>some (!r3))).bind fun b4=>cond b4 (some false) (spec_l6Vals.l4 k k t0 t1 0)
def spec_WordPut.l3 (k:Nat):Nat→Int→Int→Int→(List Int)→Option (Unit×(List Int))
 |0,_,_,_,_=>none
 |n+1,t0,t1,t6,o100=>
  (cond (decide (t6<t1)) ((spec_l1In k t1 1 8).bind fun r1=>some (r1)) (some (false))).bind fun b2=>cond b2 (cond (decide (0≤(IntKind.wrap .i64 (8*t6)))) (cond (lim (List.length o100+List.length [IntKind.wrap .u8 (shrI .i64 t0 (IntKind.wrap .i64 (8*t6)))])) ((spec_WordPut.l3 k n) t0 t1 (IntKind.wrap .i64 (t6+1)) (o100++[IntKind.wrap .u8 (shrI .i64 t0 (IntKind.wrap .i64 (8*t6)))])) none) none) (some ((),o100))
def spec_WordPut (k:Nat) (t0:Int) (t1:Int):Option (Unit×(List Int)):=
 spec_WordPut.l3 k k t0 t1 0 []
def spec_BitsPack.c12 (k:Nat) (L11:(List Int)→Int→Int→Int→(List Int)→Option ((Unit×Bool)×(List Int))) (t0:List Int) (t1:Int) (t8:Int) (t9:Int) (o100:List Int):Option ((Unit×Bool)×(List Int)):=
 L11 t0 t1 t8 (IntKind.wrap .i64 (t9+1)) o100
def spec_BitsPack.l11 (k:Nat) (L6:(List Int)→Int→Int→(List Int)→Option ((Unit×Bool)×(List Int))):Nat→(List Int)→Int→Int→Int→(List Int)→Option ((Unit×Bool)×(List Int))
 |0,_,_,_,_,_=>none
 |n+1,t0,t1,t8,t9,o100=>
  cond (decide (t9<t1)) ((rdL t0 t8).bind fun y1=>cond (decide (0≤t9)) (cond ((bits .and .i64 (shrI .i64 y1 t9) 1)==1) ((rdL o100 (IntKind.wrap .i64 (Int.tdiv (IntKind.wrap .i64 ((IntKind.wrap .i64 (t8*t1))+t9)) 8))).bind fun y2=>cond (decide (0≤(Int.tmod (IntKind.wrap .i64 ((IntKind.wrap .i64 (t8*t1))+t9)) 8))) ((rdL o100 (IntKind.wrap .i64 (Int.tdiv (IntKind.wrap .i64 ((IntKind.wrap .i64 (t8*t1))+t9)) 8))).bind fun y3=>(rdL o100 (IntKind.wrap .i64 (Int.tdiv (IntKind.wrap .i64 ((IntKind.wrap .i64 (t8*t1))+t9)) 8))).bind fun y4=>spec_BitsPack.c12 k (spec_BitsPack.l11 k L6 n) t0 t1 t8 t9 (List.set o100 (Int.toNat (IntKind.wrap .i64 (Int.tdiv (IntKind.wrap .i64 ((IntKind.wrap .i64 (t8*t1))+t9)) 8))) (bits .or .u8 y2 (shlI .u8 1 (Int.tmod (IntKind.wrap .i64 ((IntKind.wrap .i64 (t8*t1))+t9)) 8))))) none) (spec_BitsPack.c12 k (spec_BitsPack.l11 k L6 n) t0 t1 t8 t9 o100)) none) (L6 t0 t1 (IntKind.wrap .i64 (t8+1)) o100)
def spec_BitsPack.l6 (k:Nat):Nat→(List Int)→Int→Int→(List Int)→Option ((Unit×Bool)×(List Int))
 |0,_,_,_,_=>none
 |n+1,t0,t1,t8,o100=>
  cond (decide (t8<(List.length t0:Int))) ((rdL t0 t8).bind fun y5=>(cond (decide (y5<0)) (some (true)) ((rdL t0 t8).bind fun y6=>cond (decide (0≤t1)) (some ((shrI .i64 y6 t1) !=0)) none)).bind fun b7=>cond b7 (some (((),false),[])) (spec_BitsPack.l11 k (spec_BitsPack.l6 k n) k t0 t1 t8 0 o100)) (some (((),true),o100))
def spec_BitsPack (k:Nat) (t0:List Int) (t1:Int):Option ((Unit×Bool)×(List Int)):=
 (spec_BitsSize k (List.length t0:Int) t1).bind fun r8=>cond (decide (r8<0)) (some (((),false),[])) (cond (okLen r8) (spec_BitsPack.l6 k k t0 t1 0 (List.replicate (Int.toNat r8) 0)) none)
def spec_PlainPack.c7 (k:Nat) (L6:Int→(List TVal)→Int→(List Int)→(List Int)→Option ((Unit×Bool)×(List Int))) (t0:Int) (t1:List TVal) (t8:Int) (o100:List Int) (o101:List Int):Option ((Unit×Bool)×(List Int)):=
 L6 t0 t1 (IntKind.wrap .i64 (t8+1)) o100 o101
def spec_PlainPack.l6 (k:Nat):Nat→Int→(List TVal)→Int→(List Int)→(List Int)→Option ((Unit×Bool)×(List Int))
 |0,_,_,_,_,_=>none
 |n+1,t0,t1,t8,o100,o101=>
  cond (decide (t8<(List.length t1:Int))) ((rdL t1 t8).bind fun y1=>cond (t0==0) (cond (lim (List.length o101+List.length [y1.1])) (spec_PlainPack.c7 k (spec_PlainPack.l6 k n) t0 t1 t8 o100 (o101++[y1.1])) none) (cond (t0==1) ((spec_WordPut k y1.1 4).bind fun r2=>cond (lim (List.length o100+List.length r2.2)) (spec_PlainPack.c7 k (spec_PlainPack.l6 k n) t0 t1 t8 (o100++r2.2) o101) none) (cond (t0==6) ((spec_WordPut k (y1.2.1.size:Int) 4).bind fun r3=>cond (lim (List.length o100+List.length r3.2)) (cond (lim (List.length (o100++r3.2)+List.length (strInts y1.2.1))) (spec_PlainPack.c7 k (spec_PlainPack.l6 k n) t0 t1 t8 ((o100++r3.2)++(strInts y1.2.1)) o101) none) none) ((spec_WordPut k y1.1 8).bind fun r4=>cond (lim (List.length o100+List.length r4.2)) (spec_PlainPack.c7 k (spec_PlainPack.l6 k n) t0 t1 t8 (o100++r4.2) o101) none)))) (cond (t0==0) ((spec_BitsPack k o101 1).bind fun r5=>some (((),r5.1.2),r5.2)) (some (((),true),o100)))
def spec_PlainPack (k:Nat) (t0:Int) (t1:List TVal):Option ((Unit×Bool)×(List Int)):=
 (spec_l6Vals k t0 t1).bind fun r6=>cond (!r6) (some (((),false),[])) (spec_PlainPack.l6 k k t0 t1 0 [] [])
def spec_l15Text (k:Nat) (t0:Int) (t1:TVal):Option ByteArray:=
 cond (t0==6) (some t1.2.1) ((spec_PlainPack k t0 [t1]).bind fun r1=>some (intsStr r1.2))
def spec_l15Value.d7 (k:Nat) (t0:Int) (t1:ByteArray) (o100:TVal) (o101:TVal):Option (TVal×Bool):=
 (spec_ValOk k t0 o101).bind fun r1=>cond r1 ((spec_l15Text k t0 o101).bind fun r2=>some (o101,eqS r2 t1)) (some (o101,false))
def spec_l15Value.c7 (k:Nat) (t0:Int) (t1:ByteArray) (o100:TVal) (o101:TVal):Option (TVal×Bool):=
 spec_l15Value.d7 k t0 t1 o100 o101
def spec_l15Value (k:Nat) (t0:Int) (t1:ByteArray):Option (TVal×Bool):=
 cond (t0 !=6) ((spec_PlainRead k t0 (strInts t1) 0 1).bind fun r13=>cond (!r13.1.2.2) (some ((0,(⟨#[]⟩:ByteArray),()),false)) ((rdL r13.2 0).bind fun y14=>spec_l15Value.c7 k t0 t1 (0,(⟨#[]⟩:ByteArray),()) y14)) (spec_l15Value.c7 k t0 t1 (0,(⟨#[]⟩:ByteArray),()) (0,t1,()))
def spec_FloatKey (k:Nat) (t0:Int):Option Int:=
 cond (decide (t0<0)) (some (bits .xor .i64 t0 9223372036854775807)) (some t0)
def spec_ValLess.d5 (k:Nat) (o100:TVal) (o101:TVal):Option Bool:=
 (spec_FloatKey k o100.1).bind fun r1=>(spec_FloatKey k o101.1).bind fun r2=>some (decide (r1<r2))
def spec_ValLess.l8 (k:Nat):Nat→Int→TVal→TVal→Option Bool
 |0,_,_,_=>none
 |n+1,t7,o100,o101=>
  (cond (decide (t7<(o100.2.1.size:Int))) (some (decide (t7<(o101.2.1.size:Int)))) (some (false))).bind fun b9=>cond b9 ((btS o100.2.1 t7).bind fun y10=>(btS o101.2.1 t7).bind fun y11=>cond (y10 !=y11) ((btS o100.2.1 t7).bind fun y12=>(btS o101.2.1 t7).bind fun y13=>some (decide (y12<y13))) ((spec_ValLess.l8 k n) (IntKind.wrap .i64 (t7+1)) o100 o101)) (some (decide ((o100.2.1.size:Int)<(o101.2.1.size:Int))))
def spec_ValLess (k:Nat) (t0:Int) (t1:TVal) (t2:TVal):Option Bool:=
 (spec_ValOk k t0 t1).bind fun r14=>(cond (!r14) (some (true)) ((spec_ValOk k t0 t2).bind fun r15=>some (!r15))).bind fun b16=>cond b16 (some false) (cond (t0==5) (spec_ValLess.d5 k t1 t2) (cond (t0==6) (spec_ValLess.l8 k k 0 t1 t2) (some (decide (t1.1<t2.1)))))
def spec_l15Ok (k:Nat) (t0:TLeaf) (t1:TStats):Option Bool:=
 (spec_LeafOk k t0).bind fun r1=>(cond (!r1) (some (true)) ((spec_l1In k t1.1 0 2000).bind fun r2=>some (!r2))).bind fun b3=>cond b3 (some false) (cond (!t1.2.1) ((cond ((t1.2.2.1.1==0)&&(eqS t1.2.2.1.2.1 (⟨#[]⟩:ByteArray)&&true)) (some (((t1.2.2.2.1.1==0)&&(eqS t1.2.2.2.1.2.1 (⟨#[]⟩:ByteArray)&&true)))) (some (false))).bind fun b4=>some b4) ((spec_ValOk k t0.1 t1.2.2.1).bind fun r5=>(cond r5 ((spec_ValOk k t0.1 t1.2.2.2.1).bind fun r6=>some (r6)) (some (false))).bind fun b7=>(cond b7 ((spec_ValLess k t0.1 t1.2.2.2.1 t1.2.2.1).bind fun r8=>some (!r8)) (some (false))).bind fun b9=>some b9))
def spec_l15From.c15 (k:Nat) (o100:TLeaf) (o101:TStats) (o102:TStats) (o103:TStats):Option (TStats×Bool):=
 (spec_l15Ok k o100 o103).bind fun r1=>cond (!r1) (some (o102,false)) (some (o103,true))
def spec_l15From (k:Nat) (t0:TLeaf) (t1:List TNode) (t2:Int):Option (TStats×Bool):=
 (spec_l4NumOf k t1 t2 3).bind fun r2=>(spec_l4TextOf k t1 t2 5).bind fun r3=>(spec_l4TextOf k t1 t2 6).bind fun r4=>(cond (!r2.2) (some (true)) (some (!(r3.2==r4.2)))).bind fun b5=>(cond b5 (some (true)) ((cond (!r3.2) ((spec_l4Find k t1 t2 5).bind fun r6=>(cond (decide (r6≥0)) (some (true)) ((spec_l4Find k t1 t2 6).bind fun r7=>some (decide (r7≥0)))).bind fun b8=>some (b8)) (some (false))).bind fun b9=>some (b9))).bind fun b10=>cond b10 (some ((0,false,(0,(⟨#[]⟩:ByteArray),()),(0,(⟨#[]⟩:ByteArray),()),()),false)) (cond r3.2 ((spec_l15Value k t0.1 r3.1).bind fun r11=>(spec_l15Value k t0.1 r4.1).bind fun r12=>(cond (!r11.2) (some (true)) (some (!r12.2))).bind fun b13=>cond b13 (some ((0,false,(0,(⟨#[]⟩:ByteArray),()),(0,(⟨#[]⟩:ByteArray),()),()),false)) (spec_l15From.c15 k t0 (0,false,(0,(⟨#[]⟩:ByteArray),()),(0,(⟨#[]⟩:ByteArray),()),()) (0,false,(0,(⟨#[]⟩:ByteArray),()),(0,(⟨#[]⟩:ByteArray),()),()) (r2.1,r3.2,r12.1,r11.1,()))) (spec_l15From.c15 k t0 (0,false,(0,(⟨#[]⟩:ByteArray),()),(0,(⟨#[]⟩:ByteArray),()),()) (0,false,(0,(⟨#[]⟩:ByteArray),()),(0,(⟨#[]⟩:ByteArray),()),()) (r2.1,r3.2,(0,(⟨#[]⟩:ByteArray),()),(0,(⟨#[]⟩:ByteArray),()),())))
def spec_l16Kind.c33 (k:Nat) (o100:THead) (o101:THead):Option (THead×Bool):=
 some (o100,true)
def spec_l16Kind.c27 (k:Nat) (t1:List TNode) (t10:Int) (t11:Int) (o100:TLeaf) (o101:THead) (o102:THead):Option (THead×Bool):=
 cond (decide (t10>0)) ((spec_l4Find k t1 t11 t10).bind fun r1=>(cond (decide (r1≥0)) ((rdL t1 r1).bind fun y2=>some (y2.1==12)) (some (false))).bind fun b3=>cond b3 ((spec_l15From k o100 t1 r1).bind fun r4=>spec_l16Kind.c33 k (o101.1,o101.2.1,o101.2.2.1,o101.2.2.2.1,o101.2.2.2.2.1,o101.2.2.2.2.2.1,o101.2.2.2.2.2.2.1,o101.2.2.2.2.2.2.2.1,o101.2.2.2.2.2.2.2.2.1,o101.2.2.2.2.2.2.2.2.2.1,r4.2,r4.1,o101.2.2.2.2.2.2.2.2.2.2.2.2.1,()) o102) (spec_l16Kind.c33 k o101 o102)) (spec_l16Kind.c33 k o101 o102)
def spec_l16Kind.c7 (k:Nat) (t1:List TNode) (t8:Int) (t10:Int) (o100:TLeaf) (o101:THead) (o102:THead) (o103:List Int):Option (THead×Bool):=
 (spec_l16Part k t1 t8).bind fun r5=>cond (decide (r5<0)) (some (o101,false)) ((spec_l16Ids k t1 r5 o103).bind fun r6=>(cond (!r6.1.2) (some (true)) ((rdL r6.2 0).bind fun y7=>(spec_l1In k y7 0 2000).bind fun r8=>some (!r8))).bind fun b9=>cond b9 (some (o101,false)) ((rdL r6.2 0).bind fun y10=>(rdL r6.2 1).bind fun y11=>cond (o101.1==0) ((rdL r6.2 2).bind fun y12=>(cond (y12 !=3) (some (true)) ((rdL r6.2 3).bind fun y13=>some (y13 !=3))).bind fun b14=>cond b14 (some ((o101.1,o101.2.1,y10,y11,o101.2.2.2.2.1,o101.2.2.2.2.2.1,o101.2.2.2.2.2.2.1,o101.2.2.2.2.2.2.2.1,o101.2.2.2.2.2.2.2.2.1,o101.2.2.2.2.2.2.2.2.2.1,o101.2.2.2.2.2.2.2.2.2.2.1,o101.2.2.2.2.2.2.2.2.2.2.2.1,o101.2.2.2.2.2.2.2.2.2.2.2.2.1,()),false)) (spec_l16Kind.c27 k t1 t10 r5 o100 (o101.1,o101.2.1,y10,y11,o101.2.2.2.2.1,o101.2.2.2.2.2.1,o101.2.2.2.2.2.2.1,o101.2.2.2.2.2.2.2.1,o101.2.2.2.2.2.2.2.2.1,o101.2.2.2.2.2.2.2.2.2.1,o101.2.2.2.2.2.2.2.2.2.2.1,o101.2.2.2.2.2.2.2.2.2.2.2.1,o101.2.2.2.2.2.2.2.2.2.2.2.2.1,()) o102)) (cond (o101.1==3) ((rdL r6.2 2).bind fun y15=>(rdL r6.2 3).bind fun y16=>(rdL r6.2 4).bind fun y17=>(rdL r6.2 5).bind fun y18=>(spec_l4Find k t1 r5 7).bind fun r19=>(cond (decide (y15<0)) (some (true)) (some (decide (y16<0)))).bind fun b20=>(cond b20 (some (true)) (some (decide (y17<0)))).bind fun b21=>(cond b21 (some (true)) (some (decide (y18<0)))).bind fun b22=>(cond b22 (some (true)) (some (decide (r19<0)))).bind fun b23=>(cond b23 (some (true)) ((rdL t1 r19).bind fun y24=>some (y24.1==1))).bind fun b25=>cond b25 (some ((o101.1,o101.2.1,y10,y11,y16,y15,y17,y18,o101.2.2.2.2.2.2.2.2.1,o101.2.2.2.2.2.2.2.2.2.1,o101.2.2.2.2.2.2.2.2.2.2.1,o101.2.2.2.2.2.2.2.2.2.2.2.1,o101.2.2.2.2.2.2.2.2.2.2.2.2.1,()),false)) (spec_l16Kind.c27 k t1 t10 r5 o100 (o101.1,o101.2.1,y10,y11,y16,y15,y17,y18,o101.2.2.2.2.2.2.2.2.1,o101.2.2.2.2.2.2.2.2.2.1,o101.2.2.2.2.2.2.2.2.2.2.1,o101.2.2.2.2.2.2.2.2.2.2.2.1,o101.2.2.2.2.2.2.2.2.2.2.2.2.1,()) o102)) (spec_l16Kind.c27 k t1 t10 r5 o100 (o101.1,o101.2.1,y10,y11,o101.2.2.2.2.1,o101.2.2.2.2.2.1,o101.2.2.2.2.2.2.1,o101.2.2.2.2.2.2.2.1,o101.2.2.2.2.2.2.2.2.1,o101.2.2.2.2.2.2.2.2.2.1,o101.2.2.2.2.2.2.2.2.2.2.1,o101.2.2.2.2.2.2.2.2.2.2.2.1,o101.2.2.2.2.2.2.2.2.2.2.2.2.1,()) o102))))
def spec_l16Kind (k:Nat) (t0:TLeaf) (t1:List TNode) (t2:THead):Option (THead×Bool):=
 cond (t2.1==2) (spec_l16Kind.c7 k t1 7 0 t0 t2 (0,0,0,0,0,0,0,0,false,0,false,(0,false,(0,(⟨#[]⟩:ByteArray),()),(0,(⟨#[]⟩:ByteArray),()),()),0,()) [1,2]) (cond (t2.1==3) (spec_l16Kind.c7 k t1 8 8 t0 t2 (0,0,0,0,0,0,0,0,false,0,false,(0,false,(0,(⟨#[]⟩:ByteArray),()),(0,(⟨#[]⟩:ByteArray),()),()),0,()) [1,4,2,3,5,6]) (spec_l16Kind.c7 k t1 5 5 t0 t2 (0,0,0,0,0,0,0,0,false,0,false,(0,false,(0,(⟨#[]⟩:ByteArray),()),(0,(⟨#[]⟩:ByteArray),()),()),0,()) [1,2,3,4]))
def spec_HeadRead.c17 (k:Nat) (t1:List Int) (t10:Int) (o100:TLeaf) (o101:THead) (o102:THead) (o103:List TNode) (o104:THead):Option (THead×Int):=
 (spec_l16Kind k o100 o103 o104).bind fun r1=>cond (!r1.2) (some (o102,1)) (cond (decide (r1.1.2.1>(IntKind.wrap .i64 ((List.length t1:Int)-t10)))) (some (o102,2)) (some (r1.1,0)))
def spec_HeadRead (k:Nat) (t0:TLeaf) (t1:List Int) (t2:Int):Option (THead×Int):=
 (spec_TreeRead k t1 t2).bind fun r2=>(spec_LeafOk k t0).bind fun r3=>(cond (!r3) (some (true)) (some (r2.1.2.2 !=0))).bind fun b4=>cond b4 (some ((0,0,0,0,0,0,0,0,false,0,false,(0,false,(0,(⟨#[]⟩:ByteArray),()),(0,(⟨#[]⟩:ByteArray),()),()),0,()),1)) ((spec_l16Ids k r2.2 0 [1,2,3]).bind fun r5=>(cond (!r5.1.2) (some (true)) ((rdL r5.2 0).bind fun y6=>(cond (y6 !=0) ((rdL r5.2 0).bind fun y7=>some (y7 !=2)) (some (false))).bind fun b8=>(cond b8 ((rdL r5.2 0).bind fun y9=>some (y9 !=3)) (some (false))).bind fun b10=>some (b10))).bind fun b11=>(cond b11 (some (true)) ((rdL r5.2 1).bind fun y12=>some (decide (y12<0)))).bind fun b13=>(cond b13 (some (true)) ((rdL r5.2 1).bind fun y14=>(rdL r5.2 2).bind fun y15=>some (y14 !=y15))).bind fun b16=>cond b16 (some ((0,0,0,0,0,0,0,0,false,0,false,(0,false,(0,(⟨#[]⟩:ByteArray),()),(0,(⟨#[]⟩:ByteArray),()),()),0,()),1)) ((rdL r5.2 0).bind fun y17=>(rdL r5.2 1).bind fun y18=>(spec_l4Find k r2.2 0 4).bind fun r19=>cond (decide (r19≥0)) ((rdL r2.2 r19).bind fun y20=>cond (y20.1 !=5) (some ((0,0,0,0,0,0,0,0,false,0,false,(0,false,(0,(⟨#[]⟩:ByteArray),()),(0,(⟨#[]⟩:ByteArray),()),()),0,()),1)) ((rdL r2.2 r19).bind fun y21=>cond (decide (y21.2.2.1<0)) (spec_HeadRead.c17 k t1 r2.1.2.1 t0 (0,0,0,0,0,0,0,0,false,0,false,(0,false,(0,(⟨#[]⟩:ByteArray),()),(0,(⟨#[]⟩:ByteArray),()),()),0,()) (0,0,0,0,0,0,0,0,false,0,false,(0,false,(0,(⟨#[]⟩:ByteArray),()),(0,(⟨#[]⟩:ByteArray),()),()),0,()) r2.2 (y17,y18,0,0,0,0,0,0,true,IntKind.wrap .i64 (y21.2.2.1+4294967296),false,(0,false,(0,(⟨#[]⟩:ByteArray),()),(0,(⟨#[]⟩:ByteArray),()),()),r2.1.2.1,())) (spec_HeadRead.c17 k t1 r2.1.2.1 t0 (0,0,0,0,0,0,0,0,false,0,false,(0,false,(0,(⟨#[]⟩:ByteArray),()),(0,(⟨#[]⟩:ByteArray),()),()),0,()) (0,0,0,0,0,0,0,0,false,0,false,(0,false,(0,(⟨#[]⟩:ByteArray),()),(0,(⟨#[]⟩:ByteArray),()),()),0,()) r2.2 (y17,y18,0,0,0,0,0,0,true,y21.2.2.1,false,(0,false,(0,(⟨#[]⟩:ByteArray),()),(0,(⟨#[]⟩:ByteArray),()),()),r2.1.2.1,())))) (spec_HeadRead.c17 k t1 r2.1.2.1 t0 (0,0,0,0,0,0,0,0,false,0,false,(0,false,(0,(⟨#[]⟩:ByteArray),()),(0,(⟨#[]⟩:ByteArray),()),()),0,()) (0,0,0,0,0,0,0,0,false,0,false,(0,false,(0,(⟨#[]⟩:ByteArray),()),(0,(⟨#[]⟩:ByteArray),()),()),0,()) r2.2 (y17,y18,0,0,0,0,0,0,false,0,false,(0,false,(0,(⟨#[]⟩:ByteArray),()),(0,(⟨#[]⟩:ByteArray),()),()),r2.1.2.1,()))))
def spec_l3Turn.c3 (k:Nat) (L2:Int→Int→Option Int) (t0:Int) (t3:Int):Option Int:=
 L2 t0 (IntKind.wrap .i64 (t3+1))
def spec_l3Turn.l2 (k:Nat):Nat→Int→Int→Option Int
 |0,_,_=>none
 |n+1,t0,t3=>
  cond (decide (t3<8)) (cond ((bits .and .i64 t0 1)==1) (spec_l3Turn.c3 k (spec_l3Turn.l2 k n) (bits .xor .i64 (IntKind.wrap .i64 (Int.tdiv t0 2)) 3988292384) t3) (spec_l3Turn.c3 k (spec_l3Turn.l2 k n) (IntKind.wrap .i64 (Int.tdiv t0 2)) t3)) (some t0)
def spec_l3Turn (k:Nat) (t0:Int):Option Int:=
 spec_l3Turn.l2 k k t0 0
def spec_CrcMore.l5 (k:Nat):Nat→(List Int)→Int→Int→Option Int
 |0,_,_,_=>none
 |n+1,t1,t5,t6=>
  cond (decide (t6<(List.length t1:Int))) ((rdL t1 t6).bind fun y1=>(spec_l3Turn k (bits .xor .i64 (bits .and .i64 t5 255) (IntKind.wrap .i64 y1))).bind fun r2=>(spec_CrcMore.l5 k n) t1 (bits .xor .i64 (shrI .i64 t5 8) r2) (IntKind.wrap .i64 (t6+1))) (some (bits .xor .i64 t5 4294967295))
def spec_CrcMore (k:Nat) (t0:Int) (t1:List Int):Option Int:=
 (spec_l1In k t0 0 4294967295).bind fun r3=>cond (!r3) (some (-1)) (spec_CrcMore.l5 k k t1 (bits .xor .i64 t0 4294967295) 0)
def spec_CrcOf (k:Nat) (t0:List Int):Option Int:=
 (spec_CrcMore k 0 t0).bind fun r1=>some r1
def spec_DictRead.d8 (k:Nat) (t0:Int) (t12:List Int) (o100:List TVal) (o101:THead):Option ((Unit×Int×Int)×(List TVal)):=
 cond o101.2.2.2.2.2.2.2.2.1 ((spec_CrcOf k t12).bind fun r1=>cond (r1 !=o101.2.2.2.2.2.2.2.2.2.1) (some (((),0,3),o100)) ((spec_PlainRead k t0 t12 0 o101.2.2.1).bind fun r2=>(cond (!r2.1.2.2) (some (true)) (some (r2.1.2.1 !=(List.length t12:Int)))).bind fun b3=>cond b3 (some (((),0,5),o100)) (some (((),IntKind.wrap .i64 (o101.2.2.2.2.2.2.2.2.2.2.2.2.1+o101.2.1),0),r2.2)))) (cond false (some (((),0,3),o100)) ((spec_PlainRead k t0 t12 0 o101.2.2.1).bind fun r4=>(cond (!r4.1.2.2) (some (true)) (some (r4.1.2.1 !=(List.length t12:Int)))).bind fun b5=>cond b5 (some (((),0,5),o100)) (some (((),IntKind.wrap .i64 (o101.2.2.2.2.2.2.2.2.2.2.2.2.1+o101.2.1),0),r4.2))))
def spec_DictRead (k:Nat) (t0:Int) (t1:List Int) (t2:Int):Option ((Unit×Int×Int)×(List TVal)):=
 (spec_HeadRead k (t0,0,0,()) t1 t2).bind fun r16=>cond (r16.2 !=0) (some (((),0,r16.2),[])) ((cond (r16.1.1 !=2) (some (true)) ((cond (r16.1.2.2.2.1 !=0) (some (r16.1.2.2.2.1 !=2)) (some (false))).bind fun b17=>some (b17))).bind fun b18=>cond b18 (some (((),0,1),[])) (cond (inSl r16.1.2.2.2.2.2.2.2.2.2.2.2.2.1 (IntKind.wrap .i64 (r16.1.2.2.2.2.2.2.2.2.2.2.2.2.1+r16.1.2.1)) (List.length t1)) (spec_DictRead.d8 k t0 (cutL t1 r16.1.2.2.2.2.2.2.2.2.2.2.2.2.1 (IntKind.wrap .i64 (r16.1.2.2.2.2.2.2.2.2.2.2.2.2.1+r16.1.2.1))) [] r16.1) none))
def spec_ChunkPages.l13 (k:Nat):Nat→(List Int)→Int→Int→TLeaf→TChunk→(List Int)→(List TVal)→(List TVal)→(List Int)→Option ((Unit×Unit×Int)×(List Int)×(List TVal))
 |0,_,_,_,_,_,_,_,_,_=>none
 |n+1,t1,t16,t17,o100,o101,o102,o103,o104,o105=>
  cond (decide (t17<o101.2.2.2.1)) ((spec_HeadRead k o100 t1 t16).bind fun r1=>cond (r1.2 !=0) (some (((),(),r1.2),(o102,o103))) ((cond (r1.1.1==2) (some (true)) (some (r1.1.2.2.1==0))).bind fun b2=>(cond b2 (some (true)) (some (decide ((IntKind.wrap .i64 (t17+r1.1.2.2.1))>o101.2.2.2.1)))).bind fun b3=>cond b3 (some (((),(),1),(o102,o103))) (cond (lim (List.length o105+List.length [t16])) ((spec_ChunkPages.l13 k n) t1 (IntKind.wrap .i64 (r1.1.2.2.2.2.2.2.2.2.2.2.2.2.1+r1.1.2.1)) (IntKind.wrap .i64 (t17+r1.1.2.2.1)) o100 o101 o102 o103 o104 (o105++[t16])) none))) (some (((),(),0),(o105,o104)))
def spec_ChunkPages.c10 (k:Nat) (t1:List Int) (o100:TLeaf) (o101:TChunk) (o102:List Int) (o103:List TVal) (o104:List TVal):Option ((Unit×Unit×Int)×(List Int)×(List TVal)):=
 spec_ChunkPages.l13 k k t1 o101.2.1 0 o100 o101 o102 o103 o104 []
def spec_ChunkPages (k:Nat) (t0:TLeaf) (t1:List Int) (t2:TChunk):Option ((Unit×Unit×Int)×(List Int)×(List TVal)):=
 (cond (decide (t2.2.1<0)) (some (true)) (some (decide (t2.2.2.1<(-1))))).bind fun b4=>cond b4 (some (((),(),1),([],[]))) (cond (decide (t2.2.2.1≥0)) ((spec_DictRead k t0.1 t1 t2.2.2.1).bind fun r5=>cond (r5.1.2.2 !=0) (some (((),(),r5.1.2.2),([],[]))) (spec_ChunkPages.c10 k t1 t0 t2 [] [] r5.2)) (spec_ChunkPages.c10 k t1 t0 t2 [] [] []))
def spec_PagesOf.d12 (k:Nat) (L9:(List Int)→Int→Int→Int→(Unit×Int×Unit×Unit)→(List TCol)→(List TGroupMeta)→Option (Int×Int)) (t0:List Int) (t6:Int) (t7:Int) (t8:Int) (o100:Unit×Int×Unit×Unit) (o101:TLeaf) (o102:List TCol) (o103:List TGroupMeta):Option (Int×Int):=
 (rdL o103 t7).bind fun y1=>(rdL y1.2.1 t8).bind fun y2=>(spec_ChunkPages k o101 t0 y2).bind fun r3=>cond (r3.1.2.2 !=0) (some (0,4)) (L9 t0 (IntKind.wrap .i64 (t6+(List.length r3.2.1:Int))) t7 (IntKind.wrap .i64 (t8+1)) o100 o102 o103)
def spec_PagesOf.l9 (k:Nat) (L6:(List Int)→Int→Int→(Unit×Int×Unit×Unit)→(List TCol)→(List TGroupMeta)→Option (Int×Int)):Nat→(List Int)→Int→Int→Int→(Unit×Int×Unit×Unit)→(List TCol)→(List TGroupMeta)→Option (Int×Int)
 |0,_,_,_,_,_,_,_=>none
 |n+1,t0,t6,t7,t8,o100,o101,o102=>
  (rdL o102 t7).bind fun y7=>cond (decide (t8<(List.length y7.2.1:Int))) ((spec_LeafOf k o101 t8).bind fun r8=>spec_PagesOf.d12 k (spec_PagesOf.l9 k L6 n) t0 t6 t7 t8 o100 r8.1 o101 o102) (L6 t0 t6 (IntKind.wrap .i64 (t7+1)) o100 o101 o102)
def spec_PagesOf.l6 (k:Nat):Nat→(List Int)→Int→Int→(Unit×Int×Unit×Unit)→(List TCol)→(List TGroupMeta)→Option (Int×Int)
 |0,_,_,_,_,_,_=>none
 |n+1,t0,t6,t7,o100,o101,o102=>
  cond (decide (t7<(List.length o102:Int))) (spec_PagesOf.l9 k (spec_PagesOf.l6 k n) k t0 t6 t7 0 o100 o101 o102) (some (t6,0))
def spec_PagesOf (k:Nat) (t0:List Int):Option (Int×Int):=
 (spec_FileMeta k t0).bind fun r9=>cond (r9.1.2 !=0) (some (0,r9.1.2)) (spec_PagesOf.l6 k k t0 0 0 r9.1.1 r9.2.1 r9.2.2)
def impl_within (k:Nat) (t0:Int) (t1:Int) (t2:Int):Option Bool:=
 (cond (decide (t0≥t1)) (some (decide (t0≤t2))) (some (false))).bind fun b1=>some b1
def impl_WordGet.l5 (k:Nat):Nat→(List Int)→Int→Int→Int→Int→Int→Option (Int×Int×Bool)
 |0,_,_,_,_,_,_=>none
 |n+1,t0,t1,t2,t9,t26,t27=>
  cond (decide (t27<t26)) ((rdL t0 (IntKind.wrap .i64 (t1+t27))).bind fun y1=>cond (decide (0≤(IntKind.wrap .i64 (8*t27)))) ((impl_WordGet.l5 k n) t0 t1 t2 (bits .or .i64 t9 (shlI .i64 (IntKind.wrap .i64 y1) (IntKind.wrap .i64 (8*t27)))) t26 (IntKind.wrap .i64 (t27+1))) none) (some (t9,IntKind.wrap .i64 (t1+t2),true))
def impl_WordGet (k:Nat) (t0:List Int) (t1:Int) (t2:Int):Option (Int×Int×Bool):=
 (impl_within k t2 1 8).bind fun r2=>(cond (!r2) (some (true)) (some (decide (t1<0)))).bind fun b3=>(cond b3 (some (true)) (some (decide (t1>(IntKind.wrap .i64 ((List.length t0:Int)-t2)))))).bind fun b4=>cond b4 (some (0,0,false)) (impl_WordGet.l5 k k t0 t1 t2 0 t2 0)
def impl_Zag (k:Nat) (t0:Int):Option Int:=
 some (bits .xor .i64 (IntKind.wrap .i64 (shrI .u64 (IntKind.wrap .u64 t0) 1)) (IntKind.wrap .i64 (0-(bits .and .i64 t0 1))))
def impl_isInt32 (k:Nat) (t0:Int):Option Bool:=
 (impl_within k t0 (-2147483648) 2147483647).bind fun r1=>some r1
def impl_treeReader_fail (k:Nat) (t1:Int) (o0:TTreeReaderB) (o10:List TNode):Option (Unit×TTreeReaderB×(List TNode)):=
 cond (o0.2.2.2.1==0) (some ((),((o0.1,o0.2.1,(),t1,()),o10))) (some ((),(o0,o10)))
def impl_treeReader_begin.c3 (k:Nat) (o0:TTreeReaderB) (o10:List TNode) (o100:TNode):Option (Int×TTreeReaderB×(List TNode)):=
 cond (o0.2.2.2.1 !=0) (some (0,(o0,o10))) (cond (lim (List.length o10+List.length [o100])) (some (IntKind.wrap .i64 ((List.length (o10++[o100]):Int)-1),(o0,o10++[o100]))) none)
def impl_treeReader_begin (k:Nat) (t1:TNode) (t2:Int) (o0:TTreeReaderB) (o10:List TNode):Option (Int×TTreeReaderB×(List TNode)):=
 (cond (decide (t2>12)) (some (true)) (some ((List.length o10:Int)==1500))).bind fun b1=>cond b1 ((impl_treeReader_fail k 4 o0 o10).bind fun r2=>impl_treeReader_begin.c3 k r2.2.1 r2.2.2 t1) (impl_treeReader_begin.c3 k o0 o10 t1)
def impl_UvarGet.c12 (k:Nat):Option (Int×Int×Bool):=
 some (0,0,false)
def impl_UvarGet.l5 (k:Nat):Nat→(List Int)→Int→Int→Int→Option (Int×Int×Bool)
 |0,_,_,_,_=>none
 |n+1,t0,t1,t7,t8=>
  (cond (decide (t8<10)) (some (decide (t8<(IntKind.wrap .i64 ((List.length t0:Int)-t1))))) (some (false))).bind fun b1=>cond b1 ((rdL t0 (IntKind.wrap .i64 (t1+t8))).bind fun y2=>(cond (t8==9) (some (decide (y2>1))) (some (false))).bind fun b3=>cond b3 (impl_UvarGet.c12 k) (cond (decide (0≤(IntKind.wrap .i64 (7*t8)))) (cond (decide (y2<128)) (some (IntKind.wrap .i64 (bits .or .u64 t7 (shlI .u64 (IntKind.wrap .u64 (bits .and .u8 y2 127)) (IntKind.wrap .i64 (7*t8)))),IntKind.wrap .i64 ((IntKind.wrap .i64 (t1+t8))+1),true)) ((impl_UvarGet.l5 k n) t0 t1 (bits .or .u64 t7 (shlI .u64 (IntKind.wrap .u64 (bits .and .u8 y2 127)) (IntKind.wrap .i64 (7*t8)))) (IntKind.wrap .i64 (t8+1)))) none)) (impl_UvarGet.c12 k)
def impl_UvarGet (k:Nat) (t0:List Int) (t1:Int):Option (Int×Int×Bool):=
 cond (decide (t1<0)) (some (0,0,false)) (impl_UvarGet.l5 k k t0 t1 0 0)
def impl_treeReader_uvar (k:Nat) (o0:TTreeReaderB) (o10:List TNode):Option (Int×TTreeReaderB×(List TNode)):=
 (impl_UvarGet k o0.1 o0.2.1).bind fun r1=>(cond (o0.2.2.2.1 !=0) (some (true)) (some (!r1.2.2))).bind fun b2=>cond b2 ((impl_treeReader_fail k 1 o0 o10).bind fun r3=>some (0,(r3.2.1,r3.2.2))) (some (r1.1,((o0.1,r1.2.1,(),o0.2.2.2.1,()),o10)))
def impl_treeReader_text.c6 (k:Nat) (t3:Int) (o0:TTreeReaderB) (o10:List TNode):Option (ByteArray×TTreeReaderB×(List TNode)):=
 cond (o0.2.2.2.1 !=0) (some ((⟨#[]⟩:ByteArray),(o0,o10))) (cond (inSl (IntKind.wrap .i64 ((IntKind.wrap .i64 (o0.2.1+t3))-t3)) (IntKind.wrap .i64 (o0.2.1+t3)) (List.length o0.1)) (some (intsStr (cutL o0.1 (IntKind.wrap .i64 ((IntKind.wrap .i64 (o0.2.1+t3))-t3)) (IntKind.wrap .i64 (o0.2.1+t3))),((o0.1,IntKind.wrap .i64 (o0.2.1+t3),(),o0.2.2.2.1,()),o10))) none)
def impl_treeReader_text.c4 (k:Nat) (t3:Int) (o0:TTreeReaderB) (o10:List TNode):Option (ByteArray×TTreeReaderB×(List TNode)):=
 (cond (o0.2.2.2.1==0) (some (decide (t3>(IntKind.wrap .i64 ((List.length o0.1:Int)-o0.2.1))))) (some (false))).bind fun b1=>cond b1 ((impl_treeReader_fail k 1 o0 o10).bind fun r2=>impl_treeReader_text.c6 k t3 r2.2.1 r2.2.2) (impl_treeReader_text.c6 k t3 o0 o10)
def impl_treeReader_text (k:Nat) (o0:TTreeReaderB) (o10:List TNode):Option (ByteArray×TTreeReaderB×(List TNode)):=
 (impl_treeReader_uvar k o0 o10).bind fun r3=>(cond (r3.2.1.2.2.2.1==0) ((impl_within k r3.1 0 300).bind fun r4=>some (!r4)) (some (false))).bind fun b5=>cond b5 ((impl_treeReader_fail k 4 r3.2.1 r3.2.2).bind fun r6=>impl_treeReader_text.c4 k r3.1 r6.2.1 r6.2.2) (impl_treeReader_text.c4 k r3.1 r3.2.1 r3.2.2)
def impl_treeReader_one (k:Nat) (o0:TTreeReaderB) (o10:List TNode):Option (Int×TTreeReaderB×(List TNode)):=
 (cond (o0.2.2.2.1 !=0) (some (true)) (some (decide (o0.2.1≥(List.length o0.1:Int))))).bind fun b1=>cond b1 ((impl_treeReader_fail k 1 o0 o10).bind fun r2=>some (0,(r2.2.1,r2.2.2))) ((rdL o0.1 (IntKind.wrap .i64 ((IntKind.wrap .i64 (o0.2.1+1))-1))).bind fun y3=>some (IntKind.wrap .i64 y3,((o0.1,IntKind.wrap .i64 (o0.2.1+1),(),o0.2.2.2.1,()),o10)))
def impl_isType.c10 (k:Nat) (t11:Bool):Option Bool:=
 cond t11 (some true) (some false)
def impl_isType.c4 (k:Nat) (t1:Bool) (t5:Int) (t6:Bool):Option Bool:=
 cond t6 (some (!t1)) (cond (t5==5) (impl_isType.c10 k (t5==5)) (cond (t5==6) (impl_isType.c10 k (t5==6)) (cond (t5==8) (impl_isType.c10 k (t5==8)) (cond (t5==9) (impl_isType.c10 k (t5==9)) (impl_isType.c10 k (t5==12))))))
def impl_isType (k:Nat) (t0:Int) (t1:Bool):Option Bool:=
 cond (t0==1) (impl_isType.c4 k t1 t0 (t0==1)) (impl_isType.c4 k t1 t0 (t0==2))
def impl_treeReader_node.c8 (k:Nat) (t8:Int) (t9:Int) (o0:TTreeReaderB) (o100:List TNode):Option (Unit×TTreeReaderB×(List TNode)):=
 (rdL o100 t8).bind fun y1=>(rdL o100 t8).bind fun y2=>some ((),(o0,List.set o100 (Int.toNat t8) (y2.1,y2.2.1,t9,y2.2.2.2.1,y2.2.2.2.2.1,())))
def impl_treeReader_node.d10 (k:Nat) (t8:Int) (o0:TTreeReaderB) (o100:List TNode):Option (Unit×TTreeReaderB×(List TNode)):=
 (impl_treeReader_text k o0 o100).bind fun r3=>(rdL r3.2.2 t8).bind fun y4=>(rdL r3.2.2 t8).bind fun y5=>some ((),(r3.2.1,List.set r3.2.2 (Int.toNat t8) (y5.1,y5.2.1,y5.2.2.1,r3.1,y5.2.2.2.2.1,())))
def impl_treeReader_node.c5 (k:Nat) (S301:Int→Int→TTreeReaderB→(List TNode)→Option (Unit×TTreeReaderB×(List TNode))) (S302:Int→Int→TTreeReaderB→(List TNode)→Option (Unit×TTreeReaderB×(List TNode))) (t1:Int) (t3:Int) (t8:Int) (t21:Int) (t22:Bool) (o0:TTreeReaderB) (o100:List TNode):Option (Unit×TTreeReaderB×(List TNode)):=
 cond t22 ((impl_treeReader_uvar k o0 o100).bind fun r12=>(impl_Zag k r12.1).bind fun r13=>(cond (t1==5) (some (r12.2.1.2.2.2.1==0)) (some (false))).bind fun b14=>(cond b14 ((impl_isInt32 k r13).bind fun r15=>some (!r15)) (some (false))).bind fun b16=>cond b16 ((impl_treeReader_fail k 3 r12.2.1 r12.2.2).bind fun r17=>impl_treeReader_node.c8 k t8 r13 r17.2.1 r17.2.2) (impl_treeReader_node.c8 k t8 r13 r12.2.1 r12.2.2)) (cond (t21==8) (impl_treeReader_node.d10 k t8 o0 o100) (cond (t21==9) ((S301 t8 t3 o0 o100).bind fun r18=>some ((),(r18.2.1,r18.2.2))) (cond (t21==12) ((S302 t8 t3 o0 o100).bind fun r19=>some ((),(r19.2.1,r19.2.2))) (some ((),(o0,o100))))))
def impl_treeReader_node.b (k:Nat) (S249:Int→Int→Int→TTreeReaderB→(List TNode)→Option (Unit×TTreeReaderB×(List TNode))) (S301:Int→Int→TTreeReaderB→(List TNode)→Option (Unit×TTreeReaderB×(List TNode))) (S302:Int→Int→TTreeReaderB→(List TNode)→Option (Unit×TTreeReaderB×(List TNode))) (t1:Int) (t2:Int) (t3:Int) (o0:TTreeReaderB) (o10:List TNode):Option (Unit×TTreeReaderB×(List TNode)):=
 (impl_treeReader_begin k (t1,t2,0,(⟨#[]⟩:ByteArray),0,()) t3 o0 o10).bind fun r20=>cond (r20.2.1.2.2.2.1 !=0) (some ((),(r20.2.1,r20.2.2))) (cond (t1==5) (impl_treeReader_node.c5 k S301 S302 t1 t3 r20.1 t1 (t1==5) r20.2.1 r20.2.2) (impl_treeReader_node.c5 k S301 S302 t1 t3 r20.1 t1 (t1==6) r20.2.1 r20.2.2))
def impl_treeReader_parts.l11 (k:Nat) (S249:Int→Int→Int→TTreeReaderB→(List TNode)→Option (Unit×TTreeReaderB×(List TNode))):Nat→Int→Int→Int→Int→TTreeReaderB→(List TNode)→Option (Unit×TTreeReaderB×(List TNode))
 |0,_,_,_,_,_,_=>none
 |n+1,t2,t7,t8,t9,o0,o100=>
  (cond (decide (t9<t7)) (some (o0.2.2.2.1==0)) (some (false))).bind fun b1=>cond b1 ((S249 t8 0 (IntKind.wrap .i64 (t2+1)) o0 o100).bind fun r2=>(impl_treeReader_parts.l11 k S249 n) t2 t7 t8 (IntKind.wrap .i64 (t9+1)) r2.2.1 r2.2.2) (some ((),(o0,o100)))
def impl_treeReader_parts.c9 (k:Nat) (S249:Int→Int→Int→TTreeReaderB→(List TNode)→Option (Unit×TTreeReaderB×(List TNode))) (t1:Int) (t2:Int) (t7:Int) (t8:Int) (o0:TTreeReaderB) (o10:List TNode):Option (Unit×TTreeReaderB×(List TNode)):=
 (rdL o10 t1).bind fun y3=>(rdL o10 t1).bind fun y4=>(rdL (List.set o10 (Int.toNat t1) (y4.1,y4.2.1,y4.2.2.1,y4.2.2.2.1,t7,())) t1).bind fun y5=>(rdL (List.set o10 (Int.toNat t1) (y4.1,y4.2.1,y4.2.2.1,y4.2.2.2.1,t7,())) t1).bind fun y6=>impl_treeReader_parts.l11 k S249 k t2 t7 t8 0 o0 (List.set (List.set o10 (Int.toNat t1) (y4.1,y4.2.1,y4.2.2.1,y4.2.2.2.1,t7,())) (Int.toNat t1) (y6.1,y6.2.1,t8,y6.2.2.2.1,y6.2.2.2.2.1,()))
def impl_treeReader_parts.c7 (k:Nat) (S249:Int→Int→Int→TTreeReaderB→(List TNode)→Option (Unit×TTreeReaderB×(List TNode))) (t1:Int) (t2:Int) (t7:Int) (t8:Int) (o0:TTreeReaderB) (o10:List TNode):Option (Unit×TTreeReaderB×(List TNode)):=
 (impl_within k t7 0 1500).bind fun r7=>cond (!r7) ((impl_treeReader_fail k 4 o0 o10).bind fun r8=>impl_treeReader_parts.c9 k S249 t1 t2 t7 t8 r8.2.1 r8.2.2) (impl_treeReader_parts.c9 k S249 t1 t2 t7 t8 o0 o10)
def impl_treeReader_parts.c4 (k:Nat) (S249:Int→Int→Int→TTreeReaderB→(List TNode)→Option (Unit×TTreeReaderB×(List TNode))) (t1:Int) (t2:Int) (t7:Int) (t8:Int) (o0:TTreeReaderB) (o10:List TNode):Option (Unit×TTreeReaderB×(List TNode)):=
 (cond (o0.2.2.2.1 !=0) (some (true)) (some (t7==0))).bind fun b9=>cond b9 (some ((),(o0,o10))) ((impl_isType k t8 true).bind fun r10=>cond (!r10) ((impl_treeReader_fail k 2 o0 o10).bind fun r11=>impl_treeReader_parts.c7 k S249 t1 t2 t7 t8 r11.2.1 r11.2.2) (impl_treeReader_parts.c7 k S249 t1 t2 t7 t8 o0 o10))
def impl_treeReader_parts.b (k:Nat) (S249:Int→Int→Int→TTreeReaderB→(List TNode)→Option (Unit×TTreeReaderB×(List TNode))) (S301:Int→Int→TTreeReaderB→(List TNode)→Option (Unit×TTreeReaderB×(List TNode))) (S302:Int→Int→TTreeReaderB→(List TNode)→Option (Unit×TTreeReaderB×(List TNode))) (t1:Int) (t2:Int) (o0:TTreeReaderB) (o10:List TNode):Option (Unit×TTreeReaderB×(List TNode)):=
 (impl_treeReader_one k o0 o10).bind fun r12=>cond ((IntKind.wrap .i64 (Int.tdiv r12.1 16))==15) ((impl_treeReader_uvar k r12.2.1 r12.2.2).bind fun r13=>impl_treeReader_parts.c4 k S249 t1 t2 r13.1 (Int.tmod r12.1 16) r13.2.1 r13.2.2) (impl_treeReader_parts.c4 k S249 t1 t2 (IntKind.wrap .i64 (Int.tdiv r12.1 16)) (Int.tmod r12.1 16) r12.2.1 r12.2.2)
def impl_treeReader_fields.c12 (k:Nat) (S249:Int→Int→Int→TTreeReaderB→(List TNode)→Option (Unit×TTreeReaderB×(List TNode))) (L1:Int→Int→Int→TTreeReaderB→(List TNode)→Option (Unit×TTreeReaderB×(List TNode))) (t1:Int) (t2:Int) (t8:Int) (t9:Int) (o0:TTreeReaderB) (o100:List TNode):Option (Unit×TTreeReaderB×(List TNode)):=
 cond (o0.2.2.2.1 !=0) (some ((),(o0,o100))) ((rdL o100 t1).bind fun y1=>(rdL o100 t1).bind fun y2=>(rdL o100 t1).bind fun y3=>(S249 t8 t9 (IntKind.wrap .i64 (t2+1)) o0 (List.set o100 (Int.toNat t1) (y3.1,y3.2.1,y3.2.2.1,y3.2.2.2.1,IntKind.wrap .i64 (y1.2.2.2.2.1+1),()))).bind fun r4=>L1 t1 t2 t9 r4.2.1 r4.2.2)
def impl_treeReader_fields.c10 (k:Nat) (S249:Int→Int→Int→TTreeReaderB→(List TNode)→Option (Unit×TTreeReaderB×(List TNode))) (L1:Int→Int→Int→TTreeReaderB→(List TNode)→Option (Unit×TTreeReaderB×(List TNode))) (t1:Int) (t2:Int) (t6:Int) (t8:Int) (t9:Int) (o0:TTreeReaderB) (o100:List TNode):Option (Unit×TTreeReaderB×(List TNode)):=
 (cond (o0.2.2.2.1==0) (some (decide (t9≤t6))) (some (false))).bind fun b5=>cond b5 ((impl_treeReader_fail k 5 o0 o100).bind fun r6=>impl_treeReader_fields.c12 k S249 L1 t1 t2 t8 t9 r6.2.1 r6.2.2) (impl_treeReader_fields.c12 k S249 L1 t1 t2 t8 t9 o0 o100)
def impl_treeReader_fields.c8 (k:Nat) (S249:Int→Int→Int→TTreeReaderB→(List TNode)→Option (Unit×TTreeReaderB×(List TNode))) (L1:Int→Int→Int→TTreeReaderB→(List TNode)→Option (Unit×TTreeReaderB×(List TNode))) (t1:Int) (t2:Int) (t6:Int) (t8:Int) (t9:Int) (o0:TTreeReaderB) (o100:List TNode):Option (Unit×TTreeReaderB×(List TNode)):=
 (cond (o0.2.2.2.1==0) ((impl_within k t9 1 1000).bind fun r7=>some (!r7)) (some (false))).bind fun b8=>cond b8 ((impl_treeReader_fail k 3 o0 o100).bind fun r9=>impl_treeReader_fields.c10 k S249 L1 t1 t2 t6 t8 t9 r9.2.1 r9.2.2) (impl_treeReader_fields.c10 k S249 L1 t1 t2 t6 t8 t9 o0 o100)
def impl_treeReader_fields.c6 (k:Nat) (S249:Int→Int→Int→TTreeReaderB→(List TNode)→Option (Unit×TTreeReaderB×(List TNode))) (L1:Int→Int→Int→TTreeReaderB→(List TNode)→Option (Unit×TTreeReaderB×(List TNode))) (t1:Int) (t2:Int) (t6:Int) (t7:Int) (t8:Int) (t9:Int) (o0:TTreeReaderB) (o100:List TNode):Option (Unit×TTreeReaderB×(List TNode)):=
 cond (decide (t7<16)) ((impl_treeReader_uvar k o0 o100).bind fun r10=>(impl_Zag k r10.1).bind fun r11=>impl_treeReader_fields.c8 k S249 L1 t1 t2 t6 t8 r11 r10.2.1 r10.2.2) (impl_treeReader_fields.c8 k S249 L1 t1 t2 t6 t8 t9 o0 o100)
def impl_treeReader_fields.l1 (k:Nat) (S249:Int→Int→Int→TTreeReaderB→(List TNode)→Option (Unit×TTreeReaderB×(List TNode))):Nat→Int→Int→Int→TTreeReaderB→(List TNode)→Option (Unit×TTreeReaderB×(List TNode))
 |0,_,_,_,_,_=>none
 |n+1,t1,t2,t6,o0,o100=>
  (impl_treeReader_one k o0 o100).bind fun r12=>(cond (r12.2.1.2.2.2.1 !=0) (some (true)) (some (r12.1==0))).bind fun b13=>cond b13 (some ((),(r12.2.1,r12.2.2))) ((impl_isType k (Int.tmod r12.1 16) false).bind fun r14=>cond (!r14) ((impl_treeReader_fail k 2 r12.2.1 r12.2.2).bind fun r15=>impl_treeReader_fields.c6 k S249 (impl_treeReader_fields.l1 k S249 n) t1 t2 t6 r12.1 (Int.tmod r12.1 16) (IntKind.wrap .i64 (t6+(IntKind.wrap .i64 (Int.tdiv r12.1 16)))) r15.2.1 r15.2.2) (impl_treeReader_fields.c6 k S249 (impl_treeReader_fields.l1 k S249 n) t1 t2 t6 r12.1 (Int.tmod r12.1 16) (IntKind.wrap .i64 (t6+(IntKind.wrap .i64 (Int.tdiv r12.1 16)))) r12.2.1 r12.2.2))
def impl_treeReader_fields.b (k:Nat) (S249:Int→Int→Int→TTreeReaderB→(List TNode)→Option (Unit×TTreeReaderB×(List TNode))) (S301:Int→Int→TTreeReaderB→(List TNode)→Option (Unit×TTreeReaderB×(List TNode))) (S302:Int→Int→TTreeReaderB→(List TNode)→Option (Unit×TTreeReaderB×(List TNode))) (t1:Int) (t2:Int) (o0:TTreeReaderB) (o10:List TNode):Option (Unit×TTreeReaderB×(List TNode)):=
 impl_treeReader_fields.l1 k S249 k t1 t2 0 o0 o10
def impl_treeReader_node.rec (k:Nat):Nat→(Int→Int→Int→TTreeReaderB→(List TNode)→Option (Unit×TTreeReaderB×(List TNode)))×(Int→Int→TTreeReaderB→(List TNode)→Option (Unit×TTreeReaderB×(List TNode)))×(Int→Int→TTreeReaderB→(List TNode)→Option (Unit×TTreeReaderB×(List TNode)))
 |0=>(fun _ _ _ _ _=>none,fun _ _ _ _=>none,fun _ _ _ _=>none)
 |d+1=>(impl_treeReader_node.b k ((impl_treeReader_node.rec k d).1) ((impl_treeReader_node.rec k d).2.1) ((impl_treeReader_node.rec k d).2.2),impl_treeReader_parts.b k ((impl_treeReader_node.rec k d).1) ((impl_treeReader_node.rec k d).2.1) ((impl_treeReader_node.rec k d).2.2),impl_treeReader_fields.b k ((impl_treeReader_node.rec k d).1) ((impl_treeReader_node.rec k d).2.1) ((impl_treeReader_node.rec k d).2.2))
def impl_treeReader_node.d (k d:Nat):Int→Int→Int→TTreeReaderB→(List TNode)→Option (Unit×TTreeReaderB×(List TNode)):=(impl_treeReader_node.rec k d).1
def impl_treeReader_node (k:Nat):Int→Int→Int→TTreeReaderB→(List TNode)→Option (Unit×TTreeReaderB×(List TNode)):=impl_treeReader_node.d k k
def impl_treeReader_parts.d (k d:Nat):Int→Int→TTreeReaderB→(List TNode)→Option (Unit×TTreeReaderB×(List TNode)):=(impl_treeReader_node.rec k d).2.1
def impl_treeReader_parts (k:Nat):Int→Int→TTreeReaderB→(List TNode)→Option (Unit×TTreeReaderB×(List TNode)):=impl_treeReader_parts.d k k
def impl_treeReader_fields.d (k d:Nat):Int→Int→TTreeReaderB→(List TNode)→Option (Unit×TTreeReaderB×(List TNode)):=(impl_treeReader_node.rec k d).2.2
def impl_treeReader_fields (k:Nat):Int→Int→TTreeReaderB→(List TNode)→Option (Unit×TTreeReaderB×(List TNode)):=impl_treeReader_fields.d k k
def impl_TreeRead (k:Nat) (t0:List Int) (t1:Int):Option ((Unit×Int×Int)×(List TNode)):=
 (impl_within k t1 0 (IntKind.wrap .i64 ((List.length t0:Int)-1))).bind fun r1=>cond (!r1) (some (((),0,1),[])) ((impl_treeReader_node k 12 0 1 (t0,t1,(),0,()) []).bind fun r2=>cond (r2.2.1.2.2.2.1 !=0) (some (((),0,r2.2.1.2.2.2.1),[])) (some (((),r2.2.1.2.1,0),r2.2.2)))
def impl_TypeOk (k:Nat) (t0:Int):Option Bool:=
 (impl_within k t0 0 2).bind fun r1=>(cond r1 (some (true)) (some (t0==5))).bind fun b2=>(cond b2 (some (true)) (some (t0==6))).bind fun b3=>some b3
def impl_colOk (k:Nat) (t0:TCol):Option Bool:=
 (cond (t0.2.1==7) (some (decide (t0.2.2.2.1>0))) (some (false))).bind fun b1=>(impl_TypeOk k t0.2.1).bind fun r2=>(cond r2 (some (t0.2.2.2.1==0)) (some (false))).bind fun b3=>(cond b1 (some (true)) (some (b3))).bind fun b4=>(cond b4 ((impl_within k t0.2.2.1 0 2).bind fun r5=>some (r5)) (some (false))).bind fun b6=>some b6
def impl_isColName.l2 (k:Nat):Nat→ByteArray→Int→Int→Option Bool
 |0,_,_,_=>none
 |n+1,t0,t5,t6=>
  cond (decide (t6<t5)) ((btS t0 t6).bind fun y1=>(impl_within k (IntKind.wrap .i64 y1) 97 122).bind fun r2=>cond (!r2) (some false) ((impl_isColName.l2 k n) t0 t5 (IntKind.wrap .i64 (t6+1)))) ((impl_within k (t0.size:Int) 1 20).bind fun r3=>some r3)
def impl_isColName (k:Nat) (t0:ByteArray):Option Bool:=
 impl_isColName.l2 k k t0 (t0.size:Int) 0
def impl_colAfter.l10 (k:Nat) (S212:(List TCol)→Int→Int→Option Int) (L6:(List TCol)→Int→Int→Int→Int→(List ByteArray)→Option Int):Nat→(List TCol)→Int→Int→Int→Int→Int→Int→(List ByteArray)→Option Int
 |0,_,_,_,_,_,_,_,_=>none
 |n+1,t0,t2,t7,t47,t48,t55,t56,o100=>
  cond (decide (t56<t55)) ((rdL o100 t56).bind fun y1=>(rdL t0 t7).bind fun y2=>cond (eqS y1 y2.1) (some (-1)) ((impl_colAfter.l10 k S212 L6 n) t0 t2 t7 t47 t48 t55 (IntKind.wrap .i64 (t56+1)) o100)) ((rdL t0 t7).bind fun y3=>cond (lim (List.length o100+List.length [y3.1])) ((S212 t0 t7 (IntKind.wrap .i64 (t2+1))).bind fun r4=>cond (decide (r4<0)) (some (-1)) (L6 t0 t2 r4 t47 (IntKind.wrap .i64 (t48+1)) (o100++[y3.1]))) none)
def impl_colAfter.l6 (k:Nat) (S212:(List TCol)→Int→Int→Option Int):Nat→(List TCol)→Int→Int→Int→Int→(List ByteArray)→Option Int
 |0,_,_,_,_,_,_=>none
 |n+1,t0,t2,t7,t47,t48,o100=>
  cond (decide (t48<t47)) (cond (decide (t7≥(List.length t0:Int))) (some (-1)) (impl_colAfter.l10 k S212 (impl_colAfter.l6 k S212 n) k t0 t2 t7 t47 t48 (List.length o100:Int) 0 o100)) (some t7)
def impl_colAfter.b (k:Nat) (S212:(List TCol)→Int→Int→Option Int) (t0:List TCol) (t1:Int) (t2:Int):Option Int:=
 (cond (decide (t1≥(List.length t0:Int))) (some (true)) (some (decide (t2>6)))).bind fun b5=>(cond b5 (some (true)) ((rdL t0 t1).bind fun y6=>(impl_colOk k y6).bind fun r7=>some (!r7))).bind fun b8=>(cond b8 (some (true)) ((cond (decide (t1>0)) ((rdL t0 t1).bind fun y9=>(impl_isColName k y9.1).bind fun r10=>some (!r10)) (some (false))).bind fun b11=>some (b11))).bind fun b12=>cond b12 (some (-1)) ((rdL t0 t1).bind fun y13=>impl_colAfter.l6 k S212 k t0 t2 (IntKind.wrap .i64 (t1+1)) y13.2.2.2.1 0 [])
def impl_colAfter.rec (k:Nat):Nat→((List TCol)→Int→Int→Option Int)
 |0=>fun _ _ _=>none
 |d+1=>impl_colAfter.b k ((impl_colAfter.rec k d))
def impl_colAfter.d (k d:Nat):(List TCol)→Int→Int→Option Int:=(impl_colAfter.rec k d)
def impl_colAfter (k:Nat):(List TCol)→Int→Int→Option Int:=impl_colAfter.d k k
def impl_SchemaOk (k:Nat) (t0:List TCol):Option Bool:=
 (impl_within k (List.length t0:Int) 2 20).bind fun r1=>(cond (!r1) (some (true)) ((rdL t0 0).bind fun y2=>some (y2.2.1 !=7))).bind fun b3=>(cond b3 (some (true)) ((rdL t0 0).bind fun y4=>some (y4.2.2.1 !=0))).bind fun b5=>(cond b5 (some (true)) ((rdL t0 0).bind fun y6=>some (!eqS y6.1 (⟨#[]⟩:ByteArray)))).bind fun b7=>cond b7 (some false) ((impl_colAfter k t0 0 1).bind fun r8=>some (r8==(List.length t0:Int)))
def impl_leavesOf.c7 (k:Nat) (L3:(List TCol)→Int→Int→(List Int)→Option (Unit×(List Int))) (t7:List TCol) (t8:Int) (t9:Int) (o100:List Int):Option (Unit×(List Int)):=
 L3 t7 t8 (IntKind.wrap .i64 (t9+1)) o100
def impl_leavesOf.l3 (k:Nat):Nat→(List TCol)→Int→Int→(List Int)→Option (Unit×(List Int))
 |0,_,_,_,_=>none
 |n+1,t7,t8,t9,o100=>
  cond (decide (t9<t8)) ((rdL t7 t9).bind fun y1=>cond (y1.2.1 !=7) (cond (lim (List.length o100+List.length [t9])) (impl_leavesOf.c7 k (impl_leavesOf.l3 k n) t7 t8 t9 (o100++[t9])) none) (impl_leavesOf.c7 k (impl_leavesOf.l3 k n) t7 t8 t9 o100)) (some ((),o100))
def impl_leavesOf (k:Nat) (t0:List TCol):Option (Unit×(List Int)):=
 impl_leavesOf.l3 k k t0 (List.length t0:Int) 0 []
def impl_encsRight.l2 (k:Nat):Nat→(List Int)→(List Int)→Int→Int→Option Bool
 |0,_,_,_,_=>none
 |n+1,t0,t5,t6,t7=>
  cond (decide (t7<t6)) ((rdL t5 t7).bind fun y1=>(impl_within k y1 0 9).bind fun r2=>(cond (!r2) (some (true)) ((cond (decide (t7>0)) ((rdL t0 (IntKind.wrap .i64 (t7-1))).bind fun y3=>some (decide (y3≥y1))) (some (false))).bind fun b4=>some (b4))).bind fun b5=>cond b5 (some false) ((impl_encsRight.l2 k n) t0 t5 t6 (IntKind.wrap .i64 (t7+1)))) ((impl_within k (List.length t0:Int) 1 5).bind fun r6=>some r6)
def impl_encsRight (k:Nat) (t0:List Int):Option Bool:=
 impl_encsRight.l2 k k t0 t0 (List.length t0:Int) 0
def impl_chunkOk (k:Nat) (t0:TChunk) (t1:Int):Option Bool:=
 (impl_within k t0.2.1 0 60000).bind fun r1=>(cond r1 ((impl_within k t0.2.2.1 (-1) 60000).bind fun r2=>some (r2)) (some (false))).bind fun b3=>(cond b3 ((impl_within k t0.2.2.2.2.1 0 60000).bind fun r4=>some (r4)) (some (false))).bind fun b5=>(cond (t0.1==t1) (some (b5)) (some (false))).bind fun b6=>(cond b6 ((impl_within k t0.2.2.2.1 1 2000).bind fun r7=>some (r7)) (some (false))).bind fun b8=>(cond b8 ((impl_encsRight k t0.2.2.2.2.2.1).bind fun r9=>some (r9)) (some (false))).bind fun b10=>some b10
def impl_MetaOk.l10 (k:Nat) (L5:Int→(List TGroupMeta)→Int→Int→TMeta→Option Bool):Nat→Int→(List TGroupMeta)→Int→Int→(List TChunk)→Int→Int→TMeta→TGroupMeta→Option Bool
 |0,_,_,_,_,_,_,_,_,_=>none
 |n+1,t3,t19,t20,t21,t40,t41,t42,o100,o101=>
  cond (decide (t42<t41)) ((rdL t40 t42).bind fun y1=>(impl_chunkOk k y1 t42).bind fun r2=>cond (!r2) (some false) ((impl_MetaOk.l10 k L5 n) t3 t19 t20 t21 t40 t41 (IntKind.wrap .i64 (t42+1)) o100 o101)) (L5 (IntKind.wrap .i64 (t3+o101.1)) t19 t20 (IntKind.wrap .i64 (t21+1)) o100)
def impl_MetaOk.d7 (k:Nat) (L5:Int→(List TGroupMeta)→Int→Int→TMeta→Option Bool) (t3:Int) (t19:List TGroupMeta) (t20:Int) (t21:Int) (o100:TMeta) (o101:TGroupMeta):Option Bool:=
 (impl_within k o101.1 1 200).bind fun r3=>cond (!r3) (cond true (some false) (impl_MetaOk.l10 k L5 k t3 t19 t20 t21 o101.2.1 (List.length o101.2.1:Int) 0 o100 o101)) ((impl_leavesOf k o100.1).bind fun r4=>cond ((List.length o101.2.1:Int) !=(List.length r4.2:Int)) (some false) (impl_MetaOk.l10 k L5 k t3 t19 t20 t21 o101.2.1 (List.length o101.2.1:Int) 0 o100 o101))
def impl_MetaOk.l5 (k:Nat):Nat→Int→(List TGroupMeta)→Int→Int→TMeta→Option Bool
 |0,_,_,_,_,_=>none
 |n+1,t3,t19,t20,t21,o100=>
  cond (decide (t21<t20)) ((rdL t19 t21).bind fun y9=>impl_MetaOk.d7 k (impl_MetaOk.l5 k n) t3 t19 t20 t21 o100 y9) ((cond (t3==o100.2.1) (some (decide (t3≤200))) (some (false))).bind fun b10=>some b10)
def impl_MetaOk (k:Nat) (t0:TMeta):Option Bool:=
 (impl_SchemaOk k t0.1).bind fun r11=>(cond (!r11) (some (true)) (some (decide ((List.length t0.2.2.1:Int)>40)))).bind fun b12=>cond b12 (some false) (impl_MetaOk.l5 k k 0 t0.2.2.1 (List.length t0.2.2.1:Int) 0 t0)
def impl_nodeOk (k:Nat) (t0:TNode):Option Bool:=
 cond (t0.1==5) ((impl_isInt32 k t0.2.2.1).bind fun r1=>(cond r1 (some (eqS t0.2.2.2.1 (⟨#[]⟩:ByteArray))) (some (false))).bind fun b2=>(cond b2 (some (t0.2.2.2.2.1==0)) (some (false))).bind fun b3=>some b3) (cond (t0.1==6) ((cond (eqS t0.2.2.2.1 (⟨#[]⟩:ByteArray)) (some (t0.2.2.2.2.1==0)) (some (false))).bind fun b4=>some b4) (cond (t0.1==8) ((cond (t0.2.2.1==0) (some (decide ((t0.2.2.2.1.size:Int)≤300))) (some (false))).bind fun b5=>(cond b5 (some (t0.2.2.2.2.1==0)) (some (false))).bind fun b6=>some b6) (cond (t0.1==9) ((cond (eqS t0.2.2.2.1 (⟨#[]⟩:ByteArray)) (some (decide (t0.2.2.2.2.1≥0))) (some (false))).bind fun b7=>(cond b7 ((cond (t0.2.2.2.2.1==0) (some (t0.2.2.1==0)) (some (false))).bind fun b8=>(cond b8 (some (true)) ((cond (decide (t0.2.2.2.2.1>0)) ((impl_isType k t0.2.2.1 true).bind fun r9=>some (r9)) (some (false))).bind fun b10=>some (b10))).bind fun b11=>some (b11)) (some (false))).bind fun b12=>some b12) (cond (t0.1==12) ((cond (t0.2.2.1==0) (some (eqS t0.2.2.2.1 (⟨#[]⟩:ByteArray))) (some (false))).bind fun b13=>(cond b13 (some (decide (t0.2.2.2.2.1≥0))) (some (false))).bind fun b14=>some b14) ((impl_isType k t0.1 false).bind fun r15=>(cond r15 (some (t0.2.2.1==0)) (some (false))).bind fun b16=>(cond b16 (some (eqS t0.2.2.2.1 (⟨#[]⟩:ByteArray))) (some (false))).bind fun b17=>(cond b17 (some (t0.2.2.2.2.1==0)) (some (false))).bind fun b18=>some b18)))))
def impl_tree_measure.l7 (k:Nat) (S250:Int→Int→(Bool×TTreeB)→(List Int)→Option (Int×TTreeB×(List Int))):Nat→Int→Int→Int→Int→Int→Int→TTreeB→(List Int)→TNode→Option (Int×TTreeB×(List Int))
 |0,_,_,_,_,_,_,_,_,_=>none
 |n+1,t1,t2,t8,t9,t43,t44,o0,o10,o100=>
  cond (decide (t44<t43)) (cond (decide (t8≥(List.length o0.1:Int))) (some ((-1),(o0,o10))) ((rdL o0.1 t8).bind fun y1=>(cond (o100.1==9) ((cond (y1.1 !=o100.2.2.1) (some (true)) (some (y1.2.1 !=0))).bind fun b2=>some (b2)) (some (false))).bind fun b3=>cond b3 (some ((-1),(o0,o10))) ((cond (o100.1==12) ((impl_within k y1.2.1 (IntKind.wrap .i64 (t9+1)) 1000).bind fun r4=>some (!r4)) (some (false))).bind fun b5=>cond b5 (some ((-1),(o0,o10))) ((S250 t8 (IntKind.wrap .i64 (t2+1)) (true,o0) o10).bind fun r6=>cond (decide (r6.1<0)) (some ((-1),(r6.2.1,r6.2.2))) ((impl_tree_measure.l7 k S250 n) t1 t2 r6.1 y1.2.1 t43 (IntKind.wrap .i64 (t44+1)) r6.2.1 r6.2.2 o100))))) ((rdL o10 t1).bind fun y7=>(rdL o10 t1).bind fun y8=>some (t8,(o0,List.set o10 (Int.toNat t1) t8)))
def impl_tree_measure.b (k:Nat) (S250:Int→Int→(Bool×TTreeB)→(List Int)→Option (Int×TTreeB×(List Int))) (t1:Int) (t2:Int) (o0:Bool×TTreeB) (o10:List Int):Option (Int×TTreeB×(List Int)):=
 cond (o0.1) ((cond (decide (t1≥(List.length o0.2.1:Int))) (some (true)) (some (decide (t2>12)))).bind fun b9=>(cond b9 (some (true)) ((rdL o0.2.1 t1).bind fun y10=>(impl_nodeOk k y10).bind fun r11=>some (!r11))).bind fun b12=>cond b12 (some ((-1),(o0.2,o10))) ((rdL o0.2.1 t1).bind fun y13=>impl_tree_measure.l7 k S250 k t1 t2 (IntKind.wrap .i64 (t1+1)) 0 y13.2.2.2.2.1 0 o0.2 o10 y13)) none
def impl_tree_measure.rec (k:Nat):Nat→(Int→Int→(Bool×TTreeB)→(List Int)→Option (Int×TTreeB×(List Int)))
 |0=>fun _ _ _ _=>none
 |d+1=>impl_tree_measure.b k ((impl_tree_measure.rec k d))
def impl_tree_measure.d (k d:Nat):Int→Int→(Bool×TTreeB)→(List Int)→Option (Int×TTreeB×(List Int)):=(impl_tree_measure.rec k d)
def impl_tree_measure (k:Nat):Int→Int→(Bool×TTreeB)→(List Int)→Option (Int×TTreeB×(List Int)):=impl_tree_measure.d k k
def impl_treeOf (k:Nat) (t0:List TNode):Option ((Unit×Bool)×(Bool×TTreeB)×(List Int)):=
 (impl_within k (List.length t0:Int) 1 1500).bind fun r1=>cond (!r1) (some (((),false),((false,([],(),())),[]))) (cond (okLen (List.length t0:Int)) ((rdL t0 0).bind fun y2=>(cond (y2.1 !=12) (some (true)) (some (y2.2.1 !=0))).bind fun b3=>cond b3 (cond true (some (((),false),((false,([],(),())),[]))) (some (((),true),((true,(t0,(),())),List.replicate (Int.toNat (List.length t0:Int)) 0)))) ((impl_tree_measure k 0 1 (true,(t0,(),())) (List.replicate (Int.toNat (List.length t0:Int)) 0)).bind fun r4=>cond (r4.1 !=(List.length t0:Int)) (some (((),false),((false,([],(),())),[]))) (some (((),true),((true,r4.2.1),r4.2.2))))) none)
def impl_tree_find.l5 (k:Nat):Nat→Int→Int→Int→Int→TTreeB→(List Int)→Option (Int×TTreeB×(List Int))
 |0,_,_,_,_,_,_=>none
 |n+1,t2,t7,t37,t38,o0,o10=>
  cond (decide (t38<t37)) ((rdL o0.1 t7).bind fun y1=>cond (y1.2.1==t2) (some (t7,(o0,o10))) ((rdL o10 t7).bind fun y2=>(impl_tree_find.l5 k n) t2 y2 t37 (IntKind.wrap .i64 (t38+1)) o0 o10)) (some ((-1),(o0,o10)))
def impl_tree_find (k:Nat) (t1:Int) (t2:Int) (o0:Bool×TTreeB) (o10:List Int):Option (Int×TTreeB×(List Int)):=
 cond (o0.1) ((impl_within k t1 0 (IntKind.wrap .i64 ((List.length o0.2.1:Int)-1))).bind fun r3=>(cond (!r3) (some (true)) ((rdL o0.2.1 t1).bind fun y4=>some (y4.1 !=12))).bind fun b5=>cond b5 (some ((-1),(o0.2,o10))) ((rdL o0.2.1 t1).bind fun y6=>impl_tree_find.l5 k k t2 (IntKind.wrap .i64 (t1+1)) y6.2.2.2.2.1 0 o0.2 o10)) none
def impl_tree_parts.l7 (k:Nat):Nat→Int→Int→Int→TTreeB→(List Int)→(List Int)→Option ((Unit×Bool)×TTreeB×(List Int)×(List Int))
 |0,_,_,_,_,_,_=>none
 |n+1,t12,t63,t64,o0,o10,o100=>
  cond (decide (t64<t63)) (cond (lim (List.length o100+List.length [t12])) ((rdL o10 t12).bind fun y1=>(impl_tree_parts.l7 k n) y1 t63 (IntKind.wrap .i64 (t64+1)) o0 o10 (o100++[t12])) none) (some (((),true),(o0,o10,o100)))
def impl_tree_parts (k:Nat) (t1:Int) (t2:Int) (t3:Int) (o0:Bool×TTreeB) (o10:List Int):Option ((Unit×Bool)×TTreeB×(List Int)×(List Int)):=
 (impl_tree_find k t1 t2 (o0.1,o0.2) o10).bind fun r2=>(cond (decide (r2.1<0)) (some (true)) ((rdL r2.2.1.1 r2.1).bind fun y3=>some (y3.1 !=9))).bind fun b4=>(cond b4 (some (true)) ((rdL r2.2.1.1 r2.1).bind fun y5=>(cond (decide (y5.2.2.2.2.1>0)) ((rdL r2.2.1.1 r2.1).bind fun y6=>some (y6.2.2.1 !=t3)) (some (false))).bind fun b7=>some (b7))).bind fun b8=>cond b8 (some (((),false),(r2.2.1,r2.2.2,[]))) ((rdL r2.2.1.1 r2.1).bind fun y9=>impl_tree_parts.l7 k k (IntKind.wrap .i64 (r2.1+1)) y9.2.2.2.2.1 0 r2.2.1 r2.2.2 [])
def impl_tree_part (k:Nat) (t1:Int) (t2:Int) (t3:Int) (o0:Bool×TTreeB) (o10:List Int):Option ((TNode×Bool)×TTreeB×(List Int)):=
 (impl_tree_find k t1 t2 (o0.1,o0.2) o10).bind fun r1=>(cond (decide (r1.1<0)) (some (true)) ((rdL r1.2.1.1 r1.1).bind fun y2=>some (y2.1 !=t3))).bind fun b3=>cond b3 (some (((0,0,0,(⟨#[]⟩:ByteArray),0,()),false),(r1.2.1,r1.2.2))) ((rdL r1.2.1.1 r1.1).bind fun y4=>some ((y4,true),(r1.2.1,r1.2.2)))
def impl_tree_num (k:Nat) (t1:Int) (t2:Int) (o0:Bool×TTreeB) (o10:List Int):Option ((Int×Bool)×TTreeB×(List Int)):=
 (impl_tree_find k t1 t2 (o0.1,o0.2) o10).bind fun r1=>(cond (decide (r1.1<0)) (some (true)) ((rdL r1.2.1.1 r1.1).bind fun y2=>(cond (y2.1 !=5) ((rdL r1.2.1.1 r1.1).bind fun y3=>some (y3.1 !=6)) (some (false))).bind fun b4=>some (b4))).bind fun b5=>cond b5 (some ((0,false),(r1.2.1,r1.2.2))) ((rdL r1.2.1.1 r1.1).bind fun y6=>some ((y6.2.2.1,true),(r1.2.1,r1.2.2)))
def impl_tree_col.c11 (k:Nat) (t9:Bool) (t11:Bool) (t13:Bool) (o0:TTreeB) (o10:List Int) (o100:TCol) (o101:TCol):Option ((TCol×Bool)×TTreeB×(List Int)):=
 (cond t9 (some (t11)) (some (false))).bind fun b1=>(cond b1 (some (t13)) (some (false))).bind fun b2=>some ((o101,b2),(o0,o10))
def impl_tree_col.c8 (k:Nat) (t1:Int) (t9:Bool) (t11:Bool) (t13:Bool) (t14:Int) (t15:Bool) (o0:TTreeB) (o10:List Int) (o100:TCol) (o101:TCol):Option ((TCol×Bool)×TTreeB×(List Int)):=
 (impl_tree_find k t1 5 (true,o0) o10).bind fun r3=>cond (decide (r3.1≥0)) (cond t15 ((impl_tree_find k t1 1 (true,r3.2.1) r3.2.2).bind fun r4=>impl_tree_col.c11 k t9 t11 (decide (r4.1<0)) r4.2.1 r4.2.2 o100 (o101.1,7,o101.2.2.1,t14,())) (impl_tree_col.c11 k t9 t11 false r3.2.1 r3.2.2 o100 (o101.1,7,o101.2.2.1,t14,()))) (impl_tree_col.c11 k t9 t11 t13 r3.2.1 r3.2.2 o100 o101)
def impl_tree_col (k:Nat) (t1:Int) (t2:Bool) (o0:Bool×TTreeB) (o10:List Int):Option ((TCol×Bool)×TTreeB×(List Int)):=
 (impl_tree_part k t1 4 8 (o0.1,o0.2) o10).bind fun r5=>(impl_tree_num k t1 3 (true,r5.2.1) r5.2.2).bind fun r6=>(impl_tree_num k t1 1 (true,r6.2.1) r6.2.2).bind fun r7=>(impl_tree_num k t1 5 (true,r7.2.1) r7.2.2).bind fun r8=>cond t2 (impl_tree_col.c8 k t1 r5.1.2 true r7.1.2 r8.1.1 r8.1.2 r8.2.1 r8.2.2 ((⟨#[]⟩:ByteArray),0,0,0,()) (r5.1.1.2.2.2.1,r7.1.1,0,0,())) (impl_tree_col.c8 k t1 r5.1.2 r6.1.2 r7.1.2 r8.1.1 r8.1.2 r8.2.1 r8.2.2 ((⟨#[]⟩:ByteArray),0,0,0,()) (r5.1.1.2.2.2.1,r7.1.1,r6.1.1,0,()))
def impl_tree_schema.l6 (k:Nat):Nat→Int→Int→TTreeB→(List Int)→(List TCol)→(List Int)→Option ((Unit×Bool)×TTreeB×(List Int)×(List TCol))
 |0,_,_,_,_,_,_=>none
 |n+1,t23,t24,o0,o10,o100,o101=>
  cond (decide (t24<t23)) ((rdL o101 t24).bind fun y1=>(impl_tree_col k y1 (t24==0) (true,o0) o10).bind fun r2=>(cond (!r2.1.2) (some (true)) ((cond (decide (t24>0)) (some (r2.1.1.2.2.2.1==0)) (some (false))).bind fun b3=>(cond b3 (some (r2.1.1.2.1==7)) (some (false))).bind fun b4=>some (b4))).bind fun b5=>cond b5 (some (((),false),(r2.2.1,r2.2.2,[]))) (cond (lim (List.length o100+List.length [r2.1.1])) ((impl_tree_schema.l6 k n) t23 (IntKind.wrap .i64 (t24+1)) r2.2.1 r2.2.2 (o100++[r2.1.1]) o101) none)) ((impl_SchemaOk k o100).bind fun r6=>cond (!r6) (some (((),false),(o0,o10,[]))) (some (((),true),(o0,o10,o100))))
def impl_tree_schema (k:Nat) (t1:Int) (o0:Bool×TTreeB) (o10:List Int):Option ((Unit×Bool)×TTreeB×(List Int)×(List TCol)):=
 (impl_tree_parts k t1 2 12 (o0.1,o0.2) o10).bind fun r7=>cond (!r7.1.2) (some (((),false),(r7.2.1,r7.2.2.1,[]))) (impl_tree_schema.l6 k k (List.length r7.2.2.2:Int) 0 r7.2.1 r7.2.2.1 [] r7.2.2.2)
def impl_metaReader_number.c4 (k:Nat) (t7:Int) (o0:TMetaReader) (o10:TTreeB) (o11:List Int):Option (Int×TMetaReader×TTreeB×(List Int)):=
 some (t7,(o0,o10,o11))
def impl_metaReader_number (k:Nat) (t1:Int) (t2:Int) (o0:TMetaReader) (o10:TTreeB) (o11:List Int):Option (Int×TMetaReader×TTreeB×(List Int)):=
 (impl_tree_num k t1 t2 (true,o10) o11).bind fun r1=>cond (!r1.1.2) (impl_metaReader_number.c4 k r1.1.1 ((),true,()) r1.2.1 r1.2.2) (impl_metaReader_number.c4 k r1.1.1 o0 r1.2.1 r1.2.2)
def impl_metaReader_list.c4 (k:Nat) (o0:TMetaReader) (o10:TTreeB) (o11:List Int) (o100:List Int):Option (Unit×TMetaReader×TTreeB×(List Int)×(List Int)):=
 some ((),(o0,o10,o11,o100))
def impl_metaReader_list (k:Nat) (t1:Int) (t2:Int) (t3:Int) (o0:TMetaReader) (o10:TTreeB) (o11:List Int):Option (Unit×TMetaReader×TTreeB×(List Int)×(List Int)):=
 (impl_tree_parts k t1 t2 t3 (true,o10) o11).bind fun r1=>cond (!r1.1.2) (impl_metaReader_list.c4 k ((),true,()) r1.2.1 r1.2.2.1 r1.2.2.2) (impl_metaReader_list.c4 k o0 r1.2.1 r1.2.2.1 r1.2.2.2)
def impl_SchemaLeaves (k:Nat) (t0:List TCol):Option (Unit×(List Int)):=
 (impl_SchemaOk k t0).bind fun r1=>cond (!r1) (some ((),[])) ((impl_leavesOf k t0).bind fun r2=>some ((),r2.2))
def impl_wayTo.l6 (k:Nat):Nat→(List TCol)→Int→Int→(List Int)→(List Int)→Option (Unit×(List Int))
 |0,_,_,_,_,_=>none
 |n+1,t0,t1,t7,o100,o101=>
  (rdL o100 t1).bind fun y1=>cond (decide (t7≤y1)) ((impl_colAfter k t0 t7 1).bind fun r2=>(rdL o100 t1).bind fun y3=>cond (decide (r2>y3)) (cond (lim (List.length o101+List.length [t7])) ((impl_wayTo.l6 k n) t0 t1 (IntKind.wrap .i64 (t7+1)) o100 (o101++[t7])) none) ((impl_wayTo.l6 k n) t0 t1 r2 o100 o101)) (some ((),o101))
def impl_wayTo (k:Nat) (t0:List TCol) (t1:Int):Option (Unit×(List Int)):=
 (impl_SchemaLeaves k t0).bind fun r4=>(impl_within k t1 0 (IntKind.wrap .i64 ((List.length r4.2:Int)-1))).bind fun r5=>cond (!r5) (some ((),[])) (impl_wayTo.l6 k k t0 t1 1 r4.2 [])
def impl_LeafMax.c12 (k:Nat) (L6:(List TCol)→Int→Int→Int→Int→(List Int)→Option (Int×Int)) (t0:List TCol) (t7:Int) (t8:Int) (t18:Int) (t19:Int) (o100:List Int):Option (Int×Int):=
 L6 t0 t7 t8 t18 (IntKind.wrap .i64 (t19+1)) o100
def impl_LeafMax.c10 (k:Nat) (L6:(List TCol)→Int→Int→Int→Int→(List Int)→Option (Int×Int)) (t0:List TCol) (t7:Int) (t8:Int) (t10:Int) (t18:Int) (t19:Int) (o100:List Int):Option (Int×Int):=
 (rdL t0 t10).bind fun y1=>cond (y1.2.2.1==2) (impl_LeafMax.c12 k L6 t0 t7 (IntKind.wrap .i64 (t8+1)) t18 t19 o100) (impl_LeafMax.c12 k L6 t0 t7 t8 t18 t19 o100)
def impl_LeafMax.l6 (k:Nat):Nat→(List TCol)→Int→Int→Int→Int→(List Int)→Option (Int×Int)
 |0,_,_,_,_,_,_=>none
 |n+1,t0,t7,t8,t18,t19,o100=>
  cond (decide (t19<t18)) ((rdL o100 t19).bind fun y2=>(rdL t0 y2).bind fun y3=>cond (y3.2.2.1 !=0) (impl_LeafMax.c10 k (impl_LeafMax.l6 k n) t0 (IntKind.wrap .i64 (t7+1)) t8 y2 t18 t19 o100) (impl_LeafMax.c10 k (impl_LeafMax.l6 k n) t0 t7 t8 y2 t18 t19 o100)) (some (t7,t8))
def impl_LeafMax (k:Nat) (t0:List TCol) (t1:Int):Option (Int×Int):=
 (impl_wayTo k t0 t1).bind fun r4=>cond ((List.length r4.2:Int)==0) (some ((-1),(-1))) (impl_LeafMax.l6 k k t0 0 0 (List.length r4.2:Int) 0 r4.2)
def impl_LeafOf (k:Nat) (t0:List TCol) (t1:Int):Option (TLeaf×Bool):=
 (impl_SchemaLeaves k t0).bind fun r1=>(impl_within k t1 0 (IntKind.wrap .i64 ((List.length r1.2:Int)-1))).bind fun r2=>cond (!r2) (some ((0,0,0,()),false)) ((impl_LeafMax k t0 t1).bind fun r3=>(rdL r1.2 t1).bind fun y4=>(rdL t0 y4).bind fun y5=>some ((y5.2.1,r3.2,r3.1,()),true))
def slices_Equal_string_string.l4 (k:Nat):Nat→(List ByteArray)→(List ByteArray)→Int→Int→Option Bool
 |0,_,_,_,_=>none
 |n+1,t0,t1,t12,t13=>
  cond (decide (t13<t12)) ((rdL t0 t13).bind fun y1=>(rdL t1 t13).bind fun y2=>cond (!eqS y1 y2) (some false) ((slices_Equal_string_string.l4 k n) t0 t1 t12 (IntKind.wrap .i64 (t13+1)))) (some true)
def slices_Equal_string_string (k:Nat) (t0:List ByteArray) (t1:List ByteArray):Option Bool:=
 cond ((List.length t0:Int) !=(List.length t1:Int)) (some false) (slices_Equal_string_string.l4 k k t0 t1 (List.length t0:Int) 0)
def impl_LeafPath.l3 (k:Nat):Nat→(List TCol)→Int→Int→(List ByteArray)→(List Int)→Option (Unit×(List ByteArray))
 |0,_,_,_,_,_=>none
 |n+1,t0,t12,t13,o100,o101=>
  cond (decide (t13<t12)) ((rdL o101 t13).bind fun y1=>(rdL t0 y1).bind fun y2=>cond (lim (List.length o100+List.length [y2.1])) ((impl_LeafPath.l3 k n) t0 t12 (IntKind.wrap .i64 (t13+1)) (o100++[y2.1]) o101) none) (some ((),o100))
def impl_LeafPath (k:Nat) (t0:List TCol) (t1:Int):Option (Unit×(List ByteArray)):=
 (impl_wayTo k t0 t1).bind fun r3=>impl_LeafPath.l3 k k t0 (List.length r3.2:Int) 0 [] r3.2
def impl_metaReader_chunk.c28 (k:Nat) (o0:TMetaReader) (o10:TTreeB) (o11:List Int) (o60:List TCol) (o100:Int×Int×Int×Int×Int×Unit×Unit) (o101:Int×Int×Int×Int×Int×Unit×Unit) (o102:List Int) (o103:List Int):Option (((Int×Int×Int×Int×Int×Unit×Unit))×TMetaReader×TTreeB×(List Int)×(List TCol)×(List Int)):=
 some (o101,(o0,o10,o11,o60,o103))
def impl_metaReader_chunk.c24 (k:Nat) (t10:Int) (o0:TMetaReader) (o10:TTreeB) (o11:List Int) (o60:List TCol) (o100:Int×Int×Int×Int×Int×Unit×Unit) (o101:Int×Int×Int×Int×Int×Unit×Unit) (o102:List Int) (o103:List Int):Option (((Int×Int×Int×Int×Int×Unit×Unit))×TMetaReader×TTreeB×(List Int)×(List TCol)×(List Int)):=
 (impl_metaReader_number k t10 9 o0 o10 o11).bind fun r1=>(impl_tree_find k t10 11 (true,r1.2.2.1) r1.2.2.2).bind fun r2=>cond (decide (r2.1≥0)) ((impl_metaReader_number k t10 11 r1.2.1 r2.2.1 r2.2.2).bind fun r3=>(cond r3.2.1.2.1 (some (true)) (some (r3.1==(-1)))).bind fun b4=>impl_metaReader_chunk.c28 k ((),b4,()) r3.2.2.1 r3.2.2.2 o60 o100 (o101.1,r1.1,r3.1,o101.2.2.2.1,o101.2.2.2.2.1,(),()) o102 o103) (impl_metaReader_chunk.c28 k r1.2.1 r2.2.1 r2.2.2 o60 o100 (o101.1,r1.1,o101.2.2.1,o101.2.2.2.1,o101.2.2.2.2.1,(),()) o102 o103)
def impl_metaReader_chunk.d22 (k:Nat) (t10:Int) (o0:TMetaReader) (o10:TTreeB) (o11:List Int) (o60:List TCol) (o100:Int×Int×Int×Int×Int×Unit×Unit) (o101:Int×Int×Int×Int×Int×Unit×Unit) (o102:List Int) (o103:List Int):Option (((Int×Int×Int×Int×Int×Unit×Unit))×TMetaReader×TTreeB×(List Int)×(List TCol)×(List Int)):=
 (impl_metaReader_number k t10 7 o0 o10 o11).bind fun r5=>cond (r5.1 !=o101.2.2.2.2.1) (impl_metaReader_chunk.c24 k t10 ((),true,()) r5.2.2.1 r5.2.2.2 o60 o100 o101 o102 o103) (impl_metaReader_chunk.c24 k t10 r5.2.1 r5.2.2.1 r5.2.2.2 o60 o100 o101 o102 o103)
def impl_metaReader_chunk.c20 (k:Nat) (t10:Int) (o0:TMetaReader) (o10:TTreeB) (o11:List Int) (o60:List TCol) (o100:Int×Int×Int×Int×Int×Unit×Unit) (o101:Int×Int×Int×Int×Int×Unit×Unit) (o102:List Int) (o103:List Int):Option (((Int×Int×Int×Int×Int×Unit×Unit))×TMetaReader×TTreeB×(List Int)×(List TCol)×(List Int)):=
 (impl_metaReader_number k t10 5 o0 o10 o11).bind fun r8=>(impl_metaReader_number k t10 6 r8.2.1 r8.2.2.1 r8.2.2.2).bind fun r9=>impl_metaReader_chunk.d22 k t10 r9.2.1 r9.2.2.1 r9.2.2.2 o60 o100 (o101.1,o101.2.1,o101.2.2.1,r8.1,r9.1,(),()) o102 o103
def impl_metaReader_chunk.d18 (k:Nat) (t3:Int) (t10:Int) (o0:TMetaReader) (o10:TTreeB) (o11:List Int) (o60:List TCol) (o100:Int×Int×Int×Int×Int×Unit×Unit) (o101:Int×Int×Int×Int×Int×Unit×Unit) (o102:TLeaf) (o103:List ByteArray) (o104:List Int) (o105:List Int):Option (((Int×Int×Int×Int×Int×Unit×Unit))×TMetaReader×TTreeB×(List Int)×(List TCol)×(List Int)):=
 (impl_metaReader_number k t10 1 o0 o10 o11).bind fun r10=>cond (r10.1 !=o102.1) (cond true (cond true (impl_metaReader_chunk.c20 k t10 ((),true,()) r10.2.2.1 r10.2.2.2 o60 o100 o101 o104 o105) (impl_metaReader_chunk.c20 k t10 r10.2.1 r10.2.2.1 r10.2.2.2 o60 o100 o101 o104 o105)) ((impl_LeafPath k o60 t3).bind fun r11=>(slices_Equal_string_string k o103 r11.2).bind fun r12=>cond (!r12) (impl_metaReader_chunk.c20 k t10 ((),true,()) r10.2.2.1 r10.2.2.2 o60 o100 o101 o104 o105) (impl_metaReader_chunk.c20 k t10 r10.2.1 r10.2.2.1 r10.2.2.2 o60 o100 o101 o104 o105))) ((impl_metaReader_number k t10 4 r10.2.1 r10.2.2.1 r10.2.2.2).bind fun r13=>cond (r13.1 !=0) (cond true (impl_metaReader_chunk.c20 k t10 ((),true,()) r13.2.2.1 r13.2.2.2 o60 o100 o101 o104 o105) (impl_metaReader_chunk.c20 k t10 r13.2.1 r13.2.2.1 r13.2.2.2 o60 o100 o101 o104 o105)) ((impl_LeafPath k o60 t3).bind fun r14=>(slices_Equal_string_string k o103 r14.2).bind fun r15=>cond (!r15) (impl_metaReader_chunk.c20 k t10 ((),true,()) r13.2.2.1 r13.2.2.2 o60 o100 o101 o104 o105) (impl_metaReader_chunk.c20 k t10 r13.2.1 r13.2.2.1 r13.2.2.2 o60 o100 o101 o104 o105)))
def impl_metaReader_chunk.l14 (k:Nat):Nat→Int→Int→Int→Int→TMetaReader→TTreeB→(List Int)→(List TCol)→(Int×Int×Int×Int×Int×Unit×Unit)→(Int×Int×Int×Int×Int×Unit×Unit)→TLeaf→(List ByteArray)→(List Int)→(List Int)→(List Int)→Option (((Int×Int×Int×Int×Int×Unit×Unit))×TMetaReader×TTreeB×(List Int)×(List TCol)×(List Int))
 |0,_,_,_,_,_,_,_,_,_,_,_,_,_,_,_=>none
 |n+1,t3,t10,t81,t82,o0,o10,o11,o60,o100,o101,o102,o103,o104,o105,o106=>
  cond (decide (t82<t81)) ((rdL o104 t82).bind fun y28=>(rdL o10.1 y28).bind fun y29=>cond (lim (List.length o103+List.length [y29.2.2.2.1])) ((impl_metaReader_chunk.l14 k n) t3 t10 t81 (IntKind.wrap .i64 (t82+1)) o0 o10 o11 o60 o100 o101 o102 (o103++[y29.2.2.2.1]) o104 o105 o106) none) (impl_metaReader_chunk.d18 k t3 t10 o0 o10 o11 o60 o100 o101 o102 o103 o105 o106)
def impl_metaReader_chunk.d10 (k:Nat) (L8:Int→Int→Int→Int→TMetaReader→TTreeB→(List Int)→(List TCol)→(Int×Int×Int×Int×Int×Unit×Unit)→(Int×Int×Int×Int×Int×Unit×Unit)→TLeaf→(List Int)→(List Int)→(List Int)→Option (((Int×Int×Int×Int×Int×Unit×Unit))×TMetaReader×TTreeB×(List Int)×(List TCol)×(List Int))) (t3:Int) (t10:Int) (t14:Int) (t55:Int) (t56:Int) (o0:TMetaReader) (o10:TTreeB) (o11:List Int) (o60:List TCol) (o100:Int×Int×Int×Int×Int×Unit×Unit) (o101:Int×Int×Int×Int×Int×Unit×Unit) (o102:TLeaf) (o103:List Int) (o104:List Int) (o105:List Int):Option (((Int×Int×Int×Int×Int×Unit×Unit))×TMetaReader×TTreeB×(List Int)×(List TCol)×(List Int)):=
 (rdL o10.1 t14).bind fun y30=>cond (lim (List.length o105+List.length [y30.2.2.1])) (L8 t3 t10 t55 (IntKind.wrap .i64 (t56+1)) o0 o10 o11 o60 o100 o101 o102 o103 o104 (o105++[y30.2.2.1])) none
def impl_metaReader_chunk.l8 (k:Nat):Nat→Int→Int→Int→Int→TMetaReader→TTreeB→(List Int)→(List TCol)→(Int×Int×Int×Int×Int×Unit×Unit)→(Int×Int×Int×Int×Int×Unit×Unit)→TLeaf→(List Int)→(List Int)→(List Int)→Option (((Int×Int×Int×Int×Int×Unit×Unit))×TMetaReader×TTreeB×(List Int)×(List TCol)×(List Int))
 |0,_,_,_,_,_,_,_,_,_,_,_,_,_,_=>none
 |n+1,t3,t10,t55,t56,o0,o10,o11,o60,o100,o101,o102,o103,o104,o105=>
  cond (decide (t56<t55)) ((rdL o103 t56).bind fun y32=>impl_metaReader_chunk.d10 k (impl_metaReader_chunk.l8 k n) t3 t10 y32 t55 t56 o0 o10 o11 o60 o100 o101 o102 o103 o104 o105) ((impl_metaReader_list k t10 3 8 o0 o10 o11).bind fun r33=>impl_metaReader_chunk.l14 k k t3 t10 (List.length r33.2.2.2.2:Int) 0 r33.2.1 r33.2.2.1 r33.2.2.2.1 o60 o100 o101 o102 [] r33.2.2.2.2 o104 o105)
def impl_metaReader_chunk (k:Nat) (t2:Int) (t3:Int) (o0:TMetaReader) (o10:TTreeB) (o11:List Int) (o60:List TCol):Option (((Int×Int×Int×Int×Int×Unit×Unit))×TMetaReader×TTreeB×(List Int)×(List TCol)×(List Int)):=
 (impl_tree_find k t2 3 (true,o10) o11).bind fun r34=>(cond (decide (r34.1<0)) (some (true)) ((rdL r34.2.1.1 r34.1).bind fun y35=>some (y35.1 !=12))).bind fun b36=>cond b36 (some ((t3,0,(-1),0,0,(),()),(((),true,()),r34.2.1,r34.2.2,o60,[]))) ((impl_LeafOf k o60 t3).bind fun r37=>(impl_metaReader_list k r34.1 2 5 o0 r34.2.1 r34.2.2).bind fun r38=>impl_metaReader_chunk.l8 k k t3 r34.1 (List.length r38.2.2.2.2:Int) 0 r38.2.1 r38.2.2.1 r38.2.2.2.1 o60 (0,0,0,0,0,(),()) (t3,0,(-1),0,0,(),()) r37.1 r38.2.2.2.2 [] [])
def impl_metaReader_group.c11 (k:Nat) (o0:TMetaReader) (o10:TTreeB) (o11:List Int) (o60:List TCol) (o100:Int×Unit×Unit) (o101:Int×Unit×Unit) (o102:List TChunk) (o103:List TChunk):Option (((Int×Unit×Unit))×TMetaReader×TTreeB×(List Int)×(List TCol)×(List TChunk)):=
 some (o101,(o0,o10,o11,o60,o103))
def impl_metaReader_group.l4 (k:Nat):Nat→Int→Int→TMetaReader→TTreeB→(List Int)→(List TCol)→(Int×Unit×Unit)→(Int×Unit×Unit)→(List Int)→(List TChunk)→(List TChunk)→Option (((Int×Unit×Unit))×TMetaReader×TTreeB×(List Int)×(List TCol)×(List TChunk))
 |0,_,_,_,_,_,_,_,_,_,_,_=>none
 |n+1,t19,t20,o0,o10,o11,o60,o100,o101,o102,o103,o104=>
  cond (decide (t20<t19)) ((rdL o102 t20).bind fun y1=>(cond o0.2.1 (some (true)) (some (decide (t20≥20)))).bind fun b2=>cond b2 (impl_metaReader_group.c11 k ((),true,()) o10 o11 o60 o100 o101 o103 o104) ((impl_metaReader_chunk k y1 t20 o0 o10 o11 o60).bind fun r3=>cond (lim (List.length o104+List.length [(r3.1.1,r3.1.2.1,r3.1.2.2.1,r3.1.2.2.2.1,r3.1.2.2.2.2.1,r3.2.2.2.2.2,())])) ((impl_metaReader_group.l4 k n) t19 (IntKind.wrap .i64 (t20+1)) r3.2.1 r3.2.2.1 r3.2.2.2.1 r3.2.2.2.2.1 o100 o101 o102 o103 (o104++[(r3.1.1,r3.1.2.1,r3.1.2.2.1,r3.1.2.2.2.1,r3.1.2.2.2.2.1,r3.2.2.2.2.2,())])) none)) (impl_metaReader_group.c11 k o0 o10 o11 o60 o100 o101 o103 o104)
def impl_metaReader_group (k:Nat) (t2:Int) (o0:TMetaReader) (o10:TTreeB) (o11:List Int) (o60:List TCol):Option (((Int×Unit×Unit))×TMetaReader×TTreeB×(List Int)×(List TCol)×(List TChunk)):=
 (impl_metaReader_number k t2 3 o0 o10 o11).bind fun r4=>(impl_metaReader_list k t2 1 12 r4.2.1 r4.2.2.1 r4.2.2.2).bind fun r5=>impl_metaReader_group.l4 k k (List.length r5.2.2.2.2:Int) 0 r5.2.1 r5.2.2.1 r5.2.2.2.1 o60 (0,(),()) (r4.1,(),()) r5.2.2.2.2 [] []
def impl_MetaFrom.l11 (k:Nat):Nat→Int→Int→(Unit×Int×Unit×Unit)→(Unit×Int×Unit×Unit)→TMetaReader→(List Int)→(List TCol)→(List TGroupMeta)→(List TCol)→(List TGroupMeta)→TTreeB→(List Int)→Option (((Unit×Int×Unit×Unit)×Bool)×(List TCol)×(List TGroupMeta))
 |0,_,_,_,_,_,_,_,_,_,_,_,_=>none
 |n+1,t37,t38,o100,o101,o102,o103,o104,o105,o106,o107,o108,o109=>
  cond (decide (t38<t37)) ((rdL o103 t38).bind fun y1=>(impl_metaReader_group k y1 o102 o108 o109 o106).bind fun r2=>cond (lim (List.length o107+List.length [(r2.1.1,r2.2.2.2.2.2,())])) ((impl_MetaFrom.l11 k n) t37 (IntKind.wrap .i64 (t38+1)) o100 o101 r2.2.1 o103 o104 o105 r2.2.2.2.2.1 (o107++[(r2.1.1,r2.2.2.2.2.2,())]) r2.2.2.1 r2.2.2.2.1) none) ((cond o102.2.1 (some (true)) ((impl_MetaOk k (o106,o101.2.1,o107,())).bind fun r3=>some (!r3))).bind fun b4=>cond b4 (some ((((),0,(),()),false),([],[]))) (some ((o101,true),(o106,o107))))
def impl_MetaFrom (k:Nat) (t0:List TNode):Option (((Unit×Int×Unit×Unit)×Bool)×(List TCol)×(List TGroupMeta)):=
 (impl_treeOf k t0).bind fun r5=>cond (!r5.1.2) (some ((((),0,(),()),false),([],[]))) ((impl_tree_schema k 0 (r5.2.1.1,r5.2.1.2) r5.2.2).bind fun r6=>cond (!r6.1.2) (some ((((),0,(),()),false),([],[]))) ((impl_metaReader_number k 0 3 ((),false,()) r6.2.1 r6.2.2.1).bind fun r7=>(impl_metaReader_list k 0 4 12 r7.2.1 r7.2.2.1 r7.2.2.2).bind fun r8=>impl_MetaFrom.l11 k k (List.length r8.2.2.2.2:Int) 0 ((),0,(),()) ((),r7.1,(),()) r8.2.1 r8.2.2.2.2 [] [] r6.2.2.2 [] r8.2.2.1 r8.2.2.2.1))
def impl_MetaRead (k:Nat) (t0:List Int) (t1:Int):Option (((Unit×Int×Unit×Unit)×Int×Bool)×(List TCol)×(List TGroupMeta)):=
 (impl_TreeRead k t0 t1).bind fun r1=>cond (r1.1.2.2 !=0) (some ((((),0,(),()),0,false),([],[]))) ((impl_MetaFrom k r1.2).bind fun r2=>cond (!r2.1.2) (some ((((),0,(),()),0,false),([],[]))) (some ((r2.1.1,r1.1.2.1,true),(r2.2.1,r2.2.2))))
def impl_FileMeta (k:Nat) (t0:List Int):Option (((Unit×Int×Unit×Unit)×Int)×(List TCol)×(List TGroupMeta)):=
 (impl_within k (List.length t0:Int) 12 60000).bind fun r1=>cond (!r1) (some ((((),0,(),()),1),([],[]))) (cond (inSl 0 4 (List.length t0)) ((cond (!eqS (intsStr (cutL t0 0 4)) (⟨#[80,65,82,49]⟩:ByteArray)) (some (true)) (cond (inSl (IntKind.wrap .i64 ((List.length t0:Int)-4)) ((List.length t0):Int) (List.length t0)) (some (!eqS (intsStr (cutL t0 (IntKind.wrap .i64 ((List.length t0:Int)-4)) ((List.length t0):Int))) (⟨#[80,65,82,49]⟩:ByteArray))) none)).bind fun b2=>cond b2 (some ((((),0,(),()),2),([],[]))) ((impl_WordGet k t0 (IntKind.wrap .i64 ((IntKind.wrap .i64 ((List.length t0:Int)-4))-4)) 4).bind fun r3=>cond (decide (r3.1>(IntKind.wrap .i64 ((List.length t0:Int)-12)))) (some ((((),0,(),()),3),([],[]))) (cond (inSl (IntKind.wrap .i64 ((IntKind.wrap .i64 ((IntKind.wrap .i64 ((List.length t0:Int)-4))-4))-r3.1)) (IntKind.wrap .i64 ((IntKind.wrap .i64 ((List.length t0:Int)-4))-4)) (List.length t0)) ((impl_MetaRead k (cutL t0 (IntKind.wrap .i64 ((IntKind.wrap .i64 ((IntKind.wrap .i64 ((List.length t0:Int)-4))-4))-r3.1)) (IntKind.wrap .i64 ((IntKind.wrap .i64 ((List.length t0:Int)-4))-4))) 0).bind fun r4=>(cond (!r4.1.2.2) (some (true)) (some (r4.1.2.1 !=r3.1))).bind fun b5=>cond b5 (some ((((),0,(),()),3),([],[]))) (some ((r4.1.1,0),(r4.2.1,r4.2.2)))) none))) none)
def impl_LeafOk (k:Nat) (t0:TLeaf):Option Bool:=
 (impl_TypeOk k t0.1).bind fun r1=>(cond r1 ((impl_within k t0.2.2.1 0 6).bind fun r2=>some (r2)) (some (false))).bind fun b3=>(cond b3 ((impl_within k t0.2.1 0 t0.2.2.1).bind fun r4=>some (r4)) (some (false))).bind fun b5=>some b5
def impl_headReader_any.c4 (k:Nat) (t5:Int) (o0:THeadReader) (o10:TTreeB) (o11:List Int):Option (Int×THeadReader×TTreeB×(List Int)):=
 some (t5,(o0,o10,o11))
def impl_headReader_any (k:Nat) (t1:Int) (o0:THeadReader) (o10:Bool×TTreeB) (o11:List Int):Option (Int×THeadReader×TTreeB×(List Int)):=
 (impl_tree_num k o0.2.1 t1 (o10.1,o10.2) o11).bind fun r1=>cond (!r1.1.2) (impl_headReader_any.c4 k r1.1.1 ((),o0.2.1,true,()) r1.2.1 r1.2.2) (impl_headReader_any.c4 k r1.1.1 o0 r1.2.1 r1.2.2)
def impl_headReader_num.c4 (k:Nat) (t7:Int) (o0:THeadReader) (o10:TTreeB) (o11:List Int):Option (Int×THeadReader×TTreeB×(List Int)):=
 some (t7,(o0,o10,o11))
def impl_headReader_num (k:Nat) (t1:Int) (t2:Int) (o0:THeadReader) (o10:TTreeB) (o11:List Int):Option (Int×THeadReader×TTreeB×(List Int)):=
 (impl_tree_num k o0.2.1 t1 (true,o10) o11).bind fun r1=>(cond (!r1.1.2) (some (true)) (some (decide (r1.1.1<t2)))).bind fun b2=>cond b2 (impl_headReader_num.c4 k r1.1.1 ((),o0.2.1,true,()) r1.2.1 r1.2.2) (impl_headReader_num.c4 k r1.1.1 o0 r1.2.1 r1.2.2)
def impl_headReader_enter (k:Nat) (t1:Int) (o0:THeadReader) (o10:TTreeB) (o11:List Int):Option (Unit×THeadReader×TTreeB×(List Int)):=
 (impl_tree_find k o0.2.1 t1 (true,o10) o11).bind fun r1=>(cond (decide (r1.1<0)) (some (true)) ((rdL r1.2.1.1 r1.1).bind fun y2=>some (y2.1 !=12))).bind fun b3=>cond b3 (some ((),(((),o0.2.1,true,()),r1.2.1,r1.2.2))) (some ((),(((),r1.1,o0.2.2.1,()),r1.2.1,r1.2.2)))
def impl_valsOf.l3 (k:Nat):Nat→(List Int)→Int→Int→(List TVal)→Option (Unit×(List TVal))
 |0,_,_,_,_=>none
 |n+1,t7,t8,t9,o100=>
  cond (decide (t9<t8)) ((rdL t7 t9).bind fun y1=>cond (lim (List.length o100+List.length ([(y1,(⟨#[]⟩:ByteArray),())]:List TVal))) ((impl_valsOf.l3 k n) t7 t8 (IntKind.wrap .i64 (t9+1)) (o100++[(y1,(⟨#[]⟩:ByteArray),())])) none) (some ((),o100))
def impl_valsOf (k:Nat) (t0:List Int):Option (Unit×(List TVal)):=
 impl_valsOf.l3 k k t0 (List.length t0:Int) 0 []
def impl_BitAt (k:Nat) (t0:List Int) (t1:Int):Option Int:=
 (cond (decide (t1<0)) (some (true)) (some (decide ((IntKind.wrap .i64 (Int.tdiv t1 8))≥(List.length t0:Int))))).bind fun b1=>cond b1 (some (-1)) ((rdL t0 (IntKind.wrap .i64 (Int.tdiv t1 8))).bind fun y2=>cond (decide (0≤(Int.tmod t1 8))) (some (IntKind.wrap .i64 (bits .and .u8 (shrI .u8 y2 (Int.tmod t1 8)) 1))) none)
def impl_unpacked.l7 (k:Nat) (L3:(List Int)→Int→Int→Int→Int→(List Int)→Option (Unit×(List Int))):Nat→(List Int)→Int→Int→Int→Int→Int→Int→Int→Int→(List Int)→Option (Unit×(List Int))
 |0,_,_,_,_,_,_,_,_,_,_=>none
 |n+1,t0,t1,t3,t10,t11,t14,t15,t18,t19,o100=>
  cond (decide (t19<t18)) ((impl_BitAt k t0 (IntKind.wrap .i64 ((IntKind.wrap .i64 ((IntKind.wrap .i64 (8*t1))+(IntKind.wrap .i64 (t10*t3))))+t19))).bind fun r1=>cond (decide (0≤t19)) ((impl_unpacked.l7 k L3 n) t0 t1 t3 t10 (bits .or .i64 t11 (shlI .i64 r1 t19)) t14 t15 t18 (IntKind.wrap .i64 (t19+1)) o100) none) (cond (lim (List.length o100+List.length [t11])) (L3 t0 t1 t3 t14 (IntKind.wrap .i64 (t15+1)) (o100++[t11])) none)
def impl_unpacked.l3 (k:Nat):Nat→(List Int)→Int→Int→Int→Int→(List Int)→Option (Unit×(List Int))
 |0,_,_,_,_,_,_=>none
 |n+1,t0,t1,t3,t14,t15,o100=>
  cond (decide (t15<t14)) (impl_unpacked.l7 k (impl_unpacked.l3 k n) k t0 t1 t3 t15 0 t14 t15 t3 0 o100) (some ((),o100))
def impl_unpacked (k:Nat) (t0:List Int) (t1:Int) (t2:Int) (t3:Int):Option (Unit×(List Int)):=
 impl_unpacked.l3 k k t0 t1 t3 t2 0 []
def impl_BitsSize (k:Nat) (t0:Int) (t1:Int):Option Int:=
 (impl_within k t0 0 2000).bind fun r1=>(cond (!r1) (some (true)) ((impl_within k t1 0 62).bind fun r2=>some (!r2))).bind fun b3=>cond b3 (some (-1)) (some (IntKind.wrap .i64 (Int.tdiv (IntKind.wrap .i64 ((IntKind.wrap .i64 (t0*t1))+7)) 8)))
def impl_BitsRead (k:Nat) (t0:List Int) (t1:Int) (t2:Int) (t3:Int):Option ((Unit×Int×Bool)×(List Int)):=
 (impl_BitsSize k t2 t3).bind fun r1=>(cond (decide (r1<0)) (some (true)) ((impl_within k t1 0 (List.length t0:Int)).bind fun r2=>some (!r2))).bind fun b3=>(cond b3 (some (true)) (some (decide (r1>(IntKind.wrap .i64 ((List.length t0:Int)-t1)))))).bind fun b4=>cond b4 (some (((),0,false),[])) ((impl_unpacked k t0 t1 t2 t3).bind fun r5=>some (((),IntKind.wrap .i64 (t1+r1),true),r5.2))
def impl_wideOf.c6 (k:Nat) (t6:Bool):Option Int:=
 cond t6 (some 8) (some 0)
def impl_wideOf (k:Nat) (t0:Int):Option Int:=
 cond (t0==1) (some 4) (cond (t0==2) (impl_wideOf.c6 k (t0==2)) (impl_wideOf.c6 k (t0==5)))
def impl_signed (k:Nat) (t0:Int) (t1:Int):Option Int:=
 cond (t1==4) (some (IntKind.wrap .i64 (IntKind.wrap .i32 t0))) (some t0)
def impl_plainOne (k:Nat) (t0:Int) (t1:List Int) (t2:Int):Option (TVal×Int×Bool):=
 cond (t0 !=6) ((impl_wideOf k t0).bind fun r1=>(impl_WordGet k t1 t2 r1).bind fun r2=>(impl_wideOf k t0).bind fun r3=>(impl_signed k r2.1 r3).bind fun r4=>some ((r4,(⟨#[]⟩:ByteArray),()),r2.2.1,r2.2.2)) ((impl_WordGet k t1 t2 4).bind fun r5=>(cond (!r5.2.2) (some (true)) (some (decide (r5.1>40)))).bind fun b6=>(cond b6 (some (true)) (some (decide (r5.1>(IntKind.wrap .i64 ((List.length t1:Int)-r5.2.1)))))).bind fun b7=>cond b7 (some ((0,(⟨#[]⟩:ByteArray),()),0,false)) (cond (inSl r5.2.1 (IntKind.wrap .i64 (r5.2.1+r5.1)) (List.length t1)) (some ((0,intsStr (cutL t1 r5.2.1 (IntKind.wrap .i64 (r5.2.1+r5.1))),()),IntKind.wrap .i64 (r5.2.1+r5.1),true)) none))
def impl_PlainRead.l8 (k:Nat):Nat→Int→(List Int)→Int→Int→Int→(List TVal)→Option ((Unit×Int×Bool)×(List TVal))
 |0,_,_,_,_,_,_=>none
 |n+1,t0,t1,t2,t48,t49,o100=>
  cond (decide (t49<t48)) ((impl_plainOne k t0 t1 t2).bind fun r1=>cond (!r1.2.2) (some (((),0,false),[])) (cond (lim (List.length o100+List.length [r1.1])) ((impl_PlainRead.l8 k n) t0 t1 r1.2.1 t48 (IntKind.wrap .i64 (t49+1)) (o100++[r1.1])) none)) (some (((),t2,true),o100))
def impl_PlainRead (k:Nat) (t0:Int) (t1:List Int) (t2:Int) (t3:Int):Option ((Unit×Int×Bool)×(List TVal)):=
 (impl_TypeOk k t0).bind fun r2=>(cond (!r2) (some (true)) ((impl_within k t3 0 2000).bind fun r3=>some (!r3))).bind fun b4=>(cond b4 (some (true)) ((impl_within k t2 0 (List.length t1:Int)).bind fun r5=>some (!r5))).bind fun b6=>cond b6 (some (((),0,false),[])) (cond (t0==0) ((impl_BitsRead k t1 t2 t3 1).bind fun r7=>(impl_valsOf k r7.2).bind fun r8=>some (((),r7.1.2.1,r7.1.2.2),r8.2)) (impl_PlainRead.l8 k k t0 t1 t2 t3 0 []))
def impl_ValOk.c8 (k:Nat) (t0:Int) (t26:Bool) (o100:TVal):Option Bool:=
 cond t26 (some (eqS o100.2.1 (⟨#[]⟩:ByteArray))) ((cond (t0==6) (some (o100.1==0)) (some (false))).bind fun b1=>(cond b1 (some (decide ((o100.2.1.size:Int)≤40))) (some (false))).bind fun b2=>some b2)
def impl_ValOk (k:Nat) (t0:Int) (t1:TVal):Option Bool:=
 cond (t0==0) ((impl_within k t1.1 0 1).bind fun r3=>(cond r3 (some (eqS t1.2.1 (⟨#[]⟩:ByteArray))) (some (false))).bind fun b4=>some b4) (cond (t0==1) ((impl_isInt32 k t1.1).bind fun r5=>(cond r5 (some (eqS t1.2.1 (⟨#[]⟩:ByteArray))) (some (false))).bind fun b6=>some b6) (cond (t0==2) (impl_ValOk.c8 k t0 (t0==2) t1) (impl_ValOk.c8 k t0 (t0==5) t1)))
def impl_valsOk.l2 (k:Nat):Nat→Int→(List TVal)→(List TVal)→Int→Int→Option Bool
 |0,_,_,_,_,_=>none
 |n+1,t0,t1,t7,t8,t9=>
  cond (decide (t9<t8)) ((rdL t7 t9).bind fun y1=>(impl_ValOk k t0 y1).bind fun r2=>cond (!r2) (some false) ((impl_valsOk.l2 k n) t0 t1 t7 t8 (IntKind.wrap .i64 (t9+1)))) ((cond (decide ((List.length t1:Int)≤2000)) ((impl_TypeOk k t0).bind fun r3=>some (r3)) (some (false))).bind fun b4=>some b4)
def impl_valsOk (k:Nat) (t0:Int) (t1:List TVal):Option Bool:=
 impl_valsOk.l2 k k t0 t1 t1 (List.length t1:Int) 0
def impl_packed.l6 (k:Nat) (L3:Int→(List Int)→Int→Int→(List Int)→Option (Unit×(List Int))):Nat→Int→Int→Int→(List Int)→Int→Int→Int→Int→(List Int)→Option (Unit×(List Int))
 |0,_,_,_,_,_,_,_,_,_=>none
 |n+1,t1,t6,t7,t17,t18,t19,t24,t25,o100=>
  cond (decide (t25<t24)) ((rdL o100 (IntKind.wrap .i64 (Int.tdiv (IntKind.wrap .i64 ((IntKind.wrap .i64 (t6*t1))+t25)) 8))).bind fun y1=>cond (decide (0≤t25)) (cond (decide (0≤(Int.tmod (IntKind.wrap .i64 ((IntKind.wrap .i64 (t6*t1))+t25)) 8))) ((rdL o100 (IntKind.wrap .i64 (Int.tdiv (IntKind.wrap .i64 ((IntKind.wrap .i64 (t6*t1))+t25)) 8))).bind fun y2=>(rdL o100 (IntKind.wrap .i64 (Int.tdiv (IntKind.wrap .i64 ((IntKind.wrap .i64 (t6*t1))+t25)) 8))).bind fun y3=>(impl_packed.l6 k L3 n) t1 t6 t7 t17 t18 t19 t24 (IntKind.wrap .i64 (t25+1)) (List.set o100 (Int.toNat (IntKind.wrap .i64 (Int.tdiv (IntKind.wrap .i64 ((IntKind.wrap .i64 (t6*t1))+t25)) 8))) (bits .or .u8 y1 (shlI .u8 (IntKind.wrap .u8 (bits .and .i64 (shrI .i64 t7 t25) 1)) (Int.tmod (IntKind.wrap .i64 ((IntKind.wrap .i64 (t6*t1))+t25)) 8))))) none) none) (L3 t1 t17 t18 (IntKind.wrap .i64 (t19+1)) o100)
def impl_packed.l3 (k:Nat):Nat→Int→(List Int)→Int→Int→(List Int)→Option (Unit×(List Int))
 |0,_,_,_,_,_=>none
 |n+1,t1,t17,t18,t19,o100=>
  cond (decide (t19<t18)) ((rdL t17 t19).bind fun y4=>impl_packed.l6 k (impl_packed.l3 k n) k t1 t19 y4 t17 t18 t19 t1 0 o100) (some ((),o100))
def impl_packed (k:Nat) (t0:List Int) (t1:Int):Option (Unit×(List Int)):=
 cond (okLen (IntKind.wrap .i64 (Int.tdiv (IntKind.wrap .i64 ((IntKind.wrap .i64 ((List.length t0:Int)*t1))+7)) 8))) (impl_packed.l3 k k t1 t0 (List.length t0:Int) 0 (List.replicate (Int.toNat (IntKind.wrap .i64 (Int.tdiv (IntKind.wrap .i64 ((IntKind.wrap .i64 ((List.length t0:Int)*t1))+7)) 8))) 0)) none
def impl_numsOf.l3 (k:Nat):Nat→(List TVal)→Int→Int→(List Int)→Option (Unit×(List Int))
 |0,_,_,_,_=>none
 |n+1,t7,t8,t9,o100=>
  cond (decide (t9<t8)) ((rdL t7 t9).bind fun y1=>cond (lim (List.length o100+List.length [y1.1])) ((impl_numsOf.l3 k n) t7 t8 (IntKind.wrap .i64 (t9+1)) (o100++[y1.1])) none) (some ((),o100))
def impl_numsOf (k:Nat) (t0:List TVal):Option (Unit×(List Int)):=
 impl_numsOf.l3 k k t0 (List.length t0:Int) 0 []
def impl_WordPut.l5 (k:Nat):Nat→Int→Int→Int→(List Int)→Option (Unit×(List Int))
 |0,_,_,_,_=>none
 |n+1,t0,t11,t12,o100=>
  cond (decide (t12<t11)) (cond (decide (0≤(IntKind.wrap .i64 (8*t12)))) (cond (lim (List.length o100+List.length [IntKind.wrap .u8 (shrI .i64 t0 (IntKind.wrap .i64 (8*t12)))])) ((impl_WordPut.l5 k n) t0 t11 (IntKind.wrap .i64 (t12+1)) (o100++[IntKind.wrap .u8 (shrI .i64 t0 (IntKind.wrap .i64 (8*t12)))])) none) none) (some ((),o100))
def impl_WordPut (k:Nat) (t0:Int) (t1:Int):Option (Unit×(List Int)):=
 (impl_within k t1 1 8).bind fun r1=>cond (!r1) (some ((),[])) (impl_WordPut.l5 k k t0 t1 0 [])
def impl_PlainPack.c12 (k:Nat) (L7:Int→(List TVal)→Int→Int→(List Int)→Option ((Unit×Bool)×(List Int))) (t0:Int) (t19:List TVal) (t20:Int) (t21:Int) (o100:List Int):Option ((Unit×Bool)×(List Int)):=
 L7 t0 t19 t20 (IntKind.wrap .i64 (t21+1)) o100
def impl_PlainPack.d10 (k:Nat) (L7:Int→(List TVal)→Int→Int→(List Int)→Option ((Unit×Bool)×(List Int))) (t0:Int) (t19:List TVal) (t20:Int) (t21:Int) (o100:List Int) (o101:TVal):Option ((Unit×Bool)×(List Int)):=
 (impl_WordPut k (o101.2.1.size:Int) 4).bind fun r1=>cond (lim (List.length o100+List.length r1.2)) (cond (lim (List.length (o100++r1.2)+List.length (strInts o101.2.1))) (impl_PlainPack.c12 k L7 t0 t19 t20 t21 ((o100++r1.2)++(strInts o101.2.1))) none) none
def impl_PlainPack.d11 (k:Nat) (L7:Int→(List TVal)→Int→Int→(List Int)→Option ((Unit×Bool)×(List Int))) (t0:Int) (t19:List TVal) (t20:Int) (t21:Int) (o100:List Int) (o101:TVal):Option ((Unit×Bool)×(List Int)):=
 (impl_wideOf k t0).bind fun r6=>(impl_WordPut k o101.1 r6).bind fun r7=>cond (lim (List.length o100+List.length r7.2)) (impl_PlainPack.c12 k L7 t0 t19 t20 t21 (o100++r7.2)) none
def impl_PlainPack.l7 (k:Nat):Nat→Int→(List TVal)→Int→Int→(List Int)→Option ((Unit×Bool)×(List Int))
 |0,_,_,_,_,_=>none
 |n+1,t0,t19,t20,t21,o100=>
  cond (decide (t21<t20)) ((rdL t19 t21).bind fun y12=>cond (t0==6) (impl_PlainPack.d10 k (impl_PlainPack.l7 k n) t0 t19 t20 t21 o100 y12) (impl_PlainPack.d11 k (impl_PlainPack.l7 k n) t0 t19 t20 t21 o100 y12)) (some (((),true),o100))
def impl_PlainPack (k:Nat) (t0:Int) (t1:List TVal):Option ((Unit×Bool)×(List Int)):=
 (impl_valsOk k t0 t1).bind fun r13=>cond (!r13) (some (((),false),[])) (cond (t0==0) ((impl_numsOf k t1).bind fun r14=>(impl_packed k r14.2 1).bind fun r15=>some (((),true),r15.2)) (impl_PlainPack.l7 k k t0 t1 (List.length t1:Int) 0 []))
def impl_statText (k:Nat) (t0:Int) (t1:TVal):Option ByteArray:=
 cond (t0==6) (some t1.2.1) ((impl_PlainPack k t0 [t1]).bind fun r1=>some (intsStr r1.2))
def impl_valueOf (k:Nat) (t0:Int) (t1:ByteArray):Option (TVal×Bool):=
 cond (t0==6) ((impl_ValOk k t0 (0,t1,())).bind fun r1=>some ((0,t1,()),r1)) ((impl_PlainRead k t0 (strInts t1) 0 1).bind fun r2=>(cond (!r2.1.2.2) (some (true)) (some (r2.1.2.1 !=(t1.size:Int)))).bind fun b3=>(cond b3 (some (true)) ((rdL r2.2 0).bind fun y4=>(impl_statText k t0 y4).bind fun r5=>some (!eqS r5 t1))).bind fun b6=>cond b6 (some ((0,(⟨#[]⟩:ByteArray),()),false)) ((rdL r2.2 0).bind fun y7=>some (y7,true)))
def impl_FloatKey (k:Nat) (t0:Int):Option Int:=
 cond (decide (t0<0)) (some (bits .xor .i64 t0 9223372036854775807)) (some t0)
def impl_ValLess.d5 (k:Nat) (o100:TVal) (o101:TVal):Option Bool:=
 (impl_FloatKey k o100.1).bind fun r1=>(impl_FloatKey k o101.1).bind fun r2=>some (decide (r1<r2))
def impl_ValLess (k:Nat) (t0:Int) (t1:TVal) (t2:TVal):Option Bool:=
 (impl_ValOk k t0 t1).bind fun r9=>(cond (!r9) (some (true)) ((impl_ValOk k t0 t2).bind fun r10=>some (!r10))).bind fun b11=>cond b11 (some false) (cond (t0==5) (impl_ValLess.d5 k t1 t2) (cond (t0==6) (some (ltS t1.2.1 t2.2.1)) (some (decide (t1.1<t2.1)))))
def impl_statsOk (k:Nat) (t0:TLeaf) (t1:TStats):Option Bool:=
 (impl_LeafOk k t0).bind fun r1=>(cond (!r1) (some (true)) ((impl_within k t1.1 0 2000).bind fun r2=>some (!r2))).bind fun b3=>cond b3 (some false) (cond (!t1.2.1) ((cond ((t1.2.2.1.1==0)&&(eqS t1.2.2.1.2.1 (⟨#[]⟩:ByteArray)&&true)) (some (((t1.2.2.2.1.1==0)&&(eqS t1.2.2.2.1.2.1 (⟨#[]⟩:ByteArray)&&true)))) (some (false))).bind fun b4=>some b4) ((impl_ValOk k t0.1 t1.2.2.1).bind fun r5=>(cond r5 ((impl_ValOk k t0.1 t1.2.2.2.1).bind fun r6=>some (r6)) (some (false))).bind fun b7=>(cond b7 ((impl_ValLess k t0.1 t1.2.2.2.1 t1.2.2.1).bind fun r8=>some (!r8)) (some (false))).bind fun b9=>some b9))
def impl_tree_stats.c13 (k:Nat) (o0:TTreeB) (o10:List Int) (o100:TLeaf) (o101:TStats) (o102:TStats):Option ((TStats×Bool)×TTreeB×(List Int)):=
 (impl_statsOk k o100 o102).bind fun r1=>cond (!r1) (some (((0,false,(0,(⟨#[]⟩:ByteArray),()),(0,(⟨#[]⟩:ByteArray),()),()),false),(o0,o10))) (some ((o102,true),(o0,o10)))
def impl_tree_stats.d12 (k:Nat) (o0:TTreeB) (o10:List Int) (o100:TLeaf) (o101:TStats) (o102:TStats) (o103:TVal) (o104:TVal):Option ((TStats×Bool)×TTreeB×(List Int)):=
 impl_tree_stats.c13 k o0 o10 o100 o101 (o102.1,true,o104,o103,())
def impl_tree_stats (k:Nat) (t1:TLeaf) (t2:Int) (o0:Bool×TTreeB) (o10:List Int):Option ((TStats×Bool)×TTreeB×(List Int)):=
 (impl_tree_num k t2 3 (o0.1,o0.2) o10).bind fun r2=>(cond (!r2.1.2) (some (true)) ((impl_LeafOk k t1).bind fun r3=>some (!r3))).bind fun b4=>cond b4 (some (((0,false,(0,(⟨#[]⟩:ByteArray),()),(0,(⟨#[]⟩:ByteArray),()),()),false),(r2.2.1,r2.2.2))) ((impl_tree_find k t2 5 (true,r2.2.1) r2.2.2).bind fun r5=>cond (decide (r5.1≥0)) (cond true ((impl_tree_part k t2 5 8 (true,r5.2.1) r5.2.2).bind fun r6=>(impl_tree_part k t2 6 8 (true,r6.2.1) r6.2.2).bind fun r7=>(impl_valueOf k t1.1 r6.1.1.2.2.2.1).bind fun r8=>(impl_valueOf k t1.1 r7.1.1.2.2.2.1).bind fun r9=>(cond (!r6.1.2) (some (true)) (some (!r7.1.2))).bind fun b10=>(cond b10 (some (true)) (some (!r8.2))).bind fun b11=>(cond b11 (some (true)) (some (!r9.2))).bind fun b12=>cond b12 (some (((0,false,(0,(⟨#[]⟩:ByteArray),()),(0,(⟨#[]⟩:ByteArray),()),()),false),(r7.2.1,r7.2.2))) (impl_tree_stats.d12 k r7.2.1 r7.2.2 t1 (0,false,(0,(⟨#[]⟩:ByteArray),()),(0,(⟨#[]⟩:ByteArray),()),()) (r2.1.1,false,(0,(⟨#[]⟩:ByteArray),()),(0,(⟨#[]⟩:ByteArray),()),()) r8.1 r9.1)) (impl_tree_stats.c13 k r5.2.1 r5.2.2 t1 (0,false,(0,(⟨#[]⟩:ByteArray),()),(0,(⟨#[]⟩:ByteArray),()),()) (r2.1.1,false,(0,(⟨#[]⟩:ByteArray),()),(0,(⟨#[]⟩:ByteArray),()),()))) ((impl_tree_find k t2 6 (true,r5.2.1) r5.2.2).bind fun r13=>cond (decide (r13.1≥0)) ((impl_tree_part k t2 5 8 (true,r13.2.1) r13.2.2).bind fun r14=>(impl_tree_part k t2 6 8 (true,r14.2.1) r14.2.2).bind fun r15=>(impl_valueOf k t1.1 r14.1.1.2.2.2.1).bind fun r16=>(impl_valueOf k t1.1 r15.1.1.2.2.2.1).bind fun r17=>(cond (!r14.1.2) (some (true)) (some (!r15.1.2))).bind fun b18=>(cond b18 (some (true)) (some (!r16.2))).bind fun b19=>(cond b19 (some (true)) (some (!r17.2))).bind fun b20=>cond b20 (some (((0,false,(0,(⟨#[]⟩:ByteArray),()),(0,(⟨#[]⟩:ByteArray),()),()),false),(r15.2.1,r15.2.2))) (impl_tree_stats.d12 k r15.2.1 r15.2.2 t1 (0,false,(0,(⟨#[]⟩:ByteArray),()),(0,(⟨#[]⟩:ByteArray),()),()) (r2.1.1,false,(0,(⟨#[]⟩:ByteArray),()),(0,(⟨#[]⟩:ByteArray),()),()) r16.1 r17.1)) (impl_tree_stats.c13 k r13.2.1 r13.2.2 t1 (0,false,(0,(⟨#[]⟩:ByteArray),()),(0,(⟨#[]⟩:ByteArray),()),()) (r2.1.1,false,(0,(⟨#[]⟩:ByteArray),()),(0,(⟨#[]⟩:ByteArray),()),()))))
def impl_headReader_statistics (k:Nat) (t1:TLeaf) (t2:Int) (o0:THeadReader) (o3:THead) (o10:TTreeB) (o11:List Int):Option (Unit×THeadReader×THead×TTreeB×(List Int)):=
 (impl_tree_find k o0.2.1 t2 (true,o10) o11).bind fun r1=>cond (decide (r1.1≥0)) ((impl_tree_stats k t1 r1.1 (true,r1.2.1) r1.2.2).bind fun r2=>some ((),(o0,(o3.1,o3.2.1,o3.2.2.1,o3.2.2.2.1,o3.2.2.2.2.1,o3.2.2.2.2.2.1,o3.2.2.2.2.2.2.1,o3.2.2.2.2.2.2.2.1,o3.2.2.2.2.2.2.2.2.1,o3.2.2.2.2.2.2.2.2.2.1,r2.1.2,r2.1.1,o3.2.2.2.2.2.2.2.2.2.2.2.2.1,()),r2.2.1,r2.2.2))) (some ((),(o0,o3,r1.2.1,r1.2.2)))
def impl_headReader_own.c23 (k:Nat) (o0:THeadReader) (o2:THead) (o10:TTreeB) (o11:List Int):Option (Unit×THeadReader×THead×TTreeB×(List Int)):=
 (impl_headReader_num k 1 0 o0 o10 o11).bind fun r1=>(cond r1.2.1.2.2.1 (some (true)) (some (decide (r1.1>2000)))).bind fun b2=>some ((),(((),r1.2.1.2.1,b2,()),(o2.1,o2.2.1,r1.1,o2.2.2.2.1,o2.2.2.2.2.1,o2.2.2.2.2.2.1,o2.2.2.2.2.2.2.1,o2.2.2.2.2.2.2.2.1,o2.2.2.2.2.2.2.2.2.1,o2.2.2.2.2.2.2.2.2.2.1,o2.2.2.2.2.2.2.2.2.2.2.1,o2.2.2.2.2.2.2.2.2.2.2.2.1,o2.2.2.2.2.2.2.2.2.2.2.2.2.1,()),r1.2.2.1,r1.2.2.2))
def impl_headReader_own.c8 (k:Nat) (o0:THeadReader) (o2:THead) (o10:TTreeB) (o11:List Int) (o100:TLeaf):Option (Unit×THeadReader×THead×TTreeB×(List Int)):=
 (impl_headReader_statistics k o100 5 o0 o2 o10 o11).bind fun r3=>impl_headReader_own.c23 k r3.2.1 r3.2.2.1 r3.2.2.2.1 r3.2.2.2.2
def impl_headReader_own.c19 (k:Nat) (o0:THeadReader) (o2:THead) (o10:TTreeB) (o11:List Int) (o100:TLeaf):Option (Unit×THeadReader×THead×TTreeB×(List Int)):=
 (impl_headReader_statistics k o100 8 o0 o2 o10 o11).bind fun r4=>impl_headReader_own.c23 k r4.2.1 r4.2.2.1 r4.2.2.2.1 r4.2.2.2.2
def impl_headReader_own (k:Nat) (t1:TLeaf) (o0:THeadReader) (o2:THead) (o10:TTreeB) (o11:List Int):Option (Unit×THeadReader×THead×TTreeB×(List Int)):=
 cond (o2.1==0) ((impl_headReader_enter k 5 o0 o10 o11).bind fun r5=>(impl_headReader_any k 2 r5.2.1 (true,r5.2.2.1) r5.2.2.2).bind fun r6=>(impl_headReader_any k 3 r6.2.1 (true,r6.2.2.1) r6.2.2.2).bind fun r7=>cond (r7.1 !=3) (cond true (impl_headReader_own.c8 k ((),r7.2.1.2.1,true,()) (o2.1,o2.2.1,o2.2.2.1,r6.1,o2.2.2.2.2.1,o2.2.2.2.2.2.1,o2.2.2.2.2.2.2.1,o2.2.2.2.2.2.2.2.1,o2.2.2.2.2.2.2.2.2.1,o2.2.2.2.2.2.2.2.2.2.1,o2.2.2.2.2.2.2.2.2.2.2.1,o2.2.2.2.2.2.2.2.2.2.2.2.1,o2.2.2.2.2.2.2.2.2.2.2.2.2.1,()) r7.2.2.1 r7.2.2.2 t1) (impl_headReader_own.c8 k r7.2.1 (o2.1,o2.2.1,o2.2.2.1,r6.1,o2.2.2.2.2.1,o2.2.2.2.2.2.1,o2.2.2.2.2.2.2.1,o2.2.2.2.2.2.2.2.1,o2.2.2.2.2.2.2.2.2.1,o2.2.2.2.2.2.2.2.2.2.1,o2.2.2.2.2.2.2.2.2.2.2.1,o2.2.2.2.2.2.2.2.2.2.2.2.1,o2.2.2.2.2.2.2.2.2.2.2.2.2.1,()) r7.2.2.1 r7.2.2.2 t1)) ((impl_headReader_any k 4 r7.2.1 (true,r7.2.2.1) r7.2.2.2).bind fun r8=>cond (r8.1 !=3) (impl_headReader_own.c8 k ((),r8.2.1.2.1,true,()) (o2.1,o2.2.1,o2.2.2.1,r6.1,o2.2.2.2.2.1,o2.2.2.2.2.2.1,o2.2.2.2.2.2.2.1,o2.2.2.2.2.2.2.2.1,o2.2.2.2.2.2.2.2.2.1,o2.2.2.2.2.2.2.2.2.2.1,o2.2.2.2.2.2.2.2.2.2.2.1,o2.2.2.2.2.2.2.2.2.2.2.2.1,o2.2.2.2.2.2.2.2.2.2.2.2.2.1,()) r8.2.2.1 r8.2.2.2 t1) (impl_headReader_own.c8 k r8.2.1 (o2.1,o2.2.1,o2.2.2.1,r6.1,o2.2.2.2.2.1,o2.2.2.2.2.2.1,o2.2.2.2.2.2.2.1,o2.2.2.2.2.2.2.2.1,o2.2.2.2.2.2.2.2.2.1,o2.2.2.2.2.2.2.2.2.2.1,o2.2.2.2.2.2.2.2.2.2.2.1,o2.2.2.2.2.2.2.2.2.2.2.2.1,o2.2.2.2.2.2.2.2.2.2.2.2.2.1,()) r8.2.2.1 r8.2.2.2 t1))) (cond (o2.1==3) ((impl_headReader_enter k 8 o0 o10 o11).bind fun r9=>(impl_headReader_num k 2 0 r9.2.1 r9.2.2.1 r9.2.2.2).bind fun r10=>(impl_headReader_num k 3 0 r10.2.1 r10.2.2.1 r10.2.2.2).bind fun r11=>(impl_headReader_any k 4 r11.2.1 (true,r11.2.2.1) r11.2.2.2).bind fun r12=>(impl_headReader_num k 5 0 r12.2.1 r12.2.2.1 r12.2.2.2).bind fun r13=>(impl_headReader_num k 6 0 r13.2.1 r13.2.2.1 r13.2.2.2).bind fun r14=>(impl_tree_find k r14.2.1.2.1 7 (true,r14.2.2.1) r14.2.2.2).bind fun r15=>(cond (decide (r15.1<0)) (some (true)) ((rdL r15.2.1.1 r15.1).bind fun y16=>some (y16.1==1))).bind fun b17=>cond b17 (impl_headReader_own.c19 k ((),r14.2.1.2.1,true,()) (o2.1,o2.2.1,o2.2.2.1,r12.1,r11.1,r10.1,r13.1,r14.1,o2.2.2.2.2.2.2.2.2.1,o2.2.2.2.2.2.2.2.2.2.1,o2.2.2.2.2.2.2.2.2.2.2.1,o2.2.2.2.2.2.2.2.2.2.2.2.1,o2.2.2.2.2.2.2.2.2.2.2.2.2.1,()) r15.2.1 r15.2.2 t1) (impl_headReader_own.c19 k r14.2.1 (o2.1,o2.2.1,o2.2.2.1,r12.1,r11.1,r10.1,r13.1,r14.1,o2.2.2.2.2.2.2.2.2.1,o2.2.2.2.2.2.2.2.2.2.1,o2.2.2.2.2.2.2.2.2.2.2.1,o2.2.2.2.2.2.2.2.2.2.2.2.1,o2.2.2.2.2.2.2.2.2.2.2.2.2.1,()) r15.2.1 r15.2.2 t1)) (cond (o2.1==2) ((impl_headReader_enter k 7 o0 o10 o11).bind fun r18=>(impl_headReader_any k 2 r18.2.1 (true,r18.2.2.1) r18.2.2.2).bind fun r19=>impl_headReader_own.c23 k r19.2.1 (o2.1,o2.2.1,o2.2.2.1,r19.1,o2.2.2.2.2.1,o2.2.2.2.2.2.1,o2.2.2.2.2.2.2.1,o2.2.2.2.2.2.2.2.1,o2.2.2.2.2.2.2.2.2.1,o2.2.2.2.2.2.2.2.2.2.1,o2.2.2.2.2.2.2.2.2.2.2.1,o2.2.2.2.2.2.2.2.2.2.2.2.1,o2.2.2.2.2.2.2.2.2.2.2.2.2.1,()) r19.2.2.1 r19.2.2.2) (impl_headReader_own.c23 k ((),o0.2.1,true,()) o2 o10 o11)))
def impl_HeadRead.d14 (k:Nat) (t1:List Int) (t9:Int) (t16:Bool) (o100:TLeaf) (o101:THead) (o102:THeadReader) (o103:THead) (o104:TNode) (o105:TTreeB) (o106:List Int):Option (THead×Int):=
 (impl_headReader_own k o100 o102 (o103.1,o103.2.1,o103.2.2.1,o103.2.2.2.1,o103.2.2.2.2.1,o103.2.2.2.2.2.1,o103.2.2.2.2.2.2.1,o103.2.2.2.2.2.2.2.1,t16,bits .and .i64 o104.2.2.1 4294967295,o103.2.2.2.2.2.2.2.2.2.2.1,o103.2.2.2.2.2.2.2.2.2.2.2.1,o103.2.2.2.2.2.2.2.2.2.2.2.2.1,()) o105 o106).bind fun r1=>cond r1.2.1.2.2.1 (some ((0,0,0,0,0,0,0,0,false,0,false,(0,false,(0,(⟨#[]⟩:ByteArray),()),(0,(⟨#[]⟩:ByteArray),()),()),0,()),1)) (cond (decide (r1.2.2.1.2.1>(IntKind.wrap .i64 ((List.length t1:Int)-t9)))) (some ((0,0,0,0,0,0,0,0,false,0,false,(0,false,(0,(⟨#[]⟩:ByteArray),()),(0,(⟨#[]⟩:ByteArray),()),()),0,()),2)) (some (r1.2.2.1,0)))
def impl_HeadRead.c14 (k:Nat) (t1:List Int) (t9:Int) (t16:Bool) (o100:TLeaf) (o101:THead) (o102:THeadReader) (o103:THead) (o104:TNode) (o105:TTreeB) (o106:List Int):Option (THead×Int):=
 impl_HeadRead.d14 k t1 t9 t16 o100 o101 o102 o103 o104 o105 o106
def impl_HeadRead.c11 (k:Nat) (t1:List Int) (t9:Int) (o100:TLeaf) (o101:THead) (o102:TTreeB) (o103:THeadReader) (o104:THead) (o105:List Int):Option (THead×Int):=
 (impl_tree_part k 0 4 5 (true,o102) o105).bind fun r4=>(impl_tree_find k 0 4 (true,r4.2.1) r4.2.2).bind fun r5=>(cond (decide (r5.1≥0)) (some (!r4.1.2)) (some (false))).bind fun b6=>cond b6 (impl_HeadRead.c14 k t1 t9 r4.1.2 o100 o101 ((),o103.2.1,true,()) o104 r4.1.1 r5.2.1 r5.2.2) (impl_HeadRead.c14 k t1 t9 r4.1.2 o100 o101 o103 o104 r4.1.1 r5.2.1 r5.2.2)
def impl_HeadRead.d9 (k:Nat) (t1:List Int) (t9:Int) (o100:TLeaf) (o101:THead) (o102:TTreeB) (o103:THeadReader) (o104:THead) (o105:List Int):Option (THead×Int):=
 (impl_headReader_any k 3 o103 (true,o102) o105).bind fun r7=>cond (r7.1 !=o104.2.1) (impl_HeadRead.c11 k t1 t9 o100 o101 r7.2.2.1 ((),r7.2.1.2.1,true,()) o104 r7.2.2.2) (impl_HeadRead.c11 k t1 t9 o100 o101 r7.2.2.1 r7.2.1 o104 r7.2.2.2)
def impl_HeadRead (k:Nat) (t0:TLeaf) (t1:List Int) (t2:Int):Option (THead×Int):=
 (impl_TreeRead k t1 t2).bind fun r10=>(impl_treeOf k r10.2).bind fun r11=>(impl_LeafOk k t0).bind fun r12=>(cond (!r12) (some (true)) (some (r10.1.2.2 !=0))).bind fun b13=>(cond b13 (some (true)) (some (!r11.1.2))).bind fun b14=>cond b14 (some ((0,0,0,0,0,0,0,0,false,0,false,(0,false,(0,(⟨#[]⟩:ByteArray),()),(0,(⟨#[]⟩:ByteArray),()),()),0,()),1)) ((impl_headReader_any k 1 ((),0,false,()) (r11.2.1.1,r11.2.1.2) r11.2.2).bind fun r15=>(impl_headReader_num k 2 0 r15.2.1 r15.2.2.1 r15.2.2.2).bind fun r16=>impl_HeadRead.d9 k t1 r10.1.2.1 t0 (0,0,0,0,0,0,0,0,false,0,false,(0,false,(0,(⟨#[]⟩:ByteArray),()),(0,(⟨#[]⟩:ByteArray),()),()),0,()) r16.2.2.1 r16.2.1 (r15.1,r16.1,0,0,0,0,0,0,false,0,false,(0,false,(0,(⟨#[]⟩:ByteArray),()),(0,(⟨#[]⟩:ByteArray),()),()),r10.1.2.1,()) r16.2.2.2)
def impl_crcNumber.c7 (k:Nat) (L2:Int→Int→Option Int) (t0:Int) (t4:Int):Option Int:=
 L2 t0 (IntKind.wrap .i64 (t4+1))
def impl_crcNumber.l2 (k:Nat):Nat→Int→Int→Option Int
 |0,_,_=>none
 |n+1,t0,t4=>
  cond (decide (t4<8)) (cond ((Int.tmod t0 2)==1) (impl_crcNumber.c7 k (impl_crcNumber.l2 k n) (bits .xor .i64 (IntKind.wrap .i64 (Int.tdiv t0 2)) 3988292384) t4) (impl_crcNumber.c7 k (impl_crcNumber.l2 k n) (IntKind.wrap .i64 (Int.tdiv t0 2)) t4)) (some t0)
def impl_crcNumber (k:Nat) (t0:Int):Option Int:=
 impl_crcNumber.l2 k k t0 0
def impl_CrcTable.l3 (k:Nat):Nat→Int→(List Int)→Option (Unit×(List Int))
 |0,_,_=>none
 |n+1,t4,o100=>
  cond (decide (t4<256)) ((impl_crcNumber k t4).bind fun r1=>cond (lim (List.length o100+List.length [r1])) ((impl_CrcTable.l3 k n) (IntKind.wrap .i64 (t4+1)) (o100++[r1])) none) (some ((),o100))
def impl_CrcTable (k:Nat):Option (Unit×(List Int)):=
 impl_CrcTable.l3 k k 0 []
def impl_CrcMore.l6 (k:Nat):Nat→Int→(List Int)→Int→Int→(List Int)→Option Int
 |0,_,_,_,_,_=>none
 |n+1,t0,t14,t15,t16,o100=>
  cond (decide (t16<t15)) ((rdL t14 t16).bind fun y1=>(rdL o100 (bits .xor .i64 (bits .and .i64 t0 255) (IntKind.wrap .i64 y1))).bind fun y2=>(impl_CrcMore.l6 k n) (bits .xor .i64 y2 (shrI .i64 t0 8)) t14 t15 (IntKind.wrap .i64 (t16+1)) o100) (some (bits .xor .i64 t0 4294967295))
def impl_CrcMore (k:Nat) (t0:Int) (t1:List Int):Option Int:=
 (impl_within k t0 0 4294967295).bind fun r3=>cond (!r3) (some (-1)) ((impl_CrcTable k).bind fun r4=>impl_CrcMore.l6 k k (bits .xor .i64 t0 4294967295) t1 (List.length t1:Int) 0 r4.2)
def impl_CrcOf (k:Nat) (t0:List Int):Option Int:=
 (impl_CrcMore k 0 t0).bind fun r1=>some r1
def impl_checked.d5 (k:Nat) (t11:List Int) (o100:THead) (o101:THead):Option (THead×(List Int)×Int):=
 cond o101.2.2.2.2.2.2.2.2.1 ((impl_CrcOf k t11).bind fun r1=>cond (o101.2.2.2.2.2.2.2.2.2.1 !=r1) (some (o101,[],3)) (some (o101,t11,0))) (cond false (some (o101,[],3)) (some (o101,t11,0)))
def impl_checked (k:Nat) (t0:TLeaf) (t1:List Int) (t2:Int):Option (THead×(List Int)×Int):=
 (impl_HeadRead k t0 t1 t2).bind fun r4=>cond (r4.2 !=0) (some (r4.1,[],r4.2)) (cond (inSl r4.1.2.2.2.2.2.2.2.2.2.2.2.2.1 (IntKind.wrap .i64 (r4.1.2.2.2.2.2.2.2.2.2.2.2.2.1+r4.1.2.1)) (List.length t1)) (impl_checked.d5 k (cutL t1 r4.1.2.2.2.2.2.2.2.2.2.2.2.2.1 (IntKind.wrap .i64 (r4.1.2.2.2.2.2.2.2.2.2.2.2.2.1+r4.1.2.1))) (0,0,0,0,0,0,0,0,false,0,false,(0,false,(0,(⟨#[]⟩:ByteArray),()),(0,(⟨#[]⟩:ByteArray),()),()),0,()) r4.1) none)
def impl_DictRead (k:Nat) (t0:Int) (t1:List Int) (t2:Int):Option ((Unit×Int×Int)×(List TVal)):=
 (impl_checked k (t0,0,0,()) t1 t2).bind fun r1=>(cond (r1.2.2==0) (some (true)) (some (r1.2.2==3))).bind fun b2=>(cond b2 ((cond (r1.1.1 !=2) (some (true)) ((cond (r1.1.2.2.2.1 !=0) (some (r1.1.2.2.2.1 !=2)) (some (false))).bind fun b3=>some (b3))).bind fun b4=>some (b4)) (some (false))).bind fun b5=>cond b5 (some (((),0,1),[])) (cond (r1.2.2 !=0) (some (((),0,r1.2.2),[])) ((impl_PlainRead k t0 r1.2.1 0 r1.1.2.2.1).bind fun r6=>(cond (!r6.1.2.2) (some (true)) (some (r6.1.2.1 !=(List.length r1.2.1:Int)))).bind fun b7=>cond b7 (some (((),0,5),[])) (some (((),IntKind.wrap .i64 (r1.1.2.2.2.2.2.2.2.2.2.2.2.2.1+r1.1.2.1),0),r6.2))))
def impl_ChunkPages.l11 (k:Nat):Nat→(List Int)→Int→Int→TLeaf→TChunk→(List TVal)→(List Int)→Option ((Unit×Unit×Int)×(List Int)×(List TVal))
 |0,_,_,_,_,_,_,_=>none
 |n+1,t1,t14,t15,o100,o101,o102,o103=>
  cond (decide (t14<o101.2.2.2.1)) ((impl_HeadRead k o100 t1 t15).bind fun r1=>cond (r1.2 !=0) (some (((),(),r1.2),([],[]))) ((cond (r1.1.1==2) (some (true)) (some (r1.1.2.2.1==0))).bind fun b2=>(cond b2 (some (true)) (some (decide ((IntKind.wrap .i64 (t14+r1.1.2.2.1))>o101.2.2.2.1)))).bind fun b3=>cond b3 (some (((),(),1),([],[]))) (cond (lim (List.length o103+List.length [t15])) ((impl_ChunkPages.l11 k n) t1 (IntKind.wrap .i64 (t14+r1.1.2.2.1)) (IntKind.wrap .i64 (r1.1.2.2.2.2.2.2.2.2.2.2.2.2.1+r1.1.2.1)) o100 o101 o102 (o103++[t15])) none))) (some (((),(),0),(o103,o102)))
def impl_ChunkPages.c9 (k:Nat) (t1:List Int) (o100:TLeaf) (o101:TChunk) (o102:List TVal):Option ((Unit×Unit×Int)×(List Int)×(List TVal)):=
 impl_ChunkPages.l11 k k t1 0 o101.2.1 o100 o101 o102 []
def impl_ChunkPages (k:Nat) (t0:TLeaf) (t1:List Int) (t2:TChunk):Option ((Unit×Unit×Int)×(List Int)×(List TVal)):=
 (cond (decide (t2.2.1<0)) (some (true)) (some (decide (t2.2.2.1<(-1))))).bind fun b4=>cond b4 (some (((),(),1),([],[]))) (cond (decide (t2.2.2.1≥0)) ((impl_DictRead k t0.1 t1 t2.2.2.1).bind fun r5=>cond (r5.1.2.2 !=0) (some (((),(),r5.1.2.2),([],[]))) (impl_ChunkPages.c9 k t1 t0 t2 r5.2)) (impl_ChunkPages.c9 k t1 t0 t2 []))
def impl_PagesOf.l9 (k:Nat) (L6:(List Int)→Int→(List TGroupMeta)→Int→Int→(Unit×Int×(List TGroupMeta)×Unit)→(List TCol)→Option (Int×Int)):Nat→(List Int)→Int→(List TGroupMeta)→Int→Int→(List TChunk)→Int→Int→(Unit×Int×(List TGroupMeta)×Unit)→(List TCol)→Option (Int×Int)
 |0,_,_,_,_,_,_,_,_,_,_=>none
 |n+1,t0,t6,t25,t26,t27,t32,t33,t34,o100,o101=>
  cond (decide (t34<t33)) ((rdL t32 t34).bind fun y1=>(impl_LeafOf k o101 t34).bind fun r2=>(impl_ChunkPages k r2.1 t0 y1).bind fun r3=>cond (r3.1.2.2 !=0) (some (0,4)) ((impl_PagesOf.l9 k L6 n) t0 (IntKind.wrap .i64 (t6+(List.length r3.2.1:Int))) t25 t26 t27 t32 t33 (IntKind.wrap .i64 (t34+1)) o100 o101)) (L6 t0 t6 t25 t26 (IntKind.wrap .i64 (t27+1)) o100 o101)
def impl_PagesOf.l6 (k:Nat):Nat→(List Int)→Int→(List TGroupMeta)→Int→Int→(Unit×Int×(List TGroupMeta)×Unit)→(List TCol)→Option (Int×Int)
 |0,_,_,_,_,_,_,_=>none
 |n+1,t0,t6,t25,t26,t27,o100,o101=>
  cond (decide (t27<t26)) ((rdL t25 t27).bind fun y4=>impl_PagesOf.l9 k (impl_PagesOf.l6 k n) k t0 t6 t25 t26 t27 y4.2.1 (List.length y4.2.1:Int) 0 o100 o101) (some (t6,0))
def impl_PagesOf (k:Nat) (t0:List Int):Option (Int×Int):=
 (impl_FileMeta k t0).bind fun r5=>cond (r5.1.2 !=0) (some (0,r5.1.2)) (impl_PagesOf.l6 k k t0 0 r5.2.2 (List.length r5.2.2:Int) 0 ((),r5.1.1.2.1,r5.2.2,()) r5.2.1)
def laws_FnExactPagesOf (k:Nat) (t0:List Int):Option Bool:=
 cond (decide ((List.length t0:Int)>1048576)) (some true) ((laws_toByteS k t0).bind fun r1=>(spec_PagesOf k r1.2).bind fun r2=>(laws_toByteS k t0).bind fun r3=>(impl_PagesOf k r3.2).bind fun r4=>(cond (r4.1 !=r2.1) (some (true)) (some (r4.2 !=r2.2))).bind fun b5=>cond b5 (some false) ((laws_toByteS k t0).bind fun r6=>(laws_eqByteS k r3.2 r6.2).bind fun r7=>cond (!r7) (some false) (some true)))
end Go.Fn
