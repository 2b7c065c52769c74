/- the claim's functions as plain Lean -/
import Derived.Test.YtbhpckfakcoojaaAmStep
namespace Go
abbrev zR:ByteArray:=⟨#[]⟩
end Go
set_option linter.unusedVariables false
namespace Go.Fn
open Go.Am
abbrev zB:=Int×ByteArray×Unit
abbrev EY:=Int×Int×Int×Unit
abbrev zL:=(List Int)×Int×Int×Unit
abbrev zC:=ByteArray×Int×Int×Int×Unit
abbrev Ay:=(List zB)×Unit
abbrev zO:=Int×Int×zB×Unit
abbrev zJ:=(List zO)×Unit
abbrev Aq:=(List zC)×(List zB)×Bool×Unit×Unit×Unit
abbrev Ac:=(List zC)×(List zB)×Bool×(Unit×Unit×Unit)×(Unit×Unit)×Unit
abbrev zQ:=(List zC)×(List zJ)×(List Int)×Unit×Unit×Bool×Bool×Unit
abbrev Uy:=(List zC)×(List zJ)×(List Int)×(List Int)×(List zB)×Bool×Bool×Unit
def Jr(k:Nat)(t0:List Int):Option Bool:=
 some (decide ((List.length t0:Int)>1048576))
def Ez.l3(k:Nat):Nat→(List Int)→Int→Int→Option (Unit×zL)
 |0,_,_,_=>none
 |n+1,t0,t3,t4=>
  (cond (decide (t4<(List.length t0:Int))) (some (decide (t4<4000))) (some false)).bind fun b1=>cond b1 ((gI t0 t4).bind fun y2=>(Ez.l3 k n) t0 (bits .and .i64 (IntKind.wrap .i64 ((IntKind.wrap .i64 ((IntKind.wrap .i64 (t3*131))+(IntKind.wrap .i64 y2)))+7)) 1073741823) (IntKind.wrap .i64 (t4+1))) (some ((),(t0,0,t3,())))
def Ez(k:Nat)(t0:List Int):Option (Unit×zL):=
 Ez.l3 k k t0 (IntKind.wrap .i64 (11443+(List.length t0:Int))) 0
def DZ.c6(k:Nat)(t3:Int)(o0:zL):Option (Int×zL):=
 some (t3,o0)
def DZ(k:Nat)(o0:zL):Option (Int×zL):=
 cond (decide (o0.2.1<(List.length o0.1:Int))) ((gI o0.1 o0.2.1).bind fun y1=>DZ.c6 k (bits .and .i64 (IntKind.wrap .i64 ((bits .and .i64 (bits .xor .i64 (p_ .i64 (IntKind.wrap .i64 ((IntKind.wrap .i64 (o0.2.2.1*6364136223846793005))+1442695040888963407)) 33) (p_ .i64 (IntKind.wrap .i64 ((IntKind.wrap .i64 (o0.2.2.1*6364136223846793005))+1442695040888963407)) 45)) 255)+(IntKind.wrap .i64 y1))) 255) (o0.1,IntKind.wrap .i64 (o0.2.1+1),IntKind.wrap .i64 ((IntKind.wrap .i64 (o0.2.2.1*6364136223846793005))+1442695040888963407),())) (DZ.c6 k (bits .and .i64 (bits .xor .i64 (p_ .i64 (IntKind.wrap .i64 ((IntKind.wrap .i64 (o0.2.2.1*6364136223846793005))+1442695040888963407)) 33) (p_ .i64 (IntKind.wrap .i64 ((IntKind.wrap .i64 (o0.2.2.1*6364136223846793005))+1442695040888963407)) 45)) 255) (o0.1,o0.2.1,IntKind.wrap .i64 ((IntKind.wrap .i64 (o0.2.2.1*6364136223846793005))+1442695040888963407),()))
def Bl(k:Nat)(t1:Int)(o0:zL):Option (Int×zL):=
 cond (decide (t1≤0)) (some (0,o0)) (cond (decide (t1≤256)) ((DZ k o0).bind fun r1=>cond (decide (t1≠0)) (some (Int.tmod r1.1 t1,r1.2)) none) ((DZ k o0).bind fun r2=>(DZ k r2.2).bind fun r3=>(DZ k r3.2).bind fun r4=>(DZ k r4.2).bind fun r5=>cond (decide (t1≠0)) (some (Int.tmod (IntKind.wrap .i64 ((IntKind.wrap .i64 ((IntKind.wrap .i64 ((IntKind.wrap .i64 (r2.1*16777216))+(IntKind.wrap .i64 (r3.1*65536))))+(IntKind.wrap .i64 (r4.1*256))))+r5.1)) t1,r5.2)) none))
def EO(k:Nat)(t1:Int)(o0:zL):Option (Bool×zL):=
 (Bl k t1 o0).bind fun r1=>some (r1.1==0,r1.2)
def Ey(k:Nat)(t0:Int)(t1:Int)(t2:Int):Option Bool:=
 (cond (decide (t0≥t1)) (some (decide (t0≤t2))) (some false)).bind fun b1=>some b1
def ER.l4(k:Nat):Nat→ByteArray→Int→Option Bool
 |0,_,_=>none
 |n+1,t0,t3=>
  cond (decide (t3<(t0.size:Int))) ((nS t0 t3).bind fun y1=>(cond (decide (y1<97)) (some true) ((nS t0 t3).bind fun y2=>some (decide (y2>122)))).bind fun b3=>cond b3 (some false) ((ER.l4 k n) t0 (IntKind.wrap .i64 (t3+1)))) (some true)
def ER(k:Nat)(t0:ByteArray):Option Bool:=
 (Ey k (t0.size:Int) 1 20).bind fun r4=>cond (!r4) (some false) (ER.l4 k k t0 0)
def EA.c7(k:Nat)(t4:Bool):Option Bool:=
 cond t4 (some true) (some false)
def EA(k:Nat)(t0:Int):Option Bool:=
 cond (t0==0) (EA.c7 k (t0==0)) (cond (t0==1) (EA.c7 k (t0==1)) (cond (t0==2) (EA.c7 k (t0==2)) (cond (t0==5) (EA.c7 k (t0==5)) (EA.c7 k (t0==6)))))
def A9.Gw(k:Nat)(D9:(List zC)→Int→Int→Option Int)(JL:(List zC)→Int→Int→Int→zC→(List ByteArray)→Option Int):Nat→(List zC)→Int→Int→Int→Int→zC→(List ByteArray)→Option Int
 |0,_,_,_,_,_,_,_=>none
 |n+1,t0,t2,t8,t10,t11,zH,AA=>
  cond (decide (t11<(List.length AA:Int))) ((gI AA t11).bind fun y1=>(gI t0 t8).bind fun y2=>cond (jk y1 y2.1) (some (-1)) ((A9.Gw k D9 JL n) t0 t2 t8 t10 (IntKind.wrap .i64 (t11+1)) zH AA)) ((gI t0 t8).bind fun y3=>cond (lim (List.length AA+List.length [y3.1])) ((D9 t0 t8 (IntKind.wrap .i64 (t2+1))).bind fun r4=>cond (decide (r4<0)) (some (-1)) (JL t0 t2 r4 (IntKind.wrap .i64 (t10+1)) zH (AA++[y3.1]))) none)
def A9.Dh(k:Nat)(D9:(List zC)→Int→Int→Option Int):Nat→(List zC)→Int→Int→Int→zC→(List ByteArray)→Option Int
 |0,_,_,_,_,_,_=>none
 |n+1,t0,t2,t8,t10,zH,AA=>
  cond (decide (t10<zH.2.2.2.1)) (cond (decide (t8≥(List.length t0:Int))) (some (-1)) (A9.Gw k D9 (A9.Dh k D9 n) k t0 t2 t8 t10 0 zH AA)) (some t8)
def A9.b(k:Nat)(D9:(List zC)→Int→Int→Option Int)(t0:List zC)(t1:Int)(t2:Int):Option Int:=
 (cond (decide (t1≥(List.length t0:Int))) (some true) (some (decide (t2>6)))).bind fun b5=>cond b5 (some (-1)) ((gI t0 t1).bind fun y6=>(cond (t1==0) ((cond (!jk y6.1 zR) (some true) (some (y6.2.2.1 !=0))).bind fun b7=>(cond b7 (some true) (some (y6.2.1 !=7))).bind fun b8=>some (b8)) (some false)).bind fun b9=>(cond b9 (some true) ((cond (decide (t1>0)) ((ER k y6.1).bind fun AQ=>some (!AQ)) (some false)).bind fun b11=>some (b11))).bind fun b12=>(cond b12 (some true) ((Ey k y6.2.2.1 0 2).bind fun FU=>some (!FU))).bind fun b14=>cond b14 (some (-1)) (cond (y6.2.1 !=7) ((EA k y6.2.1).bind fun Fz=>(cond (!Fz) (some true) (some (y6.2.2.2.1 !=0))).bind fun b16=>cond b16 (some (-1)) (some (IntKind.wrap .i64 (t1+1)))) (cond (decide (y6.2.2.2.1<1)) (some (-1)) (A9.Dh k D9 k t0 t2 (IntKind.wrap .i64 (t1+1)) 0 y6 []))))
def A9.rec(k:Nat):Nat→((List zC)→Int→Int→Option Int)
 |0=>fun _ _ _=>none
 |d+1=>A9.b k ((A9.rec k d))
def A9.d(k d:Nat):(List zC)→Int→Int→Option Int:=(A9.rec k d)
def A9(k:Nat):(List zC)→Int→Int→Option Int:=A9.d k k
def Cg(k:Nat)(t0:List zC):Option Bool:=
 (Ey k (List.length t0:Int) 2 20).bind fun r1=>(cond r1 ((A9 k t0 0 1).bind fun r2=>some (r2==(List.length t0:Int))) (some false)).bind fun b3=>some b3
def Ga(k:Nat)(t1:List Int)(o0:zL):Option (Int×zL):=
 (Bl k (List.length t1:Int) o0).bind fun r1=>(gI t1 r1.1).bind fun y2=>some (y2,r1.2)
def AU.Dp(k:Nat)(CQ:ByteArray→Int→zL→(List zC)→Option (Unit×zL×(List zC))):Nat→Int→Int→Int→zL→(List zC)→Option (Unit×zL×(List zC))
 |0,_,_,_,_,_=>none
 |n+1,t2,t11,t12,o0,zH=>
  cond (decide (t12<t11)) ((Bl k 4 o0).bind fun r1=>(CQ (xI [IntKind.wrap .u8 (IntKind.wrap .i64 (97+t12)),IntKind.wrap .u8 (IntKind.wrap .i64 (97+r1.1))]) (IntKind.wrap .i64 (t2-1)) r1.2 zH).bind fun r2=>(AU.Dp k CQ n) t2 t11 (IntKind.wrap .i64 (t12+1)) r2.2.1 r2.2.2) (some ((),(o0,zH)))
def AU.c12(k:Nat)(CQ:ByteArray→Int→zL→(List zC)→Option (Unit×zL×(List zC)))(t2:Int)(t11:Int)(o0:zL)(zH:List zC):Option (Unit×zL×(List zC)):=
 AU.Dp k CQ k t2 t11 0 o0 zH
def AU.c4(k:Nat)(CQ:ByteArray→Int→zL→(List zC)→Option (Unit×zL×(List zC)))(t1:ByteArray)(t2:Int)(o0:zL)(zK:List zC)(zH:zC):Option (Unit×zL×(List zC)):=
 cond (lim (List.length zK+List.length [zH])) (cond (zH.2.1 !=7) (some ((),(o0,zK++[zH]))) ((Bl k 3 o0).bind fun r3=>(gI (zK++[zH]) (List.length zK:Int)).bind fun y4=>(gI (zK++[zH]) (List.length zK:Int)).bind fun y5=>cond (jk t1 zR) ((gI (List.set (zK++[zH]) (Int.toNat (List.length zK:Int)) (y5.1,y5.2.1,y5.2.2.1,IntKind.wrap .i64 (1+r3.1),())) (List.length zK:Int)).bind fun y6=>(gI (List.set (zK++[zH]) (Int.toNat (List.length zK:Int)) (y5.1,y5.2.1,y5.2.2.1,IntKind.wrap .i64 (1+r3.1),())) (List.length zK:Int)).bind fun y7=>AU.c12 k CQ t2 (IntKind.wrap .i64 (1+r3.1)) r3.2 (List.set (List.set (zK++[zH]) (Int.toNat (List.length zK:Int)) (y5.1,y5.2.1,y5.2.2.1,IntKind.wrap .i64 (1+r3.1),())) (Int.toNat (List.length zK:Int)) (y7.1,y7.2.1,0,y7.2.2.2.1,()))) (AU.c12 k CQ t2 (IntKind.wrap .i64 (1+r3.1)) r3.2 (List.set (zK++[zH]) (Int.toNat (List.length zK:Int)) (y5.1,y5.2.1,y5.2.2.1,IntKind.wrap .i64 (1+r3.1),()))))) none
def AU.b(k:Nat)(CQ:ByteArray→Int→zL→(List zC)→Option (Unit×zL×(List zC)))(t1:ByteArray)(t2:Int)(o0:zL)(zK:List zC):Option (Unit×zL×(List zC)):=
 (Ga k [0,1,2,5,6] o0).bind fun r8=>(Bl k 3 r8.2).bind fun r9=>cond (jk t1 zR) (cond true (AU.c4 k CQ t1 t2 r9.2 zK (t1,7,r9.1,0,())) (AU.c4 k CQ t1 t2 r9.2 zK (t1,r8.1,r9.1,0,()))) (cond (decide (t2>0)) ((EO k 3 r9.2).bind fun AQ=>cond AQ.1 (AU.c4 k CQ t1 t2 AQ.2 zK (t1,7,r9.1,0,())) (AU.c4 k CQ t1 t2 AQ.2 zK (t1,r8.1,r9.1,0,()))) (cond false (AU.c4 k CQ t1 t2 r9.2 zK (t1,7,r9.1,0,())) (AU.c4 k CQ t1 t2 r9.2 zK (t1,r8.1,r9.1,0,()))))
def AU.rec(k:Nat):Nat→(ByteArray→Int→zL→(List zC)→Option (Unit×zL×(List zC)))
 |0=>fun _ _ _ _=>none
 |d+1=>AU.b k ((AU.rec k d))
def AU.d(k d:Nat):ByteArray→Int→zL→(List zC)→Option (Unit×zL×(List zC)):=(AU.rec k d)
def AU(k:Nat):ByteArray→Int→zL→(List zC)→Option (Unit×zL×(List zC)):=AU.d k k
def EP.l2(k:Nat):Nat→Int→zL→Option (Unit×zL×(List zC))
 |0,_,_=>none
 |n+1,t3,o0=>
  cond (decide (t3<9)) ((Bl k 3 o0).bind fun r1=>(AU k zR (IntKind.wrap .i64 (1+r1.1)) r1.2 []).bind fun r2=>(Cg k r2.2.2).bind fun r3=>cond r3 (some ((),(r2.2.1,r2.2.2))) ((EP.l2 k n) (IntKind.wrap .i64 (t3+1)) r2.2.1)) (some ((),(o0,[(zR,7,0,1,()),((⟨#[97]⟩:ByteArray),2,1,0,())])))
def EP(k:Nat)(o0:zL):Option (Unit×zL×(List zC)):=
 EP.l2 k k 0 o0
def C9.c4(k:Nat)(L3:(List zC)→Int→(List Int)→Option (Unit×(List Int)))(t0:List zC)(t4:Int)(zH:List Int):Option (Unit×(List Int)):=
 L3 t0 (IntKind.wrap .i64 (t4+1)) zH
def C9.l3(k:Nat):Nat→(List zC)→Int→(List Int)→Option (Unit×(List Int))
 |0,_,_,_=>none
 |n+1,t0,t4,zH=>
  cond (decide (t4<(List.length t0:Int))) ((gI t0 t4).bind fun y1=>cond (y1.2.1 !=7) (cond (lim (List.length zH+List.length [t4])) (C9.c4 k (C9.l3 k n) t0 t4 (zH++[t4])) none) (C9.c4 k (C9.l3 k n) t0 t4 zH)) (some ((),zH))
def C9(k:Nat)(t0:List zC):Option (Unit×(List Int)):=
 C9.l3 k k t0 0 []
def Bu.l3(k:Nat)(FF:(List zC)→Int→Option Int):Nat→(List zC)→Int→Int→Int→Option Int
 |0,_,_,_,_=>none
 |n+1,t0,t1,t5,t6=>
  (gI t0 t1).bind fun y1=>cond (decide (t6<y1.2.2.2.1)) ((FF t0 t5).bind fun r2=>(Bu.l3 k FF n) t0 t1 r2 (IntKind.wrap .i64 (t6+1))) (some t5)
def Bu.b(k:Nat)(FF:(List zC)→Int→Option Int)(t0:List zC)(t1:Int):Option Int:=
 Bu.l3 k FF k t0 t1 (IntKind.wrap .i64 (t1+1)) 0
def Bu.rec(k:Nat):Nat→((List zC)→Int→Option Int)
 |0=>fun _ _=>none
 |d+1=>Bu.b k ((Bu.rec k d))
def Bu.d(k d:Nat):(List zC)→Int→Option Int:=(Bu.rec k d)
def Bu(k:Nat):(List zC)→Int→Option Int:=Bu.d k k
def JE(k:Nat)(t0:Int):Option Bool:=
 (Ey k t0 (-2147483648) 2147483647).bind fun r1=>some r1
def Fh.c8(k:Nat)(t5:Int)(t26:Bool)(zH:zB):Option Bool:=
 cond t26 (some (jk zH.2.1 zR)) (cond (t5==6) ((cond (zH.1==0) (some (decide ((zH.2.1.size:Int)≤40))) (some false)).bind fun b1=>some b1) (some false))
def Fh(k:Nat)(t0:Int)(t1:zB):Option Bool:=
 cond (t0==0) ((Ey k t1.1 0 1).bind fun r2=>(cond r2 (some (jk t1.2.1 zR)) (some false)).bind fun b3=>some b3) (cond (t0==1) ((JE k t1.1).bind fun r4=>(cond r4 (some (jk t1.2.1 zR)) (some false)).bind fun b5=>some b5) (cond (t0==2) (Fh.c8 k t0 (t0==2) t1) (Fh.c8 k t0 (t0==5) t1)))
def Ht(k:Nat)(t0:zB)(t1:Int):Option Int:=
 (cond (!jk t0.2.1 zR) (some true) ((Ey k t0.1 0 t1).bind fun r1=>some (!r1))).bind fun b2=>cond b2 (some (-1)) (some t0.1)
def AO.l7(k:Nat)(El:(List zC)→Int→(List zB)→Int→Option Int):Nat→(List zC)→Int→(List zB)→Int→Int→Int→Option Int
 |0,_,_,_,_,_,_=>none
 |n+1,t0,t1,t2,t3,t9,t10=>
  (gI t0 t1).bind fun y1=>cond (decide (t10<y1.2.2.2.1)) ((El t0 t9 t2 t3).bind fun r2=>cond (decide (r2<0)) (some (-1)) ((Bu k t0 t9).bind fun r3=>(AO.l7 k El n) t0 t1 t2 r2 r3 (IntKind.wrap .i64 (t10+1)))) (some t3)
def AO.b(k:Nat)(CP:(List zC)→Int→(List zB)→Int→Option Int)(El:(List zC)→Int→(List zB)→Int→Option Int)(t0:List zC)(t1:Int)(t2:List zB)(t3:Int):Option Int:=
 (gI t0 t1).bind fun y4=>cond (y4.2.1 !=7) ((cond (decide (t3≥(List.length t2:Int))) (some true) ((gI t0 t1).bind fun y5=>(gI t2 t3).bind fun y6=>(Fh k y5.2.1 y6).bind fun r7=>some (!r7))).bind fun b8=>cond b8 (some (-1)) (some (IntKind.wrap .i64 (t3+1)))) (AO.l7 k El k t0 t1 t2 t3 (IntKind.wrap .i64 (t1+1)) 0)
def BH.Dp(k:Nat)(CP:(List zC)→Int→(List zB)→Int→Option Int):Nat→(List zC)→Int→(List zB)→Int→Int→Int→Option Int
 |0,_,_,_,_,_,_=>none
 |n+1,t0,t1,t2,t3,t9,t11=>
  cond (decide (t11<t9)) ((CP t0 t1 t2 t3).bind fun r1=>cond (decide (r1<0)) (some (-1)) ((BH.Dp k CP n) t0 t1 t2 r1 t9 (IntKind.wrap .i64 (t11+1)))) (some t3)
def BH.c12(k:Nat)(CP:(List zC)→Int→(List zB)→Int→Option Int)(t0:List zC)(t1:Int)(t2:List zB)(t3:Int)(t9:Int):Option Int:=
 BH.Dp k CP k t0 t1 t2 t3 t9 0
def BH.c6(k:Nat)(CP:(List zC)→Int→(List zB)→Int→Option Int)(t0:List zC)(t1:Int)(t2:List zB)(t3:Int)(t10:Int):Option Int:=
 cond (decide (t3≥(List.length t2:Int))) (some (-1)) ((gI t2 t3).bind fun y2=>(Ht k y2 t10).bind fun r3=>cond (decide (r3<0)) (some (-1)) (BH.c12 k CP t0 t1 t2 (IntKind.wrap .i64 (t3+1)) r3))
def BH.b(k:Nat)(CP:(List zC)→Int→(List zB)→Int→Option Int)(El:(List zC)→Int→(List zB)→Int→Option Int)(t0:List zC)(t1:Int)(t2:List zB)(t3:Int):Option Int:=
 (gI t0 t1).bind fun y4=>cond (y4.2.2.1 !=0) ((gI t0 t1).bind fun y5=>cond (y5.2.2.1==2) (BH.c6 k CP t0 t1 t2 t3 20) (BH.c6 k CP t0 t1 t2 t3 1)) (BH.c12 k CP t0 t1 t2 t3 1)
def AO.rec(k:Nat):Nat→((List zC)→Int→(List zB)→Int→Option Int)×((List zC)→Int→(List zB)→Int→Option Int)
 |0=>(fun _ _ _ _=>none,fun _ _ _ _=>none)
 |d+1=>(AO.b k ((AO.rec k d).1) ((AO.rec k d).2),BH.b k ((AO.rec k d).1) ((AO.rec k d).2))
def AO.d(k d:Nat):(List zC)→Int→(List zB)→Int→Option Int:=(AO.rec k d).1
def AO(k:Nat):(List zC)→Int→(List zB)→Int→Option Int:=AO.d k k
def BH.d(k d:Nat):(List zC)→Int→(List zB)→Int→Option Int:=(AO.rec k d).2
def BH(k:Nat):(List zC)→Int→(List zB)→Int→Option Int:=BH.d k k
def DR.d1(k:Nat)(t0:List zC)(zH:Ay):Option Bool:=
 (Cg k t0).bind fun r1=>cond r1 (cond (decide ((List.length zH.1:Int)≤300)) ((AO k t0 0 zH.1 0).bind fun r2=>some (r2==(List.length zH.1:Int))) (some false)) (cond false ((AO k t0 0 zH.1 0).bind fun r3=>some (r3==(List.length zH.1:Int))) (some false))
def DR(k:Nat)(t0:List zC)(t1:Ay):Option Bool:=
 DR.d1 k t0 t1
def CL.c4(k:Nat)(L3:(List zC)→Int→Int→Int→Option Int)(t0:List zC)(t1:Int)(t5:Int)(t6:Int):Option Int:=
 L3 t0 t1 t5 (IntKind.wrap .i64 (t6+1))
def CL.l3(k:Nat):Nat→(List zC)→Int→Int→Int→Option Int
 |0,_,_,_,_=>none
 |n+1,t0,t1,t5,t6=>
  cond (decide (t6<t1)) ((gI t0 t6).bind fun y1=>cond (y1.2.1 !=7) (CL.c4 k (CL.l3 k n) t0 t1 (IntKind.wrap .i64 (t5+1)) t6) (CL.c4 k (CL.l3 k n) t0 t1 t5 t6)) (some t5)
def CL(k:Nat)(t0:List zC)(t1:Int):Option Int:=
 CL.l3 k k t0 t1 0 0
def Ew.l2(k:Nat):Nat→(List zC)→Int→Int→(List (List zO))→zO→Option (Unit×(List (List zO)))
 |0,_,_,_,_,_=>none
 |n+1,t0,t1,t9,zK,zH=>
  (Bu k t0 t1).bind fun r1=>(CL k t0 r1).bind fun r2=>cond (decide (t9<r2)) ((gI zK t9).bind fun y3=>cond (lim (List.length y3+List.length [zH])) ((gI zK t9).bind fun y4=>cond (t9==t9) ((gI zK t9).bind fun y5=>(Ew.l2 k n) t0 t1 (IntKind.wrap .i64 (t9+1)) (List.set zK (Int.toNat t9) (y3++[zH])) zH) none) none) (some ((),zK))
def Ew(k:Nat)(t0:List zC)(t1:Int)(t2:zO)(zK:List (List zO)):Option (Unit×(List (List zO))):=
 (CL k t0 t1).bind fun r6=>Ew.l2 k k t0 t1 r6 zK t2
def Be.l7(k:Nat)(En:(List zC)→Int→(List zB)→Int→Int→Int→Int→(List (List zO))→Option ((Unit×Int)×(List (List zO)))):Nat→(List zC)→Int→(List zB)→Int→Int→Int→Int→Int→Int→(List (List zO))→Option ((Unit×Int)×(List (List zO)))
 |0,_,_,_,_,_,_,_,_,_,_=>none
 |n+1,t0,t1,t2,t3,t4,t5,t6,t19,t20,zK=>
  (gI t0 t1).bind fun y1=>cond (decide (t20<y1.2.2.2.1)) ((En t0 t19 t2 t3 t4 t5 t6 zK).bind fun r2=>(Bu k t0 t19).bind fun r3=>(Be.l7 k En n) t0 t1 t2 r2.1.2 t4 t5 t6 r3 (IntKind.wrap .i64 (t20+1)) r2.2) (some (((),t3),zK))
def Be.b(k:Nat)(Dl:(List zC)→Int→(List zB)→Int→Int→Int→Int→(List (List zO))→Option ((Unit×Int)×(List (List zO))))(En:(List zC)→Int→(List zB)→Int→Int→Int→Int→(List (List zO))→Option ((Unit×Int)×(List (List zO))))(t0:List zC)(t1:Int)(t2:List zB)(t3:Int)(t4:Int)(t5:Int)(t6:Int)(zK:List (List zO)):Option ((Unit×Int)×(List (List zO))):=
 (gI t0 t1).bind fun y4=>cond (y4.2.1 !=7) ((CL k t0 t1).bind fun r5=>(gI zK r5).bind fun y6=>(gI t2 t3).bind fun y7=>cond (lim (List.length y6+List.length [(t4,t5,y7,())])) ((gI zK r5).bind fun y8=>cond (r5==r5) ((gI zK r5).bind fun y9=>some (((),IntKind.wrap .i64 (t3+1)),List.set zK (Int.toNat r5) (y6++[(t4,t5,y7,())]))) none) none) (Be.l7 k En k t0 t1 t2 t3 t4 t5 t6 (IntKind.wrap .i64 (t1+1)) 0 zK)
def Cv.l10(k:Nat)(Dl:(List zC)→Int→(List zB)→Int→Int→Int→Int→(List (List zO))→Option ((Unit×Int)×(List (List zO)))):Nat→(List zC)→Int→(List zB)→Int→Int→Int→Int→Int→Int→(List (List zO))→Option ((Unit×Int)×(List (List zO)))
 |0,_,_,_,_,_,_,_,_,_,_=>none
 |n+1,t0,t1,t2,t3,t4,t5,t6,t18,t19,zK=>
  cond (decide (t19<t18)) ((Dl t0 t1 t2 t3 t4 (IntKind.wrap .i64 (t5+1)) t6 zK).bind fun r1=>(Cv.l10 k Dl n) t0 t1 t2 r1.1.2 t6 t5 t6 t18 (IntKind.wrap .i64 (t19+1)) r1.2) (some (((),t3),zK))
def Cv.c9(k:Nat)(Dl:(List zC)→Int→(List zB)→Int→Int→Int→Int→(List (List zO))→Option ((Unit×Int)×(List (List zO))))(t0:List zC)(t1:Int)(t2:List zB)(t3:Int)(t4:Int)(t5:Int)(t6:Int)(t18:Int)(zK:List (List zO)):Option ((Unit×Int)×(List (List zO))):=
 Cv.l10 k Dl k t0 t1 t2 t3 t4 t5 t6 t18 0 zK
def Cv.b(k:Nat)(Dl:(List zC)→Int→(List zB)→Int→Int→Int→Int→(List (List zO))→Option ((Unit×Int)×(List (List zO))))(En:(List zC)→Int→(List zB)→Int→Int→Int→Int→(List (List zO))→Option ((Unit×Int)×(List (List zO))))(t0:List zC)(t1:Int)(t2:List zB)(t3:Int)(t4:Int)(t5:Int)(t6:Int)(zK:List (List zO)):Option ((Unit×Int)×(List (List zO))):=
 (gI t0 t1).bind fun y2=>cond (y2.2.2.1==0) ((Dl t0 t1 t2 t3 t4 t5 t6 zK).bind fun r3=>some (((),r3.1.2),r3.2)) ((gI t2 t3).bind fun y4=>cond (y4.1==0) ((Ew k t0 t1 (t4,t5,(0,zR,()),()) zK).bind fun r5=>some (((),IntKind.wrap .i64 (t3+1)),r5.2)) ((gI t0 t1).bind fun y6=>cond (y6.2.2.1==2) (Cv.c9 k Dl t0 t1 t2 (IntKind.wrap .i64 (t3+1)) t4 t5 (IntKind.wrap .i64 (t6+1)) y4.1 zK) (Cv.c9 k Dl t0 t1 t2 (IntKind.wrap .i64 (t3+1)) t4 t5 t6 y4.1 zK)))
def Be.rec(k:Nat):Nat→((List zC)→Int→(List zB)→Int→Int→Int→Int→(List (List zO))→Option ((Unit×Int)×(List (List zO))))×((List zC)→Int→(List zB)→Int→Int→Int→Int→(List (List zO))→Option ((Unit×Int)×(List (List zO))))
 |0=>(fun _ _ _ _ _ _ _ _=>none,fun _ _ _ _ _ _ _ _=>none)
 |d+1=>(Be.b k ((Be.rec k d).1) ((Be.rec k d).2),Cv.b k ((Be.rec k d).1) ((Be.rec k d).2))
def Be.d(k d:Nat):(List zC)→Int→(List zB)→Int→Int→Int→Int→(List (List zO))→Option ((Unit×Int)×(List (List zO))):=(Be.rec k d).1
def Be(k:Nat):(List zC)→Int→(List zB)→Int→Int→Int→Int→(List (List zO))→Option ((Unit×Int)×(List (List zO))):=Be.d k k
def Cv.d(k d:Nat):(List zC)→Int→(List zB)→Int→Int→Int→Int→(List (List zO))→Option ((Unit×Int)×(List (List zO))):=(Be.rec k d).2
def Cv(k:Nat):(List zC)→Int→(List zB)→Int→Int→Int→Int→(List (List zO))→Option ((Unit×Int)×(List (List zO))):=Cv.d k k
def CW.Gu(k:Nat):Nat→(List (List zO))→Int→(List zJ)→Option ((Unit×Bool)×(List zJ))
 |0,_,_,_=>none
 |n+1,t7,t9,zH=>
  cond (decide (t9<(List.length t7:Int))) ((gI t7 t9).bind fun y1=>cond (decide ((List.length y1:Int)>2000)) (some (((),false),[])) ((gI t7 t9).bind fun y2=>cond (lim (List.length zH+List.length [(y2,())])) ((CW.Gu k n) t7 (IntKind.wrap .i64 (t9+1)) (zH++[(y2,())])) none)) (some (((),true),zH))
def CW.l6(k:Nat):Nat→(List zC)→(List Ay)→Int→(List zJ)→(List (List zO))→Option ((Unit×Bool)×(List zJ))
 |0,_,_,_,_,_=>none
 |n+1,t0,t1,t8,zH,AA=>
  cond (decide (t8<(List.length t1:Int))) ((gI t1 t8).bind fun y3=>(DR k t0 y3).bind fun r4=>cond (!r4) (some (((),false),zH)) ((gI t1 t8).bind fun y5=>(Be k t0 0 y5.1 0 0 0 0 AA).bind fun r6=>(CW.l6 k n) t0 t1 (IntKind.wrap .i64 (t8+1)) zH r6.2)) (CW.Gu k k AA 0 zH)
def CW(k:Nat)(t0:List zC)(t1:List Ay):Option ((Unit×Bool)×(List zJ)):=
 (Cg k t0).bind fun r7=>(cond (!r7) (some true) (some (decide ((List.length t1:Int)>200)))).bind fun b8=>cond b8 (some (((),false),[])) ((C9 k t0).bind fun r9=>cond (pQ (List.length r9.2:Int)) (CW.l6 k k t0 t1 0 [] (List.replicate (Int.toNat (List.length r9.2:Int)) [])) none)
def IZ(k:Nat)(t1:List ByteArray)(o0:zL):Option (ByteArray×zL):=
 (Bl k (List.length t1:Int) o0).bind fun r1=>(gI t1 r1.1).bind fun y2=>some (y2,r1.2)
def Ex.l4(k:Nat):Nat→Int→Int→zL→(List Int)→Option (Unit×zL×(List Int))
 |0,_,_,_,_=>none
 |n+1,t6,t7,o0,zH=>
  cond (decide (t7<t6)) ((DZ k o0).bind fun r1=>cond (lim (List.length zH+List.length [IntKind.wrap .u8 r1.1])) ((Ex.l4 k n) t6 (IntKind.wrap .i64 (t7+1)) r1.2 (zH++[IntKind.wrap .u8 r1.1])) none) (some ((),(o0,zH)))
def Ex(k:Nat)(t1:Int)(o0:zL):Option (Unit×zL×(List Int)):=
 (Bl k (IntKind.wrap .i64 (t1+1)) o0).bind fun r2=>Ex.l4 k k r2.1 0 r2.2 []
def Hy(k:Nat)(t1:Int)(o0:zL):Option (ByteArray×zL):=
 (Ex k t1 o0).bind fun r1=>some (xI r1.2.2,r1.2.1)
def Hw(k:Nat)(o0:zL):Option (Int×zL):=
 (Bl k 1000000 o0).bind fun r1=>(Bl k 1000000 r1.2).bind fun r2=>(Bl k 300 r2.2).bind fun r3=>(Ga k [0,1,(-1),63,64,(-64),(-65),127,128,16383,16384,2147483647,(-2147483648),9223372036854775807,(-9223372036854775808),4611686018427387904,r1.1,IntKind.wrap .i64 (0-r2.1),r3.1] r3.2).bind fun r4=>some (r4.1,r4.2)
def I1(k:Nat)(t1:Int)(o0:zL):Option ((zB)×zL):=
 cond (t1==0) ((Bl k 2 o0).bind fun r1=>some ((r1.1,zR,()),r1.2)) (cond (t1==1) ((EO k 6 o0).bind fun r2=>cond r2.1 ((Ga k [2147483647,(-2147483648),0] r2.2).bind fun r3=>some ((r3.1,zR,()),r3.2)) ((Bl k 40 r2.2).bind fun r4=>some ((IntKind.wrap .i64 (r4.1-12),zR,()),r4.2))) (cond (t1==6) ((EO k 3 o0).bind fun r5=>cond r5.1 ((IZ k [zR,(⟨#[97]⟩:ByteArray),(⟨#[97,98]⟩:ByteArray),(⟨#[97,98,99]⟩:ByteArray),(⟨#[97,98,100]⟩:ByteArray),(⟨#[98]⟩:ByteArray),(⟨#[97,97]⟩:ByteArray)] r5.2).bind fun r6=>some ((0,r6.1,()),r6.2)) ((Hy k 6 r5.2).bind fun r7=>some ((0,r7.1,()),r7.2))) (cond (t1==5) ((Bl k 9 o0).bind fun r8=>(Hw k r8.2).bind fun r9=>(Ga k [0,(-9223372036854775808),4607182418800017408,(-4616189618054758400),9221120237041090560,(-2251799813685248),r8.1,r9.1] r9.2).bind fun AQ=>some ((AQ.1,zR,()),AQ.2)) ((EO k 2 o0).bind fun Cu=>cond Cu.1 ((Bl k 30 Cu.2).bind fun Fb=>some ((IntKind.wrap .i64 (Fb.1-9),zR,()),Fb.2)) ((Hw k Cu.2).bind fun FU=>some ((FU.1,zR,()),FU.2))))))
def zZ.c11(k:Nat)(H8:(List zC)→Int→Int→Int→zL→(List zB)→Option (Unit×zL×(List zB)))(t1:List zC)(t2:Int)(t9:Int)(t10:Int)(o0:zL)(zH:List zB):Option (Unit×zL×(List zB)):=
 H8 t1 t2 t9 (IntKind.wrap .i64 (t10+1)) o0 zH
def zZ.Gv(k:Nat)(Cr:(List zC)→Int→zL→(List zB)→Option (Unit×zL×(List zB)))(H8:(List zC)→Int→Int→Int→zL→(List zB)→Option (Unit×zL×(List zB))):Nat→(List zC)→Int→Int→Int→Int→Int→zL→(List zB)→Option (Unit×zL×(List zB))
 |0,_,_,_,_,_,_,_,_=>none
 |n+1,t1,t2,t9,t10,t11,t12,o0,zH=>
  (gI t1 t2).bind fun y1=>cond (decide (t12<y1.2.2.2.1)) ((Cr t1 t11 o0 zH).bind fun r2=>(Bu k t1 t11).bind fun r3=>(zZ.Gv k Cr H8 n) t1 t2 t9 t10 r3 (IntKind.wrap .i64 (t12+1)) r2.2.1 r2.2.2) (zZ.c11 k H8 t1 t2 t9 t10 o0 zH)
def zZ.l10(k:Nat)(Cr:(List zC)→Int→zL→(List zB)→Option (Unit×zL×(List zB))):Nat→(List zC)→Int→Int→Int→zL→(List zB)→Option (Unit×zL×(List zB))
 |0,_,_,_,_,_,_=>none
 |n+1,t1,t2,t9,t10,o0,zH=>
  cond (decide (t10<t9)) ((gI t1 t2).bind fun y4=>cond (y4.2.1 !=7) ((gI t1 t2).bind fun y5=>(I1 k y5.2.1 o0).bind fun r6=>cond (lim (List.length zH+List.length [r6.1])) (zZ.c11 k (zZ.l10 k Cr n) t1 t2 t9 t10 r6.2 (zH++[r6.1])) none) (zZ.Gv k Cr (zZ.l10 k Cr n) k t1 t2 t9 t10 (IntKind.wrap .i64 (t2+1)) 0 o0 zH)) (some ((),(o0,zH)))
def zZ.c9(k:Nat)(Cr:(List zC)→Int→zL→(List zB)→Option (Unit×zL×(List zB)))(t1:List zC)(t2:Int)(t9:Int)(o0:zL)(zH:List zB):Option (Unit×zL×(List zB)):=
 zZ.l10 k Cr k t1 t2 t9 0 o0 zH
def zZ.c8(k:Nat)(Cr:(List zC)→Int→zL→(List zB)→Option (Unit×zL×(List zB)))(t1:List zC)(t2:Int)(t9:Int)(o0:zL)(zK:List zB):Option (Unit×zL×(List zB)):=
 cond (lim (List.length zK+List.length ([(t9,zR,())]:List zB))) (zZ.c9 k Cr t1 t2 t9 o0 (zK++[(t9,zR,())])) none
def zZ.b(k:Nat)(Cr:(List zC)→Int→zL→(List zB)→Option (Unit×zL×(List zB)))(t1:List zC)(t2:Int)(o0:zL)(zK:List zB):Option (Unit×zL×(List zB)):=
 (cond (decide (t2>0)) ((gI t1 t2).bind fun y7=>some (y7.2.2.1 !=0)) (some false)).bind fun b8=>cond b8 ((Bl k 2 o0).bind fun r9=>(gI t1 t2).bind fun Gf=>cond (Gf.2.2.1==2) ((Bl k 4 r9.2).bind fun Cu=>(EO k 60 Cu.2).bind fun Fb=>cond Fb.1 (zZ.c8 k Cr t1 t2 20 Fb.2 zK) (zZ.c8 k Cr t1 t2 Cu.1 Fb.2 zK)) (zZ.c8 k Cr t1 t2 r9.1 r9.2 zK)) (zZ.c9 k Cr t1 t2 1 o0 zK)
def zZ.rec(k:Nat):Nat→((List zC)→Int→zL→(List zB)→Option (Unit×zL×(List zB)))
 |0=>fun _ _ _ _=>none
 |d+1=>zZ.b k ((zZ.rec k d))
def zZ.d(k d:Nat):(List zC)→Int→zL→(List zB)→Option (Unit×zL×(List zB)):=(zZ.rec k d)
def zZ(k:Nat):(List zC)→Int→zL→(List zB)→Option (Unit×zL×(List zB)):=zZ.d k k
def Ch.l6(k:Nat)(FH:(List zC)→Int→Option (Unit×(List zB))):Nat→(List zC)→Int→Int→Int→(List zB)→Option (Unit×(List zB))
 |0,_,_,_,_,_=>none
 |n+1,t0,t1,t6,t7,zH=>
  (gI t0 t1).bind fun y1=>cond (decide (t7<y1.2.2.2.1)) ((FH t0 t6).bind fun r2=>cond (lim (List.length zH+List.length r2.2)) ((Bu k t0 t6).bind fun r3=>(Ch.l6 k FH n) t0 t1 r3 (IntKind.wrap .i64 (t7+1)) (zH++r2.2)) none) (some ((),zH))
def Ch.b(k:Nat)(FH:(List zC)→Int→Option (Unit×(List zB)))(t0:List zC)(t1:Int):Option (Unit×(List zB)):=
 (cond (decide (t1>0)) ((gI t0 t1).bind fun y4=>some (y4.2.2.1 !=0)) (some false)).bind fun b5=>(cond b5 (some true) ((gI t0 t1).bind fun y6=>some (y6.2.1 !=7))).bind fun b7=>cond b7 (some ((),[(0,zR,())])) (Ch.l6 k FH k t0 t1 (IntKind.wrap .i64 (t1+1)) 0 [])
def Ch.rec(k:Nat):Nat→((List zC)→Int→Option (Unit×(List zB)))
 |0=>fun _ _=>none
 |d+1=>Ch.b k ((Ch.rec k d))
def Ch.d(k d:Nat):(List zC)→Int→Option (Unit×(List zB)):=(Ch.rec k d)
def Ch(k:Nat):(List zC)→Int→Option (Unit×(List zB)):=Ch.d k k
def IW(k:Nat)(t0:List zC):Option (((Unit×Unit)×Bool)×(List zB)):=
 (Cg k t0).bind fun r1=>cond (!r1) (some ((((),()),false),[])) ((Ch k t0 0).bind fun r2=>some ((((),()),true),r2.2))
def FC.c4(k:Nat)(o0:zL)(zH:Unit×Unit)(AA:Unit×Unit)(Er:List zB)(TB:List zB):Option (((Unit×Unit))×zL×(List zB)):=
 some (((),()),(o0,Er))
def FC(k:Nat)(t1:List zC)(o0:zL):Option (((Unit×Unit))×zL×(List zB)):=
 (zZ k t1 0 o0 []).bind fun r1=>(DR k t1 (r1.2.2,())).bind fun r2=>cond (!r2) ((IW k t1).bind fun r3=>FC.c4 k r1.2.1 ((),()) ((),()) r3.2 []) (FC.c4 k r1.2.1 ((),()) ((),()) r1.2.2 [])
def Ee.l4(k:Nat):Nat→(List zC)→Int→Int→zL→(List Ay)→Option (Unit×zL×(List Ay))
 |0,_,_,_,_,_=>none
 |n+1,t1,t8,t9,o0,zH=>
  cond (decide (t9<t8)) ((FC k t1 o0).bind fun r1=>cond (lim (List.length zH+List.length [(r1.2.2,())])) ((Ee.l4 k n) t1 t8 (IntKind.wrap .i64 (t9+1)) r1.2.1 (zH++[(r1.2.2,())])) none) (some ((),(o0,zH)))
def Ee(k:Nat)(t1:List zC)(t2:Int)(o0:zL):Option (Unit×zL×(List Ay)):=
 (Bl k (IntKind.wrap .i64 (t2+1)) o0).bind fun r2=>Ee.l4 k k t1 r2.1 0 r2.2 []
def BV.c23(k:Nat)(t4:List zC)(o0:zL)(zH:List zJ):Option (((List zC)×Unit)×zL×(List zJ)):=
 some ((t4,()),(o0,zH))
def BV.c20(k:Nat)(t4:List zC)(t7:Int)(o0:zL)(zH:List zJ)(AA:List zO):Option (((List zC)×Unit)×zL×(List zJ)):=
 (gI zH t7).bind fun y1=>(gI zH t7).bind fun y2=>(EO k 20 o0).bind fun r3=>cond r3.1 (cond (lim (List.length (List.set zH (Int.toNat t7) (AA,()))+List.length ([([],())]:List zJ))) (BV.c23 k t4 r3.2 ((List.set zH (Int.toNat t7) (AA,()))++[([],())])) none) (BV.c23 k t4 r3.2 (List.set zH (Int.toNat t7) (AA,())))
def BV(k:Nat)(o0:zL):Option (((List zC)×Unit)×zL×(List zJ)):=
 (EP k o0).bind fun r4=>(Ee k r4.2.2 5 r4.2.1).bind fun r5=>(CW k r4.2.2 r5.2.2).bind fun r6=>cond ((List.length r6.2:Int)==0) (cond true (some ((r4.2.2,()),(r5.2.1,r6.2))) ((Bl k (List.length r6.2:Int) r5.2.1).bind fun r7=>(gI r6.2 r7.1).bind fun y8=>cond (lim ((0:Nat)+List.length y8.1)) (cond (decide ((List.length ([]++y8.1):Int)>0)) ((Bl k (List.length ([]++y8.1):Int) r7.2).bind fun r9=>(Bl k 6 r9.2).bind fun AQ=>cond (AQ.1==0) ((Bl k 3 AQ.2).bind fun Cu=>(gI ([]++y8.1) r9.1).bind fun Uw=>(gI ([]++y8.1) r9.1).bind fun y13=>BV.c20 k r4.2.2 r7.1 Cu.2 r6.2 (List.set ([]++y8.1) (Int.toNat r9.1) (Cu.1,y13.2.1,y13.2.2.1,()))) (cond (AQ.1==1) ((Bl k 4 AQ.2).bind fun Fy=>(gI ([]++y8.1) r9.1).bind fun UQ=>(gI ([]++y8.1) r9.1).bind fun I5=>BV.c20 k r4.2.2 r7.1 Fy.2 r6.2 (List.set ([]++y8.1) (Int.toNat r9.1) (I5.1,Fy.1,I5.2.2.1,()))) (cond (AQ.1==2) (cond (jv 0 r9.1 (List.length ([]++y8.1))) (cond (jv (IntKind.wrap .i64 (r9.1+1)) ((List.length ([]++y8.1)):Int) (List.length ([]++y8.1))) (cond (lim (List.length (j6 ([]++y8.1) 0 r9.1)+List.length (j6 ([]++y8.1) (IntKind.wrap .i64 (r9.1+1)) ((List.length ([]++y8.1)):Int)))) (BV.c20 k r4.2.2 r7.1 AQ.2 r6.2 ((j6 ([]++y8.1) 0 r9.1)++(j6 ([]++y8.1) (IntKind.wrap .i64 (r9.1+1)) ((List.length ([]++y8.1)):Int)))) none) none) none) (cond (AQ.1==3) ((gI ([]++y8.1) r9.1).bind fun Lx=>cond (lim (List.length ([]++y8.1:List zO)+List.length [Lx])) (BV.c20 k r4.2.2 r7.1 AQ.2 r6.2 (([]++y8.1)++[Lx])) none) (cond (AQ.1==4) ((Bl k 3 AQ.2).bind fun Fe=>(gI ([]++y8.1) r9.1).bind fun EU=>(gI ([]++y8.1) r9.1).bind fun y20=>BV.c20 k r4.2.2 r7.1 Fe.2 r6.2 (List.set ([]++y8.1) (Int.toNat r9.1) (y20.1,y20.2.1,(Fe.1,zR,()),()))) (BV.c20 k r4.2.2 r7.1 AQ.2 r6.2 ([]++y8.1))))))) (BV.c20 k r4.2.2 r7.1 r7.2 r6.2 ([]++y8.1))) none)) ((EO k 3 r5.2.1).bind fun JA=>cond (!JA.1) (some ((r4.2.2,()),(JA.2,r6.2))) ((Bl k (List.length r6.2:Int) JA.2).bind fun Ff=>(gI r6.2 Ff.1).bind fun y23=>cond (lim ((0:Nat)+List.length y23.1)) (cond (decide ((List.length ([]++y23.1):Int)>0)) ((Bl k (List.length ([]++y23.1):Int) Ff.2).bind fun Dq=>(Bl k 6 Dq.2).bind fun EM=>cond (EM.1==0) ((Bl k 3 EM.2).bind fun KY=>(gI ([]++y23.1) Dq.1).bind fun y27=>(gI ([]++y23.1) Dq.1).bind fun y28=>BV.c20 k r4.2.2 Ff.1 KY.2 r6.2 (List.set ([]++y23.1) (Int.toNat Dq.1) (KY.1,y28.2.1,y28.2.2.1,()))) (cond (EM.1==1) ((Bl k 4 EM.2).bind fun KZ=>(gI ([]++y23.1) Dq.1).bind fun UR=>(gI ([]++y23.1) Dq.1).bind fun y31=>BV.c20 k r4.2.2 Ff.1 KZ.2 r6.2 (List.set ([]++y23.1) (Int.toNat Dq.1) (y31.1,KZ.1,y31.2.2.1,()))) (cond (EM.1==2) (cond (jv 0 Dq.1 (List.length ([]++y23.1))) (cond (jv (IntKind.wrap .i64 (Dq.1+1)) ((List.length ([]++y23.1)):Int) (List.length ([]++y23.1))) (cond (lim (List.length (j6 ([]++y23.1) 0 Dq.1)+List.length (j6 ([]++y23.1) (IntKind.wrap .i64 (Dq.1+1)) ((List.length ([]++y23.1)):Int)))) (BV.c20 k r4.2.2 Ff.1 EM.2 r6.2 ((j6 ([]++y23.1) 0 Dq.1)++(j6 ([]++y23.1) (IntKind.wrap .i64 (Dq.1+1)) ((List.length ([]++y23.1)):Int)))) none) none) none) (cond (EM.1==3) ((gI ([]++y23.1) Dq.1).bind fun y32=>cond (lim (List.length ([]++y23.1:List zO)+List.length [y32])) (BV.c20 k r4.2.2 Ff.1 EM.2 r6.2 (([]++y23.1)++[y32])) none) (cond (EM.1==4) ((Bl k 3 EM.2).bind fun K3=>(gI ([]++y23.1) Dq.1).bind fun y34=>(gI ([]++y23.1) Dq.1).bind fun LA=>BV.c20 k r4.2.2 Ff.1 K3.2 r6.2 (List.set ([]++y23.1) (Int.toNat Dq.1) (LA.1,LA.2.1,(K3.1,zR,()),()))) (BV.c20 k r4.2.2 Ff.1 EM.2 r6.2 ([]++y23.1))))))) (BV.c20 k r4.2.2 Ff.1 Ff.2 r6.2 ([]++y23.1))) none))
def EN.l7(k:Nat):Nat→Int→zL→(List zC)→(List zO)→Option (((List zC)×Unit)×(List zJ))
 |0,_,_,_,_=>none
 |n+1,t8,zH,AA,Er=>
  (Bl k 2 zH).bind fun r1=>cond (decide (t8<(IntKind.wrap .i64 (20+r1.1)))) (cond (lim (List.length Er+List.length ([(1,1,(0,zR,()),())]:List zO))) ((EN.l7 k n) (IntKind.wrap .i64 (t8+1)) r1.2 AA (Er++[(1,1,(0,zR,()),())])) none) (some ((AA,()),[(Er,())]))
def EN(k:Nat)(t0:List Int):Option (((List zC)×Unit)×(List zJ)):=
 (Ez k t0).bind fun r2=>(BV k r2.2).bind fun r3=>(EO k 40 r3.2.1).bind fun r4=>cond r4.1 (EN.l7 k k 1 r4.2 [(zR,7,0,1,()),((⟨#[97]⟩:ByteArray),0,2,0,())] [(0,1,(0,zR,()),())]) (some ((r3.1.1,()),r3.2.2))
def Dz(k:Nat)(t0:Int)(t1:Int)(t2:Int):Option Bool:=
 (cond (decide (t0≥t1)) (some (decide (t0≤t2))) (some false)).bind fun b1=>some b1
def IA(k:Nat)(t0:Int):Option Bool:=
 (Dz k t0 0 2).bind fun r1=>(cond r1 (some true) (some (t0==5))).bind fun b2=>(cond b2 (some true) (some (t0==6))).bind fun b3=>some b3
def IC(k:Nat)(t0:zC):Option Bool:=
 (cond (t0.2.1==7) (some (decide (t0.2.2.2.1>0))) (some false)).bind fun b1=>(IA k t0.2.1).bind fun r2=>(cond r2 (some (t0.2.2.2.1==0)) (some false)).bind fun b3=>(cond b1 (some true) (some (b3))).bind fun b4=>(cond b4 ((Dz k t0.2.2.1 0 2).bind fun r5=>some (r5)) (some false)).bind fun b6=>some b6
def EF.l2(k:Nat):Nat→ByteArray→Int→Int→Option Bool
 |0,_,_,_=>none
 |n+1,t0,t5,t6=>
  cond (decide (t6<t5)) ((nS t0 t6).bind fun y1=>(Dz k (IntKind.wrap .i64 y1) 97 122).bind fun r2=>cond (!r2) (some false) ((EF.l2 k n) t0 t5 (IntKind.wrap .i64 (t6+1)))) ((Dz k (t0.size:Int) 1 20).bind fun r3=>some r3)
def EF(k:Nat)(t0:ByteArray):Option Bool:=
 EF.l2 k k t0 (t0.size:Int) 0
def Ao.l10(k:Nat)(D8:(List zC)→Int→Int→Option Int)(L6:(List zC)→Int→Int→Int→Int→(List ByteArray)→Option Int):Nat→(List zC)→Int→Int→Int→Int→Int→Int→(List ByteArray)→Option Int
 |0,_,_,_,_,_,_,_,_=>none
 |n+1,t0,t2,t7,t47,t48,t55,t56,zH=>
  cond (decide (t56<t55)) ((gI zH t56).bind fun y1=>(gI t0 t7).bind fun y2=>cond (jk y1 y2.1) (some (-1)) ((Ao.l10 k D8 L6 n) t0 t2 t7 t47 t48 t55 (IntKind.wrap .i64 (t56+1)) zH)) ((gI t0 t7).bind fun y3=>cond (lim (List.length zH+List.length [y3.1])) ((D8 t0 t7 (IntKind.wrap .i64 (t2+1))).bind fun r4=>cond (decide (r4<0)) (some (-1)) (L6 t0 t2 r4 t47 (IntKind.wrap .i64 (t48+1)) (zH++[y3.1]))) none)
def Ao.l6(k:Nat)(D8:(List zC)→Int→Int→Option Int):Nat→(List zC)→Int→Int→Int→Int→(List ByteArray)→Option Int
 |0,_,_,_,_,_,_=>none
 |n+1,t0,t2,t7,t47,t48,zH=>
  cond (decide (t48<t47)) (cond (decide (t7≥(List.length t0:Int))) (some (-1)) (Ao.l10 k D8 (Ao.l6 k D8 n) k t0 t2 t7 t47 t48 (List.length zH:Int) 0 zH)) (some t7)
def Ao.b(k:Nat)(D8:(List zC)→Int→Int→Option Int)(t0:List zC)(t1:Int)(t2:Int):Option Int:=
 (cond (decide (t1≥(List.length t0:Int))) (some true) (some (decide (t2>6)))).bind fun b5=>(cond b5 (some true) ((gI t0 t1).bind fun y6=>(IC k y6).bind fun r7=>some (!r7))).bind fun b8=>(cond b8 (some true) ((cond (decide (t1>0)) ((gI t0 t1).bind fun y9=>(EF k y9.1).bind fun AQ=>some (!AQ)) (some false)).bind fun b11=>some (b11))).bind fun b12=>cond b12 (some (-1)) ((gI t0 t1).bind fun y13=>Ao.l6 k D8 k t0 t2 (IntKind.wrap .i64 (t1+1)) y13.2.2.2.1 0 [])
def Ao.rec(k:Nat):Nat→((List zC)→Int→Int→Option Int)
 |0=>fun _ _ _=>none
 |d+1=>Ao.b k ((Ao.rec k d))
def Ao.d(k d:Nat):(List zC)→Int→Int→Option Int:=(Ao.rec k d)
def Ao(k:Nat):(List zC)→Int→Int→Option Int:=Ao.d k k
def DU(k:Nat)(t0:List zC):Option Bool:=
 (Dz k (List.length t0:Int) 2 20).bind fun r1=>(cond (!r1) (some true) ((gI t0 0).bind fun y2=>some (y2.2.1 !=7))).bind fun b3=>(cond b3 (some true) ((gI t0 0).bind fun y4=>some (y4.2.2.1 !=0))).bind fun b5=>(cond b5 (some true) ((gI t0 0).bind fun y6=>some (!jk y6.1 zR))).bind fun b7=>cond b7 (some false) ((Ao k t0 0 1).bind fun r8=>some (r8==(List.length t0:Int)))
def CV.c7(k:Nat)(L3:(List zC)→Int→Int→(List Int)→Option (Unit×(List Int)))(t7:List zC)(t8:Int)(t9:Int)(zH:List Int):Option (Unit×(List Int)):=
 L3 t7 t8 (IntKind.wrap .i64 (t9+1)) zH
def CV.l3(k:Nat):Nat→(List zC)→Int→Int→(List Int)→Option (Unit×(List Int))
 |0,_,_,_,_=>none
 |n+1,t7,t8,t9,zH=>
  cond (decide (t9<t8)) ((gI t7 t9).bind fun y1=>cond (y1.2.1 !=7) (cond (lim (List.length zH+List.length [t9])) (CV.c7 k (CV.l3 k n) t7 t8 t9 (zH++[t9])) none) (CV.c7 k (CV.l3 k n) t7 t8 t9 zH)) (some ((),zH))
def CV(k:Nat)(t0:List zC):Option (Unit×(List Int)):=
 CV.l3 k k t0 (List.length t0:Int) 0 []
def GZ(k:Nat)(t0:List zC):Option (Unit×(List Int)):=
 (DU k t0).bind fun r1=>cond (!r1) (some ((),[])) ((CV k t0).bind fun r2=>some ((),r2.2))
def Eb.l6(k:Nat):Nat→(List zC)→Int→Int→(List Int)→(List Int)→Option (Unit×(List Int))
 |0,_,_,_,_,_=>none
 |n+1,t0,t1,t7,zH,AA=>
  (gI zH t1).bind fun y1=>cond (decide (t7≤y1)) ((Ao k t0 t7 1).bind fun r2=>(gI zH t1).bind fun y3=>cond (decide (r2>y3)) (cond (lim (List.length AA+List.length [t7])) ((Eb.l6 k n) t0 t1 (IntKind.wrap .i64 (t7+1)) zH (AA++[t7])) none) ((Eb.l6 k n) t0 t1 r2 zH AA)) (some ((),AA))
def Eb(k:Nat)(t0:List zC)(t1:Int):Option (Unit×(List Int)):=
 (GZ k t0).bind fun r4=>(Dz k t1 0 (IntKind.wrap .i64 ((List.length r4.2:Int)-1))).bind fun r5=>cond (!r5) (some ((),[])) (Eb.l6 k k t0 t1 1 r4.2 [])
def Cc.c12(k:Nat)(L6:(List zC)→Int→Int→Int→Int→(List Int)→Option (Int×Int))(t0:List zC)(t7:Int)(t8:Int)(t18:Int)(t19:Int)(zH:List Int):Option (Int×Int):=
 L6 t0 t7 t8 t18 (IntKind.wrap .i64 (t19+1)) zH
def Cc.c10(k:Nat)(L6:(List zC)→Int→Int→Int→Int→(List Int)→Option (Int×Int))(t0:List zC)(t7:Int)(t8:Int)(t10:Int)(t18:Int)(t19:Int)(zH:List Int):Option (Int×Int):=
 (gI t0 t10).bind fun y1=>cond (y1.2.2.1==2) (Cc.c12 k L6 t0 t7 (IntKind.wrap .i64 (t8+1)) t18 t19 zH) (Cc.c12 k L6 t0 t7 t8 t18 t19 zH)
def Cc.l6(k:Nat):Nat→(List zC)→Int→Int→Int→Int→(List Int)→Option (Int×Int)
 |0,_,_,_,_,_,_=>none
 |n+1,t0,t7,t8,t18,t19,zH=>
  cond (decide (t19<t18)) ((gI zH t19).bind fun y2=>(gI t0 y2).bind fun y3=>cond (y3.2.2.1 !=0) (Cc.c10 k (Cc.l6 k n) t0 (IntKind.wrap .i64 (t7+1)) t8 y2 t18 t19 zH) (Cc.c10 k (Cc.l6 k n) t0 t7 t8 y2 t18 t19 zH)) (some (t7,t8))
def Cc(k:Nat)(t0:List zC)(t1:Int):Option (Int×Int):=
 (Eb k t0 t1).bind fun r4=>cond ((List.length r4.2:Int)==0) (some ((-1),(-1))) (Cc.l6 k k t0 0 0 (List.length r4.2:Int) 0 r4.2)
def Iw(k:Nat)(t0:List zC)(t1:Int):Option (EY×Bool):=
 (GZ k t0).bind fun r1=>(Dz k t1 0 (IntKind.wrap .i64 ((List.length r1.2:Int)-1))).bind fun r2=>cond (!r2) (some ((0,0,0,()),false)) ((Cc k t0 t1).bind fun r3=>(gI r1.2 t1).bind fun y4=>(gI t0 y4).bind fun y5=>some ((y5.2.1,r3.2,r3.1,()),true))
def Jo(k:Nat)(t0:Int):Option Bool:=
 (Dz k t0 (-2147483648) 2147483647).bind fun r1=>some r1
def EE.c8(k:Nat)(t0:Int)(t26:Bool)(zH:zB):Option Bool:=
 cond t26 (some (jk zH.2.1 zR)) ((cond (t0==6) (some (zH.1==0)) (some false)).bind fun b1=>(cond b1 (some (decide ((zH.2.1.size:Int)≤40))) (some false)).bind fun b2=>some b2)
def EE(k:Nat)(t0:Int)(t1:zB):Option Bool:=
 cond (t0==0) ((Dz k t1.1 0 1).bind fun r3=>(cond r3 (some (jk t1.2.1 zR)) (some false)).bind fun b4=>some b4) (cond (t0==1) ((Jo k t1.1).bind fun r5=>(cond r5 (some (jk t1.2.1 zR)) (some false)).bind fun b6=>some b6) (cond (t0==2) (EE.c8 k t0 (t0==2) t1) (EE.c8 k t0 (t0==5) t1)))
def IE(k:Nat)(t0:EY)(t1:zO):Option Bool:=
 (Dz k t1.1 0 t0.2.1).bind fun r1=>(cond (!r1) (some true) ((Dz k t1.2.1 0 t0.2.2.1).bind fun r2=>some (!r2))).bind fun b3=>cond b3 (some false) (cond (t1.2.1==t0.2.2.1) ((EE k t0.1 t1.2.2.1).bind fun r4=>some r4) (some ((t1.2.2.1.1==0)&&(jk t1.2.2.1.2.1 zR&&true))))
def EI.l2(k:Nat):Nat→(List zO)→(List zO)→Int→Int→EY→Option Bool
 |0,_,_,_,_,_=>none
 |n+1,t1,t7,t8,t9,zH=>
  cond (decide (t9<t8)) ((gI t7 t9).bind fun y1=>(IE k zH y1).bind fun r2=>cond (!r2) (some false) ((EI.l2 k n) t1 t7 t8 (IntKind.wrap .i64 (t9+1)) zH)) (some (decide ((List.length t1:Int)≤2000)))
def EI(k:Nat)(t0:EY)(t1:List zO):Option Bool:=
 EI.l2 k k t1 t1 (List.length t1:Int) 0 t0
def Iz(k:Nat)(t0:List zC)(t1:Int)(t2:List zO):Option Bool:=
 (Iw k t0 t1).bind fun r1=>(cond r1.2 ((EI k r1.1 t2).bind fun r2=>some (r2)) (some false)).bind fun b3=>(cond b3 ((cond ((List.length t2:Int)==0) (some true) ((gI t2 0).bind fun y4=>some (y4.1==0))).bind fun b5=>some (b5)) (some false)).bind fun b6=>some b6
def Dg.c7(k:Nat)(L3:Int→(List zO)→Int→Int→Option Int)(t3:Int)(t6:List zO)(t7:Int)(t8:Int):Option Int:=
 L3 t3 t6 t7 (IntKind.wrap .i64 (t8+1))
def Dg.l3(k:Nat):Nat→Int→(List zO)→Int→Int→Option Int
 |0,_,_,_,_=>none
 |n+1,t3,t6,t7,t8=>
  cond (decide (t8<t7)) ((gI t6 t8).bind fun y1=>cond (y1.1==0) (Dg.c7 k (Dg.l3 k n) (IntKind.wrap .i64 (t3+1)) t6 t7 t8) (Dg.c7 k (Dg.l3 k n) t3 t6 t7 t8)) (some t3)
def Dg(k:Nat)(t0:List zO):Option Int:=
 Dg.l3 k k 0 t0 (List.length t0:Int) 0
def EH.l3(k:Nat):Nat→Int→(List zJ)→Int→Int→Option (Int×Bool)
 |0,_,_,_,_=>none
 |n+1,t4,t12,t13,t14=>
  cond (decide (t14<t13)) ((gI t12 t14).bind fun y1=>(Dg k y1.1).bind fun r2=>cond (r2 !=t4) (some (0,false)) ((EH.l3 k n) t4 t12 t13 (IntKind.wrap .i64 (t14+1)))) (some (t4,decide (t4≤200)))
def EH(k:Nat)(t0:List zJ):Option (Int×Bool):=
 (gI t0 0).bind fun y3=>(Dg k y3.1).bind fun r4=>EH.l3 k k r4 t0 (List.length t0:Int) 0
def DW.l3(k:Nat):Nat→Int→Int→(List Int)→(List Int)→Option (Unit×(List Int))
 |0,_,_,_,_=>none
 |n+1,t11,t12,zH,AA=>
  cond (decide (t12<t11)) ((gI AA t12).bind fun y1=>(gI zH y1).bind fun y2=>(gI zH y1).bind fun y3=>(DW.l3 k n) t11 (IntKind.wrap .i64 (t12+1)) (List.set zH (Int.toNat y1) t12) AA) (some ((),zH))
def DW(k:Nat)(t0:List zC):Option (Unit×(List Int)):=
 cond (pQ (List.length t0:Int)) ((CV k t0).bind fun r4=>DW.l3 k k (List.length r4.2:Int) 0 (List.replicate (Int.toNat (List.length t0:Int)) 0) r4.2) none
def EG.l1(k:Nat):Nat→Int→zQ→(List Int)→(List zB)→zO→Option ((zO×Bool)×zQ×(List Int)×(List zB))
 |0,_,_,_,_,_=>none
 |n+1,t1,o0,zK,zU,zH=>
  (gI o0.1 t1).bind fun y1=>cond (y1.2.1==7) ((EG.l1 k n) (IntKind.wrap .i64 (t1+1)) o0 zK zU zH) ((gI o0.2.2.1 t1).bind fun y2=>(gI zK y2).bind fun y3=>(gI o0.2.1 y2).bind fun y4=>cond (y3==(List.length y4.1:Int)) (some (((0,0,(0,zR,()),()),false),(o0,zK,zU))) ((gI o0.2.1 y2).bind fun y5=>(gI zK y2).bind fun y6=>(gI y5.1 y6).bind fun y7=>some ((y7,true),(o0,zK,zU))))
def EG(k:Nat)(t1:Int)(o0:zQ)(zK:List Int)(zU:List zB):Option ((zO×Bool)×zQ×(List Int)×(List zB)):=
 EG.l1 k k t1 o0 zK zU (0,0,(0,zR,()),())
def G5(k:Nat)(t1:Int)(t2:Int)(t3:Int)(o0:zQ)(zK:List Int)(zU:List zB):Option ((zB)×zQ×(List Int)×(List zB)):=
 (EG k t1 o0 zK zU).bind fun r1=>(cond r1.2.1.2.2.2.2.2.1 (some true) (some (!r1.1.2))).bind fun b2=>(cond b2 (some true) (some (r1.1.1.1 !=t2))).bind fun b3=>(cond b3 (some true) (some (r1.1.1.2.1 !=t3))).bind fun b4=>cond b4 (some ((0,zR,()),((r1.2.1.1,r1.2.1.2.1,r1.2.1.2.2.1,(),(),true,r1.2.1.2.2.2.2.2.2.1,()),r1.2.2.1,r1.2.2.2))) ((gI r1.2.1.2.2.1 t1).bind fun y5=>(gI r1.2.2.1 y5).bind fun y6=>(gI r1.2.2.1 y5).bind fun y7=>(gI r1.2.2.1 y5).bind fun y8=>some (r1.1.1.2.2.1,(r1.2.1,List.set r1.2.2.1 (Int.toNat y5) (IntKind.wrap .i64 (y6+1)),r1.2.2.2)))
def Cy.c4(k:Nat)(L3:Int→Int→Int→Int→zQ→(List Int)→(List zB)→Option (Int×zQ×(List Int)×(List zB)))(t2:Int)(t3:Int)(t9:Int)(t10:Int)(o0:zQ)(zK:List Int)(zU:List zB):Option (Int×zQ×(List Int)×(List zB)):=
 L3 t2 t3 t9 (IntKind.wrap .i64 (t10+1)) o0 zK zU
def Cy.l3(k:Nat):Nat→Int→Int→Int→Int→zQ→(List Int)→(List zB)→Option (Int×zQ×(List Int)×(List zB))
 |0,_,_,_,_,_,_,_=>none
 |n+1,t2,t3,t9,t10,o0,zK,zU=>
  cond (decide (t10<t9)) ((gI o0.1 t10).bind fun y1=>cond (y1.2.1 !=7) ((G5 k t10 t2 t3 o0 zK zU).bind fun r2=>Cy.c4 k (Cy.l3 k n) t2 t3 t9 t10 r2.2.1 r2.2.2.1 r2.2.2.2) (Cy.c4 k (Cy.l3 k n) t2 t3 t9 t10 o0 zK zU)) (some (t9,(o0,zK,zU)))
def Cy(k:Nat)(t1:Int)(t2:Int)(t3:Int)(o0:zQ)(zK:List Int)(zU:List zB):Option (Int×zQ×(List Int)×(List zB)):=
 (Ao k o0.1 t1 1).bind fun r3=>Cy.l3 k k t2 t3 r3 t1 o0 zK zU
def zV.c11(k:Nat)(t12:Int)(o0:zQ)(zK:List Int)(zH:List zB):Option (Int×zQ×(List Int)×(List zB)):=
 some (t12,(o0,zK,zH))
def zV.l7(k:Nat)(Du:Int→Int→Int→Int→zQ→(List Int)→(List zB)→Option (Int×zQ×(List Int)×(List zB))):Nat→Int→Int→Int→Int→Int→Int→zQ→(List Int)→(List zB)→Option (Int×zQ×(List Int)×(List zB))
 |0,_,_,_,_,_,_,_,_,_=>none
 |n+1,t2,t3,t4,t12,t48,t49,o0,zK,zH=>
  cond (decide (t49<t48)) (cond o0.2.2.2.2.2.1 (zV.c11 k t12 o0 zK zH) ((Du t12 t2 t3 t4 o0 zK zH).bind fun r1=>(zV.l7 k Du n) t2 t3 t4 r1.1 t48 (IntKind.wrap .i64 (t49+1)) r1.2.1 r1.2.2.1 r1.2.2.2)) (zV.c11 k t12 o0 zK zH)
def zV.b(k:Nat)(Cw:Int→Int→Int→Int→zQ→(List Int)→(List zB)→Option (Int×zQ×(List Int)×(List zB)))(Du:Int→Int→Int→Int→zQ→(List Int)→(List zB)→Option (Int×zQ×(List Int)×(List zB)))(Dv:Int→Int→Int→Int→zQ→(List Int)→(List zB)→Option (Int×zQ×(List Int)×(List zB)))(t1:Int)(t2:Int)(t3:Int)(t4:Int)(o0:zQ)(zK:List Int)(zU:List zB):Option (Int×zQ×(List Int)×(List zB)):=
 (gI o0.1 t1).bind fun y2=>cond (y2.2.1 !=7) ((G5 k t1 t2 t3 o0 zK zU).bind fun r3=>cond (lim (List.length r3.2.2.2+List.length [r3.1])) (some (IntKind.wrap .i64 (t1+1),(r3.2.1,r3.2.2.1,r3.2.2.2++[r3.1]))) none) ((gI o0.1 t1).bind fun y4=>zV.l7 k Du k t2 t3 t4 (IntKind.wrap .i64 (t1+1)) y4.2.2.2.1 0 o0 zK zU)
def BG.c15(k:Nat)(t1:Int)(t13:Int)(t14:Int)(o0:zQ)(zK:List Int)(zH:List zB):Option (Int×zQ×(List Int)×(List zB)):=
 (gI zH t13).bind fun y1=>(gI zH t13).bind fun y2=>(cond o0.2.2.2.2.2.2.1 (some true) (some (decide (t14>20)))).bind fun b3=>(Ao k o0.1 t1 1).bind fun r4=>some (r4,((o0.1,o0.2.1,o0.2.2.1,(),(),o0.2.2.2.2.2.1,b3,()),zK,List.set zH (Int.toNat t13) (t14,y2.2.1,())))
def BG.c6(k:Nat)(Cw:Int→Int→Int→Int→zQ→(List Int)→(List zB)→Option (Int×zQ×(List Int)×(List zB)))(Dv:Int→Int→Int→Int→zQ→(List Int)→(List zB)→Option (Int×zQ×(List Int)×(List zB)))(t1:Int)(t2:Int)(t3:Int)(t4:Int)(o0:zQ)(zK:List Int)(zU:List zB)(zH:zO):Option (Int×zQ×(List Int)×(List zB)):=
 cond (lim (List.length zU+List.length ([(0,zR,())]:List zB))) (cond (decide (zH.2.1≤t3)) ((Cy k t1 t2 t3 o0 zK (zU++[(0,zR,())])).bind fun r5=>some (r5.1,(r5.2.1,r5.2.2.1,r5.2.2.2))) ((gI o0.1 t1).bind fun y6=>cond (y6.2.2.1==2) ((Dv t1 t2 (IntKind.wrap .i64 (t3+1)) (IntKind.wrap .i64 (t4+1)) o0 zK (zU++[(0,zR,())])).bind fun r7=>BG.c15 k t1 (List.length zU:Int) (IntKind.wrap .i64 (1+r7.1)) r7.2.1 r7.2.2.1 r7.2.2.2) ((Cw t1 t2 (IntKind.wrap .i64 (t3+1)) t4 o0 zK (zU++[(0,zR,())])).bind fun r8=>BG.c15 k t1 (List.length zU:Int) 1 r8.2.1 r8.2.2.1 r8.2.2.2))) none
def BG.b(k:Nat)(Cw:Int→Int→Int→Int→zQ→(List Int)→(List zB)→Option (Int×zQ×(List Int)×(List zB)))(Du:Int→Int→Int→Int→zQ→(List Int)→(List zB)→Option (Int×zQ×(List Int)×(List zB)))(Dv:Int→Int→Int→Int→zQ→(List Int)→(List zB)→Option (Int×zQ×(List Int)×(List zB)))(t1:Int)(t2:Int)(t3:Int)(t4:Int)(o0:zQ)(zK:List Int)(zU:List zB):Option (Int×zQ×(List Int)×(List zB)):=
 (gI o0.1 t1).bind fun y9=>cond (y9.2.2.1==0) ((Cw t1 t2 t3 t4 o0 zK zU).bind fun AQ=>some (AQ.1,(AQ.2.1,AQ.2.2.1,AQ.2.2.2))) ((EG k t1 o0 zK zU).bind fun Cu=>cond (!Cu.1.2) (BG.c6 k Cw Dv t1 t2 t3 t4 (Cu.2.1.1,Cu.2.1.2.1,Cu.2.1.2.2.1,(),(),true,Cu.2.1.2.2.2.2.2.2.1,()) Cu.2.2.1 Cu.2.2.2 Cu.1.1) (BG.c6 k Cw Dv t1 t2 t3 t4 Cu.2.1 Cu.2.2.1 Cu.2.2.2 Cu.1.1))
def BR.l4(k:Nat)(Cw:Int→Int→Int→Int→zQ→(List Int)→(List zB)→Option (Int×zQ×(List Int)×(List zB))):Nat→Int→Int→Int→Int→zQ→(List Int)→(List zB)→Option (Int×zQ×(List Int)×(List zB))
 |0,_,_,_,_,_,_,_=>none
 |n+1,t1,t3,t4,t11,o0,zK,zH=>
  (EG k t1 o0 zK zH).bind fun r1=>(cond r1.2.1.2.2.2.2.2.1 (some true) (some (!r1.1.2))).bind fun b2=>(cond b2 (some true) (some (r1.1.1.1 !=t4))).bind fun b3=>cond b3 (some (t11,(r1.2.1,r1.2.2.1,r1.2.2.2))) ((Cw t1 t4 t3 t4 r1.2.1 r1.2.2.1 r1.2.2.2).bind fun r4=>(BR.l4 k Cw n) t1 t3 t4 (IntKind.wrap .i64 (t11+1)) r4.2.1 r4.2.2.1 r4.2.2.2)
def BR.b(k:Nat)(Cw:Int→Int→Int→Int→zQ→(List Int)→(List zB)→Option (Int×zQ×(List Int)×(List zB)))(Du:Int→Int→Int→Int→zQ→(List Int)→(List zB)→Option (Int×zQ×(List Int)×(List zB)))(Dv:Int→Int→Int→Int→zQ→(List Int)→(List zB)→Option (Int×zQ×(List Int)×(List zB)))(t1:Int)(t2:Int)(t3:Int)(t4:Int)(o0:zQ)(zK:List Int)(zU:List zB):Option (Int×zQ×(List Int)×(List zB)):=
 (Cw t1 t2 t3 t4 o0 zK zU).bind fun r5=>BR.l4 k Cw k t1 t3 t4 0 r5.2.1 r5.2.2.1 r5.2.2.2
def zV.rec(k:Nat):Nat→(Int→Int→Int→Int→zQ→(List Int)→(List zB)→Option (Int×zQ×(List Int)×(List zB)))×(Int→Int→Int→Int→zQ→(List Int)→(List zB)→Option (Int×zQ×(List Int)×(List zB)))×(Int→Int→Int→Int→zQ→(List Int)→(List zB)→Option (Int×zQ×(List Int)×(List zB)))
 |0=>(fun _ _ _ _ _ _ _=>none,fun _ _ _ _ _ _ _=>none,fun _ _ _ _ _ _ _=>none)
 |d+1=>(zV.b k ((zV.rec k d).1) ((zV.rec k d).2.1) ((zV.rec k d).2.2),BG.b k ((zV.rec k d).1) ((zV.rec k d).2.1) ((zV.rec k d).2.2),BR.b k ((zV.rec k d).1) ((zV.rec k d).2.1) ((zV.rec k d).2.2))
def zV.d(k d:Nat):Int→Int→Int→Int→zQ→(List Int)→(List zB)→Option (Int×zQ×(List Int)×(List zB)):=(zV.rec k d).1
def zV(k:Nat):Int→Int→Int→Int→zQ→(List Int)→(List zB)→Option (Int×zQ×(List Int)×(List zB)):=zV.d k k
def BG.d(k d:Nat):Int→Int→Int→Int→zQ→(List Int)→(List zB)→Option (Int×zQ×(List Int)×(List zB)):=(zV.rec k d).2.1
def BG(k:Nat):Int→Int→Int→Int→zQ→(List Int)→(List zB)→Option (Int×zQ×(List Int)×(List zB)):=BG.d k k
def BR.d(k d:Nat):Int→Int→Int→Int→zQ→(List Int)→(List zB)→Option (Int×zQ×(List Int)×(List zB)):=(zV.rec k d).2.2
def BR(k:Nat):Int→Int→Int→Int→zQ→(List Int)→(List zB)→Option (Int×zQ×(List Int)×(List zB)):=BR.d k k
def Eo.l2(k:Nat):Nat→(List zJ)→Int→Int→zQ→(List Int)→Option (Bool×zQ×(List Int))
 |0,_,_,_,_,_=>none
 |n+1,t8,t9,t10,o0,zK=>
  cond (decide (t10<t9)) ((gI t8 t10).bind fun y1=>(gI zK t10).bind fun y2=>cond (y2 !=(List.length y1.1:Int)) (some (false,(o0,zK))) ((Eo.l2 k n) t8 t9 (IntKind.wrap .i64 (t10+1)) o0 zK)) (some (true,(o0,zK)))
def Eo(k:Nat)(o0:zQ)(zK:List Int):Option (Bool×zQ×(List Int)):=
 Eo.l2 k k o0.2.1 (List.length o0.2.1:Int) 0 o0 zK
def Bq.Dh(k:Nat):Nat→Int→Int→zQ→(List Ay)→(List Int)→Option ((Unit×Int)×(List Ay))
 |0,_,_,_,_,_=>none
 |n+1,t8,t12,zH,AA,Er=>
  (cond (decide (t12<t8)) (some (!zH.2.2.2.2.2.1)) (some false)).bind fun b1=>cond b1 ((zV k 0 0 0 0 zH Er []).bind fun r2=>(cond r2.2.1.2.2.2.2.2.2.1 (some true) (some (decide ((List.length r2.2.2.2:Int)>300)))).bind fun b3=>cond (lim (List.length AA+List.length [(r2.2.2.2,())])) ((Bq.Dh k n) t8 (IntKind.wrap .i64 (t12+1)) (r2.2.1.1,r2.2.1.2.1,r2.2.1.2.2.1,(),(),r2.2.1.2.2.2.2.2.1,b3,()) (AA++[(r2.2.2.2,())]) r2.2.2.1) none) (cond zH.2.2.2.2.2.1 (cond true (some (((),3),[])) (cond zH.2.2.2.2.2.2.1 (some (((),4),[])) (some (((),0),AA)))) ((Eo k zH Er).bind fun r4=>cond (!r4.1) (some (((),3),[])) (cond r4.2.1.2.2.2.2.2.2.1 (some (((),4),[])) (some (((),0),AA)))))
def Bq.d12(k:Nat)(t0:List zC)(t1:List zJ)(t8:Int):Option ((Unit×Int)×(List Ay)):=
 (DW k t0).bind fun r5=>cond (pQ (List.length t1:Int)) (Bq.Dh k k t8 0 (t0,t1,r5.2,(),(),false,false,()) [] (List.replicate (Int.toNat (List.length t1:Int)) 0)) none
def Bq.l4(k:Nat):Nat→(List zC)→(List zJ)→(List zJ)→Int→Int→Option ((Unit×Int)×(List Ay))
 |0,_,_,_,_,_=>none
 |n+1,t0,t1,t24,t25,t26=>
  cond (decide (t26<t25)) ((gI t24 t26).bind fun y8=>(Iz k t0 t26 y8.1).bind fun r9=>cond (!r9) (some (((),1),[])) ((Bq.l4 k n) t0 t1 t24 t25 (IntKind.wrap .i64 (t26+1)))) ((EH k t1).bind fun AQ=>cond (!AQ.2) (some (((),2),[])) (Bq.d12 k t0 t1 AQ.1))
def Bq(k:Nat)(t0:List zC)(t1:List zJ):Option ((Unit×Int)×(List Ay)):=
 (DU k t0).bind fun Cu=>(cond (!Cu) (some true) ((CV k t0).bind fun Fb=>some ((List.length t1:Int) !=(List.length Fb.2:Int)))).bind fun b13=>cond b13 (some (((),1),[])) (Bq.l4 k k t0 t1 t1 (List.length t1:Int) 0)
def IX(k:Nat)(t0:List zC):Option (Unit×(List Int)):=
 (Cg k t0).bind fun r1=>cond (!r1) (some ((),[])) ((C9 k t0).bind fun r2=>some ((),r2.2))
def Dr.c4(k:Nat)(L3:(List zC)→Int→Int→(List Int)→Option (Unit×(List Int)))(t0:List zC)(t1:Int)(t6:Int)(zH:List Int):Option (Unit×(List Int)):=
 L3 t0 t1 (IntKind.wrap .i64 (t6+1)) zH
def Dr.l3(k:Nat):Nat→(List zC)→Int→Int→(List Int)→Option (Unit×(List Int))
 |0,_,_,_,_=>none
 |n+1,t0,t1,t6,zH=>
  cond (decide (t6≤t1)) ((Bu k t0 t6).bind fun r1=>cond (decide (r1>t1)) (cond (lim (List.length zH+List.length [t6])) (Dr.c4 k (Dr.l3 k n) t0 t1 t6 (zH++[t6])) none) (Dr.c4 k (Dr.l3 k n) t0 t1 t6 zH)) (some ((),zH))
def Dr(k:Nat)(t0:List zC)(t1:Int):Option (Unit×(List Int)):=
 Dr.l3 k k t0 t1 0 []
def Ci.c5(k:Nat)(L4:(List zC)→Int→Int→Int→(List Int)→Option (Int×Int))(t0:List zC)(t6:Int)(t7:Int)(t9:Int)(zH:List Int):Option (Int×Int):=
 L4 t0 t6 t7 (IntKind.wrap .i64 (t9+1)) zH
def Ci.c8(k:Nat)(L4:(List zC)→Int→Int→Int→(List Int)→Option (Int×Int))(t0:List zC)(t6:Int)(t7:Int)(t9:Int)(zH:List Int):Option (Int×Int):=
 (gI zH t9).bind fun y1=>(gI t0 y1).bind fun y2=>cond (y2.2.2.1==2) (Ci.c5 k L4 t0 t6 (IntKind.wrap .i64 (t7+1)) t9 zH) (Ci.c5 k L4 t0 t6 t7 t9 zH)
def Ci.l4(k:Nat):Nat→(List zC)→Int→Int→Int→(List Int)→Option (Int×Int)
 |0,_,_,_,_,_=>none
 |n+1,t0,t6,t7,t9,zH=>
  cond (decide (t9<(List.length zH:Int))) ((gI zH t9).bind fun y3=>(gI t0 y3).bind fun y4=>cond (y4.2.2.1 !=0) (Ci.c8 k (Ci.l4 k n) t0 (IntKind.wrap .i64 (t6+1)) t7 t9 zH) (Ci.c8 k (Ci.l4 k n) t0 t6 t7 t9 zH)) (some (t6,t7))
def Ci(k:Nat)(t0:List zC)(t1:Int):Option (Int×Int):=
 (Dr k t0 t1).bind fun r5=>Ci.l4 k k t0 0 0 0 r5.2
def Hr(k:Nat)(t0:List zC)(t1:Int):Option (EY×Bool):=
 (IX k t0).bind fun r1=>(Ey k t1 0 (IntKind.wrap .i64 ((List.length r1.2:Int)-1))).bind fun r2=>cond (!r2) (some ((0,0,0,()),false)) ((gI r1.2 t1).bind fun y3=>(Ci k t0 y3).bind fun r4=>(gI r1.2 t1).bind fun y5=>(gI t0 y5).bind fun y6=>some ((y6.2.1,r4.2,r4.1,()),true))
def IY(k:Nat)(t0:EY)(t1:zO):Option Bool:=
 (Ey k t1.1 0 t0.2.1).bind fun r1=>(cond (!r1) (some true) ((Ey k t1.2.1 0 t0.2.2.1).bind fun r2=>some (!r2))).bind fun b3=>cond b3 (some false) (cond (decide (t1.2.1<t0.2.2.1)) (some ((t1.2.2.1.1==0)&&(jk t1.2.2.1.2.1 zR&&true))) ((Fh k t0.1 t1.2.2.1).bind fun r4=>some r4))
def Eu.l5(k:Nat):Nat→(List zO)→Int→EY→Option Bool
 |0,_,_,_=>none
 |n+1,t2,t9,zH=>
  cond (decide (t9<(List.length t2:Int))) ((gI t2 t9).bind fun y1=>(IY k zH y1).bind fun r2=>cond (!r2) (some false) ((Eu.l5 k n) t2 (IntKind.wrap .i64 (t9+1)) zH)) (some true)
def Eu(k:Nat)(t0:List zC)(t1:Int)(t2:List zO):Option Bool:=
 (Hr k t0 t1).bind fun r3=>(cond (!r3.2) (some true) (some (decide ((List.length t2:Int)>2000)))).bind fun b4=>(cond b4 (some true) ((cond (decide ((List.length t2:Int)>0)) ((gI t2 0).bind fun y5=>some (y5.1 !=0)) (some false)).bind fun b6=>some (b6))).bind fun b7=>cond b7 (some false) (Eu.l5 k k t2 0 r3.1)
def Di.c4(k:Nat)(L3:(List zO)→Int→Int→Option Int)(t0:List zO)(t3:Int)(t4:Int):Option Int:=
 L3 t0 t3 (IntKind.wrap .i64 (t4+1))
def Di.l3(k:Nat):Nat→(List zO)→Int→Int→Option Int
 |0,_,_,_=>none
 |n+1,t0,t3,t4=>
  cond (decide (t4<(List.length t0:Int))) ((gI t0 t4).bind fun y1=>cond (y1.1==0) (Di.c4 k (Di.l3 k n) t0 (IntKind.wrap .i64 (t3+1)) t4) (Di.c4 k (Di.l3 k n) t0 t3 t4)) (some t3)
def Di(k:Nat)(t0:List zO):Option Int:=
 Di.l3 k k t0 0 0
def Hu(k:Nat)(t0:List zJ)(t1:Int)(t3:Int)(t4:Int)(zK:List Int):Option (Bool×(List Int)):=
 (gI zK t1).bind fun y1=>(gI t0 t1).bind fun y2=>(cond (decide (y1≥(List.length y2.1:Int))) (some true) ((gI t0 t1).bind fun y3=>(gI zK t1).bind fun y4=>(gI y3.1 y4).bind fun y5=>some (y5.1 !=t3))).bind fun b6=>(cond b6 (some true) ((gI t0 t1).bind fun y7=>(gI zK t1).bind fun y8=>(gI y7.1 y8).bind fun y9=>some (y9.2.1 !=t4))).bind fun b10=>cond b10 (some (false,zK)) ((gI zK t1).bind fun FE=>(gI zK t1).bind fun Uw=>(gI zK t1).bind fun y13=>some (true,List.set zK (Int.toNat t1) (IntKind.wrap .i64 (FE+1))))
def AP.l8(k:Nat)(Ej:(List zC)→Int→(List zJ)→Int→Int→Int→(List Int)→(List zB)→Option ((Unit×Bool)×(List Int)×(List zB))):Nat→(List zC)→Int→(List zJ)→Int→Int→Int→Int→Int→(List Int)→(List zB)→Option ((Unit×Bool)×(List Int)×(List zB))
 |0,_,_,_,_,_,_,_,_,_,_=>none
 |n+1,t0,t1,t2,t4,t5,t6,t19,t20,zK,zH=>
  (gI t0 t1).bind fun y1=>cond (decide (t20<y1.2.2.2.1)) ((Ej t0 t19 t2 t4 t5 t6 zK zH).bind fun r2=>cond (!r2.1.2) (some (((),false),(r2.2.1,r2.2.2))) ((Bu k t0 t19).bind fun r3=>(AP.l8 k Ej n) t0 t1 t2 t4 t5 t6 r3 (IntKind.wrap .i64 (t20+1)) r2.2.1 r2.2.2)) (some (((),true),(zK,zH)))
def AP.d5(k:Nat)(t2:List zJ)(t18:Int)(zK:List Int)(zU:List zB):Option ((Unit×Bool)×(List Int)×(List zB)):=
 (gI t2 t18).bind fun y4=>(gI zK t18).bind fun y5=>(gI y4.1 (IntKind.wrap .i64 (y5-1))).bind fun y6=>cond (lim (List.length zU+List.length [y6.2.2.1])) (some (((),true),(zK,zU++[y6.2.2.1]))) none
def AP.b(k:Nat)(Dk:(List zC)→Int→(List zJ)→Int→Int→Int→(List Int)→(List zB)→Option ((Unit×Bool)×(List Int)×(List zB)))(Ej:(List zC)→Int→(List zJ)→Int→Int→Int→(List Int)→(List zB)→Option ((Unit×Bool)×(List Int)×(List zB)))(t0:List zC)(t1:Int)(t2:List zJ)(t4:Int)(t5:Int)(t6:Int)(zK:List Int)(zU:List zB):Option ((Unit×Bool)×(List Int)×(List zB)):=
 (gI t0 t1).bind fun y13=>cond (y13.2.1 !=7) ((CL k t0 t1).bind fun Fy=>(Hu k t2 Fy t4 t5 zK).bind fun Fz=>cond (!Fz.1) (some (((),false),(Fz.2,zU))) (AP.d5 k t2 Fy Fz.2 zU)) (AP.l8 k Ej k t0 t1 t2 t4 t5 t6 (IntKind.wrap .i64 (t1+1)) 0 zK zU)
def Bh.EJ(k:Nat)(Dk:(List zC)→Int→(List zJ)→Int→Int→Int→(List Int)→(List zB)→Option ((Unit×Bool)×(List Int)×(List zB))):Nat→(List zC)→Int→(List zJ)→Int→Int→Int→Int→Int→Bool→(List Int)→(List zB)→Option ((Unit×Bool)×(List Int)×(List zB))
 |0,_,_,_,_,_,_,_,_,_,_,_=>none
 |n+1,t0,t1,t2,t4,t5,t6,t18,t19,t21,zK,zH=>
  cond t21 ((gI zH t19).bind fun y1=>(gI zH t19).bind fun y2=>(gI zH t19).bind fun y3=>(Dk t0 t1 t2 t4 (IntKind.wrap .i64 (t5+1)) t6 zK (List.set zH (Int.toNat t19) (IntKind.wrap .i64 (y1.1+1),y3.2.1,()))).bind fun r4=>cond (!r4.1.2) (some (((),false),(r4.2.1,r4.2.2))) ((gI t0 t1).bind fun y5=>(cond (y5.2.2.1==2) ((gI r4.2.1 t18).bind fun y6=>(gI t2 t18).bind fun y7=>some (decide (y6<(List.length y7.1:Int)))) (some false)).bind fun b8=>(cond b8 ((gI t2 t18).bind fun y9=>(gI r4.2.1 t18).bind fun Gf=>(gI y9.1 Gf).bind fun FE=>some (FE.1==t6)) (some false)).bind fun b12=>(Bh.EJ k Dk n) t0 t1 t2 t6 t5 t6 t18 t19 b12 r4.2.1 r4.2.2)) (some (((),true),(zK,zH)))
def Bh.c17(k:Nat)(Dk:(List zC)→Int→(List zJ)→Int→Int→Int→(List Int)→(List zB)→Option ((Unit×Bool)×(List Int)×(List zB)))(t0:List zC)(t1:Int)(t2:List zJ)(t4:Int)(t5:Int)(t6:Int)(t18:Int)(t19:Int)(zK:List Int)(zH:List zB):Option ((Unit×Bool)×(List Int)×(List zB)):=
 Bh.EJ k Dk k t0 t1 t2 t4 t5 t6 t18 t19 true zK zH
def Bh.l10(k:Nat):Nat→(List zC)→Int→(List zJ)→Int→Int→Int→(List Int)→(List zB)→Option ((Unit×Bool)×(List Int)×(List zB))
 |0,_,_,_,_,_,_,_,_=>none
 |n+1,t0,t1,t2,t4,t5,t20,zK,zH=>
  (Bu k t0 t1).bind fun FU=>(CL k t0 FU).bind fun Fy=>cond (decide (t20<Fy)) ((Hu k t2 t20 t4 t5 zK).bind fun Fz=>cond (!Fz.1) (some (((),false),(Fz.2,zH))) ((Bh.l10 k n) t0 t1 t2 t4 t5 (IntKind.wrap .i64 (t20+1)) Fz.2 zH)) (some (((),true),(zK,zH)))
def Bh.b(k:Nat)(Dk:(List zC)→Int→(List zJ)→Int→Int→Int→(List Int)→(List zB)→Option ((Unit×Bool)×(List Int)×(List zB)))(Ej:(List zC)→Int→(List zJ)→Int→Int→Int→(List Int)→(List zB)→Option ((Unit×Bool)×(List Int)×(List zB)))(t0:List zC)(t1:Int)(t2:List zJ)(t4:Int)(t5:Int)(t6:Int)(zK:List Int)(zU:List zB):Option ((Unit×Bool)×(List Int)×(List zB)):=
 (gI t0 t1).bind fun I5=>cond (I5.2.2.1==0) ((Dk t0 t1 t2 t4 t5 t6 zK zU).bind fun Jz=>some (((),Jz.1.2),(Jz.2.1,Jz.2.2))) ((CL k t0 t1).bind fun Fe=>(gI zK Fe).bind fun EU=>(gI t2 Fe).bind fun y20=>cond (decide (EU≥(List.length y20.1:Int))) (some (((),false),(zK,zU))) (cond (lim (List.length zU+List.length ([(0,zR,())]:List zB))) ((gI t2 Fe).bind fun y21=>(gI zK Fe).bind fun y22=>(gI y21.1 y22).bind fun y23=>cond (decide (y23.2.1≤t5)) (Bh.l10 k k t0 t1 t2 t4 t5 Fe zK (zU++[(0,zR,())])) ((gI t0 t1).bind fun y24=>cond (y24.2.2.1==2) (Bh.c17 k Dk t0 t1 t2 t4 t5 (IntKind.wrap .i64 (t6+1)) Fe (List.length zU:Int) zK (zU++[(0,zR,())])) (Bh.c17 k Dk t0 t1 t2 t4 t5 t6 Fe (List.length zU:Int) zK (zU++[(0,zR,())])))) none))
def AP.rec(k:Nat):Nat→((List zC)→Int→(List zJ)→Int→Int→Int→(List Int)→(List zB)→Option ((Unit×Bool)×(List Int)×(List zB)))×((List zC)→Int→(List zJ)→Int→Int→Int→(List Int)→(List zB)→Option ((Unit×Bool)×(List Int)×(List zB)))
 |0=>(fun _ _ _ _ _ _ _ _=>none,fun _ _ _ _ _ _ _ _=>none)
 |d+1=>(AP.b k ((AP.rec k d).1) ((AP.rec k d).2),Bh.b k ((AP.rec k d).1) ((AP.rec k d).2))
def AP.d(k d:Nat):(List zC)→Int→(List zJ)→Int→Int→Int→(List Int)→(List zB)→Option ((Unit×Bool)×(List Int)×(List zB)):=(AP.rec k d).1
def AP(k:Nat):(List zC)→Int→(List zJ)→Int→Int→Int→(List Int)→(List zB)→Option ((Unit×Bool)×(List Int)×(List zB)):=AP.d k k
def Bh.d(k d:Nat):(List zC)→Int→(List zJ)→Int→Int→Int→(List Int)→(List zB)→Option ((Unit×Bool)×(List Int)×(List zB)):=(AP.rec k d).2
def Bh(k:Nat):(List zC)→Int→(List zJ)→Int→Int→Int→(List Int)→(List zB)→Option ((Unit×Bool)×(List Int)×(List zB)):=Bh.d k k
def Aw.FN(k:Nat):Nat→(List zC)→Int→(List Ay)→Option ((Unit×Int)×(List Ay))
 |0,_,_,_=>none
 |n+1,t0,t15,zH=>
  cond (decide (t15<(List.length zH:Int))) ((gI zH t15).bind fun y1=>(DR k t0 y1).bind fun r2=>cond (!r2) (some (((),4),[])) ((Aw.FN k n) t0 (IntKind.wrap .i64 (t15+1)) zH)) (some (((),0),zH))
def Aw.FM(k:Nat):Nat→(List zC)→(List zJ)→Int→(List Ay)→(List Int)→Option ((Unit×Int)×(List Ay))
 |0,_,_,_,_,_=>none
 |n+1,t0,t1,t14,zH,AA=>
  cond (decide (t14<(List.length t1:Int))) ((gI AA t14).bind fun y3=>(gI t1 t14).bind fun y4=>cond (y3 !=(List.length y4.1:Int)) (some (((),3),[])) ((Aw.FM k n) t0 t1 (IntKind.wrap .i64 (t14+1)) zH AA)) (Aw.FN k k t0 0 zH)
def Aw.E5(k:Nat):Nat→(List zC)→(List zJ)→Int→Int→(List Ay)→(List Int)→Option ((Unit×Int)×(List Ay))
 |0,_,_,_,_,_,_=>none
 |n+1,t0,t1,t8,t11,zH,AA=>
  cond (decide (t11<t8)) ((AP k t0 0 t1 0 0 0 AA []).bind fun r5=>cond (!r5.1.2) (some (((),3),[])) (cond (lim (List.length zH+List.length [(r5.2.2,())])) ((Aw.E5 k n) t0 t1 t8 (IntKind.wrap .i64 (t11+1)) (zH++[(r5.2.2,())]) r5.2.1) none)) (Aw.FM k k t0 t1 0 zH AA)
def Aw.F8(k:Nat):Nat→(List zC)→(List zJ)→Int→Int→(List Ay)→Option ((Unit×Int)×(List Ay))
 |0,_,_,_,_,_=>none
 |n+1,t0,t1,t8,t9,zH=>
  cond (decide (t9<(List.length t1:Int))) ((gI t1 t9).bind fun y6=>(Di k y6.1).bind fun r7=>(cond (r7 !=t8) (some true) (some (decide (t8>200)))).bind fun b8=>cond b8 (some (((),2),zH)) ((Aw.F8 k n) t0 t1 t8 (IntKind.wrap .i64 (t9+1)) zH)) (cond (pQ (List.length t1:Int)) (Aw.E5 k k t0 t1 t8 0 zH (List.replicate (Int.toNat (List.length t1:Int)) 0)) none)
def Aw.l5(k:Nat):Nat→(List zC)→(List zJ)→Int→(List Ay)→Option ((Unit×Int)×(List Ay))
 |0,_,_,_,_=>none
 |n+1,t0,t1,t7,zH=>
  cond (decide (t7<(List.length t1:Int))) ((gI t1 t7).bind fun y9=>(Eu k t0 t7 y9.1).bind fun AQ=>cond (!AQ) (some (((),1),zH)) ((Aw.l5 k n) t0 t1 (IntKind.wrap .i64 (t7+1)) zH)) ((gI t1 0).bind fun FE=>(Di k FE.1).bind fun Fb=>Aw.F8 k k t0 t1 Fb 0 zH)
def Aw(k:Nat)(t0:List zC)(t1:List zJ):Option ((Unit×Int)×(List Ay)):=
 (Cg k t0).bind fun FU=>(cond (!FU) (some true) ((C9 k t0).bind fun Fy=>some ((List.length t1:Int) !=(List.length Fy.2:Int)))).bind fun b15=>cond b15 (some (((),1),[])) (Aw.l5 k k t0 t1 0 [])
def F7(k:Nat)(o0:Ac)(zK:Unit)(zU:List zJ)(DL:Unit)(AJ:List Int)(DX:Unit×Unit×Unit):Option ((zB)×Ac×Unit×(List zJ)×Unit×(List Int)×(Unit×Unit×Unit)):=
 (cond o0.2.2.1 (some true) (some ((List.length o0.2.1:Int)==0))).bind fun b1=>cond b1 (some ((0,zR,()),((o0.1,o0.2.1,true,((),(),()),((),()),()),(),zU,(),AJ,((),(),())))) ((gI o0.2.1 0).bind fun y2=>cond (jv 1 ((List.length o0.2.1):Int) (List.length o0.2.1)) (some (y2,((o0.1,j6 o0.2.1 1 ((List.length o0.2.1):Int),o0.2.2.1,((),(),()),((),()),()),(),zU,(),AJ,((),(),())))) none)
def F6(k:Nat)(t1:Int)(o0:Ac)(zK:Unit)(zU:List zJ)(DL:Unit)(AJ:List Int)(DX:Unit×Unit×Unit):Option (Int×Ac×Unit×(List zJ)×Unit×(List Int)×(Unit×Unit×Unit)):=
 (F7 k (o0.1,o0.2.1,o0.2.2.1,((),(),()),((),()),()) () zU () AJ ((),(),())).bind fun r1=>(cond (!jk r1.1.2.1 zR) (some true) ((Dz k r1.1.1 0 t1).bind fun r2=>some (!r2))).bind fun b3=>cond b3 (some (0,((r1.2.1.1,r1.2.1.2.1,true,((),(),()),((),()),()),(),r1.2.2.2.1,(),r1.2.2.2.2.2.1,((),(),())))) (some (r1.1.1,((r1.2.1.1,r1.2.1.2.1,r1.2.1.2.2.1,((),(),()),((),()),()),(),r1.2.2.2.1,(),r1.2.2.2.2.2.1,((),(),()))))
def Gp(k:Nat)(t0:Int)(t1:Int)(t2:Int)(t3:zB)(o4:Unit)(o5:Unit)(zK:List zJ)(zU:List Int):Option (Unit×Unit×Unit×(List zJ)×(List Int)):=
 (gI zU t0).bind fun y1=>(gI zK y1).bind fun y2=>cond (lim (List.length y2.1+List.length [(t1,t2,t3,())])) (cond (y1==y1) ((gI zK y1).bind fun y3=>some ((),((),(),List.set zK (Int.toNat y1) (y2.1++[(t1,t2,t3,())],()),zU))) none) none
def Iy(k:Nat)(t0:Int)(t1:Int)(t2:Int)(o3:Unit×Unit×Unit)(zK:Unit)(zU:List zJ)(DL:Unit)(AJ:List Int):Option (Unit×(Unit×Unit×Unit)×Unit×(List zJ)×Unit×(List Int)):=
 (Gp k t0 t1 t2 (0,zR,()) () () zU AJ).bind fun r1=>some ((),(((),(),()),(),r1.2.2.2.1,(),r1.2.2.2.2))
def C8.c4(k:Nat)(L3:Int→Int→Int→Int→Ac→Unit→(List zJ)→Unit→(List Int)→(Unit×Unit×Unit)→Option (Int×Ac×Unit×(List zJ)×Unit×(List Int)×(Unit×Unit×Unit)))(t2:Int)(t3:Int)(t9:Int)(t10:Int)(o0:Ac)(zK:Unit)(zU:List zJ)(DL:Unit)(AJ:List Int)(DX:Unit×Unit×Unit):Option (Int×Ac×Unit×(List zJ)×Unit×(List Int)×(Unit×Unit×Unit)):=
 L3 t2 t3 t9 (IntKind.wrap .i64 (t10+1)) (o0.1,o0.2.1,o0.2.2.1,((),(),()),((),()),()) () zU () AJ ((),(),())
def C8.l3(k:Nat):Nat→Int→Int→Int→Int→Ac→Unit→(List zJ)→Unit→(List Int)→(Unit×Unit×Unit)→Option (Int×Ac×Unit×(List zJ)×Unit×(List Int)×(Unit×Unit×Unit))
 |0,_,_,_,_,_,_,_,_,_,_=>none
 |n+1,t2,t3,t9,t10,o0,zK,zU,DL,AJ,DX=>
  cond (decide (t10<t9)) ((gI o0.1 t10).bind fun y1=>cond (y1.2.1 !=7) ((Iy k t10 t2 t3 ((),(),()) () zU () AJ).bind fun r2=>C8.c4 k (C8.l3 k n) t2 t3 t9 t10 (o0.1,o0.2.1,o0.2.2.1,((),(),()),((),()),()) () r2.2.2.2.1 () r2.2.2.2.2.2 ((),(),())) (C8.c4 k (C8.l3 k n) t2 t3 t9 t10 (o0.1,o0.2.1,o0.2.2.1,((),(),()),((),()),()) () zU () AJ ((),(),()))) (some (t9,((o0.1,o0.2.1,o0.2.2.1,((),(),()),((),()),()),(),zU,(),AJ,((),(),()))))
def C8(k:Nat)(t1:Int)(t2:Int)(t3:Int)(o0:Ac)(zK:Unit)(zU:List zJ)(DL:Unit)(AJ:List Int)(DX:Unit×Unit×Unit):Option (Int×Ac×Unit×(List zJ)×Unit×(List Int)×(Unit×Unit×Unit)):=
 (Ao k o0.1 t1 1).bind fun r3=>C8.l3 k k t2 t3 r3 t1 (o0.1,o0.2.1,o0.2.2.1,((),(),()),((),()),()) () zU () AJ ((),(),())
def z8.c14(k:Nat)(t12:Int)(o0:Ac)(zK:Unit)(zU:List zJ)(DL:Unit)(AJ:List Int)(DX:Unit×Unit×Unit):Option (Int×Ac×Unit×(List zJ)×Unit×(List Int)×(Unit×Unit×Unit)):=
 some (t12,((o0.1,o0.2.1,o0.2.2.1,((),(),()),((),()),()),(),zU,(),AJ,((),(),())))
def z8.l10(k:Nat)(Em:Int→Int→Int→Int→Ac→Unit→(List zJ)→Unit→(List Int)→(Unit×Unit×Unit)→Option (Int×Ac×Unit×(List zJ)×Unit×(List Int)×(Unit×Unit×Unit))):Nat→Int→Int→Int→Int→Int→Int→Ac→Unit→(List zJ)→Unit→(List Int)→(Unit×Unit×Unit)→Option (Int×Ac×Unit×(List zJ)×Unit×(List Int)×(Unit×Unit×Unit))
 |0,_,_,_,_,_,_,_,_,_,_,_,_=>none
 |n+1,t2,t3,t4,t12,t70,t71,o0,zK,zU,DL,AJ,DX=>
  cond (decide (t71<t70)) (cond o0.2.2.1 (z8.c14 k t12 (o0.1,o0.2.1,o0.2.2.1,((),(),()),((),()),()) () zU () AJ ((),(),())) ((Em t12 t2 t3 t4 (o0.1,o0.2.1,o0.2.2.1,((),(),()),((),()),()) () zU () AJ ((),(),())).bind fun r1=>(z8.l10 k Em n) t2 t3 t4 r1.1 t70 (IntKind.wrap .i64 (t71+1)) (r1.2.1.1,r1.2.1.2.1,r1.2.1.2.2.1,((),(),()),((),()),()) () r1.2.2.2.1 () r1.2.2.2.2.2.1 ((),(),()))) (z8.c14 k t12 (o0.1,o0.2.1,o0.2.2.1,((),(),()),((),()),()) () zU () AJ ((),(),()))
def z8.c7(k:Nat)(t1:Int)(o0:Ac)(zK:Unit)(zU:List zJ)(DL:Unit)(AJ:List Int)(DX:Unit×Unit×Unit):Option (Int×Ac×Unit×(List zJ)×Unit×(List Int)×(Unit×Unit×Unit)):=
 some (IntKind.wrap .i64 (t1+1),((o0.1,o0.2.1,o0.2.2.1,((),(),()),((),()),()),(),zU,(),AJ,((),(),())))
def z8.c5(k:Nat)(t1:Int)(t2:Int)(t3:Int)(o0:Ac)(zK:Unit)(zU:List zJ)(DL:Unit)(AJ:List Int)(DX:Unit×Unit×Unit)(zH:zB):Option (Int×Ac×Unit×(List zJ)×Unit×(List Int)×(Unit×Unit×Unit)):=
 cond (!o0.2.2.1) ((Gp k t1 t2 t3 zH () () zU AJ).bind fun r2=>z8.c7 k t1 (o0.1,o0.2.1,o0.2.2.1,((),(),()),((),()),()) () r2.2.2.2.1 () r2.2.2.2.2 ((),(),())) (z8.c7 k t1 (o0.1,o0.2.1,o0.2.2.1,((),(),()),((),()),()) () zU () AJ ((),(),()))
def z8.d3(k:Nat)(t1:Int)(t2:Int)(t3:Int)(o0:Ac)(zK:Unit)(zU:List zJ)(DL:Unit)(AJ:List Int)(DX:Unit×Unit×Unit)(zH:zB):Option (Int×Ac×Unit×(List zJ)×Unit×(List Int)×(Unit×Unit×Unit)):=
 cond (!o0.2.2.1) ((gI o0.1 t1).bind fun y3=>(EE k y3.2.1 zH).bind fun r4=>cond (!r4) (z8.c5 k t1 t2 t3 (o0.1,o0.2.1,true,((),(),()),((),()),()) () zU () AJ ((),(),()) zH) (z8.c5 k t1 t2 t3 (o0.1,o0.2.1,o0.2.2.1,((),(),()),((),()),()) () zU () AJ ((),(),()) zH)) (cond false (z8.c5 k t1 t2 t3 (o0.1,o0.2.1,true,((),(),()),((),()),()) () zU () AJ ((),(),()) zH) (z8.c5 k t1 t2 t3 (o0.1,o0.2.1,o0.2.2.1,((),(),()),((),()),()) () zU () AJ ((),(),()) zH))
def z8.b(k:Nat)(Db:Int→Int→Int→Int→Ac→Unit→(List zJ)→Unit→(List Int)→(Unit×Unit×Unit)→Option (Int×Ac×Unit×(List zJ)×Unit×(List Int)×(Unit×Unit×Unit)))(Em:Int→Int→Int→Int→Ac→Unit→(List zJ)→Unit→(List Int)→(Unit×Unit×Unit)→Option (Int×Ac×Unit×(List zJ)×Unit×(List Int)×(Unit×Unit×Unit)))(t1:Int)(t2:Int)(t3:Int)(t4:Int)(o0:Ac)(zK:Unit)(zU:List zJ)(DL:Unit)(AJ:List Int)(DX:Unit×Unit×Unit):Option (Int×Ac×Unit×(List zJ)×Unit×(List Int)×(Unit×Unit×Unit)):=
 (gI o0.1 t1).bind fun y7=>cond (y7.2.1 !=7) ((F7 k (o0.1,o0.2.1,o0.2.2.1,((),(),()),((),()),()) () zU () AJ ((),(),())).bind fun r8=>z8.d3 k t1 t2 t3 (r8.2.1.1,r8.2.1.2.1,r8.2.1.2.2.1,((),(),()),((),()),()) () r8.2.2.2.1 () r8.2.2.2.2.2.1 ((),(),()) r8.1) ((gI o0.1 t1).bind fun y9=>z8.l10 k Em k t2 t3 t4 (IntKind.wrap .i64 (t1+1)) y9.2.2.2.1 0 (o0.1,o0.2.1,o0.2.2.1,((),(),()),((),()),()) () zU () AJ ((),(),()))
def Ce.c18(k:Nat)(Db:Int→Int→Int→Int→Ac→Unit→(List zJ)→Unit→(List Int)→(Unit×Unit×Unit)→Option (Int×Ac×Unit×(List zJ)×Unit×(List Int)×(Unit×Unit×Unit)))(t1:Int)(t2:Int)(t3:Int)(t4:Int)(o0:Ac)(zK:Unit)(zU:List zJ)(DL:Unit)(AJ:List Int)(DX:Unit×Unit×Unit):Option (Int×Ac×Unit×(List zJ)×Unit×(List Int)×(Unit×Unit×Unit)):=
 (Db t1 t2 t3 t4 (o0.1,o0.2.1,o0.2.2.1,((),(),()),((),()),()) () zU () AJ ((),(),())).bind fun r1=>some (r1.1,((r1.2.1.1,r1.2.1.2.1,r1.2.1.2.2.1,((),(),()),((),()),()),(),r1.2.2.2.1,(),r1.2.2.2.2.2.1,((),(),())))
def Ce.Bt(k:Nat)(Db:Int→Int→Int→Int→Ac→Unit→(List zJ)→Unit→(List Int)→(Unit×Unit×Unit)→Option (Int×Ac×Unit×(List zJ)×Unit×(List Int)×(Unit×Unit×Unit))):Nat→Int→Int→Int→Int→Int→Ac→Unit→(List zJ)→Unit→(List Int)→(Unit×Unit×Unit)→Option (Int×Ac×Unit×(List zJ)×Unit×(List Int)×(Unit×Unit×Unit))
 |0,_,_,_,_,_,_,_,_,_,_,_=>none
 |n+1,t1,t3,t4,t12,t13,o0,zK,zU,DL,AJ,DX=>
  (cond (decide (t13<t12)) (some (!o0.2.2.1)) (some false)).bind fun b2=>cond b2 ((Db t1 t4 (IntKind.wrap .i64 (t3+1)) t4 (o0.1,o0.2.1,o0.2.2.1,((),(),()),((),()),()) () zU () AJ ((),(),())).bind fun r3=>(Ce.Bt k Db n) t1 t3 t4 t12 (IntKind.wrap .i64 (t13+1)) (r3.2.1.1,r3.2.1.2.1,r3.2.1.2.2.1,((),(),()),((),()),()) () r3.2.2.2.1 () r3.2.2.2.2.2.1 ((),(),())) ((Ao k o0.1 t1 1).bind fun r4=>some (r4,((o0.1,o0.2.1,o0.2.2.1,((),(),()),((),()),()),(),zU,(),AJ,((),(),()))))
def Ce.b(k:Nat)(Db:Int→Int→Int→Int→Ac→Unit→(List zJ)→Unit→(List Int)→(Unit×Unit×Unit)→Option (Int×Ac×Unit×(List zJ)×Unit×(List Int)×(Unit×Unit×Unit)))(Em:Int→Int→Int→Int→Ac→Unit→(List zJ)→Unit→(List Int)→(Unit×Unit×Unit)→Option (Int×Ac×Unit×(List zJ)×Unit×(List Int)×(Unit×Unit×Unit)))(t1:Int)(t2:Int)(t3:Int)(t4:Int)(o0:Ac)(zK:Unit)(zU:List zJ)(DL:Unit)(AJ:List Int)(DX:Unit×Unit×Unit):Option (Int×Ac×Unit×(List zJ)×Unit×(List Int)×(Unit×Unit×Unit)):=
 (gI o0.1 t1).bind fun y5=>cond (y5.2.2.1==1) ((F6 k 1 (o0.1,o0.2.1,o0.2.2.1,((),(),()),((),()),()) () zU () AJ ((),(),())).bind fun r6=>cond (r6.1==0) ((C8 k t1 t2 t3 (r6.2.1.1,r6.2.1.2.1,r6.2.1.2.2.1,((),(),()),((),()),()) () r6.2.2.2.1 () r6.2.2.2.2.2.1 ((),(),())).bind fun r7=>some (r7.1,((r7.2.1.1,r7.2.1.2.1,r7.2.1.2.2.1,((),(),()),((),()),()),(),r7.2.2.2.1,(),r7.2.2.2.2.2.1,((),(),())))) (Ce.c18 k Db t1 t2 (IntKind.wrap .i64 (t3+1)) t4 (r6.2.1.1,r6.2.1.2.1,r6.2.1.2.2.1,((),(),()),((),()),()) () r6.2.2.2.1 () r6.2.2.2.2.2.1 ((),(),()))) (cond (y5.2.2.1==2) ((F6 k 20 (o0.1,o0.2.1,o0.2.2.1,((),(),()),((),()),()) () zU () AJ ((),(),())).bind fun r8=>cond (r8.1==0) ((C8 k t1 t2 t3 (r8.2.1.1,r8.2.1.2.1,r8.2.1.2.2.1,((),(),()),((),()),()) () r8.2.2.2.1 () r8.2.2.2.2.2.1 ((),(),())).bind fun r9=>some (r9.1,((r9.2.1.1,r9.2.1.2.1,r9.2.1.2.2.1,((),(),()),((),()),()),(),r9.2.2.2.1,(),r9.2.2.2.2.2.1,((),(),())))) ((Db t1 t2 (IntKind.wrap .i64 (t3+1)) (IntKind.wrap .i64 (t4+1)) (r8.2.1.1,r8.2.1.2.1,r8.2.1.2.2.1,((),(),()),((),()),()) () r8.2.2.2.1 () r8.2.2.2.2.2.1 ((),(),())).bind fun AQ=>Ce.Bt k Db k t1 t3 (IntKind.wrap .i64 (t4+1)) r8.1 1 (AQ.2.1.1,AQ.2.1.2.1,AQ.2.1.2.2.1,((),(),()),((),()),()) () AQ.2.2.2.1 () AQ.2.2.2.2.2.1 ((),(),()))) (Ce.c18 k Db t1 t2 t3 t4 (o0.1,o0.2.1,o0.2.2.1,((),(),()),((),()),()) () zU () AJ ((),(),())))
def z8.rec(k:Nat):Nat→(Int→Int→Int→Int→Ac→Unit→(List zJ)→Unit→(List Int)→(Unit×Unit×Unit)→Option (Int×Ac×Unit×(List zJ)×Unit×(List Int)×(Unit×Unit×Unit)))×(Int→Int→Int→Int→Ac→Unit→(List zJ)→Unit→(List Int)→(Unit×Unit×Unit)→Option (Int×Ac×Unit×(List zJ)×Unit×(List Int)×(Unit×Unit×Unit)))
 |0=>(fun _ _ _ _ _ _ _ _ _ _=>none,fun _ _ _ _ _ _ _ _ _ _=>none)
 |d+1=>(z8.b k ((z8.rec k d).1) ((z8.rec k d).2),Ce.b k ((z8.rec k d).1) ((z8.rec k d).2))
def z8.d(k d:Nat):Int→Int→Int→Int→Ac→Unit→(List zJ)→Unit→(List Int)→(Unit×Unit×Unit)→Option (Int×Ac×Unit×(List zJ)×Unit×(List Int)×(Unit×Unit×Unit)):=(z8.rec k d).1
def z8(k:Nat):Int→Int→Int→Int→Ac→Unit→(List zJ)→Unit→(List Int)→(Unit×Unit×Unit)→Option (Int×Ac×Unit×(List zJ)×Unit×(List Int)×(Unit×Unit×Unit)):=z8.d k k
def Ce.d(k d:Nat):Int→Int→Int→Int→Ac→Unit→(List zJ)→Unit→(List Int)→(Unit×Unit×Unit)→Option (Int×Ac×Unit×(List zJ)×Unit×(List Int)×(Unit×Unit×Unit)):=(z8.rec k d).2
def Ce(k:Nat):Int→Int→Int→Int→Ac→Unit→(List zJ)→Unit→(List Int)→(Unit×Unit×Unit)→Option (Int×Ac×Unit×(List zJ)×Unit×(List Int)×(Unit×Unit×Unit)):=Ce.d k k
def Fw(k:Nat)(t0:List zC)(t1:Ay)(t2:Unit×Unit×Unit)(t3:Unit×Unit)(zK:Unit)(zU:List zJ)(DL:Unit)(AJ:List Int)(DX:Unit×Unit×Unit):Option (Bool×Unit×(List zJ)×Unit×(List Int)×(Unit×Unit×Unit)):=
 (z8 k 0 0 0 0 (t0,t1.1,decide ((List.length t1.1:Int)>300),((),(),()),((),()),()) () zU () AJ ((),(),())).bind fun r1=>(cond (!r1.2.1.2.2.1) (some ((List.length r1.2.1.2.1:Int)==0)) (some false)).bind fun b2=>some (b2,((),r1.2.2.2.1,(),r1.2.2.2.2.2.1,((),(),())))
def C7.Bt(k:Nat):Nat→Int→Int→Unit→(List zJ)→Option ((Unit×Bool)×(List zJ))
 |0,_,_,_,_=>none
 |n+1,t44,t45,zH,AA=>
  cond (decide (t45<t44)) ((gI AA t45).bind fun y1=>cond (decide ((List.length y1.1:Int)>2000)) (some (((),false),[])) ((C7.Bt k n) t44 (IntKind.wrap .i64 (t45+1)) () AA)) (some (((),true),AA))
def C7.l8(k:Nat):Nat→(List zC)→(Unit×Unit)→(List Ay)→Int→Int→Unit→(Unit×Unit×Unit)→(List zJ)→Unit→(List Int)→Option ((Unit×Bool)×(List zJ))
 |0,_,_,_,_,_,_,_,_,_,_=>none
 |n+1,t0,t9,t30,t31,t32,zH,AA,Er,TB,TC=>
  cond (decide (t32<t31)) ((gI t30 t32).bind fun y2=>(Fw k t0 y2 ((),(),()) ((),()) () Er () TC ((),(),())).bind fun r3=>cond (!r3.1) (some (((),false),[])) ((C7.l8 k n) t0 ((),()) t30 t31 (IntKind.wrap .i64 (t32+1)) () ((),(),()) r3.2.2.1 () r3.2.2.2.2.1)) (C7.Bt k k (List.length Er:Int) 0 () Er)
def C7(k:Nat)(t0:List zC)(t1:List Ay):Option ((Unit×Bool)×(List zJ)):=
 (DU k t0).bind fun r4=>(cond (!r4) (some true) (some (decide ((List.length t1:Int)>200)))).bind fun b5=>cond b5 (some (((),false),[])) ((DW k t0).bind fun r6=>(CV k t0).bind fun r7=>cond (pQ (List.length r7.2:Int)) (C7.l8 k k t0 ((),()) t1 (List.length t1:Int) 0 () ((),(),()) (List.replicate (Int.toNat (List.length r7.2:Int)) ([],())) () r6.2) none)
def EK.l4(k:Nat):Nat→(List zO)→(List zO)→Int→Option Bool
 |0,_,_,_=>none
 |n+1,t0,t1,t5=>
  cond (decide (t5<(List.length t0:Int))) ((gI t0 t5).bind fun y1=>(gI t1 t5).bind fun y2=>cond (!(((y1.1==y2.1)&&((y1.2.1==y2.2.1)&&(((y1.2.2.1.1==y2.2.2.1.1)&&(jk y1.2.2.1.2.1 y2.2.2.1.2.1&&true))&&true))))) (some false) ((EK.l4 k n) t0 t1 (IntKind.wrap .i64 (t5+1)))) (some true)
def EK(k:Nat)(t0:List zO)(t1:List zO):Option Bool:=
 cond ((List.length t0:Int) !=(List.length t1:Int)) (some false) (EK.l4 k k t0 t1 0)
def E9.Bt(k:Nat):Nat→Int→(List zJ)→(List zJ)→Option Bool
 |0,_,_,_=>none
 |n+1,t11,zH,AA=>
  cond (decide (t11<(List.length zH:Int))) ((gI AA t11).bind fun y1=>(gI zH t11).bind fun y2=>(EK k y1.1 y2.1).bind fun r3=>cond (!r3) (some false) ((E9.Bt k n) (IntKind.wrap .i64 (t11+1)) zH AA)) (some true)
def E9(k:Nat)(t0:List Int):Option Bool:=
 (Jr k t0).bind fun r4=>cond r4 (some true) ((EN k t0).bind fun r5=>(Bq k r5.1.1 r5.2).bind fun r6=>(Aw k r5.1.1 r5.2).bind fun r7=>cond (r6.1.2 !=r7.1.2) (some false) (cond (r6.1.2 !=0) (some ((List.length r6.2:Int)==0)) ((C7 k r5.1.1 r6.2).bind fun r8=>(cond (!r8.1.2) (some true) (some ((List.length r8.2:Int) !=(List.length r5.2:Int)))).bind fun b9=>cond b9 (some false) (E9.Bt k k 0 r5.2 r8.2))))
end Go.Fn
