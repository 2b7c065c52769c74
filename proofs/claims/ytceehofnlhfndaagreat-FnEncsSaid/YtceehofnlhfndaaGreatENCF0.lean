/- the claim's functions as plain Lean -/
import Derived.Test.YtceehofnlhfndaaGreatAmStep
namespace Go
abbrev Br:ByteArray:=⟨#[]⟩
end Go
set_option linter.unusedVariables false
namespace Go.Fn
open Go.Am
abbrev Yy:=Unit×Bool×Unit
abbrev Yw:=Int×Int×Int×Unit
abbrev AP:=Int×ByteArray×Unit
abbrev Yv:=Unit×Int×Bool×Unit
abbrev Bd:=(List Int)×Int×Int×Unit
abbrev Cv:=ByteArray×Int×Int×Int×Unit
abbrev C_:=(List Int)×Int×Bool×Unit×Unit
abbrev KF:=Int×Int×Int×ByteArray×Int×Unit
abbrev YB:=Int×Int×AP×Unit
abbrev Yt:=(List Int)×Int×Bool×(List Int)×Unit
abbrev MX:=Int×Int×Int×Int×Int×(List Int)×Unit
abbrev MZ:=Int×(List MX)×Unit
abbrev Yz:=(List KF)×(List Int)×Unit
abbrev M3:=Int×Bool×AP×AP×Unit
abbrev YA:=(List Int)×Int×(List KF)×Int×Unit
abbrev Yx:=(List Cv)×Int×(List MZ)×Unit
abbrev Yu:=Int×Int×Int×Int×Int×Int×Int×Int×Bool×Int×Bool×M3×Int×Unit
def J8(k:Nat)(t0:List Int):Option Bool:=
 some (decide ((List.length t0:Int)>1048576))
def EZ.l3(k:Nat):Nat→(List Int)→Int→Int→Option (Unit×Bd)
 |0,_,_,_=>none
 |n+1,t0,t3,t4=>
  (cond (decide (t4<(List.length t0:Int))) (some (decide (t4<4000))) (some false)).bind fun b1=>cond b1 ((gP t0 t4).bind fun y2=>(EZ.l3 k n) t0 (bits .and .i64 (IntKind.wrap .i64 ((IntKind.wrap .i64 ((IntKind.wrap .i64 (t3*131))+(IntKind.wrap .i64 y2)))+7)) 1073741823) (IntKind.wrap .i64 (t4+1))) (some ((),(t0,0,t3,())))
def EZ(k:Nat)(t0:List Int):Option (Unit×Bd):=
 EZ.l3 k k t0 (IntKind.wrap .i64 (11443+(List.length t0:Int))) 0
def Eu.c6(k:Nat)(t3:Int)(o0:Bd):Option (Int×Bd):=
 some (t3,o0)
def Eu(k:Nat)(o0:Bd):Option (Int×Bd):=
 cond (decide (o0.2.1<(List.length o0.1:Int))) ((gP o0.1 o0.2.1).bind fun y1=>Eu.c6 k (bits .and .i64 (IntKind.wrap .i64 ((bits .and .i64 (bits .xor .i64 (qW .i64 (IntKind.wrap .i64 ((IntKind.wrap .i64 (o0.2.2.1*6364136223846793005))+1442695040888963407)) 33) (qW .i64 (IntKind.wrap .i64 ((IntKind.wrap .i64 (o0.2.2.1*6364136223846793005))+1442695040888963407)) 45)) 255)+(IntKind.wrap .i64 y1))) 255) (o0.1,IntKind.wrap .i64 (o0.2.1+1),IntKind.wrap .i64 ((IntKind.wrap .i64 (o0.2.2.1*6364136223846793005))+1442695040888963407),())) (Eu.c6 k (bits .and .i64 (bits .xor .i64 (qW .i64 (IntKind.wrap .i64 ((IntKind.wrap .i64 (o0.2.2.1*6364136223846793005))+1442695040888963407)) 33) (qW .i64 (IntKind.wrap .i64 ((IntKind.wrap .i64 (o0.2.2.1*6364136223846793005))+1442695040888963407)) 45)) 255) (o0.1,o0.2.1,IntKind.wrap .i64 ((IntKind.wrap .i64 (o0.2.2.1*6364136223846793005))+1442695040888963407),()))
def Dt(k:Nat)(t1:Int)(o0:Bd):Option (Int×Bd):=
 cond (decide (t1≤0)) (some (0,o0)) (cond (decide (t1≤256)) ((Eu k o0).bind fun r1=>cond (decide (t1≠0)) (some (Int.tmod r1.1 t1,r1.2)) none) ((Eu k o0).bind fun r2=>(Eu k r2.2).bind fun r3=>(Eu k r3.2).bind fun r4=>(Eu k r4.2).bind fun r5=>cond (decide (t1≠0)) (some (Int.tmod (IntKind.wrap .i64 ((IntKind.wrap .i64 ((IntKind.wrap .i64 ((IntKind.wrap .i64 (r2.1*16777216))+(IntKind.wrap .i64 (r3.1*65536))))+(IntKind.wrap .i64 (r4.1*256))))+r5.1)) t1,r5.2)) none))
def Fw(k:Nat)(t1:Int)(o0:Bd):Option (Bool×Bd):=
 (Dt k t1 o0).bind fun r1=>some (r1.1==0,r1.2)
def FO(k:Nat)(t1:List Int)(o0:Bd):Option (Int×Bd):=
 (Dt k (List.length t1:Int) o0).bind fun r1=>(gP t1 r1.1).bind fun y2=>some (y2,r1.2)
def Jv(k:Nat)(o0:Bd):Option (Int×Bd):=
 (Fw k 25 o0).bind fun r1=>cond r1.1 ((FO k [3,4,7,(-1)] r1.2).bind fun r2=>some (r2.1,r2.2)) ((FO k [0,1,2,5,6] r1.2).bind fun r3=>some (r3.1,r3.2))
def Ju(k:Nat)(t1:List ByteArray)(o0:Bd):Option (ByteArray×Bd):=
 (Dt k (List.length t1:Int) o0).bind fun r1=>(gP t1 r1.1).bind fun y2=>some (y2,r1.2)
def EY.l4(k:Nat):Nat→Int→Int→Bd→(List Int)→Option (Unit×Bd×(List Int))
 |0,_,_,_,_=>none
 |n+1,t6,t7,o0,AO=>
  cond (decide (t7<t6)) ((Eu k o0).bind fun r1=>cond (lim (List.length AO+List.length [IntKind.wrap .u8 r1.1])) ((EY.l4 k n) t6 (IntKind.wrap .i64 (t7+1)) r1.2 (AO++[IntKind.wrap .u8 r1.1])) none) (some ((),(o0,AO)))
def EY(k:Nat)(t1:Int)(o0:Bd):Option (Unit×Bd×(List Int)):=
 (Dt k (IntKind.wrap .i64 (t1+1)) o0).bind fun r2=>EY.l4 k k r2.1 0 r2.2 []
def Iu(k:Nat)(t1:Int)(o0:Bd):Option (ByteArray×Bd):=
 (EY k t1 o0).bind fun r1=>some (yM r1.2.2,r1.2.1)
def Ir(k:Nat)(o0:Bd):Option (Int×Bd):=
 (Dt k 1000000 o0).bind fun r1=>(Dt k 1000000 r1.2).bind fun r2=>(Dt k 300 r2.2).bind fun r3=>(FO k [0,1,(-1),63,64,(-64),(-65),127,128,16383,16384,2147483647,(-2147483648),9223372036854775807,(-9223372036854775808),4611686018427387904,r1.1,IntKind.wrap .i64 (0-r2.1),r3.1] r3.2).bind fun r4=>some (r4.1,r4.2)
def Hq(k:Nat)(t1:Int)(o0:Bd):Option ((AP)×Bd):=
 cond (t1==0) ((Dt k 2 o0).bind fun r1=>some ((r1.1,Br,()),r1.2)) (cond (t1==1) ((Fw k 6 o0).bind fun r2=>cond r2.1 ((FO k [2147483647,(-2147483648),0] r2.2).bind fun r3=>some ((r3.1,Br,()),r3.2)) ((Dt k 40 r2.2).bind fun r4=>some ((IntKind.wrap .i64 (r4.1-12),Br,()),r4.2))) (cond (t1==6) ((Fw k 3 o0).bind fun r5=>cond r5.1 ((Ju k [Br,(⟨#[97]⟩:ByteArray),(⟨#[97,98]⟩:ByteArray),(⟨#[97,98,99]⟩:ByteArray),(⟨#[97,98,100]⟩:ByteArray),(⟨#[98]⟩:ByteArray),(⟨#[97,97]⟩:ByteArray)] r5.2).bind fun r6=>some ((0,r6.1,()),r6.2)) ((Iu k 6 r5.2).bind fun r7=>some ((0,r7.1,()),r7.2))) (cond (t1==5) ((Dt k 9 o0).bind fun r8=>(Ir k r8.2).bind fun r9=>(FO k [0,(-9223372036854775808),4607182418800017408,(-4616189618054758400),9221120237041090560,(-2251799813685248),r8.1,r9.1] r9.2).bind fun Cg=>some ((Cg.1,Br,()),Cg.2)) ((Fw k 2 o0).bind fun Eh=>cond Eh.1 ((Dt k 30 Eh.2).bind fun CW=>some ((IntKind.wrap .i64 (CW.1-9),Br,()),CW.2)) ((Ir k Eh.2).bind fun Dn=>some ((Dn.1,Br,()),Dn.2))))))
def FQ.c7(k:Nat)(o0:Bd)(AO:AP)(AZ:AP):Option ((AP)×Bd):=
 some (AZ,o0)
def FQ(k:Nat)(t1:Int)(o0:Bd):Option ((AP)×Bd):=
 (Hq k t1 o0).bind fun r1=>(Dt k 25 r1.2).bind fun r2=>cond (r2.1==0) ((FO k [2,(-1),2147483648,(-2147483649)] r2.2).bind fun r3=>FQ.c7 k r3.2 (0,Br,()) (r3.1,r1.1.2.1,())) (cond (r2.1==1) ((Dt k 2 r2.2).bind fun r4=>cond (qG (IntKind.wrap .i64 (40+r4.1))) (FQ.c7 k r4.2 (0,Br,()) (r1.1.1,yM (List.replicate (Int.toNat (IntKind.wrap .i64 (40+r4.1))) 0),())) none) (FQ.c7 k r2.2 (0,Br,()) r1.1))
def Ck.c11(k:Nat)(o0:Bd)(AO:List AP):Option (Unit×Bd×(List AP)):=
 some ((),(o0,AO))
def Ck.c5(k:Nat)(L4:Int→Int→Int→Bd→(List AP)→Option (Unit×Bd×(List AP)))(t1:Int)(t8:Int)(t9:Int)(o0:Bd)(AO:List AP):Option (Unit×Bd×(List AP)):=
 L4 t1 t8 (IntKind.wrap .i64 (t9+1)) o0 AO
def Ck.l4(k:Nat):Nat→Int→Int→Int→Bd→(List AP)→Option (Unit×Bd×(List AP))
 |0,_,_,_,_,_=>none
 |n+1,t1,t8,t9,o0,AO=>
  cond (decide (t9<t8)) (cond (decide (t9>0)) ((Fw k 3 o0).bind fun r1=>cond r1.1 ((Dt k t9 r1.2).bind fun r2=>(gP AO r2.1).bind fun y3=>cond (lim (List.length AO+List.length [y3])) (Ck.c5 k (Ck.l4 k n) t1 t8 t9 r2.2 (AO++[y3])) none) ((Hq k t1 r1.2).bind fun r4=>cond (lim (List.length AO+List.length [r4.1])) (Ck.c5 k (Ck.l4 k n) t1 t8 t9 r4.2 (AO++[r4.1])) none)) (cond false ((Dt k t9 o0).bind fun r5=>(gP AO r5.1).bind fun y6=>cond (lim (List.length AO+List.length [y6])) (Ck.c5 k (Ck.l4 k n) t1 t8 t9 r5.2 (AO++[y6])) none) ((Hq k t1 o0).bind fun r7=>cond (lim (List.length AO+List.length [r7.1])) (Ck.c5 k (Ck.l4 k n) t1 t8 t9 r7.2 (AO++[r7.1])) none))) ((Fw k 20 o0).bind fun r8=>cond r8.1 ((FQ k t1 r8.2).bind fun r9=>cond (lim (List.length AO+List.length [r9.1])) (Ck.c11 k r9.2 (AO++[r9.1])) none) (Ck.c11 k r8.2 AO))
def Ck(k:Nat)(t1:Int)(t2:Int)(o0:Bd):Option (Unit×Bd×(List AP)):=
 (Dt k (IntKind.wrap .i64 (t2+1)) o0).bind fun Cg=>Ck.l4 k k t1 Cg.1 0 Cg.2 []
def Ew.c7(k:Nat)(t4:Bool):Option Bool:=
 cond t4 (some true) (some false)
def Ew(k:Nat)(t0:Int):Option Bool:=
 cond (t0==0) (Ew.c7 k (t0==0)) (cond (t0==1) (Ew.c7 k (t0==1)) (cond (t0==2) (Ew.c7 k (t0==2)) (cond (t0==5) (Ew.c7 k (t0==5)) (Ew.c7 k (t0==6)))))
def DT(k:Nat)(t0:Int)(t1:Int)(t2:Int):Option Bool:=
 (cond (decide (t0≥t1)) (some (decide (t0≤t2))) (some false)).bind fun b1=>some b1
def Ko(k:Nat)(t0:Int):Option Bool:=
 (DT k t0 (-2147483648) 2147483647).bind fun r1=>some r1
def FX.c8(k:Nat)(t5:Int)(t26:Bool)(AO:AP):Option Bool:=
 cond t26 (some (ig AO.2.1 Br)) (cond (t5==6) ((cond (AO.1==0) (some (decide ((AO.2.1.size:Int)≤40))) (some false)).bind fun b1=>some b1) (some false))
def FX(k:Nat)(t0:Int)(t1:AP):Option Bool:=
 cond (t0==0) ((DT k t1.1 0 1).bind fun r2=>(cond r2 (some (ig t1.2.1 Br)) (some false)).bind fun b3=>some b3) (cond (t0==1) ((Ko k t1.1).bind fun r4=>(cond r4 (some (ig t1.2.1 Br)) (some false)).bind fun b5=>some b5) (cond (t0==2) (FX.c8 k t0 (t0==2) t1) (FX.c8 k t0 (t0==5) t1)))
def Ea.l4(k:Nat):Nat→Int→(List AP)→Int→Option Bool
 |0,_,_,_=>none
 |n+1,t0,t1,t5=>
  cond (decide (t5<(List.length t1:Int))) ((gP t1 t5).bind fun y1=>(FX k t0 y1).bind fun r2=>cond (!r2) (some false) ((Ea.l4 k n) t0 t1 (IntKind.wrap .i64 (t5+1)))) (some true)
def Ea(k:Nat)(t0:Int)(t1:List AP):Option Bool:=
 (cond (decide ((List.length t1:Int)>2000)) (some true) ((Ew k t0).bind fun r3=>some (!r3))).bind fun b4=>cond b4 (some false) (Ea.l4 k k t0 t1 0)
def BH.c16(k:Nat)(L5:(List AP)→Int→(List AP)→(List Int)→Option ((Unit×Unit×Bool)×(List AP)×(List Int)))(t1:List AP)(t9:Int)(t10:Int)(AO:List AP)(AZ:List Int):Option ((Unit×Unit×Bool)×(List AP)×(List Int)):=
 cond (lim (List.length AZ+List.length [t10])) (L5 t1 (IntKind.wrap .i64 (t9+1)) AO (AZ++[t10])) none
def BH.c10(k:Nat)(L9:(List AP)→Int→Int→Int→(List AP)→(List Int)→Option ((Unit×Unit×Bool)×(List AP)×(List Int)))(t1:List AP)(t9:Int)(t10:Int)(t11:Int)(AO:List AP)(AZ:List Int):Option ((Unit×Unit×Bool)×(List AP)×(List Int)):=
 L9 t1 t9 t10 (IntKind.wrap .i64 (t11+1)) AO AZ
def BH.l9(k:Nat)(L5:(List AP)→Int→(List AP)→(List Int)→Option ((Unit×Unit×Bool)×(List AP)×(List Int))):Nat→(List AP)→Int→Int→Int→(List AP)→(List Int)→Option ((Unit×Unit×Bool)×(List AP)×(List Int))
 |0,_,_,_,_,_,_=>none
 |n+1,t1,t9,t10,t11,AO,AZ=>
  cond (decide (t11<(List.length AO:Int))) ((gP AO t11).bind fun y1=>(gP t1 t9).bind fun y2=>cond ((y1.1==y2.1)&&(ig y1.2.1 y2.2.1&&true)) (BH.c10 k (BH.l9 k L5 n) t1 t9 t11 t11 AO AZ) (BH.c10 k (BH.l9 k L5 n) t1 t9 t10 t11 AO AZ)) (cond (decide (t10<0)) ((gP t1 t9).bind fun y3=>cond (lim (List.length AO+List.length [y3])) (BH.c16 k L5 t1 t9 (List.length AO:Int) (AO++[y3]) AZ) none) (BH.c16 k L5 t1 t9 t10 AO AZ))
def BH.l5(k:Nat):Nat→(List AP)→Int→(List AP)→(List Int)→Option ((Unit×Unit×Bool)×(List AP)×(List Int))
 |0,_,_,_,_=>none
 |n+1,t1,t9,AO,AZ=>
  cond (decide (t9<(List.length t1:Int))) (BH.l9 k (BH.l5 k n) k t1 t9 (-1) 0 AO AZ) (some (((),(),true),(AO,AZ)))
def BH(k:Nat)(t0:Int)(t1:List AP):Option ((Unit×Unit×Bool)×(List AP)×(List Int)):=
 (Ea k t0 t1).bind fun r4=>cond (!r4) (some (((),(),false),([],[]))) (BH.l5 k k t1 0 [] [])
def EF.c6(k:Nat)(t6:Bool):Option Int:=
 cond t6 (some 8) (some 0)
def EF(k:Nat)(t0:Int):Option Int:=
 cond (t0==1) (some 4) (cond (t0==2) (EF.c6 k (t0==2)) (EF.c6 k (t0==5)))
def Dq.c13(k:Nat)(t1:Int)(t8:Int)(t24:Bool):Option Bool:=
 cond t24 (some (t1==6)) (cond (t8==9) ((EF k t1).bind fun r1=>some (decide (r1>0))) (some false))
def Dq.c6(k:Nat)(t1:Int)(t8:Int)(t9:Bool):Option Bool:=
 cond t9 (some true) (cond (t8==3) (some (t1==0)) (cond (t8==5) ((cond (t1==1) (some true) (some (t1==2))).bind fun b2=>some b2) (cond (t8==6) (Dq.c13 k t1 t8 (t8==6)) (Dq.c13 k t1 t8 (t8==7)))))
def Dq(k:Nat)(t0:Int)(t1:Int):Option Bool:=
 (Ew k t1).bind fun r3=>cond (!r3) (some false) (cond (t0==0) (Dq.c6 k t1 t0 (t0==0)) (Dq.c6 k t1 t0 (t0==8)))
def Dz.c4(k:Nat)(L3:Int→Int→Bd→(List Int)→Option (Int×Bd))(t1:Int)(t6:Int)(o0:Bd)(AO:List Int):Option (Int×Bd):=
 L3 t1 (IntKind.wrap .i64 (t6+1)) o0 AO
def Dz.l3(k:Nat):Nat→Int→Int→Bd→(List Int)→Option (Int×Bd)
 |0,_,_,_,_=>none
 |n+1,t1,t6,o0,AO=>
  cond (decide (t6<10)) ((cond (t6 !=8) ((Dq k t6 t1).bind fun r1=>some (r1)) (some false)).bind fun b2=>cond b2 (cond (lim (List.length AO+List.length [t6,t6])) (Dz.c4 k (Dz.l3 k n) t1 t6 o0 (AO++[t6,t6])) none) (Dz.c4 k (Dz.l3 k n) t1 t6 o0 AO)) ((Fw k 20 o0).bind fun r3=>cond r3.1 ((Dt k 11 r3.2).bind fun r4=>some (r4.1,r4.2)) ((FO k AO r3.2).bind fun r5=>some (r5.1,r5.2)))
def Dz(k:Nat)(t1:Int)(o0:Bd):Option (Int×Bd):=
 Dz.l3 k k t1 1 o0 [0,8]
def Gq.c6(k:Nat)(t6:Int)(t8:List AP)(o0:Bd)(AO:List AP):Option ((Int×Int×Unit×(List AP))×Bd×(List AP)):=
 (Dz k t6 o0).bind fun r1=>some ((r1.1,t6,(),t8),(r1.2,AO))
def Gq(k:Nat)(o0:Bd):Option ((Int×Int×Unit×(List AP))×Bd×(List AP)):=
 (Jv k o0).bind fun r2=>(Ck k r2.1 12 r2.2).bind fun r3=>(BH k r2.1 r3.2.2).bind fun r4=>(Fw k 15 r3.2.1).bind fun r5=>(cond r5.1 (some (decide ((List.length r4.2.1:Int)>0))) (some false)).bind fun b6=>cond b6 (cond (jM 1 ((List.length r4.2.1):Int) (List.length r4.2.1)) (Gq.c6 k r2.1 (kP r4.2.1 1 ((List.length r4.2.1):Int)) r5.2 r3.2.2) none) (Gq.c6 k r2.1 r4.2.1 r5.2 r3.2.2)
def Jq(k:Nat)(t0:List Int):Option ((Int×Int×Unit×(List AP))×(List AP)):=
 (EZ k t0).bind fun r1=>(Gq k r1.2).bind fun r2=>some ((r2.1.1,r2.1.2.1,(),r2.1.2.2.2),r2.2.2)
def Ce(k:Nat)(t0:Int)(t1:Int)(t2:Int):Option Bool:=
 (cond (decide (t0≥t1)) (some (decide (t0≤t2))) (some false)).bind fun b1=>some b1
def G8(k:Nat)(t0:Int):Option Bool:=
 (Ce k t0 0 2).bind fun r1=>(cond r1 (some true) (some (t0==5))).bind fun b2=>(cond b2 (some true) (some (t0==6))).bind fun b3=>some b3
def CV.c6(k:Nat)(t6:Bool):Option Int:=
 cond t6 (some 8) (some 0)
def CV(k:Nat)(t0:Int):Option Int:=
 cond (t0==1) (some 4) (cond (t0==2) (CV.c6 k (t0==2)) (CV.c6 k (t0==5)))
def DD.c11(k:Nat)(t0:Int)(t1:Int)(t23:Bool):Option Bool:=
 cond t23 (some (t1==6)) ((cond (t0==9) ((CV k t1).bind fun r1=>some (decide (r1>0))) (some false)).bind fun b2=>some b2)
def DD.c4(k:Nat)(t0:Int)(t1:Int)(t5:Int)(t6:Bool):Option Bool:=
 cond t6 ((G8 k t1).bind fun r3=>some r3) (cond (t5==3) (some (t1==0)) (cond (t5==5) ((cond (t1==1) (some true) (some (t1==2))).bind fun b4=>some b4) (cond (t5==6) (DD.c11 k t0 t1 (t5==6)) (DD.c11 k t0 t1 (t5==7)))))
def DD(k:Nat)(t0:Int)(t1:Int):Option Bool:=
 cond (t0==0) (DD.c4 k t0 t1 t0 (t0==0)) (DD.c4 k t0 t1 t0 (t0==8))
def J5(k:Nat)(t0:Int):Option Bool:=
 (Ce k t0 (-2147483648) 2147483647).bind fun r1=>some r1
def FV.c8(k:Nat)(t0:Int)(t26:Bool)(AO:AP):Option Bool:=
 cond t26 (some (ig AO.2.1 Br)) ((cond (t0==6) (some (AO.1==0)) (some false)).bind fun b1=>(cond b1 (some (decide ((AO.2.1.size:Int)≤40))) (some false)).bind fun b2=>some b2)
def FV(k:Nat)(t0:Int)(t1:AP):Option Bool:=
 cond (t0==0) ((Ce k t1.1 0 1).bind fun r3=>(cond r3 (some (ig t1.2.1 Br)) (some false)).bind fun b4=>some b4) (cond (t0==1) ((J5 k t1.1).bind fun r5=>(cond r5 (some (ig t1.2.1 Br)) (some false)).bind fun b6=>some b6) (cond (t0==2) (FV.c8 k t0 (t0==2) t1) (FV.c8 k t0 (t0==5) t1)))
def DZ.l2(k:Nat):Nat→Int→(List AP)→(List AP)→Int→Int→Option Bool
 |0,_,_,_,_,_=>none
 |n+1,t0,t1,t7,t8,t9=>
  cond (decide (t9<t8)) ((gP t7 t9).bind fun y1=>(FV k t0 y1).bind fun r2=>cond (!r2) (some false) ((DZ.l2 k n) t0 t1 t7 t8 (IntKind.wrap .i64 (t9+1)))) ((cond (decide ((List.length t1:Int)≤2000)) ((G8 k t0).bind fun r3=>some (r3)) (some false)).bind fun b4=>some b4)
def DZ(k:Nat)(t0:Int)(t1:List AP):Option Bool:=
 DZ.l2 k k t0 t1 t1 (List.length t1:Int) 0
def Eo.l3(k:Nat):Nat→(List AP)→Int→Int→(List Int)→Option (Unit×(List Int))
 |0,_,_,_,_=>none
 |n+1,t7,t8,t9,AO=>
  cond (decide (t9<t8)) ((gP t7 t9).bind fun y1=>cond (lim (List.length AO+List.length [y1.1])) ((Eo.l3 k n) t7 t8 (IntKind.wrap .i64 (t9+1)) (AO++[y1.1])) none) (some ((),AO))
def Eo(k:Nat)(t0:List AP):Option (Unit×(List Int)):=
 Eo.l3 k k t0 (List.length t0:Int) 0 []
def DJ.l5(k:Nat):Nat→Int→Int→Int→(List Int)→Option (Unit×(List Int))
 |0,_,_,_,_=>none
 |n+1,t0,t11,t12,AO=>
  cond (decide (t12<t11)) (cond (decide (0≤(IntKind.wrap .i64 (8*t12)))) (cond (lim (List.length AO+List.length [IntKind.wrap .u8 (qW .i64 t0 (IntKind.wrap .i64 (8*t12)))])) ((DJ.l5 k n) t0 t11 (IntKind.wrap .i64 (t12+1)) (AO++[IntKind.wrap .u8 (qW .i64 t0 (IntKind.wrap .i64 (8*t12)))])) none) none) (some ((),AO))
def DJ(k:Nat)(t0:Int)(t1:Int):Option (Unit×(List Int)):=
 (Ce k t1 1 8).bind fun r1=>cond (!r1) (some ((),[])) (DJ.l5 k k t0 t1 0 [])
def CU.l6(k:Nat)(L3:Int→(List Int)→Int→Int→(List Int)→Option (Unit×(List Int))):Nat→Int→Int→Int→(List Int)→Int→Int→Int→Int→(List Int)→Option (Unit×(List Int))
 |0,_,_,_,_,_,_,_,_,_=>none
 |n+1,t1,t6,t7,t17,t18,t19,t24,t25,AO=>
  cond (decide (t25<t24)) ((gP AO (IntKind.wrap .i64 (Int.tdiv (IntKind.wrap .i64 ((IntKind.wrap .i64 (t6*t1))+t25)) 8))).bind fun y1=>cond (decide (0≤t25)) (cond (decide (0≤(Int.tmod (IntKind.wrap .i64 ((IntKind.wrap .i64 (t6*t1))+t25)) 8))) ((gP AO (IntKind.wrap .i64 (Int.tdiv (IntKind.wrap .i64 ((IntKind.wrap .i64 (t6*t1))+t25)) 8))).bind fun y2=>(gP AO (IntKind.wrap .i64 (Int.tdiv (IntKind.wrap .i64 ((IntKind.wrap .i64 (t6*t1))+t25)) 8))).bind fun y3=>(CU.l6 k L3 n) t1 t6 t7 t17 t18 t19 t24 (IntKind.wrap .i64 (t25+1)) (List.set AO (Int.toNat (IntKind.wrap .i64 (Int.tdiv (IntKind.wrap .i64 ((IntKind.wrap .i64 (t6*t1))+t25)) 8))) (bits .or .u8 y1 (qV .u8 (IntKind.wrap .u8 (bits .and .i64 (qW .i64 t7 t25) 1)) (Int.tmod (IntKind.wrap .i64 ((IntKind.wrap .i64 (t6*t1))+t25)) 8))))) none) none) (L3 t1 t17 t18 (IntKind.wrap .i64 (t19+1)) AO)
def CU.l3(k:Nat):Nat→Int→(List Int)→Int→Int→(List Int)→Option (Unit×(List Int))
 |0,_,_,_,_,_=>none
 |n+1,t1,t17,t18,t19,AO=>
  cond (decide (t19<t18)) ((gP t17 t19).bind fun y4=>CU.l6 k (CU.l3 k n) k t1 t19 y4 t17 t18 t19 t1 0 AO) (some ((),AO))
def CU(k:Nat)(t0:List Int)(t1:Int):Option (Unit×(List Int)):=
 cond (qG (IntKind.wrap .i64 (Int.tdiv (IntKind.wrap .i64 ((IntKind.wrap .i64 ((List.length t0:Int)*t1))+7)) 8))) (CU.l3 k k t1 t0 (List.length t0:Int) 0 (List.replicate (Int.toNat (IntKind.wrap .i64 (Int.tdiv (IntKind.wrap .i64 ((IntKind.wrap .i64 ((List.length t0:Int)*t1))+7)) 8))) 0)) none
def Ca.c12(k:Nat)(L7:Int→(List AP)→Int→Int→(List Int)→Option ((Unit×Bool)×(List Int)))(t0:Int)(t19:List AP)(t20:Int)(t21:Int)(AO:List Int):Option ((Unit×Bool)×(List Int)):=
 L7 t0 t19 t20 (IntKind.wrap .i64 (t21+1)) AO
def Ca.d10(k:Nat)(L7:Int→(List AP)→Int→Int→(List Int)→Option ((Unit×Bool)×(List Int)))(t0:Int)(t19:List AP)(t20:Int)(t21:Int)(AO:List Int)(AZ:AP):Option ((Unit×Bool)×(List Int)):=
 (DJ k (AZ.2.1.size:Int) 4).bind fun r1=>cond (lim (List.length AO+List.length r1.2)) (cond (lim (List.length (AO++r1.2)+List.length (fH AZ.2.1))) (Ca.c12 k L7 t0 t19 t20 t21 ((AO++r1.2)++(fH AZ.2.1))) none) none
def Ca.d11(k:Nat)(L7:Int→(List AP)→Int→Int→(List Int)→Option ((Unit×Bool)×(List Int)))(t0:Int)(t19:List AP)(t20:Int)(t21:Int)(AO:List Int)(AZ:AP):Option ((Unit×Bool)×(List Int)):=
 (CV k t0).bind fun r6=>(DJ k AZ.1 r6).bind fun r7=>cond (lim (List.length AO+List.length r7.2)) (Ca.c12 k L7 t0 t19 t20 t21 (AO++r7.2)) none
def Ca.l7(k:Nat):Nat→Int→(List AP)→Int→Int→(List Int)→Option ((Unit×Bool)×(List Int))
 |0,_,_,_,_,_=>none
 |n+1,t0,t19,t20,t21,AO=>
  cond (decide (t21<t20)) ((gP t19 t21).bind fun MQ=>cond (t0==6) (Ca.d10 k (Ca.l7 k n) t0 t19 t20 t21 AO MQ) (Ca.d11 k (Ca.l7 k n) t0 t19 t20 t21 AO MQ)) (some (((),true),AO))
def Ca(k:Nat)(t0:Int)(t1:List AP):Option ((Unit×Bool)×(List Int)):=
 (DZ k t0 t1).bind fun Dn=>cond (!Dn) (some (((),false),[])) (cond (t0==0) ((Eo k t1).bind fun D7=>(CU k D7.2 1).bind fun DL=>some (((),true),DL.2)) (Ca.l7 k k t0 t1 (List.length t1:Int) 0 []))
def DI.l3(k:Nat):Nat→Int→(List Int)→Option (Unit×(List Int))
 |0,_,_=>none
 |n+1,t3,AO=>
  cond (decide (t3>127)) (cond (lim (List.length AO+List.length [IntKind.wrap .u8 (bits .or .u64 (bits .and .u64 t3 127) 128)])) ((DI.l3 k n) (qW .u64 t3 7) (AO++[IntKind.wrap .u8 (bits .or .u64 (bits .and .u64 t3 127) 128)])) none) (cond (lim (List.length AO+List.length [IntKind.wrap .u8 t3])) (some ((),AO++[IntKind.wrap .u8 t3])) none)
def DI(k:Nat)(t0:Int):Option (Unit×(List Int)):=
 DI.l3 k k (IntKind.wrap .u64 t0) []
def I8(k:Nat)(t0:Int):Option Int:=
 some (bits .xor .i64 (qV .i64 t0 1) (qW .i64 t0 63))
def Ig(k:Nat)(t0:Int):Option (Unit×(List Int)):=
 (I8 k t0).bind fun r1=>(DI k r1).bind fun r2=>some ((),r2.2)
def DX.d5(k:Nat)(L3:(List Int)→Int→(List Int)→Option (Unit×(List Int)))(t0:List Int)(t4:Int)(AO:List Int):Option (Unit×(List Int)):=
 (gP t0 t4).bind fun y1=>(gP t0 (IntKind.wrap .i64 (t4-1))).bind fun y2=>cond (lim (List.length AO+List.length [IntKind.wrap .i64 (y1-y2)])) (L3 t0 (IntKind.wrap .i64 (t4+1)) (AO++[IntKind.wrap .i64 (y1-y2)])) none
def DX.l3(k:Nat):Nat→(List Int)→Int→(List Int)→Option (Unit×(List Int))
 |0,_,_,_=>none
 |n+1,t0,t4,AO=>
  cond (decide (t4<(List.length t0:Int))) (DX.d5 k (DX.l3 k n) t0 t4 AO) (some ((),AO))
def DX(k:Nat)(t0:List Int):Option (Unit×(List Int)):=
 DX.l3 k k t0 1 []
def Ej.l5(k:Nat):Nat→(List Int)→Int→Int→Option Int
 |0,_,_,_=>none
 |n+1,t0,t3,t4=>
  cond (decide (t4<(List.length t0:Int))) ((gP t0 t4).bind fun y1=>(Ej.l5 k n) t0 (if y1<t3 then y1 else t3) (IntKind.wrap .i64 (t4+1))) (some t3)
def Ej.c3(k:Nat)(t0:List Int):Option Int:=
 (gP t0 0).bind fun y2=>Ej.l5 k k t0 y2 1
def Ej(k:Nat)(t0:List Int):Option Int:=
 cond (decide ((List.length t0:Int)<1)) (none) (Ej.c3 k t0)
def bits_Len64.c10(k:Nat)(t0:Int)(t2:Int):Option Int:=
 (oO (⟨#[0,1,2,2,3,3,3,3,4,4,4,4,4,4,4,4,5,5,5,5,5,5,5,5,5,5,5,5,5,5,5,5,6,6,6,6,6,6,6,6,6,6,6,6,6,6,6,6,6,6,6,6,6,6,6,6,6,6,6,6,6,6,6,6,7,7,7,7,7,7,7,7,7,7,7,7,7,7,7,7,7,7,7,7,7,7,7,7,7,7,7,7,7,7,7,7,7,7,7,7,7,7,7,7,7,7,7,7,7,7,7,7,7,7,7,7,7,7,7,7,7,7,7,7,7,7,7,7,8,8,8,8,8,8,8,8,8,8,8,8,8,8,8,8,8,8,8,8,8,8,8,8,8,8,8,8,8,8,8,8,8,8,8,8,8,8,8,8,8,8,8,8,8,8,8,8,8,8,8,8,8,8,8,8,8,8,8,8,8,8,8,8,8,8,8,8,8,8,8,8,8,8,8,8,8,8,8,8,8,8,8,8,8,8,8,8,8,8,8,8,8,8,8,8,8,8,8,8,8,8,8,8,8,8,8,8,8,8,8,8,8,8,8,8,8,8,8,8,8,8,8,8,8,8,8,8]⟩:ByteArray) (IntKind.wrap .u8 t0)).bind fun y1=>some (IntKind.wrap .i64 (t2+(IntKind.wrap .i64 y1)))
def bits_Len64.c7(k:Nat)(t0:Int)(t2:Int):Option Int:=
 cond (decide (t0≥256)) (bits_Len64.c10 k (qW .u64 t0 8) (IntKind.wrap .i64 (t2+8))) (bits_Len64.c10 k t0 t2)
def bits_Len64.c4(k:Nat)(t0:Int)(t2:Int):Option Int:=
 cond (decide (t0≥65536)) (bits_Len64.c7 k (qW .u64 t0 16) (IntKind.wrap .i64 (t2+16))) (bits_Len64.c7 k t0 t2)
def bits_Len64(k:Nat)(t0:Int):Option Int:=
 cond (decide (t0≥4294967296)) (bits_Len64.c4 k (qW .u64 t0 32) 32) (bits_Len64.c4 k t0 0)
def D5(k:Nat)(t0:Int):Option Int:=
 (bits_Len64 k (IntKind.wrap .u64 t0)).bind fun r1=>some r1
def Cq.c19(k:Nat)(L5:(List Int)→Int→Int→(List Int)→(List Int)→Option (Unit×(List Int)))(t0:List Int)(t3:Int)(t16:Int)(AO:List Int)(AZ:List Int):Option (Unit×(List Int)):=
 L5 t0 t3 (IntKind.wrap .i64 (t16+1)) AO AZ
def Cq.Cc(k:Nat)(L5:(List Int)→Int→Int→(List Int)→(List Int)→Option (Unit×(List Int))):Nat→(List Int)→Int→Int→Int→Int→Int→Int→(List Int)→(List Int)→(List Int)→Option (Unit×(List Int))
 |0,_,_,_,_,_,_,_,_,_,_=>none
 |n+1,t0,t3,t6,t8,t9,t10,t16,AO,AZ,Dx=>
  (cond (decide (t10<(IntKind.wrap .i64 ((IntKind.wrap .i64 (t6+1))*32)))) (some (decide (t10<(List.length t0:Int)))) (some false)).bind fun b1=>cond b1 ((gP t0 t10).bind fun y2=>(gP Dx t8).bind fun y3=>(gP Dx t8).bind fun y4=>(gP (List.set Dx (Int.toNat t8) (IntKind.wrap .i64 (y2-t3))) t8).bind fun y5=>(D5 k y5).bind fun r6=>(Cq.Cc k L5 n) t0 t3 t6 (IntKind.wrap .i64 (t8+1)) (if r6>t9 then r6 else t9) (IntKind.wrap .i64 (t10+1)) t16 AO AZ (List.set Dx (Int.toNat t8) (IntKind.wrap .i64 (y2-t3)))) (cond (lim (List.length AO+List.length [IntKind.wrap .u8 t9])) (cond (decide (t8>0)) ((CU k Dx t9).bind fun r7=>cond (lim (List.length AZ+List.length r7.2)) (Cq.c19 k L5 t0 t3 t16 (AO++[IntKind.wrap .u8 t9]) (AZ++r7.2)) none) (Cq.c19 k L5 t0 t3 t16 (AO++[IntKind.wrap .u8 t9]) AZ)) none)
def Cq.l5(k:Nat):Nat→(List Int)→Int→Int→(List Int)→(List Int)→Option (Unit×(List Int))
 |0,_,_,_,_,_=>none
 |n+1,t0,t3,t16,AO,AZ=>
  cond (decide (t16<4)) (cond (qG 32) (Cq.Cc k (Cq.l5 k n) k t0 t3 t16 0 0 (IntKind.wrap .i64 (t16*32)) t16 AO AZ (List.replicate (Int.toNat 32) 0)) none) (cond (lim (List.length AO+List.length AZ)) (some ((),AO++AZ)) none)
def Cq(k:Nat)(t0:List Int):Option (Unit×(List Int)):=
 (Ej k t0).bind fun r8=>(Ig k r8).bind fun r9=>Cq.l5 k k t0 r8 0 r9.2 []
def Di.l10(k:Nat):Nat→(List Int)→(List Int)→Option ((Unit×Bool)×(List Int))
 |0,_,_=>none
 |n+1,t6,AO=>
  cond (decide ((List.length t6:Int)>0)) (cond (jM 0 (if(List.length t6:Int)<128 then(List.length t6:Int) else 128) (List.length t6)) ((Cq k (kP t6 0 (if(List.length t6:Int)<128 then(List.length t6:Int) else 128))).bind fun r1=>cond (lim (List.length AO+List.length r1.2)) (cond (jM (if(List.length t6:Int)<128 then(List.length t6:Int) else 128) ((List.length t6):Int) (List.length t6)) ((Di.l10 k n) (kP t6 (if(List.length t6:Int)<128 then(List.length t6:Int) else 128) ((List.length t6):Int)) (AO++r1.2)) none) none) none) (some (((),true),AO))
def Di.c6(k:Nat)(t0:List Int)(t4:Int):Option ((Unit×Bool)×(List Int)):=
 (DI k 128).bind fun r2=>(DI k 4).bind fun r3=>cond (lim (List.length r2.2+List.length r3.2)) ((DI k (List.length t0:Int)).bind fun r4=>cond (lim (List.length (r2.2++r3.2)+List.length r4.2)) ((Ig k t4).bind fun r5=>cond (lim (List.length ((r2.2++r3.2)++r4.2)+List.length r5.2)) ((DX k t0).bind fun r6=>Di.l10 k k r6.2 (((r2.2++r3.2)++r4.2)++r5.2)) none) none) none
def Di(k:Nat)(t0:List Int):Option ((Unit×Bool)×(List Int)):=
 cond (decide ((List.length t0:Int)>2000)) (some (((),false),[])) (cond (decide ((List.length t0:Int)>0)) ((gP t0 0).bind fun y7=>Di.c6 k t0 y7) (Di.c6 k t0 0))
def EB.l6(k:Nat):Nat→(List AP)→Int→Int→(List Int)→(List Int)→Option ((Unit×Bool)×(List Int))
 |0,_,_,_,_,_=>none
 |n+1,t15,t16,t17,AO,AZ=>
  cond (decide (t17<t16)) ((gP t15 t17).bind fun y1=>cond (lim (List.length AO+List.length [(y1.2.1.size:Int)])) (cond (lim (List.length AZ+List.length (fH y1.2.1))) ((EB.l6 k n) t15 t16 (IntKind.wrap .i64 (t17+1)) (AO++[(y1.2.1.size:Int)]) (AZ++(fH y1.2.1))) none) none) ((Di k AO).bind fun r2=>cond (!r2.1.2) (some (((),false),[])) (cond (lim (List.length r2.2+List.length AZ)) (some (((),true),r2.2++AZ)) none))
def EB(k:Nat)(t0:List AP):Option ((Unit×Bool)×(List Int)):=
 (DZ k 6 t0).bind fun r3=>cond (!r3) (some (((),false),[])) (EB.l6 k k t0 (List.length t0:Int) 0 [] [])
def EN.l2(k:Nat):Nat→ByteArray→ByteArray→Int→Option Int
 |0,_,_,_=>none
 |n+1,t0,t1,t5=>
  (cond (decide (t5<(t0.size:Int))) (some (decide (t5<(t1.size:Int)))) (some false)).bind fun b1=>(cond b1 ((oO t0 t5).bind fun y2=>(oO t1 t5).bind fun y3=>some (y2==y3)) (some false)).bind fun b4=>cond b4 ((EN.l2 k n) t0 t1 (IntKind.wrap .i64 (t5+1))) (some t5)
def EN(k:Nat)(t0:ByteArray)(t1:ByteArray):Option Int:=
 EN.l2 k k t0 t1 0
def Ff.l7(k:Nat):Nat→ByteArray→(List AP)→Int→Int→(List Int)→(List AP)→Option ((Unit×Bool)×(List Int))
 |0,_,_,_,_,_,_=>none
 |n+1,t6,t19,t20,t21,AO,AZ=>
  cond (decide (t21<t20)) ((gP t19 t21).bind fun y1=>(EN k t6 y1.2.1).bind fun r2=>cond (lim (List.length AO+List.length [r2])) (cond (jM r2 (y1.2.1.size:Int) y1.2.1.size) (cond (lim (List.length AZ+List.length [(0,ByteArray.extract y1.2.1 (Int.toNat r2) (Int.toNat (y1.2.1.size:Int)),())])) ((Ff.l7 k n) y1.2.1 t19 t20 (IntKind.wrap .i64 (t21+1)) (AO++[r2]) (AZ++[(0,ByteArray.extract y1.2.1 (Int.toNat r2) (Int.toNat (y1.2.1.size:Int)),())])) none) none) none) ((Di k AO).bind fun r3=>(EB k AZ).bind fun r4=>(cond (!r3.1.2) (some true) (some (!r4.1.2))).bind fun b5=>cond b5 (some (((),false),[])) (cond (lim (List.length r3.2+List.length r4.2)) (some (((),true),r3.2++r4.2)) none))
def Ff(k:Nat)(t0:List AP):Option ((Unit×Bool)×(List Int)):=
 (DZ k 6 t0).bind fun r6=>cond (!r6) (some (((),false),[])) (Ff.l7 k k Br t0 (List.length t0:Int) 0 [] [])
def G7(k:Nat)(t0:Int):Option Int:=
 (CV k t0).bind fun r1=>some r1
def Dk.l9(k:Nat)(L6:(List AP)→Int→Int→(List Int)→Option ((Unit×Bool)×(List Int))):Nat→(List AP)→Int→Int→Int→(List AP)→Int→Int→(List Int)→Option ((Unit×Bool)×(List Int))
 |0,_,_,_,_,_,_,_,_=>none
 |n+1,t1,t8,t22,t23,t26,t27,t28,AO=>
  cond (decide (t28<t27)) ((gP t26 t28).bind fun y1=>cond (decide (0≤(IntKind.wrap .i64 (8*t8)))) (cond (lim (List.length AO+List.length [IntKind.wrap .u8 (qW .i64 y1.1 (IntKind.wrap .i64 (8*t8)))])) ((Dk.l9 k L6 n) t1 t8 t22 t23 t26 t27 (IntKind.wrap .i64 (t28+1)) (AO++[IntKind.wrap .u8 (qW .i64 y1.1 (IntKind.wrap .i64 (8*t8)))])) none) none) (L6 t1 t22 (IntKind.wrap .i64 (t23+1)) AO)
def Dk.l6(k:Nat):Nat→(List AP)→Int→Int→(List Int)→Option ((Unit×Bool)×(List Int))
 |0,_,_,_,_=>none
 |n+1,t1,t22,t23,AO=>
  cond (decide (t23<t22)) (Dk.l9 k (Dk.l6 k n) k t1 t23 t22 t23 t1 (List.length t1:Int) 0 AO) (some (((),true),AO))
def Dk(k:Nat)(t0:Int)(t1:List AP):Option ((Unit×Bool)×(List Int)):=
 (G7 k t0).bind fun r2=>(cond (r2==0) (some true) ((DZ k t0 t1).bind fun r3=>some (!r3))).bind fun b4=>cond b4 (some (((),false),[])) (Dk.l6 k k t1 r2 0 [])
def FD.l4(k:Nat):Nat→(List Int)→Int→(List Int)→Int→Int→Option ((Unit×Bool)×(List Int))
 |0,_,_,_,_,_=>none
 |n+1,t0,t1,t16,t17,t18=>
  cond (decide (t18<t17)) ((gP t16 t18).bind fun y1=>(cond (decide (y1<0)) (some true) ((D5 k y1).bind fun r2=>some (decide (r2>t1)))).bind fun b3=>cond b3 (some (((),false),[])) ((FD.l4 k n) t0 t1 t16 t17 (IntKind.wrap .i64 (t18+1)))) ((CU k t0 t1).bind fun r4=>some (((),true),r4.2))
def FD(k:Nat)(t0:List Int)(t1:Int):Option ((Unit×Bool)×(List Int)):=
 (cond (decide ((List.length t0:Int)>2000)) (some true) ((Ce k t1 0 62).bind fun r5=>some (!r5))).bind fun b6=>cond b6 (some (((),false),[])) (FD.l4 k k t0 t1 t0 (List.length t0:Int) 0)
def En.l2(k:Nat):Nat→(List Int)→Int→Int→Option Int
 |0,_,_,_=>none
 |n+1,t0,t1,t5=>
  (cond (decide ((IntKind.wrap .i64 (t1+t5))<(List.length t0:Int))) ((gP t0 (IntKind.wrap .i64 (t1+t5))).bind fun y1=>(gP t0 t1).bind fun y2=>some (y1==y2)) (some false)).bind fun b3=>cond b3 ((En.l2 k n) t0 t1 (IntKind.wrap .i64 (t5+1))) (some t5)
def En(k:Nat)(t0:List Int)(t1:Int):Option Int:=
 En.l2 k k t0 t1 0
def Gx(k:Nat)(t0:Int)(t1:Int):Option Int:=
 (Ce k t0 0 2000).bind fun r1=>(cond (!r1) (some true) ((Ce k t1 0 62).bind fun r2=>some (!r2))).bind fun b3=>cond b3 (some (-1)) (some (IntKind.wrap .i64 (Int.tdiv (IntKind.wrap .i64 ((IntKind.wrap .i64 (t0*t1))+7)) 8)))
def ER.l2(k:Nat):Nat→(List Int)→Int→Int→Option Int
 |0,_,_,_=>none
 |n+1,t0,t1,t5=>
  (cond (decide ((IntKind.wrap .i64 (t1+(IntKind.wrap .i64 (8*t5))))<(List.length t0:Int))) ((En k t0 (IntKind.wrap .i64 (t1+(IntKind.wrap .i64 (8*t5))))).bind fun r1=>some (decide (r1<8))) (some false)).bind fun b2=>cond b2 ((ER.l2 k n) t0 t1 (IntKind.wrap .i64 (t5+1))) (some t5)
def ER(k:Nat)(t0:List Int)(t1:Int):Option Int:=
 ER.l2 k k t0 t1 1
def Dj.d10(k:Nat)(L6:(List Int)→Int→Int→(List Int)→Option ((Unit×Bool)×(List Int)))(t0:List Int)(t1:Int)(t9:Int)(t10:Int)(AO:List Int):Option ((Unit×Bool)×(List Int)):=
 (gP t0 t9).bind fun y1=>(Gx k 1 t1).bind fun r2=>(DJ k y1 r2).bind fun r3=>cond (lim (List.length AO+List.length r3.2)) (L6 t0 t1 (IntKind.wrap .i64 (t9+t10)) (AO++r3.2)) none
def Dj.l6(k:Nat):Nat→(List Int)→Int→Int→(List Int)→Option ((Unit×Bool)×(List Int))
 |0,_,_,_,_=>none
 |n+1,t0,t1,t9,AO=>
  cond (decide (t9<(List.length t0:Int))) ((En k t0 t9).bind fun Cg=>cond (decide (Cg≥8)) ((DI k (IntKind.wrap .i64 (2*Cg))).bind fun Eh=>cond (lim (List.length AO+List.length Eh.2)) (Dj.d10 k (Dj.l6 k n) t0 t1 t9 Cg (AO++Eh.2)) none) ((ER k t0 t9).bind fun CW=>cond (qG (IntKind.wrap .i64 (8*CW))) (cond (jM t9 ((List.length t0):Int) (List.length t0)) ((DI k (IntKind.wrap .i64 ((IntKind.wrap .i64 (2*CW))+1))).bind fun Dn=>cond (lim (List.length AO+List.length Dn.2)) ((CU k (List.take (List.length (List.replicate (Int.toNat (IntKind.wrap .i64 (8*CW))) 0:List Int)) (kP t0 t9 ((List.length t0):Int))++List.drop (List.length (kP t0 t9 ((List.length t0):Int))) (List.replicate (Int.toNat (IntKind.wrap .i64 (8*CW))) 0)) t1).bind fun D7=>cond (lim (List.length (AO++Dn.2)+List.length D7.2)) ((Dj.l6 k n) t0 t1 (if(List.length t0:Int)<(IntKind.wrap .i64 (t9+(IntKind.wrap .i64 (8*CW)))) then(List.length t0:Int) else(IntKind.wrap .i64 (t9+(IntKind.wrap .i64 (8*CW))))) ((AO++Dn.2)++D7.2)) none) none) none) none)) (some (((),true),AO))
def Dj(k:Nat)(t0:List Int)(t1:Int):Option ((Unit×Bool)×(List Int)):=
 (FD k t0 t1).bind fun DL=>(cond (!DL.1.2) (some true) (some (decide (t1>24)))).bind fun b16=>cond b16 (some (((),false),[])) (Dj.l6 k k t0 t1 0 [])
def Ic(k:Nat)(t0:Int):Option Int:=
 (cond (decide (t0<0)) (some true) ((D5 k t0).bind fun r1=>some (decide (r1>62)))).bind fun b2=>cond b2 (some (-1)) ((D5 k t0).bind fun r3=>some r3)
def Fg.l4(k:Nat):Nat→(List Int)→Int→(List Int)→Int→Int→Option ((Unit×Bool)×(List Int))
 |0,_,_,_,_,_=>none
 |n+1,t0,t1,t14,t15,t16=>
  cond (decide (t16<t15)) ((gP t14 t16).bind fun y1=>(Ce k y1 0 (IntKind.wrap .i64 (t1-1))).bind fun r2=>cond (!r2) (some (((),false),[])) ((Fg.l4 k n) t0 t1 t14 t15 (IntKind.wrap .i64 (t16+1)))) ((Ic k (if 0>(IntKind.wrap .i64 (t1-1)) then 0 else(IntKind.wrap .i64 (t1-1)))).bind fun r3=>(Dj k t0 r3).bind fun r4=>cond (!r4.1.2) (some (((),false),[])) (cond (lim (List.length [IntKind.wrap .u8 r3]+List.length r4.2)) (some (((),true),[IntKind.wrap .u8 r3]++r4.2)) none))
def Fg(k:Nat)(t0:List Int)(t1:Int):Option ((Unit×Bool)×(List Int)):=
 (Ce k t1 0 2000).bind fun r5=>cond (!r5) (some (((),false),[])) (Fg.l4 k k t0 t1 t0 (List.length t0:Int) 0)
def CL.Cc(k:Nat):Nat→(List AP)→(List AP)→Int→Int→(List (AP×Int))→(List Int)→Option ((Unit×Bool)×(List Int))
 |0,_,_,_,_,_,_=>none
 |n+1,t1,t37,t38,t39,AO,AZ=>
  cond (decide (t39<t38)) ((gP t37 t39).bind fun y1=>cond (!(Option.isSome (bU (.st (.cons (.int .i64) (.cons .str .nil))) y1 AO))) (some (((),false),[])) (cond (lim (List.length AZ+List.length [Option.getD (bU (.st (.cons (.int .i64) (.cons .str .nil))) y1 AO) 0])) ((CL.Cc k n) t1 t37 t38 (IntKind.wrap .i64 (t39+1)) AO (AZ++[Option.getD (bU (.st (.cons (.int .i64) (.cons .str .nil))) y1 AO) 0])) none)) ((Fg k AZ (List.length t1:Int)).bind fun r2=>some (((),r2.1.2),r2.2))
def CL.c8(k:Nat)(L3:(List AP)→(List AP)→(List AP)→Int→Int→(List (AP×Int))→Option ((Unit×Bool)×(List Int)))(t0:List AP)(t1:List AP)(t17:List AP)(t18:Int)(t19:Int)(AO:List (AP×Int)):Option ((Unit×Bool)×(List Int)):=
 L3 t0 t1 t17 t18 (IntKind.wrap .i64 (t19+1)) AO
def CL.l3(k:Nat):Nat→(List AP)→(List AP)→(List AP)→Int→Int→(List (AP×Int))→Option ((Unit×Bool)×(List Int))
 |0,_,_,_,_,_,_=>none
 |n+1,t0,t1,t17,t18,t19,AO=>
  cond (decide (t19<t18)) ((gP t17 t19).bind fun y3=>cond (!(Option.isSome (bU (.st (.cons (.int .i64) (.cons .str .nil))) y3 AO))) (CL.c8 k (CL.l3 k n) t0 t1 t17 t18 t19 (fV (.st (.cons (.int .i64) (.cons .str .nil))) y3 t19 AO)) (CL.c8 k (CL.l3 k n) t0 t1 t17 t18 t19 AO)) (CL.Cc k k t1 t0 (List.length t0:Int) 0 AO [])
def CL(k:Nat)(t0:List AP)(t1:List AP):Option ((Unit×Bool)×(List Int)):=
 CL.l3 k k t0 t1 t1 (List.length t1:Int) 0 []
def I7(k:Nat)(t0:Int)(t1:Int)(t2:List AP)(t3:List AP):Option ((Unit×Bool)×(List Int)):=
 (DD k t0 t1).bind fun r1=>(cond (!r1) (some true) ((DZ k t1 t2).bind fun r2=>some (!r2))).bind fun b3=>cond b3 (some (((),false),[])) (cond (t0==0) ((Ca k t1 t2).bind fun r4=>some (((),r4.1.2),r4.2)) (cond (t0==5) ((Eo k t2).bind fun r5=>(Di k r5.2).bind fun r6=>some (((),r6.1.2),r6.2)) (cond (t0==6) ((EB k t2).bind fun r7=>some (((),r7.1.2),r7.2)) (cond (t0==7) ((Ff k t2).bind fun r8=>some (((),r8.1.2),r8.2)) (cond (t0==9) ((Dk k t1 t2).bind fun r9=>some (((),r9.1.2),r9.2)) (cond (t0==8) ((CL k t2 t3).bind fun Cg=>some (((),Cg.1.2),Cg.2)) ((Eo k t2).bind fun Eh=>(Dj k Eh.2 1).bind fun CW=>(DJ k (List.length CW.2:Int) 4).bind fun Dn=>cond (lim (List.length Dn.2+List.length CW.2)) (some (((),CW.1.2),Dn.2++CW.2)) none)))))))
def Dy.l3(k:Nat):Nat→Int→Int→Int→(List Int)→Option (Unit×(List Int))
 |0,_,_,_,_=>none
 |n+1,t0,t1,t6,AO=>
  (cond (decide (t6<t1)) ((DT k t1 1 8).bind fun r1=>some (r1)) (some false)).bind fun b2=>cond b2 (cond (decide (0≤(IntKind.wrap .i64 (8*t6)))) (cond (lim (List.length AO+List.length [IntKind.wrap .u8 (qW .i64 t0 (IntKind.wrap .i64 (8*t6)))])) ((Dy.l3 k n) t0 t1 (IntKind.wrap .i64 (t6+1)) (AO++[IntKind.wrap .u8 (qW .i64 t0 (IntKind.wrap .i64 (8*t6)))])) none) none) (some ((),AO))
def Dy(k:Nat)(t0:Int)(t1:Int):Option (Unit×(List Int)):=
 Dy.l3 k k t0 t1 0 []
def FM(k:Nat)(t0:Int)(t1:Int):Option Int:=
 (DT k t0 0 2000).bind fun r1=>(cond (!r1) (some true) ((DT k t1 0 62).bind fun r2=>some (!r2))).bind fun b3=>cond b3 (some (-1)) (some (IntKind.wrap .i64 (Int.tdiv (IntKind.wrap .i64 ((IntKind.wrap .i64 (t0*t1))+7)) 8)))
def Cj.c12(k:Nat)(MV:(List Int)→Int→Int→Int→(List Int)→Option ((Unit×Bool)×(List Int)))(t0:List Int)(t1:Int)(t8:Int)(t9:Int)(AO:List Int):Option ((Unit×Bool)×(List Int)):=
 MV t0 t1 t8 (IntKind.wrap .i64 (t9+1)) AO
def Cj.Cc(k:Nat)(L6:(List Int)→Int→Int→(List Int)→Option ((Unit×Bool)×(List Int))):Nat→(List Int)→Int→Int→Int→(List Int)→Option ((Unit×Bool)×(List Int))
 |0,_,_,_,_,_=>none
 |n+1,t0,t1,t8,t9,AO=>
  cond (decide (t9<t1)) ((gP t0 t8).bind fun y1=>cond (decide (0≤t9)) (cond ((bits .and .i64 (qW .i64 y1 t9) 1)==1) ((gP AO (IntKind.wrap .i64 (Int.tdiv (IntKind.wrap .i64 ((IntKind.wrap .i64 (t8*t1))+t9)) 8))).bind fun y2=>cond (decide (0≤(Int.tmod (IntKind.wrap .i64 ((IntKind.wrap .i64 (t8*t1))+t9)) 8))) ((gP AO (IntKind.wrap .i64 (Int.tdiv (IntKind.wrap .i64 ((IntKind.wrap .i64 (t8*t1))+t9)) 8))).bind fun y3=>(gP AO (IntKind.wrap .i64 (Int.tdiv (IntKind.wrap .i64 ((IntKind.wrap .i64 (t8*t1))+t9)) 8))).bind fun y4=>Cj.c12 k (Cj.Cc k L6 n) t0 t1 t8 t9 (List.set AO (Int.toNat (IntKind.wrap .i64 (Int.tdiv (IntKind.wrap .i64 ((IntKind.wrap .i64 (t8*t1))+t9)) 8))) (bits .or .u8 y2 (qV .u8 1 (Int.tmod (IntKind.wrap .i64 ((IntKind.wrap .i64 (t8*t1))+t9)) 8))))) none) (Cj.c12 k (Cj.Cc k L6 n) t0 t1 t8 t9 AO)) none) (L6 t0 t1 (IntKind.wrap .i64 (t8+1)) AO)
def Cj.l6(k:Nat):Nat→(List Int)→Int→Int→(List Int)→Option ((Unit×Bool)×(List Int))
 |0,_,_,_,_=>none
 |n+1,t0,t1,t8,AO=>
  cond (decide (t8<(List.length t0:Int))) ((gP t0 t8).bind fun y5=>(cond (decide (y5<0)) (some true) ((gP t0 t8).bind fun y6=>cond (decide (0≤t1)) (some ((qW .i64 y6 t1) !=0)) none)).bind fun b7=>cond b7 (some (((),false),[])) (Cj.Cc k (Cj.l6 k n) k t0 t1 t8 0 AO)) (some (((),true),AO))
def Cj(k:Nat)(t0:List Int)(t1:Int):Option ((Unit×Bool)×(List Int)):=
 (FM k (List.length t0:Int) t1).bind fun r8=>cond (decide (r8<0)) (some (((),false),[])) (cond (qG r8) (Cj.l6 k k t0 t1 0 (List.replicate (Int.toNat r8) 0)) none)
def Cs.c7(k:Nat)(L6:Int→(List AP)→Int→(List Int)→(List Int)→Option ((Unit×Bool)×(List Int)))(t0:Int)(t1:List AP)(t8:Int)(AO:List Int)(AZ:List Int):Option ((Unit×Bool)×(List Int)):=
 L6 t0 t1 (IntKind.wrap .i64 (t8+1)) AO AZ
def Cs.l6(k:Nat):Nat→Int→(List AP)→Int→(List Int)→(List Int)→Option ((Unit×Bool)×(List Int))
 |0,_,_,_,_,_=>none
 |n+1,t0,t1,t8,AO,AZ=>
  cond (decide (t8<(List.length t1:Int))) ((gP t1 t8).bind fun y1=>cond (t0==0) (cond (lim (List.length AZ+List.length [y1.1])) (Cs.c7 k (Cs.l6 k n) t0 t1 t8 AO (AZ++[y1.1])) none) (cond (t0==1) ((Dy k y1.1 4).bind fun r2=>cond (lim (List.length AO+List.length r2.2)) (Cs.c7 k (Cs.l6 k n) t0 t1 t8 (AO++r2.2) AZ) none) (cond (t0==6) ((Dy k (y1.2.1.size:Int) 4).bind fun r3=>cond (lim (List.length AO+List.length r3.2)) (cond (lim (List.length (AO++r3.2)+List.length (fH y1.2.1))) (Cs.c7 k (Cs.l6 k n) t0 t1 t8 ((AO++r3.2)++(fH y1.2.1)) AZ) none) none) ((Dy k y1.1 8).bind fun r4=>cond (lim (List.length AO+List.length r4.2)) (Cs.c7 k (Cs.l6 k n) t0 t1 t8 (AO++r4.2) AZ) none)))) (cond (t0==0) ((Cj k AZ 1).bind fun r5=>some (((),r5.1.2),r5.2)) (some (((),true),AO)))
def Cs(k:Nat)(t0:Int)(t1:List AP):Option ((Unit×Bool)×(List Int)):=
 (Ea k t0 t1).bind fun r6=>cond (!r6) (some (((),false),[])) (Cs.l6 k k t0 t1 0 [] [])
def Iw(k:Nat)(t0:Int):Option Bool:=
 (DT k t0 0 24).bind fun r1=>some r1
def Ex.l2(k:Nat):Nat→(List Int)→Int→Int→Option Int
 |0,_,_,_=>none
 |n+1,t0,t1,t5=>
  (cond (decide ((IntKind.wrap .i64 (t1+t5))<(List.length t0:Int))) ((gP t0 (IntKind.wrap .i64 (t1+t5))).bind fun y1=>(gP t0 t1).bind fun y2=>some (y1==y2)) (some false)).bind fun b3=>cond b3 ((Ex.l2 k n) t0 t1 (IntKind.wrap .i64 (t5+1))) (some t5)
def Ex(k:Nat)(t0:List Int)(t1:Int):Option Int:=
 Ex.l2 k k t0 t1 0
def FP(k:Nat)(t0:Int)(t1:Int):Option Int:=
 cond (t1==0) (some t0) (cond (decide (0≤t1)) (cond (decide (0≤(IntKind.wrap .i64 (64-t1)))) (some (bits .and .i64 (qW .i64 t0 t1) (IntKind.wrap .i64 ((qV .i64 1 (IntKind.wrap .i64 (64-t1)))-1)))) none) none)
def DR.l2(k:Nat):Nat→Int→(List Int)→Option (Unit×(List Int))
 |0,_,_=>none
 |n+1,t0,AO=>
  (FP k t0 7).bind fun r1=>cond (r1 !=0) (cond (lim (List.length AO+List.length [IntKind.wrap .u8 (IntKind.wrap .i64 ((bits .and .i64 t0 127)+128))])) ((FP k t0 7).bind fun r2=>(DR.l2 k n) r2 (AO++[IntKind.wrap .u8 (IntKind.wrap .i64 ((bits .and .i64 t0 127)+128))])) none) (cond (lim (List.length AO+List.length [IntKind.wrap .u8 t0])) (some ((),AO++[IntKind.wrap .u8 t0])) none)
def DR(k:Nat)(t0:Int):Option (Unit×(List Int)):=
 DR.l2 k k t0 []
def Cm.c7(k:Nat)(L6:(List Int)→Int→Int→Int→(List Int)→Option (Unit×(List Int)))(t0:List Int)(t1:Int)(t6:Int)(t7:Int)(AO:List Int):Option (Unit×(List Int)):=
 L6 t0 t1 t6 (IntKind.wrap .i64 (t7+1)) AO
def Cm.l6(k:Nat)(L3:(List Int)→Int→Int→(List Int)→Option (Unit×(List Int))):Nat→(List Int)→Int→Int→Int→(List Int)→Option (Unit×(List Int))
 |0,_,_,_,_,_=>none
 |n+1,t0,t1,t6,t7,AO=>
  cond (decide (t7<t1)) ((gP t0 t6).bind fun y1=>cond (decide (0≤t7)) (cond ((bits .and .i64 (qW .i64 y1 t7) 1)==1) ((gP AO (IntKind.wrap .i64 (Int.tdiv (IntKind.wrap .i64 ((IntKind.wrap .i64 (t6*t1))+t7)) 8))).bind fun y2=>cond (decide (0≤(Int.tmod (IntKind.wrap .i64 ((IntKind.wrap .i64 (t6*t1))+t7)) 8))) ((gP AO (IntKind.wrap .i64 (Int.tdiv (IntKind.wrap .i64 ((IntKind.wrap .i64 (t6*t1))+t7)) 8))).bind fun y3=>(gP AO (IntKind.wrap .i64 (Int.tdiv (IntKind.wrap .i64 ((IntKind.wrap .i64 (t6*t1))+t7)) 8))).bind fun y4=>Cm.c7 k (Cm.l6 k L3 n) t0 t1 t6 t7 (List.set AO (Int.toNat (IntKind.wrap .i64 (Int.tdiv (IntKind.wrap .i64 ((IntKind.wrap .i64 (t6*t1))+t7)) 8))) (bits .or .u8 y2 (qV .u8 1 (Int.tmod (IntKind.wrap .i64 ((IntKind.wrap .i64 (t6*t1))+t7)) 8))))) none) (Cm.c7 k (Cm.l6 k L3 n) t0 t1 t6 t7 AO)) none) (L3 t0 t1 (IntKind.wrap .i64 (t6+1)) AO)
def Cm.l3(k:Nat):Nat→(List Int)→Int→Int→(List Int)→Option (Unit×(List Int))
 |0,_,_,_,_=>none
 |n+1,t0,t1,t6,AO=>
  cond (decide (t6<(List.length t0:Int))) (Cm.l6 k (Cm.l3 k n) k t0 t1 t6 0 AO) (some ((),AO))
def Cm(k:Nat)(t0:List Int)(t1:Int):Option (Unit×(List Int)):=
 cond (qG (IntKind.wrap .i64 (Int.tdiv (IntKind.wrap .i64 ((IntKind.wrap .i64 ((List.length t0:Int)*t1))+7)) 8))) (Cm.l3 k k t0 t1 0 (List.replicate (Int.toNat (IntKind.wrap .i64 (Int.tdiv (IntKind.wrap .i64 ((IntKind.wrap .i64 ((List.length t0:Int)*t1))+7)) 8))) 0)) none
def Bb.H7(k:Nat)(JD:(List Int)→Int→Int→Int→(List Int)→(List Int)→Option ((Unit×Bool)×(List Int)))(t0:List Int)(t1:Int)(t8:Int)(t11:Int)(t12:Int)(AO:List Int)(AZ:List Int):Option ((Unit×Bool)×(List Int)):=
 cond (lim (List.length AZ+List.length [t12])) (JD t0 t1 t8 (IntKind.wrap .i64 (t11+1)) AO (AZ++[t12])) none
def Bb.Cr(k:Nat)(F5:(List Int)→Int→Int→(List Int)→(List Int)→Option ((Unit×Bool)×(List Int))):Nat→(List Int)→Int→Int→Int→(List Int)→(List Int)→Option ((Unit×Bool)×(List Int))
 |0,_,_,_,_,_,_=>none
 |n+1,t0,t1,t8,t11,AO,AZ=>
  cond (decide (t11<8)) (cond (decide ((IntKind.wrap .i64 (t8+t11))<(List.length t0:Int))) ((gP t0 (IntKind.wrap .i64 (t8+t11))).bind fun y1=>Bb.H7 k (Bb.Cr k F5 n) t0 t1 t8 t11 y1 AO AZ) (Bb.H7 k (Bb.Cr k F5 n) t0 t1 t8 t11 0 AO AZ)) (F5 t0 t1 (IntKind.wrap .i64 (t8+8)) AO AZ)
def Bb.CZ(k:Nat)(Eb:(List Int)→Int→Int→(List Int)→Option ((Unit×Bool)×(List Int))):Nat→(List Int)→Int→Int→(List Int)→(List Int)→Option ((Unit×Bool)×(List Int))
 |0,_,_,_,_,_=>none
 |n+1,t0,t1,t8,AO,AZ=>
  (cond (decide (t8<(List.length t0:Int))) ((cond ((List.length AZ:Int)==0) (some true) ((Ex k t0 t8).bind fun r2=>some (decide (r2<8)))).bind fun b3=>some (b3)) (some false)).bind fun b4=>cond b4 (Bb.Cr k (Bb.CZ k Eb n) k t0 t1 t8 0 AO AZ) ((DR k (IntKind.wrap .i64 ((IntKind.wrap .i64 (2*(IntKind.wrap .i64 (Int.tdiv (List.length AZ:Int) 8))))+1))).bind fun r5=>cond (lim (List.length AO+List.length r5.2)) ((Cm k AZ t1).bind fun r6=>cond (lim (List.length (AO++r5.2)+List.length r6.2)) (Eb t0 t1 t8 ((AO++r5.2)++r6.2)) none) none)
def Bb.c16(k:Nat)(Eb:(List Int)→Int→Int→(List Int)→Option ((Unit×Bool)×(List Int)))(t0:List Int)(t1:Int)(t8:Int)(t9:Int)(AO:List Int):Option ((Unit×Bool)×(List Int)):=
 Eb t0 t1 (IntKind.wrap .i64 (t8+t9)) AO
def Bb.d15(k:Nat)(Eb:(List Int)→Int→Int→(List Int)→Option ((Unit×Bool)×(List Int)))(t0:List Int)(t1:Int)(t8:Int)(t9:Int)(AO:List Int):Option ((Unit×Bool)×(List Int)):=
 (gP t0 t8).bind fun y7=>(FM k 1 t1).bind fun r8=>(Dy k y7 r8).bind fun r9=>cond (lim (List.length AO+List.length r9.2)) (Bb.c16 k Eb t0 t1 t8 t9 (AO++r9.2)) none
def Bb.l10(k:Nat):Nat→(List Int)→Int→Int→(List Int)→Option ((Unit×Bool)×(List Int))
 |0,_,_,_,_=>none
 |n+1,t0,t1,t8,AO=>
  cond (decide (t8<(List.length t0:Int))) ((Ex k t0 t8).bind fun r16=>cond (decide (r16≥8)) ((DR k (IntKind.wrap .i64 (2*r16))).bind fun Gm=>cond (lim (List.length AO+List.length Gm.2)) (cond (decide (t1>0)) (Bb.d15 k (Bb.l10 k n) t0 t1 t8 r16 (AO++Gm.2)) (Bb.c16 k (Bb.l10 k n) t0 t1 t8 r16 (AO++Gm.2))) none) (Bb.CZ k (Bb.l10 k n) k t0 t1 t8 AO [])) (some (((),true),AO))
def Bb.l5(k:Nat):Nat→(List Int)→Int→Int→(List Int)→Option ((Unit×Bool)×(List Int))
 |0,_,_,_,_=>none
 |n+1,t0,t1,t7,AO=>
  cond (decide (t7<(List.length t0:Int))) ((gP t0 t7).bind fun Yp=>(cond (decide (Yp<0)) (some true) ((gP t0 t7).bind fun Yq=>cond (decide (0≤t1)) (some ((qW .i64 Yq t1) !=0)) none)).bind fun b20=>cond b20 (some (((),false),[])) ((Bb.l5 k n) t0 t1 (IntKind.wrap .i64 (t7+1)) AO)) (Bb.l10 k k t0 t1 0 AO)
def Bb(k:Nat)(t0:List Int)(t1:Int):Option ((Unit×Bool)×(List Int)):=
 (Iw k t1).bind fun Xj=>(cond (!Xj) (some true) (some (decide ((List.length t0:Int)>2000)))).bind fun M_=>cond M_ (some (((),false),[])) (Bb.l5 k k t0 t1 0 [])
def EX.l3(k:Nat):Nat→(List AP)→Int→(List Int)→Option (Unit×(List Int))
 |0,_,_,_=>none
 |n+1,t0,t4,AO=>
  cond (decide (t4<(List.length t0:Int))) ((gP t0 t4).bind fun y1=>cond (lim (List.length AO+List.length [y1.1])) ((EX.l3 k n) t0 (IntKind.wrap .i64 (t4+1)) (AO++[y1.1])) none) (some ((),AO))
def EX(k:Nat)(t0:List AP):Option (Unit×(List Int)):=
 EX.l3 k k t0 0 []
def Js(k:Nat)(t0:Int):Option Int:=
 cond (decide (t0<0)) (some (bits .xor .i64 (-1) (qV .i64 t0 1))) (some (qV .i64 t0 1))
def Ip(k:Nat)(t0:Int):Option (Unit×(List Int)):=
 (Js k t0).bind fun r1=>(DR k r1).bind fun r2=>some ((),r2.2)
def D_.d5(k:Nat)(L3:(List Int)→Int→(List Int)→Option (Unit×(List Int)))(t0:List Int)(t4:Int)(AO:List Int):Option (Unit×(List Int)):=
 (gP t0 t4).bind fun y1=>(gP t0 (IntKind.wrap .i64 (t4-1))).bind fun y2=>cond (lim (List.length AO+List.length [IntKind.wrap .i64 (y1-y2)])) (L3 t0 (IntKind.wrap .i64 (t4+1)) (AO++[IntKind.wrap .i64 (y1-y2)])) none
def D_.l3(k:Nat):Nat→(List Int)→Int→(List Int)→Option (Unit×(List Int))
 |0,_,_,_=>none
 |n+1,t0,t4,AO=>
  cond (decide (t4<(List.length t0:Int))) (D_.d5 k (D_.l3 k n) t0 t4 AO) (some ((),AO))
def D_(k:Nat)(t0:List Int):Option (Unit×(List Int)):=
 D_.l3 k k t0 1 []
def Iq(k:Nat)(t0:Int)(t1:Int):Option Int:=
 cond (decide (t0<t1)) (some t0) (some t1)
def GI(k:Nat)(t0:Int)(t1:Int):Option Int:=
 cond (decide (t0>t1)) (some t0) (some t1)
def E5.l2(k:Nat):Nat→Int→Int→Option Int
 |0,_,_=>none
 |n+1,t0,t3=>
  cond (t0 !=0) ((FP k t0 1).bind fun r1=>(E5.l2 k n) r1 (IntKind.wrap .i64 (t3+1))) (some t3)
def E5(k:Nat)(t0:Int):Option Int:=
 E5.l2 k k t0 0
def Ct.c7(k:Nat)(L6:(List Int)→Int→Int→Int→(List Int)→Option (Unit×(List Int)))(t0:List Int)(t1:Int)(t6:Int)(t7:Int)(AO:List Int):Option (Unit×(List Int)):=
 L6 t0 t1 t6 (IntKind.wrap .i64 (t7+1)) AO
def Ct.l6(k:Nat)(L3:(List Int)→Int→Int→(List Int)→Option (Unit×(List Int))):Nat→(List Int)→Int→Int→Int→(List Int)→Option (Unit×(List Int))
 |0,_,_,_,_,_=>none
 |n+1,t0,t1,t6,t7,AO=>
  cond (decide (t7<t1)) ((gP t0 t6).bind fun y1=>cond (decide (0≤t7)) (cond ((bits .and .i64 (qW .i64 y1 t7) 1) !=0) ((gP AO (IntKind.wrap .i64 (Int.tdiv (IntKind.wrap .i64 ((IntKind.wrap .i64 (t6*t1))+t7)) 8))).bind fun y2=>cond (decide (0≤(Int.tmod (IntKind.wrap .i64 ((IntKind.wrap .i64 (t6*t1))+t7)) 8))) ((gP AO (IntKind.wrap .i64 (Int.tdiv (IntKind.wrap .i64 ((IntKind.wrap .i64 (t6*t1))+t7)) 8))).bind fun y3=>(gP AO (IntKind.wrap .i64 (Int.tdiv (IntKind.wrap .i64 ((IntKind.wrap .i64 (t6*t1))+t7)) 8))).bind fun y4=>Ct.c7 k (Ct.l6 k L3 n) t0 t1 t6 t7 (List.set AO (Int.toNat (IntKind.wrap .i64 (Int.tdiv (IntKind.wrap .i64 ((IntKind.wrap .i64 (t6*t1))+t7)) 8))) (bits .or .u8 y2 (qV .u8 1 (Int.tmod (IntKind.wrap .i64 ((IntKind.wrap .i64 (t6*t1))+t7)) 8))))) none) (Ct.c7 k (Ct.l6 k L3 n) t0 t1 t6 t7 AO)) none) (L3 t0 t1 (IntKind.wrap .i64 (t6+1)) AO)
def Ct.l3(k:Nat):Nat→(List Int)→Int→Int→(List Int)→Option (Unit×(List Int))
 |0,_,_,_,_=>none
 |n+1,t0,t1,t6,AO=>
  cond (decide (t6<(List.length t0:Int))) (Ct.l6 k (Ct.l3 k n) k t0 t1 t6 0 AO) (some ((),AO))
def Ct(k:Nat)(t0:List Int)(t1:Int):Option (Unit×(List Int)):=
 cond (qG (IntKind.wrap .i64 (Int.tdiv (IntKind.wrap .i64 ((IntKind.wrap .i64 ((List.length t0:Int)*t1))+7)) 8))) (Ct.l3 k k t0 t1 0 (List.replicate (Int.toNat (IntKind.wrap .i64 (Int.tdiv (IntKind.wrap .i64 ((IntKind.wrap .i64 ((List.length t0:Int)*t1))+7)) 8))) 0)) none
def Bv.c10(k:Nat)(L9:(List Int)→Int→Int→Int→(List Int)→(List Int)→Option (Unit×(List Int)))(t0:List Int)(t3:Int)(t5:Int)(t8:Int)(AO:List Int)(AZ:List Int):Option (Unit×(List Int)):=
 L9 t0 t3 t5 (IntKind.wrap .i64 (t8+1)) AO AZ
def Bv.Cr(k:Nat)(L9:(List Int)→Int→Int→Int→(List Int)→(List Int)→Option (Unit×(List Int))):Nat→(List Int)→Int→Int→Int→Int→(List Int)→(List Int)→(List Int)→Option (Unit×(List Int))
 |0,_,_,_,_,_,_,_,_=>none
 |n+1,t0,t3,t5,t8,t10,AO,AZ,Dx=>
  cond (decide ((List.length Dx:Int)<t5)) (cond (lim (List.length Dx+List.length [0])) ((Bv.Cr k L9 n) t0 t3 t5 t8 t10 AO AZ (Dx++[0])) none) ((Ct k Dx t10).bind fun r1=>cond (lim (List.length AZ+List.length r1.2)) (Bv.c10 k L9 t0 t3 t5 t8 AO (AZ++r1.2)) none)
def Bv.Gz(k:Nat)(L9:(List Int)→Int→Int→Int→(List Int)→(List Int)→Option (Unit×(List Int))):Nat→(List Int)→Int→Int→Int→Int→Int→(List Int)→(List Int)→(List Int)→Option (Unit×(List Int))
 |0,_,_,_,_,_,_,_,_,_=>none
 |n+1,t0,t3,t5,t8,t10,t11,AO,AZ,Dx=>
  (cond (decide (t11<(IntKind.wrap .i64 ((IntKind.wrap .i64 (t8+1))*t5)))) (some (decide (t11<(List.length t0:Int)))) (some false)).bind fun b2=>cond b2 ((gP t0 t11).bind fun y3=>cond (lim (List.length Dx+List.length [IntKind.wrap .i64 (y3-t3)])) ((gP t0 t11).bind fun y4=>(E5 k (IntKind.wrap .i64 (y4-t3))).bind fun r5=>(GI k t10 r5).bind fun r6=>(Bv.Gz k L9 n) t0 t3 t5 t8 r6 (IntKind.wrap .i64 (t11+1)) AO AZ (Dx++[IntKind.wrap .i64 (y3-t3)])) none) (cond (lim (List.length AO+List.length [IntKind.wrap .u8 t10])) (cond ((List.length Dx:Int)==0) (Bv.c10 k L9 t0 t3 t5 t8 (AO++[IntKind.wrap .u8 t10]) AZ) (Bv.Cr k L9 k t0 t3 t5 t8 t10 (AO++[IntKind.wrap .u8 t10]) AZ Dx)) none)
def Bv.l9(k:Nat):Nat→(List Int)→Int→Int→Int→(List Int)→(List Int)→Option (Unit×(List Int))
 |0,_,_,_,_,_,_=>none
 |n+1,t0,t3,t5,t8,AO,AZ=>
  cond (decide (t8<4)) (Bv.Gz k (Bv.l9 k n) k t0 t3 t5 t8 0 (IntKind.wrap .i64 (t8*t5)) AO AZ []) ((Ip k t3).bind fun r7=>cond (lim (List.length r7.2+List.length AO)) (cond (lim (List.length (r7.2++AO)+List.length AZ)) (some ((),(r7.2++AO)++AZ)) none) none)
def Bv.l3(k:Nat):Nat→(List Int)→Int→Int→Option (Unit×(List Int))
 |0,_,_,_=>none
 |n+1,t0,t3,t4=>
  cond (decide (t4<(List.length t0:Int))) ((gP t0 t4).bind fun y8=>(Iq k t3 y8).bind fun r9=>(Bv.l3 k n) t0 r9 (IntKind.wrap .i64 (t4+1))) (Bv.l9 k k t0 t3 32 0 [] [])
def Bv(k:Nat)(t0:List Int):Option (Unit×(List Int)):=
 (gP t0 0).bind fun Yo=>Bv.l3 k k t0 Yo 1
def Dp.Cc(k:Nat):Nat→Int→(List Int)→(List Int)→Option ((Unit×Bool)×(List Int))
 |0,_,_,_=>none
 |n+1,t7,AO,AZ=>
  cond (decide (t7<(List.length AZ:Int))) ((Iq k (IntKind.wrap .i64 (t7+128)) (List.length AZ:Int)).bind fun r1=>cond (jM t7 r1 (List.length AZ)) ((Bv k (kP AZ t7 r1)).bind fun r2=>cond (lim (List.length AO+List.length r2.2)) ((Dp.Cc k n) (IntKind.wrap .i64 (t7+128)) (AO++r2.2) AZ) none) none) (some (((),true),AO))
def Dp.c6(k:Nat)(t0:List Int)(t4:Int):Option ((Unit×Bool)×(List Int)):=
 (DR k 128).bind fun r3=>(DR k 4).bind fun r4=>cond (lim (List.length r3.2+List.length r4.2)) ((DR k (List.length t0:Int)).bind fun r5=>cond (lim (List.length (r3.2++r4.2)+List.length r5.2)) ((Ip k t4).bind fun r6=>cond (lim (List.length ((r3.2++r4.2)++r5.2)+List.length r6.2)) ((D_ k t0).bind fun r7=>Dp.Cc k k 0 (((r3.2++r4.2)++r5.2)++r6.2) r7.2) none) none) none
def Dp(k:Nat)(t0:List Int):Option ((Unit×Bool)×(List Int)):=
 cond (decide ((List.length t0:Int)>2000)) (some (((),false),[])) (cond (decide ((List.length t0:Int)>0)) ((gP t0 0).bind fun y8=>Dp.c6 k t0 y8) (Dp.c6 k t0 0))
def Dw.l10(k:Nat):Nat→(List ByteArray)→Int→(List Int)→Option ((Unit×Bool)×(List Int))
 |0,_,_,_=>none
 |n+1,t0,t8,AO=>
  cond (decide (t8<(List.length t0:Int))) ((gP t0 t8).bind fun y1=>cond (lim (List.length AO+List.length (fH y1))) ((Dw.l10 k n) t0 (IntKind.wrap .i64 (t8+1)) (AO++(fH y1))) none) (some (((),true),AO))
def Dw.l3(k:Nat):Nat→(List ByteArray)→Int→(List Int)→Option ((Unit×Bool)×(List Int))
 |0,_,_,_=>none
 |n+1,t0,t5,AO=>
  cond (decide (t5<(List.length t0:Int))) ((gP t0 t5).bind fun y2=>cond (lim (List.length AO+List.length [(y2.size:Int)])) ((Dw.l3 k n) t0 (IntKind.wrap .i64 (t5+1)) (AO++[(y2.size:Int)])) none) ((Dp k AO).bind fun r3=>cond (!r3.1.2) (some (((),false),[])) (Dw.l10 k k t0 0 r3.2))
def Dw(k:Nat)(t0:List ByteArray):Option ((Unit×Bool)×(List Int)):=
 Dw.l3 k k t0 0 []
def FN.l3(k:Nat):Nat→(List AP)→Int→(List ByteArray)→Option (Unit×(List ByteArray))
 |0,_,_,_=>none
 |n+1,t0,t4,AO=>
  cond (decide (t4<(List.length t0:Int))) ((gP t0 t4).bind fun y1=>cond (lim (List.length AO+List.length [y1.2.1])) ((FN.l3 k n) t0 (IntKind.wrap .i64 (t4+1)) (AO++[y1.2.1])) none) (some ((),AO))
def FN(k:Nat)(t0:List AP):Option (Unit×(List ByteArray)):=
 FN.l3 k k t0 0 []
def Jr(k:Nat)(t0:List AP):Option ((Unit×Bool)×(List Int)):=
 (Ea k 6 t0).bind fun r1=>cond (!r1) (some (((),false),[])) ((FN k t0).bind fun r2=>(Dw k r2.2).bind fun r3=>some (((),r3.1.2),r3.2))
def EW.l2(k:Nat):Nat→ByteArray→ByteArray→Int→Option Int
 |0,_,_,_=>none
 |n+1,t0,t1,t5=>
  (cond (decide (t5<(t0.size:Int))) (some (decide (t5<(t1.size:Int)))) (some false)).bind fun b1=>(cond b1 ((oO t0 t5).bind fun y2=>(oO t1 t5).bind fun y3=>some (y2==y3)) (some false)).bind fun b4=>cond b4 ((EW.l2 k n) t0 t1 (IntKind.wrap .i64 (t5+1))) (some t5)
def EW(k:Nat)(t0:ByteArray)(t1:ByteArray):Option Int:=
 EW.l2 k k t0 t1 0
def Fq.l6(k:Nat):Nat→(List AP)→ByteArray→Int→(List Int)→(List ByteArray)→Option ((Unit×Bool)×(List Int))
 |0,_,_,_,_,_=>none
 |n+1,t0,t6,t7,AO,AZ=>
  cond (decide (t7<(List.length t0:Int))) ((gP t0 t7).bind fun y1=>(EW k t6 y1.2.1).bind fun r2=>cond (lim (List.length AO+List.length [r2])) ((gP t0 t7).bind fun y3=>cond (jM r2 (y3.2.1.size:Int) y3.2.1.size) (cond (lim (List.length AZ+List.length [ByteArray.extract y3.2.1 (Int.toNat r2) (Int.toNat (y3.2.1.size:Int))])) ((gP t0 t7).bind fun y4=>(Fq.l6 k n) t0 y4.2.1 (IntKind.wrap .i64 (t7+1)) (AO++[r2]) (AZ++[ByteArray.extract y3.2.1 (Int.toNat r2) (Int.toNat (y3.2.1.size:Int))])) none) none) none) ((Dp k AO).bind fun r5=>(Dw k AZ).bind fun r6=>(cond (!r5.1.2) (some true) (some (!r6.1.2))).bind fun b7=>cond b7 (some (((),false),[])) (cond (lim (List.length r5.2+List.length r6.2)) (some (((),true),r5.2++r6.2)) none))
def Fq(k:Nat)(t0:List AP):Option ((Unit×Bool)×(List Int)):=
 (Ea k 6 t0).bind fun r8=>cond (!r8) (some (((),false),[])) (Fq.l6 k k t0 Br 0 [] [])
def Dr.l10(k:Nat)(L7:(List AP)→Int→Int→Int→(List Int)→Option ((Unit×Bool)×(List Int))):Nat→(List AP)→Int→Int→Int→Int→(List Int)→Option ((Unit×Bool)×(List Int))
 |0,_,_,_,_,_,_=>none
 |n+1,t1,t6,t7,t9,t10,AO=>
  cond (decide (t10<t6)) ((gP t1 t9).bind fun y1=>cond (decide (0≤(IntKind.wrap .i64 (8*t10)))) ((gP AO (IntKind.wrap .i64 ((IntKind.wrap .i64 (t10*t7))+t9))).bind fun y2=>(gP AO (IntKind.wrap .i64 ((IntKind.wrap .i64 (t10*t7))+t9))).bind fun y3=>(Dr.l10 k L7 n) t1 t6 t7 t9 (IntKind.wrap .i64 (t10+1)) (List.set AO (Int.toNat (IntKind.wrap .i64 ((IntKind.wrap .i64 (t10*t7))+t9))) (IntKind.wrap .u8 (qW .i64 y1.1 (IntKind.wrap .i64 (8*t10)))))) none) (L7 t1 t6 t7 (IntKind.wrap .i64 (t9+1)) AO)
def Dr.l7(k:Nat):Nat→(List AP)→Int→Int→Int→(List Int)→Option ((Unit×Bool)×(List Int))
 |0,_,_,_,_,_=>none
 |n+1,t1,t6,t7,t9,AO=>
  cond (decide (t9<t7)) (Dr.l10 k (Dr.l7 k n) k t1 t6 t7 t9 0 AO) (some (((),true),AO))
def Dr(k:Nat)(t0:Int)(t1:List AP):Option ((Unit×Bool)×(List Int)):=
 (EF k t0).bind fun r4=>(cond (r4==0) (some true) ((Ea k t0 t1).bind fun r5=>some (!r5))).bind fun b6=>cond b6 (some (((),false),[])) (cond (qG (IntKind.wrap .i64 (r4*(List.length t1:Int)))) (Dr.l7 k k t1 r4 (List.length t1:Int) 0 (List.replicate (Int.toNat (IntKind.wrap .i64 (r4*(List.length t1:Int)))) 0)) none)
def EE.l4(k:Nat):Nat→Int→Int→Option Int
 |0,_,_=>none
 |n+1,t0,t3=>
  cond (decide (t0>0)) ((EE.l4 k n) (IntKind.wrap .i64 (Int.tdiv t0 2)) (IntKind.wrap .i64 (t3+1))) (cond (decide (t3>62)) (some (-1)) (some t3))
def EE(k:Nat)(t0:Int):Option Int:=
 cond (decide (t0<0)) (some (-1)) (EE.l4 k k t0 0)
def Fu.l4(k:Nat):Nat→(List Int)→Int→Int→Option ((Unit×Bool)×(List Int))
 |0,_,_,_=>none
 |n+1,t0,t1,t6=>
  cond (decide (t6<(List.length t0:Int))) ((gP t0 t6).bind fun y1=>(DT k y1 0 (IntKind.wrap .i64 (t1-1))).bind fun r2=>cond (!r2) (some (((),false),[])) ((Fu.l4 k n) t0 t1 (IntKind.wrap .i64 (t6+1)))) ((GI k (IntKind.wrap .i64 (t1-1)) 0).bind fun r3=>(EE k r3).bind fun r4=>(Bb k t0 r4).bind fun r5=>cond (!r5.1.2) (some (((),false),[])) (cond (lim (List.length [IntKind.wrap .u8 r4]+List.length r5.2)) (some (((),true),[IntKind.wrap .u8 r4]++r5.2)) none))
def Fu(k:Nat)(t0:List Int)(t1:Int):Option ((Unit×Bool)×(List Int)):=
 (DT k t1 0 2000).bind fun r6=>cond (!r6) (some (((),false),[])) (Fu.l4 k k t0 t1 0)
def Df.Hf(k:Nat)(Hy:(List AP)→(List AP)→Int→(List Int)→Option ((Unit×Bool)×(List Int))):Nat→(List AP)→(List AP)→Int→Int→(List Int)→Option ((Unit×Bool)×(List Int))
 |0,_,_,_,_,_=>none
 |n+1,t2,t3,t13,t14,AO=>
  (cond (decide (t14<(List.length t3:Int))) ((gP t3 t14).bind fun y1=>(gP t2 t13).bind fun y2=>some (!(((y1.1==y2.1)&&(ig y1.2.1 y2.2.1&&true))))) (some false)).bind fun b3=>cond b3 ((Df.Hf k Hy n) t2 t3 t13 (IntKind.wrap .i64 (t14+1)) AO) (cond (t14==(List.length t3:Int)) (some (((),false),[])) (cond (lim (List.length AO+List.length [t14])) (Hy t2 t3 (IntKind.wrap .i64 (t13+1)) (AO++[t14])) none))
def Df.FW(k:Nat):Nat→(List AP)→(List AP)→Int→(List Int)→Option ((Unit×Bool)×(List Int))
 |0,_,_,_,_=>none
 |n+1,t2,t3,t13,AO=>
  cond (decide (t13<(List.length t2:Int))) (Df.Hf k (Df.FW k n) k t2 t3 t13 0 AO) ((Fu k AO (List.length t3:Int)).bind fun r4=>some (((),r4.1.2),r4.2))
def Df(k:Nat)(t0:Int)(t1:Int)(t2:List AP)(t3:List AP):Option ((Unit×Bool)×(List Int)):=
 (Dq k t0 t1).bind fun r5=>(cond (!r5) (some true) ((Ea k t1 t2).bind fun r6=>some (!r6))).bind fun b7=>cond b7 (some (((),false),[])) (cond (t0==0) ((Cs k t1 t2).bind fun r8=>some (((),r8.1.2),r8.2)) (cond (t0==3) ((EX k t2).bind fun r9=>(Bb k r9.2 1).bind fun Cg=>cond (!Cg.1.2) (some (((),false),[])) ((Dy k (List.length Cg.2:Int) 4).bind fun Eh=>cond (lim (List.length Eh.2+List.length Cg.2)) (some (((),true),Eh.2++Cg.2)) none)) (cond (t0==5) ((EX k t2).bind fun CW=>(Dp k CW.2).bind fun Dn=>some (((),Dn.1.2),Dn.2)) (cond (t0==6) ((Jr k t2).bind fun D7=>some (((),D7.1.2),D7.2)) (cond (t0==7) ((Fq k t2).bind fun DL=>some (((),DL.1.2),DL.2)) (cond (t0==9) ((Dr k t1 t2).bind fun r16=>some (((),r16.1.2),r16.2)) (Df.FW k k t2 t3 0 [])))))))
def Ep.l3(k:Nat):Nat→(List Int)→Int→Int→(List AP)→Option (Unit×(List AP))
 |0,_,_,_,_=>none
 |n+1,t7,t8,t9,AO=>
  cond (decide (t9<t8)) ((gP t7 t9).bind fun y1=>cond (lim (List.length AO+List.length ([(y1,Br,())]:List AP))) ((Ep.l3 k n) t7 t8 (IntKind.wrap .i64 (t9+1)) (AO++[(y1,Br,())])) none) (some ((),AO))
def Ep(k:Nat)(t0:List Int):Option (Unit×(List AP)):=
 Ep.l3 k k t0 (List.length t0:Int) 0 []
def I6(k:Nat)(t0:List Int)(t1:Int):Option Int:=
 (cond (decide (t1<0)) (some true) (some (decide ((IntKind.wrap .i64 (Int.tdiv t1 8))≥(List.length t0:Int))))).bind fun b1=>cond b1 (some (-1)) ((gP t0 (IntKind.wrap .i64 (Int.tdiv t1 8))).bind fun y2=>cond (decide (0≤(Int.tmod t1 8))) (some (IntKind.wrap .i64 (bits .and .u8 (qW .u8 y2 (Int.tmod t1 8)) 1))) none)
def CY.l7(k:Nat)(L3:(List Int)→Int→Int→Int→Int→(List Int)→Option (Unit×(List Int))):Nat→(List Int)→Int→Int→Int→Int→Int→Int→Int→Int→(List Int)→Option (Unit×(List Int))
 |0,_,_,_,_,_,_,_,_,_,_=>none
 |n+1,t0,t1,t3,t10,t11,t14,t15,t18,t19,AO=>
  cond (decide (t19<t18)) ((I6 k t0 (IntKind.wrap .i64 ((IntKind.wrap .i64 ((IntKind.wrap .i64 (8*t1))+(IntKind.wrap .i64 (t10*t3))))+t19))).bind fun r1=>cond (decide (0≤t19)) ((CY.l7 k L3 n) t0 t1 t3 t10 (bits .or .i64 t11 (qV .i64 r1 t19)) t14 t15 t18 (IntKind.wrap .i64 (t19+1)) AO) none) (cond (lim (List.length AO+List.length [t11])) (L3 t0 t1 t3 t14 (IntKind.wrap .i64 (t15+1)) (AO++[t11])) none)
def CY.l3(k:Nat):Nat→(List Int)→Int→Int→Int→Int→(List Int)→Option (Unit×(List Int))
 |0,_,_,_,_,_,_=>none
 |n+1,t0,t1,t3,t14,t15,AO=>
  cond (decide (t15<t14)) (CY.l7 k (CY.l3 k n) k t0 t1 t3 t15 0 t14 t15 t3 0 AO) (some ((),AO))
def CY(k:Nat)(t0:List Int)(t1:Int)(t2:Int)(t3:Int):Option (Unit×(List Int)):=
 CY.l3 k k t0 t1 t3 t2 0 []
def G6(k:Nat)(t0:List Int)(t1:Int)(t2:Int)(t3:Int):Option ((Unit×Int×Bool)×(List Int)):=
 (Gx k t2 t3).bind fun r1=>(cond (decide (r1<0)) (some true) ((Ce k t1 0 (List.length t0:Int)).bind fun r2=>some (!r2))).bind fun b3=>(cond b3 (some true) (some (decide (r1>(IntKind.wrap .i64 ((List.length t0:Int)-t1)))))).bind fun b4=>cond b4 (some (((),0,false),[])) ((CY k t0 t1 t2 t3).bind fun r5=>some (((),IntKind.wrap .i64 (t1+r1),true),r5.2))
def DY.l5(k:Nat):Nat→(List Int)→Int→Int→Int→Int→Int→Option (Int×Int×Bool)
 |0,_,_,_,_,_,_=>none
 |n+1,t0,t1,t2,t9,t26,t27=>
  cond (decide (t27<t26)) ((gP t0 (IntKind.wrap .i64 (t1+t27))).bind fun y1=>cond (decide (0≤(IntKind.wrap .i64 (8*t27)))) ((DY.l5 k n) t0 t1 t2 (bits .or .i64 t9 (qV .i64 (IntKind.wrap .i64 y1) (IntKind.wrap .i64 (8*t27)))) t26 (IntKind.wrap .i64 (t27+1))) none) (some (t9,IntKind.wrap .i64 (t1+t2),true))
def DY(k:Nat)(t0:List Int)(t1:Int)(t2:Int):Option (Int×Int×Bool):=
 (Ce k t2 1 8).bind fun r2=>(cond (!r2) (some true) (some (decide (t1<0)))).bind fun b3=>(cond b3 (some true) (some (decide (t1>(IntKind.wrap .i64 ((List.length t0:Int)-t2)))))).bind fun b4=>cond b4 (some (0,0,false)) (DY.l5 k k t0 t1 t2 0 t2 0)
def FE(k:Nat)(t0:Int)(t1:Int):Option Int:=
 cond (t1==4) (some (IntKind.wrap .i64 (IntKind.wrap .i32 t0))) (some t0)
def G9(k:Nat)(t0:Int)(t1:List Int)(t2:Int):Option (AP×Int×Bool):=
 cond (t0 !=6) ((CV k t0).bind fun r1=>(DY k t1 t2 r1).bind fun r2=>(CV k t0).bind fun r3=>(FE k r2.1 r3).bind fun r4=>some ((r4,Br,()),r2.2.1,r2.2.2)) ((DY k t1 t2 4).bind fun r5=>(cond (!r5.2.2) (some true) (some (decide (r5.1>40)))).bind fun b6=>(cond b6 (some true) (some (decide (r5.1>(IntKind.wrap .i64 ((List.length t1:Int)-r5.2.1)))))).bind fun b7=>cond b7 (some ((0,Br,()),0,false)) (cond (jM r5.2.1 (IntKind.wrap .i64 (r5.2.1+r5.1)) (List.length t1)) (some ((0,yM (kP t1 r5.2.1 (IntKind.wrap .i64 (r5.2.1+r5.1))),()),IntKind.wrap .i64 (r5.2.1+r5.1),true)) none))
def DF.l8(k:Nat):Nat→Int→(List Int)→Int→Int→Int→(List AP)→Option ((Unit×Int×Bool)×(List AP))
 |0,_,_,_,_,_,_=>none
 |n+1,t0,t1,t2,t48,t49,AO=>
  cond (decide (t49<t48)) ((G9 k t0 t1 t2).bind fun r1=>cond (!r1.2.2) (some (((),0,false),[])) (cond (lim (List.length AO+List.length [r1.1])) ((DF.l8 k n) t0 t1 r1.2.1 t48 (IntKind.wrap .i64 (t49+1)) (AO++[r1.1])) none)) (some (((),t2,true),AO))
def DF(k:Nat)(t0:Int)(t1:List Int)(t2:Int)(t3:Int):Option ((Unit×Int×Bool)×(List AP)):=
 (G8 k t0).bind fun r2=>(cond (!r2) (some true) ((Ce k t3 0 2000).bind fun r3=>some (!r3))).bind fun b4=>(cond b4 (some true) ((Ce k t2 0 (List.length t1:Int)).bind fun r5=>some (!r5))).bind fun b6=>cond b6 (some (((),0,false),[])) (cond (t0==0) ((G6 k t1 t2 t3 1).bind fun r7=>(Ep k r7.2).bind fun r8=>some (((),r7.1.2.1,r7.1.2.2),r8.2)) (DF.l8 k k t0 t1 t2 t3 0 []))
def Ie(k:Nat)(t0:Int):Option Int:=
 some (bits .xor .i64 (IntKind.wrap .i64 (qW .u64 (IntKind.wrap .u64 t0) 1)) (IntKind.wrap .i64 (0-(bits .and .i64 t0 1))))
def Cx.c12(k:Nat):Option (Int×Int×Bool):=
 some (0,0,false)
def Cx.l5(k:Nat):Nat→(List Int)→Int→Int→Int→Option (Int×Int×Bool)
 |0,_,_,_,_=>none
 |n+1,t0,t1,t7,t8=>
  (cond (decide (t8<10)) (some (decide (t8<(IntKind.wrap .i64 ((List.length t0:Int)-t1))))) (some false)).bind fun b1=>cond b1 ((gP t0 (IntKind.wrap .i64 (t1+t8))).bind fun y2=>(cond (t8==9) (some (decide (y2>1))) (some false)).bind fun b3=>cond b3 (Cx.c12 k) (cond (decide (0≤(IntKind.wrap .i64 (7*t8)))) (cond (decide (y2<128)) (some (IntKind.wrap .i64 (bits .or .u64 t7 (qV .u64 (IntKind.wrap .u64 (bits .and .u8 y2 127)) (IntKind.wrap .i64 (7*t8)))),IntKind.wrap .i64 ((IntKind.wrap .i64 (t1+t8))+1),true)) ((Cx.l5 k n) t0 t1 (bits .or .u64 t7 (qV .u64 (IntKind.wrap .u64 (bits .and .u8 y2 127)) (IntKind.wrap .i64 (7*t8)))) (IntKind.wrap .i64 (t8+1)))) none)) (Cx.c12 k)
def Cx(k:Nat)(t0:List Int)(t1:Int):Option (Int×Int×Bool):=
 cond (decide (t1<0)) (some (0,0,false)) (Cx.l5 k k t0 t1 0 0)
def Gf(k:Nat)(o0:C_)(FI:List Int):Option (Int×C_×(List Int)):=
 (Cx k o0.1 o0.2.1).bind fun r1=>(cond o0.2.2.1 (some true) (some (!r1.2.2))).bind fun b2=>cond b2 (some (0,((o0.1,o0.2.1,true,(),()),FI))) (some (r1.1,((o0.1,r1.2.1,o0.2.2.1,(),()),FI)))
def Ih(k:Nat)(t1:Int)(o0:C_)(FI:List Int):Option (Int×C_×(List Int)):=
 (cond o0.2.2.1 (some true) (some (decide (t1>(IntKind.wrap .i64 ((List.length o0.1:Int)-o0.2.1)))))).bind fun b1=>cond b1 (some (0,((o0.1,o0.2.1,true,(),()),FI))) (some (IntKind.wrap .i64 ((IntKind.wrap .i64 (o0.2.1+t1))-t1),((o0.1,IntKind.wrap .i64 (o0.2.1+t1),o0.2.2.1,(),()),FI)))
def De.d7(k:Nat)(L5:Int→Int→Int→C_→(List Int)→(List Int)→Option (Unit×C_×(List Int)))(t3:Int)(t12:Int)(t38:Int)(t39:Int)(o0:C_)(AO:List Int)(AZ:List Int):Option (Unit×C_×(List Int)):=
 (gP AZ (IntKind.wrap .i64 ((List.length AZ:Int)-1))).bind fun y1=>cond (lim (List.length AZ+List.length [IntKind.wrap .i64 ((IntKind.wrap .i64 (y1+t12))+t3)])) (L5 t3 t38 (IntKind.wrap .i64 (t39+1)) o0 AO (AZ++[IntKind.wrap .i64 ((IntKind.wrap .i64 (y1+t12))+t3)])) none
def De.l5(k:Nat):Nat→Int→Int→Int→C_→(List Int)→(List Int)→Option (Unit×C_×(List Int))
 |0,_,_,_,_,_,_=>none
 |n+1,t3,t38,t39,o0,AO,AZ=>
  cond (decide (t39<t38)) ((gP AO t39).bind fun y4=>De.d7 k (De.l5 k n) t3 y4 t38 t39 o0 AO AZ) (some ((),(o0,AZ)))
def De.c2(k:Nat)(t1:Int)(t2:Int)(t3:Int)(t4:Int)(o0:C_)(FI:List Int):Option (Unit×C_×(List Int)):=
 (Ih k (IntKind.wrap .i64 (Int.tdiv (IntKind.wrap .i64 (t1*t2)) 8)) o0 FI).bind fun r5=>cond r5.2.1.2.2.1 (some ((),(r5.2.1,r5.2.2))) ((CY k r5.2.1.1 r5.1 (if t4<t1 then t4 else t1) t2).bind fun r6=>De.l5 k k t3 (List.length r6.2:Int) 0 r5.2.1 r6.2 r5.2.2)
def De(k:Nat)(t1:Int)(t2:Int)(t3:Int)(t4:Int)(o0:C_)(FI:List Int):Option (Unit×C_×(List Int)):=
 cond (decide (t2>64)) (De.c2 k t1 t2 t3 t4 (o0.1,o0.2.1,true,(),()) FI) (De.c2 k t1 t2 t3 t4 o0 FI)
def B_.d22(k:Nat)(JD:(List Int)→Int→Int→Int→Int→Int→Int→C_→(List Int)→Option ((Unit×Int×Bool)×(List Int)))(t0:List Int)(t9:Int)(t10:Int)(t12:Int)(t13:Int)(t14:Int)(t15:Int)(AO:C_)(AZ:List Int):Option ((Unit×Int×Bool)×(List Int)):=
 (gP t0 (IntKind.wrap .i64 (t14+t15))).bind fun y1=>(De k t12 (IntKind.wrap .i64 y1) t13 (IntKind.wrap .i64 (t10-(List.length AZ:Int))) AO AZ).bind fun r2=>JD t0 t9 t10 t12 t13 t14 (IntKind.wrap .i64 (t15+1)) r2.2.1 r2.2.2
def B_.Cr(k:Nat)(Hw:(List Int)→Int→Int→Int→C_→(List Int)→Option ((Unit×Int×Bool)×(List Int))):Nat→(List Int)→Int→Int→Int→Int→Int→Int→C_→(List Int)→Option ((Unit×Int×Bool)×(List Int))
 |0,_,_,_,_,_,_,_,_,_=>none
 |n+1,t0,t9,t10,t12,t13,t14,t15,AO,AZ=>
  (cond (decide (t15<t9)) (some (decide ((List.length AZ:Int)<t10))) (some false)).bind fun b7=>(cond b7 (some (!AO.2.2.1)) (some false)).bind fun b8=>cond b8 (B_.d22 k (B_.Cr k Hw n) t0 t9 t10 t12 t13 t14 t15 AO AZ) (Hw t0 t9 t10 t12 AO AZ)
def B_.Fj(k:Nat):Nat→(List Int)→Int→Int→Int→C_→(List Int)→Option ((Unit×Int×Bool)×(List Int))
 |0,_,_,_,_,_,_=>none
 |n+1,t0,t9,t10,t12,AO,AZ=>
  (cond (decide ((List.length AZ:Int)<t10)) (some (!AO.2.2.1)) (some false)).bind fun b9=>cond b9 ((Gf k AO AZ).bind fun Cg=>(Ie k Cg.1).bind fun Eh=>(Ih k t9 Cg.2.1 Cg.2.2).bind fun CW=>B_.Cr k (B_.Fj k n) k t0 t9 t10 t12 Eh CW.1 0 CW.2.1 CW.2.2) (cond AO.2.2.1 (some (((),0,false),[])) (some (((),AO.2.1,true),AZ)))
def B_(k:Nat)(t0:List Int)(t1:Int):Option ((Unit×Int×Bool)×(List Int)):=
 (Ce k t1 0 (List.length t0:Int)).bind fun Dn=>cond (!Dn) (some (((),0,false),[])) ((Gf k (t0,t1,false,(),()) []).bind fun D7=>(Gf k D7.2.1 D7.2.2).bind fun DL=>(Gf k DL.2.1 DL.2.2).bind fun r16=>(Gf k r16.2.1 r16.2.2).bind fun Gm=>(Ie k Gm.1).bind fun Xh=>(cond Gm.2.1.2.2.1 (some true) ((Ce k D7.1 128 1024).bind fun Xi=>some (!Xi))).bind fun b20=>(cond b20 (some true) (some ((Int.tmod D7.1 128) !=0))).bind fun M9=>(cond M9 (some true) ((Ce k DL.1 1 D7.1).bind fun Xk=>some (!Xk))).bind fun Na=>(cond Na (some true) ((Ce k r16.1 0 2000).bind fun Xl=>some (!Xl))).bind fun Nb=>cond Nb (some (((),0,false),[])) (cond (decide (DL.1≠0)) ((cond ((Int.tmod D7.1 DL.1) !=0) (some true) (cond (decide (DL.1≠0)) (some ((Int.tmod (IntKind.wrap .i64 (Int.tdiv D7.1 DL.1)) 32) !=0)) none)).bind fun Nc=>cond Nc (some (((),0,false),[])) (cond (r16.1==0) (some (((),Gm.2.1.2.1,true),[])) (cond (decide (DL.1≠0)) (B_.Fj k k t0 DL.1 r16.1 (IntKind.wrap .i64 (Int.tdiv D7.1 DL.1)) Gm.2.1 [Xh]) none))) none))
def EP.l6(k:Nat):Nat→(List Int)→Int→Int→Int→(List AP)→(List Int)→Option ((Unit×Int×Bool)×(List AP))
 |0,_,_,_,_,_,_=>none
 |n+1,t0,t8,t24,t25,AO,AZ=>
  cond (decide (t25<t24)) ((gP AZ t25).bind fun y1=>(Ce k y1 0 40).bind fun r2=>(cond (!r2) (some true) (some (decide (y1>(IntKind.wrap .i64 ((List.length t0:Int)-t8)))))).bind fun b3=>cond b3 (some (((),0,false),[])) (cond (jM t8 (IntKind.wrap .i64 (t8+y1)) (List.length t0)) (cond (lim (List.length AO+List.length [(0,yM (kP t0 t8 (IntKind.wrap .i64 (t8+y1))),())])) ((EP.l6 k n) t0 (IntKind.wrap .i64 (t8+y1)) t24 (IntKind.wrap .i64 (t25+1)) (AO++[(0,yM (kP t0 t8 (IntKind.wrap .i64 (t8+y1))),())]) AZ) none) none)) (some (((),t8,true),AO))
def EP(k:Nat)(t0:List Int)(t1:Int):Option ((Unit×Int×Bool)×(List AP)):=
 (B_ k t0 t1).bind fun r4=>cond (!r4.1.2.2) (some (((),0,false),[])) (EP.l6 k k t0 r4.1.2.1 (List.length r4.2:Int) 0 [] r4.2)
def EO.l10(k:Nat):Nat→Int→ByteArray→Int→Int→(List AP)→(List AP)→(List Int)→Option ((Unit×Int×Bool)×(List AP))
 |0,_,_,_,_,_,_,_=>none
 |n+1,t11,t13,t43,t44,AO,AZ,Dx=>
  cond (decide (t44<t43)) ((gP Dx t44).bind fun y1=>(Ce k y1 0 (t13.size:Int)).bind fun r2=>(cond (!r2) (some true) ((gP AO t44).bind fun y3=>some (decide ((IntKind.wrap .i64 (y1+(y3.2.1.size:Int)))>40)))).bind fun b4=>cond b4 (some (((),0,false),[])) (cond (jM 0 y1 t13.size) ((gP AO t44).bind fun y5=>cond (lim ((ByteArray.extract t13 (Int.toNat 0) (Int.toNat y1)).size+y5.2.1.size)) (cond (lim (List.length AZ+List.length [(0,(ByteArray.extract t13 (Int.toNat 0) (Int.toNat y1))++y5.2.1,())])) ((EO.l10 k n) t11 ((ByteArray.extract t13 (Int.toNat 0) (Int.toNat y1))++y5.2.1) t43 (IntKind.wrap .i64 (t44+1)) AO (AZ++[(0,(ByteArray.extract t13 (Int.toNat 0) (Int.toNat y1))++y5.2.1,())]) Dx) none) none) none)) (some (((),t11,true),AZ))
def EO(k:Nat)(t0:List Int)(t1:Int):Option ((Unit×Int×Bool)×(List AP)):=
 (B_ k t0 t1).bind fun r6=>cond (!r6.1.2.2) (some (((),0,false),[])) ((EP k t0 r6.1.2.1).bind fun r7=>(cond (!r7.1.2.2) (some true) (some ((List.length r7.2:Int) !=(List.length r6.2:Int)))).bind fun b8=>cond b8 (some (((),0,false),[])) (EO.l10 k k r7.1.2.1 Br (List.length r6.2:Int) 0 r7.2 [] r6.2))
def Dl.l10(k:Nat)(L6:(List Int)→Int→Int→Int→Int→Int→(List AP)→Option ((Unit×Int×Bool)×(List AP))):Nat→(List Int)→Int→Int→Int→Int→Int→Int→Int→Int→Int→(List AP)→Option ((Unit×Int×Bool)×(List AP))
 |0,_,_,_,_,_,_,_,_,_,_,_=>none
 |n+1,t1,t2,t3,t11,t13,t14,t43,t44,t47,t48,AO=>
  cond (decide (t48<t47)) ((gP t1 (IntKind.wrap .i64 ((IntKind.wrap .i64 (t2+(IntKind.wrap .i64 (t48*t3))))+t13))).bind fun y1=>cond (decide (0≤(IntKind.wrap .i64 (8*t48)))) ((Dl.l10 k L6 n) t1 t2 t3 t11 t13 (bits .or .i64 t14 (qV .i64 (IntKind.wrap .i64 y1) (IntKind.wrap .i64 (8*t48)))) t43 t44 t47 (IntKind.wrap .i64 (t48+1)) AO) none) ((FE k t14 t11).bind fun r2=>cond (lim (List.length AO+List.length ([(r2,Br,())]:List AP))) (L6 t1 t2 t3 t11 t43 (IntKind.wrap .i64 (t44+1)) (AO++[(r2,Br,())])) none)
def Dl.l6(k:Nat):Nat→(List Int)→Int→Int→Int→Int→Int→(List AP)→Option ((Unit×Int×Bool)×(List AP))
 |0,_,_,_,_,_,_,_=>none
 |n+1,t1,t2,t3,t11,t43,t44,AO=>
  cond (decide (t44<t43)) (Dl.l10 k (Dl.l6 k n) k t1 t2 t3 t11 t44 0 t43 t44 t11 0 AO) (some (((),IntKind.wrap .i64 (t2+(IntKind.wrap .i64 (t3*t11))),true),AO))
def Dl(k:Nat)(t0:Int)(t1:List Int)(t2:Int)(t3:Int):Option ((Unit×Int×Bool)×(List AP)):=
 (G7 k t0).bind fun r3=>(cond (r3==0) (some true) ((Ce k t3 0 2000).bind fun r4=>some (!r4))).bind fun b5=>(cond b5 (some true) ((Ce k t2 0 (List.length t1:Int)).bind fun r6=>some (!r6))).bind fun b7=>(cond b7 (some true) (some (decide ((IntKind.wrap .i64 (t3*r3))>(IntKind.wrap .i64 ((List.length t1:Int)-t2)))))).bind fun b8=>cond b8 (some (((),0,false),[])) (Dl.l6 k k t1 t2 t3 r3 t3 0 [])
def G_(k:Nat)(t0:List Int)(t1:Int)(t2:Int):Option (Int×Int×Bool):=
 cond (t2==0) (some (0,t1,true)) ((Gx k 1 t2).bind fun r1=>(DY k t0 t1 r1).bind fun r2=>(cond (!r2.2.2) (some true) ((D5 k r2.1).bind fun r3=>some (decide (r3>t2)))).bind fun b4=>cond b4 (some (0,0,false)) (some (r2.1,r2.2.1,true)))
def Cb.He(k:Nat)(L4:(List Int)→Int→Int→Int→(List Int)→Option ((Unit×Int×Bool)×(List Int))):Nat→(List Int)→Int→Int→Int→Int→Int→Int→(List Int)→Option ((Unit×Int×Bool)×(List Int))
 |0,_,_,_,_,_,_,_,_=>none
 |n+1,t0,t2,t3,t17,t18,t72,t73,AO=>
  cond (decide (t73<t72)) (cond (lim (List.length AO+List.length [t17])) ((Cb.He k L4 n) t0 t2 t3 t17 t18 t72 (IntKind.wrap .i64 (t73+1)) (AO++[t17])) none) (L4 t0 t18 t2 t3 AO)
def Cb.l4(k:Nat):Nat→(List Int)→Int→Int→Int→(List Int)→Option ((Unit×Int×Bool)×(List Int))
 |0,_,_,_,_,_=>none
 |n+1,t0,t1,t2,t3,AO=>
  cond (decide ((List.length AO:Int)<t2)) ((Cx k t0 t1).bind fun r1=>cond (!r1.2.2) (some (((),0,false),[])) (cond ((bits .and .i64 r1.1 1)==0) ((G_ k t0 r1.2.1 t3).bind fun r2=>cond (!r2.2.2) (some (((),0,false),[])) (Cb.He k (Cb.l4 k n) k t0 t2 t3 r2.1 r2.2.1 (if(IntKind.wrap .i64 (t2-(List.length AO:Int)))<(IntKind.wrap .i64 (qW .u64 (IntKind.wrap .u64 r1.1) 1)) then(IntKind.wrap .i64 (t2-(List.length AO:Int))) else(IntKind.wrap .i64 (qW .u64 (IntKind.wrap .u64 r1.1) 1))) 0 AO)) ((cond (decide ((IntKind.wrap .i64 (qW .u64 (IntKind.wrap .u64 r1.1) 1))>2000)) (some true) (some (decide ((IntKind.wrap .i64 ((IntKind.wrap .i64 (qW .u64 (IntKind.wrap .u64 r1.1) 1))*t3))>(IntKind.wrap .i64 ((List.length t0:Int)-r1.2.1)))))).bind fun b3=>cond b3 (some (((),0,false),[])) ((CY k t0 r1.2.1 (if(IntKind.wrap .i64 (t2-(List.length AO:Int)))<(IntKind.wrap .i64 (8*(IntKind.wrap .i64 (qW .u64 (IntKind.wrap .u64 r1.1) 1)))) then(IntKind.wrap .i64 (t2-(List.length AO:Int))) else(IntKind.wrap .i64 (8*(IntKind.wrap .i64 (qW .u64 (IntKind.wrap .u64 r1.1) 1))))) t3).bind fun r4=>cond (lim (List.length AO+List.length r4.2)) ((Cb.l4 k n) t0 (IntKind.wrap .i64 (r1.2.1+(IntKind.wrap .i64 ((IntKind.wrap .i64 (qW .u64 (IntKind.wrap .u64 r1.1) 1))*t3)))) t2 t3 (AO++r4.2)) none)))) (some (((),t1,true),AO))
def Cb(k:Nat)(t0:List Int)(t1:Int)(t2:Int)(t3:Int):Option ((Unit×Int×Bool)×(List Int)):=
 (Ce k t3 0 24).bind fun r5=>(cond (!r5) (some true) ((Ce k t2 0 2000).bind fun r6=>some (!r6))).bind fun b7=>(cond b7 (some true) ((Ce k t1 0 (List.length t0:Int)).bind fun r8=>some (!r8))).bind fun b9=>cond b9 (some (((),0,false),[])) (Cb.l4 k k t0 t1 t2 t3 [])
def Fh.l7(k:Nat):Nat→Int→Int→Int→Int→(List Int)→Option ((Unit×Int×Bool)×(List Int))
 |0,_,_,_,_,_=>none
 |n+1,t3,t12,t39,t40,AO=>
  cond (decide (t40<t39)) ((gP AO t40).bind fun y1=>cond (decide (y1≥t3)) (some (((),0,false),[])) ((Fh.l7 k n) t3 t12 t39 (IntKind.wrap .i64 (t40+1)) AO)) (some (((),t12,true),AO))
def Fh(k:Nat)(t0:List Int)(t1:Int)(t2:Int)(t3:Int):Option ((Unit×Int×Bool)×(List Int)):=
 (Ce k t1 0 (IntKind.wrap .i64 ((List.length t0:Int)-1))).bind fun r2=>cond (!r2) (some (((),0,false),[])) ((gP t0 t1).bind fun y3=>(Cb k t0 (IntKind.wrap .i64 (t1+1)) t2 (IntKind.wrap .i64 y3)).bind fun r4=>cond (!r4.1.2.2) (some (((),0,false),[])) (Fh.l7 k k t3 r4.1.2.1 (List.length r4.2:Int) 0 r4.2))
def Fe.l5(k:Nat):Nat→(List AP)→(List Int)→Int→Int→(List AP)→Option ((Unit×Bool)×(List AP))
 |0,_,_,_,_,_=>none
 |n+1,t0,t13,t14,t15,AO=>
  cond (decide (t15<t14)) ((gP t13 t15).bind fun y1=>(Ce k y1 0 (IntKind.wrap .i64 ((List.length t0:Int)-1))).bind fun r2=>cond (!r2) (some (((),false),[])) ((gP t0 y1).bind fun y3=>cond (lim (List.length AO+List.length [y3])) ((Fe.l5 k n) t0 t13 t14 (IntKind.wrap .i64 (t15+1)) (AO++[y3])) none)) (some (((),true),AO))
def Fe(k:Nat)(t0:List AP)(t1:List Int):Option ((Unit×Bool)×(List AP)):=
 cond (decide ((List.length t1:Int)>2000)) (some (((),false),[])) (Fe.l5 k k t0 t1 (List.length t1:Int) 0 [])
def Ii(k:Nat)(t0:Int)(t1:Int)(t2:List Int)(t3:Int)(t4:List AP):Option ((Unit×Int×Bool)×(List AP)):=
 cond (t0==0) ((DF k t1 t2 0 t3).bind fun r1=>some (((),r1.1.2.1,r1.1.2.2),r1.2)) (cond (t0==5) ((B_ k t2 0).bind fun r2=>(Ep k r2.2).bind fun r3=>some (((),r2.1.2.1,r2.1.2.2),r3.2)) (cond (t0==6) ((EP k t2 0).bind fun r4=>some (((),r4.1.2.1,r4.1.2.2),r4.2)) (cond (t0==7) ((EO k t2 0).bind fun r5=>some (((),r5.1.2.1,r5.1.2.2),r5.2)) (cond (t0==9) ((Dl k t1 t2 0 t3).bind fun r6=>some (((),r6.1.2.1,r6.1.2.2),r6.2)) (cond (t0==8) ((Fh k t2 0 t3 (List.length t4:Int)).bind fun r7=>(Fe k t4 r7.2).bind fun r8=>(cond r7.1.2.2 (some (r8.1.2)) (some false)).bind fun b9=>some (((),r7.1.2.1,b9),r8.2)) ((DY k t2 0 4).bind fun Cg=>(cond (!Cg.2.2) (some true) (some (Cg.1 !=(IntKind.wrap .i64 ((List.length t2:Int)-Cg.2.1))))).bind fun b11=>cond b11 (some (((),0,false),[])) ((Cb k t2 Cg.2.1 t3 1).bind fun CW=>(Ep k CW.2).bind fun Dn=>some (((),CW.1.2.1,CW.1.2.2),Dn.2))))))))
def Gy(k:Nat)(t0:Int)(t1:Int)(t2:List Int)(t3:Int)(t4:List AP):Option ((Unit×Bool)×(List AP)):=
 (DD k t0 t1).bind fun r1=>(cond (!r1) (some true) ((Ce k t3 0 2000).bind fun r2=>some (!r2))).bind fun b3=>cond b3 (some (((),false),[])) ((cond (t0==8) (some (t3==0)) (some false)).bind fun b4=>(cond b4 (some ((List.length t2:Int)==0)) (some false)).bind fun b5=>cond b5 (some (((),true),[])) ((Ii k t0 t1 t2 t3 t4).bind fun r6=>(cond (!r6.1.2.2) (some true) (some (r6.1.2.1 !=(List.length t2:Int)))).bind fun b7=>(cond b7 (some true) (some ((List.length r6.2:Int) !=t3))).bind fun b8=>(cond b8 (some true) ((DZ k t1 r6.2).bind fun r9=>some (!r9))).bind fun b10=>cond b10 (some (((),false),[])) (some (((),true),r6.2))))
def Fp.l4(k:Nat):Nat→(List AP)→(List AP)→Int→Option Bool
 |0,_,_,_=>none
 |n+1,t0,t1,t5=>
  cond (decide (t5<(List.length t0:Int))) ((gP t0 t5).bind fun y1=>(gP t1 t5).bind fun y2=>cond (!(((y1.1==y2.1)&&(ig y1.2.1 y2.2.1&&true)))) (some false) ((Fp.l4 k n) t0 t1 (IntKind.wrap .i64 (t5+1)))) (some true)
def Fp(k:Nat)(t0:List AP)(t1:List AP):Option Bool:=
 cond ((List.length t0:Int) !=(List.length t1:Int)) (some false) (Fp.l4 k k t0 t1 0)
def J7(k:Nat)(t0:List Int):Option Bool:=
 (J8 k t0).bind fun r1=>cond r1 (some true) ((Jq k t0).bind fun r2=>(I7 k r2.1.1 r2.1.2.1 r2.2 r2.1.2.2.2).bind fun r3=>(Df k r2.1.1 r2.1.2.1 r2.2 r2.1.2.2.2).bind fun r4=>cond (!(r3.1.2==r4.1.2)) (some false) (cond (!r3.1.2) (some ((List.length r3.2:Int)==0)) ((Gy k r2.1.1 r2.1.2.1 r3.2 (List.length r2.2:Int) r2.1.2.2.2).bind fun r5=>cond (lim ((0:Nat)+List.length r3.2)) (cond (lim (List.length ([]++r3.2:List Int)+List.length [0])) ((Gy k r2.1.1 r2.1.2.1 (([]++r3.2)++[0]) (List.length r2.2:Int) r2.1.2.2.2).bind fun r6=>(cond r5.1.2 ((Fp k r5.2 r2.2).bind fun r7=>some (r7)) (some false)).bind fun b8=>(cond b8 (some (!r6.1.2)) (some false)).bind fun b9=>(cond b9 ((DD k r2.1.1 r2.1.2.1).bind fun Cg=>some (Cg)) (some false)).bind fun b11=>some b11) none) none)))
end Go.Fn
