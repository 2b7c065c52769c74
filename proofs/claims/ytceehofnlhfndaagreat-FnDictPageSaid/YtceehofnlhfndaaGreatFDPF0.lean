/- the claim's functions as plain Lean -/
import Derived.Test.YtceehofnlhfndaaGreatAmStep
namespace Go
abbrev A7:ByteArray:=⟨#[]⟩
end Go
set_option linter.unusedVariables false
namespace Go.Fn
open Go.Am
abbrev ac5:=Unit×Bool×Unit
abbrev Bu:=Int×Int×Int×Unit
abbrev AV:=Int×ByteArray×Unit
abbrev DC:=Unit×Int×Bool×Unit
abbrev B_:=(List Int)×Int×Int×Unit
abbrev BB:=ByteArray×Int×Int×Int×Unit
abbrev A_:=(List Int)×Int×Unit×Int×Unit
abbrev Ec:=(List Int)×Int×Bool×Unit×Unit
abbrev AR:=Int×Int×Int×ByteArray×Int×Unit
abbrev BL:=Int×Int×AV×Unit
abbrev ac3:=(List Int)×Int×Bool×(List Int)×Unit
abbrev Q9:=Int×Int×Int×Int×Int×(List Int)×Unit
abbrev Bc:=(List AR)×Unit×Unit
abbrev Q_:=Int×(List Q9)×Unit
abbrev ac6:=(List AR)×(List Int)×Unit
abbrev D5:=Int×Bool×AV×AV×Unit
abbrev ac7:=(List Int)×Int×(List AR)×Int×Unit
abbrev ac4:=(List BB)×Int×(List Q_)×Unit
abbrev Bf:=Int×Int×Int×Int×Int×Int×Int×Int×Bool×Int×Bool×D5×Int×Unit
def NH(k:Nat)(t0:List Int):Option Bool:=
 some (decide ((List.length t0:Int)>1048576))
def GX.l4(k:Nat):Nat→(List AV)→(List AV)→Int→Option Bool
 |0,_,_,_=>none
 |n+1,t0,t1,t5=>
  cond (decide (t5<(List.length t0:Int))) ((gP t0 t5).bind fun y1=>(gP t1 t5).bind fun y2=>cond (!(((y1.1==y2.1)&&(ig y1.2.1 y2.2.1&&true)))) (some false) ((GX.l4 k n) t0 t1 (IntKind.wrap .i64 (t5+1)))) (some true)
def GX(k:Nat)(t0:List AV)(t1:List AV):Option Bool:=
 cond ((List.length t0:Int) !=(List.length t1:Int)) (some false) (GX.l4 k k t0 t1 0)
def Gy.l3(k:Nat):Nat→(List Int)→Int→Int→Option (Unit×B_)
 |0,_,_,_=>none
 |n+1,t0,t3,t4=>
  (cond (decide (t4<(List.length t0:Int))) (some (decide (t4<4000))) (some false)).bind fun b1=>cond b1 ((gP t0 t4).bind fun y2=>(Gy.l3 k n) t0 (bits .and .i64 (IntKind.wrap .i64 ((IntKind.wrap .i64 ((IntKind.wrap .i64 (t3*131))+(IntKind.wrap .i64 y2)))+7)) 1073741823) (IntKind.wrap .i64 (t4+1))) (some ((),(t0,0,t3,())))
def Gy(k:Nat)(t0:List Int):Option (Unit×B_):=
 Gy.l3 k k t0 (IntKind.wrap .i64 (11443+(List.length t0:Int))) 0
def FW.c6(k:Nat)(t3:Int)(o0:B_):Option (Int×B_):=
 some (t3,o0)
def FW(k:Nat)(o0:B_):Option (Int×B_):=
 cond (decide (o0.2.1<(List.length o0.1:Int))) ((gP o0.1 o0.2.1).bind fun y1=>FW.c6 k (bits .and .i64 (IntKind.wrap .i64 ((bits .and .i64 (bits .xor .i64 (qW .i64 (IntKind.wrap .i64 ((IntKind.wrap .i64 (o0.2.2.1*6364136223846793005))+1442695040888963407)) 33) (qW .i64 (IntKind.wrap .i64 ((IntKind.wrap .i64 (o0.2.2.1*6364136223846793005))+1442695040888963407)) 45)) 255)+(IntKind.wrap .i64 y1))) 255) (o0.1,IntKind.wrap .i64 (o0.2.1+1),IntKind.wrap .i64 ((IntKind.wrap .i64 (o0.2.2.1*6364136223846793005))+1442695040888963407),())) (FW.c6 k (bits .and .i64 (bits .xor .i64 (qW .i64 (IntKind.wrap .i64 ((IntKind.wrap .i64 (o0.2.2.1*6364136223846793005))+1442695040888963407)) 33) (qW .i64 (IntKind.wrap .i64 ((IntKind.wrap .i64 (o0.2.2.1*6364136223846793005))+1442695040888963407)) 45)) 255) (o0.1,o0.2.1,IntKind.wrap .i64 ((IntKind.wrap .i64 (o0.2.2.1*6364136223846793005))+1442695040888963407),()))
def Ez(k:Nat)(t1:Int)(o0:B_):Option (Int×B_):=
 cond (decide (t1≤0)) (some (0,o0)) (cond (decide (t1≤256)) ((FW k o0).bind fun r1=>cond (decide (t1≠0)) (some (Int.tmod r1.1 t1,r1.2)) none) ((FW k o0).bind fun r2=>(FW k r2.2).bind fun r3=>(FW k r3.2).bind fun r4=>(FW k r4.2).bind fun r5=>cond (decide (t1≠0)) (some (Int.tmod (IntKind.wrap .i64 ((IntKind.wrap .i64 ((IntKind.wrap .i64 ((IntKind.wrap .i64 (r2.1*16777216))+(IntKind.wrap .i64 (r3.1*65536))))+(IntKind.wrap .i64 (r4.1*256))))+r5.1)) t1,r5.2)) none))
def HV(k:Nat)(t1:Int)(o0:B_):Option (Bool×B_):=
 (Ez k t1 o0).bind fun r1=>some (r1.1==0,r1.2)
def Ik(k:Nat)(t1:List Int)(o0:B_):Option (Int×B_):=
 (Ez k (List.length t1:Int) o0).bind fun r1=>(gP t1 r1.1).bind fun y2=>some (y2,r1.2)
def MO(k:Nat)(o0:B_):Option (Int×B_):=
 (HV k 25 o0).bind fun r1=>cond r1.1 ((Ik k [3,4,7,(-1)] r1.2).bind fun r2=>some (r2.1,r2.2)) ((Ik k [0,1,2,5,6] r1.2).bind fun r3=>some (r3.1,r3.2))
def MM(k:Nat)(t1:List ByteArray)(o0:B_):Option (ByteArray×B_):=
 (Ez k (List.length t1:Int) o0).bind fun r1=>(gP t1 r1.1).bind fun y2=>some (y2,r1.2)
def Gx.l4(k:Nat):Nat→Int→Int→B_→(List Int)→Option (Unit×B_×(List Int))
 |0,_,_,_,_=>none
 |n+1,t6,t7,o0,AO=>
  cond (decide (t7<t6)) ((FW k o0).bind fun r1=>cond (lim (List.length AO+List.length [IntKind.wrap .u8 r1.1])) ((Gx.l4 k n) t6 (IntKind.wrap .i64 (t7+1)) r1.2 (AO++[IntKind.wrap .u8 r1.1])) none) (some ((),(o0,AO)))
def Gx(k:Nat)(t1:Int)(o0:B_):Option (Unit×B_×(List Int)):=
 (Ez k (IntKind.wrap .i64 (t1+1)) o0).bind fun r2=>Gx.l4 k k r2.1 0 r2.2 []
def Ll(k:Nat)(t1:Int)(o0:B_):Option (ByteArray×B_):=
 (Gx k t1 o0).bind fun r1=>some (yM r1.2.2,r1.2.1)
def Lj(k:Nat)(o0:B_):Option (Int×B_):=
 (Ez k 1000000 o0).bind fun r1=>(Ez k 1000000 r1.2).bind fun r2=>(Ez k 300 r2.2).bind fun r3=>(Ik k [0,1,(-1),63,64,(-64),(-65),127,128,16383,16384,2147483647,(-2147483648),9223372036854775807,(-9223372036854775808),4611686018427387904,r1.1,IntKind.wrap .i64 (0-r2.1),r3.1] r3.2).bind fun r4=>some (r4.1,r4.2)
def Kl(k:Nat)(t1:Int)(o0:B_):Option ((AV)×B_):=
 cond (t1==0) ((Ez k 2 o0).bind fun r1=>some ((r1.1,A7,()),r1.2)) (cond (t1==1) ((HV k 6 o0).bind fun r2=>cond r2.1 ((Ik k [2147483647,(-2147483648),0] r2.2).bind fun r3=>some ((r3.1,A7,()),r3.2)) ((Ez k 40 r2.2).bind fun r4=>some ((IntKind.wrap .i64 (r4.1-12),A7,()),r4.2))) (cond (t1==6) ((HV k 3 o0).bind fun r5=>cond r5.1 ((MM k [A7,(⟨#[97]⟩:ByteArray),(⟨#[97,98]⟩:ByteArray),(⟨#[97,98,99]⟩:ByteArray),(⟨#[97,98,100]⟩:ByteArray),(⟨#[98]⟩:ByteArray),(⟨#[97,97]⟩:ByteArray)] r5.2).bind fun r6=>some ((0,r6.1,()),r6.2)) ((Ll k 6 r5.2).bind fun r7=>some ((0,r7.1,()),r7.2))) (cond (t1==5) ((Ez k 9 o0).bind fun r8=>(Lj k r8.2).bind fun r9=>(Ik k [0,(-9223372036854775808),4607182418800017408,(-4616189618054758400),9221120237041090560,(-2251799813685248),r8.1,r9.1] r9.2).bind fun BP=>some ((BP.1,A7,()),BP.2)) ((HV k 2 o0).bind fun CF=>cond CF.1 ((Ez k 30 CF.2).bind fun BC=>some ((IntKind.wrap .i64 (BC.1-9),A7,()),BC.2)) ((Lj k CF.2).bind fun Cs=>some ((Cs.1,A7,()),Cs.2))))))
def HY.c7(k:Nat)(o0:B_)(AO:AV)(AX:AV):Option ((AV)×B_):=
 some (AX,o0)
def HY(k:Nat)(t1:Int)(o0:B_):Option ((AV)×B_):=
 (Kl k t1 o0).bind fun r1=>(Ez k 25 r1.2).bind fun r2=>cond (r2.1==0) ((Ik k [2,(-1),2147483648,(-2147483649)] r2.2).bind fun r3=>HY.c7 k r3.2 (0,A7,()) (r3.1,r1.1.2.1,())) (cond (r2.1==1) ((Ez k 2 r2.2).bind fun r4=>cond (qG (IntKind.wrap .i64 (40+r4.1))) (HY.c7 k r4.2 (0,A7,()) (r1.1.1,yM (List.replicate (Int.toNat (IntKind.wrap .i64 (40+r4.1))) 0),())) none) (HY.c7 k r2.2 (0,A7,()) r1.1))
def Dn.c11(k:Nat)(o0:B_)(AO:List AV):Option (Unit×B_×(List AV)):=
 some ((),(o0,AO))
def Dn.c5(k:Nat)(L4:Int→Int→Int→B_→(List AV)→Option (Unit×B_×(List AV)))(t1:Int)(t8:Int)(t9:Int)(o0:B_)(AO:List AV):Option (Unit×B_×(List AV)):=
 L4 t1 t8 (IntKind.wrap .i64 (t9+1)) o0 AO
def Dn.l4(k:Nat):Nat→Int→Int→Int→B_→(List AV)→Option (Unit×B_×(List AV))
 |0,_,_,_,_,_=>none
 |n+1,t1,t8,t9,o0,AO=>
  cond (decide (t9<t8)) (cond (decide (t9>0)) ((HV k 3 o0).bind fun r1=>cond r1.1 ((Ez k t9 r1.2).bind fun r2=>(gP AO r2.1).bind fun y3=>cond (lim (List.length AO+List.length [y3])) (Dn.c5 k (Dn.l4 k n) t1 t8 t9 r2.2 (AO++[y3])) none) ((Kl k t1 r1.2).bind fun r4=>cond (lim (List.length AO+List.length [r4.1])) (Dn.c5 k (Dn.l4 k n) t1 t8 t9 r4.2 (AO++[r4.1])) none)) (cond false ((Ez k t9 o0).bind fun r5=>(gP AO r5.1).bind fun y6=>cond (lim (List.length AO+List.length [y6])) (Dn.c5 k (Dn.l4 k n) t1 t8 t9 r5.2 (AO++[y6])) none) ((Kl k t1 o0).bind fun r7=>cond (lim (List.length AO+List.length [r7.1])) (Dn.c5 k (Dn.l4 k n) t1 t8 t9 r7.2 (AO++[r7.1])) none))) ((HV k 20 o0).bind fun r8=>cond r8.1 ((HY k t1 r8.2).bind fun r9=>cond (lim (List.length AO+List.length [r9.1])) (Dn.c11 k r9.2 (AO++[r9.1])) none) (Dn.c11 k r8.2 AO))
def Dn(k:Nat)(t1:Int)(t2:Int)(o0:B_):Option (Unit×B_×(List AV)):=
 (Ez k (IntKind.wrap .i64 (t2+1)) o0).bind fun BP=>Dn.l4 k k t1 BP.1 0 BP.2 []
def MG(k:Nat)(t0:List Int):Option ((Int×Unit×Bool)×(List AV)):=
 (Gy k t0).bind fun r1=>(MO k r1.2).bind fun r2=>(Dn k r2.1 6 r2.2).bind fun r3=>(HV k 2 r3.2.1).bind fun r4=>some ((r2.1,(),r4.1),r3.2.2)
def Cq(k:Nat)(t0:Int)(t1:Int)(t2:Int):Option Bool:=
 (cond (decide (t0≥t1)) (some (decide (t0≤t2))) (some false)).bind fun b1=>some b1
def Iy(k:Nat)(t0:Int):Option Bool:=
 (Cq k t0 0 2).bind fun r1=>(cond r1 (some true) (some (t0==5))).bind fun b2=>(cond b2 (some true) (some (t0==6))).bind fun b3=>some b3
def GR(k:Nat)(t0:Int):Option Bool:=
 (Cq k t0 (-2147483648) 2147483647).bind fun r1=>some r1
def FK.c8(k:Nat)(t0:Int)(t26:Bool)(AO:AV):Option Bool:=
 cond t26 (some (ig AO.2.1 A7)) ((cond (t0==6) (some (AO.1==0)) (some false)).bind fun b1=>(cond b1 (some (decide ((AO.2.1.size:Int)≤40))) (some false)).bind fun b2=>some b2)
def FK(k:Nat)(t0:Int)(t1:AV):Option Bool:=
 cond (t0==0) ((Cq k t1.1 0 1).bind fun r3=>(cond r3 (some (ig t1.2.1 A7)) (some false)).bind fun b4=>some b4) (cond (t0==1) ((GR k t1.1).bind fun r5=>(cond r5 (some (ig t1.2.1 A7)) (some false)).bind fun b6=>some b6) (cond (t0==2) (FK.c8 k t0 (t0==2) t1) (FK.c8 k t0 (t0==5) t1)))
def Gr.l2(k:Nat):Nat→Int→(List AV)→(List AV)→Int→Int→Option Bool
 |0,_,_,_,_,_=>none
 |n+1,t0,t1,t7,t8,t9=>
  cond (decide (t9<t8)) ((gP t7 t9).bind fun y1=>(FK k t0 y1).bind fun r2=>cond (!r2) (some false) ((Gr.l2 k n) t0 t1 t7 t8 (IntKind.wrap .i64 (t9+1)))) ((cond (decide ((List.length t1:Int)≤2000)) ((Iy k t0).bind fun r3=>some (r3)) (some false)).bind fun b4=>some b4)
def Gr(k:Nat)(t0:Int)(t1:List AV):Option Bool:=
 Gr.l2 k k t0 t1 t1 (List.length t1:Int) 0
def Hl.l3(k:Nat):Nat→(List AV)→Int→Int→(List Int)→Option (Unit×(List Int))
 |0,_,_,_,_=>none
 |n+1,t7,t8,t9,AO=>
  cond (decide (t9<t8)) ((gP t7 t9).bind fun y1=>cond (lim (List.length AO+List.length [y1.1])) ((Hl.l3 k n) t7 t8 (IntKind.wrap .i64 (t9+1)) (AO++[y1.1])) none) (some ((),AO))
def Hl(k:Nat)(t0:List AV):Option (Unit×(List Int)):=
 Hl.l3 k k t0 (List.length t0:Int) 0 []
def FL.l5(k:Nat):Nat→Int→Int→Int→(List Int)→Option (Unit×(List Int))
 |0,_,_,_,_=>none
 |n+1,t0,t11,t12,AO=>
  cond (decide (t12<t11)) (cond (decide (0≤(IntKind.wrap .i64 (8*t12)))) (cond (lim (List.length AO+List.length [IntKind.wrap .u8 (qW .i64 t0 (IntKind.wrap .i64 (8*t12)))])) ((FL.l5 k n) t0 t11 (IntKind.wrap .i64 (t12+1)) (AO++[IntKind.wrap .u8 (qW .i64 t0 (IntKind.wrap .i64 (8*t12)))])) none) none) (some ((),AO))
def FL(k:Nat)(t0:Int)(t1:Int):Option (Unit×(List Int)):=
 (Cq k t1 1 8).bind fun r1=>cond (!r1) (some ((),[])) (FL.l5 k k t0 t1 0 [])
def Ed.c6(k:Nat)(t6:Bool):Option Int:=
 cond t6 (some 8) (some 0)
def Ed(k:Nat)(t0:Int):Option Int:=
 cond (t0==1) (some 4) (cond (t0==2) (Ed.c6 k (t0==2)) (Ed.c6 k (t0==5)))
def Ep.l6(k:Nat)(L3:Int→(List Int)→Int→Int→(List Int)→Option (Unit×(List Int))):Nat→Int→Int→Int→(List Int)→Int→Int→Int→Int→(List Int)→Option (Unit×(List Int))
 |0,_,_,_,_,_,_,_,_,_=>none
 |n+1,t1,t6,t7,t17,t18,t19,t24,t25,AO=>
  cond (decide (t25<t24)) ((gP AO (IntKind.wrap .i64 (Int.tdiv (IntKind.wrap .i64 ((IntKind.wrap .i64 (t6*t1))+t25)) 8))).bind fun y1=>cond (decide (0≤t25)) (cond (decide (0≤(Int.tmod (IntKind.wrap .i64 ((IntKind.wrap .i64 (t6*t1))+t25)) 8))) ((gP AO (IntKind.wrap .i64 (Int.tdiv (IntKind.wrap .i64 ((IntKind.wrap .i64 (t6*t1))+t25)) 8))).bind fun y2=>(gP AO (IntKind.wrap .i64 (Int.tdiv (IntKind.wrap .i64 ((IntKind.wrap .i64 (t6*t1))+t25)) 8))).bind fun y3=>(Ep.l6 k L3 n) t1 t6 t7 t17 t18 t19 t24 (IntKind.wrap .i64 (t25+1)) (List.set AO (Int.toNat (IntKind.wrap .i64 (Int.tdiv (IntKind.wrap .i64 ((IntKind.wrap .i64 (t6*t1))+t25)) 8))) (bits .or .u8 y1 (qV .u8 (IntKind.wrap .u8 (bits .and .i64 (qW .i64 t7 t25) 1)) (Int.tmod (IntKind.wrap .i64 ((IntKind.wrap .i64 (t6*t1))+t25)) 8))))) none) none) (L3 t1 t17 t18 (IntKind.wrap .i64 (t19+1)) AO)
def Ep.l3(k:Nat):Nat→Int→(List Int)→Int→Int→(List Int)→Option (Unit×(List Int))
 |0,_,_,_,_,_=>none
 |n+1,t1,t17,t18,t19,AO=>
  cond (decide (t19<t18)) ((gP t17 t19).bind fun y4=>Ep.l6 k (Ep.l3 k n) k t1 t19 y4 t17 t18 t19 t1 0 AO) (some ((),AO))
def Ep(k:Nat)(t0:List Int)(t1:Int):Option (Unit×(List Int)):=
 cond (qG (IntKind.wrap .i64 (Int.tdiv (IntKind.wrap .i64 ((IntKind.wrap .i64 ((List.length t0:Int)*t1))+7)) 8))) (Ep.l3 k k t1 t0 (List.length t0:Int) 0 (List.replicate (Int.toNat (IntKind.wrap .i64 (Int.tdiv (IntKind.wrap .i64 ((IntKind.wrap .i64 ((List.length t0:Int)*t1))+7)) 8))) 0)) none
def C9.c12(k:Nat)(L7:Int→(List AV)→Int→Int→(List Int)→Option ((Unit×Bool)×(List Int)))(t0:Int)(t19:List AV)(t20:Int)(t21:Int)(AO:List Int):Option ((Unit×Bool)×(List Int)):=
 L7 t0 t19 t20 (IntKind.wrap .i64 (t21+1)) AO
def C9.d10(k:Nat)(L7:Int→(List AV)→Int→Int→(List Int)→Option ((Unit×Bool)×(List Int)))(t0:Int)(t19:List AV)(t20:Int)(t21:Int)(AO:List Int)(AX:AV):Option ((Unit×Bool)×(List Int)):=
 (FL k (AX.2.1.size:Int) 4).bind fun r1=>cond (lim (List.length AO+List.length r1.2)) (cond (lim (List.length (AO++r1.2)+List.length (fH AX.2.1))) (C9.c12 k L7 t0 t19 t20 t21 ((AO++r1.2)++(fH AX.2.1))) none) none
def C9.d11(k:Nat)(L7:Int→(List AV)→Int→Int→(List Int)→Option ((Unit×Bool)×(List Int)))(t0:Int)(t19:List AV)(t20:Int)(t21:Int)(AO:List Int)(AX:AV):Option ((Unit×Bool)×(List Int)):=
 (Ed k t0).bind fun r6=>(FL k AX.1 r6).bind fun r7=>cond (lim (List.length AO+List.length r7.2)) (C9.c12 k L7 t0 t19 t20 t21 (AO++r7.2)) none
def C9.l7(k:Nat):Nat→Int→(List AV)→Int→Int→(List Int)→Option ((Unit×Bool)×(List Int))
 |0,_,_,_,_,_=>none
 |n+1,t0,t19,t20,t21,AO=>
  cond (decide (t21<t20)) ((gP t19 t21).bind fun Gh=>cond (t0==6) (C9.d10 k (C9.l7 k n) t0 t19 t20 t21 AO Gh) (C9.d11 k (C9.l7 k n) t0 t19 t20 t21 AO Gh)) (some (((),true),AO))
def C9(k:Nat)(t0:Int)(t1:List AV):Option ((Unit×Bool)×(List Int)):=
 (Gr k t0 t1).bind fun Cs=>cond (!Cs) (some (((),false),[])) (cond (t0==0) ((Hl k t1).bind fun Ct=>(Ep k Ct.2 1).bind fun BH=>some (((),true),BH.2)) (C9.l7 k k t0 t1 (List.length t1:Int) 0 []))
def Gp.l3(k:Nat):Nat→(List (List AR))→Int→Int→(List AR)→Option (Unit×(List AR))
 |0,_,_,_,_=>none
 |n+1,t13,t14,t15,AO=>
  cond (decide (t15<t14)) ((gP t13 t15).bind fun y1=>cond (lim (List.length AO+List.length y1)) ((Gp.l3 k n) t13 t14 (IntKind.wrap .i64 (t15+1)) (AO++y1)) none) (some ((),AO))
def Gp(k:Nat)(t0:Int)(t1:List (List AR)):Option (Unit×(List AR)):=
 Gp.l3 k k t1 (List.length t1:Int) 0 [(12,t0,0,A7,(List.length t1:Int),())]
def IC(k:Nat)(t0:Int)(t1:Int):Option (AR):=
 some (5,t0,t1,A7,0,())
def Eo.c10(k:Nat)(t11:Bool):Option Bool:=
 cond t11 (some true) (some false)
def Eo.c4(k:Nat)(t1:Bool)(t5:Int)(t6:Bool):Option Bool:=
 cond t6 (some (!t1)) (cond (t5==5) (Eo.c10 k (t5==5)) (cond (t5==6) (Eo.c10 k (t5==6)) (cond (t5==8) (Eo.c10 k (t5==8)) (cond (t5==9) (Eo.c10 k (t5==9)) (Eo.c10 k (t5==12))))))
def Eo(k:Nat)(t0:Int)(t1:Bool):Option Bool:=
 cond (t0==1) (Eo.c4 k t1 t0 (t0==1)) (Eo.c4 k t1 t0 (t0==2))
def Mq(k:Nat)(t0:AR):Option Bool:=
 cond (t0.1==5) ((GR k t0.2.2.1).bind fun r1=>(cond r1 (some (ig t0.2.2.2.1 A7)) (some false)).bind fun b2=>(cond b2 (some (t0.2.2.2.2.1==0)) (some false)).bind fun b3=>some b3) (cond (t0.1==6) ((cond (ig t0.2.2.2.1 A7) (some (t0.2.2.2.2.1==0)) (some false)).bind fun b4=>some b4) (cond (t0.1==8) ((cond (t0.2.2.1==0) (some (decide ((t0.2.2.2.1.size:Int)≤300))) (some false)).bind fun b5=>(cond b5 (some (t0.2.2.2.2.1==0)) (some false)).bind fun b6=>some b6) (cond (t0.1==9) ((cond (ig t0.2.2.2.1 A7) (some (decide (t0.2.2.2.2.1≥0))) (some false)).bind fun b7=>(cond b7 ((cond (t0.2.2.2.2.1==0) (some (t0.2.2.1==0)) (some false)).bind fun b8=>(cond b8 (some true) ((cond (decide (t0.2.2.2.2.1>0)) ((Eo k t0.2.2.1 true).bind fun r9=>some (r9)) (some false)).bind fun b10=>some (b10))).bind fun b11=>some (b11)) (some false)).bind fun b12=>some b12) (cond (t0.1==12) ((cond (t0.2.2.1==0) (some (ig t0.2.2.2.1 A7)) (some false)).bind fun b13=>(cond b13 (some (decide (t0.2.2.2.2.1≥0))) (some false)).bind fun b14=>some b14) ((Eo k t0.1 false).bind fun BH=>(cond BH (some (t0.2.2.1==0)) (some false)).bind fun b16=>(cond b16 (some (ig t0.2.2.2.1 A7)) (some false)).bind fun b17=>(cond b17 (some (t0.2.2.2.2.1==0)) (some false)).bind fun b18=>some b18)))))
def Dx.l7(k:Nat)(Ip:Int→Int→(Bool×Bc)→(List Int)→Option (Int×Bc×(List Int))):Nat→Int→Int→Int→Int→Int→Int→Bc→(List Int)→AR→Option (Int×Bc×(List Int))
 |0,_,_,_,_,_,_,_,_,_=>none
 |n+1,t1,t2,t8,t9,t43,t44,o0,Ba,AO=>
  cond (decide (t44<t43)) (cond (decide (t8≥(List.length o0.1:Int))) (some ((-1),(o0,Ba))) ((gP o0.1 t8).bind fun y1=>(cond (AO.1==9) ((cond (y1.1 !=AO.2.2.1) (some true) (some (y1.2.1 !=0))).bind fun b2=>some (b2)) (some false)).bind fun b3=>cond b3 (some ((-1),(o0,Ba))) ((cond (AO.1==12) ((Cq k y1.2.1 (IntKind.wrap .i64 (t9+1)) 1000).bind fun r4=>some (!r4)) (some false)).bind fun b5=>cond b5 (some ((-1),(o0,Ba))) ((Ip t8 (IntKind.wrap .i64 (t2+1)) (true,o0) Ba).bind fun r6=>cond (decide (r6.1<0)) (some ((-1),(r6.2.1,r6.2.2))) ((Dx.l7 k Ip n) t1 t2 r6.1 y1.2.1 t43 (IntKind.wrap .i64 (t44+1)) r6.2.1 r6.2.2 AO))))) ((gP Ba t1).bind fun y7=>(gP Ba t1).bind fun y8=>some (t8,(o0,List.set Ba (Int.toNat t1) t8)))
def Dx.b(k:Nat)(Ip:Int→Int→(Bool×Bc)→(List Int)→Option (Int×Bc×(List Int)))(t1:Int)(t2:Int)(o0:Bool×Bc)(Ba:List Int):Option (Int×Bc×(List Int)):=
 cond (o0.1) ((cond (decide (t1≥(List.length o0.2.1:Int))) (some true) (some (decide (t2>12)))).bind fun b9=>(cond b9 (some true) ((gP o0.2.1 t1).bind fun DZ=>(Mq k DZ).bind fun CF=>some (!CF))).bind fun b12=>cond b12 (some ((-1),(o0.2,Ba))) ((gP o0.2.1 t1).bind fun y13=>Dx.l7 k Ip k t1 t2 (IntKind.wrap .i64 (t1+1)) 0 y13.2.2.2.2.1 0 o0.2 Ba y13)) none
def Dx.rec(k:Nat):Nat→(Int→Int→(Bool×Bc)→(List Int)→Option (Int×Bc×(List Int)))
 |0=>fun _ _ _ _=>none
 |d+1=>Dx.b k ((Dx.rec k d))
def Dx.d(k d:Nat):Int→Int→(Bool×Bc)→(List Int)→Option (Int×Bc×(List Int)):=(Dx.rec k d)
def Dx(k:Nat):Int→Int→(Bool×Bc)→(List Int)→Option (Int×Bc×(List Int)):=Dx.d k k
def Jq(k:Nat)(t0:List AR):Option ((Unit×Bool)×(Bool×Bc)×(List Int)):=
 (Cq k (List.length t0:Int) 1 1500).bind fun r1=>cond (!r1) (some (((),false),((false,([],(),())),[]))) (cond (qG (List.length t0:Int)) ((gP t0 0).bind fun y2=>(cond (y2.1 !=12) (some true) (some (y2.2.1 !=0))).bind fun b3=>cond b3 (cond true (some (((),false),((false,([],(),())),[]))) (some (((),true),((true,(t0,(),())),List.replicate (Int.toNat (List.length t0:Int)) 0)))) ((Dx k 0 1 (true,(t0,(),())) (List.replicate (Int.toNat (List.length t0:Int)) 0)).bind fun r4=>cond (r4.1 !=(List.length t0:Int)) (some (((),false),((false,([],(),())),[]))) (some (((),true),((true,r4.2.1),r4.2.2))))) none)
def FJ.l3(k:Nat):Nat→Int→(List Int)→Option (Unit×(List Int))
 |0,_,_=>none
 |n+1,t3,AO=>
  cond (decide (t3>127)) (cond (lim (List.length AO+List.length [IntKind.wrap .u8 (bits .or .u64 (bits .and .u64 t3 127) 128)])) ((FJ.l3 k n) (qW .u64 t3 7) (AO++[IntKind.wrap .u8 (bits .or .u64 (bits .and .u64 t3 127) 128)])) none) (cond (lim (List.length AO+List.length [IntKind.wrap .u8 t3])) (some ((),AO++[IntKind.wrap .u8 t3])) none)
def FJ(k:Nat)(t0:Int):Option (Unit×(List Int)):=
 FJ.l3 k k (IntKind.wrap .u64 t0) []
def Ml(k:Nat)(t0:Int):Option Int:=
 some (bits .xor .i64 (qV .i64 t0 1) (qW .i64 t0 63))
def KU(k:Nat)(t0:Int):Option (Unit×(List Int)):=
 (Ml k t0).bind fun r1=>(FJ k r1).bind fun r2=>some ((),r2.2)
def IA.d4(k:Nat)(AO:AR):Option (Unit×(List Int)):=
 (KU k AO.2.1).bind fun r1=>cond (lim (List.length [IntKind.wrap .u8 AO.1]+List.length r1.2)) (some ((),[IntKind.wrap .u8 AO.1]++r1.2)) none
def IA(k:Nat)(t0:AR)(t1:Int):Option (Unit×(List Int)):=
 cond (decide ((IntKind.wrap .i64 (t0.2.1-t1))≤15)) (some ((),[IntKind.wrap .u8 (IntKind.wrap .i64 ((IntKind.wrap .i64 (16*(IntKind.wrap .i64 (t0.2.1-t1))))+t0.1))])) (IA.d4 k t0)
def Br.Ji(k:Nat)(o0:Bc)(Ba:List Int)(AO:List Int):Option (Unit×Bc×(List Int)×(List Int)):=
 some ((),(o0,Ba,AO))
def Br.c20(k:Nat)(Du:Int→(Bool×Bc)→(List Int)→Option (Unit×Bc×(List Int)×(List Int)))(GA:Int→Int→Int→Int→Bc→(List Int)→AR→(List Int)→Option (Unit×Bc×(List Int)×(List Int)))(t7:Int)(t62:Int)(t63:Int)(o0:Bc)(Ba:List Int)(AO:AR)(AX:List Int)(Be:AR):Option (Unit×Bc×(List Int)×(List Int)):=
 (Du t7 (true,o0) Ba).bind fun r1=>cond (lim (List.length AX+List.length r1.2.2.2)) ((gP r1.2.2.1 t7).bind fun y2=>GA y2 Be.2.1 t62 (IntKind.wrap .i64 (t63+1)) r1.2.1 r1.2.2.1 AO (AX++r1.2.2.2)) none
def Br.Ch(k:Nat)(Du:Int→(Bool×Bc)→(List Int)→Option (Unit×Bc×(List Int)×(List Int))):Nat→Int→Int→Int→Int→Bc→(List Int)→AR→(List Int)→Option (Unit×Bc×(List Int)×(List Int))
 |0,_,_,_,_,_,_,_,_=>none
 |n+1,t7,t8,t62,t63,o0,Ba,AO,AX=>
  cond (decide (t63<t62)) ((gP o0.1 t7).bind fun y3=>cond (AO.1==12) ((IA k y3 t8).bind fun r4=>cond (lim (List.length AX+List.length r4.2)) (Br.c20 k Du (Br.Ch k Du n) t7 t62 t63 o0 Ba AO (AX++r4.2) y3) none) (Br.c20 k Du (Br.Ch k Du n) t7 t62 t63 o0 Ba AO AX y3)) (cond (AO.1==12) (cond (lim (List.length AX+List.length [0])) (Br.Ji k o0 Ba (AX++[0])) none) (Br.Ji k o0 Ba AX))
def Br.c13(k:Nat)(Du:Int→(Bool×Bc)→(List Int)→Option (Unit×Bc×(List Int)×(List Int)))(t1:Int)(o0:Bc)(Ba:List Int)(AO:AR)(AX:List Int):Option (Unit×Bc×(List Int)×(List Int)):=
 Br.Ch k Du k (IntKind.wrap .i64 (t1+1)) 0 AO.2.2.2.2.1 0 o0 Ba AO AX
def Br.d8(k:Nat)(o0:Bc)(Ba:List Int)(AO:AR):Option (Unit×Bc×(List Int)×(List Int)):=
 (FJ k (AO.2.2.2.1.size:Int)).bind fun r5=>cond (lim (List.length r5.2+List.length (fH AO.2.2.2.1))) (some ((),(o0,Ba,r5.2++(fH AO.2.2.2.1)))) none
def Br.d12(k:Nat)(Du:Int→(Bool×Bc)→(List Int)→Option (Unit×Bc×(List Int)×(List Int)))(t1:Int)(o0:Bc)(Ba:List Int)(AO:AR):Option (Unit×Bc×(List Int)×(List Int)):=
 (FJ k AO.2.2.2.2.1).bind fun r9=>cond (lim (List.length [IntKind.wrap .u8 (IntKind.wrap .i64 (240+AO.2.2.1))]+List.length r9.2)) (Br.c13 k Du t1 o0 Ba AO ([IntKind.wrap .u8 (IntKind.wrap .i64 (240+AO.2.2.1))]++r9.2)) none
def Br.c6(k:Nat)(Du:Int→(Bool×Bc)→(List Int)→Option (Unit×Bc×(List Int)×(List Int)))(t1:Int)(t19:Int)(t20:Bool)(o0:Bc)(Ba:List Int)(AO:AR)(AX:List Int):Option (Unit×Bc×(List Int)×(List Int)):=
 cond t20 ((KU k AO.2.2.1).bind fun EJ=>some ((),(o0,Ba,EJ.2))) (cond (t19==8) (Br.d8 k o0 Ba AO) (cond (t19==9) (cond (decide (AO.2.2.2.2.1≤14)) (cond (lim (List.length AX+List.length [IntKind.wrap .u8 (IntKind.wrap .i64 ((IntKind.wrap .i64 (16*AO.2.2.2.2.1))+AO.2.2.1))])) (Br.c13 k Du t1 o0 Ba AO (AX++[IntKind.wrap .u8 (IntKind.wrap .i64 ((IntKind.wrap .i64 (16*AO.2.2.2.2.1))+AO.2.2.1))])) none) (Br.d12 k Du t1 o0 Ba AO)) (Br.c13 k Du t1 o0 Ba AO AX)))
def Br.b(k:Nat)(Du:Int→(Bool×Bc)→(List Int)→Option (Unit×Bc×(List Int)×(List Int)))(t1:Int)(o0:Bool×Bc)(Ba:List Int):Option (Unit×Bc×(List Int)×(List Int)):=
 cond (o0.1) ((gP o0.2.1 t1).bind fun y21=>cond (y21.1==5) (Br.c6 k Du t1 y21.1 (y21.1==5) o0.2 Ba y21 []) (Br.c6 k Du t1 y21.1 (y21.1==6) o0.2 Ba y21 [])) none
def Br.rec(k:Nat):Nat→(Int→(Bool×Bc)→(List Int)→Option (Unit×Bc×(List Int)×(List Int)))
 |0=>fun _ _ _=>none
 |d+1=>Br.b k ((Br.rec k d))
def Br.d(k d:Nat):Int→(Bool×Bc)→(List Int)→Option (Unit×Bc×(List Int)×(List Int)):=(Br.rec k d)
def Br(k:Nat):Int→(Bool×Bc)→(List Int)→Option (Unit×Bc×(List Int)×(List Int)):=Br.d k k
def Jp(k:Nat)(t0:List AR):Option ((Unit×Bool)×(List Int)):=
 (Jq k t0).bind fun r1=>cond (!r1.1.2) (some (((),false),[])) ((Br k 0 (r1.2.1.1,r1.2.1.2) r1.2.2).bind fun r2=>some (((),true),r2.2.2.2))
def EP.c7(k:Nat)(L2:Int→Int→Option Int)(t0:Int)(t4:Int):Option Int:=
 L2 t0 (IntKind.wrap .i64 (t4+1))
def EP.l2(k:Nat):Nat→Int→Int→Option Int
 |0,_,_=>none
 |n+1,t0,t4=>
  cond (decide (t4<8)) (cond ((Int.tmod t0 2)==1) (EP.c7 k (EP.l2 k n) (bits .xor .i64 (IntKind.wrap .i64 (Int.tdiv t0 2)) 3988292384) t4) (EP.c7 k (EP.l2 k n) (IntKind.wrap .i64 (Int.tdiv t0 2)) t4)) (some t0)
def EP(k:Nat)(t0:Int):Option Int:=
 EP.l2 k k t0 0
def Hg.l3(k:Nat):Nat→Int→(List Int)→Option (Unit×(List Int))
 |0,_,_=>none
 |n+1,t4,AO=>
  cond (decide (t4<256)) ((EP k t4).bind fun r1=>cond (lim (List.length AO+List.length [r1])) ((Hg.l3 k n) (IntKind.wrap .i64 (t4+1)) (AO++[r1])) none) (some ((),AO))
def Hg(k:Nat):Option (Unit×(List Int)):=
 Hg.l3 k k 0 []
def Hf.l6(k:Nat):Nat→Int→(List Int)→Int→Int→(List Int)→Option Int
 |0,_,_,_,_,_=>none
 |n+1,t0,t14,t15,t16,AO=>
  cond (decide (t16<t15)) ((gP t14 t16).bind fun y1=>(gP AO (bits .xor .i64 (bits .and .i64 t0 255) (IntKind.wrap .i64 y1))).bind fun y2=>(Hf.l6 k n) (bits .xor .i64 y2 (qW .i64 t0 8)) t14 t15 (IntKind.wrap .i64 (t16+1)) AO) (some (bits .xor .i64 t0 4294967295))
def Hf(k:Nat)(t0:Int)(t1:List Int):Option Int:=
 (Cq k t0 0 4294967295).bind fun r3=>cond (!r3) (some (-1)) ((Hg k).bind fun r4=>Hf.l6 k k (bits .xor .i64 t0 4294967295) t1 (List.length t1:Int) 0 r4.2)
def Jo(k:Nat)(t0:List Int):Option Int:=
 (Hf k 0 t0).bind fun r1=>some r1
def E_.c7(k:Nat)(t1:List Int)(t3:List AR)(AO:List (List AR)):Option (Unit×(List Int)):=
 cond (lim (List.length AO+List.length [t3])) ((Gp k 0 (AO++[t3])).bind fun r1=>(Jp k r1.2).bind fun r2=>cond (lim (List.length r2.2+List.length t1)) (some ((),r2.2++t1)) none) none
def E_.c6(k:Nat)(t1:List Int)(t3:List AR)(t10:Int)(AO:List (List AR)):Option (Unit×(List Int)):=
 (IC k 4 t10).bind fun r3=>cond (lim (List.length AO+List.length [[r3]])) (E_.c7 k t1 t3 (AO++[[r3]])) none
def E_(k:Nat)(t0:Int)(t1:List Int)(t2:Bool)(t3:List AR):Option (Unit×(List Int)):=
 (IC k 1 t0).bind fun r4=>(IC k 2 (List.length t1:Int)).bind fun r5=>(IC k 3 (List.length t1:Int)).bind fun r6=>cond t2 ((Jo k t1).bind fun r7=>(GR k r7).bind fun r8=>cond (!r8) (E_.c6 k t1 t3 (IntKind.wrap .i64 (r7-4294967296)) [[r4],[r5],[r6]]) (E_.c6 k t1 t3 r7 [[r4],[r5],[r6]])) (E_.c7 k t1 t3 [[r4],[r5],[r6]])
def KT(k:Nat)(t0:Int)(t1:List AV)(t2:Bool):Option ((Unit×Bool)×(List Int)):=
 (C9 k t0 t1).bind fun r1=>cond (!r1.1.2) (some (((),false),[])) ((IC k 1 (List.length t1:Int)).bind fun r2=>(IC k 2 0).bind fun r3=>(Gp k 7 [[r2],[r3]]).bind fun r4=>(E_ k 2 r1.2 t2 r4.2).bind fun r5=>some (((),true),r5.2))
def Fg.c7(k:Nat)(t4:Bool):Option Bool:=
 cond t4 (some true) (some false)
def Fg(k:Nat)(t0:Int):Option Bool:=
 cond (t0==0) (Fg.c7 k (t0==0)) (cond (t0==1) (Fg.c7 k (t0==1)) (cond (t0==2) (Fg.c7 k (t0==2)) (cond (t0==5) (Fg.c7 k (t0==5)) (Fg.c7 k (t0==6)))))
def CJ(k:Nat)(t0:Int)(t1:Int)(t2:Int):Option Bool:=
 (cond (decide (t0≥t1)) (some (decide (t0≤t2))) (some false)).bind fun b1=>some b1
def Jy(k:Nat)(t0:Int):Option Bool:=
 (CJ k t0 (-2147483648) 2147483647).bind fun r1=>some r1
def FV.c8(k:Nat)(t5:Int)(t26:Bool)(AO:AV):Option Bool:=
 cond t26 (some (ig AO.2.1 A7)) (cond (t5==6) ((cond (AO.1==0) (some (decide ((AO.2.1.size:Int)≤40))) (some false)).bind fun b1=>some b1) (some false))
def FV(k:Nat)(t0:Int)(t1:AV):Option Bool:=
 cond (t0==0) ((CJ k t1.1 0 1).bind fun r2=>(cond r2 (some (ig t1.2.1 A7)) (some false)).bind fun b3=>some b3) (cond (t0==1) ((Jy k t1.1).bind fun r4=>(cond r4 (some (ig t1.2.1 A7)) (some false)).bind fun b5=>some b5) (cond (t0==2) (FV.c8 k t0 (t0==2) t1) (FV.c8 k t0 (t0==5) t1)))
def Gz.l4(k:Nat):Nat→Int→(List AV)→Int→Option Bool
 |0,_,_,_=>none
 |n+1,t0,t1,t5=>
  cond (decide (t5<(List.length t1:Int))) ((gP t1 t5).bind fun y1=>(FV k t0 y1).bind fun r2=>cond (!r2) (some false) ((Gz.l4 k n) t0 t1 (IntKind.wrap .i64 (t5+1)))) (some true)
def Gz(k:Nat)(t0:Int)(t1:List AV):Option Bool:=
 (cond (decide ((List.length t1:Int)>2000)) (some true) ((Fg k t0).bind fun r3=>some (!r3))).bind fun b4=>cond b4 (some false) (Gz.l4 k k t0 t1 0)
def Fz.l3(k:Nat):Nat→Int→Int→Int→(List Int)→Option (Unit×(List Int))
 |0,_,_,_,_=>none
 |n+1,t0,t1,t6,AO=>
  (cond (decide (t6<t1)) ((CJ k t1 1 8).bind fun r1=>some (r1)) (some false)).bind fun b2=>cond b2 (cond (decide (0≤(IntKind.wrap .i64 (8*t6)))) (cond (lim (List.length AO+List.length [IntKind.wrap .u8 (qW .i64 t0 (IntKind.wrap .i64 (8*t6)))])) ((Fz.l3 k n) t0 t1 (IntKind.wrap .i64 (t6+1)) (AO++[IntKind.wrap .u8 (qW .i64 t0 (IntKind.wrap .i64 (8*t6)))])) none) none) (some ((),AO))
def Fz(k:Nat)(t0:Int)(t1:Int):Option (Unit×(List Int)):=
 Fz.l3 k k t0 t1 0 []
def IU(k:Nat)(t0:Int)(t1:Int):Option Int:=
 (CJ k t0 0 2000).bind fun r1=>(cond (!r1) (some true) ((CJ k t1 0 62).bind fun r2=>some (!r2))).bind fun b3=>cond b3 (some (-1)) (some (IntKind.wrap .i64 (Int.tdiv (IntKind.wrap .i64 ((IntKind.wrap .i64 (t0*t1))+7)) 8)))
def Dl.c12(k:Nat)(QZ:(List Int)→Int→Int→Int→(List Int)→Option ((Unit×Bool)×(List Int)))(t0:List Int)(t1:Int)(t8:Int)(t9:Int)(AO:List Int):Option ((Unit×Bool)×(List Int)):=
 QZ t0 t1 t8 (IntKind.wrap .i64 (t9+1)) AO
def Dl.DI(k:Nat)(L6:(List Int)→Int→Int→(List Int)→Option ((Unit×Bool)×(List Int))):Nat→(List Int)→Int→Int→Int→(List Int)→Option ((Unit×Bool)×(List Int))
 |0,_,_,_,_,_=>none
 |n+1,t0,t1,t8,t9,AO=>
  cond (decide (t9<t1)) ((gP t0 t8).bind fun y1=>cond (decide (0≤t9)) (cond ((bits .and .i64 (qW .i64 y1 t9) 1)==1) ((gP AO (IntKind.wrap .i64 (Int.tdiv (IntKind.wrap .i64 ((IntKind.wrap .i64 (t8*t1))+t9)) 8))).bind fun y2=>cond (decide (0≤(Int.tmod (IntKind.wrap .i64 ((IntKind.wrap .i64 (t8*t1))+t9)) 8))) ((gP AO (IntKind.wrap .i64 (Int.tdiv (IntKind.wrap .i64 ((IntKind.wrap .i64 (t8*t1))+t9)) 8))).bind fun y3=>(gP AO (IntKind.wrap .i64 (Int.tdiv (IntKind.wrap .i64 ((IntKind.wrap .i64 (t8*t1))+t9)) 8))).bind fun y4=>Dl.c12 k (Dl.DI k L6 n) t0 t1 t8 t9 (List.set AO (Int.toNat (IntKind.wrap .i64 (Int.tdiv (IntKind.wrap .i64 ((IntKind.wrap .i64 (t8*t1))+t9)) 8))) (bits .or .u8 y2 (qV .u8 1 (Int.tmod (IntKind.wrap .i64 ((IntKind.wrap .i64 (t8*t1))+t9)) 8))))) none) (Dl.c12 k (Dl.DI k L6 n) t0 t1 t8 t9 AO)) none) (L6 t0 t1 (IntKind.wrap .i64 (t8+1)) AO)
def Dl.l6(k:Nat):Nat→(List Int)→Int→Int→(List Int)→Option ((Unit×Bool)×(List Int))
 |0,_,_,_,_=>none
 |n+1,t0,t1,t8,AO=>
  cond (decide (t8<(List.length t0:Int))) ((gP t0 t8).bind fun y5=>(cond (decide (y5<0)) (some true) ((gP t0 t8).bind fun y6=>cond (decide (0≤t1)) (some ((qW .i64 y6 t1) !=0)) none)).bind fun b7=>cond b7 (some (((),false),[])) (Dl.DI k (Dl.l6 k n) k t0 t1 t8 0 AO)) (some (((),true),AO))
def Dl(k:Nat)(t0:List Int)(t1:Int):Option ((Unit×Bool)×(List Int)):=
 (IU k (List.length t0:Int) t1).bind fun r8=>cond (decide (r8<0)) (some (((),false),[])) (cond (qG r8) (Dl.l6 k k t0 t1 0 (List.replicate (Int.toNat r8) 0)) none)
def Dm.c7(k:Nat)(L6:Int→(List AV)→Int→(List Int)→(List Int)→Option ((Unit×Bool)×(List Int)))(t0:Int)(t1:List AV)(t8:Int)(AO:List Int)(AX:List Int):Option ((Unit×Bool)×(List Int)):=
 L6 t0 t1 (IntKind.wrap .i64 (t8+1)) AO AX
def Dm.l6(k:Nat):Nat→Int→(List AV)→Int→(List Int)→(List Int)→Option ((Unit×Bool)×(List Int))
 |0,_,_,_,_,_=>none
 |n+1,t0,t1,t8,AO,AX=>
  cond (decide (t8<(List.length t1:Int))) ((gP t1 t8).bind fun y1=>cond (t0==0) (cond (lim (List.length AX+List.length [y1.1])) (Dm.c7 k (Dm.l6 k n) t0 t1 t8 AO (AX++[y1.1])) none) (cond (t0==1) ((Fz k y1.1 4).bind fun r2=>cond (lim (List.length AO+List.length r2.2)) (Dm.c7 k (Dm.l6 k n) t0 t1 t8 (AO++r2.2) AX) none) (cond (t0==6) ((Fz k (y1.2.1.size:Int) 4).bind fun r3=>cond (lim (List.length AO+List.length r3.2)) (cond (lim (List.length (AO++r3.2)+List.length (fH y1.2.1))) (Dm.c7 k (Dm.l6 k n) t0 t1 t8 ((AO++r3.2)++(fH y1.2.1)) AX) none) none) ((Fz k y1.1 8).bind fun r4=>cond (lim (List.length AO+List.length r4.2)) (Dm.c7 k (Dm.l6 k n) t0 t1 t8 (AO++r4.2) AX) none)))) (cond (t0==0) ((Dl k AX 1).bind fun r5=>some (((),r5.1.2),r5.2)) (some (((),true),AO)))
def Dm(k:Nat)(t0:Int)(t1:List AV):Option ((Unit×Bool)×(List Int)):=
 (Gz k t0 t1).bind fun r6=>cond (!r6) (some (((),false),[])) (Dm.l6 k k t0 t1 0 [] [])
def FB.c9(k:Nat)(t4:Bool):Option Bool:=
 cond t4 (some true) (some false)
def FB(k:Nat)(t0:Int):Option Bool:=
 cond (t0==1) (FB.c9 k (t0==1)) (cond (t0==2) (FB.c9 k (t0==2)) (cond (t0==5) (FB.c9 k (t0==5)) (cond (t0==6) (FB.c9 k (t0==6)) (cond (t0==8) (FB.c9 k (t0==8)) (cond (t0==9) (FB.c9 k (t0==9)) (FB.c9 k (t0==12)))))))
def Lm(k:Nat)(t0:Int):Option Bool:=
 (FB k t0).bind fun r1=>(cond r1 (some (t0 !=1)) (some false)).bind fun b2=>(cond b2 (some (t0 !=2)) (some false)).bind fun b3=>some b3
def Il.c4(k:Nat)(t4:Int)(t5:Bool)(AO:AR):Option Bool:=
 cond t5 ((cond (AO.2.2.1==0) (some (ig AO.2.2.2.1 A7)) (some false)).bind fun b1=>(cond b1 (some (AO.2.2.2.2.1==0)) (some false)).bind fun b2=>some b2) (cond (t4==5) ((Jy k AO.2.2.1).bind fun r3=>(cond r3 (some (ig AO.2.2.2.1 A7)) (some false)).bind fun b4=>(cond b4 (some (AO.2.2.2.2.1==0)) (some false)).bind fun b5=>some b5) (cond (t4==6) ((cond (ig AO.2.2.2.1 A7) (some (AO.2.2.2.2.1==0)) (some false)).bind fun b6=>some b6) (cond (t4==8) ((cond (AO.2.2.1==0) (some (decide ((AO.2.2.2.1.size:Int)≤300))) (some false)).bind fun b7=>(cond b7 (some (AO.2.2.2.2.1==0)) (some false)).bind fun b8=>some b8) (cond (t4==9) ((cond (ig AO.2.2.2.1 A7) (some (decide (AO.2.2.2.2.1≥0))) (some false)).bind fun b9=>(cond b9 ((cond (AO.2.2.2.2.1==0) (some (AO.2.2.1==0)) (some false)).bind fun b10=>(cond b10 (some true) ((cond (decide (AO.2.2.2.2.1>0)) ((Lm k AO.2.2.1).bind fun CF=>some (CF)) (some false)).bind fun b12=>some (b12))).bind fun b13=>some (b13)) (some false)).bind fun b14=>some b14) (cond (t4==12) ((cond (AO.2.2.1==0) (some (ig AO.2.2.2.1 A7)) (some false)).bind fun b15=>(cond b15 (some (decide (AO.2.2.2.2.1≥0))) (some false)).bind fun b16=>some b16) (some false))))))
def Il(k:Nat)(t0:AR):Option Bool:=
 cond (t0.1==1) (Il.c4 k t0.1 (t0.1==1) t0) (Il.c4 k t0.1 (t0.1==2) t0)
def CV.l7(k:Nat)(F3:(List AR)→Int→Int→Option Int):Nat→(List AR)→Int→Int→Int→Int→AR→Option Int
 |0,_,_,_,_,_,_=>none
 |n+1,t0,t2,t8,t9,t10,AO=>
  cond (decide (t10<AO.2.2.2.2.1)) (cond (decide (t8≥(List.length t0:Int))) (some (-1)) ((gP t0 t8).bind fun y1=>(cond (AO.1==9) ((cond (y1.1 !=AO.2.2.1) (some true) (some (y1.2.1 !=0))).bind fun b2=>some (b2)) (some false)).bind fun b3=>(cond b3 (some true) ((cond (AO.1==12) ((cond (decide (y1.2.1≤t9)) (some true) (some (decide (y1.2.1>1000)))).bind fun b4=>some (b4)) (some false)).bind fun b5=>some (b5))).bind fun b6=>cond b6 (some (-1)) ((F3 t0 t8 (IntKind.wrap .i64 (t2+1))).bind fun r7=>cond (decide (r7<0)) (some (-1)) ((CV.l7 k F3 n) t0 t2 r7 y1.2.1 (IntKind.wrap .i64 (t10+1)) AO)))) (some t8)
def CV.b(k:Nat)(F3:(List AR)→Int→Int→Option Int)(t0:List AR)(t1:Int)(t2:Int):Option Int:=
 (cond (decide (t1≥(List.length t0:Int))) (some true) (some (decide (t2>12)))).bind fun b8=>(cond b8 (some true) ((gP t0 t1).bind fun y9=>(Il k y9).bind fun BP=>some (!BP))).bind fun b11=>cond b11 (some (-1)) ((gP t0 t1).bind fun Gh=>CV.l7 k F3 k t0 t2 (IntKind.wrap .i64 (t1+1)) 0 0 Gh)
def CV.rec(k:Nat):Nat→((List AR)→Int→Int→Option Int)
 |0=>fun _ _ _=>none
 |d+1=>CV.b k ((CV.rec k d))
def CV.d(k d:Nat):(List AR)→Int→Int→Option Int:=(CV.rec k d)
def CV(k:Nat):(List AR)→Int→Int→Option Int:=CV.d k k
def IX(k:Nat)(t0:List AR):Option Bool:=
 (CJ k (List.length t0:Int) 1 1500).bind fun r1=>(cond (!r1) (some true) ((gP t0 0).bind fun y2=>some (y2.1 !=12))).bind fun b3=>(cond b3 (some true) ((gP t0 0).bind fun y4=>some (y4.2.1 !=0))).bind fun b5=>cond b5 (some false) ((CV k t0 0 1).bind fun r6=>some (r6==(List.length t0:Int)))
def Gf(k:Nat)(t0:Int)(t1:Int):Option Int:=
 cond (t1==0) (some t0) (cond (decide (0≤t1)) (cond (decide (0≤(IntKind.wrap .i64 (64-t1)))) (some (bits .and .i64 (qW .i64 t0 t1) (IntKind.wrap .i64 ((qV .i64 1 (IntKind.wrap .i64 (64-t1)))-1)))) none) none)
def Gb.l2(k:Nat):Nat→Int→(List Int)→Option (Unit×(List Int))
 |0,_,_=>none
 |n+1,t0,AO=>
  (Gf k t0 7).bind fun r1=>cond (r1 !=0) (cond (lim (List.length AO+List.length [IntKind.wrap .u8 (IntKind.wrap .i64 ((bits .and .i64 t0 127)+128))])) ((Gf k t0 7).bind fun r2=>(Gb.l2 k n) r2 (AO++[IntKind.wrap .u8 (IntKind.wrap .i64 ((bits .and .i64 t0 127)+128))])) none) (cond (lim (List.length AO+List.length [IntKind.wrap .u8 t0])) (some ((),AO++[IntKind.wrap .u8 t0])) none)
def Gb(k:Nat)(t0:Int):Option (Unit×(List Int)):=
 Gb.l2 k k t0 []
def MJ(k:Nat)(t0:Int):Option Int:=
 cond (decide (t0<0)) (some (bits .xor .i64 (-1) (qV .i64 t0 1))) (some (qV .i64 t0 1))
def Lf(k:Nat)(t0:Int):Option (Unit×(List Int)):=
 (MJ k t0).bind fun r1=>(Gb k r1).bind fun r2=>some ((),r2.2)
def BA.JL(k:Nat)(t7:Int)(AO:List Int):Option ((Unit×Int)×(List Int)):=
 some (((),t7),AO)
def BA.d9(k:Nat)(t7:Int)(AO:AR):Option ((Unit×Int)×(List Int)):=
 (Gb k (AO.2.2.2.1.size:Int)).bind fun r1=>cond (lim (List.length r1.2+List.length (fH AO.2.2.2.1))) (some (((),t7),r1.2++(fH AO.2.2.2.1))) none
def BA.Ch(k:Nat)(Dp:(List AR)→Int→Option ((Unit×Int)×(List Int))):Nat→(List AR)→Int→Int→AR→(List Int)→Option ((Unit×Int)×(List Int))
 |0,_,_,_,_,_=>none
 |n+1,t0,t7,t9,AO,AX=>
  cond (decide (t9<AO.2.2.2.2.1)) ((Dp t0 t7).bind fun r8=>cond (lim (List.length AX+List.length r8.2)) ((BA.Ch k Dp n) t0 r8.1.2 (IntKind.wrap .i64 (t9+1)) AO (AX++r8.2)) none) (BA.JL k t7 AX)
def BA.c15(k:Nat)(Dp:(List AR)→Int→Option ((Unit×Int)×(List Int)))(t0:List AR)(t7:Int)(AO:AR)(AX:List Int):Option ((Unit×Int)×(List Int)):=
 BA.Ch k Dp k t0 t7 0 AO AX
def BA.c31(k:Nat)(Dp:(List AR)→Int→Option ((Unit×Int)×(List Int)))(Q3:(List AR)→Int→Int→Int→AR→(List Int)→Option ((Unit×Int)×(List Int)))(t0:List AR)(t7:Int)(t13:Int)(AO:AR)(AX:List Int)(Be:AR):Option ((Unit×Int)×(List Int)):=
 (Dp t0 t7).bind fun r9=>cond (lim (List.length AX+List.length r9.2)) (Q3 t0 r9.1.2 Be.2.1 (IntKind.wrap .i64 (t13+1)) AO (AX++r9.2)) none
def BA.Ee(k:Nat)(Dp:(List AR)→Int→Option ((Unit×Int)×(List Int))):Nat→(List AR)→Int→Int→Int→AR→(List Int)→Option ((Unit×Int)×(List Int))
 |0,_,_,_,_,_,_=>none
 |n+1,t0,t7,t12,t13,AO,AX=>
  cond (decide (t13<AO.2.2.2.2.1)) ((gP t0 t7).bind fun DZ=>cond (decide ((IntKind.wrap .i64 (DZ.2.1-t12))≤15)) (cond (lim (List.length AX+List.length [IntKind.wrap .u8 (IntKind.wrap .i64 ((IntKind.wrap .i64 (16*(IntKind.wrap .i64 (DZ.2.1-t12))))+DZ.1))])) (BA.c31 k Dp (BA.Ee k Dp n) t0 t7 t13 AO (AX++[IntKind.wrap .u8 (IntKind.wrap .i64 ((IntKind.wrap .i64 (16*(IntKind.wrap .i64 (DZ.2.1-t12))))+DZ.1))]) DZ) none) (cond (lim (List.length AX+List.length [IntKind.wrap .u8 DZ.1])) ((Lf k DZ.2.1).bind fun CF=>cond (lim (List.length (AX++[IntKind.wrap .u8 DZ.1])+List.length CF.2)) (BA.c31 k Dp (BA.Ee k Dp n) t0 t7 t13 AO ((AX++[IntKind.wrap .u8 DZ.1])++CF.2) DZ) none) none)) (cond (lim (List.length AX+List.length [0])) (BA.JL k t7 (AX++[0])) none)
def BA.c7(k:Nat)(Dp:(List AR)→Int→Option ((Unit×Int)×(List Int)))(t0:List AR)(t7:Int)(t25:Int)(t26:Bool)(AO:AR)(AX:List Int):Option ((Unit×Int)×(List Int)):=
 cond t26 ((Lf k AO.2.2.1).bind fun BC=>some (((),t7),BC.2)) (cond (t25==8) (BA.d9 k t7 AO) (cond (t25==9) (cond (decide (AO.2.2.2.2.1≤14)) (cond (lim (List.length AX+List.length [IntKind.wrap .u8 (IntKind.wrap .i64 ((IntKind.wrap .i64 (16*AO.2.2.2.2.1))+AO.2.2.1))])) (BA.c15 k Dp t0 t7 AO (AX++[IntKind.wrap .u8 (IntKind.wrap .i64 ((IntKind.wrap .i64 (16*AO.2.2.2.2.1))+AO.2.2.1))])) none) (cond (lim (List.length AX+List.length [IntKind.wrap .u8 (IntKind.wrap .i64 (240+AO.2.2.1))])) ((Gb k AO.2.2.2.2.1).bind fun Cs=>cond (lim (List.length (AX++[IntKind.wrap .u8 (IntKind.wrap .i64 (240+AO.2.2.1))])+List.length Cs.2)) (BA.c15 k Dp t0 t7 AO ((AX++[IntKind.wrap .u8 (IntKind.wrap .i64 (240+AO.2.2.1))])++Cs.2)) none) none)) (cond (t25==12) (BA.Ee k Dp k t0 t7 0 0 AO AX) (BA.JL k t7 AX))))
def BA.b(k:Nat)(Dp:(List AR)→Int→Option ((Unit×Int)×(List Int)))(t0:List AR)(t1:Int):Option ((Unit×Int)×(List Int)):=
 (gP t0 t1).bind fun EL=>cond (EL.1==5) (BA.c7 k Dp t0 (IntKind.wrap .i64 (t1+1)) EL.1 (EL.1==5) EL []) (BA.c7 k Dp t0 (IntKind.wrap .i64 (t1+1)) EL.1 (EL.1==6) EL [])
def BA.rec(k:Nat):Nat→((List AR)→Int→Option ((Unit×Int)×(List Int)))
 |0=>fun _ _=>none
 |d+1=>BA.b k ((BA.rec k d))
def BA.d(k d:Nat):(List AR)→Int→Option ((Unit×Int)×(List Int)):=(BA.rec k d)
def BA(k:Nat):(List AR)→Int→Option ((Unit×Int)×(List Int)):=BA.d k k
def Le(k:Nat)(t0:List AR):Option ((Unit×Bool)×(List Int)):=
 (IX k t0).bind fun r1=>cond (!r1) (some (((),false),[])) ((BA k t0 0).bind fun r2=>some (((),true),r2.2))
def IY(k:Nat)(t0:Int)(t1:Int):Option (AR):=
 some (5,t0,t1,A7,0,())
def ET.c3(k:Nat)(L2:Int→Int→Option Int)(t0:Int)(t3:Int):Option Int:=
 L2 t0 (IntKind.wrap .i64 (t3+1))
def ET.l2(k:Nat):Nat→Int→Int→Option Int
 |0,_,_=>none
 |n+1,t0,t3=>
  cond (decide (t3<8)) (cond ((bits .and .i64 t0 1)==1) (ET.c3 k (ET.l2 k n) (bits .xor .i64 (IntKind.wrap .i64 (Int.tdiv t0 2)) 3988292384) t3) (ET.c3 k (ET.l2 k n) (IntKind.wrap .i64 (Int.tdiv t0 2)) t3)) (some t0)
def ET(k:Nat)(t0:Int):Option Int:=
 ET.l2 k k t0 0
def Hu.l5(k:Nat):Nat→(List Int)→Int→Int→Option Int
 |0,_,_,_=>none
 |n+1,t1,t5,t6=>
  cond (decide (t6<(List.length t1:Int))) ((gP t1 t6).bind fun y1=>(ET k (bits .xor .i64 (bits .and .i64 t5 255) (IntKind.wrap .i64 y1))).bind fun r2=>(Hu.l5 k n) t1 (bits .xor .i64 (qW .i64 t5 8) r2) (IntKind.wrap .i64 (t6+1))) (some (bits .xor .i64 t5 4294967295))
def Hu(k:Nat)(t0:Int)(t1:List Int):Option Int:=
 (CJ k t0 0 4294967295).bind fun r3=>cond (!r3) (some (-1)) (Hu.l5 k k t1 (bits .xor .i64 t0 4294967295) 0)
def Hw(k:Nat)(t0:List Int):Option Int:=
 (Hu k 0 t0).bind fun r1=>some r1
def Ff.c8(k:Nat)(t1:List Int)(t3:List AR)(AO:List AR):Option ((Unit×Bool)×(List Int)):=
 cond (lim (List.length AO+List.length t3)) ((Le k (AO++t3)).bind fun r1=>cond (!r1.1.2) (some (((),false),[])) (cond (lim (List.length r1.2+List.length t1)) (some (((),true),r1.2++t1)) none)) none
def Ff.c6(k:Nat)(t1:List Int)(t3:List AR)(t11:Int)(AO:List AR):Option ((Unit×Bool)×(List Int)):=
 (gP AO 0).bind fun y2=>(gP AO 0).bind fun y3=>(IY k 4 t11).bind fun r4=>cond (lim (List.length (List.set AO (Int.toNat 0) (y3.1,y3.2.1,y3.2.2.1,y3.2.2.2.1,5,()))+List.length [r4])) (Ff.c8 k t1 t3 ((List.set AO (Int.toNat 0) (y3.1,y3.2.1,y3.2.2.1,y3.2.2.2.1,5,()))++[r4])) none
def Ff(k:Nat)(t0:Int)(t1:List Int)(t2:Bool)(t3:List AR):Option ((Unit×Bool)×(List Int)):=
 (IY k 1 t0).bind fun r5=>(IY k 2 (List.length t1:Int)).bind fun r6=>(IY k 3 (List.length t1:Int)).bind fun r7=>cond t2 ((Hw k t1).bind fun r8=>cond (decide (r8>2147483647)) (Ff.c6 k t1 t3 (IntKind.wrap .i64 (r8-4294967296)) [(12,0,0,A7,4,()),r5,r6,r7]) (Ff.c6 k t1 t3 r8 [(12,0,0,A7,4,()),r5,r6,r7])) (Ff.c8 k t1 t3 [(12,0,0,A7,4,()),r5,r6,r7])
def Ld(k:Nat)(t0:Int)(t1:List AV)(t2:Bool):Option ((Unit×Bool)×(List Int)):=
 (Dm k t0 t1).bind fun r1=>cond (!r1.1.2) (some (((),false),[])) ((IY k 1 (List.length t1:Int)).bind fun r2=>(IY k 2 0).bind fun r3=>(Ff k 2 r1.2 t2 [(12,7,0,A7,2,()),r2,r3]).bind fun r4=>some (((),r4.1.2),r4.2))
def ER(k:Nat)(t1:Int)(o0:A_)(Ba:List AR):Option (Unit×A_×(List AR)):=
 cond (o0.2.2.2.1==0) (some ((),((o0.1,o0.2.1,(),t1,()),Ba))) (some ((),(o0,Ba)))
def Gq.c3(k:Nat)(o0:A_)(Ba:List AR)(AO:AR):Option (Int×A_×(List AR)):=
 cond (o0.2.2.2.1 !=0) (some (0,(o0,Ba))) (cond (lim (List.length Ba+List.length [AO])) (some (IntKind.wrap .i64 ((List.length (Ba++[AO]):Int)-1),(o0,Ba++[AO]))) none)
def Gq(k:Nat)(t1:AR)(t2:Int)(o0:A_)(Ba:List AR):Option (Int×A_×(List AR)):=
 (cond (decide (t2>12)) (some true) (some ((List.length Ba:Int)==1500))).bind fun b1=>cond b1 ((ER k 4 o0 Ba).bind fun r2=>Gq.c3 k r2.2.1 r2.2.2 t1) (Gq.c3 k o0 Ba t1)
def F8(k:Nat)(t0:Int):Option Int:=
 some (bits .xor .i64 (IntKind.wrap .i64 (qW .u64 (IntKind.wrap .u64 t0) 1)) (IntKind.wrap .i64 (0-(bits .and .i64 t0 1))))
def Dq.c12(k:Nat):Option (Int×Int×Bool):=
 some (0,0,false)
def Dq.l5(k:Nat):Nat→(List Int)→Int→Int→Int→Option (Int×Int×Bool)
 |0,_,_,_,_=>none
 |n+1,t0,t1,t7,t8=>
  (cond (decide (t8<10)) (some (decide (t8<(IntKind.wrap .i64 ((List.length t0:Int)-t1))))) (some false)).bind fun b1=>cond b1 ((gP t0 (IntKind.wrap .i64 (t1+t8))).bind fun y2=>(cond (t8==9) (some (decide (y2>1))) (some false)).bind fun b3=>cond b3 (Dq.c12 k) (cond (decide (0≤(IntKind.wrap .i64 (7*t8)))) (cond (decide (y2<128)) (some (IntKind.wrap .i64 (bits .or .u64 t7 (qV .u64 (IntKind.wrap .u64 (bits .and .u8 y2 127)) (IntKind.wrap .i64 (7*t8)))),IntKind.wrap .i64 ((IntKind.wrap .i64 (t1+t8))+1),true)) ((Dq.l5 k n) t0 t1 (bits .or .u64 t7 (qV .u64 (IntKind.wrap .u64 (bits .and .u8 y2 127)) (IntKind.wrap .i64 (7*t8)))) (IntKind.wrap .i64 (t8+1)))) none)) (Dq.c12 k)
def Dq(k:Nat)(t0:List Int)(t1:Int):Option (Int×Int×Bool):=
 cond (decide (t1<0)) (some (0,0,false)) (Dq.l5 k k t0 t1 0 0)
def GU(k:Nat)(o0:A_)(Ba:List AR):Option (Int×A_×(List AR)):=
 (Dq k o0.1 o0.2.1).bind fun r1=>(cond (o0.2.2.2.1 !=0) (some true) (some (!r1.2.2))).bind fun b2=>cond b2 ((ER k 1 o0 Ba).bind fun r3=>some (0,(r3.2.1,r3.2.2))) (some (r1.1,((o0.1,r1.2.1,(),o0.2.2.2.1,()),Ba)))
def DT.c6(k:Nat)(t3:Int)(o0:A_)(Ba:List AR):Option (ByteArray×A_×(List AR)):=
 cond (o0.2.2.2.1 !=0) (some (A7,(o0,Ba))) (cond (jM (IntKind.wrap .i64 ((IntKind.wrap .i64 (o0.2.1+t3))-t3)) (IntKind.wrap .i64 (o0.2.1+t3)) (List.length o0.1)) (some (yM (kP o0.1 (IntKind.wrap .i64 ((IntKind.wrap .i64 (o0.2.1+t3))-t3)) (IntKind.wrap .i64 (o0.2.1+t3))),((o0.1,IntKind.wrap .i64 (o0.2.1+t3),(),o0.2.2.2.1,()),Ba))) none)
def DT.c4(k:Nat)(t3:Int)(o0:A_)(Ba:List AR):Option (ByteArray×A_×(List AR)):=
 (cond (o0.2.2.2.1==0) (some (decide (t3>(IntKind.wrap .i64 ((List.length o0.1:Int)-o0.2.1))))) (some false)).bind fun b1=>cond b1 ((ER k 1 o0 Ba).bind fun r2=>DT.c6 k t3 r2.2.1 r2.2.2) (DT.c6 k t3 o0 Ba)
def DT(k:Nat)(o0:A_)(Ba:List AR):Option (ByteArray×A_×(List AR)):=
 (GU k o0 Ba).bind fun r3=>(cond (r3.2.1.2.2.2.1==0) ((Cq k r3.1 0 300).bind fun r4=>some (!r4)) (some false)).bind fun b5=>cond b5 ((ER k 4 r3.2.1 r3.2.2).bind fun r6=>DT.c4 k r3.1 r6.2.1 r6.2.2) (DT.c4 k r3.1 r3.2.1 r3.2.2)
def Ho(k:Nat)(o0:A_)(Ba:List AR):Option (Int×A_×(List AR)):=
 (cond (o0.2.2.2.1 !=0) (some true) (some (decide (o0.2.1≥(List.length o0.1:Int))))).bind fun b1=>cond b1 ((ER k 1 o0 Ba).bind fun r2=>some (0,(r2.2.1,r2.2.2))) ((gP o0.1 (IntKind.wrap .i64 ((IntKind.wrap .i64 (o0.2.1+1))-1))).bind fun y3=>some (IntKind.wrap .i64 y3,((o0.1,IntKind.wrap .i64 (o0.2.1+1),(),o0.2.2.2.1,()),Ba)))
def Bh.c8(k:Nat)(t8:Int)(t9:Int)(o0:A_)(AO:List AR):Option (Unit×A_×(List AR)):=
 (gP AO t8).bind fun y1=>(gP AO t8).bind fun y2=>some ((),(o0,List.set AO (Int.toNat t8) (y2.1,y2.2.1,t9,y2.2.2.2.1,y2.2.2.2.2.1,())))
def Bh.d10(k:Nat)(t8:Int)(o0:A_)(AO:List AR):Option (Unit×A_×(List AR)):=
 (DT k o0 AO).bind fun r3=>(gP r3.2.2 t8).bind fun y4=>(gP r3.2.2 t8).bind fun y5=>some ((),(r3.2.1,List.set r3.2.2 (Int.toNat t8) (y5.1,y5.2.1,y5.2.2.1,r3.1,y5.2.2.2.2.1,())))
def Bh.c5(k:Nat)(EY:Int→Int→A_→(List AR)→Option (Unit×A_×(List AR)))(EZ:Int→Int→A_→(List AR)→Option (Unit×A_×(List AR)))(t1:Int)(t3:Int)(t8:Int)(t21:Int)(t22:Bool)(o0:A_)(AO:List AR):Option (Unit×A_×(List AR)):=
 cond t22 ((GU k o0 AO).bind fun BC=>(F8 k BC.1).bind fun Cs=>(cond (t1==5) (some (BC.2.1.2.2.2.1==0)) (some false)).bind fun b14=>(cond b14 ((GR k Cs).bind fun BH=>some (!BH)) (some false)).bind fun b16=>cond b16 ((ER k 3 BC.2.1 BC.2.2).bind fun DJ=>Bh.c8 k t8 Cs DJ.2.1 DJ.2.2) (Bh.c8 k t8 Cs BC.2.1 BC.2.2)) (cond (t21==8) (Bh.d10 k t8 o0 AO) (cond (t21==9) ((EY t8 t3 o0 AO).bind fun IP=>some ((),(IP.2.1,IP.2.2))) (cond (t21==12) ((EZ t8 t3 o0 AO).bind fun Dy=>some ((),(Dy.2.1,Dy.2.2))) (some ((),(o0,AO))))))
def Bh.b(k:Nat)(Cc:Int→Int→Int→A_→(List AR)→Option (Unit×A_×(List AR)))(EY:Int→Int→A_→(List AR)→Option (Unit×A_×(List AR)))(EZ:Int→Int→A_→(List AR)→Option (Unit×A_×(List AR)))(t1:Int)(t2:Int)(t3:Int)(o0:A_)(Ba:List AR):Option (Unit×A_×(List AR)):=
 (Gq k (t1,t2,0,A7,0,()) t3 o0 Ba).bind fun EJ=>cond (EJ.2.1.2.2.2.1 !=0) (some ((),(EJ.2.1,EJ.2.2))) (cond (t1==5) (Bh.c5 k EY EZ t1 t3 EJ.1 t1 (t1==5) EJ.2.1 EJ.2.2) (Bh.c5 k EY EZ t1 t3 EJ.1 t1 (t1==6) EJ.2.1 EJ.2.2))
def Ca.DI(k:Nat)(Cc:Int→Int→Int→A_→(List AR)→Option (Unit×A_×(List AR))):Nat→Int→Int→Int→Int→A_→(List AR)→Option (Unit×A_×(List AR))
 |0,_,_,_,_,_,_=>none
 |n+1,t2,t7,t8,t9,o0,AO=>
  (cond (decide (t9<t7)) (some (o0.2.2.2.1==0)) (some false)).bind fun b1=>cond b1 ((Cc t8 0 (IntKind.wrap .i64 (t2+1)) o0 AO).bind fun r2=>(Ca.DI k Cc n) t2 t7 t8 (IntKind.wrap .i64 (t9+1)) r2.2.1 r2.2.2) (some ((),(o0,AO)))
def Ca.c9(k:Nat)(Cc:Int→Int→Int→A_→(List AR)→Option (Unit×A_×(List AR)))(t1:Int)(t2:Int)(t7:Int)(t8:Int)(o0:A_)(Ba:List AR):Option (Unit×A_×(List AR)):=
 (gP Ba t1).bind fun y3=>(gP Ba t1).bind fun y4=>(gP (List.set Ba (Int.toNat t1) (y4.1,y4.2.1,y4.2.2.1,y4.2.2.2.1,t7,())) t1).bind fun y5=>(gP (List.set Ba (Int.toNat t1) (y4.1,y4.2.1,y4.2.2.1,y4.2.2.2.1,t7,())) t1).bind fun y6=>Ca.DI k Cc k t2 t7 t8 0 o0 (List.set (List.set Ba (Int.toNat t1) (y4.1,y4.2.1,y4.2.2.1,y4.2.2.2.1,t7,())) (Int.toNat t1) (y6.1,y6.2.1,t8,y6.2.2.2.1,y6.2.2.2.2.1,()))
def Ca.c7(k:Nat)(Cc:Int→Int→Int→A_→(List AR)→Option (Unit×A_×(List AR)))(t1:Int)(t2:Int)(t7:Int)(t8:Int)(o0:A_)(Ba:List AR):Option (Unit×A_×(List AR)):=
 (Cq k t7 0 1500).bind fun r7=>cond (!r7) ((ER k 4 o0 Ba).bind fun r8=>Ca.c9 k Cc t1 t2 t7 t8 r8.2.1 r8.2.2) (Ca.c9 k Cc t1 t2 t7 t8 o0 Ba)
def Ca.c4(k:Nat)(Cc:Int→Int→Int→A_→(List AR)→Option (Unit×A_×(List AR)))(t1:Int)(t2:Int)(t7:Int)(t8:Int)(o0:A_)(Ba:List AR):Option (Unit×A_×(List AR)):=
 (cond (o0.2.2.2.1 !=0) (some true) (some (t7==0))).bind fun b9=>cond b9 (some ((),(o0,Ba))) ((Eo k t8 true).bind fun BP=>cond (!BP) ((ER k 2 o0 Ba).bind fun CF=>Ca.c7 k Cc t1 t2 t7 t8 CF.2.1 CF.2.2) (Ca.c7 k Cc t1 t2 t7 t8 o0 Ba))
def Ca.b(k:Nat)(Cc:Int→Int→Int→A_→(List AR)→Option (Unit×A_×(List AR)))(EY:Int→Int→A_→(List AR)→Option (Unit×A_×(List AR)))(EZ:Int→Int→A_→(List AR)→Option (Unit×A_×(List AR)))(t1:Int)(t2:Int)(o0:A_)(Ba:List AR):Option (Unit×A_×(List AR)):=
 (Ho k o0 Ba).bind fun BC=>cond ((IntKind.wrap .i64 (Int.tdiv BC.1 16))==15) ((GU k BC.2.1 BC.2.2).bind fun Cs=>Ca.c4 k Cc t1 t2 Cs.1 (Int.tmod BC.1 16) Cs.2.1 Cs.2.2) (Ca.c4 k Cc t1 t2 (IntKind.wrap .i64 (Int.tdiv BC.1 16)) (Int.tmod BC.1 16) BC.2.1 BC.2.2)
def BG.c12(k:Nat)(Cc:Int→Int→Int→A_→(List AR)→Option (Unit×A_×(List AR)))(L1:Int→Int→Int→A_→(List AR)→Option (Unit×A_×(List AR)))(t1:Int)(t2:Int)(t8:Int)(t9:Int)(o0:A_)(AO:List AR):Option (Unit×A_×(List AR)):=
 cond (o0.2.2.2.1 !=0) (some ((),(o0,AO))) ((gP AO t1).bind fun y1=>(gP AO t1).bind fun y2=>(gP AO t1).bind fun y3=>(Cc t8 t9 (IntKind.wrap .i64 (t2+1)) o0 (List.set AO (Int.toNat t1) (y3.1,y3.2.1,y3.2.2.1,y3.2.2.2.1,IntKind.wrap .i64 (y1.2.2.2.2.1+1),()))).bind fun r4=>L1 t1 t2 t9 r4.2.1 r4.2.2)
def BG.c10(k:Nat)(Cc:Int→Int→Int→A_→(List AR)→Option (Unit×A_×(List AR)))(L1:Int→Int→Int→A_→(List AR)→Option (Unit×A_×(List AR)))(t1:Int)(t2:Int)(t6:Int)(t8:Int)(t9:Int)(o0:A_)(AO:List AR):Option (Unit×A_×(List AR)):=
 (cond (o0.2.2.2.1==0) (some (decide (t9≤t6))) (some false)).bind fun b5=>cond b5 ((ER k 5 o0 AO).bind fun r6=>BG.c12 k Cc L1 t1 t2 t8 t9 r6.2.1 r6.2.2) (BG.c12 k Cc L1 t1 t2 t8 t9 o0 AO)
def BG.c8(k:Nat)(Cc:Int→Int→Int→A_→(List AR)→Option (Unit×A_×(List AR)))(L1:Int→Int→Int→A_→(List AR)→Option (Unit×A_×(List AR)))(t1:Int)(t2:Int)(t6:Int)(t8:Int)(t9:Int)(o0:A_)(AO:List AR):Option (Unit×A_×(List AR)):=
 (cond (o0.2.2.2.1==0) ((Cq k t9 1 1000).bind fun r7=>some (!r7)) (some false)).bind fun b8=>cond b8 ((ER k 3 o0 AO).bind fun r9=>BG.c10 k Cc L1 t1 t2 t6 t8 t9 r9.2.1 r9.2.2) (BG.c10 k Cc L1 t1 t2 t6 t8 t9 o0 AO)
def BG.c6(k:Nat)(Cc:Int→Int→Int→A_→(List AR)→Option (Unit×A_×(List AR)))(L1:Int→Int→Int→A_→(List AR)→Option (Unit×A_×(List AR)))(t1:Int)(t2:Int)(t6:Int)(t7:Int)(t8:Int)(t9:Int)(o0:A_)(AO:List AR):Option (Unit×A_×(List AR)):=
 cond (decide (t7<16)) ((GU k o0 AO).bind fun BP=>(F8 k BP.1).bind fun CF=>BG.c8 k Cc L1 t1 t2 t6 t8 CF BP.2.1 BP.2.2) (BG.c8 k Cc L1 t1 t2 t6 t8 t9 o0 AO)
def BG.l1(k:Nat)(Cc:Int→Int→Int→A_→(List AR)→Option (Unit×A_×(List AR))):Nat→Int→Int→Int→A_→(List AR)→Option (Unit×A_×(List AR))
 |0,_,_,_,_,_=>none
 |n+1,t1,t2,t6,o0,AO=>
  (Ho k o0 AO).bind fun BC=>(cond (BC.2.1.2.2.2.1 !=0) (some true) (some (BC.1==0))).bind fun b13=>cond b13 (some ((),(BC.2.1,BC.2.2))) ((Eo k (Int.tmod BC.1 16) false).bind fun Ct=>cond (!Ct) ((ER k 2 BC.2.1 BC.2.2).bind fun BH=>BG.c6 k Cc (BG.l1 k Cc n) t1 t2 t6 BC.1 (Int.tmod BC.1 16) (IntKind.wrap .i64 (t6+(IntKind.wrap .i64 (Int.tdiv BC.1 16)))) BH.2.1 BH.2.2) (BG.c6 k Cc (BG.l1 k Cc n) t1 t2 t6 BC.1 (Int.tmod BC.1 16) (IntKind.wrap .i64 (t6+(IntKind.wrap .i64 (Int.tdiv BC.1 16)))) BC.2.1 BC.2.2))
def BG.b(k:Nat)(Cc:Int→Int→Int→A_→(List AR)→Option (Unit×A_×(List AR)))(EY:Int→Int→A_→(List AR)→Option (Unit×A_×(List AR)))(EZ:Int→Int→A_→(List AR)→Option (Unit×A_×(List AR)))(t1:Int)(t2:Int)(o0:A_)(Ba:List AR):Option (Unit×A_×(List AR)):=
 BG.l1 k Cc k t1 t2 0 o0 Ba
def Bh.rec(k:Nat):Nat→(Int→Int→Int→A_→(List AR)→Option (Unit×A_×(List AR)))×(Int→Int→A_→(List AR)→Option (Unit×A_×(List AR)))×(Int→Int→A_→(List AR)→Option (Unit×A_×(List AR)))
 |0=>(fun _ _ _ _ _=>none,fun _ _ _ _=>none,fun _ _ _ _=>none)
 |d+1=>(Bh.b k ((Bh.rec k d).1) ((Bh.rec k d).2.1) ((Bh.rec k d).2.2),Ca.b k ((Bh.rec k d).1) ((Bh.rec k d).2.1) ((Bh.rec k d).2.2),BG.b k ((Bh.rec k d).1) ((Bh.rec k d).2.1) ((Bh.rec k d).2.2))
def Bh.d(k d:Nat):Int→Int→Int→A_→(List AR)→Option (Unit×A_×(List AR)):=(Bh.rec k d).1
def Bh(k:Nat):Int→Int→Int→A_→(List AR)→Option (Unit×A_×(List AR)):=Bh.d k k
def Ca.d(k d:Nat):Int→Int→A_→(List AR)→Option (Unit×A_×(List AR)):=(Bh.rec k d).2.1
def Ca(k:Nat):Int→Int→A_→(List AR)→Option (Unit×A_×(List AR)):=Ca.d k k
def BG.d(k d:Nat):Int→Int→A_→(List AR)→Option (Unit×A_×(List AR)):=(Bh.rec k d).2.2
def BG(k:Nat):Int→Int→A_→(List AR)→Option (Unit×A_×(List AR)):=BG.d k k
def Gm(k:Nat)(t0:List Int)(t1:Int):Option ((Unit×Int×Int)×(List AR)):=
 (Cq k t1 0 (IntKind.wrap .i64 ((List.length t0:Int)-1))).bind fun r1=>cond (!r1) (some (((),0,1),[])) ((Bh k 12 0 1 (t0,t1,(),0,()) []).bind fun r2=>cond (r2.2.1.2.2.2.1 !=0) (some (((),0,r2.2.1.2.2.2.1),[])) (some (((),r2.2.1.2.1,0),r2.2.2)))
def J3(k:Nat)(t0:Bu):Option Bool:=
 (Iy k t0.1).bind fun r1=>(cond r1 ((Cq k t0.2.2.1 0 6).bind fun r2=>some (r2)) (some false)).bind fun b3=>(cond b3 ((Cq k t0.2.1 0 t0.2.2.1).bind fun r4=>some (r4)) (some false)).bind fun b5=>some b5
def Ew.l5(k:Nat):Nat→Int→Int→Int→Int→Bc→(List Int)→Option (Int×Bc×(List Int))
 |0,_,_,_,_,_,_=>none
 |n+1,t2,t7,t37,t38,o0,Ba=>
  cond (decide (t38<t37)) ((gP o0.1 t7).bind fun y1=>cond (y1.2.1==t2) (some (t7,(o0,Ba))) ((gP Ba t7).bind fun y2=>(Ew.l5 k n) t2 y2 t37 (IntKind.wrap .i64 (t38+1)) o0 Ba)) (some ((-1),(o0,Ba)))
def Ew(k:Nat)(t1:Int)(t2:Int)(o0:Bool×Bc)(Ba:List Int):Option (Int×Bc×(List Int)):=
 cond (o0.1) ((Cq k t1 0 (IntKind.wrap .i64 ((List.length o0.2.1:Int)-1))).bind fun r3=>(cond (!r3) (some true) ((gP o0.2.1 t1).bind fun y4=>some (y4.1 !=12))).bind fun b5=>cond b5 (some ((-1),(o0.2,Ba))) ((gP o0.2.1 t1).bind fun y6=>Ew.l5 k k t2 (IntKind.wrap .i64 (t1+1)) y6.2.2.2.2.1 0 o0.2 Ba)) none
def GV(k:Nat)(t1:Int)(t2:Int)(t3:Int)(o0:Bool×Bc)(Ba:List Int):Option ((AR×Bool)×Bc×(List Int)):=
 (Ew k t1 t2 (o0.1,o0.2) Ba).bind fun r1=>(cond (decide (r1.1<0)) (some true) ((gP r1.2.1.1 r1.1).bind fun y2=>some (y2.1 !=t3))).bind fun b3=>cond b3 (some (((0,0,0,A7,0,()),false),(r1.2.1,r1.2.2))) ((gP r1.2.1.1 r1.1).bind fun y4=>some ((y4,true),(r1.2.1,r1.2.2)))
def Jr(k:Nat)(t1:Int)(t2:Int)(o0:Bool×Bc)(Ba:List Int):Option ((Int×Bool)×Bc×(List Int)):=
 (Ew k t1 t2 (o0.1,o0.2) Ba).bind fun r1=>(cond (decide (r1.1<0)) (some true) ((gP r1.2.1.1 r1.1).bind fun y2=>(cond (y2.1 !=5) ((gP r1.2.1.1 r1.1).bind fun y3=>some (y3.1 !=6)) (some false)).bind fun b4=>some (b4))).bind fun b5=>cond b5 (some ((0,false),(r1.2.1,r1.2.2))) ((gP r1.2.1.1 r1.1).bind fun y6=>some ((y6.2.2.1,true),(r1.2.1,r1.2.2)))
def E9.c4(k:Nat)(t5:Int)(o0:DC)(Ba:Bc)(D8:List Int):Option (Int×DC×Bc×(List Int)):=
 some (t5,(o0,Ba,D8))
def E9(k:Nat)(t1:Int)(o0:DC)(Ba:Bool×Bc)(D8:List Int):Option (Int×DC×Bc×(List Int)):=
 (Jr k o0.2.1 t1 (Ba.1,Ba.2) D8).bind fun r1=>cond (!r1.1.2) (E9.c4 k r1.1.1 ((),o0.2.1,true,()) r1.2.1 r1.2.2) (E9.c4 k r1.1.1 o0 r1.2.1 r1.2.2)
def Fp.c4(k:Nat)(t7:Int)(o0:DC)(Ba:Bc)(D8:List Int):Option (Int×DC×Bc×(List Int)):=
 some (t7,(o0,Ba,D8))
def Fp(k:Nat)(t1:Int)(t2:Int)(o0:DC)(Ba:Bc)(D8:List Int):Option (Int×DC×Bc×(List Int)):=
 (Jr k o0.2.1 t1 (true,Ba) D8).bind fun r1=>(cond (!r1.1.2) (some true) (some (decide (r1.1.1<t2)))).bind fun b2=>cond b2 (Fp.c4 k r1.1.1 ((),o0.2.1,true,()) r1.2.1 r1.2.2) (Fp.c4 k r1.1.1 o0 r1.2.1 r1.2.2)
def J5(k:Nat)(t1:Int)(o0:DC)(Ba:Bc)(D8:List Int):Option (Unit×DC×Bc×(List Int)):=
 (Ew k o0.2.1 t1 (true,Ba) D8).bind fun r1=>(cond (decide (r1.1<0)) (some true) ((gP r1.2.1.1 r1.1).bind fun y2=>some (y2.1 !=12))).bind fun b3=>cond b3 (some ((),(((),o0.2.1,true,()),r1.2.1,r1.2.2))) (some ((),(((),r1.1,o0.2.2.1,()),r1.2.1,r1.2.2)))
def FO.l3(k:Nat):Nat→(List Int)→Int→Int→(List AV)→Option (Unit×(List AV))
 |0,_,_,_,_=>none
 |n+1,t7,t8,t9,AO=>
  cond (decide (t9<t8)) ((gP t7 t9).bind fun y1=>cond (lim (List.length AO+List.length ([(y1,A7,())]:List AV))) ((FO.l3 k n) t7 t8 (IntKind.wrap .i64 (t9+1)) (AO++[(y1,A7,())])) none) (some ((),AO))
def FO(k:Nat)(t0:List Int):Option (Unit×(List AV)):=
 FO.l3 k k t0 (List.length t0:Int) 0 []
def KR(k:Nat)(t0:Int)(t1:Int):Option Int:=
 (Cq k t0 0 2000).bind fun r1=>(cond (!r1) (some true) ((Cq k t1 0 62).bind fun r2=>some (!r2))).bind fun b3=>cond b3 (some (-1)) (some (IntKind.wrap .i64 (Int.tdiv (IntKind.wrap .i64 ((IntKind.wrap .i64 (t0*t1))+7)) 8)))
def Mh(k:Nat)(t0:List Int)(t1:Int):Option Int:=
 (cond (decide (t1<0)) (some true) (some (decide ((IntKind.wrap .i64 (Int.tdiv t1 8))≥(List.length t0:Int))))).bind fun b1=>cond b1 (some (-1)) ((gP t0 (IntKind.wrap .i64 (Int.tdiv t1 8))).bind fun y2=>cond (decide (0≤(Int.tmod t1 8))) (some (IntKind.wrap .i64 (bits .and .u8 (qW .u8 y2 (Int.tmod t1 8)) 1))) none)
def DY.l7(k:Nat)(L3:(List Int)→Int→Int→Int→Int→(List Int)→Option (Unit×(List Int))):Nat→(List Int)→Int→Int→Int→Int→Int→Int→Int→Int→(List Int)→Option (Unit×(List Int))
 |0,_,_,_,_,_,_,_,_,_,_=>none
 |n+1,t0,t1,t3,t10,t11,t14,t15,t18,t19,AO=>
  cond (decide (t19<t18)) ((Mh k t0 (IntKind.wrap .i64 ((IntKind.wrap .i64 ((IntKind.wrap .i64 (8*t1))+(IntKind.wrap .i64 (t10*t3))))+t19))).bind fun r1=>cond (decide (0≤t19)) ((DY.l7 k L3 n) t0 t1 t3 t10 (bits .or .i64 t11 (qV .i64 r1 t19)) t14 t15 t18 (IntKind.wrap .i64 (t19+1)) AO) none) (cond (lim (List.length AO+List.length [t11])) (L3 t0 t1 t3 t14 (IntKind.wrap .i64 (t15+1)) (AO++[t11])) none)
def DY.l3(k:Nat):Nat→(List Int)→Int→Int→Int→Int→(List Int)→Option (Unit×(List Int))
 |0,_,_,_,_,_,_=>none
 |n+1,t0,t1,t3,t14,t15,AO=>
  cond (decide (t15<t14)) (DY.l7 k (DY.l3 k n) k t0 t1 t3 t15 0 t14 t15 t3 0 AO) (some ((),AO))
def DY(k:Nat)(t0:List Int)(t1:Int)(t2:Int)(t3:Int):Option (Unit×(List Int)):=
 DY.l3 k k t0 t1 t3 t2 0 []
def JZ(k:Nat)(t0:List Int)(t1:Int)(t2:Int)(t3:Int):Option ((Unit×Int×Bool)×(List Int)):=
 (KR k t2 t3).bind fun r1=>(cond (decide (r1<0)) (some true) ((Cq k t1 0 (List.length t0:Int)).bind fun r2=>some (!r2))).bind fun b3=>(cond b3 (some true) (some (decide (r1>(IntKind.wrap .i64 ((List.length t0:Int)-t1)))))).bind fun b4=>cond b4 (some (((),0,false),[])) ((DY k t0 t1 t2 t3).bind fun r5=>some (((),IntKind.wrap .i64 (t1+r1),true),r5.2))
def ED.l5(k:Nat):Nat→(List Int)→Int→Int→Int→Int→Int→Option (Int×Int×Bool)
 |0,_,_,_,_,_,_=>none
 |n+1,t0,t1,t2,t9,t26,t27=>
  cond (decide (t27<t26)) ((gP t0 (IntKind.wrap .i64 (t1+t27))).bind fun y1=>cond (decide (0≤(IntKind.wrap .i64 (8*t27)))) ((ED.l5 k n) t0 t1 t2 (bits .or .i64 t9 (qV .i64 (IntKind.wrap .i64 y1) (IntKind.wrap .i64 (8*t27)))) t26 (IntKind.wrap .i64 (t27+1))) none) (some (t9,IntKind.wrap .i64 (t1+t2),true))
def ED(k:Nat)(t0:List Int)(t1:Int)(t2:Int):Option (Int×Int×Bool):=
 (Cq k t2 1 8).bind fun r2=>(cond (!r2) (some true) (some (decide (t1<0)))).bind fun b3=>(cond b3 (some true) (some (decide (t1>(IntKind.wrap .i64 ((List.length t0:Int)-t2)))))).bind fun b4=>cond b4 (some (0,0,false)) (ED.l5 k k t0 t1 t2 0 t2 0)
def IE(k:Nat)(t0:Int)(t1:Int):Option Int:=
 cond (t1==4) (some (IntKind.wrap .i64 (IntKind.wrap .i32 t0))) (some t0)
def J6(k:Nat)(t0:Int)(t1:List Int)(t2:Int):Option (AV×Int×Bool):=
 cond (t0 !=6) ((Ed k t0).bind fun r1=>(ED k t1 t2 r1).bind fun r2=>(Ed k t0).bind fun r3=>(IE k r2.1 r3).bind fun r4=>some ((r4,A7,()),r2.2.1,r2.2.2)) ((ED k t1 t2 4).bind fun r5=>(cond (!r5.2.2) (some true) (some (decide (r5.1>40)))).bind fun b6=>(cond b6 (some true) (some (decide (r5.1>(IntKind.wrap .i64 ((List.length t1:Int)-r5.2.1)))))).bind fun b7=>cond b7 (some ((0,A7,()),0,false)) (cond (jM r5.2.1 (IntKind.wrap .i64 (r5.2.1+r5.1)) (List.length t1)) (some ((0,yM (kP t1 r5.2.1 (IntKind.wrap .i64 (r5.2.1+r5.1))),()),IntKind.wrap .i64 (r5.2.1+r5.1),true)) none))
def Em.l8(k:Nat):Nat→Int→(List Int)→Int→Int→Int→(List AV)→Option ((Unit×Int×Bool)×(List AV))
 |0,_,_,_,_,_,_=>none
 |n+1,t0,t1,t2,t48,t49,AO=>
  cond (decide (t49<t48)) ((J6 k t0 t1 t2).bind fun r1=>cond (!r1.2.2) (some (((),0,false),[])) (cond (lim (List.length AO+List.length [r1.1])) ((Em.l8 k n) t0 t1 r1.2.1 t48 (IntKind.wrap .i64 (t49+1)) (AO++[r1.1])) none)) (some (((),t2,true),AO))
def Em(k:Nat)(t0:Int)(t1:List Int)(t2:Int)(t3:Int):Option ((Unit×Int×Bool)×(List AV)):=
 (Iy k t0).bind fun r2=>(cond (!r2) (some true) ((Cq k t3 0 2000).bind fun r3=>some (!r3))).bind fun b4=>(cond b4 (some true) ((Cq k t2 0 (List.length t1:Int)).bind fun r5=>some (!r5))).bind fun b6=>cond b6 (some (((),0,false),[])) (cond (t0==0) ((JZ k t1 t2 t3 1).bind fun r7=>(FO k r7.2).bind fun r8=>some (((),r7.1.2.1,r7.1.2.2),r8.2)) (Em.l8 k k t0 t1 t2 t3 0 []))
def NB(k:Nat)(t0:Int)(t1:AV):Option ByteArray:=
 cond (t0==6) (some t1.2.1) ((C9 k t0 [t1]).bind fun r1=>some (yM r1.2))
def Js(k:Nat)(t0:Int)(t1:ByteArray):Option (AV×Bool):=
 cond (t0==6) ((FK k t0 (0,t1,())).bind fun r1=>some ((0,t1,()),r1)) ((Em k t0 (fH t1) 0 1).bind fun r2=>(cond (!r2.1.2.2) (some true) (some (r2.1.2.1 !=(t1.size:Int)))).bind fun b3=>(cond b3 (some true) ((gP r2.2 0).bind fun y4=>(NB k t0 y4).bind fun r5=>some (!ig r5 t1))).bind fun b6=>cond b6 (some ((0,A7,()),false)) ((gP r2.2 0).bind fun y7=>some (y7,true)))
def Mj(k:Nat)(t0:Int):Option Int:=
 cond (decide (t0<0)) (some (bits .xor .i64 t0 9223372036854775807)) (some t0)
def Iz.d5(k:Nat)(AO:AV)(AX:AV):Option Bool:=
 (Mj k AO.1).bind fun r1=>(Mj k AX.1).bind fun r2=>some (decide (r1<r2))
def Iz(k:Nat)(t0:Int)(t1:AV)(t2:AV):Option Bool:=
 (FK k t0 t1).bind fun r9=>(cond (!r9) (some true) ((FK k t0 t2).bind fun BP=>some (!BP))).bind fun b11=>cond b11 (some false) (cond (t0==5) (Iz.d5 k t1 t2) (cond (t0==6) (some (lG t1.2.1 t2.2.1)) (some (decide (t1.1<t2.1)))))
def KX(k:Nat)(t0:Bu)(t1:D5):Option Bool:=
 (J3 k t0).bind fun r1=>(cond (!r1) (some true) ((Cq k t1.1 0 2000).bind fun r2=>some (!r2))).bind fun b3=>cond b3 (some false) (cond (!t1.2.1) ((cond ((t1.2.2.1.1==0)&&(ig t1.2.2.1.2.1 A7&&true)) (some (((t1.2.2.2.1.1==0)&&(ig t1.2.2.2.1.2.1 A7&&true)))) (some false)).bind fun b4=>some b4) ((FK k t0.1 t1.2.2.1).bind fun r5=>(cond r5 ((FK k t0.1 t1.2.2.2.1).bind fun r6=>some (r6)) (some false)).bind fun b7=>(cond b7 ((Iz k t0.1 t1.2.2.2.1 t1.2.2.1).bind fun r8=>some (!r8)) (some false)).bind fun b9=>some b9))
def Fq.c13(k:Nat)(o0:Bc)(Ba:List Int)(AO:Bu)(AX:D5)(Be:D5):Option ((D5×Bool)×Bc×(List Int)):=
 (KX k AO Be).bind fun r1=>cond (!r1) (some (((0,false,(0,A7,()),(0,A7,()),()),false),(o0,Ba))) (some ((Be,true),(o0,Ba)))
def Fq.d12(k:Nat)(o0:Bc)(Ba:List Int)(AO:Bu)(AX:D5)(Be:D5)(Cj:AV)(Df:AV):Option ((D5×Bool)×Bc×(List Int)):=
 Fq.c13 k o0 Ba AO AX (Be.1,true,Df,Cj,())
def Fq(k:Nat)(t1:Bu)(t2:Int)(o0:Bool×Bc)(Ba:List Int):Option ((D5×Bool)×Bc×(List Int)):=
 (Jr k t2 3 (o0.1,o0.2) Ba).bind fun r2=>(cond (!r2.1.2) (some true) ((J3 k t1).bind fun r3=>some (!r3))).bind fun b4=>cond b4 (some (((0,false,(0,A7,()),(0,A7,()),()),false),(r2.2.1,r2.2.2))) ((Ew k t2 5 (true,r2.2.1) r2.2.2).bind fun r5=>cond (decide (r5.1≥0)) (cond true ((GV k t2 5 8 (true,r5.2.1) r5.2.2).bind fun r6=>(GV k t2 6 8 (true,r6.2.1) r6.2.2).bind fun r7=>(Js k t1.1 r6.1.1.2.2.2.1).bind fun r8=>(Js k t1.1 r7.1.1.2.2.2.1).bind fun r9=>(cond (!r6.1.2) (some true) (some (!r7.1.2))).bind fun b10=>(cond b10 (some true) (some (!r8.2))).bind fun b11=>(cond b11 (some true) (some (!r9.2))).bind fun b12=>cond b12 (some (((0,false,(0,A7,()),(0,A7,()),()),false),(r7.2.1,r7.2.2))) (Fq.d12 k r7.2.1 r7.2.2 t1 (0,false,(0,A7,()),(0,A7,()),()) (r2.1.1,false,(0,A7,()),(0,A7,()),()) r8.1 r9.1)) (Fq.c13 k r5.2.1 r5.2.2 t1 (0,false,(0,A7,()),(0,A7,()),()) (r2.1.1,false,(0,A7,()),(0,A7,()),()))) ((Ew k t2 6 (true,r5.2.1) r5.2.2).bind fun Cs=>cond (decide (Cs.1≥0)) ((GV k t2 5 8 (true,Cs.2.1) Cs.2.2).bind fun Ct=>(GV k t2 6 8 (true,Ct.2.1) Ct.2.2).bind fun BH=>(Js k t1.1 Ct.1.1.2.2.2.1).bind fun r16=>(Js k t1.1 BH.1.1.2.2.2.1).bind fun DJ=>(cond (!Ct.1.2) (some true) (some (!BH.1.2))).bind fun b18=>(cond b18 (some true) (some (!r16.2))).bind fun b19=>(cond b19 (some true) (some (!DJ.2))).bind fun b20=>cond b20 (some (((0,false,(0,A7,()),(0,A7,()),()),false),(BH.2.1,BH.2.2))) (Fq.d12 k BH.2.1 BH.2.2 t1 (0,false,(0,A7,()),(0,A7,()),()) (r2.1.1,false,(0,A7,()),(0,A7,()),()) r16.1 DJ.1)) (Fq.c13 k Cs.2.1 Cs.2.2 t1 (0,false,(0,A7,()),(0,A7,()),()) (r2.1.1,false,(0,A7,()),(0,A7,()),()))))
def KV(k:Nat)(t1:Bu)(t2:Int)(o0:DC)(o3:Bf)(Ba:Bc)(D8:List Int):Option (Unit×DC×Bf×Bc×(List Int)):=
 (Ew k o0.2.1 t2 (true,Ba) D8).bind fun r1=>cond (decide (r1.1≥0)) ((Fq k t1 r1.1 (true,r1.2.1) r1.2.2).bind fun r2=>some ((),(o0,(o3.1,o3.2.1,o3.2.2.1,o3.2.2.2.1,o3.2.2.2.2.1,o3.2.2.2.2.2.1,o3.2.2.2.2.2.2.1,o3.2.2.2.2.2.2.2.1,o3.2.2.2.2.2.2.2.2.1,o3.2.2.2.2.2.2.2.2.2.1,r2.1.2,r2.1.1,o3.2.2.2.2.2.2.2.2.2.2.2.2.1,()),r2.2.1,r2.2.2))) (some ((),(o0,o3,r1.2.1,r1.2.2)))
def CX.c23(k:Nat)(o0:DC)(o2:Bf)(Ba:Bc)(D8:List Int):Option (Unit×DC×Bf×Bc×(List Int)):=
 (Fp k 1 0 o0 Ba D8).bind fun r1=>(cond r1.2.1.2.2.1 (some true) (some (decide (r1.1>2000)))).bind fun b2=>some ((),(((),r1.2.1.2.1,b2,()),(o2.1,o2.2.1,r1.1,o2.2.2.2.1,o2.2.2.2.2.1,o2.2.2.2.2.2.1,o2.2.2.2.2.2.2.1,o2.2.2.2.2.2.2.2.1,o2.2.2.2.2.2.2.2.2.1,o2.2.2.2.2.2.2.2.2.2.1,o2.2.2.2.2.2.2.2.2.2.2.1,o2.2.2.2.2.2.2.2.2.2.2.2.1,o2.2.2.2.2.2.2.2.2.2.2.2.2.1,()),r1.2.2.1,r1.2.2.2))
def CX.c8(k:Nat)(o0:DC)(o2:Bf)(Ba:Bc)(D8:List Int)(AO:Bu):Option (Unit×DC×Bf×Bc×(List Int)):=
 (KV k AO 5 o0 o2 Ba D8).bind fun r3=>CX.c23 k r3.2.1 r3.2.2.1 r3.2.2.2.1 r3.2.2.2.2
def CX.c19(k:Nat)(o0:DC)(o2:Bf)(Ba:Bc)(D8:List Int)(AO:Bu):Option (Unit×DC×Bf×Bc×(List Int)):=
 (KV k AO 8 o0 o2 Ba D8).bind fun r4=>CX.c23 k r4.2.1 r4.2.2.1 r4.2.2.2.1 r4.2.2.2.2
def CX(k:Nat)(t1:Bu)(o0:DC)(o2:Bf)(Ba:Bc)(D8:List Int):Option (Unit×DC×Bf×Bc×(List Int)):=
 cond (o2.1==0) ((J5 k 5 o0 Ba D8).bind fun r5=>(E9 k 2 r5.2.1 (true,r5.2.2.1) r5.2.2.2).bind fun r6=>(E9 k 3 r6.2.1 (true,r6.2.2.1) r6.2.2.2).bind fun r7=>cond (r7.1 !=3) (cond true (CX.c8 k ((),r7.2.1.2.1,true,()) (o2.1,o2.2.1,o2.2.2.1,r6.1,o2.2.2.2.2.1,o2.2.2.2.2.2.1,o2.2.2.2.2.2.2.1,o2.2.2.2.2.2.2.2.1,o2.2.2.2.2.2.2.2.2.1,o2.2.2.2.2.2.2.2.2.2.1,o2.2.2.2.2.2.2.2.2.2.2.1,o2.2.2.2.2.2.2.2.2.2.2.2.1,o2.2.2.2.2.2.2.2.2.2.2.2.2.1,()) r7.2.2.1 r7.2.2.2 t1) (CX.c8 k r7.2.1 (o2.1,o2.2.1,o2.2.2.1,r6.1,o2.2.2.2.2.1,o2.2.2.2.2.2.1,o2.2.2.2.2.2.2.1,o2.2.2.2.2.2.2.2.1,o2.2.2.2.2.2.2.2.2.1,o2.2.2.2.2.2.2.2.2.2.1,o2.2.2.2.2.2.2.2.2.2.2.1,o2.2.2.2.2.2.2.2.2.2.2.2.1,o2.2.2.2.2.2.2.2.2.2.2.2.2.1,()) r7.2.2.1 r7.2.2.2 t1)) ((E9 k 4 r7.2.1 (true,r7.2.2.1) r7.2.2.2).bind fun r8=>cond (r8.1 !=3) (CX.c8 k ((),r8.2.1.2.1,true,()) (o2.1,o2.2.1,o2.2.2.1,r6.1,o2.2.2.2.2.1,o2.2.2.2.2.2.1,o2.2.2.2.2.2.2.1,o2.2.2.2.2.2.2.2.1,o2.2.2.2.2.2.2.2.2.1,o2.2.2.2.2.2.2.2.2.2.1,o2.2.2.2.2.2.2.2.2.2.2.1,o2.2.2.2.2.2.2.2.2.2.2.2.1,o2.2.2.2.2.2.2.2.2.2.2.2.2.1,()) r8.2.2.1 r8.2.2.2 t1) (CX.c8 k r8.2.1 (o2.1,o2.2.1,o2.2.2.1,r6.1,o2.2.2.2.2.1,o2.2.2.2.2.2.1,o2.2.2.2.2.2.2.1,o2.2.2.2.2.2.2.2.1,o2.2.2.2.2.2.2.2.2.1,o2.2.2.2.2.2.2.2.2.2.1,o2.2.2.2.2.2.2.2.2.2.2.1,o2.2.2.2.2.2.2.2.2.2.2.2.1,o2.2.2.2.2.2.2.2.2.2.2.2.2.1,()) r8.2.2.1 r8.2.2.2 t1))) (cond (o2.1==3) ((J5 k 8 o0 Ba D8).bind fun r9=>(Fp k 2 0 r9.2.1 r9.2.2.1 r9.2.2.2).bind fun BP=>(Fp k 3 0 BP.2.1 BP.2.2.1 BP.2.2.2).bind fun CF=>(E9 k 4 CF.2.1 (true,CF.2.2.1) CF.2.2.2).bind fun BC=>(Fp k 5 0 BC.2.1 BC.2.2.1 BC.2.2.2).bind fun Cs=>(Fp k 6 0 Cs.2.1 Cs.2.2.1 Cs.2.2.2).bind fun Ct=>(Ew k Ct.2.1.2.1 7 (true,Ct.2.2.1) Ct.2.2.2).bind fun BH=>(cond (decide (BH.1<0)) (some true) ((gP BH.2.1.1 BH.1).bind fun I9=>some (I9.1==1))).bind fun b17=>cond b17 (CX.c19 k ((),Ct.2.1.2.1,true,()) (o2.1,o2.2.1,o2.2.2.1,BC.1,CF.1,BP.1,Cs.1,Ct.1,o2.2.2.2.2.2.2.2.2.1,o2.2.2.2.2.2.2.2.2.2.1,o2.2.2.2.2.2.2.2.2.2.2.1,o2.2.2.2.2.2.2.2.2.2.2.2.1,o2.2.2.2.2.2.2.2.2.2.2.2.2.1,()) BH.2.1 BH.2.2 t1) (CX.c19 k Ct.2.1 (o2.1,o2.2.1,o2.2.2.1,BC.1,CF.1,BP.1,Cs.1,Ct.1,o2.2.2.2.2.2.2.2.2.1,o2.2.2.2.2.2.2.2.2.2.1,o2.2.2.2.2.2.2.2.2.2.2.1,o2.2.2.2.2.2.2.2.2.2.2.2.1,o2.2.2.2.2.2.2.2.2.2.2.2.2.1,()) BH.2.1 BH.2.2 t1)) (cond (o2.1==2) ((J5 k 7 o0 Ba D8).bind fun IP=>(E9 k 2 IP.2.1 (true,IP.2.2.1) IP.2.2.2).bind fun Dy=>CX.c23 k Dy.2.1 (o2.1,o2.2.1,o2.2.2.1,Dy.1,o2.2.2.2.2.1,o2.2.2.2.2.2.1,o2.2.2.2.2.2.2.1,o2.2.2.2.2.2.2.2.1,o2.2.2.2.2.2.2.2.2.1,o2.2.2.2.2.2.2.2.2.2.1,o2.2.2.2.2.2.2.2.2.2.2.1,o2.2.2.2.2.2.2.2.2.2.2.2.1,o2.2.2.2.2.2.2.2.2.2.2.2.2.1,()) Dy.2.2.1 Dy.2.2.2) (CX.c23 k ((),o0.2.1,true,()) o2 Ba D8)))
def DF.d14(k:Nat)(t1:List Int)(t9:Int)(t16:Bool)(AO:Bu)(AX:Bf)(Be:DC)(Cj:Bf)(Df:AR)(FP:Bc)(Ka:List Int):Option (Bf×Int):=
 (CX k AO Be (Cj.1,Cj.2.1,Cj.2.2.1,Cj.2.2.2.1,Cj.2.2.2.2.1,Cj.2.2.2.2.2.1,Cj.2.2.2.2.2.2.1,Cj.2.2.2.2.2.2.2.1,t16,bits .and .i64 Df.2.2.1 4294967295,Cj.2.2.2.2.2.2.2.2.2.2.1,Cj.2.2.2.2.2.2.2.2.2.2.2.1,Cj.2.2.2.2.2.2.2.2.2.2.2.2.1,()) FP Ka).bind fun r1=>cond r1.2.1.2.2.1 (some ((0,0,0,0,0,0,0,0,false,0,false,(0,false,(0,A7,()),(0,A7,()),()),0,()),1)) (cond (decide (r1.2.2.1.2.1>(IntKind.wrap .i64 ((List.length t1:Int)-t9)))) (some ((0,0,0,0,0,0,0,0,false,0,false,(0,false,(0,A7,()),(0,A7,()),()),0,()),2)) (some (r1.2.2.1,0)))
def DF.c14(k:Nat)(t1:List Int)(t9:Int)(t16:Bool)(AO:Bu)(AX:Bf)(Be:DC)(Cj:Bf)(Df:AR)(FP:Bc)(Ka:List Int):Option (Bf×Int):=
 DF.d14 k t1 t9 t16 AO AX Be Cj Df FP Ka
def DF.c11(k:Nat)(t1:List Int)(t9:Int)(AO:Bu)(AX:Bf)(Be:Bc)(Cj:DC)(Df:Bf)(FP:List Int):Option (Bf×Int):=
 (GV k 0 4 5 (true,Be) FP).bind fun r4=>(Ew k 0 4 (true,r4.2.1) r4.2.2).bind fun r5=>(cond (decide (r5.1≥0)) (some (!r4.1.2)) (some false)).bind fun b6=>cond b6 (DF.c14 k t1 t9 r4.1.2 AO AX ((),Cj.2.1,true,()) Df r4.1.1 r5.2.1 r5.2.2) (DF.c14 k t1 t9 r4.1.2 AO AX Cj Df r4.1.1 r5.2.1 r5.2.2)
def DF.d9(k:Nat)(t1:List Int)(t9:Int)(AO:Bu)(AX:Bf)(Be:Bc)(Cj:DC)(Df:Bf)(FP:List Int):Option (Bf×Int):=
 (E9 k 3 Cj (true,Be) FP).bind fun r7=>cond (r7.1 !=Df.2.1) (DF.c11 k t1 t9 AO AX r7.2.2.1 ((),r7.2.1.2.1,true,()) Df r7.2.2.2) (DF.c11 k t1 t9 AO AX r7.2.2.1 r7.2.1 Df r7.2.2.2)
def DF(k:Nat)(t0:Bu)(t1:List Int)(t2:Int):Option (Bf×Int):=
 (Gm k t1 t2).bind fun BP=>(Jq k BP.2).bind fun CF=>(J3 k t0).bind fun BC=>(cond (!BC) (some true) (some (BP.1.2.2 !=0))).bind fun b13=>(cond b13 (some true) (some (!CF.1.2))).bind fun b14=>cond b14 (some ((0,0,0,0,0,0,0,0,false,0,false,(0,false,(0,A7,()),(0,A7,()),()),0,()),1)) ((E9 k 1 ((),0,false,()) (CF.2.1.1,CF.2.1.2) CF.2.2).bind fun BH=>(Fp k 2 0 BH.2.1 BH.2.2.1 BH.2.2.2).bind fun r16=>DF.d9 k t1 BP.1.2.1 t0 (0,0,0,0,0,0,0,0,false,0,false,(0,false,(0,A7,()),(0,A7,()),()),0,()) r16.2.2.1 r16.2.1 (BH.1,r16.1,0,0,0,0,0,0,false,0,false,(0,false,(0,A7,()),(0,A7,()),()),BP.1.2.1,()) r16.2.2.2)
def GQ.d5(k:Nat)(t11:List Int)(AO:Bf)(AX:Bf):Option (Bf×(List Int)×Int):=
 cond AX.2.2.2.2.2.2.2.2.1 ((Jo k t11).bind fun r1=>cond (AX.2.2.2.2.2.2.2.2.2.1 !=r1) (some (AX,[],3)) (some (AX,t11,0))) (cond false (some (AX,[],3)) (some (AX,t11,0)))
def GQ(k:Nat)(t0:Bu)(t1:List Int)(t2:Int):Option (Bf×(List Int)×Int):=
 (DF k t0 t1 t2).bind fun r4=>cond (r4.2 !=0) (some (r4.1,[],r4.2)) (cond (jM r4.1.2.2.2.2.2.2.2.2.2.2.2.2.1 (IntKind.wrap .i64 (r4.1.2.2.2.2.2.2.2.2.2.2.2.2.1+r4.1.2.1)) (List.length t1)) (GQ.d5 k (kP t1 r4.1.2.2.2.2.2.2.2.2.2.2.2.2.1 (IntKind.wrap .i64 (r4.1.2.2.2.2.2.2.2.2.2.2.2.2.1+r4.1.2.1))) (0,0,0,0,0,0,0,0,false,0,false,(0,false,(0,A7,()),(0,A7,()),()),0,()) r4.1) none)
def Mi(k:Nat)(t0:Int)(t1:List Int)(t2:Int):Option ((Unit×Int×Int)×(List AV)):=
 (GQ k (t0,0,0,()) t1 t2).bind fun r1=>(cond (r1.2.2==0) (some true) (some (r1.2.2==3))).bind fun b2=>(cond b2 ((cond (r1.1.1 !=2) (some true) ((cond (r1.1.2.2.2.1 !=0) (some (r1.1.2.2.2.1 !=2)) (some false)).bind fun b3=>some (b3))).bind fun b4=>some (b4)) (some false)).bind fun b5=>cond b5 (some (((),0,1),[])) (cond (r1.2.2 !=0) (some (((),0,r1.2.2),[])) ((Em k t0 r1.2.1 0 r1.1.2.2.1).bind fun r6=>(cond (!r6.1.2.2) (some true) (some (r6.1.2.1 !=(List.length r1.2.1:Int)))).bind fun b7=>cond b7 (some (((),0,5),[])) (some (((),IntKind.wrap .i64 (r1.1.2.2.2.2.2.2.2.2.2.2.2.2.1+r1.1.2.1),0),r6.2))))
def FI.c11(k:Nat)(t0:Int)(t1:Int)(t23:Bool):Option Bool:=
 cond t23 (some (t1==6)) ((cond (t0==9) ((Ed k t1).bind fun r1=>some (decide (r1>0))) (some false)).bind fun b2=>some b2)
def FI.c4(k:Nat)(t0:Int)(t1:Int)(t5:Int)(t6:Bool):Option Bool:=
 cond t6 ((Iy k t1).bind fun r3=>some r3) (cond (t5==3) (some (t1==0)) (cond (t5==5) ((cond (t1==1) (some true) (some (t1==2))).bind fun b4=>some b4) (cond (t5==6) (FI.c11 k t0 t1 (t5==6)) (FI.c11 k t0 t1 (t5==7)))))
def FI(k:Nat)(t0:Int)(t1:Int):Option Bool:=
 cond (t0==0) (FI.c4 k t0 t1 t0 (t0==0)) (FI.c4 k t0 t1 t0 (t0==8))
def FN(k:Nat)(o0:Ec)(Ba:List Int):Option (Int×Ec×(List Int)):=
 (Dq k o0.1 o0.2.1).bind fun r1=>(cond o0.2.2.1 (some true) (some (!r1.2.2))).bind fun b2=>cond b2 (some (0,((o0.1,o0.2.1,true,(),()),Ba))) (some (r1.1,((o0.1,r1.2.1,o0.2.2.1,(),()),Ba)))
def J4(k:Nat)(t1:Int)(o0:Ec)(Ba:List Int):Option (Int×Ec×(List Int)):=
 (cond o0.2.2.1 (some true) (some (decide (t1>(IntKind.wrap .i64 ((List.length o0.1:Int)-o0.2.1)))))).bind fun b1=>cond b1 (some (0,((o0.1,o0.2.1,true,(),()),Ba))) (some (IntKind.wrap .i64 ((IntKind.wrap .i64 (o0.2.1+t1))-t1),((o0.1,IntKind.wrap .i64 (o0.2.1+t1),o0.2.2.1,(),()),Ba)))
def D6.d7(k:Nat)(L5:Int→Int→Int→Ec→(List Int)→(List Int)→Option (Unit×Ec×(List Int)))(t3:Int)(t12:Int)(t38:Int)(t39:Int)(o0:Ec)(AO:List Int)(AX:List Int):Option (Unit×Ec×(List Int)):=
 (gP AX (IntKind.wrap .i64 ((List.length AX:Int)-1))).bind fun y1=>cond (lim (List.length AX+List.length [IntKind.wrap .i64 ((IntKind.wrap .i64 (y1+t12))+t3)])) (L5 t3 t38 (IntKind.wrap .i64 (t39+1)) o0 AO (AX++[IntKind.wrap .i64 ((IntKind.wrap .i64 (y1+t12))+t3)])) none
def D6.l5(k:Nat):Nat→Int→Int→Int→Ec→(List Int)→(List Int)→Option (Unit×Ec×(List Int))
 |0,_,_,_,_,_,_=>none
 |n+1,t3,t38,t39,o0,AO,AX=>
  cond (decide (t39<t38)) ((gP AO t39).bind fun y4=>D6.d7 k (D6.l5 k n) t3 y4 t38 t39 o0 AO AX) (some ((),(o0,AX)))
def D6.c2(k:Nat)(t1:Int)(t2:Int)(t3:Int)(t4:Int)(o0:Ec)(Ba:List Int):Option (Unit×Ec×(List Int)):=
 (J4 k (IntKind.wrap .i64 (Int.tdiv (IntKind.wrap .i64 (t1*t2)) 8)) o0 Ba).bind fun r5=>cond r5.2.1.2.2.1 (some ((),(r5.2.1,r5.2.2))) ((DY k r5.2.1.1 r5.1 (if t4<t1 then t4 else t1) t2).bind fun r6=>D6.l5 k k t3 (List.length r6.2:Int) 0 r5.2.1 r6.2 r5.2.2)
def D6(k:Nat)(t1:Int)(t2:Int)(t3:Int)(t4:Int)(o0:Ec)(Ba:List Int):Option (Unit×Ec×(List Int)):=
 cond (decide (t2>64)) (D6.c2 k t1 t2 t3 t4 (o0.1,o0.2.1,true,(),()) Ba) (D6.c2 k t1 t2 t3 t4 o0 Ba)
def Cz.d22(k:Nat)(Q0:(List Int)→Int→Int→Int→Int→Int→Int→Ec→(List Int)→Option ((Unit×Int×Bool)×(List Int)))(t0:List Int)(t9:Int)(t10:Int)(t12:Int)(t13:Int)(t14:Int)(t15:Int)(AO:Ec)(AX:List Int):Option ((Unit×Int×Bool)×(List Int)):=
 (gP t0 (IntKind.wrap .i64 (t14+t15))).bind fun y1=>(D6 k t12 (IntKind.wrap .i64 y1) t13 (IntKind.wrap .i64 (t10-(List.length AX:Int))) AO AX).bind fun r2=>Q0 t0 t9 t10 t12 t13 t14 (IntKind.wrap .i64 (t15+1)) r2.2.1 r2.2.2
def Cz.ES(k:Nat)(GA:(List Int)→Int→Int→Int→Ec→(List Int)→Option ((Unit×Int×Bool)×(List Int))):Nat→(List Int)→Int→Int→Int→Int→Int→Int→Ec→(List Int)→Option ((Unit×Int×Bool)×(List Int))
 |0,_,_,_,_,_,_,_,_,_=>none
 |n+1,t0,t9,t10,t12,t13,t14,t15,AO,AX=>
  (cond (decide (t15<t9)) (some (decide ((List.length AX:Int)<t10))) (some false)).bind fun b7=>(cond b7 (some (!AO.2.2.1)) (some false)).bind fun b8=>cond b8 (Cz.d22 k (Cz.ES k GA n) t0 t9 t10 t12 t13 t14 t15 AO AX) (GA t0 t9 t10 t12 AO AX)
def Cz.Ch(k:Nat):Nat→(List Int)→Int→Int→Int→Ec→(List Int)→Option ((Unit×Int×Bool)×(List Int))
 |0,_,_,_,_,_,_=>none
 |n+1,t0,t9,t10,t12,AO,AX=>
  (cond (decide ((List.length AX:Int)<t10)) (some (!AO.2.2.1)) (some false)).bind fun b9=>cond b9 ((FN k AO AX).bind fun BP=>(F8 k BP.1).bind fun CF=>(J4 k t9 BP.2.1 BP.2.2).bind fun BC=>Cz.ES k (Cz.Ch k n) k t0 t9 t10 t12 CF BC.1 0 BC.2.1 BC.2.2) (cond AO.2.2.1 (some (((),0,false),[])) (some (((),AO.2.1,true),AX)))
def Cz(k:Nat)(t0:List Int)(t1:Int):Option ((Unit×Int×Bool)×(List Int)):=
 (Cq k t1 0 (List.length t0:Int)).bind fun Cs=>cond (!Cs) (some (((),0,false),[])) ((FN k (t0,t1,false,(),()) []).bind fun Ct=>(FN k Ct.2.1 Ct.2.2).bind fun BH=>(FN k BH.2.1 BH.2.2).bind fun r16=>(FN k r16.2.1 r16.2.2).bind fun DJ=>(F8 k DJ.1).bind fun IP=>(cond DJ.2.1.2.2.1 (some true) ((Cq k Ct.1 128 1024).bind fun Dy=>some (!Dy))).bind fun b20=>(cond b20 (some true) (some ((Int.tmod Ct.1 128) !=0))).bind fun LD=>(cond LD (some true) ((Cq k BH.1 1 Ct.1).bind fun r22=>some (!r22))).bind fun Ir=>(cond Ir (some true) ((Cq k r16.1 0 2000).bind fun Kg=>some (!Kg))).bind fun JH=>cond JH (some (((),0,false),[])) (cond (decide (BH.1≠0)) ((cond ((Int.tmod Ct.1 BH.1) !=0) (some true) (cond (decide (BH.1≠0)) (some ((Int.tmod (IntKind.wrap .i64 (Int.tdiv Ct.1 BH.1)) 32) !=0)) none)).bind fun Nb=>cond Nb (some (((),0,false),[])) (cond (r16.1==0) (some (((),DJ.2.1.2.1,true),[])) (cond (decide (BH.1≠0)) (Cz.Ch k k t0 BH.1 r16.1 (IntKind.wrap .i64 (Int.tdiv Ct.1 BH.1)) DJ.2.1 [IP]) none))) none))
def Gl.l6(k:Nat):Nat→(List Int)→Int→Int→Int→(List AV)→(List Int)→Option ((Unit×Int×Bool)×(List AV))
 |0,_,_,_,_,_,_=>none
 |n+1,t0,t8,t24,t25,AO,AX=>
  cond (decide (t25<t24)) ((gP AX t25).bind fun y1=>(Cq k y1 0 40).bind fun r2=>(cond (!r2) (some true) (some (decide (y1>(IntKind.wrap .i64 ((List.length t0:Int)-t8)))))).bind fun b3=>cond b3 (some (((),0,false),[])) (cond (jM t8 (IntKind.wrap .i64 (t8+y1)) (List.length t0)) (cond (lim (List.length AO+List.length [(0,yM (kP t0 t8 (IntKind.wrap .i64 (t8+y1))),())])) ((Gl.l6 k n) t0 (IntKind.wrap .i64 (t8+y1)) t24 (IntKind.wrap .i64 (t25+1)) (AO++[(0,yM (kP t0 t8 (IntKind.wrap .i64 (t8+y1))),())]) AX) none) none)) (some (((),t8,true),AO))
def Gl(k:Nat)(t0:List Int)(t1:Int):Option ((Unit×Int×Bool)×(List AV)):=
 (Cz k t0 t1).bind fun r4=>cond (!r4.1.2.2) (some (((),0,false),[])) (Gl.l6 k k t0 r4.1.2.1 (List.length r4.2:Int) 0 [] r4.2)
def GM.l10(k:Nat):Nat→Int→ByteArray→Int→Int→(List AV)→(List AV)→(List Int)→Option ((Unit×Int×Bool)×(List AV))
 |0,_,_,_,_,_,_,_=>none
 |n+1,t11,t13,t43,t44,AO,AX,Be=>
  cond (decide (t44<t43)) ((gP Be t44).bind fun y1=>(Cq k y1 0 (t13.size:Int)).bind fun r2=>(cond (!r2) (some true) ((gP AO t44).bind fun y3=>some (decide ((IntKind.wrap .i64 (y1+(y3.2.1.size:Int)))>40)))).bind fun b4=>cond b4 (some (((),0,false),[])) (cond (jM 0 y1 t13.size) ((gP AO t44).bind fun y5=>cond (lim ((ByteArray.extract t13 (Int.toNat 0) (Int.toNat y1)).size+y5.2.1.size)) (cond (lim (List.length AX+List.length [(0,(ByteArray.extract t13 (Int.toNat 0) (Int.toNat y1))++y5.2.1,())])) ((GM.l10 k n) t11 ((ByteArray.extract t13 (Int.toNat 0) (Int.toNat y1))++y5.2.1) t43 (IntKind.wrap .i64 (t44+1)) AO (AX++[(0,(ByteArray.extract t13 (Int.toNat 0) (Int.toNat y1))++y5.2.1,())]) Be) none) none) none)) (some (((),t11,true),AX))
def GM(k:Nat)(t0:List Int)(t1:Int):Option ((Unit×Int×Bool)×(List AV)):=
 (Cz k t0 t1).bind fun r6=>cond (!r6.1.2.2) (some (((),0,false),[])) ((Gl k t0 r6.1.2.1).bind fun r7=>(cond (!r7.1.2.2) (some true) (some ((List.length r7.2:Int) !=(List.length r6.2:Int)))).bind fun b8=>cond b8 (some (((),0,false),[])) (GM.l10 k k r7.1.2.1 A7 (List.length r6.2:Int) 0 r7.2 [] r6.2))
def Mk(k:Nat)(t0:Int):Option Int:=
 (Ed k t0).bind fun r1=>some r1
def En.l10(k:Nat)(L6:(List Int)→Int→Int→Int→Int→Int→(List AV)→Option ((Unit×Int×Bool)×(List AV))):Nat→(List Int)→Int→Int→Int→Int→Int→Int→Int→Int→Int→(List AV)→Option ((Unit×Int×Bool)×(List AV))
 |0,_,_,_,_,_,_,_,_,_,_,_=>none
 |n+1,t1,t2,t3,t11,t13,t14,t43,t44,t47,t48,AO=>
  cond (decide (t48<t47)) ((gP t1 (IntKind.wrap .i64 ((IntKind.wrap .i64 (t2+(IntKind.wrap .i64 (t48*t3))))+t13))).bind fun y1=>cond (decide (0≤(IntKind.wrap .i64 (8*t48)))) ((En.l10 k L6 n) t1 t2 t3 t11 t13 (bits .or .i64 t14 (qV .i64 (IntKind.wrap .i64 y1) (IntKind.wrap .i64 (8*t48)))) t43 t44 t47 (IntKind.wrap .i64 (t48+1)) AO) none) ((IE k t14 t11).bind fun r2=>cond (lim (List.length AO+List.length ([(r2,A7,())]:List AV))) (L6 t1 t2 t3 t11 t43 (IntKind.wrap .i64 (t44+1)) (AO++[(r2,A7,())])) none)
def En.l6(k:Nat):Nat→(List Int)→Int→Int→Int→Int→Int→(List AV)→Option ((Unit×Int×Bool)×(List AV))
 |0,_,_,_,_,_,_,_=>none
 |n+1,t1,t2,t3,t11,t43,t44,AO=>
  cond (decide (t44<t43)) (En.l10 k (En.l6 k n) k t1 t2 t3 t11 t44 0 t43 t44 t11 0 AO) (some (((),IntKind.wrap .i64 (t2+(IntKind.wrap .i64 (t3*t11))),true),AO))
def En(k:Nat)(t0:Int)(t1:List Int)(t2:Int)(t3:Int):Option ((Unit×Int×Bool)×(List AV)):=
 (Mk k t0).bind fun r3=>(cond (r3==0) (some true) ((Cq k t3 0 2000).bind fun r4=>some (!r4))).bind fun b5=>(cond b5 (some true) ((Cq k t2 0 (List.length t1:Int)).bind fun r6=>some (!r6))).bind fun b7=>(cond b7 (some true) (some (decide ((IntKind.wrap .i64 (t3*r3))>(IntKind.wrap .i64 ((List.length t1:Int)-t2)))))).bind fun b8=>cond b8 (some (((),0,false),[])) (En.l6 k k t1 t2 t3 r3 t3 0 [])
def bits_Len64.c10(k:Nat)(t0:Int)(t2:Int):Option Int:=
 (oO (⟨#[0,1,2,2,3,3,3,3,4,4,4,4,4,4,4,4,5,5,5,5,5,5,5,5,5,5,5,5,5,5,5,5,6,6,6,6,6,6,6,6,6,6,6,6,6,6,6,6,6,6,6,6,6,6,6,6,6,6,6,6,6,6,6,6,7,7,7,7,7,7,7,7,7,7,7,7,7,7,7,7,7,7,7,7,7,7,7,7,7,7,7,7,7,7,7,7,7,7,7,7,7,7,7,7,7,7,7,7,7,7,7,7,7,7,7,7,7,7,7,7,7,7,7,7,7,7,7,7,8,8,8,8,8,8,8,8,8,8,8,8,8,8,8,8,8,8,8,8,8,8,8,8,8,8,8,8,8,8,8,8,8,8,8,8,8,8,8,8,8,8,8,8,8,8,8,8,8,8,8,8,8,8,8,8,8,8,8,8,8,8,8,8,8,8,8,8,8,8,8,8,8,8,8,8,8,8,8,8,8,8,8,8,8,8,8,8,8,8,8,8,8,8,8,8,8,8,8,8,8,8,8,8,8,8,8,8,8,8,8,8,8,8,8,8,8,8,8,8,8,8,8,8,8,8,8,8]⟩:ByteArray) (IntKind.wrap .u8 t0)).bind fun y1=>some (IntKind.wrap .i64 (t2+(IntKind.wrap .i64 y1)))
def bits_Len64.c7(k:Nat)(t0:Int)(t2:Int):Option Int:=
 cond (decide (t0≥256)) (bits_Len64.c10 k (qW .u64 t0 8) (IntKind.wrap .i64 (t2+8))) (bits_Len64.c10 k t0 t2)
def bits_Len64.c4(k:Nat)(t0:Int)(t2:Int):Option Int:=
 cond (decide (t0≥65536)) (bits_Len64.c7 k (qW .u64 t0 16) (IntKind.wrap .i64 (t2+16))) (bits_Len64.c7 k t0 t2)
def bits_Len64(k:Nat)(t0:Int):Option Int:=
 cond (decide (t0≥4294967296)) (bits_Len64.c4 k (qW .u64 t0 32) 32) (bits_Len64.c4 k t0 0)
def IG(k:Nat)(t0:Int):Option Int:=
 (bits_Len64 k (IntKind.wrap .u64 t0)).bind fun r1=>some r1
def Mr(k:Nat)(t0:List Int)(t1:Int)(t2:Int):Option (Int×Int×Bool):=
 cond (t2==0) (some (0,t1,true)) ((KR k 1 t2).bind fun r1=>(ED k t0 t1 r1).bind fun r2=>(cond (!r2.2.2) (some true) ((IG k r2.1).bind fun r3=>some (decide (r3>t2)))).bind fun b4=>cond b4 (some (0,0,false)) (some (r2.1,r2.2.1,true)))
def DR.Ex(k:Nat)(L4:(List Int)→Int→Int→Int→(List Int)→Option ((Unit×Int×Bool)×(List Int))):Nat→(List Int)→Int→Int→Int→Int→Int→Int→(List Int)→Option ((Unit×Int×Bool)×(List Int))
 |0,_,_,_,_,_,_,_,_=>none
 |n+1,t0,t2,t3,t17,t18,t72,t73,AO=>
  cond (decide (t73<t72)) (cond (lim (List.length AO+List.length [t17])) ((DR.Ex k L4 n) t0 t2 t3 t17 t18 t72 (IntKind.wrap .i64 (t73+1)) (AO++[t17])) none) (L4 t0 t18 t2 t3 AO)
def DR.l4(k:Nat):Nat→(List Int)→Int→Int→Int→(List Int)→Option ((Unit×Int×Bool)×(List Int))
 |0,_,_,_,_,_=>none
 |n+1,t0,t1,t2,t3,AO=>
  cond (decide ((List.length AO:Int)<t2)) ((Dq k t0 t1).bind fun r1=>cond (!r1.2.2) (some (((),0,false),[])) (cond ((bits .and .i64 r1.1 1)==0) ((Mr k t0 r1.2.1 t3).bind fun r2=>cond (!r2.2.2) (some (((),0,false),[])) (DR.Ex k (DR.l4 k n) k t0 t2 t3 r2.1 r2.2.1 (if(IntKind.wrap .i64 (t2-(List.length AO:Int)))<(IntKind.wrap .i64 (qW .u64 (IntKind.wrap .u64 r1.1) 1)) then(IntKind.wrap .i64 (t2-(List.length AO:Int))) else(IntKind.wrap .i64 (qW .u64 (IntKind.wrap .u64 r1.1) 1))) 0 AO)) ((cond (decide ((IntKind.wrap .i64 (qW .u64 (IntKind.wrap .u64 r1.1) 1))>2000)) (some true) (some (decide ((IntKind.wrap .i64 ((IntKind.wrap .i64 (qW .u64 (IntKind.wrap .u64 r1.1) 1))*t3))>(IntKind.wrap .i64 ((List.length t0:Int)-r1.2.1)))))).bind fun b3=>cond b3 (some (((),0,false),[])) ((DY k t0 r1.2.1 (if(IntKind.wrap .i64 (t2-(List.length AO:Int)))<(IntKind.wrap .i64 (8*(IntKind.wrap .i64 (qW .u64 (IntKind.wrap .u64 r1.1) 1)))) then(IntKind.wrap .i64 (t2-(List.length AO:Int))) else(IntKind.wrap .i64 (8*(IntKind.wrap .i64 (qW .u64 (IntKind.wrap .u64 r1.1) 1))))) t3).bind fun r4=>cond (lim (List.length AO+List.length r4.2)) ((DR.l4 k n) t0 (IntKind.wrap .i64 (r1.2.1+(IntKind.wrap .i64 ((IntKind.wrap .i64 (qW .u64 (IntKind.wrap .u64 r1.1) 1))*t3)))) t2 t3 (AO++r4.2)) none)))) (some (((),t1,true),AO))
def DR(k:Nat)(t0:List Int)(t1:Int)(t2:Int)(t3:Int):Option ((Unit×Int×Bool)×(List Int)):=
 (Cq k t3 0 24).bind fun r5=>(cond (!r5) (some true) ((Cq k t2 0 2000).bind fun r6=>some (!r6))).bind fun b7=>(cond b7 (some true) ((Cq k t1 0 (List.length t0:Int)).bind fun r8=>some (!r8))).bind fun b9=>cond b9 (some (((),0,false),[])) (DR.l4 k k t0 t1 t2 t3 [])
def GN.l7(k:Nat):Nat→Int→Int→Int→Int→(List Int)→Option ((Unit×Int×Bool)×(List Int))
 |0,_,_,_,_,_=>none
 |n+1,t3,t12,t39,t40,AO=>
  cond (decide (t40<t39)) ((gP AO t40).bind fun y1=>cond (decide (y1≥t3)) (some (((),0,false),[])) ((GN.l7 k n) t3 t12 t39 (IntKind.wrap .i64 (t40+1)) AO)) (some (((),t12,true),AO))
def GN(k:Nat)(t0:List Int)(t1:Int)(t2:Int)(t3:Int):Option ((Unit×Int×Bool)×(List Int)):=
 (Cq k t1 0 (IntKind.wrap .i64 ((List.length t0:Int)-1))).bind fun r2=>cond (!r2) (some (((),0,false),[])) ((gP t0 t1).bind fun y3=>(DR k t0 (IntKind.wrap .i64 (t1+1)) t2 (IntKind.wrap .i64 y3)).bind fun r4=>cond (!r4.1.2.2) (some (((),0,false),[])) (GN.l7 k k t3 r4.1.2.1 (List.length r4.2:Int) 0 r4.2))
def GL.l5(k:Nat):Nat→(List AV)→(List Int)→Int→Int→(List AV)→Option ((Unit×Bool)×(List AV))
 |0,_,_,_,_,_=>none
 |n+1,t0,t13,t14,t15,AO=>
  cond (decide (t15<t14)) ((gP t13 t15).bind fun y1=>(Cq k y1 0 (IntKind.wrap .i64 ((List.length t0:Int)-1))).bind fun r2=>cond (!r2) (some (((),false),[])) ((gP t0 y1).bind fun y3=>cond (lim (List.length AO+List.length [y3])) ((GL.l5 k n) t0 t13 t14 (IntKind.wrap .i64 (t15+1)) (AO++[y3])) none)) (some (((),true),AO))
def GL(k:Nat)(t0:List AV)(t1:List Int):Option ((Unit×Bool)×(List AV)):=
 cond (decide ((List.length t1:Int)>2000)) (some (((),false),[])) (GL.l5 k k t0 t1 (List.length t1:Int) 0 [])
def Mm(k:Nat)(t0:Int)(t1:Int)(t2:List Int)(t3:Int)(t4:List AV):Option ((Unit×Int×Bool)×(List AV)):=
 cond (t0==0) ((Em k t1 t2 0 t3).bind fun r1=>some (((),r1.1.2.1,r1.1.2.2),r1.2)) (cond (t0==5) ((Cz k t2 0).bind fun r2=>(FO k r2.2).bind fun r3=>some (((),r2.1.2.1,r2.1.2.2),r3.2)) (cond (t0==6) ((Gl k t2 0).bind fun r4=>some (((),r4.1.2.1,r4.1.2.2),r4.2)) (cond (t0==7) ((GM k t2 0).bind fun r5=>some (((),r5.1.2.1,r5.1.2.2),r5.2)) (cond (t0==9) ((En k t1 t2 0 t3).bind fun r6=>some (((),r6.1.2.1,r6.1.2.2),r6.2)) (cond (t0==8) ((GN k t2 0 t3 (List.length t4:Int)).bind fun r7=>(GL k t4 r7.2).bind fun r8=>(cond r7.1.2.2 (some (r8.1.2)) (some false)).bind fun b9=>some (((),r7.1.2.1,b9),r8.2)) ((ED k t2 0 4).bind fun BP=>(cond (!BP.2.2) (some true) (some (BP.1 !=(IntKind.wrap .i64 ((List.length t2:Int)-BP.2.1))))).bind fun b11=>cond b11 (some (((),0,false),[])) ((DR k t2 BP.2.1 t3 1).bind fun BC=>(FO k BC.2).bind fun Cs=>some (((),BC.1.2.1,BC.1.2.2),Cs.2))))))))
def J2(k:Nat)(t0:Int)(t1:Int)(t2:List Int)(t3:Int)(t4:List AV):Option ((Unit×Bool)×(List AV)):=
 (FI k t0 t1).bind fun r1=>(cond (!r1) (some true) ((Cq k t3 0 2000).bind fun r2=>some (!r2))).bind fun b3=>cond b3 (some (((),false),[])) ((cond (t0==8) (some (t3==0)) (some false)).bind fun b4=>(cond b4 (some ((List.length t2:Int)==0)) (some false)).bind fun b5=>cond b5 (some (((),true),[])) ((Mm k t0 t1 t2 t3 t4).bind fun r6=>(cond (!r6.1.2.2) (some true) (some (r6.1.2.1 !=(List.length t2:Int)))).bind fun b7=>(cond b7 (some true) (some ((List.length r6.2:Int) !=t3))).bind fun b8=>(cond b8 (some true) ((Gr k t1 r6.2).bind fun r9=>some (!r9))).bind fun b10=>cond b10 (some (((),false),[])) (some (((),true),r6.2))))
def KS(k:Nat)(t0:Int):Option Int:=
 (cond (decide (t0<0)) (some true) ((IG k t0).bind fun r1=>some (decide (r1>62)))).bind fun b2=>cond b2 (some (-1)) ((IG k t0).bind fun r3=>some r3)
def F7.F9(k:Nat):Nat→Int→Int→Int→Int→Int→(List Int)→Option ((Unit×Int×Bool)×(List Int))
 |0,_,_,_,_,_,_=>none
 |n+1,t3,t11,t12,t72,t73,AO=>
  cond (decide (t73<t72)) ((gP AO t73).bind fun y1=>cond (decide (y1>t3)) (some (((),0,false),[])) ((F7.F9 k n) t3 t11 t12 t72 (IntKind.wrap .i64 (t73+1)) AO)) (some (((),IntKind.wrap .i64 (t12+t11),true),AO))
def F7(k:Nat)(t0:List Int)(t1:Int)(t2:Int)(t3:Int):Option ((Unit×Int×Bool)×(List Int)):=
 (Cq k t3 0 255).bind fun r2=>(cond (!r2) (some true) ((Cq k t2 0 2000).bind fun r3=>some (!r3))).bind fun b4=>(cond b4 (some true) ((Cq k t1 0 (List.length t0:Int)).bind fun r5=>some (!r5))).bind fun b6=>cond b6 (some (((),0,false),[])) (cond (t3==0) (cond (qG t2) (some (((),t1,true),List.replicate (Int.toNat t2) 0)) none) ((ED k t0 t1 4).bind fun r7=>(cond (!r7.2.2) (some true) (some (decide (r7.1>(IntKind.wrap .i64 ((List.length t0:Int)-r7.2.1)))))).bind fun b8=>cond b8 (some (((),0,false),[])) (cond (jM r7.2.1 (IntKind.wrap .i64 (r7.2.1+r7.1)) (List.length t0)) ((KS k t3).bind fun r9=>(DR k (kP t0 r7.2.1 (IntKind.wrap .i64 (r7.2.1+r7.1))) 0 t2 r9).bind fun BP=>cond (!BP.1.2.2) (some (((),0,false),[])) (F7.F9 k k t3 r7.1 r7.2.1 (List.length BP.2:Int) 0 BP.2)) none)))
def Fy.l5(k:Nat):Nat→(List Int)→Int→Int→Option Int
 |0,_,_,_=>none
 |n+1,t0,t3,t4=>
  cond (decide (t4<(List.length t0:Int))) ((gP t0 t4).bind fun y1=>(Fy.l5 k n) t0 (if y1>t3 then y1 else t3) (IntKind.wrap .i64 (t4+1))) (some t3)
def Fy.c3(k:Nat)(t0:List Int):Option Int:=
 (gP t0 0).bind fun y2=>Fy.l5 k k t0 y2 1
def Fy(k:Nat)(t0:List Int):Option Int:=
 cond (decide ((List.length t0:Int)<1)) (none) (Fy.c3 k t0)
def KW(k:Nat)(t0:List Int)(t1:Int)(t2:Int):Option ((Unit×Bool)×(List Int)):=
 cond (t2==0) (cond (qG t1) (some (((),(List.length t0:Int)==0),List.replicate (Int.toNat t1) 0)) none) ((KS k t2).bind fun r1=>(DR k t0 0 t1 r1).bind fun r2=>(cond (!r2.1.2.2) (some true) (some (r2.1.2.1 !=(List.length t0:Int)))).bind fun b3=>(cond b3 (some true) ((cond (decide ((List.length r2.2:Int)>0)) ((Fy k r2.2).bind fun r4=>some (decide (r4>t2))) (some false)).bind fun b5=>some (b5))).bind fun b6=>cond b6 (some (((),false),[])) (some (((),true),r2.2)))
def Gn.d13(k:Nat)(t2:List Int)(t15:Int)(t17:Bool)(AO:Bu)(AX:Bf)(Be:List Int):Option ((Unit×Unit×(List Int)×Bool)×(List Int)×(List Int)):=
 cond (jM AX.2.2.2.2.2.2.2.1 t15 (List.length t2)) ((KW k (kP t2 AX.2.2.2.2.2.2.2.1 t15) AX.2.2.1 AO.2.2.1).bind fun r1=>cond (jM t15 ((List.length t2):Int) (List.length t2)) ((cond t17 (some (r1.1.2)) (some false)).bind fun b2=>some (((),(),kP t2 t15 ((List.length t2):Int),b2),(Be,r1.2))) none) none
def Gn.d12(k:Nat)(t2:List Int)(t15:Int)(AO:Bu)(AX:Bf):Option ((Unit×Unit×(List Int)×Bool)×(List Int)×(List Int)):=
 cond (jM 0 AX.2.2.2.2.2.2.2.1 (List.length t2)) ((KW k (kP t2 0 AX.2.2.2.2.2.2.2.1) AX.2.2.1 AO.2.1).bind fun r5=>Gn.d13 k t2 t15 r5.1.2 AO AX r5.2) none
def Gn(k:Nat)(t0:Bu)(t1:Bf)(t2:List Int):Option ((Unit×Unit×(List Int)×Bool)×(List Int)×(List Int)):=
 cond (t1.1==0) ((F7 k t2 0 t1.2.2.1 t0.2.1).bind fun r7=>cond (!r7.1.2.2) (some (((),(),[],false),([],[]))) ((F7 k t2 r7.1.2.1 t1.2.2.1 t0.2.2.1).bind fun r8=>cond (!r8.1.2.2) (some (((),(),[],false),([],[]))) (cond (jM r8.1.2.1 ((List.length t2):Int) (List.length t2)) (some (((),(),kP t2 r8.1.2.1 ((List.length t2):Int),true),(r7.2,r8.2))) none))) ((cond (decide (t1.2.2.2.2.2.2.2.1>(List.length t2:Int))) (some true) (some (decide (t1.2.2.2.2.2.2.1>(IntKind.wrap .i64 ((List.length t2:Int)-t1.2.2.2.2.2.2.2.1)))))).bind fun b9=>cond b9 (some (((),(),[],false),([],[]))) (Gn.d12 k t2 (IntKind.wrap .i64 (t1.2.2.2.2.2.2.2.1+t1.2.2.2.2.2.2.1)) t0 t1))
def EE.c9(k:Nat)(L4:(List Int)→Int→(List Int)→Int→Int→Bu→(List BL)→Option ((Unit×Int)×(List BL)))(t2:List Int)(t9:Int)(t13:List Int)(t14:Int)(t15:Int)(AO:Bu)(AX:List BL):Option ((Unit×Int)×(List BL)):=
 L4 t2 t9 t13 t14 (IntKind.wrap .i64 (t15+1)) AO AX
def EE.l4(k:Nat):Nat→(List Int)→Int→(List Int)→Int→Int→Bu→(List BL)→Option ((Unit×Int)×(List BL))
 |0,_,_,_,_,_,_,_=>none
 |n+1,t2,t9,t13,t14,t15,AO,AX=>
  cond (decide (t15<t14)) ((gP t13 t15).bind fun y1=>(gP t2 t15).bind fun y2=>cond (lim (List.length AX+List.length ([(y1,y2,(0,A7,()),())]:List BL))) ((gP t2 t15).bind fun y3=>cond (y3 !=AO.2.2.1) (EE.c9 k (EE.l4 k n) t2 (IntKind.wrap .i64 (t9+1)) t13 t14 t15 AO (AX++[(y1,y2,(0,A7,()),())])) (EE.c9 k (EE.l4 k n) t2 t9 t13 t14 t15 AO (AX++[(y1,y2,(0,A7,()),())]))) none) (some (((),t9),AX))
def EE(k:Nat)(t0:Bu)(t1:List Int)(t2:List Int):Option ((Unit×Int)×(List BL)):=
 EE.l4 k k t2 0 t1 (List.length t1:Int) 0 t0 []
def EC.c7(k:Nat)(L3:Int→(List BL)→Int→Int→Option Int)(t3:Int)(t6:List BL)(t7:Int)(t8:Int):Option Int:=
 L3 t3 t6 t7 (IntKind.wrap .i64 (t8+1))
def EC.l3(k:Nat):Nat→Int→(List BL)→Int→Int→Option Int
 |0,_,_,_,_=>none
 |n+1,t3,t6,t7,t8=>
  cond (decide (t8<t7)) ((gP t6 t8).bind fun y1=>cond (y1.1==0) (EC.c7 k (EC.l3 k n) (IntKind.wrap .i64 (t3+1)) t6 t7 t8) (EC.c7 k (EC.l3 k n) t3 t6 t7 t8)) (some t3)
def EC(k:Nat)(t0:List BL):Option Int:=
 EC.l3 k k 0 t0 (List.length t0:Int) 0
def Dw.c21(k:Nat)(GA:(List AV)→Int→Int→Bu→Bf→(List BL)→Option ((Unit×Int×Int)×(List BL)))(t20:List AV)(t108:Int)(t109:Int)(AO:Bu)(AX:Bf)(Be:List BL):Option ((Unit×Int×Int)×(List BL)):=
 GA t20 t108 (IntKind.wrap .i64 (t109+1)) AO AX Be
def Dw.Ch(k:Nat):Nat→(List AV)→Int→Int→Bu→Bf→(List BL)→Option ((Unit×Int×Int)×(List BL))
 |0,_,_,_,_,_,_=>none
 |n+1,t20,t108,t109,AO,AX,Be=>
  cond (decide (t109<t108)) ((gP Be t109).bind fun y1=>cond (y1.2.1==AO.2.2.1) ((gP t20 0).bind fun y2=>(gP Be t109).bind fun y3=>(gP Be t109).bind fun y4=>cond (jM 1 ((List.length t20):Int) (List.length t20)) (Dw.c21 k (Dw.Ch k n) (kP t20 1 ((List.length t20):Int)) t108 t109 AO AX (List.set Be (Int.toNat t109) (y4.1,y4.2.1,y2,()))) none) (Dw.c21 k (Dw.Ch k n) t20 t108 t109 AO AX Be)) (some (((),IntKind.wrap .i64 (AX.2.2.2.2.2.2.2.2.2.2.2.2.1+AX.2.1),0),Be))
def Dw.d10(k:Nat)(t3:List AV)(t16:List Int)(t19:Int)(AO:Bu)(AX:Bf)(Be:List BL):Option ((Unit×Int×Int)×(List BL)):=
 cond (AX.1==3) ((EC k Be).bind fun r5=>cond (r5 !=AX.2.2.2.2.1) (cond true (some (((),0,4),[])) ((J2 k AX.2.2.2.1 AO.1 t16 (IntKind.wrap .i64 (AX.2.2.1-t19)) t3).bind fun r6=>cond (!r6.1.2) (some (((),0,5),[])) (Dw.Ch k k r6.2 (List.length Be:Int) 0 AO AX Be))) (cond (t19 !=AX.2.2.2.2.2.1) (some (((),0,4),[])) ((J2 k AX.2.2.2.1 AO.1 t16 (IntKind.wrap .i64 (AX.2.2.1-t19)) t3).bind fun r7=>cond (!r7.1.2) (some (((),0,5),[])) (Dw.Ch k k r7.2 (List.length Be:Int) 0 AO AX Be)))) (cond false (some (((),0,4),[])) ((J2 k AX.2.2.2.1 AO.1 t16 (IntKind.wrap .i64 (AX.2.2.1-t19)) t3).bind fun r8=>cond (!r8.1.2) (some (((),0,5),[])) (Dw.Ch k k r8.2 (List.length Be:Int) 0 AO AX Be)))
def Dw(k:Nat)(t0:Bu)(t1:List Int)(t2:Int)(t3:List AV):Option ((Unit×Int×Int)×(List BL)):=
 (GQ k t0 t1 t2).bind fun DJ=>(cond (DJ.1.1==2) ((cond (DJ.2.2==0) (some true) (some (DJ.2.2==3))).bind fun b18=>some (b18)) (some false)).bind fun b19=>cond b19 (some (((),0,1),[])) (cond (DJ.2.2 !=0) (some (((),0,DJ.2.2),[])) ((Gn k t0 DJ.1 DJ.2.1).bind fun EJ=>(cond (!EJ.1.2.2.2) (some true) ((cond (decide ((List.length EJ.2.1:Int)>0)) ((gP EJ.2.1 0).bind fun y21=>some (y21 !=0)) (some false)).bind fun JG=>some (JG))).bind fun Ir=>cond Ir (some (((),0,4),[])) ((EE k t0 EJ.2.1 EJ.2.2).bind fun Kg=>Dw.d10 k t3 EJ.1.2.2.1 Kg.1.2 t0 DJ.1 Kg.2)))
def NG(k:Nat)(t0:List Int):Option Bool:=
 (NH k t0).bind fun r1=>cond r1 (some true) ((MG k t0).bind fun r2=>(KT k r2.1.1 r2.2 r2.1.2.2).bind fun r3=>(Ld k r2.1.1 r2.2 r2.1.2.2).bind fun r4=>cond (!(r3.1.2==r4.1.2)) (some false) (cond (!r3.1.2) (some ((List.length r3.2:Int)==0)) (cond (lim ((0:Nat)+List.length r3.2)) (cond (lim (List.length ([]++r3.2:List Int)+List.length [1])) ((Mi k r2.1.1 (([]++r3.2)++[1]) 0).bind fun r5=>(Dw k (r2.1.1,0,0,()) r3.2 0 []).bind fun r6=>(cond (r5.1.2.2==0) (some (r5.1.2.1==(List.length r3.2:Int))) (some false)).bind fun b7=>(cond b7 ((GX k r5.2 r2.2).bind fun r8=>some (r8)) (some false)).bind fun b9=>(cond b9 (some (r6.1.2.2==1)) (some false)).bind fun b10=>some b10) none) none)))
end Go.Fn
