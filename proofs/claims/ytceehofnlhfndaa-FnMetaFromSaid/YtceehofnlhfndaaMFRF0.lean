/- the claim's functions as plain Lean -/
import Derived.Test.YtceehofnlhfndaaAmStep
namespace Go
abbrev CX:ByteArray:=⟨#[]⟩
end Go
set_option linter.unusedVariables false
namespace Go.Fn
open Go.Am
abbrev D6:=Unit×Bool×Unit
abbrev H_:=Int×Int×Int×Unit
abbrev CG:=(List Int)×Int×Int×Unit
abbrev Cv:=ByteArray×Int×Int×Int×Unit
abbrev Cu:=Int×Int×Int×ByteArray×Int×Unit
abbrev Dg:=Int×Int×Int×Int×Int×(List Int)×Unit
abbrev Dc:=(List Cu)×Unit×Unit
abbrev CU:=Int×(List Dg)×Unit
abbrev ZB:=(List Cu)×(List Int)×Unit
abbrev DJ:=(List Cv)×Int×(List CU)×Unit
def LB(k:Nat)(t0:List Int):Option Bool:=
 some (decide ((List.length t0:Int)>1048576))
def Hf.l3(k:Nat):Nat→(List Int)→Int→Int→Option (Unit×CG)
 |0,_,_,_=>none
 |n+1,t0,t3,t4=>
  (cond (decide (t4<(List.length t0:Int))) (some (decide (t4<4000))) (some false)).bind fun b1=>cond b1 ((h_ t0 t4).bind fun y2=>(Hf.l3 k n) t0 (bits .and .i64 (IntKind.wrap .i64 ((IntKind.wrap .i64 ((IntKind.wrap .i64 (t3*131))+(IntKind.wrap .i64 y2)))+7)) 1073741823) (IntKind.wrap .i64 (t4+1))) (some ((),(t0,0,t3,())))
def Hf(k:Nat)(t0:List Int):Option (Unit×CG):=
 Hf.l3 k k t0 (IntKind.wrap .i64 (11443+(List.length t0:Int))) 0
def FV(k:Nat)(t0:Int)(t1:Int)(t2:Int):Option Bool:=
 (cond (decide (t0≥t1)) (some (decide (t0≤t2))) (some false)).bind fun b1=>some b1
def Mc(k:Nat)(t0:Int):Option Bool:=
 (FV k t0 (-2147483648) 2147483647).bind fun r1=>some r1
def GG.c9(k:Nat)(t4:Bool):Option Bool:=
 cond t4 (some true) (some false)
def GG(k:Nat)(t0:Int):Option Bool:=
 cond (t0==1) (GG.c9 k (t0==1)) (cond (t0==2) (GG.c9 k (t0==2)) (cond (t0==5) (GG.c9 k (t0==5)) (cond (t0==6) (GG.c9 k (t0==6)) (cond (t0==8) (GG.c9 k (t0==8)) (cond (t0==9) (GG.c9 k (t0==9)) (GG.c9 k (t0==12)))))))
def KN(k:Nat)(t0:Int):Option Bool:=
 (GG k t0).bind fun r1=>(cond r1 (some (t0 !=1)) (some false)).bind fun b2=>(cond b2 (some (t0 !=2)) (some false)).bind fun b3=>some b3
def Iu.c4(k:Nat)(t4:Int)(t5:Bool)(Ct:Cu):Option Bool:=
 cond t5 ((cond (Ct.2.2.1==0) (some (iI Ct.2.2.2.1 CX)) (some false)).bind fun b1=>(cond b1 (some (Ct.2.2.2.2.1==0)) (some false)).bind fun b2=>some b2) (cond (t4==5) ((Mc k Ct.2.2.1).bind fun r3=>(cond r3 (some (iI Ct.2.2.2.1 CX)) (some false)).bind fun b4=>(cond b4 (some (Ct.2.2.2.2.1==0)) (some false)).bind fun b5=>some b5) (cond (t4==6) ((cond (iI Ct.2.2.2.1 CX) (some (Ct.2.2.2.2.1==0)) (some false)).bind fun b6=>some b6) (cond (t4==8) ((cond (Ct.2.2.1==0) (some (decide ((Ct.2.2.2.1.size:Int)≤300))) (some false)).bind fun b7=>(cond b7 (some (Ct.2.2.2.2.1==0)) (some false)).bind fun b8=>some b8) (cond (t4==9) ((cond (iI Ct.2.2.2.1 CX) (some (decide (Ct.2.2.2.2.1≥0))) (some false)).bind fun b9=>(cond b9 ((cond (Ct.2.2.2.2.1==0) (some (Ct.2.2.1==0)) (some false)).bind fun b10=>(cond b10 (some true) ((cond (decide (Ct.2.2.2.2.1>0)) ((KN k Ct.2.2.1).bind fun E9=>some (E9)) (some false)).bind fun b12=>some (b12))).bind fun b13=>some (b13)) (some false)).bind fun b14=>some b14) (cond (t4==12) ((cond (Ct.2.2.1==0) (some (iI Ct.2.2.2.1 CX)) (some false)).bind fun b15=>(cond b15 (some (decide (Ct.2.2.2.2.1≥0))) (some false)).bind fun b16=>some b16) (some false))))))
def Iu(k:Nat)(t0:Cu):Option Bool:=
 cond (t0.1==1) (Iu.c4 k t0.1 (t0.1==1) t0) (Iu.c4 k t0.1 (t0.1==2) t0)
def EL.l7(k:Nat)(IA:(List Cu)→Int→Int→Option Int):Nat→(List Cu)→Int→Int→Int→Int→Cu→Option Int
 |0,_,_,_,_,_,_=>none
 |n+1,t0,t2,t8,t9,t10,Ct=>
  cond (decide (t10<Ct.2.2.2.2.1)) (cond (decide (t8≥(List.length t0:Int))) (some (-1)) ((h_ t0 t8).bind fun y1=>(cond (Ct.1==9) ((cond (y1.1 !=Ct.2.2.1) (some true) (some (y1.2.1 !=0))).bind fun b2=>some (b2)) (some false)).bind fun b3=>(cond b3 (some true) ((cond (Ct.1==12) ((cond (decide (y1.2.1≤t9)) (some true) (some (decide (y1.2.1>1000)))).bind fun b4=>some (b4)) (some false)).bind fun b5=>some (b5))).bind fun b6=>cond b6 (some (-1)) ((IA t0 t8 (IntKind.wrap .i64 (t2+1))).bind fun r7=>cond (decide (r7<0)) (some (-1)) ((EL.l7 k IA n) t0 t2 r7 y1.2.1 (IntKind.wrap .i64 (t10+1)) Ct)))) (some t8)
def EL.b(k:Nat)(IA:(List Cu)→Int→Int→Option Int)(t0:List Cu)(t1:Int)(t2:Int):Option Int:=
 (cond (decide (t1≥(List.length t0:Int))) (some true) (some (decide (t2>12)))).bind fun b8=>(cond b8 (some true) ((h_ t0 t1).bind fun y9=>(Iu k y9).bind fun DR=>some (!DR))).bind fun b11=>cond b11 (some (-1)) ((h_ t0 t1).bind fun Mj=>EL.l7 k IA k t0 t2 (IntKind.wrap .i64 (t1+1)) 0 0 Mj)
def EL.rec(k:Nat):Nat→((List Cu)→Int→Int→Option Int)
 |0=>fun _ _ _=>none
 |d+1=>EL.b k ((EL.rec k d))
def EL.d(k d:Nat):(List Cu)→Int→Int→Option Int:=(EL.rec k d)
def EL(k:Nat):(List Cu)→Int→Int→Option Int:=EL.d k k
def Iq(k:Nat)(t0:List Cu):Option Bool:=
 (FV k (List.length t0:Int) 1 1500).bind fun r1=>(cond (!r1) (some true) ((h_ t0 0).bind fun y2=>some (y2.1 !=12))).bind fun b3=>(cond b3 (some true) ((h_ t0 0).bind fun y4=>some (y4.2.1 !=0))).bind fun b5=>cond b5 (some false) ((EL k t0 0 1).bind fun r6=>some (r6==(List.length t0:Int)))
def H9.l4(k:Nat):Nat→ByteArray→Int→Option Bool
 |0,_,_=>none
 |n+1,t0,t3=>
  cond (decide (t3<(t0.size:Int))) ((qa t0 t3).bind fun y1=>(cond (decide (y1<97)) (some true) ((qa t0 t3).bind fun y2=>some (decide (y2>122)))).bind fun b3=>cond b3 (some false) ((H9.l4 k n) t0 (IntKind.wrap .i64 (t3+1)))) (some true)
def H9(k:Nat)(t0:ByteArray):Option Bool:=
 (FV k (t0.size:Int) 1 20).bind fun r4=>cond (!r4) (some false) (H9.l4 k k t0 0)
def Hg.c7(k:Nat)(t4:Bool):Option Bool:=
 cond t4 (some true) (some false)
def Hg(k:Nat)(t0:Int):Option Bool:=
 cond (t0==0) (Hg.c7 k (t0==0)) (cond (t0==1) (Hg.c7 k (t0==1)) (cond (t0==2) (Hg.c7 k (t0==2)) (cond (t0==5) (Hg.c7 k (t0==5)) (Hg.c7 k (t0==6)))))
def DU.Jw(k:Nat)(GM:(List Cv)→Int→Int→Option Int)(Mw:(List Cv)→Int→Int→Int→Cv→(List ByteArray)→Option Int):Nat→(List Cv)→Int→Int→Int→Int→Cv→(List ByteArray)→Option Int
 |0,_,_,_,_,_,_,_=>none
 |n+1,t0,t2,t8,t10,t11,Ct,Cw=>
  cond (decide (t11<(List.length Cw:Int))) ((h_ Cw t11).bind fun y1=>(h_ t0 t8).bind fun y2=>cond (iI y1 y2.1) (some (-1)) ((DU.Jw k GM Mw n) t0 t2 t8 t10 (IntKind.wrap .i64 (t11+1)) Ct Cw)) ((h_ t0 t8).bind fun y3=>cond (lim (List.length Cw+List.length [y3.1])) ((GM t0 t8 (IntKind.wrap .i64 (t2+1))).bind fun r4=>cond (decide (r4<0)) (some (-1)) (Mw t0 t2 r4 (IntKind.wrap .i64 (t10+1)) Ct (Cw++[y3.1]))) none)
def DU.Jv(k:Nat)(GM:(List Cv)→Int→Int→Option Int):Nat→(List Cv)→Int→Int→Int→Cv→(List ByteArray)→Option Int
 |0,_,_,_,_,_,_=>none
 |n+1,t0,t2,t8,t10,Ct,Cw=>
  cond (decide (t10<Ct.2.2.2.1)) (cond (decide (t8≥(List.length t0:Int))) (some (-1)) (DU.Jw k GM (DU.Jv k GM n) k t0 t2 t8 t10 0 Ct Cw)) (some t8)
def DU.b(k:Nat)(GM:(List Cv)→Int→Int→Option Int)(t0:List Cv)(t1:Int)(t2:Int):Option Int:=
 (cond (decide (t1≥(List.length t0:Int))) (some true) (some (decide (t2>6)))).bind fun b5=>cond b5 (some (-1)) ((h_ t0 t1).bind fun y6=>(cond (t1==0) ((cond (!iI y6.1 CX) (some true) (some (y6.2.2.1 !=0))).bind fun b7=>(cond b7 (some true) (some (y6.2.1 !=7))).bind fun b8=>some (b8)) (some false)).bind fun b9=>(cond b9 (some true) ((cond (decide (t1>0)) ((H9 k y6.1).bind fun DR=>some (!DR)) (some false)).bind fun b11=>some (b11))).bind fun b12=>(cond b12 (some true) ((FV k y6.2.2.1 0 2).bind fun EU=>some (!EU))).bind fun b14=>cond b14 (some (-1)) (cond (y6.2.1 !=7) ((Hg k y6.2.1).bind fun Du=>(cond (!Du) (some true) (some (y6.2.2.2.1 !=0))).bind fun b16=>cond b16 (some (-1)) (some (IntKind.wrap .i64 (t1+1)))) (cond (decide (y6.2.2.2.1<1)) (some (-1)) (DU.Jv k GM k t0 t2 (IntKind.wrap .i64 (t1+1)) 0 y6 []))))
def DU.rec(k:Nat):Nat→((List Cv)→Int→Int→Option Int)
 |0=>fun _ _ _=>none
 |d+1=>DU.b k ((DU.rec k d))
def DU.d(k d:Nat):(List Cv)→Int→Int→Option Int:=(DU.rec k d)
def DU(k:Nat):(List Cv)→Int→Int→Option Int:=DU.d k k
def EB(k:Nat)(t0:List Cv):Option Bool:=
 (FV k (List.length t0:Int) 2 20).bind fun r1=>(cond r1 ((DU k t0 0 1).bind fun r2=>some (r2==(List.length t0:Int))) (some false)).bind fun b3=>some b3
def ED.c4(k:Nat)(L3:(List Cv)→Int→(List Int)→Option (Unit×(List Int)))(t0:List Cv)(t4:Int)(Ct:List Int):Option (Unit×(List Int)):=
 L3 t0 (IntKind.wrap .i64 (t4+1)) Ct
def ED.l3(k:Nat):Nat→(List Cv)→Int→(List Int)→Option (Unit×(List Int))
 |0,_,_,_=>none
 |n+1,t0,t4,Ct=>
  cond (decide (t4<(List.length t0:Int))) ((h_ t0 t4).bind fun y1=>cond (y1.2.1 !=7) (cond (lim (List.length Ct+List.length [t4])) (ED.c4 k (ED.l3 k n) t0 t4 (Ct++[t4])) none) (ED.c4 k (ED.l3 k n) t0 t4 Ct)) (some ((),Ct))
def ED(k:Nat)(t0:List Cv):Option (Unit×(List Int)):=
 ED.l3 k k t0 0 []
def H7(k:Nat)(t0:List Cv):Option (Unit×(List Int)):=
 (EB k t0).bind fun r1=>cond (!r1) (some ((),[])) ((ED k t0).bind fun r2=>some ((),r2.2))
def Fa.d6(k:Nat)(L4:Int→Dg→Option Bool)(t5:Int)(Ct:Dg):Option Bool:=
 (h_ Ct.2.2.2.2.2.1 t5).bind fun y1=>(FV k y1 0 9).bind fun r2=>cond (!r2) (cond true (some false) (L4 (IntKind.wrap .i64 (t5+1)) Ct)) (cond (decide (t5>0)) ((h_ Ct.2.2.2.2.2.1 (IntKind.wrap .i64 (t5-1))).bind fun y3=>(h_ Ct.2.2.2.2.2.1 t5).bind fun y4=>cond (decide (y3≥y4)) (some false) (L4 (IntKind.wrap .i64 (t5+1)) Ct)) (cond false (some false) (L4 (IntKind.wrap .i64 (t5+1)) Ct)))
def Fa.l4(k:Nat):Nat→Int→Dg→Option Bool
 |0,_,_=>none
 |n+1,t5,Ct=>
  cond (decide (t5<(List.length Ct.2.2.2.2.2.1:Int))) (Fa.d6 k (Fa.l4 k n) t5 Ct) (some true)
def Fa(k:Nat)(t0:Dg)(t1:Int):Option Bool:=
 (cond (t0.1 !=t1) (some true) ((FV k t0.2.1 0 60000).bind fun r9=>some (!r9))).bind fun b10=>(cond b10 (some true) ((FV k t0.2.2.1 (-1) 60000).bind fun E9=>some (!E9))).bind fun b12=>(cond b12 (some true) ((FV k t0.2.2.2.1 1 2000).bind fun EU=>some (!EU))).bind fun b14=>(cond b14 (some true) ((FV k t0.2.2.2.2.1 0 60000).bind fun Du=>some (!Du))).bind fun b16=>(cond b16 (some true) ((FV k (List.length t0.2.2.2.2.2.1:Int) 1 5).bind fun EK=>some (!EK))).bind fun b18=>cond b18 (some false) (Fa.l4 k k 0 t0)
def Ea.FP(k:Nat)(L6:Int→Int→DJ→(List Int)→Option Bool):Nat→Int→Int→Int→DJ→(List Int)→CU→Option Bool
 |0,_,_,_,_,_,_=>none
 |n+1,t4,t5,t7,Ct,Cw,Cz=>
  cond (decide (t7<(List.length Cz.2.1:Int))) ((h_ Cz.2.1 t7).bind fun y1=>(Fa k y1 t7).bind fun r2=>cond (!r2) (some false) ((Ea.FP k L6 n) t4 t5 (IntKind.wrap .i64 (t7+1)) Ct Cw Cz)) (L6 t4 (IntKind.wrap .i64 (t5+1)) Ct Cw)
def Ea.l6(k:Nat):Nat→Int→Int→DJ→(List Int)→Option Bool
 |0,_,_,_,_=>none
 |n+1,t4,t5,Ct,Cw=>
  cond (decide (t5<(List.length Ct.2.2.1:Int))) ((h_ Ct.2.2.1 t5).bind fun y3=>(FV k y3.1 1 200).bind fun r4=>(cond (!r4) (some true) (some ((List.length y3.2.1:Int) !=(List.length Cw:Int)))).bind fun b5=>cond b5 (some false) (Ea.FP k (Ea.l6 k n) k (IntKind.wrap .i64 (t4+y3.1)) t5 0 Ct Cw y3)) (some (t4==Ct.2.1))
def Ea(k:Nat)(t0:DJ):Option Bool:=
 (H7 k t0.1).bind fun r6=>(EB k t0.1).bind fun r7=>(cond (!r7) (some true) (some (decide ((List.length t0.2.2.1:Int)>40)))).bind fun b8=>(cond b8 (some true) ((FV k t0.2.1 0 200).bind fun r9=>some (!r9))).bind fun b10=>cond b10 (some false) (Ea.l6 k k 0 0 t0 r6.2)
def JC(k:Nat)(t0:Int)(t1:Int):Option (Cu):=
 some (5,t0,t1,CX,0,())
def Ed.c15(k:Nat)(L3:(List Cv)→Int→(List Cu)→Option (Unit×(List Cu)))(t0:List Cv)(t6:Int)(t8:Int)(Ct:List Cu):Option (Unit×(List Cu)):=
 (h_ Ct t8).bind fun y1=>(h_ Ct t8).bind fun y2=>L3 t0 (IntKind.wrap .i64 (t6+1)) (List.set Ct (Int.toNat t8) (y2.1,y2.2.1,y2.2.2.1,y2.2.2.2.1,IntKind.wrap .i64 ((IntKind.wrap .i64 ((List.length Ct:Int)-t8))-1),()))
def Ed.c12(k:Nat)(L3:(List Cv)→Int→(List Cu)→Option (Unit×(List Cu)))(t0:List Cv)(t6:Int)(t8:Int)(Ct:List Cu)(Cw:Cv):Option (Unit×(List Cu)):=
 cond (lim (List.length Ct+List.length [(8,4,0,Cw.1,0,())])) (cond (Cw.2.1==7) (cond (lim (List.length (Ct++[(8,4,0,Cw.1,0,())])+List.length ([(5,5,Cw.2.2.2.1,CX,0,())]:List Cu))) (Ed.c15 k L3 t0 t6 t8 ((Ct++[(8,4,0,Cw.1,0,())])++[(5,5,Cw.2.2.2.1,CX,0,())])) none) (Ed.c15 k L3 t0 t6 t8 (Ct++[(8,4,0,Cw.1,0,())]))) none
def Ed.c10(k:Nat)(L3:(List Cv)→Int→(List Cu)→Option (Unit×(List Cu)))(t0:List Cv)(t6:Int)(t8:Int)(Ct:List Cu)(Cw:Cv):Option (Unit×(List Cu)):=
 cond (decide (t6>0)) (cond (lim (List.length Ct+List.length ([(5,3,Cw.2.2.1,CX,0,())]:List Cu))) (Ed.c12 k L3 t0 t6 t8 (Ct++[(5,3,Cw.2.2.1,CX,0,())]) Cw) none) (Ed.c12 k L3 t0 t6 t8 Ct Cw)
def Ed.l3(k:Nat):Nat→(List Cv)→Int→(List Cu)→Option (Unit×(List Cu))
 |0,_,_,_=>none
 |n+1,t0,t6,Ct=>
  cond (decide (t6<(List.length t0:Int))) ((h_ t0 t6).bind fun y3=>cond (lim (List.length Ct+List.length ([(12,0,0,CX,0,())]:List Cu))) (cond (y3.2.1 !=7) (cond (lim (List.length (Ct++[(12,0,0,CX,0,())])+List.length ([(5,1,y3.2.1,CX,0,())]:List Cu))) (Ed.c10 k (Ed.l3 k n) t0 t6 (List.length Ct:Int) ((Ct++[(12,0,0,CX,0,())])++[(5,1,y3.2.1,CX,0,())]) y3) none) (Ed.c10 k (Ed.l3 k n) t0 t6 (List.length Ct:Int) (Ct++[(12,0,0,CX,0,())]) y3)) none) (some ((),Ct))
def Ed(k:Nat)(t0:List Cv)(t1:Int):Option (Unit×(List Cu)):=
 Ed.l3 k k t0 0 [(9,t1,12,CX,(List.length t0:Int),())]
def GY(k:Nat)(t0:Int)(t1:Int):Option (Cu):=
 some (6,t0,t1,CX,0,())
def ES.l3(k:Nat)(IE:(List Cv)→Int→Option Int):Nat→(List Cv)→Int→Int→Int→Option Int
 |0,_,_,_,_=>none
 |n+1,t0,t1,t5,t6=>
  (h_ t0 t1).bind fun y1=>cond (decide (t6<y1.2.2.2.1)) ((IE t0 t5).bind fun r2=>(ES.l3 k IE n) t0 t1 r2 (IntKind.wrap .i64 (t6+1))) (some t5)
def ES.b(k:Nat)(IE:(List Cv)→Int→Option Int)(t0:List Cv)(t1:Int):Option Int:=
 ES.l3 k IE k t0 t1 (IntKind.wrap .i64 (t1+1)) 0
def ES.rec(k:Nat):Nat→((List Cv)→Int→Option Int)
 |0=>fun _ _=>none
 |d+1=>ES.b k ((ES.rec k d))
def ES.d(k d:Nat):(List Cv)→Int→Option Int:=(ES.rec k d)
def ES(k:Nat):(List Cv)→Int→Option Int:=ES.d k k
def FX.c4(k:Nat)(L3:(List Cv)→Int→Int→(List Int)→Option (Unit×(List Int)))(t0:List Cv)(t1:Int)(t6:Int)(Ct:List Int):Option (Unit×(List Int)):=
 L3 t0 t1 (IntKind.wrap .i64 (t6+1)) Ct
def FX.l3(k:Nat):Nat→(List Cv)→Int→Int→(List Int)→Option (Unit×(List Int))
 |0,_,_,_,_=>none
 |n+1,t0,t1,t6,Ct=>
  cond (decide (t6≤t1)) ((ES k t0 t6).bind fun r1=>cond (decide (r1>t1)) (cond (lim (List.length Ct+List.length [t6])) (FX.c4 k (FX.l3 k n) t0 t1 t6 (Ct++[t6])) none) (FX.c4 k (FX.l3 k n) t0 t1 t6 Ct)) (some ((),Ct))
def FX(k:Nat)(t0:List Cv)(t1:Int):Option (Unit×(List Int)):=
 FX.l3 k k t0 t1 0 []
def Gc.l7(k:Nat):Nat→(List Cv)→Int→(List ByteArray)→(List Int)→Option (Unit×(List ByteArray))
 |0,_,_,_,_=>none
 |n+1,t0,t8,Ct,Cw=>
  cond (decide (t8<(List.length Cw:Int))) ((h_ Cw t8).bind fun y1=>(h_ t0 y1).bind fun y2=>cond (lim (List.length Ct+List.length [y2.1])) ((Gc.l7 k n) t0 (IntKind.wrap .i64 (t8+1)) (Ct++[y2.1]) Cw) none) (some ((),Ct))
def Gc(k:Nat)(t0:List Cv)(t1:Int):Option (Unit×(List ByteArray)):=
 (H7 k t0).bind fun r3=>(FV k t1 0 (IntKind.wrap .i64 ((List.length r3.2:Int)-1))).bind fun r4=>cond (!r4) (some ((),[])) ((h_ r3.2 t1).bind fun y5=>(FX k t0 y5).bind fun r6=>Gc.l7 k k t0 1 [] r6.2)
def Eh.c17(k:Nat)(Ct:List Cu):Option (Unit×(List Cu)):=
 some ((),Ct)
def Eh.d13(k:Nat)(Ct:Dg)(Cw:List Cu):Option (Unit×(List Cu)):=
 (JC k 4 0).bind fun r1=>(GY k 5 Ct.2.2.2.1).bind fun r2=>(GY k 6 Ct.2.2.2.2.1).bind fun r3=>(GY k 7 Ct.2.2.2.2.1).bind fun r4=>(GY k 9 Ct.2.1).bind fun r5=>cond (lim (List.length Cw+List.length [r1,r2,r3,r4,r5])) (cond (decide (Ct.2.2.1≥0)) ((h_ (Cw++[r1,r2,r3,r4,r5]) 2).bind fun y6=>(h_ (Cw++[r1,r2,r3,r4,r5]) 2).bind fun y7=>(GY k 11 Ct.2.2.1).bind fun r8=>cond (lim (List.length (List.set (Cw++[r1,r2,r3,r4,r5]) (Int.toNat 2) (y7.1,y7.2.1,y7.2.2.1,y7.2.2.2.1,9,()))+List.length [r8])) (Eh.c17 k ((List.set (Cw++[r1,r2,r3,r4,r5]) (Int.toNat 2) (y7.1,y7.2.1,y7.2.2.1,y7.2.2.2.1,9,()))++[r8])) none) (Eh.c17 k (Cw++[r1,r2,r3,r4,r5]))) none
def Eh.l10(k:Nat):Nat→Int→Dg→(List ByteArray)→(List Cu)→Option (Unit×(List Cu))
 |0,_,_,_,_=>none
 |n+1,t8,Ct,Cw,Cz=>
  cond (decide (t8<(List.length Cw:Int))) ((h_ Cw t8).bind fun KY=>cond (lim (List.length Cz+List.length [(8,0,0,KY,0,())])) ((Eh.l10 k n) (IntKind.wrap .i64 (t8+1)) Ct Cw (Cz++[(8,0,0,KY,0,())])) none) (Eh.d13 k Ct Cz)
def Eh.l5(k:Nat):Nat→Int→Dg→(List ByteArray)→(List Cu)→Option (Unit×(List Cu))
 |0,_,_,_,_=>none
 |n+1,t7,Ct,Cw,Cz=>
  cond (decide (t7<(List.length Ct.2.2.2.2.2.1:Int))) ((h_ Ct.2.2.2.2.2.1 t7).bind fun YL=>(JC k 0 YL).bind fun Ig=>cond (lim (List.length Cz+List.length [Ig])) ((Eh.l5 k n) (IntKind.wrap .i64 (t7+1)) Ct Cw (Cz++[Ig])) none) (cond (lim (List.length Cz+List.length ([(9,3,8,CX,(List.length Cw:Int),())]:List Cu))) (Eh.l10 k k 0 Ct Cw (Cz++[(9,3,8,CX,(List.length Cw:Int),())])) none)
def Eh.d3(k:Nat)(t0:List Cv)(Ct:Dg)(Cw:List ByteArray)(Cz:List Cu):Option (Unit×(List Cu)):=
 (ED k t0).bind fun LZ=>(h_ LZ.2 Ct.1).bind fun y21=>(h_ t0 y21).bind fun y22=>(JC k 1 y22.2.1).bind fun Io=>cond (lim (List.length Cz+List.length ([Io,(9,2,5,CX,(List.length Ct.2.2.2.2.2.1:Int),())]:List Cu))) (Eh.l5 k k 0 Ct Cw (Cz++[Io,(9,2,5,CX,(List.length Ct.2.2.2.2.2.1:Int),())])) none
def Eh(k:Nat)(t0:List Cv)(t1:Dg):Option (Unit×(List Cu)):=
 (Gc k t0 t1.1).bind fun XI=>(GY k 2 t1.2.1).bind fun XJ=>Eh.d3 k t0 t1 XI.2 [(12,0,0,CX,2,()),XJ,(12,3,0,CX,8,())]
def Dz.d22(k:Nat)(IZ:Int→DJ→(List Cu)→(List Cu)→Option ((Unit×Bool)×(List Cu)))(t7:Int)(t9:Int)(Ct:DJ)(Cw:List Cu)(Cz:List Cu)(CE:CU):Option ((Unit×Bool)×(List Cu)):=
 (GY k 2 t9).bind fun r1=>(GY k 3 CE.1).bind fun r2=>cond (lim (List.length Cz+List.length [r1,r2])) (IZ (IntKind.wrap .i64 (t7+1)) Ct Cw (Cz++[r1,r2])) none
def Dz.d20(k:Nat)(Ox:Int→Int→Int→DJ→(List Cu)→(List Cu)→CU→Option ((Unit×Bool)×(List Cu)))(t7:Int)(t9:Int)(t10:Int)(Ct:DJ)(Cw:List Cu)(Cz:List Cu)(CE:CU):Option ((Unit×Bool)×(List Cu)):=
 (h_ CE.2.1 t10).bind fun y7=>(Eh k Ct.1 y7).bind fun r8=>cond (lim (List.length Cz+List.length r8.2)) ((h_ CE.2.1 t10).bind fun y9=>Ox t7 (IntKind.wrap .i64 (t9+y9.2.2.2.2.1)) (IntKind.wrap .i64 (t10+1)) Ct Cw (Cz++r8.2) CE) none
def Dz.Gp(k:Nat)(IZ:Int→DJ→(List Cu)→(List Cu)→Option ((Unit×Bool)×(List Cu))):Nat→Int→Int→Int→DJ→(List Cu)→(List Cu)→CU→Option ((Unit×Bool)×(List Cu))
 |0,_,_,_,_,_,_,_=>none
 |n+1,t7,t9,t10,Ct,Cw,Cz,CE=>
  cond (decide (t10<(List.length CE.2.1:Int))) (Dz.d20 k (Dz.Gp k IZ n) t7 t9 t10 Ct Cw Cz CE) (Dz.d22 k IZ t7 t9 Ct Cw Cz CE)
def Dz.C_(k:Nat):Nat→Int→DJ→(List Cu)→(List Cu)→Option ((Unit×Bool)×(List Cu))
 |0,_,_,_,_=>none
 |n+1,t7,Ct,Cw,Cz=>
  cond (decide (t7<(List.length Ct.2.2.1:Int))) ((h_ Ct.2.2.1 t7).bind fun JF=>cond (lim (List.length Cz+List.length ([(12,0,0,CX,3,()),(9,1,12,CX,(List.length JF.2.1:Int),())]:List Cu))) (Dz.Gp k (Dz.C_ k n) k t7 0 0 Ct Cw (Cz++[(12,0,0,CX,3,()),(9,1,12,CX,(List.length JF.2.1:Int),())]) JF) none) ((Iq k Cz).bind fun LZ=>cond (!LZ) (some (((),false),Cw)) (some (((),true),Cz)))
def Dz.c10(k:Nat)(Ct:DJ)(Cw:List Cu)(Cz:List Cu)(CE:Cu):Option ((Unit×Bool)×(List Cu)):=
 cond (lim (List.length Cz+List.length [CE])) (Dz.C_ k k 0 Ct Cw (Cz++[CE])) none
def Dz(k:Nat)(t0:DJ):Option ((Unit×Bool)×(List Cu)):=
 (Ea k t0).bind fun KA=>cond (!KA) (some (((),false),[])) ((JC k 1 1).bind fun KC=>(Ed k t0.1 2).bind fun Io=>cond (lim (List.length ([(12,0,0,CX,4,()),KC]:List Cu)+List.length Io.2)) ((GY k 3 t0.2.1).bind fun JA=>cond (lim (List.length ([(12,0,0,CX,4,()),KC]++Io.2:List Cu)+List.length [JA])) (cond (decide ((List.length t0.2.2.1:Int)>0)) (Dz.c10 k t0 [] (([(12,0,0,CX,4,()),KC]++Io.2)++[JA]) (9,4,12,CX,(List.length t0.2.2.1:Int),())) (Dz.c10 k t0 [] (([(12,0,0,CX,4,()),KC]++Io.2)++[JA]) (9,4,0,CX,(List.length t0.2.2.1:Int),()))) none) none)
def GD.c6(k:Nat)(t3:Int)(o0:CG):Option (Int×CG):=
 some (t3,o0)
def GD(k:Nat)(o0:CG):Option (Int×CG):=
 cond (decide (o0.2.1<(List.length o0.1:Int))) ((h_ o0.1 o0.2.1).bind fun y1=>GD.c6 k (bits .and .i64 (IntKind.wrap .i64 ((bits .and .i64 (bits .xor .i64 (sG .i64 (IntKind.wrap .i64 ((IntKind.wrap .i64 (o0.2.2.1*6364136223846793005))+1442695040888963407)) 33) (sG .i64 (IntKind.wrap .i64 ((IntKind.wrap .i64 (o0.2.2.1*6364136223846793005))+1442695040888963407)) 45)) 255)+(IntKind.wrap .i64 y1))) 255) (o0.1,IntKind.wrap .i64 (o0.2.1+1),IntKind.wrap .i64 ((IntKind.wrap .i64 (o0.2.2.1*6364136223846793005))+1442695040888963407),())) (GD.c6 k (bits .and .i64 (bits .xor .i64 (sG .i64 (IntKind.wrap .i64 ((IntKind.wrap .i64 (o0.2.2.1*6364136223846793005))+1442695040888963407)) 33) (sG .i64 (IntKind.wrap .i64 ((IntKind.wrap .i64 (o0.2.2.1*6364136223846793005))+1442695040888963407)) 45)) 255) (o0.1,o0.2.1,IntKind.wrap .i64 ((IntKind.wrap .i64 (o0.2.2.1*6364136223846793005))+1442695040888963407),()))
def Eb(k:Nat)(t1:Int)(o0:CG):Option (Int×CG):=
 cond (decide (t1≤0)) (some (0,o0)) (cond (decide (t1≤256)) ((GD k o0).bind fun r1=>cond (decide (t1≠0)) (some (Int.tmod r1.1 t1,r1.2)) none) ((GD k o0).bind fun r2=>(GD k r2.2).bind fun r3=>(GD k r3.2).bind fun r4=>(GD k r4.2).bind fun r5=>cond (decide (t1≠0)) (some (Int.tmod (IntKind.wrap .i64 ((IntKind.wrap .i64 ((IntKind.wrap .i64 ((IntKind.wrap .i64 (r2.1*16777216))+(IntKind.wrap .i64 (r3.1*65536))))+(IntKind.wrap .i64 (r4.1*256))))+r5.1)) t1,r5.2)) none))
def IM(k:Nat)(t1:Int)(o0:CG):Option (Bool×CG):=
 (Eb k t1 o0).bind fun r1=>some (r1.1==0,r1.2)
def Ih(k:Nat)(t1:List Int)(o0:CG):Option (Int×CG):=
 (Eb k (List.length t1:Int) o0).bind fun r1=>(h_ t1 r1.1).bind fun y2=>some (y2,r1.2)
def Dy.FP(k:Nat)(Fp:ByteArray→Int→CG→(List Cv)→Option (Unit×CG×(List Cv))):Nat→Int→Int→Int→CG→(List Cv)→Option (Unit×CG×(List Cv))
 |0,_,_,_,_,_=>none
 |n+1,t2,t11,t12,o0,Ct=>
  cond (decide (t12<t11)) ((Eb k 4 o0).bind fun r1=>(Fp (zX [IntKind.wrap .u8 (IntKind.wrap .i64 (97+t12)),IntKind.wrap .u8 (IntKind.wrap .i64 (97+r1.1))]) (IntKind.wrap .i64 (t2-1)) r1.2 Ct).bind fun r2=>(Dy.FP k Fp n) t2 t11 (IntKind.wrap .i64 (t12+1)) r2.2.1 r2.2.2) (some ((),(o0,Ct)))
def Dy.c12(k:Nat)(Fp:ByteArray→Int→CG→(List Cv)→Option (Unit×CG×(List Cv)))(t2:Int)(t11:Int)(o0:CG)(Ct:List Cv):Option (Unit×CG×(List Cv)):=
 Dy.FP k Fp k t2 t11 0 o0 Ct
def Dy.c4(k:Nat)(Fp:ByteArray→Int→CG→(List Cv)→Option (Unit×CG×(List Cv)))(t1:ByteArray)(t2:Int)(o0:CG)(CQ:List Cv)(Ct:Cv):Option (Unit×CG×(List Cv)):=
 cond (lim (List.length CQ+List.length [Ct])) (cond (Ct.2.1 !=7) (some ((),(o0,CQ++[Ct]))) ((Eb k 3 o0).bind fun r3=>(h_ (CQ++[Ct]) (List.length CQ:Int)).bind fun y4=>(h_ (CQ++[Ct]) (List.length CQ:Int)).bind fun y5=>cond (iI t1 CX) ((h_ (List.set (CQ++[Ct]) (Int.toNat (List.length CQ:Int)) (y5.1,y5.2.1,y5.2.2.1,IntKind.wrap .i64 (1+r3.1),())) (List.length CQ:Int)).bind fun y6=>(h_ (List.set (CQ++[Ct]) (Int.toNat (List.length CQ:Int)) (y5.1,y5.2.1,y5.2.2.1,IntKind.wrap .i64 (1+r3.1),())) (List.length CQ:Int)).bind fun y7=>Dy.c12 k Fp t2 (IntKind.wrap .i64 (1+r3.1)) r3.2 (List.set (List.set (CQ++[Ct]) (Int.toNat (List.length CQ:Int)) (y5.1,y5.2.1,y5.2.2.1,IntKind.wrap .i64 (1+r3.1),())) (Int.toNat (List.length CQ:Int)) (y7.1,y7.2.1,0,y7.2.2.2.1,()))) (Dy.c12 k Fp t2 (IntKind.wrap .i64 (1+r3.1)) r3.2 (List.set (CQ++[Ct]) (Int.toNat (List.length CQ:Int)) (y5.1,y5.2.1,y5.2.2.1,IntKind.wrap .i64 (1+r3.1),()))))) none
def Dy.b(k:Nat)(Fp:ByteArray→Int→CG→(List Cv)→Option (Unit×CG×(List Cv)))(t1:ByteArray)(t2:Int)(o0:CG)(CQ:List Cv):Option (Unit×CG×(List Cv)):=
 (Ih k [0,1,2,5,6] o0).bind fun r8=>(Eb k 3 r8.2).bind fun r9=>cond (iI t1 CX) (cond true (Dy.c4 k Fp t1 t2 r9.2 CQ (t1,7,r9.1,0,())) (Dy.c4 k Fp t1 t2 r9.2 CQ (t1,r8.1,r9.1,0,()))) (cond (decide (t2>0)) ((IM k 3 r9.2).bind fun DR=>cond DR.1 (Dy.c4 k Fp t1 t2 DR.2 CQ (t1,7,r9.1,0,())) (Dy.c4 k Fp t1 t2 DR.2 CQ (t1,r8.1,r9.1,0,()))) (cond false (Dy.c4 k Fp t1 t2 r9.2 CQ (t1,7,r9.1,0,())) (Dy.c4 k Fp t1 t2 r9.2 CQ (t1,r8.1,r9.1,0,()))))
def Dy.rec(k:Nat):Nat→(ByteArray→Int→CG→(List Cv)→Option (Unit×CG×(List Cv)))
 |0=>fun _ _ _ _=>none
 |d+1=>Dy.b k ((Dy.rec k d))
def Dy.d(k d:Nat):ByteArray→Int→CG→(List Cv)→Option (Unit×CG×(List Cv)):=(Dy.rec k d)
def Dy(k:Nat):ByteArray→Int→CG→(List Cv)→Option (Unit×CG×(List Cv)):=Dy.d k k
def H8.l2(k:Nat):Nat→Int→CG→Option (Unit×CG×(List Cv))
 |0,_,_=>none
 |n+1,t3,o0=>
  cond (decide (t3<9)) ((Eb k 3 o0).bind fun r1=>(Dy k CX (IntKind.wrap .i64 (1+r1.1)) r1.2 []).bind fun r2=>(EB k r2.2.2).bind fun r3=>cond r3 (some ((),(r2.2.1,r2.2.2))) ((H8.l2 k n) (IntKind.wrap .i64 (t3+1)) r2.2.1)) (some ((),(o0,[(CX,7,0,1,()),((⟨#[97]⟩:ByteArray),2,1,0,())])))
def H8(k:Nat)(o0:CG):Option (Unit×CG×(List Cv)):=
 H8.l2 k k 0 o0
def D5.c17(k:Nat)(IY:Int→Int→Int→Int→CG→(Unit×Int×Unit×Unit)→(Unit×Int×Unit×Unit)→(Int×Unit×Unit)→(List Cv)→(List CU)→(List Cv)→(List CU)→(List Dg)→Option (((Unit×Int×Unit×Unit))×CG×(List Cv)×(List CU)))(t4:Int)(t5:Int)(t6:Int)(t8:Int)(o0:CG)(Ct:Unit×Int×Unit×Unit)(Cw:Unit×Int×Unit×Unit)(Cz:Int×Unit×Unit)(CE:Int×Int×Int×Int×Int×Unit×Unit)(CJ:List Cv)(CL:List CU)(CW:List Cv)(CF:List CU)(Gy:List Dg)(G9:List Int):Option (((Unit×Int×Unit×Unit))×CG×(List Cv)×(List CU)):=
 cond (lim (List.length Gy+List.length [(CE.1,CE.2.1,CE.2.2.1,CE.2.2.2.1,CE.2.2.2.2.1,G9,())])) (IY t4 t5 t6 (IntKind.wrap .i64 (t8+1)) o0 Ct Cw Cz CJ CL CW CF (Gy++[(CE.1,CE.2.1,CE.2.2.1,CE.2.2.2.1,CE.2.2.2.2.1,G9,())])) none
def D5.EA(k:Nat)(L7:Int→Int→Int→CG→(Unit×Int×Unit×Unit)→(Unit×Int×Unit×Unit)→(List Cv)→(List CU)→(List Cv)→(List CU)→Option (((Unit×Int×Unit×Unit))×CG×(List Cv)×(List CU))):Nat→Int→Int→Int→Int→CG→(Unit×Int×Unit×Unit)→(Unit×Int×Unit×Unit)→(Int×Unit×Unit)→(List Cv)→(List CU)→(List Cv)→(List CU)→(List Dg)→Option (((Unit×Int×Unit×Unit))×CG×(List Cv)×(List CU))
 |0,_,_,_,_,_,_,_,_,_,_,_,_,_=>none
 |n+1,t4,t5,t6,t8,o0,Ct,Cw,Cz,CE,CJ,CL,CW,CF=>
  cond (decide (t8<t4)) ((Eb k 3000 o0).bind fun r1=>(Eb k 20 r1.2).bind fun r2=>(Eb k 400 r2.2).bind fun r3=>(IM k 3 r3.2).bind fun r4=>cond r4.1 ((Eb k 3000 r4.2).bind fun r5=>D5.c17 k (D5.EA k L7 n) t4 t5 t6 t8 r5.2 Ct Cw Cz (t8,r1.1,r5.1,IntKind.wrap .i64 (1+r2.1),r3.1,(),()) CE CJ CL CW CF [0,3,8]) (D5.c17 k (D5.EA k L7 n) t4 t5 t6 t8 r4.2 Ct Cw Cz (t8,r1.1,(-1),IntKind.wrap .i64 (1+r2.1),r3.1,(),()) CE CJ CL CW CF [0,3])) (cond (lim (List.length CW+List.length [(Cz.1,CF,())])) (L7 t4 t5 (IntKind.wrap .i64 (t6+1)) o0 Ct ((),IntKind.wrap .i64 (Cw.2.1+Cz.1),(),()) CE CJ CL (CW++[(Cz.1,CF,())])) none)
def D5.l7(k:Nat):Nat→Int→Int→Int→CG→(Unit×Int×Unit×Unit)→(Unit×Int×Unit×Unit)→(List Cv)→(List CU)→(List Cv)→(List CU)→Option (((Unit×Int×Unit×Unit))×CG×(List Cv)×(List CU))
 |0,_,_,_,_,_,_,_,_,_,_=>none
 |n+1,t4,t5,t6,o0,Ct,Cw,Cz,CE,CJ,CL=>
  cond (decide (t6<t5)) ((Eb k 4 o0).bind fun r6=>D5.EA k (D5.l7 k n) k t4 t5 t6 0 r6.2 Ct Cw (IntKind.wrap .i64 (1+r6.1),(),()) Cz CE CJ CL []) (some (Cw,(o0,CJ,CL)))
def D5.c6(k:Nat)(t4:Int)(t5:Int)(o0:CG)(Ct:Unit×Int×Unit×Unit)(Cw:Unit×Int×Unit×Unit)(Cz:List Cv)(CE:List Cv)(CJ:List CU)(CL:List CU):Option (((Unit×Int×Unit×Unit))×CG×(List Cv)×(List CU)):=
 D5.l7 k k t4 t5 0 o0 Ct Cw CE CJ Cz CL
def D5(k:Nat)(o0:CG):Option (((Unit×Int×Unit×Unit))×CG×(List Cv)×(List CU)):=
 (H8 k o0).bind fun r7=>(ED k r7.2.2).bind fun r8=>(Eb k 4 r7.2.1).bind fun r9=>(IM k 25 r9.2).bind fun DR=>cond DR.1 (D5.c6 k (List.length r8.2:Int) 40 DR.2 ((),0,(),()) ((),0,(),()) r7.2.2 [] [] []) (D5.c6 k (List.length r8.2:Int) r9.1 DR.2 ((),0,(),()) ((),0,(),()) r7.2.2 [] [] [])
def KL(k:Nat)(o0:CG):Option (Int×CG):=
 (Eb k 1000000 o0).bind fun r1=>(Eb k 1000000 r1.2).bind fun r2=>(Eb k 300 r2.2).bind fun r3=>(Ih k [0,1,(-1),63,64,(-64),(-65),127,128,16383,16384,2147483647,(-2147483648),9223372036854775807,(-9223372036854775808),4611686018427387904,r1.1,IntKind.wrap .i64 (0-r2.1),r3.1] r3.2).bind fun r4=>some (r4.1,r4.2)
def He.l4(k:Nat):Nat→Int→Int→CG→(List Int)→Option (Unit×CG×(List Int))
 |0,_,_,_,_=>none
 |n+1,t6,t7,o0,Ct=>
  cond (decide (t7<t6)) ((GD k o0).bind fun r1=>cond (lim (List.length Ct+List.length [IntKind.wrap .u8 r1.1])) ((He.l4 k n) t6 (IntKind.wrap .i64 (t7+1)) r1.2 (Ct++[IntKind.wrap .u8 r1.1])) none) (some ((),(o0,Ct)))
def He(k:Nat)(t1:Int)(o0:CG):Option (Unit×CG×(List Int)):=
 (Eb k (IntKind.wrap .i64 (t1+1)) o0).bind fun r2=>He.l4 k k r2.1 0 r2.2 []
def JW(k:Nat)(t1:Int)(o0:CG):Option (ByteArray×CG):=
 (He k t1 o0).bind fun r1=>some (zX r1.2.2,r1.2.1)
def Di.JJ(k:Nat)(Oy:Int→Int→Int→Int→Int→Int→CG→(List Cu)→Option (Unit×CG×(List Cu)))(t1:Int)(t3:Int)(t13:Int)(t14:Int)(t15:Int)(t16:Int)(o0:CG)(Ct:List Cu):Option (Unit×CG×(List Cu)):=
 Oy t1 t3 t13 t14 t15 (IntKind.wrap .i64 (t16+1)) o0 Ct
def Di.Ie(k:Nat)(Ew:Int→Int→Int→CG→(List Cu)→Option (Unit×CG×(List Cu))):Nat→Int→Int→Int→Int→Int→Int→CG→(List Cu)→Option (Unit×CG×(List Cu))
 |0,_,_,_,_,_,_,_,_=>none
 |n+1,t1,t3,t13,t14,t15,t16,o0,Ct=>
  cond (decide (t16<t13)) (cond (t1==12) ((Ih k [1,2,5,6,8,9,12] o0).bind fun r1=>(Eb k 3 r1.2).bind fun r2=>(Eb k 6 r2.2).bind fun r3=>(Ew r1.1 (IntKind.wrap .i64 ((IntKind.wrap .i64 ((IntKind.wrap .i64 (t15+1))+r2.1))+(IntKind.wrap .i64 ((IntKind.wrap .i64 (Int.tdiv r3.1 5))*20)))) (IntKind.wrap .i64 (t3-1)) r3.2 Ct).bind fun r4=>Di.JJ k (Di.Ie k Ew n) t1 t3 t13 t14 (IntKind.wrap .i64 ((IntKind.wrap .i64 ((IntKind.wrap .i64 (t15+1))+r2.1))+(IntKind.wrap .i64 ((IntKind.wrap .i64 (Int.tdiv r3.1 5))*20)))) t16 r4.2.1 r4.2.2) ((Ew t14 0 (IntKind.wrap .i64 (t3-1)) o0 Ct).bind fun r5=>Di.JJ k (Di.Ie k Ew n) t1 t3 t13 t14 t15 t16 r5.2.1 r5.2.2)) (some ((),(o0,Ct)))
def Di.J9(k:Nat)(Ew:Int→Int→Int→CG→(List Cu)→Option (Unit×CG×(List Cu)))(t1:Int)(t3:Int)(t13:Int)(t14:Int)(o0:CG)(Ct:List Cu):Option (Unit×CG×(List Cu)):=
 Di.Ie k Ew k t1 t3 t13 t14 0 0 o0 Ct
def Di.c18(k:Nat)(Ew:Int→Int→Int→CG→(List Cu)→Option (Unit×CG×(List Cu)))(t1:Int)(t3:Int)(t12:Int)(t13:Int)(o0:CG)(Ct:List Cu):Option (Unit×CG×(List Cu)):=
 (Ih k [5,8,6,12,9] o0).bind fun r6=>(h_ Ct t12).bind fun y7=>(h_ Ct t12).bind fun y8=>(cond (t1==9) (some (decide (t13>0))) (some false)).bind fun b9=>cond b9 ((h_ (List.set Ct (Int.toNat t12) (y8.1,y8.2.1,y8.2.2.1,y8.2.2.2.1,t13,())) t12).bind fun Hl=>(h_ (List.set Ct (Int.toNat t12) (y8.1,y8.2.1,y8.2.2.1,y8.2.2.2.1,t13,())) t12).bind fun IV=>Di.J9 k Ew t1 t3 t13 r6.1 r6.2 (List.set (List.set Ct (Int.toNat t12) (y8.1,y8.2.1,y8.2.2.1,y8.2.2.2.1,t13,())) (Int.toNat t12) (IV.1,IV.2.1,r6.1,IV.2.2.2.1,IV.2.2.2.2.1,()))) (Di.J9 k Ew t1 t3 t13 r6.1 r6.2 (List.set Ct (Int.toNat t12) (y8.1,y8.2.1,y8.2.2.1,y8.2.2.2.1,t13,())))
def Di.c16(k:Nat)(Ew:Int→Int→Int→CG→(List Cu)→Option (Unit×CG×(List Cu)))(t1:Int)(t3:Int)(t12:Int)(t13:Int)(o0:CG)(Ct:List Cu):Option (Unit×CG×(List Cu)):=
 (IM k 20 o0).bind fun GC=>cond GC.1 (Di.c18 k Ew t1 t3 t12 (IntKind.wrap .i64 (t13*6)) GC.2 Ct) (Di.c18 k Ew t1 t3 t12 t13 GC.2 Ct)
def Di.c9(k:Nat)(Ew:Int→Int→Int→CG→(List Cu)→Option (Unit×CG×(List Cu)))(t1:Int)(t3:Int)(o0:CG)(CQ:List Cu)(Ct:Cu):Option (Unit×CG×(List Cu)):=
 cond (lim (List.length CQ+List.length [Ct])) ((cond (t1 !=9) (some (t1 !=12)) (some false)).bind fun b13=>cond b13 (some ((),(o0,CQ++[Ct]))) ((Eb k 4 o0).bind fun Fw=>cond (t3==0) (Di.c16 k Ew t1 t3 (List.length CQ:Int) 0 Fw.2 (CQ++[Ct])) (Di.c16 k Ew t1 t3 (List.length CQ:Int) Fw.1 Fw.2 (CQ++[Ct])))) none
def Di.b(k:Nat)(Ew:Int→Int→Int→CG→(List Cu)→Option (Unit×CG×(List Cu)))(t1:Int)(t2:Int)(t3:Int)(o0:CG)(CQ:List Cu):Option (Unit×CG×(List Cu)):=
 cond (t1==5) ((Eb k 1000 o0).bind fun Du=>Di.c9 k Ew t1 t3 Du.2 CQ (t1,t2,IntKind.wrap .i64 (Du.1-300),CX,0,())) (cond (t1==6) ((KL k o0).bind fun r16=>Di.c9 k Ew t1 t3 r16.2 CQ (t1,t2,r16.1,CX,0,())) (cond (t1==8) ((JW k 5 o0).bind fun EK=>Di.c9 k Ew t1 t3 EK.2 CQ (t1,t2,0,EK.1,0,())) (Di.c9 k Ew t1 t3 o0 CQ (t1,t2,0,CX,0,()))))
def Di.rec(k:Nat):Nat→(Int→Int→Int→CG→(List Cu)→Option (Unit×CG×(List Cu)))
 |0=>fun _ _ _ _ _=>none
 |d+1=>Di.b k ((Di.rec k d))
def Di.d(k d:Nat):Int→Int→Int→CG→(List Cu)→Option (Unit×CG×(List Cu)):=(Di.rec k d)
def Di(k:Nat):Int→Int→Int→CG→(List Cu)→Option (Unit×CG×(List Cu)):=Di.d k k
def KM(k:Nat)(o0:CG):Option (Unit×CG×(List Cu)):=
 (Eb k 3 o0).bind fun r1=>(Di k 12 0 (IntKind.wrap .i64 (1+r1.1)) r1.2 []).bind fun r2=>cond (decide ((List.length r2.2.2:Int)>300)) (some ((),(r2.2.1,[(12,0,0,CX,0,())]))) (some ((),(r2.2.1,r2.2.2)))
def KI(k:Nat)(t0:Int)(t1:Int):Option Int:=
 cond (decide (t0<t1)) (some t0) (some t1)
def Ec.c23(k:Nat)(o0:CG)(Ct:List Cu):Option (Unit×CG×(List Cu)):=
 some ((),(o0,Ct))
def Ec.d9(k:Nat)(t4:Int)(o0:CG)(Ct:List Cu):Option (Unit×CG×(List Cu)):=
 (h_ Ct t4).bind fun y1=>(Eb k 3 o0).bind fun r2=>(h_ Ct t4).bind fun y3=>(h_ Ct t4).bind fun y4=>Ec.c23 k r2.2 (List.set Ct (Int.toNat t4) (y4.1,y4.2.1,y4.2.2.1,y4.2.2.2.1,IntKind.wrap .i64 ((IntKind.wrap .i64 (y1.2.2.2.2.1+1))-r2.1),()))
def Ec.GX(k:Nat):Nat→Int→CG→(List Cu)→Option (Unit×CG×(List Cu))
 |0,_,_,_=>none
 |n+1,t5,o0,Ct=>
  (Eb k 2 o0).bind fun EU=>cond (decide (t5<(IntKind.wrap .i64 (11+EU.1)))) ((KI k t5 1).bind fun Fw=>cond (lim (List.length Ct+List.length ([(12,Fw,0,CX,1,())]:List Cu))) ((Ec.GX k n) (IntKind.wrap .i64 (t5+1)) EU.2 (Ct++[(12,Fw,0,CX,1,())])) none) (cond (lim (List.length Ct+List.length ([(1,1,0,CX,0,())]:List Cu))) (Ec.c23 k EU.2 (Ct++[(1,1,0,CX,0,())])) none)
def Ec(k:Nat)(o0:CG):Option (Unit×CG×(List Cu)):=
 (KM k o0).bind fun Du=>(Eb k (List.length Du.2.2:Int) Du.2.1).bind fun r16=>(Eb k 25 r16.2).bind fun EK=>cond (EK.1==0) ((Eb k 14 EK.2).bind fun Fx=>(h_ Du.2.2 r16.1).bind fun JF=>(h_ Du.2.2 r16.1).bind fun y20=>Ec.c23 k Fx.2 (List.set Du.2.2 (Int.toNat r16.1) (Fx.1,y20.2.1,y20.2.2.1,y20.2.2.2.1,y20.2.2.2.2.1,()))) (cond (EK.1==1) ((Ih k [0,1,1000,1001,(-1)] EK.2).bind fun KA=>(h_ Du.2.2 r16.1).bind fun y22=>(h_ Du.2.2 r16.1).bind fun y23=>Ec.c23 k KA.2 (List.set Du.2.2 (Int.toNat r16.1) (y23.1,KA.1,y23.2.2.1,y23.2.2.2.1,y23.2.2.2.2.1,()))) (cond (EK.1==2) (Ec.d9 k r16.1 EK.2 Du.2.2) (cond (EK.1==3) ((Ih k [0,1,2147483648,8] EK.2).bind fun JA=>(h_ Du.2.2 r16.1).bind fun y25=>(h_ Du.2.2 r16.1).bind fun FZ=>Ec.c23 k JA.2 (List.set Du.2.2 (Int.toNat r16.1) (FZ.1,FZ.2.1,JA.1,FZ.2.2.2.1,FZ.2.2.2.2.1,()))) (cond (EK.1==4) ((Eb k 2 EK.2).bind fun L9=>cond (rR (IntKind.wrap .i64 (300+L9.1))) ((h_ Du.2.2 r16.1).bind fun y28=>(h_ Du.2.2 r16.1).bind fun y29=>Ec.c23 k L9.2 (List.set Du.2.2 (Int.toNat r16.1) (y29.1,y29.2.1,y29.2.2.1,zX (List.replicate (Int.toNat (IntKind.wrap .i64 (300+L9.1))) 0),y29.2.2.2.2.1,()))) none) (cond (EK.1==5) (cond (lim (List.length Du.2.2+List.length ([(5,0,0,CX,0,())]:List Cu))) (Ec.c23 k EK.2 (Du.2.2++[(5,0,0,CX,0,())])) none) (cond (EK.1==6) (Ec.GX k k 0 EK.2 []) (Ec.c23 k EK.2 Du.2.2)))))))
def KJ(k:Nat)(t1:List ByteArray)(o0:CG):Option (ByteArray×CG):=
 (Eb k (List.length t1:Int) o0).bind fun r1=>(h_ t1 r1.1).bind fun y2=>some (y2,r1.2)
def FU.c16(k:Nat)(Ct:List Cu):Option (Unit×(List Cu)):=
 some ((),Ct)
def FU.d11(k:Nat)(t6:Int)(Ct:CG)(Cw:List Cu):Option (Unit×(List Cu)):=
 (h_ Cw t6).bind fun y1=>(Eb k 2 Ct).bind fun r2=>(h_ Cw t6).bind fun y3=>(h_ Cw t6).bind fun y4=>FU.c16 k (List.set Cw (Int.toNat t6) (y4.1,IntKind.wrap .i64 (y1.2.1+r2.1),y4.2.2.1,y4.2.2.2.1,y4.2.2.2.2.1,()))
def FU(k:Nat)(t0:List Int):Option (Unit×(List Cu)):=
 (Hf k t0).bind fun EU=>(D5 k EU.2).bind fun Fw=>(Dz k (Fw.2.2.1,Fw.1.2.1,Fw.2.2.2,())).bind fun Du=>cond (!Du.1.2) ((Ec k Fw.2.1).bind fun r16=>some ((),r16.2.2)) ((IM k 2 Fw.2.1).bind fun EK=>cond EK.1 ((Eb k (IntKind.wrap .i64 ((List.length Du.2:Int)-1)) EK.2).bind fun Fx=>(Eb k 5 Fx.2).bind fun Ig=>cond (Ig.1==0) ((h_ Du.2 (IntKind.wrap .i64 (1+Fx.1))).bind fun y20=>(h_ Du.2 (IntKind.wrap .i64 (1+Fx.1))).bind fun y21=>(h_ Du.2 (IntKind.wrap .i64 (1+Fx.1))).bind fun y22=>FU.c16 k (List.set Du.2 (Int.toNat (IntKind.wrap .i64 (1+Fx.1))) (y22.1,y22.2.1,IntKind.wrap .i64 (y20.2.2.1+1),y22.2.2.2.1,y22.2.2.2.2.1,()))) (cond (Ig.1==1) (FU.d11 k (IntKind.wrap .i64 (1+Fx.1)) Ig.2 Du.2) (cond (Ig.1==2) ((KJ k [(⟨#[97]⟩:ByteArray),CX,(⟨#[97,97]⟩:ByteArray)] Ig.2).bind fun Io=>(h_ Du.2 (IntKind.wrap .i64 (1+Fx.1))).bind fun y24=>(h_ Du.2 (IntKind.wrap .i64 (1+Fx.1))).bind fun y25=>FU.c16 k (List.set Du.2 (Int.toNat (IntKind.wrap .i64 (1+Fx.1))) (y25.1,y25.2.1,y25.2.2.1,Io.1,y25.2.2.2.2.1,()))) (cond (Ig.1==3) ((Ih k [6,5] Ig.2).bind fun Xz=>(h_ Du.2 (IntKind.wrap .i64 (1+Fx.1))).bind fun y27=>(h_ Du.2 (IntKind.wrap .i64 (1+Fx.1))).bind fun y28=>FU.c16 k (List.set Du.2 (Int.toNat (IntKind.wrap .i64 (1+Fx.1))) (Xz.1,y28.2.1,y28.2.2.1,y28.2.2.2.1,y28.2.2.2.2.1,()))) (FU.c16 k Du.2))))) (FU.c16 k Du.2))
def Ff(k:Nat)(t0:Int)(t1:Int)(t2:Int):Option Bool:=
 (cond (decide (t0≥t1)) (some (decide (t0≤t2))) (some false)).bind fun b1=>some b1
def Km(k:Nat)(t0:Int):Option Bool:=
 (Ff k t0 0 2).bind fun r1=>(cond r1 (some true) (some (t0==5))).bind fun b2=>(cond b2 (some true) (some (t0==6))).bind fun b3=>some b3
def Ko(k:Nat)(t0:Cv):Option Bool:=
 (cond (t0.2.1==7) (some (decide (t0.2.2.2.1>0))) (some false)).bind fun b1=>(Km k t0.2.1).bind fun r2=>(cond r2 (some (t0.2.2.2.1==0)) (some false)).bind fun b3=>(cond b1 (some true) (some (b3))).bind fun b4=>(cond b4 ((Ff k t0.2.2.1 0 2).bind fun r5=>some (r5)) (some false)).bind fun b6=>some b6
def Ht.l2(k:Nat):Nat→ByteArray→Int→Int→Option Bool
 |0,_,_,_=>none
 |n+1,t0,t5,t6=>
  cond (decide (t6<t5)) ((qa t0 t6).bind fun y1=>(Ff k (IntKind.wrap .i64 y1) 97 122).bind fun r2=>cond (!r2) (some false) ((Ht.l2 k n) t0 t5 (IntKind.wrap .i64 (t6+1)))) ((Ff k (t0.size:Int) 1 20).bind fun r3=>some r3)
def Ht(k:Nat)(t0:ByteArray):Option Bool:=
 Ht.l2 k k t0 (t0.size:Int) 0
def Dp.l10(k:Nat)(GL:(List Cv)→Int→Int→Option Int)(L6:(List Cv)→Int→Int→Int→Int→(List ByteArray)→Option Int):Nat→(List Cv)→Int→Int→Int→Int→Int→Int→(List ByteArray)→Option Int
 |0,_,_,_,_,_,_,_,_=>none
 |n+1,t0,t2,t7,t47,t48,t55,t56,Ct=>
  cond (decide (t56<t55)) ((h_ Ct t56).bind fun y1=>(h_ t0 t7).bind fun y2=>cond (iI y1 y2.1) (some (-1)) ((Dp.l10 k GL L6 n) t0 t2 t7 t47 t48 t55 (IntKind.wrap .i64 (t56+1)) Ct)) ((h_ t0 t7).bind fun y3=>cond (lim (List.length Ct+List.length [y3.1])) ((GL t0 t7 (IntKind.wrap .i64 (t2+1))).bind fun r4=>cond (decide (r4<0)) (some (-1)) (L6 t0 t2 r4 t47 (IntKind.wrap .i64 (t48+1)) (Ct++[y3.1]))) none)
def Dp.l6(k:Nat)(GL:(List Cv)→Int→Int→Option Int):Nat→(List Cv)→Int→Int→Int→Int→(List ByteArray)→Option Int
 |0,_,_,_,_,_,_=>none
 |n+1,t0,t2,t7,t47,t48,Ct=>
  cond (decide (t48<t47)) (cond (decide (t7≥(List.length t0:Int))) (some (-1)) (Dp.l10 k GL (Dp.l6 k GL n) k t0 t2 t7 t47 t48 (List.length Ct:Int) 0 Ct)) (some t7)
def Dp.b(k:Nat)(GL:(List Cv)→Int→Int→Option Int)(t0:List Cv)(t1:Int)(t2:Int):Option Int:=
 (cond (decide (t1≥(List.length t0:Int))) (some true) (some (decide (t2>6)))).bind fun b5=>(cond b5 (some true) ((h_ t0 t1).bind fun y6=>(Ko k y6).bind fun r7=>some (!r7))).bind fun b8=>(cond b8 (some true) ((cond (decide (t1>0)) ((h_ t0 t1).bind fun y9=>(Ht k y9.1).bind fun DR=>some (!DR)) (some false)).bind fun b11=>some (b11))).bind fun b12=>cond b12 (some (-1)) ((h_ t0 t1).bind fun y13=>Dp.l6 k GL k t0 t2 (IntKind.wrap .i64 (t1+1)) y13.2.2.2.1 0 [])
def Dp.rec(k:Nat):Nat→((List Cv)→Int→Int→Option Int)
 |0=>fun _ _ _=>none
 |d+1=>Dp.b k ((Dp.rec k d))
def Dp.d(k d:Nat):(List Cv)→Int→Int→Option Int:=(Dp.rec k d)
def Dp(k:Nat):(List Cv)→Int→Int→Option Int:=Dp.d k k
def EZ(k:Nat)(t0:List Cv):Option Bool:=
 (Ff k (List.length t0:Int) 2 20).bind fun r1=>(cond (!r1) (some true) ((h_ t0 0).bind fun y2=>some (y2.2.1 !=7))).bind fun b3=>(cond b3 (some true) ((h_ t0 0).bind fun y4=>some (y4.2.2.1 !=0))).bind fun b5=>(cond b5 (some true) ((h_ t0 0).bind fun y6=>some (!iI y6.1 CX))).bind fun b7=>cond b7 (some false) ((Dp k t0 0 1).bind fun r8=>some (r8==(List.length t0:Int)))
def FM.c7(k:Nat)(L3:(List Cv)→Int→Int→(List Int)→Option (Unit×(List Int)))(t7:List Cv)(t8:Int)(t9:Int)(Ct:List Int):Option (Unit×(List Int)):=
 L3 t7 t8 (IntKind.wrap .i64 (t9+1)) Ct
def FM.l3(k:Nat):Nat→(List Cv)→Int→Int→(List Int)→Option (Unit×(List Int))
 |0,_,_,_,_=>none
 |n+1,t7,t8,t9,Ct=>
  cond (decide (t9<t8)) ((h_ t7 t9).bind fun y1=>cond (y1.2.1 !=7) (cond (lim (List.length Ct+List.length [t9])) (FM.c7 k (FM.l3 k n) t7 t8 t9 (Ct++[t9])) none) (FM.c7 k (FM.l3 k n) t7 t8 t9 Ct)) (some ((),Ct))
def FM(k:Nat)(t0:List Cv):Option (Unit×(List Int)):=
 FM.l3 k k t0 (List.length t0:Int) 0 []
def Ib.l2(k:Nat):Nat→(List Int)→(List Int)→Int→Int→Option Bool
 |0,_,_,_,_=>none
 |n+1,t0,t5,t6,t7=>
  cond (decide (t7<t6)) ((h_ t5 t7).bind fun y1=>(Ff k y1 0 9).bind fun r2=>(cond (!r2) (some true) ((cond (decide (t7>0)) ((h_ t0 (IntKind.wrap .i64 (t7-1))).bind fun y3=>some (decide (y3≥y1))) (some false)).bind fun b4=>some (b4))).bind fun b5=>cond b5 (some false) ((Ib.l2 k n) t0 t5 t6 (IntKind.wrap .i64 (t7+1)))) ((Ff k (List.length t0:Int) 1 5).bind fun r6=>some r6)
def Ib(k:Nat)(t0:List Int):Option Bool:=
 Ib.l2 k k t0 t0 (List.length t0:Int) 0
def Kn(k:Nat)(t0:Dg)(t1:Int):Option Bool:=
 (Ff k t0.2.1 0 60000).bind fun r1=>(cond r1 ((Ff k t0.2.2.1 (-1) 60000).bind fun r2=>some (r2)) (some false)).bind fun b3=>(cond b3 ((Ff k t0.2.2.2.2.1 0 60000).bind fun r4=>some (r4)) (some false)).bind fun b5=>(cond (t0.1==t1) (some (b5)) (some false)).bind fun b6=>(cond b6 ((Ff k t0.2.2.2.1 1 2000).bind fun r7=>some (r7)) (some false)).bind fun b8=>(cond b8 ((Ib k t0.2.2.2.2.2.1).bind fun r9=>some (r9)) (some false)).bind fun b10=>some b10
def Eg.l10(k:Nat)(L5:Int→(List CU)→Int→Int→DJ→Option Bool):Nat→Int→(List CU)→Int→Int→(List Dg)→Int→Int→DJ→CU→Option Bool
 |0,_,_,_,_,_,_,_,_,_=>none
 |n+1,t3,t19,t20,t21,t40,t41,t42,Ct,Cw=>
  cond (decide (t42<t41)) ((h_ t40 t42).bind fun y1=>(Kn k y1 t42).bind fun r2=>cond (!r2) (some false) ((Eg.l10 k L5 n) t3 t19 t20 t21 t40 t41 (IntKind.wrap .i64 (t42+1)) Ct Cw)) (L5 (IntKind.wrap .i64 (t3+Cw.1)) t19 t20 (IntKind.wrap .i64 (t21+1)) Ct)
def Eg.d7(k:Nat)(L5:Int→(List CU)→Int→Int→DJ→Option Bool)(t3:Int)(t19:List CU)(t20:Int)(t21:Int)(Ct:DJ)(Cw:CU):Option Bool:=
 (Ff k Cw.1 1 200).bind fun r3=>cond (!r3) (cond true (some false) (Eg.l10 k L5 k t3 t19 t20 t21 Cw.2.1 (List.length Cw.2.1:Int) 0 Ct Cw)) ((FM k Ct.1).bind fun r4=>cond ((List.length Cw.2.1:Int) !=(List.length r4.2:Int)) (some false) (Eg.l10 k L5 k t3 t19 t20 t21 Cw.2.1 (List.length Cw.2.1:Int) 0 Ct Cw))
def Eg.l5(k:Nat):Nat→Int→(List CU)→Int→Int→DJ→Option Bool
 |0,_,_,_,_,_=>none
 |n+1,t3,t19,t20,t21,Ct=>
  cond (decide (t21<t20)) ((h_ t19 t21).bind fun y9=>Eg.d7 k (Eg.l5 k n) t3 t19 t20 t21 Ct y9) ((cond (t3==Ct.2.1) (some (decide (t3≤200))) (some false)).bind fun b10=>some b10)
def Eg(k:Nat)(t0:DJ):Option Bool:=
 (EZ k t0.1).bind fun E9=>(cond (!E9) (some true) (some (decide ((List.length t0.2.2.1:Int)>40)))).bind fun b12=>cond b12 (some false) (Eg.l5 k k 0 t0.2.2.1 (List.length t0.2.2.1:Int) 0 t0)
def Lv(k:Nat)(t0:Int):Option Bool:=
 (Ff k t0 (-2147483648) 2147483647).bind fun r1=>some r1
def FL.c10(k:Nat)(t11:Bool):Option Bool:=
 cond t11 (some true) (some false)
def FL.c4(k:Nat)(t1:Bool)(t5:Int)(t6:Bool):Option Bool:=
 cond t6 (some (!t1)) (cond (t5==5) (FL.c10 k (t5==5)) (cond (t5==6) (FL.c10 k (t5==6)) (cond (t5==8) (FL.c10 k (t5==8)) (cond (t5==9) (FL.c10 k (t5==9)) (FL.c10 k (t5==12))))))
def FL(k:Nat)(t0:Int)(t1:Bool):Option Bool:=
 cond (t0==1) (FL.c4 k t1 t0 (t0==1)) (FL.c4 k t1 t0 (t0==2))
def Kq(k:Nat)(t0:Cu):Option Bool:=
 cond (t0.1==5) ((Lv k t0.2.2.1).bind fun r1=>(cond r1 (some (iI t0.2.2.2.1 CX)) (some false)).bind fun b2=>(cond b2 (some (t0.2.2.2.2.1==0)) (some false)).bind fun b3=>some b3) (cond (t0.1==6) ((cond (iI t0.2.2.2.1 CX) (some (t0.2.2.2.2.1==0)) (some false)).bind fun b4=>some b4) (cond (t0.1==8) ((cond (t0.2.2.1==0) (some (decide ((t0.2.2.2.1.size:Int)≤300))) (some false)).bind fun b5=>(cond b5 (some (t0.2.2.2.2.1==0)) (some false)).bind fun b6=>some b6) (cond (t0.1==9) ((cond (iI t0.2.2.2.1 CX) (some (decide (t0.2.2.2.2.1≥0))) (some false)).bind fun b7=>(cond b7 ((cond (t0.2.2.2.2.1==0) (some (t0.2.2.1==0)) (some false)).bind fun b8=>(cond b8 (some true) ((cond (decide (t0.2.2.2.2.1>0)) ((FL k t0.2.2.1 true).bind fun r9=>some (r9)) (some false)).bind fun b10=>some (b10))).bind fun b11=>some (b11)) (some false)).bind fun b12=>some b12) (cond (t0.1==12) ((cond (t0.2.2.1==0) (some (iI t0.2.2.2.1 CX)) (some false)).bind fun b13=>(cond b13 (some (decide (t0.2.2.2.2.1≥0))) (some false)).bind fun b14=>some b14) ((FL k t0.1 false).bind fun Du=>(cond Du (some (t0.2.2.1==0)) (some false)).bind fun b16=>(cond b16 (some (iI t0.2.2.2.1 CX)) (some false)).bind fun b17=>(cond b17 (some (t0.2.2.2.2.1==0)) (some false)).bind fun b18=>some b18)))))
def EJ.l7(k:Nat)(Iz:Int→Int→(Bool×Dc)→(List Int)→Option (Int×Dc×(List Int))):Nat→Int→Int→Int→Int→Int→Int→Dc→(List Int)→Cu→Option (Int×Dc×(List Int))
 |0,_,_,_,_,_,_,_,_,_=>none
 |n+1,t1,t2,t8,t9,t43,t44,o0,CQ,Ct=>
  cond (decide (t44<t43)) (cond (decide (t8≥(List.length o0.1:Int))) (some ((-1),(o0,CQ))) ((h_ o0.1 t8).bind fun y1=>(cond (Ct.1==9) ((cond (y1.1 !=Ct.2.2.1) (some true) (some (y1.2.1 !=0))).bind fun b2=>some (b2)) (some false)).bind fun b3=>cond b3 (some ((-1),(o0,CQ))) ((cond (Ct.1==12) ((Ff k y1.2.1 (IntKind.wrap .i64 (t9+1)) 1000).bind fun r4=>some (!r4)) (some false)).bind fun b5=>cond b5 (some ((-1),(o0,CQ))) ((Iz t8 (IntKind.wrap .i64 (t2+1)) (true,o0) CQ).bind fun r6=>cond (decide (r6.1<0)) (some ((-1),(r6.2.1,r6.2.2))) ((EJ.l7 k Iz n) t1 t2 r6.1 y1.2.1 t43 (IntKind.wrap .i64 (t44+1)) r6.2.1 r6.2.2 Ct))))) ((h_ CQ t1).bind fun y7=>(h_ CQ t1).bind fun y8=>some (t8,(o0,List.set CQ (Int.toNat t1) t8)))
def EJ.b(k:Nat)(Iz:Int→Int→(Bool×Dc)→(List Int)→Option (Int×Dc×(List Int)))(t1:Int)(t2:Int)(o0:Bool×Dc)(CQ:List Int):Option (Int×Dc×(List Int)):=
 cond (o0.1) ((cond (decide (t1≥(List.length o0.2.1:Int))) (some true) (some (decide (t2>12)))).bind fun b9=>(cond b9 (some true) ((h_ o0.2.1 t1).bind fun Hl=>(Kq k Hl).bind fun E9=>some (!E9))).bind fun b12=>cond b12 (some ((-1),(o0.2,CQ))) ((h_ o0.2.1 t1).bind fun y13=>EJ.l7 k Iz k t1 t2 (IntKind.wrap .i64 (t1+1)) 0 y13.2.2.2.2.1 0 o0.2 CQ y13)) none
def EJ.rec(k:Nat):Nat→(Int→Int→(Bool×Dc)→(List Int)→Option (Int×Dc×(List Int)))
 |0=>fun _ _ _ _=>none
 |d+1=>EJ.b k ((EJ.rec k d))
def EJ.d(k d:Nat):Int→Int→(Bool×Dc)→(List Int)→Option (Int×Dc×(List Int)):=(EJ.rec k d)
def EJ(k:Nat):Int→Int→(Bool×Dc)→(List Int)→Option (Int×Dc×(List Int)):=EJ.d k k
def Ju(k:Nat)(t0:List Cu):Option ((Unit×Bool)×(Bool×Dc)×(List Int)):=
 (Ff k (List.length t0:Int) 1 1500).bind fun r1=>cond (!r1) (some (((),false),((false,([],(),())),[]))) (cond (rR (List.length t0:Int)) ((h_ t0 0).bind fun y2=>(cond (y2.1 !=12) (some true) (some (y2.2.1 !=0))).bind fun b3=>cond b3 (cond true (some (((),false),((false,([],(),())),[]))) (some (((),true),((true,(t0,(),())),List.replicate (Int.toNat (List.length t0:Int)) 0)))) ((EJ k 0 1 (true,(t0,(),())) (List.replicate (Int.toNat (List.length t0:Int)) 0)).bind fun r4=>cond (r4.1 !=(List.length t0:Int)) (some (((),false),((false,([],(),())),[]))) (some (((),true),((true,r4.2.1),r4.2.2))))) none)
def FO.l5(k:Nat):Nat→Int→Int→Int→Int→Dc→(List Int)→Option (Int×Dc×(List Int))
 |0,_,_,_,_,_,_=>none
 |n+1,t2,t7,t37,t38,o0,CQ=>
  cond (decide (t38<t37)) ((h_ o0.1 t7).bind fun y1=>cond (y1.2.1==t2) (some (t7,(o0,CQ))) ((h_ CQ t7).bind fun y2=>(FO.l5 k n) t2 y2 t37 (IntKind.wrap .i64 (t38+1)) o0 CQ)) (some ((-1),(o0,CQ)))
def FO(k:Nat)(t1:Int)(t2:Int)(o0:Bool×Dc)(CQ:List Int):Option (Int×Dc×(List Int)):=
 cond (o0.1) ((Ff k t1 0 (IntKind.wrap .i64 ((List.length o0.2.1:Int)-1))).bind fun r3=>(cond (!r3) (some true) ((h_ o0.2.1 t1).bind fun y4=>some (y4.1 !=12))).bind fun b5=>cond b5 (some ((-1),(o0.2,CQ))) ((h_ o0.2.1 t1).bind fun y6=>FO.l5 k k t2 (IntKind.wrap .i64 (t1+1)) y6.2.2.2.2.1 0 o0.2 CQ)) none
def Gn.l7(k:Nat):Nat→Int→Int→Int→Dc→(List Int)→(List Int)→Option ((Unit×Bool)×Dc×(List Int)×(List Int))
 |0,_,_,_,_,_,_=>none
 |n+1,t12,t63,t64,o0,CQ,Ct=>
  cond (decide (t64<t63)) (cond (lim (List.length Ct+List.length [t12])) ((h_ CQ t12).bind fun y1=>(Gn.l7 k n) y1 t63 (IntKind.wrap .i64 (t64+1)) o0 CQ (Ct++[t12])) none) (some (((),true),(o0,CQ,Ct)))
def Gn(k:Nat)(t1:Int)(t2:Int)(t3:Int)(o0:Bool×Dc)(CQ:List Int):Option ((Unit×Bool)×Dc×(List Int)×(List Int)):=
 (FO k t1 t2 (o0.1,o0.2) CQ).bind fun r2=>(cond (decide (r2.1<0)) (some true) ((h_ r2.2.1.1 r2.1).bind fun y3=>some (y3.1 !=9))).bind fun b4=>(cond b4 (some true) ((h_ r2.2.1.1 r2.1).bind fun y5=>(cond (decide (y5.2.2.2.2.1>0)) ((h_ r2.2.1.1 r2.1).bind fun y6=>some (y6.2.2.1 !=t3)) (some false)).bind fun b7=>some (b7))).bind fun b8=>cond b8 (some (((),false),(r2.2.1,r2.2.2,[]))) ((h_ r2.2.1.1 r2.1).bind fun y9=>Gn.l7 k k (IntKind.wrap .i64 (r2.1+1)) y9.2.2.2.2.1 0 r2.2.1 r2.2.2 [])
def IG(k:Nat)(t1:Int)(t2:Int)(o0:Bool×Dc)(CQ:List Int):Option ((Int×Bool)×Dc×(List Int)):=
 (FO k t1 t2 (o0.1,o0.2) CQ).bind fun r1=>(cond (decide (r1.1<0)) (some true) ((h_ r1.2.1.1 r1.1).bind fun y2=>(cond (y2.1 !=5) ((h_ r1.2.1.1 r1.1).bind fun y3=>some (y3.1 !=6)) (some false)).bind fun b4=>some (b4))).bind fun b5=>cond b5 (some ((0,false),(r1.2.1,r1.2.2))) ((h_ r1.2.1.1 r1.1).bind fun y6=>some ((y6.2.2.1,true),(r1.2.1,r1.2.2)))
def Kr(k:Nat)(t1:Int)(t2:Int)(t3:Int)(o0:Bool×Dc)(CQ:List Int):Option ((Cu×Bool)×Dc×(List Int)):=
 (FO k t1 t2 (o0.1,o0.2) CQ).bind fun r1=>(cond (decide (r1.1<0)) (some true) ((h_ r1.2.1.1 r1.1).bind fun y2=>some (y2.1 !=t3))).bind fun b3=>cond b3 (some (((0,0,0,CX,0,()),false),(r1.2.1,r1.2.2))) ((h_ r1.2.1.1 r1.1).bind fun y4=>some ((y4,true),(r1.2.1,r1.2.2)))
def Ga.c11(k:Nat)(t9:Bool)(t11:Bool)(t13:Bool)(o0:Dc)(CQ:List Int)(Ct:Cv)(Cw:Cv):Option ((Cv×Bool)×Dc×(List Int)):=
 (cond t9 (some (t11)) (some false)).bind fun b1=>(cond b1 (some (t13)) (some false)).bind fun b2=>some ((Cw,b2),(o0,CQ))
def Ga.c8(k:Nat)(t1:Int)(t9:Bool)(t11:Bool)(t13:Bool)(t14:Int)(t15:Bool)(o0:Dc)(CQ:List Int)(Ct:Cv)(Cw:Cv):Option ((Cv×Bool)×Dc×(List Int)):=
 (FO k t1 5 (true,o0) CQ).bind fun r3=>cond (decide (r3.1≥0)) (cond t15 ((FO k t1 1 (true,r3.2.1) r3.2.2).bind fun r4=>Ga.c11 k t9 t11 (decide (r4.1<0)) r4.2.1 r4.2.2 Ct (Cw.1,7,Cw.2.2.1,t14,())) (Ga.c11 k t9 t11 false r3.2.1 r3.2.2 Ct (Cw.1,7,Cw.2.2.1,t14,()))) (Ga.c11 k t9 t11 t13 r3.2.1 r3.2.2 Ct Cw)
def Ga(k:Nat)(t1:Int)(t2:Bool)(o0:Bool×Dc)(CQ:List Int):Option ((Cv×Bool)×Dc×(List Int)):=
 (Kr k t1 4 8 (o0.1,o0.2) CQ).bind fun r5=>(IG k t1 3 (true,r5.2.1) r5.2.2).bind fun r6=>(IG k t1 1 (true,r6.2.1) r6.2.2).bind fun r7=>(IG k t1 5 (true,r7.2.1) r7.2.2).bind fun r8=>cond t2 (Ga.c8 k t1 r5.1.2 true r7.1.2 r8.1.1 r8.1.2 r8.2.1 r8.2.2 (CX,0,0,0,()) (r5.1.1.2.2.2.1,r7.1.1,0,0,())) (Ga.c8 k t1 r5.1.2 r6.1.2 r7.1.2 r8.1.1 r8.1.2 r8.2.1 r8.2.2 (CX,0,0,0,()) (r5.1.1.2.2.2.1,r7.1.1,r6.1.1,0,()))
def G6.l6(k:Nat):Nat→Int→Int→Dc→(List Int)→(List Cv)→(List Int)→Option ((Unit×Bool)×Dc×(List Int)×(List Cv))
 |0,_,_,_,_,_,_=>none
 |n+1,t23,t24,o0,CQ,Ct,Cw=>
  cond (decide (t24<t23)) ((h_ Cw t24).bind fun y1=>(Ga k y1 (t24==0) (true,o0) CQ).bind fun r2=>(cond (!r2.1.2) (some true) ((cond (decide (t24>0)) (some (r2.1.1.2.2.2.1==0)) (some false)).bind fun b3=>(cond b3 (some (r2.1.1.2.1==7)) (some false)).bind fun b4=>some (b4))).bind fun b5=>cond b5 (some (((),false),(r2.2.1,r2.2.2,[]))) (cond (lim (List.length Ct+List.length [r2.1.1])) ((G6.l6 k n) t23 (IntKind.wrap .i64 (t24+1)) r2.2.1 r2.2.2 (Ct++[r2.1.1]) Cw) none)) ((EZ k Ct).bind fun r6=>cond (!r6) (some (((),false),(o0,CQ,[]))) (some (((),true),(o0,CQ,Ct))))
def G6(k:Nat)(t1:Int)(o0:Bool×Dc)(CQ:List Int):Option ((Unit×Bool)×Dc×(List Int)×(List Cv)):=
 (Gn k t1 2 12 (o0.1,o0.2) CQ).bind fun r7=>cond (!r7.1.2) (some (((),false),(r7.2.1,r7.2.2.1,[]))) (G6.l6 k k (List.length r7.2.2.2:Int) 0 r7.2.1 r7.2.2.1 [] r7.2.2.2)
def FN.c4(k:Nat)(t7:Int)(o0:D6)(CQ:Dc)(D8:List Int):Option (Int×D6×Dc×(List Int)):=
 some (t7,(o0,CQ,D8))
def FN(k:Nat)(t1:Int)(t2:Int)(o0:D6)(CQ:Dc)(D8:List Int):Option (Int×D6×Dc×(List Int)):=
 (IG k t1 t2 (true,CQ) D8).bind fun r1=>cond (!r1.1.2) (FN.c4 k r1.1.1 ((),true,()) r1.2.1 r1.2.2) (FN.c4 k r1.1.1 o0 r1.2.1 r1.2.2)
def GV.c4(k:Nat)(o0:D6)(CQ:Dc)(D8:List Int)(Ct:List Int):Option (Unit×D6×Dc×(List Int)×(List Int)):=
 some ((),(o0,CQ,D8,Ct))
def GV(k:Nat)(t1:Int)(t2:Int)(t3:Int)(o0:D6)(CQ:Dc)(D8:List Int):Option (Unit×D6×Dc×(List Int)×(List Int)):=
 (Gn k t1 t2 t3 (true,CQ) D8).bind fun r1=>cond (!r1.1.2) (GV.c4 k ((),true,()) r1.2.1 r1.2.2.1 r1.2.2.2) (GV.c4 k o0 r1.2.1 r1.2.2.1 r1.2.2.2)
def Js(k:Nat)(t0:List Cv):Option (Unit×(List Int)):=
 (EZ k t0).bind fun r1=>cond (!r1) (some ((),[])) ((FM k t0).bind fun r2=>some ((),r2.2))
def Gb.l6(k:Nat):Nat→(List Cv)→Int→Int→(List Int)→(List Int)→Option (Unit×(List Int))
 |0,_,_,_,_,_=>none
 |n+1,t0,t1,t7,Ct,Cw=>
  (h_ Ct t1).bind fun y1=>cond (decide (t7≤y1)) ((Dp k t0 t7 1).bind fun r2=>(h_ Ct t1).bind fun y3=>cond (decide (r2>y3)) (cond (lim (List.length Cw+List.length [t7])) ((Gb.l6 k n) t0 t1 (IntKind.wrap .i64 (t7+1)) Ct (Cw++[t7])) none) ((Gb.l6 k n) t0 t1 r2 Ct Cw)) (some ((),Cw))
def Gb(k:Nat)(t0:List Cv)(t1:Int):Option (Unit×(List Int)):=
 (Js k t0).bind fun r4=>(Ff k t1 0 (IntKind.wrap .i64 ((List.length r4.2:Int)-1))).bind fun r5=>cond (!r5) (some ((),[])) (Gb.l6 k k t0 t1 1 r4.2 [])
def FK.l3(k:Nat):Nat→(List Cv)→Int→Int→(List ByteArray)→(List Int)→Option (Unit×(List ByteArray))
 |0,_,_,_,_,_=>none
 |n+1,t0,t12,t13,Ct,Cw=>
  cond (decide (t13<t12)) ((h_ Cw t13).bind fun y1=>(h_ t0 y1).bind fun y2=>cond (lim (List.length Ct+List.length [y2.1])) ((FK.l3 k n) t0 t12 (IntKind.wrap .i64 (t13+1)) (Ct++[y2.1]) Cw) none) (some ((),Ct))
def FK(k:Nat)(t0:List Cv)(t1:Int):Option (Unit×(List ByteArray)):=
 (Gb k t0 t1).bind fun r3=>FK.l3 k k t0 (List.length r3.2:Int) 0 [] r3.2
def EI.c12(k:Nat)(L6:(List Cv)→Int→Int→Int→Int→(List Int)→Option (Int×Int))(t0:List Cv)(t7:Int)(t8:Int)(t18:Int)(t19:Int)(Ct:List Int):Option (Int×Int):=
 L6 t0 t7 t8 t18 (IntKind.wrap .i64 (t19+1)) Ct
def EI.c10(k:Nat)(L6:(List Cv)→Int→Int→Int→Int→(List Int)→Option (Int×Int))(t0:List Cv)(t7:Int)(t8:Int)(t10:Int)(t18:Int)(t19:Int)(Ct:List Int):Option (Int×Int):=
 (h_ t0 t10).bind fun y1=>cond (y1.2.2.1==2) (EI.c12 k L6 t0 t7 (IntKind.wrap .i64 (t8+1)) t18 t19 Ct) (EI.c12 k L6 t0 t7 t8 t18 t19 Ct)
def EI.l6(k:Nat):Nat→(List Cv)→Int→Int→Int→Int→(List Int)→Option (Int×Int)
 |0,_,_,_,_,_,_=>none
 |n+1,t0,t7,t8,t18,t19,Ct=>
  cond (decide (t19<t18)) ((h_ Ct t19).bind fun y2=>(h_ t0 y2).bind fun y3=>cond (y3.2.2.1 !=0) (EI.c10 k (EI.l6 k n) t0 (IntKind.wrap .i64 (t7+1)) t8 y2 t18 t19 Ct) (EI.c10 k (EI.l6 k n) t0 t7 t8 y2 t18 t19 Ct)) (some (t7,t8))
def EI(k:Nat)(t0:List Cv)(t1:Int):Option (Int×Int):=
 (Gb k t0 t1).bind fun r4=>cond ((List.length r4.2:Int)==0) (some ((-1),(-1))) (EI.l6 k k t0 0 0 (List.length r4.2:Int) 0 r4.2)
def I_(k:Nat)(t0:List Cv)(t1:Int):Option (H_×Bool):=
 (Js k t0).bind fun r1=>(Ff k t1 0 (IntKind.wrap .i64 ((List.length r1.2:Int)-1))).bind fun r2=>cond (!r2) (some ((0,0,0,()),false)) ((EI k t0 t1).bind fun r3=>(h_ r1.2 t1).bind fun y4=>(h_ t0 y4).bind fun y5=>some ((y5.2.1,r3.2,r3.1,()),true))
def G_.l4(k:Nat):Nat→(List ByteArray)→(List ByteArray)→Int→Int→Option Bool
 |0,_,_,_,_=>none
 |n+1,t0,t1,t12,t13=>
  cond (decide (t13<t12)) ((h_ t0 t13).bind fun y1=>(h_ t1 t13).bind fun y2=>cond (!iI y1 y2) (some false) ((G_.l4 k n) t0 t1 t12 (IntKind.wrap .i64 (t13+1)))) (some true)
def G_(k:Nat)(t0:List ByteArray)(t1:List ByteArray):Option Bool:=
 cond ((List.length t0:Int) !=(List.length t1:Int)) (some false) (G_.l4 k k t0 t1 (List.length t0:Int) 0)
def Dl.c28(k:Nat)(o0:D6)(CQ:Dc)(D8:List Int)(DI:List Cv)(Ct:Int×Int×Int×Int×Int×Unit×Unit)(Cw:Int×Int×Int×Int×Int×Unit×Unit)(Cz:List Int)(CE:List Int):Option (((Int×Int×Int×Int×Int×Unit×Unit))×D6×Dc×(List Int)×(List Cv)×(List Int)):=
 some (Cw,(o0,CQ,D8,DI,CE))
def Dl.c24(k:Nat)(t10:Int)(o0:D6)(CQ:Dc)(D8:List Int)(DI:List Cv)(Ct:Int×Int×Int×Int×Int×Unit×Unit)(Cw:Int×Int×Int×Int×Int×Unit×Unit)(Cz:List Int)(CE:List Int):Option (((Int×Int×Int×Int×Int×Unit×Unit))×D6×Dc×(List Int)×(List Cv)×(List Int)):=
 (FN k t10 9 o0 CQ D8).bind fun r1=>(FO k t10 11 (true,r1.2.2.1) r1.2.2.2).bind fun r2=>cond (decide (r2.1≥0)) ((FN k t10 11 r1.2.1 r2.2.1 r2.2.2).bind fun r3=>(cond r3.2.1.2.1 (some true) (some (r3.1==(-1)))).bind fun b4=>Dl.c28 k ((),b4,()) r3.2.2.1 r3.2.2.2 DI Ct (Cw.1,r1.1,r3.1,Cw.2.2.2.1,Cw.2.2.2.2.1,(),()) Cz CE) (Dl.c28 k r1.2.1 r2.2.1 r2.2.2 DI Ct (Cw.1,r1.1,Cw.2.2.1,Cw.2.2.2.1,Cw.2.2.2.2.1,(),()) Cz CE)
def Dl.d22(k:Nat)(t10:Int)(o0:D6)(CQ:Dc)(D8:List Int)(DI:List Cv)(Ct:Int×Int×Int×Int×Int×Unit×Unit)(Cw:Int×Int×Int×Int×Int×Unit×Unit)(Cz:List Int)(CE:List Int):Option (((Int×Int×Int×Int×Int×Unit×Unit))×D6×Dc×(List Int)×(List Cv)×(List Int)):=
 (FN k t10 7 o0 CQ D8).bind fun r5=>cond (r5.1 !=Cw.2.2.2.2.1) (Dl.c24 k t10 ((),true,()) r5.2.2.1 r5.2.2.2 DI Ct Cw Cz CE) (Dl.c24 k t10 r5.2.1 r5.2.2.1 r5.2.2.2 DI Ct Cw Cz CE)
def Dl.c20(k:Nat)(t10:Int)(o0:D6)(CQ:Dc)(D8:List Int)(DI:List Cv)(Ct:Int×Int×Int×Int×Int×Unit×Unit)(Cw:Int×Int×Int×Int×Int×Unit×Unit)(Cz:List Int)(CE:List Int):Option (((Int×Int×Int×Int×Int×Unit×Unit))×D6×Dc×(List Int)×(List Cv)×(List Int)):=
 (FN k t10 5 o0 CQ D8).bind fun r8=>(FN k t10 6 r8.2.1 r8.2.2.1 r8.2.2.2).bind fun r9=>Dl.d22 k t10 r9.2.1 r9.2.2.1 r9.2.2.2 DI Ct (Cw.1,Cw.2.1,Cw.2.2.1,r8.1,r9.1,(),()) Cz CE
def Dl.d18(k:Nat)(t3:Int)(t10:Int)(o0:D6)(CQ:Dc)(D8:List Int)(DI:List Cv)(Ct:Int×Int×Int×Int×Int×Unit×Unit)(Cw:Int×Int×Int×Int×Int×Unit×Unit)(Cz:H_)(CE:List ByteArray)(CJ:List Int)(CL:List Int):Option (((Int×Int×Int×Int×Int×Unit×Unit))×D6×Dc×(List Int)×(List Cv)×(List Int)):=
 (FN k t10 1 o0 CQ D8).bind fun DR=>cond (DR.1 !=Cz.1) (cond true (cond true (Dl.c20 k t10 ((),true,()) DR.2.2.1 DR.2.2.2 DI Ct Cw CJ CL) (Dl.c20 k t10 DR.2.1 DR.2.2.1 DR.2.2.2 DI Ct Cw CJ CL)) ((FK k DI t3).bind fun E9=>(G_ k CE E9.2).bind fun GC=>cond (!GC) (Dl.c20 k t10 ((),true,()) DR.2.2.1 DR.2.2.2 DI Ct Cw CJ CL) (Dl.c20 k t10 DR.2.1 DR.2.2.1 DR.2.2.2 DI Ct Cw CJ CL))) ((FN k t10 4 DR.2.1 DR.2.2.1 DR.2.2.2).bind fun EU=>cond (EU.1 !=0) (cond true (Dl.c20 k t10 ((),true,()) EU.2.2.1 EU.2.2.2 DI Ct Cw CJ CL) (Dl.c20 k t10 EU.2.1 EU.2.2.1 EU.2.2.2 DI Ct Cw CJ CL)) ((FK k DI t3).bind fun Fw=>(G_ k CE Fw.2).bind fun Du=>cond (!Du) (Dl.c20 k t10 ((),true,()) EU.2.2.1 EU.2.2.2 DI Ct Cw CJ CL) (Dl.c20 k t10 EU.2.1 EU.2.2.1 EU.2.2.2 DI Ct Cw CJ CL)))
def Dl.Jc(k:Nat):Nat→Int→Int→Int→Int→D6→Dc→(List Int)→(List Cv)→(Int×Int×Int×Int×Int×Unit×Unit)→(Int×Int×Int×Int×Int×Unit×Unit)→H_→(List ByteArray)→(List Int)→(List Int)→(List Int)→Option (((Int×Int×Int×Int×Int×Unit×Unit))×D6×Dc×(List Int)×(List Cv)×(List Int))
 |0,_,_,_,_,_,_,_,_,_,_,_,_,_,_,_=>none
 |n+1,t3,t10,t81,t82,o0,CQ,D8,DI,Ct,Cw,Cz,CE,CJ,CL,CW=>
  cond (decide (t82<t81)) ((h_ CJ t82).bind fun y28=>(h_ CQ.1 y28).bind fun y29=>cond (lim (List.length CE+List.length [y29.2.2.2.1])) ((Dl.Jc k n) t3 t10 t81 (IntKind.wrap .i64 (t82+1)) o0 CQ D8 DI Ct Cw Cz (CE++[y29.2.2.2.1]) CJ CL CW) none) (Dl.d18 k t3 t10 o0 CQ D8 DI Ct Cw Cz CE CL CW)
def Dl.d10(k:Nat)(L8:Int→Int→Int→Int→D6→Dc→(List Int)→(List Cv)→(Int×Int×Int×Int×Int×Unit×Unit)→(Int×Int×Int×Int×Int×Unit×Unit)→H_→(List Int)→(List Int)→(List Int)→Option (((Int×Int×Int×Int×Int×Unit×Unit))×D6×Dc×(List Int)×(List Cv)×(List Int)))(t3:Int)(t10:Int)(t14:Int)(t55:Int)(t56:Int)(o0:D6)(CQ:Dc)(D8:List Int)(DI:List Cv)(Ct:Int×Int×Int×Int×Int×Unit×Unit)(Cw:Int×Int×Int×Int×Int×Unit×Unit)(Cz:H_)(CE:List Int)(CJ:List Int)(CL:List Int):Option (((Int×Int×Int×Int×Int×Unit×Unit))×D6×Dc×(List Int)×(List Cv)×(List Int)):=
 (h_ CQ.1 t14).bind fun KZ=>cond (lim (List.length CL+List.length [KZ.2.2.1])) (L8 t3 t10 t55 (IntKind.wrap .i64 (t56+1)) o0 CQ D8 DI Ct Cw Cz CE CJ (CL++[KZ.2.2.1])) none
def Dl.l8(k:Nat):Nat→Int→Int→Int→Int→D6→Dc→(List Int)→(List Cv)→(Int×Int×Int×Int×Int×Unit×Unit)→(Int×Int×Int×Int×Int×Unit×Unit)→H_→(List Int)→(List Int)→(List Int)→Option (((Int×Int×Int×Int×Int×Unit×Unit))×D6×Dc×(List Int)×(List Cv)×(List Int))
 |0,_,_,_,_,_,_,_,_,_,_,_,_,_,_=>none
 |n+1,t3,t10,t55,t56,o0,CQ,D8,DI,Ct,Cw,Cz,CE,CJ,CL=>
  cond (decide (t56<t55)) ((h_ CE t56).bind fun y32=>Dl.d10 k (Dl.l8 k n) t3 t10 y32 t55 t56 o0 CQ D8 DI Ct Cw Cz CE CJ CL) ((GV k t10 3 8 o0 CQ D8).bind fun H6=>Dl.Jc k k t3 t10 (List.length H6.2.2.2.2:Int) 0 H6.2.1 H6.2.2.1 H6.2.2.2.1 DI Ct Cw Cz [] H6.2.2.2.2 CJ CL)
def Dl(k:Nat)(t2:Int)(t3:Int)(o0:D6)(CQ:Dc)(D8:List Int)(DI:List Cv):Option (((Int×Int×Int×Int×Int×Unit×Unit))×D6×Dc×(List Int)×(List Cv)×(List Int)):=
 (FO k t2 3 (true,CQ) D8).bind fun Ip=>(cond (decide (Ip.1<0)) (some true) ((h_ Ip.2.1.1 Ip.1).bind fun Jh=>some (Jh.1 !=12))).bind fun OG=>cond OG (some ((t3,0,(-1),0,0,(),()),(((),true,()),Ip.2.1,Ip.2.2,DI,[]))) ((I_ k DI t3).bind fun XB=>(GV k Ip.1 2 5 o0 Ip.2.1 Ip.2.2).bind fun JV=>Dl.l8 k k t3 Ip.1 (List.length JV.2.2.2.2:Int) 0 JV.2.1 JV.2.2.1 JV.2.2.2.1 DI (0,0,0,0,0,(),()) (t3,0,(-1),0,0,(),()) XB.1 JV.2.2.2.2 [] [])
def F3.c11(k:Nat)(o0:D6)(CQ:Dc)(D8:List Int)(DI:List Cv)(Ct:Int×Unit×Unit)(Cw:Int×Unit×Unit)(Cz:List Dg)(CE:List Dg):Option (((Int×Unit×Unit))×D6×Dc×(List Int)×(List Cv)×(List Dg)):=
 some (Cw,(o0,CQ,D8,DI,CE))
def F3.l4(k:Nat):Nat→Int→Int→D6→Dc→(List Int)→(List Cv)→(Int×Unit×Unit)→(Int×Unit×Unit)→(List Int)→(List Dg)→(List Dg)→Option (((Int×Unit×Unit))×D6×Dc×(List Int)×(List Cv)×(List Dg))
 |0,_,_,_,_,_,_,_,_,_,_,_=>none
 |n+1,t19,t20,o0,CQ,D8,DI,Ct,Cw,Cz,CE,CJ=>
  cond (decide (t20<t19)) ((h_ Cz t20).bind fun y1=>(cond o0.2.1 (some true) (some (decide (t20≥20)))).bind fun b2=>cond b2 (F3.c11 k ((),true,()) CQ D8 DI Ct Cw CE CJ) ((Dl k y1 t20 o0 CQ D8 DI).bind fun r3=>cond (lim (List.length CJ+List.length [(r3.1.1,r3.1.2.1,r3.1.2.2.1,r3.1.2.2.2.1,r3.1.2.2.2.2.1,r3.2.2.2.2.2,())])) ((F3.l4 k n) t19 (IntKind.wrap .i64 (t20+1)) r3.2.1 r3.2.2.1 r3.2.2.2.1 r3.2.2.2.2.1 Ct Cw Cz CE (CJ++[(r3.1.1,r3.1.2.1,r3.1.2.2.1,r3.1.2.2.2.1,r3.1.2.2.2.2.1,r3.2.2.2.2.2,())])) none)) (F3.c11 k o0 CQ D8 DI Ct Cw CE CJ)
def F3(k:Nat)(t2:Int)(o0:D6)(CQ:Dc)(D8:List Int)(DI:List Cv):Option (((Int×Unit×Unit))×D6×Dc×(List Int)×(List Cv)×(List Dg)):=
 (FN k t2 3 o0 CQ D8).bind fun r4=>(GV k t2 1 12 r4.2.1 r4.2.2.1 r4.2.2.2).bind fun r5=>F3.l4 k k (List.length r5.2.2.2.2:Int) 0 r5.2.1 r5.2.2.1 r5.2.2.2.1 DI (0,(),()) (r4.1,(),()) r5.2.2.2.2 [] []
def Gm.EA(k:Nat):Nat→Int→Int→(Unit×Int×Unit×Unit)→(Unit×Int×Unit×Unit)→D6→(List Int)→(List Cv)→(List CU)→(List Cv)→(List CU)→Dc→(List Int)→Option (((Unit×Int×Unit×Unit)×Bool)×(List Cv)×(List CU))
 |0,_,_,_,_,_,_,_,_,_,_,_,_=>none
 |n+1,t37,t38,Ct,Cw,Cz,CE,CJ,CL,CW,CF,Gy,G9=>
  cond (decide (t38<t37)) ((h_ CE t38).bind fun y1=>(F3 k y1 Cz Gy G9 CW).bind fun r2=>cond (lim (List.length CF+List.length [(r2.1.1,r2.2.2.2.2.2,())])) ((Gm.EA k n) t37 (IntKind.wrap .i64 (t38+1)) Ct Cw r2.2.1 CE CJ CL r2.2.2.2.2.1 (CF++[(r2.1.1,r2.2.2.2.2.2,())]) r2.2.2.1 r2.2.2.2.1) none) ((cond Cz.2.1 (some true) ((Eg k (CW,Cw.2.1,CF,())).bind fun r3=>some (!r3))).bind fun b4=>cond b4 (some ((((),0,(),()),false),([],[]))) (some ((Cw,true),(CW,CF))))
def Gm(k:Nat)(t0:List Cu):Option (((Unit×Int×Unit×Unit)×Bool)×(List Cv)×(List CU)):=
 (Ju k t0).bind fun r5=>cond (!r5.1.2) (some ((((),0,(),()),false),([],[]))) ((G6 k 0 (r5.2.1.1,r5.2.1.2) r5.2.2).bind fun r6=>cond (!r6.1.2) (some ((((),0,(),()),false),([],[]))) ((FN k 0 3 ((),false,()) r6.2.1 r6.2.2.1).bind fun r7=>(GV k 0 4 12 r7.2.1 r7.2.2.1 r7.2.2.2).bind fun r8=>Gm.EA k k (List.length r8.2.2.2.2:Int) 0 ((),0,(),()) ((),r7.1,(),()) r8.2.1 r8.2.2.2.2 [] [] r6.2.2.2 [] r8.2.2.1 r8.2.2.2.1))
def EC.l3(k:Nat)(IC:(List Cu)→Int→Option Int):Nat→(List Cu)→Int→Int→Int→Option Int
 |0,_,_,_,_=>none
 |n+1,t0,t1,t5,t6=>
  (h_ t0 t1).bind fun y1=>cond (decide (t6<y1.2.2.2.2.1)) ((IC t0 t5).bind fun r2=>(EC.l3 k IC n) t0 t1 r2 (IntKind.wrap .i64 (t6+1))) (some t5)
def EC.b(k:Nat)(IC:(List Cu)→Int→Option Int)(t0:List Cu)(t1:Int):Option Int:=
 EC.l3 k IC k t0 t1 (IntKind.wrap .i64 (t1+1)) 0
def EC.rec(k:Nat):Nat→((List Cu)→Int→Option Int)
 |0=>fun _ _=>none
 |d+1=>EC.b k ((EC.rec k d))
def EC.d(k d:Nat):(List Cu)→Int→Option Int:=(EC.rec k d)
def EC(k:Nat):(List Cu)→Int→Option Int:=EC.d k k
def DT.l5(k:Nat):Nat→(List Cu)→Int→Int→Int→Int→Option Int
 |0,_,_,_,_,_=>none
 |n+1,t0,t1,t2,t7,t8=>
  (h_ t0 t1).bind fun y1=>cond (decide (t8<y1.2.2.2.2.1)) ((h_ t0 t7).bind fun y2=>cond (y2.2.1==t2) (some t7) ((EC k t0 t7).bind fun r3=>(DT.l5 k n) t0 t1 t2 r3 (IntKind.wrap .i64 (t8+1)))) (some (-1))
def DT(k:Nat)(t0:List Cu)(t1:Int)(t2:Int):Option Int:=
 (h_ t0 t1).bind fun y4=>cond (y4.1 !=12) (some (-1)) (DT.l5 k k t0 t1 t2 (IntKind.wrap .i64 (t1+1)) 0)
def FW(k:Nat)(t0:List Cu)(t1:Int)(t2:Int):Option (Int×Bool):=
 (DT k t0 t1 t2).bind fun r1=>(cond (decide (r1<0)) (some true) ((h_ t0 r1).bind fun y2=>(cond (y2.1 !=5) ((h_ t0 r1).bind fun y3=>some (y3.1 !=6)) (some false)).bind fun b4=>some (b4))).bind fun b5=>cond b5 (some (0,false)) ((h_ t0 r1).bind fun y6=>some (y6.2.2.1,true))
def JD(k:Nat)(t0:List Cu)(t1:Int)(t2:Int):Option (ByteArray×Bool):=
 (DT k t0 t1 t2).bind fun r1=>(cond (decide (r1<0)) (some true) ((h_ t0 r1).bind fun y2=>some (y2.1 !=8))).bind fun b3=>cond b3 (some (CX,false)) ((h_ t0 r1).bind fun y4=>some (y4.2.2.2.1,true))
def ET.c12(k:Nat)(t0:List Cu)(t1:Int)(t9:Bool)(t11:Bool)(t13:Bool)(t15:Bool)(Ct:Cv)(Cw:Cv):Option (Cv×Bool):=
 (cond t9 (some (t15)) (some false)).bind fun b1=>(cond b1 (some (!(t11==t13))) (some false)).bind fun b2=>(cond b2 ((cond t11 (some true) ((DT k t0 t1 1).bind fun r3=>some (decide (r3<0)))).bind fun b4=>some (b4)) (some false)).bind fun b5=>(cond b5 ((cond t13 (some true) ((DT k t0 t1 5).bind fun r6=>some (decide (r6<0)))).bind fun b7=>some (b7)) (some false)).bind fun b8=>some (Cw,b8)
def ET.c9(k:Nat)(t0:List Cu)(t1:Int)(t9:Bool)(t11:Bool)(t12:Int)(t13:Bool)(t15:Bool)(Ct:Cv)(Cw:Cv):Option (Cv×Bool):=
 cond (!t11) (ET.c12 k t0 t1 t9 t11 t13 t15 Ct (Cw.1,7,Cw.2.2.1,t12,())) (ET.c12 k t0 t1 t9 t11 t13 t15 Ct Cw)
def ET(k:Nat)(t0:List Cu)(t1:Int)(t2:Bool):Option (Cv×Bool):=
 (JD k t0 t1 4).bind fun r9=>(FW k t0 t1 1).bind fun DR=>(FW k t0 t1 5).bind fun E9=>(FW k t0 t1 3).bind fun GC=>cond t2 (ET.c9 k t0 t1 r9.2 DR.2 E9.1 E9.2 true (CX,0,0,0,()) (r9.1,DR.1,0,0,())) (ET.c9 k t0 t1 r9.2 DR.2 E9.1 E9.2 GC.2 (CX,0,0,0,()) (r9.1,DR.1,GC.1,0,()))
def FH.l8(k:Nat):Nat→(List Cu)→Int→Int→Int→(List Cv)→(List Cv)→Option ((Unit×Bool)×(List Cv))
 |0,_,_,_,_,_,_=>none
 |n+1,t0,t9,t11,t12,Ct,Cw=>
  (h_ t0 t9).bind fun y1=>cond (decide (t12<y1.2.2.2.2.1)) ((ET k t0 t11 (t12==0)).bind fun r2=>cond (!r2.2) (some (((),false),Ct)) (cond (lim (List.length Cw+List.length [r2.1])) ((EC k t0 t11).bind fun r3=>(FH.l8 k n) t0 t9 r3 (IntKind.wrap .i64 (t12+1)) Ct (Cw++[r2.1])) none)) ((EB k Cw).bind fun r4=>cond (!r4) (some (((),false),Ct)) (some (((),true),Cw)))
def FH(k:Nat)(t0:List Cu)(t1:Int)(t2:Int):Option ((Unit×Bool)×(List Cv)):=
 (DT k t0 t1 t2).bind fun r5=>(cond (decide (r5<0)) (some true) ((h_ t0 r5).bind fun y6=>some (y6.1 !=9))).bind fun b7=>(cond b7 (some true) ((h_ t0 r5).bind fun y8=>some (y8.2.2.1 !=12))).bind fun b9=>cond b9 (some (((),false),[])) (FH.l8 k k t0 r5 (IntKind.wrap .i64 (r5+1)) 0 [] [])
def Fg.l7(k:Nat):Nat→(List Cu)→Int→Int→Int→(List Int)→Option ((Unit×Bool)×(List Int))
 |0,_,_,_,_,_=>none
 |n+1,t0,t11,t12,t13,Ct=>
  (h_ t0 t11).bind fun y1=>cond (decide (t13<y1.2.2.2.2.1)) (cond (lim (List.length Ct+List.length [t12])) ((EC k t0 t12).bind fun r2=>(Fg.l7 k n) t0 t11 r2 (IntKind.wrap .i64 (t13+1)) (Ct++[t12])) none) (some (((),true),Ct))
def Fg(k:Nat)(t0:List Cu)(t1:Int)(t2:Int)(t3:Int):Option ((Unit×Bool)×(List Int)):=
 (DT k t0 t1 t2).bind fun r3=>(cond (decide (r3<0)) (some true) ((h_ t0 r3).bind fun y4=>some (y4.1 !=9))).bind fun b5=>(cond b5 (some true) ((h_ t0 r3).bind fun y6=>(cond (decide (y6.2.2.2.2.1>0)) ((h_ t0 r3).bind fun y7=>some (y7.2.2.1 !=t3)) (some false)).bind fun b8=>some (b8))).bind fun b9=>cond b9 (some (((),false),[])) (Fg.l7 k k t0 r3 (IntKind.wrap .i64 (r3+1)) 0 [])
def Ir.l3(k:Nat):Nat→(List Cu)→Int→(List Int)→Int→(List Int)→Option ((Unit×Bool)×(List Int))
 |0,_,_,_,_,_=>none
 |n+1,t0,t1,t2,t9,Ct=>
  cond (decide (t9<(List.length t2:Int))) ((h_ t2 t9).bind fun y1=>(FW k t0 t1 y1).bind fun r2=>cond (!r2.2) (some (((),false),Ct)) (cond (lim (List.length Ct+List.length [r2.1])) ((Ir.l3 k n) t0 t1 t2 (IntKind.wrap .i64 (t9+1)) (Ct++[r2.1])) none)) (some (((),true),Ct))
def Ir(k:Nat)(t0:List Cu)(t1:Int)(t2:List Int):Option ((Unit×Bool)×(List Int)):=
 Ir.l3 k k t0 t1 t2 0 []
def CZ.J_(k:Nat)(Ct:Int×Int×Int×Int×Int×Unit×Unit)(Cw:Int×Int×Int×Int×Int×Unit×Unit)(Cz:List Int)(CE:List Int):Option (((Int×Int×Int×Int×Int×Unit×Unit)×Bool)×(List Int)):=
 some ((Cw,true),CE)
def CZ.Gp(k:Nat):Nat→(List Cu)→Int→Int→(Int×Int×Int×Int×Int×Unit×Unit)→(Int×Int×Int×Int×Int×Unit×Unit)→(List Int)→(Int×Int×Int×Int×Int×Unit×Unit)→(List Int)→(List Int)→(List Int)→Option (((Int×Int×Int×Int×Int×Unit×Unit)×Bool)×(List Int))
 |0,_,_,_,_,_,_,_,_,_,_=>none
 |n+1,t0,t11,t21,Ct,Cw,Cz,CE,CJ,CL,CW=>
  cond (decide (t21<(List.length Cz:Int))) ((h_ Cz t21).bind fun y1=>(h_ t0 y1).bind fun y2=>cond (lim (List.length CW+List.length [y2.2.2.1])) ((CZ.Gp k n) t0 t11 (IntKind.wrap .i64 (t21+1)) Ct Cw Cz CE CJ CL (CW++[y2.2.2.1])) none) ((DT k t0 t11 11).bind fun r3=>cond (decide (r3≥0)) ((FW k t0 t11 11).bind fun r4=>(cond (!r4.2) (some true) (some (decide (r4.1<0)))).bind fun b5=>cond b5 (some ((Cw,false),CL)) (CZ.J_ k Ct (CE.1,CE.2.1,r4.1,CE.2.2.2.1,CE.2.2.2.2.1,(),()) CJ CW)) (CZ.J_ k Ct CE CJ CW))
def CZ.C_(k:Nat):Nat→(List Cu)→Int→Int→Int→(Int×Int×Int×Int×Int×Unit×Unit)→(Int×Int×Int×Int×Int×Unit×Unit)→(List Int)→(List Int)→(List Int)→(List ByteArray)→(List Int)→(List Int)→Option (((Int×Int×Int×Int×Int×Unit×Unit)×Bool)×(List Int))
 |0,_,_,_,_,_,_,_,_,_,_,_,_=>none
 |n+1,t0,t3,t11,t19,Ct,Cw,Cz,CE,CJ,CL,CW,CF=>
  cond (decide (t19<(List.length CJ:Int))) ((h_ CJ t19).bind fun y6=>(h_ t0 y6).bind fun y7=>(h_ CL t19).bind fun y8=>cond (!iI y7.2.2.2.1 y8) (some ((Cw,false),CF)) ((CZ.C_ k n) t0 t3 t11 (IntKind.wrap .i64 (t19+1)) Ct Cw Cz CE CJ CL CW CF)) ((h_ Cz 5).bind fun y9=>(h_ Cz 2).bind fun Hl=>(h_ Cz 3).bind fun IV=>CZ.Gp k k t0 t11 0 Ct Cw CE (t3,y9,(-1),Hl,IV,(),()) CW CF [])
def CZ.d9(k:Nat)(t0:List Cu)(t2:List Cv)(t3:Int)(t11:Int)(t13:Bool)(t15:Bool)(t17:Bool)(Ct:Int×Int×Int×Int×Int×Unit×Unit)(Cw:Int×Int×Int×Int×Int×Unit×Unit)(Cz:List Int)(CE:List Int)(CJ:List Int)(CL:List ByteArray)(CW:List Int)(CF:List Int):Option (((Int×Int×Int×Int×Int×Unit×Unit)×Bool)×(List Int)):=
 cond (!t13) (cond true (cond true (cond true (cond true (cond true (cond true (some ((Cw,false),CF)) (CZ.C_ k k t0 t3 t11 0 Ct Cw Cz CE CJ CL CW CF)) ((h_ Cz 3).bind fun Mj=>(h_ Cz 4).bind fun y13=>cond (Mj !=y13) (some ((Cw,false),CF)) (CZ.C_ k k t0 t3 t11 0 Ct Cw Cz CE CJ CL CW CF))) ((h_ Cz 1).bind fun YJ=>cond (YJ !=0) (cond true (some ((Cw,false),CF)) (CZ.C_ k k t0 t3 t11 0 Ct Cw Cz CE CJ CL CW CF)) ((h_ Cz 3).bind fun YK=>(h_ Cz 4).bind fun Mk=>cond (YK !=Mk) (some ((Cw,false),CF)) (CZ.C_ k k t0 t3 t11 0 Ct Cw Cz CE CJ CL CW CF)))) ((h_ Cz 0).bind fun KY=>(ED k t2).bind fun Fx=>(h_ Fx.2 t3).bind fun JF=>(h_ t2 JF).bind fun y20=>cond (KY !=y20.2.1) (cond true (cond true (some ((Cw,false),CF)) (CZ.C_ k k t0 t3 t11 0 Ct Cw Cz CE CJ CL CW CF)) ((h_ Cz 3).bind fun y21=>(h_ Cz 4).bind fun y22=>cond (y21 !=y22) (some ((Cw,false),CF)) (CZ.C_ k k t0 t3 t11 0 Ct Cw Cz CE CJ CL CW CF))) ((h_ Cz 1).bind fun y23=>cond (y23 !=0) (cond true (some ((Cw,false),CF)) (CZ.C_ k k t0 t3 t11 0 Ct Cw Cz CE CJ CL CW CF)) ((h_ Cz 3).bind fun y24=>(h_ Cz 4).bind fun y25=>cond (y24 !=y25) (some ((Cw,false),CF)) (CZ.C_ k k t0 t3 t11 0 Ct Cw Cz CE CJ CL CW CF))))) (cond ((List.length CJ:Int) !=(List.length CL:Int)) (cond true (cond true (cond true (some ((Cw,false),CF)) (CZ.C_ k k t0 t3 t11 0 Ct Cw Cz CE CJ CL CW CF)) ((h_ Cz 3).bind fun FZ=>(h_ Cz 4).bind fun y27=>cond (FZ !=y27) (some ((Cw,false),CF)) (CZ.C_ k k t0 t3 t11 0 Ct Cw Cz CE CJ CL CW CF))) ((h_ Cz 1).bind fun y28=>cond (y28 !=0) (cond true (some ((Cw,false),CF)) (CZ.C_ k k t0 t3 t11 0 Ct Cw Cz CE CJ CL CW CF)) ((h_ Cz 3).bind fun y29=>(h_ Cz 4).bind fun KZ=>cond (y29 !=KZ) (some ((Cw,false),CF)) (CZ.C_ k k t0 t3 t11 0 Ct Cw Cz CE CJ CL CW CF)))) ((h_ Cz 0).bind fun y31=>(ED k t2).bind fun r32=>(h_ r32.2 t3).bind fun YM=>(h_ t2 YM).bind fun y34=>cond (y31 !=y34.2.1) (cond true (cond true (some ((Cw,false),CF)) (CZ.C_ k k t0 t3 t11 0 Ct Cw Cz CE CJ CL CW CF)) ((h_ Cz 3).bind fun Jh=>(h_ Cz 4).bind fun YN=>cond (Jh !=YN) (some ((Cw,false),CF)) (CZ.C_ k k t0 t3 t11 0 Ct Cw Cz CE CJ CL CW CF))) ((h_ Cz 1).bind fun YO=>cond (YO !=0) (cond true (some ((Cw,false),CF)) (CZ.C_ k k t0 t3 t11 0 Ct Cw Cz CE CJ CL CW CF)) ((h_ Cz 3).bind fun y38=>(h_ Cz 4).bind fun y39=>cond (y38 !=y39) (some ((Cw,false),CF)) (CZ.C_ k k t0 t3 t11 0 Ct Cw Cz CE CJ CL CW CF)))))) (cond (!t17) (cond true (cond true (cond true (cond true (some ((Cw,false),CF)) (CZ.C_ k k t0 t3 t11 0 Ct Cw Cz CE CJ CL CW CF)) ((h_ Cz 3).bind fun YP=>(h_ Cz 4).bind fun YQ=>cond (YP !=YQ) (some ((Cw,false),CF)) (CZ.C_ k k t0 t3 t11 0 Ct Cw Cz CE CJ CL CW CF))) ((h_ Cz 1).bind fun YR=>cond (YR !=0) (cond true (some ((Cw,false),CF)) (CZ.C_ k k t0 t3 t11 0 Ct Cw Cz CE CJ CL CW CF)) ((h_ Cz 3).bind fun YS=>(h_ Cz 4).bind fun YT=>cond (YS !=YT) (some ((Cw,false),CF)) (CZ.C_ k k t0 t3 t11 0 Ct Cw Cz CE CJ CL CW CF)))) ((h_ Cz 0).bind fun YU=>(ED k t2).bind fun XC=>(h_ XC.2 t3).bind fun YV=>(h_ t2 YV).bind fun YW=>cond (YU !=YW.2.1) (cond true (cond true (some ((Cw,false),CF)) (CZ.C_ k k t0 t3 t11 0 Ct Cw Cz CE CJ CL CW CF)) ((h_ Cz 3).bind fun YX=>(h_ Cz 4).bind fun YY=>cond (YX !=YY) (some ((Cw,false),CF)) (CZ.C_ k k t0 t3 t11 0 Ct Cw Cz CE CJ CL CW CF))) ((h_ Cz 1).bind fun YZ=>cond (YZ !=0) (cond true (some ((Cw,false),CF)) (CZ.C_ k k t0 t3 t11 0 Ct Cw Cz CE CJ CL CW CF)) ((h_ Cz 3).bind fun Y1=>(h_ Cz 4).bind fun Ji=>cond (Y1 !=Ji) (some ((Cw,false),CF)) (CZ.C_ k k t0 t3 t11 0 Ct Cw Cz CE CJ CL CW CF))))) (cond ((List.length CJ:Int) !=(List.length CL:Int)) (cond true (cond true (cond true (some ((Cw,false),CF)) (CZ.C_ k k t0 t3 t11 0 Ct Cw Cz CE CJ CL CW CF)) ((h_ Cz 3).bind fun Y2=>(h_ Cz 4).bind fun Y3=>cond (Y2 !=Y3) (some ((Cw,false),CF)) (CZ.C_ k k t0 t3 t11 0 Ct Cw Cz CE CJ CL CW CF))) ((h_ Cz 1).bind fun Y4=>cond (Y4 !=0) (cond true (some ((Cw,false),CF)) (CZ.C_ k k t0 t3 t11 0 Ct Cw Cz CE CJ CL CW CF)) ((h_ Cz 3).bind fun K3=>(h_ Cz 4).bind fun Y5=>cond (K3 !=Y5) (some ((Cw,false),CF)) (CZ.C_ k k t0 t3 t11 0 Ct Cw Cz CE CJ CL CW CF)))) ((h_ Cz 0).bind fun Y6=>(ED k t2).bind fun XG=>(h_ XG.2 t3).bind fun Y7=>(h_ t2 Y7).bind fun Y8=>cond (Y6 !=Y8.2.1) (cond true (cond true (some ((Cw,false),CF)) (CZ.C_ k k t0 t3 t11 0 Ct Cw Cz CE CJ CL CW CF)) ((h_ Cz 3).bind fun Y9=>(h_ Cz 4).bind fun Y_=>cond (Y9 !=Y_) (some ((Cw,false),CF)) (CZ.C_ k k t0 t3 t11 0 Ct Cw Cz CE CJ CL CW CF))) ((h_ Cz 1).bind fun Za=>cond (Za !=0) (cond true (some ((Cw,false),CF)) (CZ.C_ k k t0 t3 t11 0 Ct Cw Cz CE CJ CL CW CF)) ((h_ Cz 3).bind fun Zb=>(h_ Cz 4).bind fun Zc=>cond (Zb !=Zc) (some ((Cw,false),CF)) (CZ.C_ k k t0 t3 t11 0 Ct Cw Cz CE CJ CL CW CF))))))) (cond (!t15) (cond true (cond true (cond true (cond true (cond true (some ((Cw,false),CF)) (CZ.C_ k k t0 t3 t11 0 Ct Cw Cz CE CJ CL CW CF)) ((h_ Cz 3).bind fun Zd=>(h_ Cz 4).bind fun Ze=>cond (Zd !=Ze) (some ((Cw,false),CF)) (CZ.C_ k k t0 t3 t11 0 Ct Cw Cz CE CJ CL CW CF))) ((h_ Cz 1).bind fun Zf=>cond (Zf !=0) (cond true (some ((Cw,false),CF)) (CZ.C_ k k t0 t3 t11 0 Ct Cw Cz CE CJ CL CW CF)) ((h_ Cz 3).bind fun Zg=>(h_ Cz 4).bind fun Zh=>cond (Zg !=Zh) (some ((Cw,false),CF)) (CZ.C_ k k t0 t3 t11 0 Ct Cw Cz CE CJ CL CW CF)))) ((h_ Cz 0).bind fun Zi=>(ED k t2).bind fun XK=>(h_ XK.2 t3).bind fun Zj=>(h_ t2 Zj).bind fun Zk=>cond (Zi !=Zk.2.1) (cond true (cond true (some ((Cw,false),CF)) (CZ.C_ k k t0 t3 t11 0 Ct Cw Cz CE CJ CL CW CF)) ((h_ Cz 3).bind fun Zl=>(h_ Cz 4).bind fun Zm=>cond (Zl !=Zm) (some ((Cw,false),CF)) (CZ.C_ k k t0 t3 t11 0 Ct Cw Cz CE CJ CL CW CF))) ((h_ Cz 1).bind fun Zn=>cond (Zn !=0) (cond true (some ((Cw,false),CF)) (CZ.C_ k k t0 t3 t11 0 Ct Cw Cz CE CJ CL CW CF)) ((h_ Cz 3).bind fun Zo=>(h_ Cz 4).bind fun Zp=>cond (Zo !=Zp) (some ((Cw,false),CF)) (CZ.C_ k k t0 t3 t11 0 Ct Cw Cz CE CJ CL CW CF))))) (cond ((List.length CJ:Int) !=(List.length CL:Int)) (cond true (cond true (cond true (some ((Cw,false),CF)) (CZ.C_ k k t0 t3 t11 0 Ct Cw Cz CE CJ CL CW CF)) ((h_ Cz 3).bind fun Zq=>(h_ Cz 4).bind fun Zr=>cond (Zq !=Zr) (some ((Cw,false),CF)) (CZ.C_ k k t0 t3 t11 0 Ct Cw Cz CE CJ CL CW CF))) ((h_ Cz 1).bind fun Zt=>cond (Zt !=0) (cond true (some ((Cw,false),CF)) (CZ.C_ k k t0 t3 t11 0 Ct Cw Cz CE CJ CL CW CF)) ((h_ Cz 3).bind fun Zu=>(h_ Cz 4).bind fun Zv=>cond (Zu !=Zv) (some ((Cw,false),CF)) (CZ.C_ k k t0 t3 t11 0 Ct Cw Cz CE CJ CL CW CF)))) ((h_ Cz 0).bind fun Zw=>(ED k t2).bind fun XL=>(h_ XL.2 t3).bind fun Zx=>(h_ t2 Zx).bind fun y90=>cond (Zw !=y90.2.1) (cond true (cond true (some ((Cw,false),CF)) (CZ.C_ k k t0 t3 t11 0 Ct Cw Cz CE CJ CL CW CF)) ((h_ Cz 3).bind fun y91=>(h_ Cz 4).bind fun Zy=>cond (y91 !=Zy) (some ((Cw,false),CF)) (CZ.C_ k k t0 t3 t11 0 Ct Cw Cz CE CJ CL CW CF))) ((h_ Cz 1).bind fun y93=>cond (y93 !=0) (cond true (some ((Cw,false),CF)) (CZ.C_ k k t0 t3 t11 0 Ct Cw Cz CE CJ CL CW CF)) ((h_ Cz 3).bind fun Zz=>(h_ Cz 4).bind fun y95=>cond (Zz !=y95) (some ((Cw,false),CF)) (CZ.C_ k k t0 t3 t11 0 Ct Cw Cz CE CJ CL CW CF)))))) (cond (!t17) (cond true (cond true (cond true (cond true (some ((Cw,false),CF)) (CZ.C_ k k t0 t3 t11 0 Ct Cw Cz CE CJ CL CW CF)) ((h_ Cz 3).bind fun y96=>(h_ Cz 4).bind fun ZA=>cond (y96 !=ZA) (some ((Cw,false),CF)) (CZ.C_ k k t0 t3 t11 0 Ct Cw Cz CE CJ CL CW CF))) ((h_ Cz 1).bind fun y98=>cond (y98 !=0) (cond true (some ((Cw,false),CF)) (CZ.C_ k k t0 t3 t11 0 Ct Cw Cz CE CJ CL CW CF)) ((h_ Cz 3).bind fun y99=>(h_ Cz 4).bind fun Yt=>cond (y99 !=Yt) (some ((Cw,false),CF)) (CZ.C_ k k t0 t3 t11 0 Ct Cw Cz CE CJ CL CW CF)))) ((h_ Cz 0).bind fun y101=>(ED k t2).bind fun Xx=>(h_ Xx.2 t3).bind fun Yu=>(h_ t2 Yu).bind fun y104=>cond (y101 !=y104.2.1) (cond true (cond true (some ((Cw,false),CF)) (CZ.C_ k k t0 t3 t11 0 Ct Cw Cz CE CJ CL CW CF)) ((h_ Cz 3).bind fun Yv=>(h_ Cz 4).bind fun Yw=>cond (Yv !=Yw) (some ((Cw,false),CF)) (CZ.C_ k k t0 t3 t11 0 Ct Cw Cz CE CJ CL CW CF))) ((h_ Cz 1).bind fun Yx=>cond (Yx !=0) (cond true (some ((Cw,false),CF)) (CZ.C_ k k t0 t3 t11 0 Ct Cw Cz CE CJ CL CW CF)) ((h_ Cz 3).bind fun Yy=>(h_ Cz 4).bind fun Yz=>cond (Yy !=Yz) (some ((Cw,false),CF)) (CZ.C_ k k t0 t3 t11 0 Ct Cw Cz CE CJ CL CW CF))))) (cond ((List.length CJ:Int) !=(List.length CL:Int)) (cond true (cond true (cond true (some ((Cw,false),CF)) (CZ.C_ k k t0 t3 t11 0 Ct Cw Cz CE CJ CL CW CF)) ((h_ Cz 3).bind fun YA=>(h_ Cz 4).bind fun YB=>cond (YA !=YB) (some ((Cw,false),CF)) (CZ.C_ k k t0 t3 t11 0 Ct Cw Cz CE CJ CL CW CF))) ((h_ Cz 1).bind fun y112=>cond (y112 !=0) (cond true (some ((Cw,false),CF)) (CZ.C_ k k t0 t3 t11 0 Ct Cw Cz CE CJ CL CW CF)) ((h_ Cz 3).bind fun y113=>(h_ Cz 4).bind fun y114=>cond (y113 !=y114) (some ((Cw,false),CF)) (CZ.C_ k k t0 t3 t11 0 Ct Cw Cz CE CJ CL CW CF)))) ((h_ Cz 0).bind fun y115=>(ED k t2).bind fun Xy=>(h_ Xy.2 t3).bind fun YC=>(h_ t2 YC).bind fun YD=>cond (y115 !=YD.2.1) (cond true (cond true (some ((Cw,false),CF)) (CZ.C_ k k t0 t3 t11 0 Ct Cw Cz CE CJ CL CW CF)) ((h_ Cz 3).bind fun YE=>(h_ Cz 4).bind fun YF=>cond (YE !=YF) (some ((Cw,false),CF)) (CZ.C_ k k t0 t3 t11 0 Ct Cw Cz CE CJ CL CW CF))) ((h_ Cz 1).bind fun YG=>cond (YG !=0) (cond true (some ((Cw,false),CF)) (CZ.C_ k k t0 t3 t11 0 Ct Cw Cz CE CJ CL CW CF)) ((h_ Cz 3).bind fun YH=>(h_ Cz 4).bind fun YI=>cond (YH !=YI) (some ((Cw,false),CF)) (CZ.C_ k k t0 t3 t11 0 Ct Cw Cz CE CJ CL CW CF)))))))
def CZ(k:Nat)(t0:List Cu)(t1:Int)(t2:List Cv)(t3:Int):Option (((Int×Int×Int×Int×Int×Unit×Unit)×Bool)×(List Int)):=
 (DT k t0 t1 3).bind fun JB=>(cond (decide (JB<0)) (some true) ((h_ t0 JB).bind fun J3=>some (J3.1 !=12))).bind fun OE=>cond OE (some (((0,0,0,0,0,(),()),false),[])) ((Ir k t0 JB [1,4,5,6,7,9]).bind fun NT=>(Fg k t0 JB 2 5).bind fun NU=>(Fg k t0 JB 3 8).bind fun NV=>(Gc k t2 t3).bind fun XA=>CZ.d9 k t0 t2 t3 JB NT.1.2 NU.1.2 NV.1.2 (0,0,0,0,0,(),()) (0,0,0,0,0,(),()) NT.2 NU.2 NV.2 XA.2 [] [])
def E_.GX(k:Nat)(IY:(List Cu)→Int→(Unit×Int×Unit×Unit)→(Unit×Int×Unit×Unit)→(List Cv)→(List Int)→(Unit×Int×Unit×Unit)→(List Cv)→(List CU)→(List Cv)→(List CU)→(List CU)→Option (((Unit×Int×Unit×Unit)×Bool)×(List Cv)×(List CU))):Nat→(List Cu)→Int→Int→(Unit×Int×Unit×Unit)→(Unit×Int×Unit×Unit)→(List Cv)→(List Int)→(Unit×Int×Unit×Unit)→(List Int)→(Int×Unit×Unit)→(List Cv)→(List CU)→(List Cv)→(List CU)→(List CU)→(List Dg)→Option (((Unit×Int×Unit×Unit)×Bool)×(List Cv)×(List CU))
 |0,_,_,_,_,_,_,_,_,_,_,_,_,_,_,_,_=>none
 |n+1,t0,t12,t18,Ct,Cw,Cz,CE,CJ,CL,CW,CF,Gy,G9,LP,LQ,Kz=>
  cond (decide (t18<(List.length CL:Int))) ((h_ CL t18).bind fun y1=>(CZ k t0 y1 Cz t18).bind fun r2=>cond (!r2.1.2) (some ((Cw,false),(G9,LP))) (cond (lim (List.length Kz+List.length [(r2.1.1.1,r2.1.1.2.1,r2.1.1.2.2.1,r2.1.1.2.2.2.1,r2.1.1.2.2.2.2.1,r2.2,())])) ((E_.GX k IY n) t0 t12 (IntKind.wrap .i64 (t18+1)) Ct Cw Cz CE CJ CL CW CF Gy G9 LP LQ (Kz++[(r2.1.1.1,r2.1.1.2.1,r2.1.1.2.2.1,r2.1.1.2.2.2.1,r2.1.1.2.2.2.2.1,r2.2,())])) none)) (cond (lim (List.length LQ+List.length [(CW.1,Kz,())])) (IY t0 (IntKind.wrap .i64 (t12+1)) Ct Cw Cz CE CJ CF Gy G9 LP (LQ++[(CW.1,Kz,())])) none)
def E_.EA(k:Nat):Nat→(List Cu)→Int→(Unit×Int×Unit×Unit)→(Unit×Int×Unit×Unit)→(List Cv)→(List Int)→(Unit×Int×Unit×Unit)→(List Cv)→(List CU)→(List Cv)→(List CU)→(List CU)→Option (((Unit×Int×Unit×Unit)×Bool)×(List Cv)×(List CU))
 |0,_,_,_,_,_,_,_,_,_,_,_,_=>none
 |n+1,t0,t12,Ct,Cw,Cz,CE,CJ,CL,CW,CF,Gy,G9=>
  cond (decide (t12<(List.length CE:Int))) ((h_ CE t12).bind fun y3=>(FW k t0 y3 3).bind fun r4=>(h_ CE t12).bind fun y5=>(Fg k t0 y5 1 12).bind fun r6=>(cond (!r4.2) (some true) (some (!r6.1.2))).bind fun b7=>(cond b7 (some true) ((ED k Cz).bind fun r8=>some ((List.length r6.2:Int) !=(List.length r8.2:Int)))).bind fun b9=>cond b9 (some ((Cw,false),(CF,Gy))) (E_.GX k (E_.EA k n) k t0 t12 0 Ct Cw Cz CE CJ r6.2 (r4.1,(),()) CL CW CF Gy G9 [])) ((Ea k (Cz,CJ.2.1,G9,())).bind fun DR=>cond (!DR) (some ((Cw,false),(CF,Gy))) (some ((CJ,true),(Cz,G9))))
def E_(k:Nat)(t0:List Cu):Option (((Unit×Int×Unit×Unit)×Bool)×(List Cv)×(List CU)):=
 (Iq k t0).bind fun E9=>cond (!E9) (some ((((),0,(),()),false),([],[]))) ((FH k t0 0 2).bind fun GC=>(FW k t0 0 3).bind fun EU=>(Fg k t0 0 4 12).bind fun Fw=>(cond (!GC.1.2) (some true) (some (!EU.2))).bind fun b15=>(cond b15 (some true) (some (!Fw.1.2))).bind fun b16=>cond b16 (some ((((),0,(),()),false),([],[]))) (E_.EA k k t0 0 ((),0,(),()) ((),0,(),()) GC.2 Fw.2 ((),EU.1,(),()) [] [] [] [] []))
def F_.l3(k:Nat):Nat→(List (List Cu))→Int→Int→(List Cu)→Option (Unit×(List Cu))
 |0,_,_,_,_=>none
 |n+1,t13,t14,t15,Ct=>
  cond (decide (t15<t14)) ((h_ t13 t15).bind fun y1=>cond (lim (List.length Ct+List.length y1)) ((F_.l3 k n) t13 t14 (IntKind.wrap .i64 (t15+1)) (Ct++y1)) none) (some ((),Ct))
def F_(k:Nat)(t0:Int)(t1:List (List Cu)):Option (Unit×(List Cu)):=
 F_.l3 k k t1 (List.length t1:Int) 0 [(12,t0,0,CX,(List.length t1:Int),())]
def Fe.l5(k:Nat):Nat→(List (List Cu))→Int→Int→(List Cu)→Option (Unit×(List Cu))
 |0,_,_,_,_=>none
 |n+1,t22,t23,t24,Ct=>
  cond (decide (t24<t23)) ((h_ t22 t24).bind fun y1=>cond (lim (List.length Ct+List.length y1)) ((Fe.l5 k n) t22 t23 (IntKind.wrap .i64 (t24+1)) (Ct++y1)) none) (some ((),Ct))
def Fe.c4(k:Nat)(t2:List (List Cu))(Ct:List Cu):Option (Unit×(List Cu)):=
 Fe.l5 k k t2 (List.length t2:Int) 0 Ct
def Fe(k:Nat)(t0:Int)(t1:Int)(t2:List (List Cu)):Option (Unit×(List Cu)):=
 cond ((List.length t2:Int)==0) ((h_ [(9,t0,t1,CX,(List.length t2:Int),())] 0).bind fun y2=>(h_ [(9,t0,t1,CX,(List.length t2:Int),())] 0).bind fun y3=>Fe.c4 k t2 (List.set [(9,t0,t1,CX,(List.length t2:Int),())] (Int.toNat 0) (y3.1,y3.2.1,0,y3.2.2.2.1,y3.2.2.2.2.1,()))) (Fe.c4 k t2 [(9,t0,t1,CX,(List.length t2:Int),())])
def GU(k:Nat)(t0:Int)(t1:Int):Option (Cu):=
 some (6,t0,t1,CX,0,())
def Hr(k:Nat)(t0:Int)(t1:Int):Option (Cu):=
 some (5,t0,t1,CX,0,())
def Jt(k:Nat)(t0:Int)(t1:ByteArray):Option (Cu):=
 some (8,t0,0,t1,0,())
def Er.c17(k:Nat)(Ct:Dg)(Cw:List (List Cu)):Option (Unit×(List Cu)):=
 (GU k 2 Ct.2.1).bind fun r1=>(F_ k 3 Cw).bind fun r2=>(F_ k 0 [[r1],r2.2]).bind fun r3=>some ((),r3.2)
def Er.d14(k:Nat)(Ct:Dg)(Cw:List (List Cu))(Cz:List (List Cu))(CE:H_):Option (Unit×(List Cu)):=
 (Hr k 1 CE.1).bind fun r4=>(Fe k 2 5 Cw).bind fun r5=>(Fe k 3 8 Cz).bind fun r6=>(Hr k 4 0).bind fun r7=>(GU k 5 Ct.2.2.2.1).bind fun r8=>(GU k 6 Ct.2.2.2.2.1).bind fun r9=>(GU k 7 Ct.2.2.2.2.1).bind fun DR=>(GU k 9 Ct.2.1).bind fun E9=>cond (Ct.2.2.1 !=(-1)) ((GU k 11 Ct.2.2.1).bind fun GC=>cond (lim (List.length [[r4],r5.2,r6.2,[r7],[r8],[r9],[DR],[E9]]+List.length [[GC]])) (Er.c17 k Ct ([[r4],r5.2,r6.2,[r7],[r8],[r9],[DR],[E9]]++[[GC]])) none) (Er.c17 k Ct [[r4],r5.2,r6.2,[r7],[r8],[r9],[DR],[E9]])
def Er.l9(k:Nat):Nat→(List Cv)→Int→Int→Dg→(List (List Cu))→(List (List Cu))→(List ByteArray)→Option (Unit×(List Cu))
 |0,_,_,_,_,_,_,_=>none
 |n+1,t0,t34,t35,Ct,Cw,Cz,CE=>
  cond (decide (t35<t34)) ((h_ CE t35).bind fun y13=>(Jt k 0 y13).bind fun Fw=>cond (lim (List.length Cz+List.length [[Fw]])) ((Er.l9 k n) t0 t34 (IntKind.wrap .i64 (t35+1)) Ct Cw (Cz++[[Fw]]) CE) none) ((I_ k t0 Ct.1).bind fun Du=>Er.d14 k Ct Cw Cz Du.1)
def Er.l3(k:Nat):Nat→(List Cv)→(List Int)→Int→Int→Dg→(List (List Cu))→Option (Unit×(List Cu))
 |0,_,_,_,_,_,_=>none
 |n+1,t0,t16,t17,t18,Ct,Cw=>
  cond (decide (t18<t17)) ((h_ t16 t18).bind fun Mk=>(Hr k 0 Mk).bind fun EK=>cond (lim (List.length Cw+List.length [[EK]])) ((Er.l3 k n) t0 t16 t17 (IntKind.wrap .i64 (t18+1)) Ct (Cw++[[EK]])) none) ((FK k t0 Ct.1).bind fun Fx=>Er.l9 k k t0 (List.length Fx.2:Int) 0 Ct Cw [] Fx.2)
def Er(k:Nat)(t0:List Cv)(t1:Dg):Option (Unit×(List Cu)):=
 Er.l3 k k t0 t1.2.2.2.2.2.1 (List.length t1.2.2.2.2.2.1:Int) 0 t1 []
def D_.c13(k:Nat)(L3:(List Cv)→Int→Int→(List (List Cu))→Option (Unit×(List Cu)))(t8:List Cv)(t9:Int)(t10:Int)(Ct:List (List Cu))(Cw:List (List Cu)):Option (Unit×(List Cu)):=
 (F_ k 0 Cw).bind fun r1=>cond (lim (List.length Ct+List.length [r1.2])) (L3 t8 t9 (IntKind.wrap .i64 (t10+1)) (Ct++[r1.2])) none
def D_.c10(k:Nat)(L3:(List Cv)→Int→Int→(List (List Cu))→Option (Unit×(List Cu)))(t8:List Cv)(t9:Int)(t10:Int)(Ct:List (List Cu))(Cw:Cv)(Cz:List (List Cu)):Option (Unit×(List Cu)):=
 (Jt k 4 Cw.1).bind fun r2=>cond (lim (List.length Cz+List.length [[r2]])) (cond (Cw.2.1==7) ((Hr k 5 Cw.2.2.2.1).bind fun r3=>cond (lim (List.length (Cz++[[r2]])+List.length [[r3]])) (D_.c13 k L3 t8 t9 t10 Ct ((Cz++[[r2]])++[[r3]])) none) (D_.c13 k L3 t8 t9 t10 Ct (Cz++[[r2]]))) none
def D_.c8(k:Nat)(L3:(List Cv)→Int→Int→(List (List Cu))→Option (Unit×(List Cu)))(t4:Int)(t8:List Cv)(t9:Int)(t10:Int)(Ct:List (List Cu))(Cw:Cv)(Cz:List (List Cu)):Option (Unit×(List Cu)):=
 cond (decide (t4>0)) ((Hr k 3 Cw.2.2.1).bind fun r4=>cond (lim (List.length Cz+List.length [[r4]])) (D_.c10 k L3 t8 t9 t10 Ct Cw (Cz++[[r4]])) none) (D_.c10 k L3 t8 t9 t10 Ct Cw Cz)
def D_.l3(k:Nat):Nat→(List Cv)→Int→Int→(List (List Cu))→Option (Unit×(List Cu))
 |0,_,_,_,_=>none
 |n+1,t8,t9,t10,Ct=>
  cond (decide (t10<t9)) ((h_ t8 t10).bind fun y5=>cond (y5.2.1 !=7) ((Hr k 1 y5.2.1).bind fun r6=>cond (lim ((0:Nat)+List.length [[r6]])) (D_.c8 k (D_.l3 k n) t10 t8 t9 t10 Ct y5 ([]++[[r6]])) none) (D_.c8 k (D_.l3 k n) t10 t8 t9 t10 Ct y5 [])) ((Fe k 2 12 Ct).bind fun r7=>some ((),r7.2))
def D_(k:Nat)(t0:List Cv):Option (Unit×(List Cu)):=
 D_.l3 k k t0 (List.length t0:Int) 0 []
def Ja(k:Nat)(t0:List Cu):Option Bool:=
 (Ju k t0).bind fun r1=>some r1.1.2
def Eo.d17(k:Nat)(Ct:DJ)(Cw:List (List Cu)):Option ((Unit×Bool)×(List Cu)):=
 (Hr k 1 1).bind fun r1=>(D_ k Ct.1).bind fun r2=>(GU k 3 Ct.2.1).bind fun r3=>(Fe k 4 12 Cw).bind fun r4=>(F_ k 0 [[r1],r2.2,[r3],r4.2]).bind fun r5=>(Ja k r5.2).bind fun r6=>cond (!r6) (some (((),false),[])) (some (((),true),r5.2))
def Eo.d15(k:Nat)(L5:(List CU)→Int→Int→DJ→(List (List Cu))→Option ((Unit×Bool)×(List Cu)))(t8:Int)(t17:List CU)(t18:Int)(t19:Int)(Ct:DJ)(Cw:List (List Cu))(Cz:CU)(CE:List (List Cu)):Option ((Unit×Bool)×(List Cu)):=
 (Fe k 1 12 CE).bind fun XD=>(GU k 2 t8).bind fun XE=>(GU k 3 Cz.1).bind fun XF=>(F_ k 0 [XD.2,[XE],[XF]]).bind fun NW=>cond (lim (List.length Cw+List.length [NW.2])) (L5 t17 t18 (IntKind.wrap .i64 (t19+1)) Ct (Cw++[NW.2])) none
def Eo.l10(k:Nat)(L5:(List CU)→Int→Int→DJ→(List (List Cu))→Option ((Unit×Bool)×(List Cu))):Nat→Int→(List CU)→Int→Int→(List Dg)→Int→Int→DJ→(List (List Cu))→CU→(List (List Cu))→Option ((Unit×Bool)×(List Cu))
 |0,_,_,_,_,_,_,_,_,_,_,_=>none
 |n+1,t8,t17,t18,t19,t25,t26,t27,Ct,Cw,Cz,CE=>
  cond (decide (t27<t26)) ((h_ t25 t27).bind fun Ou=>(Er k Ct.1 Ou).bind fun NY=>cond (lim (List.length CE+List.length [NY.2])) ((Eo.l10 k L5 n) (IntKind.wrap .i64 (t8+Ou.2.2.2.2.1)) t17 t18 t19 t25 t26 (IntKind.wrap .i64 (t27+1)) Ct Cw Cz (CE++[NY.2])) none) (Eo.d15 k L5 t8 t17 t18 t19 Ct Cw Cz CE)
def Eo.l5(k:Nat):Nat→(List CU)→Int→Int→DJ→(List (List Cu))→Option ((Unit×Bool)×(List Cu))
 |0,_,_,_,_,_=>none
 |n+1,t17,t18,t19,Ct,Cw=>
  cond (decide (t19<t18)) ((h_ t17 t19).bind fun Ml=>Eo.l10 k (Eo.l5 k n) k 0 t17 t18 t19 Ml.2.1 (List.length Ml.2.1:Int) 0 Ct Cw Ml []) (Eo.d17 k Ct Cw)
def Eo(k:Nat)(t0:DJ):Option ((Unit×Bool)×(List Cu)):=
 (Eg k t0).bind fun XH=>cond (!XH) (some (((),false),[])) (Eo.l5 k k t0.2.2.1 (List.length t0.2.2.1:Int) 0 t0 [])
def Hu.l4(k:Nat):Nat→(List Cv)→(List Cv)→Int→Option Bool
 |0,_,_,_=>none
 |n+1,t0,t1,t5=>
  cond (decide (t5<(List.length t0:Int))) ((h_ t0 t5).bind fun y1=>(h_ t1 t5).bind fun y2=>cond (!((iI y1.1 y2.1&&((y1.2.1==y2.2.1)&&((y1.2.2.1==y2.2.2.1)&&((y1.2.2.2.1==y2.2.2.2.1)&&true)))))) (some false) ((Hu.l4 k n) t0 t1 (IntKind.wrap .i64 (t5+1)))) (some true)
def Hu(k:Nat)(t0:List Cv)(t1:List Cv):Option Bool:=
 cond ((List.length t0:Int) !=(List.length t1:Int)) (some false) (Hu.l4 k k t0 t1 0)
def LA(k:Nat)(t0:List Int):Option Bool:=
 (LB k t0).bind fun r1=>cond r1 (some true) ((FU k t0).bind fun r2=>(Gm k r2.2).bind fun r3=>(E_ k r2.2).bind fun r4=>cond (!(r3.1.2==r4.1.2)) (some false) (cond (!r3.1.2) ((cond (r3.1.1.2.1==0) (some ((List.length r3.2.1:Int)==0)) (some false)).bind fun b5=>some b5) ((Eo k (r3.2.1,r3.1.1.2.1,r3.2.2,())).bind fun r6=>(Gm k r6.2).bind fun r7=>(Eg k (r3.2.1,r3.1.1.2.1,r3.2.2,())).bind fun r8=>(cond r8 ((cond (!r6.1.2) (some true) ((cond r7.1.2 (some (r7.1.1.2.1==r3.1.1.2.1)) (some false)).bind fun b9=>(cond b9 (some ((List.length r7.2.2:Int)==(List.length r3.2.2:Int))) (some false)).bind fun b10=>(cond b10 ((Hu k r7.2.1 r3.2.1).bind fun E9=>some (E9)) (some false)).bind fun b12=>some (b12))).bind fun b13=>some (b13)) (some false)).bind fun b14=>some b14)))
end Go.Fn
