/- the claim's functions as plain Lean -/
import Derived.Test.YtohaijhiclmkkaaGreatEFRF0
set_option linter.unusedVariables false
namespace Go.Fn
open Go.Am
def KU(k:Nat)(t0:Int)(t1:ByteArray):Option (za×Bool):=
 cond (t0==6) ((F3 k t0 (0,t1,())).bind fun r1=>some ((0,t1,()),r1)) ((Gp k t0 (eZ t1) 0 1).bind fun r2=>(cond (!r2.1.2.2) (some true) (some (r2.1.2.1 !=(t1.size:Int)))).bind fun b3=>(cond b3 (some true) ((gU r2.2 0).bind fun y4=>(Qv k t0 y4).bind fun r5=>some (!iY r5 t1))).bind fun b6=>cond b6 (some ((0,zn,()),false)) ((gU r2.2 0).bind fun y7=>some (y7,true)))
def OQ(k:Nat)(t0:Int):Option Int:=
 cond (decide (t0<0)) (some (bits .xor .i64 t0 9223372036854775807)) (some t0)
def J_.d5(k:Nat)(yV:za)(y_:za):Option Bool:=
 (OQ k yV.1).bind fun r1=>(OQ k y_.1).bind fun r2=>some (decide (r1<r2))
def J_(k:Nat)(t0:Int)(t1:za)(t2:za):Option Bool:=
 (F3 k t0 t1).bind fun r9=>(cond (!r9) (some true) ((F3 k t0 t2).bind fun zU=>some (!zU))).bind fun b11=>cond b11 (some false) (cond (t0==5) (J_.d5 k t1 t2) (cond (t0==6) (some (j_ t1.2.1 t2.2.1)) (some (decide (t1.1<t2.1)))))
def Ng(k:Nat)(t0:zI)(t1:DJ):Option Bool:=
 (LK k t0).bind fun r1=>(cond (!r1) (some true) ((Az k t1.1 0 2000).bind fun r2=>some (!r2))).bind fun b3=>cond b3 (some false) (cond (!t1.2.1) ((cond ((t1.2.2.1.1==0)&&(iY t1.2.2.1.2.1 zn&&true)) (some (((t1.2.2.2.1.1==0)&&(iY t1.2.2.2.1.2.1 zn&&true)))) (some false)).bind fun b4=>some b4) ((F3 k t0.1 t1.2.2.1).bind fun r5=>(cond r5 ((F3 k t0.1 t1.2.2.2.1).bind fun r6=>some (r6)) (some false)).bind fun b7=>(cond b7 ((J_ k t0.1 t1.2.2.2.1 t1.2.2.1).bind fun r8=>some (!r8)) (some false)).bind fun b9=>some b9))
def F6.c13(k:Nat)(o0:zF)(zl:List Int)(yV:zI)(y_:DJ)(zi:DJ):Option ((DJ×Bool)×zF×(List Int)):=
 (Ng k yV zi).bind fun r1=>cond (!r1) (some (((0,false,(0,zn,()),(0,zn,()),()),false),(o0,zl))) (some ((zi,true),(o0,zl)))
def F6.d12(k:Nat)(o0:zF)(zl:List Int)(yV:zI)(y_:DJ)(zi:DJ)(zu:za)(zx:za):Option ((DJ×Bool)×zF×(List Int)):=
 F6.c13 k o0 zl yV y_ (zi.1,true,zx,zu,())
def F6(k:Nat)(t1:zI)(t2:Int)(o0:Bool×zF)(zl:List Int):Option ((DJ×Bool)×zF×(List Int)):=
 (IA k t2 3 (o0.1,o0.2) zl).bind fun r2=>(cond (!r2.1.2) (some true) ((LK k t1).bind fun r3=>some (!r3))).bind fun b4=>cond b4 (some (((0,false,(0,zn,()),(0,zn,()),()),false),(r2.2.1,r2.2.2))) ((DD k t2 5 (true,r2.2.1) r2.2.2).bind fun r5=>cond (decide (r5.1≥0)) (cond true ((Hq k t2 5 8 (true,r5.2.1) r5.2.2).bind fun r6=>(Hq k t2 6 8 (true,r6.2.1) r6.2.2).bind fun r7=>(KU k t1.1 r6.1.1.2.2.2.1).bind fun r8=>(KU k t1.1 r7.1.1.2.2.2.1).bind fun r9=>(cond (!r6.1.2) (some true) (some (!r7.1.2))).bind fun b10=>(cond b10 (some true) (some (!r8.2))).bind fun b11=>(cond b11 (some true) (some (!r9.2))).bind fun b12=>cond b12 (some (((0,false,(0,zn,()),(0,zn,()),()),false),(r7.2.1,r7.2.2))) (F6.d12 k r7.2.1 r7.2.2 t1 (0,false,(0,zn,()),(0,zn,()),()) (r2.1.1,false,(0,zn,()),(0,zn,()),()) r8.1 r9.1)) (F6.c13 k r5.2.1 r5.2.2 t1 (0,false,(0,zn,()),(0,zn,()),()) (r2.1.1,false,(0,zn,()),(0,zn,()),()))) ((DD k t2 6 (true,r5.2.1) r5.2.2).bind fun Ay=>cond (decide (Ay.1≥0)) ((Hq k t2 5 8 (true,Ay.2.1) Ay.2.2).bind fun AB=>(Hq k t2 6 8 (true,AB.2.1) AB.2.2).bind fun Ab=>(KU k t1.1 AB.1.1.2.2.2.1).bind fun r16=>(KU k t1.1 Ab.1.1.2.2.2.1).bind fun Ch=>(cond (!AB.1.2) (some true) (some (!Ab.1.2))).bind fun b18=>(cond b18 (some true) (some (!r16.2))).bind fun b19=>(cond b19 (some true) (some (!Ch.2))).bind fun b20=>cond b20 (some (((0,false,(0,zn,()),(0,zn,()),()),false),(Ab.2.1,Ab.2.2))) (F6.d12 k Ab.2.1 Ab.2.2 t1 (0,false,(0,zn,()),(0,zn,()),()) (r2.1.1,false,(0,zn,()),(0,zn,()),()) r16.1 Ch.1)) (F6.c13 k Ay.2.1 Ay.2.2 t1 (0,false,(0,zn,()),(0,zn,()),()) (r2.1.1,false,(0,zn,()),(0,zn,()),()))))
def Nb(k:Nat)(t1:zI)(t2:Int)(o0:Du)(o3:zP)(zl:zF)(zJ:List Int):Option (Unit×Du×zP×zF×(List Int)):=
 (DD k o0.2.1 t2 (true,zl) zJ).bind fun r1=>cond (decide (r1.1≥0)) ((F6 k t1 r1.1 (true,r1.2.1) r1.2.2).bind fun r2=>some ((),(o0,(o3.1,o3.2.1,o3.2.2.1,o3.2.2.2.1,o3.2.2.2.2.1,o3.2.2.2.2.2.1,o3.2.2.2.2.2.2.1,o3.2.2.2.2.2.2.2.1,o3.2.2.2.2.2.2.2.2.1,o3.2.2.2.2.2.2.2.2.2.1,r2.1.2,r2.1.1,o3.2.2.2.2.2.2.2.2.2.2.2.2.1,()),r2.2.1,r2.2.2))) (some ((),(o0,o3,r1.2.1,r1.2.2)))
def Cs.c23(k:Nat)(o0:Du)(o2:zP)(zl:zF)(zJ:List Int):Option (Unit×Du×zP×zF×(List Int)):=
 (F4 k 1 0 o0 zl zJ).bind fun r1=>(cond r1.2.1.2.2.1 (some true) (some (decide (r1.1>2000)))).bind fun b2=>some ((),(((),r1.2.1.2.1,b2,()),(o2.1,o2.2.1,r1.1,o2.2.2.2.1,o2.2.2.2.2.1,o2.2.2.2.2.2.1,o2.2.2.2.2.2.2.1,o2.2.2.2.2.2.2.2.1,o2.2.2.2.2.2.2.2.2.1,o2.2.2.2.2.2.2.2.2.2.1,o2.2.2.2.2.2.2.2.2.2.2.1,o2.2.2.2.2.2.2.2.2.2.2.2.1,o2.2.2.2.2.2.2.2.2.2.2.2.2.1,()),r1.2.2.1,r1.2.2.2))
def Cs.c8(k:Nat)(o0:Du)(o2:zP)(zl:zF)(zJ:List Int)(yV:zI):Option (Unit×Du×zP×zF×(List Int)):=
 (Nb k yV 5 o0 o2 zl zJ).bind fun r3=>Cs.c23 k r3.2.1 r3.2.2.1 r3.2.2.2.1 r3.2.2.2.2
def Cs.c19(k:Nat)(o0:Du)(o2:zP)(zl:zF)(zJ:List Int)(yV:zI):Option (Unit×Du×zP×zF×(List Int)):=
 (Nb k yV 8 o0 o2 zl zJ).bind fun r4=>Cs.c23 k r4.2.1 r4.2.2.1 r4.2.2.2.1 r4.2.2.2.2
def Cs(k:Nat)(t1:zI)(o0:Du)(o2:zP)(zl:zF)(zJ:List Int):Option (Unit×Du×zP×zF×(List Int)):=
 cond (o2.1==0) ((LU k 5 o0 zl zJ).bind fun r5=>(FB k 2 r5.2.1 (true,r5.2.2.1) r5.2.2.2).bind fun r6=>(FB k 3 r6.2.1 (true,r6.2.2.1) r6.2.2.2).bind fun r7=>cond (r7.1 !=3) (cond true (Cs.c8 k ((),r7.2.1.2.1,true,()) (o2.1,o2.2.1,o2.2.2.1,r6.1,o2.2.2.2.2.1,o2.2.2.2.2.2.1,o2.2.2.2.2.2.2.1,o2.2.2.2.2.2.2.2.1,o2.2.2.2.2.2.2.2.2.1,o2.2.2.2.2.2.2.2.2.2.1,o2.2.2.2.2.2.2.2.2.2.2.1,o2.2.2.2.2.2.2.2.2.2.2.2.1,o2.2.2.2.2.2.2.2.2.2.2.2.2.1,()) r7.2.2.1 r7.2.2.2 t1) (Cs.c8 k r7.2.1 (o2.1,o2.2.1,o2.2.2.1,r6.1,o2.2.2.2.2.1,o2.2.2.2.2.2.1,o2.2.2.2.2.2.2.1,o2.2.2.2.2.2.2.2.1,o2.2.2.2.2.2.2.2.2.1,o2.2.2.2.2.2.2.2.2.2.1,o2.2.2.2.2.2.2.2.2.2.2.1,o2.2.2.2.2.2.2.2.2.2.2.2.1,o2.2.2.2.2.2.2.2.2.2.2.2.2.1,()) r7.2.2.1 r7.2.2.2 t1)) ((FB k 4 r7.2.1 (true,r7.2.2.1) r7.2.2.2).bind fun r8=>cond (r8.1 !=3) (Cs.c8 k ((),r8.2.1.2.1,true,()) (o2.1,o2.2.1,o2.2.2.1,r6.1,o2.2.2.2.2.1,o2.2.2.2.2.2.1,o2.2.2.2.2.2.2.1,o2.2.2.2.2.2.2.2.1,o2.2.2.2.2.2.2.2.2.1,o2.2.2.2.2.2.2.2.2.2.1,o2.2.2.2.2.2.2.2.2.2.2.1,o2.2.2.2.2.2.2.2.2.2.2.2.1,o2.2.2.2.2.2.2.2.2.2.2.2.2.1,()) r8.2.2.1 r8.2.2.2 t1) (Cs.c8 k r8.2.1 (o2.1,o2.2.1,o2.2.2.1,r6.1,o2.2.2.2.2.1,o2.2.2.2.2.2.1,o2.2.2.2.2.2.2.1,o2.2.2.2.2.2.2.2.1,o2.2.2.2.2.2.2.2.2.1,o2.2.2.2.2.2.2.2.2.2.1,o2.2.2.2.2.2.2.2.2.2.2.1,o2.2.2.2.2.2.2.2.2.2.2.2.1,o2.2.2.2.2.2.2.2.2.2.2.2.2.1,()) r8.2.2.1 r8.2.2.2 t1))) (cond (o2.1==3) ((LU k 8 o0 zl zJ).bind fun r9=>(F4 k 2 0 r9.2.1 r9.2.2.1 r9.2.2.2).bind fun zU=>(F4 k 3 0 zU.2.1 zU.2.2.1 zU.2.2.2).bind fun Av=>(FB k 4 Av.2.1 (true,Av.2.2.1) Av.2.2.2).bind fun Ad=>(F4 k 5 0 Ad.2.1 Ad.2.2.1 Ad.2.2.2).bind fun Ay=>(F4 k 6 0 Ay.2.1 Ay.2.2.1 Ay.2.2.2).bind fun AB=>(DD k AB.2.1.2.1 7 (true,AB.2.2.1) AB.2.2.2).bind fun Ab=>(cond (decide (Ab.1<0)) (some true) ((gU Ab.2.1.1 Ab.1).bind fun Ig=>some (Ig.1==1))).bind fun b17=>cond b17 (Cs.c19 k ((),AB.2.1.2.1,true,()) (o2.1,o2.2.1,o2.2.2.1,Ad.1,Av.1,zU.1,Ay.1,AB.1,o2.2.2.2.2.2.2.2.2.1,o2.2.2.2.2.2.2.2.2.2.1,o2.2.2.2.2.2.2.2.2.2.2.1,o2.2.2.2.2.2.2.2.2.2.2.2.1,o2.2.2.2.2.2.2.2.2.2.2.2.2.1,()) Ab.2.1 Ab.2.2 t1) (Cs.c19 k AB.2.1 (o2.1,o2.2.1,o2.2.2.1,Ad.1,Av.1,zU.1,Ay.1,AB.1,o2.2.2.2.2.2.2.2.2.1,o2.2.2.2.2.2.2.2.2.2.1,o2.2.2.2.2.2.2.2.2.2.2.1,o2.2.2.2.2.2.2.2.2.2.2.2.1,o2.2.2.2.2.2.2.2.2.2.2.2.2.1,()) Ab.2.1 Ab.2.2 t1)) (cond (o2.1==2) ((LU k 7 o0 zl zJ).bind fun DR=>(FB k 2 DR.2.1 (true,DR.2.2.1) DR.2.2.2).bind fun CY=>Cs.c23 k CY.2.1 (o2.1,o2.2.1,o2.2.2.1,CY.1,o2.2.2.2.2.1,o2.2.2.2.2.2.1,o2.2.2.2.2.2.2.1,o2.2.2.2.2.2.2.2.1,o2.2.2.2.2.2.2.2.2.1,o2.2.2.2.2.2.2.2.2.2.1,o2.2.2.2.2.2.2.2.2.2.2.1,o2.2.2.2.2.2.2.2.2.2.2.2.1,o2.2.2.2.2.2.2.2.2.2.2.2.2.1,()) CY.2.2.1 CY.2.2.2) (Cs.c23 k ((),o0.2.1,true,()) o2 zl zJ)))
def Dk.d14(k:Nat)(t1:List Int)(t9:Int)(t16:Bool)(yV:zI)(y_:zP)(zi:Du)(zu:zP)(zx:zf)(zC:zF)(zL:List Int):Option (zP×Int):=
 (Cs k yV zi (zu.1,zu.2.1,zu.2.2.1,zu.2.2.2.1,zu.2.2.2.2.1,zu.2.2.2.2.2.1,zu.2.2.2.2.2.2.1,zu.2.2.2.2.2.2.2.1,t16,bits .and .i64 zx.2.2.1 4294967295,zu.2.2.2.2.2.2.2.2.2.2.1,zu.2.2.2.2.2.2.2.2.2.2.2.1,zu.2.2.2.2.2.2.2.2.2.2.2.2.1,()) zC zL).bind fun r1=>cond r1.2.1.2.2.1 (some ((0,0,0,0,0,0,0,0,false,0,false,(0,false,(0,zn,()),(0,zn,()),()),0,()),1)) (cond (decide (r1.2.2.1.2.1>(IntKind.wrap .i64 ((List.length t1:Int)-t9)))) (some ((0,0,0,0,0,0,0,0,false,0,false,(0,false,(0,zn,()),(0,zn,()),()),0,()),2)) (some (r1.2.2.1,0)))
def Dk.c14(k:Nat)(t1:List Int)(t9:Int)(t16:Bool)(yV:zI)(y_:zP)(zi:Du)(zu:zP)(zx:zf)(zC:zF)(zL:List Int):Option (zP×Int):=
 Dk.d14 k t1 t9 t16 yV y_ zi zu zx zC zL
def Dk.c11(k:Nat)(t1:List Int)(t9:Int)(yV:zI)(y_:zP)(zi:zF)(zu:Du)(zx:zP)(zC:List Int):Option (zP×Int):=
 (Hq k 0 4 5 (true,zi) zC).bind fun r4=>(DD k 0 4 (true,r4.2.1) r4.2.2).bind fun r5=>(cond (decide (r5.1≥0)) (some (!r4.1.2)) (some false)).bind fun b6=>cond b6 (Dk.c14 k t1 t9 r4.1.2 yV y_ ((),zu.2.1,true,()) zx r4.1.1 r5.2.1 r5.2.2) (Dk.c14 k t1 t9 r4.1.2 yV y_ zu zx r4.1.1 r5.2.1 r5.2.2)
def Dk.d9(k:Nat)(t1:List Int)(t9:Int)(yV:zI)(y_:zP)(zi:zF)(zu:Du)(zx:zP)(zC:List Int):Option (zP×Int):=
 (FB k 3 zu (true,zi) zC).bind fun r7=>cond (r7.1 !=zx.2.1) (Dk.c11 k t1 t9 yV y_ r7.2.2.1 ((),r7.2.1.2.1,true,()) zx r7.2.2.2) (Dk.c11 k t1 t9 yV y_ r7.2.2.1 r7.2.1 zx r7.2.2.2)
def Dk(k:Nat)(t0:zI)(t1:List Int)(t2:Int):Option (zP×Int):=
 (LP k t1 t2).bind fun zU=>(KS k zU.2).bind fun Av=>(LK k t0).bind fun Ad=>(cond (!Ad) (some true) (some (zU.1.2.2 !=0))).bind fun b13=>(cond b13 (some true) (some (!Av.1.2))).bind fun b14=>cond b14 (some ((0,0,0,0,0,0,0,0,false,0,false,(0,false,(0,zn,()),(0,zn,()),()),0,()),1)) ((FB k 1 ((),0,false,()) (Av.2.1.1,Av.2.1.2) Av.2.2).bind fun Ab=>(F4 k 2 0 Ab.2.1 Ab.2.2.1 Ab.2.2.2).bind fun r16=>Dk.d9 k t1 zU.1.2.1 t0 (0,0,0,0,0,0,0,0,false,0,false,(0,false,(0,zn,()),(0,zn,()),()),0,()) r16.2.2.1 r16.2.1 (Ab.1,r16.1,0,0,0,0,0,0,false,0,false,(0,false,(0,zn,()),(0,zn,()),()),zU.1.2.1,()) r16.2.2.2)
def E_.c7(k:Nat)(L2:Int→Int→Option Int)(t0:Int)(t4:Int):Option Int:=
 L2 t0 (IntKind.wrap .i64 (t4+1))
def E_.l2(k:Nat):Nat→Int→Int→Option Int
 |0,_,_=>none
 |n+1,t0,t4=>
  cond (decide (t4<8)) (cond ((Int.tmod t0 2)==1) (E_.c7 k (E_.l2 k n) (bits .xor .i64 (IntKind.wrap .i64 (Int.tdiv t0 2)) 3988292384) t4) (E_.c7 k (E_.l2 k n) (IntKind.wrap .i64 (Int.tdiv t0 2)) t4)) (some t0)
def E_(k:Nat)(t0:Int):Option Int:=
 E_.l2 k k t0 0
def Jd.l3(k:Nat):Nat→Int→(List Int)→Option (Unit×(List Int))
 |0,_,_=>none
 |n+1,t4,yV=>
  cond (decide (t4<256)) ((E_ k t4).bind fun r1=>cond (lim (List.length yV+List.length [r1])) ((Jd.l3 k n) (IntKind.wrap .i64 (t4+1)) (yV++[r1])) none) (some ((),yV))
def Jd(k:Nat):Option (Unit×(List Int)):=
 Jd.l3 k k 0 []
def Jc.l6(k:Nat):Nat→Int→(List Int)→Int→Int→(List Int)→Option Int
 |0,_,_,_,_,_=>none
 |n+1,t0,t14,t15,t16,yV=>
  cond (decide (t16<t15)) ((gU t14 t16).bind fun y1=>(gU yV (bits .xor .i64 (bits .and .i64 t0 255) (IntKind.wrap .i64 y1))).bind fun y2=>(Jc.l6 k n) (bits .xor .i64 y2 (pE .i64 t0 8)) t14 t15 (IntKind.wrap .i64 (t16+1)) yV) (some (bits .xor .i64 t0 4294967295))
def Jc(k:Nat)(t0:Int)(t1:List Int):Option Int:=
 (Az k t0 0 4294967295).bind fun r3=>cond (!r3) (some (-1)) ((Jd k).bind fun r4=>Jc.l6 k k (bits .xor .i64 t0 4294967295) t1 (List.length t1:Int) 0 r4.2)
def Na(k:Nat)(t0:List Int):Option Int:=
 (Jc k 0 t0).bind fun r1=>some r1
def Ir.d5(k:Nat)(t11:List Int)(yV:zP)(y_:zP):Option (zP×(List Int)×Int):=
 cond y_.2.2.2.2.2.2.2.2.1 ((Na k t11).bind fun r1=>cond (y_.2.2.2.2.2.2.2.2.2.1 !=r1) (some (y_,[],3)) (some (y_,t11,0))) (cond false (some (y_,[],3)) (some (y_,t11,0)))
def Ir(k:Nat)(t0:zI)(t1:List Int)(t2:Int):Option (zP×(List Int)×Int):=
 (Dk k t0 t1 t2).bind fun r4=>cond (r4.2 !=0) (some (r4.1,[],r4.2)) (cond (jg r4.1.2.2.2.2.2.2.2.2.2.2.2.2.1 (IntKind.wrap .i64 (r4.1.2.2.2.2.2.2.2.2.2.2.2.2.1+r4.1.2.1)) (List.length t1)) (Ir.d5 k (kV t1 r4.1.2.2.2.2.2.2.2.2.2.2.2.2.1 (IntKind.wrap .i64 (r4.1.2.2.2.2.2.2.2.2.2.2.2.2.1+r4.1.2.1))) (0,0,0,0,0,0,0,0,false,0,false,(0,false,(0,zn,()),(0,zn,()),()),0,()) r4.1) none)
def bits_Len64.c10(k:Nat)(t0:Int)(t2:Int):Option Int:=
 (nC (⟨#[0,1,2,2,3,3,3,3,4,4,4,4,4,4,4,4,5,5,5,5,5,5,5,5,5,5,5,5,5,5,5,5,6,6,6,6,6,6,6,6,6,6,6,6,6,6,6,6,6,6,6,6,6,6,6,6,6,6,6,6,6,6,6,6,7,7,7,7,7,7,7,7,7,7,7,7,7,7,7,7,7,7,7,7,7,7,7,7,7,7,7,7,7,7,7,7,7,7,7,7,7,7,7,7,7,7,7,7,7,7,7,7,7,7,7,7,7,7,7,7,7,7,7,7,7,7,7,7,8,8,8,8,8,8,8,8,8,8,8,8,8,8,8,8,8,8,8,8,8,8,8,8,8,8,8,8,8,8,8,8,8,8,8,8,8,8,8,8,8,8,8,8,8,8,8,8,8,8,8,8,8,8,8,8,8,8,8,8,8,8,8,8,8,8,8,8,8,8,8,8,8,8,8,8,8,8,8,8,8,8,8,8,8,8,8,8,8,8,8,8,8,8,8,8,8,8,8,8,8,8,8,8,8,8,8,8,8,8,8,8,8,8,8,8,8,8,8,8,8,8,8,8,8,8,8,8]⟩:ByteArray) (IntKind.wrap .u8 t0)).bind fun y1=>some (IntKind.wrap .i64 (t2+(IntKind.wrap .i64 y1)))
def bits_Len64.c7(k:Nat)(t0:Int)(t2:Int):Option Int:=
 cond (decide (t0≥256)) (bits_Len64.c10 k (pE .u64 t0 8) (IntKind.wrap .i64 (t2+8))) (bits_Len64.c10 k t0 t2)
def bits_Len64.c4(k:Nat)(t0:Int)(t2:Int):Option Int:=
 cond (decide (t0≥65536)) (bits_Len64.c7 k (pE .u64 t0 16) (IntKind.wrap .i64 (t2+16))) (bits_Len64.c7 k t0 t2)
def bits_Len64(k:Nat)(t0:Int):Option Int:=
 cond (decide (t0≥4294967296)) (bits_Len64.c4 k (pE .u64 t0 32) 32) (bits_Len64.c4 k t0 0)
def Ka(k:Nat)(t0:Int):Option Int:=
 (bits_Len64 k (IntKind.wrap .u64 t0)).bind fun r1=>some r1
def O1(k:Nat)(t0:List Int)(t1:Int)(t2:Int):Option (Int×Int×Bool):=
 cond (t2==0) (some (0,t1,true)) ((M9 k 1 t2).bind fun r1=>(Ey k t0 t1 r1).bind fun r2=>(cond (!r2.2.2) (some true) ((Ka k r2.1).bind fun r3=>some (decide (r3>t2)))).bind fun b4=>cond b4 (some (0,0,false)) (some (r2.1,r2.2.1,true)))
def DC.BX(k:Nat)(L4:(List Int)→Int→Int→Int→(List Int)→Option ((Unit×Int×Bool)×(List Int))):Nat→(List Int)→Int→Int→Int→Int→Int→Int→(List Int)→Option ((Unit×Int×Bool)×(List Int))
 |0,_,_,_,_,_,_,_,_=>none
 |n+1,t0,t2,t3,t17,t18,t72,t73,yV=>
  cond (decide (t73<t72)) (cond (lim (List.length yV+List.length [t17])) ((DC.BX k L4 n) t0 t2 t3 t17 t18 t72 (IntKind.wrap .i64 (t73+1)) (yV++[t17])) none) (L4 t0 t18 t2 t3 yV)
def DC.l4(k:Nat):Nat→(List Int)→Int→Int→Int→(List Int)→Option ((Unit×Int×Bool)×(List Int))
 |0,_,_,_,_,_=>none
 |n+1,t0,t1,t2,t3,yV=>
  cond (decide ((List.length yV:Int)<t2)) ((D9 k t0 t1).bind fun r1=>cond (!r1.2.2) (some (((),0,false),[])) (cond ((bits .and .i64 r1.1 1)==0) ((O1 k t0 r1.2.1 t3).bind fun r2=>cond (!r2.2.2) (some (((),0,false),[])) (DC.BX k (DC.l4 k n) k t0 t2 t3 r2.1 r2.2.1 (if(IntKind.wrap .i64 (t2-(List.length yV:Int)))<(IntKind.wrap .i64 (pE .u64 (IntKind.wrap .u64 r1.1) 1)) then(IntKind.wrap .i64 (t2-(List.length yV:Int))) else(IntKind.wrap .i64 (pE .u64 (IntKind.wrap .u64 r1.1) 1))) 0 yV)) ((cond (decide ((IntKind.wrap .i64 (pE .u64 (IntKind.wrap .u64 r1.1) 1))>2000)) (some true) (some (decide ((IntKind.wrap .i64 ((IntKind.wrap .i64 (pE .u64 (IntKind.wrap .u64 r1.1) 1))*t3))>(IntKind.wrap .i64 ((List.length t0:Int)-r1.2.1)))))).bind fun b3=>cond b3 (some (((),0,false),[])) ((DW k t0 r1.2.1 (if(IntKind.wrap .i64 (t2-(List.length yV:Int)))<(IntKind.wrap .i64 (8*(IntKind.wrap .i64 (pE .u64 (IntKind.wrap .u64 r1.1) 1)))) then(IntKind.wrap .i64 (t2-(List.length yV:Int))) else(IntKind.wrap .i64 (8*(IntKind.wrap .i64 (pE .u64 (IntKind.wrap .u64 r1.1) 1))))) t3).bind fun r4=>cond (lim (List.length yV+List.length r4.2)) ((DC.l4 k n) t0 (IntKind.wrap .i64 (r1.2.1+(IntKind.wrap .i64 ((IntKind.wrap .i64 (pE .u64 (IntKind.wrap .u64 r1.1) 1))*t3)))) t2 t3 (yV++r4.2)) none)))) (some (((),t1,true),yV))
def DC(k:Nat)(t0:List Int)(t1:Int)(t2:Int)(t3:Int):Option ((Unit×Int×Bool)×(List Int)):=
 (Az k t3 0 24).bind fun r5=>(cond (!r5) (some true) ((Az k t2 0 2000).bind fun r6=>some (!r6))).bind fun b7=>(cond b7 (some true) ((Az k t1 0 (List.length t0:Int)).bind fun r8=>some (!r8))).bind fun b9=>cond b9 (some (((),0,false),[])) (DC.l4 k k t0 t1 t2 t3 [])
def M_(k:Nat)(t0:Int):Option Int:=
 (cond (decide (t0<0)) (some true) ((Ka k t0).bind fun r1=>some (decide (r1>62)))).bind fun b2=>cond b2 (some (-1)) ((Ka k t0).bind fun r3=>some r3)
def GI.zY(k:Nat):Nat→Int→Int→Int→Int→Int→(List Int)→Option ((Unit×Int×Bool)×(List Int))
 |0,_,_,_,_,_,_=>none
 |n+1,t3,t11,t12,t72,t73,yV=>
  cond (decide (t73<t72)) ((gU yV t73).bind fun y1=>cond (decide (y1>t3)) (some (((),0,false),[])) ((GI.zY k n) t3 t11 t12 t72 (IntKind.wrap .i64 (t73+1)) yV)) (some (((),IntKind.wrap .i64 (t12+t11),true),yV))
def GI(k:Nat)(t0:List Int)(t1:Int)(t2:Int)(t3:Int):Option ((Unit×Int×Bool)×(List Int)):=
 (Az k t3 0 255).bind fun r2=>(cond (!r2) (some true) ((Az k t2 0 2000).bind fun r3=>some (!r3))).bind fun b4=>(cond b4 (some true) ((Az k t1 0 (List.length t0:Int)).bind fun r5=>some (!r5))).bind fun b6=>cond b6 (some (((),0,false),[])) (cond (t3==0) (cond (oV t2) (some (((),t1,true),List.replicate (Int.toNat t2) 0)) none) ((Ey k t0 t1 4).bind fun r7=>(cond (!r7.2.2) (some true) (some (decide (r7.1>(IntKind.wrap .i64 ((List.length t0:Int)-r7.2.1)))))).bind fun b8=>cond b8 (some (((),0,false),[])) (cond (jg r7.2.1 (IntKind.wrap .i64 (r7.2.1+r7.1)) (List.length t0)) ((M_ k t3).bind fun r9=>(DC k (kV t0 r7.2.1 (IntKind.wrap .i64 (r7.2.1+r7.1))) 0 t2 r9).bind fun zU=>cond (!zU.1.2.2) (some (((),0,false),[])) (GI.zY k k t3 r7.1 r7.2.1 (List.length zU.2:Int) 0 zU.2)) none)))
def F_.l5(k:Nat):Nat→(List Int)→Int→Int→Option Int
 |0,_,_,_=>none
 |n+1,t0,t3,t4=>
  cond (decide (t4<(List.length t0:Int))) ((gU t0 t4).bind fun y1=>(F_.l5 k n) t0 (if y1>t3 then y1 else t3) (IntKind.wrap .i64 (t4+1))) (some t3)
def F_.c3(k:Nat)(t0:List Int):Option Int:=
 (gU t0 0).bind fun y2=>F_.l5 k k t0 y2 1
def F_(k:Nat)(t0:List Int):Option Int:=
 cond (decide ((List.length t0:Int)<1)) (none) (F_.c3 k t0)
def Nf(k:Nat)(t0:List Int)(t1:Int)(t2:Int):Option ((Unit×Bool)×(List Int)):=
 cond (t2==0) (cond (oV t1) (some (((),(List.length t0:Int)==0),List.replicate (Int.toNat t1) 0)) none) ((M_ k t2).bind fun r1=>(DC k t0 0 t1 r1).bind fun r2=>(cond (!r2.1.2.2) (some true) (some (r2.1.2.1 !=(List.length t0:Int)))).bind fun b3=>(cond b3 (some true) ((cond (decide ((List.length r2.2:Int)>0)) ((F_ k r2.2).bind fun r4=>some (decide (r4>t2))) (some false)).bind fun b5=>some (b5))).bind fun b6=>cond b6 (some (((),false),[])) (some (((),true),r2.2)))
def Hl.d13(k:Nat)(t2:List Int)(t15:Int)(t17:Bool)(yV:zI)(y_:zP)(zi:List Int):Option ((Unit×Unit×(List Int)×Bool)×(List Int)×(List Int)):=
 cond (jg y_.2.2.2.2.2.2.2.1 t15 (List.length t2)) ((Nf k (kV t2 y_.2.2.2.2.2.2.2.1 t15) y_.2.2.1 yV.2.2.1).bind fun r1=>cond (jg t15 ((List.length t2):Int) (List.length t2)) ((cond t17 (some (r1.1.2)) (some false)).bind fun b2=>some (((),(),kV t2 t15 ((List.length t2):Int),b2),(zi,r1.2))) none) none
def Hl.d12(k:Nat)(t2:List Int)(t15:Int)(yV:zI)(y_:zP):Option ((Unit×Unit×(List Int)×Bool)×(List Int)×(List Int)):=
 cond (jg 0 y_.2.2.2.2.2.2.2.1 (List.length t2)) ((Nf k (kV t2 0 y_.2.2.2.2.2.2.2.1) y_.2.2.1 yV.2.1).bind fun r5=>Hl.d13 k t2 t15 r5.1.2 yV y_ r5.2) none
def Hl(k:Nat)(t0:zI)(t1:zP)(t2:List Int):Option ((Unit×Unit×(List Int)×Bool)×(List Int)×(List Int)):=
 cond (t1.1==0) ((GI k t2 0 t1.2.2.1 t0.2.1).bind fun r7=>cond (!r7.1.2.2) (some (((),(),[],false),([],[]))) ((GI k t2 r7.1.2.1 t1.2.2.1 t0.2.2.1).bind fun r8=>cond (!r8.1.2.2) (some (((),(),[],false),([],[]))) (cond (jg r8.1.2.1 ((List.length t2):Int) (List.length t2)) (some (((),(),kV t2 r8.1.2.1 ((List.length t2):Int),true),(r7.2,r8.2))) none))) ((cond (decide (t1.2.2.2.2.2.2.2.1>(List.length t2:Int))) (some true) (some (decide (t1.2.2.2.2.2.2.1>(IntKind.wrap .i64 ((List.length t2:Int)-t1.2.2.2.2.2.2.2.1)))))).bind fun b9=>cond b9 (some (((),(),[],false),([],[]))) (Hl.d12 k t2 (IntKind.wrap .i64 (t1.2.2.2.2.2.2.2.1+t1.2.2.2.2.2.2.1)) t0 t1))
def EH.c9(k:Nat)(L4:(List Int)→Int→(List Int)→Int→Int→zI→(List zM)→Option ((Unit×Int)×(List zM)))(t2:List Int)(t9:Int)(t13:List Int)(t14:Int)(t15:Int)(yV:zI)(y_:List zM):Option ((Unit×Int)×(List zM)):=
 L4 t2 t9 t13 t14 (IntKind.wrap .i64 (t15+1)) yV y_
def EH.l4(k:Nat):Nat→(List Int)→Int→(List Int)→Int→Int→zI→(List zM)→Option ((Unit×Int)×(List zM))
 |0,_,_,_,_,_,_,_=>none
 |n+1,t2,t9,t13,t14,t15,yV,y_=>
  cond (decide (t15<t14)) ((gU t13 t15).bind fun y1=>(gU t2 t15).bind fun y2=>cond (lim (List.length y_+List.length ([(y1,y2,(0,zn,()),())]:List zM))) ((gU t2 t15).bind fun y3=>cond (y3 !=yV.2.2.1) (EH.c9 k (EH.l4 k n) t2 (IntKind.wrap .i64 (t9+1)) t13 t14 t15 yV (y_++[(y1,y2,(0,zn,()),())])) (EH.c9 k (EH.l4 k n) t2 t9 t13 t14 t15 yV (y_++[(y1,y2,(0,zn,()),())]))) none) (some (((),t9),y_))
def EH(k:Nat)(t0:zI)(t1:List Int)(t2:List Int):Option ((Unit×Int)×(List zM)):=
 EH.l4 k k t2 0 t1 (List.length t1:Int) 0 t0 []
def Ei.c7(k:Nat)(L3:Int→(List zM)→Int→Int→Option Int)(t3:Int)(t6:List zM)(t7:Int)(t8:Int):Option Int:=
 L3 t3 t6 t7 (IntKind.wrap .i64 (t8+1))
def Ei.l3(k:Nat):Nat→Int→(List zM)→Int→Int→Option Int
 |0,_,_,_,_=>none
 |n+1,t3,t6,t7,t8=>
  cond (decide (t8<t7)) ((gU t6 t8).bind fun y1=>cond (y1.1==0) (Ei.c7 k (Ei.l3 k n) (IntKind.wrap .i64 (t3+1)) t6 t7 t8) (Ei.c7 k (Ei.l3 k n) t3 t6 t7 t8)) (some t3)
def Ei(k:Nat)(t0:List zM):Option Int:=
 Ei.l3 k k 0 t0 (List.length t0:Int) 0
def Gl.c11(k:Nat)(t0:Int)(t1:Int)(t23:Bool):Option Bool:=
 cond t23 (some (t1==6)) ((cond (t0==9) ((Ez k t1).bind fun r1=>some (decide (r1>0))) (some false)).bind fun b2=>some b2)
def Gl.c4(k:Nat)(t0:Int)(t1:Int)(t5:Int)(t6:Bool):Option Bool:=
 cond t6 ((J9 k t1).bind fun r3=>some r3) (cond (t5==3) (some (t1==0)) (cond (t5==5) ((cond (t1==1) (some true) (some (t1==2))).bind fun b4=>some b4) (cond (t5==6) (Gl.c11 k t0 t1 (t5==6)) (Gl.c11 k t0 t1 (t5==7)))))
def Gl(k:Nat)(t0:Int)(t1:Int):Option Bool:=
 cond (t0==0) (Gl.c4 k t0 t1 t0 (t0==0)) (Gl.c4 k t0 t1 t0 (t0==8))
def Gr(k:Nat)(o0:D6)(zl:List Int):Option (Int×D6×(List Int)):=
 (D9 k o0.1 o0.2.1).bind fun r1=>(cond o0.2.2.1 (some true) (some (!r1.2.2))).bind fun b2=>cond b2 (some (0,((o0.1,o0.2.1,true,(),()),zl))) (some (r1.1,((o0.1,r1.2.1,o0.2.2.1,(),()),zl)))
def LQ(k:Nat)(t1:Int)(o0:D6)(zl:List Int):Option (Int×D6×(List Int)):=
 (cond o0.2.2.1 (some true) (some (decide (t1>(IntKind.wrap .i64 ((List.length o0.1:Int)-o0.2.1)))))).bind fun b1=>cond b1 (some (0,((o0.1,o0.2.1,true,(),()),zl))) (some (IntKind.wrap .i64 ((IntKind.wrap .i64 (o0.2.1+t1))-t1),((o0.1,IntKind.wrap .i64 (o0.2.1+t1),o0.2.2.1,(),()),zl)))
def DU.d7(k:Nat)(L5:Int→Int→Int→D6→(List Int)→(List Int)→Option (Unit×D6×(List Int)))(t3:Int)(t12:Int)(t38:Int)(t39:Int)(o0:D6)(yV:List Int)(y_:List Int):Option (Unit×D6×(List Int)):=
 (gU y_ (IntKind.wrap .i64 ((List.length y_:Int)-1))).bind fun y1=>cond (lim (List.length y_+List.length [IntKind.wrap .i64 ((IntKind.wrap .i64 (y1+t12))+t3)])) (L5 t3 t38 (IntKind.wrap .i64 (t39+1)) o0 yV (y_++[IntKind.wrap .i64 ((IntKind.wrap .i64 (y1+t12))+t3)])) none
def DU.l5(k:Nat):Nat→Int→Int→Int→D6→(List Int)→(List Int)→Option (Unit×D6×(List Int))
 |0,_,_,_,_,_,_=>none
 |n+1,t3,t38,t39,o0,yV,y_=>
  cond (decide (t39<t38)) ((gU yV t39).bind fun y4=>DU.d7 k (DU.l5 k n) t3 y4 t38 t39 o0 yV y_) (some ((),(o0,y_)))
def DU.c2(k:Nat)(t1:Int)(t2:Int)(t3:Int)(t4:Int)(o0:D6)(zl:List Int):Option (Unit×D6×(List Int)):=
 (LQ k (IntKind.wrap .i64 (Int.tdiv (IntKind.wrap .i64 (t1*t2)) 8)) o0 zl).bind fun r5=>cond r5.2.1.2.2.1 (some ((),(r5.2.1,r5.2.2))) ((DW k r5.2.1.1 r5.1 (if t4<t1 then t4 else t1) t2).bind fun r6=>DU.l5 k k t3 (List.length r6.2:Int) 0 r5.2.1 r6.2 r5.2.2)
def DU(k:Nat)(t1:Int)(t2:Int)(t3:Int)(t4:Int)(o0:D6)(zl:List Int):Option (Unit×D6×(List Int)):=
 cond (decide (t2>64)) (DU.c2 k t1 t2 t3 t4 (o0.1,o0.2.1,true,(),()) zl) (DU.c2 k t1 t2 t3 t4 o0 zl)
def BH.d22(k:Nat)(UQ:(List Int)→Int→Int→Int→Int→Int→Int→D6→(List Int)→Option ((Unit×Int×Bool)×(List Int)))(t0:List Int)(t9:Int)(t10:Int)(t12:Int)(t13:Int)(t14:Int)(t15:Int)(yV:D6)(y_:List Int):Option ((Unit×Int×Bool)×(List Int)):=
 (gU t0 (IntKind.wrap .i64 (t14+t15))).bind fun y1=>(DU k t12 (IntKind.wrap .i64 y1) t13 (IntKind.wrap .i64 (t10-(List.length y_:Int))) yV y_).bind fun r2=>UQ t0 t9 t10 t12 t13 t14 (IntKind.wrap .i64 (t15+1)) r2.2.1 r2.2.2
def BH.D_(k:Nat)(Ju:(List Int)→Int→Int→Int→D6→(List Int)→Option ((Unit×Int×Bool)×(List Int))):Nat→(List Int)→Int→Int→Int→Int→Int→Int→D6→(List Int)→Option ((Unit×Int×Bool)×(List Int))
 |0,_,_,_,_,_,_,_,_,_=>none
 |n+1,t0,t9,t10,t12,t13,t14,t15,yV,y_=>
  (cond (decide (t15<t9)) (some (decide ((List.length y_:Int)<t10))) (some false)).bind fun b7=>(cond b7 (some (!yV.2.2.1)) (some false)).bind fun b8=>cond b8 (BH.d22 k (BH.D_ k Ju n) t0 t9 t10 t12 t13 t14 t15 yV y_) (Ju t0 t9 t10 t12 yV y_)
def BH.De(k:Nat):Nat→(List Int)→Int→Int→Int→D6→(List Int)→Option ((Unit×Int×Bool)×(List Int))
 |0,_,_,_,_,_,_=>none
 |n+1,t0,t9,t10,t12,yV,y_=>
  (cond (decide ((List.length y_:Int)<t10)) (some (!yV.2.2.1)) (some false)).bind fun b9=>cond b9 ((Gr k yV y_).bind fun zU=>(GJ k zU.1).bind fun Av=>(LQ k t9 zU.2.1 zU.2.2).bind fun Ad=>BH.D_ k (BH.De k n) k t0 t9 t10 t12 Av Ad.1 0 Ad.2.1 Ad.2.2) (cond yV.2.2.1 (some (((),0,false),[])) (some (((),yV.2.1,true),y_)))
def BH(k:Nat)(t0:List Int)(t1:Int):Option ((Unit×Int×Bool)×(List Int)):=
 (Az k t1 0 (List.length t0:Int)).bind fun Ay=>cond (!Ay) (some (((),0,false),[])) ((Gr k (t0,t1,false,(),()) []).bind fun AB=>(Gr k AB.2.1 AB.2.2).bind fun Ab=>(Gr k Ab.2.1 Ab.2.2).bind fun r16=>(Gr k r16.2.1 r16.2.2).bind fun Ch=>(GJ k Ch.1).bind fun DR=>(cond Ch.2.1.2.2.1 (some true) ((Az k AB.1 128 1024).bind fun CY=>some (!CY))).bind fun b20=>(cond b20 (some true) (some ((Int.tmod AB.1 128) !=0))).bind fun Oc=>(cond Oc (some true) ((Az k Ab.1 1 AB.1).bind fun Nv=>some (!Nv))).bind fun J3=>(cond J3 (some true) ((Az k r16.1 0 2000).bind fun Kl=>some (!Kl))).bind fun J4=>cond J4 (some (((),0,false),[])) (cond (decide (Ab.1≠0)) ((cond ((Int.tmod AB.1 Ab.1) !=0) (some true) (cond (decide (Ab.1≠0)) (some ((Int.tmod (IntKind.wrap .i64 (Int.tdiv AB.1 Ab.1)) 32) !=0)) none)).bind fun MP=>cond MP (some (((),0,false),[])) (cond (r16.1==0) (some (((),Ch.2.1.2.1,true),[])) (cond (decide (Ab.1≠0)) (BH.De k k t0 Ab.1 r16.1 (IntKind.wrap .i64 (Int.tdiv AB.1 Ab.1)) Ch.2.1 [DR]) none))) none))
def Hf.l6(k:Nat):Nat→(List Int)→Int→Int→Int→(List za)→(List Int)→Option ((Unit×Int×Bool)×(List za))
 |0,_,_,_,_,_,_=>none
 |n+1,t0,t8,t24,t25,yV,y_=>
  cond (decide (t25<t24)) ((gU y_ t25).bind fun y1=>(Az k y1 0 40).bind fun r2=>(cond (!r2) (some true) (some (decide (y1>(IntKind.wrap .i64 ((List.length t0:Int)-t8)))))).bind fun b3=>cond b3 (some (((),0,false),[])) (cond (jg t8 (IntKind.wrap .i64 (t8+y1)) (List.length t0)) (cond (lim (List.length yV+List.length [(0,wY (kV t0 t8 (IntKind.wrap .i64 (t8+y1))),())])) ((Hf.l6 k n) t0 (IntKind.wrap .i64 (t8+y1)) t24 (IntKind.wrap .i64 (t25+1)) (yV++[(0,wY (kV t0 t8 (IntKind.wrap .i64 (t8+y1))),())]) y_) none) none)) (some (((),t8,true),yV))
def Hf(k:Nat)(t0:List Int)(t1:Int):Option ((Unit×Int×Bool)×(List za)):=
 (BH k t0 t1).bind fun r4=>cond (!r4.1.2.2) (some (((),0,false),[])) (Hf.l6 k k t0 r4.1.2.1 (List.length r4.2:Int) 0 [] r4.2)
def Ip.l10(k:Nat):Nat→Int→ByteArray→Int→Int→(List za)→(List za)→(List Int)→Option ((Unit×Int×Bool)×(List za))
 |0,_,_,_,_,_,_,_=>none
 |n+1,t11,t13,t43,t44,yV,y_,zi=>
  cond (decide (t44<t43)) ((gU zi t44).bind fun y1=>(Az k y1 0 (t13.size:Int)).bind fun r2=>(cond (!r2) (some true) ((gU yV t44).bind fun y3=>some (decide ((IntKind.wrap .i64 (y1+(y3.2.1.size:Int)))>40)))).bind fun b4=>cond b4 (some (((),0,false),[])) (cond (jg 0 y1 t13.size) ((gU yV t44).bind fun y5=>cond (lim ((ByteArray.extract t13 (Int.toNat 0) (Int.toNat y1)).size+y5.2.1.size)) (cond (lim (List.length y_+List.length [(0,(ByteArray.extract t13 (Int.toNat 0) (Int.toNat y1))++y5.2.1,())])) ((Ip.l10 k n) t11 ((ByteArray.extract t13 (Int.toNat 0) (Int.toNat y1))++y5.2.1) t43 (IntKind.wrap .i64 (t44+1)) yV (y_++[(0,(ByteArray.extract t13 (Int.toNat 0) (Int.toNat y1))++y5.2.1,())]) zi) none) none) none)) (some (((),t11,true),y_))
def Ip(k:Nat)(t0:List Int)(t1:Int):Option ((Unit×Int×Bool)×(List za)):=
 (BH k t0 t1).bind fun r6=>cond (!r6.1.2.2) (some (((),0,false),[])) ((Hf k t0 r6.1.2.1).bind fun r7=>(cond (!r7.1.2.2) (some true) (some ((List.length r7.2:Int) !=(List.length r6.2:Int)))).bind fun b8=>cond b8 (some (((),0,false),[])) (Ip.l10 k k r7.1.2.1 zn (List.length r6.2:Int) 0 r7.2 [] r6.2))
def OU(k:Nat)(t0:Int):Option Int:=
 (Ez k t0).bind fun r1=>some r1
def Ej.l10(k:Nat)(L6:(List Int)→Int→Int→Int→Int→Int→(List za)→Option ((Unit×Int×Bool)×(List za))):Nat→(List Int)→Int→Int→Int→Int→Int→Int→Int→Int→Int→(List za)→Option ((Unit×Int×Bool)×(List za))
 |0,_,_,_,_,_,_,_,_,_,_,_=>none
 |n+1,t1,t2,t3,t11,t13,t14,t43,t44,t47,t48,yV=>
  cond (decide (t48<t47)) ((gU t1 (IntKind.wrap .i64 ((IntKind.wrap .i64 (t2+(IntKind.wrap .i64 (t48*t3))))+t13))).bind fun y1=>cond (decide (0≤(IntKind.wrap .i64 (8*t48)))) ((Ej.l10 k L6 n) t1 t2 t3 t11 t13 (bits .or .i64 t14 (pz .i64 (IntKind.wrap .i64 y1) (IntKind.wrap .i64 (8*t48)))) t43 t44 t47 (IntKind.wrap .i64 (t48+1)) yV) none) ((LW k t14 t11).bind fun r2=>cond (lim (List.length yV+List.length ([(r2,zn,())]:List za))) (L6 t1 t2 t3 t11 t43 (IntKind.wrap .i64 (t44+1)) (yV++[(r2,zn,())])) none)
def Ej.l6(k:Nat):Nat→(List Int)→Int→Int→Int→Int→Int→(List za)→Option ((Unit×Int×Bool)×(List za))
 |0,_,_,_,_,_,_,_=>none
 |n+1,t1,t2,t3,t11,t43,t44,yV=>
  cond (decide (t44<t43)) (Ej.l10 k (Ej.l6 k n) k t1 t2 t3 t11 t44 0 t43 t44 t11 0 yV) (some (((),IntKind.wrap .i64 (t2+(IntKind.wrap .i64 (t3*t11))),true),yV))
def Ej(k:Nat)(t0:Int)(t1:List Int)(t2:Int)(t3:Int):Option ((Unit×Int×Bool)×(List za)):=
 (OU k t0).bind fun r3=>(cond (r3==0) (some true) ((Az k t3 0 2000).bind fun r4=>some (!r4))).bind fun b5=>(cond b5 (some true) ((Az k t2 0 (List.length t1:Int)).bind fun r6=>some (!r6))).bind fun b7=>(cond b7 (some true) (some (decide ((IntKind.wrap .i64 (t3*r3))>(IntKind.wrap .i64 ((List.length t1:Int)-t2)))))).bind fun b8=>cond b8 (some (((),0,false),[])) (Ej.l6 k k t1 t2 t3 r3 t3 0 [])
def Iq.l7(k:Nat):Nat→Int→Int→Int→Int→(List Int)→Option ((Unit×Int×Bool)×(List Int))
 |0,_,_,_,_,_=>none
 |n+1,t3,t12,t39,t40,yV=>
  cond (decide (t40<t39)) ((gU yV t40).bind fun y1=>cond (decide (y1≥t3)) (some (((),0,false),[])) ((Iq.l7 k n) t3 t12 t39 (IntKind.wrap .i64 (t40+1)) yV)) (some (((),t12,true),yV))
def Iq(k:Nat)(t0:List Int)(t1:Int)(t2:Int)(t3:Int):Option ((Unit×Int×Bool)×(List Int)):=
 (Az k t1 0 (IntKind.wrap .i64 ((List.length t0:Int)-1))).bind fun r2=>cond (!r2) (some (((),0,false),[])) ((gU t0 t1).bind fun y3=>(DC k t0 (IntKind.wrap .i64 (t1+1)) t2 (IntKind.wrap .i64 y3)).bind fun r4=>cond (!r4.1.2.2) (some (((),0,false),[])) (Iq.l7 k k t3 r4.1.2.1 (List.length r4.2:Int) 0 r4.2))
def Io.l5(k:Nat):Nat→(List za)→(List Int)→Int→Int→(List za)→Option ((Unit×Bool)×(List za))
 |0,_,_,_,_,_=>none
 |n+1,t0,t13,t14,t15,yV=>
  cond (decide (t15<t14)) ((gU t13 t15).bind fun y1=>(Az k y1 0 (IntKind.wrap .i64 ((List.length t0:Int)-1))).bind fun r2=>cond (!r2) (some (((),false),[])) ((gU t0 y1).bind fun y3=>cond (lim (List.length yV+List.length [y3])) ((Io.l5 k n) t0 t13 t14 (IntKind.wrap .i64 (t15+1)) (yV++[y3])) none)) (some (((),true),yV))
def Io(k:Nat)(t0:List za)(t1:List Int):Option ((Unit×Bool)×(List za)):=
 cond (decide ((List.length t1:Int)>2000)) (some (((),false),[])) (Io.l5 k k t0 t1 (List.length t1:Int) 0 [])
def OY(k:Nat)(t0:Int)(t1:Int)(t2:List Int)(t3:Int)(t4:List za):Option ((Unit×Int×Bool)×(List za)):=
 cond (t0==0) ((Gp k t1 t2 0 t3).bind fun r1=>some (((),r1.1.2.1,r1.1.2.2),r1.2)) (cond (t0==5) ((BH k t2 0).bind fun r2=>(GM k r2.2).bind fun r3=>some (((),r2.1.2.1,r2.1.2.2),r3.2)) (cond (t0==6) ((Hf k t2 0).bind fun r4=>some (((),r4.1.2.1,r4.1.2.2),r4.2)) (cond (t0==7) ((Ip k t2 0).bind fun r5=>some (((),r5.1.2.1,r5.1.2.2),r5.2)) (cond (t0==9) ((Ej k t1 t2 0 t3).bind fun r6=>some (((),r6.1.2.1,r6.1.2.2),r6.2)) (cond (t0==8) ((Iq k t2 0 t3 (List.length t4:Int)).bind fun r7=>(Io k t4 r7.2).bind fun r8=>(cond r7.1.2.2 (some (r8.1.2)) (some false)).bind fun b9=>some (((),r7.1.2.1,b9),r8.2)) ((Ey k t2 0 4).bind fun zU=>(cond (!zU.2.2) (some true) (some (zU.1 !=(IntKind.wrap .i64 ((List.length t2:Int)-zU.2.1))))).bind fun b11=>cond b11 (some (((),0,false),[])) ((DC k t2 zU.2.1 t3 1).bind fun Ad=>(GM k Ad.2).bind fun Ay=>some (((),Ad.1.2.1,Ad.1.2.2),Ay.2))))))))
def LH(k:Nat)(t0:Int)(t1:Int)(t2:List Int)(t3:Int)(t4:List za):Option ((Unit×Bool)×(List za)):=
 (Gl k t0 t1).bind fun r1=>(cond (!r1) (some true) ((Az k t3 0 2000).bind fun r2=>some (!r2))).bind fun b3=>cond b3 (some (((),false),[])) ((cond (t0==8) (some (t3==0)) (some false)).bind fun b4=>(cond b4 (some ((List.length t2:Int)==0)) (some false)).bind fun b5=>cond b5 (some (((),true),[])) ((OY k t0 t1 t2 t3 t4).bind fun r6=>(cond (!r6.1.2.2) (some true) (some (r6.1.2.1 !=(List.length t2:Int)))).bind fun b7=>(cond b7 (some true) (some ((List.length r6.2:Int) !=t3))).bind fun b8=>(cond b8 (some true) ((Ht k t1 r6.2).bind fun r9=>some (!r9))).bind fun b10=>cond b10 (some (((),false),[])) (some (((),true),r6.2))))
def Dm.c21(k:Nat)(Ju:(List za)→Int→Int→zI→zP→(List zM)→Option ((Unit×Int×Int)×(List zM)))(t20:List za)(t108:Int)(t109:Int)(yV:zI)(y_:zP)(zi:List zM):Option ((Unit×Int×Int)×(List zM)):=
 Ju t20 t108 (IntKind.wrap .i64 (t109+1)) yV y_ zi
def Dm.De(k:Nat):Nat→(List za)→Int→Int→zI→zP→(List zM)→Option ((Unit×Int×Int)×(List zM))
 |0,_,_,_,_,_,_=>none
 |n+1,t20,t108,t109,yV,y_,zi=>
  cond (decide (t109<t108)) ((gU zi t109).bind fun y1=>cond (y1.2.1==yV.2.2.1) ((gU t20 0).bind fun y2=>(gU zi t109).bind fun y3=>(gU zi t109).bind fun y4=>cond (jg 1 ((List.length t20):Int) (List.length t20)) (Dm.c21 k (Dm.De k n) (kV t20 1 ((List.length t20):Int)) t108 t109 yV y_ (List.set zi (Int.toNat t109) (y4.1,y4.2.1,y2,()))) none) (Dm.c21 k (Dm.De k n) t20 t108 t109 yV y_ zi)) (some (((),IntKind.wrap .i64 (y_.2.2.2.2.2.2.2.2.2.2.2.2.1+y_.2.1),0),zi))
def Dm.d10(k:Nat)(t3:List za)(t16:List Int)(t19:Int)(yV:zI)(y_:zP)(zi:List zM):Option ((Unit×Int×Int)×(List zM)):=
 cond (y_.1==3) ((Ei k zi).bind fun r5=>cond (r5 !=y_.2.2.2.2.1) (cond true (some (((),0,4),[])) ((LH k y_.2.2.2.1 yV.1 t16 (IntKind.wrap .i64 (y_.2.2.1-t19)) t3).bind fun r6=>cond (!r6.1.2) (some (((),0,5),[])) (Dm.De k k r6.2 (List.length zi:Int) 0 yV y_ zi))) (cond (t19 !=y_.2.2.2.2.2.1) (some (((),0,4),[])) ((LH k y_.2.2.2.1 yV.1 t16 (IntKind.wrap .i64 (y_.2.2.1-t19)) t3).bind fun r7=>cond (!r7.1.2) (some (((),0,5),[])) (Dm.De k k r7.2 (List.length zi:Int) 0 yV y_ zi)))) (cond false (some (((),0,4),[])) ((LH k y_.2.2.2.1 yV.1 t16 (IntKind.wrap .i64 (y_.2.2.1-t19)) t3).bind fun r8=>cond (!r8.1.2) (some (((),0,5),[])) (Dm.De k k r8.2 (List.length zi:Int) 0 yV y_ zi)))
def Dm(k:Nat)(t0:zI)(t1:List Int)(t2:Int)(t3:List za):Option ((Unit×Int×Int)×(List zM)):=
 (Ir k t0 t1 t2).bind fun Ch=>(cond (Ch.1.1==2) ((cond (Ch.2.2==0) (some true) (some (Ch.2.2==3))).bind fun b18=>some (b18)) (some false)).bind fun b19=>cond b19 (some (((),0,1),[])) (cond (Ch.2.2 !=0) (some (((),0,Ch.2.2),[])) ((Hl k t0 Ch.1 Ch.2.1).bind fun ED=>(cond (!ED.1.2.2.2) (some true) ((cond (decide ((List.length ED.2.1:Int)>0)) ((gU ED.2.1 0).bind fun y21=>some (y21 !=0)) (some false)).bind fun Lc=>some (Lc))).bind fun J3=>cond J3 (some (((),0,4),[])) ((EH k t0 ED.2.1 ED.2.2).bind fun Kl=>Dm.d10 k t3 ED.1.2.2.1 Kl.1.2 t0 Ch.1 Kl.2)))
def OO(k:Nat)(t0:Int)(t1:List Int)(t2:Int):Option ((Unit×Int×Int)×(List za)):=
 (Ir k (t0,0,0,()) t1 t2).bind fun r1=>(cond (r1.2.2==0) (some true) (some (r1.2.2==3))).bind fun b2=>(cond b2 ((cond (r1.1.1 !=2) (some true) ((cond (r1.1.2.2.2.1 !=0) (some (r1.1.2.2.2.1 !=2)) (some false)).bind fun b3=>some (b3))).bind fun b4=>some (b4)) (some false)).bind fun b5=>cond b5 (some (((),0,1),[])) (cond (r1.2.2 !=0) (some (((),0,r1.2.2),[])) ((Gp k t0 r1.2.1 0 r1.1.2.2.1).bind fun r6=>(cond (!r6.1.2.2) (some true) (some (r6.1.2.1 !=(List.length r1.2.1:Int)))).bind fun b7=>cond b7 (some (((),0,5),[])) (some (((),IntKind.wrap .i64 (r1.1.2.2.2.2.2.2.2.2.2.2.2.2.1+r1.1.2.1),0),r6.2))))
def E9.AL(k:Nat):Nat→(List Int)→Int→Int→zI→BC→(List za)→(List Int)→Option ((Unit×Unit×Int)×(List Int)×(List za))
 |0,_,_,_,_,_,_,_=>none
 |n+1,t1,t14,t15,yV,y_,zi,zu=>
  cond (decide (t14<y_.2.2.2.1)) ((Dk k yV t1 t15).bind fun r1=>cond (r1.2 !=0) (some (((),(),r1.2),([],[]))) ((cond (r1.1.1==2) (some true) (some (r1.1.2.2.1==0))).bind fun b2=>(cond b2 (some true) (some (decide ((IntKind.wrap .i64 (t14+r1.1.2.2.1))>y_.2.2.2.1)))).bind fun b3=>cond b3 (some (((),(),1),([],[]))) (cond (lim (List.length zu+List.length [t15])) ((E9.AL k n) t1 (IntKind.wrap .i64 (t14+r1.1.2.2.1)) (IntKind.wrap .i64 (r1.1.2.2.2.2.2.2.2.2.2.2.2.2.1+r1.1.2.1)) yV y_ zi (zu++[t15])) none))) (some (((),(),0),(zu,zi)))
def E9.c9(k:Nat)(t1:List Int)(yV:zI)(y_:BC)(zi:List za):Option ((Unit×Unit×Int)×(List Int)×(List za)):=
 E9.AL k k t1 0 y_.2.1 yV y_ zi []
def E9(k:Nat)(t0:zI)(t1:List Int)(t2:BC):Option ((Unit×Unit×Int)×(List Int)×(List za)):=
 (cond (decide (t2.2.1<0)) (some true) (some (decide (t2.2.2.1<(-1))))).bind fun b4=>cond b4 (some (((),(),1),([],[]))) (cond (decide (t2.2.2.1≥0)) ((OO k t0.1 t1 t2.2.2.1).bind fun r5=>cond (r5.1.2.2 !=0) (some (((),(),r5.1.2.2),([],[]))) (E9.c9 k t1 t0 t2 r5.2)) (E9.c9 k t1 t0 t2 []))
def Im.l6(k:Nat):Nat→(List Int)→Int→Int→zI→(List za)→(List zM)→(List Int)→Option ((Unit×Int)×(List zM))
 |0,_,_,_,_,_,_,_=>none
 |n+1,t1,t30,t31,yV,y_,zi,zu=>
  cond (decide (t31<t30)) ((gU zu t31).bind fun y1=>(Dm k yV t1 y1 y_).bind fun r2=>cond (r2.1.2.2 !=0) (some (((),r2.1.2.2),[])) (cond (lim (List.length zi+List.length r2.2)) ((Im.l6 k n) t1 t30 (IntKind.wrap .i64 (t31+1)) yV y_ (zi++r2.2) zu) none)) (some (((),0),zi))
def Im(k:Nat)(t0:zI)(t1:List Int)(t2:BC):Option ((Unit×Int)×(List zM)):=
 (E9 k t0 t1 t2).bind fun r3=>cond (r3.1.2.2 !=0) (some (((),r3.1.2.2),[])) (Im.l6 k k t1 (List.length r3.2.1:Int) 0 t0 r3.2.2 [] r3.2.1)
def O3(k:Nat)(t0:zI)(t1:zM):Option Bool:=
 (Az k t1.1 0 t0.2.1).bind fun r1=>(cond (!r1) (some true) ((Az k t1.2.1 0 t0.2.2.1).bind fun r2=>some (!r2))).bind fun b3=>cond b3 (some false) (cond (t1.2.1==t0.2.2.1) ((F3 k t0.1 t1.2.2.1).bind fun r4=>some r4) (some ((t1.2.2.1.1==0)&&(iY t1.2.2.1.2.1 zn&&true))))
def IC.l2(k:Nat):Nat→(List zM)→(List zM)→Int→Int→zI→Option Bool
 |0,_,_,_,_,_=>none
 |n+1,t1,t7,t8,t9,yV=>
  cond (decide (t9<t8)) ((gU t7 t9).bind fun y1=>(O3 k yV y1).bind fun r2=>cond (!r2) (some false) ((IC.l2 k n) t1 t7 t8 (IntKind.wrap .i64 (t9+1)) yV)) (some (decide ((List.length t1:Int)≤2000)))
def IC(k:Nat)(t0:zI)(t1:List zM):Option Bool:=
 IC.l2 k k t1 t1 (List.length t1:Int) 0 t0
def OV(k:Nat)(t0:List ze)(t1:Int)(t2:List zM):Option Bool:=
 (LJ k t0 t1).bind fun r1=>(cond r1.2 ((IC k r1.1 t2).bind fun r2=>some (r2)) (some false)).bind fun b3=>(cond b3 ((cond ((List.length t2:Int)==0) (some true) ((gU t2 0).bind fun y4=>some (y4.1==0))).bind fun b5=>some (b5)) (some false)).bind fun b6=>some b6
def Iz.l3(k:Nat):Nat→Int→(List Bf)→Int→Int→Option (Int×Bool)
 |0,_,_,_,_=>none
 |n+1,t4,t12,t13,t14=>
  cond (decide (t14<t13)) ((gU t12 t14).bind fun y1=>(Ei k y1.1).bind fun r2=>cond (r2 !=t4) (some (0,false)) ((Iz.l3 k n) t4 t12 t13 (IntKind.wrap .i64 (t14+1)))) (some (t4,decide (t4≤200)))
def Iz(k:Nat)(t0:List Bf):Option (Int×Bool):=
 (gU t0 0).bind fun y3=>(Ei k y3.1).bind fun r4=>Iz.l3 k k r4 t0 (List.length t0:Int) 0
def GK.l3(k:Nat):Nat→Int→Int→(List Int)→(List Int)→Option (Unit×(List Int))
 |0,_,_,_,_=>none
 |n+1,t11,t12,yV,y_=>
  cond (decide (t12<t11)) ((gU y_ t12).bind fun y1=>(gU yV y1).bind fun y2=>(gU yV y1).bind fun y3=>(GK.l3 k n) t11 (IntKind.wrap .i64 (t12+1)) (List.set yV (Int.toNat y1) t12) y_) (some ((),yV))
def GK(k:Nat)(t0:List ze):Option (Unit×(List Int)):=
 cond (oV (List.length t0:Int)) ((Em k t0).bind fun r4=>GK.l3 k k (List.length r4.2:Int) 0 (List.replicate (Int.toNat (List.length t0:Int)) 0) r4.2) none
def Iy.l1(k:Nat):Nat→Int→zG→(List Int)→(List za)→zM→Option ((zM×Bool)×zG×(List Int)×(List za))
 |0,_,_,_,_,_=>none
 |n+1,t1,o0,zl,zJ,yV=>
  (gU o0.1 t1).bind fun y1=>cond (y1.2.1==7) ((Iy.l1 k n) (IntKind.wrap .i64 (t1+1)) o0 zl zJ yV) ((gU o0.2.2.1 t1).bind fun y2=>(gU zl y2).bind fun y3=>(gU o0.2.1 y2).bind fun y4=>cond (y3==(List.length y4.1:Int)) (some (((0,0,(0,zn,()),()),false),(o0,zl,zJ))) ((gU o0.2.1 y2).bind fun y5=>(gU zl y2).bind fun y6=>(gU y5.1 y6).bind fun y7=>some ((y7,true),(o0,zl,zJ))))
def Iy(k:Nat)(t1:Int)(o0:zG)(zl:List Int)(zJ:List za):Option ((zM×Bool)×zG×(List Int)×(List za)):=
 Iy.l1 k k t1 o0 zl zJ (0,0,(0,zn,()),())
def Nc(k:Nat)(t1:Int)(t2:Int)(t3:Int)(o0:zG)(zl:List Int)(zJ:List za):Option ((za)×zG×(List Int)×(List za)):=
 (Iy k t1 o0 zl zJ).bind fun r1=>(cond r1.2.1.2.2.2.2.2.1 (some true) (some (!r1.1.2))).bind fun b2=>(cond b2 (some true) (some (r1.1.1.1 !=t2))).bind fun b3=>(cond b3 (some true) (some (r1.1.1.2.1 !=t3))).bind fun b4=>cond b4 (some ((0,zn,()),((r1.2.1.1,r1.2.1.2.1,r1.2.1.2.2.1,(),(),true,r1.2.1.2.2.2.2.2.2.1,()),r1.2.2.1,r1.2.2.2))) ((gU r1.2.1.2.2.1 t1).bind fun y5=>(gU r1.2.2.1 y5).bind fun y6=>(gU r1.2.2.1 y5).bind fun y7=>(gU r1.2.2.1 y5).bind fun y8=>some (r1.1.1.2.2.1,(r1.2.1,List.set r1.2.2.1 (Int.toNat y5) (IntKind.wrap .i64 (y6+1)),r1.2.2.2)))
def DN.c4(k:Nat)(L3:Int→Int→Int→Int→zG→(List Int)→(List za)→Option (Int×zG×(List Int)×(List za)))(t2:Int)(t3:Int)(t9:Int)(t10:Int)(o0:zG)(zl:List Int)(zJ:List za):Option (Int×zG×(List Int)×(List za)):=
 L3 t2 t3 t9 (IntKind.wrap .i64 (t10+1)) o0 zl zJ
def DN.l3(k:Nat):Nat→Int→Int→Int→Int→zG→(List Int)→(List za)→Option (Int×zG×(List Int)×(List za))
 |0,_,_,_,_,_,_,_=>none
 |n+1,t2,t3,t9,t10,o0,zl,zJ=>
  cond (decide (t10<t9)) ((gU o0.1 t10).bind fun y1=>cond (y1.2.1 !=7) ((Nc k t10 t2 t3 o0 zl zJ).bind fun r2=>DN.c4 k (DN.l3 k n) t2 t3 t9 t10 r2.2.1 r2.2.2.1 r2.2.2.2) (DN.c4 k (DN.l3 k n) t2 t3 t9 t10 o0 zl zJ)) (some (t9,(o0,zl,zJ)))
def DN(k:Nat)(t1:Int)(t2:Int)(t3:Int)(o0:zG)(zl:List Int)(zJ:List za):Option (Int×zG×(List Int)×(List za)):=
 (Bb k o0.1 t1 1).bind fun r3=>DN.l3 k k t2 t3 r3 t1 o0 zl zJ
def zW.c11(k:Nat)(t12:Int)(o0:zG)(zl:List Int)(yV:List za):Option (Int×zG×(List Int)×(List za)):=
 some (t12,(o0,zl,yV))
def zW.l7(k:Nat)(Fu:Int→Int→Int→Int→zG→(List Int)→(List za)→Option (Int×zG×(List Int)×(List za))):Nat→Int→Int→Int→Int→Int→Int→zG→(List Int)→(List za)→Option (Int×zG×(List Int)×(List za))
 |0,_,_,_,_,_,_,_,_,_=>none
 |n+1,t2,t3,t4,t12,t48,t49,o0,zl,yV=>
  cond (decide (t49<t48)) (cond o0.2.2.2.2.2.1 (zW.c11 k t12 o0 zl yV) ((Fu t12 t2 t3 t4 o0 zl yV).bind fun r1=>(zW.l7 k Fu n) t2 t3 t4 r1.1 t48 (IntKind.wrap .i64 (t49+1)) r1.2.1 r1.2.2.1 r1.2.2.2)) (zW.c11 k t12 o0 zl yV)
def zW.b(k:Nat)(DF:Int→Int→Int→Int→zG→(List Int)→(List za)→Option (Int×zG×(List Int)×(List za)))(Fu:Int→Int→Int→Int→zG→(List Int)→(List za)→Option (Int×zG×(List Int)×(List za)))(Fx:Int→Int→Int→Int→zG→(List Int)→(List za)→Option (Int×zG×(List Int)×(List za)))(t1:Int)(t2:Int)(t3:Int)(t4:Int)(o0:zG)(zl:List Int)(zJ:List za):Option (Int×zG×(List Int)×(List za)):=
 (gU o0.1 t1).bind fun y2=>cond (y2.2.1 !=7) ((Nc k t1 t2 t3 o0 zl zJ).bind fun r3=>cond (lim (List.length r3.2.2.2+List.length [r3.1])) (some (IntKind.wrap .i64 (t1+1),(r3.2.1,r3.2.2.1,r3.2.2.2++[r3.1]))) none) ((gU o0.1 t1).bind fun y4=>zW.l7 k Fu k t2 t3 t4 (IntKind.wrap .i64 (t1+1)) y4.2.2.2.1 0 o0 zl zJ)
def CW.c15(k:Nat)(t1:Int)(t13:Int)(t14:Int)(o0:zG)(zl:List Int)(yV:List za):Option (Int×zG×(List Int)×(List za)):=
 (gU yV t13).bind fun y1=>(gU yV t13).bind fun y2=>(cond o0.2.2.2.2.2.2.1 (some true) (some (decide (t14>20)))).bind fun b3=>(Bb k o0.1 t1 1).bind fun r4=>some (r4,((o0.1,o0.2.1,o0.2.2.1,(),(),o0.2.2.2.2.2.1,b3,()),zl,List.set yV (Int.toNat t13) (t14,y2.2.1,())))
def CW.c6(k:Nat)(DF:Int→Int→Int→Int→zG→(List Int)→(List za)→Option (Int×zG×(List Int)×(List za)))(Fx:Int→Int→Int→Int→zG→(List Int)→(List za)→Option (Int×zG×(List Int)×(List za)))(t1:Int)(t2:Int)(t3:Int)(t4:Int)(o0:zG)(zl:List Int)(zJ:List za)(yV:zM):Option (Int×zG×(List Int)×(List za)):=
 cond (lim (List.length zJ+List.length ([(0,zn,())]:List za))) (cond (decide (yV.2.1≤t3)) ((DN k t1 t2 t3 o0 zl (zJ++[(0,zn,())])).bind fun r5=>some (r5.1,(r5.2.1,r5.2.2.1,r5.2.2.2))) ((gU o0.1 t1).bind fun y6=>cond (y6.2.2.1==2) ((Fx t1 t2 (IntKind.wrap .i64 (t3+1)) (IntKind.wrap .i64 (t4+1)) o0 zl (zJ++[(0,zn,())])).bind fun r7=>CW.c15 k t1 (List.length zJ:Int) (IntKind.wrap .i64 (1+r7.1)) r7.2.1 r7.2.2.1 r7.2.2.2) ((DF t1 t2 (IntKind.wrap .i64 (t3+1)) t4 o0 zl (zJ++[(0,zn,())])).bind fun r8=>CW.c15 k t1 (List.length zJ:Int) 1 r8.2.1 r8.2.2.1 r8.2.2.2))) none
def CW.b(k:Nat)(DF:Int→Int→Int→Int→zG→(List Int)→(List za)→Option (Int×zG×(List Int)×(List za)))(Fu:Int→Int→Int→Int→zG→(List Int)→(List za)→Option (Int×zG×(List Int)×(List za)))(Fx:Int→Int→Int→Int→zG→(List Int)→(List za)→Option (Int×zG×(List Int)×(List za)))(t1:Int)(t2:Int)(t3:Int)(t4:Int)(o0:zG)(zl:List Int)(zJ:List za):Option (Int×zG×(List Int)×(List za)):=
 (gU o0.1 t1).bind fun y9=>cond (y9.2.2.1==0) ((DF t1 t2 t3 t4 o0 zl zJ).bind fun zU=>some (zU.1,(zU.2.1,zU.2.2.1,zU.2.2.2))) ((Iy k t1 o0 zl zJ).bind fun Av=>cond (!Av.1.2) (CW.c6 k DF Fx t1 t2 t3 t4 (Av.2.1.1,Av.2.1.2.1,Av.2.1.2.2.1,(),(),true,Av.2.1.2.2.2.2.2.2.1,()) Av.2.2.1 Av.2.2.2 Av.1.1) (CW.c6 k DF Fx t1 t2 t3 t4 Av.2.1 Av.2.2.1 Av.2.2.2 Av.1.1))
def Dc.l4(k:Nat)(DF:Int→Int→Int→Int→zG→(List Int)→(List za)→Option (Int×zG×(List Int)×(List za))):Nat→Int→Int→Int→Int→zG→(List Int)→(List za)→Option (Int×zG×(List Int)×(List za))
 |0,_,_,_,_,_,_,_=>none
 |n+1,t1,t3,t4,t11,o0,zl,yV=>
  (Iy k t1 o0 zl yV).bind fun r1=>(cond r1.2.1.2.2.2.2.2.1 (some true) (some (!r1.1.2))).bind fun b2=>(cond b2 (some true) (some (r1.1.1.1 !=t4))).bind fun b3=>cond b3 (some (t11,(r1.2.1,r1.2.2.1,r1.2.2.2))) ((DF t1 t4 t3 t4 r1.2.1 r1.2.2.1 r1.2.2.2).bind fun r4=>(Dc.l4 k DF n) t1 t3 t4 (IntKind.wrap .i64 (t11+1)) r4.2.1 r4.2.2.1 r4.2.2.2)
def Dc.b(k:Nat)(DF:Int→Int→Int→Int→zG→(List Int)→(List za)→Option (Int×zG×(List Int)×(List za)))(Fu:Int→Int→Int→Int→zG→(List Int)→(List za)→Option (Int×zG×(List Int)×(List za)))(Fx:Int→Int→Int→Int→zG→(List Int)→(List za)→Option (Int×zG×(List Int)×(List za)))(t1:Int)(t2:Int)(t3:Int)(t4:Int)(o0:zG)(zl:List Int)(zJ:List za):Option (Int×zG×(List Int)×(List za)):=
 (DF t1 t2 t3 t4 o0 zl zJ).bind fun r5=>Dc.l4 k DF k t1 t3 t4 0 r5.2.1 r5.2.2.1 r5.2.2.2
def zW.rec(k:Nat):Nat→(Int→Int→Int→Int→zG→(List Int)→(List za)→Option (Int×zG×(List Int)×(List za)))×(Int→Int→Int→Int→zG→(List Int)→(List za)→Option (Int×zG×(List Int)×(List za)))×(Int→Int→Int→Int→zG→(List Int)→(List za)→Option (Int×zG×(List Int)×(List za)))
 |0=>(fun _ _ _ _ _ _ _=>none,fun _ _ _ _ _ _ _=>none,fun _ _ _ _ _ _ _=>none)
 |d+1=>(zW.b k ((zW.rec k d).1) ((zW.rec k d).2.1) ((zW.rec k d).2.2),CW.b k ((zW.rec k d).1) ((zW.rec k d).2.1) ((zW.rec k d).2.2),Dc.b k ((zW.rec k d).1) ((zW.rec k d).2.1) ((zW.rec k d).2.2))
def zW.d(k d:Nat):Int→Int→Int→Int→zG→(List Int)→(List za)→Option (Int×zG×(List Int)×(List za)):=(zW.rec k d).1
def zW(k:Nat):Int→Int→Int→Int→zG→(List Int)→(List za)→Option (Int×zG×(List Int)×(List za)):=zW.d k k
def CW.d(k d:Nat):Int→Int→Int→Int→zG→(List Int)→(List za)→Option (Int×zG×(List Int)×(List za)):=(zW.rec k d).2.1
def CW(k:Nat):Int→Int→Int→Int→zG→(List Int)→(List za)→Option (Int×zG×(List Int)×(List za)):=CW.d k k
def Dc.d(k d:Nat):Int→Int→Int→Int→zG→(List Int)→(List za)→Option (Int×zG×(List Int)×(List za)):=(zW.rec k d).2.2
def Dc(k:Nat):Int→Int→Int→Int→zG→(List Int)→(List za)→Option (Int×zG×(List Int)×(List za)):=Dc.d k k
def Hg.l2(k:Nat):Nat→(List Bf)→Int→Int→zG→(List Int)→Option (Bool×zG×(List Int))
 |0,_,_,_,_,_=>none
 |n+1,t8,t9,t10,o0,zl=>
  cond (decide (t10<t9)) ((gU t8 t10).bind fun y1=>(gU zl t10).bind fun y2=>cond (y2 !=(List.length y1.1:Int)) (some (false,(o0,zl))) ((Hg.l2 k n) t8 t9 (IntKind.wrap .i64 (t10+1)) o0 zl)) (some (true,(o0,zl)))
def Hg(k:Nat)(o0:zG)(zl:List Int):Option (Bool×zG×(List Int)):=
 Hg.l2 k k o0.2.1 (List.length o0.2.1:Int) 0 o0 zl
def Cr.BX(k:Nat):Nat→Int→Int→zG→(List Aw)→(List Int)→Option ((Unit×Int)×(List Aw))
 |0,_,_,_,_,_=>none
 |n+1,t8,t12,yV,y_,zi=>
  (cond (decide (t12<t8)) (some (!yV.2.2.2.2.2.1)) (some false)).bind fun b1=>cond b1 ((zW k 0 0 0 0 yV zi []).bind fun r2=>(cond r2.2.1.2.2.2.2.2.2.1 (some true) (some (decide ((List.length r2.2.2.2:Int)>300)))).bind fun b3=>cond (lim (List.length y_+List.length [(r2.2.2.2,())])) ((Cr.BX k n) t8 (IntKind.wrap .i64 (t12+1)) (r2.2.1.1,r2.2.1.2.1,r2.2.1.2.2.1,(),(),r2.2.1.2.2.2.2.2.1,b3,()) (y_++[(r2.2.2.2,())]) r2.2.2.1) none) (cond yV.2.2.2.2.2.1 (cond true (some (((),3),[])) (cond yV.2.2.2.2.2.2.1 (some (((),4),[])) (some (((),0),y_)))) ((Hg k yV zi).bind fun r4=>cond (!r4.1) (some (((),3),[])) (cond r4.2.1.2.2.2.2.2.2.1 (some (((),4),[])) (some (((),0),y_)))))
def Cr.d12(k:Nat)(t0:List ze)(t1:List Bf)(t8:Int):Option ((Unit×Int)×(List Aw)):=
 (GK k t0).bind fun r5=>cond (oV (List.length t1:Int)) (Cr.BX k k t8 0 (t0,t1,r5.2,(),(),false,false,()) [] (List.replicate (Int.toNat (List.length t1:Int)) 0)) none
def Cr.l4(k:Nat):Nat→(List ze)→(List Bf)→(List Bf)→Int→Int→Option ((Unit×Int)×(List Aw))
 |0,_,_,_,_,_=>none
 |n+1,t0,t1,t24,t25,t26=>
  cond (decide (t26<t25)) ((gU t24 t26).bind fun y8=>(OV k t0 t26 y8.1).bind fun r9=>cond (!r9) (some (((),1),[])) ((Cr.l4 k n) t0 t1 t24 t25 (IntKind.wrap .i64 (t26+1)))) ((Iz k t1).bind fun zU=>cond (!zU.2) (some (((),2),[])) (Cr.d12 k t0 t1 zU.1))
def Cr(k:Nat)(t0:List ze)(t1:List Bf):Option ((Unit×Int)×(List Aw)):=
 (Ex k t0).bind fun Av=>(cond (!Av) (some true) ((Em k t0).bind fun Ad=>some ((List.length t1:Int) !=(List.length Ad.2:Int)))).bind fun b13=>cond b13 (some (((),1),[])) (Cr.l4 k k t0 t1 t1 (List.length t1:Int) 0)
def Iu.l4(k:Nat):Nat→(List Int)→Int→Int→(List BC)→Int→Int→DI→(List Bf)→Option ((Unit×Int×Int)×(List Aw))
 |0,_,_,_,_,_,_,_,_=>none
 |n+1,t0,t2,t10,t28,t29,t30,yV,y_=>
  cond (decide (t30<t29)) ((gU t28 t30).bind fun y1=>(LJ k yV.1 t30).bind fun r2=>(Im k r2.1 t0 y1).bind fun r3=>cond (r3.1.2 !=0) (some (((),0,4),[])) ((E9 k r2.1 t0 y1).bind fun r4=>cond (lim (List.length y_+List.length [(r3.2,())])) ((Iu.l4 k n) t0 t2 (IntKind.wrap .i64 (t10+(List.length r4.2.1:Int))) t28 t29 (IntKind.wrap .i64 (t30+1)) yV (y_++[(r3.2,())])) none)) ((Cr k yV.1 y_).bind fun r5=>(cond (r5.1.2 !=0) (some true) ((gU yV.2.2.1 t2).bind fun y6=>some ((List.length r5.2:Int) !=y6.1))).bind fun b7=>cond b7 (some (((),0,5),[])) (some (((),t10,0),r5.2)))
def Iu(k:Nat)(t0:List Int)(t1:DI)(t2:Int):Option ((Unit×Int×Int)×(List Aw)):=
 (gU t1.2.2.1 t2).bind fun y8=>Iu.l4 k k t0 t2 0 y8.2.1 (List.length y8.2.1:Int) 0 t1 []
def He.l6(k:Nat):Nat→(List Int)→Int→Int→(Unit×Int×Unit×Unit)→(List Aw)→(List ze)→(List Ar)→Option ((Unit×Unit×Int)×(List ze)×(List Aw))
 |0,_,_,_,_,_,_,_=>none
 |n+1,t0,t23,t24,yV,y_,zi,zu=>
  cond (decide (t24<t23)) ((Iu k t0 (zi,yV.2.1,zu,()) t24).bind fun r1=>cond (r1.1.2.2 !=0) (some (((),(),r1.1.2.2),([],[]))) (cond (lim (List.length y_+List.length r1.2)) ((He.l6 k n) t0 t23 (IntKind.wrap .i64 (t24+1)) yV (y_++r1.2) zi zu) none)) (some (((),(),0),(zi,y_)))
def He(k:Nat)(t0:List Int):Option ((Unit×Unit×Int)×(List ze)×(List Aw)):=
 (OP k t0).bind fun r2=>cond (r2.1.2 !=0) (some (((),(),r2.1.2),([],[]))) (He.l6 k k t0 (List.length r2.2.2:Int) 0 r2.1.1 [] r2.2.1 r2.2.2)
def L9(k:Nat)(t0:ze)(t1:ze):Option Bool:=
 cond (!iY t0.1 t1.1) (some false) (cond (t0.2.1 !=t1.2.1) (some false) (cond (t0.2.2.1 !=t1.2.2.1) (some false) (cond (t0.2.2.2.1 !=t1.2.2.2.1) (some false) (some true))))
def GN.l4(k:Nat):Nat→(List ze)→(List ze)→Int→Option Bool
 |0,_,_,_=>none
 |n+1,t0,t1,t5=>
  cond (decide (t5<(List.length t0:Int))) ((gU t0 t5).bind fun y1=>(gU t1 t5).bind fun y2=>(L9 k y1 y2).bind fun r3=>cond (!r3) (some false) ((GN.l4 k n) t0 t1 (IntKind.wrap .i64 (t5+1)))) (some true)
def GN(k:Nat)(t0:List ze)(t1:List ze):Option Bool:=
 cond ((List.length t0:Int) !=(List.length t1:Int)) (some false) (GN.l4 k k t0 t1 0)
def Ma(k:Nat)(t0:za)(t1:za):Option Bool:=
 cond (t0.1 !=t1.1) (some false) (cond (!iY t0.2.1 t1.2.1) (some false) (some true))
def IG.l4(k:Nat):Nat→(List za)→(List za)→Int→Option Bool
 |0,_,_,_=>none
 |n+1,t0,t1,t5=>
  cond (decide (t5<(List.length t0:Int))) ((gU t0 t5).bind fun y1=>(gU t1 t5).bind fun y2=>(Ma k y1 y2).bind fun r3=>cond (!r3) (some false) ((IG.l4 k n) t0 t1 (IntKind.wrap .i64 (t5+1)))) (some true)
def IG(k:Nat)(t0:List za)(t1:List za):Option Bool:=
 cond ((List.length t0:Int) !=(List.length t1:Int)) (some false) (IG.l4 k k t0 t1 0)
def L_(k:Nat)(t0:Aw)(t1:Aw):Option Bool:=
 (IG k t0.1 t1.1).bind fun r1=>cond (!r1) (some false) (some true)
def GQ.l4(k:Nat):Nat→(List Aw)→(List Aw)→Int→Option Bool
 |0,_,_,_=>none
 |n+1,t0,t1,t5=>
  cond (decide (t5<(List.length t0:Int))) ((gU t0 t5).bind fun y1=>(gU t1 t5).bind fun y2=>(L_ k y1 y2).bind fun r3=>cond (!r3) (some false) ((GQ.l4 k n) t0 t1 (IntKind.wrap .i64 (t5+1)))) (some true)
def GQ(k:Nat)(t0:List Aw)(t1:List Aw):Option Bool:=
 cond ((List.length t0:Int) !=(List.length t1:Int)) (some false) (GQ.l4 k k t0 t1 0)
def Fe.l4(k:Nat):Nat→Int→ByteArray→Option ByteArray
 |0,_,_=>none
 |n+1,t0,t3=>
  cond (decide (t0>0)) (cond (lim ((wY [IntKind.wrap .u8 (IntKind.wrap .i64 (48+(Int.tmod t0 10)))]).size+t3.size)) ((Fe.l4 k n) (IntKind.wrap .i64 (Int.tdiv t0 10)) ((wY [IntKind.wrap .u8 (IntKind.wrap .i64 (48+(Int.tmod t0 10)))])++t3)) none) (cond (lim ((⟨#[109]⟩:ByteArray).size+t3.size)) (some ((⟨#[109]⟩:ByteArray)++t3)) none)
def Fe(k:Nat)(t0:Int):Option ByteArray:=
 cond (decide (t0≤0)) (some (⟨#[109,48]⟩:ByteArray)) (Fe.l4 k k t0 zn)
def IJ.l2(k:Nat):Nat→Int→Int→(List ze)→Option (Int×(List ze))
 |0,_,_,_=>none
 |n+1,t1,t5,zl=>
  cond (decide (t5<(List.length zl:Int))) ((Fe k t1).bind fun r1=>(gU zl t5).bind fun y2=>(gU zl t5).bind fun y3=>(gU (List.set zl (Int.toNat t5) (r1,y3.2.1,y3.2.2.1,y3.2.2.2.1,())) t5).bind fun y4=>(gU (List.set zl (Int.toNat t5) (r1,y3.2.1,y3.2.2.1,y3.2.2.2.1,())) t5).bind fun y5=>(gU (List.set (List.set zl (Int.toNat t5) (r1,y3.2.1,y3.2.2.1,y3.2.2.2.1,())) (Int.toNat t5) (y5.1,IntKind.wrap .i64 (t1+1),y5.2.2.1,y5.2.2.2.1,())) t5).bind fun y6=>(gU (List.set (List.set zl (Int.toNat t5) (r1,y3.2.1,y3.2.2.1,y3.2.2.2.1,())) (Int.toNat t5) (y5.1,IntKind.wrap .i64 (t1+1),y5.2.2.1,y5.2.2.2.1,())) t5).bind fun y7=>(gU (List.set (List.set (List.set zl (Int.toNat t5) (r1,y3.2.1,y3.2.2.1,y3.2.2.2.1,())) (Int.toNat t5) (y5.1,IntKind.wrap .i64 (t1+1),y5.2.2.1,y5.2.2.2.1,())) (Int.toNat t5) (y7.1,y7.2.1,IntKind.wrap .i64 ((IntKind.wrap .i64 (t1+1))+1),y7.2.2.2.1,())) t5).bind fun y8=>(gU (List.set (List.set (List.set zl (Int.toNat t5) (r1,y3.2.1,y3.2.2.1,y3.2.2.2.1,())) (Int.toNat t5) (y5.1,IntKind.wrap .i64 (t1+1),y5.2.2.1,y5.2.2.2.1,())) (Int.toNat t5) (y7.1,y7.2.1,IntKind.wrap .i64 ((IntKind.wrap .i64 (t1+1))+1),y7.2.2.2.1,())) t5).bind fun y9=>(IJ.l2 k n) (IntKind.wrap .i64 ((IntKind.wrap .i64 ((IntKind.wrap .i64 ((IntKind.wrap .i64 (t1+1))+1))+1))+1)) (IntKind.wrap .i64 (t5+1)) (List.set (List.set (List.set (List.set zl (Int.toNat t5) (r1,y3.2.1,y3.2.2.1,y3.2.2.2.1,())) (Int.toNat t5) (y5.1,IntKind.wrap .i64 (t1+1),y5.2.2.1,y5.2.2.2.1,())) (Int.toNat t5) (y7.1,y7.2.1,IntKind.wrap .i64 ((IntKind.wrap .i64 (t1+1))+1),y7.2.2.2.1,())) (Int.toNat t5) (y9.1,y9.2.1,y9.2.2.1,IntKind.wrap .i64 ((IntKind.wrap .i64 ((IntKind.wrap .i64 (t1+1))+1))+1),()))) (some (t1,zl))
def IJ(k:Nat)(t1:Int)(zl:List ze):Option (Int×(List ze)):=
 IJ.l2 k k t1 0 zl
def IL.l2(k:Nat):Nat→Int→Int→(List za)→Option (Int×(List za))
 |0,_,_,_=>none
 |n+1,t1,t5,zl=>
  cond (decide (t5<(List.length zl:Int))) ((gU zl t5).bind fun y1=>(gU zl t5).bind fun y2=>(Fe k (IntKind.wrap .i64 (t1+1))).bind fun r3=>(gU (List.set zl (Int.toNat t5) (t1,y2.2.1,())) t5).bind fun y4=>(gU (List.set zl (Int.toNat t5) (t1,y2.2.1,())) t5).bind fun y5=>(IL.l2 k n) (IntKind.wrap .i64 ((IntKind.wrap .i64 (t1+1))+1)) (IntKind.wrap .i64 (t5+1)) (List.set (List.set zl (Int.toNat t5) (t1,y2.2.1,())) (Int.toNat t5) (y5.1,r3,()))) (some (t1,zl))
def IL(k:Nat)(t1:Int)(zl:List za):Option (Int×(List za)):=
 IL.l2 k k t1 0 zl
def IK.l2(k:Nat):Nat→Int→Int→(List Aw)→Option (Int×(List Aw))
 |0,_,_,_=>none
 |n+1,t1,t5,zl=>
  cond (decide (t5<(List.length zl:Int))) ((gU zl t5).bind fun y1=>(IL k t1 y1.1).bind fun r2=>(gU zl t5).bind fun y3=>(IK.l2 k n) r2.1 (IntKind.wrap .i64 (t5+1)) (List.set zl (Int.toNat t5) (r2.2,()))) (some (t1,zl))
def IK(k:Nat)(t1:Int)(zl:List Aw):Option (Int×(List Aw)):=
 IK.l2 k k t1 0 zl
def Fb.d4(k:Nat)(L2:(List ze)→Int→Int→Option Int)(t0:List ze)(t1:Int)(t5:Int):Option Int:=
 (gU t0 t5).bind fun y1=>(Fe k t1).bind fun r2=>cond (!iY y1.1 r2) (some (-1)) ((gU t0 t5).bind fun y3=>cond (y3.2.1 !=(IntKind.wrap .i64 (t1+1))) (some (-1)) ((gU t0 t5).bind fun y4=>cond (y4.2.2.1 !=(IntKind.wrap .i64 ((IntKind.wrap .i64 (t1+1))+1))) (some (-1)) ((gU t0 t5).bind fun y5=>cond (y5.2.2.2.1 !=(IntKind.wrap .i64 ((IntKind.wrap .i64 ((IntKind.wrap .i64 (t1+1))+1))+1))) (some (-1)) (L2 t0 (IntKind.wrap .i64 ((IntKind.wrap .i64 ((IntKind.wrap .i64 ((IntKind.wrap .i64 (t1+1))+1))+1))+1)) (IntKind.wrap .i64 (t5+1))))))
def Fb.l2(k:Nat):Nat→(List ze)→Int→Int→Option Int
 |0,_,_,_=>none
 |n+1,t0,t1,t5=>
  cond (decide (t5<(List.length t0:Int))) (Fb.d4 k (Fb.l2 k n) t0 t1 t5) (some t1)
def Fb(k:Nat)(t0:List ze)(t1:Int):Option Int:=
 Fb.l2 k k t0 t1 0
def FF.d7(k:Nat)(L2:(List za)→Int→Int→Option Int)(t0:List za)(t1:Int)(t5:Int):Option Int:=
 (gU t0 t5).bind fun y1=>(Fe k t1).bind fun r2=>cond (!iY y1.2.1 r2) (some (-1)) (L2 t0 (IntKind.wrap .i64 (t1+1)) (IntKind.wrap .i64 (t5+1)))
def FF.l2(k:Nat):Nat→(List za)→Int→Int→Option Int
 |0,_,_,_=>none
 |n+1,t0,t1,t5=>
  cond (decide (t5<(List.length t0:Int))) ((gU t0 t5).bind fun y7=>cond (y7.1 !=t1) (some (-1)) (FF.d7 k (FF.l2 k n) t0 (IntKind.wrap .i64 (t1+1)) t5)) (some t1)
def FF(k:Nat)(t0:List za)(t1:Int):Option Int:=
 FF.l2 k k t0 t1 0
def Hu.l2(k:Nat):Nat→(List Aw)→Int→Int→Option Int
 |0,_,_,_=>none
 |n+1,t0,t1,t5=>
  cond (decide (t5<(List.length t0:Int))) ((gU t0 t5).bind fun y1=>(FF k y1.1 t1).bind fun r2=>cond (decide (r2<0)) (some (-1)) ((Hu.l2 k n) t0 r2 (IntKind.wrap .i64 (t5+1)))) (some t1)
def Hu(k:Nat)(t0:List Aw)(t1:Int):Option Int:=
 Hu.l2 k k t0 t1 0
def Qz(k:Nat)(t0:List Int):Option Bool:=
 cond (decide ((List.length t0:Int)>1048576)) (some true) ((Gs k t0).bind fun r1=>(IZ k r1.2).bind fun r2=>(Gs k t0).bind fun r3=>(He k r3.2).bind fun r4=>(GN k r4.2.1 r2.2.1).bind fun r5=>(cond (!r5) (some true) ((GQ k r4.2.2 r2.2.2).bind fun r6=>some (!r6))).bind fun b7=>(cond b7 (some true) (some (r4.1.2.2 !=r2.1.2.2))).bind fun b8=>cond b8 (some false) ((Gs k t0).bind fun r9=>(IE k r3.2 r9.2).bind fun zU=>cond (!zU) (some false) ((II k 1 r3.2).bind fun Av=>(cond (decide (Av.1<0)) (some true) ((GN k r4.2.1 r2.2.1).bind fun Ad=>some (!Ad))).bind fun b13=>(cond b13 (some true) ((GQ k r4.2.2 r2.2.2).bind fun AB=>some (!AB))).bind fun b15=>(cond b15 (some true) (some (r4.1.2.2 !=r2.1.2.2))).bind fun b16=>cond b16 (some false) ((IJ k 1 r4.2.1).bind fun Ch=>(IK k Ch.1 r4.2.2).bind fun DR=>(Fb k Ch.2 1).bind fun CY=>cond (decide (CY<0)) (some false) ((Hu k DR.2 CY).bind fun ED=>cond (decide (ED<0)) (some false) (cond (ED !=DR.1) (some false) ((Gs k t0).bind fun QJ=>(He k QJ.2).bind fun Nv=>(GN k Nv.2.1 r2.2.1).bind fun r23=>(cond (!r23) (some true) ((GQ k Nv.2.2 r2.2.2).bind fun Kl=>some (!Kl))).bind fun J4=>(cond J4 (some true) (some (Nv.1.2.2 !=r2.1.2.2))).bind fun MP=>cond MP (some false) ((Fb k Ch.2 1).bind fun TU=>cond (decide (TU<0)) (some false) ((Hu k DR.2 TU).bind fun Pm=>cond (decide (Pm<0)) (some false) (cond (Pm !=DR.1) (some false) (some true)))))))))))
end Go.Fn
