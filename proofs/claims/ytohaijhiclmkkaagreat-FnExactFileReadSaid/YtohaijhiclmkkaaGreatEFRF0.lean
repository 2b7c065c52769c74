/- the claim's functions as plain Lean -/
import Derived.Test.YtohaijhiclmkkaaGreatAmStep
namespace Go
abbrev zn:ByteArray:=⟨#[]⟩
end Go
set_option linter.unusedVariables false
namespace Go.Fn
open Go.Am
abbrev Cb:=Unit×Bool×Unit
abbrev zI:=Int×Int×Int×Unit
abbrev za:=Int×ByteArray×Unit
abbrev Du:=Unit×Int×Bool×Unit
abbrev ze:=ByteArray×Int×Int×Int×Unit
abbrev zB:=(List Int)×Int×Unit×Int×Unit
abbrev D6:=(List Int)×Int×Bool×Unit×Unit
abbrev Aw:=(List za)×Unit
abbrev zf:=Int×Int×Int×ByteArray×Int×Unit
abbrev zM:=Int×Int×za×Unit
abbrev am6:=(List Int)×Int×Bool×(List Int)×Unit
abbrev BC:=Int×Int×Int×Int×Int×(List Int)×Unit
abbrev am8:=Int×Int×za×Int×Int×Unit
abbrev Bf:=(List zM)×Unit
abbrev zF:=(List zf)×Unit×Unit
abbrev Ar:=Int×(List BC)×Unit
abbrev am_:=(List zf)×(List Int)×Unit
abbrev DJ:=Int×Bool×za×za×Unit
abbrev ana:=(List Int)×Int×(List zf)×Int×Unit
abbrev UX:=Bool×DJ×Unit
abbrev anb:=(List ze)×(List za)×Bool×Unit×Unit×Unit
abbrev am9:=Int×(List UX)×(List Int)×Unit
abbrev DI:=(List ze)×Int×(List Ar)×Unit
abbrev zP:=Int×Int×Int×Int×Int×Int×Int×Int×Bool×Int×Bool×DJ×Int×Unit
abbrev zG:=(List ze)×(List Bf)×(List Int)×Unit×Unit×Bool×Bool×Unit
abbrev am7:=(List ze)×(List Bf)×(List Int)×(List Int)×(List za)×Bool×Bool×Unit
def Gs.l3(k:Nat):Nat→(List Int)→Int→(List Int)→Option (Unit×(List Int))
 |0,_,_,_=>none
 |n+1,t0,t4,yV=>
  cond (decide (t4<(List.length t0:Int))) ((gU t0 t4).bind fun y1=>(gU yV t4).bind fun y2=>(gU yV t4).bind fun y3=>(Gs.l3 k n) t0 (IntKind.wrap .i64 (t4+1)) (List.set yV (Int.toNat t4) y1)) (some ((),yV))
def Gs(k:Nat)(t0:List Int):Option (Unit×(List Int)):=
 cond (oV (List.length t0:Int)) (Gs.l3 k k t0 0 (List.replicate (Int.toNat (List.length t0:Int)) 0)) none
def IE.l4(k:Nat):Nat→(List Int)→(List Int)→Int→Option Bool
 |0,_,_,_=>none
 |n+1,t0,t1,t5=>
  cond (decide (t5<(List.length t0:Int))) ((gU t0 t5).bind fun y1=>(gU t1 t5).bind fun y2=>cond (y1 !=y2) (some false) ((IE.l4 k n) t0 t1 (IntKind.wrap .i64 (t5+1)))) (some true)
def IE(k:Nat)(t0:List Int)(t1:List Int):Option Bool:=
 cond ((List.length t0:Int) !=(List.length t1:Int)) (some false) (IE.l4 k k t0 t1 0)
def II.l2(k:Nat):Nat→Int→Int→(List Int)→Option (Int×(List Int))
 |0,_,_,_=>none
 |n+1,t1,t5,zl=>
  cond (decide (t5<(List.length zl:Int))) ((gU zl t5).bind fun y1=>(gU zl t5).bind fun y2=>(II.l2 k n) (IntKind.wrap .i64 (t1+1)) (IntKind.wrap .i64 (t5+1)) (List.set zl (Int.toNat t5) (IntKind.wrap .u8 t1))) (some (t1,zl))
def II(k:Nat)(t1:Int)(zl:List Int):Option (Int×(List Int)):=
 II.l2 k k t1 0 zl
def A8(k:Nat)(t0:Int)(t1:Int)(t2:Int):Option Bool:=
 (cond (decide (t0≥t1)) (some (decide (t0≤t2))) (some false)).bind fun b1=>some b1
def Ec.l5(k:Nat):Nat→(List Int)→Int→Int→Int→Int→Option (Int×Int×Bool)
 |0,_,_,_,_,_=>none
 |n+1,t0,t1,t2,t9,t10=>
  cond (decide (t10<t2)) ((gU t0 (IntKind.wrap .i64 (t1+t10))).bind fun y1=>cond (decide (0≤(IntKind.wrap .i64 (8*t10)))) ((Ec.l5 k n) t0 t1 t2 (bits .or .i64 t9 (pz .i64 (IntKind.wrap .i64 y1) (IntKind.wrap .i64 (8*t10)))) (IntKind.wrap .i64 (t10+1))) none) (some (t9,IntKind.wrap .i64 (t1+t2),true))
def Ec(k:Nat)(t0:List Int)(t1:Int)(t2:Int):Option (Int×Int×Bool):=
 (A8 k t2 1 8).bind fun r2=>(cond (!r2) (some true) (some (decide (t1<0)))).bind fun b3=>(cond b3 (some true) (some (decide (t1>(List.length t0:Int))))).bind fun b4=>(cond b4 (some true) (some (decide ((IntKind.wrap .i64 ((List.length t0:Int)-t1))<t2)))).bind fun b5=>cond b5 (some (0,0,false)) (Ec.l5 k k t0 t1 t2 0 0)
def DZ.l5(k:Nat):Nat→(List Int)→Int→Int→Int→Option (Int×Int×Bool)
 |0,_,_,_,_=>none
 |n+1,t0,t1,t7,t8=>
  (cond (decide (t8<10)) (some (decide ((IntKind.wrap .i64 (t1+t8))<(List.length t0:Int)))) (some false)).bind fun b1=>cond b1 ((gU t0 (IntKind.wrap .i64 (t1+t8))).bind fun y2=>cond (decide (0≤(IntKind.wrap .i64 (7*t8)))) (cond (decide ((IntKind.wrap .i64 y2)<128)) ((cond (t8==9) (some (decide ((IntKind.wrap .i64 y2)>1))) (some false)).bind fun b3=>cond b3 (some (0,0,false)) (some (bits .or .i64 t7 (pz .i64 (bits .and .i64 (IntKind.wrap .i64 y2) 127) (IntKind.wrap .i64 (7*t8))),IntKind.wrap .i64 ((IntKind.wrap .i64 (t1+t8))+1),true))) ((DZ.l5 k n) t0 t1 (bits .or .i64 t7 (pz .i64 (bits .and .i64 (IntKind.wrap .i64 y2) 127) (IntKind.wrap .i64 (7*t8)))) (IntKind.wrap .i64 (t8+1)))) none) (some (0,0,false))
def DZ(k:Nat)(t0:List Int)(t1:Int):Option (Int×Int×Bool):=
 (cond (decide (t1<0)) (some true) (some (decide (t1≥(List.length t0:Int))))).bind fun b4=>cond b4 (some (0,0,false)) (DZ.l5 k k t0 t1 0 0)
def JP(k:Nat)(t0:Int)(t1:Int):Option Int:=
 cond (t1==0) (some t0) (cond (decide (0≤t1)) (cond (decide (0≤(IntKind.wrap .i64 (64-t1)))) (some (bits .and .i64 (pE .i64 t0 t1) (IntKind.wrap .i64 ((pz .i64 1 (IntKind.wrap .i64 (64-t1)))-1)))) none) none)
def Pw(k:Nat)(t0:Int):Option Int:=
 cond ((bits .and .i64 t0 1)==1) ((JP k t0 1).bind fun r1=>some (bits .xor .i64 (-1) r1)) ((JP k t0 1).bind fun r2=>some r2)
def Jp(k:Nat)(t0:List Int)(t1:Int):Option (Int×Int×Bool):=
 (DZ k t0 t1).bind fun r1=>cond (!r1.2.2) (some (0,0,false)) ((Pw k r1.1).bind fun r2=>some (r2,r1.2.1,true))
def K5(k:Nat)(t0:Int):Option Bool:=
 (A8 k t0 (-2147483648) 2147483647).bind fun r1=>some r1
def PC(k:Nat)(t0:List Int)(t1:Int):Option (ByteArray×Int×Int):=
 (DZ k t0 t1).bind fun r1=>cond (!r1.2.2) (some (zn,0,1)) ((cond (decide (r1.1<0)) (some true) (some (decide (r1.1>300)))).bind fun b2=>cond b2 (some (zn,0,4)) (cond (decide ((IntKind.wrap .i64 ((List.length t0:Int)-r1.2.1))<r1.1)) (some (zn,0,1)) (cond (jg r1.2.1 (IntKind.wrap .i64 (r1.2.1+r1.1)) (List.length t0)) (some (wY (kV t0 r1.2.1 (IntKind.wrap .i64 (r1.2.1+r1.1))),IntKind.wrap .i64 (r1.2.1+r1.1),0)) none)))
def Gc.c9(k:Nat)(t4:Bool):Option Bool:=
 cond t4 (some true) (some false)
def Gc(k:Nat)(t0:Int):Option Bool:=
 cond (t0==1) (Gc.c9 k (t0==1)) (cond (t0==2) (Gc.c9 k (t0==2)) (cond (t0==5) (Gc.c9 k (t0==5)) (cond (t0==6) (Gc.c9 k (t0==6)) (cond (t0==8) (Gc.c9 k (t0==8)) (cond (t0==9) (Gc.c9 k (t0==9)) (Gc.c9 k (t0==12)))))))
def NG(k:Nat)(t0:Int):Option Bool:=
 (Gc k t0).bind fun r1=>(cond r1 (some (t0 !=1)) (some false)).bind fun b2=>(cond b2 (some (t0 !=2)) (some false)).bind fun b3=>some b3
def Jr.c11(k:Nat)(t1:Int)(t8:Int)(t9:Int):Option (Int×Int×Int×Int):=
 cond (t8==0) (some (0,0,t1,0)) ((NG k t9).bind fun r1=>cond (!r1) (some (0,0,0,2)) ((cond (decide (t8<0)) (some true) (some (decide (t8>1500)))).bind fun b2=>cond b2 (some (0,0,0,4)) (some (t8,t9,t1,0))))
def Jr(k:Nat)(t0:List Int)(t1:Int):Option (Int×Int×Int×Int):=
 cond (decide (t1≥(List.length t0:Int))) (some (0,0,0,1)) ((gU t0 t1).bind fun y3=>(gU t0 t1).bind fun y4=>cond ((IntKind.wrap .i64 (Int.tdiv (IntKind.wrap .i64 y3) 16))==15) ((DZ k t0 (IntKind.wrap .i64 (t1+1))).bind fun r5=>cond (!r5.2.2) (some (0,0,0,1)) (Jr.c11 k r5.2.1 r5.1 (Int.tmod (IntKind.wrap .i64 y4) 16))) (Jr.c11 k (IntKind.wrap .i64 (t1+1)) (IntKind.wrap .i64 (Int.tdiv (IntKind.wrap .i64 y3) 16)) (Int.tmod (IntKind.wrap .i64 y4) 16)))
def Jq.c16(k:Nat)(t1:Int)(t2:Int)(t10:Int)(t12:Int):Option (Int×Int×Int×Int):=
 (A8 k t12 1 1000).bind fun r1=>cond (!r1) (some (0,0,0,3)) (cond (decide (t12≤t2)) (some (0,0,0,5)) (some (t10,t12,t1,0)))
def Jq(k:Nat)(t0:List Int)(t1:Int)(t2:Int):Option (Int×Int×Int×Int):=
 cond (decide (t1≥(List.length t0:Int))) (some (0,0,0,1)) ((gU t0 t1).bind fun y2=>(gU t0 t1).bind fun y3=>(gU t0 t1).bind fun y4=>cond (y4==0) (some (0,0,IntKind.wrap .i64 (t1+1),0)) ((Gc k (Int.tmod (IntKind.wrap .i64 y2) 16)).bind fun r5=>cond (!r5) (some (0,0,0,2)) (cond ((IntKind.wrap .i64 (Int.tdiv (IntKind.wrap .i64 y3) 16))==0) ((Jp k t0 (IntKind.wrap .i64 (t1+1))).bind fun r6=>cond (!r6.2.2) (some (0,0,0,1)) (Jq.c16 k r6.2.1 t2 (Int.tmod (IntKind.wrap .i64 y2) 16) r6.1)) (Jq.c16 k (IntKind.wrap .i64 (t1+1)) t2 (Int.tmod (IntKind.wrap .i64 y2) 16) (IntKind.wrap .i64 (t2+(IntKind.wrap .i64 (Int.tdiv (IntKind.wrap .i64 y3) 16))))))))
def AJ.Ea(k:Nat)(EW:(List Int)→Int→Int→Int→Int→(List zf)→Option ((Unit×Int×Int)×(List zf))):Nat→(List Int)→Int→Int→Int→Int→Int→Int→(List zf)→Option ((Unit×Int×Int)×(List zf))
 |0,_,_,_,_,_,_,_,_=>none
 |n+1,t0,t4,t22,t23,t24,t25,t26,yV=>
  (cond (decide (t26<t22)) (some (t25==0)) (some false)).bind fun b1=>cond b1 ((EW t0 t24 t23 0 (IntKind.wrap .i64 (t4+1)) yV).bind fun r2=>(AJ.Ea k EW n) t0 t4 t22 t23 r2.1.2.1 r2.1.2.2 (IntKind.wrap .i64 (t26+1)) r2.2) (some (((),t24,t25),yV))
def AJ.LY(k:Nat)(EW:(List Int)→Int→Int→Int→Int→(List zf)→Option ((Unit×Int×Int)×(List zf))):Nat→(List Int)→Int→Int→Int→Int→Int→(List zf)→Option ((Unit×Int×Int)×(List zf))
 |0,_,_,_,_,_,_,_=>none
 |n+1,t0,t1,t4,t15,t27,t28,yV=>
  (Jq k t0 t1 t27).bind fun r3=>cond (r3.2.2.2 !=0) (some (((),0,r3.2.2.2),yV)) (cond (r3.1==0) ((gU yV t15).bind fun y4=>(gU yV t15).bind fun y5=>some (((),r3.2.2.1,0),List.set yV (Int.toNat t15) (y5.1,y5.2.1,y5.2.2.1,y5.2.2.2.1,t28,()))) ((EW t0 r3.2.2.1 r3.1 r3.2.1 (IntKind.wrap .i64 (t4+1)) yV).bind fun r6=>cond (r6.1.2.2 !=0) (some (((),0,r6.1.2.2),r6.2)) ((AJ.LY k EW n) t0 r6.1.2.1 t4 t15 r3.2.1 (IntKind.wrap .i64 (t28+1)) r6.2)))
def AJ.c8(k:Nat)(EW:(List Int)→Int→Int→Int→Int→(List zf)→Option ((Unit×Int×Int)×(List zf)))(t0:List Int)(t1:Int)(t2:Int)(t4:Int)(t15:Int)(t49:Int)(t50:Bool)(yV:List zf):Option ((Unit×Int×Int)×(List zf)):=
 cond t50 ((Jp k t0 t1).bind fun r7=>cond (!r7.2.2) (some (((),0,1),yV)) ((cond (t2==5) ((K5 k r7.1).bind fun r8=>some (!r8)) (some false)).bind fun b9=>cond b9 (some (((),0,3),yV)) ((gU yV t15).bind fun CU=>(gU yV t15).bind fun C8=>some (((),r7.2.1,0),List.set yV (Int.toNat t15) (C8.1,C8.2.1,r7.1,C8.2.2.2.1,C8.2.2.2.2.1,()))))) (cond (t49==8) ((PC k t0 t1).bind fun Ad=>(gU yV t15).bind fun y13=>(gU yV t15).bind fun Ie=>some (((),Ad.2.1,Ad.2.2),List.set yV (Int.toNat t15) (Ie.1,Ie.2.1,Ie.2.2.1,Ad.1,Ie.2.2.2.2.1,()))) (cond (t49==9) ((Jr k t0 t1).bind fun Ab=>(gU yV t15).bind fun Ig=>(gU yV t15).bind fun Cj=>(gU (List.set yV (Int.toNat t15) (Cj.1,Cj.2.1,Cj.2.2.1,Cj.2.2.2.1,Ab.1,())) t15).bind fun FW=>(gU (List.set yV (Int.toNat t15) (Cj.1,Cj.2.1,Cj.2.2.1,Cj.2.2.2.1,Ab.1,())) t15).bind fun Kw=>AJ.Ea k EW k t0 t4 Ab.1 Ab.2.1 Ab.2.2.1 Ab.2.2.2 0 (List.set (List.set yV (Int.toNat t15) (Cj.1,Cj.2.1,Cj.2.2.1,Cj.2.2.2.1,Ab.1,())) (Int.toNat t15) (Kw.1,Kw.2.1,Ab.2.1,Kw.2.2.2.1,Kw.2.2.2.2.1,()))) (cond (t49==12) (AJ.LY k EW k t0 t1 t4 t15 0 0 yV) (some (((),t1,0),yV)))))
def AJ.b(k:Nat)(EW:(List Int)→Int→Int→Int→Int→(List zf)→Option ((Unit×Int×Int)×(List zf)))(t0:List Int)(t1:Int)(t2:Int)(t3:Int)(t4:Int)(zl:List zf):Option ((Unit×Int×Int)×(List zf)):=
 (cond ((List.length zl:Int)==1500) (some true) (some (decide (t4>12)))).bind fun b20=>cond b20 (some (((),0,4),zl)) (cond (lim (List.length zl+List.length ([(t2,t3,0,zn,0,())]:List zf))) (cond (t2==5) (AJ.c8 k EW t0 t1 t2 t4 (List.length zl:Int) t2 (t2==5) (zl++[(t2,t3,0,zn,0,())])) (AJ.c8 k EW t0 t1 t2 t4 (List.length zl:Int) t2 (t2==6) (zl++[(t2,t3,0,zn,0,())]))) none)
def AJ.rec(k:Nat):Nat→((List Int)→Int→Int→Int→Int→(List zf)→Option ((Unit×Int×Int)×(List zf)))
 |0=>fun _ _ _ _ _ _=>none
 |d+1=>AJ.b k ((AJ.rec k d))
def AJ.d(k d:Nat):(List Int)→Int→Int→Int→Int→(List zf)→Option ((Unit×Int×Int)×(List zf)):=(AJ.rec k d)
def AJ(k:Nat):(List Int)→Int→Int→Int→Int→(List zf)→Option ((Unit×Int×Int)×(List zf)):=AJ.d k k
def Mk(k:Nat)(t0:List Int)(t1:Int):Option ((Unit×Int×Int)×(List zf)):=
 (cond (decide (t1<0)) (some true) (some (decide (t1≥(List.length t0:Int))))).bind fun b1=>cond b1 (some (((),0,1),[])) ((AJ k t0 t1 12 0 1 []).bind fun r2=>cond (r2.1.2.2 !=0) (some (((),0,r2.1.2.2),[])) (some (((),r2.1.2.1,r2.1.2.2),r2.2)))
def FQ.c7(k:Nat)(t4:Bool):Option Bool:=
 cond t4 (some true) (some false)
def FQ(k:Nat)(t0:Int):Option Bool:=
 cond (t0==0) (FQ.c7 k (t0==0)) (cond (t0==1) (FQ.c7 k (t0==1)) (cond (t0==2) (FQ.c7 k (t0==2)) (cond (t0==5) (FQ.c7 k (t0==5)) (FQ.c7 k (t0==6)))))
def I7.l4(k:Nat):Nat→ByteArray→Int→Option Bool
 |0,_,_=>none
 |n+1,t0,t3=>
  cond (decide (t3<(t0.size:Int))) ((nC t0 t3).bind fun y1=>(cond (decide (y1<97)) (some true) ((nC t0 t3).bind fun y2=>some (decide (y2>122)))).bind fun b3=>cond b3 (some false) ((I7.l4 k n) t0 (IntKind.wrap .i64 (t3+1)))) (some true)
def I7(k:Nat)(t0:ByteArray):Option Bool:=
 (A8 k (t0.size:Int) 1 20).bind fun r4=>cond (!r4) (some false) (I7.l4 k k t0 0)
def B_.D_(k:Nat)(Gy:(List ze)→Int→Int→Option Int)(KF:(List ze)→Int→Int→Int→ze→(List ByteArray)→Option Int):Nat→(List ze)→Int→Int→Int→Int→ze→(List ByteArray)→Option Int
 |0,_,_,_,_,_,_,_=>none
 |n+1,t0,t2,t8,t10,t11,yV,y_=>
  cond (decide (t11<(List.length y_:Int))) ((gU y_ t11).bind fun y1=>(gU t0 t8).bind fun y2=>cond (iY y1 y2.1) (some (-1)) ((B_.D_ k Gy KF n) t0 t2 t8 t10 (IntKind.wrap .i64 (t11+1)) yV y_)) ((gU t0 t8).bind fun y3=>cond (lim (List.length y_+List.length [y3.1])) ((Gy t0 t8 (IntKind.wrap .i64 (t2+1))).bind fun r4=>cond (decide (r4<0)) (some (-1)) (KF t0 t2 r4 (IntKind.wrap .i64 (t10+1)) yV (y_++[y3.1]))) none)
def B_.BX(k:Nat)(Gy:(List ze)→Int→Int→Option Int):Nat→(List ze)→Int→Int→Int→ze→(List ByteArray)→Option Int
 |0,_,_,_,_,_,_=>none
 |n+1,t0,t2,t8,t10,yV,y_=>
  cond (decide (t10<yV.2.2.2.1)) (cond (decide (t8≥(List.length t0:Int))) (some (-1)) (B_.D_ k Gy (B_.BX k Gy n) k t0 t2 t8 t10 0 yV y_)) (some t8)
def B_.b(k:Nat)(Gy:(List ze)→Int→Int→Option Int)(t0:List ze)(t1:Int)(t2:Int):Option Int:=
 (cond (decide (t1≥(List.length t0:Int))) (some true) (some (decide (t2>6)))).bind fun b5=>cond b5 (some (-1)) ((gU t0 t1).bind fun y6=>(cond (t1==0) ((cond (!iY y6.1 zn) (some true) (some (y6.2.2.1 !=0))).bind fun b7=>(cond b7 (some true) (some (y6.2.1 !=7))).bind fun b8=>some (b8)) (some false)).bind fun b9=>(cond b9 (some true) ((cond (decide (t1>0)) ((I7 k y6.1).bind fun zU=>some (!zU)) (some false)).bind fun b11=>some (b11))).bind fun b12=>(cond b12 (some true) ((A8 k y6.2.2.1 0 2).bind fun Ay=>some (!Ay))).bind fun b14=>cond b14 (some (-1)) (cond (y6.2.1 !=7) ((FQ k y6.2.1).bind fun Ab=>(cond (!Ab) (some true) (some (y6.2.2.2.1 !=0))).bind fun b16=>cond b16 (some (-1)) (some (IntKind.wrap .i64 (t1+1)))) (cond (decide (y6.2.2.2.1<1)) (some (-1)) (B_.BX k Gy k t0 t2 (IntKind.wrap .i64 (t1+1)) 0 y6 []))))
def B_.rec(k:Nat):Nat→((List ze)→Int→Int→Option Int)
 |0=>fun _ _ _=>none
 |d+1=>B_.b k ((B_.rec k d))
def B_.d(k d:Nat):(List ze)→Int→Int→Option Int:=(B_.rec k d)
def B_(k:Nat):(List ze)→Int→Int→Option Int:=B_.d k k
def Eb(k:Nat)(t0:List ze):Option Bool:=
 (A8 k (List.length t0:Int) 2 20).bind fun r1=>(cond r1 ((B_ k t0 0 1).bind fun r2=>some (r2==(List.length t0:Int))) (some false)).bind fun b3=>some b3
def Dh.c4(k:Nat)(L3:(List ze)→Int→(List Int)→Option (Unit×(List Int)))(t0:List ze)(t4:Int)(yV:List Int):Option (Unit×(List Int)):=
 L3 t0 (IntKind.wrap .i64 (t4+1)) yV
def Dh.l3(k:Nat):Nat→(List ze)→Int→(List Int)→Option (Unit×(List Int))
 |0,_,_,_=>none
 |n+1,t0,t4,yV=>
  cond (decide (t4<(List.length t0:Int))) ((gU t0 t4).bind fun y1=>cond (y1.2.1 !=7) (cond (lim (List.length yV+List.length [t4])) (Dh.c4 k (Dh.l3 k n) t0 t4 (yV++[t4])) none) (Dh.c4 k (Dh.l3 k n) t0 t4 yV)) (some ((),yV))
def Dh(k:Nat)(t0:List ze):Option (Unit×(List Int)):=
 Dh.l3 k k t0 0 []
def JO(k:Nat)(t0:List ze):Option (Unit×(List Int)):=
 (Eb k t0).bind fun r1=>cond (!r1) (some ((),[])) ((Dh k t0).bind fun r2=>some ((),r2.2))
def EM.d6(k:Nat)(L4:Int→BC→Option Bool)(t5:Int)(yV:BC):Option Bool:=
 (gU yV.2.2.2.2.2.1 t5).bind fun y1=>(A8 k y1 0 9).bind fun r2=>cond (!r2) (cond true (some false) (L4 (IntKind.wrap .i64 (t5+1)) yV)) (cond (decide (t5>0)) ((gU yV.2.2.2.2.2.1 (IntKind.wrap .i64 (t5-1))).bind fun y3=>(gU yV.2.2.2.2.2.1 t5).bind fun y4=>cond (decide (y3≥y4)) (some false) (L4 (IntKind.wrap .i64 (t5+1)) yV)) (cond false (some false) (L4 (IntKind.wrap .i64 (t5+1)) yV)))
def EM.l4(k:Nat):Nat→Int→BC→Option Bool
 |0,_,_=>none
 |n+1,t5,yV=>
  cond (decide (t5<(List.length yV.2.2.2.2.2.1:Int))) (EM.d6 k (EM.l4 k n) t5 yV) (some true)
def EM(k:Nat)(t0:BC)(t1:Int):Option Bool:=
 (cond (t0.1 !=t1) (some true) ((A8 k t0.2.1 0 60000).bind fun r9=>some (!r9))).bind fun b10=>(cond b10 (some true) ((A8 k t0.2.2.1 (-1) 60000).bind fun Av=>some (!Av))).bind fun b12=>(cond b12 (some true) ((A8 k t0.2.2.2.1 1 2000).bind fun Ay=>some (!Ay))).bind fun b14=>(cond b14 (some true) ((A8 k t0.2.2.2.2.1 0 60000).bind fun Ab=>some (!Ab))).bind fun b16=>(cond b16 (some true) ((A8 k (List.length t0.2.2.2.2.2.1:Int) 1 5).bind fun Ch=>some (!Ch))).bind fun b18=>cond b18 (some false) (EM.l4 k k 0 t0)
def CR.A_(k:Nat)(L6:Int→Int→DI→(List Int)→Option Bool):Nat→Int→Int→Int→DI→(List Int)→Ar→Option Bool
 |0,_,_,_,_,_,_=>none
 |n+1,t4,t5,t7,yV,y_,zi=>
  cond (decide (t7<(List.length zi.2.1:Int))) ((gU zi.2.1 t7).bind fun y1=>(EM k y1 t7).bind fun r2=>cond (!r2) (some false) ((CR.A_ k L6 n) t4 t5 (IntKind.wrap .i64 (t7+1)) yV y_ zi)) (L6 t4 (IntKind.wrap .i64 (t5+1)) yV y_)
def CR.l6(k:Nat):Nat→Int→Int→DI→(List Int)→Option Bool
 |0,_,_,_,_=>none
 |n+1,t4,t5,yV,y_=>
  cond (decide (t5<(List.length yV.2.2.1:Int))) ((gU yV.2.2.1 t5).bind fun y3=>(A8 k y3.1 1 200).bind fun r4=>(cond (!r4) (some true) (some ((List.length y3.2.1:Int) !=(List.length y_:Int)))).bind fun b5=>cond b5 (some false) (CR.A_ k (CR.l6 k n) k (IntKind.wrap .i64 (t4+y3.1)) t5 0 yV y_ y3)) (some (t4==yV.2.1))
def CR(k:Nat)(t0:DI):Option Bool:=
 (JO k t0.1).bind fun r6=>(Eb k t0.1).bind fun r7=>(cond (!r7) (some true) (some (decide ((List.length t0.2.2.1:Int)>40)))).bind fun b8=>(cond b8 (some true) ((A8 k t0.2.1 0 200).bind fun r9=>some (!r9))).bind fun b10=>cond b10 (some false) (CR.l6 k k 0 0 t0 r6.2)
def Dr.l3(k:Nat)(JW:(List zf)→Int→Option Int):Nat→(List zf)→Int→Int→Int→Option Int
 |0,_,_,_,_=>none
 |n+1,t0,t1,t5,t6=>
  (gU t0 t1).bind fun y1=>cond (decide (t6<y1.2.2.2.2.1)) ((JW t0 t5).bind fun r2=>(Dr.l3 k JW n) t0 t1 r2 (IntKind.wrap .i64 (t6+1))) (some t5)
def Dr.b(k:Nat)(JW:(List zf)→Int→Option Int)(t0:List zf)(t1:Int):Option Int:=
 Dr.l3 k JW k t0 t1 (IntKind.wrap .i64 (t1+1)) 0
def Dr.rec(k:Nat):Nat→((List zf)→Int→Option Int)
 |0=>fun _ _=>none
 |d+1=>Dr.b k ((Dr.rec k d))
def Dr.d(k d:Nat):(List zf)→Int→Option Int:=(Dr.rec k d)
def Dr(k:Nat):(List zf)→Int→Option Int:=Dr.d k k
def CF.l5(k:Nat):Nat→(List zf)→Int→Int→Int→Int→Option Int
 |0,_,_,_,_,_=>none
 |n+1,t0,t1,t2,t7,t8=>
  (gU t0 t1).bind fun y1=>cond (decide (t8<y1.2.2.2.2.1)) ((gU t0 t7).bind fun y2=>cond (y2.2.1==t2) (some t7) ((Dr k t0 t7).bind fun r3=>(CF.l5 k n) t0 t1 t2 r3 (IntKind.wrap .i64 (t8+1)))) (some (-1))
def CF(k:Nat)(t0:List zf)(t1:Int)(t2:Int):Option Int:=
 (gU t0 t1).bind fun y4=>cond (y4.1 !=12) (some (-1)) (CF.l5 k k t0 t1 t2 (IntKind.wrap .i64 (t1+1)) 0)
def GZ(k:Nat)(t0:List zf)(t1:Int)(t2:Int):Option (Int×Bool):=
 (CF k t0 t1 t2).bind fun r1=>(cond (decide (r1<0)) (some true) ((gU t0 r1).bind fun y2=>(cond (y2.1 !=5) ((gU t0 r1).bind fun y3=>some (y3.1 !=6)) (some false)).bind fun b4=>some (b4))).bind fun b5=>cond b5 (some (0,false)) ((gU t0 r1).bind fun y6=>some (y6.2.2.1,true))
def JQ.c4(k:Nat)(t4:Int)(t5:Bool)(yV:zf):Option Bool:=
 cond t5 ((cond (yV.2.2.1==0) (some (iY yV.2.2.2.1 zn)) (some false)).bind fun b1=>(cond b1 (some (yV.2.2.2.2.1==0)) (some false)).bind fun b2=>some b2) (cond (t4==5) ((K5 k yV.2.2.1).bind fun r3=>(cond r3 (some (iY yV.2.2.2.1 zn)) (some false)).bind fun b4=>(cond b4 (some (yV.2.2.2.2.1==0)) (some false)).bind fun b5=>some b5) (cond (t4==6) ((cond (iY yV.2.2.2.1 zn) (some (yV.2.2.2.2.1==0)) (some false)).bind fun b6=>some b6) (cond (t4==8) ((cond (yV.2.2.1==0) (some (decide ((yV.2.2.2.1.size:Int)≤300))) (some false)).bind fun b7=>(cond b7 (some (yV.2.2.2.2.1==0)) (some false)).bind fun b8=>some b8) (cond (t4==9) ((cond (iY yV.2.2.2.1 zn) (some (decide (yV.2.2.2.2.1≥0))) (some false)).bind fun b9=>(cond b9 ((cond (yV.2.2.2.2.1==0) (some (yV.2.2.1==0)) (some false)).bind fun b10=>(cond b10 (some true) ((cond (decide (yV.2.2.2.2.1>0)) ((NG k yV.2.2.1).bind fun Av=>some (Av)) (some false)).bind fun b12=>some (b12))).bind fun b13=>some (b13)) (some false)).bind fun b14=>some b14) (cond (t4==12) ((cond (yV.2.2.1==0) (some (iY yV.2.2.2.1 zn)) (some false)).bind fun b15=>(cond b15 (some (decide (yV.2.2.2.2.1≥0))) (some false)).bind fun b16=>some b16) (some false))))))
def JQ(k:Nat)(t0:zf):Option Bool:=
 cond (t0.1==1) (JQ.c4 k t0.1 (t0.1==1) t0) (JQ.c4 k t0.1 (t0.1==2) t0)
def Ck.l7(k:Nat)(JZ:(List zf)→Int→Int→Option Int):Nat→(List zf)→Int→Int→Int→Int→zf→Option Int
 |0,_,_,_,_,_,_=>none
 |n+1,t0,t2,t8,t9,t10,yV=>
  cond (decide (t10<yV.2.2.2.2.1)) (cond (decide (t8≥(List.length t0:Int))) (some (-1)) ((gU t0 t8).bind fun y1=>(cond (yV.1==9) ((cond (y1.1 !=yV.2.2.1) (some true) (some (y1.2.1 !=0))).bind fun b2=>some (b2)) (some false)).bind fun b3=>(cond b3 (some true) ((cond (yV.1==12) ((cond (decide (y1.2.1≤t9)) (some true) (some (decide (y1.2.1>1000)))).bind fun b4=>some (b4)) (some false)).bind fun b5=>some (b5))).bind fun b6=>cond b6 (some (-1)) ((JZ t0 t8 (IntKind.wrap .i64 (t2+1))).bind fun r7=>cond (decide (r7<0)) (some (-1)) ((Ck.l7 k JZ n) t0 t2 r7 y1.2.1 (IntKind.wrap .i64 (t10+1)) yV)))) (some t8)
def Ck.b(k:Nat)(JZ:(List zf)→Int→Int→Option Int)(t0:List zf)(t1:Int)(t2:Int):Option Int:=
 (cond (decide (t1≥(List.length t0:Int))) (some true) (some (decide (t2>12)))).bind fun b8=>(cond b8 (some true) ((gU t0 t1).bind fun y9=>(JQ k y9).bind fun zU=>some (!zU))).bind fun b11=>cond b11 (some (-1)) ((gU t0 t1).bind fun Dy=>Ck.l7 k JZ k t0 t2 (IntKind.wrap .i64 (t1+1)) 0 0 Dy)
def Ck.rec(k:Nat):Nat→((List zf)→Int→Int→Option Int)
 |0=>fun _ _ _=>none
 |d+1=>Ck.b k ((Ck.rec k d))
def Ck.d(k d:Nat):(List zf)→Int→Int→Option Int:=(Ck.rec k d)
def Ck(k:Nat):(List zf)→Int→Int→Option Int:=Ck.d k k
def K4(k:Nat)(t0:List zf):Option Bool:=
 (A8 k (List.length t0:Int) 1 1500).bind fun r1=>(cond (!r1) (some true) ((gU t0 0).bind fun y2=>some (y2.1 !=12))).bind fun b3=>(cond b3 (some true) ((gU t0 0).bind fun y4=>some (y4.2.1 !=0))).bind fun b5=>cond b5 (some false) ((Ck k t0 0 1).bind fun r6=>some (r6==(List.length t0:Int)))
def Kr(k:Nat)(t0:List zf)(t1:Int)(t2:Int):Option (ByteArray×Bool):=
 (CF k t0 t1 t2).bind fun r1=>(cond (decide (r1<0)) (some true) ((gU t0 r1).bind fun y2=>some (y2.1 !=8))).bind fun b3=>cond b3 (some (zn,false)) ((gU t0 r1).bind fun y4=>some (y4.2.2.2.1,true))
def Gd.c12(k:Nat)(t0:List zf)(t1:Int)(t9:Bool)(t11:Bool)(t13:Bool)(t15:Bool)(yV:ze)(y_:ze):Option (ze×Bool):=
 (cond t9 (some (t15)) (some false)).bind fun b1=>(cond b1 (some (!(t11==t13))) (some false)).bind fun b2=>(cond b2 ((cond t11 (some true) ((CF k t0 t1 1).bind fun r3=>some (decide (r3<0)))).bind fun b4=>some (b4)) (some false)).bind fun b5=>(cond b5 ((cond t13 (some true) ((CF k t0 t1 5).bind fun r6=>some (decide (r6<0)))).bind fun b7=>some (b7)) (some false)).bind fun b8=>some (y_,b8)
def Gd.c9(k:Nat)(t0:List zf)(t1:Int)(t9:Bool)(t11:Bool)(t12:Int)(t13:Bool)(t15:Bool)(yV:ze)(y_:ze):Option (ze×Bool):=
 cond (!t11) (Gd.c12 k t0 t1 t9 t11 t13 t15 yV (y_.1,7,y_.2.2.1,t12,())) (Gd.c12 k t0 t1 t9 t11 t13 t15 yV y_)
def Gd(k:Nat)(t0:List zf)(t1:Int)(t2:Bool):Option (ze×Bool):=
 (Kr k t0 t1 4).bind fun r9=>(GZ k t0 t1 1).bind fun zU=>(GZ k t0 t1 5).bind fun Av=>(GZ k t0 t1 3).bind fun Ad=>cond t2 (Gd.c9 k t0 t1 r9.2 zU.2 Av.1 Av.2 true (zn,0,0,0,()) (r9.1,zU.1,0,0,())) (Gd.c9 k t0 t1 r9.2 zU.2 Av.1 Av.2 Ad.2 (zn,0,0,0,()) (r9.1,zU.1,Ad.1,0,()))
def Gv.l8(k:Nat):Nat→(List zf)→Int→Int→Int→(List ze)→(List ze)→Option ((Unit×Bool)×(List ze))
 |0,_,_,_,_,_,_=>none
 |n+1,t0,t9,t11,t12,yV,y_=>
  (gU t0 t9).bind fun y1=>cond (decide (t12<y1.2.2.2.2.1)) ((Gd k t0 t11 (t12==0)).bind fun r2=>cond (!r2.2) (some (((),false),yV)) (cond (lim (List.length y_+List.length [r2.1])) ((Dr k t0 t11).bind fun r3=>(Gv.l8 k n) t0 t9 r3 (IntKind.wrap .i64 (t12+1)) yV (y_++[r2.1])) none)) ((Eb k y_).bind fun r4=>cond (!r4) (some (((),false),yV)) (some (((),true),y_)))
def Gv(k:Nat)(t0:List zf)(t1:Int)(t2:Int):Option ((Unit×Bool)×(List ze)):=
 (CF k t0 t1 t2).bind fun r5=>(cond (decide (r5<0)) (some true) ((gU t0 r5).bind fun y6=>some (y6.1 !=9))).bind fun b7=>(cond b7 (some true) ((gU t0 r5).bind fun y8=>some (y8.2.2.1 !=12))).bind fun b9=>cond b9 (some (((),false),[])) (Gv.l8 k k t0 r5 (IntKind.wrap .i64 (r5+1)) 0 [] [])
def FO.l7(k:Nat):Nat→(List zf)→Int→Int→Int→(List Int)→Option ((Unit×Bool)×(List Int))
 |0,_,_,_,_,_=>none
 |n+1,t0,t11,t12,t13,yV=>
  (gU t0 t11).bind fun y1=>cond (decide (t13<y1.2.2.2.2.1)) (cond (lim (List.length yV+List.length [t12])) ((Dr k t0 t12).bind fun r2=>(FO.l7 k n) t0 t11 r2 (IntKind.wrap .i64 (t13+1)) (yV++[t12])) none) (some (((),true),yV))
def FO(k:Nat)(t0:List zf)(t1:Int)(t2:Int)(t3:Int):Option ((Unit×Bool)×(List Int)):=
 (CF k t0 t1 t2).bind fun r3=>(cond (decide (r3<0)) (some true) ((gU t0 r3).bind fun y4=>some (y4.1 !=9))).bind fun b5=>(cond b5 (some true) ((gU t0 r3).bind fun y6=>(cond (decide (y6.2.2.2.2.1>0)) ((gU t0 r3).bind fun y7=>some (y7.2.2.1 !=t3)) (some false)).bind fun b8=>some (b8))).bind fun b9=>cond b9 (some (((),false),[])) (FO.l7 k k t0 r3 (IntKind.wrap .i64 (r3+1)) 0 [])
def FN.l3(k:Nat):Nat→(List zf)→Int→(List Int)→Int→(List Int)→Option ((Unit×Bool)×(List Int))
 |0,_,_,_,_,_=>none
 |n+1,t0,t1,t2,t9,yV=>
  cond (decide (t9<(List.length t2:Int))) ((gU t2 t9).bind fun y1=>(GZ k t0 t1 y1).bind fun r2=>cond (!r2.2) (some (((),false),yV)) (cond (lim (List.length yV+List.length [r2.1])) ((FN.l3 k n) t0 t1 t2 (IntKind.wrap .i64 (t9+1)) (yV++[r2.1])) none)) (some (((),true),yV))
def FN(k:Nat)(t0:List zf)(t1:Int)(t2:List Int):Option ((Unit×Bool)×(List Int)):=
 FN.l3 k k t0 t1 t2 0 []
def Da.l3(k:Nat)(JY:(List ze)→Int→Option Int):Nat→(List ze)→Int→Int→Int→Option Int
 |0,_,_,_,_=>none
 |n+1,t0,t1,t5,t6=>
  (gU t0 t1).bind fun y1=>cond (decide (t6<y1.2.2.2.1)) ((JY t0 t5).bind fun r2=>(Da.l3 k JY n) t0 t1 r2 (IntKind.wrap .i64 (t6+1))) (some t5)
def Da.b(k:Nat)(JY:(List ze)→Int→Option Int)(t0:List ze)(t1:Int):Option Int:=
 Da.l3 k JY k t0 t1 (IntKind.wrap .i64 (t1+1)) 0
def Da.rec(k:Nat):Nat→((List ze)→Int→Option Int)
 |0=>fun _ _=>none
 |d+1=>Da.b k ((Da.rec k d))
def Da.d(k d:Nat):(List ze)→Int→Option Int:=(Da.rec k d)
def Da(k:Nat):(List ze)→Int→Option Int:=Da.d k k
def EN.c4(k:Nat)(L3:(List ze)→Int→Int→(List Int)→Option (Unit×(List Int)))(t0:List ze)(t1:Int)(t6:Int)(yV:List Int):Option (Unit×(List Int)):=
 L3 t0 t1 (IntKind.wrap .i64 (t6+1)) yV
def EN.l3(k:Nat):Nat→(List ze)→Int→Int→(List Int)→Option (Unit×(List Int))
 |0,_,_,_,_=>none
 |n+1,t0,t1,t6,yV=>
  cond (decide (t6≤t1)) ((Da k t0 t6).bind fun r1=>cond (decide (r1>t1)) (cond (lim (List.length yV+List.length [t6])) (EN.c4 k (EN.l3 k n) t0 t1 t6 (yV++[t6])) none) (EN.c4 k (EN.l3 k n) t0 t1 t6 yV)) (some ((),yV))
def EN(k:Nat)(t0:List ze)(t1:Int):Option (Unit×(List Int)):=
 EN.l3 k k t0 t1 0 []
def Gu.l7(k:Nat):Nat→(List ze)→Int→(List ByteArray)→(List Int)→Option (Unit×(List ByteArray))
 |0,_,_,_,_=>none
 |n+1,t0,t8,yV,y_=>
  cond (decide (t8<(List.length y_:Int))) ((gU y_ t8).bind fun y1=>(gU t0 y1).bind fun y2=>cond (lim (List.length yV+List.length [y2.1])) ((Gu.l7 k n) t0 (IntKind.wrap .i64 (t8+1)) (yV++[y2.1]) y_) none) (some ((),yV))
def Gu(k:Nat)(t0:List ze)(t1:Int):Option (Unit×(List ByteArray)):=
 (JO k t0).bind fun r3=>(A8 k t1 0 (IntKind.wrap .i64 ((List.length r3.2:Int)-1))).bind fun r4=>cond (!r4) (some ((),[])) ((gU r3.2 t1).bind fun y5=>(EN k t0 y5).bind fun r6=>Gu.l7 k k t0 1 [] r6.2)
def zR.Oh(k:Nat)(yV:Int×Int×Int×Int×Int×Unit×Unit)(y_:Int×Int×Int×Int×Int×Unit×Unit)(zi:List Int)(zu:List Int):Option (((Int×Int×Int×Int×Int×Unit×Unit)×Bool)×(List Int)):=
 some ((y_,true),zu)
def zR.Dp(k:Nat):Nat→(List zf)→Int→Int→(Int×Int×Int×Int×Int×Unit×Unit)→(Int×Int×Int×Int×Int×Unit×Unit)→(List Int)→(Int×Int×Int×Int×Int×Unit×Unit)→(List Int)→(List Int)→(List Int)→Option (((Int×Int×Int×Int×Int×Unit×Unit)×Bool)×(List Int))
 |0,_,_,_,_,_,_,_,_,_,_=>none
 |n+1,t0,t11,t21,yV,y_,zi,zu,zx,zC,zL=>
  cond (decide (t21<(List.length zi:Int))) ((gU zi t21).bind fun y1=>(gU t0 y1).bind fun y2=>cond (lim (List.length zL+List.length [y2.2.2.1])) ((zR.Dp k n) t0 t11 (IntKind.wrap .i64 (t21+1)) yV y_ zi zu zx zC (zL++[y2.2.2.1])) none) ((CF k t0 t11 11).bind fun r3=>cond (decide (r3≥0)) ((GZ k t0 t11 11).bind fun r4=>(cond (!r4.2) (some true) (some (decide (r4.1<0)))).bind fun b5=>cond b5 (some ((y_,false),zC)) (zR.Oh k yV (zu.1,zu.2.1,r4.1,zu.2.2.2.1,zu.2.2.2.2.1,(),()) zx zL)) (zR.Oh k yV zu zx zL))
def zR.zY(k:Nat):Nat→(List zf)→Int→Int→Int→(Int×Int×Int×Int×Int×Unit×Unit)→(Int×Int×Int×Int×Int×Unit×Unit)→(List Int)→(List Int)→(List Int)→(List ByteArray)→(List Int)→(List Int)→Option (((Int×Int×Int×Int×Int×Unit×Unit)×Bool)×(List Int))
 |0,_,_,_,_,_,_,_,_,_,_,_,_=>none
 |n+1,t0,t3,t11,t19,yV,y_,zi,zu,zx,zC,zL,zA=>
  cond (decide (t19<(List.length zx:Int))) ((gU zx t19).bind fun y6=>(gU t0 y6).bind fun y7=>(gU zC t19).bind fun y8=>cond (!iY y7.2.2.2.1 y8) (some ((y_,false),zA)) ((zR.zY k n) t0 t3 t11 (IntKind.wrap .i64 (t19+1)) yV y_ zi zu zx zC zL zA)) ((gU zi 5).bind fun y9=>(gU zi 2).bind fun CU=>(gU zi 3).bind fun C8=>zR.Dp k k t0 t11 0 yV y_ zu (t3,y9,(-1),CU,C8,(),()) zL zA [])
def zR.d9(k:Nat)(t0:List zf)(t2:List ze)(t3:Int)(t11:Int)(t13:Bool)(t15:Bool)(t17:Bool)(yV:Int×Int×Int×Int×Int×Unit×Unit)(y_:Int×Int×Int×Int×Int×Unit×Unit)(zi:List Int)(zu:List Int)(zx:List Int)(zC:List ByteArray)(zL:List Int)(zA:List Int):Option (((Int×Int×Int×Int×Int×Unit×Unit)×Bool)×(List Int)):=
 cond (!t13) (cond true (cond true (cond true (cond true (cond true (cond true (some ((y_,false),zA)) (zR.zY k k t0 t3 t11 0 yV y_ zi zu zx zC zL zA)) ((gU zi 3).bind fun Dy=>(gU zi 4).bind fun y13=>cond (Dy !=y13) (some ((y_,false),zA)) (zR.zY k k t0 t3 t11 0 yV y_ zi zu zx zC zL zA))) ((gU zi 1).bind fun Ie=>cond (Ie !=0) (cond true (some ((y_,false),zA)) (zR.zY k k t0 t3 t11 0 yV y_ zi zu zx zC zL zA)) ((gU zi 3).bind fun Gh=>(gU zi 4).bind fun Ig=>cond (Gh !=Ig) (some ((y_,false),zA)) (zR.zY k k t0 t3 t11 0 yV y_ zi zu zx zC zL zA)))) ((gU zi 0).bind fun Cj=>(Dh k t2).bind fun DR=>(gU DR.2 t3).bind fun Kw=>(gU t2 Kw).bind fun y20=>cond (Cj !=y20.2.1) (cond true (cond true (some ((y_,false),zA)) (zR.zY k k t0 t3 t11 0 yV y_ zi zu zx zC zL zA)) ((gU zi 3).bind fun y21=>(gU zi 4).bind fun y22=>cond (y21 !=y22) (some ((y_,false),zA)) (zR.zY k k t0 t3 t11 0 yV y_ zi zu zx zC zL zA))) ((gU zi 1).bind fun y23=>cond (y23 !=0) (cond true (some ((y_,false),zA)) (zR.zY k k t0 t3 t11 0 yV y_ zi zu zx zC zL zA)) ((gU zi 3).bind fun y24=>(gU zi 4).bind fun y25=>cond (y24 !=y25) (some ((y_,false),zA)) (zR.zY k k t0 t3 t11 0 yV y_ zi zu zx zC zL zA))))) (cond ((List.length zx:Int) !=(List.length zC:Int)) (cond true (cond true (cond true (some ((y_,false),zA)) (zR.zY k k t0 t3 t11 0 yV y_ zi zu zx zC zL zA)) ((gU zi 3).bind fun y26=>(gU zi 4).bind fun y27=>cond (y26 !=y27) (some ((y_,false),zA)) (zR.zY k k t0 t3 t11 0 yV y_ zi zu zx zC zL zA))) ((gU zi 1).bind fun y28=>cond (y28 !=0) (cond true (some ((y_,false),zA)) (zR.zY k k t0 t3 t11 0 yV y_ zi zu zx zC zL zA)) ((gU zi 3).bind fun y29=>(gU zi 4).bind fun PO=>cond (y29 !=PO) (some ((y_,false),zA)) (zR.zY k k t0 t3 t11 0 yV y_ zi zu zx zC zL zA)))) ((gU zi 0).bind fun y31=>(Dh k t2).bind fun r32=>(gU r32.2 t3).bind fun y33=>(gU t2 y33).bind fun y34=>cond (y31 !=y34.2.1) (cond true (cond true (some ((y_,false),zA)) (zR.zY k k t0 t3 t11 0 yV y_ zi zu zx zC zL zA)) ((gU zi 3).bind fun K_=>(gU zi 4).bind fun y36=>cond (K_ !=y36) (some ((y_,false),zA)) (zR.zY k k t0 t3 t11 0 yV y_ zi zu zx zC zL zA))) ((gU zi 1).bind fun y37=>cond (y37 !=0) (cond true (some ((y_,false),zA)) (zR.zY k k t0 t3 t11 0 yV y_ zi zu zx zC zL zA)) ((gU zi 3).bind fun y38=>(gU zi 4).bind fun y39=>cond (y38 !=y39) (some ((y_,false),zA)) (zR.zY k k t0 t3 t11 0 yV y_ zi zu zx zC zL zA)))))) (cond (!t17) (cond true (cond true (cond true (cond true (some ((y_,false),zA)) (zR.zY k k t0 t3 t11 0 yV y_ zi zu zx zC zL zA)) ((gU zi 3).bind fun y40=>(gU zi 4).bind fun y41=>cond (y40 !=y41) (some ((y_,false),zA)) (zR.zY k k t0 t3 t11 0 yV y_ zi zu zx zC zL zA))) ((gU zi 1).bind fun y42=>cond (y42 !=0) (cond true (some ((y_,false),zA)) (zR.zY k k t0 t3 t11 0 yV y_ zi zu zx zC zL zA)) ((gU zi 3).bind fun y43=>(gU zi 4).bind fun y44=>cond (y43 !=y44) (some ((y_,false),zA)) (zR.zY k k t0 t3 t11 0 yV y_ zi zu zx zC zL zA)))) ((gU zi 0).bind fun y45=>(Dh k t2).bind fun r46=>(gU r46.2 t3).bind fun y47=>(gU t2 y47).bind fun y48=>cond (y45 !=y48.2.1) (cond true (cond true (some ((y_,false),zA)) (zR.zY k k t0 t3 t11 0 yV y_ zi zu zx zC zL zA)) ((gU zi 3).bind fun y49=>(gU zi 4).bind fun y50=>cond (y49 !=y50) (some ((y_,false),zA)) (zR.zY k k t0 t3 t11 0 yV y_ zi zu zx zC zL zA))) ((gU zi 1).bind fun y51=>cond (y51 !=0) (cond true (some ((y_,false),zA)) (zR.zY k k t0 t3 t11 0 yV y_ zi zu zx zC zL zA)) ((gU zi 3).bind fun y52=>(gU zi 4).bind fun y53=>cond (y52 !=y53) (some ((y_,false),zA)) (zR.zY k k t0 t3 t11 0 yV y_ zi zu zx zC zL zA))))) (cond ((List.length zx:Int) !=(List.length zC:Int)) (cond true (cond true (cond true (some ((y_,false),zA)) (zR.zY k k t0 t3 t11 0 yV y_ zi zu zx zC zL zA)) ((gU zi 3).bind fun y54=>(gU zi 4).bind fun y55=>cond (y54 !=y55) (some ((y_,false),zA)) (zR.zY k k t0 t3 t11 0 yV y_ zi zu zx zC zL zA))) ((gU zi 1).bind fun y56=>cond (y56 !=0) (cond true (some ((y_,false),zA)) (zR.zY k k t0 t3 t11 0 yV y_ zi zu zx zC zL zA)) ((gU zi 3).bind fun y57=>(gU zi 4).bind fun y58=>cond (y57 !=y58) (some ((y_,false),zA)) (zR.zY k k t0 t3 t11 0 yV y_ zi zu zx zC zL zA)))) ((gU zi 0).bind fun PR=>(Dh k t2).bind fun r60=>(gU r60.2 t3).bind fun I8=>(gU t2 I8).bind fun y62=>cond (PR !=y62.2.1) (cond true (cond true (some ((y_,false),zA)) (zR.zY k k t0 t3 t11 0 yV y_ zi zu zx zC zL zA)) ((gU zi 3).bind fun y63=>(gU zi 4).bind fun y64=>cond (y63 !=y64) (some ((y_,false),zA)) (zR.zY k k t0 t3 t11 0 yV y_ zi zu zx zC zL zA))) ((gU zi 1).bind fun y65=>cond (y65 !=0) (cond true (some ((y_,false),zA)) (zR.zY k k t0 t3 t11 0 yV y_ zi zu zx zC zL zA)) ((gU zi 3).bind fun y66=>(gU zi 4).bind fun MF=>cond (y66 !=MF) (some ((y_,false),zA)) (zR.zY k k t0 t3 t11 0 yV y_ zi zu zx zC zL zA))))))) (cond (!t15) (cond true (cond true (cond true (cond true (cond true (some ((y_,false),zA)) (zR.zY k k t0 t3 t11 0 yV y_ zi zu zx zC zL zA)) ((gU zi 3).bind fun y68=>(gU zi 4).bind fun y69=>cond (y68 !=y69) (some ((y_,false),zA)) (zR.zY k k t0 t3 t11 0 yV y_ zi zu zx zC zL zA))) ((gU zi 1).bind fun y70=>cond (y70 !=0) (cond true (some ((y_,false),zA)) (zR.zY k k t0 t3 t11 0 yV y_ zi zu zx zC zL zA)) ((gU zi 3).bind fun y71=>(gU zi 4).bind fun MG=>cond (y71 !=MG) (some ((y_,false),zA)) (zR.zY k k t0 t3 t11 0 yV y_ zi zu zx zC zL zA)))) ((gU zi 0).bind fun y73=>(Dh k t2).bind fun r74=>(gU r74.2 t3).bind fun Jt=>(gU t2 Jt).bind fun y76=>cond (y73 !=y76.2.1) (cond true (cond true (some ((y_,false),zA)) (zR.zY k k t0 t3 t11 0 yV y_ zi zu zx zC zL zA)) ((gU zi 3).bind fun y77=>(gU zi 4).bind fun y78=>cond (y77 !=y78) (some ((y_,false),zA)) (zR.zY k k t0 t3 t11 0 yV y_ zi zu zx zC zL zA))) ((gU zi 1).bind fun La=>cond (La !=0) (cond true (some ((y_,false),zA)) (zR.zY k k t0 t3 t11 0 yV y_ zi zu zx zC zL zA)) ((gU zi 3).bind fun y80=>(gU zi 4).bind fun Ky=>cond (y80 !=Ky) (some ((y_,false),zA)) (zR.zY k k t0 t3 t11 0 yV y_ zi zu zx zC zL zA))))) (cond ((List.length zx:Int) !=(List.length zC:Int)) (cond true (cond true (cond true (some ((y_,false),zA)) (zR.zY k k t0 t3 t11 0 yV y_ zi zu zx zC zL zA)) ((gU zi 3).bind fun y82=>(gU zi 4).bind fun y83=>cond (y82 !=y83) (some ((y_,false),zA)) (zR.zY k k t0 t3 t11 0 yV y_ zi zu zx zC zL zA))) ((gU zi 1).bind fun PS=>cond (PS !=0) (cond true (some ((y_,false),zA)) (zR.zY k k t0 t3 t11 0 yV y_ zi zu zx zC zL zA)) ((gU zi 3).bind fun y85=>(gU zi 4).bind fun y86=>cond (y85 !=y86) (some ((y_,false),zA)) (zR.zY k k t0 t3 t11 0 yV y_ zi zu zx zC zL zA)))) ((gU zi 0).bind fun y87=>(Dh k t2).bind fun r88=>(gU r88.2 t3).bind fun y89=>(gU t2 y89).bind fun y90=>cond (y87 !=y90.2.1) (cond true (cond true (some ((y_,false),zA)) (zR.zY k k t0 t3 t11 0 yV y_ zi zu zx zC zL zA)) ((gU zi 3).bind fun y91=>(gU zi 4).bind fun y92=>cond (y91 !=y92) (some ((y_,false),zA)) (zR.zY k k t0 t3 t11 0 yV y_ zi zu zx zC zL zA))) ((gU zi 1).bind fun y93=>cond (y93 !=0) (cond true (some ((y_,false),zA)) (zR.zY k k t0 t3 t11 0 yV y_ zi zu zx zC zL zA)) ((gU zi 3).bind fun y94=>(gU zi 4).bind fun y95=>cond (y94 !=y95) (some ((y_,false),zA)) (zR.zY k k t0 t3 t11 0 yV y_ zi zu zx zC zL zA)))))) (cond (!t17) (cond true (cond true (cond true (cond true (some ((y_,false),zA)) (zR.zY k k t0 t3 t11 0 yV y_ zi zu zx zC zL zA)) ((gU zi 3).bind fun y96=>(gU zi 4).bind fun y97=>cond (y96 !=y97) (some ((y_,false),zA)) (zR.zY k k t0 t3 t11 0 yV y_ zi zu zx zC zL zA))) ((gU zi 1).bind fun y98=>cond (y98 !=0) (cond true (some ((y_,false),zA)) (zR.zY k k t0 t3 t11 0 yV y_ zi zu zx zC zL zA)) ((gU zi 3).bind fun y99=>(gU zi 4).bind fun amP=>cond (y99 !=amP) (some ((y_,false),zA)) (zR.zY k k t0 t3 t11 0 yV y_ zi zu zx zC zL zA)))) ((gU zi 0).bind fun y101=>(Dh k t2).bind fun ak_=>(gU ak_.2 t3).bind fun amQ=>(gU t2 amQ).bind fun y104=>cond (y101 !=y104.2.1) (cond true (cond true (some ((y_,false),zA)) (zR.zY k k t0 t3 t11 0 yV y_ zi zu zx zC zL zA)) ((gU zi 3).bind fun amR=>(gU zi 4).bind fun amS=>cond (amR !=amS) (some ((y_,false),zA)) (zR.zY k k t0 t3 t11 0 yV y_ zi zu zx zC zL zA))) ((gU zi 1).bind fun ME=>cond (ME !=0) (cond true (some ((y_,false),zA)) (zR.zY k k t0 t3 t11 0 yV y_ zi zu zx zC zL zA)) ((gU zi 3).bind fun amT=>(gU zi 4).bind fun amU=>cond (amT !=amU) (some ((y_,false),zA)) (zR.zY k k t0 t3 t11 0 yV y_ zi zu zx zC zL zA))))) (cond ((List.length zx:Int) !=(List.length zC:Int)) (cond true (cond true (cond true (some ((y_,false),zA)) (zR.zY k k t0 t3 t11 0 yV y_ zi zu zx zC zL zA)) ((gU zi 3).bind fun amV=>(gU zi 4).bind fun amW=>cond (amV !=amW) (some ((y_,false),zA)) (zR.zY k k t0 t3 t11 0 yV y_ zi zu zx zC zL zA))) ((gU zi 1).bind fun y112=>cond (y112 !=0) (cond true (some ((y_,false),zA)) (zR.zY k k t0 t3 t11 0 yV y_ zi zu zx zC zL zA)) ((gU zi 3).bind fun y113=>(gU zi 4).bind fun y114=>cond (y113 !=y114) (some ((y_,false),zA)) (zR.zY k k t0 t3 t11 0 yV y_ zi zu zx zC zL zA)))) ((gU zi 0).bind fun y115=>(Dh k t2).bind fun ala=>(gU ala.2 t3).bind fun amX=>(gU t2 amX).bind fun amY=>cond (y115 !=amY.2.1) (cond true (cond true (some ((y_,false),zA)) (zR.zY k k t0 t3 t11 0 yV y_ zi zu zx zC zL zA)) ((gU zi 3).bind fun amZ=>(gU zi 4).bind fun am0=>cond (amZ !=am0) (some ((y_,false),zA)) (zR.zY k k t0 t3 t11 0 yV y_ zi zu zx zC zL zA))) ((gU zi 1).bind fun am1=>cond (am1 !=0) (cond true (some ((y_,false),zA)) (zR.zY k k t0 t3 t11 0 yV y_ zi zu zx zC zL zA)) ((gU zi 3).bind fun am2=>(gU zi 4).bind fun am3=>cond (am2 !=am3) (some ((y_,false),zA)) (zR.zY k k t0 t3 t11 0 yV y_ zi zu zx zC zL zA)))))))
def zR(k:Nat)(t0:List zf)(t1:Int)(t2:List ze)(t3:Int):Option (((Int×Int×Int×Int×Int×Unit×Unit)×Bool)×(List Int)):=
 (CF k t0 t1 3).bind fun Mj=>(cond (decide (Mj<0)) (some true) ((gU t0 Mj).bind fun NY=>some (NY.1 !=12))).bind fun U_=>cond U_ (some (((0,0,0,0,0,(),()),false),[])) ((FN k t0 Mj [1,4,5,6,7,9]).bind fun TV=>(FO k t0 Mj 2 5).bind fun TW=>(FO k t0 Mj 3 8).bind fun TY=>(Gu k t2 t3).bind fun alb=>zR.d9 k t0 t2 t3 Mj TV.1.2 TW.1.2 TY.1.2 (0,0,0,0,0,(),()) (0,0,0,0,0,(),()) TV.2 TW.2 TY.2 alb.2 [] [])
def Es.EK(k:Nat)(KD:(List zf)→Int→(Unit×Int×Unit×Unit)→(Unit×Int×Unit×Unit)→(List ze)→(List Int)→(Unit×Int×Unit×Unit)→(List ze)→(List Ar)→(List ze)→(List Ar)→(List Ar)→Option (((Unit×Int×Unit×Unit)×Bool)×(List ze)×(List Ar))):Nat→(List zf)→Int→Int→(Unit×Int×Unit×Unit)→(Unit×Int×Unit×Unit)→(List ze)→(List Int)→(Unit×Int×Unit×Unit)→(List Int)→(Int×Unit×Unit)→(List ze)→(List Ar)→(List ze)→(List Ar)→(List Ar)→(List BC)→Option (((Unit×Int×Unit×Unit)×Bool)×(List ze)×(List Ar))
 |0,_,_,_,_,_,_,_,_,_,_,_,_,_,_,_,_=>none
 |n+1,t0,t12,t18,yV,y_,zi,zu,zx,zC,zL,zA,IQ,JF,QC,QD,Pg=>
  cond (decide (t18<(List.length zC:Int))) ((gU zC t18).bind fun y1=>(zR k t0 y1 zi t18).bind fun r2=>cond (!r2.1.2) (some ((y_,false),(JF,QC))) (cond (lim (List.length Pg+List.length [(r2.1.1.1,r2.1.1.2.1,r2.1.1.2.2.1,r2.1.1.2.2.2.1,r2.1.1.2.2.2.2.1,r2.2,())])) ((Es.EK k KD n) t0 t12 (IntKind.wrap .i64 (t18+1)) yV y_ zi zu zx zC zL zA IQ JF QC QD (Pg++[(r2.1.1.1,r2.1.1.2.1,r2.1.1.2.2.1,r2.1.1.2.2.2.1,r2.1.1.2.2.2.2.1,r2.2,())])) none)) (cond (lim (List.length QD+List.length [(zL.1,Pg,())])) (KD t0 (IntKind.wrap .i64 (t12+1)) yV y_ zi zu zx zA IQ JF QC (QD++[(zL.1,Pg,())])) none)
def Es.AL(k:Nat):Nat→(List zf)→Int→(Unit×Int×Unit×Unit)→(Unit×Int×Unit×Unit)→(List ze)→(List Int)→(Unit×Int×Unit×Unit)→(List ze)→(List Ar)→(List ze)→(List Ar)→(List Ar)→Option (((Unit×Int×Unit×Unit)×Bool)×(List ze)×(List Ar))
 |0,_,_,_,_,_,_,_,_,_,_,_,_=>none
 |n+1,t0,t12,yV,y_,zi,zu,zx,zC,zL,zA,IQ,JF=>
  cond (decide (t12<(List.length zu:Int))) ((gU zu t12).bind fun y3=>(GZ k t0 y3 3).bind fun r4=>(gU zu t12).bind fun y5=>(FO k t0 y5 1 12).bind fun r6=>(cond (!r4.2) (some true) (some (!r6.1.2))).bind fun b7=>(cond b7 (some true) ((Dh k zi).bind fun r8=>some ((List.length r6.2:Int) !=(List.length r8.2:Int)))).bind fun b9=>cond b9 (some ((y_,false),(zA,IQ))) (Es.EK k (Es.AL k n) k t0 t12 0 yV y_ zi zu zx r6.2 (r4.1,(),()) zC zL zA IQ JF [])) ((CR k (zi,zx.2.1,JF,())).bind fun zU=>cond (!zU) (some ((y_,false),(zA,IQ))) (some ((zx,true),(zi,JF))))
def Es(k:Nat)(t0:List zf):Option (((Unit×Int×Unit×Unit)×Bool)×(List ze)×(List Ar)):=
 (K4 k t0).bind fun Av=>cond (!Av) (some ((((),0,(),()),false),([],[]))) ((Gv k t0 0 2).bind fun Ad=>(GZ k t0 0 3).bind fun Ay=>(FO k t0 0 4 12).bind fun AB=>(cond (!Ad.1.2) (some true) (some (!Ay.2))).bind fun b15=>(cond b15 (some true) (some (!AB.1.2))).bind fun b16=>cond b16 (some ((((),0,(),()),false),([],[]))) (Es.AL k k t0 0 ((),0,(),()) ((),0,(),()) Ad.2 AB.2 ((),Ay.1,(),()) [] [] [] [] []))
def Pv(k:Nat)(t0:List Int)(t1:Int):Option (((Unit×Int×Unit×Unit)×Int×Bool)×(List ze)×(List Ar)):=
 (Mk k t0 t1).bind fun r1=>cond (r1.1.2.2 !=0) (some ((((),0,(),()),0,false),([],[]))) ((Es k r1.2).bind fun r2=>cond (!r2.1.2) (some ((((),0,(),()),0,false),([],[]))) (some ((r2.1.1,r1.1.2.1,true),(r2.2.1,r2.2.2))))
def Pq(k:Nat)(t0:List Int):Option (((Unit×Int×Unit×Unit)×Int)×(List ze)×(List Ar)):=
 (A8 k (List.length t0:Int) 12 60000).bind fun r1=>cond (!r1) (some ((((),0,(),()),1),([],[]))) (cond (jg 0 4 (List.length t0)) ((cond (!iY (wY (kV t0 0 4)) (⟨#[80,65,82,49]⟩:ByteArray)) (some true) (cond (jg (IntKind.wrap .i64 ((List.length t0:Int)-4)) ((List.length t0):Int) (List.length t0)) (some (!iY (wY (kV t0 (IntKind.wrap .i64 ((List.length t0:Int)-4)) ((List.length t0):Int))) (⟨#[80,65,82,49]⟩:ByteArray))) none)).bind fun b2=>cond b2 (some ((((),0,(),()),2),([],[]))) ((Ec k t0 (IntKind.wrap .i64 ((List.length t0:Int)-8)) 4).bind fun r3=>cond (decide (r3.1>(IntKind.wrap .i64 ((List.length t0:Int)-12)))) (some ((((),0,(),()),3),([],[]))) (cond (jg (IntKind.wrap .i64 ((IntKind.wrap .i64 ((List.length t0:Int)-8))-r3.1)) (IntKind.wrap .i64 ((List.length t0:Int)-8)) (List.length t0)) ((Pv k (kV t0 (IntKind.wrap .i64 ((IntKind.wrap .i64 ((List.length t0:Int)-8))-r3.1)) (IntKind.wrap .i64 ((List.length t0:Int)-8))) 0).bind fun r4=>(cond (!r4.1.2.2) (some true) (some (r4.1.2.1 !=r3.1))).bind fun b5=>cond b5 (some ((((),0,(),()),3),([],[]))) (some ((r4.1.1,0),(r4.2.1,r4.2.2)))) none))) none)
def NB(k:Nat)(t0:zI):Option Bool:=
 (FQ k t0.1).bind fun r1=>(cond r1 ((A8 k t0.2.1 0 6).bind fun r2=>some (r2)) (some false)).bind fun b3=>(cond b3 ((A8 k t0.2.2.1 t0.2.1 6).bind fun r4=>some (r4)) (some false)).bind fun b5=>some b5
def Pz(k:Nat)(t0:List zf)(t1:Int):Option Int:=
 (CF k t0 0 t1).bind fun r1=>(cond (decide (r1<0)) (some true) ((gU t0 r1).bind fun y2=>some (y2.1 !=12))).bind fun b3=>cond b3 (some (-1)) (some r1)
def Km(k:Nat)(t0:Int)(t1:Int):Option Int:=
 (A8 k t0 0 2000).bind fun r1=>(cond (!r1) (some true) ((A8 k t1 0 62).bind fun r2=>some (!r2))).bind fun b3=>cond b3 (some (-1)) (some (IntKind.wrap .i64 (Int.tdiv (IntKind.wrap .i64 ((IntKind.wrap .i64 (t0*t1))+7)) 8)))
def Mm(k:Nat)(t0:List Int)(t1:Int):Option Int:=
 (gU t0 (IntKind.wrap .i64 (Int.tdiv t1 8))).bind fun y1=>cond (decide (0≤(Int.tmod t1 8))) (some (bits .and .i64 (pE .i64 (IntKind.wrap .i64 y1) (Int.tmod t1 8)) 1)) none
def Er.l10(k:Nat)(L6:(List Int)→Int→Int→Int→Int→Int→(List Int)→Option ((Unit×Int×Bool)×(List Int))):Nat→(List Int)→Int→Int→Int→Int→Int→Int→Int→(List Int)→Option ((Unit×Int×Bool)×(List Int))
 |0,_,_,_,_,_,_,_,_,_=>none
 |n+1,t0,t1,t2,t3,t12,t13,t14,t15,yV=>
  cond (decide (t15<t3)) ((Mm k t0 (IntKind.wrap .i64 ((IntKind.wrap .i64 ((IntKind.wrap .i64 (8*t1))+(IntKind.wrap .i64 (t13*t3))))+t15))).bind fun r1=>cond (decide (0≤t15)) ((Er.l10 k L6 n) t0 t1 t2 t3 t12 t13 (bits .or .i64 t14 (pz .i64 r1 t15)) (IntKind.wrap .i64 (t15+1)) yV) none) (cond (lim (List.length yV+List.length [t14])) (L6 t0 t1 t2 t3 t12 (IntKind.wrap .i64 (t13+1)) (yV++[t14])) none)
def Er.l6(k:Nat):Nat→(List Int)→Int→Int→Int→Int→Int→(List Int)→Option ((Unit×Int×Bool)×(List Int))
 |0,_,_,_,_,_,_,_=>none
 |n+1,t0,t1,t2,t3,t12,t13,yV=>
  cond (decide (t13<t2)) (Er.l10 k (Er.l6 k n) k t0 t1 t2 t3 t12 t13 0 0 yV) (some (((),IntKind.wrap .i64 (t1+t12),true),yV))
def Er(k:Nat)(t0:List Int)(t1:Int)(t2:Int)(t3:Int):Option ((Unit×Int×Bool)×(List Int)):=
 (Km k t2 t3).bind fun r2=>(cond (decide (r2<0)) (some true) ((A8 k t1 0 (List.length t0:Int)).bind fun r3=>some (!r3))).bind fun b4=>(cond b4 (some true) (some (decide ((IntKind.wrap .i64 ((List.length t0:Int)-t1))<r2)))).bind fun b5=>cond b5 (some (((),0,false),[])) (Er.l6 k k t0 t1 t2 t3 r2 0 [])
def JR.c6(k:Nat)(t9:Int)(t10:Int)(t11:Bool)(yV:za):Option (za×Int×Bool):=
 some ((t9,zn,()),t10,t11)
def JR(k:Nat)(t0:Int)(t1:List Int)(t2:Int):Option (za×Int×Bool):=
 cond (t0==1) ((Ec k t1 t2 4).bind fun r1=>cond (decide (r1.1>2147483647)) (JR.c6 k (IntKind.wrap .i64 (r1.1-4294967296)) r1.2.1 r1.2.2 (0,zn,())) (JR.c6 k r1.1 r1.2.1 r1.2.2 (0,zn,()))) (cond (t0==6) ((Ec k t1 t2 4).bind fun r2=>(cond (!r2.2.2) (some true) (some (decide (r2.1>40)))).bind fun b3=>(cond b3 (some true) (some (decide (r2.1>(IntKind.wrap .i64 ((List.length t1:Int)-r2.2.1)))))).bind fun b4=>cond b4 (some ((0,zn,()),0,false)) (cond (jg r2.2.1 (IntKind.wrap .i64 (r2.2.1+r2.1)) (List.length t1)) (some ((0,wY (kV t1 r2.2.1 (IntKind.wrap .i64 (r2.2.1+r2.1))),()),IntKind.wrap .i64 (r2.2.1+r2.1),true)) none)) ((Ec k t1 t2 8).bind fun r5=>some ((r5.1,zn,()),r5.2.1,r5.2.2)))
def DY.zY(k:Nat):Nat→Int→(List Int)→Int→Int→Int→(List za)→Option ((Unit×Int×Bool)×(List za))
 |0,_,_,_,_,_,_=>none
 |n+1,t0,t1,t2,t3,t16,yV=>
  cond (decide (t16<t3)) ((JR k t0 t1 t2).bind fun r1=>cond (!r1.2.2) (some (((),0,false),[])) (cond (lim (List.length yV+List.length [r1.1])) ((DY.zY k n) t0 t1 r1.2.1 t3 (IntKind.wrap .i64 (t16+1)) (yV++[r1.1])) none)) (some (((),t2,true),yV))
def DY.l7(k:Nat):Nat→Int→Bool→Int→(List za)→(List Int)→Option ((Unit×Int×Bool)×(List za))
 |0,_,_,_,_,_=>none
 |n+1,t13,t14,t15,yV,y_=>
  cond (decide (t15<(List.length y_:Int))) ((gU y_ t15).bind fun y2=>cond (lim (List.length yV+List.length ([(y2,zn,())]:List za))) ((DY.l7 k n) t13 t14 (IntKind.wrap .i64 (t15+1)) (yV++[(y2,zn,())]) y_) none) (some (((),t13,t14),yV))
def DY(k:Nat)(t0:Int)(t1:List Int)(t2:Int)(t3:Int):Option ((Unit×Int×Bool)×(List za)):=
 (FQ k t0).bind fun r3=>(cond (!r3) (some true) ((A8 k t3 0 2000).bind fun r4=>some (!r4))).bind fun b5=>(cond b5 (some true) ((A8 k t2 0 (List.length t1:Int)).bind fun r6=>some (!r6))).bind fun b7=>cond b7 (some (((),0,false),[])) (cond (t0==0) ((Er k t1 t2 t3 1).bind fun r8=>DY.l7 k k r8.1.2.1 r8.1.2.2 0 [] r8.2) (DY.zY k k t0 t1 t2 t3 0 []))
def FL.c8(k:Nat)(t5:Int)(t26:Bool)(yV:za):Option Bool:=
 cond t26 (some (iY yV.2.1 zn)) (cond (t5==6) ((cond (yV.1==0) (some (decide ((yV.2.1.size:Int)≤40))) (some false)).bind fun b1=>some b1) (some false))
def FL(k:Nat)(t0:Int)(t1:za):Option Bool:=
 cond (t0==0) ((A8 k t1.1 0 1).bind fun r2=>(cond r2 (some (iY t1.2.1 zn)) (some false)).bind fun b3=>some b3) (cond (t0==1) ((K5 k t1.1).bind fun r4=>(cond r4 (some (iY t1.2.1 zn)) (some false)).bind fun b5=>some b5) (cond (t0==2) (FL.c8 k t0 (t0==2) t1) (FL.c8 k t0 (t0==5) t1)))
def Ia.l4(k:Nat):Nat→Int→(List za)→Int→Option Bool
 |0,_,_,_=>none
 |n+1,t0,t1,t5=>
  cond (decide (t5<(List.length t1:Int))) ((gU t1 t5).bind fun y1=>(FL k t0 y1).bind fun r2=>cond (!r2) (some false) ((Ia.l4 k n) t0 t1 (IntKind.wrap .i64 (t5+1)))) (some true)
def Ia(k:Nat)(t0:Int)(t1:List za):Option Bool:=
 (cond (decide ((List.length t1:Int)>2000)) (some true) ((FQ k t0).bind fun r3=>some (!r3))).bind fun b4=>cond b4 (some false) (Ia.l4 k k t0 t1 0)
def Gb.l3(k:Nat):Nat→Int→Int→Int→(List Int)→Option (Unit×(List Int))
 |0,_,_,_,_=>none
 |n+1,t0,t1,t6,yV=>
  (cond (decide (t6<t1)) ((A8 k t1 1 8).bind fun r1=>some (r1)) (some false)).bind fun b2=>cond b2 (cond (decide (0≤(IntKind.wrap .i64 (8*t6)))) (cond (lim (List.length yV+List.length [IntKind.wrap .u8 (pE .i64 t0 (IntKind.wrap .i64 (8*t6)))])) ((Gb.l3 k n) t0 t1 (IntKind.wrap .i64 (t6+1)) (yV++[IntKind.wrap .u8 (pE .i64 t0 (IntKind.wrap .i64 (8*t6)))])) none) none) (some ((),yV))
def Gb(k:Nat)(t0:Int)(t1:Int):Option (Unit×(List Int)):=
 Gb.l3 k k t0 t1 0 []
def CZ.c12(k:Nat)(KD:(List Int)→Int→Int→Int→(List Int)→Option ((Unit×Bool)×(List Int)))(t0:List Int)(t1:Int)(t8:Int)(t9:Int)(yV:List Int):Option ((Unit×Bool)×(List Int)):=
 KD t0 t1 t8 (IntKind.wrap .i64 (t9+1)) yV
def CZ.AL(k:Nat)(L6:(List Int)→Int→Int→(List Int)→Option ((Unit×Bool)×(List Int))):Nat→(List Int)→Int→Int→Int→(List Int)→Option ((Unit×Bool)×(List Int))
 |0,_,_,_,_,_=>none
 |n+1,t0,t1,t8,t9,yV=>
  cond (decide (t9<t1)) ((gU t0 t8).bind fun y1=>cond (decide (0≤t9)) (cond ((bits .and .i64 (pE .i64 y1 t9) 1)==1) ((gU yV (IntKind.wrap .i64 (Int.tdiv (IntKind.wrap .i64 ((IntKind.wrap .i64 (t8*t1))+t9)) 8))).bind fun y2=>cond (decide (0≤(Int.tmod (IntKind.wrap .i64 ((IntKind.wrap .i64 (t8*t1))+t9)) 8))) ((gU yV (IntKind.wrap .i64 (Int.tdiv (IntKind.wrap .i64 ((IntKind.wrap .i64 (t8*t1))+t9)) 8))).bind fun y3=>(gU yV (IntKind.wrap .i64 (Int.tdiv (IntKind.wrap .i64 ((IntKind.wrap .i64 (t8*t1))+t9)) 8))).bind fun y4=>CZ.c12 k (CZ.AL k L6 n) t0 t1 t8 t9 (List.set yV (Int.toNat (IntKind.wrap .i64 (Int.tdiv (IntKind.wrap .i64 ((IntKind.wrap .i64 (t8*t1))+t9)) 8))) (bits .or .u8 y2 (pz .u8 1 (Int.tmod (IntKind.wrap .i64 ((IntKind.wrap .i64 (t8*t1))+t9)) 8))))) none) (CZ.c12 k (CZ.AL k L6 n) t0 t1 t8 t9 yV)) none) (L6 t0 t1 (IntKind.wrap .i64 (t8+1)) yV)
def CZ.l6(k:Nat):Nat→(List Int)→Int→Int→(List Int)→Option ((Unit×Bool)×(List Int))
 |0,_,_,_,_=>none
 |n+1,t0,t1,t8,yV=>
  cond (decide (t8<(List.length t0:Int))) ((gU t0 t8).bind fun y5=>(cond (decide (y5<0)) (some true) ((gU t0 t8).bind fun y6=>cond (decide (0≤t1)) (some ((pE .i64 y6 t1) !=0)) none)).bind fun b7=>cond b7 (some (((),false),[])) (CZ.AL k (CZ.l6 k n) k t0 t1 t8 0 yV)) (some (((),true),yV))
def CZ(k:Nat)(t0:List Int)(t1:Int):Option ((Unit×Bool)×(List Int)):=
 (Km k (List.length t0:Int) t1).bind fun r8=>cond (decide (r8<0)) (some (((),false),[])) (cond (oV r8) (CZ.l6 k k t0 t1 0 (List.replicate (Int.toNat r8) 0)) none)
def C_.c7(k:Nat)(L6:Int→(List za)→Int→(List Int)→(List Int)→Option ((Unit×Bool)×(List Int)))(t0:Int)(t1:List za)(t8:Int)(yV:List Int)(y_:List Int):Option ((Unit×Bool)×(List Int)):=
 L6 t0 t1 (IntKind.wrap .i64 (t8+1)) yV y_
def C_.l6(k:Nat):Nat→Int→(List za)→Int→(List Int)→(List Int)→Option ((Unit×Bool)×(List Int))
 |0,_,_,_,_,_=>none
 |n+1,t0,t1,t8,yV,y_=>
  cond (decide (t8<(List.length t1:Int))) ((gU t1 t8).bind fun y1=>cond (t0==0) (cond (lim (List.length y_+List.length [y1.1])) (C_.c7 k (C_.l6 k n) t0 t1 t8 yV (y_++[y1.1])) none) (cond (t0==1) ((Gb k y1.1 4).bind fun r2=>cond (lim (List.length yV+List.length r2.2)) (C_.c7 k (C_.l6 k n) t0 t1 t8 (yV++r2.2) y_) none) (cond (t0==6) ((Gb k (y1.2.1.size:Int) 4).bind fun r3=>cond (lim (List.length yV+List.length r3.2)) (cond (lim (List.length (yV++r3.2)+List.length (eZ y1.2.1))) (C_.c7 k (C_.l6 k n) t0 t1 t8 ((yV++r3.2)++(eZ y1.2.1)) y_) none) none) ((Gb k y1.1 8).bind fun r4=>cond (lim (List.length yV+List.length r4.2)) (C_.c7 k (C_.l6 k n) t0 t1 t8 (yV++r4.2) y_) none)))) (cond (t0==0) ((CZ k y_ 1).bind fun r5=>some (((),r5.1.2),r5.2)) (some (((),true),yV)))
def C_(k:Nat)(t0:Int)(t1:List za):Option ((Unit×Bool)×(List Int)):=
 (Ia k t0 t1).bind fun r6=>cond (!r6) (some (((),false),[])) (C_.l6 k k t0 t1 0 [] [])
def Py(k:Nat)(t0:Int)(t1:za):Option ByteArray:=
 cond (t0==6) (some t1.2.1) ((C_ k t0 [t1]).bind fun r1=>some (wY r1.2))
def FM.d7(k:Nat)(t0:Int)(t1:ByteArray)(yV:za)(y_:za):Option (za×Bool):=
 (FL k t0 y_).bind fun r1=>cond r1 ((Py k t0 y_).bind fun r2=>some (y_,iY r2 t1)) (some (y_,false))
def FM.c7(k:Nat)(t0:Int)(t1:ByteArray)(yV:za)(y_:za):Option (za×Bool):=
 FM.d7 k t0 t1 yV y_
def FM(k:Nat)(t0:Int)(t1:ByteArray):Option (za×Bool):=
 cond (t0 !=6) ((DY k t0 (eZ t1) 0 1).bind fun Ay=>cond (!Ay.1.2.2) (some ((0,zn,()),false)) ((gU Ay.2 0).bind fun Ie=>FM.c7 k t0 t1 (0,zn,()) Ie)) (FM.c7 k t0 t1 (0,zn,()) (0,t1,()))
def Pt(k:Nat)(t0:Int):Option Int:=
 cond (decide (t0<0)) (some (bits .xor .i64 t0 9223372036854775807)) (some t0)
def Fg.d5(k:Nat)(yV:za)(y_:za):Option Bool:=
 (Pt k yV.1).bind fun r1=>(Pt k y_.1).bind fun r2=>some (decide (r1<r2))
def Fg.l8(k:Nat):Nat→Int→za→za→Option Bool
 |0,_,_,_=>none
 |n+1,t7,yV,y_=>
  (cond (decide (t7<(yV.2.1.size:Int))) (some (decide (t7<(y_.2.1.size:Int)))) (some false)).bind fun b9=>cond b9 ((nC yV.2.1 t7).bind fun CU=>(nC y_.2.1 t7).bind fun C8=>cond (CU !=C8) ((nC yV.2.1 t7).bind fun Dy=>(nC y_.2.1 t7).bind fun y13=>some (decide (Dy<y13))) ((Fg.l8 k n) (IntKind.wrap .i64 (t7+1)) yV y_)) (some (decide ((yV.2.1.size:Int)<(y_.2.1.size:Int))))
def Fg(k:Nat)(t0:Int)(t1:za)(t2:za):Option Bool:=
 (FL k t0 t1).bind fun AB=>(cond (!AB) (some true) ((FL k t0 t2).bind fun Ab=>some (!Ab))).bind fun b16=>cond b16 (some false) (cond (t0==5) (Fg.d5 k t1 t2) (cond (t0==6) (Fg.l8 k k 0 t1 t2) (some (decide (t1.1<t2.1)))))
def NF(k:Nat)(t0:zI)(t1:DJ):Option Bool:=
 (NB k t0).bind fun r1=>(cond (!r1) (some true) ((A8 k t1.1 0 2000).bind fun r2=>some (!r2))).bind fun b3=>cond b3 (some false) (cond (!t1.2.1) ((cond ((t1.2.2.1.1==0)&&(iY t1.2.2.1.2.1 zn&&true)) (some (((t1.2.2.2.1.1==0)&&(iY t1.2.2.2.1.2.1 zn&&true)))) (some false)).bind fun b4=>some b4) ((FL k t0.1 t1.2.2.1).bind fun r5=>(cond r5 ((FL k t0.1 t1.2.2.2.1).bind fun r6=>some (r6)) (some false)).bind fun b7=>(cond b7 ((Fg k t0.1 t1.2.2.2.1 t1.2.2.1).bind fun r8=>some (!r8)) (some false)).bind fun b9=>some b9))
def I5.c15(k:Nat)(yV:zI)(y_:DJ)(zi:DJ)(zu:DJ):Option (DJ×Bool):=
 (NF k yV zu).bind fun r1=>cond (!r1) (some (zi,false)) (some (zu,true))
def I5(k:Nat)(t0:zI)(t1:List zf)(t2:Int):Option (DJ×Bool):=
 (GZ k t1 t2 3).bind fun r2=>(Kr k t1 t2 5).bind fun r3=>(Kr k t1 t2 6).bind fun r4=>(cond (!r2.2) (some true) (some (!(r3.2==r4.2)))).bind fun b5=>(cond b5 (some true) ((cond (!r3.2) ((CF k t1 t2 5).bind fun r6=>(cond (decide (r6≥0)) (some true) ((CF k t1 t2 6).bind fun r7=>some (decide (r7≥0)))).bind fun b8=>some (b8)) (some false)).bind fun b9=>some (b9))).bind fun b10=>cond b10 (some ((0,false,(0,zn,()),(0,zn,()),()),false)) (cond r3.2 ((FM k t0.1 r3.1).bind fun Av=>(FM k t0.1 r4.1).bind fun Ad=>(cond (!Av.2) (some true) (some (!Ad.2))).bind fun b13=>cond b13 (some ((0,false,(0,zn,()),(0,zn,()),()),false)) (I5.c15 k t0 (0,false,(0,zn,()),(0,zn,()),()) (0,false,(0,zn,()),(0,zn,()),()) (r2.1,r3.2,Ad.1,Av.1,()))) (I5.c15 k t0 (0,false,(0,zn,()),(0,zn,()),()) (0,false,(0,zn,()),(0,zn,()),()) (r2.1,r3.2,(0,zn,()),(0,zn,()),())))
def BZ.KJ(k:Nat)(yV:zP)(y_:zP):Option (zP×Bool):=
 some (yV,true)
def BZ.Jy(k:Nat)(t1:List zf)(t10:Int)(t11:Int)(yV:zI)(y_:zP)(zi:zP):Option (zP×Bool):=
 cond (decide (t10>0)) ((CF k t1 t11 t10).bind fun r1=>(cond (decide (r1≥0)) ((gU t1 r1).bind fun y2=>some (y2.1==12)) (some false)).bind fun b3=>cond b3 ((I5 k yV t1 r1).bind fun r4=>BZ.KJ k (y_.1,y_.2.1,y_.2.2.1,y_.2.2.2.1,y_.2.2.2.2.1,y_.2.2.2.2.2.1,y_.2.2.2.2.2.2.1,y_.2.2.2.2.2.2.2.1,y_.2.2.2.2.2.2.2.2.1,y_.2.2.2.2.2.2.2.2.2.1,r4.2,r4.1,y_.2.2.2.2.2.2.2.2.2.2.2.2.1,()) zi) (BZ.KJ k y_ zi)) (BZ.KJ k y_ zi)
def BZ.c7(k:Nat)(t1:List zf)(t8:Int)(t10:Int)(yV:zI)(y_:zP)(zi:zP)(zu:List Int):Option (zP×Bool):=
 (Pz k t1 t8).bind fun r5=>cond (decide (r5<0)) (some (y_,false)) ((FN k t1 r5 zu).bind fun r6=>(cond (!r6.1.2) (some true) ((gU r6.2 0).bind fun y7=>(A8 k y7 0 2000).bind fun r8=>some (!r8))).bind fun b9=>cond b9 (some (y_,false)) ((gU r6.2 0).bind fun CU=>(gU r6.2 1).bind fun C8=>cond (y_.1==0) ((gU r6.2 2).bind fun Dy=>(cond (Dy !=3) (some true) ((gU r6.2 3).bind fun y13=>some (y13 !=3))).bind fun b14=>cond b14 (some ((y_.1,y_.2.1,CU,C8,y_.2.2.2.2.1,y_.2.2.2.2.2.1,y_.2.2.2.2.2.2.1,y_.2.2.2.2.2.2.2.1,y_.2.2.2.2.2.2.2.2.1,y_.2.2.2.2.2.2.2.2.2.1,y_.2.2.2.2.2.2.2.2.2.2.1,y_.2.2.2.2.2.2.2.2.2.2.2.1,y_.2.2.2.2.2.2.2.2.2.2.2.2.1,()),false)) (BZ.Jy k t1 t10 r5 yV (y_.1,y_.2.1,CU,C8,y_.2.2.2.2.1,y_.2.2.2.2.2.1,y_.2.2.2.2.2.2.1,y_.2.2.2.2.2.2.2.1,y_.2.2.2.2.2.2.2.2.1,y_.2.2.2.2.2.2.2.2.2.1,y_.2.2.2.2.2.2.2.2.2.2.1,y_.2.2.2.2.2.2.2.2.2.2.2.1,y_.2.2.2.2.2.2.2.2.2.2.2.2.1,()) zi)) (cond (y_.1==3) ((gU r6.2 2).bind fun Gh=>(gU r6.2 3).bind fun Ig=>(gU r6.2 4).bind fun Cj=>(gU r6.2 5).bind fun FW=>(CF k t1 r5 7).bind fun CY=>(cond (decide (Gh<0)) (some true) (some (decide (Ig<0)))).bind fun b20=>(cond b20 (some true) (some (decide (Cj<0)))).bind fun Oc=>(cond Oc (some true) (some (decide (FW<0)))).bind fun Lc=>(cond Lc (some true) (some (decide (CY<0)))).bind fun J3=>(cond J3 (some true) ((gU t1 CY).bind fun y24=>some (y24.1==1))).bind fun J4=>cond J4 (some ((y_.1,y_.2.1,CU,C8,Ig,Gh,Cj,FW,y_.2.2.2.2.2.2.2.2.1,y_.2.2.2.2.2.2.2.2.2.1,y_.2.2.2.2.2.2.2.2.2.2.1,y_.2.2.2.2.2.2.2.2.2.2.2.1,y_.2.2.2.2.2.2.2.2.2.2.2.2.1,()),false)) (BZ.Jy k t1 t10 r5 yV (y_.1,y_.2.1,CU,C8,Ig,Gh,Cj,FW,y_.2.2.2.2.2.2.2.2.1,y_.2.2.2.2.2.2.2.2.2.1,y_.2.2.2.2.2.2.2.2.2.2.1,y_.2.2.2.2.2.2.2.2.2.2.2.1,y_.2.2.2.2.2.2.2.2.2.2.2.2.1,()) zi)) (BZ.Jy k t1 t10 r5 yV (y_.1,y_.2.1,CU,C8,y_.2.2.2.2.1,y_.2.2.2.2.2.1,y_.2.2.2.2.2.2.1,y_.2.2.2.2.2.2.2.1,y_.2.2.2.2.2.2.2.2.1,y_.2.2.2.2.2.2.2.2.2.1,y_.2.2.2.2.2.2.2.2.2.2.1,y_.2.2.2.2.2.2.2.2.2.2.2.1,y_.2.2.2.2.2.2.2.2.2.2.2.2.1,()) zi))))
def BZ(k:Nat)(t0:zI)(t1:List zf)(t2:zP):Option (zP×Bool):=
 cond (t2.1==2) (BZ.c7 k t1 7 0 t0 t2 (0,0,0,0,0,0,0,0,false,0,false,(0,false,(0,zn,()),(0,zn,()),()),0,()) [1,2]) (cond (t2.1==3) (BZ.c7 k t1 8 8 t0 t2 (0,0,0,0,0,0,0,0,false,0,false,(0,false,(0,zn,()),(0,zn,()),()),0,()) [1,4,2,3,5,6]) (BZ.c7 k t1 5 5 t0 t2 (0,0,0,0,0,0,0,0,false,0,false,(0,false,(0,zn,()),(0,zn,()),()),0,()) [1,2,3,4]))
def CQ.c17(k:Nat)(t1:List Int)(t10:Int)(yV:zI)(y_:zP)(zi:zP)(zu:List zf)(zx:zP):Option (zP×Int):=
 (BZ k yV zu zx).bind fun r1=>cond (!r1.2) (some (zi,1)) (cond (decide (r1.1.2.1>(IntKind.wrap .i64 ((List.length t1:Int)-t10)))) (some (zi,2)) (some (r1.1,0)))
def CQ(k:Nat)(t0:zI)(t1:List Int)(t2:Int):Option (zP×Int):=
 (Mk k t1 t2).bind fun r2=>(NB k t0).bind fun r3=>(cond (!r3) (some true) (some (r2.1.2.2 !=0))).bind fun b4=>cond b4 (some ((0,0,0,0,0,0,0,0,false,0,false,(0,false,(0,zn,()),(0,zn,()),()),0,()),1)) ((FN k r2.2 0 [1,2,3]).bind fun r5=>(cond (!r5.1.2) (some true) ((gU r5.2 0).bind fun y6=>(cond (y6 !=0) ((gU r5.2 0).bind fun y7=>some (y7 !=2)) (some false)).bind fun b8=>(cond b8 ((gU r5.2 0).bind fun y9=>some (y9 !=3)) (some false)).bind fun b10=>some (b10))).bind fun b11=>(cond b11 (some true) ((gU r5.2 1).bind fun Dy=>some (decide (Dy<0)))).bind fun b13=>(cond b13 (some true) ((gU r5.2 1).bind fun Ie=>(gU r5.2 2).bind fun Gh=>some (Ie !=Gh))).bind fun b16=>cond b16 (some ((0,0,0,0,0,0,0,0,false,0,false,(0,false,(0,zn,()),(0,zn,()),()),0,()),1)) ((gU r5.2 0).bind fun Cj=>(gU r5.2 1).bind fun FW=>(CF k r2.2 0 4).bind fun CY=>cond (decide (CY≥0)) ((gU r2.2 CY).bind fun y20=>cond (y20.1 !=5) (some ((0,0,0,0,0,0,0,0,false,0,false,(0,false,(0,zn,()),(0,zn,()),()),0,()),1)) ((gU r2.2 CY).bind fun y21=>cond (decide (y21.2.2.1<0)) (CQ.c17 k t1 r2.1.2.1 t0 (0,0,0,0,0,0,0,0,false,0,false,(0,false,(0,zn,()),(0,zn,()),()),0,()) (0,0,0,0,0,0,0,0,false,0,false,(0,false,(0,zn,()),(0,zn,()),()),0,()) r2.2 (Cj,FW,0,0,0,0,0,0,true,IntKind.wrap .i64 (y21.2.2.1+4294967296),false,(0,false,(0,zn,()),(0,zn,()),()),r2.1.2.1,())) (CQ.c17 k t1 r2.1.2.1 t0 (0,0,0,0,0,0,0,0,false,0,false,(0,false,(0,zn,()),(0,zn,()),()),0,()) (0,0,0,0,0,0,0,0,false,0,false,(0,false,(0,zn,()),(0,zn,()),()),0,()) r2.2 (Cj,FW,0,0,0,0,0,0,true,y21.2.2.1,false,(0,false,(0,zn,()),(0,zn,()),()),r2.1.2.1,())))) (CQ.c17 k t1 r2.1.2.1 t0 (0,0,0,0,0,0,0,0,false,0,false,(0,false,(0,zn,()),(0,zn,()),()),0,()) (0,0,0,0,0,0,0,0,false,0,false,(0,false,(0,zn,()),(0,zn,()),()),0,()) r2.2 (Cj,FW,0,0,0,0,0,0,false,0,false,(0,false,(0,zn,()),(0,zn,()),()),r2.1.2.1,()))))
def Fh.c3(k:Nat)(L2:Int→Int→Option Int)(t0:Int)(t3:Int):Option Int:=
 L2 t0 (IntKind.wrap .i64 (t3+1))
def Fh.l2(k:Nat):Nat→Int→Int→Option Int
 |0,_,_=>none
 |n+1,t0,t3=>
  cond (decide (t3<8)) (cond ((bits .and .i64 t0 1)==1) (Fh.c3 k (Fh.l2 k n) (bits .xor .i64 (IntKind.wrap .i64 (Int.tdiv t0 2)) 3988292384) t3) (Fh.c3 k (Fh.l2 k n) (IntKind.wrap .i64 (Int.tdiv t0 2)) t3)) (some t0)
def Fh(k:Nat)(t0:Int):Option Int:=
 Fh.l2 k k t0 0
def Jn.l5(k:Nat):Nat→(List Int)→Int→Int→Option Int
 |0,_,_,_=>none
 |n+1,t1,t5,t6=>
  cond (decide (t6<(List.length t1:Int))) ((gU t1 t6).bind fun y1=>(Fh k (bits .xor .i64 (bits .and .i64 t5 255) (IntKind.wrap .i64 y1))).bind fun r2=>(Jn.l5 k n) t1 (bits .xor .i64 (pE .i64 t5 8) r2) (IntKind.wrap .i64 (t6+1))) (some (bits .xor .i64 t5 4294967295))
def Jn(k:Nat)(t0:Int)(t1:List Int):Option Int:=
 (A8 k t0 0 4294967295).bind fun r3=>cond (!r3) (some (-1)) (Jn.l5 k k t1 (bits .xor .i64 t0 4294967295) 0)
def Kn(k:Nat)(t0:List Int):Option Int:=
 (Jn k 0 t0).bind fun r1=>some r1
def QT(k:Nat)(t0:Int):Option Bool:=
 (A8 k t0 0 24).bind fun r1=>some r1
def A7.Df(k:Nat)(ML:(List Int)→Int→Int→Int→Int→Int→(List Int)→Option ((Unit×Int×Bool)×(List Int))):Nat→(List Int)→Int→Int→Int→Int→Int→Int→Int→(List Int)→Option ((Unit×Int×Bool)×(List Int))
 |0,_,_,_,_,_,_,_,_,_=>none
 |n+1,t0,t2,t3,t13,t15,t21,t22,t23,yV=>
  cond (decide (t23<t3)) ((Mm k t0 (IntKind.wrap .i64 ((IntKind.wrap .i64 ((IntKind.wrap .i64 (8*t13))+(IntKind.wrap .i64 (t21*t3))))+t23))).bind fun r1=>cond (decide (0≤t23)) ((A7.Df k ML n) t0 t2 t3 t13 t15 t21 (bits .or .i64 t22 (pz .i64 r1 t23)) (IntKind.wrap .i64 (t23+1)) yV) none) (cond (lim (List.length yV+List.length [t22])) (ML t0 t2 t3 t13 t15 (IntKind.wrap .i64 (t21+1)) (yV++[t22])) none)
def A7.Ke(k:Nat)(L4:(List Int)→Int→Int→Int→(List Int)→Option ((Unit×Int×Bool)×(List Int))):Nat→(List Int)→Int→Int→Int→Int→Int→(List Int)→Option ((Unit×Int×Bool)×(List Int))
 |0,_,_,_,_,_,_,_=>none
 |n+1,t0,t2,t3,t13,t15,t21,yV=>
  (cond (decide (t21<(IntKind.wrap .i64 (8*t15)))) (some (decide ((List.length yV:Int)<t2))) (some false)).bind fun b2=>cond b2 (A7.Df k (A7.Ke k L4 n) k t0 t2 t3 t13 t15 t21 0 0 yV) (L4 t0 (IntKind.wrap .i64 (t13+(IntKind.wrap .i64 (t15*t3)))) t2 t3 yV)
def A7.Dp(k:Nat)(L4:(List Int)→Int→Int→Int→(List Int)→Option ((Unit×Int×Bool)×(List Int))):Nat→(List Int)→Int→Int→Int→Int→Int→Int→(List Int)→Option ((Unit×Int×Bool)×(List Int))
 |0,_,_,_,_,_,_,_,_=>none
 |n+1,t0,t2,t3,t13,t15,t16,t20,yV=>
  (cond (decide (t20<t15)) (some (decide ((List.length yV:Int)<t2))) (some false)).bind fun b3=>cond b3 (cond (lim (List.length yV+List.length [t16])) ((A7.Dp k L4 n) t0 t2 t3 t13 t15 t16 (IntKind.wrap .i64 (t20+1)) (yV++[t16])) none) (L4 t0 t13 t2 t3 yV)
def A7.c17(k:Nat)(L4:(List Int)→Int→Int→Int→(List Int)→Option ((Unit×Int×Bool)×(List Int)))(t0:List Int)(t2:Int)(t3:Int)(t13:Int)(t15:Int)(t16:Int)(yV:List Int):Option ((Unit×Int×Bool)×(List Int)):=
 A7.Dp k L4 k t0 t2 t3 t13 t15 t16 0 yV
def A7.l4(k:Nat):Nat→(List Int)→Int→Int→Int→(List Int)→Option ((Unit×Int×Bool)×(List Int))
 |0,_,_,_,_,_=>none
 |n+1,t0,t1,t2,t3,yV=>
  cond (decide ((List.length yV:Int)<t2)) ((DZ k t0 t1).bind fun r4=>(JP k r4.1 1).bind fun r5=>cond (!r4.2.2) (some (((),0,false),[])) (cond ((bits .and .i64 r4.1 1)==0) (cond (decide (t3>0)) ((Km k 1 t3).bind fun r6=>(Ec k t0 r4.2.1 r6).bind fun r7=>(cond (!r7.2.2) (some true) (cond (decide (0≤t3)) (some ((pE .i64 r7.1 t3) !=0)) none)).bind fun b8=>cond b8 (some (((),0,false),[])) (A7.c17 k (A7.l4 k n) t0 t2 t3 r7.2.1 r5 r7.1 yV)) (A7.c17 k (A7.l4 k n) t0 t2 t3 r4.2.1 r5 0 yV)) ((cond (decide (r5>2000)) (some true) (some (decide ((IntKind.wrap .i64 ((List.length t0:Int)-r4.2.1))<(IntKind.wrap .i64 (r5*t3)))))).bind fun b9=>cond b9 (some (((),0,false),[])) (A7.Ke k (A7.l4 k n) k t0 t2 t3 r4.2.1 r5 0 yV)))) (some (((),t1,true),yV))
def A7(k:Nat)(t0:List Int)(t1:Int)(t2:Int)(t3:Int):Option ((Unit×Int×Bool)×(List Int)):=
 (QT k t3).bind fun zU=>(cond (!zU) (some true) ((A8 k t2 0 2000).bind fun Av=>some (!Av))).bind fun b12=>(cond b12 (some true) ((A8 k t1 0 (List.length t0:Int)).bind fun Ay=>some (!Ay))).bind fun b14=>cond b14 (some (((),0,false),[])) (A7.l4 k k t0 t1 t2 t3 [])
def GU.l4(k:Nat):Nat→Int→Int→Option Int
 |0,_,_=>none
 |n+1,t0,t3=>
  cond (decide (t0>0)) ((GU.l4 k n) (IntKind.wrap .i64 (Int.tdiv t0 2)) (IntKind.wrap .i64 (t3+1))) (cond (decide (t3>62)) (some (-1)) (some t3))
def GU(k:Nat)(t0:Int):Option Int:=
 cond (decide (t0<0)) (some (-1)) (GU.l4 k k t0 0)
def GV.A_(k:Nat):Nat→Int→Int→Int→Int→(List Int)→(List Int)→Option ((Unit×Int×Bool)×(List Int))
 |0,_,_,_,_,_,_=>none
 |n+1,t3,t12,t13,t18,yV,y_=>
  cond (decide (t18<(List.length y_:Int))) ((gU y_ t18).bind fun y1=>cond (decide (y1>t3)) (some (((),0,false),yV)) ((GV.A_ k n) t3 t12 t13 (IntKind.wrap .i64 (t18+1)) yV y_)) (some (((),IntKind.wrap .i64 (t13+t12),true),y_))
def GV(k:Nat)(t0:List Int)(t1:Int)(t2:Int)(t3:Int):Option ((Unit×Int×Bool)×(List Int)):=
 (A8 k t3 0 255).bind fun r2=>(cond (!r2) (some true) ((A8 k t2 0 2000).bind fun r3=>some (!r3))).bind fun b4=>(cond b4 (some true) ((A8 k t1 0 (List.length t0:Int)).bind fun r5=>some (!r5))).bind fun b6=>cond b6 (some (((),0,false),[])) (cond (t3==0) (cond (oV t2) (some (((),t1,true),List.replicate (Int.toNat t2) 0)) none) ((Ec k t0 t1 4).bind fun r7=>(cond (!r7.2.2) (some true) (some (decide (r7.1>(IntKind.wrap .i64 ((List.length t0:Int)-r7.2.1)))))).bind fun b8=>cond b8 (some (((),0,false),[])) (cond (jg r7.2.1 (IntKind.wrap .i64 (r7.2.1+r7.1)) (List.length t0)) ((GU k t3).bind fun r9=>(A7 k (kV t0 r7.2.1 (IntKind.wrap .i64 (r7.2.1+r7.1))) 0 t2 r9).bind fun zU=>cond (!zU.1.2.2) (some (((),0,false),[])) (GV.A_ k k t3 r7.1 r7.2.1 0 [] zU.2)) none)))
def GY.l7(k:Nat):Nat→Int→Int→(List Int)→Option ((Unit×Bool)×(List Int))
 |0,_,_,_=>none
 |n+1,t2,t11,yV=>
  cond (decide (t11<(List.length yV:Int))) ((gU yV t11).bind fun y1=>cond (decide (y1>t2)) (some (((),false),[])) ((GY.l7 k n) t2 (IntKind.wrap .i64 (t11+1)) yV)) (some (((),true),yV))
def GY(k:Nat)(t0:List Int)(t1:Int)(t2:Int):Option ((Unit×Bool)×(List Int)):=
 cond (t2==0) (cond (oV t1) (some (((),(List.length t0:Int)==0),List.replicate (Int.toNat t1) 0)) none) ((GU k t2).bind fun r2=>(A7 k t0 0 t1 r2).bind fun r3=>(cond (!r3.1.2.2) (some true) (some (r3.1.2.1 !=(List.length t0:Int)))).bind fun b4=>cond b4 (some (((),false),[])) (GY.l7 k k t2 0 r3.2))
def GX.d9(k:Nat)(t2:List Int)(t16:Int)(t18:Bool)(yV:zI)(y_:zP)(zi:List Int):Option ((Unit×Unit×Int×Bool)×(List Int)×(List Int)):=
 cond (jg y_.2.2.2.2.2.2.2.1 t16 (List.length t2)) ((GY k (kV t2 y_.2.2.2.2.2.2.2.1 t16) y_.2.2.1 yV.2.2.1).bind fun r1=>(cond t18 (some (r1.1.2)) (some false)).bind fun b2=>some (((),(),t16,b2),(zi,r1.2))) none
def GX.d8(k:Nat)(t2:List Int)(t16:Int)(yV:zI)(y_:zP):Option ((Unit×Unit×Int×Bool)×(List Int)×(List Int)):=
 cond (jg 0 y_.2.2.2.2.2.2.2.1 (List.length t2)) ((GY k (kV t2 0 y_.2.2.2.2.2.2.2.1) y_.2.2.1 yV.2.1).bind fun r5=>GX.d9 k t2 t16 r5.1.2 yV y_ r5.2) none
def GX(k:Nat)(t0:zI)(t1:zP)(t2:List Int):Option ((Unit×Unit×Int×Bool)×(List Int)×(List Int)):=
 cond (t1.1==0) ((GV k t2 0 t1.2.2.1 t0.2.1).bind fun r7=>(GV k t2 r7.1.2.1 t1.2.2.1 t0.2.2.1).bind fun r8=>(cond r7.1.2.2 (some (r8.1.2.2)) (some false)).bind fun b9=>some (((),(),r8.1.2.1,b9),(r7.2,r8.2))) ((cond (decide (t1.2.2.2.2.2.2.2.1>(List.length t2:Int))) (some true) (some (decide (t1.2.2.2.2.2.2.1>(IntKind.wrap .i64 ((List.length t2:Int)-t1.2.2.2.2.2.2.2.1)))))).bind fun b10=>cond b10 (some (((),(),0,false),([],[]))) (GX.d8 k t2 (IntKind.wrap .i64 (t1.2.2.2.2.2.2.2.1+t1.2.2.2.2.2.2.1)) t0 t1))
def Jo.c6(k:Nat)(t6:Bool):Option Int:=
 cond t6 (some 8) (some 0)
def Jo(k:Nat)(t0:Int):Option Int:=
 cond (t0==1) (some 4) (cond (t0==2) (Jo.c6 k (t0==2)) (Jo.c6 k (t0==5)))
def Ga.c13(k:Nat)(t1:Int)(t8:Int)(t24:Bool):Option Bool:=
 cond t24 (some (t1==6)) (cond (t8==9) ((Jo k t1).bind fun r1=>some (decide (r1>0))) (some false))
def Ga.c6(k:Nat)(t1:Int)(t8:Int)(t9:Bool):Option Bool:=
 cond t9 (some true) (cond (t8==3) (some (t1==0)) (cond (t8==5) ((cond (t1==1) (some true) (some (t1==2))).bind fun b2=>some b2) (cond (t8==6) (Ga.c13 k t1 t8 (t8==6)) (Ga.c13 k t1 t8 (t8==7)))))
def Ga(k:Nat)(t0:Int)(t1:Int):Option Bool:=
 (FQ k t1).bind fun r3=>cond (!r3) (some false) (cond (t0==0) (Ga.c6 k t1 t0 (t0==0)) (Ga.c6 k t1 t0 (t0==8)))
def I6.l3(k:Nat):Nat→(List Int)→Int→(List za)→Option (Unit×(List za))
 |0,_,_,_=>none
 |n+1,t0,t4,yV=>
  cond (decide (t4<(List.length t0:Int))) ((gU t0 t4).bind fun y1=>cond (lim (List.length yV+List.length ([(y1,zn,())]:List za))) ((I6.l3 k n) t0 (IntKind.wrap .i64 (t4+1)) (yV++[(y1,zn,())])) none) (some ((),yV))
def I6(k:Nat)(t0:List Int):Option (Unit×(List za)):=
 I6.l3 k k t0 0 []
def Ed.l9(k:Nat)(L5:(List Int)→Int→Int→Int→Int→(List Int)→Option ((Unit×Int×Bool)×(List Int))):Nat→(List Int)→Int→Int→Int→Int→Int→Int→(List Int)→Option ((Unit×Int×Bool)×(List Int))
 |0,_,_,_,_,_,_,_,_=>none
 |n+1,t0,t1,t2,t3,t12,t13,t14,yV=>
  cond (decide (t14<t3)) ((Mm k t0 (IntKind.wrap .i64 ((IntKind.wrap .i64 ((IntKind.wrap .i64 (8*t1))+(IntKind.wrap .i64 (t12*t3))))+t14))).bind fun r1=>cond (decide (0≤t14)) ((Ed.l9 k L5 n) t0 t1 t2 t3 t12 (bits .or .i64 t13 (pz .i64 r1 t14)) (IntKind.wrap .i64 (t14+1)) yV) none) (cond (lim (List.length yV+List.length [t13])) (L5 t0 t1 t2 t3 (IntKind.wrap .i64 (t12+1)) (yV++[t13])) none)
def Ed.l5(k:Nat):Nat→(List Int)→Int→Int→Int→Int→(List Int)→Option ((Unit×Int×Bool)×(List Int))
 |0,_,_,_,_,_,_=>none
 |n+1,t0,t1,t2,t3,t12,yV=>
  cond (decide (t12<t2)) (Ed.l9 k (Ed.l5 k n) k t0 t1 t2 t3 t12 0 0 yV) (some (((),IntKind.wrap .i64 (t1+(IntKind.wrap .i64 (Int.tdiv (IntKind.wrap .i64 (t2*t3)) 8))),true),yV))
def Ed(k:Nat)(t0:List Int)(t1:Int)(t2:Int)(t3:Int):Option ((Unit×Int×Bool)×(List Int)):=
 (cond (decide (t3>64)) (some true) (some (decide ((IntKind.wrap .i64 ((List.length t0:Int)-t1))<(IntKind.wrap .i64 (Int.tdiv (IntKind.wrap .i64 (t2*t3)) 8)))))).bind fun b2=>cond b2 (some (((),0,false),[])) (Ed.l5 k k t0 t1 t2 t3 0 [])
def Bl.d28(k:Nat)(UR:(List Int)→Int→Int→Int→Int→Int→Int→Int→Int→(List Int)→(List Int)→(List Int)→Option ((Unit×Int×Bool)×(List Int)))(t0:List Int)(t1:Int)(t8:Int)(t10:Int)(t12:Int)(t17:Int)(t18:Int)(t20:Int)(t24:Int)(yV:List Int)(y_:List Int)(zi:List Int):Option ((Unit×Int×Bool)×(List Int)):=
 (gU y_ (IntKind.wrap .i64 ((List.length y_:Int)-1))).bind fun y1=>(gU zi t24).bind fun y2=>cond (lim (List.length y_+List.length [IntKind.wrap .i64 ((IntKind.wrap .i64 (y1+y2))+t17)])) (UR t0 t1 t8 t10 t12 t17 t18 t20 (IntKind.wrap .i64 (t24+1)) yV (y_++[IntKind.wrap .i64 ((IntKind.wrap .i64 (y1+y2))+t17)]) zi) none
def Bl.Kg(k:Nat)(MK:(List Int)→Int→Int→Int→Int→Int→Int→Int→(List Int)→(List Int)→Option ((Unit×Int×Bool)×(List Int))):Nat→(List Int)→Int→Int→Int→Int→Int→Int→Int→Int→(List Int)→(List Int)→(List Int)→Option ((Unit×Int×Bool)×(List Int))
 |0,_,_,_,_,_,_,_,_,_,_,_,_=>none
 |n+1,t0,t1,t8,t10,t12,t17,t18,t20,t24,yV,y_,zi=>
  (cond (decide (t24<(List.length zi:Int))) (some (decide ((List.length y_:Int)<t12))) (some false)).bind fun b7=>cond b7 (Bl.d28 k (Bl.Kg k MK n) t0 t1 t8 t10 t12 t17 t18 t20 t24 yV y_ zi) (MK t0 t1 t8 t10 t12 t17 t18 (IntKind.wrap .i64 (t20+1)) yV y_)
def Bl.EK(k:Nat)(KE:(List Int)→Int→Int→Int→Int→(List Int)→(List Int)→Option ((Unit×Int×Bool)×(List Int))):Nat→(List Int)→Int→Int→Int→Int→Int→Int→Int→(List Int)→(List Int)→Option ((Unit×Int×Bool)×(List Int))
 |0,_,_,_,_,_,_,_,_,_,_=>none
 |n+1,t0,t1,t8,t10,t12,t17,t18,t20,yV,y_=>
  (cond (decide (t20<t10)) (some (decide ((List.length y_:Int)<t12))) (some false)).bind fun b8=>cond b8 (cond (decide (t10≠0)) ((gU t0 (IntKind.wrap .i64 (t18+t20))).bind fun y9=>(Ed k t0 t1 (IntKind.wrap .i64 (Int.tdiv t8 t10)) (IntKind.wrap .i64 y9)).bind fun zU=>cond (!zU.1.2.2) (some (((),0,false),yV)) (Bl.Kg k (Bl.EK k KE n) k t0 zU.1.2.1 t8 t10 t12 t17 t18 t20 0 yV y_ zU.2)) none) (KE t0 t1 t8 t10 t12 yV y_)
def Bl.A_(k:Nat):Nat→(List Int)→Int→Int→Int→Int→(List Int)→(List Int)→Option ((Unit×Int×Bool)×(List Int))
 |0,_,_,_,_,_,_,_=>none
 |n+1,t0,t1,t8,t10,t12,yV,y_=>
  cond (decide ((List.length y_:Int)<t12)) ((Jp k t0 t1).bind fun Av=>(cond (!Av.2.2) (some true) (some (decide ((IntKind.wrap .i64 ((List.length t0:Int)-Av.2.1))<t10)))).bind fun b12=>cond b12 (some (((),0,false),yV)) (Bl.EK k (Bl.A_ k n) k t0 (IntKind.wrap .i64 (Av.2.1+t10)) t8 t10 t12 Av.1 Av.2.1 0 yV y_)) (some (((),t1,true),y_))
def Bl(k:Nat)(t0:List Int)(t1:Int):Option ((Unit×Int×Bool)×(List Int)):=
 (A8 k t1 0 (List.length t0:Int)).bind fun Ay=>cond (!Ay) (some (((),0,false),[])) ((DZ k t0 t1).bind fun AB=>(DZ k t0 AB.2.1).bind fun Ab=>(DZ k t0 Ab.2.1).bind fun r16=>(Jp k t0 r16.2.1).bind fun Ch=>(cond (!AB.2.2) (some true) (some (!Ab.2.2))).bind fun b18=>(cond b18 (some true) (some (!r16.2.2))).bind fun b19=>(cond b19 (some true) (some (!Ch.2.2))).bind fun b20=>(cond b20 (some true) ((A8 k AB.1 128 1024).bind fun QJ=>some (!QJ))).bind fun Lc=>(cond Lc (some true) (some ((Int.tmod AB.1 128) !=0))).bind fun J3=>(cond J3 (some true) ((A8 k Ab.1 1 AB.1).bind fun Kl=>some (!Kl))).bind fun J4=>(cond J4 (some true) (cond (decide (Ab.1≠0)) (some ((Int.tmod AB.1 Ab.1) !=0)) none)).bind fun MP=>(cond MP (some true) (cond (decide (Ab.1≠0)) (some ((Int.tmod (IntKind.wrap .i64 (Int.tdiv AB.1 Ab.1)) 32) !=0)) none)).bind fun U8=>(cond U8 (some true) ((A8 k r16.1 0 2000).bind fun Pm=>some (!Pm))).bind fun U9=>cond U9 (some (((),0,false),[])) (cond (decide (r16.1>0)) (cond (lim ((0:Nat)+List.length [Ch.1])) (Bl.A_ k k t0 Ch.2.1 AB.1 Ab.1 r16.1 [] ([]++[Ch.1])) none) (Bl.A_ k k t0 Ch.2.1 AB.1 Ab.1 r16.1 [] [])))
def H9.l7(k:Nat):Nat→(List Int)→Int→Int→(List za)→(List Int)→(List za)→Option ((Unit×Int×Bool)×(List za))
 |0,_,_,_,_,_,_=>none
 |n+1,t0,t1,t11,yV,y_,zi=>
  cond (decide (t11<(List.length y_:Int))) ((gU y_ t11).bind fun y1=>(A8 k y1 0 40).bind fun r2=>(cond (!r2) (some true) ((gU y_ t11).bind fun y3=>some (decide (y3>(IntKind.wrap .i64 ((List.length t0:Int)-t1)))))).bind fun b4=>cond b4 (some (((),0,false),yV)) ((gU y_ t11).bind fun y5=>cond (jg t1 (IntKind.wrap .i64 (t1+y5)) (List.length t0)) (cond (lim (List.length zi+List.length [(0,wY (kV t0 t1 (IntKind.wrap .i64 (t1+y5))),())])) ((gU y_ t11).bind fun y6=>(H9.l7 k n) t0 (IntKind.wrap .i64 (t1+y6)) (IntKind.wrap .i64 (t11+1)) yV y_ (zi++[(0,wY (kV t0 t1 (IntKind.wrap .i64 (t1+y5))),())])) none) none)) (some (((),t1,true),zi))
def H9(k:Nat)(t0:List Int)(t1:Int):Option ((Unit×Int×Bool)×(List za)):=
 (Bl k t0 t1).bind fun r7=>cond (!r7.1.2.2) (some (((),0,false),[])) (H9.l7 k k t0 r7.1.2.1 0 [] r7.2 [])
def I1.l9(k:Nat):Nat→Int→ByteArray→Int→(List za)→(List Int)→(List za)→(List za)→Option ((Unit×Int×Bool)×(List za))
 |0,_,_,_,_,_,_,_=>none
 |n+1,t11,t14,t15,yV,y_,zi,zu=>
  cond (decide (t15<(List.length y_:Int))) ((gU y_ t15).bind fun y1=>(A8 k y1 0 (t14.size:Int)).bind fun r2=>cond (!r2) (some (((),0,false),yV)) ((gU y_ t15).bind fun y3=>cond (jg 0 y3 t14.size) ((gU zi t15).bind fun y4=>cond (lim ((ByteArray.extract t14 (Int.toNat 0) (Int.toNat y3)).size+y4.2.1.size)) (cond (decide ((((ByteArray.extract t14 (Int.toNat 0) (Int.toNat y3))++y4.2.1).size:Int)>40)) (some (((),0,false),yV)) (cond (lim (List.length zu+List.length [(0,(ByteArray.extract t14 (Int.toNat 0) (Int.toNat y3))++y4.2.1,())])) ((I1.l9 k n) t11 ((ByteArray.extract t14 (Int.toNat 0) (Int.toNat y3))++y4.2.1) (IntKind.wrap .i64 (t15+1)) yV y_ zi (zu++[(0,(ByteArray.extract t14 (Int.toNat 0) (Int.toNat y3))++y4.2.1,())])) none)) none) none)) (some (((),t11,true),zu))
def I1(k:Nat)(t0:List Int)(t1:Int):Option ((Unit×Int×Bool)×(List za)):=
 (Bl k t0 t1).bind fun r5=>(H9 k t0 r5.1.2.1).bind fun r6=>(cond (!r5.1.2.2) (some true) (some (!r6.1.2.2))).bind fun b7=>(cond b7 (some true) (some ((List.length r5.2:Int) !=(List.length r6.2:Int)))).bind fun b8=>cond b8 (some (((),0,false),[])) (I1.l9 k k r6.1.2.1 zn 0 [] r5.2 r6.2 [])
def Dq.c15(k:Nat)(L6:(List Int)→Int→Int→Int→Int→(List za)→Option ((Unit×Int×Bool)×(List za)))(t1:List Int)(t2:Int)(t3:Int)(t11:Int)(t13:Int)(t14:Int)(yV:List za):Option ((Unit×Int×Bool)×(List za)):=
 cond (lim (List.length yV+List.length ([(t14,zn,())]:List za))) (L6 t1 t2 t3 t11 (IntKind.wrap .i64 (t13+1)) (yV++[(t14,zn,())])) none
def Dq.l10(k:Nat)(L6:(List Int)→Int→Int→Int→Int→(List za)→Option ((Unit×Int×Bool)×(List za))):Nat→(List Int)→Int→Int→Int→Int→Int→Int→(List za)→Option ((Unit×Int×Bool)×(List za))
 |0,_,_,_,_,_,_,_,_=>none
 |n+1,t1,t2,t3,t11,t13,t14,t15,yV=>
  cond (decide (t15<t11)) ((gU t1 (IntKind.wrap .i64 ((IntKind.wrap .i64 (t2+(IntKind.wrap .i64 (t15*t3))))+t13))).bind fun y1=>cond (decide (0≤(IntKind.wrap .i64 (8*t15)))) ((Dq.l10 k L6 n) t1 t2 t3 t11 t13 (bits .or .i64 t14 (pz .i64 (IntKind.wrap .i64 y1) (IntKind.wrap .i64 (8*t15)))) (IntKind.wrap .i64 (t15+1)) yV) none) ((cond (t11==4) (some (decide (t14>2147483647))) (some false)).bind fun b2=>cond b2 (Dq.c15 k L6 t1 t2 t3 t11 t13 (IntKind.wrap .i64 (t14-4294967296)) yV) (Dq.c15 k L6 t1 t2 t3 t11 t13 t14 yV))
def Dq.l6(k:Nat):Nat→(List Int)→Int→Int→Int→Int→(List za)→Option ((Unit×Int×Bool)×(List za))
 |0,_,_,_,_,_,_=>none
 |n+1,t1,t2,t3,t11,t13,yV=>
  cond (decide (t13<t3)) (Dq.l10 k (Dq.l6 k n) k t1 t2 t3 t11 t13 0 0 yV) (some (((),IntKind.wrap .i64 (t2+(IntKind.wrap .i64 (t11*t3))),true),yV))
def Dq(k:Nat)(t0:Int)(t1:List Int)(t2:Int)(t3:Int):Option ((Unit×Int×Bool)×(List za)):=
 (Jo k t0).bind fun r3=>(cond (r3==0) (some true) ((A8 k t3 0 2000).bind fun r4=>some (!r4))).bind fun b5=>(cond b5 (some true) ((A8 k t2 0 (List.length t1:Int)).bind fun r6=>some (!r6))).bind fun b7=>(cond b7 (some true) (some (decide ((IntKind.wrap .i64 ((List.length t1:Int)-t2))<(IntKind.wrap .i64 (r3*t3)))))).bind fun b8=>cond b8 (some (((),0,false),[])) (Dq.l6 k k t1 t2 t3 r3 0 [])
def I4.l8(k:Nat):Nat→Int→Int→Int→(List Int)→(List Int)→Option ((Unit×Int×Bool)×(List Int))
 |0,_,_,_,_,_=>none
 |n+1,t3,t13,t15,yV,y_=>
  cond (decide (t15<(List.length y_:Int))) ((gU y_ t15).bind fun y1=>cond (decide (y1≥t3)) (some (((),0,false),yV)) ((I4.l8 k n) t3 t13 (IntKind.wrap .i64 (t15+1)) yV y_)) (some (((),t13,true),y_))
def I4(k:Nat)(t0:List Int)(t1:Int)(t2:Int)(t3:Int):Option ((Unit×Int×Bool)×(List Int)):=
 (cond (decide (t1<0)) (some true) (some (decide (t1≥(List.length t0:Int))))).bind fun b2=>(cond b2 (some true) ((gU t0 t1).bind fun y3=>some (decide (y3>24)))).bind fun b4=>cond b4 (some (((),0,false),[])) ((gU t0 t1).bind fun y5=>(A7 k t0 (IntKind.wrap .i64 (t1+1)) t2 (IntKind.wrap .i64 y5)).bind fun r6=>cond (!r6.1.2.2) (some (((),0,false),[])) (I4.l8 k k t3 r6.1.2.1 0 [] r6.2))
def IY.l5(k:Nat):Nat→(List za)→(List Int)→Int→(List za)→Option ((Unit×Bool)×(List za))
 |0,_,_,_,_=>none
 |n+1,t0,t1,t7,yV=>
  cond (decide (t7<(List.length t1:Int))) ((gU t1 t7).bind fun y1=>(A8 k y1 0 (IntKind.wrap .i64 ((List.length t0:Int)-1))).bind fun r2=>cond (!r2) (some (((),false),[])) ((gU t1 t7).bind fun y3=>(gU t0 y3).bind fun y4=>cond (lim (List.length yV+List.length [y4])) ((IY.l5 k n) t0 t1 (IntKind.wrap .i64 (t7+1)) (yV++[y4])) none)) (some (((),true),yV))
def IY(k:Nat)(t0:List za)(t1:List Int):Option ((Unit×Bool)×(List za)):=
 cond (decide ((List.length t1:Int)>2000)) (some (((),false),[])) (IY.l5 k k t0 t1 0 [])
def Ml(k:Nat)(t0:Int)(t1:Int)(t2:List Int)(t3:Int)(t4:List za):Option ((Unit×Int×Bool)×(List za)):=
 cond (t0==0) ((DY k t1 t2 0 t3).bind fun r1=>some (((),r1.1.2.1,r1.1.2.2),r1.2)) (cond (t0==3) ((Ec k t2 0 4).bind fun r2=>(cond (!r2.2.2) (some true) (some (r2.1 !=(IntKind.wrap .i64 ((List.length t2:Int)-r2.2.1))))).bind fun b3=>cond b3 (some (((),0,false),[])) ((A7 k t2 r2.2.1 t3 1).bind fun r4=>(I6 k r4.2).bind fun r5=>some (((),r4.1.2.1,r4.1.2.2),r5.2))) (cond (t0==5) ((Bl k t2 0).bind fun r6=>(I6 k r6.2).bind fun r7=>some (((),r6.1.2.1,r6.1.2.2),r7.2)) (cond (t0==6) ((H9 k t2 0).bind fun r8=>some (((),r8.1.2.1,r8.1.2.2),r8.2)) (cond (t0==7) ((I1 k t2 0).bind fun r9=>some (((),r9.1.2.1,r9.1.2.2),r9.2)) (cond (t0==9) ((Dq k t1 t2 0 t3).bind fun zU=>some (((),zU.1.2.1,zU.1.2.2),zU.2)) ((cond (t3==0) (some ((List.length t2:Int)==0)) (some false)).bind fun b11=>cond b11 (some (((),0,true),[])) ((I4 k t2 0 t3 (List.length t4:Int)).bind fun Ad=>(IY k t4 Ad.2).bind fun Ay=>(cond Ad.1.2.2 (some (Ay.1.2)) (some false)).bind fun b14=>some (((),Ad.1.2.1,b14),Ay.2))))))))
def NA(k:Nat)(t0:Int)(t1:Int)(t2:List Int)(t3:Int)(t4:List za):Option ((Unit×Bool)×(List za)):=
 (Ga k t0 t1).bind fun r1=>(cond (!r1) (some true) ((A8 k t3 0 2000).bind fun r2=>some (!r2))).bind fun b3=>cond b3 (some (((),false),[])) ((Ml k t0 t1 t2 t3 t4).bind fun r4=>(cond (!r4.1.2.2) (some true) (some (r4.1.2.1 !=(List.length t2:Int)))).bind fun b5=>(cond b5 (some true) (some ((List.length r4.2:Int) !=t3))).bind fun b6=>(cond b6 (some true) ((Ia k t1 r4.2).bind fun r7=>some (!r7))).bind fun b8=>cond b8 (some (((),false),[])) (some (((),true),r4.2)))
def Bc.Oi(k:Nat)(UT:Int→Int→zI→zP→(List Int)→(List Int)→(List za)→(List zM)→Option ((Unit×Int×Int)×(List zM)))(t25:Int)(t26:Int)(yV:zI)(y_:zP)(zi:List Int)(zu:List Int)(zx:List za)(zC:List zM)(zL:zM):Option ((Unit×Int×Int)×(List zM)):=
 cond (lim (List.length zC+List.length [zL])) (UT t25 (IntKind.wrap .i64 (t26+1)) yV y_ zi zu zx (zC++[zL])) none
def Bc.Df(k:Nat):Nat→Int→Int→zI→zP→(List Int)→(List Int)→(List za)→(List zM)→Option ((Unit×Int×Int)×(List zM))
 |0,_,_,_,_,_,_,_,_=>none
 |n+1,t25,t26,yV,y_,zi,zu,zx,zC=>
  cond (decide (t26<y_.2.2.1)) ((gU zi t26).bind fun y1=>(gU zu t26).bind fun y2=>cond (y2==yV.2.2.1) ((gU zx t25).bind fun y3=>Bc.Oi k (Bc.Df k n) (IntKind.wrap .i64 (t25+1)) t26 yV y_ zi zu zx zC (y1,y2,y3,())) (Bc.Oi k (Bc.Df k n) t25 t26 yV y_ zi zu zx zC (y1,y2,(0,zn,()),()))) (some (((),IntKind.wrap .i64 (y_.2.2.2.2.2.2.2.2.2.2.2.2.1+y_.2.1),0),zC))
def Bc.c16(k:Nat)(KF:(List za)→(List Int)→Int→Int→Int→Int→zI→(List zM)→zP→(List Int)→(List Int)→Option ((Unit×Int×Int)×(List zM)))(t3:List za)(t14:List Int)(t17:Int)(t19:Int)(t20:Int)(t21:Int)(yV:zI)(y_:List zM)(zi:zP)(zu:List Int)(zx:List Int):Option ((Unit×Int×Int)×(List zM)):=
 KF t3 t14 t17 t19 t20 (IntKind.wrap .i64 (t21+1)) yV y_ zi zu zx
def Bc.c19(k:Nat)(KF:(List za)→(List Int)→Int→Int→Int→Int→zI→(List zM)→zP→(List Int)→(List Int)→Option ((Unit×Int×Int)×(List zM)))(t3:List za)(t14:List Int)(t17:Int)(t19:Int)(t20:Int)(t21:Int)(yV:zI)(y_:List zM)(zi:zP)(zu:List Int)(zx:List Int):Option ((Unit×Int×Int)×(List zM)):=
 (gU zx t21).bind fun y4=>cond (y4==yV.2.2.1) (Bc.c16 k KF t3 t14 t17 t19 (IntKind.wrap .i64 (t20+1)) t21 yV y_ zi zu zx) (Bc.c16 k KF t3 t14 t17 t19 t20 t21 yV y_ zi zu zx)
def Bc.BX(k:Nat):Nat→(List za)→(List Int)→Int→Int→Int→Int→zI→(List zM)→zP→(List Int)→(List Int)→Option ((Unit×Int×Int)×(List zM))
 |0,_,_,_,_,_,_,_,_,_,_,_=>none
 |n+1,t3,t14,t17,t19,t20,t21,yV,y_,zi,zu,zx=>
  cond (decide (t21<zi.2.2.1)) ((gU zu t21).bind fun y5=>cond (y5==0) (Bc.c19 k (Bc.BX k n) t3 t14 t17 (IntKind.wrap .i64 (t19+1)) t20 t21 yV y_ zi zu zx) (Bc.c19 k (Bc.BX k n) t3 t14 t17 t19 t20 t21 yV y_ zi zu zx)) ((cond (zi.1==3) ((cond (t19 !=zi.2.2.2.2.1) (some true) (some ((IntKind.wrap .i64 (zi.2.2.1-t20)) !=zi.2.2.2.2.2.1))).bind fun b6=>some (b6)) (some false)).bind fun b7=>cond b7 (some (((),0,4),y_)) (cond (jg t17 ((List.length t14):Int) (List.length t14)) ((NA k zi.2.2.2.1 yV.1 (kV t14 t17 ((List.length t14):Int)) t20 t3).bind fun r8=>cond (!r8.1.2) (some (((),0,5),y_)) (Bc.Df k k 0 0 yV zi zu zx r8.2 [])) none))
def Bc.d8(k:Nat)(t3:List za)(t14:List Int)(yV:zI)(y_:List zM)(zi:zP):Option ((Unit×Int×Int)×(List zM)):=
 cond zi.2.2.2.2.2.2.2.2.1 ((Kn k t14).bind fun r9=>cond (r9 !=zi.2.2.2.2.2.2.2.2.2.1) (some (((),0,3),y_)) ((GX k yV zi t14).bind fun zU=>(cond (!zU.1.2.2.2) (some true) ((cond (decide (zi.2.2.1>0)) ((gU zU.2.1 0).bind fun C8=>some (C8 !=0)) (some false)).bind fun b12=>some (b12))).bind fun b13=>cond b13 (some (((),0,4),y_)) (Bc.BX k k t3 t14 zU.1.2.2.1 0 0 0 yV y_ zi zU.2.1 zU.2.2))) (cond false (some (((),0,3),y_)) ((GX k yV zi t14).bind fun AB=>(cond (!AB.1.2.2.2) (some true) ((cond (decide (zi.2.2.1>0)) ((gU AB.2.1 0).bind fun Gh=>some (Gh !=0)) (some false)).bind fun b16=>some (b16))).bind fun b17=>cond b17 (some (((),0,4),y_)) (Bc.BX k k t3 t14 AB.1.2.2.1 0 0 0 yV y_ zi AB.2.1 AB.2.2)))
def Bc(k:Nat)(t0:zI)(t1:List Int)(t2:Int)(t3:List za):Option ((Unit×Int×Int)×(List zM)):=
 (CQ k t0 t1 t2).bind fun Jm=>cond (Jm.2 !=0) (some (((),0,Jm.2),[])) (cond (Jm.1.1==2) (some (((),0,1),[])) (cond (jg Jm.1.2.2.2.2.2.2.2.2.2.2.2.2.1 (IntKind.wrap .i64 (Jm.1.2.2.2.2.2.2.2.2.2.2.2.2.1+Jm.1.2.1)) (List.length t1)) (Bc.d8 k t3 (kV t1 Jm.1.2.2.2.2.2.2.2.2.2.2.2.2.1 (IntKind.wrap .i64 (Jm.1.2.2.2.2.2.2.2.2.2.2.2.2.1+Jm.1.2.1))) t0 [] Jm.1) none))
def Ko.d8(k:Nat)(t0:Int)(t12:List Int)(yV:List za)(y_:zP):Option ((Unit×Int×Int)×(List za)):=
 cond y_.2.2.2.2.2.2.2.2.1 ((Kn k t12).bind fun r1=>cond (r1 !=y_.2.2.2.2.2.2.2.2.2.1) (some (((),0,3),yV)) ((DY k t0 t12 0 y_.2.2.1).bind fun r2=>(cond (!r2.1.2.2) (some true) (some (r2.1.2.1 !=(List.length t12:Int)))).bind fun b3=>cond b3 (some (((),0,5),yV)) (some (((),IntKind.wrap .i64 (y_.2.2.2.2.2.2.2.2.2.2.2.2.1+y_.2.1),0),r2.2)))) (cond false (some (((),0,3),yV)) ((DY k t0 t12 0 y_.2.2.1).bind fun r4=>(cond (!r4.1.2.2) (some true) (some (r4.1.2.1 !=(List.length t12:Int)))).bind fun b5=>cond b5 (some (((),0,5),yV)) (some (((),IntKind.wrap .i64 (y_.2.2.2.2.2.2.2.2.2.2.2.2.1+y_.2.1),0),r4.2))))
def Ko(k:Nat)(t0:Int)(t1:List Int)(t2:Int):Option ((Unit×Int×Int)×(List za)):=
 (CQ k (t0,0,0,()) t1 t2).bind fun r16=>cond (r16.2 !=0) (some (((),0,r16.2),[])) ((cond (r16.1.1 !=2) (some true) ((cond (r16.1.2.2.2.1 !=0) (some (r16.1.2.2.2.1 !=2)) (some false)).bind fun b17=>some (b17))).bind fun b18=>cond b18 (some (((),0,1),[])) (cond (jg r16.1.2.2.2.2.2.2.2.2.2.2.2.2.1 (IntKind.wrap .i64 (r16.1.2.2.2.2.2.2.2.2.2.2.2.2.1+r16.1.2.1)) (List.length t1)) (Ko.d8 k t0 (kV t1 r16.1.2.2.2.2.2.2.2.2.2.2.2.2.1 (IntKind.wrap .i64 (r16.1.2.2.2.2.2.2.2.2.2.2.2.2.1+r16.1.2.1))) [] r16.1) none))
def DX.A_(k:Nat):Nat→(List Int)→Int→Int→zI→BC→(List Int)→(List za)→(List za)→(List Int)→Option ((Unit×Unit×Int)×(List Int)×(List za))
 |0,_,_,_,_,_,_,_,_,_=>none
 |n+1,t1,t16,t17,yV,y_,zi,zu,zx,zC=>
  cond (decide (t17<y_.2.2.2.1)) ((CQ k yV t1 t16).bind fun r1=>cond (r1.2 !=0) (some (((),(),r1.2),(zi,zu))) ((cond (r1.1.1==2) (some true) (some (r1.1.2.2.1==0))).bind fun b2=>(cond b2 (some true) (some (decide ((IntKind.wrap .i64 (t17+r1.1.2.2.1))>y_.2.2.2.1)))).bind fun b3=>cond b3 (some (((),(),1),(zi,zu))) (cond (lim (List.length zC+List.length [t16])) ((DX.A_ k n) t1 (IntKind.wrap .i64 (r1.1.2.2.2.2.2.2.2.2.2.2.2.2.1+r1.1.2.1)) (IntKind.wrap .i64 (t17+r1.1.2.2.1)) yV y_ zi zu zx (zC++[t16])) none))) (some (((),(),0),(zC,zx)))
def DX.c10(k:Nat)(t1:List Int)(yV:zI)(y_:BC)(zi:List Int)(zu:List za)(zx:List za):Option ((Unit×Unit×Int)×(List Int)×(List za)):=
 DX.A_ k k t1 y_.2.1 0 yV y_ zi zu zx []
def DX(k:Nat)(t0:zI)(t1:List Int)(t2:BC):Option ((Unit×Unit×Int)×(List Int)×(List za)):=
 (cond (decide (t2.2.1<0)) (some true) (some (decide (t2.2.2.1<(-1))))).bind fun b4=>cond b4 (some (((),(),1),([],[]))) (cond (decide (t2.2.2.1≥0)) ((Ko k t0.1 t1 t2.2.2.1).bind fun r5=>cond (r5.1.2.2 !=0) (some (((),(),r5.1.2.2),([],[]))) (DX.c10 k t1 t0 t2 [] [] r5.2)) (DX.c10 k t1 t0 t2 [] [] []))
def IX.l6(k:Nat):Nat→(List Int)→Int→zI→(List Int)→(List za)→(List zM)→Option ((Unit×Int)×(List zM))
 |0,_,_,_,_,_,_=>none
 |n+1,t1,t12,yV,y_,zi,zu=>
  cond (decide (t12<(List.length y_:Int))) ((gU y_ t12).bind fun y1=>(Bc k yV t1 y1 zi).bind fun r2=>cond (r2.1.2.2 !=0) (some (((),r2.1.2.2),[])) (cond (lim (List.length zu+List.length r2.2)) ((IX.l6 k n) t1 (IntKind.wrap .i64 (t12+1)) yV y_ zi (zu++r2.2)) none)) (some (((),0),zu))
def IX(k:Nat)(t0:zI)(t1:List Int)(t2:BC):Option ((Unit×Int)×(List zM)):=
 (DX k t0 t1 t2).bind fun r3=>cond (r3.1.2.2 !=0) (some (((),r3.1.2.2),[])) (IX.l6 k k t1 0 t0 r3.2.1 r3.2.2 [])
def Di.c5(k:Nat)(L4:(List ze)→Int→Int→Int→(List Int)→Option (Int×Int))(t0:List ze)(t6:Int)(t7:Int)(t9:Int)(yV:List Int):Option (Int×Int):=
 L4 t0 t6 t7 (IntKind.wrap .i64 (t9+1)) yV
def Di.c8(k:Nat)(L4:(List ze)→Int→Int→Int→(List Int)→Option (Int×Int))(t0:List ze)(t6:Int)(t7:Int)(t9:Int)(yV:List Int):Option (Int×Int):=
 (gU yV t9).bind fun y1=>(gU t0 y1).bind fun y2=>cond (y2.2.2.1==2) (Di.c5 k L4 t0 t6 (IntKind.wrap .i64 (t7+1)) t9 yV) (Di.c5 k L4 t0 t6 t7 t9 yV)
def Di.l4(k:Nat):Nat→(List ze)→Int→Int→Int→(List Int)→Option (Int×Int)
 |0,_,_,_,_,_=>none
 |n+1,t0,t6,t7,t9,yV=>
  cond (decide (t9<(List.length yV:Int))) ((gU yV t9).bind fun y3=>(gU t0 y3).bind fun y4=>cond (y4.2.2.1 !=0) (Di.c8 k (Di.l4 k n) t0 (IntKind.wrap .i64 (t6+1)) t7 t9 yV) (Di.c8 k (Di.l4 k n) t0 t6 t7 t9 yV)) (some (t6,t7))
def Di(k:Nat)(t0:List ze)(t1:Int):Option (Int×Int):=
 (EN k t0 t1).bind fun r5=>Di.l4 k k t0 0 0 0 r5.2
def Kq(k:Nat)(t0:List ze)(t1:Int):Option (zI×Bool):=
 (JO k t0).bind fun r1=>(A8 k t1 0 (IntKind.wrap .i64 ((List.length r1.2:Int)-1))).bind fun r2=>cond (!r2) (some ((0,0,0,()),false)) ((gU r1.2 t1).bind fun y3=>(Di k t0 y3).bind fun r4=>(gU r1.2 t1).bind fun y5=>(gU t0 y5).bind fun y6=>some ((y6.2.1,r4.2,r4.1,()),true))
def Px(k:Nat)(t0:zI)(t1:zM):Option Bool:=
 (A8 k t1.1 0 t0.2.1).bind fun r1=>(cond (!r1) (some true) ((A8 k t1.2.1 0 t0.2.2.1).bind fun r2=>some (!r2))).bind fun b3=>cond b3 (some false) (cond (decide (t1.2.1<t0.2.2.1)) (some ((t1.2.2.1.1==0)&&(iY t1.2.2.1.2.1 zn&&true))) ((FL k t0.1 t1.2.2.1).bind fun r4=>some r4))
def H_.l5(k:Nat):Nat→(List zM)→Int→zI→Option Bool
 |0,_,_,_=>none
 |n+1,t2,t9,yV=>
  cond (decide (t9<(List.length t2:Int))) ((gU t2 t9).bind fun y1=>(Px k yV y1).bind fun r2=>cond (!r2) (some false) ((H_.l5 k n) t2 (IntKind.wrap .i64 (t9+1)) yV)) (some true)
def H_(k:Nat)(t0:List ze)(t1:Int)(t2:List zM):Option Bool:=
 (Kq k t0 t1).bind fun r3=>(cond (!r3.2) (some true) (some (decide ((List.length t2:Int)>2000)))).bind fun b4=>(cond b4 (some true) ((cond (decide ((List.length t2:Int)>0)) ((gU t2 0).bind fun y5=>some (y5.1 !=0)) (some false)).bind fun b6=>some (b6))).bind fun b7=>cond b7 (some false) (H_.l5 k k t2 0 r3.1)
def EL.c4(k:Nat)(L3:(List zM)→Int→Int→Option Int)(t0:List zM)(t3:Int)(t4:Int):Option Int:=
 L3 t0 t3 (IntKind.wrap .i64 (t4+1))
def EL.l3(k:Nat):Nat→(List zM)→Int→Int→Option Int
 |0,_,_,_=>none
 |n+1,t0,t3,t4=>
  cond (decide (t4<(List.length t0:Int))) ((gU t0 t4).bind fun y1=>cond (y1.1==0) (EL.c4 k (EL.l3 k n) t0 (IntKind.wrap .i64 (t3+1)) t4) (EL.c4 k (EL.l3 k n) t0 t3 t4)) (some t3)
def EL(k:Nat)(t0:List zM):Option Int:=
 EL.l3 k k t0 0 0
def EE.c4(k:Nat)(L3:(List ze)→Int→Int→Int→Option Int)(t0:List ze)(t1:Int)(t5:Int)(t6:Int):Option Int:=
 L3 t0 t1 t5 (IntKind.wrap .i64 (t6+1))
def EE.l3(k:Nat):Nat→(List ze)→Int→Int→Int→Option Int
 |0,_,_,_,_=>none
 |n+1,t0,t1,t5,t6=>
  cond (decide (t6<t1)) ((gU t0 t6).bind fun y1=>cond (y1.2.1 !=7) (EE.c4 k (EE.l3 k n) t0 t1 (IntKind.wrap .i64 (t5+1)) t6) (EE.c4 k (EE.l3 k n) t0 t1 t5 t6)) (some t5)
def EE(k:Nat)(t0:List ze)(t1:Int):Option Int:=
 EE.l3 k k t0 t1 0 0
def ND(k:Nat)(t0:List Bf)(t1:Int)(t3:Int)(t4:Int)(zl:List Int):Option (Bool×(List Int)):=
 (gU zl t1).bind fun y1=>(gU t0 t1).bind fun y2=>(cond (decide (y1≥(List.length y2.1:Int))) (some true) ((gU t0 t1).bind fun y3=>(gU zl t1).bind fun y4=>(gU y3.1 y4).bind fun y5=>some (y5.1 !=t3))).bind fun b6=>(cond b6 (some true) ((gU t0 t1).bind fun y7=>(gU zl t1).bind fun y8=>(gU y7.1 y8).bind fun y9=>some (y9.2.1 !=t4))).bind fun b10=>cond b10 (some (false,zl)) ((gU zl t1).bind fun C8=>(gU zl t1).bind fun Dy=>(gU zl t1).bind fun y13=>some (true,List.set zl (Int.toNat t1) (IntKind.wrap .i64 (C8+1))))
def Bz.l8(k:Nat)(G7:(List ze)→Int→(List Bf)→Int→Int→Int→(List Int)→(List za)→Option ((Unit×Bool)×(List Int)×(List za))):Nat→(List ze)→Int→(List Bf)→Int→Int→Int→Int→Int→(List Int)→(List za)→Option ((Unit×Bool)×(List Int)×(List za))
 |0,_,_,_,_,_,_,_,_,_,_=>none
 |n+1,t0,t1,t2,t4,t5,t6,t19,t20,zl,yV=>
  (gU t0 t1).bind fun y1=>cond (decide (t20<y1.2.2.2.1)) ((G7 t0 t19 t2 t4 t5 t6 zl yV).bind fun r2=>cond (!r2.1.2) (some (((),false),(r2.2.1,r2.2.2))) ((Da k t0 t19).bind fun r3=>(Bz.l8 k G7 n) t0 t1 t2 t4 t5 t6 r3 (IntKind.wrap .i64 (t20+1)) r2.2.1 r2.2.2)) (some (((),true),(zl,yV)))
def Bz.d5(k:Nat)(t2:List Bf)(t18:Int)(zl:List Int)(zJ:List za):Option ((Unit×Bool)×(List Int)×(List za)):=
 (gU t2 t18).bind fun y4=>(gU zl t18).bind fun y5=>(gU y4.1 (IntKind.wrap .i64 (y5-1))).bind fun y6=>cond (lim (List.length zJ+List.length [y6.2.2.1])) (some (((),true),(zl,zJ++[y6.2.2.1]))) none
def Bz.b(k:Nat)(EX:(List ze)→Int→(List Bf)→Int→Int→Int→(List Int)→(List za)→Option ((Unit×Bool)×(List Int)×(List za)))(G7:(List ze)→Int→(List Bf)→Int→Int→Int→(List Int)→(List za)→Option ((Unit×Bool)×(List Int)×(List za)))(t0:List ze)(t1:Int)(t2:List Bf)(t4:Int)(t5:Int)(t6:Int)(zl:List Int)(zJ:List za):Option ((Unit×Bool)×(List Int)×(List za)):=
 (gU t0 t1).bind fun y13=>cond (y13.2.1 !=7) ((EE k t0 t1).bind fun AB=>(ND k t2 AB t4 t5 zl).bind fun Ab=>cond (!Ab.1) (some (((),false),(Ab.2,zJ))) (Bz.d5 k t2 AB Ab.2 zJ)) (Bz.l8 k G7 k t0 t1 t2 t4 t5 t6 (IntKind.wrap .i64 (t1+1)) 0 zl zJ)
def Ci.Dp(k:Nat)(EX:(List ze)→Int→(List Bf)→Int→Int→Int→(List Int)→(List za)→Option ((Unit×Bool)×(List Int)×(List za))):Nat→(List ze)→Int→(List Bf)→Int→Int→Int→Int→Int→Bool→(List Int)→(List za)→Option ((Unit×Bool)×(List Int)×(List za))
 |0,_,_,_,_,_,_,_,_,_,_,_=>none
 |n+1,t0,t1,t2,t4,t5,t6,t18,t19,t21,zl,yV=>
  cond t21 ((gU yV t19).bind fun y1=>(gU yV t19).bind fun y2=>(gU yV t19).bind fun y3=>(EX t0 t1 t2 t4 (IntKind.wrap .i64 (t5+1)) t6 zl (List.set yV (Int.toNat t19) (IntKind.wrap .i64 (y1.1+1),y3.2.1,()))).bind fun r4=>cond (!r4.1.2) (some (((),false),(r4.2.1,r4.2.2))) ((gU t0 t1).bind fun y5=>(cond (y5.2.2.1==2) ((gU r4.2.1 t18).bind fun y6=>(gU t2 t18).bind fun y7=>some (decide (y6<(List.length y7.1:Int)))) (some false)).bind fun b8=>(cond b8 ((gU t2 t18).bind fun y9=>(gU r4.2.1 t18).bind fun CU=>(gU y9.1 CU).bind fun C8=>some (C8.1==t6)) (some false)).bind fun b12=>(Ci.Dp k EX n) t0 t1 t2 t6 t5 t6 t18 t19 b12 r4.2.1 r4.2.2)) (some (((),true),(zl,yV)))
def Ci.c17(k:Nat)(EX:(List ze)→Int→(List Bf)→Int→Int→Int→(List Int)→(List za)→Option ((Unit×Bool)×(List Int)×(List za)))(t0:List ze)(t1:Int)(t2:List Bf)(t4:Int)(t5:Int)(t6:Int)(t18:Int)(t19:Int)(zl:List Int)(yV:List za):Option ((Unit×Bool)×(List Int)×(List za)):=
 Ci.Dp k EX k t0 t1 t2 t4 t5 t6 t18 t19 true zl yV
def Ci.l10(k:Nat):Nat→(List ze)→Int→(List Bf)→Int→Int→Int→(List Int)→(List za)→Option ((Unit×Bool)×(List Int)×(List za))
 |0,_,_,_,_,_,_,_,_=>none
 |n+1,t0,t1,t2,t4,t5,t20,zl,yV=>
  (Da k t0 t1).bind fun Ay=>(EE k t0 Ay).bind fun AB=>cond (decide (t20<AB)) ((ND k t2 t20 t4 t5 zl).bind fun Ab=>cond (!Ab.1) (some (((),false),(Ab.2,yV))) ((Ci.l10 k n) t0 t1 t2 t4 t5 (IntKind.wrap .i64 (t20+1)) Ab.2 yV)) (some (((),true),(zl,yV)))
def Ci.b(k:Nat)(EX:(List ze)→Int→(List Bf)→Int→Int→Int→(List Int)→(List za)→Option ((Unit×Bool)×(List Int)×(List za)))(G7:(List ze)→Int→(List Bf)→Int→Int→Int→(List Int)→(List za)→Option ((Unit×Bool)×(List Int)×(List za)))(t0:List ze)(t1:Int)(t2:List Bf)(t4:Int)(t5:Int)(t6:Int)(zl:List Int)(zJ:List za):Option ((Unit×Bool)×(List Int)×(List za)):=
 (gU t0 t1).bind fun Ig=>cond (Ig.2.2.1==0) ((EX t0 t1 t2 t4 t5 t6 zl zJ).bind fun Ch=>some (((),Ch.1.2),(Ch.2.1,Ch.2.2))) ((EE k t0 t1).bind fun DR=>(gU zl DR).bind fun Kw=>(gU t2 DR).bind fun y20=>cond (decide (Kw≥(List.length y20.1:Int))) (some (((),false),(zl,zJ))) (cond (lim (List.length zJ+List.length ([(0,zn,())]:List za))) ((gU t2 DR).bind fun y21=>(gU zl DR).bind fun y22=>(gU y21.1 y22).bind fun y23=>cond (decide (y23.2.1≤t5)) (Ci.l10 k k t0 t1 t2 t4 t5 DR zl (zJ++[(0,zn,())])) ((gU t0 t1).bind fun y24=>cond (y24.2.2.1==2) (Ci.c17 k EX t0 t1 t2 t4 t5 (IntKind.wrap .i64 (t6+1)) DR (List.length zJ:Int) zl (zJ++[(0,zn,())])) (Ci.c17 k EX t0 t1 t2 t4 t5 t6 DR (List.length zJ:Int) zl (zJ++[(0,zn,())])))) none))
def Bz.rec(k:Nat):Nat→((List ze)→Int→(List Bf)→Int→Int→Int→(List Int)→(List za)→Option ((Unit×Bool)×(List Int)×(List za)))×((List ze)→Int→(List Bf)→Int→Int→Int→(List Int)→(List za)→Option ((Unit×Bool)×(List Int)×(List za)))
 |0=>(fun _ _ _ _ _ _ _ _=>none,fun _ _ _ _ _ _ _ _=>none)
 |d+1=>(Bz.b k ((Bz.rec k d).1) ((Bz.rec k d).2),Ci.b k ((Bz.rec k d).1) ((Bz.rec k d).2))
def Bz.d(k d:Nat):(List ze)→Int→(List Bf)→Int→Int→Int→(List Int)→(List za)→Option ((Unit×Bool)×(List Int)×(List za)):=(Bz.rec k d).1
def Bz(k:Nat):(List ze)→Int→(List Bf)→Int→Int→Int→(List Int)→(List za)→Option ((Unit×Bool)×(List Int)×(List za)):=Bz.d k k
def Ci.d(k d:Nat):(List ze)→Int→(List Bf)→Int→Int→Int→(List Int)→(List za)→Option ((Unit×Bool)×(List Int)×(List za)):=(Bz.rec k d).2
def Ci(k:Nat):(List ze)→Int→(List Bf)→Int→Int→Int→(List Int)→(List za)→Option ((Unit×Bool)×(List Int)×(List za)):=Ci.d k k
def NC(k:Nat)(t0:za)(t1:Int):Option Int:=
 (cond (!iY t0.2.1 zn) (some true) ((A8 k t0.1 0 t1).bind fun r1=>some (!r1))).bind fun b2=>cond b2 (some (-1)) (some t0.1)
def Bw.l7(k:Nat)(G8:(List ze)→Int→(List za)→Int→Option Int):Nat→(List ze)→Int→(List za)→Int→Int→Int→Option Int
 |0,_,_,_,_,_,_=>none
 |n+1,t0,t1,t2,t3,t9,t10=>
  (gU t0 t1).bind fun y1=>cond (decide (t10<y1.2.2.2.1)) ((G8 t0 t9 t2 t3).bind fun r2=>cond (decide (r2<0)) (some (-1)) ((Da k t0 t9).bind fun r3=>(Bw.l7 k G8 n) t0 t1 t2 r2 r3 (IntKind.wrap .i64 (t10+1)))) (some t3)
def Bw.b(k:Nat)(Ee:(List ze)→Int→(List za)→Int→Option Int)(G8:(List ze)→Int→(List za)→Int→Option Int)(t0:List ze)(t1:Int)(t2:List za)(t3:Int):Option Int:=
 (gU t0 t1).bind fun y4=>cond (y4.2.1 !=7) ((cond (decide (t3≥(List.length t2:Int))) (some true) ((gU t0 t1).bind fun y5=>(gU t2 t3).bind fun y6=>(FL k y5.2.1 y6).bind fun r7=>some (!r7))).bind fun b8=>cond b8 (some (-1)) (some (IntKind.wrap .i64 (t3+1)))) (Bw.l7 k G8 k t0 t1 t2 t3 (IntKind.wrap .i64 (t1+1)) 0)
def C7.A_(k:Nat)(Ee:(List ze)→Int→(List za)→Int→Option Int):Nat→(List ze)→Int→(List za)→Int→Int→Int→Option Int
 |0,_,_,_,_,_,_=>none
 |n+1,t0,t1,t2,t3,t9,t11=>
  cond (decide (t11<t9)) ((Ee t0 t1 t2 t3).bind fun r1=>cond (decide (r1<0)) (some (-1)) ((C7.A_ k Ee n) t0 t1 t2 r1 t9 (IntKind.wrap .i64 (t11+1)))) (some t3)
def C7.c12(k:Nat)(Ee:(List ze)→Int→(List za)→Int→Option Int)(t0:List ze)(t1:Int)(t2:List za)(t3:Int)(t9:Int):Option Int:=
 C7.A_ k Ee k t0 t1 t2 t3 t9 0
def C7.c6(k:Nat)(Ee:(List ze)→Int→(List za)→Int→Option Int)(t0:List ze)(t1:Int)(t2:List za)(t3:Int)(t10:Int):Option Int:=
 cond (decide (t3≥(List.length t2:Int))) (some (-1)) ((gU t2 t3).bind fun y2=>(NC k y2 t10).bind fun r3=>cond (decide (r3<0)) (some (-1)) (C7.c12 k Ee t0 t1 t2 (IntKind.wrap .i64 (t3+1)) r3))
def C7.b(k:Nat)(Ee:(List ze)→Int→(List za)→Int→Option Int)(G8:(List ze)→Int→(List za)→Int→Option Int)(t0:List ze)(t1:Int)(t2:List za)(t3:Int):Option Int:=
 (gU t0 t1).bind fun y4=>cond (y4.2.2.1 !=0) ((gU t0 t1).bind fun y5=>cond (y5.2.2.1==2) (C7.c6 k Ee t0 t1 t2 t3 20) (C7.c6 k Ee t0 t1 t2 t3 1)) (C7.c12 k Ee t0 t1 t2 t3 1)
def Bw.rec(k:Nat):Nat→((List ze)→Int→(List za)→Int→Option Int)×((List ze)→Int→(List za)→Int→Option Int)
 |0=>(fun _ _ _ _=>none,fun _ _ _ _=>none)
 |d+1=>(Bw.b k ((Bw.rec k d).1) ((Bw.rec k d).2),C7.b k ((Bw.rec k d).1) ((Bw.rec k d).2))
def Bw.d(k d:Nat):(List ze)→Int→(List za)→Int→Option Int:=(Bw.rec k d).1
def Bw(k:Nat):(List ze)→Int→(List za)→Int→Option Int:=Bw.d k k
def C7.d(k d:Nat):(List ze)→Int→(List za)→Int→Option Int:=(Bw.rec k d).2
def C7(k:Nat):(List ze)→Int→(List za)→Int→Option Int:=C7.d k k
def JN.d1(k:Nat)(t0:List ze)(yV:Aw):Option Bool:=
 (Eb k t0).bind fun r1=>cond r1 (cond (decide ((List.length yV.1:Int)≤300)) ((Bw k t0 0 yV.1 0).bind fun r2=>some (r2==(List.length yV.1:Int))) (some false)) (cond false ((Bw k t0 0 yV.1 0).bind fun r3=>some (r3==(List.length yV.1:Int))) (some false))
def JN(k:Nat)(t0:List ze)(t1:Aw):Option Bool:=
 JN.d1 k t0 t1
def AZ.Df(k:Nat):Nat→(List ze)→Int→(List Aw)→Option ((Unit×Int)×(List Aw))
 |0,_,_,_=>none
 |n+1,t0,t15,yV=>
  cond (decide (t15<(List.length yV:Int))) ((gU yV t15).bind fun y1=>(JN k t0 y1).bind fun r2=>cond (!r2) (some (((),4),[])) ((AZ.Df k n) t0 (IntKind.wrap .i64 (t15+1)) yV)) (some (((),0),yV))
def AZ.Ea(k:Nat):Nat→(List ze)→(List Bf)→Int→(List Aw)→(List Int)→Option ((Unit×Int)×(List Aw))
 |0,_,_,_,_,_=>none
 |n+1,t0,t1,t14,yV,y_=>
  cond (decide (t14<(List.length t1:Int))) ((gU y_ t14).bind fun y3=>(gU t1 t14).bind fun y4=>cond (y3 !=(List.length y4.1:Int)) (some (((),3),[])) ((AZ.Ea k n) t0 t1 (IntKind.wrap .i64 (t14+1)) yV y_)) (AZ.Df k k t0 0 yV)
def AZ.Jg(k:Nat):Nat→(List ze)→(List Bf)→Int→Int→(List Aw)→(List Int)→Option ((Unit×Int)×(List Aw))
 |0,_,_,_,_,_,_=>none
 |n+1,t0,t1,t8,t11,yV,y_=>
  cond (decide (t11<t8)) ((Bz k t0 0 t1 0 0 0 y_ []).bind fun r5=>cond (!r5.1.2) (some (((),3),[])) (cond (lim (List.length yV+List.length [(r5.2.2,())])) ((AZ.Jg k n) t0 t1 t8 (IntKind.wrap .i64 (t11+1)) (yV++[(r5.2.2,())]) r5.2.1) none)) (AZ.Ea k k t0 t1 0 yV y_)
def AZ.AL(k:Nat):Nat→(List ze)→(List Bf)→Int→Int→(List Aw)→Option ((Unit×Int)×(List Aw))
 |0,_,_,_,_,_=>none
 |n+1,t0,t1,t8,t9,yV=>
  cond (decide (t9<(List.length t1:Int))) ((gU t1 t9).bind fun y6=>(EL k y6.1).bind fun r7=>(cond (r7 !=t8) (some true) (some (decide (t8>200)))).bind fun b8=>cond b8 (some (((),2),yV)) ((AZ.AL k n) t0 t1 t8 (IntKind.wrap .i64 (t9+1)) yV)) (cond (oV (List.length t1:Int)) (AZ.Jg k k t0 t1 t8 0 yV (List.replicate (Int.toNat (List.length t1:Int)) 0)) none)
def AZ.l5(k:Nat):Nat→(List ze)→(List Bf)→Int→(List Aw)→Option ((Unit×Int)×(List Aw))
 |0,_,_,_,_=>none
 |n+1,t0,t1,t7,yV=>
  cond (decide (t7<(List.length t1:Int))) ((gU t1 t7).bind fun y9=>(H_ k t0 t7 y9.1).bind fun zU=>cond (!zU) (some (((),1),yV)) ((AZ.l5 k n) t0 t1 (IntKind.wrap .i64 (t7+1)) yV)) ((gU t1 0).bind fun C8=>(EL k C8.1).bind fun Ad=>AZ.AL k k t0 t1 Ad 0 yV)
def AZ(k:Nat)(t0:List ze)(t1:List Bf):Option ((Unit×Int)×(List Aw)):=
 (Eb k t0).bind fun Ay=>(cond (!Ay) (some true) ((Dh k t0).bind fun AB=>some ((List.length t1:Int) !=(List.length AB.2:Int)))).bind fun b15=>cond b15 (some (((),1),[])) (AZ.l5 k k t0 t1 0 [])
def FP.d7(k:Nat)(L4:(List Int)→Int→DI→Ar→(List Bf)→Option ((Unit×Int)×(List Aw)))(t0:List Int)(t10:Int)(yV:DI)(y_:Ar)(zi:List Bf)(zu:zI):Option ((Unit×Int)×(List Aw)):=
 (gU y_.2.1 t10).bind fun y1=>(IX k zu t0 y1).bind fun r2=>cond (r2.1.2 !=0) (some (((),4),[])) (cond (lim (List.length zi+List.length [(r2.2,())])) (L4 t0 (IntKind.wrap .i64 (t10+1)) yV y_ (zi++[(r2.2,())])) none)
def FP.l4(k:Nat):Nat→(List Int)→Int→DI→Ar→(List Bf)→Option ((Unit×Int)×(List Aw))
 |0,_,_,_,_,_=>none
 |n+1,t0,t10,yV,y_,zi=>
  cond (decide (t10<(List.length y_.2.1:Int))) ((Kq k yV.1 t10).bind fun r5=>FP.d7 k (FP.l4 k n) t0 t10 yV y_ zi r5.1) ((AZ k yV.1 zi).bind fun r6=>(cond (r6.1.2 !=0) (some true) (some ((List.length r6.2:Int) !=y_.1))).bind fun b7=>cond b7 (some (((),5),[])) (some (((),0),r6.2)))
def FP(k:Nat)(t0:List Int)(t1:DI)(t2:Int):Option ((Unit×Int)×(List Aw)):=
 (gU t1.2.2.1 t2).bind fun y8=>FP.l4 k k t0 0 t1 y8 []
def IZ.l7(k:Nat):Nat→(List Int)→Int→(List Aw)→(Unit×Int×Unit×Unit)→(List Aw)→(List ze)→(List Ar)→Option ((Unit×Unit×Int)×(List ze)×(List Aw))
 |0,_,_,_,_,_,_,_=>none
 |n+1,t0,t9,yV,y_,zi,zu,zx=>
  cond (decide (t9<(List.length zx:Int))) ((FP k t0 (zu,y_.2.1,zx,()) t9).bind fun r1=>cond (r1.1.2 !=0) (some (((),(),r1.1.2),([],yV))) (cond (lim (List.length zi+List.length r1.2)) ((IZ.l7 k n) t0 (IntKind.wrap .i64 (t9+1)) yV y_ (zi++r1.2) zu zx) none)) (some (((),(),0),(zu,zi)))
def IZ(k:Nat)(t0:List Int):Option ((Unit×Unit×Int)×(List ze)×(List Aw)):=
 (Pq k t0).bind fun r2=>cond (r2.1.2 !=0) (some (((),(),r2.1.2),([],[]))) (IZ.l7 k k t0 0 [] r2.1.1 [] r2.2.1 r2.2.2)
def Az(k:Nat)(t0:Int)(t1:Int)(t2:Int):Option Bool:=
 (cond (decide (t0≥t1)) (some (decide (t0≤t2))) (some false)).bind fun b1=>some b1
def Ey.l5(k:Nat):Nat→(List Int)→Int→Int→Int→Int→Int→Option (Int×Int×Bool)
 |0,_,_,_,_,_,_=>none
 |n+1,t0,t1,t2,t9,t26,t27=>
  cond (decide (t27<t26)) ((gU t0 (IntKind.wrap .i64 (t1+t27))).bind fun y1=>cond (decide (0≤(IntKind.wrap .i64 (8*t27)))) ((Ey.l5 k n) t0 t1 t2 (bits .or .i64 t9 (pz .i64 (IntKind.wrap .i64 y1) (IntKind.wrap .i64 (8*t27)))) t26 (IntKind.wrap .i64 (t27+1))) none) (some (t9,IntKind.wrap .i64 (t1+t2),true))
def Ey(k:Nat)(t0:List Int)(t1:Int)(t2:Int):Option (Int×Int×Bool):=
 (Az k t2 1 8).bind fun r2=>(cond (!r2) (some true) (some (decide (t1<0)))).bind fun b3=>(cond b3 (some true) (some (decide (t1>(IntKind.wrap .i64 ((List.length t0:Int)-t2)))))).bind fun b4=>cond b4 (some (0,0,false)) (Ey.l5 k k t0 t1 t2 0 t2 0)
def GJ(k:Nat)(t0:Int):Option Int:=
 some (bits .xor .i64 (IntKind.wrap .i64 (pE .u64 (IntKind.wrap .u64 t0) 1)) (IntKind.wrap .i64 (0-(bits .and .i64 t0 1))))
def KR(k:Nat)(t0:Int):Option Bool:=
 (Az k t0 (-2147483648) 2147483647).bind fun r1=>some r1
def FC(k:Nat)(t1:Int)(o0:zB)(zl:List zf):Option (Unit×zB×(List zf)):=
 cond (o0.2.2.2.1==0) (some ((),((o0.1,o0.2.1,(),t1,()),zl))) (some ((),(o0,zl)))
def Ho.c3(k:Nat)(o0:zB)(zl:List zf)(yV:zf):Option (Int×zB×(List zf)):=
 cond (o0.2.2.2.1 !=0) (some (0,(o0,zl))) (cond (lim (List.length zl+List.length [yV])) (some (IntKind.wrap .i64 ((List.length (zl++[yV]):Int)-1),(o0,zl++[yV]))) none)
def Ho(k:Nat)(t1:zf)(t2:Int)(o0:zB)(zl:List zf):Option (Int×zB×(List zf)):=
 (cond (decide (t2>12)) (some true) (some ((List.length zl:Int)==1500))).bind fun b1=>cond b1 ((FC k 4 o0 zl).bind fun r2=>Ho.c3 k r2.2.1 r2.2.2 t1) (Ho.c3 k o0 zl t1)
def D9.c12(k:Nat):Option (Int×Int×Bool):=
 some (0,0,false)
def D9.l5(k:Nat):Nat→(List Int)→Int→Int→Int→Option (Int×Int×Bool)
 |0,_,_,_,_=>none
 |n+1,t0,t1,t7,t8=>
  (cond (decide (t8<10)) (some (decide (t8<(IntKind.wrap .i64 ((List.length t0:Int)-t1))))) (some false)).bind fun b1=>cond b1 ((gU t0 (IntKind.wrap .i64 (t1+t8))).bind fun y2=>(cond (t8==9) (some (decide (y2>1))) (some false)).bind fun b3=>cond b3 (D9.c12 k) (cond (decide (0≤(IntKind.wrap .i64 (7*t8)))) (cond (decide (y2<128)) (some (IntKind.wrap .i64 (bits .or .u64 t7 (pz .u64 (IntKind.wrap .u64 (bits .and .u8 y2 127)) (IntKind.wrap .i64 (7*t8)))),IntKind.wrap .i64 ((IntKind.wrap .i64 (t1+t8))+1),true)) ((D9.l5 k n) t0 t1 (bits .or .u64 t7 (pz .u64 (IntKind.wrap .u64 (bits .and .u8 y2 127)) (IntKind.wrap .i64 (7*t8)))) (IntKind.wrap .i64 (t8+1)))) none)) (D9.c12 k)
def D9(k:Nat)(t0:List Int)(t1:Int):Option (Int×Int×Bool):=
 cond (decide (t1<0)) (some (0,0,false)) (D9.l5 k k t0 t1 0 0)
def JB(k:Nat)(o0:zB)(zl:List zf):Option (Int×zB×(List zf)):=
 (D9 k o0.1 o0.2.1).bind fun r1=>(cond (o0.2.2.2.1 !=0) (some true) (some (!r1.2.2))).bind fun b2=>cond b2 ((FC k 1 o0 zl).bind fun r3=>some (0,(r3.2.1,r3.2.2))) (some (r1.1,((o0.1,r1.2.1,(),o0.2.2.2.1,()),zl)))
def Eo.c6(k:Nat)(t3:Int)(o0:zB)(zl:List zf):Option (ByteArray×zB×(List zf)):=
 cond (o0.2.2.2.1 !=0) (some (zn,(o0,zl))) (cond (jg (IntKind.wrap .i64 ((IntKind.wrap .i64 (o0.2.1+t3))-t3)) (IntKind.wrap .i64 (o0.2.1+t3)) (List.length o0.1)) (some (wY (kV o0.1 (IntKind.wrap .i64 ((IntKind.wrap .i64 (o0.2.1+t3))-t3)) (IntKind.wrap .i64 (o0.2.1+t3))),((o0.1,IntKind.wrap .i64 (o0.2.1+t3),(),o0.2.2.2.1,()),zl))) none)
def Eo.c4(k:Nat)(t3:Int)(o0:zB)(zl:List zf):Option (ByteArray×zB×(List zf)):=
 (cond (o0.2.2.2.1==0) (some (decide (t3>(IntKind.wrap .i64 ((List.length o0.1:Int)-o0.2.1))))) (some false)).bind fun b1=>cond b1 ((FC k 1 o0 zl).bind fun r2=>Eo.c6 k t3 r2.2.1 r2.2.2) (Eo.c6 k t3 o0 zl)
def Eo(k:Nat)(o0:zB)(zl:List zf):Option (ByteArray×zB×(List zf)):=
 (JB k o0 zl).bind fun r3=>(cond (r3.2.1.2.2.2.1==0) ((Az k r3.1 0 300).bind fun r4=>some (!r4)) (some false)).bind fun b5=>cond b5 ((FC k 4 r3.2.1 r3.2.2).bind fun r6=>Eo.c4 k r3.1 r6.2.1 r6.2.2) (Eo.c4 k r3.1 r3.2.1 r3.2.2)
def KT(k:Nat)(o0:zB)(zl:List zf):Option (Int×zB×(List zf)):=
 (cond (o0.2.2.2.1 !=0) (some true) (some (decide (o0.2.1≥(List.length o0.1:Int))))).bind fun b1=>cond b1 ((FC k 1 o0 zl).bind fun r2=>some (0,(r2.2.1,r2.2.2))) ((gU o0.1 (IntKind.wrap .i64 ((IntKind.wrap .i64 (o0.2.1+1))-1))).bind fun y3=>some (IntKind.wrap .i64 y3,((o0.1,IntKind.wrap .i64 (o0.2.1+1),(),o0.2.2.2.1,()),zl)))
def El.c10(k:Nat)(t11:Bool):Option Bool:=
 cond t11 (some true) (some false)
def El.c4(k:Nat)(t1:Bool)(t5:Int)(t6:Bool):Option Bool:=
 cond t6 (some (!t1)) (cond (t5==5) (El.c10 k (t5==5)) (cond (t5==6) (El.c10 k (t5==6)) (cond (t5==8) (El.c10 k (t5==8)) (cond (t5==9) (El.c10 k (t5==9)) (El.c10 k (t5==12))))))
def El(k:Nat)(t0:Int)(t1:Bool):Option Bool:=
 cond (t0==1) (El.c4 k t1 t0 (t0==1)) (El.c4 k t1 t0 (t0==2))
def Aj.c8(k:Nat)(t8:Int)(t9:Int)(o0:zB)(yV:List zf):Option (Unit×zB×(List zf)):=
 (gU yV t8).bind fun y1=>(gU yV t8).bind fun y2=>some ((),(o0,List.set yV (Int.toNat t8) (y2.1,y2.2.1,t9,y2.2.2.2.1,y2.2.2.2.2.1,())))
def Aj.d10(k:Nat)(t8:Int)(o0:zB)(yV:List zf):Option (Unit×zB×(List zf)):=
 (Eo k o0 yV).bind fun r3=>(gU r3.2.2 t8).bind fun y4=>(gU r3.2.2 t8).bind fun y5=>some ((),(r3.2.1,List.set r3.2.2 (Int.toNat t8) (y5.1,y5.2.1,y5.2.2.1,r3.1,y5.2.2.2.2.1,())))
def Aj.c5(k:Nat)(Fv:Int→Int→zB→(List zf)→Option (Unit×zB×(List zf)))(Fw:Int→Int→zB→(List zf)→Option (Unit×zB×(List zf)))(t1:Int)(t3:Int)(t8:Int)(t21:Int)(t22:Bool)(o0:zB)(yV:List zf):Option (Unit×zB×(List zf)):=
 cond t22 ((JB k o0 yV).bind fun Ad=>(GJ k Ad.1).bind fun Ay=>(cond (t1==5) (some (Ad.2.1.2.2.2.1==0)) (some false)).bind fun b14=>(cond b14 ((KR k Ay).bind fun Ab=>some (!Ab)) (some false)).bind fun b16=>cond b16 ((FC k 3 Ad.2.1 Ad.2.2).bind fun Ch=>Aj.c8 k t8 Ay Ch.2.1 Ch.2.2) (Aj.c8 k t8 Ay Ad.2.1 Ad.2.2)) (cond (t21==8) (Aj.d10 k t8 o0 yV) (cond (t21==9) ((Fv t8 t3 o0 yV).bind fun DR=>some ((),(DR.2.1,DR.2.2))) (cond (t21==12) ((Fw t8 t3 o0 yV).bind fun CY=>some ((),(CY.2.1,CY.2.2))) (some ((),(o0,yV))))))
def Aj.b(k:Nat)(AV:Int→Int→Int→zB→(List zf)→Option (Unit×zB×(List zf)))(Fv:Int→Int→zB→(List zf)→Option (Unit×zB×(List zf)))(Fw:Int→Int→zB→(List zf)→Option (Unit×zB×(List zf)))(t1:Int)(t2:Int)(t3:Int)(o0:zB)(zl:List zf):Option (Unit×zB×(List zf)):=
 (Ho k (t1,t2,0,zn,0,()) t3 o0 zl).bind fun ED=>cond (ED.2.1.2.2.2.1 !=0) (some ((),(ED.2.1,ED.2.2))) (cond (t1==5) (Aj.c5 k Fv Fw t1 t3 ED.1 t1 (t1==5) ED.2.1 ED.2.2) (Aj.c5 k Fv Fw t1 t3 ED.1 t1 (t1==6) ED.2.1 ED.2.2))
def Be.AL(k:Nat)(AV:Int→Int→Int→zB→(List zf)→Option (Unit×zB×(List zf))):Nat→Int→Int→Int→Int→zB→(List zf)→Option (Unit×zB×(List zf))
 |0,_,_,_,_,_,_=>none
 |n+1,t2,t7,t8,t9,o0,yV=>
  (cond (decide (t9<t7)) (some (o0.2.2.2.1==0)) (some false)).bind fun b1=>cond b1 ((AV t8 0 (IntKind.wrap .i64 (t2+1)) o0 yV).bind fun r2=>(Be.AL k AV n) t2 t7 t8 (IntKind.wrap .i64 (t9+1)) r2.2.1 r2.2.2) (some ((),(o0,yV)))
def Be.c9(k:Nat)(AV:Int→Int→Int→zB→(List zf)→Option (Unit×zB×(List zf)))(t1:Int)(t2:Int)(t7:Int)(t8:Int)(o0:zB)(zl:List zf):Option (Unit×zB×(List zf)):=
 (gU zl t1).bind fun y3=>(gU zl t1).bind fun y4=>(gU (List.set zl (Int.toNat t1) (y4.1,y4.2.1,y4.2.2.1,y4.2.2.2.1,t7,())) t1).bind fun y5=>(gU (List.set zl (Int.toNat t1) (y4.1,y4.2.1,y4.2.2.1,y4.2.2.2.1,t7,())) t1).bind fun y6=>Be.AL k AV k t2 t7 t8 0 o0 (List.set (List.set zl (Int.toNat t1) (y4.1,y4.2.1,y4.2.2.1,y4.2.2.2.1,t7,())) (Int.toNat t1) (y6.1,y6.2.1,t8,y6.2.2.2.1,y6.2.2.2.2.1,()))
def Be.c7(k:Nat)(AV:Int→Int→Int→zB→(List zf)→Option (Unit×zB×(List zf)))(t1:Int)(t2:Int)(t7:Int)(t8:Int)(o0:zB)(zl:List zf):Option (Unit×zB×(List zf)):=
 (Az k t7 0 1500).bind fun r7=>cond (!r7) ((FC k 4 o0 zl).bind fun r8=>Be.c9 k AV t1 t2 t7 t8 r8.2.1 r8.2.2) (Be.c9 k AV t1 t2 t7 t8 o0 zl)
def Be.c4(k:Nat)(AV:Int→Int→Int→zB→(List zf)→Option (Unit×zB×(List zf)))(t1:Int)(t2:Int)(t7:Int)(t8:Int)(o0:zB)(zl:List zf):Option (Unit×zB×(List zf)):=
 (cond (o0.2.2.2.1 !=0) (some true) (some (t7==0))).bind fun b9=>cond b9 (some ((),(o0,zl))) ((El k t8 true).bind fun zU=>cond (!zU) ((FC k 2 o0 zl).bind fun Av=>Be.c7 k AV t1 t2 t7 t8 Av.2.1 Av.2.2) (Be.c7 k AV t1 t2 t7 t8 o0 zl))
def Be.b(k:Nat)(AV:Int→Int→Int→zB→(List zf)→Option (Unit×zB×(List zf)))(Fv:Int→Int→zB→(List zf)→Option (Unit×zB×(List zf)))(Fw:Int→Int→zB→(List zf)→Option (Unit×zB×(List zf)))(t1:Int)(t2:Int)(o0:zB)(zl:List zf):Option (Unit×zB×(List zf)):=
 (KT k o0 zl).bind fun Ad=>cond ((IntKind.wrap .i64 (Int.tdiv Ad.1 16))==15) ((JB k Ad.2.1 Ad.2.2).bind fun Ay=>Be.c4 k AV t1 t2 Ay.1 (Int.tmod Ad.1 16) Ay.2.1 Ay.2.2) (Be.c4 k AV t1 t2 (IntKind.wrap .i64 (Int.tdiv Ad.1 16)) (Int.tmod Ad.1 16) Ad.2.1 Ad.2.2)
def AQ.c12(k:Nat)(AV:Int→Int→Int→zB→(List zf)→Option (Unit×zB×(List zf)))(L1:Int→Int→Int→zB→(List zf)→Option (Unit×zB×(List zf)))(t1:Int)(t2:Int)(t8:Int)(t9:Int)(o0:zB)(yV:List zf):Option (Unit×zB×(List zf)):=
 cond (o0.2.2.2.1 !=0) (some ((),(o0,yV))) ((gU yV t1).bind fun y1=>(gU yV t1).bind fun y2=>(gU yV t1).bind fun y3=>(AV t8 t9 (IntKind.wrap .i64 (t2+1)) o0 (List.set yV (Int.toNat t1) (y3.1,y3.2.1,y3.2.2.1,y3.2.2.2.1,IntKind.wrap .i64 (y1.2.2.2.2.1+1),()))).bind fun r4=>L1 t1 t2 t9 r4.2.1 r4.2.2)
def AQ.c10(k:Nat)(AV:Int→Int→Int→zB→(List zf)→Option (Unit×zB×(List zf)))(L1:Int→Int→Int→zB→(List zf)→Option (Unit×zB×(List zf)))(t1:Int)(t2:Int)(t6:Int)(t8:Int)(t9:Int)(o0:zB)(yV:List zf):Option (Unit×zB×(List zf)):=
 (cond (o0.2.2.2.1==0) (some (decide (t9≤t6))) (some false)).bind fun b5=>cond b5 ((FC k 5 o0 yV).bind fun r6=>AQ.c12 k AV L1 t1 t2 t8 t9 r6.2.1 r6.2.2) (AQ.c12 k AV L1 t1 t2 t8 t9 o0 yV)
def AQ.c8(k:Nat)(AV:Int→Int→Int→zB→(List zf)→Option (Unit×zB×(List zf)))(L1:Int→Int→Int→zB→(List zf)→Option (Unit×zB×(List zf)))(t1:Int)(t2:Int)(t6:Int)(t8:Int)(t9:Int)(o0:zB)(yV:List zf):Option (Unit×zB×(List zf)):=
 (cond (o0.2.2.2.1==0) ((Az k t9 1 1000).bind fun r7=>some (!r7)) (some false)).bind fun b8=>cond b8 ((FC k 3 o0 yV).bind fun r9=>AQ.c10 k AV L1 t1 t2 t6 t8 t9 r9.2.1 r9.2.2) (AQ.c10 k AV L1 t1 t2 t6 t8 t9 o0 yV)
def AQ.c6(k:Nat)(AV:Int→Int→Int→zB→(List zf)→Option (Unit×zB×(List zf)))(L1:Int→Int→Int→zB→(List zf)→Option (Unit×zB×(List zf)))(t1:Int)(t2:Int)(t6:Int)(t7:Int)(t8:Int)(t9:Int)(o0:zB)(yV:List zf):Option (Unit×zB×(List zf)):=
 cond (decide (t7<16)) ((JB k o0 yV).bind fun zU=>(GJ k zU.1).bind fun Av=>AQ.c8 k AV L1 t1 t2 t6 t8 Av zU.2.1 zU.2.2) (AQ.c8 k AV L1 t1 t2 t6 t8 t9 o0 yV)
def AQ.l1(k:Nat)(AV:Int→Int→Int→zB→(List zf)→Option (Unit×zB×(List zf))):Nat→Int→Int→Int→zB→(List zf)→Option (Unit×zB×(List zf))
 |0,_,_,_,_,_=>none
 |n+1,t1,t2,t6,o0,yV=>
  (KT k o0 yV).bind fun Ad=>(cond (Ad.2.1.2.2.2.1 !=0) (some true) (some (Ad.1==0))).bind fun b13=>cond b13 (some ((),(Ad.2.1,Ad.2.2))) ((El k (Int.tmod Ad.1 16) false).bind fun AB=>cond (!AB) ((FC k 2 Ad.2.1 Ad.2.2).bind fun Ab=>AQ.c6 k AV (AQ.l1 k AV n) t1 t2 t6 Ad.1 (Int.tmod Ad.1 16) (IntKind.wrap .i64 (t6+(IntKind.wrap .i64 (Int.tdiv Ad.1 16)))) Ab.2.1 Ab.2.2) (AQ.c6 k AV (AQ.l1 k AV n) t1 t2 t6 Ad.1 (Int.tmod Ad.1 16) (IntKind.wrap .i64 (t6+(IntKind.wrap .i64 (Int.tdiv Ad.1 16)))) Ad.2.1 Ad.2.2))
def AQ.b(k:Nat)(AV:Int→Int→Int→zB→(List zf)→Option (Unit×zB×(List zf)))(Fv:Int→Int→zB→(List zf)→Option (Unit×zB×(List zf)))(Fw:Int→Int→zB→(List zf)→Option (Unit×zB×(List zf)))(t1:Int)(t2:Int)(o0:zB)(zl:List zf):Option (Unit×zB×(List zf)):=
 AQ.l1 k AV k t1 t2 0 o0 zl
def Aj.rec(k:Nat):Nat→(Int→Int→Int→zB→(List zf)→Option (Unit×zB×(List zf)))×(Int→Int→zB→(List zf)→Option (Unit×zB×(List zf)))×(Int→Int→zB→(List zf)→Option (Unit×zB×(List zf)))
 |0=>(fun _ _ _ _ _=>none,fun _ _ _ _=>none,fun _ _ _ _=>none)
 |d+1=>(Aj.b k ((Aj.rec k d).1) ((Aj.rec k d).2.1) ((Aj.rec k d).2.2),Be.b k ((Aj.rec k d).1) ((Aj.rec k d).2.1) ((Aj.rec k d).2.2),AQ.b k ((Aj.rec k d).1) ((Aj.rec k d).2.1) ((Aj.rec k d).2.2))
def Aj.d(k d:Nat):Int→Int→Int→zB→(List zf)→Option (Unit×zB×(List zf)):=(Aj.rec k d).1
def Aj(k:Nat):Int→Int→Int→zB→(List zf)→Option (Unit×zB×(List zf)):=Aj.d k k
def Be.d(k d:Nat):Int→Int→zB→(List zf)→Option (Unit×zB×(List zf)):=(Aj.rec k d).2.1
def Be(k:Nat):Int→Int→zB→(List zf)→Option (Unit×zB×(List zf)):=Be.d k k
def AQ.d(k d:Nat):Int→Int→zB→(List zf)→Option (Unit×zB×(List zf)):=(Aj.rec k d).2.2
def AQ(k:Nat):Int→Int→zB→(List zf)→Option (Unit×zB×(List zf)):=AQ.d k k
def LP(k:Nat)(t0:List Int)(t1:Int):Option ((Unit×Int×Int)×(List zf)):=
 (Az k t1 0 (IntKind.wrap .i64 ((List.length t0:Int)-1))).bind fun r1=>cond (!r1) (some (((),0,1),[])) ((Aj k 12 0 1 (t0,t1,(),0,()) []).bind fun r2=>cond (r2.2.1.2.2.2.1 !=0) (some (((),0,r2.2.1.2.2.2.1),[])) (some (((),r2.2.1.2.1,0),r2.2.2)))
def J9(k:Nat)(t0:Int):Option Bool:=
 (Az k t0 0 2).bind fun r1=>(cond r1 (some true) (some (t0==5))).bind fun b2=>(cond b2 (some true) (some (t0==6))).bind fun b3=>some b3
def OX(k:Nat)(t0:ze):Option Bool:=
 (cond (t0.2.1==7) (some (decide (t0.2.2.2.1>0))) (some false)).bind fun b1=>(J9 k t0.2.1).bind fun r2=>(cond r2 (some (t0.2.2.2.1==0)) (some false)).bind fun b3=>(cond b1 (some true) (some (b3))).bind fun b4=>(cond b4 ((Az k t0.2.2.1 0 2).bind fun r5=>some (r5)) (some false)).bind fun b6=>some b6
def Iw.l2(k:Nat):Nat→ByteArray→Int→Int→Option Bool
 |0,_,_,_=>none
 |n+1,t0,t5,t6=>
  cond (decide (t6<t5)) ((nC t0 t6).bind fun y1=>(Az k (IntKind.wrap .i64 y1) 97 122).bind fun r2=>cond (!r2) (some false) ((Iw.l2 k n) t0 t5 (IntKind.wrap .i64 (t6+1)))) ((Az k (t0.size:Int) 1 20).bind fun r3=>some r3)
def Iw(k:Nat)(t0:ByteArray):Option Bool:=
 Iw.l2 k k t0 (t0.size:Int) 0
def Bb.l10(k:Nat)(Gz:(List ze)→Int→Int→Option Int)(L6:(List ze)→Int→Int→Int→Int→(List ByteArray)→Option Int):Nat→(List ze)→Int→Int→Int→Int→Int→Int→(List ByteArray)→Option Int
 |0,_,_,_,_,_,_,_,_=>none
 |n+1,t0,t2,t7,t47,t48,t55,t56,yV=>
  cond (decide (t56<t55)) ((gU yV t56).bind fun y1=>(gU t0 t7).bind fun y2=>cond (iY y1 y2.1) (some (-1)) ((Bb.l10 k Gz L6 n) t0 t2 t7 t47 t48 t55 (IntKind.wrap .i64 (t56+1)) yV)) ((gU t0 t7).bind fun y3=>cond (lim (List.length yV+List.length [y3.1])) ((Gz t0 t7 (IntKind.wrap .i64 (t2+1))).bind fun r4=>cond (decide (r4<0)) (some (-1)) (L6 t0 t2 r4 t47 (IntKind.wrap .i64 (t48+1)) (yV++[y3.1]))) none)
def Bb.l6(k:Nat)(Gz:(List ze)→Int→Int→Option Int):Nat→(List ze)→Int→Int→Int→Int→(List ByteArray)→Option Int
 |0,_,_,_,_,_,_=>none
 |n+1,t0,t2,t7,t47,t48,yV=>
  cond (decide (t48<t47)) (cond (decide (t7≥(List.length t0:Int))) (some (-1)) (Bb.l10 k Gz (Bb.l6 k Gz n) k t0 t2 t7 t47 t48 (List.length yV:Int) 0 yV)) (some t7)
def Bb.b(k:Nat)(Gz:(List ze)→Int→Int→Option Int)(t0:List ze)(t1:Int)(t2:Int):Option Int:=
 (cond (decide (t1≥(List.length t0:Int))) (some true) (some (decide (t2>6)))).bind fun b5=>(cond b5 (some true) ((gU t0 t1).bind fun y6=>(OX k y6).bind fun r7=>some (!r7))).bind fun b8=>(cond b8 (some true) ((cond (decide (t1>0)) ((gU t0 t1).bind fun y9=>(Iw k y9.1).bind fun zU=>some (!zU)) (some false)).bind fun b11=>some (b11))).bind fun b12=>cond b12 (some (-1)) ((gU t0 t1).bind fun y13=>Bb.l6 k Gz k t0 t2 (IntKind.wrap .i64 (t1+1)) y13.2.2.2.1 0 [])
def Bb.rec(k:Nat):Nat→((List ze)→Int→Int→Option Int)
 |0=>fun _ _ _=>none
 |d+1=>Bb.b k ((Bb.rec k d))
def Bb.d(k d:Nat):(List ze)→Int→Int→Option Int:=(Bb.rec k d)
def Bb(k:Nat):(List ze)→Int→Int→Option Int:=Bb.d k k
def Ex(k:Nat)(t0:List ze):Option Bool:=
 (Az k (List.length t0:Int) 2 20).bind fun r1=>(cond (!r1) (some true) ((gU t0 0).bind fun y2=>some (y2.2.1 !=7))).bind fun b3=>(cond b3 (some true) ((gU t0 0).bind fun y4=>some (y4.2.2.1 !=0))).bind fun b5=>(cond b5 (some true) ((gU t0 0).bind fun y6=>some (!iY y6.1 zn))).bind fun b7=>cond b7 (some false) ((Bb k t0 0 1).bind fun r8=>some (r8==(List.length t0:Int)))
def Em.c7(k:Nat)(L3:(List ze)→Int→Int→(List Int)→Option (Unit×(List Int)))(t7:List ze)(t8:Int)(t9:Int)(yV:List Int):Option (Unit×(List Int)):=
 L3 t7 t8 (IntKind.wrap .i64 (t9+1)) yV
def Em.l3(k:Nat):Nat→(List ze)→Int→Int→(List Int)→Option (Unit×(List Int))
 |0,_,_,_,_=>none
 |n+1,t7,t8,t9,yV=>
  cond (decide (t9<t8)) ((gU t7 t9).bind fun y1=>cond (y1.2.1 !=7) (cond (lim (List.length yV+List.length [t9])) (Em.c7 k (Em.l3 k n) t7 t8 t9 (yV++[t9])) none) (Em.c7 k (Em.l3 k n) t7 t8 t9 yV)) (some ((),yV))
def Em(k:Nat)(t0:List ze):Option (Unit×(List Int)):=
 Em.l3 k k t0 (List.length t0:Int) 0 []
def Je.l2(k:Nat):Nat→(List Int)→(List Int)→Int→Int→Option Bool
 |0,_,_,_,_=>none
 |n+1,t0,t5,t6,t7=>
  cond (decide (t7<t6)) ((gU t5 t7).bind fun y1=>(Az k y1 0 9).bind fun r2=>(cond (!r2) (some true) ((cond (decide (t7>0)) ((gU t0 (IntKind.wrap .i64 (t7-1))).bind fun y3=>some (decide (y3≥y1))) (some false)).bind fun b4=>some (b4))).bind fun b5=>cond b5 (some false) ((Je.l2 k n) t0 t5 t6 (IntKind.wrap .i64 (t7+1)))) ((Az k (List.length t0:Int) 1 5).bind fun r6=>some r6)
def Je(k:Nat)(t0:List Int):Option Bool:=
 Je.l2 k k t0 t0 (List.length t0:Int) 0
def OW(k:Nat)(t0:BC)(t1:Int):Option Bool:=
 (Az k t0.2.1 0 60000).bind fun r1=>(cond r1 ((Az k t0.2.2.1 (-1) 60000).bind fun r2=>some (r2)) (some false)).bind fun b3=>(cond b3 ((Az k t0.2.2.2.2.1 0 60000).bind fun r4=>some (r4)) (some false)).bind fun b5=>(cond (t0.1==t1) (some (b5)) (some false)).bind fun b6=>(cond b6 ((Az k t0.2.2.2.1 1 2000).bind fun r7=>some (r7)) (some false)).bind fun b8=>(cond b8 ((Je k t0.2.2.2.2.2.1).bind fun r9=>some (r9)) (some false)).bind fun b10=>some b10
def CL.l10(k:Nat)(L5:Int→(List Ar)→Int→Int→DI→Option Bool):Nat→Int→(List Ar)→Int→Int→(List BC)→Int→Int→DI→Ar→Option Bool
 |0,_,_,_,_,_,_,_,_,_=>none
 |n+1,t3,t19,t20,t21,t40,t41,t42,yV,y_=>
  cond (decide (t42<t41)) ((gU t40 t42).bind fun y1=>(OW k y1 t42).bind fun r2=>cond (!r2) (some false) ((CL.l10 k L5 n) t3 t19 t20 t21 t40 t41 (IntKind.wrap .i64 (t42+1)) yV y_)) (L5 (IntKind.wrap .i64 (t3+y_.1)) t19 t20 (IntKind.wrap .i64 (t21+1)) yV)
def CL.d7(k:Nat)(L5:Int→(List Ar)→Int→Int→DI→Option Bool)(t3:Int)(t19:List Ar)(t20:Int)(t21:Int)(yV:DI)(y_:Ar):Option Bool:=
 (Az k y_.1 1 200).bind fun r3=>cond (!r3) (cond true (some false) (CL.l10 k L5 k t3 t19 t20 t21 y_.2.1 (List.length y_.2.1:Int) 0 yV y_)) ((Em k yV.1).bind fun r4=>cond ((List.length y_.2.1:Int) !=(List.length r4.2:Int)) (some false) (CL.l10 k L5 k t3 t19 t20 t21 y_.2.1 (List.length y_.2.1:Int) 0 yV y_))
def CL.l5(k:Nat):Nat→Int→(List Ar)→Int→Int→DI→Option Bool
 |0,_,_,_,_,_=>none
 |n+1,t3,t19,t20,t21,yV=>
  cond (decide (t21<t20)) ((gU t19 t21).bind fun y9=>CL.d7 k (CL.l5 k n) t3 t19 t20 t21 yV y9) ((cond (t3==yV.2.1) (some (decide (t3≤200))) (some false)).bind fun b10=>some b10)
def CL(k:Nat)(t0:DI):Option Bool:=
 (Ex k t0.1).bind fun Av=>(cond (!Av) (some true) (some (decide ((List.length t0.2.2.1:Int)>40)))).bind fun b12=>cond b12 (some false) (CL.l5 k k 0 t0.2.2.1 (List.length t0.2.2.1:Int) 0 t0)
def OZ(k:Nat)(t0:zf):Option Bool:=
 cond (t0.1==5) ((KR k t0.2.2.1).bind fun r1=>(cond r1 (some (iY t0.2.2.2.1 zn)) (some false)).bind fun b2=>(cond b2 (some (t0.2.2.2.2.1==0)) (some false)).bind fun b3=>some b3) (cond (t0.1==6) ((cond (iY t0.2.2.2.1 zn) (some (t0.2.2.2.2.1==0)) (some false)).bind fun b4=>some b4) (cond (t0.1==8) ((cond (t0.2.2.1==0) (some (decide ((t0.2.2.2.1.size:Int)≤300))) (some false)).bind fun b5=>(cond b5 (some (t0.2.2.2.2.1==0)) (some false)).bind fun b6=>some b6) (cond (t0.1==9) ((cond (iY t0.2.2.2.1 zn) (some (decide (t0.2.2.2.2.1≥0))) (some false)).bind fun b7=>(cond b7 ((cond (t0.2.2.2.2.1==0) (some (t0.2.2.1==0)) (some false)).bind fun b8=>(cond b8 (some true) ((cond (decide (t0.2.2.2.2.1>0)) ((El k t0.2.2.1 true).bind fun r9=>some (r9)) (some false)).bind fun b10=>some (b10))).bind fun b11=>some (b11)) (some false)).bind fun b12=>some b12) (cond (t0.1==12) ((cond (t0.2.2.1==0) (some (iY t0.2.2.2.1 zn)) (some false)).bind fun b13=>(cond b13 (some (decide (t0.2.2.2.2.1≥0))) (some false)).bind fun b14=>some b14) ((El k t0.1 false).bind fun Ab=>(cond Ab (some (t0.2.2.1==0)) (some false)).bind fun b16=>(cond b16 (some (iY t0.2.2.2.1 zn)) (some false)).bind fun b17=>(cond b17 (some (t0.2.2.2.2.1==0)) (some false)).bind fun b18=>some b18)))))
def Dn.l7(k:Nat)(JX:Int→Int→(Bool×zF)→(List Int)→Option (Int×zF×(List Int))):Nat→Int→Int→Int→Int→Int→Int→zF→(List Int)→zf→Option (Int×zF×(List Int))
 |0,_,_,_,_,_,_,_,_,_=>none
 |n+1,t1,t2,t8,t9,t43,t44,o0,zl,yV=>
  cond (decide (t44<t43)) (cond (decide (t8≥(List.length o0.1:Int))) (some ((-1),(o0,zl))) ((gU o0.1 t8).bind fun y1=>(cond (yV.1==9) ((cond (y1.1 !=yV.2.2.1) (some true) (some (y1.2.1 !=0))).bind fun b2=>some (b2)) (some false)).bind fun b3=>cond b3 (some ((-1),(o0,zl))) ((cond (yV.1==12) ((Az k y1.2.1 (IntKind.wrap .i64 (t9+1)) 1000).bind fun r4=>some (!r4)) (some false)).bind fun b5=>cond b5 (some ((-1),(o0,zl))) ((JX t8 (IntKind.wrap .i64 (t2+1)) (true,o0) zl).bind fun r6=>cond (decide (r6.1<0)) (some ((-1),(r6.2.1,r6.2.2))) ((Dn.l7 k JX n) t1 t2 r6.1 y1.2.1 t43 (IntKind.wrap .i64 (t44+1)) r6.2.1 r6.2.2 yV))))) ((gU zl t1).bind fun y7=>(gU zl t1).bind fun y8=>some (t8,(o0,List.set zl (Int.toNat t1) t8)))
def Dn.b(k:Nat)(JX:Int→Int→(Bool×zF)→(List Int)→Option (Int×zF×(List Int)))(t1:Int)(t2:Int)(o0:Bool×zF)(zl:List Int):Option (Int×zF×(List Int)):=
 cond (o0.1) ((cond (decide (t1≥(List.length o0.2.1:Int))) (some true) (some (decide (t2>12)))).bind fun b9=>(cond b9 (some true) ((gU o0.2.1 t1).bind fun CU=>(OZ k CU).bind fun Av=>some (!Av))).bind fun b12=>cond b12 (some ((-1),(o0.2,zl))) ((gU o0.2.1 t1).bind fun y13=>Dn.l7 k JX k t1 t2 (IntKind.wrap .i64 (t1+1)) 0 y13.2.2.2.2.1 0 o0.2 zl y13)) none
def Dn.rec(k:Nat):Nat→(Int→Int→(Bool×zF)→(List Int)→Option (Int×zF×(List Int)))
 |0=>fun _ _ _ _=>none
 |d+1=>Dn.b k ((Dn.rec k d))
def Dn.d(k d:Nat):Int→Int→(Bool×zF)→(List Int)→Option (Int×zF×(List Int)):=(Dn.rec k d)
def Dn(k:Nat):Int→Int→(Bool×zF)→(List Int)→Option (Int×zF×(List Int)):=Dn.d k k
def KS(k:Nat)(t0:List zf):Option ((Unit×Bool)×(Bool×zF)×(List Int)):=
 (Az k (List.length t0:Int) 1 1500).bind fun r1=>cond (!r1) (some (((),false),((false,([],(),())),[]))) (cond (oV (List.length t0:Int)) ((gU t0 0).bind fun y2=>(cond (y2.1 !=12) (some true) (some (y2.2.1 !=0))).bind fun b3=>cond b3 (cond true (some (((),false),((false,([],(),())),[]))) (some (((),true),((true,(t0,(),())),List.replicate (Int.toNat (List.length t0:Int)) 0)))) ((Dn k 0 1 (true,(t0,(),())) (List.replicate (Int.toNat (List.length t0:Int)) 0)).bind fun r4=>cond (r4.1 !=(List.length t0:Int)) (some (((),false),((false,([],(),())),[]))) (some (((),true),((true,r4.2.1),r4.2.2))))) none)
def DD.l5(k:Nat):Nat→Int→Int→Int→Int→zF→(List Int)→Option (Int×zF×(List Int))
 |0,_,_,_,_,_,_=>none
 |n+1,t2,t7,t37,t38,o0,zl=>
  cond (decide (t38<t37)) ((gU o0.1 t7).bind fun y1=>cond (y1.2.1==t2) (some (t7,(o0,zl))) ((gU zl t7).bind fun y2=>(DD.l5 k n) t2 y2 t37 (IntKind.wrap .i64 (t38+1)) o0 zl)) (some ((-1),(o0,zl)))
def DD(k:Nat)(t1:Int)(t2:Int)(o0:Bool×zF)(zl:List Int):Option (Int×zF×(List Int)):=
 cond (o0.1) ((Az k t1 0 (IntKind.wrap .i64 ((List.length o0.2.1:Int)-1))).bind fun r3=>(cond (!r3) (some true) ((gU o0.2.1 t1).bind fun y4=>some (y4.1 !=12))).bind fun b5=>cond b5 (some ((-1),(o0.2,zl))) ((gU o0.2.1 t1).bind fun y6=>DD.l5 k k t2 (IntKind.wrap .i64 (t1+1)) y6.2.2.2.2.1 0 o0.2 zl)) none
def F5.l7(k:Nat):Nat→Int→Int→Int→zF→(List Int)→(List Int)→Option ((Unit×Bool)×zF×(List Int)×(List Int))
 |0,_,_,_,_,_,_=>none
 |n+1,t12,t63,t64,o0,zl,yV=>
  cond (decide (t64<t63)) (cond (lim (List.length yV+List.length [t12])) ((gU zl t12).bind fun y1=>(F5.l7 k n) y1 t63 (IntKind.wrap .i64 (t64+1)) o0 zl (yV++[t12])) none) (some (((),true),(o0,zl,yV)))
def F5(k:Nat)(t1:Int)(t2:Int)(t3:Int)(o0:Bool×zF)(zl:List Int):Option ((Unit×Bool)×zF×(List Int)×(List Int)):=
 (DD k t1 t2 (o0.1,o0.2) zl).bind fun r2=>(cond (decide (r2.1<0)) (some true) ((gU r2.2.1.1 r2.1).bind fun y3=>some (y3.1 !=9))).bind fun b4=>(cond b4 (some true) ((gU r2.2.1.1 r2.1).bind fun y5=>(cond (decide (y5.2.2.2.2.1>0)) ((gU r2.2.1.1 r2.1).bind fun y6=>some (y6.2.2.1 !=t3)) (some false)).bind fun b7=>some (b7))).bind fun b8=>cond b8 (some (((),false),(r2.2.1,r2.2.2,[]))) ((gU r2.2.1.1 r2.1).bind fun y9=>F5.l7 k k (IntKind.wrap .i64 (r2.1+1)) y9.2.2.2.2.1 0 r2.2.1 r2.2.2 [])
def Hq(k:Nat)(t1:Int)(t2:Int)(t3:Int)(o0:Bool×zF)(zl:List Int):Option ((zf×Bool)×zF×(List Int)):=
 (DD k t1 t2 (o0.1,o0.2) zl).bind fun r1=>(cond (decide (r1.1<0)) (some true) ((gU r1.2.1.1 r1.1).bind fun y2=>some (y2.1 !=t3))).bind fun b3=>cond b3 (some (((0,0,0,zn,0,()),false),(r1.2.1,r1.2.2))) ((gU r1.2.1.1 r1.1).bind fun y4=>some ((y4,true),(r1.2.1,r1.2.2)))
def IA(k:Nat)(t1:Int)(t2:Int)(o0:Bool×zF)(zl:List Int):Option ((Int×Bool)×zF×(List Int)):=
 (DD k t1 t2 (o0.1,o0.2) zl).bind fun r1=>(cond (decide (r1.1<0)) (some true) ((gU r1.2.1.1 r1.1).bind fun y2=>(cond (y2.1 !=5) ((gU r1.2.1.1 r1.1).bind fun y3=>some (y3.1 !=6)) (some false)).bind fun b4=>some (b4))).bind fun b5=>cond b5 (some ((0,false),(r1.2.1,r1.2.2))) ((gU r1.2.1.1 r1.1).bind fun y6=>some ((y6.2.2.1,true),(r1.2.1,r1.2.2)))
def FD.c11(k:Nat)(t9:Bool)(t11:Bool)(t13:Bool)(o0:zF)(zl:List Int)(yV:ze)(y_:ze):Option ((ze×Bool)×zF×(List Int)):=
 (cond t9 (some (t11)) (some false)).bind fun b1=>(cond b1 (some (t13)) (some false)).bind fun b2=>some ((y_,b2),(o0,zl))
def FD.c8(k:Nat)(t1:Int)(t9:Bool)(t11:Bool)(t13:Bool)(t14:Int)(t15:Bool)(o0:zF)(zl:List Int)(yV:ze)(y_:ze):Option ((ze×Bool)×zF×(List Int)):=
 (DD k t1 5 (true,o0) zl).bind fun r3=>cond (decide (r3.1≥0)) (cond t15 ((DD k t1 1 (true,r3.2.1) r3.2.2).bind fun r4=>FD.c11 k t9 t11 (decide (r4.1<0)) r4.2.1 r4.2.2 yV (y_.1,7,y_.2.2.1,t14,())) (FD.c11 k t9 t11 false r3.2.1 r3.2.2 yV (y_.1,7,y_.2.2.1,t14,()))) (FD.c11 k t9 t11 t13 r3.2.1 r3.2.2 yV y_)
def FD(k:Nat)(t1:Int)(t2:Bool)(o0:Bool×zF)(zl:List Int):Option ((ze×Bool)×zF×(List Int)):=
 (Hq k t1 4 8 (o0.1,o0.2) zl).bind fun r5=>(IA k t1 3 (true,r5.2.1) r5.2.2).bind fun r6=>(IA k t1 1 (true,r6.2.1) r6.2.2).bind fun r7=>(IA k t1 5 (true,r7.2.1) r7.2.2).bind fun r8=>cond t2 (FD.c8 k t1 r5.1.2 true r7.1.2 r8.1.1 r8.1.2 r8.2.1 r8.2.2 (zn,0,0,0,()) (r5.1.1.2.2.2.1,r7.1.1,0,0,())) (FD.c8 k t1 r5.1.2 r6.1.2 r7.1.2 r8.1.1 r8.1.2 r8.2.1 r8.2.2 (zn,0,0,0,()) (r5.1.1.2.2.2.1,r7.1.1,r6.1.1,0,()))
def Hr.l6(k:Nat):Nat→Int→Int→zF→(List Int)→(List ze)→(List Int)→Option ((Unit×Bool)×zF×(List Int)×(List ze))
 |0,_,_,_,_,_,_=>none
 |n+1,t23,t24,o0,zl,yV,y_=>
  cond (decide (t24<t23)) ((gU y_ t24).bind fun y1=>(FD k y1 (t24==0) (true,o0) zl).bind fun r2=>(cond (!r2.1.2) (some true) ((cond (decide (t24>0)) (some (r2.1.1.2.2.2.1==0)) (some false)).bind fun b3=>(cond b3 (some (r2.1.1.2.1==7)) (some false)).bind fun b4=>some (b4))).bind fun b5=>cond b5 (some (((),false),(r2.2.1,r2.2.2,[]))) (cond (lim (List.length yV+List.length [r2.1.1])) ((Hr.l6 k n) t23 (IntKind.wrap .i64 (t24+1)) r2.2.1 r2.2.2 (yV++[r2.1.1]) y_) none)) ((Ex k yV).bind fun r6=>cond (!r6) (some (((),false),(o0,zl,[]))) (some (((),true),(o0,zl,yV))))
def Hr(k:Nat)(t1:Int)(o0:Bool×zF)(zl:List Int):Option ((Unit×Bool)×zF×(List Int)×(List ze)):=
 (F5 k t1 2 12 (o0.1,o0.2) zl).bind fun r7=>cond (!r7.1.2) (some (((),false),(r7.2.1,r7.2.2.1,[]))) (Hr.l6 k k (List.length r7.2.2.2:Int) 0 r7.2.1 r7.2.2.1 [] r7.2.2.2)
def EG.c4(k:Nat)(t7:Int)(o0:Cb)(zl:zF)(zJ:List Int):Option (Int×Cb×zF×(List Int)):=
 some (t7,(o0,zl,zJ))
def EG(k:Nat)(t1:Int)(t2:Int)(o0:Cb)(zl:zF)(zJ:List Int):Option (Int×Cb×zF×(List Int)):=
 (IA k t1 t2 (true,zl) zJ).bind fun r1=>cond (!r1.1.2) (EG.c4 k r1.1.1 ((),true,()) r1.2.1 r1.2.2) (EG.c4 k r1.1.1 o0 r1.2.1 r1.2.2)
def GL.c4(k:Nat)(o0:Cb)(zl:zF)(zJ:List Int)(yV:List Int):Option (Unit×Cb×zF×(List Int)×(List Int)):=
 some ((),(o0,zl,zJ,yV))
def GL(k:Nat)(t1:Int)(t2:Int)(t3:Int)(o0:Cb)(zl:zF)(zJ:List Int):Option (Unit×Cb×zF×(List Int)×(List Int)):=
 (F5 k t1 t2 t3 (true,zl) zJ).bind fun r1=>cond (!r1.1.2) (GL.c4 k ((),true,()) r1.2.1 r1.2.2.1 r1.2.2.2) (GL.c4 k o0 r1.2.1 r1.2.2.1 r1.2.2.2)
def LM(k:Nat)(t0:List ze):Option (Unit×(List Int)):=
 (Ex k t0).bind fun r1=>cond (!r1) (some ((),[])) ((Em k t0).bind fun r2=>some ((),r2.2))
def FE.l6(k:Nat):Nat→(List ze)→Int→Int→(List Int)→(List Int)→Option (Unit×(List Int))
 |0,_,_,_,_,_=>none
 |n+1,t0,t1,t7,yV,y_=>
  (gU yV t1).bind fun y1=>cond (decide (t7≤y1)) ((Bb k t0 t7 1).bind fun r2=>(gU yV t1).bind fun y3=>cond (decide (r2>y3)) (cond (lim (List.length y_+List.length [t7])) ((FE.l6 k n) t0 t1 (IntKind.wrap .i64 (t7+1)) yV (y_++[t7])) none) ((FE.l6 k n) t0 t1 r2 yV y_)) (some ((),y_))
def FE(k:Nat)(t0:List ze)(t1:Int):Option (Unit×(List Int)):=
 (LM k t0).bind fun r4=>(Az k t1 0 (IntKind.wrap .i64 ((List.length r4.2:Int)-1))).bind fun r5=>cond (!r5) (some ((),[])) (FE.l6 k k t0 t1 1 r4.2 [])
def Dl.c12(k:Nat)(L6:(List ze)→Int→Int→Int→Int→(List Int)→Option (Int×Int))(t0:List ze)(t7:Int)(t8:Int)(t18:Int)(t19:Int)(yV:List Int):Option (Int×Int):=
 L6 t0 t7 t8 t18 (IntKind.wrap .i64 (t19+1)) yV
def Dl.c10(k:Nat)(L6:(List ze)→Int→Int→Int→Int→(List Int)→Option (Int×Int))(t0:List ze)(t7:Int)(t8:Int)(t10:Int)(t18:Int)(t19:Int)(yV:List Int):Option (Int×Int):=
 (gU t0 t10).bind fun y1=>cond (y1.2.2.1==2) (Dl.c12 k L6 t0 t7 (IntKind.wrap .i64 (t8+1)) t18 t19 yV) (Dl.c12 k L6 t0 t7 t8 t18 t19 yV)
def Dl.l6(k:Nat):Nat→(List ze)→Int→Int→Int→Int→(List Int)→Option (Int×Int)
 |0,_,_,_,_,_,_=>none
 |n+1,t0,t7,t8,t18,t19,yV=>
  cond (decide (t19<t18)) ((gU yV t19).bind fun y2=>(gU t0 y2).bind fun y3=>cond (y3.2.2.1 !=0) (Dl.c10 k (Dl.l6 k n) t0 (IntKind.wrap .i64 (t7+1)) t8 y2 t18 t19 yV) (Dl.c10 k (Dl.l6 k n) t0 t7 t8 y2 t18 t19 yV)) (some (t7,t8))
def Dl(k:Nat)(t0:List ze)(t1:Int):Option (Int×Int):=
 (FE k t0 t1).bind fun r4=>cond ((List.length r4.2:Int)==0) (some ((-1),(-1))) (Dl.l6 k k t0 0 0 (List.length r4.2:Int) 0 r4.2)
def LJ(k:Nat)(t0:List ze)(t1:Int):Option (zI×Bool):=
 (LM k t0).bind fun r1=>(Az k t1 0 (IntKind.wrap .i64 ((List.length r1.2:Int)-1))).bind fun r2=>cond (!r2) (some ((0,0,0,()),false)) ((Dl k t0 t1).bind fun r3=>(gU r1.2 t1).bind fun y4=>(gU t0 y4).bind fun y5=>some ((y5.2.1,r3.2,r3.1,()),true))
def H8.l4(k:Nat):Nat→(List ByteArray)→(List ByteArray)→Int→Int→Option Bool
 |0,_,_,_,_=>none
 |n+1,t0,t1,t12,t13=>
  cond (decide (t13<t12)) ((gU t0 t13).bind fun y1=>(gU t1 t13).bind fun y2=>cond (!iY y1 y2) (some false) ((H8.l4 k n) t0 t1 t12 (IntKind.wrap .i64 (t13+1)))) (some true)
def H8(k:Nat)(t0:List ByteArray)(t1:List ByteArray):Option Bool:=
 cond ((List.length t0:Int) !=(List.length t1:Int)) (some false) (H8.l4 k k t0 t1 (List.length t0:Int) 0)
def Gm.l3(k:Nat):Nat→(List ze)→Int→Int→(List ByteArray)→(List Int)→Option (Unit×(List ByteArray))
 |0,_,_,_,_,_=>none
 |n+1,t0,t12,t13,yV,y_=>
  cond (decide (t13<t12)) ((gU y_ t13).bind fun y1=>(gU t0 y1).bind fun y2=>cond (lim (List.length yV+List.length [y2.1])) ((Gm.l3 k n) t0 t12 (IntKind.wrap .i64 (t13+1)) (yV++[y2.1]) y_) none) (some ((),yV))
def Gm(k:Nat)(t0:List ze)(t1:Int):Option (Unit×(List ByteArray)):=
 (FE k t0 t1).bind fun r3=>Gm.l3 k k t0 (List.length r3.2:Int) 0 [] r3.2
def AP.c28(k:Nat)(o0:Cb)(zl:zF)(zJ:List Int)(BJ:List ze)(yV:Int×Int×Int×Int×Int×Unit×Unit)(y_:Int×Int×Int×Int×Int×Unit×Unit)(zi:List Int)(zu:List Int):Option (((Int×Int×Int×Int×Int×Unit×Unit))×Cb×zF×(List Int)×(List ze)×(List Int)):=
 some (y_,(o0,zl,zJ,BJ,zu))
def AP.c24(k:Nat)(t10:Int)(o0:Cb)(zl:zF)(zJ:List Int)(BJ:List ze)(yV:Int×Int×Int×Int×Int×Unit×Unit)(y_:Int×Int×Int×Int×Int×Unit×Unit)(zi:List Int)(zu:List Int):Option (((Int×Int×Int×Int×Int×Unit×Unit))×Cb×zF×(List Int)×(List ze)×(List Int)):=
 (EG k t10 9 o0 zl zJ).bind fun r1=>(DD k t10 11 (true,r1.2.2.1) r1.2.2.2).bind fun r2=>cond (decide (r2.1≥0)) ((EG k t10 11 r1.2.1 r2.2.1 r2.2.2).bind fun r3=>(cond r3.2.1.2.1 (some true) (some (r3.1==(-1)))).bind fun b4=>AP.c28 k ((),b4,()) r3.2.2.1 r3.2.2.2 BJ yV (y_.1,r1.1,r3.1,y_.2.2.2.1,y_.2.2.2.2.1,(),()) zi zu) (AP.c28 k r1.2.1 r2.2.1 r2.2.2 BJ yV (y_.1,r1.1,y_.2.2.1,y_.2.2.2.1,y_.2.2.2.2.1,(),()) zi zu)
def AP.d22(k:Nat)(t10:Int)(o0:Cb)(zl:zF)(zJ:List Int)(BJ:List ze)(yV:Int×Int×Int×Int×Int×Unit×Unit)(y_:Int×Int×Int×Int×Int×Unit×Unit)(zi:List Int)(zu:List Int):Option (((Int×Int×Int×Int×Int×Unit×Unit))×Cb×zF×(List Int)×(List ze)×(List Int)):=
 (EG k t10 7 o0 zl zJ).bind fun r5=>cond (r5.1 !=y_.2.2.2.2.1) (AP.c24 k t10 ((),true,()) r5.2.2.1 r5.2.2.2 BJ yV y_ zi zu) (AP.c24 k t10 r5.2.1 r5.2.2.1 r5.2.2.2 BJ yV y_ zi zu)
def AP.c20(k:Nat)(t10:Int)(o0:Cb)(zl:zF)(zJ:List Int)(BJ:List ze)(yV:Int×Int×Int×Int×Int×Unit×Unit)(y_:Int×Int×Int×Int×Int×Unit×Unit)(zi:List Int)(zu:List Int):Option (((Int×Int×Int×Int×Int×Unit×Unit))×Cb×zF×(List Int)×(List ze)×(List Int)):=
 (EG k t10 5 o0 zl zJ).bind fun r8=>(EG k t10 6 r8.2.1 r8.2.2.1 r8.2.2.2).bind fun r9=>AP.d22 k t10 r9.2.1 r9.2.2.1 r9.2.2.2 BJ yV (y_.1,y_.2.1,y_.2.2.1,r8.1,r9.1,(),()) zi zu
def AP.d18(k:Nat)(t3:Int)(t10:Int)(o0:Cb)(zl:zF)(zJ:List Int)(BJ:List ze)(yV:Int×Int×Int×Int×Int×Unit×Unit)(y_:Int×Int×Int×Int×Int×Unit×Unit)(zi:zI)(zu:List ByteArray)(zx:List Int)(zC:List Int):Option (((Int×Int×Int×Int×Int×Unit×Unit))×Cb×zF×(List Int)×(List ze)×(List Int)):=
 (EG k t10 1 o0 zl zJ).bind fun zU=>cond (zU.1 !=zi.1) (cond true (cond true (AP.c20 k t10 ((),true,()) zU.2.2.1 zU.2.2.2 BJ yV y_ zx zC) (AP.c20 k t10 zU.2.1 zU.2.2.1 zU.2.2.2 BJ yV y_ zx zC)) ((Gm k BJ t3).bind fun Av=>(H8 k zu Av.2).bind fun Ad=>cond (!Ad) (AP.c20 k t10 ((),true,()) zU.2.2.1 zU.2.2.2 BJ yV y_ zx zC) (AP.c20 k t10 zU.2.1 zU.2.2.1 zU.2.2.2 BJ yV y_ zx zC))) ((EG k t10 4 zU.2.1 zU.2.2.1 zU.2.2.2).bind fun Ay=>cond (Ay.1 !=0) (cond true (AP.c20 k t10 ((),true,()) Ay.2.2.1 Ay.2.2.2 BJ yV y_ zx zC) (AP.c20 k t10 Ay.2.1 Ay.2.2.1 Ay.2.2.2 BJ yV y_ zx zC)) ((Gm k BJ t3).bind fun AB=>(H8 k zu AB.2).bind fun Ab=>cond (!Ab) (AP.c20 k t10 ((),true,()) Ay.2.2.1 Ay.2.2.2 BJ yV y_ zx zC) (AP.c20 k t10 Ay.2.1 Ay.2.2.1 Ay.2.2.2 BJ yV y_ zx zC)))
def AP.KV(k:Nat):Nat→Int→Int→Int→Int→Cb→zF→(List Int)→(List ze)→(Int×Int×Int×Int×Int×Unit×Unit)→(Int×Int×Int×Int×Int×Unit×Unit)→zI→(List ByteArray)→(List Int)→(List Int)→(List Int)→Option (((Int×Int×Int×Int×Int×Unit×Unit))×Cb×zF×(List Int)×(List ze)×(List Int))
 |0,_,_,_,_,_,_,_,_,_,_,_,_,_,_,_=>none
 |n+1,t3,t10,t81,t82,o0,zl,zJ,BJ,yV,y_,zi,zu,zx,zC,zL=>
  cond (decide (t82<t81)) ((gU zx t82).bind fun y28=>(gU zl.1 y28).bind fun y29=>cond (lim (List.length zu+List.length [y29.2.2.2.1])) ((AP.KV k n) t3 t10 t81 (IntKind.wrap .i64 (t82+1)) o0 zl zJ BJ yV y_ zi (zu++[y29.2.2.2.1]) zx zC zL) none) (AP.d18 k t3 t10 o0 zl zJ BJ yV y_ zi zu zC zL)
def AP.d10(k:Nat)(L8:Int→Int→Int→Int→Cb→zF→(List Int)→(List ze)→(Int×Int×Int×Int×Int×Unit×Unit)→(Int×Int×Int×Int×Int×Unit×Unit)→zI→(List Int)→(List Int)→(List Int)→Option (((Int×Int×Int×Int×Int×Unit×Unit))×Cb×zF×(List Int)×(List ze)×(List Int)))(t3:Int)(t10:Int)(t14:Int)(t55:Int)(t56:Int)(o0:Cb)(zl:zF)(zJ:List Int)(BJ:List ze)(yV:Int×Int×Int×Int×Int×Unit×Unit)(y_:Int×Int×Int×Int×Int×Unit×Unit)(zi:zI)(zu:List Int)(zx:List Int)(zC:List Int):Option (((Int×Int×Int×Int×Int×Unit×Unit))×Cb×zF×(List Int)×(List ze)×(List Int)):=
 (gU zl.1 t14).bind fun PO=>cond (lim (List.length zC+List.length [PO.2.2.1])) (L8 t3 t10 t55 (IntKind.wrap .i64 (t56+1)) o0 zl zJ BJ yV y_ zi zu zx (zC++[PO.2.2.1])) none
def AP.l8(k:Nat):Nat→Int→Int→Int→Int→Cb→zF→(List Int)→(List ze)→(Int×Int×Int×Int×Int×Unit×Unit)→(Int×Int×Int×Int×Int×Unit×Unit)→zI→(List Int)→(List Int)→(List Int)→Option (((Int×Int×Int×Int×Int×Unit×Unit))×Cb×zF×(List Int)×(List ze)×(List Int))
 |0,_,_,_,_,_,_,_,_,_,_,_,_,_,_=>none
 |n+1,t3,t10,t55,t56,o0,zl,zJ,BJ,yV,y_,zi,zu,zx,zC=>
  cond (decide (t56<t55)) ((gU zu t56).bind fun y32=>AP.d10 k (AP.l8 k n) t3 t10 y32 t55 t56 o0 zl zJ BJ yV y_ zi zu zx zC) ((GL k t10 3 8 o0 zl zJ).bind fun IU=>AP.KV k k t3 t10 (List.length IU.2.2.2.2:Int) 0 IU.2.1 IU.2.2.1 IU.2.2.2.1 BJ yV y_ zi [] IU.2.2.2.2 zx zC)
def AP(k:Nat)(t2:Int)(t3:Int)(o0:Cb)(zl:zF)(zJ:List Int)(BJ:List ze):Option (((Int×Int×Int×Int×Int×Unit×Unit))×Cb×zF×(List Int)×(List ze)×(List Int)):=
 (DD k t2 3 (true,zl) zJ).bind fun JM=>(cond (decide (JM.1<0)) (some true) ((gU JM.2.1.1 JM.1).bind fun K_=>some (K_.1 !=12))).bind fun Va=>cond Va (some ((t3,0,(-1),0,0,(),()),(((),true,()),JM.2.1,JM.2.2,BJ,[]))) ((LJ k BJ t3).bind fun r37=>(GL k JM.1 2 5 o0 JM.2.1 JM.2.2).bind fun Nw=>AP.l8 k k t3 JM.1 (List.length Nw.2.2.2.2:Int) 0 Nw.2.1 Nw.2.2.1 Nw.2.2.2.1 BJ (0,0,0,0,0,(),()) (t3,0,(-1),0,0,(),()) r37.1 Nw.2.2.2.2 [] [])
def Fa.c11(k:Nat)(o0:Cb)(zl:zF)(zJ:List Int)(BJ:List ze)(yV:Int×Unit×Unit)(y_:Int×Unit×Unit)(zi:List BC)(zu:List BC):Option (((Int×Unit×Unit))×Cb×zF×(List Int)×(List ze)×(List BC)):=
 some (y_,(o0,zl,zJ,BJ,zu))
def Fa.l4(k:Nat):Nat→Int→Int→Cb→zF→(List Int)→(List ze)→(Int×Unit×Unit)→(Int×Unit×Unit)→(List Int)→(List BC)→(List BC)→Option (((Int×Unit×Unit))×Cb×zF×(List Int)×(List ze)×(List BC))
 |0,_,_,_,_,_,_,_,_,_,_,_=>none
 |n+1,t19,t20,o0,zl,zJ,BJ,yV,y_,zi,zu,zx=>
  cond (decide (t20<t19)) ((gU zi t20).bind fun y1=>(cond o0.2.1 (some true) (some (decide (t20≥20)))).bind fun b2=>cond b2 (Fa.c11 k ((),true,()) zl zJ BJ yV y_ zu zx) ((AP k y1 t20 o0 zl zJ BJ).bind fun r3=>cond (lim (List.length zx+List.length [(r3.1.1,r3.1.2.1,r3.1.2.2.1,r3.1.2.2.2.1,r3.1.2.2.2.2.1,r3.2.2.2.2.2,())])) ((Fa.l4 k n) t19 (IntKind.wrap .i64 (t20+1)) r3.2.1 r3.2.2.1 r3.2.2.2.1 r3.2.2.2.2.1 yV y_ zi zu (zx++[(r3.1.1,r3.1.2.1,r3.1.2.2.1,r3.1.2.2.2.1,r3.1.2.2.2.2.1,r3.2.2.2.2.2,())])) none)) (Fa.c11 k o0 zl zJ BJ yV y_ zu zx)
def Fa(k:Nat)(t2:Int)(o0:Cb)(zl:zF)(zJ:List Int)(BJ:List ze):Option (((Int×Unit×Unit))×Cb×zF×(List Int)×(List ze)×(List BC)):=
 (EG k t2 3 o0 zl zJ).bind fun r4=>(GL k t2 1 12 r4.2.1 r4.2.2.1 r4.2.2.2).bind fun r5=>Fa.l4 k k (List.length r5.2.2.2.2:Int) 0 r5.2.1 r5.2.2.1 r5.2.2.2.1 BJ (0,(),()) (r4.1,(),()) r5.2.2.2.2 [] []
def Gn.AL(k:Nat):Nat→Int→Int→(Unit×Int×Unit×Unit)→(Unit×Int×Unit×Unit)→Cb→(List Int)→(List ze)→(List Ar)→(List ze)→(List Ar)→zF→(List Int)→Option (((Unit×Int×Unit×Unit)×Bool)×(List ze)×(List Ar))
 |0,_,_,_,_,_,_,_,_,_,_,_,_=>none
 |n+1,t37,t38,yV,y_,zi,zu,zx,zC,zL,zA,IQ,JF=>
  cond (decide (t38<t37)) ((gU zu t38).bind fun y1=>(Fa k y1 zi IQ JF zL).bind fun r2=>cond (lim (List.length zA+List.length [(r2.1.1,r2.2.2.2.2.2,())])) ((Gn.AL k n) t37 (IntKind.wrap .i64 (t38+1)) yV y_ r2.2.1 zu zx zC r2.2.2.2.2.1 (zA++[(r2.1.1,r2.2.2.2.2.2,())]) r2.2.2.1 r2.2.2.2.1) none) ((cond zi.2.1 (some true) ((CL k (zL,y_.2.1,zA,())).bind fun r3=>some (!r3))).bind fun b4=>cond b4 (some ((((),0,(),()),false),([],[]))) (some ((y_,true),(zL,zA))))
def Gn(k:Nat)(t0:List zf):Option (((Unit×Int×Unit×Unit)×Bool)×(List ze)×(List Ar)):=
 (KS k t0).bind fun r5=>cond (!r5.1.2) (some ((((),0,(),()),false),([],[]))) ((Hr k 0 (r5.2.1.1,r5.2.1.2) r5.2.2).bind fun r6=>cond (!r6.1.2) (some ((((),0,(),()),false),([],[]))) ((EG k 0 3 ((),false,()) r6.2.1 r6.2.2.1).bind fun r7=>(GL k 0 4 12 r7.2.1 r7.2.2.1 r7.2.2.2).bind fun r8=>Gn.AL k k (List.length r8.2.2.2.2:Int) 0 ((),0,(),()) ((),r7.1,(),()) r8.2.1 r8.2.2.2.2 [] [] r6.2.2.2 [] r8.2.2.1 r8.2.2.2.1))
def OT(k:Nat)(t0:List Int)(t1:Int):Option (((Unit×Int×Unit×Unit)×Int×Bool)×(List ze)×(List Ar)):=
 (LP k t0 t1).bind fun r1=>cond (r1.1.2.2 !=0) (some ((((),0,(),()),0,false),([],[]))) ((Gn k r1.2).bind fun r2=>cond (!r2.1.2) (some ((((),0,(),()),0,false),([],[]))) (some ((r2.1.1,r1.1.2.1,true),(r2.2.1,r2.2.2))))
def OP(k:Nat)(t0:List Int):Option (((Unit×Int×Unit×Unit)×Int)×(List ze)×(List Ar)):=
 (Az k (List.length t0:Int) 12 60000).bind fun r1=>cond (!r1) (some ((((),0,(),()),1),([],[]))) (cond (jg 0 4 (List.length t0)) ((cond (!iY (wY (kV t0 0 4)) (⟨#[80,65,82,49]⟩:ByteArray)) (some true) (cond (jg (IntKind.wrap .i64 ((List.length t0:Int)-4)) ((List.length t0):Int) (List.length t0)) (some (!iY (wY (kV t0 (IntKind.wrap .i64 ((List.length t0:Int)-4)) ((List.length t0):Int))) (⟨#[80,65,82,49]⟩:ByteArray))) none)).bind fun b2=>cond b2 (some ((((),0,(),()),2),([],[]))) ((Ey k t0 (IntKind.wrap .i64 ((IntKind.wrap .i64 ((List.length t0:Int)-4))-4)) 4).bind fun r3=>cond (decide (r3.1>(IntKind.wrap .i64 ((List.length t0:Int)-12)))) (some ((((),0,(),()),3),([],[]))) (cond (jg (IntKind.wrap .i64 ((IntKind.wrap .i64 ((IntKind.wrap .i64 ((List.length t0:Int)-4))-4))-r3.1)) (IntKind.wrap .i64 ((IntKind.wrap .i64 ((List.length t0:Int)-4))-4)) (List.length t0)) ((OT k (kV t0 (IntKind.wrap .i64 ((IntKind.wrap .i64 ((IntKind.wrap .i64 ((List.length t0:Int)-4))-4))-r3.1)) (IntKind.wrap .i64 ((IntKind.wrap .i64 ((List.length t0:Int)-4))-4))) 0).bind fun r4=>(cond (!r4.1.2.2) (some true) (some (r4.1.2.1 !=r3.1))).bind fun b5=>cond b5 (some ((((),0,(),()),3),([],[]))) (some ((r4.1.1,0),(r4.2.1,r4.2.2)))) none))) none)
def LK(k:Nat)(t0:zI):Option Bool:=
 (J9 k t0.1).bind fun r1=>(cond r1 ((Az k t0.2.2.1 0 6).bind fun r2=>some (r2)) (some false)).bind fun b3=>(cond b3 ((Az k t0.2.1 0 t0.2.2.1).bind fun r4=>some (r4)) (some false)).bind fun b5=>some b5
def FB.c4(k:Nat)(t5:Int)(o0:Du)(zl:zF)(zJ:List Int):Option (Int×Du×zF×(List Int)):=
 some (t5,(o0,zl,zJ))
def FB(k:Nat)(t1:Int)(o0:Du)(zl:Bool×zF)(zJ:List Int):Option (Int×Du×zF×(List Int)):=
 (IA k o0.2.1 t1 (zl.1,zl.2) zJ).bind fun r1=>cond (!r1.1.2) (FB.c4 k r1.1.1 ((),o0.2.1,true,()) r1.2.1 r1.2.2) (FB.c4 k r1.1.1 o0 r1.2.1 r1.2.2)
def F4.c4(k:Nat)(t7:Int)(o0:Du)(zl:zF)(zJ:List Int):Option (Int×Du×zF×(List Int)):=
 some (t7,(o0,zl,zJ))
def F4(k:Nat)(t1:Int)(t2:Int)(o0:Du)(zl:zF)(zJ:List Int):Option (Int×Du×zF×(List Int)):=
 (IA k o0.2.1 t1 (true,zl) zJ).bind fun r1=>(cond (!r1.1.2) (some true) (some (decide (r1.1.1<t2)))).bind fun b2=>cond b2 (F4.c4 k r1.1.1 ((),o0.2.1,true,()) r1.2.1 r1.2.2) (F4.c4 k r1.1.1 o0 r1.2.1 r1.2.2)
def LU(k:Nat)(t1:Int)(o0:Du)(zl:zF)(zJ:List Int):Option (Unit×Du×zF×(List Int)):=
 (DD k o0.2.1 t1 (true,zl) zJ).bind fun r1=>(cond (decide (r1.1<0)) (some true) ((gU r1.2.1.1 r1.1).bind fun y2=>some (y2.1 !=12))).bind fun b3=>cond b3 (some ((),(((),o0.2.1,true,()),r1.2.1,r1.2.2))) (some ((),(((),r1.1,o0.2.2.1,()),r1.2.1,r1.2.2)))
def GM.l3(k:Nat):Nat→(List Int)→Int→Int→(List za)→Option (Unit×(List za))
 |0,_,_,_,_=>none
 |n+1,t7,t8,t9,yV=>
  cond (decide (t9<t8)) ((gU t7 t9).bind fun y1=>cond (lim (List.length yV+List.length ([(y1,zn,())]:List za))) ((GM.l3 k n) t7 t8 (IntKind.wrap .i64 (t9+1)) (yV++[(y1,zn,())])) none) (some ((),yV))
def GM(k:Nat)(t0:List Int):Option (Unit×(List za)):=
 GM.l3 k k t0 (List.length t0:Int) 0 []
def OL(k:Nat)(t0:List Int)(t1:Int):Option Int:=
 (cond (decide (t1<0)) (some true) (some (decide ((IntKind.wrap .i64 (Int.tdiv t1 8))≥(List.length t0:Int))))).bind fun b1=>cond b1 (some (-1)) ((gU t0 (IntKind.wrap .i64 (Int.tdiv t1 8))).bind fun y2=>cond (decide (0≤(Int.tmod t1 8))) (some (IntKind.wrap .i64 (bits .and .u8 (pE .u8 y2 (Int.tmod t1 8)) 1))) none)
def DW.l7(k:Nat)(L3:(List Int)→Int→Int→Int→Int→(List Int)→Option (Unit×(List Int))):Nat→(List Int)→Int→Int→Int→Int→Int→Int→Int→Int→(List Int)→Option (Unit×(List Int))
 |0,_,_,_,_,_,_,_,_,_,_=>none
 |n+1,t0,t1,t3,t10,t11,t14,t15,t18,t19,yV=>
  cond (decide (t19<t18)) ((OL k t0 (IntKind.wrap .i64 ((IntKind.wrap .i64 ((IntKind.wrap .i64 (8*t1))+(IntKind.wrap .i64 (t10*t3))))+t19))).bind fun r1=>cond (decide (0≤t19)) ((DW.l7 k L3 n) t0 t1 t3 t10 (bits .or .i64 t11 (pz .i64 r1 t19)) t14 t15 t18 (IntKind.wrap .i64 (t19+1)) yV) none) (cond (lim (List.length yV+List.length [t11])) (L3 t0 t1 t3 t14 (IntKind.wrap .i64 (t15+1)) (yV++[t11])) none)
def DW.l3(k:Nat):Nat→(List Int)→Int→Int→Int→Int→(List Int)→Option (Unit×(List Int))
 |0,_,_,_,_,_,_=>none
 |n+1,t0,t1,t3,t14,t15,yV=>
  cond (decide (t15<t14)) (DW.l7 k (DW.l3 k n) k t0 t1 t3 t15 0 t14 t15 t3 0 yV) (some ((),yV))
def DW(k:Nat)(t0:List Int)(t1:Int)(t2:Int)(t3:Int):Option (Unit×(List Int)):=
 DW.l3 k k t0 t1 t3 t2 0 []
def M9(k:Nat)(t0:Int)(t1:Int):Option Int:=
 (Az k t0 0 2000).bind fun r1=>(cond (!r1) (some true) ((Az k t1 0 62).bind fun r2=>some (!r2))).bind fun b3=>cond b3 (some (-1)) (some (IntKind.wrap .i64 (Int.tdiv (IntKind.wrap .i64 ((IntKind.wrap .i64 (t0*t1))+7)) 8)))
def OM(k:Nat)(t0:List Int)(t1:Int)(t2:Int)(t3:Int):Option ((Unit×Int×Bool)×(List Int)):=
 (M9 k t2 t3).bind fun r1=>(cond (decide (r1<0)) (some true) ((Az k t1 0 (List.length t0:Int)).bind fun r2=>some (!r2))).bind fun b3=>(cond b3 (some true) (some (decide (r1>(IntKind.wrap .i64 ((List.length t0:Int)-t1)))))).bind fun b4=>cond b4 (some (((),0,false),[])) ((DW k t0 t1 t2 t3).bind fun r5=>some (((),IntKind.wrap .i64 (t1+r1),true),r5.2))
def Ez.c6(k:Nat)(t6:Bool):Option Int:=
 cond t6 (some 8) (some 0)
def Ez(k:Nat)(t0:Int):Option Int:=
 cond (t0==1) (some 4) (cond (t0==2) (Ez.c6 k (t0==2)) (Ez.c6 k (t0==5)))
def LW(k:Nat)(t0:Int)(t1:Int):Option Int:=
 cond (t1==4) (some (IntKind.wrap .i64 (IntKind.wrap .i32 t0))) (some t0)
def O0(k:Nat)(t0:Int)(t1:List Int)(t2:Int):Option (za×Int×Bool):=
 cond (t0 !=6) ((Ez k t0).bind fun r1=>(Ey k t1 t2 r1).bind fun r2=>(Ez k t0).bind fun r3=>(LW k r2.1 r3).bind fun r4=>some ((r4,zn,()),r2.2.1,r2.2.2)) ((Ey k t1 t2 4).bind fun r5=>(cond (!r5.2.2) (some true) (some (decide (r5.1>40)))).bind fun b6=>(cond b6 (some true) (some (decide (r5.1>(IntKind.wrap .i64 ((List.length t1:Int)-r5.2.1)))))).bind fun b7=>cond b7 (some ((0,zn,()),0,false)) (cond (jg r5.2.1 (IntKind.wrap .i64 (r5.2.1+r5.1)) (List.length t1)) (some ((0,wY (kV t1 r5.2.1 (IntKind.wrap .i64 (r5.2.1+r5.1))),()),IntKind.wrap .i64 (r5.2.1+r5.1),true)) none))
def Gp.l8(k:Nat):Nat→Int→(List Int)→Int→Int→Int→(List za)→Option ((Unit×Int×Bool)×(List za))
 |0,_,_,_,_,_,_=>none
 |n+1,t0,t1,t2,t48,t49,yV=>
  cond (decide (t49<t48)) ((O0 k t0 t1 t2).bind fun r1=>cond (!r1.2.2) (some (((),0,false),[])) (cond (lim (List.length yV+List.length [r1.1])) ((Gp.l8 k n) t0 t1 r1.2.1 t48 (IntKind.wrap .i64 (t49+1)) (yV++[r1.1])) none)) (some (((),t2,true),yV))
def Gp(k:Nat)(t0:Int)(t1:List Int)(t2:Int)(t3:Int):Option ((Unit×Int×Bool)×(List za)):=
 (J9 k t0).bind fun r2=>(cond (!r2) (some true) ((Az k t3 0 2000).bind fun r3=>some (!r3))).bind fun b4=>(cond b4 (some true) ((Az k t2 0 (List.length t1:Int)).bind fun r5=>some (!r5))).bind fun b6=>cond b6 (some (((),0,false),[])) (cond (t0==0) ((OM k t1 t2 t3 1).bind fun r7=>(GM k r7.2).bind fun r8=>some (((),r7.1.2.1,r7.1.2.2),r8.2)) (Gp.l8 k k t0 t1 t2 t3 0 []))
def F3.c8(k:Nat)(t0:Int)(t26:Bool)(yV:za):Option Bool:=
 cond t26 (some (iY yV.2.1 zn)) ((cond (t0==6) (some (yV.1==0)) (some false)).bind fun b1=>(cond b1 (some (decide ((yV.2.1.size:Int)≤40))) (some false)).bind fun b2=>some b2)
def F3(k:Nat)(t0:Int)(t1:za):Option Bool:=
 cond (t0==0) ((Az k t1.1 0 1).bind fun r3=>(cond r3 (some (iY t1.2.1 zn)) (some false)).bind fun b4=>some b4) (cond (t0==1) ((KR k t1.1).bind fun r5=>(cond r5 (some (iY t1.2.1 zn)) (some false)).bind fun b6=>some b6) (cond (t0==2) (F3.c8 k t0 (t0==2) t1) (F3.c8 k t0 (t0==5) t1)))
def Ht.l2(k:Nat):Nat→Int→(List za)→(List za)→Int→Int→Option Bool
 |0,_,_,_,_,_=>none
 |n+1,t0,t1,t7,t8,t9=>
  cond (decide (t9<t8)) ((gU t7 t9).bind fun y1=>(F3 k t0 y1).bind fun r2=>cond (!r2) (some false) ((Ht.l2 k n) t0 t1 t7 t8 (IntKind.wrap .i64 (t9+1)))) ((cond (decide ((List.length t1:Int)≤2000)) ((J9 k t0).bind fun r3=>some (r3)) (some false)).bind fun b4=>some b4)
def Ht(k:Nat)(t0:Int)(t1:List za):Option Bool:=
 Ht.l2 k k t0 t1 t1 (List.length t1:Int) 0
def En.l6(k:Nat)(L3:Int→(List Int)→Int→Int→(List Int)→Option (Unit×(List Int))):Nat→Int→Int→Int→(List Int)→Int→Int→Int→Int→(List Int)→Option (Unit×(List Int))
 |0,_,_,_,_,_,_,_,_,_=>none
 |n+1,t1,t6,t7,t17,t18,t19,t24,t25,yV=>
  cond (decide (t25<t24)) ((gU yV (IntKind.wrap .i64 (Int.tdiv (IntKind.wrap .i64 ((IntKind.wrap .i64 (t6*t1))+t25)) 8))).bind fun y1=>cond (decide (0≤t25)) (cond (decide (0≤(Int.tmod (IntKind.wrap .i64 ((IntKind.wrap .i64 (t6*t1))+t25)) 8))) ((gU yV (IntKind.wrap .i64 (Int.tdiv (IntKind.wrap .i64 ((IntKind.wrap .i64 (t6*t1))+t25)) 8))).bind fun y2=>(gU yV (IntKind.wrap .i64 (Int.tdiv (IntKind.wrap .i64 ((IntKind.wrap .i64 (t6*t1))+t25)) 8))).bind fun y3=>(En.l6 k L3 n) t1 t6 t7 t17 t18 t19 t24 (IntKind.wrap .i64 (t25+1)) (List.set yV (Int.toNat (IntKind.wrap .i64 (Int.tdiv (IntKind.wrap .i64 ((IntKind.wrap .i64 (t6*t1))+t25)) 8))) (bits .or .u8 y1 (pz .u8 (IntKind.wrap .u8 (bits .and .i64 (pE .i64 t7 t25) 1)) (Int.tmod (IntKind.wrap .i64 ((IntKind.wrap .i64 (t6*t1))+t25)) 8))))) none) none) (L3 t1 t17 t18 (IntKind.wrap .i64 (t19+1)) yV)
def En.l3(k:Nat):Nat→Int→(List Int)→Int→Int→(List Int)→Option (Unit×(List Int))
 |0,_,_,_,_,_=>none
 |n+1,t1,t17,t18,t19,yV=>
  cond (decide (t19<t18)) ((gU t17 t19).bind fun y4=>En.l6 k (En.l3 k n) k t1 t19 y4 t17 t18 t19 t1 0 yV) (some ((),yV))
def En(k:Nat)(t0:List Int)(t1:Int):Option (Unit×(List Int)):=
 cond (oV (IntKind.wrap .i64 (Int.tdiv (IntKind.wrap .i64 ((IntKind.wrap .i64 ((List.length t0:Int)*t1))+7)) 8))) (En.l3 k k t1 t0 (List.length t0:Int) 0 (List.replicate (Int.toNat (IntKind.wrap .i64 (Int.tdiv (IntKind.wrap .i64 ((IntKind.wrap .i64 ((List.length t0:Int)*t1))+7)) 8))) 0)) none
def Jf.l3(k:Nat):Nat→(List za)→Int→Int→(List Int)→Option (Unit×(List Int))
 |0,_,_,_,_=>none
 |n+1,t7,t8,t9,yV=>
  cond (decide (t9<t8)) ((gU t7 t9).bind fun y1=>cond (lim (List.length yV+List.length [y1.1])) ((Jf.l3 k n) t7 t8 (IntKind.wrap .i64 (t9+1)) (yV++[y1.1])) none) (some ((),yV))
def Jf(k:Nat)(t0:List za):Option (Unit×(List Int)):=
 Jf.l3 k k t0 (List.length t0:Int) 0 []
def Gq.l5(k:Nat):Nat→Int→Int→Int→(List Int)→Option (Unit×(List Int))
 |0,_,_,_,_=>none
 |n+1,t0,t11,t12,yV=>
  cond (decide (t12<t11)) (cond (decide (0≤(IntKind.wrap .i64 (8*t12)))) (cond (lim (List.length yV+List.length [IntKind.wrap .u8 (pE .i64 t0 (IntKind.wrap .i64 (8*t12)))])) ((Gq.l5 k n) t0 t11 (IntKind.wrap .i64 (t12+1)) (yV++[IntKind.wrap .u8 (pE .i64 t0 (IntKind.wrap .i64 (8*t12)))])) none) none) (some ((),yV))
def Gq(k:Nat)(t0:Int)(t1:Int):Option (Unit×(List Int)):=
 (Az k t1 1 8).bind fun r1=>cond (!r1) (some ((),[])) (Gq.l5 k k t0 t1 0 [])
def CE.c12(k:Nat)(L7:Int→(List za)→Int→Int→(List Int)→Option ((Unit×Bool)×(List Int)))(t0:Int)(t19:List za)(t20:Int)(t21:Int)(yV:List Int):Option ((Unit×Bool)×(List Int)):=
 L7 t0 t19 t20 (IntKind.wrap .i64 (t21+1)) yV
def CE.d10(k:Nat)(L7:Int→(List za)→Int→Int→(List Int)→Option ((Unit×Bool)×(List Int)))(t0:Int)(t19:List za)(t20:Int)(t21:Int)(yV:List Int)(y_:za):Option ((Unit×Bool)×(List Int)):=
 (Gq k (y_.2.1.size:Int) 4).bind fun r1=>cond (lim (List.length yV+List.length r1.2)) (cond (lim (List.length (yV++r1.2)+List.length (eZ y_.2.1))) (CE.c12 k L7 t0 t19 t20 t21 ((yV++r1.2)++(eZ y_.2.1))) none) none
def CE.d11(k:Nat)(L7:Int→(List za)→Int→Int→(List Int)→Option ((Unit×Bool)×(List Int)))(t0:Int)(t19:List za)(t20:Int)(t21:Int)(yV:List Int)(y_:za):Option ((Unit×Bool)×(List Int)):=
 (Ez k t0).bind fun r6=>(Gq k y_.1 r6).bind fun r7=>cond (lim (List.length yV+List.length r7.2)) (CE.c12 k L7 t0 t19 t20 t21 (yV++r7.2)) none
def CE.l7(k:Nat):Nat→Int→(List za)→Int→Int→(List Int)→Option ((Unit×Bool)×(List Int))
 |0,_,_,_,_,_=>none
 |n+1,t0,t19,t20,t21,yV=>
  cond (decide (t21<t20)) ((gU t19 t21).bind fun Dy=>cond (t0==6) (CE.d10 k (CE.l7 k n) t0 t19 t20 t21 yV Dy) (CE.d11 k (CE.l7 k n) t0 t19 t20 t21 yV Dy)) (some (((),true),yV))
def CE(k:Nat)(t0:Int)(t1:List za):Option ((Unit×Bool)×(List Int)):=
 (Ht k t0 t1).bind fun Ay=>cond (!Ay) (some (((),false),[])) (cond (t0==0) ((Jf k t1).bind fun AB=>(En k AB.2 1).bind fun Ab=>some (((),true),Ab.2)) (CE.l7 k k t0 t1 (List.length t1:Int) 0 []))
def Qv(k:Nat)(t0:Int)(t1:za):Option ByteArray:=
 cond (t0==6) (some t1.2.1) ((CE k t0 [t1]).bind fun r1=>some (wY r1.2))
end Go.Fn
