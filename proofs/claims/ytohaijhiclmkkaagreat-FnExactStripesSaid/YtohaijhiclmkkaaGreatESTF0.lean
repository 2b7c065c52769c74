/- the claim's functions as plain Lean -/
import Derived.Test.YtohaijhiclmkkaaGreatAmStep
namespace Go
abbrev zk:ByteArray:=⟨#[]⟩
end Go
set_option linter.unusedVariables false
namespace Go.Fn
open Go.Am
abbrev acV:=Unit×Bool×Unit
abbrev zD:=Int×Int×Int×Unit
abbrev ze:=Int×ByteArray×Unit
abbrev BP:=Unit×Int×Bool×Unit
abbrev zg:=ByteArray×Int×Int×Int×Unit
abbrev zm:=(List Int)×Int×Unit×Int×Unit
abbrev acX:=(List ze)×Unit
abbrev yY:=Int×Int×Int×ByteArray×Int×Unit
abbrev OT:=Int×Int×ze×Unit
abbrev acT:=(List Int)×Int×Bool×(List Int)×Unit
abbrev zP:=Int×Int×Int×Int×Int×(List Int)×Unit
abbrev acW:=Int×Int×ze×Int×Int×Unit
abbrev OQ:=(List OT)×Unit
abbrev zL:=(List yY)×Unit×Unit
abbrev zF:=Int×(List zP)×Unit
abbrev acY:=(List yY)×(List Int)×Unit
abbrev Bl:=Int×Bool×ze×ze×Unit
abbrev acZ:=(List Int)×Int×(List yY)×Int×Unit
abbrev AA:=Bool×Bl×Unit
abbrev ac0:=(List zg)×(List ze)×Bool×Unit×Unit×Unit
abbrev zo:=Int×(List AA)×(List Int)×Unit
abbrev zY:=(List zg)×Int×(List zF)×Unit
abbrev zA:=Int×Int×Int×Int×Int×Int×Int×Int×Bool×Int×Bool×Bl×Int×Unit
abbrev acU:=(List zg)×(List OQ)×(List Int)×(List Int)×(List ze)×Bool×Bool×Unit
def D5.l3(k:Nat):Nat→(List Int)→Int→(List Int)→Option (Unit×(List Int))
 |0,_,_,_=>none
 |n+1,t0,t4,yV=>
  cond (decide (t4<(List.length t0:Int))) ((gU t0 t4).bind fun y1=>(gU yV t4).bind fun y2=>(gU yV t4).bind fun y3=>(D5.l3 k n) t0 (IntKind.wrap .i64 (t4+1)) (List.set yV (Int.toNat t4) y1)) (some ((),yV))
def D5(k:Nat)(t0:List Int):Option (Unit×(List Int)):=
 cond (oV (List.length t0:Int)) (D5.l3 k k t0 0 (List.replicate (Int.toNat (List.length t0:Int)) 0)) none
def E_.l4(k:Nat):Nat→(List Int)→(List Int)→Int→Option Bool
 |0,_,_,_=>none
 |n+1,t0,t1,t5=>
  cond (decide (t5<(List.length t0:Int))) ((gU t0 t5).bind fun y1=>(gU t1 t5).bind fun y2=>cond (y1 !=y2) (some false) ((E_.l4 k n) t0 t1 (IntKind.wrap .i64 (t5+1)))) (some true)
def E_(k:Nat)(t0:List Int)(t1:List Int):Option Bool:=
 cond ((List.length t0:Int) !=(List.length t1:Int)) (some false) (E_.l4 k k t0 t1 0)
def Fh.l2(k:Nat):Nat→Int→Int→(List Int)→Option (Int×(List Int))
 |0,_,_,_=>none
 |n+1,t1,t5,zf=>
  cond (decide (t5<(List.length zf:Int))) ((gU zf t5).bind fun y1=>(gU zf t5).bind fun y2=>(Fh.l2 k n) (IntKind.wrap .i64 (t1+1)) (IntKind.wrap .i64 (t5+1)) (List.set zf (Int.toNat t5) (IntKind.wrap .u8 t1))) (some (t1,zf))
def Fh(k:Nat)(t1:Int)(zf:List Int):Option (Int×(List Int)):=
 Fh.l2 k k t1 0 zf
def Ku(k:Nat)(t0:zg)(t1:Int):Option Int:=
 cond (decide ((IntKind.wrap .i64 (t1-(t0.1.size:Int)))<0)) (some (-1)) (some (IntKind.wrap .i64 (t1-(t0.1.size:Int))))
def ED.l5(k:Nat):Nat→(List zg)→Int→Int→Option Int
 |0,_,_,_=>none
 |n+1,t0,t1,t5=>
  cond (decide (t5<(List.length t0:Int))) ((gU t0 t5).bind fun y1=>(Ku k y1 t1).bind fun r2=>cond (decide (r2<0)) (some (-1)) ((ED.l5 k n) t0 r2 (IntKind.wrap .i64 (t5+1)))) (some t1)
def ED(k:Nat)(t0:List zg)(t1:Int):Option Int:=
 cond (decide ((IntKind.wrap .i64 (t1-(List.length t0:Int)))<0)) (some (-1)) (ED.l5 k k t0 (IntKind.wrap .i64 (t1-(List.length t0:Int))) 0)
def Kw(k:Nat)(t0:List Int)(t1:Int):Option Int:=
 cond (decide ((IntKind.wrap .i64 (t1-(List.length t0:Int)))<0)) (some (-1)) (some (IntKind.wrap .i64 (t1-(List.length t0:Int))))
def Kt(k:Nat)(t0:zP)(t1:Int):Option Int:=
 (Kw k t0.2.2.2.2.2.1 t1).bind fun r1=>cond (decide (r1<0)) (some (-1)) (some r1)
def EC.l5(k:Nat):Nat→(List zP)→Int→Int→Option Int
 |0,_,_,_=>none
 |n+1,t0,t1,t5=>
  cond (decide (t5<(List.length t0:Int))) ((gU t0 t5).bind fun y1=>(Kt k y1 t1).bind fun r2=>cond (decide (r2<0)) (some (-1)) ((EC.l5 k n) t0 r2 (IntKind.wrap .i64 (t5+1)))) (some t1)
def EC(k:Nat)(t0:List zP)(t1:Int):Option Int:=
 cond (decide ((IntKind.wrap .i64 (t1-(List.length t0:Int)))<0)) (some (-1)) (EC.l5 k k t0 (IntKind.wrap .i64 (t1-(List.length t0:Int))) 0)
def Kv(k:Nat)(t0:zF)(t1:Int):Option Int:=
 (EC k t0.2.1 t1).bind fun r1=>cond (decide (r1<0)) (some (-1)) (some r1)
def EE.l5(k:Nat):Nat→(List zF)→Int→Int→Option Int
 |0,_,_,_=>none
 |n+1,t0,t1,t5=>
  cond (decide (t5<(List.length t0:Int))) ((gU t0 t5).bind fun y1=>(Kv k y1 t1).bind fun r2=>cond (decide (r2<0)) (some (-1)) ((EE.l5 k n) t0 r2 (IntKind.wrap .i64 (t5+1)))) (some t1)
def EE(k:Nat)(t0:List zF)(t1:Int):Option Int:=
 cond (decide ((IntKind.wrap .i64 (t1-(List.length t0:Int)))<0)) (some (-1)) (EE.l5 k k t0 (IntKind.wrap .i64 (t1-(List.length t0:Int))) 0)
def Ky(k:Nat)(t0:zY)(t1:Int):Option Int:=
 (ED k t0.1 t1).bind fun r1=>cond (decide (r1<0)) (some (-1)) ((EE k t0.2.2.1 r1).bind fun r2=>cond (decide (r2<0)) (some (-1)) (some r2))
def DJ.l5(k:Nat):Nat→(List Int)→Int→Int→Int→Option (Int×Int×Bool)
 |0,_,_,_,_=>none
 |n+1,t0,t1,t7,t8=>
  (cond (decide (t8<10)) (some (decide ((IntKind.wrap .i64 (t1+t8))<(List.length t0:Int)))) (some false)).bind fun b1=>cond b1 ((gU t0 (IntKind.wrap .i64 (t1+t8))).bind fun y2=>cond (decide (0≤(IntKind.wrap .i64 (7*t8)))) (cond (decide ((IntKind.wrap .i64 y2)<128)) ((cond (t8==9) (some (decide ((IntKind.wrap .i64 y2)>1))) (some false)).bind fun b3=>cond b3 (some (0,0,false)) (some (bits .or .i64 t7 (pz .i64 (bits .and .i64 (IntKind.wrap .i64 y2) 127) (IntKind.wrap .i64 (7*t8))),IntKind.wrap .i64 ((IntKind.wrap .i64 (t1+t8))+1),true))) ((DJ.l5 k n) t0 t1 (bits .or .i64 t7 (pz .i64 (bits .and .i64 (IntKind.wrap .i64 y2) 127) (IntKind.wrap .i64 (7*t8)))) (IntKind.wrap .i64 (t8+1)))) none) (some (0,0,false))
def DJ(k:Nat)(t0:List Int)(t1:Int):Option (Int×Int×Bool):=
 (cond (decide (t1<0)) (some true) (some (decide (t1≥(List.length t0:Int))))).bind fun b4=>cond b4 (some (0,0,false)) (DJ.l5 k k t0 t1 0 0)
def JF(k:Nat)(t0:Int)(t1:Int):Option Int:=
 cond (t1==0) (some t0) (cond (decide (0≤t1)) (cond (decide (0≤(IntKind.wrap .i64 (64-t1)))) (some (bits .and .i64 (pE .i64 t0 t1) (IntKind.wrap .i64 ((pz .i64 1 (IntKind.wrap .i64 (64-t1)))-1)))) none) none)
def KN(k:Nat)(t0:Int):Option Int:=
 cond ((bits .and .i64 t0 1)==1) ((JF k t0 1).bind fun r1=>some (bits .xor .i64 (-1) r1)) ((JF k t0 1).bind fun r2=>some r2)
def JD(k:Nat)(t0:List Int)(t1:Int):Option (Int×Int×Bool):=
 (DJ k t0 t1).bind fun r1=>cond (!r1.2.2) (some (0,0,false)) ((KN k r1.1).bind fun r2=>some (r2,r1.2.1,true))
def AP(k:Nat)(t0:Int)(t1:Int)(t2:Int):Option Bool:=
 (cond (decide (t0≥t1)) (some (decide (t0≤t2))) (some false)).bind fun b1=>some b1
def HV(k:Nat)(t0:Int):Option Bool:=
 (AP k t0 (-2147483648) 2147483647).bind fun r1=>some r1
def KR(k:Nat)(t0:List Int)(t1:Int):Option (ByteArray×Int×Int):=
 (DJ k t0 t1).bind fun r1=>cond (!r1.2.2) (some (zk,0,1)) ((cond (decide (r1.1<0)) (some true) (some (decide (r1.1>300)))).bind fun b2=>cond b2 (some (zk,0,4)) (cond (decide ((IntKind.wrap .i64 ((List.length t0:Int)-r1.2.1))<r1.1)) (some (zk,0,1)) (cond (jg r1.2.1 (IntKind.wrap .i64 (r1.2.1+r1.1)) (List.length t0)) (some (wY (kV t0 r1.2.1 (IntKind.wrap .i64 (r1.2.1+r1.1))),IntKind.wrap .i64 (r1.2.1+r1.1),0)) none)))
def DL.c9(k:Nat)(t4:Bool):Option Bool:=
 cond t4 (some true) (some false)
def DL(k:Nat)(t0:Int):Option Bool:=
 cond (t0==1) (DL.c9 k (t0==1)) (cond (t0==2) (DL.c9 k (t0==2)) (cond (t0==5) (DL.c9 k (t0==5)) (cond (t0==6) (DL.c9 k (t0==6)) (cond (t0==8) (DL.c9 k (t0==8)) (cond (t0==9) (DL.c9 k (t0==9)) (DL.c9 k (t0==12)))))))
def JG(k:Nat)(t0:Int):Option Bool:=
 (DL k t0).bind fun r1=>(cond r1 (some (t0 !=1)) (some false)).bind fun b2=>(cond b2 (some (t0 !=2)) (some false)).bind fun b3=>some b3
def FV.c11(k:Nat)(t1:Int)(t8:Int)(t9:Int):Option (Int×Int×Int×Int):=
 cond (t8==0) (some (0,0,t1,0)) ((JG k t9).bind fun r1=>cond (!r1) (some (0,0,0,2)) ((cond (decide (t8<0)) (some true) (some (decide (t8>1500)))).bind fun b2=>cond b2 (some (0,0,0,4)) (some (t8,t9,t1,0))))
def FV(k:Nat)(t0:List Int)(t1:Int):Option (Int×Int×Int×Int):=
 cond (decide (t1≥(List.length t0:Int))) (some (0,0,0,1)) ((gU t0 t1).bind fun y3=>(gU t0 t1).bind fun y4=>cond ((IntKind.wrap .i64 (Int.tdiv (IntKind.wrap .i64 y3) 16))==15) ((DJ k t0 (IntKind.wrap .i64 (t1+1))).bind fun r5=>cond (!r5.2.2) (some (0,0,0,1)) (FV.c11 k r5.2.1 r5.1 (Int.tmod (IntKind.wrap .i64 y4) 16))) (FV.c11 k (IntKind.wrap .i64 (t1+1)) (IntKind.wrap .i64 (Int.tdiv (IntKind.wrap .i64 y3) 16)) (Int.tmod (IntKind.wrap .i64 y4) 16)))
def FU.c16(k:Nat)(t1:Int)(t2:Int)(t10:Int)(t12:Int):Option (Int×Int×Int×Int):=
 (AP k t12 1 1000).bind fun r1=>cond (!r1) (some (0,0,0,3)) (cond (decide (t12≤t2)) (some (0,0,0,5)) (some (t10,t12,t1,0)))
def FU(k:Nat)(t0:List Int)(t1:Int)(t2:Int):Option (Int×Int×Int×Int):=
 cond (decide (t1≥(List.length t0:Int))) (some (0,0,0,1)) ((gU t0 t1).bind fun y2=>(gU t0 t1).bind fun y3=>(gU t0 t1).bind fun y4=>cond (y4==0) (some (0,0,IntKind.wrap .i64 (t1+1),0)) ((DL k (Int.tmod (IntKind.wrap .i64 y2) 16)).bind fun r5=>cond (!r5) (some (0,0,0,2)) (cond ((IntKind.wrap .i64 (Int.tdiv (IntKind.wrap .i64 y3) 16))==0) ((JD k t0 (IntKind.wrap .i64 (t1+1))).bind fun r6=>cond (!r6.2.2) (some (0,0,0,1)) (FU.c16 k r6.2.1 t2 (Int.tmod (IntKind.wrap .i64 y2) 16) r6.1)) (FU.c16 k (IntKind.wrap .i64 (t1+1)) t2 (Int.tmod (IntKind.wrap .i64 y2) 16) (IntKind.wrap .i64 (t2+(IntKind.wrap .i64 (Int.tdiv (IntKind.wrap .i64 y3) 16))))))))
def zT.Ey(k:Nat)(C9:(List Int)→Int→Int→Int→Int→(List yY)→Option ((Unit×Int×Int)×(List yY))):Nat→(List Int)→Int→Int→Int→Int→Int→Int→(List yY)→Option ((Unit×Int×Int)×(List yY))
 |0,_,_,_,_,_,_,_,_=>none
 |n+1,t0,t4,t22,t23,t24,t25,t26,yV=>
  (cond (decide (t26<t22)) (some (t25==0)) (some false)).bind fun b1=>cond b1 ((C9 t0 t24 t23 0 (IntKind.wrap .i64 (t4+1)) yV).bind fun r2=>(zT.Ey k C9 n) t0 t4 t22 t23 r2.1.2.1 r2.1.2.2 (IntKind.wrap .i64 (t26+1)) r2.2) (some (((),t24,t25),yV))
def zT.IG(k:Nat)(C9:(List Int)→Int→Int→Int→Int→(List yY)→Option ((Unit×Int×Int)×(List yY))):Nat→(List Int)→Int→Int→Int→Int→Int→(List yY)→Option ((Unit×Int×Int)×(List yY))
 |0,_,_,_,_,_,_,_=>none
 |n+1,t0,t1,t4,t15,t27,t28,yV=>
  (FU k t0 t1 t27).bind fun r3=>cond (r3.2.2.2 !=0) (some (((),0,r3.2.2.2),yV)) (cond (r3.1==0) ((gU yV t15).bind fun y4=>(gU yV t15).bind fun y5=>some (((),r3.2.2.1,0),List.set yV (Int.toNat t15) (y5.1,y5.2.1,y5.2.2.1,y5.2.2.2.1,t28,()))) ((C9 t0 r3.2.2.1 r3.1 r3.2.1 (IntKind.wrap .i64 (t4+1)) yV).bind fun r6=>cond (r6.1.2.2 !=0) (some (((),0,r6.1.2.2),r6.2)) ((zT.IG k C9 n) t0 r6.1.2.1 t4 t15 r3.2.1 (IntKind.wrap .i64 (t28+1)) r6.2)))
def zT.c8(k:Nat)(C9:(List Int)→Int→Int→Int→Int→(List yY)→Option ((Unit×Int×Int)×(List yY)))(t0:List Int)(t1:Int)(t2:Int)(t4:Int)(t15:Int)(t49:Int)(t50:Bool)(yV:List yY):Option ((Unit×Int×Int)×(List yY)):=
 cond t50 ((JD k t0 t1).bind fun r7=>cond (!r7.2.2) (some (((),0,1),yV)) ((cond (t2==5) ((HV k r7.1).bind fun r8=>some (!r8)) (some false)).bind fun b9=>cond b9 (some (((),0,3),yV)) ((gU yV t15).bind fun A7=>(gU yV t15).bind fun Af=>some (((),r7.2.1,0),List.set yV (Int.toNat t15) (Af.1,Af.2.1,r7.1,Af.2.2.2.1,Af.2.2.2.2.1,()))))) (cond (t49==8) ((KR k t0 t1).bind fun zV=>(gU yV t15).bind fun y13=>(gU yV t15).bind fun FY=>some (((),zV.2.1,zV.2.2),List.set yV (Int.toNat t15) (FY.1,FY.2.1,FY.2.2.1,zV.1,FY.2.2.2.2.1,()))) (cond (t49==9) ((FV k t0 t1).bind fun z_=>(gU yV t15).bind fun Dv=>(gU yV t15).bind fun Ag=>(gU (List.set yV (Int.toNat t15) (Ag.1,Ag.2.1,Ag.2.2.1,Ag.2.2.2.1,z_.1,())) t15).bind fun C7=>(gU (List.set yV (Int.toNat t15) (Ag.1,Ag.2.1,Ag.2.2.1,Ag.2.2.2.1,z_.1,())) t15).bind fun Ea=>zT.Ey k C9 k t0 t4 z_.1 z_.2.1 z_.2.2.1 z_.2.2.2 0 (List.set (List.set yV (Int.toNat t15) (Ag.1,Ag.2.1,Ag.2.2.1,Ag.2.2.2.1,z_.1,())) (Int.toNat t15) (Ea.1,Ea.2.1,z_.2.1,Ea.2.2.2.1,Ea.2.2.2.2.1,()))) (cond (t49==12) (zT.IG k C9 k t0 t1 t4 t15 0 0 yV) (some (((),t1,0),yV)))))
def zT.b(k:Nat)(C9:(List Int)→Int→Int→Int→Int→(List yY)→Option ((Unit×Int×Int)×(List yY)))(t0:List Int)(t1:Int)(t2:Int)(t3:Int)(t4:Int)(zf:List yY):Option ((Unit×Int×Int)×(List yY)):=
 (cond ((List.length zf:Int)==1500) (some true) (some (decide (t4>12)))).bind fun b20=>cond b20 (some (((),0,4),zf)) (cond (lim (List.length zf+List.length ([(t2,t3,0,zk,0,())]:List yY))) (cond (t2==5) (zT.c8 k C9 t0 t1 t2 t4 (List.length zf:Int) t2 (t2==5) (zf++[(t2,t3,0,zk,0,())])) (zT.c8 k C9 t0 t1 t2 t4 (List.length zf:Int) t2 (t2==6) (zf++[(t2,t3,0,zk,0,())]))) none)
def zT.rec(k:Nat):Nat→((List Int)→Int→Int→Int→Int→(List yY)→Option ((Unit×Int×Int)×(List yY)))
 |0=>fun _ _ _ _ _ _=>none
 |d+1=>zT.b k ((zT.rec k d))
def zT.d(k d:Nat):(List Int)→Int→Int→Int→Int→(List yY)→Option ((Unit×Int×Int)×(List yY)):=(zT.rec k d)
def zT(k:Nat):(List Int)→Int→Int→Int→Int→(List yY)→Option ((Unit×Int×Int)×(List yY)):=zT.d k k
def JC(k:Nat)(t0:List Int)(t1:Int):Option ((Unit×Int×Int)×(List yY)):=
 (cond (decide (t1<0)) (some true) (some (decide (t1≥(List.length t0:Int))))).bind fun b1=>cond b1 (some (((),0,1),[])) ((zT k t0 t1 12 0 1 []).bind fun r2=>cond (r2.1.2.2 !=0) (some (((),0,r2.1.2.2),[])) (some (((),r2.1.2.1,r2.1.2.2),r2.2)))
def DN.c7(k:Nat)(t4:Bool):Option Bool:=
 cond t4 (some true) (some false)
def DN(k:Nat)(t0:Int):Option Bool:=
 cond (t0==0) (DN.c7 k (t0==0)) (cond (t0==1) (DN.c7 k (t0==1)) (cond (t0==2) (DN.c7 k (t0==2)) (cond (t0==5) (DN.c7 k (t0==5)) (DN.c7 k (t0==6)))))
def JA(k:Nat)(t0:zD):Option Bool:=
 (DN k t0.1).bind fun r1=>(cond r1 ((AP k t0.2.1 0 6).bind fun r2=>some (r2)) (some false)).bind fun b3=>(cond b3 ((AP k t0.2.2.1 t0.2.1 6).bind fun r4=>some (r4)) (some false)).bind fun b5=>some b5
def Ch.l3(k:Nat)(Gr:(List yY)→Int→Option Int):Nat→(List yY)→Int→Int→Int→Option Int
 |0,_,_,_,_=>none
 |n+1,t0,t1,t5,t6=>
  (gU t0 t1).bind fun y1=>cond (decide (t6<y1.2.2.2.2.1)) ((Gr t0 t5).bind fun r2=>(Ch.l3 k Gr n) t0 t1 r2 (IntKind.wrap .i64 (t6+1))) (some t5)
def Ch.b(k:Nat)(Gr:(List yY)→Int→Option Int)(t0:List yY)(t1:Int):Option Int:=
 Ch.l3 k Gr k t0 t1 (IntKind.wrap .i64 (t1+1)) 0
def Ch.rec(k:Nat):Nat→((List yY)→Int→Option Int)
 |0=>fun _ _=>none
 |d+1=>Ch.b k ((Ch.rec k d))
def Ch.d(k d:Nat):(List yY)→Int→Option Int:=(Ch.rec k d)
def Ch(k:Nat):(List yY)→Int→Option Int:=Ch.d k k
def BZ.l5(k:Nat):Nat→(List yY)→Int→Int→Int→Int→Option Int
 |0,_,_,_,_,_=>none
 |n+1,t0,t1,t2,t7,t8=>
  (gU t0 t1).bind fun y1=>cond (decide (t8<y1.2.2.2.2.1)) ((gU t0 t7).bind fun y2=>cond (y2.2.1==t2) (some t7) ((Ch k t0 t7).bind fun r3=>(BZ.l5 k n) t0 t1 t2 r3 (IntKind.wrap .i64 (t8+1)))) (some (-1))
def BZ(k:Nat)(t0:List yY)(t1:Int)(t2:Int):Option Int:=
 (gU t0 t1).bind fun y4=>cond (y4.1 !=12) (some (-1)) (BZ.l5 k k t0 t1 t2 (IntKind.wrap .i64 (t1+1)) 0)
def HY(k:Nat)(t0:List yY)(t1:Int)(t2:Int):Option (Int×Bool):=
 (BZ k t0 t1 t2).bind fun r1=>(cond (decide (r1<0)) (some true) ((gU t0 r1).bind fun y2=>(cond (y2.1 !=5) ((gU t0 r1).bind fun y3=>some (y3.1 !=6)) (some false)).bind fun b4=>some (b4))).bind fun b5=>cond b5 (some (0,false)) ((gU t0 r1).bind fun y6=>some (y6.2.2.1,true))
def EM.l3(k:Nat):Nat→(List yY)→Int→(List Int)→Int→(List Int)→Option ((Unit×Bool)×(List Int))
 |0,_,_,_,_,_=>none
 |n+1,t0,t1,t2,t9,yV=>
  cond (decide (t9<(List.length t2:Int))) ((gU t2 t9).bind fun y1=>(HY k t0 t1 y1).bind fun r2=>cond (!r2.2) (some (((),false),yV)) (cond (lim (List.length yV+List.length [r2.1])) ((EM.l3 k n) t0 t1 t2 (IntKind.wrap .i64 (t9+1)) (yV++[r2.1])) none)) (some (((),true),yV))
def EM(k:Nat)(t0:List yY)(t1:Int)(t2:List Int):Option ((Unit×Bool)×(List Int)):=
 EM.l3 k k t0 t1 t2 0 []
def KP(k:Nat)(t0:List yY)(t1:Int):Option Int:=
 (BZ k t0 0 t1).bind fun r1=>(cond (decide (r1<0)) (some true) ((gU t0 r1).bind fun y2=>some (y2.1 !=12))).bind fun b3=>cond b3 (some (-1)) (some r1)
def H6(k:Nat)(t0:List yY)(t1:Int)(t2:Int):Option (ByteArray×Bool):=
 (BZ k t0 t1 t2).bind fun r1=>(cond (decide (r1<0)) (some true) ((gU t0 r1).bind fun y2=>some (y2.1 !=8))).bind fun b3=>cond b3 (some (zk,false)) ((gU t0 r1).bind fun y4=>some (y4.2.2.2.1,true))
def IQ(k:Nat)(t0:Int)(t1:Int):Option Int:=
 (AP k t0 0 2000).bind fun r1=>(cond (!r1) (some true) ((AP k t1 0 62).bind fun r2=>some (!r2))).bind fun b3=>cond b3 (some (-1)) (some (IntKind.wrap .i64 (Int.tdiv (IntKind.wrap .i64 ((IntKind.wrap .i64 (t0*t1))+7)) 8)))
def KQ(k:Nat)(t0:List Int)(t1:Int):Option Int:=
 (gU t0 (IntKind.wrap .i64 (Int.tdiv t1 8))).bind fun y1=>cond (decide (0≤(Int.tmod t1 8))) (some (bits .and .i64 (pE .i64 (IntKind.wrap .i64 y1) (Int.tmod t1 8)) 1)) none
def CF.l10(k:Nat)(L6:(List Int)→Int→Int→Int→Int→Int→(List Int)→Option ((Unit×Int×Bool)×(List Int))):Nat→(List Int)→Int→Int→Int→Int→Int→Int→Int→(List Int)→Option ((Unit×Int×Bool)×(List Int))
 |0,_,_,_,_,_,_,_,_,_=>none
 |n+1,t0,t1,t2,t3,t12,t13,t14,t15,yV=>
  cond (decide (t15<t3)) ((KQ k t0 (IntKind.wrap .i64 ((IntKind.wrap .i64 ((IntKind.wrap .i64 (8*t1))+(IntKind.wrap .i64 (t13*t3))))+t15))).bind fun r1=>cond (decide (0≤t15)) ((CF.l10 k L6 n) t0 t1 t2 t3 t12 t13 (bits .or .i64 t14 (pz .i64 r1 t15)) (IntKind.wrap .i64 (t15+1)) yV) none) (cond (lim (List.length yV+List.length [t14])) (L6 t0 t1 t2 t3 t12 (IntKind.wrap .i64 (t13+1)) (yV++[t14])) none)
def CF.l6(k:Nat):Nat→(List Int)→Int→Int→Int→Int→Int→(List Int)→Option ((Unit×Int×Bool)×(List Int))
 |0,_,_,_,_,_,_,_=>none
 |n+1,t0,t1,t2,t3,t12,t13,yV=>
  cond (decide (t13<t2)) (CF.l10 k (CF.l6 k n) k t0 t1 t2 t3 t12 t13 0 0 yV) (some (((),IntKind.wrap .i64 (t1+t12),true),yV))
def CF(k:Nat)(t0:List Int)(t1:Int)(t2:Int)(t3:Int):Option ((Unit×Int×Bool)×(List Int)):=
 (IQ k t2 t3).bind fun r2=>(cond (decide (r2<0)) (some true) ((AP k t1 0 (List.length t0:Int)).bind fun r3=>some (!r3))).bind fun b4=>(cond b4 (some true) (some (decide ((IntKind.wrap .i64 ((List.length t0:Int)-t1))<r2)))).bind fun b5=>cond b5 (some (((),0,false),[])) (CF.l6 k k t0 t1 t2 t3 r2 0 [])
def Em.l5(k:Nat):Nat→(List Int)→Int→Int→Int→Int→Option (Int×Int×Bool)
 |0,_,_,_,_,_=>none
 |n+1,t0,t1,t2,t9,t10=>
  cond (decide (t10<t2)) ((gU t0 (IntKind.wrap .i64 (t1+t10))).bind fun y1=>cond (decide (0≤(IntKind.wrap .i64 (8*t10)))) ((Em.l5 k n) t0 t1 t2 (bits .or .i64 t9 (pz .i64 (IntKind.wrap .i64 y1) (IntKind.wrap .i64 (8*t10)))) (IntKind.wrap .i64 (t10+1))) none) (some (t9,IntKind.wrap .i64 (t1+t2),true))
def Em(k:Nat)(t0:List Int)(t1:Int)(t2:Int):Option (Int×Int×Bool):=
 (AP k t2 1 8).bind fun r2=>(cond (!r2) (some true) (some (decide (t1<0)))).bind fun b3=>(cond b3 (some true) (some (decide (t1>(List.length t0:Int))))).bind fun b4=>(cond b4 (some true) (some (decide ((IntKind.wrap .i64 ((List.length t0:Int)-t1))<t2)))).bind fun b5=>cond b5 (some (0,0,false)) (Em.l5 k k t0 t1 t2 0 0)
def Gm.c6(k:Nat)(t9:Int)(t10:Int)(t11:Bool)(yV:ze):Option (ze×Int×Bool):=
 some ((t9,zk,()),t10,t11)
def Gm(k:Nat)(t0:Int)(t1:List Int)(t2:Int):Option (ze×Int×Bool):=
 cond (t0==1) ((Em k t1 t2 4).bind fun r1=>cond (decide (r1.1>2147483647)) (Gm.c6 k (IntKind.wrap .i64 (r1.1-4294967296)) r1.2.1 r1.2.2 (0,zk,())) (Gm.c6 k r1.1 r1.2.1 r1.2.2 (0,zk,()))) (cond (t0==6) ((Em k t1 t2 4).bind fun r2=>(cond (!r2.2.2) (some true) (some (decide (r2.1>40)))).bind fun b3=>(cond b3 (some true) (some (decide (r2.1>(IntKind.wrap .i64 ((List.length t1:Int)-r2.2.1)))))).bind fun b4=>cond b4 (some ((0,zk,()),0,false)) (cond (jg r2.2.1 (IntKind.wrap .i64 (r2.2.1+r2.1)) (List.length t1)) (some ((0,wY (kV t1 r2.2.1 (IntKind.wrap .i64 (r2.2.1+r2.1))),()),IntKind.wrap .i64 (r2.2.1+r2.1),true)) none)) ((Em k t1 t2 8).bind fun r5=>some ((r5.1,zk,()),r5.2.1,r5.2.2)))
def Ct.Iy(k:Nat):Nat→Int→(List Int)→Int→Int→Int→(List ze)→Option ((Unit×Int×Bool)×(List ze))
 |0,_,_,_,_,_,_=>none
 |n+1,t0,t1,t2,t3,t16,yV=>
  cond (decide (t16<t3)) ((Gm k t0 t1 t2).bind fun r1=>cond (!r1.2.2) (some (((),0,false),[])) (cond (lim (List.length yV+List.length [r1.1])) ((Ct.Iy k n) t0 t1 r1.2.1 t3 (IntKind.wrap .i64 (t16+1)) (yV++[r1.1])) none)) (some (((),t2,true),yV))
def Ct.l7(k:Nat):Nat→Int→Bool→Int→(List ze)→(List Int)→Option ((Unit×Int×Bool)×(List ze))
 |0,_,_,_,_,_=>none
 |n+1,t13,t14,t15,yV,za=>
  cond (decide (t15<(List.length za:Int))) ((gU za t15).bind fun y2=>cond (lim (List.length yV+List.length ([(y2,zk,())]:List ze))) ((Ct.l7 k n) t13 t14 (IntKind.wrap .i64 (t15+1)) (yV++[(y2,zk,())]) za) none) (some (((),t13,t14),yV))
def Ct(k:Nat)(t0:Int)(t1:List Int)(t2:Int)(t3:Int):Option ((Unit×Int×Bool)×(List ze)):=
 (DN k t0).bind fun r3=>(cond (!r3) (some true) ((AP k t3 0 2000).bind fun r4=>some (!r4))).bind fun b5=>(cond b5 (some true) ((AP k t2 0 (List.length t1:Int)).bind fun r6=>some (!r6))).bind fun b7=>cond b7 (some (((),0,false),[])) (cond (t0==0) ((CF k t1 t2 t3 1).bind fun r8=>Ct.l7 k k r8.1.2.1 r8.1.2.2 0 [] r8.2) (Ct.Iy k k t0 t1 t2 t3 0 []))
def D7.c8(k:Nat)(t5:Int)(t26:Bool)(yV:ze):Option Bool:=
 cond t26 (some (iY yV.2.1 zk)) (cond (t5==6) ((cond (yV.1==0) (some (decide ((yV.2.1.size:Int)≤40))) (some false)).bind fun b1=>some b1) (some false))
def D7(k:Nat)(t0:Int)(t1:ze):Option Bool:=
 cond (t0==0) ((AP k t1.1 0 1).bind fun r2=>(cond r2 (some (iY t1.2.1 zk)) (some false)).bind fun b3=>some b3) (cond (t0==1) ((HV k t1.1).bind fun r4=>(cond r4 (some (iY t1.2.1 zk)) (some false)).bind fun b5=>some b5) (cond (t0==2) (D7.c8 k t0 (t0==2) t1) (D7.c8 k t0 (t0==5) t1)))
def FH.l4(k:Nat):Nat→Int→(List ze)→Int→Option Bool
 |0,_,_,_=>none
 |n+1,t0,t1,t5=>
  cond (decide (t5<(List.length t1:Int))) ((gU t1 t5).bind fun y1=>(D7 k t0 y1).bind fun r2=>cond (!r2) (some false) ((FH.l4 k n) t0 t1 (IntKind.wrap .i64 (t5+1)))) (some true)
def FH(k:Nat)(t0:Int)(t1:List ze):Option Bool:=
 (cond (decide ((List.length t1:Int)>2000)) (some true) ((DN k t0).bind fun r3=>some (!r3))).bind fun b4=>cond b4 (some false) (FH.l4 k k t0 t1 0)
def DK.l3(k:Nat):Nat→Int→Int→Int→(List Int)→Option (Unit×(List Int))
 |0,_,_,_,_=>none
 |n+1,t0,t1,t6,yV=>
  (cond (decide (t6<t1)) ((AP k t1 1 8).bind fun r1=>some (r1)) (some false)).bind fun b2=>cond b2 (cond (decide (0≤(IntKind.wrap .i64 (8*t6)))) (cond (lim (List.length yV+List.length [IntKind.wrap .u8 (pE .i64 t0 (IntKind.wrap .i64 (8*t6)))])) ((DK.l3 k n) t0 t1 (IntKind.wrap .i64 (t6+1)) (yV++[IntKind.wrap .u8 (pE .i64 t0 (IntKind.wrap .i64 (8*t6)))])) none) none) (some ((),yV))
def DK(k:Nat)(t0:Int)(t1:Int):Option (Unit×(List Int)):=
 DK.l3 k k t0 t1 0 []
def Bf.c12(k:Nat)(OM:(List Int)→Int→Int→Int→(List Int)→Option ((Unit×Bool)×(List Int)))(t0:List Int)(t1:Int)(t8:Int)(t9:Int)(yV:List Int):Option ((Unit×Bool)×(List Int)):=
 OM t0 t1 t8 (IntKind.wrap .i64 (t9+1)) yV
def Bf.Bd(k:Nat)(L6:(List Int)→Int→Int→(List Int)→Option ((Unit×Bool)×(List Int))):Nat→(List Int)→Int→Int→Int→(List Int)→Option ((Unit×Bool)×(List Int))
 |0,_,_,_,_,_=>none
 |n+1,t0,t1,t8,t9,yV=>
  cond (decide (t9<t1)) ((gU t0 t8).bind fun y1=>cond (decide (0≤t9)) (cond ((bits .and .i64 (pE .i64 y1 t9) 1)==1) ((gU yV (IntKind.wrap .i64 (Int.tdiv (IntKind.wrap .i64 ((IntKind.wrap .i64 (t8*t1))+t9)) 8))).bind fun y2=>cond (decide (0≤(Int.tmod (IntKind.wrap .i64 ((IntKind.wrap .i64 (t8*t1))+t9)) 8))) ((gU yV (IntKind.wrap .i64 (Int.tdiv (IntKind.wrap .i64 ((IntKind.wrap .i64 (t8*t1))+t9)) 8))).bind fun y3=>(gU yV (IntKind.wrap .i64 (Int.tdiv (IntKind.wrap .i64 ((IntKind.wrap .i64 (t8*t1))+t9)) 8))).bind fun y4=>Bf.c12 k (Bf.Bd k L6 n) t0 t1 t8 t9 (List.set yV (Int.toNat (IntKind.wrap .i64 (Int.tdiv (IntKind.wrap .i64 ((IntKind.wrap .i64 (t8*t1))+t9)) 8))) (bits .or .u8 y2 (pz .u8 1 (Int.tmod (IntKind.wrap .i64 ((IntKind.wrap .i64 (t8*t1))+t9)) 8))))) none) (Bf.c12 k (Bf.Bd k L6 n) t0 t1 t8 t9 yV)) none) (L6 t0 t1 (IntKind.wrap .i64 (t8+1)) yV)
def Bf.l6(k:Nat):Nat→(List Int)→Int→Int→(List Int)→Option ((Unit×Bool)×(List Int))
 |0,_,_,_,_=>none
 |n+1,t0,t1,t8,yV=>
  cond (decide (t8<(List.length t0:Int))) ((gU t0 t8).bind fun y5=>(cond (decide (y5<0)) (some true) ((gU t0 t8).bind fun y6=>cond (decide (0≤t1)) (some ((pE .i64 y6 t1) !=0)) none)).bind fun b7=>cond b7 (some (((),false),[])) (Bf.Bd k (Bf.l6 k n) k t0 t1 t8 0 yV)) (some (((),true),yV))
def Bf(k:Nat)(t0:List Int)(t1:Int):Option ((Unit×Bool)×(List Int)):=
 (IQ k (List.length t0:Int) t1).bind fun r8=>cond (decide (r8<0)) (some (((),false),[])) (cond (oV r8) (Bf.l6 k k t0 t1 0 (List.replicate (Int.toNat r8) 0)) none)
def Bq.c7(k:Nat)(L6:Int→(List ze)→Int→(List Int)→(List Int)→Option ((Unit×Bool)×(List Int)))(t0:Int)(t1:List ze)(t8:Int)(yV:List Int)(za:List Int):Option ((Unit×Bool)×(List Int)):=
 L6 t0 t1 (IntKind.wrap .i64 (t8+1)) yV za
def Bq.l6(k:Nat):Nat→Int→(List ze)→Int→(List Int)→(List Int)→Option ((Unit×Bool)×(List Int))
 |0,_,_,_,_,_=>none
 |n+1,t0,t1,t8,yV,za=>
  cond (decide (t8<(List.length t1:Int))) ((gU t1 t8).bind fun y1=>cond (t0==0) (cond (lim (List.length za+List.length [y1.1])) (Bq.c7 k (Bq.l6 k n) t0 t1 t8 yV (za++[y1.1])) none) (cond (t0==1) ((DK k y1.1 4).bind fun r2=>cond (lim (List.length yV+List.length r2.2)) (Bq.c7 k (Bq.l6 k n) t0 t1 t8 (yV++r2.2) za) none) (cond (t0==6) ((DK k (y1.2.1.size:Int) 4).bind fun r3=>cond (lim (List.length yV+List.length r3.2)) (cond (lim (List.length (yV++r3.2)+List.length (eZ y1.2.1))) (Bq.c7 k (Bq.l6 k n) t0 t1 t8 ((yV++r3.2)++(eZ y1.2.1)) za) none) none) ((DK k y1.1 8).bind fun r4=>cond (lim (List.length yV+List.length r4.2)) (Bq.c7 k (Bq.l6 k n) t0 t1 t8 (yV++r4.2) za) none)))) (cond (t0==0) ((Bf k za 1).bind fun r5=>some (((),r5.1.2),r5.2)) (some (((),true),yV)))
def Bq(k:Nat)(t0:Int)(t1:List ze):Option ((Unit×Bool)×(List Int)):=
 (FH k t0 t1).bind fun r6=>cond (!r6) (some (((),false),[])) (Bq.l6 k k t0 t1 0 [] [])
def KO(k:Nat)(t0:Int)(t1:ze):Option ByteArray:=
 cond (t0==6) (some t1.2.1) ((Bq k t0 [t1]).bind fun r1=>some (wY r1.2))
def Dt.d7(k:Nat)(t0:Int)(t1:ByteArray)(yV:ze)(za:ze):Option (ze×Bool):=
 (D7 k t0 za).bind fun r1=>cond r1 ((KO k t0 za).bind fun r2=>some (za,iY r2 t1)) (some (za,false))
def Dt.c7(k:Nat)(t0:Int)(t1:ByteArray)(yV:ze)(za:ze):Option (ze×Bool):=
 Dt.d7 k t0 t1 yV za
def Dt(k:Nat)(t0:Int)(t1:ByteArray):Option (ze×Bool):=
 cond (t0 !=6) ((Ct k t0 (eZ t1) 0 1).bind fun AO=>cond (!AO.1.2.2) (some ((0,zk,()),false)) ((gU AO.2 0).bind fun FY=>Dt.c7 k t0 t1 (0,zk,()) FY)) (Dt.c7 k t0 t1 (0,zk,()) (0,t1,()))
def KL(k:Nat)(t0:Int):Option Int:=
 cond (decide (t0<0)) (some (bits .xor .i64 t0 9223372036854775807)) (some t0)
def Dg.d5(k:Nat)(yV:ze)(za:ze):Option Bool:=
 (KL k yV.1).bind fun r1=>(KL k za.1).bind fun r2=>some (decide (r1<r2))
def Dg.l8(k:Nat):Nat→Int→ze→ze→Option Bool
 |0,_,_,_=>none
 |n+1,t7,yV,za=>
  (cond (decide (t7<(yV.2.1.size:Int))) (some (decide (t7<(za.2.1.size:Int)))) (some false)).bind fun b9=>cond b9 ((nC yV.2.1 t7).bind fun A7=>(nC za.2.1 t7).bind fun Af=>cond (A7 !=Af) ((nC yV.2.1 t7).bind fun Cj=>(nC za.2.1 t7).bind fun y13=>some (decide (Cj<y13))) ((Dg.l8 k n) (IntKind.wrap .i64 (t7+1)) yV za)) (some (decide ((yV.2.1.size:Int)<(za.2.1.size:Int))))
def Dg(k:Nat)(t0:Int)(t1:ze)(t2:ze):Option Bool:=
 (D7 k t0 t1).bind fun BX=>(cond (!BX) (some true) ((D7 k t0 t2).bind fun z_=>some (!z_))).bind fun b16=>cond b16 (some false) (cond (t0==5) (Dg.d5 k t1 t2) (cond (t0==6) (Dg.l8 k k 0 t1 t2) (some (decide (t1.1<t2.1)))))
def JE(k:Nat)(t0:zD)(t1:Bl):Option Bool:=
 (JA k t0).bind fun r1=>(cond (!r1) (some true) ((AP k t1.1 0 2000).bind fun r2=>some (!r2))).bind fun b3=>cond b3 (some false) (cond (!t1.2.1) ((cond ((t1.2.2.1.1==0)&&(iY t1.2.2.1.2.1 zk&&true)) (some (((t1.2.2.2.1.1==0)&&(iY t1.2.2.2.1.2.1 zk&&true)))) (some false)).bind fun b4=>some b4) ((D7 k t0.1 t1.2.2.1).bind fun r5=>(cond r5 ((D7 k t0.1 t1.2.2.2.1).bind fun r6=>some (r6)) (some false)).bind fun b7=>(cond b7 ((Dg k t0.1 t1.2.2.2.1 t1.2.2.1).bind fun r8=>some (!r8)) (some false)).bind fun b9=>some b9))
def FE.c15(k:Nat)(yV:zD)(za:Bl)(zC:Bl)(zR:Bl):Option (Bl×Bool):=
 (JE k yV zR).bind fun r1=>cond (!r1) (some (zC,false)) (some (zR,true))
def FE(k:Nat)(t0:zD)(t1:List yY)(t2:Int):Option (Bl×Bool):=
 (HY k t1 t2 3).bind fun r2=>(H6 k t1 t2 5).bind fun r3=>(H6 k t1 t2 6).bind fun r4=>(cond (!r2.2) (some true) (some (!(r3.2==r4.2)))).bind fun b5=>(cond b5 (some true) ((cond (!r3.2) ((BZ k t1 t2 5).bind fun r6=>(cond (decide (r6≥0)) (some true) ((BZ k t1 t2 6).bind fun r7=>some (decide (r7≥0)))).bind fun b8=>some (b8)) (some false)).bind fun b9=>some (b9))).bind fun b10=>cond b10 (some ((0,false,(0,zk,()),(0,zk,()),()),false)) (cond r3.2 ((Dt k t0.1 r3.1).bind fun AL=>(Dt k t0.1 r4.1).bind fun zV=>(cond (!AL.2) (some true) (some (!zV.2))).bind fun b13=>cond b13 (some ((0,false,(0,zk,()),(0,zk,()),()),false)) (FE.c15 k t0 (0,false,(0,zk,()),(0,zk,()),()) (0,false,(0,zk,()),(0,zk,()),()) (r2.1,r3.2,zV.1,AL.1,()))) (FE.c15 k t0 (0,false,(0,zk,()),(0,zk,()),()) (0,false,(0,zk,()),(0,zk,()),()) (r2.1,r3.2,(0,zk,()),(0,zk,()),())))
def Ar.GY(k:Nat)(yV:zA)(za:zA):Option (zA×Bool):=
 some (yV,true)
def Ar.F3(k:Nat)(t1:List yY)(t10:Int)(t11:Int)(yV:zD)(za:zA)(zC:zA):Option (zA×Bool):=
 cond (decide (t10>0)) ((BZ k t1 t11 t10).bind fun r1=>(cond (decide (r1≥0)) ((gU t1 r1).bind fun y2=>some (y2.1==12)) (some false)).bind fun b3=>cond b3 ((FE k yV t1 r1).bind fun r4=>Ar.GY k (za.1,za.2.1,za.2.2.1,za.2.2.2.1,za.2.2.2.2.1,za.2.2.2.2.2.1,za.2.2.2.2.2.2.1,za.2.2.2.2.2.2.2.1,za.2.2.2.2.2.2.2.2.1,za.2.2.2.2.2.2.2.2.2.1,r4.2,r4.1,za.2.2.2.2.2.2.2.2.2.2.2.2.1,()) zC) (Ar.GY k za zC)) (Ar.GY k za zC)
def Ar.c7(k:Nat)(t1:List yY)(t8:Int)(t10:Int)(yV:zD)(za:zA)(zC:zA)(zR:List Int):Option (zA×Bool):=
 (KP k t1 t8).bind fun r5=>cond (decide (r5<0)) (some (za,false)) ((EM k t1 r5 zR).bind fun r6=>(cond (!r6.1.2) (some true) ((gU r6.2 0).bind fun y7=>(AP k y7 0 2000).bind fun r8=>some (!r8))).bind fun b9=>cond b9 (some (za,false)) ((gU r6.2 0).bind fun A7=>(gU r6.2 1).bind fun Af=>cond (za.1==0) ((gU r6.2 2).bind fun Cj=>(cond (Cj !=3) (some true) ((gU r6.2 3).bind fun y13=>some (y13 !=3))).bind fun b14=>cond b14 (some ((za.1,za.2.1,A7,Af,za.2.2.2.2.1,za.2.2.2.2.2.1,za.2.2.2.2.2.2.1,za.2.2.2.2.2.2.2.1,za.2.2.2.2.2.2.2.2.1,za.2.2.2.2.2.2.2.2.2.1,za.2.2.2.2.2.2.2.2.2.2.1,za.2.2.2.2.2.2.2.2.2.2.2.1,za.2.2.2.2.2.2.2.2.2.2.2.2.1,()),false)) (Ar.F3 k t1 t10 r5 yV (za.1,za.2.1,A7,Af,za.2.2.2.2.1,za.2.2.2.2.2.1,za.2.2.2.2.2.2.1,za.2.2.2.2.2.2.2.1,za.2.2.2.2.2.2.2.2.1,za.2.2.2.2.2.2.2.2.2.1,za.2.2.2.2.2.2.2.2.2.2.1,za.2.2.2.2.2.2.2.2.2.2.2.1,za.2.2.2.2.2.2.2.2.2.2.2.2.1,()) zC)) (cond (za.1==3) ((gU r6.2 2).bind fun DU=>(gU r6.2 3).bind fun Dv=>(gU r6.2 4).bind fun Ag=>(gU r6.2 5).bind fun C7=>(BZ k t1 r5 7).bind fun Bp=>(cond (decide (DU<0)) (some true) (some (decide (Dv<0)))).bind fun b20=>(cond b20 (some true) (some (decide (Ag<0)))).bind fun MC=>(cond MC (some true) (some (decide (C7<0)))).bind fun ME=>(cond ME (some true) (some (decide (Bp<0)))).bind fun JU=>(cond JU (some true) ((gU t1 Bp).bind fun y24=>some (y24.1==1))).bind fun JV=>cond JV (some ((za.1,za.2.1,A7,Af,Dv,DU,Ag,C7,za.2.2.2.2.2.2.2.2.1,za.2.2.2.2.2.2.2.2.2.1,za.2.2.2.2.2.2.2.2.2.2.1,za.2.2.2.2.2.2.2.2.2.2.2.1,za.2.2.2.2.2.2.2.2.2.2.2.2.1,()),false)) (Ar.F3 k t1 t10 r5 yV (za.1,za.2.1,A7,Af,Dv,DU,Ag,C7,za.2.2.2.2.2.2.2.2.1,za.2.2.2.2.2.2.2.2.2.1,za.2.2.2.2.2.2.2.2.2.2.1,za.2.2.2.2.2.2.2.2.2.2.2.1,za.2.2.2.2.2.2.2.2.2.2.2.2.1,()) zC)) (Ar.F3 k t1 t10 r5 yV (za.1,za.2.1,A7,Af,za.2.2.2.2.1,za.2.2.2.2.2.1,za.2.2.2.2.2.2.1,za.2.2.2.2.2.2.2.1,za.2.2.2.2.2.2.2.2.1,za.2.2.2.2.2.2.2.2.2.1,za.2.2.2.2.2.2.2.2.2.2.1,za.2.2.2.2.2.2.2.2.2.2.2.1,za.2.2.2.2.2.2.2.2.2.2.2.2.1,()) zC))))
def Ar(k:Nat)(t0:zD)(t1:List yY)(t2:zA):Option (zA×Bool):=
 cond (t2.1==2) (Ar.c7 k t1 7 0 t0 t2 (0,0,0,0,0,0,0,0,false,0,false,(0,false,(0,zk,()),(0,zk,()),()),0,()) [1,2]) (cond (t2.1==3) (Ar.c7 k t1 8 8 t0 t2 (0,0,0,0,0,0,0,0,false,0,false,(0,false,(0,zk,()),(0,zk,()),()),0,()) [1,4,2,3,5,6]) (Ar.c7 k t1 5 5 t0 t2 (0,0,0,0,0,0,0,0,false,0,false,(0,false,(0,zk,()),(0,zk,()),()),0,()) [1,2,3,4]))
def AY.c17(k:Nat)(t1:List Int)(t10:Int)(yV:zD)(za:zA)(zC:zA)(zR:List yY)(Ap:zA):Option (zA×Int):=
 (Ar k yV zR Ap).bind fun r1=>cond (!r1.2) (some (zC,1)) (cond (decide (r1.1.2.1>(IntKind.wrap .i64 ((List.length t1:Int)-t10)))) (some (zC,2)) (some (r1.1,0)))
def AY(k:Nat)(t0:zD)(t1:List Int)(t2:Int):Option (zA×Int):=
 (JC k t1 t2).bind fun r2=>(JA k t0).bind fun r3=>(cond (!r3) (some true) (some (r2.1.2.2 !=0))).bind fun b4=>cond b4 (some ((0,0,0,0,0,0,0,0,false,0,false,(0,false,(0,zk,()),(0,zk,()),()),0,()),1)) ((EM k r2.2 0 [1,2,3]).bind fun r5=>(cond (!r5.1.2) (some true) ((gU r5.2 0).bind fun y6=>(cond (y6 !=0) ((gU r5.2 0).bind fun y7=>some (y7 !=2)) (some false)).bind fun b8=>(cond b8 ((gU r5.2 0).bind fun y9=>some (y9 !=3)) (some false)).bind fun b10=>some (b10))).bind fun b11=>(cond b11 (some true) ((gU r5.2 1).bind fun Cj=>some (decide (Cj<0)))).bind fun b13=>(cond b13 (some true) ((gU r5.2 1).bind fun FY=>(gU r5.2 2).bind fun DU=>some (FY !=DU))).bind fun b16=>cond b16 (some ((0,0,0,0,0,0,0,0,false,0,false,(0,false,(0,zk,()),(0,zk,()),()),0,()),1)) ((gU r5.2 0).bind fun Ag=>(gU r5.2 1).bind fun C7=>(BZ k r2.2 0 4).bind fun Bp=>cond (decide (Bp≥0)) ((gU r2.2 Bp).bind fun y20=>cond (y20.1 !=5) (some ((0,0,0,0,0,0,0,0,false,0,false,(0,false,(0,zk,()),(0,zk,()),()),0,()),1)) ((gU r2.2 Bp).bind fun y21=>cond (decide (y21.2.2.1<0)) (AY.c17 k t1 r2.1.2.1 t0 (0,0,0,0,0,0,0,0,false,0,false,(0,false,(0,zk,()),(0,zk,()),()),0,()) (0,0,0,0,0,0,0,0,false,0,false,(0,false,(0,zk,()),(0,zk,()),()),0,()) r2.2 (Ag,C7,0,0,0,0,0,0,true,IntKind.wrap .i64 (y21.2.2.1+4294967296),false,(0,false,(0,zk,()),(0,zk,()),()),r2.1.2.1,())) (AY.c17 k t1 r2.1.2.1 t0 (0,0,0,0,0,0,0,0,false,0,false,(0,false,(0,zk,()),(0,zk,()),()),0,()) (0,0,0,0,0,0,0,0,false,0,false,(0,false,(0,zk,()),(0,zk,()),()),0,()) r2.2 (Ag,C7,0,0,0,0,0,0,true,y21.2.2.1,false,(0,false,(0,zk,()),(0,zk,()),()),r2.1.2.1,())))) (AY.c17 k t1 r2.1.2.1 t0 (0,0,0,0,0,0,0,0,false,0,false,(0,false,(0,zk,()),(0,zk,()),()),0,()) (0,0,0,0,0,0,0,0,false,0,false,(0,false,(0,zk,()),(0,zk,()),()),0,()) r2.2 (Ag,C7,0,0,0,0,0,0,false,0,false,(0,false,(0,zk,()),(0,zk,()),()),r2.1.2.1,()))))
def FF.l4(k:Nat):Nat→ByteArray→Int→Option Bool
 |0,_,_=>none
 |n+1,t0,t3=>
  cond (decide (t3<(t0.size:Int))) ((nC t0 t3).bind fun y1=>(cond (decide (y1<97)) (some true) ((nC t0 t3).bind fun y2=>some (decide (y2>122)))).bind fun b3=>cond b3 (some false) ((FF.l4 k n) t0 (IntKind.wrap .i64 (t3+1)))) (some true)
def FF(k:Nat)(t0:ByteArray):Option Bool:=
 (AP k (t0.size:Int) 1 20).bind fun r4=>cond (!r4) (some false) (FF.l4 k k t0 0)
def Au.IC(k:Nat)(Eb:(List zg)→Int→Int→Option Int)(Mr:(List zg)→Int→Int→Int→zg→(List ByteArray)→Option Int):Nat→(List zg)→Int→Int→Int→Int→zg→(List ByteArray)→Option Int
 |0,_,_,_,_,_,_,_=>none
 |n+1,t0,t2,t8,t10,t11,yV,za=>
  cond (decide (t11<(List.length za:Int))) ((gU za t11).bind fun y1=>(gU t0 t8).bind fun y2=>cond (iY y1 y2.1) (some (-1)) ((Au.IC k Eb Mr n) t0 t2 t8 t10 (IntKind.wrap .i64 (t11+1)) yV za)) ((gU t0 t8).bind fun y3=>cond (lim (List.length za+List.length [y3.1])) ((Eb t0 t8 (IntKind.wrap .i64 (t2+1))).bind fun r4=>cond (decide (r4<0)) (some (-1)) (Mr t0 t2 r4 (IntKind.wrap .i64 (t10+1)) yV (za++[y3.1]))) none)
def Au.Iz(k:Nat)(Eb:(List zg)→Int→Int→Option Int):Nat→(List zg)→Int→Int→Int→zg→(List ByteArray)→Option Int
 |0,_,_,_,_,_,_=>none
 |n+1,t0,t2,t8,t10,yV,za=>
  cond (decide (t10<yV.2.2.2.1)) (cond (decide (t8≥(List.length t0:Int))) (some (-1)) (Au.IC k Eb (Au.Iz k Eb n) k t0 t2 t8 t10 0 yV za)) (some t8)
def Au.b(k:Nat)(Eb:(List zg)→Int→Int→Option Int)(t0:List zg)(t1:Int)(t2:Int):Option Int:=
 (cond (decide (t1≥(List.length t0:Int))) (some true) (some (decide (t2>6)))).bind fun b5=>cond b5 (some (-1)) ((gU t0 t1).bind fun y6=>(cond (t1==0) ((cond (!iY y6.1 zk) (some true) (some (y6.2.2.1 !=0))).bind fun b7=>(cond b7 (some true) (some (y6.2.1 !=7))).bind fun b8=>some (b8)) (some false)).bind fun b9=>(cond b9 (some true) ((cond (decide (t1>0)) ((FF k y6.1).bind fun Be=>some (!Be)) (some false)).bind fun b11=>some (b11))).bind fun b12=>(cond b12 (some true) ((AP k y6.2.2.1 0 2).bind fun AO=>some (!AO))).bind fun b14=>cond b14 (some (-1)) (cond (y6.2.1 !=7) ((DN k y6.2.1).bind fun z_=>(cond (!z_) (some true) (some (y6.2.2.2.1 !=0))).bind fun b16=>cond b16 (some (-1)) (some (IntKind.wrap .i64 (t1+1)))) (cond (decide (y6.2.2.2.1<1)) (some (-1)) (Au.Iz k Eb k t0 t2 (IntKind.wrap .i64 (t1+1)) 0 y6 []))))
def Au.rec(k:Nat):Nat→((List zg)→Int→Int→Option Int)
 |0=>fun _ _ _=>none
 |d+1=>Au.b k ((Au.rec k d))
def Au.d(k d:Nat):(List zg)→Int→Int→Option Int:=(Au.rec k d)
def Au(k:Nat):(List zg)→Int→Int→Option Int:=Au.d k k
def Gl(k:Nat)(t0:List zg):Option Bool:=
 (AP k (List.length t0:Int) 2 20).bind fun r1=>(cond r1 ((Au k t0 0 1).bind fun r2=>some (r2==(List.length t0:Int))) (some false)).bind fun b3=>some b3
def Di.c4(k:Nat)(L3:(List zg)→Int→(List Int)→Option (Unit×(List Int)))(t0:List zg)(t4:Int)(yV:List Int):Option (Unit×(List Int)):=
 L3 t0 (IntKind.wrap .i64 (t4+1)) yV
def Di.l3(k:Nat):Nat→(List zg)→Int→(List Int)→Option (Unit×(List Int))
 |0,_,_,_=>none
 |n+1,t0,t4,yV=>
  cond (decide (t4<(List.length t0:Int))) ((gU t0 t4).bind fun y1=>cond (y1.2.1 !=7) (cond (lim (List.length yV+List.length [t4])) (Di.c4 k (Di.l3 k n) t0 t4 (yV++[t4])) none) (Di.c4 k (Di.l3 k n) t0 t4 yV)) (some ((),yV))
def Di(k:Nat)(t0:List zg):Option (Unit×(List Int)):=
 Di.l3 k k t0 0 []
def IV(k:Nat)(t0:List zg):Option (Unit×(List Int)):=
 (Gl k t0).bind fun r1=>cond (!r1) (some ((),[])) ((Di k t0).bind fun r2=>some ((),r2.2))
def B_.l3(k:Nat)(Gt:(List zg)→Int→Option Int):Nat→(List zg)→Int→Int→Int→Option Int
 |0,_,_,_,_=>none
 |n+1,t0,t1,t5,t6=>
  (gU t0 t1).bind fun y1=>cond (decide (t6<y1.2.2.2.1)) ((Gt t0 t5).bind fun r2=>(B_.l3 k Gt n) t0 t1 r2 (IntKind.wrap .i64 (t6+1))) (some t5)
def B_.b(k:Nat)(Gt:(List zg)→Int→Option Int)(t0:List zg)(t1:Int):Option Int:=
 B_.l3 k Gt k t0 t1 (IntKind.wrap .i64 (t1+1)) 0
def B_.rec(k:Nat):Nat→((List zg)→Int→Option Int)
 |0=>fun _ _=>none
 |d+1=>B_.b k ((B_.rec k d))
def B_.d(k d:Nat):(List zg)→Int→Option Int:=(B_.rec k d)
def B_(k:Nat):(List zg)→Int→Option Int:=B_.d k k
def Dj.c4(k:Nat)(L3:(List zg)→Int→Int→(List Int)→Option (Unit×(List Int)))(t0:List zg)(t1:Int)(t6:Int)(yV:List Int):Option (Unit×(List Int)):=
 L3 t0 t1 (IntKind.wrap .i64 (t6+1)) yV
def Dj.l3(k:Nat):Nat→(List zg)→Int→Int→(List Int)→Option (Unit×(List Int))
 |0,_,_,_,_=>none
 |n+1,t0,t1,t6,yV=>
  cond (decide (t6≤t1)) ((B_ k t0 t6).bind fun r1=>cond (decide (r1>t1)) (cond (lim (List.length yV+List.length [t6])) (Dj.c4 k (Dj.l3 k n) t0 t1 t6 (yV++[t6])) none) (Dj.c4 k (Dj.l3 k n) t0 t1 t6 yV)) (some ((),yV))
def Dj(k:Nat)(t0:List zg)(t1:Int):Option (Unit×(List Int)):=
 Dj.l3 k k t0 t1 0 []
def Ca.c5(k:Nat)(L4:(List zg)→Int→Int→Int→(List Int)→Option (Int×Int))(t0:List zg)(t6:Int)(t7:Int)(t9:Int)(yV:List Int):Option (Int×Int):=
 L4 t0 t6 t7 (IntKind.wrap .i64 (t9+1)) yV
def Ca.c8(k:Nat)(L4:(List zg)→Int→Int→Int→(List Int)→Option (Int×Int))(t0:List zg)(t6:Int)(t7:Int)(t9:Int)(yV:List Int):Option (Int×Int):=
 (gU yV t9).bind fun y1=>(gU t0 y1).bind fun y2=>cond (y2.2.2.1==2) (Ca.c5 k L4 t0 t6 (IntKind.wrap .i64 (t7+1)) t9 yV) (Ca.c5 k L4 t0 t6 t7 t9 yV)
def Ca.l4(k:Nat):Nat→(List zg)→Int→Int→Int→(List Int)→Option (Int×Int)
 |0,_,_,_,_,_=>none
 |n+1,t0,t6,t7,t9,yV=>
  cond (decide (t9<(List.length yV:Int))) ((gU yV t9).bind fun y3=>(gU t0 y3).bind fun y4=>cond (y4.2.2.1 !=0) (Ca.c8 k (Ca.l4 k n) t0 (IntKind.wrap .i64 (t6+1)) t7 t9 yV) (Ca.c8 k (Ca.l4 k n) t0 t6 t7 t9 yV)) (some (t6,t7))
def Ca(k:Nat)(t0:List zg)(t1:Int):Option (Int×Int):=
 (Dj k t0 t1).bind fun r5=>Ca.l4 k k t0 0 0 0 r5.2
def KM(k:Nat)(t0:List zg)(t1:Int):Option (zD×Bool):=
 (IV k t0).bind fun r1=>(AP k t1 0 (IntKind.wrap .i64 ((List.length r1.2:Int)-1))).bind fun r2=>cond (!r2) (some ((0,0,0,()),false)) ((gU r1.2 t1).bind fun y3=>(Ca k t0 y3).bind fun r4=>(gU r1.2 t1).bind fun y5=>(gU t0 y5).bind fun y6=>some ((y6.2.1,r4.2,r4.1,()),true))
def Dh.c3(k:Nat)(L2:Int→Int→Option Int)(t0:Int)(t3:Int):Option Int:=
 L2 t0 (IntKind.wrap .i64 (t3+1))
def Dh.l2(k:Nat):Nat→Int→Int→Option Int
 |0,_,_=>none
 |n+1,t0,t3=>
  cond (decide (t3<8)) (cond ((bits .and .i64 t0 1)==1) (Dh.c3 k (Dh.l2 k n) (bits .xor .i64 (IntKind.wrap .i64 (Int.tdiv t0 2)) 3988292384) t3) (Dh.c3 k (Dh.l2 k n) (IntKind.wrap .i64 (Int.tdiv t0 2)) t3)) (some t0)
def Dh(k:Nat)(t0:Int):Option Int:=
 Dh.l2 k k t0 0
def FT.l5(k:Nat):Nat→(List Int)→Int→Int→Option Int
 |0,_,_,_=>none
 |n+1,t1,t5,t6=>
  cond (decide (t6<(List.length t1:Int))) ((gU t1 t6).bind fun y1=>(Dh k (bits .xor .i64 (bits .and .i64 t5 255) (IntKind.wrap .i64 y1))).bind fun r2=>(FT.l5 k n) t1 (bits .xor .i64 (pE .i64 t5 8) r2) (IntKind.wrap .i64 (t6+1))) (some (bits .xor .i64 t5 4294967295))
def FT(k:Nat)(t0:Int)(t1:List Int):Option Int:=
 (AP k t0 0 4294967295).bind fun r3=>cond (!r3) (some (-1)) (FT.l5 k k t1 (bits .xor .i64 t0 4294967295) 0)
def IU(k:Nat)(t0:List Int):Option Int:=
 (FT k 0 t0).bind fun r1=>some r1
def GJ.d8(k:Nat)(t0:Int)(t12:List Int)(yV:List ze)(za:zA):Option ((Unit×Int×Int)×(List ze)):=
 cond za.2.2.2.2.2.2.2.2.1 ((IU k t12).bind fun r1=>cond (r1 !=za.2.2.2.2.2.2.2.2.2.1) (some (((),0,3),yV)) ((Ct k t0 t12 0 za.2.2.1).bind fun r2=>(cond (!r2.1.2.2) (some true) (some (r2.1.2.1 !=(List.length t12:Int)))).bind fun b3=>cond b3 (some (((),0,5),yV)) (some (((),IntKind.wrap .i64 (za.2.2.2.2.2.2.2.2.2.2.2.2.1+za.2.1),0),r2.2)))) (cond false (some (((),0,3),yV)) ((Ct k t0 t12 0 za.2.2.1).bind fun r4=>(cond (!r4.1.2.2) (some true) (some (r4.1.2.1 !=(List.length t12:Int)))).bind fun b5=>cond b5 (some (((),0,5),yV)) (some (((),IntKind.wrap .i64 (za.2.2.2.2.2.2.2.2.2.2.2.2.1+za.2.1),0),r4.2))))
def GJ(k:Nat)(t0:Int)(t1:List Int)(t2:Int):Option ((Unit×Int×Int)×(List ze)):=
 (AY k (t0,0,0,()) t1 t2).bind fun r16=>cond (r16.2 !=0) (some (((),0,r16.2),[])) ((cond (r16.1.1 !=2) (some true) ((cond (r16.1.2.2.2.1 !=0) (some (r16.1.2.2.2.1 !=2)) (some false)).bind fun b17=>some (b17))).bind fun b18=>cond b18 (some (((),0,1),[])) (cond (jg r16.1.2.2.2.2.2.2.2.2.2.2.2.2.1 (IntKind.wrap .i64 (r16.1.2.2.2.2.2.2.2.2.2.2.2.2.1+r16.1.2.1)) (List.length t1)) (GJ.d8 k t0 (kV t1 r16.1.2.2.2.2.2.2.2.2.2.2.2.2.1 (IntKind.wrap .i64 (r16.1.2.2.2.2.2.2.2.2.2.2.2.2.1+r16.1.2.1))) [] r16.1) none))
def Cq.Aj(k:Nat):Nat→(List Int)→Int→Int→zD→zP→(List Int)→(List ze)→(List ze)→(List Int)→Option ((Unit×Unit×Int)×(List Int)×(List ze))
 |0,_,_,_,_,_,_,_,_,_=>none
 |n+1,t1,t16,t17,yV,za,zC,zR,Ap,Bz=>
  cond (decide (t17<za.2.2.2.1)) ((AY k yV t1 t16).bind fun r1=>cond (r1.2 !=0) (some (((),(),r1.2),(zC,zR))) ((cond (r1.1.1==2) (some true) (some (r1.1.2.2.1==0))).bind fun b2=>(cond b2 (some true) (some (decide ((IntKind.wrap .i64 (t17+r1.1.2.2.1))>za.2.2.2.1)))).bind fun b3=>cond b3 (some (((),(),1),(zC,zR))) (cond (lim (List.length Bz+List.length [t16])) ((Cq.Aj k n) t1 (IntKind.wrap .i64 (r1.1.2.2.2.2.2.2.2.2.2.2.2.2.1+r1.1.2.1)) (IntKind.wrap .i64 (t17+r1.1.2.2.1)) yV za zC zR Ap (Bz++[t16])) none))) (some (((),(),0),(Bz,Ap)))
def Cq.c10(k:Nat)(t1:List Int)(yV:zD)(za:zP)(zC:List Int)(zR:List ze)(Ap:List ze):Option ((Unit×Unit×Int)×(List Int)×(List ze)):=
 Cq.Aj k k t1 za.2.1 0 yV za zC zR Ap []
def Cq(k:Nat)(t0:zD)(t1:List Int)(t2:zP):Option ((Unit×Unit×Int)×(List Int)×(List ze)):=
 (cond (decide (t2.2.1<0)) (some true) (some (decide (t2.2.2.1<(-1))))).bind fun b4=>cond b4 (some (((),(),1),([],[]))) (cond (decide (t2.2.2.1≥0)) ((GJ k t0.1 t1 t2.2.2.1).bind fun r5=>cond (r5.1.2.2 !=0) (some (((),(),r5.1.2.2),([],[]))) (Cq.c10 k t1 t0 t2 [] [] r5.2)) (Cq.c10 k t1 t0 t2 [] [] []))
def Du.d6(k:Nat)(L4:Int→zP→Option Bool)(t5:Int)(yV:zP):Option Bool:=
 (gU yV.2.2.2.2.2.1 t5).bind fun y1=>(AP k y1 0 9).bind fun r2=>cond (!r2) (cond true (some false) (L4 (IntKind.wrap .i64 (t5+1)) yV)) (cond (decide (t5>0)) ((gU yV.2.2.2.2.2.1 (IntKind.wrap .i64 (t5-1))).bind fun y3=>(gU yV.2.2.2.2.2.1 t5).bind fun y4=>cond (decide (y3≥y4)) (some false) (L4 (IntKind.wrap .i64 (t5+1)) yV)) (cond false (some false) (L4 (IntKind.wrap .i64 (t5+1)) yV)))
def Du.l4(k:Nat):Nat→Int→zP→Option Bool
 |0,_,_=>none
 |n+1,t5,yV=>
  cond (decide (t5<(List.length yV.2.2.2.2.2.1:Int))) (Du.d6 k (Du.l4 k n) t5 yV) (some true)
def Du(k:Nat)(t0:zP)(t1:Int):Option Bool:=
 (cond (t0.1 !=t1) (some true) ((AP k t0.2.1 0 60000).bind fun r9=>some (!r9))).bind fun b10=>(cond b10 (some true) ((AP k t0.2.2.1 (-1) 60000).bind fun AL=>some (!AL))).bind fun b12=>(cond b12 (some true) ((AP k t0.2.2.2.1 1 2000).bind fun AO=>some (!AO))).bind fun b14=>(cond b14 (some true) ((AP k t0.2.2.2.2.1 0 60000).bind fun z_=>some (!z_))).bind fun b16=>(cond b16 (some true) ((AP k (List.length t0.2.2.2.2.2.1:Int) 1 5).bind fun Hy=>some (!Hy))).bind fun b18=>cond b18 (some false) (Du.l4 k k 0 t0)
def Co.Aj(k:Nat)(L6:Int→Int→zY→(List Int)→Option Bool):Nat→Int→Int→Int→zY→(List Int)→zF→Option Bool
 |0,_,_,_,_,_,_=>none
 |n+1,t4,t5,t7,yV,za,zC=>
  cond (decide (t7<(List.length zC.2.1:Int))) ((gU zC.2.1 t7).bind fun y1=>(Du k y1 t7).bind fun r2=>cond (!r2) (some false) ((Co.Aj k L6 n) t4 t5 (IntKind.wrap .i64 (t7+1)) yV za zC)) (L6 t4 (IntKind.wrap .i64 (t5+1)) yV za)
def Co.l6(k:Nat):Nat→Int→Int→zY→(List Int)→Option Bool
 |0,_,_,_,_=>none
 |n+1,t4,t5,yV,za=>
  cond (decide (t5<(List.length yV.2.2.1:Int))) ((gU yV.2.2.1 t5).bind fun y3=>(AP k y3.1 1 200).bind fun r4=>(cond (!r4) (some true) (some ((List.length y3.2.1:Int) !=(List.length za:Int)))).bind fun b5=>cond b5 (some false) (Co.Aj k (Co.l6 k n) k (IntKind.wrap .i64 (t4+y3.1)) t5 0 yV za y3)) (some (t4==yV.2.1))
def Co(k:Nat)(t0:zY):Option Bool:=
 (IV k t0.1).bind fun r6=>(Gl k t0.1).bind fun r7=>(cond (!r7) (some true) (some (decide ((List.length t0.2.2.1:Int)>40)))).bind fun b8=>(cond b8 (some true) ((AP k t0.2.1 0 200).bind fun r9=>some (!r9))).bind fun b10=>cond b10 (some false) (Co.l6 k k 0 0 t0 r6.2)
def LY(k:Nat)(t0:zD)(t1:zA):Option Int:=
 cond (t1.1==3) (some t1.2.2.2.2.1) (cond (t0.2.1==0) (some t1.2.2.1) (some (-1)))
def zy.IE(k:Nat):Nat→Int→Int→(List zo)→(List zo)→zF→Option ((Unit×Bool)×(List zo))
 |0,_,_,_,_,_=>none
 |n+1,t22,t23,yV,za,zC=>
  cond (decide (t23<(List.length yV:Int))) ((gU yV t23).bind fun y1=>(zy.IE k n) (IntKind.wrap .i64 (t22+y1.1)) (IntKind.wrap .i64 (t23+1)) yV za zC) (cond (t22 !=zC.1) (some (((),false),za)) (some (((),true),yV)))
def zy.c24(k:Nat)(GU:(List Int)→Int→Int→zY→(List zo)→(List zo)→zF→zD→(List Int)→Option ((Unit×Bool)×(List zo)))(t0:List Int)(t11:Int)(t17:Int)(yV:zY)(za:List zo)(zC:List zo)(zR:zF)(Ap:zD)(Bz:List Int)(DC:AA):Option ((Unit×Bool)×(List zo)):=
 (gU za t17).bind fun y2=>cond (lim (List.length y2.2.1+List.length [DC])) ((gU za t17).bind fun y3=>cond (t17==t17) ((gU za t17).bind fun y4=>(gU (List.set za (Int.toNat t17) (y4.1,y2.2.1++[DC],y4.2.2.1,())) t17).bind fun y5=>(gU Bz t17).bind fun y6=>cond (lim (List.length y5.2.2.1+List.length [y6])) ((gU (List.set za (Int.toNat t17) (y4.1,y2.2.1++[DC],y4.2.2.1,())) t17).bind fun y7=>cond (t17==t17) ((gU (List.set za (Int.toNat t17) (y4.1,y2.2.1++[DC],y4.2.2.1,())) t17).bind fun y8=>GU t0 t11 (IntKind.wrap .i64 (t17+1)) yV (List.set (List.set za (Int.toNat t17) (y4.1,y2.2.1++[DC],y4.2.2.1,())) (Int.toNat t17) (y8.1,y8.2.1,y5.2.2.1++[y6],())) zC zR Ap Bz) none) none) none) none
def zy.c19(k:Nat)(GU:(List Int)→Int→Int→zY→(List zo)→(List zo)→zF→zD→(List Int)→Option ((Unit×Bool)×(List zo)))(t0:List Int)(t11:Int)(t17:Int)(t20:Int)(yV:zY)(za:List zo)(zC:List zo)(zR:zF)(Ap:zD)(Bz:List Int)(DC:zA):Option ((Unit×Bool)×(List zo)):=
 (cond (decide (t20<0)) (some true) ((gU za t17).bind fun y9=>some (y9.1 !=t20))).bind fun b10=>cond b10 (some (((),false),zC)) ((cond DC.2.2.2.2.2.2.2.2.2.2.1 (some (Ap.2.1==0)) (some false)).bind fun b11=>cond b11 (zy.c24 k GU t0 t11 t17 yV za zC zR Ap Bz (true,DC.2.2.2.2.2.2.2.2.2.2.2.1,())) (zy.c24 k GU t0 t11 t17 yV za zC zR Ap Bz (false,(0,false,(0,zk,()),(0,zk,()),()),())))
def zy.d15(k:Nat)(GU:(List Int)→Int→Int→zY→(List zo)→(List zo)→zF→zD→(List Int)→Option ((Unit×Bool)×(List zo)))(t0:List Int)(t11:Int)(t17:Int)(yV:zY)(za:List zo)(zC:List zo)(zR:zF)(Ap:zD)(Bz:List Int):Option ((Unit×Bool)×(List zo)):=
 (gU Bz t17).bind fun Cj=>(AY k Ap t0 Cj).bind fun AO=>(LY k Ap AO.1).bind fun BX=>cond (t11==0) (cond (lim (List.length za+List.length ([(BX,[],[],())]:List zo))) (zy.c19 k GU t0 t11 t17 BX yV (za++[(BX,[],[],())]) zC zR Ap Bz AO.1) none) (zy.c19 k GU t0 t11 t17 BX yV za zC zR Ap Bz AO.1)
def zy.Aj(k:Nat)(L6:(List Int)→Int→zY→(List zo)→(List zo)→zF→Option ((Unit×Bool)×(List zo))):Nat→(List Int)→Int→Int→zY→(List zo)→(List zo)→zF→zD→(List Int)→Option ((Unit×Bool)×(List zo))
 |0,_,_,_,_,_,_,_,_,_=>none
 |n+1,t0,t11,t17,yV,za,zC,zR,Ap,Bz=>
  cond (decide (t17<(List.length Bz:Int))) (zy.d15 k (zy.Aj k L6 n) t0 t11 t17 yV za zC zR Ap Bz) (L6 t0 (IntKind.wrap .i64 (t11+1)) yV za zC zR)
def zy.d9(k:Nat)(L6:(List Int)→Int→zY→(List zo)→(List zo)→zF→Option ((Unit×Bool)×(List zo)))(t0:List Int)(t11:Int)(yV:zY)(za:List zo)(zC:List zo)(zR:zF)(Ap:zD):Option ((Unit×Bool)×(List zo)):=
 (gU zR.2.1 t11).bind fun y21=>(Cq k Ap t0 y21).bind fun Jz=>(cond (Jz.1.2.2 !=0) (some true) ((cond (decide (t11>0)) (some ((List.length Jz.2.1:Int) !=(List.length za:Int))) (some false)).bind fun JU=>some (JU))).bind fun K8=>cond K8 (some (((),false),zC)) (zy.Aj k L6 k t0 t11 0 yV za zC zR Ap Jz.2.1)
def zy.l6(k:Nat):Nat→(List Int)→Int→zY→(List zo)→(List zo)→zF→Option ((Unit×Bool)×(List zo))
 |0,_,_,_,_,_,_=>none
 |n+1,t0,t11,yV,za,zC,zR=>
  cond (decide (t11<(List.length zR.2.1:Int))) ((KM k yV.1 t11).bind fun r29=>zy.d9 k (zy.l6 k n) t0 t11 yV za zC zR r29.1) (zy.IE k k 0 0 za zC zR)
def zy(k:Nat)(t0:List Int)(t1:zY)(t2:Int):Option ((Unit×Bool)×(List zo)):=
 (Co k t1).bind fun r30=>(cond (!r30) (some true) ((AP k t2 0 (IntKind.wrap .i64 ((List.length t1.2.2.1:Int)-1))).bind fun r31=>some (!r31))).bind fun b32=>cond b32 (some (((),false),[])) ((gU t1.2.2.1 t2).bind fun y33=>zy.l6 k k t0 0 t1 [] [] y33)
def Ht(k:Nat)(t0:zg):Option (zg):=
 some t0
def Fx.l3(k:Nat):Nat→(List zg)→Int→(List zg)→Option (Unit×(List zg))
 |0,_,_,_=>none
 |n+1,t0,t4,yV=>
  cond (decide (t4<(List.length t0:Int))) ((gU t0 t4).bind fun y1=>(Ht k y1).bind fun r2=>(gU yV t4).bind fun y3=>(gU yV t4).bind fun y4=>(Fx.l3 k n) t0 (IntKind.wrap .i64 (t4+1)) (List.set yV (Int.toNat t4) r2)) (some ((),yV))
def Fx(k:Nat)(t0:List zg):Option (Unit×(List zg)):=
 cond (oV (List.length t0:Int)) (Fx.l3 k k t0 0 (List.replicate (Int.toNat (List.length t0:Int)) (zk,0,0,0,()))) none
def Fz.l3(k:Nat):Nat→(List Int)→Int→(List Int)→Option (Unit×(List Int))
 |0,_,_,_=>none
 |n+1,t0,t4,yV=>
  cond (decide (t4<(List.length t0:Int))) ((gU t0 t4).bind fun y1=>(gU yV t4).bind fun y2=>(gU yV t4).bind fun y3=>(Fz.l3 k n) t0 (IntKind.wrap .i64 (t4+1)) (List.set yV (Int.toNat t4) y1)) (some ((),yV))
def Fz(k:Nat)(t0:List Int):Option (Unit×(List Int)):=
 cond (oV (List.length t0:Int)) (Fz.l3 k k t0 0 (List.replicate (Int.toNat (List.length t0:Int)) 0)) none
def Hr(k:Nat)(t0:zP):Option (((Int×Int×Int×Int×Int×Unit×Unit))×(List Int)):=
 (Fz k t0.2.2.2.2.2.1).bind fun r1=>some ((t0.1,t0.2.1,t0.2.2.1,t0.2.2.2.1,t0.2.2.2.2.1,(),()),r1.2)
def Fw.l3(k:Nat):Nat→(List zP)→Int→(List zP)→Option (Unit×(List zP))
 |0,_,_,_=>none
 |n+1,t0,t4,yV=>
  cond (decide (t4<(List.length t0:Int))) ((gU t0 t4).bind fun y1=>(Hr k y1).bind fun r2=>(gU yV t4).bind fun y3=>(gU yV t4).bind fun y4=>(Fw.l3 k n) t0 (IntKind.wrap .i64 (t4+1)) (List.set yV (Int.toNat t4) (r2.1.1,r2.1.2.1,r2.1.2.2.1,r2.1.2.2.2.1,r2.1.2.2.2.2.1,r2.2,()))) (some ((),yV))
def Fw(k:Nat)(t0:List zP):Option (Unit×(List zP)):=
 cond (oV (List.length t0:Int)) (Fw.l3 k k t0 0 (List.replicate (Int.toNat (List.length t0:Int)) (0,0,0,0,0,[],()))) none
def Hu(k:Nat)(t0:zF):Option (((Int×Unit×Unit))×(List zP)):=
 (Fw k t0.2.1).bind fun r1=>some ((t0.1,(),()),r1.2)
def Fy.l3(k:Nat):Nat→(List zF)→Int→(List zF)→Option (Unit×(List zF))
 |0,_,_,_=>none
 |n+1,t0,t4,yV=>
  cond (decide (t4<(List.length t0:Int))) ((gU t0 t4).bind fun y1=>(Hu k y1).bind fun r2=>(gU yV t4).bind fun y3=>(gU yV t4).bind fun y4=>(Fy.l3 k n) t0 (IntKind.wrap .i64 (t4+1)) (List.set yV (Int.toNat t4) (r2.1.1,r2.2,()))) (some ((),yV))
def Fy(k:Nat)(t0:List zF):Option (Unit×(List zF)):=
 cond (oV (List.length t0:Int)) (Fy.l3 k k t0 0 (List.replicate (Int.toNat (List.length t0:Int)) (0,[],()))) none
def FB(k:Nat)(t0:zY):Option (((Unit×Int×Unit×Unit))×(List zg)×(List zF)):=
 (Fx k t0.1).bind fun r1=>(Fy k t0.2.2.1).bind fun r2=>some (((),t0.2.1,(),()),(r1.2,r2.2))
def Ao(k:Nat)(t0:Int)(t1:Int)(t2:Int):Option Bool:=
 (cond (decide (t0≥t1)) (some (decide (t0≤t2))) (some false)).bind fun b1=>some b1
def G_(k:Nat)(t0:Int):Option Bool:=
 (Ao k t0 0 2).bind fun r1=>(cond r1 (some true) (some (t0==5))).bind fun b2=>(cond b2 (some true) (some (t0==6))).bind fun b3=>some b3
def Kl(k:Nat)(t0:zg):Option Bool:=
 (cond (t0.2.1==7) (some (decide (t0.2.2.2.1>0))) (some false)).bind fun b1=>(G_ k t0.2.1).bind fun r2=>(cond r2 (some (t0.2.2.2.1==0)) (some false)).bind fun b3=>(cond b1 (some true) (some (b3))).bind fun b4=>(cond b4 ((Ao k t0.2.2.1 0 2).bind fun r5=>some (r5)) (some false)).bind fun b6=>some b6
def E5.l2(k:Nat):Nat→ByteArray→Int→Int→Option Bool
 |0,_,_,_=>none
 |n+1,t0,t5,t6=>
  cond (decide (t6<t5)) ((nC t0 t6).bind fun y1=>(Ao k (IntKind.wrap .i64 y1) 97 122).bind fun r2=>cond (!r2) (some false) ((E5.l2 k n) t0 t5 (IntKind.wrap .i64 (t6+1)))) ((Ao k (t0.size:Int) 1 20).bind fun r3=>some r3)
def E5(k:Nat)(t0:ByteArray):Option Bool:=
 E5.l2 k k t0 (t0.size:Int) 0
def zZ.l10(k:Nat)(Ec:(List zg)→Int→Int→Option Int)(L6:(List zg)→Int→Int→Int→Int→(List ByteArray)→Option Int):Nat→(List zg)→Int→Int→Int→Int→Int→Int→(List ByteArray)→Option Int
 |0,_,_,_,_,_,_,_,_=>none
 |n+1,t0,t2,t7,t47,t48,t55,t56,yV=>
  cond (decide (t56<t55)) ((gU yV t56).bind fun y1=>(gU t0 t7).bind fun y2=>cond (iY y1 y2.1) (some (-1)) ((zZ.l10 k Ec L6 n) t0 t2 t7 t47 t48 t55 (IntKind.wrap .i64 (t56+1)) yV)) ((gU t0 t7).bind fun y3=>cond (lim (List.length yV+List.length [y3.1])) ((Ec t0 t7 (IntKind.wrap .i64 (t2+1))).bind fun r4=>cond (decide (r4<0)) (some (-1)) (L6 t0 t2 r4 t47 (IntKind.wrap .i64 (t48+1)) (yV++[y3.1]))) none)
def zZ.l6(k:Nat)(Ec:(List zg)→Int→Int→Option Int):Nat→(List zg)→Int→Int→Int→Int→(List ByteArray)→Option Int
 |0,_,_,_,_,_,_=>none
 |n+1,t0,t2,t7,t47,t48,yV=>
  cond (decide (t48<t47)) (cond (decide (t7≥(List.length t0:Int))) (some (-1)) (zZ.l10 k Ec (zZ.l6 k Ec n) k t0 t2 t7 t47 t48 (List.length yV:Int) 0 yV)) (some t7)
def zZ.b(k:Nat)(Ec:(List zg)→Int→Int→Option Int)(t0:List zg)(t1:Int)(t2:Int):Option Int:=
 (cond (decide (t1≥(List.length t0:Int))) (some true) (some (decide (t2>6)))).bind fun b5=>(cond b5 (some true) ((gU t0 t1).bind fun y6=>(Kl k y6).bind fun r7=>some (!r7))).bind fun b8=>(cond b8 (some true) ((cond (decide (t1>0)) ((gU t0 t1).bind fun y9=>(E5 k y9.1).bind fun Be=>some (!Be)) (some false)).bind fun b11=>some (b11))).bind fun b12=>cond b12 (some (-1)) ((gU t0 t1).bind fun y13=>zZ.l6 k Ec k t0 t2 (IntKind.wrap .i64 (t1+1)) y13.2.2.2.1 0 [])
def zZ.rec(k:Nat):Nat→((List zg)→Int→Int→Option Int)
 |0=>fun _ _ _=>none
 |d+1=>zZ.b k ((zZ.rec k d))
def zZ.d(k d:Nat):(List zg)→Int→Int→Option Int:=(zZ.rec k d)
def zZ(k:Nat):(List zg)→Int→Int→Option Int:=zZ.d k k
def F6(k:Nat)(t0:List zg):Option Bool:=
 (Ao k (List.length t0:Int) 2 20).bind fun r1=>(cond (!r1) (some true) ((gU t0 0).bind fun y2=>some (y2.2.1 !=7))).bind fun b3=>(cond b3 (some true) ((gU t0 0).bind fun y4=>some (y4.2.2.1 !=0))).bind fun b5=>(cond b5 (some true) ((gU t0 0).bind fun y6=>some (!iY y6.1 zk))).bind fun b7=>cond b7 (some false) ((zZ k t0 0 1).bind fun r8=>some (r8==(List.length t0:Int)))
def CR.c7(k:Nat)(L3:(List zg)→Int→Int→(List Int)→Option (Unit×(List Int)))(t7:List zg)(t8:Int)(t9:Int)(yV:List Int):Option (Unit×(List Int)):=
 L3 t7 t8 (IntKind.wrap .i64 (t9+1)) yV
def CR.l3(k:Nat):Nat→(List zg)→Int→Int→(List Int)→Option (Unit×(List Int))
 |0,_,_,_,_=>none
 |n+1,t7,t8,t9,yV=>
  cond (decide (t9<t8)) ((gU t7 t9).bind fun y1=>cond (y1.2.1 !=7) (cond (lim (List.length yV+List.length [t9])) (CR.c7 k (CR.l3 k n) t7 t8 t9 (yV++[t9])) none) (CR.c7 k (CR.l3 k n) t7 t8 t9 yV)) (some ((),yV))
def CR(k:Nat)(t0:List zg):Option (Unit×(List Int)):=
 CR.l3 k k t0 (List.length t0:Int) 0 []
def Jk(k:Nat)(t0:List zg):Option (Unit×(List Int)):=
 (F6 k t0).bind fun r1=>cond (!r1) (some ((),[])) ((CR k t0).bind fun r2=>some ((),r2.2))
def Ei.l6(k:Nat):Nat→(List zg)→Int→Int→(List Int)→(List Int)→Option (Unit×(List Int))
 |0,_,_,_,_,_=>none
 |n+1,t0,t1,t7,yV,za=>
  (gU yV t1).bind fun y1=>cond (decide (t7≤y1)) ((zZ k t0 t7 1).bind fun r2=>(gU yV t1).bind fun y3=>cond (decide (r2>y3)) (cond (lim (List.length za+List.length [t7])) ((Ei.l6 k n) t0 t1 (IntKind.wrap .i64 (t7+1)) yV (za++[t7])) none) ((Ei.l6 k n) t0 t1 r2 yV za)) (some ((),za))
def Ei(k:Nat)(t0:List zg)(t1:Int):Option (Unit×(List Int)):=
 (Jk k t0).bind fun r4=>(Ao k t1 0 (IntKind.wrap .i64 ((List.length r4.2:Int)-1))).bind fun r5=>cond (!r5) (some ((),[])) (Ei.l6 k k t0 t1 1 r4.2 [])
def BJ.c12(k:Nat)(L6:(List zg)→Int→Int→Int→Int→(List Int)→Option (Int×Int))(t0:List zg)(t7:Int)(t8:Int)(t18:Int)(t19:Int)(yV:List Int):Option (Int×Int):=
 L6 t0 t7 t8 t18 (IntKind.wrap .i64 (t19+1)) yV
def BJ.c10(k:Nat)(L6:(List zg)→Int→Int→Int→Int→(List Int)→Option (Int×Int))(t0:List zg)(t7:Int)(t8:Int)(t10:Int)(t18:Int)(t19:Int)(yV:List Int):Option (Int×Int):=
 (gU t0 t10).bind fun y1=>cond (y1.2.2.1==2) (BJ.c12 k L6 t0 t7 (IntKind.wrap .i64 (t8+1)) t18 t19 yV) (BJ.c12 k L6 t0 t7 t8 t18 t19 yV)
def BJ.l6(k:Nat):Nat→(List zg)→Int→Int→Int→Int→(List Int)→Option (Int×Int)
 |0,_,_,_,_,_,_=>none
 |n+1,t0,t7,t8,t18,t19,yV=>
  cond (decide (t19<t18)) ((gU yV t19).bind fun y2=>(gU t0 y2).bind fun y3=>cond (y3.2.2.1 !=0) (BJ.c10 k (BJ.l6 k n) t0 (IntKind.wrap .i64 (t7+1)) t8 y2 t18 t19 yV) (BJ.c10 k (BJ.l6 k n) t0 t7 t8 y2 t18 t19 yV)) (some (t7,t8))
def BJ(k:Nat)(t0:List zg)(t1:Int):Option (Int×Int):=
 (Ei k t0 t1).bind fun r4=>cond ((List.length r4.2:Int)==0) (some ((-1),(-1))) (BJ.l6 k k t0 0 0 (List.length r4.2:Int) 0 r4.2)
def Kj(k:Nat)(t0:List zg)(t1:Int):Option (zD×Bool):=
 (Jk k t0).bind fun r1=>(Ao k t1 0 (IntKind.wrap .i64 ((List.length r1.2:Int)-1))).bind fun r2=>cond (!r2) (some ((0,0,0,()),false)) ((BJ k t0 t1).bind fun r3=>(gU r1.2 t1).bind fun y4=>(gU t0 y4).bind fun y5=>some ((y5.2.1,r3.2,r3.1,()),true))
def F7(k:Nat)(t0:Int):Option Int:=
 some (bits .xor .i64 (IntKind.wrap .i64 (pE .u64 (IntKind.wrap .u64 t0) 1)) (IntKind.wrap .i64 (0-(bits .and .i64 t0 1))))
def He(k:Nat)(t0:Int):Option Bool:=
 (Ao k t0 (-2147483648) 2147483647).bind fun r1=>some r1
def Dr(k:Nat)(t1:Int)(o0:zm)(zf:List yY):Option (Unit×zm×(List yY)):=
 cond (o0.2.2.2.1==0) (some ((),((o0.1,o0.2.1,(),t1,()),zf))) (some ((),(o0,zf)))
def Ew.c3(k:Nat)(o0:zm)(zf:List yY)(yV:yY):Option (Int×zm×(List yY)):=
 cond (o0.2.2.2.1 !=0) (some (0,(o0,zf))) (cond (lim (List.length zf+List.length [yV])) (some (IntKind.wrap .i64 ((List.length (zf++[yV]):Int)-1),(o0,zf++[yV]))) none)
def Ew(k:Nat)(t1:yY)(t2:Int)(o0:zm)(zf:List yY):Option (Int×zm×(List yY)):=
 (cond (decide (t2>12)) (some true) (some ((List.length zf:Int)==1500))).bind fun b1=>cond b1 ((Dr k 4 o0 zf).bind fun r2=>Ew.c3 k r2.2.1 r2.2.2 t1) (Ew.c3 k o0 zf t1)
def CJ.c12(k:Nat):Option (Int×Int×Bool):=
 some (0,0,false)
def CJ.l5(k:Nat):Nat→(List Int)→Int→Int→Int→Option (Int×Int×Bool)
 |0,_,_,_,_=>none
 |n+1,t0,t1,t7,t8=>
  (cond (decide (t8<10)) (some (decide (t8<(IntKind.wrap .i64 ((List.length t0:Int)-t1))))) (some false)).bind fun b1=>cond b1 ((gU t0 (IntKind.wrap .i64 (t1+t8))).bind fun y2=>(cond (t8==9) (some (decide (y2>1))) (some false)).bind fun b3=>cond b3 (CJ.c12 k) (cond (decide (0≤(IntKind.wrap .i64 (7*t8)))) (cond (decide (y2<128)) (some (IntKind.wrap .i64 (bits .or .u64 t7 (pz .u64 (IntKind.wrap .u64 (bits .and .u8 y2 127)) (IntKind.wrap .i64 (7*t8)))),IntKind.wrap .i64 ((IntKind.wrap .i64 (t1+t8))+1),true)) ((CJ.l5 k n) t0 t1 (bits .or .u64 t7 (pz .u64 (IntKind.wrap .u64 (bits .and .u8 y2 127)) (IntKind.wrap .i64 (7*t8)))) (IntKind.wrap .i64 (t8+1)))) none)) (CJ.c12 k)
def CJ(k:Nat)(t0:List Int)(t1:Int):Option (Int×Int×Bool):=
 cond (decide (t1<0)) (some (0,0,false)) (CJ.l5 k k t0 t1 0 0)
def F8(k:Nat)(o0:zm)(zf:List yY):Option (Int×zm×(List yY)):=
 (CJ k o0.1 o0.2.1).bind fun r1=>(cond (o0.2.2.2.1 !=0) (some true) (some (!r1.2.2))).bind fun b2=>cond b2 ((Dr k 1 o0 zf).bind fun r3=>some (0,(r3.2.1,r3.2.2))) (some (r1.1,((o0.1,r1.2.1,(),o0.2.2.2.1,()),zf)))
def Cz.c6(k:Nat)(t3:Int)(o0:zm)(zf:List yY):Option (ByteArray×zm×(List yY)):=
 cond (o0.2.2.2.1 !=0) (some (zk,(o0,zf))) (cond (jg (IntKind.wrap .i64 ((IntKind.wrap .i64 (o0.2.1+t3))-t3)) (IntKind.wrap .i64 (o0.2.1+t3)) (List.length o0.1)) (some (wY (kV o0.1 (IntKind.wrap .i64 ((IntKind.wrap .i64 (o0.2.1+t3))-t3)) (IntKind.wrap .i64 (o0.2.1+t3))),((o0.1,IntKind.wrap .i64 (o0.2.1+t3),(),o0.2.2.2.1,()),zf))) none)
def Cz.c4(k:Nat)(t3:Int)(o0:zm)(zf:List yY):Option (ByteArray×zm×(List yY)):=
 (cond (o0.2.2.2.1==0) (some (decide (t3>(IntKind.wrap .i64 ((List.length o0.1:Int)-o0.2.1))))) (some false)).bind fun b1=>cond b1 ((Dr k 1 o0 zf).bind fun r2=>Cz.c6 k t3 r2.2.1 r2.2.2) (Cz.c6 k t3 o0 zf)
def Cz(k:Nat)(o0:zm)(zf:List yY):Option (ByteArray×zm×(List yY)):=
 (F8 k o0 zf).bind fun r3=>(cond (r3.2.1.2.2.2.1==0) ((Ao k r3.1 0 300).bind fun r4=>some (!r4)) (some false)).bind fun b5=>cond b5 ((Dr k 4 r3.2.1 r3.2.2).bind fun r6=>Cz.c4 k r3.1 r6.2.1 r6.2.2) (Cz.c4 k r3.1 r3.2.1 r3.2.2)
def Hf(k:Nat)(o0:zm)(zf:List yY):Option (Int×zm×(List yY)):=
 (cond (o0.2.2.2.1 !=0) (some true) (some (decide (o0.2.1≥(List.length o0.1:Int))))).bind fun b1=>cond b1 ((Dr k 1 o0 zf).bind fun r2=>some (0,(r2.2.1,r2.2.2))) ((gU o0.1 (IntKind.wrap .i64 ((IntKind.wrap .i64 (o0.2.1+1))-1))).bind fun y3=>some (IntKind.wrap .i64 y3,((o0.1,IntKind.wrap .i64 (o0.2.1+1),(),o0.2.2.2.1,()),zf)))
def Cx.c10(k:Nat)(t11:Bool):Option Bool:=
 cond t11 (some true) (some false)
def Cx.c4(k:Nat)(t1:Bool)(t5:Int)(t6:Bool):Option Bool:=
 cond t6 (some (!t1)) (cond (t5==5) (Cx.c10 k (t5==5)) (cond (t5==6) (Cx.c10 k (t5==6)) (cond (t5==8) (Cx.c10 k (t5==8)) (cond (t5==9) (Cx.c10 k (t5==9)) (Cx.c10 k (t5==12))))))
def Cx(k:Nat)(t0:Int)(t1:Bool):Option Bool:=
 cond (t0==1) (Cx.c4 k t1 t0 (t0==1)) (Cx.c4 k t1 t0 (t0==2))
def zI.c8(k:Nat)(t8:Int)(t9:Int)(o0:zm)(yV:List yY):Option (Unit×zm×(List yY)):=
 (gU yV t8).bind fun y1=>(gU yV t8).bind fun y2=>some ((),(o0,List.set yV (Int.toNat t8) (y2.1,y2.2.1,t9,y2.2.2.2.1,y2.2.2.2.2.1,())))
def zI.d10(k:Nat)(t8:Int)(o0:zm)(yV:List yY):Option (Unit×zm×(List yY)):=
 (Cz k o0 yV).bind fun r3=>(gU r3.2.2 t8).bind fun y4=>(gU r3.2.2 t8).bind fun y5=>some ((),(r3.2.1,List.set r3.2.2 (Int.toNat t8) (y5.1,y5.2.1,y5.2.2.1,r3.1,y5.2.2.2.2.1,())))
def zI.c5(k:Nat)(Dl:Int→Int→zm→(List yY)→Option (Unit×zm×(List yY)))(Dm:Int→Int→zm→(List yY)→Option (Unit×zm×(List yY)))(t1:Int)(t3:Int)(t8:Int)(t21:Int)(t22:Bool)(o0:zm)(yV:List yY):Option (Unit×zm×(List yY)):=
 cond t22 ((F8 k o0 yV).bind fun zV=>(F7 k zV.1).bind fun AO=>(cond (t1==5) (some (zV.2.1.2.2.2.1==0)) (some false)).bind fun b14=>(cond b14 ((He k AO).bind fun z_=>some (!z_)) (some false)).bind fun b16=>cond b16 ((Dr k 3 zV.2.1 zV.2.2).bind fun Hy=>zI.c8 k t8 AO Hy.2.1 Hy.2.2) (zI.c8 k t8 AO zV.2.1 zV.2.2)) (cond (t21==8) (zI.d10 k t8 o0 yV) (cond (t21==9) ((Dl t8 t3 o0 yV).bind fun IM=>some ((),(IM.2.1,IM.2.2))) (cond (t21==12) ((Dm t8 t3 o0 yV).bind fun Bp=>some ((),(Bp.2.1,Bp.2.2))) (some ((),(o0,yV))))))
def zI.b(k:Nat)(zX:Int→Int→Int→zm→(List yY)→Option (Unit×zm×(List yY)))(Dl:Int→Int→zm→(List yY)→Option (Unit×zm×(List yY)))(Dm:Int→Int→zm→(List yY)→Option (Unit×zm×(List yY)))(t1:Int)(t2:Int)(t3:Int)(o0:zm)(zf:List yY):Option (Unit×zm×(List yY)):=
 (Ew k (t1,t2,0,zk,0,()) t3 o0 zf).bind fun FD=>cond (FD.2.1.2.2.2.1 !=0) (some ((),(FD.2.1,FD.2.2))) (cond (t1==5) (zI.c5 k Dl Dm t1 t3 FD.1 t1 (t1==5) FD.2.1 FD.2.2) (zI.c5 k Dl Dm t1 t3 FD.1 t1 (t1==6) FD.2.1 FD.2.2))
def z8.Bd(k:Nat)(zX:Int→Int→Int→zm→(List yY)→Option (Unit×zm×(List yY))):Nat→Int→Int→Int→Int→zm→(List yY)→Option (Unit×zm×(List yY))
 |0,_,_,_,_,_,_=>none
 |n+1,t2,t7,t8,t9,o0,yV=>
  (cond (decide (t9<t7)) (some (o0.2.2.2.1==0)) (some false)).bind fun b1=>cond b1 ((zX t8 0 (IntKind.wrap .i64 (t2+1)) o0 yV).bind fun r2=>(z8.Bd k zX n) t2 t7 t8 (IntKind.wrap .i64 (t9+1)) r2.2.1 r2.2.2) (some ((),(o0,yV)))
def z8.c9(k:Nat)(zX:Int→Int→Int→zm→(List yY)→Option (Unit×zm×(List yY)))(t1:Int)(t2:Int)(t7:Int)(t8:Int)(o0:zm)(zf:List yY):Option (Unit×zm×(List yY)):=
 (gU zf t1).bind fun y3=>(gU zf t1).bind fun y4=>(gU (List.set zf (Int.toNat t1) (y4.1,y4.2.1,y4.2.2.1,y4.2.2.2.1,t7,())) t1).bind fun y5=>(gU (List.set zf (Int.toNat t1) (y4.1,y4.2.1,y4.2.2.1,y4.2.2.2.1,t7,())) t1).bind fun y6=>z8.Bd k zX k t2 t7 t8 0 o0 (List.set (List.set zf (Int.toNat t1) (y4.1,y4.2.1,y4.2.2.1,y4.2.2.2.1,t7,())) (Int.toNat t1) (y6.1,y6.2.1,t8,y6.2.2.2.1,y6.2.2.2.2.1,()))
def z8.c7(k:Nat)(zX:Int→Int→Int→zm→(List yY)→Option (Unit×zm×(List yY)))(t1:Int)(t2:Int)(t7:Int)(t8:Int)(o0:zm)(zf:List yY):Option (Unit×zm×(List yY)):=
 (Ao k t7 0 1500).bind fun r7=>cond (!r7) ((Dr k 4 o0 zf).bind fun r8=>z8.c9 k zX t1 t2 t7 t8 r8.2.1 r8.2.2) (z8.c9 k zX t1 t2 t7 t8 o0 zf)
def z8.c4(k:Nat)(zX:Int→Int→Int→zm→(List yY)→Option (Unit×zm×(List yY)))(t1:Int)(t2:Int)(t7:Int)(t8:Int)(o0:zm)(zf:List yY):Option (Unit×zm×(List yY)):=
 (cond (o0.2.2.2.1 !=0) (some true) (some (t7==0))).bind fun b9=>cond b9 (some ((),(o0,zf))) ((Cx k t8 true).bind fun Be=>cond (!Be) ((Dr k 2 o0 zf).bind fun AL=>z8.c7 k zX t1 t2 t7 t8 AL.2.1 AL.2.2) (z8.c7 k zX t1 t2 t7 t8 o0 zf))
def z8.b(k:Nat)(zX:Int→Int→Int→zm→(List yY)→Option (Unit×zm×(List yY)))(Dl:Int→Int→zm→(List yY)→Option (Unit×zm×(List yY)))(Dm:Int→Int→zm→(List yY)→Option (Unit×zm×(List yY)))(t1:Int)(t2:Int)(o0:zm)(zf:List yY):Option (Unit×zm×(List yY)):=
 (Hf k o0 zf).bind fun zV=>cond ((IntKind.wrap .i64 (Int.tdiv zV.1 16))==15) ((F8 k zV.2.1 zV.2.2).bind fun AO=>z8.c4 k zX t1 t2 AO.1 (Int.tmod zV.1 16) AO.2.1 AO.2.2) (z8.c4 k zX t1 t2 (IntKind.wrap .i64 (Int.tdiv zV.1 16)) (Int.tmod zV.1 16) zV.2.1 zV.2.2)
def zU.c12(k:Nat)(zX:Int→Int→Int→zm→(List yY)→Option (Unit×zm×(List yY)))(L1:Int→Int→Int→zm→(List yY)→Option (Unit×zm×(List yY)))(t1:Int)(t2:Int)(t8:Int)(t9:Int)(o0:zm)(yV:List yY):Option (Unit×zm×(List yY)):=
 cond (o0.2.2.2.1 !=0) (some ((),(o0,yV))) ((gU yV t1).bind fun y1=>(gU yV t1).bind fun y2=>(gU yV t1).bind fun y3=>(zX t8 t9 (IntKind.wrap .i64 (t2+1)) o0 (List.set yV (Int.toNat t1) (y3.1,y3.2.1,y3.2.2.1,y3.2.2.2.1,IntKind.wrap .i64 (y1.2.2.2.2.1+1),()))).bind fun r4=>L1 t1 t2 t9 r4.2.1 r4.2.2)
def zU.c10(k:Nat)(zX:Int→Int→Int→zm→(List yY)→Option (Unit×zm×(List yY)))(L1:Int→Int→Int→zm→(List yY)→Option (Unit×zm×(List yY)))(t1:Int)(t2:Int)(t6:Int)(t8:Int)(t9:Int)(o0:zm)(yV:List yY):Option (Unit×zm×(List yY)):=
 (cond (o0.2.2.2.1==0) (some (decide (t9≤t6))) (some false)).bind fun b5=>cond b5 ((Dr k 5 o0 yV).bind fun r6=>zU.c12 k zX L1 t1 t2 t8 t9 r6.2.1 r6.2.2) (zU.c12 k zX L1 t1 t2 t8 t9 o0 yV)
def zU.c8(k:Nat)(zX:Int→Int→Int→zm→(List yY)→Option (Unit×zm×(List yY)))(L1:Int→Int→Int→zm→(List yY)→Option (Unit×zm×(List yY)))(t1:Int)(t2:Int)(t6:Int)(t8:Int)(t9:Int)(o0:zm)(yV:List yY):Option (Unit×zm×(List yY)):=
 (cond (o0.2.2.2.1==0) ((Ao k t9 1 1000).bind fun r7=>some (!r7)) (some false)).bind fun b8=>cond b8 ((Dr k 3 o0 yV).bind fun r9=>zU.c10 k zX L1 t1 t2 t6 t8 t9 r9.2.1 r9.2.2) (zU.c10 k zX L1 t1 t2 t6 t8 t9 o0 yV)
def zU.c6(k:Nat)(zX:Int→Int→Int→zm→(List yY)→Option (Unit×zm×(List yY)))(L1:Int→Int→Int→zm→(List yY)→Option (Unit×zm×(List yY)))(t1:Int)(t2:Int)(t6:Int)(t7:Int)(t8:Int)(t9:Int)(o0:zm)(yV:List yY):Option (Unit×zm×(List yY)):=
 cond (decide (t7<16)) ((F8 k o0 yV).bind fun Be=>(F7 k Be.1).bind fun AL=>zU.c8 k zX L1 t1 t2 t6 t8 AL Be.2.1 Be.2.2) (zU.c8 k zX L1 t1 t2 t6 t8 t9 o0 yV)
def zU.l1(k:Nat)(zX:Int→Int→Int→zm→(List yY)→Option (Unit×zm×(List yY))):Nat→Int→Int→Int→zm→(List yY)→Option (Unit×zm×(List yY))
 |0,_,_,_,_,_=>none
 |n+1,t1,t2,t6,o0,yV=>
  (Hf k o0 yV).bind fun zV=>(cond (zV.2.1.2.2.2.1 !=0) (some true) (some (zV.1==0))).bind fun b13=>cond b13 (some ((),(zV.2.1,zV.2.2))) ((Cx k (Int.tmod zV.1 16) false).bind fun BX=>cond (!BX) ((Dr k 2 zV.2.1 zV.2.2).bind fun z_=>zU.c6 k zX (zU.l1 k zX n) t1 t2 t6 zV.1 (Int.tmod zV.1 16) (IntKind.wrap .i64 (t6+(IntKind.wrap .i64 (Int.tdiv zV.1 16)))) z_.2.1 z_.2.2) (zU.c6 k zX (zU.l1 k zX n) t1 t2 t6 zV.1 (Int.tmod zV.1 16) (IntKind.wrap .i64 (t6+(IntKind.wrap .i64 (Int.tdiv zV.1 16)))) zV.2.1 zV.2.2))
def zU.b(k:Nat)(zX:Int→Int→Int→zm→(List yY)→Option (Unit×zm×(List yY)))(Dl:Int→Int→zm→(List yY)→Option (Unit×zm×(List yY)))(Dm:Int→Int→zm→(List yY)→Option (Unit×zm×(List yY)))(t1:Int)(t2:Int)(o0:zm)(zf:List yY):Option (Unit×zm×(List yY)):=
 zU.l1 k zX k t1 t2 0 o0 zf
def zI.rec(k:Nat):Nat→(Int→Int→Int→zm→(List yY)→Option (Unit×zm×(List yY)))×(Int→Int→zm→(List yY)→Option (Unit×zm×(List yY)))×(Int→Int→zm→(List yY)→Option (Unit×zm×(List yY)))
 |0=>(fun _ _ _ _ _=>none,fun _ _ _ _=>none,fun _ _ _ _=>none)
 |d+1=>(zI.b k ((zI.rec k d).1) ((zI.rec k d).2.1) ((zI.rec k d).2.2),z8.b k ((zI.rec k d).1) ((zI.rec k d).2.1) ((zI.rec k d).2.2),zU.b k ((zI.rec k d).1) ((zI.rec k d).2.1) ((zI.rec k d).2.2))
def zI.d(k d:Nat):Int→Int→Int→zm→(List yY)→Option (Unit×zm×(List yY)):=(zI.rec k d).1
def zI(k:Nat):Int→Int→Int→zm→(List yY)→Option (Unit×zm×(List yY)):=zI.d k k
def z8.d(k d:Nat):Int→Int→zm→(List yY)→Option (Unit×zm×(List yY)):=(zI.rec k d).2.1
def z8(k:Nat):Int→Int→zm→(List yY)→Option (Unit×zm×(List yY)):=z8.d k k
def zU.d(k d:Nat):Int→Int→zm→(List yY)→Option (Unit×zm×(List yY)):=(zI.rec k d).2.2
def zU(k:Nat):Int→Int→zm→(List yY)→Option (Unit×zm×(List yY)):=zU.d k k
def Jl(k:Nat)(t0:List Int)(t1:Int):Option ((Unit×Int×Int)×(List yY)):=
 (Ao k t1 0 (IntKind.wrap .i64 ((List.length t0:Int)-1))).bind fun r1=>cond (!r1) (some (((),0,1),[])) ((zI k 12 0 1 (t0,t1,(),0,()) []).bind fun r2=>cond (r2.2.1.2.2.2.1 !=0) (some (((),0,r2.2.1.2.2.2.1),[])) (some (((),r2.2.1.2.1,0),r2.2.2)))
def Km(k:Nat)(t0:yY):Option Bool:=
 cond (t0.1==5) ((He k t0.2.2.1).bind fun r1=>(cond r1 (some (iY t0.2.2.2.1 zk)) (some false)).bind fun b2=>(cond b2 (some (t0.2.2.2.2.1==0)) (some false)).bind fun b3=>some b3) (cond (t0.1==6) ((cond (iY t0.2.2.2.1 zk) (some (t0.2.2.2.2.1==0)) (some false)).bind fun b4=>some b4) (cond (t0.1==8) ((cond (t0.2.2.1==0) (some (decide ((t0.2.2.2.1.size:Int)≤300))) (some false)).bind fun b5=>(cond b5 (some (t0.2.2.2.2.1==0)) (some false)).bind fun b6=>some b6) (cond (t0.1==9) ((cond (iY t0.2.2.2.1 zk) (some (decide (t0.2.2.2.2.1≥0))) (some false)).bind fun b7=>(cond b7 ((cond (t0.2.2.2.2.1==0) (some (t0.2.2.1==0)) (some false)).bind fun b8=>(cond b8 (some true) ((cond (decide (t0.2.2.2.2.1>0)) ((Cx k t0.2.2.1 true).bind fun r9=>some (r9)) (some false)).bind fun b10=>some (b10))).bind fun b11=>some (b11)) (some false)).bind fun b12=>some b12) (cond (t0.1==12) ((cond (t0.2.2.1==0) (some (iY t0.2.2.2.1 zk)) (some false)).bind fun b13=>(cond b13 (some (decide (t0.2.2.2.2.1≥0))) (some false)).bind fun b14=>some b14) ((Cx k t0.1 false).bind fun z_=>(cond z_ (some (t0.2.2.1==0)) (some false)).bind fun b16=>(cond b16 (some (iY t0.2.2.2.1 zk)) (some false)).bind fun b17=>(cond b17 (some (t0.2.2.2.2.1==0)) (some false)).bind fun b18=>some b18)))))
def BK.l7(k:Nat)(Gs:Int→Int→(Bool×zL)→(List Int)→Option (Int×zL×(List Int))):Nat→Int→Int→Int→Int→Int→Int→zL→(List Int)→yY→Option (Int×zL×(List Int))
 |0,_,_,_,_,_,_,_,_,_=>none
 |n+1,t1,t2,t8,t9,t43,t44,o0,zf,yV=>
  cond (decide (t44<t43)) (cond (decide (t8≥(List.length o0.1:Int))) (some ((-1),(o0,zf))) ((gU o0.1 t8).bind fun y1=>(cond (yV.1==9) ((cond (y1.1 !=yV.2.2.1) (some true) (some (y1.2.1 !=0))).bind fun b2=>some (b2)) (some false)).bind fun b3=>cond b3 (some ((-1),(o0,zf))) ((cond (yV.1==12) ((Ao k y1.2.1 (IntKind.wrap .i64 (t9+1)) 1000).bind fun r4=>some (!r4)) (some false)).bind fun b5=>cond b5 (some ((-1),(o0,zf))) ((Gs t8 (IntKind.wrap .i64 (t2+1)) (true,o0) zf).bind fun r6=>cond (decide (r6.1<0)) (some ((-1),(r6.2.1,r6.2.2))) ((BK.l7 k Gs n) t1 t2 r6.1 y1.2.1 t43 (IntKind.wrap .i64 (t44+1)) r6.2.1 r6.2.2 yV))))) ((gU zf t1).bind fun y7=>(gU zf t1).bind fun y8=>some (t8,(o0,List.set zf (Int.toNat t1) t8)))
def BK.b(k:Nat)(Gs:Int→Int→(Bool×zL)→(List Int)→Option (Int×zL×(List Int)))(t1:Int)(t2:Int)(o0:Bool×zL)(zf:List Int):Option (Int×zL×(List Int)):=
 cond (o0.1) ((cond (decide (t1≥(List.length o0.2.1:Int))) (some true) (some (decide (t2>12)))).bind fun b9=>(cond b9 (some true) ((gU o0.2.1 t1).bind fun A7=>(Km k A7).bind fun AL=>some (!AL))).bind fun b12=>cond b12 (some ((-1),(o0.2,zf))) ((gU o0.2.1 t1).bind fun y13=>BK.l7 k Gs k t1 t2 (IntKind.wrap .i64 (t1+1)) 0 y13.2.2.2.2.1 0 o0.2 zf y13)) none
def BK.rec(k:Nat):Nat→(Int→Int→(Bool×zL)→(List Int)→Option (Int×zL×(List Int)))
 |0=>fun _ _ _ _=>none
 |d+1=>BK.b k ((BK.rec k d))
def BK.d(k d:Nat):Int→Int→(Bool×zL)→(List Int)→Option (Int×zL×(List Int)):=(BK.rec k d)
def BK(k:Nat):Int→Int→(Bool×zL)→(List Int)→Option (Int×zL×(List Int)):=BK.d k k
def Iw(k:Nat)(t0:List yY):Option ((Unit×Bool)×(Bool×zL)×(List Int)):=
 (Ao k (List.length t0:Int) 1 1500).bind fun r1=>cond (!r1) (some (((),false),((false,([],(),())),[]))) (cond (oV (List.length t0:Int)) ((gU t0 0).bind fun y2=>(cond (y2.1 !=12) (some true) (some (y2.2.1 !=0))).bind fun b3=>cond b3 (cond true (some (((),false),((false,([],(),())),[]))) (some (((),true),((true,(t0,(),())),List.replicate (Int.toNat (List.length t0:Int)) 0)))) ((BK k 0 1 (true,(t0,(),())) (List.replicate (Int.toNat (List.length t0:Int)) 0)).bind fun r4=>cond (r4.1 !=(List.length t0:Int)) (some (((),false),((false,([],(),())),[]))) (some (((),true),((true,r4.2.1),r4.2.2))))) none)
def Ir(k:Nat)(t0:zD):Option Bool:=
 (G_ k t0.1).bind fun r1=>(cond r1 ((Ao k t0.2.2.1 0 6).bind fun r2=>some (r2)) (some false)).bind fun b3=>(cond b3 ((Ao k t0.2.1 0 t0.2.2.1).bind fun r4=>some (r4)) (some false)).bind fun b5=>some b5
def CK.l5(k:Nat):Nat→Int→Int→Int→Int→zL→(List Int)→Option (Int×zL×(List Int))
 |0,_,_,_,_,_,_=>none
 |n+1,t2,t7,t37,t38,o0,zf=>
  cond (decide (t38<t37)) ((gU o0.1 t7).bind fun y1=>cond (y1.2.1==t2) (some (t7,(o0,zf))) ((gU zf t7).bind fun y2=>(CK.l5 k n) t2 y2 t37 (IntKind.wrap .i64 (t38+1)) o0 zf)) (some ((-1),(o0,zf)))
def CK(k:Nat)(t1:Int)(t2:Int)(o0:Bool×zL)(zf:List Int):Option (Int×zL×(List Int)):=
 cond (o0.1) ((Ao k t1 0 (IntKind.wrap .i64 ((List.length o0.2.1:Int)-1))).bind fun r3=>(cond (!r3) (some true) ((gU o0.2.1 t1).bind fun y4=>some (y4.1 !=12))).bind fun b5=>cond b5 (some ((-1),(o0.2,zf))) ((gU o0.2.1 t1).bind fun y6=>CK.l5 k k t2 (IntKind.wrap .i64 (t1+1)) y6.2.2.2.2.1 0 o0.2 zf)) none
def E8(k:Nat)(t1:Int)(t2:Int)(t3:Int)(o0:Bool×zL)(zf:List Int):Option ((yY×Bool)×zL×(List Int)):=
 (CK k t1 t2 (o0.1,o0.2) zf).bind fun r1=>(cond (decide (r1.1<0)) (some true) ((gU r1.2.1.1 r1.1).bind fun y2=>some (y2.1 !=t3))).bind fun b3=>cond b3 (some (((0,0,0,zk,0,()),false),(r1.2.1,r1.2.2))) ((gU r1.2.1.1 r1.1).bind fun y4=>some ((y4,true),(r1.2.1,r1.2.2)))
def Hg(k:Nat)(t1:Int)(t2:Int)(o0:Bool×zL)(zf:List Int):Option ((Int×Bool)×zL×(List Int)):=
 (CK k t1 t2 (o0.1,o0.2) zf).bind fun r1=>(cond (decide (r1.1<0)) (some true) ((gU r1.2.1.1 r1.1).bind fun y2=>(cond (y2.1 !=5) ((gU r1.2.1.1 r1.1).bind fun y3=>some (y3.1 !=6)) (some false)).bind fun b4=>some (b4))).bind fun b5=>cond b5 (some ((0,false),(r1.2.1,r1.2.2))) ((gU r1.2.1.1 r1.1).bind fun y6=>some ((y6.2.2.1,true),(r1.2.1,r1.2.2)))
def Dq.c4(k:Nat)(t5:Int)(o0:BP)(zf:zL)(Cf:List Int):Option (Int×BP×zL×(List Int)):=
 some (t5,(o0,zf,Cf))
def Dq(k:Nat)(t1:Int)(o0:BP)(zf:Bool×zL)(Cf:List Int):Option (Int×BP×zL×(List Int)):=
 (Hg k o0.2.1 t1 (zf.1,zf.2) Cf).bind fun r1=>cond (!r1.1.2) (Dq.c4 k r1.1.1 ((),o0.2.1,true,()) r1.2.1 r1.2.2) (Dq.c4 k r1.1.1 o0 r1.2.1 r1.2.2)
def Dx.c4(k:Nat)(t7:Int)(o0:BP)(zf:zL)(Cf:List Int):Option (Int×BP×zL×(List Int)):=
 some (t7,(o0,zf,Cf))
def Dx(k:Nat)(t1:Int)(t2:Int)(o0:BP)(zf:zL)(Cf:List Int):Option (Int×BP×zL×(List Int)):=
 (Hg k o0.2.1 t1 (true,zf) Cf).bind fun r1=>(cond (!r1.1.2) (some true) (some (decide (r1.1.1<t2)))).bind fun b2=>cond b2 (Dx.c4 k r1.1.1 ((),o0.2.1,true,()) r1.2.1 r1.2.2) (Dx.c4 k r1.1.1 o0 r1.2.1 r1.2.2)
def Iu(k:Nat)(t1:Int)(o0:BP)(zf:zL)(Cf:List Int):Option (Unit×BP×zL×(List Int)):=
 (CK k o0.2.1 t1 (true,zf) Cf).bind fun r1=>(cond (decide (r1.1<0)) (some true) ((gU r1.2.1.1 r1.1).bind fun y2=>some (y2.1 !=12))).bind fun b3=>cond b3 (some ((),(((),o0.2.1,true,()),r1.2.1,r1.2.2))) (some ((),(((),r1.1,o0.2.2.1,()),r1.2.1,r1.2.2)))
def FO.l3(k:Nat):Nat→(List Int)→Int→Int→(List ze)→Option (Unit×(List ze))
 |0,_,_,_,_=>none
 |n+1,t7,t8,t9,yV=>
  cond (decide (t9<t8)) ((gU t7 t9).bind fun y1=>cond (lim (List.length yV+List.length ([(y1,zk,())]:List ze))) ((FO.l3 k n) t7 t8 (IntKind.wrap .i64 (t9+1)) (yV++[(y1,zk,())])) none) (some ((),yV))
def FO(k:Nat)(t0:List Int):Option (Unit×(List ze)):=
 FO.l3 k k t0 (List.length t0:Int) 0 []
def Kc(k:Nat)(t0:List Int)(t1:Int):Option Int:=
 (cond (decide (t1<0)) (some true) (some (decide ((IntKind.wrap .i64 (Int.tdiv t1 8))≥(List.length t0:Int))))).bind fun b1=>cond b1 (some (-1)) ((gU t0 (IntKind.wrap .i64 (Int.tdiv t1 8))).bind fun y2=>cond (decide (0≤(Int.tmod t1 8))) (some (IntKind.wrap .i64 (bits .and .u8 (pE .u8 y2 (Int.tmod t1 8)) 1))) none)
def CB.l7(k:Nat)(L3:(List Int)→Int→Int→Int→Int→(List Int)→Option (Unit×(List Int))):Nat→(List Int)→Int→Int→Int→Int→Int→Int→Int→Int→(List Int)→Option (Unit×(List Int))
 |0,_,_,_,_,_,_,_,_,_,_=>none
 |n+1,t0,t1,t3,t10,t11,t14,t15,t18,t19,yV=>
  cond (decide (t19<t18)) ((Kc k t0 (IntKind.wrap .i64 ((IntKind.wrap .i64 ((IntKind.wrap .i64 (8*t1))+(IntKind.wrap .i64 (t10*t3))))+t19))).bind fun r1=>cond (decide (0≤t19)) ((CB.l7 k L3 n) t0 t1 t3 t10 (bits .or .i64 t11 (pz .i64 r1 t19)) t14 t15 t18 (IntKind.wrap .i64 (t19+1)) yV) none) (cond (lim (List.length yV+List.length [t11])) (L3 t0 t1 t3 t14 (IntKind.wrap .i64 (t15+1)) (yV++[t11])) none)
def CB.l3(k:Nat):Nat→(List Int)→Int→Int→Int→Int→(List Int)→Option (Unit×(List Int))
 |0,_,_,_,_,_,_=>none
 |n+1,t0,t1,t3,t14,t15,yV=>
  cond (decide (t15<t14)) (CB.l7 k (CB.l3 k n) k t0 t1 t3 t15 0 t14 t15 t3 0 yV) (some ((),yV))
def CB(k:Nat)(t0:List Int)(t1:Int)(t2:Int)(t3:Int):Option (Unit×(List Int)):=
 CB.l3 k k t0 t1 t3 t2 0 []
def Kg(k:Nat)(t0:Int)(t1:Int):Option Int:=
 (Ao k t0 0 2000).bind fun r1=>(cond (!r1) (some true) ((Ao k t1 0 62).bind fun r2=>some (!r2))).bind fun b3=>cond b3 (some (-1)) (some (IntKind.wrap .i64 (Int.tdiv (IntKind.wrap .i64 ((IntKind.wrap .i64 (t0*t1))+7)) 8)))
def Ke(k:Nat)(t0:List Int)(t1:Int)(t2:Int)(t3:Int):Option ((Unit×Int×Bool)×(List Int)):=
 (Kg k t2 t3).bind fun r1=>(cond (decide (r1<0)) (some true) ((Ao k t1 0 (List.length t0:Int)).bind fun r2=>some (!r2))).bind fun b3=>(cond b3 (some true) (some (decide (r1>(IntKind.wrap .i64 ((List.length t0:Int)-t1)))))).bind fun b4=>cond b4 (some (((),0,false),[])) ((CB k t0 t1 t2 t3).bind fun r5=>some (((),IntKind.wrap .i64 (t1+r1),true),r5.2))
def Eu.l5(k:Nat):Nat→(List Int)→Int→Int→Int→Int→Int→Option (Int×Int×Bool)
 |0,_,_,_,_,_,_=>none
 |n+1,t0,t1,t2,t9,t26,t27=>
  cond (decide (t27<t26)) ((gU t0 (IntKind.wrap .i64 (t1+t27))).bind fun y1=>cond (decide (0≤(IntKind.wrap .i64 (8*t27)))) ((Eu.l5 k n) t0 t1 t2 (bits .or .i64 t9 (pz .i64 (IntKind.wrap .i64 y1) (IntKind.wrap .i64 (8*t27)))) t26 (IntKind.wrap .i64 (t27+1))) none) (some (t9,IntKind.wrap .i64 (t1+t2),true))
def Eu(k:Nat)(t0:List Int)(t1:Int)(t2:Int):Option (Int×Int×Bool):=
 (Ao k t2 1 8).bind fun r2=>(cond (!r2) (some true) (some (decide (t1<0)))).bind fun b3=>(cond b3 (some true) (some (decide (t1>(IntKind.wrap .i64 ((List.length t0:Int)-t2)))))).bind fun b4=>cond b4 (some (0,0,false)) (Eu.l5 k k t0 t1 t2 0 t2 0)
def Ex.c6(k:Nat)(t6:Bool):Option Int:=
 cond t6 (some 8) (some 0)
def Ex(k:Nat)(t0:Int):Option Int:=
 cond (t0==1) (some 4) (cond (t0==2) (Ex.c6 k (t0==2)) (Ex.c6 k (t0==5)))
def Ko(k:Nat)(t0:Int)(t1:Int):Option Int:=
 cond (t1==4) (some (IntKind.wrap .i64 (IntKind.wrap .i32 t0))) (some t0)
def Kn(k:Nat)(t0:Int)(t1:List Int)(t2:Int):Option (ze×Int×Bool):=
 cond (t0 !=6) ((Ex k t0).bind fun r1=>(Eu k t1 t2 r1).bind fun r2=>(Ex k t0).bind fun r3=>(Ko k r2.1 r3).bind fun r4=>some ((r4,zk,()),r2.2.1,r2.2.2)) ((Eu k t1 t2 4).bind fun r5=>(cond (!r5.2.2) (some true) (some (decide (r5.1>40)))).bind fun b6=>(cond b6 (some true) (some (decide (r5.1>(IntKind.wrap .i64 ((List.length t1:Int)-r5.2.1)))))).bind fun b7=>cond b7 (some ((0,zk,()),0,false)) (cond (jg r5.2.1 (IntKind.wrap .i64 (r5.2.1+r5.1)) (List.length t1)) (some ((0,wY (kV t1 r5.2.1 (IntKind.wrap .i64 (r5.2.1+r5.1))),()),IntKind.wrap .i64 (r5.2.1+r5.1),true)) none))
def Eh.l8(k:Nat):Nat→Int→(List Int)→Int→Int→Int→(List ze)→Option ((Unit×Int×Bool)×(List ze))
 |0,_,_,_,_,_,_=>none
 |n+1,t0,t1,t2,t48,t49,yV=>
  cond (decide (t49<t48)) ((Kn k t0 t1 t2).bind fun r1=>cond (!r1.2.2) (some (((),0,false),[])) (cond (lim (List.length yV+List.length [r1.1])) ((Eh.l8 k n) t0 t1 r1.2.1 t48 (IntKind.wrap .i64 (t49+1)) (yV++[r1.1])) none)) (some (((),t2,true),yV))
def Eh(k:Nat)(t0:Int)(t1:List Int)(t2:Int)(t3:Int):Option ((Unit×Int×Bool)×(List ze)):=
 (G_ k t0).bind fun r2=>(cond (!r2) (some true) ((Ao k t3 0 2000).bind fun r3=>some (!r3))).bind fun b4=>(cond b4 (some true) ((Ao k t2 0 (List.length t1:Int)).bind fun r5=>some (!r5))).bind fun b6=>cond b6 (some (((),0,false),[])) (cond (t0==0) ((Ke k t1 t2 t3 1).bind fun r7=>(FO k r7.2).bind fun r8=>some (((),r7.1.2.1,r7.1.2.2),r8.2)) (Eh.l8 k k t0 t1 t2 t3 0 []))
def DY.c8(k:Nat)(t0:Int)(t26:Bool)(yV:ze):Option Bool:=
 cond t26 (some (iY yV.2.1 zk)) ((cond (t0==6) (some (yV.1==0)) (some false)).bind fun b1=>(cond b1 (some (decide ((yV.2.1.size:Int)≤40))) (some false)).bind fun b2=>some b2)
def DY(k:Nat)(t0:Int)(t1:ze):Option Bool:=
 cond (t0==0) ((Ao k t1.1 0 1).bind fun r3=>(cond r3 (some (iY t1.2.1 zk)) (some false)).bind fun b4=>some b4) (cond (t0==1) ((He k t1.1).bind fun r5=>(cond r5 (some (iY t1.2.1 zk)) (some false)).bind fun b6=>some b6) (cond (t0==2) (DY.c8 k t0 (t0==2) t1) (DY.c8 k t0 (t0==5) t1)))
def E9.l2(k:Nat):Nat→Int→(List ze)→(List ze)→Int→Int→Option Bool
 |0,_,_,_,_,_=>none
 |n+1,t0,t1,t7,t8,t9=>
  cond (decide (t9<t8)) ((gU t7 t9).bind fun y1=>(DY k t0 y1).bind fun r2=>cond (!r2) (some false) ((E9.l2 k n) t0 t1 t7 t8 (IntKind.wrap .i64 (t9+1)))) ((cond (decide ((List.length t1:Int)≤2000)) ((G_ k t0).bind fun r3=>some (r3)) (some false)).bind fun b4=>some b4)
def E9(k:Nat)(t0:Int)(t1:List ze):Option Bool:=
 E9.l2 k k t0 t1 t1 (List.length t1:Int) 0
def Cy.l6(k:Nat)(L3:Int→(List Int)→Int→Int→(List Int)→Option (Unit×(List Int))):Nat→Int→Int→Int→(List Int)→Int→Int→Int→Int→(List Int)→Option (Unit×(List Int))
 |0,_,_,_,_,_,_,_,_,_=>none
 |n+1,t1,t6,t7,t17,t18,t19,t24,t25,yV=>
  cond (decide (t25<t24)) ((gU yV (IntKind.wrap .i64 (Int.tdiv (IntKind.wrap .i64 ((IntKind.wrap .i64 (t6*t1))+t25)) 8))).bind fun y1=>cond (decide (0≤t25)) (cond (decide (0≤(Int.tmod (IntKind.wrap .i64 ((IntKind.wrap .i64 (t6*t1))+t25)) 8))) ((gU yV (IntKind.wrap .i64 (Int.tdiv (IntKind.wrap .i64 ((IntKind.wrap .i64 (t6*t1))+t25)) 8))).bind fun y2=>(gU yV (IntKind.wrap .i64 (Int.tdiv (IntKind.wrap .i64 ((IntKind.wrap .i64 (t6*t1))+t25)) 8))).bind fun y3=>(Cy.l6 k L3 n) t1 t6 t7 t17 t18 t19 t24 (IntKind.wrap .i64 (t25+1)) (List.set yV (Int.toNat (IntKind.wrap .i64 (Int.tdiv (IntKind.wrap .i64 ((IntKind.wrap .i64 (t6*t1))+t25)) 8))) (bits .or .u8 y1 (pz .u8 (IntKind.wrap .u8 (bits .and .i64 (pE .i64 t7 t25) 1)) (Int.tmod (IntKind.wrap .i64 ((IntKind.wrap .i64 (t6*t1))+t25)) 8))))) none) none) (L3 t1 t17 t18 (IntKind.wrap .i64 (t19+1)) yV)
def Cy.l3(k:Nat):Nat→Int→(List Int)→Int→Int→(List Int)→Option (Unit×(List Int))
 |0,_,_,_,_,_=>none
 |n+1,t1,t17,t18,t19,yV=>
  cond (decide (t19<t18)) ((gU t17 t19).bind fun y4=>Cy.l6 k (Cy.l3 k n) k t1 t19 y4 t17 t18 t19 t1 0 yV) (some ((),yV))
def Cy(k:Nat)(t0:List Int)(t1:Int):Option (Unit×(List Int)):=
 cond (oV (IntKind.wrap .i64 (Int.tdiv (IntKind.wrap .i64 ((IntKind.wrap .i64 ((List.length t0:Int)*t1))+7)) 8))) (Cy.l3 k k t1 t0 (List.length t0:Int) 0 (List.replicate (Int.toNat (IntKind.wrap .i64 (Int.tdiv (IntKind.wrap .i64 ((IntKind.wrap .i64 ((List.length t0:Int)*t1))+7)) 8))) 0)) none
def FN.l3(k:Nat):Nat→(List ze)→Int→Int→(List Int)→Option (Unit×(List Int))
 |0,_,_,_,_=>none
 |n+1,t7,t8,t9,yV=>
  cond (decide (t9<t8)) ((gU t7 t9).bind fun y1=>cond (lim (List.length yV+List.length [y1.1])) ((FN.l3 k n) t7 t8 (IntKind.wrap .i64 (t9+1)) (yV++[y1.1])) none) (some ((),yV))
def FN(k:Nat)(t0:List ze):Option (Unit×(List Int)):=
 FN.l3 k k t0 (List.length t0:Int) 0 []
def DZ.l5(k:Nat):Nat→Int→Int→Int→(List Int)→Option (Unit×(List Int))
 |0,_,_,_,_=>none
 |n+1,t0,t11,t12,yV=>
  cond (decide (t12<t11)) (cond (decide (0≤(IntKind.wrap .i64 (8*t12)))) (cond (lim (List.length yV+List.length [IntKind.wrap .u8 (pE .i64 t0 (IntKind.wrap .i64 (8*t12)))])) ((DZ.l5 k n) t0 t11 (IntKind.wrap .i64 (t12+1)) (yV++[IntKind.wrap .u8 (pE .i64 t0 (IntKind.wrap .i64 (8*t12)))])) none) none) (some ((),yV))
def DZ(k:Nat)(t0:Int)(t1:Int):Option (Unit×(List Int)):=
 (Ao k t1 1 8).bind fun r1=>cond (!r1) (some ((),[])) (DZ.l5 k k t0 t1 0 [])
def AU.c12(k:Nat)(L7:Int→(List ze)→Int→Int→(List Int)→Option ((Unit×Bool)×(List Int)))(t0:Int)(t19:List ze)(t20:Int)(t21:Int)(yV:List Int):Option ((Unit×Bool)×(List Int)):=
 L7 t0 t19 t20 (IntKind.wrap .i64 (t21+1)) yV
def AU.d10(k:Nat)(L7:Int→(List ze)→Int→Int→(List Int)→Option ((Unit×Bool)×(List Int)))(t0:Int)(t19:List ze)(t20:Int)(t21:Int)(yV:List Int)(za:ze):Option ((Unit×Bool)×(List Int)):=
 (DZ k (za.2.1.size:Int) 4).bind fun r1=>cond (lim (List.length yV+List.length r1.2)) (cond (lim (List.length (yV++r1.2)+List.length (eZ za.2.1))) (AU.c12 k L7 t0 t19 t20 t21 ((yV++r1.2)++(eZ za.2.1))) none) none
def AU.d11(k:Nat)(L7:Int→(List ze)→Int→Int→(List Int)→Option ((Unit×Bool)×(List Int)))(t0:Int)(t19:List ze)(t20:Int)(t21:Int)(yV:List Int)(za:ze):Option ((Unit×Bool)×(List Int)):=
 (Ex k t0).bind fun r6=>(DZ k za.1 r6).bind fun r7=>cond (lim (List.length yV+List.length r7.2)) (AU.c12 k L7 t0 t19 t20 t21 (yV++r7.2)) none
def AU.l7(k:Nat):Nat→Int→(List ze)→Int→Int→(List Int)→Option ((Unit×Bool)×(List Int))
 |0,_,_,_,_,_=>none
 |n+1,t0,t19,t20,t21,yV=>
  cond (decide (t21<t20)) ((gU t19 t21).bind fun Cj=>cond (t0==6) (AU.d10 k (AU.l7 k n) t0 t19 t20 t21 yV Cj) (AU.d11 k (AU.l7 k n) t0 t19 t20 t21 yV Cj)) (some (((),true),yV))
def AU(k:Nat)(t0:Int)(t1:List ze):Option ((Unit×Bool)×(List Int)):=
 (E9 k t0 t1).bind fun AO=>cond (!AO) (some (((),false),[])) (cond (t0==0) ((FN k t1).bind fun BX=>(Cy k BX.2 1).bind fun z_=>some (((),true),z_.2)) (AU.l7 k k t0 t1 (List.length t1:Int) 0 []))
def Lx(k:Nat)(t0:Int)(t1:ze):Option ByteArray:=
 cond (t0==6) (some t1.2.1) ((AU k t0 [t1]).bind fun r1=>some (wY r1.2))
def Hl(k:Nat)(t0:Int)(t1:ByteArray):Option (ze×Bool):=
 cond (t0==6) ((DY k t0 (0,t1,())).bind fun r1=>some ((0,t1,()),r1)) ((Eh k t0 (eZ t1) 0 1).bind fun r2=>(cond (!r2.1.2.2) (some true) (some (r2.1.2.1 !=(t1.size:Int)))).bind fun b3=>(cond b3 (some true) ((gU r2.2 0).bind fun y4=>(Lx k t0 y4).bind fun r5=>some (!iY r5 t1))).bind fun b6=>cond b6 (some ((0,zk,()),false)) ((gU r2.2 0).bind fun y7=>some (y7,true)))
def Ki(k:Nat)(t0:Int):Option Int:=
 cond (decide (t0<0)) (some (bits .xor .i64 t0 9223372036854775807)) (some t0)
def Gx.d5(k:Nat)(yV:ze)(za:ze):Option Bool:=
 (Ki k yV.1).bind fun r1=>(Ki k za.1).bind fun r2=>some (decide (r1<r2))
def Gx(k:Nat)(t0:Int)(t1:ze)(t2:ze):Option Bool:=
 (DY k t0 t1).bind fun r9=>(cond (!r9) (some true) ((DY k t0 t2).bind fun Be=>some (!Be))).bind fun b11=>cond b11 (some false) (cond (t0==5) (Gx.d5 k t1 t2) (cond (t0==6) (some (j_ t1.2.1 t2.2.1)) (some (decide (t1.1<t2.1)))))
def Jn(k:Nat)(t0:zD)(t1:Bl):Option Bool:=
 (Ir k t0).bind fun r1=>(cond (!r1) (some true) ((Ao k t1.1 0 2000).bind fun r2=>some (!r2))).bind fun b3=>cond b3 (some false) (cond (!t1.2.1) ((cond ((t1.2.2.1.1==0)&&(iY t1.2.2.1.2.1 zk&&true)) (some (((t1.2.2.2.1.1==0)&&(iY t1.2.2.2.1.2.1 zk&&true)))) (some false)).bind fun b4=>some b4) ((DY k t0.1 t1.2.2.1).bind fun r5=>(cond r5 ((DY k t0.1 t1.2.2.2.1).bind fun r6=>some (r6)) (some false)).bind fun b7=>(cond b7 ((Gx k t0.1 t1.2.2.2.1 t1.2.2.1).bind fun r8=>some (!r8)) (some false)).bind fun b9=>some b9))
def Dy.c13(k:Nat)(o0:zL)(zf:List Int)(yV:zD)(za:Bl)(zC:Bl):Option ((Bl×Bool)×zL×(List Int)):=
 (Jn k yV zC).bind fun r1=>cond (!r1) (some (((0,false,(0,zk,()),(0,zk,()),()),false),(o0,zf))) (some ((zC,true),(o0,zf)))
def Dy.d12(k:Nat)(o0:zL)(zf:List Int)(yV:zD)(za:Bl)(zC:Bl)(zR:ze)(Ap:ze):Option ((Bl×Bool)×zL×(List Int)):=
 Dy.c13 k o0 zf yV za (zC.1,true,Ap,zR,())
def Dy(k:Nat)(t1:zD)(t2:Int)(o0:Bool×zL)(zf:List Int):Option ((Bl×Bool)×zL×(List Int)):=
 (Hg k t2 3 (o0.1,o0.2) zf).bind fun r2=>(cond (!r2.1.2) (some true) ((Ir k t1).bind fun r3=>some (!r3))).bind fun b4=>cond b4 (some (((0,false,(0,zk,()),(0,zk,()),()),false),(r2.2.1,r2.2.2))) ((CK k t2 5 (true,r2.2.1) r2.2.2).bind fun r5=>cond (decide (r5.1≥0)) (cond true ((E8 k t2 5 8 (true,r5.2.1) r5.2.2).bind fun r6=>(E8 k t2 6 8 (true,r6.2.1) r6.2.2).bind fun r7=>(Hl k t1.1 r6.1.1.2.2.2.1).bind fun r8=>(Hl k t1.1 r7.1.1.2.2.2.1).bind fun r9=>(cond (!r6.1.2) (some true) (some (!r7.1.2))).bind fun b10=>(cond b10 (some true) (some (!r8.2))).bind fun b11=>(cond b11 (some true) (some (!r9.2))).bind fun b12=>cond b12 (some (((0,false,(0,zk,()),(0,zk,()),()),false),(r7.2.1,r7.2.2))) (Dy.d12 k r7.2.1 r7.2.2 t1 (0,false,(0,zk,()),(0,zk,()),()) (r2.1.1,false,(0,zk,()),(0,zk,()),()) r8.1 r9.1)) (Dy.c13 k r5.2.1 r5.2.2 t1 (0,false,(0,zk,()),(0,zk,()),()) (r2.1.1,false,(0,zk,()),(0,zk,()),()))) ((CK k t2 6 (true,r5.2.1) r5.2.2).bind fun AO=>cond (decide (AO.1≥0)) ((E8 k t2 5 8 (true,AO.2.1) AO.2.2).bind fun BX=>(E8 k t2 6 8 (true,BX.2.1) BX.2.2).bind fun z_=>(Hl k t1.1 BX.1.1.2.2.2.1).bind fun r16=>(Hl k t1.1 z_.1.1.2.2.2.1).bind fun Hy=>(cond (!BX.1.2) (some true) (some (!z_.1.2))).bind fun b18=>(cond b18 (some true) (some (!r16.2))).bind fun b19=>(cond b19 (some true) (some (!Hy.2))).bind fun b20=>cond b20 (some (((0,false,(0,zk,()),(0,zk,()),()),false),(z_.2.1,z_.2.2))) (Dy.d12 k z_.2.1 z_.2.2 t1 (0,false,(0,zk,()),(0,zk,()),()) (r2.1.1,false,(0,zk,()),(0,zk,()),()) r16.1 Hy.1)) (Dy.c13 k AO.2.1 AO.2.2 t1 (0,false,(0,zk,()),(0,zk,()),()) (r2.1.1,false,(0,zk,()),(0,zk,()),()))))
def Jm(k:Nat)(t1:zD)(t2:Int)(o0:BP)(o3:zA)(zf:zL)(Cf:List Int):Option (Unit×BP×zA×zL×(List Int)):=
 (CK k o0.2.1 t2 (true,zf) Cf).bind fun r1=>cond (decide (r1.1≥0)) ((Dy k t1 r1.1 (true,r1.2.1) r1.2.2).bind fun r2=>some ((),(o0,(o3.1,o3.2.1,o3.2.2.1,o3.2.2.2.1,o3.2.2.2.2.1,o3.2.2.2.2.2.1,o3.2.2.2.2.2.2.1,o3.2.2.2.2.2.2.2.1,o3.2.2.2.2.2.2.2.2.1,o3.2.2.2.2.2.2.2.2.2.1,r2.1.2,r2.1.1,o3.2.2.2.2.2.2.2.2.2.2.2.2.1,()),r2.2.1,r2.2.2))) (some ((),(o0,o3,r1.2.1,r1.2.2)))
def Aw.c23(k:Nat)(o0:BP)(o2:zA)(zf:zL)(Cf:List Int):Option (Unit×BP×zA×zL×(List Int)):=
 (Dx k 1 0 o0 zf Cf).bind fun r1=>(cond r1.2.1.2.2.1 (some true) (some (decide (r1.1>2000)))).bind fun b2=>some ((),(((),r1.2.1.2.1,b2,()),(o2.1,o2.2.1,r1.1,o2.2.2.2.1,o2.2.2.2.2.1,o2.2.2.2.2.2.1,o2.2.2.2.2.2.2.1,o2.2.2.2.2.2.2.2.1,o2.2.2.2.2.2.2.2.2.1,o2.2.2.2.2.2.2.2.2.2.1,o2.2.2.2.2.2.2.2.2.2.2.1,o2.2.2.2.2.2.2.2.2.2.2.2.1,o2.2.2.2.2.2.2.2.2.2.2.2.2.1,()),r1.2.2.1,r1.2.2.2))
def Aw.c8(k:Nat)(o0:BP)(o2:zA)(zf:zL)(Cf:List Int)(yV:zD):Option (Unit×BP×zA×zL×(List Int)):=
 (Jm k yV 5 o0 o2 zf Cf).bind fun r3=>Aw.c23 k r3.2.1 r3.2.2.1 r3.2.2.2.1 r3.2.2.2.2
def Aw.c19(k:Nat)(o0:BP)(o2:zA)(zf:zL)(Cf:List Int)(yV:zD):Option (Unit×BP×zA×zL×(List Int)):=
 (Jm k yV 8 o0 o2 zf Cf).bind fun r4=>Aw.c23 k r4.2.1 r4.2.2.1 r4.2.2.2.1 r4.2.2.2.2
def Aw(k:Nat)(t1:zD)(o0:BP)(o2:zA)(zf:zL)(Cf:List Int):Option (Unit×BP×zA×zL×(List Int)):=
 cond (o2.1==0) ((Iu k 5 o0 zf Cf).bind fun r5=>(Dq k 2 r5.2.1 (true,r5.2.2.1) r5.2.2.2).bind fun r6=>(Dq k 3 r6.2.1 (true,r6.2.2.1) r6.2.2.2).bind fun r7=>cond (r7.1 !=3) (cond true (Aw.c8 k ((),r7.2.1.2.1,true,()) (o2.1,o2.2.1,o2.2.2.1,r6.1,o2.2.2.2.2.1,o2.2.2.2.2.2.1,o2.2.2.2.2.2.2.1,o2.2.2.2.2.2.2.2.1,o2.2.2.2.2.2.2.2.2.1,o2.2.2.2.2.2.2.2.2.2.1,o2.2.2.2.2.2.2.2.2.2.2.1,o2.2.2.2.2.2.2.2.2.2.2.2.1,o2.2.2.2.2.2.2.2.2.2.2.2.2.1,()) r7.2.2.1 r7.2.2.2 t1) (Aw.c8 k r7.2.1 (o2.1,o2.2.1,o2.2.2.1,r6.1,o2.2.2.2.2.1,o2.2.2.2.2.2.1,o2.2.2.2.2.2.2.1,o2.2.2.2.2.2.2.2.1,o2.2.2.2.2.2.2.2.2.1,o2.2.2.2.2.2.2.2.2.2.1,o2.2.2.2.2.2.2.2.2.2.2.1,o2.2.2.2.2.2.2.2.2.2.2.2.1,o2.2.2.2.2.2.2.2.2.2.2.2.2.1,()) r7.2.2.1 r7.2.2.2 t1)) ((Dq k 4 r7.2.1 (true,r7.2.2.1) r7.2.2.2).bind fun r8=>cond (r8.1 !=3) (Aw.c8 k ((),r8.2.1.2.1,true,()) (o2.1,o2.2.1,o2.2.2.1,r6.1,o2.2.2.2.2.1,o2.2.2.2.2.2.1,o2.2.2.2.2.2.2.1,o2.2.2.2.2.2.2.2.1,o2.2.2.2.2.2.2.2.2.1,o2.2.2.2.2.2.2.2.2.2.1,o2.2.2.2.2.2.2.2.2.2.2.1,o2.2.2.2.2.2.2.2.2.2.2.2.1,o2.2.2.2.2.2.2.2.2.2.2.2.2.1,()) r8.2.2.1 r8.2.2.2 t1) (Aw.c8 k r8.2.1 (o2.1,o2.2.1,o2.2.2.1,r6.1,o2.2.2.2.2.1,o2.2.2.2.2.2.1,o2.2.2.2.2.2.2.1,o2.2.2.2.2.2.2.2.1,o2.2.2.2.2.2.2.2.2.1,o2.2.2.2.2.2.2.2.2.2.1,o2.2.2.2.2.2.2.2.2.2.2.1,o2.2.2.2.2.2.2.2.2.2.2.2.1,o2.2.2.2.2.2.2.2.2.2.2.2.2.1,()) r8.2.2.1 r8.2.2.2 t1))) (cond (o2.1==3) ((Iu k 8 o0 zf Cf).bind fun r9=>(Dx k 2 0 r9.2.1 r9.2.2.1 r9.2.2.2).bind fun Be=>(Dx k 3 0 Be.2.1 Be.2.2.1 Be.2.2.2).bind fun AL=>(Dq k 4 AL.2.1 (true,AL.2.2.1) AL.2.2.2).bind fun zV=>(Dx k 5 0 zV.2.1 zV.2.2.1 zV.2.2.2).bind fun AO=>(Dx k 6 0 AO.2.1 AO.2.2.1 AO.2.2.2).bind fun BX=>(CK k BX.2.1.2.1 7 (true,BX.2.2.1) BX.2.2.2).bind fun z_=>(cond (decide (z_.1<0)) (some true) ((gU z_.2.1.1 z_.1).bind fun Dv=>some (Dv.1==1))).bind fun b17=>cond b17 (Aw.c19 k ((),BX.2.1.2.1,true,()) (o2.1,o2.2.1,o2.2.2.1,zV.1,AL.1,Be.1,AO.1,BX.1,o2.2.2.2.2.2.2.2.2.1,o2.2.2.2.2.2.2.2.2.2.1,o2.2.2.2.2.2.2.2.2.2.2.1,o2.2.2.2.2.2.2.2.2.2.2.2.1,o2.2.2.2.2.2.2.2.2.2.2.2.2.1,()) z_.2.1 z_.2.2 t1) (Aw.c19 k BX.2.1 (o2.1,o2.2.1,o2.2.2.1,zV.1,AL.1,Be.1,AO.1,BX.1,o2.2.2.2.2.2.2.2.2.1,o2.2.2.2.2.2.2.2.2.2.1,o2.2.2.2.2.2.2.2.2.2.2.1,o2.2.2.2.2.2.2.2.2.2.2.2.1,o2.2.2.2.2.2.2.2.2.2.2.2.2.1,()) z_.2.1 z_.2.2 t1)) (cond (o2.1==2) ((Iu k 7 o0 zf Cf).bind fun IM=>(Dq k 2 IM.2.1 (true,IM.2.2.1) IM.2.2.2).bind fun Bp=>Aw.c23 k Bp.2.1 (o2.1,o2.2.1,o2.2.2.1,Bp.1,o2.2.2.2.2.1,o2.2.2.2.2.2.1,o2.2.2.2.2.2.2.1,o2.2.2.2.2.2.2.2.1,o2.2.2.2.2.2.2.2.2.1,o2.2.2.2.2.2.2.2.2.2.1,o2.2.2.2.2.2.2.2.2.2.2.1,o2.2.2.2.2.2.2.2.2.2.2.2.1,o2.2.2.2.2.2.2.2.2.2.2.2.2.1,()) Bp.2.2.1 Bp.2.2.2) (Aw.c23 k ((),o0.2.1,true,()) o2 zf Cf)))
def Bv.d14(k:Nat)(t1:List Int)(t9:Int)(t16:Bool)(yV:zD)(za:zA)(zC:BP)(zR:zA)(Ap:yY)(Bz:zL)(DC:List Int):Option (zA×Int):=
 (Aw k yV zC (zR.1,zR.2.1,zR.2.2.1,zR.2.2.2.1,zR.2.2.2.2.1,zR.2.2.2.2.2.1,zR.2.2.2.2.2.2.1,zR.2.2.2.2.2.2.2.1,t16,bits .and .i64 Ap.2.2.1 4294967295,zR.2.2.2.2.2.2.2.2.2.2.1,zR.2.2.2.2.2.2.2.2.2.2.2.1,zR.2.2.2.2.2.2.2.2.2.2.2.2.1,()) Bz DC).bind fun r1=>cond r1.2.1.2.2.1 (some ((0,0,0,0,0,0,0,0,false,0,false,(0,false,(0,zk,()),(0,zk,()),()),0,()),1)) (cond (decide (r1.2.2.1.2.1>(IntKind.wrap .i64 ((List.length t1:Int)-t9)))) (some ((0,0,0,0,0,0,0,0,false,0,false,(0,false,(0,zk,()),(0,zk,()),()),0,()),2)) (some (r1.2.2.1,0)))
def Bv.c14(k:Nat)(t1:List Int)(t9:Int)(t16:Bool)(yV:zD)(za:zA)(zC:BP)(zR:zA)(Ap:yY)(Bz:zL)(DC:List Int):Option (zA×Int):=
 Bv.d14 k t1 t9 t16 yV za zC zR Ap Bz DC
def Bv.c11(k:Nat)(t1:List Int)(t9:Int)(yV:zD)(za:zA)(zC:zL)(zR:BP)(Ap:zA)(Bz:List Int):Option (zA×Int):=
 (E8 k 0 4 5 (true,zC) Bz).bind fun r4=>(CK k 0 4 (true,r4.2.1) r4.2.2).bind fun r5=>(cond (decide (r5.1≥0)) (some (!r4.1.2)) (some false)).bind fun b6=>cond b6 (Bv.c14 k t1 t9 r4.1.2 yV za ((),zR.2.1,true,()) Ap r4.1.1 r5.2.1 r5.2.2) (Bv.c14 k t1 t9 r4.1.2 yV za zR Ap r4.1.1 r5.2.1 r5.2.2)
def Bv.d9(k:Nat)(t1:List Int)(t9:Int)(yV:zD)(za:zA)(zC:zL)(zR:BP)(Ap:zA)(Bz:List Int):Option (zA×Int):=
 (Dq k 3 zR (true,zC) Bz).bind fun r7=>cond (r7.1 !=Ap.2.1) (Bv.c11 k t1 t9 yV za r7.2.2.1 ((),r7.2.1.2.1,true,()) Ap r7.2.2.2) (Bv.c11 k t1 t9 yV za r7.2.2.1 r7.2.1 Ap r7.2.2.2)
def Bv(k:Nat)(t0:zD)(t1:List Int)(t2:Int):Option (zA×Int):=
 (Jl k t1 t2).bind fun Be=>(Iw k Be.2).bind fun AL=>(Ir k t0).bind fun zV=>(cond (!zV) (some true) (some (Be.1.2.2 !=0))).bind fun b13=>(cond b13 (some true) (some (!AL.1.2))).bind fun b14=>cond b14 (some ((0,0,0,0,0,0,0,0,false,0,false,(0,false,(0,zk,()),(0,zk,()),()),0,()),1)) ((Dq k 1 ((),0,false,()) (AL.2.1.1,AL.2.1.2) AL.2.2).bind fun z_=>(Dx k 2 0 z_.2.1 z_.2.2.1 z_.2.2.2).bind fun r16=>Bv.d9 k t1 Be.1.2.1 t0 (0,0,0,0,0,0,0,0,false,0,false,(0,false,(0,zk,()),(0,zk,()),()),0,()) r16.2.2.1 r16.2.1 (z_.1,r16.1,0,0,0,0,0,0,false,0,false,(0,false,(0,zk,()),(0,zk,()),()),Be.1.2.1,()) r16.2.2.2)
def Da.c7(k:Nat)(L2:Int→Int→Option Int)(t0:Int)(t4:Int):Option Int:=
 L2 t0 (IntKind.wrap .i64 (t4+1))
def Da.l2(k:Nat):Nat→Int→Int→Option Int
 |0,_,_=>none
 |n+1,t0,t4=>
  cond (decide (t4<8)) (cond ((Int.tmod t0 2)==1) (Da.c7 k (Da.l2 k n) (bits .xor .i64 (IntKind.wrap .i64 (Int.tdiv t0 2)) 3988292384) t4) (Da.c7 k (Da.l2 k n) (IntKind.wrap .i64 (Int.tdiv t0 2)) t4)) (some t0)
def Da(k:Nat)(t0:Int):Option Int:=
 Da.l2 k k t0 0
def FK.l3(k:Nat):Nat→Int→(List Int)→Option (Unit×(List Int))
 |0,_,_=>none
 |n+1,t4,yV=>
  cond (decide (t4<256)) ((Da k t4).bind fun r1=>cond (lim (List.length yV+List.length [r1])) ((FK.l3 k n) (IntKind.wrap .i64 (t4+1)) (yV++[r1])) none) (some ((),yV))
def FK(k:Nat):Option (Unit×(List Int)):=
 FK.l3 k k 0 []
def FJ.l6(k:Nat):Nat→Int→(List Int)→Int→Int→(List Int)→Option Int
 |0,_,_,_,_,_=>none
 |n+1,t0,t14,t15,t16,yV=>
  cond (decide (t16<t15)) ((gU t14 t16).bind fun y1=>(gU yV (bits .xor .i64 (bits .and .i64 t0 255) (IntKind.wrap .i64 y1))).bind fun y2=>(FJ.l6 k n) (bits .xor .i64 y2 (pE .i64 t0 8)) t14 t15 (IntKind.wrap .i64 (t16+1)) yV) (some (bits .xor .i64 t0 4294967295))
def FJ(k:Nat)(t0:Int)(t1:List Int):Option Int:=
 (Ao k t0 0 4294967295).bind fun r3=>cond (!r3) (some (-1)) ((FK k).bind fun r4=>FJ.l6 k k (bits .xor .i64 t0 4294967295) t1 (List.length t1:Int) 0 r4.2)
def Jj(k:Nat)(t0:List Int):Option Int:=
 (FJ k 0 t0).bind fun r1=>some r1
def FL.d5(k:Nat)(t11:List Int)(yV:zA)(za:zA):Option (zA×(List Int)×Int):=
 cond za.2.2.2.2.2.2.2.2.1 ((Jj k t11).bind fun r1=>cond (za.2.2.2.2.2.2.2.2.2.1 !=r1) (some (za,[],3)) (some (za,t11,0))) (cond false (some (za,[],3)) (some (za,t11,0)))
def FL(k:Nat)(t0:zD)(t1:List Int)(t2:Int):Option (zA×(List Int)×Int):=
 (Bv k t0 t1 t2).bind fun r4=>cond (r4.2 !=0) (some (r4.1,[],r4.2)) (cond (jg r4.1.2.2.2.2.2.2.2.2.2.2.2.2.1 (IntKind.wrap .i64 (r4.1.2.2.2.2.2.2.2.2.2.2.2.2.1+r4.1.2.1)) (List.length t1)) (FL.d5 k (kV t1 r4.1.2.2.2.2.2.2.2.2.2.2.2.2.1 (IntKind.wrap .i64 (r4.1.2.2.2.2.2.2.2.2.2.2.2.2.1+r4.1.2.1))) (0,0,0,0,0,0,0,0,false,0,false,(0,false,(0,zk,()),(0,zk,()),()),0,()) r4.1) none)
def Kh(k:Nat)(t0:Int)(t1:List Int)(t2:Int):Option ((Unit×Int×Int)×(List ze)):=
 (FL k (t0,0,0,()) t1 t2).bind fun r1=>(cond (r1.2.2==0) (some true) (some (r1.2.2==3))).bind fun b2=>(cond b2 ((cond (r1.1.1 !=2) (some true) ((cond (r1.1.2.2.2.1 !=0) (some (r1.1.2.2.2.1 !=2)) (some false)).bind fun b3=>some (b3))).bind fun b4=>some (b4)) (some false)).bind fun b5=>cond b5 (some (((),0,1),[])) (cond (r1.2.2 !=0) (some (((),0,r1.2.2),[])) ((Eh k t0 r1.2.1 0 r1.1.2.2.1).bind fun r6=>(cond (!r6.1.2.2) (some true) (some (r6.1.2.1 !=(List.length r1.2.1:Int)))).bind fun b7=>cond b7 (some (((),0,5),[])) (some (((),IntKind.wrap .i64 (r1.1.2.2.2.2.2.2.2.2.2.2.2.2.1+r1.1.2.1),0),r6.2))))
def Dp.Bd(k:Nat):Nat→(List Int)→Int→Int→zD→zP→(List ze)→(List Int)→Option ((Unit×Unit×Int)×(List Int)×(List ze))
 |0,_,_,_,_,_,_,_=>none
 |n+1,t1,t14,t15,yV,za,zC,zR=>
  cond (decide (t14<za.2.2.2.1)) ((Bv k yV t1 t15).bind fun r1=>cond (r1.2 !=0) (some (((),(),r1.2),([],[]))) ((cond (r1.1.1==2) (some true) (some (r1.1.2.2.1==0))).bind fun b2=>(cond b2 (some true) (some (decide ((IntKind.wrap .i64 (t14+r1.1.2.2.1))>za.2.2.2.1)))).bind fun b3=>cond b3 (some (((),(),1),([],[]))) (cond (lim (List.length zR+List.length [t15])) ((Dp.Bd k n) t1 (IntKind.wrap .i64 (t14+r1.1.2.2.1)) (IntKind.wrap .i64 (r1.1.2.2.2.2.2.2.2.2.2.2.2.2.1+r1.1.2.1)) yV za zC (zR++[t15])) none))) (some (((),(),0),(zR,zC)))
def Dp.c9(k:Nat)(t1:List Int)(yV:zD)(za:zP)(zC:List ze):Option ((Unit×Unit×Int)×(List Int)×(List ze)):=
 Dp.Bd k k t1 0 za.2.1 yV za zC []
def Dp(k:Nat)(t0:zD)(t1:List Int)(t2:zP):Option ((Unit×Unit×Int)×(List Int)×(List ze)):=
 (cond (decide (t2.2.1<0)) (some true) (some (decide (t2.2.2.1<(-1))))).bind fun b4=>cond b4 (some (((),(),1),([],[]))) (cond (decide (t2.2.2.1≥0)) ((Kh k t0.1 t1 t2.2.2.1).bind fun r5=>cond (r5.1.2.2 !=0) (some (((),(),r5.1.2.2),([],[]))) (Dp.c9 k t1 t0 t2 r5.2)) (Dp.c9 k t1 t0 t2 []))
def FM.l2(k:Nat):Nat→(List Int)→(List Int)→Int→Int→Option Bool
 |0,_,_,_,_=>none
 |n+1,t0,t5,t6,t7=>
  cond (decide (t7<t6)) ((gU t5 t7).bind fun y1=>(Ao k y1 0 9).bind fun r2=>(cond (!r2) (some true) ((cond (decide (t7>0)) ((gU t0 (IntKind.wrap .i64 (t7-1))).bind fun y3=>some (decide (y3≥y1))) (some false)).bind fun b4=>some (b4))).bind fun b5=>cond b5 (some false) ((FM.l2 k n) t0 t5 t6 (IntKind.wrap .i64 (t7+1)))) ((Ao k (List.length t0:Int) 1 5).bind fun r6=>some r6)
def FM(k:Nat)(t0:List Int):Option Bool:=
 FM.l2 k k t0 t0 (List.length t0:Int) 0
def Kk(k:Nat)(t0:zP)(t1:Int):Option Bool:=
 (Ao k t0.2.1 0 60000).bind fun r1=>(cond r1 ((Ao k t0.2.2.1 (-1) 60000).bind fun r2=>some (r2)) (some false)).bind fun b3=>(cond b3 ((Ao k t0.2.2.2.2.1 0 60000).bind fun r4=>some (r4)) (some false)).bind fun b5=>(cond (t0.1==t1) (some (b5)) (some false)).bind fun b6=>(cond b6 ((Ao k t0.2.2.2.1 1 2000).bind fun r7=>some (r7)) (some false)).bind fun b8=>(cond b8 ((FM k t0.2.2.2.2.2.1).bind fun r9=>some (r9)) (some false)).bind fun b10=>some b10
def Bc.l10(k:Nat)(L5:Int→(List zF)→Int→Int→zY→Option Bool):Nat→Int→(List zF)→Int→Int→(List zP)→Int→Int→zY→zF→Option Bool
 |0,_,_,_,_,_,_,_,_,_=>none
 |n+1,t3,t19,t20,t21,t40,t41,t42,yV,za=>
  cond (decide (t42<t41)) ((gU t40 t42).bind fun y1=>(Kk k y1 t42).bind fun r2=>cond (!r2) (some false) ((Bc.l10 k L5 n) t3 t19 t20 t21 t40 t41 (IntKind.wrap .i64 (t42+1)) yV za)) (L5 (IntKind.wrap .i64 (t3+za.1)) t19 t20 (IntKind.wrap .i64 (t21+1)) yV)
def Bc.d7(k:Nat)(L5:Int→(List zF)→Int→Int→zY→Option Bool)(t3:Int)(t19:List zF)(t20:Int)(t21:Int)(yV:zY)(za:zF):Option Bool:=
 (Ao k za.1 1 200).bind fun r3=>cond (!r3) (cond true (some false) (Bc.l10 k L5 k t3 t19 t20 t21 za.2.1 (List.length za.2.1:Int) 0 yV za)) ((CR k yV.1).bind fun r4=>cond ((List.length za.2.1:Int) !=(List.length r4.2:Int)) (some false) (Bc.l10 k L5 k t3 t19 t20 t21 za.2.1 (List.length za.2.1:Int) 0 yV za))
def Bc.l5(k:Nat):Nat→Int→(List zF)→Int→Int→zY→Option Bool
 |0,_,_,_,_,_=>none
 |n+1,t3,t19,t20,t21,yV=>
  cond (decide (t21<t20)) ((gU t19 t21).bind fun y9=>Bc.d7 k (Bc.l5 k n) t3 t19 t20 t21 yV y9) ((cond (t3==yV.2.1) (some (decide (t3≤200))) (some false)).bind fun b10=>some b10)
def Bc(k:Nat)(t0:zY):Option Bool:=
 (F6 k t0.1).bind fun AL=>(cond (!AL) (some true) (some (decide ((List.length t0.2.2.1:Int)>40)))).bind fun b12=>cond b12 (some false) (Bc.l5 k k 0 t0.2.2.1 (List.length t0.2.2.1:Int) 0 t0)
def Lv(k:Nat)(t0:zD)(t1:zA):Option (Int×Bool):=
 cond (t1.1==3) (some (t1.2.2.2.2.1,true)) (some (t1.2.2.1,t0.2.1==0))
def Ad.c17(k:Nat)(L4:(List Int)→Bool→(List Int)→Int→Int→(List zo)→zD→Option ((Unit×Bool)×(List zo)))(t0:List Int)(t4:Bool)(t12:Int)(t13:Int)(t28:List Int)(t29:Int)(t30:Int)(yV:List zo)(za:zD)(zC:AA):Option ((Unit×Bool)×(List zo)):=
 (gU yV t12).bind fun y1=>cond (lim (List.length y1.2.1+List.length [zC])) ((gU yV t12).bind fun y2=>cond (t12==t12) ((gU yV t12).bind fun y3=>(gU (List.set yV (Int.toNat t12) (y3.1,y1.2.1++[zC],y3.2.2.1,())) t12).bind fun y4=>cond (lim (List.length y4.2.2.1+List.length [t13])) ((gU (List.set yV (Int.toNat t12) (y3.1,y1.2.1++[zC],y3.2.2.1,())) t12).bind fun y5=>cond (t12==t12) ((gU (List.set yV (Int.toNat t12) (y3.1,y1.2.1++[zC],y3.2.2.1,())) t12).bind fun y6=>L4 t0 t4 t28 t29 (IntKind.wrap .i64 (t30+1)) (List.set (List.set yV (Int.toNat t12) (y3.1,y1.2.1++[zC],y3.2.2.1,())) (Int.toNat t12) (y6.1,y6.2.1,y4.2.2.1++[t13],())) za) none) none) none) none
def Ad.c12(k:Nat)(L4:(List Int)→Bool→(List Int)→Int→Int→(List zo)→zD→Option ((Unit×Bool)×(List zo)))(t0:List Int)(t4:Bool)(t12:Int)(t13:Int)(t16:Int)(t28:List Int)(t29:Int)(t30:Int)(yV:List zo)(za:zD)(zC:zA):Option ((Unit×Bool)×(List zo)):=
 (gU yV t12).bind fun y7=>cond (y7.1 !=t16) (some (((),false),[])) ((cond zC.2.2.2.2.2.2.2.2.2.2.1 (some (za.2.1==0)) (some false)).bind fun b8=>cond b8 (Ad.c17 k L4 t0 t4 t12 t13 t28 t29 t30 yV za (true,zC.2.2.2.2.2.2.2.2.2.2.2.1,())) (Ad.c17 k L4 t0 t4 t12 t13 t28 t29 t30 yV za (false,(0,false,(0,zk,()),(0,zk,()),()),())))
def Ad.l4(k:Nat):Nat→(List Int)→Bool→(List Int)→Int→Int→(List zo)→zD→Option ((Unit×Bool)×(List zo))
 |0,_,_,_,_,_,_,_=>none
 |n+1,t0,t4,t28,t29,t30,yV,za=>
  cond (decide (t30<t29)) ((gU t28 t30).bind fun y9=>(Bv k za t0 y9).bind fun Be=>(Lv k za Be.1).bind fun AL=>(cond (Be.2 !=0) (some true) (some (!AL.2))).bind fun b12=>cond b12 (some (((),false),[])) (cond t4 (cond (lim (List.length yV+List.length ([(AL.1,[],[],())]:List zo))) (Ad.c12 k (Ad.l4 k n) t0 t4 t30 y9 AL.1 t28 t29 t30 (yV++[(AL.1,[],[],())]) za Be.1) none) (Ad.c12 k (Ad.l4 k n) t0 t4 t30 y9 AL.1 t28 t29 t30 yV za Be.1))) (some (((),true),yV))
def Ad(k:Nat)(t0:List Int)(t1:zD)(t2:List Int)(t4:Bool)(zf:List zo):Option ((Unit×Bool)×(List zo)):=
 (cond (!t4) (some ((List.length t2:Int) !=(List.length zf:Int))) (some false)).bind fun b13=>cond b13 (some (((),false),[])) (Ad.l4 k k t0 t4 t2 (List.length t2:Int) 0 zf t1)
def Cw.IA(k:Nat):Nat→Int→Int→Int→Int→zY→(List zo)→Option ((Unit×Bool)×(List zo))
 |0,_,_,_,_,_,_=>none
 |n+1,t2,t18,t78,t79,yV,za=>
  cond (decide (t79<t78)) ((gU za t79).bind fun y1=>(Cw.IA k n) t2 (IntKind.wrap .i64 (t18+y1.1)) t78 (IntKind.wrap .i64 (t79+1)) yV za) ((gU yV.2.2.1 t2).bind fun y2=>cond (t18 !=y2.1) (some (((),false),[])) (some (((),true),za)))
def Cw.l5(k:Nat):Nat→(List Int)→Int→(List zP)→Int→Int→zY→(List zo)→Option ((Unit×Bool)×(List zo))
 |0,_,_,_,_,_,_,_=>none
 |n+1,t0,t2,t39,t40,t41,yV,za=>
  cond (decide (t41<t40)) ((gU t39 t41).bind fun y3=>(Kj k yV.1 t41).bind fun r4=>(Dp k r4.1 t0 y3).bind fun r5=>cond (r5.1.2.2 !=0) (some (((),false),[])) ((Ad k t0 r4.1 r5.2.1 (t41==0) za).bind fun r6=>cond (!r6.1.2) (some (((),false),[])) ((Cw.l5 k n) t0 t2 t39 t40 (IntKind.wrap .i64 (t41+1)) yV r6.2))) (Cw.IA k k t2 0 (List.length za:Int) 0 yV za)
def Cw(k:Nat)(t0:List Int)(t1:zY)(t2:Int):Option ((Unit×Bool)×(List zo)):=
 (Bc k t1).bind fun r7=>(cond (!r7) (some true) ((Ao k t2 0 (IntKind.wrap .i64 ((List.length t1.2.2.1:Int)-1))).bind fun r8=>some (!r8))).bind fun b9=>cond b9 (some (((),false),[])) ((gU t1.2.2.1 t2).bind fun A7=>Cw.l5 k k t0 t2 A7.2.1 (List.length A7.2.1:Int) 0 t1 [])
def Ez.l4(k:Nat):Nat→(List Int)→(List Int)→Int→Option Bool
 |0,_,_,_=>none
 |n+1,t0,t1,t5=>
  cond (decide (t5<(List.length t0:Int))) ((gU t0 t5).bind fun y1=>(gU t1 t5).bind fun y2=>cond (y1 !=y2) (some false) ((Ez.l4 k n) t0 t1 (IntKind.wrap .i64 (t5+1)))) (some true)
def Ez(k:Nat)(t0:List Int)(t1:List Int):Option Bool:=
 cond ((List.length t0:Int) !=(List.length t1:Int)) (some false) (Ez.l4 k k t0 t1 0)
def Gf(k:Nat)(t0:ze)(t1:ze):Option Bool:=
 cond (t0.1 !=t1.1) (some false) (cond (!iY t0.2.1 t1.2.1) (some false) (some true))
def Gz(k:Nat)(t0:Bl)(t1:Bl):Option Bool:=
 cond (t0.1 !=t1.1) (some false) (cond (!(t0.2.1==t1.2.1)) (some false) ((Gf k t0.2.2.1 t1.2.2.1).bind fun r1=>cond (!r1) (some false) ((Gf k t0.2.2.2.1 t1.2.2.2.1).bind fun r2=>cond (!r2) (some false) (some true))))
def Gb(k:Nat)(t0:AA)(t1:AA):Option Bool:=
 cond (!(t0.1==t1.1)) (some false) ((Gz k t0.2.1 t1.2.1).bind fun r1=>cond (!r1) (some false) (some true))
def Ff.l4(k:Nat):Nat→(List AA)→(List AA)→Int→Option Bool
 |0,_,_,_=>none
 |n+1,t0,t1,t5=>
  cond (decide (t5<(List.length t0:Int))) ((gU t0 t5).bind fun y1=>(gU t1 t5).bind fun y2=>(Gb k y1 y2).bind fun r3=>cond (!r3) (some false) ((Ff.l4 k n) t0 t1 (IntKind.wrap .i64 (t5+1)))) (some true)
def Ff(k:Nat)(t0:List AA)(t1:List AA):Option Bool:=
 cond ((List.length t0:Int) !=(List.length t1:Int)) (some false) (Ff.l4 k k t0 t1 0)
def Gd(k:Nat)(t0:zo)(t1:zo):Option Bool:=
 cond (t0.1 !=t1.1) (some false) ((Ff k t0.2.1 t1.2.1).bind fun r1=>cond (!r1) (some false) ((Ez k t0.2.2.1 t1.2.2.1).bind fun r2=>cond (!r2) (some false) (some true)))
def Ej.l4(k:Nat):Nat→(List zo)→(List zo)→Int→Option Bool
 |0,_,_,_=>none
 |n+1,t0,t1,t5=>
  cond (decide (t5<(List.length t0:Int))) ((gU t0 t5).bind fun y1=>(gU t1 t5).bind fun y2=>(Gd k y1 y2).bind fun r3=>cond (!r3) (some false) ((Ej.l4 k n) t0 t1 (IntKind.wrap .i64 (t5+1)))) (some true)
def Ej(k:Nat)(t0:List zo)(t1:List zo):Option Bool:=
 cond ((List.length t0:Int) !=(List.length t1:Int)) (some false) (Ej.l4 k k t0 t1 0)
def F_(k:Nat)(t0:zg)(t1:zg):Option Bool:=
 cond (!iY t0.1 t1.1) (some false) (cond (t0.2.1 !=t1.2.1) (some false) (cond (t0.2.2.1 !=t1.2.2.1) (some false) (cond (t0.2.2.2.1 !=t1.2.2.2.1) (some false) (some true))))
def Fb.l4(k:Nat):Nat→(List zg)→(List zg)→Int→Option Bool
 |0,_,_,_=>none
 |n+1,t0,t1,t5=>
  cond (decide (t5<(List.length t0:Int))) ((gU t0 t5).bind fun y1=>(gU t1 t5).bind fun y2=>(F_ k y1 y2).bind fun r3=>cond (!r3) (some false) ((Fb.l4 k n) t0 t1 (IntKind.wrap .i64 (t5+1)))) (some true)
def Fb(k:Nat)(t0:List zg)(t1:List zg):Option Bool:=
 cond ((List.length t0:Int) !=(List.length t1:Int)) (some false) (Fb.l4 k k t0 t1 0)
def F9(k:Nat)(t0:zP)(t1:zP):Option Bool:=
 cond (t0.1 !=t1.1) (some false) (cond (t0.2.1 !=t1.2.1) (some false) (cond (t0.2.2.1 !=t1.2.2.1) (some false) (cond (t0.2.2.2.1 !=t1.2.2.2.1) (some false) (cond (t0.2.2.2.2.1 !=t1.2.2.2.2.1) (some false) ((Ez k t0.2.2.2.2.2.1 t1.2.2.2.2.2.1).bind fun r1=>cond (!r1) (some false) (some true))))))
def Fa.l4(k:Nat):Nat→(List zP)→(List zP)→Int→Option Bool
 |0,_,_,_=>none
 |n+1,t0,t1,t5=>
  cond (decide (t5<(List.length t0:Int))) ((gU t0 t5).bind fun y1=>(gU t1 t5).bind fun y2=>(F9 k y1 y2).bind fun r3=>cond (!r3) (some false) ((Fa.l4 k n) t0 t1 (IntKind.wrap .i64 (t5+1)))) (some true)
def Fa(k:Nat)(t0:List zP)(t1:List zP):Option Bool:=
 cond ((List.length t0:Int) !=(List.length t1:Int)) (some false) (Fa.l4 k k t0 t1 0)
def Ga(k:Nat)(t0:zF)(t1:zF):Option Bool:=
 cond (t0.1 !=t1.1) (some false) ((Fa k t0.2.1 t1.2.1).bind fun r1=>cond (!r1) (some false) (some true))
def Fe.l4(k:Nat):Nat→(List zF)→(List zF)→Int→Option Bool
 |0,_,_,_=>none
 |n+1,t0,t1,t5=>
  cond (decide (t5<(List.length t0:Int))) ((gU t0 t5).bind fun y1=>(gU t1 t5).bind fun y2=>(Ga k y1 y2).bind fun r3=>cond (!r3) (some false) ((Fe.l4 k n) t0 t1 (IntKind.wrap .i64 (t5+1)))) (some true)
def Fe(k:Nat)(t0:List zF)(t1:List zF):Option Bool:=
 cond ((List.length t0:Int) !=(List.length t1:Int)) (some false) (Fe.l4 k k t0 t1 0)
def Gc(k:Nat)(t0:zY)(t1:zY):Option Bool:=
 (Fb k t0.1 t1.1).bind fun r1=>cond (!r1) (some false) (cond (t0.2.1 !=t1.2.1) (some false) ((Fe k t0.2.2.1 t1.2.2.1).bind fun r2=>cond (!r2) (some false) (some true)))
def CV.l4(k:Nat):Nat→Int→ByteArray→Option ByteArray
 |0,_,_=>none
 |n+1,t0,t3=>
  cond (decide (t0>0)) (cond (lim ((wY [IntKind.wrap .u8 (IntKind.wrap .i64 (48+(Int.tmod t0 10)))]).size+t3.size)) ((CV.l4 k n) (IntKind.wrap .i64 (Int.tdiv t0 10)) ((wY [IntKind.wrap .u8 (IntKind.wrap .i64 (48+(Int.tmod t0 10)))])++t3)) none) (cond (lim ((⟨#[109]⟩:ByteArray).size+t3.size)) (some ((⟨#[109]⟩:ByteArray)++t3)) none)
def CV(k:Nat)(t0:Int):Option ByteArray:=
 cond (decide (t0≤0)) (some (⟨#[109,48]⟩:ByteArray)) (CV.l4 k k t0 zk)
def Fp.l2(k:Nat):Nat→Int→Int→(List zg)→Option (Int×(List zg))
 |0,_,_,_=>none
 |n+1,t1,t5,zf=>
  cond (decide (t5<(List.length zf:Int))) ((CV k t1).bind fun r1=>(gU zf t5).bind fun y2=>(gU zf t5).bind fun y3=>(gU (List.set zf (Int.toNat t5) (r1,y3.2.1,y3.2.2.1,y3.2.2.2.1,())) t5).bind fun y4=>(gU (List.set zf (Int.toNat t5) (r1,y3.2.1,y3.2.2.1,y3.2.2.2.1,())) t5).bind fun y5=>(gU (List.set (List.set zf (Int.toNat t5) (r1,y3.2.1,y3.2.2.1,y3.2.2.2.1,())) (Int.toNat t5) (y5.1,IntKind.wrap .i64 (t1+1),y5.2.2.1,y5.2.2.2.1,())) t5).bind fun y6=>(gU (List.set (List.set zf (Int.toNat t5) (r1,y3.2.1,y3.2.2.1,y3.2.2.2.1,())) (Int.toNat t5) (y5.1,IntKind.wrap .i64 (t1+1),y5.2.2.1,y5.2.2.2.1,())) t5).bind fun y7=>(gU (List.set (List.set (List.set zf (Int.toNat t5) (r1,y3.2.1,y3.2.2.1,y3.2.2.2.1,())) (Int.toNat t5) (y5.1,IntKind.wrap .i64 (t1+1),y5.2.2.1,y5.2.2.2.1,())) (Int.toNat t5) (y7.1,y7.2.1,IntKind.wrap .i64 ((IntKind.wrap .i64 (t1+1))+1),y7.2.2.2.1,())) t5).bind fun y8=>(gU (List.set (List.set (List.set zf (Int.toNat t5) (r1,y3.2.1,y3.2.2.1,y3.2.2.2.1,())) (Int.toNat t5) (y5.1,IntKind.wrap .i64 (t1+1),y5.2.2.1,y5.2.2.2.1,())) (Int.toNat t5) (y7.1,y7.2.1,IntKind.wrap .i64 ((IntKind.wrap .i64 (t1+1))+1),y7.2.2.2.1,())) t5).bind fun y9=>(Fp.l2 k n) (IntKind.wrap .i64 ((IntKind.wrap .i64 ((IntKind.wrap .i64 ((IntKind.wrap .i64 (t1+1))+1))+1))+1)) (IntKind.wrap .i64 (t5+1)) (List.set (List.set (List.set (List.set zf (Int.toNat t5) (r1,y3.2.1,y3.2.2.1,y3.2.2.2.1,())) (Int.toNat t5) (y5.1,IntKind.wrap .i64 (t1+1),y5.2.2.1,y5.2.2.2.1,())) (Int.toNat t5) (y7.1,y7.2.1,IntKind.wrap .i64 ((IntKind.wrap .i64 (t1+1))+1),y7.2.2.2.1,())) (Int.toNat t5) (y9.1,y9.2.1,y9.2.2.1,IntKind.wrap .i64 ((IntKind.wrap .i64 ((IntKind.wrap .i64 (t1+1))+1))+1),()))) (some (t1,zf))
def Fp(k:Nat)(t1:Int)(zf:List zg):Option (Int×(List zg)):=
 Fp.l2 k k t1 0 zf
def EB.l2(k:Nat):Nat→Int→Int→(List Int)→Option (Int×(List Int))
 |0,_,_,_=>none
 |n+1,t1,t5,zf=>
  cond (decide (t5<(List.length zf:Int))) ((gU zf t5).bind fun y1=>(gU zf t5).bind fun y2=>(EB.l2 k n) (IntKind.wrap .i64 (t1+1)) (IntKind.wrap .i64 (t5+1)) (List.set zf (Int.toNat t5) t1)) (some (t1,zf))
def EB(k:Nat)(t1:Int)(zf:List Int):Option (Int×(List Int)):=
 EB.l2 k k t1 0 zf
def Fj.l2(k:Nat):Nat→Int→Int→(List zP)→Option (Int×(List zP))
 |0,_,_,_=>none
 |n+1,t1,t5,zf=>
  cond (decide (t5<(List.length zf:Int))) ((gU zf t5).bind fun y1=>(gU zf t5).bind fun y2=>(gU (List.set zf (Int.toNat t5) (t1,y2.2.1,y2.2.2.1,y2.2.2.2.1,y2.2.2.2.2.1,y2.2.2.2.2.2.1,())) t5).bind fun y3=>(gU (List.set zf (Int.toNat t5) (t1,y2.2.1,y2.2.2.1,y2.2.2.2.1,y2.2.2.2.2.1,y2.2.2.2.2.2.1,())) t5).bind fun y4=>(gU (List.set (List.set zf (Int.toNat t5) (t1,y2.2.1,y2.2.2.1,y2.2.2.2.1,y2.2.2.2.2.1,y2.2.2.2.2.2.1,())) (Int.toNat t5) (y4.1,IntKind.wrap .i64 (t1+1),y4.2.2.1,y4.2.2.2.1,y4.2.2.2.2.1,y4.2.2.2.2.2.1,())) t5).bind fun y5=>(gU (List.set (List.set zf (Int.toNat t5) (t1,y2.2.1,y2.2.2.1,y2.2.2.2.1,y2.2.2.2.2.1,y2.2.2.2.2.2.1,())) (Int.toNat t5) (y4.1,IntKind.wrap .i64 (t1+1),y4.2.2.1,y4.2.2.2.1,y4.2.2.2.2.1,y4.2.2.2.2.2.1,())) t5).bind fun y6=>(gU (List.set (List.set (List.set zf (Int.toNat t5) (t1,y2.2.1,y2.2.2.1,y2.2.2.2.1,y2.2.2.2.2.1,y2.2.2.2.2.2.1,())) (Int.toNat t5) (y4.1,IntKind.wrap .i64 (t1+1),y4.2.2.1,y4.2.2.2.1,y4.2.2.2.2.1,y4.2.2.2.2.2.1,())) (Int.toNat t5) (y6.1,y6.2.1,IntKind.wrap .i64 ((IntKind.wrap .i64 (t1+1))+1),y6.2.2.2.1,y6.2.2.2.2.1,y6.2.2.2.2.2.1,())) t5).bind fun y7=>(gU (List.set (List.set (List.set zf (Int.toNat t5) (t1,y2.2.1,y2.2.2.1,y2.2.2.2.1,y2.2.2.2.2.1,y2.2.2.2.2.2.1,())) (Int.toNat t5) (y4.1,IntKind.wrap .i64 (t1+1),y4.2.2.1,y4.2.2.2.1,y4.2.2.2.2.1,y4.2.2.2.2.2.1,())) (Int.toNat t5) (y6.1,y6.2.1,IntKind.wrap .i64 ((IntKind.wrap .i64 (t1+1))+1),y6.2.2.2.1,y6.2.2.2.2.1,y6.2.2.2.2.2.1,())) t5).bind fun y8=>(gU (List.set (List.set (List.set (List.set zf (Int.toNat t5) (t1,y2.2.1,y2.2.2.1,y2.2.2.2.1,y2.2.2.2.2.1,y2.2.2.2.2.2.1,())) (Int.toNat t5) (y4.1,IntKind.wrap .i64 (t1+1),y4.2.2.1,y4.2.2.2.1,y4.2.2.2.2.1,y4.2.2.2.2.2.1,())) (Int.toNat t5) (y6.1,y6.2.1,IntKind.wrap .i64 ((IntKind.wrap .i64 (t1+1))+1),y6.2.2.2.1,y6.2.2.2.2.1,y6.2.2.2.2.2.1,())) (Int.toNat t5) (y8.1,y8.2.1,y8.2.2.1,IntKind.wrap .i64 ((IntKind.wrap .i64 ((IntKind.wrap .i64 (t1+1))+1))+1),y8.2.2.2.2.1,y8.2.2.2.2.2.1,())) t5).bind fun y9=>(gU (List.set (List.set (List.set (List.set zf (Int.toNat t5) (t1,y2.2.1,y2.2.2.1,y2.2.2.2.1,y2.2.2.2.2.1,y2.2.2.2.2.2.1,())) (Int.toNat t5) (y4.1,IntKind.wrap .i64 (t1+1),y4.2.2.1,y4.2.2.2.1,y4.2.2.2.2.1,y4.2.2.2.2.2.1,())) (Int.toNat t5) (y6.1,y6.2.1,IntKind.wrap .i64 ((IntKind.wrap .i64 (t1+1))+1),y6.2.2.2.1,y6.2.2.2.2.1,y6.2.2.2.2.2.1,())) (Int.toNat t5) (y8.1,y8.2.1,y8.2.2.1,IntKind.wrap .i64 ((IntKind.wrap .i64 ((IntKind.wrap .i64 (t1+1))+1))+1),y8.2.2.2.2.1,y8.2.2.2.2.2.1,())) t5).bind fun A7=>(gU (List.set (List.set (List.set (List.set (List.set zf (Int.toNat t5) (t1,y2.2.1,y2.2.2.1,y2.2.2.2.1,y2.2.2.2.2.1,y2.2.2.2.2.2.1,())) (Int.toNat t5) (y4.1,IntKind.wrap .i64 (t1+1),y4.2.2.1,y4.2.2.2.1,y4.2.2.2.2.1,y4.2.2.2.2.2.1,())) (Int.toNat t5) (y6.1,y6.2.1,IntKind.wrap .i64 ((IntKind.wrap .i64 (t1+1))+1),y6.2.2.2.1,y6.2.2.2.2.1,y6.2.2.2.2.2.1,())) (Int.toNat t5) (y8.1,y8.2.1,y8.2.2.1,IntKind.wrap .i64 ((IntKind.wrap .i64 ((IntKind.wrap .i64 (t1+1))+1))+1),y8.2.2.2.2.1,y8.2.2.2.2.2.1,())) (Int.toNat t5) (A7.1,A7.2.1,A7.2.2.1,A7.2.2.2.1,IntKind.wrap .i64 ((IntKind.wrap .i64 ((IntKind.wrap .i64 ((IntKind.wrap .i64 (t1+1))+1))+1))+1),A7.2.2.2.2.2.1,())) t5).bind fun Af=>(EB k (IntKind.wrap .i64 ((IntKind.wrap .i64 ((IntKind.wrap .i64 ((IntKind.wrap .i64 ((IntKind.wrap .i64 (t1+1))+1))+1))+1))+1)) Af.2.2.2.2.2.1).bind fun zV=>(gU (List.set (List.set (List.set (List.set (List.set zf (Int.toNat t5) (t1,y2.2.1,y2.2.2.1,y2.2.2.2.1,y2.2.2.2.2.1,y2.2.2.2.2.2.1,())) (Int.toNat t5) (y4.1,IntKind.wrap .i64 (t1+1),y4.2.2.1,y4.2.2.2.1,y4.2.2.2.2.1,y4.2.2.2.2.2.1,())) (Int.toNat t5) (y6.1,y6.2.1,IntKind.wrap .i64 ((IntKind.wrap .i64 (t1+1))+1),y6.2.2.2.1,y6.2.2.2.2.1,y6.2.2.2.2.2.1,())) (Int.toNat t5) (y8.1,y8.2.1,y8.2.2.1,IntKind.wrap .i64 ((IntKind.wrap .i64 ((IntKind.wrap .i64 (t1+1))+1))+1),y8.2.2.2.2.1,y8.2.2.2.2.2.1,())) (Int.toNat t5) (A7.1,A7.2.1,A7.2.2.1,A7.2.2.2.1,IntKind.wrap .i64 ((IntKind.wrap .i64 ((IntKind.wrap .i64 ((IntKind.wrap .i64 (t1+1))+1))+1))+1),A7.2.2.2.2.2.1,())) t5).bind fun y13=>(Fj.l2 k n) zV.1 (IntKind.wrap .i64 (t5+1)) (List.set (List.set (List.set (List.set (List.set (List.set zf (Int.toNat t5) (t1,y2.2.1,y2.2.2.1,y2.2.2.2.1,y2.2.2.2.2.1,y2.2.2.2.2.2.1,())) (Int.toNat t5) (y4.1,IntKind.wrap .i64 (t1+1),y4.2.2.1,y4.2.2.2.1,y4.2.2.2.2.1,y4.2.2.2.2.2.1,())) (Int.toNat t5) (y6.1,y6.2.1,IntKind.wrap .i64 ((IntKind.wrap .i64 (t1+1))+1),y6.2.2.2.1,y6.2.2.2.2.1,y6.2.2.2.2.2.1,())) (Int.toNat t5) (y8.1,y8.2.1,y8.2.2.1,IntKind.wrap .i64 ((IntKind.wrap .i64 ((IntKind.wrap .i64 (t1+1))+1))+1),y8.2.2.2.2.1,y8.2.2.2.2.2.1,())) (Int.toNat t5) (A7.1,A7.2.1,A7.2.2.1,A7.2.2.2.1,IntKind.wrap .i64 ((IntKind.wrap .i64 ((IntKind.wrap .i64 ((IntKind.wrap .i64 (t1+1))+1))+1))+1),A7.2.2.2.2.2.1,())) (Int.toNat t5) (y13.1,y13.2.1,y13.2.2.1,y13.2.2.2.1,y13.2.2.2.2.1,zV.2,()))) (some (t1,zf))
def Fj(k:Nat)(t1:Int)(zf:List zP):Option (Int×(List zP)):=
 Fj.l2 k k t1 0 zf
def Fq.l2(k:Nat):Nat→Int→Int→(List zF)→Option (Int×(List zF))
 |0,_,_,_=>none
 |n+1,t1,t5,zf=>
  cond (decide (t5<(List.length zf:Int))) ((gU zf t5).bind fun y1=>(gU zf t5).bind fun y2=>(gU (List.set zf (Int.toNat t5) (t1,y2.2.1,())) t5).bind fun y3=>(Fj k (IntKind.wrap .i64 (t1+1)) y3.2.1).bind fun r4=>(gU (List.set zf (Int.toNat t5) (t1,y2.2.1,())) t5).bind fun y5=>(Fq.l2 k n) r4.1 (IntKind.wrap .i64 (t5+1)) (List.set (List.set zf (Int.toNat t5) (t1,y2.2.1,())) (Int.toNat t5) (y5.1,r4.2,()))) (some (t1,zf))
def Fq(k:Nat)(t1:Int)(zf:List zF):Option (Int×(List zF)):=
 Fq.l2 k k t1 0 zf
def FP(k:Nat)(t0:Unit×Int×Unit×Unit)(t1:Int)(zf:List zg)(Cf:List zF):Option (Int×(List zg)×(List zF)):=
 (Fp k t1 zf).bind fun r1=>(Fq k r1.1 Cf).bind fun r2=>some (r2.1,(r1.2,r2.2))
def Fu.l2(k:Nat):Nat→Int→Int→(List AA)→Option (Int×(List AA))
 |0,_,_,_=>none
 |n+1,t1,t5,zf=>
  cond (decide (t5<(List.length zf:Int))) ((gU zf t5).bind fun y1=>(gU zf t5).bind fun y2=>(gU (List.set zf (Int.toNat t5) ((Int.tmod t1 3)==0,y2.2.1,())) t5).bind fun y3=>(gU (List.set zf (Int.toNat t5) ((Int.tmod t1 3)==0,y2.2.1,())) t5).bind fun y4=>(gU (List.set (List.set zf (Int.toNat t5) ((Int.tmod t1 3)==0,y2.2.1,())) (Int.toNat t5) (y4.1,(IntKind.wrap .i64 (t1+1),y4.2.1.2.1,y4.2.1.2.2.1,y4.2.1.2.2.2.1,()),())) t5).bind fun y5=>(gU (List.set (List.set zf (Int.toNat t5) ((Int.tmod t1 3)==0,y2.2.1,())) (Int.toNat t5) (y4.1,(IntKind.wrap .i64 (t1+1),y4.2.1.2.1,y4.2.1.2.2.1,y4.2.1.2.2.2.1,()),())) t5).bind fun y6=>(gU (List.set (List.set (List.set zf (Int.toNat t5) ((Int.tmod t1 3)==0,y2.2.1,())) (Int.toNat t5) (y4.1,(IntKind.wrap .i64 (t1+1),y4.2.1.2.1,y4.2.1.2.2.1,y4.2.1.2.2.2.1,()),())) (Int.toNat t5) (y6.1,(y6.2.1.1,(Int.tmod (IntKind.wrap .i64 ((IntKind.wrap .i64 (t1+1))+1)) 3)==0,y6.2.1.2.2.1,y6.2.1.2.2.2.1,()),())) t5).bind fun y7=>(gU (List.set (List.set (List.set zf (Int.toNat t5) ((Int.tmod t1 3)==0,y2.2.1,())) (Int.toNat t5) (y4.1,(IntKind.wrap .i64 (t1+1),y4.2.1.2.1,y4.2.1.2.2.1,y4.2.1.2.2.2.1,()),())) (Int.toNat t5) (y6.1,(y6.2.1.1,(Int.tmod (IntKind.wrap .i64 ((IntKind.wrap .i64 (t1+1))+1)) 3)==0,y6.2.1.2.2.1,y6.2.1.2.2.2.1,()),())) t5).bind fun y8=>(CV k (IntKind.wrap .i64 ((IntKind.wrap .i64 ((IntKind.wrap .i64 ((IntKind.wrap .i64 (t1+1))+1))+1))+1))).bind fun r9=>(gU (List.set (List.set (List.set (List.set zf (Int.toNat t5) ((Int.tmod t1 3)==0,y2.2.1,())) (Int.toNat t5) (y4.1,(IntKind.wrap .i64 (t1+1),y4.2.1.2.1,y4.2.1.2.2.1,y4.2.1.2.2.2.1,()),())) (Int.toNat t5) (y6.1,(y6.2.1.1,(Int.tmod (IntKind.wrap .i64 ((IntKind.wrap .i64 (t1+1))+1)) 3)==0,y6.2.1.2.2.1,y6.2.1.2.2.2.1,()),())) (Int.toNat t5) (y8.1,(y8.2.1.1,y8.2.1.2.1,(IntKind.wrap .i64 ((IntKind.wrap .i64 ((IntKind.wrap .i64 (t1+1))+1))+1),y8.2.1.2.2.1.2.1,()),y8.2.1.2.2.2.1,()),())) t5).bind fun A7=>(gU (List.set (List.set (List.set (List.set zf (Int.toNat t5) ((Int.tmod t1 3)==0,y2.2.1,())) (Int.toNat t5) (y4.1,(IntKind.wrap .i64 (t1+1),y4.2.1.2.1,y4.2.1.2.2.1,y4.2.1.2.2.2.1,()),())) (Int.toNat t5) (y6.1,(y6.2.1.1,(Int.tmod (IntKind.wrap .i64 ((IntKind.wrap .i64 (t1+1))+1)) 3)==0,y6.2.1.2.2.1,y6.2.1.2.2.2.1,()),())) (Int.toNat t5) (y8.1,(y8.2.1.1,y8.2.1.2.1,(IntKind.wrap .i64 ((IntKind.wrap .i64 ((IntKind.wrap .i64 (t1+1))+1))+1),y8.2.1.2.2.1.2.1,()),y8.2.1.2.2.2.1,()),())) t5).bind fun Af=>(gU (List.set (List.set (List.set (List.set (List.set zf (Int.toNat t5) ((Int.tmod t1 3)==0,y2.2.1,())) (Int.toNat t5) (y4.1,(IntKind.wrap .i64 (t1+1),y4.2.1.2.1,y4.2.1.2.2.1,y4.2.1.2.2.2.1,()),())) (Int.toNat t5) (y6.1,(y6.2.1.1,(Int.tmod (IntKind.wrap .i64 ((IntKind.wrap .i64 (t1+1))+1)) 3)==0,y6.2.1.2.2.1,y6.2.1.2.2.2.1,()),())) (Int.toNat t5) (y8.1,(y8.2.1.1,y8.2.1.2.1,(IntKind.wrap .i64 ((IntKind.wrap .i64 ((IntKind.wrap .i64 (t1+1))+1))+1),y8.2.1.2.2.1.2.1,()),y8.2.1.2.2.2.1,()),())) (Int.toNat t5) (Af.1,(Af.2.1.1,Af.2.1.2.1,(Af.2.1.2.2.1.1,r9,()),Af.2.1.2.2.2.1,()),())) t5).bind fun Cj=>(gU (List.set (List.set (List.set (List.set (List.set zf (Int.toNat t5) ((Int.tmod t1 3)==0,y2.2.1,())) (Int.toNat t5) (y4.1,(IntKind.wrap .i64 (t1+1),y4.2.1.2.1,y4.2.1.2.2.1,y4.2.1.2.2.2.1,()),())) (Int.toNat t5) (y6.1,(y6.2.1.1,(Int.tmod (IntKind.wrap .i64 ((IntKind.wrap .i64 (t1+1))+1)) 3)==0,y6.2.1.2.2.1,y6.2.1.2.2.2.1,()),())) (Int.toNat t5) (y8.1,(y8.2.1.1,y8.2.1.2.1,(IntKind.wrap .i64 ((IntKind.wrap .i64 ((IntKind.wrap .i64 (t1+1))+1))+1),y8.2.1.2.2.1.2.1,()),y8.2.1.2.2.2.1,()),())) (Int.toNat t5) (Af.1,(Af.2.1.1,Af.2.1.2.1,(Af.2.1.2.2.1.1,r9,()),Af.2.1.2.2.2.1,()),())) t5).bind fun y13=>(CV k (IntKind.wrap .i64 ((IntKind.wrap .i64 ((IntKind.wrap .i64 ((IntKind.wrap .i64 ((IntKind.wrap .i64 ((IntKind.wrap .i64 (t1+1))+1))+1))+1))+1))+1))).bind fun BX=>(gU (List.set (List.set (List.set (List.set (List.set (List.set zf (Int.toNat t5) ((Int.tmod t1 3)==0,y2.2.1,())) (Int.toNat t5) (y4.1,(IntKind.wrap .i64 (t1+1),y4.2.1.2.1,y4.2.1.2.2.1,y4.2.1.2.2.2.1,()),())) (Int.toNat t5) (y6.1,(y6.2.1.1,(Int.tmod (IntKind.wrap .i64 ((IntKind.wrap .i64 (t1+1))+1)) 3)==0,y6.2.1.2.2.1,y6.2.1.2.2.2.1,()),())) (Int.toNat t5) (y8.1,(y8.2.1.1,y8.2.1.2.1,(IntKind.wrap .i64 ((IntKind.wrap .i64 ((IntKind.wrap .i64 (t1+1))+1))+1),y8.2.1.2.2.1.2.1,()),y8.2.1.2.2.2.1,()),())) (Int.toNat t5) (Af.1,(Af.2.1.1,Af.2.1.2.1,(Af.2.1.2.2.1.1,r9,()),Af.2.1.2.2.2.1,()),())) (Int.toNat t5) (y13.1,(y13.2.1.1,y13.2.1.2.1,y13.2.1.2.2.1,(IntKind.wrap .i64 ((IntKind.wrap .i64 ((IntKind.wrap .i64 ((IntKind.wrap .i64 ((IntKind.wrap .i64 (t1+1))+1))+1))+1))+1),y13.2.1.2.2.2.1.2.1,()),()),())) t5).bind fun DU=>(gU (List.set (List.set (List.set (List.set (List.set (List.set zf (Int.toNat t5) ((Int.tmod t1 3)==0,y2.2.1,())) (Int.toNat t5) (y4.1,(IntKind.wrap .i64 (t1+1),y4.2.1.2.1,y4.2.1.2.2.1,y4.2.1.2.2.2.1,()),())) (Int.toNat t5) (y6.1,(y6.2.1.1,(Int.tmod (IntKind.wrap .i64 ((IntKind.wrap .i64 (t1+1))+1)) 3)==0,y6.2.1.2.2.1,y6.2.1.2.2.2.1,()),())) (Int.toNat t5) (y8.1,(y8.2.1.1,y8.2.1.2.1,(IntKind.wrap .i64 ((IntKind.wrap .i64 ((IntKind.wrap .i64 (t1+1))+1))+1),y8.2.1.2.2.1.2.1,()),y8.2.1.2.2.2.1,()),())) (Int.toNat t5) (Af.1,(Af.2.1.1,Af.2.1.2.1,(Af.2.1.2.2.1.1,r9,()),Af.2.1.2.2.2.1,()),())) (Int.toNat t5) (y13.1,(y13.2.1.1,y13.2.1.2.1,y13.2.1.2.2.1,(IntKind.wrap .i64 ((IntKind.wrap .i64 ((IntKind.wrap .i64 ((IntKind.wrap .i64 ((IntKind.wrap .i64 (t1+1))+1))+1))+1))+1),y13.2.1.2.2.2.1.2.1,()),()),())) t5).bind fun Dv=>(Fu.l2 k n) (IntKind.wrap .i64 ((IntKind.wrap .i64 ((IntKind.wrap .i64 ((IntKind.wrap .i64 ((IntKind.wrap .i64 ((IntKind.wrap .i64 ((IntKind.wrap .i64 (t1+1))+1))+1))+1))+1))+1))+1)) (IntKind.wrap .i64 (t5+1)) (List.set (List.set (List.set (List.set (List.set (List.set (List.set zf (Int.toNat t5) ((Int.tmod t1 3)==0,y2.2.1,())) (Int.toNat t5) (y4.1,(IntKind.wrap .i64 (t1+1),y4.2.1.2.1,y4.2.1.2.2.1,y4.2.1.2.2.2.1,()),())) (Int.toNat t5) (y6.1,(y6.2.1.1,(Int.tmod (IntKind.wrap .i64 ((IntKind.wrap .i64 (t1+1))+1)) 3)==0,y6.2.1.2.2.1,y6.2.1.2.2.2.1,()),())) (Int.toNat t5) (y8.1,(y8.2.1.1,y8.2.1.2.1,(IntKind.wrap .i64 ((IntKind.wrap .i64 ((IntKind.wrap .i64 (t1+1))+1))+1),y8.2.1.2.2.1.2.1,()),y8.2.1.2.2.2.1,()),())) (Int.toNat t5) (Af.1,(Af.2.1.1,Af.2.1.2.1,(Af.2.1.2.2.1.1,r9,()),Af.2.1.2.2.2.1,()),())) (Int.toNat t5) (y13.1,(y13.2.1.1,y13.2.1.2.1,y13.2.1.2.2.1,(IntKind.wrap .i64 ((IntKind.wrap .i64 ((IntKind.wrap .i64 ((IntKind.wrap .i64 ((IntKind.wrap .i64 (t1+1))+1))+1))+1))+1),y13.2.1.2.2.2.1.2.1,()),()),())) (Int.toNat t5) (Dv.1,(Dv.2.1.1,Dv.2.1.2.1,Dv.2.1.2.2.1,(Dv.2.1.2.2.2.1.1,BX,()),()),()))) (some (t1,zf))
def Fu(k:Nat)(t1:Int)(zf:List AA):Option (Int×(List AA)):=
 Fu.l2 k k t1 0 zf
def Fv.l2(k:Nat):Nat→Int→Int→(List zo)→Option (Int×(List zo))
 |0,_,_,_=>none
 |n+1,t1,t5,zf=>
  cond (decide (t5<(List.length zf:Int))) ((gU zf t5).bind fun y1=>(gU zf t5).bind fun y2=>(gU (List.set zf (Int.toNat t5) (t1,y2.2.1,y2.2.2.1,())) t5).bind fun y3=>(Fu k (IntKind.wrap .i64 (t1+1)) y3.2.1).bind fun r4=>(gU (List.set zf (Int.toNat t5) (t1,y2.2.1,y2.2.2.1,())) t5).bind fun y5=>(gU (List.set (List.set zf (Int.toNat t5) (t1,y2.2.1,y2.2.2.1,())) (Int.toNat t5) (y5.1,r4.2,y5.2.2.1,())) t5).bind fun y6=>(EB k r4.1 y6.2.2.1).bind fun r7=>(gU (List.set (List.set zf (Int.toNat t5) (t1,y2.2.1,y2.2.2.1,())) (Int.toNat t5) (y5.1,r4.2,y5.2.2.1,())) t5).bind fun y8=>(Fv.l2 k n) r7.1 (IntKind.wrap .i64 (t5+1)) (List.set (List.set (List.set zf (Int.toNat t5) (t1,y2.2.1,y2.2.2.1,())) (Int.toNat t5) (y5.1,r4.2,y5.2.2.1,())) (Int.toNat t5) (y8.1,y8.2.1,r7.2,()))) (some (t1,zf))
def Fv(k:Nat)(t1:Int)(zf:List zo):Option (Int×(List zo)):=
 Fv.l2 k k t1 0 zf
def Cr.d22(k:Nat)(L2:(List AA)→Int→Int→Option Int)(t0:List AA)(t1:Int)(t5:Int):Option Int:=
 (gU t0 t5).bind fun y1=>(CV k t1).bind fun r2=>cond (!iY y1.2.1.2.2.2.1.2.1 r2) (some (-1)) (L2 t0 (IntKind.wrap .i64 (t1+1)) (IntKind.wrap .i64 (t5+1)))
def Cr.d16(k:Nat)(L2:(List AA)→Int→Int→Option Int)(t0:List AA)(t1:Int)(t5:Int):Option Int:=
 (gU t0 t5).bind fun y7=>(CV k t1).bind fun r8=>cond (!iY y7.2.1.2.2.1.2.1 r8) (some (-1)) ((gU t0 t5).bind fun y9=>cond (y9.2.1.2.2.2.1.1 !=(IntKind.wrap .i64 (t1+1))) (some (-1)) (Cr.d22 k L2 t0 (IntKind.wrap .i64 ((IntKind.wrap .i64 (t1+1))+1)) t5))
def Cr.l2(k:Nat):Nat→(List AA)→Int→Int→Option Int
 |0,_,_,_=>none
 |n+1,t0,t1,t5=>
  cond (decide (t5<(List.length t0:Int))) ((gU t0 t5).bind fun Dv=>cond (!(Dv.1==((Int.tmod t1 3)==0))) (some (-1)) ((gU t0 t5).bind fun Ag=>cond (Ag.2.1.1 !=(IntKind.wrap .i64 (t1+1))) (some (-1)) ((gU t0 t5).bind fun C7=>cond (!(C7.2.1.2.1==((Int.tmod (IntKind.wrap .i64 ((IntKind.wrap .i64 (t1+1))+1)) 3)==0))) (some (-1)) ((gU t0 t5).bind fun Ea=>cond (Ea.2.1.2.2.1.1 !=(IntKind.wrap .i64 ((IntKind.wrap .i64 ((IntKind.wrap .i64 (t1+1))+1))+1))) (some (-1)) (Cr.d16 k (Cr.l2 k n) t0 (IntKind.wrap .i64 ((IntKind.wrap .i64 ((IntKind.wrap .i64 ((IntKind.wrap .i64 (t1+1))+1))+1))+1)) t5))))) (some t1)
def Cr(k:Nat)(t0:List AA)(t1:Int):Option Int:=
 Cr.l2 k k t0 t1 0
def Fg.l2(k:Nat):Nat→(List Int)→Int→Int→Option Int
 |0,_,_,_=>none
 |n+1,t0,t1,t5=>
  cond (decide (t5<(List.length t0:Int))) ((gU t0 t5).bind fun y1=>cond (y1 !=t1) (some (-1)) ((Fg.l2 k n) t0 (IntKind.wrap .i64 (t1+1)) (IntKind.wrap .i64 (t5+1)))) (some t1)
def Fg(k:Nat)(t0:List Int)(t1:Int):Option Int:=
 Fg.l2 k k t0 t1 0
def EA.l2(k:Nat):Nat→(List zo)→Int→Int→Option Int
 |0,_,_,_=>none
 |n+1,t0,t1,t5=>
  cond (decide (t5<(List.length t0:Int))) ((gU t0 t5).bind fun y1=>cond (y1.1 !=t1) (some (-1)) ((gU t0 t5).bind fun y2=>(Cr k y2.2.1 (IntKind.wrap .i64 (t1+1))).bind fun r3=>cond (decide (r3<0)) (some (-1)) ((gU t0 t5).bind fun y4=>(Fg k y4.2.2.1 r3).bind fun r5=>cond (decide (r5<0)) (some (-1)) ((EA.l2 k n) t0 r5 (IntKind.wrap .i64 (t5+1)))))) (some t1)
def EA(k:Nat)(t0:List zo)(t1:Int):Option Int:=
 EA.l2 k k t0 t1 0
def Dz.d30(k:Nat)(t0:List Int)(t2:Int)(t9:Bool)(t15:Int)(yV:zY)(za:List zo)(zC:List zo):Option Bool:=
 (D5 k t0).bind fun r1=>(FB k yV).bind fun r2=>(Cw k r1.2 (r2.2.1,r2.1.2.1,r2.2.2,()) t2).bind fun r3=>(Ej k r3.2 za).bind fun r4=>(cond (!r4) (some true) (some (!(r3.1.2==t9)))).bind fun b5=>cond b5 (some false) ((EA k zC 1).bind fun r6=>cond (decide (r6<0)) (some false) (cond (r6 !=t15) (some false) (some true)))
def Dz.d15(k:Nat)(t0:List Int)(t2:Int)(t9:Bool)(t13:Bool)(yV:zY)(za:List zo)(zC:List Int)(zR:Unit×Int×Unit×Unit)(Ap:List zo)(Bz:List zg)(DC:List zF):Option Bool:=
 (FB k yV).bind fun Bp=>(Gc k (Bz,zR.2.1,DC,()) (Bp.2.1,Bp.1.2.1,Bp.2.2,())).bind fun FD=>cond (!FD) (some false) ((Fh k 1 zC).bind fun r21=>(FP k zR r21.1 Bz DC).bind fun Jz=>(cond (decide (Jz.1<0)) (some true) ((Ej k Ap za).bind fun r23=>some (!r23))).bind fun K8=>(cond K8 (some true) (some (!(t13==t9)))).bind fun JV=>cond JV (some false) ((Fv k 1 Ap).bind fun KE=>(EA k KE.2 1).bind fun NW=>cond (decide (NW<0)) (some false) (cond (NW !=KE.1) (some false) (Dz.d30 k t0 t2 t9 KE.1 yV za KE.2))))
def Dz.d7(k:Nat)(t0:List Int)(t2:Int)(yV:zY):Option Bool:=
 (D5 k t0).bind fun r55=>(FB k yV).bind fun LM=>(zy k r55.2 (LM.2.1,LM.1.2.1,LM.2.2,()) t2).bind fun KF=>(D5 k t0).bind fun LP=>(FB k yV).bind fun IP=>(Cw k LP.2 (IP.2.1,IP.1.2.1,IP.2.2,()) t2).bind fun KG=>(Ej k KG.2 KF.2).bind fun r61=>(cond (!r61) (some true) (some (!(KG.1.2==KF.1.2)))).bind fun OY=>cond OY (some false) ((D5 k t0).bind fun r63=>(E_ k LP.2 r63.2).bind fun r64=>cond (!r64) (some false) (Dz.d15 k t0 t2 KF.1.2 KG.1.2 yV KF.2 LP.2 IP.1 KG.2 IP.2.1 IP.2.2))
def Dz(k:Nat)(t0:List Int)(t1:zY)(t2:Int):Option Bool:=
 cond (decide ((List.length t0:Int)>1048576)) (some true) ((Ky k t1 1048576).bind fun r85=>cond (decide (r85<0)) (some true) (Dz.d7 k t0 t2 t1))
end Go.Fn
