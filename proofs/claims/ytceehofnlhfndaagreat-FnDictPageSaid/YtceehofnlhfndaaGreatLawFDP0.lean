/- plain laws of the claim's functions -/
import Derived.Test.YtceehofnlhfndaaGreatAmStep
import Derived.Laws.BitsLemmas
import Derived.Laws.Strings
import Derived.Test.YtceehofnlhfndaaGreatFDPF0
set_option linter.unnecessarySimpa false
set_option linter.unusedSimpArgs false
set_option linter.unusedVariables false
set_option linter.unusedSectionVars false
section
namespace Go
theorem AQ{α β:Type}(a:α)(f:α→Option β):(some a).bind f=f a:=rfl
theorem AP{α:Type}{a b:α}:cond true a b=a:=rfl
theorem AU{α:Type}{a b:α}:cond false a b=b:=rfl
theorem AZ{p:Prop}[inst:Decidable p]:p→decide p=true:=decide_eq_true
theorem A8{p:Prop}[inst:Decidable p]:¬p→decide p=false:=decide_eq_false
theorem Bb:(!true)=false:=rfl
theorem Bv:(!false)=true:=rfl
theorem BZ(a b:Bool):((a&&b)=true)=(a=true∧b=true):=Bool.and_eq_true a b
theorem BR(b:Bool):(true||b)=true:=rfl
theorem Cm(b:Bool):(false||b)=b:=Bool.false_or b
theorem Er(b:Bool):(true&&b)=b:=Bool.true_and b
theorem D9(b:Bool):(false&&b)=false:=rfl
theorem Cu(b:Bool):(b||b)=b:=Bool.or_self b
theorem BJ{α:Type}{as bs:List α}:(as++bs).length=as.length+bs.length:=List.length_append
theorem CQ{α:Type}{a:α}:[a].length=1:=rfl
theorem Co{α:Type}{a:α}{as:List α}:(a::as).length=as.length+1:=rfl
theorem DU{α:Type}(as:List α):as++[]=as:=List.append_nil as
theorem EI{α:Type}(as bs cs:List α):as++bs++cs=as++(bs++cs):=List.append_assoc as bs cs
theorem Jv{α:Type}{l:List α}{i:Nat}(h:i<l.length):l[i]?=some l[i]:=List.getElem?_eq_getElem h
theorem Dt{α:Type}(a b:α):(some a=some b)=(a=b):=Option.some.injEq a b
theorem Ce{p:Prop}[inst:Decidable p]:(decide p=true)=p:=decide_eq_true_eq
end Go
namespace Go.Fn
open Go Go.Am
def IW.c6(k:Nat)(t6:Bool):Option Int:=
 cond t6 (some 8) (some 0)
def IW(k:Nat)(t0:Int):Option Int:=
 cond (t0==1) (some 4) (cond (t0==2) (IW.c6 k (t0==2)) (IW.c6 k (t0==5)))
def Gv.c13(k:Nat)(t1:Int)(t8:Int)(t24:Bool):Option Bool:=
 cond t24 (some (t1==6)) (cond (t8==9) ((IW k t1).bind fun r1=>some (decide (r1>0))) (some false))
def Gv.c6(k:Nat)(t1:Int)(t8:Int)(t9:Bool):Option Bool:=
 cond t9
  (some true)
  (cond (t8==3)
   (some (t1==0))
   (cond (t8==5)
    ((cond (t1==1) (some true) (some (t1==2))).bind fun b2=>some b2)
    (cond (t8==6) (Gv.c13 k t1 t8 (t8==6)) (Gv.c13 k t1 t8 (t8==7)))))
def Gv(k:Nat)(t0:Int)(t1:Int):Option Bool:=
 (Fg k t1).bind fun r3=>cond (!r3) (some false) (cond (t0==0) (Gv.c6 k t1 t0 (t0==0)) (Gv.c6 k t1 t0 (t0==8)))
def Lh(k:Nat)(t0:List Int)(t1:Int):Option Int:=
 (gP t0 (IntKind.wrap .i64 (Int.tdiv t1 8))).bind fun y1=>
 cond (decide (0≤(Int.tmod t1 8))) (some (bits .and .i64 (qW .i64 (IntKind.wrap .i64 y1) (Int.tmod t1 8)) 1)) none
def Fb.l10(k:Nat)(L6:(List Int)→Int→Int→Int→Int→Int→(List Int)→Option ((Unit×Int×Bool)×(List Int))):Nat→(List Int)→Int→Int→Int→Int→Int→Int→Int→(List Int)→Option ((Unit×Int×Bool)×(List Int))
 |0,_,_,_,_,_,_,_,_,_=>none
 |n+1,t0,t1,t2,t3,t12,t13,t14,t15,AO=>
  cond (decide (t15<t3))
   ((Lh k t0 (IntKind.wrap .i64 ((IntKind.wrap .i64 ((IntKind.wrap .i64 (8*t1))+(IntKind.wrap .i64 (t13*t3))))+t15))).bind fun r1=>
    cond (decide (0≤t15)) (
    (Fb.l10 k L6 n) t0 t1 t2 t3 t12 t13 (bits .or .i64 t14 (qV .i64 r1 t15)) (IntKind.wrap .i64 (t15+1)) AO) none)
   (cond (lim (List.length AO+List.length [t14])) (L6 t0 t1 t2 t3 t12 (IntKind.wrap .i64 (t13+1)) (AO++[t14])) none)
def Fb.l6(k:Nat):Nat→(List Int)→Int→Int→Int→Int→Int→(List Int)→Option ((Unit×Int×Bool)×(List Int))
 |0,_,_,_,_,_,_,_=>none
 |n+1,t0,t1,t2,t3,t12,t13,AO=>
  cond (decide (t13<t2))
   (Fb.l10 k (Fb.l6 k n) k t0 t1 t2 t3 t12 t13 0 0 AO)
   (some (((),IntKind.wrap .i64 (t1+t12),true),AO))
def Fb(k:Nat)(t0:List Int)(t1:Int)(t2:Int)(t3:Int):Option ((Unit×Int×Bool)×(List Int)):=
 (IU k t2 t3).bind fun r2=>
 (cond (decide (r2<0)) (some true) ((CJ k t1 0 (List.length t0:Int)).bind fun r3=>some (!r3))).bind fun b4=>
 (cond b4 (some true) (some (decide ((IntKind.wrap .i64 ((List.length t0:Int)-t1))<r2)))).bind fun b5=>
 cond b5 (some (((),0,false),[])) (Fb.l6 k k t0 t1 t2 t3 r2 0 [])
def Fe.l5(k:Nat):Nat→(List Int)→Int→Int→Int→Int→Option (Int×Int×Bool)
 |0,_,_,_,_,_=>none
 |n+1,t0,t1,t2,t9,t10=>
  cond (decide (t10<t2))
   ((gP t0 (IntKind.wrap .i64 (t1+t10))).bind fun y1=>
    cond (decide (0≤(IntKind.wrap .i64 (8*t10)))) (
    (Fe.l5 k n) t0 t1 t2 (bits .or .i64 t9 (qV .i64 (IntKind.wrap .i64 y1) (IntKind.wrap .i64 (8*t10)))) (IntKind.wrap .i64 (t10+1))) none)
   (some (t9,IntKind.wrap .i64 (t1+t2),true))
def Fe(k:Nat)(t0:List Int)(t1:Int)(t2:Int):Option (Int×Int×Bool):=
 (CJ k t2 1 8).bind fun r2=>
 (cond (!r2) (some true) (some (decide (t1<0)))).bind fun b3=>
 (cond b3 (some true) (some (decide (t1>(List.length t0:Int))))).bind fun b4=>
 (cond b4 (some true) (some (decide ((IntKind.wrap .i64 ((List.length t0:Int)-t1))<t2)))).bind fun b5=>
 cond b5 (some (0,0,false)) (Fe.l5 k k t0 t1 t2 0 0)
def Jz.c6(k:Nat)(t9:Int)(t10:Int)(t11:Bool)(AO:AV):Option (AV×Int×Bool):=
 some ((t9,A7,()),t10,t11)
def Jz(k:Nat)(t0:Int)(t1:List Int)(t2:Int):Option (AV×Int×Bool):=
 cond (t0==1)
  ((Fe k t1 t2 4).bind fun r1=>
   cond (decide (r1.1>2147483647))
    (Jz.c6 k (IntKind.wrap .i64 (r1.1-4294967296)) r1.2.1 r1.2.2 (0,A7,()))
    (Jz.c6 k r1.1 r1.2.1 r1.2.2 (0,A7,())))
  (cond (t0==6)
   ((Fe k t1 t2 4).bind fun r2=>
    (cond (!r2.2.2) (some true) (some (decide (r2.1>40)))).bind fun b3=>
    (cond b3 (some true) (some (decide (r2.1>(IntKind.wrap .i64 ((List.length t1:Int)-r2.2.1)))))).bind fun b4=>
    cond b4
     (some ((0,A7,()),0,false))
     (cond (jM r2.2.1 (IntKind.wrap .i64 (r2.2.1+r2.1)) (List.length t1)) (
      some ((0,yM (kP t1 r2.2.1 (IntKind.wrap .i64 (r2.2.1+r2.1))),()),IntKind.wrap .i64 (r2.2.1+r2.1),true)) none))
   ((Fe k t1 t2 8).bind fun r5=>some ((r5.1,A7,()),r5.2.1,r5.2.2)))
def Ef.F9(k:Nat):Nat→Int→(List Int)→Int→Int→Int→(List AV)→Option ((Unit×Int×Bool)×(List AV))
 |0,_,_,_,_,_,_=>none
 |n+1,t0,t1,t2,t3,t16,AO=>
  cond (decide (t16<t3))
   ((Jz k t0 t1 t2).bind fun r1=>
    cond (!r1.2.2)
     (some (((),0,false),[]))
     (cond (lim (List.length AO+List.length [r1.1])) (
      (Ef.F9 k n) t0 t1 r1.2.1 t3 (IntKind.wrap .i64 (t16+1)) (AO++[r1.1])) none))
   (some (((),t2,true),AO))
def Ef.l7(k:Nat):Nat→Int→Bool→Int→(List AV)→(List Int)→Option ((Unit×Int×Bool)×(List AV))
 |0,_,_,_,_,_=>none
 |n+1,t13,t14,t15,AO,AX=>
  cond (decide (t15<(List.length AX:Int)))
   ((gP AX t15).bind fun y2=>
    cond (lim (List.length AO+List.length ([(y2,A7,())]:List AV))) (
    (Ef.l7 k n) t13 t14 (IntKind.wrap .i64 (t15+1)) (AO++[(y2,A7,())]) AX) none)
   (some (((),t13,t14),AO))
def Ef(k:Nat)(t0:Int)(t1:List Int)(t2:Int)(t3:Int):Option ((Unit×Int×Bool)×(List AV)):=
 (Fg k t0).bind fun r3=>
 (cond (!r3) (some true) ((CJ k t3 0 2000).bind fun r4=>some (!r4))).bind fun b5=>
 (cond b5 (some true) ((CJ k t2 0 (List.length t1:Int)).bind fun r6=>some (!r6))).bind fun b7=>
 cond b7
  (some (((),0,false),[]))
  (cond (t0==0)
   ((Fb k t1 t2 t3 1).bind fun r8=>Ef.l7 k k r8.1.2.1 r8.1.2.2 0 [] r8.2)
   (Ef.F9 k k t0 t1 t2 t3 0 []))
def Qu(k:Nat)(t0:Int):Option Bool:=
 (CJ k t0 0 24).bind fun r1=>some r1
def Et.l5(k:Nat):Nat→(List Int)→Int→Int→Int→Option (Int×Int×Bool)
 |0,_,_,_,_=>none
 |n+1,t0,t1,t7,t8=>
  (cond (decide (t8<10)) (some (decide ((IntKind.wrap .i64 (t1+t8))<(List.length t0:Int)))) (some false)).bind fun b1=>
  cond b1
   ((gP t0 (IntKind.wrap .i64 (t1+t8))).bind fun y2=>
    cond (decide (0≤(IntKind.wrap .i64 (7*t8)))) (
    cond (decide ((IntKind.wrap .i64 y2)<128))
     ((cond (t8==9) (some (decide ((IntKind.wrap .i64 y2)>1))) (some false)).bind fun b3=>
      cond b3
       (some (0,0,false))
       (some (bits .or .i64 t7 (qV .i64 (bits .and .i64 (IntKind.wrap .i64 y2) 127) (IntKind.wrap .i64 (7*t8))),IntKind.wrap .i64 ((IntKind.wrap .i64 (t1+t8))+1),true)))
     ((Et.l5 k n) t0 t1 (bits .or .i64 t7 (qV .i64 (bits .and .i64 (IntKind.wrap .i64 y2) 127) (IntKind.wrap .i64 (7*t8)))) (IntKind.wrap .i64 (t8+1)))) none)
   (some (0,0,false))
def Et(k:Nat)(t0:List Int)(t1:Int):Option (Int×Int×Bool):=
 (cond (decide (t1<0)) (some true) (some (decide (t1≥(List.length t0:Int))))).bind fun b4=>
 cond b4 (some (0,0,false)) (Et.l5 k k t0 t1 0 0)
def Cy.Fu(k:Nat)(Ky:(List Int)→Int→Int→Int→Int→Int→(List Int)→Option ((Unit×Int×Bool)×(List Int))):Nat→(List Int)→Int→Int→Int→Int→Int→Int→Int→(List Int)→Option ((Unit×Int×Bool)×(List Int))
 |0,_,_,_,_,_,_,_,_,_=>none
 |n+1,t0,t2,t3,t13,t15,t21,t22,t23,AO=>
  cond (decide (t23<t3))
   ((Lh k t0 (IntKind.wrap .i64 ((IntKind.wrap .i64 ((IntKind.wrap .i64 (8*t13))+(IntKind.wrap .i64 (t21*t3))))+t23))).bind fun r1=>
    cond (decide (0≤t23)) (
    (Cy.Fu k Ky n) t0 t2 t3 t13 t15 t21 (bits .or .i64 t22 (qV .i64 r1 t23)) (IntKind.wrap .i64 (t23+1)) AO) none)
   (cond (lim (List.length AO+List.length [t22])) (Ky t0 t2 t3 t13 t15 (IntKind.wrap .i64 (t21+1)) (AO++[t22])) none)
def Cy.J8(k:Nat)(L4:(List Int)→Int→Int→Int→(List Int)→Option ((Unit×Int×Bool)×(List Int))):Nat→(List Int)→Int→Int→Int→Int→Int→(List Int)→Option ((Unit×Int×Bool)×(List Int))
 |0,_,_,_,_,_,_,_=>none
 |n+1,t0,t2,t3,t13,t15,t21,AO=>
  (cond (decide (t21<(IntKind.wrap .i64 (8*t15)))) (some (decide ((List.length AO:Int)<t2))) (some false)).bind fun b2=>
  cond b2
   (Cy.Fu k (Cy.J8 k L4 n) k t0 t2 t3 t13 t15 t21 0 0 AO)
   (L4 t0 (IntKind.wrap .i64 (t13+(IntKind.wrap .i64 (t15*t3)))) t2 t3 AO)
def Cy.K3(k:Nat)(L4:(List Int)→Int→Int→Int→(List Int)→Option ((Unit×Int×Bool)×(List Int))):Nat→(List Int)→Int→Int→Int→Int→Int→Int→(List Int)→Option ((Unit×Int×Bool)×(List Int))
 |0,_,_,_,_,_,_,_,_=>none
 |n+1,t0,t2,t3,t13,t15,t16,t20,AO=>
  (cond (decide (t20<t15)) (some (decide ((List.length AO:Int)<t2))) (some false)).bind fun b3=>
  cond b3
   (cond (lim (List.length AO+List.length [t16])) (
    (Cy.K3 k L4 n) t0 t2 t3 t13 t15 t16 (IntKind.wrap .i64 (t20+1)) (AO++[t16])) none)
   (L4 t0 t13 t2 t3 AO)
def Cy.c17(k:Nat)(L4:(List Int)→Int→Int→Int→(List Int)→Option ((Unit×Int×Bool)×(List Int)))(t0:List Int)(t2:Int)(t3:Int)(t13:Int)(t15:Int)(t16:Int)(AO:List Int):Option ((Unit×Int×Bool)×(List Int)):=
 Cy.K3 k L4 k t0 t2 t3 t13 t15 t16 0 AO
def Cy.l4(k:Nat):Nat→(List Int)→Int→Int→Int→(List Int)→Option ((Unit×Int×Bool)×(List Int))
 |0,_,_,_,_,_=>none
 |n+1,t0,t1,t2,t3,AO=>
  cond (decide ((List.length AO:Int)<t2))
   ((Et k t0 t1).bind fun r4=>
    (Gf k r4.1 1).bind fun r5=>
    cond (!r4.2.2)
     (some (((),0,false),[]))
     (cond ((bits .and .i64 r4.1 1)==0)
      (cond (decide (t3>0))
       ((IU k 1 t3).bind fun r6=>
        (Fe k t0 r4.2.1 r6).bind fun r7=>
        (cond (!r7.2.2) (some true) (cond (decide (0≤t3)) (some ((qW .i64 r7.1 t3) !=0)) none)).bind fun b8=>
        cond b8 (some (((),0,false),[])) (Cy.c17 k (Cy.l4 k n) t0 t2 t3 r7.2.1 r5 r7.1 AO))
       (Cy.c17 k (Cy.l4 k n) t0 t2 t3 r4.2.1 r5 0 AO))
      ((cond (decide (r5>2000))
       (some true)
       (some (decide ((IntKind.wrap .i64 ((List.length t0:Int)-r4.2.1))<(IntKind.wrap .i64 (r5*t3)))))).bind fun b9=>
       cond b9 (some (((),0,false),[])) (Cy.J8 k (Cy.l4 k n) k t0 t2 t3 r4.2.1 r5 0 AO))))
   (some (((),t1,true),AO))
def Cy(k:Nat)(t0:List Int)(t1:Int)(t2:Int)(t3:Int):Option ((Unit×Int×Bool)×(List Int)):=
 (Qu k t3).bind fun BP=>
 (cond (!BP) (some true) ((CJ k t2 0 2000).bind fun CF=>some (!CF))).bind fun b12=>
 (cond b12 (some true) ((CJ k t1 0 (List.length t0:Int)).bind fun Cs=>some (!Cs))).bind fun b14=>
 cond b14 (some (((),0,false),[])) (Cy.l4 k k t0 t1 t2 t3 [])
def Ij.l3(k:Nat):Nat→(List Int)→Int→(List AV)→Option (Unit×(List AV))
 |0,_,_,_=>none
 |n+1,t0,t4,AO=>
  cond (decide (t4<(List.length t0:Int)))
   ((gP t0 t4).bind fun y1=>
    cond (lim (List.length AO+List.length ([(y1,A7,())]:List AV))) (
    (Ij.l3 k n) t0 (IntKind.wrap .i64 (t4+1)) (AO++[(y1,A7,())])) none)
   (some ((),AO))
def Ij(k:Nat)(t0:List Int):Option (Unit×(List AV)):=
 Ij.l3 k k t0 0 []
def NV(k:Nat)(t0:Int):Option Int:=
 cond ((bits .and .i64 t0 1)==1) ((Gf k t0 1).bind fun r1=>some (bits .xor .i64 (-1) r1)) ((Gf k t0 1).bind fun r2=>some r2)
def Ih(k:Nat)(t0:List Int)(t1:Int):Option (Int×Int×Bool):=
 (Et k t0 t1).bind fun r1=>cond (!r1.2.2) (some (0,0,false)) ((NV k r1.1).bind fun r2=>some (r2,r1.2.1,true))
def EU.l9(k:Nat)(L5:(List Int)→Int→Int→Int→Int→(List Int)→Option ((Unit×Int×Bool)×(List Int))):Nat→(List Int)→Int→Int→Int→Int→Int→Int→(List Int)→Option ((Unit×Int×Bool)×(List Int))
 |0,_,_,_,_,_,_,_,_=>none
 |n+1,t0,t1,t2,t3,t12,t13,t14,AO=>
  cond (decide (t14<t3))
   ((Lh k t0 (IntKind.wrap .i64 ((IntKind.wrap .i64 ((IntKind.wrap .i64 (8*t1))+(IntKind.wrap .i64 (t12*t3))))+t14))).bind fun r1=>
    cond (decide (0≤t14)) (
    (EU.l9 k L5 n) t0 t1 t2 t3 t12 (bits .or .i64 t13 (qV .i64 r1 t14)) (IntKind.wrap .i64 (t14+1)) AO) none)
   (cond (lim (List.length AO+List.length [t13])) (L5 t0 t1 t2 t3 (IntKind.wrap .i64 (t12+1)) (AO++[t13])) none)
def EU.l5(k:Nat):Nat→(List Int)→Int→Int→Int→Int→(List Int)→Option ((Unit×Int×Bool)×(List Int))
 |0,_,_,_,_,_,_=>none
 |n+1,t0,t1,t2,t3,t12,AO=>
  cond (decide (t12<t2))
   (EU.l9 k (EU.l5 k n) k t0 t1 t2 t3 t12 0 0 AO)
   (some (((),IntKind.wrap .i64 (t1+(IntKind.wrap .i64 (Int.tdiv (IntKind.wrap .i64 (t2*t3)) 8))),true),AO))
def EU(k:Nat)(t0:List Int)(t1:Int)(t2:Int)(t3:Int):Option ((Unit×Int×Bool)×(List Int)):=
 (cond (decide (t3>64))
  (some true)
  (some (decide ((IntKind.wrap .i64 ((List.length t0:Int)-t1))<(IntKind.wrap .i64 (Int.tdiv (IntKind.wrap .i64 (t2*t3)) 8)))))).bind fun b2=>
 cond b2 (some (((),0,false),[])) (EU.l5 k k t0 t1 t2 t3 0 [])
def CU.d28(k:Nat)(Q4:(List Int)→Int→Int→Int→Int→Int→Int→Int→Int→(List Int)→(List Int)→(List Int)→Option ((Unit×Int×Bool)×(List Int)))(t0:List Int)(t1:Int)(t8:Int)(t10:Int)(t12:Int)(t17:Int)(t18:Int)(t20:Int)(t24:Int)(AO:List Int)(AX:List Int)(Be:List Int):Option ((Unit×Int×Bool)×(List Int)):=
 (gP AX (IntKind.wrap .i64 ((List.length AX:Int)-1))).bind fun y1=>
 (gP Be t24).bind fun y2=>
 cond (lim (List.length AX+List.length [IntKind.wrap .i64 ((IntKind.wrap .i64 (y1+y2))+t17)])) (
 Q4 t0 t1 t8 t10 t12 t17 t18 t20 (IntKind.wrap .i64 (t24+1)) AO (AX++[IntKind.wrap .i64 ((IntKind.wrap .i64 (y1+y2))+t17)]) Be) none
def CU.J9(k:Nat)(Kw:(List Int)→Int→Int→Int→Int→Int→Int→Int→(List Int)→(List Int)→Option ((Unit×Int×Bool)×(List Int))):Nat→(List Int)→Int→Int→Int→Int→Int→Int→Int→Int→(List Int)→(List Int)→(List Int)→Option ((Unit×Int×Bool)×(List Int))
 |0,_,_,_,_,_,_,_,_,_,_,_,_=>none
 |n+1,t0,t1,t8,t10,t12,t17,t18,t20,t24,AO,AX,Be=>
  (cond (decide (t24<(List.length Be:Int))) (some (decide ((List.length AX:Int)<t12))) (some false)).bind fun b7=>
  cond b7
   (CU.d28 k (CU.J9 k Kw n) t0 t1 t8 t10 t12 t17 t18 t20 t24 AO AX Be)
   (Kw t0 t1 t8 t10 t12 t17 t18 (IntKind.wrap .i64 (t20+1)) AO AX)
def CU.IK(k:Nat)(Jb:(List Int)→Int→Int→Int→Int→(List Int)→(List Int)→Option ((Unit×Int×Bool)×(List Int))):Nat→(List Int)→Int→Int→Int→Int→Int→Int→Int→(List Int)→(List Int)→Option ((Unit×Int×Bool)×(List Int))
 |0,_,_,_,_,_,_,_,_,_,_=>none
 |n+1,t0,t1,t8,t10,t12,t17,t18,t20,AO,AX=>
  (cond (decide (t20<t10)) (some (decide ((List.length AX:Int)<t12))) (some false)).bind fun b8=>
  cond b8
   (cond (decide (t10≠0)) (
    (gP t0 (IntKind.wrap .i64 (t18+t20))).bind fun y9=>
    (EU k t0 t1 (IntKind.wrap .i64 (Int.tdiv t8 t10)) (IntKind.wrap .i64 y9)).bind fun BP=>
    cond (!BP.1.2.2)
     (some (((),0,false),AO))
     (CU.J9 k (CU.IK k Jb n) k t0 BP.1.2.1 t8 t10 t12 t17 t18 t20 0 AO AX BP.2)) none)
   (Jb t0 t1 t8 t10 t12 AO AX)
def CU.EG(k:Nat):Nat→(List Int)→Int→Int→Int→Int→(List Int)→(List Int)→Option ((Unit×Int×Bool)×(List Int))
 |0,_,_,_,_,_,_,_=>none
 |n+1,t0,t1,t8,t10,t12,AO,AX=>
  cond (decide ((List.length AX:Int)<t12))
   ((Ih k t0 t1).bind fun CF=>
    (cond (!CF.2.2) (some true) (some (decide ((IntKind.wrap .i64 ((List.length t0:Int)-CF.2.1))<t10)))).bind fun b12=>
    cond b12
     (some (((),0,false),AO))
     (CU.IK k (CU.EG k n) k t0 (IntKind.wrap .i64 (CF.2.1+t10)) t8 t10 t12 CF.1 CF.2.1 0 AO AX))
   (some (((),t1,true),AX))
def CU(k:Nat)(t0:List Int)(t1:Int):Option ((Unit×Int×Bool)×(List Int)):=
 (CJ k t1 0 (List.length t0:Int)).bind fun Cs=>
 cond (!Cs)
  (some (((),0,false),[]))
  ((Et k t0 t1).bind fun Ct=>
   (Et k t0 Ct.2.1).bind fun BH=>
   (Et k t0 BH.2.1).bind fun r16=>
   (Ih k t0 r16.2.1).bind fun DJ=>
   (cond (!Ct.2.2) (some true) (some (!BH.2.2))).bind fun b18=>
   (cond b18 (some true) (some (!r16.2.2))).bind fun b19=>
   (cond b19 (some true) (some (!DJ.2.2))).bind fun b20=>
   (cond b20 (some true) ((CJ k Ct.1 128 1024).bind fun r21=>some (!r21))).bind fun JG=>
   (cond JG (some true) (some ((Int.tmod Ct.1 128) !=0))).bind fun Ir=>
   (cond Ir (some true) ((CJ k BH.1 1 Ct.1).bind fun Kg=>some (!Kg))).bind fun JH=>
   (cond JH (some true) (cond (decide (BH.1≠0)) (some ((Int.tmod Ct.1 BH.1) !=0)) none)).bind fun Nb=>
   (cond Nb (some true) (cond (decide (BH.1≠0)) (some ((Int.tmod (IntKind.wrap .i64 (Int.tdiv Ct.1 BH.1)) 32) !=0)) none)).bind fun Rf=>
   (cond Rf (some true) ((CJ k r16.1 0 2000).bind fun r28=>some (!r28))).bind fun Rh=>
   cond Rh
    (some (((),0,false),[]))
    (cond (decide (r16.1>0))
     (cond (lim ((0:Nat)+List.length [DJ.1])) (CU.EG k k t0 DJ.2.1 Ct.1 BH.1 r16.1 [] ([]++[DJ.1])) none)
     (CU.EG k k t0 DJ.2.1 Ct.1 BH.1 r16.1 [] [])))
def Hy.l7(k:Nat):Nat→(List Int)→Int→Int→(List AV)→(List Int)→(List AV)→Option ((Unit×Int×Bool)×(List AV))
 |0,_,_,_,_,_,_=>none
 |n+1,t0,t1,t11,AO,AX,Be=>
  cond (decide (t11<(List.length AX:Int)))
   ((gP AX t11).bind fun y1=>
    (CJ k y1 0 40).bind fun r2=>
    (cond (!r2) (some true) ((gP AX t11).bind fun y3=>some (decide (y3>(IntKind.wrap .i64 ((List.length t0:Int)-t1)))))).bind fun b4=>
    cond b4
     (some (((),0,false),AO))
     ((gP AX t11).bind fun y5=>
      cond (jM t1 (IntKind.wrap .i64 (t1+y5)) (List.length t0)) (
      cond (lim (List.length Be+List.length [(0,yM (kP t0 t1 (IntKind.wrap .i64 (t1+y5))),())])) (
      (gP AX t11).bind fun y6=>
      (Hy.l7 k n) t0 (IntKind.wrap .i64 (t1+y6)) (IntKind.wrap .i64 (t11+1)) AO AX (Be++[(0,yM (kP t0 t1 (IntKind.wrap .i64 (t1+y5))),())])) none) none))
   (some (((),t1,true),Be))
def Hy(k:Nat)(t0:List Int)(t1:Int):Option ((Unit×Int×Bool)×(List AV)):=
 (CU k t0 t1).bind fun r7=>cond (!r7.1.2.2) (some (((),0,false),[])) (Hy.l7 k k t0 r7.1.2.1 0 [] r7.2 [])
def Ie.l9(k:Nat):Nat→Int→ByteArray→Int→(List AV)→(List Int)→(List AV)→(List AV)→Option ((Unit×Int×Bool)×(List AV))
 |0,_,_,_,_,_,_,_=>none
 |n+1,t11,t14,t15,AO,AX,Be,Cj=>
  cond (decide (t15<(List.length AX:Int)))
   ((gP AX t15).bind fun y1=>
    (CJ k y1 0 (t14.size:Int)).bind fun r2=>
    cond (!r2)
     (some (((),0,false),AO))
     ((gP AX t15).bind fun y3=>
      cond (jM 0 y3 t14.size) (
      (gP Be t15).bind fun y4=>
      cond (lim ((ByteArray.extract t14 (Int.toNat 0) (Int.toNat y3)).size+y4.2.1.size)) (
      cond (decide ((((ByteArray.extract t14 (Int.toNat 0) (Int.toNat y3))++y4.2.1).size:Int)>40))
       (some (((),0,false),AO))
       (cond (lim (List.length Cj+List.length [(0,(ByteArray.extract t14 (Int.toNat 0) (Int.toNat y3))++y4.2.1,())])) (
        (Ie.l9 k n) t11 ((ByteArray.extract t14 (Int.toNat 0) (Int.toNat y3))++y4.2.1) (IntKind.wrap .i64 (t15+1)) AO AX Be (Cj++[(0,(ByteArray.extract t14 (Int.toNat 0) (Int.toNat y3))++y4.2.1,())])) none)) none) none))
   (some (((),t11,true),Cj))
def Ie(k:Nat)(t0:List Int)(t1:Int):Option ((Unit×Int×Bool)×(List AV)):=
 (CU k t0 t1).bind fun r5=>
 (Hy k t0 r5.1.2.1).bind fun r6=>
 (cond (!r5.1.2.2) (some true) (some (!r6.1.2.2))).bind fun b7=>
 (cond b7 (some true) (some ((List.length r5.2:Int) !=(List.length r6.2:Int)))).bind fun b8=>
 cond b8 (some (((),0,false),[])) (Ie.l9 k k r6.1.2.1 A7 0 [] r5.2 r6.2 [])
def Es.c15(k:Nat)(L6:(List Int)→Int→Int→Int→Int→(List AV)→Option ((Unit×Int×Bool)×(List AV)))(t1:List Int)(t2:Int)(t3:Int)(t11:Int)(t13:Int)(t14:Int)(AO:List AV):Option ((Unit×Int×Bool)×(List AV)):=
 cond (lim (List.length AO+List.length ([(t14,A7,())]:List AV))) (
 L6 t1 t2 t3 t11 (IntKind.wrap .i64 (t13+1)) (AO++[(t14,A7,())])) none
def Es.l10(k:Nat)(L6:(List Int)→Int→Int→Int→Int→(List AV)→Option ((Unit×Int×Bool)×(List AV))):Nat→(List Int)→Int→Int→Int→Int→Int→Int→(List AV)→Option ((Unit×Int×Bool)×(List AV))
 |0,_,_,_,_,_,_,_,_=>none
 |n+1,t1,t2,t3,t11,t13,t14,t15,AO=>
  cond (decide (t15<t11))
   ((gP t1 (IntKind.wrap .i64 ((IntKind.wrap .i64 (t2+(IntKind.wrap .i64 (t15*t3))))+t13))).bind fun y1=>
    cond (decide (0≤(IntKind.wrap .i64 (8*t15)))) (
    (Es.l10 k L6 n) t1 t2 t3 t11 t13 (bits .or .i64 t14 (qV .i64 (IntKind.wrap .i64 y1) (IntKind.wrap .i64 (8*t15)))) (IntKind.wrap .i64 (t15+1)) AO) none)
   ((cond (t11==4) (some (decide (t14>2147483647))) (some false)).bind fun b2=>
    cond b2
     (Es.c15 k L6 t1 t2 t3 t11 t13 (IntKind.wrap .i64 (t14-4294967296)) AO)
     (Es.c15 k L6 t1 t2 t3 t11 t13 t14 AO))
def Es.l6(k:Nat):Nat→(List Int)→Int→Int→Int→Int→(List AV)→Option ((Unit×Int×Bool)×(List AV))
 |0,_,_,_,_,_,_=>none
 |n+1,t1,t2,t3,t11,t13,AO=>
  cond (decide (t13<t3))
   (Es.l10 k (Es.l6 k n) k t1 t2 t3 t11 t13 0 0 AO)
   (some (((),IntKind.wrap .i64 (t2+(IntKind.wrap .i64 (t11*t3))),true),AO))
def Es(k:Nat)(t0:Int)(t1:List Int)(t2:Int)(t3:Int):Option ((Unit×Int×Bool)×(List AV)):=
 (IW k t0).bind fun r3=>
 (cond (r3==0) (some true) ((CJ k t3 0 2000).bind fun r4=>some (!r4))).bind fun b5=>
 (cond b5 (some true) ((CJ k t2 0 (List.length t1:Int)).bind fun r6=>some (!r6))).bind fun b7=>
 (cond b7 (some true) (some (decide ((IntKind.wrap .i64 ((List.length t1:Int)-t2))<(IntKind.wrap .i64 (r3*t3)))))).bind fun b8=>
 cond b8 (some (((),0,false),[])) (Es.l6 k k t1 t2 t3 r3 0 [])
def Ig.l8(k:Nat):Nat→Int→Int→Int→(List Int)→(List Int)→Option ((Unit×Int×Bool)×(List Int))
 |0,_,_,_,_,_=>none
 |n+1,t3,t13,t15,AO,AX=>
  cond (decide (t15<(List.length AX:Int)))
   ((gP AX t15).bind fun y1=>
    cond (decide (y1≥t3)) (some (((),0,false),AO)) ((Ig.l8 k n) t3 t13 (IntKind.wrap .i64 (t15+1)) AO AX))
   (some (((),t13,true),AX))
def Ig(k:Nat)(t0:List Int)(t1:Int)(t2:Int)(t3:Int):Option ((Unit×Int×Bool)×(List Int)):=
 (cond (decide (t1<0)) (some true) (some (decide (t1≥(List.length t0:Int))))).bind fun b2=>
 (cond b2 (some true) ((gP t0 t1).bind fun y3=>some (decide (y3>24)))).bind fun b4=>
 cond b4
  (some (((),0,false),[]))
  ((gP t0 t1).bind fun y5=>
   (Cy k t0 (IntKind.wrap .i64 (t1+1)) t2 (IntKind.wrap .i64 y5)).bind fun r6=>
   cond (!r6.1.2.2) (some (((),0,false),[])) (Ig.l8 k k t3 r6.1.2.1 0 [] r6.2))
def Ic.l5(k:Nat):Nat→(List AV)→(List Int)→Int→(List AV)→Option ((Unit×Bool)×(List AV))
 |0,_,_,_,_=>none
 |n+1,t0,t1,t7,AO=>
  cond (decide (t7<(List.length t1:Int)))
   ((gP t1 t7).bind fun y1=>
    (CJ k y1 0 (IntKind.wrap .i64 ((List.length t0:Int)-1))).bind fun r2=>
    cond (!r2)
     (some (((),false),[]))
     ((gP t1 t7).bind fun y3=>
      (gP t0 y3).bind fun y4=>
      cond (lim (List.length AO+List.length [y4])) ((Ic.l5 k n) t0 t1 (IntKind.wrap .i64 (t7+1)) (AO++[y4])) none))
   (some (((),true),AO))
def Ic(k:Nat)(t0:List AV)(t1:List Int):Option ((Unit×Bool)×(List AV)):=
 cond (decide ((List.length t1:Int)>2000)) (some (((),false),[])) (Ic.l5 k k t0 t1 0 [])
def Lg(k:Nat)(t0:Int)(t1:Int)(t2:List Int)(t3:Int)(t4:List AV):Option ((Unit×Int×Bool)×(List AV)):=
 cond (t0==0)
  ((Ef k t1 t2 0 t3).bind fun r1=>some (((),r1.1.2.1,r1.1.2.2),r1.2))
  (cond (t0==3)
   ((Fe k t2 0 4).bind fun r2=>
    (cond (!r2.2.2) (some true) (some (r2.1 !=(IntKind.wrap .i64 ((List.length t2:Int)-r2.2.1))))).bind fun b3=>
    cond b3
     (some (((),0,false),[]))
     ((Cy k t2 r2.2.1 t3 1).bind fun r4=>(Ij k r4.2).bind fun r5=>some (((),r4.1.2.1,r4.1.2.2),r5.2)))
   (cond (t0==5)
    ((CU k t2 0).bind fun r6=>(Ij k r6.2).bind fun r7=>some (((),r6.1.2.1,r6.1.2.2),r7.2))
    (cond (t0==6)
     ((Hy k t2 0).bind fun r8=>some (((),r8.1.2.1,r8.1.2.2),r8.2))
     (cond (t0==7)
      ((Ie k t2 0).bind fun r9=>some (((),r9.1.2.1,r9.1.2.2),r9.2))
      (cond (t0==9)
       ((Es k t1 t2 0 t3).bind fun BP=>some (((),BP.1.2.1,BP.1.2.2),BP.2))
       ((cond (t3==0) (some ((List.length t2:Int)==0)) (some false)).bind fun b11=>
        cond b11
         (some (((),0,true),[]))
         ((Ig k t2 0 t3 (List.length t4:Int)).bind fun BC=>
          (Ic k t4 BC.2).bind fun Cs=>
          (cond BC.1.2.2 (some (Cs.1.2)) (some false)).bind fun b14=>some (((),BC.1.2.1,b14),Cs.2))))))))
def MH(k:Nat)(t0:Int)(t1:Int)(t2:List Int)(t3:Int)(t4:List AV):Option ((Unit×Bool)×(List AV)):=
 (Gv k t0 t1).bind fun r1=>
 (cond (!r1) (some true) ((CJ k t3 0 2000).bind fun r2=>some (!r2))).bind fun b3=>
 cond b3
  (some (((),false),[]))
  ((Lg k t0 t1 t2 t3 t4).bind fun r4=>
   (cond (!r4.1.2.2) (some true) (some (r4.1.2.1 !=(List.length t2:Int)))).bind fun b5=>
   (cond b5 (some true) (some ((List.length r4.2:Int) !=t3))).bind fun b6=>
   (cond b6 (some true) ((Gz k t1 r4.2).bind fun r7=>some (!r7))).bind fun b8=>
   cond b8 (some (((),false),[])) (some (((),true),r4.2)))
def MN.l4(k:Nat):Nat→ByteArray→Int→Option Bool
 |0,_,_=>none
 |n+1,t0,t3=>
  cond (decide (t3<(t0.size:Int)))
   ((oO t0 t3).bind fun y1=>
    (cond (decide (y1<97)) (some true) ((oO t0 t3).bind fun y2=>some (decide (y2>122)))).bind fun b3=>
    cond b3 (some false) ((MN.l4 k n) t0 (IntKind.wrap .i64 (t3+1))))
   (some true)
def MN(k:Nat)(t0:ByteArray):Option Bool:=
 (CJ k (t0.size:Int) 1 20).bind fun r4=>cond (!r4) (some false) (MN.l4 k k t0 0)
def FX.ES(k:Nat)(Jf:(List BB)→Int→Int→Option Int)(Jc:(List BB)→Int→Int→Int→BB→(List ByteArray)→Option Int):Nat→(List BB)→Int→Int→Int→Int→BB→(List ByteArray)→Option Int
 |0,_,_,_,_,_,_,_=>none
 |n+1,t0,t2,t8,t10,t11,AO,AX=>
  cond (decide (t11<(List.length AX:Int)))
   ((gP AX t11).bind fun y1=>
    (gP t0 t8).bind fun y2=>cond (ig y1 y2.1) (some (-1)) ((FX.ES k Jf Jc n) t0 t2 t8 t10 (IntKind.wrap .i64 (t11+1)) AO AX))
   ((gP t0 t8).bind fun y3=>
    cond (lim (List.length AX+List.length [y3.1])) (
    (Jf t0 t8 (IntKind.wrap .i64 (t2+1))).bind fun r4=>
    cond (decide (r4<0)) (some (-1)) (Jc t0 t2 r4 (IntKind.wrap .i64 (t10+1)) AO (AX++[y3.1]))) none)
def FX.Ex(k:Nat)(Jf:(List BB)→Int→Int→Option Int):Nat→(List BB)→Int→Int→Int→BB→(List ByteArray)→Option Int
 |0,_,_,_,_,_,_=>none
 |n+1,t0,t2,t8,t10,AO,AX=>
  cond (decide (t10<AO.2.2.2.1))
   (cond (decide (t8≥(List.length t0:Int))) (some (-1)) (FX.ES k Jf (FX.Ex k Jf n) k t0 t2 t8 t10 0 AO AX))
   (some t8)
def FX.b(k:Nat)(Jf:(List BB)→Int→Int→Option Int)(t0:List BB)(t1:Int)(t2:Int):Option Int:=
 (cond (decide (t1≥(List.length t0:Int))) (some true) (some (decide (t2>6)))).bind fun b5=>
 cond b5
  (some (-1))
  ((gP t0 t1).bind fun y6=>
   (cond (t1==0)
    ((cond (!ig y6.1 A7) (some true) (some (y6.2.2.1 !=0))).bind fun b7=>
     (cond b7 (some true) (some (y6.2.1 !=7))).bind fun b8=>some (b8))
    (some false)).bind fun b9=>
   (cond b9 (some true) ((cond (decide (t1>0)) ((MN k y6.1).bind fun BP=>some (!BP)) (some false)).bind fun b11=>some (b11))).bind fun b12=>
   (cond b12 (some true) ((CJ k y6.2.2.1 0 2).bind fun Cs=>some (!Cs))).bind fun b14=>
   cond b14
    (some (-1))
    (cond (y6.2.1 !=7)
     ((Fg k y6.2.1).bind fun BH=>
      (cond (!BH) (some true) (some (y6.2.2.2.1 !=0))).bind fun b16=>cond b16 (some (-1)) (some (IntKind.wrap .i64 (t1+1))))
     (cond (decide (y6.2.2.2.1<1)) (some (-1)) (FX.Ex k Jf k t0 t2 (IntKind.wrap .i64 (t1+1)) 0 y6 []))))
def FX.rec(k:Nat):Nat→((List BB)→Int→Int→Option Int)
 |0=>fun _ _ _=>none
 |d+1=>FX.b k ((FX.rec k d))
def FX.d(k d:Nat):(List BB)→Int→Int→Option Int:=(FX.rec k d)
def FX(k:Nat):(List BB)→Int→Int→Option Int:=FX.d k k
def Qt(k:Nat)(t0:List BB):Option Bool:=
 (CJ k (List.length t0:Int) 2 20).bind fun r1=>
 (cond r1 ((FX k t0 0 1).bind fun r2=>some (r2==(List.length t0:Int))) (some false)).bind fun b3=>some b3
def aay(k:Nat)(t0:BB):Option Bool:=
 (cond (t0.2.1==7) (some (decide (t0.2.2.2.1>0))) (some false)).bind fun b1=>
 (Iy k t0.2.1).bind fun r2=>
 (cond r2 (some (t0.2.2.2.1==0)) (some false)).bind fun b3=>
 (cond b1 (some true) (some (b3))).bind fun b4=>
 (cond b4 ((Cq k t0.2.2.1 0 2).bind fun r5=>some (r5)) (some false)).bind fun b6=>some b6
def Mo.l2(k:Nat):Nat→ByteArray→Int→Int→Option Bool
 |0,_,_,_=>none
 |n+1,t0,t5,t6=>
  cond (decide (t6<t5))
   ((oO t0 t6).bind fun y1=>
    (Cq k (IntKind.wrap .i64 y1) 97 122).bind fun r2=>
    cond (!r2) (some false) ((Mo.l2 k n) t0 t5 (IntKind.wrap .i64 (t6+1))))
   ((Cq k (t0.size:Int) 1 20).bind fun r3=>some r3)
def Mo(k:Nat)(t0:ByteArray):Option Bool:=
 Mo.l2 k k t0 (t0.size:Int) 0
def FM.l10(k:Nat)(Je:(List BB)→Int→Int→Option Int)(L6:(List BB)→Int→Int→Int→Int→(List ByteArray)→Option Int):Nat→(List BB)→Int→Int→Int→Int→Int→Int→(List ByteArray)→Option Int
 |0,_,_,_,_,_,_,_,_=>none
 |n+1,t0,t2,t7,t47,t48,t55,t56,AO=>
  cond (decide (t56<t55))
   ((gP AO t56).bind fun y1=>
    (gP t0 t7).bind fun y2=>
    cond (ig y1 y2.1) (some (-1)) ((FM.l10 k Je L6 n) t0 t2 t7 t47 t48 t55 (IntKind.wrap .i64 (t56+1)) AO))
   ((gP t0 t7).bind fun y3=>
    cond (lim (List.length AO+List.length [y3.1])) (
    (Je t0 t7 (IntKind.wrap .i64 (t2+1))).bind fun r4=>
    cond (decide (r4<0)) (some (-1)) (L6 t0 t2 r4 t47 (IntKind.wrap .i64 (t48+1)) (AO++[y3.1]))) none)
def FM.l6(k:Nat)(Je:(List BB)→Int→Int→Option Int):Nat→(List BB)→Int→Int→Int→Int→(List ByteArray)→Option Int
 |0,_,_,_,_,_,_=>none
 |n+1,t0,t2,t7,t47,t48,AO=>
  cond (decide (t48<t47))
   (cond (decide (t7≥(List.length t0:Int)))
    (some (-1))
    (FM.l10 k Je (FM.l6 k Je n) k t0 t2 t7 t47 t48 (List.length AO:Int) 0 AO))
   (some t7)
def FM.b(k:Nat)(Je:(List BB)→Int→Int→Option Int)(t0:List BB)(t1:Int)(t2:Int):Option Int:=
 (cond (decide (t1≥(List.length t0:Int))) (some true) (some (decide (t2>6)))).bind fun b5=>
 (cond b5 (some true) ((gP t0 t1).bind fun y6=>(aay k y6).bind fun r7=>some (!r7))).bind fun b8=>
 (cond b8
  (some true)
  ((cond (decide (t1>0)) ((gP t0 t1).bind fun y9=>(Mo k y9.1).bind fun BP=>some (!BP)) (some false)).bind fun b11=>
   some (b11))).bind fun b12=>
 cond b12 (some (-1)) ((gP t0 t1).bind fun y13=>FM.l6 k Je k t0 t2 (IntKind.wrap .i64 (t1+1)) y13.2.2.2.1 0 [])
def FM.rec(k:Nat):Nat→((List BB)→Int→Int→Option Int)
 |0=>fun _ _ _=>none
 |d+1=>FM.b k ((FM.rec k d))
def FM.d(k d:Nat):(List BB)→Int→Int→Option Int:=(FM.rec k d)
def FM(k:Nat):(List BB)→Int→Int→Option Int:=FM.d k k
def PM(k:Nat)(t0:List BB):Option Bool:=
 (Cq k (List.length t0:Int) 2 20).bind fun r1=>
 (cond (!r1) (some true) ((gP t0 0).bind fun y2=>some (y2.2.1 !=7))).bind fun b3=>
 (cond b3 (some true) ((gP t0 0).bind fun y4=>some (y4.2.2.1 !=0))).bind fun b5=>
 (cond b5 (some true) ((gP t0 0).bind fun y6=>some (!ig y6.1 A7))).bind fun b7=>
 cond b7 (some false) ((FM k t0 0 1).bind fun r8=>some (r8==(List.length t0:Int)))
def MI(k:Nat)(t0:Bu):Option Bool:=
 (Fg k t0.1).bind fun r1=>
 (cond r1 ((CJ k t0.2.1 0 6).bind fun r2=>some (r2)) (some false)).bind fun b3=>
 (cond b3 ((CJ k t0.2.2.1 t0.2.1 6).bind fun r4=>some (r4)) (some false)).bind fun b5=>some b5
def NU(k:Nat)(t0:Int):Option Int:=
 cond (decide (t0<0)) (some (bits .xor .i64 t0 9223372036854775807)) (some t0)
def FU.d5(k:Nat)(AO:AV)(AX:AV):Option Bool:=
 (NU k AO.1).bind fun r1=>(NU k AX.1).bind fun r2=>some (decide (r1<r2))
def FU.l8(k:Nat):Nat→Int→AV→AV→Option Bool
 |0,_,_,_=>none
 |n+1,t7,AO,AX=>
  (cond (decide (t7<(AO.2.1.size:Int))) (some (decide (t7<(AX.2.1.size:Int)))) (some false)).bind fun b9=>
  cond b9
   ((oO AO.2.1 t7).bind fun DZ=>
    (oO AX.2.1 t7).bind fun FF=>
    cond (DZ !=FF)
     ((oO AO.2.1 t7).bind fun Gh=>(oO AX.2.1 t7).bind fun y13=>some (decide (Gh<y13)))
     ((FU.l8 k n) (IntKind.wrap .i64 (t7+1)) AO AX))
   (some (decide ((AO.2.1.size:Int)<(AX.2.1.size:Int))))
def FU(k:Nat)(t0:Int)(t1:AV)(t2:AV):Option Bool:=
 (FV k t0 t1).bind fun Ct=>
 (cond (!Ct) (some true) ((FV k t0 t2).bind fun BH=>some (!BH))).bind fun b16=>
 cond b16 (some false) (cond (t0==5) (FU.d5 k t1 t2) (cond (t0==6) (FU.l8 k k 0 t1 t2) (some (decide (t1.1<t2.1)))))
def NY(k:Nat)(t0:List Int)(t1:Int):Option (ByteArray×Int×Int):=
 (Et k t0 t1).bind fun r1=>
 cond (!r1.2.2)
  (some (A7,0,1))
  ((cond (decide (r1.1<0)) (some true) (some (decide (r1.1>300)))).bind fun b2=>
   cond b2
    (some (A7,0,4))
    (cond (decide ((IntKind.wrap .i64 ((List.length t0:Int)-r1.2.1))<r1.1))
     (some (A7,0,1))
     (cond (jM r1.2.1 (IntKind.wrap .i64 (r1.2.1+r1.1)) (List.length t0)) (
      some (yM (kP t0 r1.2.1 (IntKind.wrap .i64 (r1.2.1+r1.1))),IntKind.wrap .i64 (r1.2.1+r1.1),0)) none)))
def I1.c11(k:Nat)(t1:Int)(t8:Int)(t9:Int):Option (Int×Int×Int×Int):=
 cond (t8==0)
  (some (0,0,t1,0))
  ((Lm k t9).bind fun r1=>
   cond (!r1)
    (some (0,0,0,2))
    ((cond (decide (t8<0)) (some true) (some (decide (t8>1500)))).bind fun b2=>cond b2 (some (0,0,0,4)) (some (t8,t9,t1,0))))
def I1(k:Nat)(t0:List Int)(t1:Int):Option (Int×Int×Int×Int):=
 cond (decide (t1≥(List.length t0:Int)))
  (some (0,0,0,1))
  ((gP t0 t1).bind fun y3=>
   (gP t0 t1).bind fun y4=>
   cond ((IntKind.wrap .i64 (Int.tdiv (IntKind.wrap .i64 y3) 16))==15)
    ((Et k t0 (IntKind.wrap .i64 (t1+1))).bind fun r5=>
     cond (!r5.2.2) (some (0,0,0,1)) (I1.c11 k r5.2.1 r5.1 (Int.tmod (IntKind.wrap .i64 y4) 16)))
    (I1.c11 k (IntKind.wrap .i64 (t1+1)) (IntKind.wrap .i64 (Int.tdiv (IntKind.wrap .i64 y3) 16)) (Int.tmod (IntKind.wrap .i64 y4) 16)))
def IZ.c16(k:Nat)(t1:Int)(t2:Int)(t10:Int)(t12:Int):Option (Int×Int×Int×Int):=
 (CJ k t12 1 1000).bind fun r1=>cond (!r1) (some (0,0,0,3)) (cond (decide (t12≤t2)) (some (0,0,0,5)) (some (t10,t12,t1,0)))
def IZ(k:Nat)(t0:List Int)(t1:Int)(t2:Int):Option (Int×Int×Int×Int):=
 cond (decide (t1≥(List.length t0:Int)))
  (some (0,0,0,1))
  ((gP t0 t1).bind fun y2=>
   (gP t0 t1).bind fun y3=>
   (gP t0 t1).bind fun y4=>
   cond (y4==0)
    (some (0,0,IntKind.wrap .i64 (t1+1),0))
    ((FB k (Int.tmod (IntKind.wrap .i64 y2) 16)).bind fun r5=>
     cond (!r5)
      (some (0,0,0,2))
      (cond ((IntKind.wrap .i64 (Int.tdiv (IntKind.wrap .i64 y3) 16))==0)
       ((Ih k t0 (IntKind.wrap .i64 (t1+1))).bind fun r6=>
        cond (!r6.2.2) (some (0,0,0,1)) (IZ.c16 k r6.2.1 t2 (Int.tmod (IntKind.wrap .i64 y2) 16) r6.1))
       (IZ.c16 k (IntKind.wrap .i64 (t1+1)) t2 (Int.tmod (IntKind.wrap .i64 y2) 16) (IntKind.wrap .i64 (t2+(IntKind.wrap .i64 (Int.tdiv (IntKind.wrap .i64 y3) 16))))))))
def Cf.Ee(k:Nat)(GG:(List Int)→Int→Int→Int→Int→(List AR)→Option ((Unit×Int×Int)×(List AR))):Nat→(List Int)→Int→Int→Int→Int→Int→Int→(List AR)→Option ((Unit×Int×Int)×(List AR))
 |0,_,_,_,_,_,_,_,_=>none
 |n+1,t0,t4,t22,t23,t24,t25,t26,AO=>
  (cond (decide (t26<t22)) (some (t25==0)) (some false)).bind fun b1=>
  cond b1
   ((GG t0 t24 t23 0 (IntKind.wrap .i64 (t4+1)) AO).bind fun r2=>
    (Cf.Ee k GG n) t0 t4 t22 t23 r2.1.2.1 r2.1.2.2 (IntKind.wrap .i64 (t26+1)) r2.2)
   (some (((),t24,t25),AO))
def Cf.K4(k:Nat)(GG:(List Int)→Int→Int→Int→Int→(List AR)→Option ((Unit×Int×Int)×(List AR))):Nat→(List Int)→Int→Int→Int→Int→Int→(List AR)→Option ((Unit×Int×Int)×(List AR))
 |0,_,_,_,_,_,_,_=>none
 |n+1,t0,t1,t4,t15,t27,t28,AO=>
  (IZ k t0 t1 t27).bind fun r3=>
  cond (r3.2.2.2 !=0)
   (some (((),0,r3.2.2.2),AO))
   (cond (r3.1==0)
    ((gP AO t15).bind fun y4=>
     (gP AO t15).bind fun y5=>some (((),r3.2.2.1,0),List.set AO (Int.toNat t15) (y5.1,y5.2.1,y5.2.2.1,y5.2.2.2.1,t28,())))
    ((GG t0 r3.2.2.1 r3.1 r3.2.1 (IntKind.wrap .i64 (t4+1)) AO).bind fun r6=>
     cond (r6.1.2.2 !=0)
      (some (((),0,r6.1.2.2),r6.2))
      ((Cf.K4 k GG n) t0 r6.1.2.1 t4 t15 r3.2.1 (IntKind.wrap .i64 (t28+1)) r6.2)))
def Cf.c8(k:Nat)(GG:(List Int)→Int→Int→Int→Int→(List AR)→Option ((Unit×Int×Int)×(List AR)))(t0:List Int)(t1:Int)(t2:Int)(t4:Int)(t15:Int)(t49:Int)(t50:Bool)(AO:List AR):Option ((Unit×Int×Int)×(List AR)):=
 cond t50
  ((Ih k t0 t1).bind fun r7=>
   cond (!r7.2.2)
    (some (((),0,1),AO))
    ((cond (t2==5) ((Jy k r7.1).bind fun r8=>some (!r8)) (some false)).bind fun b9=>
     cond b9
      (some (((),0,3),AO))
      ((gP AO t15).bind fun DZ=>
       (gP AO t15).bind fun FF=>some (((),r7.2.1,0),List.set AO (Int.toNat t15) (FF.1,FF.2.1,r7.1,FF.2.2.2.1,FF.2.2.2.2.1,())))))
  (cond (t49==8)
   ((NY k t0 t1).bind fun BC=>
    (gP AO t15).bind fun y13=>
    (gP AO t15).bind fun EL=>
    some (((),BC.2.1,BC.2.2),List.set AO (Int.toNat t15) (EL.1,EL.2.1,EL.2.2.1,BC.1,EL.2.2.2.2.1,())))
   (cond (t49==9)
    ((I1 k t0 t1).bind fun BH=>
     (gP AO t15).bind fun I9=>
     (gP AO t15).bind fun CZ=>
     (gP (List.set AO (Int.toNat t15) (CZ.1,CZ.2.1,CZ.2.2.1,CZ.2.2.2.1,BH.1,())) t15).bind fun Fh=>
     (gP (List.set AO (Int.toNat t15) (CZ.1,CZ.2.1,CZ.2.2.1,CZ.2.2.2.1,BH.1,())) t15).bind fun M5=>
     Cf.Ee k GG k t0 t4 BH.1 BH.2.1 BH.2.2.1 BH.2.2.2 0 (List.set (List.set AO (Int.toNat t15) (CZ.1,CZ.2.1,CZ.2.2.1,CZ.2.2.2.1,BH.1,())) (Int.toNat t15) (M5.1,M5.2.1,BH.2.1,M5.2.2.2.1,M5.2.2.2.2.1,())))
    (cond (t49==12) (Cf.K4 k GG k t0 t1 t4 t15 0 0 AO) (some (((),t1,0),AO)))))
def Cf.b(k:Nat)(GG:(List Int)→Int→Int→Int→Int→(List AR)→Option ((Unit×Int×Int)×(List AR)))(t0:List Int)(t1:Int)(t2:Int)(t3:Int)(t4:Int)(Ba:List AR):Option ((Unit×Int×Int)×(List AR)):=
 (cond ((List.length Ba:Int)==1500) (some true) (some (decide (t4>12)))).bind fun b20=>
 cond b20
  (some (((),0,4),Ba))
  (cond (lim (List.length Ba+List.length ([(t2,t3,0,A7,0,())]:List AR))) (
   cond (t2==5)
    (Cf.c8 k GG t0 t1 t2 t4 (List.length Ba:Int) t2 (t2==5) (Ba++[(t2,t3,0,A7,0,())]))
    (Cf.c8 k GG t0 t1 t2 t4 (List.length Ba:Int) t2 (t2==6) (Ba++[(t2,t3,0,A7,0,())]))) none)
def Cf.rec(k:Nat):Nat→((List Int)→Int→Int→Int→Int→(List AR)→Option ((Unit×Int×Int)×(List AR)))
 |0=>fun _ _ _ _ _ _=>none
 |d+1=>Cf.b k ((Cf.rec k d))
def Cf.d(k d:Nat):(List Int)→Int→Int→Int→Int→(List AR)→Option ((Unit×Int×Int)×(List AR)):=(Cf.rec k d)
def Cf(k:Nat):(List Int)→Int→Int→Int→Int→(List AR)→Option ((Unit×Int×Int)×(List AR)):=Cf.d k k
def Ki(k:Nat)(t0:List Int)(t1:Int):Option ((Unit×Int×Int)×(List AR)):=
 (cond (decide (t1<0)) (some true) (some (decide (t1≥(List.length t0:Int))))).bind fun b1=>
 cond b1
  (some (((),0,1),[]))
  ((Cf k t0 t1 12 0 1 []).bind fun r2=>cond (r2.1.2.2 !=0) (some (((),0,r2.1.2.2),[])) (some (((),r2.1.2.1,r2.1.2.2),r2.2)))
def EA.l3(k:Nat)(F3:(List AR)→Int→Option Int):Nat→(List AR)→Int→Int→Int→Option Int
 |0,_,_,_,_=>none
 |n+1,t0,t1,t5,t6=>
  (gP t0 t1).bind fun y1=>
  cond (decide (t6<y1.2.2.2.2.1)) ((F3 t0 t5).bind fun r2=>(EA.l3 k F3 n) t0 t1 r2 (IntKind.wrap .i64 (t6+1))) (some t5)
def EA.b(k:Nat)(F3:(List AR)→Int→Option Int)(t0:List AR)(t1:Int):Option Int:=
 EA.l3 k F3 k t0 t1 (IntKind.wrap .i64 (t1+1)) 0
def EA.rec(k:Nat):Nat→((List AR)→Int→Option Int)
 |0=>fun _ _=>none
 |d+1=>EA.b k ((EA.rec k d))
def EA.d(k d:Nat):(List AR)→Int→Option Int:=(EA.rec k d)
def EA(k:Nat):(List AR)→Int→Option Int:=EA.d k k
def DK.l5(k:Nat):Nat→(List AR)→Int→Int→Int→Int→Option Int
 |0,_,_,_,_,_=>none
 |n+1,t0,t1,t2,t7,t8=>
  (gP t0 t1).bind fun y1=>
  cond (decide (t8<y1.2.2.2.2.1))
   ((gP t0 t7).bind fun y2=>
    cond (y2.2.1==t2) (some t7) ((EA k t0 t7).bind fun r3=>(DK.l5 k n) t0 t1 t2 r3 (IntKind.wrap .i64 (t8+1))))
   (some (-1))
def DK(k:Nat)(t0:List AR)(t1:Int)(t2:Int):Option Int:=
 (gP t0 t1).bind fun y4=>cond (y4.1 !=12) (some (-1)) (DK.l5 k k t0 t1 t2 (IntKind.wrap .i64 (t1+1)) 0)
def Kj(k:Nat)(t0:List AR)(t1:Int)(t2:Int):Option (Int×Bool):=
 (DK k t0 t1 t2).bind fun r1=>
 (cond (decide (r1<0))
  (some true)
  ((gP t0 r1).bind fun y2=>(cond (y2.1 !=5) ((gP t0 r1).bind fun y3=>some (y3.1 !=6)) (some false)).bind fun b4=>some (b4))).bind fun b5=>
 cond b5 (some (0,false)) ((gP t0 r1).bind fun y6=>some (y6.2.2.1,true))
def Kk(k:Nat)(t0:List AR)(t1:Int)(t2:Int):Option (ByteArray×Bool):=
 (DK k t0 t1 t2).bind fun r1=>
 (cond (decide (r1<0)) (some true) ((gP t0 r1).bind fun y2=>some (y2.1 !=8))).bind fun b3=>
 cond b3 (some (A7,false)) ((gP t0 r1).bind fun y4=>some (y4.2.2.2.1,true))
def Gd.l3(k:Nat):Nat→(List AR)→Int→(List Int)→Int→(List Int)→Option ((Unit×Bool)×(List Int))
 |0,_,_,_,_,_=>none
 |n+1,t0,t1,t2,t9,AO=>
  cond (decide (t9<(List.length t2:Int)))
   ((gP t2 t9).bind fun y1=>
    (Kj k t0 t1 y1).bind fun r2=>
    cond (!r2.2)
     (some (((),false),AO))
     (cond (lim (List.length AO+List.length [r2.1])) ((Gd.l3 k n) t0 t1 t2 (IntKind.wrap .i64 (t9+1)) (AO++[r2.1])) none))
   (some (((),true),AO))
def Gd(k:Nat)(t0:List AR)(t1:Int)(t2:List Int):Option ((Unit×Bool)×(List Int)):=
 Gd.l3 k k t0 t1 t2 0 []
def ML(k:Nat)(t0:List AR)(t1:Int):Option Int:=
 (DK k t0 0 t1).bind fun r1=>
 (cond (decide (r1<0)) (some true) ((gP t0 r1).bind fun y2=>some (y2.1 !=12))).bind fun b3=>cond b3 (some (-1)) (some r1)
def NW(k:Nat)(t0:Int)(t1:AV):Option ByteArray:=
 cond (t0==6) (some t1.2.1) ((Dm k t0 [t1]).bind fun r1=>some (yM r1.2))
def Gc.d7(k:Nat)(t0:Int)(t1:ByteArray)(AO:AV)(AX:AV):Option (AV×Bool):=
 (FV k t0 AX).bind fun r1=>cond r1 ((NW k t0 AX).bind fun r2=>some (AX,ig r2 t1)) (some (AX,false))
def Gc.c7(k:Nat)(t0:Int)(t1:ByteArray)(AO:AV)(AX:AV):Option (AV×Bool):=
 Gc.d7 k t0 t1 AO AX
def Gc(k:Nat)(t0:Int)(t1:ByteArray):Option (AV×Bool):=
 cond (t0 !=6)
  ((Ef k t0 (fH t1) 0 1).bind fun Cs=>
   cond (!Cs.1.2.2)
    (some ((0,A7,()),false))
    ((gP Cs.2 0).bind fun EL=>Gc.c7 k t0 t1 (0,A7,()) EL))
  (Gc.c7 k t0 t1 (0,A7,()) (0,t1,()))
def MK(k:Nat)(t0:Bu)(t1:D5):Option Bool:=
 (MI k t0).bind fun r1=>
 (cond (!r1) (some true) ((CJ k t1.1 0 2000).bind fun r2=>some (!r2))).bind fun b3=>
 cond b3
  (some false)
  (cond (!t1.2.1)
   ((cond ((t1.2.2.1.1==0)&&(ig t1.2.2.1.2.1 A7&&true))
    (some (((t1.2.2.2.1.1==0)&&(ig t1.2.2.2.1.2.1 A7&&true))))
    (some false)).bind fun b4=>
    some b4)
   ((FV k t0.1 t1.2.2.1).bind fun r5=>
    (cond r5 ((FV k t0.1 t1.2.2.2.1).bind fun r6=>some (r6)) (some false)).bind fun b7=>
    (cond b7 ((FU k t0.1 t1.2.2.2.1 t1.2.2.1).bind fun r8=>some (!r8)) (some false)).bind fun b9=>some b9))
def Ii.c15(k:Nat)(AO:Bu)(AX:D5)(Be:D5)(Cj:D5):Option (D5×Bool):=
 (MK k AO Cj).bind fun r1=>cond (!r1) (some (Be,false)) (some (Cj,true))
def Ii(k:Nat)(t0:Bu)(t1:List AR)(t2:Int):Option (D5×Bool):=
 (Kj k t1 t2 3).bind fun r2=>
 (Kk k t1 t2 5).bind fun r3=>
 (Kk k t1 t2 6).bind fun r4=>
 (cond (!r2.2) (some true) (some (!(r3.2==r4.2)))).bind fun b5=>
 (cond b5
  (some true)
  ((cond (!r3.2)
   ((DK k t1 t2 5).bind fun r6=>
    (cond (decide (r6≥0)) (some true) ((DK k t1 t2 6).bind fun r7=>some (decide (r7≥0)))).bind fun b8=>some (b8))
   (some false)).bind fun b9=>
   some (b9))).bind fun b10=>
 cond b10
  (some ((0,false,(0,A7,()),(0,A7,()),()),false))
  (cond r3.2
   ((Gc k t0.1 r3.1).bind fun CF=>
    (Gc k t0.1 r4.1).bind fun BC=>
    (cond (!CF.2) (some true) (some (!BC.2))).bind fun b13=>
    cond b13
     (some ((0,false,(0,A7,()),(0,A7,()),()),false))
     (Ii.c15 k t0 (0,false,(0,A7,()),(0,A7,()),()) (0,false,(0,A7,()),(0,A7,()),()) (r2.1,r3.2,BC.1,CF.1,())))
   (Ii.c15 k t0 (0,false,(0,A7,()),(0,A7,()),()) (0,false,(0,A7,()),(0,A7,()),()) (r2.1,r3.2,(0,A7,()),(0,A7,()),())))
def CG.Jj(k:Nat)(AO:Bf)(AX:Bf):Option (Bf×Bool):=
 some (AO,true)
def CG.H7(k:Nat)(t1:List AR)(t10:Int)(t11:Int)(AO:Bu)(AX:Bf)(Be:Bf):Option (Bf×Bool):=
 cond (decide (t10>0))
  ((DK k t1 t11 t10).bind fun r1=>
   (cond (decide (r1≥0)) ((gP t1 r1).bind fun y2=>some (y2.1==12)) (some false)).bind fun b3=>
   cond b3
    ((Ii k AO t1 r1).bind fun r4=>
     CG.Jj k (AX.1,AX.2.1,AX.2.2.1,AX.2.2.2.1,AX.2.2.2.2.1,AX.2.2.2.2.2.1,AX.2.2.2.2.2.2.1,AX.2.2.2.2.2.2.2.1,AX.2.2.2.2.2.2.2.2.1,AX.2.2.2.2.2.2.2.2.2.1,r4.2,r4.1,AX.2.2.2.2.2.2.2.2.2.2.2.2.1,()) Be)
    (CG.Jj k AX Be))
  (CG.Jj k AX Be)
def CG.c7(k:Nat)(t1:List AR)(t8:Int)(t10:Int)(AO:Bu)(AX:Bf)(Be:Bf)(Cj:List Int):Option (Bf×Bool):=
 (ML k t1 t8).bind fun r5=>
 cond (decide (r5<0))
  (some (AX,false))
  ((Gd k t1 r5 Cj).bind fun r6=>
   (cond (!r6.1.2) (some true) ((gP r6.2 0).bind fun y7=>(CJ k y7 0 2000).bind fun r8=>some (!r8))).bind fun b9=>
   cond b9
    (some (AX,false))
    ((gP r6.2 0).bind fun DZ=>
     (gP r6.2 1).bind fun FF=>
     cond (AX.1==0)
      ((gP r6.2 2).bind fun Gh=>
       (cond (Gh !=3) (some true) ((gP r6.2 3).bind fun y13=>some (y13 !=3))).bind fun b14=>
       cond b14
        (some ((AX.1,AX.2.1,DZ,FF,AX.2.2.2.2.1,AX.2.2.2.2.2.1,AX.2.2.2.2.2.2.1,AX.2.2.2.2.2.2.2.1,AX.2.2.2.2.2.2.2.2.1,AX.2.2.2.2.2.2.2.2.2.1,AX.2.2.2.2.2.2.2.2.2.2.1,AX.2.2.2.2.2.2.2.2.2.2.2.1,AX.2.2.2.2.2.2.2.2.2.2.2.2.1,()),false))
        (CG.H7 k t1 t10 r5 AO (AX.1,AX.2.1,DZ,FF,AX.2.2.2.2.1,AX.2.2.2.2.2.1,AX.2.2.2.2.2.2.1,AX.2.2.2.2.2.2.2.1,AX.2.2.2.2.2.2.2.2.1,AX.2.2.2.2.2.2.2.2.2.1,AX.2.2.2.2.2.2.2.2.2.2.1,AX.2.2.2.2.2.2.2.2.2.2.2.1,AX.2.2.2.2.2.2.2.2.2.2.2.2.1,()) Be))
      (cond (AX.1==3)
       ((gP r6.2 2).bind fun Gi=>
        (gP r6.2 3).bind fun I9=>
        (gP r6.2 4).bind fun CZ=>
        (gP r6.2 5).bind fun Fh=>
        (DK k t1 r5 7).bind fun Dy=>
        (cond (decide (Gi<0)) (some true) (some (decide (I9<0)))).bind fun b20=>
        (cond b20 (some true) (some (decide (CZ<0)))).bind fun LD=>
        (cond LD (some true) (some (decide (Fh<0)))).bind fun JG=>
        (cond JG (some true) (some (decide (Dy<0)))).bind fun Ir=>
        (cond Ir (some true) ((gP t1 Dy).bind fun y24=>some (y24.1==1))).bind fun JH=>
        cond JH
         (some ((AX.1,AX.2.1,DZ,FF,I9,Gi,CZ,Fh,AX.2.2.2.2.2.2.2.2.1,AX.2.2.2.2.2.2.2.2.2.1,AX.2.2.2.2.2.2.2.2.2.2.1,AX.2.2.2.2.2.2.2.2.2.2.2.1,AX.2.2.2.2.2.2.2.2.2.2.2.2.1,()),false))
         (CG.H7 k t1 t10 r5 AO (AX.1,AX.2.1,DZ,FF,I9,Gi,CZ,Fh,AX.2.2.2.2.2.2.2.2.1,AX.2.2.2.2.2.2.2.2.2.1,AX.2.2.2.2.2.2.2.2.2.2.1,AX.2.2.2.2.2.2.2.2.2.2.2.1,AX.2.2.2.2.2.2.2.2.2.2.2.2.1,()) Be))
       (CG.H7 k t1 t10 r5 AO (AX.1,AX.2.1,DZ,FF,AX.2.2.2.2.1,AX.2.2.2.2.2.1,AX.2.2.2.2.2.2.1,AX.2.2.2.2.2.2.2.1,AX.2.2.2.2.2.2.2.2.1,AX.2.2.2.2.2.2.2.2.2.1,AX.2.2.2.2.2.2.2.2.2.2.1,AX.2.2.2.2.2.2.2.2.2.2.2.1,AX.2.2.2.2.2.2.2.2.2.2.2.2.1,()) Be))))
def CG(k:Nat)(t0:Bu)(t1:List AR)(t2:Bf):Option (Bf×Bool):=
 cond (t2.1==2)
  (CG.c7 k t1 7 0 t0 t2 (0,0,0,0,0,0,0,0,false,0,false,(0,false,(0,A7,()),(0,A7,()),()),0,()) [1,2])
  (cond (t2.1==3)
   (CG.c7 k t1 8 8 t0 t2 (0,0,0,0,0,0,0,0,false,0,false,(0,false,(0,A7,()),(0,A7,()),()),0,()) [1,4,2,3,5,6])
   (CG.c7 k t1 5 5 t0 t2 (0,0,0,0,0,0,0,0,false,0,false,(0,false,(0,A7,()),(0,A7,()),()),0,()) [1,2,3,4]))
def Dh.c17(k:Nat)(t1:List Int)(t10:Int)(AO:Bu)(AX:Bf)(Be:Bf)(Cj:List AR)(Df:Bf):Option (Bf×Int):=
 (CG k AO Cj Df).bind fun r1=>
 cond (!r1.2) (some (Be,1)) (cond (decide (r1.1.2.1>(IntKind.wrap .i64 ((List.length t1:Int)-t10)))) (some (Be,2)) (some (r1.1,0)))
def Dh(k:Nat)(t0:Bu)(t1:List Int)(t2:Int):Option (Bf×Int):=
 (Ki k t1 t2).bind fun r2=>
 (MI k t0).bind fun r3=>
 (cond (!r3) (some true) (some (r2.1.2.2 !=0))).bind fun b4=>
 cond b4
  (some ((0,0,0,0,0,0,0,0,false,0,false,(0,false,(0,A7,()),(0,A7,()),()),0,()),1))
  ((Gd k r2.2 0 [1,2,3]).bind fun r5=>
   (cond (!r5.1.2)
    (some true)
    ((gP r5.2 0).bind fun y6=>
     (cond (y6 !=0) ((gP r5.2 0).bind fun y7=>some (y7 !=2)) (some false)).bind fun b8=>
     (cond b8 ((gP r5.2 0).bind fun y9=>some (y9 !=3)) (some false)).bind fun b10=>some (b10))).bind fun b11=>
   (cond b11 (some true) ((gP r5.2 1).bind fun Gh=>some (decide (Gh<0)))).bind fun b13=>
   (cond b13 (some true) ((gP r5.2 1).bind fun EL=>(gP r5.2 2).bind fun Gi=>some (EL !=Gi))).bind fun b16=>
   cond b16
    (some ((0,0,0,0,0,0,0,0,false,0,false,(0,false,(0,A7,()),(0,A7,()),()),0,()),1))
    ((gP r5.2 0).bind fun CZ=>
     (gP r5.2 1).bind fun Fh=>
     (DK k r2.2 0 4).bind fun Dy=>
     cond (decide (Dy≥0))
      ((gP r2.2 Dy).bind fun y20=>
       cond (y20.1 !=5)
        (some ((0,0,0,0,0,0,0,0,false,0,false,(0,false,(0,A7,()),(0,A7,()),()),0,()),1))
        ((gP r2.2 Dy).bind fun y21=>
         cond (decide (y21.2.2.1<0))
          (Dh.c17 k t1 r2.1.2.1 t0 (0,0,0,0,0,0,0,0,false,0,false,(0,false,(0,A7,()),(0,A7,()),()),0,()) (0,0,0,0,0,0,0,0,false,0,false,(0,false,(0,A7,()),(0,A7,()),()),0,()) r2.2 (CZ,Fh,0,0,0,0,0,0,true,IntKind.wrap .i64 (y21.2.2.1+4294967296),false,(0,false,(0,A7,()),(0,A7,()),()),r2.1.2.1,()))
          (Dh.c17 k t1 r2.1.2.1 t0 (0,0,0,0,0,0,0,0,false,0,false,(0,false,(0,A7,()),(0,A7,()),()),0,()) (0,0,0,0,0,0,0,0,false,0,false,(0,false,(0,A7,()),(0,A7,()),()),0,()) r2.2 (CZ,Fh,0,0,0,0,0,0,true,y21.2.2.1,false,(0,false,(0,A7,()),(0,A7,()),()),r2.1.2.1,()))))
      (Dh.c17 k t1 r2.1.2.1 t0 (0,0,0,0,0,0,0,0,false,0,false,(0,false,(0,A7,()),(0,A7,()),()),0,()) (0,0,0,0,0,0,0,0,false,0,false,(0,false,(0,A7,()),(0,A7,()),()),0,()) r2.2 (CZ,Fh,0,0,0,0,0,0,false,0,false,(0,false,(0,A7,()),(0,A7,()),()),r2.1.2.1,()))))
def GY.l4(k:Nat):Nat→Int→Int→Option Int
 |0,_,_=>none
 |n+1,t0,t3=>
  cond (decide (t0>0))
   ((GY.l4 k n) (IntKind.wrap .i64 (Int.tdiv t0 2)) (IntKind.wrap .i64 (t3+1)))
   (cond (decide (t3>62)) (some (-1)) (some t3))
def GY(k:Nat)(t0:Int):Option Int:=
 cond (decide (t0<0)) (some (-1)) (GY.l4 k k t0 0)
def GZ.EG(k:Nat):Nat→Int→Int→Int→Int→(List Int)→(List Int)→Option ((Unit×Int×Bool)×(List Int))
 |0,_,_,_,_,_,_=>none
 |n+1,t3,t12,t13,t18,AO,AX=>
  cond (decide (t18<(List.length AX:Int)))
   ((gP AX t18).bind fun y1=>
    cond (decide (y1>t3)) (some (((),0,false),AO)) ((GZ.EG k n) t3 t12 t13 (IntKind.wrap .i64 (t18+1)) AO AX))
   (some (((),IntKind.wrap .i64 (t13+t12),true),AX))
def GZ(k:Nat)(t0:List Int)(t1:Int)(t2:Int)(t3:Int):Option ((Unit×Int×Bool)×(List Int)):=
 (CJ k t3 0 255).bind fun r2=>
 (cond (!r2) (some true) ((CJ k t2 0 2000).bind fun r3=>some (!r3))).bind fun b4=>
 (cond b4 (some true) ((CJ k t1 0 (List.length t0:Int)).bind fun r5=>some (!r5))).bind fun b6=>
 cond b6
  (some (((),0,false),[]))
  (cond (t3==0)
   (cond (qG t2) (some (((),t1,true),List.replicate (Int.toNat t2) 0)) none)
   ((Fe k t0 t1 4).bind fun r7=>
    (cond (!r7.2.2) (some true) (some (decide (r7.1>(IntKind.wrap .i64 ((List.length t0:Int)-r7.2.1)))))).bind fun b8=>
    cond b8
     (some (((),0,false),[]))
     (cond (jM r7.2.1 (IntKind.wrap .i64 (r7.2.1+r7.1)) (List.length t0)) (
      (GY k t3).bind fun r9=>
      (Cy k (kP t0 r7.2.1 (IntKind.wrap .i64 (r7.2.1+r7.1))) 0 t2 r9).bind fun BP=>
      cond (!BP.1.2.2) (some (((),0,false),[])) (GZ.EG k k t3 r7.1 r7.2.1 0 [] BP.2)) none)))
def G5.l7(k:Nat):Nat→Int→Int→(List Int)→Option ((Unit×Bool)×(List Int))
 |0,_,_,_=>none
 |n+1,t2,t11,AO=>
  cond (decide (t11<(List.length AO:Int)))
   ((gP AO t11).bind fun y1=>cond (decide (y1>t2)) (some (((),false),[])) ((G5.l7 k n) t2 (IntKind.wrap .i64 (t11+1)) AO))
   (some (((),true),AO))
def G5(k:Nat)(t0:List Int)(t1:Int)(t2:Int):Option ((Unit×Bool)×(List Int)):=
 cond (t2==0)
  (cond (qG t1) (some (((),(List.length t0:Int)==0),List.replicate (Int.toNat t1) 0)) none)
  ((GY k t2).bind fun r2=>
   (Cy k t0 0 t1 r2).bind fun r3=>
   (cond (!r3.1.2.2) (some true) (some (r3.1.2.1 !=(List.length t0:Int)))).bind fun b4=>
   cond b4 (some (((),false),[])) (G5.l7 k k t2 0 r3.2))
def Hz.d9(k:Nat)(t2:List Int)(t16:Int)(t18:Bool)(AO:Bu)(AX:Bf)(Be:List Int):Option ((Unit×Unit×Int×Bool)×(List Int)×(List Int)):=
 cond (jM AX.2.2.2.2.2.2.2.1 t16 (List.length t2)) (
 (G5 k (kP t2 AX.2.2.2.2.2.2.2.1 t16) AX.2.2.1 AO.2.2.1).bind fun r1=>
 (cond t18 (some (r1.1.2)) (some false)).bind fun b2=>some (((),(),t16,b2),(Be,r1.2))) none
def Hz.d8(k:Nat)(t2:List Int)(t16:Int)(AO:Bu)(AX:Bf):Option ((Unit×Unit×Int×Bool)×(List Int)×(List Int)):=
 cond (jM 0 AX.2.2.2.2.2.2.2.1 (List.length t2)) (
 (G5 k (kP t2 0 AX.2.2.2.2.2.2.2.1) AX.2.2.1 AO.2.1).bind fun r5=>Hz.d9 k t2 t16 r5.1.2 AO AX r5.2) none
def Hz(k:Nat)(t0:Bu)(t1:Bf)(t2:List Int):Option ((Unit×Unit×Int×Bool)×(List Int)×(List Int)):=
 cond (t1.1==0)
  ((GZ k t2 0 t1.2.2.1 t0.2.1).bind fun r7=>
   (GZ k t2 r7.1.2.1 t1.2.2.1 t0.2.2.1).bind fun r8=>
   (cond r7.1.2.2 (some (r8.1.2.2)) (some false)).bind fun b9=>some (((),(),r8.1.2.1,b9),(r7.2,r8.2)))
  ((cond (decide (t1.2.2.2.2.2.2.2.1>(List.length t2:Int)))
   (some true)
   (some (decide (t1.2.2.2.2.2.2.1>(IntKind.wrap .i64 ((List.length t2:Int)-t1.2.2.2.2.2.2.2.1)))))).bind fun b10=>
   cond b10 (some (((),(),0,false),([],[]))) (Hz.d8 k t2 (IntKind.wrap .i64 (t1.2.2.2.2.2.2.2.1+t1.2.2.2.2.2.2.1)) t0 t1))
def Cx.Ni(k:Nat)(Q5:Int→Int→Bu→Bf→(List Int)→(List Int)→(List AV)→(List BL)→Option ((Unit×Int×Int)×(List BL)))(t25:Int)(t26:Int)(AO:Bu)(AX:Bf)(Be:List Int)(Cj:List Int)(Df:List AV)(FP:List BL)(Ka:BL):Option ((Unit×Int×Int)×(List BL)):=
 cond (lim (List.length FP+List.length [Ka])) (Q5 t25 (IntKind.wrap .i64 (t26+1)) AO AX Be Cj Df (FP++[Ka])) none
def Cx.Fu(k:Nat):Nat→Int→Int→Bu→Bf→(List Int)→(List Int)→(List AV)→(List BL)→Option ((Unit×Int×Int)×(List BL))
 |0,_,_,_,_,_,_,_,_=>none
 |n+1,t25,t26,AO,AX,Be,Cj,Df,FP=>
  cond (decide (t26<AX.2.2.1))
   ((gP Be t26).bind fun y1=>
    (gP Cj t26).bind fun y2=>
    cond (y2==AO.2.2.1)
     ((gP Df t25).bind fun y3=>
      Cx.Ni k (Cx.Fu k n) (IntKind.wrap .i64 (t25+1)) t26 AO AX Be Cj Df FP (y1,y2,y3,()))
     (Cx.Ni k (Cx.Fu k n) t25 t26 AO AX Be Cj Df FP (y1,y2,(0,A7,()),())))
   (some (((),IntKind.wrap .i64 (AX.2.2.2.2.2.2.2.2.2.2.2.2.1+AX.2.1),0),FP))
def Cx.c16(k:Nat)(Jc:(List AV)→(List Int)→Int→Int→Int→Int→Bu→(List BL)→Bf→(List Int)→(List Int)→Option ((Unit×Int×Int)×(List BL)))(t3:List AV)(t14:List Int)(t17:Int)(t19:Int)(t20:Int)(t21:Int)(AO:Bu)(AX:List BL)(Be:Bf)(Cj:List Int)(Df:List Int):Option ((Unit×Int×Int)×(List BL)):=
 Jc t3 t14 t17 t19 t20 (IntKind.wrap .i64 (t21+1)) AO AX Be Cj Df
def Cx.c19(k:Nat)(Jc:(List AV)→(List Int)→Int→Int→Int→Int→Bu→(List BL)→Bf→(List Int)→(List Int)→Option ((Unit×Int×Int)×(List BL)))(t3:List AV)(t14:List Int)(t17:Int)(t19:Int)(t20:Int)(t21:Int)(AO:Bu)(AX:List BL)(Be:Bf)(Cj:List Int)(Df:List Int):Option ((Unit×Int×Int)×(List BL)):=
 (gP Df t21).bind fun y4=>
 cond (y4==AO.2.2.1)
  (Cx.c16 k Jc t3 t14 t17 t19 (IntKind.wrap .i64 (t20+1)) t21 AO AX Be Cj Df)
  (Cx.c16 k Jc t3 t14 t17 t19 t20 t21 AO AX Be Cj Df)
def Cx.Ex(k:Nat):Nat→(List AV)→(List Int)→Int→Int→Int→Int→Bu→(List BL)→Bf→(List Int)→(List Int)→Option ((Unit×Int×Int)×(List BL))
 |0,_,_,_,_,_,_,_,_,_,_,_=>none
 |n+1,t3,t14,t17,t19,t20,t21,AO,AX,Be,Cj,Df=>
  cond (decide (t21<Be.2.2.1))
   ((gP Cj t21).bind fun y5=>
    cond (y5==0)
     (Cx.c19 k (Cx.Ex k n) t3 t14 t17 (IntKind.wrap .i64 (t19+1)) t20 t21 AO AX Be Cj Df)
     (Cx.c19 k (Cx.Ex k n) t3 t14 t17 t19 t20 t21 AO AX Be Cj Df))
   ((cond (Be.1==3)
    ((cond (t19 !=Be.2.2.2.2.1) (some true) (some ((IntKind.wrap .i64 (Be.2.2.1-t20)) !=Be.2.2.2.2.2.1))).bind fun b6=>some (b6))
    (some false)).bind fun b7=>
    cond b7
     (some (((),0,4),AX))
     (cond (jM t17 ((List.length t14):Int) (List.length t14)) (
      (MH k Be.2.2.2.1 AO.1 (kP t14 t17 ((List.length t14):Int)) t20 t3).bind fun r8=>
      cond (!r8.1.2) (some (((),0,5),AX)) (Cx.Fu k k 0 0 AO Be Cj Df r8.2 [])) none))
def Cx.d8(k:Nat)(t3:List AV)(t14:List Int)(AO:Bu)(AX:List BL)(Be:Bf):Option ((Unit×Int×Int)×(List BL)):=
 cond Be.2.2.2.2.2.2.2.2.1
  ((Hw k t14).bind fun r9=>
   cond (r9 !=Be.2.2.2.2.2.2.2.2.2.1)
    (some (((),0,3),AX))
    ((Hz k AO Be t14).bind fun BP=>
     (cond (!BP.1.2.2.2)
      (some true)
      ((cond (decide (Be.2.2.1>0)) ((gP BP.2.1 0).bind fun FF=>some (FF !=0)) (some false)).bind fun b12=>some (b12))).bind fun b13=>
     cond b13 (some (((),0,4),AX)) (Cx.Ex k k t3 t14 BP.1.2.2.1 0 0 0 AO AX Be BP.2.1 BP.2.2)))
  (cond false
   (some (((),0,3),AX))
   ((Hz k AO Be t14).bind fun Ct=>
    (cond (!Ct.1.2.2.2)
     (some true)
     ((cond (decide (Be.2.2.1>0)) ((gP Ct.2.1 0).bind fun Gi=>some (Gi !=0)) (some false)).bind fun b16=>some (b16))).bind fun b17=>
    cond b17 (some (((),0,4),AX)) (Cx.Ex k k t3 t14 Ct.1.2.2.1 0 0 0 AO AX Be Ct.2.1 Ct.2.2)))
def Cx(k:Nat)(t0:Bu)(t1:List Int)(t2:Int)(t3:List AV):Option ((Unit×Int×Int)×(List BL)):=
 (Dh k t0 t1 t2).bind fun Hr=>
 cond (Hr.2 !=0)
  (some (((),0,Hr.2),[]))
  (cond (Hr.1.1==2)
   (some (((),0,1),[]))
   (cond (jM Hr.1.2.2.2.2.2.2.2.2.2.2.2.2.1 (IntKind.wrap .i64 (Hr.1.2.2.2.2.2.2.2.2.2.2.2.2.1+Hr.1.2.1)) (List.length t1)) (
    Cx.d8 k t3 (kP t1 Hr.1.2.2.2.2.2.2.2.2.2.2.2.2.1 (IntKind.wrap .i64 (Hr.1.2.2.2.2.2.2.2.2.2.2.2.2.1+Hr.1.2.1))) t0 [] Hr.1) none))
def IV.d8(k:Nat)(t0:Int)(t12:List Int)(AO:List AV)(AX:Bf):Option ((Unit×Int×Int)×(List AV)):=
 cond AX.2.2.2.2.2.2.2.2.1
  ((Hw k t12).bind fun r1=>
   cond (r1 !=AX.2.2.2.2.2.2.2.2.2.1)
    (some (((),0,3),AO))
    ((Ef k t0 t12 0 AX.2.2.1).bind fun r2=>
     (cond (!r2.1.2.2) (some true) (some (r2.1.2.1 !=(List.length t12:Int)))).bind fun b3=>
     cond b3 (some (((),0,5),AO)) (some (((),IntKind.wrap .i64 (AX.2.2.2.2.2.2.2.2.2.2.2.2.1+AX.2.1),0),r2.2))))
  (cond false
   (some (((),0,3),AO))
   ((Ef k t0 t12 0 AX.2.2.1).bind fun r4=>
    (cond (!r4.1.2.2) (some true) (some (r4.1.2.1 !=(List.length t12:Int)))).bind fun b5=>
    cond b5 (some (((),0,5),AO)) (some (((),IntKind.wrap .i64 (AX.2.2.2.2.2.2.2.2.2.2.2.2.1+AX.2.1),0),r4.2))))
def IV(k:Nat)(t0:Int)(t1:List Int)(t2:Int):Option ((Unit×Int×Int)×(List AV)):=
 (Dh k (t0,0,0,()) t1 t2).bind fun r16=>
 cond (r16.2 !=0)
  (some (((),0,r16.2),[]))
  ((cond (r16.1.1 !=2) (some true) ((cond (r16.1.2.2.2.1 !=0) (some (r16.1.2.2.2.1 !=2)) (some false)).bind fun b17=>some (b17))).bind fun b18=>
   cond b18
    (some (((),0,1),[]))
    (cond (jM r16.1.2.2.2.2.2.2.2.2.2.2.2.2.1 (IntKind.wrap .i64 (r16.1.2.2.2.2.2.2.2.2.2.2.2.2.1+r16.1.2.1)) (List.length t1)) (
     IV.d8 k t0 (kP t1 r16.1.2.2.2.2.2.2.2.2.2.2.2.2.1 (IntKind.wrap .i64 (r16.1.2.2.2.2.2.2.2.2.2.2.2.2.1+r16.1.2.1))) [] r16.1) none))
def Gw.c4(k:Nat)(L3:(List BL)→Int→Int→Option Int)(t0:List BL)(t3:Int)(t4:Int):Option Int:=
 L3 t0 t3 (IntKind.wrap .i64 (t4+1))
def Gw.l3(k:Nat):Nat→(List BL)→Int→Int→Option Int
 |0,_,_,_=>none
 |n+1,t0,t3,t4=>
  cond (decide (t4<(List.length t0:Int)))
   ((gP t0 t4).bind fun y1=>
    cond (y1.1==0) (Gw.c4 k (Gw.l3 k n) t0 (IntKind.wrap .i64 (t3+1)) t4) (Gw.c4 k (Gw.l3 k n) t0 t3 t4))
   (some t3)
def Gw(k:Nat)(t0:List BL):Option Int:=
 Gw.l3 k k t0 0 0
end Go.Fn
namespace Go.Bd
open Go.Am
theorem AY{x:Int}(h0: -9223372036854775808≤x)(h1:x<9223372036854775808):IntKind.wrap .i64 x=x:=by
 rw[IntKind.wrap_i64];omega
theorem I7(x:Int): -9223372036854775808≤IntKind.wrap .i64 x:=by rw[IntKind.wrap_i64];omega
theorem I6(x:Int):IntKind.wrap .i64 x<9223372036854775808:=by rw[IntKind.wrap_i64];omega
theorem G7(x:Int):IntKind.wrap .u64 x=x%18446744073709551616:=by simp[IntKind.wrap,IntKind.bits,IntKind.signed]
theorem Oq(x:Int):IntKind.wrap .u8 x=x%256:=IntKind.wrap_u8 x
theorem w8{x:Int}(h0:0≤x)(h1:x<256):IntKind.wrap .u8 x=x:=by rw[Oq];omega
theorem wraps_u64(n:Int)(h₀:0≤n)(h₁:n<2^64):IntKind.u64.wrap n=n:=by rw[G7];omega
def Bt(x:Int):Prop:= -9223372036854775808≤x∧x<9223372036854775808
theorem JF(x:Int)(i:Nat)(hi:i≤62):bits .and .i64 x (2^i-1)=x%2^i:=by
 have hpos:0<2^i:=Nat.two_pow_pos i;have hle:2^i≤2^62:=Nat.pow_le_pow_right (by decide) hi;have hc:((2:Int)^i-1)=((2^i-1:Nat):Int):=by
  rw[Int.natCast_sub hpos];simp
 have hb:(2^i-1)%2^IntKind.i64.bits=2^i-1:=Nat.mod_eq_of_lt (show 2^i-1<2^64 by omega);rw[hc];simp only[bits,BitVec.ofInt_natCast,BitVec.toNat_and,BitVec.toNat_ofNat,hb,Nat.and_two_pow_sub_one_eq_mod,BitVec.toNat_ofInt];show IntKind.wrap .i64 (((x%((2^64:Nat):Int)).toNat%2^i:Nat):Int)=_;have h1:(x%((2^64:Nat):Int)).toNat%2^i<2^i:=Nat.mod_lt _ hpos;have h2:(((x%((2^64:Nat):Int)).toNat%2^i:Nat):Int)=x%2^i:=by
  have h3:0≤x%((2^64:Nat):Int):=Int.emod_nonneg _ (by decide);rw[Int.natCast_emod,Int.toNat_of_nonneg h3];have hd:((2^i:Nat):Int)∣((2^64:Nat):Int):=by
   have:=Nat.pow_dvd_pow 2 (show i≤64 by omega)
   exact_mod_cast this
  rw[Int.emod_emod_of_dvd x hd];simp
 rw[h2];have h4:x%2^i<2^i:=Int.emod_lt_of_pos _ (by exact_mod_cast hpos);have h5':(0:Int)<2^i:=by exact_mod_cast hpos
 have h5:0≤x%2^i:=Int.emod_nonneg _ (by omega);have h6:(2:Int)^i≤2^62:=by exact_mod_cast hle
 rw[AY (by omega) (by omega)]
theorem KC(x:Int):bits .and .i64 x 255=x%256:=JF x 8 (by decide)
theorem and1(x:Int):bits .and .i64 x 1=x%2:=JF x 1 (by decide)
theorem acO{x:Int}(h0:0≤x)(h1:x<18446744073709551616):bits .and .u64 x 127=x%128:=
 bits_mask .u64 64 (by decide) wraps_u64 7 (by decide) x h0 h1
theorem u8_and127{x:Int}(h0:0≤x)(h1:x<256):bits .and .u8 x 127=x%128:=
 bits_mask .u8 8 (by decide) wraps_u8 7 (by decide) x h0 h1
theorem OM(k:IntKind)(a b:Int):bits .or k a b=bits .or k b a:=by
 simp only[bits,BitVec.toNat_or];rw[Nat.or_comm]
theorem acP{x:Int}(h0:0≤x)(h1:x<128):bits .or .u64 x 128=x+128:=by
 rw[OM,bits_join .u64 64 (by decide) wraps_u64 7 128 x (by decide) (by decide) (by decide) h0 (by simpa using h1) (by omega)];omega
theorem Oe{a b:Int}{i:Nat}(ha0:0≤a)(ha:a<2^i)(hb0:0≤b)(hb:b*2^i<2^64)(hi:i≤64):bits .or .u64 a (b*2^i)=a+b*2^i:=by
 have hp:(2:Int)^i≤2^64:=by
  have:=Nat.pow_le_pow_right (n:=2) (by decide) hi
  exact_mod_cast this
 have hp0:(0:Int)<2^i:=by have:=Nat.two_pow_pos i;exact_mod_cast this
 rw[OM,bits_join .u64 64 (by decide) wraps_u64 i (b*2^i) a (Int.mul_nonneg hb0 (by omega)) (Int.mul_emod_left _ _) hb ha0 ha (by omega)];omega
theorem FT(k:IntKind)(a:Int)(n:Nat)(h:n≤k.bits):qW k a (n:Int)=a/2^n:=by
 unfold qW;rw[Int.toNat_natCast,Nat.min_eq_left h,Int.fdiv_eq_ediv_of_nonneg];have:=Nat.two_pow_pos n;have:(0:Int)<2^n:=by exact_mod_cast this
 omega
theorem ab5(a:Int):qW .u64 a 7=a/128:=FT .u64 a 7 (by decide)
theorem Qq(a:Int):qW .u64 a 1=a/2:=FT .u64 a 1 (by decide)
theorem ab4(a:Int):qW .i64 a 63=a/9223372036854775808:=FT .i64 a 63 (by decide)
theorem Bz{n:Nat}(h:n≤4294967296):lim n=true:=by unfold lim;exact Nat.ble_eq_true_of_le h
theorem Kb{n:Int}(h0:0≤n)(h:n≤4294967296):qG n=true:=by simp[qG,h0,h]
theorem EF{l h:Int}{n:Nat}(h0:0≤l)(h1:l≤h)(h2:h≤n):jM l h n=true:=by simp[jM,h0,h1,h2]
theorem A9{a b:Int}(h:¬a=b):(a==b)=false:=by simpa using h
theorem BQ{a b:Int}(h:¬a=b):(a !=b)=true:=by simpa using h
theorem Bl{a b:Int}(h:a=b):(a==b)=true:=by simpa using h
theorem Bw{a b:Int}(h:a=b):(a !=b)=false:=by simpa using h
theorem BV(b c:Bool):(cond b (some c) (some false):Option Bool)=some (b&&c):=by cases b<;>rfl
theorem cst(b c:Bool):(cond b (some true) (some c):Option Bool)=some (b||c):=by cases b<;>rfl
theorem RD(b c d:Bool):(cond b (some c) (some d):Option Bool)=some (cond b c d):=by cases b<;>rfl
theorem Cg{α:Type}(xs:List α)(n:Nat):gP xs (n:Int)=xs[n]?:=rfl
theorem FQ{α:Type}{xs:List α}{i:Int}(h0:0≤i)(h1:i<xs.length):∃x,gP xs i=some x∧xs[i.toNat]?=some x:=by
 obtain⟨n,rfl⟩:=Int.eq_ofNat_of_zero_le h0;have h:n<xs.length:=by omega
 exact⟨xs[n],by rw[Cg,Jv h],by simp[h]⟩
theorem Jw{α:Type}(xs:List α):gP xs 0=xs[0]?:=rfl
theorem KL{α:Type}{b:List α}{p:Nat}{y:α}{r:List α}(h:b.drop p=y::r):b[p]?=some y∧p<b.length∧b.drop (p+1)=r:=by
 have h1:=List.getElem?_drop (xs:=b) (i:=p) (j:=0);rw[h] at h1;have hl:=congrArg List.length h;simp at hl;refine⟨by simpa using h1.symm,by omega,?_⟩;rw[←List.drop_drop,h];rfl
theorem KJ{α:Type}{b x r:List α}{p:Nat}(h:b.drop p=x++r):b.drop (p+x.length)=r∧p+x.length≤max p b.length:=by
 rw[←List.drop_drop,h];have hl:=congrArg List.length h;simp at hl;exact⟨by simp,by omega⟩
theorem F6(a b:ByteArray):ig a b=decide (a=b):=by
 unfold ig;have h:a.toList=b.toList↔a=b:=by
  constructor
  ·intro h
   rw[ByteArray.toList_eq,ByteArray.toList_eq] at h;cases a;cases b;simp only[ByteArray.mk.injEq];exact Array.ext' h
  ·rintro rfl;rfl
 by_cases e:a=b
 ·simp[e]
 ·simp only[e,decide_false]
  have:a.toList≠b.toList:=fun h'=>e (h.1 h');simp[this]
theorem PN(s:ByteArray):yM (fH s)=s:=by
 unfold yM fH strOfNums;cases s with
 |mk d=>
  simp only[List.map_map]
  congr 1
  have:((fun n:Int=>UInt8.ofNat n.toNat)∘fun c:UInt8=>(c.toNat:Int))=id:=by
   funext c;simp
  rw[this];simp
theorem vR(s:ByteArray):(fH s).length=s.size:=by
 unfold fH;rw[List.length_map,Array.length_toList];rfl
theorem NZ(s:ByteArray)(x:Int)(h:x∈fH s):0≤x∧x<256:=by
 unfold fH at h;obtain⟨c,_,hc⟩:=List.mem_map.1 h;have:=c.toNat_lt;omega
theorem II(xs:List Int):(yM xs).size=xs.length:=strOfNums_size xs
end Go.Bd
end
section
namespace Go.Bd
open Go.Am Go.Fn
theorem CB(k:Nat)(a b c:Int):Cq k a b c=some (decide (b≤a)&&decide (a≤c)):=by
 unfold Cq;simp only[BV,AQ,ge_iff_le]
theorem Dc(k:Nat)(a b c:Int):CJ k a b c=some (decide (b≤a)&&decide (a≤c)):=by
 unfold CJ;simp only[BV,AQ,ge_iff_le]
theorem Ej{α:Type}(pre post:List α)(x:α):gP (pre++x::post) (pre.length:Int)=some x:=by
 rw[Cg,List.getElem?_append_right (Nat.le_refl _)];simp
theorem abZ{α:Type}(pre post:List α)(x y:α):List.set (pre++x::post) (Int.toNat (pre.length:Int)) y=pre++y::post:=by
 rw[Int.toNat_natCast,List.set_append_right _ _ (Nat.le_refl _)];simp
end Go.Bd
end
section
namespace Go.Bd
open Go.Am Go.Fn
variable(k:Nat)
def Di(t:Int):Bool:=t==0||t==1||t==2||t==5||t==6
theorem K5(t:Int):Fg k t=some (Di t):=by
 unfold Fg Fg.c7 Di;by_cases h0:t=0
 ·subst h0;simp
 by_cases h1:t=1
 ·subst h1;simp
 by_cases h2:t=2
 ·subst h2;simp
 by_cases h5:t=5
 ·subst h5;simp
 by_cases h6:t=6
 ·subst h6;simp
 simp[A9 h0,A9 h1,A9 h2,A9 h5,A9 h6,h0,h1,h2,h5,h6]
theorem Lt(t:Int):Iy k t=some (Di t):=by
 unfold Iy Di;simp only[CB,AQ,cst]
 congr 1
 by_cases h:0≤t∧t≤2
 ·rw[AZ h.1,AZ h.2]
  rcases(show t=0∨t=1∨t=2 by omega) with rfl|rfl|rfl<;>rfl
 ·have:(decide (0≤t)&&decide (t≤2))=false:=by
   rw[Bool.eq_false_iff];intro hh;simp only[BZ,Ce] at hh;exact h hh
  rw[this,A9 (show ¬t=0 by omega),A9 (show ¬t=1 by omega),A9 (show ¬t=2 by omega)];rfl
end Go.Bd
end
section
namespace Go.Bd
open Go.Am Go.Fn
def Re(c:UInt8):Bool:=decide (97≤c.toNat)&&decide (c.toNat≤122)
def az(s:ByteArray):Bool:=s.data.toList.all Re
def aa1(s:ByteArray):Bool:=(decide (1≤(s.size:Int))&&decide ((s.size:Int)≤20))&&az s
variable(k:Nat)
def Rx(c:BB):Bool:=((c.2.1==7&&decide (c.2.2.2.1>0))||(Di c.2.1&&c.2.2.2.1==0))&&(decide (0≤c.2.2.1)&&decide (c.2.2.1≤2))
def OD(S:Nat→Nat→Prop)(s:List BB):Nat→Nat→List ByteArray→Nat→Prop
 |0,pos,_,nx=>pos=nx
 |c+1,pos,names,nx=>∃p mid,s[pos]?=some p∧p.1∉names∧S pos mid∧OD S s c mid (names++[p.1]) nx
def OG(s:List BB):Nat→Nat→Nat→Prop
 |0,_,_=>False
 |d+1,at_,nx=>∃c,s[at_]?=some c∧Rx c=true∧(0<at_→aa1 c.1=true)∧OD (OG s d) s c.2.2.2.1.toNat (at_+1) [] nx
def M9(s:List BB):Prop:=2≤s.length∧s.length≤20∧OG s 6 0 s.length∧∃c,s[0]?=some c∧c.1=⟨#[]⟩∧c.2.2.1=0∧c.2.1=7
end Go.Bd
end
section
namespace Go.Bd
open Go.Am Go.Fn
def D7(t:Int):Bool:=t==5||t==6||t==8||t==9||t==12
def isKind(t:Int):Bool:=t==1||t==2||D7 t
theorem J7(k:Nat)(t:Int)(b:Bool):Eo k t b=some (D7 t||((t==1||t==2)&& !b)):=by
 unfold Eo Eo.c4 Eo.c10 D7;by_cases h1:t=1
 ·subst h1;simp
 by_cases h2:t=2
 ·subst h2;simp
 by_cases h5:t=5
 ·subst h5;simp
 by_cases h6:t=6
 ·subst h6;simp
 by_cases h8:t=8
 ·subst h8;simp
 by_cases h9:t=9
 ·subst h9;simp
 by_cases h12:t=12
 ·subst h12;simp
 simp[A9 h1,A9 h2,A9 h5,A9 h6,A9 h8,A9 h9,A9 h12,h1,h2,h5,h6,h8,h9,h12]
theorem PS(k:Nat)(t:Int):FB k t=some (isKind t):=by
 unfold FB FB.c9 isKind D7;by_cases h1:t=1
 ·subst h1;simp
 by_cases h2:t=2
 ·subst h2;simp
 by_cases h5:t=5
 ·subst h5;simp
 by_cases h6:t=6
 ·subst h6;simp
 by_cases h8:t=8
 ·subst h8;simp
 by_cases h9:t=9
 ·subst h9;simp
 by_cases h12:t=12
 ·subst h12;simp
 simp[A9 h1,A9 h2,A9 h5,A9 h6,A9 h8,A9 h9,A9 h12,h1,h2,h5,h6,h8,h9,h12]
theorem PR(k:Nat)(t:Int):Lm k t=some (D7 t):=by
 unfold Lm;rw[PS];simp only[AQ,BV]
 congr 1
 unfold isKind;by_cases h1:t=1
 ·subst h1;rfl
 by_cases h2:t=2
 ·subst h2;rfl
 simp[A9 h1,A9 h2,BQ h1,BQ h2]
def Cr(n:AR):Bool:=
 if n.1=5 then(decide (-2147483648≤n.2.2.1)&&decide (n.2.2.1≤2147483647))&&ig n.2.2.2.1 ⟨#[]⟩&&n.2.2.2.2.1==0
 else if n.1=6 then ig n.2.2.2.1 ⟨#[]⟩&&n.2.2.2.2.1==0
 else if n.1=8 then n.2.2.1==0&&decide ((n.2.2.2.1.size:Int)≤300)&&n.2.2.2.2.1==0
 else if n.1=9 then ig n.2.2.2.1 ⟨#[]⟩&&decide (n.2.2.2.2.1≥0)&&((n.2.2.2.2.1==0&&n.2.2.1==0)||(decide (n.2.2.2.2.1>0)&&D7 n.2.2.1))
 else if n.1=12 then n.2.2.1==0&&ig n.2.2.2.1 ⟨#[]⟩&&decide (n.2.2.2.2.1≥0)
 else(n.1==1||n.1==2)&&n.2.2.1==0&&ig n.2.2.2.1 ⟨#[]⟩&&n.2.2.2.2.1==0
theorem aa4(k:Nat)(n:AR):Mq k n=some (Cr n):=by
 unfold Mq GR Cr;simp only[CB,J7,AQ,BV,cst];by_cases h5:n.1=5
 ·simp[h5]
 by_cases h6:n.1=6
 ·simp[h6]
 by_cases h8:n.1=8
 ·simp[h8]
 by_cases h9:n.1=9
 ·simp[h9]
 by_cases h12:n.1=12
 ·simp[h12]
 simp[A9 h5,A9 h6,A9 h8,A9 h9,A9 h12,h5,h6,h8,h9,h12,D7]
theorem Qj(k:Nat)(n:AR):Il k n=some (Cr n):=by
 unfold Il Il.c4 Jy Cr;simp only[Dc,PR,AQ,BV,cst];by_cases h1:n.1=1
 ·simp[h1]
 by_cases h2:n.1=2
 ·simp[h2]
 by_cases h5:n.1=5
 ·simp[h5]
 by_cases h6:n.1=6
 ·simp[h6]
 by_cases h8:n.1=8
 ·simp[h8]
 by_cases h9:n.1=9
 ·simp[h9]
 by_cases h12:n.1=12
 ·simp[h12]
 simp[A9 h1,A9 h2,A9 h5,A9 h6,A9 h8,A9 h9,A9 h12,h1,h2,h5,h6,h8,h9,h12]
def EX(S:Nat→Nat→Prop)(l:List AR)(n:AR):Nat→Nat→Int→Nat→Prop
 |0,pos,_,nx=>pos=nx
 |c+1,pos,last,nx=>∃p mid,l[pos]?=some p∧(n.1=9→p.1=n.2.2.1∧p.2.1=0)∧(n.1=12→last+1≤p.2.1∧p.2.1≤1000)∧S pos mid∧EX S l n c mid p.2.1 nx
def Sub(l:List AR)(af:List Int):Nat→Nat→Nat→Prop
 |0,_,_=>False
 |d+1,at_,nx=>∃n,l[at_]?=some n∧Cr n=true∧EX (Sub l af d) l n n.2.2.2.2.1.toNat (at_+1) 0 nx∧af[at_]?=some (nx:Int)
theorem GC{S S':Nat→Nat→Prop}{l:List AR}{n:AR}(hS:∀a b,S a b→a<b):∀(c pos:Nat) (last:Int) (nx:Nat),(∀a b,pos≤a→b≤nx→S a b→S' a b)→EX S l n c pos last nx→EX S' l n c pos last nx∧pos≤nx
 |0,pos,last,nx,h,e=>⟨e,by have e:pos=nx:=e;omega⟩
 |c+1,pos,last,nx,h,⟨p,mid,h1,h2,h3,h4,h5⟩=>by
  have hlt:=hS _ _ h4;obtain⟨k1,k2⟩:=GC hS c mid p.2.1 nx (fun a b ha hb=>h a b (by omega) hb) h5;exact⟨⟨p,mid,h1,h2,h3,h _ _ (Nat.le_refl _) k2 h4,k1⟩,by omega⟩
theorem Dv{l:List AR}{af:List Int}:∀(d a b:Nat),Sub l af d a b→a<b
 |0,_,_,h=>h.elim
 |d+1,a,b,⟨n,h1,h2,h3,h4⟩=>by
  have:=(GC (S':=fun _ _=>True) (Dv d) _ _ _ _ (fun _ _ _ _ _=>trivial) h3).2;omega
theorem OI{l:List AR}{af DW:List Int}:∀(d a b:Nat),(∀i,a≤i→i<b→DW[i]?=af[i]?)→Sub l af d a b→Sub l DW d a b
 |0,_,_,_,h=>h.elim
 |d+1,a,b,hf,⟨n,h1,h2,h3,h4⟩=>by
  have hlt:=Dv (d+1) a b ⟨n,h1,h2,h3,h4⟩;refine⟨n,h1,h2,(GC (Dv d) _ _ _ _ (fun x y hx hy hs=> ?_) h3).1,by rw[hf a (Nat.le_refl _) hlt];exact h4⟩;exact OI d x y (fun i hi1 hi2=>hf i (by omega) (by omega)) hs
def DD(n:AR):Prop:=Bt n.1∧Bt n.2.1∧Bt n.2.2.1∧Bt n.2.2.2.2.1∧n.2.2.2.1.size≤1073741824
theorem Rw(k:Nat)(l:List AR)(hl:l.length≤1500)(d D deep:Nat)(Mc:deep≤12)
 (ih:∀(at_:Nat) (af:List Int),af.length=l.length→
  ∃v DW,CV.rec k D l (at_:Int) ((deep+1:Nat):Int)=some v∧Dx.rec k D (at_:Int) ((deep+1:Nat):Int) (true,(l,(),())) af=some (v,((l,(),()),DW))∧DW.length=l.length∧
   (v= -1∨∃nx:Nat,v=nx∧Sub l DW d at_ nx∧nx≤l.length∧∀i,(i<at_∨nx≤i)→DW[i]?=af[i]?))
 (at_:Nat) (hat:at_<l.length) (n:AR) (M:Int) (hM:n.2.2.2.2.1=M) (hM1:M<9223372036854775808):∀(f pos:Nat) (last i:Int) (af:List Int),l.length-pos<f→at_<pos→0≤i→i≤M→pos≤l.length→
  (n.1=12→0≤last∧last≤1000)→af.length=l.length→
  ∃v DW,CV.l7 k (CV.rec k D) f l (deep:Int) (pos:Int) last i n=some v∧Dx.l7 k (Dx.rec k D) f (at_:Int) (deep:Int) (pos:Int) last M i (l,(),()) af n=some (v,((l,(),()),DW))∧DW.length=l.length∧
   (v= -1∨∃nx:Nat,v=nx∧EX (Sub l DW d) l n (M-i).toNat pos last nx∧nx≤l.length∧DW[at_]?=some (nx:Int)∧∀j,(j<pos∨nx≤j)→j≠at_→DW[j]?=af[j]?):=by
 intro f
 induction f with
 |zero=>intro pos last i af h;omega
 |succ f H9=>
  intro pos last i af hf hpos hi0 hiM hpl hlast DX;simp only[CV.l7,Dx.l7,hM];by_cases hlt:i<M
  ·simp only[AZ hlt,AP]
   by_cases hpe:(pos:Int)≥(l.length:Int)
   ·simp only[AZ hpe,AP]
    exact⟨_,_,rfl,rfl,DX,.inl rfl⟩
   ·simp only[A8 hpe,AU]
    obtain⟨p,hp1,hp2⟩:=FQ (xs:=l) (i:=(pos:Int)) (by omega) (by omega);simp only[hp1,AQ,BV,cst,CB];have hp2:l[pos]?=some p:=by simpa using hp2
    by_cases hc1:n.1=9∧(p.1≠n.2.2.1∨p.2.1≠0)
    ·have e1:(n.1==9&&(p.1 !=n.2.2.1||p.2.1 !=0))=true:=by
      simp only[BZ,Bool.or_eq_true,beq_iff_eq,bne_iff_ne];exact hc1
     simp only[e1,BR,AP];exact⟨_,_,rfl,rfl,DX,.inl rfl⟩
    ·have e1:(n.1==9&&(p.1 !=n.2.2.1||p.2.1 !=0))=false:=by
      rw[Bool.eq_false_iff];intro h;simp only[BZ,Bool.or_eq_true,beq_iff_eq,bne_iff_ne] at h;exact hc1 h
     simp only[e1,Cm,AU];by_cases hc2:n.1=12∧¬(last+1≤p.2.1∧p.2.1≤1000)
     ·have hw:IntKind.wrap .i64 (last+1)=last+1:=by
       have:=hlast hc2.1;exact AY (by omega) (by omega)
      have e2:(n.1==12&&(decide (p.2.1≤last)||decide (p.2.1>1000)))=true:=by
       simp only[BZ,Bool.or_eq_true,beq_iff_eq,Ce];exact⟨hc2.1,by have:=hc2.2;omega⟩
      have e3:(cond (n.1==12) (some (!(decide (last+1≤p.2.1)&&decide (p.2.1≤1000)))) (some false):Option Bool)=some true:=by
       rw[Bl hc2.1,AP]
       congr 1
       have:=hc2.2;simp only[Bool.not_eq_true',Bool.and_eq_false_iff,decide_eq_false_iff_not];omega
      rw[hw];simp only[e2,e3,AQ,AP];rw[BV] at e3;simp only[Dt] at e3;simp only[e3,AP];exact⟨_,_,rfl,rfl,DX,.inl rfl⟩
     ·have e2:(n.1==12&&(decide (p.2.1≤last)||decide (p.2.1>1000)))=false:=by
       rw[Bool.eq_false_iff];intro h;simp only[BZ,Bool.or_eq_true,beq_iff_eq,Ce] at h;exact hc2 ⟨h.1,by omega⟩
      have e3:(n.1==12&& !(decide (IntKind.wrap .i64 (last+1)≤p.2.1)&&decide (p.2.1≤1000)))=false:=by
       rw[Bool.eq_false_iff];intro h;simp only[BZ,beq_iff_eq,Bool.not_eq_true',Bool.and_eq_false_iff,decide_eq_false_iff_not] at h;have hl:=hlast h.1;rw[AY (by omega) (by omega)] at h;exact hc2 ⟨h.1,by omega⟩
      simp only[e2,e3,AU];have hd1:IntKind.wrap .i64 ((deep:Int)+1)=((deep+1:Nat):Int):=by rw[AY (by omega) (by omega)];omega
      rw[hd1];obtain⟨v,Ra,s1,s2,s3,s4⟩:=ih pos af DX;simp only[s1,s2,AQ];rcases s4 with rfl|⟨mid,rfl,s5,s6,s7⟩
      ·simp only[show decide ((-1:Int)<0)=true from rfl,AP]
       exact⟨_,_,rfl,rfl,s3,.inl rfl⟩
      ·have hml:=Dv _ _ _ s5
       have hm0:decide ((mid:Int)<0)=false:=A8 (by omega);have hi1:IntKind.wrap .i64 (i+1)=i+1:=AY (by omega) (by omega);simp only[hm0,AU,hi1]
       obtain⟨w,Rb,t1,t2,t3,t4⟩:=H9 mid p.2.1 (i+1) Ra (by omega) (by omega) (by omega) (by omega) s6 (fun h12=>by
        have h:=fun hh=>hc2 ⟨h12,hh⟩;have hl:=hlast h12;omega) s3
       refine⟨w,Rb,t1,t2,t3,?_⟩;rcases t4 with h|⟨nx,h1,h2,h3,h4,h5⟩
       ·exact .inl h
       ·have hmn:=(GC (S':=fun _ _=>True) (Dv d) _ _ _ _ (fun _ _ _ _ _=>trivial) h2).2
        refine .inr ⟨nx,h1,?_,h3,h4,fun j hj hja=> ?_⟩
        ·rw[show(M-i).toNat=(M-(i+1)).toNat+1 by omega]
         refine⟨p,mid,hp2,fun h9=> ?_,fun h12=> ?_,OI d pos mid (fun j hj1 hj2=>h5 j (.inl hj2) (by omega)) s5,h2⟩
         ·constructor
          ·exact Classical.byContradiction fun hh=>hc1 ⟨h9,.inl hh⟩
          ·exact Classical.byContradiction fun hh=>hc1 ⟨h9,.inr hh⟩
         ·exact Classical.byContradiction fun hh=>hc2 ⟨h12,hh⟩
        ·rw[h5 j (by omega) hja,s7 j (by omega)]
  ·simp only[A8 hlt,AU]
   obtain⟨y,hy1,hy2⟩:=FQ (xs:=af) (i:=(at_:Int)) (by omega) (by omega);simp only[hy1,AQ];refine⟨_,_,rfl,rfl,by simpa using DX,.inr ⟨pos,rfl,?_,hpl,?_,fun j _ hj=> ?_⟩⟩
   ·rw[show(M-i).toNat=0 by omega]
    rfl
   ·simp[List.getElem?_set,DX,hat]
   ·simp[List.getElem?_set]
    intro h;omega
theorem check(k:Nat)(hk:2000≤k)(l:List AR)(hl:l.length≤1500)(hw:∀n,n∈l→DD n):∀(d D deep at_:Nat) (af:List Int),d+deep=13→d<D→af.length=l.length→
 ∃v DW,CV.rec k D l (at_:Int) (deep:Int)=some v∧Dx.rec k D (at_:Int) (deep:Int) (true,(l,(),())) af=some (v,((l,(),()),DW))∧DW.length=l.length∧
  (v= -1∨∃nx:Nat,v=nx∧Sub l DW d at_ nx∧nx≤l.length∧∀i,(i<at_∨nx≤i)→DW[i]?=af[i]?):=by
 intro d
 induction d with
 |zero=>
  intro D deep at_ af hd hD DX;obtain⟨D,rfl⟩:∃m,D=m+1:=⟨D-1,by omega⟩;obtain rfl:deep=13:=by omega
  simp only[CV.rec,Dx.rec,CV.b,Dx.b,cst,AQ,show decide (((13:Nat):Int)>12)=true from rfl,Bool.or_true,AP];exact⟨_,_,rfl,rfl,DX,.inl rfl⟩
 |succ d ih=>
  intro D deep at_ af hd hD DX;obtain⟨D,rfl⟩:∃m,D=m+1:=⟨D-1,by omega⟩;simp only[CV.rec,Dx.rec,CV.b,Dx.b,cst,AQ,AP];by_cases hat:(at_:Int)≥(l.length:Int)
  ·simp only[AZ hat,BR,AP,AQ]
   exact⟨_,_,rfl,rfl,DX,.inl rfl⟩
  ·obtain⟨n,hn1,hn2⟩:=FQ (xs:=l) (i:=(at_:Int)) (by omega) (by omega)
   have hn2:l[at_]?=some n:=by simpa using hn2
   have hdd:decide ((deep:Int)>12)=false:=A8 (by omega);simp only[A8 hat,hdd,Cm,AU,hn1,AQ,Qj,aa4];cases hok:Cr n with
   |false=>
    simp only[Bv,AP];exact⟨_,_,rfl,rfl,DX,.inl rfl⟩
   |true=>
    simp only[Bb,AU];have hwn:=hw n (List.mem_of_getElem? hn2);have hM0:0≤n.2.2.2.2.1:=by
     unfold Cr at hok
     repeat' split at hok
     all_goals simp only[BZ,beq_iff_eq,Ce,Bool.or_eq_true] at hok
     all_goals omega
    have ha1:IntKind.wrap .i64 ((at_:Int)+1)=((at_+1:Nat):Int):=by rw[AY (by omega) (by omega)];omega
    rw[ha1];obtain⟨v,DW,t1,t2,t3,t4⟩:=Rw k l hl d D deep (by omega) (fun a af DX=>ih D (deep+1) a af (by omega) (by omega) DX) at_ (by omega) n n.2.2.2.2.1 rfl hwn.2.2.2.1.2 k (at_+1) 0 0 af (by omega) (by omega) (by omega) hM0 (by omega) (fun _=>by omega) DX;refine⟨v,DW,t1,t2,t3,?_⟩;rcases t4 with h|⟨nx,h1,h2,h3,h4,h5⟩
    ·exact .inl h
    ·refine .inr ⟨nx,h1,⟨n,hn2,hok,by simpa using h2,h4⟩,h3,fun i hi=> ?_⟩
     have:=(GC (S':=fun _ _=>True) (Dv d) _ _ _ _ (fun _ _ _ _ _=>trivial) h2).2;exact h5 i (by omega) (by omega)
end Go.Bd
end
section
namespace Go.Bd
open Go.Am Go.Fn
variable(k:Nat)
theorem MQ(hk:2000≤k)(l:List AR)(hw:∀n,n∈l→DD n)(hlen:l.length<4294967296):
 ∃b:Bool,IX k l=some b∧((b=false∧∃x,Jq k l=some (((),false),x))∨
  (b=true∧l.length≤1500∧1≤l.length∧∃af,Jq k l=some (((),true),((true,(l,(),())),af))∧Sub l af 12 0 l.length∧∃n,l[0]?=some n∧n.1=12∧n.2.1=0)):=by
 unfold IX Jq;simp only[CB,Dc,AQ];by_cases hin:1≤l.length∧l.length≤1500
 ·have c1:(decide ((1:Int)≤(l.length:Int))&&decide ((l.length:Int)≤1500))=true:=by simp;omega
  obtain⟨n,hn1,hn2⟩:=FQ (xs:=l) (i:=0) (by omega) (by omega);have hn2:l[0]?=some n:=hn2;simp only[c1,Bb,AU,hn1,AQ,Kb (show(0:Int)≤(l.length:Int) by omega) (by omega),AP,cst,Int.toNat_natCast];by_cases hr:n.1=12∧n.2.1=0
  ·have c2:(n.1 !=12||n.2.1 !=0)=false:=by simp[hr.1,hr.2]
   simp only[Bw hr.1,Bw hr.2,AU,AQ,Cu];obtain⟨v,DW,s1,s2,s3,s4⟩:=check k hk l hin.2 hw 12 k 1 0 (List.replicate l.length 0) (by omega) (by omega) (by simp);have s1:CV k l 0 1=some v:=s1;have s2:Dx k 0 1 (true,(l,(),())) (List.replicate l.length 0)=some (v,((l,(),()),DW)):=s2;simp only[s1,s2,AQ];by_cases hv:v=(l.length:Int)
   ·refine⟨true,by rw[Bl hv],.inr ⟨rfl,hin.2,hin.1,DW,by simp only[Bw hv,AU],?_,n,hn2,hr⟩⟩
    rcases s4 with h|⟨nx,h1,h2,_⟩
    ·omega
    ·have:nx=l.length:=by omega
     rw[←this];exact h2
   ·exact⟨false,by rw[A9 hv],.inl ⟨rfl,((false,([],(),())),[]),by simp only[BQ hv,AP]⟩⟩
  ·have c2:(n.1 !=12||n.2.1 !=0)=true:=by
    simp only[Bool.or_eq_true,bne_iff_ne];exact Classical.byContradiction fun hh=>hr ⟨Classical.byContradiction fun h=>hh (.inl h),Classical.byContradiction fun h=>hh (.inr h)⟩
   refine⟨false,?_,.inl ⟨rfl,((false,([],(),())),[]),by simp only[c2,AP]⟩⟩;by_cases h12:n.1=12
   ·have h0:¬n.2.1=0:=fun h=>hr ⟨h12,h⟩
    simp only[Bw h12,AU,BQ h0,AQ,AP,Cm]
   ·simp only[BQ h12,AQ,AP,BR]
 ·have c1:(decide ((1:Int)≤(l.length:Int))&&decide ((l.length:Int)≤1500))=false:=by
   rw[Bool.eq_false_iff];intro h;simp only[BZ,Ce] at h;omega
  simp only[c1,Bv,AP,AQ];exact⟨false,rfl,.inl ⟨rfl,_,rfl⟩⟩
end Go.Bd
end
section
namespace Go.Bd
open Go.Am Go.Fn
variable(k:Nat)
theorem JE{S:Nat→Nat→Prop}{l:List AR}{n:AR}(hS:∀a b,S a b→a<b):∀(c pos:Nat) (last:Int) (nx:Nat),EX S l n c pos last nx→pos+c≤nx
 |0,pos,last,nx,e=>by have e:pos=nx:=e;omega
 |c+1,pos,last,nx,⟨p,mid,_,_,_,h4,h5⟩=>by
  have:=hS _ _ h4;have:=JE hS c mid p.2.1 nx h5;omega
theorem OH{l:List AR}{af:List Int}:∀(d a b:Nat),Sub l af d a b→∀i,a≤i→i<b→∃d' nx,d'≤d∧Sub l af d' i nx∧nx≤b
 |0,_,_,h=>h.elim
 |d+1,a,b,⟨n,h1,h2,h3,h4⟩=>by
  have key:∀(c pos:Nat) (last:Int) (nx:Nat),EX (Sub l af d) l n c pos last nx→∀i,pos≤i→i<nx→∃d' x,d'≤d∧Sub l af d' i x∧x≤nx:=by
   intro c
   induction c with
   |zero=>intro pos last nx e i hi1 hi2;have e:pos=nx:=e;omega
   |succ c ih=>
    intro pos last nx ⟨p,mid,_,_,_,hs,hp⟩ i hi1 hi2;rcases Nat.lt_or_ge i mid with h|h
    ·obtain⟨d',x,q1,q2,q3⟩:=OH d pos mid hs i hi1 h
     have:=JE (Dv d) _ _ _ _ hp;exact⟨d',x,q1,q2,by omega⟩
    ·exact ih mid _ nx hp i h hi2
  intro i hi1 hi2;rcases Nat.lt_or_ge a i with h|h
  ·obtain⟨d',x,q1,q2,q3⟩:=key _ _ _ _ h3 i (by omega) hi2
   exact⟨d',x,by omega,q2,q3⟩
  ·obtain rfl:i=a:=by omega
   exact⟨d+1,b,Nat.le_refl _,⟨n,h1,h2,h3,h4⟩,Nat.le_refl _⟩
theorem LC{l:List AR}{af:List Int}{d a b:Nat}(h:Sub l af d a b):∃n,l[a]?=some n∧Cr n=true∧af[a]?=some (b:Int):=by
 cases d with
 |zero=>exact h.elim
 |succ d=>obtain⟨n,h1,h2,h3,h4⟩:=h;exact⟨n,h1,h2,h4⟩
theorem Qa{n:AR}(h:Cr n=true):0≤n.2.2.2.2.1:=by
 unfold Cr at h
 repeat' split at h
 all_goals simp only[BZ,beq_iff_eq,Ce,Bool.or_eq_true] at h
 all_goals omega
theorem after_eq(hk:2000≤k){l:List AR}{af:List Int}(hl:l.length≤1500):∀(d D at_ nx:Nat),d≤D→Sub l af d at_ nx→nx≤l.length→EA.rec k D l (at_:Int)=some (nx:Int):=by
 intro d
 induction d with
 |zero=>intro D at_ nx _ h;exact h.elim
 |succ d ih=>
  intro D at_ nx hD ⟨n,h1,h2,h3,h4⟩ hnx;obtain⟨D,rfl⟩:∃j,D=j+1:=⟨D-1,by omega⟩;have hm0:=Qa h2;have hat:at_<l.length:=(List.getElem?_eq_some_iff.1 h1).1;have loop:∀(c pos:Nat) (last:Int) (f:Nat) (i:Int),EX (Sub l af d) l n c pos last nx→c<f→n.2.2.2.2.1-i=c→0≤i→n.2.2.2.2.1≤2000→EA.l3 k (EA.rec k D) f l (at_:Int) (pos:Int) i=some (nx:Int):=by
   intro c
   induction c with
   |zero=>
    intro pos last f i hp hf hi hi0 hi2;obtain⟨f,rfl⟩:∃j,f=j+1:=⟨f-1,by omega⟩;obtain rfl:pos=nx:=hp;simp only[EA.l3,Cg,h1,AQ,A8 (show ¬i<n.2.2.2.2.1 by omega),AU]
   |succ c qb=>
    intro pos last f i ⟨p,mid,_,_,_,hs,hp⟩ hf hi hi0 hi2;obtain⟨f,rfl⟩:∃j,f=j+1:=⟨f-1,by omega⟩;have hc:=JE (Dv d) _ _ _ _ hp;simp only[EA.l3,Cg,h1,AQ,AZ (show i<n.2.2.2.2.1 by omega),AP,ih D pos mid (by omega) hs (by omega)];have hlt:=Dv _ _ _ hs;rw[AY (by omega) (by omega)];exact qb mid _ f (i+1) hp (by omega) (by omega) (by omega) (by omega)
  have hc:=JE (Dv d) _ _ _ _ h3;simp only[EA.rec,EA.b];rw[AY (by omega) (by omega),show((at_:Int)+1)=((at_+1:Nat):Int) by omega];exact loop _ _ 0 k 0 h3 (by omega) (by omega) (by omega) (by omega)
section
variable{l:List AR}{af:List Int}
structure F4(l:List AR)(af:List Int):Prop where
 len:l.length≤1500
 pos:1≤l.length
 sub:Sub l af 12 0 l.length
 wf:∀n,n∈l→DD n
theorem F4.at(h:F4 l af){i:Nat}(hi:i<l.length):∃d nx,d≤12∧Sub l af d i nx∧nx≤l.length:=
 OH 12 0 l.length h.sub i (Nat.zero_le _) hi
theorem F4.after(hk:2000≤k)(h:F4 l af){d i nx:Nat}(hd:d≤12)(hs:Sub l af d i nx)(hn:nx≤l.length):EA k l (i:Int)=some (nx:Int):=
 after_eq k hk h.len d k i nx (by omega) hs hn
abbrev tB(l:List AR):Bc:=(l,(),())
theorem ZU(hk:2000≤k)(h:F4 l af)(d:Nat)(hd:d≤12)(n:AR)(at_:Nat)(hn:l[at_]?=some n)(id:Int)(nx:Nat)(hnx:nx≤l.length):∀(c pos:Nat) (last:Int) (f:Nat) (i:Int),EX (Sub l af d) l n c pos last nx→c<f→n.2.2.2.2.1-i=c→0≤i→n.2.2.2.2.1≤2000→
 ∃v,DK.l5 k f l (at_:Int) id (pos:Int) i=some v∧Ew.l5 k f id (pos:Int) n.2.2.2.2.1 i (tB l) af=some (v,(tB l,af))∧(v= -1∨∃q:Nat,v=q∧pos≤q∧q<nx∧∃mid,Sub l af d q mid∧mid≤nx):=by
 intro c
 induction c with
 |zero=>
  intro pos last f i hp hf hi hi0 hi2;obtain⟨f,rfl⟩:∃j,f=j+1:=⟨f-1,by omega⟩;simp only[DK.l5,Ew.l5,Cg,hn,AQ,A8 (show ¬i<n.2.2.2.2.1 by omega),AU];exact⟨_,rfl,rfl,.inl rfl⟩
 |succ c qb=>
  intro pos last f i ⟨p,mid,hp1,_,_,hs,hp⟩ hf hi hi0 hi2;obtain⟨f,rfl⟩:∃j,f=j+1:=⟨f-1,by omega⟩;have hc:=JE (Dv d) _ _ _ _ hp;have hlt:=Dv _ _ _ hs;obtain⟨_,_,_,DX⟩:=LC hs;simp only[DK.l5,Ew.l5,Cg,hn,hp1,DX,AQ,AZ (show i<n.2.2.2.2.1 by omega),AP];by_cases hid:p.2.1=id
  ·simp only[Bl hid,AP]
   exact⟨_,rfl,rfl,.inr ⟨pos,rfl,Nat.le_refl _,by omega,mid,hs,by omega⟩⟩
  ·simp only[A9 hid,AU,h.after k hk hd hs (by omega),AQ]
   rw[AY (by omega) (by omega)];obtain⟨v,g1,g2,g3⟩:=qb mid _ f (i+1) hp (by omega) (by omega) (by omega) (by omega);refine⟨v,g1,g2,?_⟩;rcases g3 with g|⟨q,q1,q2,q3,q4⟩
   ·exact .inl g
   ·exact .inr ⟨q,q1,by omega,q3,q4⟩
theorem find_eq(hk:2000≤k)(h:F4 l af)(at_:Nat)(hat:at_<l.length)(id:Int):
 ∃v,DK k l (at_:Int) id=some v∧Ew k (at_:Int) id (true,tB l) af=some (v,(tB l,af))∧(v= -1∨∃q:Nat,v=q∧at_<q∧q<l.length):=by
 obtain⟨d,nx,hd,hs,hnx⟩:=h.at hat;have hlen:=h.len;cases d with
 |zero=>exact hs.elim
 |succ d=>
  obtain⟨n,h1,h2,h3,h4⟩:=hs;have hm0:=Qa h2;have hc:=JE (Dv d) _ _ _ _ h3;unfold DK Ew;have c1:(decide ((0:Int)≤(at_:Int))&&decide ((at_:Int)≤IntKind.wrap .i64 ((l.length:Int)-1)))=true:=by
   rw[AY (by omega) (by omega)];simp;omega
  simp only[AP,CB,c1,AQ,Bb,AU,Cg,h1];by_cases h12:n.1=12
  ·simp only[Bw h12,AU]
   have ha1:IntKind.wrap .i64 ((at_:Int)+1)=((at_+1:Nat):Int):=by rw[AY (by omega) (by omega)];omega
   rw[ha1];obtain⟨v,g1,g2,g3⟩:=ZU k hk h d (by omega) n at_ h1 id nx hnx _ _ 0 k 0 h3 (by omega) (by omega) (by omega) (by omega);refine⟨v,g1,g2,?_⟩;rcases g3 with g|⟨q,q1,q2,q3,_⟩
   ·exact .inl g
   ·exact .inr ⟨q,q1,by omega,by omega⟩
  ·simp only[BQ h12,AP]
   exact⟨_,rfl,rfl,.inl rfl⟩
theorem text_eq(hk:2000≤k)(h:F4 l af)(at_:Nat)(hat:at_<l.length)(id:Int):
 ∃s b n,Kk k l (at_:Int) id=some (s,b)∧GV k (at_:Int) id 8 (true,tB l) af=some ((n,b),(tB l,af))∧n.2.2.2.1=s∧s.size≤300:=by
 obtain⟨v,g1,g2,g3⟩:=find_eq k hk h at_ hat id;unfold Kk GV;simp only[g1,g2,AQ];rcases g3 with rfl|⟨q,rfl,q1,q2⟩
 ·simp only[show decide ((-1:Int)<0)=true from rfl,AP,AQ]
  exact⟨_,_,_,rfl,rfl,rfl,by decide⟩
 ·obtain⟨d,nx,hd,hs,hnx⟩:=h.at q2
  obtain⟨n,n1,n2,n3⟩:=LC hs;simp only[A8 (show ¬(q:Int)<0 by omega),AU,Cg,n1,AQ];by_cases h8:n.1=8
  ·simp only[Bw h8,AU]
   refine⟨_,_,_,rfl,rfl,rfl,?_⟩;unfold Cr at n2;rw[h8] at n2;simp only[reduceIte,if_neg (show ¬((8:Int)=5) by decide),if_neg (show ¬((8:Int)=6) by decide),BZ,beq_iff_eq,Ce] at n2;omega
  ·simp only[BQ h8,AP]
   exact⟨_,_,_,rfl,rfl,rfl,by decide⟩
theorem num_eq(hk:2000≤k)(h:F4 l af)(at_:Nat)(hat:at_<l.length)(id:Int):
 ∃v b,Kj k l (at_:Int) id=some (v,b)∧Jr k (at_:Int) id (true,tB l) af=some ((v,b),(tB l,af))∧Bt v∧(∃w,DK k l (at_:Int) id=some w∧(b=true→0≤w)):=by
 obtain⟨v,g1,g2,g3⟩:=find_eq k hk h at_ hat id;unfold Kj Jr;simp only[g1,g2,AQ];have z:Bt 0:=⟨by omega,by omega⟩;rcases g3 with rfl|⟨q,rfl,q1,q2⟩
 ·simp only[show decide ((-1:Int)<0)=true from rfl,AP,AQ]
  exact⟨_,_,rfl,rfl,z,-1,rfl,fun h=>by cases h⟩
 ·obtain⟨d,nx,hd,hs,hnx⟩:=h.at q2
  obtain⟨n,n1,n2,n3⟩:=LC hs;have hw:=h.wf n (List.mem_of_getElem? n1);simp only[A8 (show ¬(q:Int)<0 by omega),AU,Cg,n1,AQ,BV];by_cases hb:(n.1 !=5&&n.1 !=6)=true
  ·simp only[hb,AP]
   exact⟨_,_,rfl,rfl,z,q,rfl,fun h=>by cases h⟩
  ·simp only[Bool.eq_false_iff.2 hb,AU]
   exact⟨_,_,rfl,rfl,hw.2.2.1,q,rfl,fun _=>by omega⟩
end
end Go.Bd
end
section
namespace Go.Bd
open Go.Am Go.Fn
variable(k:Nat)
def H6(E:List AR→Prop)(n:AR):Nat→Int→List AR→Prop
 |0,_,X=>X=[]
 |c+1,last,X=>∃p Y Z,X=(p::Y)++Z∧(n.1=9→p.1=n.2.2.1∧p.2.1=0)∧(n.1=12→last+1≤p.2.1∧p.2.1≤1000)∧E (p::Y)∧H6 E n c p.2.1 Z
def Enc:Nat→List AR→Prop
 |0,_=>False
 |_+1,[]=>False
 |d+1,n::X=>Cr n=true∧H6 (Enc d) n n.2.2.2.2.1.toNat 0 X
theorem OC{E:List AR→Prop}{n:AR}:∀(c:Nat) (last:Int) (X:List AR),H6 E n c last X→c≤X.length
 |0,_,_,_=>Nat.zero_le _
 |c+1,_,X,⟨p,Y,Z,e,_,_,_,h⟩=>by
  have:=OC c _ _ h;subst e;simp;omega
theorem aa6{n:AR}(h:Cr n=true):0≤n.2.2.2.2.1:=by
 unfold Cr at h
 repeat' split at h
 all_goals simp only[BZ,beq_iff_eq,Ce,Bool.or_eq_true] at h
 all_goals omega
theorem Ns{α:Type}(pre post:List α)(x:α):gP (pre++x::post) (pre.length:Int)=some x:=by
 rw[Cg,List.getElem?_append_right (Nat.le_refl _)];simp
theorem Rv(hk:2000≤k):∀(d D deep:Nat) (pre B post:List AR),d+deep≤13→d<D→Enc d B→pre.length+B.length+post.length≤1500→
 CV.rec k D (pre++(B++post)) (pre.length:Int) (deep:Int)=some ((pre.length+B.length:Nat):Int):=by
 intro d
 induction d with
 |zero=>intro D deep pre B post _ _ h;exact h.elim
 |succ d ih=>
  intro D deep pre B post hdd hD hB hlen;obtain⟨D,rfl⟩:∃j,D=j+1:=⟨D-1,by omega⟩;cases B with
  |nil=>exact hB.elim
  |cons n X=>
   obtain⟨hok,hP⟩:=hB;have hm0:=aa6 hok;have hcl:=OC _ _ _ hP;simp only[Co] at hlen;generalize hL:pre++(n::X++post)=L;have ac8:L.length=pre.length+(X.length+1)+post.length:=by rw[←hL];simp;omega
   have hget:gP L (pre.length:Int)=some n:=by rw[←hL];exact Ns pre (X++post) n
   simp only[CV.rec,CV.b,cst,AQ,A8 (show ¬(pre.length:Int)≥(L.length:Int) by omega),A8 (show ¬(deep:Int)>12 by omega),Cu,AU,hget,Qj,hok,Bb];rw[AY (by omega) (by omega),show((pre.length:Int)+1)=((pre.length+1:Nat):Int) by omega]
   have loop:∀(c:Nat) (last:Int) (f:Nat) (i:Int) (Q Z:List AR),H6 (Enc d) n c last Z→pre++(n::X)=Q++Z→c<f→n.2.2.2.2.1-i=c→0≤i→n.2.2.2.2.1≤2000→
    CV.l7 k (CV.rec k D) f L (deep:Int) (Q.length:Int) last i n=some ((pre.length+(X.length+1):Nat):Int):=by
    intro c
    induction c with
    |zero=>
     intro last f i Q Z hZ hQ hf hi hi0 hi2;obtain⟨f,rfl⟩:∃j,f=j+1:=⟨f-1,by omega⟩;have hZ:Z=[]:=hZ;subst hZ;have:=congrArg List.length hQ;simp at this;simp only[CV.l7,A8 (show ¬i<n.2.2.2.2.1 by omega),AU]
     congr 1
     omega
    |succ c qb=>
     intro last f i Q Z ⟨p,Y,Z',hZ,h9,h12,hE,Z8⟩ hQ hf hi hi0 hi2;obtain⟨f,rfl⟩:∃j,f=j+1:=⟨f-1,by omega⟩;have Pp:L=Q++((p::Y)++(Z'++post)):=by
      rw[←hL,←EI,hQ,hZ];simp
     have Pv:=congrArg List.length hQ;rw[hZ] at Pv;simp at Pv;have hp:gP L (Q.length:Int)=some p:=by rw[Pp];exact Ns Q (Y++(Z'++post)) p
     have e1:(n.1==9&&(p.1 !=n.2.2.1||p.2.1 !=0))=false:=by
      rw[Bool.eq_false_iff];intro h;simp only[BZ,Bool.or_eq_true,beq_iff_eq,bne_iff_ne] at h;have:=h9 h.1;omega
     have e2:(n.1==12&&(decide (p.2.1≤last)||decide (p.2.1>1000)))=false:=by
      rw[Bool.eq_false_iff];intro h;simp only[BZ,Bool.or_eq_true,beq_iff_eq,Ce] at h;have:=h12 h.1;omega
     have:=ih D (deep+1) Q (p::Y) (Z'++post) (by omega) (by omega) hE (by simp;omega);rw[←Pp] at this;simp only[CV.l7,AZ (show i<n.2.2.2.2.1 by omega),AP,A8 (show ¬(Q.length:Int)≥(L.length:Int) by omega),AU,hp,AQ,BV,cst,e1,e2,Cu];rw[AY (show -9223372036854775808≤(deep:Int)+1 by omega) (by omega),show((deep:Int)+1)=((deep+1:Nat):Int) by omega,this];simp only[AQ];rw[A8 (by omega),AU,AY (by omega) (by omega)];have hr:=qb p.2.1 f (i+1) (Q++(p::Y)) Z' Z8 (by rw[hQ,hZ];simp) (by omega) (by omega) (by omega) hi2;rw[BJ] at hr;exact hr
   have hr:=loop _ 0 k 0 (pre++[n]) X hP (by simp) (by omega) (by omega) (by omega) (by omega);simp only[BJ,CQ] at hr;rw[hr];simp
theorem QA(hk:2000≤k)(n:AR)(X:List AR)(h:Enc 12 (n::X))(hlen:(n::X).length≤1500)(h12:n.1=12)(h0:n.2.1=0):IX k (n::X)=some true:=by
 unfold IX;have c1:(decide ((1:Int)≤((n::X).length:Int))&&decide (((n::X).length:Int)≤1500))=true:=by simp;simp at hlen;omega
 have hc:=Rv k hk 12 k 1 [] (n::X) [] (by omega) (by omega) h (by simpa using hlen);simp only[List.nil_append,DU,List.length_nil,Nat.zero_add] at hc;have hc:CV k (n::X) 0 1=some (((n::X).length:Nat):Int):=hc;have hr:gP (n::X) 0=some n:=rfl;simp only[Dc,c1,AQ,Bb,AU,hr,Bw h12,Bw h0,hc,Bl rfl]
end Go.Bd
end
section
namespace Go.Bd
open Go.Am Go.Fn
attribute [-simp] List.length_flatten
variable(k:Nat)
theorem acz:∀(post pre:List (List AR)) (n:Nat) (acc:List AR),post.length<n→pre.length+post.length<4611686018427387904→acc.length+post.flatten.length≤4294967296→
 Gp.l3 k n (pre++post) ((pre++post).length:Int) (pre.length:Int) acc=some ((),acc++post.flatten):=by
 intro post
 induction post with
 |nil=>
  intro pre n acc hn hl ha;obtain⟨n,rfl⟩:∃j,n=j+1:=⟨n-1,by omega⟩;simp only[Gp.l3,DU,A8 (show ¬(pre.length:Int)<(pre.length:Int) by omega),AU,List.flatten_nil]
 |cons x post ih=>
  intro pre n acc hn hl ha;obtain⟨n,rfl⟩:∃j,n=j+1:=⟨n-1,by omega⟩;simp only[Co] at hn hl;simp only[List.flatten_cons,BJ] at ha;have:=ih (pre++[x]) n (acc++x) (by omega) (by simp;omega) (by simp;omega);simp only[Gp.l3,AZ (show(pre.length:Int)<((pre++x::post).length:Int) by simp;omega),AP,Ns,AQ];rw[Bz (by omega),AP,AY (by omega) (by omega)];simpa using this
theorem Qy(id:Int)(parts:List (List AR))(hk:parts.length<k)(hl:parts.flatten.length<1000000)(hp:parts.length<1000000):
 Gp k id parts=some ((),(12,id,0,⟨#[]⟩,(parts.length:Int),())::parts.flatten):=by
 unfold Gp;have:=acz k parts [] k [(12,id,0,A7,(parts.length:Int),())] hk (by simp;omega) (by simp;omega);simpa using this
end Go.Bd
end
section
namespace Go.Bd
open Go.Am Go.Fn
def CY:Nat→Nat→List Int
 |0,n=>[(n:Int)]
 |f+1,n=>if 127<n then((n%128+128:Nat):Int)::CY f (n/128) else[(n:Int)]
theorem Og:∀f n,0<(CY f n).length∧(CY f n).length≤f+1
 |0,n=>by simp[CY]
 |f+1,n=>by
  have:=Og f (n/128);unfold CY;split<;>simp<;>omega
theorem QC:∀f n,n<128^(f+1)→∀x,x∈CY f n→0≤x∧x<256
 |0,n,h,x,hx=>by simp[CY] at hx;subst hx;simp at h;omega
 |f+1,n,h,x,hx=>by
  unfold CY at hx;split at hx
  ·rcases List.mem_cons.1 hx with rfl|hx
   ·omega
   ·exact QC f (n/128) (by rw[Nat.pow_succ] at h;exact Nat.div_lt_of_lt_mul (by rw[Nat.mul_comm];exact h)) x hx
  ·simp at hx;subst hx;omega
theorem abP(k:Nat):∀(f n t:Nat) (acc:List Int),t<128^(f+1)→t<2^64→f<n→acc.length+f≤4294967000→
 FJ.l3 k n (t:Int) acc=some ((),acc++CY f t):=by
 intro f
 induction f with
 |zero=>
  intro n t acc h h64 hn hl;obtain⟨n,rfl⟩:∃m,n=m+1:=⟨n-1,by omega⟩;have h:t<128:=by simpa using h
  simp only[FJ.l3,show decide ((t:Int)>127)=false by simp;omega,AU,Bz (show acc.length+[IntKind.wrap .u8 (t:Int)].length≤4294967296 by simp;omega),AP];rw[w8 (by omega) (by omega)];rfl
 |succ f ih=>
  intro n t acc h h64 hn hl;obtain⟨n,rfl⟩:∃m,n=m+1:=⟨n-1,by omega⟩;by_cases ht:127<t
  ·have e1:bits .or .u64 (bits .and .u64 (t:Int) 127) 128=((t%128+128:Nat):Int):=by
    rw[acO (by omega) (by omega),acP (by omega) (by omega)];omega
   have e2:qW .u64 (t:Int) 7=((t/128:Nat):Int):=by
    rw[ab5];omega
   have h':t/128<128^(f+1):=by rw[Nat.pow_succ] at h;exact Nat.div_lt_of_lt_mul (by rw[Nat.mul_comm];exact h)
   simp only[FJ.l3,show decide ((t:Int)>127)=true by simp;omega,AP,e1,e2];rw[w8 (by omega) (by omega)];simp only[Bz (show acc.length+[((t%128+128:Nat):Int)].length≤4294967296 by simp;omega),AP];rw[ih n (t/128) _ h' (by omega) (by omega) (by simp;omega)];simp only[CY,if_pos ht,EI];rfl
  ·simp only[FJ.l3,show decide ((t:Int)>127)=false by simp;omega,AU,Bz (show acc.length+[IntKind.wrap .u8 (t:Int)].length≤4294967296 by simp;omega),AP]
   rw[w8 (by omega) (by omega)];simp only[CY,if_neg ht]
def uv(x:Int):List Int:=CY 9 (x%18446744073709551616).toNat
theorem G6(x:Int):0<(uv x).length∧(uv x).length≤10:=Og _ _
theorem Im(x:Int):∀y,y∈uv x→0≤y∧y<256:=QC _ _ (by omega)
theorem Oh(k:Nat)(hk:100≤k)(x:Int):FJ k x=some ((),uv x):=by
 unfold FJ;rw[G7];have h:=abP k 9 k (x%18446744073709551616).toNat [] (by omega) (by omega) (by omega) (by simp);rw[Int.toNat_of_nonneg (by omega)] at h;rw[h];rfl
theorem getLoop(k:Nat)(b:List Int)(p:Nat)(hb:b.length<4611686018427387904):∀(f n i acc m:Nat) (rest:List Int),i+f=9→f<n→b.drop (p+i)=CY f m++rest→
 acc<2^(7*i)→acc+m*2^(7*i)<2^64→m<128^(f+1)→
 Dq.l5 k n b (p:Int) (acc:Int) (i:Int)=some (IntKind.wrap .i64 ((acc+m*2^(7*i):Nat):Int),((p+i+(CY f m).length:Nat):Int),true):=by
 intro f
 induction f with
 |zero=>
  intro n i acc m rest hi hn hd hacc htot hm;obtain⟨n,rfl⟩:∃j,n=j+1:=⟨n-1,by omega⟩;obtain rfl:i=9:=by omega
  have hm:m<128:=by simpa using hm
  have hlen:p+9<b.length:=by
   have:=congrArg List.length hd;simp[CY] at this;omega
  have hget:gP b ((p+9:Nat):Int)=some (m:Int):=by
   rw[Cg];have:=List.getElem?_drop (xs:=b) (i:=p+9) (j:=0);rw[hd] at this;simpa[CY] using this.symm
  have hm1:m≤1:=by
   have:(2:Nat)^(7*9)=9223372036854775808:=by decide
   rw[this] at htot;omega
  have e1:IntKind.wrap .i64 ((b.length:Int)-(p:Int))=(b.length:Int)-p:=AY (by omega) (by omega);have e2:IntKind.wrap .i64 ((p:Int)+((9:Nat):Int))=((p+9:Nat):Int):=by rw[AY (by omega) (by omega)];omega
  have e3:IntKind.wrap .i64 (7*((9:Nat):Int))=63:=by decide
  have e4:qV .u64 (IntKind.wrap .u64 (bits .and .u8 (m:Int) 127)) 63=(m:Int)*2^63:=by
   rw[u8_and127 (by omega) (by omega),G7];unfold qV;rw[G7];simp[IntKind.bits];omega
  have e5:IntKind.wrap .i64 (((p+9:Nat):Int)+1)=((p+9+1:Nat):Int):=by rw[AY (by omega) (by omega)];omega
  simp only[Dq.l5,e1,e2,e3,e4,e5,hget];have c1:decide (((9:Nat):Int)<10)=true:=by decide
  have c0:(((9:Nat):Int)==9)=true:=by decide
  have c5:decide ((0:Int)≤63)=true:=by decide
  have c2:decide (((9:Nat):Int)<(b.length:Int)-p)=true:=by simp;omega
  have c3:decide ((m:Int)>1)=false:=by simp;omega
  have c4:decide ((m:Int)<128)=true:=by simp;omega
  simp only[c0,c1,c2,c3,c4,c5,e4,AP,AU,AQ];rw[Oe (i:=63) (by omega) (by exact_mod_cast hacc) (by omega) (by omega) (by omega)];simp[CY]
 |succ f ih=>
  intro n i acc m rest hi hn hd hacc htot hm;obtain⟨n,rfl⟩:∃j,n=j+1:=⟨n-1,by omega⟩;have hP:0<2^(7*i):=Nat.two_pow_pos _;have He:2^(7*(i+1))=128*2^(7*i):=by rw[Nat.mul_add,Nat.pow_add];simp[Nat.mul_comm]
  have hi9:i<9:=by omega
  have hdv:=Nat.div_add_mod m 128;have hmul:m*2^(7*i)=(m%128)*2^(7*i)+(m/128)*(128*2^(7*i)):=by
   have:m*2^(7*i)=(128*(m/128)+m%128)*2^(7*i):=by rw[hdv]
   rw[this]
   grind
  generalize Pt:2^(7*i)=P at*;have hlt1:m%128*P<2^64:=by omega
  have hlen:p+i<b.length:=by
   have:=congrArg List.length hd;have:=(Og (f+1) m).1;simp at*;omega
  have hbyte:∀y l,CY (f+1) m=y::l→gP b ((p+i:Nat):Int)=some y:=by
   intro y l hy;rw[Cg];have:=List.getElem?_drop (xs:=b) (i:=p+i) (j:=0);rw[hd,hy] at this;simpa using this.symm
  have e1:IntKind.wrap .i64 ((b.length:Int)-(p:Int))=(b.length:Int)-p:=AY (by omega) (by omega);have e2:IntKind.wrap .i64 ((p:Int)+(i:Int))=((p+i:Nat):Int):=by rw[AY (by omega) (by omega)];omega
  have e3:IntKind.wrap .i64 (7*(i:Int))=((7*i:Nat):Int):=by rw[AY (by omega) (by omega)];omega
  have e4:∀y:Int,0≤y→y<256→y%128=((m%128:Nat):Int)→qV .u64 (IntKind.wrap .u64 (bits .and .u8 y 127)) ((7*i:Nat):Int)=((m%128:Nat):Int)*(P:Int):=by
   intro y hy0 hy1 hy;rw[u8_and127 hy0 hy1,hy,G7];unfold qV;rw[G7];have:min (((7*i:Nat):Int)).toNat (IntKind.bits .u64)=7*i:=by simp[IntKind.bits];omega
   rw[this];have hP':(2:Int)^(7*i)=(P:Int):=by rw[←Pt];simp
   rw[hP'];have h1:(((m%128:Nat):Int)%18446744073709551616)=((m%128:Nat):Int):=by omega
   rw[h1];have h2:((m%128:Nat):Int)*(P:Int)=((m%128*P:Nat):Int):=by simp
   rw[h2];omega
  have e5:IntKind.wrap .i64 (((p+i:Nat):Int)+1)=((p+i+1:Nat):Int):=by rw[AY (by omega) (by omega)];omega
  have e6:IntKind.wrap .i64 ((i:Int)+1)=((i+1:Nat):Int):=by rw[AY (by omega) (by omega)];omega
  have c1:decide ((i:Int)<10)=true:=by simp;omega
  have c2:decide ((i:Int)<(b.length:Int)-p)=true:=by simp;omega
  have c3:((i:Int)==9)=false:=by simp;omega
  have c5:decide ((0:Int)≤((7*i:Nat):Int))=true:=AZ (by omega);have G9:bits .or .u64 (acc:Int) (((m%128:Nat):Int)*(P:Int))=((acc+m%128*P:Nat):Int):=by
   have hP':(P:Int)=2^(7*i):=by rw[←Pt];simp
   have hmP:((m%128:Nat):Int)*(P:Int)=((m%128*P:Nat):Int):=by simp
   rw[hP',Oe (i:=7*i) (by omega) (by rw[←hP'];omega) (by omega) (by rw[←hP',hmP];omega) (by omega)];rw[←hP'];simp
  by_cases hm':127<m
  ·have hu:CY (f+1) m=((m%128+128:Nat):Int)::CY f (m/128):=by simp only[CY,if_pos hm']
   have hb1:=hbyte _ _ hu;simp only[Dq.l5,e1,e2,e3,hb1,c1,c2,c3,c5,AP,AU,AQ];rw[e4 _ (by omega) (by omega) (by omega),G9,e6];have c4:decide (((m%128+128:Nat):Int)<128)=false:=by simp;omega
   simp only[c4,AU];rw[ih n (i+1) (acc+m%128*P) (m/128) rest (by omega) (by omega) ?_ ?_ ?_ ?_]
   ·rw[He,hu,show acc+m%128*P+m/128*(128*P)=acc+m*P by omega,Co,show p+(i+1)+(CY f (m/128)).length=p+i+((CY f (m/128)).length+1) by omega]
   ·rw[←Nat.add_assoc,←List.drop_drop,hd,hu]
    rfl
   ·rw[He]
    have:m%128*P≤127*P:=Nat.mul_le_mul_right _ (by omega);omega
   ·rw[He];omega
   ·rw[Nat.pow_succ] at hm;exact Nat.div_lt_of_lt_mul (by rw[Nat.mul_comm];exact hm)
  ·have hu:CY (f+1) m=[(m:Int)]:=by simp only[CY,if_neg hm']
   have hb1:=hbyte _ _ hu;simp only[Dq.l5,e1,e2,e3,hb1,c1,c2,c3,c5,AP,AU,AQ];rw[e4 _ (by omega) (by omega) (by omega),G9];have c4:decide ((m:Int)<128)=true:=by simp;omega
   have hmm:m%128=m:=Nat.mod_eq_of_lt (by omega);simp only[c4,AP,e5,hu,hmm];rfl
theorem acW(k:Nat)(hk:100≤k)(b:List Int)(p:Nat)(x:Int)(rest:List Int)(hb:b.length<4611686018427387904)(hd:b.drop p=uv x++rest)(h0: -9223372036854775808≤x)(h1:x<9223372036854775808):
 Dq k b (p:Int)=some (x,((p+(uv x).length:Nat):Int),true):=by
 unfold Dq;have c:decide ((p:Int)<0)=false:=A8 (by omega);simp only[c,AU];have h:=getLoop k b p hb 9 k 0 0 (x%18446744073709551616).toNat rest rfl (by omega) hd (by simp) (by simp;omega) (by omega);rw[show((0:Nat):Int)=0 from rfl] at h;rw[h];simp only[Nat.mul_zero,Nat.pow_zero,Nat.mul_one,Nat.zero_add,Nat.add_zero,uv];rw[Int.toNat_of_nonneg (by omega),IntKind.wrap_i64]
 congr 2
 omega
theorem xor_zero(a:Int)(h0: -9223372036854775808≤a)(h1:a<9223372036854775808):bits .xor .i64 a 0=a:=by
 have e:(BitVec.ofInt (IntKind.bits .i64) a^^^BitVec.ofInt (IntKind.bits .i64) 0)=BitVec.ofInt (IntKind.bits .i64) a:=by simp
 simp only[bits,e,BitVec.toNat_ofInt];show IntKind.wrap .i64 (((a%((2^64:Nat):Int)).toNat:Nat):Int)=a;rw[IntKind.wrap_i64];omega
theorem M4(a:Int)(h0: -9223372036854775808≤a)(h1:a<9223372036854775808):bits .xor .i64 a (-1)= -a-1:=by
 have e:(BitVec.ofInt (IntKind.bits .i64) a^^^BitVec.ofInt (IntKind.bits .i64) (-1))= ~~~BitVec.ofInt (IntKind.bits .i64) a:=by
  have:BitVec.ofInt (IntKind.bits .i64) (-1)=BitVec.allOnes (IntKind.bits .i64):=by decide
  rw[this,BitVec.xor_allOnes]
 simp only[bits,e,BitVec.toNat_not,BitVec.toNat_ofInt];show IntKind.wrap .i64 ((2^64-1-(a%((2^64:Nat):Int)).toNat:Nat):Int)=_;rw[IntKind.wrap_i64];omega
def zig(x:Int):Int:=if 0≤x then IntKind.wrap .i64 (x*2) else -IntKind.wrap .i64 (x*2)-1
theorem ac1(k:Nat)(x:Int)(h0: -9223372036854775808≤x)(h1:x<9223372036854775808):Ml k x=some (zig x):=by
 unfold Ml zig;have e:qV .i64 x 1=IntKind.wrap .i64 (x*2):=by
  unfold qV;simp[IntKind.bits]
 have:=I7 (x*2);have:=I6 (x*2);rw[e,ab4];split
 ·rw[show x/9223372036854775808=0 by omega,xor_zero _ (by assumption) (by assumption)]
 ·rw[show x/9223372036854775808= -1 by omega,M4 _ (by assumption) (by assumption)]
theorem Ox(x:Int): -9223372036854775808≤zig x∧zig x<9223372036854775808:=by
 have:=I7 (x*2);have:=I6 (x*2);unfold zig;split<;>omega
theorem Ov(k:Nat)(x:Int)(h0: -9223372036854775808≤x)(h1:x<9223372036854775808):F8 k (zig x)=some x:=by
 unfold F8;rw[and1,G7,Qq,AY (by omega) (by omega)];have hz:zig x=if 0≤x then(x*2+9223372036854775808)%18446744073709551616-9223372036854775808 else -((x*2+9223372036854775808)%18446744073709551616-9223372036854775808)-1:=by
  unfold zig;rw[IntKind.wrap_i64]
 by_cases hx:0≤x
 ·rw[if_pos hx] at hz
  rw[show zig x%2=0 by omega,show IntKind.wrap .i64 (0-0)=0 by decide,xor_zero _ (by omega) (by omega)]
  congr 1
  omega
 ·rw[if_neg hx] at hz
  rw[show zig x%2=1 by omega,show IntKind.wrap .i64 (0-1)= -1 by decide,M4 _ (by omega) (by omega)]
  congr 1
  omega
theorem QY(k:Nat)(hk:100≤k)(x:Int)(h0: -9223372036854775808≤x)(h1:x<9223372036854775808):KU k x=some ((),uv (zig x)):=by
 unfold KU;rw[ac1 k x h0 h1];simp only[AQ,Oh k hk]
def El:Nat→List Int→Option (Nat×Nat)
 |0,_=>none
 |_+1,[]=>none
 |f+1,c::r=>if f=0∧1<c then none else if c<128 then some (c.toNat,1) else(El f r).map fun x=>((c%128).toNat+128*x.1,x.2+1)
def gv(l:List Int):Option (Int×Nat):=(El 10 l).map fun x=>(IntKind.wrap .i64 (x.1:Int),x.2)
theorem ZY:∀(f:Nat) (l:List Int) (v n:Nat),(∀x,x∈l→0≤x∧x<256)→El (f+1) l=some (v,n)→v<2*128^f∧1≤n∧n≤l.length∧n≤f+1∧(CY f v).length≤n:=by
 intro f
 induction f with
 |zero=>
  intro l v n hb h;cases l with
  |nil=>simp[El] at h
  |cons c r=>
   obtain⟨c0,c1⟩:=hb c (by simp);simp only[El,true_and] at h;split at h
   ·cases h
   ·split at h
    ·simp only[Dt,Prod.mk.injEq] at h
     obtain⟨rfl,rfl⟩:=h;simp[CY];omega
    ·simp at h
 |succ f ih=>
  intro l v n hb h;cases l with
  |nil=>simp[El] at h
  |cons c r=>
   obtain⟨c0,c1⟩:=hb c (by simp);rw[El,if_neg (by omega)] at h;have hP:1≤128^f:=Nat.pow_pos (by decide);have hP2:(128:Nat)^(f+1)=128*128^f:=by rw[Nat.pow_succ,Nat.mul_comm]
   split at h
   ·simp only[Dt,Prod.mk.injEq] at h
    obtain⟨rfl,rfl⟩:=h;refine⟨by omega,by omega,by simp,by omega,?_⟩;simp only[CY];rw[if_neg (by omega)];simp
   ·cases hg:El (f+1) r with
    |none=>rw[hg] at h;cases h
    |some x=>
     obtain⟨v',n'⟩:=x;rw[hg] at h;simp only[Option.map_some,Dt,Prod.mk.injEq] at h;obtain⟨rfl,rfl⟩:=h;obtain⟨i1,i2,i3,i4,i5⟩:=ih r v' n' (fun x hx=>hb x (by simp[hx])) hg;refine⟨by omega,by omega,by simp;omega,by omega,?_⟩;simp only[CY];split
     ·rw[Co,show((c%128).toNat+128*v')/128=v' by omega]
      omega
     ·simp
theorem EM(l:List Int)(u:Int)(n:Nat)(hb:∀x,x∈l→0≤x∧x<256)(h:gv l=some (u,n)):Bt u∧1≤n∧n≤l.length∧n≤10∧(uv u).length≤n:=by
 unfold gv at h;cases hg:El 10 l with
 |none=>rw[hg] at h;cases h
 |some x=>
  obtain⟨v,n'⟩:=x;rw[hg] at h;simp only[Option.map_some,Dt,Prod.mk.injEq] at h;obtain⟨rfl,rfl⟩:=h;obtain⟨h1,h2,h3,h4,h5⟩:=ZY 9 l v n' hb hg;have h1:v<18446744073709551616:=by simpa using h1
  refine⟨⟨I7 _,I6 _⟩,h2,h3,h4,?_⟩;unfold uv;rw[IntKind.wrap_i64,show(((v:Int)+9223372036854775808)%18446744073709551616-9223372036854775808)%18446744073709551616=(v:Int) by omega,Int.toNat_natCast];exact h5
theorem JM{α:Type}{l:List α}{p:Nat}(h:p<l.length):∃c,l.drop p=c::l.drop (p+1)∧l[p]?=some c:=by
 refine⟨l[p],?_,by simp[h]⟩;rw[List.drop_eq_getElem_cons h]
theorem aax(k:Nat)(b:List Int)(p:Nat)(hb:b.length<4611686018427387904)(hby:∀x,x∈b→0≤x∧x<256)(hp:p<4611686018427387904):∀(f n i acc:Nat),i+f=10→f<n→acc<2^(7*i)→
 Dq.l5 k n b (p:Int) (acc:Int) (i:Int)=match El f (b.drop (p+i)) with
  |none=>some (0,0,false)
  |some (v,m)=>some (IntKind.wrap .i64 ((acc+v*2^(7*i):Nat):Int),((p+i+m:Nat):Int),true):=by
 intro f
 induction f with
 |zero=>
  intro n i acc hi hn hacc;obtain⟨n,rfl⟩:∃j,n=j+1:=⟨n-1,by omega⟩;obtain rfl:i=10:=by omega
  simp only[Dq.l5,show decide (((10:Nat):Int)<10)=false by decide,AU,AQ,El,Dq.c12]
 |succ f ih=>
  intro n i acc hi hn hacc;obtain⟨n,rfl⟩:∃j,n=j+1:=⟨n-1,by omega⟩;have hP:0<2^(7*i):=Nat.two_pow_pos _;have He:2^(7*(i+1))=128*2^(7*i):=by rw[Nat.mul_add,Nat.pow_add];simp[Nat.mul_comm]
  have c1:decide ((i:Int)<10)=true:=by simp;omega
  by_cases hlt:p+i<b.length
  ·obtain⟨c,hc,hc2⟩:=JM hlt
   obtain⟨c0,LK⟩:=hby c (List.mem_of_getElem? hc2);have e1:IntKind.wrap .i64 ((b.length:Int)-(p:Int))=(b.length:Int)-p:=AY (by omega) (by omega);have e2:IntKind.wrap .i64 ((p:Int)+(i:Int))=((p+i:Nat):Int):=by rw[AY (by omega) (by omega)];omega
   have e3:IntKind.wrap .i64 (7*(i:Int))=((7*i:Nat):Int):=by rw[AY (by omega) (by omega)];omega
   have e5:IntKind.wrap .i64 (((p+i:Nat):Int)+1)=((p+i+1:Nat):Int):=by rw[AY (by omega) (by omega)];omega
   have e6:IntKind.wrap .i64 ((i:Int)+1)=((i+1:Nat):Int):=by rw[AY (by omega) (by omega)];omega
   have c2:decide ((i:Int)<(b.length:Int)-p)=true:=by simp;omega
   have c5:decide ((0:Int)≤((7*i:Nat):Int))=true:=AZ (by omega);have hget:gP b ((p+i:Nat):Int)=some c:=by rw[Cg];exact hc2
   rw[hc,El];simp only[Dq.l5,c1,e1,c2,e2,e3,e5,e6,hget,AP,AQ,BV];by_cases h9:f=0∧1<c
   ·obtain⟨rfl,h1c⟩:=h9
    obtain rfl:i=9:=by omega
    rw[if_pos ⟨rfl,h1c⟩];simp only[show(((9:Nat):Int)==9)=true by decide,show decide (c>1)=true from AZ h1c,Bool.and_self,AP,Dq.c12]
   ·rw[if_neg h9]
    have Nv:(((i:Int)==9)&&decide (c>1))=false:=by
     rw[Bool.eq_false_iff];intro q;simp only[BZ,beq_iff_eq,Ce] at q;exact h9 ⟨by omega,q.2⟩
    simp only[Nv,AU,c5,AP];have hcm:(c%128)*2^(7*i)<18446744073709551616:=by
     by_cases hf:f=0
     ·have:i=9:=by omega
      subst this;have:c≤1:=by
       rcases Int.lt_or_le 1 c with q|q
       ·exact(h9 ⟨hf,q⟩).elim
       ·exact q
      have h2:(2:Int)^(7*9)=9223372036854775808:=by decide
      rw[h2];omega
     ·have:(2:Int)^(7*i)≤2^56:=by
       have:=Nat.pow_le_pow_right (n:=2) (by omega) (show 7*i≤56 by omega)
       exact_mod_cast this
      have h3:(2:Int)^56=72057594037927936:=by decide
      have h4:(0:Int)<2^(7*i):=by exact_mod_cast hP
      have:=Int.mul_le_mul (show c%128≤127 by omega) this (by omega) (by omega);omega
    have e4:qV .u64 (IntKind.wrap .u64 (bits .and .u8 c 127)) ((7*i:Nat):Int)=(c%128)*2^(7*i):=by
     rw[u8_and127 c0 LK,G7];unfold qV;rw[G7];have:min (((7*i:Nat):Int)).toNat (IntKind.bits .u64)=7*i:=by simp[IntKind.bits];omega
     rw[this,show(c%128)%18446744073709551616=c%128 by omega];have:0≤(c%128)*2^(7*i):=Int.mul_nonneg (by omega) (by exact_mod_cast Nat.zero_le _);omega
    have G9:bits .or .u64 (acc:Int) ((c%128)*2^(7*i))=((acc+(c%128).toNat*2^(7*i):Nat):Int):=by
     rw[Oe (i:=7*i) (by omega) (by exact_mod_cast hacc) (by omega) (by omega) (by omega)];have:c%128=(((c%128).toNat:Nat):Int):=by omega
     rw[this];simp
    rw[e4,G9];by_cases h128:c<128
    ·rw[if_pos h128,AZ h128,AP]
     have:(c%128).toNat=c.toNat:=by omega
     rw[this]
    ·rw[if_neg h128,A8 h128,AU]
     have hlt2:acc+(c%128).toNat*2^(7*i)<2^(7*(i+1)):=by
      rw[He];have:(c%128).toNat*2^(7*i)≤127*2^(7*i):=Nat.mul_le_mul_right _ (by omega);omega
     rw[ih n (i+1) _ (by omega) (by omega) hlt2,←Nat.add_assoc];cases El f (b.drop (p+i+1)) with
     |none=>rfl
     |some x=>
      obtain⟨v,m⟩:=x;simp only[Option.map_some];rw[He,show acc+(c%128).toNat*2^(7*i)+v*(128*2^(7*i))=acc+((c%128).toNat+128*v)*2^(7*i) by grind,show p+i+1+m=p+i+(m+1) by omega]
  ·have c2:decide ((i:Int)<IntKind.wrap .i64 ((b.length:Int)-(p:Int)))=false:=by
    rw[AY (by omega) (by omega)];exact A8 (by omega)
   rw[List.drop_eq_nil_of_le (by omega),El];simp only[Dq.l5,c1,c2,AP,AU,AQ,Dq.c12]
def slice{α:Type}(l:List α)(a b:Nat):List α:=(l.drop a).take (b-a)
theorem NT{α:Type}(l:List α)(a:Nat):slice l a a=[]:=by simp[slice]
theorem Ht{α:Type}{l:List α}{a:Nat}{x:α}(h:l[a]?=some x):slice l a (a+1)=[x]:=by
 obtain⟨h1,h2⟩:=List.getElem?_eq_some_iff.1 h;unfold slice;rw[List.drop_eq_getElem_cons h1,h2,show a+1-a=1 by omega];rfl
theorem Kh{α:Type}(l:List α){a b c:Nat}(h1:a≤b)(h2:b≤c):slice l a b++slice l b c=slice l a c:=by
 unfold slice;rw[show c-a=(b-a)+(c-b) by omega,List.take_add,List.drop_drop,show a+(b-a)=b by omega]
theorem Qs{α:Type}(l:List α){a b:Nat}(h1:a≤b)(h2:b≤l.length):(slice l a b).length=b-a:=by
 unfold slice;simp;omega
def Bn(B:List Int):Prop:=∀x,x∈B→0≤x∧x<256
theorem Bn.app{A B:List Int}(h:Bn A)(h':Bn B):Bn (A++B):=fun x hx=>(List.mem_append.1 hx).elim (h x) (h' x)
theorem Bn.cons{a:Int}{B:List Int}(h0:0≤a)(h1:a<256)(h':Bn B):Bn (a::B):=fun x hx=>by
 rcases List.mem_cons.1 hx with rfl|hx
 ·exact⟨h0,h1⟩
 ·exact h' x hx
theorem Bn.nil:Bn []:=fun x hx=>(List.not_mem_nil hx).elim
def EN(p:AR)(last:Int):List Int:=if p.2.1-last≤15 then[16*(p.2.1-last)+p.1] else p.1::uv (zig p.2.1)
def Gj(S:List AR→Nat×List AR)(st:Bool):Nat→Int→List AR→Nat×List AR
 |0,_,X=>(0,X)
 |_+1,_,[]=>(0,[])
 |c+1,last,p::X=>((if st then(EN p last).length else 0)+(S (p::X)).1+(Gj S st c p.2.1 (S (p::X)).2).1,(Gj S st c p.2.1 (S (p::X)).2).2)
def cost:Nat→List AR→Nat×List AR
 |0,X=>(0,X)
 |_+1,[]=>(0,[])
 |d+1,n::X=>
  if n.1=5∨n.1=6 then((uv (zig n.2.2.1)).length,X)
  else if n.1=8 then((uv (n.2.2.2.1.size:Int)).length+n.2.2.2.1.size,X)
  else if n.1=9 then((if n.2.2.2.2.1≤14 then 1 else 1+(uv n.2.2.2.2.1).length)+(Gj (cost d) false n.2.2.2.2.1.toNat 0 X).1,(Gj (cost d) false n.2.2.2.2.1.toNat 0 X).2)
  else if n.1=12 then((Gj (cost d) true n.2.2.2.2.1.toNat 0 X).1+1,(Gj (cost d) true n.2.2.2.2.1.toNat 0 X).2)
  else(0,X)
theorem MF{α:Type}{l:List α}{a b:Nat}{x:α}(h:l[a]?=some x)(hab:a<b):slice l a b=x::slice l (a+1) b:=by
 rw[←Kh l (show a≤a+1 by omega) (show a+1≤b by omega),Ht h];rfl
def LA(d:Nat)(l:List AR)(a b n:Nat):Prop:=∀rest,(cost d (slice l a b++rest)).2=rest∧(cost d (slice l a b++rest)).1=n
def Kv(d:Nat)(st:Bool)(c:Nat)(last:Int)(l:List AR)(a b n:Nat):Prop:=∀rest,(Gj (cost d) st c last (slice l a b++rest)).2=rest∧(Gj (cost d) st c last (slice l a b++rest)).1=n
theorem OB{d:Nat}{st:Bool}{last:Int}{l:List AR}{a:Nat}:Kv d st 0 last l a a 0:=fun rest=>by
 rw[NT];exact⟨rfl,rfl⟩
theorem OA{d:Nat}{st:Bool}{c:Nat}{last:Int}{l:List AR}{pos mid nx m1 m2 m:Nat}{p0:AR}(hp:l[pos]?=some p0)(h1:pos<mid)(h2:mid≤nx)(c1:LA d l pos mid m1)(c2:Kv d st c p0.2.1 l mid nx m2)
 (hm:m=(if st then(EN p0 last).length else 0)+m1+m2):Kv d st (c+1) last l pos nx m:=fun rest=>by
 obtain⟨a1,a2⟩:=c1 (slice l mid nx++rest);obtain⟨b1,b2⟩:=c2 rest;have e:slice l pos nx++rest=p0::(slice l (pos+1) mid++(slice l mid nx++rest)):=by
  rw[←Kh l (show pos≤mid by omega) h2,MF hp h1];simp
 rw[MF hp h1,List.cons_append] at a1 a2;rw[e];simp only[Gj,a1,a2,b1,b2];exact⟨trivial,hm.symm⟩
theorem K7{n:AR}(h:Cr n=true):n.1=1∨n.1=2∨n.1=5∨n.1=6∨n.1=8∨n.1=9∨n.1=12:=by
 unfold Cr at h
 repeat' split at h
 all_goals simp only[BZ,beq_iff_eq,Ce,Bool.or_eq_true] at h
 all_goals omega
theorem aai(p:AR)(last:Int):0<(EN p last).length∧(EN p last).length≤11:=by
 unfold EN;have:=G6 (zig p.2.1);split<;>simp<;>omega
theorem aag{p:AR}{last:Int}(hk:Cr p=true)(h:last+1≤p.2.1):Bn (EN p last):=by
 have:=K7 hk;unfold EN;split
 ·exact Bn.cons (by omega) (by omega) Bn.nil
 ·exact Bn.cons (by omega) (by omega) (Im _)
def sn(id j:Int):AR:=(12,id,0,⟨#[]⟩,j,())
theorem LQ{s:ByteArray}(h:ig s ⟨#[]⟩=true):s=⟨#[]⟩:=by
 rw[F6] at h;exact of_decide_eq_true h
inductive Bq(α:Type) where
 |bad (code:Int)
 |ok (p:Nat) (x:α)
def CP(x:Int):Int:=if x%2=0 then(x%18446744073709551616)/2 else-((x%18446744073709551616)/2)-1
def int32(x:Int):Bool:=decide (-2147483648≤x)&&decide (x≤2147483647)
def Ib(b:List Int)(p:Nat):Bq (Int×Int):=
 match b[p]? with
 |none=> .bad 1
 |some h=>
  match(if h/16=15 then(gv (b.drop (p+1))).map fun x=>(x.1,p+1+x.2) else some (h/16,p+1)) with
  |none=> .bad 1
  |some (many,q)=>
   if many=0 then .ok q (0,0)
   else if D7 (h%16)=false then .bad 2
   else if many<0∨1500<many then .bad 4
   else .ok q (many,h%16)
def Ia(b:List Int)(p:Nat)(last:Int):Bq (Int×Int):=
 match b[p]? with
 |none=> .bad 1
 |some h=>
  if h=0 then .ok (p+1) (0,0)
  else if isKind (h%16)=false then .bad 2
  else match(if h/16=0 then(gv (b.drop (p+1))).map fun x=>(CP x.1,p+1+x.2) else some (last+h/16,p+1)) with
  |none=> .bad 1
  |some (id,q)=>
   if id<1∨1000<id then .bad 3
   else if id≤last then .bad 5
   else .ok q (h%16,id)
def Gt(b:List Int)(p:Nat):Bq ByteArray:=
 match gv (b.drop p) with
 |none=> .bad 1
 |some (u,n)=>
  if u<0∨300<u then .bad 4
  else if(b.length:Int)-(p+n:Nat)<u then .bad 1
  else .ok (p+n+u.toNat) (yM ((b.drop (p+n)).take u.toNat))
def Dg(S:Nat→Nat→Bq (List AR)):Nat→Nat→Nat→Bq (List AR)
 |0,p,_=> .ok p []
 |m+1,p,c=>match S p c with
  | .bad e=> .bad e
  | .ok q Y=>match Dg S m q (c+Y.length) with
    | .bad e=> .bad e
    | .ok r Z=> .ok r (Y++Z)
def Ey(S:Int→Int→Nat→Nat→Bq (List AR))(b:List Int):Nat→Int→Nat→Nat→Bq (Nat×List AR)
 |0,_,_,_=> .bad 1
 |f+1,last,p,c=>match Ia b p last with
  | .bad e=> .bad e
  | .ok q (t,id)=>
    if t=0 then .ok q (0,[])
    else match S t id q c with
    | .bad e=> .bad e
    | .ok r Y=>match Ey S b f id r (c+Y.length) with
      | .bad e=> .bad e
      | .ok z (m,Z)=> .ok z (m+1,Y++Z)
def Dr:Nat→List Int→Int→Int→Nat→Nat→Bq (List AR)
 |0,_,_,_,_,_=> .bad 4
 |d+1,b,kind,id,p,c=>
  if c=1500 then .bad 4
  else if kind=5∨kind=6 then
   match gv (b.drop p) with
   |none=> .bad 1
   |some (u,n)=>if kind=5∧int32 (CP u)=false then .bad 3 else .ok (p+n) [(kind,id,CP u,⟨#[]⟩,0,())]
  else if kind=8 then
   match Gt b p with
   | .bad e=> .bad e
   | .ok q s=> .ok q [(8,id,0,s,0,())]
  else if kind=9 then
   match Ib b p with
   | .bad e=> .bad e
   | .ok q (many,item)=>match Dg (fun p c=>Dr d b item 0 p c) many.toNat q (c+1) with
     | .bad e=> .bad e
     | .ok r Y=> .ok r ((9,id,item,⟨#[]⟩,many,())::Y)
  else if kind=12 then
   match Ey (fun t id p c=>Dr d b t id p c) b 1002 0 p (c+1) with
   | .bad e=> .bad e
   | .ok r (m,Y)=> .ok r ((12,id,0,⟨#[]⟩,(m:Int),())::Y)
  else .ok p [(kind,id,0,⟨#[]⟩,0,())]
theorem Oy{u:Int}(h:Bt u):zig (CP u)=u:=by
 obtain⟨h0,h1⟩:=h;unfold zig CP;simp only[IntKind.wrap_i64];split<;>split<;>omega
theorem M6(u:Int):Bt (CP u):=by
 unfold CP Bt;split<;>omega
theorem Io(k:Nat){u:Int}(h:Bt u):F8 k u=some (CP u):=by
 have h2:=M6 u;have:=Ov k (CP u) h2.1 h2.2
 rwa [Oy h] at this
theorem IJ{t:Int}(h:D7 t=true):isKind t=true:=by unfold isKind;rw[h];simp
theorem KZ{t:Int}(h:isKind t=true):t=1∨t=2∨t=5∨t=6∨t=8∨t=9∨t=12:=by
 unfold isKind D7 at h;simp only[Bool.or_eq_true,beq_iff_eq] at h;omega
theorem La{b:List Int}{p:Nat}{last:Int}{q:Nat}{t id:Int}(h:Ia b p last= .ok q (t,id)):p<q∧(t=0∨(isKind t=true∧t≠0∧last+1≤id∧1≤id∧id≤1000)):=by
 unfold Ia at h;split at h
 ·cases h
 ·rename_i y hy
  split at h
  ·simp only[Bq.ok.injEq,Prod.mk.injEq] at h
   exact⟨by omega,.inl h.2.1.symm⟩
  ·split at h
   ·cases h
   ·rename_i hk
    split at h
    ·cases h
    ·rename_i id' q' hm
     split at h
     ·cases h
     ·split at h
      ·cases h
      ·simp only[Bq.ok.injEq,Prod.mk.injEq] at h
       obtain⟨rfl,rfl,rfl⟩:=h;have hk:isKind (y%16)=true:=by simpa using hk
       refine⟨?_,.inr ⟨hk,?_,by omega,by omega,by omega⟩⟩
       ·split at hm
        ·cases hg:gv (b.drop (p+1)) with
         |none=>rw[hg] at hm;cases hm
         |some x=>
          rw[hg] at hm;simp only[Option.map_some,Dt,Prod.mk.injEq] at hm;omega
        ·simp only[Dt,Prod.mk.injEq] at hm
         omega
       ·rcases KZ hk with e|e|e|e|e|e|e<;>omega
theorem Lb{b:List Int}{p q:Nat}{many item:Int}(h:Ib b p= .ok q (many,item)):p<q∧((many=0∧item=0)∨(1≤many∧many≤1500∧D7 item=true)):=by
 unfold Ib at h;split at h
 ·cases h
 ·rename_i y hy
  split at h
  ·cases h
  ·rename_i m q' hm
   have hq:p<q':=by
    split at hm
    ·cases hg:gv (b.drop (p+1)) with
     |none=>rw[hg] at hm;cases hm
     |some x=>
      rw[hg] at hm;simp only[Option.map_some,Dt,Prod.mk.injEq] at hm;omega
    ·simp only[Dt,Prod.mk.injEq] at hm
     omega
   split at h
   ·simp only[Bq.ok.injEq,Prod.mk.injEq] at h
    exact⟨by omega,.inl ⟨h.2.1.symm,h.2.2.symm⟩⟩
   ·split at h
    ·cases h
    ·rename_i hi
     split at h
     ·cases h
     ·simp only[Bq.ok.injEq,Prod.mk.injEq] at h
      obtain⟨rfl,rfl,rfl⟩:=h;exact⟨hq,.inr ⟨by omega,by omega,by simpa using hi⟩⟩
theorem NM{b:List Int}{p q:Nat}{s:ByteArray}(h:Gt b p= .ok q s):p≤q∧s.size≤300:=by
 unfold Gt at h;split at h
 ·cases h
 ·split at h
  ·cases h
  ·split at h
   ·cases h
   ·simp only[Bq.ok.injEq] at h
    obtain⟨rfl,rfl⟩:=h;refine⟨by omega,?_⟩;rw[II,List.length_take];omega
def M7(d:Nat)(kind id:Int)(c:Nat)(Y:List AR):Prop:=∃n X,Y=n::X∧n.1=kind∧n.2.1=id∧Enc d Y∧c+Y.length≤1500
theorem abL{d:Nat}{item:Int}{S:Nat→Nat→Bq (List AR)}(ih:∀p c q Y,c≤1500→S p c= .ok q Y→p≤q∧M7 d item 0 c Y)(n:AR)(hn:n.1=9)(hi:n.2.2.1=item):∀(m p c:Nat) (last:Int) (q:Nat) (Y:List AR),c≤1500→Dg S m p c= .ok q Y→p≤q∧H6 (Enc d) n m last Y∧c+Y.length≤1500:=by
 intro m
 induction m with
 |zero=>
  intro p c last q Y hc h;simp only[Dg,Bq.ok.injEq] at h;obtain⟨rfl,rfl⟩:=h;exact⟨Nat.le_refl _,rfl,by simpa using hc⟩
 |succ m H_=>
  intro p c last q Y hc h;simp only[Dg] at h;split at h
  ·cases h
  ·rename_i q1 Y1 h1
   split at h
   ·cases h
   ·rename_i q2 Z h2
    simp only[Bq.ok.injEq] at h;obtain⟨rfl,rfl⟩:=h;obtain⟨hp,x,X,rfl,x1,x2,x3,x4⟩:=ih _ _ _ _ hc h1;obtain⟨g0,g1,g2⟩:=H_ _ _ x.2.1 _ _ (by omega) h2;exact⟨by omega,⟨x,X,Z,rfl,fun _=>⟨by rw[x1,hi],x2⟩,fun h12=>by omega,x3,g1⟩,by simp at g2⊢;omega⟩
theorem abD{d:Nat}{S:Int→Int→Nat→Nat→Bq (List AR)}{b:List Int}(ih:∀t id p c q Y,isKind t=true→c≤1500→S t id p c= .ok q Y→p≤q∧M7 d t id c Y)(n:AR)(hn:n.1=12):∀(f:Nat) (last:Int) (p c q m:Nat) (Y:List AR),c≤1500→Ey S b f last p c= .ok q (m,Y)→p<q∧H6 (Enc d) n m last Y∧c+Y.length≤1500:=by
 intro f
 induction f with
 |zero=>intro last p c q m Y hc h;cases h
 |succ f H9=>
  intro last p c q m Y hc h;simp only[Ey] at h;split at h
  ·cases h
  ·rename_i q1 t id h1
   obtain⟨a1,a2⟩:=La h1;split at h
   ·simp only[Bq.ok.injEq,Prod.mk.injEq] at h
    obtain⟨rfl,rfl,rfl⟩:=h;exact⟨a1,rfl,by simpa using hc⟩
   ·rename_i ht
    rcases a2 with a2|⟨a2,_,a3,a4,a5⟩
    ·exact(ht a2).elim
    ·split at h
     ·cases h
     ·rename_i q2 Y1 h2
      split at h
      ·cases h
      ·rename_i q3 m' Z h3
       simp only[Bq.ok.injEq,Prod.mk.injEq] at h;obtain⟨rfl,rfl,rfl⟩:=h;obtain⟨hp,x,X,rfl,x1,x2,x3,x4⟩:=ih _ _ _ _ _ _ a2 hc h2;obtain⟨g0,g1,g2⟩:=H9 _ _ _ _ _ _ (by omega) h3;rw[←x2] at g1;exact⟨by omega,⟨x,X,Z,rfl,fun h9=>by omega,fun _=>⟨by omega,by omega⟩,x3,g1⟩,by simp at g2⊢;omega⟩
theorem Ke:∀(d:Nat) (b:List Int) (kind id:Int) (p c q:Nat) (Y:List AR),isKind kind=true→c≤1500→Dr d b kind id p c= .ok q Y→p≤q∧M7 d kind id c Y:=by
 intro d
 induction d with
 |zero=>intro b kind id p c q Y hk hc h;cases h
 |succ d ih=>
  intro b kind id p c q Y hk hc h;have one:∀n:AR,Cr n=true→n.2.2.2.2.1=0→Enc (d+1) [n]:=fun n hn h0=>⟨hn,by rw[h0];rfl⟩;have ez:ig A7 ⟨#[]⟩=true:=by rw[F6];simp
  simp only[Dr] at h;split at h
  ·cases h
  ·rename_i Iw
   split at h
   ·rename_i E8
    split at h
    ·cases h
    ·rename_i u n hg
     split at h
     ·cases h
     ·rename_i h32
      simp only[Bq.ok.injEq] at h;obtain⟨rfl,rfl⟩:=h;refine⟨by omega,_,[],rfl,rfl,rfl,one _ ?_ rfl,by simp;omega⟩;unfold Cr;by_cases h5:kind=5
      ·have:int32 (CP u)=true:=by
        cases hh:int32 (CP u) with
        |true=>rfl
        |false=>exact(h32 ⟨h5,hh⟩).elim
       unfold int32 at this;simp only[h5,if_true,this,ez,Er];rfl
      ·have h6:kind=6:=by omega
       simp[h6,ez]
   ·rename_i E8
    split at h
    ·rename_i h8
     split at h
     ·cases h
     ·rename_i q' s hs
      simp only[Bq.ok.injEq] at h;obtain⟨rfl,rfl⟩:=h;obtain⟨s1,s2⟩:=NM hs;refine⟨s1,_,[],rfl,h8.symm,rfl,one _ ?_ rfl,by simp;omega⟩;unfold Cr;simp;omega
    ·rename_i h8
     split at h
     ·rename_i h9
      split at h
      ·cases h
      ·rename_i q1 many item hm
       obtain⟨m0,m1⟩:=Lb hm;split at h
       ·cases h
       ·rename_i q2 Y' hp
        simp only[Bq.ok.injEq] at h;obtain⟨rfl,rfl⟩:=h;rcases m1 with⟨rfl,rfl⟩|⟨m1,m2,m3⟩
        ·simp only[Int.toNat_zero,Dg,Bq.ok.injEq] at hp
         obtain⟨rfl,rfl⟩:=hp;refine⟨by omega,_,[],rfl,h9.symm,rfl,one _ ?_ rfl,by simp;omega⟩;unfold Cr;simp[ez]
        ·obtain⟨g0,g1,g2⟩:=abL (d:=d) (item:=item) (fun p c q Y hc h=>ih b item 0 p c q Y (IJ m3) hc h) (9,id,item,⟨#[]⟩,many,()) rfl rfl _ _ _ 0 _ _ (by omega) hp
         refine⟨by omega,_,Y',rfl,h9.symm,rfl,⟨?_,g1⟩,by simp;omega⟩;unfold Cr;simp[ez,m3];omega
     ·rename_i h9
      split at h
      ·rename_i h12
       split at h
       ·cases h
       ·rename_i q1 m Y' hf
        simp only[Bq.ok.injEq] at h;obtain⟨rfl,rfl⟩:=h;obtain⟨g0,g1,g2⟩:=abD (d:=d) (fun t id p c q Y hk hc h=>ih b t id p c q Y hk hc h) (12,id,0,⟨#[]⟩,(m:Int),()) rfl _ _ _ _ _ _ _ (by omega) hf;refine⟨by omega,_,Y',rfl,h12.symm,rfl,⟨?_,?_⟩,by simp;omega⟩
        ·unfold Cr
         simp[ez]
        ·show H6 (Enc d) _ ((m:Int)).toNat 0 Y'
         rw[Int.toNat_natCast];exact g1
      ·rename_i h12
       simp only[Bq.ok.injEq] at h;obtain⟨rfl,rfl⟩:=h;refine⟨Nat.le_refl _,_,[],rfl,rfl,rfl,one _ ?_ rfl,by simp;omega⟩;have:kind=1∨kind=2:=by
        rcases KZ hk with e|e|e|e|e|e|e<;>omega
       unfold Cr;rcases this with rfl|rfl<;>simp[ez]
end Go.Bd
end
section
namespace Go.Bd
open Go.Am Go.Fn
abbrev D_(b:List Int)(p:Nat):A_:=(b,(p:Int),(),0,())
variable(k:Nat)(hk:2000≤k)
theorem K_{b:List Int}{p:Nat}{y:Int}{r:List Int}{acc:List AR}(hb:b.length<4611686018427387904)(h:b.drop p=y::r)(h0:0≤y)(h1:y<256):
 Ho k (D_ b p) acc=some (y,(D_ b (p+1),acc)):=by
 obtain⟨g1,g2,g3⟩:=KL h;unfold Ho;have e:IntKind.wrap .i64 ((p:Int)+1)=((p+1:Nat):Int):=by rw[AY (by omega) (by omega)];omega
 have e2:IntKind.wrap .i64 (((p+1:Nat):Int)-1)=(p:Int):=by rw[AY (by omega) (by omega)];omega
 have c:decide ((p:Int)≥(b.length:Int))=false:=A8 (by omega);simp only[Bw rfl,cst,AQ,c,Cu,AU,e,e2,Cg,g1,AY (show -9223372036854775808≤y by omega) (by omega)]
theorem MW(hk:2000≤k){b:List Int}{p:Nat}{x:Int}{r:List Int}{acc:List AR}(hb:b.length<4611686018427387904)(h:b.drop p=uv x++r)(hx:Bt x):
 GU k (D_ b p) acc=some (x,(D_ b (p+(uv x).length),acc)):=by
 unfold GU;rw[show(D_ b p).1=b from rfl,show(D_ b p).2.1=(p:Int) from rfl,acW k (by omega) b p x r hb h hx.1 hx.2];simp only[AQ,Bw rfl,cst,Bb,Cu,AU]
theorem acH(hk:2000≤k){b:List Int}{p:Nat}{s:ByteArray}{r:List Int}{acc:List AR}(hb:b.length<4611686018427387904)(h:b.drop p=uv (s.size:Int)++(fH s++r))(hs:s.size≤300):
 DT k (D_ b p) acc=some (s,(D_ b (p+((uv (s.size:Int)).length+s.size)),acc)):=by
 have hu:=(G6 (s.size:Int)).2;obtain⟨d1,d2⟩:=KJ h;have hlen:=congrArg List.length h;simp[vR] at hlen;have hu0:=(G6 (s.size:Int)).1;unfold DT DT.c4 DT.c6;rw[MW k hk hb h ⟨by omega,by omega⟩];have e1:IntKind.wrap .i64 ((b.length:Int)-((p+(uv (s.size:Int)).length:Nat):Int))=(b.length:Int)-((p+(uv (s.size:Int)).length:Nat):Int):=AY (by omega) (by omega);have e2:IntKind.wrap .i64 (((p+(uv (s.size:Int)).length:Nat):Int)+(s.size:Int))=((p+((uv (s.size:Int)).length+s.size):Nat):Int):=by rw[AY (by omega) (by omega)];omega
 have e3:IntKind.wrap .i64 (((p+((uv (s.size:Int)).length+s.size):Nat):Int)-(s.size:Int))=((p+(uv (s.size:Int)).length:Nat):Int):=by rw[AY (by omega) (by omega)];omega
 have c1:(decide ((0:Int)≤(s.size:Int))&&decide ((s.size:Int)≤300))=true:=by simp;omega
 have c2:decide ((s.size:Int)>(b.length:Int)-((p+(uv (s.size:Int)).length:Nat):Int))=false:=A8 (by omega);have c3:jM ((p+(uv (s.size:Int)).length:Nat):Int) ((p+((uv (s.size:Int)).length+s.size):Nat):Int) b.length=true:=EF (by omega) (by omega) (by omega);have hcut:kP b ((p+(uv (s.size:Int)).length:Nat):Int) ((p+((uv (s.size:Int)).length+s.size):Nat):Int)=fH s:=by
  unfold kP;rw[Int.toNat_natCast,Int.toNat_natCast,List.drop_take,d1,show p+((uv (s.size:Int)).length+s.size)-(p+(uv (s.size:Int)).length)=(fH s).length by rw[vR];omega];simp
 simp only[AQ,Bl rfl,Bw rfl,CB,c1,Bb,AP,AU,e1,c2,e2,e3,c3,hcut,PN]
theorem Jh{o:A_}{n:AR}{deep:Nat}{acc:List AR}(ho:o.2.2.2.1=0)(hd:deep≤12)(ha:acc.length<1500):
 Gq k n (deep:Int) o acc=some ((acc.length:Int),(o,acc++[n])):=by
 unfold Gq Gq.c3;have c1:decide ((deep:Int)>12)=false:=A8 (by omega);have c2:((acc.length:Int)==1500)=false:=A9 (by omega);have c3:lim (acc.length+[n].length)=true:=Bz (by simp;omega);have e:IntKind.wrap .i64 (((acc++[n]).length:Int)-1)=(acc.length:Int):=by
  rw[BJ,CQ,AY (by omega) (by omega)];omega
 simp only[c1,c2,AU,AQ,ho,Bw rfl,c3,AP,e]
end Go.Bd
end
section
namespace Go.Bd
open Go.Am Go.Fn
abbrev Cb(b:List Int)(p:Nat)(e:Int):A_:=(b,(p:Int),(),e,())
variable(k:Nat)
theorem GI(b:List Int)(p:Nat)(e:Int)(acc:List AR):ER k e (Cb b p 0) acc=some ((),(Cb b p e,acc)):=by
 unfold ER;rw[Bl rfl,AP]
theorem L8(b:List Int)(p:Nat){e:Int}(he:e≠0)(x:Int)(acc:List AR):ER k x (Cb b p e) acc=some ((),(Cb b p e,acc)):=by
 unfold ER;rw[A9 he,AU]
theorem JY(hk:2000≤k){b:List Int}(hl:b.length<4611686018427387904)(hb:Bn b)(p:Nat)(hp:p≤b.length):Dq k b (p:Int)=match gv (b.drop p) with
 |none=>some (0,0,false)
 |some (u,n)=>some (u,((p+n:Nat):Int),true):=by
 unfold Dq;rw[A8 (by omega),AU];have h:=aax k b p hl hb (by omega) 10 k 0 0 rfl (by omega) (by simp);rw[show((0:Nat):Int)=0 from rfl] at h;rw[h];unfold gv;rw[Nat.add_zero];cases El 10 (b.drop p) with
 |none=>rfl
 |some x=>
  simp only[Option.map_some,Nat.mul_zero,Nat.pow_zero,Nat.mul_one,Nat.zero_add]
theorem MV(hk:2000≤k){b:List Int}(hl:b.length<4611686018427387904)(hb:Bn b)(p:Nat)(hp:p≤b.length)(acc:List AR):GU k (Cb b p 0) acc=match gv (b.drop p) with
 |none=>some (0,(Cb b p 1,acc))
 |some (u,n)=>some (u,(Cb b (p+n) 0,acc)):=by
 unfold GU;rw[show(Cb b p 0).1=b from rfl,show(Cb b p 0).2.1=(p:Int) from rfl,JY k hk hl hb p hp];cases gv (b.drop p) with
 |none=>simp only[AQ,Bw rfl,cst,Bv,Bool.or_true,AP,GI]
 |some x=>simp only[AQ,Bw rfl,cst,Bb,Cu,AU]
theorem acX(hk:2000≤k){b:List Int}(hl:b.length<4611686018427387904)(hb:Bn b)(p:Nat)(hp:p≤b.length){e:Int}(he:e≠0)(acc:List AR):GU k (Cb b p e) acc=some (0,(Cb b p e,acc)):=by
 unfold GU;rw[show(Cb b p e).1=b from rfl,show(Cb b p e).2.1=(p:Int) from rfl,JY k hk hl hb p hp];cases gv (b.drop p) with
 |none=>simp only[AQ,BQ he,cst,BR,AP,L8 k b p he]
 |some x=>simp only[AQ,BQ he,cst,BR,AP,L8 k b p he]
theorem Qd{b:List Int}(hl:b.length<4611686018427387904)(hb:Bn b)(p:Nat)(hp:p≤b.length)(acc:List AR):Ho k (Cb b p 0) acc=match b[p]? with
 |none=>some (0,(Cb b p 1,acc))
 |some h=>some (h,(Cb b (p+1) 0,acc)):=by
 unfold Ho;by_cases hlt:p<b.length
 ·obtain⟨c,hc,hc2⟩:=JM hlt
  obtain⟨c0,c1⟩:=hb c (List.mem_of_getElem? hc2);rw[hc2];have e:IntKind.wrap .i64 ((p:Int)+1)=((p+1:Nat):Int):=by rw[AY (by omega) (by omega)];omega
  have e2:IntKind.wrap .i64 (((p+1:Nat):Int)-1)=(p:Int):=by rw[AY (by omega) (by omega)];omega
  have cc:decide ((p:Int)≥(b.length:Int))=false:=A8 (by omega);have ec:IntKind.wrap .i64 c=c:=AY (by omega) (by omega);simp only[Bw rfl,cst,AQ,cc,Cu,AU,e,e2,Cg,hc2,ec]
 ·rw[List.getElem?_eq_none (by omega)]
  have c:decide ((p:Int)≥(b.length:Int))=true:=AZ (by omega);simp only[Bw rfl,cst,AQ,c,Bool.or_true,AP,GI]
theorem aa9{b:List Int}(p:Nat){e:Int}(he:e≠0)(acc:List AR):Ho k (Cb b p e) acc=some (0,(Cb b p e,acc)):=by
 unfold Ho;simp only[BQ he,cst,AQ,BR,AP,L8 k b p he]
theorem acG(hk:2000≤k){b:List Int}(hl:b.length<4611686018427387904)(hb:Bn b)(p:Nat)(hp:p≤b.length)(acc:List AR):
 match Gt b p with
 | .bad e=>e≠0∧∃q,q≤b.length∧DT k (Cb b p 0) acc=some (⟨#[]⟩,(Cb b q e,acc))
 | .ok q s=>DT k (Cb b p 0) acc=some (s,(Cb b q 0,acc)):=by
 unfold DT Gt;rw[MV k hk hl hb p hp];cases hg:gv (b.drop p) with
 |none=>
  refine⟨by decide,p,hp,?_⟩;simp only[AQ,A9 (show ¬(1:Int)=0 by decide),AU,DT.c4,DT.c6,BQ (show ¬(1:Int)=0 by decide),AP]
 |some z=>
  obtain⟨u,n⟩:=z;obtain⟨⟨f0,f1⟩,f2,f3,f4,f5⟩:=EM _ u n (fun x hx=>hb x (List.mem_of_mem_drop hx)) hg;rw[List.length_drop] at f3;simp only[AQ,Bl rfl,AP,CB];by_cases hu:u<0∨300<u
  ·rw[if_pos hu]
   have c1:(decide ((0:Int)≤u)&&decide (u≤300))=false:=by
    rw[Bool.eq_false_iff];intro q;simp only[BZ,Ce] at q;omega
   refine⟨by decide,p+n,by omega,?_⟩;simp only[c1,Bv,AP,GI,AQ,DT.c4,DT.c6,A9 (show ¬(4:Int)=0 by decide),AU,BQ (show ¬(4:Int)=0 by decide)]
  ·rw[if_neg hu]
   have c1:(decide ((0:Int)≤u)&&decide (u≤300))=true:=by simp;omega
   have e1:IntKind.wrap .i64 ((b.length:Int)-((p+n:Nat):Int))=(b.length:Int)-((p+n:Nat):Int):=AY (by omega) (by omega);simp only[c1,Bb,AU,DT.c4,Bl rfl,AP,AQ,e1];by_cases hs:(b.length:Int)-((p+n:Nat):Int)<u
   ·rw[if_pos hs]
    refine⟨by decide,p+n,by omega,?_⟩;simp only[AZ (show u>(b.length:Int)-((p+n:Nat):Int) from hs),AP,GI,AQ,DT.c6,BQ (show ¬(1:Int)=0 by decide)]
   ·rw[if_neg hs]
    obtain⟨U,rfl⟩:=Int.eq_ofNat_of_zero_le (show 0≤u by omega);have e2:IntKind.wrap .i64 (((p+n:Nat):Int)+(U:Int))=((p+n+U:Nat):Int):=by rw[AY (by omega) (by omega)];omega
    have e3:IntKind.wrap .i64 (((p+n+U:Nat):Int)-(U:Int))=((p+n:Nat):Int):=by rw[AY (by omega) (by omega)];omega
    have c3:jM ((p+n:Nat):Int) ((p+n+U:Nat):Int) b.length=true:=EF (by omega) (by omega) (by omega);have hcut:kP b ((p+n:Nat):Int) ((p+n+U:Nat):Int)=(b.drop (p+n)).take U:=by
     unfold kP;rw[Int.toNat_natCast,Int.toNat_natCast,List.drop_take,show p+n+U-(p+n)=U by omega]
    simp only[A8 (show ¬((U:Int)>(b.length:Int)-((p+n:Nat):Int)) from hs),AU,DT.c6,Bw rfl,e2,e3,c3,AP,hcut,Int.toNat_natCast]
def Ja(S:Int→Int→Int→A_→List AR→Option (Unit×A_×List AR))(b:List Int)(kind id deep:Int)(p:Nat)(acc:List AR)(r:Bq (List AR)):Prop:=
 match r with
 | .bad e=>e≠0∧∃q l,q≤b.length∧S kind id deep (Cb b p 0) acc=some ((),(Cb b q e,l))
 | .ok q Y=>q≤b.length∧S kind id deep (Cb b p 0) acc=some ((),(Cb b q 0,acc++Y))
theorem aaz(S:Int→Int→Int→A_→List AR→Option (Unit×A_×List AR))(b:List Int)(item:Int)(deep:Nat)(Mc:deep≤100)(P:Nat→Nat→Bq (List AR))
 (ih:∀(p:Nat) (acc:List AR),p≤b.length→acc.length≤1500→Ja S b item 0 ((deep+1:Nat):Int) p acc (P p acc.length))
 (hP:∀p c q Y,c≤1500→P p c= .ok q Y→c+Y.length≤1500) (many:Int) (hm:many≤1500):
 ∀(m f:Nat) (i:Int) (p:Nat) (acc:List AR),many-i=m→0≤i→m<f→p≤b.length→acc.length≤1500→
 match Dg P m p acc.length with
 | .bad e=>e≠0∧∃q l,q≤b.length∧Ca.DI k S f (deep:Int) many item i (Cb b p 0) acc=some ((),(Cb b q e,l))
 | .ok q Y=>q≤b.length∧Ca.DI k S f (deep:Int) many item i (Cb b p 0) acc=some ((),(Cb b q 0,acc++Y)):=by
 have hdw:IntKind.wrap .i64 ((deep:Int)+1)=((deep+1:Nat):Int):=by rw[AY (by omega) (by omega)];omega
 intro m
 induction m with
 |zero=>
  intro f i p acc hi h0 hf hp hc;obtain⟨f,rfl⟩:∃j,f=j+1:=⟨f-1,by omega⟩;simp only[Dg,Ca.DI,A8 (show ¬i<many by omega),AU,AQ,DU];exact⟨hp,trivial⟩
 |succ m H_=>
  intro f i p acc hi h0 hf hp hc;obtain⟨f,rfl⟩:∃j,f=j+1:=⟨f-1,by omega⟩;have hi1:IntKind.wrap .i64 (i+1)=i+1:=AY (by omega) (by omega);have h1:=ih p acc hp hc;simp only[Dg,Ca.DI,AZ (show i<many by omega),AP,AQ,Bl rfl,hdw,hi1];unfold Ja at h1;cases hr:P p acc.length with
  |bad e=>
   rw[hr] at h1;obtain⟨he,q,l,hq,e1⟩:=h1;refine⟨he,q,l,hq,?_⟩;obtain⟨f,rfl⟩:∃j,f=j+1:=⟨f-1,by omega⟩;simp only[e1,AQ,Ca.DI,A9 he];cases decide (i+1<many)<;>rfl
  |ok q Y=>
   rw[hr] at h1;obtain⟨hq,e1⟩:=h1;have hlen:=hP _ _ _ _ hc hr;have h2:=H_ f (i+1) q (acc++Y) (by omega) (by omega) (by omega) hq (by rw[BJ];exact hlen);rw[BJ] at h2;simp only[e1,AQ];cases hr2:Dg P m q (acc.length+Y.length) with
   |bad e=>rw[hr2] at h2;exact h2
   |ok q2 Z=>rw[hr2] at h2;simpa[EI] using h2
def M8(b:List Int)(pre:List AR)(Dk:Int)(j:Nat)(mid:List AR)(r:Bq (Nat×List AR))(X:Option (Unit×A_×List AR)):Prop:=
 match r with
 | .bad e=>e≠0∧∃q l,q≤b.length∧X=some ((),(Cb b q e,l))
 | .ok q (m,Y)=>q≤b.length∧X=some ((),(Cb b q 0,pre++sn Dk ((j+m:Nat):Int)::(mid++Y)))
theorem aav(hk:2000≤k)(S:Int→Int→Int→A_→List AR→Option (Unit×A_×List AR))(b:List Int)(hl:b.length<4611686018427387904)(hb:Bn b)(deep:Nat)(Mc:deep≤100)(P:Int→Int→Nat→Nat→Bq (List AR))
 (ih:∀(t id:Int) (p:Nat) (acc:List AR),isKind t=true→p≤b.length→acc.length≤1500→Ja S b t id ((deep+1:Nat):Int) p acc (P t id p acc.length))
 (hP:∀t id p c q Y,isKind t=true→c≤1500→P t id p c= .ok q Y→c+Y.length≤1500) (Dk:Int) (pre:List AR):
 ∀(g f:Nat) (last:Int) (p:Nat) (j:Nat) (mid:List AR),1002≤(g:Int)+last→0≤last→last≤1000→g<f→p≤b.length→pre.length+1+mid.length≤1500→(j:Int)+g≤4000→
 M8 b pre Dk j mid (Ey P b g last p (pre.length+1+mid.length)) (BG.l1 k S f (pre.length:Int) (deep:Int) last (Cb b p 0) (pre++sn Dk j::mid)):=by
 have hdw:IntKind.wrap .i64 ((deep:Int)+1)=((deep+1:Nat):Int):=by rw[AY (by omega) (by omega)];omega
 intro g
 induction g with
 |zero=>intro f last p j mid h1 h2 h3;omega
 |succ g NA=>
  intro f last p j mid h1 h2 h3 hf hp hc hj;obtain⟨f,rfl⟩:∃j,f=j+1:=⟨f-1,by omega⟩;simp only[Ey,Ia,BG.l1,Qd k hl hb p hp];cases hy:b[p]? with
  |none=>
   refine⟨by decide,p,pre++sn Dk j::mid,hp,?_⟩;simp only[AQ,BQ (show ¬(1:Int)=0 by decide),cst,BR,AP]
  |some y=>
   have hp1:p<b.length:=(List.getElem?_eq_some_iff.1 hy).1;obtain⟨y0,y1⟩:=hb y (List.mem_of_getElem? hy);simp only[AQ,Bw rfl,cst,Cm];by_cases hy0:y=0
   ·rw[if_pos hy0]
    simp only[Bl hy0,AP,if_true];exact⟨by omega,by simp⟩
   ·have hmod:Int.tmod y 16=y%16:=Int.tmod_eq_emod_of_nonneg y0
    have hdiv:IntKind.wrap .i64 (last+IntKind.wrap .i64 (Int.tdiv y 16))=last+y/16:=by
     rw[Int.tdiv_eq_ediv_of_nonneg y0,AY (show -9223372036854775808≤y/16 by omega) (by omega),AY (by omega) (by omega)]
    rw[if_neg hy0];simp only[A9 hy0,AU,hmod,hdiv,J7,AQ];have hty:(D7 (y%16)||((y%16==1||y%16==2)&& !false))=isKind (y%16):=by
     unfold isKind;cases D7 (y%16)<;>cases(y%16==1)<;>cases(y%16==2)<;>rfl
    rw[hty];have N7:∀(q:Nat) (e:Int),e≠0→∀x y z:Int,BG.c8 k S (BG.l1 k S f) (pre.length:Int) (deep:Int) x y z (Cb b q e) (pre++sn Dk j::mid)=some ((),(Cb b q e,pre++sn Dk j::mid)):=by
     intro q e he x y z;simp only[BG.c8,BG.c10,BG.c12,A9 he,AU,AQ,BQ he,AP]
    by_cases hkd:isKind (y%16)=true
    ·rw[if_neg (by rw[hkd];decide),hkd]
     simp only[Bb,AU,BG.c6]
     have tail:∀(id:Int) (q:Nat),Bt id→q≤b.length→
      M8 b pre Dk j mid (match(if id<1∨1000<id then(.bad 3:Bq (Int×Int)) else if id≤last then .bad 5 else .ok q (y%16,id)) with
       | .bad e=> .bad e
       | .ok q (t,id)=>if t=0 then .ok q (0,[]) else match P t id q (pre.length+1+mid.length) with
         | .bad e=> .bad e
         | .ok r Y=>match Ey P b g id r (pre.length+1+mid.length+Y.length) with
           | .bad e=> .bad e
           | .ok z (m,Z)=> .ok z (m+1,Y++Z))
       (BG.c8 k S (BG.l1 k S f) (pre.length:Int) (deep:Int) last (y%16) id (Cb b q 0) (pre++sn Dk j::mid)):=by
      have ht0:¬y%16=0:=by rcases KZ hkd with e|e|e|e|e|e|e<;>omega
      intro id q hid hq;have hget:∀x:AR,gP (pre++x::mid) (pre.length:Int)=some x:=fun x=>by
       rw[Cg,List.getElem?_append_right (Nat.le_refl _)];simp
      have hset:∀x y:AR,List.set (pre++x::mid) (Int.toNat (pre.length:Int)) y=pre++y::mid:=fun x y=>by
       rw[Int.toNat_natCast,List.set_append_right _ _ (Nat.le_refl _)];simp
      by_cases c1:id<1∨1000<id
      ·rw[if_pos c1]
       have hw:(decide ((1:Int)≤id)&&decide (id≤1000))=false:=by
        rw[Bool.eq_false_iff];intro q;simp only[BZ,Ce] at q;omega
       refine⟨by decide,q,pre++sn Dk j::mid,hq,?_⟩;simp only[BG.c8,Bl rfl,AP,CB,hw,AQ,Bv,GI,BG.c10,BG.c12,A9 (show ¬(3:Int)=0 by decide),AU,BQ (show ¬(3:Int)=0 by decide)]
      ·rw[if_neg c1]
       have hw:(decide ((1:Int)≤id)&&decide (id≤1000))=true:=by simp;omega
       simp only[BG.c8,Bl rfl,AP,CB,hw,AQ,Bb,AU,BG.c10];by_cases c2:id≤last
       ·rw[if_pos c2]
        refine⟨by decide,q,pre++sn Dk j::mid,hq,?_⟩;simp only[AZ c2,AP,GI,AQ,BG.c12,BQ (show ¬(5:Int)=0 by decide)]
       ·rw[if_neg c2]
        have KP:IntKind.wrap .i64 ((j:Int)+1)=((j+1:Nat):Int):=by rw[AY (by omega) (by omega)];omega
        have hsn:((sn Dk j).1,(sn Dk j).2.1,(sn Dk j).2.2.1,(sn Dk j).2.2.2.1,IntKind.wrap .i64 ((sn Dk j).2.2.2.2.1+1),())=sn Dk ((j+1:Nat):Int):=by
         show(_,_,_,_,IntKind.wrap .i64 ((j:Int)+1),())=_;rw[KP];rfl
        simp only[A8 c2,AU,BG.c12,Bw rfl,hget,hset,AQ,hdw,hsn,if_neg ht0];have hn:=ih (y%16) id q (pre++sn Dk ((j+1:Nat):Int)::mid) hkd hq (by simp;omega);rw[show(pre++sn Dk ((j+1:Nat):Int)::mid).length=pre.length+1+mid.length by simp;omega] at hn;unfold Ja at hn;cases hr:P (y%16) id q (pre.length+1+mid.length) with
        |bad e=>
         rw[hr] at hn;obtain⟨he,q',l,hq',e1⟩:=hn;refine⟨he,q',l,hq',?_⟩;obtain⟨f,rfl⟩:∃j,f=j+1:=⟨f-1,by omega⟩;simp only[e1,AQ,BG.l1,aa9 k q' he,BQ he,cst,BR,AP]
        |ok r Y=>
         rw[hr] at hn;obtain⟨hr1,e1⟩:=hn;have hlen:=hP _ _ _ _ _ _ hkd (by omega) hr;have h4:=NA f id r (j+1) (mid++Y) (by omega) (by omega) (by omega) (by omega) hr1 (by rw[BJ];omega) (by omega);rw[BJ,←Nat.add_assoc] at h4;simp only[e1,AQ,EI,List.cons_append];cases hr2:Ey P b g id r (pre.length+1+mid.length+Y.length) with
         |bad e=>rw[hr2] at h4;exact h4
         |ok z x=>
          obtain⟨m,Z⟩:=x;rw[hr2] at h4;obtain⟨h5,h6⟩:=h4;refine⟨h5,?_⟩;rw[h6,show j+1+m=j+(m+1) by omega,EI]
     by_cases h16:y/16=0
     ·simp only[if_pos h16,AZ (show y<16 by omega),AP,MV k hk hl hb (p+1) (by omega)]
      cases hg:gv (b.drop (p+1)) with
      |none=>
       simp only[Option.map_none,AQ];obtain⟨w,hw⟩:∃w,F8 k 0=some w:=⟨_,Io k ⟨by decide,by decide⟩⟩;refine⟨by decide,p+1,pre++sn Dk j::mid,by omega,?_⟩;rw[hw,AQ,N7 (p+1) 1 (by decide)]
      |some z=>
       obtain⟨u,n⟩:=z;obtain⟨f1,f2,f3,f4,f5⟩:=EM _ u n (fun x hx=>hb x (List.mem_of_mem_drop hx)) hg;rw[List.length_drop] at f3;simp only[Option.map_some,AQ,Io k f1];exact tail (CP u) (p+1+n) (M6 u) (by omega)
     ·simp only[if_neg h16,A8 (show ¬y<16 by omega),AU]
      exact tail (last+y/16) (p+1) ⟨by omega,by omega⟩ (by omega)
    ·have PC:isKind (y%16)=false:=by simpa using hkd
     rw[if_pos PC,PC];simp only[Bv,AP,GI,AQ,BG.c6];refine⟨by decide,p+1,pre++sn Dk j::mid,by omega,?_⟩;by_cases h16:y<16
     ·obtain⟨w,hw⟩:∃w,F8 k 0=some w:=⟨_,Io k ⟨by decide,by decide⟩⟩
      simp only[AZ h16,AP,acX k hk hl hb (p+1) (by omega) (show(2:Int)≠0 by decide),AQ,hw,N7 (p+1) 2 (by decide)]
     ·simp only[A8 h16,AU,N7 (p+1) 2 (by decide)]
theorem Nc{n:AR}{b:List Int}{p:Nat}{deep:Nat}{acc:List AR}(hd:deep≤100)(ha:acc.length≤1500):
 Gq k n (deep:Int) (Cb b p 0) acc=if 12<deep∨acc.length=1500 then some (0,(Cb b p 4,acc)) else some ((acc.length:Int),(Cb b p 0,acc++[n])):=by
 by_cases h:12<deep∨acc.length=1500
 ·rw[if_pos h]
  unfold Gq Gq.c3;have:(decide ((deep:Int)>12)||((acc.length:Int)==1500))=true:=by
   rcases h with h|h
   ·rw[AZ (show(deep:Int)>12 by omega),BR]
   ·rw[Bl (show(acc.length:Int)=1500 by omega),Bool.or_true]
  simp only[cst,this,AQ,AP,GI,BQ (show ¬(4:Int)=0 by decide)]
 ·rw[if_neg h]
  exact Jh k rfl (by omega) (by omega)
theorem aaA(hk:2000≤k)(b:List Int)(hl:b.length<4611686018427387904)(hb:Bn b):∀(d D deep:Nat) (kind id:Int) (p:Nat) (acc:List AR),d+deep=13→2*d<D→isKind kind=true→p≤b.length→acc.length≤1500→
 Ja (Bh.rec k D).1 b kind id (deep:Int) p acc (Dr d b kind id p acc.length):=by
 intro d
 induction d with
 |zero=>
  intro D deep kind id p acc hdd hD hkd hp hc;obtain⟨D,rfl⟩:∃m,D=m+1:=⟨D-1,by omega⟩;refine⟨by decide,p,acc,hp,?_⟩;simp only[Bh.rec,Bh.b];rw[Nc k (by omega) hc,if_pos (by omega)];simp only[AQ,BQ (show ¬(4:Int)=0 by decide),AP]
 |succ d ih=>
  intro D deep kind id p acc hdd hD hkd hp hc;obtain⟨D,rfl⟩:∃m,D=m+2:=⟨D-2,by omega⟩;have hset:∀(acc:List AR) (x y:AR),List.set (acc++[x]) (Int.toNat (acc.length:Int)) y=acc++[y]:=fun acc x y=>by
   rw[Int.toNat_natCast,List.set_append_right _ _ (Nat.le_refl _)];simp
  have hget:∀(acc:List AR) (x:AR),gP (acc++[x]) (acc.length:Int)=some x:=fun acc x=>by
   rw[Cg,List.getElem?_append_right (Nat.le_refl _)];simp
  unfold Dr;by_cases Iw:acc.length=1500
  ·rw[if_pos Iw]
   refine⟨by decide,p,acc,hp,?_⟩;simp only[Bh.rec,Bh.b];rw[Nc k (by omega) hc,if_pos (.inr Iw)];simp only[AQ,BQ (show ¬(4:Int)=0 by decide),AP]
  ·rw[if_neg Iw]
   unfold Ja;simp only[Bh.rec,Bh.b];rw[Nc k (by omega) hc,if_neg (show ¬(12<deep∨acc.length=1500) by omega)];simp only[AQ,Bw rfl,AU];by_cases E8:kind=5∨kind=6
   ·rw[if_pos E8]
    have e0:(cond (kind==5)
         (Bh.c5 k (Bh.rec k (D+1)).2.1 (Bh.rec k (D+1)).2.2 kind (deep:Int) (acc.length:Int) kind (kind==5) (Cb b p 0) (acc++[(kind,id,0,A7,0,())]))
         (Bh.c5 k (Bh.rec k (D+1)).2.1 (Bh.rec k (D+1)).2.2 kind (deep:Int) (acc.length:Int) kind (kind==6) (Cb b p 0) (acc++[(kind,id,0,A7,0,())])))
     =Bh.c5 k (Bh.rec k (D+1)).2.1 (Bh.rec k (D+1)).2.2 kind (deep:Int) (acc.length:Int) kind true (Cb b p 0) (acc++[(kind,id,0,A7,0,())]):=by
     rcases E8 with h|h
     ·rw[Bl h,AP]
     ·rw[A9 (show ¬kind=5 by omega),Bl h,AU]
    simp only[Bh.rec] at e0;rw[e0];simp only[Bh.c5,AP,MV k hk hl hb p hp];cases hg:gv (b.drop p) with
    |none=>
     obtain⟨w,hw⟩:∃w,F8 k 0=some w:=⟨_,Io k ⟨by decide,by decide⟩⟩;refine⟨by decide,p,acc++[(kind,id,w,⟨#[]⟩,0,())],hp,?_⟩;simp only[AQ,hw,A9 (show ¬(1:Int)=0 by decide),BV,Bool.and_false,AU,Bh.c8,hget,hset]
    |some z=>
     obtain⟨u,n⟩:=z;obtain⟨f1,f2,f3,f4,f5⟩:=EM _ u n (fun x hx=>hb x (List.mem_of_mem_drop hx)) hg;rw[List.length_drop] at f3;simp only[AQ,Io k f1,Bl rfl,BV,Bool.and_true,GR,CB];have h32:(decide (-2147483648≤CP u)&&decide (CP u≤2147483647))=int32 (CP u):=rfl;rw[h32];by_cases hbad:kind=5∧int32 (CP u)=false
     ·rw[if_pos hbad]
      refine⟨by decide,p+n,acc++[(kind,id,CP u,⟨#[]⟩,0,())],by omega,?_⟩;simp only[Bl hbad.1,hbad.2,Bv,Bool.and_self,AP,GI,AQ,Bh.c8,hget,hset]
     ·rw[if_neg hbad]
      have hb2:((kind==5)&& !int32 (CP u))=false:=by
       rw[Bool.eq_false_iff];intro q;simp only[BZ,beq_iff_eq,Bool.not_eq_true'] at q;exact hbad q
      refine⟨by omega,?_⟩;simp only[hb2,AU,Bh.c8,hget,hset,AQ]
   ·rw[if_neg E8]
    have e5:(kind==5)=false:=A9 (by omega);have e6:(kind==6)=false:=A9 (by omega);simp only[e5,e6,AU,Bh.c5];by_cases h8:kind=8
    ·subst h8
     simp only[if_true,show((8:Int)==8)=true from rfl,AP,Bh.d10];have ht:=acG k hk hl hb p hp (acc++[(8,id,0,A7,0,())]);cases hr:Gt b p with
     |bad e=>
      rw[hr] at ht;obtain⟨he,q,hq,e1⟩:=ht;refine⟨he,q,acc++[(8,id,0,⟨#[]⟩,0,())],hq,?_⟩;simp only[e1,AQ,hget,hset]
     |ok q s=>
      rw[hr] at ht;have hq:q≤b.length:=by
       unfold Gt at hr;split at hr
       ·cases hr
       ·rename_i u n hg
        obtain⟨f1,f2,f3,f4,f5⟩:=EM _ u n (fun x hx=>hb x (List.mem_of_mem_drop hx)) hg;rw[List.length_drop] at f3;split at hr
        ·cases hr
        ·split at hr
         ·cases hr
         ·simp only[Bq.ok.injEq] at hr
          omega
      refine⟨hq,?_⟩;simp only[ht,AQ,hget,hset]
    ·rw[if_neg h8]
     simp only[A9 h8,AU];by_cases h9:kind=9
     ·subst h9
      simp only[if_true,show((9:Int)==9)=true from rfl,AP,Ca.b,Ib,Qd k hl hb p hp];cases hy:b[p]? with
      |none=>
       refine⟨by decide,p,acc++[(9,id,0,⟨#[]⟩,0,())],hp,?_⟩;simp only[AQ,show(IntKind.wrap .i64 (Int.tdiv 0 16)==15)=false by decide,AU,Ca.c4,BQ (show ¬(1:Int)=0 by decide),cst,BR,AP]
      |some y=>
       have hp1:p<b.length:=(List.getElem?_eq_some_iff.1 hy).1;obtain⟨y0,y1⟩:=hb y (List.mem_of_getElem? hy);have e16:IntKind.wrap .i64 (Int.tdiv y 16)=y/16:=by
        rw[Int.tdiv_eq_ediv_of_nonneg y0,AY (by omega) (by omega)]
       have em:Int.tmod y 16=y%16:=Int.tmod_eq_emod_of_nonneg y0;simp only[AQ,e16,em]
       have tail:∀(many:Int) (q:Nat),Bt many→q≤b.length→
        match(match(if many=0 then(.ok q (0,0):Bq (Int×Int)) else if D7 (y%16)=false then .bad 2 else if many<0∨1500<many then .bad 4 else .ok q (many,y%16)) with
         | .bad e=>(.bad e:Bq (List AR))
         | .ok q (many,item)=>match Dg (fun p c=>Dr d b item 0 p c) many.toNat q (acc.length+1) with
           | .bad e=> .bad e
           | .ok r Y=> .ok r ((9,id,item,⟨#[]⟩,many,())::Y)) with
        | .bad e=>e≠0∧∃q' l,q'≤b.length∧((Ca.c4 k (Bh.rec k D).1 (acc.length:Int) (deep:Int) many (y%16) (Cb b q 0) (acc++[(9,id,0,A7,0,())])).bind fun BC=>some ((),(BC.2.1,BC.2.2)))=some ((),(Cb b q' e,l))
        | .ok q' Y=>q'≤b.length∧((Ca.c4 k (Bh.rec k D).1 (acc.length:Int) (deep:Int) many (y%16) (Cb b q 0) (acc++[(9,id,0,A7,0,())])).bind fun BC=>some ((),(BC.2.1,BC.2.2)))=some ((),(Cb b q' 0,acc++Y)):=by
        intro many q Me hq;simp only[Ca.c4,Bw rfl,cst,Cm,AQ];by_cases h0:many=0
        ·simp only[if_pos h0,Int.toNat_zero,Dg,Bl h0,AP,AQ]
         exact⟨hq,trivial⟩
        ·simp only[if_neg h0,A9 h0,AU,J7,Bb,Bool.and_false,Bool.or_false,AQ]
         by_cases hi:D7 (y%16)=true
         ·rw[if_neg (by rw[hi];decide),hi]
          simp only[Bb,AU,Ca.c7,CB,AQ];by_cases hm:many<0∨1500<many
          ·have hw:(decide ((0:Int)≤many)&&decide (many≤1500))=false:=by
            rw[Bool.eq_false_iff];intro q;simp only[BZ,Ce] at q;omega
           obtain⟨K,hK⟩:∃K,k=K+1:=⟨k-1,by omega⟩;rw[if_pos hm];refine⟨by decide,q,acc++[(9,id,y%16,⟨#[]⟩,many,())],hq,?_⟩;have hstop:Ca.DI k (Bh.rec k D).1 k (deep:Int) many (y%16) 0 (Cb b q 4) (acc++[(9,id,y%16,⟨#[]⟩,many,())])=some ((),(Cb b q 4,acc++[(9,id,y%16,⟨#[]⟩,many,())])):=by
            conv=>lhs;rw[show k=k from rfl]
            have:∀f,f≠0→Ca.DI k (Bh.rec k D).1 f (deep:Int) many (y%16) 0 (Cb b q 4) (acc++[(9,id,y%16,⟨#[]⟩,many,())])=some ((),(Cb b q 4,acc++[(9,id,y%16,⟨#[]⟩,many,())])):=by
             intro f hf;obtain⟨f,rfl⟩:∃j,f=j+1:=⟨f-1,by omega⟩;simp only[Ca.DI,A9 (show ¬(4:Int)=0 by decide)];cases decide ((0:Int)<many)<;>rfl
            exact this k (by omega)
           simp only[hw,Bv,AP,GI,AQ,Ca.c9,hget,hset,hstop]
          ·rw[if_neg hm]
           have hw:(decide ((0:Int)≤many)&&decide (many≤1500))=true:=by simp;omega
           simp only[hw,Bb,AU,Ca.c9,hget,hset,AQ]
           have hp:=aaz k (Bh.rec k D).1 b (y%16) deep (by omega) (fun p c=>Dr d b (y%16) 0 p c)
            (fun p acc hp hc=>ih D (deep+1) (y%16) 0 p acc (by omega) (by omega) (IJ hi) hp hc)
            (fun p c q Y hc h=>by
             obtain⟨_,n,X,rfl,_,_,_,h5⟩:=Ke d b (y%16) 0 p c q Y (IJ hi) hc h;exact h5) many (by omega) many.toNat k 0 q (acc++[(9,id,y%16,⟨#[]⟩,many,())]) (by omega) (by omega) (by omega) hq (by simp;omega)
           rw[BJ,CQ] at hp;cases hr:Dg (fun p c=>Dr d b (y%16) 0 p c) many.toNat q (acc.length+1) with
           |bad e=>
            rw[hr] at hp;obtain⟨he,q',l,hq',e1⟩:=hp;exact⟨he,q',l,hq',by rw[e1];rfl⟩
           |ok q' Y=>
            rw[hr] at hp;obtain⟨hq',e1⟩:=hp;exact⟨hq',by rw[e1];simp⟩
         ·have hif:D7 (y%16)=false:=by simpa using hi
          rw[if_pos hif,hif];simp only[Bv,AP,GI,AQ,Ca.c7,CB];have hstop:Ca.c9 k (Bh.rec k D).1 (acc.length:Int) (deep:Int) many (y%16) (Cb b q 2) (acc++[(9,id,0,A7,0,())])=some ((),(Cb b q 2,acc++[(9,id,y%16,⟨#[]⟩,many,())])):=by
           simp only[Ca.c9,hget,hset,AQ];have:∀f,f≠0→Ca.DI k (Bh.rec k D).1 f (deep:Int) many (y%16) 0 (Cb b q 2) (acc++[(9,id,y%16,⟨#[]⟩,many,())])=some ((),(Cb b q 2,acc++[(9,id,y%16,⟨#[]⟩,many,())])):=by
            intro f hf;obtain⟨f,rfl⟩:∃j,f=j+1:=⟨f-1,by omega⟩;simp only[Ca.DI,A9 (show ¬(2:Int)=0 by decide)];cases decide ((0:Int)<many)<;>rfl
           exact this k (by omega)
          refine⟨by decide,q,acc++[(9,id,y%16,⟨#[]⟩,many,())],hq,?_⟩;cases hw:(decide ((0:Int)≤many)&&decide (many≤1500)) with
          |true=>simp only[Bb,AU,hstop,AQ]
          |false=>simp only[Bv,AP,L8 k b q (show(2:Int)≠0 by decide),AQ,hstop]
       by_cases GK:y/16=15
       ·simp only[if_pos GK,Bl GK,AP,MV k hk hl hb (p+1) (by omega)]
        cases hg:gv (b.drop (p+1)) with
        |none=>
         refine⟨by decide,p+1,acc++[(9,id,0,⟨#[]⟩,0,())],by omega,?_⟩;simp only[Option.map_none,AQ,Ca.c4,BQ (show ¬(1:Int)=0 by decide),cst,BR,AP]
        |some z=>
         obtain⟨u,n⟩:=z;obtain⟨f1,f2,f3,f4,f5⟩:=EM _ u n (fun x hx=>hb x (List.mem_of_mem_drop hx)) hg;rw[List.length_drop] at f3;simp only[Option.map_some,AQ];exact tail u (p+1+n) f1 (by omega)
       ·simp only[if_neg GK,A9 GK,AU]
        exact tail (y/16) (p+1) ⟨by omega,by omega⟩ (by omega)
     ·rw[if_neg h9]
      simp only[A9 h9,AU];by_cases h12:kind=12
      ·subst h12
       simp only[if_true,show((12:Int)==12)=true from rfl,AP,BG.b]
       have hf:=aav k hk (Bh.rec k D).1 b hl hb deep (by omega) (fun t id p c=>Dr d b t id p c)
        (fun t id p acc ht hp hc=>ih D (deep+1) t id p acc (by omega) (by omega) ht hp hc)
        (fun t id p c q Y ht hc h=>by
         obtain⟨_,n,X,rfl,_,_,_,h5⟩:=Ke d b t id p c q Y ht hc h;exact h5) id acc 1002 k 0 p 0 [] (by omega) (by omega) (by omega) (by omega) hp (by simp;omega) (by omega)
       rw[List.length_nil,Nat.add_zero] at hf;rw[show(acc++[((12:Int),id,(0:Int),A7,(0:Int),())]:List AR)=acc++sn id ((0:Nat):Int)::[] from rfl];unfold M8 at hf;cases hr:Ey (fun t id p c=>Dr d b t id p c) b 1002 0 p (acc.length+1) with
       |bad e=>
        rw[hr] at hf;obtain⟨he,q',l,hq',e1⟩:=hf;exact⟨he,q',l,hq',by rw[e1];rfl⟩
       |ok q' x=>
        obtain⟨m,Y⟩:=x;rw[hr] at hf;obtain⟨hq',e1⟩:=hf;refine⟨hq',?_⟩;rw[e1];simp[sn]
      ·rw[if_neg h12]
       simp only[A9 h12,AU];exact⟨hp,trivial⟩
end Go.Bd
end
section
namespace Go.Bd
open Go.Am Go.Fn
variable(k:Nat)
theorem QO(k:IntKind)(x:Int):IntKind.wrap k x%2^k.bits=x%2^k.bits:=by
 have hp:(0:Int)<2^k.bits:=by have:=Nat.two_pow_pos k.bits;exact_mod_cast this
 have h0:=Int.emod_nonneg x (show(2:Int)^k.bits≠0 by omega);cases k<;>simp[IntKind.wrap,IntKind.bits,IntKind.signed]<;>omega
theorem Qb{n:Nat}{a b:Int}(h:a%2^n=b%2^n):BitVec.ofInt n a=BitVec.ofInt n b:=by
 apply BitVec.eq_of_toNat_eq;rw[BitVec.toNat_ofInt,BitVec.toNat_ofInt];have:((2^n:Nat):Int)=(2:Int)^n:=by simp
 rw[this,h]
theorem aba(k:IntKind)(a b:Int):bits .or k (k.wrap a) (k.wrap b)=bits .or k a b:=by
 simp only[bits];rw[Qb (QO k a),Qb (QO k b)]
theorem aa_(k:IntKind){a b i:Nat}(ha:a<2^i)(hab:a+b*2^i<2^k.bits):bits .or k (a:Int) ((b*2^i:Nat):Int)=k.wrap ((a+b*2^i:Nat):Int):=by
 have h1:a|||b*2^i=a+b*2^i:=by
  rw[Nat.or_comm,Nat.mul_comm,←Nat.two_pow_add_eq_or_of_lt ha b,Nat.add_comm]
 simp only[bits,BitVec.ofInt_natCast,BitVec.toNat_or,BitVec.toNat_ofNat];rw[Nat.mod_eq_of_lt (show a<2^k.bits by omega),Nat.mod_eq_of_lt (show b*2^i<2^k.bits by omega),h1]
theorem IM(k:IntKind){a b i:Nat}(hi:i≤k.bits)(ha:a<2^i)(hab:a+b*2^i<2^k.bits):bits .or k (k.wrap (a:Int)) (qV k (b:Int) (i:Int))=k.wrap ((a+b*2^i:Nat):Int):=by
 unfold qV;rw[Int.toNat_natCast,Nat.min_eq_left hi,aba];have:=aa_ k ha hab;rw[←this];simp
def leB(L M:Nat):List Int:=(List.range L).map fun i=>((M/256^i%256:Nat):Int)
theorem De(L M:Nat):(leB L M).length=L:=by simp[leB]
theorem K6{L M i:Nat}(h:i<L):(leB L M)[i]?=some ((M/256^i%256:Nat):Int):=by
 simp[leB,h]
theorem PW(L:Nat):leB L 0=List.replicate L 0:=by
 apply List.ext_getElem (by simp[leB]);intro i h1 h2;simp[leB]
theorem PU(L M:Nat):∀x,x∈leB L M→0≤x∧x<256:=by
 intro x hx;simp only[leB,List.mem_map] at hx;obtain⟨i,_,rfl⟩:=hx;have:=Nat.mod_lt (M/256^i) (show 256>0 by decide);omega
theorem MB(p:Nat):2^p=256^(p/8)*2^(p%8):=by
 rw[show(256:Nat)=2^8 by decide,←Nat.pow_mul,←Nat.pow_add,Nat.div_add_mod]
theorem OU{M p:Nat}(h:M<2^p):M/256^(p/8)<2^(p%8):=by
 rw[MB p] at h;exact Nat.div_lt_of_lt_mul h
theorem Rs(M b p:Nat):(M+b*2^p)/256^(p/8)=M/256^(p/8)+b*2^(p%8):=by
 rw[MB p,show b*(256^(p/8)*2^(p%8))=(b*2^(p%8))*256^(p/8) by rw[Nat.mul_comm (256^_),Nat.mul_assoc],Nat.add_mul_div_right _ _ (Nat.pow_pos (by decide))]
theorem abB{r:Nat}(h:r<8):2^r≤128:=by
 have:=Nat.pow_le_pow_right (n:=2) (by decide) (show r≤7 by omega);simpa using this
theorem OV{M b p:Nat}(h:M<2^p)(hb:b≤1):M/256^(p/8)+b*2^(p%8)<256:=by
 have h1:=OU h;have h2:=abB (Nat.mod_lt p (show 8>0 by decide));have h3:b*2^(p%8)≤1*2^(p%8):=Nat.mul_le_mul_right _ hb;omega
theorem PV{L M b p:Nat}(hp:p<8*L)(h:M<2^p)(hb:b≤1):(leB L M).set (p/8) ((M/256^(p/8)+b*2^(p%8):Nat):Int)=leB L (M+b*2^p):=by
 apply List.ext_getElem (by simp[leB]);intro i h1 h2;simp only[De] at h2;rw[List.getElem_set];by_cases hi:p/8=i
 ·subst hi
  simp only[if_true];simp only[leB,List.getElem_map,List.getElem_range];rw[Rs,Nat.mod_eq_of_lt (OV h hb)]
 ·simp only[hi,if_false,leB,List.getElem_map,List.getElem_range]
  congr 1
  rcases Nat.lt_or_ge i (p/8) with hlt|hge
  ·have hdv:2^p=256^i*(256*(256^(p/8-i-1)*2^(p%8))):=by
    rw[MB p];have:p/8=i+(1+(p/8-i-1)):=by omega
    conv=>lhs;rw[this,Nat.pow_add,Nat.pow_add]
    simp[Nat.mul_assoc]
   rw[hdv,show b*(256^i*(256*(256^(p/8-i-1)*2^(p%8))))=256^i*(256*(b*(256^(p/8-i-1)*2^(p%8)))) by rw[Nat.mul_left_comm,Nat.mul_left_comm b],Nat.add_mul_div_left _ _ (Nat.pow_pos (by decide)),Nat.add_mul_mod_self_left]
  ·have hlt:p<8*i:=by omega
   have hp2:2^(p+1)≤256^i:=by
    rw[show(256:Nat)=2^8 by decide,←Nat.pow_mul];exact Nat.pow_le_pow_right (by decide) (by omega)
   have hb2:b*2^p≤1*2^p:=Nat.mul_le_mul_right _ hb;rw[Nat.pow_succ] at hp2;rw[Nat.div_eq_of_lt (show M<256^i by omega),Nat.div_eq_of_lt (show M+b*2^p<256^i by omega)]
theorem PT(M p:Nat):(M/256^(p/8)%256)/2^(p%8)%2=M/2^p%2:=by
 have h8:=Nat.mod_lt p (show 8>0 by decide);have h1:256=2^(p%8)*(2*2^(7-p%8)):=by
  rw[←Nat.mul_assoc,Nat.mul_right_comm,←Nat.pow_add,show p%8+(7-p%8)=7 by omega]
 have h2:∀x:Nat,x%256/2^(p%8)%2=x/2^(p%8)%2:=by
  intro x;rw[h1,Nat.mod_mul_right_div_self,Nat.mod_mul_right_mod]
 rw[h2,Nat.div_div_eq_div_mul,←MB]
def u64(v:Int):Nat:=(v%18446744073709551616).toNat
theorem MS(v:Int):u64 v<18446744073709551616:=by unfold u64;omega
theorem JB(v:Int):(u64 v:Int)=v%18446744073709551616:=by unfold u64;omega
theorem wrap_u64{v:Int}(h:Bt v):IntKind.wrap .i64 (u64 v:Int)=v:=by
 obtain⟨h0,h1⟩:=h;rw[JB,IntKind.wrap_i64];omega
theorem bit_eq(v:Int){j:Nat}(hj:j<64):(v/2^j)%2=((u64 v/2^j%2:Nat):Int):=by
 have hv:v=(u64 v:Int)+18446744073709551616*(v/18446744073709551616):=by rw[JB];omega
 have hp1:(0:Int)<2^j:=by exact_mod_cast Nat.two_pow_pos j
 have hp0:(2:Int)^j≠0:=by omega
 have hs:(18446744073709551616:Int)=2^j*(2*2^(63-j)):=by
  have:2^j*(2*2^(63-j))=2^64:=by
   rw[←Nat.mul_assoc,Nat.mul_right_comm,←Nat.pow_add,show j+(63-j)=63 by omega]
  have h2:((2^j*(2*2^(63-j)):Nat):Int)=((2^64:Nat):Int):=by rw[this]
  rw[Int.natCast_mul,Int.natCast_mul,Int.natCast_pow,Int.natCast_pow] at h2;exact h2.symm
 have key:∀(u:Nat) (q:Int),(((u:Int)+18446744073709551616*q)/2^j)%2=((u/2^j%2:Nat):Int):=by
  intro u q;rw[hs,Int.mul_assoc,Int.add_mul_ediv_left _ _ hp0];rw[show(2:Int)*2^(63-j)*q=2*(2^(63-j)*q) by rw[Int.mul_assoc],Int.add_mul_emod_self_left];simp
 conv=>lhs;rw[hv]
 exact key _ _
def F_(w:Nat):List Nat→Nat
 |[]=>0
 |u::r=>u%2^w+2^w*F_ w r
theorem NK(w:Nat):∀us:List Nat,F_ w us<2^(us.length*w)
 |[]=>by simp[F_]
 |u::r=>by
  have h1:=NK w r;have h2:=Nat.mod_lt u (Nat.two_pow_pos w);simp only[F_,Co];rw[Nat.add_mul,Nat.one_mul,Nat.pow_add,Nat.mul_comm (2^(r.length*w))];have h3:2^w*(F_ w r+1)≤2^w*2^(r.length*w):=Nat.mul_le_mul_left _ h1;rw[Nat.mul_add] at h3;omega
theorem NL(w u:Nat):∀a:List Nat,F_ w (a++[u])=F_ w a+(u%2^w)*2^(a.length*w)
 |[]=>by simp[F_]
 |x::a=>by
  simp only[List.cons_append,F_,NL w u a,Co];rw[Nat.mul_add,Nat.add_mul (a.length) 1,Nat.one_mul,Nat.pow_add,←Nat.add_assoc]
  congr 1
  rw[Nat.mul_left_comm,Nat.mul_comm (2^w)]
theorem Qh(w:Nat):∀(us:List Nat) (i:Nat) (u:Nat),us[i]?=some u→F_ w us/2^(i*w)%2^w=u%2^w
 |[],i,u,h=>by cases h
 |x::r,0,u,h=>by
  simp at h;subst h;simp[F_]
 |x::r,i+1,u,h=>by
  have:=Qh w r i u (by simpa using h);rw[←this];simp only[F_];rw[Nat.add_mul,Nat.one_mul,Nat.add_comm,Nat.pow_add,Nat.mul_comm (2^(i*w)),←Nat.div_div_eq_div_mul,Nat.add_comm _ (x%2^w),Nat.add_mul_div_left _ _ (Nat.two_pow_pos w),Nat.div_eq_of_lt (Nat.mod_lt _ (Nat.two_pow_pos w)),Nat.zero_add]
theorem mod_succ(u j:Nat):u%2^(j+1)=u%2^j+(u/2^j%2)*2^j:=by
 rw[Nat.pow_succ,Nat.mod_mul,Nat.mul_comm (2^j)]
def bytesOf(n w:Nat):Nat:=(n*w+7)/8
theorem N_{x:Int}(h:0≤x):Int.tdiv x 8=x/8:=Int.tdiv_eq_ediv_of_nonneg h
theorem acI{x:Int}(h:0≤x):Int.tmod x 8=x%8:=Int.tmod_eq_emod_of_nonneg h
end Go.Bd
end
