/- plain laws of the claim's functions -/
import Derived.Test.YtceehofnlhfndaaGreatAmStep
import Derived.Laws.BitsLemmas
import Derived.Laws.Strings
import Derived.Test.YtceehofnlhfndaaGreatENCF0
set_option linter.unnecessarySimpa false
set_option linter.unusedSimpArgs false
set_option linter.unusedVariables false
set_option linter.unusedSectionVars false
section
namespace Go
theorem AR{α β:Type}(a:α)(f:α→Option β):(some a).bind f=f a:=rfl
theorem AQ{α:Type}{a b:α}:cond true a b=a:=rfl
theorem AU{α:Type}{a b:α}:cond false a b=b:=rfl
theorem AX{p:Prop}[inst:Decidable p]:p→decide p=true:=decide_eq_true
theorem AY{p:Prop}[inst:Decidable p]:¬p→decide p=false:=decide_eq_false
theorem Bh:(!true)=false:=rfl
theorem Dm:(!false)=true:=rfl
theorem CO(a b:Bool):((a&&b)=true)=(a=true∧b=true):=Bool.and_eq_true a b
theorem Gl(b:Bool):(true||b)=true:=rfl
theorem EU(b:Bool):(false||b)=b:=Bool.false_or b
theorem Et(b:Bool):(true&&b)=b:=Bool.true_and b
theorem Gj(b:Bool):(false&&b)=false:=rfl
theorem D6(b:Bool):(b||b)=b:=Bool.or_self b
theorem A8{α:Type}{as bs:List α}:(as++bs).length=as.length+bs.length:=List.length_append
theorem Bz{α:Type}{a:α}:[a].length=1:=rfl
theorem Bn{α:Type}{a:α}{as:List α}:(a::as).length=as.length+1:=rfl
theorem C7{α:Type}(as:List α):as++[]=as:=List.append_nil as
theorem CP{α:Type}(as bs cs:List α):as++bs++cs=as++(bs++cs):=List.append_assoc as bs cs
theorem Ef{α:Type}{l:List α}{i:Nat}(h:i<l.length):l[i]?=some l[i]:=List.getElem?_eq_getElem h
theorem Eg{α:Type}(a b:α):(some a=some b)=(a=b):=Option.some.injEq a b
theorem Cz{p:Prop}[inst:Decidable p]:(decide p=true)=p:=decide_eq_true_eq
end Go
namespace Go.Fn
open Go Go.Am
def Jt(k:Nat)(t0:List Int)(t1:Int):Option Int:=
 (gP t0 (IntKind.wrap .i64 (Int.tdiv t1 8))).bind fun y1=>
 cond (decide (0≤(Int.tmod t1 8))) (some (bits .and .i64 (qW .i64 (IntKind.wrap .i64 y1) (Int.tmod t1 8)) 1)) none
def D9.l10(k:Nat)(L6:(List Int)→Int→Int→Int→Int→Int→(List Int)→Option ((Unit×Int×Bool)×(List Int))):Nat→(List Int)→Int→Int→Int→Int→Int→Int→Int→(List Int)→Option ((Unit×Int×Bool)×(List Int))
 |0,_,_,_,_,_,_,_,_,_=>none
 |n+1,t0,t1,t2,t3,t12,t13,t14,t15,AO=>
  cond (decide (t15<t3))
   ((Jt k t0 (IntKind.wrap .i64 ((IntKind.wrap .i64 ((IntKind.wrap .i64 (8*t1))+(IntKind.wrap .i64 (t13*t3))))+t15))).bind fun r1=>
    cond (decide (0≤t15)) (
    (D9.l10 k L6 n) t0 t1 t2 t3 t12 t13 (bits .or .i64 t14 (qV .i64 r1 t15)) (IntKind.wrap .i64 (t15+1)) AO) none)
   (cond (lim (List.length AO+List.length [t14])) (L6 t0 t1 t2 t3 t12 (IntKind.wrap .i64 (t13+1)) (AO++[t14])) none)
def D9.l6(k:Nat):Nat→(List Int)→Int→Int→Int→Int→Int→(List Int)→Option ((Unit×Int×Bool)×(List Int))
 |0,_,_,_,_,_,_,_=>none
 |n+1,t0,t1,t2,t3,t12,t13,AO=>
  cond (decide (t13<t2))
   (D9.l10 k (D9.l6 k n) k t0 t1 t2 t3 t12 t13 0 0 AO)
   (some (((),IntKind.wrap .i64 (t1+t12),true),AO))
def D9(k:Nat)(t0:List Int)(t1:Int)(t2:Int)(t3:Int):Option ((Unit×Int×Bool)×(List Int)):=
 (FM k t2 t3).bind fun r2=>
 (cond (decide (r2<0)) (some true) ((DT k t1 0 (List.length t0:Int)).bind fun r3=>some (!r3))).bind fun b4=>
 (cond b4 (some true) (some (decide ((IntKind.wrap .i64 ((List.length t0:Int)-t1))<r2)))).bind fun b5=>
 cond b5 (some (((),0,false),[])) (D9.l6 k k t0 t1 t2 t3 r2 0 [])
def EG.l5(k:Nat):Nat→(List Int)→Int→Int→Int→Int→Option (Int×Int×Bool)
 |0,_,_,_,_,_=>none
 |n+1,t0,t1,t2,t9,t10=>
  cond (decide (t10<t2))
   ((gP t0 (IntKind.wrap .i64 (t1+t10))).bind fun y1=>
    cond (decide (0≤(IntKind.wrap .i64 (8*t10)))) (
    (EG.l5 k n) t0 t1 t2 (bits .or .i64 t9 (qV .i64 (IntKind.wrap .i64 y1) (IntKind.wrap .i64 (8*t10)))) (IntKind.wrap .i64 (t10+1))) none)
   (some (t9,IntKind.wrap .i64 (t1+t2),true))
def EG(k:Nat)(t0:List Int)(t1:Int)(t2:Int):Option (Int×Int×Bool):=
 (DT k t2 1 8).bind fun r2=>
 (cond (!r2) (some true) (some (decide (t1<0)))).bind fun b3=>
 (cond b3 (some true) (some (decide (t1>(List.length t0:Int))))).bind fun b4=>
 (cond b4 (some true) (some (decide ((IntKind.wrap .i64 ((List.length t0:Int)-t1))<t2)))).bind fun b5=>
 cond b5 (some (0,0,false)) (EG.l5 k k t0 t1 t2 0 0)
def GJ.c6(k:Nat)(t9:Int)(t10:Int)(t11:Bool)(AO:AP):Option (AP×Int×Bool):=
 some ((t9,Br,()),t10,t11)
def GJ(k:Nat)(t0:Int)(t1:List Int)(t2:Int):Option (AP×Int×Bool):=
 cond (t0==1)
  ((EG k t1 t2 4).bind fun r1=>
   cond (decide (r1.1>2147483647))
    (GJ.c6 k (IntKind.wrap .i64 (r1.1-4294967296)) r1.2.1 r1.2.2 (0,Br,()))
    (GJ.c6 k r1.1 r1.2.1 r1.2.2 (0,Br,())))
  (cond (t0==6)
   ((EG k t1 t2 4).bind fun r2=>
    (cond (!r2.2.2) (some true) (some (decide (r2.1>40)))).bind fun b3=>
    (cond b3 (some true) (some (decide (r2.1>(IntKind.wrap .i64 ((List.length t1:Int)-r2.2.1)))))).bind fun b4=>
    cond b4
     (some ((0,Br,()),0,false))
     (cond (jM r2.2.1 (IntKind.wrap .i64 (r2.2.1+r2.1)) (List.length t1)) (
      some ((0,yM (kP t1 r2.2.1 (IntKind.wrap .i64 (r2.2.1+r2.1))),()),IntKind.wrap .i64 (r2.2.1+r2.1),true)) none))
   ((EG k t1 t2 8).bind fun r5=>some ((r5.1,Br,()),r5.2.1,r5.2.2)))
def El.Ij(k:Nat):Nat→Int→(List Int)→Int→Int→Int→(List AP)→Option ((Unit×Int×Bool)×(List AP))
 |0,_,_,_,_,_,_=>none
 |n+1,t0,t1,t2,t3,t16,AO=>
  cond (decide (t16<t3))
   ((GJ k t0 t1 t2).bind fun r1=>
    cond (!r1.2.2)
     (some (((),0,false),[]))
     (cond (lim (List.length AO+List.length [r1.1])) (
      (El.Ij k n) t0 t1 r1.2.1 t3 (IntKind.wrap .i64 (t16+1)) (AO++[r1.1])) none))
   (some (((),t2,true),AO))
def El.l7(k:Nat):Nat→Int→Bool→Int→(List AP)→(List Int)→Option ((Unit×Int×Bool)×(List AP))
 |0,_,_,_,_,_=>none
 |n+1,t13,t14,t15,AO,AZ=>
  cond (decide (t15<(List.length AZ:Int)))
   ((gP AZ t15).bind fun y2=>
    cond (lim (List.length AO+List.length ([(y2,Br,())]:List AP))) (
    (El.l7 k n) t13 t14 (IntKind.wrap .i64 (t15+1)) (AO++[(y2,Br,())]) AZ) none)
   (some (((),t13,t14),AO))
def El(k:Nat)(t0:Int)(t1:List Int)(t2:Int)(t3:Int):Option ((Unit×Int×Bool)×(List AP)):=
 (Ew k t0).bind fun r3=>
 (cond (!r3) (some true) ((DT k t3 0 2000).bind fun r4=>some (!r4))).bind fun b5=>
 (cond b5 (some true) ((DT k t2 0 (List.length t1:Int)).bind fun r6=>some (!r6))).bind fun b7=>
 cond b7
  (some (((),0,false),[]))
  (cond (t0==0)
   ((D9 k t1 t2 t3 1).bind fun r8=>El.l7 k k r8.1.2.1 r8.1.2.2 0 [] r8.2)
   (El.Ij k k t0 t1 t2 t3 0 []))
def Fv.l5(k:Nat):Nat→(List Int)→Int→Int→Int→Option (Int×Int×Bool)
 |0,_,_,_,_=>none
 |n+1,t0,t1,t7,t8=>
  (cond (decide (t8<10)) (some (decide ((IntKind.wrap .i64 (t1+t8))<(List.length t0:Int)))) (some false)).bind fun b1=>
  cond b1
   ((gP t0 (IntKind.wrap .i64 (t1+t8))).bind fun y2=>
    cond (decide (0≤(IntKind.wrap .i64 (7*t8)))) (
    cond (decide ((IntKind.wrap .i64 y2)<128))
     ((cond (t8==9) (some (decide ((IntKind.wrap .i64 y2)>1))) (some false)).bind fun b3=>
      cond b3
       (some (0,0,false))
       (some (bits .or .i64 t7 (qV .i64 (bits .and .i64 (IntKind.wrap .i64 y2) 127) (IntKind.wrap .i64 (7*t8))),IntKind.wrap .i64 ((IntKind.wrap .i64 (t1+t8))+1),true)))
     ((Fv.l5 k n) t0 t1 (bits .or .i64 t7 (qV .i64 (bits .and .i64 (IntKind.wrap .i64 y2) 127) (IntKind.wrap .i64 (7*t8)))) (IntKind.wrap .i64 (t8+1)))) none)
   (some (0,0,false))
def Fv(k:Nat)(t0:List Int)(t1:Int):Option (Int×Int×Bool):=
 (cond (decide (t1<0)) (some true) (some (decide (t1≥(List.length t0:Int))))).bind fun b4=>
 cond b4 (some (0,0,false)) (Fv.l5 k k t0 t1 0 0)
def BG.Ik(k:Nat)(Hz:(List Int)→Int→Int→Int→Int→Int→(List Int)→Option ((Unit×Int×Bool)×(List Int))):Nat→(List Int)→Int→Int→Int→Int→Int→Int→Int→(List Int)→Option ((Unit×Int×Bool)×(List Int))
 |0,_,_,_,_,_,_,_,_,_=>none
 |n+1,t0,t2,t3,t13,t15,t21,t22,t23,AO=>
  cond (decide (t23<t3))
   ((Jt k t0 (IntKind.wrap .i64 ((IntKind.wrap .i64 ((IntKind.wrap .i64 (8*t13))+(IntKind.wrap .i64 (t21*t3))))+t23))).bind fun r1=>
    cond (decide (0≤t23)) (
    (BG.Ik k Hz n) t0 t2 t3 t13 t15 t21 (bits .or .i64 t22 (qV .i64 r1 t23)) (IntKind.wrap .i64 (t23+1)) AO) none)
   (cond (lim (List.length AO+List.length [t22])) (Hz t0 t2 t3 t13 t15 (IntKind.wrap .i64 (t21+1)) (AO++[t22])) none)
def BG.Hg(k:Nat)(L4:(List Int)→Int→Int→Int→(List Int)→Option ((Unit×Int×Bool)×(List Int))):Nat→(List Int)→Int→Int→Int→Int→Int→(List Int)→Option ((Unit×Int×Bool)×(List Int))
 |0,_,_,_,_,_,_,_=>none
 |n+1,t0,t2,t3,t13,t15,t21,AO=>
  (cond (decide (t21<(IntKind.wrap .i64 (8*t15)))) (some (decide ((List.length AO:Int)<t2))) (some false)).bind fun b2=>
  cond b2
   (BG.Ik k (BG.Hg k L4 n) k t0 t2 t3 t13 t15 t21 0 0 AO)
   (L4 t0 (IntKind.wrap .i64 (t13+(IntKind.wrap .i64 (t15*t3)))) t2 t3 AO)
def BG.CZ(k:Nat)(L4:(List Int)→Int→Int→Int→(List Int)→Option ((Unit×Int×Bool)×(List Int))):Nat→(List Int)→Int→Int→Int→Int→Int→Int→(List Int)→Option ((Unit×Int×Bool)×(List Int))
 |0,_,_,_,_,_,_,_,_=>none
 |n+1,t0,t2,t3,t13,t15,t16,t20,AO=>
  (cond (decide (t20<t15)) (some (decide ((List.length AO:Int)<t2))) (some false)).bind fun b3=>
  cond b3
   (cond (lim (List.length AO+List.length [t16])) (
    (BG.CZ k L4 n) t0 t2 t3 t13 t15 t16 (IntKind.wrap .i64 (t20+1)) (AO++[t16])) none)
   (L4 t0 t13 t2 t3 AO)
def BG.c17(k:Nat)(L4:(List Int)→Int→Int→Int→(List Int)→Option ((Unit×Int×Bool)×(List Int)))(t0:List Int)(t2:Int)(t3:Int)(t13:Int)(t15:Int)(t16:Int)(AO:List Int):Option ((Unit×Int×Bool)×(List Int)):=
 BG.CZ k L4 k t0 t2 t3 t13 t15 t16 0 AO
def BG.l4(k:Nat):Nat→(List Int)→Int→Int→Int→(List Int)→Option ((Unit×Int×Bool)×(List Int))
 |0,_,_,_,_,_=>none
 |n+1,t0,t1,t2,t3,AO=>
  cond (decide ((List.length AO:Int)<t2))
   ((Fv k t0 t1).bind fun r4=>
    (FP k r4.1 1).bind fun r5=>
    cond (!r4.2.2)
     (some (((),0,false),[]))
     (cond ((bits .and .i64 r4.1 1)==0)
      (cond (decide (t3>0))
       ((FM k 1 t3).bind fun r6=>
        (EG k t0 r4.2.1 r6).bind fun r7=>
        (cond (!r7.2.2) (some true) (cond (decide (0≤t3)) (some ((qW .i64 r7.1 t3) !=0)) none)).bind fun b8=>
        cond b8 (some (((),0,false),[])) (BG.c17 k (BG.l4 k n) t0 t2 t3 r7.2.1 r5 r7.1 AO))
       (BG.c17 k (BG.l4 k n) t0 t2 t3 r4.2.1 r5 0 AO))
      ((cond (decide (r5>2000))
       (some true)
       (some (decide ((IntKind.wrap .i64 ((List.length t0:Int)-r4.2.1))<(IntKind.wrap .i64 (r5*t3)))))).bind fun b9=>
       cond b9 (some (((),0,false),[])) (BG.Hg k (BG.l4 k n) k t0 t2 t3 r4.2.1 r5 0 AO))))
   (some (((),t1,true),AO))
def BG(k:Nat)(t0:List Int)(t1:Int)(t2:Int)(t3:Int):Option ((Unit×Int×Bool)×(List Int)):=
 (Iw k t3).bind fun Cg=>
 (cond (!Cg) (some true) ((DT k t2 0 2000).bind fun Eh=>some (!Eh))).bind fun b12=>
 (cond b12 (some true) ((DT k t1 0 (List.length t0:Int)).bind fun Dn=>some (!Dn))).bind fun b14=>
 cond b14 (some (((),0,false),[])) (BG.l4 k k t0 t1 t2 t3 [])
def GH.l3(k:Nat):Nat→(List Int)→Int→(List AP)→Option (Unit×(List AP))
 |0,_,_,_=>none
 |n+1,t0,t4,AO=>
  cond (decide (t4<(List.length t0:Int)))
   ((gP t0 t4).bind fun y1=>
    cond (lim (List.length AO+List.length ([(y1,Br,())]:List AP))) (
    (GH.l3 k n) t0 (IntKind.wrap .i64 (t4+1)) (AO++[(y1,Br,())])) none)
   (some ((),AO))
def GH(k:Nat)(t0:List Int):Option (Unit×(List AP)):=
 GH.l3 k k t0 0 []
end Go.Fn
namespace Go.A9
open Go.Am
theorem AV{x:Int}(h0: -9223372036854775808≤x)(h1:x<9223372036854775808):IntKind.wrap .i64 x=x:=by
 rw[IntKind.wrap_i64];omega
theorem F4(x:Int): -9223372036854775808≤IntKind.wrap .i64 x:=by rw[IntKind.wrap_i64];omega
theorem F3(x:Int):IntKind.wrap .i64 x<9223372036854775808:=by rw[IntKind.wrap_i64];omega
theorem EJ(x:Int):IntKind.wrap .u64 x=x%18446744073709551616:=by simp[IntKind.wrap,IntKind.bits,IntKind.signed]
theorem KC(x:Int):IntKind.wrap .u8 x=x%256:=IntKind.wrap_u8 x
theorem w8{x:Int}(h0:0≤x)(h1:x<256):IntKind.wrap .u8 x=x:=by rw[KC];omega
theorem wraps_u64(n:Int)(h₀:0≤n)(h₁:n<2^64):IntKind.u64.wrap n=n:=by rw[EJ];omega
def Be(x:Int):Prop:= -9223372036854775808≤x∧x<9223372036854775808
theorem H6(x:Int)(i:Nat)(hi:i≤62):bits .and .i64 x (2^i-1)=x%2^i:=by
 have hpos:0<2^i:=Nat.two_pow_pos i;have hle:2^i≤2^62:=Nat.pow_le_pow_right (by decide) hi;have hc:((2:Int)^i-1)=((2^i-1:Nat):Int):=by
  rw[Int.natCast_sub hpos];simp
 have hb:(2^i-1)%2^IntKind.i64.bits=2^i-1:=Nat.mod_eq_of_lt (show 2^i-1<2^64 by omega);rw[hc];simp only[bits,BitVec.ofInt_natCast,BitVec.toNat_and,BitVec.toNat_ofNat,hb,Nat.and_two_pow_sub_one_eq_mod,BitVec.toNat_ofInt];show IntKind.wrap .i64 (((x%((2^64:Nat):Int)).toNat%2^i:Nat):Int)=_;have h1:(x%((2^64:Nat):Int)).toNat%2^i<2^i:=Nat.mod_lt _ hpos;have h2:(((x%((2^64:Nat):Int)).toNat%2^i:Nat):Int)=x%2^i:=by
  have h3:0≤x%((2^64:Nat):Int):=Int.emod_nonneg _ (by decide);rw[Int.natCast_emod,Int.toNat_of_nonneg h3];have hd:((2^i:Nat):Int)∣((2^64:Nat):Int):=by
   have:=Nat.pow_dvd_pow 2 (show i≤64 by omega)
   exact_mod_cast this
  rw[Int.emod_emod_of_dvd x hd];simp
 rw[h2];have h4:x%2^i<2^i:=Int.emod_lt_of_pos _ (by exact_mod_cast hpos);have h5':(0:Int)<2^i:=by exact_mod_cast hpos
 have h5:0≤x%2^i:=Int.emod_nonneg _ (by omega);have h6:(2:Int)^i≤2^62:=by exact_mod_cast hle
 rw[AV (by omega) (by omega)]
theorem II(x:Int):bits .and .i64 x 255=x%256:=H6 x 8 (by decide)
theorem and1(x:Int):bits .and .i64 x 1=x%2:=H6 x 1 (by decide)
theorem Yd{x:Int}(h0:0≤x)(h1:x<18446744073709551616):bits .and .u64 x 127=x%128:=
 bits_mask .u64 64 (by decide) wraps_u64 7 (by decide) x h0 h1
theorem u8_and127{x:Int}(h0:0≤x)(h1:x<256):bits .and .u8 x 127=x%128:=
 bits_mask .u8 8 (by decide) wraps_u8 7 (by decide) x h0 h1
theorem KJ(k:IntKind)(a b:Int):bits .or k a b=bits .or k b a:=by
 simp only[bits,BitVec.toNat_or];rw[Nat.or_comm]
theorem Ye{x:Int}(h0:0≤x)(h1:x<128):bits .or .u64 x 128=x+128:=by
 rw[KJ,bits_join .u64 64 (by decide) wraps_u64 7 128 x (by decide) (by decide) (by decide) h0 (by simpa using h1) (by omega)];omega
theorem Kr{a b:Int}{i:Nat}(ha0:0≤a)(ha:a<2^i)(hb0:0≤b)(hb:b*2^i<2^64)(hi:i≤64):bits .or .u64 a (b*2^i)=a+b*2^i:=by
 have hp:(2:Int)^i≤2^64:=by
  have:=Nat.pow_le_pow_right (n:=2) (by decide) hi
  exact_mod_cast this
 have hp0:(0:Int)<2^i:=by have:=Nat.two_pow_pos i;exact_mod_cast this
 rw[KJ,bits_join .u64 64 (by decide) wraps_u64 i (b*2^i) a (Int.mul_nonneg hb0 (by omega)) (Int.mul_emod_left _ _) hb ha0 ha (by omega)];omega
theorem ED(k:IntKind)(a:Int)(n:Nat)(h:n≤k.bits):qW k a (n:Int)=a/2^n:=by
 unfold qW;rw[Int.toNat_natCast,Nat.min_eq_left h,Int.fdiv_eq_ediv_of_nonneg];have:=Nat.two_pow_pos n;have:(0:Int)<2^n:=by exact_mod_cast this
 omega
theorem XJ(a:Int):qW .u64 a 7=a/128:=ED .u64 a 7 (by decide)
theorem Mx(a:Int):qW .u64 a 1=a/2:=ED .u64 a 1 (by decide)
theorem XI(a:Int):qW .i64 a 63=a/9223372036854775808:=ED .i64 a 63 (by decide)
theorem Bc{n:Nat}(h:n≤4294967296):lim n=true:=by unfold lim;exact Nat.ble_eq_true_of_le h
theorem Gg{n:Int}(h0:0≤n)(h:n≤4294967296):qG n=true:=by simp[qG,h0,h]
theorem FF{l h:Int}{n:Nat}(h0:0≤l)(h1:l≤h)(h2:h≤n):jM l h n=true:=by simp[jM,h0,h1,h2]
theorem A_{a b:Int}(h:¬a=b):(a==b)=false:=by simpa using h
theorem F8{a b:Int}(h:¬a=b):(a !=b)=true:=by simpa using h
theorem CG{a b:Int}(h:a=b):(a==b)=true:=by simpa using h
theorem Fz{a b:Int}(h:a=b):(a !=b)=false:=by simpa using h
theorem BZ(b c:Bool):(cond b (some c) (some false):Option Bool)=some (b&&c):=by cases b<;>rfl
theorem cst(b c:Bool):(cond b (some true) (some c):Option Bool)=some (b||c):=by cases b<;>rfl
theorem Dc{α:Type}(xs:List α)(n:Nat):gP xs (n:Int)=xs[n]?:=rfl
theorem Io{α:Type}{xs:List α}{i:Int}(h0:0≤i)(h1:i<xs.length):∃x,gP xs i=some x∧xs[i.toNat]?=some x:=by
 obtain⟨n,rfl⟩:=Int.eq_ofNat_of_zero_le h0;have h:n<xs.length:=by omega
 exact⟨xs[n],by rw[Dc,Ef h],by simp[h]⟩
theorem NP{α:Type}{b:List α}{p:Nat}{y:α}{r:List α}(h:b.drop p=y::r):b[p]?=some y∧p<b.length∧b.drop (p+1)=r:=by
 have h1:=List.getElem?_drop (xs:=b) (i:=p) (j:=0);rw[h] at h1;have hl:=congrArg List.length h;simp at hl;refine⟨by simpa using h1.symm,by omega,?_⟩;rw[←List.drop_drop,h];rfl
theorem Gc(a b:ByteArray):ig a b=decide (a=b):=by
 unfold ig;have h:a.toList=b.toList↔a=b:=by
  constructor
  ·intro h
   rw[ByteArray.toList_eq,ByteArray.toList_eq] at h;cases a;cases b;simp only[ByteArray.mk.injEq];exact Array.ext' h
  ·rintro rfl;rfl
 by_cases e:a=b
 ·simp[e]
 ·simp only[e,decide_false]
  have:a.toList≠b.toList:=fun h'=>e (h.1 h');simp[this]
theorem LA(s:ByteArray):yM (fH s)=s:=by
 unfold yM fH strOfNums;cases s with
 |mk d=>
  simp only[List.map_map]
  congr 1
  have:((fun n:Int=>UInt8.ofNat n.toNat)∘fun c:UInt8=>(c.toNat:Int))=id:=by
   funext c;simp
  rw[this];simp
theorem vR(s:ByteArray):(fH s).length=s.size:=by
 unfold fH;rw[List.length_map,Array.length_toList];rfl
theorem I9(xs:List Int):(yM xs).size=xs.length:=strOfNums_size xs
end Go.A9
end
section
namespace Go.A9
open Go.Am Go.Fn
def BQ:Nat→Nat→List Int
 |0,n=>[(n:Int)]
 |f+1,n=>if 127<n then((n%128+128:Nat):Int)::BQ f (n/128) else[(n:Int)]
theorem Kv:∀f n,0<(BQ f n).length∧(BQ f n).length≤f+1
 |0,n=>by simp[BQ]
 |f+1,n=>by
  have:=Kv f (n/128);unfold BQ;split<;>simp<;>omega
theorem MH:∀f n,n<128^(f+1)→∀x,x∈BQ f n→0≤x∧x<256
 |0,n,h,x,hx=>by simp[BQ] at hx;subst hx;simp at h;omega
 |f+1,n,h,x,hx=>by
  unfold BQ at hx;split at hx
  ·rcases List.mem_cons.1 hx with rfl|hx
   ·omega
   ·exact MH f (n/128) (by rw[Nat.pow_succ] at h;exact Nat.div_lt_of_lt_mul (by rw[Nat.mul_comm];exact h)) x hx
  ·simp at hx;subst hx;omega
theorem Xg(k:Nat):∀(f n t:Nat) (acc:List Int),t<128^(f+1)→t<2^64→f<n→acc.length+f≤4294967000→
 DI.l3 k n (t:Int) acc=some ((),acc++BQ f t):=by
 intro f
 induction f with
 |zero=>
  intro n t acc h h64 hn hl;obtain⟨n,rfl⟩:∃m,n=m+1:=⟨n-1,by omega⟩;have h:t<128:=by simpa using h
  simp only[DI.l3,show decide ((t:Int)>127)=false by simp;omega,AU,Bc (show acc.length+[IntKind.wrap .u8 (t:Int)].length≤4294967296 by simp;omega),AQ];rw[w8 (by omega) (by omega)];rfl
 |succ f ih=>
  intro n t acc h h64 hn hl;obtain⟨n,rfl⟩:∃m,n=m+1:=⟨n-1,by omega⟩;by_cases ht:127<t
  ·have e1:bits .or .u64 (bits .and .u64 (t:Int) 127) 128=((t%128+128:Nat):Int):=by
    rw[Yd (by omega) (by omega),Ye (by omega) (by omega)];omega
   have e2:qW .u64 (t:Int) 7=((t/128:Nat):Int):=by
    rw[XJ];omega
   have h':t/128<128^(f+1):=by rw[Nat.pow_succ] at h;exact Nat.div_lt_of_lt_mul (by rw[Nat.mul_comm];exact h)
   simp only[DI.l3,show decide ((t:Int)>127)=true by simp;omega,AQ,e1,e2];rw[w8 (by omega) (by omega)];simp only[Bc (show acc.length+[((t%128+128:Nat):Int)].length≤4294967296 by simp;omega),AQ];rw[ih n (t/128) _ h' (by omega) (by omega) (by simp;omega)];simp only[BQ,if_pos ht,CP];rfl
  ·simp only[DI.l3,show decide ((t:Int)>127)=false by simp;omega,AU,Bc (show acc.length+[IntKind.wrap .u8 (t:Int)].length≤4294967296 by simp;omega),AQ]
   rw[w8 (by omega) (by omega)];simp only[BQ,if_neg ht]
def uv(x:Int):List Int:=BQ 9 (x%18446744073709551616).toNat
theorem CE(x:Int):0<(uv x).length∧(uv x).length≤10:=Kv _ _
theorem FY(x:Int):∀y,y∈uv x→0≤y∧y<256:=MH _ _ (by omega)
theorem JB(k:Nat)(hk:100≤k)(x:Int):DI k x=some ((),uv x):=by
 unfold DI;rw[EJ];have h:=Xg k 9 k (x%18446744073709551616).toNat [] (by omega) (by omega) (by omega) (by simp);rw[Int.toNat_of_nonneg (by omega)] at h;rw[h];rfl
theorem getLoop(k:Nat)(b:List Int)(p:Nat)(hb:b.length<4611686018427387904):∀(f n i acc m:Nat) (rest:List Int),i+f=9→f<n→b.drop (p+i)=BQ f m++rest→
 acc<2^(7*i)→acc+m*2^(7*i)<2^64→m<128^(f+1)→
 Cx.l5 k n b (p:Int) (acc:Int) (i:Int)=some (IntKind.wrap .i64 ((acc+m*2^(7*i):Nat):Int),((p+i+(BQ f m).length:Nat):Int),true):=by
 intro f
 induction f with
 |zero=>
  intro n i acc m rest hi hn hd hacc htot hm;obtain⟨n,rfl⟩:∃j,n=j+1:=⟨n-1,by omega⟩;obtain rfl:i=9:=by omega
  have hm:m<128:=by simpa using hm
  have hlen:p+9<b.length:=by
   have:=congrArg List.length hd;simp[BQ] at this;omega
  have hget:gP b ((p+9:Nat):Int)=some (m:Int):=by
   rw[Dc];have:=List.getElem?_drop (xs:=b) (i:=p+9) (j:=0);rw[hd] at this;simpa[BQ] using this.symm
  have hm1:m≤1:=by
   have:(2:Nat)^(7*9)=9223372036854775808:=by decide
   rw[this] at htot;omega
  have e1:IntKind.wrap .i64 ((b.length:Int)-(p:Int))=(b.length:Int)-p:=AV (by omega) (by omega);have e2:IntKind.wrap .i64 ((p:Int)+((9:Nat):Int))=((p+9:Nat):Int):=by rw[AV (by omega) (by omega)];omega
  have e3:IntKind.wrap .i64 (7*((9:Nat):Int))=63:=by decide
  have e4:qV .u64 (IntKind.wrap .u64 (bits .and .u8 (m:Int) 127)) 63=(m:Int)*2^63:=by
   rw[u8_and127 (by omega) (by omega),EJ];unfold qV;rw[EJ];simp[IntKind.bits];omega
  have e5:IntKind.wrap .i64 (((p+9:Nat):Int)+1)=((p+9+1:Nat):Int):=by rw[AV (by omega) (by omega)];omega
  simp only[Cx.l5,e1,e2,e3,e4,e5,hget];have c1:decide (((9:Nat):Int)<10)=true:=by decide
  have c0:(((9:Nat):Int)==9)=true:=by decide
  have c5:decide ((0:Int)≤63)=true:=by decide
  have c2:decide (((9:Nat):Int)<(b.length:Int)-p)=true:=by simp;omega
  have c3:decide ((m:Int)>1)=false:=by simp;omega
  have c4:decide ((m:Int)<128)=true:=by simp;omega
  simp only[c0,c1,c2,c3,c4,c5,e4,AQ,AU,AR];rw[Kr (i:=63) (by omega) (by exact_mod_cast hacc) (by omega) (by omega) (by omega)];simp[BQ]
 |succ f ih=>
  intro n i acc m rest hi hn hd hacc htot hm;obtain⟨n,rfl⟩:∃j,n=j+1:=⟨n-1,by omega⟩;have hP:0<2^(7*i):=Nat.two_pow_pos _;have FC:2^(7*(i+1))=128*2^(7*i):=by rw[Nat.mul_add,Nat.pow_add];simp[Nat.mul_comm]
  have hi9:i<9:=by omega
  have hdv:=Nat.div_add_mod m 128;have hmul:m*2^(7*i)=(m%128)*2^(7*i)+(m/128)*(128*2^(7*i)):=by
   have:m*2^(7*i)=(128*(m/128)+m%128)*2^(7*i):=by rw[hdv]
   rw[this]
   grind
  generalize Lp:2^(7*i)=P at*;have hlt1:m%128*P<2^64:=by omega
  have hlen:p+i<b.length:=by
   have:=congrArg List.length hd;have:=(Kv (f+1) m).1;simp at*;omega
  have hbyte:∀y l,BQ (f+1) m=y::l→gP b ((p+i:Nat):Int)=some y:=by
   intro y l hy;rw[Dc];have:=List.getElem?_drop (xs:=b) (i:=p+i) (j:=0);rw[hd,hy] at this;simpa using this.symm
  have e1:IntKind.wrap .i64 ((b.length:Int)-(p:Int))=(b.length:Int)-p:=AV (by omega) (by omega);have e2:IntKind.wrap .i64 ((p:Int)+(i:Int))=((p+i:Nat):Int):=by rw[AV (by omega) (by omega)];omega
  have e3:IntKind.wrap .i64 (7*(i:Int))=((7*i:Nat):Int):=by rw[AV (by omega) (by omega)];omega
  have e4:∀y:Int,0≤y→y<256→y%128=((m%128:Nat):Int)→qV .u64 (IntKind.wrap .u64 (bits .and .u8 y 127)) ((7*i:Nat):Int)=((m%128:Nat):Int)*(P:Int):=by
   intro y hy0 hy1 hy;rw[u8_and127 hy0 hy1,hy,EJ];unfold qV;rw[EJ];have:min (((7*i:Nat):Int)).toNat (IntKind.bits .u64)=7*i:=by simp[IntKind.bits];omega
   rw[this];have hP':(2:Int)^(7*i)=(P:Int):=by rw[←Lp];simp
   rw[hP'];have h1:(((m%128:Nat):Int)%18446744073709551616)=((m%128:Nat):Int):=by omega
   rw[h1];have h2:((m%128:Nat):Int)*(P:Int)=((m%128*P:Nat):Int):=by simp
   rw[h2];omega
  have e5:IntKind.wrap .i64 (((p+i:Nat):Int)+1)=((p+i+1:Nat):Int):=by rw[AV (by omega) (by omega)];omega
  have e6:IntKind.wrap .i64 ((i:Int)+1)=((i+1:Nat):Int):=by rw[AV (by omega) (by omega)];omega
  have c1:decide ((i:Int)<10)=true:=by simp;omega
  have c2:decide ((i:Int)<(b.length:Int)-p)=true:=by simp;omega
  have c3:((i:Int)==9)=false:=by simp;omega
  have c5:decide ((0:Int)≤((7*i:Nat):Int))=true:=AX (by omega);have Gb:bits .or .u64 (acc:Int) (((m%128:Nat):Int)*(P:Int))=((acc+m%128*P:Nat):Int):=by
   have hP':(P:Int)=2^(7*i):=by rw[←Lp];simp
   have Vy:((m%128:Nat):Int)*(P:Int)=((m%128*P:Nat):Int):=by simp
   rw[hP',Kr (i:=7*i) (by omega) (by rw[←hP'];omega) (by omega) (by rw[←hP',Vy];omega) (by omega)];rw[←hP'];simp
  by_cases hm':127<m
  ·have hu:BQ (f+1) m=((m%128+128:Nat):Int)::BQ f (m/128):=by simp only[BQ,if_pos hm']
   have hb1:=hbyte _ _ hu;simp only[Cx.l5,e1,e2,e3,hb1,c1,c2,c3,c5,AQ,AU,AR];rw[e4 _ (by omega) (by omega) (by omega),Gb,e6];have c4:decide (((m%128+128:Nat):Int)<128)=false:=by simp;omega
   simp only[c4,AU];rw[ih n (i+1) (acc+m%128*P) (m/128) rest (by omega) (by omega) ?_ ?_ ?_ ?_]
   ·rw[FC,hu,show acc+m%128*P+m/128*(128*P)=acc+m*P by omega,Bn,show p+(i+1)+(BQ f (m/128)).length=p+i+((BQ f (m/128)).length+1) by omega]
   ·rw[←Nat.add_assoc,←List.drop_drop,hd,hu]
    rfl
   ·rw[FC]
    have:m%128*P≤127*P:=Nat.mul_le_mul_right _ (by omega);omega
   ·rw[FC];omega
   ·rw[Nat.pow_succ] at hm;exact Nat.div_lt_of_lt_mul (by rw[Nat.mul_comm];exact hm)
  ·have hu:BQ (f+1) m=[(m:Int)]:=by simp only[BQ,if_neg hm']
   have hb1:=hbyte _ _ hu;simp only[Cx.l5,e1,e2,e3,hb1,c1,c2,c3,c5,AQ,AU,AR];rw[e4 _ (by omega) (by omega) (by omega),Gb];have c4:decide ((m:Int)<128)=true:=by simp;omega
   have hmm:m%128=m:=Nat.mod_eq_of_lt (by omega);simp only[c4,AQ,e5,hu,hmm];rfl
theorem Kw(k:Nat)(hk:100≤k)(b:List Int)(p:Nat)(x:Int)(rest:List Int)(hb:b.length<4611686018427387904)(hd:b.drop p=uv x++rest)(h0: -9223372036854775808≤x)(h1:x<9223372036854775808):
 Cx k b (p:Int)=some (x,((p+(uv x).length:Nat):Int),true):=by
 unfold Cx;have c:decide ((p:Int)<0)=false:=AY (by omega);simp only[c,AU];have h:=getLoop k b p hb 9 k 0 0 (x%18446744073709551616).toNat rest rfl (by omega) hd (by simp) (by simp;omega) (by omega);rw[show((0:Nat):Int)=0 from rfl] at h;rw[h];simp only[Nat.mul_zero,Nat.pow_zero,Nat.mul_one,Nat.zero_add,Nat.add_zero,uv];rw[Int.toNat_of_nonneg (by omega),IntKind.wrap_i64]
 congr 2
 omega
theorem xor_zero(a:Int)(h0: -9223372036854775808≤a)(h1:a<9223372036854775808):bits .xor .i64 a 0=a:=by
 have e:(BitVec.ofInt (IntKind.bits .i64) a^^^BitVec.ofInt (IntKind.bits .i64) 0)=BitVec.ofInt (IntKind.bits .i64) a:=by simp
 simp only[bits,e,BitVec.toNat_ofInt];show IntKind.wrap .i64 (((a%((2^64:Nat):Int)).toNat:Nat):Int)=a;rw[IntKind.wrap_i64];omega
theorem KD(a:Int)(h0: -9223372036854775808≤a)(h1:a<9223372036854775808):bits .xor .i64 a (-1)= -a-1:=by
 have e:(BitVec.ofInt (IntKind.bits .i64) a^^^BitVec.ofInt (IntKind.bits .i64) (-1))= ~~~BitVec.ofInt (IntKind.bits .i64) a:=by
  have:BitVec.ofInt (IntKind.bits .i64) (-1)=BitVec.allOnes (IntKind.bits .i64):=by decide
  rw[this,BitVec.xor_allOnes]
 simp only[bits,e,BitVec.toNat_not,BitVec.toNat_ofInt];show IntKind.wrap .i64 ((2^64-1-(a%((2^64:Nat):Int)).toNat:Nat):Int)=_;rw[IntKind.wrap_i64];omega
def zig(x:Int):Int:=if 0≤x then IntKind.wrap .i64 (x*2) else -IntKind.wrap .i64 (x*2)-1
theorem Yr(k:Nat)(x:Int)(h0: -9223372036854775808≤x)(h1:x<9223372036854775808):I8 k x=some (zig x):=by
 unfold I8 zig;have e:qV .i64 x 1=IntKind.wrap .i64 (x*2):=by
  unfold qV;simp[IntKind.bits]
 have:=F4 (x*2);have:=F3 (x*2);rw[e,XI];split
 ·rw[show x/9223372036854775808=0 by omega,xor_zero _ (by assumption) (by assumption)]
 ·rw[show x/9223372036854775808= -1 by omega,KD _ (by assumption) (by assumption)]
theorem KE(x:Int): -9223372036854775808≤zig x∧zig x<9223372036854775808:=by
 have:=F4 (x*2);have:=F3 (x*2);unfold zig;split<;>omega
theorem MR(k:Nat)(x:Int)(h0: -9223372036854775808≤x)(h1:x<9223372036854775808):Ie k (zig x)=some x:=by
 unfold Ie;rw[and1,EJ,Mx,AV (by omega) (by omega)];have hz:zig x=if 0≤x then(x*2+9223372036854775808)%18446744073709551616-9223372036854775808 else -((x*2+9223372036854775808)%18446744073709551616-9223372036854775808)-1:=by
  unfold zig;rw[IntKind.wrap_i64]
 by_cases hx:0≤x
 ·rw[if_pos hx] at hz
  rw[show zig x%2=0 by omega,show IntKind.wrap .i64 (0-0)=0 by decide,xor_zero _ (by omega) (by omega)]
  congr 1
  omega
 ·rw[if_neg hx] at hz
  rw[show zig x%2=1 by omega,show IntKind.wrap .i64 (0-1)= -1 by decide,KD _ (by omega) (by omega)]
  congr 1
  omega
theorem MS(k:Nat)(hk:100≤k)(x:Int)(h0: -9223372036854775808≤x)(h1:x<9223372036854775808):Ig k x=some ((),uv (zig x)):=by
 unfold Ig;rw[Yr k x h0 h1];simp only[AR,JB k hk]
end Go.A9
end
section
namespace Go.A9
open Go.Am Go.Fn
variable(k:Nat)
theorem MM(k:IntKind)(x:Int):IntKind.wrap k x%2^k.bits=x%2^k.bits:=by
 have hp:(0:Int)<2^k.bits:=by have:=Nat.two_pow_pos k.bits;exact_mod_cast this
 have h0:=Int.emod_nonneg x (show(2:Int)^k.bits≠0 by omega);cases k<;>simp[IntKind.wrap,IntKind.bits,IntKind.signed]<;>omega
theorem Me{n:Nat}{a b:Int}(h:a%2^n=b%2^n):BitVec.ofInt n a=BitVec.ofInt n b:=by
 apply BitVec.eq_of_toNat_eq;rw[BitVec.toNat_ofInt,BitVec.toNat_ofInt];have:((2^n:Nat):Int)=(2:Int)^n:=by simp
 rw[this,h]
theorem WN(k:IntKind)(a b:Int):bits .or k (k.wrap a) (k.wrap b)=bits .or k a b:=by
 simp only[bits];rw[Me (MM k a),Me (MM k b)]
theorem WM(k:IntKind){a b i:Nat}(ha:a<2^i)(hab:a+b*2^i<2^k.bits):bits .or k (a:Int) ((b*2^i:Nat):Int)=k.wrap ((a+b*2^i:Nat):Int):=by
 have h1:a|||b*2^i=a+b*2^i:=by
  rw[Nat.or_comm,Nat.mul_comm,←Nat.two_pow_add_eq_or_of_lt ha b,Nat.add_comm]
 simp only[bits,BitVec.ofInt_natCast,BitVec.toNat_or,BitVec.toNat_ofNat];rw[Nat.mod_eq_of_lt (show a<2^k.bits by omega),Nat.mod_eq_of_lt (show b*2^i<2^k.bits by omega),h1]
theorem GD(k:IntKind){a b i:Nat}(hi:i≤k.bits)(ha:a<2^i)(hab:a+b*2^i<2^k.bits):bits .or k (k.wrap (a:Int)) (qV k (b:Int) (i:Int))=k.wrap ((a+b*2^i:Nat):Int):=by
 unfold qV;rw[Int.toNat_natCast,Nat.min_eq_left hi,WN];have:=WM k ha hab;rw[←this];simp
def leB(L M:Nat):List Int:=(List.range L).map fun i=>((M/256^i%256:Nat):Int)
theorem Bt(L M:Nat):(leB L M).length=L:=by simp[leB]
theorem GA{L M i:Nat}(h:i<L):(leB L M)[i]?=some ((M/256^i%256:Nat):Int):=by
 simp[leB,h]
theorem Jc(L:Nat):leB L 0=List.replicate L 0:=by
 apply List.ext_getElem (by simp[leB]);intro i h1 h2;simp[leB]
theorem Ja(L M:Nat):∀x,x∈leB L M→0≤x∧x<256:=by
 intro x hx;simp only[leB,List.mem_map] at hx;obtain⟨i,_,rfl⟩:=hx;have:=Nat.mod_lt (M/256^i) (show 256>0 by decide);omega
theorem Jm(p:Nat):2^p=256^(p/8)*2^(p%8):=by
 rw[show(256:Nat)=2^8 by decide,←Nat.pow_mul,←Nat.pow_add,Nat.div_add_mod]
theorem KQ{M p:Nat}(h:M<2^p):M/256^(p/8)<2^(p%8):=by
 rw[Jm p] at h;exact Nat.div_lt_of_lt_mul h
theorem Ns(M b p:Nat):(M+b*2^p)/256^(p/8)=M/256^(p/8)+b*2^(p%8):=by
 rw[Jm p,show b*(256^(p/8)*2^(p%8))=(b*2^(p%8))*256^(p/8) by rw[Nat.mul_comm (256^_),Nat.mul_assoc],Nat.add_mul_div_right _ _ (Nat.pow_pos (by decide))]
theorem Xe{r:Nat}(h:r<8):2^r≤128:=by
 have:=Nat.pow_le_pow_right (n:=2) (by decide) (show r≤7 by omega);simpa using this
theorem KR{M b p:Nat}(h:M<2^p)(hb:b≤1):M/256^(p/8)+b*2^(p%8)<256:=by
 have h1:=KQ h;have h2:=Xe (Nat.mod_lt p (show 8>0 by decide));have h3:b*2^(p%8)≤1*2^(p%8):=Nat.mul_le_mul_right _ hb;omega
theorem Jb{L M b p:Nat}(hp:p<8*L)(h:M<2^p)(hb:b≤1):(leB L M).set (p/8) ((M/256^(p/8)+b*2^(p%8):Nat):Int)=leB L (M+b*2^p):=by
 apply List.ext_getElem (by simp[leB]);intro i h1 h2;simp only[Bt] at h2;rw[List.getElem_set];by_cases hi:p/8=i
 ·subst hi
  simp only[if_true];simp only[leB,List.getElem_map,List.getElem_range];rw[Ns,Nat.mod_eq_of_lt (KR h hb)]
 ·simp only[hi,if_false,leB,List.getElem_map,List.getElem_range]
  congr 1
  rcases Nat.lt_or_ge i (p/8) with hlt|hge
  ·have hdv:2^p=256^i*(256*(256^(p/8-i-1)*2^(p%8))):=by
    rw[Jm p];have:p/8=i+(1+(p/8-i-1)):=by omega
    conv=>lhs;rw[this,Nat.pow_add,Nat.pow_add]
    simp[Nat.mul_assoc]
   rw[hdv,show b*(256^i*(256*(256^(p/8-i-1)*2^(p%8))))=256^i*(256*(b*(256^(p/8-i-1)*2^(p%8)))) by rw[Nat.mul_left_comm,Nat.mul_left_comm b],Nat.add_mul_div_left _ _ (Nat.pow_pos (by decide)),Nat.add_mul_mod_self_left]
  ·have hlt:p<8*i:=by omega
   have hp2:2^(p+1)≤256^i:=by
    rw[show(256:Nat)=2^8 by decide,←Nat.pow_mul];exact Nat.pow_le_pow_right (by decide) (by omega)
   have hb2:b*2^p≤1*2^p:=Nat.mul_le_mul_right _ hb;rw[Nat.pow_succ] at hp2;rw[Nat.div_eq_of_lt (show M<256^i by omega),Nat.div_eq_of_lt (show M+b*2^p<256^i by omega)]
theorem LH(M p:Nat):(M/256^(p/8)%256)/2^(p%8)%2=M/2^p%2:=by
 have h8:=Nat.mod_lt p (show 8>0 by decide);have h1:256=2^(p%8)*(2*2^(7-p%8)):=by
  rw[←Nat.mul_assoc,Nat.mul_right_comm,←Nat.pow_add,show p%8+(7-p%8)=7 by omega]
 have h2:∀x:Nat,x%256/2^(p%8)%2=x/2^(p%8)%2:=by
  intro x;rw[h1,Nat.mod_mul_right_div_self,Nat.mod_mul_right_mod]
 rw[h2,Nat.div_div_eq_div_mul,←Jm]
def u64(v:Int):Nat:=(v%18446744073709551616).toNat
theorem FT(v:Int):u64 v<18446744073709551616:=by unfold u64;omega
theorem E9(v:Int):(u64 v:Int)=v%18446744073709551616:=by unfold u64;omega
theorem wrap_u64{v:Int}(h:Be v):IntKind.wrap .i64 (u64 v:Int)=v:=by
 obtain⟨h0,h1⟩:=h;rw[E9,IntKind.wrap_i64];omega
theorem bit_eq(v:Int){j:Nat}(hj:j<64):(v/2^j)%2=((u64 v/2^j%2:Nat):Int):=by
 have hv:v=(u64 v:Int)+18446744073709551616*(v/18446744073709551616):=by rw[E9];omega
 have hp1:(0:Int)<2^j:=by exact_mod_cast Nat.two_pow_pos j
 have hp0:(2:Int)^j≠0:=by omega
 have hs:(18446744073709551616:Int)=2^j*(2*2^(63-j)):=by
  have:2^j*(2*2^(63-j))=2^64:=by
   rw[←Nat.mul_assoc,Nat.mul_right_comm,←Nat.pow_add,show j+(63-j)=63 by omega]
  have h2:((2^j*(2*2^(63-j)):Nat):Int)=((2^64:Nat):Int):=by rw[this]
  rw[Int.natCast_mul,Int.natCast_mul,Int.natCast_pow,Int.natCast_pow] at h2;exact h2.symm
 have key:∀(u:Nat) (q:Int),(((u:Int)+18446744073709551616*q)/2^j)%2=((u/2^j%2:Nat):Int):=by
  intro u q;rw[hs,Int.mul_assoc,Int.add_mul_ediv_left _ _ hp0];rw[show(2:Int)*2^(63-j)*q=2*(2^(63-j)*q) by rw[Int.mul_assoc],Int.add_mul_emod_self_left];simp
 conv=>lhs;rw[hv]
 exact key _ _
def EC(w:Nat):List Nat→Nat
 |[]=>0
 |u::r=>u%2^w+2^w*EC w r
theorem Il(w:Nat):∀us:List Nat,EC w us<2^(us.length*w)
 |[]=>by simp[EC]
 |u::r=>by
  have h1:=Il w r;have h2:=Nat.mod_lt u (Nat.two_pow_pos w);simp only[EC,Bn];rw[Nat.add_mul,Nat.one_mul,Nat.pow_add,Nat.mul_comm (2^(r.length*w))];have h3:2^w*(EC w r+1)≤2^w*2^(r.length*w):=Nat.mul_le_mul_left _ h1;rw[Nat.mul_add] at h3;omega
theorem Im(w u:Nat):∀a:List Nat,EC w (a++[u])=EC w a+(u%2^w)*2^(a.length*w)
 |[]=>by simp[EC]
 |x::a=>by
  simp only[List.cons_append,EC,Im w u a,Bn];rw[Nat.mul_add,Nat.add_mul (a.length) 1,Nat.one_mul,Nat.pow_add,←Nat.add_assoc]
  congr 1
  rw[Nat.mul_left_comm,Nat.mul_comm (2^w)]
theorem Mg(w:Nat):∀(us:List Nat) (i:Nat) (u:Nat),us[i]?=some u→EC w us/2^(i*w)%2^w=u%2^w
 |[],i,u,h=>by cases h
 |x::r,0,u,h=>by
  simp at h;subst h;simp[EC]
 |x::r,i+1,u,h=>by
  have:=Mg w r i u (by simpa using h);rw[←this];simp only[EC];rw[Nat.add_mul,Nat.one_mul,Nat.add_comm,Nat.pow_add,Nat.mul_comm (2^(i*w)),←Nat.div_div_eq_div_mul,Nat.add_comm _ (x%2^w),Nat.add_mul_div_left _ _ (Nat.two_pow_pos w),Nat.div_eq_of_lt (Nat.mod_lt _ (Nat.two_pow_pos w)),Nat.zero_add]
theorem mod_succ(u j:Nat):u%2^(j+1)=u%2^j+(u/2^j%2)*2^j:=by
 rw[Nat.pow_succ,Nat.mod_mul,Nat.mul_comm (2^j)]
def bytesOf(n w:Nat):Nat:=(n*w+7)/8
theorem Jy{x:Int}(h:0≤x):Int.tdiv x 8=x/8:=Int.tdiv_eq_ediv_of_nonneg h
theorem Yb{x:Int}(h:0≤x):Int.tmod x 8=x%8:=Int.tmod_eq_emod_of_nonneg h
end Go.A9
end
section
namespace Go.A9
open Go.Am Go.Fn
variable(k:Nat)
theorem G5{p:Nat}(h:p<1152921504606846976):IntKind.wrap .i64 (Int.tdiv (p:Int) 8)=((p/8:Nat):Int):=by
 rw[Jy (by omega),AV (by omega) (by omega)];omega
theorem GZ(p:Nat):Int.tmod (p:Int) 8=((p%8:Nat):Int):=by
 rw[Yb (by omega)];omega
theorem Jh{M p b:Nat}(h:M<2^p)(hb:b≤1):bits .or .u8 ((M/256^(p/8)%256:Nat):Int) (qV .u8 (b:Int) ((p%8:Nat):Int))=((M/256^(p/8)+b*2^(p%8):Nat):Int):=by
 have h1:=KQ h;have h2:=KR h hb;have h3:=Nat.mod_lt p (show 8>0 by decide);have h4:M/256^(p/8)%256=M/256^(p/8):=Nat.mod_eq_of_lt (by omega);rw[h4];have:=GD .u8 (a:=M/256^(p/8)) (b:=b) (i:=p%8) (show p%8≤8 by omega) h1 (show _<2^8 by omega);rw[w8 (by omega) (by omega)] at this;rw[this,w8 (by omega) (by omega)]
theorem Je{M0 u q j:Nat}(h:M0<2^q):M0+(u%2^j)*2^q<2^(q+j):=by
 have h1:=Nat.mod_lt u (Nat.two_pow_pos j);have h2:(u%2^j+1)*2^q≤2^j*2^q:=Nat.mul_le_mul_right _ h1;rw[Nat.add_mul,Nat.one_mul] at h2;rw[Nat.pow_add,Nat.mul_comm (2^q)];omega
theorem Jf(M0 u q j:Nat):M0+(u%2^j)*2^q+(u/2^j%2)*2^(q+j)=M0+(u%2^(j+1))*2^q:=by
 rw[mod_succ,Nat.add_mul,Nat.mul_assoc (u/2^j%2),←Nat.pow_add,Nat.add_comm j q,Nat.add_assoc]
theorem Jp(v:Int){j:Nat}(hj:j<64):bits .and .i64 (qW .i64 v (j:Int)) 1=((u64 v/2^j%2:Nat):Int):=by
 rw[ED .i64 v j (show j≤64 by omega),and1,bit_eq v hj]
theorem WR(L3:Int→(List Int)→Int→Int→(List Int)→Option (Unit×(List Int)))(vs:List Int)(len v:Int)(w i q L M0:Nat)(hw:w≤64)(hq:(i:Int)*(w:Int)=(q:Int))(GX:q+w≤8*L)(hL:L<1000000)(hi:i<1000000)(hM:M0<2^q):
 ∀(m n j:Nat),j+m=w→m<n→CU.l6 k L3 n (w:Int) (i:Int) v vs len (i:Int) (w:Int) (j:Int) (leB L (M0+(u64 v%2^j)*2^q))=L3 (w:Int) vs len ((i+1:Nat):Int) (leB L (M0+(u64 v%2^w)*2^q)):=by
 intro m
 induction m with
 |zero=>
  intro n j hj hn;obtain⟨n,rfl⟩:∃x,n=x+1:=⟨n-1,by omega⟩;obtain rfl:j=w:=by omega
  simp only[CU.l6,AY (show ¬(j:Int)<(j:Int) by omega),AU];rw[AV (by omega) (by omega)]
  congr 1
 |succ m ih=>
  intro n j hj hn;obtain⟨n,rfl⟩:∃x,n=x+1:=⟨n-1,by omega⟩;have hp:IntKind.wrap .i64 (IntKind.wrap .i64 ((i:Int)*(w:Int))+(j:Int))=((q+j:Nat):Int):=by
   rw[hq,AV (x:=(q:Int)) (by omega) (by omega),AV (by omega) (by omega)];omega
  have hlt:=Je (u:=u64 v) (j:=j) hM;have hb:u64 v/2^j%2≤1:=by omega
  have hg:gP (leB L (M0+u64 v%2^j*2^q)) (((q+j)/8:Nat):Int)=some _:=GA (by omega);have hbi:IntKind.wrap .u8 ((u64 v/2^j%2:Nat):Int)=((u64 v/2^j%2:Nat):Int):=w8 (by omega) (by omega);simp only[CU.l6,AX (show(j:Int)<(w:Int) by omega),AQ,hp,G5 (show q+j<1152921504606846976 by omega),GZ,hg,AR,AX (show(0:Int)≤(j:Int) by omega),AX (show(0:Int)≤(((q+j)%8:Nat):Int) by omega),Jp v (show j<64 by omega),hbi,Jh hlt hb,Int.toNat_natCast,Jb (show q+j<8*L by omega) hlt hb,Jf];rw[AV (by omega) (by omega)];exact ih n (j+1) (by omega) (by omega)
def Cy(w:Nat)(vs:List Int):Nat:=EC w (vs.map u64)
theorem WS(w L:Nat)(hw:w≤64)(hL:L<1000000)(hk:w<k)(vs:List Int)(hvs:vs.length<1000000)(hb:vs.length*w≤8*L):∀(post pre:List Int) (n:Nat),vs=pre++post→post.length<n→
 CU.l3 k n (w:Int) vs (vs.length:Int) (pre.length:Int) (leB L (Cy w pre))=some ((),leB L (Cy w vs)):=by
 intro post
 induction post with
 |nil=>
  intro pre n hv hn;obtain⟨n,rfl⟩:∃x,n=x+1:=⟨n-1,by omega⟩;have:vs=pre:=by simpa using hv
  subst this;simp only[CU.l3,AY (show ¬(vs.length:Int)<(vs.length:Int) by omega),AU]
 |cons v post ih=>
  intro pre n hv hn;simp only[Bn] at hn;obtain⟨n,rfl⟩:∃x,n=x+1:=⟨n-1,by omega⟩;have hlen:vs.length=pre.length+(post.length+1):=by rw[hv];simp
  have hg:gP vs (pre.length:Int)=some v:=by rw[hv,Dc,List.getElem?_append_right (Nat.le_refl _)];simp
  have hM:=Il w (pre.map u64);rw[List.length_map] at hM;have hmul:pre.length*w+w≤vs.length*w:=by
   have:(pre.length+1)*w≤vs.length*w:=Nat.mul_le_mul_right _ (by omega);rw[Nat.add_mul,Nat.one_mul] at this;exact this
  have hi:=WR k (CU.l3 k n) vs (vs.length:Int) v w pre.length (pre.length*w) L (Cy w pre) hw (by simp) (by omega) hL (by omega) hM w k 0 (by omega) hk;simp only[Nat.pow_zero,Nat.mod_one,Nat.zero_mul,Nat.add_zero] at hi;simp only[CU.l3,AX (show(pre.length:Int)<(vs.length:Int) by omega),AQ,hg,AR];have h0:((0:Nat):Int)=0:=rfl;rw[h0] at hi;rw[hi];have:=ih (pre++[v]) n (by rw[hv];simp) (by omega);rw[A8,Bz] at this;rw[←this];unfold Cy;rw[List.map_append,List.map_singleton,Im,List.length_map]
theorem len8{n w:Nat}(hn:n≤100000)(hw:w≤64):IntKind.wrap .i64 (Int.tdiv (IntKind.wrap .i64 (IntKind.wrap .i64 ((n:Int)*(w:Int))+7)) 8)=((bytesOf n w:Nat):Int)∧bytesOf n w<1000000∧n*w≤8*bytesOf n w:=by
 have h1:n*w≤100000*64:=Nat.mul_le_mul hn hw;have h2:(n:Int)*(w:Int)=((n*w:Nat):Int):=by simp
 unfold bytesOf;rw[h2];generalize n*w=q at h1⊢;rw[AV (x:=(q:Int)) (by omega) (by omega),AV (x:=(q:Int)+7) (by omega) (by omega),Jy (by omega),AV (by omega) (by omega)];omega
def Bw(w:Nat)(vs:List Int):List Int:=leB (bytesOf vs.length w) (Cy w vs)
theorem Ji(vs:List Int)(w:Nat)(hw:w≤64)(hvs:vs.length≤100000)(hk:vs.length<k)(hk2:w<k):CU k vs (w:Int)=some ((),Bw w vs):=by
 obtain⟨h1,h2,h3⟩:=len8 hvs hw;unfold CU;rw[h1,Gg (by omega) (by omega),AQ,Int.toNat_natCast,←Jc];exact WS k w _ hw h2 hk2 vs (by omega) h3 vs [] k rfl hk
theorem Nf(pre post:List Int)(L M p:Nat)(hp:p<8*L)(hl:pre.length+L<100000000000000000):I6 k (pre++(leB L M++post)) ((8*pre.length+p:Nat):Int)=some ((M/2^p%2:Nat):Int):=by
 unfold I6;have hd:(8*pre.length+p)/8=pre.length+p/8:=by omega
 have hm:(8*pre.length+p)%8=p%8:=by omega
 have hg:gP (pre++(leB L M++post)) ((pre.length+p/8:Nat):Int)=some ((M/256^(p/8)%256:Nat):Int):=by
  rw[Dc,List.getElem?_append_right (by omega),List.getElem?_append_left (by rw[Bt];omega),Nat.add_sub_cancel_left];exact GA (by omega)
 simp only[AY (show ¬(((8*pre.length+p:Nat):Int)<0) by omega),AU,G5 (show 8*pre.length+p<1152921504606846976 by omega),GZ,hd,hm,hg,AR,
  AY (show ¬(((pre.length+p/8:Nat):Int)≥((pre++(leB L M++post)).length:Int)) by simp[Bt];omega),AX (show(0:Int)≤((p%8:Nat):Int) by omega),AQ]
 rw[ED .u8 _ (p%8) (show p%8≤8 by omega)];have h1:((M/256^(p/8)%256:Nat):Int)/2^(p%8)=((M/256^(p/8)%256/2^(p%8):Nat):Int):=by simp
 rw[h1];have hlt:M/256^(p/8)%256/2^(p%8)<256:=Nat.lt_of_le_of_lt (Nat.div_le_self _ _) (Nat.mod_lt _ (by decide));have hb:=LH M p;generalize M/256^(p/8)%256/2^(p%8)=x at hlt hb;have h2:=bits_mask .u8 8 (by decide) wraps_u8 1 (by decide) (x:Int) (by omega) (by omega);have h2:bits .and .u8 (x:Int) 1=(x:Int)%2:=h2;rw[h2,AV (by omega) (by omega),←hb];simp
def DU(w M i:Nat):Int:=IntKind.wrap .i64 ((M/2^(i*w)%2^w:Nat):Int)
theorem Yf(L3:(List Int)→Int→Int→Int→Int→(List Int)→Option (Unit×(List Int)))(pre post:List Int)(L M w i q:Nat)(t14:Int)(hw:w≤64)(hq:(i:Int)*(w:Int)=(q:Int))(Ib:i*w=q)(GX:q+w≤8*L)(hl:pre.length+L<10000000000000000)(hi:i<1000000)(o:List Int)(ho:o.length<1000000):
 ∀(m n j:Nat),j+m=w→m<n→CY.l7 k L3 n (pre++(leB L M++post)) (pre.length:Int) (w:Int) (i:Int) (IntKind.wrap .i64 ((M/2^q%2^j:Nat):Int)) t14 (i:Int) (w:Int) (j:Int) o=L3 (pre++(leB L M++post)) (pre.length:Int) (w:Int) t14 ((i+1:Nat):Int) (o++[DU w M i]):=by
 intro m
 induction m with
 |zero=>
  intro n j hj hn;obtain⟨n,rfl⟩:∃x,n=x+1:=⟨n-1,by omega⟩;obtain rfl:j=w:=by omega
  simp only[CY.l7,AY (show ¬(j:Int)<(j:Int) by omega),AU];rw[Bc (by simp;omega),AQ,AV (x:=(i:Int)+1) (by omega) (by omega)];unfold DU;rw[Ib]
  congr 1
 |succ m ih=>
  intro n j hj hn;obtain⟨n,rfl⟩:∃x,n=x+1:=⟨n-1,by omega⟩;have hp:IntKind.wrap .i64 (IntKind.wrap .i64 (IntKind.wrap .i64 (8*(pre.length:Int))+IntKind.wrap .i64 ((i:Int)*(w:Int)))+(j:Int))=((8*pre.length+(q+j):Nat):Int):=by
   rw[hq,AV (x:=(q:Int)) (by omega) (by omega),AV (x:=8*(pre.length:Int)) (by omega) (by omega),AV (x:=8*(pre.length:Int)+(q:Int)) (by omega) (by omega),AV (by omega) (by omega)];omega
  have hb:=Nf k pre post L M (q+j) (by omega) (by omega);simp only[CY.l7,AX (show(j:Int)<(w:Int) by omega),AQ,hp,hb,AR,AX (show(0:Int)≤(j:Int) by omega)];have hlt:M/2^q%2^j<2^j:=Nat.mod_lt _ (Nat.two_pow_pos j);have hjj:2^(j+1)≤2^64:=Nat.pow_le_pow_right (by decide) (by omega);have hb1:M/2^(q+j)%2≤1:=by omega
  have hb2:M/2^(q+j)%2*2^j≤1*2^j:=Nat.mul_le_mul_right _ hb1;have ho:=GD .i64 (a:=M/2^q%2^j) (b:=M/2^(q+j)%2) (i:=j) (show j≤64 by omega) hlt (show _<2^64 by rw[Nat.pow_succ] at hjj;omega);rw[ho];have hs:M/2^q%2^j+M/2^(q+j)%2*2^j=M/2^q%2^(j+1):=by
   rw[mod_succ,Nat.div_div_eq_div_mul,←Nat.pow_add]
  rw[hs,AV (x:=(j:Int)+1) (by omega) (by omega),show((j:Int)+1)=((j+1:Nat):Int) by omega];exact ih n (j+1) (by omega) (by omega)
theorem Yg(pre post:List Int)(L M w N:Nat)(hw:w≤64)(hN:N*w≤8*L)(hl:pre.length+L<10000000000000000)(Ia:N<1000000)(hk:w<k):
 ∀(m n i:Nat) (o:List Int),i+m=N→m<n→o.length=i→CY.l3 k n (pre++(leB L M++post)) (pre.length:Int) (w:Int) (N:Int) (i:Int) o=some ((),o++(List.range' i m).map (DU w M)):=by
 intro m
 induction m with
 |zero=>
  intro n i o hi hn ho;obtain⟨n,rfl⟩:∃x,n=x+1:=⟨n-1,by omega⟩;simp only[CY.l3,AY (show ¬(i:Int)<(N:Int) by omega),AU];simp
 |succ m ih=>
  intro n i o hi hn ho;obtain⟨n,rfl⟩:∃x,n=x+1:=⟨n-1,by omega⟩;have hmul:i*w+w≤N*w:=by
   have:(i+1)*w≤N*w:=Nat.mul_le_mul_right _ (by omega);rw[Nat.add_mul,Nat.one_mul] at this;exact this
  have hi':=Yf k (CY.l3 k n) pre post L M w i (i*w) (N:Int) hw (by simp) rfl (by omega) hl (by omega) o (by omega) w k 0 (by omega) hk;simp only[Nat.pow_zero,Nat.mod_one] at hi';simp only[CY.l3,AX (show(i:Int)<(N:Int) by omega),AQ];have h0:((0:Nat):Int)=0:=rfl;have hw0:IntKind.wrap .i64 0=0:=rfl;rw[h0,hw0] at hi';rw[hi',ih n (i+1) _ (by omega) (by omega) (by simp;omega)];simp[List.range'_succ]
theorem Iy(pre post:List Int)(L M w N:Nat)(hw:w≤64)(hN:N*w≤8*L)(hl:pre.length+L<10000000000000000)(Ia:N<1000000)(hk:w<k)(hk2:N<k):
 CY k (pre++(leB L M++post)) (pre.length:Int) (N:Int) (w:Int)=some ((),(List.range N).map (DU w M)):=by
 unfold CY;have:=Yg k pre post L M w N hw hN hl Ia hk N k 0 [] (by omega) hk2 rfl;rw[List.range_eq_range'];simpa using this
theorem unpack_pack(w:Nat)(vs:List Int)(hv:∀v,v∈vs→Be v∧u64 v<2^w)(i:Nat)(v:Int)(h:vs[i]?=some v):DU w (Cy w vs) i=v:=by
 obtain⟨h1,h2⟩:=hv v (List.mem_of_getElem? h);unfold DU Cy;rw[Mg w _ i (u64 v) (by simp[h]),Nat.mod_eq_of_lt h2,wrap_u64 h1]
theorem Ku(w:Nat)(vs:List Int)(hv:∀v,v∈vs→Be v∧u64 v<2^w)(N:Nat)(hN:N≤vs.length):(List.range N).map (DU w (Cy w vs))=vs.take N:=by
 apply List.ext_getElem (by simp;omega);intro i h1 h2;simp only[List.length_map,List.length_range] at h1;simp only[List.getElem_map,List.getElem_range,List.getElem_take];exact unpack_pack w vs hv i _ (Ef (by omega))
end Go.A9
end
section
namespace Go.A9
open Go.Am Go.Fn
variable(k:Nat)
theorem V3(L3:(List Int)→Int→Int→(List Int)→Option (Unit×(List Int)))(vs:List Int)(v:Int)(w i q L M0:Nat)(hw:w≤64)(hq:(i:Int)*(w:Int)=(q:Int))(GX:q+w≤8*L)(hL:L<1000000)(hi:i<1000000)(hM:M0<2^q)(hv:gP vs (i:Int)=some v):
 ∀(m n j:Nat),j+m=w→m<n→Cm.l6 k L3 n vs (w:Int) (i:Int) (j:Int) (leB L (M0+(u64 v%2^j)*2^q))=L3 vs (w:Int) ((i+1:Nat):Int) (leB L (M0+(u64 v%2^w)*2^q)):=by
 intro m
 induction m with
 |zero=>
  intro n j hj hn;obtain⟨n,rfl⟩:∃x,n=x+1:=⟨n-1,by omega⟩;obtain rfl:j=w:=by omega
  simp only[Cm.l6,AY (show ¬(j:Int)<(j:Int) by omega),AU];rw[AV (by omega) (by omega)]
  congr 1
 |succ m ih=>
  intro n j hj hn;obtain⟨n,rfl⟩:∃x,n=x+1:=⟨n-1,by omega⟩;have hp:IntKind.wrap .i64 (IntKind.wrap .i64 ((i:Int)*(w:Int))+(j:Int))=((q+j:Nat):Int):=by
   rw[hq,AV (x:=(q:Int)) (by omega) (by omega),AV (by omega) (by omega)];omega
  have hlt:=Je (u:=u64 v) (j:=j) hM;have hb:u64 v/2^j%2≤1:=by omega
  have hg:gP (leB L (M0+u64 v%2^j*2^q)) (((q+j)/8:Nat):Int)=some _:=GA (by omega);have hi:=ih n (j+1) (by omega) (by omega);rw[←Jf] at hi;simp only[Cm.l6,AX (show(j:Int)<(w:Int) by omega),AQ,hp,G5 (show q+j<1152921504606846976 by omega),GZ,hg,hv,AR,AX (show(0:Int)≤(j:Int) by omega),AX (show(0:Int)≤(((q+j)%8:Nat):Int) by omega),Jp v (show j<64 by omega),Cm.c7];rw[AV (x:=(j:Int)+1) (by omega) (by omega),show((j:Int)+1)=((j+1:Nat):Int) by omega];rcases Nat.eq_zero_or_pos (u64 v/2^j%2) with h0|h0
  ·rw[h0] at hi⊢
   rw[A_ (by decide),AU];simpa using hi
  ·have h1:u64 v/2^j%2=1:=by omega
   have ho:=Jh hlt (show 1≤1 by omega);have hs:=Jb (L:=L) (show q+j<8*L by omega) hlt (show 1≤1 by omega);have h11:((1:Nat):Int)=1:=rfl;rw[h11] at ho;rw[h1] at hi⊢;rw[CG (by rfl),AQ,ho,Int.toNat_natCast,hs];exact hi
theorem V4(w L:Nat)(hw:w≤64)(hL:L<1000000)(hk:w<k)(vs:List Int)(hvs:vs.length<1000000)(hb:vs.length*w≤8*L):∀(post pre:List Int) (n:Nat),vs=pre++post→post.length<n→
 Cm.l3 k n vs (w:Int) (pre.length:Int) (leB L (Cy w pre))=some ((),leB L (Cy w vs)):=by
 intro post
 induction post with
 |nil=>
  intro pre n hv hn;obtain⟨n,rfl⟩:∃x,n=x+1:=⟨n-1,by omega⟩;have:vs=pre:=by simpa using hv
  subst this;simp only[Cm.l3,AY (show ¬(vs.length:Int)<(vs.length:Int) by omega),AU]
 |cons v post ih=>
  intro pre n hv hn;simp only[Bn] at hn;obtain⟨n,rfl⟩:∃x,n=x+1:=⟨n-1,by omega⟩;have hlen:vs.length=pre.length+(post.length+1):=by rw[hv];simp
  have hg:gP vs (pre.length:Int)=some v:=by rw[hv,Dc,List.getElem?_append_right (Nat.le_refl _)];simp
  have hM:=Il w (pre.map u64);rw[List.length_map] at hM;have hmul:pre.length*w+w≤vs.length*w:=by
   have:(pre.length+1)*w≤vs.length*w:=Nat.mul_le_mul_right _ (by omega);rw[Nat.add_mul,Nat.one_mul] at this;exact this
  have hi:=V3 k (Cm.l3 k n) vs v w pre.length (pre.length*w) L (Cy w pre) hw (by simp) (by omega) hL (by omega) hM hg w k 0 (by omega) hk;simp only[Nat.pow_zero,Nat.mod_one,Nat.zero_mul,Nat.add_zero] at hi;simp only[Cm.l3,AX (show(pre.length:Int)<(vs.length:Int) by omega),AQ];have h0:((0:Nat):Int)=0:=rfl;rw[h0] at hi;rw[hi];have:=ih (pre++[v]) n (by rw[hv];simp) (by omega);rw[A8,Bz] at this;rw[←this];unfold Cy;rw[List.map_append,List.map_singleton,Im,List.length_map]
theorem VZ(vs:List Int)(w:Nat)(hw:w≤64)(hvs:vs.length≤100000)(hk:vs.length<k)(hk2:w<k):Cm k vs (w:Int)=some ((),Bw w vs):=by
 obtain⟨h1,h2,h3⟩:=len8 hvs hw;unfold Cm;rw[h1,Gg (by omega) (by omega),AQ,Int.toNat_natCast,←Jc];exact V4 k w _ hw h2 hk2 vs (by omega) h3 vs [] k rfl hk
end Go.A9
end
section
namespace Go.A9
open Go.Am Go.Fn
theorem CQ(k:Nat)(a b c:Int):Ce k a b c=some (decide (b≤a)&&decide (a≤c)):=by
 unfold Ce;simp only[BZ,AR,ge_iff_le]
theorem ES(k:Nat)(a b c:Int):DT k a b c=some (decide (b≤a)&&decide (a≤c)):=by
 unfold DT;simp only[BZ,AR,ge_iff_le]
theorem BB{α:Type}(pre post:List α)(x:α):gP (pre++x::post) (pre.length:Int)=some x:=by
 rw[Dc,List.getElem?_append_right (Nat.le_refl _)];simp
theorem XF{α:Type}(pre post:List α)(x y:α):List.set (pre++x::post) (Int.toNat (pre.length:Int)) y=pre++y::post:=by
 rw[Int.toNat_natCast,List.set_append_right _ _ (Nat.le_refl _)];simp
theorem Wz{α:Type}(pre post:List α)(x:α):pre++x::post=(pre++[x])++post:=by simp
end Go.A9
end
section
namespace Go.A9
open Go.Am Go.Fn
variable(k:Nat)
theorem Nq(L6:(List Int)→Int→Int→(List Int)→Option ((Unit×Bool)×(List Int)))(vs:List Int)(v:Int)(w i q L M0:Nat)(hw:w≤64)(hq:(i:Int)*(w:Int)=(q:Int))(GX:q+w≤8*L)(hL:L<1000000)(hi:i<1000000)(hM:M0<2^q)(hv:gP vs (i:Int)=some v):
 ∀(m n j:Nat),j+m=w→m<n→Cj.Cc k L6 n vs (w:Int) (i:Int) (j:Int) (leB L (M0+(u64 v%2^j)*2^q))=L6 vs (w:Int) ((i+1:Nat):Int) (leB L (M0+(u64 v%2^w)*2^q)):=by
 intro m
 induction m with
 |zero=>
  intro n j hj hn;obtain⟨n,rfl⟩:∃x,n=x+1:=⟨n-1,by omega⟩;obtain rfl:j=w:=by omega
  simp only[Cj.Cc,AY (show ¬(j:Int)<(j:Int) by omega),AU];rw[AV (by omega) (by omega)]
  congr 1
 |succ m ih=>
  intro n j hj hn;obtain⟨n,rfl⟩:∃x,n=x+1:=⟨n-1,by omega⟩;have hp:IntKind.wrap .i64 (IntKind.wrap .i64 ((i:Int)*(w:Int))+(j:Int))=((q+j:Nat):Int):=by
   rw[hq,AV (x:=(q:Int)) (by omega) (by omega),AV (by omega) (by omega)];omega
  have hlt:=Je (u:=u64 v) (j:=j) hM;have hb:u64 v/2^j%2≤1:=by omega
  have hg:gP (leB L (M0+u64 v%2^j*2^q)) (((q+j)/8:Nat):Int)=some _:=GA (by omega);have hi:=ih n (j+1) (by omega) (by omega);rw[←Jf] at hi;simp only[Cj.Cc,AX (show(j:Int)<(w:Int) by omega),AQ,hp,G5 (show q+j<1152921504606846976 by omega),GZ,hg,hv,AR,AX (show(0:Int)≤(j:Int) by omega),AX (show(0:Int)≤(((q+j)%8:Nat):Int) by omega),Jp v (show j<64 by omega),Cj.c12];rw[AV (x:=(j:Int)+1) (by omega) (by omega),show((j:Int)+1)=((j+1:Nat):Int) by omega];rcases Nat.eq_zero_or_pos (u64 v/2^j%2) with h0|h0
  ·rw[h0] at hi⊢
   rw[A_ (by decide),AU];simpa using hi
  ·have h1:u64 v/2^j%2=1:=by omega
   have ho:=Jh hlt (show 1≤1 by omega);have hs:=Jb (L:=L) (show q+j<8*L by omega) hlt (show 1≤1 by omega);have h11:((1:Nat):Int)=1:=rfl;rw[h11] at ho;rw[h1] at hi⊢;rw[CG (by rfl),AQ,Int.toNat_natCast,ho,hs];exact hi
theorem Nr(w L:Nat)(hw:w≤62)(hL:L<1000000)(hk:w<k)(vs:List Int)(hvs:vs.length<1000000)(hr:∀v,v∈vs→0≤v∧v<2^w)(hb:vs.length*w≤8*L):∀(post pre:List Int) (n:Nat),vs=pre++post→post.length<n→
 Cj.l6 k n vs (w:Int) (pre.length:Int) (leB L (Cy w pre))=some (((),true),leB L (Cy w vs)):=by
 intro post
 induction post with
 |nil=>
  intro pre n hv hn;obtain⟨n,rfl⟩:∃x,n=x+1:=⟨n-1,by omega⟩;have:vs=pre:=by simpa using hv
  subst this;simp only[Cj.l6,AY (show ¬(vs.length:Int)<(vs.length:Int) by omega),AU]
 |cons v post ih=>
  intro pre n hv hn;simp only[Bn] at hn;obtain⟨n,rfl⟩:∃x,n=x+1:=⟨n-1,by omega⟩;have hlen:vs.length=pre.length+(post.length+1):=by rw[hv];simp
  have hg:gP vs (pre.length:Int)=some v:=by rw[hv,Dc,List.getElem?_append_right (Nat.le_refl _)];simp
  obtain⟨v0,v1⟩:=hr v (by rw[hv];simp);have hM:=Il w (pre.map u64);rw[List.length_map] at hM;have hmul:pre.length*w+w≤vs.length*w:=by
   have:(pre.length+1)*w≤vs.length*w:=Nat.mul_le_mul_right _ (by omega);rw[Nat.add_mul,Nat.one_mul] at this;exact this
  have hi:=Nq k (Cj.l6 k n) vs v w pre.length (pre.length*w) L (Cy w pre) (by omega) (by simp) (by omega) hL (by omega) hM hg w k 0 (by omega) hk;simp only[Nat.pow_zero,Nat.mod_one,Nat.zero_mul,Nat.add_zero] at hi;have hsh:qW .i64 v (w:Int)=0:=by
   rw[ED .i64 v w (show w≤64 by omega)];exact Int.ediv_eq_zero_of_lt v0 v1
  simp only[Cj.l6,AX (show(pre.length:Int)<(vs.length:Int) by omega),AQ,hg,AR,AY (show ¬v<0 by omega),AU,AX (show(0:Int)≤(w:Int) by omega),hsh,show((0:Int) !=0)=false from rfl];have h0:((0:Nat):Int)=0:=rfl;rw[h0] at hi;rw[hi];have:=ih (pre++[v]) n (by rw[hv];simp) (by omega);rw[A8,Bz] at this;rw[←this];unfold Cy;rw[List.map_append,List.map_singleton,Im,List.length_map]
theorem Ng(vs:List Int)(w:Nat)(hw:w≤62)(hvs:vs.length≤2000)(hr:∀v,v∈vs→0≤v∧v<2^w)(hk:vs.length<k)(hk2:w<k):Cj k vs (w:Int)=some (((),true),Bw w vs):=by
 obtain⟨h1,h2,h3⟩:=len8 (n:=vs.length) (w:=w) (by omega) (by omega);unfold Cj FM;simp only[ES,AR,cst,AX (show(0:Int)≤(vs.length:Int) by omega),AX (show(vs.length:Int)≤2000 by omega),AX (show(0:Int)≤(w:Int) by omega),AX (show(w:Int)≤62 by omega),Bool.and_self,Bh,D6,AU,h1,AY (show ¬((bytesOf vs.length w:Nat):Int)<0 by omega)];rw[Gg (by omega) (by omega),AQ,Int.toNat_natCast,←Jc];exact Nr k w _ hw h2 hk2 vs (by omega) hr h3 vs [] k rfl hk
theorem Wh(n M:Nat):leB (n+1) M=leB n M++[((M/256^n%256:Nat):Int)]:=by
 unfold leB;rw[List.range_succ,List.map_append,List.map_singleton]
theorem Kl(v:Int){i:Nat}(hi:i<8):IntKind.wrap .u8 (qW .i64 v ((8*i:Nat):Int))=((u64 v/256^i%256:Nat):Int):=by
 rw[ED .i64 v (8*i) (show 8*i≤64 by omega),KC];have hp:(256:Nat)^i=2^(8*i):=by rw[Nat.pow_mul]
 have hpi:((2:Int)^(8*i))=((2^(8*i):Nat):Int):=by simp
 rw[Int.natCast_emod,Int.natCast_ediv,E9,hp,←hpi];rcases(show i=0∨i=1∨i=2∨i=3∨i=4∨i=5∨i=6∨i=7 by omega) with rfl|rfl|rfl|rfl|rfl|rfl|rfl|rfl<;>simp<;>omega
theorem Yn(v:Int)(n:Nat)(hn:n≤8)(h1:1≤n):∀(m f i:Nat),i+m=n→m<f→
 DJ.l5 k f v (n:Int) (i:Int) (leB i (u64 v))=some ((),leB n (u64 v))∧Dy.l3 k f v (n:Int) (i:Int) (leB i (u64 v))=some ((),leB n (u64 v)):=by
 intro m
 induction m with
 |zero=>
  intro f i hi hf;obtain⟨f,rfl⟩:∃q,f=q+1:=⟨f-1,by omega⟩;obtain rfl:i=n:=by omega
  simp only[DJ.l5,Dy.l3,AY (show ¬(i:Int)<(i:Int) by omega),AU,AR];exact⟨trivial,trivial⟩
 |succ m ih=>
  intro f i hi hf;obtain⟨f,rfl⟩:∃q,f=q+1:=⟨f-1,by omega⟩;have e2:IntKind.wrap .i64 (8*(i:Int))=((8*i:Nat):Int):=by rw[AV (by omega) (by omega)];omega
  have e3:IntKind.wrap .i64 ((i:Int)+1)=((i+1:Nat):Int):=by rw[AV (by omega) (by omega)];omega
  have hr:(decide ((1:Int)≤(n:Int))&&decide ((n:Int)≤8))=true:=by simp;omega
  simp only[DJ.l5,Dy.l3,ES,hr,AX (show(i:Int)<(n:Int) by omega),AQ,AR,e2,e3,AX (show(0:Int)≤((8*i:Nat):Int) by omega),Kl v (show i<8 by omega),Bc (show(leB i (u64 v)).length+[((u64 v/256^i%256:Nat):Int)].length≤4294967296 by rw[Bt];simp;omega),←Wh];exact ih f (i+1) (by omega) (by omega)
theorem IA(hk:100≤k)(v:Int)(n:Nat)(hn:n≤8)(h1:1≤n):DJ k v (n:Int)=some ((),leB n (u64 v))∧Dy k v (n:Int)=some ((),leB n (u64 v)):=by
 obtain⟨a,b⟩:=Yn k v n hn h1 n k 0 (by omega) (by omega);have hr:(decide ((1:Int)≤(n:Int))&&decide ((n:Int)≤8))=true:=by simp;omega
 unfold DJ Dy;simp only[CQ,hr,AR,Bh,AU];exact⟨a,b⟩
end Go.A9
end
section
namespace Go.A9
open Go.Am Go.Fn
def Dh:Nat→List Int→Option (Nat×Nat)
 |0,_=>none
 |_+1,[]=>none
 |f+1,c::r=>if f=0∧1<c then none else if c<128 then some (c.toNat,1) else(Dh f r).map fun x=>((c%128).toNat+128*x.1,x.2+1)
def gv(l:List Int):Option (Int×Nat):=(Dh 10 l).map fun x=>(IntKind.wrap .i64 (x.1:Int),x.2)
theorem Vm:∀(f:Nat) (l:List Int) (v n:Nat),(∀x,x∈l→0≤x∧x<256)→Dh (f+1) l=some (v,n)→v<2*128^f∧1≤n∧n≤l.length∧n≤f+1∧(BQ f v).length≤n:=by
 intro f
 induction f with
 |zero=>
  intro l v n hb h;cases l with
  |nil=>simp[Dh] at h
  |cons c r=>
   obtain⟨c0,c1⟩:=hb c (by simp);simp only[Dh,true_and] at h;split at h
   ·cases h
   ·split at h
    ·simp only[Eg,Prod.mk.injEq] at h
     obtain⟨rfl,rfl⟩:=h;simp[BQ];omega
    ·simp at h
 |succ f ih=>
  intro l v n hb h;cases l with
  |nil=>simp[Dh] at h
  |cons c r=>
   obtain⟨c0,c1⟩:=hb c (by simp);rw[Dh,if_neg (by omega)] at h;have hP:1≤128^f:=Nat.pow_pos (by decide);have hP2:(128:Nat)^(f+1)=128*128^f:=by rw[Nat.pow_succ,Nat.mul_comm]
   split at h
   ·simp only[Eg,Prod.mk.injEq] at h
    obtain⟨rfl,rfl⟩:=h;refine⟨by omega,by omega,by simp,by omega,?_⟩;simp only[BQ];rw[if_neg (by omega)];simp
   ·cases hg:Dh (f+1) r with
    |none=>rw[hg] at h;cases h
    |some x=>
     obtain⟨v',n'⟩:=x;rw[hg] at h;simp only[Option.map_some,Eg,Prod.mk.injEq] at h;obtain⟨rfl,rfl⟩:=h;obtain⟨i1,i2,i3,i4,i5⟩:=ih r v' n' (fun x hx=>hb x (by simp[hx])) hg;refine⟨by omega,by omega,by simp;omega,by omega,?_⟩;simp only[BQ];split
     ·rw[Bn,show((c%128).toNat+128*v')/128=v' by omega]
      omega
     ·simp
theorem Vn(l:List Int)(u:Int)(n:Nat)(hb:∀x,x∈l→0≤x∧x<256)(h:gv l=some (u,n)):Be u∧1≤n∧n≤l.length∧n≤10∧(uv u).length≤n:=by
 unfold gv at h;cases hg:Dh 10 l with
 |none=>rw[hg] at h;cases h
 |some x=>
  obtain⟨v,n'⟩:=x;rw[hg] at h;simp only[Option.map_some,Eg,Prod.mk.injEq] at h;obtain⟨rfl,rfl⟩:=h;obtain⟨h1,h2,h3,h4,h5⟩:=Vm 9 l v n' hb hg;have h1:v<18446744073709551616:=by simpa using h1
  refine⟨⟨F4 _,F3 _⟩,h2,h3,h4,?_⟩;unfold uv;rw[IntKind.wrap_i64,show(((v:Int)+9223372036854775808)%18446744073709551616-9223372036854775808)%18446744073709551616=(v:Int) by omega,Int.toNat_natCast];exact h5
theorem JP{α:Type}{l:List α}{p:Nat}(h:p<l.length):∃c,l.drop p=c::l.drop (p+1)∧l[p]?=some c:=by
 refine⟨l[p],?_,by simp[h]⟩;rw[List.drop_eq_getElem_cons h]
theorem VM(k:Nat)(b:List Int)(p:Nat)(hb:b.length<4611686018427387904)(hby:∀x,x∈b→0≤x∧x<256)(hp:p<4611686018427387904):∀(f n i acc:Nat),i+f=10→f<n→acc<2^(7*i)→
 Cx.l5 k n b (p:Int) (acc:Int) (i:Int)=match Dh f (b.drop (p+i)) with
  |none=>some (0,0,false)
  |some (v,m)=>some (IntKind.wrap .i64 ((acc+v*2^(7*i):Nat):Int),((p+i+m:Nat):Int),true):=by
 intro f
 induction f with
 |zero=>
  intro n i acc hi hn hacc;obtain⟨n,rfl⟩:∃j,n=j+1:=⟨n-1,by omega⟩;obtain rfl:i=10:=by omega
  simp only[Cx.l5,show decide (((10:Nat):Int)<10)=false by decide,AU,AR,Dh,Cx.c12]
 |succ f ih=>
  intro n i acc hi hn hacc;obtain⟨n,rfl⟩:∃j,n=j+1:=⟨n-1,by omega⟩;have hP:0<2^(7*i):=Nat.two_pow_pos _;have FC:2^(7*(i+1))=128*2^(7*i):=by rw[Nat.mul_add,Nat.pow_add];simp[Nat.mul_comm]
  have c1:decide ((i:Int)<10)=true:=by simp;omega
  by_cases hlt:p+i<b.length
  ·obtain⟨c,hc,hc2⟩:=JP hlt
   obtain⟨c0,KW⟩:=hby c (List.mem_of_getElem? hc2);have e1:IntKind.wrap .i64 ((b.length:Int)-(p:Int))=(b.length:Int)-p:=AV (by omega) (by omega);have e2:IntKind.wrap .i64 ((p:Int)+(i:Int))=((p+i:Nat):Int):=by rw[AV (by omega) (by omega)];omega
   have e3:IntKind.wrap .i64 (7*(i:Int))=((7*i:Nat):Int):=by rw[AV (by omega) (by omega)];omega
   have e5:IntKind.wrap .i64 (((p+i:Nat):Int)+1)=((p+i+1:Nat):Int):=by rw[AV (by omega) (by omega)];omega
   have e6:IntKind.wrap .i64 ((i:Int)+1)=((i+1:Nat):Int):=by rw[AV (by omega) (by omega)];omega
   have c2:decide ((i:Int)<(b.length:Int)-p)=true:=by simp;omega
   have c5:decide ((0:Int)≤((7*i:Nat):Int))=true:=AX (by omega);have hget:gP b ((p+i:Nat):Int)=some c:=by rw[Dc];exact hc2
   rw[hc,Dh];simp only[Cx.l5,c1,e1,c2,e2,e3,e5,e6,hget,AQ,AR,BZ];by_cases h9:f=0∧1<c
   ·obtain⟨rfl,h1c⟩:=h9
    obtain rfl:i=9:=by omega
    rw[if_pos ⟨rfl,h1c⟩];simp only[show(((9:Nat):Int)==9)=true by decide,show decide (c>1)=true from AX h1c,Bool.and_self,AQ,Cx.c12]
   ·rw[if_neg h9]
    have JY:(((i:Int)==9)&&decide (c>1))=false:=by
     rw[Bool.eq_false_iff];intro q;simp only[CO,beq_iff_eq,Cz] at q;exact h9 ⟨by omega,q.2⟩
    simp only[JY,AU,c5,AQ];have hcm:(c%128)*2^(7*i)<18446744073709551616:=by
     by_cases hf:f=0
     ·have:i=9:=by omega
      subst this;have:c≤1:=by
       rcases Int.lt_or_le 1 c with q|q
       ·exact(h9 ⟨hf,q⟩).elim
       ·exact q
      have h2:(2:Int)^(7*9)=9223372036854775808:=by decide
      rw[h2];omega
     ·have:(2:Int)^(7*i)≤2^56:=by
       have:=Nat.pow_le_pow_right (n:=2) (by omega) (show 7*i≤56 by omega)
       exact_mod_cast this
      have h3:(2:Int)^56=72057594037927936:=by decide
      have h4:(0:Int)<2^(7*i):=by exact_mod_cast hP
      have:=Int.mul_le_mul (show c%128≤127 by omega) this (by omega) (by omega);omega
    have e4:qV .u64 (IntKind.wrap .u64 (bits .and .u8 c 127)) ((7*i:Nat):Int)=(c%128)*2^(7*i):=by
     rw[u8_and127 c0 KW,EJ];unfold qV;rw[EJ];have:min (((7*i:Nat):Int)).toNat (IntKind.bits .u64)=7*i:=by simp[IntKind.bits];omega
     rw[this,show(c%128)%18446744073709551616=c%128 by omega];have:0≤(c%128)*2^(7*i):=Int.mul_nonneg (by omega) (by exact_mod_cast Nat.zero_le _);omega
    have Gb:bits .or .u64 (acc:Int) ((c%128)*2^(7*i))=((acc+(c%128).toNat*2^(7*i):Nat):Int):=by
     rw[Kr (i:=7*i) (by omega) (by exact_mod_cast hacc) (by omega) (by omega) (by omega)];have:c%128=(((c%128).toNat:Nat):Int):=by omega
     rw[this];simp
    rw[e4,Gb];by_cases h128:c<128
    ·rw[if_pos h128,AX h128,AQ]
     have:(c%128).toNat=c.toNat:=by omega
     rw[this]
    ·rw[if_neg h128,AY h128,AU]
     have hlt2:acc+(c%128).toNat*2^(7*i)<2^(7*(i+1)):=by
      rw[FC];have:(c%128).toNat*2^(7*i)≤127*2^(7*i):=Nat.mul_le_mul_right _ (by omega);omega
     rw[ih n (i+1) _ (by omega) (by omega) hlt2,←Nat.add_assoc];cases Dh f (b.drop (p+i+1)) with
     |none=>rfl
     |some x=>
      obtain⟨v,m⟩:=x;simp only[Option.map_some];rw[FC,show acc+(c%128).toNat*2^(7*i)+v*(128*2^(7*i))=acc+((c%128).toNat+128*v)*2^(7*i) by grind,show p+i+1+m=p+i+(m+1) by omega]
  ·have c2:decide ((i:Int)<IntKind.wrap .i64 ((b.length:Int)-(p:Int)))=false:=by
    rw[AV (by omega) (by omega)];exact AY (by omega)
   rw[List.drop_eq_nil_of_le (by omega),Dh];simp only[Cx.l5,c1,c2,AQ,AU,AR,Cx.c12]
def wv:List Int→Nat
 |[]=>0
 |c::r=>c.toNat+256*wv r
theorem MP:∀(l:List Int),(∀x,x∈l→0≤x∧x<256)→wv l<2^(8*l.length)
 |[],_=>by simp[wv]
 |c::r,h=>by
  have h1:=MP r (fun x hx=>h x (by simp[hx]));obtain⟨h2,h3⟩:=h c (by simp);simp only[wv,Bn];have:2^(8*(r.length+1))=256*2^(8*r.length):=by rw[Nat.mul_add,Nat.pow_add];simp[Nat.mul_comm]
  omega
theorem ML(k:Nat)(b:List Int)(p n:Nat)(hn:n≤8)(hl:p+n≤b.length)(hb:b.length<4611686018427387904)(hby:∀x,x∈b→0≤x∧x<256):∀(m f i acc:Nat),i+m=n→m<f→acc<2^(8*i)→
 EG.l5 k f b (p:Int) (n:Int) (IntKind.wrap .i64 (acc:Int)) (i:Int)=some (IntKind.wrap .i64 ((acc+wv ((b.drop (p+i)).take m)*2^(8*i):Nat):Int),((p+n:Nat):Int),true)∧
 DY.l5 k f b (p:Int) (n:Int) (IntKind.wrap .i64 (acc:Int)) (n:Int) (i:Int)=some (IntKind.wrap .i64 ((acc+wv ((b.drop (p+i)).take m)*2^(8*i):Nat):Int),((p+n:Nat):Int),true):=by
 intro m
 induction m with
 |zero=>
  intro f i acc hi hf ha;obtain⟨f,rfl⟩:∃q,f=q+1:=⟨f-1,by omega⟩;have e:IntKind.wrap .i64 ((p:Int)+(n:Int))=((p+n:Nat):Int):=by rw[AV (by omega) (by omega)];omega
  simp only[EG.l5,DY.l5,AY (show ¬((i:Int)<(n:Int)) by omega),AU,e,List.take_zero,wv,Nat.zero_mul,Nat.add_zero];exact⟨trivial,trivial⟩
 |succ m ih=>
  intro f i acc hi hf ha;obtain⟨f,rfl⟩:∃q,f=q+1:=⟨f-1,by omega⟩;obtain⟨c,hc,hc2⟩:=JP (show p+i<b.length by omega);obtain⟨c0,c1⟩:=hby c (List.mem_of_getElem? hc2);have e1:IntKind.wrap .i64 ((p:Int)+(i:Int))=((p+i:Nat):Int):=by rw[AV (by omega) (by omega)];omega
  have e2:IntKind.wrap .i64 (8*(i:Int))=((8*i:Nat):Int):=by rw[AV (by omega) (by omega)];omega
  have e3:IntKind.wrap .i64 ((i:Int)+1)=((i+1:Nat):Int):=by rw[AV (by omega) (by omega)];omega
  have ec:IntKind.wrap .i64 c=((c.toNat:Nat):Int):=by rw[AV (by omega) (by omega)];omega
  have Lm:2^(8*(i+1))=256*2^(8*i):=by rw[Nat.mul_add,Nat.pow_add];simp[Nat.mul_comm]
  have hle:2^(8*(i+1))≤2^64:=Nat.pow_le_pow_right (by omega) (by omega);have hlt:acc+c.toNat*2^(8*i)<2^(8*(i+1)):=by
   rw[Lm];have:c.toNat*2^(8*i)≤255*2^(8*i):=Nat.mul_le_mul_right _ (by omega);omega
  have Gb:=GD .i64 (a:=acc) (b:=c.toNat) (i:=8*i) (show 8*i≤64 by omega) ha (by show _<2^64;omega);have hg:gP b ((p+i:Nat):Int)=some c:=by rw[Dc];exact hc2
  simp only[EG.l5,DY.l5,AX (show(i:Int)<(n:Int) by omega),AQ,e1,hg,AR,e2,AX (show(0:Int)≤((8*i:Nat):Int) by omega),ec,Gb,e3];obtain⟨i1,i2⟩:=ih f (i+1) _ (by omega) (by omega) hlt;have hw:acc+c.toNat*2^(8*i)+wv ((b.drop (p+(i+1))).take m)*2^(8*(i+1))=acc+wv ((b.drop (p+i)).take (m+1))*2^(8*i):=by
   rw[hc,List.take_succ_cons,wv,Lm,←Nat.add_assoc]
   grind
  rw[hw] at i1 i2;exact⟨i1,i2⟩
end Go.A9
end
section
namespace Go.A9
open Go.Am Go.Fn
variable(k:Nat)
abbrev Bq(b:List Int):Prop:=∀x,x∈b→0≤x∧x<256
theorem MN:∀(l:List Int),Bq l→∀(i:Nat) (x:Int),l[i]?=some x→x=((wv l/256^i%256:Nat):Int)
 |[],_,i,x,h=>by simp at h
 |c::r,hb,0,x,h=>by
  obtain⟨h0,h1⟩:=hb c (by simp);simp at h;subst h;simp only[wv,Nat.pow_zero,Nat.div_one];omega
 |c::r,hb,i+1,x,h=>by
  obtain⟨h0,h1⟩:=hb c (by simp);rw[MN r (fun y hy=>hb y (by simp[hy])) i x (by simpa using h)];have:(c.toNat+256*wv r)/256^(i+1)=wv r/256^i:=by
   rw[Nat.pow_succ,Nat.mul_comm (256^i) 256,←Nat.div_div_eq_div_mul]
   congr 1
   omega
  simp only[wv,this]
theorem LJ(l:List Int)(hb:Bq l):l=leB l.length (wv l):=by
 apply List.ext_getElem (by rw[Bt]);intro i h1 h2;rw[MN l hb i l[i] (Ef h1)];have:=GA (M:=wv l) h1;rw[Ef h2] at this;exact(Option.some.inj this).symm
theorem LD(pre post:List Int)(L M p:Nat)(hp:p<8*L)(hl:pre.length+L<100000000000000000):Jt k (pre++(leB L M++post)) ((8*pre.length+p:Nat):Int)=some ((M/2^p%2:Nat):Int):=by
 unfold Jt;have hd:(8*pre.length+p)/8=pre.length+p/8:=by omega
 have hm:(8*pre.length+p)%8=p%8:=by omega
 have hg:gP (pre++(leB L M++post)) ((pre.length+p/8:Nat):Int)=some ((M/256^(p/8)%256:Nat):Int):=by
  rw[Dc,List.getElem?_append_right (by omega),List.getElem?_append_left (by rw[Bt];omega),Nat.add_sub_cancel_left];exact GA (by omega)
 have hlt:M/256^(p/8)%256<256:=Nat.mod_lt _ (by decide);simp only[G5 (show 8*pre.length+p<1152921504606846976 by omega),GZ,hd,hm,hg,AR,AX (show(0:Int)≤((p%8:Nat):Int) by omega),AQ];rw[AV (x:=((M/256^(p/8)%256:Nat):Int)) (by omega) (by omega),ED .i64 _ (p%8) (show p%8≤64 by omega),and1,←LH M p];simp
theorem XO(L6:(List Int)→Int→Int→Int→Int→Int→(List Int)→Option ((Unit×Int×Bool)×(List Int)))(pre post:List Int)(L M w i q:Nat)(t2 t12:Int)(hw:w≤64)(hq:(i:Int)*(w:Int)=(q:Int))(Ib:i*w=q)(GX:q+w≤8*L)(hl:pre.length+L<10000000000000000)(hi:i<1000000)(o:List Int)(ho:o.length<1000000):
 ∀(m n j:Nat),j+m=w→m<n→D9.l10 k L6 n (pre++(leB L M++post)) (pre.length:Int) t2 (w:Int) t12 (i:Int) (IntKind.wrap .i64 ((M/2^q%2^j:Nat):Int)) (j:Int) o=L6 (pre++(leB L M++post)) (pre.length:Int) t2 (w:Int) t12 ((i+1:Nat):Int) (o++[DU w M i]):=by
 intro m
 induction m with
 |zero=>
  intro n j hj hn;obtain⟨n,rfl⟩:∃x,n=x+1:=⟨n-1,by omega⟩;obtain rfl:j=w:=by omega
  simp only[D9.l10,AY (show ¬(j:Int)<(j:Int) by omega),AU];rw[Bc (by simp;omega),AQ,AV (x:=(i:Int)+1) (by omega) (by omega)];unfold DU;rw[Ib]
  congr 1
 |succ m ih=>
  intro n j hj hn;obtain⟨n,rfl⟩:∃x,n=x+1:=⟨n-1,by omega⟩;have hp:IntKind.wrap .i64 (IntKind.wrap .i64 (IntKind.wrap .i64 (8*(pre.length:Int))+IntKind.wrap .i64 ((i:Int)*(w:Int)))+(j:Int))=((8*pre.length+(q+j):Nat):Int):=by
   rw[hq,AV (x:=(q:Int)) (by omega) (by omega),AV (x:=8*(pre.length:Int)) (by omega) (by omega),AV (x:=8*(pre.length:Int)+(q:Int)) (by omega) (by omega),AV (by omega) (by omega)];omega
  have hb:=LD k pre post L M (q+j) (by omega) (by omega);simp only[D9.l10,AX (show(j:Int)<(w:Int) by omega),AQ,hp,hb,AR,AX (show(0:Int)≤(j:Int) by omega)];have hlt:M/2^q%2^j<2^j:=Nat.mod_lt _ (Nat.two_pow_pos j);have hjj:2^(j+1)≤2^64:=Nat.pow_le_pow_right (by decide) (by omega);have hb1:M/2^(q+j)%2≤1:=by omega
  have hb2:M/2^(q+j)%2*2^j≤1*2^j:=Nat.mul_le_mul_right _ hb1;have ho:=GD .i64 (a:=M/2^q%2^j) (b:=M/2^(q+j)%2) (i:=j) (show j≤64 by omega) hlt (show _<2^64 by rw[Nat.pow_succ] at hjj;omega);rw[ho];have hs:M/2^q%2^j+M/2^(q+j)%2*2^j=M/2^q%2^(j+1):=by
   rw[mod_succ,Nat.div_div_eq_div_mul,←Nat.pow_add]
  rw[hs,AV (x:=(j:Int)+1) (by omega) (by omega),show((j:Int)+1)=((j+1:Nat):Int) by omega];exact ih n (j+1) (by omega) (by omega)
theorem XP(pre post:List Int)(L M w N:Nat)(t12:Int)(hw:w≤64)(hN:N*w≤8*L)(hl:pre.length+L<10000000000000000)(Ia:N<1000000)(hk:w<k):
 ∀(m n i:Nat) (o:List Int),i+m=N→m<n→o.length=i→D9.l6 k n (pre++(leB L M++post)) (pre.length:Int) (N:Int) (w:Int) t12 (i:Int) o=some (((),IntKind.wrap .i64 ((pre.length:Int)+t12),true),o++(List.range' i m).map (DU w M)):=by
 intro m
 induction m with
 |zero=>
  intro n i o hi hn ho;obtain⟨n,rfl⟩:∃x,n=x+1:=⟨n-1,by omega⟩;simp only[D9.l6,AY (show ¬(i:Int)<(N:Int) by omega),AU];simp
 |succ m ih=>
  intro n i o hi hn ho;obtain⟨n,rfl⟩:∃x,n=x+1:=⟨n-1,by omega⟩;have hmul:i*w+w≤N*w:=by
   have:(i+1)*w≤N*w:=Nat.mul_le_mul_right _ (by omega);rw[Nat.add_mul,Nat.one_mul] at this;exact this
  have hi':=XO k (D9.l6 k n) pre post L M w i (i*w) (N:Int) t12 hw (by simp) rfl (by omega) hl (by omega) o (by omega) w k 0 (by omega) hk;simp only[Nat.pow_zero,Nat.mod_one] at hi';simp only[D9.l6,AX (show(i:Int)<(N:Int) by omega),AQ];have h0:((0:Nat):Int)=0:=rfl;have hw0:IntKind.wrap .i64 0=0:=rfl;rw[h0,hw0] at hi';rw[hi',ih n (i+1) _ (by omega) (by omega) (by simp;omega)];simp[List.range'_succ]
theorem IJ(n w:Int):∃z:Int,Gx k n w=some z∧FM k n w=some z∧
 ((z= -1∧¬(0≤n∧n≤2000∧0≤w∧w≤62))∨(0≤n∧n≤2000∧0≤w∧w≤62∧z=((bytesOf n.toNat w.toNat:Nat):Int))):=by
 unfold Gx FM;simp only[CQ,ES,AR,cst];by_cases h:0≤n∧n≤2000∧0≤w∧w≤62
 ·obtain⟨h1,h2,h3,h4⟩:=h
  obtain⟨n,rfl⟩:∃m:Nat,n=m:=⟨n.toNat,by omega⟩;obtain⟨w,rfl⟩:∃m:Nat,w=m:=⟨w.toNat,by omega⟩;have:=(len8 (n:=n) (w:=w) (by omega) (by omega)).1;simp only[AX h1,AX h2,AX h3,AX h4,Bool.and_self,Bh,D6,AU,this];exact⟨_,rfl,rfl,.inr ⟨h1,h2,h3,h4,by simp⟩⟩
 ·have:((!(decide (0≤n)&&decide (n≤2000)))|| !(decide (0≤w)&&decide (w≤62)))=true:=by
   by_cases a:0≤n<;>by_cases b:n≤2000<;>by_cases c:0≤w<;>by_cases d:w≤62<;>simp[a,b,c,d]
   exact h ⟨a,b,c,d⟩
  simp only[this,AQ];exact⟨_,rfl,rfl,.inl ⟨rfl,h⟩⟩
theorem Nh(hk:3000≤k)(b:List Int)(hb:b.length<1000000000000000)(hby:Bq b)(at_ n w:Int)(ha:Be at_):
 ∃nx ok l,G6 k b at_ n w=some (((),nx,ok),l)∧D9 k b at_ n w=some (((),nx,ok),l)∧
  (ok=false→nx=0∧l=[])∧(ok=true→0≤n∧n≤2000∧0≤w∧w≤62∧l.length=n.toNat∧0≤at_∧nx=at_+(bytesOf n.toNat w.toNat:Nat)∧nx≤(b.length:Int)∧∀x,x∈l→0≤x∧x<2^w.toNat):=by
 obtain⟨z,h1,h2,hz⟩:=IJ k n w;unfold G6 D9;simp only[h1,h2,AR,CQ,ES,cst];rcases hz with⟨rfl,hn⟩|⟨n0,n1,w0,w1,hz⟩
 ·simp only[AX (show(-1:Int)<0 by decide),Gl,AQ]
  exact⟨_,_,_,rfl,rfl,fun _=>⟨rfl,rfl⟩,fun h=>by cases h⟩
 obtain⟨n,rfl⟩:∃m:Nat,n=m:=⟨n.toNat,by omega⟩;obtain⟨w,rfl⟩:∃m:Nat,w=m:=⟨w.toNat,by omega⟩;simp only[Int.toNat_natCast] at hz;have Ls:=len8 (n:=n) (w:=w) (by omega) (by omega);subst hz;by_cases hat:0≤at_∧at_≤(b.length:Int)
 ·obtain⟨a0,a1⟩:=hat
  obtain⟨p,rfl⟩:∃m:Nat,at_=m:=⟨at_.toNat,by omega⟩;have e:IntKind.wrap .i64 ((b.length:Int)-(p:Int))=(b.length:Int)-p:=AV (by omega) (by omega);simp only[AX a0,AX a1,Bool.and_self,Bh,AY (show ¬((bytesOf n w:Nat):Int)<0 by omega),D6,EU,e];by_cases hfit:((bytesOf n w:Nat):Int)≤(b.length:Int)-p
  ·simp only[AY (show ¬((bytesOf n w:Nat):Int)>(b.length:Int)-p by omega),AY (show ¬(b.length:Int)-p<((bytesOf n w:Nat):Int) by omega),AU]
   have hlen:((b.drop p).take (bytesOf n w)).length=bytesOf n w:=by rw[List.length_take,List.length_drop];omega
   have hsp:b=b.take p++(leB (bytesOf n w) (wv ((b.drop p).take (bytesOf n w)))++b.drop (p+bytesOf n w)):=by
    have h3:=LJ ((b.drop p).take (bytesOf n w)) (fun x hx=>hby x (List.mem_of_mem_drop (List.mem_of_mem_take hx)));rw[hlen] at h3;rw[←h3,←List.drop_drop,List.take_append_drop,List.take_append_drop]
   have hpl:(b.take p).length=p:=by rw[List.length_take];omega
   generalize wv ((b.drop p).take (bytesOf n w))=M at hsp;have u1:=Iy k (b.take p) (b.drop (p+bytesOf n w)) (bytesOf n w) M w n (by omega) Ls.2.2 (by rw[hpl];omega) (by omega) (by omega) (by omega);have u2:=XP k (b.take p) (b.drop (p+bytesOf n w)) (bytesOf n w) M w n ((bytesOf n w:Nat):Int) (by omega) Ls.2.2 (by rw[hpl];omega) (by omega) (by omega) n k 0 [] (by omega) (by omega) rfl;rw[←hsp,hpl] at u1 u2;rw[show((0:Nat):Int)=0 from rfl,List.nil_append,←List.range_eq_range'] at u2;have e2:IntKind.wrap .i64 ((p:Int)+((bytesOf n w:Nat):Int))=(p:Int)+(bytesOf n w:Nat):=AV (by omega) (by omega);rw[e2] at u2;simp only[u1,u2,AR,e2];refine⟨_,_,_,rfl,rfl,(fun h=>by cases h),fun _=>⟨by omega,by omega,by omega,by omega,by simp,a0,by simp,by omega,?_⟩⟩;intro x hx;obtain⟨i,_,rfl⟩:=List.mem_map.1 hx;have hlt:M/2^(i*w)%2^w<2^w:=Nat.mod_lt _ (Nat.two_pow_pos w);have I1:2^w≤2^62:=Nat.pow_le_pow_right (by decide) (by omega);unfold DU;rw[Int.toNat_natCast,AV (by omega) (by omega)];refine⟨by omega,?_⟩
   exact_mod_cast hlt
  ·simp only[AX (show((bytesOf n w:Nat):Int)>(b.length:Int)-p by omega),AX (show(b.length:Int)-p<((bytesOf n w:Nat):Int) by omega),AQ]
   exact⟨_,_,_,rfl,rfl,fun _=>⟨rfl,rfl⟩,fun h=>by cases h⟩
 ·have:(decide (0≤at_)&&decide (at_≤(b.length:Int)))=false:=by
   by_cases a:0≤at_<;>by_cases c:at_≤(b.length:Int)<;>simp[a,c]
   exact hat ⟨a,c⟩
  simp only[this,Dm,Bool.or_true,Gl,AQ];exact⟨_,_,_,rfl,rfl,fun _=>⟨rfl,rfl⟩,fun h=>by cases h⟩
end Go.A9
end
section
namespace Go.A9
open Go.Am Go.Fn
variable(k:Nat)
def CB(t:Int):Bool:=t==0||t==1||t==2||t==5||t==6
theorem I_(t:Int):Ew k t=some (CB t):=by
 unfold Ew Ew.c7 CB;by_cases h0:t=0
 ·subst h0;simp
 by_cases h1:t=1
 ·subst h1;simp
 by_cases h2:t=2
 ·subst h2;simp
 by_cases h5:t=5
 ·subst h5;simp
 by_cases h6:t=6
 ·subst h6;simp
 simp[A_ h0,A_ h1,A_ h2,A_ h5,A_ h6,h0,h1,h2,h5,h6]
theorem Jz(t:Int):G8 k t=some (CB t):=by
 unfold G8 CB;simp only[CQ,AR,cst]
 congr 1
 by_cases h:0≤t∧t≤2
 ·rw[AX h.1,AX h.2]
  rcases(show t=0∨t=1∨t=2 by omega) with rfl|rfl|rfl<;>rfl
 ·have:(decide (0≤t)&&decide (t≤2))=false:=by
   rw[Bool.eq_false_iff];intro hh;simp only[CO,Cz] at hh;exact h hh
  rw[this,A_ (show ¬t=0 by omega),A_ (show ¬t=1 by omega),A_ (show ¬t=2 by omega)];rfl
end Go.A9
end
section
namespace Go.A9
open Go.Am Go.Fn
variable(k:Nat)
def BV(t:Int)(v:AP):Bool:=
 if t=0 then(decide (0≤v.1)&&decide (v.1≤1))&&ig v.2.1 ⟨#[]⟩
 else if t=1 then(decide (-2147483648≤v.1)&&decide (v.1≤2147483647))&&ig v.2.1 ⟨#[]⟩
 else if t=2∨t=5 then ig v.2.1 ⟨#[]⟩
 else if t=6 then v.1==0&&decide ((v.2.1.size:Int)≤40)
 else false
theorem Yh(t:Int)(v:AP):FV k t v=some (BV t v):=by
 unfold FV FV.c8 J5 BV;by_cases h0:t=0
 ·subst h0
  simp only[CQ,CG rfl,AQ,AR,BZ,if_true]
 by_cases h1:t=1
 ·subst h1
  simp only[CQ,A_ h0,CG rfl,AQ,AU,AR,BZ,if_neg h0,if_true]
 by_cases h2:t=2
 ·subst h2
  simp only[A_ h0,A_ h1,CG rfl,AQ,AU,if_neg h0,if_neg h1,true_or,if_true]
 by_cases h5:t=5
 ·subst h5
  simp only[A_ h0,A_ h1,A_ h2,CG rfl,AQ,AU,if_neg h0,if_neg h1,or_true,if_true]
 by_cases h6:t=6
 ·subst h6
  simp only[A_ h0,A_ h1,A_ h2,A_ h5,CG rfl,AQ,AU,if_neg h0,if_neg h1,AR,BZ,if_true];rw[if_neg (by decide)]
 ·simp only[A_ h0,A_ h1,A_ h2,A_ h5,A_ h6,AQ,AU,if_neg h0,if_neg h1,AR,BZ,if_neg h6]
  rw[if_neg (by omega)];rfl
theorem X9(t:Int)(v:AP):FX k t v=some (BV t v):=by
 unfold FX FX.c8 Ko BV;by_cases h0:t=0
 ·subst h0
  simp only[ES,CG rfl,AQ,AR,BZ,if_true]
 by_cases h1:t=1
 ·subst h1
  simp only[ES,A_ h0,CG rfl,AQ,AU,AR,BZ,if_neg h0,if_true]
 by_cases h2:t=2
 ·subst h2
  simp only[A_ h0,A_ h1,CG rfl,AQ,AU,if_neg h0,if_neg h1,true_or,if_true]
 by_cases h5:t=5
 ·subst h5
  simp only[A_ h0,A_ h1,A_ h2,CG rfl,AQ,AU,if_neg h0,if_neg h1,or_true,if_true]
 by_cases h6:t=6
 ·subst h6
  simp only[A_ h0,A_ h1,A_ h2,A_ h5,CG rfl,AQ,AU,if_neg h0,if_neg h1,AR,BZ,if_true];rw[if_neg (by decide)]
 ·simp only[A_ h0,A_ h1,A_ h2,A_ h5,A_ h6,AQ,AU,if_neg h0,if_neg h1,AR,BZ,if_neg h6]
  rw[if_neg (by omega)]
end Go.A9
end
section
namespace Go.A9
open Go.Am Go.Fn
variable(k:Nat)
theorem Yi(t:Int)(l:List AP)(hl:l.length<1000000000):∀(post pre:List AP) (n n':Nat),l=pre++post→post.length<n→post.length<n'→
 DZ.l2 k n t l l (l.length:Int) (pre.length:Int)=some (post.all (BV t)&&(decide ((l.length:Int)≤2000)&&CB t))∧Ea.l4 k n' t l (pre.length:Int)=some (post.all (BV t)):=by
 intro post
 induction post with
 |nil=>
  intro pre n n' hl' hn hn';obtain⟨n,rfl⟩:∃m,n=m+1:=⟨n-1,by omega⟩;obtain⟨n',rfl⟩:∃m,n'=m+1:=⟨n'-1,by omega⟩;have:l=pre:=by simpa using hl'
  subst this;simp only[DZ.l2,Ea.l4,AY (show ¬(l.length:Int)<(l.length:Int) by omega),AU,Jz,AR,BZ,List.all_nil,Et];exact⟨trivial,trivial⟩
 |cons x post ih=>
  intro pre n n' hl' hn hn';simp only[Bn] at hn hn';obtain⟨n,rfl⟩:∃m,n=m+1:=⟨n-1,by omega⟩;obtain⟨n',rfl⟩:∃m,n'=m+1:=⟨n'-1,by omega⟩;have hlen:l.length=pre.length+(post.length+1):=by rw[hl'];simp
  have hg:gP l (pre.length:Int)=some x:=by rw[hl'];exact BB _ _ _
  have hi:=ih (pre++[x]) n n' (by rw[hl'];simp) (by omega) (by omega);rw[A8,Bz] at hi;simp only[DZ.l2,Ea.l4,AX (show(pre.length:Int)<(l.length:Int) by omega),AQ,hg,AR,Yh,X9,List.all_cons];rw[AV (by omega) (by omega),show((pre.length:Int)+1)=((pre.length+1:Nat):Int) by omega];cases hv:BV t x with
  |false=>exact⟨rfl,rfl⟩
  |true=>
   simp only[Bh,AU,Et];exact hi
def BJ(t:Int)(l:List AP):Bool:=l.all (BV t)&&(decide ((l.length:Int)≤2000)&&CB t)
theorem FZ(t:Int)(l:List AP)(hl:l.length<1000000000)(hk:l.length<k):DZ k t l=some (BJ t l)∧Ea k t l=some (BJ t l):=by
 obtain⟨h1,h2⟩:=Yi k t l hl l [] k k rfl hk hk;rw[List.length_nil,show((0:Nat):Int)=0 from rfl] at h1 h2;unfold DZ Ea BJ;refine⟨h1,?_⟩;simp only[I_,AR,cst];by_cases hl2:(l.length:Int)≤2000
 ·rw[AY (show ¬(l.length:Int)>2000 by omega),AX hl2]
  cases CB t with
  |false=>simp
  |true=>simp[h2]
 ·rw[AX (show(l.length:Int)>2000 by omega),AY hl2]
  simp
end Go.A9
end
section
namespace Go.A9
open Go.Am Go.Fn
variable(k:Nat)
def BA(t:Int)(v:AP):List Int:=
 if t=6 then leB 4 (u64 (v.2.1.size:Int))++fH v.2.1 else if t=1 then leB 4 (u64 v.1) else leB 8 (u64 v.1)
def Cf(t:Int)(l:List AP):List Int:=
 if t=0 then Bw 1 (l.map (·.1)) else(l.map (BA t)).flatten
theorem EH{t:Int}{v:AP}(h:BV t v=true):(t=0∧0≤v.1∧v.1≤1∧v.2.1=⟨#[]⟩)∨(t=1∧-2147483648≤v.1∧v.1≤2147483647∧v.2.1=⟨#[]⟩)∨((t=2∨t=5)∧v.2.1=⟨#[]⟩)∨(t=6∧v.1=0∧v.2.1.size≤40):=by
 unfold BV at h;by_cases h0:t=0
 ·subst h0
  rw[if_pos rfl,Gc] at h;simp at h;exact .inl ⟨rfl,h.1.1,h.1.2,h.2⟩
 by_cases h1:t=1
 ·subst h1
  rw[if_neg (by decide),if_pos rfl,Gc] at h;simp at h;exact .inr (.inl ⟨rfl,h.1.1,h.1.2,h.2⟩)
 by_cases h2:t=2∨t=5
 ·rw[if_neg h0,if_neg h1,if_pos h2,Gc] at h
  simp at h;exact .inr (.inr (.inl ⟨h2,h⟩))
 by_cases h6:t=6
 ·subst h6
  rw[if_neg h0,if_neg h1,if_neg h2,if_pos rfl] at h;simp at h;exact .inr (.inr (.inr ⟨rfl,h.1,by omega⟩))
 ·rw[if_neg h0,if_neg h1,if_neg h2,if_neg h6] at h
  cases h
theorem EI{t:Int}{l:List AP}:BJ t l=true↔(∀v,v∈l→BV t v=true)∧l.length≤2000∧CB t=true:=by
 unfold BJ;simp only[CO,List.all_eq_true,Cz];constructor
 ·intro⟨a,b,c⟩;exact⟨a,by omega,c⟩
 ·intro⟨a,b,c⟩;exact⟨a,by omega,c⟩
theorem Jk{t:Int}{v:AP}(h:BV t v=true):(BA t v).length≤44:=by
 unfold BA;rcases EH h with⟨rfl,_⟩|⟨rfl,_⟩|⟨ht|ht,_⟩|⟨rfl,_,h3⟩
 ·rw[if_neg (by decide),if_neg (by decide),Bt];omega
 ·rw[if_neg (by decide),if_pos rfl,Bt];omega
 ·subst ht;rw[if_neg (by decide),if_neg (by decide),Bt];omega
 ·subst ht;rw[if_neg (by decide),if_neg (by decide),Bt];omega
 ·rw[if_pos rfl,A8,Bt,vR];omega
theorem Mc(l:List AP)(hl:l.length<1000000000):∀(post pre:List AP) (n:Nat),l=pre++post→post.length<n→
 Eo.l3 k n l (l.length:Int) (pre.length:Int) (pre.map (·.1))=some ((),l.map (·.1)):=by
 intro post
 induction post with
 |nil=>
  intro pre n hv hn;obtain⟨n,rfl⟩:∃x,n=x+1:=⟨n-1,by omega⟩;have:l=pre:=by simpa using hv
  subst this;simp only[Eo.l3,AY (show ¬(l.length:Int)<(l.length:Int) by omega),AU]
 |cons v post ih=>
  intro pre n hv hn;simp only[Bn] at hn;obtain⟨n,rfl⟩:∃x,n=x+1:=⟨n-1,by omega⟩;have hlen:l.length=pre.length+(post.length+1):=by rw[hv];simp
  have hg:gP l (pre.length:Int)=some v:=by rw[hv];exact BB pre post v
  have:=ih (pre++[v]) n (by rw[hv];simp) (by omega);rw[A8,Bz,List.map_append] at this;simp only[Eo.l3,AX (show(pre.length:Int)<(l.length:Int) by omega),AQ,hg,AR,Bc (show(pre.map (·.1)).length+[v.1].length≤4294967296 by simp;omega),AV (x:=(pre.length:Int)+1) (by omega) (by omega)];exact this
theorem WY(hk:100≤k)(t:Int)(l:List AP)(h:BJ t l=true)(ht:t≠0):∀(post pre:List AP) (n:Nat) (o:List Int),l=pre++post→post.length<n→o.length≤44*pre.length→
 Ca.l7 k n t l (l.length:Int) (pre.length:Int) o=some (((),true),o++(post.map (BA t)).flatten)∧
 Cs.l6 k n t l (pre.length:Int) o []=some (((),true),o++(post.map (BA t)).flatten):=by
 obtain⟨hv,hl,hty⟩:=EI.1 h;intro post
 induction post with
 |nil=>
  intro pre n o hp hn ho;obtain⟨n,rfl⟩:∃x,n=x+1:=⟨n-1,by omega⟩;have:l=pre:=by simpa using hp
  subst this;simp only[Ca.l7,Cs.l6,AY (show ¬(l.length:Int)<(l.length:Int) by omega),AU,A_ ht];simp
 |cons v post ih=>
  intro pre n o hp hn ho;simp only[Bn] at hn;obtain⟨n,rfl⟩:∃x,n=x+1:=⟨n-1,by omega⟩;have hlen:l.length=pre.length+(post.length+1):=by rw[hp];simp
  have hg:gP l (pre.length:Int)=some v:=by rw[hp];exact BB pre post v
  have hvv:BV t v=true:=hv v (by rw[hp];simp);have hbl:=Jk hvv;obtain⟨i1,i2⟩:=ih (pre++[v]) n (o++BA t v) (by rw[hp];simp) (by omega) (by simp;omega);rw[A8,Bz] at i1 i2;have w4:∀x:Int,DJ k x 4=some ((),leB 4 (u64 x))∧Dy k x 4=some ((),leB 4 (u64 x)):=fun x=>IA k hk x 4 (by omega) (by omega);have MI:∀x:Int,DJ k x 8=some ((),leB 8 (u64 x))∧Dy k x 8=some ((),leB 8 (u64 x)):=fun x=>IA k hk x 8 (by omega) (by omega);have hs:([]:List Int)=[]:=rfl;simp only[Ca.l7,Cs.l6,AX (show(pre.length:Int)<(l.length:Int) by omega),AQ,hg,AR,A_ ht,AU];rw[List.map_cons,List.flatten_cons,←CP];rcases EH hvv with⟨h0,_⟩|⟨rfl,_⟩|⟨EM,_⟩|⟨rfl,_,h3⟩
  ·exact absurd h0 ht
  ·have e:BA 1 v=leB 4 (u64 v.1):=by unfold BA;rw[if_neg (by decide),if_pos rfl]
   rw[e] at i1 i2⊢;simp only[show((1:Int)==6)=false from rfl,show((1:Int)==1)=true from rfl,AQ,AU,Ca.d11,CV,AR,(w4 _).1,(w4 _).2,Bc (show o.length+(leB 4 (u64 v.1)).length≤4294967296 by rw[Bt];omega),Ca.c12,Cs.c7,AV (x:=(pre.length:Int)+1) (by omega) (by omega)];exact⟨i1,i2⟩
  ·have e:BA t v=leB 8 (u64 v.1):=by unfold BA;rw[if_neg (by omega),if_neg (by omega)]
   have ew:CV k t=some 8:=by rcases EM with rfl|rfl<;>rfl
   rw[e] at i1 i2⊢;simp only[A_ (show ¬t=6 by omega),A_ (show ¬t=1 by omega),AQ,AU,Ca.d11,ew,AR,(MI _).1,(MI _).2,Bc (show o.length+(leB 8 (u64 v.1)).length≤4294967296 by rw[Bt];omega),Ca.c12,Cs.c7,AV (x:=(pre.length:Int)+1) (by omega) (by omega)];exact⟨i1,i2⟩
  ·have e:BA 6 v=leB 4 (u64 (v.2.1.size:Int))++fH v.2.1:=by unfold BA;rw[if_pos rfl]
   rw[e,←CP] at i1 i2;rw[e,←CP]
   simp only[show((6:Int)==6)=true from rfl,show((6:Int)==1)=false from rfl,AQ,AU,Ca.d10,AR,(w4 _).1,(w4 _).2,Bc (show o.length+(leB 4 (u64 (v.2.1.size:Int))).length≤4294967296 by rw[Bt];omega),
    Bc (show(o++leB 4 (u64 (v.2.1.size:Int))).length+(fH v.2.1).length≤4294967296 by rw[A8,Bt,vR];omega),Ca.c12,Cs.c7,AV (x:=(pre.length:Int)+1) (by omega) (by omega)]
   exact⟨i1,i2⟩
theorem WX(l:List AP)(h:BJ 0 l=true):∀(post pre:List AP) (n:Nat),l=pre++post→post.length<n→
 Cs.l6 k n 0 l (pre.length:Int) [] (pre.map (·.1))=(Cj k (l.map (·.1)) 1).bind fun r5=>some (((),r5.1.2),r5.2):=by
 obtain⟨hv,hl,hty⟩:=EI.1 h;intro post
 induction post with
 |nil=>
  intro pre n hp hn;obtain⟨n,rfl⟩:∃x,n=x+1:=⟨n-1,by omega⟩;have:l=pre:=by simpa using hp
  subst this;simp only[Cs.l6,AY (show ¬(l.length:Int)<(l.length:Int) by omega),AU,show((0:Int)==0)=true from rfl,AQ]
 |cons v post ih=>
  intro pre n hp hn;simp only[Bn] at hn;obtain⟨n,rfl⟩:∃x,n=x+1:=⟨n-1,by omega⟩;have hlen:l.length=pre.length+(post.length+1):=by rw[hp];simp
  have hg:gP l (pre.length:Int)=some v:=by rw[hp];exact BB pre post v
  have i1:=ih (pre++[v]) n (by rw[hp];simp) (by omega);rw[A8,Bz,List.map_append] at i1;simp only[Cs.l6,AX (show(pre.length:Int)<(l.length:Int) by omega),AQ,hg,AR,show((0:Int)==0)=true from rfl,Bc (show(pre.map (·.1)).length+[v.1].length≤4294967296 by simp;omega),Cs.c7,AV (x:=(pre.length:Int)+1) (by omega) (by omega)];exact i1
theorem Xb(hk:3000≤k)(t:Int)(l:List AP)(hl:l.length<1000000000)(hlk:l.length<k):
 Ca k t l=some (((),BJ t l),if BJ t l then Cf t l else[])∧Cs k t l=some (((),BJ t l),if BJ t l then Cf t l else[]):=by
 obtain⟨o1,o2⟩:=FZ k t l hl hlk;unfold Ca Cs;simp only[o1,o2,AR];cases h:BJ t l with
 |false=>exact⟨rfl,rfl⟩
 |true=>
  obtain⟨hv,hl2,hty⟩:=EI.1 h;simp only[Bh,AU,if_true];unfold Cf;by_cases ht:t=0
  ·subst ht
   have hn:=Mc k l hl l [] k rfl hlk;have hb:=WX k l h l [] k rfl hlk;have hp:=Ji k (l.map (·.1)) 1 (by omega) (by rw[List.length_map];omega) (by rw[List.length_map];omega) (by omega)
   have hs:=Ng k (l.map (·.1)) 1 (by omega) (by rw[List.length_map];omega) (by
    intro x hx;obtain⟨v,hv',rfl⟩:=List.mem_map.1 hx;rcases EH (hv v hv') with⟨_,a,b,_⟩|⟨h0,_⟩|⟨h0,_⟩|⟨h0,_⟩
    ·omega
    ·cases h0
    ·omega
    ·cases h0) (by rw[List.length_map];omega) (by omega)
   rw[List.length_nil,List.map_nil,show((0:Nat):Int)=0 from rfl] at hn hb;rw[show((1:Nat):Int)=1 from rfl] at hp hs;unfold Eo;simp only[show((0:Int)==0)=true from rfl,AQ,hn,AR,hp,hb,hs,if_true];exact⟨trivial,trivial⟩
  ·obtain⟨i1,i2⟩:=WY k (by omega) t l h ht l [] k [] rfl hlk (by simp)
   rw[List.length_nil,show((0:Nat):Int)=0 from rfl,List.nil_append] at i1 i2;simp only[A_ ht,AU,if_neg ht];exact⟨i1,i2⟩
end Go.A9
end
section
namespace Go.A9
open Go.Am Go.Fn
variable(k:Nat)
theorem KA(hk:100≤k)(b:List Int)(hb:b.length<1000000000000000)(hby:Bq b)(at_:Int)(ha:Be at_)(n:Nat)(hn:n≤8)(h1:1≤n):
 ∃v nx ok,DY k b at_ (n:Int)=some (v,nx,ok)∧EG k b at_ (n:Int)=some (v,nx,ok)∧Be v∧(ok=false→v=0∧nx=0)∧
  (ok=true→0≤at_∧nx=at_+(n:Int)∧nx≤(b.length:Int)∧(n≤4→0≤v∧v<4294967296)):=by
 have hr:(decide ((1:Int)≤(n:Int))&&decide ((n:Int)≤8))=true:=by simp;omega
 unfold DY EG;simp only[CQ,ES,hr,AR,Bh,AU,cst,EU];have hi:=ha.1;have hi':=ha.2;have e1:IntKind.wrap .i64 ((b.length:Int)-(n:Int))=(b.length:Int)-n:=AV (by omega) (by omega);rw[e1];by_cases h0:at_<0
 ·simp only[AX h0,Gl,AQ]
  exact⟨0,0,false,rfl,rfl,⟨by decide,by decide⟩,fun _=>⟨rfl,rfl⟩,fun h=>by cases h⟩
 obtain⟨p,rfl⟩:∃m:Nat,at_=m:=⟨at_.toNat,by omega⟩;simp only[AY h0,EU];by_cases h2:(p:Int)>(b.length:Int)-n
 ·have:(decide ((p:Int)>(b.length:Int))||decide (IntKind.wrap .i64 ((b.length:Int)-(p:Int))<(n:Int)))=true:=by
   by_cases hp:(p:Int)>(b.length:Int)
   ·simp[hp]
   ·rw[AV (by omega) (by omega),AX (show(b.length:Int)-(p:Int)<(n:Int) by omega),Bool.or_true]
  simp only[AX h2,this,AQ];exact⟨0,0,false,rfl,rfl,⟨by decide,by decide⟩,fun _=>⟨rfl,rfl⟩,fun h=>by cases h⟩
 ·have e2:IntKind.wrap .i64 ((b.length:Int)-(p:Int))=(b.length:Int)-p:=AV (by omega) (by omega)
  simp only[AY h2,e2,AY (show ¬(p:Int)>(b.length:Int) by omega),AY (show ¬(b.length:Int)-(p:Int)<(n:Int) by omega),D6,AU];obtain⟨l1,l2⟩:=ML k b p n hn (by omega) (by omega) hby n k 0 0 (by omega) (by omega) (by simp);rw[show IntKind.wrap .i64 ((0:Nat):Int)=0 by decide,show((0:Nat):Int)=0 from rfl] at l1 l2;simp only[Nat.zero_add,Nat.add_zero,Nat.mul_zero,Nat.pow_zero,Nat.mul_one] at l1 l2;refine⟨_,_,_,l2,l1,⟨F4 _,F3 _⟩,(fun h=>by cases h),fun _=>⟨by omega,by omega,by omega,?_⟩⟩;intro h4;have hlt:=MP ((b.drop p).take n) (fun x hx=>hby x (List.mem_of_mem_drop (List.mem_of_mem_take hx)));have hlen:((b.drop p).take n).length=n:=by rw[List.length_take,List.length_drop];omega
  rw[hlen] at hlt;have:2^(8*n)≤2^32:=Nat.pow_le_pow_right (by decide) (by omega);rw[AV (by omega) (by omega)];omega
theorem WZ(hk:100≤k)(t:Int)(ht:t=1∨t=2∨t=5∨t=6)(b:List Int)(hb:b.length<1000000000000000)(hby:Bq b)(at_:Int)(ha:Be at_):
 ∃v nx ok,G9 k t b at_=some (v,nx,ok)∧GJ k t b at_=some (v,nx,ok)∧
  (ok=true→BV t v=true∧Be v.1∧0≤at_∧nx=at_+((BA t v).length:Nat)∧nx≤(b.length:Int)):=by
 obtain⟨v4,n4,o4,a1,a2,a3,a4,a5⟩:=KA k hk b hb hby at_ ha 4 (by omega) (by omega);obtain⟨v8,n8,o8,b1,b2,b3,b4,b5⟩:=KA k hk b hb hby at_ ha 8 (by omega) (by omega);rw[show((4:Nat):Int)=4 from rfl] at a1 a2 a5;rw[show((8:Nat):Int)=8 from rfl] at b1 b2 b5;unfold G9 GJ;rcases(show t=1∨(t=2∨t=5)∨t=6 by omega) with rfl|EM|rfl
 ·have hs:∀v:Int,0≤v→v<4294967296→IntKind.wrap .i64 (IntKind.wrap .i32 v)=if v>2147483647 then v-4294967296 else v:=by
   intro v h0 h1;have:IntKind.wrap .i32 v=if v>2147483647 then v-4294967296 else v:=by
    have h2:v%2^32=v:=Int.emod_eq_of_lt h0 h1;simp only[IntKind.wrap,IntKind.bits,IntKind.signed,h2,Et,Cz];by_cases h:v>2147483647
    ·rw[if_pos h,if_pos (show v≥2^(32-1) by omega)];omega
    ·rw[if_neg h,if_neg (show ¬v≥2^(32-1) by omega)]
   rw[this];split<;>exact AV (by omega) (by omega)
  have hv:0≤v4∧v4<4294967296:=by
   cases o4 with
   |false=>obtain⟨rfl,_⟩:=a4 rfl;omega
   |true=>exact(a5 rfl).2.2.2 (by omega)
  simp only[show((1:Int) !=6)=true from rfl,show((1:Int)==1)=true from rfl,AQ,CV,AR,a1,a2,FE,show((4:Int)==4)=true from rfl,hs v4 hv.1 hv.2,GJ.c6];refine⟨(if v4>2147483647 then v4-4294967296 else v4,Br,()),n4,o4,rfl,?_,?_⟩
  ·by_cases h:v4>2147483647
   ·rw[AX h,AQ,if_pos h,AV (by omega) (by omega)]
   ·rw[AY h,AU,if_neg h]
  ·intro ho
   obtain⟨c1,c2,c3,c4⟩:=a5 ho;have: -2147483648≤(if v4>2147483647 then v4-4294967296 else v4)∧(if v4>2147483647 then v4-4294967296 else v4)≤2147483647:=by split<;>omega
   refine⟨?_,⟨by omega,by omega⟩,c1,(by unfold BA;rw[if_neg (by decide),if_pos rfl,Bt];omega),c3⟩;unfold BV;rw[if_neg (by decide),if_pos rfl];simp[this,Gc]
 ·have e6:(t !=6)=true:=by rcases EM with rfl|rfl<;>rfl
  have ew:CV k t=some 8:=by rcases EM with rfl|rfl<;>rfl
  simp only[e6,AQ,ew,AR,b1,b2,FE,show((8:Int)==4)=false from rfl,AU,A_ (show ¬t=1 by omega),A_ (show ¬t=6 by omega)];refine⟨_,_,_,rfl,rfl,?_⟩;intro ho;obtain⟨c1,c2,c3,c4⟩:=b5 ho;refine⟨?_,b3,c1,(by unfold BA;rw[if_neg (by omega),if_neg (by omega),Bt];omega),c3⟩;unfold BV;rw[if_neg (by omega),if_neg (by omega),if_pos EM];simp[Gc]
 ·simp only[show((6:Int) !=6)=false from rfl,show((6:Int)==1)=false from rfl,show((6:Int)==6)=true from rfl,AQ,AU,a1,a2,AR,cst]
  cases o4 with
  |false=>
   simp only[Dm,Gl,AQ];exact⟨_,_,_,rfl,rfl,fun h=>by cases h⟩
  |true=>
   obtain⟨c1,c2,c3,c4⟩:=a5 rfl;have c4:=c4 (by omega);have e:IntKind.wrap .i64 ((b.length:Int)-n4)=(b.length:Int)-n4:=AV (by omega) (by omega);simp only[Bh,EU,e];by_cases hx:v4>40∨v4>(b.length:Int)-n4
   ·have:(decide (v4>40)||decide (v4>(b.length:Int)-n4))=true:=by rcases hx with hx|hx<;>simp[hx]
    simp only[this,AQ];exact⟨_,_,_,rfl,rfl,fun h=>by cases h⟩
   ·have h1:¬v4>40:=fun h=>hx (.inl h)
    have h2:¬v4>(b.length:Int)-n4:=fun h=>hx (.inr h);have e3:IntKind.wrap .i64 (n4+v4)=n4+v4:=AV (by omega) (by omega);simp only[AY h1,AY h2,D6,AU,e3,FF (show(0:Int)≤n4 by omega) (show n4≤n4+v4 by omega) (show n4+v4≤(b.length:Int) by omega),AQ];refine⟨_,_,_,rfl,rfl,fun _=>⟨?_,⟨(by decide: -9223372036854775808≤(0:Int)),(by decide:(0:Int)<9223372036854775808)⟩,c1,(by unfold BA kP;rw[if_pos rfl,A8,Bt,vR,I9,List.length_drop,List.length_take];omega),by omega⟩⟩;unfold BV;rw[if_neg (by decide),if_neg (by decide),if_neg (by decide),if_pos rfl];simp only[show((0:Int)==0)=true from rfl,Et,I9,Cz];unfold kP;rw[List.length_drop,List.length_take];omega
structure MW(t:Int)(b:List Int)(at_ many nx:Int)(ok:Bool)(l:List AP):Prop where
 bad:ok=false→nx=0∨t=0
 ty:ok=true→CB t=true
 a0:ok=true→0≤at_
 m0:ok=true→0≤many∧many≤2000
 n0:ok=true→at_≤nx
 n1:ok=true→nx≤(b.length:Int)
 nl:ok=true→nx=at_+(((Cf t l).length:Nat):Int)
 len:ok=true→l.length=many.toNat
 vk:ok=true→∀v,v∈l→BV t v=true∧Be v.1
 short:ok=false→l.length≤2000
theorem Xm(hk:100≤k)(t:Int)(ht:t=1∨t=2∨t=5∨t=6)(b:List Int)(hb:b.length<1000000000000000)(hby:Bq b)(many:Nat)(hm:many≤2000):∀(m n i:Nat) (at_:Int) (o:List AP),i+m=many→m<n→o.length=i→0≤at_→at_≤(b.length:Int)→
 ∃nx ok l,DF.l8 k n t b at_ (many:Int) (i:Int) o=some (((),nx,ok),l)∧El.Ij k n t b at_ (many:Int) (i:Int) o=some (((),nx,ok),l)∧
  (ok=false→nx=0∧l=[])∧(ok=true→at_≤nx∧nx≤(b.length:Int)∧∃l',l=o++l'∧l'.length=m∧nx=at_+(((l'.map (BA t)).flatten.length:Nat):Int)∧∀v,v∈l'→BV t v=true∧Be v.1):=by
 intro m
 induction m with
 |zero=>
  intro n i at_ o hi hn ho h0 h1;obtain⟨n,rfl⟩:∃x,n=x+1:=⟨n-1,by omega⟩;obtain rfl:i=many:=by omega
  simp only[DF.l8,El.Ij,AY (show ¬(i:Int)<(i:Int) by omega),AU];exact⟨_,_,_,rfl,rfl,(fun h=>by cases h),fun _=>⟨by omega,h1,[],by simp,rfl,by simp,by simp⟩⟩
 |succ m ih=>
  intro n i at_ o hi hn ho h0 h1;obtain⟨n,rfl⟩:∃x,n=x+1:=⟨n-1,by omega⟩;obtain⟨v,nx,ok,e1,e2,e3⟩:=WZ k hk t ht b hb hby at_ ⟨by omega,by omega⟩;simp only[DF.l8,El.Ij,AX (show(i:Int)<(many:Int) by omega),AQ,e1,e2,AR];cases ok with
  |false=>
   simp only[Dm,AQ];exact⟨_,_,_,rfl,rfl,fun _=>⟨rfl,rfl⟩,fun h=>by cases h⟩
  |true=>
   obtain⟨c1,c2,c3,c4,c5⟩:=e3 rfl;obtain⟨nx',ok',l',f1,f2,f3,f4⟩:=ih n (i+1) nx (o++[v]) (by omega) (by omega) (by simp;omega) (by omega) c5;have e:IntKind.wrap .i64 ((i:Int)+1)=((i+1:Nat):Int):=by rw[AV (by omega) (by omega)];omega
   simp only[Bh,AU,Bc (show o.length+[v].length≤4294967296 by simp;omega),AQ,e];refine⟨nx',ok',l',f1,f2,f3,?_⟩;intro ho';obtain⟨g1,g2,l2,g3,g4,g6,g5⟩:=f4 ho';refine⟨by omega,g2,v::l2,by rw[g3];simp,by simp[g4],(by rw[List.map_cons,List.flatten_cons,A8];omega),?_⟩;intro x hx;rcases List.mem_cons.1 hx with rfl|hx
   ·exact⟨c1,c2⟩
   ·exact g5 x hx
theorem Ky(l:List Int)(hl:l.length<1000000000):∀(post pre:List Int) (n:Nat),l=pre++post→post.length<n→
 Ep.l3 k n l (l.length:Int) (pre.length:Int) (pre.map fun x=>((x,Br,()):AP))=some ((),l.map fun x=>((x,Br,()):AP))∧
 ∀nx ok,El.l7 k n nx ok (pre.length:Int) (pre.map fun x=>((x,Br,()):AP)) l=some (((),nx,ok),l.map fun x=>((x,Br,()):AP)):=by
 intro post
 induction post with
 |nil=>
  intro pre n hv hn;obtain⟨n,rfl⟩:∃x,n=x+1:=⟨n-1,by omega⟩;have:l=pre:=by simpa using hv
  subst this;simp only[Ep.l3,El.l7,AY (show ¬(l.length:Int)<(l.length:Int) by omega),AU];exact⟨trivial,fun _ _=>trivial⟩
 |cons v post ih=>
  intro pre n hv hn;simp only[Bn] at hn;obtain⟨n,rfl⟩:∃x,n=x+1:=⟨n-1,by omega⟩;have hlen:l.length=pre.length+(post.length+1):=by rw[hv];simp
  have hg:gP l (pre.length:Int)=some v:=by rw[hv];exact BB pre post v
  have:=ih (pre++[v]) n (by rw[hv];simp) (by omega);rw[A8,Bz,List.map_append] at this;simp only[Ep.l3,El.l7,AX (show(pre.length:Int)<(l.length:Int) by omega),AQ,hg,AR,Bc (show(pre.map fun x=>((x,Br,()):AP)).length+([(v,Br,())]:List AP).length≤4294967296 by simp;omega),AV (x:=(pre.length:Int)+1) (by omega) (by omega)];exact this
theorem MF{t:Int}(h:CB t=true):t=0∨t=1∨t=2∨t=5∨t=6:=by
 unfold CB at h;simp at h;omega
theorem Xc(hk:3000≤k)(t:Int)(b:List Int)(hb:b.length<1000000000000000)(hby:Bq b)(at_ many:Int)(ha:Be at_):
 ∃nx ok l,DF k t b at_ many=some (((),nx,ok),l)∧El k t b at_ many=some (((),nx,ok),l)∧MW t b at_ many nx ok l:=by
 unfold DF El;simp only[Jz,I_,CQ,ES,AR,cst];by_cases hc:CB t=true∧(0≤many∧many≤2000)∧(0≤at_∧at_≤(b.length:Int))
 ·obtain⟨hty,⟨m0,m1⟩,a0,a1⟩:=hc
  simp only[hty,AX m0,AX m1,AX a0,AX a1,Bool.and_self,Bh,D6,AU];by_cases ht:t=0
  ·subst ht
   obtain⟨nx,ok,l,e1,e2,e3,e4⟩:=Nh k hk b hb hby at_ many 1 ha;have hll:l.length<1000000000∧l.length<k:=by
    cases ok with
    |false=>obtain⟨_,rfl⟩:=e3 rfl;simp;omega
    |true=>obtain⟨_,_,_,_,h,_⟩:=e4 rfl;omega
   obtain⟨v1,v2⟩:=Ky k l hll.1 l [] k rfl hll.2;rw[List.length_nil,List.map_nil,show((0:Nat):Int)=0 from rfl] at v1 v2;simp only[show((0:Int)==0)=true from rfl,AQ,e1,e2,AR,Ep,v1,v2 nx ok];refine⟨_,_,_,rfl,rfl,⟨fun _=> .inr rfl,fun _=>hty,fun _=>a0,fun _=>⟨m0,m1⟩,?_,?_,?_,?_,?_,fun h=>by rw[(e3 h).2];simp⟩⟩
   ·intro h;obtain⟨_,_,_,_,_,_,h7,_,_⟩:=e4 h;omega
   ·intro h;obtain⟨_,_,_,_,_,_,_,h8,_⟩:=e4 h;exact h8
   ·intro h;obtain⟨_,_,_,_,h5,_,h7,_⟩:=e4 h;rw[h7];unfold Cf Bw;rw[if_pos rfl,Bt];simp[h5]
   ·intro h;obtain⟨_,_,_,_,h5,_⟩:=e4 h;simpa using h5
   ·intro h v hv
    obtain⟨_,_,_,_,_,_,_,_,h9⟩:=e4 h;obtain⟨x,hx,rfl⟩:=List.mem_map.1 hv;obtain⟨x0,x1⟩:=h9 x hx;have x1:x<2:=x1;refine⟨?_,⟨by show _≤x;omega,by show x<_;omega⟩⟩;unfold BV;rw[if_pos rfl];simp only[AX x0,AX (show x≤1 by omega),Gc];simp
  ·obtain⟨many,rfl⟩:∃m:Nat,many=m:=⟨many.toNat,by omega⟩
   have ht':t=1∨t=2∨t=5∨t=6:=by have:=MF hty;omega
   obtain⟨nx,ok,l,e1,e2,e3,e4⟩:=Xm k (by omega) t ht' b hb hby many (by omega) many k 0 at_ [] (by omega) (by omega) rfl a0 a1;rw[show((0:Nat):Int)=0 from rfl] at e1 e2;simp only[A_ ht,AU,e1,e2];refine⟨_,_,_,rfl,rfl,⟨fun h=> .inl (e3 h).1,fun _=>hty,fun _=>a0,fun _=>⟨m0,m1⟩,fun h=>(e4 h).1,fun h=>(e4 h).2.1,?_,?_,?_,fun h=>by rw[(e3 h).2];simp⟩⟩
   ·intro h;obtain⟨_,_,l',rfl,_,h6,_⟩:=e4 h;unfold Cf;rw[if_neg ht];simpa using h6
   ·intro h;obtain⟨_,_,l',rfl,h5,_⟩:=e4 h;simpa using h5
   ·intro h;obtain⟨_,_,l',rfl,_,_,h6⟩:=e4 h;simpa using h6
 ·have:((!CB t|| !(decide (0≤many)&&decide (many≤2000)))|| !(decide (0≤at_)&&decide (at_≤(b.length:Int))))=true:=by
   by_cases a:CB t=true<;>by_cases b1:0≤many<;>by_cases c:many≤2000<;>by_cases d:0≤at_<;>by_cases e:at_≤(b.length:Int)<;>simp[a,b1,c,d,e]
   exact hc ⟨a,⟨b1,c⟩,d,e⟩
  simp only[this,AQ];exact⟨_,_,_,rfl,rfl,⟨fun _=> .inl rfl,nofun,nofun,nofun,nofun,nofun,nofun,nofun,nofun,fun _=>by simp⟩⟩
end Go.A9
end
section
namespace Go.A9
open Go.Am Go.Fn
variable(k:Nat)
def Cu:Nat→Nat→Nat
 |0,_=>0
 |f+1,u=>if u=0 then 0 else Cu f (u/2)+1
theorem Nj:∀f,Cu f 0=0
 |0=>rfl
 |f+1=>rfl
theorem Gu:∀f u,Cu f u≤f
 |0,_=>Nat.le_refl _
 |f+1,u=>by
  have:=Gu f (u/2);simp only[Cu];split<;>omega
theorem KL:∀f u,u<2^f→u<2^Cu f u
 |0,u,h=>h
 |f+1,u,h=>by
  simp only[Cu];split
  ·omega
  ·rw[Nat.pow_succ] at h⊢
   have:=KL f (u/2) (by omega);omega
theorem GL:∀f g u,u<2^f→Cu (f+g) u=Cu f u
 |0,g,u,h=>by
  have:u=0:=by simpa using h
  subst this;simp[Nj]
 |f+1,g,u,h=>by
  rw[show f+1+g=(f+g)+1 by omega];simp only[Cu];rw[Nat.pow_succ] at h;rw[GL f g (u/2) (by omega)]
theorem IK:∀s f u,2^s≤u→Cu (f+s) u=Cu f (u/2^s)+s
 |0,f,u,_=>by simp
 |s+1,f,u,h=>by
  rw[Nat.pow_succ] at h;have h0:u≠0:=by have:=Nat.two_pow_pos s;omega
  rw[show f+(s+1)=(f+s)+1 by omega];simp only[Cu,h0,if_false];rw[IK s f (u/2) (by omega),Nat.div_div_eq_div_mul,Nat.pow_succ,Nat.mul_comm 2];omega
def Ch(u:Nat):Nat:=Cu 64 u
theorem Km(kk:IntKind)(a n:Nat)(h:n≤kk.bits):qW kk (a:Int) (n:Int)=((a/2^n:Nat):Int):=by
 rw[ED kk _ n h];simp
theorem Wj:∀u:Fin 256,bits_Len64.c10 0 ((u.val:Nat):Int) 0=some ((Cu 8 u.val:Nat):Int):=by decide+kernel
theorem LK(u:Nat)(hu:u<256)(t2:Nat)(h2:t2<1000):bits_Len64.c10 k (u:Int) (t2:Int)=some ((t2+Cu 8 u:Nat):Int):=by
 have h0:=Wj ⟨u,hu⟩;have hs:bits_Len64.c10 k (u:Int) (t2:Int)=(bits_Len64.c10 0 (u:Int) 0).bind fun r=>some (IntKind.wrap .i64 ((t2:Int)+r)):=by
  unfold bits_Len64.c10;rw[Option.bind_assoc]
  congr 1
  funext y;simp only[AR];rw[Int.zero_add,AV (F4 y) (F3 y)]
 have hb:=Gu 8 u;rw[hs,h0];simp only[AR];rw[AV (by omega) (by omega)];rfl
theorem Jd(u:Nat)(hu:u<18446744073709551616):bits_Len64 k (u:Int)=some (Ch u:Int):=by
 unfold bits_Len64;have c7:∀(u t:Nat),u<65536→t<900→bits_Len64.c7 k (u:Int) (t:Int)=some ((t+Cu 16 u:Nat):Int):=by
  intro u t hu ht;unfold bits_Len64.c7;by_cases h:256≤u
  ·rw[AX (show(u:Int)≥256 by omega),AQ]
   have:=Km .u64 u 8 (by decide);rw[show((8:Nat):Int)=8 from rfl] at this;rw[this,AV (by omega) (by omega)];have:=LK k (u/2^8) (by simp;omega) (t+8) (by omega);rw[show((t:Int)+8)=((t+8:Nat):Int) by omega,this];rw[show(16:Nat)=8+8 by rfl,IK 8 8 u (by simpa using h)]
   congr 2;omega
  ·rw[AY (show ¬(u:Int)≥256 by omega),AU,LK k u (by omega) t (by omega)]
   have:=GL 8 8 u (by simp;omega);rw[this]
 have c4:∀(u t:Nat),u<4294967296→t<800→bits_Len64.c4 k (u:Int) (t:Int)=some ((t+Cu 32 u:Nat):Int):=by
  intro u t hu ht;unfold bits_Len64.c4;by_cases h:65536≤u
  ·rw[AX (show(u:Int)≥65536 by omega),AQ]
   have:=Km .u64 u 16 (by decide);rw[show((16:Nat):Int)=16 from rfl] at this;rw[this,AV (by omega) (by omega)];have:=c7 (u/2^16) (t+16) (by simp;omega) (by omega);rw[show((t:Int)+16)=((t+16:Nat):Int) by omega,this];rw[show(32:Nat)=16+16 by rfl,IK 16 16 u (by simpa using h)]
   congr 2;omega
  ·rw[AY (show ¬(u:Int)≥65536 by omega),AU,c7 u t (by omega) (by omega)]
   have:=GL 16 16 u (by simp;omega);rw[this]
 unfold Ch;by_cases h:4294967296≤u
 ·rw[AX (show(u:Int)≥4294967296 by omega),AQ]
  have:=Km .u64 u 32 (by decide);rw[show((32:Nat):Int)=32 from rfl] at this;rw[this];have:=c4 (u/2^32) 32 (by simp;omega) (by omega);rw[show((32:Nat):Int)=32 from rfl] at this;rw[this,show(64:Nat)=32+32 by rfl,IK 32 32 u (by simpa using h)]
  congr 2;omega
 ·rw[AY (show ¬(u:Int)≥4294967296 by omega),AU]
  have:=c4 u 0 (by omega) (by omega);rw[show((0:Nat):Int)=0 from rfl] at this;rw[this];have:=GL 32 32 u (by simp;omega);rw[this];simp
theorem wu64(v:Int):IntKind.wrap .u64 v=(u64 v:Int):=by rw[EJ,E9]
theorem MK(v:Int):D5 k v=some (Ch (u64 v):Int):=by
 unfold D5;rw[wu64,Jd k _ (FT v)];rfl
theorem Nk(u:Nat):Ch u≤64:=Gu 64 u
theorem JF{u:Nat}(h:u<18446744073709551616):u<2^Ch u:=KL 64 u (by simpa using h)
theorem MG:u64 0=0:=by decide
theorem Kt{v:Int}(h0:0≤v)(h1:v<9223372036854775808):(u64 v:Int)=v:=by rw[E9];omega
theorem IQ(v:Int)(hv:Be v):FP k v 1=some ((u64 v/2:Nat):Int):=by
 unfold FP;rw[A_ (by decide),AU,AX (by decide),AQ,show IntKind.wrap .i64 (64-1)=63 by decide,AX (by decide),AQ];have h1:qW .i64 v 1=v/2:=ED .i64 v 1 (by decide);have h2:IntKind.wrap .i64 (qV .i64 1 63-1)=2^63-1:=by decide
 rw[h1,h2];have h3:∀x:Int,bits .and .i64 x (2^63-1)=x%2^63:=by
  intro x;have hb:(BitVec.ofInt 64 x&&&BitVec.ofInt 64 (2^63-1)).toNat=(x%9223372036854775808).toNat:=by
   have h4:BitVec.ofInt 64 (2^63-1)=BitVec.ofNat 64 (2^63-1):=by decide
   rw[h4,BitVec.toNat_and,BitVec.toNat_ofNat,BitVec.toNat_ofInt];rw[show(2^63-1)%2^64=2^63-1 by decide,Nat.and_two_pow_sub_one_eq_mod];omega
  show IntKind.wrap .i64 (((BitVec.ofInt 64 x&&&BitVec.ofInt 64 (2^63-1)).toNat:Nat):Int)=_;rw[hb,Int.toNat_of_nonneg (by omega),AV (by omega) (by omega)];rfl
 rw[h3]
 congr 1
 have:=E9 v;omega
end Go.A9
end
section
namespace Go.A9
open Go.Am Go.Fn
def Gt(B:List Int):Prop:=∀x,x∈B→0≤x∧x<256
theorem Gt.cons{a:Int}{B:List Int}(h0:0≤a)(h1:a<256)(h':Gt B):Gt (a::B):=fun x hx=>by
 rcases List.mem_cons.1 hx with rfl|hx
 ·exact⟨h0,h1⟩
 ·exact h' x hx
theorem Gt.nil:Gt []:=fun x hx=>(List.not_mem_nil hx).elim
end Go.A9
end
section
namespace Go.A9
open Go.Am Go.Fn
variable(k:Nat)
end Go.A9
end
section
namespace Go.A9
open Go.Am Go.Fn
end Go.A9
end
section
namespace Go.A9
open Go.Am Go.Fn
variable(k:Nat)(hk:2000≤k)
end Go.A9
end
section
namespace Go.A9
open Go.Am Go.Fn
variable(k:Nat)
theorem VN(hk:2000≤k){b:List Int}(hl:b.length<4611686018427387904)(hb:Gt b)(p:Nat)(hp:p≤b.length):Cx k b (p:Int)=match gv (b.drop p) with
 |none=>some (0,0,false)
 |some (u,n)=>some (u,((p+n:Nat):Int),true):=by
 unfold Cx;rw[AY (by omega),AU];have h:=VM k b p hl hb (by omega) 10 k 0 0 rfl (by omega) (by simp);rw[show((0:Nat):Int)=0 from rfl] at h;rw[h];unfold gv;rw[Nat.add_zero];cases Dh 10 (b.drop p) with
 |none=>rfl
 |some x=>
  simp only[Option.map_some,Nat.mul_zero,Nat.pow_zero,Nat.mul_one,Nat.zero_add]
end Go.A9
end
section
namespace Go.A9
open Go.Am Go.Fn
variable(k:Nat)
theorem XG(b:List Int)(p:Nat)(hb:b.length<4611686018427387904)(hby:∀x,x∈b→0≤x∧x<256)(hp:p≤b.length):∀(f n i acc:Nat),i+f=10→f<n→acc<2^(7*i)→
 Fv.l5 k n b (p:Int) (IntKind.wrap .i64 (acc:Int)) (i:Int)=match Dh f (b.drop (p+i)) with
  |none=>some (0,0,false)
  |some (v,m)=>some (IntKind.wrap .i64 ((acc+v*2^(7*i):Nat):Int),((p+i+m:Nat):Int),true):=by
 have last:∀(n:Nat) (x:Int),0<n→Fv.l5 k n b (p:Int) x ((10:Nat):Int)=some (0,0,false):=by
  intro n x hn;obtain⟨n,rfl⟩:∃j,n=j+1:=⟨n-1,by omega⟩;simp only[Fv.l5,show decide (((10:Nat):Int)<10)=false by decide,AU,AR]
 intro f
 induction f with
 |zero=>
  intro n i acc hi hn hacc;obtain rfl:i=10:=by omega
  exact last n _ (by omega)
 |succ f ih=>
  intro n i acc hi hn hacc;obtain⟨n,rfl⟩:∃j,n=j+1:=⟨n-1,by omega⟩;have hP:0<2^(7*i):=Nat.two_pow_pos _;have FC:2^(7*(i+1))=128*2^(7*i):=by rw[Nat.mul_add,Nat.pow_add];simp[Nat.mul_comm]
  have c1:decide ((i:Int)<10)=true:=by simp;omega
  have e2:IntKind.wrap .i64 ((p:Int)+(i:Int))=((p+i:Nat):Int):=by rw[AV (by omega) (by omega)];omega
  by_cases hlt:p+i<b.length
  ·obtain⟨c,hc,hc2⟩:=JP hlt
   obtain⟨c0,KW⟩:=hby c (List.mem_of_getElem? hc2);have e3:IntKind.wrap .i64 (7*(i:Int))=((7*i:Nat):Int):=by rw[AV (by omega) (by omega)];omega
   have e5:IntKind.wrap .i64 (((p+i:Nat):Int)+1)=((p+i+1:Nat):Int):=by rw[AV (by omega) (by omega)];omega
   have e6:IntKind.wrap .i64 ((i:Int)+1)=((i+1:Nat):Int):=by rw[AV (by omega) (by omega)];omega
   have c2:decide (((p+i:Nat):Int)<(b.length:Int))=true:=by simp;omega
   have c5:decide ((0:Int)≤((7*i:Nat):Int))=true:=AX (by omega);have hget:gP b ((p+i:Nat):Int)=some c:=by rw[Dc];exact hc2
   have ec:IntKind.wrap .i64 c=c:=AV (by omega) (by omega);have e127:bits .and .i64 c 127=(((c%128).toNat:Nat):Int):=by
    have:=H6 c 7 (by decide);rw[show((2:Int)^7-1)=127 by decide,show((2:Int)^7)=128 by decide] at this;rw[this];omega
   rw[hc,Dh];simp only[Fv.l5,c1,c2,e2,e3,e5,e6,hget,ec,c5,AQ,AR,BZ,e127];by_cases h9:f=0∧1<c
   ·obtain⟨rfl,h1c⟩:=h9
    obtain rfl:i=9:=by omega
    rw[if_pos ⟨rfl,h1c⟩];by_cases h128:c<128
    ·simp only[AX h128,AQ,show(((9:Nat):Int)==9)=true by decide,show decide (c>1)=true from AX h1c,Bool.and_self]
    ·simp only[AY h128,AU]
     exact last n _ (by omega)
   ·rw[if_neg h9]
    have JY:(((i:Int)==9)&&decide (c>1))=false:=by
     rw[Bool.eq_false_iff];intro q;simp only[CO,beq_iff_eq,Cz] at q;exact h9 ⟨by omega,q.2⟩
    have hsum:acc+(c%128).toNat*2^(7*i)<2^IntKind.bits .i64:=by
     show _<2^64;by_cases hf:f=0
     ·have:i=9:=by omega
      subst this;have hc1:c≤1:=by
       rcases Int.lt_or_le 1 c with q|q
       ·exact(h9 ⟨hf,q⟩).elim
       ·exact q
      have h1:(c%128).toNat≤1:=by omega
      have h2:(2:Nat)^(7*9)=9223372036854775808:=by decide
      rw[h2] at hacc⊢;have:=Nat.mul_le_mul_right 9223372036854775808 h1;omega
     ·have h1:(c%128).toNat*2^(7*i)≤127*2^(7*i):=Nat.mul_le_mul_right _ (by omega)
      have h2:2^(7*(i+1))≤2^63:=Nat.pow_le_pow_right (by omega) (by omega);rw[FC] at h2;have h3:(2:Nat)^63=9223372036854775808:=by decide
      omega
    have Gb:=GD .i64 (a:=acc) (b:=(c%128).toNat) (i:=7*i) (show 7*i≤64 by omega) hacc hsum;rw[Gb];by_cases h128:c<128
    ·rw[if_pos h128]
     simp only[AX h128,AQ,JY,AU];have:(c%128).toNat=c.toNat:=by omega
     rw[this]
    ·rw[if_neg h128]
     simp only[AY h128,AU];have hlt2:acc+(c%128).toNat*2^(7*i)<2^(7*(i+1)):=by
      rw[FC];have:(c%128).toNat*2^(7*i)≤127*2^(7*i):=Nat.mul_le_mul_right _ (by omega);omega
     rw[ih n (i+1) _ (by omega) (by omega) hlt2,←Nat.add_assoc];cases Dh f (b.drop (p+i+1)) with
     |none=>rfl
     |some x=>
      obtain⟨v,m⟩:=x;simp only[Option.map_some];rw[FC,show acc+(c%128).toNat*2^(7*i)+v*(128*2^(7*i))=acc+((c%128).toNat+128*v)*2^(7*i) by grind,show p+i+1+m=p+i+(m+1) by omega]
  ·have c2:decide (((p+i:Nat):Int)<(b.length:Int))=false:=AY (by omega)
   rw[List.drop_eq_nil_of_le (by omega),Dh];simp only[Fv.l5,c1,e2,c2,AQ,AU,AR]
theorem XH(hk:2000≤k){b:List Int}(hl:b.length<4611686018427387904)(hb:Gt b)(p:Nat)(hp:p≤b.length):Fv k b (p:Int)=match gv (b.drop p) with
 |none=>some (0,0,false)
 |some (u,n)=>some (u,((p+n:Nat):Int),true):=by
 unfold Fv;rw[AY (show ¬((p:Int)<0) by omega)];by_cases h:p=b.length
 ·rw[AX (show(p:Int)≥(b.length:Int) by omega),List.drop_eq_nil_of_le (by omega)]
  rfl
 ·rw[AY (show ¬(p:Int)≥(b.length:Int) by omega)]
  simp only[AU,AR];have h:=XG k b p hl hb hp 10 k 0 0 rfl (by omega) (by simp);rw[show IntKind.wrap .i64 ((0:Nat):Int)=0 by decide,show((0:Nat):Int)=0 from rfl] at h;rw[h];unfold gv;rw[Nat.add_zero];cases Dh 10 (b.drop p) with
  |none=>rfl
  |some x=>
   simp only[Option.map_some,Nat.mul_zero,Nat.pow_zero,Nat.mul_one,Nat.zero_add]
end Go.A9
end
section
namespace Go.A9
open Go.Am Go.Fn
variable(k:Nat)
abbrev HV:=(Unit×Int×Bool)×List Int
theorem IL{u w:Nat}(hw:w≤64)(hu:u<18446744073709551616):Ch u≤w↔u<2^w:=by
 constructor
 ·intro h
  exact Nat.lt_of_lt_of_le (JF hu) (Nat.pow_le_pow_right (by decide) h)
 ·intro h
  have e:=GL w (64-w) u h;rw[show w+(64-w)=64 by omega] at e;unfold Ch;rw[e];exact Gu w u
theorem LB(L4:(List Int)→Int→Int→Int→(List Int)→Option HV)(b:List Int)(many w x nx:Int)(m:Nat)(hm:m≤100000):∀(d n i:Nat) (o:List Int),i+d=m→d<n→o.length+d≤100000→
 Cb.He k L4 n b many w x nx (m:Int) (i:Int) o=L4 b nx many w (o++List.replicate d x):=by
 intro d
 induction d with
 |zero=>
  intro n i o hi hn ho;obtain⟨n,rfl⟩:∃x,n=x+1:=⟨n-1,by omega⟩;simp only[Cb.He,AY (show ¬(i:Int)<(m:Int) by omega),AU];simp
 |succ d ih=>
  intro n i o hi hn ho;obtain⟨n,rfl⟩:∃x,n=x+1:=⟨n-1,by omega⟩;have e:IntKind.wrap .i64 ((i:Int)+1)=((i+1:Nat):Int):=by rw[AV (by omega) (by omega)];omega
  simp only[Cb.He,AX (show(i:Int)<(m:Int) by omega),AQ,Bc (show o.length+[x].length≤4294967296 by simp;omega),e];rw[ih n (i+1) _ (by omega) (by omega) (by simp;omega),CP];rfl
theorem X0(L4:(List Int)→Int→Int→Int→(List Int)→Option HV)(b:List Int)(many:Nat)(w x nx:Int)(c:Nat)(hc:c<9223372036854775808)(hm:many≤2000):∀(d n i:Nat) (o:List Int),d=min (c-i) (many-o.length)→i≤c→d<n→i+d≤100000→
 BG.CZ k L4 n b (many:Int) w nx (c:Int) x (i:Int) o=L4 b nx (many:Int) w (o++List.replicate d x):=by
 intro d
 induction d with
 |zero=>
  intro n i o hi hic hn ho;obtain⟨n,rfl⟩:∃x,n=x+1:=⟨n-1,by omega⟩;have:(decide ((i:Int)<(c:Int))&&decide ((o.length:Int)<(many:Int)))=false:=by
   rw[Bool.eq_false_iff];intro h;simp only[CO,Cz] at h;omega
  simp only[BG.CZ,BZ,this,AR,AU];simp
 |succ d ih=>
  intro n i o hi hic hn ho;obtain⟨n,rfl⟩:∃x,n=x+1:=⟨n-1,by omega⟩;have e:IntKind.wrap .i64 ((i:Int)+1)=((i+1:Nat):Int):=by rw[AV (by omega) (by omega)];omega
  simp only[BG.CZ,BZ,AX (show(i:Int)<(c:Int) by omega),AX (show(o.length:Int)<(many:Int) by omega),Bool.and_self,AR,AQ,Bc (show o.length+[x].length≤4294967296 by simp;omega),e];rw[ih n (i+1) _ (by simp;omega) (by omega) (by omega) (by omega),CP];rfl
theorem X7(Hz:(List Int)→Int→Int→Int→Int→Int→(List Int)→Option HV)(pre post:List Int)(L M w i q:Nat)(t2 t15:Int)(hw:w≤64)(hq:(i:Int)*(w:Int)=(q:Int))(Ib:i*w=q)(GX:q+w≤8*L)(hl:pre.length+L<10000000000000000)(hi:i<1000000)(o:List Int)(ho:o.length<1000000):
 ∀(m n j:Nat),j+m=w→m<n→BG.Ik k Hz n (pre++(leB L M++post)) t2 (w:Int) (pre.length:Int) t15 (i:Int) (IntKind.wrap .i64 ((M/2^q%2^j:Nat):Int)) (j:Int) o=Hz (pre++(leB L M++post)) t2 (w:Int) (pre.length:Int) t15 ((i+1:Nat):Int) (o++[DU w M i]):=by
 intro m
 induction m with
 |zero=>
  intro n j hj hn;obtain⟨n,rfl⟩:∃x,n=x+1:=⟨n-1,by omega⟩;obtain rfl:j=w:=by omega
  simp only[BG.Ik,AY (show ¬(j:Int)<(j:Int) by omega),AU];rw[Bc (by simp;omega),AQ,AV (x:=(i:Int)+1) (by omega) (by omega)];unfold DU;rw[Ib]
  congr 1
 |succ m ih=>
  intro n j hj hn;obtain⟨n,rfl⟩:∃x,n=x+1:=⟨n-1,by omega⟩;have hp:IntKind.wrap .i64 (IntKind.wrap .i64 (IntKind.wrap .i64 (8*(pre.length:Int))+IntKind.wrap .i64 ((i:Int)*(w:Int)))+(j:Int))=((8*pre.length+(q+j):Nat):Int):=by
   rw[hq,AV (x:=(q:Int)) (by omega) (by omega),AV (x:=8*(pre.length:Int)) (by omega) (by omega),AV (x:=8*(pre.length:Int)+(q:Int)) (by omega) (by omega),AV (by omega) (by omega)];omega
  have hb:=LD k pre post L M (q+j) (by omega) (by omega);simp only[BG.Ik,AX (show(j:Int)<(w:Int) by omega),AQ,hp,hb,AR,AX (show(0:Int)≤(j:Int) by omega)];have hlt:M/2^q%2^j<2^j:=Nat.mod_lt _ (Nat.two_pow_pos j);have hjj:2^(j+1)≤2^64:=Nat.pow_le_pow_right (by decide) (by omega);have hb1:M/2^(q+j)%2≤1:=by omega
  have hb2:M/2^(q+j)%2*2^j≤1*2^j:=Nat.mul_le_mul_right _ hb1;have ho:=GD .i64 (a:=M/2^q%2^j) (b:=M/2^(q+j)%2) (i:=j) (show j≤64 by omega) hlt (show _<2^64 by rw[Nat.pow_succ] at hjj;omega);rw[ho];have hs:M/2^q%2^j+M/2^(q+j)%2*2^j=M/2^q%2^(j+1):=by
   rw[mod_succ,Nat.div_div_eq_div_mul,←Nat.pow_add]
  rw[hs,AV (x:=(j:Int)+1) (by omega) (by omega),show((j:Int)+1)=((j+1:Nat):Int) by omega];exact ih n (j+1) (by omega) (by omega)
theorem X8(hk:3000≤k)(L4:(List Int)→Int→Int→Int→(List Int)→Option HV)(pre post:List Int)(L M w c many:Nat)(hw:w≤24)(hc:c≤2000)(hm:many≤2000)(hN:min (8*c) many*w≤8*L)(hL:c*w≤L)(hl:pre.length+L<10000000000000000):
 ∀(d n i:Nat) (o:List Int),d=min (8*c-i) (many-o.length)→i≤8*c→d<n→o.length≤many→BG.Hg k L4 n (pre++(leB L M++post)) (many:Int) (w:Int) (pre.length:Int) (c:Int) (i:Int) o=L4 (pre++(leB L M++post)) (IntKind.wrap .i64 ((pre.length:Int)+IntKind.wrap .i64 ((c:Int)*(w:Int)))) (many:Int) (w:Int) (o++(List.range' i d).map (DU w M)):=by
 intro d;have e8:IntKind.wrap .i64 (8*(c:Int))=((8*c:Nat):Int):=by rw[AV (by omega) (by omega)];omega
 induction d with
 |zero=>
  intro n i o hi hic hn ho;obtain⟨n,rfl⟩:∃x,n=x+1:=⟨n-1,by omega⟩;have:(decide ((i:Int)<((8*c:Nat):Int))&&decide ((o.length:Int)<(many:Int)))=false:=by
   rw[Bool.eq_false_iff];intro h;simp only[CO,Cz] at h;omega
  simp only[BG.Hg,BZ,e8,this,AR,AU];simp
 |succ d ih=>
  intro n i o hi hic hn ho;obtain⟨n,rfl⟩:∃x,n=x+1:=⟨n-1,by omega⟩;have hmul:i*w+w≤8*L:=by
   have h1:(i+1)*w≤8*c*w:=Nat.mul_le_mul_right _ (by omega);have h2:8*c*w≤8*L:=by rw[Nat.mul_assoc];exact Nat.mul_le_mul_left 8 hL
   rw[Nat.add_mul,Nat.one_mul] at h1;omega
  have hi':=X7 k (BG.Hg k L4 n) pre post L M w i (i*w) (many:Int) (c:Int) (by omega) (by simp) rfl hmul hl (by omega) o (by omega) w k 0 (by omega) (by omega);simp only[Nat.pow_zero,Nat.mod_one] at hi';have h0:((0:Nat):Int)=0:=rfl;have hw0:IntKind.wrap .i64 0=0:=rfl;rw[h0,hw0] at hi';simp only[BG.Hg,BZ,e8,AX (show(i:Int)<((8*c:Nat):Int) by omega),AX (show(o.length:Int)<(many:Int) by omega),Bool.and_self,AR,AQ];rw[hi',ih n (i+1) _ (by simp;omega) (by omega) (by omega) (by simp;omega)];simp[List.range'_succ]
theorem Xq(hk:3000≤k)(b:List Int)(hb:b.length<1000000000000000)(hby:Bq b)(p w:Nat)(hp:p≤b.length)(hw:w≤24)(F:Int→Int→Option HV):
 ∃(x nx:Int) (ok:Bool),G_ k b (p:Int) (w:Int)=some (x,nx,ok)∧
  (cond (decide ((w:Int)>0))
   ((FM k 1 (w:Int)).bind fun r6=>(EG k b (p:Int) r6).bind fun r7=>
    (cond (!r7.2.2) (some true) (cond (decide (0≤(w:Int))) (some ((qW .i64 r7.1 (w:Int)) !=0)) none)).bind fun b8=>cond b8 (some (((),0,false),[])) (F r7.1 r7.2.1))
   (F 0 (p:Int)))=cond ok (F x nx) (some (((),0,false),[]))∧
  (ok=true→(p:Int)≤nx∧nx≤(b.length:Int)∧0≤x∧x<2^w):=by
 unfold G_;by_cases h0:w=0
 ·subst h0
  refine⟨0,p,true,rfl,rfl,fun _=>⟨by omega,by omega,by decide,by decide⟩⟩
 ·obtain⟨z,h1,h2,hz⟩:=IJ k 1 (w:Int)
  rcases hz with⟨_,hn⟩|⟨_,_,_,_,hz⟩
  ·exact(hn ⟨by omega,by omega,by omega,by omega⟩).elim
  ·have hsz:z=(((w+7)/8:Nat):Int):=by
    rw[hz];unfold bytesOf;simp
   subst hsz;obtain⟨v,nx,ok,a1,a2,a3,a4,a5⟩:=KA k (by omega) b hb hby (p:Int) ⟨by omega,by omega⟩ ((w+7)/8) (by omega) (by omega);simp only[A_ (show ¬(w:Int)=0 by omega),AU,h1,h2,AR,a1,a2,AX (show(w:Int)>0 by omega),AQ,AX (show(0:Int)≤(w:Int) by omega)];cases ok with
   |false=>
    simp only[Dm,AQ,AR];exact⟨_,_,false,rfl,rfl,nofun⟩
   |true=>
    obtain⟨c1,c2,c3,c4⟩:=a5 rfl;obtain⟨c5,c6⟩:=c4 (by omega);have hv:IntKind.wrap .u64 v=((v.toNat:Nat):Int):=by rw[EJ];omega
    have hwd:D5 k v=some (Ch v.toNat:Int):=by
     unfold D5;rw[hv,Jd k v.toNat (by omega)];rfl
    have hcond:decide ((Ch v.toNat:Int)>(w:Int))=(qW .i64 v (w:Int) !=0):=by
     rw[ED .i64 v w (show w≤64 by omega)];have hb:=IL (u:=v.toNat) (w:=w) (by omega) (by omega);have hd:v/2^w=((v.toNat/2^w:Nat):Int):=by
      rw[Int.natCast_ediv,Int.toNat_of_nonneg c5];simp
     rw[hd];by_cases hlt:v.toNat<2^w
     ·rw[Nat.div_eq_of_lt hlt,AY (by have:=hb.2 hlt;omega)];rfl
     ·have hq:0<v.toNat/2^w:=Nat.div_pos (by omega) (Nat.two_pow_pos w)
      rw[AX (by have:¬Ch v.toNat≤w:=fun h=>hlt (hb.1 h);omega),F8 (by omega)]
    simp only[Bh,AU,hwd,AR,hcond];cases hs:(qW .i64 v (w:Int) !=0) with
    |true=>
     simp only[AQ];exact⟨_,_,false,rfl,rfl,nofun⟩
    |false=>
     simp only[AU];refine⟨_,_,true,rfl,rfl,fun _=>⟨by omega,c3,c5,?_⟩⟩;rw[←hcond] at hs;have hs:=of_decide_eq_false hs;have:=(IL (u:=v.toNat) (w:=w) (by omega) (by omega)).1 (by omega);have h2:((v.toNat:Nat):Int)<((2^w:Nat):Int):=by exact_mod_cast this
     rw[Int.toNat_of_nonneg c5] at h2;simpa using h2
theorem JZ(u:Int)(hu:Be u):IntKind.wrap .i64 (qW .u64 (IntKind.wrap .u64 u) 1)=((u64 u/2:Nat):Int):=by
 have:=FT u;rw[wu64 u,Mx,AV (by omega) (by omega)];omega
theorem Xu(hk:2000000≤k)(b:List Int)(hb:b.length<1900000)(hby:Bq b)(w many:Nat)(hw:w≤24)(hm:many≤2000):∀(f n p:Nat) (o:List Int),p+f=b.length→f<n→o.length≤many→(∀x,x∈o→0≤x∧x<2^w)→
 ∃nx ok l,Cb.l4 k n b (p:Int) (many:Int) (w:Int) o=some (((),nx,ok),l)∧BG.l4 k n b (p:Int) (many:Int) (w:Int) o=some (((),nx,ok),l)∧
  (ok=false→nx=0∧l=[])∧(ok=true→(p:Int)≤nx∧nx≤(b.length:Int)∧l.length=many∧∀x,x∈l→0≤x∧x<2^w):=by
 intro f
 induction f using Nat.strongRecOn with
 |ind f ih=>
 intro n p o hpf hn ho hox;obtain⟨n,rfl⟩:∃x,n=x+1:=⟨n-1,by omega⟩;by_cases hmore:o.length<many
 ·have g1:=VN k (by omega) (by omega) hby p (by omega)
  have g2:=XH k (by omega) (by omega) hby p (by omega);simp only[Cb.l4,BG.l4,AX (show(o.length:Int)<(many:Int) by omega),AQ,g1,g2];cases hg:gv (b.drop p) with
  |none=>
   have hd:FP k 0 1=some 0:=by
    have:=IQ k 0 ⟨by decide,by decide⟩;rw[this,MG];rfl
   simp only[AR,hd,Dm,AQ];exact⟨_,_,_,rfl,rfl,fun _=>⟨rfl,rfl⟩,nofun⟩
  |some un=>
   obtain⟨u,c⟩:=un;obtain⟨hu,c1,c2,_,_⟩:=Vn (b.drop p) u c (fun x hx=>hby x (List.mem_of_mem_drop hx)) hg;rw[List.length_drop] at c2;have VF:=FT u;simp only[AR,IQ k u hu,Bh,AU,JZ u hu];generalize hcn:u64 u/2=cnt;have hcnt:cnt<9223372036854775808:=by omega
   cases hodd:(bits .and .i64 u 1==0) with
   |true=>
    simp only[AQ];obtain⟨x,nx,ok,r1,r2,r3⟩:=Xq k (by omega) b (by omega) hby (p+c) w (by omega) hw (fun y a=>BG.c17 k (BG.l4 k n) b (many:Int) (w:Int) a ((cnt:Nat):Int) y o);rw[r1,r2];simp only[AR];cases ok with
    |false=>
     simp only[Dm,AQ,AU];exact⟨_,_,_,rfl,rfl,fun _=>⟨rfl,rfl⟩,nofun⟩
    |true=>
     obtain⟨q1,q2,q3,q4⟩:=r3 rfl;obtain⟨q,rfl⟩:∃q:Nat,nx=q:=⟨nx.toNat,by omega⟩;have Ga:IntKind.wrap .i64 ((many:Int)-(o.length:Int))=((many-o.length:Nat):Int):=by rw[AV (by omega) (by omega)];omega
     have JR:(if IntKind.wrap .i64 ((many:Int)-(o.length:Int))<((cnt:Nat):Int) then IntKind.wrap .i64 ((many:Int)-(o.length:Int)) else((cnt:Nat):Int))=((min cnt (many-o.length):Nat):Int):=by
      rw[Ga];split<;>omega
     have i1:=LB k (Cb.l4 k n) b (many:Int) (w:Int) x (q:Int) (min cnt (many-o.length)) (by omega) (min cnt (many-o.length)) k 0 o (by omega) (by omega) (by omega);have s1:=X0 k (BG.l4 k n) b many (w:Int) x (q:Int) cnt hcnt hm (min cnt (many-o.length)) k 0 o (by omega) (by omega) (by omega) (by omega);rw[show((0:Nat):Int)=0 from rfl] at i1 s1;simp only[Bh,AQ,AU,JR,i1,BG.c17,s1]
     obtain⟨nx',ok',l',e1,e2,e3,e4⟩:=ih (b.length-q) (by omega) n q (o++List.replicate (min cnt (many-o.length)) x) (by omega) (by omega) (by simp;omega) (by
      intro y hy;rcases List.mem_append.1 hy with hy|hy
      ·exact hox y hy
      ·obtain⟨_,rfl⟩:=List.mem_replicate.1 hy
       exact⟨q3,q4⟩)
     exact⟨nx',ok',l',e1,e2,e3,fun h=>by obtain⟨a1,a2⟩:=e4 h;exact⟨by omega,a2⟩⟩
   |false=>
    simp only[AU];by_cases hbad:cnt>2000
    ·simp only[AX (show((cnt:Nat):Int)>2000 by omega),AQ,AR]
     exact⟨_,_,_,rfl,rfl,fun _=>⟨rfl,rfl⟩,nofun⟩
    ·have hcw:cnt*w≤2000*24:=Nat.mul_le_mul (by omega) hw
     have IU:IntKind.wrap .i64 (((cnt:Nat):Int)*(w:Int))=((cnt*w:Nat):Int):=by
      rw[show((cnt:Nat):Int)*(w:Int)=((cnt*w:Nat):Int) by simp,AV (by omega) (by omega)]
     have JQ:IntKind.wrap .i64 ((b.length:Int)-((p+c:Nat):Int))=((b.length-(p+c):Nat):Int):=by rw[AV (by omega) (by omega)];omega
     simp only[AY (show ¬((cnt:Nat):Int)>2000 by omega),AU,AR,IU,JQ];by_cases hfit:cnt*w≤b.length-(p+c)
     ·simp only[AY (show ¬((cnt*w:Nat):Int)>((b.length-(p+c):Nat):Int) by omega),AY (show ¬((b.length-(p+c):Nat):Int)<((cnt*w:Nat):Int) by omega),AU]
      have e8:IntKind.wrap .i64 (8*((cnt:Nat):Int))=((8*cnt:Nat):Int):=by rw[AV (by omega) (by omega)];omega
      have Ga:IntKind.wrap .i64 ((many:Int)-(o.length:Int))=((many-o.length:Nat):Int):=by rw[AV (by omega) (by omega)];omega
      have JR:(if IntKind.wrap .i64 ((many:Int)-(o.length:Int))<IntKind.wrap .i64 (8*((cnt:Nat):Int)) then IntKind.wrap .i64 ((many:Int)-(o.length:Int)) else IntKind.wrap .i64 (8*((cnt:Nat):Int)))=((min (8*cnt) (many-o.length):Nat):Int):=by
       rw[Ga,e8];split<;>omega
      have hlen:((b.drop (p+c)).take (cnt*w)).length=cnt*w:=by rw[List.length_take,List.length_drop];omega
      have hsp:b=b.take (p+c)++(leB (cnt*w) (wv ((b.drop (p+c)).take (cnt*w)))++b.drop (p+c+cnt*w)):=by
       have h3:=LJ ((b.drop (p+c)).take (cnt*w)) (fun x hx=>hby x (List.mem_of_mem_drop (List.mem_of_mem_take hx)));rw[hlen] at h3;have hdd:b.drop (p+c+cnt*w)=(b.drop (p+c)).drop (cnt*w):=by rw[List.drop_drop]
       rw[←h3,hdd,List.take_append_drop,List.take_append_drop]
      have hpl:(b.take (p+c)).length=p+c:=by rw[List.length_take];omega
      generalize wv ((b.drop (p+c)).take (cnt*w))=M at hsp;have hN:min (8*cnt) (many-o.length)*w≤8*(cnt*w):=by
       rw[←Nat.mul_assoc];exact Nat.mul_le_mul_right _ (by omega)
      have Ia:min (8*cnt) many*w≤8*(cnt*w):=by
       rw[←Nat.mul_assoc];exact Nat.mul_le_mul_right _ (by omega)
      have u1:=Iy k (b.take (p+c)) (b.drop (p+c+cnt*w)) (cnt*w) M w (min (8*cnt) (many-o.length)) (by omega) hN (by rw[hpl];omega) (by omega) (by omega) (by omega);have u2:=X8 k (by omega) (BG.l4 k n) (b.take (p+c)) (b.drop (p+c+cnt*w)) (cnt*w) M w cnt many hw (by omega) hm Ia (Nat.le_refl _) (by rw[hpl];omega) (min (8*cnt) (many-o.length)) k 0 o (by omega) (by omega) (by omega) (by omega);rw[←hsp,hpl] at u1 u2;rw[show((0:Nat):Int)=0 from rfl,←List.range_eq_range'] at u2;have IW:IntKind.wrap .i64 (((p+c:Nat):Int)+((cnt*w:Nat):Int))=((p+c+cnt*w:Nat):Int):=by rw[AV (by omega) (by omega)];omega
      rw[IU,IW] at u2;simp only[JR,u1,AR,Bc (show o.length+((List.range (min (8*cnt) (many-o.length))).map (DU w M)).length≤4294967296 by simp;omega),AQ,IW,u2]
      obtain⟨nx',ok',l',e1,e2,e3,e4⟩:=ih (b.length-(p+c+cnt*w)) (by omega) n (p+c+cnt*w) (o++(List.range (min (8*cnt) (many-o.length))).map (DU w M)) (by omega) (by omega) (by simp;omega) (by
       intro y hy;rcases List.mem_append.1 hy with hy|hy
       ·exact hox y hy
       ·obtain⟨i,_,rfl⟩:=List.mem_map.1 hy
        have hlt:M/2^(i*w)%2^w<2^w:=Nat.mod_lt _ (Nat.two_pow_pos w);have I1:2^w≤2^62:=Nat.pow_le_pow_right (by decide) (by omega);unfold DU;rw[AV (by omega) (by omega)];refine⟨by omega,?_⟩
        exact_mod_cast hlt)
      exact⟨nx',ok',l',e1,e2,e3,fun h=>by obtain⟨a1,a2⟩:=e4 h;exact⟨by omega,a2⟩⟩
     ·simp only[AX (show((cnt*w:Nat):Int)>((b.length-(p+c):Nat):Int) by omega),AX (show((b.length-(p+c):Nat):Int)<((cnt*w:Nat):Int) by omega),AQ]
      exact⟨_,_,_,rfl,rfl,fun _=>⟨rfl,rfl⟩,nofun⟩
 ·simp only[Cb.l4,BG.l4,AY (show ¬(o.length:Int)<(many:Int) by omega),AU]
  exact⟨_,_,_,rfl,rfl,nofun,fun _=>⟨by omega,by omega,by omega,hox⟩⟩
theorem Xt(hk:2000000≤k)(b:List Int)(hb:b.length≤1048576)(hby:Bq b)(at_ many w:Int):
 ∃nx ok l,Cb k b at_ many w=some (((),nx,ok),l)∧BG k b at_ many w=some (((),nx,ok),l)∧
  (ok=false→nx=0∧l=[])∧(ok=true→(0≤at_∧at_≤nx∧nx≤(b.length:Int))∧(0≤many∧many≤2000)∧(0≤w∧w≤24)∧l.length=many.toNat∧∀x,x∈l→0≤x∧x<2^w.toNat):=by
 unfold Cb BG Iw;simp only[CQ,ES,AR,cst];by_cases hc:(0≤w∧w≤24)∧(0≤many∧many≤2000)∧(0≤at_∧at_≤(b.length:Int))
 ·obtain⟨⟨w0,w1⟩,⟨m0,m1⟩,a0,a1⟩:=hc
  simp only[AX w0,AX w1,AX m0,AX m1,AX a0,AX a1,Bool.and_self,Bh,D6,AU];obtain⟨w,rfl⟩:∃m:Nat,w=m:=⟨w.toNat,by omega⟩;obtain⟨many,rfl⟩:∃m:Nat,many=m:=⟨many.toNat,by omega⟩;obtain⟨p,rfl⟩:∃m:Nat,at_=m:=⟨at_.toNat,by omega⟩;obtain⟨nx,ok,l,e1,e2,e3,e4⟩:=Xu k hk b (by omega) hby w many (by omega) (by omega) (b.length-p) k p [] (by omega) (by omega) (by simp) (fun x hx=>by cases hx);refine⟨nx,ok,l,e1,e2,e3,fun h=> ?_⟩;obtain⟨b1,b2,b3,b4⟩:=e4 h;exact⟨⟨a0,b1,b2⟩,⟨m0,m1⟩,⟨w0,w1⟩,by simp[b3],by simpa using b4⟩
 ·have:((!(decide (0≤w)&&decide (w≤24))|| !(decide (0≤many)&&decide (many≤2000)))|| !(decide (0≤at_)&&decide (at_≤(b.length:Int))))=true:=by
   by_cases a:0≤w<;>by_cases b1:w≤24<;>by_cases c:0≤many<;>by_cases d:many≤2000<;>by_cases e:0≤at_<;>by_cases g:at_≤(b.length:Int)<;>simp[a,b1,c,d,e,g]
   exact hc ⟨⟨a,b1⟩,⟨c,d⟩,e,g⟩
  simp only[this,AQ];exact⟨_,_,_,rfl,rfl,fun _=>⟨rfl,rfl⟩,nofun⟩
end Go.A9
end
section
namespace Go.A9
open Go.Am Go.Fn
attribute [-simp] List.length_flatten
variable(k:Nat)
def DW(x:Int):List Int→Nat
 |[]=>0
 |y::r=>if y=x then DW x r+1 else 0
def Bl:List Int→Nat
 |[]=>0
 |x::r=>DW x r+1
theorem KG(x:Int):∀l,DW x l≤l.length
 |[]=>Nat.le_refl _
 |y::r=>by
  have:=KG x r;unfold DW;split<;>simp<;>omega
theorem IG:∀l,Bl l≤l.length
 |[]=>Nat.le_refl _
 |x::r=>by have:=KG x r;simp[Bl];omega
theorem KH(x:Int):∀l,l.take (DW x l)=List.replicate (DW x l) x
 |[]=>by simp[DW]
 |y::r=>by
  unfold DW;split
  ·rename_i h
   subst h;rw[List.take_succ_cons,KH,List.replicate_succ]
  ·simp
theorem M8(x:Int)(r:List Int):(x::r).take (Bl (x::r))=List.replicate (Bl (x::r)) x:=by
 unfold Bl;rw[List.take_succ_cons,KH,List.replicate_succ]
def aD:Nat→List Int→Nat
 |0,_=>0
 |f+1,l=>if l≠[]∧Bl l<8 then aD f (l.drop 8)+1 else 0
def Bf(l:List Int):Nat:=aD l.length (l.drop 8)+1
theorem GV:∀(f:Nat) (l:List Int),8*aD f l<l.length+8
 |0,l=>by simp[aD]
 |f+1,l=>by
  unfold aD;split
  ·rename_i h
   have:=GV f (l.drop 8);have hp:0<l.length:=List.length_pos_iff.2 h.1;rw[List.length_drop] at this;omega
  ·omega
theorem Lh(l:List Int):8*Bf l<l.length+16:=by
 have:=GV l.length (l.drop 8);rw[List.length_drop] at this;unfold Bf;omega
def pad(m:Nat)(l:List Int):List Int:=l.take m++List.replicate (m-l.length) 0
theorem Es(m:Nat)(l:List Int):(pad m l).length=m:=by
 unfold pad;rw[A8,List.length_take,List.length_replicate];omega
theorem Mh(m n:Nat)(l:List Int)(h:m≤l.length):pad (m+n) l=pad m l++pad n (l.drop m):=by
 unfold pad;rw[show m-l.length=0 by omega,List.replicate_zero,C7,List.take_add,List.length_drop,CP,show m+n-l.length=n-(l.length-m) by omega]
def Bu(w:Nat):Nat→List Int→List Int
 |0,_=>[]
 |_+1,[]=>[]
 |f+1,x::r=>
  if 8≤Bl (x::r) then(uv ((2*Bl (x::r):Nat):Int)++leB (bytesOf 1 w) (u64 x))++Bu w f ((x::r).drop (Bl (x::r)))
  else(uv ((2*Bf (x::r)+1:Nat):Int)++Bw w (pad (8*Bf (x::r)) (x::r)))++Bu w f ((x::r).drop (8*Bf (x::r)))
theorem M7(l:List Int)(hl:l.length<1000000000)(pre:List Int)(x:Int)(r:List Int)(hp:l=pre++x::r):∀(post done:List Int) (n:Nat),r=done++post→post.length+1<n→
 En.l2 k n l (pre.length:Int) ((done.length+1:Nat):Int)=some ((done.length+1+DW x post:Nat):Int)∧Ex.l2 k n l (pre.length:Int) ((done.length+1:Nat):Int)=some ((done.length+1+DW x post:Nat):Int):=by
 have hx:gP l (pre.length:Int)=some x:=by rw[hp];exact BB pre r x
 intro post
 induction post with
 |nil=>
  intro done n hd hn;obtain⟨n,rfl⟩:∃q,n=q+1:=⟨n-1,by omega⟩;have hlen:l.length=pre.length+(done.length+1):=by rw[hp,hd];simp
  have e:IntKind.wrap .i64 ((pre.length:Int)+((done.length+1:Nat):Int))=((pre.length+(done.length+1):Nat):Int):=by rw[AV (by omega) (by omega)];omega
  simp only[En.l2,Ex.l2,e,AY (show ¬((pre.length+(done.length+1):Nat):Int)<(l.length:Int) by omega),AU,AR,DW,Nat.add_zero];exact⟨trivial,trivial⟩
 |cons y post ih=>
  intro done n hd hn;simp only[Bn] at hn;obtain⟨n,rfl⟩:∃q,n=q+1:=⟨n-1,by omega⟩;have hlen:l.length=pre.length+(done.length+1+(post.length+1)):=by rw[hp,hd];simp;omega
  have e:IntKind.wrap .i64 ((pre.length:Int)+((done.length+1:Nat):Int))=((pre.length+(done.length+1):Nat):Int):=by rw[AV (by omega) (by omega)];omega
  have e1:IntKind.wrap .i64 (((done.length+1:Nat):Int)+1)=((done.length+1+1:Nat):Int):=by rw[AV (by omega) (by omega)];omega
  have hy:gP l ((pre.length+(done.length+1):Nat):Int)=some y:=by
   have:l=(pre++x::done)++y::post:=by rw[hp,hd];simp
   have h2:=BB (pre++x::done) post y;rw[←this,show(pre++x::done).length=pre.length+(done.length+1) by simp] at h2;exact h2
  simp only[En.l2,Ex.l2,e,AX (show((pre.length+(done.length+1):Nat):Int)<(l.length:Int) by omega),AQ,hy,hx,AR,DW,e1];by_cases hxy:y=x
  ·have:=ih (done++[y]) n (by rw[hd];simp) (by omega)
   rw[A8,Bz] at this;rw[CG hxy,AQ,if_pos hxy,show done.length+1+(DW x post+1)=done.length+1+1+DW x post by omega];exact this
  ·rw[A_ hxy,AU,if_neg hxy]
   exact⟨rfl,rfl⟩
theorem HZ(l:List Int)(hl:l.length<1000000000)(hlk:l.length+2<k)(pre post:List Int)(hp:l=pre++post):En k l (pre.length:Int)=some ((Bl post:Nat):Int)∧Ex k l (pre.length:Int)=some ((Bl post:Nat):Int):=by
 unfold En Ex;obtain⟨n,rfl⟩:∃q,k=q+1:=⟨k-1,by omega⟩;cases post with
 |nil=>
  have hlen:l.length=pre.length:=by rw[hp];simp
  have e:IntKind.wrap .i64 ((pre.length:Int)+0)=(pre.length:Int):=by rw[AV (by omega) (by omega)];omega
  simp only[En.l2,Ex.l2,e,AY (show ¬(pre.length:Int)<(l.length:Int) by omega),AU,AR,Bl];exact⟨rfl,rfl⟩
 |cons x r=>
  have hlen:l.length=pre.length+(r.length+1):=by rw[hp];simp
  have hx:gP l (pre.length:Int)=some x:=by rw[hp];exact BB pre r x
  have e:IntKind.wrap .i64 ((pre.length:Int)+0)=(pre.length:Int):=by rw[AV (by omega) (by omega)];omega
  have e1:IntKind.wrap .i64 (0+1)=1:=by decide
  have h:=M7 (n+1) l hl pre x r hp r [] n (by simp) (by omega);simp only[List.length_nil,Nat.zero_add] at h;simp only[En.l2,Ex.l2,e,AX (show(pre.length:Int)<(l.length:Int) by omega),AQ,hx,AR,CG rfl,e1,Bl];rw[show DW x r+1=1+DW x r by omega];exact h
theorem VO(l:List Int)(hl:l.length≤100000)(hlk:l.length+2<k)(pre post:List Int)(hp:l=pre++post):∀(f g n:Nat),(post.drop (8*g)).length≤f→f<n→8*g≤200000→
 ER.l2 k n l (pre.length:Int) (g:Int)=some ((g+aD f (post.drop (8*g)):Nat):Int):=by
 intro f;have hlen:l.length=pre.length+post.length:=by rw[hp];simp
 induction f with
 |zero=>
  intro g n hf hn hg;obtain⟨n,rfl⟩:∃q,n=q+1:=⟨n-1,by omega⟩;rw[List.length_drop] at hf;have e1:IntKind.wrap .i64 (8*(g:Int))=((8*g:Nat):Int):=by rw[AV (by omega) (by omega)];omega
  have e2:IntKind.wrap .i64 ((pre.length:Int)+((8*g:Nat):Int))=((pre.length+8*g:Nat):Int):=by rw[AV (by omega) (by omega)];omega
  simp only[ER.l2,e1,e2,AY (show ¬((pre.length+8*g:Nat):Int)<(l.length:Int) by omega),AU,AR,aD,Nat.add_zero]
 |succ f ih=>
  intro g n hf hn hg;obtain⟨n,rfl⟩:∃q,n=q+1:=⟨n-1,by omega⟩;have e1:IntKind.wrap .i64 (8*(g:Int))=((8*g:Nat):Int):=by rw[AV (by omega) (by omega)];omega
  have e2:IntKind.wrap .i64 ((pre.length:Int)+((8*g:Nat):Int))=((pre.length+8*g:Nat):Int):=by rw[AV (by omega) (by omega)];omega
  have e3:IntKind.wrap .i64 ((g:Int)+1)=((g+1:Nat):Int):=by rw[AV (by omega) (by omega)];omega
  by_cases hm:pre.length+8*g<l.length
  ·have hsp:l=(pre++post.take (8*g))++post.drop (8*g):=by rw[CP,List.take_append_drop];exact hp
   obtain⟨a1,_⟩:=HZ k l (by omega) hlk (pre++post.take (8*g)) (post.drop (8*g)) hsp;rw[show(pre++post.take (8*g)).length=pre.length+8*g by rw[A8,List.length_take];omega] at a1;have hne:post.drop (8*g)≠[]:=fun h=>by have:=congrArg List.length h;rw[List.length_drop] at this;simp at this;omega
   have Vv:(post.drop (8*g)).drop 8=post.drop (8*(g+1)):=by rw[List.drop_drop];congr 1
   simp only[ER.l2,e1,e2,AX (show((pre.length+8*g:Nat):Int)<(l.length:Int) by omega),AQ,a1,AR,e3,aD];by_cases h8:Bl (post.drop (8*g))<8
   ·have:=ih (g+1) n (by rw[List.length_drop] at hf⊢;omega) (by omega) (by omega)
    rw[AX (show((Bl (post.drop (8*g)):Nat):Int)<8 by omega),AQ,if_pos ⟨hne,h8⟩,Vv,this]
    congr 2
    omega
   ·rw[AY (show ¬((Bl (post.drop (8*g)):Nat):Int)<8 by omega),AU,if_neg (fun h=>h8 h.2),Nat.add_zero]
  ·have hnil:post.drop (8*g)=[]:=List.eq_nil_of_length_eq_zero (by rw[List.length_drop];omega)
   simp only[ER.l2,e1,e2,AY (show ¬((pre.length+8*g:Nat):Int)<(l.length:Int) by omega),AU,AR,aD,hnil,ne_eq,not_true_eq_false,false_and,if_false,Nat.add_zero]
theorem Li:∀(f f':Nat) (l:List Int),l.length≤f→l.length≤f'→aD f l=aD f' l
 |0,f',l,h,h'=>by
  have:l=[]:=List.eq_nil_of_length_eq_zero (by omega);subst this;cases f'<;>simp[aD]
 |f+1,0,l,h,h'=>by
  have:l=[]:=List.eq_nil_of_length_eq_zero (by omega);subst this;simp[aD]
 |f+1,f'+1,l,h,h'=>by
  unfold aD;split
  ·rename_i hh
   have hp:0<l.length:=List.length_pos_iff.2 hh.1;rw[Li f f' (l.drop 8) (by rw[List.length_drop];omega) (by rw[List.length_drop];omega)]
  ·rfl
theorem Vk(l:List Int)(hl:l.length≤100000)(hlk:l.length+20<k)(pre post:List Int)(hp:l=pre++post):ER k l (pre.length:Int)=some ((Bf post:Nat):Int):=by
 have h:=VO k l hl (by omega) pre post hp post.length 1 k (by rw[List.length_drop];omega) (by rw[hp] at hlk;simp at hlk;omega) (by omega);unfold ER Bf;rw[show((1:Nat):Int)=1 from rfl,show 8*1=8 from rfl] at h;rw[h]
 congr 2
 omega
theorem Gh(w:Nat)(vs:List Int):(Bw w vs).length=bytesOf vs.length w:=Bt _ _
theorem F9(g w:Nat):bytesOf (8*g) w=g*w:=by
 unfold bytesOf;rw[Nat.mul_assoc];omega
theorem FL(w:Nat)(hw:w≤24):∀(f:Nat) (l:List Int),(Bu w f l).length≤40*l.length
 |0,l=>by simp[Bu]
 |f+1,[]=>by simp[Bu]
 |f+1,x::r=>by
  unfold Bu;have h1:=IG (x::r);have hu:=CE ((2*Bl (x::r):Nat):Int);have hv:=CE ((2*Bf (x::r)+1:Nat):Int);have hg:=Lh (x::r);split
  ·rename_i h
   have:=FL w hw f ((x::r).drop (Bl (x::r)));have hb:bytesOf 1 w≤3:=by unfold bytesOf;omega
   rw[List.length_drop] at this;rw[A8,A8,Bt];omega
  ·have:=FL w hw f ((x::r).drop (8*Bf (x::r)))
   rw[List.length_drop] at this;rw[A8,A8,Gh,Es,F9];have H_:Bf (x::r)*w≤Bf (x::r)*24:=Nat.mul_le_mul_left _ hw;have hg1:1≤Bf (x::r):=by unfold Bf;omega
   have hg2:8*Bf (x::r)<(x::r).length+8:=by
    have:=GV (x::r).length ((x::r).drop 8);rw[List.length_drop] at this;unfold Bf;simp only[Bn] at this⊢;omega
   simp only[Bn] at this hg2⊢;omega
theorem Gp(w:Nat):∀(f:Nat) (l:List Int),Bq (Bu w f l)
 |0,l=>fun x hx=>by simp[Bu] at hx
 |f+1,[]=>fun x hx=>by simp[Bu] at hx
 |f+1,x::r=>by
  unfold Bu;split
  ·exact IM (IM (FY _) (Ja _ _)) (Gp w f _)
  ·exact IM (IM (FY _) (Ja _ _)) (Gp w f _)
where IM {a b:List Int} (ha:Bq a) (hb:Bq b):Bq (a++b):=fun x hx=>(List.mem_append.1 hx).elim (ha x) (hb x)
theorem Ym(hk:100≤k)(y:Int)(w:Nat)(hw:w≤24):DJ k y ((bytesOf 1 w:Nat):Int)=some ((),leB (bytesOf 1 w) (u64 y)):=by
 have hb:bytesOf 1 w≤3:=by unfold bytesOf;omega
 rcases Nat.eq_zero_or_pos (bytesOf 1 w) with h|h
 ·rw[h]
  rfl
 ·exact(IA k hk y (bytesOf 1 w) (by omega) h).1
theorem Kn(w:Nat)(hw:w≤24):Gx k 1 (w:Int)=some ((bytesOf 1 w:Nat):Int)∧FM k 1 (w:Int)=some ((bytesOf 1 w:Nat):Int):=by
 obtain⟨z,h1,h2,hz⟩:=IJ k 1 (w:Int);rcases hz with⟨_,hn⟩|⟨_,_,_,_,hz⟩
 ·exact(hn ⟨by omega,by omega,by omega,by omega⟩).elim
 ·have:z=((bytesOf 1 w:Nat):Int):=by rw[hz];simp
  subst this;exact⟨h1,h2⟩
theorem VQ(hk:1000000≤k)(l:List Int)(hl:l.length≤2000)(w:Nat)(hw:w≤24):∀(f n p:Nat) (o:List Int),l.length-p≤f→f<n→p≤l.length→o.length+40*(l.length-p)≤1000000→
 Dj.l6 k n l (w:Int) (p:Int) o=some (((),true),o++Bu w f (l.drop p)):=by
 intro f
 induction f with
 |zero=>
  intro n p o hf hn hp ho;obtain⟨n,rfl⟩:∃q,n=q+1:=⟨n-1,by omega⟩;simp only[Dj.l6,AY (show ¬(p:Int)<(l.length:Int) by omega),AU,Bu,C7]
 |succ f ih=>
  intro n p o hf hn hp ho;obtain⟨n,rfl⟩:∃q,n=q+1:=⟨n-1,by omega⟩;by_cases hlt:p<l.length
  ·have hsp:l=l.take p++l.drop p:=(List.take_append_drop p l).symm
   have htl:(l.take p).length=p:=by rw[List.length_take];omega
   have hdl:(l.drop p).length=l.length-p:=List.length_drop;obtain⟨a1,_⟩:=HZ k l (by omega) (by omega) (l.take p) (l.drop p) hsp;have g1:=Vk k l (by omega) (by omega) (l.take p) (l.drop p) hsp;rw[htl] at a1 g1
   match hd:l.drop p with
   |[]=>rw[hd] at hdl;simp at hdl;omega
   |x::r=>
    rw[hd] at a1 g1 hdl;have hx:gP l (p:Int)=some x:=by
     have:=BB (l.take p) r x;rw[←hd,List.take_append_drop,htl] at this;exact this
    have hal:=IG (x::r);have hgl:=Lh (x::r);have hdrop:∀m,l.drop (p+m)=(x::r).drop m:=fun m=>by rw[←hd,List.drop_drop]
    simp only[Dj.l6,AX (show(p:Int)<(l.length:Int) by omega),AQ,a1,g1,AR,Bu];by_cases h8:8≤Bl (x::r)
    ·have e2:IntKind.wrap .i64 (2*((Bl (x::r):Nat):Int))=((2*Bl (x::r):Nat):Int):=by rw[AV (by omega) (by omega)];omega
     have e3:IntKind.wrap .i64 ((p:Int)+((Bl (x::r):Nat):Int))=((p+Bl (x::r):Nat):Int):=by rw[AV (by omega) (by omega)];omega
     have hu:=CE ((2*Bl (x::r):Nat):Int);have hb:bytesOf 1 w≤3:=by unfold bytesOf;omega
     rw[AX (show((Bl (x::r):Nat):Int)≥8 by omega),AQ,if_pos h8,e2,JB k (by omega)];simp only[AR];rw[Bc (by omega),AQ];unfold Dj.d10;simp only[hx,AR,(Kn k w hw).1,Ym k (by omega) x w hw];rw[Bc (by rw[A8,Bt];omega),AQ,e3];have:=ih n (p+Bl (x::r)) ((o++uv ((2*Bl (x::r):Nat):Int))++leB (bytesOf 1 w) (u64 x)) (by omega) (by omega) (by omega) (by rw[A8,A8,Bt];omega);rw[hdrop] at this;rw[this];simp
    ·have e1:IntKind.wrap .i64 (8*((Bf (x::r):Nat):Int))=((8*Bf (x::r):Nat):Int):=by rw[AV (by omega) (by omega)];omega
     have e2:IntKind.wrap .i64 (IntKind.wrap .i64 (2*((Bf (x::r):Nat):Int))+1)=((2*Bf (x::r)+1:Nat):Int):=by rw[AV (x:=2*((Bf (x::r):Nat):Int)) (by omega) (by omega),AV (by omega) (by omega)];omega
     have e3:IntKind.wrap .i64 ((p:Int)+((8*Bf (x::r):Nat):Int))=((p+8*Bf (x::r):Nat):Int):=by rw[AV (by omega) (by omega)];omega
     have hu:=CE ((2*Bf (x::r)+1:Nat):Int);have hcut:kP l (p:Int) (l.length:Int)=x::r:=by
      unfold kP;rw[Int.toNat_natCast,Int.toNat_natCast,List.take_length,hd]
     have J3:List.take (List.replicate (8*Bf (x::r)) (0:Int)).length (x::r)++List.drop (x::r).length (List.replicate (8*Bf (x::r)) (0:Int))=pad (8*Bf (x::r)) (x::r):=by
      unfold pad;rw[List.length_replicate,List.drop_replicate]
     have hpk:=Ji k (pad (8*Bf (x::r)) (x::r)) w (by omega) (by rw[Es];omega) (by rw[Es];omega) (by omega);have H_:Bf (x::r)*w≤Bf (x::r)*24:=Nat.mul_le_mul_left _ hw;have hg2:8*Bf (x::r)<(x::r).length+8:=by
      have:=GV (x::r).length ((x::r).drop 8);rw[List.length_drop] at this;unfold Bf;simp only[Bn] at this⊢;omega
     have hg1:1≤Bf (x::r):=by unfold Bf;omega
     rw[AY (show ¬((Bl (x::r):Nat):Int)≥8 by omega),AU,if_neg h8,e1,Gg (by omega) (by omega),AQ,FF (by omega) (by omega) (by omega),AQ,e2,JB k (by omega)];simp only[AR];rw[Bc (by omega),AQ,hcut,Int.toNat_natCast,J3,hpk];simp only[AR];rw[Bc (by rw[A8,Gh,Es,F9];omega),AQ,e3];have hmin:(if(l.length:Int)<((p+8*Bf (x::r):Nat):Int) then(l.length:Int) else((p+8*Bf (x::r):Nat):Int))=((min (p+8*Bf (x::r)) l.length:Nat):Int):=by split<;>omega
     rw[hmin];have:=ih n (min (p+8*Bf (x::r)) l.length) ((o++uv ((2*Bf (x::r)+1:Nat):Int))++Bw w (pad (8*Bf (x::r)) (x::r))) (by omega) (by omega) (by omega) (by rw[A8,A8,Gh,Es,F9];omega);have tQ:l.drop (min (p+8*Bf (x::r)) l.length)=(x::r).drop (8*Bf (x::r)):=by
      by_cases hc:p+8*Bf (x::r)≤l.length
      ·rw[Nat.min_eq_left hc,hdrop]
      ·rw[Nat.min_eq_right (by omega),List.drop_length,List.drop_of_length_le (by omega)]
     rw[tQ] at this;rw[this];simp
  ·have:p=l.length:=by omega
   subst this;simp only[Dj.l6,AY (show ¬(l.length:Int)<(l.length:Int) by omega),AU,List.drop_length,Bu,C7]
end Go.A9
end
section
namespace Go.A9
open Go.Am Go.Fn
variable(k:Nat)
theorem K8(v:Int):FP k v 7=some ((u64 v/128:Nat):Int):=by
 unfold FP;rw[A_ (by decide),AU,AX (by decide),AQ,show IntKind.wrap .i64 (64-7)=57 by decide,AX (by decide),AQ];have h1:qW .i64 v 7=v/128:=ED .i64 v 7 (by decide);have h2:IntKind.wrap .i64 (qV .i64 1 57-1)=2^57-1:=by decide
 rw[h1,h2,H6 _ 57 (by decide)]
 congr 1
 have:=E9 v;omega
theorem Xf:∀(f n:Nat) (v:Int) (acc:List Int),Be v→u64 v<128^(f+1)→f<n→acc.length+f≤4294967000→DR.l2 k n v acc=some ((),acc++BQ f (u64 v)):=by
 intro f
 induction f with
 |zero=>
  intro n v acc hv h hn hl;obtain⟨n,rfl⟩:∃m,n=m+1:=⟨n-1,by omega⟩;have h:u64 v<128:=by simpa using h
  have hc:=E9 v;obtain⟨v0,v1⟩:=hv;simp only[DR.l2,K8,AR];rw[Fz (by omega),AU,Bc (by simp;omega),AQ,w8 (by omega) (by omega)];have hvu:(u64 v:Int)=v:=by omega
  simp only[BQ,hvu]
 |succ f ih=>
  intro n v acc hv h hn hl;obtain⟨n,rfl⟩:∃m,n=m+1:=⟨n-1,by omega⟩;have hc:=E9 v;have hlt:=FT v;obtain⟨v0,v1⟩:=hv;simp only[DR.l2,K8,AR];by_cases ht:127<u64 v
  ·have ha:bits .and .i64 v 127=v%128:=H6 v 7 (by decide)
   have h':u64 v/128<128^(f+1):=by rw[Nat.pow_succ] at h;exact Nat.div_lt_of_lt_mul (by rw[Nat.mul_comm];exact h)
   have I4:u64 ((u64 v/128:Nat):Int)=u64 v/128:=by have:=Kt (v:=((u64 v/128:Nat):Int)) (by omega) (by omega);omega
   have hi:=ih n ((u64 v/128:Nat):Int) (acc++[((u64 v%128+128:Nat):Int)]) ⟨by omega,by omega⟩ (by rw[I4];exact h') (by omega) (by simp;omega);rw[I4] at hi;have hb:IntKind.wrap .u8 (IntKind.wrap .i64 (bits .and .i64 v 127+128))=((u64 v%128+128:Nat):Int):=by
    rw[ha,AV (by omega) (by omega),w8 (by omega) (by omega)];omega
   rw[hb,F8 (by omega),AQ,Bc (by simp;omega),AQ,hi];simp only[BQ,if_pos ht,CP];rfl
  ·rw[Fz (by omega),AU,Bc (by simp;omega),AQ,w8 (by omega) (by omega)]
   simp only[BQ,if_neg ht]
   congr 4
   omega
theorem Hr(hk:100≤k)(x:Int)(hx:Be x):DR k x=some ((),uv x):=by
 unfold DR;have:=Xf k 9 k x [] hx (by have:=FT x;omega) (by omega) (by simp);rw[this];rfl
theorem ME(hk:100≤k)(x:Int)(hx:Be x):Ip k x=some ((),uv (zig x)):=by
 have hz:Js k x=some (zig x):=by
  unfold Js zig;have e:qV .i64 x 1=IntKind.wrap .i64 (x*2):=by
   unfold qV;simp[IntKind.bits]
  rw[e];by_cases h:x<0
  ·rw[AX h,AQ,if_neg (by omega)]
   congr 1
   have hc:∀a b:Int,bits .xor .i64 a b=bits .xor .i64 b a:=fun a b=>by simp only[bits,BitVec.xor_comm]
   rw[hc,KD _ (F4 _) (F3 _)]
  ·rw[AY h,AU,if_pos (by omega)]
 unfold Ip;rw[hz];simp only[AR,Hr k hk _ (show Be (zig x) from KE x)]
end Go.A9
end
section
namespace Go.A9
open Go.Am Go.Fn
variable(k:Nat)
end Go.A9
end
section
namespace Go.A9
open Go.Am Go.Fn
attribute [-simp] List.length_flatten
variable(k:Nat)
theorem WU(j:Nat)(l:List Int):pad (j+1) l=pad j l++[l[j]?.getD 0]:=by
 by_cases h:j<l.length
 ·rw[Mh j 1 l (by omega)]
  congr 1
  unfold pad;rw[List.length_drop,show 1-(l.length-j)=0 by omega,List.replicate_zero,C7];rw[List.take_one,List.head?_drop,Ef h];rfl
 ·unfold pad
  rw[List.take_of_length_le (by omega),List.take_of_length_le (by omega),List.getElem?_eq_none (by omega),show j+1-l.length=j-l.length+1 by omega,List.replicate_succ',CP];rfl
abbrev JE:=(Unit×Bool)×List Int
theorem Mm(F5:(List Int)→Int→Int→(List Int)→(List Int)→Option JE)(l:List Int)(hl:l.length≤2000)(w:Int)(p:Nat)(hp:p≤3000)(o B:List Int)(hB:B.length≤100000):∀(d n j:Nat),j+d=8→d<n→
 Bb.Cr k F5 n l w (p:Int) (j:Int) o (B++pad j (l.drop p))=F5 l w ((p+8:Nat):Int) o (B++pad 8 (l.drop p)):=by
 intro d
 induction d with
 |zero=>
  intro n j hj hn;obtain⟨n,rfl⟩:∃q,n=q+1:=⟨n-1,by omega⟩;obtain rfl:j=8:=by omega
  have e:IntKind.wrap .i64 ((p:Int)+8)=((p+8:Nat):Int):=by rw[AV (by omega) (by omega)];omega
  simp only[Bb.Cr,AY (show ¬((8:Nat):Int)<8 by omega),AU,e]
 |succ d ih=>
  intro n j hj hn;obtain⟨n,rfl⟩:∃q,n=q+1:=⟨n-1,by omega⟩;have e:IntKind.wrap .i64 ((p:Int)+(j:Int))=((p+j:Nat):Int):=by rw[AV (by omega) (by omega)];omega
  have e1:IntKind.wrap .i64 ((j:Int)+1)=((j+1:Nat):Int):=by rw[AV (by omega) (by omega)];omega
  have hi:=ih n (j+1) (by omega) (by omega);rw[WU,←CP] at hi;have hlen:(B++pad j (l.drop p)).length=B.length+j:=by rw[A8,Es]
  have step:∀x,x=(l.drop p)[j]?.getD 0→Bb.H7 k (Bb.Cr k F5 n) l w (p:Int) (j:Int) x o (B++pad j (l.drop p))=F5 l w ((p+8:Nat):Int) o (B++pad 8 (l.drop p)):=by
   intro x hx;subst hx;unfold Bb.H7;rw[Bc (by rw[hlen];simp;omega),AQ,e1];exact hi
  simp only[Bb.Cr,AX (show(j:Int)<8 by omega),AQ,e];by_cases h:p+j<l.length
  ·rw[AX (show((p+j:Nat):Int)<(l.length:Int) by omega),AQ,Dc,Ef h]
   simp only[AR];exact step _ (by rw[List.getElem?_drop,Ef h];rfl)
  ·rw[AY (show ¬((p+j:Nat):Int)<(l.length:Int) by omega),AU]
   exact step _ (by rw[List.getElem?_drop,List.getElem?_eq_none (by omega)];rfl)
theorem Vl(hk:1000000≤k)(Eb:(List Int)→Int→Int→(List Int)→Option JE)(l:List Int)(hl:l.length≤2000)(w:Nat)(hw:w≤24)(p:Nat)(hp:p<l.length)(o:List Int)(ho:o.length≤900000):∀(f g n:Nat),(l.drop (p+8*g)).length≤f→f<n→1≤g→p+8*g≤l.length+8→
 Bb.CZ k Eb n l (w:Int) ((p+8*g:Nat):Int) o (pad (8*g) (l.drop p))=
  Eb l (w:Int) ((p+8*(g+aD f (l.drop (p+8*g))):Nat):Int) ((o++uv ((2*(g+aD f (l.drop (p+8*g)))+1:Nat):Int))++Bw w (pad (8*(g+aD f (l.drop (p+8*g)))) (l.drop p))):=by
 have fin:∀(g n:Nat),1≤g→p+8*g≤l.length+8→(p+8*g<l.length→¬Bl (l.drop (p+8*g))<8)→Bb.CZ k Eb (n+1) l (w:Int) ((p+8*g:Nat):Int) o (pad (8*g) (l.drop p))=
  Eb l (w:Int) ((p+8*g:Nat):Int) ((o++uv ((2*g+1:Nat):Int))++Bw w (pad (8*g) (l.drop p))):=by
  intro g n hg1 hg hstop;have hpl:(pad (8*g) (l.drop p)).length=8*g:=Es _ _;have et:IntKind.wrap .i64 (Int.tdiv ((pad (8*g) (l.drop p)).length:Int) 8)=(g:Int):=by
   rw[hpl,Jy (by omega),AV (by omega) (by omega)];omega
  have e2:IntKind.wrap .i64 (IntKind.wrap .i64 (2*(g:Int))+1)=((2*g+1:Nat):Int):=by rw[AV (x:=2*(g:Int)) (by omega) (by omega),AV (by omega) (by omega)];omega
  have hu:=CE ((2*g+1:Nat):Int);have hgw:g*w≤g*24:=Nat.mul_le_mul_left _ hw
  have go:∀c,c=false→(cond c (Bb.Cr k (Bb.CZ k Eb n) k l (w:Int) ((p+8*g:Nat):Int) 0 o (pad (8*g) (l.drop p)))
   ((DR k (IntKind.wrap .i64 ((IntKind.wrap .i64 (2*(IntKind.wrap .i64 (Int.tdiv ((pad (8*g) (l.drop p)).length:Int) 8))))+1))).bind fun r5=>
    cond (lim (List.length o+List.length r5.2)) (
    (Cm k (pad (8*g) (l.drop p)) (w:Int)).bind fun r6=>cond (lim (List.length (o++r5.2)+List.length r6.2)) (Eb l (w:Int) ((p+8*g:Nat):Int) ((o++r5.2)++r6.2)) none) none))=Eb l (w:Int) ((p+8*g:Nat):Int) ((o++uv ((2*g+1:Nat):Int))++Bw w (pad (8*g) (l.drop p))):=by
   intro c hc;subst hc;rw[AU,et,e2,Hr k (by omega) _ ⟨by omega,by omega⟩];simp only[AR];rw[Bc (by omega),AQ,VZ k _ w (by omega) (by rw[hpl];omega) (by rw[hpl];omega) (by omega)];simp only[AR];rw[Bc (by rw[A8,Gh,hpl,F9];omega),AQ]
  simp only[Bb.CZ];by_cases hlt:p+8*g<l.length
  ·have hsp:l=l.take (p+8*g)++l.drop (p+8*g):=(List.take_append_drop _ l).symm
   obtain⟨_,a2⟩:=HZ k l (by omega) (by omega) _ _ hsp;rw[show(l.take (p+8*g)).length=p+8*g by rw[List.length_take];omega] at a2;rw[AX (show((p+8*g:Nat):Int)<(l.length:Int) by omega),AQ,a2,A_ (show ¬((pad (8*g) (l.drop p)).length:Int)=0 by rw[hpl];omega),AU];simp only[AR];exact go _ (AY (by have:=hstop hlt;omega))
  ·rw[AY (show ¬((p+8*g:Nat):Int)<(l.length:Int) by omega),AU]
   simp only[AR];exact go _ rfl
 intro f
 induction f with
 |zero=>
  intro g n hf hn hg1 hg;obtain⟨n,rfl⟩:∃q,n=q+1:=⟨n-1,by omega⟩;rw[List.length_drop] at hf;simp only[aD,Nat.add_zero];exact fin g n hg1 hg (fun h=>by omega)
 |succ f ih=>
  intro g n hf hn hg1 hg;obtain⟨n,rfl⟩:∃q,n=q+1:=⟨n-1,by omega⟩;by_cases hc:l.drop (p+8*g)≠[]∧Bl (l.drop (p+8*g))<8
  ·have hlt:p+8*g<l.length:=by
    have:=List.length_pos_iff.2 hc.1;rw[List.length_drop] at this;omega
   have hpl:(pad (8*g) (l.drop p)).length=8*g:=Es _ _;have hsp:l=l.take (p+8*g)++l.drop (p+8*g):=(List.take_append_drop _ l).symm;obtain⟨_,a2⟩:=HZ k l (by omega) (by omega) _ _ hsp;rw[show(l.take (p+8*g)).length=p+8*g by rw[List.length_take];omega] at a2;have hb:=Mm k (Bb.CZ k Eb n) l hl (w:Int) (p+8*g) (by omega) o (pad (8*g) (l.drop p)) (by rw[hpl];omega) 8 k 0 (by omega) (by omega);have hp0:pad 0 (l.drop (p+8*g))=[]:=by unfold pad;simp
   rw[hp0,C7,show((0:Nat):Int)=0 from rfl] at hb;have J3:pad (8*g) (l.drop p)++pad 8 (l.drop (p+8*g))=pad (8*(g+1)) (l.drop p):=by
    have:=Mh (8*g) 8 (l.drop p) (by rw[List.length_drop];omega);rw[List.drop_drop] at this;rw[show 8*(g+1)=8*g+8 by omega,this]
   have hi:=ih (g+1) n (by rw[List.length_drop] at hf⊢;omega) (by omega) (by omega) (by omega);rw[show p+8*(g+1)=p+8*g+8 by omega] at hi;simp only[Bb.CZ,aD];rw[if_pos hc,AX (show((p+8*g:Nat):Int)<(l.length:Int) by omega),AQ,a2,A_ (show ¬((pad (8*g) (l.drop p)).length:Int)=0 by rw[hpl];omega),AU];simp only[AR,AX (show((Bl (l.drop (p+8*g)):Nat):Int)<8 by omega),AQ];rw[hb,J3,hi,List.drop_drop,show g+1+aD f (l.drop (p+8*g+8))=g+(aD f (l.drop (p+8*g+8))+1) by omega]
  ·have:aD (f+1) (l.drop (p+8*g))=0:=by unfold aD;rw[if_neg hc]
   rw[this,Nat.add_zero];exact fin g n hg1 hg (fun h ha=>hc ⟨fun hn=>by have:=congrArg List.length hn;rw[List.length_drop] at this;simp at this;omega,ha⟩)
theorem Ya(hk:100≤k)(y:Int)(w:Nat)(hw:w≤24)(h0:0<w):Dy k y ((bytesOf 1 w:Nat):Int)=some ((),leB (bytesOf 1 w) (u64 y)):=
 (IA k hk y (bytesOf 1 w) (by unfold bytesOf;omega) (by unfold bytesOf;omega)).2
theorem X3(hk:1000000≤k)(l:List Int)(hl:l.length≤2000)(w:Nat)(hw:w≤24):∀(f n p:Nat) (o:List Int),l.length-p≤f→f<n→p≤l.length+8→o.length+40*(l.length-p)≤800000→
 Bb.l10 k n l (w:Int) (p:Int) o=some (((),true),o++Bu w f (l.drop p)):=by
 intro f
 induction f with
 |zero=>
  intro n p o hf hn hp ho;obtain⟨n,rfl⟩:∃q,n=q+1:=⟨n-1,by omega⟩;simp only[Bb.l10,AY (show ¬(p:Int)<(l.length:Int) by omega),AU,Bu,C7]
 |succ f ih=>
  intro n p o hf hn hp ho;obtain⟨n,rfl⟩:∃q,n=q+1:=⟨n-1,by omega⟩;by_cases hlt:p<l.length
  ·have hsp:l=l.take p++l.drop p:=(List.take_append_drop p l).symm
   have htl:(l.take p).length=p:=by rw[List.length_take];omega
   have hdl:(l.drop p).length=l.length-p:=List.length_drop;obtain⟨_,a1⟩:=HZ k l (by omega) (by omega) (l.take p) (l.drop p) hsp;rw[htl] at a1
   match hd:l.drop p with
   |[]=>rw[hd] at hdl;simp at hdl;omega
   |x::r=>
    rw[hd] at a1 hdl;have hx:gP l (p:Int)=some x:=by
     have:=BB (l.take p) r x;rw[←hd,List.take_append_drop,htl] at this;exact this
    have hal:=IG (x::r);have hdrop:∀m,l.drop (p+m)=(x::r).drop m:=fun m=>by rw[←hd,List.drop_drop]
    simp only[Bb.l10,AX (show(p:Int)<(l.length:Int) by omega),AQ,a1,AR,Bu];by_cases h8:8≤Bl (x::r)
    ·have e2:IntKind.wrap .i64 (2*((Bl (x::r):Nat):Int))=((2*Bl (x::r):Nat):Int):=by rw[AV (by omega) (by omega)];omega
     have e3:IntKind.wrap .i64 ((p:Int)+((Bl (x::r):Nat):Int))=((p+Bl (x::r):Nat):Int):=by rw[AV (by omega) (by omega)];omega
     have hu:=CE ((2*Bl (x::r):Nat):Int);have hb:bytesOf 1 w≤3:=by unfold bytesOf;omega
     rw[AX (show((Bl (x::r):Nat):Int)≥8 by omega),AQ,if_pos h8,e2,Hr k (by omega) _ ⟨by omega,by omega⟩];simp only[AR];rw[Bc (by omega),AQ];have:=ih n (p+Bl (x::r)) ((o++uv ((2*Bl (x::r):Nat):Int))++leB (bytesOf 1 w) (u64 x)) (by omega) (by omega) (by omega) (by rw[A8,A8,Bt];omega);rw[hdrop] at this;rcases Nat.eq_zero_or_pos w with hw0|hw0
     ·have hnil:leB (bytesOf 1 w) (u64 x)=[]:=List.eq_nil_of_length_eq_zero (by rw[Bt,hw0];rfl)
      rw[AY (show ¬(w:Int)>0 by omega),AU];unfold Bb.c16;rw[hnil,C7] at this;rw[e3,this,hnil];simp
     ·rw[AX (show(w:Int)>0 by omega),AQ]
      unfold Bb.d15;simp only[hx,AR,(Kn k w hw).2,Ya k (by omega) x w hw hw0];rw[Bc (by rw[A8,Bt];omega),AQ];unfold Bb.c16;rw[e3,this];simp
    ·have hb:=Mm k (Bb.CZ k (Bb.l10 k n) (k-1)) l hl (w:Int) p (by omega) o [] (by simp) 8 k 0 (by omega) (by omega)
     have hp0:pad 0 (l.drop p)=[]:=by unfold pad;simp
     rw[hp0,C7,show((0:Nat):Int)=0 from rfl,List.nil_append] at hb;have hg:=Vl k hk (Bb.l10 k n) l hl w hw p hlt o (by omega) l.length 1 (k-1) (by rw[List.length_drop];omega) (by omega) (by omega) (by omega);have hgr:1+aD l.length (l.drop (p+8*1))=Bf (x::r):=by
      unfold Bf;rw[hdrop,Nat.mul_one,Li l.length (x::r).length ((x::r).drop 8) (by rw[List.length_drop];omega) (by rw[List.length_drop];omega)];omega
     rw[hgr,Nat.mul_one,hd] at hg;have hu:=CE ((2*Bf (x::r)+1:Nat):Int);have H_:Bf (x::r)*w≤Bf (x::r)*24:=Nat.mul_le_mul_left _ hw;have hg2:8*Bf (x::r)<(x::r).length+8:=by
      have:=GV (x::r).length ((x::r).drop 8);rw[List.length_drop] at this;unfold Bf;simp only[Bn] at this⊢;omega
     have hg1:1≤Bf (x::r):=by unfold Bf;omega
     have hih:=ih n (p+8*Bf (x::r)) ((o++uv ((2*Bf (x::r)+1:Nat):Int))++Bw w (pad (8*Bf (x::r)) (x::r))) (by omega) (by omega) (by omega) (by rw[A8,A8,Gh,Es,F9];omega);rw[hdrop] at hih;rw[AY (show ¬((Bl (x::r):Nat):Int)≥8 by omega),AU,if_neg h8];obtain⟨K,hK⟩:∃q,k=q+1:=⟨k-1,by omega⟩;have hkk:Bb.CZ k (Bb.l10 k n) k l (w:Int) (p:Int) o []=Bb.Cr k (Bb.CZ k (Bb.l10 k n) (k-1)) k l (w:Int) (p:Int) 0 o []:=by
      have:∀m,Bb.CZ k (Bb.l10 k n) (m+1) l (w:Int) (p:Int) o []=Bb.Cr k (Bb.CZ k (Bb.l10 k n) m) k l (w:Int) (p:Int) 0 o []:=by
       intro m;simp only[Bb.CZ,AX (show(p:Int)<(l.length:Int) by omega),AQ,List.length_nil,show(((0:Nat):Int)==0)=true from rfl,AR]
      have h:=this (k-1)
      rwa [show k-1+1=k by omega] at h
     rw[hkk,hb,hd,hg,hih];simp
  ·have hnil:l.drop p=[]:=List.drop_of_length_le (by omega)
   simp only[Bb.l10,AY (show ¬(p:Int)<(l.length:Int) by omega),AU,hnil,Bu,C7]
end Go.A9
end
section
namespace Go.A9
open Go.Am Go.Fn
attribute [-simp] List.length_flatten
theorem We(L M:Nat):leB (L+1) M=((M%256:Nat):Int)::leB L (M/256):=by
 unfold leB;rw[List.range_succ_eq_map,List.map_cons,List.map_map]
 congr 1
 ·simp
 ·apply List.map_congr_left
  intro i _;simp only[Function.comp_apply];rw[Nat.pow_succ',Nat.div_div_eq_div_mul]
theorem MO:∀(L M:Nat),wv (leB L M)=M%256^L
 |0,M=>by simp[leB,wv,Nat.mod_one]
 |L+1,M=>by
  rw[We,wv,MO L (M/256),Int.toNat_natCast,Nat.pow_succ',Nat.mod_mul]
variable(k:Nat)
theorem IC(hk:100≤k)(pre post:List Int)(n M:Nat)(hn:n≤8)(h1:1≤n)(hl:pre.length+post.length<1000000000000)(hb1:Bq pre)(hb2:Bq post):
 DY k (pre++(leB n M++post)) (pre.length:Int) (n:Int)=some (IntKind.wrap .i64 ((M%256^n:Nat):Int),((pre.length+n:Nat):Int),true):=by
 have hby:Bq (pre++(leB n M++post)):=by
  intro x hx;rcases List.mem_append.1 hx with hx|hx
  ·exact hb1 x hx
  ·rcases List.mem_append.1 hx with hx|hx
   ·exact Ja _ _ x hx
   ·exact hb2 x hx
 have hlen:(pre++(leB n M++post)).length=pre.length+(n+post.length):=by simp[Bt]
 obtain⟨_,l2⟩:=ML k (pre++(leB n M++post)) pre.length n hn (by omega) (by omega) hby n k 0 0 (by omega) (by omega) (by simp);rw[show IntKind.wrap .i64 ((0:Nat):Int)=0 by decide,show((0:Nat):Int)=0 from rfl] at l2;simp only[Nat.zero_add,Nat.add_zero,Nat.mul_zero,Nat.pow_zero,Nat.mul_one] at l2;rw[List.drop_left' rfl,List.take_left' (Bt n M),MO] at l2;have hr:(decide ((1:Int)≤(n:Int))&&decide ((n:Int)≤8))=true:=by simp;omega
 have e1:IntKind.wrap .i64 (((pre++(leB n M++post)).length:Int)-(n:Int))=((pre++(leB n M++post)).length:Int)-n:=AV (by omega) (by omega);unfold DY;simp only[CQ,hr,AR,Bh,AU,cst,EU,e1,AY (show ¬(pre.length:Int)<0 by omega),AY (show ¬(pre.length:Int)>((pre++(leB n M++post)).length:Int)-n by omega),D6];exact l2
theorem CJ{a b:List Int}(ha:Bq a)(hb:Bq b):Bq (a++b):=fun x hx=>(List.mem_append.1 hx).elim (ha x) (hb x)
theorem F_(n M:Nat):Bq (leB n M):=Ja n M
theorem JJ(s:ByteArray):Bq (fH s):=by
 intro x hx;unfold fH at hx;obtain⟨c,_,rfl⟩:=List.mem_map.1 hx;have:=UInt8.toNat_lt c;omega
theorem KU(t:Int)(v:AP):Bq (BA t v):=by
 unfold BA;split
 ·exact CJ (F_ _ _) (JJ _)
 ·split<;>exact F_ _ _
theorem KV(t:Int)(l:List AP):Bq (Cf t l):=by
 unfold Cf;split
 ·exact F_ _ _
 ·intro x hx
  obtain⟨y,hy,hx⟩:=List.mem_flatten.1 hx;obtain⟨v,_,rfl⟩:=List.mem_map.1 hy;exact KU t v x hx
theorem Gr{v w:AP}(h1:v.1=w.1)(h2:v.2.1=w.2.1):v=w:=Prod.ext h1 (Prod.ext h2 rfl)
theorem W9(hk:100≤k)(t:Int)(ht:t=1∨t=2∨t=5∨t=6)(v:AP)(hv:BV t v=true)(hi:Be v.1)(pre post:List Int)(hl:pre.length+post.length<100000000000)(hb1:Bq pre)(hb2:Bq post):
 G9 k t (pre++(BA t v++post)) (pre.length:Int)=some (v,((pre.length+(BA t v).length:Nat):Int),true):=by
 unfold G9;rcases(show t=1∨(t=2∨t=5)∨t=6 by omega) with rfl|EM|rfl
 ·have hc: -2147483648≤v.1∧v.1≤2147483647∧v.2.1=⟨#[]⟩:=by
   rcases EH hv with⟨h,_⟩|⟨_,h⟩|⟨h|h,_⟩|⟨h,_⟩<;>first|exact h|omega
  have e:BA 1 v=leB 4 (u64 v.1):=by unfold BA;rw[if_neg (by decide),if_pos rfl]
  have hw:=IC k hk pre post 4 (u64 v.1) (by omega) (by omega) (by omega) hb1 hb2;rw[show((4:Nat):Int)=4 from rfl] at hw;rw[e];simp only[show((1:Int) !=6)=true from rfl,AQ,CV,show((1:Int)==1)=true from rfl,AR,hw,FE,show((4:Int)==4)=true from rfl,Bt];have hm:((u64 v.1%256^4:Nat):Int)=v.1%4294967296:=by
   unfold u64;omega
  congr 2
  refine Gr ?_ hc.2.2.symm;show IntKind.wrap .i64 (IntKind.wrap .i32 (IntKind.wrap .i64 ((u64 v.1%256^4:Nat):Int)))=v.1;rw[hm,AV (x:=v.1%4294967296) (by omega) (by omega)];have:IntKind.wrap .i32 (v.1%4294967296)=v.1:=by
   have h2:v.1%4294967296%2^32=v.1%4294967296:=Int.emod_eq_of_lt (by omega) (by omega);simp only[IntKind.wrap,IntKind.bits,IntKind.signed,h2,Et,Cz];by_cases h:v.1%4294967296≥2^(32-1)
   ·rw[if_pos h];omega
   ·rw[if_neg h];omega
  rw[this];exact AV (by omega) (by omega)
 ·have hc:v.2.1=⟨#[]⟩:=by
   rcases EH hv with⟨h,_⟩|⟨h,_⟩|⟨_,h⟩|⟨h,_⟩<;>first|exact h|omega
  have e:BA t v=leB 8 (u64 v.1):=by unfold BA;rw[if_neg (by omega),if_neg (by omega)]
  have hw:=IC k hk pre post 8 (u64 v.1) (by omega) (by omega) (by omega) hb1 hb2;rw[show((8:Nat):Int)=8 from rfl] at hw;have e6:(t !=6)=true:=by rcases EM with rfl|rfl<;>rfl
  have ew:CV k t=some 8:=by rcases EM with rfl|rfl<;>rfl
  rw[e];simp only[e6,AQ,ew,AR,hw,FE,show((8:Int)==4)=false from rfl,AU,Bt];have hm:u64 v.1%256^8=u64 v.1:=Nat.mod_eq_of_lt (by have:=FT v.1;omega);rw[hm,wrap_u64 hi]
  congr 2
  exact Gr rfl hc.symm
 ·have hc:v.1=0∧v.2.1.size≤40:=by
   rcases EH hv with⟨h,_⟩|⟨h,_⟩|⟨h|h,_⟩|⟨_,h⟩<;>first|exact h|omega
  have e:BA 6 v=leB 4 (u64 (v.2.1.size:Int))++fH v.2.1:=by unfold BA;rw[if_pos rfl]
  have hw:=IC k hk pre (fH v.2.1++post) 4 (u64 (v.2.1.size:Int)) (by omega) (by omega) (by rw[A8,vR];omega) hb1 (CJ (JJ _) hb2);rw[show((4:Nat):Int)=4 from rfl] at hw;have hm:IntKind.wrap .i64 ((u64 (v.2.1.size:Int)%256^4:Nat):Int)=(v.2.1.size:Int):=by
   have:u64 (v.2.1.size:Int)=v.2.1.size:=by unfold u64;omega
   rw[this,Nat.mod_eq_of_lt (by omega)];exact AV (by omega) (by omega)
  rw[hm] at hw;rw[e,CP];have hlen:(pre++(leB 4 (u64 (v.2.1.size:Int))++(fH v.2.1++post))).length=pre.length+(4+(v.2.1.size+post.length)):=by simp[Bt,vR]
  have e1:IntKind.wrap .i64 (((pre.length+(4+(v.2.1.size+post.length)):Nat):Int)-((pre.length+4:Nat):Int))=((v.2.1.size+post.length:Nat):Int):=by rw[AV (by omega) (by omega)];omega
  have e2:IntKind.wrap .i64 (((pre.length+4:Nat):Int)+(v.2.1.size:Int))=((pre.length+4+v.2.1.size:Nat):Int):=by rw[AV (by omega) (by omega)];omega
  simp only[show((6:Int) !=6)=false from rfl,AU,hw,AR,cst,Bh,EU,hlen,e1,e2,AY (show ¬(v.2.1.size:Int)>40 by omega),AY (show ¬(v.2.1.size:Int)>((v.2.1.size+post.length:Nat):Int) by omega),D6,FF (show(0:Int)≤((pre.length+4:Nat):Int) by omega) (show((pre.length+4:Nat):Int)≤((pre.length+4+v.2.1.size:Nat):Int) by omega) (show((pre.length+4+v.2.1.size:Nat):Int)≤((pre.length+(4+(v.2.1.size+post.length)):Nat):Int) by omega),AQ];have hcut:kP (pre++(leB 4 (u64 (v.2.1.size:Int))++(fH v.2.1++post))) ((pre.length+4:Nat):Int) ((pre.length+4+v.2.1.size:Nat):Int)=fH v.2.1:=by
   unfold kP;rw[Int.toNat_natCast,Int.toNat_natCast,List.drop_take,show pre.length+4+v.2.1.size-(pre.length+4)=v.2.1.size by omega];rw[show pre++(leB 4 (u64 (v.2.1.size:Int))++(fH v.2.1++post))=(pre++leB 4 (u64 (v.2.1.size:Int)))++(fH v.2.1++post) by simp];rw[List.drop_left' (by simp[Bt]),List.take_left' (vR _)]
  rw[hcut,LA]
  congr 2
  ·exact Gr hc.1.symm rfl
  ·rw[A8,Bt,vR]
   congr 1
   omega
theorem Xp(hk:100≤k)(t:Int)(ht:t=1∨t=2∨t=5∨t=6)(l:List AP)(hl:l.length≤2000)(hv:∀v,v∈l→BV t v=true∧Be v.1)(pre post:List Int)(hl2:pre.length+post.length<1000000000)(hb1:Bq pre)(hb2:Bq post):
 ∀(q p:List AP) (n:Nat),l=p++q→q.length<n→
 DF.l8 k n t (pre++((l.map (BA t)).flatten++post)) ((pre.length+((p.map (BA t)).flatten).length:Nat):Int) (l.length:Int) (p.length:Int) p=some (((),((pre.length+((l.map (BA t)).flatten).length:Nat):Int),true),l):=by
 have hlen:∀q:List AP,(∀v,v∈q→BV t v=true)→((q.map (BA t)).flatten).length≤44*q.length:=by
  intro q
  induction q with
  |nil=>intro _;simp
  |cons v q ih=>
   intro h;have:=ih (fun x hx=>h x (by simp[hx]));have:=Jk (h v (by simp));rw[List.map_cons,List.flatten_cons,A8,Bn];omega
 have hby:∀q:List AP,Bq ((q.map (BA t)).flatten):=by
  intro q x hx;obtain⟨y,hy,hx⟩:=List.mem_flatten.1 hx;obtain⟨v,_,rfl⟩:=List.mem_map.1 hy;exact KU t v x hx
 intro q
 induction q with
 |nil=>
  intro p n hp hn;obtain⟨n,rfl⟩:∃x,n=x+1:=⟨n-1,by omega⟩;have:l=p:=by simpa using hp
  subst this;simp only[DF.l8,AY (show ¬(l.length:Int)<(l.length:Int) by omega),AU]
 |cons v q ih=>
  intro p n hp hn;simp only[Bn] at hn;obtain⟨n,rfl⟩:∃x,n=x+1:=⟨n-1,by omega⟩;have hll:l.length=p.length+(q.length+1):=by rw[hp];simp
  obtain⟨v1,v2⟩:=hv v (by rw[hp];simp);have hmv:∀x,x∈p→BV t x=true:=fun x hx=>(hv x (by rw[hp];simp[hx])).1;have VB:∀x,x∈q→BV t x=true:=fun x hx=>(hv x (by rw[hp];simp[hx])).1;have hsplit:pre++((l.map (BA t)).flatten++post)=(pre++(p.map (BA t)).flatten)++(BA t v++((q.map (BA t)).flatten++post)):=by rw[hp];simp
  have l1:=hlen p hmv;have l2:=hlen q VB;have h1:=W9 k hk t ht v v1 v2 (pre++(p.map (BA t)).flatten) ((q.map (BA t)).flatten++post) (by rw[A8,A8];omega) (CJ hb1 (hby p)) (CJ (hby q) hb2);rw[←hsplit,A8] at h1;have e:IntKind.wrap .i64 ((p.length:Int)+1)=((p.length+1:Nat):Int):=by rw[AV (by omega) (by omega)];omega
  have:=ih (p++[v]) n (by rw[hp];simp) (by omega);simp only[DF.l8,AX (show(p.length:Int)<(l.length:Int) by omega),AQ,h1,AR,Bh,AU,Bc (show p.length+[v].length≤4294967296 by simp;omega),e];rw[A8,Bz,List.map_append,List.flatten_append,A8] at this;simp only[List.map_cons,List.map_nil,List.flatten_cons,List.flatten_nil,C7] at this;rw[Nat.add_assoc];exact this
theorem Ni(hk:3000≤k)(vs:List Int)(w:Nat)(hw:w≤62)(hl:vs.length≤2000)(hv:∀x,x∈vs→0≤x∧x<2^w)(pre post:List Int)(hl2:pre.length+post.length<1000000000):
 G6 k (pre++(Bw w vs++post)) (pre.length:Int) (vs.length:Int) (w:Int)=some (((),((pre.length+bytesOf vs.length w:Nat):Int),true),vs):=by
 obtain⟨z,h1,h2,hz⟩:=IJ k (vs.length:Int) (w:Int);have hz:z=((bytesOf vs.length w:Nat):Int):=by
  rcases hz with⟨_,hn⟩|⟨_,_,_,_,hz⟩
  ·exact(hn ⟨by omega,by omega,by omega,by omega⟩).elim
  ·simpa using hz
 subst hz;obtain⟨_,l8,l9⟩:=len8 (n:=vs.length) (w:=w) (by omega) (by omega);have hpl:(Bw w vs).length=bytesOf vs.length w:=Bt _ _;have hlen:(pre++(Bw w vs++post)).length=pre.length+(bytesOf vs.length w+post.length):=by rw[A8,A8,hpl]
 have e:IntKind.wrap .i64 (((pre++(Bw w vs++post)).length:Int)-(pre.length:Int))=((bytesOf vs.length w+post.length:Nat):Int):=by rw[hlen,AV (by omega) (by omega)];omega
 have u:=Iy k pre post (bytesOf vs.length w) (Cy w vs) w vs.length (by omega) l9 (by omega) (by omega) (by omega) (by omega);have I1:(2:Int)^w≤2^62:=by exact_mod_cast(Nat.pow_le_pow_right (by decide) hw:(2:Nat)^w≤2^62)
 rw[Ku w vs (fun v h=>by
  obtain⟨x0,x1⟩:=hv v h;refine⟨⟨by omega,by omega⟩,?_⟩;have:((u64 v:Nat):Int)=v:=by rw[E9];omega
  exact_mod_cast(show((u64 v:Nat):Int)<2^w by omega)) vs.length (Nat.le_refl _),List.take_length] at u
 unfold G6;have c0:(decide ((0:Int)≤(pre.length:Int))&&decide ((pre.length:Int)≤((pre++(Bw w vs++post)).length:Int)))=true:=by rw[hlen];simp;omega
 have u':CY k (pre++(Bw w vs++post)) (pre.length:Int) (vs.length:Int) (w:Int)=some ((),vs):=u;simp only[h1,AR,CQ,cst,AY (show ¬((bytesOf vs.length w:Nat):Int)<0 by omega),EU,c0,Bh,e,AY (show ¬((bytesOf vs.length w:Nat):Int)>((bytesOf vs.length w+post.length:Nat):Int) by omega),AU,u'];rw[AV (by omega) (by omega)];simp
theorem Xd(hk:3000≤k)(t:Int)(l:List AP)(h:BJ t l=true)(hi:∀v,v∈l→Be v.1)(pre post:List Int)(hl2:pre.length+post.length<100000000)(hb1:Bq pre)(hb2:Bq post):
 DF k t (pre++(Cf t l++post)) (pre.length:Int) (l.length:Int)=some (((),((pre.length+(Cf t l).length:Nat):Int),true),l)∧
 El k t (pre++(Cf t l++post)) (pre.length:Int) (l.length:Int)=some (((),((pre.length+(Cf t l).length:Nat):Int),true),l)∧(Cf t l).length≤44*l.length:=by
 obtain⟨hv,hl,hty⟩:=EI.1 h;have hlen:(Cf t l).length≤44*l.length:=by
  unfold Cf;split
  ·have:(Bw 1 (l.map (·.1))).length=bytesOf (l.map (·.1)).length 1:=Bt _ _
   rw[this,List.length_map];unfold bytesOf;omega
  ·have:∀q:List AP,(∀v,v∈q→BV t v=true)→((q.map (BA t)).flatten).length≤44*q.length:=by
    intro q
    induction q with
    |nil=>intro _;simp
    |cons v q ih=>
     intro h;have:=ih (fun x hx=>h x (by simp[hx]));have:=Jk (h v (by simp));rw[List.map_cons,List.flatten_cons,A8,Bn];omega
   exact this l hv
 have hbl:(pre++(Cf t l++post)).length=pre.length+((Cf t l).length+post.length):=by simp
 have key:DF k t (pre++(Cf t l++post)) (pre.length:Int) (l.length:Int)=some (((),((pre.length+(Cf t l).length:Nat):Int),true),l):=by
  have c1:(decide ((0:Int)≤(l.length:Int))&&decide ((l.length:Int)≤2000))=true:=by simp;omega
  have c2:(decide ((0:Int)≤(pre.length:Int))&&decide ((pre.length:Int)≤((pre++(Cf t l++post)).length:Int)))=true:=by rw[hbl];simp;omega
  unfold DF;simp only[Jz,hty,CQ,AR,cst,Bh,EU,c1,c2,AU];by_cases ht:t=0
  ·subst ht
   have e:Cf 0 l=Bw 1 (l.map (·.1)):=by unfold Cf;rw[if_pos rfl]
   have hb:=Ni k hk (l.map (·.1)) 1 (by omega) (by rw[List.length_map];omega) (fun x hx=>by
    obtain⟨v,hv',rfl⟩:=List.mem_map.1 hx;rcases EH (hv v hv') with⟨_,h0,h1,_⟩|⟨h,_⟩|⟨h|h,_⟩|⟨h,_⟩<;>omega) pre post (by omega)
   rw[List.length_map,show((1:Nat):Int)=1 from rfl] at hb;obtain⟨v1,_⟩:=Ky k (l.map (·.1)) (by rw[List.length_map];omega) (l.map (·.1)) [] k rfl (by rw[List.length_map];omega);rw[List.length_nil,List.map_nil,show((0:Nat):Int)=0 from rfl] at v1;have hval:(l.map (·.1)).map (fun x=>((x,Br,()):AP))=l:=by
    rw[List.map_map]
    conv=>rhs;rw[←List.map_id l]
    apply List.map_congr_left;intro v hv';rcases EH (hv v hv') with⟨_,_,_,h0⟩|⟨h,_⟩|⟨h|h,_⟩|⟨h,_⟩<;>first|exact Gr rfl h0.symm|omega
   rw[e];have hpl:(Bw 1 (l.map (·.1))).length=bytesOf l.length 1:=by rw[show(Bw 1 (l.map (·.1))).length=bytesOf (l.map (·.1)).length 1 from Bt _ _,List.length_map]
   simp only[show((0:Int)==0)=true from rfl,AQ,hb,AR,Ep,v1,hpl];rw[hval]
  ·have ht':t=1∨t=2∨t=5∨t=6:=by rcases MF hty with h|h|h|h|h<;>omega
   have e:Cf t l=(l.map (BA t)).flatten:=by unfold Cf;rw[if_neg ht]
   have:=Xp k (by omega) t ht' l hl (fun v hv'=>⟨hv v hv',hi v hv'⟩) pre post (by omega) hb1 hb2 l [] k rfl (by omega);rw[A_ ht,AU,e];simpa using this
 obtain⟨nx,ok,l',e1,e2,_⟩:=Xc k hk t (pre++(Cf t l++post)) (by rw[hbl];omega) (CJ hb1 (CJ (KV t l) hb2)) (pre.length:Int) (l.length:Int) ⟨by omega,by omega⟩;rw[key] at e1;simp only[Eg,Prod.mk.injEq,true_and] at e1;obtain⟨⟨rfl,rfl⟩,rfl⟩:=e1;exact⟨key,e2,hlen⟩
end Go.A9
end
