/- plain laws of the claim's functions -/
import Derived.Test.YtbhpckfakcoojaaAmStep
import Derived.Laws.BitsLemmas
import Derived.Laws.Strings
import Derived.Test.YtbhpckfakcoojaaFASF0
set_option linter.unnecessarySimpa false
set_option linter.unusedSimpArgs false
set_option linter.unusedVariables false
set_option linter.unusedSectionVars false
section
namespace Go
theorem zD{α β:Type}(a:α)(f:α→Option β):(some a).bind f=f a:=rfl
theorem zF{α:Type}{a b:α}:cond true a b=a:=rfl
theorem zG{α:Type}{a b:α}:cond false a b=b:=rfl
theorem zM{p:Prop}[inst:Decidable p]:p→decide p=true:=decide_eq_true
theorem zN{p:Prop}[inst:Decidable p]:¬p→decide p=false:=decide_eq_false
theorem Ah:(!true)=false:=rfl
theorem Bf:(!false)=true:=rfl
theorem BK(a b:Bool):((a&&b)=true)=(a=true∧b=true):=Bool.and_eq_true a b
theorem GA(b:Bool):(true||b)=true:=rfl
theorem Fa(b:Bool):(false||b)=b:=Bool.false_or b
theorem Es(b:Bool):(true&&b)=b:=Bool.true_and b
theorem IQ(b:Bool):(false&&b)=false:=rfl
theorem Hg(b:Bool):(b||b)=b:=Bool.or_self b
theorem A8{α:Type}{as bs:List α}:(as++bs).length=as.length+bs.length:=List.length_append
theorem Co{α:Type}{a:α}:[a].length=1:=rfl
theorem Ct{α:Type}{a:α}{as:List α}:(a::as).length=as.length+1:=rfl
theorem AZ{α:Type}(as:List α):as++[]=as:=List.append_nil as
theorem BC{α:Type}(as bs cs:List α):as++bs++cs=as++(bs++cs):=List.append_assoc as bs cs
theorem Av{α:Type}{l:List α}{i:Nat}(h:i<l.length):l[i]?=some l[i]:=List.getElem?_eq_getElem h
theorem zX{α:Type}(a b:α):(some a=some b)=(a=b):=Option.some.injEq a b
theorem Cs{p:Prop}[inst:Decidable p]:(decide p=true)=p:=decide_eq_true_eq
end Go
namespace Go.Fn
open Go Go.Am
def KL(k:Nat)(t0:Int)(t1:Int)(t2:Int)(t3:zB):Option Unit:=
 some ()
def Gs(k:Nat)(o0:Aq):Option ((zB)×Aq):=
 (cond o0.2.2.1 (some true) (some ((List.length o0.2.1:Int)==0))).bind fun b1=>
 cond b1
  (some ((0,zR,()),(o0.1,o0.2.1,true,(()),(()),())))
  ((gI o0.2.1 0).bind fun y2=>
   cond (jv 1 ((List.length o0.2.1):Int) (List.length o0.2.1)) (
   some (y2,(o0.1,j6 o0.2.1 1 ((List.length o0.2.1):Int),o0.2.2.1,(()),(()),()))) none)
def Gr(k:Nat)(t1:Int)(o0:Aq):Option (Int×Aq):=
 (Gs k (o0.1,o0.2.1,o0.2.2.1,(()),(()),())).bind fun r1=>
 (cond (!jk r1.1.2.1 zR) (some true) ((Dz k r1.1.1 0 t1).bind fun r2=>some (!r2))).bind fun b3=>
 cond b3 (some (0,(r1.2.1,r1.2.2.1,true,(()),(()),()))) (some (r1.1.1,(r1.2.1,r1.2.2.1,r1.2.2.2.1,(()),(()),())))
def KM(k:Nat)(t0:Int)(t1:Int)(t2:Int):Option Unit:=
 some ()
def DK.c4(k:Nat)(L3:Int→Int→Int→Int→Aq→Option (Int×Aq))(t2:Int)(t3:Int)(t9:Int)(t10:Int)(o0:Aq):Option (Int×Aq):=
 L3 t2 t3 t9 (IntKind.wrap .i64 (t10+1)) (o0.1,o0.2.1,o0.2.2.1,(()),(()),())
def DK.l3(k:Nat):Nat→Int→Int→Int→Int→Aq→Option (Int×Aq)
 |0,_,_,_,_,_=>none
 |n+1,t2,t3,t9,t10,o0=>
  cond (decide (t10<t9))
   ((gI o0.1 t10).bind fun y1=>
    cond (y1.2.1 !=7)
     ((KM k t10 t2 t3).bind fun r2=>
      DK.c4 k (DK.l3 k n) t2 t3 t9 t10 (o0.1,o0.2.1,o0.2.2.1,(()),(()),()))
     (DK.c4 k (DK.l3 k n) t2 t3 t9 t10 (o0.1,o0.2.1,o0.2.2.1,(()),(()),())))
   (some (t9,(o0.1,o0.2.1,o0.2.2.1,(()),(()),())))
def DK(k:Nat)(t1:Int)(t2:Int)(t3:Int)(o0:Aq):Option (Int×Aq):=
 (Ao k o0.1 t1 1).bind fun r3=>DK.l3 k k t2 t3 r3 t1 (o0.1,o0.2.1,o0.2.2.1,(()),(()),())
def Af.c14(k:Nat)(t12:Int)(o0:Aq):Option (Int×Aq):=
 some (t12,(o0.1,o0.2.1,o0.2.2.1,(()),(()),()))
def Af.l10(k:Nat)(GC:Int→Int→Int→Int→Aq→Option (Int×Aq)):Nat→Int→Int→Int→Int→Int→Int→Aq→Option (Int×Aq)
 |0,_,_,_,_,_,_,_=>none
 |n+1,t2,t3,t4,t12,t70,t71,o0=>
  cond (decide (t71<t70))
   (cond o0.2.2.1
    (Af.c14 k t12 (o0.1,o0.2.1,o0.2.2.1,(()),(()),()))
    ((GC t12 t2 t3 t4 (o0.1,o0.2.1,o0.2.2.1,(()),(()),())).bind fun r1=>
     (Af.l10 k GC n) t2 t3 t4 r1.1 t70 (IntKind.wrap .i64 (t71+1)) (r1.2.1,r1.2.2.1,r1.2.2.2.1,(()),(()),())))
   (Af.c14 k t12 (o0.1,o0.2.1,o0.2.2.1,(()),(()),()))
def Af.c7(k:Nat)(t1:Int)(o0:Aq):Option (Int×Aq):=
 some (IntKind.wrap .i64 (t1+1),(o0.1,o0.2.1,o0.2.2.1,(()),(()),()))
def Af.c5(k:Nat)(t1:Int)(t2:Int)(t3:Int)(o0:Aq)(zH:zB):Option (Int×Aq):=
 cond (!o0.2.2.1)
  ((KL k t1 t2 t3 zH).bind fun r2=>Af.c7 k t1 (o0.1,o0.2.1,o0.2.2.1,(()),(()),()))
  (Af.c7 k t1 (o0.1,o0.2.1,o0.2.2.1,(()),(()),()))
def Af.d3(k:Nat)(t1:Int)(t2:Int)(t3:Int)(o0:Aq)(zH:zB):Option (Int×Aq):=
 cond (!o0.2.2.1)
  ((gI o0.1 t1).bind fun y3=>
   (EE k y3.2.1 zH).bind fun r4=>
   cond (!r4)
    (Af.c5 k t1 t2 t3 (o0.1,o0.2.1,true,(()),(()),()) zH)
    (Af.c5 k t1 t2 t3 (o0.1,o0.2.1,o0.2.2.1,(()),(()),()) zH))
  (cond false
   (Af.c5 k t1 t2 t3 (o0.1,o0.2.1,true,(()),(()),()) zH)
   (Af.c5 k t1 t2 t3 (o0.1,o0.2.1,o0.2.2.1,(()),(()),()) zH))
def Af.b(k:Nat)(EX:Int→Int→Int→Int→Aq→Option (Int×Aq))(GC:Int→Int→Int→Int→Aq→Option (Int×Aq))(t1:Int)(t2:Int)(t3:Int)(t4:Int)(o0:Aq):Option (Int×Aq):=
 (gI o0.1 t1).bind fun y7=>
 cond (y7.2.1 !=7)
  ((Gs k (o0.1,o0.2.1,o0.2.2.1,(()),(()),())).bind fun r8=>
   Af.d3 k t1 t2 t3 (r8.2.1,r8.2.2.1,r8.2.2.2.1,(()),(()),()) r8.1)
  ((gI o0.1 t1).bind fun y9=>
   Af.l10 k GC k t2 t3 t4 (IntKind.wrap .i64 (t1+1)) y9.2.2.2.1 0 (o0.1,o0.2.1,o0.2.2.1,(()),(()),()))
def Dy.c18(k:Nat)(EX:Int→Int→Int→Int→Aq→Option (Int×Aq))(t1:Int)(t2:Int)(t3:Int)(t4:Int)(o0:Aq):Option (Int×Aq):=
 (EX t1 t2 t3 t4 (o0.1,o0.2.1,o0.2.2.1,(()),(()),())).bind fun r1=>some (r1.1,(r1.2.1,r1.2.2.1,r1.2.2.2.1,(()),(()),()))
def Dy.Bt(k:Nat)(EX:Int→Int→Int→Int→Aq→Option (Int×Aq)):Nat→Int→Int→Int→Int→Int→Aq→Option (Int×Aq)
 |0,_,_,_,_,_,_=>none
 |n+1,t1,t3,t4,t12,t13,o0=>
  (cond (decide (t13<t12)) (some (!o0.2.2.1)) (some false)).bind fun b2=>
  cond b2
   ((EX t1 t4 (IntKind.wrap .i64 (t3+1)) t4 (o0.1,o0.2.1,o0.2.2.1,(()),(()),())).bind fun r3=>
    (Dy.Bt k EX n) t1 t3 t4 t12 (IntKind.wrap .i64 (t13+1)) (r3.2.1,r3.2.2.1,r3.2.2.2.1,(()),(()),()))
   ((Ao k o0.1 t1 1).bind fun r4=>some (r4,(o0.1,o0.2.1,o0.2.2.1,(()),(()),())))
def Dy.b(k:Nat)(EX:Int→Int→Int→Int→Aq→Option (Int×Aq))(GC:Int→Int→Int→Int→Aq→Option (Int×Aq))(t1:Int)(t2:Int)(t3:Int)(t4:Int)(o0:Aq):Option (Int×Aq):=
 (gI o0.1 t1).bind fun y5=>
 cond (y5.2.2.1==1)
  ((Gr k 1 (o0.1,o0.2.1,o0.2.2.1,(()),(()),())).bind fun r6=>
   cond (r6.1==0)
    ((DK k t1 t2 t3 (r6.2.1,r6.2.2.1,r6.2.2.2.1,(()),(()),())).bind fun r7=>
     some (r7.1,(r7.2.1,r7.2.2.1,r7.2.2.2.1,(()),(()),())))
    (Dy.c18 k EX t1 t2 (IntKind.wrap .i64 (t3+1)) t4 (r6.2.1,r6.2.2.1,r6.2.2.2.1,(()),(()),())))
  (cond (y5.2.2.1==2)
   ((Gr k 20 (o0.1,o0.2.1,o0.2.2.1,(()),(()),())).bind fun r8=>
    cond (r8.1==0)
     ((DK k t1 t2 t3 (r8.2.1,r8.2.2.1,r8.2.2.2.1,(()),(()),())).bind fun r9=>
      some (r9.1,(r9.2.1,r9.2.2.1,r9.2.2.2.1,(()),(()),())))
     ((EX t1 t2 (IntKind.wrap .i64 (t3+1)) (IntKind.wrap .i64 (t4+1)) (r8.2.1,r8.2.2.1,r8.2.2.2.1,(()),(()),())).bind fun AQ=>
      Dy.Bt k EX k t1 t3 (IntKind.wrap .i64 (t4+1)) r8.1 1 (AQ.2.1,AQ.2.2.1,AQ.2.2.2.1,(()),(()),())))
   (Dy.c18 k EX t1 t2 t3 t4 (o0.1,o0.2.1,o0.2.2.1,(()),(()),())))
def Af.rec(k:Nat):Nat→(Int→Int→Int→Int→Aq→Option (Int×Aq))×(Int→Int→Int→Int→Aq→Option (Int×Aq))
 |0=>(fun _ _ _ _ _=>none,fun _ _ _ _ _=>none)
 |d+1=>(Af.b k ((Af.rec k d).1) ((Af.rec k d).2),Dy.b k ((Af.rec k d).1) ((Af.rec k d).2))
def Af.d(k d:Nat):Int→Int→Int→Int→Aq→Option (Int×Aq):=(Af.rec k d).1
def Af(k:Nat):Int→Int→Int→Int→Aq→Option (Int×Aq):=Af.d k k
def Gq(k:Nat)(t0:List zC)(t1:Ay)(t2:Unit)(t3:Unit):Option Bool:=
 (Af k 0 0 0 0 (t0,t1.1,decide ((List.length t1.1:Int)>300),(()),(()),())).bind fun r1=>
 (cond (!r1.2.2.2.1) (some ((List.length r1.2.2.1:Int)==0)) (some false)).bind fun b2=>some b2
def KJ(k:Nat)(t0:List zC)(t1:Ay):Option Bool:=
 (DU k t0).bind fun r1=>
 (cond r1 ((Gq k t0 t1 (()) (())).bind fun r2=>some (r2)) (some false)).bind fun b3=>some b3
end Go.Fn
namespace Go.BA
open Go.Am
theorem zP{x:Int}(h0: -9223372036854775808≤x)(h1:x<9223372036854775808):IntKind.wrap .i64 x=x:=by
 rw[IntKind.wrap_i64];omega
theorem Uv(x:Int):IntKind.wrap .u8 x=x%256:=IntKind.wrap_u8 x
theorem w8{x:Int}(h0:0≤x)(h1:x<256):IntKind.wrap .u8 x=x:=by rw[Uv];omega
def AB(x:Int):Prop:= -9223372036854775808≤x∧x<9223372036854775808
theorem LB(x:Int)(i:Nat)(hi:i≤62):bits .and .i64 x (2^i-1)=x%2^i:=by
 have hpos:0<2^i:=Nat.two_pow_pos i;have hle:2^i≤2^62:=Nat.pow_le_pow_right (by decide) hi;have hc:((2:Int)^i-1)=((2^i-1:Nat):Int):=by
  rw[Int.natCast_sub hpos];simp
 have hb:(2^i-1)%2^IntKind.i64.bits=2^i-1:=Nat.mod_eq_of_lt (show 2^i-1<2^64 by omega);rw[hc];simp only[bits,BitVec.ofInt_natCast,BitVec.toNat_and,BitVec.toNat_ofNat,hb,Nat.and_two_pow_sub_one_eq_mod,BitVec.toNat_ofInt];show IntKind.wrap .i64 (((x%((2^64:Nat):Int)).toNat%2^i:Nat):Int)=_;have h1:(x%((2^64:Nat):Int)).toNat%2^i<2^i:=Nat.mod_lt _ hpos;have h2:(((x%((2^64:Nat):Int)).toNat%2^i:Nat):Int)=x%2^i:=by
  have h3:0≤x%((2^64:Nat):Int):=Int.emod_nonneg _ (by decide);rw[Int.natCast_emod,Int.toNat_of_nonneg h3];have hd:((2^i:Nat):Int)∣((2^64:Nat):Int):=by
   have:=Nat.pow_dvd_pow 2 (show i≤64 by omega)
   exact_mod_cast this
  rw[Int.emod_emod_of_dvd x hd];simp
 rw[h2];have h4:x%2^i<2^i:=Int.emod_lt_of_pos _ (by exact_mod_cast hpos)
 have h5:0≤x%2^i:=Int.emod_nonneg _ (by have:(0:Int)<2^i:=by exact_mod_cast hpos
                                        omega)
 have h6:(2:Int)^i≤2^62:=by exact_mod_cast hle
 rw[zP (by omega) (by omega)]
theorem Ic(x:Int):bits .and .i64 x 255=x%256:=LB x 8 (by decide)
theorem Cm{n:Nat}(h:n≤4294967296):lim n=true:=by unfold lim;exact Nat.ble_eq_true_of_le h
theorem IK{n:Int}(h0:0≤n)(h:n≤4294967296):pQ n=true:=by simp[pQ,h0,h]
theorem KN{l h:Int}{n:Nat}(h0:0≤l)(h1:l≤h)(h2:h≤n):jv l h n=true:=by simp[jv,h0,h1,h2]
theorem zS{a b:Int}(h:¬a=b):(a==b)=false:=by simpa using h
theorem Br{a b:Int}(h:¬a=b):(a !=b)=true:=by simpa using h
theorem Al{a b:Int}(h:a=b):(a==b)=true:=by simpa using h
theorem Ba{a b:Int}(h:a=b):(a !=b)=false:=by simpa using h
theorem CO(b c:Bool):(cond b (some c) (some false):Option Bool)=some (b&&c):=by cases b<;>rfl
theorem cst(b c:Bool):(cond b (some true) (some c):Option Bool)=some (b||c):=by cases b<;>rfl
theorem Ak{α:Type}(xs:List α)(n:Nat):gI xs (n:Int)=xs[n]?:=rfl
theorem FB{α:Type}{xs:List α}{i:Int}(h0:0≤i)(h1:i<xs.length):∃x,gI xs i=some x∧xs[i.toNat]?=some x:=by
 obtain⟨n,rfl⟩:=Int.eq_ofNat_of_zero_le h0;have h:n<xs.length:=by omega
 exact⟨xs[n],by rw[Ak,Av h],by simp[h]⟩
theorem Ea(a b:ByteArray):jk a b=decide (a=b):=by
 unfold jk;have h:a.toList=b.toList↔a=b:=by
  constructor
  ·intro h
   rw[ByteArray.toList_eq,ByteArray.toList_eq] at h;cases a;cases b;simp only[ByteArray.mk.injEq];exact Array.ext' h
  ·rintro rfl;rfl
 by_cases e:a=b
 ·simp[e]
 ·simp only[e,decide_false]
  have:a.toList≠b.toList:=fun h'=>e (h.1 h');simp[this]
theorem Jp(xs:List Int):(xI xs).size=xs.length:=strOfNums_size xs
end Go.BA
end
section
namespace Go.BA
open Go.Am Go.Fn
theorem D6(k:Nat)(a b c:Int):Dz k a b c=some (decide (b≤a)&&decide (a≤c)):=by
 unfold Dz;simp only[CO,zD,ge_iff_le]
theorem E8(k:Nat)(a b c:Int):Ey k a b c=some (decide (b≤a)&&decide (a≤c)):=by
 unfold Ey;simp only[CO,zD,ge_iff_le]
theorem DI{α:Type}(pre post:List α)(x:α):gI (pre++x::post) (pre.length:Int)=some x:=by
 rw[Ak,List.getElem?_append_right (Nat.le_refl _)];simp
theorem Hq{α:Type}(pre post:List α)(x y:α):List.set (pre++x::post) (Int.toNat (pre.length:Int)) y=pre++y::post:=by
 rw[Int.toNat_natCast,List.set_append_right _ _ (Nat.le_refl _)];simp
end Go.BA
end
section
namespace Go.BA
open Go.Am Go.Fn
variable(k:Nat)
def Ef(t:Int):Bool:=t==0||t==1||t==2||t==5||t==6
theorem SY(t:Int):EA k t=some (Ef t):=by
 unfold EA EA.c7 Ef;by_cases h0:t=0
 ·subst h0;simp
 by_cases h1:t=1
 ·subst h1;simp
 by_cases h2:t=2
 ·subst h2;simp
 by_cases h5:t=5
 ·subst h5;simp
 by_cases h6:t=6
 ·subst h6;simp
 simp[zS h0,zS h1,zS h2,zS h5,zS h6,h0,h1,h2,h5,h6]
theorem Us(t:Int):IA k t=some (Ef t):=by
 unfold IA Ef;simp only[D6,zD,cst]
 congr 1
 by_cases h:0≤t∧t≤2
 ·rw[zM h.1,zM h.2]
  rcases(show t=0∨t=1∨t=2 by omega) with rfl|rfl|rfl<;>rfl
 ·have:(decide (0≤t)&&decide (t≤2))=false:=by
   rw[Bool.eq_false_iff];intro hh;simp only[BK,Cs] at hh;exact h hh
  rw[this,zS (show ¬t=0 by omega),zS (show ¬t=1 by omega),zS (show ¬t=2 by omega)];rfl
end Go.BA
end
section
namespace Go.BA
open Go.Am Go.Fn
def GG(c:UInt8):Bool:=decide (97≤c.toNat)&&decide (c.toNat≤122)
def az(s:ByteArray):Bool:=s.data.toList.all GG
def FP(s:ByteArray):Bool:=(decide (1≤(s.size:Int))&&decide ((s.size:Int)≤20))&&az s
theorem JY{s:ByteArray}{i:Nat}{c:UInt8}(h:s.data.toList[i]?=some c):nS s (i:Int)=some (c.toNat:Int):=by
 show(match s.data.toList[i]? with|some b=>some (b.toNat:Int)|none=>none)=_;rw[h]
theorem IV(s:ByteArray):s.data.toList.length=s.size:=by
 rw[Array.length_toList];rfl
variable(k:Nat)
theorem SV(s:ByteArray)(hs:s.size<1000000):∀(m n i:Nat),s.size=i+m→m<n→ER.l4 k n s (i:Int)=some ((s.data.toList.drop i).all GG):=by
 intro m
 induction m with
 |zero=>
  intro n i hi hn;obtain⟨n,rfl⟩:∃j,n=j+1:=⟨n-1,by omega⟩;simp only[ER.l4,zN (show ¬(i:Int)<(s.size:Int) by omega),zG];rw[List.drop_eq_nil_of_le (by rw[IV];omega)];rfl
 |succ m ih=>
  intro n i hi hn;obtain⟨n,rfl⟩:∃j,n=j+1:=⟨n-1,by omega⟩;have hlt:i<s.data.toList.length:=by rw[IV];omega
  have hb:=JY (s:=s) (i:=i) (Av hlt);have hc:=(s.data.toList[i]).toNat_lt;simp only[ER.l4,zM (show(i:Int)<(s.size:Int) by omega),zF,hb,zD,cst];rw[List.drop_eq_getElem_cons hlt,List.all_cons,zP (by omega) (by omega),show((i:Int)+1)=((i+1:Nat):Int) by omega,ih n (i+1) (by omega) (by omega)];unfold GG;by_cases h:97≤(s.data.toList[i]).toNat∧(s.data.toList[i]).toNat≤122
  ·simp only[zN (show ¬(((s.data.toList[i]).toNat:Nat):Int)<97 by omega),zN (show ¬(((s.data.toList[i]).toNat:Nat):Int)>122 by omega),Hg,zG,zM h.1,zM h.2,Bool.and_self,Es]
  ·have h1:(decide ((((s.data.toList[i]).toNat:Nat):Int)<97)||decide ((((s.data.toList[i]).toNat:Nat):Int)>122))=true:=by
    simp only[Bool.or_eq_true,Cs];omega
   have h2:(decide (97≤(s.data.toList[i]).toNat)&&decide ((s.data.toList[i]).toNat≤122))=false:=by
    rw[Bool.eq_false_iff];intro hh;simp only[BK,Cs] at hh;exact h hh
   simp only[h1,h2,zF,IQ]
theorem SX(hk:100≤k)(s:ByteArray):ER k s=some (FP s):=by
 unfold ER FP;simp only[E8,zD];by_cases h:1≤s.size∧s.size≤20
 ·rw[zM (show(1:Int)≤(s.size:Int) by omega),zM (show(s.size:Int)≤20 by omega)]
  simp only[Bool.and_self,Ah,zG,Es];exact SV k s (by omega) s.size k 0 (by omega) (by omega)
 ·have:(decide ((1:Int)≤(s.size:Int))&&decide ((s.size:Int)≤20))=false:=by
   rw[Bool.eq_false_iff];intro hh;simp only[BK,Cs] at hh;omega
  simp only[this,Bf,zF,IQ]
theorem LY(s:ByteArray)(hs:s.size<1000000000):∀(m n i:Nat),s.size=i+m→m<n→EF.l2 k n s (s.size:Int) (i:Int)=some ((decide (1≤(s.size:Int))&&decide ((s.size:Int)≤20))&&(s.data.toList.drop i).all GG):=by
 intro m
 induction m with
 |zero=>
  intro n i hi hn;obtain⟨n,rfl⟩:∃j,n=j+1:=⟨n-1,by omega⟩;simp only[EF.l2,zN (show ¬(i:Int)<(s.size:Int) by omega),zG,D6,zD];rw[List.drop_eq_nil_of_le (by rw[IV];omega)];simp
 |succ m ih=>
  intro n i hi hn;obtain⟨n,rfl⟩:∃j,n=j+1:=⟨n-1,by omega⟩;have hlt:i<s.data.toList.length:=by rw[IV];omega
  have hb:=JY (s:=s) (i:=i) (Av hlt);have hc:=(s.data.toList[i]).toNat_lt;simp only[EF.l2,zM (show(i:Int)<(s.size:Int) by omega),zF,hb,zD,D6];rw[zP (show -9223372036854775808≤(((s.data.toList[i]).toNat:Nat):Int) by omega) (by omega)];rw[List.drop_eq_getElem_cons hlt,List.all_cons,zP (by omega) (by omega),show((i:Int)+1)=((i+1:Nat):Int) by omega,ih n (i+1) (by omega) (by omega)];unfold GG;by_cases h:97≤(s.data.toList[i]).toNat∧(s.data.toList[i]).toNat≤122
  ·simp only[zM (show(97:Int)≤(((s.data.toList[i]).toNat:Nat):Int) by omega),zM (show(((s.data.toList[i]).toNat:Nat):Int)≤122 by omega),Ah,Bool.and_self,zG,zM h.1,zM h.2,Es]
  ·have h1:(decide ((97:Int)≤(((s.data.toList[i]).toNat:Nat):Int))&&decide ((((s.data.toList[i]).toNat:Nat):Int)≤122))=false:=by
    rw[Bool.eq_false_iff];intro hh;simp only[BK,Cs] at hh;omega
   have h2:(decide (97≤(s.data.toList[i]).toNat)&&decide ((s.data.toList[i]).toNat≤122))=false:=by
    rw[Bool.eq_false_iff];intro hh;simp only[BK,Cs] at hh;exact h hh
   simp only[h1,h2,Bf,zF,IQ,Bool.and_false]
theorem KP(s:ByteArray)(hs:s.size<k)(hs2:s.size<1000000000):EF k s=some (FP s):=by
 unfold EF FP;exact LY k s hs2 s.size k 0 (by omega) (by omega)
def AX(c:zC):Bool:=((c.2.1==7&&decide (c.2.2.2.1>0))||(Ef c.2.1&&c.2.2.2.1==0))&&(decide (0≤c.2.2.1)&&decide (c.2.2.1≤2))
theorem JZ(c:zC):IC k c=some (AX c):=by
 unfold IC AX;simp only[D6,Us,zD,CO,cst]
theorem Eg:Ef 7=false:=rfl
def BX(S:Nat→Nat→Prop)(s:List zC):Nat→Nat→List ByteArray→Nat→Prop
 |0,pos,_,nx=>pos=nx
 |c+1,pos,names,nx=>∃p mid,s[pos]?=some p∧p.1∉names∧S pos mid∧BX S s c mid (names++[p.1]) nx
def zY(s:List zC):Nat→Nat→Nat→Prop
 |0,_,_=>False
 |d+1,at_,nx=>∃c,s[at_]?=some c∧AX c=true∧(0<at_→FP c.1=true)∧BX (zY s d) s c.2.2.2.1.toNat (at_+1) [] nx
theorem D7{S:Nat→Nat→Prop}{s:List zC}(hS:∀a b,S a b→a<b):∀(c pos:Nat) (names:List ByteArray) (nx:Nat),BX S s c pos names nx→pos+c≤nx
 |0,pos,names,nx,e=>by have e:pos=nx:=e;omega
 |c+1,pos,names,nx,⟨p,mid,_,_,h3,h4⟩=>by
  have:=hS _ _ h3;have:=D7 hS c mid _ nx h4;omega
theorem z_{s:List zC}:∀(d a b:Nat),zY s d a b→a<b
 |0,_,_,h=>h.elim
 |d+1,a,b,⟨c,_,_,_,h⟩=>by
  have:=D7 (z_ d) _ _ _ _ h;omega
open Classical in
theorem Ui(S:List zC→Int→Int→Option Int)(L:List zC→Int→Int→Int→zC→List ByteArray→Option Int)(s:List zC)(deep:Int)(pos:Nat)(i:Int)(c p:zC)(hp:s[pos]?=some p)(names:List ByteArray)(hn:names.length≤100):
 ∀(m n j:Nat),names.length=j+m→m<n→A9.Gw k S L n s deep (pos:Int) i (j:Int) c names=
  if p.1∈names.drop j then some (-1) else(S s (pos:Int) (IntKind.wrap .i64 (deep+1))).bind fun r=>cond (decide (r<0)) (some (-1)) (L s deep r (IntKind.wrap .i64 (i+1)) c (names++[p.1])):=by
 intro m
 induction m with
 |zero=>
  intro n j hj hn';obtain⟨n,rfl⟩:∃q,n=q+1:=⟨n-1,by omega⟩;simp only[A9.Gw,zN (show ¬(j:Int)<(names.length:Int) by omega),zG,Ak,hp,zD];rw[Cm (by simp;omega),zF,List.drop_eq_nil_of_le (by omega)];simp
 |succ m ih=>
  intro n j hj hn';obtain⟨n,rfl⟩:∃q,n=q+1:=⟨n-1,by omega⟩;have hlt:j<names.length:=by omega
  simp only[A9.Gw,zM (show(j:Int)<(names.length:Int) by omega),zF,Ak,hp,Av hlt,zD,Ea];rw[zP (by omega) (by omega),show((j:Int)+1)=((j+1:Nat):Int) by omega,ih n (j+1) (by omega) (by omega),List.drop_eq_getElem_cons hlt];by_cases h:names[j]=p.1
  ·rw[zM h,zF,if_pos (by rw[h];exact List.mem_cons_self ..)]
  ·rw[zN h,zG]
   have:(p.1∈names[j]::names.drop (j+1))↔p.1∈names.drop (j+1):=by
    rw[List.mem_cons];exact⟨fun hh=>hh.elim (fun e=>absurd e.symm h) id,.inr⟩
   simp only[this]
open Classical in
theorem KI(S:List zC→Int→Int→Option Int)(L:List zC→Int→Int→Int→Int→List ByteArray→Option Int)(s:List zC)(deep:Int)(pos:Nat)(M i:Int)(p:zC)(hp:s[pos]?=some p)(names:List ByteArray)(hn:names.length≤100):
 ∀(m n j:Nat),names.length=j+m→m<n→Ao.l10 k S L n s deep (pos:Int) M i (names.length:Int) (j:Int) names=
  if p.1∈names.drop j then some (-1) else(S s (pos:Int) (IntKind.wrap .i64 (deep+1))).bind fun r=>cond (decide (r<0)) (some (-1)) (L s deep r M (IntKind.wrap .i64 (i+1)) (names++[p.1])):=by
 intro m
 induction m with
 |zero=>
  intro n j hj hn';obtain⟨n,rfl⟩:∃q,n=q+1:=⟨n-1,by omega⟩;simp only[Ao.l10,zN (show ¬(j:Int)<(names.length:Int) by omega),zG,Ak,hp,zD];rw[Cm (by simp;omega),zF,List.drop_eq_nil_of_le (by omega)];simp
 |succ m ih=>
  intro n j hj hn';obtain⟨n,rfl⟩:∃q,n=q+1:=⟨n-1,by omega⟩;have hlt:j<names.length:=by omega
  simp only[Ao.l10,zM (show(j:Int)<(names.length:Int) by omega),zF,Ak,hp,Av hlt,zD,Ea];rw[zP (by omega) (by omega),show((j:Int)+1)=((j+1:Nat):Int) by omega,ih n (j+1) (by omega) (by omega),List.drop_eq_getElem_cons hlt];by_cases h:names[j]=p.1
  ·rw[zM h,zF,if_pos (by rw[h];exact List.mem_cons_self ..)]
  ·rw[zN h,zG]
   have:(p.1∈names[j]::names.drop (j+1))↔p.1∈names.drop (j+1):=by
    rw[List.mem_cons];exact⟨fun hh=>hh.elim (fun e=>absurd e.symm h) id,.inr⟩
   simp only[this]
theorem TS(hk:100≤k)(s:List zC)(hs:s.length≤20)(d D deep:Nat)(GY:deep≤6)
 (ih:∀at_:Nat,0<at_→∃v,A9.rec k D s (at_:Int) ((deep+1:Nat):Int)=some v∧Ao.rec k D s (at_:Int) ((deep+1:Nat):Int)=some v∧(v= -1∨∃nx:Nat,v=nx∧zY s d at_ nx∧nx≤s.length))
 (c:zC) (M:Int) (hM:c.2.2.2.1=M) (hM1:M<9223372036854775808):∀(f pos:Nat) (i:Int) (names:List ByteArray),s.length-pos<f→0<pos→pos≤s.length→0≤i→i≤M→names.length≤pos→
  ∃v,A9.Dh k (A9.rec k D) f s (deep:Int) (pos:Int) i c names=some v∧Ao.l6 k (Ao.rec k D) f s (deep:Int) (pos:Int) M i names=some v∧
   (v= -1∨∃nx:Nat,v=nx∧BX (zY s d) s (M-i).toNat pos names nx∧nx≤s.length):=by
 intro f
 induction f with
 |zero=>intro pos i names h;omega
 |succ f Jn=>
  intro pos i names hf hpos hpl hi0 hiM hnm;simp only[A9.Dh,Ao.l6,hM];by_cases hlt:i<M
  ·simp only[zM hlt,zF]
   by_cases hpe:(pos:Int)≥(s.length:Int)
   ·simp only[zM hpe,zF]
    exact⟨_,rfl,rfl,.inl rfl⟩
   ·have hpl':pos<s.length:=by omega
    simp only[zN hpe,zG];have hp:=Av hpl';rw[show(0:Int)=((0:Nat):Int) from rfl,Ui k _ _ s _ pos i c _ hp names (by omega) names.length k 0 (by omega) (by omega),KI k _ _ s _ pos M i _ hp names (by omega) names.length k 0 (by omega) (by omega)];rw[List.drop_zero];by_cases hmem:(s[pos]'hpl').1∈names
    ·rw[if_pos hmem,if_pos hmem]
     exact⟨_,rfl,rfl,.inl rfl⟩
    ·rw[if_neg hmem,if_neg hmem]
     have hd1:IntKind.wrap .i64 ((deep:Int)+1)=((deep+1:Nat):Int):=by rw[zP (by omega) (by omega)];omega
     rw[hd1];obtain⟨v,s1,s2,s4⟩:=ih pos hpos;simp only[s1,s2,zD];rcases s4 with rfl|⟨mid,rfl,s5,s6⟩
     ·simp only[show decide ((-1:Int)<0)=true from rfl,zF]
      exact⟨_,rfl,rfl,.inl rfl⟩
     ·have hml:=z_ _ _ _ s5
      have hm0:decide ((mid:Int)<0)=false:=zN (by omega);have hi1:IntKind.wrap .i64 (i+1)=i+1:=zP (by omega) (by omega);simp only[hm0,zG,hi1];obtain⟨w,t1,t2,t4⟩:=Jn mid (i+1) (names++[(s[pos]'hpl').1]) (by omega) (by omega) s6 (by omega) (by omega) (by simp;omega);refine⟨w,t1,t2,?_⟩;rcases t4 with h|⟨nx,h1,h2,h3⟩
      ·exact .inl h
      ·refine .inr ⟨nx,h1,?_,h3⟩
       rw[show(M-i).toNat=(M-(i+1)).toNat+1 by omega];exact⟨_,mid,hp,hmem,s5,h2⟩
  ·simp only[zN hlt,zG]
   refine⟨_,rfl,rfl,.inr ⟨pos,rfl,?_,hpl⟩⟩;rw[show(M-i).toNat=0 by omega];rfl
theorem TR(hk:100≤k)(s:List zC)(hs:s.length≤20)(hn:∀c,c∈s→c.1.size<k∧c.1.size<1000000000∧AB c.2.2.2.1)(hroot:∀c,s[0]?=some c→c.1=⟨#[]⟩∧c.2.2.1=0∧c.2.1=7):
 ∀(d D deep at_:Nat),d+deep=7→d<D→∃v,A9.rec k D s (at_:Int) (deep:Int)=some v∧Ao.rec k D s (at_:Int) (deep:Int)=some v∧(v= -1∨∃nx:Nat,v=nx∧zY s d at_ nx∧nx≤s.length):=by
 intro d
 induction d with
 |zero=>
  intro D deep at_ hd hD;obtain⟨D,rfl⟩:∃m,D=m+1:=⟨D-1,by omega⟩;obtain rfl:deep=7:=by omega
  simp only[A9.rec,Ao.rec,A9.b,Ao.b,cst,zD,show decide (((7:Nat):Int)>6)=true from rfl,Bool.or_true,zF];exact⟨_,rfl,rfl,.inl rfl⟩
 |succ d ih=>
  intro D deep at_ hd hD;obtain⟨D,rfl⟩:∃m,D=m+1:=⟨D-1,by omega⟩;simp only[A9.rec,Ao.rec,A9.b,Ao.b,cst,zD];by_cases hat:(at_:Int)≥(s.length:Int)
  ·simp only[zM hat,GA,zF,zD]
   exact⟨_,rfl,rfl,.inl rfl⟩
  ·have hat':at_<s.length:=by omega
   have hdd:decide ((deep:Int)>6)=false:=zN (by omega);have hc:=Av hat';generalize hcd:s[at_]'hat'=c at hc;have hcm:c∈s:=List.mem_of_getElem? hc;obtain⟨n1,n2,n3⟩:=hn c hcm;simp only[zN hat,hdd,Fa,zG,Ak,hc,zD,JZ,KP k c.1 n1 n2,SX k hk,E8,SY,CO,cst];have hr0:(((at_:Int)==0)&&((!jk c.1 ⟨#[]⟩||c.2.2.1 !=0)||c.2.1 !=7))=false:=by
    by_cases h0:at_=0
    ·subst h0
     obtain⟨r1,r2,r3⟩:=hroot c hc;rw[r1,r2,r3,Ea];simp
    ·rw[zS (show ¬(at_:Int)=0 by omega)];rfl
   simp only[hr0,Fa];generalize hnm:(decide ((at_:Int)>0)&& !FP c.1)=bn;have hname:bn=false→0<at_→FP c.1=true:=by
    intro hb h0;rw[hb,zM (show(at_:Int)>0 by omega)] at hnm;simpa using hnm
   have ha1:IntKind.wrap .i64 ((at_:Int)+1)=((at_+1:Nat):Int):=by rw[zP (by omega) (by omega)];omega
   cases bn with
   |true=>
    simp only[GA,Bool.or_true,zF];exact⟨_,rfl,rfl,.inl rfl⟩
   |false=>
    simp only[Fa,Bool.or_false];by_cases hrep:(0≤c.2.2.1∧c.2.2.1≤2)
    ·have er:(decide (0≤c.2.2.1)&&decide (c.2.2.1≤2))=true:=by rw[zM hrep.1,zM hrep.2];rfl
     simp only[er,Ah,zG];have J6:AX c=((c.2.1==7&&decide (c.2.2.2.1>0))||(Ef c.2.1&&c.2.2.2.1==0)):=by
      unfold AX;rw[er,Bool.and_true]
     by_cases h7:c.2.1=7
     ·have GH:AX c=decide (c.2.2.2.1>0):=by rw[J6,h7,Eg];simp
      simp only[Ba h7,zG];by_cases hM:c.2.2.2.1<1
      ·simp only[zM hM,zF,GH,zN (show ¬c.2.2.2.1>0 by omega),Bf]
       exact⟨_,rfl,rfl,.inl rfl⟩
      ·have hok:AX c=true:=by rw[GH];exact zM (by omega)
       simp only[zN hM,zG,hok,Ah,ha1];obtain⟨v,t1,t2,t3⟩:=TS k hk s hs d D deep (by omega) (fun a h0=>ih D (deep+1) a (by omega) (by omega)) c _ rfl n3.2 k (at_+1) 0 [] (by omega) (by omega) (by omega) (by omega) (by omega) (by simp);refine⟨v,t1,t2,?_⟩;rcases t3 with h|⟨nx,h1,h2,h3⟩
       ·exact .inl h
       ·exact .inr ⟨nx,h1,⟨c,hc,hok,hname rfl,by simpa using h2⟩,h3⟩
     ·have GH:AX c=(Ef c.2.1&&c.2.2.2.1==0):=by rw[J6,zS h7];simp
      simp only[Br h7,zF];by_cases hl:Ef c.2.1=true∧c.2.2.2.1=0
      ·have hok:AX c=true:=by rw[GH,hl.1,Al hl.2];rfl
       simp only[hl.1,Ba hl.2,Ah,Hg,zG,hok,ha1];obtain⟨K,hK⟩:∃j,k=j+1:=⟨k-1,by omega⟩;refine⟨_,rfl,?_,.inr ⟨at_+1,rfl,⟨c,hc,hok,hname rfl,?_⟩,by omega⟩⟩
       ·rw[hl.2]
        have:∀(j:Nat) (S:List zC→Int→Int→Option Int),Ao.l6 k S (j+1) s (deep:Int) ((at_+1:Nat):Int) 0 0 []=some ((at_+1:Nat):Int):=fun j S=>rfl;have h2:=this K (Ao.rec k D);rw[←hK] at h2;exact h2
       ·rw[hl.2];rfl
      ·have e1:(!Ef c.2.1||c.2.2.2.1 !=0)=true:=by
        cases ht:Ef c.2.1 with
        |false=>rfl
        |true=>simp only[Ah,Fa];exact Br fun h=>hl ⟨ht,h⟩
       have hok:AX c=false:=by
        rw[GH];cases ht:Ef c.2.1 with
        |false=>rfl
        |true=>simp only[Es];exact zS fun h=>hl ⟨ht,h⟩
       simp only[e1,hok,zF,Bf];exact⟨_,rfl,rfl,.inl rfl⟩
    ·have er:(decide (0≤c.2.2.1)&&decide (c.2.2.1≤2))=false:=by
      rw[Bool.eq_false_iff];intro hh;simp only[BK,Cs] at hh;exact hrep hh
     have hok:AX c=false:=by unfold AX;rw[er,Bool.and_false]
     simp only[er,hok,Bf,zF];exact⟨_,rfl,rfl,.inl rfl⟩
def Ck(s:List zC):Prop:=2≤s.length∧s.length≤20∧zY s 6 0 s.length∧∃c,s[0]?=some c∧c.1=⟨#[]⟩∧c.2.2.1=0∧c.2.1=7
theorem Ho(hk:100≤k)(s:List zC)(hn:∀c,c∈s→c.1.size<k∧c.1.size<1000000000∧AB c.2.2.2.1):
 ∃b,Cg k s=some b∧DU k s=some b∧(b=true→Ck s∧Ao k s 0 1=some (s.length:Int)):=by
 unfold Cg DU;simp only[E8,D6,zD];by_cases hin:2≤s.length∧s.length≤20
 ·have c1:(decide ((2:Int)≤(s.length:Int))&&decide ((s.length:Int)≤20))=true:=by simp;omega
  obtain⟨n,hn1,hn2⟩:=FB (xs:=s) (i:=0) (by omega) (by omega);have hn2:s[0]?=some n:=hn2;simp only[c1,zF,Ah,zG,hn1,zD,cst];by_cases hr:n.1=⟨#[]⟩∧n.2.2.1=0∧n.2.1=7
  ·have e0:jk n.1 ⟨#[]⟩=true:=by rw[Ea];exact zM hr.1
   simp only[Ba hr.2.2,Ba hr.2.1,e0,zG,zD,Hg,Ah];obtain⟨v,s1,s2,s4⟩:=TR k hk s hin.2 hn (fun c hc=>by rw[hn2] at hc;cases hc;exact hr) 6 k 1 0 (by omega) (by omega);have s1:A9 k s 0 1=some v:=s1;have s2:Ao k s 0 1=some v:=s2;simp only[s1,s2,zD];refine⟨_,rfl,rfl,fun hb=> ?_⟩;have hv:v=(s.length:Int):=by simpa using hb
   refine⟨⟨hin.1,hin.2,?_,n,hn2,hr⟩,by rw[hv]⟩;rcases s4 with h|⟨nx,h1,h2,_⟩
   ·omega
   ·have:nx=s.length:=by omega
    rw[←this];exact h2
  ·
    have hs:A9 k s 0 1=some (-1):=by
     obtain⟨K,rfl⟩:∃j,k=j+1:=⟨k-1,by omega⟩;show A9.b (K+1) (A9.rec (K+1) K) s 0 1=_;unfold A9.b;have e1:(cond ((0:Int)==0) (some ((!jk n.1 ⟨#[]⟩||n.2.2.1 !=0)||n.2.1 !=7)) (some false):Option Bool)=some true:=by
      show some _=_
      congr 1
      cases he:jk n.1 ⟨#[]⟩ with
      |false=>rfl
      |true=>
       rw[Ea] at he;have he:=of_decide_eq_true he;simp only[Ah,Fa,Bool.or_eq_true,bne_iff_ne];exact Classical.byContradiction fun hh=>hr ⟨he,Classical.byContradiction fun h=>hh (.inl h),Classical.byContradiction fun h=>hh (.inr h)⟩
     simp only[zN (show ¬(0:Int)≥(s.length:Int) by omega),cst,zD,show decide ((1:Int)>6)=false from rfl,Hg,zG,hn1,e1,GA,zF]
    refine⟨false,?_,?_,fun h=>by cases h⟩
    ·simp only[hs,zD]
     rw[zS (by omega)]
    ·by_cases h7:n.2.1=7
     ·by_cases h0:n.2.2.1=0
      ·have he:jk n.1 ⟨#[]⟩=false:=by
        rw[Ea];exact zN fun h=>hr ⟨h,h0,h7⟩
       simp only[Ba h7,Ba h0,he,zD,zG,Hg,Bf,Fa,zF]
      ·simp only[Ba h7,Br h0,zD,zG,Fa,zF,GA]
     ·simp only[Br h7,zD,zF,GA]
 ·have c1:(decide ((2:Int)≤(s.length:Int))&&decide ((s.length:Int)≤20))=false:=by
   rw[Bool.eq_false_iff];intro h;simp only[BK,Cs] at h;omega
  simp only[c1,Bf,zF,zG,zD];exact⟨false,rfl,rfl,fun h=>by cases h⟩
end Go.BA
end
section
namespace Go.BA
open Go.Am Go.Fn
variable(k:Nat)
theorem CX{S:Nat→Nat→Prop}{s:List zC}(hS:∀a b,S a b→a<b):∀(c pos:Nat) (names:List ByteArray) (nx:Nat),BX S s c pos names nx→pos≤nx
 |c,pos,names,nx,h=>by have:=D7 hS c pos names nx h;omega
section
variable(s:List zC)(hs:s.length≤20)(hn:∀c,c∈s→c.1.size<k∧c.1.size<1000000000∧AB c.2.2.2.1)
include hs hn
theorem LU(hk:100≤k)(d D deep:Nat)(GY:deep≤6)(M:Int)(hM:M<9223372036854775808)
 (ih:∀at_ nx:Nat,zY s d at_ nx→nx≤s.length→Ao.rec k D s (at_:Int) ((deep+1:Nat):Int)=some (nx:Int)):
 ∀(c f pos:Nat) (i:Int) (names:List ByteArray) (nx:Nat),BX (zY s d) s c pos names nx→c<f→M-i=c→0≤i→nx≤s.length→names.length≤pos→
  Ao.l6 k (Ao.rec k D) f s (deep:Int) (pos:Int) M i names=some (nx:Int):=by
 intro c
 induction c with
 |zero=>
  intro f pos i names nx hp hf hi h0 hnx hnm;obtain⟨f,rfl⟩:∃m,f=m+1:=⟨f-1,by omega⟩;have hp:pos=nx:=hp;subst hp;simp only[Ao.l6,zN (show ¬i<M by omega),zG]
 |succ c oQ=>
  intro f pos i names nx hp hf hi h0 hnx hnm;obtain⟨f,rfl⟩:∃m,f=m+1:=⟨f-1,by omega⟩;obtain⟨p,mid,p1,p2,p3,p4⟩:=hp;have hlt:=z_ _ _ _ p3;have hmn:=CX (z_ d) _ _ _ _ p4;have hd1:IntKind.wrap .i64 ((deep:Int)+1)=((deep+1:Nat):Int):=by rw[zP (by omega) (by omega)];omega
  have hi1:IntKind.wrap .i64 (i+1)=i+1:=zP (by omega) (by omega);simp only[Ao.l6,zM (show i<M by omega),zF,zN (show ¬(pos:Int)≥(s.length:Int) by omega),zG];rw[show(0:Int)=((0:Nat):Int) from rfl,KI k _ _ s _ pos M i _ p1 names (by omega) names.length k 0 (by omega) (by omega),List.drop_zero,if_neg p2,hd1,ih pos mid p3 (by omega)];simp only[zD,zN (show ¬((mid:Int)<0) by omega),zG,hi1];exact oQ f mid (i+1) (names++[p.1]) nx p4 (by omega) (by omega) (by omega) hnx (by simp;omega)
theorem LW(hk:100≤k):∀(d D deep at_ nx:Nat),zY s d at_ nx→d+deep≤7→d<D→nx≤s.length→Ao.rec k D s (at_:Int) (deep:Int)=some (nx:Int):=by
 intro d
 induction d with
 |zero=>intro D deep at_ nx h;exact h.elim
 |succ d ih=>
  intro D deep at_ nx h hd hD hnx;obtain⟨D,rfl⟩:∃m,D=m+1:=⟨D-1,by omega⟩;have hlt:=z_ _ _ _ h;obtain⟨c,h1,h2,h3,h4⟩:=h;have hcm:c∈s:=List.mem_of_getElem? h1;obtain⟨n1,n2,n3⟩:=hn c hcm;have hle:=D7 (z_ d) _ _ _ _ h4;have ha1:IntKind.wrap .i64 ((at_:Int)+1)=((at_+1:Nat):Int):=by rw[zP (by omega) (by omega)];omega
  have hm0:0≤c.2.2.2.1:=by
   unfold AX at h2;simp only[BK,Bool.or_eq_true,beq_iff_eq,Cs] at h2;omega
  have hname:(decide ((at_:Int)>0)&& !FP c.1)=false:=by
   by_cases h0:0<at_
   ·rw[h3 h0];simp
   ·rw[zN (show ¬(at_:Int)>0 by omega)];rfl
  simp only[Ao.rec,Ao.b,cst,CO,zN (show ¬(at_:Int)≥(s.length:Int) by omega),zN (show ¬(deep:Int)>6 by omega),Fa,zD,zG,Ak,h1,JZ,h2,Ah,KP k c.1 n1 n2,hname,ha1];have:=LU k s hs hn hk d D deep (by omega) c.2.2.2.1 n3.2 (fun a b hab hb=>ih D (deep+1) a b hab (by omega) (by omega) hb) c.2.2.2.1.toNat k (at_+1) 0 [] nx h4 (by omega) (by omega) (by omega) hnx (by simp);exact this
theorem FZ(hk:100≤k){d at_ nx:Nat}(h:zY s d at_ nx)(hd:d≤6)(hnx:nx≤s.length):Ao k s (at_:Int) 1=some (nx:Int):=
 LW k s hs hn hk d k 1 at_ nx h (by omega) (by omega) hnx
theorem SQ(hk:100≤k):∀(d D at_ nx:Nat),zY s d at_ nx→d<D→nx≤s.length→Bu.rec k D s (at_:Int)=some (nx:Int):=by
 intro d
 induction d with
 |zero=>intro D at_ nx h;exact h.elim
 |succ d ih=>
  intro D at_ nx h hD hnx;obtain⟨D,rfl⟩:∃m,D=m+1:=⟨D-1,by omega⟩;have hlt:=z_ _ _ _ h;obtain⟨c,h1,h2,h3,h4⟩:=h;obtain⟨n1,n2,n3⟩:=hn c (List.mem_of_getElem? h1);have hle:=D7 (z_ d) _ _ _ _ h4;have ha1:IntKind.wrap .i64 ((at_:Int)+1)=((at_+1:Nat):Int):=by rw[zP (by omega) (by omega)];omega
  have hm0:0≤c.2.2.2.1:=by
   unfold AX at h2;simp only[BK,Bool.or_eq_true,beq_iff_eq,Cs] at h2;omega
  have key:∀(m f pos:Nat) (i:Int) (names:List ByteArray),BX (zY s d) s m pos names nx→m<f→c.2.2.2.1-i=m→0≤i→Bu.l3 k (Bu.rec k D) f s (at_:Int) (pos:Int) i=some (nx:Int):=by
   intro m
   induction m with
   |zero=>
    intro f pos i names hp hf hi h0;obtain⟨f,rfl⟩:∃m,f=m+1:=⟨f-1,by omega⟩;have hp:pos=nx:=hp;subst hp;simp only[Bu.l3,Ak,h1,zD,zN (show ¬i<c.2.2.2.1 by omega),zG]
   |succ m ED=>
    intro f pos i names hp hf hi h0;obtain⟨f,rfl⟩:∃m,f=m+1:=⟨f-1,by omega⟩;obtain⟨p,mid,p1,p2,p3,p4⟩:=hp;have hmn:=CX (z_ d) _ _ _ _ p4;have hi1:IntKind.wrap .i64 (i+1)=i+1:=zP (by omega) (by obtain⟨_,q⟩:=n3;omega);simp only[Bu.l3,Ak,h1,zD,zM (show i<c.2.2.2.1 by omega),zF,ih D pos mid p3 (by omega) (by omega),hi1];exact ED f mid (i+1) _ p4 (by omega) (by omega) (by omega)
  simp only[Bu.rec,Bu.b,ha1];exact key c.2.2.2.1.toNat k (at_+1) 0 [] h4 (by omega) (by omega) (by omega)
theorem FO(hk:100≤k){d at_ nx:Nat}(h:zY s d at_ nx)(hd:d≤6)(hnx:nx≤s.length):Bu k s (at_:Int)=some (nx:Int):=
 SQ k s hs hn hk d k at_ nx h (by omega) hnx
end
def Bd:Nat→List zC→List Int
 |_,[]=>[]
 |i,c::r=>if c.2.1=7 then Bd (i+1) r else(i:Int)::Bd (i+1) r
theorem G6:∀(i:Nat) (s:List zC),(Bd i s).length≤s.length
 |_,[]=>Nat.le_refl _
 |i,c::r=>by
  have:=G6 (i+1) r;simp only[Bd];split<;>simp<;>omega
theorem Td(s:List zC)(hs:s.length≤1000):∀(post pre:List zC) (n:Nat) (o:List Int),s=pre++post→post.length<n→o.length≤pre.length→
 CV.l3 k n s (s.length:Int) (pre.length:Int) o=some ((),o++Bd pre.length post)∧C9.l3 k n s (pre.length:Int) o=some ((),o++Bd pre.length post):=by
 intro post
 induction post with
 |nil=>
  intro pre n o hsp hn ho;obtain⟨n,rfl⟩:∃j,n=j+1:=⟨n-1,by omega⟩;have:s=pre:=by simpa using hsp
  subst this;simp only[CV.l3,C9.l3,zN (show ¬(s.length:Int)<(s.length:Int) by omega),zG];simp[Bd]
 |cons x post ih=>
  intro pre n o hsp hn ho;simp only[Ct] at hn;obtain⟨n,rfl⟩:∃j,n=j+1:=⟨n-1,by omega⟩;have hlen:s.length=pre.length+(post.length+1):=by rw[hsp];simp
  have hg:gI s (pre.length:Int)=some x:=by rw[hsp];exact DI _ _ _
  have hi1:IntKind.wrap .i64 ((pre.length:Int)+1)=((pre.length+1:Nat):Int):=by rw[zP (by omega) (by omega)];omega
  simp only[CV.l3,C9.l3,zM (show(pre.length:Int)<(s.length:Int) by omega),zF,hg,zD,CV.c7,C9.c4,hi1,Bd];by_cases h7:x.2.1=7
  ·have hi:=ih (pre++[x]) n o (by rw[hsp];simp) (by omega) (by simp;omega)
   rw[A8,Co] at hi;rw[Ba h7,zG,zG,if_pos h7];exact hi
  ·have hi:=ih (pre++[x]) n (o++[(pre.length:Int)]) (by rw[hsp];simp) (by omega) (by simp;omega)
   rw[A8,Co,BC,List.singleton_append] at hi;rw[Br h7,zF,zF,if_neg h7,Cm (by simp;omega),zF,zF];exact hi
theorem Gz(hk:2000≤k)(s:List zC)(hs:s.length≤1000):CV k s=some ((),Bd 0 s)∧C9 k s=some ((),Bd 0 s):=by
 have:=Td k s hs s [] k [] rfl (by omega) (by simp);exact this
end Go.BA
end
section
namespace Go.BA
open Go.Am Go.Fn
variable(k:Nat)
def D5(t:Int)(v:zB):Bool:=
 if t=0 then(decide (0≤v.1)&&decide (v.1≤1))&&jk v.2.1 ⟨#[]⟩
 else if t=1 then(decide (-2147483648≤v.1)&&decide (v.1≤2147483647))&&jk v.2.1 ⟨#[]⟩
 else if t=2∨t=5 then jk v.2.1 ⟨#[]⟩
 else if t=6 then v.1==0&&decide ((v.2.1.size:Int)≤40)
 else false
theorem JG(t:Int)(v:zB):EE k t v=some (D5 t v):=by
 unfold EE EE.c8 Jo D5;by_cases h0:t=0
 ·subst h0
  simp only[D6,Al rfl,zF,zD,CO,if_true]
 by_cases h1:t=1
 ·subst h1
  simp only[D6,zS h0,Al rfl,zF,zG,zD,CO,if_neg h0,if_true]
 by_cases h2:t=2
 ·subst h2
  simp only[zS h0,zS h1,Al rfl,zF,zG,if_neg h0,if_neg h1,true_or,if_true]
 by_cases h5:t=5
 ·subst h5
  simp only[zS h0,zS h1,zS h2,Al rfl,zF,zG,if_neg h0,if_neg h1,or_true,if_true]
 by_cases h6:t=6
 ·subst h6
  simp only[zS h0,zS h1,zS h2,zS h5,Al rfl,zF,zG,if_neg h0,if_neg h1,zD,CO,if_true];rw[if_neg (by decide)]
 ·simp only[zS h0,zS h1,zS h2,zS h5,zS h6,zF,zG,if_neg h0,if_neg h1,zD,CO,if_neg h6]
  rw[if_neg (by omega)];rfl
theorem Lt(t:Int)(v:zB):Fh k t v=some (D5 t v):=by
 unfold Fh Fh.c8 JE D5;by_cases h0:t=0
 ·subst h0
  simp only[E8,Al rfl,zF,zD,CO,if_true]
 by_cases h1:t=1
 ·subst h1
  simp only[E8,zS h0,Al rfl,zF,zG,zD,CO,if_neg h0,if_true]
 by_cases h2:t=2
 ·subst h2
  simp only[zS h0,zS h1,Al rfl,zF,zG,if_neg h0,if_neg h1,true_or,if_true]
 by_cases h5:t=5
 ·subst h5
  simp only[zS h0,zS h1,zS h2,Al rfl,zF,zG,if_neg h0,if_neg h1,or_true,if_true]
 by_cases h6:t=6
 ·subst h6
  simp only[zS h0,zS h1,zS h2,zS h5,Al rfl,zF,zG,if_neg h0,if_neg h1,zD,CO,if_true];rw[if_neg (by decide)]
 ·simp only[zS h0,zS h1,zS h2,zS h5,zS h6,zF,zG,if_neg h0,if_neg h1,zD,CO,if_neg h6]
  rw[if_neg (by omega)]
end Go.BA
end
section
namespace Go.BA
open Go.Am Go.Fn
structure Ev where
 at_:Nat
 leaf:Bool
 rep:Int
 zA:Int
 v:zB
def zv:zB:=(0,⟨#[]⟩,())
def BJ(v:zB)(most:Int):Bool:= !jk v.2.1 ⟨#[]⟩|| !(decide (0≤v.1)&&decide (v.1≤most))
theorem FY{v:zB}{most:Int}(h:BJ v most=false):0≤v.1∧v.1≤most:=by
 unfold BJ at h;simp only[Bool.or_eq_false_iff,Bool.not_eq_false',BK,Cs] at h;exact h.2
abbrev Ar:=Option (List Ev×List zB)
def CZ(a:Ar)(f:List zB→Ar):Ar:=
 match a with
 |none=>none
 |some (x,V)=>match f V with
  |none=>none
  |some (y,W)=>some (x++y,W)
def jm(F:Nat→List zB→Ar)(e:Nat→Nat):Nat→Nat→List zB→Ar
 |0,_,V=>some ([],V)
 |m+1,a,V=>CZ (F a V) (jm F e m (e a))
def Cb(F:List zB→Ar):Nat→List zB→Ar
 |0,V=>some ([],V)
 |m+1,V=>CZ (F V) (Cb F m)
def iter(f:Nat→Nat):Nat→Nat→Nat
 |0,a=>a
 |n+1,a=>iter f n (f a)
def Aa(s:List zC):Nat→Nat→Nat
 |0,a=>a
 |d+1,a=>match s[a]? with
  |none=>a+1
  |some c=>iter (Aa s d) c.2.2.2.1.toNat (a+1)
theorem J_{s:List zC}{S:Nat→Nat→Prop}{e:Nat→Nat}(h:∀a b,S a b→e a=b):∀(m a:Nat) (names:List ByteArray) (nx:Nat),BX S s m a names nx→iter e m a=nx
 |0,a,_,nx,hp=>hp
 |m+1,a,names,nx,⟨p,mid,_,_,h3,h4⟩=>by
  show iter e m (e a)=nx;rw[h a mid h3];exact J_ h m mid _ nx h4
theorem Dw{s:List zC}:∀(d:Nat) {a b:Nat},zY s d a b→∀d',d≤d'→Aa s d' a=b
 |0,_,_,h,_,_=>h.elim
 |d+1,a,b,⟨c,h1,_,_,h2⟩,d',hd=>by
  obtain⟨d',rfl⟩:∃q,d'=q+1:=⟨d'-1,by omega⟩;simp only[Aa,h1];exact J_ (S:=zY s d) (fun x y hxy=>Dw d hxy d' (by omega)) _ _ _ _ h2
def AY(s:List zC)(rep zA:Int):Nat→Nat→List Ev
 |0,_=>[]
 |n+1,i=>(match s[i]? with
  |none=>[]
  |some c=>if c.2.1=7 then[] else[⟨i,false,rep,zA,zv⟩])++AY s rep zA n (i+1)
def AL(s:List zC)(C:Int→Int→Int→List zB→Ar)(e a:Nat)(rep zA deep:Int)(V:List zB):Ar:=
 match s[a]? with
 |none=>none
 |some c=>
  if c.2.2.1=0 then C rep zA deep V
  else match V with
   |[]=>none
   |v::V=>
    if c.2.2.1=2 then
     if BJ v 20=true then none
     else if v.1=0 then some (AY s rep zA (e-a) a,V)
     else CZ (C rep (zA+1) (deep+1) V) (Cb (C (deep+1) (zA+1) (deep+1)) (v.1.toNat-1))
    else
     if BJ v 1=true then none
     else if v.1=0 then some (AY s rep zA (e-a) a,V)
     else C rep (zA+1) deep V
def Ae(s:List zC):Nat→Nat→Int→Int→Int→List zB→Ar
 |0,_,_,_,_,_=>none
 |d+1,a,rep,zA,deep,V=>match s[a]? with
  |none=>none
  |some c=>
   if c.2.1=7 then jm (fun a V=>AL s (Ae s d a) (Aa s d a) a rep zA deep V) (Aa s d) c.2.2.2.1.toNat (a+1) V
   else match V with
    |[]=>none
    |v::V=>if D5 c.2.1 v=true then some ([⟨a,true,rep,zA,v⟩],V) else none
def Bc(V:List zB)(r:Ar):Prop:=∀X W,r=some (X,W)→W.length≤V.length∧X.length+20*W.length≤20*V.length∧W=V.drop (V.length-W.length)
theorem DF{a:Ar}{f:List zB→Ar}{X:List Ev}{W:List zB}(h:CZ a f=some (X,W)):∃x y V,a=some (x,V)∧f V=some (y,W)∧X=x++y:=by
 unfold CZ at h;split at h
 ·cases h
 ·rename_i x V
  split at h
  ·cases h
  ·rename_i y W' hf
   simp only[zX,Prod.mk.injEq] at h;obtain⟨rfl,rfl⟩:=h;exact⟨x,y,V,rfl,hf,rfl⟩
theorem Bc.pair{V:List zB}{a:Ar}{f:List zB→Ar}(h:Bc V a)(k:∀W,Bc W (f W)):Bc V (CZ a f):=by
 intro X W hr;obtain⟨x,y,U,h1,h2,rfl⟩:=DF hr;obtain⟨a1,a2,a3⟩:=h _ _ h1;obtain⟨b1,b2,b3⟩:=k U _ _ h2;refine⟨by omega,by simp;omega,?_⟩;rw[b3,a3,List.drop_drop]
 congr 1
 simp only[List.length_drop];omega
theorem Bc.nil(V:List zB):Bc V (some ([],V)):=by
 intro X W h;simp only[zX,Prod.mk.injEq] at h;obtain⟨rfl,rfl⟩:=h;exact⟨Nat.le_refl _,by simp,by simp⟩
theorem Bc.parts{F:Nat→List zB→Ar}{e:Nat→Nat}(h:∀a V,Bc V (F a V)):∀(m a:Nat) (V:List zB),Bc V (jm F e m a V)
 |0,_,V=>Bc.nil V
 |m+1,a,V=>(h a V).pair (Bc.parts h m (e a))
theorem Bc.items{F:List zB→Ar}(h:∀V,Bc V (F V)):∀(m:Nat) (V:List zB),Bc V (Cb F m V)
 |0,V=>Bc.nil V
 |m+1,V=>(h V).pair (Bc.items h m)
theorem KW(s:List zC)(rep zA:Int):∀(n i:Nat),i+(AY s rep zA n i).length≤max i s.length
 |0,i=>by simp only[AY,List.length_nil];omega
 |n+1,i=>by
  have:=KW s rep zA n (i+1);simp only[AY,A8];cases h:s[i]? with
  |none=>
   have hl:s.length≤i:=List.getElem?_eq_none_iff.1 h;simp only[List.length_nil];omega
  |some c=>
   have hl:i<s.length:=(List.getElem?_eq_some_iff.1 h).1;simp only;split<;>simp<;>omega
theorem Bc.part{s:List zC}(hs:s.length≤20){C:Int→Int→Int→List zB→Ar}(h:∀r d p V,Bc V (C r d p V))(e a:Nat)(rep zA deep:Int)(V:List zB):Bc V (AL s C e a rep zA deep V):=by
 intro X W hr;unfold AL at hr;have hm:∀n,(AY s rep zA n a).length≤20:=fun n=>by
  have:=KW s rep zA n a;rcases Nat.lt_or_ge a s.length with h1|h1
  ·omega
  ·have:(AY s rep zA n a).length=0:=by omega
   omega
 split at hr
 ·cases hr
 ·rename_i c hc
  split at hr
  ·exact h _ _ _ _ _ _ hr
  ·split at hr
   ·cases hr
   ·rename_i v V
    have lift:∀r:Ar,Bc V r→r=some (X,W)→W.length≤(v::V).length∧X.length+20*W.length≤20*(v::V).length∧W=(v::V).drop ((v::V).length-W.length):=by
     intro r hg hr;obtain⟨g1,g2,g3⟩:=hg _ _ hr;refine⟨by simp;omega,by simp;omega,?_⟩;rw[Ct,show V.length+1-W.length=(V.length-W.length)+1 by omega,List.drop_succ_cons];exact g3
    have ms:some (AY s rep zA (e-a) a,V)=some (X,W)→W.length≤(v::V).length∧X.length+20*W.length≤20*(v::V).length∧W=(v::V).drop ((v::V).length-W.length):=by
     intro hr;simp only[zX,Prod.mk.injEq] at hr;obtain⟨rfl,rfl⟩:=hr;have:=hm (e-a);refine⟨by simp,by simp;omega,by simp⟩
    split at hr
    ·split at hr
     ·cases hr
     ·split at hr
      ·exact ms hr
      ·exact lift _ ((h _ _ _ _).pair (Bc.items (h _ _ _) _)) hr
    ·split at hr
     ·cases hr
     ·split at hr
      ·exact ms hr
      ·exact lift _ (h _ _ _ _) hr
theorem EB{s:List zC}(hs:s.length≤20):∀(d a:Nat) (rep zA deep:Int) (V:List zB),Bc V (Ae s d a rep zA deep V)
 |0,_,_,_,_,_=>fun X W h=>by cases h
 |d+1,a,rep,zA,deep,V=>by
  intro X W h;simp only[Ae] at h;split at h
  ·cases h
  ·split at h
   ·exact Bc.parts (fun a V=>Bc.part hs (fun r d p V=>EB hs _ a r d p V) _ a rep zA deep V) _ _ _ _ _ h
   ·split at h
    ·cases h
    ·split at h
     ·simp only[zX,Prod.mk.injEq] at h
      obtain⟨rfl,rfl⟩:=h;refine⟨by simp,by simp;omega,by simp⟩
     ·cases h
def DN(r:Ar):Option (List zB):=match r with
 |none=>none
 |some (_,W)=>some W
theorem JC(a:Ar)(f:List zB→Ar):DN (CZ a f)=(DN a).bind fun V=>DN (f V):=by
 unfold CZ DN;cases a with
 |none=>rfl
 |some q=>
  obtain⟨x,V⟩:=q;simp only[zD];cases f V with
  |none=>rfl
  |some q2=>rfl
def Cq(C:List zB→Option (List zB)):Nat→List zB→Option (List zB)
 |0,V=>some V
 |m+1,V=>(C V).bind (Cq C m)
theorem Le(F:List zB→Ar)(C:List zB→Option (List zB))(h:∀V,DN (F V)=C V):∀(m:Nat) (V:List zB),DN (Cb F m V)=Cq C m V
 |0,V=>rfl
 |m+1,V=>by
  show DN (CZ (F V) (Cb F m))=_;rw[JC,h V];show _=(C V).bind (Cq C m)
  congr 1
  funext W;exact Le F C h m W
def Cz(s:List zC)(C:List zB→Option (List zB))(a:Nat)(V:List zB):Option (List zB):=
 match s[a]? with
 |none=>none
 |some c=>
  if c.2.2.1=0 then C V
  else match V with
   |[]=>none
   |v::V=>if BJ v (if c.2.2.1=2 then 20 else 1)=true then none else Cq C v.1.toNat V
theorem Lf(s:List zC)(F:Int→Int→Int→List zB→Ar)(C:List zB→Option (List zB))(h:∀r q p V,DN (F r q p V)=C V)(e a:Nat)(rep zA deep:Int)(V:List zB):DN (AL s F e a rep zA deep V)=Cz s C a V:=by
 unfold AL Cz;cases s[a]? with
 |none=>rfl
 |some c=>
  simp only;split
  ·exact h _ _ _ _
  ·cases V with
   |nil=>rfl
   |cons v V=>
    simp only;split
    ·rename_i h2
     split
     ·rename_i hb;rfl
     ·rename_i hb
      have hb:=FY (by simpa using hb);split
      ·rename_i h0;rw[h0];rfl
      ·rename_i h0
       obtain⟨n,hn⟩:∃n:Nat,v.1=((n+1:Nat):Int):=⟨v.1.toNat-1,by omega⟩;rw[hn,JC,h];show _=Cq C (n+1) V;simp only[Cq]
       congr 1
       funext W;exact Le _ C (h _ _ _) _ W
    ·rename_i h2
     split
     ·rename_i hb;rfl
     ·rename_i hb
      have hb:=FY (by simpa using hb);split
      ·rename_i h0;rw[h0];rfl
      ·rename_i h0
       have h1:v.1=1:=by omega
       rw[h1,h];show C V=Cq C 1 V;simp only[Cq];cases C V<;>rfl
def Ed(F:Nat→List zB→Option (List zB))(e:Nat→Nat):Nat→Nat→List zB→Option (List zB)
 |0,_,V=>some V
 |m+1,a,V=>(F a V).bind (Ed F e m (e a))
theorem Lg(F:Nat→List zB→Ar)(C:Nat→List zB→Option (List zB))(h:∀a V,DN (F a V)=C a V)(e:Nat→Nat):∀(m a:Nat) (V:List zB),DN (jm F e m a V)=Ed C e m a V
 |0,_,V=>rfl
 |m+1,a,V=>by
  show DN (CZ (F a V) (jm F e m (e a)))=_;rw[JC,h a V];show _=(C a V).bind (Ed C e m (e a))
  congr 1
  funext W;exact Lg F C h e m (e a) W
def rC(s:List zC):Nat→Nat→List zB→Option (List zB)
 |0,_,_=>none
 |d+1,a,V=>match s[a]? with
  |none=>none
  |some c=>
   if c.2.1=7 then Ed (fun a V=>Cz s (rC s d a) a V) (Aa s d) c.2.2.2.1.toNat (a+1) V
   else match V with
    |[]=>none
    |v::V=>if D5 c.2.1 v=true then some V else none
theorem Hl(s:List zC):∀(d a:Nat) (rep zA deep:Int) (V:List zB),DN (Ae s d a rep zA deep V)=rC s d a V
 |0,_,_,_,_,_=>rfl
 |d+1,a,rep,zA,deep,V=>by
  simp only[Ae,rC];cases s[a]? with
  |none=>rfl
  |some c=>
   simp only;split
   ·exact Lg _ _ (fun a V=>Lf s _ (rC s d a) (fun r q p V=>Hl s d a r q p V) _ a rep zA deep V) _ _ _ _
   ·cases V with
    |nil=>rfl
    |cons v V=>
     simp only;split<;>rfl
theorem K5{s:List zC}{d a:Nat}{V W:List zB}(h:rC s d a V=some W)(rep zA deep:Int):∃X,Ae s d a rep zA deep V=some (X,W):=by
 rw[←Hl s d a rep zA deep V] at h;cases he:Ae s d a rep zA deep V with
 |none=>rw[he] at h;cases h
 |some q=>
  obtain⟨X,U⟩:=q;rw[he] at h;cases h;exact⟨X,rfl⟩
theorem K4{s:List zC}{d a:Nat}{V:List zB}(h:rC s d a V=none)(rep zA deep:Int):Ae s d a rep zA deep V=none:=by
 rw[←Hl s d a rep zA deep V] at h;cases he:Ae s d a rep zA deep V with
 |none=>rfl
 |some q=>obtain⟨X,U⟩:=q;rw[he] at h;cases h
def RG(C:List zB→Option (List zB)):Prop:=∀V W,C V=some W→W.length≤V.length∧W=V.drop (V.length-W.length)
theorem RG.of{F:List zB→Ar}{C:List zB→Option (List zB)}(h:∀V,DN (F V)=C V)(g:∀V,Bc V (F V)):RG C:=by
 intro V W hc;rw[←h V] at hc;unfold DN at hc;split at hc
 ·cases hc
 ·rename_i X U hf
  simp only[zX] at hc;subst hc;obtain⟨g1,_,g3⟩:=g V X U hf;exact⟨g1,g3⟩
theorem RG.c{s:List zC}(hs:s.length≤20)(d a:Nat):RG (rC s d a):=RG.of (F:=Ae s d a 0 0 0) (Hl s d a 0 0 0) (EB hs d a 0 0 0)
def posOf(V:List zB)(r:Option (List zB)):Int:=match r with
 |none=> -1
 |some W=>((V.length-W.length:Nat):Int)
theorem RG.pos{C:List zB→Option (List zB)}(g:RG C){V W:List zB}{pos:Nat}(hp:pos≤V.length)(h:C (V.drop pos)=some W):V.length-W.length≤V.length∧V.drop (V.length-W.length)=W∧pos≤V.length-W.length:=by
 obtain⟨g1,g2⟩:=g _ _ h;simp only[List.length_drop] at g1 g2;refine⟨by omega,?_,by omega⟩;rw[List.drop_drop] at g2;rw[show V.length-W.length=pos+(V.length-pos-W.length) by omega];exact g2.symm
section
variable(k:Nat)(s:List zC)(hs:s.length≤20)(hn:∀c,c∈s→c.1.size<k∧c.1.size<1000000000∧AB c.2.2.2.1)(hk:2000000≤k)
variable(V:List zB)(hV:V.length≤1048576)
include hs hn hk hV
theorem TU(v:zB)(most:Int):Ht k v most=some (if BJ v most then -1 else v.1):=by
 unfold Ht BJ;simp only[E8,zD,cst];generalize(!jk v.2.1 ⟨#[]⟩|| !(decide (0≤v.1)&&decide (v.1≤most)))=b;cases b<;>rfl
theorem Li(S:(List zC)→Int→(List zB)→Int→Option Int)(a:Nat)(C:List zB→Option (List zB))(g:RG C)(n:Nat)(hn:n≤100)
 (h:∀pos,pos≤V.length→S s (a:Int) V (pos:Int)=some (posOf V (C (V.drop pos)))):∀(m j f pos:Nat),n=j+m→m<f→pos≤V.length→
  BH.Dp k S f s (a:Int) V (pos:Int) (n:Int) (j:Int)=some (posOf V (Cq C m (V.drop pos))):=by
 intro m
 induction m with
 |zero=>
  intro j f pos hj hf hp;obtain⟨f,rfl⟩:∃q,f=q+1:=⟨f-1,by omega⟩;simp only[BH.Dp,zN (show ¬(j:Int)<(n:Int) by omega),zG,Cq,posOf,List.length_drop]
  congr 1;omega
 |succ m ih=>
  intro j f pos hj hf hp;obtain⟨f,rfl⟩:∃q,f=q+1:=⟨f-1,by omega⟩;have hj1:IntKind.wrap .i64 ((j:Int)+1)=((j+1:Nat):Int):=by rw[zP (by omega) (by omega)];omega
  have e:=h pos hp;cases hr:C (V.drop pos) with
  |none=>
   rw[hr] at e;have e:S s (a:Int) V (pos:Int)=some (-1):=e;simp only[BH.Dp,zM (show(j:Int)<(n:Int) by omega),zF,e,zD,Cq,hr,zM (show(-1:Int)<0 by omega)];rfl
  |some W=>
   rw[hr] at e;have e:S s (a:Int) V (pos:Int)=some ((V.length-W.length:Nat):Int):=e;obtain⟨p1,p2,p3⟩:=g.pos hp hr;simp only[BH.Dp,zM (show(j:Int)<(n:Int) by omega),zF,e,zD,Cq,hj1,hr,zN (show ¬((V.length-W.length:Nat):Int)<0 by omega),zG];rw[ih (j+1) f _ (by omega) (by omega) p1,p2]
theorem Ug(d D a nx:Nat)(h:zY s d a nx)(hnx:nx≤s.length)
 (P:∀pos,pos≤V.length→(AO.rec k D).1 s (a:Int) V (pos:Int)=some (posOf V (rC s d a (V.drop pos)))) (pos:Nat) (hpos:pos≤V.length):
 (AO.rec k (D+1)).2 s (a:Int) V (pos:Int)=some (posOf V (Cz s (rC s d a) a (V.drop pos))):=by
 have g:=RG.c hs d a;have hlt:=z_ _ _ _ h
 obtain⟨d',rfl⟩:∃q,d=q+1:=⟨d-1,by cases d with
  |zero=>exact h.elim
  |succ d=>omega⟩
 obtain⟨c,hc,hco,_,_⟩:=h;have hrep:c.2.2.1=0∨c.2.2.1=1∨c.2.2.1=2:=by
  unfold AX at hco;simp only[BK,Cs] at hco;omega
 have hp1:IntKind.wrap .i64 ((pos:Int)+1)=((pos+1:Nat):Int):=by rw[zP (by omega) (by omega)];omega
 generalize KE:rC s (d'+1) a=C at*;simp only[AO.rec,BH.b,Ak,hc,zD,Cz,BH.c12,BH.c6]
 have some_:∀most:Int,most=1∨most=20→
  cond (decide ((pos:Int)≥(V.length:Int))) (some (-1)) ((V[pos]?).bind fun y2=>(Ht k y2 most).bind fun r3=>cond (decide (r3<0)) (some (-1)) (BH.Dp k (AO.rec k D).1 k s (a:Int) V (IntKind.wrap .i64 ((pos:Int)+1)) r3 0))=
   some (posOf V (match V.drop pos with
    |[]=>none
    |v::V=>if BJ v most=true then none else Cq C v.1.toNat V)):=by
  intro most hm;by_cases hlt':pos<V.length
  ·have hd:V.drop pos=V[pos]::V.drop (pos+1):=List.drop_eq_getElem_cons hlt'
   rw[zN (by omega),zG,Av hlt',hd];simp only[zD,TU k s hs hn hk V hV];cases hb:BJ V[pos] most with
   |true=>rfl
   |false=>
    have hcb:=FY hb;simp only[Bool.false_eq_true,if_false];obtain⟨n,hn'⟩:∃n:Nat,(V[pos]).1=(n:Int):=⟨(V[pos]).1.toNat,by omega⟩;rw[zN (by omega),zG,hp1,hn',Int.toNat_natCast];exact Li k s hs hn hk V hV (AO.rec k D).1 a C g n (by omega) P n 0 k (pos+1) (by omega) (by omega) (by omega)
  ·have hd:V.drop pos=[]:=List.drop_of_length_le (by omega)
   rw[zM (by omega),zF,hd];rfl
 rcases hrep with hr|hr|hr
 ·rw[Ba hr,zG,if_pos hr]
  have:=Li k s hs hn hk V hV (AO.rec k D).1 a C g 1 (by omega) P 1 0 k pos (by omega) (by omega) hpos;have e:Cq C 1 (V.drop pos)=C (V.drop pos):=by simp only[Cq];cases C (V.drop pos)<;>rfl
  rw[e] at this;exact this
 ·rw[Br (by omega),zF,zS (by omega),zG,if_neg (by omega)]
  rw[some_ 1 (.inl rfl),if_neg (show ¬c.2.2.1=2 by omega)]
 ·rw[Br (by omega),zF,Al hr,zF,if_neg (by omega)]
  rw[some_ 20 (.inr rfl),if_pos hr]
theorem Uh(d D:Nat)(hd:d≤6)(a:Nat)(c:zC)(hc:s[a]?=some c)(hcm:c.2.2.2.1≤1000000)(nx:Nat)(hnx:nx≤s.length)
 (Q:∀pl mid,zY s d pl mid→mid≤s.length→∀pos,pos≤V.length→(AO.rec k D).2 s (pl:Int) V (pos:Int)=some (posOf V (Cz s (rC s d pl) pl (V.drop pos)))):
 ∀(m pl:Nat) (i:Int) (names:List ByteArray) (f pos:Nat),BX (zY s d) s m pl names nx→c.2.2.2.1-i=m→0≤i→m<f→pos≤V.length→
  AO.l7 k (AO.rec k D).2 f s (a:Int) V (pos:Int) (pl:Int) i=some (posOf V (Ed (fun a V=>Cz s (rC s d a) a V) (Aa s d) m pl (V.drop pos))):=by
 intro m
 induction m with
 |zero=>
  intro pl i names f pos hp hi h0 hf hpos;obtain⟨f,rfl⟩:∃q,f=q+1:=⟨f-1,by omega⟩;simp only[AO.l7,Ak,hc,zD,zN (show ¬(i<c.2.2.2.1) by omega),zG,Ed,posOf,List.length_drop]
  congr 1;omega
 |succ m ih=>
  intro pl i names f pos hp hi h0 hf hpos;obtain⟨q,mid,q1,q2,q3,q4⟩:=hp;have hmn:=CX (z_ d) _ _ _ _ q4;obtain⟨f,rfl⟩:∃q,f=q+1:=⟨f-1,by omega⟩;have hi1:IntKind.wrap .i64 (i+1)=i+1:=zP (by omega) (by omega);have hend:Aa s d pl=mid:=Dw d q3 d (Nat.le_refl _);have Cx:=FO k s hs hn (by omega) q3 hd (by omega)
  have g:RG (fun V=>Cz s (rC s d pl) pl V):=RG.of (F:=AL s (Ae s d pl) mid pl 0 0 0) (fun V=>Lf s _ (rC s d pl) (fun r q p V=>Hl s d pl r q p V) mid pl 0 0 0 V)
   (fun V=>Bc.part hs (fun r q p V=>EB hs d pl r q p V) mid pl 0 0 0 V)
  have e:=Q pl mid q3 (by omega) pos hpos;cases hr:Cz s (rC s d pl) pl (V.drop pos) with
  |none=>
   rw[hr] at e;have e:(AO.rec k D).2 s (pl:Int) V (pos:Int)=some (-1):=e;simp only[AO.l7,Ak,hc,zD,zM (show i<c.2.2.2.1 by omega),zF,e,Ed,hr,zM (show(-1:Int)<0 by omega),Option.bind_none];rfl
  |some W=>
   rw[hr] at e;have e:(AO.rec k D).2 s (pl:Int) V (pos:Int)=some ((V.length-W.length:Nat):Int):=e;obtain⟨p1,p2,p3⟩:=g.pos (C:=fun V=>Cz s (rC s d pl) pl V) hpos hr;simp only[AO.l7,Ak,hc,zD,zM (show i<c.2.2.2.1 by omega),zF,e,Ed,hr,hend,Cx,hi1,zN (show ¬((V.length-W.length:Nat):Int)<0 by omega),zG];rw[ih mid (i+1) _ f _ q4 (by omega) (by omega) (by omega) p1,p2]
theorem TQ:∀(d D a nx:Nat),zY s d a nx→nx≤s.length→d≤6→2*d≤D→∀pos,pos≤V.length→
 (AO.rec k D).1 s (a:Int) V (pos:Int)=some (posOf V (rC s d a (V.drop pos))):=by
 intro d
 induction d with
 |zero=>intro D a nx h;exact h.elim
 |succ d ih=>
  intro D a nx h hnx hd hD pos hpos;obtain⟨D,rfl⟩:∃q,D=q+2:=⟨D-2,by omega⟩;have hlt:=z_ _ _ _ h;obtain⟨c,hc,hco,_,hp⟩:=h;have ha1:IntKind.wrap .i64 ((a:Int)+1)=((a+1:Nat):Int):=by rw[zP (by omega) (by omega)];omega
  have hp1:IntKind.wrap .i64 ((pos:Int)+1)=((pos+1:Nat):Int):=by rw[zP (by omega) (by omega)];omega
  have hmp:=D7 (z_ d) _ _ _ _ hp;rw[show D+2=(D+1)+1 from rfl];by_cases h7:c.2.1=7
  ·have hmn:0≤c.2.2.2.1:=by
    unfold AX at hco;rw[h7,Eg] at hco;simp at hco;omega
   have key:=Uh k s hs hn hk V hV d (D+1) (by omega) a c hc (by omega) nx hnx
    (fun pl mid hs1 hm1 pos hpos=>Ug k s hs hn hk V hV d D pl mid hs1 hm1 (fun pos hpos=>ih D pl mid hs1 hm1 (by omega) (by omega) pos hpos) pos hpos) c.2.2.2.1.toNat (a+1) 0 [] k pos hp (by omega) (by omega) (by omega) hpos
   simp only[AO.rec,AO.b,Ak,hc,zD,Ba h7,zG,ha1,rC];rw[if_pos h7];exact key
  ·simp only[AO.rec,AO.b,Ak,hc,zD,Br h7,zF,rC]
   rw[if_neg h7];by_cases hlt':pos<V.length
   ·have hd':V.drop pos=V[pos]::V.drop (pos+1):=List.drop_eq_getElem_cons hlt'
    rw[zN (by omega),zG,Av hlt',hd'];simp only[zD,Lt,hp1];cases hv:D5 c.2.1 V[pos] with
    |true=>simp only[Ah,zG,if_true,posOf,List.length_drop];congr 1;omega
    |false=>simp only[Bf,zF,Bool.false_eq_true,if_false];rfl
   ·have hd':V.drop pos=[]:=List.drop_of_length_le (by omega)
    rw[zM (by omega),zF,hd'];rfl
end
theorem Jd{V:List zB}{F:List zB→Ar}(g:∀V,Bc V (F V)){pos:Nat}{X:List Ev}{W:List zB}(hp:pos≤V.length)(h:F (V.drop pos)=some (X,W)):
 V.length-W.length≤V.length∧V.drop (V.length-W.length)=W∧pos≤V.length-W.length∧X.length+20*pos≤20*(V.length-W.length):=by
 obtain⟨g1,g2,g3⟩:=g _ _ _ h;simp only[List.length_drop] at g1 g2 g3;refine⟨by omega,?_,by omega,by omega⟩;rw[List.drop_drop] at g3;rw[show V.length-W.length=pos+(V.length-pos-W.length) by omega];exact g3.symm
def WO.P(_:Nat)(_:Nat):Prop:=True
def WO.Cj(n:Nat)(_:Ev):Nat:=n+1
theorem WO.H9(acc:Nat)(e:Ev)(m:Nat)(h:WO.P (m+1) acc):WO.P m (WO.Cj acc e):=trivial
theorem WO.Bv(acc:Nat)(m n:Nat)(h:WO.P m acc)(hn:n≤m):WO.P n acc:=trivial
section
variable(k:Nat)(s:List zC)
theorem WO.IG(a:Nat)(rep zA:Int)(v:zB)(acc:Nat)(m:Nat)(hP:WO.P (m+1) acc)(ha:a<s.length)(hc:∀c,s[a]?=some c→c.2.1≠7):KL k (a:Int) rep zA v=some ():=rfl
theorem WO.Jv(a:Nat)(rep zA:Int)(acc:Nat)(m:Nat)(hP:WO.P (m+1) acc)(ha:a<s.length)(hc:∀c,s[a]?=some c→c.2.1≠7):KM k (a:Int) rep zA=some ():=rfl
end
section
variable(k:Nat)(s:List zC)(hs:s.length≤20)(hn:∀c,c∈s→c.1.size<k∧c.1.size<1000000000∧AB c.2.2.2.1)(hk:2000000≤k)
include hs hn hk
theorem WO.Fp:∀(X:List Ev) (acc:Nat) (m:Nat),WO.P (m+X.length) (acc)→WO.P (m) (X.foldl WO.Cj acc)
 |[],acc,m,h=>h
 |e::X,acc,m,h=>by
  rw[List.foldl_cons];refine WO.Fp X (WO.Cj acc e) m (WO.H9 acc e (m+X.length) ?_);have e1:m+X.length+1=m+(e::X).length:=by simp;omega
  rw[e1];exact h
theorem WO.G_(v:zB)(V:List zB)(hV:V.length≤1048576)(acc:Nat):
 Gs k (s,v::V,false,(),(),())=some (v,(s,V,false,(),(),())):=by
 unfold Gs;have hz:(((v::V).length:Int)==0)=false:=zS (by simp;omega);have hcut:j6 (v::V) 1 ((v::V).length:Int)=V:=by
  unfold j6;rw[Int.toNat_natCast,List.take_length];rfl
 have hr:gI (v::V) 0=some v:=rfl;simp only[zG,hz,zD,hr,hcut];rw[KN (by omega) (by simp;omega) (by omega),zF]
theorem WO.He(acc:Nat):Gs k (s,[],false,(),(),())=some (zv,(s,[],true,(),(),())):=by
 unfold Gs;simp only[zG,List.length_nil,zD];rfl
theorem WO.count_cons(v:zB)(V:List zB)(hV:V.length≤1048576)(most:Int)(acc:Nat):
 Gr k most (s,v::V,false,(),(),())=some (if BJ v most then 0 else v.1,(s,V,BJ v most,(),(),())):=by
 unfold Gr BJ;simp only[WO.G_ k s hs hn hk v V hV acc,zD,D6,cst];generalize(!jk v.2.1 ⟨#[]⟩|| !(decide (0≤v.1)&&decide (v.1≤most)))=b;cases b<;>rfl
theorem WO.count_nil(most:Int)(hm:0≤most)(acc:Nat):Gr k most (s,[],false,(),(),())=some (0,(s,[],true,(),(),())):=by
 unfold Gr;have hz:jk zR ⟨#[]⟩=true:=by rw[Ea];simp
 have hw:(decide ((0:Int)≤0)&&decide ((0:Int)≤most))=true:=by simp;omega
 simp only[WO.He k s hs hn hk acc,zD,zv,D6,hz,hw,Ah,zG]
theorem WO.Ju(d a nx:Nat)(h:zY s d a nx)(hd:d≤6)(hnx:nx≤s.length)(rep zA:Int)(V:List zB)(bad:Bool)(acc:Nat)(hP:WO.P (20) (acc)):
 DK k (a:Int) rep zA (s,V,bad,(),(),())=some ((nx:Int),(s,V,bad,(),(),())):=by
 have key:∀(m n i:Nat) (acc:Nat),i+m=nx→m<n→WO.P (m) (acc)→DK.l3 k n rep zA (nx:Int) (i:Int) (s,V,bad,(),(),())=some ((nx:Int),(s,V,bad,(),(),())):=by
  intro m
  induction m with
  |zero=>
   intro n i acc hi hn _;obtain⟨n,rfl⟩:∃j,n=j+1:=⟨n-1,by omega⟩;simp only[DK.l3,zN (show ¬(i:Int)<(nx:Int) by omega),zG,AY,List.foldl_nil]
  |succ m ih=>
   intro n i acc hi hn hP;obtain⟨n,rfl⟩:∃j,n=j+1:=⟨n-1,by omega⟩;obtain⟨c,hc,hc'⟩:=FB (xs:=s) (i:=(i:Int)) (by omega) (by omega);have hc':s[i]?=some c:=by simpa using hc'
   have hi1:IntKind.wrap .i64 ((i:Int)+1)=((i+1:Nat):Int):=by rw[zP (by omega) (by omega)];omega
   simp only[DK.l3,zM (show(i:Int)<(nx:Int) by omega),zF,hc,zD,DK.c4,hi1,AY,hc',List.foldl_append];by_cases h7:c.2.1=7
   ·rw[Ba h7,zG]
    exact ih n (i+1) acc (by omega) (by omega) (WO.Bv acc (m+1) m hP (by omega))
   ·have hno:=WO.Jv k s i rep zA acc m hP (by omega) (fun c' h'=>by rw[hc'] at h';cases h';exact h7)
    rw[Br h7,zF];simp only[hno,zD,zD];exact ih n (i+1) (acc+1) (by omega) (by omega) trivial
 unfold DK;have hlt:=z_ _ _ _ h;have hca:=FZ k s hs hn (by omega) h hd hnx;simp only[hca,zD];exact key (nx-a) k a acc (by omega) (by omega) (WO.Bv acc 20 (nx-a) hP (by omega))
def WO.Good(s:List zC)(r:Ar)(o:Option (Int×Aq))(nx:Nat)(acc:Nat):Prop:=
 match r with
 |some (X,W)=>o=some ((nx:Int),(s,W,false,(),(),()))
 |none=>∃(nx':Int) (V':List zB) (acc':Nat),o=some (nx',(s,V',true,(),(),()))
theorem WO.Jq(S:Int→Int→Int→Int→Aq→Option (Int×Aq))(a nx:Nat)(hca:Ao k s (a:Int) 1=some (nx:Int))(C:List zB→Ar)(hC:∀V,Bc V (C V))(rep zA deep:Int)(n:Nat)(Sl:n≤100)(hdef:IntKind.wrap .i64 (zA+1)=zA+1)
 (h:∀V acc,V.length≤1048576→WO.P (20*V.length+20) (acc)→WO.Good s (C V) (S (a:Int) deep (zA+1) deep (s,V,false,(),(),())) nx acc):
 ∀(m j f:Nat) (V:List zB) (acc:Nat),n=j+m→1≤j→m<f→V.length≤1048576→WO.P (20*V.length+20) (acc)→
  WO.Good s (Cb C m V) (Dy.Bt k S f (a:Int) zA deep (n:Int) (j:Int) (s,V,false,(),(),())) nx acc:=by
 intro m
 induction m with
 |zero=>
  intro j f V acc hj h1 hf hV hP;obtain⟨f,rfl⟩:∃q,f=q+1:=⟨f-1,by omega⟩;simp only[Cb,WO.Good,Dy.Bt,zN (show ¬(j:Int)<(n:Int) by omega),zG,zD,hca,List.foldl_nil]
 |succ m ih=>
  intro j f V acc hj h1 hf hV hP;obtain⟨f,rfl⟩:∃q,f=q+1:=⟨f-1,by omega⟩;have hj1:IntKind.wrap .i64 ((j:Int)+1)=((j+1:Nat):Int):=by rw[zP (by omega) (by omega)];omega
  have g:=h V acc hV hP;simp only[Cb,CZ,Dy.Bt,zM (show(j:Int)<(n:Int) by omega),zF,Bf,zD,hdef,hj1];cases hr:C V with
  |none=>
   rw[hr] at g;obtain⟨nx',V',acc',e⟩:=g;simp only[WO.Good];simp only[e,zD];obtain⟨f,rfl⟩:∃q,f=q+1:=⟨f-1,by omega⟩;simp only[Dy.Bt,CO,Ah,Bool.and_false,zD,zG,hca];exact⟨_,_,0,rfl⟩
  |some q=>
   obtain⟨X,W⟩:=q;rw[hr] at g;simp only[WO.Good] at g;obtain⟨g1,g2,_⟩:=hC V X W hr;have i:=ih (j+1) f W (X.foldl WO.Cj acc) (by omega) (by omega) (by omega) (by omega) (WO.Fp k s hs hn hk X acc (20*W.length+20) (WO.Bv acc _ _ hP (by omega)));simp only[g,zD];cases hr2:Cb C m W with
   |none=>rw[hr2] at i;exact i
   |some q2=>
    obtain⟨Y,U⟩:=q2;rw[hr2] at i;simp only[WO.Good] at i⊢;exact i
theorem WO.Jw(d D a nx:Nat)(h:zY s d a nx)(hd:d≤6)(hnx:nx≤s.length)(rep zA deep:Int)(h0:0≤zA)(h1:zA≤1000)(h2:0≤deep)(h3:deep≤1000)
 (P:∀(r q p:Int) (V:List zB) (acc:Nat),0≤q→q≤zA+1→0≤p→p≤deep+1→V.length≤1048576→WO.P (20*V.length+20) (acc)→WO.Good s (Ae s d a r q p V) ((Af.rec k D).1 (a:Int) r q p (s,V,false,(),(),())) nx acc)
 (V:List zB) (acc:Nat) (hV:V.length≤1048576) (hP:WO.P (20*V.length+20) (acc)):
 WO.Good s (AL s (Ae s d a) nx a rep zA deep V) ((Af.rec k (D+1)).2 (a:Int) rep zA deep (s,V,false,(),(),())) nx acc:=by
 have hlt:=z_ _ _ _ h;have hmiss:=WO.Ju k s hs hn hk d a nx h hd hnx;have hca:=FZ k s hs hn (by omega) h hd hnx;have hG:=fun r p q V=>EB hs d a r p q V
 obtain⟨d',rfl⟩:∃q,d=q+1:=⟨d-1,by cases d with
  |zero=>exact h.elim
  |succ d=>omega⟩
 obtain⟨c,hc,hco,_,_⟩:=h;have hrep:c.2.2.1=0∨c.2.2.1=1∨c.2.2.1=2:=by
  unfold AX at hco;simp only[BK,Cs] at hco;omega
 have hd1:IntKind.wrap .i64 (zA+1)=zA+1:=zP (by omega) (by omega);have hp1:IntKind.wrap .i64 (deep+1)=deep+1:=zP (by omega) (by omega);simp only[Af.rec,Dy.b,Ak,hc,zD,AL];generalize KE:Ae s (d'+1) a=C at*;rcases hrep with hr|hr|hr
 ·
   rw[if_pos hr];simp only[zS (show ¬c.2.2.1=1 by omega),zS (show ¬c.2.2.1=2 by omega),zG,Dy.c18];have g:=P rep zA deep V acc h0 (by omega) h2 (by omega) hV hP;cases hr2:C rep zA deep V with
   |none=>
    rw[hr2] at g;obtain⟨nx',V',acc',e⟩:=g;simp only[WO.Good,e,zD];exact⟨_,_,0,rfl⟩
   |some q=>
    obtain⟨X,W⟩:=q;rw[hr2] at g;simp only[WO.Good] at g⊢;rw[g];rfl
 ·
   rw[if_neg (by omega)];simp only[Al hr,zF,Dy.c18];cases V with
   |nil=>
    simp only[WO.count_nil k s hs hn hk 1 (by omega) acc,zD,Al (show(0:Int)=0 from rfl),zF,hmiss rep zA [] true acc (WO.Bv acc _ _ hP (by simp))];exact⟨_,_,0,rfl⟩
   |cons v V=>
    have hV':V.length≤1048576:=by simp at hV;omega
    have Fv:20*(v::V).length+20=20*V.length+40:=by simp;omega
    rw[Fv] at hP;simp only[WO.count_cons k s hs hn hk v V hV' 1 acc,zD];rw[if_neg (by omega)];cases hb:BJ v 1 with
    |true=>
     simp only[if_true,Al (show(0:Int)=0 from rfl),zF,hmiss rep zA V true acc (WO.Bv acc _ _ hP (by omega)),zD];exact⟨_,_,0,rfl⟩
    |false=>
     simp only[Bool.false_eq_true,if_false];by_cases hv0:v.1=0
     ·rw[if_pos hv0,Al hv0,zF]
      simp only[hmiss rep zA V false acc (WO.Bv acc _ _ hP (by omega)),zD];rfl
     ·rw[if_neg hv0,zS hv0,zG]
      simp only[hd1];have g:=P rep (zA+1) deep V acc (by omega) (by omega) h2 (by omega) hV' (WO.Bv acc _ _ hP (by omega));cases hr2:C rep (zA+1) deep V with
      |none=>
       rw[hr2] at g;obtain⟨nx',V',acc',e⟩:=g;simp only[WO.Good,e,zD];exact⟨_,_,0,rfl⟩
      |some q=>
       obtain⟨X,W⟩:=q;rw[hr2] at g;simp only[WO.Good] at g⊢;rw[g];rfl
 ·
   rw[if_neg (by omega)];simp only[zS (show ¬c.2.2.1=1 by omega),Al hr,zF,zG];cases V with
   |nil=>
    simp only[WO.count_nil k s hs hn hk 20 (by omega) acc,zD,Al (show(0:Int)=0 from rfl),zF,hmiss rep zA [] true acc (WO.Bv acc _ _ hP (by simp))];exact⟨_,_,0,rfl⟩
   |cons v V=>
    have hV':V.length≤1048576:=by simp at hV;omega
    have Fv:20*(v::V).length+20=20*V.length+40:=by simp;omega
    rw[Fv] at hP;simp only[WO.count_cons k s hs hn hk v V hV' 20 acc,zD];rw[if_pos hr];cases hb:BJ v 20 with
    |true=>
     simp only[if_true,Al (show(0:Int)=0 from rfl),zF,hmiss rep zA V true acc (WO.Bv acc _ _ hP (by omega)),zD];exact⟨_,_,0,rfl⟩
    |false=>
     simp only[Bool.false_eq_true,if_false];have hcb:=FY hb;by_cases hv0:v.1=0
     ·rw[if_pos hv0,Al hv0,zF]
      simp only[hmiss rep zA V false acc (WO.Bv acc _ _ hP (by omega)),zD];rfl
     ·rw[if_neg hv0,zS hv0,zG]
      simp only[hd1,hp1];obtain⟨n,hn'⟩:∃n:Nat,v.1=(n:Int):=⟨v.1.toNat,by omega⟩;rw[hn',Int.toNat_natCast];have g:=P rep (zA+1) (deep+1) V acc (by omega) (by omega) (by omega) (by omega) hV' (WO.Bv acc _ _ hP (by omega));simp only[CZ];cases hr2:C rep (zA+1) (deep+1) V with
      |none=>
       rw[hr2] at g;obtain⟨nx',V',acc',e⟩:=g;simp only[WO.Good,e,zD];obtain⟨k',hk'⟩:∃q,k=q+1:=⟨k-1,by omega⟩;have hbad:Dy.Bt k (Af.rec k D).1 k (a:Int) zA (deep+1) (n:Int) 1 (s,V',true,(),(),())=some ((nx:Int),(s,V',true,(),(),())):=by
        conv=>lhs;arg 3;rw[hk']
        simp only[Dy.Bt,CO,Ah,Bool.and_false,zD,zG,hca]
       rw[hbad];exact⟨_,_,0,rfl⟩
      |some q=>
       obtain⟨X,W⟩:=q;rw[hr2] at g;simp only[WO.Good] at g;obtain⟨g1,g2,_⟩:=hG rep (zA+1) (deep+1) V X W hr2
       have i:=WO.Jq k s hs hn hk (Af.rec k D).1 a nx hca (C (deep+1) (zA+1) (deep+1)) (hG _ _ _) rep zA (deep+1) n (by omega) hd1
        (fun V acc hV hP=>P (deep+1) (zA+1) (deep+1) V acc (by omega) (by omega) (by omega) (by omega) hV hP) (n-1) 1 k W (X.foldl WO.Cj acc) (by omega) (by omega) (by omega) (by omega)
        (WO.Fp k s hs hn hk X acc (20*W.length+20) (WO.Bv acc _ _ hP (by omega)))
       simp only[g,zD];cases hr3:Cb (C (deep+1) (zA+1) (deep+1)) (n-1) W with
       |none=>rw[hr3] at i;exact i
       |some q2=>
        obtain⟨Y,U⟩:=q2;rw[hr3] at i;simp only[WO.Good] at i⊢
        try rw[List.foldl_append]
        exact i
theorem WO.Jy(d D:Nat)(hd:d≤6)(many:Int)(hm:many≤1000000)(nx:Nat)(hnx:nx≤s.length)(rep zA deep:Int)
 (Q:∀pl mid,zY s d pl mid→mid≤s.length→∀(V:List zB) (acc:Nat),V.length≤1048576→WO.P (20*V.length+20) (acc)→
  WO.Good s (AL s (Ae s d pl) mid pl rep zA deep V) ((Af.rec k D).2 (pl:Int) rep zA deep (s,V,false,(),(),())) mid acc):
 ∀(m pl:Nat) (i:Int) (names:List ByteArray) (f:Nat) (V:List zB) (acc:Nat),BX (zY s d) s m pl names nx→many-i=m→0≤i→m<f→V.length≤1048576→WO.P (20*V.length+20) (acc)→
  WO.Good s (jm (fun a V=>AL s (Ae s d a) (Aa s d a) a rep zA deep V) (Aa s d) m pl V) (Af.l10 k (Af.rec k D).2 f rep zA deep (pl:Int) many i (s,V,false,(),(),())) nx acc:=by
 intro m
 induction m with
 |zero=>
  intro pl i names f V acc hp hi h0 hf hV hP;have hp:pl=nx:=hp;subst hp;obtain⟨f,rfl⟩:∃q,f=q+1:=⟨f-1,by omega⟩;simp only[jm,WO.Good,Af.l10,zN (show ¬(i<many) by omega),zG,Af.c14,List.foldl_nil]
 |succ m ih=>
  intro pl i names f V acc hp hi h0 hf hV hP;obtain⟨q,mid,q1,q2,q3,q4⟩:=hp;have hmn:=CX (z_ d) _ _ _ _ q4;obtain⟨f,rfl⟩:∃q,f=q+2:=⟨f-2,by omega⟩;have hi1:IntKind.wrap .i64 (i+1)=i+1:=zP (by omega) (by omega);have hend:Aa s d pl=mid:=Dw d q3 d (Nat.le_refl _);have g:=Q pl mid q3 (by omega) V acc hV hP;have hG:Bc V (AL s (Ae s d pl) mid pl rep zA deep V):=Bc.part hs (fun r p q V=>EB hs d pl r p q V) mid pl rep zA deep V;rw[show f+2=(f+1)+1 by rfl];simp only[jm,CZ,hend,Af.l10,zM (show i<many by omega),zF,zG,hi1];cases hr:AL s (Ae s d pl) mid pl rep zA deep V with
  |none=>
   rw[hr] at g;obtain⟨nx',V',acc',e⟩:=g;simp only[WO.Good,e,zD,Af.c14,zF];by_cases h2:i+1<many
   ·rw[zM h2,zF];exact⟨_,_,0,rfl⟩
   ·rw[zN h2,zG];exact⟨_,_,0,rfl⟩
  |some q=>
   obtain⟨X,W⟩:=q;rw[hr] at g;simp only[WO.Good] at g;obtain⟨g1,g2,_⟩:=hG X W hr;have i2:=ih mid (i+1) _ (f+1) W (X.foldl WO.Cj acc) q4 (by omega) (by omega) (by omega) (by omega) (WO.Fp k s hs hn hk X acc (20*W.length+20) (WO.Bv acc _ _ hP (by omega)));simp only[g,zD];cases hr2:jm (fun a V=>AL s (Ae s d a) (Aa s d a) a rep zA deep V) (Aa s d) m mid W with
   |none=>rw[hr2] at i2;exact i2
   |some q2=>
    obtain⟨Y,U⟩:=q2;rw[hr2] at i2;simp only[WO.Good] at i2⊢
    try rw[List.foldl_append]
    exact i2
theorem WO.I8:∀(d D a nx:Nat),zY s d a nx→nx≤s.length→d≤6→2*d≤D→∀(rep zA deep:Int) (V:List zB) (acc:Nat),0≤zA→zA+d≤1001→0≤deep→deep+d≤1001→V.length≤1048576→WO.P (20*V.length+20) (acc)→
 WO.Good s (Ae s d a rep zA deep V) ((Af.rec k D).1 (a:Int) rep zA deep (s,V,false,(),(),())) nx acc:=by
 intro d
 induction d with
 |zero=>intro D a nx h;exact h.elim
 |succ d ih=>
  intro D a nx h hnx hd hD rep zA deep V acc h0 h1 h2 h3 hV hP;obtain⟨D,rfl⟩:∃q,D=q+2:=⟨D-2,by omega⟩;have hlt:=z_ _ _ _ h;obtain⟨c,hc,hco,_,hp⟩:=h;have hcm:=(hn c (List.mem_of_getElem? hc)).2.2;have ha1:IntKind.wrap .i64 ((a:Int)+1)=((a+1:Nat):Int):=by rw[zP (by omega) (by omega)];omega
  have hmp:=D7 (z_ d) _ _ _ _ hp;by_cases h7:c.2.1=7
  ·have hmn:0≤c.2.2.2.1:=by
    unfold AX at hco;rw[h7,Eg] at hco;simp at hco;omega
   have key:=WO.Jy k s hs hn hk d (D+1) (by omega) c.2.2.2.1 (by omega) nx hnx rep zA deep
    (fun pl mid hs1 hm1 V acc hV hP=>WO.Jw k s hs hn hk d D pl mid hs1 (by omega) hm1 rep zA deep h0 (by omega) h2 (by omega)
     (fun r q p V acc q0 q1 q2 q3 hV hP=>ih D pl mid hs1 hm1 (by omega) (by omega) r q p V acc q0 (by omega) q2 (by omega) hV hP) V acc hV hP) c.2.2.2.1.toNat (a+1) 0 [] k V acc hp (by omega) (by omega) (by omega) hV hP
   have e:(Af.rec k (D+2)).1 (a:Int) rep zA deep (s,V,false,(),(),())=Af.l10 k (Af.rec k (D+1)).2 k rep zA deep ((a+1:Nat):Int) c.2.2.2.1 0 (s,V,false,(),(),()):=by
    rw[show D+2=(D+1)+1 from rfl];simp only[Af.rec,Af.b,Ak,hc,zD,Ba h7,zG,ha1]
   rw[e];simp only[Ae,hc];rw[if_pos h7];exact key
  ·have hm0:c.2.2.2.1.toNat=0:=by
    unfold AX at hco;rw[zS h7] at hco;simp at hco;omega
   rw[hm0] at hp;have hp:a+1=nx:=hp;subst hp;rw[show D+2=(D+1)+1 from rfl];simp only[Ae,Af.rec,Af.b,Ak,hc,zD,Br h7,zF];rw[if_neg h7];cases V with
   |nil=>
    simp only[WO.He k s hs hn hk acc,zD,Af.d3,Ah,zG,Af.c5,Af.c7];exact⟨_,_,0,rfl⟩
   |cons v V=>
    have hV':V.length≤1048576:=by simp at hV;omega
    have hle:=WO.IG k s a rep zA v acc (20*V.length+39) (WO.Bv acc _ _ hP (by simp;omega)) (by omega) (fun c' h'=>by rw[hc] at h';cases h';exact h7);simp only[WO.G_ k s hs hn hk v V hV' acc,zD,Af.d3,Bf,zF,Ak,hc,JG];cases Sr:D5 c.2.1 v with
    |false=>
     simp only[Bf,zF,Af.c5,Ah,zG,Af.c7,Bool.false_eq_true,if_false];exact⟨_,_,0,rfl⟩
    |true=>
     simp only[Ah,zG,Af.c5,Bf,zF,hle,zD,Af.c7,ha1,if_true];rfl
theorem WO.JJ(hS:zY s 6 0 s.length)(c0:zC)(hc0:s[0]?=some c0)(h7:c0.2.1=7)(hm0:0<c0.2.2.2.1)(V:List zB)(acc:Nat)(hP:WO.P (6020) (acc)):
 (∀X,V.length≤300→Ae s 6 0 0 0 0 V=some (X,[])→Gq k s (V,()) () ()=some (true))∧
 ((V.length≤300→∀X,Ae s 6 0 0 0 0 V≠some (X,[]))→∃acc':Nat,Gq k s (V,()) () ()=some (false)):=by
 obtain⟨k',hk'⟩:∃q,k=q+2:=⟨k-2,by omega⟩
 have hb:V.length≤300→WO.Good s (Ae s 6 0 0 0 0 V) (Af k 0 0 0 0 (s,V,false,(),(),())) s.length acc:=fun CK=>
  WO.I8 k s hs hn hk 6 k 0 s.length hS (Nat.le_refl _) (by omega) (by omega) 0 0 0 V acc (by omega) (by omega) (by omega) (by omega) (by omega) (WO.Bv acc _ _ hP (by omega))
 refine⟨fun X CK he=> ?_,fun hno=> ?_⟩
 ·have g:=hb CK
  rw[he] at g;have g:Af k 0 0 0 0 (s,V,false,(),(),())=some ((s.length:Int),(s,[],false,(),(),())):=g;unfold Gq;simp only[zN (show ¬(V.length:Int)>300 by omega),g,zD,Bf,zF,List.length_nil];rfl
 ·by_cases CK:V.length≤300
  ·have g:=hb CK
   unfold Gq;simp only[zN (show ¬(V.length:Int)>300 by omega)];cases he:Ae s 6 0 0 0 0 V with
   |none=>
    rw[he] at g;obtain⟨nx',V',acc',g⟩:=g;simp only[g,zD,Ah,zG]
    first|exact⟨0,rfl⟩|exact⟨0,trivial⟩
   |some q=>
    obtain⟨X,W⟩:=q;rw[he] at g;have g:Af k 0 0 0 0 (s,V,false,(),(),())=some ((s.length:Int),(s,W,false,(),(),())):=g
    have hW:((W.length:Int)==0)=false:=zS (fun h0=>hno CK X (by
     have:W=[]:=List.eq_nil_of_length_eq_zero (by omega);rw[he,this]))
    simp only[g,zD,Bf,zF,hW]
    first|exact⟨0,rfl⟩|exact⟨0,trivial⟩
  ·have hr0:gI s 0=some c0:=hc0
   have e:Af k 0 0 0 0 (s,V,true,(),(),())=some (1,(s,V,true,(),(),())):=by
    show Af.d k k 0 0 0 0 (s,V,true,(),(),())=_;unfold Af.d
    conv=>lhs;arg 1;arg 2;rw[hk']
    conv=>lhs;rw[show Af.rec k (k'+2)=(_,_) from rfl]
    obtain⟨k2,hk2⟩:∃q,k=q+1:=⟨k-1,by omega⟩;simp only[Af.b,hr0,zD,Ba h7,zG]
    conv=>lhs;arg 3;rw[hk2]
    simp only[Af.l10,zM hm0,zF,Af.c14];rfl
   unfold Gq;simp only[zM (show(V.length:Int)>300 by omega),e,zD,Ah,zG]
   first|exact⟨0,rfl⟩|exact⟨0,trivial⟩
end
def A7(s:List zC)(V:List zB):Option (List Ev):=
 if V.length≤300 then match Ae s 6 0 0 0 0 V with
  |some (X,[])=>some X
  |_=>none
 else none
theorem Fg{s:List zC}{V:List zB}{X:List Ev}(h:A7 s V=some X):V.length≤300∧Ae s 6 0 0 0 0 V=some (X,[]):=by
 unfold A7 at h;split at h
 ·rename_i h1
  split at h
  ·rename_i Y he
   cases h;exact⟨h1,he⟩
  ·cases h
 ·cases h
theorem K7{s:List zC}{V:List zB}(h:A7 s V=none):V.length≤300→∀X,Ae s 6 0 0 0 0 V≠some (X,[]):=by
 intro h1 X he;unfold A7 at h;rw[if_pos h1,he] at h;cases h
theorem JB{s:List zC}(hs:s.length≤20){V:List zB}{X:List Ev}(h:A7 s V=some X):X.length≤20*V.length:=by
 obtain⟨h1,h2⟩:=Fg h;have:=(EB hs 6 0 0 0 0 V _ _ h2).2.1;simp only[List.length_nil] at this;omega
theorem IU{s:List zC}(hS:Ck s):∃c0,s[0]?=some c0∧c0.2.1=7∧0<c0.2.2.2.1:=by
 obtain⟨_,_,⟨c,e1,e2,_,_⟩,c0,hc0,_,_,h7⟩:=hS;rw[hc0] at e1;obtain rfl:=Option.some.inj e1;refine⟨c0,hc0,h7,?_⟩;unfold AX at e2;rw[h7,Eg] at e2;simp at e2;exact e2.1
theorem Ll(k:Nat)(s:List zC)(hs:s.length≤20)(hn:∀c,c∈s→c.1.size<k∧c.1.size<1000000000∧AB c.2.2.2.1)(hk:2000000≤k)(hS:zY s 6 0 s.length)
 (V:List zB) (hV:V.length≤300):(AO k s 0 V 0).bind (fun r3=>some (r3==(V.length:Int)))=some (A7 s V).isSome:=by
 have:=TQ k s hs hn hk V (by omega) 6 k 0 s.length hS (Nat.le_refl _) (by omega) (by omega) 0 (Nat.zero_le _);have this:AO k s 0 V 0=some (posOf V (rC s 6 0 (V.drop 0))):=this;rw[this,List.drop_zero];simp only[zD];unfold A7;rw[if_pos hV];cases hr:rC s 6 0 V with
 |none=>
  rw[K4 hr 0 0 0];simp only[posOf];rw[zS (show ¬((-1:Int)=(V.length:Int)) by omega)];rfl
 |some W=>
  obtain⟨X,hX⟩:=K5 hr 0 0 0;rw[hX];simp only[posOf];have hle:=(EB hs 6 0 0 0 0 V _ _ hX).1;cases W with
  |nil=>rw[Al (by simp)];rfl
  |cons w W=>
   rw[zS (by simp only[Ct] at hle⊢;omega)];rfl
theorem TN(k:Nat)(hk:2000000≤k)(s:List zC)(hn:∀c,c∈s→c.1.size<k∧c.1.size<1000000000∧AB c.2.2.2.1)(hS:Ck s)(h1:Cg k s=some true)(V:List zB):
 DR k s (V,())=some (A7 s V).isSome:=by
 unfold DR DR.d1;rw[h1];simp only[zD,zF,zG];by_cases CK:V.length≤300
 ·rw[zM (show(V.length:Int)≤300 by omega),zF]
  exact Ll k s hS.2.1 hn hk hS.2.2.1 V CK
 ·rw[zN (show ¬(V.length:Int)≤300 by omega),zG]
  unfold A7;rw[if_neg CK];rfl
theorem K8(k:Nat)(hk:2000000≤k)(s:List zC)(hn:∀c,c∈s→c.1.size<k∧c.1.size<1000000000∧AB c.2.2.2.1)(V:List zB):
 ∃b,Cg k s=some b∧DU k s=some b∧(b=true→Ck s)∧DR k s (V,())=some (b&&(A7 s V).isSome)∧KJ k s (V,())=some (b&&(A7 s V).isSome):=by
 obtain⟨b,h1,h2,h3⟩:=Ho k (by omega) s hn;refine⟨b,h1,h2,fun h=>(h3 h).1,?_⟩;unfold DR DR.d1 KJ;rw[h1,h2];simp only[zD];cases b with
 |false=>exact⟨rfl,rfl⟩
 |true=>
  obtain⟨hS,_⟩:=h3 rfl;obtain⟨c0,hc0,h7,hm0⟩:=IU hS;have hw:=WO.JJ k s hS.2.1 hn hk hS.2.2.1 c0 hc0 h7 hm0 V 0 (by trivial);simp only[zF,zG,Es];constructor
  ·by_cases CK:V.length≤300
   ·rw[zM (show(V.length:Int)≤300 by omega),zF]
    exact Ll k s hS.2.1 hn hk hS.2.2.1 V CK
   ·rw[zN (show ¬(V.length:Int)≤300 by omega),zG]
    unfold A7;rw[if_neg CK];rfl
  ·cases hr:A7 s V with
   |some X=>
    obtain⟨r1,r2⟩:=Fg hr;rw[hw.1 X r1 r2];rfl
   |none=>
    obtain⟨_,r1⟩:=hw.2 (K7 hr);rw[r1];rfl
def EC(s:List zC)(X:List Ev):Prop:=∀e,e∈X→∃c,s[e.at_]?=some c∧c.2.1≠7
theorem Jc{s:List zC}{X Y:List Ev}(h1:EC s X)(h2:EC s Y):EC s (X++Y):=fun e he=>(List.mem_append.1 he).elim (h1 e) (h2 e)
def EvL(s:List zC)(r:Ar):Prop:=∀X W,r=some (X,W)→EC s X
theorem EvL.pair{s:List zC}{a:Ar}{f:List zB→Ar}(h:EvL s a)(g:∀V,EvL s (f V)):EvL s (CZ a f):=by
 intro X W he;obtain⟨x,y,V,h1,h2,rfl⟩:=DF he;exact Jc (h _ _ h1) (g _ _ _ h2)
theorem EvL.nil(s:List zC)(V:List zB):EvL s (some ([],V)):=by
 intro X W h;simp only[zX,Prod.mk.injEq] at h;obtain⟨rfl,rfl⟩:=h;exact fun e he=>by cases he
theorem EvL.parts{s:List zC}{F:Nat→List zB→Ar}{e:Nat→Nat}(h:∀a V,EvL s (F a V)):∀(m a:Nat) (V:List zB),EvL s (jm F e m a V)
 |0,_,V=>EvL.nil s V
 |m+1,a,V=>(h a V).pair (EvL.parts h m (e a))
theorem EvL.items{s:List zC}{F:List zB→Ar}(h:∀V,EvL s (F V)):∀(m:Nat) (V:List zB),EvL s (Cb F m V)
 |0,V=>EvL.nil s V
 |m+1,V=>(h V).pair (EvL.items h m)
theorem KV(s:List zC)(rep zA:Int):∀(n i:Nat),EC s (AY s rep zA n i)
 |0,i=>fun e he=>by cases he
 |n+1,i=>by
  simp only[AY];refine Jc ?_ (KV s rep zA n (i+1));cases h:s[i]? with
  |none=>exact fun e he=>by cases he
  |some c=>
   simp only;split
   ·exact fun e he=>by cases he
   ·rename_i h7
    intro e he;rw[List.mem_singleton] at he;subst he;exact⟨c,h,h7⟩
theorem EvL.part{s:List zC}{C:Int→Int→Int→List zB→Ar}(h:∀r d p V,EvL s (C r d p V))(e a:Nat)(rep zA deep:Int)(V:List zB):EvL s (AL s C e a rep zA deep V):=by
 intro X W hr;unfold AL at hr;have ms:∀U,some (AY s rep zA (e-a) a,U)=some (X,W)→EC s X:=by
  intro U hr;simp only[zX,Prod.mk.injEq] at hr;obtain⟨rfl,rfl⟩:=hr;exact KV _ _ _ _ _
 split at hr
 ·cases hr
 ·split at hr
  ·exact h _ _ _ _ _ _ hr
  ·split at hr
   ·cases hr
   ·split at hr
    ·split at hr
     ·cases hr
     ·split at hr
      ·exact ms _ hr
      ·exact(EvL.pair (h _ _ _ _) (fun V=>EvL.items (h _ _ _) _ V)) _ _ hr
    ·split at hr
     ·cases hr
     ·split at hr
      ·exact ms _ hr
      ·exact h _ _ _ _ _ _ hr
theorem Ka{s:List zC}:∀(d a:Nat) (rep zA deep:Int) (V:List zB),EvL s (Ae s d a rep zA deep V)
 |0,_,_,_,_,_=>fun X W h=>by cases h
 |d+1,a,rep,zA,deep,V=>by
  intro X W h;simp only[Ae] at h;split at h
  ·cases h
  ·rename_i c hc
   split at h
   ·exact EvL.parts (fun a V=>EvL.part (fun r d p V=>Ka _ a r d p V) _ a rep zA deep V) _ _ _ _ _ h
   ·rename_i h7
    split at h
    ·cases h
    ·split at h
     ·simp only[zX,Prod.mk.injEq] at h
      obtain⟨rfl,rfl⟩:=h;intro e he;rw[List.mem_singleton] at he;subst he;exact⟨c,hc,h7⟩
     ·cases h
theorem K6{s:List zC}{V:List zB}{X:List Ev}(h:A7 s V=some X):EC s X:=Ka 6 0 0 0 0 V _ _ (Fg h).2
theorem Hz{s:List zC}:∀(d:Nat) (a nx:Nat),zY s d a nx→∀t,a≤t→t<nx→∃nx',zY s d t nx'∧nx'≤nx
 |0,_,_,h,_,_,_=>h.elim
 |d+1,a,nx,h,t,h1,h2=>by
  rcases Nat.eq_or_lt_of_le h1 with rfl|h1
  ·exact⟨nx,h,Nat.le_refl _⟩
  ·obtain⟨c,_,_,_,hp⟩:=h
   have key:∀(m pl:Nat) (names:List ByteArray),BX (zY s d) s m pl names nx→pl≤t→∃nx',zY s d t nx'∧nx'≤nx:=by
    intro m
    induction m with
    |zero=>
     intro pl names hp ht;have hp:pl=nx:=hp;omega
    |succ m ih=>
     intro pl names hp ht;obtain⟨q,mid,q1,q2,q3,q4⟩:=hp;have hmn:=CX (z_ d) _ _ _ _ q4;rcases Nat.lt_or_ge t mid with h|h
     ·obtain⟨nx',e1,e2⟩:=Hz d pl mid q3 t ht h
      exact⟨nx',e1,by omega⟩
     ·exact ih mid _ q4 h
   obtain⟨nx',e1,e2⟩:=key _ _ _ hp (by omega);exact⟨nx',JP d e1,e2⟩
where
 JP:∀{s:List zC} (d:Nat) {a b:Nat},zY s d a b→zY s (d+1) a b
 |_,0,_,_,h=>h.elim
 |s,d+1,a,b,⟨c,h1,h2,h3,h4⟩=>⟨c,h1,h2,h3,JO (fun x y h=>JP d h) _ _ _ _ h4⟩
 JO {S T:Nat→Nat→Prop} {s:List zC} (h:∀a b,S a b→T a b):∀(m pos:Nat) (names:List ByteArray) (nx:Nat),BX S s m pos names nx→BX T s m pos names nx
 |0,_,_,_,hp=>hp
 |m+1,_,_,_,⟨q,mid,q1,q2,q3,q4⟩=>⟨q,mid,q1,q2,h _ _ q3,JO h m _ _ _ q4⟩
def Bp(s:List zC)(t:Nat):Nat:=Aa s 6 t
theorem F3{s:List zC}{d a b:Nat}(hd:d≤6)(h:zY s d a b):Bp s a=b:=Dw d h 6 hd
theorem Ie{s:List zC}{d a nx:Nat}(hd:d≤6)(h:zY s d a nx){t:Nat}(h1:a≤t)(h2:t<nx):t<Bp s t∧Bp s t≤nx:=by
 obtain⟨nx',e1,e2⟩:=Hz d a nx h t h1 h2;rw[F3 hd e1];exact⟨z_ _ _ _ e1,e2⟩
def BB(s:List zC)(f:zC→Bool)(L:Nat):Nat→Nat→Nat
 |0,_=>0
 |n+1,t=>(match s[t]? with
  |none=>0
  |some c=>if L<Bp s t∧f c=true then 1 else 0)+BB s f L n (t+1)
theorem J4(s:List zC)(f:zC→Bool)(L:Nat):∀(m n t:Nat),(∀u,t≤u→u<t+m→Bp s u≤L)→BB s f L (m+n) t=BB s f L n (t+m)
 |0,n,t,_=>by simp
 |m+1,n,t,h=>by
  have h1:=h t (Nat.le_refl _) (by omega);have:=J4 s f L m n (t+1) (fun u h2 h3=>h u (by omega) (by omega));rw[show m+1+n=(m+n)+1 by omega];simp only[BB];rw[this,show t+1+m=t+(m+1) by omega];cases s[t]? with
  |none=>simp
  |some c=>simp only;rw[if_neg (by omega),Nat.zero_add]
def Az(s:List zC)(f:zC→Bool)(a L:Nat):Nat:=BB s f L (L+1-a) a
def Ap(c:zC):Bool:=c.2.2.1 !=0
def Bz(c:zC):Bool:=c.2.2.1==2
theorem KT(s:List zC)(f:zC→Bool)(a:Nat):Az s f (a+1) a=0:=by
 unfold Az;rw[show a+1-(a+1)=0 by omega];rfl
theorem II{s:List zC}{f:zC→Bool}{a L:Nat}{c:zC}(hc:s[a]?=some c)(h1:a≤L)(h2:L<Bp s a):Az s f a L=(if f c=true then 1 else 0)+Az s f (a+1) L:=by
 unfold Az;rw[show L+1-a=(L+1-(a+1))+1 by omega];simp only[BB,hc];by_cases h:f c=true
 ·rw[if_pos ⟨h2,h⟩,if_pos h]
 ·rw[if_neg (fun q=>h q.2),if_neg h]
theorem Js{s:List zC}{f:zC→Bool}{a b L:Nat}(hab:a≤b)(h1:b≤L)(h:∀u,a≤u→u<b→Bp s u≤L):Az s f a L=Az s f b L:=by
 unfold Az;rw[show L+1-a=(b-a)+(L+1-b) by omega,J4 s f L (b-a) _ a (fun u h2 h3=>h u h2 (by omega)),show a+(b-a)=b by omega]
structure H6(s:List zC)(a nx:Nat)(zA:Int)(e:Ev):Prop where
 lo:a≤e.at_
 hi:e.at_<nx
 ge:zA≤e.zA
 yes:e.leaf=true→e.zA=zA+(Az s Ap (a+1) e.at_:Nat)
 no:e.leaf=false→e.zA<zA+(Az s Ap (a+1) e.at_:Nat)
def JK(s:List zC)(a nx:Nat)(zA:Int)(r:Ar):Prop:=∀X W,r=some (X,W)→∀e,e∈X→H6 s a nx zA e
theorem G9{s:List zC}{rep zA:Int}:∀(n i:Nat) (e:Ev),e∈AY s rep zA n i→i≤e.at_∧e.at_<i+n∧e.leaf=false∧e.rep=rep∧e.zA=zA∧e.v=zv
 |0,i,e,h=>by cases h
 |n+1,i,e,h=>by
  simp only[AY,List.mem_append] at h;rcases h with h|h
  ·cases hc:s[i]? with
   |none=>rw[hc] at h;cases h
   |some c=>
    rw[hc] at h;simp only at h;split at h
    ·cases h
    ·rw[List.mem_singleton] at h
     subst h;exact⟨Nat.le_refl _,by simp,rfl,rfl,rfl,rfl⟩
  ·obtain⟨h1,h2,h3⟩:=G9 n (i+1) e h
   exact⟨by omega,by omega,h3⟩
theorem Jb{F:List zB→Ar}{P:Ev→Prop}(h:∀V X W,F V=some (X,W)→∀e,e∈X→P e):∀(m:Nat) (V:List zB) (X:List Ev) (W:List zB),Cb F m V=some (X,W)→∀e,e∈X→P e
 |0,V,X,W,he,e,hm=>by
  simp only[Cb,zX,Prod.mk.injEq] at he;obtain⟨rfl,rfl⟩:=he;cases hm
 |m+1,V,X,W,he,e,hm=>by
  simp only[Cb] at he;obtain⟨x,y,U,h1,h2,rfl⟩:=DF he;rcases List.mem_append.1 hm with hm|hm
  ·exact h _ _ _ h1 e hm
  ·exact Jb h m U y W h2 e hm
theorem Ii{s:List zC}{d pl mid:Nat}(hd:d≤6)(hs:zY s d pl mid){C:Int→Int→Int→List zB→Ar}(hC:∀rep zA deep V,JK s pl mid zA (C rep zA deep V))(rep zA deep:Int)(V:List zB)(X:List Ev)(W:List zB)
 (he:AL s C mid pl rep zA deep V=some (X,W)) (e:Ev) (hm:e∈X):pl≤e.at_∧e.at_<mid∧zA≤e.zA∧(e.leaf=true→e.zA=zA+(Az s Ap pl e.at_:Nat))∧(e.leaf=false→e.zA<zA+(Az s Ap pl e.at_:Nat)):=by
 have hend:=F3 hd hs;have hlt:=z_ _ _ _ hs;unfold AL at he;have fin:∀(c:zC) (dd:Int),s[pl]?=some c→dd=zA+(if Ap c=true then 1 else 0:Nat)→H6 s pl mid dd e→pl≤e.at_∧e.at_<mid∧zA≤e.zA∧(e.leaf=true→e.zA=zA+(Az s Ap pl e.at_:Nat))∧(e.leaf=false→e.zA<zA+(Az s Ap pl e.at_:Nat)):=by
  intro c dd hc hdd h;have GX:=II (f:=Ap) hc h.lo (by rw[hend];exact h.hi);refine⟨h.lo,h.hi,?_,fun hl=> ?_,fun hl=> ?_⟩
  ·have:=h.ge;omega
  ·rw[h.yes hl,GX,hdd];omega
  ·have:=h.no hl;rw[GX];omega
 split at he
 ·cases he
 ·rename_i c hc
  have KU:Ap c=true→∀U,some (AY s rep zA (mid-pl) pl,U)=some (X,W)→pl≤e.at_∧e.at_<mid∧zA≤e.zA∧(e.leaf=true→e.zA=zA+(Az s Ap pl e.at_:Nat))∧(e.leaf=false→e.zA<zA+(Az s Ap pl e.at_:Nat)):=by
   intro ho U he;simp only[zX,Prod.mk.injEq] at he;obtain⟨rfl,rfl⟩:=he;obtain⟨m1,m2,m3,_,m5,_⟩:=G9 _ _ _ hm;have GX:=II (f:=Ap) hc m1 (by rw[hend];omega);rw[if_pos ho] at GX;exact⟨m1,by omega,by omega,fun hl=>(by rw[m3] at hl;cases hl),fun _=>by omega⟩
  split at he
  ·rename_i h0
   refine fin c zA hc ?_ (hC _ _ _ _ X W he e hm);have:Ap c=false:=by simp[Ap,h0]
   rw[this];simp
  ·rename_i h0
   have ho:Ap c=true:=by simp[Ap,h0]
   split at he
   ·cases he
   ·split at he
    ·split at he
     ·cases he
     ·split at he
      ·exact KU ho _ he
      ·obtain⟨x,y,U,h1,h2,rfl⟩:=DF he
       refine fin c (zA+1) hc (by rw[if_pos ho];rfl) ?_;rcases List.mem_append.1 hm with hm|hm
       ·exact hC _ _ _ _ x U h1 e hm
       ·exact Jb (fun V X W=>hC _ _ _ V X W) _ _ _ _ h2 e hm
    ·split at he
     ·cases he
     ·split at he
      ·exact KU ho _ he
      ·exact fin c (zA+1) hc (by rw[if_pos ho];rfl) (hC _ _ _ _ X W he e hm)
theorem Gj{s:List zC}:∀(d a nx:Nat),d≤6→zY s d a nx→∀(rep zA deep:Int) (V:List zB),JK s a nx zA (Ae s d a rep zA deep V)
 |0,_,_,_,h,_,_,_,_=>h.elim
 |d+1,a,nx,hd,h,rep,zA,deep,V=>by
  intro X W he e hm;have hlt:=z_ _ _ _ h;have hsub:=h;obtain⟨c,hc,hco,_,hp⟩:=h;simp only[Ae,hc] at he;split at he
  ·rename_i h7
   have key:∀(m pl:Nat) (names:List ByteArray) (V:List zB) (X:List Ev) (W:List zB),BX (zY s d) s m pl names nx→a+1≤pl→(∀u,a+1≤u→u<pl→Bp s u≤pl)→jm (fun a V=>AL s (Ae s d a) (Aa s d a) a rep zA deep V) (Aa s d) m pl V=some (X,W)→
    ∀e,e∈X→pl≤e.at_∧e.at_<nx∧zA≤e.zA∧(e.leaf=true→e.zA=zA+(Az s Ap (a+1) e.at_:Nat))∧(e.leaf=false→e.zA<zA+(Az s Ap (a+1) e.at_:Nat)):=by
    intro m
    induction m with
    |zero=>
     intro pl names V X W hp h1 h2 he e hm;simp only[jm,zX,Prod.mk.injEq] at he;obtain⟨rfl,rfl⟩:=he;cases hm
    |succ m ih=>
     intro pl names V X W hp h1 h2 he e hm;obtain⟨q,mid,q1,q2,q3,q4⟩:=hp;have hmn:=CX (z_ d) _ _ _ _ q4;have hlt':=z_ _ _ _ q3;have hend:Aa s d pl=mid:=Dw d q3 d (Nat.le_refl _);simp only[jm] at he;obtain⟨x,y,U,g1,g2,rfl⟩:=DF he;rw[hend] at g1 g2;have h3:∀u,a+1≤u→u<mid→Bp s u≤mid:=fun u u1 u2=>by
      rcases Nat.lt_or_ge u pl with u3|u3
      ·have:=h2 u u1 u3;omega
      ·exact(Ie (by omega) q3 u3 u2).2
     rcases List.mem_append.1 hm with hm|hm
     ·obtain⟨r1,r2,r3,r4,r5⟩:=Ii (by omega) q3 (fun rep zA deep V=>Gj d pl mid (by omega) q3 rep zA deep V) rep zA deep V x U g1 e hm
      have hsk:=Js (s:=s) (f:=Ap) h1 r1 (fun u u1 u2=>by have:=h2 u u1 u2;omega);exact⟨r1,by omega,r3,fun hl=>by rw[r4 hl,hsk],fun hl=>by rw[hsk];exact r5 hl⟩
     ·obtain⟨r1,r2,r3⟩:=ih mid _ U y W q4 (by omega) h3 g2 e hm
      exact⟨by omega,r2,r3⟩
   obtain⟨r1,r2,r3,r4,r5⟩:=key _ _ _ _ _ _ hp (Nat.le_refl _) (fun u u1 u2=>by omega) he e hm;exact⟨by omega,r2,r3,r4,r5⟩
  ·split at he
   ·cases he
   ·split at he
    ·simp only[zX,Prod.mk.injEq] at he
     obtain⟨rfl,rfl⟩:=he;rw[List.mem_singleton] at hm;subst hm;refine⟨Nat.le_refl _,hlt,Int.le_refl _,fun _=> ?_,fun hl=>by cases hl⟩;rw[KT];simp
    ·cases he
theorem TK{s:List zC}(hS:Ck s){V:List zB}{X:List Ev}(h:A7 s V=some X):∀e,e∈X→H6 s 0 s.length 0 e:=
 Gj 6 0 s.length (by omega) hS.2.2.1 0 0 0 V X [] (Fg h).2
def zI(s:List zC):Nat→Nat
 |0=>0
 |a+1=>zI s a+(match s[a]? with
  |none=>0
  |some c=>if c.2.1=7 then 0 else 1)
theorem EL(s:List zC){a b:Nat}(h:a≤b):zI s a≤zI s b:=by
 induction h with
 |refl=>exact Nat.le_refl _
 |step _ ih=>simp only[zI];omega
theorem Ep(s:List zC):∀a,zI s a≤a
 |0=>Nat.le_refl _
 |a+1=>by
  have:=Ep s a;simp only[zI];split
  ·omega
  ·split<;>omega
theorem Ec{s:List zC}{a:Nat}{c:zC}(hc:s[a]?=some c)(h7:c.2.1≠7):zI s (a+1)=zI s a+1:=by
 simp only[zI,hc];rw[if_neg h7]
theorem Fx{s:List zC}{a:Nat}{c:zC}(hc:s[a]?=some c)(h7:c.2.1=7):zI s (a+1)=zI s a:=by
 simp only[zI,hc];rw[if_pos h7];rfl
theorem F9{s:List zC}{a:Nat}{c:zC}(hc:s[a]?=some c)(h7:c.2.1≠7):zI s a<zI s s.length:=by
 have h1:=Ec hc h7;have h2:a<s.length:=(List.getElem?_eq_some_iff.1 hc).1;have:=EL s (show a+1≤s.length by omega);omega
theorem Gy:∀(post pre:List zC) (s:List zC),s=pre++post→(Bd pre.length post).length+zI s pre.length=zI s s.length
 |[],pre,s,h=>by
  rw[AZ] at h;subst h;simp[Bd]
 |c::post,pre,s,h=>by
  have hc:s[pre.length]?=some c:=by rw[h];simp
  have hi:=Gy post (pre++[c]) s (by rw[h];simp);rw[A8,Co] at hi;by_cases h7:c.2.1=7
  ·rw[Fx hc h7] at hi
   simp only[Bd];rw[if_pos h7];exact hi
  ·rw[Ec hc h7] at hi
   simp only[Bd];rw[if_neg h7,Ct];omega
theorem Gx:∀(post pre:List zC) (s:List zC),s=pre++post→∀(j:Nat) (x:Int),(Bd pre.length post)[j]?=some x→∃a:Nat,x=(a:Int)∧pre.length≤a∧zI s a=zI s pre.length+j∧∃c,s[a]?=some c∧c.2.1≠7
 |[],pre,s,h,j,x,hx=>by simp[Bd] at hx
 |c::post,pre,s,h,j,x,hx=>by
  have hc:s[pre.length]?=some c:=by rw[h];simp
  have ih:=Gx post (pre++[c]) s (by rw[h];simp);rw[A8,Co] at ih;simp only[Bd] at hx;by_cases h7:c.2.1=7
  ·rw[if_pos h7] at hx
   obtain⟨a,h1,h2,h3,h4⟩:=ih j x hx;rw[Fx hc h7] at h3;exact⟨a,h1,by omega,h3,h4⟩
  ·rw[if_neg h7] at hx
   cases j with
   |zero=>
    simp only[List.getElem?_cons_zero,zX] at hx;exact⟨pre.length,hx.symm,Nat.le_refl _,rfl,c,hc,h7⟩
   |succ j=>
    simp only[List.getElem?_cons_succ] at hx;obtain⟨a,h1,h2,h3,h4⟩:=ih j x hx;rw[Ec hc h7] at h3;exact⟨a,h1,by omega,by omega,h4⟩
theorem G7{s:List zC}{a b:Nat}{c d:zC}(ha:s[a]?=some c)(hb:s[b]?=some d)(h7:c.2.1≠7)(Fu:d.2.1≠7)(h:zI s a=zI s b):a=b:=by
 rcases Nat.lt_trichotomy a b with q|q|q
 ·have:=EL s (show a+1≤b by omega)
  rw[Ec ha h7] at this;omega
 ·exact q
 ·have:=EL s (show b+1≤a by omega)
  rw[Ec hb Fu] at this;omega
theorem Tc{s:List zC}{a:Nat}{c:zC}(hc:s[a]?=some c)(h7:c.2.1≠7):(Bd 0 s)[zI s a]?=some (a:Int):=by
 have hl:=Gy s [] s rfl;have h1:=F9 hc h7;have hl':zI s a<(Bd 0 s).length:=by
  have:(Bd 0 s).length+0=zI s s.length:=hl;omega
 obtain⟨b,e1,_,e3,d,e4,e5⟩:=Gx s [] s rfl _ _ (Av hl');have e3:zI s b=0+zI s a:=e3;rw[Av hl',e1,G7 hc e4 h7 e5 (by omega)]
abbrev Ai:=List (List zO)
abbrev AR:=Option (List zB×List Nat×Bool)
def Bj(T:Ai)(pos:List Nat)(j:Nat):Option zO:=match T[j]?,pos[j]? with
 |some x,some p=>x[p]?
 |_,_=>none
def tk(T:Ai)(rep zA:Int)(pos:List Nat)(j:Nat):Option (zB×List Nat):=match Bj T pos j with
 |none=>none
 |some t=>if t.1=rep∧t.2.1=zA then some (t.2.2.1,pos.set j (pos.getD j 0+1)) else none
def Dj(T:Ai)(rep zA:Int):Nat→Nat→List Nat→Option (List Nat)
 |0,_,pos=>some pos
 |n+1,j,pos=>match tk T rep zA pos j with
  |none=>none
  |some (_,q)=>Dj T rep zA n (j+1) q
def FI(a:AR)(f:List Nat→AR):AR:=match a with
 |none=>none
 |some (x,p,l)=>match f p with
  |none=>none
  |some (y,q,m)=>some (x++y,q,l||m)
def CY(F:Nat→List Nat→AR)(e:Nat→Nat):Nat→Nat→List Nat→AR
 |0,_,pos=>some ([],pos,false)
 |m+1,a,pos=>FI (F a pos) (CY F e m (e a))
def CR(T:Ai)(j:Nat)(deep:Int)(C:List Nat→AR):Nat→List Nat→Option (Nat×List zB×List Nat×Bool)
 |0,_=>none
 |f+1,pos=>match Bj T pos j with
  |none=>some (0,[],pos,false)
  |some t=>if t.1=deep then(match C pos with
   |none=>none
   |some (x,p,l)=>match CR T j deep C f p with
    |none=>none
    |some (n,y,q,m)=>some (n+1,x++y,q,l||m)) else some (0,[],pos,false)
def CJ(T:Ai)(s:List zC)(C:Int→Int→Int→List Nat→AR)(e a:Nat)(rep zA deep:Int)(pos:List Nat):AR:=
 match s[a]? with
 |none=>none
 |some c=>if c.2.2.1=0 then C rep zA deep pos
  else match Bj T pos (zI s a) with
   |none=>none
   |some t=>if t.2.1≤zA then(match Dj T rep zA (zI s e-zI s a) (zI s a) pos with
    |none=>none
    |some q=>some ([zv],q,false))
    else if c.2.2.1=2 then(match C rep (zA+1) (deep+1) pos with
     |none=>none
     |some (x,p,l)=>match CR T (zI s a) (deep+1) (C (deep+1) (zA+1) (deep+1)) 3000 p with
      |none=>none
      |some (n,y,q,m)=>some ((((n+1:Nat):Int),⟨#[]⟩,())::(x++y),q,l||m||decide (20<n+1)))
    else(match C rep (zA+1) deep pos with
     |none=>none
     |some (x,p,l)=>some ((1,⟨#[]⟩,())::x,p,l))
def aC(T:Ai)(s:List zC):Nat→Nat→Int→Int→Int→List Nat→AR
 |0,_,_,_,_,_=>none
 |d+1,a,rep,zA,deep,pos=>match s[a]? with
  |none=>none
  |some c=>
   if c.2.1=7 then CY (fun a pos=>CJ T s (aC T s d a) (Aa s d a) a rep zA deep pos) (Aa s d) c.2.2.2.1.toNat (a+1) pos
   else match tk T rep zA pos (zI s a) with
    |none=>none
    |some (v,q)=>some ([v],q,false)
def Au(T:Ai)(pos:List Nat):Prop:=pos.length=T.length∧∀(j p:Nat) (x:List zO),pos[j]?=some p→T[j]?=some x→p≤x.length
structure Dt(T:Ai)(pos q:List Nat):Prop where
 ok:Au T q
 le:∀(j p:Nat),pos[j]?=some p→∃p':Nat,q[j]?=some p'∧p≤p'
 sum:pos.sum≤q.sum
theorem Dt.refl{T:Ai}{pos:List Nat}(h:Au T pos):Dt T pos pos:=⟨h,fun j p hp=>⟨p,hp,Nat.le_refl _⟩,Nat.le_refl _⟩
theorem Dt.trans{T:Ai}{a b c:List Nat}(h1:Dt T a b)(h2:Dt T b c):Dt T a c:=
 ⟨h2.ok,fun j p hp=>by
  obtain⟨p',e1,e2⟩:=h1.le j p hp;obtain⟨p'',e3,e4⟩:=h2.le j p' e1;exact⟨p'',e3,by omega⟩,Nat.le_trans h1.sum h2.sum⟩
theorem Ls:∀(l:List Nat) (j x y:Nat),l[j]?=some x→(l.set j y).sum+x=l.sum+y
 |[],j,x,y,h=>by simp at h
 |a::l,0,x,y,h=>by
  simp only[List.getElem?_cons_zero,zX] at h;subst h;simp only[List.set_cons_zero,List.sum_cons];omega
 |a::l,j+1,x,y,h=>by
  simp only[List.getElem?_cons_succ] at h;have:=Ls l j x y h;simp only[List.set_cons_succ,List.sum_cons];omega
theorem KX{T:Ai}{pos:List Nat}{j:Nat}{t:zO}(h:Bj T pos j=some t):∃x p,T[j]?=some x∧pos[j]?=some p∧x[p]?=some t:=by
 unfold Bj at h;split at h
 ·rename_i x p hx hp
  exact⟨x,p,hx,hp,h⟩
 ·cases h
theorem FW{T:Ai}{rep zA:Int}{pos:List Nat}{j:Nat}{v:zB}{q:List Nat}(h:tk T rep zA pos j=some (v,q))(hp:Au T pos):
 ∃x p,T[j]?=some x∧pos[j]?=some p∧x[p]?=some (rep,zA,v,())∧q=pos.set j (p+1)∧Dt T pos q∧q.sum=pos.sum+1:=by
 unfold tk at h;split at h
 ·cases h
 ·rename_i t ht
  split at h
  ·rename_i hc
   simp only[zX,Prod.mk.injEq] at h;obtain⟨rfl,rfl⟩:=h;obtain⟨x,p,h1,h2,h3⟩:=KX ht;have hjl:j<pos.length:=(List.getElem?_eq_some_iff.1 h2).1;have hgd:pos.getD j 0=p:=by rw[List.getD_eq_getElem?_getD,h2];rfl
   rw[hgd];have hsum:=Ls pos j p (p+1) h2;refine⟨x,p,h1,h2,?_,rfl,⟨⟨?_,?_⟩,?_,?_⟩,by omega⟩
   ·rw[h3]
    obtain⟨a,b,w,⟨⟩⟩:=t;obtain⟨rfl,rfl⟩:=hc;rfl
   ·rw[List.length_set];exact hp.1
   ·intro i p' y hi hy
    rw[List.getElem?_set] at hi;split at hi
    ·rename_i hij
     subst hij;simp only[hjl,if_true,zX] at hi;rw[h1] at hy;cases hy;have:=(List.getElem?_eq_some_iff.1 h3).1;omega
    ·exact hp.2 i p' y hi hy
   ·intro i p' hi
    rw[List.getElem?_set];split
    ·rename_i hij
     subst hij;rw[h2] at hi;cases hi;exact⟨p+1,by simp[hjl],by omega⟩
    ·exact⟨p',hi,Nat.le_refl _⟩
   ·omega
  ·cases h
theorem JF{T:Ai}{rep zA:Int}:∀(n j:Nat) (pos q:List Nat),Dj T rep zA n j pos=some q→Au T pos→Dt T pos q∧q.sum=pos.sum+n
 |0,j,pos,q,h,hp=>by
  simp only[Dj,zX] at h;subst h;exact⟨Dt.refl hp,rfl⟩
 |n+1,j,pos,q,h,hp=>by
  simp only[Dj] at h;split at h
  ·cases h
  ·rename_i v q1 h1
   obtain⟨_,_,_,_,_,_,a1,a2⟩:=FW h1 hp;obtain⟨b1,b2⟩:=JF n (j+1) q1 q h a1.ok;exact⟨a1.trans b1,by omega⟩
def EW(T:Ai)(j m:Nat)(pos:List Nat)(r:AR):Prop:=∀Y q l,r=some (Y,q,l)→Au T pos→
 Dt T pos q∧Y.length+m*pos.sum≤m*q.sum∧∃p p':Nat,pos[j]?=some p∧q[j]?=some p'∧p<p'
theorem JS{T:Ai}{j:Nat}{deep:Int}{C:List Nat→AR}{m:Nat}(hC:∀pos,EW T j m pos (C pos)):∀(f:Nat) (pos:List Nat) (n:Nat) (Y:List zB) (q:List Nat) (l:Bool),CR T j deep C f pos=some (n,Y,q,l)→Au T pos→
 Dt T pos q∧Y.length+m*pos.sum≤m*q.sum
 |0,pos,n,Y,q,l,h,hp=>by cases h
 |f+1,pos,n,Y,q,l,h,hp=>by
  simp only[CR] at h;have FX:some (0,([]:List zB),pos,false)=some (n,Y,q,l)→Dt T pos q∧Y.length+m*pos.sum≤m*q.sum:=by
   intro h;simp only[zX,Prod.mk.injEq] at h;obtain⟨rfl,rfl,rfl,rfl⟩:=h;exact⟨Dt.refl hp,by simp⟩
  split at h
  ·exact FX h
  ·split at h
   ·split at h
    ·cases h
    ·rename_i x p l1 h1
     split at h
     ·cases h
     ·rename_i n2 y q2 m2 h2
      simp only[zX,Prod.mk.injEq] at h;obtain⟨rfl,rfl,rfl,rfl⟩:=h;obtain⟨a1,a2,_⟩:=hC pos _ _ _ h1 hp;obtain⟨b1,b2⟩:=JS hC f p _ _ _ _ h2 a1.ok;exact⟨a1.trans b1,by rw[A8];omega⟩
   ·exact FX h
theorem JU{a:AR}{f:List Nat→AR}{Y:List zB}{q:List Nat}{l:Bool}(h:FI a f=some (Y,q,l)):∃x p l1 y l2,a=some (x,p,l1)∧f p=some (y,q,l2)∧Y=x++y∧l=(l1||l2):=by
 unfold FI at h;split at h
 ·cases h
 ·rename_i x p l1
  split at h
  ·cases h
  ·rename_i y q2 m hf
   simp only[zX,Prod.mk.injEq] at h;obtain⟨rfl,rfl,rfl⟩:=h;exact⟨x,p,l1,y,m,rfl,hf,rfl,rfl⟩
theorem G8{s:List zC}{d a nx:Nat}(h:zY s d a nx):zI s a<zI s nx:=by
 have key:∀(d a nx:Nat),zY s d a nx→zI s a<zI s nx:=by
  intro d
  induction d with
  |zero=>intro a nx h;exact h.elim
  |succ d ih=>
   intro a nx h;obtain⟨c,hc,hco,_,hp⟩:=h;by_cases h7:c.2.1=7
   ·have hm0:0<c.2.2.2.1:=by
     unfold AX at hco;rw[h7,Eg] at hco;simp at hco;exact hco.1
    obtain⟨m,hm⟩:∃m,c.2.2.2.1.toNat=m+1:=⟨c.2.2.2.1.toNat-1,by omega⟩;rw[hm] at hp;obtain⟨q,mid,_,_,q3,q4⟩:=hp;have h1:=ih (a+1) mid q3;have h2:=EL s (CX (z_ d) _ _ _ _ q4);rw[Fx hc h7] at h1;omega
   ·have hm0:c.2.2.2.1.toNat=0:=by
     unfold AX at hco;rw[zS h7] at hco;simp at hco;omega
    rw[hm0] at hp;have hp:a+1=nx:=hp;subst hp;rw[Ec hc h7];omega
 exact key d a nx h
theorem Ib{T:Ai}{s:List zC}{d a e m:Nat}(hs:zY s d a e){C:Int→Int→Int→List Nat→AR}(hC:∀r q p pos,EW T (zI s a) m pos (C r q p pos))(rep zA deep:Int)(pos:List Nat):
 EW T (zI s a) (m+1) pos (CJ T s C e a rep zA deep pos):=by
 intro Y q l h hp;unfold CJ at h;split at h
 ·cases h
 ·rename_i c hc
  split at h
  ·obtain⟨a1,a2,a3⟩:=hC _ _ _ _ _ _ _ h hp
   refine⟨a1,?_,a3⟩;have:=a1.sum;rw[Nat.add_mul,Nat.add_mul];omega
  ·split at h
   ·cases h
   ·rename_i t ht
    obtain⟨x0,p0,t1,t2,t3⟩:=KX ht;split at h
    ·split at h
     ·cases h
     ·rename_i q1 h1
      simp only[zX,Prod.mk.injEq] at h;obtain⟨rfl,rfl,rfl⟩:=h;have hlt:=G8 hs;obtain⟨n,hn⟩:∃n,zI s e-zI s a=n+1:=⟨zI s e-zI s a-1,by omega⟩;rw[hn] at h1;obtain⟨b1,b2⟩:=JF _ _ _ _ h1 hp;refine⟨b1,?_,?_⟩
      ·simp only[Co]
       rw[b2,Nat.mul_add,Nat.mul_add,Nat.mul_one,Nat.add_mul];omega
      ·simp only[Dj] at h1
       split at h1
       ·cases h1
       ·rename_i v q2 h2
        obtain⟨x,p,e1,e2,e3,e4,e5,e6⟩:=FW h2 hp;obtain⟨g1,g2⟩:=JF _ _ _ _ h1 e5.ok;have hq2:q2[zI s a]?=some (p+1):=by
         rw[e4,List.getElem?_set_self (List.getElem?_eq_some_iff.1 e2).1]
        obtain⟨p',f1,f2⟩:=g1.le _ _ hq2;exact⟨p,p',e2,f1,by omega⟩
    ·split at h
     ·split at h
      ·cases h
      ·rename_i x p l1 h1
       split at h
       ·cases h
       ·rename_i n y q1 m1 h2
        simp only[zX,Prod.mk.injEq] at h;obtain⟨rfl,rfl,rfl⟩:=h;obtain⟨a1,a2,pa,pb,a3,a4,a5⟩:=hC _ _ _ _ _ _ _ h1 hp;obtain⟨b1,b2⟩:=JS (fun pos=>hC _ _ _ pos) _ _ _ _ _ _ h2 a1.ok;obtain⟨pc,f1,f2⟩:=b1.le _ _ a4;have UJ:=a1.sum;have UK:=b1.sum;have hlt:pos.sum<p.sum:=by
         rcases Nat.lt_or_ge pos.sum p.sum with h|h
         ·exact h
         ·exfalso
          have:=sum_lt a1 a3 a4 a5;omega
        refine⟨a1.trans b1,?_,pa,pc,a3,f1,by omega⟩;simp only[Ct,A8];rw[Nat.add_mul,Nat.add_mul];omega
     ·split at h
      ·cases h
      ·rename_i x p l1 h1
       simp only[zX,Prod.mk.injEq] at h;obtain⟨rfl,rfl,rfl⟩:=h;obtain⟨a1,a2,pa,pb,a3,a4,a5⟩:=hC _ _ _ _ _ _ _ h1 hp;have hlt:=sum_lt a1 a3 a4 a5;refine⟨a1,?_,pa,pb,a3,a4,a5⟩;simp only[Ct];rw[Nat.add_mul,Nat.add_mul];omega
where
 sum_lt {T:Ai} {pos q:List Nat} {j p p':Nat} (h:Dt T pos q) (h1:pos[j]?=some p) (h2:q[j]?=some p') (h3:p<p'):pos.sum<q.sum:=by
  have key:∀(a b:List Nat),a.length≤b.length→(∀(j p:Nat),a[j]?=some p→∃p':Nat,b[j]?=some p'∧p≤p')→a.sum≤b.sum:=by
   intro a
   induction a with
   |nil=>intro b _ _;simp
   |cons x a ih=>
    intro b hl h;cases b with
    |nil=>simp at hl
    |cons y b=>
     obtain⟨p',e1,e2⟩:=h 0 x rfl;simp only[List.getElem?_cons_zero,zX] at e1;subst e1;have:=ih b (by simpa using hl) (fun j p hp=>h (j+1) p (by simpa using hp));simp only[List.sum_cons];omega
  have SN:∀(a b:List Nat) (j p p':Nat),(∀(j p:Nat),a[j]?=some p→∃p':Nat,b[j]?=some p'∧p≤p')→a[j]?=some p→b[j]?=some p'→p<p'→a.sum<b.sum:=by
   intro a
   induction a with
   |nil=>intro b j p p' _ h;simp at h
   |cons x a ih=>
    intro b j p p' h h1 h2 h3;cases b with
    |nil=>simp at h2
    |cons y b=>
     have hle:∀(j p:Nat),a[j]?=some p→∃p':Nat,b[j]?=some p'∧p≤p':=fun j p hp=>h (j+1) p (by simpa using hp);have hlen:a.length≤b.length:=by
      rcases Nat.lt_or_ge b.length a.length with c|c
      ·obtain⟨p',e1,_⟩:=hle b.length _ (Av c)
       have:=(List.getElem?_eq_some_iff.1 e1).1;omega
      ·exact c
     cases j with
     |zero=>
      simp only[List.getElem?_cons_zero,zX] at h1 h2;subst h1;subst h2;have:=key a b hlen hle;simp only[List.sum_cons];omega
     |succ j=>
      simp only[List.getElem?_cons_succ] at h1 h2;have:=ih b j p p' hle h1 h2 h3;obtain⟨p'',e1,e2⟩:=h 0 x rfl;simp only[List.getElem?_cons_zero,zX] at e1;subst e1;simp only[List.sum_cons];omega
  exact SN pos q j p p' h.le h1 h2 h3
theorem Fq{T:Ai}{s:List zC}:∀(d a nx:Nat),zY s d a nx→∀(rep zA deep:Int) (pos:List Nat),EW T (zI s a) d pos (aC T s d a rep zA deep pos)
 |0,_,_,h,_,_,_,_=>h.elim
 |d+1,a,nx,h,rep,zA,deep,pos=>by
  intro Y q l he hp;obtain⟨c,hc,hco,_,Ad⟩:=h;simp only[aC,hc] at he;split at he
  ·rename_i h7
   have hm0:0<c.2.2.2.1:=by
    unfold AX at hco;rw[h7,Eg] at hco;simp at hco;exact hco.1
   have key:∀(m pl:Nat) (names:List ByteArray) (pos:List Nat) (Y:List zB) (q:List Nat) (l:Bool),BX (zY s d) s m pl names nx→CY (fun a pos=>CJ T s (aC T s d a) (Aa s d a) a rep zA deep pos) (Aa s d) m pl pos=some (Y,q,l)→Au T pos→
    Dt T pos q∧Y.length+(d+1)*pos.sum≤(d+1)*q.sum∧(0<m→∃p p':Nat,pos[zI s pl]?=some p∧q[zI s pl]?=some p'∧p<p'):=by
    intro m
    induction m with
    |zero=>
     intro pl names pos Y q l Ad he hp;simp only[CY,zX,Prod.mk.injEq] at he;obtain⟨rfl,rfl,rfl⟩:=he;exact⟨Dt.refl hp,by simp,fun h=>by omega⟩
    |succ m ih=>
     intro pl names pos Y q l Ad he hp;obtain⟨_,mid,_,_,q3,q4⟩:=Ad;have hend:Aa s d pl=mid:=Dw d q3 d (Nat.le_refl _);simp only[CY] at he;obtain⟨x,p,l1,y,l2,g1,g2,rfl,rfl⟩:=JU he;rw[hend] at g1 g2;obtain⟨a1,a2,pa,pb,a3,a4,a5⟩:=Ib q3 (fun r q p pos=>Fq d pl mid q3 r q p pos) rep zA deep pos _ _ _ g1 hp;obtain⟨b1,b2,_⟩:=ih mid _ p y q l2 q4 g2 a1.ok;obtain⟨pc,f1,f2⟩:=b1.le _ _ a4;exact⟨a1.trans b1,by rw[A8];omega,fun _=>⟨pa,pc,a3,f1,by omega⟩⟩
   obtain⟨k1,k2,k3⟩:=key _ _ _ _ _ _ _ Ad he hp;have:=k3 (by omega);rw[Fx hc h7] at this;exact⟨k1,k2,this⟩
  ·split at he
   ·cases he
   ·rename_i v q1 h1
    simp only[zX,Prod.mk.injEq] at he;obtain⟨rfl,rfl,rfl⟩:=he;obtain⟨x,p,e1,e2,e3,e4,e5,e6⟩:=FW h1 hp;refine⟨e5,?_,p,p+1,e2,?_,by omega⟩
    ·rw[e6,Nat.mul_add,Nat.mul_one,Co];omega
    ·rw[e4,List.getElem?_set_self (List.getElem?_eq_some_iff.1 e2).1]
abbrev TT:=List (List zO)
def A_(s:List zC)(T:TT)(e:Ev):TT:=
 match T[zI s e.at_]? with
 |none=>T
 |some x=>T.set (zI s e.at_) (x++[(e.rep,e.zA,e.v,())])
def SP(s:List zC)(m:Nat)(T:TT):Prop:=T.length=zI s s.length∧∀(j:Nat) (x:List zO),T[j]?=some x→x.length+m≤4294967295
theorem SP.step{s:List zC}{m:Nat}{T:TT}(h:SP s (m+1) T)(e:Ev):SP s m (A_ s T e):=by
 obtain⟨h1,h2⟩:=h;unfold A_;split
 ·exact⟨h1,fun j x hx=>by have:=h2 j x hx;omega⟩
 ·rename_i x hx
  refine⟨by simpa using h1,fun i y hy=> ?_⟩;rw[List.getElem?_set] at hy;split at hy
  ·split at hy
   ·simp only[zX] at hy
    subst hy;have:=h2 _ _ hx;simp;omega
   ·cases hy
  ·have:=h2 _ _ hy;omega
theorem SP.le{s:List zC}{m n:Nat}{T:TT}(h:SP s m T)(hn:n≤m):SP s n T:=⟨h.1,fun j x hx=>by have:=h.2 j x hx;omega⟩
theorem SP.fold{s:List zC}:∀(X:List Ev) (T:TT) (m:Nat),SP s (m+X.length) T→SP s m (X.foldl (A_ s) T)
 |[],T,m,h=>h
 |e::X,T,m,h=>by
  rw[List.foldl_cons];refine SP.fold X _ m (SP.step (h.le ?_) e);simp;omega
section
variable(k:Nat)(s:List zC)(hs:s.length≤20)(hn:∀c,c∈s→c.1.size<k∧c.1.size<1000000000∧AB c.2.2.2.1)(hk:2000000≤k)
include hs hk
theorem FV(a:Nat)(ha:a≤s.length):CL k s (a:Int)=some (zI s a:Int):=by
 have key:∀(m i f:Nat),a=i+m→m<f→CL.l3 k f s (a:Int) (zI s i:Int) (i:Int)=some (zI s a:Int):=by
  intro m
  induction m with
  |zero=>
   intro i f h hf;obtain⟨f,rfl⟩:∃q,f=q+1:=⟨f-1,by omega⟩;obtain rfl:a=i:=by omega
   simp only[CL.l3,zN (show ¬((a:Int)<(a:Int)) by omega),zG]
  |succ m ih=>
   intro i f h hf;obtain⟨f,rfl⟩:∃q,f=q+1:=⟨f-1,by omega⟩;have hi:i<s.length:=by omega
   have hc:=Av hi;have hl:=Ep s i;have h1:IntKind.wrap .i64 ((i:Int)+1)=((i+1:Nat):Int):=by rw[zP (by omega) (by omega)];omega
   have h2:IntKind.wrap .i64 ((zI s i:Int)+1)=((zI s i+1:Nat):Int):=by rw[zP (by omega) (by omega)];omega
   have hr:=ih (i+1) f (by omega) (by omega);simp only[CL.l3,zM (show(i:Int)<(a:Int) by omega),zF,Ak,hc,zD,CL.c4,h1,h2];by_cases h7:(s[i]).2.1=7
   ·rw[Ba h7,zG,←hr,Fx hc h7]
   ·rw[Br h7,zF,←hr,Ec hc h7]
 have:=key a 0 k (by omega) (by omega);exact this
theorem Lm{T:TT}{m a:Nat}(h:SP s (m+1) T){c:zC}(hc:s[a]?=some c)(h7:c.2.1≠7)(lf:Bool)(rep zA:Int)(v:zB):
 ∃x,T[zI s a]?=some x∧x.length+(m+1)≤4294967295∧A_ s T ⟨a,lf,rep,zA,v⟩=T.set (zI s a) (x++[(rep,zA,v,())]):=by
 have hl:zI s a<T.length:=by rw[h.1];exact F9 hc h7
 refine⟨T[zI s a],Av hl,h.2 _ _ (Av hl),?_⟩;unfold A_;rw[Av hl]
include hn
theorem Ue{d a nx:Nat}(h:zY s d a nx)(hd:d≤6)(hnx:nx≤s.length)(rep zA:Int)(T:TT)(m:Nat)(hT:SP s (m+(AY s rep zA (nx-a) a).length) T):
 Ew k s (a:Int) (rep,zA,(0,zR,()),()) T=some ((),(AY s rep zA (nx-a) a).foldl (A_ s) T):=by
 have Cx:=FO k s hs hn (by omega) h hd hnx;have hlt:=z_ _ _ _ h;unfold Ew;rw[FV k s hs hk a (by omega)];simp only[zD];have key:∀(n i f:Nat) (T:TT),i+n=nx→n<f→SP s (m+(AY s rep zA n i).length) T→Ew.l2 k f s (a:Int) (zI s i:Int) T (rep,zA,(0,zR,()),())=some ((),(AY s rep zA n i).foldl (A_ s) T):=by
  intro n
  induction n with
  |zero=>
   intro i f T hi hf hT;obtain⟨f,rfl⟩:∃q,f=q+1:=⟨f-1,by omega⟩;obtain rfl:i=nx:=by omega
   simp only[Ew.l2,Cx,zD,FV k s hs hk i hnx,zN (show ¬((zI s i:Int)<(zI s i:Int)) by omega),zG,AY,List.foldl_nil]
  |succ n ih=>
   intro i f T hi hf hT;have hc:=Av (show i<s.length by omega);by_cases h7:(s[i]).2.1=7
   ·simp only[AY,hc] at hT⊢
    rw[if_pos h7,List.nil_append] at hT⊢;rw[←ih (i+1) f T (by omega) (by omega) hT,Fx hc h7]
   ·obtain⟨f,rfl⟩:∃q,f=q+1:=⟨f-1,by omega⟩
    simp only[AY,hc] at hT⊢;rw[if_neg h7,List.singleton_append] at hT⊢;rw[Ct,←Nat.add_assoc] at hT;obtain⟨x,x1,x2,x3⟩:=Lm k s hs hk hT hc h7 false rep zA zv;have hle:=EL s (show i+1≤nx by omega);have hle2:=Ep s i;rw[Ec hc h7] at hle;have h2:IntKind.wrap .i64 ((zI s i:Int)+1)=((zI s i+1:Nat):Int):=by rw[zP (by omega) (by omega)];omega
    have hr:=ih (i+1) f (A_ s T ⟨i,false,rep,zA,zv⟩) (by omega) (by omega) (SP.step hT _);rw[List.foldl_cons,←hr,Ec hc h7,x3];simp only[Ew.l2,Cx,zD,FV k s hs hk nx hnx,zM (show(zI s i:Int)<(zI s nx:Int) by omega),zF,Ak,x1,beq_self_eq_true,Int.toNat_natCast,h2];rw[Cm (by simp;omega),zF];rfl
 exact key (nx-a) a k T (by omega) (by omega) hT
variable(V:List zB)(hV:V.length≤1048576)
include hV
def CG(D a:Nat)(d:Nat)(C:Int→Int→Int→List zB→Ar):Prop:=
 ∀(rep zA deep:Int) (pos:Nat) (X:List Ev) (W:List zB) (T:TT) (m:Nat),pos≤V.length→C rep zA deep (V.drop pos)=some (X,W)→0≤zA→zA+d≤1001→0≤deep→deep+d≤1001→SP s (m+X.length) T→
  (Be.rec k D).1 s (a:Int) V (pos:Int) rep zA deep T=some (((),((V.length-W.length:Nat):Int)),X.foldl (A_ s) T)
theorem TY(D d a:Nat)(C:Int→Int→Int→List zB→Ar)(hg:∀r q p V,Bc V (C r q p V))(h:CG k s V D a d C)(zA deep:Int)(n:Int)(hn1:n≤1000)(b0:0≤zA)(b1:zA+1+d≤1001)(b2:0≤deep)(b3:deep+d≤1001):
 ∀(m:Nat) (i:Int) (f pos:Nat) (X:List Ev) (W:List zB) (T:TT) (j:Nat),pos≤V.length→Cb (C deep (zA+1) deep) m (V.drop pos)=some (X,W)→n=i+m→0≤i→SP s (j+X.length) T→
  Cv.l10 k (Be.rec k D).1 (f+1+m) s (a:Int) V (pos:Int) deep zA deep n i T=some (((),((V.length-W.length:Nat):Int)),X.foldl (A_ s) T):=by
 intro m
 induction m with
 |zero=>
  intro i f pos X W T j hp he hi h0 hT;simp only[Cb,zX,Prod.mk.injEq] at he;obtain⟨rfl,rfl⟩:=he;have:V.length-(V.drop pos).length=pos:=by simp only[List.length_drop];omega
  simp only[Nat.add_zero,Cv.l10,zN (show ¬(i<n) by omega),zG,this,List.foldl_nil]
 |succ m ih=>
  intro i f pos X W T j hp he hi h0 hT;simp only[Cb] at he;obtain⟨x,y,U,h1,h2,rfl⟩:=DF he;obtain⟨p1,p2,p3,p4⟩:=Jd (hg deep (zA+1) deep) hp h1;have hU:U=V.drop (V.length-U.length):=p2.symm;rw[hU] at h2;have hi1:IntKind.wrap .i64 (i+1)=i+1:=zP (by omega) (by omega);have hd1:IntKind.wrap .i64 (zA+1)=zA+1:=zP (by omega) (by omega);have hT':SP s (j+y.length+x.length) T:=hT.le (by simp;omega);rw[show f+1+(m+1)=(f+1+m)+1 by omega];simp only[Cv.l10,zM (show i<n by omega),zF,hd1,hi1];rw[h deep (zA+1) deep pos x U T (j+y.length) hp h1 (by omega) (by omega) b2 b3 hT'];simp only[zD];rw[ih (i+1) f (V.length-U.length) y W _ j p1 h2 (by omega) (by omega) (SP.fold x T _ hT'),List.foldl_append]
theorem T9(D d a e:Nat)(C:Int→Int→Int→List zB→Ar)(c:zC)(hc:s[a]?=some c)(hr:c.2.2.1=0∨c.2.2.1=1∨c.2.2.1=2)(hg:∀r q p V,Bc V (C r q p V))(h:CG k s V D a d C)(hS:zY s d a e)(hd6:d≤6)(hel:e≤s.length)
 (rep zA deep:Int) (pos:Nat) (X:List Ev) (W:List zB) (T:TT) (j:Nat) (hp:pos≤V.length) (he:AL s C e a rep zA deep (V.drop pos)=some (X,W)) (b0:0≤zA) (b1:zA+1+d≤1001) (b2:0≤deep) (b3:deep+1+d≤1001) (hT:SP s (j+X.length) T):
 (Be.rec k (D+1)).2 s (a:Int) V (pos:Int) rep zA deep T=some (((),((V.length-W.length:Nat):Int)),X.foldl (A_ s) T):=by
 have hp1:IntKind.wrap .i64 ((pos:Int)+1)=((pos+1:Nat):Int):=by rw[zP (by omega) (by omega)];omega
 have hd1:IntKind.wrap .i64 (zA+1)=zA+1:=zP (by omega) (by omega);have hq1:IntKind.wrap .i64 (deep+1)=deep+1:=zP (by omega) (by omega);unfold AL at he;simp only[hc] at he;simp only[Be.rec,Cv.b,Ak,hc,zD];by_cases h0:c.2.2.1=0
 ·rw[if_pos h0] at he
  rw[Al h0,zF,h rep zA deep pos X W T j hp he b0 (by omega) b2 (by omega) hT];rfl
 ·rw[if_neg h0] at he
  rw[zS h0,zG];by_cases hlt:pos<V.length
  ·have hd:V.drop pos=V[pos]::V.drop (pos+1):=List.drop_eq_getElem_cons hlt
   rw[hd] at he;simp only at he;rw[Av hlt];simp only[zD,hp1,Cv.c9,hq1]
   have none_:some (AY s rep zA (e-a) a,V.drop (pos+1))=some (X,W)→
    ((Ew k s (a:Int) (rep,zA,(0,zR,()),()) T).bind fun r5=>some (((),((pos+1:Nat):Int)),r5.2))=some (((),((V.length-W.length:Nat):Int)),X.foldl (A_ s) T):=by
    intro he;simp only[zX,Prod.mk.injEq] at he;obtain⟨rfl,rfl⟩:=he;have hl:V.length-(V.drop (pos+1)).length=pos+1:=by simp only[List.length_drop];omega
    rw[Ue k s hs hn hk hS hd6 hel rep zA T j hT,hl];rfl
   by_cases h2:c.2.2.1=2
   ·rw[if_pos h2] at he
    split at he
    ·cases he
    ·rename_i hb
     have hb:=FY (by simpa using hb);split at he
     ·rename_i hv0
      rw[Al hv0,zF];exact none_ he
     ·rename_i hv0
      rw[zS hv0,zG,Al h2,zF];obtain⟨n,hn'⟩:∃n:Nat,V[pos].1=((n+1:Nat):Int):=⟨V[pos].1.toNat-1,by omega⟩;obtain⟨x,y,U,g1,g2,rfl⟩:=DF he;rw[show V[pos].1.toNat-1=n by omega] at g2;obtain⟨p1,p2,p3,p4⟩:=Jd (hg rep (zA+1) (deep+1)) (by omega) g1;have hU:U=V.drop (V.length-U.length):=p2.symm;rw[hU] at g2;have hT':SP s (j+y.length+x.length) T:=hT.le (by simp;omega);have s1:=h rep (zA+1) (deep+1) (pos+1) x U T (j+y.length) (by omega) g1 (by omega) (by omega) (by omega) (by omega) hT';have s2:=TY k s hs hn hk V hV D d a C hg h zA (deep+1) V[pos].1 (by omega) b0 b1 (by omega) (by omega) n (0+1) (k-1-1-n) (V.length-U.length) y W (x.foldl (A_ s) T) j p1 g2 (by omega) (by omega) (SP.fold x T _ hT');rw[show k-1-1-n+1+n=k-1 by omega] at s2
      conv=>lhs;arg 3;rw[show k=(k-1)+1 by omega]
      simp only[Cv.l10,zM (show(0:Int)<V[pos].1 by omega),zF,hd1,s1,zD];rw[show IntKind.wrap .i64 ((0:Int)+1)=0+1 by decide,s2,List.foldl_append]
   ·rw[if_neg h2] at he
    split at he
    ·cases he
    ·rename_i hb
     have hb:=FY (by simpa using hb);split at he
     ·rename_i hv0
      rw[Al hv0,zF];exact none_ he
     ·rename_i hv0
      rw[zS hv0,zG,zS h2,zG];have hv1:V[pos].1=1:=by omega
      have s1:=h rep (zA+1) deep (pos+1) X W T j (by omega) he (by omega) (by omega) (by omega) (by omega) hT
      conv=>lhs;arg 3;rw[show k=(k-2)+1+1 by omega]
      simp only[Cv.l10,hv1,zM (show(0:Int)<1 by omega),zF,hd1,s1,zD];rw[show IntKind.wrap .i64 ((0:Int)+1)=1 by decide];simp only[zN (show ¬((1:Int)<1) by omega),zG]
  ·have hd:V.drop pos=[]:=List.drop_of_length_le (by omega)
   rw[hd] at he;cases he
theorem T_(d D:Nat)(hd:d≤6)(a:Nat)(c:zC)(hc:s[a]?=some c)(hcm:c.2.2.2.1≤1000000)(nx:Nat)(hnx:nx≤s.length)(rep zA deep:Int)
 (Q:∀pl mid,zY s d pl mid→mid≤s.length→∀(pos:Nat) (X:List Ev) (W:List zB) (T:TT) (j:Nat),pos≤V.length→AL s (Ae s d pl) mid pl rep zA deep (V.drop pos)=some (X,W)→SP s (j+X.length) T→
  (Be.rec k D).2 s (pl:Int) V (pos:Int) rep zA deep T=some (((),((V.length-W.length:Nat):Int)),X.foldl (A_ s) T)):
 ∀(m pl:Nat) (i:Int) (names:List ByteArray) (f pos:Nat) (X:List Ev) (W:List zB) (T:TT) (j:Nat),BX (zY s d) s m pl names nx→c.2.2.2.1-i=m→0≤i→m<f→pos≤V.length→SP s (j+X.length) T→
  jm (fun a V=>AL s (Ae s d a) (Aa s d a) a rep zA deep V) (Aa s d) m pl (V.drop pos)=some (X,W)→
  Be.l7 k (Be.rec k D).2 f s (a:Int) V (pos:Int) rep zA deep (pl:Int) i T=some (((),((V.length-W.length:Nat):Int)),X.foldl (A_ s) T):=by
 intro m
 induction m with
 |zero=>
  intro pl i names f pos X W T j hp hi h0 hf hpos hT he;obtain⟨f,rfl⟩:∃q,f=q+1:=⟨f-1,by omega⟩;simp only[jm,zX,Prod.mk.injEq] at he;obtain⟨rfl,rfl⟩:=he;have:V.length-(V.drop pos).length=pos:=by simp only[List.length_drop];omega
  simp only[Be.l7,Ak,hc,zD,zN (show ¬(i<c.2.2.2.1) by omega),zG,this,List.foldl_nil]
 |succ m ih=>
  intro pl i names f pos X W T j hp hi h0 hf hpos hT he;obtain⟨q,mid,q1,q2,q3,q4⟩:=hp;have hmn:=CX (z_ d) _ _ _ _ q4;obtain⟨f,rfl⟩:∃q,f=q+1:=⟨f-1,by omega⟩;have hi1:IntKind.wrap .i64 (i+1)=i+1:=zP (by omega) (by omega);have hend:Aa s d pl=mid:=Dw d q3 d (Nat.le_refl _);have Cx:=FO k s hs hn (by omega) q3 hd (by omega);simp only[jm] at he;obtain⟨x,y,U,h1,h2,rfl⟩:=DF he;rw[hend] at h1 h2;obtain⟨p1,p2,p3,p4⟩:=Jd (fun V=>Bc.part hs (fun r q p V=>EB hs d pl r q p V) mid pl rep zA deep V) hpos h1;have hU:U=V.drop (V.length-U.length):=p2.symm;rw[hU] at h2;have hT':SP s (j+y.length+x.length) T:=hT.le (by simp;omega);simp only[Be.l7,Ak,hc,zD,zM (show i<c.2.2.2.1 by omega),zF,Q pl mid q3 (by omega) pos x U T (j+y.length) hpos h1 hT',Cx,hi1];rw[ih mid (i+1) _ f (V.length-U.length) y W _ j q4 (by omega) (by omega) (by omega) p1 ((SP.fold x T _ hT').le (by omega)) h2,List.foldl_append]
theorem TZ:∀(d D a nx:Nat),zY s d a nx→nx≤s.length→d≤6→2*d≤D→∀(rep zA deep:Int) (pos:Nat) (X:List Ev) (W:List zB) (T:TT) (m:Nat),pos≤V.length→Ae s d a rep zA deep (V.drop pos)=some (X,W)→0≤zA→zA+d≤1001→0≤deep→deep+d≤1001→SP s (m+X.length) T→
 (Be.rec k D).1 s (a:Int) V (pos:Int) rep zA deep T=some (((),((V.length-W.length:Nat):Int)),X.foldl (A_ s) T):=by
 intro d
 induction d with
 |zero=>intro D a nx h;exact h.elim
 |succ d ih=>
  intro D a nx h hnx hd hD rep zA deep pos X W T m hpos he b0 b1 b2 b3 hT;obtain⟨D,rfl⟩:∃q,D=q+2:=⟨D-2,by omega⟩;have hlt:=z_ _ _ _ h;obtain⟨c,hc,hco,_,hp⟩:=h;have hcm:=(hn c (List.mem_of_getElem? hc)).2.2;have hmp:=D7 (z_ d) _ _ _ _ hp;have ha1:IntKind.wrap .i64 ((a:Int)+1)=((a+1:Nat):Int):=by rw[zP (by omega) (by omega)];omega
  have hp1:IntKind.wrap .i64 ((pos:Int)+1)=((pos+1:Nat):Int):=by rw[zP (by omega) (by omega)];omega
  simp only[Ae,hc] at he;rw[show D+2=(D+1)+1 from rfl];by_cases h7:c.2.1=7
  ·rw[if_pos h7] at he
   have hmn:0≤c.2.2.2.1:=by
    unfold AX at hco;rw[h7,Eg] at hco;simp at hco;omega
   have key:=T_ k s hs hn hk V hV d (D+1) (by omega) a c hc (by omega) nx hnx rep zA deep
    (fun pl mid hs1 hm1 pos X W T j hpos he hT=>by
     have hs0:=hs1
     obtain⟨d',rfl⟩:∃q,d=q+1:=⟨d-1,by cases d with
      |zero=>exact hs1.elim
      |succ d=>omega⟩
     obtain⟨c',hc',FL,_,_⟩:=hs1;have hrep:c'.2.2.1=0∨c'.2.2.1=1∨c'.2.2.1=2:=by
      unfold AX at FL;simp only[BK,Cs] at FL;omega
     exact T9 k s hs hn hk V hV D (d'+1) pl mid (Ae s (d'+1) pl) c' hc' hrep (fun r q p V=>EB hs _ pl r q p V)
      (fun rep zA deep pos X W T m h1 h2 h3 h4 h5 h6 h7=>ih D pl mid hs0 hm1 (by omega) (by omega) rep zA deep pos X W T m h1 h2 h3 h4 h5 h6 h7) hs0 (by omega) hm1 rep zA deep pos X W T j hpos he b0 (by omega) b2 (by omega) hT)
    c.2.2.2.1.toNat (a+1) 0 [] k pos X W T m hp (by omega) (by omega) (by omega) hpos hT he
   simp only[Be.rec,Be.b,Ak,hc,zD,Ba h7,zG,ha1];exact key
  ·rw[if_neg h7] at he
   by_cases hlt':pos<V.length
   ·have hd':V.drop pos=V[pos]::V.drop (pos+1):=List.drop_eq_getElem_cons hlt'
    rw[hd'] at he;simp only at he;split at he
    ·simp only[zX,Prod.mk.injEq] at he
     obtain⟨rfl,rfl⟩:=he;have hl:V.length-(V.drop (pos+1)).length=pos+1:=by simp only[List.length_drop];omega
     obtain⟨x,x1,x2,x3⟩:=Lm k s hs hk (m:=m) hT hc h7 true rep zA V[pos];rw[hl,List.foldl_cons,List.foldl_nil,x3];simp only[Be.rec,Be.b,Ak,hc,zD,Br h7,zF,FV k s hs hk a (by omega),x1,Av hlt',beq_self_eq_true,Int.toNat_natCast,hp1];rw[Cm (by simp;omega),zF]
    ·cases he
   ·have hd':V.drop pos=[]:=List.drop_of_length_le (by omega)
    rw[hd'] at he;cases he
theorem Uk(hS:zY s 6 0 s.length)(X:List Ev)(he:Ae s 6 0 0 0 0 V=some (X,[]))(T:TT)(m:Nat)(hT:SP s (m+X.length) T):
 Be k s 0 V 0 0 0 0 T=some (((),(V.length:Int)),X.foldl (A_ s) T):=by
 have:=TZ k s hs hn hk V hV 6 k 0 s.length hS (Nat.le_refl _) (by omega) (by omega) 0 0 0 0 X [] T m (Nat.zero_le _) (by simpa using he) (by omega) (by omega) (by omega) (by omega) hT;rw[List.length_nil,Nat.sub_zero] at this;exact this
end
def WS.P(NL:Nat)(m:Nat)(acc:List zJ):Prop:=acc.length=NL∧∀(j:Nat) (x:zJ),acc[j]?=some x→x.1.length+m≤4294967295
def WS.Cj(nums:List Int)(acc:List zJ)(e:Ev):List zJ:=
 match gI nums (e.at_:Int) with
 |none=>acc
 |some j=>match acc[j.toNat]? with
  |none=>acc
  |some x=>acc.set j.toNat (x.1++[(e.rep,e.zA,e.v,())],())
theorem WS.H9(nums:List Int)(NL:Nat)(acc:List zJ)(e:Ev)(m:Nat)(h:WS.P NL (m+1) acc):WS.P NL m (WS.Cj nums acc e):=by
 obtain⟨h1,h2⟩:=h;unfold WS.Cj;split
 ·exact⟨h1,fun j x hx=>by have:=h2 j x hx;omega⟩
 ·rename_i j hj
  split
  ·exact⟨h1,fun j x hx=>by have:=h2 j x hx;omega⟩
  ·rename_i x hx
   refine⟨by simpa using h1,fun i y hy=> ?_⟩;rw[List.getElem?_set] at hy;split at hy
   ·split at hy
    ·simp only[zX] at hy
     subst hy;have:=h2 _ _ hx;simp;omega
    ·cases hy
   ·have:=h2 _ _ hy;omega
theorem WS.Bv(NL:Nat)(acc:List zJ)(m n:Nat)(h:WS.P NL m acc)(hn:n≤m):WS.P NL n acc:=⟨h.1,fun j x hx=>by have:=h.2 j x hx;omega⟩
section
variable(k:Nat)(s:List zC)(nums:List Int)(NL:Nat)(hN:∀a,a<s.length→(∀c,s[a]?=some c→c.2.1≠7)→∃j:Nat,gI nums (a:Int)=some (j:Int)∧j<NL)
include hN
theorem WS.IG(a:Nat)(rep zA:Int)(v:zB)(acc:List zJ)(m:Nat)(hP:WS.P NL (m+1) acc)(ha:a<s.length)(hc:∀c,s[a]?=some c→c.2.1≠7):
 Gp k (a:Int) rep zA v () () acc nums=some ((),((),(),WS.Cj nums acc ⟨a,true,rep,zA,v⟩,nums)):=by
 obtain⟨j,h1,h2⟩:=hN a ha hc;obtain⟨q1,q2⟩:=hP;have h3:j<acc.length:=by omega
 have h4:gI acc (j:Int)=some acc[j]:=by rw[Ak,Av h3]
 have h5:=q2 j acc[j] (Av h3);unfold Gp WS.Cj;simp only[h1,h4,zD,beq_self_eq_true,zF,Int.toNat_natCast,Av h3];rw[Cm (by simp;omega),zF]
theorem WS.Jv(a:Nat)(rep zA:Int)(acc:List zJ)(m:Nat)(hP:WS.P NL (m+1) acc)(ha:a<s.length)(hc:∀c,s[a]?=some c→c.2.1≠7):
 Iy k (a:Int) rep zA ((),(),()) () acc () nums=some ((),(((),(),()),(),WS.Cj nums acc ⟨a,false,rep,zA,zv⟩,(),nums)):=by
 unfold Iy;have:=WS.IG k s nums NL hN a rep zA zv acc m hP ha hc;have this:Gp k (a:Int) rep zA (0,zR,()) () () acc nums=_:=this;rw[this];rfl
end
section
variable(k:Nat)(s:List zC)(hs:s.length≤20)(hn:∀c,c∈s→c.1.size<k∧c.1.size<1000000000∧AB c.2.2.2.1)(hk:2000000≤k)(nums:List Int)(NL:Nat)(hN:∀a,a<s.length→(∀c,s[a]?=some c→c.2.1≠7)→∃j:Nat,gI nums (a:Int)=some (j:Int)∧j<NL)
include hs hn hk hN
theorem WS.Fp:∀(X:List Ev) (acc:(List zJ)) (m:Nat),WS.P NL (m+X.length) (acc)→WS.P NL (m) (X.foldl (WS.Cj nums) acc)
 |[],acc,m,h=>h
 |e::X,acc,m,h=>by
  rw[List.foldl_cons];refine WS.Fp X ((WS.Cj nums) acc e) m (WS.H9 nums NL acc e (m+X.length) ?_);have e1:m+X.length+1=m+(e::X).length:=by simp;omega
  rw[e1];exact h
theorem WS.G_(v:zB)(V:List zB)(hV:V.length≤1048576)(acc:(List zJ)):
 F7 k (s,v::V,false,((),(),()),((),()),()) () acc () nums ((),(),())=some (v,((s,V,false,((),(),()),((),()),()),(),acc,(),nums,((),(),()))):=by
 unfold F7;have hz:(((v::V).length:Int)==0)=false:=zS (by simp;omega);have hcut:j6 (v::V) 1 ((v::V).length:Int)=V:=by
  unfold j6;rw[Int.toNat_natCast,List.take_length];rfl
 have hr:gI (v::V) 0=some v:=rfl;simp only[zG,hz,zD,hr,hcut];rw[KN (by omega) (by simp;omega) (by omega),zF]
theorem WS.He(acc:(List zJ)):F7 k (s,[],false,((),(),()),((),()),()) () acc () nums ((),(),())=some (zv,((s,[],true,((),(),()),((),()),()),(),acc,(),nums,((),(),()))):=by
 unfold F7;simp only[zG,List.length_nil,zD];rfl
theorem WS.count_cons(v:zB)(V:List zB)(hV:V.length≤1048576)(most:Int)(acc:(List zJ)):
 F6 k most (s,v::V,false,((),(),()),((),()),()) () acc () nums ((),(),())=some (if BJ v most then 0 else v.1,((s,V,BJ v most,((),(),()),((),()),()),(),acc,(),nums,((),(),()))):=by
 unfold F6 BJ;simp only[WS.G_ k s hs hn hk nums NL hN v V hV acc,zD,D6,cst];generalize(!jk v.2.1 ⟨#[]⟩|| !(decide (0≤v.1)&&decide (v.1≤most)))=b;cases b<;>rfl
theorem WS.count_nil(most:Int)(hm:0≤most)(acc:(List zJ)):F6 k most (s,[],false,((),(),()),((),()),()) () acc () nums ((),(),())=some (0,((s,[],true,((),(),()),((),()),()),(),acc,(),nums,((),(),()))):=by
 unfold F6;have hz:jk zR ⟨#[]⟩=true:=by rw[Ea];simp
 have hw:(decide ((0:Int)≤0)&&decide ((0:Int)≤most))=true:=by simp;omega
 simp only[WS.He k s hs hn hk nums NL hN acc,zD,zv,D6,hz,hw,Ah,zG]
theorem WS.Ju(d a nx:Nat)(h:zY s d a nx)(hd:d≤6)(hnx:nx≤s.length)(rep zA:Int)(V:List zB)(bad:Bool)(acc:(List zJ))(hP:WS.P NL (20) (acc)):
 C8 k (a:Int) rep zA (s,V,bad,((),(),()),((),()),()) () acc () nums ((),(),())=some ((nx:Int),((s,V,bad,((),(),()),((),()),()),(),(AY s rep zA (nx-a) a).foldl (WS.Cj nums) acc,(),nums,((),(),()))):=by
 have key:∀(m n i:Nat) (acc:(List zJ)),i+m=nx→m<n→WS.P NL (m) (acc)→C8.l3 k n rep zA (nx:Int) (i:Int) (s,V,bad,((),(),()),((),()),()) () acc () nums ((),(),())=some ((nx:Int),((s,V,bad,((),(),()),((),()),()),(),(AY s rep zA m i).foldl (WS.Cj nums) acc,(),nums,((),(),()))):=by
  intro m
  induction m with
  |zero=>
   intro n i acc hi hn _;obtain⟨n,rfl⟩:∃j,n=j+1:=⟨n-1,by omega⟩;simp only[C8.l3,zN (show ¬(i:Int)<(nx:Int) by omega),zG,AY,List.foldl_nil]
  |succ m ih=>
   intro n i acc hi hn hP;obtain⟨n,rfl⟩:∃j,n=j+1:=⟨n-1,by omega⟩;obtain⟨c,hc,hc'⟩:=FB (xs:=s) (i:=(i:Int)) (by omega) (by omega);have hc':s[i]?=some c:=by simpa using hc'
   have hi1:IntKind.wrap .i64 ((i:Int)+1)=((i+1:Nat):Int):=by rw[zP (by omega) (by omega)];omega
   simp only[C8.l3,zM (show(i:Int)<(nx:Int) by omega),zF,hc,zD,C8.c4,hi1,AY,hc',List.foldl_append];by_cases h7:c.2.1=7
   ·rw[Ba h7,zG,if_pos h7,List.foldl_nil]
    exact ih n (i+1) acc (by omega) (by omega) (WS.Bv NL acc (m+1) m hP (by omega))
   ·have hno:=WS.Jv k s nums NL hN i rep zA acc m hP (by omega) (fun c' h'=>by rw[hc'] at h';cases h';exact h7)
    rw[Br h7,zF,if_neg h7,List.foldl_cons,List.foldl_nil];simp only[hno,zD,zD];exact ih n (i+1) _ (by omega) (by omega) (WS.H9 nums NL acc _ m hP)
 unfold C8;have hlt:=z_ _ _ _ h;have hca:=FZ k s hs hn (by omega) h hd hnx;simp only[hca,zD];exact key (nx-a) k a acc (by omega) (by omega) (WS.Bv NL acc 20 (nx-a) hP (by omega))
def WS.Good(s:List zC)(nums:List Int)(NL:Nat)(r:Ar)(o:Option (Int×((List zC)×(List zB)×Bool×(Unit×Unit×Unit)×(Unit×Unit)×Unit)×Unit×(List zJ)×Unit×(List Int)×(Unit×Unit×Unit)))(nx:Nat)(acc:(List zJ)):Prop:=
 match r with
 |some (X,W)=>o=some ((nx:Int),((s,W,false,((),(),()),((),()),()),(),X.foldl (WS.Cj nums) acc,(),nums,((),(),())))
 |none=>∃(nx':Int) (V':List zB) (acc':(List zJ)),o=some (nx',((s,V',true,((),(),()),((),()),()),(),acc',(),nums,((),(),())))
theorem WS.Jq(S:Int→Int→Int→Int→((List zC)×(List zB)×Bool×(Unit×Unit×Unit)×(Unit×Unit)×Unit)→Unit→(List zJ)→Unit→(List Int)→(Unit×Unit×Unit)→Option (Int×((List zC)×(List zB)×Bool×(Unit×Unit×Unit)×(Unit×Unit)×Unit)×Unit×(List zJ)×Unit×(List Int)×(Unit×Unit×Unit)))(a nx:Nat)(hca:Ao k s (a:Int) 1=some (nx:Int))(C:List zB→Ar)(hC:∀V,Bc V (C V))(rep zA deep:Int)(n:Nat)(Sl:n≤100)(hdef:IntKind.wrap .i64 (zA+1)=zA+1)
 (h:∀V acc,V.length≤1048576→WS.P NL (20*V.length+20) (acc)→WS.Good s nums NL (C V) (S (a:Int) deep (zA+1) deep (s,V,false,((),(),()),((),()),()) () acc () nums ((),(),())) nx acc):
 ∀(m j f:Nat) (V:List zB) (acc:(List zJ)),n=j+m→1≤j→m<f→V.length≤1048576→WS.P NL (20*V.length+20) (acc)→
  WS.Good s nums NL (Cb C m V) (Ce.Bt k S f (a:Int) zA deep (n:Int) (j:Int) (s,V,false,((),(),()),((),()),()) () acc () nums ((),(),())) nx acc:=by
 intro m
 induction m with
 |zero=>
  intro j f V acc hj h1 hf hV hP;obtain⟨f,rfl⟩:∃q,f=q+1:=⟨f-1,by omega⟩;simp only[Cb,WS.Good,Ce.Bt,zN (show ¬(j:Int)<(n:Int) by omega),zG,zD,hca,List.foldl_nil]
 |succ m ih=>
  intro j f V acc hj h1 hf hV hP;obtain⟨f,rfl⟩:∃q,f=q+1:=⟨f-1,by omega⟩;have hj1:IntKind.wrap .i64 ((j:Int)+1)=((j+1:Nat):Int):=by rw[zP (by omega) (by omega)];omega
  have g:=h V acc hV hP;simp only[Cb,CZ,Ce.Bt,zM (show(j:Int)<(n:Int) by omega),zF,Bf,zD,hdef,hj1];cases hr:C V with
  |none=>
   rw[hr] at g;obtain⟨nx',V',acc',e⟩:=g;simp only[WS.Good];simp only[e,zD];obtain⟨f,rfl⟩:∃q,f=q+1:=⟨f-1,by omega⟩;simp only[Ce.Bt,CO,Ah,Bool.and_false,zD,zG,hca];exact⟨_,_,_,rfl⟩
  |some q=>
   obtain⟨X,W⟩:=q;rw[hr] at g;simp only[WS.Good] at g;obtain⟨g1,g2,_⟩:=hC V X W hr;have i:=ih (j+1) f W (X.foldl (WS.Cj nums) acc) (by omega) (by omega) (by omega) (by omega) (WS.Fp k s hs hn hk nums NL hN X acc (20*W.length+20) (WS.Bv NL acc _ _ hP (by omega)));simp only[g,zD];cases hr2:Cb C m W with
   |none=>rw[hr2] at i;exact i
   |some q2=>
    obtain⟨Y,U⟩:=q2;rw[hr2] at i;simp only[WS.Good] at i⊢;rw[i,List.foldl_append]
theorem WS.Jw(d D a nx:Nat)(h:zY s d a nx)(hd:d≤6)(hnx:nx≤s.length)(rep zA deep:Int)(h0:0≤zA)(h1:zA≤1000)(h2:0≤deep)(h3:deep≤1000)
 (P:∀(r q p:Int) (V:List zB) (acc:(List zJ)),0≤q→q≤zA+1→0≤p→p≤deep+1→V.length≤1048576→WS.P NL (20*V.length+20) (acc)→WS.Good s nums NL (Ae s d a r q p V) ((z8.rec k D).1 (a:Int) r q p (s,V,false,((),(),()),((),()),()) () acc () nums ((),(),())) nx acc)
 (V:List zB) (acc:(List zJ)) (hV:V.length≤1048576) (hP:WS.P NL (20*V.length+20) (acc)):
 WS.Good s nums NL (AL s (Ae s d a) nx a rep zA deep V) ((z8.rec k (D+1)).2 (a:Int) rep zA deep (s,V,false,((),(),()),((),()),()) () acc () nums ((),(),())) nx acc:=by
 have hlt:=z_ _ _ _ h;have hmiss:=WS.Ju k s hs hn hk nums NL hN d a nx h hd hnx;have hca:=FZ k s hs hn (by omega) h hd hnx;have hG:=fun r p q V=>EB hs d a r p q V
 obtain⟨d',rfl⟩:∃q,d=q+1:=⟨d-1,by cases d with
  |zero=>exact h.elim
  |succ d=>omega⟩
 obtain⟨c,hc,hco,_,_⟩:=h;have hrep:c.2.2.1=0∨c.2.2.1=1∨c.2.2.1=2:=by
  unfold AX at hco;simp only[BK,Cs] at hco;omega
 have hd1:IntKind.wrap .i64 (zA+1)=zA+1:=zP (by omega) (by omega);have hp1:IntKind.wrap .i64 (deep+1)=deep+1:=zP (by omega) (by omega);simp only[z8.rec,Ce.b,Ak,hc,zD,AL];generalize KE:Ae s (d'+1) a=C at*;rcases hrep with hr|hr|hr
 ·
   rw[if_pos hr];simp only[zS (show ¬c.2.2.1=1 by omega),zS (show ¬c.2.2.1=2 by omega),zG,Ce.c18];have g:=P rep zA deep V acc h0 (by omega) h2 (by omega) hV hP;cases hr2:C rep zA deep V with
   |none=>
    rw[hr2] at g;obtain⟨nx',V',acc',e⟩:=g;simp only[WS.Good,e,zD];exact⟨_,_,_,rfl⟩
   |some q=>
    obtain⟨X,W⟩:=q;rw[hr2] at g;simp only[WS.Good] at g⊢;rw[g];rfl
 ·
   rw[if_neg (by omega)];simp only[Al hr,zF,Ce.c18];cases V with
   |nil=>
    simp only[WS.count_nil k s hs hn hk nums NL hN 1 (by omega) acc,zD,Al (show(0:Int)=0 from rfl),zF,hmiss rep zA [] true acc (WS.Bv NL acc _ _ hP (by simp))];exact⟨_,_,_,rfl⟩
   |cons v V=>
    have hV':V.length≤1048576:=by simp at hV;omega
    have Fv:20*(v::V).length+20=20*V.length+40:=by simp;omega
    rw[Fv] at hP;simp only[WS.count_cons k s hs hn hk nums NL hN v V hV' 1 acc,zD];rw[if_neg (by omega)];cases hb:BJ v 1 with
    |true=>
     simp only[if_true,Al (show(0:Int)=0 from rfl),zF,hmiss rep zA V true acc (WS.Bv NL acc _ _ hP (by omega)),zD];exact⟨_,_,_,rfl⟩
    |false=>
     simp only[Bool.false_eq_true,if_false];by_cases hv0:v.1=0
     ·rw[if_pos hv0,Al hv0,zF]
      simp only[hmiss rep zA V false acc (WS.Bv NL acc _ _ hP (by omega)),zD];rfl
     ·rw[if_neg hv0,zS hv0,zG]
      simp only[hd1];have g:=P rep (zA+1) deep V acc (by omega) (by omega) h2 (by omega) hV' (WS.Bv NL acc _ _ hP (by omega));cases hr2:C rep (zA+1) deep V with
      |none=>
       rw[hr2] at g;obtain⟨nx',V',acc',e⟩:=g;simp only[WS.Good,e,zD];exact⟨_,_,_,rfl⟩
      |some q=>
       obtain⟨X,W⟩:=q;rw[hr2] at g;simp only[WS.Good] at g⊢;rw[g];rfl
 ·
   rw[if_neg (by omega)];simp only[zS (show ¬c.2.2.1=1 by omega),Al hr,zF,zG];cases V with
   |nil=>
    simp only[WS.count_nil k s hs hn hk nums NL hN 20 (by omega) acc,zD,Al (show(0:Int)=0 from rfl),zF,hmiss rep zA [] true acc (WS.Bv NL acc _ _ hP (by simp))];exact⟨_,_,_,rfl⟩
   |cons v V=>
    have hV':V.length≤1048576:=by simp at hV;omega
    have Fv:20*(v::V).length+20=20*V.length+40:=by simp;omega
    rw[Fv] at hP;simp only[WS.count_cons k s hs hn hk nums NL hN v V hV' 20 acc,zD];rw[if_pos hr];cases hb:BJ v 20 with
    |true=>
     simp only[if_true,Al (show(0:Int)=0 from rfl),zF,hmiss rep zA V true acc (WS.Bv NL acc _ _ hP (by omega)),zD];exact⟨_,_,_,rfl⟩
    |false=>
     simp only[Bool.false_eq_true,if_false];have hcb:=FY hb;by_cases hv0:v.1=0
     ·rw[if_pos hv0,Al hv0,zF]
      simp only[hmiss rep zA V false acc (WS.Bv NL acc _ _ hP (by omega)),zD];rfl
     ·rw[if_neg hv0,zS hv0,zG]
      simp only[hd1,hp1];obtain⟨n,hn'⟩:∃n:Nat,v.1=(n:Int):=⟨v.1.toNat,by omega⟩;rw[hn',Int.toNat_natCast];have g:=P rep (zA+1) (deep+1) V acc (by omega) (by omega) (by omega) (by omega) hV' (WS.Bv NL acc _ _ hP (by omega));simp only[CZ];cases hr2:C rep (zA+1) (deep+1) V with
      |none=>
       rw[hr2] at g;obtain⟨nx',V',acc',e⟩:=g;simp only[WS.Good,e,zD];obtain⟨k',hk'⟩:∃q,k=q+1:=⟨k-1,by omega⟩;have hbad:Ce.Bt k (z8.rec k D).1 k (a:Int) zA (deep+1) (n:Int) 1 (s,V',true,((),(),()),((),()),()) () acc' () nums ((),(),())=some ((nx:Int),((s,V',true,((),(),()),((),()),()),(),acc',(),nums,((),(),()))):=by
        conv=>lhs;arg 3;rw[hk']
        simp only[Ce.Bt,CO,Ah,Bool.and_false,zD,zG,hca]
       rw[hbad];exact⟨_,_,_,rfl⟩
      |some q=>
       obtain⟨X,W⟩:=q;rw[hr2] at g;simp only[WS.Good] at g;obtain⟨g1,g2,_⟩:=hG rep (zA+1) (deep+1) V X W hr2
       have i:=WS.Jq k s hs hn hk nums NL hN (z8.rec k D).1 a nx hca (C (deep+1) (zA+1) (deep+1)) (hG _ _ _) rep zA (deep+1) n (by omega) hd1
        (fun V acc hV hP=>P (deep+1) (zA+1) (deep+1) V acc (by omega) (by omega) (by omega) (by omega) hV hP) (n-1) 1 k W (X.foldl (WS.Cj nums) acc) (by omega) (by omega) (by omega) (by omega)
        (WS.Fp k s hs hn hk nums NL hN X acc (20*W.length+20) (WS.Bv NL acc _ _ hP (by omega)))
       simp only[g,zD];cases hr3:Cb (C (deep+1) (zA+1) (deep+1)) (n-1) W with
       |none=>rw[hr3] at i;exact i
       |some q2=>
        obtain⟨Y,U⟩:=q2;rw[hr3] at i;simp only[WS.Good] at i⊢;rw[List.foldl_append];exact i
theorem WS.Jy(d D:Nat)(hd:d≤6)(many:Int)(hm:many≤1000000)(nx:Nat)(hnx:nx≤s.length)(rep zA deep:Int)
 (Q:∀pl mid,zY s d pl mid→mid≤s.length→∀(V:List zB) (acc:(List zJ)),V.length≤1048576→WS.P NL (20*V.length+20) (acc)→
  WS.Good s nums NL (AL s (Ae s d pl) mid pl rep zA deep V) ((z8.rec k D).2 (pl:Int) rep zA deep (s,V,false,((),(),()),((),()),()) () acc () nums ((),(),())) mid acc):
 ∀(m pl:Nat) (i:Int) (names:List ByteArray) (f:Nat) (V:List zB) (acc:(List zJ)),BX (zY s d) s m pl names nx→many-i=m→0≤i→m<f→V.length≤1048576→WS.P NL (20*V.length+20) (acc)→
  WS.Good s nums NL (jm (fun a V=>AL s (Ae s d a) (Aa s d a) a rep zA deep V) (Aa s d) m pl V) (z8.l10 k (z8.rec k D).2 f rep zA deep (pl:Int) many i (s,V,false,((),(),()),((),()),()) () acc () nums ((),(),())) nx acc:=by
 intro m
 induction m with
 |zero=>
  intro pl i names f V acc hp hi h0 hf hV hP;have hp:pl=nx:=hp;subst hp;obtain⟨f,rfl⟩:∃q,f=q+1:=⟨f-1,by omega⟩;simp only[jm,WS.Good,z8.l10,zN (show ¬(i<many) by omega),zG,z8.c14,List.foldl_nil]
 |succ m ih=>
  intro pl i names f V acc hp hi h0 hf hV hP;obtain⟨q,mid,q1,q2,q3,q4⟩:=hp;have hmn:=CX (z_ d) _ _ _ _ q4;obtain⟨f,rfl⟩:∃q,f=q+2:=⟨f-2,by omega⟩;have hi1:IntKind.wrap .i64 (i+1)=i+1:=zP (by omega) (by omega);have hend:Aa s d pl=mid:=Dw d q3 d (Nat.le_refl _);have g:=Q pl mid q3 (by omega) V acc hV hP;have hG:Bc V (AL s (Ae s d pl) mid pl rep zA deep V):=Bc.part hs (fun r p q V=>EB hs d pl r p q V) mid pl rep zA deep V;rw[show f+2=(f+1)+1 by rfl];simp only[jm,CZ,hend,z8.l10,zM (show i<many by omega),zF,zG,hi1];cases hr:AL s (Ae s d pl) mid pl rep zA deep V with
  |none=>
   rw[hr] at g;obtain⟨nx',V',acc',e⟩:=g;simp only[WS.Good,e,zD,z8.c14,zF];by_cases h2:i+1<many
   ·rw[zM h2,zF];exact⟨_,_,_,rfl⟩
   ·rw[zN h2,zG];exact⟨_,_,_,rfl⟩
  |some q=>
   obtain⟨X,W⟩:=q;rw[hr] at g;simp only[WS.Good] at g;obtain⟨g1,g2,_⟩:=hG X W hr;have i2:=ih mid (i+1) _ (f+1) W (X.foldl (WS.Cj nums) acc) q4 (by omega) (by omega) (by omega) (by omega) (WS.Fp k s hs hn hk nums NL hN X acc (20*W.length+20) (WS.Bv NL acc _ _ hP (by omega)));simp only[g,zD];cases hr2:jm (fun a V=>AL s (Ae s d a) (Aa s d a) a rep zA deep V) (Aa s d) m mid W with
   |none=>rw[hr2] at i2;exact i2
   |some q2=>
    obtain⟨Y,U⟩:=q2;rw[hr2] at i2;simp only[WS.Good] at i2⊢;rw[List.foldl_append];exact i2
theorem WS.I8:∀(d D a nx:Nat),zY s d a nx→nx≤s.length→d≤6→2*d≤D→∀(rep zA deep:Int) (V:List zB) (acc:(List zJ)),0≤zA→zA+d≤1001→0≤deep→deep+d≤1001→V.length≤1048576→WS.P NL (20*V.length+20) (acc)→
 WS.Good s nums NL (Ae s d a rep zA deep V) ((z8.rec k D).1 (a:Int) rep zA deep (s,V,false,((),(),()),((),()),()) () acc () nums ((),(),())) nx acc:=by
 intro d
 induction d with
 |zero=>intro D a nx h;exact h.elim
 |succ d ih=>
  intro D a nx h hnx hd hD rep zA deep V acc h0 h1 h2 h3 hV hP;obtain⟨D,rfl⟩:∃q,D=q+2:=⟨D-2,by omega⟩;have hlt:=z_ _ _ _ h;obtain⟨c,hc,hco,_,hp⟩:=h;have hcm:=(hn c (List.mem_of_getElem? hc)).2.2;have ha1:IntKind.wrap .i64 ((a:Int)+1)=((a+1:Nat):Int):=by rw[zP (by omega) (by omega)];omega
  have hmp:=D7 (z_ d) _ _ _ _ hp;by_cases h7:c.2.1=7
  ·have hmn:0≤c.2.2.2.1:=by
    unfold AX at hco;rw[h7,Eg] at hco;simp at hco;omega
   have key:=WS.Jy k s hs hn hk nums NL hN d (D+1) (by omega) c.2.2.2.1 (by omega) nx hnx rep zA deep
    (fun pl mid hs1 hm1 V acc hV hP=>WS.Jw k s hs hn hk nums NL hN d D pl mid hs1 (by omega) hm1 rep zA deep h0 (by omega) h2 (by omega)
     (fun r q p V acc q0 q1 q2 q3 hV hP=>ih D pl mid hs1 hm1 (by omega) (by omega) r q p V acc q0 (by omega) q2 (by omega) hV hP) V acc hV hP) c.2.2.2.1.toNat (a+1) 0 [] k V acc hp (by omega) (by omega) (by omega) hV hP
   have e:(z8.rec k (D+2)).1 (a:Int) rep zA deep (s,V,false,((),(),()),((),()),()) () acc () nums ((),(),())=z8.l10 k (z8.rec k (D+1)).2 k rep zA deep ((a+1:Nat):Int) c.2.2.2.1 0 (s,V,false,((),(),()),((),()),()) () acc () nums ((),(),()):=by
    rw[show D+2=(D+1)+1 from rfl];simp only[z8.rec,z8.b,Ak,hc,zD,Ba h7,zG,ha1]
   rw[e];simp only[Ae,hc];rw[if_pos h7];exact key
  ·have hm0:c.2.2.2.1.toNat=0:=by
    unfold AX at hco;rw[zS h7] at hco;simp at hco;omega
   rw[hm0] at hp;have hp:a+1=nx:=hp;subst hp;rw[show D+2=(D+1)+1 from rfl];simp only[Ae,z8.rec,z8.b,Ak,hc,zD,Br h7,zF];rw[if_neg h7];cases V with
   |nil=>
    simp only[WS.He k s hs hn hk nums NL hN acc,zD,z8.d3,Ah,zG,z8.c5,z8.c7];exact⟨_,_,_,rfl⟩
   |cons v V=>
    have hV':V.length≤1048576:=by simp at hV;omega
    have hle:=WS.IG k s nums NL hN a rep zA v acc (20*V.length+39) (WS.Bv NL acc _ _ hP (by simp;omega)) (by omega) (fun c' h'=>by rw[hc] at h';cases h';exact h7);simp only[WS.G_ k s hs hn hk nums NL hN v V hV' acc,zD,z8.d3,Bf,zF,Ak,hc,JG];cases Sr:D5 c.2.1 v with
    |false=>
     simp only[Bf,zF,z8.c5,Ah,zG,z8.c7,Bool.false_eq_true,if_false];exact⟨_,_,_,rfl⟩
    |true=>
     simp only[Ah,zG,z8.c5,Bf,zF,hle,zD,z8.c7,ha1,if_true];rfl
theorem WS.JJ(hS:zY s 6 0 s.length)(c0:zC)(hc0:s[0]?=some c0)(h7:c0.2.1=7)(hm0:0<c0.2.2.2.1)(V:List zB)(acc:(List zJ))(hP:WS.P NL (6020) (acc)):
 (∀X,V.length≤300→Ae s 6 0 0 0 0 V=some (X,[])→Fw k s (V,()) ((),(),()) ((),()) () acc () nums ((),(),())=some ((true,(),(X.foldl (WS.Cj nums) acc),(),nums,((),(),()))))∧
 ((V.length≤300→∀X,Ae s 6 0 0 0 0 V≠some (X,[]))→∃acc':(List zJ),Fw k s (V,()) ((),(),()) ((),()) () acc () nums ((),(),())=some ((false,(),acc',(),nums,((),(),())))):=by
 obtain⟨k',hk'⟩:∃q,k=q+2:=⟨k-2,by omega⟩
 have hb:V.length≤300→WS.Good s nums NL (Ae s 6 0 0 0 0 V) (z8 k 0 0 0 0 (s,V,false,((),(),()),((),()),()) () acc () nums ((),(),())) s.length acc:=fun CK=>
  WS.I8 k s hs hn hk nums NL hN 6 k 0 s.length hS (Nat.le_refl _) (by omega) (by omega) 0 0 0 V acc (by omega) (by omega) (by omega) (by omega) (by omega) (WS.Bv NL acc _ _ hP (by omega))
 refine⟨fun X CK he=> ?_,fun hno=> ?_⟩
 ·have g:=hb CK
  rw[he] at g;have g:z8 k 0 0 0 0 (s,V,false,((),(),()),((),()),()) () acc () nums ((),(),())=some ((s.length:Int),((s,[],false,((),(),()),((),()),()),(),(X.foldl (WS.Cj nums) acc),(),nums,((),(),()))):=g;unfold Fw;simp only[zN (show ¬(V.length:Int)>300 by omega),g,zD,Bf,zF,List.length_nil];rfl
 ·by_cases CK:V.length≤300
  ·have g:=hb CK
   unfold Fw;simp only[zN (show ¬(V.length:Int)>300 by omega)];cases he:Ae s 6 0 0 0 0 V with
   |none=>
    rw[he] at g;obtain⟨nx',V',acc',g⟩:=g;simp only[g,zD,Ah,zG];exact⟨_,rfl⟩
   |some q=>
    obtain⟨X,W⟩:=q;rw[he] at g;have g:z8 k 0 0 0 0 (s,V,false,((),(),()),((),()),()) () acc () nums ((),(),())=some ((s.length:Int),((s,W,false,((),(),()),((),()),()),(),(X.foldl (WS.Cj nums) acc),(),nums,((),(),()))):=g
    have hW:((W.length:Int)==0)=false:=zS (fun h0=>hno CK X (by
     have:W=[]:=List.eq_nil_of_length_eq_zero (by omega);rw[he,this]))
    simp only[g,zD,Bf,zF,hW];exact⟨_,rfl⟩
  ·have hr0:gI s 0=some c0:=hc0
   have e:z8 k 0 0 0 0 (s,V,true,((),(),()),((),()),()) () acc () nums ((),(),())=some (1,((s,V,true,((),(),()),((),()),()),(),acc,(),nums,((),(),()))):=by
    show z8.d k k 0 0 0 0 (s,V,true,((),(),()),((),()),()) () acc () nums ((),(),())=_;unfold z8.d
    conv=>lhs;arg 1;arg 2;rw[hk']
    conv=>lhs;rw[show z8.rec k (k'+2)=(_,_) from rfl]
    obtain⟨k2,hk2⟩:∃q,k=q+1:=⟨k-1,by omega⟩;simp only[z8.b,hr0,zD,Ba h7,zG]
    conv=>lhs;arg 3;rw[hk2]
    simp only[z8.l10,zM hm0,zF,z8.c14];rfl
   unfold Fw;simp only[zM (show(V.length:Int)>300 by omega),e,zD,Ah,zG];exact⟨_,rfl⟩
end
section
variable(k:Nat)(s:List zC)(hs:s.length≤20)(hk:2000000≤k)
include hs hk
theorem KS:∃nums,DW k s=some ((),nums)∧∀(a:Nat) (c:zC),s[a]?=some c→c.2.1≠7→gI nums (a:Int)=some (zI s a:Int):=by
 obtain⟨v1,_⟩:=Gz k (by omega) s (by omega);have hll:=G6 0 s;generalize hlv:Bd 0 s=lv at v1 hll
 have key:∀(m i f:Nat) (nums:List Int),lv.length=i+m→m<f→nums.length=s.length→(∀(j:Nat) (a:Nat),j<i→lv[j]?=some (a:Int)→nums[a]?=some (j:Int))→
  ∃IJ,DW.l3 k f (lv.length:Int) (i:Int) nums lv=some ((),IJ)∧(∀(j:Nat) (a:Nat),j<lv.length→lv[j]?=some (a:Int)→IJ[a]?=some (j:Int)):=by
  intro m
  induction m with
  |zero=>
   intro i f nums h hf hl hh;obtain⟨f,rfl⟩:∃q,f=q+1:=⟨f-1,by omega⟩;simp only[DW.l3,zN (show ¬((i:Int)<(lv.length:Int)) by omega),zG];exact⟨_,rfl,fun j a hj=>hh j a (by omega)⟩
  |succ m ih=>
   intro i f nums h hf hl hh;obtain⟨f,rfl⟩:∃q,f=q+1:=⟨f-1,by omega⟩;have hi:i<lv.length:=by omega
   have hg:=Av hi;obtain⟨a,e1,_,e3,c,e4,e5⟩:=Gx s [] s rfl i _ (by rw[←hg,←hlv];rfl);have ha:a<nums.length:=by rw[hl];exact(List.getElem?_eq_some_iff.1 e4).1
   have h1:IntKind.wrap .i64 ((i:Int)+1)=((i+1:Nat):Int):=by rw[zP (by omega) (by omega)];omega
   simp only[DW.l3,zM (show(i:Int)<(lv.length:Int) by omega),zF,Ak,hg,zD,e1,Av ha,Int.toNat_natCast,h1];refine ih (i+1) f _ (by omega) (by omega) (by simpa using hl) ?_;intro j b hj hb;rw[List.getElem?_set];by_cases hab:a=b
   ·subst hab
    have hji:j=i:=by
     obtain⟨b',f1,_,f3,d,f4,f5⟩:=Gx s [] s rfl j _ (by rw[←hb,←hlv];rfl);have:b'=a:=by omega
     subst this;have e3:zI s b'=0+i:=e3;have f3:zI s b'=0+j:=f3;omega
    rw[if_pos rfl,if_pos ha,hji]
   ·rw[if_neg hab]
    rcases Nat.lt_or_ge j i with q|q
    ·exact hh j b q hb
    ·have hji:j=i:=by omega
     subst hji;rw[hg] at hb;simp only[zX] at hb;omega
 have hok:pQ (s.length:Int)=true:=IK (by omega) (by omega);obtain⟨IJ,q1,q2⟩:=key lv.length 0 k (List.replicate (Int.toNat (s.length:Int)) 0) (by omega) (by omega) (by simp) (fun j a hj=>by omega);unfold DW;rw[hok,zF,v1];simp only[zD];refine⟨IJ,q1,fun a c hc h7=> ?_⟩;have hat:=Tc hc h7;rw[hlv] at hat;rw[Ak];exact q2 _ a (List.getElem?_eq_some_iff.1 hat).1 hat
end
abbrev B_(x:List zO):zJ:=(x,())
theorem Ul{s:List zC}{nums:List Int}(hN:∀(a:Nat) (c:zC),s[a]?=some c→c.2.1≠7→gI nums (a:Int)=some (zI s a:Int))(T:TT)(e:Ev)(he:∃c,s[e.at_]?=some c∧c.2.1≠7):
 WS.Cj nums (T.map B_) e=(A_ s T e).map B_:=by
 obtain⟨c,hc,h7⟩:=he;unfold WS.Cj A_;rw[hN _ c hc h7];simp only[Int.toNat_natCast,List.getElem?_map];cases T[zI s e.at_]? with
 |none=>rfl
 |some x=>simp only[Option.map_some,List.map_set]
theorem Kq{s:List zC}{nums:List Int}(hN:∀(a:Nat) (c:zC),s[a]?=some c→c.2.1≠7→gI nums (a:Int)=some (zI s a:Int)):∀(X:List Ev) (T:TT),EC s X→
 X.foldl (WS.Cj nums) (T.map B_)=(X.foldl (A_ s) T).map B_
 |[],T,_=>rfl
 |e::X,T,h=>by
  rw[List.foldl_cons,List.foldl_cons,Ul hN T e (h e (List.mem_cons_self ..))];exact Kq hN X _ (fun e' he'=>h e' (List.mem_cons_of_mem _ he'))
def Cf(s:List zC):List Ay→Option (List Ev)
 |[]=>some []
 |r::R=>match A7 s r.1 with
  |none=>none
  |some X=>match Cf s R with
   |none=>none
   |some Y=>some (X++Y)
def small(T:TT):Bool:=T.all fun x=>decide (x.length≤2000)
def Dn(s:List zC):TT:=List.replicate (zI s s.length) []
def shr(s:List zC)(R:List Ay):Option TT:=
 match Cf s R with
 |none=>none
 |some X=>let T:=X.foldl (A_ s) (Dn s)
  if small T=true then some T else none
def F_(r:Option TT):(Unit×Bool)×List zJ:=match r with
 |none=>(((),false),[])
 |some T=>(((),true),T.map B_)
section
variable(k:Nat)(s:List zC)(hn:∀c,c∈s→c.1.size<k∧c.1.size<1000000000∧AB c.2.2.2.1)(hk:2000000≤k)
include hn hk
theorem Ub(T:TT)(hT:T.length≤20):∀(post pre:TT) (f:Nat),T=pre++post→post.length<f→
 CW.Gu k f T (pre.length:Int) (pre.map B_)=some (if small post=true then(((),true),T.map B_) else(((),false),[])):=by
 intro post
 induction post with
 |nil=>
  intro pre f h hf;obtain⟨f,rfl⟩:∃q,f=q+1:=⟨f-1,by omega⟩;rw[AZ] at h;subst h;simp only[CW.Gu,zN (show ¬((T.length:Int)<(T.length:Int)) by omega),zG];rfl
 |cons x post ih=>
  intro pre f h hf;simp only[Ct] at hf;obtain⟨f,rfl⟩:∃q,f=q+1:=⟨f-1,by omega⟩;have hlen:T.length=pre.length+(post.length+1):=by rw[h];simp
  have hg:gI T (pre.length:Int)=some x:=by rw[h];exact DI _ _ _
  have hi1:IntKind.wrap .i64 ((pre.length:Int)+1)=((pre.length+1:Nat):Int):=by rw[zP (by omega) (by omega)];omega
  simp only[CW.Gu,zM (show(pre.length:Int)<(T.length:Int) by omega),zF,hg,zD];by_cases hx:x.length≤2000
  ·rw[zN (show ¬((x.length:Int)>2000) by omega),zG,hi1,Cm (by simp;omega),zF]
   have:=ih (pre++[x]) f (by rw[h];simp) (by omega);rw[A8,Co] at this;have e:pre.map B_++[(x,())]=(pre++[x]).map B_:=by simp
   rw[e,this];have:small (x::post)=small post:=by simp[small,hx]
   rw[this]
  ·rw[zM (show((x.length:Int)>2000) by omega),zF]
   have:small (x::post)=false:=by simp[small,hx]
   rw[this];rfl
theorem SA(T:TT)(hT:T.length≤20):∀(post pre:TT) (f:Nat),T=pre++post→post.length<f→
 C7.Bt k f (T.length:Int) (pre.length:Int) () (T.map B_)=some (if small post=true then(((),true),T.map B_) else(((),false),[])):=by
 intro post
 induction post with
 |nil=>
  intro pre f h hf;obtain⟨f,rfl⟩:∃q,f=q+1:=⟨f-1,by omega⟩;rw[AZ] at h;subst h;simp only[C7.Bt,zN (show ¬((T.length:Int)<(T.length:Int)) by omega),zG];rfl
 |cons x post ih=>
  intro pre f h hf;simp only[Ct] at hf;obtain⟨f,rfl⟩:∃q,f=q+1:=⟨f-1,by omega⟩;have hlen:T.length=pre.length+(post.length+1):=by rw[h];simp
  have hg:gI (T.map B_) (pre.length:Int)=some (B_ x):=by rw[h,List.map_append,List.map_cons];have:=DI (pre.map B_) (post.map B_) (B_ x);rwa [List.length_map] at this
  have hi1:IntKind.wrap .i64 ((pre.length:Int)+1)=((pre.length+1:Nat):Int):=by rw[zP (by omega) (by omega)];omega
  simp only[C7.Bt,zM (show(pre.length:Int)<(T.length:Int) by omega),zF,hg,zD];by_cases hx:x.length≤2000
  ·rw[zN (show ¬((x.length:Int)>2000) by omega),zG,hi1]
   have:=ih (pre++[x]) f (by rw[h];simp) (by omega);rw[A8,Co] at this;rw[this];have:small (x::post)=small post:=by simp[small,hx]
   rw[this]
  ·rw[zM (show((x.length:Int)>2000) by omega),zF]
   have:small (x::post)=false:=by simp[small,hx]
   rw[this];rfl
theorem Uc(hok:Cg k s=some true)(hS:Ck s)(R:List Ay)(hR:R.length≤200):
 ∀(post pre:List Ay) (f:Nat) (T:TT),R=pre++post→post.length<f→SP s (6000*post.length) T→
 CW.l6 k f s R (pre.length:Int) [] T=some (match Cf s post with
  |none=>(((),false),[])
  |some X=>if small (X.foldl (A_ s) T)=true then(((),true),(X.foldl (A_ s) T).map B_) else(((),false),[])):=by
 intro post
 induction post with
 |nil=>
  intro pre f T h hf hT;obtain⟨f,rfl⟩:∃q,f=q+1:=⟨f-1,by omega⟩;rw[AZ] at h;subst h;have hl:=Ep s s.length;have:=hS.2.1;have KD:=hT.1;simp only[CW.l6,zN (show ¬((R.length:Int)<(R.length:Int)) by omega),zG,Cf,List.foldl_nil];exact Ub k s hn hk T (by omega) T [] k rfl (by omega)
 |cons r post ih=>
  intro pre f T h hf hT;simp only[Ct] at hf hT;obtain⟨f,rfl⟩:∃q,f=q+1:=⟨f-1,by omega⟩;have hlen:R.length=pre.length+(post.length+1):=by rw[h];simp
  have hg:gI R (pre.length:Int)=some r:=by rw[h];exact DI _ _ _
  have hi1:IntKind.wrap .i64 ((pre.length:Int)+1)=((pre.length+1:Nat):Int):=by rw[zP (by omega) (by omega)];omega
  obtain⟨b,e1,e2,e3,e4,e5⟩:=K8 k hk s hn r.1;have hb:b=true:=by
   rw[hok] at e1;simpa using e1.symm
  subst hb;have e4:DR k s r=some (true&&(A7 s r.1).isSome):=e4;simp only[CW.l6,zM (show(pre.length:Int)<(R.length:Int) by omega),zF,hg,zD,e4,Es,Cf];cases hr:A7 s r.1 with
  |none=>rfl
  |some X=>
   obtain⟨x1,x2⟩:=Fg hr;have x3:=JB hS.2.1 hr;have hT':SP s (6000*post.length+X.length) T:=hT.le (by omega);simp only[Option.isSome_some,Ah,zG,Uk k s hS.2.1 hn hk r.1 (by omega) hS.2.2.1 X x2 T (6000*post.length) hT',zD,hi1];have:=ih (pre++[r]) f (X.foldl (A_ s) T) (by rw[h];simp) (by omega) (SP.fold X T _ hT');rw[A8,Co] at this;rw[this];cases Cf s post with
   |none=>rfl
   |some Y=>simp only[List.foldl_append]
theorem SB(hS:Ck s)(nums:List Int)(hN:∀(a:Nat) (c:zC),s[a]?=some c→c.2.1≠7→gI nums (a:Int)=some (zI s a:Int))(R:List Ay)(hR:R.length≤200):
 ∀(post pre:List Ay) (f:Nat) (T:TT),R=pre++post→post.length<f→SP s (6000*post.length+100000000) T→
 C7.l8 k f s ((),()) R (R.length:Int) (pre.length:Int) () ((),(),()) (T.map B_) () nums=some (match Cf s post with
  |none=>(((),false),[])
  |some X=>if small (X.foldl (A_ s) T)=true then(((),true),(X.foldl (A_ s) T).map B_) else(((),false),[])):=by
 intro post
 induction post with
 |nil=>
  intro pre f T h hf hT;obtain⟨f,rfl⟩:∃q,f=q+1:=⟨f-1,by omega⟩;rw[AZ] at h;subst h;have hl:=Ep s s.length;have:=hS.2.1;have KD:=hT.1;simp only[C7.l8,zN (show ¬((R.length:Int)<(R.length:Int)) by omega),zG,Cf,List.foldl_nil,List.length_map];exact SA k s hn hk T (by omega) T [] k rfl (by omega)
 |cons r post ih=>
  intro pre f T h hf hT;simp only[Ct] at hf hT;obtain⟨f,rfl⟩:∃q,f=q+1:=⟨f-1,by omega⟩;have hlen:R.length=pre.length+(post.length+1):=by rw[h];simp
  have hg:gI R (pre.length:Int)=some r:=by rw[h];exact DI _ _ _
  have hi1:IntKind.wrap .i64 ((pre.length:Int)+1)=((pre.length+1:Nat):Int):=by rw[zP (by omega) (by omega)];omega
  obtain⟨c0,hc0,h7,hm0⟩:=IU hS
  have hw:=WS.JJ k s hS.2.1 hn hk nums (zI s s.length) (fun a ha hc=>by
   have hg:=Av ha
   exact⟨_,hN a _ hg (hc _ hg),F9 hg (hc _ hg)⟩) hS.2.2.1 c0 hc0 h7 hm0 r.1 (T.map B_) ⟨by rw[List.length_map];exact hT.1,fun j x hx=>by
    rw[List.getElem?_map] at hx;cases hj:T[j]? with
    |none=>rw[hj] at hx;cases hx
    |some y=>
     rw[hj] at hx;simp only[Option.map_some,zX] at hx;subst hx;have h1:=hT.2 j y hj;have h2:6020≤6000*(post.length+1)+100000000:=Nat.le_trans (Nat.le_of_ble_eq_true rfl:6020≤100000000) (Nat.le_add_left _ _);exact Nat.le_trans (Nat.add_le_add_left h2 _) h1⟩
  simp only[C7.l8,zM (show(pre.length:Int)<(R.length:Int) by omega),zF,hg,zD,Cf];cases hr:A7 s r.1 with
  |none=>
   obtain⟨acc',q⟩:=hw.2 (K7 hr);have q:Fw k s r ((),(),()) ((),()) () (T.map B_) () nums ((),(),())=_:=q;rw[q];rfl
  |some X=>
   obtain⟨x1,x2⟩:=Fg hr;have x3:=JB hS.2.1 hr;have q:=hw.1 X x1 x2;have q:Fw k s r ((),(),()) ((),()) () (T.map B_) () nums ((),(),())=_:=q;rw[Kq hN X T (K6 hr)] at q;have hT':SP s (6000*post.length+100000000+X.length) T:=hT.le (by omega);simp only[q,zD,Ah,zG,hi1];have:=ih (pre++[r]) f (X.foldl (A_ s) T) (by rw[h];simp) (by omega) (SP.fold X T _ hT');rw[A8,Co] at this;rw[this];cases Cf s post with
   |none=>rfl
   |some Y=>simp only[List.foldl_append]
theorem Lh(R:List Ay):
 ∃b,Cg k s=some b∧DU k s=some b∧(b=true→Ck s)∧
  CW k s R=some (if b=true∧R.length≤200 then F_ (shr s R) else(((),false),[]))∧
  C7 k s R=some (if b=true∧R.length≤200 then F_ (shr s R) else(((),false),[])):=by
 obtain⟨b,h1,h2,h3⟩:=Ho k (by omega) s hn;refine⟨b,h1,h2,fun h=>(h3 h).1,?_⟩;unfold CW C7;rw[h1,h2];simp only[zD];cases b with
 |false=>
  simp only[Bf,zF,zD,Bool.false_eq_true,false_and,if_false]
  trivial
 |true=>
  have hS:=(h3 rfl).1;simp only[Ah,zG,zD,true_and];by_cases hR:R.length≤200
  ·rw[zN (show ¬((R.length:Int)>200) by omega),zG,zG,if_pos hR]
   obtain⟨v1,v2⟩:=Gz k (by omega) s (by have:=hS.2.1;omega);have hl:(Bd 0 s).length=zI s s.length:=Gy s [] s rfl;have hle:=Ep s s.length;have Dx:=hS.2.1;obtain⟨nums,n1,n2⟩:=KS k s Dx hk;rw[v1,v2,n1];simp only[zD];rw[IK (by omega) (by omega),zF,zF,hl,Int.toNat_natCast]
   have hT:SP s (6000*R.length+100000000) (Dn s):=⟨by simp[Dn],fun j x hx=>by
    unfold Dn at hx;rw[List.getElem?_replicate] at hx;split at hx
    ·cases hx;simp;omega
    ·cases hx⟩
   have a1:=Uc k s hn hk h1 hS R hR R [] k (Dn s) rfl (by omega) (hT.le (by omega));have a2:=SB k s hn hk hS nums n2 R hR R [] k (Dn s) rfl (by omega) hT;have ee:List.replicate (zI s s.length) (([],()):zJ)=(Dn s).map B_:=by simp[Dn]
   have a1:CW.l6 k k s R 0 [] (List.replicate (zI s s.length) [])=_:=a1;rw[a1,ee];have a2:C7.l8 k k s ((),()) R (R.length:Int) 0 () ((),(),()) ((Dn s).map B_) () nums=_:=a2;rw[a2];unfold shr;cases Cf s R with
   |none=>exact⟨rfl,rfl⟩
   |some X=>
    simp only;by_cases hsm:small (X.foldl (A_ s) (Dn s))=true
    ·rw[if_pos hsm,if_pos hsm];exact⟨rfl,rfl⟩
    ·rw[if_neg hsm,if_neg hsm];exact⟨rfl,rfl⟩
  ·rw[zM (show((R.length:Int)>200) by omega),zF,zF,if_neg hR]
   exact⟨rfl,rfl⟩
end
section
variable(k:Nat)(s:List zC)(hs:s.length≤20)(hn:∀c,c∈s→c.1.size<k∧c.1.size<1000000000∧AB c.2.2.2.1)(hk:2000000≤k)
variable(V:List zB)(hV:V.length≤1048576)(L:Int)
end
abbrev HV(e:Ev):zO:=(e.rep,e.zA,e.v,())
def BP(L:Nat)(X:List Ev):List Ev:=X.filter fun e=>e.at_==L
theorem Ig(L:Nat)(X Y:List Ev):BP L (X++Y)=BP L X++BP L Y:=by simp[BP]
theorem Mm{L:Nat}{X:List Ev}{e:Ev}(h:e∈BP L X):e∈X∧e.at_=L:=by
 unfold BP at h;rw[List.mem_filter] at h;exact⟨h.1,by simpa using h.2⟩
theorem I_{s:List zC}{L:Nat}{c:zC}(hc:s[L]?=some c)(h7:c.2.1≠7):∀(X:List Ev) (T:TT) (x:List zO),EC s X→T[zI s L]?=some x→(X.foldl (A_ s) T)[zI s L]?=some (x++(BP L X).map HV)
 |[],T,x,_,h=>by simp[BP,h]
 |e::X,T,x,hl,h=>by
  rw[List.foldl_cons];obtain⟨ce,h1,h2⟩:=hl e (List.mem_cons_self ..);have hl':EC s X:=fun e' he'=>hl e' (List.mem_cons_of_mem _ he');have e1:BP L (e::X)=BP L [e]++BP L X:=Ig L [e] X;by_cases hat:e.at_=L
  ·have hs:(A_ s T e)[zI s L]?=some (x++[HV e]):=by
    unfold A_;rw[hat,h];simp only;rw[List.getElem?_set_self (List.getElem?_eq_some_iff.1 h).1]
   rw[I_ hc h7 X _ _ hl' hs,e1];have:BP L [e]=[e]:=by simp[BP,hat]
   rw[this];simp
  ·have hs:(A_ s T e)[zI s L]?=some x:=by
    unfold A_;split
    ·exact h
    ·rw[List.getElem?_set_ne (fun hh=>hat (G7 h1 hc h2 h7 hh))]
     exact h
   rw[I_ hc h7 X _ _ hl' hs,e1];have:BP L [e]=[]:=by simp[BP,hat]
   rw[this,List.nil_append]
theorem JD(s:List zC):∀(X:List Ev) (T:TT),(X.foldl (A_ s) T).length=T.length
 |[],T=>rfl
 |e::X,T=>by
  rw[List.foldl_cons,JD s X];unfold A_;split
  ·rfl
  ·simp
theorem K9{s:List zC}:∀(R:List Ay) (X:List Ev),Cf s R=some X→EC s X
 |[],X,h=>by
  simp only[Cf,zX] at h;subst h;exact fun e he=>by cases he
 |r::R,X,h=>by
  simp only[Cf] at h;split at h
  ·cases h
  ·rename_i Y hY
   split at h
   ·cases h
   ·rename_i Z hZ
    simp only[zX] at h;subst h;exact Jc (K6 hY) (K9 R Z hZ)
theorem K_{s:List zC}(hS:Ck s):∀(R:List Ay) (X:List Ev),Cf s R=some X→(∀e,e∈X→H6 s 0 s.length 0 e)∧X.length≤6000*R.length
 |[],X,h=>by
  simp only[Cf,zX] at h;subst h;exact⟨fun e he=>(by cases he),by simp⟩
 |r::R,X,h=>by
  simp only[Cf] at h;split at h
  ·cases h
  ·rename_i Y hY
   split at h
   ·cases h
   ·rename_i Z hZ
    simp only[zX] at h;subst h;obtain⟨a1,a2⟩:=K_ hS R Z hZ;have:=JB hS.2.1 hY;have:=(Fg hY).1;refine⟨fun e he=>(List.mem_append.1 he).elim (TK hS hY e) (a1 e),?_⟩;rw[A8,Ct];omega
theorem Ua{s:List zC}{R:List Ay}{T:TT}(h:shr s R=some T):∃X,Cf s R=some X∧T=X.foldl (A_ s) (Dn s)∧T.length=zI s s.length∧∀x,x∈T→x.length≤2000:=by
 unfold shr at h;split at h
 ·cases h
 ·rename_i X hX
  simp only at h;split at h
  ·rename_i hsm
   simp only[zX] at h;subst h;refine⟨X,hX,rfl,?_,fun x hx=> ?_⟩
   ·rw[JD];simp[Dn]
   ·have:=List.all_eq_true.1 hsm x hx
    simpa using this
  ·cases h
theorem Ih{L:Nat}{X:List Ev}(h:∀e,e∈X→e.at_≠L):BP L X=[]:=by
 unfold BP;rw[List.filter_eq_nil_iff];intro e he;simpa using h e he
def cur(T:Ai)(pos:List Nat)(j:Nat):List zO:=match T[j]?,pos[j]? with
 |some x,some p=>x.drop p
 |_,_=>[]
theorem TA(T:Ai)(pos:List Nat)(j:Nat):Bj T pos j=(cur T pos j).head?:=by
 unfold Bj cur;cases T[j]? with
 |none=>rfl
 |some x=>
  cases pos[j]? with
  |none=>rfl
  |some p=>simp only;rw[List.head?_drop]
abbrev JM(s:List zC)(a nx L:Nat):Prop:=a≤L∧L<nx∧∃c,s[L]?=some c∧c.2.1≠7
def Same(s:List zC)(T:Ai)(pos q:List Nat)(a nx:Nat):Prop:=∀j,(∀L,JM s a nx L→zI s L≠j)→cur T q j=cur T pos j
theorem Same.at{s:List zC}{T:Ai}{pos q:List Nat}{a nx:Nat}(h:Same s T pos q a nx){L:Nat}(hL:∃c,s[L]?=some c∧c.2.1≠7)(hout:L<a∨nx≤L):cur T q (zI s L)=cur T pos (zI s L):=by
 obtain⟨c,hc,h7⟩:=hL;refine h _ fun L' hL'=> ?_;obtain⟨h1,h2,c',hc',Fu⟩:=hL';intro hh;have:=G7 hc' hc Fu h7 hh;omega
theorem Same.trans{s:List zC}{T:Ai}{p q r:List Nat}{a nx:Nat}(h1:Same s T p q a nx)(h2:Same s T q r a nx):Same s T p r a nx:=fun j hj=>(h2 j hj).trans (h1 j hj)
theorem Same.sub{s:List zC}{T:Ai}{p q:List Nat}{a nx b mx:Nat}(h:Same s T p q b mx)(h1:a≤b)(h2:mx≤nx):Same s T p q a nx:=fun j hj=>h j fun L hL=>hj L ⟨by have:=hL.1;omega,by have:=hL.2.1;omega,hL.2.2⟩
theorem TH{s:List zC}{d:Nat}(hd:d≤6){nx:Nat}{rep zA deep:Int}:∀{m pl:Nat} {names:List ByteArray} {V:List zB} {X:List Ev} {W:List zB},BX (zY s d) s m pl names nx→jm (fun a V=>AL s (Ae s d a) (Aa s d a) a rep zA deep V) (Aa s d) m pl V=some (X,W)→∀e,e∈X→pl≤e.at_∧e.at_<nx:=by
 intro m
 induction m with
 |zero=>
  intro pl names V X W Ad he e hm;simp only[jm,zX,Prod.mk.injEq] at he;obtain⟨rfl,rfl⟩:=he;cases hm
 |succ m ih=>
  intro pl names V X W Ad he e hm;obtain⟨cp,mid,hcp,q2,q3,q4⟩:=Ad;have hmn:=CX (z_ d) _ _ _ _ q4;have hlt':=z_ _ _ _ q3;have hend:Aa s d pl=mid:=Dw d q3 d (Nat.le_refl _);simp only[jm] at he;obtain⟨x,y,U,g1,g2,rfl⟩:=DF he;rw[hend] at g1 g2;rcases List.mem_append.1 hm with hm|hm
  ·obtain⟨r1,r2,_⟩:=Ii hd q3 (fun rep zA deep V=>Gj d pl mid hd q3 rep zA deep V) rep zA deep V x U g1 e hm
   exact⟨r1,by omega⟩
  ·have:=ih q4 g2 e hm
   exact⟨by omega,this.2⟩
end Go.BA
end
